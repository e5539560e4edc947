/- Printed: the functions that FnExactWorks reaches,read by the evaluator,each with its contract. -/
import Derived.Test.YtnfogafklciihaaGreatTIns
import Derived.Test.YtnfogafklciihaaGreatProg
import Derived.KernelRfl
set_option linter.unusedVariables false
set_option linter.unusedSimpArgs false
set_option autoImplicit true
set_option relaxedAutoImplicit true
set_option maxRecDepth 1000000
set_option maxHeartbeats 8000000
namespace Go.Proofs.YtnfogafklciihaaGreat
open Go Go.T Go.Proofs
theorem Kr {p:Prop} (h:p:=by kernel_rfl):p:=h
theorem Ks {α:Type} {a b:α} (h:a=b:=by kernel_rfl):a=b:=h
theorem mix:Tryz.prog.follows .mixedOrders=true:=by kernel_rfl
theorem tyok:Zax Tryz.prog:=tyOk_of Kr
noncomputable def YI.l0 {β:Type} (k:Nat) (aF:LD) (K:Int->Option β) (L0:(Int×Int)->Option β) (v:Int×Int):Option β:=
 match v with
 |(aC,aH)=>bif(decide ((aH:Int)<(aF.length:Int))) then(atR aF aH [.s] λx8=>(bif(decide (((IntKind.wrap .i64 (aC-(x8.size:Int))):Int)<0)) then(K (-1)) else(L0 (IntKind.wrap .i64 (aC-(x8.size:Int)),IntKind.wrap .i64 (aH+1))))) else(K aC)
noncomputable def YI.m {β:Type} (k:Nat) (a0:LD) (a1:Int) (K:Int->Option β) (F:(LD->(Int×Int)->Option β)):Option β:=
 bif(decide (((IntKind.wrap .i64 (a1-(a0.length:Int))):Int)<0)) then(K (-1)) else(F a0 (IntKind.wrap .i64 (a1-(a0.length:Int)),0))
noncomputable def YI.g {β:Type} (k:Nat) (a0:LD) (a1:Int) (K:Int->Option β):Option β:=
 bif(decide (((IntKind.wrap .i64 (a1-(a0.length:Int))):Int)<0)) then(K (-1)) else(Za1 (YI.l0 k a0 K) k (IntKind.wrap .i64 (a1-(a0.length:Int)),0))
noncomputable def YI.t (k:Nat) (a0:LD) (a1:Int):=YI.g k a0 a1 (λz0=>some z0)
noncomputable def YI.e (k:Nat):Za0:=ent [.d .l,.d .n] [1] [.n] [3] false (YI.t k)
noncomputable def YI.p (k:Nat):Pro:=⟨Tryz.prog,[],hints [(5,kp [0,1,5])] false [],k⟩
theorem YI.l0_eq (k:Nat) (a0:LD) (a1:Int) (aF:LD):LpEq ((YI.p k).lf Tryz.f19 5 [1,1,1,0,1,0] [.d (.sl a0),.d (.int .i64 a1)] [1] [.n]) (YI.l0 k aF (λz0=>some z0)) (λ(aC,aH)=>mkSt 28 [(0,.d false (.sl aF)),(1,.d true (.int .i64 aC)),(5,.d true (.int .i64 aH))] []):=lf_eq λL0 v=>by obtain⟨aC,aH⟩:=v;kernel_rfl
theorem YI.ok (k:Nat):Zas Tryz.prog 19 (YI.e k):=ent_ok (YI.p k) mix tyok Tryz.func19 trivial Kr (λa0 a1=>Eq.trans Kr (congrArg (YI.m k a0 a1 (λz0=>some z0)) (funext λaF=>funext λv=>YI.l0_eq k a0 a1 aF k v) :))
noncomputable def YbS.g {β:Type} (k:Nat) (aB:Int) (aA:BA) (aD:LD) (a1:Int) (K:Int->Option β):Option β:=
 bif(decide (((IntKind.wrap .i64 (a1-(aA.size:Int))):Int)<0)) then(K (-1)) else(bd1 (YI.t k aD (IntKind.wrap .i64 (a1-(aA.size:Int)))) (λy9=>bif(decide ((y9:Int)<0)) then(K (-1)) else(K y9)))
noncomputable def YbS.t (k:Nat) (aB:Int) (aA:BA) (aD:LD) (a1:Int):=YbS.g k aB aA aD a1 (λz0=>some z0)
noncomputable def YbS.e (k:Nat):Za0:=ent [.agg [.n,.s,.l],.d .n] [1] [.n] [3] false (YbS.t k)
noncomputable def YbS.p (k:Nat):Pro:=⟨Tryz.prog,[(19,YI.e k)],hints [] false [],k⟩
theorem YbS.ok (k:Nat):Zas Tryz.prog 158 (YbS.e k):=ent_ok (YbS.p k) mix tyok Tryz.func158 (YI.ok k) Kr (λaB aA aD a1=>Ks)
noncomputable def YaG.l0 {β:Type} (k:Nat) (aF:LD) (K:Int->Option β) (L0:(Int×Int)->Option β) (v:Int×Int):Option β:=
 match v with
 |(aC,aH)=>bif(decide ((aH:Int)<(aF.length:Int))) then(atR aF aH [.n,.s,.l] λx15 x18 x21=>(bd1 (YbS.t k x15 x18 x21 aC) (λy22=>bif(decide ((y22:Int)<0)) then(K (-1)) else(L0 (y22,IntKind.wrap .i64 (aH+1)))))) else(K aC)
noncomputable def YaG.m {β:Type} (k:Nat) (a0:LD) (a1:Int) (K:Int->Option β) (F:(LD->(Int×Int)->Option β)):Option β:=
 bif(decide (((IntKind.wrap .i64 (a1-(a0.length:Int))):Int)<0)) then(K (-1)) else(F a0 (IntKind.wrap .i64 (a1-(a0.length:Int)),0))
noncomputable def YaG.g {β:Type} (k:Nat) (a0:LD) (a1:Int) (K:Int->Option β):Option β:=
 bif(decide (((IntKind.wrap .i64 (a1-(a0.length:Int))):Int)<0)) then(K (-1)) else(Za1 (YaG.l0 k a0 K) k (IntKind.wrap .i64 (a1-(a0.length:Int)),0))
noncomputable def YaG.t (k:Nat) (a0:LD) (a1:Int):=YaG.g k a0 a1 (λz0=>some z0)
noncomputable def YaG.e (k:Nat):Za0:=ent [.d .l,.d .n] [1] [.n] [3] false (YaG.t k)
noncomputable def YaG.p (k:Nat):Pro:=⟨Tryz.prog,[(158,YbS.e k)],hints [(5,kp [0,1,5])] false [],k⟩
theorem YaG.l0_eq (k:Nat) (a0:LD) (a1:Int) (aF:LD):LpEq ((YaG.p k).lf Tryz.f124 5 [1,1,1,0,1,0] [.d (.sl a0),.d (.int .i64 a1)] [1] [.n]) (YaG.l0 k aF (λz0=>some z0)) (λ(aC,aH)=>mkSt 27 [(0,.d false (.sl aF)),(1,.d true (.int .i64 aC)),(5,.d true (.int .i64 aH))] []):=lf_eq λL0 v=>by obtain⟨aC,aH⟩:=v;kernel_rfl
theorem YaG.ok (k:Nat):Zas Tryz.prog 124 (YaG.e k):=ent_ok (YaG.p k) mix tyok Tryz.func124 (YbS.ok k) Kr (λa0 a1=>Eq.trans Kr (congrArg (YaG.m k a0 a1 (λz0=>some z0)) (funext λaF=>funext λv=>YaG.l0_eq k a0 a1 aF k v) :))
noncomputable def YbA.g {β:Type} (k:Nat) (aB:BA) (aA a1:Int) (K:Int->Option β):Option β:=
 bif(decide (((IntKind.wrap .i64 (a1-(aB.size:Int))):Int)<0)) then(K (-1)) else(K (IntKind.wrap .i64 (a1-(aB.size:Int))))
noncomputable def YbA.t (k:Nat) (aB:BA) (aA a1:Int):=YbA.g k aB aA a1 (λz0=>some z0)
noncomputable def YbA.e (k:Nat):Za0:=ent [.agg [.s,.n],.d .n] [1] [.n] [3] false (YbA.t k)
noncomputable def YbA.p (k:Nat):Pro:=⟨Tryz.prog,[],hints [] false [],k⟩
theorem YbA.ok (k:Nat):Zas Tryz.prog 159 (YbA.e k):=ent_ok (YbA.p k) mix tyok Tryz.func159 trivial Kr (λaB aA a1=>Ks)
noncomputable def Yar.l0 {β:Type} (k:Nat) (aF:LD) (K:Int->Option β) (L0:(Int×Int)->Option β) (v:Int×Int):Option β:=
 match v with
 |(aC,aH)=>bif(decide ((aH:Int)<(aF.length:Int))) then(atR aF aH [.s,.n] λx12 x15=>(bd1 (YbA.t k x12 x15 aC) (λy16=>bif(decide ((y16:Int)<0)) then(K (-1)) else(L0 (y16,IntKind.wrap .i64 (aH+1)))))) else(K aC)
noncomputable def Yar.m {β:Type} (k:Nat) (a0:LD) (a1:Int) (K:Int->Option β) (F:(LD->(Int×Int)->Option β)):Option β:=
 bif(decide (((IntKind.wrap .i64 (a1-(a0.length:Int))):Int)<0)) then(K (-1)) else(F a0 (IntKind.wrap .i64 (a1-(a0.length:Int)),0))
noncomputable def Yar.g {β:Type} (k:Nat) (a0:LD) (a1:Int) (K:Int->Option β):Option β:=
 bif(decide (((IntKind.wrap .i64 (a1-(a0.length:Int))):Int)<0)) then(K (-1)) else(Za1 (Yar.l0 k a0 K) k (IntKind.wrap .i64 (a1-(a0.length:Int)),0))
noncomputable def Yar.t (k:Nat) (a0:LD) (a1:Int):=Yar.g k a0 a1 (λz0=>some z0)
noncomputable def Yar.e (k:Nat):Za0:=ent [.d .l,.d .n] [1] [.n] [3] false (Yar.t k)
noncomputable def Yar.p (k:Nat):Pro:=⟨Tryz.prog,[(159,YbA.e k)],hints [(5,kp [0,1,5])] false [],k⟩
theorem Yar.l0_eq (k:Nat) (a0:LD) (a1:Int) (aF:LD):LpEq ((Yar.p k).lf Tryz.f125 5 [1,1,1,0,1,0] [.d (.sl a0),.d (.int .i64 a1)] [1] [.n]) (Yar.l0 k aF (λz0=>some z0)) (λ(aC,aH)=>mkSt 27 [(0,.d false (.sl aF)),(1,.d true (.int .i64 aC)),(5,.d true (.int .i64 aH))] []):=lf_eq λL0 v=>by obtain⟨aC,aH⟩:=v;kernel_rfl
theorem Yar.ok (k:Nat):Zas Tryz.prog 125 (Yar.e k):=ent_ok (Yar.p k) mix tyok Tryz.func125 (YbA.ok k) Kr (λa0 a1=>Eq.trans Kr (congrArg (Yar.m k a0 a1 (λz0=>some z0)) (funext λaF=>funext λv=>Yar.l0_eq k a0 a1 aF k v) :))
noncomputable def Yb3.g {β:Type} (k:Nat) (aB:Int) (aA aD aE:LD) (a1:Int) (K:Int->Option β):Option β:=
 bd1 (YaG.t k aA a1) (λy23=>bif(decide ((y23:Int)<0)) then(K (-1)) else(bd1 (YI.t k aD y23) (λy24=>bif(decide ((y24:Int)<0)) then(K (-1)) else(bd1 (Yar.t k aE y24) (λy25=>bif(decide ((y25:Int)<0)) then(K (-1)) else(K y25))))))
noncomputable def Yb3.t (k:Nat) (aB:Int) (aA aD aE:LD) (a1:Int):=Yb3.g k aB aA aD aE a1 (λz0=>some z0)
noncomputable def Yb3.e (k:Nat):Za0:=ent [.agg [.n,.l,.l,.l],.d .n] [1] [.n] [3] false (Yb3.t k)
noncomputable def Yb3.p (k:Nat):Pro:=⟨Tryz.prog,[(124,YaG.e k),(19,YI.e k),(125,Yar.e k)],hints [] false [],k⟩
theorem Yb3.ok (k:Nat):Zas Tryz.prog 91 (Yb3.e k):=ent_ok (Yb3.p k) mix tyok Tryz.func91 ⟨YaG.ok k,YI.ok k,Yar.ok k⟩ Kr (λaB aA aD aE a1=>Ks)
noncomputable def YF.l0 {β:Type} (k:Nat) (r_laws_szValueS:LD->Int->(Int->Option β)->Option β) (r_laws_szValue:Int->BA->Int->LD->LD->Int->(Int->Option β)->Option β) (aF:LD) (K:Int->Option β) (L0:(Int×Int)->Option β) (v:Int×Int):Option β:=
 match v with
 |(aC,aH)=>bif(decide ((aH:Int)<(aF.length:Int))) then(atR aF aH [.n,.s,.n,.l,.l] λx21 x24 x27 x30 x33=>(r_laws_szValue x21 x24 x27 x30 x33 aC (λy34=>bif(decide ((y34:Int)<0)) then(K (-1)) else(L0 (y34,IntKind.wrap .i64 (aH+1)))))) else(K aC)
noncomputable def YF.m {β:Type} (k:Nat) (r_laws_szValueS:LD->Int->(Int->Option β)->Option β) (r_laws_szValue:Int->BA->Int->LD->LD->Int->(Int->Option β)->Option β) (a0:LD) (a1:Int) (K:Int->Option β) (F:(LD->(Int×Int)->Option β)):Option β:=
 bif(decide (((IntKind.wrap .i64 (a1-(a0.length:Int))):Int)<0)) then(K (-1)) else(F a0 (IntKind.wrap .i64 (a1-(a0.length:Int)),0))
noncomputable def YF.body {β:Type} (k:Nat) (r_laws_szValueS:LD->Int->(Int->Option β)->Option β) (r_laws_szValue:Int->BA->Int->LD->LD->Int->(Int->Option β)->Option β) (a0:LD) (a1:Int) (K:Int->Option β):Option β:=
 bif(decide (((IntKind.wrap .i64 (a1-(a0.length:Int))):Int)<0)) then(K (-1)) else(Za1 (YF.l0 k r_laws_szValueS r_laws_szValue a0 K) k (IntKind.wrap .i64 (a1-(a0.length:Int)),0))
noncomputable def YW.body {β:Type} (k:Nat) (r_laws_szValueS:LD->Int->(Int->Option β)->Option β) (r_laws_szValue:Int->BA->Int->LD->LD->Int->(Int->Option β)->Option β) (aB:Int) (aA:BA) (aD:Int) (aE aG:LD) (a1:Int) (K:Int->Option β):Option β:=
 bif(decide (((IntKind.wrap .i64 (a1-(aA.size:Int))):Int)<0)) then(K (-1)) else(bd1 (YI.t k aE (IntKind.wrap .i64 (a1-(aA.size:Int)))) (λy1=>bif(decide ((y1:Int)<0)) then(K (-1)) else(r_laws_szValueS aG y1 (λy35=>bif(decide ((y35:Int)<0)) then(K (-1)) else(K y35)))))
noncomputable def YF.w {β:Type} (r:LD->Int->Option (Int)) (a0:LD) (a1:Int) (K:Int->Option β):Option β:=bd1 (r a0 a1) K
noncomputable def YW.w {β:Type} (r:Int->BA->Int->LD->LD->Int->Option (Int)) (aB:Int) (aA:BA) (aD:Int) (aE aG:LD) (a1:Int) (K:Int->Option β):Option β:=bd1 (r aB aA aD aE aG a1) K
noncomputable def YF.all:Nat->(LD->Int->Option (Int))×(Int->BA->Int->LD->LD->Int->Option (Int))
 |0=>(λ_ _=>none,λ_ _ _ _ _ _=>none)
 |k+1=>(λr=>(λa0 a1=>YF.body k (YF.w r.1) (YW.w r.2) a0 a1 (λz0=>some z0),λaB aA aD aE aG a1=>YW.body k (YF.w r.1) (YW.w r.2) aB aA aD aE aG a1 (λz0=>some z0))) (YF.all k)
noncomputable def YF.t (k:Nat) (a0:LD) (a1:Int):Option (Int):=(YF.all k).1 a0 a1
noncomputable def YW.t (k:Nat) (aB:Int) (aA:BA) (aD:Int) (aE aG:LD) (a1:Int):Option (Int):=(YF.all k).2 aB aA aD aE aG a1
noncomputable def YF.f {β:Type} (k:Nat) (a0:LD) (a1:Int) (K:Int->Option β):Option β:=YF.w (YF.t k) a0 a1 K
noncomputable def YW.f {β:Type} (k:Nat) (aB:Int) (aA:BA) (aD:Int) (aE aG:LD) (a1:Int) (K:Int->Option β):Option β:=YW.w (YW.t k) aB aA aD aE aG a1 K
noncomputable def YF.g {β:Type} (k:Nat) (a0:LD) (a1:Int) (K:Int->Option β):Option β:=YF.body k (YF.f k) (YW.f k) a0 a1 K
theorem YF.t_succ (k:Nat) (a0:LD) (a1:Int):YF.t (k+1) a0 a1=YF.g k a0 a1 (λz0=>some z0):=rfl
noncomputable def YW.g {β:Type} (k:Nat) (aB:Int) (aA:BA) (aD:Int) (aE aG:LD) (a1:Int) (K:Int->Option β):Option β:=YW.body k (YF.f k) (YW.f k) aB aA aD aE aG a1 K
theorem YW.t_succ (k:Nat) (aB:Int) (aA:BA) (aD:Int) (aE aG:LD) (a1:Int):YW.t (k+1) aB aA aD aE aG a1=YW.g k aB aA aD aE aG a1 (λz0=>some z0):=rfl
noncomputable def YF.e (k:Nat):Za0:=ent [.d .l,.d .n] [1] [.n] [3] false (YF.t k)
noncomputable def YW.e (k:Nat):Za0:=ent [.agg [.n,.s,.n,.l,.l],.d .n] [1] [.n] [3] false (YW.t k)
noncomputable def YF.p (k:Nat):Pro:=⟨Tryz.prog,[(92,YW.e k)],hints [(5,kp [0,1,5])] false [],k⟩
theorem YF.l0_eq (k:Nat) (a0:LD) (a1:Int) (aF:LD):LpEq ((YF.p k).lf Tryz.f126 5 [1,1,1,0,1,0] [.d (.sl a0),.d (.int .i64 a1)] [1] [.n]) (YF.l0 k (YF.f k) (YW.f k) aF (λz0=>some z0)) (λ(aC,aH)=>mkSt 27 [(0,.d false (.sl aF)),(1,.d true (.int .i64 aC)),(5,.d true (.int .i64 aH))] []):=lf_eq λL0 v=>by obtain⟨aC,aH⟩:=v;kernel_rfl
noncomputable def YW.p (k:Nat):Pro:=⟨Tryz.prog,[(19,YI.e k),(126,YF.e k)],hints [] false [],k⟩
theorem YF.oks (k:Nat):Zas Tryz.prog 126 (YF.e k)/\Zas Tryz.prog 92 (YW.e k):=by
 induction k with
 |zero=>exact⟨ent_zero Tryz.func126 Kr (λ_ _=>rfl),
  ent_zero Tryz.func92 Kr (λ_ _ _ _ _ _=>rfl)⟩
 |succ k ih=>exact⟨ent_ok (YF.p k) mix tyok Tryz.func126 ih.2 Kr (λa0 a1=>Eq.trans Kr ((congrArg (YF.m k (YF.f k) (YW.f k) a0 a1 (λz0=>some z0)) (funext λaF=>funext λv=>YF.l0_eq k a0 a1 aF k v)).trans (YF.t_succ k a0 a1).symm)),
  ent_ok (YW.p k) mix tyok Tryz.func92 ⟨YI.ok k,ih.1⟩ Kr (λaB aA aD aE aG a1=>Ks)⟩
theorem YW.ok (k:Nat):Zas Tryz.prog 92 (YW.e k):=(YF.oks k).2
noncomputable def Ycp.g {β:Type} (k:Nat) (aB:Int) (aA:LD) (aD:Int) (aE:BA) (aG:Int) (aJ aK:LD) (a1:Int) (K:Int->Option β):Option β:=
 bd1 (YI.t k aA a1) (λy1=>bif(decide ((y1:Int)<0)) then(K (-1)) else(YW.f k aD aE aG aJ aK y1 (λy2=>bif(decide ((y2:Int)<0)) then(K (-1)) else(K y2))))
noncomputable def Ycp.t (k:Nat) (aB:Int) (aA:LD) (aD:Int) (aE:BA) (aG:Int) (aJ aK:LD) (a1:Int):=Ycp.g k aB aA aD aE aG aJ aK a1 (λz0=>some z0)
noncomputable def Ycp.e (k:Nat):Za0:=ent [.agg [.n,.l,.n,.s,.n,.l,.l],.d .n] [1] [.n] [3] false (Ycp.t k)
noncomputable def Ycp.p (k:Nat):Pro:=⟨Tryz.prog,[(19,YI.e k),(92,YW.e k)],hints [] false [],k⟩
theorem Ycp.ok (k:Nat):Zas Tryz.prog 185 (Ycp.e k):=ent_ok (Ycp.p k) mix tyok Tryz.func185 ⟨YI.ok k,YW.ok k⟩ Kr (λaB aA aD aE aG aJ aK a1=>Ks)
noncomputable def Ybj.l0 {β:Type} (k:Nat) (aF:LD) (K:Int->Option β) (L0:(Int×Int)->Option β) (v:Int×Int):Option β:=
 match v with
 |(aC,aH)=>bif(decide ((aH:Int)<(aF.length:Int))) then(atR aF aH [.n,.l,.n,.s,.n,.l,.l] λx27 x30 x33 x36 x39 x42 x45=>(bd1 (Ycp.t k x27 x30 x33 x36 x39 x42 x45 aC) (λy46=>bif(decide ((y46:Int)<0)) then(K (-1)) else(L0 (y46,IntKind.wrap .i64 (aH+1)))))) else(K aC)
noncomputable def Ybj.m {β:Type} (k:Nat) (a0:LD) (a1:Int) (K:Int->Option β) (F:(LD->(Int×Int)->Option β)):Option β:=
 bif(decide (((IntKind.wrap .i64 (a1-(a0.length:Int))):Int)<0)) then(K (-1)) else(F a0 (IntKind.wrap .i64 (a1-(a0.length:Int)),0))
noncomputable def Ybj.g {β:Type} (k:Nat) (a0:LD) (a1:Int) (K:Int->Option β):Option β:=
 bif(decide (((IntKind.wrap .i64 (a1-(a0.length:Int))):Int)<0)) then(K (-1)) else(Za1 (Ybj.l0 k a0 K) k (IntKind.wrap .i64 (a1-(a0.length:Int)),0))
noncomputable def Ybj.t (k:Nat) (a0:LD) (a1:Int):=Ybj.g k a0 a1 (λz0=>some z0)
noncomputable def Ybj.e (k:Nat):Za0:=ent [.d .l,.d .n] [1] [.n] [3] false (Ybj.t k)
noncomputable def Ybj.p (k:Nat):Pro:=⟨Tryz.prog,[(185,Ycp.e k)],hints [(5,kp [0,1,5])] false [],k⟩
theorem Ybj.l0_eq (k:Nat) (a0:LD) (a1:Int) (aF:LD):LpEq ((Ybj.p k).lf Tryz.f160 5 [1,1,1,0,1,0] [.d (.sl a0),.d (.int .i64 a1)] [1] [.n]) (Ybj.l0 k aF (λz0=>some z0)) (λ(aC,aH)=>mkSt 27 [(0,.d false (.sl aF)),(1,.d true (.int .i64 aC)),(5,.d true (.int .i64 aH))] []):=lf_eq λL0 v=>by obtain⟨aC,aH⟩:=v;kernel_rfl
theorem Ybj.ok (k:Nat):Zas Tryz.prog 160 (Ybj.e k):=ent_ok (Ybj.p k) mix tyok Tryz.func160 (Ycp.ok k) Kr (λa0 a1=>Eq.trans Kr (congrArg (Ybj.m k a0 a1 (λz0=>some z0)) (funext λaF=>funext λv=>Ybj.l0_eq k a0 a1 aF k v) :))
noncomputable def YbU.g {β:Type} (k:Nat) (aB:BA) (aA:LD) (a1:Int) (K:Int->Option β):Option β:=
 bif(decide (((IntKind.wrap .i64 (a1-(aB.size:Int))):Int)<0)) then(K (-1)) else(bd1 (Ybj.t k aA (IntKind.wrap .i64 (a1-(aB.size:Int)))) (λy47=>bif(decide ((y47:Int)<0)) then(K (-1)) else(K y47)))
noncomputable def YbU.t (k:Nat) (aB:BA) (aA:LD) (a1:Int):=YbU.g k aB aA a1 (λz0=>some z0)
noncomputable def YbU.e (k:Nat):Za0:=ent [.agg [.s,.l],.d .n] [1] [.n] [3] false (YbU.t k)
noncomputable def YbU.p (k:Nat):Pro:=⟨Tryz.prog,[(160,Ybj.e k)],hints [] false [],k⟩
theorem YbU.ok (k:Nat):Zas Tryz.prog 127 (YbU.e k):=ent_ok (YbU.p k) mix tyok Tryz.func127 (Ybj.ok k) Kr (λaB aA a1=>Ks)
noncomputable def YaI.l0 {β:Type} (k:Nat) (aF:LD) (K:Int->Option β) (L0:(Int×Int)->Option β) (v:Int×Int):Option β:=
 match v with
 |(aC,aH)=>bif(decide ((aH:Int)<(aF.length:Int))) then(atR aF aH [.s,.l] λx52 x55=>(bd1 (YbU.t k x52 x55 aC) (λy56=>bif(decide ((y56:Int)<0)) then(K (-1)) else(L0 (y56,IntKind.wrap .i64 (aH+1)))))) else(K aC)
noncomputable def YaI.m {β:Type} (k:Nat) (a0:LD) (a1:Int) (K:Int->Option β) (F:(LD->(Int×Int)->Option β)):Option β:=
 bif(decide (((IntKind.wrap .i64 (a1-(a0.length:Int))):Int)<0)) then(K (-1)) else(F a0 (IntKind.wrap .i64 (a1-(a0.length:Int)),0))
noncomputable def YaI.g {β:Type} (k:Nat) (a0:LD) (a1:Int) (K:Int->Option β):Option β:=
 bif(decide (((IntKind.wrap .i64 (a1-(a0.length:Int))):Int)<0)) then(K (-1)) else(Za1 (YaI.l0 k a0 K) k (IntKind.wrap .i64 (a1-(a0.length:Int)),0))
noncomputable def YaI.t (k:Nat) (a0:LD) (a1:Int):=YaI.g k a0 a1 (λz0=>some z0)
noncomputable def YaI.e (k:Nat):Za0:=ent [.d .l,.d .n] [1] [.n] [3] false (YaI.t k)
noncomputable def YaI.p (k:Nat):Pro:=⟨Tryz.prog,[(127,YbU.e k)],hints [(5,kp [0,1,5])] false [],k⟩
theorem YaI.l0_eq (k:Nat) (a0:LD) (a1:Int) (aF:LD):LpEq ((YaI.p k).lf Tryz.f93 5 [1,1,1,0,1,0] [.d (.sl a0),.d (.int .i64 a1)] [1] [.n]) (YaI.l0 k aF (λz0=>some z0)) (λ(aC,aH)=>mkSt 27 [(0,.d false (.sl aF)),(1,.d true (.int .i64 aC)),(5,.d true (.int .i64 aH))] []):=lf_eq λL0 v=>by obtain⟨aC,aH⟩:=v;kernel_rfl
theorem YaI.ok (k:Nat):Zas Tryz.prog 93 (YaI.e k):=ent_ok (YaI.p k) mix tyok Tryz.func93 (YbU.ok k) Kr (λa0 a1=>Eq.trans Kr (congrArg (YaI.m k a0 a1 (λz0=>some z0)) (funext λaF=>funext λv=>YaI.l0_eq k a0 a1 aF k v) :))
noncomputable def Yca.g {β:Type} (k:Nat) (aB:Int) (aA:BA) (aD:Int) (aE aG aJ:LD) (aK:Int) (aY:BA) (bE:Int) (bA bB bD:LD) (bF:Bool) (a1:Int) (K:Int->Option β):Option β:=
 bif(decide (((IntKind.wrap .i64 (a1-(aA.size:Int))):Int)<0)) then(K (-1)) else(bd1 (Yb3.t k aD aE aG aJ (IntKind.wrap .i64 (a1-(aA.size:Int)))) (λy26=>bif(decide ((y26:Int)<0)) then(K (-1)) else(YW.f k aK aY bE bA bB y26 (λy36=>bif(decide ((y36:Int)<0)) then(K (-1)) else(bd1 (YaI.t k bD y36) (λy57=>bif(decide ((y57:Int)<0)) then(K (-1)) else(K y57)))))))
noncomputable def Yca.t (k:Nat) (aB:Int) (aA:BA) (aD:Int) (aE aG aJ:LD) (aK:Int) (aY:BA) (bE:Int) (bA bB bD:LD) (bF:Bool) (a1:Int):=Yca.g k aB aA aD aE aG aJ aK aY bE bA bB bD bF a1 (λz0=>some z0)
noncomputable def Yca.e (k:Nat):Za0:=ent [.agg [.n,.s,.n,.l,.l,.l,.n,.s,.n,.l,.l,.l,.b],.d .n] [1] [.n] [3] false (Yca.t k)
noncomputable def Yca.p (k:Nat):Pro:=⟨Tryz.prog,[(91,Yb3.e k),(92,YW.e k),(93,YaI.e k)],hints [] false [],k⟩
theorem Yca.ok (k:Nat):Zas Tryz.prog 51 (Yca.e k):=ent_ok (Yca.p k) mix tyok Tryz.func51 ⟨Yb3.ok k,YW.ok k,YaI.ok k⟩ Kr (λaB aA aD aE aG aJ aK aY bE bA bB bD bF a1=>Ks)
noncomputable def Ya0.l0 {β:Type} (k:Nat) (aF:LD) (K:Int->Option β) (L0:(Int×Int)->Option β) (v:Int×Int):Option β:=
 match v with
 |(aC,aH)=>bif(decide ((aH:Int)<(aF.length:Int))) then(atR aF aH [.n,.s,.n,.l,.l,.l,.n,.s,.n,.l,.l,.l,.b] λx62 x65 x68 x71 x74 x77 x80 x83 x86 x89 x92 x95 x98=>(bd1 (Yca.t k x62 x65 x68 x71 x74 x77 x80 x83 x86 x89 x92 x95 x98 aC) (λy99=>bif(decide ((y99:Int)<0)) then(K (-1)) else(L0 (y99,IntKind.wrap .i64 (aH+1)))))) else(K aC)
noncomputable def Ya0.m {β:Type} (k:Nat) (a0:LD) (a1:Int) (K:Int->Option β) (F:(LD->(Int×Int)->Option β)):Option β:=
 bif(decide (((IntKind.wrap .i64 (a1-(a0.length:Int))):Int)<0)) then(K (-1)) else(F a0 (IntKind.wrap .i64 (a1-(a0.length:Int)),0))
noncomputable def Ya0.g {β:Type} (k:Nat) (a0:LD) (a1:Int) (K:Int->Option β):Option β:=
 bif(decide (((IntKind.wrap .i64 (a1-(a0.length:Int))):Int)<0)) then(K (-1)) else(Za1 (Ya0.l0 k a0 K) k (IntKind.wrap .i64 (a1-(a0.length:Int)),0))
noncomputable def Ya0.t (k:Nat) (a0:LD) (a1:Int):=Ya0.g k a0 a1 (λz0=>some z0)
noncomputable def Ya0.e (k:Nat):Za0:=ent [.d .l,.d .n] [1] [.n] [3] false (Ya0.t k)
noncomputable def Ya0.p (k:Nat):Pro:=⟨Tryz.prog,[(51,Yca.e k)],hints [(5,kp [0,1,5])] false [],k⟩
theorem Ya0.l0_eq (k:Nat) (a0:LD) (a1:Int) (aF:LD):LpEq ((Ya0.p k).lf Tryz.f16 5 [1,1,1,0,1,0] [.d (.sl a0),.d (.int .i64 a1)] [1] [.n]) (Ya0.l0 k aF (λz0=>some z0)) (λ(aC,aH)=>mkSt 27 [(0,.d false (.sl aF)),(1,.d true (.int .i64 aC)),(5,.d true (.int .i64 aH))] []):=lf_eq λL0 v=>by obtain⟨aC,aH⟩:=v;kernel_rfl
theorem Ya0.ok (k:Nat):Zas Tryz.prog 16 (Ya0.e k):=ent_ok (Ya0.p k) mix tyok Tryz.func16 (Yca.ok k) Kr (λa0 a1=>Eq.trans Kr (congrArg (Ya0.m k a0 a1 (λz0=>some z0)) (funext λaF=>funext λv=>Ya0.l0_eq k a0 a1 aF k v) :))
noncomputable def YbB.g {β:Type} (k:Nat) (aB aA:BA) (a1:Int) (K:Int->Option β):Option β:=
 bif(decide (((IntKind.wrap .i64 (a1-(aB.size:Int))):Int)<0)) then(K (-1)) else(let J0:=(IntKind.wrap .i64 ((IntKind.wrap .i64 (a1-(aB.size:Int)))-(aA.size:Int)));bif(decide ((J0:Int)<0)) then(K (-1)) else(K J0))
noncomputable def YbB.t (k:Nat) (aB aA:BA) (a1:Int):=YbB.g k aB aA a1 (λz0=>some z0)
noncomputable def YbB.e (k:Nat):Za0:=ent [.agg [.s,.s],.d .n] [1] [.n] [3] false (YbB.t k)
noncomputable def YbB.p (k:Nat):Pro:=⟨Tryz.prog,[],hints [] false [],k⟩
theorem YbB.ok (k:Nat):Zas Tryz.prog 161 (YbB.e k):=ent_ok (YbB.p k) mix tyok Tryz.func161 trivial Kr (λaB aA a1=>Ks)
noncomputable def Yas.l0 {β:Type} (k:Nat) (aF:LD) (K:Int->Option β) (L0:(Int×Int)->Option β) (v:Int×Int):Option β:=
 match v with
 |(aC,aH)=>bif(decide ((aH:Int)<(aF.length:Int))) then(atR aF aH [.s,.s] λx12 x15=>(bd1 (YbB.t k x12 x15 aC) (λy16=>bif(decide ((y16:Int)<0)) then(K (-1)) else(L0 (y16,IntKind.wrap .i64 (aH+1)))))) else(K aC)
noncomputable def Yas.m {β:Type} (k:Nat) (a0:LD) (a1:Int) (K:Int->Option β) (F:(LD->(Int×Int)->Option β)):Option β:=
 bif(decide (((IntKind.wrap .i64 (a1-(a0.length:Int))):Int)<0)) then(K (-1)) else(F a0 (IntKind.wrap .i64 (a1-(a0.length:Int)),0))
noncomputable def Yas.g {β:Type} (k:Nat) (a0:LD) (a1:Int) (K:Int->Option β):Option β:=
 bif(decide (((IntKind.wrap .i64 (a1-(a0.length:Int))):Int)<0)) then(K (-1)) else(Za1 (Yas.l0 k a0 K) k (IntKind.wrap .i64 (a1-(a0.length:Int)),0))
noncomputable def Yas.t (k:Nat) (a0:LD) (a1:Int):=Yas.g k a0 a1 (λz0=>some z0)
noncomputable def Yas.e (k:Nat):Za0:=ent [.d .l,.d .n] [1] [.n] [3] false (Yas.t k)
noncomputable def Yas.p (k:Nat):Pro:=⟨Tryz.prog,[(161,YbB.e k)],hints [(5,kp [0,1,5])] false [],k⟩
theorem Yas.l0_eq (k:Nat) (a0:LD) (a1:Int) (aF:LD):LpEq ((Yas.p k).lf Tryz.f128 5 [1,1,1,0,1,0] [.d (.sl a0),.d (.int .i64 a1)] [1] [.n]) (Yas.l0 k aF (λz0=>some z0)) (λ(aC,aH)=>mkSt 27 [(0,.d false (.sl aF)),(1,.d true (.int .i64 aC)),(5,.d true (.int .i64 aH))] []):=lf_eq λL0 v=>by obtain⟨aC,aH⟩:=v;kernel_rfl
theorem Yas.ok (k:Nat):Zas Tryz.prog 128 (Yas.e k):=ent_ok (Yas.p k) mix tyok Tryz.func128 (YbB.ok k) Kr (λa0 a1=>Eq.trans Kr (congrArg (Yas.m k a0 a1 (λz0=>some z0)) (funext λaF=>funext λv=>Yas.l0_eq k a0 a1 aF k v) :))
noncomputable def Ybv.g {β:Type} (k:Nat) (aB:BA) (aA aD:LD) (aE a1:Int) (K:Int->Option β):Option β:=
 bif(decide (((IntKind.wrap .i64 (a1-(aB.size:Int))):Int)<0)) then(K (-1)) else(bd1 (Yas.t k aA (IntKind.wrap .i64 (a1-(aB.size:Int)))) (λy17=>bif(decide ((y17:Int)<0)) then(K (-1)) else(bd1 (YI.t k aD y17) (λy18=>bif(decide ((y18:Int)<0)) then(K (-1)) else(K y18)))))
noncomputable def Ybv.t (k:Nat) (aB:BA) (aA aD:LD) (aE a1:Int):=Ybv.g k aB aA aD aE a1 (λz0=>some z0)
noncomputable def Ybv.e (k:Nat):Za0:=ent [.agg [.s,.l,.l,.n],.d .n] [1] [.n] [3] false (Ybv.t k)
noncomputable def Ybv.p (k:Nat):Pro:=⟨Tryz.prog,[(128,Yas.e k),(19,YI.e k)],hints [] false [],k⟩
theorem Ybv.ok (k:Nat):Zas Tryz.prog 94 (Ybv.e k):=ent_ok (Ybv.p k) mix tyok Tryz.func94 ⟨Yas.ok k,YI.ok k⟩ Kr (λaB aA aD aE a1=>Ks)
noncomputable def YbT.g {β:Type} (k:Nat) (aB:BA) (aA aD:LD) (aE aG aJ a1:Int) (K:Int->Option β):Option β:=
 bd1 (Ybv.t k aB aA aD aE a1) (λy19=>bif(decide ((y19:Int)<0)) then(K (-1)) else(K y19))
noncomputable def YbT.t (k:Nat) (aB:BA) (aA aD:LD) (aE aG aJ a1:Int):=YbT.g k aB aA aD aE aG aJ a1 (λz0=>some z0)
noncomputable def YbT.e (k:Nat):Za0:=ent [.agg [.s,.l,.l,.n,.n,.n],.d .n] [1] [.n] [3] false (YbT.t k)
noncomputable def YbT.p (k:Nat):Pro:=⟨Tryz.prog,[(94,Ybv.e k)],hints [] false [],k⟩
theorem YbT.ok (k:Nat):Zas Tryz.prog 52 (YbT.e k):=ent_ok (YbT.p k) mix tyok Tryz.func52 (Ybv.ok k) Kr (λaB aA aD aE aG aJ a1=>Ks)
noncomputable def YaH.l0 {β:Type} (k:Nat) (aF:LD) (K:Int->Option β) (L0:(Int×Int)->Option β) (v:Int×Int):Option β:=
 match v with
 |(aC,aH)=>bif(decide ((aH:Int)<(aF.length:Int))) then(atR aF aH [.s,.l,.l,.n,.n,.n] λx24 x27 x30 x33 x36 x39=>(bd1 (YbT.t k x24 x27 x30 x33 x36 x39 aC) (λy40=>bif(decide ((y40:Int)<0)) then(K (-1)) else(L0 (y40,IntKind.wrap .i64 (aH+1)))))) else(K aC)
noncomputable def YaH.m {β:Type} (k:Nat) (a0:LD) (a1:Int) (K:Int->Option β) (F:(LD->(Int×Int)->Option β)):Option β:=
 bif(decide (((IntKind.wrap .i64 (a1-(a0.length:Int))):Int)<0)) then(K (-1)) else(F a0 (IntKind.wrap .i64 (a1-(a0.length:Int)),0))
noncomputable def YaH.g {β:Type} (k:Nat) (a0:LD) (a1:Int) (K:Int->Option β):Option β:=
 bif(decide (((IntKind.wrap .i64 (a1-(a0.length:Int))):Int)<0)) then(K (-1)) else(Za1 (YaH.l0 k a0 K) k (IntKind.wrap .i64 (a1-(a0.length:Int)),0))
noncomputable def YaH.t (k:Nat) (a0:LD) (a1:Int):=YaH.g k a0 a1 (λz0=>some z0)
noncomputable def YaH.e (k:Nat):Za0:=ent [.d .l,.d .n] [1] [.n] [3] false (YaH.t k)
noncomputable def YaH.p (k:Nat):Pro:=⟨Tryz.prog,[(52,YbT.e k)],hints [(5,kp [0,1,5])] false [],k⟩
theorem YaH.l0_eq (k:Nat) (a0:LD) (a1:Int) (aF:LD):LpEq ((YaH.p k).lf Tryz.f17 5 [1,1,1,0,1,0] [.d (.sl a0),.d (.int .i64 a1)] [1] [.n]) (YaH.l0 k aF (λz0=>some z0)) (λ(aC,aH)=>mkSt 27 [(0,.d false (.sl aF)),(1,.d true (.int .i64 aC)),(5,.d true (.int .i64 aH))] []):=lf_eq λL0 v=>by obtain⟨aC,aH⟩:=v;kernel_rfl
theorem YaH.ok (k:Nat):Zas Tryz.prog 17 (YaH.e k):=ent_ok (YaH.p k) mix tyok Tryz.func17 (YbT.ok k) Kr (λa0 a1=>Eq.trans Kr (congrArg (YaH.m k a0 a1 (λz0=>some z0)) (funext λaF=>funext λv=>YaH.l0_eq k a0 a1 aF k v) :))
noncomputable def YbV.g {β:Type} (k:Nat) (aB:Int) (aA:BA) (aD aE aG a1:Int) (K:Int->Option β):Option β:=
 bif(decide (((IntKind.wrap .i64 (a1-(aA.size:Int))):Int)<0)) then(K (-1)) else(K (IntKind.wrap .i64 (a1-(aA.size:Int))))
noncomputable def YbV.t (k:Nat) (aB:Int) (aA:BA) (aD aE aG a1:Int):=YbV.g k aB aA aD aE aG a1 (λz0=>some z0)
noncomputable def YbV.e (k:Nat):Za0:=ent [.agg [.n,.s,.n,.n,.n],.d .n] [1] [.n] [3] false (YbV.t k)
noncomputable def YbV.p (k:Nat):Pro:=⟨Tryz.prog,[],hints [] false [],k⟩
theorem YbV.ok (k:Nat):Zas Tryz.prog 53 (YbV.e k):=ent_ok (YbV.p k) mix tyok Tryz.func53 trivial Kr (λaB aA aD aE aG a1=>Ks)
noncomputable def YaJ.l0 {β:Type} (k:Nat) (aF:LD) (K:Int->Option β) (L0:(Int×Int)->Option β) (v:Int×Int):Option β:=
 match v with
 |(aC,aH)=>bif(decide ((aH:Int)<(aF.length:Int))) then(atR aF aH [.n,.s,.n,.n,.n] λx21 x24 x27 x30 x33=>(bd1 (YbV.t k x21 x24 x27 x30 x33 aC) (λy34=>bif(decide ((y34:Int)<0)) then(K (-1)) else(L0 (y34,IntKind.wrap .i64 (aH+1)))))) else(K aC)
noncomputable def YaJ.m {β:Type} (k:Nat) (a0:LD) (a1:Int) (K:Int->Option β) (F:(LD->(Int×Int)->Option β)):Option β:=
 bif(decide (((IntKind.wrap .i64 (a1-(a0.length:Int))):Int)<0)) then(K (-1)) else(F a0 (IntKind.wrap .i64 (a1-(a0.length:Int)),0))
noncomputable def YaJ.g {β:Type} (k:Nat) (a0:LD) (a1:Int) (K:Int->Option β):Option β:=
 bif(decide (((IntKind.wrap .i64 (a1-(a0.length:Int))):Int)<0)) then(K (-1)) else(Za1 (YaJ.l0 k a0 K) k (IntKind.wrap .i64 (a1-(a0.length:Int)),0))
noncomputable def YaJ.t (k:Nat) (a0:LD) (a1:Int):=YaJ.g k a0 a1 (λz0=>some z0)
noncomputable def YaJ.e (k:Nat):Za0:=ent [.d .l,.d .n] [1] [.n] [3] false (YaJ.t k)
noncomputable def YaJ.p (k:Nat):Pro:=⟨Tryz.prog,[(53,YbV.e k)],hints [(5,kp [0,1,5])] false [],k⟩
theorem YaJ.l0_eq (k:Nat) (a0:LD) (a1:Int) (aF:LD):LpEq ((YaJ.p k).lf Tryz.f18 5 [1,1,1,0,1,0] [.d (.sl a0),.d (.int .i64 a1)] [1] [.n]) (YaJ.l0 k aF (λz0=>some z0)) (λ(aC,aH)=>mkSt 27 [(0,.d false (.sl aF)),(1,.d true (.int .i64 aC)),(5,.d true (.int .i64 aH))] []):=lf_eq λL0 v=>by obtain⟨aC,aH⟩:=v;kernel_rfl
theorem YaJ.ok (k:Nat):Zas Tryz.prog 18 (YaJ.e k):=ent_ok (YaJ.p k) mix tyok Tryz.func18 (YbV.ok k) Kr (λa0 a1=>Eq.trans Kr (congrArg (YaJ.m k a0 a1 (λz0=>some z0)) (funext λaF=>funext λv=>YaJ.l0_eq k a0 a1 aF k v) :))
noncomputable def Yce.g {β:Type} (k:Nat) (aB aA aD:Int) (aE aG aJ aK:LD) (a1:Int) (K:Int->Option β):Option β:=
 bd1 (Ya0.t k aE a1) (λy100=>bif(decide ((y100:Int)<0)) then(K (-1)) else(bd1 (YaH.t k aG y100) (λy101=>bif(decide ((y101:Int)<0)) then(K (-1)) else(bd1 (YaJ.t k aJ y101) (λy102=>bif(decide ((y102:Int)<0)) then(K (-1)) else(bd1 (YI.t k aK y102) (λy103=>bif(decide ((y103:Int)<0)) then(K (-1)) else(K y103))))))))
noncomputable def Yce.t (k:Nat) (aB aA aD:Int) (aE aG aJ aK:LD) (a1:Int):=Yce.g k aB aA aD aE aG aJ aK a1 (λz0=>some z0)
noncomputable def Yce.e (k:Nat):Za0:=ent [.agg [.n,.n,.n,.l,.l,.l,.l],.d .n] [1] [.n] [3] false (Yce.t k)
noncomputable def Yce.p (k:Nat):Pro:=⟨Tryz.prog,[(16,Ya0.e k),(17,YaH.e k),(18,YaJ.e k),(19,YI.e k)],hints [] false [],k⟩
theorem Yce.ok (k:Nat):Zas Tryz.prog 5 (Yce.e k):=ent_ok (Yce.p k) mix tyok Tryz.func5 ⟨Ya0.ok k,YaH.ok k,YaJ.ok k,YI.ok k⟩ Kr (λaB aA aD aE aG aJ aK a1=>Ks)
noncomputable def YH.l0 {β:Type} (k:Nat) (aF:LD) (K:LC->Option β) (L0:(Int×LC)->Option β) (v:Int×LC):Option β:=
 match v with
 |(aC,aH)=>bif(decide ((aC:Int)<(aF.length:Int))) then(atR aF aC [.s] λx8=>(Z0 ((0:Int)<=aC/\aC<(aH.length:Int)) (Z0 (Int.toNat aC<aH.length) (L0 (IntKind.wrap .i64 (aC+1),aH.modify (Int.toNat aC) λc=>ZE c 0 [.d (.str x8)]))))) else(K aH)
noncomputable def YH.m {β:Type} (k:Nat) (a0:LD) (K:LC->Option β) (F:(LD->(Int×LC)->Option β)):Option β:=
 Z0 ((0:Int)<=(a0.length:Int)/\(a0.length:Int)<=(Zx:Int)/\(a0.length:Int)<=(a0.length:Int)/\(a0.length:Int)<=(a0.length:Int)) (F a0 (0,List.replicate (Int.toNat (a0.length:Int)) ([.d (.str (⟨#[]⟩:BA))]:List C)))
noncomputable def YH.g {β:Type} (k:Nat) (a0:LD) (K:LC->Option β):Option β:=
 Z0 ((0:Int)<=(a0.length:Int)/\(a0.length:Int)<=(Zx:Int)/\(a0.length:Int)<=(a0.length:Int)/\(a0.length:Int)<=(a0.length:Int)) (Za1 (YH.l0 k a0 K) k (0,List.replicate (Int.toNat (a0.length:Int)) ([.d (.str (⟨#[]⟩:BA))]:List C)))
noncomputable def YH.t (k:Nat) (a0:LD):=YH.g k a0 (λz0=>some z0)
noncomputable def YH.e (k:Nat):Za0:=ent [.d .l] [1] [.o] [25] false (YH.t k)
noncomputable def YH.p (k:Nat):Pro:=⟨Tryz.prog,[],hints [(3,kp [0,3,4])] false [],k⟩
theorem YH.l0_eq (k:Nat) (a0 aF:LD):LpEq ((YH.p k).lf Tryz.f29 3 [1,1,0,1,0] [.d (.sl a0)] [1] [.o]) (YH.l0 k aF (λz0=>some z0)) (λ(aC,aH)=>mkSt 22 [(0,.d false (.sl aF)),(3,.row 0),(4,.d true (.int .i64 aC))] [.row none true 25 aH]):=lf_eq λL0 v=>by obtain⟨aC,aH⟩:=v;kernel_rfl
theorem YH.ok (k:Nat):Zas Tryz.prog 29 (YH.e k):=ent_ok (YH.p k) mix tyok Tryz.func29 trivial Kr (λa0=>Eq.trans Kr (congrArg (YH.m k a0 (λz0=>some z0)) (funext λaF=>funext λv=>YH.l0_eq k a0 aF k v) :))
noncomputable def YbO.g {β:Type} (k:Nat) (aB:Int) (aA:BA) (aD:LD) (K:Int->BA->LC->Option β):Option β:=
 bd1 (YH.t k aD) (λy9=>K aB aA y9)
noncomputable def YbO.t (k:Nat) (aB:Int) (aA:BA) (aD:LD):=YbO.g k aB aA aD (λz0 z1 z2=>some (z0,z1,z2))
noncomputable def YbO.e (k:Nat):Za0:=ent [.agg [.n,.s,.l]] [3] [.n,.s,.o] [165] false (YbO.t k)
noncomputable def YbO.p (k:Nat):Pro:=⟨Tryz.prog,[(29,YH.e k)],hints [] false [],k⟩
theorem YbO.ok (k:Nat):Zas Tryz.prog 162 (YbO.e k):=ent_ok (YbO.p k) mix tyok Tryz.func162 (YH.ok k) Kr (λaB aA aD=>Ks)
noncomputable def Yav.l0 {β:Type} (k:Nat) (aF:LD) (K:LC->Option β) (L0:(Int×LC)->Option β) (v:Int×LC):Option β:=
 match v with
 |(aC,aH)=>bif(decide ((aC:Int)<(aF.length:Int))) then(atR aF aC [.n,.s,.l] λx17 x20 x23=>(bd3 (YbO.t k x17 x20 x23) (λy24 y25 y26=>Z0 ((0:Int)<=aC/\aC<(aH.length:Int)) (Z0 (Int.toNat aC<aH.length) (L0 (IntKind.wrap .i64 (aC+1),aH.modify (Int.toNat aC) λc=>ZE c 0 [.d (.int .i64 y24),.d (.str y25),.own y26])))))) else(K aH)
noncomputable def Yav.m {β:Type} (k:Nat) (a0:LD) (K:LC->Option β) (F:(LD->(Int×LC)->Option β)):Option β:=
 Z0 ((0:Int)<=(a0.length:Int)/\(a0.length:Int)<=(Zx:Int)/\(a0.length:Int)<=(a0.length:Int)/\(a0.length:Int)<=(a0.length:Int)) (F a0 (0,List.replicate (Int.toNat (a0.length:Int)) ([.d (.int .i64 0),.d (.str (⟨#[]⟩:BA)),.own ([]:LC)]:List C)))
noncomputable def Yav.g {β:Type} (k:Nat) (a0:LD) (K:LC->Option β):Option β:=Yav.m k a0 K (λaF=>Za1 (Yav.l0 k aF K) k)
noncomputable def Yav.t (k:Nat) (a0:LD):=Yav.g k a0 (λz0=>some z0)
noncomputable def Yav.e (k:Nat):Za0:=ent [.d .l] [1] [.o] [67] false (Yav.t k)
noncomputable def Yav.p (k:Nat):Pro:=⟨Tryz.prog,[(162,YbO.e k)],hints [(3,kp [0,3,4])] false [],k⟩
theorem Yav.l0_eq (k:Nat) (a0 aF:LD):LpEq ((Yav.p k).lf Tryz.f132 3 [1,1,0,1,0] [.d (.sl a0)] [1] [.o]) (Yav.l0 k aF (λz0=>some z0)) (λ(aC,aH)=>mkSt 23 [(0,.d false (.sl aF)),(3,.row 0),(4,.d true (.int .i64 aC))] [.row none true 67 aH]):=lf_eq λL0 v=>by obtain⟨aC,aH⟩:=v;kernel_rfl
theorem Yav.ok (k:Nat):Zas Tryz.prog 132 (Yav.e k):=ent_ok (Yav.p k) mix tyok Tryz.func132 (YbO.ok k) Kr (λa0=>Eq.trans Kr (congrArg (Yav.m k a0 (λz0=>some z0)) (funext λaF=>funext λv=>Yav.l0_eq k a0 aF k v) :))
noncomputable def Yby.g {β:Type} (k:Nat) (aB:BA) (aA:Int) (K:BA->Int->Option β):Option β:=
 K aB aA
noncomputable def Yby.t (k:Nat) (aB:BA) (aA:Int):=Yby.g k aB aA (λz0 z1=>some (z0,z1))
noncomputable def Yby.e (k:Nat):Za0:=ent [.agg [.s,.n]] [2] [.s,.n] [142] false (Yby.t k)
noncomputable def Yby.p (k:Nat):Pro:=⟨Tryz.prog,[],hints [] false [],k⟩
theorem Yby.ok (k:Nat):Zas Tryz.prog 163 (Yby.e k):=ent_ok (Yby.p k) mix tyok Tryz.func163 trivial Kr (λaB aA=>Ks)
noncomputable def Yaj.l0 {β:Type} (k:Nat) (aF:LD) (K:LC->Option β) (L0:(Int×LC)->Option β) (v:Int×LC):Option β:=
 match v with
 |(aC,aH)=>bif(decide ((aC:Int)<(aF.length:Int))) then(atR aF aC [.s,.n] λx13 x16=>(bd2 (Yby.t k x13 x16) (λy17 y18=>Z0 ((0:Int)<=aC/\aC<(aH.length:Int)) (Z0 (Int.toNat aC<aH.length) (L0 (IntKind.wrap .i64 (aC+1),aH.modify (Int.toNat aC) λc=>ZE c 0 [.d (.str y17),.d (.int .i64 y18)])))))) else(K aH)
noncomputable def Yaj.m {β:Type} (k:Nat) (a0:LD) (K:LC->Option β) (F:(LD->(Int×LC)->Option β)):Option β:=
 Z0 ((0:Int)<=(a0.length:Int)/\(a0.length:Int)<=(Zx:Int)/\(a0.length:Int)<=(a0.length:Int)/\(a0.length:Int)<=(a0.length:Int)) (F a0 (0,List.replicate (Int.toNat (a0.length:Int)) ([.d (.str (⟨#[]⟩:BA)),.d (.int .i64 0)]:List C)))
noncomputable def Yaj.g {β:Type} (k:Nat) (a0:LD) (K:LC->Option β):Option β:=Yaj.m k a0 K (λaF=>Za1 (Yaj.l0 k aF K) k)
noncomputable def Yaj.t (k:Nat) (a0:LD):=Yaj.g k a0 (λz0=>some z0)
noncomputable def Yaj.e (k:Nat):Za0:=ent [.d .l] [1] [.o] [68] false (Yaj.t k)
noncomputable def Yaj.p (k:Nat):Pro:=⟨Tryz.prog,[(163,Yby.e k)],hints [(3,kp [0,3,4])] false [],k⟩
theorem Yaj.l0_eq (k:Nat) (a0 aF:LD):LpEq ((Yaj.p k).lf Tryz.f133 3 [1,1,0,1,0] [.d (.sl a0)] [1] [.o]) (Yaj.l0 k aF (λz0=>some z0)) (λ(aC,aH)=>mkSt 23 [(0,.d false (.sl aF)),(3,.row 0),(4,.d true (.int .i64 aC))] [.row none true 68 aH]):=lf_eq λL0 v=>by obtain⟨aC,aH⟩:=v;kernel_rfl
theorem Yaj.ok (k:Nat):Zas Tryz.prog 133 (Yaj.e k):=ent_ok (Yaj.p k) mix tyok Tryz.func133 (Yby.ok k) Kr (λa0=>Eq.trans Kr (congrArg (Yaj.m k a0 (λz0=>some z0)) (funext λaF=>funext λv=>Yaj.l0_eq k a0 aF k v) :))
noncomputable def Yb2.g {β:Type} (k:Nat) (aB:Int) (aA aD aE:LD) (K:Int->LC->LC->LC->Option β):Option β:=
 bd1 (Yav.t k aA) (λy27=>bd1 (YH.t k aD) (λy28=>bd1 (Yaj.t k aE) (λy29=>K aB y27 y28 y29)))
noncomputable def Yb2.t (k:Nat) (aB:Int) (aA aD aE:LD):=Yb2.g k aB aA aD aE (λz0 z1 z2 z3=>some (z0,z1,z2,z3))
noncomputable def Yb2.e (k:Nat):Za0:=ent [.agg [.n,.l,.l,.l]] [4] [.n,.o,.o,.o] [70] false (Yb2.t k)
noncomputable def Yb2.p (k:Nat):Pro:=⟨Tryz.prog,[(132,Yav.e k),(29,YH.e k),(133,Yaj.e k)],hints [] false [],k⟩
theorem Yb2.ok (k:Nat):Zas Tryz.prog 98 (Yb2.e k):=ent_ok (Yb2.p k) mix tyok Tryz.func98 ⟨Yav.ok k,YH.ok k,Yaj.ok k⟩ Kr (λaB aA aD aE=>Ks)
noncomputable def YA.l0 {β:Type} (k:Nat) (r_laws_toValueS:LD->(LC->Option β)->Option β) (r_laws_toValue:Int->BA->Int->LD->LD->(Int->BA->Int->LC->LC->Option β)->Option β) (aF:LD) (K:LC->Option β) (L0:(Int×LC)->Option β) (v:Int×LC):Option β:=
 match v with
 |(aC,aH)=>bif(decide ((aC:Int)<(aF.length:Int))) then(atR aF aC [.n,.s,.n,.l,.l] λx25 x28 x31 x34 x37=>(r_laws_toValue x25 x28 x31 x34 x37 (λy38 y39 y40 y41 y42=>Z0 ((0:Int)<=aC/\aC<(aH.length:Int)) (Z0 (Int.toNat aC<aH.length) (L0 (IntKind.wrap .i64 (aC+1),aH.modify (Int.toNat aC) λc=>ZE c 0 [.d (.int .i64 y38),.d (.str y39),.d (.int .i64 y40),.own y41,.own y42])))))) else(K aH)
noncomputable def YA.m {β:Type} (k:Nat) (r_laws_toValueS:LD->(LC->Option β)->Option β) (r_laws_toValue:Int->BA->Int->LD->LD->(Int->BA->Int->LC->LC->Option β)->Option β) (a0:LD) (K:LC->Option β) (F:(LD->(Int×LC)->Option β)):Option β:=
 Z0 ((0:Int)<=(a0.length:Int)/\(a0.length:Int)<=(Zx:Int)/\(a0.length:Int)<=(a0.length:Int)/\(a0.length:Int)<=(a0.length:Int)) (F a0 (0,List.replicate (Int.toNat (a0.length:Int)) ([.d (.int .i64 0),.d (.str (⟨#[]⟩:BA)),.d (.int .i64 0),.own ([]:LC),.own ([]:LC)]:List C)))
noncomputable def YA.body {β:Type} (k:Nat) (r_laws_toValueS:LD->(LC->Option β)->Option β) (r_laws_toValue:Int->BA->Int->LD->LD->(Int->BA->Int->LC->LC->Option β)->Option β) (a0:LD) (K:LC->Option β):Option β:=YA.m k r_laws_toValueS r_laws_toValue a0 K (λaF=>Za1 (YA.l0 k r_laws_toValueS r_laws_toValue aF K) k)
noncomputable def YV.body {β:Type} (k:Nat) (r_laws_toValueS:LD->(LC->Option β)->Option β) (r_laws_toValue:Int->BA->Int->LD->LD->(Int->BA->Int->LC->LC->Option β)->Option β) (aB:Int) (aA:BA) (aD:Int) (aE aG:LD) (K:Int->BA->Int->LC->LC->Option β):Option β:=
 bd1 (YH.t k aE) (λy1=>r_laws_toValueS aG (λy43=>K aB aA aD y1 y43))
noncomputable def YA.w {β:Type} (r:LD->Option (LC)) (a0:LD) (K:LC->Option β):Option β:=bd1 (r a0) K
noncomputable def YV.w {β:Type} (r:Int->BA->Int->LD->LD->Option (Int×BA×Int×LC×LC)) (aB:Int) (aA:BA) (aD:Int) (aE aG:LD) (K:Int->BA->Int->LC->LC->Option β):Option β:=bd5 (r aB aA aD aE aG) K
noncomputable def YA.all:Nat->(LD->Option (LC))×(Int->BA->Int->LD->LD->Option (Int×BA×Int×LC×LC))
 |0=>(λ_=>none,λ_ _ _ _ _=>none)
 |k+1=>(λr=>(λa0=>YA.body k (YA.w r.1) (YV.w r.2) a0 (λz0=>some z0),λaB aA aD aE aG=>YV.body k (YA.w r.1) (YV.w r.2) aB aA aD aE aG (λz0 z1 z2 z3 z4=>some (z0,z1,z2,z3,z4)))) (YA.all k)
noncomputable def YA.t (k:Nat) (a0:LD):Option (LC):=(YA.all k).1 a0
noncomputable def YV.t (k:Nat) (aB:Int) (aA:BA) (aD:Int) (aE aG:LD):Option (Int×BA×Int×LC×LC):=(YA.all k).2 aB aA aD aE aG
noncomputable def YA.f {β:Type} (k:Nat) (a0:LD) (K:LC->Option β):Option β:=YA.w (YA.t k) a0 K
noncomputable def YV.f {β:Type} (k:Nat) (aB:Int) (aA:BA) (aD:Int) (aE aG:LD) (K:Int->BA->Int->LC->LC->Option β):Option β:=YV.w (YV.t k) aB aA aD aE aG K
noncomputable def YA.g {β:Type} (k:Nat) (a0:LD) (K:LC->Option β):Option β:=YA.body k (YA.f k) (YV.f k) a0 K
theorem YA.t_succ (k:Nat) (a0:LD):YA.t (k+1) a0=YA.g k a0 (λz0=>some z0):=rfl
noncomputable def YV.g {β:Type} (k:Nat) (aB:Int) (aA:BA) (aD:Int) (aE aG:LD) (K:Int->BA->Int->LC->LC->Option β):Option β:=YV.body k (YA.f k) (YV.f k) aB aA aD aE aG K
theorem YV.t_succ (k:Nat) (aB:Int) (aA:BA) (aD:Int) (aE aG:LD):YV.t (k+1) aB aA aD aE aG=YV.g k aB aA aD aE aG (λz0 z1 z2 z3 z4=>some (z0,z1,z2,z3,z4)):=rfl
noncomputable def YA.e (k:Nat):Za0:=ent [.d .l] [1] [.o] [62] false (YA.t k)
noncomputable def YV.e (k:Nat):Za0:=ent [.agg [.n,.s,.n,.l,.l]] [5] [.n,.s,.n,.o,.o] [64] false (YV.t k)
noncomputable def YA.p (k:Nat):Pro:=⟨Tryz.prog,[(99,YV.e k)],hints [(3,kp [0,3,4])] false [],k⟩
theorem YA.l0_eq (k:Nat) (a0 aF:LD):LpEq ((YA.p k).lf Tryz.f134 3 [1,1,0,1,0] [.d (.sl a0)] [1] [.o]) (YA.l0 k (YA.f k) (YV.f k) aF (λz0=>some z0)) (λ(aC,aH)=>mkSt 23 [(0,.d false (.sl aF)),(3,.row 0),(4,.d true (.int .i64 aC))] [.row none true 62 aH]):=lf_eq λL0 v=>by obtain⟨aC,aH⟩:=v;kernel_rfl
noncomputable def YV.p (k:Nat):Pro:=⟨Tryz.prog,[(29,YH.e k),(134,YA.e k)],hints [] false [],k⟩
theorem YA.oks (k:Nat):Zas Tryz.prog 134 (YA.e k)/\Zas Tryz.prog 99 (YV.e k):=by
 induction k with
 |zero=>exact⟨ent_zero Tryz.func134 Kr (λ_=>rfl),
  ent_zero Tryz.func99 Kr (λ_ _ _ _ _=>rfl)⟩
 |succ k ih=>exact⟨ent_ok (YA.p k) mix tyok Tryz.func134 ih.2 Kr (λa0=>Eq.trans Kr ((congrArg (YA.m k (YA.f k) (YV.f k) a0 (λz0=>some z0)) (funext λaF=>funext λv=>YA.l0_eq k a0 aF k v)).trans (YA.t_succ k a0).symm)),
  ent_ok (YV.p k) mix tyok Tryz.func99 ⟨YH.ok k,ih.1⟩ Kr (λaB aA aD aE aG=>Ks)⟩
theorem YV.ok (k:Nat):Zas Tryz.prog 99 (YV.e k):=(YA.oks k).2
noncomputable def Yco.g {β:Type} (k:Nat) (aB:Int) (aA:LD) (aD:Int) (aE:BA) (aG:Int) (aJ aK:LD) (K:Int->LC->Int->BA->Int->LC->LC->Option β):Option β:=
 bd1 (YH.t k aA) (λy1=>YV.f k aD aE aG aJ aK (λy2 y3 y4 y5 y6=>K aB y1 y2 y3 y4 y5 y6))
noncomputable def Yco.t (k:Nat) (aB:Int) (aA:LD) (aD:Int) (aE:BA) (aG:Int) (aJ aK:LD):=Yco.g k aB aA aD aE aG aJ aK (λz0 z1 z2 z3 z4 z5 z6=>some (z0,z1,z2,z3,z4,z5,z6))
noncomputable def Yco.e (k:Nat):Za0:=ent [.agg [.n,.l,.n,.s,.n,.l,.l]] [7] [.n,.o,.n,.s,.n,.o,.o] [162] false (Yco.t k)
noncomputable def Yco.p (k:Nat):Pro:=⟨Tryz.prog,[(29,YH.e k),(99,YV.e k)],hints [] false [],k⟩
theorem Yco.ok (k:Nat):Zas Tryz.prog 186 (Yco.e k):=ent_ok (Yco.p k) mix tyok Tryz.func186 ⟨YH.ok k,YV.ok k⟩ Kr (λaB aA aD aE aG aJ aK=>Ks)
noncomputable def Ya9.l0 {β:Type} (k:Nat) (aF:LD) (K:LC->Option β) (L0:(Int×LC)->Option β) (v:Int×LC):Option β:=
 match v with
 |(aC,aH)=>bif(decide ((aC:Int)<(aF.length:Int))) then(atR aF aC [.n,.l,.n,.s,.n,.l,.l] λx33 x36 x39 x42 x45 x48 x51=>(bd7 (Yco.t k x33 x36 x39 x42 x45 x48 x51) (λy52 y53 y54 y55 y56 y57 y58=>Z0 ((0:Int)<=aC/\aC<(aH.length:Int)) (Z0 (Int.toNat aC<aH.length) (L0 (IntKind.wrap .i64 (aC+1),aH.modify (Int.toNat aC) λc=>ZE c 0 [.d (.int .i64 y52),.own y53,.d (.int .i64 y54),.d (.str y55),.d (.int .i64 y56),.own y57,.own y58])))))) else(K aH)
noncomputable def Ya9.m {β:Type} (k:Nat) (a0:LD) (K:LC->Option β) (F:(LD->(Int×LC)->Option β)):Option β:=
 Z0 ((0:Int)<=(a0.length:Int)/\(a0.length:Int)<=(Zx:Int)/\(a0.length:Int)<=(a0.length:Int)/\(a0.length:Int)<=(a0.length:Int)) (F a0 (0,List.replicate (Int.toNat (a0.length:Int)) ([.d (.int .i64 0),.own ([]:LC),.d (.int .i64 0),.d (.str (⟨#[]⟩:BA)),.d (.int .i64 0),.own ([]:LC),.own ([]:LC)]:List C)))
noncomputable def Ya9.g {β:Type} (k:Nat) (a0:LD) (K:LC->Option β):Option β:=Ya9.m k a0 K (λaF=>Za1 (Ya9.l0 k aF K) k)
noncomputable def Ya9.t (k:Nat) (a0:LD):=Ya9.g k a0 (λz0=>some z0)
noncomputable def Ya9.e (k:Nat):Za0:=ent [.d .l] [1] [.o] [120] false (Ya9.t k)
noncomputable def Ya9.p (k:Nat):Pro:=⟨Tryz.prog,[(186,Yco.e k)],hints [(3,kp [0,3,4])] false [],k⟩
theorem Ya9.l0_eq (k:Nat) (a0 aF:LD):LpEq ((Ya9.p k).lf Tryz.f164 3 [1,1,0,1,0] [.d (.sl a0)] [1] [.o]) (Ya9.l0 k aF (λz0=>some z0)) (λ(aC,aH)=>mkSt 23 [(0,.d false (.sl aF)),(3,.row 0),(4,.d true (.int .i64 aC))] [.row none true 120 aH]):=lf_eq λL0 v=>by obtain⟨aC,aH⟩:=v;kernel_rfl
theorem Ya9.ok (k:Nat):Zas Tryz.prog 164 (Ya9.e k):=ent_ok (Ya9.p k) mix tyok Tryz.func164 (Yco.ok k) Kr (λa0=>Eq.trans Kr (congrArg (Ya9.m k a0 (λz0=>some z0)) (funext λaF=>funext λv=>Ya9.l0_eq k a0 aF k v) :))
noncomputable def YbQ.g {β:Type} (k:Nat) (aB:BA) (aA:LD) (K:BA->LC->Option β):Option β:=
 bd1 (Ya9.t k aA) (λy59=>K aB y59)
noncomputable def YbQ.t (k:Nat) (aB:BA) (aA:LD):=YbQ.g k aB aA (λz0 z1=>some (z0,z1))
noncomputable def YbQ.e (k:Nat):Za0:=ent [.agg [.s,.l]] [2] [.s,.o] [122] false (YbQ.t k)
noncomputable def YbQ.p (k:Nat):Pro:=⟨Tryz.prog,[(164,Ya9.e k)],hints [] false [],k⟩
theorem YbQ.ok (k:Nat):Zas Tryz.prog 135 (YbQ.e k):=ent_ok (YbQ.p k) mix tyok Tryz.func135 (Ya9.ok k) Kr (λaB aA=>Ks)
noncomputable def Yax.l0 {β:Type} (k:Nat) (aF:LD) (K:LC->Option β) (L0:(Int×LC)->Option β) (v:Int×LC):Option β:=
 match v with
 |(aC,aH)=>bif(decide ((aC:Int)<(aF.length:Int))) then(atR aF aC [.s,.l] λx65 x68=>(bd2 (YbQ.t k x65 x68) (λy69 y70=>Z0 ((0:Int)<=aC/\aC<(aH.length:Int)) (Z0 (Int.toNat aC<aH.length) (L0 (IntKind.wrap .i64 (aC+1),aH.modify (Int.toNat aC) λc=>ZE c 0 [.d (.str y69),.own y70])))))) else(K aH)
noncomputable def Yax.m {β:Type} (k:Nat) (a0:LD) (K:LC->Option β) (F:(LD->(Int×LC)->Option β)):Option β:=
 Z0 ((0:Int)<=(a0.length:Int)/\(a0.length:Int)<=(Zx:Int)/\(a0.length:Int)<=(a0.length:Int)/\(a0.length:Int)<=(a0.length:Int)) (F a0 (0,List.replicate (Int.toNat (a0.length:Int)) ([.d (.str (⟨#[]⟩:BA)),.own ([]:LC)]:List C)))
noncomputable def Yax.g {β:Type} (k:Nat) (a0:LD) (K:LC->Option β):Option β:=Yax.m k a0 K (λaF=>Za1 (Yax.l0 k aF K) k)
noncomputable def Yax.t (k:Nat) (a0:LD):=Yax.g k a0 (λz0=>some z0)
noncomputable def Yax.e (k:Nat):Za0:=ent [.d .l] [1] [.o] [71] false (Yax.t k)
noncomputable def Yax.p (k:Nat):Pro:=⟨Tryz.prog,[(135,YbQ.e k)],hints [(3,kp [0,3,4])] false [],k⟩
theorem Yax.l0_eq (k:Nat) (a0 aF:LD):LpEq ((Yax.p k).lf Tryz.f100 3 [1,1,0,1,0] [.d (.sl a0)] [1] [.o]) (Yax.l0 k aF (λz0=>some z0)) (λ(aC,aH)=>mkSt 23 [(0,.d false (.sl aF)),(3,.row 0),(4,.d true (.int .i64 aC))] [.row none true 71 aH]):=lf_eq λL0 v=>by obtain⟨aC,aH⟩:=v;kernel_rfl
theorem Yax.ok (k:Nat):Zas Tryz.prog 100 (Yax.e k):=ent_ok (Yax.p k) mix tyok Tryz.func100 (YbQ.ok k) Kr (λa0=>Eq.trans Kr (congrArg (Yax.m k a0 (λz0=>some z0)) (funext λaF=>funext λv=>Yax.l0_eq k a0 aF k v) :))
noncomputable def Yb9.g {β:Type} (k:Nat) (aB:Int) (aA:BA) (aD:Int) (aE aG aJ:LD) (aK:Int) (aY:BA) (bE:Int) (bA bB bD:LD) (bF:Bool) (K:Int->BA->Int->LC->LC->LC->Int->BA->Int->LC->LC->LC->Bool->Option β):Option β:=
 bd4 (Yb2.t k aD aE aG aJ) (λy30 y31 y32 y33=>YV.f k aK aY bE bA bB (λy44 y45 y46 y47 y48=>bd1 (Yax.t k bD) (λy71=>K aB aA y30 y31 y32 y33 y44 y45 y46 y47 y48 y71 bF)))
noncomputable def Yb9.t (k:Nat) (aB:Int) (aA:BA) (aD:Int) (aE aG aJ:LD) (aK:Int) (aY:BA) (bE:Int) (bA bB bD:LD) (bF:Bool):=Yb9.g k aB aA aD aE aG aJ aK aY bE bA bB bD bF (λz0 z1 z2 z3 z4 z5 z6 z7 z8 z9 z10 z11 z12=>some (z0,z1,z2,z3,z4,z5,z6,z7,z8,z9,z10,z11,z12))
noncomputable def Yb9.e (k:Nat):Za0:=ent [.agg [.n,.s,.n,.l,.l,.l,.n,.s,.n,.l,.l,.l,.b]] [13] [.n,.s,.n,.o,.o,.o,.n,.s,.n,.o,.o,.o,.b] [73] false (Yb9.t k)
noncomputable def Yb9.p (k:Nat):Pro:=⟨Tryz.prog,[(98,Yb2.e k),(99,YV.e k),(100,Yax.e k)],hints [] false [],k⟩
theorem Yb9.ok (k:Nat):Zas Tryz.prog 62 (Yb9.e k):=ent_ok (Yb9.p k) mix tyok Tryz.func62 ⟨Yb2.ok k,YV.ok k,Yax.ok k⟩ Kr (λaB aA aD aE aG aJ aK aY bE bA bB bD bF=>Ks)
noncomputable def YaO.l0 {β:Type} (k:Nat) (aF:LD) (K:LC->Option β) (L0:(Int×LC)->Option β) (v:Int×LC):Option β:=
 match v with
 |(aC,aH)=>bif(decide ((aC:Int)<(aF.length:Int))) then(atR aF aC [.n,.s,.n,.l,.l,.l,.n,.s,.n,.l,.l,.l,.b] λx88 x91 x94 x97 x100 x103 x106 x109 x112 x115 x118 x121 x124=>(bd13 (Yb9.t k x88 x91 x94 x97 x100 x103 x106 x109 x112 x115 x118 x121 x124) (λy125 y126 y127 y128 y129 y130 y131 y132 y133 y134 y135 y136 y137=>Z0 ((0:Int)<=aC/\aC<(aH.length:Int)) (Z0 (Int.toNat aC<aH.length) (L0 (IntKind.wrap .i64 (aC+1),aH.modify (Int.toNat aC) λc=>ZE c 0 [.d (.int .i64 y125),.d (.str y126),.d (.int .i64 y127),.own y128,.own y129,.own y130,.d (.int .i64 y131),.d (.str y132),.d (.int .i64 y133),.own y134,.own y135,.own y136,.d (.bool y137)])))))) else(K aH)
noncomputable def YaO.m {β:Type} (k:Nat) (a0:LD) (K:LC->Option β) (F:(LD->(Int×LC)->Option β)):Option β:=
 Z0 ((0:Int)<=(a0.length:Int)/\(a0.length:Int)<=(Zx:Int)/\(a0.length:Int)<=(a0.length:Int)/\(a0.length:Int)<=(a0.length:Int)) (F a0 (0,List.replicate (Int.toNat (a0.length:Int)) ([.d (.int .i64 0),.d (.str (⟨#[]⟩:BA)),.d (.int .i64 0),.own ([]:LC),.own ([]:LC),.own ([]:LC),.d (.int .i64 0),.d (.str (⟨#[]⟩:BA)),.d (.int .i64 0),.own ([]:LC),.own ([]:LC),.own ([]:LC),.d (.bool false)]:List C)))
noncomputable def YaO.g {β:Type} (k:Nat) (a0:LD) (K:LC->Option β):Option β:=YaO.m k a0 K (λaF=>Za1 (YaO.l0 k aF K) k)
noncomputable def YaO.t (k:Nat) (a0:LD):=YaO.g k a0 (λz0=>some z0)
noncomputable def YaO.e (k:Nat):Za0:=ent [.d .l] [1] [.o] [30] false (YaO.t k)
noncomputable def YaO.p (k:Nat):Pro:=⟨Tryz.prog,[(62,Yb9.e k)],hints [(3,kp [0,3,4])] false [],k⟩
theorem YaO.l0_eq (k:Nat) (a0 aF:LD):LpEq ((YaO.p k).lf Tryz.f26 3 [1,1,0,1,0] [.d (.sl a0)] [1] [.o]) (YaO.l0 k aF (λz0=>some z0)) (λ(aC,aH)=>mkSt 23 [(0,.d false (.sl aF)),(3,.row 0),(4,.d true (.int .i64 aC))] [.row none true 30 aH]):=lf_eq λL0 v=>by obtain⟨aC,aH⟩:=v;kernel_rfl
theorem YaO.ok (k:Nat):Zas Tryz.prog 26 (YaO.e k):=ent_ok (YaO.p k) mix tyok Tryz.func26 (Yb9.ok k) Kr (λa0=>Eq.trans Kr (congrArg (YaO.m k a0 (λz0=>some z0)) (funext λaF=>funext λv=>YaO.l0_eq k a0 aF k v) :))
noncomputable def Ybz.g {β:Type} (k:Nat) (aB aA:BA) (K:BA->BA->Option β):Option β:=
 K aB aA
noncomputable def Ybz.t (k:Nat) (aB aA:BA):=Ybz.g k aB aA (λz0 z1=>some (z0,z1))
noncomputable def Ybz.e (k:Nat):Za0:=ent [.agg [.s,.s]] [2] [.s,.s] [168] false (Ybz.t k)
noncomputable def Ybz.p (k:Nat):Pro:=⟨Tryz.prog,[],hints [] false [],k⟩
theorem Ybz.ok (k:Nat):Zas Tryz.prog 165 (Ybz.e k):=ent_ok (Ybz.p k) mix tyok Tryz.func165 trivial Kr (λaB aA=>Ks)
noncomputable def Yak.l0 {β:Type} (k:Nat) (aF:LD) (K:LC->Option β) (L0:(Int×LC)->Option β) (v:Int×LC):Option β:=
 match v with
 |(aC,aH)=>bif(decide ((aC:Int)<(aF.length:Int))) then(atR aF aC [.s,.s] λx13 x16=>(bd2 (Ybz.t k x13 x16) (λy17 y18=>Z0 ((0:Int)<=aC/\aC<(aH.length:Int)) (Z0 (Int.toNat aC<aH.length) (L0 (IntKind.wrap .i64 (aC+1),aH.modify (Int.toNat aC) λc=>ZE c 0 [.d (.str y17),.d (.str y18)])))))) else(K aH)
noncomputable def Yak.m {β:Type} (k:Nat) (a0:LD) (K:LC->Option β) (F:(LD->(Int×LC)->Option β)):Option β:=
 Z0 ((0:Int)<=(a0.length:Int)/\(a0.length:Int)<=(Zx:Int)/\(a0.length:Int)<=(a0.length:Int)/\(a0.length:Int)<=(a0.length:Int)) (F a0 (0,List.replicate (Int.toNat (a0.length:Int)) ([.d (.str (⟨#[]⟩:BA)),.d (.str (⟨#[]⟩:BA))]:List C)))
noncomputable def Yak.g {β:Type} (k:Nat) (a0:LD) (K:LC->Option β):Option β:=Yak.m k a0 K (λaF=>Za1 (Yak.l0 k aF K) k)
noncomputable def Yak.t (k:Nat) (a0:LD):=Yak.g k a0 (λz0=>some z0)
noncomputable def Yak.e (k:Nat):Za0:=ent [.d .l] [1] [.o] [101] false (Yak.t k)
noncomputable def Yak.p (k:Nat):Pro:=⟨Tryz.prog,[(165,Ybz.e k)],hints [(3,kp [0,3,4])] false [],k⟩
theorem Yak.l0_eq (k:Nat) (a0 aF:LD):LpEq ((Yak.p k).lf Tryz.f136 3 [1,1,0,1,0] [.d (.sl a0)] [1] [.o]) (Yak.l0 k aF (λz0=>some z0)) (λ(aC,aH)=>mkSt 23 [(0,.d false (.sl aF)),(3,.row 0),(4,.d true (.int .i64 aC))] [.row none true 101 aH]):=lf_eq λL0 v=>by obtain⟨aC,aH⟩:=v;kernel_rfl
theorem Yak.ok (k:Nat):Zas Tryz.prog 136 (Yak.e k):=ent_ok (Yak.p k) mix tyok Tryz.func136 (Ybz.ok k) Kr (λa0=>Eq.trans Kr (congrArg (Yak.m k a0 (λz0=>some z0)) (funext λaF=>funext λv=>Yak.l0_eq k a0 aF k v) :))
noncomputable def Ybu.g {β:Type} (k:Nat) (aB:BA) (aA aD:LD) (aE:Int) (K:BA->LC->LC->Int->Option β):Option β:=
 bd1 (Yak.t k aA) (λy19=>bd1 (YH.t k aD) (λy20=>K aB y19 y20 aE))
noncomputable def Ybu.t (k:Nat) (aB:BA) (aA aD:LD) (aE:Int):=Ybu.g k aB aA aD aE (λz0 z1 z2 z3=>some (z0,z1,z2,z3))
noncomputable def Ybu.e (k:Nat):Za0:=ent [.agg [.s,.l,.l,.n]] [4] [.s,.o,.o,.n] [103] false (Ybu.t k)
noncomputable def Ybu.p (k:Nat):Pro:=⟨Tryz.prog,[(136,Yak.e k),(29,YH.e k)],hints [] false [],k⟩
theorem Ybu.ok (k:Nat):Zas Tryz.prog 101 (Ybu.e k):=ent_ok (Ybu.p k) mix tyok Tryz.func101 ⟨Yak.ok k,YH.ok k⟩ Kr (λaB aA aD aE=>Ks)
noncomputable def YbP.g {β:Type} (k:Nat) (aB:BA) (aA aD:LD) (aE aG aJ:Int) (K:BA->LC->LC->Int->Int->Int->Option β):Option β:=
 bd4 (Ybu.t k aB aA aD aE) (λy21 y22 y23 y24=>K y21 y22 y23 y24 aG aJ)
noncomputable def YbP.t (k:Nat) (aB:BA) (aA aD:LD) (aE aG aJ:Int):=YbP.g k aB aA aD aE aG aJ (λz0 z1 z2 z3 z4 z5=>some (z0,z1,z2,z3,z4,z5))
noncomputable def YbP.e (k:Nat):Za0:=ent [.agg [.s,.l,.l,.n,.n,.n]] [6] [.s,.o,.o,.n,.n,.n] [105] false (YbP.t k)
noncomputable def YbP.p (k:Nat):Pro:=⟨Tryz.prog,[(101,Ybu.e k)],hints [] false [],k⟩
theorem YbP.ok (k:Nat):Zas Tryz.prog 63 (YbP.e k):=ent_ok (YbP.p k) mix tyok Tryz.func63 (Ybu.ok k) Kr (λaB aA aD aE aG aJ=>Ks)
noncomputable def Yaw.l0 {β:Type} (k:Nat) (aF:LD) (K:LC->Option β) (L0:(Int×LC)->Option β) (v:Int×LC):Option β:=
 match v with
 |(aC,aH)=>bif(decide ((aC:Int)<(aF.length:Int))) then(atR aF aC [.s,.l,.l,.n,.n,.n] λx34 x37 x40 x43 x46 x49=>(bd6 (YbP.t k x34 x37 x40 x43 x46 x49) (λy50 y51 y52 y53 y54 y55=>Z0 ((0:Int)<=aC/\aC<(aH.length:Int)) (Z0 (Int.toNat aC<aH.length) (L0 (IntKind.wrap .i64 (aC+1),aH.modify (Int.toNat aC) λc=>ZE c 0 [.d (.str y50),.own y51,.own y52,.d (.int .i64 y53),.d (.int .i64 y54),.d (.int .i64 y55)])))))) else(K aH)
noncomputable def Yaw.m {β:Type} (k:Nat) (a0:LD) (K:LC->Option β) (F:(LD->(Int×LC)->Option β)):Option β:=
 Z0 ((0:Int)<=(a0.length:Int)/\(a0.length:Int)<=(Zx:Int)/\(a0.length:Int)<=(a0.length:Int)/\(a0.length:Int)<=(a0.length:Int)) (F a0 (0,List.replicate (Int.toNat (a0.length:Int)) ([.d (.str (⟨#[]⟩:BA)),.own ([]:LC),.own ([]:LC),.d (.int .i64 0),.d (.int .i64 0),.d (.int .i64 0)]:List C)))
noncomputable def Yaw.g {β:Type} (k:Nat) (a0:LD) (K:LC->Option β):Option β:=Yaw.m k a0 K (λaF=>Za1 (Yaw.l0 k aF K) k)
noncomputable def Yaw.t (k:Nat) (a0:LD):=Yaw.g k a0 (λz0=>some z0)
noncomputable def Yaw.e (k:Nat):Za0:=ent [.d .l] [1] [.o] [31] false (Yaw.t k)
noncomputable def Yaw.p (k:Nat):Pro:=⟨Tryz.prog,[(63,YbP.e k)],hints [(3,kp [0,3,4])] false [],k⟩
theorem Yaw.l0_eq (k:Nat) (a0 aF:LD):LpEq ((Yaw.p k).lf Tryz.f27 3 [1,1,0,1,0] [.d (.sl a0)] [1] [.o]) (Yaw.l0 k aF (λz0=>some z0)) (λ(aC,aH)=>mkSt 23 [(0,.d false (.sl aF)),(3,.row 0),(4,.d true (.int .i64 aC))] [.row none true 31 aH]):=lf_eq λL0 v=>by obtain⟨aC,aH⟩:=v;kernel_rfl
theorem Yaw.ok (k:Nat):Zas Tryz.prog 27 (Yaw.e k):=ent_ok (Yaw.p k) mix tyok Tryz.func27 (YbP.ok k) Kr (λa0=>Eq.trans Kr (congrArg (Yaw.m k a0 (λz0=>some z0)) (funext λaF=>funext λv=>Yaw.l0_eq k a0 aF k v) :))
noncomputable def YbR.g {β:Type} (k:Nat) (aB:Int) (aA:BA) (aD aE aG:Int) (K:Int->BA->Int->Int->Int->Option β):Option β:=
 K aB aA aD aE aG
noncomputable def YbR.t (k:Nat) (aB:Int) (aA:BA) (aD aE aG:Int):=YbR.g k aB aA aD aE aG (λz0 z1 z2 z3 z4=>some (z0,z1,z2,z3,z4))
noncomputable def YbR.e (k:Nat):Za0:=ent [.agg [.n,.s,.n,.n,.n]] [5] [.n,.s,.n,.n,.n] [50] false (YbR.t k)
noncomputable def YbR.p (k:Nat):Pro:=⟨Tryz.prog,[],hints [] false [],k⟩
theorem YbR.ok (k:Nat):Zas Tryz.prog 64 (YbR.e k):=ent_ok (YbR.p k) mix tyok Tryz.func64 trivial Kr (λaB aA aD aE aG=>Ks)
noncomputable def Yay.l0 {β:Type} (k:Nat) (aF:LD) (K:LC->Option β) (L0:(Int×LC)->Option β) (v:Int×LC):Option β:=
 match v with
 |(aC,aH)=>bif(decide ((aC:Int)<(aF.length:Int))) then(atR aF aC [.n,.s,.n,.n,.n] λx25 x28 x31 x34 x37=>(bd5 (YbR.t k x25 x28 x31 x34 x37) (λy38 y39 y40 y41 y42=>Z0 ((0:Int)<=aC/\aC<(aH.length:Int)) (Z0 (Int.toNat aC<aH.length) (L0 (IntKind.wrap .i64 (aC+1),aH.modify (Int.toNat aC) λc=>ZE c 0 [.d (.int .i64 y38),.d (.str y39),.d (.int .i64 y40),.d (.int .i64 y41),.d (.int .i64 y42)])))))) else(K aH)
noncomputable def Yay.m {β:Type} (k:Nat) (a0:LD) (K:LC->Option β) (F:(LD->(Int×LC)->Option β)):Option β:=
 Z0 ((0:Int)<=(a0.length:Int)/\(a0.length:Int)<=(Zx:Int)/\(a0.length:Int)<=(a0.length:Int)/\(a0.length:Int)<=(a0.length:Int)) (F a0 (0,List.replicate (Int.toNat (a0.length:Int)) ([.d (.int .i64 0),.d (.str (⟨#[]⟩:BA)),.d (.int .i64 0),.d (.int .i64 0),.d (.int .i64 0)]:List C)))
noncomputable def Yay.g {β:Type} (k:Nat) (a0:LD) (K:LC->Option β):Option β:=Yay.m k a0 K (λaF=>Za1 (Yay.l0 k aF K) k)
noncomputable def Yay.t (k:Nat) (a0:LD):=Yay.g k a0 (λz0=>some z0)
noncomputable def Yay.e (k:Nat):Za0:=ent [.d .l] [1] [.o] [32] false (Yay.t k)
noncomputable def Yay.p (k:Nat):Pro:=⟨Tryz.prog,[(64,YbR.e k)],hints [(3,kp [0,3,4])] false [],k⟩
theorem Yay.l0_eq (k:Nat) (a0 aF:LD):LpEq ((Yay.p k).lf Tryz.f28 3 [1,1,0,1,0] [.d (.sl a0)] [1] [.o]) (Yay.l0 k aF (λz0=>some z0)) (λ(aC,aH)=>mkSt 23 [(0,.d false (.sl aF)),(3,.row 0),(4,.d true (.int .i64 aC))] [.row none true 32 aH]):=lf_eq λL0 v=>by obtain⟨aC,aH⟩:=v;kernel_rfl
theorem Yay.ok (k:Nat):Zas Tryz.prog 28 (Yay.e k):=ent_ok (Yay.p k) mix tyok Tryz.func28 (YbR.ok k) Kr (λa0=>Eq.trans Kr (congrArg (Yay.m k a0 (λz0=>some z0)) (funext λaF=>funext λv=>Yay.l0_eq k a0 aF k v) :))
noncomputable def Ybx.g {β:Type} (k:Nat) (aB aA aD:Int) (aE aG aJ aK:LD) (K:Int->Int->Int->LC->LC->LC->LC->Option β):Option β:=
 bd1 (YaO.t k aE) (λy138=>bd1 (Yaw.t k aG) (λy139=>bd1 (Yay.t k aJ) (λy140=>bd1 (YH.t k aK) (λy141=>K aB aA aD y138 y139 y140 y141))))
noncomputable def Ybx.t (k:Nat) (aB aA aD:Int) (aE aG aJ aK:LD):=Ybx.g k aB aA aD aE aG aJ aK (λz0 z1 z2 z3 z4 z5 z6=>some (z0,z1,z2,z3,z4,z5,z6))
noncomputable def Ybx.e (k:Nat):Za0:=ent [.agg [.n,.n,.n,.l,.l,.l,.l]] [7] [.n,.n,.n,.o,.o,.o,.o] [34] false (Ybx.t k)
noncomputable def Ybx.p (k:Nat):Pro:=⟨Tryz.prog,[(26,YaO.e k),(27,Yaw.e k),(28,Yay.e k),(29,YH.e k)],hints [] false [],k⟩
theorem Ybx.ok (k:Nat):Zas Tryz.prog 7 (Ybx.e k):=ent_ok (Ybx.p k) mix tyok Tryz.func7 ⟨YaO.ok k,Yaw.ok k,Yay.ok k,YH.ok k⟩ Kr (λaB aA aD aE aG aJ aK=>Ks)
noncomputable def YD.g {β:Type} (k:Nat) (a0 a1 a2:Int) (K:Bool->Option β):Option β:=
 bif(decide ((a0:Int)>=a1)) then(K (decide ((a0:Int)<=a2))) else(K false)
noncomputable def YD.t (k:Nat) (a0 a1 a2:Int):=YD.g k a0 a1 a2 (λz0=>some z0)
noncomputable def YD.e (k:Nat):Za0:=ent [.d .n,.d .n,.d .n] [1] [.b] [4] false (YD.t k)
noncomputable def YD.p (k:Nat):Pro:=⟨Tryz.prog,[],hints [] false [],k⟩
theorem YD.ok (k:Nat):Zas Tryz.prog 20 (YD.e k):=ent_ok (YD.p k) mix tyok Tryz.func20 trivial Kr (λa0 a1 a2=>Ks)
noncomputable def Ye.l0 {β:Type} (k:Nat) (aF:BA) (K:Bool->Option β) (L0:Int->Option β) (v:Int):Option β:=
 match v with
 |aC=>bif(decide ((aC:Int)<(aF.size:Int))) then(atStr aF aC λb9=>bd1 (YD.t k (IntKind.wrap .i64 b9) 97 122) (λy10=>bif(!y10) then(atStr aF aC λb11=>bd1 (YD.t k (IntKind.wrap .i64 b11) 48 57) (λy12=>bif(!y12) then(atStr aF aC λb13=>bif((b13:Int)!=45) then(K false) else(L0 (IntKind.wrap .i64 (aC+1)))) else(L0 (IntKind.wrap .i64 (aC+1))))) else(L0 (IntKind.wrap .i64 (aC+1))))) else(bd1 (YD.t k (aF.size:Int) 1 20) (λy14=>bif y14 then(atStr aF 0 λb15=>bif((b15:Int)!=45) then(atStr aF (IntKind.wrap .i64 ((aF.size:Int)-1)) λb16=>K ((b16:Int)!=45)) else(K false)) else(K false)))
noncomputable def Ye.m {β:Type} (k:Nat) (a0:BA) (K:Bool->Option β) (F:(BA->Int->Option β)):Option β:=
 F a0 (0)
noncomputable def Ye.g {β:Type} (k:Nat) (a0:BA) (K:Bool->Option β):Option β:=
 Za1 (Ye.l0 k a0 K) k (0)
noncomputable def Ye.t (k:Nat) (a0:BA):=Ye.g k a0 (λz0=>some z0)
noncomputable def Ye.e (k:Nat):Za0:=ent [.d .s] [1] [.b] [4] false (Ye.t k)
noncomputable def Ye.p (k:Nat):Pro:=⟨Tryz.prog,[(20,YD.e k)],hints [(2,kp [0,3])] false [],k⟩
theorem Ye.l0_eq (k:Nat) (a0 aF:BA):LpEq ((Ye.p k).lf Tryz.f57 2 [1,0,1,0] [.d (.str a0)] [1] [.b]) (Ye.l0 k aF (λz0=>some z0)) (λaC=>mkSt 46 [(0,.d false (.str aF)),(3,.d true (.int .i64 aC))] []):=lf_eq λL0 v=>by kernel_rfl
theorem Ye.ok (k:Nat):Zas Tryz.prog 57 (Ye.e k):=ent_ok (Ye.p k) mix tyok Tryz.func57 (YD.ok k) Kr (λa0=>Eq.trans Kr (congrArg (Ye.m k a0 (λz0=>some z0)) (funext λaF=>funext λv=>Ye.l0_eq k a0 aF k v) :))
noncomputable def Yab.l0 {β:Type} (k:Nat) (aF:LD) (K:Bool->Option β) (L0:Int->Option β) (v:Int):Option β:=
 match v with
 |aC=>bif(decide ((aC:Int)<(aF.length:Int))) then(atR aF aC [.s,.s] λx34 x37=>(bd1 (Ye.t k x34) (λy38=>bif(!y38) then(K false) else(atR aF aC [.s,.s] λx42 x45=>(bd1 (Ye.t k x45) (λy46=>bif(!y46) then(K false) else(bif(decide ((aC:Int)>0)) then(atR aF (IntKind.wrap .i64 (aC-1)) [.s,.s] λx50 x53=>(atR aF aC [.s,.s] λx57 x60=>(bif(!(Za3 x50 x57)) then(K false) else(L0 (IntKind.wrap .i64 (aC+1)))))) else(L0 (IntKind.wrap .i64 (aC+1)))))))))) else(K (decide (((aF.length:Int):Int)<=8)))
noncomputable def Yab.m {β:Type} (k:Nat) (a0:LD) (K:Bool->Option β) (F:(LD->Int->Option β)):Option β:=
 F a0 (0)
noncomputable def Yab.g {β:Type} (k:Nat) (a0:LD) (K:Bool->Option β):Option β:=
 Za1 (Yab.l0 k a0 K) k (0)
noncomputable def Yab.t (k:Nat) (a0:LD):=Yab.g k a0 (λz0=>some z0)
noncomputable def Yab.e (k:Nat):Za0:=ent [.d .l] [1] [.b] [4] false (Yab.t k)
noncomputable def Yab.p (k:Nat):Pro:=⟨Tryz.prog,[(57,Ye.e k)],hints [(2,kp [0,3])] false [],k⟩
theorem Yab.l0_eq (k:Nat) (a0 aF:LD):LpEq ((Yab.p k).lf Tryz.f95 2 [1,0,1,0] [.d (.sl a0)] [1] [.b]) (Yab.l0 k aF (λz0=>some z0)) (λaC=>mkSt 47 [(0,.d false (.sl aF)),(3,.d true (.int .i64 aC))] []):=lf_eq λL0 v=>by kernel_rfl
theorem Yab.ok (k:Nat):Zas Tryz.prog 95 (Yab.e k):=ent_ok (Yab.p k) mix tyok Tryz.func95 (Ye.ok k) Kr (λa0=>Eq.trans Kr (congrArg (Yab.m k a0 (λz0=>some z0)) (funext λaF=>funext λv=>Yab.l0_eq k a0 aF k v) :))
noncomputable def YX.l0 {β:Type} (k:Nat) (aF:LD) (aC:Int) (K:Bool->Option β) (L0:Int->Option β) (v:Int):Option β:=
 match v with
 |aH=>bif(decide ((aH:Int)<(aF.length:Int))) then(atR aF aH [.s] λx17=>(bd1 (Ye.t k x17) (λy18=>bif(!y18) then(K false) else(bif(decide ((aH:Int)>0)) then(atR aF (IntKind.wrap .i64 (aH-1)) [.s] λx22=>(atR aF aH [.s] λx26=>(bif(!(Za3 x22 x26)) then(K false) else(L0 (IntKind.wrap .i64 (aH+1)))))) else(L0 (IntKind.wrap .i64 (aH+1))))))) else(K (decide (((aF.length:Int):Int)<=aC)))
noncomputable def YX.m {β:Type} (k:Nat) (a0:LD) (a1:Int) (K:Bool->Option β) (F:(LD->Int->Int->Option β)):Option β:=
 F a0 a1 (0)
noncomputable def YX.g {β:Type} (k:Nat) (a0:LD) (a1:Int) (K:Bool->Option β):Option β:=
 Za1 (YX.l0 k a0 a1 K) k (0)
noncomputable def YX.t (k:Nat) (a0:LD) (a1:Int):=YX.g k a0 a1 (λz0=>some z0)
noncomputable def YX.e (k:Nat):Za0:=ent [.d .l,.d .n] [1] [.b] [4] false (YX.t k)
noncomputable def YX.p (k:Nat):Pro:=⟨Tryz.prog,[(57,Ye.e k)],hints [(2,kp [0,1,5])] false [],k⟩
theorem YX.l0_eq (k:Nat) (a0:LD) (a1:Int) (aF:LD) (aC:Int):LpEq ((YX.p k).lf Tryz.f56 2 [1,0,1,0] [.d (.sl a0),.d (.int .i64 a1)] [1] [.b]) (YX.l0 k aF aC (λz0=>some z0)) (λaH=>mkSt 38 [(0,.d false (.sl aF)),(1,.d false (.int .i64 aC)),(5,.d true (.int .i64 aH))] []):=lf_eq λL0 v=>by kernel_rfl
theorem YX.ok (k:Nat):Zas Tryz.prog 56 (YX.e k):=ent_ok (YX.p k) mix tyok Tryz.func56 (Ye.ok k) Kr (λa0 a1=>Eq.trans Kr (congrArg (YX.m k a0 a1 (λz0=>some z0)) (funext λaF=>funext λaC=>funext λv=>YX.l0_eq k a0 a1 aF aC k v) :))
noncomputable def Y5.g {β:Type} (k:Nat) (aB:BA) (aA aD:LD) (aE:Int) (K:Bool->Option β):Option β:=
 bd1 (Ye.t k aB) (λy17=>bif y17 then(bd1 (Yab.t k aA) (λy61=>bif y61 then(bd1 (YX.t k aD 4) (λy62=>bif y62 then(bd1 (YD.t k aE 0 10000) (λy63=>K y63)) else(K false))) else(K false))) else(K false))
noncomputable def Y5.t (k:Nat) (aB:BA) (aA aD:LD) (aE:Int):=Y5.g k aB aA aD aE (λz0=>some z0)
noncomputable def Y5.e (k:Nat):Za0:=ent [.agg [.s,.l,.l,.n]] [1] [.b] [4] false (Y5.t k)
noncomputable def Y5.p (k:Nat):Pro:=⟨Tryz.prog,[(57,Ye.e k),(95,Yab.e k),(56,YX.e k),(20,YD.e k)],hints [] false [],k⟩
theorem Y5.ok (k:Nat):Zas Tryz.prog 54 (Y5.e k):=ent_ok (Y5.p k) mix tyok Tryz.func54 ⟨Ye.ok k,Yab.ok k,YX.ok k,YD.ok k⟩ Kr (λaB aA aD aE=>Ks)
noncomputable def YaS.l0 {β:Type} (k:Nat) (aF:LD) (aC:BA) (K:Bool->Option β) (L0:Int->Option β) (v:Int):Option β:=
 match v with
 |aH=>bif(decide ((aH:Int)<(aF.length:Int))) then(atR aF aH [.s] λx8=>(bif(ZP x8 aC) then(K true) else(L0 (IntKind.wrap .i64 (aH+1))))) else(K false)
noncomputable def YaS.m {β:Type} (k:Nat) (a0:LD) (a1:BA) (K:Bool->Option β) (F:(LD->BA->Int->Option β)):Option β:=
 F a0 a1 (0)
noncomputable def YaS.g {β:Type} (k:Nat) (a0:LD) (a1:BA) (K:Bool->Option β):Option β:=
 Za1 (YaS.l0 k a0 a1 K) k (0)
noncomputable def YaS.t (k:Nat) (a0:LD) (a1:BA):=YaS.g k a0 a1 (λz0=>some z0)
noncomputable def YaS.e (k:Nat):Za0:=ent [.d .l,.d .s] [1] [.b] [4] false (YaS.t k)
noncomputable def YaS.p (k:Nat):Pro:=⟨Tryz.prog,[],hints [(2,kp [0,1,5])] false [],k⟩
theorem YaS.l0_eq (k:Nat) (a0:LD) (a1:BA) (aF:LD) (aC:BA):LpEq ((YaS.p k).lf Tryz.f55 2 [1,0,1,0] [.d (.sl a0),.d (.str a1)] [1] [.b]) (YaS.l0 k aF aC (λz0=>some z0)) (λaH=>mkSt 18 [(0,.d false (.sl aF)),(1,.d false (.str aC)),(5,.d true (.int .i64 aH))] []):=lf_eq λL0 v=>by kernel_rfl
theorem YaS.ok (k:Nat):Zas Tryz.prog 55 (YaS.e k):=ent_ok (YaS.p k) mix tyok Tryz.func55 trivial Kr (λa0 a1=>Eq.trans Kr (congrArg (YaS.m k a0 a1 (λz0=>some z0)) (funext λaF=>funext λaC=>funext λv=>YaS.l0_eq k a0 a1 aF aC k v) :))
noncomputable def YaC.l0 {β:Type} (k:Nat) (aC aH aI:Int) (aL aM aN aO:LD) (K:Bool->Option β) (L0:Int->Option β) (v:Int):Option β:=
 match v with
 |aF=>bif(decide ((aF:Int)<(aM.length:Int))) then(atR aM aF [.s,.l,.l,.n,.n,.n] λx91 x94 x97 x100 x103 x106=>(bd1 (Y5.t k x91 x94 x97 x100) (λy107=>bif(!y107) then(K false) else(bd1 (YD.t k x103 0 aI) (λy108=>bif(!y108) then(K false) else(bd1 (YD.t k x106 0 aC) (λy109=>bif(!y109) then(K false) else(bd1 (YaS.t k aO x91) (λy110=>bif y110 then(K false) else(bif(decide ((aF:Int)>0)) then(atR aM (IntKind.wrap .i64 (aF-1)) [.s,.l,.l,.n,.n,.n] λx114 x117 x120 x123 x126 x129=>(bif(!(Za3 x114 x91)) then(K false) else(L0 (IntKind.wrap .i64 (aF+1))))) else(L0 (IntKind.wrap .i64 (aF+1))))))))))))) else(bif(decide (((aM.length:Int):Int)<=12)) then(bd1 (YX.t k aO 20) (λy130=>K y130)) else(K false))
noncomputable def YaC.m {β:Type} (k:Nat) (aB aA aD:Int) (aE aG aJ aK:LD) (K:Bool->Option β) (F:(Int->Int->Int->LD->LD->LD->LD->Int->Option β)):Option β:=
 F aB aA aD aE aG aJ aK (0)
noncomputable def YaC.g {β:Type} (k:Nat) (aB aA aD:Int) (aE aG aJ aK:LD) (K:Bool->Option β):Option β:=
 Za1 (YaC.l0 k aB aA aD aE aG aJ aK K) k (0)
noncomputable def YaC.t (k:Nat) (aB aA aD:Int) (aE aG aJ aK:LD):=YaC.g k aB aA aD aE aG aJ aK (λz0=>some z0)
noncomputable def YaC.e (k:Nat):Za0:=ent [.agg [.n,.n,.n,.l,.l,.l,.l]] [1] [.b] [4] false (YaC.t k)
noncomputable def YaC.p (k:Nat):Pro:=⟨Tryz.prog,[(54,Y5.e k),(20,YD.e k),(55,YaS.e k),(56,YX.e k)],hints [(2,kp [1,3])] false [],k⟩
theorem YaC.l0_eq (k:Nat) (aB aA aD:Int) (aE aG aJ aK:LD) (aC aH aI:Int) (aL aM aN aO:LD):LpEq ((YaC.p k).lf Tryz.f21 2 [1,0,1,0] [.agg [.int .i64 aB,.int .i64 aA,.int .i64 aD,.sl aE,.sl aG,.sl aJ,.sl aK]] [1] [.b]) (YaC.l0 k aC aH aI aL aM aN aO (λz0=>some z0)) (λaF=>mkSt 72 [(1,.bp 0 0),(3,.d true (.int .i64 aF))] [.box none 34 [.d false (.int .i64 aC),.d false (.int .i64 aH),.d false (.int .i64 aI),.d false (.sl aL),.d false (.sl aM),.d false (.sl aN),.d false (.sl aO)]]):=lf_eq λL0 v=>by kernel_rfl
theorem YaC.ok (k:Nat):Zas Tryz.prog 21 (YaC.e k):=ent_ok (YaC.p k) mix tyok Tryz.func21 ⟨Y5.ok k,YD.ok k,YaS.ok k,YX.ok k⟩ Kr (λaB aA aD aE aG aJ aK=>Eq.trans Kr (congrArg (YaC.m k aB aA aD aE aG aJ aK (λz0=>some z0)) (funext λaC=>funext λaH=>funext λaI=>funext λaL=>funext λaM=>funext λaN=>funext λaO=>funext λv=>YaC.l0_eq k aB aA aD aE aG aJ aK aC aH aI aL aM aN aO k v) :))
noncomputable def YaD.l0 {β:Type} (k:Nat) (aF:BA) (aH aI aL:Int) (aM aN aO aU:LD) (K L0:Int->Option β) (v:Int):Option β:=
 match v with
 |aC=>bif(decide ((aC:Int)<(aM.length:Int))) then(atR aM aC [.n,.s,.n,.l,.l,.l,.n,.s,.n,.l,.l,.l,.b] λx44 x47 x50 x53 x56 x59 x62 x65 x68 x71 x74 x77 x80=>(bif(ZP x47 aF) then(K aC) else(L0 (IntKind.wrap .i64 (aC+1))))) else(K (-1))
noncomputable def YaD.m {β:Type} (k:Nat) (aB aA aD:Int) (aE aG aJ aK:LD) (a1:BA) (K:Int->Option β) (F:(BA->Int->Int->Int->LD->LD->LD->LD->Int->Option β)):Option β:=
 F a1 aB aA aD aE aG aJ aK (0)
noncomputable def YaD.g {β:Type} (k:Nat) (aB aA aD:Int) (aE aG aJ aK:LD) (a1:BA) (K:Int->Option β):Option β:=
 Za1 (YaD.l0 k a1 aB aA aD aE aG aJ aK K) k (0)
noncomputable def YaD.t (k:Nat) (aB aA aD:Int) (aE aG aJ aK:LD) (a1:BA):=YaD.g k aB aA aD aE aG aJ aK a1 (λz0=>some z0)
noncomputable def YaD.e (k:Nat):Za0:=ent [.agg [.n,.n,.n,.l,.l,.l,.l],.d .s] [1] [.n] [3] false (YaD.t k)
noncomputable def YaD.p (k:Nat):Pro:=⟨Tryz.prog,[],hints [(2,kp [1,2,5])] false [],k⟩
theorem YaD.l0_eq (k:Nat) (aB aA aD:Int) (aE aG aJ aK:LD) (a1 aF:BA) (aH aI aL:Int) (aM aN aO aU:LD):LpEq ((YaD.p k).lf Tryz.f58 2 [1,0,1,0] [.agg [.int .i64 aB,.int .i64 aA,.int .i64 aD,.sl aE,.sl aG,.sl aJ,.sl aK],.d (.str a1)] [1] [.n]) (YaD.l0 k aF aH aI aL aM aN aO aU (λz0=>some z0)) (λaC=>mkSt 22 [(1,.d false (.str aF)),(2,.bp 0 0),(5,.d true (.int .i64 aC))] [.box none 34 [.d false (.int .i64 aH),.d false (.int .i64 aI),.d false (.int .i64 aL),.d false (.sl aM),.d false (.sl aN),.d false (.sl aO),.d false (.sl aU)]]):=lf_eq λL0 v=>by kernel_rfl
theorem YaD.ok (k:Nat):Zas Tryz.prog 58 (YaD.e k):=ent_ok (YaD.p k) mix tyok Tryz.func58 trivial Kr (λaB aA aD aE aG aJ aK a1=>Eq.trans Kr (congrArg (YaD.m k aB aA aD aE aG aJ aK a1 (λz0=>some z0)) (funext λaF=>funext λaH=>funext λaI=>funext λaL=>funext λaM=>funext λaN=>funext λaO=>funext λaU=>funext λv=>YaD.l0_eq k aB aA aD aE aG aJ aK a1 aF aH aI aL aM aN aO aU k v) :))
noncomputable def Yaq.l0 {β:Type} (k:Nat) (aF aH:Int) (aI:BA) (aL:LD) (K:Bool->Option β) (L0:Int->Option β) (v:Int):Option β:=
 match v with
 |aC=>bif(decide ((aC:Int)<aF)) then(atR aL aC [.s] λx20=>(bd1 (Ye.t k x20) (λy21=>bif(!y21) then(K false) else(bif(decide ((aC:Int)>0)) then(atR aL (IntKind.wrap .i64 (aC-1)) [.s] λx25=>(atR aL aC [.s] λx29=>(bif(!(Za3 x25 x29)) then(K false) else(L0 (IntKind.wrap .i64 (aC+1)))))) else(L0 (IntKind.wrap .i64 (aC+1))))))) else(bd1 (Ye.t k aI) (λy30=>bif(!y30) then(K false) else(let J0:=(bif((aH:Int)==4) then(bif((aH:Int)==4) then(K ((aF:Int)==0)) else(K false)) else(bif((aH:Int)==5) then(K ((aF:Int)==0)) else(K false)));bif((aH:Int)==1) then(bif((aH:Int)==1) then(K ((aF:Int)==1)) else(bif((aH:Int)==3) then(bd1 (YD.t k aF 1 6) (λy31=>K y31)) else J0)) else(bif((aH:Int)==2) then(K ((aF:Int)==1)) else(bif((aH:Int)==3) then(bd1 (YD.t k aF 1 6) (λy32=>K y32)) else J0)))))
noncomputable def Yaq.m {β:Type} (k:Nat) (aB:Int) (aA:BA) (aD:LD) (K:Bool->Option β) (F:(Int->Int->BA->LD->Int->Option β)):Option β:=
 F (aD.length:Int) aB aA aD (0)
noncomputable def Yaq.g {β:Type} (k:Nat) (aB:Int) (aA:BA) (aD:LD) (K:Bool->Option β):Option β:=
 Za1 (Yaq.l0 k (aD.length:Int) aB aA aD K) k (0)
noncomputable def Yaq.t (k:Nat) (aB:Int) (aA:BA) (aD:LD):=Yaq.g k aB aA aD (λz0=>some z0)
noncomputable def Yaq.e (k:Nat):Za0:=ent [.agg [.n,.s,.l]] [1] [.b] [4] false (Yaq.t k)
noncomputable def Yaq.p (k:Nat):Pro:=⟨Tryz.prog,[(57,Ye.e k),(20,YD.e k)],hints [(3,kp [1,3,4])] false [],k⟩
theorem Yaq.l0_eq (k:Nat) (aB:Int) (aA:BA) (aD:LD) (aF aH:Int) (aI:BA) (aL:LD):LpEq ((Yaq.p k).lf Tryz.f129 3 [1,1,0,1,0] [.agg [.int .i64 aB,.str aA,.sl aD]] [1] [.b]) (Yaq.l0 k aF aH aI aL (λz0=>some z0)) (λaC=>mkSt 58 [(1,.bp 0 0),(3,.d true (.int .i64 aF)),(4,.d true (.int .i64 aC))] [.box none 165 [.d false (.int .i64 aH),.d false (.str aI),.d false (.sl aL)]]):=lf_eq λL0 v=>by kernel_rfl
theorem Yaq.ok (k:Nat):Zas Tryz.prog 129 (Yaq.e k):=ent_ok (Yaq.p k) mix tyok Tryz.func129 ⟨Ye.ok k,YD.ok k⟩ Kr (λaB aA aD=>Eq.trans Kr (congrArg (Yaq.m k aB aA aD (λz0=>some z0)) (funext λaF=>funext λaH=>funext λaI=>funext λaL=>funext λv=>Yaq.l0_eq k aB aA aD aF aH aI aL k v) :))
noncomputable def YZ.l0 {β:Type} (k:Nat) (aF:LD) (K:Bool->Option β) (L0:Int->Option β) (v:Int):Option β:=
 match v with
 |aC=>bif(decide ((aC:Int)<(aF.length:Int))) then(atR aF aC [.n,.s,.l] λx37 x40 x43=>(bd1 (Yaq.t k x37 x40 x43) (λy44=>bif(!y44) then(K false) else(L0 (IntKind.wrap .i64 (aC+1)))))) else(K (decide (((aF.length:Int):Int)<=8)))
noncomputable def YZ.m {β:Type} (k:Nat) (a0:LD) (K:Bool->Option β) (F:(LD->Int->Option β)):Option β:=
 F a0 (0)
noncomputable def YZ.g {β:Type} (k:Nat) (a0:LD) (K:Bool->Option β):Option β:=
 Za1 (YZ.l0 k a0 K) k (0)
noncomputable def YZ.t (k:Nat) (a0:LD):=YZ.g k a0 (λz0=>some z0)
noncomputable def YZ.e (k:Nat):Za0:=ent [.d .l] [1] [.b] [4] false (YZ.t k)
noncomputable def YZ.p (k:Nat):Pro:=⟨Tryz.prog,[(129,Yaq.e k)],hints [(2,kp [0,3])] false [],k⟩
theorem YZ.l0_eq (k:Nat) (a0 aF:LD):LpEq ((YZ.p k).lf Tryz.f96 2 [1,0,1,0] [.d (.sl a0)] [1] [.b]) (YZ.l0 k aF (λz0=>some z0)) (λaC=>mkSt 19 [(0,.d false (.sl aF)),(3,.d true (.int .i64 aC))] []):=lf_eq λL0 v=>by kernel_rfl
theorem YZ.ok (k:Nat):Zas Tryz.prog 96 (YZ.e k):=ent_ok (YZ.p k) mix tyok Tryz.func96 (Yaq.ok k) Kr (λa0=>Eq.trans Kr (congrArg (YZ.m k a0 (λz0=>some z0)) (funext λaF=>funext λv=>YZ.l0_eq k a0 aF k v) :))
noncomputable def Y2.l0 {β:Type} (k:Nat) (aC:Int) (aH aI aL:LD) (K:Bool->Option β) (L0:Int->Option β) (v:Int):Option β:=
 match v with
 |aF=>bif(decide ((aF:Int)<(aL.length:Int))) then(atR aL aF [.s,.n] λx50 x53=>(bd1 (Ye.t k x50) (λy54=>bif(!y54) then(K false) else(atR aL aF [.s,.n] λx58 x61=>(bd1 (YD.t k x61 0 1000) (λy62=>bif(!y62) then(K false) else(bif(decide ((aF:Int)>0)) then(atR aL (IntKind.wrap .i64 (aF-1)) [.s,.n] λx66 x69=>(atR aL aF [.s,.n] λx73 x76=>(bif(!(Za3 x66 x73)) then(K false) else(L0 (IntKind.wrap .i64 (aF+1)))))) else(L0 (IntKind.wrap .i64 (aF+1)))))))))) else(bd1 (YD.t k aC 0 10000) (λy77=>bif y77 then(bd1 (YZ.t k aH) (λy78=>bif y78 then(bd1 (YX.t k aI 8) (λy79=>bif y79 then(K (decide (((aL.length:Int):Int)<=12))) else(K false))) else(K false))) else(K false)))
noncomputable def Y2.m {β:Type} (k:Nat) (aB:Int) (aA aD aE:LD) (K:Bool->Option β) (F:(Int->LD->LD->LD->Int->Option β)):Option β:=
 F aB aA aD aE (0)
noncomputable def Y2.g {β:Type} (k:Nat) (aB:Int) (aA aD aE:LD) (K:Bool->Option β):Option β:=
 Za1 (Y2.l0 k aB aA aD aE K) k (0)
noncomputable def Y2.t (k:Nat) (aB:Int) (aA aD aE:LD):=Y2.g k aB aA aD aE (λz0=>some z0)
noncomputable def Y2.e (k:Nat):Za0:=ent [.agg [.n,.l,.l,.l]] [1] [.b] [4] false (Y2.t k)
noncomputable def Y2.p (k:Nat):Pro:=⟨Tryz.prog,[(57,Ye.e k),(20,YD.e k),(96,YZ.e k),(56,YX.e k)],hints [(2,kp [1,3])] false [],k⟩
theorem Y2.l0_eq (k:Nat) (aB:Int) (aA aD aE:LD) (aC:Int) (aH aI aL:LD):LpEq ((Y2.p k).lf Tryz.f59 2 [1,0,1,0] [.agg [.int .i64 aB,.sl aA,.sl aD,.sl aE]] [1] [.b]) (Y2.l0 k aC aH aI aL (λz0=>some z0)) (λaF=>mkSt 68 [(1,.bp 0 0),(3,.d true (.int .i64 aF))] [.box none 70 [.d false (.int .i64 aC),.d false (.sl aH),.d false (.sl aI),.d false (.sl aL)]]):=lf_eq λL0 v=>by kernel_rfl
theorem Y2.ok (k:Nat):Zas Tryz.prog 59 (Y2.e k):=ent_ok (Y2.p k) mix tyok Tryz.func59 ⟨Ye.ok k,YD.ok k,YZ.ok k,YX.ok k⟩ Kr (λaB aA aD aE=>Eq.trans Kr (congrArg (Y2.m k aB aA aD aE (λz0=>some z0)) (funext λaC=>funext λaH=>funext λaI=>funext λaL=>funext λv=>Y2.l0_eq k aB aA aD aE aC aH aI aL k v) :))
noncomputable def Ybc.l0 {β:Type} (k:Nat) (aF:BA) (K:Bool->Option β) (L0:Int->Option β) (v:Int):Option β:=
 match v with
 |aC=>bif(decide ((aC:Int)<(aF.size:Int))) then(atStr aF aC λb3=>bd1 (YD.t k (IntKind.wrap .i64 b3) 32 126) (λy4=>bif(!y4) then(K false) else(L0 (IntKind.wrap .i64 (aC+1))))) else(K (decide (((aF.size:Int):Int)<=100)))
noncomputable def Ybc.m {β:Type} (k:Nat) (a0:BA) (K:Bool->Option β) (F:(BA->Int->Option β)):Option β:=
 F a0 (0)
noncomputable def Ybc.g {β:Type} (k:Nat) (a0:BA) (K:Bool->Option β):Option β:=
 Za1 (Ybc.l0 k a0 K) k (0)
noncomputable def Ybc.t (k:Nat) (a0:BA):=Ybc.g k a0 (λz0=>some z0)
noncomputable def Ybc.e (k:Nat):Za0:=ent [.d .s] [1] [.b] [4] false (Ybc.t k)
noncomputable def Ybc.p (k:Nat):Pro:=⟨Tryz.prog,[(20,YD.e k)],hints [(2,kp [0,3])] false [],k⟩
theorem Ybc.l0_eq (k:Nat) (a0 aF:BA):LpEq ((Ybc.p k).lf Tryz.f130 2 [1,0,1,0] [.d (.str a0)] [1] [.b]) (Ybc.l0 k aF (λz0=>some z0)) (λaC=>mkSt 19 [(0,.d false (.str aF)),(3,.d true (.int .i64 aC))] []):=lf_eq λL0 v=>by kernel_rfl
theorem Ybc.ok (k:Nat):Zas Tryz.prog 130 (Ybc.e k):=ent_ok (Ybc.p k) mix tyok Tryz.func130 (YD.ok k) Kr (λa0=>Eq.trans Kr (congrArg (Ybc.m k a0 (λz0=>some z0)) (funext λaF=>funext λv=>Ybc.l0_eq k a0 aF k v) :))
noncomputable def Ya7.l0 {β:Type} (k:Nat) (aC:Int) (aH:BA) (aI:Int) (aL aM:LD) (K:Bool->Option β) (L0:Int->Option β) (v:Int):Option β:=
 match v with
 |aF=>bif(decide ((aF:Int)<(aL.length:Int))) then(atR aL aF [.s] λx17=>(bd1 (Ye.t k x17) (λy18=>bif(!y18) then(K false) else(bif(decide ((aF:Int)>0)) then(atR aL (IntKind.wrap .i64 (aF-1)) [.s] λx22=>(atR aL aF [.s] λx26=>(bif(!(Za3 x22 x26)) then(K false) else(L0 (IntKind.wrap .i64 (aF+1)))))) else(L0 (IntKind.wrap .i64 (aF+1))))))) else(K (((aL.length:Int):Int)==(aM.length:Int)))
noncomputable def Ya7.m {β:Type} (k:Nat) (aB:Int) (aA:BA) (aD:Int) (aE aG:LD) (K:Bool->Option β) (F:(Int->BA->Int->LD->LD->Int->Option β)):Option β:=
 F aB aA aD aE aG (0)
noncomputable def Ya7.g {β:Type} (k:Nat) (aB:Int) (aA:BA) (aD:Int) (aE aG:LD) (K:Bool->Option β):Option β:=
 Za1 (Ya7.l0 k aB aA aD aE aG K) k (0)
noncomputable def Ya7.t (k:Nat) (aB:Int) (aA:BA) (aD:Int) (aE aG:LD):=Ya7.g k aB aA aD aE aG (λz0=>some z0)
noncomputable def Ya7.e (k:Nat):Za0:=ent [.agg [.n,.s,.n,.l,.l]] [1] [.b] [4] false (Ya7.t k)
noncomputable def Ya7.p (k:Nat):Pro:=⟨Tryz.prog,[(57,Ye.e k)],hints [(2,kp [1,3])] false [],k⟩
theorem Ya7.l0_eq (k:Nat) (aB:Int) (aA:BA) (aD:Int) (aE aG:LD) (aC:Int) (aH:BA) (aI:Int) (aL aM:LD):LpEq ((Ya7.p k).lf Tryz.f131 2 [1,0,1,0] [.agg [.int .i64 aB,.str aA,.int .i64 aD,.sl aE,.sl aG]] [1] [.b]) (Ya7.l0 k aC aH aI aL aM (λz0=>some z0)) (λaF=>mkSt 43 [(1,.bp 0 0),(3,.d true (.int .i64 aF))] [.box none 64 [.d false (.int .i64 aC),.d false (.str aH),.d false (.int .i64 aI),.d false (.sl aL),.d false (.sl aM)]]):=lf_eq λL0 v=>by kernel_rfl
theorem Ya7.ok (k:Nat):Zas Tryz.prog 131 (Ya7.e k):=ent_ok (Ya7.p k) mix tyok Tryz.func131 (Ye.ok k) Kr (λaB aA aD aE aG=>Eq.trans Kr (congrArg (Ya7.m k aB aA aD aE aG (λz0=>some z0)) (funext λaC=>funext λaH=>funext λaI=>funext λaL=>funext λaM=>funext λv=>Ya7.l0_eq k aB aA aD aE aG aC aH aI aL aM k v) :))
noncomputable def YR.l0 {β:Type} (k:Nat) (r_spec_l4Look:Int->BA->Int->LD->LD->Int->(Int->Option β)->Option β) (aF aI:Int) (aL:BA) (aM:Int) (aN aO:LD) (K:Int->Option β) (L0:(Int×Int)->Option β) (v:Int×Int):Option β:=
 match v with
 |(aC,aH)=>bif(decide ((aH:Int)<(aO.length:Int))) then(atR aO aH [.n,.s,.n,.l,.l] λx32 x35 x38 x41 x44=>(r_spec_l4Look x32 x35 x38 x41 x44 (IntKind.wrap .i64 (aF-1)) (λy45=>bif((y45:Int)==0) then(K 0) else(bif(decide (((IntKind.wrap .i64 (aC+y45)):Int)>300)) then(K 0) else(L0 (IntKind.wrap .i64 (aC+y45),IntKind.wrap .i64 (aH+1))))))) else(let J1:=(bif(ZP aL (⟨#[]⟩:BA)) then(bif(!((aM:Int)==0)) then(K 0) else(K aC)) else(K 0));let J0:=(bif(((aN.length:Int):Int)==0) then J1 else(K 0));bif(((aN.length:Int):Int)==0) then(bif((aI:Int)==1) then(bif(((aO.length:Int):Int)==0) then(bif((aM:Int)==0) then(bd1 (Ybc.t k aL) (λy46=>bif(!y46) then(K 0) else(K aC))) else(K 0)) else(K 0)) else(bif((aI:Int)==2) then(bif(((aO.length:Int):Int)==0) then(bif(!(ZP aL (⟨#[]⟩:BA))) then(K 0) else(K aC)) else(K 0)) else(bif((aI:Int)==3) then(bif(((aO.length:Int):Int)==0) then(bif(ZP aL (⟨#[]⟩:BA)) then(bd1 (YD.t k aM 0 1) (λy47=>bif(!y47) then(K 0) else(K aC))) else(K 0)) else(K 0)) else(bif((aI:Int)==4) then J0 else(bif((aI:Int)==5) then(bd1 (Ya7.t k aI aL aM aN aO) (λy48=>bif y48 then J1 else(K 0))) else(K 0)))))) else(bif((aI:Int)==1) then(K 0) else(bif((aI:Int)==2) then(K 0) else(bif((aI:Int)==3) then(K 0) else(bif((aI:Int)==4) then J0 else(bif((aI:Int)==5) then(bd1 (Ya7.t k aI aL aM aN aO) (λy49=>bif y49 then J1 else(K 0))) else(K 0)))))))
noncomputable def YR.m {β:Type} (k:Nat) (r_spec_l4Look:Int->BA->Int->LD->LD->Int->(Int->Option β)->Option β) (aB:Int) (aA:BA) (aD:Int) (aE aG:LD) (a1:Int) (K:Int->Option β) (F:(Int->Int->BA->Int->LD->LD->(Int×Int)->Option β)):Option β:=
 bif((a1:Int)==0) then(K 0) else(F a1 aB aA aD aE aG (1,0))
noncomputable def YR.body {β:Type} (k:Nat) (r_spec_l4Look:Int->BA->Int->LD->LD->Int->(Int->Option β)->Option β) (aB:Int) (aA:BA) (aD:Int) (aE aG:LD) (a1:Int) (K:Int->Option β):Option β:=
 bif((a1:Int)==0) then(K 0) else(Za1 (YR.l0 k r_spec_l4Look a1 aB aA aD aE aG K) k (1,0))
noncomputable def YR.w {β:Type} (r:Int->BA->Int->LD->LD->Int->Option (Int)) (aB:Int) (aA:BA) (aD:Int) (aE aG:LD) (a1:Int) (K:Int->Option β):Option β:=bd1 (r aB aA aD aE aG a1) K
noncomputable def YR.all:Nat->(Int->BA->Int->LD->LD->Int->Option (Int))
 |0=>(λ_ _ _ _ _ _=>none)
 |k+1=>(λr=>(λaB aA aD aE aG a1=>YR.body k (YR.w r) aB aA aD aE aG a1 (λz0=>some z0))) (YR.all k)
noncomputable def YR.t (k:Nat) (aB:Int) (aA:BA) (aD:Int) (aE aG:LD) (a1:Int):Option (Int):=(YR.all k) aB aA aD aE aG a1
noncomputable def YR.f {β:Type} (k:Nat) (aB:Int) (aA:BA) (aD:Int) (aE aG:LD) (a1:Int) (K:Int->Option β):Option β:=YR.w (YR.t k) aB aA aD aE aG a1 K
noncomputable def YR.g {β:Type} (k:Nat) (aB:Int) (aA:BA) (aD:Int) (aE aG:LD) (a1:Int) (K:Int->Option β):Option β:=YR.body k (YR.f k) aB aA aD aE aG a1 K
theorem YR.t_succ (k:Nat) (aB:Int) (aA:BA) (aD:Int) (aE aG:LD) (a1:Int):YR.t (k+1) aB aA aD aE aG a1=YR.g k aB aA aD aE aG a1 (λz0=>some z0):=rfl
noncomputable def YR.e (k:Nat):Za0:=ent [.agg [.n,.s,.n,.l,.l],.d .n] [1] [.n] [3] false (YR.t k)
noncomputable def YR.p (k:Nat):Pro:=⟨Tryz.prog,[(97,YR.e k),(130,Ybc.e k),(20,YD.e k),(131,Ya7.e k)],hints [(5,kp [1,2,5,6])] false [],k⟩
theorem YR.l0_eq (k:Nat) (aB:Int) (aA:BA) (aD:Int) (aE aG:LD) (a1 aF aI:Int) (aL:BA) (aM:Int) (aN aO:LD):LpEq ((YR.p k).lf Tryz.f97 5 [1,1,1,0,1,0] [.agg [.int .i64 aB,.str aA,.int .i64 aD,.sl aE,.sl aG],.d (.int .i64 a1)] [1] [.n]) (YR.l0 k (YR.f k) aF aI aL aM aN aO (λz0=>some z0)) (λ(aC,aH)=>mkSt 117 [(1,.d false (.int .i64 aF)),(2,.bp 0 0),(5,.d true (.int .i64 aC)),(6,.d true (.int .i64 aH))] [.box none 64 [.d false (.int .i64 aI),.d false (.str aL),.d false (.int .i64 aM),.d false (.sl aN),.d false (.sl aO)]]):=lf_eq λL0 v=>by obtain⟨aC,aH⟩:=v;kernel_rfl
theorem YR.oks (k:Nat):Zas Tryz.prog 97 (YR.e k):=by
 induction k with
 |zero=>exact ent_zero Tryz.func97 Kr (λ_ _ _ _ _ _=>rfl)
 |succ k ih=>exact ent_ok (YR.p k) mix tyok Tryz.func97 ⟨ih,Ybc.ok k,YD.ok k,Ya7.ok k⟩ Kr (λaB aA aD aE aG a1=>Eq.trans Kr ((congrArg (YR.m k (YR.f k) aB aA aD aE aG a1 (λz0=>some z0)) (funext λaF=>funext λaI=>funext λaL=>funext λaM=>funext λaN=>funext λaO=>funext λv=>YR.l0_eq k aB aA aD aE aG a1 aF aI aL aM aN aO k v)).trans (YR.t_succ k aB aA aD aE aG a1).symm))
theorem YR.ok (k:Nat):Zas Tryz.prog 97 (YR.e k):=(YR.oks k)
noncomputable def Yao.g {β:Type} (k:Nat) (aB:Int) (aA:BA) (aD:Int) (aE aG:LD) (K:Bool->Option β):Option β:=
 YR.f k aB aA aD aE aG 6 (λy50=>K (decide ((y50:Int)>0)))
noncomputable def Yao.t (k:Nat) (aB:Int) (aA:BA) (aD:Int) (aE aG:LD):=Yao.g k aB aA aD aE aG (λz0=>some z0)
noncomputable def Yao.e (k:Nat):Za0:=ent [.agg [.n,.s,.n,.l,.l]] [1] [.b] [4] false (Yao.t k)
noncomputable def Yao.p (k:Nat):Pro:=⟨Tryz.prog,[(97,YR.e k)],hints [] false [],k⟩
theorem Yao.ok (k:Nat):Zas Tryz.prog 60 (Yao.e k):=ent_ok (Yao.p k) mix tyok Tryz.func60 (YR.ok k) Kr (λaB aA aD aE aG=>Ks)
noncomputable def YL.l0 {β:Type} (k:Nat) (r_spec_l4Copy:Int->BA->Int->LD->LD->(Int->BA->Int->LC->LC->Option β)->Option β) (aC:Int) (aH:BA) (aI:Int) (aL aM:LD) (aN:Int) (aO:BA) (aU aV:Int) (aW:BA) (aZ:Int) (bK:LC) (K:Int->BA->Int->LC->LC->Option β) (L0:(Int×LC)->Option β) (v:Int×LC):Option β:=
 match v with
 |(aF,bM)=>bif(decide ((aF:Int)<(aM.length:Int))) then(atR aM aF [.n,.s,.n,.l,.l] λx25 x28 x31 x34 x37=>(r_spec_l4Copy x25 x28 x31 x34 x37 (λy38 y39 y40 y41 y42=>Z0 (bM.length+([[.d (.int .i64 y38),.d (.str y39),.d (.int .i64 y40),.own y41,.own y42]]:LC).length<=Zx) (L0 (IntKind.wrap .i64 (aF+1),bM++([[.d (.int .i64 y38),.d (.str y39),.d (.int .i64 y40),.own y41,.own y42]]:LC)))))) else(K aV aW aZ bK bM)
noncomputable def YL.m {β:Type} (k:Nat) (r_spec_l4Copy:Int->BA->Int->LD->LD->(Int->BA->Int->LC->LC->Option β)->Option β) (aB:Int) (aA:BA) (aD:Int) (aE aG:LD) (K:Int->BA->Int->LC->LC->Option β) (F:(Int->BA->Int->LD->LD->Int->BA->Int->Int->BA->Int->LC->(Int×LC)->Option β)):Option β:=
 Z0 (ZcV 1 aE) (Z0 (([]:LC).length+(aE.map (·.map C.d)).length<=Zx) (F aB aA aD aE aG 0 (⟨#[]⟩:BA) 0 aB aA aD (([]:LC)++(aE.map (·.map C.d))) (0,([]:LC))))
noncomputable def YL.body {β:Type} (k:Nat) (r_spec_l4Copy:Int->BA->Int->LD->LD->(Int->BA->Int->LC->LC->Option β)->Option β) (aB:Int) (aA:BA) (aD:Int) (aE aG:LD) (K:Int->BA->Int->LC->LC->Option β):Option β:=
 Z0 (ZcV 1 aE) (Z0 (([]:LC).length+(aE.map (·.map C.d)).length<=Zx) (Za1 (YL.l0 k r_spec_l4Copy aB aA aD aE aG 0 (⟨#[]⟩:BA) 0 aB aA aD (([]:LC)++(aE.map (·.map C.d))) K) k (0,([]:LC))))
noncomputable def YL.w {β:Type} (r:Int->BA->Int->LD->LD->Option (Int×BA×Int×LC×LC)) (aB:Int) (aA:BA) (aD:Int) (aE aG:LD) (K:Int->BA->Int->LC->LC->Option β):Option β:=bd5 (r aB aA aD aE aG) K
noncomputable def YL.all:Nat->(Int->BA->Int->LD->LD->Option (Int×BA×Int×LC×LC))
 |0=>(λ_ _ _ _ _=>none)
 |k+1=>(λr=>(λaB aA aD aE aG=>YL.body k (YL.w r) aB aA aD aE aG (λz0 z1 z2 z3 z4=>some (z0,z1,z2,z3,z4)))) (YL.all k)
noncomputable def YL.t (k:Nat) (aB:Int) (aA:BA) (aD:Int) (aE aG:LD):Option (Int×BA×Int×LC×LC):=(YL.all k) aB aA aD aE aG
noncomputable def YL.f {β:Type} (k:Nat) (aB:Int) (aA:BA) (aD:Int) (aE aG:LD) (K:Int->BA->Int->LC->LC->Option β):Option β:=YL.w (YL.t k) aB aA aD aE aG K
noncomputable def YL.g {β:Type} (k:Nat) (aB:Int) (aA:BA) (aD:Int) (aE aG:LD) (K:Int->BA->Int->LC->LC->Option β):Option β:=YL.body k (YL.f k) aB aA aD aE aG K
theorem YL.t_succ (k:Nat) (aB:Int) (aA:BA) (aD:Int) (aE aG:LD):YL.t (k+1) aB aA aD aE aG=YL.g k aB aA aD aE aG (λz0 z1 z2 z3 z4=>some (z0,z1,z2,z3,z4)):=rfl
noncomputable def YL.e (k:Nat):Za0:=ent [.agg [.n,.s,.n,.l,.l]] [5] [.n,.s,.n,.o,.o] [64] false (YL.t k)
noncomputable def YL.p (k:Nat):Pro:=⟨Tryz.prog,[(78,YL.e k)],hints [(3,kp [1,2,3,4] [] [(3,4,.row true 62)])] false [],k⟩
theorem YL.l0_eq (k:Nat) (aB:Int) (aA:BA) (aD:Int) (aE aG:LD) (aC:Int) (aH:BA) (aI:Int) (aL aM:LD) (aN:Int) (aO:BA) (aU aV:Int) (aW:BA) (aZ:Int) (bK:LC):LpEq ((YL.p k).lf Tryz.f78 3 [1,1,0,1,0] [.agg [.int .i64 aB,.str aA,.int .i64 aD,.sl aE,.sl aG]] [5] [.n,.s,.n,.o,.o]) (YL.l0 k (YL.f k) aC aH aI aL aM aN aO aU aV aW aZ bK (λz0 z1 z2 z3 z4=>some (z0,z1,z2,z3,z4))) (λ(aF,bM)=>mkSt 35 [(1,.bp 0 0),(2,.bp 1 0),(3,.bp 2 0),(4,.d true (.int .i64 aF))] [.box none 64 [.d false (.int .i64 aC),.d false (.str aH),.d false (.int .i64 aI),.d false (.sl aL),.d false (.sl aM)],.box none 64 [.d true (.int .i64 aN),.d true (.str aO),.d true (.int .i64 aU),.nil,.nil],.box none 64 [.d false (.int .i64 aV),.d false (.str aW),.d false (.int .i64 aZ),.row 3,.row 4],.row none true 25 bK,.row none true 62 bM]):=lf_eq λL0 v=>by obtain⟨aF,bM⟩:=v;kernel_rfl
theorem YL.oks (k:Nat):Zas Tryz.prog 78 (YL.e k):=by
 induction k with
 |zero=>exact ent_zero Tryz.func78 Kr (λ_ _ _ _ _=>rfl)
 |succ k ih=>exact ent_ok (YL.p k) mix tyok Tryz.func78 ih Kr (λaB aA aD aE aG=>Eq.trans Kr ((congrArg (YL.m k (YL.f k) aB aA aD aE aG (λz0 z1 z2 z3 z4=>some (z0,z1,z2,z3,z4))) (funext λaC=>funext λaH=>funext λaI=>funext λaL=>funext λaM=>funext λaN=>funext λaO=>funext λaU=>funext λaV=>funext λaW=>funext λaZ=>funext λbK=>funext λv=>YL.l0_eq k aB aA aD aE aG aC aH aI aL aM aN aO aU aV aW aZ bK k v)).trans (YL.t_succ k aB aA aD aE aG).symm))
theorem YL.ok (k:Nat):Zas Tryz.prog 78 (YL.e k):=(YL.oks k)
noncomputable def YY.l1 {β:Type} (k:Nat) (v1_0:BA) (K:Int->Option β) (L1:(Int×Int)->Option β) (v:Int×Int):Option β:=
 match v with
 |(v1_1,v1_2)=>bif(decide ((v1_2:Int)<(v1_0.size:Int))) then(atStr v1_0 v1_2 λb12=>bd1 (YD.t k (IntKind.wrap .i64 b12) 48 57) (λy13=>bif(!y13) then(K (-1)) else(atStr v1_0 v1_2 λb14=>L1 (IntKind.wrap .i64 ((IntKind.wrap .i64 (v1_1*10))+(IntKind.wrap .i64 (IntKind.wrap .u8 (b14-48)))),IntKind.wrap .i64 (v1_2+1))))) else(K v1_1)
noncomputable def YY.l0 {β:Type} (k:Nat) (aF:BA) (K:Int->Option β) (L0:(Int×Int)->Option β) (v:Int×Int):Option β:=
 match v with
 |(aC,aH)=>bif(decide ((aH:Int)<(aF.size:Int))) then(atStr aF aH λb6=>bd1 (YD.t k (IntKind.wrap .i64 b6) 48 57) (λy7=>bif(!y7) then(K (-1)) else(atStr aF aH λb8=>L0 (IntKind.wrap .i64 ((IntKind.wrap .i64 (aC*10))+(IntKind.wrap .i64 (IntKind.wrap .u8 (b8-48)))),IntKind.wrap .i64 (aH+1))))) else(K aC)
noncomputable def YY.m {β:Type} (k:Nat) (a0:BA) (K:Int->Option β) (F:(BA->(Int×Int)->Option β)×(BA->(Int×Int)->Option β)):Option β:=
 bd1 (YD.t k (a0.size:Int) 1 9) (λy1=>bif(!y1) then(K (-1)) else(bif(decide (((a0.size:Int):Int)>1)) then(atStr a0 0 λb2=>bif((b2:Int)==48) then(K (-1)) else(F.1 a0 (0,0))) else(F.2 a0 (0,0))))
noncomputable def YY.g {β:Type} (k:Nat) (a0:BA) (K:Int->Option β):Option β:=
 bd1 (YD.t k (a0.size:Int) 1 9) (λy1=>bif(!y1) then(K (-1)) else(bif(decide (((a0.size:Int):Int)>1)) then(atStr a0 0 λb2=>bif((b2:Int)==48) then(K (-1)) else(Za1 (YY.l0 k a0 K) k (0,0))) else(Za1 (YY.l1 k a0 K) k (0,0))))
noncomputable def YY.t (k:Nat) (a0:BA):=YY.g k a0 (λz0=>some z0)
noncomputable def YY.e (k:Nat):Za0:=ent [.d .s] [1] [.n] [3] false (YY.t k)
noncomputable def YY.p (k:Nat):Pro:=⟨Tryz.prog,[(20,YD.e k)],hints [(5,kp [0,3,4])] false [],k⟩
noncomputable def YY.d (k:Nat) (a0:BA):Ex->St->Option (Int):=(YY.p k).fin Tryz.f172 [.d (.str a0)] [1] [.n]
theorem YY.l1_eq (k:Nat) (a0 v1_0:BA):LpEq ((YY.p k).lp (codeOf Tryz.f172) 5 [1,1,1,0,1,0] (YY.d k a0)) (YY.l1 k v1_0 (λz0=>some z0)) (λ(v1_1,v1_2)=>mkSt 40 [(0,.d false (.str v1_0)),(3,.d true (.int .i64 v1_1)),(4,.d true (.int .i64 v1_2))] []):=lp_eq λL1 v=>by obtain⟨v1_1,v1_2⟩:=v;kernel_rfl
theorem YY.l0_eq (k:Nat) (a0 aF:BA):LpEq ((YY.p k).lp (codeOf Tryz.f172) 5 [1,1,1,0,1,0] (YY.d k a0)) (YY.l0 k aF (λz0=>some z0)) (λ(aC,aH)=>mkSt 40 [(0,.d false (.str aF)),(3,.d true (.int .i64 aC)),(4,.d true (.int .i64 aH))] []):=lp_eq λL0 v=>by obtain⟨aC,aH⟩:=v;kernel_rfl
theorem YY.ok (k:Nat):Zas Tryz.prog 172 (YY.e k):=ent_ok (YY.p k) mix tyok Tryz.func172 (YD.ok k) Kr (λa0=>Eq.trans Kr (congrArg (YY.m k a0 (λz0=>some z0)) (pair_eq (funext λaF=>funext λv=>YY.l0_eq k a0 aF k v) (funext λv1_0=>funext λv=>YY.l1_eq k a0 v1_0 k v)) :))
noncomputable def Ybb.l0 {β:Type} (k:Nat) (aF:LD) (K:Bool->Option β) (L0:Int->Option β) (v:Int):Option β:=
 match v with
 |aC=>bif(decide ((aC:Int)<(aF.length:Int))) then(atR aF aC [.s] λx20=>(bd1 (Ye.t k x20) (λy21=>bif(!y21) then(atR aF aC [.s] λx25=>(bd1 (YY.t k x25) (λy26=>bif(decide ((y26:Int)<0)) then(K false) else(L0 (IntKind.wrap .i64 (aC+1)))))) else(L0 (IntKind.wrap .i64 (aC+1)))))) else(bd1 (YD.t k (aF.length:Int) 1 5) (λy27=>K y27))
noncomputable def Ybb.m {β:Type} (k:Nat) (a0:LD) (K:Bool->Option β) (F:(LD->Int->Option β)):Option β:=
 F a0 (0)
noncomputable def Ybb.g {β:Type} (k:Nat) (a0:LD) (K:Bool->Option β):Option β:=
 Za1 (Ybb.l0 k a0 K) k (0)
noncomputable def Ybb.t (k:Nat) (a0:LD):=Ybb.g k a0 (λz0=>some z0)
noncomputable def Ybb.e (k:Nat):Za0:=ent [.d .l] [1] [.b] [4] false (Ybb.t k)
noncomputable def Ybb.p (k:Nat):Pro:=⟨Tryz.prog,[(57,Ye.e k),(172,YY.e k),(20,YD.e k)],hints [(2,kp [0,3])] false [],k⟩
theorem Ybb.l0_eq (k:Nat) (a0 aF:LD):LpEq ((Ybb.p k).lf Tryz.f146 2 [1,0,1,0] [.d (.sl a0)] [1] [.b]) (Ybb.l0 k aF (λz0=>some z0)) (λaC=>mkSt 27 [(0,.d false (.sl aF)),(3,.d true (.int .i64 aC))] []):=lf_eq λL0 v=>by kernel_rfl
theorem Ybb.ok (k:Nat):Zas Tryz.prog 146 (Ybb.e k):=ent_ok (Ybb.p k) mix tyok Tryz.func146 ⟨Ye.ok k,YY.ok k,YD.ok k⟩ Kr (λa0=>Eq.trans Kr (congrArg (Ybb.m k a0 (λz0=>some z0)) (funext λaF=>funext λv=>Ybb.l0_eq k a0 aF k v) :))
noncomputable def Ycg.g {β:Type} (k:Nat) (aB:Int) (aA:BA) (aD:Int) (aE aG:LD) (K:Bool->Option β):Option β:=
 bif((aB:Int)==0) then(bif(ZP aA (⟨#[]⟩:BA)) then(bif((aD:Int)==0) then(bif(((aE.length:Int):Int)==0) then(K (((aG.length:Int):Int)==0)) else(K false)) else(K false)) else(K false)) else(K false)
noncomputable def Ycg.t (k:Nat) (aB:Int) (aA:BA) (aD:Int) (aE aG:LD):=Ycg.g k aB aA aD aE aG (λz0=>some z0)
noncomputable def Ycg.e (k:Nat):Za0:=ent [.agg [.n,.s,.n,.l,.l]] [1] [.b] [4] false (Ycg.t k)
noncomputable def Ycg.p (k:Nat):Pro:=⟨Tryz.prog,[],hints [] false [],k⟩
theorem Ycg.ok (k:Nat):Zas Tryz.prog 147 (Ycg.e k):=ent_ok (Ycg.p k) mix tyok Tryz.func147 trivial Kr (λaB aA aD aE aG=>Ks)
noncomputable def YaV.l0 {β:Type} (k:Nat) (aF:LD) (K:Bool->Option β) (L0:Int->Option β) (v:Int):Option β:=
 match v with
 |aC=>bif(decide ((aC:Int)<(aF.length:Int))) then(atR aF aC [.n,.l,.n,.s,.n,.l,.l] λx35 x38 x41 x44 x47 x50 x53=>(bd1 (YD.t k x35 1 3) (λy54=>bif(!y54) then(K false) else(bd1 (Ybb.t k x38) (λy55=>bif(!y55) then(K false) else(bif((x35:Int)==2) then(bd1 (Ycg.t k x41 x44 x47 x50 x53) (λy56=>bif(!y56) then(K false) else(bif((x35:Int)!=2) then(bd1 (Yao.t k x41 x44 x47 x50 x53) (λy57=>bif(!y57) then(K false) else(L0 (IntKind.wrap .i64 (aC+1))))) else(L0 (IntKind.wrap .i64 (aC+1)))))) else(bif((x35:Int)!=2) then(bd1 (Yao.t k x41 x44 x47 x50 x53) (λy58=>bif(!y58) then(K false) else(L0 (IntKind.wrap .i64 (aC+1))))) else(L0 (IntKind.wrap .i64 (aC+1)))))))))) else(K (decide (((aF.length:Int):Int)<=20)))
noncomputable def YaV.m {β:Type} (k:Nat) (a0:LD) (K:Bool->Option β) (F:(LD->Int->Option β)):Option β:=
 F a0 (0)
noncomputable def YaV.g {β:Type} (k:Nat) (a0:LD) (K:Bool->Option β):Option β:=
 Za1 (YaV.l0 k a0 K) k (0)
noncomputable def YaV.t (k:Nat) (a0:LD):=YaV.g k a0 (λz0=>some z0)
noncomputable def YaV.e (k:Nat):Za0:=ent [.d .l] [1] [.b] [4] false (YaV.t k)
noncomputable def YaV.p (k:Nat):Pro:=⟨Tryz.prog,[(20,YD.e k),(146,Ybb.e k),(147,Ycg.e k),(60,Yao.e k)],hints [(2,kp [0,3])] false [],k⟩
theorem YaV.l0_eq (k:Nat) (a0 aF:LD):LpEq ((YaV.p k).lf Tryz.f116 2 [1,0,1,0] [.d (.sl a0)] [1] [.b]) (YaV.l0 k aF (λz0=>some z0)) (λaC=>mkSt 48 [(0,.d false (.sl aF)),(3,.d true (.int .i64 aC))] []):=lf_eq λL0 v=>by kernel_rfl
theorem YaV.ok (k:Nat):Zas Tryz.prog 116 (YaV.e k):=ent_ok (YaV.p k) mix tyok Tryz.func116 ⟨YD.ok k,Ybb.ok k,Ycg.ok k,Yao.ok k⟩ Kr (λa0=>Eq.trans Kr (congrArg (YaV.m k a0 (λz0=>some z0)) (funext λaF=>funext λv=>YaV.l0_eq k a0 aF k v) :))
noncomputable def YaZ.l0 {β:Type} (k:Nat) (aF:BA) (aH:Int) (aI:BA) (aL:Int) (aM aN:LD) (K L0:Int->Option β) (v:Int):Option β:=
 match v with
 |aC=>bif(decide ((aC:Int)<(aM.length:Int))) then(atR aM aC [.s] λx8=>(bif(ZP x8 aF) then(bif(decide ((aC:Int)<(aN.length:Int))) then(K aC) else(L0 (IntKind.wrap .i64 (aC+1)))) else(L0 (IntKind.wrap .i64 (aC+1))))) else(K (-1))
noncomputable def YaZ.m {β:Type} (k:Nat) (aB:Int) (aA:BA) (aD:Int) (aE aG:LD) (a1:BA) (K:Int->Option β) (F:(BA->Int->BA->Int->LD->LD->Int->Option β)):Option β:=
 bif((aB:Int)==5) then(F a1 aB aA aD aE aG (0)) else(bif((aB:Int)==4) then(bd1 (YY.t k a1) (λy9=>bif(decide ((y9:Int)<(aG.length:Int))) then(K y9) else(K (-1)))) else(K (-1)))
noncomputable def YaZ.g {β:Type} (k:Nat) (aB:Int) (aA:BA) (aD:Int) (aE aG:LD) (a1:BA) (K:Int->Option β):Option β:=
 bif((aB:Int)==5) then(Za1 (YaZ.l0 k a1 aB aA aD aE aG K) k (0)) else(bif((aB:Int)==4) then(bd1 (YY.t k a1) (λy9=>bif(decide ((y9:Int)<(aG.length:Int))) then(K y9) else(K (-1)))) else(K (-1)))
noncomputable def YaZ.t (k:Nat) (aB:Int) (aA:BA) (aD:Int) (aE aG:LD) (a1:BA):=YaZ.g k aB aA aD aE aG a1 (λz0=>some z0)
noncomputable def YaZ.e (k:Nat):Za0:=ent [.agg [.n,.s,.n,.l,.l],.d .s] [1] [.n] [3] false (YaZ.t k)
noncomputable def YaZ.p (k:Nat):Pro:=⟨Tryz.prog,[(172,YY.e k)],hints [(4,kp [1,2,5])] false [],k⟩
theorem YaZ.l0_eq (k:Nat) (aB:Int) (aA:BA) (aD:Int) (aE aG:LD) (a1 aF:BA) (aH:Int) (aI:BA) (aL:Int) (aM aN:LD):LpEq ((YaZ.p k).lf Tryz.f173 4 [1,0,1,0,1,0,1,0] [.agg [.int .i64 aB,.str aA,.int .i64 aD,.sl aE,.sl aG],.d (.str a1)] [1] [.n]) (YaZ.l0 k aF aH aI aL aM aN (λz0=>some z0)) (λaC=>mkSt 43 [(1,.d false (.str aF)),(2,.bp 0 0),(5,.d true (.int .i64 aC))] [.box none 64 [.d false (.int .i64 aH),.d false (.str aI),.d false (.int .i64 aL),.d false (.sl aM),.d false (.sl aN)]]):=lf_eq λL0 v=>by kernel_rfl
theorem YaZ.ok (k:Nat):Zas Tryz.prog 173 (YaZ.e k):=ent_ok (YaZ.p k) mix tyok Tryz.func173 (YY.ok k) Kr (λaB aA aD aE aG a1=>Eq.trans Kr (congrArg (YaZ.m k aB aA aD aE aG a1 (λz0=>some z0)) (funext λaF=>funext λaH=>funext λaI=>funext λaL=>funext λaM=>funext λaN=>funext λv=>YaZ.l0_eq k aB aA aD aE aG a1 aF aH aI aL aM aN k v) :))
noncomputable def YaR.l0 {β:Type} (k:Nat) (aF:LD) (aO:Int) (aU:BA) (aV:Int) (K:Int->BA->Int->LD->LD->Bool->Option β) (L0:(Int×Int×BA×Int×LD×LD)->Option β) (v:Int×Int×BA×Int×LD×LD):Option β:=
 match v with
 |(aC,aH,aI,aL,aM,aN)=>bif(decide ((aC:Int)<(aF.length:Int))) then(atR aF aC [.s] λx25=>(bd1 (YaZ.t k aH aI aL aM aN x25) (λy26=>bif(decide ((y26:Int)<0)) then(K 0 (⟨#[]⟩:BA) 0 ([]:LD) ([]:LD) false) else(atR aN y26 [.n,.s,.n,.l,.l] λx30 x33 x36 x39 x42=>(L0 (IntKind.wrap .i64 (aC+1),x30,x33,x36,x39,x42)))))) else(K aH aI aL aM aN true)
noncomputable def YaR.m {β:Type} (k:Nat) (aB:Int) (aA:BA) (aD:Int) (aE aG a1:LD) (K:Int->BA->Int->LD->LD->Bool->Option β) (F:(LD->Int->BA->Int->(Int×Int×BA×Int×LD×LD)->Option β)):Option β:=
 F a1 0 (⟨#[]⟩:BA) 0 (0,aB,aA,aD,aE,aG)
noncomputable def YaR.g {β:Type} (k:Nat) (aB:Int) (aA:BA) (aD:Int) (aE aG a1:LD) (K:Int->BA->Int->LD->LD->Bool->Option β):Option β:=
 Za1 (YaR.l0 k a1 0 (⟨#[]⟩:BA) 0 K) k (0,aB,aA,aD,aE,aG)
noncomputable def YaR.t (k:Nat) (aB:Int) (aA:BA) (aD:Int) (aE aG a1:LD):=YaR.g k aB aA aD aE aG a1 (λz0 z1 z2 z3 z4 z5=>some (z0,z1,z2,z3,z4,z5))
noncomputable def YaR.e (k:Nat):Za0:=ent [.agg [.n,.s,.n,.l,.l],.d .l] [5,1] [.n,.s,.n,.l,.l,.b] [64,4] true (YaR.t k)
noncomputable def YaR.p (k:Nat):Pro:=⟨Tryz.prog,[(173,YaZ.e k)],hints [(2,kp [1,2,4,6])] true [[false,false,false,true,true],[false]],k⟩
theorem YaR.l0_eq (k:Nat) (aB:Int) (aA:BA) (aD:Int) (aE aG a1 aF:LD) (aO:Int) (aU:BA) (aV:Int):LpEq ((YaR.p k).lf Tryz.f148 2 [1,0,1,0] [.agg [.int .i64 aB,.str aA,.int .i64 aD,.sl aE,.sl aG],.d (.sl a1)] [5,1] [.n,.s,.n,.l,.l,.b]) (YaR.l0 k aF aO aU aV (λz0 z1 z2 z3 z4 z5=>some (z0,z1,z2,z3,z4,z5))) (λ(aC,aH,aI,aL,aM,aN)=>mkSt 29 [(1,.d false (.sl aF)),(2,.bp 0 0),(4,.bp 1 0),(6,.d true (.int .i64 aC))] [.box none 64 [.d false (.int .i64 aH),.d false (.str aI),.d false (.int .i64 aL),.d false (.sl aM),.d false (.sl aN)],.box none 64 [.d true (.int .i64 aO),.d true (.str aU),.d true (.int .i64 aV),.nil,.nil]]):=lf_eq λL0 v=>by obtain⟨aC,aH,aI,aL,aM,aN⟩:=v;kernel_rfl
theorem YaR.ok (k:Nat):Zas Tryz.prog 148 (YaR.e k):=ent_ok (YaR.p k) mix tyok Tryz.func148 (YaZ.ok k) Kr (λaB aA aD aE aG a1=>Eq.trans Kr (congrArg (YaR.m k aB aA aD aE aG a1 (λz0 z1 z2 z3 z4 z5=>some (z0,z1,z2,z3,z4,z5))) (funext λaF=>funext λaO=>funext λaU=>funext λaV=>funext λv=>YaR.l0_eq k aB aA aD aE aG a1 aF aO aU aV k v) :))
noncomputable def Yf.l1 {β:Type} (k:Nat) (r_spec_SameValue:Int->BA->Int->LD->LD->Int->BA->Int->LD->LD->(Bool->Option β)->Option β) (v1_1:Int) (v1_2:BA) (v1_3:Int) (v1_4 v1_5:LD) (v1_6:Int) (v1_7:BA) (v1_8:Int) (v1_9 v1_10:LD) (K:Bool->Option β) (L1:Int->Option β) (v:Int):Option β:=
 match v with
 |v1_0=>bif(decide ((v1_0:Int)<(v1_5.length:Int))) then(atR v1_5 v1_0 [.n,.s,.n,.l,.l] λx119 x122 x125 x128 x131=>(atR v1_10 v1_0 [.n,.s,.n,.l,.l] λx135 x138 x141 x144 x147=>(r_spec_SameValue x119 x122 x125 x128 x131 x135 x138 x141 x144 x147 (λy148=>bif(!y148) then(K false) else(L1 (IntKind.wrap .i64 (v1_0+1))))))) else(K true)
noncomputable def Yf.m0 {β:Type} (k:Nat) (r_spec_SameValue:Int->BA->Int->LD->LD->Int->BA->Int->LD->LD->(Bool->Option β)->Option β) (aC:Int) (aH:BA) (aI:Int) (aL aM:LD) (aN:Int) (aO:BA) (aU:Int) (aV aW:LD) (K:Bool->Option β) (L0:Int->Option β) (v:Int) (F:(Int->BA->Int->LD->LD->Int->BA->Int->LD->LD->Int->Option β)):Option β:=
 match v with
 |aF=>bif(decide ((aF:Int)<(aL.length:Int))) then(atR aL aF [.s] λx78=>(atR aV aF [.s] λx82=>(bif(!(ZP x78 x82)) then(K false) else(L0 (IntKind.wrap .i64 (aF+1)))))) else(F aC aH aI aL aM aN aO aU aV aW (0))
noncomputable def Yf.l0 {β:Type} (k:Nat) (r_spec_SameValue:Int->BA->Int->LD->LD->Int->BA->Int->LD->LD->(Bool->Option β)->Option β) (aC:Int) (aH:BA) (aI:Int) (aL aM:LD) (aN:Int) (aO:BA) (aU:Int) (aV aW:LD) (K:Bool->Option β) (L0:Int->Option β) (v:Int):Option β:=Yf.m0 k r_spec_SameValue aC aH aI aL aM aN aO aU aV aW K L0 v (λv1_1 v1_2 v1_3 v1_4 v1_5 v1_6 v1_7 v1_8 v1_9 v1_10=>Za1 (Yf.l1 k r_spec_SameValue v1_1 v1_2 v1_3 v1_4 v1_5 v1_6 v1_7 v1_8 v1_9 v1_10 K) k)
noncomputable def Yf.m {β:Type} (k:Nat) (r_spec_SameValue:Int->BA->Int->LD->LD->Int->BA->Int->LD->LD->(Bool->Option β)->Option β) (aB:Int) (aA:BA) (aD:Int) (aE aG:LD) (aQ:Int) (aP:BA) (aR:Int) (aS aT:LD) (K:Bool->Option β) (F:(Int->BA->Int->LD->LD->Int->BA->Int->LD->LD->Int->Option β)):Option β:=
 bif((aB:Int)!=aQ) then(K false) else(bif(!(ZP aA aP)) then(K false) else(bif((aD:Int)!=aR) then(K false) else(bif(((aE.length:Int):Int)!=(aS.length:Int)) then(K false) else(bif(((aG.length:Int):Int)!=(aT.length:Int)) then(K false) else(F aB aA aD aE aG aQ aP aR aS aT (0))))))
noncomputable def Yf.body {β:Type} (k:Nat) (r_spec_SameValue:Int->BA->Int->LD->LD->Int->BA->Int->LD->LD->(Bool->Option β)->Option β) (aB:Int) (aA:BA) (aD:Int) (aE aG:LD) (aQ:Int) (aP:BA) (aR:Int) (aS aT:LD) (K:Bool->Option β):Option β:=Yf.m k r_spec_SameValue aB aA aD aE aG aQ aP aR aS aT K (λaC aH aI aL aM aN aO aU aV aW=>Za1 (Yf.l0 k r_spec_SameValue aC aH aI aL aM aN aO aU aV aW K) k)
noncomputable def Yf.w {β:Type} (r:Int->BA->Int->LD->LD->Int->BA->Int->LD->LD->Option (Bool)) (aB:Int) (aA:BA) (aD:Int) (aE aG:LD) (aQ:Int) (aP:BA) (aR:Int) (aS aT:LD) (K:Bool->Option β):Option β:=bd1 (r aB aA aD aE aG aQ aP aR aS aT) K
noncomputable def Yf.all:Nat->(Int->BA->Int->LD->LD->Int->BA->Int->LD->LD->Option (Bool))
 |0=>(λ_ _ _ _ _ _ _ _ _ _=>none)
 |k+1=>(λr=>(λaB aA aD aE aG aQ aP aR aS aT=>Yf.body k (Yf.w r) aB aA aD aE aG aQ aP aR aS aT (λz0=>some z0))) (Yf.all k)
noncomputable def Yf.t (k:Nat) (aB:Int) (aA:BA) (aD:Int) (aE aG:LD) (aQ:Int) (aP:BA) (aR:Int) (aS aT:LD):Option (Bool):=(Yf.all k) aB aA aD aE aG aQ aP aR aS aT
noncomputable def Yf.f {β:Type} (k:Nat) (aB:Int) (aA:BA) (aD:Int) (aE aG:LD) (aQ:Int) (aP:BA) (aR:Int) (aS aT:LD) (K:Bool->Option β):Option β:=Yf.w (Yf.t k) aB aA aD aE aG aQ aP aR aS aT K
noncomputable def Yf.g {β:Type} (k:Nat) (aB:Int) (aA:BA) (aD:Int) (aE aG:LD) (aQ:Int) (aP:BA) (aR:Int) (aS aT:LD) (K:Bool->Option β):Option β:=Yf.body k (Yf.f k) aB aA aD aE aG aQ aP aR aS aT K
theorem Yf.t_succ (k:Nat) (aB:Int) (aA:BA) (aD:Int) (aE aG:LD) (aQ:Int) (aP:BA) (aR:Int) (aS aT:LD):Yf.t (k+1) aB aA aD aE aG aQ aP aR aS aT=Yf.g k aB aA aD aE aG aQ aP aR aS aT (λz0=>some z0):=rfl
noncomputable def Yf.e (k:Nat):Za0:=ent [.agg [.n,.s,.n,.l,.l],.agg [.n,.s,.n,.l,.l]] [1] [.b] [4] false (Yf.t k)
noncomputable def Yf.p (k:Nat):Pro:=⟨Tryz.prog,[(149,Yf.e k)],hints [(4,kp [2,3,5]),(9,kp [2,3,6])] false [],k⟩
noncomputable def Yf.d (k:Nat) (aB:Int) (aA:BA) (aD:Int) (aE aG:LD) (aQ:Int) (aP:BA) (aR:Int) (aS aT:LD):Ex->St->Option (Bool):=(Yf.p k).fin Tryz.f149 [.agg [.int .i64 aB,.str aA,.int .i64 aD,.sl aE,.sl aG],.agg [.int .i64 aQ,.str aP,.int .i64 aR,.sl aS,.sl aT]] [1] [.b]
noncomputable def Yf.s0 (aC:Int) (aH:BA) (aI:Int) (aL aM:LD) (aN:Int) (aO:BA) (aU:Int) (aV aW:LD) (v:Int):St:=
 match v with
 |aF=>mkSt 81 [(2,.bp 0 0),(3,.bp 1 0),(5,.d true (.int .i64 aF))] [.box none 64 [.d false (.int .i64 aC),.d false (.str aH),.d false (.int .i64 aI),.d false (.sl aL),.d false (.sl aM)],.box none 64 [.d false (.int .i64 aN),.d false (.str aO),.d false (.int .i64 aU),.d false (.sl aV),.d false (.sl aW)]]
theorem Yf.l1_eq (k:Nat) (aB:Int) (aA:BA) (aD:Int) (aE aG:LD) (aQ:Int) (aP:BA) (aR:Int) (aS aT:LD) (v1_1:Int) (v1_2:BA) (v1_3:Int) (v1_4 v1_5:LD) (v1_6:Int) (v1_7:BA) (v1_8:Int) (v1_9 v1_10:LD):LpEq ((Yf.p k).lp (codeOf Tryz.f149) 9 [1,1,1,0,1,0] (Yf.d k aB aA aD aE aG aQ aP aR aS aT)) (Yf.l1 k (Yf.f k) v1_1 v1_2 v1_3 v1_4 v1_5 v1_6 v1_7 v1_8 v1_9 v1_10 (λz0=>some z0)) (λv1_0=>mkSt 81 [(2,.bp 0 0),(3,.bp 1 0),(6,.d true (.int .i64 v1_0))] [.box none 64 [.d false (.int .i64 v1_1),.d false (.str v1_2),.d false (.int .i64 v1_3),.d false (.sl v1_4),.d false (.sl v1_5)],.box none 64 [.d false (.int .i64 v1_6),.d false (.str v1_7),.d false (.int .i64 v1_8),.d false (.sl v1_9),.d false (.sl v1_10)]]):=lp_eq λL1 v=>by kernel_rfl
theorem Yf.l0_eq (k:Nat) (aB:Int) (aA:BA) (aD:Int) (aE aG:LD) (aQ:Int) (aP:BA) (aR:Int) (aS aT:LD) (aC:Int) (aH:BA) (aI:Int) (aL aM:LD) (aN:Int) (aO:BA) (aU:Int) (aV aW:LD):LpEq ((Yf.p k).lp (codeOf Tryz.f149) 4 [1,1,0,1,0] (Yf.d k aB aA aD aE aG aQ aP aR aS aT)) (Yf.l0 k (Yf.f k) aC aH aI aL aM aN aO aU aV aW (λz0=>some z0)) (Yf.s0 aC aH aI aL aM aN aO aU aV aW):=lp_eq λL0 v=>by exact Eq.trans Kr (congrArg (Yf.m0 k (Yf.f k) aC aH aI aL aM aN aO aU aV aW (λz0=>some z0) (λv=>L0 (Yf.s0 aC aH aI aL aM aN aO aU aV aW v)) v) (funext λv1_1=>funext λv1_2=>funext λv1_3=>funext λv1_4=>funext λv1_5=>funext λv1_6=>funext λv1_7=>funext λv1_8=>funext λv1_9=>funext λv1_10=>funext λv=>Yf.l1_eq k aB aA aD aE aG aQ aP aR aS aT v1_1 v1_2 v1_3 v1_4 v1_5 v1_6 v1_7 v1_8 v1_9 v1_10 k v) :)
theorem Yf.oks (k:Nat):Zas Tryz.prog 149 (Yf.e k):=by
 induction k with
 |zero=>exact ent_zero Tryz.func149 Kr (λ_ _ _ _ _ _ _ _ _ _=>rfl)
 |succ k ih=>exact ent_ok (Yf.p k) mix tyok Tryz.func149 ih Kr (λaB aA aD aE aG aQ aP aR aS aT=>Eq.trans Kr ((congrArg (Yf.m k (Yf.f k) aB aA aD aE aG aQ aP aR aS aT (λz0=>some z0)) (funext λaC=>funext λaH=>funext λaI=>funext λaL=>funext λaM=>funext λaN=>funext λaO=>funext λaU=>funext λaV=>funext λaW=>funext λv=>Yf.l0_eq k aB aA aD aE aG aQ aP aR aS aT aC aH aI aL aM aN aO aU aV aW k v)).trans (Yf.t_succ k aB aA aD aE aG aQ aP aR aS aT).symm))
theorem Yf.ok (k:Nat):Zas Tryz.prog 149 (Yf.e k):=(Yf.oks k)
noncomputable def Ybi.l0 {β:Type} (k:Nat) (aF:BA) (aI:Int) (aL:BA) (aM:Int) (aN aO:LD) (aU:Int) (aV:BA) (aW:Int) (aZ bK:LD) (bM:Int) (v0_14:BA) (v0_15 v0_16:Int) (v0_17:BA) (v0_18:Int) (K:Int->BA->Int->LD->LD->Bool->Option β) (L0:(Bool×Int×LC×LC)->Option β) (v:Bool×Int×LC×LC):Option β:=
 match v with
 |(aC,aH,v0_19,v0_20)=>let J0:=(v0_20.length+([[.d (.int .i64 aU),.d (.str aV),.d (.int .i64 aW),.d (.sl aZ),.d (.sl bK)]]:LC).length<=Zx);let J1:=(v0_20++([[.d (.int .i64 aU),.d (.str aV),.d (.int .i64 aW),.d (.sl aZ),.d (.sl bK)]]:LC));let J2:=(v0_19.length+([[.d (.str aF)]]:LC).length<=Zx);bif(decide ((aH:Int)<(aN.length:Int))) then(bif(!aC) then(atR aN aH [.s] λx83=>(bif(!(Za3 x83 aF)) then(Z0 J2 (Z0 J0 (atR aN aH [.s] λx87=>(bif(!(ZP x87 aF)) then(atR aN aH [.s] λx91=>(Z0 ((v0_19++([[.d (.str aF)]]:LC)).length+([[.d (.str x91)]]:LC).length<=Zx) (atR aO aH [.n,.s,.n,.l,.l] λx95 x98 x101 x104 x107=>(Z0 (J1.length+([[.d (.int .i64 x95),.d (.str x98),.d (.int .i64 x101),.d (.sl x104),.d (.sl x107)]]:LC).length<=Zx) (L0 (true,IntKind.wrap .i64 (aH+1),(v0_19++([[.d (.str aF)]]:LC))++([[.d (.str x91)]]:LC),J1++([[.d (.int .i64 x95),.d (.str x98),.d (.int .i64 x101),.d (.sl x104),.d (.sl x107)]]:LC))))))) else(L0 (true,IntKind.wrap .i64 (aH+1),v0_19++([[.d (.str aF)]]:LC),v0_20++([[.d (.int .i64 aU),.d (.str aV),.d (.int .i64 aW),.d (.sl aZ),.d (.sl bK)]]:LC))))))) else(atR aN aH [.s] λx111=>(bif(!(ZP x111 aF)) then(atR aN aH [.s] λx115=>(Z0 (v0_19.length+([[.d (.str x115)]]:LC).length<=Zx) (atR aO aH [.n,.s,.n,.l,.l] λx119 x122 x125 x128 x131=>(Z0 (v0_20.length+([[.d (.int .i64 x119),.d (.str x122),.d (.int .i64 x125),.d (.sl x128),.d (.sl x131)]]:LC).length<=Zx) (L0 (aC,IntKind.wrap .i64 (aH+1),v0_19++([[.d (.str x115)]]:LC),v0_20++([[.d (.int .i64 x119),.d (.str x122),.d (.int .i64 x125),.d (.sl x128),.d (.sl x131)]]:LC))))))) else(L0 (aC,IntKind.wrap .i64 (aH+1),v0_19,v0_20)))))) else(atR aN aH [.s] λx135=>(bif(!(ZP x135 aF)) then(atR aN aH [.s] λx139=>(Z0 (v0_19.length+([[.d (.str x139)]]:LC).length<=Zx) (atR aO aH [.n,.s,.n,.l,.l] λx143 x146 x149 x152 x155=>(Z0 (v0_20.length+([[.d (.int .i64 x143),.d (.str x146),.d (.int .i64 x149),.d (.sl x152),.d (.sl x155)]]:LC).length<=Zx) (L0 (aC,IntKind.wrap .i64 (aH+1),v0_19++([[.d (.str x139)]]:LC),v0_20++([[.d (.int .i64 x143),.d (.str x146),.d (.int .i64 x149),.d (.sl x152),.d (.sl x155)]]:LC))))))) else(L0 (aC,IntKind.wrap .i64 (aH+1),v0_19,v0_20))))) else(bif(!aC) then(Z0 J2 (Z0 J0 (K v0_16 v0_17 v0_18 (C.immRows (v0_19++([[.d (.str aF)]]:LC))) (C.immRows J1) true))) else(K v0_16 v0_17 v0_18 (C.immRows v0_19) (C.immRows v0_20) true))
noncomputable def Ybi.m {β:Type} (k:Nat) (aB:Int) (aA:BA) (aD:Int) (aE aG:LD) (a1:BA) (bG:Int) (bL:BA) (bH:Int) (bI bJ:LD) (K:Int->BA->Int->LD->LD->Bool->Option β) (F:(BA->Int->BA->Int->LD->LD->Int->BA->Int->LD->LD->Int->BA->Int->Int->BA->Int->(Bool×Int×LC×LC)->Option β)):Option β:=
 bif((aB:Int)==4) then(bd1 (YY.t k a1) (λy1=>bd1 (YD.t k y1 0 (aG.length:Int)) (λy2=>bif(!y2) then(K aB aA aD aE aG false) else(let J5:=((aG.drop (Int.toNat (0:Int))).take (Int.toNat (y1:Int)-Int.toNat (0:Int)));let J4:=(J5.map (·.map C.d));let J3:=(([]:LC)++J4);let J0:=(J3++([[.d (.int .i64 bG),.d (.str bL),.d (.int .i64 bH),.d (.sl bI),.d (.sl bJ)]]:LC));Z0 (0<=(0:Int)/\(0:Int)<=(y1:Int)/\(y1:Int)<=(aG.length:Int)/\rowsOk 5 aG) (Z0 (rowsOk 5 J5) (Z0 (([]:LC).length+J4.length<=Zx) (Z0 (J3.length+([[.d (.int .i64 bG),.d (.str bL),.d (.int .i64 bH),.d (.sl bI),.d (.sl bJ)]]:LC).length<=Zx) (bif(decide ((y1:Int)<(aG.length:Int))) then(let J2:=((aG.drop (Int.toNat (IntKind.wrap .i64 (y1+1):Int))).take (Int.toNat (aG.length:Int)-Int.toNat (IntKind.wrap .i64 (y1+1):Int)));let J1:=(J2.map (·.map C.d));Z0 (0<=(IntKind.wrap .i64 (y1+1):Int)/\(IntKind.wrap .i64 (y1+1):Int)<=(aG.length:Int)/\(aG.length:Int)<=(aG.length:Int)/\rowsOk 5 aG) (Z0 (rowsOk 5 J2) (Z0 (J0.length+J1.length<=Zx) (K aB (⟨#[]⟩:BA) 0 ([]:LD) (C.immRows (J0++J1)) true)))) else(K aB (⟨#[]⟩:BA) 0 ([]:LD) (C.immRows J0) true))))))))) else(bif((aB:Int)!=5) then(K aB aA aD aE aG false) else(bd1 (Ye.t k a1) (λy3=>bif(!y3) then(K aB aA aD aE aG false) else(F a1 aB aA aD aE aG bG bL bH bI bJ 0 (⟨#[]⟩:BA) 0 aB (⟨#[]⟩:BA) 0 (false,0,([]:LC),([]:LC))))))
noncomputable def Ybi.g {β:Type} (k:Nat) (aB:Int) (aA:BA) (aD:Int) (aE aG:LD) (a1:BA) (bG:Int) (bL:BA) (bH:Int) (bI bJ:LD) (K:Int->BA->Int->LD->LD->Bool->Option β):Option β:=Ybi.m k aB aA aD aE aG a1 bG bL bH bI bJ K (λaF aI aL aM aN aO aU aV aW aZ bK bM v0_14 v0_15 v0_16 v0_17 v0_18=>Za1 (Ybi.l0 k aF aI aL aM aN aO aU aV aW aZ bK bM v0_14 v0_15 v0_16 v0_17 v0_18 K) k)
noncomputable def Ybi.t (k:Nat) (aB:Int) (aA:BA) (aD:Int) (aE aG:LD) (a1:BA) (bG:Int) (bL:BA) (bH:Int) (bI bJ:LD):=Ybi.g k aB aA aD aE aG a1 bG bL bH bI bJ (λz0 z1 z2 z3 z4 z5=>some (z0,z1,z2,z3,z4,z5))
noncomputable def Ybi.e (k:Nat):Za0:=ent [.agg [.n,.s,.n,.l,.l],.d .s,.agg [.n,.s,.n,.l,.l]] [5,1] [.n,.s,.n,.l,.l,.b] [64,4] true (Ybi.t k)
noncomputable def Ybi.p (k:Nat):Pro:=⟨Tryz.prog,[(172,YY.e k),(20,YD.e k),(57,Ye.e k)],hints [(14,kp [1,3,5,6,8,10,11] [] [(8,3,.row true 25),(8,4,.row false 62)])] true [[false,false,false,true,true],[false]],k⟩
theorem Ybi.l0_eq (k:Nat) (aB:Int) (aA:BA) (aD:Int) (aE aG:LD) (a1:BA) (bG:Int) (bL:BA) (bH:Int) (bI bJ:LD) (aF:BA) (aI:Int) (aL:BA) (aM:Int) (aN aO:LD) (aU:Int) (aV:BA) (aW:Int) (aZ bK:LD) (bM:Int) (v0_14:BA) (v0_15 v0_16:Int) (v0_17:BA) (v0_18:Int):LpEq ((Ybi.p k).lf Tryz.f174 14 [1,1,1,1,1,0,1,0] [.agg [.int .i64 aB,.str aA,.int .i64 aD,.sl aE,.sl aG],.d (.str a1),.agg [.int .i64 bG,.str bL,.int .i64 bH,.sl bI,.sl bJ]] [5,1] [.n,.s,.n,.l,.l,.b]) (Ybi.l0 k aF aI aL aM aN aO aU aV aW aZ bK bM v0_14 v0_15 v0_16 v0_17 v0_18 (λz0 z1 z2 z3 z4 z5=>some (z0,z1,z2,z3,z4,z5))) (λ(aC,aH,v0_19,v0_20)=>mkSt 133 [(1,.d false (.str aF)),(3,.bp 0 0),(5,.bp 1 0),(6,.bp 2 0),(8,.bp 3 0),(10,.d true (.bool aC)),(11,.d true (.int .i64 aH))] [.box none 64 [.d false (.int .i64 aI),.d false (.str aL),.d false (.int .i64 aM),.d false (.sl aN),.d false (.sl aO)],.box none 64 [.d false (.int .i64 aU),.d false (.str aV),.d false (.int .i64 aW),.d false (.sl aZ),.d false (.sl bK)],.box none 64 [.d true (.int .i64 bM),.d true (.str v0_14),.d true (.int .i64 v0_15),.nil,.nil],.box none 64 [.d false (.int .i64 v0_16),.d true (.str v0_17),.d true (.int .i64 v0_18),.row 4,.row 5],.row none true 25 v0_19,.row none false 62 v0_20]):=lf_eq λL0 v=>by obtain⟨aC,aH,v0_19,v0_20⟩:=v;kernel_rfl
theorem Ybi.ok (k:Nat):Zas Tryz.prog 174 (Ybi.e k):=ent_ok (Ybi.p k) mix tyok Tryz.func174 ⟨YY.ok k,YD.ok k,Ye.ok k⟩ Kr (λaB aA aD aE aG a1 bG bL bH bI bJ=>Eq.trans Kr (congrArg (Ybi.m k aB aA aD aE aG a1 bG bL bH bI bJ (λz0 z1 z2 z3 z4 z5=>some (z0,z1,z2,z3,z4,z5))) (funext λaF=>funext λaI=>funext λaL=>funext λaM=>funext λaN=>funext λaO=>funext λaU=>funext λaV=>funext λaW=>funext λaZ=>funext λbK=>funext λbM=>funext λv0_14=>funext λv0_15=>funext λv0_16=>funext λv0_17=>funext λv0_18=>funext λv=>Ybi.l0_eq k aB aA aD aE aG a1 bG bL bH bI bJ aF aI aL aM aN aO aU aV aW aZ bK bM v0_14 v0_15 v0_16 v0_17 v0_18 k v) :))
noncomputable def Ycs.g {β:Type} (k:Nat) (aB:Int) (aA:BA) (aD:Int) (aE aG:LD) (a1:BA) (K:Int->BA->Int->LD->LD->Bool->Option β):Option β:=
 bd1 (YaZ.t k aB aA aD aE aG a1) (λy1=>bif(decide ((y1:Int)<0)) then(K aB aA aD aE aG false) else(let J3:=((aG.drop (Int.toNat (IntKind.wrap .i64 (y1+1):Int))).take (Int.toNat (aG.length:Int)-Int.toNat (IntKind.wrap .i64 (y1+1):Int)));let J1:=(J3.map (·.map C.d));let J9:=((aG.drop (Int.toNat (0:Int))).take (Int.toNat (y1:Int)-Int.toNat (0:Int)));let J7:=(J9.map (·.map C.d));let J5:=(([]:LC)++J7);let J0:=(C.immRows (J5++J1));Z0 (0<=(0:Int)/\(0:Int)<=(y1:Int)/\(y1:Int)<=(aG.length:Int)/\rowsOk 5 aG) (Z0 (rowsOk 5 J9) (Z0 (([]:LC).length+J7.length<=Zx) (Z0 (0<=(IntKind.wrap .i64 (y1+1):Int)/\(IntKind.wrap .i64 (y1+1):Int)<=(aG.length:Int)/\(aG.length:Int)<=(aG.length:Int)/\rowsOk 5 aG) (Z0 (rowsOk 5 J3) (Z0 (J5.length+J1.length<=Zx) (bif((aB:Int)==5) then(let J4:=((aE.drop (Int.toNat (IntKind.wrap .i64 (y1+1):Int))).take (Int.toNat (aE.length:Int)-Int.toNat (IntKind.wrap .i64 (y1+1):Int)));let J2:=(J4.map (·.map C.d));let J10:=((aE.drop (Int.toNat (0:Int))).take (Int.toNat (y1:Int)-Int.toNat (0:Int)));let J8:=(J10.map (·.map C.d));let J6:=(([]:LC)++J8);Z0 (0<=(0:Int)/\(0:Int)<=(y1:Int)/\(y1:Int)<=(aE.length:Int)/\rowsOk 1 aE) (Z0 (ZcV 1 J10) (Z0 (([]:LC).length+J8.length<=Zx) (Z0 (0<=(IntKind.wrap .i64 (y1+1):Int)/\(IntKind.wrap .i64 (y1+1):Int)<=(aE.length:Int)/\(aE.length:Int)<=(aE.length:Int)/\rowsOk 1 aE) (Z0 (ZcV 1 J4) (Z0 (J6.length+J2.length<=Zx) (K aB (⟨#[]⟩:BA) 0 (C.immRows (J6++J2)) J0 true))))))) else(K aB (⟨#[]⟩:BA) 0 ([]:LD) J0 true)))))))))
noncomputable def Ycs.t (k:Nat) (aB:Int) (aA:BA) (aD:Int) (aE aG:LD) (a1:BA):=Ycs.g k aB aA aD aE aG a1 (λz0 z1 z2 z3 z4 z5=>some (z0,z1,z2,z3,z4,z5))
noncomputable def Ycs.e (k:Nat):Za0:=ent [.agg [.n,.s,.n,.l,.l],.d .s] [5,1] [.n,.s,.n,.l,.l,.b] [64,4] true (Ycs.t k)
noncomputable def Ycs.p (k:Nat):Pro:=⟨Tryz.prog,[(173,YaZ.e k)],hints [] true [[false,false,false,true,true],[false]],k⟩
theorem Ycs.ok (k:Nat):Zas Tryz.prog 175 (Ycs.e k):=ent_ok (Ycs.p k) mix tyok Tryz.func175 (YaZ.ok k) Kr (λaB aA aD aE aG a1=>Ks)
noncomputable def Yai.body {β:Type} (k:Nat) (r_spec_l5Do:Int->BA->Int->LD->LD->Int->LD->Int->BA->Int->LD->LD->Int->(Int->BA->Int->LD->LD->Bool->Option β)->Option β) (aB:Int) (aA:BA) (aD:Int) (aE aG:LD) (aQ:Int) (aP:LD) (aR:Int) (aS:BA) (aT:Int) (aX bC:LD) (a2:Int) (K:Int->BA->Int->LD->LD->Bool->Option β):Option β:=
 atR aP a2 [.s] λx4=>(bif((a2:Int)==(IntKind.wrap .i64 ((aP.length:Int)-1))) then(bif((aQ:Int)==1) then(bd6 (Ybi.t k aB aA aD aE aG x4 aR aS aT aX bC) (λy156 y157 y158 y159 y160 y161=>K y156 y157 y158 y159 y160 y161)) else(bd6 (Ycs.t k aB aA aD aE aG x4) (λy162 y163 y164 y165 y166 y167=>K y162 y163 y164 y165 y166 y167))) else(bd1 (YaZ.t k aB aA aD aE aG x4) (λy168=>bif(decide ((y168:Int)<0)) then(K aB aA aD aE aG false) else(atR aG y168 [.n,.s,.n,.l,.l] λx172 x175 x178 x181 x184=>(r_spec_l5Do x172 x175 x178 x181 x184 aQ aP aR aS aT aX bC (IntKind.wrap .i64 (a2+1)) (λy185 y186 y187 y188 y189 y190=>bif(!y190) then(K aB aA aD aE aG false) else(Z0 (rowsOk 5 aG) (Z0 (([]:LC).length+(aG.map (·.map C.d)).length<=Zx) (Z0 ((0:Int)<=y168/\y168<((([]:LC)++(aG.map (·.map C.d))).length:Int)) (Z0 (Int.toNat y168<(([]:LC)++(aG.map (·.map C.d))).length) (K aB (⟨#[]⟩:BA) 0 aE (C.immRows ((([]:LC)++(aG.map (·.map C.d))).modify (Int.toNat y168) λc=>ZE c 0 [.d (.int .i64 y185),.d (.str y186),.d (.int .i64 y187),.d (.sl y188),.d (.sl y189)])) true)))))))))))
noncomputable def Yai.w {β:Type} (r:Int->BA->Int->LD->LD->Int->LD->Int->BA->Int->LD->LD->Int->Option (Int×BA×Int×LD×LD×Bool)) (aB:Int) (aA:BA) (aD:Int) (aE aG:LD) (aQ:Int) (aP:LD) (aR:Int) (aS:BA) (aT:Int) (aX bC:LD) (a2:Int) (K:Int->BA->Int->LD->LD->Bool->Option β):Option β:=match r aB aA aD aE aG aQ aP aR aS aT aX bC a2 with|some (z0,z1,z2,z3,z4,z5)=>K z0 z1 z2 z3 z4 z5|none=>none
noncomputable def Yai.all:Nat->(Int->BA->Int->LD->LD->Int->LD->Int->BA->Int->LD->LD->Int->Option (Int×BA×Int×LD×LD×Bool))
 |0=>(λ_ _ _ _ _ _ _ _ _ _ _ _ _=>none)
 |k+1=>(λr=>(λaB aA aD aE aG aQ aP aR aS aT aX bC a2=>Yai.body k (Yai.w r) aB aA aD aE aG aQ aP aR aS aT aX bC a2 (λz0 z1 z2 z3 z4 z5=>some (z0,z1,z2,z3,z4,z5)))) (Yai.all k)
noncomputable def Yai.t (k:Nat) (aB:Int) (aA:BA) (aD:Int) (aE aG:LD) (aQ:Int) (aP:LD) (aR:Int) (aS:BA) (aT:Int) (aX bC:LD) (a2:Int):Option (Int×BA×Int×LD×LD×Bool):=(Yai.all k) aB aA aD aE aG aQ aP aR aS aT aX bC a2
noncomputable def Yai.f {β:Type} (k:Nat) (aB:Int) (aA:BA) (aD:Int) (aE aG:LD) (aQ:Int) (aP:LD) (aR:Int) (aS:BA) (aT:Int) (aX bC:LD) (a2:Int) (K:Int->BA->Int->LD->LD->Bool->Option β):Option β:=Yai.w (Yai.t k) aB aA aD aE aG aQ aP aR aS aT aX bC a2 K
noncomputable def Yai.g {β:Type} (k:Nat) (aB:Int) (aA:BA) (aD:Int) (aE aG:LD) (aQ:Int) (aP:LD) (aR:Int) (aS:BA) (aT:Int) (aX bC:LD) (a2:Int) (K:Int->BA->Int->LD->LD->Bool->Option β):Option β:=Yai.body k (Yai.f k) aB aA aD aE aG aQ aP aR aS aT aX bC a2 K
theorem Yai.t_succ (k:Nat) (aB:Int) (aA:BA) (aD:Int) (aE aG:LD) (aQ:Int) (aP:LD) (aR:Int) (aS:BA) (aT:Int) (aX bC:LD) (a2:Int):Yai.t (k+1) aB aA aD aE aG aQ aP aR aS aT aX bC a2=Yai.g k aB aA aD aE aG aQ aP aR aS aT aX bC a2 (λz0 z1 z2 z3 z4 z5=>some (z0,z1,z2,z3,z4,z5)):=rfl
noncomputable def Yai.e (k:Nat):Za0:=ent [.agg [.n,.s,.n,.l,.l],.agg [.n,.l,.n,.s,.n,.l,.l],.d .n] [5,1] [.n,.s,.n,.l,.l,.b] [64,4] true (Yai.t k)
noncomputable def Yai.p (k:Nat):Pro:=⟨Tryz.prog,[(174,Ybi.e k),(175,Ycs.e k),(173,YaZ.e k),(150,Yai.e k)],hints [] true [[false,false,false,false,true],[false]],k⟩
theorem Yai.oks (k:Nat):Zas Tryz.prog 150 (Yai.e k):=by
 induction k with
 |zero=>exact ent_zero Tryz.func150 Kr (λ_ _ _ _ _ _ _ _ _ _ _ _ _=>rfl)
 |succ k ih=>exact ent_ok (Yai.p k) mix tyok Tryz.func150 ⟨Ybi.ok k,Ycs.ok k,YaZ.ok k,ih⟩ Kr (λaB aA aD aE aG aQ aP aR aS aT aX bC a2=>Ks)
theorem Yai.ok (k:Nat):Zas Tryz.prog 150 (Yai.e k):=(Yai.oks k)
noncomputable def Ycm.g {β:Type} (k:Nat) (aB:Int) (aA:BA) (aD:Int) (aE aG:LD) (aQ:Int) (aP:LD) (aR:Int) (aS:BA) (aT:Int) (aX bC:LD) (K:Int->BA->Int->LD->LD->Bool->Option β):Option β:=
 bif((aQ:Int)==3) then(bd6 (YaR.t k aB aA aD aE aG aP) (λy1 y2 y3 y4 y5 y6=>bif y6 then(Yf.f k y1 y2 y3 y4 y5 aR aS aT aX bC (λy7=>K aB aA aD aE aG y7)) else(K aB aA aD aE aG false))) else(Yai.f k aB aA aD aE aG aQ aP aR aS aT aX bC 0 (λy191 y192 y193 y194 y195 y196=>bif y196 then(bd1 (Yao.t k y191 y192 y193 y194 y195) (λy197=>K y191 y192 y193 y194 y195 y197)) else(K y191 y192 y193 y194 y195 false)))
noncomputable def Ycm.t (k:Nat) (aB:Int) (aA:BA) (aD:Int) (aE aG:LD) (aQ:Int) (aP:LD) (aR:Int) (aS:BA) (aT:Int) (aX bC:LD):=Ycm.g k aB aA aD aE aG aQ aP aR aS aT aX bC (λz0 z1 z2 z3 z4 z5=>some (z0,z1,z2,z3,z4,z5))
noncomputable def Ycm.e (k:Nat):Za0:=ent [.agg [.n,.s,.n,.l,.l],.agg [.n,.l,.n,.s,.n,.l,.l]] [5,1] [.n,.s,.n,.l,.l,.b] [64,4] true (Ycm.t k)
noncomputable def Ycm.p (k:Nat):Pro:=⟨Tryz.prog,[(148,YaR.e k),(149,Yf.e k),(150,Yai.e k),(60,Yao.e k)],hints [] true [],k⟩
theorem Ycm.ok (k:Nat):Zas Tryz.prog 117 (Ycm.e k):=ent_ok (Ycm.p k) mix tyok Tryz.func117 ⟨YaR.ok k,Yf.ok k,Yai.ok k,Yao.ok k⟩ Kr (λaB aA aD aE aG aQ aP aR aS aT aX bC=>Ks)
noncomputable def Ya3.l0 {β:Type} (k:Nat) (aF:LD) (aH:Int) (aI:BA) (aL:Int) (aM aN:LD) (aO:Int) (aU:BA) (aV:Int) (K:Int->BA->Int->LC->LC->Int->Option β) (L0:(Int×Int×BA×Int×LD×LD)->Option β) (v:Int×Int×BA×Int×LD×LD):Option β:=
 match v with
 |(aC,aW,aZ,bK,bM,v0_14)=>bif(decide ((aC:Int)<(aF.length:Int))) then(atR aF aC [.n,.l,.n,.s,.n,.l,.l] λx217 x220 x223 x226 x229 x232 x235=>(bd6 (Ycm.t k aW aZ bK bM v0_14 x217 x220 x223 x226 x229 x232 x235) (λy236 y237 y238 y239 y240 y241=>bif(!y241) then(YL.f k aH aI aL aM aN (λy242 y243 y244 y245 y246=>K y242 y243 y244 y245 y246 aC)) else(L0 (IntKind.wrap .i64 (aC+1),y236,y237,y238,y239,y240))))) else(YL.f k aW aZ bK bM v0_14 (λy247 y248 y249 y250 y251=>K y247 y248 y249 y250 y251 (-1)))
noncomputable def Ya3.m {β:Type} (k:Nat) (aB:Int) (aA:BA) (aD:Int) (aE aG a1:LD) (K:Int->BA->Int->LC->LC->Int->Option β) (F:(LD->Int->BA->Int->LD->LD->Int->BA->Int->(Int×Int×BA×Int×LD×LD)->Option β)):Option β:=
 bd1 (Yao.t k aB aA aD aE aG) (λy1=>bif(!y1) then(YL.f k aB aA aD aE aG (λy43 y44 y45 y46 y47=>K y43 y44 y45 y46 y47 0)) else(bd1 (YaV.t k a1) (λy59=>bif(!y59) then(YL.f k aB aA aD aE aG (λy60 y61 y62 y63 y64=>K y60 y61 y62 y63 y64 0)) else(F a1 aB aA aD aE aG 0 (⟨#[]⟩:BA) 0 (0,aB,aA,aD,aE,aG)))))
noncomputable def Ya3.g {β:Type} (k:Nat) (aB:Int) (aA:BA) (aD:Int) (aE aG a1:LD) (K:Int->BA->Int->LC->LC->Int->Option β):Option β:=Ya3.m k aB aA aD aE aG a1 K (λaF aH aI aL aM aN aO aU aV=>Za1 (Ya3.l0 k aF aH aI aL aM aN aO aU aV K) k)
noncomputable def Ya3.t (k:Nat) (aB:Int) (aA:BA) (aD:Int) (aE aG a1:LD):=Ya3.g k aB aA aD aE aG a1 (λz0 z1 z2 z3 z4 z5=>some (z0,z1,z2,z3,z4,z5))
noncomputable def Ya3.e (k:Nat):Za0:=ent [.agg [.n,.s,.n,.l,.l],.d .l] [5,1] [.n,.s,.n,.o,.o,.n] [64,3] false (Ya3.t k)
noncomputable def Ya3.p (k:Nat):Pro:=⟨Tryz.prog,[(60,Yao.e k),(78,YL.e k),(116,YaV.e k),(117,Ycm.e k)],hints [(5,kp [1,2,4,6,7])] false [],k⟩
theorem Ya3.l0_eq (k:Nat) (aB:Int) (aA:BA) (aD:Int) (aE aG a1 aF:LD) (aH:Int) (aI:BA) (aL:Int) (aM aN:LD) (aO:Int) (aU:BA) (aV:Int):LpEq ((Ya3.p k).lf Tryz.f77 5 [1,1,1,0,1,0] [.agg [.int .i64 aB,.str aA,.int .i64 aD,.sl aE,.sl aG],.d (.sl a1)] [5,1] [.n,.s,.n,.o,.o,.n]) (Ya3.l0 k aF aH aI aL aM aN aO aU aV (λz0 z1 z2 z3 z4 z5=>some (z0,z1,z2,z3,z4,z5))) (λ(aC,aW,aZ,bK,bM,v0_14)=>mkSt 44 [(1,.d false (.sl aF)),(2,.bp 0 0),(4,.bp 1 0),(6,.bp 2 0),(7,.d true (.int .i64 aC))] [.box none 64 [.d false (.int .i64 aH),.d false (.str aI),.d false (.int .i64 aL),.d false (.sl aM),.d false (.sl aN)],.box none 64 [.d true (.int .i64 aO),.d true (.str aU),.d true (.int .i64 aV),.nil,.nil],.box none 64 [.d false (.int .i64 aW),.d false (.str aZ),.d false (.int .i64 bK),.d false (.sl bM),.d false (.sl v0_14)]]):=lf_eq λL0 v=>by obtain⟨aC,aW,aZ,bK,bM,v0_14⟩:=v;kernel_rfl
theorem Ya3.ok (k:Nat):Zas Tryz.prog 77 (Ya3.e k):=ent_ok (Ya3.p k) mix tyok Tryz.func77 ⟨Yao.ok k,YL.ok k,YaV.ok k,Ycm.ok k⟩ Kr (λaB aA aD aE aG a1=>Eq.trans Kr (congrArg (Ya3.m k aB aA aD aE aG a1 (λz0 z1 z2 z3 z4 z5=>some (z0,z1,z2,z3,z4,z5))) (funext λaF=>funext λaH=>funext λaI=>funext λaL=>funext λaM=>funext λaN=>funext λaO=>funext λaU=>funext λaV=>funext λv=>Ya3.l0_eq k aB aA aD aE aG a1 aF aH aI aL aM aN aO aU aV k v) :))
noncomputable def Yah.l0 {β:Type} (k:Nat) (aF:LD) (aH:Int) (aI:BA) (aL:Int) (aM aN:LD) (K:Bool->Option β) (L0:Int->Option β) (v:Int):Option β:=
 match v with
 |aC=>bif(decide ((aC:Int)<(aF.length:Int))) then(atR aF aC [.s,.l] λx283 x286=>(bd6 (Ya3.t k aH aI aL aM aN x286) (λy287 y288 y289 y290 y291 y292=>atR aF aC [.s,.l] λx296 x299=>(bd1 (Ye.t k x296) (λy300=>bif(!y300) then(K false) else(bif(decide ((y292:Int)>=0)) then(K false) else(bif(decide ((aC:Int)>0)) then(atR aF (IntKind.wrap .i64 (aC-1)) [.s,.l] λx304 x307=>(atR aF aC [.s,.l] λx311 x314=>(bif(!(Za3 x304 x311)) then(K false) else(L0 (IntKind.wrap .i64 (aC+1)))))) else(L0 (IntKind.wrap .i64 (aC+1)))))))))) else(K (decide (((aF.length:Int):Int)<=12)))
noncomputable def Yah.m {β:Type} (k:Nat) (aB:Int) (aA:BA) (aD:Int) (aE aG a1:LD) (K:Bool->Option β) (F:(LD->Int->BA->Int->LD->LD->Int->Option β)):Option β:=
 F a1 aB aA aD aE aG (0)
noncomputable def Yah.g {β:Type} (k:Nat) (aB:Int) (aA:BA) (aD:Int) (aE aG a1:LD) (K:Bool->Option β):Option β:=
 Za1 (Yah.l0 k a1 aB aA aD aE aG K) k (0)
noncomputable def Yah.t (k:Nat) (aB:Int) (aA:BA) (aD:Int) (aE aG a1:LD):=Yah.g k aB aA aD aE aG a1 (λz0=>some z0)
noncomputable def Yah.e (k:Nat):Za0:=ent [.agg [.n,.s,.n,.l,.l],.d .l] [1] [.b] [4] false (Yah.t k)
noncomputable def Yah.p (k:Nat):Pro:=⟨Tryz.prog,[(77,Ya3.e k),(57,Ye.e k)],hints [(2,kp [1,2,5])] false [],k⟩
theorem Yah.l0_eq (k:Nat) (aB:Int) (aA:BA) (aD:Int) (aE aG a1 aF:LD) (aH:Int) (aI:BA) (aL:Int) (aM aN:LD):LpEq ((Yah.p k).lf Tryz.f61 2 [1,0,1,0] [.agg [.int .i64 aB,.str aA,.int .i64 aD,.sl aE,.sl aG],.d (.sl a1)] [1] [.b]) (Yah.l0 k aF aH aI aL aM aN (λz0=>some z0)) (λaC=>mkSt 56 [(1,.d false (.sl aF)),(2,.bp 0 0),(5,.d true (.int .i64 aC))] [.box none 64 [.d false (.int .i64 aH),.d false (.str aI),.d false (.int .i64 aL),.d false (.sl aM),.d false (.sl aN)]]):=lf_eq λL0 v=>by kernel_rfl
theorem Yah.ok (k:Nat):Zas Tryz.prog 61 (Yah.e k):=ent_ok (Yah.p k) mix tyok Tryz.func61 ⟨Ya3.ok k,Ye.ok k⟩ Kr (λaB aA aD aE aG a1=>Eq.trans Kr (congrArg (Yah.m k aB aA aD aE aG a1 (λz0=>some z0)) (funext λaF=>funext λaH=>funext λaI=>funext λaL=>funext λaM=>funext λaN=>funext λv=>Yah.l0_eq k aB aA aD aE aG a1 aF aH aI aL aM aN k v) :))
noncomputable def YaU.l0 {β:Type} (k:Nat) (aC aH aI:Int) (aL aM aN aO:LD) (K:Bool->Option β) (L0:Int->Option β) (v:Int):Option β:=
 match v with
 |aF=>bif(decide ((aF:Int)<(aL.length:Int))) then(atR aL aF [.n,.s,.n,.l,.l,.l,.n,.s,.n,.l,.l,.l,.b] λx359 x362 x365 x368 x371 x374 x377 x380 x383 x386 x389 x392 x395=>(bd1 (YD.t k x359 1 (IntKind.wrap .i64 (aH-1))) (λy396=>bif(!y396) then(K false) else(bd1 (Ye.t k x362) (λy397=>bif(!y397) then(K false) else(bd1 (YaD.t k aC aH aI aL aM aN aO x362) (λy398=>bif((y398:Int)!=aF) then(K false) else(bd1 (Y2.t k x365 x368 x371 x374) (λy399=>bif(!y399) then(K false) else(bd1 (Yao.t k x377 x380 x383 x386 x389) (λy400=>bif(!y400) then(K false) else(bd1 (Yah.t k x377 x380 x383 x386 x389 x392) (λy401=>bif(!y401) then(K false) else(bif(decide ((aF:Int)>0)) then(atR aL (IntKind.wrap .i64 (aF-1)) [.n,.s,.n,.l,.l,.l,.n,.s,.n,.l,.l,.l,.b] λx405 x408 x411 x414 x417 x420 x423 x426 x429 x432 x435 x438 x441=>(bif(decide ((x405:Int)>=x359)) then(K false) else(L0 (IntKind.wrap .i64 (aF+1))))) else(L0 (IntKind.wrap .i64 (aF+1))))))))))))))))) else(K (decide (((aL.length:Int):Int)<=20)))
noncomputable def YaU.m {β:Type} (k:Nat) (aB aA aD:Int) (aE aG aJ aK:LD) (K:Bool->Option β) (F:(Int->Int->Int->LD->LD->LD->LD->Int->Option β)):Option β:=
 F aB aA aD aE aG aJ aK (0)
noncomputable def YaU.g {β:Type} (k:Nat) (aB aA aD:Int) (aE aG aJ aK:LD) (K:Bool->Option β):Option β:=
 Za1 (YaU.l0 k aB aA aD aE aG aJ aK K) k (0)
noncomputable def YaU.t (k:Nat) (aB aA aD:Int) (aE aG aJ aK:LD):=YaU.g k aB aA aD aE aG aJ aK (λz0=>some z0)
noncomputable def YaU.e (k:Nat):Za0:=ent [.agg [.n,.n,.n,.l,.l,.l,.l]] [1] [.b] [4] false (YaU.t k)
noncomputable def YaU.p (k:Nat):Pro:=⟨Tryz.prog,[(20,YD.e k),(57,Ye.e k),(58,YaD.e k),(59,Y2.e k),(60,Yao.e k),(61,Yah.e k)],hints [(2,kp [1,3])] false [],k⟩
theorem YaU.l0_eq (k:Nat) (aB aA aD:Int) (aE aG aJ aK:LD) (aC aH aI:Int) (aL aM aN aO:LD):LpEq ((YaU.p k).lf Tryz.f22 2 [1,0,1,0] [.agg [.int .i64 aB,.int .i64 aA,.int .i64 aD,.sl aE,.sl aG,.sl aJ,.sl aK]] [1] [.b]) (YaU.l0 k aC aH aI aL aM aN aO (λz0=>some z0)) (λaF=>mkSt 78 [(1,.bp 0 0),(3,.d true (.int .i64 aF))] [.box none 34 [.d false (.int .i64 aC),.d false (.int .i64 aH),.d false (.int .i64 aI),.d false (.sl aL),.d false (.sl aM),.d false (.sl aN),.d false (.sl aO)]]):=lf_eq λL0 v=>by kernel_rfl
theorem YaU.ok (k:Nat):Zas Tryz.prog 22 (YaU.e k):=ent_ok (YaU.p k) mix tyok Tryz.func22 ⟨YD.ok k,Ye.ok k,YaD.ok k,Y2.ok k,Yao.ok k,Yah.ok k⟩ Kr (λaB aA aD aE aG aJ aK=>Eq.trans Kr (congrArg (YaU.m k aB aA aD aE aG aJ aK (λz0=>some z0)) (funext λaC=>funext λaH=>funext λaI=>funext λaL=>funext λaM=>funext λaN=>funext λaO=>funext λv=>YaU.l0_eq k aB aA aD aE aG aJ aK aC aH aI aL aM aN aO k v) :))
noncomputable def YaQ.l0 {β:Type} (k:Nat) (aF aH aI aL:Int) (aM aN aO aU:LD) (K L0:Int->Option β) (v:Int):Option β:=
 match v with
 |aC=>bif(decide ((aC:Int)<(aM.length:Int))) then(atR aM aC [.n,.s,.n,.l,.l,.l,.n,.s,.n,.l,.l,.l,.b] λx44 x47 x50 x53 x56 x59 x62 x65 x68 x71 x74 x77 x80=>(bif((x44:Int)==aF) then(K aC) else(L0 (IntKind.wrap .i64 (aC+1))))) else(K (-1))
noncomputable def YaQ.m {β:Type} (k:Nat) (aB aA aD:Int) (aE aG aJ aK:LD) (a1:Int) (K:Int->Option β) (F:(Int->Int->Int->Int->LD->LD->LD->LD->Int->Option β)):Option β:=
 F a1 aB aA aD aE aG aJ aK (0)
noncomputable def YaQ.g {β:Type} (k:Nat) (aB aA aD:Int) (aE aG aJ aK:LD) (a1:Int) (K:Int->Option β):Option β:=
 Za1 (YaQ.l0 k a1 aB aA aD aE aG aJ aK K) k (0)
noncomputable def YaQ.t (k:Nat) (aB aA aD:Int) (aE aG aJ aK:LD) (a1:Int):=YaQ.g k aB aA aD aE aG aJ aK a1 (λz0=>some z0)
noncomputable def YaQ.e (k:Nat):Za0:=ent [.agg [.n,.n,.n,.l,.l,.l,.l],.d .n] [1] [.n] [3] false (YaQ.t k)
noncomputable def YaQ.p (k:Nat):Pro:=⟨Tryz.prog,[],hints [(2,kp [1,2,5])] false [],k⟩
theorem YaQ.l0_eq (k:Nat) (aB aA aD:Int) (aE aG aJ aK:LD) (a1 aF aH aI aL:Int) (aM aN aO aU:LD):LpEq ((YaQ.p k).lf Tryz.f23 2 [1,0,1,0] [.agg [.int .i64 aB,.int .i64 aA,.int .i64 aD,.sl aE,.sl aG,.sl aJ,.sl aK],.d (.int .i64 a1)] [1] [.n]) (YaQ.l0 k aF aH aI aL aM aN aO aU (λz0=>some z0)) (λaC=>mkSt 22 [(1,.d false (.int .i64 aF)),(2,.bp 0 0),(5,.d true (.int .i64 aC))] [.box none 34 [.d false (.int .i64 aH),.d false (.int .i64 aI),.d false (.int .i64 aL),.d false (.sl aM),.d false (.sl aN),.d false (.sl aO),.d false (.sl aU)]]):=lf_eq λL0 v=>by kernel_rfl
theorem YaQ.ok (k:Nat):Zas Tryz.prog 23 (YaQ.e k):=ent_ok (YaQ.p k) mix tyok Tryz.func23 trivial Kr (λaB aA aD aE aG aJ aK a1=>Eq.trans Kr (congrArg (YaQ.m k aB aA aD aE aG aJ aK a1 (λz0=>some z0)) (funext λaF=>funext λaH=>funext λaI=>funext λaL=>funext λaM=>funext λaN=>funext λaO=>funext λaU=>funext λv=>YaQ.l0_eq k aB aA aD aE aG aJ aK a1 aF aH aI aL aM aN aO aU k v) :))
noncomputable def YaT.l0 {β:Type} (k:Nat) (aF:BA) (aH aI aL:Int) (aM aN aO aU:LD) (K L0:Int->Option β) (v:Int):Option β:=
 match v with
 |aC=>bif(decide ((aC:Int)<(aN.length:Int))) then(atR aN aC [.s,.l,.l,.n,.n,.n] λx23 x26 x29 x32 x35 x38=>(bif(ZP x23 aF) then(K aC) else(L0 (IntKind.wrap .i64 (aC+1))))) else(K (-1))
noncomputable def YaT.m {β:Type} (k:Nat) (aB aA aD:Int) (aE aG aJ aK:LD) (a1:BA) (K:Int->Option β) (F:(BA->Int->Int->Int->LD->LD->LD->LD->Int->Option β)):Option β:=
 F a1 aB aA aD aE aG aJ aK (0)
noncomputable def YaT.g {β:Type} (k:Nat) (aB aA aD:Int) (aE aG aJ aK:LD) (a1:BA) (K:Int->Option β):Option β:=
 Za1 (YaT.l0 k a1 aB aA aD aE aG aJ aK K) k (0)
noncomputable def YaT.t (k:Nat) (aB aA aD:Int) (aE aG aJ aK:LD) (a1:BA):=YaT.g k aB aA aD aE aG aJ aK a1 (λz0=>some z0)
noncomputable def YaT.e (k:Nat):Za0:=ent [.agg [.n,.n,.n,.l,.l,.l,.l],.d .s] [1] [.n] [3] false (YaT.t k)
noncomputable def YaT.p (k:Nat):Pro:=⟨Tryz.prog,[],hints [(2,kp [1,2,5])] false [],k⟩
theorem YaT.l0_eq (k:Nat) (aB aA aD:Int) (aE aG aJ aK:LD) (a1 aF:BA) (aH aI aL:Int) (aM aN aO aU:LD):LpEq ((YaT.p k).lf Tryz.f24 2 [1,0,1,0] [.agg [.int .i64 aB,.int .i64 aA,.int .i64 aD,.sl aE,.sl aG,.sl aJ,.sl aK],.d (.str a1)] [1] [.n]) (YaT.l0 k aF aH aI aL aM aN aO aU (λz0=>some z0)) (λaC=>mkSt 23 [(1,.d false (.str aF)),(2,.bp 0 0),(5,.d true (.int .i64 aC))] [.box none 34 [.d false (.int .i64 aH),.d false (.int .i64 aI),.d false (.int .i64 aL),.d false (.sl aM),.d false (.sl aN),.d false (.sl aO),.d false (.sl aU)]]):=lf_eq λL0 v=>by kernel_rfl
theorem YaT.ok (k:Nat):Zas Tryz.prog 24 (YaT.e k):=ent_ok (YaT.p k) mix tyok Tryz.func24 trivial Kr (λaB aA aD aE aG aJ aK a1=>Eq.trans Kr (congrArg (YaT.m k aB aA aD aE aG aJ aK a1 (λz0=>some z0)) (funext λaF=>funext λaH=>funext λaI=>funext λaL=>funext λaM=>funext λaN=>funext λaO=>funext λaU=>funext λv=>YaT.l0_eq k aB aA aD aE aG aJ aK a1 aF aH aI aL aM aN aO aU k v) :))
noncomputable def Yb5.g {β:Type} (k:Nat) (aB:Int) (aA:BA) (aD aE aG aQ:Int) (aP:BA) (aR aS aT:Int) (K:Bool->Option β):Option β:=
 bif(decide ((aB:Int)<aQ)) then(K true) else(bif((aB:Int)==aQ) then(K (Za3 aA aP)) else(K false))
noncomputable def Yb5.t (k:Nat) (aB:Int) (aA:BA) (aD aE aG aQ:Int) (aP:BA) (aR aS aT:Int):=Yb5.g k aB aA aD aE aG aQ aP aR aS aT (λz0=>some z0)
noncomputable def Yb5.e (k:Nat):Za0:=ent [.agg [.n,.s,.n,.n,.n],.agg [.n,.s,.n,.n,.n]] [1] [.b] [4] false (Yb5.t k)
noncomputable def Yb5.p (k:Nat):Pro:=⟨Tryz.prog,[],hints [] false [],k⟩
theorem Yb5.ok (k:Nat):Zas Tryz.prog 25 (Yb5.e k):=ent_ok (Yb5.p k) mix tyok Tryz.func25 trivial Kr (λaB aA aD aE aG aQ aP aR aS aT=>Ks)
noncomputable def Ybg.l0 {β:Type} (k:Nat) (aC aH aI:Int) (aL aM aN aO:LD) (K:Bool->Option β) (L0:Int->Option β) (v:Int):Option β:=
 match v with
 |aF=>bif(decide ((aF:Int)<(aN.length:Int))) then(atR aN aF [.n,.s,.n,.n,.n] λx484 x487 x490 x493 x496=>(bd1 (YaQ.t k aC aH aI aL aM aN aO x484) (λy497=>bif(decide ((y497:Int)<0)) then(K false) else(bd1 (YaT.t k aC aH aI aL aM aN aO x487) (λy498=>bif(decide ((y498:Int)<0)) then(K false) else(bd1 (YD.t k x490 0 10000) (λy499=>bif(!y499) then(K false) else(bd1 (YD.t k x493 0 10000) (λy500=>bif(!y500) then(K false) else(bd1 (YD.t k x496 0 aC) (λy501=>bif(!y501) then(K false) else(bif(!(((x496:Int)==0)==(decide ((x490:Int)>0)))) then(K false) else(bif(decide ((aF:Int)>0)) then(atR aN (IntKind.wrap .i64 (aF-1)) [.n,.s,.n,.n,.n] λx505 x508 x511 x514 x517=>(bd1 (Yb5.t k x505 x508 x511 x514 x517 x484 x487 x490 x493 x496) (λy518=>bif(!y518) then(K false) else(L0 (IntKind.wrap .i64 (aF+1)))))) else(L0 (IntKind.wrap .i64 (aF+1)))))))))))))))) else(K true)
noncomputable def Ybg.m {β:Type} (k:Nat) (aB aA aD:Int) (aE aG aJ aK:LD) (K:Bool->Option β) (F:(Int->Int->Int->LD->LD->LD->LD->Int->Option β)):Option β:=
 bd1 (YD.t k aB 0 1000000) (λy1=>bif(!y1) then(K false) else(bd1 (YD.t k aA 1 1000000) (λy2=>bif(!y2) then(K false) else(bd1 (YD.t k aD 0 1000000) (λy3=>bif(!y3) then(K false) else(bd1 (YaC.t k aB aA aD aE aG aJ aK) (λy131=>bif(!y131) then(K false) else(bd1 (YaU.t k aB aA aD aE aG aJ aK) (λy442=>bif(!y442) then(K false) else(F aB aA aD aE aG aJ aK (0)))))))))))
noncomputable def Ybg.g {β:Type} (k:Nat) (aB aA aD:Int) (aE aG aJ aK:LD) (K:Bool->Option β):Option β:=Ybg.m k aB aA aD aE aG aJ aK K (λaC aH aI aL aM aN aO=>Za1 (Ybg.l0 k aC aH aI aL aM aN aO K) k)
noncomputable def Ybg.t (k:Nat) (aB aA aD:Int) (aE aG aJ aK:LD):=Ybg.g k aB aA aD aE aG aJ aK (λz0=>some z0)
noncomputable def Ybg.e (k:Nat):Za0:=ent [.agg [.n,.n,.n,.l,.l,.l,.l]] [1] [.b] [4] false (Ybg.t k)
noncomputable def Ybg.p (k:Nat):Pro:=⟨Tryz.prog,[(20,YD.e k),(21,YaC.e k),(22,YaU.e k),(23,YaQ.e k),(24,YaT.e k),(25,Yb5.e k)],hints [(4,kp [1,3])] false [],k⟩
theorem Ybg.l0_eq (k:Nat) (aB aA aD:Int) (aE aG aJ aK:LD) (aC aH aI:Int) (aL aM aN aO:LD):LpEq ((Ybg.p k).lf Tryz.f6 4 [1,1,0,1,0] [.agg [.int .i64 aB,.int .i64 aA,.int .i64 aD,.sl aE,.sl aG,.sl aJ,.sl aK]] [1] [.b]) (Ybg.l0 k aC aH aI aL aM aN aO (λz0=>some z0)) (λaF=>mkSt 99 [(1,.bp 0 0),(3,.d true (.int .i64 aF))] [.box none 34 [.d false (.int .i64 aC),.d false (.int .i64 aH),.d false (.int .i64 aI),.d false (.sl aL),.d false (.sl aM),.d false (.sl aN),.d false (.sl aO)]]):=lf_eq λL0 v=>by kernel_rfl
theorem Ybg.ok (k:Nat):Zas Tryz.prog 6 (Ybg.e k):=ent_ok (Ybg.p k) mix tyok Tryz.func6 ⟨YD.ok k,YaC.ok k,YaU.ok k,YaQ.ok k,YaT.ok k,Yb5.ok k⟩ Kr (λaB aA aD aE aG aJ aK=>Eq.trans Kr (congrArg (Ybg.m k aB aA aD aE aG aJ aK (λz0=>some z0)) (funext λaC=>funext λaH=>funext λaI=>funext λaL=>funext λaM=>funext λaN=>funext λaO=>funext λv=>Ybg.l0_eq k aB aA aD aE aG aJ aK aC aH aI aL aM aN aO k v) :))
noncomputable def Ybd.l0 {β:Type} (k:Nat) (aF:BA) (aH:Int) (aI:BA) (aL:Int) (aM aN aO:LD) (aU:Int) (aV:BA) (aW:Int) (aZ bK bM:LD) (v0_14:Bool) (v0_15:Int) (v0_16:BA) (v0_17:Int) (K:Int->BA->Int->LC->LC->Bool->Option β) (L0:Int->Option β) (v:Int):Option β:=
 match v with
 |aC=>bif(decide ((aC:Int)<(bM.length:Int))) then(atR bM aC [.s,.l] λx30 x33=>(bif(ZP x30 aF) then(atR bM aC [.s,.l] λx37 x40=>(bd6 (Ya3.t k aU aV aW aZ bK x40) (λy41 y42 y43 y44 y45 y46=>bif(decide ((y46:Int)>=0)) then(K 0 (⟨#[]⟩:BA) 0 ([]:LC) ([]:LC) false) else(K y41 y42 y43 y44 y45 true)))) else(L0 (IntKind.wrap .i64 (aC+1))))) else(YL.f k aU aV aW aZ bK (λy47 y48 y49 y50 y51=>K y47 y48 y49 y50 y51 true))
noncomputable def Ybd.m {β:Type} (k:Nat) (aB:Int) (aA:BA) (aD:Int) (aE aG aJ:LD) (aK:Int) (aY:BA) (bE:Int) (bA bB bD:LD) (bF:Bool) (a1:BA) (K:Int->BA->Int->LC->LC->Bool->Option β) (F:(BA->Int->BA->Int->LD->LD->LD->Int->BA->Int->LD->LD->LD->Bool->Int->BA->Int->Int->Option β)):Option β:=
 bd1 (Yao.t k aK aY bE bA bB) (λy1=>bif(!y1) then(K 0 (⟨#[]⟩:BA) 0 ([]:LC) ([]:LC) false) else(F a1 aB aA aD aE aG aJ aK aY bE bA bB bD bF 0 (⟨#[]⟩:BA) 0 (0)))
noncomputable def Ybd.g {β:Type} (k:Nat) (aB:Int) (aA:BA) (aD:Int) (aE aG aJ:LD) (aK:Int) (aY:BA) (bE:Int) (bA bB bD:LD) (bF:Bool) (a1:BA) (K:Int->BA->Int->LC->LC->Bool->Option β):Option β:=
 bd1 (Yao.t k aK aY bE bA bB) (λy1=>bif(!y1) then(K 0 (⟨#[]⟩:BA) 0 ([]:LC) ([]:LC) false) else(Za1 (Ybd.l0 k a1 aB aA aD aE aG aJ aK aY bE bA bB bD bF 0 (⟨#[]⟩:BA) 0 K) k (0)))
noncomputable def Ybd.t (k:Nat) (aB:Int) (aA:BA) (aD:Int) (aE aG aJ:LD) (aK:Int) (aY:BA) (bE:Int) (bA bB bD:LD) (bF:Bool) (a1:BA):=Ybd.g k aB aA aD aE aG aJ aK aY bE bA bB bD bF a1 (λz0 z1 z2 z3 z4 z5=>some (z0,z1,z2,z3,z4,z5))
noncomputable def Ybd.e (k:Nat):Za0:=ent [.agg [.n,.s,.n,.l,.l,.l,.n,.s,.n,.l,.l,.l,.b],.d .s] [5,1] [.n,.s,.n,.o,.o,.b] [64,4] false (Ybd.t k)
noncomputable def Ybd.p (k:Nat):Pro:=⟨Tryz.prog,[(60,Yao.e k),(77,Ya3.e k),(78,YL.e k)],hints [(4,kp [1,2,4,6])] false [],k⟩
theorem Ybd.l0_eq (k:Nat) (aB:Int) (aA:BA) (aD:Int) (aE aG aJ:LD) (aK:Int) (aY:BA) (bE:Int) (bA bB bD:LD) (bF:Bool) (a1 aF:BA) (aH:Int) (aI:BA) (aL:Int) (aM aN aO:LD) (aU:Int) (aV:BA) (aW:Int) (aZ bK bM:LD) (v0_14:Bool) (v0_15:Int) (v0_16:BA) (v0_17:Int):LpEq ((Ybd.p k).lf Tryz.f39 4 [1,1,0,1,0] [.agg [.int .i64 aB,.str aA,.int .i64 aD,.sl aE,.sl aG,.sl aJ,.int .i64 aK,.str aY,.int .i64 bE,.sl bA,.sl bB,.sl bD,.bool bF],.d (.str a1)] [5,1] [.n,.s,.n,.o,.o,.b]) (Ybd.l0 k aF aH aI aL aM aN aO aU aV aW aZ bK bM v0_14 v0_15 v0_16 v0_17 (λz0 z1 z2 z3 z4 z5=>some (z0,z1,z2,z3,z4,z5))) (λaC=>mkSt 48 [(1,.d false (.str aF)),(2,.bp 0 0),(4,.bp 1 0),(6,.d true (.int .i64 aC))] [.box none 73 [.d false (.int .i64 aH),.d false (.str aI),.d false (.int .i64 aL),.d false (.sl aM),.d false (.sl aN),.d false (.sl aO),.d false (.int .i64 aU),.d false (.str aV),.d false (.int .i64 aW),.d false (.sl aZ),.d false (.sl bK),.d false (.sl bM),.d false (.bool v0_14)],.box none 64 [.d true (.int .i64 v0_15),.d true (.str v0_16),.d true (.int .i64 v0_17),.nil,.nil]]):=lf_eq λL0 v=>by kernel_rfl
theorem Ybd.ok (k:Nat):Zas Tryz.prog 39 (Ybd.e k):=ent_ok (Ybd.p k) mix tyok Tryz.func39 ⟨Yao.ok k,Ya3.ok k,YL.ok k⟩ Kr (λaB aA aD aE aG aJ aK aY bE bA bB bD bF a1=>Eq.trans Kr (congrArg (Ybd.m k aB aA aD aE aG aJ aK aY bE bA bB bD bF a1 (λz0 z1 z2 z3 z4 z5=>some (z0,z1,z2,z3,z4,z5))) (funext λaF=>funext λaH=>funext λaI=>funext λaL=>funext λaM=>funext λaN=>funext λaO=>funext λaU=>funext λaV=>funext λaW=>funext λaZ=>funext λbK=>funext λbM=>funext λv0_14=>funext λv0_15=>funext λv0_16=>funext λv0_17=>funext λv=>Ybd.l0_eq k aB aA aD aE aG aJ aK aY bE bA bB bD bF a1 aF aH aI aL aM aN aO aU aV aW aZ bK bM v0_14 v0_15 v0_16 v0_17 k v) :))
noncomputable def Ya8.l0 {β:Type} (k:Nat) (aF:BA) (aH aI aL:Int) (aM aN aO aU:LD) (K:LC->Option β) (L0:(Int×LC)->Option β) (v:Int×LC):Option β:=
 match v with
 |(aC,aV)=>bif(decide ((aC:Int)<(aO.length:Int))) then(atR aO aC [.n,.s,.n,.n,.n] λx586 x589 x592 x595 x598=>(bif(ZP x589 aF) then(bif((x598:Int)==0) then(bd1 (YaQ.t k aH aI aL aM aN aO aU x586) (λy599=>atR aM y599 [.n,.s,.n,.l,.l,.l,.n,.s,.n,.l,.l,.l,.b] λx603 x606 x609 x612 x615 x618 x621 x624 x627 x630 x633 x636 x639=>(bd6 (Ybd.t k x603 x606 x609 x612 x615 x618 x621 x624 x627 x630 x633 x636 x639 aF) (λy640 y641 y642 y643 y644 y645=>Z0 (aV.length+([[.d (.int .i64 x586),.d (.int .i64 x592),.d (.int .i64 y640),.d (.str y641),.d (.int .i64 y642),.own y643,.own y644]]:LC).length<=Zx) (L0 (IntKind.wrap .i64 (aC+1),aV++([[.d (.int .i64 x586),.d (.int .i64 x592),.d (.int .i64 y640),.d (.str y641),.d (.int .i64 y642),.own y643,.own y644]]:LC))))))) else(L0 (IntKind.wrap .i64 (aC+1),aV))) else(L0 (IntKind.wrap .i64 (aC+1),aV)))) else(K aV)
noncomputable def Ya8.m {β:Type} (k:Nat) (aB aA aD:Int) (aE aG aJ aK:LD) (a1:BA) (K:LC->Option β) (F:(BA->Int->Int->Int->LD->LD->LD->LD->(Int×LC)->Option β)):Option β:=
 bd1 (Ybg.t k aB aA aD aE aG aJ aK) (λy519=>bif(!y519) then(K ([]:LC)) else(F a1 aB aA aD aE aG aJ aK (0,([]:LC))))
noncomputable def Ya8.g {β:Type} (k:Nat) (aB aA aD:Int) (aE aG aJ aK:LD) (a1:BA) (K:LC->Option β):Option β:=
 bd1 (Ybg.t k aB aA aD aE aG aJ aK) (λy519=>bif(!y519) then(K ([]:LC)) else(Za1 (Ya8.l0 k a1 aB aA aD aE aG aJ aK K) k (0,([]:LC))))
noncomputable def Ya8.t (k:Nat) (aB aA aD:Int) (aE aG aJ aK:LD) (a1:BA):=Ya8.g k aB aA aD aE aG aJ aK a1 (λz0=>some z0)
noncomputable def Ya8.e (k:Nat):Za0:=ent [.agg [.n,.n,.n,.l,.l,.l,.l],.d .s] [1] [.o] [38] false (Ya8.t k)
noncomputable def Ya8.p (k:Nat):Pro:=⟨Tryz.prog,[(6,Ybg.e k),(23,YaQ.e k),(39,Ybd.e k)],hints [(5,kp [1,2,5,6])] false [],k⟩
theorem Ya8.l0_eq (k:Nat) (aB aA aD:Int) (aE aG aJ aK:LD) (a1 aF:BA) (aH aI aL:Int) (aM aN aO aU:LD):LpEq ((Ya8.p k).lf Tryz.f10 5 [1,1,1,0,1,0] [.agg [.int .i64 aB,.int .i64 aA,.int .i64 aD,.sl aE,.sl aG,.sl aJ,.sl aK],.d (.str a1)] [1] [.o]) (Ya8.l0 k aF aH aI aL aM aN aO aU (λz0=>some z0)) (λ(aC,aV)=>mkSt 59 [(1,.d false (.str aF)),(2,.bp 0 0),(5,.row 1),(6,.d true (.int .i64 aC))] [.box none 34 [.d false (.int .i64 aH),.d false (.int .i64 aI),.d false (.int .i64 aL),.d false (.sl aM),.d false (.sl aN),.d false (.sl aO),.d false (.sl aU)],.row none true 38 aV]):=lf_eq λL0 v=>by obtain⟨aC,aV⟩:=v;kernel_rfl
theorem Ya8.ok (k:Nat):Zas Tryz.prog 10 (Ya8.e k):=ent_ok (Ya8.p k) mix tyok Tryz.func10 ⟨Ybg.ok k,YaQ.ok k,Ybd.ok k⟩ Kr (λaB aA aD aE aG aJ aK a1=>Eq.trans Kr (congrArg (Ya8.m k aB aA aD aE aG aJ aK a1 (λz0=>some z0)) (funext λaF=>funext λaH=>funext λaI=>funext λaL=>funext λaM=>funext λaN=>funext λaO=>funext λaU=>funext λv=>Ya8.l0_eq k aB aA aD aE aG aJ aK a1 aF aH aI aL aM aN aO aU k v) :))
noncomputable def Y4.g {β:Type} (k:Nat) (a0 a1 a2:Int) (K:Bool->Option β):Option β:=
 bif(decide ((a0:Int)>=a1)) then(K (decide ((a0:Int)<=a2))) else(K false)
noncomputable def Y4.t (k:Nat) (a0 a1 a2:Int):=Y4.g k a0 a1 a2 (λz0=>some z0)
noncomputable def Y4.e (k:Nat):Za0:=ent [.d .n,.d .n,.d .n] [1] [.b] [4] false (Y4.t k)
noncomputable def Y4.p (k:Nat):Pro:=⟨Tryz.prog,[],hints [] false [],k⟩
theorem Y4.ok (k:Nat):Zas Tryz.prog 30 (Y4.e k):=ent_ok (Y4.p k) mix tyok Tryz.func30 trivial Kr (λa0 a1 a2=>Ks)
noncomputable def YP.l0 {β:Type} (k:Nat) (aF:BA) (aC:Int) (K:Bool->Option β) (L0:Int->Option β) (v:Int):Option β:=
 match v with
 |aH=>bif(decide ((aH:Int)<aC)) then(atStr aF aH λb5=>let J1:=(bif((b5:Int)!=45) then(K false) else(L0 (IntKind.wrap .i64 (aH+1))));let J0:=(bif(decide ((b5:Int)<48)) then J1 else(bif(decide ((b5:Int)>57)) then J1 else(L0 (IntKind.wrap .i64 (aH+1)))));bif(decide ((b5:Int)<97)) then J0 else(bif(decide ((b5:Int)>122)) then J0 else(L0 (IntKind.wrap .i64 (aH+1))))) else(bd1 (Y4.t k (aF.size:Int) 1 20) (λy6=>bif y6 then(atStr aF 0 λb7=>bif((b7:Int)!=45) then(atStr aF (IntKind.wrap .i64 ((aF.size:Int)-1)) λb8=>K ((b8:Int)!=45)) else(K false)) else(K false)))
noncomputable def YP.m {β:Type} (k:Nat) (a0:BA) (K:Bool->Option β) (F:(BA->Int->Int->Option β)):Option β:=
 F a0 (a0.size:Int) (0)
noncomputable def YP.g {β:Type} (k:Nat) (a0:BA) (K:Bool->Option β):Option β:=
 Za1 (YP.l0 k a0 (a0.size:Int) K) k (0)
noncomputable def YP.t (k:Nat) (a0:BA):=YP.g k a0 (λz0=>some z0)
noncomputable def YP.e (k:Nat):Za0:=ent [.d .s] [1] [.b] [4] false (YP.t k)
noncomputable def YP.p (k:Nat):Pro:=⟨Tryz.prog,[(30,Y4.e k)],hints [(2,kp [0,6,7])] false [],k⟩
theorem YP.l0_eq (k:Nat) (a0 aF:BA) (aC:Int):LpEq ((YP.p k).lf Tryz.f65 2 [1,0,1,0] [.d (.str a0)] [1] [.b]) (YP.l0 k aF aC (λz0=>some z0)) (λaH=>mkSt 48 [(0,.d false (.str aF)),(6,.d true (.int .i64 aC)),(7,.d true (.int .i64 aH))] []):=lf_eq λL0 v=>by kernel_rfl
theorem YP.ok (k:Nat):Zas Tryz.prog 65 (YP.e k):=ent_ok (YP.p k) mix tyok Tryz.func65 (Y4.ok k) Kr (λa0=>Eq.trans Kr (congrArg (YP.m k a0 (λz0=>some z0)) (funext λaF=>funext λaC=>funext λv=>YP.l0_eq k a0 aF aC k v) :))
noncomputable def YS.l0 {β:Type} (k:Nat) (aF:LD) (aC:Int) (aH:LD) (aI:Int) (K:Bool->Option β) (L0:Int->Option β) (v:Int):Option β:=
 match v with
 |aL=>bif(decide ((aL:Int)<aI)) then(atR aH aL [.s] λx17=>(bd1 (YP.t k x17) (λy18=>bif(!y18) then(K false) else(bif(decide ((aL:Int)>0)) then(atR aF (IntKind.wrap .i64 (aL-1)) [.s] λx22=>(bif(!(Za3 x22 x17)) then(K false) else(L0 (IntKind.wrap .i64 (aL+1))))) else(L0 (IntKind.wrap .i64 (aL+1))))))) else(K (decide (((aF.length:Int):Int)<=aC)))
noncomputable def YS.m {β:Type} (k:Nat) (a0:LD) (a1:Int) (K:Bool->Option β) (F:(LD->Int->LD->Int->Int->Option β)):Option β:=
 F a0 a1 a0 (a0.length:Int) (0)
noncomputable def YS.g {β:Type} (k:Nat) (a0:LD) (a1:Int) (K:Bool->Option β):Option β:=
 Za1 (YS.l0 k a0 a1 a0 (a0.length:Int) K) k (0)
noncomputable def YS.t (k:Nat) (a0:LD) (a1:Int):=YS.g k a0 a1 (λz0=>some z0)
noncomputable def YS.e (k:Nat):Za0:=ent [.d .l,.d .n] [1] [.b] [4] false (YS.t k)
noncomputable def YS.p (k:Nat):Pro:=⟨Tryz.prog,[(65,YP.e k)],hints [(2,kp [0,1,7,8,9])] false [],k⟩
theorem YS.l0_eq (k:Nat) (a0:LD) (a1:Int) (aF:LD) (aC:Int) (aH:LD) (aI:Int):LpEq ((YS.p k).lf Tryz.f31 2 [1,0,1,0] [.d (.sl a0),.d (.int .i64 a1)] [1] [.b]) (YS.l0 k aF aC aH aI (λz0=>some z0)) (λaL=>mkSt 35 [(0,.d false (.sl aF)),(1,.d false (.int .i64 aC)),(7,.d false (.sl aH)),(8,.d true (.int .i64 aI)),(9,.d true (.int .i64 aL))] []):=lf_eq λL0 v=>by kernel_rfl
theorem YS.ok (k:Nat):Zas Tryz.prog 31 (YS.e k):=ent_ok (YS.p k) mix tyok Tryz.func31 (YP.ok k) Kr (λa0 a1=>Eq.trans Kr (congrArg (YS.m k a0 a1 (λz0=>some z0)) (funext λaF=>funext λaC=>funext λaH=>funext λaI=>funext λv=>YS.l0_eq k a0 a1 aF aC aH aI k v) :))
noncomputable def Yb7.g {β:Type} (k:Nat) (aB:Int) (aA:BA) (aD:Int) (aE aG aJ:LD) (aK:Int) (aY:BA) (bE:Int) (bA bB bD:LD) (bF:Bool) (f0_0:BA) (K:Bool->Option β):Option β:=
 K (ZP aA f0_0)
noncomputable def Yb7.t (k:Nat) (aB:Int) (aA:BA) (aD:Int) (aE aG aJ:LD) (aK:Int) (aY:BA) (bE:Int) (bA bB bD:LD) (bF:Bool) (f0_0:BA):=Yb7.g k aB aA aD aE aG aJ aK aY bE bA bB bD bF f0_0 (λz0=>some z0)
noncomputable def Yb7.e (k:Nat):Za0:=ent [.agg [.n,.s,.n,.l,.l,.l,.n,.s,.n,.l,.l,.l,.b],.ip [.s]] [1] [.b] [4] false (Yb7.t k)
noncomputable def Yb7.p (k:Nat):Pro:=⟨Tryz.prog,[],hints [] false [],k⟩
theorem Yb7.ok (k:Nat):Zas Tryz.prog 102 (Yb7.e k):=ent_ok (Yb7.p k) mix tyok Tryz.func102 trivial Kr (λaB aA aD aE aG aJ aK aY bE bA bB bD bF f0_0=>Ks)
noncomputable def Ym.l0 {β:Type} (k:Nat) (aF:LD) (aC:BA) (aH:Int) (K L0:Int->Option β) (v:Int):Option β:=
 match v with
 |aI=>bif(decide ((aI:Int)<aH)) then(atR aF aI [.n,.s,.n,.l,.l,.l,.n,.s,.n,.l,.l,.l,.b] λx45 x48 x51 x54 x57 x60 x63 x66 x69 x72 x75 x78 x81=>(bd1 (Yb7.t k x45 x48 x51 x54 x57 x60 x63 x66 x69 x72 x75 x78 x81 aC) (λy82=>bif y82 then(K aI) else(L0 (IntKind.wrap .i64 (aI+1)))))) else(K (-1))
noncomputable def Ym.m {β:Type} (k:Nat) (a0:LD) (a1_0_0:BA) (K:Int->Option β) (F:(LD->BA->Int->Int->Option β)):Option β:=
 F a0 a1_0_0 (a0.length:Int) (0)
noncomputable def Ym.g {β:Type} (k:Nat) (a0:LD) (a1_0_0:BA) (K:Int->Option β):Option β:=
 Za1 (Ym.l0 k a0 a1_0_0 (a0.length:Int) K) k (0)
noncomputable def Ym.t (k:Nat) (a0:LD) (a1_0_0:BA):=Ym.g k a0 a1_0_0 (λz0=>some z0)
noncomputable def Ym.e (k:Nat):Za0:=ent [.d .l,.fn 102 [[.s]]] [1] [.n] [3] false (Ym.t k)
noncomputable def Ym.p (k:Nat):Pro:=⟨Tryz.prog,[(102,Yb7.e k)],hints [(2,kp [0,1,7,8])] false [],k⟩
theorem Ym.l0_eq (k:Nat) (a0:LD) (a1_0_0:BA) (aF:LD) (aC:BA) (aH:Int):LpEq ((Ym.p k).lf Tryz.f84 2 [1,0,1,0] [.d (.sl a0),.d (.fn 102 [[.str a1_0_0]])] [1] [.n]) (Ym.l0 k aF aC aH (λz0=>some z0)) (λaI=>mkSt 19 [(0,.d false (.sl aF)),(1,.d false (.fn 102 [[.str aC]])),(7,.d true (.int .i64 aH)),(8,.d true (.int .i64 aI))] []):=lf_eq λL0 v=>by kernel_rfl
theorem Ym.ok (k:Nat):Zas Tryz.prog 84 (Ym.e k):=ent_ok (Ym.p k) mix tyok Tryz.func84 (Yb7.ok k) Kr (λa0 a1_0_0=>Eq.trans Kr (congrArg (Ym.m k a0 a1_0_0 (λz0=>some z0)) (funext λaF=>funext λaC=>funext λaH=>funext λv=>Ym.l0_eq k a0 a1_0_0 aF aC aH k v) :))
noncomputable def Yct.g {β:Type} (k:Nat) (aB aA aD:Int) (aE aG aJ aK:LD) (a1:BA) (K:Int->Option β):Option β:=
 bd1 (Ym.t k aE a1) (λy83=>K y83)
noncomputable def Yct.t (k:Nat) (aB aA aD:Int) (aE aG aJ aK:LD) (a1:BA):=Yct.g k aB aA aD aE aG aJ aK a1 (λz0=>some z0)
noncomputable def Yct.e (k:Nat):Za0:=ent [.agg [.n,.n,.n,.l,.l,.l,.l],.d .s] [1] [.n] [3] false (Yct.t k)
noncomputable def Yct.p (k:Nat):Pro:=⟨Tryz.prog,[(84,Ym.e k)],hints [] false [],k⟩
theorem Yct.ok (k:Nat):Zas Tryz.prog 66 (Yct.e k):=ent_ok (Yct.p k) mix tyok Tryz.func66 (Ym.ok k) Kr (λaB aA aD aE aG aJ aK a1=>Ks)
noncomputable def YaP.g {β:Type} (k:Nat) (a0:Int) (K:Bool->Option β):Option β:=
 bd1 (Y4.t k a0 0 10000) (λy1=>K y1)
noncomputable def YaP.t (k:Nat) (a0:Int):=YaP.g k a0 (λz0=>some z0)
noncomputable def YaP.e (k:Nat):Za0:=ent [.d .n] [1] [.b] [4] false (YaP.t k)
noncomputable def YaP.p (k:Nat):Pro:=⟨Tryz.prog,[(30,Y4.e k)],hints [] false [],k⟩
theorem YaP.ok (k:Nat):Zas Tryz.prog 71 (YaP.e k):=ent_ok (YaP.p k) mix tyok Tryz.func71 (Y4.ok k) Kr (λa0=>Ks)
noncomputable def Ych.g {β:Type} (k:Nat) (aB:Int) (aA:BA) (aD:LD) (K:Bool->Option β):Option β:=
 bif((aB:Int)==1) then(bif((aB:Int)==1) then(bif(((aD.length:Int):Int)==1) then(bd1 (YP.t k aA) (λy1=>bif y1 then(bd1 (YS.t k aD 6) (λy2=>K y2)) else(K false))) else(K false)) else(bif((aB:Int)==3) then(bif(decide (((aD.length:Int):Int)>=1)) then(bd1 (YP.t k aA) (λy3=>bif y3 then(bd1 (YS.t k aD 6) (λy4=>K y4)) else(K false))) else(K false)) else(bif((aB:Int)==4) then(bif((aB:Int)==4) then(bif(((aD.length:Int):Int)==0) then(bd1 (YP.t k aA) (λy5=>bif y5 then(bd1 (YS.t k aD 6) (λy6=>K y6)) else(K false))) else(K false)) else(K false)) else(bif((aB:Int)==5) then(bif(((aD.length:Int):Int)==0) then(bd1 (YP.t k aA) (λy7=>bif y7 then(bd1 (YS.t k aD 6) (λy8=>K y8)) else(K false))) else(K false)) else(K false))))) else(bif((aB:Int)==2) then(bif(((aD.length:Int):Int)==1) then(bd1 (YP.t k aA) (λy9=>bif y9 then(bd1 (YS.t k aD 6) (λy10=>K y10)) else(K false))) else(K false)) else(bif((aB:Int)==3) then(bif(decide (((aD.length:Int):Int)>=1)) then(bd1 (YP.t k aA) (λy11=>bif y11 then(bd1 (YS.t k aD 6) (λy12=>K y12)) else(K false))) else(K false)) else(bif((aB:Int)==4) then(bif((aB:Int)==4) then(bif(((aD.length:Int):Int)==0) then(bd1 (YP.t k aA) (λy13=>bif y13 then(bd1 (YS.t k aD 6) (λy14=>K y14)) else(K false))) else(K false)) else(K false)) else(bif((aB:Int)==5) then(bif(((aD.length:Int):Int)==0) then(bd1 (YP.t k aA) (λy15=>bif y15 then(bd1 (YS.t k aD 6) (λy16=>K y16)) else(K false))) else(K false)) else(K false)))))
noncomputable def Ych.t (k:Nat) (aB:Int) (aA:BA) (aD:LD):=Ych.g k aB aA aD (λz0=>some z0)
noncomputable def Ych.e (k:Nat):Za0:=ent [.agg [.n,.s,.l]] [1] [.b] [4] false (Ych.t k)
noncomputable def Ych.p (k:Nat):Pro:=⟨Tryz.prog,[(65,YP.e k),(31,YS.e k)],hints [] false [],k⟩
theorem Ych.ok (k:Nat):Zas Tryz.prog 139 (Ych.e k):=ent_ok (Ych.p k) mix tyok Tryz.func139 ⟨YP.ok k,YS.ok k⟩ Kr (λaB aA aD=>Ks)
noncomputable def Ybf.g {β:Type} (k:Nat) (aB:Int) (aA:BA) (aD:LD) (K:Bool->Option β):Option β:=
 bd1 (Ych.t k aB aA aD) (λy17=>K (!y17))
noncomputable def Ybf.t (k:Nat) (aB:Int) (aA:BA) (aD:LD):=Ybf.g k aB aA aD (λz0=>some z0)
noncomputable def Ybf.e (k:Nat):Za0:=ent [.agg [.n,.s,.l]] [1] [.b] [4] false (Ybf.t k)
noncomputable def Ybf.p (k:Nat):Pro:=⟨Tryz.prog,[(139,Ych.e k)],hints [] false [],k⟩
theorem Ybf.ok (k:Nat):Zas Tryz.prog 138 (Ybf.e k):=ent_ok (Ybf.p k) mix tyok Tryz.func138 (Ych.ok k) Kr (λaB aA aD=>Ks)
noncomputable def Yg.l0 {β:Type} (k:Nat) (aF:LD) (aC:Int) (K L0:Int->Option β) (v:Int):Option β:=
 match v with
 |aH=>bif(decide ((aH:Int)<aC)) then(atR aF aH [.n,.s,.l] λx22 x25 x28=>(bd1 (Ybf.t k x22 x25 x28) (λy29=>bif y29 then(K aH) else(L0 (IntKind.wrap .i64 (aH+1)))))) else(K (-1))
noncomputable def Yg.m {β:Type} (k:Nat) (a0:LD) (K:Int->Option β) (F:(LD->Int->Int->Option β)):Option β:=
 F a0 (a0.length:Int) (0)
noncomputable def Yg.g {β:Type} (k:Nat) (a0:LD) (K:Int->Option β):Option β:=
 Za1 (Yg.l0 k a0 (a0.length:Int) K) k (0)
noncomputable def Yg.t (k:Nat) (a0:LD):=Yg.g k a0 (λz0=>some z0)
noncomputable def Yg.e (k:Nat):Za0:=ent [.d .l,.fn 138 []] [1] [.n] [3] false (Yg.t k)
noncomputable def Yg.p (k:Nat):Pro:=⟨Tryz.prog,[(138,Ybf.e k)],hints [(2,kp [0,1,7,8])] false [],k⟩
theorem Yg.l0_eq (k:Nat) (a0 aF:LD) (aC:Int):LpEq ((Yg.p k).lf Tryz.f166 2 [1,0,1,0] [.d (.sl a0),.d (.fn 138 [])] [1] [.n]) (Yg.l0 k aF aC (λz0=>some z0)) (λaH=>mkSt 19 [(0,.d false (.sl aF)),(1,.d false (.fn 138 [])),(7,.d true (.int .i64 aC)),(8,.d true (.int .i64 aH))] []):=lf_eq λL0 v=>by kernel_rfl
theorem Yg.ok (k:Nat):Zas Tryz.prog 166 (Yg.e k):=ent_ok (Yg.p k) mix tyok Tryz.func166 (Ybf.ok k) Kr (λa0=>Eq.trans Kr (congrArg (Yg.m k a0 (λz0=>some z0)) (funext λaF=>funext λaC=>funext λv=>Yg.l0_eq k a0 aF aC k v) :))
noncomputable def Yu.g {β:Type} (k:Nat) (a0:LD) (K:Bool->Option β):Option β:=
 bd1 (Yg.t k a0) (λy30=>K (decide ((y30:Int)>=0)))
noncomputable def Yu.t (k:Nat) (a0:LD):=Yu.g k a0 (λz0=>some z0)
noncomputable def Yu.e (k:Nat):Za0:=ent [.d .l,.fn 138 []] [1] [.b] [4] false (Yu.t k)
noncomputable def Yu.p (k:Nat):Pro:=⟨Tryz.prog,[(166,Yg.e k)],hints [] false [],k⟩
theorem Yu.ok (k:Nat):Zas Tryz.prog 137 (Yu.e k):=ent_ok (Yu.p k) mix tyok Tryz.func137 (Yg.ok k) Kr (λa0=>Ks)
noncomputable def Ybn.g {β:Type} (k:Nat) (a0:LD) (K:Bool->Option β):Option β:=
 bif(decide (((a0.length:Int):Int)<=8)) then(bd1 (Yu.t k a0) (λy31=>K (!y31))) else(K false)
noncomputable def Ybn.t (k:Nat) (a0:LD):=Ybn.g k a0 (λz0=>some z0)
noncomputable def Ybn.e (k:Nat):Za0:=ent [.d .l] [1] [.b] [4] false (Ybn.t k)
noncomputable def Ybn.p (k:Nat):Pro:=⟨Tryz.prog,[(137,Yu.e k)],hints [] false [],k⟩
theorem Ybn.ok (k:Nat):Zas Tryz.prog 103 (Ybn.e k):=ent_ok (Ybn.p k) mix tyok Tryz.func103 (Yu.ok k) Kr (λa0=>Ks)
noncomputable def Ya2.l0 {β:Type} (k:Nat) (aF:LD) (aC aI:Int) (aL aM aN:LD) (K:Bool->Option β) (L0:Int->Option β) (v:Int):Option β:=
 match v with
 |aH=>bif(decide ((aH:Int)<aC)) then(atR aF aH [.s,.n] λx37 x40=>(bd1 (YP.t k x37) (λy41=>bif(!y41) then(K false) else(bd1 (Y4.t k x40 0 1000) (λy42=>bif(!y42) then(K false) else(bif(decide ((aH:Int)>0)) then(atR aN (IntKind.wrap .i64 (aH-1)) [.s,.n] λx46 x49=>(bif(!(Za3 x46 x37)) then(K false) else(L0 (IntKind.wrap .i64 (aH+1))))) else(L0 (IntKind.wrap .i64 (aH+1))))))))) else(bd1 (YaP.t k aI) (λy50=>bif y50 then(bd1 (Ybn.t k aL) (λy51=>bif y51 then(bd1 (YS.t k aM 8) (λy52=>bif y52 then(K (decide (((aN.length:Int):Int)<=12))) else(K false))) else(K false))) else(K false)))
noncomputable def Ya2.m {β:Type} (k:Nat) (aB:Int) (aA aD aE:LD) (K:Bool->Option β) (F:(LD->Int->Int->LD->LD->LD->Int->Option β)):Option β:=
 F aE (aE.length:Int) aB aA aD aE (0)
noncomputable def Ya2.g {β:Type} (k:Nat) (aB:Int) (aA aD aE:LD) (K:Bool->Option β):Option β:=
 Za1 (Ya2.l0 k aE (aE.length:Int) aB aA aD aE K) k (0)
noncomputable def Ya2.t (k:Nat) (aB:Int) (aA aD aE:LD):=Ya2.g k aB aA aD aE (λz0=>some z0)
noncomputable def Ya2.e (k:Nat):Za0:=ent [.agg [.n,.l,.l,.l]] [1] [.b] [4] false (Ya2.t k)
noncomputable def Ya2.p (k:Nat):Pro:=⟨Tryz.prog,[(65,YP.e k),(30,Y4.e k),(71,YaP.e k),(103,Ybn.e k),(31,YS.e k)],hints [(2,kp [1,6,7,8])] false [],k⟩
theorem Ya2.l0_eq (k:Nat) (aB:Int) (aA aD aE aF:LD) (aC aI:Int) (aL aM aN:LD):LpEq ((Ya2.p k).lf Tryz.f67 2 [1,0,1,0] [.agg [.int .i64 aB,.sl aA,.sl aD,.sl aE]] [1] [.b]) (Ya2.l0 k aF aC aI aL aM aN (λz0=>some z0)) (λaH=>mkSt 59 [(1,.bp 0 0),(6,.d false (.sl aF)),(7,.d true (.int .i64 aC)),(8,.d true (.int .i64 aH))] [.box none 70 [.d false (.int .i64 aI),.d false (.sl aL),.d false (.sl aM),.d false (.sl aN)]]):=lf_eq λL0 v=>by kernel_rfl
theorem Ya2.ok (k:Nat):Zas Tryz.prog 67 (Ya2.e k):=ent_ok (Ya2.p k) mix tyok Tryz.func67 ⟨YP.ok k,Y4.ok k,YaP.ok k,Ybn.ok k,YS.ok k⟩ Kr (λaB aA aD aE=>Eq.trans Kr (congrArg (Ya2.m k aB aA aD aE (λz0=>some z0)) (funext λaF=>funext λaC=>funext λaI=>funext λaL=>funext λaM=>funext λaN=>funext λv=>Ya2.l0_eq k aB aA aD aE aF aC aI aL aM aN k v) :))
noncomputable def Yaf.l1 {β:Type} (k:Nat) (v1_0:BA) (v1_2:Int) (K:Int->Bool->Option β) (L1:(Int×Int)->Option β) (v:Int×Int):Option β:=
 match v with
 |(v1_1,v1_3)=>bif(decide ((v1_3:Int)<v1_2)) then(atStr v1_0 v1_3 λb11=>bif(decide ((b11:Int)<48)) then(K 0 false) else(atStr v1_0 v1_3 λb12=>bif(decide ((b12:Int)>57)) then(K 0 false) else(atStr v1_0 v1_3 λb13=>L1 (IntKind.wrap .i64 ((IntKind.wrap .i64 (10*v1_1))+(IntKind.wrap .i64 (IntKind.wrap .u8 (b13-48)))),IntKind.wrap .i64 (v1_3+1))))) else(K v1_1 true)
noncomputable def Yaf.l0 {β:Type} (k:Nat) (aF:BA) (aH:Int) (K:Int->Bool->Option β) (L0:(Int×Int)->Option β) (v:Int×Int):Option β:=
 match v with
 |(aC,aI)=>bif(decide ((aI:Int)<aH)) then(atStr aF aI λb5=>bif(decide ((b5:Int)<48)) then(K 0 false) else(atStr aF aI λb6=>bif(decide ((b6:Int)>57)) then(K 0 false) else(atStr aF aI λb7=>L0 (IntKind.wrap .i64 ((IntKind.wrap .i64 (10*aC))+(IntKind.wrap .i64 (IntKind.wrap .u8 (b7-48)))),IntKind.wrap .i64 (aI+1))))) else(K aC true)
noncomputable def Yaf.m {β:Type} (k:Nat) (a0:BA) (a1:Int) (K:Int->Bool->Option β) (F:(BA->Int->(Int×Int)->Option β)×(BA->Int->(Int×Int)->Option β)):Option β:=
 bif(ZP a0 (⟨#[]⟩:BA)) then(K 0 false) else(bif(decide (((a0.size:Int):Int)>a1)) then(K 0 false) else(atStr a0 0 λb1=>bif((b1:Int)==48) then(bif(decide (((a0.size:Int):Int)>1)) then(K 0 false) else(F.1 a0 (a0.size:Int) (0,0))) else(F.2 a0 (a0.size:Int) (0,0))))
noncomputable def Yaf.g {β:Type} (k:Nat) (a0:BA) (a1:Int) (K:Int->Bool->Option β):Option β:=Yaf.m k a0 a1 K ((λaF aH=>Za1 (Yaf.l0 k aF aH K) k),(λv1_0 v1_2=>Za1 (Yaf.l1 k v1_0 v1_2 K) k))
noncomputable def Yaf.t (k:Nat) (a0:BA) (a1:Int):=Yaf.g k a0 a1 (λz0 z1=>some (z0,z1))
noncomputable def Yaf.e (k:Nat):Za0:=ent [.d .s,.d .n] [1,1] [.n,.b] [3,4] false (Yaf.t k)
noncomputable def Yaf.p (k:Nat):Pro:=⟨Tryz.prog,[],hints [(5,kp [0,6,27,28])] false [],k⟩
noncomputable def Yaf.d (k:Nat) (a0:BA) (a1:Int):Ex->St->Option (Int×Bool):=(Yaf.p k).fin Tryz.f195 [.d (.str a0),.d (.int .i64 a1)] [1,1] [.n,.b]
theorem Yaf.l1_eq (k:Nat) (a0:BA) (a1:Int) (v1_0:BA) (v1_2:Int):LpEq ((Yaf.p k).lp (codeOf Tryz.f195) 5 [1,1,1,0,1,0] (Yaf.d k a0 a1)) (Yaf.l1 k v1_0 v1_2 (λz0 z1=>some (z0,z1))) (λ(v1_1,v1_3)=>mkSt 51 [(0,.d false (.str v1_0)),(6,.d true (.int .i64 v1_1)),(27,.d true (.int .i64 v1_2)),(28,.d true (.int .i64 v1_3))] []):=lp_eq λL1 v=>by obtain⟨v1_1,v1_3⟩:=v;kernel_rfl
theorem Yaf.l0_eq (k:Nat) (a0:BA) (a1:Int) (aF:BA) (aH:Int):LpEq ((Yaf.p k).lp (codeOf Tryz.f195) 5 [1,1,1,0,1,0] (Yaf.d k a0 a1)) (Yaf.l0 k aF aH (λz0 z1=>some (z0,z1))) (λ(aC,aI)=>mkSt 51 [(0,.d false (.str aF)),(6,.d true (.int .i64 aC)),(27,.d true (.int .i64 aH)),(28,.d true (.int .i64 aI))] []):=lp_eq λL0 v=>by obtain⟨aC,aI⟩:=v;kernel_rfl
theorem Yaf.ok (k:Nat):Zas Tryz.prog 195 (Yaf.e k):=ent_ok (Yaf.p k) mix tyok Tryz.func195 trivial Kr (λa0 a1=>Eq.trans Kr (congrArg (Yaf.m k a0 a1 (λz0 z1=>some (z0,z1))) (pair_eq (funext λaF=>funext λaH=>funext λv=>Yaf.l0_eq k a0 a1 aF aH k v) (funext λv1_0=>funext λv1_2=>funext λv=>Yaf.l1_eq k a0 a1 v1_0 v1_2 k v)) :))
noncomputable def Ybt.g {β:Type} (k:Nat) (a0:BA) (K:Int->Bool->Option β):Option β:=
 bd2 (Yaf.t k a0 9) (λy14 y15=>K y14 y15)
noncomputable def Ybt.t (k:Nat) (a0:BA):=Ybt.g k a0 (λz0 z1=>some (z0,z1))
noncomputable def Ybt.e (k:Nat):Za0:=ent [.d .s] [1,1] [.n,.b] [3,4] false (Ybt.t k)
noncomputable def Ybt.p (k:Nat):Pro:=⟨Tryz.prog,[(195,Yaf.e k)],hints [] false [],k⟩
theorem Ybt.ok (k:Nat):Zas Tryz.prog 189 (Ybt.e k):=ent_ok (Ybt.p k) mix tyok Tryz.func189 (Yaf.ok k) Kr (λa0=>Ks)
noncomputable def YbL.g {β:Type} (k:Nat) (a0:BA) (K:Bool->Option β):Option β:=
 bd2 (Ybt.t k a0) (λy16 y17=>K y17)
noncomputable def YbL.t (k:Nat) (a0:BA):=YbL.g k a0 (λz0=>some z0)
noncomputable def YbL.e (k:Nat):Za0:=ent [.d .s] [1] [.b] [4] false (YbL.t k)
noncomputable def YbL.p (k:Nat):Pro:=⟨Tryz.prog,[(189,Ybt.e k)],hints [] false [],k⟩
theorem YbL.ok (k:Nat):Zas Tryz.prog 179 (YbL.e k):=ent_ok (YbL.p k) mix tyok Tryz.func179 (Ybt.ok k) Kr (λa0=>Ks)
noncomputable def Ycj.g {β:Type} (k:Nat) (a0:BA) (K:Bool->Option β):Option β:=
 bd1 (YP.t k a0) (λy1=>bif(!y1) then(bd1 (YbL.t k a0) (λy18=>K (!y18))) else(K false))
noncomputable def Ycj.t (k:Nat) (a0:BA):=Ycj.g k a0 (λz0=>some z0)
noncomputable def Ycj.e (k:Nat):Za0:=ent [.d .s] [1] [.b] [4] false (Ycj.t k)
noncomputable def Ycj.p (k:Nat):Pro:=⟨Tryz.prog,[(65,YP.e k),(179,YbL.e k)],hints [] false [],k⟩
theorem Ycj.ok (k:Nat):Zas Tryz.prog 178 (Ycj.e k):=ent_ok (Ycj.p k) mix tyok Tryz.func178 ⟨YP.ok k,YbL.ok k⟩ Kr (λa0=>Ks)
noncomputable def Ys.l0 {β:Type} (k:Nat) (aF:LD) (aC:Int) (K L0:Int->Option β) (v:Int):Option β:=
 match v with
 |aH=>bif(decide ((aH:Int)<aC)) then(atR aF aH [.s] λx23=>(bd1 (Ycj.t k x23) (λy24=>bif y24 then(K aH) else(L0 (IntKind.wrap .i64 (aH+1)))))) else(K (-1))
noncomputable def Ys.m {β:Type} (k:Nat) (a0:LD) (K:Int->Option β) (F:(LD->Int->Int->Option β)):Option β:=
 F a0 (a0.length:Int) (0)
noncomputable def Ys.g {β:Type} (k:Nat) (a0:LD) (K:Int->Option β):Option β:=
 Za1 (Ys.l0 k a0 (a0.length:Int) K) k (0)
noncomputable def Ys.t (k:Nat) (a0:LD):=Ys.g k a0 (λz0=>some z0)
noncomputable def Ys.e (k:Nat):Za0:=ent [.d .l,.fn 178 []] [1] [.n] [3] false (Ys.t k)
noncomputable def Ys.p (k:Nat):Pro:=⟨Tryz.prog,[(178,Ycj.e k)],hints [(2,kp [0,1,7,8])] false [],k⟩
theorem Ys.l0_eq (k:Nat) (a0 aF:LD) (aC:Int):LpEq ((Ys.p k).lf Tryz.f188 2 [1,0,1,0] [.d (.sl a0),.d (.fn 178 [])] [1] [.n]) (Ys.l0 k aF aC (λz0=>some z0)) (λaH=>mkSt 19 [(0,.d false (.sl aF)),(1,.d false (.fn 178 [])),(7,.d true (.int .i64 aC)),(8,.d true (.int .i64 aH))] []):=lf_eq λL0 v=>by kernel_rfl
theorem Ys.ok (k:Nat):Zas Tryz.prog 188 (Ys.e k):=ent_ok (Ys.p k) mix tyok Tryz.func188 (Ycj.ok k) Kr (λa0=>Eq.trans Kr (congrArg (Ys.m k a0 (λz0=>some z0)) (funext λaF=>funext λaC=>funext λv=>Ys.l0_eq k a0 aF aC k v) :))
noncomputable def YM.g {β:Type} (k:Nat) (a0:LD) (K:Bool->Option β):Option β:=
 bd1 (Ys.t k a0) (λy25=>K (decide ((y25:Int)>=0)))
noncomputable def YM.t (k:Nat) (a0:LD):=YM.g k a0 (λz0=>some z0)
noncomputable def YM.e (k:Nat):Za0:=ent [.d .l,.fn 178 []] [1] [.b] [4] false (YM.t k)
noncomputable def YM.p (k:Nat):Pro:=⟨Tryz.prog,[(188,Ys.e k)],hints [] false [],k⟩
theorem YM.ok (k:Nat):Zas Tryz.prog 177 (YM.e k):=ent_ok (YM.p k) mix tyok Tryz.func177 (Ys.ok k) Kr (λa0=>Ks)
noncomputable def YaA.l0 {β:Type} (k:Nat) (aF aC aH:Bool) (aI aM:Int) (aN:BA) (aO:Int) (aU aV:LD) (K:Bool->Option β) (L0:Int->Option β) (v:Int):Option β:=
 match v with
 |aL=>bif(decide ((aL:Int)<aI)) then(atStr aN aL λb3=>bd1 (Y4.t k (IntKind.wrap .i64 b3) 32 126) (λy4=>bif(!y4) then(K false) else(L0 (IntKind.wrap .i64 (aL+1))))) else(bif(decide (((aN.size:Int):Int)<=100)) then(bif aF then(bif aC then(K aH) else(K false)) else(K false)) else(K false))
noncomputable def YaA.m {β:Type} (k:Nat) (aB:Int) (aA:BA) (aD:Int) (aE aG:LD) (K:Bool->Option β) (F:(Bool->Bool->Bool->Int->Int->BA->Int->LD->LD->Int->Option β)):Option β:=
 bif((aB:Int)==1) then(F ((aD:Int)==0) (((aE.length:Int):Int)==0) (((aG.length:Int):Int)==0) (aA.size:Int) aB aA aD aE aG (0)) else(let J0:=(bif(((aE.length:Int):Int)==0) then(K (((aG.length:Int):Int)==0)) else(K false));bif((aB:Int)==2) then(bif(ZP aA (⟨#[]⟩:BA)) then J0 else(K false)) else(bif((aB:Int)==3) then(bd1 (Y4.t k aD 0 1) (λy5=>bif(ZP aA (⟨#[]⟩:BA)) then(bif y5 then J0 else(K false)) else(K false))) else(bif((aB:Int)==4) then(bif(ZP aA (⟨#[]⟩:BA)) then(bif((aD:Int)==0) then(bif(((aE.length:Int):Int)==0) then(K true) else(K false)) else(K false)) else(K false)) else(bif((aB:Int)==5) then(bd1 (YS.t k aE 300) (λy6=>bif y6 then(bif(ZP aA (⟨#[]⟩:BA)) then(bif((aD:Int)==0) then(bif(((aE.length:Int):Int)==(aG.length:Int)) then(K true) else(K false)) else(K false)) else(K false)) else(bif(ZP aA (⟨#[]⟩:BA)) then(bif((aD:Int)==0) then(K false) else(K false)) else(K false)))) else(K false)))))
noncomputable def YaA.g {β:Type} (k:Nat) (aB:Int) (aA:BA) (aD:Int) (aE aG:LD) (K:Bool->Option β):Option β:=YaA.m k aB aA aD aE aG K (λaF aC aH aI aM aN aO aU aV=>Za1 (YaA.l0 k aF aC aH aI aM aN aO aU aV K) k)
noncomputable def YaA.t (k:Nat) (aB:Int) (aA:BA) (aD:Int) (aE aG:LD):=YaA.g k aB aA aD aE aG (λz0=>some z0)
noncomputable def YaA.e (k:Nat):Za0:=ent [.agg [.n,.s,.n,.l,.l]] [1] [.b] [4] false (YaA.t k)
noncomputable def YaA.p (k:Nat):Pro:=⟨Tryz.prog,[(30,Y4.e k),(31,YS.e k)],hints [(6,kp [1,4,5,6,28,29])] false [],k⟩
theorem YaA.l0_eq (k:Nat) (aB:Int) (aA:BA) (aD:Int) (aE aG:LD) (aF aC aH:Bool) (aI aM:Int) (aN:BA) (aO:Int) (aU aV:LD):LpEq ((YaA.p k).lf Tryz.f151 6 [1,1,0,1,0,1,0,0,1,0] [.agg [.int .i64 aB,.str aA,.int .i64 aD,.sl aE,.sl aG]] [1] [.b]) (YaA.l0 k aF aC aH aI aM aN aO aU aV (λz0=>some z0)) (λaL=>mkSt 77 [(1,.bp 0 0),(4,.d true (.bool aF)),(5,.d true (.bool aC)),(6,.d true (.bool aH)),(28,.d true (.int .i64 aI)),(29,.d true (.int .i64 aL))] [.box none 64 [.d false (.int .i64 aM),.d false (.str aN),.d false (.int .i64 aO),.d false (.sl aU),.d false (.sl aV)]]):=lf_eq λL0 v=>by kernel_rfl
theorem YaA.ok (k:Nat):Zas Tryz.prog 151 (YaA.e k):=ent_ok (YaA.p k) mix tyok Tryz.func151 ⟨Y4.ok k,YS.ok k⟩ Kr (λaB aA aD aE aG=>Eq.trans Kr (congrArg (YaA.m k aB aA aD aE aG (λz0=>some z0)) (funext λaF=>funext λaC=>funext λaH=>funext λaI=>funext λaM=>funext λaN=>funext λaO=>funext λaU=>funext λaV=>funext λv=>YaA.l0_eq k aB aA aD aE aG aF aC aH aI aM aN aO aU aV k v) :))
noncomputable def Yw.l0 {β:Type} (k:Nat) (r_impl_measured:Int->BA->Int->LD->LD->Int->(Int->Option β)->Option β) (aF:Int) (aH:LD) (aI:Int) (K:Int->Option β) (L0:(Int×Int)->Option β) (v:Int×Int):Option β:=
 match v with
 |(aC,aL)=>bif(decide ((aL:Int)<aI)) then(atR aH aL [.n,.s,.n,.l,.l] λx28 x31 x34 x37 x40=>(r_impl_measured x28 x31 x34 x37 x40 (IntKind.wrap .i64 (aF-1)) (λy41=>bif(decide (((IntKind.wrap .i64 (aC+y41)):Int)>300)) then(K 301) else(L0 (IntKind.wrap .i64 (aC+y41),IntKind.wrap .i64 (aL+1)))))) else(K aC)
noncomputable def Yw.m {β:Type} (k:Nat) (r_impl_measured:Int->BA->Int->LD->LD->Int->(Int->Option β)->Option β) (aB:Int) (aA:BA) (aD:Int) (aE aG:LD) (a1:Int) (K:Int->Option β) (F:(Int->LD->Int->(Int×Int)->Option β)):Option β:=
 bif((a1:Int)==0) then(K 301) else(bd1 (YaA.t k aB aA aD aE aG) (λy7=>bif(!y7) then(K 301) else(F a1 aG (aG.length:Int) (1,0))))
noncomputable def Yw.body {β:Type} (k:Nat) (r_impl_measured:Int->BA->Int->LD->LD->Int->(Int->Option β)->Option β) (aB:Int) (aA:BA) (aD:Int) (aE aG:LD) (a1:Int) (K:Int->Option β):Option β:=
 bif((a1:Int)==0) then(K 301) else(bd1 (YaA.t k aB aA aD aE aG) (λy7=>bif(!y7) then(K 301) else(Za1 (Yw.l0 k r_impl_measured a1 aG (aG.length:Int) K) k (1,0))))
noncomputable def Yw.w {β:Type} (r:Int->BA->Int->LD->LD->Int->Option (Int)) (aB:Int) (aA:BA) (aD:Int) (aE aG:LD) (a1:Int) (K:Int->Option β):Option β:=bd1 (r aB aA aD aE aG a1) K
noncomputable def Yw.all:Nat->(Int->BA->Int->LD->LD->Int->Option (Int))
 |0=>(λ_ _ _ _ _ _=>none)
 |k+1=>(λr=>(λaB aA aD aE aG a1=>Yw.body k (Yw.w r) aB aA aD aE aG a1 (λz0=>some z0))) (Yw.all k)
noncomputable def Yw.t (k:Nat) (aB:Int) (aA:BA) (aD:Int) (aE aG:LD) (a1:Int):Option (Int):=(Yw.all k) aB aA aD aE aG a1
noncomputable def Yw.f {β:Type} (k:Nat) (aB:Int) (aA:BA) (aD:Int) (aE aG:LD) (a1:Int) (K:Int->Option β):Option β:=Yw.w (Yw.t k) aB aA aD aE aG a1 K
noncomputable def Yw.g {β:Type} (k:Nat) (aB:Int) (aA:BA) (aD:Int) (aE aG:LD) (a1:Int) (K:Int->Option β):Option β:=Yw.body k (Yw.f k) aB aA aD aE aG a1 K
theorem Yw.t_succ (k:Nat) (aB:Int) (aA:BA) (aD:Int) (aE aG:LD) (a1:Int):Yw.t (k+1) aB aA aD aE aG a1=Yw.g k aB aA aD aE aG a1 (λz0=>some z0):=rfl
noncomputable def Yw.e (k:Nat):Za0:=ent [.agg [.n,.s,.n,.l,.l],.d .n] [1] [.n] [3] false (Yw.t k)
noncomputable def Yw.p (k:Nat):Pro:=⟨Tryz.prog,[(151,YaA.e k),(118,Yw.e k)],hints [(5,kp [1,5,16,17,18])] false [],k⟩
theorem Yw.l0_eq (k:Nat) (aB:Int) (aA:BA) (aD:Int) (aE aG:LD) (a1 aF:Int) (aH:LD) (aI:Int):LpEq ((Yw.p k).lf Tryz.f118 5 [1,1,1,0,1,0] [.agg [.int .i64 aB,.str aA,.int .i64 aD,.sl aE,.sl aG],.d (.int .i64 a1)] [1] [.n]) (Yw.l0 k (Yw.f k) aF aH aI (λz0=>some z0)) (λ(aC,aL)=>mkSt 32 [(1,.d false (.int .i64 aF)),(5,.d true (.int .i64 aC)),(16,.d false (.sl aH)),(17,.d true (.int .i64 aI)),(18,.d true (.int .i64 aL))] []):=lf_eq λL0 v=>by obtain⟨aC,aL⟩:=v;kernel_rfl
theorem Yw.oks (k:Nat):Zas Tryz.prog 118 (Yw.e k):=by
 induction k with
 |zero=>exact ent_zero Tryz.func118 Kr (λ_ _ _ _ _ _=>rfl)
 |succ k ih=>exact ent_ok (Yw.p k) mix tyok Tryz.func118 ⟨YaA.ok k,ih⟩ Kr (λaB aA aD aE aG a1=>Eq.trans Kr ((congrArg (Yw.m k (Yw.f k) aB aA aD aE aG a1 (λz0=>some z0)) (funext λaF=>funext λaH=>funext λaI=>funext λv=>Yw.l0_eq k aB aA aD aE aG a1 aF aH aI k v)).trans (Yw.t_succ k aB aA aD aE aG a1).symm))
theorem Yw.ok (k:Nat):Zas Tryz.prog 118 (Yw.e k):=(Yw.oks k)
noncomputable def Yag.g {β:Type} (k:Nat) (aB:Int) (aA:BA) (aD:Int) (aE aG:LD) (K:Bool->Option β):Option β:=
 Yw.f k aB aA aD aE aG 6 (λy42=>K (decide ((y42:Int)<=300)))
noncomputable def Yag.t (k:Nat) (aB:Int) (aA:BA) (aD:Int) (aE aG:LD):=Yag.g k aB aA aD aE aG (λz0=>some z0)
noncomputable def Yag.e (k:Nat):Za0:=ent [.agg [.n,.s,.n,.l,.l]] [1] [.b] [4] false (Yag.t k)
noncomputable def Yag.p (k:Nat):Pro:=⟨Tryz.prog,[(118,Yw.e k)],hints [] false [],k⟩
theorem Yag.ok (k:Nat):Zas Tryz.prog 79 (Yag.e k):=ent_ok (Yag.p k) mix tyok Tryz.func79 (Yw.ok k) Kr (λaB aA aD aE aG=>Ks)
end Go.Proofs.YtnfogafklciihaaGreat
