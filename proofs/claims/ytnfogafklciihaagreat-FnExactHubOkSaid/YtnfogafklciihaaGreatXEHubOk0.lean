/- Printed: the functions that FnExactHubOk reaches,read by the evaluator,each with its contract. -/
import Derived.Test.YtnfogafklciihaaGreatTIns
import Derived.Test.YtnfogafklciihaaGreatProg
import Derived.KernelRfl
set_option linter.unusedVariables false
set_option linter.unusedSimpArgs false
set_option maxRecDepth 1000000
set_option maxHeartbeats 8000000
namespace Go.Proofs.YtnfogafklciihaaGreat
open Go Go.T Go.Proofs
theorem Kr {p:Prop} (h:p:=by kernel_rfl):p:=h
theorem Ks {α:Type} {a b:α} (h:a=b:=by kernel_rfl):a=b:=h
theorem mix:Tryz.prog.follows .mixedOrders=true:=by kernel_rfl
theorem tyok:Zax Tryz.prog:=tyOk_of Kr
noncomputable def YD.l0 {β:Type} (k:Nat) (aF:LD) (K:Int->Option β) (L0:(Int×Int)->Option β) (v:Int×Int):Option β:=
 match v with
 |(aG,aH)=>bif(decide ((aH:Int)<(aF.length:Int))) then(atR aF aH [.s] λx8=>(bif(decide (((IntKind.wrap .i64 (aG-(x8.size:Int))):Int)<0)) then(K (-1)) else(L0 (IntKind.wrap .i64 (aG-(x8.size:Int)),IntKind.wrap .i64 (aH+1))))) else(K aG)
noncomputable def YD.m {β:Type} (k:Nat) (a0:LD) (a1:Int) (K:Int->Option β) (F:(LD->(Int×Int)->Option β)):Option β:=
 bif(decide (((IntKind.wrap .i64 (a1-(a0.length:Int))):Int)<0)) then(K (-1)) else(F a0 (IntKind.wrap .i64 (a1-(a0.length:Int)),0))
noncomputable def YD.g {β:Type} (k:Nat) (a0:LD) (a1:Int) (K:Int->Option β):Option β:=
 bif(decide (((IntKind.wrap .i64 (a1-(a0.length:Int))):Int)<0)) then(K (-1)) else(Za1 (YD.l0 k a0 K) k (IntKind.wrap .i64 (a1-(a0.length:Int)),0))
noncomputable def YD.t (k:Nat) (a0:LD) (a1:Int):=YD.g k a0 a1 (λz0=>some z0)
noncomputable def YD.e (k:Nat):Za0:=ent [.d .l,.d .n] [1] [.n] [3] false (YD.t k)
noncomputable def YD.p (k:Nat):Pro:=⟨Tryz.prog,[],hints [(5,kp [0,1,5])] false [],k⟩
theorem YD.l0_eq (k:Nat) (a0:LD) (a1:Int) (aF:LD):LpEq ((YD.p k).lf Tryz.f19 5 [1,1,1,0,1,0] [.d (.sl a0),.d (.int .i64 a1)] [1] [.n]) (YD.l0 k aF (λz0=>some z0)) (λ(aG,aH)=>mkSt 28 [(0,.d false (.sl aF)),(1,.d true (.int .i64 aG)),(5,.d true (.int .i64 aH))] []):=lf_eq λL0 v=>by obtain⟨aG,aH⟩:=v;kernel_rfl
theorem YD.ok (k:Nat):Zas Tryz.prog 19 (YD.e k):=ent_ok (YD.p k) mix tyok Tryz.func19 trivial Kr (λa0 a1=>Eq.trans Kr (congrArg (YD.m k a0 a1 (λz0=>some z0)) (funext λaF=>funext λv=>YD.l0_eq k a0 a1 aF k v) :))
noncomputable def Ybu.g {β:Type} (k:Nat) (aB:Int) (aA:BA) (aC:LD) (a1:Int) (K:Int->Option β):Option β:=
 bif(decide (((IntKind.wrap .i64 (a1-(aA.size:Int))):Int)<0)) then(K (-1)) else(bd1 (YD.t k aC (IntKind.wrap .i64 (a1-(aA.size:Int)))) (λy9=>bif(decide ((y9:Int)<0)) then(K (-1)) else(K y9)))
noncomputable def Ybu.t (k:Nat) (aB:Int) (aA:BA) (aC:LD) (a1:Int):=Ybu.g k aB aA aC a1 (λz0=>some z0)
noncomputable def Ybu.e (k:Nat):Za0:=ent [.agg [.n,.s,.l],.d .n] [1] [.n] [3] false (Ybu.t k)
noncomputable def Ybu.p (k:Nat):Pro:=⟨Tryz.prog,[(19,YD.e k)],hints [] false [],k⟩
theorem Ybu.ok (k:Nat):Zas Tryz.prog 158 (Ybu.e k):=ent_ok (Ybu.p k) mix tyok Tryz.func158 (YD.ok k) Kr (λaB aA aC a1=>Ks)
noncomputable def Yan.l0 {β:Type} (k:Nat) (aF:LD) (K:Int->Option β) (L0:(Int×Int)->Option β) (v:Int×Int):Option β:=
 match v with
 |(aG,aH)=>bif(decide ((aH:Int)<(aF.length:Int))) then(atR aF aH [.n,.s,.l] λx15 x18 x21=>(bd1 (Ybu.t k x15 x18 x21 aG) (λy22=>bif(decide ((y22:Int)<0)) then(K (-1)) else(L0 (y22,IntKind.wrap .i64 (aH+1)))))) else(K aG)
noncomputable def Yan.m {β:Type} (k:Nat) (a0:LD) (a1:Int) (K:Int->Option β) (F:(LD->(Int×Int)->Option β)):Option β:=
 bif(decide (((IntKind.wrap .i64 (a1-(a0.length:Int))):Int)<0)) then(K (-1)) else(F a0 (IntKind.wrap .i64 (a1-(a0.length:Int)),0))
noncomputable def Yan.g {β:Type} (k:Nat) (a0:LD) (a1:Int) (K:Int->Option β):Option β:=
 bif(decide (((IntKind.wrap .i64 (a1-(a0.length:Int))):Int)<0)) then(K (-1)) else(Za1 (Yan.l0 k a0 K) k (IntKind.wrap .i64 (a1-(a0.length:Int)),0))
noncomputable def Yan.t (k:Nat) (a0:LD) (a1:Int):=Yan.g k a0 a1 (λz0=>some z0)
noncomputable def Yan.e (k:Nat):Za0:=ent [.d .l,.d .n] [1] [.n] [3] false (Yan.t k)
noncomputable def Yan.p (k:Nat):Pro:=⟨Tryz.prog,[(158,Ybu.e k)],hints [(5,kp [0,1,5])] false [],k⟩
theorem Yan.l0_eq (k:Nat) (a0:LD) (a1:Int) (aF:LD):LpEq ((Yan.p k).lf Tryz.f124 5 [1,1,1,0,1,0] [.d (.sl a0),.d (.int .i64 a1)] [1] [.n]) (Yan.l0 k aF (λz0=>some z0)) (λ(aG,aH)=>mkSt 27 [(0,.d false (.sl aF)),(1,.d true (.int .i64 aG)),(5,.d true (.int .i64 aH))] []):=lf_eq λL0 v=>by obtain⟨aG,aH⟩:=v;kernel_rfl
theorem Yan.ok (k:Nat):Zas Tryz.prog 124 (Yan.e k):=ent_ok (Yan.p k) mix tyok Tryz.func124 (Ybu.ok k) Kr (λa0 a1=>Eq.trans Kr (congrArg (Yan.m k a0 a1 (λz0=>some z0)) (funext λaF=>funext λv=>Yan.l0_eq k a0 a1 aF k v) :))
noncomputable def Ybe.g {β:Type} (k:Nat) (aB:BA) (aA a1:Int) (K:Int->Option β):Option β:=
 bif(decide (((IntKind.wrap .i64 (a1-(aB.size:Int))):Int)<0)) then(K (-1)) else(K (IntKind.wrap .i64 (a1-(aB.size:Int))))
noncomputable def Ybe.t (k:Nat) (aB:BA) (aA a1:Int):=Ybe.g k aB aA a1 (λz0=>some z0)
noncomputable def Ybe.e (k:Nat):Za0:=ent [.agg [.s,.n],.d .n] [1] [.n] [3] false (Ybe.t k)
noncomputable def Ybe.p (k:Nat):Pro:=⟨Tryz.prog,[],hints [] false [],k⟩
theorem Ybe.ok (k:Nat):Zas Tryz.prog 159 (Ybe.e k):=ent_ok (Ybe.p k) mix tyok Tryz.func159 trivial Kr (λaB aA a1=>Ks)
noncomputable def Y9.l0 {β:Type} (k:Nat) (aF:LD) (K:Int->Option β) (L0:(Int×Int)->Option β) (v:Int×Int):Option β:=
 match v with
 |(aG,aH)=>bif(decide ((aH:Int)<(aF.length:Int))) then(atR aF aH [.s,.n] λx12 x15=>(bd1 (Ybe.t k x12 x15 aG) (λy16=>bif(decide ((y16:Int)<0)) then(K (-1)) else(L0 (y16,IntKind.wrap .i64 (aH+1)))))) else(K aG)
noncomputable def Y9.m {β:Type} (k:Nat) (a0:LD) (a1:Int) (K:Int->Option β) (F:(LD->(Int×Int)->Option β)):Option β:=
 bif(decide (((IntKind.wrap .i64 (a1-(a0.length:Int))):Int)<0)) then(K (-1)) else(F a0 (IntKind.wrap .i64 (a1-(a0.length:Int)),0))
noncomputable def Y9.g {β:Type} (k:Nat) (a0:LD) (a1:Int) (K:Int->Option β):Option β:=
 bif(decide (((IntKind.wrap .i64 (a1-(a0.length:Int))):Int)<0)) then(K (-1)) else(Za1 (Y9.l0 k a0 K) k (IntKind.wrap .i64 (a1-(a0.length:Int)),0))
noncomputable def Y9.t (k:Nat) (a0:LD) (a1:Int):=Y9.g k a0 a1 (λz0=>some z0)
noncomputable def Y9.e (k:Nat):Za0:=ent [.d .l,.d .n] [1] [.n] [3] false (Y9.t k)
noncomputable def Y9.p (k:Nat):Pro:=⟨Tryz.prog,[(159,Ybe.e k)],hints [(5,kp [0,1,5])] false [],k⟩
theorem Y9.l0_eq (k:Nat) (a0:LD) (a1:Int) (aF:LD):LpEq ((Y9.p k).lf Tryz.f125 5 [1,1,1,0,1,0] [.d (.sl a0),.d (.int .i64 a1)] [1] [.n]) (Y9.l0 k aF (λz0=>some z0)) (λ(aG,aH)=>mkSt 27 [(0,.d false (.sl aF)),(1,.d true (.int .i64 aG)),(5,.d true (.int .i64 aH))] []):=lf_eq λL0 v=>by obtain⟨aG,aH⟩:=v;kernel_rfl
theorem Y9.ok (k:Nat):Zas Tryz.prog 125 (Y9.e k):=ent_ok (Y9.p k) mix tyok Tryz.func125 (Ybe.ok k) Kr (λa0 a1=>Eq.trans Kr (congrArg (Y9.m k a0 a1 (λz0=>some z0)) (funext λaF=>funext λv=>Y9.l0_eq k a0 a1 aF k v) :))
noncomputable def YbF.g {β:Type} (k:Nat) (aB:Int) (aA aC aD:LD) (a1:Int) (K:Int->Option β):Option β:=
 bd1 (Yan.t k aA a1) (λy23=>bif(decide ((y23:Int)<0)) then(K (-1)) else(bd1 (YD.t k aC y23) (λy24=>bif(decide ((y24:Int)<0)) then(K (-1)) else(bd1 (Y9.t k aD y24) (λy25=>bif(decide ((y25:Int)<0)) then(K (-1)) else(K y25))))))
noncomputable def YbF.t (k:Nat) (aB:Int) (aA aC aD:LD) (a1:Int):=YbF.g k aB aA aC aD a1 (λz0=>some z0)
noncomputable def YbF.e (k:Nat):Za0:=ent [.agg [.n,.l,.l,.l],.d .n] [1] [.n] [3] false (YbF.t k)
noncomputable def YbF.p (k:Nat):Pro:=⟨Tryz.prog,[(124,Yan.e k),(19,YD.e k),(125,Y9.e k)],hints [] false [],k⟩
theorem YbF.ok (k:Nat):Zas Tryz.prog 91 (YbF.e k):=ent_ok (YbF.p k) mix tyok Tryz.func91 ⟨Yan.ok k,YD.ok k,Y9.ok k⟩ Kr (λaB aA aC aD a1=>Ks)
noncomputable def YA.l0 {β:Type} (k:Nat) (r_laws_szValueS:LD->Int->(Int->Option β)->Option β) (r_laws_szValue:Int->BA->Int->LD->LD->Int->(Int->Option β)->Option β) (aF:LD) (K:Int->Option β) (L0:(Int×Int)->Option β) (v:Int×Int):Option β:=
 match v with
 |(aG,aH)=>bif(decide ((aH:Int)<(aF.length:Int))) then(atR aF aH [.n,.s,.n,.l,.l] λx21 x24 x27 x30 x33=>(r_laws_szValue x21 x24 x27 x30 x33 aG (λy34=>bif(decide ((y34:Int)<0)) then(K (-1)) else(L0 (y34,IntKind.wrap .i64 (aH+1)))))) else(K aG)
noncomputable def YA.m {β:Type} (k:Nat) (r_laws_szValueS:LD->Int->(Int->Option β)->Option β) (r_laws_szValue:Int->BA->Int->LD->LD->Int->(Int->Option β)->Option β) (a0:LD) (a1:Int) (K:Int->Option β) (F:(LD->(Int×Int)->Option β)):Option β:=
 bif(decide (((IntKind.wrap .i64 (a1-(a0.length:Int))):Int)<0)) then(K (-1)) else(F a0 (IntKind.wrap .i64 (a1-(a0.length:Int)),0))
noncomputable def YA.body {β:Type} (k:Nat) (r_laws_szValueS:LD->Int->(Int->Option β)->Option β) (r_laws_szValue:Int->BA->Int->LD->LD->Int->(Int->Option β)->Option β) (a0:LD) (a1:Int) (K:Int->Option β):Option β:=
 bif(decide (((IntKind.wrap .i64 (a1-(a0.length:Int))):Int)<0)) then(K (-1)) else(Za1 (YA.l0 k r_laws_szValueS r_laws_szValue a0 K) k (IntKind.wrap .i64 (a1-(a0.length:Int)),0))
noncomputable def YN.body {β:Type} (k:Nat) (r_laws_szValueS:LD->Int->(Int->Option β)->Option β) (r_laws_szValue:Int->BA->Int->LD->LD->Int->(Int->Option β)->Option β) (aB:Int) (aA:BA) (aC:Int) (aD aE:LD) (a1:Int) (K:Int->Option β):Option β:=
 bif(decide (((IntKind.wrap .i64 (a1-(aA.size:Int))):Int)<0)) then(K (-1)) else(bd1 (YD.t k aD (IntKind.wrap .i64 (a1-(aA.size:Int)))) (λy1=>bif(decide ((y1:Int)<0)) then(K (-1)) else(r_laws_szValueS aE y1 (λy35=>bif(decide ((y35:Int)<0)) then(K (-1)) else(K y35)))))
noncomputable def YA.w {β:Type} (r:LD->Int->Option (Int)) (a0:LD) (a1:Int) (K:Int->Option β):Option β:=bd1 (r a0 a1) K
noncomputable def YN.w {β:Type} (r:Int->BA->Int->LD->LD->Int->Option (Int)) (aB:Int) (aA:BA) (aC:Int) (aD aE:LD) (a1:Int) (K:Int->Option β):Option β:=bd1 (r aB aA aC aD aE a1) K
noncomputable def YA.all:Nat->(LD->Int->Option (Int))×(Int->BA->Int->LD->LD->Int->Option (Int))
 |0=>(λ_ _=>none,λ_ _ _ _ _ _=>none)
 |k+1=>(λr=>(λa0 a1=>YA.body k (YA.w r.1) (YN.w r.2) a0 a1 (λz0=>some z0),λaB aA aC aD aE a1=>YN.body k (YA.w r.1) (YN.w r.2) aB aA aC aD aE a1 (λz0=>some z0))) (YA.all k)
noncomputable def YA.t (k:Nat) (a0:LD) (a1:Int):Option (Int):=(YA.all k).1 a0 a1
noncomputable def YN.t (k:Nat) (aB:Int) (aA:BA) (aC:Int) (aD aE:LD) (a1:Int):Option (Int):=(YA.all k).2 aB aA aC aD aE a1
noncomputable def YA.f {β:Type} (k:Nat) (a0:LD) (a1:Int) (K:Int->Option β):Option β:=YA.w (YA.t k) a0 a1 K
noncomputable def YN.f {β:Type} (k:Nat) (aB:Int) (aA:BA) (aC:Int) (aD aE:LD) (a1:Int) (K:Int->Option β):Option β:=YN.w (YN.t k) aB aA aC aD aE a1 K
noncomputable def YA.g {β:Type} (k:Nat) (a0:LD) (a1:Int) (K:Int->Option β):Option β:=YA.body k (YA.f k) (YN.f k) a0 a1 K
theorem YA.t_succ (k:Nat) (a0:LD) (a1:Int):YA.t (k+1) a0 a1=YA.g k a0 a1 (λz0=>some z0):=rfl
noncomputable def YN.g {β:Type} (k:Nat) (aB:Int) (aA:BA) (aC:Int) (aD aE:LD) (a1:Int) (K:Int->Option β):Option β:=YN.body k (YA.f k) (YN.f k) aB aA aC aD aE a1 K
theorem YN.t_succ (k:Nat) (aB:Int) (aA:BA) (aC:Int) (aD aE:LD) (a1:Int):YN.t (k+1) aB aA aC aD aE a1=YN.g k aB aA aC aD aE a1 (λz0=>some z0):=rfl
noncomputable def YA.e (k:Nat):Za0:=ent [.d .l,.d .n] [1] [.n] [3] false (YA.t k)
noncomputable def YN.e (k:Nat):Za0:=ent [.agg [.n,.s,.n,.l,.l],.d .n] [1] [.n] [3] false (YN.t k)
noncomputable def YA.p (k:Nat):Pro:=⟨Tryz.prog,[(92,YN.e k)],hints [(5,kp [0,1,5])] false [],k⟩
theorem YA.l0_eq (k:Nat) (a0:LD) (a1:Int) (aF:LD):LpEq ((YA.p k).lf Tryz.f126 5 [1,1,1,0,1,0] [.d (.sl a0),.d (.int .i64 a1)] [1] [.n]) (YA.l0 k (YA.f k) (YN.f k) aF (λz0=>some z0)) (λ(aG,aH)=>mkSt 27 [(0,.d false (.sl aF)),(1,.d true (.int .i64 aG)),(5,.d true (.int .i64 aH))] []):=lf_eq λL0 v=>by obtain⟨aG,aH⟩:=v;kernel_rfl
noncomputable def YN.p (k:Nat):Pro:=⟨Tryz.prog,[(19,YD.e k),(126,YA.e k)],hints [] false [],k⟩
theorem YA.oks (k:Nat):Zas Tryz.prog 126 (YA.e k)/\Zas Tryz.prog 92 (YN.e k):=by
 induction k with
 |zero=>exact⟨ent_zero Tryz.func126 Kr (λ_ _=>rfl),
  ent_zero Tryz.func92 Kr (λ_ _ _ _ _ _=>rfl)⟩
 |succ k ih=>exact⟨ent_ok (YA.p k) mix tyok Tryz.func126 ih.2 Kr (λa0 a1=>Eq.trans Kr ((congrArg (YA.m k (YA.f k) (YN.f k) a0 a1 (λz0=>some z0)) (funext λaF=>funext λv=>YA.l0_eq k a0 a1 aF k v)).trans (YA.t_succ k a0 a1).symm)),
  ent_ok (YN.p k) mix tyok Tryz.func92 ⟨YD.ok k,ih.1⟩ Kr (λaB aA aC aD aE a1=>Ks)⟩
theorem YN.ok (k:Nat):Zas Tryz.prog 92 (YN.e k):=(YA.oks k).2
noncomputable def YbZ.g {β:Type} (k:Nat) (aB:Int) (aA:LD) (aC:Int) (aD:BA) (aE:Int) (aJ aK:LD) (a1:Int) (K:Int->Option β):Option β:=
 bd1 (YD.t k aA a1) (λy1=>bif(decide ((y1:Int)<0)) then(K (-1)) else(YN.f k aC aD aE aJ aK y1 (λy2=>bif(decide ((y2:Int)<0)) then(K (-1)) else(K y2))))
noncomputable def YbZ.t (k:Nat) (aB:Int) (aA:LD) (aC:Int) (aD:BA) (aE:Int) (aJ aK:LD) (a1:Int):=YbZ.g k aB aA aC aD aE aJ aK a1 (λz0=>some z0)
noncomputable def YbZ.e (k:Nat):Za0:=ent [.agg [.n,.l,.n,.s,.n,.l,.l],.d .n] [1] [.n] [3] false (YbZ.t k)
noncomputable def YbZ.p (k:Nat):Pro:=⟨Tryz.prog,[(19,YD.e k),(92,YN.e k)],hints [] false [],k⟩
theorem YbZ.ok (k:Nat):Zas Tryz.prog 185 (YbZ.e k):=ent_ok (YbZ.p k) mix tyok Tryz.func185 ⟨YD.ok k,YN.ok k⟩ Kr (λaB aA aC aD aE aJ aK a1=>Ks)
noncomputable def YaW.l0 {β:Type} (k:Nat) (aF:LD) (K:Int->Option β) (L0:(Int×Int)->Option β) (v:Int×Int):Option β:=
 match v with
 |(aG,aH)=>bif(decide ((aH:Int)<(aF.length:Int))) then(atR aF aH [.n,.l,.n,.s,.n,.l,.l] λx27 x30 x33 x36 x39 x42 x45=>(bd1 (YbZ.t k x27 x30 x33 x36 x39 x42 x45 aG) (λy46=>bif(decide ((y46:Int)<0)) then(K (-1)) else(L0 (y46,IntKind.wrap .i64 (aH+1)))))) else(K aG)
noncomputable def YaW.m {β:Type} (k:Nat) (a0:LD) (a1:Int) (K:Int->Option β) (F:(LD->(Int×Int)->Option β)):Option β:=
 bif(decide (((IntKind.wrap .i64 (a1-(a0.length:Int))):Int)<0)) then(K (-1)) else(F a0 (IntKind.wrap .i64 (a1-(a0.length:Int)),0))
noncomputable def YaW.g {β:Type} (k:Nat) (a0:LD) (a1:Int) (K:Int->Option β):Option β:=
 bif(decide (((IntKind.wrap .i64 (a1-(a0.length:Int))):Int)<0)) then(K (-1)) else(Za1 (YaW.l0 k a0 K) k (IntKind.wrap .i64 (a1-(a0.length:Int)),0))
noncomputable def YaW.t (k:Nat) (a0:LD) (a1:Int):=YaW.g k a0 a1 (λz0=>some z0)
noncomputable def YaW.e (k:Nat):Za0:=ent [.d .l,.d .n] [1] [.n] [3] false (YaW.t k)
noncomputable def YaW.p (k:Nat):Pro:=⟨Tryz.prog,[(185,YbZ.e k)],hints [(5,kp [0,1,5])] false [],k⟩
theorem YaW.l0_eq (k:Nat) (a0:LD) (a1:Int) (aF:LD):LpEq ((YaW.p k).lf Tryz.f160 5 [1,1,1,0,1,0] [.d (.sl a0),.d (.int .i64 a1)] [1] [.n]) (YaW.l0 k aF (λz0=>some z0)) (λ(aG,aH)=>mkSt 27 [(0,.d false (.sl aF)),(1,.d true (.int .i64 aG)),(5,.d true (.int .i64 aH))] []):=lf_eq λL0 v=>by obtain⟨aG,aH⟩:=v;kernel_rfl
theorem YaW.ok (k:Nat):Zas Tryz.prog 160 (YaW.e k):=ent_ok (YaW.p k) mix tyok Tryz.func160 (YbZ.ok k) Kr (λa0 a1=>Eq.trans Kr (congrArg (YaW.m k a0 a1 (λz0=>some z0)) (funext λaF=>funext λv=>YaW.l0_eq k a0 a1 aF k v) :))
noncomputable def Ybw.g {β:Type} (k:Nat) (aB:BA) (aA:LD) (a1:Int) (K:Int->Option β):Option β:=
 bif(decide (((IntKind.wrap .i64 (a1-(aB.size:Int))):Int)<0)) then(K (-1)) else(bd1 (YaW.t k aA (IntKind.wrap .i64 (a1-(aB.size:Int)))) (λy47=>bif(decide ((y47:Int)<0)) then(K (-1)) else(K y47)))
noncomputable def Ybw.t (k:Nat) (aB:BA) (aA:LD) (a1:Int):=Ybw.g k aB aA a1 (λz0=>some z0)
noncomputable def Ybw.e (k:Nat):Za0:=ent [.agg [.s,.l],.d .n] [1] [.n] [3] false (Ybw.t k)
noncomputable def Ybw.p (k:Nat):Pro:=⟨Tryz.prog,[(160,YaW.e k)],hints [] false [],k⟩
theorem Ybw.ok (k:Nat):Zas Tryz.prog 127 (Ybw.e k):=ent_ok (Ybw.p k) mix tyok Tryz.func127 (YaW.ok k) Kr (λaB aA a1=>Ks)
noncomputable def Yap.l0 {β:Type} (k:Nat) (aF:LD) (K:Int->Option β) (L0:(Int×Int)->Option β) (v:Int×Int):Option β:=
 match v with
 |(aG,aH)=>bif(decide ((aH:Int)<(aF.length:Int))) then(atR aF aH [.s,.l] λx52 x55=>(bd1 (Ybw.t k x52 x55 aG) (λy56=>bif(decide ((y56:Int)<0)) then(K (-1)) else(L0 (y56,IntKind.wrap .i64 (aH+1)))))) else(K aG)
noncomputable def Yap.m {β:Type} (k:Nat) (a0:LD) (a1:Int) (K:Int->Option β) (F:(LD->(Int×Int)->Option β)):Option β:=
 bif(decide (((IntKind.wrap .i64 (a1-(a0.length:Int))):Int)<0)) then(K (-1)) else(F a0 (IntKind.wrap .i64 (a1-(a0.length:Int)),0))
noncomputable def Yap.g {β:Type} (k:Nat) (a0:LD) (a1:Int) (K:Int->Option β):Option β:=
 bif(decide (((IntKind.wrap .i64 (a1-(a0.length:Int))):Int)<0)) then(K (-1)) else(Za1 (Yap.l0 k a0 K) k (IntKind.wrap .i64 (a1-(a0.length:Int)),0))
noncomputable def Yap.t (k:Nat) (a0:LD) (a1:Int):=Yap.g k a0 a1 (λz0=>some z0)
noncomputable def Yap.e (k:Nat):Za0:=ent [.d .l,.d .n] [1] [.n] [3] false (Yap.t k)
noncomputable def Yap.p (k:Nat):Pro:=⟨Tryz.prog,[(127,Ybw.e k)],hints [(5,kp [0,1,5])] false [],k⟩
theorem Yap.l0_eq (k:Nat) (a0:LD) (a1:Int) (aF:LD):LpEq ((Yap.p k).lf Tryz.f93 5 [1,1,1,0,1,0] [.d (.sl a0),.d (.int .i64 a1)] [1] [.n]) (Yap.l0 k aF (λz0=>some z0)) (λ(aG,aH)=>mkSt 27 [(0,.d false (.sl aF)),(1,.d true (.int .i64 aG)),(5,.d true (.int .i64 aH))] []):=lf_eq λL0 v=>by obtain⟨aG,aH⟩:=v;kernel_rfl
theorem Yap.ok (k:Nat):Zas Tryz.prog 93 (Yap.e k):=ent_ok (Yap.p k) mix tyok Tryz.func93 (Ybw.ok k) Kr (λa0 a1=>Eq.trans Kr (congrArg (Yap.m k a0 a1 (λz0=>some z0)) (funext λaF=>funext λv=>Yap.l0_eq k a0 a1 aF k v) :))
noncomputable def YbM.g {β:Type} (k:Nat) (aB:Int) (aA:BA) (aC:Int) (aD aE aJ:LD) (aK:Int) (bI:BA) (bJ:Int) (bF bG bH:LD) (bK:Bool) (a1:Int) (K:Int->Option β):Option β:=
 bif(decide (((IntKind.wrap .i64 (a1-(aA.size:Int))):Int)<0)) then(K (-1)) else(bd1 (YbF.t k aC aD aE aJ (IntKind.wrap .i64 (a1-(aA.size:Int)))) (λy26=>bif(decide ((y26:Int)<0)) then(K (-1)) else(YN.f k aK bI bJ bF bG y26 (λy36=>bif(decide ((y36:Int)<0)) then(K (-1)) else(bd1 (Yap.t k bH y36) (λy57=>bif(decide ((y57:Int)<0)) then(K (-1)) else(K y57)))))))
noncomputable def YbM.t (k:Nat) (aB:Int) (aA:BA) (aC:Int) (aD aE aJ:LD) (aK:Int) (bI:BA) (bJ:Int) (bF bG bH:LD) (bK:Bool) (a1:Int):=YbM.g k aB aA aC aD aE aJ aK bI bJ bF bG bH bK a1 (λz0=>some z0)
noncomputable def YbM.e (k:Nat):Za0:=ent [.agg [.n,.s,.n,.l,.l,.l,.n,.s,.n,.l,.l,.l,.b],.d .n] [1] [.n] [3] false (YbM.t k)
noncomputable def YbM.p (k:Nat):Pro:=⟨Tryz.prog,[(91,YbF.e k),(92,YN.e k),(93,Yap.e k)],hints [] false [],k⟩
theorem YbM.ok (k:Nat):Zas Tryz.prog 51 (YbM.e k):=ent_ok (YbM.p k) mix tyok Tryz.func51 ⟨YbF.ok k,YN.ok k,Yap.ok k⟩ Kr (λaB aA aC aD aE aJ aK bI bJ bF bG bH bK a1=>Ks)
noncomputable def YaI.l0 {β:Type} (k:Nat) (aF:LD) (K:Int->Option β) (L0:(Int×Int)->Option β) (v:Int×Int):Option β:=
 match v with
 |(aG,aH)=>bif(decide ((aH:Int)<(aF.length:Int))) then(atR aF aH [.n,.s,.n,.l,.l,.l,.n,.s,.n,.l,.l,.l,.b] λx62 x65 x68 x71 x74 x77 x80 x83 x86 x89 x92 x95 x98=>(bd1 (YbM.t k x62 x65 x68 x71 x74 x77 x80 x83 x86 x89 x92 x95 x98 aG) (λy99=>bif(decide ((y99:Int)<0)) then(K (-1)) else(L0 (y99,IntKind.wrap .i64 (aH+1)))))) else(K aG)
noncomputable def YaI.m {β:Type} (k:Nat) (a0:LD) (a1:Int) (K:Int->Option β) (F:(LD->(Int×Int)->Option β)):Option β:=
 bif(decide (((IntKind.wrap .i64 (a1-(a0.length:Int))):Int)<0)) then(K (-1)) else(F a0 (IntKind.wrap .i64 (a1-(a0.length:Int)),0))
noncomputable def YaI.g {β:Type} (k:Nat) (a0:LD) (a1:Int) (K:Int->Option β):Option β:=
 bif(decide (((IntKind.wrap .i64 (a1-(a0.length:Int))):Int)<0)) then(K (-1)) else(Za1 (YaI.l0 k a0 K) k (IntKind.wrap .i64 (a1-(a0.length:Int)),0))
noncomputable def YaI.t (k:Nat) (a0:LD) (a1:Int):=YaI.g k a0 a1 (λz0=>some z0)
noncomputable def YaI.e (k:Nat):Za0:=ent [.d .l,.d .n] [1] [.n] [3] false (YaI.t k)
noncomputable def YaI.p (k:Nat):Pro:=⟨Tryz.prog,[(51,YbM.e k)],hints [(5,kp [0,1,5])] false [],k⟩
theorem YaI.l0_eq (k:Nat) (a0:LD) (a1:Int) (aF:LD):LpEq ((YaI.p k).lf Tryz.f16 5 [1,1,1,0,1,0] [.d (.sl a0),.d (.int .i64 a1)] [1] [.n]) (YaI.l0 k aF (λz0=>some z0)) (λ(aG,aH)=>mkSt 27 [(0,.d false (.sl aF)),(1,.d true (.int .i64 aG)),(5,.d true (.int .i64 aH))] []):=lf_eq λL0 v=>by obtain⟨aG,aH⟩:=v;kernel_rfl
theorem YaI.ok (k:Nat):Zas Tryz.prog 16 (YaI.e k):=ent_ok (YaI.p k) mix tyok Tryz.func16 (YbM.ok k) Kr (λa0 a1=>Eq.trans Kr (congrArg (YaI.m k a0 a1 (λz0=>some z0)) (funext λaF=>funext λv=>YaI.l0_eq k a0 a1 aF k v) :))
noncomputable def Ybf.g {β:Type} (k:Nat) (aB aA:BA) (a1:Int) (K:Int->Option β):Option β:=
 bif(decide (((IntKind.wrap .i64 (a1-(aB.size:Int))):Int)<0)) then(K (-1)) else(let J0:=(IntKind.wrap .i64 ((IntKind.wrap .i64 (a1-(aB.size:Int)))-(aA.size:Int)));bif(decide ((J0:Int)<0)) then(K (-1)) else(K J0))
noncomputable def Ybf.t (k:Nat) (aB aA:BA) (a1:Int):=Ybf.g k aB aA a1 (λz0=>some z0)
noncomputable def Ybf.e (k:Nat):Za0:=ent [.agg [.s,.s],.d .n] [1] [.n] [3] false (Ybf.t k)
noncomputable def Ybf.p (k:Nat):Pro:=⟨Tryz.prog,[],hints [] false [],k⟩
theorem Ybf.ok (k:Nat):Zas Tryz.prog 161 (Ybf.e k):=ent_ok (Ybf.p k) mix tyok Tryz.func161 trivial Kr (λaB aA a1=>Ks)
noncomputable def Yaa.l0 {β:Type} (k:Nat) (aF:LD) (K:Int->Option β) (L0:(Int×Int)->Option β) (v:Int×Int):Option β:=
 match v with
 |(aG,aH)=>bif(decide ((aH:Int)<(aF.length:Int))) then(atR aF aH [.s,.s] λx12 x15=>(bd1 (Ybf.t k x12 x15 aG) (λy16=>bif(decide ((y16:Int)<0)) then(K (-1)) else(L0 (y16,IntKind.wrap .i64 (aH+1)))))) else(K aG)
noncomputable def Yaa.m {β:Type} (k:Nat) (a0:LD) (a1:Int) (K:Int->Option β) (F:(LD->(Int×Int)->Option β)):Option β:=
 bif(decide (((IntKind.wrap .i64 (a1-(a0.length:Int))):Int)<0)) then(K (-1)) else(F a0 (IntKind.wrap .i64 (a1-(a0.length:Int)),0))
noncomputable def Yaa.g {β:Type} (k:Nat) (a0:LD) (a1:Int) (K:Int->Option β):Option β:=
 bif(decide (((IntKind.wrap .i64 (a1-(a0.length:Int))):Int)<0)) then(K (-1)) else(Za1 (Yaa.l0 k a0 K) k (IntKind.wrap .i64 (a1-(a0.length:Int)),0))
noncomputable def Yaa.t (k:Nat) (a0:LD) (a1:Int):=Yaa.g k a0 a1 (λz0=>some z0)
noncomputable def Yaa.e (k:Nat):Za0:=ent [.d .l,.d .n] [1] [.n] [3] false (Yaa.t k)
noncomputable def Yaa.p (k:Nat):Pro:=⟨Tryz.prog,[(161,Ybf.e k)],hints [(5,kp [0,1,5])] false [],k⟩
theorem Yaa.l0_eq (k:Nat) (a0:LD) (a1:Int) (aF:LD):LpEq ((Yaa.p k).lf Tryz.f128 5 [1,1,1,0,1,0] [.d (.sl a0),.d (.int .i64 a1)] [1] [.n]) (Yaa.l0 k aF (λz0=>some z0)) (λ(aG,aH)=>mkSt 27 [(0,.d false (.sl aF)),(1,.d true (.int .i64 aG)),(5,.d true (.int .i64 aH))] []):=lf_eq λL0 v=>by obtain⟨aG,aH⟩:=v;kernel_rfl
theorem Yaa.ok (k:Nat):Zas Tryz.prog 128 (Yaa.e k):=ent_ok (Yaa.p k) mix tyok Tryz.func128 (Ybf.ok k) Kr (λa0 a1=>Eq.trans Kr (congrArg (Yaa.m k a0 a1 (λz0=>some z0)) (funext λaF=>funext λv=>Yaa.l0_eq k a0 a1 aF k v) :))
noncomputable def Yba.g {β:Type} (k:Nat) (aB:BA) (aA aC:LD) (aD a1:Int) (K:Int->Option β):Option β:=
 bif(decide (((IntKind.wrap .i64 (a1-(aB.size:Int))):Int)<0)) then(K (-1)) else(bd1 (Yaa.t k aA (IntKind.wrap .i64 (a1-(aB.size:Int)))) (λy17=>bif(decide ((y17:Int)<0)) then(K (-1)) else(bd1 (YD.t k aC y17) (λy18=>bif(decide ((y18:Int)<0)) then(K (-1)) else(K y18)))))
noncomputable def Yba.t (k:Nat) (aB:BA) (aA aC:LD) (aD a1:Int):=Yba.g k aB aA aC aD a1 (λz0=>some z0)
noncomputable def Yba.e (k:Nat):Za0:=ent [.agg [.s,.l,.l,.n],.d .n] [1] [.n] [3] false (Yba.t k)
noncomputable def Yba.p (k:Nat):Pro:=⟨Tryz.prog,[(128,Yaa.e k),(19,YD.e k)],hints [] false [],k⟩
theorem Yba.ok (k:Nat):Zas Tryz.prog 94 (Yba.e k):=ent_ok (Yba.p k) mix tyok Tryz.func94 ⟨Yaa.ok k,YD.ok k⟩ Kr (λaB aA aC aD a1=>Ks)
noncomputable def Ybv.g {β:Type} (k:Nat) (aB:BA) (aA aC:LD) (aD aE aJ a1:Int) (K:Int->Option β):Option β:=
 bd1 (Yba.t k aB aA aC aD a1) (λy19=>bif(decide ((y19:Int)<0)) then(K (-1)) else(K y19))
noncomputable def Ybv.t (k:Nat) (aB:BA) (aA aC:LD) (aD aE aJ a1:Int):=Ybv.g k aB aA aC aD aE aJ a1 (λz0=>some z0)
noncomputable def Ybv.e (k:Nat):Za0:=ent [.agg [.s,.l,.l,.n,.n,.n],.d .n] [1] [.n] [3] false (Ybv.t k)
noncomputable def Ybv.p (k:Nat):Pro:=⟨Tryz.prog,[(94,Yba.e k)],hints [] false [],k⟩
theorem Ybv.ok (k:Nat):Zas Tryz.prog 52 (Ybv.e k):=ent_ok (Ybv.p k) mix tyok Tryz.func52 (Yba.ok k) Kr (λaB aA aC aD aE aJ a1=>Ks)
noncomputable def Yao.l0 {β:Type} (k:Nat) (aF:LD) (K:Int->Option β) (L0:(Int×Int)->Option β) (v:Int×Int):Option β:=
 match v with
 |(aG,aH)=>bif(decide ((aH:Int)<(aF.length:Int))) then(atR aF aH [.s,.l,.l,.n,.n,.n] λx24 x27 x30 x33 x36 x39=>(bd1 (Ybv.t k x24 x27 x30 x33 x36 x39 aG) (λy40=>bif(decide ((y40:Int)<0)) then(K (-1)) else(L0 (y40,IntKind.wrap .i64 (aH+1)))))) else(K aG)
noncomputable def Yao.m {β:Type} (k:Nat) (a0:LD) (a1:Int) (K:Int->Option β) (F:(LD->(Int×Int)->Option β)):Option β:=
 bif(decide (((IntKind.wrap .i64 (a1-(a0.length:Int))):Int)<0)) then(K (-1)) else(F a0 (IntKind.wrap .i64 (a1-(a0.length:Int)),0))
noncomputable def Yao.g {β:Type} (k:Nat) (a0:LD) (a1:Int) (K:Int->Option β):Option β:=
 bif(decide (((IntKind.wrap .i64 (a1-(a0.length:Int))):Int)<0)) then(K (-1)) else(Za1 (Yao.l0 k a0 K) k (IntKind.wrap .i64 (a1-(a0.length:Int)),0))
noncomputable def Yao.t (k:Nat) (a0:LD) (a1:Int):=Yao.g k a0 a1 (λz0=>some z0)
noncomputable def Yao.e (k:Nat):Za0:=ent [.d .l,.d .n] [1] [.n] [3] false (Yao.t k)
noncomputable def Yao.p (k:Nat):Pro:=⟨Tryz.prog,[(52,Ybv.e k)],hints [(5,kp [0,1,5])] false [],k⟩
theorem Yao.l0_eq (k:Nat) (a0:LD) (a1:Int) (aF:LD):LpEq ((Yao.p k).lf Tryz.f17 5 [1,1,1,0,1,0] [.d (.sl a0),.d (.int .i64 a1)] [1] [.n]) (Yao.l0 k aF (λz0=>some z0)) (λ(aG,aH)=>mkSt 27 [(0,.d false (.sl aF)),(1,.d true (.int .i64 aG)),(5,.d true (.int .i64 aH))] []):=lf_eq λL0 v=>by obtain⟨aG,aH⟩:=v;kernel_rfl
theorem Yao.ok (k:Nat):Zas Tryz.prog 17 (Yao.e k):=ent_ok (Yao.p k) mix tyok Tryz.func17 (Ybv.ok k) Kr (λa0 a1=>Eq.trans Kr (congrArg (Yao.m k a0 a1 (λz0=>some z0)) (funext λaF=>funext λv=>Yao.l0_eq k a0 a1 aF k v) :))
noncomputable def Ybx.g {β:Type} (k:Nat) (aB:Int) (aA:BA) (aC aD aE a1:Int) (K:Int->Option β):Option β:=
 bif(decide (((IntKind.wrap .i64 (a1-(aA.size:Int))):Int)<0)) then(K (-1)) else(K (IntKind.wrap .i64 (a1-(aA.size:Int))))
noncomputable def Ybx.t (k:Nat) (aB:Int) (aA:BA) (aC aD aE a1:Int):=Ybx.g k aB aA aC aD aE a1 (λz0=>some z0)
noncomputable def Ybx.e (k:Nat):Za0:=ent [.agg [.n,.s,.n,.n,.n],.d .n] [1] [.n] [3] false (Ybx.t k)
noncomputable def Ybx.p (k:Nat):Pro:=⟨Tryz.prog,[],hints [] false [],k⟩
theorem Ybx.ok (k:Nat):Zas Tryz.prog 53 (Ybx.e k):=ent_ok (Ybx.p k) mix tyok Tryz.func53 trivial Kr (λaB aA aC aD aE a1=>Ks)
noncomputable def Yaq.l0 {β:Type} (k:Nat) (aF:LD) (K:Int->Option β) (L0:(Int×Int)->Option β) (v:Int×Int):Option β:=
 match v with
 |(aG,aH)=>bif(decide ((aH:Int)<(aF.length:Int))) then(atR aF aH [.n,.s,.n,.n,.n] λx21 x24 x27 x30 x33=>(bd1 (Ybx.t k x21 x24 x27 x30 x33 aG) (λy34=>bif(decide ((y34:Int)<0)) then(K (-1)) else(L0 (y34,IntKind.wrap .i64 (aH+1)))))) else(K aG)
noncomputable def Yaq.m {β:Type} (k:Nat) (a0:LD) (a1:Int) (K:Int->Option β) (F:(LD->(Int×Int)->Option β)):Option β:=
 bif(decide (((IntKind.wrap .i64 (a1-(a0.length:Int))):Int)<0)) then(K (-1)) else(F a0 (IntKind.wrap .i64 (a1-(a0.length:Int)),0))
noncomputable def Yaq.g {β:Type} (k:Nat) (a0:LD) (a1:Int) (K:Int->Option β):Option β:=
 bif(decide (((IntKind.wrap .i64 (a1-(a0.length:Int))):Int)<0)) then(K (-1)) else(Za1 (Yaq.l0 k a0 K) k (IntKind.wrap .i64 (a1-(a0.length:Int)),0))
noncomputable def Yaq.t (k:Nat) (a0:LD) (a1:Int):=Yaq.g k a0 a1 (λz0=>some z0)
noncomputable def Yaq.e (k:Nat):Za0:=ent [.d .l,.d .n] [1] [.n] [3] false (Yaq.t k)
noncomputable def Yaq.p (k:Nat):Pro:=⟨Tryz.prog,[(53,Ybx.e k)],hints [(5,kp [0,1,5])] false [],k⟩
theorem Yaq.l0_eq (k:Nat) (a0:LD) (a1:Int) (aF:LD):LpEq ((Yaq.p k).lf Tryz.f18 5 [1,1,1,0,1,0] [.d (.sl a0),.d (.int .i64 a1)] [1] [.n]) (Yaq.l0 k aF (λz0=>some z0)) (λ(aG,aH)=>mkSt 27 [(0,.d false (.sl aF)),(1,.d true (.int .i64 aG)),(5,.d true (.int .i64 aH))] []):=lf_eq λL0 v=>by obtain⟨aG,aH⟩:=v;kernel_rfl
theorem Yaq.ok (k:Nat):Zas Tryz.prog 18 (Yaq.e k):=ent_ok (Yaq.p k) mix tyok Tryz.func18 (Ybx.ok k) Kr (λa0 a1=>Eq.trans Kr (congrArg (Yaq.m k a0 a1 (λz0=>some z0)) (funext λaF=>funext λv=>Yaq.l0_eq k a0 a1 aF k v) :))
noncomputable def YbQ.g {β:Type} (k:Nat) (aB aA aC:Int) (aD aE aJ aK:LD) (a1:Int) (K:Int->Option β):Option β:=
 bd1 (YaI.t k aD a1) (λy100=>bif(decide ((y100:Int)<0)) then(K (-1)) else(bd1 (Yao.t k aE y100) (λy101=>bif(decide ((y101:Int)<0)) then(K (-1)) else(bd1 (Yaq.t k aJ y101) (λy102=>bif(decide ((y102:Int)<0)) then(K (-1)) else(bd1 (YD.t k aK y102) (λy103=>bif(decide ((y103:Int)<0)) then(K (-1)) else(K y103))))))))
noncomputable def YbQ.t (k:Nat) (aB aA aC:Int) (aD aE aJ aK:LD) (a1:Int):=YbQ.g k aB aA aC aD aE aJ aK a1 (λz0=>some z0)
noncomputable def YbQ.e (k:Nat):Za0:=ent [.agg [.n,.n,.n,.l,.l,.l,.l],.d .n] [1] [.n] [3] false (YbQ.t k)
noncomputable def YbQ.p (k:Nat):Pro:=⟨Tryz.prog,[(16,YaI.e k),(17,Yao.e k),(18,Yaq.e k),(19,YD.e k)],hints [] false [],k⟩
theorem YbQ.ok (k:Nat):Zas Tryz.prog 5 (YbQ.e k):=ent_ok (YbQ.p k) mix tyok Tryz.func5 ⟨YaI.ok k,Yao.ok k,Yaq.ok k,YD.ok k⟩ Kr (λaB aA aC aD aE aJ aK a1=>Ks)
noncomputable def YC.l0 {β:Type} (k:Nat) (aF:LD) (K:LC->Option β) (L0:(Int×LC)->Option β) (v:Int×LC):Option β:=
 match v with
 |(aG,aH)=>bif(decide ((aG:Int)<(aF.length:Int))) then(atR aF aG [.s] λx8=>(Z0 ((0:Int)<=aG/\aG<(aH.length:Int)) (Z0 (Int.toNat aG<aH.length) (L0 (IntKind.wrap .i64 (aG+1),aH.modify (Int.toNat aG) λc=>ZE c 0 [.d (.str x8)]))))) else(K aH)
noncomputable def YC.m {β:Type} (k:Nat) (a0:LD) (K:LC->Option β) (F:(LD->(Int×LC)->Option β)):Option β:=
 Z0 ((0:Int)<=(a0.length:Int)/\(a0.length:Int)<=(Zx:Int)/\(a0.length:Int)<=(a0.length:Int)/\(a0.length:Int)<=(a0.length:Int)) (F a0 (0,List.replicate (Int.toNat (a0.length:Int)) ([.d (.str (⟨#[]⟩:BA))]:List C)))
noncomputable def YC.g {β:Type} (k:Nat) (a0:LD) (K:LC->Option β):Option β:=
 Z0 ((0:Int)<=(a0.length:Int)/\(a0.length:Int)<=(Zx:Int)/\(a0.length:Int)<=(a0.length:Int)/\(a0.length:Int)<=(a0.length:Int)) (Za1 (YC.l0 k a0 K) k (0,List.replicate (Int.toNat (a0.length:Int)) ([.d (.str (⟨#[]⟩:BA))]:List C)))
noncomputable def YC.t (k:Nat) (a0:LD):=YC.g k a0 (λz0=>some z0)
noncomputable def YC.e (k:Nat):Za0:=ent [.d .l] [1] [.o] [25] false (YC.t k)
noncomputable def YC.p (k:Nat):Pro:=⟨Tryz.prog,[],hints [(3,kp [0,3,4])] false [],k⟩
theorem YC.l0_eq (k:Nat) (a0 aF:LD):LpEq ((YC.p k).lf Tryz.f29 3 [1,1,0,1,0] [.d (.sl a0)] [1] [.o]) (YC.l0 k aF (λz0=>some z0)) (λ(aG,aH)=>mkSt 22 [(0,.d false (.sl aF)),(3,.row 0),(4,.d true (.int .i64 aG))] [.row none true 25 aH]):=lf_eq λL0 v=>by obtain⟨aG,aH⟩:=v;kernel_rfl
theorem YC.ok (k:Nat):Zas Tryz.prog 29 (YC.e k):=ent_ok (YC.p k) mix tyok Tryz.func29 trivial Kr (λa0=>Eq.trans Kr (congrArg (YC.m k a0 (λz0=>some z0)) (funext λaF=>funext λv=>YC.l0_eq k a0 aF k v) :))
noncomputable def Ybq.g {β:Type} (k:Nat) (aB:Int) (aA:BA) (aC:LD) (K:Int->BA->LC->Option β):Option β:=
 bd1 (YC.t k aC) (λy9=>K aB aA y9)
noncomputable def Ybq.t (k:Nat) (aB:Int) (aA:BA) (aC:LD):=Ybq.g k aB aA aC (λz0 z1 z2=>some (z0,z1,z2))
noncomputable def Ybq.e (k:Nat):Za0:=ent [.agg [.n,.s,.l]] [3] [.n,.s,.o] [165] false (Ybq.t k)
noncomputable def Ybq.p (k:Nat):Pro:=⟨Tryz.prog,[(29,YC.e k)],hints [] false [],k⟩
theorem Ybq.ok (k:Nat):Zas Tryz.prog 162 (Ybq.e k):=ent_ok (Ybq.p k) mix tyok Tryz.func162 (YC.ok k) Kr (λaB aA aC=>Ks)
noncomputable def Yad.l0 {β:Type} (k:Nat) (aF:LD) (K:LC->Option β) (L0:(Int×LC)->Option β) (v:Int×LC):Option β:=
 match v with
 |(aG,aH)=>bif(decide ((aG:Int)<(aF.length:Int))) then(atR aF aG [.n,.s,.l] λx17 x20 x23=>(bd3 (Ybq.t k x17 x20 x23) (λy24 y25 y26=>Z0 ((0:Int)<=aG/\aG<(aH.length:Int)) (Z0 (Int.toNat aG<aH.length) (L0 (IntKind.wrap .i64 (aG+1),aH.modify (Int.toNat aG) λc=>ZE c 0 [.d (.int .i64 y24),.d (.str y25),.own y26])))))) else(K aH)
noncomputable def Yad.m {β:Type} (k:Nat) (a0:LD) (K:LC->Option β) (F:(LD->(Int×LC)->Option β)):Option β:=
 Z0 ((0:Int)<=(a0.length:Int)/\(a0.length:Int)<=(Zx:Int)/\(a0.length:Int)<=(a0.length:Int)/\(a0.length:Int)<=(a0.length:Int)) (F a0 (0,List.replicate (Int.toNat (a0.length:Int)) ([.d (.int .i64 0),.d (.str (⟨#[]⟩:BA)),.own ([]:LC)]:List C)))
noncomputable def Yad.g {β:Type} (k:Nat) (a0:LD) (K:LC->Option β):Option β:=Yad.m k a0 K (λaF=>Za1 (Yad.l0 k aF K) k)
noncomputable def Yad.t (k:Nat) (a0:LD):=Yad.g k a0 (λz0=>some z0)
noncomputable def Yad.e (k:Nat):Za0:=ent [.d .l] [1] [.o] [67] false (Yad.t k)
noncomputable def Yad.p (k:Nat):Pro:=⟨Tryz.prog,[(162,Ybq.e k)],hints [(3,kp [0,3,4])] false [],k⟩
theorem Yad.l0_eq (k:Nat) (a0 aF:LD):LpEq ((Yad.p k).lf Tryz.f132 3 [1,1,0,1,0] [.d (.sl a0)] [1] [.o]) (Yad.l0 k aF (λz0=>some z0)) (λ(aG,aH)=>mkSt 23 [(0,.d false (.sl aF)),(3,.row 0),(4,.d true (.int .i64 aG))] [.row none true 67 aH]):=lf_eq λL0 v=>by obtain⟨aG,aH⟩:=v;kernel_rfl
theorem Yad.ok (k:Nat):Zas Tryz.prog 132 (Yad.e k):=ent_ok (Yad.p k) mix tyok Tryz.func132 (Ybq.ok k) Kr (λa0=>Eq.trans Kr (congrArg (Yad.m k a0 (λz0=>some z0)) (funext λaF=>funext λv=>Yad.l0_eq k a0 aF k v) :))
noncomputable def Ybc.g {β:Type} (k:Nat) (aB:BA) (aA:Int) (K:BA->Int->Option β):Option β:=
 K aB aA
noncomputable def Ybc.t (k:Nat) (aB:BA) (aA:Int):=Ybc.g k aB aA (λz0 z1=>some (z0,z1))
noncomputable def Ybc.e (k:Nat):Za0:=ent [.agg [.s,.n]] [2] [.s,.n] [142] false (Ybc.t k)
noncomputable def Ybc.p (k:Nat):Pro:=⟨Tryz.prog,[],hints [] false [],k⟩
theorem Ybc.ok (k:Nat):Zas Tryz.prog 163 (Ybc.e k):=ent_ok (Ybc.p k) mix tyok Tryz.func163 trivial Kr (λaB aA=>Ks)
noncomputable def Y3.l0 {β:Type} (k:Nat) (aF:LD) (K:LC->Option β) (L0:(Int×LC)->Option β) (v:Int×LC):Option β:=
 match v with
 |(aG,aH)=>bif(decide ((aG:Int)<(aF.length:Int))) then(atR aF aG [.s,.n] λx13 x16=>(bd2 (Ybc.t k x13 x16) (λy17 y18=>Z0 ((0:Int)<=aG/\aG<(aH.length:Int)) (Z0 (Int.toNat aG<aH.length) (L0 (IntKind.wrap .i64 (aG+1),aH.modify (Int.toNat aG) λc=>ZE c 0 [.d (.str y17),.d (.int .i64 y18)])))))) else(K aH)
noncomputable def Y3.m {β:Type} (k:Nat) (a0:LD) (K:LC->Option β) (F:(LD->(Int×LC)->Option β)):Option β:=
 Z0 ((0:Int)<=(a0.length:Int)/\(a0.length:Int)<=(Zx:Int)/\(a0.length:Int)<=(a0.length:Int)/\(a0.length:Int)<=(a0.length:Int)) (F a0 (0,List.replicate (Int.toNat (a0.length:Int)) ([.d (.str (⟨#[]⟩:BA)),.d (.int .i64 0)]:List C)))
noncomputable def Y3.g {β:Type} (k:Nat) (a0:LD) (K:LC->Option β):Option β:=Y3.m k a0 K (λaF=>Za1 (Y3.l0 k aF K) k)
noncomputable def Y3.t (k:Nat) (a0:LD):=Y3.g k a0 (λz0=>some z0)
noncomputable def Y3.e (k:Nat):Za0:=ent [.d .l] [1] [.o] [68] false (Y3.t k)
noncomputable def Y3.p (k:Nat):Pro:=⟨Tryz.prog,[(163,Ybc.e k)],hints [(3,kp [0,3,4])] false [],k⟩
theorem Y3.l0_eq (k:Nat) (a0 aF:LD):LpEq ((Y3.p k).lf Tryz.f133 3 [1,1,0,1,0] [.d (.sl a0)] [1] [.o]) (Y3.l0 k aF (λz0=>some z0)) (λ(aG,aH)=>mkSt 23 [(0,.d false (.sl aF)),(3,.row 0),(4,.d true (.int .i64 aG))] [.row none true 68 aH]):=lf_eq λL0 v=>by obtain⟨aG,aH⟩:=v;kernel_rfl
theorem Y3.ok (k:Nat):Zas Tryz.prog 133 (Y3.e k):=ent_ok (Y3.p k) mix tyok Tryz.func133 (Ybc.ok k) Kr (λa0=>Eq.trans Kr (congrArg (Y3.m k a0 (λz0=>some z0)) (funext λaF=>funext λv=>Y3.l0_eq k a0 aF k v) :))
noncomputable def YbE.g {β:Type} (k:Nat) (aB:Int) (aA aC aD:LD) (K:Int->LC->LC->LC->Option β):Option β:=
 bd1 (Yad.t k aA) (λy27=>bd1 (YC.t k aC) (λy28=>bd1 (Y3.t k aD) (λy29=>K aB y27 y28 y29)))
noncomputable def YbE.t (k:Nat) (aB:Int) (aA aC aD:LD):=YbE.g k aB aA aC aD (λz0 z1 z2 z3=>some (z0,z1,z2,z3))
noncomputable def YbE.e (k:Nat):Za0:=ent [.agg [.n,.l,.l,.l]] [4] [.n,.o,.o,.o] [70] false (YbE.t k)
noncomputable def YbE.p (k:Nat):Pro:=⟨Tryz.prog,[(132,Yad.e k),(29,YC.e k),(133,Y3.e k)],hints [] false [],k⟩
theorem YbE.ok (k:Nat):Zas Tryz.prog 98 (YbE.e k):=ent_ok (YbE.p k) mix tyok Tryz.func98 ⟨Yad.ok k,YC.ok k,Y3.ok k⟩ Kr (λaB aA aC aD=>Ks)
noncomputable def Yu.l0 {β:Type} (k:Nat) (r_laws_toValueS:LD->(LC->Option β)->Option β) (r_laws_toValue:Int->BA->Int->LD->LD->(Int->BA->Int->LC->LC->Option β)->Option β) (aF:LD) (K:LC->Option β) (L0:(Int×LC)->Option β) (v:Int×LC):Option β:=
 match v with
 |(aG,aH)=>bif(decide ((aG:Int)<(aF.length:Int))) then(atR aF aG [.n,.s,.n,.l,.l] λx25 x28 x31 x34 x37=>(r_laws_toValue x25 x28 x31 x34 x37 (λy38 y39 y40 y41 y42=>Z0 ((0:Int)<=aG/\aG<(aH.length:Int)) (Z0 (Int.toNat aG<aH.length) (L0 (IntKind.wrap .i64 (aG+1),aH.modify (Int.toNat aG) λc=>ZE c 0 [.d (.int .i64 y38),.d (.str y39),.d (.int .i64 y40),.own y41,.own y42])))))) else(K aH)
noncomputable def Yu.m {β:Type} (k:Nat) (r_laws_toValueS:LD->(LC->Option β)->Option β) (r_laws_toValue:Int->BA->Int->LD->LD->(Int->BA->Int->LC->LC->Option β)->Option β) (a0:LD) (K:LC->Option β) (F:(LD->(Int×LC)->Option β)):Option β:=
 Z0 ((0:Int)<=(a0.length:Int)/\(a0.length:Int)<=(Zx:Int)/\(a0.length:Int)<=(a0.length:Int)/\(a0.length:Int)<=(a0.length:Int)) (F a0 (0,List.replicate (Int.toNat (a0.length:Int)) ([.d (.int .i64 0),.d (.str (⟨#[]⟩:BA)),.d (.int .i64 0),.own ([]:LC),.own ([]:LC)]:List C)))
noncomputable def Yu.body {β:Type} (k:Nat) (r_laws_toValueS:LD->(LC->Option β)->Option β) (r_laws_toValue:Int->BA->Int->LD->LD->(Int->BA->Int->LC->LC->Option β)->Option β) (a0:LD) (K:LC->Option β):Option β:=Yu.m k r_laws_toValueS r_laws_toValue a0 K (λaF=>Za1 (Yu.l0 k r_laws_toValueS r_laws_toValue aF K) k)
noncomputable def YM.body {β:Type} (k:Nat) (r_laws_toValueS:LD->(LC->Option β)->Option β) (r_laws_toValue:Int->BA->Int->LD->LD->(Int->BA->Int->LC->LC->Option β)->Option β) (aB:Int) (aA:BA) (aC:Int) (aD aE:LD) (K:Int->BA->Int->LC->LC->Option β):Option β:=
 bd1 (YC.t k aD) (λy1=>r_laws_toValueS aE (λy43=>K aB aA aC y1 y43))
noncomputable def Yu.w {β:Type} (r:LD->Option (LC)) (a0:LD) (K:LC->Option β):Option β:=bd1 (r a0) K
noncomputable def YM.w {β:Type} (r:Int->BA->Int->LD->LD->Option (Int×BA×Int×LC×LC)) (aB:Int) (aA:BA) (aC:Int) (aD aE:LD) (K:Int->BA->Int->LC->LC->Option β):Option β:=bd5 (r aB aA aC aD aE) K
noncomputable def Yu.all:Nat->(LD->Option (LC))×(Int->BA->Int->LD->LD->Option (Int×BA×Int×LC×LC))
 |0=>(λ_=>none,λ_ _ _ _ _=>none)
 |k+1=>(λr=>(λa0=>Yu.body k (Yu.w r.1) (YM.w r.2) a0 (λz0=>some z0),λaB aA aC aD aE=>YM.body k (Yu.w r.1) (YM.w r.2) aB aA aC aD aE (λz0 z1 z2 z3 z4=>some (z0,z1,z2,z3,z4)))) (Yu.all k)
noncomputable def Yu.t (k:Nat) (a0:LD):Option (LC):=(Yu.all k).1 a0
noncomputable def YM.t (k:Nat) (aB:Int) (aA:BA) (aC:Int) (aD aE:LD):Option (Int×BA×Int×LC×LC):=(Yu.all k).2 aB aA aC aD aE
noncomputable def Yu.f {β:Type} (k:Nat) (a0:LD) (K:LC->Option β):Option β:=Yu.w (Yu.t k) a0 K
noncomputable def YM.f {β:Type} (k:Nat) (aB:Int) (aA:BA) (aC:Int) (aD aE:LD) (K:Int->BA->Int->LC->LC->Option β):Option β:=YM.w (YM.t k) aB aA aC aD aE K
noncomputable def Yu.g {β:Type} (k:Nat) (a0:LD) (K:LC->Option β):Option β:=Yu.body k (Yu.f k) (YM.f k) a0 K
theorem Yu.t_succ (k:Nat) (a0:LD):Yu.t (k+1) a0=Yu.g k a0 (λz0=>some z0):=rfl
noncomputable def YM.g {β:Type} (k:Nat) (aB:Int) (aA:BA) (aC:Int) (aD aE:LD) (K:Int->BA->Int->LC->LC->Option β):Option β:=YM.body k (Yu.f k) (YM.f k) aB aA aC aD aE K
theorem YM.t_succ (k:Nat) (aB:Int) (aA:BA) (aC:Int) (aD aE:LD):YM.t (k+1) aB aA aC aD aE=YM.g k aB aA aC aD aE (λz0 z1 z2 z3 z4=>some (z0,z1,z2,z3,z4)):=rfl
noncomputable def Yu.e (k:Nat):Za0:=ent [.d .l] [1] [.o] [62] false (Yu.t k)
noncomputable def YM.e (k:Nat):Za0:=ent [.agg [.n,.s,.n,.l,.l]] [5] [.n,.s,.n,.o,.o] [64] false (YM.t k)
noncomputable def Yu.p (k:Nat):Pro:=⟨Tryz.prog,[(99,YM.e k)],hints [(3,kp [0,3,4])] false [],k⟩
theorem Yu.l0_eq (k:Nat) (a0 aF:LD):LpEq ((Yu.p k).lf Tryz.f134 3 [1,1,0,1,0] [.d (.sl a0)] [1] [.o]) (Yu.l0 k (Yu.f k) (YM.f k) aF (λz0=>some z0)) (λ(aG,aH)=>mkSt 23 [(0,.d false (.sl aF)),(3,.row 0),(4,.d true (.int .i64 aG))] [.row none true 62 aH]):=lf_eq λL0 v=>by obtain⟨aG,aH⟩:=v;kernel_rfl
noncomputable def YM.p (k:Nat):Pro:=⟨Tryz.prog,[(29,YC.e k),(134,Yu.e k)],hints [] false [],k⟩
theorem Yu.oks (k:Nat):Zas Tryz.prog 134 (Yu.e k)/\Zas Tryz.prog 99 (YM.e k):=by
 induction k with
 |zero=>exact⟨ent_zero Tryz.func134 Kr (λ_=>rfl),
  ent_zero Tryz.func99 Kr (λ_ _ _ _ _=>rfl)⟩
 |succ k ih=>exact⟨ent_ok (Yu.p k) mix tyok Tryz.func134 ih.2 Kr (λa0=>Eq.trans Kr ((congrArg (Yu.m k (Yu.f k) (YM.f k) a0 (λz0=>some z0)) (funext λaF=>funext λv=>Yu.l0_eq k a0 aF k v)).trans (Yu.t_succ k a0).symm)),
  ent_ok (YM.p k) mix tyok Tryz.func99 ⟨YC.ok k,ih.1⟩ Kr (λaB aA aC aD aE=>Ks)⟩
theorem YM.ok (k:Nat):Zas Tryz.prog 99 (YM.e k):=(Yu.oks k).2
noncomputable def YbY.g {β:Type} (k:Nat) (aB:Int) (aA:LD) (aC:Int) (aD:BA) (aE:Int) (aJ aK:LD) (K:Int->LC->Int->BA->Int->LC->LC->Option β):Option β:=
 bd1 (YC.t k aA) (λy1=>YM.f k aC aD aE aJ aK (λy2 y3 y4 y5 y6=>K aB y1 y2 y3 y4 y5 y6))
noncomputable def YbY.t (k:Nat) (aB:Int) (aA:LD) (aC:Int) (aD:BA) (aE:Int) (aJ aK:LD):=YbY.g k aB aA aC aD aE aJ aK (λz0 z1 z2 z3 z4 z5 z6=>some (z0,z1,z2,z3,z4,z5,z6))
noncomputable def YbY.e (k:Nat):Za0:=ent [.agg [.n,.l,.n,.s,.n,.l,.l]] [7] [.n,.o,.n,.s,.n,.o,.o] [162] false (YbY.t k)
noncomputable def YbY.p (k:Nat):Pro:=⟨Tryz.prog,[(29,YC.e k),(99,YM.e k)],hints [] false [],k⟩
theorem YbY.ok (k:Nat):Zas Tryz.prog 186 (YbY.e k):=ent_ok (YbY.p k) mix tyok Tryz.func186 ⟨YC.ok k,YM.ok k⟩ Kr (λaB aA aC aD aE aJ aK=>Ks)
noncomputable def YaN.l0 {β:Type} (k:Nat) (aF:LD) (K:LC->Option β) (L0:(Int×LC)->Option β) (v:Int×LC):Option β:=
 match v with
 |(aG,aH)=>bif(decide ((aG:Int)<(aF.length:Int))) then(atR aF aG [.n,.l,.n,.s,.n,.l,.l] λx33 x36 x39 x42 x45 x48 x51=>(bd7 (YbY.t k x33 x36 x39 x42 x45 x48 x51) (λy52 y53 y54 y55 y56 y57 y58=>Z0 ((0:Int)<=aG/\aG<(aH.length:Int)) (Z0 (Int.toNat aG<aH.length) (L0 (IntKind.wrap .i64 (aG+1),aH.modify (Int.toNat aG) λc=>ZE c 0 [.d (.int .i64 y52),.own y53,.d (.int .i64 y54),.d (.str y55),.d (.int .i64 y56),.own y57,.own y58])))))) else(K aH)
noncomputable def YaN.m {β:Type} (k:Nat) (a0:LD) (K:LC->Option β) (F:(LD->(Int×LC)->Option β)):Option β:=
 Z0 ((0:Int)<=(a0.length:Int)/\(a0.length:Int)<=(Zx:Int)/\(a0.length:Int)<=(a0.length:Int)/\(a0.length:Int)<=(a0.length:Int)) (F a0 (0,List.replicate (Int.toNat (a0.length:Int)) ([.d (.int .i64 0),.own ([]:LC),.d (.int .i64 0),.d (.str (⟨#[]⟩:BA)),.d (.int .i64 0),.own ([]:LC),.own ([]:LC)]:List C)))
noncomputable def YaN.g {β:Type} (k:Nat) (a0:LD) (K:LC->Option β):Option β:=YaN.m k a0 K (λaF=>Za1 (YaN.l0 k aF K) k)
noncomputable def YaN.t (k:Nat) (a0:LD):=YaN.g k a0 (λz0=>some z0)
noncomputable def YaN.e (k:Nat):Za0:=ent [.d .l] [1] [.o] [120] false (YaN.t k)
noncomputable def YaN.p (k:Nat):Pro:=⟨Tryz.prog,[(186,YbY.e k)],hints [(3,kp [0,3,4])] false [],k⟩
theorem YaN.l0_eq (k:Nat) (a0 aF:LD):LpEq ((YaN.p k).lf Tryz.f164 3 [1,1,0,1,0] [.d (.sl a0)] [1] [.o]) (YaN.l0 k aF (λz0=>some z0)) (λ(aG,aH)=>mkSt 23 [(0,.d false (.sl aF)),(3,.row 0),(4,.d true (.int .i64 aG))] [.row none true 120 aH]):=lf_eq λL0 v=>by obtain⟨aG,aH⟩:=v;kernel_rfl
theorem YaN.ok (k:Nat):Zas Tryz.prog 164 (YaN.e k):=ent_ok (YaN.p k) mix tyok Tryz.func164 (YbY.ok k) Kr (λa0=>Eq.trans Kr (congrArg (YaN.m k a0 (λz0=>some z0)) (funext λaF=>funext λv=>YaN.l0_eq k a0 aF k v) :))
noncomputable def Ybs.g {β:Type} (k:Nat) (aB:BA) (aA:LD) (K:BA->LC->Option β):Option β:=
 bd1 (YaN.t k aA) (λy59=>K aB y59)
noncomputable def Ybs.t (k:Nat) (aB:BA) (aA:LD):=Ybs.g k aB aA (λz0 z1=>some (z0,z1))
noncomputable def Ybs.e (k:Nat):Za0:=ent [.agg [.s,.l]] [2] [.s,.o] [122] false (Ybs.t k)
noncomputable def Ybs.p (k:Nat):Pro:=⟨Tryz.prog,[(164,YaN.e k)],hints [] false [],k⟩
theorem Ybs.ok (k:Nat):Zas Tryz.prog 135 (Ybs.e k):=ent_ok (Ybs.p k) mix tyok Tryz.func135 (YaN.ok k) Kr (λaB aA=>Ks)
noncomputable def Yaf.l0 {β:Type} (k:Nat) (aF:LD) (K:LC->Option β) (L0:(Int×LC)->Option β) (v:Int×LC):Option β:=
 match v with
 |(aG,aH)=>bif(decide ((aG:Int)<(aF.length:Int))) then(atR aF aG [.s,.l] λx65 x68=>(bd2 (Ybs.t k x65 x68) (λy69 y70=>Z0 ((0:Int)<=aG/\aG<(aH.length:Int)) (Z0 (Int.toNat aG<aH.length) (L0 (IntKind.wrap .i64 (aG+1),aH.modify (Int.toNat aG) λc=>ZE c 0 [.d (.str y69),.own y70])))))) else(K aH)
noncomputable def Yaf.m {β:Type} (k:Nat) (a0:LD) (K:LC->Option β) (F:(LD->(Int×LC)->Option β)):Option β:=
 Z0 ((0:Int)<=(a0.length:Int)/\(a0.length:Int)<=(Zx:Int)/\(a0.length:Int)<=(a0.length:Int)/\(a0.length:Int)<=(a0.length:Int)) (F a0 (0,List.replicate (Int.toNat (a0.length:Int)) ([.d (.str (⟨#[]⟩:BA)),.own ([]:LC)]:List C)))
noncomputable def Yaf.g {β:Type} (k:Nat) (a0:LD) (K:LC->Option β):Option β:=Yaf.m k a0 K (λaF=>Za1 (Yaf.l0 k aF K) k)
noncomputable def Yaf.t (k:Nat) (a0:LD):=Yaf.g k a0 (λz0=>some z0)
noncomputable def Yaf.e (k:Nat):Za0:=ent [.d .l] [1] [.o] [71] false (Yaf.t k)
noncomputable def Yaf.p (k:Nat):Pro:=⟨Tryz.prog,[(135,Ybs.e k)],hints [(3,kp [0,3,4])] false [],k⟩
theorem Yaf.l0_eq (k:Nat) (a0 aF:LD):LpEq ((Yaf.p k).lf Tryz.f100 3 [1,1,0,1,0] [.d (.sl a0)] [1] [.o]) (Yaf.l0 k aF (λz0=>some z0)) (λ(aG,aH)=>mkSt 23 [(0,.d false (.sl aF)),(3,.row 0),(4,.d true (.int .i64 aG))] [.row none true 71 aH]):=lf_eq λL0 v=>by obtain⟨aG,aH⟩:=v;kernel_rfl
theorem Yaf.ok (k:Nat):Zas Tryz.prog 100 (Yaf.e k):=ent_ok (Yaf.p k) mix tyok Tryz.func100 (Ybs.ok k) Kr (λa0=>Eq.trans Kr (congrArg (Yaf.m k a0 (λz0=>some z0)) (funext λaF=>funext λv=>Yaf.l0_eq k a0 aF k v) :))
noncomputable def YbL.g {β:Type} (k:Nat) (aB:Int) (aA:BA) (aC:Int) (aD aE aJ:LD) (aK:Int) (bI:BA) (bJ:Int) (bF bG bH:LD) (bK:Bool) (K:Int->BA->Int->LC->LC->LC->Int->BA->Int->LC->LC->LC->Bool->Option β):Option β:=
 bd4 (YbE.t k aC aD aE aJ) (λy30 y31 y32 y33=>YM.f k aK bI bJ bF bG (λy44 y45 y46 y47 y48=>bd1 (Yaf.t k bH) (λy71=>K aB aA y30 y31 y32 y33 y44 y45 y46 y47 y48 y71 bK)))
noncomputable def YbL.t (k:Nat) (aB:Int) (aA:BA) (aC:Int) (aD aE aJ:LD) (aK:Int) (bI:BA) (bJ:Int) (bF bG bH:LD) (bK:Bool):=YbL.g k aB aA aC aD aE aJ aK bI bJ bF bG bH bK (λz0 z1 z2 z3 z4 z5 z6 z7 z8 z9 z10 z11 z12=>some (z0,z1,z2,z3,z4,z5,z6,z7,z8,z9,z10,z11,z12))
noncomputable def YbL.e (k:Nat):Za0:=ent [.agg [.n,.s,.n,.l,.l,.l,.n,.s,.n,.l,.l,.l,.b]] [13] [.n,.s,.n,.o,.o,.o,.n,.s,.n,.o,.o,.o,.b] [73] false (YbL.t k)
noncomputable def YbL.p (k:Nat):Pro:=⟨Tryz.prog,[(98,YbE.e k),(99,YM.e k),(100,Yaf.e k)],hints [] false [],k⟩
theorem YbL.ok (k:Nat):Zas Tryz.prog 62 (YbL.e k):=ent_ok (YbL.p k) mix tyok Tryz.func62 ⟨YbE.ok k,YM.ok k,Yaf.ok k⟩ Kr (λaB aA aC aD aE aJ aK bI bJ bF bG bH bK=>Ks)
noncomputable def Yav.l0 {β:Type} (k:Nat) (aF:LD) (K:LC->Option β) (L0:(Int×LC)->Option β) (v:Int×LC):Option β:=
 match v with
 |(aG,aH)=>bif(decide ((aG:Int)<(aF.length:Int))) then(atR aF aG [.n,.s,.n,.l,.l,.l,.n,.s,.n,.l,.l,.l,.b] λx88 x91 x94 x97 x100 x103 x106 x109 x112 x115 x118 x121 x124=>(bd13 (YbL.t k x88 x91 x94 x97 x100 x103 x106 x109 x112 x115 x118 x121 x124) (λy125 y126 y127 y128 y129 y130 y131 y132 y133 y134 y135 y136 y137=>Z0 ((0:Int)<=aG/\aG<(aH.length:Int)) (Z0 (Int.toNat aG<aH.length) (L0 (IntKind.wrap .i64 (aG+1),aH.modify (Int.toNat aG) λc=>ZE c 0 [.d (.int .i64 y125),.d (.str y126),.d (.int .i64 y127),.own y128,.own y129,.own y130,.d (.int .i64 y131),.d (.str y132),.d (.int .i64 y133),.own y134,.own y135,.own y136,.d (.bool y137)])))))) else(K aH)
noncomputable def Yav.m {β:Type} (k:Nat) (a0:LD) (K:LC->Option β) (F:(LD->(Int×LC)->Option β)):Option β:=
 Z0 ((0:Int)<=(a0.length:Int)/\(a0.length:Int)<=(Zx:Int)/\(a0.length:Int)<=(a0.length:Int)/\(a0.length:Int)<=(a0.length:Int)) (F a0 (0,List.replicate (Int.toNat (a0.length:Int)) ([.d (.int .i64 0),.d (.str (⟨#[]⟩:BA)),.d (.int .i64 0),.own ([]:LC),.own ([]:LC),.own ([]:LC),.d (.int .i64 0),.d (.str (⟨#[]⟩:BA)),.d (.int .i64 0),.own ([]:LC),.own ([]:LC),.own ([]:LC),.d (.bool false)]:List C)))
noncomputable def Yav.g {β:Type} (k:Nat) (a0:LD) (K:LC->Option β):Option β:=Yav.m k a0 K (λaF=>Za1 (Yav.l0 k aF K) k)
noncomputable def Yav.t (k:Nat) (a0:LD):=Yav.g k a0 (λz0=>some z0)
noncomputable def Yav.e (k:Nat):Za0:=ent [.d .l] [1] [.o] [30] false (Yav.t k)
noncomputable def Yav.p (k:Nat):Pro:=⟨Tryz.prog,[(62,YbL.e k)],hints [(3,kp [0,3,4])] false [],k⟩
theorem Yav.l0_eq (k:Nat) (a0 aF:LD):LpEq ((Yav.p k).lf Tryz.f26 3 [1,1,0,1,0] [.d (.sl a0)] [1] [.o]) (Yav.l0 k aF (λz0=>some z0)) (λ(aG,aH)=>mkSt 23 [(0,.d false (.sl aF)),(3,.row 0),(4,.d true (.int .i64 aG))] [.row none true 30 aH]):=lf_eq λL0 v=>by obtain⟨aG,aH⟩:=v;kernel_rfl
theorem Yav.ok (k:Nat):Zas Tryz.prog 26 (Yav.e k):=ent_ok (Yav.p k) mix tyok Tryz.func26 (YbL.ok k) Kr (λa0=>Eq.trans Kr (congrArg (Yav.m k a0 (λz0=>some z0)) (funext λaF=>funext λv=>Yav.l0_eq k a0 aF k v) :))
noncomputable def Ybd.g {β:Type} (k:Nat) (aB aA:BA) (K:BA->BA->Option β):Option β:=
 K aB aA
noncomputable def Ybd.t (k:Nat) (aB aA:BA):=Ybd.g k aB aA (λz0 z1=>some (z0,z1))
noncomputable def Ybd.e (k:Nat):Za0:=ent [.agg [.s,.s]] [2] [.s,.s] [168] false (Ybd.t k)
noncomputable def Ybd.p (k:Nat):Pro:=⟨Tryz.prog,[],hints [] false [],k⟩
theorem Ybd.ok (k:Nat):Zas Tryz.prog 165 (Ybd.e k):=ent_ok (Ybd.p k) mix tyok Tryz.func165 trivial Kr (λaB aA=>Ks)
noncomputable def Y4.l0 {β:Type} (k:Nat) (aF:LD) (K:LC->Option β) (L0:(Int×LC)->Option β) (v:Int×LC):Option β:=
 match v with
 |(aG,aH)=>bif(decide ((aG:Int)<(aF.length:Int))) then(atR aF aG [.s,.s] λx13 x16=>(bd2 (Ybd.t k x13 x16) (λy17 y18=>Z0 ((0:Int)<=aG/\aG<(aH.length:Int)) (Z0 (Int.toNat aG<aH.length) (L0 (IntKind.wrap .i64 (aG+1),aH.modify (Int.toNat aG) λc=>ZE c 0 [.d (.str y17),.d (.str y18)])))))) else(K aH)
noncomputable def Y4.m {β:Type} (k:Nat) (a0:LD) (K:LC->Option β) (F:(LD->(Int×LC)->Option β)):Option β:=
 Z0 ((0:Int)<=(a0.length:Int)/\(a0.length:Int)<=(Zx:Int)/\(a0.length:Int)<=(a0.length:Int)/\(a0.length:Int)<=(a0.length:Int)) (F a0 (0,List.replicate (Int.toNat (a0.length:Int)) ([.d (.str (⟨#[]⟩:BA)),.d (.str (⟨#[]⟩:BA))]:List C)))
noncomputable def Y4.g {β:Type} (k:Nat) (a0:LD) (K:LC->Option β):Option β:=Y4.m k a0 K (λaF=>Za1 (Y4.l0 k aF K) k)
noncomputable def Y4.t (k:Nat) (a0:LD):=Y4.g k a0 (λz0=>some z0)
noncomputable def Y4.e (k:Nat):Za0:=ent [.d .l] [1] [.o] [101] false (Y4.t k)
noncomputable def Y4.p (k:Nat):Pro:=⟨Tryz.prog,[(165,Ybd.e k)],hints [(3,kp [0,3,4])] false [],k⟩
theorem Y4.l0_eq (k:Nat) (a0 aF:LD):LpEq ((Y4.p k).lf Tryz.f136 3 [1,1,0,1,0] [.d (.sl a0)] [1] [.o]) (Y4.l0 k aF (λz0=>some z0)) (λ(aG,aH)=>mkSt 23 [(0,.d false (.sl aF)),(3,.row 0),(4,.d true (.int .i64 aG))] [.row none true 101 aH]):=lf_eq λL0 v=>by obtain⟨aG,aH⟩:=v;kernel_rfl
theorem Y4.ok (k:Nat):Zas Tryz.prog 136 (Y4.e k):=ent_ok (Y4.p k) mix tyok Tryz.func136 (Ybd.ok k) Kr (λa0=>Eq.trans Kr (congrArg (Y4.m k a0 (λz0=>some z0)) (funext λaF=>funext λv=>Y4.l0_eq k a0 aF k v) :))
noncomputable def Ya9.g {β:Type} (k:Nat) (aB:BA) (aA aC:LD) (aD:Int) (K:BA->LC->LC->Int->Option β):Option β:=
 bd1 (Y4.t k aA) (λy19=>bd1 (YC.t k aC) (λy20=>K aB y19 y20 aD))
noncomputable def Ya9.t (k:Nat) (aB:BA) (aA aC:LD) (aD:Int):=Ya9.g k aB aA aC aD (λz0 z1 z2 z3=>some (z0,z1,z2,z3))
noncomputable def Ya9.e (k:Nat):Za0:=ent [.agg [.s,.l,.l,.n]] [4] [.s,.o,.o,.n] [103] false (Ya9.t k)
noncomputable def Ya9.p (k:Nat):Pro:=⟨Tryz.prog,[(136,Y4.e k),(29,YC.e k)],hints [] false [],k⟩
theorem Ya9.ok (k:Nat):Zas Tryz.prog 101 (Ya9.e k):=ent_ok (Ya9.p k) mix tyok Tryz.func101 ⟨Y4.ok k,YC.ok k⟩ Kr (λaB aA aC aD=>Ks)
noncomputable def Ybr.g {β:Type} (k:Nat) (aB:BA) (aA aC:LD) (aD aE aJ:Int) (K:BA->LC->LC->Int->Int->Int->Option β):Option β:=
 bd4 (Ya9.t k aB aA aC aD) (λy21 y22 y23 y24=>K y21 y22 y23 y24 aE aJ)
noncomputable def Ybr.t (k:Nat) (aB:BA) (aA aC:LD) (aD aE aJ:Int):=Ybr.g k aB aA aC aD aE aJ (λz0 z1 z2 z3 z4 z5=>some (z0,z1,z2,z3,z4,z5))
noncomputable def Ybr.e (k:Nat):Za0:=ent [.agg [.s,.l,.l,.n,.n,.n]] [6] [.s,.o,.o,.n,.n,.n] [105] false (Ybr.t k)
noncomputable def Ybr.p (k:Nat):Pro:=⟨Tryz.prog,[(101,Ya9.e k)],hints [] false [],k⟩
theorem Ybr.ok (k:Nat):Zas Tryz.prog 63 (Ybr.e k):=ent_ok (Ybr.p k) mix tyok Tryz.func63 (Ya9.ok k) Kr (λaB aA aC aD aE aJ=>Ks)
noncomputable def Yae.l0 {β:Type} (k:Nat) (aF:LD) (K:LC->Option β) (L0:(Int×LC)->Option β) (v:Int×LC):Option β:=
 match v with
 |(aG,aH)=>bif(decide ((aG:Int)<(aF.length:Int))) then(atR aF aG [.s,.l,.l,.n,.n,.n] λx34 x37 x40 x43 x46 x49=>(bd6 (Ybr.t k x34 x37 x40 x43 x46 x49) (λy50 y51 y52 y53 y54 y55=>Z0 ((0:Int)<=aG/\aG<(aH.length:Int)) (Z0 (Int.toNat aG<aH.length) (L0 (IntKind.wrap .i64 (aG+1),aH.modify (Int.toNat aG) λc=>ZE c 0 [.d (.str y50),.own y51,.own y52,.d (.int .i64 y53),.d (.int .i64 y54),.d (.int .i64 y55)])))))) else(K aH)
noncomputable def Yae.m {β:Type} (k:Nat) (a0:LD) (K:LC->Option β) (F:(LD->(Int×LC)->Option β)):Option β:=
 Z0 ((0:Int)<=(a0.length:Int)/\(a0.length:Int)<=(Zx:Int)/\(a0.length:Int)<=(a0.length:Int)/\(a0.length:Int)<=(a0.length:Int)) (F a0 (0,List.replicate (Int.toNat (a0.length:Int)) ([.d (.str (⟨#[]⟩:BA)),.own ([]:LC),.own ([]:LC),.d (.int .i64 0),.d (.int .i64 0),.d (.int .i64 0)]:List C)))
noncomputable def Yae.g {β:Type} (k:Nat) (a0:LD) (K:LC->Option β):Option β:=Yae.m k a0 K (λaF=>Za1 (Yae.l0 k aF K) k)
noncomputable def Yae.t (k:Nat) (a0:LD):=Yae.g k a0 (λz0=>some z0)
noncomputable def Yae.e (k:Nat):Za0:=ent [.d .l] [1] [.o] [31] false (Yae.t k)
noncomputable def Yae.p (k:Nat):Pro:=⟨Tryz.prog,[(63,Ybr.e k)],hints [(3,kp [0,3,4])] false [],k⟩
theorem Yae.l0_eq (k:Nat) (a0 aF:LD):LpEq ((Yae.p k).lf Tryz.f27 3 [1,1,0,1,0] [.d (.sl a0)] [1] [.o]) (Yae.l0 k aF (λz0=>some z0)) (λ(aG,aH)=>mkSt 23 [(0,.d false (.sl aF)),(3,.row 0),(4,.d true (.int .i64 aG))] [.row none true 31 aH]):=lf_eq λL0 v=>by obtain⟨aG,aH⟩:=v;kernel_rfl
theorem Yae.ok (k:Nat):Zas Tryz.prog 27 (Yae.e k):=ent_ok (Yae.p k) mix tyok Tryz.func27 (Ybr.ok k) Kr (λa0=>Eq.trans Kr (congrArg (Yae.m k a0 (λz0=>some z0)) (funext λaF=>funext λv=>Yae.l0_eq k a0 aF k v) :))
noncomputable def Ybt.g {β:Type} (k:Nat) (aB:Int) (aA:BA) (aC aD aE:Int) (K:Int->BA->Int->Int->Int->Option β):Option β:=
 K aB aA aC aD aE
noncomputable def Ybt.t (k:Nat) (aB:Int) (aA:BA) (aC aD aE:Int):=Ybt.g k aB aA aC aD aE (λz0 z1 z2 z3 z4=>some (z0,z1,z2,z3,z4))
noncomputable def Ybt.e (k:Nat):Za0:=ent [.agg [.n,.s,.n,.n,.n]] [5] [.n,.s,.n,.n,.n] [50] false (Ybt.t k)
noncomputable def Ybt.p (k:Nat):Pro:=⟨Tryz.prog,[],hints [] false [],k⟩
theorem Ybt.ok (k:Nat):Zas Tryz.prog 64 (Ybt.e k):=ent_ok (Ybt.p k) mix tyok Tryz.func64 trivial Kr (λaB aA aC aD aE=>Ks)
noncomputable def Yag.l0 {β:Type} (k:Nat) (aF:LD) (K:LC->Option β) (L0:(Int×LC)->Option β) (v:Int×LC):Option β:=
 match v with
 |(aG,aH)=>bif(decide ((aG:Int)<(aF.length:Int))) then(atR aF aG [.n,.s,.n,.n,.n] λx25 x28 x31 x34 x37=>(bd5 (Ybt.t k x25 x28 x31 x34 x37) (λy38 y39 y40 y41 y42=>Z0 ((0:Int)<=aG/\aG<(aH.length:Int)) (Z0 (Int.toNat aG<aH.length) (L0 (IntKind.wrap .i64 (aG+1),aH.modify (Int.toNat aG) λc=>ZE c 0 [.d (.int .i64 y38),.d (.str y39),.d (.int .i64 y40),.d (.int .i64 y41),.d (.int .i64 y42)])))))) else(K aH)
noncomputable def Yag.m {β:Type} (k:Nat) (a0:LD) (K:LC->Option β) (F:(LD->(Int×LC)->Option β)):Option β:=
 Z0 ((0:Int)<=(a0.length:Int)/\(a0.length:Int)<=(Zx:Int)/\(a0.length:Int)<=(a0.length:Int)/\(a0.length:Int)<=(a0.length:Int)) (F a0 (0,List.replicate (Int.toNat (a0.length:Int)) ([.d (.int .i64 0),.d (.str (⟨#[]⟩:BA)),.d (.int .i64 0),.d (.int .i64 0),.d (.int .i64 0)]:List C)))
noncomputable def Yag.g {β:Type} (k:Nat) (a0:LD) (K:LC->Option β):Option β:=Yag.m k a0 K (λaF=>Za1 (Yag.l0 k aF K) k)
noncomputable def Yag.t (k:Nat) (a0:LD):=Yag.g k a0 (λz0=>some z0)
noncomputable def Yag.e (k:Nat):Za0:=ent [.d .l] [1] [.o] [32] false (Yag.t k)
noncomputable def Yag.p (k:Nat):Pro:=⟨Tryz.prog,[(64,Ybt.e k)],hints [(3,kp [0,3,4])] false [],k⟩
theorem Yag.l0_eq (k:Nat) (a0 aF:LD):LpEq ((Yag.p k).lf Tryz.f28 3 [1,1,0,1,0] [.d (.sl a0)] [1] [.o]) (Yag.l0 k aF (λz0=>some z0)) (λ(aG,aH)=>mkSt 23 [(0,.d false (.sl aF)),(3,.row 0),(4,.d true (.int .i64 aG))] [.row none true 32 aH]):=lf_eq λL0 v=>by obtain⟨aG,aH⟩:=v;kernel_rfl
theorem Yag.ok (k:Nat):Zas Tryz.prog 28 (Yag.e k):=ent_ok (Yag.p k) mix tyok Tryz.func28 (Ybt.ok k) Kr (λa0=>Eq.trans Kr (congrArg (Yag.m k a0 (λz0=>some z0)) (funext λaF=>funext λv=>Yag.l0_eq k a0 aF k v) :))
noncomputable def Ybm.g {β:Type} (k:Nat) (aB aA aC:Int) (aD aE aJ aK:LD) (K:Int->Int->Int->LC->LC->LC->LC->Option β):Option β:=
 bd1 (Yav.t k aD) (λy138=>bd1 (Yae.t k aE) (λy139=>bd1 (Yag.t k aJ) (λy140=>bd1 (YC.t k aK) (λy141=>K aB aA aC y138 y139 y140 y141))))
noncomputable def Ybm.t (k:Nat) (aB aA aC:Int) (aD aE aJ aK:LD):=Ybm.g k aB aA aC aD aE aJ aK (λz0 z1 z2 z3 z4 z5 z6=>some (z0,z1,z2,z3,z4,z5,z6))
noncomputable def Ybm.e (k:Nat):Za0:=ent [.agg [.n,.n,.n,.l,.l,.l,.l]] [7] [.n,.n,.n,.o,.o,.o,.o] [34] false (Ybm.t k)
noncomputable def Ybm.p (k:Nat):Pro:=⟨Tryz.prog,[(26,Yav.e k),(27,Yae.e k),(28,Yag.e k),(29,YC.e k)],hints [] false [],k⟩
theorem Ybm.ok (k:Nat):Zas Tryz.prog 7 (Ybm.e k):=ent_ok (Ybm.p k) mix tyok Tryz.func7 ⟨Yav.ok k,Yae.ok k,Yag.ok k,YC.ok k⟩ Kr (λaB aA aC aD aE aJ aK=>Ks)
noncomputable def Yy.g {β:Type} (k:Nat) (a0 a1 a2:Int) (K:Bool->Option β):Option β:=
 bif(decide ((a0:Int)>=a1)) then(K (decide ((a0:Int)<=a2))) else(K false)
noncomputable def Yy.t (k:Nat) (a0 a1 a2:Int):=Yy.g k a0 a1 a2 (λz0=>some z0)
noncomputable def Yy.e (k:Nat):Za0:=ent [.d .n,.d .n,.d .n] [1] [.b] [4] false (Yy.t k)
noncomputable def Yy.p (k:Nat):Pro:=⟨Tryz.prog,[],hints [] false [],k⟩
theorem Yy.ok (k:Nat):Zas Tryz.prog 20 (Yy.e k):=ent_ok (Yy.p k) mix tyok Tryz.func20 trivial Kr (λa0 a1 a2=>Ks)
noncomputable def Yc.l0 {β:Type} (k:Nat) (aF:BA) (K:Bool->Option β) (L0:Int->Option β) (v:Int):Option β:=
 match v with
 |aG=>bif(decide ((aG:Int)<(aF.size:Int))) then(atStr aF aG λb9=>bd1 (Yy.t k (IntKind.wrap .i64 b9) 97 122) (λy10=>bif(!y10) then(atStr aF aG λb11=>bd1 (Yy.t k (IntKind.wrap .i64 b11) 48 57) (λy12=>bif(!y12) then(atStr aF aG λb13=>bif((b13:Int)!=45) then(K false) else(L0 (IntKind.wrap .i64 (aG+1)))) else(L0 (IntKind.wrap .i64 (aG+1))))) else(L0 (IntKind.wrap .i64 (aG+1))))) else(bd1 (Yy.t k (aF.size:Int) 1 20) (λy14=>bif y14 then(atStr aF 0 λb15=>bif((b15:Int)!=45) then(atStr aF (IntKind.wrap .i64 ((aF.size:Int)-1)) λb16=>K ((b16:Int)!=45)) else(K false)) else(K false)))
noncomputable def Yc.m {β:Type} (k:Nat) (a0:BA) (K:Bool->Option β) (F:(BA->Int->Option β)):Option β:=
 F a0 (0)
noncomputable def Yc.g {β:Type} (k:Nat) (a0:BA) (K:Bool->Option β):Option β:=
 Za1 (Yc.l0 k a0 K) k (0)
noncomputable def Yc.t (k:Nat) (a0:BA):=Yc.g k a0 (λz0=>some z0)
noncomputable def Yc.e (k:Nat):Za0:=ent [.d .s] [1] [.b] [4] false (Yc.t k)
noncomputable def Yc.p (k:Nat):Pro:=⟨Tryz.prog,[(20,Yy.e k)],hints [(2,kp [0,3])] false [],k⟩
theorem Yc.l0_eq (k:Nat) (a0 aF:BA):LpEq ((Yc.p k).lf Tryz.f57 2 [1,0,1,0] [.d (.str a0)] [1] [.b]) (Yc.l0 k aF (λz0=>some z0)) (λaG=>mkSt 46 [(0,.d false (.str aF)),(3,.d true (.int .i64 aG))] []):=lf_eq λL0 v=>by kernel_rfl
theorem Yc.ok (k:Nat):Zas Tryz.prog 57 (Yc.e k):=ent_ok (Yc.p k) mix tyok Tryz.func57 (Yy.ok k) Kr (λa0=>Eq.trans Kr (congrArg (Yc.m k a0 (λz0=>some z0)) (funext λaF=>funext λv=>Yc.l0_eq k a0 aF k v) :))
noncomputable def YZ.l0 {β:Type} (k:Nat) (aF:LD) (K:Bool->Option β) (L0:Int->Option β) (v:Int):Option β:=
 match v with
 |aG=>bif(decide ((aG:Int)<(aF.length:Int))) then(atR aF aG [.s,.s] λx34 x37=>(bd1 (Yc.t k x34) (λy38=>bif(!y38) then(K false) else(atR aF aG [.s,.s] λx42 x45=>(bd1 (Yc.t k x45) (λy46=>bif(!y46) then(K false) else(bif(decide ((aG:Int)>0)) then(atR aF (IntKind.wrap .i64 (aG-1)) [.s,.s] λx50 x53=>(atR aF aG [.s,.s] λx57 x60=>(bif(!(Za3 x50 x57)) then(K false) else(L0 (IntKind.wrap .i64 (aG+1)))))) else(L0 (IntKind.wrap .i64 (aG+1)))))))))) else(K (decide (((aF.length:Int):Int)<=8)))
noncomputable def YZ.m {β:Type} (k:Nat) (a0:LD) (K:Bool->Option β) (F:(LD->Int->Option β)):Option β:=
 F a0 (0)
noncomputable def YZ.g {β:Type} (k:Nat) (a0:LD) (K:Bool->Option β):Option β:=
 Za1 (YZ.l0 k a0 K) k (0)
noncomputable def YZ.t (k:Nat) (a0:LD):=YZ.g k a0 (λz0=>some z0)
noncomputable def YZ.e (k:Nat):Za0:=ent [.d .l] [1] [.b] [4] false (YZ.t k)
noncomputable def YZ.p (k:Nat):Pro:=⟨Tryz.prog,[(57,Yc.e k)],hints [(2,kp [0,3])] false [],k⟩
theorem YZ.l0_eq (k:Nat) (a0 aF:LD):LpEq ((YZ.p k).lf Tryz.f95 2 [1,0,1,0] [.d (.sl a0)] [1] [.b]) (YZ.l0 k aF (λz0=>some z0)) (λaG=>mkSt 47 [(0,.d false (.sl aF)),(3,.d true (.int .i64 aG))] []):=lf_eq λL0 v=>by kernel_rfl
theorem YZ.ok (k:Nat):Zas Tryz.prog 95 (YZ.e k):=ent_ok (YZ.p k) mix tyok Tryz.func95 (Yc.ok k) Kr (λa0=>Eq.trans Kr (congrArg (YZ.m k a0 (λz0=>some z0)) (funext λaF=>funext λv=>YZ.l0_eq k a0 aF k v) :))
noncomputable def YP.l0 {β:Type} (k:Nat) (aF:LD) (aG:Int) (K:Bool->Option β) (L0:Int->Option β) (v:Int):Option β:=
 match v with
 |aH=>bif(decide ((aH:Int)<(aF.length:Int))) then(atR aF aH [.s] λx17=>(bd1 (Yc.t k x17) (λy18=>bif(!y18) then(K false) else(bif(decide ((aH:Int)>0)) then(atR aF (IntKind.wrap .i64 (aH-1)) [.s] λx22=>(atR aF aH [.s] λx26=>(bif(!(Za3 x22 x26)) then(K false) else(L0 (IntKind.wrap .i64 (aH+1)))))) else(L0 (IntKind.wrap .i64 (aH+1))))))) else(K (decide (((aF.length:Int):Int)<=aG)))
noncomputable def YP.m {β:Type} (k:Nat) (a0:LD) (a1:Int) (K:Bool->Option β) (F:(LD->Int->Int->Option β)):Option β:=
 F a0 a1 (0)
noncomputable def YP.g {β:Type} (k:Nat) (a0:LD) (a1:Int) (K:Bool->Option β):Option β:=
 Za1 (YP.l0 k a0 a1 K) k (0)
noncomputable def YP.t (k:Nat) (a0:LD) (a1:Int):=YP.g k a0 a1 (λz0=>some z0)
noncomputable def YP.e (k:Nat):Za0:=ent [.d .l,.d .n] [1] [.b] [4] false (YP.t k)
noncomputable def YP.p (k:Nat):Pro:=⟨Tryz.prog,[(57,Yc.e k)],hints [(2,kp [0,1,5])] false [],k⟩
theorem YP.l0_eq (k:Nat) (a0:LD) (a1:Int) (aF:LD) (aG:Int):LpEq ((YP.p k).lf Tryz.f56 2 [1,0,1,0] [.d (.sl a0),.d (.int .i64 a1)] [1] [.b]) (YP.l0 k aF aG (λz0=>some z0)) (λaH=>mkSt 38 [(0,.d false (.sl aF)),(1,.d false (.int .i64 aG)),(5,.d true (.int .i64 aH))] []):=lf_eq λL0 v=>by kernel_rfl
theorem YP.ok (k:Nat):Zas Tryz.prog 56 (YP.e k):=ent_ok (YP.p k) mix tyok Tryz.func56 (Yc.ok k) Kr (λa0 a1=>Eq.trans Kr (congrArg (YP.m k a0 a1 (λz0=>some z0)) (funext λaF=>funext λaG=>funext λv=>YP.l0_eq k a0 a1 aF aG k v) :))
noncomputable def YY.g {β:Type} (k:Nat) (aB:BA) (aA aC:LD) (aD:Int) (K:Bool->Option β):Option β:=
 bd1 (Yc.t k aB) (λy17=>bif y17 then(bd1 (YZ.t k aA) (λy61=>bif y61 then(bd1 (YP.t k aC 4) (λy62=>bif y62 then(bd1 (Yy.t k aD 0 10000) (λy63=>K y63)) else(K false))) else(K false))) else(K false))
noncomputable def YY.t (k:Nat) (aB:BA) (aA aC:LD) (aD:Int):=YY.g k aB aA aC aD (λz0=>some z0)
noncomputable def YY.e (k:Nat):Za0:=ent [.agg [.s,.l,.l,.n]] [1] [.b] [4] false (YY.t k)
noncomputable def YY.p (k:Nat):Pro:=⟨Tryz.prog,[(57,Yc.e k),(95,YZ.e k),(56,YP.e k),(20,Yy.e k)],hints [] false [],k⟩
theorem YY.ok (k:Nat):Zas Tryz.prog 54 (YY.e k):=ent_ok (YY.p k) mix tyok Tryz.func54 ⟨Yc.ok k,YZ.ok k,YP.ok k,Yy.ok k⟩ Kr (λaB aA aC aD=>Ks)
noncomputable def Yaz.l0 {β:Type} (k:Nat) (aF:LD) (aG:BA) (K:Bool->Option β) (L0:Int->Option β) (v:Int):Option β:=
 match v with
 |aH=>bif(decide ((aH:Int)<(aF.length:Int))) then(atR aF aH [.s] λx8=>(bif(ZP x8 aG) then(K true) else(L0 (IntKind.wrap .i64 (aH+1))))) else(K false)
noncomputable def Yaz.m {β:Type} (k:Nat) (a0:LD) (a1:BA) (K:Bool->Option β) (F:(LD->BA->Int->Option β)):Option β:=
 F a0 a1 (0)
noncomputable def Yaz.g {β:Type} (k:Nat) (a0:LD) (a1:BA) (K:Bool->Option β):Option β:=
 Za1 (Yaz.l0 k a0 a1 K) k (0)
noncomputable def Yaz.t (k:Nat) (a0:LD) (a1:BA):=Yaz.g k a0 a1 (λz0=>some z0)
noncomputable def Yaz.e (k:Nat):Za0:=ent [.d .l,.d .s] [1] [.b] [4] false (Yaz.t k)
noncomputable def Yaz.p (k:Nat):Pro:=⟨Tryz.prog,[],hints [(2,kp [0,1,5])] false [],k⟩
theorem Yaz.l0_eq (k:Nat) (a0:LD) (a1:BA) (aF:LD) (aG:BA):LpEq ((Yaz.p k).lf Tryz.f55 2 [1,0,1,0] [.d (.sl a0),.d (.str a1)] [1] [.b]) (Yaz.l0 k aF aG (λz0=>some z0)) (λaH=>mkSt 18 [(0,.d false (.sl aF)),(1,.d false (.str aG)),(5,.d true (.int .i64 aH))] []):=lf_eq λL0 v=>by kernel_rfl
theorem Yaz.ok (k:Nat):Zas Tryz.prog 55 (Yaz.e k):=ent_ok (Yaz.p k) mix tyok Tryz.func55 trivial Kr (λa0 a1=>Eq.trans Kr (congrArg (Yaz.m k a0 a1 (λz0=>some z0)) (funext λaF=>funext λaG=>funext λv=>Yaz.l0_eq k a0 a1 aF aG k v) :))
noncomputable def Yaj.l0 {β:Type} (k:Nat) (aG aH aI:Int) (aL aM aN aQ:LD) (K:Bool->Option β) (L0:Int->Option β) (v:Int):Option β:=
 match v with
 |aF=>bif(decide ((aF:Int)<(aM.length:Int))) then(atR aM aF [.s,.l,.l,.n,.n,.n] λx91 x94 x97 x100 x103 x106=>(bd1 (YY.t k x91 x94 x97 x100) (λy107=>bif(!y107) then(K false) else(bd1 (Yy.t k x103 0 aI) (λy108=>bif(!y108) then(K false) else(bd1 (Yy.t k x106 0 aG) (λy109=>bif(!y109) then(K false) else(bd1 (Yaz.t k aQ x91) (λy110=>bif y110 then(K false) else(bif(decide ((aF:Int)>0)) then(atR aM (IntKind.wrap .i64 (aF-1)) [.s,.l,.l,.n,.n,.n] λx114 x117 x120 x123 x126 x129=>(bif(!(Za3 x114 x91)) then(K false) else(L0 (IntKind.wrap .i64 (aF+1))))) else(L0 (IntKind.wrap .i64 (aF+1))))))))))))) else(bif(decide (((aM.length:Int):Int)<=12)) then(bd1 (YP.t k aQ 20) (λy130=>K y130)) else(K false))
noncomputable def Yaj.m {β:Type} (k:Nat) (aB aA aC:Int) (aD aE aJ aK:LD) (K:Bool->Option β) (F:(Int->Int->Int->LD->LD->LD->LD->Int->Option β)):Option β:=
 F aB aA aC aD aE aJ aK (0)
noncomputable def Yaj.g {β:Type} (k:Nat) (aB aA aC:Int) (aD aE aJ aK:LD) (K:Bool->Option β):Option β:=
 Za1 (Yaj.l0 k aB aA aC aD aE aJ aK K) k (0)
noncomputable def Yaj.t (k:Nat) (aB aA aC:Int) (aD aE aJ aK:LD):=Yaj.g k aB aA aC aD aE aJ aK (λz0=>some z0)
noncomputable def Yaj.e (k:Nat):Za0:=ent [.agg [.n,.n,.n,.l,.l,.l,.l]] [1] [.b] [4] false (Yaj.t k)
noncomputable def Yaj.p (k:Nat):Pro:=⟨Tryz.prog,[(54,YY.e k),(20,Yy.e k),(55,Yaz.e k),(56,YP.e k)],hints [(2,kp [1,3])] false [],k⟩
theorem Yaj.l0_eq (k:Nat) (aB aA aC:Int) (aD aE aJ aK:LD) (aG aH aI:Int) (aL aM aN aQ:LD):LpEq ((Yaj.p k).lf Tryz.f21 2 [1,0,1,0] [.agg [.int .i64 aB,.int .i64 aA,.int .i64 aC,.sl aD,.sl aE,.sl aJ,.sl aK]] [1] [.b]) (Yaj.l0 k aG aH aI aL aM aN aQ (λz0=>some z0)) (λaF=>mkSt 72 [(1,.bp 0 0),(3,.d true (.int .i64 aF))] [.box none 34 [.d false (.int .i64 aG),.d false (.int .i64 aH),.d false (.int .i64 aI),.d false (.sl aL),.d false (.sl aM),.d false (.sl aN),.d false (.sl aQ)]]):=lf_eq λL0 v=>by kernel_rfl
theorem Yaj.ok (k:Nat):Zas Tryz.prog 21 (Yaj.e k):=ent_ok (Yaj.p k) mix tyok Tryz.func21 ⟨YY.ok k,Yy.ok k,Yaz.ok k,YP.ok k⟩ Kr (λaB aA aC aD aE aJ aK=>Eq.trans Kr (congrArg (Yaj.m k aB aA aC aD aE aJ aK (λz0=>some z0)) (funext λaG=>funext λaH=>funext λaI=>funext λaL=>funext λaM=>funext λaN=>funext λaQ=>funext λv=>Yaj.l0_eq k aB aA aC aD aE aJ aK aG aH aI aL aM aN aQ k v) :))
noncomputable def Yak.l0 {β:Type} (k:Nat) (aF:BA) (aH aI aL:Int) (aM aN aQ aU:LD) (K L0:Int->Option β) (v:Int):Option β:=
 match v with
 |aG=>bif(decide ((aG:Int)<(aM.length:Int))) then(atR aM aG [.n,.s,.n,.l,.l,.l,.n,.s,.n,.l,.l,.l,.b] λx44 x47 x50 x53 x56 x59 x62 x65 x68 x71 x74 x77 x80=>(bif(ZP x47 aF) then(K aG) else(L0 (IntKind.wrap .i64 (aG+1))))) else(K (-1))
noncomputable def Yak.m {β:Type} (k:Nat) (aB aA aC:Int) (aD aE aJ aK:LD) (a1:BA) (K:Int->Option β) (F:(BA->Int->Int->Int->LD->LD->LD->LD->Int->Option β)):Option β:=
 F a1 aB aA aC aD aE aJ aK (0)
noncomputable def Yak.g {β:Type} (k:Nat) (aB aA aC:Int) (aD aE aJ aK:LD) (a1:BA) (K:Int->Option β):Option β:=
 Za1 (Yak.l0 k a1 aB aA aC aD aE aJ aK K) k (0)
noncomputable def Yak.t (k:Nat) (aB aA aC:Int) (aD aE aJ aK:LD) (a1:BA):=Yak.g k aB aA aC aD aE aJ aK a1 (λz0=>some z0)
noncomputable def Yak.e (k:Nat):Za0:=ent [.agg [.n,.n,.n,.l,.l,.l,.l],.d .s] [1] [.n] [3] false (Yak.t k)
noncomputable def Yak.p (k:Nat):Pro:=⟨Tryz.prog,[],hints [(2,kp [1,2,5])] false [],k⟩
theorem Yak.l0_eq (k:Nat) (aB aA aC:Int) (aD aE aJ aK:LD) (a1 aF:BA) (aH aI aL:Int) (aM aN aQ aU:LD):LpEq ((Yak.p k).lf Tryz.f58 2 [1,0,1,0] [.agg [.int .i64 aB,.int .i64 aA,.int .i64 aC,.sl aD,.sl aE,.sl aJ,.sl aK],.d (.str a1)] [1] [.n]) (Yak.l0 k aF aH aI aL aM aN aQ aU (λz0=>some z0)) (λaG=>mkSt 22 [(1,.d false (.str aF)),(2,.bp 0 0),(5,.d true (.int .i64 aG))] [.box none 34 [.d false (.int .i64 aH),.d false (.int .i64 aI),.d false (.int .i64 aL),.d false (.sl aM),.d false (.sl aN),.d false (.sl aQ),.d false (.sl aU)]]):=lf_eq λL0 v=>by kernel_rfl
theorem Yak.ok (k:Nat):Zas Tryz.prog 58 (Yak.e k):=ent_ok (Yak.p k) mix tyok Tryz.func58 trivial Kr (λaB aA aC aD aE aJ aK a1=>Eq.trans Kr (congrArg (Yak.m k aB aA aC aD aE aJ aK a1 (λz0=>some z0)) (funext λaF=>funext λaH=>funext λaI=>funext λaL=>funext λaM=>funext λaN=>funext λaQ=>funext λaU=>funext λv=>Yak.l0_eq k aB aA aC aD aE aJ aK a1 aF aH aI aL aM aN aQ aU k v) :))
noncomputable def Y8.l0 {β:Type} (k:Nat) (aF aH:Int) (aI:BA) (aL:LD) (K:Bool->Option β) (L0:Int->Option β) (v:Int):Option β:=
 match v with
 |aG=>bif(decide ((aG:Int)<aF)) then(atR aL aG [.s] λx20=>(bd1 (Yc.t k x20) (λy21=>bif(!y21) then(K false) else(bif(decide ((aG:Int)>0)) then(atR aL (IntKind.wrap .i64 (aG-1)) [.s] λx25=>(atR aL aG [.s] λx29=>(bif(!(Za3 x25 x29)) then(K false) else(L0 (IntKind.wrap .i64 (aG+1)))))) else(L0 (IntKind.wrap .i64 (aG+1))))))) else(bd1 (Yc.t k aI) (λy30=>bif(!y30) then(K false) else(let J0:=(bif((aH:Int)==4) then(bif((aH:Int)==4) then(K ((aF:Int)==0)) else(K false)) else(bif((aH:Int)==5) then(K ((aF:Int)==0)) else(K false)));bif((aH:Int)==1) then(bif((aH:Int)==1) then(K ((aF:Int)==1)) else(bif((aH:Int)==3) then(bd1 (Yy.t k aF 1 6) (λy31=>K y31)) else J0)) else(bif((aH:Int)==2) then(K ((aF:Int)==1)) else(bif((aH:Int)==3) then(bd1 (Yy.t k aF 1 6) (λy32=>K y32)) else J0)))))
noncomputable def Y8.m {β:Type} (k:Nat) (aB:Int) (aA:BA) (aC:LD) (K:Bool->Option β) (F:(Int->Int->BA->LD->Int->Option β)):Option β:=
 F (aC.length:Int) aB aA aC (0)
noncomputable def Y8.g {β:Type} (k:Nat) (aB:Int) (aA:BA) (aC:LD) (K:Bool->Option β):Option β:=
 Za1 (Y8.l0 k (aC.length:Int) aB aA aC K) k (0)
noncomputable def Y8.t (k:Nat) (aB:Int) (aA:BA) (aC:LD):=Y8.g k aB aA aC (λz0=>some z0)
noncomputable def Y8.e (k:Nat):Za0:=ent [.agg [.n,.s,.l]] [1] [.b] [4] false (Y8.t k)
noncomputable def Y8.p (k:Nat):Pro:=⟨Tryz.prog,[(57,Yc.e k),(20,Yy.e k)],hints [(3,kp [1,3,4])] false [],k⟩
theorem Y8.l0_eq (k:Nat) (aB:Int) (aA:BA) (aC:LD) (aF aH:Int) (aI:BA) (aL:LD):LpEq ((Y8.p k).lf Tryz.f129 3 [1,1,0,1,0] [.agg [.int .i64 aB,.str aA,.sl aC]] [1] [.b]) (Y8.l0 k aF aH aI aL (λz0=>some z0)) (λaG=>mkSt 58 [(1,.bp 0 0),(3,.d true (.int .i64 aF)),(4,.d true (.int .i64 aG))] [.box none 165 [.d false (.int .i64 aH),.d false (.str aI),.d false (.sl aL)]]):=lf_eq λL0 v=>by kernel_rfl
theorem Y8.ok (k:Nat):Zas Tryz.prog 129 (Y8.e k):=ent_ok (Y8.p k) mix tyok Tryz.func129 ⟨Yc.ok k,Yy.ok k⟩ Kr (λaB aA aC=>Eq.trans Kr (congrArg (Y8.m k aB aA aC (λz0=>some z0)) (funext λaF=>funext λaH=>funext λaI=>funext λaL=>funext λv=>Y8.l0_eq k aB aA aC aF aH aI aL k v) :))
noncomputable def YS.l0 {β:Type} (k:Nat) (aF:LD) (K:Bool->Option β) (L0:Int->Option β) (v:Int):Option β:=
 match v with
 |aG=>bif(decide ((aG:Int)<(aF.length:Int))) then(atR aF aG [.n,.s,.l] λx37 x40 x43=>(bd1 (Y8.t k x37 x40 x43) (λy44=>bif(!y44) then(K false) else(L0 (IntKind.wrap .i64 (aG+1)))))) else(K (decide (((aF.length:Int):Int)<=8)))
noncomputable def YS.m {β:Type} (k:Nat) (a0:LD) (K:Bool->Option β) (F:(LD->Int->Option β)):Option β:=
 F a0 (0)
noncomputable def YS.g {β:Type} (k:Nat) (a0:LD) (K:Bool->Option β):Option β:=
 Za1 (YS.l0 k a0 K) k (0)
noncomputable def YS.t (k:Nat) (a0:LD):=YS.g k a0 (λz0=>some z0)
noncomputable def YS.e (k:Nat):Za0:=ent [.d .l] [1] [.b] [4] false (YS.t k)
noncomputable def YS.p (k:Nat):Pro:=⟨Tryz.prog,[(129,Y8.e k)],hints [(2,kp [0,3])] false [],k⟩
theorem YS.l0_eq (k:Nat) (a0 aF:LD):LpEq ((YS.p k).lf Tryz.f96 2 [1,0,1,0] [.d (.sl a0)] [1] [.b]) (YS.l0 k aF (λz0=>some z0)) (λaG=>mkSt 19 [(0,.d false (.sl aF)),(3,.d true (.int .i64 aG))] []):=lf_eq λL0 v=>by kernel_rfl
theorem YS.ok (k:Nat):Zas Tryz.prog 96 (YS.e k):=ent_ok (YS.p k) mix tyok Tryz.func96 (Y8.ok k) Kr (λa0=>Eq.trans Kr (congrArg (YS.m k a0 (λz0=>some z0)) (funext λaF=>funext λv=>YS.l0_eq k a0 aF k v) :))
noncomputable def YV.l0 {β:Type} (k:Nat) (aG:Int) (aH aI aL:LD) (K:Bool->Option β) (L0:Int->Option β) (v:Int):Option β:=
 match v with
 |aF=>bif(decide ((aF:Int)<(aL.length:Int))) then(atR aL aF [.s,.n] λx50 x53=>(bd1 (Yc.t k x50) (λy54=>bif(!y54) then(K false) else(atR aL aF [.s,.n] λx58 x61=>(bd1 (Yy.t k x61 0 1000) (λy62=>bif(!y62) then(K false) else(bif(decide ((aF:Int)>0)) then(atR aL (IntKind.wrap .i64 (aF-1)) [.s,.n] λx66 x69=>(atR aL aF [.s,.n] λx73 x76=>(bif(!(Za3 x66 x73)) then(K false) else(L0 (IntKind.wrap .i64 (aF+1)))))) else(L0 (IntKind.wrap .i64 (aF+1)))))))))) else(bd1 (Yy.t k aG 0 10000) (λy77=>bif y77 then(bd1 (YS.t k aH) (λy78=>bif y78 then(bd1 (YP.t k aI 8) (λy79=>bif y79 then(K (decide (((aL.length:Int):Int)<=12))) else(K false))) else(K false))) else(K false)))
noncomputable def YV.m {β:Type} (k:Nat) (aB:Int) (aA aC aD:LD) (K:Bool->Option β) (F:(Int->LD->LD->LD->Int->Option β)):Option β:=
 F aB aA aC aD (0)
noncomputable def YV.g {β:Type} (k:Nat) (aB:Int) (aA aC aD:LD) (K:Bool->Option β):Option β:=
 Za1 (YV.l0 k aB aA aC aD K) k (0)
noncomputable def YV.t (k:Nat) (aB:Int) (aA aC aD:LD):=YV.g k aB aA aC aD (λz0=>some z0)
noncomputable def YV.e (k:Nat):Za0:=ent [.agg [.n,.l,.l,.l]] [1] [.b] [4] false (YV.t k)
noncomputable def YV.p (k:Nat):Pro:=⟨Tryz.prog,[(57,Yc.e k),(20,Yy.e k),(96,YS.e k),(56,YP.e k)],hints [(2,kp [1,3])] false [],k⟩
theorem YV.l0_eq (k:Nat) (aB:Int) (aA aC aD:LD) (aG:Int) (aH aI aL:LD):LpEq ((YV.p k).lf Tryz.f59 2 [1,0,1,0] [.agg [.int .i64 aB,.sl aA,.sl aC,.sl aD]] [1] [.b]) (YV.l0 k aG aH aI aL (λz0=>some z0)) (λaF=>mkSt 68 [(1,.bp 0 0),(3,.d true (.int .i64 aF))] [.box none 70 [.d false (.int .i64 aG),.d false (.sl aH),.d false (.sl aI),.d false (.sl aL)]]):=lf_eq λL0 v=>by kernel_rfl
theorem YV.ok (k:Nat):Zas Tryz.prog 59 (YV.e k):=ent_ok (YV.p k) mix tyok Tryz.func59 ⟨Yc.ok k,Yy.ok k,YS.ok k,YP.ok k⟩ Kr (λaB aA aC aD=>Eq.trans Kr (congrArg (YV.m k aB aA aC aD (λz0=>some z0)) (funext λaG=>funext λaH=>funext λaI=>funext λaL=>funext λv=>YV.l0_eq k aB aA aC aD aG aH aI aL k v) :))
noncomputable def YaP.l0 {β:Type} (k:Nat) (aF:BA) (K:Bool->Option β) (L0:Int->Option β) (v:Int):Option β:=
 match v with
 |aG=>bif(decide ((aG:Int)<(aF.size:Int))) then(atStr aF aG λb3=>bd1 (Yy.t k (IntKind.wrap .i64 b3) 32 126) (λy4=>bif(!y4) then(K false) else(L0 (IntKind.wrap .i64 (aG+1))))) else(K (decide (((aF.size:Int):Int)<=100)))
noncomputable def YaP.m {β:Type} (k:Nat) (a0:BA) (K:Bool->Option β) (F:(BA->Int->Option β)):Option β:=
 F a0 (0)
noncomputable def YaP.g {β:Type} (k:Nat) (a0:BA) (K:Bool->Option β):Option β:=
 Za1 (YaP.l0 k a0 K) k (0)
noncomputable def YaP.t (k:Nat) (a0:BA):=YaP.g k a0 (λz0=>some z0)
noncomputable def YaP.e (k:Nat):Za0:=ent [.d .s] [1] [.b] [4] false (YaP.t k)
noncomputable def YaP.p (k:Nat):Pro:=⟨Tryz.prog,[(20,Yy.e k)],hints [(2,kp [0,3])] false [],k⟩
theorem YaP.l0_eq (k:Nat) (a0 aF:BA):LpEq ((YaP.p k).lf Tryz.f130 2 [1,0,1,0] [.d (.str a0)] [1] [.b]) (YaP.l0 k aF (λz0=>some z0)) (λaG=>mkSt 19 [(0,.d false (.str aF)),(3,.d true (.int .i64 aG))] []):=lf_eq λL0 v=>by kernel_rfl
theorem YaP.ok (k:Nat):Zas Tryz.prog 130 (YaP.e k):=ent_ok (YaP.p k) mix tyok Tryz.func130 (Yy.ok k) Kr (λa0=>Eq.trans Kr (congrArg (YaP.m k a0 (λz0=>some z0)) (funext λaF=>funext λv=>YaP.l0_eq k a0 aF k v) :))
noncomputable def YaM.l0 {β:Type} (k:Nat) (aG:Int) (aH:BA) (aI:Int) (aL aM:LD) (K:Bool->Option β) (L0:Int->Option β) (v:Int):Option β:=
 match v with
 |aF=>bif(decide ((aF:Int)<(aL.length:Int))) then(atR aL aF [.s] λx17=>(bd1 (Yc.t k x17) (λy18=>bif(!y18) then(K false) else(bif(decide ((aF:Int)>0)) then(atR aL (IntKind.wrap .i64 (aF-1)) [.s] λx22=>(atR aL aF [.s] λx26=>(bif(!(Za3 x22 x26)) then(K false) else(L0 (IntKind.wrap .i64 (aF+1)))))) else(L0 (IntKind.wrap .i64 (aF+1))))))) else(K (((aL.length:Int):Int)==(aM.length:Int)))
noncomputable def YaM.m {β:Type} (k:Nat) (aB:Int) (aA:BA) (aC:Int) (aD aE:LD) (K:Bool->Option β) (F:(Int->BA->Int->LD->LD->Int->Option β)):Option β:=
 F aB aA aC aD aE (0)
noncomputable def YaM.g {β:Type} (k:Nat) (aB:Int) (aA:BA) (aC:Int) (aD aE:LD) (K:Bool->Option β):Option β:=
 Za1 (YaM.l0 k aB aA aC aD aE K) k (0)
noncomputable def YaM.t (k:Nat) (aB:Int) (aA:BA) (aC:Int) (aD aE:LD):=YaM.g k aB aA aC aD aE (λz0=>some z0)
noncomputable def YaM.e (k:Nat):Za0:=ent [.agg [.n,.s,.n,.l,.l]] [1] [.b] [4] false (YaM.t k)
noncomputable def YaM.p (k:Nat):Pro:=⟨Tryz.prog,[(57,Yc.e k)],hints [(2,kp [1,3])] false [],k⟩
theorem YaM.l0_eq (k:Nat) (aB:Int) (aA:BA) (aC:Int) (aD aE:LD) (aG:Int) (aH:BA) (aI:Int) (aL aM:LD):LpEq ((YaM.p k).lf Tryz.f131 2 [1,0,1,0] [.agg [.int .i64 aB,.str aA,.int .i64 aC,.sl aD,.sl aE]] [1] [.b]) (YaM.l0 k aG aH aI aL aM (λz0=>some z0)) (λaF=>mkSt 43 [(1,.bp 0 0),(3,.d true (.int .i64 aF))] [.box none 64 [.d false (.int .i64 aG),.d false (.str aH),.d false (.int .i64 aI),.d false (.sl aL),.d false (.sl aM)]]):=lf_eq λL0 v=>by kernel_rfl
theorem YaM.ok (k:Nat):Zas Tryz.prog 131 (YaM.e k):=ent_ok (YaM.p k) mix tyok Tryz.func131 (Yc.ok k) Kr (λaB aA aC aD aE=>Eq.trans Kr (congrArg (YaM.m k aB aA aC aD aE (λz0=>some z0)) (funext λaG=>funext λaH=>funext λaI=>funext λaL=>funext λaM=>funext λv=>YaM.l0_eq k aB aA aC aD aE aG aH aI aL aM k v) :))
noncomputable def YJ.l0 {β:Type} (k:Nat) (r_spec_l4Look:Int->BA->Int->LD->LD->Int->(Int->Option β)->Option β) (aF aI:Int) (aL:BA) (aM:Int) (aN aQ:LD) (K:Int->Option β) (L0:(Int×Int)->Option β) (v:Int×Int):Option β:=
 match v with
 |(aG,aH)=>bif(decide ((aH:Int)<(aQ.length:Int))) then(atR aQ aH [.n,.s,.n,.l,.l] λx32 x35 x38 x41 x44=>(r_spec_l4Look x32 x35 x38 x41 x44 (IntKind.wrap .i64 (aF-1)) (λy45=>bif((y45:Int)==0) then(K 0) else(bif(decide (((IntKind.wrap .i64 (aG+y45)):Int)>300)) then(K 0) else(L0 (IntKind.wrap .i64 (aG+y45),IntKind.wrap .i64 (aH+1))))))) else(let J1:=(bif(ZP aL (⟨#[]⟩:BA)) then(bif(!((aM:Int)==0)) then(K 0) else(K aG)) else(K 0));let J0:=(bif(((aN.length:Int):Int)==0) then J1 else(K 0));bif(((aN.length:Int):Int)==0) then(bif((aI:Int)==1) then(bif(((aQ.length:Int):Int)==0) then(bif((aM:Int)==0) then(bd1 (YaP.t k aL) (λy46=>bif(!y46) then(K 0) else(K aG))) else(K 0)) else(K 0)) else(bif((aI:Int)==2) then(bif(((aQ.length:Int):Int)==0) then(bif(!(ZP aL (⟨#[]⟩:BA))) then(K 0) else(K aG)) else(K 0)) else(bif((aI:Int)==3) then(bif(((aQ.length:Int):Int)==0) then(bif(ZP aL (⟨#[]⟩:BA)) then(bd1 (Yy.t k aM 0 1) (λy47=>bif(!y47) then(K 0) else(K aG))) else(K 0)) else(K 0)) else(bif((aI:Int)==4) then J0 else(bif((aI:Int)==5) then(bd1 (YaM.t k aI aL aM aN aQ) (λy48=>bif y48 then J1 else(K 0))) else(K 0)))))) else(bif((aI:Int)==1) then(K 0) else(bif((aI:Int)==2) then(K 0) else(bif((aI:Int)==3) then(K 0) else(bif((aI:Int)==4) then J0 else(bif((aI:Int)==5) then(bd1 (YaM.t k aI aL aM aN aQ) (λy49=>bif y49 then J1 else(K 0))) else(K 0)))))))
noncomputable def YJ.m {β:Type} (k:Nat) (r_spec_l4Look:Int->BA->Int->LD->LD->Int->(Int->Option β)->Option β) (aB:Int) (aA:BA) (aC:Int) (aD aE:LD) (a1:Int) (K:Int->Option β) (F:(Int->Int->BA->Int->LD->LD->(Int×Int)->Option β)):Option β:=
 bif((a1:Int)==0) then(K 0) else(F a1 aB aA aC aD aE (1,0))
noncomputable def YJ.body {β:Type} (k:Nat) (r_spec_l4Look:Int->BA->Int->LD->LD->Int->(Int->Option β)->Option β) (aB:Int) (aA:BA) (aC:Int) (aD aE:LD) (a1:Int) (K:Int->Option β):Option β:=
 bif((a1:Int)==0) then(K 0) else(Za1 (YJ.l0 k r_spec_l4Look a1 aB aA aC aD aE K) k (1,0))
noncomputable def YJ.w {β:Type} (r:Int->BA->Int->LD->LD->Int->Option (Int)) (aB:Int) (aA:BA) (aC:Int) (aD aE:LD) (a1:Int) (K:Int->Option β):Option β:=bd1 (r aB aA aC aD aE a1) K
noncomputable def YJ.all:Nat->(Int->BA->Int->LD->LD->Int->Option (Int))
 |0=>(λ_ _ _ _ _ _=>none)
 |k+1=>(λr=>(λaB aA aC aD aE a1=>YJ.body k (YJ.w r) aB aA aC aD aE a1 (λz0=>some z0))) (YJ.all k)
noncomputable def YJ.t (k:Nat) (aB:Int) (aA:BA) (aC:Int) (aD aE:LD) (a1:Int):Option (Int):=(YJ.all k) aB aA aC aD aE a1
noncomputable def YJ.f {β:Type} (k:Nat) (aB:Int) (aA:BA) (aC:Int) (aD aE:LD) (a1:Int) (K:Int->Option β):Option β:=YJ.w (YJ.t k) aB aA aC aD aE a1 K
noncomputable def YJ.g {β:Type} (k:Nat) (aB:Int) (aA:BA) (aC:Int) (aD aE:LD) (a1:Int) (K:Int->Option β):Option β:=YJ.body k (YJ.f k) aB aA aC aD aE a1 K
theorem YJ.t_succ (k:Nat) (aB:Int) (aA:BA) (aC:Int) (aD aE:LD) (a1:Int):YJ.t (k+1) aB aA aC aD aE a1=YJ.g k aB aA aC aD aE a1 (λz0=>some z0):=rfl
noncomputable def YJ.e (k:Nat):Za0:=ent [.agg [.n,.s,.n,.l,.l],.d .n] [1] [.n] [3] false (YJ.t k)
noncomputable def YJ.p (k:Nat):Pro:=⟨Tryz.prog,[(97,YJ.e k),(130,YaP.e k),(20,Yy.e k),(131,YaM.e k)],hints [(5,kp [1,2,5,6])] false [],k⟩
theorem YJ.l0_eq (k:Nat) (aB:Int) (aA:BA) (aC:Int) (aD aE:LD) (a1 aF aI:Int) (aL:BA) (aM:Int) (aN aQ:LD):LpEq ((YJ.p k).lf Tryz.f97 5 [1,1,1,0,1,0] [.agg [.int .i64 aB,.str aA,.int .i64 aC,.sl aD,.sl aE],.d (.int .i64 a1)] [1] [.n]) (YJ.l0 k (YJ.f k) aF aI aL aM aN aQ (λz0=>some z0)) (λ(aG,aH)=>mkSt 117 [(1,.d false (.int .i64 aF)),(2,.bp 0 0),(5,.d true (.int .i64 aG)),(6,.d true (.int .i64 aH))] [.box none 64 [.d false (.int .i64 aI),.d false (.str aL),.d false (.int .i64 aM),.d false (.sl aN),.d false (.sl aQ)]]):=lf_eq λL0 v=>by obtain⟨aG,aH⟩:=v;kernel_rfl
theorem YJ.oks (k:Nat):Zas Tryz.prog 97 (YJ.e k):=by
 induction k with
 |zero=>exact ent_zero Tryz.func97 Kr (λ_ _ _ _ _ _=>rfl)
 |succ k ih=>exact ent_ok (YJ.p k) mix tyok Tryz.func97 ⟨ih,YaP.ok k,Yy.ok k,YaM.ok k⟩ Kr (λaB aA aC aD aE a1=>Eq.trans Kr ((congrArg (YJ.m k (YJ.f k) aB aA aC aD aE a1 (λz0=>some z0)) (funext λaF=>funext λaI=>funext λaL=>funext λaM=>funext λaN=>funext λaQ=>funext λv=>YJ.l0_eq k aB aA aC aD aE a1 aF aI aL aM aN aQ k v)).trans (YJ.t_succ k aB aA aC aD aE a1).symm))
theorem YJ.ok (k:Nat):Zas Tryz.prog 97 (YJ.e k):=(YJ.oks k)
noncomputable def Yaw.g {β:Type} (k:Nat) (aB:Int) (aA:BA) (aC:Int) (aD aE:LD) (K:Bool->Option β):Option β:=
 YJ.f k aB aA aC aD aE 6 (λy50=>K (decide ((y50:Int)>0)))
noncomputable def Yaw.t (k:Nat) (aB:Int) (aA:BA) (aC:Int) (aD aE:LD):=Yaw.g k aB aA aC aD aE (λz0=>some z0)
noncomputable def Yaw.e (k:Nat):Za0:=ent [.agg [.n,.s,.n,.l,.l]] [1] [.b] [4] false (Yaw.t k)
noncomputable def Yaw.p (k:Nat):Pro:=⟨Tryz.prog,[(97,YJ.e k)],hints [] false [],k⟩
theorem Yaw.ok (k:Nat):Zas Tryz.prog 60 (Yaw.e k):=ent_ok (Yaw.p k) mix tyok Tryz.func60 (YJ.ok k) Kr (λaB aA aC aD aE=>Ks)
noncomputable def YH.l0 {β:Type} (k:Nat) (r_spec_l4Copy:Int->BA->Int->LD->LD->(Int->BA->Int->LC->LC->Option β)->Option β) (aG:Int) (aH:BA) (aI:Int) (aL aM:LD) (aN:Int) (aQ:BA) (aU aV:Int) (aW:BA) (bE:Int) (bL:LC) (K:Int->BA->Int->LC->LC->Option β) (L0:(Int×LC)->Option β) (v:Int×LC):Option β:=
 match v with
 |(aF,v0_13)=>bif(decide ((aF:Int)<(aM.length:Int))) then(atR aM aF [.n,.s,.n,.l,.l] λx25 x28 x31 x34 x37=>(r_spec_l4Copy x25 x28 x31 x34 x37 (λy38 y39 y40 y41 y42=>Z0 (v0_13.length+([[.d (.int .i64 y38),.d (.str y39),.d (.int .i64 y40),.own y41,.own y42]]:LC).length<=Zx) (L0 (IntKind.wrap .i64 (aF+1),v0_13++([[.d (.int .i64 y38),.d (.str y39),.d (.int .i64 y40),.own y41,.own y42]]:LC)))))) else(K aV aW bE bL v0_13)
noncomputable def YH.m {β:Type} (k:Nat) (r_spec_l4Copy:Int->BA->Int->LD->LD->(Int->BA->Int->LC->LC->Option β)->Option β) (aB:Int) (aA:BA) (aC:Int) (aD aE:LD) (K:Int->BA->Int->LC->LC->Option β) (F:(Int->BA->Int->LD->LD->Int->BA->Int->Int->BA->Int->LC->(Int×LC)->Option β)):Option β:=
 Z0 (ZcV 1 aD) (Z0 (([]:LC).length+(aD.map (·.map C.d)).length<=Zx) (F aB aA aC aD aE 0 (⟨#[]⟩:BA) 0 aB aA aC (([]:LC)++(aD.map (·.map C.d))) (0,([]:LC))))
noncomputable def YH.body {β:Type} (k:Nat) (r_spec_l4Copy:Int->BA->Int->LD->LD->(Int->BA->Int->LC->LC->Option β)->Option β) (aB:Int) (aA:BA) (aC:Int) (aD aE:LD) (K:Int->BA->Int->LC->LC->Option β):Option β:=
 Z0 (ZcV 1 aD) (Z0 (([]:LC).length+(aD.map (·.map C.d)).length<=Zx) (Za1 (YH.l0 k r_spec_l4Copy aB aA aC aD aE 0 (⟨#[]⟩:BA) 0 aB aA aC (([]:LC)++(aD.map (·.map C.d))) K) k (0,([]:LC))))
noncomputable def YH.w {β:Type} (r:Int->BA->Int->LD->LD->Option (Int×BA×Int×LC×LC)) (aB:Int) (aA:BA) (aC:Int) (aD aE:LD) (K:Int->BA->Int->LC->LC->Option β):Option β:=bd5 (r aB aA aC aD aE) K
noncomputable def YH.all:Nat->(Int->BA->Int->LD->LD->Option (Int×BA×Int×LC×LC))
 |0=>(λ_ _ _ _ _=>none)
 |k+1=>(λr=>(λaB aA aC aD aE=>YH.body k (YH.w r) aB aA aC aD aE (λz0 z1 z2 z3 z4=>some (z0,z1,z2,z3,z4)))) (YH.all k)
noncomputable def YH.t (k:Nat) (aB:Int) (aA:BA) (aC:Int) (aD aE:LD):Option (Int×BA×Int×LC×LC):=(YH.all k) aB aA aC aD aE
noncomputable def YH.f {β:Type} (k:Nat) (aB:Int) (aA:BA) (aC:Int) (aD aE:LD) (K:Int->BA->Int->LC->LC->Option β):Option β:=YH.w (YH.t k) aB aA aC aD aE K
noncomputable def YH.g {β:Type} (k:Nat) (aB:Int) (aA:BA) (aC:Int) (aD aE:LD) (K:Int->BA->Int->LC->LC->Option β):Option β:=YH.body k (YH.f k) aB aA aC aD aE K
theorem YH.t_succ (k:Nat) (aB:Int) (aA:BA) (aC:Int) (aD aE:LD):YH.t (k+1) aB aA aC aD aE=YH.g k aB aA aC aD aE (λz0 z1 z2 z3 z4=>some (z0,z1,z2,z3,z4)):=rfl
noncomputable def YH.e (k:Nat):Za0:=ent [.agg [.n,.s,.n,.l,.l]] [5] [.n,.s,.n,.o,.o] [64] false (YH.t k)
noncomputable def YH.p (k:Nat):Pro:=⟨Tryz.prog,[(78,YH.e k)],hints [(3,kp [1,2,3,4] [] [(3,4,.row true 62)])] false [],k⟩
theorem YH.l0_eq (k:Nat) (aB:Int) (aA:BA) (aC:Int) (aD aE:LD) (aG:Int) (aH:BA) (aI:Int) (aL aM:LD) (aN:Int) (aQ:BA) (aU aV:Int) (aW:BA) (bE:Int) (bL:LC):LpEq ((YH.p k).lf Tryz.f78 3 [1,1,0,1,0] [.agg [.int .i64 aB,.str aA,.int .i64 aC,.sl aD,.sl aE]] [5] [.n,.s,.n,.o,.o]) (YH.l0 k (YH.f k) aG aH aI aL aM aN aQ aU aV aW bE bL (λz0 z1 z2 z3 z4=>some (z0,z1,z2,z3,z4))) (λ(aF,v0_13)=>mkSt 35 [(1,.bp 0 0),(2,.bp 1 0),(3,.bp 2 0),(4,.d true (.int .i64 aF))] [.box none 64 [.d false (.int .i64 aG),.d false (.str aH),.d false (.int .i64 aI),.d false (.sl aL),.d false (.sl aM)],.box none 64 [.d true (.int .i64 aN),.d true (.str aQ),.d true (.int .i64 aU),.nil,.nil],.box none 64 [.d false (.int .i64 aV),.d false (.str aW),.d false (.int .i64 bE),.row 3,.row 4],.row none true 25 bL,.row none true 62 v0_13]):=lf_eq λL0 v=>by obtain⟨aF,v0_13⟩:=v;kernel_rfl
theorem YH.oks (k:Nat):Zas Tryz.prog 78 (YH.e k):=by
 induction k with
 |zero=>exact ent_zero Tryz.func78 Kr (λ_ _ _ _ _=>rfl)
 |succ k ih=>exact ent_ok (YH.p k) mix tyok Tryz.func78 ih Kr (λaB aA aC aD aE=>Eq.trans Kr ((congrArg (YH.m k (YH.f k) aB aA aC aD aE (λz0 z1 z2 z3 z4=>some (z0,z1,z2,z3,z4))) (funext λaG=>funext λaH=>funext λaI=>funext λaL=>funext λaM=>funext λaN=>funext λaQ=>funext λaU=>funext λaV=>funext λaW=>funext λbE=>funext λbL=>funext λv=>YH.l0_eq k aB aA aC aD aE aG aH aI aL aM aN aQ aU aV aW bE bL k v)).trans (YH.t_succ k aB aA aC aD aE).symm))
theorem YH.ok (k:Nat):Zas Tryz.prog 78 (YH.e k):=(YH.oks k)
noncomputable def YR.l1 {β:Type} (k:Nat) (v1_0:BA) (K:Int->Option β) (L1:(Int×Int)->Option β) (v:Int×Int):Option β:=
 match v with
 |(v1_1,v1_2)=>bif(decide ((v1_2:Int)<(v1_0.size:Int))) then(atStr v1_0 v1_2 λb12=>bd1 (Yy.t k (IntKind.wrap .i64 b12) 48 57) (λy13=>bif(!y13) then(K (-1)) else(atStr v1_0 v1_2 λb14=>L1 (IntKind.wrap .i64 ((IntKind.wrap .i64 (v1_1*10))+(IntKind.wrap .i64 (IntKind.wrap .u8 (b14-48)))),IntKind.wrap .i64 (v1_2+1))))) else(K v1_1)
noncomputable def YR.l0 {β:Type} (k:Nat) (aF:BA) (K:Int->Option β) (L0:(Int×Int)->Option β) (v:Int×Int):Option β:=
 match v with
 |(aG,aH)=>bif(decide ((aH:Int)<(aF.size:Int))) then(atStr aF aH λb6=>bd1 (Yy.t k (IntKind.wrap .i64 b6) 48 57) (λy7=>bif(!y7) then(K (-1)) else(atStr aF aH λb8=>L0 (IntKind.wrap .i64 ((IntKind.wrap .i64 (aG*10))+(IntKind.wrap .i64 (IntKind.wrap .u8 (b8-48)))),IntKind.wrap .i64 (aH+1))))) else(K aG)
noncomputable def YR.m {β:Type} (k:Nat) (a0:BA) (K:Int->Option β) (F:(BA->(Int×Int)->Option β)×(BA->(Int×Int)->Option β)):Option β:=
 bd1 (Yy.t k (a0.size:Int) 1 9) (λy1=>bif(!y1) then(K (-1)) else(bif(decide (((a0.size:Int):Int)>1)) then(atStr a0 0 λb2=>bif((b2:Int)==48) then(K (-1)) else(F.1 a0 (0,0))) else(F.2 a0 (0,0))))
noncomputable def YR.g {β:Type} (k:Nat) (a0:BA) (K:Int->Option β):Option β:=
 bd1 (Yy.t k (a0.size:Int) 1 9) (λy1=>bif(!y1) then(K (-1)) else(bif(decide (((a0.size:Int):Int)>1)) then(atStr a0 0 λb2=>bif((b2:Int)==48) then(K (-1)) else(Za1 (YR.l0 k a0 K) k (0,0))) else(Za1 (YR.l1 k a0 K) k (0,0))))
noncomputable def YR.t (k:Nat) (a0:BA):=YR.g k a0 (λz0=>some z0)
noncomputable def YR.e (k:Nat):Za0:=ent [.d .s] [1] [.n] [3] false (YR.t k)
noncomputable def YR.p (k:Nat):Pro:=⟨Tryz.prog,[(20,Yy.e k)],hints [(5,kp [0,3,4])] false [],k⟩
noncomputable def YR.d (k:Nat) (a0:BA):Ex->St->Option (Int):=(YR.p k).fin Tryz.f172 [.d (.str a0)] [1] [.n]
theorem YR.l1_eq (k:Nat) (a0 v1_0:BA):LpEq ((YR.p k).lp (codeOf Tryz.f172) 5 [1,1,1,0,1,0] (YR.d k a0)) (YR.l1 k v1_0 (λz0=>some z0)) (λ(v1_1,v1_2)=>mkSt 40 [(0,.d false (.str v1_0)),(3,.d true (.int .i64 v1_1)),(4,.d true (.int .i64 v1_2))] []):=lp_eq λL1 v=>by obtain⟨v1_1,v1_2⟩:=v;kernel_rfl
theorem YR.l0_eq (k:Nat) (a0 aF:BA):LpEq ((YR.p k).lp (codeOf Tryz.f172) 5 [1,1,1,0,1,0] (YR.d k a0)) (YR.l0 k aF (λz0=>some z0)) (λ(aG,aH)=>mkSt 40 [(0,.d false (.str aF)),(3,.d true (.int .i64 aG)),(4,.d true (.int .i64 aH))] []):=lp_eq λL0 v=>by obtain⟨aG,aH⟩:=v;kernel_rfl
theorem YR.ok (k:Nat):Zas Tryz.prog 172 (YR.e k):=ent_ok (YR.p k) mix tyok Tryz.func172 (Yy.ok k) Kr (λa0=>Eq.trans Kr (congrArg (YR.m k a0 (λz0=>some z0)) (pair_eq (funext λaF=>funext λv=>YR.l0_eq k a0 aF k v) (funext λv1_0=>funext λv=>YR.l1_eq k a0 v1_0 k v)) :))
noncomputable def YaO.l0 {β:Type} (k:Nat) (aF:LD) (K:Bool->Option β) (L0:Int->Option β) (v:Int):Option β:=
 match v with
 |aG=>bif(decide ((aG:Int)<(aF.length:Int))) then(atR aF aG [.s] λx20=>(bd1 (Yc.t k x20) (λy21=>bif(!y21) then(atR aF aG [.s] λx25=>(bd1 (YR.t k x25) (λy26=>bif(decide ((y26:Int)<0)) then(K false) else(L0 (IntKind.wrap .i64 (aG+1)))))) else(L0 (IntKind.wrap .i64 (aG+1)))))) else(bd1 (Yy.t k (aF.length:Int) 1 5) (λy27=>K y27))
noncomputable def YaO.m {β:Type} (k:Nat) (a0:LD) (K:Bool->Option β) (F:(LD->Int->Option β)):Option β:=
 F a0 (0)
noncomputable def YaO.g {β:Type} (k:Nat) (a0:LD) (K:Bool->Option β):Option β:=
 Za1 (YaO.l0 k a0 K) k (0)
noncomputable def YaO.t (k:Nat) (a0:LD):=YaO.g k a0 (λz0=>some z0)
noncomputable def YaO.e (k:Nat):Za0:=ent [.d .l] [1] [.b] [4] false (YaO.t k)
noncomputable def YaO.p (k:Nat):Pro:=⟨Tryz.prog,[(57,Yc.e k),(172,YR.e k),(20,Yy.e k)],hints [(2,kp [0,3])] false [],k⟩
theorem YaO.l0_eq (k:Nat) (a0 aF:LD):LpEq ((YaO.p k).lf Tryz.f146 2 [1,0,1,0] [.d (.sl a0)] [1] [.b]) (YaO.l0 k aF (λz0=>some z0)) (λaG=>mkSt 27 [(0,.d false (.sl aF)),(3,.d true (.int .i64 aG))] []):=lf_eq λL0 v=>by kernel_rfl
theorem YaO.ok (k:Nat):Zas Tryz.prog 146 (YaO.e k):=ent_ok (YaO.p k) mix tyok Tryz.func146 ⟨Yc.ok k,YR.ok k,Yy.ok k⟩ Kr (λa0=>Eq.trans Kr (congrArg (YaO.m k a0 (λz0=>some z0)) (funext λaF=>funext λv=>YaO.l0_eq k a0 aF k v) :))
noncomputable def YbS.g {β:Type} (k:Nat) (aB:Int) (aA:BA) (aC:Int) (aD aE:LD) (K:Bool->Option β):Option β:=
 bif((aB:Int)==0) then(bif(ZP aA (⟨#[]⟩:BA)) then(bif((aC:Int)==0) then(bif(((aD.length:Int):Int)==0) then(K (((aE.length:Int):Int)==0)) else(K false)) else(K false)) else(K false)) else(K false)
noncomputable def YbS.t (k:Nat) (aB:Int) (aA:BA) (aC:Int) (aD aE:LD):=YbS.g k aB aA aC aD aE (λz0=>some z0)
noncomputable def YbS.e (k:Nat):Za0:=ent [.agg [.n,.s,.n,.l,.l]] [1] [.b] [4] false (YbS.t k)
noncomputable def YbS.p (k:Nat):Pro:=⟨Tryz.prog,[],hints [] false [],k⟩
theorem YbS.ok (k:Nat):Zas Tryz.prog 147 (YbS.e k):=ent_ok (YbS.p k) mix tyok Tryz.func147 trivial Kr (λaB aA aC aD aE=>Ks)
noncomputable def YaC.l0 {β:Type} (k:Nat) (aF:LD) (K:Bool->Option β) (L0:Int->Option β) (v:Int):Option β:=
 match v with
 |aG=>bif(decide ((aG:Int)<(aF.length:Int))) then(atR aF aG [.n,.l,.n,.s,.n,.l,.l] λx35 x38 x41 x44 x47 x50 x53=>(bd1 (Yy.t k x35 1 3) (λy54=>bif(!y54) then(K false) else(bd1 (YaO.t k x38) (λy55=>bif(!y55) then(K false) else(bif((x35:Int)==2) then(bd1 (YbS.t k x41 x44 x47 x50 x53) (λy56=>bif(!y56) then(K false) else(bif((x35:Int)!=2) then(bd1 (Yaw.t k x41 x44 x47 x50 x53) (λy57=>bif(!y57) then(K false) else(L0 (IntKind.wrap .i64 (aG+1))))) else(L0 (IntKind.wrap .i64 (aG+1)))))) else(bif((x35:Int)!=2) then(bd1 (Yaw.t k x41 x44 x47 x50 x53) (λy58=>bif(!y58) then(K false) else(L0 (IntKind.wrap .i64 (aG+1))))) else(L0 (IntKind.wrap .i64 (aG+1)))))))))) else(K (decide (((aF.length:Int):Int)<=20)))
noncomputable def YaC.m {β:Type} (k:Nat) (a0:LD) (K:Bool->Option β) (F:(LD->Int->Option β)):Option β:=
 F a0 (0)
noncomputable def YaC.g {β:Type} (k:Nat) (a0:LD) (K:Bool->Option β):Option β:=
 Za1 (YaC.l0 k a0 K) k (0)
noncomputable def YaC.t (k:Nat) (a0:LD):=YaC.g k a0 (λz0=>some z0)
noncomputable def YaC.e (k:Nat):Za0:=ent [.d .l] [1] [.b] [4] false (YaC.t k)
noncomputable def YaC.p (k:Nat):Pro:=⟨Tryz.prog,[(20,Yy.e k),(146,YaO.e k),(147,YbS.e k),(60,Yaw.e k)],hints [(2,kp [0,3])] false [],k⟩
theorem YaC.l0_eq (k:Nat) (a0 aF:LD):LpEq ((YaC.p k).lf Tryz.f116 2 [1,0,1,0] [.d (.sl a0)] [1] [.b]) (YaC.l0 k aF (λz0=>some z0)) (λaG=>mkSt 48 [(0,.d false (.sl aF)),(3,.d true (.int .i64 aG))] []):=lf_eq λL0 v=>by kernel_rfl
theorem YaC.ok (k:Nat):Zas Tryz.prog 116 (YaC.e k):=ent_ok (YaC.p k) mix tyok Tryz.func116 ⟨Yy.ok k,YaO.ok k,YbS.ok k,Yaw.ok k⟩ Kr (λa0=>Eq.trans Kr (congrArg (YaC.m k a0 (λz0=>some z0)) (funext λaF=>funext λv=>YaC.l0_eq k a0 aF k v) :))
noncomputable def YaG.l0 {β:Type} (k:Nat) (aF:BA) (aH:Int) (aI:BA) (aL:Int) (aM aN:LD) (K L0:Int->Option β) (v:Int):Option β:=
 match v with
 |aG=>bif(decide ((aG:Int)<(aM.length:Int))) then(atR aM aG [.s] λx8=>(bif(ZP x8 aF) then(bif(decide ((aG:Int)<(aN.length:Int))) then(K aG) else(L0 (IntKind.wrap .i64 (aG+1)))) else(L0 (IntKind.wrap .i64 (aG+1))))) else(K (-1))
noncomputable def YaG.m {β:Type} (k:Nat) (aB:Int) (aA:BA) (aC:Int) (aD aE:LD) (a1:BA) (K:Int->Option β) (F:(BA->Int->BA->Int->LD->LD->Int->Option β)):Option β:=
 bif((aB:Int)==5) then(F a1 aB aA aC aD aE (0)) else(bif((aB:Int)==4) then(bd1 (YR.t k a1) (λy9=>bif(decide ((y9:Int)<(aE.length:Int))) then(K y9) else(K (-1)))) else(K (-1)))
noncomputable def YaG.g {β:Type} (k:Nat) (aB:Int) (aA:BA) (aC:Int) (aD aE:LD) (a1:BA) (K:Int->Option β):Option β:=
 bif((aB:Int)==5) then(Za1 (YaG.l0 k a1 aB aA aC aD aE K) k (0)) else(bif((aB:Int)==4) then(bd1 (YR.t k a1) (λy9=>bif(decide ((y9:Int)<(aE.length:Int))) then(K y9) else(K (-1)))) else(K (-1)))
noncomputable def YaG.t (k:Nat) (aB:Int) (aA:BA) (aC:Int) (aD aE:LD) (a1:BA):=YaG.g k aB aA aC aD aE a1 (λz0=>some z0)
noncomputable def YaG.e (k:Nat):Za0:=ent [.agg [.n,.s,.n,.l,.l],.d .s] [1] [.n] [3] false (YaG.t k)
noncomputable def YaG.p (k:Nat):Pro:=⟨Tryz.prog,[(172,YR.e k)],hints [(4,kp [1,2,5])] false [],k⟩
theorem YaG.l0_eq (k:Nat) (aB:Int) (aA:BA) (aC:Int) (aD aE:LD) (a1 aF:BA) (aH:Int) (aI:BA) (aL:Int) (aM aN:LD):LpEq ((YaG.p k).lf Tryz.f173 4 [1,0,1,0,1,0,1,0] [.agg [.int .i64 aB,.str aA,.int .i64 aC,.sl aD,.sl aE],.d (.str a1)] [1] [.n]) (YaG.l0 k aF aH aI aL aM aN (λz0=>some z0)) (λaG=>mkSt 43 [(1,.d false (.str aF)),(2,.bp 0 0),(5,.d true (.int .i64 aG))] [.box none 64 [.d false (.int .i64 aH),.d false (.str aI),.d false (.int .i64 aL),.d false (.sl aM),.d false (.sl aN)]]):=lf_eq λL0 v=>by kernel_rfl
theorem YaG.ok (k:Nat):Zas Tryz.prog 173 (YaG.e k):=ent_ok (YaG.p k) mix tyok Tryz.func173 (YR.ok k) Kr (λaB aA aC aD aE a1=>Eq.trans Kr (congrArg (YaG.m k aB aA aC aD aE a1 (λz0=>some z0)) (funext λaF=>funext λaH=>funext λaI=>funext λaL=>funext λaM=>funext λaN=>funext λv=>YaG.l0_eq k aB aA aC aD aE a1 aF aH aI aL aM aN k v) :))
noncomputable def Yay.l0 {β:Type} (k:Nat) (aF:LD) (aQ:Int) (aU:BA) (aV:Int) (K:Int->BA->Int->LD->LD->Bool->Option β) (L0:(Int×Int×BA×Int×LD×LD)->Option β) (v:Int×Int×BA×Int×LD×LD):Option β:=
 match v with
 |(aG,aH,aI,aL,aM,aN)=>bif(decide ((aG:Int)<(aF.length:Int))) then(atR aF aG [.s] λx25=>(bd1 (YaG.t k aH aI aL aM aN x25) (λy26=>bif(decide ((y26:Int)<0)) then(K 0 (⟨#[]⟩:BA) 0 ([]:LD) ([]:LD) false) else(atR aN y26 [.n,.s,.n,.l,.l] λx30 x33 x36 x39 x42=>(L0 (IntKind.wrap .i64 (aG+1),x30,x33,x36,x39,x42)))))) else(K aH aI aL aM aN true)
noncomputable def Yay.m {β:Type} (k:Nat) (aB:Int) (aA:BA) (aC:Int) (aD aE a1:LD) (K:Int->BA->Int->LD->LD->Bool->Option β) (F:(LD->Int->BA->Int->(Int×Int×BA×Int×LD×LD)->Option β)):Option β:=
 F a1 0 (⟨#[]⟩:BA) 0 (0,aB,aA,aC,aD,aE)
noncomputable def Yay.g {β:Type} (k:Nat) (aB:Int) (aA:BA) (aC:Int) (aD aE a1:LD) (K:Int->BA->Int->LD->LD->Bool->Option β):Option β:=
 Za1 (Yay.l0 k a1 0 (⟨#[]⟩:BA) 0 K) k (0,aB,aA,aC,aD,aE)
noncomputable def Yay.t (k:Nat) (aB:Int) (aA:BA) (aC:Int) (aD aE a1:LD):=Yay.g k aB aA aC aD aE a1 (λz0 z1 z2 z3 z4 z5=>some (z0,z1,z2,z3,z4,z5))
noncomputable def Yay.e (k:Nat):Za0:=ent [.agg [.n,.s,.n,.l,.l],.d .l] [5,1] [.n,.s,.n,.l,.l,.b] [64,4] true (Yay.t k)
noncomputable def Yay.p (k:Nat):Pro:=⟨Tryz.prog,[(173,YaG.e k)],hints [(2,kp [1,2,4,6])] true [[false,false,false,true,true],[false]],k⟩
theorem Yay.l0_eq (k:Nat) (aB:Int) (aA:BA) (aC:Int) (aD aE a1 aF:LD) (aQ:Int) (aU:BA) (aV:Int):LpEq ((Yay.p k).lf Tryz.f148 2 [1,0,1,0] [.agg [.int .i64 aB,.str aA,.int .i64 aC,.sl aD,.sl aE],.d (.sl a1)] [5,1] [.n,.s,.n,.l,.l,.b]) (Yay.l0 k aF aQ aU aV (λz0 z1 z2 z3 z4 z5=>some (z0,z1,z2,z3,z4,z5))) (λ(aG,aH,aI,aL,aM,aN)=>mkSt 29 [(1,.d false (.sl aF)),(2,.bp 0 0),(4,.bp 1 0),(6,.d true (.int .i64 aG))] [.box none 64 [.d false (.int .i64 aH),.d false (.str aI),.d false (.int .i64 aL),.d false (.sl aM),.d false (.sl aN)],.box none 64 [.d true (.int .i64 aQ),.d true (.str aU),.d true (.int .i64 aV),.nil,.nil]]):=lf_eq λL0 v=>by obtain⟨aG,aH,aI,aL,aM,aN⟩:=v;kernel_rfl
theorem Yay.ok (k:Nat):Zas Tryz.prog 148 (Yay.e k):=ent_ok (Yay.p k) mix tyok Tryz.func148 (YaG.ok k) Kr (λaB aA aC aD aE a1=>Eq.trans Kr (congrArg (Yay.m k aB aA aC aD aE a1 (λz0 z1 z2 z3 z4 z5=>some (z0,z1,z2,z3,z4,z5))) (funext λaF=>funext λaQ=>funext λaU=>funext λaV=>funext λv=>Yay.l0_eq k aB aA aC aD aE a1 aF aQ aU aV k v) :))
noncomputable def Yd.l1 {β:Type} (k:Nat) (r_spec_SameValue:Int->BA->Int->LD->LD->Int->BA->Int->LD->LD->(Bool->Option β)->Option β) (v1_1:Int) (v1_2:BA) (v1_3:Int) (v1_4 v1_5:LD) (v1_6:Int) (v1_7:BA) (v1_8:Int) (v1_9 v1_10:LD) (K:Bool->Option β) (L1:Int->Option β) (v:Int):Option β:=
 match v with
 |v1_0=>bif(decide ((v1_0:Int)<(v1_5.length:Int))) then(atR v1_5 v1_0 [.n,.s,.n,.l,.l] λx119 x122 x125 x128 x131=>(atR v1_10 v1_0 [.n,.s,.n,.l,.l] λx135 x138 x141 x144 x147=>(r_spec_SameValue x119 x122 x125 x128 x131 x135 x138 x141 x144 x147 (λy148=>bif(!y148) then(K false) else(L1 (IntKind.wrap .i64 (v1_0+1))))))) else(K true)
noncomputable def Yd.m0 {β:Type} (k:Nat) (r_spec_SameValue:Int->BA->Int->LD->LD->Int->BA->Int->LD->LD->(Bool->Option β)->Option β) (aG:Int) (aH:BA) (aI:Int) (aL aM:LD) (aN:Int) (aQ:BA) (aU:Int) (aV aW:LD) (K:Bool->Option β) (L0:Int->Option β) (v:Int) (F:(Int->BA->Int->LD->LD->Int->BA->Int->LD->LD->Int->Option β)):Option β:=
 match v with
 |aF=>bif(decide ((aF:Int)<(aL.length:Int))) then(atR aL aF [.s] λx78=>(atR aV aF [.s] λx82=>(bif(!(ZP x78 x82)) then(K false) else(L0 (IntKind.wrap .i64 (aF+1)))))) else(F aG aH aI aL aM aN aQ aU aV aW (0))
noncomputable def Yd.l0 {β:Type} (k:Nat) (r_spec_SameValue:Int->BA->Int->LD->LD->Int->BA->Int->LD->LD->(Bool->Option β)->Option β) (aG:Int) (aH:BA) (aI:Int) (aL aM:LD) (aN:Int) (aQ:BA) (aU:Int) (aV aW:LD) (K:Bool->Option β) (L0:Int->Option β) (v:Int):Option β:=Yd.m0 k r_spec_SameValue aG aH aI aL aM aN aQ aU aV aW K L0 v (λv1_1 v1_2 v1_3 v1_4 v1_5 v1_6 v1_7 v1_8 v1_9 v1_10=>Za1 (Yd.l1 k r_spec_SameValue v1_1 v1_2 v1_3 v1_4 v1_5 v1_6 v1_7 v1_8 v1_9 v1_10 K) k)
noncomputable def Yd.m {β:Type} (k:Nat) (r_spec_SameValue:Int->BA->Int->LD->LD->Int->BA->Int->LD->LD->(Bool->Option β)->Option β) (aB:Int) (aA:BA) (aC:Int) (aD aE:LD) (aP:Int) (aO:BA) (aR:Int) (aS aT:LD) (K:Bool->Option β) (F:(Int->BA->Int->LD->LD->Int->BA->Int->LD->LD->Int->Option β)):Option β:=
 bif((aB:Int)!=aP) then(K false) else(bif(!(ZP aA aO)) then(K false) else(bif((aC:Int)!=aR) then(K false) else(bif(((aD.length:Int):Int)!=(aS.length:Int)) then(K false) else(bif(((aE.length:Int):Int)!=(aT.length:Int)) then(K false) else(F aB aA aC aD aE aP aO aR aS aT (0))))))
noncomputable def Yd.body {β:Type} (k:Nat) (r_spec_SameValue:Int->BA->Int->LD->LD->Int->BA->Int->LD->LD->(Bool->Option β)->Option β) (aB:Int) (aA:BA) (aC:Int) (aD aE:LD) (aP:Int) (aO:BA) (aR:Int) (aS aT:LD) (K:Bool->Option β):Option β:=Yd.m k r_spec_SameValue aB aA aC aD aE aP aO aR aS aT K (λaG aH aI aL aM aN aQ aU aV aW=>Za1 (Yd.l0 k r_spec_SameValue aG aH aI aL aM aN aQ aU aV aW K) k)
noncomputable def Yd.w {β:Type} (r:Int->BA->Int->LD->LD->Int->BA->Int->LD->LD->Option (Bool)) (aB:Int) (aA:BA) (aC:Int) (aD aE:LD) (aP:Int) (aO:BA) (aR:Int) (aS aT:LD) (K:Bool->Option β):Option β:=bd1 (r aB aA aC aD aE aP aO aR aS aT) K
noncomputable def Yd.all:Nat->(Int->BA->Int->LD->LD->Int->BA->Int->LD->LD->Option (Bool))
 |0=>(λ_ _ _ _ _ _ _ _ _ _=>none)
 |k+1=>(λr=>(λaB aA aC aD aE aP aO aR aS aT=>Yd.body k (Yd.w r) aB aA aC aD aE aP aO aR aS aT (λz0=>some z0))) (Yd.all k)
noncomputable def Yd.t (k:Nat) (aB:Int) (aA:BA) (aC:Int) (aD aE:LD) (aP:Int) (aO:BA) (aR:Int) (aS aT:LD):Option (Bool):=(Yd.all k) aB aA aC aD aE aP aO aR aS aT
noncomputable def Yd.f {β:Type} (k:Nat) (aB:Int) (aA:BA) (aC:Int) (aD aE:LD) (aP:Int) (aO:BA) (aR:Int) (aS aT:LD) (K:Bool->Option β):Option β:=Yd.w (Yd.t k) aB aA aC aD aE aP aO aR aS aT K
noncomputable def Yd.g {β:Type} (k:Nat) (aB:Int) (aA:BA) (aC:Int) (aD aE:LD) (aP:Int) (aO:BA) (aR:Int) (aS aT:LD) (K:Bool->Option β):Option β:=Yd.body k (Yd.f k) aB aA aC aD aE aP aO aR aS aT K
theorem Yd.t_succ (k:Nat) (aB:Int) (aA:BA) (aC:Int) (aD aE:LD) (aP:Int) (aO:BA) (aR:Int) (aS aT:LD):Yd.t (k+1) aB aA aC aD aE aP aO aR aS aT=Yd.g k aB aA aC aD aE aP aO aR aS aT (λz0=>some z0):=rfl
noncomputable def Yd.e (k:Nat):Za0:=ent [.agg [.n,.s,.n,.l,.l],.agg [.n,.s,.n,.l,.l]] [1] [.b] [4] false (Yd.t k)
noncomputable def Yd.p (k:Nat):Pro:=⟨Tryz.prog,[(149,Yd.e k)],hints [(4,kp [2,3,5]),(9,kp [2,3,6])] false [],k⟩
noncomputable def Yd.d (k:Nat) (aB:Int) (aA:BA) (aC:Int) (aD aE:LD) (aP:Int) (aO:BA) (aR:Int) (aS aT:LD):Ex->St->Option (Bool):=(Yd.p k).fin Tryz.f149 [.agg [.int .i64 aB,.str aA,.int .i64 aC,.sl aD,.sl aE],.agg [.int .i64 aP,.str aO,.int .i64 aR,.sl aS,.sl aT]] [1] [.b]
noncomputable def Yd.s0 (aG:Int) (aH:BA) (aI:Int) (aL aM:LD) (aN:Int) (aQ:BA) (aU:Int) (aV aW:LD) (v:Int):St:=
 match v with
 |aF=>mkSt 81 [(2,.bp 0 0),(3,.bp 1 0),(5,.d true (.int .i64 aF))] [.box none 64 [.d false (.int .i64 aG),.d false (.str aH),.d false (.int .i64 aI),.d false (.sl aL),.d false (.sl aM)],.box none 64 [.d false (.int .i64 aN),.d false (.str aQ),.d false (.int .i64 aU),.d false (.sl aV),.d false (.sl aW)]]
theorem Yd.l1_eq (k:Nat) (aB:Int) (aA:BA) (aC:Int) (aD aE:LD) (aP:Int) (aO:BA) (aR:Int) (aS aT:LD) (v1_1:Int) (v1_2:BA) (v1_3:Int) (v1_4 v1_5:LD) (v1_6:Int) (v1_7:BA) (v1_8:Int) (v1_9 v1_10:LD):LpEq ((Yd.p k).lp (codeOf Tryz.f149) 9 [1,1,1,0,1,0] (Yd.d k aB aA aC aD aE aP aO aR aS aT)) (Yd.l1 k (Yd.f k) v1_1 v1_2 v1_3 v1_4 v1_5 v1_6 v1_7 v1_8 v1_9 v1_10 (λz0=>some z0)) (λv1_0=>mkSt 81 [(2,.bp 0 0),(3,.bp 1 0),(6,.d true (.int .i64 v1_0))] [.box none 64 [.d false (.int .i64 v1_1),.d false (.str v1_2),.d false (.int .i64 v1_3),.d false (.sl v1_4),.d false (.sl v1_5)],.box none 64 [.d false (.int .i64 v1_6),.d false (.str v1_7),.d false (.int .i64 v1_8),.d false (.sl v1_9),.d false (.sl v1_10)]]):=lp_eq λL1 v=>by kernel_rfl
theorem Yd.l0_eq (k:Nat) (aB:Int) (aA:BA) (aC:Int) (aD aE:LD) (aP:Int) (aO:BA) (aR:Int) (aS aT:LD) (aG:Int) (aH:BA) (aI:Int) (aL aM:LD) (aN:Int) (aQ:BA) (aU:Int) (aV aW:LD):LpEq ((Yd.p k).lp (codeOf Tryz.f149) 4 [1,1,0,1,0] (Yd.d k aB aA aC aD aE aP aO aR aS aT)) (Yd.l0 k (Yd.f k) aG aH aI aL aM aN aQ aU aV aW (λz0=>some z0)) (Yd.s0 aG aH aI aL aM aN aQ aU aV aW):=lp_eq λL0 v=>by exact Eq.trans Kr (congrArg (Yd.m0 k (Yd.f k) aG aH aI aL aM aN aQ aU aV aW (λz0=>some z0) (λv=>L0 (Yd.s0 aG aH aI aL aM aN aQ aU aV aW v)) v) (funext λv1_1=>funext λv1_2=>funext λv1_3=>funext λv1_4=>funext λv1_5=>funext λv1_6=>funext λv1_7=>funext λv1_8=>funext λv1_9=>funext λv1_10=>funext λv=>Yd.l1_eq k aB aA aC aD aE aP aO aR aS aT v1_1 v1_2 v1_3 v1_4 v1_5 v1_6 v1_7 v1_8 v1_9 v1_10 k v) :)
theorem Yd.oks (k:Nat):Zas Tryz.prog 149 (Yd.e k):=by
 induction k with
 |zero=>exact ent_zero Tryz.func149 Kr (λ_ _ _ _ _ _ _ _ _ _=>rfl)
 |succ k ih=>exact ent_ok (Yd.p k) mix tyok Tryz.func149 ih Kr (λaB aA aC aD aE aP aO aR aS aT=>Eq.trans Kr ((congrArg (Yd.m k (Yd.f k) aB aA aC aD aE aP aO aR aS aT (λz0=>some z0)) (funext λaG=>funext λaH=>funext λaI=>funext λaL=>funext λaM=>funext λaN=>funext λaQ=>funext λaU=>funext λaV=>funext λaW=>funext λv=>Yd.l0_eq k aB aA aC aD aE aP aO aR aS aT aG aH aI aL aM aN aQ aU aV aW k v)).trans (Yd.t_succ k aB aA aC aD aE aP aO aR aS aT).symm))
theorem Yd.ok (k:Nat):Zas Tryz.prog 149 (Yd.e k):=(Yd.oks k)
noncomputable def YaU.l0 {β:Type} (k:Nat) (aF:BA) (aI:Int) (aL:BA) (aM:Int) (aN aQ:LD) (aU:Int) (aV:BA) (aW:Int) (bE bL:LD) (v0_13:Int) (v0_14:BA) (v0_15 v0_16:Int) (v0_17:BA) (v0_18:Int) (K:Int->BA->Int->LD->LD->Bool->Option β) (L0:(Bool×Int×LC×LC)->Option β) (v:Bool×Int×LC×LC):Option β:=
 match v with
 |(aG,aH,v0_19,v0_20)=>let J0:=(v0_20.length+([[.d (.int .i64 aU),.d (.str aV),.d (.int .i64 aW),.d (.sl bE),.d (.sl bL)]]:LC).length<=Zx);let J1:=(v0_20++([[.d (.int .i64 aU),.d (.str aV),.d (.int .i64 aW),.d (.sl bE),.d (.sl bL)]]:LC));let J2:=(v0_19.length+([[.d (.str aF)]]:LC).length<=Zx);bif(decide ((aH:Int)<(aN.length:Int))) then(bif(!aG) then(atR aN aH [.s] λx83=>(bif(!(Za3 x83 aF)) then(Z0 J2 (Z0 J0 (atR aN aH [.s] λx87=>(bif(!(ZP x87 aF)) then(atR aN aH [.s] λx91=>(Z0 ((v0_19++([[.d (.str aF)]]:LC)).length+([[.d (.str x91)]]:LC).length<=Zx) (atR aQ aH [.n,.s,.n,.l,.l] λx95 x98 x101 x104 x107=>(Z0 (J1.length+([[.d (.int .i64 x95),.d (.str x98),.d (.int .i64 x101),.d (.sl x104),.d (.sl x107)]]:LC).length<=Zx) (L0 (true,IntKind.wrap .i64 (aH+1),(v0_19++([[.d (.str aF)]]:LC))++([[.d (.str x91)]]:LC),J1++([[.d (.int .i64 x95),.d (.str x98),.d (.int .i64 x101),.d (.sl x104),.d (.sl x107)]]:LC))))))) else(L0 (true,IntKind.wrap .i64 (aH+1),v0_19++([[.d (.str aF)]]:LC),v0_20++([[.d (.int .i64 aU),.d (.str aV),.d (.int .i64 aW),.d (.sl bE),.d (.sl bL)]]:LC))))))) else(atR aN aH [.s] λx111=>(bif(!(ZP x111 aF)) then(atR aN aH [.s] λx115=>(Z0 (v0_19.length+([[.d (.str x115)]]:LC).length<=Zx) (atR aQ aH [.n,.s,.n,.l,.l] λx119 x122 x125 x128 x131=>(Z0 (v0_20.length+([[.d (.int .i64 x119),.d (.str x122),.d (.int .i64 x125),.d (.sl x128),.d (.sl x131)]]:LC).length<=Zx) (L0 (aG,IntKind.wrap .i64 (aH+1),v0_19++([[.d (.str x115)]]:LC),v0_20++([[.d (.int .i64 x119),.d (.str x122),.d (.int .i64 x125),.d (.sl x128),.d (.sl x131)]]:LC))))))) else(L0 (aG,IntKind.wrap .i64 (aH+1),v0_19,v0_20)))))) else(atR aN aH [.s] λx135=>(bif(!(ZP x135 aF)) then(atR aN aH [.s] λx139=>(Z0 (v0_19.length+([[.d (.str x139)]]:LC).length<=Zx) (atR aQ aH [.n,.s,.n,.l,.l] λx143 x146 x149 x152 x155=>(Z0 (v0_20.length+([[.d (.int .i64 x143),.d (.str x146),.d (.int .i64 x149),.d (.sl x152),.d (.sl x155)]]:LC).length<=Zx) (L0 (aG,IntKind.wrap .i64 (aH+1),v0_19++([[.d (.str x139)]]:LC),v0_20++([[.d (.int .i64 x143),.d (.str x146),.d (.int .i64 x149),.d (.sl x152),.d (.sl x155)]]:LC))))))) else(L0 (aG,IntKind.wrap .i64 (aH+1),v0_19,v0_20))))) else(bif(!aG) then(Z0 J2 (Z0 J0 (K v0_16 v0_17 v0_18 (C.immRows (v0_19++([[.d (.str aF)]]:LC))) (C.immRows J1) true))) else(K v0_16 v0_17 v0_18 (C.immRows v0_19) (C.immRows v0_20) true))
noncomputable def YaU.m {β:Type} (k:Nat) (aB:Int) (aA:BA) (aC:Int) (aD aE:LD) (a1:BA) (aZ:Int) (bD:BA) (bA:Int) (bB bC:LD) (K:Int->BA->Int->LD->LD->Bool->Option β) (F:(BA->Int->BA->Int->LD->LD->Int->BA->Int->LD->LD->Int->BA->Int->Int->BA->Int->(Bool×Int×LC×LC)->Option β)):Option β:=
 bif((aB:Int)==4) then(bd1 (YR.t k a1) (λy1=>bd1 (Yy.t k y1 0 (aE.length:Int)) (λy2=>bif(!y2) then(K aB aA aC aD aE false) else(let J5:=((aE.drop (Int.toNat (0:Int))).take (Int.toNat (y1:Int)-Int.toNat (0:Int)));let J4:=(J5.map (·.map C.d));let J3:=(([]:LC)++J4);let J0:=(J3++([[.d (.int .i64 aZ),.d (.str bD),.d (.int .i64 bA),.d (.sl bB),.d (.sl bC)]]:LC));Z0 (0<=(0:Int)/\(0:Int)<=(y1:Int)/\(y1:Int)<=(aE.length:Int)/\rowsOk 5 aE) (Z0 (rowsOk 5 J5) (Z0 (([]:LC).length+J4.length<=Zx) (Z0 (J3.length+([[.d (.int .i64 aZ),.d (.str bD),.d (.int .i64 bA),.d (.sl bB),.d (.sl bC)]]:LC).length<=Zx) (bif(decide ((y1:Int)<(aE.length:Int))) then(let J2:=((aE.drop (Int.toNat (IntKind.wrap .i64 (y1+1):Int))).take (Int.toNat (aE.length:Int)-Int.toNat (IntKind.wrap .i64 (y1+1):Int)));let J1:=(J2.map (·.map C.d));Z0 (0<=(IntKind.wrap .i64 (y1+1):Int)/\(IntKind.wrap .i64 (y1+1):Int)<=(aE.length:Int)/\(aE.length:Int)<=(aE.length:Int)/\rowsOk 5 aE) (Z0 (rowsOk 5 J2) (Z0 (J0.length+J1.length<=Zx) (K aB (⟨#[]⟩:BA) 0 ([]:LD) (C.immRows (J0++J1)) true)))) else(K aB (⟨#[]⟩:BA) 0 ([]:LD) (C.immRows J0) true))))))))) else(bif((aB:Int)!=5) then(K aB aA aC aD aE false) else(bd1 (Yc.t k a1) (λy3=>bif(!y3) then(K aB aA aC aD aE false) else(F a1 aB aA aC aD aE aZ bD bA bB bC 0 (⟨#[]⟩:BA) 0 aB (⟨#[]⟩:BA) 0 (false,0,([]:LC),([]:LC))))))
noncomputable def YaU.g {β:Type} (k:Nat) (aB:Int) (aA:BA) (aC:Int) (aD aE:LD) (a1:BA) (aZ:Int) (bD:BA) (bA:Int) (bB bC:LD) (K:Int->BA->Int->LD->LD->Bool->Option β):Option β:=YaU.m k aB aA aC aD aE a1 aZ bD bA bB bC K (λaF aI aL aM aN aQ aU aV aW bE bL v0_13 v0_14 v0_15 v0_16 v0_17 v0_18=>Za1 (YaU.l0 k aF aI aL aM aN aQ aU aV aW bE bL v0_13 v0_14 v0_15 v0_16 v0_17 v0_18 K) k)
noncomputable def YaU.t (k:Nat) (aB:Int) (aA:BA) (aC:Int) (aD aE:LD) (a1:BA) (aZ:Int) (bD:BA) (bA:Int) (bB bC:LD):=YaU.g k aB aA aC aD aE a1 aZ bD bA bB bC (λz0 z1 z2 z3 z4 z5=>some (z0,z1,z2,z3,z4,z5))
noncomputable def YaU.e (k:Nat):Za0:=ent [.agg [.n,.s,.n,.l,.l],.d .s,.agg [.n,.s,.n,.l,.l]] [5,1] [.n,.s,.n,.l,.l,.b] [64,4] true (YaU.t k)
noncomputable def YaU.p (k:Nat):Pro:=⟨Tryz.prog,[(172,YR.e k),(20,Yy.e k),(57,Yc.e k)],hints [(14,kp [1,3,5,6,8,10,11] [] [(8,3,.row true 25),(8,4,.row false 62)])] true [[false,false,false,true,true],[false]],k⟩
theorem YaU.l0_eq (k:Nat) (aB:Int) (aA:BA) (aC:Int) (aD aE:LD) (a1:BA) (aZ:Int) (bD:BA) (bA:Int) (bB bC:LD) (aF:BA) (aI:Int) (aL:BA) (aM:Int) (aN aQ:LD) (aU:Int) (aV:BA) (aW:Int) (bE bL:LD) (v0_13:Int) (v0_14:BA) (v0_15 v0_16:Int) (v0_17:BA) (v0_18:Int):LpEq ((YaU.p k).lf Tryz.f174 14 [1,1,1,1,1,0,1,0] [.agg [.int .i64 aB,.str aA,.int .i64 aC,.sl aD,.sl aE],.d (.str a1),.agg [.int .i64 aZ,.str bD,.int .i64 bA,.sl bB,.sl bC]] [5,1] [.n,.s,.n,.l,.l,.b]) (YaU.l0 k aF aI aL aM aN aQ aU aV aW bE bL v0_13 v0_14 v0_15 v0_16 v0_17 v0_18 (λz0 z1 z2 z3 z4 z5=>some (z0,z1,z2,z3,z4,z5))) (λ(aG,aH,v0_19,v0_20)=>mkSt 133 [(1,.d false (.str aF)),(3,.bp 0 0),(5,.bp 1 0),(6,.bp 2 0),(8,.bp 3 0),(10,.d true (.bool aG)),(11,.d true (.int .i64 aH))] [.box none 64 [.d false (.int .i64 aI),.d false (.str aL),.d false (.int .i64 aM),.d false (.sl aN),.d false (.sl aQ)],.box none 64 [.d false (.int .i64 aU),.d false (.str aV),.d false (.int .i64 aW),.d false (.sl bE),.d false (.sl bL)],.box none 64 [.d true (.int .i64 v0_13),.d true (.str v0_14),.d true (.int .i64 v0_15),.nil,.nil],.box none 64 [.d false (.int .i64 v0_16),.d true (.str v0_17),.d true (.int .i64 v0_18),.row 4,.row 5],.row none true 25 v0_19,.row none false 62 v0_20]):=lf_eq λL0 v=>by obtain⟨aG,aH,v0_19,v0_20⟩:=v;kernel_rfl
theorem YaU.ok (k:Nat):Zas Tryz.prog 174 (YaU.e k):=ent_ok (YaU.p k) mix tyok Tryz.func174 ⟨YR.ok k,Yy.ok k,Yc.ok k⟩ Kr (λaB aA aC aD aE a1 aZ bD bA bB bC=>Eq.trans Kr (congrArg (YaU.m k aB aA aC aD aE a1 aZ bD bA bB bC (λz0 z1 z2 z3 z4 z5=>some (z0,z1,z2,z3,z4,z5))) (funext λaF=>funext λaI=>funext λaL=>funext λaM=>funext λaN=>funext λaQ=>funext λaU=>funext λaV=>funext λaW=>funext λbE=>funext λbL=>funext λv0_13=>funext λv0_14=>funext λv0_15=>funext λv0_16=>funext λv0_17=>funext λv0_18=>funext λv=>YaU.l0_eq k aB aA aC aD aE a1 aZ bD bA bB bC aF aI aL aM aN aQ aU aV aW bE bL v0_13 v0_14 v0_15 v0_16 v0_17 v0_18 k v) :))
noncomputable def Yb2.g {β:Type} (k:Nat) (aB:Int) (aA:BA) (aC:Int) (aD aE:LD) (a1:BA) (K:Int->BA->Int->LD->LD->Bool->Option β):Option β:=
 bd1 (YaG.t k aB aA aC aD aE a1) (λy1=>bif(decide ((y1:Int)<0)) then(K aB aA aC aD aE false) else(let J3:=((aE.drop (Int.toNat (IntKind.wrap .i64 (y1+1):Int))).take (Int.toNat (aE.length:Int)-Int.toNat (IntKind.wrap .i64 (y1+1):Int)));let J1:=(J3.map (·.map C.d));let J9:=((aE.drop (Int.toNat (0:Int))).take (Int.toNat (y1:Int)-Int.toNat (0:Int)));let J7:=(J9.map (·.map C.d));let J5:=(([]:LC)++J7);let J0:=(C.immRows (J5++J1));Z0 (0<=(0:Int)/\(0:Int)<=(y1:Int)/\(y1:Int)<=(aE.length:Int)/\rowsOk 5 aE) (Z0 (rowsOk 5 J9) (Z0 (([]:LC).length+J7.length<=Zx) (Z0 (0<=(IntKind.wrap .i64 (y1+1):Int)/\(IntKind.wrap .i64 (y1+1):Int)<=(aE.length:Int)/\(aE.length:Int)<=(aE.length:Int)/\rowsOk 5 aE) (Z0 (rowsOk 5 J3) (Z0 (J5.length+J1.length<=Zx) (bif((aB:Int)==5) then(let J4:=((aD.drop (Int.toNat (IntKind.wrap .i64 (y1+1):Int))).take (Int.toNat (aD.length:Int)-Int.toNat (IntKind.wrap .i64 (y1+1):Int)));let J2:=(J4.map (·.map C.d));let J10:=((aD.drop (Int.toNat (0:Int))).take (Int.toNat (y1:Int)-Int.toNat (0:Int)));let J8:=(J10.map (·.map C.d));let J6:=(([]:LC)++J8);Z0 (0<=(0:Int)/\(0:Int)<=(y1:Int)/\(y1:Int)<=(aD.length:Int)/\rowsOk 1 aD) (Z0 (ZcV 1 J10) (Z0 (([]:LC).length+J8.length<=Zx) (Z0 (0<=(IntKind.wrap .i64 (y1+1):Int)/\(IntKind.wrap .i64 (y1+1):Int)<=(aD.length:Int)/\(aD.length:Int)<=(aD.length:Int)/\rowsOk 1 aD) (Z0 (ZcV 1 J4) (Z0 (J6.length+J2.length<=Zx) (K aB (⟨#[]⟩:BA) 0 (C.immRows (J6++J2)) J0 true))))))) else(K aB (⟨#[]⟩:BA) 0 ([]:LD) J0 true)))))))))
noncomputable def Yb2.t (k:Nat) (aB:Int) (aA:BA) (aC:Int) (aD aE:LD) (a1:BA):=Yb2.g k aB aA aC aD aE a1 (λz0 z1 z2 z3 z4 z5=>some (z0,z1,z2,z3,z4,z5))
noncomputable def Yb2.e (k:Nat):Za0:=ent [.agg [.n,.s,.n,.l,.l],.d .s] [5,1] [.n,.s,.n,.l,.l,.b] [64,4] true (Yb2.t k)
noncomputable def Yb2.p (k:Nat):Pro:=⟨Tryz.prog,[(173,YaG.e k)],hints [] true [[false,false,false,true,true],[false]],k⟩
theorem Yb2.ok (k:Nat):Zas Tryz.prog 175 (Yb2.e k):=ent_ok (Yb2.p k) mix tyok Tryz.func175 (YaG.ok k) Kr (λaB aA aC aD aE a1=>Ks)
noncomputable def Y2.body {β:Type} (k:Nat) (r_spec_l5Do:Int->BA->Int->LD->LD->Int->LD->Int->BA->Int->LD->LD->Int->(Int->BA->Int->LD->LD->Bool->Option β)->Option β) (aB:Int) (aA:BA) (aC:Int) (aD aE:LD) (aP:Int) (aO:LD) (aR:Int) (aS:BA) (aT:Int) (aX aY:LD) (a2:Int) (K:Int->BA->Int->LD->LD->Bool->Option β):Option β:=
 atR aO a2 [.s] λx4=>(bif((a2:Int)==(IntKind.wrap .i64 ((aO.length:Int)-1))) then(bif((aP:Int)==1) then(bd6 (YaU.t k aB aA aC aD aE x4 aR aS aT aX aY) (λy156 y157 y158 y159 y160 y161=>K y156 y157 y158 y159 y160 y161)) else(bd6 (Yb2.t k aB aA aC aD aE x4) (λy162 y163 y164 y165 y166 y167=>K y162 y163 y164 y165 y166 y167))) else(bd1 (YaG.t k aB aA aC aD aE x4) (λy168=>bif(decide ((y168:Int)<0)) then(K aB aA aC aD aE false) else(atR aE y168 [.n,.s,.n,.l,.l] λx172 x175 x178 x181 x184=>(r_spec_l5Do x172 x175 x178 x181 x184 aP aO aR aS aT aX aY (IntKind.wrap .i64 (a2+1)) (λy185 y186 y187 y188 y189 y190=>bif(!y190) then(K aB aA aC aD aE false) else(Z0 (rowsOk 5 aE) (Z0 (([]:LC).length+(aE.map (·.map C.d)).length<=Zx) (Z0 ((0:Int)<=y168/\y168<((([]:LC)++(aE.map (·.map C.d))).length:Int)) (Z0 (Int.toNat y168<(([]:LC)++(aE.map (·.map C.d))).length) (K aB (⟨#[]⟩:BA) 0 aD (C.immRows ((([]:LC)++(aE.map (·.map C.d))).modify (Int.toNat y168) λc=>ZE c 0 [.d (.int .i64 y185),.d (.str y186),.d (.int .i64 y187),.d (.sl y188),.d (.sl y189)])) true)))))))))))
noncomputable def Y2.w {β:Type} (r:Int->BA->Int->LD->LD->Int->LD->Int->BA->Int->LD->LD->Int->Option (Int×BA×Int×LD×LD×Bool)) (aB:Int) (aA:BA) (aC:Int) (aD aE:LD) (aP:Int) (aO:LD) (aR:Int) (aS:BA) (aT:Int) (aX aY:LD) (a2:Int) (K:Int->BA->Int->LD->LD->Bool->Option β):Option β:=match r aB aA aC aD aE aP aO aR aS aT aX aY a2 with|some (z0,z1,z2,z3,z4,z5)=>K z0 z1 z2 z3 z4 z5|none=>none
noncomputable def Y2.all:Nat->(Int->BA->Int->LD->LD->Int->LD->Int->BA->Int->LD->LD->Int->Option (Int×BA×Int×LD×LD×Bool))
 |0=>(λ_ _ _ _ _ _ _ _ _ _ _ _ _=>none)
 |k+1=>(λr=>(λaB aA aC aD aE aP aO aR aS aT aX aY a2=>Y2.body k (Y2.w r) aB aA aC aD aE aP aO aR aS aT aX aY a2 (λz0 z1 z2 z3 z4 z5=>some (z0,z1,z2,z3,z4,z5)))) (Y2.all k)
noncomputable def Y2.t (k:Nat) (aB:Int) (aA:BA) (aC:Int) (aD aE:LD) (aP:Int) (aO:LD) (aR:Int) (aS:BA) (aT:Int) (aX aY:LD) (a2:Int):Option (Int×BA×Int×LD×LD×Bool):=(Y2.all k) aB aA aC aD aE aP aO aR aS aT aX aY a2
noncomputable def Y2.f {β:Type} (k:Nat) (aB:Int) (aA:BA) (aC:Int) (aD aE:LD) (aP:Int) (aO:LD) (aR:Int) (aS:BA) (aT:Int) (aX aY:LD) (a2:Int) (K:Int->BA->Int->LD->LD->Bool->Option β):Option β:=Y2.w (Y2.t k) aB aA aC aD aE aP aO aR aS aT aX aY a2 K
noncomputable def Y2.g {β:Type} (k:Nat) (aB:Int) (aA:BA) (aC:Int) (aD aE:LD) (aP:Int) (aO:LD) (aR:Int) (aS:BA) (aT:Int) (aX aY:LD) (a2:Int) (K:Int->BA->Int->LD->LD->Bool->Option β):Option β:=Y2.body k (Y2.f k) aB aA aC aD aE aP aO aR aS aT aX aY a2 K
theorem Y2.t_succ (k:Nat) (aB:Int) (aA:BA) (aC:Int) (aD aE:LD) (aP:Int) (aO:LD) (aR:Int) (aS:BA) (aT:Int) (aX aY:LD) (a2:Int):Y2.t (k+1) aB aA aC aD aE aP aO aR aS aT aX aY a2=Y2.g k aB aA aC aD aE aP aO aR aS aT aX aY a2 (λz0 z1 z2 z3 z4 z5=>some (z0,z1,z2,z3,z4,z5)):=rfl
noncomputable def Y2.e (k:Nat):Za0:=ent [.agg [.n,.s,.n,.l,.l],.agg [.n,.l,.n,.s,.n,.l,.l],.d .n] [5,1] [.n,.s,.n,.l,.l,.b] [64,4] true (Y2.t k)
noncomputable def Y2.p (k:Nat):Pro:=⟨Tryz.prog,[(174,YaU.e k),(175,Yb2.e k),(173,YaG.e k),(150,Y2.e k)],hints [] true [[false,false,false,false,true],[false]],k⟩
theorem Y2.oks (k:Nat):Zas Tryz.prog 150 (Y2.e k):=by
 induction k with
 |zero=>exact ent_zero Tryz.func150 Kr (λ_ _ _ _ _ _ _ _ _ _ _ _ _=>rfl)
 |succ k ih=>exact ent_ok (Y2.p k) mix tyok Tryz.func150 ⟨YaU.ok k,Yb2.ok k,YaG.ok k,ih⟩ Kr (λaB aA aC aD aE aP aO aR aS aT aX aY a2=>Ks)
theorem Y2.ok (k:Nat):Zas Tryz.prog 150 (Y2.e k):=(Y2.oks k)
noncomputable def YbX.g {β:Type} (k:Nat) (aB:Int) (aA:BA) (aC:Int) (aD aE:LD) (aP:Int) (aO:LD) (aR:Int) (aS:BA) (aT:Int) (aX aY:LD) (K:Int->BA->Int->LD->LD->Bool->Option β):Option β:=
 bif((aP:Int)==3) then(bd6 (Yay.t k aB aA aC aD aE aO) (λy1 y2 y3 y4 y5 y6=>bif y6 then(Yd.f k y1 y2 y3 y4 y5 aR aS aT aX aY (λy7=>K aB aA aC aD aE y7)) else(K aB aA aC aD aE false))) else(Y2.f k aB aA aC aD aE aP aO aR aS aT aX aY 0 (λy191 y192 y193 y194 y195 y196=>bif y196 then(bd1 (Yaw.t k y191 y192 y193 y194 y195) (λy197=>K y191 y192 y193 y194 y195 y197)) else(K y191 y192 y193 y194 y195 false)))
noncomputable def YbX.t (k:Nat) (aB:Int) (aA:BA) (aC:Int) (aD aE:LD) (aP:Int) (aO:LD) (aR:Int) (aS:BA) (aT:Int) (aX aY:LD):=YbX.g k aB aA aC aD aE aP aO aR aS aT aX aY (λz0 z1 z2 z3 z4 z5=>some (z0,z1,z2,z3,z4,z5))
noncomputable def YbX.e (k:Nat):Za0:=ent [.agg [.n,.s,.n,.l,.l],.agg [.n,.l,.n,.s,.n,.l,.l]] [5,1] [.n,.s,.n,.l,.l,.b] [64,4] true (YbX.t k)
noncomputable def YbX.p (k:Nat):Pro:=⟨Tryz.prog,[(148,Yay.e k),(149,Yd.e k),(150,Y2.e k),(60,Yaw.e k)],hints [] true [],k⟩
theorem YbX.ok (k:Nat):Zas Tryz.prog 117 (YbX.e k):=ent_ok (YbX.p k) mix tyok Tryz.func117 ⟨Yay.ok k,Yd.ok k,Y2.ok k,Yaw.ok k⟩ Kr (λaB aA aC aD aE aP aO aR aS aT aX aY=>Ks)
noncomputable def YaV.l0 {β:Type} (k:Nat) (aF:LD) (aH:Int) (aI:BA) (aL:Int) (aM aN:LD) (aQ:Int) (aU:BA) (aV:Int) (K:Int->BA->Int->LC->LC->Int->Option β) (L0:(Int×Int×BA×Int×LD×LD)->Option β) (v:Int×Int×BA×Int×LD×LD):Option β:=
 match v with
 |(aG,aW,bE,bL,v0_13,v0_14)=>bif(decide ((aG:Int)<(aF.length:Int))) then(atR aF aG [.n,.l,.n,.s,.n,.l,.l] λx217 x220 x223 x226 x229 x232 x235=>(bd6 (YbX.t k aW bE bL v0_13 v0_14 x217 x220 x223 x226 x229 x232 x235) (λy236 y237 y238 y239 y240 y241=>bif(!y241) then(YH.f k aH aI aL aM aN (λy242 y243 y244 y245 y246=>K y242 y243 y244 y245 y246 aG)) else(L0 (IntKind.wrap .i64 (aG+1),y236,y237,y238,y239,y240))))) else(YH.f k aW bE bL v0_13 v0_14 (λy247 y248 y249 y250 y251=>K y247 y248 y249 y250 y251 (-1)))
noncomputable def YaV.m {β:Type} (k:Nat) (aB:Int) (aA:BA) (aC:Int) (aD aE a1:LD) (K:Int->BA->Int->LC->LC->Int->Option β) (F:(LD->Int->BA->Int->LD->LD->Int->BA->Int->(Int×Int×BA×Int×LD×LD)->Option β)):Option β:=
 bd1 (Yaw.t k aB aA aC aD aE) (λy1=>bif(!y1) then(YH.f k aB aA aC aD aE (λy43 y44 y45 y46 y47=>K y43 y44 y45 y46 y47 0)) else(bd1 (YaC.t k a1) (λy59=>bif(!y59) then(YH.f k aB aA aC aD aE (λy60 y61 y62 y63 y64=>K y60 y61 y62 y63 y64 0)) else(F a1 aB aA aC aD aE 0 (⟨#[]⟩:BA) 0 (0,aB,aA,aC,aD,aE)))))
noncomputable def YaV.g {β:Type} (k:Nat) (aB:Int) (aA:BA) (aC:Int) (aD aE a1:LD) (K:Int->BA->Int->LC->LC->Int->Option β):Option β:=YaV.m k aB aA aC aD aE a1 K (λaF aH aI aL aM aN aQ aU aV=>Za1 (YaV.l0 k aF aH aI aL aM aN aQ aU aV K) k)
noncomputable def YaV.t (k:Nat) (aB:Int) (aA:BA) (aC:Int) (aD aE a1:LD):=YaV.g k aB aA aC aD aE a1 (λz0 z1 z2 z3 z4 z5=>some (z0,z1,z2,z3,z4,z5))
noncomputable def YaV.e (k:Nat):Za0:=ent [.agg [.n,.s,.n,.l,.l],.d .l] [5,1] [.n,.s,.n,.o,.o,.n] [64,3] false (YaV.t k)
noncomputable def YaV.p (k:Nat):Pro:=⟨Tryz.prog,[(60,Yaw.e k),(78,YH.e k),(116,YaC.e k),(117,YbX.e k)],hints [(5,kp [1,2,4,6,7])] false [],k⟩
theorem YaV.l0_eq (k:Nat) (aB:Int) (aA:BA) (aC:Int) (aD aE a1 aF:LD) (aH:Int) (aI:BA) (aL:Int) (aM aN:LD) (aQ:Int) (aU:BA) (aV:Int):LpEq ((YaV.p k).lf Tryz.f77 5 [1,1,1,0,1,0] [.agg [.int .i64 aB,.str aA,.int .i64 aC,.sl aD,.sl aE],.d (.sl a1)] [5,1] [.n,.s,.n,.o,.o,.n]) (YaV.l0 k aF aH aI aL aM aN aQ aU aV (λz0 z1 z2 z3 z4 z5=>some (z0,z1,z2,z3,z4,z5))) (λ(aG,aW,bE,bL,v0_13,v0_14)=>mkSt 44 [(1,.d false (.sl aF)),(2,.bp 0 0),(4,.bp 1 0),(6,.bp 2 0),(7,.d true (.int .i64 aG))] [.box none 64 [.d false (.int .i64 aH),.d false (.str aI),.d false (.int .i64 aL),.d false (.sl aM),.d false (.sl aN)],.box none 64 [.d true (.int .i64 aQ),.d true (.str aU),.d true (.int .i64 aV),.nil,.nil],.box none 64 [.d false (.int .i64 aW),.d false (.str bE),.d false (.int .i64 bL),.d false (.sl v0_13),.d false (.sl v0_14)]]):=lf_eq λL0 v=>by obtain⟨aG,aW,bE,bL,v0_13,v0_14⟩:=v;kernel_rfl
theorem YaV.ok (k:Nat):Zas Tryz.prog 77 (YaV.e k):=ent_ok (YaV.p k) mix tyok Tryz.func77 ⟨Yaw.ok k,YH.ok k,YaC.ok k,YbX.ok k⟩ Kr (λaB aA aC aD aE a1=>Eq.trans Kr (congrArg (YaV.m k aB aA aC aD aE a1 (λz0 z1 z2 z3 z4 z5=>some (z0,z1,z2,z3,z4,z5))) (funext λaF=>funext λaH=>funext λaI=>funext λaL=>funext λaM=>funext λaN=>funext λaQ=>funext λaU=>funext λaV=>funext λv=>YaV.l0_eq k aB aA aC aD aE a1 aF aH aI aL aM aN aQ aU aV k v) :))
noncomputable def Y1.l0 {β:Type} (k:Nat) (aF:LD) (aH:Int) (aI:BA) (aL:Int) (aM aN:LD) (K:Bool->Option β) (L0:Int->Option β) (v:Int):Option β:=
 match v with
 |aG=>bif(decide ((aG:Int)<(aF.length:Int))) then(atR aF aG [.s,.l] λx283 x286=>(bd6 (YaV.t k aH aI aL aM aN x286) (λy287 y288 y289 y290 y291 y292=>atR aF aG [.s,.l] λx296 x299=>(bd1 (Yc.t k x296) (λy300=>bif(!y300) then(K false) else(bif(decide ((y292:Int)>=0)) then(K false) else(bif(decide ((aG:Int)>0)) then(atR aF (IntKind.wrap .i64 (aG-1)) [.s,.l] λx304 x307=>(atR aF aG [.s,.l] λx311 x314=>(bif(!(Za3 x304 x311)) then(K false) else(L0 (IntKind.wrap .i64 (aG+1)))))) else(L0 (IntKind.wrap .i64 (aG+1)))))))))) else(K (decide (((aF.length:Int):Int)<=12)))
noncomputable def Y1.m {β:Type} (k:Nat) (aB:Int) (aA:BA) (aC:Int) (aD aE a1:LD) (K:Bool->Option β) (F:(LD->Int->BA->Int->LD->LD->Int->Option β)):Option β:=
 F a1 aB aA aC aD aE (0)
noncomputable def Y1.g {β:Type} (k:Nat) (aB:Int) (aA:BA) (aC:Int) (aD aE a1:LD) (K:Bool->Option β):Option β:=
 Za1 (Y1.l0 k a1 aB aA aC aD aE K) k (0)
noncomputable def Y1.t (k:Nat) (aB:Int) (aA:BA) (aC:Int) (aD aE a1:LD):=Y1.g k aB aA aC aD aE a1 (λz0=>some z0)
noncomputable def Y1.e (k:Nat):Za0:=ent [.agg [.n,.s,.n,.l,.l],.d .l] [1] [.b] [4] false (Y1.t k)
noncomputable def Y1.p (k:Nat):Pro:=⟨Tryz.prog,[(77,YaV.e k),(57,Yc.e k)],hints [(2,kp [1,2,5])] false [],k⟩
theorem Y1.l0_eq (k:Nat) (aB:Int) (aA:BA) (aC:Int) (aD aE a1 aF:LD) (aH:Int) (aI:BA) (aL:Int) (aM aN:LD):LpEq ((Y1.p k).lf Tryz.f61 2 [1,0,1,0] [.agg [.int .i64 aB,.str aA,.int .i64 aC,.sl aD,.sl aE],.d (.sl a1)] [1] [.b]) (Y1.l0 k aF aH aI aL aM aN (λz0=>some z0)) (λaG=>mkSt 56 [(1,.d false (.sl aF)),(2,.bp 0 0),(5,.d true (.int .i64 aG))] [.box none 64 [.d false (.int .i64 aH),.d false (.str aI),.d false (.int .i64 aL),.d false (.sl aM),.d false (.sl aN)]]):=lf_eq λL0 v=>by kernel_rfl
theorem Y1.ok (k:Nat):Zas Tryz.prog 61 (Y1.e k):=ent_ok (Y1.p k) mix tyok Tryz.func61 ⟨YaV.ok k,Yc.ok k⟩ Kr (λaB aA aC aD aE a1=>Eq.trans Kr (congrArg (Y1.m k aB aA aC aD aE a1 (λz0=>some z0)) (funext λaF=>funext λaH=>funext λaI=>funext λaL=>funext λaM=>funext λaN=>funext λv=>Y1.l0_eq k aB aA aC aD aE a1 aF aH aI aL aM aN k v) :))
noncomputable def YaB.l0 {β:Type} (k:Nat) (aG aH aI:Int) (aL aM aN aQ:LD) (K:Bool->Option β) (L0:Int->Option β) (v:Int):Option β:=
 match v with
 |aF=>bif(decide ((aF:Int)<(aL.length:Int))) then(atR aL aF [.n,.s,.n,.l,.l,.l,.n,.s,.n,.l,.l,.l,.b] λx359 x362 x365 x368 x371 x374 x377 x380 x383 x386 x389 x392 x395=>(bd1 (Yy.t k x359 1 (IntKind.wrap .i64 (aH-1))) (λy396=>bif(!y396) then(K false) else(bd1 (Yc.t k x362) (λy397=>bif(!y397) then(K false) else(bd1 (Yak.t k aG aH aI aL aM aN aQ x362) (λy398=>bif((y398:Int)!=aF) then(K false) else(bd1 (YV.t k x365 x368 x371 x374) (λy399=>bif(!y399) then(K false) else(bd1 (Yaw.t k x377 x380 x383 x386 x389) (λy400=>bif(!y400) then(K false) else(bd1 (Y1.t k x377 x380 x383 x386 x389 x392) (λy401=>bif(!y401) then(K false) else(bif(decide ((aF:Int)>0)) then(atR aL (IntKind.wrap .i64 (aF-1)) [.n,.s,.n,.l,.l,.l,.n,.s,.n,.l,.l,.l,.b] λx405 x408 x411 x414 x417 x420 x423 x426 x429 x432 x435 x438 x441=>(bif(decide ((x405:Int)>=x359)) then(K false) else(L0 (IntKind.wrap .i64 (aF+1))))) else(L0 (IntKind.wrap .i64 (aF+1))))))))))))))))) else(K (decide (((aL.length:Int):Int)<=20)))
noncomputable def YaB.m {β:Type} (k:Nat) (aB aA aC:Int) (aD aE aJ aK:LD) (K:Bool->Option β) (F:(Int->Int->Int->LD->LD->LD->LD->Int->Option β)):Option β:=
 F aB aA aC aD aE aJ aK (0)
noncomputable def YaB.g {β:Type} (k:Nat) (aB aA aC:Int) (aD aE aJ aK:LD) (K:Bool->Option β):Option β:=
 Za1 (YaB.l0 k aB aA aC aD aE aJ aK K) k (0)
noncomputable def YaB.t (k:Nat) (aB aA aC:Int) (aD aE aJ aK:LD):=YaB.g k aB aA aC aD aE aJ aK (λz0=>some z0)
noncomputable def YaB.e (k:Nat):Za0:=ent [.agg [.n,.n,.n,.l,.l,.l,.l]] [1] [.b] [4] false (YaB.t k)
noncomputable def YaB.p (k:Nat):Pro:=⟨Tryz.prog,[(20,Yy.e k),(57,Yc.e k),(58,Yak.e k),(59,YV.e k),(60,Yaw.e k),(61,Y1.e k)],hints [(2,kp [1,3])] false [],k⟩
theorem YaB.l0_eq (k:Nat) (aB aA aC:Int) (aD aE aJ aK:LD) (aG aH aI:Int) (aL aM aN aQ:LD):LpEq ((YaB.p k).lf Tryz.f22 2 [1,0,1,0] [.agg [.int .i64 aB,.int .i64 aA,.int .i64 aC,.sl aD,.sl aE,.sl aJ,.sl aK]] [1] [.b]) (YaB.l0 k aG aH aI aL aM aN aQ (λz0=>some z0)) (λaF=>mkSt 78 [(1,.bp 0 0),(3,.d true (.int .i64 aF))] [.box none 34 [.d false (.int .i64 aG),.d false (.int .i64 aH),.d false (.int .i64 aI),.d false (.sl aL),.d false (.sl aM),.d false (.sl aN),.d false (.sl aQ)]]):=lf_eq λL0 v=>by kernel_rfl
theorem YaB.ok (k:Nat):Zas Tryz.prog 22 (YaB.e k):=ent_ok (YaB.p k) mix tyok Tryz.func22 ⟨Yy.ok k,Yc.ok k,Yak.ok k,YV.ok k,Yaw.ok k,Y1.ok k⟩ Kr (λaB aA aC aD aE aJ aK=>Eq.trans Kr (congrArg (YaB.m k aB aA aC aD aE aJ aK (λz0=>some z0)) (funext λaG=>funext λaH=>funext λaI=>funext λaL=>funext λaM=>funext λaN=>funext λaQ=>funext λv=>YaB.l0_eq k aB aA aC aD aE aJ aK aG aH aI aL aM aN aQ k v) :))
noncomputable def YaQ.l0 {β:Type} (k:Nat) (aF aH aI aL:Int) (aM aN aQ aU:LD) (K L0:Int->Option β) (v:Int):Option β:=
 match v with
 |aG=>bif(decide ((aG:Int)<(aM.length:Int))) then(atR aM aG [.n,.s,.n,.l,.l,.l,.n,.s,.n,.l,.l,.l,.b] λx44 x47 x50 x53 x56 x59 x62 x65 x68 x71 x74 x77 x80=>(bif((x44:Int)==aF) then(K aG) else(L0 (IntKind.wrap .i64 (aG+1))))) else(K (-1))
noncomputable def YaQ.m {β:Type} (k:Nat) (aB aA aC:Int) (aD aE aJ aK:LD) (a1:Int) (K:Int->Option β) (F:(Int->Int->Int->Int->LD->LD->LD->LD->Int->Option β)):Option β:=
 F a1 aB aA aC aD aE aJ aK (0)
noncomputable def YaQ.g {β:Type} (k:Nat) (aB aA aC:Int) (aD aE aJ aK:LD) (a1:Int) (K:Int->Option β):Option β:=
 Za1 (YaQ.l0 k a1 aB aA aC aD aE aJ aK K) k (0)
noncomputable def YaQ.t (k:Nat) (aB aA aC:Int) (aD aE aJ aK:LD) (a1:Int):=YaQ.g k aB aA aC aD aE aJ aK a1 (λz0=>some z0)
noncomputable def YaQ.e (k:Nat):Za0:=ent [.agg [.n,.n,.n,.l,.l,.l,.l],.d .n] [1] [.n] [3] false (YaQ.t k)
noncomputable def YaQ.p (k:Nat):Pro:=⟨Tryz.prog,[],hints [(2,kp [1,2,5])] false [],k⟩
theorem YaQ.l0_eq (k:Nat) (aB aA aC:Int) (aD aE aJ aK:LD) (a1 aF aH aI aL:Int) (aM aN aQ aU:LD):LpEq ((YaQ.p k).lf Tryz.f23 2 [1,0,1,0] [.agg [.int .i64 aB,.int .i64 aA,.int .i64 aC,.sl aD,.sl aE,.sl aJ,.sl aK],.d (.int .i64 a1)] [1] [.n]) (YaQ.l0 k aF aH aI aL aM aN aQ aU (λz0=>some z0)) (λaG=>mkSt 22 [(1,.d false (.int .i64 aF)),(2,.bp 0 0),(5,.d true (.int .i64 aG))] [.box none 34 [.d false (.int .i64 aH),.d false (.int .i64 aI),.d false (.int .i64 aL),.d false (.sl aM),.d false (.sl aN),.d false (.sl aQ),.d false (.sl aU)]]):=lf_eq λL0 v=>by kernel_rfl
theorem YaQ.ok (k:Nat):Zas Tryz.prog 23 (YaQ.e k):=ent_ok (YaQ.p k) mix tyok Tryz.func23 trivial Kr (λaB aA aC aD aE aJ aK a1=>Eq.trans Kr (congrArg (YaQ.m k aB aA aC aD aE aJ aK a1 (λz0=>some z0)) (funext λaF=>funext λaH=>funext λaI=>funext λaL=>funext λaM=>funext λaN=>funext λaQ=>funext λaU=>funext λv=>YaQ.l0_eq k aB aA aC aD aE aJ aK a1 aF aH aI aL aM aN aQ aU k v) :))
noncomputable def YaA.l0 {β:Type} (k:Nat) (aF:BA) (aH aI aL:Int) (aM aN aQ aU:LD) (K L0:Int->Option β) (v:Int):Option β:=
 match v with
 |aG=>bif(decide ((aG:Int)<(aN.length:Int))) then(atR aN aG [.s,.l,.l,.n,.n,.n] λx23 x26 x29 x32 x35 x38=>(bif(ZP x23 aF) then(K aG) else(L0 (IntKind.wrap .i64 (aG+1))))) else(K (-1))
noncomputable def YaA.m {β:Type} (k:Nat) (aB aA aC:Int) (aD aE aJ aK:LD) (a1:BA) (K:Int->Option β) (F:(BA->Int->Int->Int->LD->LD->LD->LD->Int->Option β)):Option β:=
 F a1 aB aA aC aD aE aJ aK (0)
noncomputable def YaA.g {β:Type} (k:Nat) (aB aA aC:Int) (aD aE aJ aK:LD) (a1:BA) (K:Int->Option β):Option β:=
 Za1 (YaA.l0 k a1 aB aA aC aD aE aJ aK K) k (0)
noncomputable def YaA.t (k:Nat) (aB aA aC:Int) (aD aE aJ aK:LD) (a1:BA):=YaA.g k aB aA aC aD aE aJ aK a1 (λz0=>some z0)
noncomputable def YaA.e (k:Nat):Za0:=ent [.agg [.n,.n,.n,.l,.l,.l,.l],.d .s] [1] [.n] [3] false (YaA.t k)
noncomputable def YaA.p (k:Nat):Pro:=⟨Tryz.prog,[],hints [(2,kp [1,2,5])] false [],k⟩
theorem YaA.l0_eq (k:Nat) (aB aA aC:Int) (aD aE aJ aK:LD) (a1 aF:BA) (aH aI aL:Int) (aM aN aQ aU:LD):LpEq ((YaA.p k).lf Tryz.f24 2 [1,0,1,0] [.agg [.int .i64 aB,.int .i64 aA,.int .i64 aC,.sl aD,.sl aE,.sl aJ,.sl aK],.d (.str a1)] [1] [.n]) (YaA.l0 k aF aH aI aL aM aN aQ aU (λz0=>some z0)) (λaG=>mkSt 23 [(1,.d false (.str aF)),(2,.bp 0 0),(5,.d true (.int .i64 aG))] [.box none 34 [.d false (.int .i64 aH),.d false (.int .i64 aI),.d false (.int .i64 aL),.d false (.sl aM),.d false (.sl aN),.d false (.sl aQ),.d false (.sl aU)]]):=lf_eq λL0 v=>by kernel_rfl
theorem YaA.ok (k:Nat):Zas Tryz.prog 24 (YaA.e k):=ent_ok (YaA.p k) mix tyok Tryz.func24 trivial Kr (λaB aA aC aD aE aJ aK a1=>Eq.trans Kr (congrArg (YaA.m k aB aA aC aD aE aJ aK a1 (λz0=>some z0)) (funext λaF=>funext λaH=>funext λaI=>funext λaL=>funext λaM=>funext λaN=>funext λaQ=>funext λaU=>funext λv=>YaA.l0_eq k aB aA aC aD aE aJ aK a1 aF aH aI aL aM aN aQ aU k v) :))
noncomputable def YbH.g {β:Type} (k:Nat) (aB:Int) (aA:BA) (aC aD aE aP:Int) (aO:BA) (aR aS aT:Int) (K:Bool->Option β):Option β:=
 bif(decide ((aB:Int)<aP)) then(K true) else(bif((aB:Int)==aP) then(K (Za3 aA aO)) else(K false))
noncomputable def YbH.t (k:Nat) (aB:Int) (aA:BA) (aC aD aE aP:Int) (aO:BA) (aR aS aT:Int):=YbH.g k aB aA aC aD aE aP aO aR aS aT (λz0=>some z0)
noncomputable def YbH.e (k:Nat):Za0:=ent [.agg [.n,.s,.n,.n,.n],.agg [.n,.s,.n,.n,.n]] [1] [.b] [4] false (YbH.t k)
noncomputable def YbH.p (k:Nat):Pro:=⟨Tryz.prog,[],hints [] false [],k⟩
theorem YbH.ok (k:Nat):Zas Tryz.prog 25 (YbH.e k):=ent_ok (YbH.p k) mix tyok Tryz.func25 trivial Kr (λaB aA aC aD aE aP aO aR aS aT=>Ks)
noncomputable def YaH.l0 {β:Type} (k:Nat) (aG aH aI:Int) (aL aM aN aQ:LD) (K:Bool->Option β) (L0:Int->Option β) (v:Int):Option β:=
 match v with
 |aF=>bif(decide ((aF:Int)<(aN.length:Int))) then(atR aN aF [.n,.s,.n,.n,.n] λx484 x487 x490 x493 x496=>(bd1 (YaQ.t k aG aH aI aL aM aN aQ x484) (λy497=>bif(decide ((y497:Int)<0)) then(K false) else(bd1 (YaA.t k aG aH aI aL aM aN aQ x487) (λy498=>bif(decide ((y498:Int)<0)) then(K false) else(bd1 (Yy.t k x490 0 10000) (λy499=>bif(!y499) then(K false) else(bd1 (Yy.t k x493 0 10000) (λy500=>bif(!y500) then(K false) else(bd1 (Yy.t k x496 0 aG) (λy501=>bif(!y501) then(K false) else(bif(!(((x496:Int)==0)==(decide ((x490:Int)>0)))) then(K false) else(bif(decide ((aF:Int)>0)) then(atR aN (IntKind.wrap .i64 (aF-1)) [.n,.s,.n,.n,.n] λx505 x508 x511 x514 x517=>(bd1 (YbH.t k x505 x508 x511 x514 x517 x484 x487 x490 x493 x496) (λy518=>bif(!y518) then(K false) else(L0 (IntKind.wrap .i64 (aF+1)))))) else(L0 (IntKind.wrap .i64 (aF+1)))))))))))))))) else(K true)
noncomputable def YaH.m {β:Type} (k:Nat) (aB aA aC:Int) (aD aE aJ aK:LD) (K:Bool->Option β) (F:(Int->Int->Int->LD->LD->LD->LD->Int->Option β)):Option β:=
 bd1 (Yy.t k aB 0 1000000) (λy1=>bif(!y1) then(K false) else(bd1 (Yy.t k aA 1 1000000) (λy2=>bif(!y2) then(K false) else(bd1 (Yy.t k aC 0 1000000) (λy3=>bif(!y3) then(K false) else(bd1 (Yaj.t k aB aA aC aD aE aJ aK) (λy131=>bif(!y131) then(K false) else(bd1 (YaB.t k aB aA aC aD aE aJ aK) (λy442=>bif(!y442) then(K false) else(F aB aA aC aD aE aJ aK (0)))))))))))
noncomputable def YaH.g {β:Type} (k:Nat) (aB aA aC:Int) (aD aE aJ aK:LD) (K:Bool->Option β):Option β:=YaH.m k aB aA aC aD aE aJ aK K (λaG aH aI aL aM aN aQ=>Za1 (YaH.l0 k aG aH aI aL aM aN aQ K) k)
noncomputable def YaH.t (k:Nat) (aB aA aC:Int) (aD aE aJ aK:LD):=YaH.g k aB aA aC aD aE aJ aK (λz0=>some z0)
noncomputable def YaH.e (k:Nat):Za0:=ent [.agg [.n,.n,.n,.l,.l,.l,.l]] [1] [.b] [4] false (YaH.t k)
noncomputable def YaH.p (k:Nat):Pro:=⟨Tryz.prog,[(20,Yy.e k),(21,Yaj.e k),(22,YaB.e k),(23,YaQ.e k),(24,YaA.e k),(25,YbH.e k)],hints [(4,kp [1,3])] false [],k⟩
theorem YaH.l0_eq (k:Nat) (aB aA aC:Int) (aD aE aJ aK:LD) (aG aH aI:Int) (aL aM aN aQ:LD):LpEq ((YaH.p k).lf Tryz.f6 4 [1,1,0,1,0] [.agg [.int .i64 aB,.int .i64 aA,.int .i64 aC,.sl aD,.sl aE,.sl aJ,.sl aK]] [1] [.b]) (YaH.l0 k aG aH aI aL aM aN aQ (λz0=>some z0)) (λaF=>mkSt 99 [(1,.bp 0 0),(3,.d true (.int .i64 aF))] [.box none 34 [.d false (.int .i64 aG),.d false (.int .i64 aH),.d false (.int .i64 aI),.d false (.sl aL),.d false (.sl aM),.d false (.sl aN),.d false (.sl aQ)]]):=lf_eq λL0 v=>by kernel_rfl
theorem YaH.ok (k:Nat):Zas Tryz.prog 6 (YaH.e k):=ent_ok (YaH.p k) mix tyok Tryz.func6 ⟨Yy.ok k,Yaj.ok k,YaB.ok k,YaQ.ok k,YaA.ok k,YbH.ok k⟩ Kr (λaB aA aC aD aE aJ aK=>Eq.trans Kr (congrArg (YaH.m k aB aA aC aD aE aJ aK (λz0=>some z0)) (funext λaG=>funext λaH=>funext λaI=>funext λaL=>funext λaM=>funext λaN=>funext λaQ=>funext λv=>YaH.l0_eq k aB aA aC aD aE aJ aK aG aH aI aL aM aN aQ k v) :))
noncomputable def YX.g {β:Type} (k:Nat) (a0 a1 a2:Int) (K:Bool->Option β):Option β:=
 bif(decide ((a0:Int)>=a1)) then(K (decide ((a0:Int)<=a2))) else(K false)
noncomputable def YX.t (k:Nat) (a0 a1 a2:Int):=YX.g k a0 a1 a2 (λz0=>some z0)
noncomputable def YX.e (k:Nat):Za0:=ent [.d .n,.d .n,.d .n] [1] [.b] [4] false (YX.t k)
noncomputable def YX.p (k:Nat):Pro:=⟨Tryz.prog,[],hints [] false [],k⟩
theorem YX.ok (k:Nat):Zas Tryz.prog 30 (YX.e k):=ent_ok (YX.p k) mix tyok Tryz.func30 trivial Kr (λa0 a1 a2=>Ks)
noncomputable def YI.l0 {β:Type} (k:Nat) (aF:BA) (aG:Int) (K:Bool->Option β) (L0:Int->Option β) (v:Int):Option β:=
 match v with
 |aH=>bif(decide ((aH:Int)<aG)) then(atStr aF aH λb5=>let J1:=(bif((b5:Int)!=45) then(K false) else(L0 (IntKind.wrap .i64 (aH+1))));let J0:=(bif(decide ((b5:Int)<48)) then J1 else(bif(decide ((b5:Int)>57)) then J1 else(L0 (IntKind.wrap .i64 (aH+1)))));bif(decide ((b5:Int)<97)) then J0 else(bif(decide ((b5:Int)>122)) then J0 else(L0 (IntKind.wrap .i64 (aH+1))))) else(bd1 (YX.t k (aF.size:Int) 1 20) (λy6=>bif y6 then(atStr aF 0 λb7=>bif((b7:Int)!=45) then(atStr aF (IntKind.wrap .i64 ((aF.size:Int)-1)) λb8=>K ((b8:Int)!=45)) else(K false)) else(K false)))
noncomputable def YI.m {β:Type} (k:Nat) (a0:BA) (K:Bool->Option β) (F:(BA->Int->Int->Option β)):Option β:=
 F a0 (a0.size:Int) (0)
noncomputable def YI.g {β:Type} (k:Nat) (a0:BA) (K:Bool->Option β):Option β:=
 Za1 (YI.l0 k a0 (a0.size:Int) K) k (0)
noncomputable def YI.t (k:Nat) (a0:BA):=YI.g k a0 (λz0=>some z0)
noncomputable def YI.e (k:Nat):Za0:=ent [.d .s] [1] [.b] [4] false (YI.t k)
noncomputable def YI.p (k:Nat):Pro:=⟨Tryz.prog,[(30,YX.e k)],hints [(2,kp [0,6,7])] false [],k⟩
theorem YI.l0_eq (k:Nat) (a0 aF:BA) (aG:Int):LpEq ((YI.p k).lf Tryz.f65 2 [1,0,1,0] [.d (.str a0)] [1] [.b]) (YI.l0 k aF aG (λz0=>some z0)) (λaH=>mkSt 48 [(0,.d false (.str aF)),(6,.d true (.int .i64 aG)),(7,.d true (.int .i64 aH))] []):=lf_eq λL0 v=>by kernel_rfl
theorem YI.ok (k:Nat):Zas Tryz.prog 65 (YI.e k):=ent_ok (YI.p k) mix tyok Tryz.func65 (YX.ok k) Kr (λa0=>Eq.trans Kr (congrArg (YI.m k a0 (λz0=>some z0)) (funext λaF=>funext λaG=>funext λv=>YI.l0_eq k a0 aF aG k v) :))
noncomputable def YK.l0 {β:Type} (k:Nat) (aF:LD) (aG:Int) (aH:LD) (aI:Int) (K:Bool->Option β) (L0:Int->Option β) (v:Int):Option β:=
 match v with
 |aL=>bif(decide ((aL:Int)<aI)) then(atR aH aL [.s] λx17=>(bd1 (YI.t k x17) (λy18=>bif(!y18) then(K false) else(bif(decide ((aL:Int)>0)) then(atR aF (IntKind.wrap .i64 (aL-1)) [.s] λx22=>(bif(!(Za3 x22 x17)) then(K false) else(L0 (IntKind.wrap .i64 (aL+1))))) else(L0 (IntKind.wrap .i64 (aL+1))))))) else(K (decide (((aF.length:Int):Int)<=aG)))
noncomputable def YK.m {β:Type} (k:Nat) (a0:LD) (a1:Int) (K:Bool->Option β) (F:(LD->Int->LD->Int->Int->Option β)):Option β:=
 F a0 a1 a0 (a0.length:Int) (0)
noncomputable def YK.g {β:Type} (k:Nat) (a0:LD) (a1:Int) (K:Bool->Option β):Option β:=
 Za1 (YK.l0 k a0 a1 a0 (a0.length:Int) K) k (0)
noncomputable def YK.t (k:Nat) (a0:LD) (a1:Int):=YK.g k a0 a1 (λz0=>some z0)
noncomputable def YK.e (k:Nat):Za0:=ent [.d .l,.d .n] [1] [.b] [4] false (YK.t k)
noncomputable def YK.p (k:Nat):Pro:=⟨Tryz.prog,[(65,YI.e k)],hints [(2,kp [0,1,7,8,9])] false [],k⟩
theorem YK.l0_eq (k:Nat) (a0:LD) (a1:Int) (aF:LD) (aG:Int) (aH:LD) (aI:Int):LpEq ((YK.p k).lf Tryz.f31 2 [1,0,1,0] [.d (.sl a0),.d (.int .i64 a1)] [1] [.b]) (YK.l0 k aF aG aH aI (λz0=>some z0)) (λaL=>mkSt 35 [(0,.d false (.sl aF)),(1,.d false (.int .i64 aG)),(7,.d false (.sl aH)),(8,.d true (.int .i64 aI)),(9,.d true (.int .i64 aL))] []):=lf_eq λL0 v=>by kernel_rfl
theorem YK.ok (k:Nat):Zas Tryz.prog 31 (YK.e k):=ent_ok (YK.p k) mix tyok Tryz.func31 (YI.ok k) Kr (λa0 a1=>Eq.trans Kr (congrArg (YK.m k a0 a1 (λz0=>some z0)) (funext λaF=>funext λaG=>funext λaH=>funext λaI=>funext λv=>YK.l0_eq k a0 a1 aF aG aH aI k v) :))
noncomputable def YbJ.g {β:Type} (k:Nat) (aB:Int) (aA:BA) (aC:Int) (aD aE aJ:LD) (aK:Int) (bI:BA) (bJ:Int) (bF bG bH:LD) (bK:Bool) (f0_0:BA) (K:Bool->Option β):Option β:=
 K (ZP aA f0_0)
noncomputable def YbJ.t (k:Nat) (aB:Int) (aA:BA) (aC:Int) (aD aE aJ:LD) (aK:Int) (bI:BA) (bJ:Int) (bF bG bH:LD) (bK:Bool) (f0_0:BA):=YbJ.g k aB aA aC aD aE aJ aK bI bJ bF bG bH bK f0_0 (λz0=>some z0)
noncomputable def YbJ.e (k:Nat):Za0:=ent [.agg [.n,.s,.n,.l,.l,.l,.n,.s,.n,.l,.l,.l,.b],.ip [.s]] [1] [.b] [4] false (YbJ.t k)
noncomputable def YbJ.p (k:Nat):Pro:=⟨Tryz.prog,[],hints [] false [],k⟩
theorem YbJ.ok (k:Nat):Zas Tryz.prog 102 (YbJ.e k):=ent_ok (YbJ.p k) mix tyok Tryz.func102 trivial Kr (λaB aA aC aD aE aJ aK bI bJ bF bG bH bK f0_0=>Ks)
noncomputable def Yk.l0 {β:Type} (k:Nat) (aF:LD) (aG:BA) (aH:Int) (K L0:Int->Option β) (v:Int):Option β:=
 match v with
 |aI=>bif(decide ((aI:Int)<aH)) then(atR aF aI [.n,.s,.n,.l,.l,.l,.n,.s,.n,.l,.l,.l,.b] λx45 x48 x51 x54 x57 x60 x63 x66 x69 x72 x75 x78 x81=>(bd1 (YbJ.t k x45 x48 x51 x54 x57 x60 x63 x66 x69 x72 x75 x78 x81 aG) (λy82=>bif y82 then(K aI) else(L0 (IntKind.wrap .i64 (aI+1)))))) else(K (-1))
noncomputable def Yk.m {β:Type} (k:Nat) (a0:LD) (a1_0_0:BA) (K:Int->Option β) (F:(LD->BA->Int->Int->Option β)):Option β:=
 F a0 a1_0_0 (a0.length:Int) (0)
noncomputable def Yk.g {β:Type} (k:Nat) (a0:LD) (a1_0_0:BA) (K:Int->Option β):Option β:=
 Za1 (Yk.l0 k a0 a1_0_0 (a0.length:Int) K) k (0)
noncomputable def Yk.t (k:Nat) (a0:LD) (a1_0_0:BA):=Yk.g k a0 a1_0_0 (λz0=>some z0)
noncomputable def Yk.e (k:Nat):Za0:=ent [.d .l,.fn 102 [[.s]]] [1] [.n] [3] false (Yk.t k)
noncomputable def Yk.p (k:Nat):Pro:=⟨Tryz.prog,[(102,YbJ.e k)],hints [(2,kp [0,1,7,8])] false [],k⟩
theorem Yk.l0_eq (k:Nat) (a0:LD) (a1_0_0:BA) (aF:LD) (aG:BA) (aH:Int):LpEq ((Yk.p k).lf Tryz.f84 2 [1,0,1,0] [.d (.sl a0),.d (.fn 102 [[.str a1_0_0]])] [1] [.n]) (Yk.l0 k aF aG aH (λz0=>some z0)) (λaI=>mkSt 19 [(0,.d false (.sl aF)),(1,.d false (.fn 102 [[.str aG]])),(7,.d true (.int .i64 aH)),(8,.d true (.int .i64 aI))] []):=lf_eq λL0 v=>by kernel_rfl
theorem Yk.ok (k:Nat):Zas Tryz.prog 84 (Yk.e k):=ent_ok (Yk.p k) mix tyok Tryz.func84 (YbJ.ok k) Kr (λa0 a1_0_0=>Eq.trans Kr (congrArg (Yk.m k a0 a1_0_0 (λz0=>some z0)) (funext λaF=>funext λaG=>funext λaH=>funext λv=>Yk.l0_eq k a0 a1_0_0 aF aG aH k v) :))
noncomputable def Yb4.g {β:Type} (k:Nat) (aB aA aC:Int) (aD aE aJ aK:LD) (a1:BA) (K:Int->Option β):Option β:=
 bd1 (Yk.t k aD a1) (λy83=>K y83)
noncomputable def Yb4.t (k:Nat) (aB aA aC:Int) (aD aE aJ aK:LD) (a1:BA):=Yb4.g k aB aA aC aD aE aJ aK a1 (λz0=>some z0)
noncomputable def Yb4.e (k:Nat):Za0:=ent [.agg [.n,.n,.n,.l,.l,.l,.l],.d .s] [1] [.n] [3] false (Yb4.t k)
noncomputable def Yb4.p (k:Nat):Pro:=⟨Tryz.prog,[(84,Yk.e k)],hints [] false [],k⟩
theorem Yb4.ok (k:Nat):Zas Tryz.prog 66 (Yb4.e k):=ent_ok (Yb4.p k) mix tyok Tryz.func66 (Yk.ok k) Kr (λaB aA aC aD aE aJ aK a1=>Ks)
noncomputable def Yax.g {β:Type} (k:Nat) (a0:Int) (K:Bool->Option β):Option β:=
 bd1 (YX.t k a0 0 10000) (λy1=>K y1)
noncomputable def Yax.t (k:Nat) (a0:Int):=Yax.g k a0 (λz0=>some z0)
noncomputable def Yax.e (k:Nat):Za0:=ent [.d .n] [1] [.b] [4] false (Yax.t k)
noncomputable def Yax.p (k:Nat):Pro:=⟨Tryz.prog,[(30,YX.e k)],hints [] false [],k⟩
theorem Yax.ok (k:Nat):Zas Tryz.prog 71 (Yax.e k):=ent_ok (Yax.p k) mix tyok Tryz.func71 (YX.ok k) Kr (λa0=>Ks)
noncomputable def YbT.g {β:Type} (k:Nat) (aB:Int) (aA:BA) (aC:LD) (K:Bool->Option β):Option β:=
 bif((aB:Int)==1) then(bif((aB:Int)==1) then(bif(((aC.length:Int):Int)==1) then(bd1 (YI.t k aA) (λy1=>bif y1 then(bd1 (YK.t k aC 6) (λy2=>K y2)) else(K false))) else(K false)) else(bif((aB:Int)==3) then(bif(decide (((aC.length:Int):Int)>=1)) then(bd1 (YI.t k aA) (λy3=>bif y3 then(bd1 (YK.t k aC 6) (λy4=>K y4)) else(K false))) else(K false)) else(bif((aB:Int)==4) then(bif((aB:Int)==4) then(bif(((aC.length:Int):Int)==0) then(bd1 (YI.t k aA) (λy5=>bif y5 then(bd1 (YK.t k aC 6) (λy6=>K y6)) else(K false))) else(K false)) else(K false)) else(bif((aB:Int)==5) then(bif(((aC.length:Int):Int)==0) then(bd1 (YI.t k aA) (λy7=>bif y7 then(bd1 (YK.t k aC 6) (λy8=>K y8)) else(K false))) else(K false)) else(K false))))) else(bif((aB:Int)==2) then(bif(((aC.length:Int):Int)==1) then(bd1 (YI.t k aA) (λy9=>bif y9 then(bd1 (YK.t k aC 6) (λy10=>K y10)) else(K false))) else(K false)) else(bif((aB:Int)==3) then(bif(decide (((aC.length:Int):Int)>=1)) then(bd1 (YI.t k aA) (λy11=>bif y11 then(bd1 (YK.t k aC 6) (λy12=>K y12)) else(K false))) else(K false)) else(bif((aB:Int)==4) then(bif((aB:Int)==4) then(bif(((aC.length:Int):Int)==0) then(bd1 (YI.t k aA) (λy13=>bif y13 then(bd1 (YK.t k aC 6) (λy14=>K y14)) else(K false))) else(K false)) else(K false)) else(bif((aB:Int)==5) then(bif(((aC.length:Int):Int)==0) then(bd1 (YI.t k aA) (λy15=>bif y15 then(bd1 (YK.t k aC 6) (λy16=>K y16)) else(K false))) else(K false)) else(K false)))))
noncomputable def YbT.t (k:Nat) (aB:Int) (aA:BA) (aC:LD):=YbT.g k aB aA aC (λz0=>some z0)
noncomputable def YbT.e (k:Nat):Za0:=ent [.agg [.n,.s,.l]] [1] [.b] [4] false (YbT.t k)
noncomputable def YbT.p (k:Nat):Pro:=⟨Tryz.prog,[(65,YI.e k),(31,YK.e k)],hints [] false [],k⟩
theorem YbT.ok (k:Nat):Zas Tryz.prog 139 (YbT.e k):=ent_ok (YbT.p k) mix tyok Tryz.func139 ⟨YI.ok k,YK.ok k⟩ Kr (λaB aA aC=>Ks)
noncomputable def YaS.g {β:Type} (k:Nat) (aB:Int) (aA:BA) (aC:LD) (K:Bool->Option β):Option β:=
 bd1 (YbT.t k aB aA aC) (λy17=>K (!y17))
noncomputable def YaS.t (k:Nat) (aB:Int) (aA:BA) (aC:LD):=YaS.g k aB aA aC (λz0=>some z0)
noncomputable def YaS.e (k:Nat):Za0:=ent [.agg [.n,.s,.l]] [1] [.b] [4] false (YaS.t k)
noncomputable def YaS.p (k:Nat):Pro:=⟨Tryz.prog,[(139,YbT.e k)],hints [] false [],k⟩
theorem YaS.ok (k:Nat):Zas Tryz.prog 138 (YaS.e k):=ent_ok (YaS.p k) mix tyok Tryz.func138 (YbT.ok k) Kr (λaB aA aC=>Ks)
noncomputable def Yf.l0 {β:Type} (k:Nat) (aF:LD) (aG:Int) (K L0:Int->Option β) (v:Int):Option β:=
 match v with
 |aH=>bif(decide ((aH:Int)<aG)) then(atR aF aH [.n,.s,.l] λx22 x25 x28=>(bd1 (YaS.t k x22 x25 x28) (λy29=>bif y29 then(K aH) else(L0 (IntKind.wrap .i64 (aH+1)))))) else(K (-1))
noncomputable def Yf.m {β:Type} (k:Nat) (a0:LD) (K:Int->Option β) (F:(LD->Int->Int->Option β)):Option β:=
 F a0 (a0.length:Int) (0)
noncomputable def Yf.g {β:Type} (k:Nat) (a0:LD) (K:Int->Option β):Option β:=
 Za1 (Yf.l0 k a0 (a0.length:Int) K) k (0)
noncomputable def Yf.t (k:Nat) (a0:LD):=Yf.g k a0 (λz0=>some z0)
noncomputable def Yf.e (k:Nat):Za0:=ent [.d .l,.fn 138 []] [1] [.n] [3] false (Yf.t k)
noncomputable def Yf.p (k:Nat):Pro:=⟨Tryz.prog,[(138,YaS.e k)],hints [(2,kp [0,1,7,8])] false [],k⟩
theorem Yf.l0_eq (k:Nat) (a0 aF:LD) (aG:Int):LpEq ((Yf.p k).lf Tryz.f166 2 [1,0,1,0] [.d (.sl a0),.d (.fn 138 [])] [1] [.n]) (Yf.l0 k aF aG (λz0=>some z0)) (λaH=>mkSt 19 [(0,.d false (.sl aF)),(1,.d false (.fn 138 [])),(7,.d true (.int .i64 aG)),(8,.d true (.int .i64 aH))] []):=lf_eq λL0 v=>by kernel_rfl
theorem Yf.ok (k:Nat):Zas Tryz.prog 166 (Yf.e k):=ent_ok (Yf.p k) mix tyok Tryz.func166 (YaS.ok k) Kr (λa0=>Eq.trans Kr (congrArg (Yf.m k a0 (λz0=>some z0)) (funext λaF=>funext λaG=>funext λv=>Yf.l0_eq k a0 aF aG k v) :))
noncomputable def Yp.g {β:Type} (k:Nat) (a0:LD) (K:Bool->Option β):Option β:=
 bd1 (Yf.t k a0) (λy30=>K (decide ((y30:Int)>=0)))
noncomputable def Yp.t (k:Nat) (a0:LD):=Yp.g k a0 (λz0=>some z0)
noncomputable def Yp.e (k:Nat):Za0:=ent [.d .l,.fn 138 []] [1] [.b] [4] false (Yp.t k)
noncomputable def Yp.p (k:Nat):Pro:=⟨Tryz.prog,[(166,Yf.e k)],hints [] false [],k⟩
theorem Yp.ok (k:Nat):Zas Tryz.prog 137 (Yp.e k):=ent_ok (Yp.p k) mix tyok Tryz.func137 (Yf.ok k) Kr (λa0=>Ks)
noncomputable def Ya0.g {β:Type} (k:Nat) (a0:LD) (K:Bool->Option β):Option β:=
 bif(decide (((a0.length:Int):Int)<=8)) then(bd1 (Yp.t k a0) (λy31=>K (!y31))) else(K false)
noncomputable def Ya0.t (k:Nat) (a0:LD):=Ya0.g k a0 (λz0=>some z0)
noncomputable def Ya0.e (k:Nat):Za0:=ent [.d .l] [1] [.b] [4] false (Ya0.t k)
noncomputable def Ya0.p (k:Nat):Pro:=⟨Tryz.prog,[(137,Yp.e k)],hints [] false [],k⟩
theorem Ya0.ok (k:Nat):Zas Tryz.prog 103 (Ya0.e k):=ent_ok (Ya0.p k) mix tyok Tryz.func103 (Yp.ok k) Kr (λa0=>Ks)
noncomputable def YaK.l0 {β:Type} (k:Nat) (aF:LD) (aG aI:Int) (aL aM aN:LD) (K:Bool->Option β) (L0:Int->Option β) (v:Int):Option β:=
 match v with
 |aH=>bif(decide ((aH:Int)<aG)) then(atR aF aH [.s,.n] λx37 x40=>(bd1 (YI.t k x37) (λy41=>bif(!y41) then(K false) else(bd1 (YX.t k x40 0 1000) (λy42=>bif(!y42) then(K false) else(bif(decide ((aH:Int)>0)) then(atR aN (IntKind.wrap .i64 (aH-1)) [.s,.n] λx46 x49=>(bif(!(Za3 x46 x37)) then(K false) else(L0 (IntKind.wrap .i64 (aH+1))))) else(L0 (IntKind.wrap .i64 (aH+1))))))))) else(bd1 (Yax.t k aI) (λy50=>bif y50 then(bd1 (Ya0.t k aL) (λy51=>bif y51 then(bd1 (YK.t k aM 8) (λy52=>bif y52 then(K (decide (((aN.length:Int):Int)<=12))) else(K false))) else(K false))) else(K false)))
noncomputable def YaK.m {β:Type} (k:Nat) (aB:Int) (aA aC aD:LD) (K:Bool->Option β) (F:(LD->Int->Int->LD->LD->LD->Int->Option β)):Option β:=
 F aD (aD.length:Int) aB aA aC aD (0)
noncomputable def YaK.g {β:Type} (k:Nat) (aB:Int) (aA aC aD:LD) (K:Bool->Option β):Option β:=
 Za1 (YaK.l0 k aD (aD.length:Int) aB aA aC aD K) k (0)
noncomputable def YaK.t (k:Nat) (aB:Int) (aA aC aD:LD):=YaK.g k aB aA aC aD (λz0=>some z0)
noncomputable def YaK.e (k:Nat):Za0:=ent [.agg [.n,.l,.l,.l]] [1] [.b] [4] false (YaK.t k)
noncomputable def YaK.p (k:Nat):Pro:=⟨Tryz.prog,[(65,YI.e k),(30,YX.e k),(71,Yax.e k),(103,Ya0.e k),(31,YK.e k)],hints [(2,kp [1,6,7,8])] false [],k⟩
theorem YaK.l0_eq (k:Nat) (aB:Int) (aA aC aD aF:LD) (aG aI:Int) (aL aM aN:LD):LpEq ((YaK.p k).lf Tryz.f67 2 [1,0,1,0] [.agg [.int .i64 aB,.sl aA,.sl aC,.sl aD]] [1] [.b]) (YaK.l0 k aF aG aI aL aM aN (λz0=>some z0)) (λaH=>mkSt 59 [(1,.bp 0 0),(6,.d false (.sl aF)),(7,.d true (.int .i64 aG)),(8,.d true (.int .i64 aH))] [.box none 70 [.d false (.int .i64 aI),.d false (.sl aL),.d false (.sl aM),.d false (.sl aN)]]):=lf_eq λL0 v=>by kernel_rfl
theorem YaK.ok (k:Nat):Zas Tryz.prog 67 (YaK.e k):=ent_ok (YaK.p k) mix tyok Tryz.func67 ⟨YI.ok k,YX.ok k,Yax.ok k,Ya0.ok k,YK.ok k⟩ Kr (λaB aA aC aD=>Eq.trans Kr (congrArg (YaK.m k aB aA aC aD (λz0=>some z0)) (funext λaF=>funext λaG=>funext λaI=>funext λaL=>funext λaM=>funext λaN=>funext λv=>YaK.l0_eq k aB aA aC aD aF aG aI aL aM aN k v) :))
noncomputable def Y0.l1 {β:Type} (k:Nat) (v1_0:BA) (v1_2:Int) (K:Int->Bool->Option β) (L1:(Int×Int)->Option β) (v:Int×Int):Option β:=
 match v with
 |(v1_1,v1_3)=>bif(decide ((v1_3:Int)<v1_2)) then(atStr v1_0 v1_3 λb11=>bif(decide ((b11:Int)<48)) then(K 0 false) else(atStr v1_0 v1_3 λb12=>bif(decide ((b12:Int)>57)) then(K 0 false) else(atStr v1_0 v1_3 λb13=>L1 (IntKind.wrap .i64 ((IntKind.wrap .i64 (10*v1_1))+(IntKind.wrap .i64 (IntKind.wrap .u8 (b13-48)))),IntKind.wrap .i64 (v1_3+1))))) else(K v1_1 true)
noncomputable def Y0.l0 {β:Type} (k:Nat) (aF:BA) (aH:Int) (K:Int->Bool->Option β) (L0:(Int×Int)->Option β) (v:Int×Int):Option β:=
 match v with
 |(aG,aI)=>bif(decide ((aI:Int)<aH)) then(atStr aF aI λb5=>bif(decide ((b5:Int)<48)) then(K 0 false) else(atStr aF aI λb6=>bif(decide ((b6:Int)>57)) then(K 0 false) else(atStr aF aI λb7=>L0 (IntKind.wrap .i64 ((IntKind.wrap .i64 (10*aG))+(IntKind.wrap .i64 (IntKind.wrap .u8 (b7-48)))),IntKind.wrap .i64 (aI+1))))) else(K aG true)
noncomputable def Y0.m {β:Type} (k:Nat) (a0:BA) (a1:Int) (K:Int->Bool->Option β) (F:(BA->Int->(Int×Int)->Option β)×(BA->Int->(Int×Int)->Option β)):Option β:=
 bif(ZP a0 (⟨#[]⟩:BA)) then(K 0 false) else(bif(decide (((a0.size:Int):Int)>a1)) then(K 0 false) else(atStr a0 0 λb1=>bif((b1:Int)==48) then(bif(decide (((a0.size:Int):Int)>1)) then(K 0 false) else(F.1 a0 (a0.size:Int) (0,0))) else(F.2 a0 (a0.size:Int) (0,0))))
noncomputable def Y0.g {β:Type} (k:Nat) (a0:BA) (a1:Int) (K:Int->Bool->Option β):Option β:=Y0.m k a0 a1 K ((λaF aH=>Za1 (Y0.l0 k aF aH K) k),(λv1_0 v1_2=>Za1 (Y0.l1 k v1_0 v1_2 K) k))
noncomputable def Y0.t (k:Nat) (a0:BA) (a1:Int):=Y0.g k a0 a1 (λz0 z1=>some (z0,z1))
noncomputable def Y0.e (k:Nat):Za0:=ent [.d .s,.d .n] [1,1] [.n,.b] [3,4] false (Y0.t k)
noncomputable def Y0.p (k:Nat):Pro:=⟨Tryz.prog,[],hints [(5,kp [0,6,27,28])] false [],k⟩
noncomputable def Y0.d (k:Nat) (a0:BA) (a1:Int):Ex->St->Option (Int×Bool):=(Y0.p k).fin Tryz.f195 [.d (.str a0),.d (.int .i64 a1)] [1,1] [.n,.b]
theorem Y0.l1_eq (k:Nat) (a0:BA) (a1:Int) (v1_0:BA) (v1_2:Int):LpEq ((Y0.p k).lp (codeOf Tryz.f195) 5 [1,1,1,0,1,0] (Y0.d k a0 a1)) (Y0.l1 k v1_0 v1_2 (λz0 z1=>some (z0,z1))) (λ(v1_1,v1_3)=>mkSt 51 [(0,.d false (.str v1_0)),(6,.d true (.int .i64 v1_1)),(27,.d true (.int .i64 v1_2)),(28,.d true (.int .i64 v1_3))] []):=lp_eq λL1 v=>by obtain⟨v1_1,v1_3⟩:=v;kernel_rfl
theorem Y0.l0_eq (k:Nat) (a0:BA) (a1:Int) (aF:BA) (aH:Int):LpEq ((Y0.p k).lp (codeOf Tryz.f195) 5 [1,1,1,0,1,0] (Y0.d k a0 a1)) (Y0.l0 k aF aH (λz0 z1=>some (z0,z1))) (λ(aG,aI)=>mkSt 51 [(0,.d false (.str aF)),(6,.d true (.int .i64 aG)),(27,.d true (.int .i64 aH)),(28,.d true (.int .i64 aI))] []):=lp_eq λL0 v=>by obtain⟨aG,aI⟩:=v;kernel_rfl
theorem Y0.ok (k:Nat):Zas Tryz.prog 195 (Y0.e k):=ent_ok (Y0.p k) mix tyok Tryz.func195 trivial Kr (λa0 a1=>Eq.trans Kr (congrArg (Y0.m k a0 a1 (λz0 z1=>some (z0,z1))) (pair_eq (funext λaF=>funext λaH=>funext λv=>Y0.l0_eq k a0 a1 aF aH k v) (funext λv1_0=>funext λv1_2=>funext λv=>Y0.l1_eq k a0 a1 v1_0 v1_2 k v)) :))
noncomputable def Ya8.g {β:Type} (k:Nat) (a0:BA) (K:Int->Bool->Option β):Option β:=
 bd2 (Y0.t k a0 9) (λy14 y15=>K y14 y15)
noncomputable def Ya8.t (k:Nat) (a0:BA):=Ya8.g k a0 (λz0 z1=>some (z0,z1))
noncomputable def Ya8.e (k:Nat):Za0:=ent [.d .s] [1,1] [.n,.b] [3,4] false (Ya8.t k)
noncomputable def Ya8.p (k:Nat):Pro:=⟨Tryz.prog,[(195,Y0.e k)],hints [] false [],k⟩
theorem Ya8.ok (k:Nat):Zas Tryz.prog 189 (Ya8.e k):=ent_ok (Ya8.p k) mix tyok Tryz.func189 (Y0.ok k) Kr (λa0=>Ks)
noncomputable def Ybo.g {β:Type} (k:Nat) (a0:BA) (K:Bool->Option β):Option β:=
 bd2 (Ya8.t k a0) (λy16 y17=>K y17)
noncomputable def Ybo.t (k:Nat) (a0:BA):=Ybo.g k a0 (λz0=>some z0)
noncomputable def Ybo.e (k:Nat):Za0:=ent [.d .s] [1] [.b] [4] false (Ybo.t k)
noncomputable def Ybo.p (k:Nat):Pro:=⟨Tryz.prog,[(189,Ya8.e k)],hints [] false [],k⟩
theorem Ybo.ok (k:Nat):Zas Tryz.prog 179 (Ybo.e k):=ent_ok (Ybo.p k) mix tyok Tryz.func179 (Ya8.ok k) Kr (λa0=>Ks)
noncomputable def YbV.g {β:Type} (k:Nat) (a0:BA) (K:Bool->Option β):Option β:=
 bd1 (YI.t k a0) (λy1=>bif(!y1) then(bd1 (Ybo.t k a0) (λy18=>K (!y18))) else(K false))
noncomputable def YbV.t (k:Nat) (a0:BA):=YbV.g k a0 (λz0=>some z0)
noncomputable def YbV.e (k:Nat):Za0:=ent [.d .s] [1] [.b] [4] false (YbV.t k)
noncomputable def YbV.p (k:Nat):Pro:=⟨Tryz.prog,[(65,YI.e k),(179,Ybo.e k)],hints [] false [],k⟩
theorem YbV.ok (k:Nat):Zas Tryz.prog 178 (YbV.e k):=ent_ok (YbV.p k) mix tyok Tryz.func178 ⟨YI.ok k,Ybo.ok k⟩ Kr (λa0=>Ks)
noncomputable def Ym.l0 {β:Type} (k:Nat) (aF:LD) (aG:Int) (K L0:Int->Option β) (v:Int):Option β:=
 match v with
 |aH=>bif(decide ((aH:Int)<aG)) then(atR aF aH [.s] λx23=>(bd1 (YbV.t k x23) (λy24=>bif y24 then(K aH) else(L0 (IntKind.wrap .i64 (aH+1)))))) else(K (-1))
noncomputable def Ym.m {β:Type} (k:Nat) (a0:LD) (K:Int->Option β) (F:(LD->Int->Int->Option β)):Option β:=
 F a0 (a0.length:Int) (0)
noncomputable def Ym.g {β:Type} (k:Nat) (a0:LD) (K:Int->Option β):Option β:=
 Za1 (Ym.l0 k a0 (a0.length:Int) K) k (0)
noncomputable def Ym.t (k:Nat) (a0:LD):=Ym.g k a0 (λz0=>some z0)
noncomputable def Ym.e (k:Nat):Za0:=ent [.d .l,.fn 178 []] [1] [.n] [3] false (Ym.t k)
noncomputable def Ym.p (k:Nat):Pro:=⟨Tryz.prog,[(178,YbV.e k)],hints [(2,kp [0,1,7,8])] false [],k⟩
theorem Ym.l0_eq (k:Nat) (a0 aF:LD) (aG:Int):LpEq ((Ym.p k).lf Tryz.f188 2 [1,0,1,0] [.d (.sl a0),.d (.fn 178 [])] [1] [.n]) (Ym.l0 k aF aG (λz0=>some z0)) (λaH=>mkSt 19 [(0,.d false (.sl aF)),(1,.d false (.fn 178 [])),(7,.d true (.int .i64 aG)),(8,.d true (.int .i64 aH))] []):=lf_eq λL0 v=>by kernel_rfl
theorem Ym.ok (k:Nat):Zas Tryz.prog 188 (Ym.e k):=ent_ok (Ym.p k) mix tyok Tryz.func188 (YbV.ok k) Kr (λa0=>Eq.trans Kr (congrArg (Ym.m k a0 (λz0=>some z0)) (funext λaF=>funext λaG=>funext λv=>Ym.l0_eq k a0 aF aG k v) :))
noncomputable def YG.g {β:Type} (k:Nat) (a0:LD) (K:Bool->Option β):Option β:=
 bd1 (Ym.t k a0) (λy25=>K (decide ((y25:Int)>=0)))
noncomputable def YG.t (k:Nat) (a0:LD):=YG.g k a0 (λz0=>some z0)
noncomputable def YG.e (k:Nat):Za0:=ent [.d .l,.fn 178 []] [1] [.b] [4] false (YG.t k)
noncomputable def YG.p (k:Nat):Pro:=⟨Tryz.prog,[(188,Ym.e k)],hints [] false [],k⟩
theorem YG.ok (k:Nat):Zas Tryz.prog 177 (YG.e k):=ent_ok (YG.p k) mix tyok Tryz.func177 (Ym.ok k) Kr (λa0=>Ks)
noncomputable def Yah.l0 {β:Type} (k:Nat) (aF aG aH:Bool) (aI aM:Int) (aN:BA) (aQ:Int) (aU aV:LD) (K:Bool->Option β) (L0:Int->Option β) (v:Int):Option β:=
 match v with
 |aL=>bif(decide ((aL:Int)<aI)) then(atStr aN aL λb3=>bd1 (YX.t k (IntKind.wrap .i64 b3) 32 126) (λy4=>bif(!y4) then(K false) else(L0 (IntKind.wrap .i64 (aL+1))))) else(bif(decide (((aN.size:Int):Int)<=100)) then(bif aF then(bif aG then(K aH) else(K false)) else(K false)) else(K false))
noncomputable def Yah.m {β:Type} (k:Nat) (aB:Int) (aA:BA) (aC:Int) (aD aE:LD) (K:Bool->Option β) (F:(Bool->Bool->Bool->Int->Int->BA->Int->LD->LD->Int->Option β)):Option β:=
 bif((aB:Int)==1) then(F ((aC:Int)==0) (((aD.length:Int):Int)==0) (((aE.length:Int):Int)==0) (aA.size:Int) aB aA aC aD aE (0)) else(let J0:=(bif(((aD.length:Int):Int)==0) then(K (((aE.length:Int):Int)==0)) else(K false));bif((aB:Int)==2) then(bif(ZP aA (⟨#[]⟩:BA)) then J0 else(K false)) else(bif((aB:Int)==3) then(bd1 (YX.t k aC 0 1) (λy5=>bif(ZP aA (⟨#[]⟩:BA)) then(bif y5 then J0 else(K false)) else(K false))) else(bif((aB:Int)==4) then(bif(ZP aA (⟨#[]⟩:BA)) then(bif((aC:Int)==0) then(bif(((aD.length:Int):Int)==0) then(K true) else(K false)) else(K false)) else(K false)) else(bif((aB:Int)==5) then(bd1 (YK.t k aD 300) (λy6=>bif y6 then(bif(ZP aA (⟨#[]⟩:BA)) then(bif((aC:Int)==0) then(bif(((aD.length:Int):Int)==(aE.length:Int)) then(K true) else(K false)) else(K false)) else(K false)) else(bif(ZP aA (⟨#[]⟩:BA)) then(bif((aC:Int)==0) then(K false) else(K false)) else(K false)))) else(K false)))))
noncomputable def Yah.g {β:Type} (k:Nat) (aB:Int) (aA:BA) (aC:Int) (aD aE:LD) (K:Bool->Option β):Option β:=Yah.m k aB aA aC aD aE K (λaF aG aH aI aM aN aQ aU aV=>Za1 (Yah.l0 k aF aG aH aI aM aN aQ aU aV K) k)
noncomputable def Yah.t (k:Nat) (aB:Int) (aA:BA) (aC:Int) (aD aE:LD):=Yah.g k aB aA aC aD aE (λz0=>some z0)
noncomputable def Yah.e (k:Nat):Za0:=ent [.agg [.n,.s,.n,.l,.l]] [1] [.b] [4] false (Yah.t k)
noncomputable def Yah.p (k:Nat):Pro:=⟨Tryz.prog,[(30,YX.e k),(31,YK.e k)],hints [(6,kp [1,4,5,6,28,29])] false [],k⟩
theorem Yah.l0_eq (k:Nat) (aB:Int) (aA:BA) (aC:Int) (aD aE:LD) (aF aG aH:Bool) (aI aM:Int) (aN:BA) (aQ:Int) (aU aV:LD):LpEq ((Yah.p k).lf Tryz.f151 6 [1,1,0,1,0,1,0,0,1,0] [.agg [.int .i64 aB,.str aA,.int .i64 aC,.sl aD,.sl aE]] [1] [.b]) (Yah.l0 k aF aG aH aI aM aN aQ aU aV (λz0=>some z0)) (λaL=>mkSt 77 [(1,.bp 0 0),(4,.d true (.bool aF)),(5,.d true (.bool aG)),(6,.d true (.bool aH)),(28,.d true (.int .i64 aI)),(29,.d true (.int .i64 aL))] [.box none 64 [.d false (.int .i64 aM),.d false (.str aN),.d false (.int .i64 aQ),.d false (.sl aU),.d false (.sl aV)]]):=lf_eq λL0 v=>by kernel_rfl
theorem Yah.ok (k:Nat):Zas Tryz.prog 151 (Yah.e k):=ent_ok (Yah.p k) mix tyok Tryz.func151 ⟨YX.ok k,YK.ok k⟩ Kr (λaB aA aC aD aE=>Eq.trans Kr (congrArg (Yah.m k aB aA aC aD aE (λz0=>some z0)) (funext λaF=>funext λaG=>funext λaH=>funext λaI=>funext λaM=>funext λaN=>funext λaQ=>funext λaU=>funext λaV=>funext λv=>Yah.l0_eq k aB aA aC aD aE aF aG aH aI aM aN aQ aU aV k v) :))
noncomputable def Yr.l0 {β:Type} (k:Nat) (r_impl_measured:Int->BA->Int->LD->LD->Int->(Int->Option β)->Option β) (aF:Int) (aH:LD) (aI:Int) (K:Int->Option β) (L0:(Int×Int)->Option β) (v:Int×Int):Option β:=
 match v with
 |(aG,aL)=>bif(decide ((aL:Int)<aI)) then(atR aH aL [.n,.s,.n,.l,.l] λx28 x31 x34 x37 x40=>(r_impl_measured x28 x31 x34 x37 x40 (IntKind.wrap .i64 (aF-1)) (λy41=>bif(decide (((IntKind.wrap .i64 (aG+y41)):Int)>300)) then(K 301) else(L0 (IntKind.wrap .i64 (aG+y41),IntKind.wrap .i64 (aL+1)))))) else(K aG)
noncomputable def Yr.m {β:Type} (k:Nat) (r_impl_measured:Int->BA->Int->LD->LD->Int->(Int->Option β)->Option β) (aB:Int) (aA:BA) (aC:Int) (aD aE:LD) (a1:Int) (K:Int->Option β) (F:(Int->LD->Int->(Int×Int)->Option β)):Option β:=
 bif((a1:Int)==0) then(K 301) else(bd1 (Yah.t k aB aA aC aD aE) (λy7=>bif(!y7) then(K 301) else(F a1 aE (aE.length:Int) (1,0))))
noncomputable def Yr.body {β:Type} (k:Nat) (r_impl_measured:Int->BA->Int->LD->LD->Int->(Int->Option β)->Option β) (aB:Int) (aA:BA) (aC:Int) (aD aE:LD) (a1:Int) (K:Int->Option β):Option β:=
 bif((a1:Int)==0) then(K 301) else(bd1 (Yah.t k aB aA aC aD aE) (λy7=>bif(!y7) then(K 301) else(Za1 (Yr.l0 k r_impl_measured a1 aE (aE.length:Int) K) k (1,0))))
noncomputable def Yr.w {β:Type} (r:Int->BA->Int->LD->LD->Int->Option (Int)) (aB:Int) (aA:BA) (aC:Int) (aD aE:LD) (a1:Int) (K:Int->Option β):Option β:=bd1 (r aB aA aC aD aE a1) K
noncomputable def Yr.all:Nat->(Int->BA->Int->LD->LD->Int->Option (Int))
 |0=>(λ_ _ _ _ _ _=>none)
 |k+1=>(λr=>(λaB aA aC aD aE a1=>Yr.body k (Yr.w r) aB aA aC aD aE a1 (λz0=>some z0))) (Yr.all k)
noncomputable def Yr.t (k:Nat) (aB:Int) (aA:BA) (aC:Int) (aD aE:LD) (a1:Int):Option (Int):=(Yr.all k) aB aA aC aD aE a1
noncomputable def Yr.f {β:Type} (k:Nat) (aB:Int) (aA:BA) (aC:Int) (aD aE:LD) (a1:Int) (K:Int->Option β):Option β:=Yr.w (Yr.t k) aB aA aC aD aE a1 K
noncomputable def Yr.g {β:Type} (k:Nat) (aB:Int) (aA:BA) (aC:Int) (aD aE:LD) (a1:Int) (K:Int->Option β):Option β:=Yr.body k (Yr.f k) aB aA aC aD aE a1 K
theorem Yr.t_succ (k:Nat) (aB:Int) (aA:BA) (aC:Int) (aD aE:LD) (a1:Int):Yr.t (k+1) aB aA aC aD aE a1=Yr.g k aB aA aC aD aE a1 (λz0=>some z0):=rfl
noncomputable def Yr.e (k:Nat):Za0:=ent [.agg [.n,.s,.n,.l,.l],.d .n] [1] [.n] [3] false (Yr.t k)
noncomputable def Yr.p (k:Nat):Pro:=⟨Tryz.prog,[(151,Yah.e k),(118,Yr.e k)],hints [(5,kp [1,5,16,17,18])] false [],k⟩
theorem Yr.l0_eq (k:Nat) (aB:Int) (aA:BA) (aC:Int) (aD aE:LD) (a1 aF:Int) (aH:LD) (aI:Int):LpEq ((Yr.p k).lf Tryz.f118 5 [1,1,1,0,1,0] [.agg [.int .i64 aB,.str aA,.int .i64 aC,.sl aD,.sl aE],.d (.int .i64 a1)] [1] [.n]) (Yr.l0 k (Yr.f k) aF aH aI (λz0=>some z0)) (λ(aG,aL)=>mkSt 32 [(1,.d false (.int .i64 aF)),(5,.d true (.int .i64 aG)),(16,.d false (.sl aH)),(17,.d true (.int .i64 aI)),(18,.d true (.int .i64 aL))] []):=lf_eq λL0 v=>by obtain⟨aG,aL⟩:=v;kernel_rfl
theorem Yr.oks (k:Nat):Zas Tryz.prog 118 (Yr.e k):=by
 induction k with
 |zero=>exact ent_zero Tryz.func118 Kr (λ_ _ _ _ _ _=>rfl)
 |succ k ih=>exact ent_ok (Yr.p k) mix tyok Tryz.func118 ⟨Yah.ok k,ih⟩ Kr (λaB aA aC aD aE a1=>Eq.trans Kr ((congrArg (Yr.m k (Yr.f k) aB aA aC aD aE a1 (λz0=>some z0)) (funext λaF=>funext λaH=>funext λaI=>funext λv=>Yr.l0_eq k aB aA aC aD aE a1 aF aH aI k v)).trans (Yr.t_succ k aB aA aC aD aE a1).symm))
theorem Yr.ok (k:Nat):Zas Tryz.prog 118 (Yr.e k):=(Yr.oks k)
noncomputable def Y7.g {β:Type} (k:Nat) (aB:Int) (aA:BA) (aC:Int) (aD aE:LD) (K:Bool->Option β):Option β:=
 Yr.f k aB aA aC aD aE 6 (λy42=>K (decide ((y42:Int)<=300)))
noncomputable def Y7.t (k:Nat) (aB:Int) (aA:BA) (aC:Int) (aD aE:LD):=Y7.g k aB aA aC aD aE (λz0=>some z0)
noncomputable def Y7.e (k:Nat):Za0:=ent [.agg [.n,.s,.n,.l,.l]] [1] [.b] [4] false (Y7.t k)
noncomputable def Y7.p (k:Nat):Pro:=⟨Tryz.prog,[(118,Yr.e k)],hints [] false [],k⟩
theorem Y7.ok (k:Nat):Zas Tryz.prog 79 (Y7.e k):=ent_ok (Y7.p k) mix tyok Tryz.func79 (Yr.ok k) Kr (λaB aA aC aD aE=>Ks)
noncomputable def YU.l0 {β:Type} (k:Nat) (aF aG:LD) (aH:Int) (K:Bool->Option β) (L0:Int->Option β) (v:Int):Option β:=
 match v with
 |aI=>bif(decide ((aI:Int)<aH)) then(atR aF aI [.s] λx12=>(atR aG aI [.s] λx16=>(bif(!(ZP x12 x16)) then(K false) else(L0 (IntKind.wrap .i64 (aI+1)))))) else(K true)
noncomputable def YU.m {β:Type} (k:Nat) (a0 a1:LD) (K:Bool->Option β) (F:(LD->LD->Int->Int->Option β)):Option β:=
 bif(((a0.length:Int):Int)!=(a1.length:Int)) then(K false) else(F a0 a1 (a0.length:Int) (0))
noncomputable def YU.g {β:Type} (k:Nat) (a0 a1:LD) (K:Bool->Option β):Option β:=
 bif(((a0.length:Int):Int)!=(a1.length:Int)) then(K false) else(Za1 (YU.l0 k a0 a1 (a0.length:Int) K) k (0))
noncomputable def YU.t (k:Nat) (a0 a1:LD):=YU.g k a0 a1 (λz0=>some z0)
noncomputable def YU.e (k:Nat):Za0:=ent [.d .l,.d .l] [1] [.b] [4] false (YU.t k)
noncomputable def YU.p (k:Nat):Pro:=⟨Tryz.prog,[],hints [(4,kp [0,1,12,13])] false [],k⟩
theorem YU.l0_eq (k:Nat) (a0 a1 aF aG:LD) (aH:Int):LpEq ((YU.p k).lf Tryz.f181 4 [1,1,0,1,0] [.d (.sl a0),.d (.sl a1)] [1] [.b]) (YU.l0 k aF aG aH (λz0=>some z0)) (λaI=>mkSt 26 [(0,.d false (.sl aF)),(1,.d false (.sl aG)),(12,.d true (.int .i64 aH)),(13,.d true (.int .i64 aI))] []):=lf_eq λL0 v=>by kernel_rfl
theorem YU.ok (k:Nat):Zas Tryz.prog 181 (YU.e k):=ent_ok (YU.p k) mix tyok Tryz.func181 trivial Kr (λa0 a1=>Eq.trans Kr (congrArg (YU.m k a0 a1 (λz0=>some z0)) (funext λaF=>funext λaG=>funext λaH=>funext λv=>YU.l0_eq k a0 a1 aF aG aH k v) :))
end Go.Proofs.YtnfogafklciihaaGreat
