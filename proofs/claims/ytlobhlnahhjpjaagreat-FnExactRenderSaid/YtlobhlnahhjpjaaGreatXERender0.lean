/- Printed: the functions that FnExactRender reaches,read by the evaluator,each with its contract. -/
import Derived.Test.YtlobhlnahhjpjaaGreatTIns
import Derived.Test.YtlobhlnahhjpjaaGreatProg
import Derived.KernelRfl
set_option linter.unusedVariables false
set_option linter.unusedSimpArgs false
namespace Go.Proofs.YtlobhlnahhjpjaaGreat
open Go Go.T Go.Proofs
theorem mix:Tryz.prog.follows .mixedOrders=true:=by kernel_rfl
theorem tyok:Zar Tryz.prog:=tyOk_of (by kernel_rfl)
noncomputable def Yx.l0 {β:Type} (k:Nat) (aF:LD) (K:Int->Option β) (L0:(Int×Int)->Option β) (v:Int×Int):Option β:=
 match v with
 |(aG,aH)=>bif(decide ((aH:Int)<(aF.length:Int))) then(atR aF aH [.s] λx8=>(bif(decide (((IntKind.wrap .i64 (aG-(x8.size:Int))):Int)<0)) then(K (-1)) else(L0 (IntKind.wrap .i64 (aG-(x8.size:Int)),IntKind.wrap .i64 (aH+1))))) else(K aG)
noncomputable def Yx.m {β:Type} (k:Nat) (a0:LD) (a1:Int) (K:Int->Option β) (F:(LD->(Int×Int)->Option β)):Option β:=
 bif(decide (((IntKind.wrap .i64 (a1-(a0.length:Int))):Int)<0)) then(K (-1)) else(F a0 (IntKind.wrap .i64 (a1-(a0.length:Int)),0))
noncomputable def Yx.g {β:Type} (k:Nat) (a0:LD) (a1:Int) (K:Int->Option β):Option β:=
 bif(decide (((IntKind.wrap .i64 (a1-(a0.length:Int))):Int)<0)) then(K (-1)) else(ZA (Yx.l0 k a0 K) k (IntKind.wrap .i64 (a1-(a0.length:Int)),0))
noncomputable def Yx.t (k:Nat) (a0:LD) (a1:Int):Option (Int):=Yx.g k a0 a1 (λz0=>some z0)
noncomputable def Yx.f {β:Type} (k:Nat) (a0:LD) (a1:Int) (K:Int->Option β):Option β:=bd1 (Yx.t k a0 a1) K
noncomputable def Yx.e (k:Nat):Zj:=ent [.d .l,.d .n] [1] [.n] [3] false (Yx.t k)
noncomputable def Yx.p (k:Nat):Pro:=⟨Tryz.prog,[],Zv [(5,kp [0,1,5])] false [],k⟩
noncomputable def Yx.d (k:Nat) (a0:LD) (a1:Int):Ex->St->Option (Int):=(Yx.p k).fin Tryz.f46 [.d (.sl a0),.d (.int .i64 a1)] [1] [.n]
noncomputable def Yx.s0 (aF:LD) (v:Int×Int):St:=
 match v with
 |(aG,aH)=>ZaA 28 [(0,.d false (.sl aF)),(1,.d true (.int .i64 aG)),(5,.d true (.int .i64 aH))] []
noncomputable def Yx.r0 (k:Nat) (a0:LD) (a1:Int) (aF:LD) (n:Nat) (v:Int×Int):Option (Int):=(Yx.p k).lp (ZI Tryz.f46) 5 [1,1,1,0,1,0] (Yx.d k a0 a1) n (Yx.s0 aF v)
theorem Yx.l0_eq (k:Nat) (a0:LD) (a1:Int) (aF:LD):∀ n v,Yx.r0 k a0 a1 aF n v=ZA (Yx.l0 k aF (λz0=>some z0)) n v:=
 Zz (Yx.s0 aF) _ λL0 v=>by obtain⟨aG,aH⟩:=v;kernel_rfl
theorem Yx.ok (k:Nat):Zf Tryz.prog 46 (Yx.e k):=Zk (Yx.p k) mix tyok Tryz.func46 trivial (by kernel_rfl) (λa0 a1=>Eq.trans (b:=Yx.m k a0 a1 (λz0=>some z0) (λaF=>Yx.r0 k a0 a1 aF k)) (by kernel_rfl) (congrArg (Yx.m k a0 a1 (λz0=>some z0)) (funext λaF=>funext λv=>Yx.l0_eq k a0 a1 aF k v) :))
noncomputable def YaK.g {β:Type} (k:Nat) (aB:Int) (aA:BA) (aC:LD) (a1:Int) (K:Int->Option β):Option β:=
 bif(decide (((IntKind.wrap .i64 (a1-(aA.size:Int))):Int)<0)) then(K (-1)) else(Yx.f k aC (IntKind.wrap .i64 (a1-(aA.size:Int))) (λy9=>bif(decide ((y9:Int)<0)) then(K (-1)) else(K y9)))
noncomputable def YaK.t (k:Nat) (aB:Int) (aA:BA) (aC:LD) (a1:Int):Option (Int):=YaK.g k aB aA aC a1 (λz0=>some z0)
noncomputable def YaK.f {β:Type} (k:Nat) (aB:Int) (aA:BA) (aC:LD) (a1:Int) (K:Int->Option β):Option β:=bd1 (YaK.t k aB aA aC a1) K
noncomputable def YaK.e (k:Nat):Zj:=ent [.agg [.n,.s,.l],.d .n] [1] [.n] [3] false (YaK.t k)
noncomputable def YaK.p (k:Nat):Pro:=⟨Tryz.prog,[(46,Yx.e k)],Zv [] false [],k⟩
theorem YaK.ok (k:Nat):Zf Tryz.prog 155 (YaK.e k):=Zk (YaK.p k) mix tyok Tryz.func155 (Yx.ok k) (by kernel_rfl) (λaB aA aC a1=>by show _=_;kernel_rfl)
noncomputable def YY.l0 {β:Type} (k:Nat) (aF:LD) (K:Int->Option β) (L0:(Int×Int)->Option β) (v:Int×Int):Option β:=
 match v with
 |(aG,aH)=>bif(decide ((aH:Int)<(aF.length:Int))) then(atR aF aH [.n,.s,.l] λx15 x18 x21=>(YaK.f k x15 x18 x21 aG (λy22=>bif(decide ((y22:Int)<0)) then(K (-1)) else(L0 (y22,IntKind.wrap .i64 (aH+1)))))) else(K aG)
noncomputable def YY.m {β:Type} (k:Nat) (a0:LD) (a1:Int) (K:Int->Option β) (F:(LD->(Int×Int)->Option β)):Option β:=
 bif(decide (((IntKind.wrap .i64 (a1-(a0.length:Int))):Int)<0)) then(K (-1)) else(F a0 (IntKind.wrap .i64 (a1-(a0.length:Int)),0))
noncomputable def YY.g {β:Type} (k:Nat) (a0:LD) (a1:Int) (K:Int->Option β):Option β:=
 bif(decide (((IntKind.wrap .i64 (a1-(a0.length:Int))):Int)<0)) then(K (-1)) else(ZA (YY.l0 k a0 K) k (IntKind.wrap .i64 (a1-(a0.length:Int)),0))
noncomputable def YY.t (k:Nat) (a0:LD) (a1:Int):Option (Int):=YY.g k a0 a1 (λz0=>some z0)
noncomputable def YY.f {β:Type} (k:Nat) (a0:LD) (a1:Int) (K:Int->Option β):Option β:=bd1 (YY.t k a0 a1) K
noncomputable def YY.e (k:Nat):Zj:=ent [.d .l,.d .n] [1] [.n] [3] false (YY.t k)
noncomputable def YY.p (k:Nat):Pro:=⟨Tryz.prog,[(155,YaK.e k)],Zv [(5,kp [0,1,5])] false [],k⟩
noncomputable def YY.d (k:Nat) (a0:LD) (a1:Int):Ex->St->Option (Int):=(YY.p k).fin Tryz.f122 [.d (.sl a0),.d (.int .i64 a1)] [1] [.n]
noncomputable def YY.s0 (aF:LD) (v:Int×Int):St:=
 match v with
 |(aG,aH)=>ZaA 27 [(0,.d false (.sl aF)),(1,.d true (.int .i64 aG)),(5,.d true (.int .i64 aH))] []
noncomputable def YY.r0 (k:Nat) (a0:LD) (a1:Int) (aF:LD) (n:Nat) (v:Int×Int):Option (Int):=(YY.p k).lp (ZI Tryz.f122) 5 [1,1,1,0,1,0] (YY.d k a0 a1) n (YY.s0 aF v)
theorem YY.l0_eq (k:Nat) (a0:LD) (a1:Int) (aF:LD):∀ n v,YY.r0 k a0 a1 aF n v=ZA (YY.l0 k aF (λz0=>some z0)) n v:=
 Zz (YY.s0 aF) _ λL0 v=>by obtain⟨aG,aH⟩:=v;kernel_rfl
theorem YY.ok (k:Nat):Zf Tryz.prog 122 (YY.e k):=Zk (YY.p k) mix tyok Tryz.func122 (YaK.ok k) (by kernel_rfl) (λa0 a1=>Eq.trans (b:=YY.m k a0 a1 (λz0=>some z0) (λaF=>YY.r0 k a0 a1 aF k)) (by kernel_rfl) (congrArg (YY.m k a0 a1 (λz0=>some z0)) (funext λaF=>funext λv=>YY.l0_eq k a0 a1 aF k v) :))
noncomputable def YaD.g {β:Type} (k:Nat) (aB:BA) (aA a1:Int) (K:Int->Option β):Option β:=
 bif(decide (((IntKind.wrap .i64 (a1-(aB.size:Int))):Int)<0)) then(K (-1)) else(K (IntKind.wrap .i64 (a1-(aB.size:Int))))
noncomputable def YaD.t (k:Nat) (aB:BA) (aA a1:Int):Option (Int):=YaD.g k aB aA a1 (λz0=>some z0)
noncomputable def YaD.f {β:Type} (k:Nat) (aB:BA) (aA a1:Int) (K:Int->Option β):Option β:=bd1 (YaD.t k aB aA a1) K
noncomputable def YaD.e (k:Nat):Zj:=ent [.agg [.s,.n],.d .n] [1] [.n] [3] false (YaD.t k)
noncomputable def YaD.p (k:Nat):Pro:=⟨Tryz.prog,[],Zv [] false [],k⟩
theorem YaD.ok (k:Nat):Zf Tryz.prog 156 (YaD.e k):=Zk (YaD.p k) mix tyok Tryz.func156 trivial (by kernel_rfl) (λaB aA a1=>by show _=_;kernel_rfl)
noncomputable def YQ.l0 {β:Type} (k:Nat) (aF:LD) (K:Int->Option β) (L0:(Int×Int)->Option β) (v:Int×Int):Option β:=
 match v with
 |(aG,aH)=>bif(decide ((aH:Int)<(aF.length:Int))) then(atR aF aH [.s,.n] λx12 x15=>(YaD.f k x12 x15 aG (λy16=>bif(decide ((y16:Int)<0)) then(K (-1)) else(L0 (y16,IntKind.wrap .i64 (aH+1)))))) else(K aG)
noncomputable def YQ.m {β:Type} (k:Nat) (a0:LD) (a1:Int) (K:Int->Option β) (F:(LD->(Int×Int)->Option β)):Option β:=
 bif(decide (((IntKind.wrap .i64 (a1-(a0.length:Int))):Int)<0)) then(K (-1)) else(F a0 (IntKind.wrap .i64 (a1-(a0.length:Int)),0))
noncomputable def YQ.g {β:Type} (k:Nat) (a0:LD) (a1:Int) (K:Int->Option β):Option β:=
 bif(decide (((IntKind.wrap .i64 (a1-(a0.length:Int))):Int)<0)) then(K (-1)) else(ZA (YQ.l0 k a0 K) k (IntKind.wrap .i64 (a1-(a0.length:Int)),0))
noncomputable def YQ.t (k:Nat) (a0:LD) (a1:Int):Option (Int):=YQ.g k a0 a1 (λz0=>some z0)
noncomputable def YQ.f {β:Type} (k:Nat) (a0:LD) (a1:Int) (K:Int->Option β):Option β:=bd1 (YQ.t k a0 a1) K
noncomputable def YQ.e (k:Nat):Zj:=ent [.d .l,.d .n] [1] [.n] [3] false (YQ.t k)
noncomputable def YQ.p (k:Nat):Pro:=⟨Tryz.prog,[(156,YaD.e k)],Zv [(5,kp [0,1,5])] false [],k⟩
noncomputable def YQ.d (k:Nat) (a0:LD) (a1:Int):Ex->St->Option (Int):=(YQ.p k).fin Tryz.f123 [.d (.sl a0),.d (.int .i64 a1)] [1] [.n]
noncomputable def YQ.s0 (aF:LD) (v:Int×Int):St:=
 match v with
 |(aG,aH)=>ZaA 27 [(0,.d false (.sl aF)),(1,.d true (.int .i64 aG)),(5,.d true (.int .i64 aH))] []
noncomputable def YQ.r0 (k:Nat) (a0:LD) (a1:Int) (aF:LD) (n:Nat) (v:Int×Int):Option (Int):=(YQ.p k).lp (ZI Tryz.f123) 5 [1,1,1,0,1,0] (YQ.d k a0 a1) n (YQ.s0 aF v)
theorem YQ.l0_eq (k:Nat) (a0:LD) (a1:Int) (aF:LD):∀ n v,YQ.r0 k a0 a1 aF n v=ZA (YQ.l0 k aF (λz0=>some z0)) n v:=
 Zz (YQ.s0 aF) _ λL0 v=>by obtain⟨aG,aH⟩:=v;kernel_rfl
theorem YQ.ok (k:Nat):Zf Tryz.prog 123 (YQ.e k):=Zk (YQ.p k) mix tyok Tryz.func123 (YaD.ok k) (by kernel_rfl) (λa0 a1=>Eq.trans (b:=YQ.m k a0 a1 (λz0=>some z0) (λaF=>YQ.r0 k a0 a1 aF k)) (by kernel_rfl) (congrArg (YQ.m k a0 a1 (λz0=>some z0)) (funext λaF=>funext λv=>YQ.l0_eq k a0 a1 aF k v) :))
noncomputable def YaJ.g {β:Type} (k:Nat) (aB:Int) (aA aC aD:LD) (a1:Int) (K:Int->Option β):Option β:=
 YY.f k aA a1 (λy23=>bif(decide ((y23:Int)<0)) then(K (-1)) else(Yx.f k aC y23 (λy24=>bif(decide ((y24:Int)<0)) then(K (-1)) else(YQ.f k aD y24 (λy25=>bif(decide ((y25:Int)<0)) then(K (-1)) else(K y25))))))
noncomputable def YaJ.t (k:Nat) (aB:Int) (aA aC aD:LD) (a1:Int):Option (Int):=YaJ.g k aB aA aC aD a1 (λz0=>some z0)
noncomputable def YaJ.f {β:Type} (k:Nat) (aB:Int) (aA aC aD:LD) (a1:Int) (K:Int->Option β):Option β:=bd1 (YaJ.t k aB aA aC aD a1) K
noncomputable def YaJ.e (k:Nat):Zj:=ent [.agg [.n,.l,.l,.l],.d .n] [1] [.n] [3] false (YaJ.t k)
noncomputable def YaJ.p (k:Nat):Pro:=⟨Tryz.prog,[(122,YY.e k),(46,Yx.e k),(123,YQ.e k)],Zv [] false [],k⟩
theorem YaJ.ok (k:Nat):Zf Tryz.prog 67 (YaJ.e k):=Zk (YaJ.p k) mix tyok Tryz.func67 ⟨YY.ok k,Yx.ok k,YQ.ok k⟩ (by kernel_rfl) (λaB aA aC aD a1=>by show _=_;kernel_rfl)
noncomputable def Yz.l0 {β:Type} (k:Nat) (r_laws_szValueS:LD->Int->(Int->Option β)->Option β) (r_laws_szValue:Int->BA->Int->LD->LD->Int->(Int->Option β)->Option β) (aF:LD) (K:Int->Option β) (L0:(Int×Int)->Option β) (v:Int×Int):Option β:=
 match v with
 |(aG,aH)=>bif(decide ((aH:Int)<(aF.length:Int))) then(atR aF aH [.n,.s,.n,.l,.l] λx21 x24 x27 x30 x33=>(r_laws_szValue x21 x24 x27 x30 x33 aG (λy34=>bif(decide ((y34:Int)<0)) then(K (-1)) else(L0 (y34,IntKind.wrap .i64 (aH+1)))))) else(K aG)
noncomputable def Yz.m {β:Type} (k:Nat) (r_laws_szValueS:LD->Int->(Int->Option β)->Option β) (r_laws_szValue:Int->BA->Int->LD->LD->Int->(Int->Option β)->Option β) (a0:LD) (a1:Int) (K:Int->Option β) (F:(LD->(Int×Int)->Option β)):Option β:=
 bif(decide (((IntKind.wrap .i64 (a1-(a0.length:Int))):Int)<0)) then(K (-1)) else(F a0 (IntKind.wrap .i64 (a1-(a0.length:Int)),0))
noncomputable def Yz.body {β:Type} (k:Nat) (r_laws_szValueS:LD->Int->(Int->Option β)->Option β) (r_laws_szValue:Int->BA->Int->LD->LD->Int->(Int->Option β)->Option β) (a0:LD) (a1:Int) (K:Int->Option β):Option β:=
 bif(decide (((IntKind.wrap .i64 (a1-(a0.length:Int))):Int)<0)) then(K (-1)) else(ZA (Yz.l0 k r_laws_szValueS r_laws_szValue a0 K) k (IntKind.wrap .i64 (a1-(a0.length:Int)),0))
noncomputable def YP.body {β:Type} (k:Nat) (r_laws_szValueS:LD->Int->(Int->Option β)->Option β) (r_laws_szValue:Int->BA->Int->LD->LD->Int->(Int->Option β)->Option β) (aB:Int) (aA:BA) (aC:Int) (aD aE:LD) (a1:Int) (K:Int->Option β):Option β:=
 bif(decide (((IntKind.wrap .i64 (a1-(aA.size:Int))):Int)<0)) then(K (-1)) else(Yx.f k aD (IntKind.wrap .i64 (a1-(aA.size:Int))) (λy1=>bif(decide ((y1:Int)<0)) then(K (-1)) else(r_laws_szValueS aE y1 (λy35=>bif(decide ((y35:Int)<0)) then(K (-1)) else(K y35)))))
noncomputable def Yz.w {β:Type} (r:LD->Int->Option (Int)) (a0:LD) (a1:Int) (K:Int->Option β):Option β:=bd1 (r a0 a1) K
noncomputable def YP.w {β:Type} (r:Int->BA->Int->LD->LD->Int->Option (Int)) (aB:Int) (aA:BA) (aC:Int) (aD aE:LD) (a1:Int) (K:Int->Option β):Option β:=bd1 (r aB aA aC aD aE a1) K
noncomputable def Yz.all:Nat->(LD->Int->Option (Int))×(Int->BA->Int->LD->LD->Int->Option (Int))
 |0=>(λ_ _=>none,λ_ _ _ _ _ _=>none)
 |k+1=>(λr=>(λa0 a1=>Yz.body k (Yz.w r.1) (YP.w r.2) a0 a1 (λz0=>some z0),λaB aA aC aD aE a1=>YP.body k (Yz.w r.1) (YP.w r.2) aB aA aC aD aE a1 (λz0=>some z0))) (Yz.all k)
noncomputable def Yz.t (k:Nat) (a0:LD) (a1:Int):Option (Int):=(Yz.all k).1 a0 a1
noncomputable def YP.t (k:Nat) (aB:Int) (aA:BA) (aC:Int) (aD aE:LD) (a1:Int):Option (Int):=(Yz.all k).2 aB aA aC aD aE a1
noncomputable def Yz.f {β:Type} (k:Nat) (a0:LD) (a1:Int) (K:Int->Option β):Option β:=Yz.w (Yz.t k) a0 a1 K
noncomputable def YP.f {β:Type} (k:Nat) (aB:Int) (aA:BA) (aC:Int) (aD aE:LD) (a1:Int) (K:Int->Option β):Option β:=YP.w (YP.t k) aB aA aC aD aE a1 K
noncomputable def Yz.g {β:Type} (k:Nat) (a0:LD) (a1:Int) (K:Int->Option β):Option β:=Yz.body k (Yz.f k) (YP.f k) a0 a1 K
theorem Yz.t_succ (k:Nat) (a0:LD) (a1:Int):Yz.t (k+1) a0 a1=Yz.g k a0 a1 (λz0=>some z0):=rfl
noncomputable def YP.g {β:Type} (k:Nat) (aB:Int) (aA:BA) (aC:Int) (aD aE:LD) (a1:Int) (K:Int->Option β):Option β:=YP.body k (Yz.f k) (YP.f k) aB aA aC aD aE a1 K
theorem YP.t_succ (k:Nat) (aB:Int) (aA:BA) (aC:Int) (aD aE:LD) (a1:Int):YP.t (k+1) aB aA aC aD aE a1=YP.g k aB aA aC aD aE a1 (λz0=>some z0):=rfl
noncomputable def Yz.e (k:Nat):Zj:=ent [.d .l,.d .n] [1] [.n] [3] false (Yz.t k)
noncomputable def YP.e (k:Nat):Zj:=ent [.agg [.n,.s,.n,.l,.l],.d .n] [1] [.n] [3] false (YP.t k)
noncomputable def Yz.p (k:Nat):Pro:=⟨Tryz.prog,[(17,YP.e k)],Zv [(5,kp [0,1,5])] false [],k⟩
noncomputable def Yz.d (k:Nat) (a0:LD) (a1:Int):Ex->St->Option (Int):=(Yz.p k).fin Tryz.f47 [.d (.sl a0),.d (.int .i64 a1)] [1] [.n]
noncomputable def Yz.s0 (aF:LD) (v:Int×Int):St:=
 match v with
 |(aG,aH)=>ZaA 27 [(0,.d false (.sl aF)),(1,.d true (.int .i64 aG)),(5,.d true (.int .i64 aH))] []
noncomputable def Yz.r0 (k:Nat) (a0:LD) (a1:Int) (aF:LD) (n:Nat) (v:Int×Int):Option (Int):=(Yz.p k).lp (ZI Tryz.f47) 5 [1,1,1,0,1,0] (Yz.d k a0 a1) n (Yz.s0 aF v)
theorem Yz.l0_eq (k:Nat) (a0:LD) (a1:Int) (aF:LD):∀ n v,Yz.r0 k a0 a1 aF n v=ZA (Yz.l0 k (Yz.f k) (YP.f k) aF (λz0=>some z0)) n v:=
 Zz (Yz.s0 aF) _ λL0 v=>by obtain⟨aG,aH⟩:=v;kernel_rfl
noncomputable def YP.p (k:Nat):Pro:=⟨Tryz.prog,[(46,Yx.e k),(47,Yz.e k)],Zv [] false [],k⟩
theorem Yz.oks (k:Nat):Zf Tryz.prog 47 (Yz.e k)/\Zf Tryz.prog 17 (YP.e k):=by
 induction k with
 |zero=>exact⟨Zba Tryz.func47 (by kernel_rfl) (λ_ _=>rfl),
  Zba Tryz.func17 (by kernel_rfl) (λ_ _ _ _ _ _=>rfl)⟩
 |succ k ih=>exact⟨Zk (Yz.p k) mix tyok Tryz.func47 ih.2 (by kernel_rfl) (λa0 a1=>Eq.trans (b:=Yz.m k (Yz.f k) (YP.f k) a0 a1 (λz0=>some z0) (λaF=>Yz.r0 k a0 a1 aF k)) (by kernel_rfl) ((congrArg (Yz.m k (Yz.f k) (YP.f k) a0 a1 (λz0=>some z0)) (funext λaF=>funext λv=>Yz.l0_eq k a0 a1 aF k v)).trans (Yz.t_succ k a0 a1).symm)),
  Zk (YP.p k) mix tyok Tryz.func17 ⟨Yx.ok k,ih.1⟩ (by kernel_rfl) (λaB aA aC aD aE a1=>by show _=_;kernel_rfl)⟩
theorem YP.ok (k:Nat):Zf Tryz.prog 17 (YP.e k):=(Yz.oks k).2
noncomputable def Ya0.g {β:Type} (k:Nat) (aB:Int) (aA:LD) (aC:Int) (aD:BA) (aE:Int) (aK aL:LD) (a1:Int) (K:Int->Option β):Option β:=
 Yx.f k aA a1 (λy1=>bif(decide ((y1:Int)<0)) then(K (-1)) else(YP.f k aC aD aE aK aL y1 (λy2=>bif(decide ((y2:Int)<0)) then(K (-1)) else(K y2))))
noncomputable def Ya0.t (k:Nat) (aB:Int) (aA:LD) (aC:Int) (aD:BA) (aE:Int) (aK aL:LD) (a1:Int):Option (Int):=Ya0.g k aB aA aC aD aE aK aL a1 (λz0=>some z0)
noncomputable def Ya0.f {β:Type} (k:Nat) (aB:Int) (aA:LD) (aC:Int) (aD:BA) (aE:Int) (aK aL:LD) (a1:Int) (K:Int->Option β):Option β:=bd1 (Ya0.t k aB aA aC aD aE aK aL a1) K
noncomputable def Ya0.e (k:Nat):Zj:=ent [.agg [.n,.l,.n,.s,.n,.l,.l],.d .n] [1] [.n] [3] false (Ya0.t k)
noncomputable def Ya0.p (k:Nat):Pro:=⟨Tryz.prog,[(46,Yx.e k),(17,YP.e k)],Zv [] false [],k⟩
theorem Ya0.ok (k:Nat):Zf Tryz.prog 181 (Ya0.e k):=Zk (Ya0.p k) mix tyok Tryz.func181 ⟨Yx.ok k,YP.ok k⟩ (by kernel_rfl) (λaB aA aC aD aE aK aL a1=>by show _=_;kernel_rfl)
noncomputable def Yaj.l0 {β:Type} (k:Nat) (aF:LD) (K:Int->Option β) (L0:(Int×Int)->Option β) (v:Int×Int):Option β:=
 match v with
 |(aG,aH)=>bif(decide ((aH:Int)<(aF.length:Int))) then(atR aF aH [.n,.l,.n,.s,.n,.l,.l] λx27 x30 x33 x36 x39 x42 x45=>(Ya0.f k x27 x30 x33 x36 x39 x42 x45 aG (λy46=>bif(decide ((y46:Int)<0)) then(K (-1)) else(L0 (y46,IntKind.wrap .i64 (aH+1)))))) else(K aG)
noncomputable def Yaj.m {β:Type} (k:Nat) (a0:LD) (a1:Int) (K:Int->Option β) (F:(LD->(Int×Int)->Option β)):Option β:=
 bif(decide (((IntKind.wrap .i64 (a1-(a0.length:Int))):Int)<0)) then(K (-1)) else(F a0 (IntKind.wrap .i64 (a1-(a0.length:Int)),0))
noncomputable def Yaj.g {β:Type} (k:Nat) (a0:LD) (a1:Int) (K:Int->Option β):Option β:=
 bif(decide (((IntKind.wrap .i64 (a1-(a0.length:Int))):Int)<0)) then(K (-1)) else(ZA (Yaj.l0 k a0 K) k (IntKind.wrap .i64 (a1-(a0.length:Int)),0))
noncomputable def Yaj.t (k:Nat) (a0:LD) (a1:Int):Option (Int):=Yaj.g k a0 a1 (λz0=>some z0)
noncomputable def Yaj.f {β:Type} (k:Nat) (a0:LD) (a1:Int) (K:Int->Option β):Option β:=bd1 (Yaj.t k a0 a1) K
noncomputable def Yaj.e (k:Nat):Zj:=ent [.d .l,.d .n] [1] [.n] [3] false (Yaj.t k)
noncomputable def Yaj.p (k:Nat):Pro:=⟨Tryz.prog,[(181,Ya0.e k)],Zv [(5,kp [0,1,5])] false [],k⟩
noncomputable def Yaj.d (k:Nat) (a0:LD) (a1:Int):Ex->St->Option (Int):=(Yaj.p k).fin Tryz.f157 [.d (.sl a0),.d (.int .i64 a1)] [1] [.n]
noncomputable def Yaj.s0 (aF:LD) (v:Int×Int):St:=
 match v with
 |(aG,aH)=>ZaA 27 [(0,.d false (.sl aF)),(1,.d true (.int .i64 aG)),(5,.d true (.int .i64 aH))] []
noncomputable def Yaj.r0 (k:Nat) (a0:LD) (a1:Int) (aF:LD) (n:Nat) (v:Int×Int):Option (Int):=(Yaj.p k).lp (ZI Tryz.f157) 5 [1,1,1,0,1,0] (Yaj.d k a0 a1) n (Yaj.s0 aF v)
theorem Yaj.l0_eq (k:Nat) (a0:LD) (a1:Int) (aF:LD):∀ n v,Yaj.r0 k a0 a1 aF n v=ZA (Yaj.l0 k aF (λz0=>some z0)) n v:=
 Zz (Yaj.s0 aF) _ λL0 v=>by obtain⟨aG,aH⟩:=v;kernel_rfl
theorem Yaj.ok (k:Nat):Zf Tryz.prog 157 (Yaj.e k):=Zk (Yaj.p k) mix tyok Tryz.func157 (Ya0.ok k) (by kernel_rfl) (λa0 a1=>Eq.trans (b:=Yaj.m k a0 a1 (λz0=>some z0) (λaF=>Yaj.r0 k a0 a1 aF k)) (by kernel_rfl) (congrArg (Yaj.m k a0 a1 (λz0=>some z0)) (funext λaF=>funext λv=>Yaj.l0_eq k a0 a1 aF k v) :))
noncomputable def YaL.g {β:Type} (k:Nat) (aB:BA) (aA:LD) (a1:Int) (K:Int->Option β):Option β:=
 bif(decide (((IntKind.wrap .i64 (a1-(aB.size:Int))):Int)<0)) then(K (-1)) else(Yaj.f k aA (IntKind.wrap .i64 (a1-(aB.size:Int))) (λy47=>bif(decide ((y47:Int)<0)) then(K (-1)) else(K y47)))
noncomputable def YaL.t (k:Nat) (aB:BA) (aA:LD) (a1:Int):Option (Int):=YaL.g k aB aA a1 (λz0=>some z0)
noncomputable def YaL.f {β:Type} (k:Nat) (aB:BA) (aA:LD) (a1:Int) (K:Int->Option β):Option β:=bd1 (YaL.t k aB aA a1) K
noncomputable def YaL.e (k:Nat):Zj:=ent [.agg [.s,.l],.d .n] [1] [.n] [3] false (YaL.t k)
noncomputable def YaL.p (k:Nat):Pro:=⟨Tryz.prog,[(157,Yaj.e k)],Zv [] false [],k⟩
theorem YaL.ok (k:Nat):Zf Tryz.prog 124 (YaL.e k):=Zk (YaL.p k) mix tyok Tryz.func124 (Yaj.ok k) (by kernel_rfl) (λaB aA a1=>by show _=_;kernel_rfl)
noncomputable def YZ.l0 {β:Type} (k:Nat) (aF:LD) (K:Int->Option β) (L0:(Int×Int)->Option β) (v:Int×Int):Option β:=
 match v with
 |(aG,aH)=>bif(decide ((aH:Int)<(aF.length:Int))) then(atR aF aH [.s,.l] λx52 x55=>(YaL.f k x52 x55 aG (λy56=>bif(decide ((y56:Int)<0)) then(K (-1)) else(L0 (y56,IntKind.wrap .i64 (aH+1)))))) else(K aG)
noncomputable def YZ.m {β:Type} (k:Nat) (a0:LD) (a1:Int) (K:Int->Option β) (F:(LD->(Int×Int)->Option β)):Option β:=
 bif(decide (((IntKind.wrap .i64 (a1-(a0.length:Int))):Int)<0)) then(K (-1)) else(F a0 (IntKind.wrap .i64 (a1-(a0.length:Int)),0))
noncomputable def YZ.g {β:Type} (k:Nat) (a0:LD) (a1:Int) (K:Int->Option β):Option β:=
 bif(decide (((IntKind.wrap .i64 (a1-(a0.length:Int))):Int)<0)) then(K (-1)) else(ZA (YZ.l0 k a0 K) k (IntKind.wrap .i64 (a1-(a0.length:Int)),0))
noncomputable def YZ.t (k:Nat) (a0:LD) (a1:Int):Option (Int):=YZ.g k a0 a1 (λz0=>some z0)
noncomputable def YZ.f {β:Type} (k:Nat) (a0:LD) (a1:Int) (K:Int->Option β):Option β:=bd1 (YZ.t k a0 a1) K
noncomputable def YZ.e (k:Nat):Zj:=ent [.d .l,.d .n] [1] [.n] [3] false (YZ.t k)
noncomputable def YZ.p (k:Nat):Pro:=⟨Tryz.prog,[(124,YaL.e k)],Zv [(5,kp [0,1,5])] false [],k⟩
noncomputable def YZ.d (k:Nat) (a0:LD) (a1:Int):Ex->St->Option (Int):=(YZ.p k).fin Tryz.f68 [.d (.sl a0),.d (.int .i64 a1)] [1] [.n]
noncomputable def YZ.s0 (aF:LD) (v:Int×Int):St:=
 match v with
 |(aG,aH)=>ZaA 27 [(0,.d false (.sl aF)),(1,.d true (.int .i64 aG)),(5,.d true (.int .i64 aH))] []
noncomputable def YZ.r0 (k:Nat) (a0:LD) (a1:Int) (aF:LD) (n:Nat) (v:Int×Int):Option (Int):=(YZ.p k).lp (ZI Tryz.f68) 5 [1,1,1,0,1,0] (YZ.d k a0 a1) n (YZ.s0 aF v)
theorem YZ.l0_eq (k:Nat) (a0:LD) (a1:Int) (aF:LD):∀ n v,YZ.r0 k a0 a1 aF n v=ZA (YZ.l0 k aF (λz0=>some z0)) n v:=
 Zz (YZ.s0 aF) _ λL0 v=>by obtain⟨aG,aH⟩:=v;kernel_rfl
theorem YZ.ok (k:Nat):Zf Tryz.prog 68 (YZ.e k):=Zk (YZ.p k) mix tyok Tryz.func68 (YaL.ok k) (by kernel_rfl) (λa0 a1=>Eq.trans (b:=YZ.m k a0 a1 (λz0=>some z0) (λaF=>YZ.r0 k a0 a1 aF k)) (by kernel_rfl) (congrArg (YZ.m k a0 a1 (λz0=>some z0)) (funext λaF=>funext λv=>YZ.l0_eq k a0 a1 aF k v) :))
noncomputable def YaU.g {β:Type} (k:Nat) (aB:Int) (aA:BA) (aC:Int) (aD aE aK:LD) (aL:Int) (aZ:BA) (bA:Int) (aX aW aY:LD) (bC:Bool) (a1:Int) (K:Int->Option β):Option β:=
 bif(decide (((IntKind.wrap .i64 (a1-(aA.size:Int))):Int)<0)) then(K (-1)) else(YaJ.f k aC aD aE aK (IntKind.wrap .i64 (a1-(aA.size:Int))) (λy26=>bif(decide ((y26:Int)<0)) then(K (-1)) else(YP.f k aL aZ bA aX aW y26 (λy36=>bif(decide ((y36:Int)<0)) then(K (-1)) else(YZ.f k aY y36 (λy57=>bif(decide ((y57:Int)<0)) then(K (-1)) else(K y57)))))))
noncomputable def YaU.t (k:Nat) (aB:Int) (aA:BA) (aC:Int) (aD aE aK:LD) (aL:Int) (aZ:BA) (bA:Int) (aX aW aY:LD) (bC:Bool) (a1:Int):Option (Int):=YaU.g k aB aA aC aD aE aK aL aZ bA aX aW aY bC a1 (λz0=>some z0)
noncomputable def YaU.f {β:Type} (k:Nat) (aB:Int) (aA:BA) (aC:Int) (aD aE aK:LD) (aL:Int) (aZ:BA) (bA:Int) (aX aW aY:LD) (bC:Bool) (a1:Int) (K:Int->Option β):Option β:=bd1 (YaU.t k aB aA aC aD aE aK aL aZ bA aX aW aY bC a1) K
noncomputable def YaU.e (k:Nat):Zj:=ent [.agg [.n,.s,.n,.l,.l,.l,.n,.s,.n,.l,.l,.l,.b],.d .n] [1] [.n] [3] false (YaU.t k)
noncomputable def YaU.p (k:Nat):Pro:=⟨Tryz.prog,[(67,YaJ.e k),(17,YP.e k),(68,YZ.e k)],Zv [] false [],k⟩
theorem YaU.ok (k:Nat):Zf Tryz.prog 24 (YaU.e k):=Zk (YaU.p k) mix tyok Tryz.func24 ⟨YaJ.ok k,YP.ok k,YZ.ok k⟩ (by kernel_rfl) (λaB aA aC aD aE aK aL aZ bA aX aW aY bC a1=>by show _=_;kernel_rfl)
noncomputable def Yw.l0 {β:Type} (k:Nat) (aF:LD) (K:LC->Option β) (L0:(Int×LC)->Option β) (v:Int×LC):Option β:=
 match v with
 |(aG,aH)=>bif(decide ((aG:Int)<(aF.length:Int))) then(atR aF aG [.s] λx8=>(Zd ((0:Int)<=aG/\aG<(aH.length:Int)) (Zd (Int.toNat aG<aH.length) (L0 (IntKind.wrap .i64 (aG+1),aH.modify (Int.toNat aG) λc=>Zs c 0 [.d (.str x8)]))))) else(K aH)
noncomputable def Yw.m {β:Type} (k:Nat) (a0:LD) (K:LC->Option β) (F:(LD->(Int×LC)->Option β)):Option β:=
 Zd ((0:Int)<=(a0.length:Int)/\(a0.length:Int)<=(Z8:Int)/\(a0.length:Int)<=(a0.length:Int)/\(a0.length:Int)<=(a0.length:Int)) (F a0 (0,List.replicate (Int.toNat (a0.length:Int)) ([.d (.str (⟨#[]⟩:BA))]:List C)))
noncomputable def Yw.g {β:Type} (k:Nat) (a0:LD) (K:LC->Option β):Option β:=
 Zd ((0:Int)<=(a0.length:Int)/\(a0.length:Int)<=(Z8:Int)/\(a0.length:Int)<=(a0.length:Int)/\(a0.length:Int)<=(a0.length:Int)) (ZA (Yw.l0 k a0 K) k (0,List.replicate (Int.toNat (a0.length:Int)) ([.d (.str (⟨#[]⟩:BA))]:List C)))
noncomputable def Yw.t (k:Nat) (a0:LD):Option (LC):=Yw.g k a0 (λz0=>some z0)
noncomputable def Yw.f {β:Type} (k:Nat) (a0:LD) (K:LC->Option β):Option β:=bd1 (Yw.t k a0) K
noncomputable def Yw.e (k:Nat):Zj:=ent [.d .l] [1] [.o] [45] false (Yw.t k)
noncomputable def Yw.p (k:Nat):Pro:=⟨Tryz.prog,[],Zv [(3,kp [0,3,4])] false [],k⟩
noncomputable def Yw.d (k:Nat) (a0:LD):Ex->St->Option (LC):=(Yw.p k).fin Tryz.f54 [.d (.sl a0)] [1] [.o]
noncomputable def Yw.s0 (aF:LD) (v:Int×LC):St:=
 match v with
 |(aG,aH)=>ZaA 22 [(0,.d false (.sl aF)),(3,.row 0),(4,.d true (.int .i64 aG))] [.row none true 45 aH]
noncomputable def Yw.r0 (k:Nat) (a0 aF:LD) (n:Nat) (v:Int×LC):Option (LC):=(Yw.p k).lp (ZI Tryz.f54) 3 [1,1,0,1,0] (Yw.d k a0) n (Yw.s0 aF v)
theorem Yw.l0_eq (k:Nat) (a0 aF:LD):∀ n v,Yw.r0 k a0 aF n v=ZA (Yw.l0 k aF (λz0=>some z0)) n v:=
 Zz (Yw.s0 aF) _ λL0 v=>by obtain⟨aG,aH⟩:=v;kernel_rfl
theorem Yw.ok (k:Nat):Zf Tryz.prog 54 (Yw.e k):=Zk (Yw.p k) mix tyok Tryz.func54 trivial (by kernel_rfl) (λa0=>Eq.trans (b:=Yw.m k a0 (λz0=>some z0) (λaF=>Yw.r0 k a0 aF k)) (by kernel_rfl) (congrArg (Yw.m k a0 (λz0=>some z0)) (funext λaF=>funext λv=>Yw.l0_eq k a0 aF k v) :))
noncomputable def YaH.g {β:Type} (k:Nat) (aB:Int) (aA:BA) (aC:LD) (K:Int->BA->LC->Option β):Option β:=
 Yw.f k aC (λy9=>K aB aA y9)
noncomputable def YaH.t (k:Nat) (aB:Int) (aA:BA) (aC:LD):Option (Int×BA×LC):=YaH.g k aB aA aC (λz0 z1 z2=>some (z0,z1,z2))
noncomputable def YaH.f {β:Type} (k:Nat) (aB:Int) (aA:BA) (aC:LD) (K:Int->BA->LC->Option β):Option β:=bd3 (YaH.t k aB aA aC) K
noncomputable def YaH.e (k:Nat):Zj:=ent [.agg [.n,.s,.l]] [3] [.n,.s,.o] [196] false (YaH.t k)
noncomputable def YaH.p (k:Nat):Pro:=⟨Tryz.prog,[(54,Yw.e k)],Zv [] false [],k⟩
theorem YaH.ok (k:Nat):Zf Tryz.prog 162 (YaH.e k):=Zk (YaH.p k) mix tyok Tryz.func162 (Yw.ok k) (by kernel_rfl) (λaB aA aC=>by show _=_;kernel_rfl)
noncomputable def YT.l0 {β:Type} (k:Nat) (aF:LD) (K:LC->Option β) (L0:(Int×LC)->Option β) (v:Int×LC):Option β:=
 match v with
 |(aG,aH)=>bif(decide ((aG:Int)<(aF.length:Int))) then(atR aF aG [.n,.s,.l] λx17 x20 x23=>(YaH.f k x17 x20 x23 (λy24 y25 y26=>Zd ((0:Int)<=aG/\aG<(aH.length:Int)) (Zd (Int.toNat aG<aH.length) (L0 (IntKind.wrap .i64 (aG+1),aH.modify (Int.toNat aG) λc=>Zs c 0 [.d (.int .i64 y24),.d (.str y25),.own y26])))))) else(K aH)
noncomputable def YT.m {β:Type} (k:Nat) (a0:LD) (K:LC->Option β) (F:(LD->(Int×LC)->Option β)):Option β:=
 Zd ((0:Int)<=(a0.length:Int)/\(a0.length:Int)<=(Z8:Int)/\(a0.length:Int)<=(a0.length:Int)/\(a0.length:Int)<=(a0.length:Int)) (F a0 (0,List.replicate (Int.toNat (a0.length:Int)) ([.d (.int .i64 0),.d (.str (⟨#[]⟩:BA)),.own ([]:LC)]:List C)))
noncomputable def YT.g {β:Type} (k:Nat) (a0:LD) (K:LC->Option β):Option β:=YT.m k a0 K (λaF=>ZA (YT.l0 k aF K) k)
noncomputable def YT.t (k:Nat) (a0:LD):Option (LC):=YT.g k a0 (λz0=>some z0)
noncomputable def YT.f {β:Type} (k:Nat) (a0:LD) (K:LC->Option β):Option β:=bd1 (YT.t k a0) K
noncomputable def YT.e (k:Nat):Zj:=ent [.d .l] [1] [.o] [69] false (YT.t k)
noncomputable def YT.p (k:Nat):Pro:=⟨Tryz.prog,[(162,YaH.e k)],Zv [(3,kp [0,3,4])] false [],k⟩
noncomputable def YT.d (k:Nat) (a0:LD):Ex->St->Option (LC):=(YT.p k).fin Tryz.f127 [.d (.sl a0)] [1] [.o]
noncomputable def YT.s0 (aF:LD) (v:Int×LC):St:=
 match v with
 |(aG,aH)=>ZaA 23 [(0,.d false (.sl aF)),(3,.row 0),(4,.d true (.int .i64 aG))] [.row none true 69 aH]
noncomputable def YT.r0 (k:Nat) (a0 aF:LD) (n:Nat) (v:Int×LC):Option (LC):=(YT.p k).lp (ZI Tryz.f127) 3 [1,1,0,1,0] (YT.d k a0) n (YT.s0 aF v)
theorem YT.l0_eq (k:Nat) (a0 aF:LD):∀ n v,YT.r0 k a0 aF n v=ZA (YT.l0 k aF (λz0=>some z0)) n v:=
 Zz (YT.s0 aF) _ λL0 v=>by obtain⟨aG,aH⟩:=v;kernel_rfl
theorem YT.ok (k:Nat):Zf Tryz.prog 127 (YT.e k):=Zk (YT.p k) mix tyok Tryz.func127 (YaH.ok k) (by kernel_rfl) (λa0=>Eq.trans (b:=YT.m k a0 (λz0=>some z0) (λaF=>YT.r0 k a0 aF k)) (by kernel_rfl) (congrArg (YT.m k a0 (λz0=>some z0)) (funext λaF=>funext λv=>YT.l0_eq k a0 aF k v) :))
noncomputable def YaC.g {β:Type} (k:Nat) (aB:BA) (aA:Int) (K:BA->Int->Option β):Option β:=
 K aB aA
noncomputable def YaC.t (k:Nat) (aB:BA) (aA:Int):Option (BA×Int):=YaC.g k aB aA (λz0 z1=>some (z0,z1))
noncomputable def YaC.f {β:Type} (k:Nat) (aB:BA) (aA:Int) (K:BA->Int->Option β):Option β:=bd2 (YaC.t k aB aA) K
noncomputable def YaC.e (k:Nat):Zj:=ent [.agg [.s,.n]] [2] [.s,.n] [198] false (YaC.t k)
noncomputable def YaC.p (k:Nat):Pro:=⟨Tryz.prog,[],Zv [] false [],k⟩
theorem YaC.ok (k:Nat):Zf Tryz.prog 163 (YaC.e k):=Zk (YaC.p k) mix tyok Tryz.func163 trivial (by kernel_rfl) (λaB aA=>by show _=_;kernel_rfl)
noncomputable def YM.l0 {β:Type} (k:Nat) (aF:LD) (K:LC->Option β) (L0:(Int×LC)->Option β) (v:Int×LC):Option β:=
 match v with
 |(aG,aH)=>bif(decide ((aG:Int)<(aF.length:Int))) then(atR aF aG [.s,.n] λx13 x16=>(YaC.f k x13 x16 (λy17 y18=>Zd ((0:Int)<=aG/\aG<(aH.length:Int)) (Zd (Int.toNat aG<aH.length) (L0 (IntKind.wrap .i64 (aG+1),aH.modify (Int.toNat aG) λc=>Zs c 0 [.d (.str y17),.d (.int .i64 y18)])))))) else(K aH)
noncomputable def YM.m {β:Type} (k:Nat) (a0:LD) (K:LC->Option β) (F:(LD->(Int×LC)->Option β)):Option β:=
 Zd ((0:Int)<=(a0.length:Int)/\(a0.length:Int)<=(Z8:Int)/\(a0.length:Int)<=(a0.length:Int)/\(a0.length:Int)<=(a0.length:Int)) (F a0 (0,List.replicate (Int.toNat (a0.length:Int)) ([.d (.str (⟨#[]⟩:BA)),.d (.int .i64 0)]:List C)))
noncomputable def YM.g {β:Type} (k:Nat) (a0:LD) (K:LC->Option β):Option β:=YM.m k a0 K (λaF=>ZA (YM.l0 k aF K) k)
noncomputable def YM.t (k:Nat) (a0:LD):Option (LC):=YM.g k a0 (λz0=>some z0)
noncomputable def YM.f {β:Type} (k:Nat) (a0:LD) (K:LC->Option β):Option β:=bd1 (YM.t k a0) K
noncomputable def YM.e (k:Nat):Zj:=ent [.d .l] [1] [.o] [70] false (YM.t k)
noncomputable def YM.p (k:Nat):Pro:=⟨Tryz.prog,[(163,YaC.e k)],Zv [(3,kp [0,3,4])] false [],k⟩
noncomputable def YM.d (k:Nat) (a0:LD):Ex->St->Option (LC):=(YM.p k).fin Tryz.f128 [.d (.sl a0)] [1] [.o]
noncomputable def YM.s0 (aF:LD) (v:Int×LC):St:=
 match v with
 |(aG,aH)=>ZaA 23 [(0,.d false (.sl aF)),(3,.row 0),(4,.d true (.int .i64 aG))] [.row none true 70 aH]
noncomputable def YM.r0 (k:Nat) (a0 aF:LD) (n:Nat) (v:Int×LC):Option (LC):=(YM.p k).lp (ZI Tryz.f128) 3 [1,1,0,1,0] (YM.d k a0) n (YM.s0 aF v)
theorem YM.l0_eq (k:Nat) (a0 aF:LD):∀ n v,YM.r0 k a0 aF n v=ZA (YM.l0 k aF (λz0=>some z0)) n v:=
 Zz (YM.s0 aF) _ λL0 v=>by obtain⟨aG,aH⟩:=v;kernel_rfl
theorem YM.ok (k:Nat):Zf Tryz.prog 128 (YM.e k):=Zk (YM.p k) mix tyok Tryz.func128 (YaC.ok k) (by kernel_rfl) (λa0=>Eq.trans (b:=YM.m k a0 (λz0=>some z0) (λaF=>YM.r0 k a0 aF k)) (by kernel_rfl) (congrArg (YM.m k a0 (λz0=>some z0)) (funext λaF=>funext λv=>YM.l0_eq k a0 aF k v) :))
noncomputable def YaG.g {β:Type} (k:Nat) (aB:Int) (aA aC aD:LD) (K:Int->LC->LC->LC->Option β):Option β:=
 YT.f k aA (λy27=>Yw.f k aC (λy28=>YM.f k aD (λy29=>K aB y27 y28 y29)))
noncomputable def YaG.t (k:Nat) (aB:Int) (aA aC aD:LD):Option (Int×LC×LC×LC):=YaG.g k aB aA aC aD (λz0 z1 z2 z3=>some (z0,z1,z2,z3))
noncomputable def YaG.f {β:Type} (k:Nat) (aB:Int) (aA aC aD:LD) (K:Int->LC->LC->LC->Option β):Option β:=bd4 (YaG.t k aB aA aC aD) K
noncomputable def YaG.e (k:Nat):Zj:=ent [.agg [.n,.l,.l,.l]] [4] [.n,.o,.o,.o] [72] false (YaG.t k)
noncomputable def YaG.p (k:Nat):Pro:=⟨Tryz.prog,[(127,YT.e k),(54,Yw.e k),(128,YM.e k)],Zv [] false [],k⟩
theorem YaG.ok (k:Nat):Zf Tryz.prog 71 (YaG.e k):=Zk (YaG.p k) mix tyok Tryz.func71 ⟨YT.ok k,Yw.ok k,YM.ok k⟩ (by kernel_rfl) (λaB aA aC aD=>by show _=_;kernel_rfl)
noncomputable def Yt.l0 {β:Type} (k:Nat) (r_laws_toValueS:LD->(LC->Option β)->Option β) (r_laws_toValue:Int->BA->Int->LD->LD->(Int->BA->Int->LC->LC->Option β)->Option β) (aF:LD) (K:LC->Option β) (L0:(Int×LC)->Option β) (v:Int×LC):Option β:=
 match v with
 |(aG,aH)=>bif(decide ((aG:Int)<(aF.length:Int))) then(atR aF aG [.n,.s,.n,.l,.l] λx25 x28 x31 x34 x37=>(r_laws_toValue x25 x28 x31 x34 x37 (λy38 y39 y40 y41 y42=>Zd ((0:Int)<=aG/\aG<(aH.length:Int)) (Zd (Int.toNat aG<aH.length) (L0 (IntKind.wrap .i64 (aG+1),aH.modify (Int.toNat aG) λc=>Zs c 0 [.d (.int .i64 y38),.d (.str y39),.d (.int .i64 y40),.own y41,.own y42])))))) else(K aH)
noncomputable def Yt.m {β:Type} (k:Nat) (r_laws_toValueS:LD->(LC->Option β)->Option β) (r_laws_toValue:Int->BA->Int->LD->LD->(Int->BA->Int->LC->LC->Option β)->Option β) (a0:LD) (K:LC->Option β) (F:(LD->(Int×LC)->Option β)):Option β:=
 Zd ((0:Int)<=(a0.length:Int)/\(a0.length:Int)<=(Z8:Int)/\(a0.length:Int)<=(a0.length:Int)/\(a0.length:Int)<=(a0.length:Int)) (F a0 (0,List.replicate (Int.toNat (a0.length:Int)) ([.d (.int .i64 0),.d (.str (⟨#[]⟩:BA)),.d (.int .i64 0),.own ([]:LC),.own ([]:LC)]:List C)))
noncomputable def Yt.body {β:Type} (k:Nat) (r_laws_toValueS:LD->(LC->Option β)->Option β) (r_laws_toValue:Int->BA->Int->LD->LD->(Int->BA->Int->LC->LC->Option β)->Option β) (a0:LD) (K:LC->Option β):Option β:=Yt.m k r_laws_toValueS r_laws_toValue a0 K (λaF=>ZA (Yt.l0 k r_laws_toValueS r_laws_toValue aF K) k)
noncomputable def YO.body {β:Type} (k:Nat) (r_laws_toValueS:LD->(LC->Option β)->Option β) (r_laws_toValue:Int->BA->Int->LD->LD->(Int->BA->Int->LC->LC->Option β)->Option β) (aB:Int) (aA:BA) (aC:Int) (aD aE:LD) (K:Int->BA->Int->LC->LC->Option β):Option β:=
 Yw.f k aD (λy1=>r_laws_toValueS aE (λy43=>K aB aA aC y1 y43))
noncomputable def Yt.w {β:Type} (r:LD->Option (LC)) (a0:LD) (K:LC->Option β):Option β:=bd1 (r a0) K
noncomputable def YO.w {β:Type} (r:Int->BA->Int->LD->LD->Option (Int×BA×Int×LC×LC)) (aB:Int) (aA:BA) (aC:Int) (aD aE:LD) (K:Int->BA->Int->LC->LC->Option β):Option β:=bd5 (r aB aA aC aD aE) K
noncomputable def Yt.all:Nat->(LD->Option (LC))×(Int->BA->Int->LD->LD->Option (Int×BA×Int×LC×LC))
 |0=>(λ_=>none,λ_ _ _ _ _=>none)
 |k+1=>(λr=>(λa0=>Yt.body k (Yt.w r.1) (YO.w r.2) a0 (λz0=>some z0),λaB aA aC aD aE=>YO.body k (Yt.w r.1) (YO.w r.2) aB aA aC aD aE (λz0 z1 z2 z3 z4=>some (z0,z1,z2,z3,z4)))) (Yt.all k)
noncomputable def Yt.t (k:Nat) (a0:LD):Option (LC):=(Yt.all k).1 a0
noncomputable def YO.t (k:Nat) (aB:Int) (aA:BA) (aC:Int) (aD aE:LD):Option (Int×BA×Int×LC×LC):=(Yt.all k).2 aB aA aC aD aE
noncomputable def Yt.f {β:Type} (k:Nat) (a0:LD) (K:LC->Option β):Option β:=Yt.w (Yt.t k) a0 K
noncomputable def YO.f {β:Type} (k:Nat) (aB:Int) (aA:BA) (aC:Int) (aD aE:LD) (K:Int->BA->Int->LC->LC->Option β):Option β:=YO.w (YO.t k) aB aA aC aD aE K
noncomputable def Yt.g {β:Type} (k:Nat) (a0:LD) (K:LC->Option β):Option β:=Yt.body k (Yt.f k) (YO.f k) a0 K
theorem Yt.t_succ (k:Nat) (a0:LD):Yt.t (k+1) a0=Yt.g k a0 (λz0=>some z0):=rfl
noncomputable def YO.g {β:Type} (k:Nat) (aB:Int) (aA:BA) (aC:Int) (aD aE:LD) (K:Int->BA->Int->LC->LC->Option β):Option β:=YO.body k (Yt.f k) (YO.f k) aB aA aC aD aE K
theorem YO.t_succ (k:Nat) (aB:Int) (aA:BA) (aC:Int) (aD aE:LD):YO.t (k+1) aB aA aC aD aE=YO.g k aB aA aC aD aE (λz0 z1 z2 z3 z4=>some (z0,z1,z2,z3,z4)):=rfl
noncomputable def Yt.e (k:Nat):Zj:=ent [.d .l] [1] [.o] [52] false (Yt.t k)
noncomputable def YO.e (k:Nat):Zj:=ent [.agg [.n,.s,.n,.l,.l]] [5] [.n,.s,.n,.o,.o] [54] false (YO.t k)
noncomputable def Yt.p (k:Nat):Pro:=⟨Tryz.prog,[(19,YO.e k)],Zv [(3,kp [0,3,4])] false [],k⟩
noncomputable def Yt.d (k:Nat) (a0:LD):Ex->St->Option (LC):=(Yt.p k).fin Tryz.f55 [.d (.sl a0)] [1] [.o]
noncomputable def Yt.s0 (aF:LD) (v:Int×LC):St:=
 match v with
 |(aG,aH)=>ZaA 23 [(0,.d false (.sl aF)),(3,.row 0),(4,.d true (.int .i64 aG))] [.row none true 52 aH]
noncomputable def Yt.r0 (k:Nat) (a0 aF:LD) (n:Nat) (v:Int×LC):Option (LC):=(Yt.p k).lp (ZI Tryz.f55) 3 [1,1,0,1,0] (Yt.d k a0) n (Yt.s0 aF v)
theorem Yt.l0_eq (k:Nat) (a0 aF:LD):∀ n v,Yt.r0 k a0 aF n v=ZA (Yt.l0 k (Yt.f k) (YO.f k) aF (λz0=>some z0)) n v:=
 Zz (Yt.s0 aF) _ λL0 v=>by obtain⟨aG,aH⟩:=v;kernel_rfl
noncomputable def YO.p (k:Nat):Pro:=⟨Tryz.prog,[(54,Yw.e k),(55,Yt.e k)],Zv [] false [],k⟩
theorem Yt.oks (k:Nat):Zf Tryz.prog 55 (Yt.e k)/\Zf Tryz.prog 19 (YO.e k):=by
 induction k with
 |zero=>exact⟨Zba Tryz.func55 (by kernel_rfl) (λ_=>rfl),
  Zba Tryz.func19 (by kernel_rfl) (λ_ _ _ _ _=>rfl)⟩
 |succ k ih=>exact⟨Zk (Yt.p k) mix tyok Tryz.func55 ih.2 (by kernel_rfl) (λa0=>Eq.trans (b:=Yt.m k (Yt.f k) (YO.f k) a0 (λz0=>some z0) (λaF=>Yt.r0 k a0 aF k)) (by kernel_rfl) ((congrArg (Yt.m k (Yt.f k) (YO.f k) a0 (λz0=>some z0)) (funext λaF=>funext λv=>Yt.l0_eq k a0 aF k v)).trans (Yt.t_succ k a0).symm)),
  Zk (YO.p k) mix tyok Tryz.func19 ⟨Yw.ok k,ih.1⟩ (by kernel_rfl) (λaB aA aC aD aE=>by show _=_;kernel_rfl)⟩
theorem YO.ok (k:Nat):Zf Tryz.prog 19 (YO.e k):=(Yt.oks k).2
noncomputable def YaS.g {β:Type} (k:Nat) (aB:Int) (aA:LD) (aC:Int) (aD:BA) (aE:Int) (aK aL:LD) (K:Int->LC->Int->BA->Int->LC->LC->Option β):Option β:=
 Yw.f k aA (λy1=>YO.f k aC aD aE aK aL (λy2 y3 y4 y5 y6=>K aB y1 y2 y3 y4 y5 y6))
noncomputable def YaS.t (k:Nat) (aB:Int) (aA:LD) (aC:Int) (aD:BA) (aE:Int) (aK aL:LD):Option (Int×LC×Int×BA×Int×LC×LC):=YaS.g k aB aA aC aD aE aK aL (λz0 z1 z2 z3 z4 z5 z6=>some (z0,z1,z2,z3,z4,z5,z6))
noncomputable def YaS.f {β:Type} (k:Nat) (aB:Int) (aA:LD) (aC:Int) (aD:BA) (aE:Int) (aK aL:LD) (K:Int->LC->Int->BA->Int->LC->LC->Option β):Option β:=match YaS.t k aB aA aC aD aE aK aL with|some (z0,z1,z2,z3,z4,z5,z6)=>K z0 z1 z2 z3 z4 z5 z6|none=>none
noncomputable def YaS.e (k:Nat):Zj:=ent [.agg [.n,.l,.n,.s,.n,.l,.l]] [7] [.n,.o,.n,.s,.n,.o,.o] [164] false (YaS.t k)
noncomputable def YaS.p (k:Nat):Pro:=⟨Tryz.prog,[(54,Yw.e k),(19,YO.e k)],Zv [] false [],k⟩
theorem YaS.ok (k:Nat):Zf Tryz.prog 186 (YaS.e k):=Zk (YaS.p k) mix tyok Tryz.func186 ⟨Yw.ok k,YO.ok k⟩ (by kernel_rfl) (λaB aA aC aD aE aK aL=>by show _=_;kernel_rfl)
noncomputable def Yag.l0 {β:Type} (k:Nat) (aF:LD) (K:LC->Option β) (L0:(Int×LC)->Option β) (v:Int×LC):Option β:=
 match v with
 |(aG,aH)=>bif(decide ((aG:Int)<(aF.length:Int))) then(atR aF aG [.n,.l,.n,.s,.n,.l,.l] λx33 x36 x39 x42 x45 x48 x51=>(YaS.f k x33 x36 x39 x42 x45 x48 x51 (λy52 y53 y54 y55 y56 y57 y58=>Zd ((0:Int)<=aG/\aG<(aH.length:Int)) (Zd (Int.toNat aG<aH.length) (L0 (IntKind.wrap .i64 (aG+1),aH.modify (Int.toNat aG) λc=>Zs c 0 [.d (.int .i64 y52),.own y53,.d (.int .i64 y54),.d (.str y55),.d (.int .i64 y56),.own y57,.own y58])))))) else(K aH)
noncomputable def Yag.m {β:Type} (k:Nat) (a0:LD) (K:LC->Option β) (F:(LD->(Int×LC)->Option β)):Option β:=
 Zd ((0:Int)<=(a0.length:Int)/\(a0.length:Int)<=(Z8:Int)/\(a0.length:Int)<=(a0.length:Int)/\(a0.length:Int)<=(a0.length:Int)) (F a0 (0,List.replicate (Int.toNat (a0.length:Int)) ([.d (.int .i64 0),.own ([]:LC),.d (.int .i64 0),.d (.str (⟨#[]⟩:BA)),.d (.int .i64 0),.own ([]:LC),.own ([]:LC)]:List C)))
noncomputable def Yag.g {β:Type} (k:Nat) (a0:LD) (K:LC->Option β):Option β:=Yag.m k a0 K (λaF=>ZA (Yag.l0 k aF K) k)
noncomputable def Yag.t (k:Nat) (a0:LD):Option (LC):=Yag.g k a0 (λz0=>some z0)
noncomputable def Yag.f {β:Type} (k:Nat) (a0:LD) (K:LC->Option β):Option β:=bd1 (Yag.t k a0) K
noncomputable def Yag.e (k:Nat):Zj:=ent [.d .l] [1] [.o] [111] false (Yag.t k)
noncomputable def Yag.p (k:Nat):Pro:=⟨Tryz.prog,[(186,YaS.e k)],Zv [(3,kp [0,3,4])] false [],k⟩
noncomputable def Yag.d (k:Nat) (a0:LD):Ex->St->Option (LC):=(Yag.p k).fin Tryz.f164 [.d (.sl a0)] [1] [.o]
noncomputable def Yag.s0 (aF:LD) (v:Int×LC):St:=
 match v with
 |(aG,aH)=>ZaA 23 [(0,.d false (.sl aF)),(3,.row 0),(4,.d true (.int .i64 aG))] [.row none true 111 aH]
noncomputable def Yag.r0 (k:Nat) (a0 aF:LD) (n:Nat) (v:Int×LC):Option (LC):=(Yag.p k).lp (ZI Tryz.f164) 3 [1,1,0,1,0] (Yag.d k a0) n (Yag.s0 aF v)
theorem Yag.l0_eq (k:Nat) (a0 aF:LD):∀ n v,Yag.r0 k a0 aF n v=ZA (Yag.l0 k aF (λz0=>some z0)) n v:=
 Zz (Yag.s0 aF) _ λL0 v=>by obtain⟨aG,aH⟩:=v;kernel_rfl
theorem Yag.ok (k:Nat):Zf Tryz.prog 164 (Yag.e k):=Zk (Yag.p k) mix tyok Tryz.func164 (YaS.ok k) (by kernel_rfl) (λa0=>Eq.trans (b:=Yag.m k a0 (λz0=>some z0) (λaF=>Yag.r0 k a0 aF k)) (by kernel_rfl) (congrArg (Yag.m k a0 (λz0=>some z0)) (funext λaF=>funext λv=>Yag.l0_eq k a0 aF k v) :))
noncomputable def YaI.g {β:Type} (k:Nat) (aB:BA) (aA:LD) (K:BA->LC->Option β):Option β:=
 Yag.f k aA (λy59=>K aB y59)
noncomputable def YaI.t (k:Nat) (aB:BA) (aA:LD):Option (BA×LC):=YaI.g k aB aA (λz0 z1=>some (z0,z1))
noncomputable def YaI.f {β:Type} (k:Nat) (aB:BA) (aA:LD) (K:BA->LC->Option β):Option β:=bd2 (YaI.t k aB aA) K
noncomputable def YaI.e (k:Nat):Zj:=ent [.agg [.s,.l]] [2] [.s,.o] [113] false (YaI.t k)
noncomputable def YaI.p (k:Nat):Pro:=⟨Tryz.prog,[(164,Yag.e k)],Zv [] false [],k⟩
theorem YaI.ok (k:Nat):Zf Tryz.prog 129 (YaI.e k):=Zk (YaI.p k) mix tyok Tryz.func129 (Yag.ok k) (by kernel_rfl) (λaB aA=>by show _=_;kernel_rfl)
noncomputable def YU.l0 {β:Type} (k:Nat) (aF:LD) (K:LC->Option β) (L0:(Int×LC)->Option β) (v:Int×LC):Option β:=
 match v with
 |(aG,aH)=>bif(decide ((aG:Int)<(aF.length:Int))) then(atR aF aG [.s,.l] λx65 x68=>(YaI.f k x65 x68 (λy69 y70=>Zd ((0:Int)<=aG/\aG<(aH.length:Int)) (Zd (Int.toNat aG<aH.length) (L0 (IntKind.wrap .i64 (aG+1),aH.modify (Int.toNat aG) λc=>Zs c 0 [.d (.str y69),.own y70])))))) else(K aH)
noncomputable def YU.m {β:Type} (k:Nat) (a0:LD) (K:LC->Option β) (F:(LD->(Int×LC)->Option β)):Option β:=
 Zd ((0:Int)<=(a0.length:Int)/\(a0.length:Int)<=(Z8:Int)/\(a0.length:Int)<=(a0.length:Int)/\(a0.length:Int)<=(a0.length:Int)) (F a0 (0,List.replicate (Int.toNat (a0.length:Int)) ([.d (.str (⟨#[]⟩:BA)),.own ([]:LC)]:List C)))
noncomputable def YU.g {β:Type} (k:Nat) (a0:LD) (K:LC->Option β):Option β:=YU.m k a0 K (λaF=>ZA (YU.l0 k aF K) k)
noncomputable def YU.t (k:Nat) (a0:LD):Option (LC):=YU.g k a0 (λz0=>some z0)
noncomputable def YU.f {β:Type} (k:Nat) (a0:LD) (K:LC->Option β):Option β:=bd1 (YU.t k a0) K
noncomputable def YU.e (k:Nat):Zj:=ent [.d .l] [1] [.o] [73] false (YU.t k)
noncomputable def YU.p (k:Nat):Pro:=⟨Tryz.prog,[(129,YaI.e k)],Zv [(3,kp [0,3,4])] false [],k⟩
noncomputable def YU.d (k:Nat) (a0:LD):Ex->St->Option (LC):=(YU.p k).fin Tryz.f72 [.d (.sl a0)] [1] [.o]
noncomputable def YU.s0 (aF:LD) (v:Int×LC):St:=
 match v with
 |(aG,aH)=>ZaA 23 [(0,.d false (.sl aF)),(3,.row 0),(4,.d true (.int .i64 aG))] [.row none true 73 aH]
noncomputable def YU.r0 (k:Nat) (a0 aF:LD) (n:Nat) (v:Int×LC):Option (LC):=(YU.p k).lp (ZI Tryz.f72) 3 [1,1,0,1,0] (YU.d k a0) n (YU.s0 aF v)
theorem YU.l0_eq (k:Nat) (a0 aF:LD):∀ n v,YU.r0 k a0 aF n v=ZA (YU.l0 k aF (λz0=>some z0)) n v:=
 Zz (YU.s0 aF) _ λL0 v=>by obtain⟨aG,aH⟩:=v;kernel_rfl
theorem YU.ok (k:Nat):Zf Tryz.prog 72 (YU.e k):=Zk (YU.p k) mix tyok Tryz.func72 (YaI.ok k) (by kernel_rfl) (λa0=>Eq.trans (b:=YU.m k a0 (λz0=>some z0) (λaF=>YU.r0 k a0 aF k)) (by kernel_rfl) (congrArg (YU.m k a0 (λz0=>some z0)) (funext λaF=>funext λv=>YU.l0_eq k a0 aF k v) :))
noncomputable def Yar.g {β:Type} (k:Nat) (aB:Int) (aA:BA) (aC:Int) (aD aE aK:LD) (aL:Int) (aZ:BA) (bA:Int) (aX aW aY:LD) (bC:Bool) (K:Int->BA->Int->LC->LC->LC->Int->BA->Int->LC->LC->LC->Bool->Option β):Option β:=
 YaG.f k aC aD aE aK (λy30 y31 y32 y33=>YO.f k aL aZ bA aX aW (λy44 y45 y46 y47 y48=>YU.f k aY (λy71=>K aB aA y30 y31 y32 y33 y44 y45 y46 y47 y48 y71 bC)))
noncomputable def Yar.t (k:Nat) (aB:Int) (aA:BA) (aC:Int) (aD aE aK:LD) (aL:Int) (aZ:BA) (bA:Int) (aX aW aY:LD) (bC:Bool):Option (Int×BA×Int×LC×LC×LC×Int×BA×Int×LC×LC×LC×Bool):=Yar.g k aB aA aC aD aE aK aL aZ bA aX aW aY bC (λz0 z1 z2 z3 z4 z5 z6 z7 z8 z9 z10 z11 z12=>some (z0,z1,z2,z3,z4,z5,z6,z7,z8,z9,z10,z11,z12))
noncomputable def Yar.f {β:Type} (k:Nat) (aB:Int) (aA:BA) (aC:Int) (aD aE aK:LD) (aL:Int) (aZ:BA) (bA:Int) (aX aW aY:LD) (bC:Bool) (K:Int->BA->Int->LC->LC->LC->Int->BA->Int->LC->LC->LC->Bool->Option β):Option β:=match Yar.t k aB aA aC aD aE aK aL aZ bA aX aW aY bC with|some (z0,z1,z2,z3,z4,z5,z6,z7,z8,z9,z10,z11,z12)=>K z0 z1 z2 z3 z4 z5 z6 z7 z8 z9 z10 z11 z12|none=>none
noncomputable def Yar.e (k:Nat):Zj:=ent [.agg [.n,.s,.n,.l,.l,.l,.n,.s,.n,.l,.l,.l,.b]] [13] [.n,.s,.n,.o,.o,.o,.n,.s,.n,.o,.o,.o,.b] [75] false (Yar.t k)
noncomputable def Yar.p (k:Nat):Pro:=⟨Tryz.prog,[(71,YaG.e k),(19,YO.e k),(72,YU.e k)],Zv [] false [],k⟩
theorem Yar.ok (k:Nat):Zf Tryz.prog 26 (Yar.e k):=Zk (Yar.p k) mix tyok Tryz.func26 ⟨YaG.ok k,YO.ok k,YU.ok k⟩ (by kernel_rfl) (λaB aA aC aD aE aK aL aZ bA aX aW aY bC=>by show _=_;kernel_rfl)
noncomputable def Y4.g {β:Type} (k:Nat) (a0 a1 a2:Int) (K:Bool->Option β):Option β:=
 bif(decide ((a0:Int)>=a1)) then(K (decide ((a0:Int)<=a2))) else(K false)
noncomputable def Y4.t (k:Nat) (a0 a1 a2:Int):Option (Bool):=Y4.g k a0 a1 a2 (λz0=>some z0)
noncomputable def Y4.f {β:Type} (k:Nat) (a0 a1 a2:Int) (K:Bool->Option β):Option β:=bd1 (Y4.t k a0 a1 a2) K
noncomputable def Y4.e (k:Nat):Zj:=ent [.d .n,.d .n,.d .n] [1] [.b] [4] false (Y4.t k)
noncomputable def Y4.p (k:Nat):Pro:=⟨Tryz.prog,[],Zv [] false [],k⟩
theorem Y4.ok (k:Nat):Zf Tryz.prog 86 (Y4.e k):=Zk (Y4.p k) mix tyok Tryz.func86 trivial (by kernel_rfl) (λa0 a1 a2=>by show _=_;kernel_rfl)
noncomputable def Yae.l0 {β:Type} (k:Nat) (aF:BA) (K:Bool->Option β) (L0:Int->Option β) (v:Int):Option β:=
 match v with
 |aG=>bif(decide ((aG:Int)<(aF.size:Int))) then(atStr aF aG λb3=>Y4.f k (IntKind.wrap .i64 b3) 32 126 (λy4=>bif(!y4) then(K false) else(L0 (IntKind.wrap .i64 (aG+1))))) else(K (decide (((aF.size:Int):Int)<=100)))
noncomputable def Yae.m {β:Type} (k:Nat) (a0:BA) (K:Bool->Option β) (F:(BA->Int->Option β)):Option β:=
 F a0 (0)
noncomputable def Yae.g {β:Type} (k:Nat) (a0:BA) (K:Bool->Option β):Option β:=
 ZA (Yae.l0 k a0 K) k (0)
noncomputable def Yae.t (k:Nat) (a0:BA):Option (Bool):=Yae.g k a0 (λz0=>some z0)
noncomputable def Yae.f {β:Type} (k:Nat) (a0:BA) (K:Bool->Option β):Option β:=bd1 (Yae.t k a0) K
noncomputable def Yae.e (k:Nat):Zj:=ent [.d .s] [1] [.b] [4] false (Yae.t k)
noncomputable def Yae.p (k:Nat):Pro:=⟨Tryz.prog,[(86,Y4.e k)],Zv [(2,kp [0,3])] false [],k⟩
noncomputable def Yae.d (k:Nat) (a0:BA):Ex->St->Option (Bool):=(Yae.p k).fin Tryz.f146 [.d (.str a0)] [1] [.b]
noncomputable def Yae.s0 (aF:BA) (v:Int):St:=
 match v with
 |aG=>ZaA 19 [(0,.d false (.str aF)),(3,.d true (.int .i64 aG))] []
noncomputable def Yae.r0 (k:Nat) (a0 aF:BA) (n:Nat) (v:Int):Option (Bool):=(Yae.p k).lp (ZI Tryz.f146) 2 [1,0,1,0] (Yae.d k a0) n (Yae.s0 aF v)
theorem Yae.l0_eq (k:Nat) (a0 aF:BA):∀ n v,Yae.r0 k a0 aF n v=ZA (Yae.l0 k aF (λz0=>some z0)) n v:=
 Zz (Yae.s0 aF) _ λL0 v=>by kernel_rfl
theorem Yae.ok (k:Nat):Zf Tryz.prog 146 (Yae.e k):=Zk (Yae.p k) mix tyok Tryz.func146 (Y4.ok k) (by kernel_rfl) (λa0=>Eq.trans (b:=Yae.m k a0 (λz0=>some z0) (λaF=>Yae.r0 k a0 aF k)) (by kernel_rfl) (congrArg (Yae.m k a0 (λz0=>some z0)) (funext λaF=>funext λv=>Yae.l0_eq k a0 aF k v) :))
noncomputable def Yp.l0 {β:Type} (k:Nat) (aF:BA) (K:Bool->Option β) (L0:Int->Option β) (v:Int):Option β:=
 match v with
 |aG=>bif(decide ((aG:Int)<(aF.size:Int))) then(atStr aF aG λb9=>Y4.f k (IntKind.wrap .i64 b9) 97 122 (λy10=>bif(!y10) then(atStr aF aG λb11=>Y4.f k (IntKind.wrap .i64 b11) 48 57 (λy12=>bif(!y12) then(atStr aF aG λb13=>bif((b13:Int)!=45) then(K false) else(L0 (IntKind.wrap .i64 (aG+1)))) else(L0 (IntKind.wrap .i64 (aG+1))))) else(L0 (IntKind.wrap .i64 (aG+1))))) else(Y4.f k (aF.size:Int) 1 20 (λy14=>bif y14 then(atStr aF 0 λb15=>bif((b15:Int)!=45) then(atStr aF (IntKind.wrap .i64 ((aF.size:Int)-1)) λb16=>K ((b16:Int)!=45)) else(K false)) else(K false)))
noncomputable def Yp.m {β:Type} (k:Nat) (a0:BA) (K:Bool->Option β) (F:(BA->Int->Option β)):Option β:=
 F a0 (0)
noncomputable def Yp.g {β:Type} (k:Nat) (a0:BA) (K:Bool->Option β):Option β:=
 ZA (Yp.l0 k a0 K) k (0)
noncomputable def Yp.t (k:Nat) (a0:BA):Option (Bool):=Yp.g k a0 (λz0=>some z0)
noncomputable def Yp.f {β:Type} (k:Nat) (a0:BA) (K:Bool->Option β):Option β:=bd1 (Yp.t k a0) K
noncomputable def Yp.e (k:Nat):Zj:=ent [.d .s] [1] [.b] [4] false (Yp.t k)
noncomputable def Yp.p (k:Nat):Pro:=⟨Tryz.prog,[(86,Y4.e k)],Zv [(2,kp [0,3])] false [],k⟩
noncomputable def Yp.d (k:Nat) (a0:BA):Ex->St->Option (Bool):=(Yp.p k).fin Tryz.f107 [.d (.str a0)] [1] [.b]
noncomputable def Yp.s0 (aF:BA) (v:Int):St:=
 match v with
 |aG=>ZaA 46 [(0,.d false (.str aF)),(3,.d true (.int .i64 aG))] []
noncomputable def Yp.r0 (k:Nat) (a0 aF:BA) (n:Nat) (v:Int):Option (Bool):=(Yp.p k).lp (ZI Tryz.f107) 2 [1,0,1,0] (Yp.d k a0) n (Yp.s0 aF v)
theorem Yp.l0_eq (k:Nat) (a0 aF:BA):∀ n v,Yp.r0 k a0 aF n v=ZA (Yp.l0 k aF (λz0=>some z0)) n v:=
 Zz (Yp.s0 aF) _ λL0 v=>by kernel_rfl
theorem Yp.ok (k:Nat):Zf Tryz.prog 107 (Yp.e k):=Zk (Yp.p k) mix tyok Tryz.func107 (Y4.ok k) (by kernel_rfl) (λa0=>Eq.trans (b:=Yp.m k a0 (λz0=>some z0) (λaF=>Yp.r0 k a0 aF k)) (by kernel_rfl) (congrArg (Yp.m k a0 (λz0=>some z0)) (funext λaF=>funext λv=>Yp.l0_eq k a0 aF k v) :))
noncomputable def Yab.l0 {β:Type} (k:Nat) (aG:Int) (aH:BA) (aI:Int) (aJ aM:LD) (K:Bool->Option β) (L0:Int->Option β) (v:Int):Option β:=
 match v with
 |aF=>bif(decide ((aF:Int)<(aJ.length:Int))) then(atR aJ aF [.s] λx29=>(Yp.f k x29 (λy30=>bif(!y30) then(K false) else(bif(decide ((aF:Int)>0)) then(atR aJ (IntKind.wrap .i64 (aF-1)) [.s] λx34=>(atR aJ aF [.s] λx38=>(bif(!(strLt x34 x38)) then(K false) else(L0 (IntKind.wrap .i64 (aF+1)))))) else(L0 (IntKind.wrap .i64 (aF+1))))))) else(K (((aJ.length:Int):Int)==(aM.length:Int)))
noncomputable def Yab.m {β:Type} (k:Nat) (aB:Int) (aA:BA) (aC:Int) (aD aE:LD) (K:Bool->Option β) (F:(Int->BA->Int->LD->LD->Int->Option β)):Option β:=
 F aB aA aC aD aE (0)
noncomputable def Yab.g {β:Type} (k:Nat) (aB:Int) (aA:BA) (aC:Int) (aD aE:LD) (K:Bool->Option β):Option β:=
 ZA (Yab.l0 k aB aA aC aD aE K) k (0)
noncomputable def Yab.t (k:Nat) (aB:Int) (aA:BA) (aC:Int) (aD aE:LD):Option (Bool):=Yab.g k aB aA aC aD aE (λz0=>some z0)
noncomputable def Yab.f {β:Type} (k:Nat) (aB:Int) (aA:BA) (aC:Int) (aD aE:LD) (K:Bool->Option β):Option β:=bd1 (Yab.t k aB aA aC aD aE) K
noncomputable def Yab.e (k:Nat):Zj:=ent [.agg [.n,.s,.n,.l,.l]] [1] [.b] [4] false (Yab.t k)
noncomputable def Yab.p (k:Nat):Pro:=⟨Tryz.prog,[(107,Yp.e k)],Zv [(2,kp [1,3])] false [],k⟩
noncomputable def Yab.d (k:Nat) (aB:Int) (aA:BA) (aC:Int) (aD aE:LD):Ex->St->Option (Bool):=(Yab.p k).fin Tryz.f147 [.agg [.int .i64 aB,.str aA,.int .i64 aC,.sl aD,.sl aE]] [1] [.b]
noncomputable def Yab.s0 (aG:Int) (aH:BA) (aI:Int) (aJ aM:LD) (v:Int):St:=
 match v with
 |aF=>ZaA 43 [(1,.bp 0 0),(3,.d true (.int .i64 aF))] [.box none 54 [.d false (.int .i64 aG),.d false (.str aH),.d false (.int .i64 aI),.d false (.sl aJ),.d false (.sl aM)]]
noncomputable def Yab.r0 (k:Nat) (aB:Int) (aA:BA) (aC:Int) (aD aE:LD) (aG:Int) (aH:BA) (aI:Int) (aJ aM:LD) (n:Nat) (v:Int):Option (Bool):=(Yab.p k).lp (ZI Tryz.f147) 2 [1,0,1,0] (Yab.d k aB aA aC aD aE) n (Yab.s0 aG aH aI aJ aM v)
theorem Yab.l0_eq (k:Nat) (aB:Int) (aA:BA) (aC:Int) (aD aE:LD) (aG:Int) (aH:BA) (aI:Int) (aJ aM:LD):∀ n v,Yab.r0 k aB aA aC aD aE aG aH aI aJ aM n v=ZA (Yab.l0 k aG aH aI aJ aM (λz0=>some z0)) n v:=
 Zz (Yab.s0 aG aH aI aJ aM) _ λL0 v=>by kernel_rfl
theorem Yab.ok (k:Nat):Zf Tryz.prog 147 (Yab.e k):=Zk (Yab.p k) mix tyok Tryz.func147 (Yp.ok k) (by kernel_rfl) (λaB aA aC aD aE=>Eq.trans (b:=Yab.m k aB aA aC aD aE (λz0=>some z0) (λaG aH aI aJ aM=>Yab.r0 k aB aA aC aD aE aG aH aI aJ aM k)) (by kernel_rfl) (congrArg (Yab.m k aB aA aC aD aE (λz0=>some z0)) (funext λaG=>funext λaH=>funext λaI=>funext λaJ=>funext λaM=>funext λv=>Yab.l0_eq k aB aA aC aD aE aG aH aI aJ aM k v) :))
noncomputable def YF.l0 {β:Type} (k:Nat) (r_spec_l4Look:Int->BA->Int->LD->LD->Int->(Int->Option β)->Option β) (aF aI:Int) (aJ:BA) (aM:Int) (aP aQ:LD) (K:Int->Option β) (L0:(Int×Int)->Option β) (v:Int×Int):Option β:=
 match v with
 |(aG,aH)=>bif(decide ((aH:Int)<(aQ.length:Int))) then(atR aQ aH [.n,.s,.n,.l,.l] λx44 x47 x50 x53 x56=>(r_spec_l4Look x44 x47 x50 x53 x56 (IntKind.wrap .i64 (aF-1)) (λy57=>bif((y57:Int)==0) then(K 0) else(bif(decide (((IntKind.wrap .i64 (aG+y57)):Int)>300)) then(K 0) else(L0 (IntKind.wrap .i64 (aG+y57),IntKind.wrap .i64 (aH+1))))))) else(let J1:=(bif(Zae aJ (⟨#[]⟩:BA)) then(bif(!((aM:Int)==0)) then(K 0) else(K aG)) else(K 0));let J0:=(bif(((aP.length:Int):Int)==0) then J1 else(K 0));bif(((aP.length:Int):Int)==0) then(bif((aI:Int)==1) then(bif(((aQ.length:Int):Int)==0) then(bif((aM:Int)==0) then(Yae.f k aJ (λy58=>bif(!y58) then(K 0) else(K aG))) else(K 0)) else(K 0)) else(bif((aI:Int)==2) then(bif(((aQ.length:Int):Int)==0) then(bif(!(Zae aJ (⟨#[]⟩:BA))) then(K 0) else(K aG)) else(K 0)) else(bif((aI:Int)==3) then(bif(((aQ.length:Int):Int)==0) then(bif(Zae aJ (⟨#[]⟩:BA)) then(Y4.f k aM 0 1 (λy59=>bif(!y59) then(K 0) else(K aG))) else(K 0)) else(K 0)) else(bif((aI:Int)==4) then J0 else(bif((aI:Int)==5) then(Yab.f k aI aJ aM aP aQ (λy60=>bif y60 then J1 else(K 0))) else(K 0)))))) else(bif((aI:Int)==1) then(K 0) else(bif((aI:Int)==2) then(K 0) else(bif((aI:Int)==3) then(K 0) else(bif((aI:Int)==4) then J0 else(bif((aI:Int)==5) then(Yab.f k aI aJ aM aP aQ (λy61=>bif y61 then J1 else(K 0))) else(K 0)))))))
noncomputable def YF.m {β:Type} (k:Nat) (r_spec_l4Look:Int->BA->Int->LD->LD->Int->(Int->Option β)->Option β) (aB:Int) (aA:BA) (aC:Int) (aD aE:LD) (a1:Int) (K:Int->Option β) (F:(Int->Int->BA->Int->LD->LD->(Int×Int)->Option β)):Option β:=
 bif((a1:Int)==0) then(K 0) else(F a1 aB aA aC aD aE (1,0))
noncomputable def YF.body {β:Type} (k:Nat) (r_spec_l4Look:Int->BA->Int->LD->LD->Int->(Int->Option β)->Option β) (aB:Int) (aA:BA) (aC:Int) (aD aE:LD) (a1:Int) (K:Int->Option β):Option β:=
 bif((a1:Int)==0) then(K 0) else(ZA (YF.l0 k r_spec_l4Look a1 aB aA aC aD aE K) k (1,0))
noncomputable def YF.w {β:Type} (r:Int->BA->Int->LD->LD->Int->Option (Int)) (aB:Int) (aA:BA) (aC:Int) (aD aE:LD) (a1:Int) (K:Int->Option β):Option β:=bd1 (r aB aA aC aD aE a1) K
noncomputable def YF.all:Nat->(Int->BA->Int->LD->LD->Int->Option (Int))
 |0=>(λ_ _ _ _ _ _=>none)
 |k+1=>(λr=>(λaB aA aC aD aE a1=>YF.body k (YF.w r) aB aA aC aD aE a1 (λz0=>some z0))) (YF.all k)
noncomputable def YF.t (k:Nat) (aB:Int) (aA:BA) (aC:Int) (aD aE:LD) (a1:Int):Option (Int):=(YF.all k) aB aA aC aD aE a1
noncomputable def YF.f {β:Type} (k:Nat) (aB:Int) (aA:BA) (aC:Int) (aD aE:LD) (a1:Int) (K:Int->Option β):Option β:=YF.w (YF.t k) aB aA aC aD aE a1 K
noncomputable def YF.g {β:Type} (k:Nat) (aB:Int) (aA:BA) (aC:Int) (aD aE:LD) (a1:Int) (K:Int->Option β):Option β:=YF.body k (YF.f k) aB aA aC aD aE a1 K
theorem YF.t_succ (k:Nat) (aB:Int) (aA:BA) (aC:Int) (aD aE:LD) (a1:Int):YF.t (k+1) aB aA aC aD aE a1=YF.g k aB aA aC aD aE a1 (λz0=>some z0):=rfl
noncomputable def YF.e (k:Nat):Zj:=ent [.agg [.n,.s,.n,.l,.l],.d .n] [1] [.n] [3] false (YF.t k)
noncomputable def YF.p (k:Nat):Pro:=⟨Tryz.prog,[(108,YF.e k),(146,Yae.e k),(86,Y4.e k),(147,Yab.e k)],Zv [(5,kp [1,2,5,6])] false [],k⟩
noncomputable def YF.d (k:Nat) (aB:Int) (aA:BA) (aC:Int) (aD aE:LD) (a1:Int):Ex->St->Option (Int):=(YF.p k).fin Tryz.f108 [.agg [.int .i64 aB,.str aA,.int .i64 aC,.sl aD,.sl aE],.d (.int .i64 a1)] [1] [.n]
noncomputable def YF.s0 (aF aI:Int) (aJ:BA) (aM:Int) (aP aQ:LD) (v:Int×Int):St:=
 match v with
 |(aG,aH)=>ZaA 117 [(1,.d false (.int .i64 aF)),(2,.bp 0 0),(5,.d true (.int .i64 aG)),(6,.d true (.int .i64 aH))] [.box none 54 [.d false (.int .i64 aI),.d false (.str aJ),.d false (.int .i64 aM),.d false (.sl aP),.d false (.sl aQ)]]
noncomputable def YF.r0 (k:Nat) (aB:Int) (aA:BA) (aC:Int) (aD aE:LD) (a1 aF aI:Int) (aJ:BA) (aM:Int) (aP aQ:LD) (n:Nat) (v:Int×Int):Option (Int):=(YF.p k).lp (ZI Tryz.f108) 5 [1,1,1,0,1,0] (YF.d k aB aA aC aD aE a1) n (YF.s0 aF aI aJ aM aP aQ v)
theorem YF.l0_eq (k:Nat) (aB:Int) (aA:BA) (aC:Int) (aD aE:LD) (a1 aF aI:Int) (aJ:BA) (aM:Int) (aP aQ:LD):∀ n v,YF.r0 k aB aA aC aD aE a1 aF aI aJ aM aP aQ n v=ZA (YF.l0 k (YF.f k) aF aI aJ aM aP aQ (λz0=>some z0)) n v:=
 Zz (YF.s0 aF aI aJ aM aP aQ) _ λL0 v=>by obtain⟨aG,aH⟩:=v;kernel_rfl
theorem YF.oks (k:Nat):Zf Tryz.prog 108 (YF.e k):=by
 induction k with
 |zero=>exact Zba Tryz.func108 (by kernel_rfl) (λ_ _ _ _ _ _=>rfl)
 |succ k ih=>exact Zk (YF.p k) mix tyok Tryz.func108 ⟨ih,Yae.ok k,Y4.ok k,Yab.ok k⟩ (by kernel_rfl) (λaB aA aC aD aE a1=>Eq.trans (b:=YF.m k (YF.f k) aB aA aC aD aE a1 (λz0=>some z0) (λaF aI aJ aM aP aQ=>YF.r0 k aB aA aC aD aE a1 aF aI aJ aM aP aQ k)) (by kernel_rfl) ((congrArg (YF.m k (YF.f k) aB aA aC aD aE a1 (λz0=>some z0)) (funext λaF=>funext λaI=>funext λaJ=>funext λaM=>funext λaP=>funext λaQ=>funext λv=>YF.l0_eq k aB aA aC aD aE a1 aF aI aJ aM aP aQ k v)).trans (YF.t_succ k aB aA aC aD aE a1).symm))
theorem YF.ok (k:Nat):Zf Tryz.prog 108 (YF.e k):=(YF.oks k)
noncomputable def Yan.g {β:Type} (k:Nat) (aB:Int) (aA:BA) (aC:Int) (aD aE:LD) (K:Bool->Option β):Option β:=
 YF.f k aB aA aC aD aE 6 (λy62=>K (decide ((y62:Int)>0)))
noncomputable def Yan.t (k:Nat) (aB:Int) (aA:BA) (aC:Int) (aD aE:LD):Option (Bool):=Yan.g k aB aA aC aD aE (λz0=>some z0)
noncomputable def Yan.f {β:Type} (k:Nat) (aB:Int) (aA:BA) (aC:Int) (aD aE:LD) (K:Bool->Option β):Option β:=bd1 (Yan.t k aB aA aC aD aE) K
noncomputable def Yan.e (k:Nat):Zj:=ent [.agg [.n,.s,.n,.l,.l]] [1] [.b] [4] false (Yan.t k)
noncomputable def Yan.p (k:Nat):Pro:=⟨Tryz.prog,[(108,YF.e k)],Zv [] false [],k⟩
theorem Yan.ok (k:Nat):Zf Tryz.prog 49 (Yan.e k):=Zk (Yan.p k) mix tyok Tryz.func49 (YF.ok k) (by kernel_rfl) (λaB aA aC aD aE=>by show _=_;kernel_rfl)
noncomputable def YC.l0 {β:Type} (k:Nat) (r_spec_l4Copy:Int->BA->Int->LD->LD->(Int->BA->Int->LC->LC->Option β)->Option β) (aG:Int) (aH:BA) (aI:Int) (aJ aM:LD) (aP:Int) (aQ:BA) (aT aS:Int) (bB:BA) (bD:Int) (bE:LC) (K:Int->BA->Int->LC->LC->Option β) (L0:(Int×LC)->Option β) (v:Int×LC):Option β:=
 match v with
 |(aF,bM)=>bif(decide ((aF:Int)<(aM.length:Int))) then(atR aM aF [.n,.s,.n,.l,.l] λx25 x28 x31 x34 x37=>(r_spec_l4Copy x25 x28 x31 x34 x37 (λy38 y39 y40 y41 y42=>Zd (bM.length+([[.d (.int .i64 y38),.d (.str y39),.d (.int .i64 y40),.own y41,.own y42]]:LC).length<=Z8) (L0 (IntKind.wrap .i64 (aF+1),bM++([[.d (.int .i64 y38),.d (.str y39),.d (.int .i64 y40),.own y41,.own y42]]:LC)))))) else(K aS bB bD bE bM)
noncomputable def YC.m {β:Type} (k:Nat) (r_spec_l4Copy:Int->BA->Int->LD->LD->(Int->BA->Int->LC->LC->Option β)->Option β) (aB:Int) (aA:BA) (aC:Int) (aD aE:LD) (K:Int->BA->Int->LC->LC->Option β) (F:(Int->BA->Int->LD->LD->Int->BA->Int->Int->BA->Int->LC->(Int×LC)->Option β)):Option β:=
 Zd (Zcg 1 aD) (Zd (([]:LC).length+(aD.map (·.map C.d)).length<=Z8) (F aB aA aC aD aE 0 (⟨#[]⟩:BA) 0 aB aA aC (([]:LC)++(aD.map (·.map C.d))) (0,([]:LC))))
noncomputable def YC.body {β:Type} (k:Nat) (r_spec_l4Copy:Int->BA->Int->LD->LD->(Int->BA->Int->LC->LC->Option β)->Option β) (aB:Int) (aA:BA) (aC:Int) (aD aE:LD) (K:Int->BA->Int->LC->LC->Option β):Option β:=
 Zd (Zcg 1 aD) (Zd (([]:LC).length+(aD.map (·.map C.d)).length<=Z8) (ZA (YC.l0 k r_spec_l4Copy aB aA aC aD aE 0 (⟨#[]⟩:BA) 0 aB aA aC (([]:LC)++(aD.map (·.map C.d))) K) k (0,([]:LC))))
noncomputable def YC.w {β:Type} (r:Int->BA->Int->LD->LD->Option (Int×BA×Int×LC×LC)) (aB:Int) (aA:BA) (aC:Int) (aD aE:LD) (K:Int->BA->Int->LC->LC->Option β):Option β:=bd5 (r aB aA aC aD aE) K
noncomputable def YC.all:Nat->(Int->BA->Int->LD->LD->Option (Int×BA×Int×LC×LC))
 |0=>(λ_ _ _ _ _=>none)
 |k+1=>(λr=>(λaB aA aC aD aE=>YC.body k (YC.w r) aB aA aC aD aE (λz0 z1 z2 z3 z4=>some (z0,z1,z2,z3,z4)))) (YC.all k)
noncomputable def YC.t (k:Nat) (aB:Int) (aA:BA) (aC:Int) (aD aE:LD):Option (Int×BA×Int×LC×LC):=(YC.all k) aB aA aC aD aE
noncomputable def YC.f {β:Type} (k:Nat) (aB:Int) (aA:BA) (aC:Int) (aD aE:LD) (K:Int->BA->Int->LC->LC->Option β):Option β:=YC.w (YC.t k) aB aA aC aD aE K
noncomputable def YC.g {β:Type} (k:Nat) (aB:Int) (aA:BA) (aC:Int) (aD aE:LD) (K:Int->BA->Int->LC->LC->Option β):Option β:=YC.body k (YC.f k) aB aA aC aD aE K
theorem YC.t_succ (k:Nat) (aB:Int) (aA:BA) (aC:Int) (aD aE:LD):YC.t (k+1) aB aA aC aD aE=YC.g k aB aA aC aD aE (λz0 z1 z2 z3 z4=>some (z0,z1,z2,z3,z4)):=rfl
noncomputable def YC.e (k:Nat):Zj:=ent [.agg [.n,.s,.n,.l,.l]] [5] [.n,.s,.n,.o,.o] [54] false (YC.t k)
noncomputable def YC.p (k:Nat):Pro:=⟨Tryz.prog,[(70,YC.e k)],Zv [(3,kp [1,2,3,4] [] [(3,4,.row true 52)])] false [],k⟩
noncomputable def YC.d (k:Nat) (aB:Int) (aA:BA) (aC:Int) (aD aE:LD):Ex->St->Option (Int×BA×Int×LC×LC):=(YC.p k).fin Tryz.f70 [.agg [.int .i64 aB,.str aA,.int .i64 aC,.sl aD,.sl aE]] [5] [.n,.s,.n,.o,.o]
noncomputable def YC.s0 (aG:Int) (aH:BA) (aI:Int) (aJ aM:LD) (aP:Int) (aQ:BA) (aT aS:Int) (bB:BA) (bD:Int) (bE:LC) (v:Int×LC):St:=
 match v with
 |(aF,bM)=>ZaA 35 [(1,.bp 0 0),(2,.bp 1 0),(3,.bp 2 0),(4,.d true (.int .i64 aF))] [.box none 54 [.d false (.int .i64 aG),.d false (.str aH),.d false (.int .i64 aI),.d false (.sl aJ),.d false (.sl aM)],.box none 54 [.d true (.int .i64 aP),.d true (.str aQ),.d true (.int .i64 aT),.nil,.nil],.box none 54 [.d false (.int .i64 aS),.d false (.str bB),.d false (.int .i64 bD),.row 3,.row 4],.row none true 45 bE,.row none true 52 bM]
noncomputable def YC.r0 (k:Nat) (aB:Int) (aA:BA) (aC:Int) (aD aE:LD) (aG:Int) (aH:BA) (aI:Int) (aJ aM:LD) (aP:Int) (aQ:BA) (aT aS:Int) (bB:BA) (bD:Int) (bE:LC) (n:Nat) (v:Int×LC):Option (Int×BA×Int×LC×LC):=(YC.p k).lp (ZI Tryz.f70) 3 [1,1,0,1,0] (YC.d k aB aA aC aD aE) n (YC.s0 aG aH aI aJ aM aP aQ aT aS bB bD bE v)
theorem YC.l0_eq (k:Nat) (aB:Int) (aA:BA) (aC:Int) (aD aE:LD) (aG:Int) (aH:BA) (aI:Int) (aJ aM:LD) (aP:Int) (aQ:BA) (aT aS:Int) (bB:BA) (bD:Int) (bE:LC):∀ n v,YC.r0 k aB aA aC aD aE aG aH aI aJ aM aP aQ aT aS bB bD bE n v=ZA (YC.l0 k (YC.f k) aG aH aI aJ aM aP aQ aT aS bB bD bE (λz0 z1 z2 z3 z4=>some (z0,z1,z2,z3,z4))) n v:=
 Zz (YC.s0 aG aH aI aJ aM aP aQ aT aS bB bD bE) _ λL0 v=>by obtain⟨aF,bM⟩:=v;kernel_rfl
theorem YC.oks (k:Nat):Zf Tryz.prog 70 (YC.e k):=by
 induction k with
 |zero=>exact Zba Tryz.func70 (by kernel_rfl) (λ_ _ _ _ _=>rfl)
 |succ k ih=>exact Zk (YC.p k) mix tyok Tryz.func70 ih (by kernel_rfl) (λaB aA aC aD aE=>Eq.trans (b:=YC.m k (YC.f k) aB aA aC aD aE (λz0 z1 z2 z3 z4=>some (z0,z1,z2,z3,z4)) (λaG aH aI aJ aM aP aQ aT aS bB bD bE=>YC.r0 k aB aA aC aD aE aG aH aI aJ aM aP aQ aT aS bB bD bE k)) (by kernel_rfl) ((congrArg (YC.m k (YC.f k) aB aA aC aD aE (λz0 z1 z2 z3 z4=>some (z0,z1,z2,z3,z4))) (funext λaG=>funext λaH=>funext λaI=>funext λaJ=>funext λaM=>funext λaP=>funext λaQ=>funext λaT=>funext λaS=>funext λbB=>funext λbD=>funext λbE=>funext λv=>YC.l0_eq k aB aA aC aD aE aG aH aI aJ aM aP aQ aT aS bB bD bE k v)).trans (YC.t_succ k aB aA aC aD aE).symm))
theorem YC.ok (k:Nat):Zf Tryz.prog 70 (YC.e k):=(YC.oks k)
noncomputable def YB.l1 {β:Type} (k:Nat) (bN:BA) (K:Int->Option β) (L1:(Int×Int)->Option β) (v:Int×Int):Option β:=
 match v with
 |(v1_1,bP)=>bif(decide ((bP:Int)<(bN.size:Int))) then(atStr bN bP λb12=>Y4.f k (IntKind.wrap .i64 b12) 48 57 (λy13=>bif(!y13) then(K (-1)) else(atStr bN bP λb14=>L1 (IntKind.wrap .i64 ((IntKind.wrap .i64 (v1_1*10))+(IntKind.wrap .i64 (IntKind.wrap .u8 (b14-48)))),IntKind.wrap .i64 (bP+1))))) else(K v1_1)
noncomputable def YB.l0 {β:Type} (k:Nat) (aF:BA) (K:Int->Option β) (L0:(Int×Int)->Option β) (v:Int×Int):Option β:=
 match v with
 |(aG,aH)=>bif(decide ((aH:Int)<(aF.size:Int))) then(atStr aF aH λb6=>Y4.f k (IntKind.wrap .i64 b6) 48 57 (λy7=>bif(!y7) then(K (-1)) else(atStr aF aH λb8=>L0 (IntKind.wrap .i64 ((IntKind.wrap .i64 (aG*10))+(IntKind.wrap .i64 (IntKind.wrap .u8 (b8-48)))),IntKind.wrap .i64 (aH+1))))) else(K aG)
noncomputable def YB.m {β:Type} (k:Nat) (a0:BA) (K:Int->Option β) (F:(BA->(Int×Int)->Option β)×(BA->(Int×Int)->Option β)):Option β:=
 Y4.f k (a0.size:Int) 1 9 (λy1=>bif(!y1) then(K (-1)) else(bif(decide (((a0.size:Int):Int)>1)) then(atStr a0 0 λb2=>bif((b2:Int)==48) then(K (-1)) else(F.1 a0 (0,0))) else(F.2 a0 (0,0))))
noncomputable def YB.g {β:Type} (k:Nat) (a0:BA) (K:Int->Option β):Option β:=
 Y4.f k (a0.size:Int) 1 9 (λy1=>bif(!y1) then(K (-1)) else(bif(decide (((a0.size:Int):Int)>1)) then(atStr a0 0 λb2=>bif((b2:Int)==48) then(K (-1)) else(ZA (YB.l0 k a0 K) k (0,0))) else(ZA (YB.l1 k a0 K) k (0,0))))
noncomputable def YB.t (k:Nat) (a0:BA):Option (Int):=YB.g k a0 (λz0=>some z0)
noncomputable def YB.f {β:Type} (k:Nat) (a0:BA) (K:Int->Option β):Option β:=bd1 (YB.t k a0) K
noncomputable def YB.e (k:Nat):Zj:=ent [.d .s] [1] [.n] [3] false (YB.t k)
noncomputable def YB.p (k:Nat):Pro:=⟨Tryz.prog,[(86,Y4.e k)],Zv [(5,kp [0,3,4])] false [],k⟩
noncomputable def YB.d (k:Nat) (a0:BA):Ex->St->Option (Int):=(YB.p k).fin Tryz.f182 [.d (.str a0)] [1] [.n]
noncomputable def YB.s0 (aF:BA) (v:Int×Int):St:=
 match v with
 |(aG,aH)=>ZaA 40 [(0,.d false (.str aF)),(3,.d true (.int .i64 aG)),(4,.d true (.int .i64 aH))] []
noncomputable def YB.r0 (k:Nat) (a0 aF:BA) (n:Nat) (v:Int×Int):Option (Int):=(YB.p k).lp (ZI Tryz.f182) 5 [1,1,1,0,1,0] (YB.d k a0) n (YB.s0 aF v)
noncomputable def YB.s1 (bN:BA) (v:Int×Int):St:=
 match v with
 |(v1_1,bP)=>ZaA 40 [(0,.d false (.str bN)),(3,.d true (.int .i64 v1_1)),(4,.d true (.int .i64 bP))] []
noncomputable def YB.r1 (k:Nat) (a0 bN:BA) (n:Nat) (v:Int×Int):Option (Int):=(YB.p k).lp (ZI Tryz.f182) 5 [1,1,1,0,1,0] (YB.d k a0) n (YB.s1 bN v)
theorem YB.l1_eq (k:Nat) (a0 bN:BA):∀ n v,YB.r1 k a0 bN n v=ZA (YB.l1 k bN (λz0=>some z0)) n v:=
 Zz (YB.s1 bN) _ λL1 v=>by obtain⟨v1_1,bP⟩:=v;kernel_rfl
theorem YB.l0_eq (k:Nat) (a0 aF:BA):∀ n v,YB.r0 k a0 aF n v=ZA (YB.l0 k aF (λz0=>some z0)) n v:=
 Zz (YB.s0 aF) _ λL0 v=>by obtain⟨aG,aH⟩:=v;kernel_rfl
theorem YB.ok (k:Nat):Zf Tryz.prog 182 (YB.e k):=Zk (YB.p k) mix tyok Tryz.func182 (Y4.ok k) (by kernel_rfl) (λa0=>Eq.trans (b:=YB.m k a0 (λz0=>some z0) ((λaF=>YB.r0 k a0 aF k),(λbN=>YB.r1 k a0 bN k))) (by kernel_rfl) (congrArg (YB.m k a0 (λz0=>some z0)) (pair_eq (funext λaF=>funext λv=>YB.l0_eq k a0 aF k v) (funext λbN=>funext λv=>YB.l1_eq k a0 bN k v)) :))
noncomputable def Yad.l0 {β:Type} (k:Nat) (aF:LD) (K:Bool->Option β) (L0:Int->Option β) (v:Int):Option β:=
 match v with
 |aG=>bif(decide ((aG:Int)<(aF.length:Int))) then(atR aF aG [.s] λx20=>(Yp.f k x20 (λy21=>bif(!y21) then(atR aF aG [.s] λx25=>(YB.f k x25 (λy26=>bif(decide ((y26:Int)<0)) then(K false) else(L0 (IntKind.wrap .i64 (aG+1)))))) else(L0 (IntKind.wrap .i64 (aG+1)))))) else(Y4.f k (aF.length:Int) 1 5 (λy27=>K y27))
noncomputable def Yad.m {β:Type} (k:Nat) (a0:LD) (K:Bool->Option β) (F:(LD->Int->Option β)):Option β:=
 F a0 (0)
noncomputable def Yad.g {β:Type} (k:Nat) (a0:LD) (K:Bool->Option β):Option β:=
 ZA (Yad.l0 k a0 K) k (0)
noncomputable def Yad.t (k:Nat) (a0:LD):Option (Bool):=Yad.g k a0 (λz0=>some z0)
noncomputable def Yad.f {β:Type} (k:Nat) (a0:LD) (K:Bool->Option β):Option β:=bd1 (Yad.t k a0) K
noncomputable def Yad.e (k:Nat):Zj:=ent [.d .l] [1] [.b] [4] false (Yad.t k)
noncomputable def Yad.p (k:Nat):Pro:=⟨Tryz.prog,[(107,Yp.e k),(182,YB.e k),(86,Y4.e k)],Zv [(2,kp [0,3])] false [],k⟩
noncomputable def Yad.d (k:Nat) (a0:LD):Ex->St->Option (Bool):=(Yad.p k).fin Tryz.f158 [.d (.sl a0)] [1] [.b]
noncomputable def Yad.s0 (aF:LD) (v:Int):St:=
 match v with
 |aG=>ZaA 27 [(0,.d false (.sl aF)),(3,.d true (.int .i64 aG))] []
noncomputable def Yad.r0 (k:Nat) (a0 aF:LD) (n:Nat) (v:Int):Option (Bool):=(Yad.p k).lp (ZI Tryz.f158) 2 [1,0,1,0] (Yad.d k a0) n (Yad.s0 aF v)
theorem Yad.l0_eq (k:Nat) (a0 aF:LD):∀ n v,Yad.r0 k a0 aF n v=ZA (Yad.l0 k aF (λz0=>some z0)) n v:=
 Zz (Yad.s0 aF) _ λL0 v=>by kernel_rfl
theorem Yad.ok (k:Nat):Zf Tryz.prog 158 (Yad.e k):=Zk (Yad.p k) mix tyok Tryz.func158 ⟨Yp.ok k,YB.ok k,Y4.ok k⟩ (by kernel_rfl) (λa0=>Eq.trans (b:=Yad.m k a0 (λz0=>some z0) (λaF=>Yad.r0 k a0 aF k)) (by kernel_rfl) (congrArg (Yad.m k a0 (λz0=>some z0)) (funext λaF=>funext λv=>Yad.l0_eq k a0 aF k v) :))
noncomputable def YaQ.g {β:Type} (k:Nat) (aB:Int) (aA:BA) (aC:Int) (aD aE:LD) (K:Bool->Option β):Option β:=
 bif((aB:Int)==0) then(bif(Zae aA (⟨#[]⟩:BA)) then(bif((aC:Int)==0) then(bif(((aD.length:Int):Int)==0) then(K (((aE.length:Int):Int)==0)) else(K false)) else(K false)) else(K false)) else(K false)
noncomputable def YaQ.t (k:Nat) (aB:Int) (aA:BA) (aC:Int) (aD aE:LD):Option (Bool):=YaQ.g k aB aA aC aD aE (λz0=>some z0)
noncomputable def YaQ.f {β:Type} (k:Nat) (aB:Int) (aA:BA) (aC:Int) (aD aE:LD) (K:Bool->Option β):Option β:=bd1 (YaQ.t k aB aA aC aD aE) K
noncomputable def YaQ.e (k:Nat):Zj:=ent [.agg [.n,.s,.n,.l,.l]] [1] [.b] [4] false (YaQ.t k)
noncomputable def YaQ.p (k:Nat):Pro:=⟨Tryz.prog,[],Zv [] false [],k⟩
theorem YaQ.ok (k:Nat):Zf Tryz.prog 159 (YaQ.e k):=Zk (YaQ.p k) mix tyok Tryz.func159 trivial (by kernel_rfl) (λaB aA aC aD aE=>by show _=_;kernel_rfl)
noncomputable def Y5.l0 {β:Type} (k:Nat) (aF:LD) (K:Bool->Option β) (L0:Int->Option β) (v:Int):Option β:=
 match v with
 |aG=>bif(decide ((aG:Int)<(aF.length:Int))) then(atR aF aG [.n,.l,.n,.s,.n,.l,.l] λx35 x38 x41 x44 x47 x50 x53=>(Y4.f k x35 1 3 (λy54=>bif(!y54) then(K false) else(Yad.f k x38 (λy55=>bif(!y55) then(K false) else(bif((x35:Int)==2) then(YaQ.f k x41 x44 x47 x50 x53 (λy56=>bif(!y56) then(K false) else(bif((x35:Int)!=2) then(Yan.f k x41 x44 x47 x50 x53 (λy57=>bif(!y57) then(K false) else(L0 (IntKind.wrap .i64 (aG+1))))) else(L0 (IntKind.wrap .i64 (aG+1)))))) else(bif((x35:Int)!=2) then(Yan.f k x41 x44 x47 x50 x53 (λy58=>bif(!y58) then(K false) else(L0 (IntKind.wrap .i64 (aG+1))))) else(L0 (IntKind.wrap .i64 (aG+1)))))))))) else(K (decide (((aF.length:Int):Int)<=20)))
noncomputable def Y5.m {β:Type} (k:Nat) (a0:LD) (K:Bool->Option β) (F:(LD->Int->Option β)):Option β:=
 F a0 (0)
noncomputable def Y5.g {β:Type} (k:Nat) (a0:LD) (K:Bool->Option β):Option β:=
 ZA (Y5.l0 k a0 K) k (0)
noncomputable def Y5.t (k:Nat) (a0:LD):Option (Bool):=Y5.g k a0 (λz0=>some z0)
noncomputable def Y5.f {β:Type} (k:Nat) (a0:LD) (K:Bool->Option β):Option β:=bd1 (Y5.t k a0) K
noncomputable def Y5.e (k:Nat):Zj:=ent [.d .l] [1] [.b] [4] false (Y5.t k)
noncomputable def Y5.p (k:Nat):Pro:=⟨Tryz.prog,[(86,Y4.e k),(158,Yad.e k),(159,YaQ.e k),(49,Yan.e k)],Zv [(2,kp [0,3])] false [],k⟩
noncomputable def Y5.d (k:Nat) (a0:LD):Ex->St->Option (Bool):=(Y5.p k).fin Tryz.f125 [.d (.sl a0)] [1] [.b]
noncomputable def Y5.s0 (aF:LD) (v:Int):St:=
 match v with
 |aG=>ZaA 48 [(0,.d false (.sl aF)),(3,.d true (.int .i64 aG))] []
noncomputable def Y5.r0 (k:Nat) (a0 aF:LD) (n:Nat) (v:Int):Option (Bool):=(Y5.p k).lp (ZI Tryz.f125) 2 [1,0,1,0] (Y5.d k a0) n (Y5.s0 aF v)
theorem Y5.l0_eq (k:Nat) (a0 aF:LD):∀ n v,Y5.r0 k a0 aF n v=ZA (Y5.l0 k aF (λz0=>some z0)) n v:=
 Zz (Y5.s0 aF) _ λL0 v=>by kernel_rfl
theorem Y5.ok (k:Nat):Zf Tryz.prog 125 (Y5.e k):=Zk (Y5.p k) mix tyok Tryz.func125 ⟨Y4.ok k,Yad.ok k,YaQ.ok k,Yan.ok k⟩ (by kernel_rfl) (λa0=>Eq.trans (b:=Y5.m k a0 (λz0=>some z0) (λaF=>Y5.r0 k a0 aF k)) (by kernel_rfl) (congrArg (Y5.m k a0 (λz0=>some z0)) (funext λaF=>funext λv=>Y5.l0_eq k a0 aF k v) :))
noncomputable def Yac.l0 {β:Type} (k:Nat) (aF:BA) (aH:Int) (aI:BA) (aJ:Int) (aM aP:LD) (K L0:Int->Option β) (v:Int):Option β:=
 match v with
 |aG=>bif(decide ((aG:Int)<(aM.length:Int))) then(atR aM aG [.s] λx8=>(bif(Zae x8 aF) then(bif(decide ((aG:Int)<(aP.length:Int))) then(K aG) else(L0 (IntKind.wrap .i64 (aG+1)))) else(L0 (IntKind.wrap .i64 (aG+1))))) else(K (-1))
noncomputable def Yac.m {β:Type} (k:Nat) (aB:Int) (aA:BA) (aC:Int) (aD aE:LD) (a1:BA) (K:Int->Option β) (F:(BA->Int->BA->Int->LD->LD->Int->Option β)):Option β:=
 bif((aB:Int)==5) then(F a1 aB aA aC aD aE (0)) else(bif((aB:Int)==4) then(YB.f k a1 (λy9=>bif(decide ((y9:Int)<(aE.length:Int))) then(K y9) else(K (-1)))) else(K (-1)))
noncomputable def Yac.g {β:Type} (k:Nat) (aB:Int) (aA:BA) (aC:Int) (aD aE:LD) (a1:BA) (K:Int->Option β):Option β:=
 bif((aB:Int)==5) then(ZA (Yac.l0 k a1 aB aA aC aD aE K) k (0)) else(bif((aB:Int)==4) then(YB.f k a1 (λy9=>bif(decide ((y9:Int)<(aE.length:Int))) then(K y9) else(K (-1)))) else(K (-1)))
noncomputable def Yac.t (k:Nat) (aB:Int) (aA:BA) (aC:Int) (aD aE:LD) (a1:BA):Option (Int):=Yac.g k aB aA aC aD aE a1 (λz0=>some z0)
noncomputable def Yac.f {β:Type} (k:Nat) (aB:Int) (aA:BA) (aC:Int) (aD aE:LD) (a1:BA) (K:Int->Option β):Option β:=bd1 (Yac.t k aB aA aC aD aE a1) K
noncomputable def Yac.e (k:Nat):Zj:=ent [.agg [.n,.s,.n,.l,.l],.d .s] [1] [.n] [3] false (Yac.t k)
noncomputable def Yac.p (k:Nat):Pro:=⟨Tryz.prog,[(182,YB.e k)],Zv [(4,kp [1,2,5])] false [],k⟩
noncomputable def Yac.d (k:Nat) (aB:Int) (aA:BA) (aC:Int) (aD aE:LD) (a1:BA):Ex->St->Option (Int):=(Yac.p k).fin Tryz.f183 [.agg [.int .i64 aB,.str aA,.int .i64 aC,.sl aD,.sl aE],.d (.str a1)] [1] [.n]
noncomputable def Yac.s0 (aF:BA) (aH:Int) (aI:BA) (aJ:Int) (aM aP:LD) (v:Int):St:=
 match v with
 |aG=>ZaA 43 [(1,.d false (.str aF)),(2,.bp 0 0),(5,.d true (.int .i64 aG))] [.box none 54 [.d false (.int .i64 aH),.d false (.str aI),.d false (.int .i64 aJ),.d false (.sl aM),.d false (.sl aP)]]
noncomputable def Yac.r0 (k:Nat) (aB:Int) (aA:BA) (aC:Int) (aD aE:LD) (a1 aF:BA) (aH:Int) (aI:BA) (aJ:Int) (aM aP:LD) (n:Nat) (v:Int):Option (Int):=(Yac.p k).lp (ZI Tryz.f183) 4 [1,0,1,0,1,0,1,0] (Yac.d k aB aA aC aD aE a1) n (Yac.s0 aF aH aI aJ aM aP v)
theorem Yac.l0_eq (k:Nat) (aB:Int) (aA:BA) (aC:Int) (aD aE:LD) (a1 aF:BA) (aH:Int) (aI:BA) (aJ:Int) (aM aP:LD):∀ n v,Yac.r0 k aB aA aC aD aE a1 aF aH aI aJ aM aP n v=ZA (Yac.l0 k aF aH aI aJ aM aP (λz0=>some z0)) n v:=
 Zz (Yac.s0 aF aH aI aJ aM aP) _ λL0 v=>by kernel_rfl
theorem Yac.ok (k:Nat):Zf Tryz.prog 183 (Yac.e k):=Zk (Yac.p k) mix tyok Tryz.func183 (YB.ok k) (by kernel_rfl) (λaB aA aC aD aE a1=>Eq.trans (b:=Yac.m k aB aA aC aD aE a1 (λz0=>some z0) (λaF aH aI aJ aM aP=>Yac.r0 k aB aA aC aD aE a1 aF aH aI aJ aM aP k)) (by kernel_rfl) (congrArg (Yac.m k aB aA aC aD aE a1 (λz0=>some z0)) (funext λaF=>funext λaH=>funext λaI=>funext λaJ=>funext λaM=>funext λaP=>funext λv=>Yac.l0_eq k aB aA aC aD aE a1 aF aH aI aJ aM aP k v) :))
noncomputable def Y3.l0 {β:Type} (k:Nat) (aF:LD) (aQ:Int) (aT:BA) (aS:Int) (K:Int->BA->Int->LD->LD->Bool->Option β) (L0:(Int×Int×BA×Int×LD×LD)->Option β) (v:Int×Int×BA×Int×LD×LD):Option β:=
 match v with
 |(aG,aH,aI,aJ,aM,aP)=>bif(decide ((aG:Int)<(aF.length:Int))) then(atR aF aG [.s] λx25=>(Yac.f k aH aI aJ aM aP x25 (λy26=>bif(decide ((y26:Int)<0)) then(K 0 (⟨#[]⟩:BA) 0 ([]:LD) ([]:LD) false) else(atR aP y26 [.n,.s,.n,.l,.l] λx30 x33 x36 x39 x42=>(L0 (IntKind.wrap .i64 (aG+1),x30,x33,x36,x39,x42)))))) else(K aH aI aJ aM aP true)
noncomputable def Y3.m {β:Type} (k:Nat) (aB:Int) (aA:BA) (aC:Int) (aD aE a1:LD) (K:Int->BA->Int->LD->LD->Bool->Option β) (F:(LD->Int->BA->Int->(Int×Int×BA×Int×LD×LD)->Option β)):Option β:=
 F a1 0 (⟨#[]⟩:BA) 0 (0,aB,aA,aC,aD,aE)
noncomputable def Y3.g {β:Type} (k:Nat) (aB:Int) (aA:BA) (aC:Int) (aD aE a1:LD) (K:Int->BA->Int->LD->LD->Bool->Option β):Option β:=
 ZA (Y3.l0 k a1 0 (⟨#[]⟩:BA) 0 K) k (0,aB,aA,aC,aD,aE)
noncomputable def Y3.t (k:Nat) (aB:Int) (aA:BA) (aC:Int) (aD aE a1:LD):Option (Int×BA×Int×LD×LD×Bool):=Y3.g k aB aA aC aD aE a1 (λz0 z1 z2 z3 z4 z5=>some (z0,z1,z2,z3,z4,z5))
noncomputable def Y3.f {β:Type} (k:Nat) (aB:Int) (aA:BA) (aC:Int) (aD aE a1:LD) (K:Int->BA->Int->LD->LD->Bool->Option β):Option β:=match Y3.t k aB aA aC aD aE a1 with|some (z0,z1,z2,z3,z4,z5)=>K z0 z1 z2 z3 z4 z5|none=>none
noncomputable def Y3.e (k:Nat):Zj:=ent [.agg [.n,.s,.n,.l,.l],.d .l] [5,1] [.n,.s,.n,.l,.l,.b] [54,4] true (Y3.t k)
noncomputable def Y3.p (k:Nat):Pro:=⟨Tryz.prog,[(183,Yac.e k)],Zv [(2,kp [1,2,4,6])] true [[false,false,false,true,true],[false]],k⟩
noncomputable def Y3.d (k:Nat) (aB:Int) (aA:BA) (aC:Int) (aD aE a1:LD):Ex->St->Option (Int×BA×Int×LD×LD×Bool):=(Y3.p k).fin Tryz.f160 [.agg [.int .i64 aB,.str aA,.int .i64 aC,.sl aD,.sl aE],.d (.sl a1)] [5,1] [.n,.s,.n,.l,.l,.b]
noncomputable def Y3.s0 (aF:LD) (aQ:Int) (aT:BA) (aS:Int) (v:Int×Int×BA×Int×LD×LD):St:=
 match v with
 |(aG,aH,aI,aJ,aM,aP)=>ZaA 29 [(1,.d false (.sl aF)),(2,.bp 0 0),(4,.bp 1 0),(6,.d true (.int .i64 aG))] [.box none 54 [.d false (.int .i64 aH),.d false (.str aI),.d false (.int .i64 aJ),.d false (.sl aM),.d false (.sl aP)],.box none 54 [.d true (.int .i64 aQ),.d true (.str aT),.d true (.int .i64 aS),.nil,.nil]]
noncomputable def Y3.r0 (k:Nat) (aB:Int) (aA:BA) (aC:Int) (aD aE a1 aF:LD) (aQ:Int) (aT:BA) (aS:Int) (n:Nat) (v:Int×Int×BA×Int×LD×LD):Option (Int×BA×Int×LD×LD×Bool):=(Y3.p k).lp (ZI Tryz.f160) 2 [1,0,1,0] (Y3.d k aB aA aC aD aE a1) n (Y3.s0 aF aQ aT aS v)
theorem Y3.l0_eq (k:Nat) (aB:Int) (aA:BA) (aC:Int) (aD aE a1 aF:LD) (aQ:Int) (aT:BA) (aS:Int):∀ n v,Y3.r0 k aB aA aC aD aE a1 aF aQ aT aS n v=ZA (Y3.l0 k aF aQ aT aS (λz0 z1 z2 z3 z4 z5=>some (z0,z1,z2,z3,z4,z5))) n v:=
 Zz (Y3.s0 aF aQ aT aS) _ λL0 v=>by obtain⟨aG,aH,aI,aJ,aM,aP⟩:=v;kernel_rfl
theorem Y3.ok (k:Nat):Zf Tryz.prog 160 (Y3.e k):=Zk (Y3.p k) mix tyok Tryz.func160 (Yac.ok k) (by kernel_rfl) (λaB aA aC aD aE a1=>Eq.trans (b:=Y3.m k aB aA aC aD aE a1 (λz0 z1 z2 z3 z4 z5=>some (z0,z1,z2,z3,z4,z5)) (λaF aQ aT aS=>Y3.r0 k aB aA aC aD aE a1 aF aQ aT aS k)) (by kernel_rfl) (congrArg (Y3.m k aB aA aC aD aE a1 (λz0 z1 z2 z3 z4 z5=>some (z0,z1,z2,z3,z4,z5))) (funext λaF=>funext λaQ=>funext λaT=>funext λaS=>funext λv=>Y3.l0_eq k aB aA aC aD aE a1 aF aQ aT aS k v) :))
noncomputable def Ye.l1 {β:Type} (k:Nat) (r_spec_SameValue:Int->BA->Int->LD->LD->Int->BA->Int->LD->LD->(Bool->Option β)->Option β) (v1_1:Int) (bP:BA) (v1_3:Int) (v1_4 v1_5:LD) (v1_6:Int) (v1_7:BA) (v1_8:Int) (v1_9 v1_10:LD) (K:Bool->Option β) (L1:Int->Option β) (v:Int):Option β:=
 match v with
 |bN=>bif(decide ((bN:Int)<(v1_5.length:Int))) then(atR v1_5 bN [.n,.s,.n,.l,.l] λx119 x122 x125 x128 x131=>(atR v1_10 bN [.n,.s,.n,.l,.l] λx135 x138 x141 x144 x147=>(r_spec_SameValue x119 x122 x125 x128 x131 x135 x138 x141 x144 x147 (λy148=>bif(!y148) then(K false) else(L1 (IntKind.wrap .i64 (bN+1))))))) else(K true)
noncomputable def Ye.m0 {β:Type} (k:Nat) (r_spec_SameValue:Int->BA->Int->LD->LD->Int->BA->Int->LD->LD->(Bool->Option β)->Option β) (aG:Int) (aH:BA) (aI:Int) (aJ aM:LD) (aP:Int) (aQ:BA) (aT:Int) (aS bB:LD) (K:Bool->Option β) (L0:Int->Option β) (v:Int) (F:(Int->BA->Int->LD->LD->Int->BA->Int->LD->LD->Int->Option β)):Option β:=
 match v with
 |aF=>bif(decide ((aF:Int)<(aJ.length:Int))) then(atR aJ aF [.s] λx78=>(atR aS aF [.s] λx82=>(bif(!(Zae x78 x82)) then(K false) else(L0 (IntKind.wrap .i64 (aF+1)))))) else(F aG aH aI aJ aM aP aQ aT aS bB (0))
noncomputable def Ye.l0 {β:Type} (k:Nat) (r_spec_SameValue:Int->BA->Int->LD->LD->Int->BA->Int->LD->LD->(Bool->Option β)->Option β) (aG:Int) (aH:BA) (aI:Int) (aJ aM:LD) (aP:Int) (aQ:BA) (aT:Int) (aS bB:LD) (K:Bool->Option β) (L0:Int->Option β) (v:Int):Option β:=Ye.m0 k r_spec_SameValue aG aH aI aJ aM aP aQ aT aS bB K L0 v (λv1_1 bP v1_3 v1_4 v1_5 v1_6 v1_7 v1_8 v1_9 v1_10=>ZA (Ye.l1 k r_spec_SameValue v1_1 bP v1_3 v1_4 v1_5 v1_6 v1_7 v1_8 v1_9 v1_10 K) k)
noncomputable def Ye.m {β:Type} (k:Nat) (r_spec_SameValue:Int->BA->Int->LD->LD->Int->BA->Int->LD->LD->(Bool->Option β)->Option β) (aB:Int) (aA:BA) (aC:Int) (aD aE:LD) (aO:Int) (aN:BA) (aR:Int) (aU aV:LD) (K:Bool->Option β) (F:(Int->BA->Int->LD->LD->Int->BA->Int->LD->LD->Int->Option β)):Option β:=
 bif((aB:Int)!=aO) then(K false) else(bif(!(Zae aA aN)) then(K false) else(bif((aC:Int)!=aR) then(K false) else(bif(((aD.length:Int):Int)!=(aU.length:Int)) then(K false) else(bif(((aE.length:Int):Int)!=(aV.length:Int)) then(K false) else(F aB aA aC aD aE aO aN aR aU aV (0))))))
noncomputable def Ye.body {β:Type} (k:Nat) (r_spec_SameValue:Int->BA->Int->LD->LD->Int->BA->Int->LD->LD->(Bool->Option β)->Option β) (aB:Int) (aA:BA) (aC:Int) (aD aE:LD) (aO:Int) (aN:BA) (aR:Int) (aU aV:LD) (K:Bool->Option β):Option β:=Ye.m k r_spec_SameValue aB aA aC aD aE aO aN aR aU aV K (λaG aH aI aJ aM aP aQ aT aS bB=>ZA (Ye.l0 k r_spec_SameValue aG aH aI aJ aM aP aQ aT aS bB K) k)
noncomputable def Ye.w {β:Type} (r:Int->BA->Int->LD->LD->Int->BA->Int->LD->LD->Option (Bool)) (aB:Int) (aA:BA) (aC:Int) (aD aE:LD) (aO:Int) (aN:BA) (aR:Int) (aU aV:LD) (K:Bool->Option β):Option β:=bd1 (r aB aA aC aD aE aO aN aR aU aV) K
noncomputable def Ye.all:Nat->(Int->BA->Int->LD->LD->Int->BA->Int->LD->LD->Option (Bool))
 |0=>(λ_ _ _ _ _ _ _ _ _ _=>none)
 |k+1=>(λr=>(λaB aA aC aD aE aO aN aR aU aV=>Ye.body k (Ye.w r) aB aA aC aD aE aO aN aR aU aV (λz0=>some z0))) (Ye.all k)
noncomputable def Ye.t (k:Nat) (aB:Int) (aA:BA) (aC:Int) (aD aE:LD) (aO:Int) (aN:BA) (aR:Int) (aU aV:LD):Option (Bool):=(Ye.all k) aB aA aC aD aE aO aN aR aU aV
noncomputable def Ye.f {β:Type} (k:Nat) (aB:Int) (aA:BA) (aC:Int) (aD aE:LD) (aO:Int) (aN:BA) (aR:Int) (aU aV:LD) (K:Bool->Option β):Option β:=Ye.w (Ye.t k) aB aA aC aD aE aO aN aR aU aV K
noncomputable def Ye.g {β:Type} (k:Nat) (aB:Int) (aA:BA) (aC:Int) (aD aE:LD) (aO:Int) (aN:BA) (aR:Int) (aU aV:LD) (K:Bool->Option β):Option β:=Ye.body k (Ye.f k) aB aA aC aD aE aO aN aR aU aV K
theorem Ye.t_succ (k:Nat) (aB:Int) (aA:BA) (aC:Int) (aD aE:LD) (aO:Int) (aN:BA) (aR:Int) (aU aV:LD):Ye.t (k+1) aB aA aC aD aE aO aN aR aU aV=Ye.g k aB aA aC aD aE aO aN aR aU aV (λz0=>some z0):=rfl
noncomputable def Ye.e (k:Nat):Zj:=ent [.agg [.n,.s,.n,.l,.l],.agg [.n,.s,.n,.l,.l]] [1] [.b] [4] false (Ye.t k)
noncomputable def Ye.p (k:Nat):Pro:=⟨Tryz.prog,[(52,Ye.e k)],Zv [(4,kp [2,3,5]),(9,kp [2,3,6])] false [],k⟩
noncomputable def Ye.d (k:Nat) (aB:Int) (aA:BA) (aC:Int) (aD aE:LD) (aO:Int) (aN:BA) (aR:Int) (aU aV:LD):Ex->St->Option (Bool):=(Ye.p k).fin Tryz.f52 [.agg [.int .i64 aB,.str aA,.int .i64 aC,.sl aD,.sl aE],.agg [.int .i64 aO,.str aN,.int .i64 aR,.sl aU,.sl aV]] [1] [.b]
noncomputable def Ye.s0 (aG:Int) (aH:BA) (aI:Int) (aJ aM:LD) (aP:Int) (aQ:BA) (aT:Int) (aS bB:LD) (v:Int):St:=
 match v with
 |aF=>ZaA 81 [(2,.bp 0 0),(3,.bp 1 0),(5,.d true (.int .i64 aF))] [.box none 54 [.d false (.int .i64 aG),.d false (.str aH),.d false (.int .i64 aI),.d false (.sl aJ),.d false (.sl aM)],.box none 54 [.d false (.int .i64 aP),.d false (.str aQ),.d false (.int .i64 aT),.d false (.sl aS),.d false (.sl bB)]]
noncomputable def Ye.r0 (k:Nat) (aB:Int) (aA:BA) (aC:Int) (aD aE:LD) (aO:Int) (aN:BA) (aR:Int) (aU aV:LD) (aG:Int) (aH:BA) (aI:Int) (aJ aM:LD) (aP:Int) (aQ:BA) (aT:Int) (aS bB:LD) (n:Nat) (v:Int):Option (Bool):=(Ye.p k).lp (ZI Tryz.f52) 4 [1,1,0,1,0] (Ye.d k aB aA aC aD aE aO aN aR aU aV) n (Ye.s0 aG aH aI aJ aM aP aQ aT aS bB v)
noncomputable def Ye.s1 (v1_1:Int) (bP:BA) (v1_3:Int) (v1_4 v1_5:LD) (v1_6:Int) (v1_7:BA) (v1_8:Int) (v1_9 v1_10:LD) (v:Int):St:=
 match v with
 |bN=>ZaA 81 [(2,.bp 0 0),(3,.bp 1 0),(6,.d true (.int .i64 bN))] [.box none 54 [.d false (.int .i64 v1_1),.d false (.str bP),.d false (.int .i64 v1_3),.d false (.sl v1_4),.d false (.sl v1_5)],.box none 54 [.d false (.int .i64 v1_6),.d false (.str v1_7),.d false (.int .i64 v1_8),.d false (.sl v1_9),.d false (.sl v1_10)]]
noncomputable def Ye.r1 (k:Nat) (aB:Int) (aA:BA) (aC:Int) (aD aE:LD) (aO:Int) (aN:BA) (aR:Int) (aU aV:LD) (v1_1:Int) (bP:BA) (v1_3:Int) (v1_4 v1_5:LD) (v1_6:Int) (v1_7:BA) (v1_8:Int) (v1_9 v1_10:LD) (n:Nat) (v:Int):Option (Bool):=(Ye.p k).lp (ZI Tryz.f52) 9 [1,1,1,0,1,0] (Ye.d k aB aA aC aD aE aO aN aR aU aV) n (Ye.s1 v1_1 bP v1_3 v1_4 v1_5 v1_6 v1_7 v1_8 v1_9 v1_10 v)
theorem Ye.l1_eq (k:Nat) (aB:Int) (aA:BA) (aC:Int) (aD aE:LD) (aO:Int) (aN:BA) (aR:Int) (aU aV:LD) (v1_1:Int) (bP:BA) (v1_3:Int) (v1_4 v1_5:LD) (v1_6:Int) (v1_7:BA) (v1_8:Int) (v1_9 v1_10:LD):∀ n v,Ye.r1 k aB aA aC aD aE aO aN aR aU aV v1_1 bP v1_3 v1_4 v1_5 v1_6 v1_7 v1_8 v1_9 v1_10 n v=ZA (Ye.l1 k (Ye.f k) v1_1 bP v1_3 v1_4 v1_5 v1_6 v1_7 v1_8 v1_9 v1_10 (λz0=>some z0)) n v:=
 Zz (Ye.s1 v1_1 bP v1_3 v1_4 v1_5 v1_6 v1_7 v1_8 v1_9 v1_10) _ λL1 v=>by kernel_rfl
theorem Ye.l0_eq (k:Nat) (aB:Int) (aA:BA) (aC:Int) (aD aE:LD) (aO:Int) (aN:BA) (aR:Int) (aU aV:LD) (aG:Int) (aH:BA) (aI:Int) (aJ aM:LD) (aP:Int) (aQ:BA) (aT:Int) (aS bB:LD):∀ n v,Ye.r0 k aB aA aC aD aE aO aN aR aU aV aG aH aI aJ aM aP aQ aT aS bB n v=ZA (Ye.l0 k (Ye.f k) aG aH aI aJ aM aP aQ aT aS bB (λz0=>some z0)) n v:=
 Zz (Ye.s0 aG aH aI aJ aM aP aQ aT aS bB) _ λL0 v=>by exact Eq.trans (b:=Ye.m0 k (Ye.f k) aG aH aI aJ aM aP aQ aT aS bB (λz0=>some z0) (λv=>L0 (Ye.s0 aG aH aI aJ aM aP aQ aT aS bB v)) v (λv1_1 bP v1_3 v1_4 v1_5 v1_6 v1_7 v1_8 v1_9 v1_10=>Ye.r1 k aB aA aC aD aE aO aN aR aU aV v1_1 bP v1_3 v1_4 v1_5 v1_6 v1_7 v1_8 v1_9 v1_10 k)) (by kernel_rfl) (congrArg (Ye.m0 k (Ye.f k) aG aH aI aJ aM aP aQ aT aS bB (λz0=>some z0) (λv=>L0 (Ye.s0 aG aH aI aJ aM aP aQ aT aS bB v)) v) (funext λv1_1=>funext λbP=>funext λv1_3=>funext λv1_4=>funext λv1_5=>funext λv1_6=>funext λv1_7=>funext λv1_8=>funext λv1_9=>funext λv1_10=>funext λv=>Ye.l1_eq k aB aA aC aD aE aO aN aR aU aV v1_1 bP v1_3 v1_4 v1_5 v1_6 v1_7 v1_8 v1_9 v1_10 k v))
theorem Ye.oks (k:Nat):Zf Tryz.prog 52 (Ye.e k):=by
 induction k with
 |zero=>exact Zba Tryz.func52 (by kernel_rfl) (λ_ _ _ _ _ _ _ _ _ _=>rfl)
 |succ k ih=>exact Zk (Ye.p k) mix tyok Tryz.func52 ih (by kernel_rfl) (λaB aA aC aD aE aO aN aR aU aV=>Eq.trans (b:=Ye.m k (Ye.f k) aB aA aC aD aE aO aN aR aU aV (λz0=>some z0) (λaG aH aI aJ aM aP aQ aT aS bB=>Ye.r0 k aB aA aC aD aE aO aN aR aU aV aG aH aI aJ aM aP aQ aT aS bB k)) (by kernel_rfl) ((congrArg (Ye.m k (Ye.f k) aB aA aC aD aE aO aN aR aU aV (λz0=>some z0)) (funext λaG=>funext λaH=>funext λaI=>funext λaJ=>funext λaM=>funext λaP=>funext λaQ=>funext λaT=>funext λaS=>funext λbB=>funext λv=>Ye.l0_eq k aB aA aC aD aE aO aN aR aU aV aG aH aI aJ aM aP aQ aT aS bB k v)).trans (Ye.t_succ k aB aA aC aD aE aO aN aR aU aV).symm))
theorem Ye.ok (k:Nat):Zf Tryz.prog 52 (Ye.e k):=(Ye.oks k)
noncomputable def Yah.l0 {β:Type} (k:Nat) (aF:BA) (aI:Int) (aJ:BA) (aM:Int) (aP aQ:LD) (aT:Int) (aS:BA) (bB:Int) (bD bE:LD) (bM:Int) (bO:BA) (bQ bR:Int) (bT:BA) (v0_18:Int) (K:Int->BA->Int->LD->LD->Bool->Option β) (L0:(Bool×Int×LC×LC)->Option β) (v:Bool×Int×LC×LC):Option β:=
 match v with
 |(aG,aH,v0_19,v0_20)=>let J0:=(v0_20.length+([[.d (.int .i64 aT),.d (.str aS),.d (.int .i64 bB),.d (.sl bD),.d (.sl bE)]]:LC).length<=Z8);let J1:=(v0_20++([[.d (.int .i64 aT),.d (.str aS),.d (.int .i64 bB),.d (.sl bD),.d (.sl bE)]]:LC));let J2:=(v0_19.length+([[.d (.str aF)]]:LC).length<=Z8);bif(decide ((aH:Int)<(aP.length:Int))) then(bif(!aG) then(atR aP aH [.s] λx83=>(bif(!(strLt x83 aF)) then(Zd J2 (Zd J0 (atR aP aH [.s] λx87=>(bif(!(Zae x87 aF)) then(atR aP aH [.s] λx91=>(Zd ((v0_19++([[.d (.str aF)]]:LC)).length+([[.d (.str x91)]]:LC).length<=Z8) (atR aQ aH [.n,.s,.n,.l,.l] λx95 x98 x101 x104 x107=>(Zd (J1.length+([[.d (.int .i64 x95),.d (.str x98),.d (.int .i64 x101),.d (.sl x104),.d (.sl x107)]]:LC).length<=Z8) (L0 (true,IntKind.wrap .i64 (aH+1),(v0_19++([[.d (.str aF)]]:LC))++([[.d (.str x91)]]:LC),J1++([[.d (.int .i64 x95),.d (.str x98),.d (.int .i64 x101),.d (.sl x104),.d (.sl x107)]]:LC))))))) else(L0 (true,IntKind.wrap .i64 (aH+1),v0_19++([[.d (.str aF)]]:LC),v0_20++([[.d (.int .i64 aT),.d (.str aS),.d (.int .i64 bB),.d (.sl bD),.d (.sl bE)]]:LC))))))) else(atR aP aH [.s] λx111=>(bif(!(Zae x111 aF)) then(atR aP aH [.s] λx115=>(Zd (v0_19.length+([[.d (.str x115)]]:LC).length<=Z8) (atR aQ aH [.n,.s,.n,.l,.l] λx119 x122 x125 x128 x131=>(Zd (v0_20.length+([[.d (.int .i64 x119),.d (.str x122),.d (.int .i64 x125),.d (.sl x128),.d (.sl x131)]]:LC).length<=Z8) (L0 (aG,IntKind.wrap .i64 (aH+1),v0_19++([[.d (.str x115)]]:LC),v0_20++([[.d (.int .i64 x119),.d (.str x122),.d (.int .i64 x125),.d (.sl x128),.d (.sl x131)]]:LC))))))) else(L0 (aG,IntKind.wrap .i64 (aH+1),v0_19,v0_20)))))) else(atR aP aH [.s] λx135=>(bif(!(Zae x135 aF)) then(atR aP aH [.s] λx139=>(Zd (v0_19.length+([[.d (.str x139)]]:LC).length<=Z8) (atR aQ aH [.n,.s,.n,.l,.l] λx143 x146 x149 x152 x155=>(Zd (v0_20.length+([[.d (.int .i64 x143),.d (.str x146),.d (.int .i64 x149),.d (.sl x152),.d (.sl x155)]]:LC).length<=Z8) (L0 (aG,IntKind.wrap .i64 (aH+1),v0_19++([[.d (.str x139)]]:LC),v0_20++([[.d (.int .i64 x143),.d (.str x146),.d (.int .i64 x149),.d (.sl x152),.d (.sl x155)]]:LC))))))) else(L0 (aG,IntKind.wrap .i64 (aH+1),v0_19,v0_20))))) else(bif(!aG) then(Zd J2 (Zd J0 (K bR bT v0_18 (C.immRows (v0_19++([[.d (.str aF)]]:LC))) (C.immRows J1) true))) else(K bR bT v0_18 (C.immRows v0_19) (C.immRows v0_20) true))
noncomputable def Yah.m {β:Type} (k:Nat) (aB:Int) (aA:BA) (aC:Int) (aD aE:LD) (a1:BA) (bH:Int) (bL:BA) (bI:Int) (bJ bK:LD) (K:Int->BA->Int->LD->LD->Bool->Option β) (F:(BA->Int->BA->Int->LD->LD->Int->BA->Int->LD->LD->Int->BA->Int->Int->BA->Int->(Bool×Int×LC×LC)->Option β)):Option β:=
 bif((aB:Int)==4) then(YB.f k a1 (λy1=>Y4.f k y1 0 (aE.length:Int) (λy2=>bif(!y2) then(K aB aA aC aD aE false) else(let J5:=((aE.drop (Int.toNat (0:Int))).take (Int.toNat (y1:Int)-Int.toNat (0:Int)));let J4:=(J5.map (·.map C.d));let J3:=(([]:LC)++J4);let J0:=(J3++([[.d (.int .i64 bH),.d (.str bL),.d (.int .i64 bI),.d (.sl bJ),.d (.sl bK)]]:LC));Zd (0<=(0:Int)/\(0:Int)<=(y1:Int)/\(y1:Int)<=(aE.length:Int)/\Zbk 5 aE) (Zd (Zbk 5 J5) (Zd (([]:LC).length+J4.length<=Z8) (Zd (J3.length+([[.d (.int .i64 bH),.d (.str bL),.d (.int .i64 bI),.d (.sl bJ),.d (.sl bK)]]:LC).length<=Z8) (bif(decide ((y1:Int)<(aE.length:Int))) then(let J2:=((aE.drop (Int.toNat (IntKind.wrap .i64 (y1+1):Int))).take (Int.toNat (aE.length:Int)-Int.toNat (IntKind.wrap .i64 (y1+1):Int)));let J1:=(J2.map (·.map C.d));Zd (0<=(IntKind.wrap .i64 (y1+1):Int)/\(IntKind.wrap .i64 (y1+1):Int)<=(aE.length:Int)/\(aE.length:Int)<=(aE.length:Int)/\Zbk 5 aE) (Zd (Zbk 5 J2) (Zd (J0.length+J1.length<=Z8) (K aB (⟨#[]⟩:BA) 0 ([]:LD) (C.immRows (J0++J1)) true)))) else(K aB (⟨#[]⟩:BA) 0 ([]:LD) (C.immRows J0) true))))))))) else(bif((aB:Int)!=5) then(K aB aA aC aD aE false) else(Yp.f k a1 (λy3=>bif(!y3) then(K aB aA aC aD aE false) else(F a1 aB aA aC aD aE bH bL bI bJ bK 0 (⟨#[]⟩:BA) 0 aB (⟨#[]⟩:BA) 0 (false,0,([]:LC),([]:LC))))))
noncomputable def Yah.g {β:Type} (k:Nat) (aB:Int) (aA:BA) (aC:Int) (aD aE:LD) (a1:BA) (bH:Int) (bL:BA) (bI:Int) (bJ bK:LD) (K:Int->BA->Int->LD->LD->Bool->Option β):Option β:=Yah.m k aB aA aC aD aE a1 bH bL bI bJ bK K (λaF aI aJ aM aP aQ aT aS bB bD bE bM bO bQ bR bT v0_18=>ZA (Yah.l0 k aF aI aJ aM aP aQ aT aS bB bD bE bM bO bQ bR bT v0_18 K) k)
noncomputable def Yah.t (k:Nat) (aB:Int) (aA:BA) (aC:Int) (aD aE:LD) (a1:BA) (bH:Int) (bL:BA) (bI:Int) (bJ bK:LD):Option (Int×BA×Int×LD×LD×Bool):=Yah.g k aB aA aC aD aE a1 bH bL bI bJ bK (λz0 z1 z2 z3 z4 z5=>some (z0,z1,z2,z3,z4,z5))
noncomputable def Yah.f {β:Type} (k:Nat) (aB:Int) (aA:BA) (aC:Int) (aD aE:LD) (a1:BA) (bH:Int) (bL:BA) (bI:Int) (bJ bK:LD) (K:Int->BA->Int->LD->LD->Bool->Option β):Option β:=match Yah.t k aB aA aC aD aE a1 bH bL bI bJ bK with|some (z0,z1,z2,z3,z4,z5)=>K z0 z1 z2 z3 z4 z5|none=>none
noncomputable def Yah.e (k:Nat):Zj:=ent [.agg [.n,.s,.n,.l,.l],.d .s,.agg [.n,.s,.n,.l,.l]] [5,1] [.n,.s,.n,.l,.l,.b] [54,4] true (Yah.t k)
noncomputable def Yah.p (k:Nat):Pro:=⟨Tryz.prog,[(182,YB.e k),(86,Y4.e k),(107,Yp.e k)],Zv [(14,kp [1,3,5,6,8,10,11] [] [(8,3,.row true 45),(8,4,.row false 52)])] true [[false,false,false,true,true],[false]],k⟩
noncomputable def Yah.d (k:Nat) (aB:Int) (aA:BA) (aC:Int) (aD aE:LD) (a1:BA) (bH:Int) (bL:BA) (bI:Int) (bJ bK:LD):Ex->St->Option (Int×BA×Int×LD×LD×Bool):=(Yah.p k).fin Tryz.f184 [.agg [.int .i64 aB,.str aA,.int .i64 aC,.sl aD,.sl aE],.d (.str a1),.agg [.int .i64 bH,.str bL,.int .i64 bI,.sl bJ,.sl bK]] [5,1] [.n,.s,.n,.l,.l,.b]
noncomputable def Yah.s0 (aF:BA) (aI:Int) (aJ:BA) (aM:Int) (aP aQ:LD) (aT:Int) (aS:BA) (bB:Int) (bD bE:LD) (bM:Int) (bO:BA) (bQ bR:Int) (bT:BA) (v0_18:Int) (v:Bool×Int×LC×LC):St:=
 match v with
 |(aG,aH,v0_19,v0_20)=>ZaA 133 [(1,.d false (.str aF)),(3,.bp 0 0),(5,.bp 1 0),(6,.bp 2 0),(8,.bp 3 0),(10,.d true (.bool aG)),(11,.d true (.int .i64 aH))] [.box none 54 [.d false (.int .i64 aI),.d false (.str aJ),.d false (.int .i64 aM),.d false (.sl aP),.d false (.sl aQ)],.box none 54 [.d false (.int .i64 aT),.d false (.str aS),.d false (.int .i64 bB),.d false (.sl bD),.d false (.sl bE)],.box none 54 [.d true (.int .i64 bM),.d true (.str bO),.d true (.int .i64 bQ),.nil,.nil],.box none 54 [.d false (.int .i64 bR),.d true (.str bT),.d true (.int .i64 v0_18),.row 4,.row 5],.row none true 45 v0_19,.row none false 52 v0_20]
noncomputable def Yah.r0 (k:Nat) (aB:Int) (aA:BA) (aC:Int) (aD aE:LD) (a1:BA) (bH:Int) (bL:BA) (bI:Int) (bJ bK:LD) (aF:BA) (aI:Int) (aJ:BA) (aM:Int) (aP aQ:LD) (aT:Int) (aS:BA) (bB:Int) (bD bE:LD) (bM:Int) (bO:BA) (bQ bR:Int) (bT:BA) (v0_18:Int) (n:Nat) (v:Bool×Int×LC×LC):Option (Int×BA×Int×LD×LD×Bool):=(Yah.p k).lp (ZI Tryz.f184) 14 [1,1,1,1,1,0,1,0] (Yah.d k aB aA aC aD aE a1 bH bL bI bJ bK) n (Yah.s0 aF aI aJ aM aP aQ aT aS bB bD bE bM bO bQ bR bT v0_18 v)
theorem Yah.l0_eq (k:Nat) (aB:Int) (aA:BA) (aC:Int) (aD aE:LD) (a1:BA) (bH:Int) (bL:BA) (bI:Int) (bJ bK:LD) (aF:BA) (aI:Int) (aJ:BA) (aM:Int) (aP aQ:LD) (aT:Int) (aS:BA) (bB:Int) (bD bE:LD) (bM:Int) (bO:BA) (bQ bR:Int) (bT:BA) (v0_18:Int):∀ n v,Yah.r0 k aB aA aC aD aE a1 bH bL bI bJ bK aF aI aJ aM aP aQ aT aS bB bD bE bM bO bQ bR bT v0_18 n v=ZA (Yah.l0 k aF aI aJ aM aP aQ aT aS bB bD bE bM bO bQ bR bT v0_18 (λz0 z1 z2 z3 z4 z5=>some (z0,z1,z2,z3,z4,z5))) n v:=
 Zz (Yah.s0 aF aI aJ aM aP aQ aT aS bB bD bE bM bO bQ bR bT v0_18) _ λL0 v=>by obtain⟨aG,aH,v0_19,v0_20⟩:=v;kernel_rfl
theorem Yah.ok (k:Nat):Zf Tryz.prog 184 (Yah.e k):=Zk (Yah.p k) mix tyok Tryz.func184 ⟨YB.ok k,Y4.ok k,Yp.ok k⟩ (by kernel_rfl) (λaB aA aC aD aE a1 bH bL bI bJ bK=>Eq.trans (b:=Yah.m k aB aA aC aD aE a1 bH bL bI bJ bK (λz0 z1 z2 z3 z4 z5=>some (z0,z1,z2,z3,z4,z5)) (λaF aI aJ aM aP aQ aT aS bB bD bE bM bO bQ bR bT v0_18=>Yah.r0 k aB aA aC aD aE a1 bH bL bI bJ bK aF aI aJ aM aP aQ aT aS bB bD bE bM bO bQ bR bT v0_18 k)) (by kernel_rfl) (congrArg (Yah.m k aB aA aC aD aE a1 bH bL bI bJ bK (λz0 z1 z2 z3 z4 z5=>some (z0,z1,z2,z3,z4,z5))) (funext λaF=>funext λaI=>funext λaJ=>funext λaM=>funext λaP=>funext λaQ=>funext λaT=>funext λaS=>funext λbB=>funext λbD=>funext λbE=>funext λbM=>funext λbO=>funext λbQ=>funext λbR=>funext λbT=>funext λv0_18=>funext λv=>Yah.l0_eq k aB aA aC aD aE a1 bH bL bI bJ bK aF aI aJ aM aP aQ aT aS bB bD bE bM bO bQ bR bT v0_18 k v) :))
noncomputable def YaX.g {β:Type} (k:Nat) (aB:Int) (aA:BA) (aC:Int) (aD aE:LD) (a1:BA) (K:Int->BA->Int->LD->LD->Bool->Option β):Option β:=
 Yac.f k aB aA aC aD aE a1 (λy1=>bif(decide ((y1:Int)<0)) then(K aB aA aC aD aE false) else(let J3:=((aE.drop (Int.toNat (IntKind.wrap .i64 (y1+1):Int))).take (Int.toNat (aE.length:Int)-Int.toNat (IntKind.wrap .i64 (y1+1):Int)));let J1:=(J3.map (·.map C.d));let J9:=((aE.drop (Int.toNat (0:Int))).take (Int.toNat (y1:Int)-Int.toNat (0:Int)));let J7:=(J9.map (·.map C.d));let J5:=(([]:LC)++J7);let J0:=(C.immRows (J5++J1));Zd (0<=(0:Int)/\(0:Int)<=(y1:Int)/\(y1:Int)<=(aE.length:Int)/\Zbk 5 aE) (Zd (Zbk 5 J9) (Zd (([]:LC).length+J7.length<=Z8) (Zd (0<=(IntKind.wrap .i64 (y1+1):Int)/\(IntKind.wrap .i64 (y1+1):Int)<=(aE.length:Int)/\(aE.length:Int)<=(aE.length:Int)/\Zbk 5 aE) (Zd (Zbk 5 J3) (Zd (J5.length+J1.length<=Z8) (bif((aB:Int)==5) then(let J4:=((aD.drop (Int.toNat (IntKind.wrap .i64 (y1+1):Int))).take (Int.toNat (aD.length:Int)-Int.toNat (IntKind.wrap .i64 (y1+1):Int)));let J2:=(J4.map (·.map C.d));let J10:=((aD.drop (Int.toNat (0:Int))).take (Int.toNat (y1:Int)-Int.toNat (0:Int)));let J8:=(J10.map (·.map C.d));let J6:=(([]:LC)++J8);Zd (0<=(0:Int)/\(0:Int)<=(y1:Int)/\(y1:Int)<=(aD.length:Int)/\Zbk 1 aD) (Zd (Zcg 1 J10) (Zd (([]:LC).length+J8.length<=Z8) (Zd (0<=(IntKind.wrap .i64 (y1+1):Int)/\(IntKind.wrap .i64 (y1+1):Int)<=(aD.length:Int)/\(aD.length:Int)<=(aD.length:Int)/\Zbk 1 aD) (Zd (Zcg 1 J4) (Zd (J6.length+J2.length<=Z8) (K aB (⟨#[]⟩:BA) 0 (C.immRows (J6++J2)) J0 true))))))) else(K aB (⟨#[]⟩:BA) 0 ([]:LD) J0 true)))))))))
noncomputable def YaX.t (k:Nat) (aB:Int) (aA:BA) (aC:Int) (aD aE:LD) (a1:BA):Option (Int×BA×Int×LD×LD×Bool):=YaX.g k aB aA aC aD aE a1 (λz0 z1 z2 z3 z4 z5=>some (z0,z1,z2,z3,z4,z5))
noncomputable def YaX.f {β:Type} (k:Nat) (aB:Int) (aA:BA) (aC:Int) (aD aE:LD) (a1:BA) (K:Int->BA->Int->LD->LD->Bool->Option β):Option β:=match YaX.t k aB aA aC aD aE a1 with|some (z0,z1,z2,z3,z4,z5)=>K z0 z1 z2 z3 z4 z5|none=>none
noncomputable def YaX.e (k:Nat):Zj:=ent [.agg [.n,.s,.n,.l,.l],.d .s] [5,1] [.n,.s,.n,.l,.l,.b] [54,4] true (YaX.t k)
noncomputable def YaX.p (k:Nat):Pro:=⟨Tryz.prog,[(183,Yac.e k)],Zv [] true [[false,false,false,true,true],[false]],k⟩
theorem YaX.ok (k:Nat):Zf Tryz.prog 185 (YaX.e k):=Zk (YaX.p k) mix tyok Tryz.func185 (Yac.ok k) (by kernel_rfl) (λaB aA aC aD aE a1=>by show _=_;kernel_rfl)
noncomputable def Yap.body {β:Type} (k:Nat) (r_spec_l5Do:Int->BA->Int->LD->LD->Int->LD->Int->BA->Int->LD->LD->Int->(Int->BA->Int->LD->LD->Bool->Option β)->Option β) (aB:Int) (aA:BA) (aC:Int) (aD aE:LD) (aO:Int) (aN:LD) (aR:Int) (aU:BA) (aV:Int) (bF bG:LD) (a2:Int) (K:Int->BA->Int->LD->LD->Bool->Option β):Option β:=
 atR aN a2 [.s] λx4=>(bif((a2:Int)==(IntKind.wrap .i64 ((aN.length:Int)-1))) then(bif((aO:Int)==1) then(Yah.f k aB aA aC aD aE x4 aR aU aV bF bG (λy156 y157 y158 y159 y160 y161=>K y156 y157 y158 y159 y160 y161)) else(YaX.f k aB aA aC aD aE x4 (λy162 y163 y164 y165 y166 y167=>K y162 y163 y164 y165 y166 y167))) else(Yac.f k aB aA aC aD aE x4 (λy168=>bif(decide ((y168:Int)<0)) then(K aB aA aC aD aE false) else(atR aE y168 [.n,.s,.n,.l,.l] λx172 x175 x178 x181 x184=>(r_spec_l5Do x172 x175 x178 x181 x184 aO aN aR aU aV bF bG (IntKind.wrap .i64 (a2+1)) (λy185 y186 y187 y188 y189 y190=>bif(!y190) then(K aB aA aC aD aE false) else(Zd (Zbk 5 aE) (Zd (([]:LC).length+(aE.map (·.map C.d)).length<=Z8) (Zd ((0:Int)<=y168/\y168<((([]:LC)++(aE.map (·.map C.d))).length:Int)) (Zd (Int.toNat y168<(([]:LC)++(aE.map (·.map C.d))).length) (K aB (⟨#[]⟩:BA) 0 aD (C.immRows ((([]:LC)++(aE.map (·.map C.d))).modify (Int.toNat y168) λc=>Zs c 0 [.d (.int .i64 y185),.d (.str y186),.d (.int .i64 y187),.d (.sl y188),.d (.sl y189)])) true)))))))))))
noncomputable def Yap.w {β:Type} (r:Int->BA->Int->LD->LD->Int->LD->Int->BA->Int->LD->LD->Int->Option (Int×BA×Int×LD×LD×Bool)) (aB:Int) (aA:BA) (aC:Int) (aD aE:LD) (aO:Int) (aN:LD) (aR:Int) (aU:BA) (aV:Int) (bF bG:LD) (a2:Int) (K:Int->BA->Int->LD->LD->Bool->Option β):Option β:=match r aB aA aC aD aE aO aN aR aU aV bF bG a2 with|some (z0,z1,z2,z3,z4,z5)=>K z0 z1 z2 z3 z4 z5|none=>none
noncomputable def Yap.all:Nat->(Int->BA->Int->LD->LD->Int->LD->Int->BA->Int->LD->LD->Int->Option (Int×BA×Int×LD×LD×Bool))
 |0=>(λ_ _ _ _ _ _ _ _ _ _ _ _ _=>none)
 |k+1=>(λr=>(λaB aA aC aD aE aO aN aR aU aV bF bG a2=>Yap.body k (Yap.w r) aB aA aC aD aE aO aN aR aU aV bF bG a2 (λz0 z1 z2 z3 z4 z5=>some (z0,z1,z2,z3,z4,z5)))) (Yap.all k)
noncomputable def Yap.t (k:Nat) (aB:Int) (aA:BA) (aC:Int) (aD aE:LD) (aO:Int) (aN:LD) (aR:Int) (aU:BA) (aV:Int) (bF bG:LD) (a2:Int):Option (Int×BA×Int×LD×LD×Bool):=(Yap.all k) aB aA aC aD aE aO aN aR aU aV bF bG a2
noncomputable def Yap.f {β:Type} (k:Nat) (aB:Int) (aA:BA) (aC:Int) (aD aE:LD) (aO:Int) (aN:LD) (aR:Int) (aU:BA) (aV:Int) (bF bG:LD) (a2:Int) (K:Int->BA->Int->LD->LD->Bool->Option β):Option β:=Yap.w (Yap.t k) aB aA aC aD aE aO aN aR aU aV bF bG a2 K
noncomputable def Yap.g {β:Type} (k:Nat) (aB:Int) (aA:BA) (aC:Int) (aD aE:LD) (aO:Int) (aN:LD) (aR:Int) (aU:BA) (aV:Int) (bF bG:LD) (a2:Int) (K:Int->BA->Int->LD->LD->Bool->Option β):Option β:=Yap.body k (Yap.f k) aB aA aC aD aE aO aN aR aU aV bF bG a2 K
theorem Yap.t_succ (k:Nat) (aB:Int) (aA:BA) (aC:Int) (aD aE:LD) (aO:Int) (aN:LD) (aR:Int) (aU:BA) (aV:Int) (bF bG:LD) (a2:Int):Yap.t (k+1) aB aA aC aD aE aO aN aR aU aV bF bG a2=Yap.g k aB aA aC aD aE aO aN aR aU aV bF bG a2 (λz0 z1 z2 z3 z4 z5=>some (z0,z1,z2,z3,z4,z5)):=rfl
noncomputable def Yap.e (k:Nat):Zj:=ent [.agg [.n,.s,.n,.l,.l],.agg [.n,.l,.n,.s,.n,.l,.l],.d .n] [5,1] [.n,.s,.n,.l,.l,.b] [54,4] true (Yap.t k)
noncomputable def Yap.p (k:Nat):Pro:=⟨Tryz.prog,[(184,Yah.e k),(185,YaX.e k),(183,Yac.e k),(161,Yap.e k)],Zv [] true [[false,false,false,false,true],[false]],k⟩
theorem Yap.oks (k:Nat):Zf Tryz.prog 161 (Yap.e k):=by
 induction k with
 |zero=>exact Zba Tryz.func161 (by kernel_rfl) (λ_ _ _ _ _ _ _ _ _ _ _ _ _=>rfl)
 |succ k ih=>exact Zk (Yap.p k) mix tyok Tryz.func161 ⟨Yah.ok k,YaX.ok k,Yac.ok k,ih⟩ (by kernel_rfl) (λaB aA aC aD aE aO aN aR aU aV bF bG a2=>by show _=_;kernel_rfl)
theorem Yap.ok (k:Nat):Zf Tryz.prog 161 (Yap.e k):=(Yap.oks k)
noncomputable def Ya4.g {β:Type} (k:Nat) (aB:Int) (aA:BA) (aC:Int) (aD aE:LD) (aO:Int) (aN:LD) (aR:Int) (aU:BA) (aV:Int) (bF bG:LD) (K:Int->BA->Int->LD->LD->Bool->Option β):Option β:=
 bif((aO:Int)==3) then(Y3.f k aB aA aC aD aE aN (λy1 y2 y3 y4 y5 y6=>bif y6 then(Ye.f k y1 y2 y3 y4 y5 aR aU aV bF bG (λy7=>K aB aA aC aD aE y7)) else(K aB aA aC aD aE false))) else(Yap.f k aB aA aC aD aE aO aN aR aU aV bF bG 0 (λy191 y192 y193 y194 y195 y196=>bif y196 then(Yan.f k y191 y192 y193 y194 y195 (λy197=>K y191 y192 y193 y194 y195 y197)) else(K y191 y192 y193 y194 y195 false)))
noncomputable def Ya4.t (k:Nat) (aB:Int) (aA:BA) (aC:Int) (aD aE:LD) (aO:Int) (aN:LD) (aR:Int) (aU:BA) (aV:Int) (bF bG:LD):Option (Int×BA×Int×LD×LD×Bool):=Ya4.g k aB aA aC aD aE aO aN aR aU aV bF bG (λz0 z1 z2 z3 z4 z5=>some (z0,z1,z2,z3,z4,z5))
noncomputable def Ya4.f {β:Type} (k:Nat) (aB:Int) (aA:BA) (aC:Int) (aD aE:LD) (aO:Int) (aN:LD) (aR:Int) (aU:BA) (aV:Int) (bF bG:LD) (K:Int->BA->Int->LD->LD->Bool->Option β):Option β:=match Ya4.t k aB aA aC aD aE aO aN aR aU aV bF bG with|some (z0,z1,z2,z3,z4,z5)=>K z0 z1 z2 z3 z4 z5|none=>none
noncomputable def Ya4.e (k:Nat):Zj:=ent [.agg [.n,.s,.n,.l,.l],.agg [.n,.l,.n,.s,.n,.l,.l]] [5,1] [.n,.s,.n,.l,.l,.b] [54,4] true (Ya4.t k)
noncomputable def Ya4.p (k:Nat):Pro:=⟨Tryz.prog,[(160,Y3.e k),(52,Ye.e k),(161,Yap.e k),(49,Yan.e k)],Zv [] true [],k⟩
theorem Ya4.ok (k:Nat):Zf Tryz.prog 126 (Ya4.e k):=Zk (Ya4.p k) mix tyok Tryz.func126 ⟨Y3.ok k,Ye.ok k,Yap.ok k,Yan.ok k⟩ (by kernel_rfl) (λaB aA aC aD aE aO aN aR aU aV bF bG=>by show _=_;kernel_rfl)
noncomputable def Yai.l0 {β:Type} (k:Nat) (aF:LD) (aH:Int) (aI:BA) (aJ:Int) (aM aP:LD) (aQ:Int) (aT:BA) (aS:Int) (K:Int->BA->Int->LC->LC->Int->Option β) (L0:(Int×Int×BA×Int×LD×LD)->Option β) (v:Int×Int×BA×Int×LD×LD):Option β:=
 match v with
 |(aG,bB,bD,bE,bM,bO)=>bif(decide ((aG:Int)<(aF.length:Int))) then(atR aF aG [.n,.l,.n,.s,.n,.l,.l] λx217 x220 x223 x226 x229 x232 x235=>(Ya4.f k bB bD bE bM bO x217 x220 x223 x226 x229 x232 x235 (λy236 y237 y238 y239 y240 y241=>bif(!y241) then(YC.f k aH aI aJ aM aP (λy242 y243 y244 y245 y246=>K y242 y243 y244 y245 y246 aG)) else(L0 (IntKind.wrap .i64 (aG+1),y236,y237,y238,y239,y240))))) else(YC.f k bB bD bE bM bO (λy247 y248 y249 y250 y251=>K y247 y248 y249 y250 y251 (-1)))
noncomputable def Yai.m {β:Type} (k:Nat) (aB:Int) (aA:BA) (aC:Int) (aD aE a1:LD) (K:Int->BA->Int->LC->LC->Int->Option β) (F:(LD->Int->BA->Int->LD->LD->Int->BA->Int->(Int×Int×BA×Int×LD×LD)->Option β)):Option β:=
 Yan.f k aB aA aC aD aE (λy1=>bif(!y1) then(YC.f k aB aA aC aD aE (λy43 y44 y45 y46 y47=>K y43 y44 y45 y46 y47 0)) else(Y5.f k a1 (λy59=>bif(!y59) then(YC.f k aB aA aC aD aE (λy60 y61 y62 y63 y64=>K y60 y61 y62 y63 y64 0)) else(F a1 aB aA aC aD aE 0 (⟨#[]⟩:BA) 0 (0,aB,aA,aC,aD,aE)))))
noncomputable def Yai.g {β:Type} (k:Nat) (aB:Int) (aA:BA) (aC:Int) (aD aE a1:LD) (K:Int->BA->Int->LC->LC->Int->Option β):Option β:=Yai.m k aB aA aC aD aE a1 K (λaF aH aI aJ aM aP aQ aT aS=>ZA (Yai.l0 k aF aH aI aJ aM aP aQ aT aS K) k)
noncomputable def Yai.t (k:Nat) (aB:Int) (aA:BA) (aC:Int) (aD aE a1:LD):Option (Int×BA×Int×LC×LC×Int):=Yai.g k aB aA aC aD aE a1 (λz0 z1 z2 z3 z4 z5=>some (z0,z1,z2,z3,z4,z5))
noncomputable def Yai.f {β:Type} (k:Nat) (aB:Int) (aA:BA) (aC:Int) (aD aE a1:LD) (K:Int->BA->Int->LC->LC->Int->Option β):Option β:=match Yai.t k aB aA aC aD aE a1 with|some (z0,z1,z2,z3,z4,z5)=>K z0 z1 z2 z3 z4 z5|none=>none
noncomputable def Yai.e (k:Nat):Zj:=ent [.agg [.n,.s,.n,.l,.l],.d .l] [5,1] [.n,.s,.n,.o,.o,.n] [54,3] false (Yai.t k)
noncomputable def Yai.p (k:Nat):Pro:=⟨Tryz.prog,[(49,Yan.e k),(70,YC.e k),(125,Y5.e k),(126,Ya4.e k)],Zv [(5,kp [1,2,4,6,7])] false [],k⟩
noncomputable def Yai.d (k:Nat) (aB:Int) (aA:BA) (aC:Int) (aD aE a1:LD):Ex->St->Option (Int×BA×Int×LC×LC×Int):=(Yai.p k).fin Tryz.f69 [.agg [.int .i64 aB,.str aA,.int .i64 aC,.sl aD,.sl aE],.d (.sl a1)] [5,1] [.n,.s,.n,.o,.o,.n]
noncomputable def Yai.s0 (aF:LD) (aH:Int) (aI:BA) (aJ:Int) (aM aP:LD) (aQ:Int) (aT:BA) (aS:Int) (v:Int×Int×BA×Int×LD×LD):St:=
 match v with
 |(aG,bB,bD,bE,bM,bO)=>ZaA 44 [(1,.d false (.sl aF)),(2,.bp 0 0),(4,.bp 1 0),(6,.bp 2 0),(7,.d true (.int .i64 aG))] [.box none 54 [.d false (.int .i64 aH),.d false (.str aI),.d false (.int .i64 aJ),.d false (.sl aM),.d false (.sl aP)],.box none 54 [.d true (.int .i64 aQ),.d true (.str aT),.d true (.int .i64 aS),.nil,.nil],.box none 54 [.d false (.int .i64 bB),.d false (.str bD),.d false (.int .i64 bE),.d false (.sl bM),.d false (.sl bO)]]
noncomputable def Yai.r0 (k:Nat) (aB:Int) (aA:BA) (aC:Int) (aD aE a1 aF:LD) (aH:Int) (aI:BA) (aJ:Int) (aM aP:LD) (aQ:Int) (aT:BA) (aS:Int) (n:Nat) (v:Int×Int×BA×Int×LD×LD):Option (Int×BA×Int×LC×LC×Int):=(Yai.p k).lp (ZI Tryz.f69) 5 [1,1,1,0,1,0] (Yai.d k aB aA aC aD aE a1) n (Yai.s0 aF aH aI aJ aM aP aQ aT aS v)
theorem Yai.l0_eq (k:Nat) (aB:Int) (aA:BA) (aC:Int) (aD aE a1 aF:LD) (aH:Int) (aI:BA) (aJ:Int) (aM aP:LD) (aQ:Int) (aT:BA) (aS:Int):∀ n v,Yai.r0 k aB aA aC aD aE a1 aF aH aI aJ aM aP aQ aT aS n v=ZA (Yai.l0 k aF aH aI aJ aM aP aQ aT aS (λz0 z1 z2 z3 z4 z5=>some (z0,z1,z2,z3,z4,z5))) n v:=
 Zz (Yai.s0 aF aH aI aJ aM aP aQ aT aS) _ λL0 v=>by obtain⟨aG,bB,bD,bE,bM,bO⟩:=v;kernel_rfl
theorem Yai.ok (k:Nat):Zf Tryz.prog 69 (Yai.e k):=Zk (Yai.p k) mix tyok Tryz.func69 ⟨Yan.ok k,YC.ok k,Y5.ok k,Ya4.ok k⟩ (by kernel_rfl) (λaB aA aC aD aE a1=>Eq.trans (b:=Yai.m k aB aA aC aD aE a1 (λz0 z1 z2 z3 z4 z5=>some (z0,z1,z2,z3,z4,z5)) (λaF aH aI aJ aM aP aQ aT aS=>Yai.r0 k aB aA aC aD aE a1 aF aH aI aJ aM aP aQ aT aS k)) (by kernel_rfl) (congrArg (Yai.m k aB aA aC aD aE a1 (λz0 z1 z2 z3 z4 z5=>some (z0,z1,z2,z3,z4,z5))) (funext λaF=>funext λaH=>funext λaI=>funext λaJ=>funext λaM=>funext λaP=>funext λaQ=>funext λaT=>funext λaS=>funext λv=>Yai.l0_eq k aB aA aC aD aE a1 aF aH aI aJ aM aP aQ aT aS k v) :))
noncomputable def YW.l0 {β:Type} (k:Nat) (aF:BA) (aH:Int) (aI:BA) (aJ:Int) (aM aP aQ:LD) (aT:Int) (aS:BA) (bB:Int) (bD bE bM:LD) (bO:Bool) (bQ:Int) (bR:BA) (bT:Int) (K:Int->BA->Int->LC->LC->Bool->Option β) (L0:Int->Option β) (v:Int):Option β:=
 match v with
 |aG=>bif(decide ((aG:Int)<(bM.length:Int))) then(atR bM aG [.s,.l] λx266 x269=>(bif(Zae x266 aF) then(atR bM aG [.s,.l] λx273 x276=>(Yai.f k aT aS bB bD bE x276 (λy277 y278 y279 y280 y281 y282=>bif(decide ((y282:Int)>=0)) then(K 0 (⟨#[]⟩:BA) 0 ([]:LC) ([]:LC) false) else(K y277 y278 y279 y280 y281 true)))) else(L0 (IntKind.wrap .i64 (aG+1))))) else(YC.f k aT aS bB bD bE (λy283 y284 y285 y286 y287=>K y283 y284 y285 y286 y287 true))
noncomputable def YW.m {β:Type} (k:Nat) (aB:Int) (aA:BA) (aC:Int) (aD aE aK:LD) (aL:Int) (aZ:BA) (bA:Int) (aX aW aY:LD) (bC:Bool) (a1:BA) (K:Int->BA->Int->LC->LC->Bool->Option β) (F:(BA->Int->BA->Int->LD->LD->LD->Int->BA->Int->LD->LD->LD->Bool->Int->BA->Int->Int->Option β)):Option β:=
 Yan.f k aL aZ bA aX aW (λy63=>bif(!y63) then(K 0 (⟨#[]⟩:BA) 0 ([]:LC) ([]:LC) false) else(F a1 aB aA aC aD aE aK aL aZ bA aX aW aY bC 0 (⟨#[]⟩:BA) 0 (0)))
noncomputable def YW.g {β:Type} (k:Nat) (aB:Int) (aA:BA) (aC:Int) (aD aE aK:LD) (aL:Int) (aZ:BA) (bA:Int) (aX aW aY:LD) (bC:Bool) (a1:BA) (K:Int->BA->Int->LC->LC->Bool->Option β):Option β:=
 Yan.f k aL aZ bA aX aW (λy63=>bif(!y63) then(K 0 (⟨#[]⟩:BA) 0 ([]:LC) ([]:LC) false) else(ZA (YW.l0 k a1 aB aA aC aD aE aK aL aZ bA aX aW aY bC 0 (⟨#[]⟩:BA) 0 K) k (0)))
noncomputable def YW.t (k:Nat) (aB:Int) (aA:BA) (aC:Int) (aD aE aK:LD) (aL:Int) (aZ:BA) (bA:Int) (aX aW aY:LD) (bC:Bool) (a1:BA):Option (Int×BA×Int×LC×LC×Bool):=YW.g k aB aA aC aD aE aK aL aZ bA aX aW aY bC a1 (λz0 z1 z2 z3 z4 z5=>some (z0,z1,z2,z3,z4,z5))
noncomputable def YW.f {β:Type} (k:Nat) (aB:Int) (aA:BA) (aC:Int) (aD aE aK:LD) (aL:Int) (aZ:BA) (bA:Int) (aX aW aY:LD) (bC:Bool) (a1:BA) (K:Int->BA->Int->LC->LC->Bool->Option β):Option β:=match YW.t k aB aA aC aD aE aK aL aZ bA aX aW aY bC a1 with|some (z0,z1,z2,z3,z4,z5)=>K z0 z1 z2 z3 z4 z5|none=>none
noncomputable def YW.e (k:Nat):Zj:=ent [.agg [.n,.s,.n,.l,.l,.l,.n,.s,.n,.l,.l,.l,.b],.d .s] [5,1] [.n,.s,.n,.o,.o,.b] [54,4] false (YW.t k)
noncomputable def YW.p (k:Nat):Pro:=⟨Tryz.prog,[(49,Yan.e k),(69,Yai.e k),(70,YC.e k)],Zv [(4,kp [1,2,4,6])] false [],k⟩
noncomputable def YW.d (k:Nat) (aB:Int) (aA:BA) (aC:Int) (aD aE aK:LD) (aL:Int) (aZ:BA) (bA:Int) (aX aW aY:LD) (bC:Bool) (a1:BA):Ex->St->Option (Int×BA×Int×LC×LC×Bool):=(YW.p k).fin Tryz.f25 [.agg [.int .i64 aB,.str aA,.int .i64 aC,.sl aD,.sl aE,.sl aK,.int .i64 aL,.str aZ,.int .i64 bA,.sl aX,.sl aW,.sl aY,.bool bC],.d (.str a1)] [5,1] [.n,.s,.n,.o,.o,.b]
noncomputable def YW.s0 (aF:BA) (aH:Int) (aI:BA) (aJ:Int) (aM aP aQ:LD) (aT:Int) (aS:BA) (bB:Int) (bD bE bM:LD) (bO:Bool) (bQ:Int) (bR:BA) (bT v:Int):St:=
 match v with
 |aG=>ZaA 48 [(1,.d false (.str aF)),(2,.bp 0 0),(4,.bp 1 0),(6,.d true (.int .i64 aG))] [.box none 75 [.d false (.int .i64 aH),.d false (.str aI),.d false (.int .i64 aJ),.d false (.sl aM),.d false (.sl aP),.d false (.sl aQ),.d false (.int .i64 aT),.d false (.str aS),.d false (.int .i64 bB),.d false (.sl bD),.d false (.sl bE),.d false (.sl bM),.d false (.bool bO)],.box none 54 [.d true (.int .i64 bQ),.d true (.str bR),.d true (.int .i64 bT),.nil,.nil]]
noncomputable def YW.r0 (k:Nat) (aB:Int) (aA:BA) (aC:Int) (aD aE aK:LD) (aL:Int) (aZ:BA) (bA:Int) (aX aW aY:LD) (bC:Bool) (a1 aF:BA) (aH:Int) (aI:BA) (aJ:Int) (aM aP aQ:LD) (aT:Int) (aS:BA) (bB:Int) (bD bE bM:LD) (bO:Bool) (bQ:Int) (bR:BA) (bT:Int) (n:Nat) (v:Int):Option (Int×BA×Int×LC×LC×Bool):=(YW.p k).lp (ZI Tryz.f25) 4 [1,1,0,1,0] (YW.d k aB aA aC aD aE aK aL aZ bA aX aW aY bC a1) n (YW.s0 aF aH aI aJ aM aP aQ aT aS bB bD bE bM bO bQ bR bT v)
theorem YW.l0_eq (k:Nat) (aB:Int) (aA:BA) (aC:Int) (aD aE aK:LD) (aL:Int) (aZ:BA) (bA:Int) (aX aW aY:LD) (bC:Bool) (a1 aF:BA) (aH:Int) (aI:BA) (aJ:Int) (aM aP aQ:LD) (aT:Int) (aS:BA) (bB:Int) (bD bE bM:LD) (bO:Bool) (bQ:Int) (bR:BA) (bT:Int):∀ n v,YW.r0 k aB aA aC aD aE aK aL aZ bA aX aW aY bC a1 aF aH aI aJ aM aP aQ aT aS bB bD bE bM bO bQ bR bT n v=ZA (YW.l0 k aF aH aI aJ aM aP aQ aT aS bB bD bE bM bO bQ bR bT (λz0 z1 z2 z3 z4 z5=>some (z0,z1,z2,z3,z4,z5))) n v:=
 Zz (YW.s0 aF aH aI aJ aM aP aQ aT aS bB bD bE bM bO bQ bR bT) _ λL0 v=>by kernel_rfl
theorem YW.ok (k:Nat):Zf Tryz.prog 25 (YW.e k):=Zk (YW.p k) mix tyok Tryz.func25 ⟨Yan.ok k,Yai.ok k,YC.ok k⟩ (by kernel_rfl) (λaB aA aC aD aE aK aL aZ bA aX aW aY bC a1=>Eq.trans (b:=YW.m k aB aA aC aD aE aK aL aZ bA aX aW aY bC a1 (λz0 z1 z2 z3 z4 z5=>some (z0,z1,z2,z3,z4,z5)) (λaF aH aI aJ aM aP aQ aT aS bB bD bE bM bO bQ bR bT=>YW.r0 k aB aA aC aD aE aK aL aZ bA aX aW aY bC a1 aF aH aI aJ aM aP aQ aT aS bB bD bE bM bO bQ bR bT k)) (by kernel_rfl) (congrArg (YW.m k aB aA aC aD aE aK aL aZ bA aX aW aY bC a1 (λz0 z1 z2 z3 z4 z5=>some (z0,z1,z2,z3,z4,z5))) (funext λaF=>funext λaH=>funext λaI=>funext λaJ=>funext λaM=>funext λaP=>funext λaQ=>funext λaT=>funext λaS=>funext λbB=>funext λbD=>funext λbE=>funext λbM=>funext λbO=>funext λbQ=>funext λbR=>funext λbT=>funext λv=>YW.l0_eq k aB aA aC aD aE aK aL aZ bA aX aW aY bC a1 aF aH aI aJ aM aP aQ aT aS bB bD bE bM bO bQ bR bT k v) :))
noncomputable def Yaw.g {β:Type} (k:Nat) (a0 a1 a2:Int) (K:Bool->Option β):Option β:=
 bif(decide ((a0:Int)>=a1)) then(K (decide ((a0:Int)<=a2))) else(K false)
noncomputable def Yaw.t (k:Nat) (a0 a1 a2:Int):Option (Bool):=Yaw.g k a0 a1 a2 (λz0=>some z0)
noncomputable def Yaw.f {β:Type} (k:Nat) (a0 a1 a2:Int) (K:Bool->Option β):Option β:=bd1 (Yaw.t k a0 a1 a2) K
noncomputable def Yaw.e (k:Nat):Zj:=ent [.d .n,.d .n,.d .n] [1] [.b] [4] false (Yaw.t k)
noncomputable def Yaw.p (k:Nat):Pro:=⟨Tryz.prog,[],Zv [] false [],k⟩
theorem Yaw.ok (k:Nat):Zf Tryz.prog 96 (Yaw.e k):=Zk (Yaw.p k) mix tyok Tryz.func96 trivial (by kernel_rfl) (λa0 a1 a2=>by show _=_;kernel_rfl)
noncomputable def Y7.l0 {β:Type} (k:Nat) (aF:BA) (aG:Int) (K:Bool->Option β) (L0:Int->Option β) (v:Int):Option β:=
 match v with
 |aH=>bif(decide ((aH:Int)<aG)) then(atStr aF aH λb5=>let J1:=(bif((b5:Int)!=45) then(K false) else(L0 (IntKind.wrap .i64 (aH+1))));let J0:=(bif(decide ((b5:Int)<48)) then J1 else(bif(decide ((b5:Int)>57)) then J1 else(L0 (IntKind.wrap .i64 (aH+1)))));bif(decide ((b5:Int)<97)) then J0 else(bif(decide ((b5:Int)>122)) then J0 else(L0 (IntKind.wrap .i64 (aH+1))))) else(Yaw.f k (aF.size:Int) 1 20 (λy6=>bif y6 then(atStr aF 0 λb7=>bif((b7:Int)!=45) then(atStr aF (IntKind.wrap .i64 ((aF.size:Int)-1)) λb8=>K ((b8:Int)!=45)) else(K false)) else(K false)))
noncomputable def Y7.m {β:Type} (k:Nat) (a0:BA) (K:Bool->Option β) (F:(BA->Int->Int->Option β)):Option β:=
 F a0 (a0.size:Int) (0)
noncomputable def Y7.g {β:Type} (k:Nat) (a0:BA) (K:Bool->Option β):Option β:=
 ZA (Y7.l0 k a0 (a0.size:Int) K) k (0)
noncomputable def Y7.t (k:Nat) (a0:BA):Option (Bool):=Y7.g k a0 (λz0=>some z0)
noncomputable def Y7.f {β:Type} (k:Nat) (a0:BA) (K:Bool->Option β):Option β:=bd1 (Y7.t k a0) K
noncomputable def Y7.e (k:Nat):Zj:=ent [.d .s] [1] [.b] [4] false (Y7.t k)
noncomputable def Y7.p (k:Nat):Pro:=⟨Tryz.prog,[(96,Yaw.e k)],Zv [(2,kp [0,6,7])] false [],k⟩
noncomputable def Y7.d (k:Nat) (a0:BA):Ex->St->Option (Bool):=(Y7.p k).fin Tryz.f112 [.d (.str a0)] [1] [.b]
noncomputable def Y7.s0 (aF:BA) (aG v:Int):St:=
 match v with
 |aH=>ZaA 48 [(0,.d false (.str aF)),(6,.d true (.int .i64 aG)),(7,.d true (.int .i64 aH))] []
noncomputable def Y7.r0 (k:Nat) (a0 aF:BA) (aG:Int) (n:Nat) (v:Int):Option (Bool):=(Y7.p k).lp (ZI Tryz.f112) 2 [1,0,1,0] (Y7.d k a0) n (Y7.s0 aF aG v)
theorem Y7.l0_eq (k:Nat) (a0 aF:BA) (aG:Int):∀ n v,Y7.r0 k a0 aF aG n v=ZA (Y7.l0 k aF aG (λz0=>some z0)) n v:=
 Zz (Y7.s0 aF aG) _ λL0 v=>by kernel_rfl
theorem Y7.ok (k:Nat):Zf Tryz.prog 112 (Y7.e k):=Zk (Y7.p k) mix tyok Tryz.func112 (Yaw.ok k) (by kernel_rfl) (λa0=>Eq.trans (b:=Y7.m k a0 (λz0=>some z0) (λaF aG=>Y7.r0 k a0 aF aG k)) (by kernel_rfl) (congrArg (Y7.m k a0 (λz0=>some z0)) (funext λaF=>funext λaG=>funext λv=>Y7.l0_eq k a0 aF aG k v) :))
noncomputable def Y6.l0 {β:Type} (k:Nat) (aF:LD) (aG:Int) (aH:LD) (aI:Int) (K:Bool->Option β) (L0:Int->Option β) (v:Int):Option β:=
 match v with
 |aJ=>bif(decide ((aJ:Int)<aI)) then(atR aH aJ [.s] λx17=>(Y7.f k x17 (λy18=>bif(!y18) then(K false) else(bif(decide ((aJ:Int)>0)) then(atR aF (IntKind.wrap .i64 (aJ-1)) [.s] λx22=>(bif(!(strLt x22 x17)) then(K false) else(L0 (IntKind.wrap .i64 (aJ+1))))) else(L0 (IntKind.wrap .i64 (aJ+1))))))) else(K (decide (((aF.length:Int):Int)<=aG)))
noncomputable def Y6.m {β:Type} (k:Nat) (a0:LD) (a1:Int) (K:Bool->Option β) (F:(LD->Int->LD->Int->Int->Option β)):Option β:=
 F a0 a1 a0 (a0.length:Int) (0)
noncomputable def Y6.g {β:Type} (k:Nat) (a0:LD) (a1:Int) (K:Bool->Option β):Option β:=
 ZA (Y6.l0 k a0 a1 a0 (a0.length:Int) K) k (0)
noncomputable def Y6.t (k:Nat) (a0:LD) (a1:Int):Option (Bool):=Y6.g k a0 a1 (λz0=>some z0)
noncomputable def Y6.f {β:Type} (k:Nat) (a0:LD) (a1:Int) (K:Bool->Option β):Option β:=bd1 (Y6.t k a0 a1) K
noncomputable def Y6.e (k:Nat):Zj:=ent [.d .l,.d .n] [1] [.b] [4] false (Y6.t k)
noncomputable def Y6.p (k:Nat):Pro:=⟨Tryz.prog,[(112,Y7.e k)],Zv [(2,kp [0,1,7,8,9])] false [],k⟩
noncomputable def Y6.d (k:Nat) (a0:LD) (a1:Int):Ex->St->Option (Bool):=(Y6.p k).fin Tryz.f176 [.d (.sl a0),.d (.int .i64 a1)] [1] [.b]
noncomputable def Y6.s0 (aF:LD) (aG:Int) (aH:LD) (aI v:Int):St:=
 match v with
 |aJ=>ZaA 35 [(0,.d false (.sl aF)),(1,.d false (.int .i64 aG)),(7,.d false (.sl aH)),(8,.d true (.int .i64 aI)),(9,.d true (.int .i64 aJ))] []
noncomputable def Y6.r0 (k:Nat) (a0:LD) (a1:Int) (aF:LD) (aG:Int) (aH:LD) (aI:Int) (n:Nat) (v:Int):Option (Bool):=(Y6.p k).lp (ZI Tryz.f176) 2 [1,0,1,0] (Y6.d k a0 a1) n (Y6.s0 aF aG aH aI v)
theorem Y6.l0_eq (k:Nat) (a0:LD) (a1:Int) (aF:LD) (aG:Int) (aH:LD) (aI:Int):∀ n v,Y6.r0 k a0 a1 aF aG aH aI n v=ZA (Y6.l0 k aF aG aH aI (λz0=>some z0)) n v:=
 Zz (Y6.s0 aF aG aH aI) _ λL0 v=>by kernel_rfl
theorem Y6.ok (k:Nat):Zf Tryz.prog 176 (Y6.e k):=Zk (Y6.p k) mix tyok Tryz.func176 (Y7.ok k) (by kernel_rfl) (λa0 a1=>Eq.trans (b:=Y6.m k a0 a1 (λz0=>some z0) (λaF aG aH aI=>Y6.r0 k a0 a1 aF aG aH aI k)) (by kernel_rfl) (congrArg (Y6.m k a0 a1 (λz0=>some z0)) (funext λaF=>funext λaG=>funext λaH=>funext λaI=>funext λv=>Y6.l0_eq k a0 a1 aF aG aH aI k v) :))
noncomputable def YV.l0 {β:Type} (k:Nat) (aF aG aH:Bool) (aI aM:Int) (aP:BA) (aQ:Int) (aT aS:LD) (K:Bool->Option β) (L0:Int->Option β) (v:Int):Option β:=
 match v with
 |aJ=>bif(decide ((aJ:Int)<aI)) then(atStr aP aJ λb3=>Yaw.f k (IntKind.wrap .i64 b3) 32 126 (λy4=>bif(!y4) then(K false) else(L0 (IntKind.wrap .i64 (aJ+1))))) else(bif(decide (((aP.size:Int):Int)<=100)) then(bif aF then(bif aG then(K aH) else(K false)) else(K false)) else(K false))
noncomputable def YV.m {β:Type} (k:Nat) (aB:Int) (aA:BA) (aC:Int) (aD aE:LD) (K:Bool->Option β) (F:(Bool->Bool->Bool->Int->Int->BA->Int->LD->LD->Int->Option β)):Option β:=
 bif((aB:Int)==1) then(F ((aC:Int)==0) (((aD.length:Int):Int)==0) (((aE.length:Int):Int)==0) (aA.size:Int) aB aA aC aD aE (0)) else(let J0:=(bif(((aD.length:Int):Int)==0) then(K (((aE.length:Int):Int)==0)) else(K false));bif((aB:Int)==2) then(bif(Zae aA (⟨#[]⟩:BA)) then J0 else(K false)) else(bif((aB:Int)==3) then(Yaw.f k aC 0 1 (λy5=>bif(Zae aA (⟨#[]⟩:BA)) then(bif y5 then J0 else(K false)) else(K false))) else(bif((aB:Int)==4) then(bif(Zae aA (⟨#[]⟩:BA)) then(bif((aC:Int)==0) then(bif(((aD.length:Int):Int)==0) then(K true) else(K false)) else(K false)) else(K false)) else(bif((aB:Int)==5) then(Y6.f k aD 300 (λy23=>bif y23 then(bif(Zae aA (⟨#[]⟩:BA)) then(bif((aC:Int)==0) then(bif(((aD.length:Int):Int)==(aE.length:Int)) then(K true) else(K false)) else(K false)) else(K false)) else(bif(Zae aA (⟨#[]⟩:BA)) then(bif((aC:Int)==0) then(K false) else(K false)) else(K false)))) else(K false)))))
noncomputable def YV.g {β:Type} (k:Nat) (aB:Int) (aA:BA) (aC:Int) (aD aE:LD) (K:Bool->Option β):Option β:=YV.m k aB aA aC aD aE K (λaF aG aH aI aM aP aQ aT aS=>ZA (YV.l0 k aF aG aH aI aM aP aQ aT aS K) k)
noncomputable def YV.t (k:Nat) (aB:Int) (aA:BA) (aC:Int) (aD aE:LD):Option (Bool):=YV.g k aB aA aC aD aE (λz0=>some z0)
noncomputable def YV.f {β:Type} (k:Nat) (aB:Int) (aA:BA) (aC:Int) (aD aE:LD) (K:Bool->Option β):Option β:=bd1 (YV.t k aB aA aC aD aE) K
noncomputable def YV.e (k:Nat):Zj:=ent [.agg [.n,.s,.n,.l,.l]] [1] [.b] [4] false (YV.t k)
noncomputable def YV.p (k:Nat):Pro:=⟨Tryz.prog,[(96,Yaw.e k),(176,Y6.e k)],Zv [(6,kp [1,4,5,6,28,29])] false [],k⟩
noncomputable def YV.d (k:Nat) (aB:Int) (aA:BA) (aC:Int) (aD aE:LD):Ex->St->Option (Bool):=(YV.p k).fin Tryz.f148 [.agg [.int .i64 aB,.str aA,.int .i64 aC,.sl aD,.sl aE]] [1] [.b]
noncomputable def YV.s0 (aF aG aH:Bool) (aI aM:Int) (aP:BA) (aQ:Int) (aT aS:LD) (v:Int):St:=
 match v with
 |aJ=>ZaA 77 [(1,.bp 0 0),(4,.d true (.bool aF)),(5,.d true (.bool aG)),(6,.d true (.bool aH)),(28,.d true (.int .i64 aI)),(29,.d true (.int .i64 aJ))] [.box none 54 [.d false (.int .i64 aM),.d false (.str aP),.d false (.int .i64 aQ),.d false (.sl aT),.d false (.sl aS)]]
noncomputable def YV.r0 (k:Nat) (aB:Int) (aA:BA) (aC:Int) (aD aE:LD) (aF aG aH:Bool) (aI aM:Int) (aP:BA) (aQ:Int) (aT aS:LD) (n:Nat) (v:Int):Option (Bool):=(YV.p k).lp (ZI Tryz.f148) 6 [1,1,0,1,0,1,0,0,1,0] (YV.d k aB aA aC aD aE) n (YV.s0 aF aG aH aI aM aP aQ aT aS v)
theorem YV.l0_eq (k:Nat) (aB:Int) (aA:BA) (aC:Int) (aD aE:LD) (aF aG aH:Bool) (aI aM:Int) (aP:BA) (aQ:Int) (aT aS:LD):∀ n v,YV.r0 k aB aA aC aD aE aF aG aH aI aM aP aQ aT aS n v=ZA (YV.l0 k aF aG aH aI aM aP aQ aT aS (λz0=>some z0)) n v:=
 Zz (YV.s0 aF aG aH aI aM aP aQ aT aS) _ λL0 v=>by kernel_rfl
theorem YV.ok (k:Nat):Zf Tryz.prog 148 (YV.e k):=Zk (YV.p k) mix tyok Tryz.func148 ⟨Yaw.ok k,Y6.ok k⟩ (by kernel_rfl) (λaB aA aC aD aE=>Eq.trans (b:=YV.m k aB aA aC aD aE (λz0=>some z0) (λaF aG aH aI aM aP aQ aT aS=>YV.r0 k aB aA aC aD aE aF aG aH aI aM aP aQ aT aS k)) (by kernel_rfl) (congrArg (YV.m k aB aA aC aD aE (λz0=>some z0)) (funext λaF=>funext λaG=>funext λaH=>funext λaI=>funext λaM=>funext λaP=>funext λaQ=>funext λaT=>funext λaS=>funext λv=>YV.l0_eq k aB aA aC aD aE aF aG aH aI aM aP aQ aT aS k v) :))
noncomputable def Yq.l0 {β:Type} (k:Nat) (r_impl_measured:Int->BA->Int->LD->LD->Int->(Int->Option β)->Option β) (aF:Int) (aH:LD) (aI:Int) (K:Int->Option β) (L0:(Int×Int)->Option β) (v:Int×Int):Option β:=
 match v with
 |(aG,aJ)=>bif(decide ((aJ:Int)<aI)) then(atR aH aJ [.n,.s,.n,.l,.l] λx45 x48 x51 x54 x57=>(r_impl_measured x45 x48 x51 x54 x57 (IntKind.wrap .i64 (aF-1)) (λy58=>bif(decide (((IntKind.wrap .i64 (aG+y58)):Int)>300)) then(K 301) else(L0 (IntKind.wrap .i64 (aG+y58),IntKind.wrap .i64 (aJ+1)))))) else(K aG)
noncomputable def Yq.m {β:Type} (k:Nat) (r_impl_measured:Int->BA->Int->LD->LD->Int->(Int->Option β)->Option β) (aB:Int) (aA:BA) (aC:Int) (aD aE:LD) (a1:Int) (K:Int->Option β) (F:(Int->LD->Int->(Int×Int)->Option β)):Option β:=
 bif((a1:Int)==0) then(K 301) else(YV.f k aB aA aC aD aE (λy24=>bif(!y24) then(K 301) else(F a1 aE (aE.length:Int) (1,0))))
noncomputable def Yq.body {β:Type} (k:Nat) (r_impl_measured:Int->BA->Int->LD->LD->Int->(Int->Option β)->Option β) (aB:Int) (aA:BA) (aC:Int) (aD aE:LD) (a1:Int) (K:Int->Option β):Option β:=
 bif((a1:Int)==0) then(K 301) else(YV.f k aB aA aC aD aE (λy24=>bif(!y24) then(K 301) else(ZA (Yq.l0 k r_impl_measured a1 aE (aE.length:Int) K) k (1,0))))
noncomputable def Yq.w {β:Type} (r:Int->BA->Int->LD->LD->Int->Option (Int)) (aB:Int) (aA:BA) (aC:Int) (aD aE:LD) (a1:Int) (K:Int->Option β):Option β:=bd1 (r aB aA aC aD aE a1) K
noncomputable def Yq.all:Nat->(Int->BA->Int->LD->LD->Int->Option (Int))
 |0=>(λ_ _ _ _ _ _=>none)
 |k+1=>(λr=>(λaB aA aC aD aE a1=>Yq.body k (Yq.w r) aB aA aC aD aE a1 (λz0=>some z0))) (Yq.all k)
noncomputable def Yq.t (k:Nat) (aB:Int) (aA:BA) (aC:Int) (aD aE:LD) (a1:Int):Option (Int):=(Yq.all k) aB aA aC aD aE a1
noncomputable def Yq.f {β:Type} (k:Nat) (aB:Int) (aA:BA) (aC:Int) (aD aE:LD) (a1:Int) (K:Int->Option β):Option β:=Yq.w (Yq.t k) aB aA aC aD aE a1 K
noncomputable def Yq.g {β:Type} (k:Nat) (aB:Int) (aA:BA) (aC:Int) (aD aE:LD) (a1:Int) (K:Int->Option β):Option β:=Yq.body k (Yq.f k) aB aA aC aD aE a1 K
theorem Yq.t_succ (k:Nat) (aB:Int) (aA:BA) (aC:Int) (aD aE:LD) (a1:Int):Yq.t (k+1) aB aA aC aD aE a1=Yq.g k aB aA aC aD aE a1 (λz0=>some z0):=rfl
noncomputable def Yq.e (k:Nat):Zj:=ent [.agg [.n,.s,.n,.l,.l],.d .n] [1] [.n] [3] false (Yq.t k)
noncomputable def Yq.p (k:Nat):Pro:=⟨Tryz.prog,[(148,YV.e k),(113,Yq.e k)],Zv [(5,kp [1,5,16,17,18])] false [],k⟩
noncomputable def Yq.d (k:Nat) (aB:Int) (aA:BA) (aC:Int) (aD aE:LD) (a1:Int):Ex->St->Option (Int):=(Yq.p k).fin Tryz.f113 [.agg [.int .i64 aB,.str aA,.int .i64 aC,.sl aD,.sl aE],.d (.int .i64 a1)] [1] [.n]
noncomputable def Yq.s0 (aF:Int) (aH:LD) (aI:Int) (v:Int×Int):St:=
 match v with
 |(aG,aJ)=>ZaA 32 [(1,.d false (.int .i64 aF)),(5,.d true (.int .i64 aG)),(16,.d false (.sl aH)),(17,.d true (.int .i64 aI)),(18,.d true (.int .i64 aJ))] []
noncomputable def Yq.r0 (k:Nat) (aB:Int) (aA:BA) (aC:Int) (aD aE:LD) (a1 aF:Int) (aH:LD) (aI:Int) (n:Nat) (v:Int×Int):Option (Int):=(Yq.p k).lp (ZI Tryz.f113) 5 [1,1,1,0,1,0] (Yq.d k aB aA aC aD aE a1) n (Yq.s0 aF aH aI v)
theorem Yq.l0_eq (k:Nat) (aB:Int) (aA:BA) (aC:Int) (aD aE:LD) (a1 aF:Int) (aH:LD) (aI:Int):∀ n v,Yq.r0 k aB aA aC aD aE a1 aF aH aI n v=ZA (Yq.l0 k (Yq.f k) aF aH aI (λz0=>some z0)) n v:=
 Zz (Yq.s0 aF aH aI) _ λL0 v=>by obtain⟨aG,aJ⟩:=v;kernel_rfl
theorem Yq.oks (k:Nat):Zf Tryz.prog 113 (Yq.e k):=by
 induction k with
 |zero=>exact Zba Tryz.func113 (by kernel_rfl) (λ_ _ _ _ _ _=>rfl)
 |succ k ih=>exact Zk (Yq.p k) mix tyok Tryz.func113 ⟨YV.ok k,ih⟩ (by kernel_rfl) (λaB aA aC aD aE a1=>Eq.trans (b:=Yq.m k (Yq.f k) aB aA aC aD aE a1 (λz0=>some z0) (λaF aH aI=>Yq.r0 k aB aA aC aD aE a1 aF aH aI k)) (by kernel_rfl) ((congrArg (Yq.m k (Yq.f k) aB aA aC aD aE a1 (λz0=>some z0)) (funext λaF=>funext λaH=>funext λaI=>funext λv=>Yq.l0_eq k aB aA aC aD aE a1 aF aH aI k v)).trans (Yq.t_succ k aB aA aC aD aE a1).symm))
theorem Yq.ok (k:Nat):Zf Tryz.prog 113 (Yq.e k):=(Yq.oks k)
noncomputable def Yaf.g {β:Type} (k:Nat) (aB:Int) (aA:BA) (aC:Int) (aD aE:LD) (K:Bool->Option β):Option β:=
 Yq.f k aB aA aC aD aE 6 (λy59=>K (decide ((y59:Int)<=300)))
noncomputable def Yaf.t (k:Nat) (aB:Int) (aA:BA) (aC:Int) (aD aE:LD):Option (Bool):=Yaf.g k aB aA aC aD aE (λz0=>some z0)
noncomputable def Yaf.f {β:Type} (k:Nat) (aB:Int) (aA:BA) (aC:Int) (aD aE:LD) (K:Bool->Option β):Option β:=bd1 (Yaf.t k aB aA aC aD aE) K
noncomputable def Yaf.e (k:Nat):Zj:=ent [.agg [.n,.s,.n,.l,.l]] [1] [.b] [4] false (Yaf.t k)
noncomputable def Yaf.p (k:Nat):Pro:=⟨Tryz.prog,[(113,Yq.e k)],Zv [] false [],k⟩
theorem Yaf.ok (k:Nat):Zf Tryz.prog 57 (Yaf.e k):=Zk (Yaf.p k) mix tyok Tryz.func57 (Yq.ok k) (by kernel_rfl) (λaB aA aC aD aE=>by show _=_;kernel_rfl)
noncomputable def YaB.g {β:Type} (k:Nat) (aB:BA) (aA:LD) (f0_0:BA) (K:Bool->Option β):Option β:=
 K (Zae aB f0_0)
noncomputable def YaB.t (k:Nat) (aB:BA) (aA:LD) (f0_0:BA):Option (Bool):=YaB.g k aB aA f0_0 (λz0=>some z0)
noncomputable def YaB.f {β:Type} (k:Nat) (aB:BA) (aA:LD) (f0_0:BA) (K:Bool->Option β):Option β:=bd1 (YaB.t k aB aA f0_0) K
noncomputable def YaB.e (k:Nat):Zj:=ent [.agg [.s,.l],.ip [.s]] [1] [.b] [4] false (YaB.t k)
noncomputable def YaB.p (k:Nat):Pro:=⟨Tryz.prog,[],Zv [] false [],k⟩
theorem YaB.ok (k:Nat):Zf Tryz.prog 74 (YaB.e k):=Zk (YaB.p k) mix tyok Tryz.func74 trivial (by kernel_rfl) (λaB aA f0_0=>by show _=_;kernel_rfl)
noncomputable def Yb.l0 {β:Type} (k:Nat) (aF:LD) (aG:BA) (aH:Int) (K L0:Int->Option β) (v:Int):Option β:=
 match v with
 |aI=>bif(decide ((aI:Int)<aH)) then(atR aF aI [.s,.l] λx12 x15=>(YaB.f k x12 x15 aG (λy16=>bif y16 then(K aI) else(L0 (IntKind.wrap .i64 (aI+1)))))) else(K (-1))
noncomputable def Yb.m {β:Type} (k:Nat) (a0:LD) (a1_0_0:BA) (K:Int->Option β) (F:(LD->BA->Int->Int->Option β)):Option β:=
 F a0 a1_0_0 (a0.length:Int) (0)
noncomputable def Yb.g {β:Type} (k:Nat) (a0:LD) (a1_0_0:BA) (K:Int->Option β):Option β:=
 ZA (Yb.l0 k a0 a1_0_0 (a0.length:Int) K) k (0)
noncomputable def Yb.t (k:Nat) (a0:LD) (a1_0_0:BA):Option (Int):=Yb.g k a0 a1_0_0 (λz0=>some z0)
noncomputable def Yb.f {β:Type} (k:Nat) (a0:LD) (a1_0_0:BA) (K:Int->Option β):Option β:=bd1 (Yb.t k a0 a1_0_0) K
noncomputable def Yb.e (k:Nat):Zj:=ent [.d .l,.fn 74 [[.s]]] [1] [.n] [3] false (Yb.t k)
noncomputable def Yb.p (k:Nat):Pro:=⟨Tryz.prog,[(74,YaB.e k)],Zv [(2,kp [0,1,7,8])] false [],k⟩
noncomputable def Yb.d (k:Nat) (a0:LD) (a1_0_0:BA):Ex->St->Option (Int):=(Yb.p k).fin Tryz.f73 [.d (.sl a0),.d (.fn 74 [[.str a1_0_0]])] [1] [.n]
noncomputable def Yb.s0 (aF:LD) (aG:BA) (aH v:Int):St:=
 match v with
 |aI=>ZaA 19 [(0,.d false (.sl aF)),(1,.d false (.fn 74 [[.str aG]])),(7,.d true (.int .i64 aH)),(8,.d true (.int .i64 aI))] []
noncomputable def Yb.r0 (k:Nat) (a0:LD) (a1_0_0:BA) (aF:LD) (aG:BA) (aH:Int) (n:Nat) (v:Int):Option (Int):=(Yb.p k).lp (ZI Tryz.f73) 2 [1,0,1,0] (Yb.d k a0 a1_0_0) n (Yb.s0 aF aG aH v)
theorem Yb.l0_eq (k:Nat) (a0:LD) (a1_0_0:BA) (aF:LD) (aG:BA) (aH:Int):∀ n v,Yb.r0 k a0 a1_0_0 aF aG aH n v=ZA (Yb.l0 k aF aG aH (λz0=>some z0)) n v:=
 Zz (Yb.s0 aF aG aH) _ λL0 v=>by kernel_rfl
theorem Yb.ok (k:Nat):Zf Tryz.prog 73 (Yb.e k):=Zk (Yb.p k) mix tyok Tryz.func73 (YaB.ok k) (by kernel_rfl) (λa0 a1_0_0=>Eq.trans (b:=Yb.m k a0 a1_0_0 (λz0=>some z0) (λaF aG aH=>Yb.r0 k a0 a1_0_0 aF aG aH k)) (by kernel_rfl) (congrArg (Yb.m k a0 a1_0_0 (λz0=>some z0)) (funext λaF=>funext λaG=>funext λaH=>funext λv=>Yb.l0_eq k a0 a1_0_0 aF aG aH k v) :))
noncomputable def Yaa.g {β:Type} (k:Nat) (a0:LD) (K:LC->Option β):Option β:=
 let J0:=(Zd (Zcg 1 a0) (Zd (([]:LC).length+(a0.map (·.map C.d)).length<=Z8) (K (([]:LC)++(a0.map (·.map C.d))))));nilSl a0 (both (K ([]:LC)) J0) J0
noncomputable def Yaa.t (k:Nat) (a0:LD):Option (LC):=Yaa.g k a0 (λz0=>some z0)
noncomputable def Yaa.f {β:Type} (k:Nat) (a0:LD) (K:LC->Option β):Option β:=bd1 (Yaa.t k a0) K
noncomputable def Yaa.e (k:Nat):Zj:=ent [.d .l] [1] [.o] [45] false (Yaa.t k)
noncomputable def Yaa.p (k:Nat):Pro:=⟨Tryz.prog,[],Zv [] false [],k⟩
theorem Yaa.ok (k:Nat):Zf Tryz.prog 130 (Yaa.e k):=Zk (Yaa.p k) mix tyok Tryz.func130 trivial (by kernel_rfl) (λa0=>by show _=_;kernel_rfl)
noncomputable def Yj.l0 {β:Type} (k:Nat) (r_impl_copyValue:Int->BA->Int->LD->LD->(Int->BA->Int->LC->LC->Option β)->Option β) (aF:LD) (aG aI:Int) (aJ:BA) (aM:Int) (aP:LD) (aQ:Int) (aT:BA) (aS:Int) (bD:LC) (K:Int->BA->Int->LC->LC->Option β) (L0:(Int×LC)->Option β) (v:Int×LC):Option β:=
 match v with
 |(aH,bB)=>bif(decide ((aH:Int)<aG)) then(atR aF aH [.n,.s,.n,.l,.l] λx26 x29 x32 x35 x38=>(r_impl_copyValue x26 x29 x32 x35 x38 (λy39 y40 y41 y42 y43=>Zd (bB.length+([[.d (.int .i64 y39),.d (.str y40),.d (.int .i64 y41),.own y42,.own y43]]:LC).length<=Z8) (L0 (IntKind.wrap .i64 (aH+1),bB++([[.d (.int .i64 y39),.d (.str y40),.d (.int .i64 y41),.own y42,.own y43]]:LC)))))) else(K aI aJ aM bD bB)
noncomputable def Yj.m {β:Type} (k:Nat) (r_impl_copyValue:Int->BA->Int->LD->LD->(Int->BA->Int->LC->LC->Option β)->Option β) (aB:Int) (aA:BA) (aC:Int) (aD aE:LD) (K:Int->BA->Int->LC->LC->Option β) (F:(LD->Int->Int->BA->Int->LD->Int->BA->Int->LC->(Int×LC)->Option β)):Option β:=
 Yaa.f k aD (λy1=>F aE (aE.length:Int) aB aA aC aE 0 (⟨#[]⟩:BA) 0 y1 (0,([]:LC)))
noncomputable def Yj.body {β:Type} (k:Nat) (r_impl_copyValue:Int->BA->Int->LD->LD->(Int->BA->Int->LC->LC->Option β)->Option β) (aB:Int) (aA:BA) (aC:Int) (aD aE:LD) (K:Int->BA->Int->LC->LC->Option β):Option β:=
 Yaa.f k aD (λy1=>ZA (Yj.l0 k r_impl_copyValue aE (aE.length:Int) aB aA aC aE 0 (⟨#[]⟩:BA) 0 y1 K) k (0,([]:LC)))
noncomputable def Yj.w {β:Type} (r:Int->BA->Int->LD->LD->Option (Int×BA×Int×LC×LC)) (aB:Int) (aA:BA) (aC:Int) (aD aE:LD) (K:Int->BA->Int->LC->LC->Option β):Option β:=bd5 (r aB aA aC aD aE) K
noncomputable def Yj.all:Nat->(Int->BA->Int->LD->LD->Option (Int×BA×Int×LC×LC))
 |0=>(λ_ _ _ _ _=>none)
 |k+1=>(λr=>(λaB aA aC aD aE=>Yj.body k (Yj.w r) aB aA aC aD aE (λz0 z1 z2 z3 z4=>some (z0,z1,z2,z3,z4)))) (Yj.all k)
noncomputable def Yj.t (k:Nat) (aB:Int) (aA:BA) (aC:Int) (aD aE:LD):Option (Int×BA×Int×LC×LC):=(Yj.all k) aB aA aC aD aE
noncomputable def Yj.f {β:Type} (k:Nat) (aB:Int) (aA:BA) (aC:Int) (aD aE:LD) (K:Int->BA->Int->LC->LC->Option β):Option β:=Yj.w (Yj.t k) aB aA aC aD aE K
noncomputable def Yj.g {β:Type} (k:Nat) (aB:Int) (aA:BA) (aC:Int) (aD aE:LD) (K:Int->BA->Int->LC->LC->Option β):Option β:=Yj.body k (Yj.f k) aB aA aC aD aE K
theorem Yj.t_succ (k:Nat) (aB:Int) (aA:BA) (aC:Int) (aD aE:LD):Yj.t (k+1) aB aA aC aD aE=Yj.g k aB aA aC aD aE (λz0 z1 z2 z3 z4=>some (z0,z1,z2,z3,z4)):=rfl
noncomputable def Yj.e (k:Nat):Zj:=ent [.agg [.n,.s,.n,.l,.l]] [5] [.n,.s,.n,.o,.o] [54] false (Yj.t k)
noncomputable def Yj.p (k:Nat):Pro:=⟨Tryz.prog,[(130,Yaa.e k),(75,Yj.e k)],Zv [(4,kp [1,2,3,12,13,14])] false [],k⟩
noncomputable def Yj.d (k:Nat) (aB:Int) (aA:BA) (aC:Int) (aD aE:LD):Ex->St->Option (Int×BA×Int×LC×LC):=(Yj.p k).fin Tryz.f75 [.agg [.int .i64 aB,.str aA,.int .i64 aC,.sl aD,.sl aE]] [5] [.n,.s,.n,.o,.o]
noncomputable def Yj.s0 (aF:LD) (aG aI:Int) (aJ:BA) (aM:Int) (aP:LD) (aQ:Int) (aT:BA) (aS:Int) (bD:LC) (v:Int×LC):St:=
 match v with
 |(aH,bB)=>ZaA 27 [(1,.bp 0 0),(2,.bp 1 0),(3,.row 2),(12,.d false (.sl aF)),(13,.d true (.int .i64 aG)),(14,.d true (.int .i64 aH))] [.box none 54 [.d false (.int .i64 aI),.d false (.str aJ),.d false (.int .i64 aM),.row 3,.d false (.sl aP)],.box none 54 [.d true (.int .i64 aQ),.d true (.str aT),.d true (.int .i64 aS),.nil,.nil],.row none true 52 bB,.row none true 45 bD]
noncomputable def Yj.r0 (k:Nat) (aB:Int) (aA:BA) (aC:Int) (aD aE aF:LD) (aG aI:Int) (aJ:BA) (aM:Int) (aP:LD) (aQ:Int) (aT:BA) (aS:Int) (bD:LC) (n:Nat) (v:Int×LC):Option (Int×BA×Int×LC×LC):=(Yj.p k).lp (ZI Tryz.f75) 4 [1,1,1,0,1,0] (Yj.d k aB aA aC aD aE) n (Yj.s0 aF aG aI aJ aM aP aQ aT aS bD v)
theorem Yj.l0_eq (k:Nat) (aB:Int) (aA:BA) (aC:Int) (aD aE aF:LD) (aG aI:Int) (aJ:BA) (aM:Int) (aP:LD) (aQ:Int) (aT:BA) (aS:Int) (bD:LC):∀ n v,Yj.r0 k aB aA aC aD aE aF aG aI aJ aM aP aQ aT aS bD n v=ZA (Yj.l0 k (Yj.f k) aF aG aI aJ aM aP aQ aT aS bD (λz0 z1 z2 z3 z4=>some (z0,z1,z2,z3,z4))) n v:=
 Zz (Yj.s0 aF aG aI aJ aM aP aQ aT aS bD) _ λL0 v=>by obtain⟨aH,bB⟩:=v;kernel_rfl
theorem Yj.oks (k:Nat):Zf Tryz.prog 75 (Yj.e k):=by
 induction k with
 |zero=>exact Zba Tryz.func75 (by kernel_rfl) (λ_ _ _ _ _=>rfl)
 |succ k ih=>exact Zk (Yj.p k) mix tyok Tryz.func75 ⟨Yaa.ok k,ih⟩ (by kernel_rfl) (λaB aA aC aD aE=>Eq.trans (b:=Yj.m k (Yj.f k) aB aA aC aD aE (λz0 z1 z2 z3 z4=>some (z0,z1,z2,z3,z4)) (λaF aG aI aJ aM aP aQ aT aS bD=>Yj.r0 k aB aA aC aD aE aF aG aI aJ aM aP aQ aT aS bD k)) (by kernel_rfl) ((congrArg (Yj.m k (Yj.f k) aB aA aC aD aE (λz0 z1 z2 z3 z4=>some (z0,z1,z2,z3,z4))) (funext λaF=>funext λaG=>funext λaI=>funext λaJ=>funext λaM=>funext λaP=>funext λaQ=>funext λaT=>funext λaS=>funext λbD=>funext λv=>Yj.l0_eq k aB aA aC aD aE aF aG aI aJ aM aP aQ aT aS bD k v)).trans (Yj.t_succ k aB aA aC aD aE).symm))
theorem Yj.ok (k:Nat):Zf Tryz.prog 75 (Yj.e k):=(Yj.oks k)
noncomputable def YS.l1 {β:Type} (k:Nat) (bN:BA) (bP:Int) (K:Int->Bool->Option β) (L1:(Int×Int)->Option β) (v:Int×Int):Option β:=
 match v with
 |(v1_1,v1_3)=>bif(decide ((v1_3:Int)<bP)) then(atStr bN v1_3 λb11=>bif(decide ((b11:Int)<48)) then(K 0 false) else(atStr bN v1_3 λb12=>bif(decide ((b12:Int)>57)) then(K 0 false) else(atStr bN v1_3 λb13=>L1 (IntKind.wrap .i64 ((IntKind.wrap .i64 (10*v1_1))+(IntKind.wrap .i64 (IntKind.wrap .u8 (b13-48)))),IntKind.wrap .i64 (v1_3+1))))) else(K v1_1 true)
noncomputable def YS.l0 {β:Type} (k:Nat) (aF:BA) (aH:Int) (K:Int->Bool->Option β) (L0:(Int×Int)->Option β) (v:Int×Int):Option β:=
 match v with
 |(aG,aI)=>bif(decide ((aI:Int)<aH)) then(atStr aF aI λb5=>bif(decide ((b5:Int)<48)) then(K 0 false) else(atStr aF aI λb6=>bif(decide ((b6:Int)>57)) then(K 0 false) else(atStr aF aI λb7=>L0 (IntKind.wrap .i64 ((IntKind.wrap .i64 (10*aG))+(IntKind.wrap .i64 (IntKind.wrap .u8 (b7-48)))),IntKind.wrap .i64 (aI+1))))) else(K aG true)
noncomputable def YS.m {β:Type} (k:Nat) (a0:BA) (a1:Int) (K:Int->Bool->Option β) (F:(BA->Int->(Int×Int)->Option β)×(BA->Int->(Int×Int)->Option β)):Option β:=
 bif(Zae a0 (⟨#[]⟩:BA)) then(K 0 false) else(bif(decide (((a0.size:Int):Int)>a1)) then(K 0 false) else(atStr a0 0 λb1=>bif((b1:Int)==48) then(bif(decide (((a0.size:Int):Int)>1)) then(K 0 false) else(F.1 a0 (a0.size:Int) (0,0))) else(F.2 a0 (a0.size:Int) (0,0))))
noncomputable def YS.g {β:Type} (k:Nat) (a0:BA) (a1:Int) (K:Int->Bool->Option β):Option β:=YS.m k a0 a1 K ((λaF aH=>ZA (YS.l0 k aF aH K) k),(λbN bP=>ZA (YS.l1 k bN bP K) k))
noncomputable def YS.t (k:Nat) (a0:BA) (a1:Int):Option (Int×Bool):=YS.g k a0 a1 (λz0 z1=>some (z0,z1))
noncomputable def YS.f {β:Type} (k:Nat) (a0:BA) (a1:Int) (K:Int->Bool->Option β):Option β:=bd2 (YS.t k a0 a1) K
noncomputable def YS.e (k:Nat):Zj:=ent [.d .s,.d .n] [1,1] [.n,.b] [3,4] false (YS.t k)
noncomputable def YS.p (k:Nat):Pro:=⟨Tryz.prog,[],Zv [(5,kp [0,6,27,28])] false [],k⟩
noncomputable def YS.d (k:Nat) (a0:BA) (a1:Int):Ex->St->Option (Int×Bool):=(YS.p k).fin Tryz.f206 [.d (.str a0),.d (.int .i64 a1)] [1,1] [.n,.b]
noncomputable def YS.s0 (aF:BA) (aH:Int) (v:Int×Int):St:=
 match v with
 |(aG,aI)=>ZaA 51 [(0,.d false (.str aF)),(6,.d true (.int .i64 aG)),(27,.d true (.int .i64 aH)),(28,.d true (.int .i64 aI))] []
noncomputable def YS.r0 (k:Nat) (a0:BA) (a1:Int) (aF:BA) (aH:Int) (n:Nat) (v:Int×Int):Option (Int×Bool):=(YS.p k).lp (ZI Tryz.f206) 5 [1,1,1,0,1,0] (YS.d k a0 a1) n (YS.s0 aF aH v)
noncomputable def YS.s1 (bN:BA) (bP:Int) (v:Int×Int):St:=
 match v with
 |(v1_1,v1_3)=>ZaA 51 [(0,.d false (.str bN)),(6,.d true (.int .i64 v1_1)),(27,.d true (.int .i64 bP)),(28,.d true (.int .i64 v1_3))] []
noncomputable def YS.r1 (k:Nat) (a0:BA) (a1:Int) (bN:BA) (bP:Int) (n:Nat) (v:Int×Int):Option (Int×Bool):=(YS.p k).lp (ZI Tryz.f206) 5 [1,1,1,0,1,0] (YS.d k a0 a1) n (YS.s1 bN bP v)
theorem YS.l1_eq (k:Nat) (a0:BA) (a1:Int) (bN:BA) (bP:Int):∀ n v,YS.r1 k a0 a1 bN bP n v=ZA (YS.l1 k bN bP (λz0 z1=>some (z0,z1))) n v:=
 Zz (YS.s1 bN bP) _ λL1 v=>by obtain⟨v1_1,v1_3⟩:=v;kernel_rfl
theorem YS.l0_eq (k:Nat) (a0:BA) (a1:Int) (aF:BA) (aH:Int):∀ n v,YS.r0 k a0 a1 aF aH n v=ZA (YS.l0 k aF aH (λz0 z1=>some (z0,z1))) n v:=
 Zz (YS.s0 aF aH) _ λL0 v=>by obtain⟨aG,aI⟩:=v;kernel_rfl
theorem YS.ok (k:Nat):Zf Tryz.prog 206 (YS.e k):=Zk (YS.p k) mix tyok Tryz.func206 trivial (by kernel_rfl) (λa0 a1=>Eq.trans (b:=YS.m k a0 a1 (λz0 z1=>some (z0,z1)) ((λaF aH=>YS.r0 k a0 a1 aF aH k),(λbN bP=>YS.r1 k a0 a1 bN bP k))) (by kernel_rfl) (congrArg (YS.m k a0 a1 (λz0 z1=>some (z0,z1))) (pair_eq (funext λaF=>funext λaH=>funext λv=>YS.l0_eq k a0 a1 aF aH k v) (funext λbN=>funext λbP=>funext λv=>YS.l1_eq k a0 a1 bN bP k v)) :))
noncomputable def YaP.g {β:Type} (k:Nat) (a0:BA) (K:Int->Bool->Option β):Option β:=
 YS.f k a0 9 (λy14 y15=>K y14 y15)
noncomputable def YaP.t (k:Nat) (a0:BA):Option (Int×Bool):=YaP.g k a0 (λz0 z1=>some (z0,z1))
noncomputable def YaP.f {β:Type} (k:Nat) (a0:BA) (K:Int->Bool->Option β):Option β:=bd2 (YaP.t k a0) K
noncomputable def YaP.e (k:Nat):Zj:=ent [.d .s] [1,1] [.n,.b] [3,4] false (YaP.t k)
noncomputable def YaP.p (k:Nat):Pro:=⟨Tryz.prog,[(206,YS.e k)],Zv [] false [],k⟩
theorem YaP.ok (k:Nat):Zf Tryz.prog 198 (YaP.e k):=Zk (YaP.p k) mix tyok Tryz.func198 (YS.ok k) (by kernel_rfl) (λa0=>by show _=_;kernel_rfl)
noncomputable def YaA.g {β:Type} (k:Nat) (a0:BA) (K:Bool->Option β):Option β:=
 YaP.f k a0 (λy16 y17=>K y17)
noncomputable def YaA.t (k:Nat) (a0:BA):Option (Bool):=YaA.g k a0 (λz0=>some z0)
noncomputable def YaA.f {β:Type} (k:Nat) (a0:BA) (K:Bool->Option β):Option β:=bd1 (YaA.t k a0) K
noncomputable def YaA.e (k:Nat):Zj:=ent [.d .s] [1] [.b] [4] false (YaA.t k)
noncomputable def YaA.p (k:Nat):Pro:=⟨Tryz.prog,[(198,YaP.e k)],Zv [] false [],k⟩
theorem YaA.ok (k:Nat):Zf Tryz.prog 190 (YaA.e k):=Zk (YaA.p k) mix tyok Tryz.func190 (YaP.ok k) (by kernel_rfl) (λa0=>by show _=_;kernel_rfl)
noncomputable def YaR.g {β:Type} (k:Nat) (a0:BA) (K:Bool->Option β):Option β:=
 Y7.f k a0 (λy1=>bif(!y1) then(YaA.f k a0 (λy18=>K (!y18))) else(K false))
noncomputable def YaR.t (k:Nat) (a0:BA):Option (Bool):=YaR.g k a0 (λz0=>some z0)
noncomputable def YaR.f {β:Type} (k:Nat) (a0:BA) (K:Bool->Option β):Option β:=bd1 (YaR.t k a0) K
noncomputable def YaR.e (k:Nat):Zj:=ent [.d .s] [1] [.b] [4] false (YaR.t k)
noncomputable def YaR.p (k:Nat):Pro:=⟨Tryz.prog,[(112,Y7.e k),(190,YaA.e k)],Zv [] false [],k⟩
theorem YaR.ok (k:Nat):Zf Tryz.prog 189 (YaR.e k):=Zk (YaR.p k) mix tyok Tryz.func189 ⟨Y7.ok k,YaA.ok k⟩ (by kernel_rfl) (λa0=>by show _=_;kernel_rfl)
noncomputable def Yd.l0 {β:Type} (k:Nat) (aF:LD) (aG:Int) (K L0:Int->Option β) (v:Int):Option β:=
 match v with
 |aH=>bif(decide ((aH:Int)<aG)) then(atR aF aH [.s] λx23=>(YaR.f k x23 (λy24=>bif y24 then(K aH) else(L0 (IntKind.wrap .i64 (aH+1)))))) else(K (-1))
noncomputable def Yd.m {β:Type} (k:Nat) (a0:LD) (K:Int->Option β) (F:(LD->Int->Int->Option β)):Option β:=
 F a0 (a0.length:Int) (0)
noncomputable def Yd.g {β:Type} (k:Nat) (a0:LD) (K:Int->Option β):Option β:=
 ZA (Yd.l0 k a0 (a0.length:Int) K) k (0)
noncomputable def Yd.t (k:Nat) (a0:LD):Option (Int):=Yd.g k a0 (λz0=>some z0)
noncomputable def Yd.f {β:Type} (k:Nat) (a0:LD) (K:Int->Option β):Option β:=bd1 (Yd.t k a0) K
noncomputable def Yd.e (k:Nat):Zj:=ent [.d .l,.fn 189 []] [1] [.n] [3] false (Yd.t k)
noncomputable def Yd.p (k:Nat):Pro:=⟨Tryz.prog,[(189,YaR.e k)],Zv [(2,kp [0,1,7,8])] false [],k⟩
noncomputable def Yd.d (k:Nat) (a0:LD):Ex->St->Option (Int):=(Yd.p k).fin Tryz.f197 [.d (.sl a0),.d (.fn 189 [])] [1] [.n]
noncomputable def Yd.s0 (aF:LD) (aG v:Int):St:=
 match v with
 |aH=>ZaA 19 [(0,.d false (.sl aF)),(1,.d false (.fn 189 [])),(7,.d true (.int .i64 aG)),(8,.d true (.int .i64 aH))] []
noncomputable def Yd.r0 (k:Nat) (a0 aF:LD) (aG:Int) (n:Nat) (v:Int):Option (Int):=(Yd.p k).lp (ZI Tryz.f197) 2 [1,0,1,0] (Yd.d k a0) n (Yd.s0 aF aG v)
theorem Yd.l0_eq (k:Nat) (a0 aF:LD) (aG:Int):∀ n v,Yd.r0 k a0 aF aG n v=ZA (Yd.l0 k aF aG (λz0=>some z0)) n v:=
 Zz (Yd.s0 aF aG) _ λL0 v=>by kernel_rfl
theorem Yd.ok (k:Nat):Zf Tryz.prog 197 (Yd.e k):=Zk (Yd.p k) mix tyok Tryz.func197 (YaR.ok k) (by kernel_rfl) (λa0=>Eq.trans (b:=Yd.m k a0 (λz0=>some z0) (λaF aG=>Yd.r0 k a0 aF aG k)) (by kernel_rfl) (congrArg (Yd.m k a0 (λz0=>some z0)) (funext λaF=>funext λaG=>funext λv=>Yd.l0_eq k a0 aF aG k v) :))
noncomputable def Yo.g {β:Type} (k:Nat) (a0:LD) (K:Bool->Option β):Option β:=
 Yd.f k a0 (λy25=>K (decide ((y25:Int)>=0)))
noncomputable def Yo.t (k:Nat) (a0:LD):Option (Bool):=Yo.g k a0 (λz0=>some z0)
noncomputable def Yo.f {β:Type} (k:Nat) (a0:LD) (K:Bool->Option β):Option β:=bd1 (Yo.t k a0) K
noncomputable def Yo.e (k:Nat):Zj:=ent [.d .l,.fn 189 []] [1] [.b] [4] false (Yo.t k)
noncomputable def Yo.p (k:Nat):Pro:=⟨Tryz.prog,[(197,Yd.e k)],Zv [] false [],k⟩
theorem Yo.ok (k:Nat):Zf Tryz.prog 188 (Yo.e k):=Zk (Yo.p k) mix tyok Tryz.func188 (Yd.ok k) (by kernel_rfl) (λa0=>by show _=_;kernel_rfl)
noncomputable def Yv.l0 {β:Type} (k:Nat) (aF aG:LD) (aH:Int) (K:Bool->Option β) (L0:Int->Option β) (v:Int):Option β:=
 match v with
 |aI=>bif(decide ((aI:Int)<aH)) then(atR aF aI [.s] λx12=>(atR aG aI [.s] λx16=>(bif(!(Zae x12 x16)) then(K false) else(L0 (IntKind.wrap .i64 (aI+1)))))) else(K true)
noncomputable def Yv.m {β:Type} (k:Nat) (a0 a1:LD) (K:Bool->Option β) (F:(LD->LD->Int->Int->Option β)):Option β:=
 bif(((a0.length:Int):Int)!=(a1.length:Int)) then(K false) else(F a0 a1 (a0.length:Int) (0))
noncomputable def Yv.g {β:Type} (k:Nat) (a0 a1:LD) (K:Bool->Option β):Option β:=
 bif(((a0.length:Int):Int)!=(a1.length:Int)) then(K false) else(ZA (Yv.l0 k a0 a1 (a0.length:Int) K) k (0))
noncomputable def Yv.t (k:Nat) (a0 a1:LD):Option (Bool):=Yv.g k a0 a1 (λz0=>some z0)
noncomputable def Yv.f {β:Type} (k:Nat) (a0 a1:LD) (K:Bool->Option β):Option β:=bd1 (Yv.t k a0 a1) K
noncomputable def Yv.e (k:Nat):Zj:=ent [.d .l,.d .l] [1] [.b] [4] false (Yv.t k)
noncomputable def Yv.p (k:Nat):Pro:=⟨Tryz.prog,[],Zv [(4,kp [0,1,12,13])] false [],k⟩
noncomputable def Yv.d (k:Nat) (a0 a1:LD):Ex->St->Option (Bool):=(Yv.p k).fin Tryz.f116 [.d (.sl a0),.d (.sl a1)] [1] [.b]
noncomputable def Yv.s0 (aF aG:LD) (aH v:Int):St:=
 match v with
 |aI=>ZaA 26 [(0,.d false (.sl aF)),(1,.d false (.sl aG)),(12,.d true (.int .i64 aH)),(13,.d true (.int .i64 aI))] []
noncomputable def Yv.r0 (k:Nat) (a0 a1 aF aG:LD) (aH:Int) (n:Nat) (v:Int):Option (Bool):=(Yv.p k).lp (ZI Tryz.f116) 4 [1,1,0,1,0] (Yv.d k a0 a1) n (Yv.s0 aF aG aH v)
theorem Yv.l0_eq (k:Nat) (a0 a1 aF aG:LD) (aH:Int):∀ n v,Yv.r0 k a0 a1 aF aG aH n v=ZA (Yv.l0 k aF aG aH (λz0=>some z0)) n v:=
 Zz (Yv.s0 aF aG aH) _ λL0 v=>by kernel_rfl
theorem Yv.ok (k:Nat):Zf Tryz.prog 116 (Yv.e k):=Zk (Yv.p k) mix tyok Tryz.func116 trivial (by kernel_rfl) (λa0 a1=>Eq.trans (b:=Yv.m k a0 a1 (λz0=>some z0) (λaF aG aH=>Yv.r0 k a0 a1 aF aG aH k)) (by kernel_rfl) (congrArg (Yv.m k a0 a1 (λz0=>some z0)) (funext λaF=>funext λaG=>funext λaH=>funext λv=>Yv.l0_eq k a0 a1 aF aG aH k v) :))
noncomputable def Ya.l0 {β:Type} (k:Nat) (r_slices_EqualFunc_impl_Value__impl_SameValue:LD->LD->(Bool->Option β)->Option β) (r_impl_SameValue:Int->BA->Int->LD->LD->Int->BA->Int->LD->LD->(Bool->Option β)->Option β) (aF aG:LD) (aH:Int) (K:Bool->Option β) (L0:Int->Option β) (v:Int):Option β:=
 match v with
 |aI=>bif(decide ((aI:Int)<aH)) then(atR aG aI [.n,.s,.n,.l,.l] λx37 x40 x43 x46 x49=>(atR aF aI [.n,.s,.n,.l,.l] λx53 x56 x59 x62 x65=>(r_impl_SameValue x37 x40 x43 x46 x49 x53 x56 x59 x62 x65 (λy66=>bif(!y66) then(K false) else(L0 (IntKind.wrap .i64 (aI+1))))))) else(K true)
noncomputable def Ya.m {β:Type} (k:Nat) (r_slices_EqualFunc_impl_Value__impl_SameValue:LD->LD->(Bool->Option β)->Option β) (r_impl_SameValue:Int->BA->Int->LD->LD->Int->BA->Int->LD->LD->(Bool->Option β)->Option β) (a0 a1:LD) (K:Bool->Option β) (F:(LD->LD->Int->Int->Option β)):Option β:=
 bif(((a0.length:Int):Int)!=(a1.length:Int)) then(K false) else(F a1 a0 (a0.length:Int) (0))
noncomputable def Ya.body {β:Type} (k:Nat) (r_slices_EqualFunc_impl_Value__impl_SameValue:LD->LD->(Bool->Option β)->Option β) (r_impl_SameValue:Int->BA->Int->LD->LD->Int->BA->Int->LD->LD->(Bool->Option β)->Option β) (a0 a1:LD) (K:Bool->Option β):Option β:=
 bif(((a0.length:Int):Int)!=(a1.length:Int)) then(K false) else(ZA (Ya.l0 k r_slices_EqualFunc_impl_Value__impl_SameValue r_impl_SameValue a1 a0 (a0.length:Int) K) k (0))
noncomputable def YH.body {β:Type} (k:Nat) (r_slices_EqualFunc_impl_Value__impl_SameValue:LD->LD->(Bool->Option β)->Option β) (r_impl_SameValue:Int->BA->Int->LD->LD->Int->BA->Int->LD->LD->(Bool->Option β)->Option β) (aB:Int) (aA:BA) (aC:Int) (aD aE:LD) (aO:Int) (aN:BA) (aR:Int) (aU aV:LD) (K:Bool->Option β):Option β:=
 bif((aB:Int)==aO) then(bif(Zae aA aN) then(bif((aC:Int)==aR) then(Yv.f k aD aU (λy17=>bif y17 then(r_slices_EqualFunc_impl_Value__impl_SameValue aE aV (λy67=>K y67)) else(K false))) else(K false)) else(K false)) else(K false)
noncomputable def Ya.w {β:Type} (r:LD->LD->Option (Bool)) (a0 a1:LD) (K:Bool->Option β):Option β:=bd1 (r a0 a1) K
noncomputable def YH.w {β:Type} (r:Int->BA->Int->LD->LD->Int->BA->Int->LD->LD->Option (Bool)) (aB:Int) (aA:BA) (aC:Int) (aD aE:LD) (aO:Int) (aN:BA) (aR:Int) (aU aV:LD) (K:Bool->Option β):Option β:=bd1 (r aB aA aC aD aE aO aN aR aU aV) K
noncomputable def Ya.all:Nat->(LD->LD->Option (Bool))×(Int->BA->Int->LD->LD->Int->BA->Int->LD->LD->Option (Bool))
 |0=>(λ_ _=>none,λ_ _ _ _ _ _ _ _ _ _=>none)
 |k+1=>(λr=>(λa0 a1=>Ya.body k (Ya.w r.1) (YH.w r.2) a0 a1 (λz0=>some z0),λaB aA aC aD aE aO aN aR aU aV=>YH.body k (Ya.w r.1) (YH.w r.2) aB aA aC aD aE aO aN aR aU aV (λz0=>some z0))) (Ya.all k)
noncomputable def Ya.t (k:Nat) (a0 a1:LD):Option (Bool):=(Ya.all k).1 a0 a1
noncomputable def YH.t (k:Nat) (aB:Int) (aA:BA) (aC:Int) (aD aE:LD) (aO:Int) (aN:BA) (aR:Int) (aU aV:LD):Option (Bool):=(Ya.all k).2 aB aA aC aD aE aO aN aR aU aV
noncomputable def Ya.f {β:Type} (k:Nat) (a0 a1:LD) (K:Bool->Option β):Option β:=Ya.w (Ya.t k) a0 a1 K
noncomputable def YH.f {β:Type} (k:Nat) (aB:Int) (aA:BA) (aC:Int) (aD aE:LD) (aO:Int) (aN:BA) (aR:Int) (aU aV:LD) (K:Bool->Option β):Option β:=YH.w (YH.t k) aB aA aC aD aE aO aN aR aU aV K
noncomputable def Ya.g {β:Type} (k:Nat) (a0 a1:LD) (K:Bool->Option β):Option β:=Ya.body k (Ya.f k) (YH.f k) a0 a1 K
theorem Ya.t_succ (k:Nat) (a0 a1:LD):Ya.t (k+1) a0 a1=Ya.g k a0 a1 (λz0=>some z0):=rfl
noncomputable def YH.g {β:Type} (k:Nat) (aB:Int) (aA:BA) (aC:Int) (aD aE:LD) (aO:Int) (aN:BA) (aR:Int) (aU aV:LD) (K:Bool->Option β):Option β:=YH.body k (Ya.f k) (YH.f k) aB aA aC aD aE aO aN aR aU aV K
theorem YH.t_succ (k:Nat) (aB:Int) (aA:BA) (aC:Int) (aD aE:LD) (aO:Int) (aN:BA) (aR:Int) (aU aV:LD):YH.t (k+1) aB aA aC aD aE aO aN aR aU aV=YH.g k aB aA aC aD aE aO aN aR aU aV (λz0=>some z0):=rfl
noncomputable def Ya.e (k:Nat):Zj:=ent [.d .l,.d .l,.fn 60 []] [1] [.b] [4] false (Ya.t k)
noncomputable def YH.e (k:Nat):Zj:=ent [.agg [.n,.s,.n,.l,.l],.agg [.n,.s,.n,.l,.l]] [1] [.b] [4] false (YH.t k)
noncomputable def Ya.p (k:Nat):Pro:=⟨Tryz.prog,[(60,YH.e k)],Zv [(4,kp [1,2,15,16,17])] false [],k⟩
noncomputable def Ya.d (k:Nat) (a0 a1:LD):Ex->St->Option (Bool):=(Ya.p k).fin Tryz.f117 [.d (.sl a0),.d (.sl a1),.d (.fn 60 [])] [1] [.b]
noncomputable def Ya.s0 (aF aG:LD) (aH v:Int):St:=
 match v with
 |aI=>ZaA 32 [(1,.d false (.sl aF)),(2,.d false (.fn 60 [])),(15,.d false (.sl aG)),(16,.d true (.int .i64 aH)),(17,.d true (.int .i64 aI))] []
noncomputable def Ya.r0 (k:Nat) (a0 a1 aF aG:LD) (aH:Int) (n:Nat) (v:Int):Option (Bool):=(Ya.p k).lp (ZI Tryz.f117) 4 [1,1,0,1,0] (Ya.d k a0 a1) n (Ya.s0 aF aG aH v)
theorem Ya.l0_eq (k:Nat) (a0 a1 aF aG:LD) (aH:Int):∀ n v,Ya.r0 k a0 a1 aF aG aH n v=ZA (Ya.l0 k (Ya.f k) (YH.f k) aF aG aH (λz0=>some z0)) n v:=
 Zz (Ya.s0 aF aG aH) _ λL0 v=>by kernel_rfl
noncomputable def YH.p (k:Nat):Pro:=⟨Tryz.prog,[(116,Yv.e k),(117,Ya.e k)],Zv [] false [],k⟩
theorem Ya.oks (k:Nat):Zf Tryz.prog 117 (Ya.e k)/\Zf Tryz.prog 60 (YH.e k):=by
 induction k with
 |zero=>exact⟨Zba Tryz.func117 (by kernel_rfl) (λ_ _=>rfl),
  Zba Tryz.func60 (by kernel_rfl) (λ_ _ _ _ _ _ _ _ _ _=>rfl)⟩
 |succ k ih=>exact⟨Zk (Ya.p k) mix tyok Tryz.func117 ih.2 (by kernel_rfl) (λa0 a1=>Eq.trans (b:=Ya.m k (Ya.f k) (YH.f k) a0 a1 (λz0=>some z0) (λaF aG aH=>Ya.r0 k a0 a1 aF aG aH k)) (by kernel_rfl) ((congrArg (Ya.m k (Ya.f k) (YH.f k) a0 a1 (λz0=>some z0)) (funext λaF=>funext λaG=>funext λaH=>funext λv=>Ya.l0_eq k a0 a1 aF aG aH k v)).trans (Ya.t_succ k a0 a1).symm)),
  Zk (YH.p k) mix tyok Tryz.func60 ⟨Yv.ok k,ih.1⟩ (by kernel_rfl) (λaB aA aC aD aE aO aN aR aU aV=>by show _=_;kernel_rfl)⟩
theorem YH.ok (k:Nat):Zf Tryz.prog 60 (YH.e k):=(Ya.oks k).2
noncomputable def Ya3.g {β:Type} (k:Nat) (aB:Int) (aA:LD) (aC:Int) (aD:BA) (aE:Int) (aK aL:LD) (K:Bool->Option β):Option β:=
 Yaw.f k (aA.length:Int) 1 5 (λy1=>bif(!y1) then(K false) else(Yo.f k aA (λy26=>bif y26 then(K false) else(bif((aB:Int)==1) then(bif((aB:Int)==1) then(Yaf.f k aC aD aE aK aL (λy27=>K y27)) else(bif((aB:Int)==2) then(YH.f k aC aD aE aK aL 0 (⟨#[]⟩:BA) 0 ([]:LD) ([]:LD) (λy68=>K y68)) else(K false))) else(bif((aB:Int)==3) then(Yaf.f k aC aD aE aK aL (λy69=>K y69)) else(bif((aB:Int)==2) then(YH.f k aC aD aE aK aL 0 (⟨#[]⟩:BA) 0 ([]:LD) ([]:LD) (λy70=>K y70)) else(K false)))))))
noncomputable def Ya3.t (k:Nat) (aB:Int) (aA:LD) (aC:Int) (aD:BA) (aE:Int) (aK aL:LD):Option (Bool):=Ya3.g k aB aA aC aD aE aK aL (λz0=>some z0)
noncomputable def Ya3.f {β:Type} (k:Nat) (aB:Int) (aA:LD) (aC:Int) (aD:BA) (aE:Int) (aK aL:LD) (K:Bool->Option β):Option β:=bd1 (Ya3.t k aB aA aC aD aE aK aL) K
noncomputable def Ya3.e (k:Nat):Zj:=ent [.agg [.n,.l,.n,.s,.n,.l,.l]] [1] [.b] [4] false (Ya3.t k)
noncomputable def Ya3.p (k:Nat):Pro:=⟨Tryz.prog,[(96,Yaw.e k),(188,Yo.e k),(57,Yaf.e k),(60,YH.e k)],Zv [] false [],k⟩
theorem Ya3.ok (k:Nat):Zf Tryz.prog 167 (Ya3.e k):=Zk (Ya3.p k) mix tyok Tryz.func167 ⟨Yaw.ok k,Yo.ok k,Yaf.ok k,YH.ok k⟩ (by kernel_rfl) (λaB aA aC aD aE aK aL=>by show _=_;kernel_rfl)
noncomputable def Yay.g {β:Type} (k:Nat) (aB:Int) (aA:LD) (aC:Int) (aD:BA) (aE:Int) (aK aL:LD) (K:Bool->Option β):Option β:=
 Ya3.f k aB aA aC aD aE aK aL (λy71=>K (!y71))
noncomputable def Yay.t (k:Nat) (aB:Int) (aA:LD) (aC:Int) (aD:BA) (aE:Int) (aK aL:LD):Option (Bool):=Yay.g k aB aA aC aD aE aK aL (λz0=>some z0)
noncomputable def Yay.f {β:Type} (k:Nat) (aB:Int) (aA:LD) (aC:Int) (aD:BA) (aE:Int) (aK aL:LD) (K:Bool->Option β):Option β:=bd1 (Yay.t k aB aA aC aD aE aK aL) K
noncomputable def Yay.e (k:Nat):Zj:=ent [.agg [.n,.l,.n,.s,.n,.l,.l]] [1] [.b] [4] false (Yay.t k)
noncomputable def Yay.p (k:Nat):Pro:=⟨Tryz.prog,[(167,Ya3.e k)],Zv [] false [],k⟩
theorem Yay.ok (k:Nat):Zf Tryz.prog 166 (Yay.e k):=Zk (Yay.p k) mix tyok Tryz.func166 (Ya3.ok k) (by kernel_rfl) (λaB aA aC aD aE aK aL=>by show _=_;kernel_rfl)
noncomputable def Yc.l0 {β:Type} (k:Nat) (aF:LD) (aG:Int) (K L0:Int->Option β) (v:Int):Option β:=
 match v with
 |aH=>bif(decide ((aH:Int)<aG)) then(atR aF aH [.n,.l,.n,.s,.n,.l,.l] λx76 x79 x82 x85 x88 x91 x94=>(Yay.f k x76 x79 x82 x85 x88 x91 x94 (λy95=>bif y95 then(K aH) else(L0 (IntKind.wrap .i64 (aH+1)))))) else(K (-1))
noncomputable def Yc.m {β:Type} (k:Nat) (a0:LD) (K:Int->Option β) (F:(LD->Int->Int->Option β)):Option β:=
 F a0 (a0.length:Int) (0)
noncomputable def Yc.g {β:Type} (k:Nat) (a0:LD) (K:Int->Option β):Option β:=
 ZA (Yc.l0 k a0 (a0.length:Int) K) k (0)
noncomputable def Yc.t (k:Nat) (a0:LD):Option (Int):=Yc.g k a0 (λz0=>some z0)
noncomputable def Yc.f {β:Type} (k:Nat) (a0:LD) (K:Int->Option β):Option β:=bd1 (Yc.t k a0) K
noncomputable def Yc.e (k:Nat):Zj:=ent [.d .l,.fn 166 []] [1] [.n] [3] false (Yc.t k)
noncomputable def Yc.p (k:Nat):Pro:=⟨Tryz.prog,[(166,Yay.e k)],Zv [(2,kp [0,1,7,8])] false [],k⟩
noncomputable def Yc.d (k:Nat) (a0:LD):Ex->St->Option (Int):=(Yc.p k).fin Tryz.f187 [.d (.sl a0),.d (.fn 166 [])] [1] [.n]
noncomputable def Yc.s0 (aF:LD) (aG v:Int):St:=
 match v with
 |aH=>ZaA 19 [(0,.d false (.sl aF)),(1,.d false (.fn 166 [])),(7,.d true (.int .i64 aG)),(8,.d true (.int .i64 aH))] []
noncomputable def Yc.r0 (k:Nat) (a0 aF:LD) (aG:Int) (n:Nat) (v:Int):Option (Int):=(Yc.p k).lp (ZI Tryz.f187) 2 [1,0,1,0] (Yc.d k a0) n (Yc.s0 aF aG v)
theorem Yc.l0_eq (k:Nat) (a0 aF:LD) (aG:Int):∀ n v,Yc.r0 k a0 aF aG n v=ZA (Yc.l0 k aF aG (λz0=>some z0)) n v:=
 Zz (Yc.s0 aF aG) _ λL0 v=>by kernel_rfl
theorem Yc.ok (k:Nat):Zf Tryz.prog 187 (Yc.e k):=Zk (Yc.p k) mix tyok Tryz.func187 (Yay.ok k) (by kernel_rfl) (λa0=>Eq.trans (b:=Yc.m k a0 (λz0=>some z0) (λaF aG=>Yc.r0 k a0 aF aG k)) (by kernel_rfl) (congrArg (Yc.m k a0 (λz0=>some z0)) (funext λaF=>funext λaG=>funext λv=>Yc.l0_eq k a0 aF aG k v) :))
noncomputable def Ym.g {β:Type} (k:Nat) (a0:LD) (K:Bool->Option β):Option β:=
 Yc.f k a0 (λy96=>K (decide ((y96:Int)>=0)))
noncomputable def Ym.t (k:Nat) (a0:LD):Option (Bool):=Ym.g k a0 (λz0=>some z0)
noncomputable def Ym.f {β:Type} (k:Nat) (a0:LD) (K:Bool->Option β):Option β:=bd1 (Ym.t k a0) K
noncomputable def Ym.e (k:Nat):Zj:=ent [.d .l,.fn 166 []] [1] [.b] [4] false (Ym.t k)
noncomputable def Ym.p (k:Nat):Pro:=⟨Tryz.prog,[(187,Yc.e k)],Zv [] false [],k⟩
theorem Ym.ok (k:Nat):Zf Tryz.prog 165 (Ym.e k):=Zk (Ym.p k) mix tyok Tryz.func165 (Yc.ok k) (by kernel_rfl) (λa0=>by show _=_;kernel_rfl)
noncomputable def YaF.g {β:Type} (k:Nat) (a0:LD) (K:Bool->Option β):Option β:=
 bif(decide (((a0.length:Int):Int)<=20)) then(Ym.f k a0 (λy97=>K (!y97))) else(K false)
noncomputable def YaF.t (k:Nat) (a0:LD):Option (Bool):=YaF.g k a0 (λz0=>some z0)
noncomputable def YaF.f {β:Type} (k:Nat) (a0:LD) (K:Bool->Option β):Option β:=bd1 (YaF.t k a0) K
noncomputable def YaF.e (k:Nat):Zj:=ent [.d .l] [1] [.b] [4] false (YaF.t k)
noncomputable def YaF.p (k:Nat):Pro:=⟨Tryz.prog,[(165,Ym.e k)],Zv [] false [],k⟩
theorem YaF.ok (k:Nat):Zf Tryz.prog 131 (YaF.e k):=Zk (YaF.p k) mix tyok Tryz.func131 (Ym.ok k) (by kernel_rfl) (λa0=>by show _=_;kernel_rfl)
noncomputable def Yu.l0 {β:Type} (k:Nat) (aF:LD) (aG:BA) (aH:Int) (K L0:Int->Option β) (v:Int):Option β:=
 match v with
 |aI=>bif(decide ((aI:Int)<aH)) then(atR aF aI [.s] λx8=>(bif(Zae aG x8) then(K aI) else(L0 (IntKind.wrap .i64 (aI+1))))) else(K (-1))
noncomputable def Yu.m {β:Type} (k:Nat) (a0:LD) (a1:BA) (K:Int->Option β) (F:(LD->BA->Int->Int->Option β)):Option β:=
 F a0 a1 (a0.length:Int) (0)
noncomputable def Yu.g {β:Type} (k:Nat) (a0:LD) (a1:BA) (K:Int->Option β):Option β:=
 ZA (Yu.l0 k a0 a1 (a0.length:Int) K) k (0)
noncomputable def Yu.t (k:Nat) (a0:LD) (a1:BA):Option (Int):=Yu.g k a0 a1 (λz0=>some z0)
noncomputable def Yu.f {β:Type} (k:Nat) (a0:LD) (a1:BA) (K:Int->Option β):Option β:=bd1 (Yu.t k a0 a1) K
noncomputable def Yu.e (k:Nat):Zj:=ent [.d .l,.d .s] [1] [.n] [3] false (Yu.t k)
noncomputable def Yu.p (k:Nat):Pro:=⟨Tryz.prog,[],Zv [(2,kp [0,1,7,8])] false [],k⟩
noncomputable def Yu.d (k:Nat) (a0:LD) (a1:BA):Ex->St->Option (Int):=(Yu.p k).fin Tryz.f199 [.d (.sl a0),.d (.str a1)] [1] [.n]
noncomputable def Yu.s0 (aF:LD) (aG:BA) (aH v:Int):St:=
 match v with
 |aI=>ZaA 19 [(0,.d false (.sl aF)),(1,.d false (.str aG)),(7,.d true (.int .i64 aH)),(8,.d true (.int .i64 aI))] []
noncomputable def Yu.r0 (k:Nat) (a0:LD) (a1:BA) (aF:LD) (aG:BA) (aH:Int) (n:Nat) (v:Int):Option (Int):=(Yu.p k).lp (ZI Tryz.f199) 2 [1,0,1,0] (Yu.d k a0 a1) n (Yu.s0 aF aG aH v)
theorem Yu.l0_eq (k:Nat) (a0:LD) (a1:BA) (aF:LD) (aG:BA) (aH:Int):∀ n v,Yu.r0 k a0 a1 aF aG aH n v=ZA (Yu.l0 k aF aG aH (λz0=>some z0)) n v:=
 Zz (Yu.s0 aF aG aH) _ λL0 v=>by kernel_rfl
theorem Yu.ok (k:Nat):Zf Tryz.prog 199 (Yu.e k):=Zk (Yu.p k) mix tyok Tryz.func199 trivial (by kernel_rfl) (λa0 a1=>Eq.trans (b:=Yu.m k a0 a1 (λz0=>some z0) (λaF aG aH=>Yu.r0 k a0 a1 aF aG aH k)) (by kernel_rfl) (congrArg (Yu.m k a0 a1 (λz0=>some z0)) (funext λaF=>funext λaG=>funext λaH=>funext λv=>Yu.l0_eq k a0 a1 aF aG aH k v) :))
noncomputable def YaT.g {β:Type} (k:Nat) (aB:Int) (aA:BA) (aC:Int) (aD aE:LD) (a1:BA) (K:Int->Option β):Option β:=
 bif((aB:Int)==5) then(Yu.f k aD a1 (λy9=>K y9)) else(bif((aB:Int)==4) then(YaP.f k a1 (λy10 y11=>bif y11 then(bif(decide ((y10:Int)<(aE.length:Int))) then(K y10) else(K (-1))) else(K (-1)))) else(K (-1)))
noncomputable def YaT.t (k:Nat) (aB:Int) (aA:BA) (aC:Int) (aD aE:LD) (a1:BA):Option (Int):=YaT.g k aB aA aC aD aE a1 (λz0=>some z0)
noncomputable def YaT.f {β:Type} (k:Nat) (aB:Int) (aA:BA) (aC:Int) (aD aE:LD) (a1:BA) (K:Int->Option β):Option β:=bd1 (YaT.t k aB aA aC aD aE a1) K
noncomputable def YaT.e (k:Nat):Zj:=ent [.agg [.n,.s,.n,.l,.l],.d .s] [1] [.n] [3] false (YaT.t k)
noncomputable def YaT.p (k:Nat):Pro:=⟨Tryz.prog,[(199,Yu.e k),(198,YaP.e k)],Zv [] false [],k⟩
theorem YaT.ok (k:Nat):Zf Tryz.prog 191 (YaT.e k):=Zk (YaT.p k) mix tyok Tryz.func191 ⟨Yu.ok k,YaP.ok k⟩ (by kernel_rfl) (λaB aA aC aD aE a1=>by show _=_;kernel_rfl)
noncomputable def Yao.l0 {β:Type} (k:Nat) (aF:LD) (aG aT:Int) (aS:BA) (bB:Int) (K:Int->BA->Int->LC->LC->Bool->Option β) (L0:(Int×Int×BA×Int×LD×LD)->Option β) (v:Int×Int×BA×Int×LD×LD):Option β:=
 match v with
 |(aH,aI,aJ,aM,aP,aQ)=>bif(decide ((aH:Int)<aG)) then(atR aF aH [.s] λx37=>(YaT.f k aI aJ aM aP aQ x37 (λy38=>bif(decide ((y38:Int)<0)) then(K 0 (⟨#[]⟩:BA) 0 ([]:LC) ([]:LC) false) else(atR aQ y38 [.n,.s,.n,.l,.l] λx42 x45 x48 x51 x54=>(L0 (IntKind.wrap .i64 (aH+1),x42,x45,x48,x51,x54)))))) else(Yj.f k aI aJ aM aP aQ (λy55 y56 y57 y58 y59=>K y55 y56 y57 y58 y59 true))
noncomputable def Yao.m {β:Type} (k:Nat) (aB:Int) (aA:BA) (aC:Int) (aD aE a1:LD) (K:Int->BA->Int->LC->LC->Bool->Option β) (F:(LD->Int->Int->BA->Int->(Int×Int×BA×Int×LD×LD)->Option β)):Option β:=
 Yaf.f k aB aA aC aD aE (λy1=>bif(!y1) then(K 0 (⟨#[]⟩:BA) 0 ([]:LC) ([]:LC) false) else(F a1 (a1.length:Int) 0 (⟨#[]⟩:BA) 0 (0,aB,aA,aC,aD,aE)))
noncomputable def Yao.g {β:Type} (k:Nat) (aB:Int) (aA:BA) (aC:Int) (aD aE a1:LD) (K:Int->BA->Int->LC->LC->Bool->Option β):Option β:=
 Yaf.f k aB aA aC aD aE (λy1=>bif(!y1) then(K 0 (⟨#[]⟩:BA) 0 ([]:LC) ([]:LC) false) else(ZA (Yao.l0 k a1 (a1.length:Int) 0 (⟨#[]⟩:BA) 0 K) k (0,aB,aA,aC,aD,aE)))
noncomputable def Yao.t (k:Nat) (aB:Int) (aA:BA) (aC:Int) (aD aE a1:LD):Option (Int×BA×Int×LC×LC×Bool):=Yao.g k aB aA aC aD aE a1 (λz0 z1 z2 z3 z4 z5=>some (z0,z1,z2,z3,z4,z5))
noncomputable def Yao.f {β:Type} (k:Nat) (aB:Int) (aA:BA) (aC:Int) (aD aE a1:LD) (K:Int->BA->Int->LC->LC->Bool->Option β):Option β:=match Yao.t k aB aA aC aD aE a1 with|some (z0,z1,z2,z3,z4,z5)=>K z0 z1 z2 z3 z4 z5|none=>none
noncomputable def Yao.e (k:Nat):Zj:=ent [.agg [.n,.s,.n,.l,.l],.d .l] [5,1] [.n,.s,.n,.o,.o,.b] [54,4] false (Yao.t k)
noncomputable def Yao.p (k:Nat):Pro:=⟨Tryz.prog,[(57,Yaf.e k),(191,YaT.e k),(75,Yj.e k)],Zv [(4,kp [2,4,13,14,15])] false [],k⟩
noncomputable def Yao.d (k:Nat) (aB:Int) (aA:BA) (aC:Int) (aD aE a1:LD):Ex->St->Option (Int×BA×Int×LC×LC×Bool):=(Yao.p k).fin Tryz.f168 [.agg [.int .i64 aB,.str aA,.int .i64 aC,.sl aD,.sl aE],.d (.sl a1)] [5,1] [.n,.s,.n,.o,.o,.b]
noncomputable def Yao.s0 (aF:LD) (aG aT:Int) (aS:BA) (bB:Int) (v:Int×Int×BA×Int×LD×LD):St:=
 match v with
 |(aH,aI,aJ,aM,aP,aQ)=>ZaA 33 [(2,.bp 0 0),(4,.bp 1 0),(13,.d false (.sl aF)),(14,.d true (.int .i64 aG)),(15,.d true (.int .i64 aH))] [.box none 54 [.d false (.int .i64 aI),.d false (.str aJ),.d false (.int .i64 aM),.d false (.sl aP),.d false (.sl aQ)],.box none 54 [.d true (.int .i64 aT),.d true (.str aS),.d true (.int .i64 bB),.nil,.nil]]
noncomputable def Yao.r0 (k:Nat) (aB:Int) (aA:BA) (aC:Int) (aD aE a1 aF:LD) (aG aT:Int) (aS:BA) (bB:Int) (n:Nat) (v:Int×Int×BA×Int×LD×LD):Option (Int×BA×Int×LC×LC×Bool):=(Yao.p k).lp (ZI Tryz.f168) 4 [1,1,0,1,0] (Yao.d k aB aA aC aD aE a1) n (Yao.s0 aF aG aT aS bB v)
theorem Yao.l0_eq (k:Nat) (aB:Int) (aA:BA) (aC:Int) (aD aE a1 aF:LD) (aG aT:Int) (aS:BA) (bB:Int):∀ n v,Yao.r0 k aB aA aC aD aE a1 aF aG aT aS bB n v=ZA (Yao.l0 k aF aG aT aS bB (λz0 z1 z2 z3 z4 z5=>some (z0,z1,z2,z3,z4,z5))) n v:=
 Zz (Yao.s0 aF aG aT aS bB) _ λL0 v=>by obtain⟨aH,aI,aJ,aM,aP,aQ⟩:=v;kernel_rfl
theorem Yao.ok (k:Nat):Zf Tryz.prog 168 (Yao.e k):=Zk (Yao.p k) mix tyok Tryz.func168 ⟨Yaf.ok k,YaT.ok k,Yj.ok k⟩ (by kernel_rfl) (λaB aA aC aD aE a1=>Eq.trans (b:=Yao.m k aB aA aC aD aE a1 (λz0 z1 z2 z3 z4 z5=>some (z0,z1,z2,z3,z4,z5)) (λaF aG aT aS bB=>Yao.r0 k aB aA aC aD aE a1 aF aG aT aS bB k)) (by kernel_rfl) (congrArg (Yao.m k aB aA aC aD aE a1 (λz0 z1 z2 z3 z4 z5=>some (z0,z1,z2,z3,z4,z5))) (funext λaF=>funext λaG=>funext λaT=>funext λaS=>funext λbB=>funext λv=>Yao.l0_eq k aB aA aC aD aE a1 aF aG aT aS bB k v) :))
noncomputable def Yaq.g {β:Type} (k:Nat) (a0:BA) (K:Bool->Option β):Option β:=
 K (!(Zae a0 a0))
noncomputable def Yaq.t (k:Nat) (a0:BA):Option (Bool):=Yaq.g k a0 (λz0=>some z0)
noncomputable def Yaq.f {β:Type} (k:Nat) (a0:BA) (K:Bool->Option β):Option β:=bd1 (Yaq.t k a0) K
noncomputable def Yaq.e (k:Nat):Zj:=ent [.d .s] [1] [.b] [4] false (Yaq.t k)
noncomputable def Yaq.p (k:Nat):Pro:=⟨Tryz.prog,[],Zv [] false [],k⟩
theorem Yaq.ok (k:Nat):Zf Tryz.prog 213 (Yaq.e k):=Zk (Yaq.p k) mix tyok Tryz.func213 trivial (by kernel_rfl) (λa0=>by show _=_;kernel_rfl)
noncomputable def Yau.g {β:Type} (k:Nat) (a0 a1:BA) (K:Bool->Option β):Option β:=
 Yaq.f k a0 (λy1=>bif y1 then(Yaq.f k a1 (λy2=>bif(!y2) then(K true) else(K (strLt a0 a1)))) else(K (strLt a0 a1)))
noncomputable def Yau.t (k:Nat) (a0 a1:BA):Option (Bool):=Yau.g k a0 a1 (λz0=>some z0)
noncomputable def Yau.f {β:Type} (k:Nat) (a0 a1:BA) (K:Bool->Option β):Option β:=bd1 (Yau.t k a0 a1) K
noncomputable def Yau.e (k:Nat):Zj:=ent [.d .s,.d .s] [1] [.b] [4] false (Yau.t k)
noncomputable def Yau.p (k:Nat):Pro:=⟨Tryz.prog,[(213,Yaq.e k)],Zv [] false [],k⟩
theorem Yau.ok (k:Nat):Zf Tryz.prog 207 (Yau.e k):=Zk (Yau.p k) mix tyok Tryz.func207 (Yaq.ok k) (by kernel_rfl) (λa0 a1=>by show _=_;kernel_rfl)
noncomputable def Y9.g {β:Type} (k:Nat) (a0:BA) (K:Bool->Option β):Option β:=
 K (!(Zae a0 a0))
noncomputable def Y9.t (k:Nat) (a0:BA):Option (Bool):=Y9.g k a0 (λz0=>some z0)
noncomputable def Y9.f {β:Type} (k:Nat) (a0:BA) (K:Bool->Option β):Option β:=bd1 (Y9.t k a0) K
noncomputable def Y9.e (k:Nat):Zj:=ent [.d .s] [1] [.b] [4] false (Y9.t k)
noncomputable def Y9.p (k:Nat):Pro:=⟨Tryz.prog,[],Zv [] false [],k⟩
theorem Y9.ok (k:Nat):Zf Tryz.prog 208 (Y9.e k):=Zk (Y9.p k) mix tyok Tryz.func208 trivial (by kernel_rfl) (λa0=>by show _=_;kernel_rfl)
noncomputable def Yh.l0 {β:Type} (k:Nat) (aF:LD) (aG:BA) (aH:Int) (K:Int->Bool->Option β) (L0:(Int×Int)->Option β) (v:Int×Int):Option β:=
 match v with
 |(aI,aJ)=>bif(decide ((aI:Int)<aJ)) then(let J1:=(Int.fdiv (IntKind.wrap .u64 (IntKind.wrap .i64 (aI+aJ))) (2^(min (1:Int).toNat 64)));let J0:=(IntKind.wrap .i64 J1);Zd ((0:Int)<=1) (atRow aF J0 λc16=>rdQ [.s] c16 λx19=>(Yau.f k x19 aG (λy20=>bif y20 then(L0 (IntKind.wrap .i64 (J0+1),aJ)) else(L0 (aI,IntKind.wrap .i64 J1)))))) else(bif(decide ((aI:Int)<aH)) then(atR aF aI [.s] λx24=>(bif(Zae x24 aG) then(K aI true) else(atR aF aI [.s] λx28=>(Y9.f k x28 (λy29=>bif y29 then(Y9.f k aG (λy30=>K aI y30)) else(K aI false)))))) else(K aI false))
noncomputable def Yh.m {β:Type} (k:Nat) (a0:LD) (a1:BA) (K:Int->Bool->Option β) (F:(LD->BA->Int->(Int×Int)->Option β)):Option β:=
 F a0 a1 (a0.length:Int) (0,(a0.length:Int))
noncomputable def Yh.g {β:Type} (k:Nat) (a0:LD) (a1:BA) (K:Int->Bool->Option β):Option β:=
 ZA (Yh.l0 k a0 a1 (a0.length:Int) K) k (0,(a0.length:Int))
noncomputable def Yh.t (k:Nat) (a0:LD) (a1:BA):Option (Int×Bool):=Yh.g k a0 a1 (λz0 z1=>some (z0,z1))
noncomputable def Yh.f {β:Type} (k:Nat) (a0:LD) (a1:BA) (K:Int->Bool->Option β):Option β:=bd2 (Yh.t k a0 a1) K
noncomputable def Yh.e (k:Nat):Zj:=ent [.d .l,.d .s] [1,1] [.n,.b] [3,4] false (Yh.t k)
noncomputable def Yh.p (k:Nat):Pro:=⟨Tryz.prog,[(207,Yau.e k),(208,Y9.e k)],Zv [(3,kp [0,1,6,7,8])] false [],k⟩
noncomputable def Yh.d (k:Nat) (a0:LD) (a1:BA):Ex->St->Option (Int×Bool):=(Yh.p k).fin Tryz.f200 [.d (.sl a0),.d (.str a1)] [1,1] [.n,.b]
noncomputable def Yh.s0 (aF:LD) (aG:BA) (aH:Int) (v:Int×Int):St:=
 match v with
 |(aI,aJ)=>ZaA 54 [(0,.d false (.sl aF)),(1,.d false (.str aG)),(6,.d true (.int .i64 aH)),(7,.d true (.int .i64 aI)),(8,.d true (.int .i64 aJ))] []
noncomputable def Yh.r0 (k:Nat) (a0:LD) (a1:BA) (aF:LD) (aG:BA) (aH:Int) (n:Nat) (v:Int×Int):Option (Int×Bool):=(Yh.p k).lp (ZI Tryz.f200) 3 [1,1,1,0,0] (Yh.d k a0 a1) n (Yh.s0 aF aG aH v)
theorem Yh.l0_eq (k:Nat) (a0:LD) (a1:BA) (aF:LD) (aG:BA) (aH:Int):∀ n v,Yh.r0 k a0 a1 aF aG aH n v=ZA (Yh.l0 k aF aG aH (λz0 z1=>some (z0,z1))) n v:=
 Zz (Yh.s0 aF aG aH) _ λL0 v=>by obtain⟨aI,aJ⟩:=v;kernel_rfl
theorem Yh.ok (k:Nat):Zf Tryz.prog 200 (Yh.e k):=Zk (Yh.p k) mix tyok Tryz.func200 ⟨Yau.ok k,Y9.ok k⟩ (by kernel_rfl) (λa0 a1=>Eq.trans (b:=Yh.m k a0 a1 (λz0 z1=>some (z0,z1)) (λaF aG aH=>Yh.r0 k a0 a1 aF aG aH k)) (by kernel_rfl) (congrArg (Yh.m k a0 a1 (λz0 z1=>some (z0,z1))) (funext λaF=>funext λaG=>funext λaH=>funext λv=>Yh.l0_eq k a0 a1 aF aG aH k v) :))
noncomputable def YN.t (k:Nat) (xs:LC) (i:Int) (ys:LC):Option LC:=Zd (0<=i/\i<=(xs.length:Int)/\xs.length+ys.length<=Z8) (some (xs.take i.toNat++ys++xs.drop i.toNat))
noncomputable def YN.f {β:Type} (k:Nat) (xs:LC) (i:Int) (ys:LC) (K:LC->Option β):Option β:=
 match YN.t k xs i ys with
 |some z0=>K z0
 |none=>none
noncomputable def YN.run (k:Nat):{β:Type}->List A->(LC->Option β)->Option β:=λ{β} l K=>
 match l with
 |[.own false [.own xs],.d (.int .i64 i),.own false [.own ys]]=>YN.f k xs i ys K
 |_=>none
noncomputable def YN.e (k:Nat):Zj:={ modes:=[(.own,0)],rts:=[45],al:=false,run:=λ_ _=>none,lib:=some ⟨[true,false,true],45,YN.run k⟩ }
set_option maxHeartbeats 4000000 in
set_option maxRecDepth 1000000 in
theorem YN.raw0 (a:Option Addr) (n cap i:Nat) (a':Option Addr) (cap':Nat) (w:World) (hi:i<=n) (hn:n<=cap):Calls Tryz.prog 201 #[.slice a n cap,.int .i64 i,.slice a' 0 cap'] w λex w'=>ex=.returned (.slice a n cap)/\w'=w:=by
 go_enter Tryz.func201,Tryz.ntmps201
 go_wp2
 all_goals (go_ret;exact⟨rfl,rfl⟩)
set_option maxHeartbeats 4000000 in
set_option maxRecDepth 1000000 in
theorem YN.rawA (a:Option Addr) (n cap m vb vcap:Nat) (w W':World) (R:Value) (hm:0<m) (hn:n<=cap) (hrun:∀ ty,(Builtin.append_ #[45,45] ty #[.slice a n cap,.slice (some ⟨vb,0,none⟩) m vcap]).run Tryz.prog w=.ok R W'):
  Calls Tryz.prog 201 #[.slice a n cap,.int .i64 n,.slice (some ⟨vb,0,none⟩) m vcap] w λex w'=>ex=.returned R/\w'=W':=by
 have mixed:Tryz.prog.follows .mixedOrders=true:=by kernel_rfl
 have hz1:¬ ((m:Int)=0):=by omega
 go_enter Tryz.func201,Tryz.ntmps201
 cases a with
 |none=>
  go_wp2_with (at_builtin;refine Lib.wpList_append_run _ rfl _ _ _ _ rfl _ _ rfl rfl _ _ (hrun _) ?_)
  all_goals (go_ret;exact⟨rfl,rfl⟩)
 |some a=>
  obtain⟨ab,ao,asp⟩:=a
  go_wp2_with (at_builtin;refine Lib.wpList_append_run _ rfl _ _ _ _ rfl _ _ rfl rfl _ _ (hrun _) ?_)
  all_goals (go_ret;exact⟨rfl,rfl⟩)
set_option maxHeartbeats 4000000 in
set_option maxRecDepth 1000000 in
theorem YN.rawB (b n cap i vb m vcap:Nat) (cd vs:List Value) (w:World) (hi:i<n) (hm:0<m) (hroom:n+m<=cap) (hnm:n+m<=9223372036854775807)
  (hov:∀ lb cb,(callFunc 209 #[.slice (some ⟨vb,0,none⟩) m vcap,.slice (some ⟨b,(i+m),none⟩) lb cb]).run Tryz.prog w=.ok (.value (.bool false)) w)
  (hcp1:∀ ty dc sc,(Builtin.copy_ #[45,45] ty #[.slice (some ⟨b,(i+m),none⟩) (n+m-(i+m)) dc,.slice (some ⟨b,i,none⟩) (n+m-i) sc]).run Tryz.prog w.drew=.ok (goInt ((n-i:Nat):Int)) (w.drew.setCells b ((i+m)) cd))
  (hcp2:∀ ty dc,(Builtin.copy_ #[45,45] ty #[.slice (some ⟨b,i,none⟩) (n+m-i) dc,.slice (some ⟨vb,0,none⟩) m vcap]).run Tryz.prog (w.drew.setCells b ((i+m)) cd)=.ok (goInt m) ((w.drew.setCells b ((i+m)) cd).setCells b (i) vs)):
  Calls Tryz.prog 201 #[.slice (some ⟨b,0,none⟩) n cap,.int .i64 i,.slice (some ⟨vb,0,none⟩) m vcap] w λex w'=>ex=.returned (.slice (some ⟨b,0,none⟩) (n+m) cap)/\w'=(w.drew.setCells b ((i+m)) cd).setCells b (i) vs:=by
 have mixed:Tryz.prog.follows .mixedOrders=true:=by kernel_rfl
 have hz1:¬ ((m:Int)=0):=by omega
 have hz2:¬ ((i:Int)=(n:Int)):=by omega
 have hw1:IntKind.i64.wrap ((i:Int)+(m:Int))=(i:Int)+(m:Int):=by rw[IntKind.wrap_i64];omega
 have hb1:(0:Int)<=(i:Int)+(m:Int):=by omega
 have hin:i<=n:=by omega
 have htn:((i:Int)+(m:Int)).toNat=i+m:=by omega
 have hb2:¬ (cap=i+m):=by omega
 have hb3:(i:Int)<=(n:Int)+(m:Int):=by omega
 have hb4:¬ (cap=i):=by omega
 obtain⟨W1,hW1⟩:∃ W1,Hold (W1=w.drew.setCells b ((i+m)) cd):=⟨_,⟨rfl⟩⟩
 rw[<- hW1.out] at hcp1 hcp2⊢
 go_enter Tryz.func201,Tryz.ntmps201
 go_wp2_with (simp only[hov])
 go_region_law_o (refine step_copy_run rfl _ _ 45 45 rfl _ _ (by simp[Act.eval,Act.put]) (by simp[Act.eval,Act.put]) (hcp1 _ _ _) ?_)
 go_wp2_with (at_builtin;refine wpList_copy_run _ rfl _ _ 45 45 rfl _ _ rfl rfl (hcp2 _ _) ?_)
 go_ret
 exact⟨rfl,rfl⟩
set_option maxHeartbeats 4000000 in
set_option maxRecDepth 1000000 in
theorem YN.rawC (b n cap i vb m vcap G N:Nat) (cd vs:List Value) (w W1:World) (hi:i<n) (hm:0<m) (hn:n<=cap) (hroom:cap<n+m) (hG:n+m<=G) (hG63:G<=9223372036854775807)
  (hrz:∀ ty,(Builtin.append_ #[45,3] ty #[.slice (some ⟨b,0,none⟩) i cap,.int .i64 ((n:Int)+(m:Int)-(i:Int))]).run Tryz.prog w=.ok (.slice (some ⟨N,0,none⟩) (n+m) G) W1)
  (hcpA:∀ ty dc,(Builtin.copy_ #[45,45] ty #[.slice (some ⟨N,i,none⟩) (n+m-i) dc,.slice (some ⟨vb,0,none⟩) m vcap]).run Tryz.prog W1=.ok (goInt m) (W1.setCells N (i) vs))
  (hcpB:∀ ty dc sc,(Builtin.copy_ #[45,45] ty #[.slice (some ⟨N,(i+m),none⟩) (n+m-(i+m)) dc,.slice (some ⟨b,i,none⟩) (n-i) sc]).run Tryz.prog (W1.setCells N (i) vs).drew=.ok (goInt ((n-i:Nat):Int)) ((W1.setCells N (i) vs).drew.setCells N ((i+m)) cd)):
  Calls Tryz.prog 201 #[.slice (some ⟨b,0,none⟩) n cap,.int .i64 i,.slice (some ⟨vb,0,none⟩) m vcap] w λex w'=>ex=.returned (.slice (some ⟨N,0,none⟩) (n+m) G)/\w'=(W1.setCells N (i) vs).drew.setCells N ((i+m)) cd:=by
 have mixed:Tryz.prog.follows .mixedOrders=true:=by kernel_rfl
 have hz1:¬ ((m:Int)=0):=by omega
 have hz2:¬ ((i:Int)=(n:Int)):=by omega
 have hz3:(cap:Int)<(n:Int)+(m:Int):=by omega
 have hGi:¬ (G=i):=by omega
 have hGim:¬ (G=i+m):=by omega
 have hci:¬ (cap=i):=by omega
 have hw1:IntKind.i64.wrap ((i:Int)+(m:Int))=(i:Int)+(m:Int):=by rw[IntKind.wrap_i64];omega
 have hb1:(0:Int)<=(i:Int)+(m:Int):=by omega
 have hin:i<=n:=by omega
 have htn:((i:Int)+(m:Int)).toNat=i+m:=by omega
 have hb3:(i:Int)<=(n:Int):=by omega
 obtain⟨W2,hW2⟩:∃ W2,Hold (W2=W1.setCells N (i) vs):=⟨_,⟨rfl⟩⟩
 rw[<- hW2.out] at hcpA hcpB⊢
 go_enter Tryz.func201,Tryz.ntmps201
 go_wp2_with (first
  |(at_builtin;refine Lib.wpList_append_run _ rfl _ _ _ _ rfl _ _ rfl rfl _ _ (hrz _) ?_)
  |(at_builtin;refine wpList_copy_run _ rfl _ _ 45 45 rfl _ _ rfl rfl (hcpA _ _) ?_))
 go_region_law_o (refine step_copy_run rfl _ _ 45 45 rfl (.slice (some ⟨N,(i+m),none⟩) (n+m-(i+m)) (G-(i+m))) (.slice (some ⟨b,i,none⟩) (n-i) (cap-i)) (by simp[Act.eval,Act.put]) (by simp[Act.eval,Act.put]) (hcpB _ _ _) ?_)
 go_wp2
 go_ret
 exact⟨rfl,rfl⟩
theorem YN.raw:InsRaw Tryz.prog 201 1:=by
 obtain⟨i0,z,hi,hz,hzs⟩:=Zbr (P:=Tryz.prog) (t:=9) (by kernel_rfl)
 have hsz:i0.size=1:=by
  have:Tryz.prog.cellsOf 9=1:=by kernel_rfl
  simpa[Program.cellsOf,hi] using this
 have hzc:z.cells.size=1:=by
  have h1:(ZaM Tryz.prog 9).length=1:=by kernel_rfl
  rw[<- h1]
  simpa using(Zaq hzs).2.2.1.symm
 have hby:i0.bytes<=1000:=by
  have:(Tryz.prog.info? 9).map (·.bytes)=some 16:=by kernel_rfl
  rw[hi] at this
  simp only[Option.map_some,Option.some.injEq] at this
  rw[this]
  decide
 exact InsRoads.raw (o:=209) (S:=45) (E:=9) (T:=4) ⟨YN.raw0,YN.rawA,by simp only[Nat.mul_one];exact YN.rawB,by simp only[Nat.mul_one];exact YN.rawC⟩ Tryz.underlying45 (by kernel_rfl) hi hz hsz (by decide) hzc hby (λx y w h=>by
  rw[run_callFunc_extern Tryz.func209 (by kernel_rfl) (by kernel_rfl) (by kernel_rfl) (e:=Extern.SlicesOverlaps.overlaps #[45,45] #[4]) (by kernel_rfl),h]
  rfl)
theorem YN.ok (k:Nat):Zf Tryz.prog 201 (YN.e k):=insert_ok tyok (ct:=45) (K:=1) (run:=λ{β}=>YN.run k) (by kernel_rfl) (enter_of Tryz.func201 (by kernel_rfl)) YN.raw (λβ aa K r h=>by
 unfold YN.run at h
 split at h
 ·unfold YN.f YN.t at h
  split at h
  ·rename_i hz
   obtain⟨hg,hz⟩:=Zp hz
   injection hz with hz
   subst hz
   exact⟨_,_,_,rfl,hg,h⟩
  ·cases h
 ·cases h)
end Go.Proofs.YtlobhlnahhjpjaaGreat
