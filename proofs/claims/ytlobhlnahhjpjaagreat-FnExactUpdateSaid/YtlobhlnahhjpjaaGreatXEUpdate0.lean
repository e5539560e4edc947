/- Printed: the functions that FnExactUpdate reaches,read by the evaluator,each with its contract. -/
import Derived.Test.YtlobhlnahhjpjaaGreatTIns
import Derived.Test.YtlobhlnahhjpjaaGreatProg
import Derived.KernelRfl
set_option linter.unusedVariables false
set_option linter.unusedSimpArgs false
namespace Go.Proofs.YtlobhlnahhjpjaaGreat
open Go Go.T Go.Proofs
theorem mix:Tryz.prog.follows .mixedOrders=true:=by kernel_rfl
theorem tyok:Zar Tryz.prog:=tyOk_of (by kernel_rfl)
noncomputable def YH.l0 {β:Type} (k:Nat) (aF:LD) (K:Int->Option β) (L0:(Int×Int)->Option β) (v:Int×Int):Option β:=
 match v with
 |(aH,aJ)=>bif(decide ((aJ:Int)<(aF.length:Int))) then(atR aF aJ [.s] λx8=>(bif(decide (((IntKind.wrap .i64 (aH-(x8.size:Int))):Int)<0)) then(K (-1)) else(L0 (IntKind.wrap .i64 (aH-(x8.size:Int)),IntKind.wrap .i64 (aJ+1))))) else(K aH)
noncomputable def YH.m {β:Type} (k:Nat) (a0:LD) (a1:Int) (K:Int->Option β) (F:(LD->(Int×Int)->Option β)):Option β:=
 bif(decide (((IntKind.wrap .i64 (a1-(a0.length:Int))):Int)<0)) then(K (-1)) else(F a0 (IntKind.wrap .i64 (a1-(a0.length:Int)),0))
noncomputable def YH.g {β:Type} (k:Nat) (a0:LD) (a1:Int) (K:Int->Option β):Option β:=
 bif(decide (((IntKind.wrap .i64 (a1-(a0.length:Int))):Int)<0)) then(K (-1)) else(ZA (YH.l0 k a0 K) k (IntKind.wrap .i64 (a1-(a0.length:Int)),0))
noncomputable def YH.t (k:Nat) (a0:LD) (a1:Int):Option (Int):=YH.g k a0 a1 (λz0=>some z0)
noncomputable def YH.f {β:Type} (k:Nat) (a0:LD) (a1:Int) (K:Int->Option β):Option β:=bd1 (YH.t k a0 a1) K
noncomputable def YH.e (k:Nat):Zj:=ent [.d .l,.d .n] [1] [.n] [3] false (YH.t k)
noncomputable def YH.p (k:Nat):Pro:=⟨Tryz.prog,[],Zv [(5,kp [0,1,5])] false [],k⟩
noncomputable def YH.d (k:Nat) (a0:LD) (a1:Int):Ex->St->Option (Int):=(YH.p k).fin Tryz.f46 [.d (.sl a0),.d (.int .i64 a1)] [1] [.n]
noncomputable def YH.s0 (aF:LD) (v:Int×Int):St:=
 match v with
 |(aH,aJ)=>ZaA 28 [(0,.d false (.sl aF)),(1,.d true (.int .i64 aH)),(5,.d true (.int .i64 aJ))] []
noncomputable def YH.r0 (k:Nat) (a0:LD) (a1:Int) (aF:LD) (n:Nat) (v:Int×Int):Option (Int):=(YH.p k).lp (ZI Tryz.f46) 5 [1,1,1,0,1,0] (YH.d k a0 a1) n (YH.s0 aF v)
theorem YH.l0_eq (k:Nat) (a0:LD) (a1:Int) (aF:LD):∀ n v,YH.r0 k a0 a1 aF n v=ZA (YH.l0 k aF (λz0=>some z0)) n v:=
 Zz (YH.s0 aF) _ λL0 v=>by obtain⟨aH,aJ⟩:=v;kernel_rfl
theorem YH.ok (k:Nat):Zf Tryz.prog 46 (YH.e k):=Zk (YH.p k) mix tyok Tryz.func46 trivial (by kernel_rfl) (λa0 a1=>Eq.trans (b:=YH.m k a0 a1 (λz0=>some z0) (λaF=>YH.r0 k a0 a1 aF k)) (by kernel_rfl) (congrArg (YH.m k a0 a1 (λz0=>some z0)) (funext λaF=>funext λv=>YH.l0_eq k a0 a1 aF k v) :))
noncomputable def Yx.l0 {β:Type} (k:Nat) (r_laws_szValueS:LD->Int->(Int->Option β)->Option β) (r_laws_szValue:Int->BA->Int->LD->LD->Int->(Int->Option β)->Option β) (aF:LD) (K:Int->Option β) (L0:(Int×Int)->Option β) (v:Int×Int):Option β:=
 match v with
 |(aH,aJ)=>bif(decide ((aJ:Int)<(aF.length:Int))) then(atR aF aJ [.n,.s,.n,.l,.l] λx21 x24 x27 x30 x33=>(r_laws_szValue x21 x24 x27 x30 x33 aH (λy34=>bif(decide ((y34:Int)<0)) then(K (-1)) else(L0 (y34,IntKind.wrap .i64 (aJ+1)))))) else(K aH)
noncomputable def Yx.m {β:Type} (k:Nat) (r_laws_szValueS:LD->Int->(Int->Option β)->Option β) (r_laws_szValue:Int->BA->Int->LD->LD->Int->(Int->Option β)->Option β) (a0:LD) (a1:Int) (K:Int->Option β) (F:(LD->(Int×Int)->Option β)):Option β:=
 bif(decide (((IntKind.wrap .i64 (a1-(a0.length:Int))):Int)<0)) then(K (-1)) else(F a0 (IntKind.wrap .i64 (a1-(a0.length:Int)),0))
noncomputable def Yx.body {β:Type} (k:Nat) (r_laws_szValueS:LD->Int->(Int->Option β)->Option β) (r_laws_szValue:Int->BA->Int->LD->LD->Int->(Int->Option β)->Option β) (a0:LD) (a1:Int) (K:Int->Option β):Option β:=
 bif(decide (((IntKind.wrap .i64 (a1-(a0.length:Int))):Int)<0)) then(K (-1)) else(ZA (Yx.l0 k r_laws_szValueS r_laws_szValue a0 K) k (IntKind.wrap .i64 (a1-(a0.length:Int)),0))
noncomputable def YM.body {β:Type} (k:Nat) (r_laws_szValueS:LD->Int->(Int->Option β)->Option β) (r_laws_szValue:Int->BA->Int->LD->LD->Int->(Int->Option β)->Option β) (aC:Int) (aB:BA) (aD:Int) (aA aI:LD) (a1:Int) (K:Int->Option β):Option β:=
 bif(decide (((IntKind.wrap .i64 (a1-(aB.size:Int))):Int)<0)) then(K (-1)) else(YH.f k aA (IntKind.wrap .i64 (a1-(aB.size:Int))) (λy1=>bif(decide ((y1:Int)<0)) then(K (-1)) else(r_laws_szValueS aI y1 (λy35=>bif(decide ((y35:Int)<0)) then(K (-1)) else(K y35)))))
noncomputable def Yx.w {β:Type} (r:LD->Int->Option (Int)) (a0:LD) (a1:Int) (K:Int->Option β):Option β:=bd1 (r a0 a1) K
noncomputable def YM.w {β:Type} (r:Int->BA->Int->LD->LD->Int->Option (Int)) (aC:Int) (aB:BA) (aD:Int) (aA aI:LD) (a1:Int) (K:Int->Option β):Option β:=bd1 (r aC aB aD aA aI a1) K
noncomputable def Yx.all:Nat->(LD->Int->Option (Int))×(Int->BA->Int->LD->LD->Int->Option (Int))
 |0=>(λ_ _=>none,λ_ _ _ _ _ _=>none)
 |k+1=>(λr=>(λa0 a1=>Yx.body k (Yx.w r.1) (YM.w r.2) a0 a1 (λz0=>some z0),λaC aB aD aA aI a1=>YM.body k (Yx.w r.1) (YM.w r.2) aC aB aD aA aI a1 (λz0=>some z0))) (Yx.all k)
noncomputable def Yx.t (k:Nat) (a0:LD) (a1:Int):Option (Int):=(Yx.all k).1 a0 a1
noncomputable def YM.t (k:Nat) (aC:Int) (aB:BA) (aD:Int) (aA aI:LD) (a1:Int):Option (Int):=(Yx.all k).2 aC aB aD aA aI a1
noncomputable def Yx.f {β:Type} (k:Nat) (a0:LD) (a1:Int) (K:Int->Option β):Option β:=Yx.w (Yx.t k) a0 a1 K
noncomputable def YM.f {β:Type} (k:Nat) (aC:Int) (aB:BA) (aD:Int) (aA aI:LD) (a1:Int) (K:Int->Option β):Option β:=YM.w (YM.t k) aC aB aD aA aI a1 K
noncomputable def Yx.g {β:Type} (k:Nat) (a0:LD) (a1:Int) (K:Int->Option β):Option β:=Yx.body k (Yx.f k) (YM.f k) a0 a1 K
theorem Yx.t_succ (k:Nat) (a0:LD) (a1:Int):Yx.t (k+1) a0 a1=Yx.g k a0 a1 (λz0=>some z0):=rfl
noncomputable def YM.g {β:Type} (k:Nat) (aC:Int) (aB:BA) (aD:Int) (aA aI:LD) (a1:Int) (K:Int->Option β):Option β:=YM.body k (Yx.f k) (YM.f k) aC aB aD aA aI a1 K
theorem YM.t_succ (k:Nat) (aC:Int) (aB:BA) (aD:Int) (aA aI:LD) (a1:Int):YM.t (k+1) aC aB aD aA aI a1=YM.g k aC aB aD aA aI a1 (λz0=>some z0):=rfl
noncomputable def Yx.e (k:Nat):Zj:=ent [.d .l,.d .n] [1] [.n] [3] false (Yx.t k)
noncomputable def YM.e (k:Nat):Zj:=ent [.agg [.n,.s,.n,.l,.l],.d .n] [1] [.n] [3] false (YM.t k)
noncomputable def Yx.p (k:Nat):Pro:=⟨Tryz.prog,[(17,YM.e k)],Zv [(5,kp [0,1,5])] false [],k⟩
noncomputable def Yx.d (k:Nat) (a0:LD) (a1:Int):Ex->St->Option (Int):=(Yx.p k).fin Tryz.f47 [.d (.sl a0),.d (.int .i64 a1)] [1] [.n]
noncomputable def Yx.s0 (aF:LD) (v:Int×Int):St:=
 match v with
 |(aH,aJ)=>ZaA 27 [(0,.d false (.sl aF)),(1,.d true (.int .i64 aH)),(5,.d true (.int .i64 aJ))] []
noncomputable def Yx.r0 (k:Nat) (a0:LD) (a1:Int) (aF:LD) (n:Nat) (v:Int×Int):Option (Int):=(Yx.p k).lp (ZI Tryz.f47) 5 [1,1,1,0,1,0] (Yx.d k a0 a1) n (Yx.s0 aF v)
theorem Yx.l0_eq (k:Nat) (a0:LD) (a1:Int) (aF:LD):∀ n v,Yx.r0 k a0 a1 aF n v=ZA (Yx.l0 k (Yx.f k) (YM.f k) aF (λz0=>some z0)) n v:=
 Zz (Yx.s0 aF) _ λL0 v=>by obtain⟨aH,aJ⟩:=v;kernel_rfl
noncomputable def YM.p (k:Nat):Pro:=⟨Tryz.prog,[(46,YH.e k),(47,Yx.e k)],Zv [] false [],k⟩
theorem Yx.oks (k:Nat):Zf Tryz.prog 47 (Yx.e k)/\Zf Tryz.prog 17 (YM.e k):=by
 induction k with
 |zero=>exact⟨Zba Tryz.func47 (by kernel_rfl) (λ_ _=>rfl),
  Zba Tryz.func17 (by kernel_rfl) (λ_ _ _ _ _ _=>rfl)⟩
 |succ k ih=>exact⟨Zk (Yx.p k) mix tyok Tryz.func47 ih.2 (by kernel_rfl) (λa0 a1=>Eq.trans (b:=Yx.m k (Yx.f k) (YM.f k) a0 a1 (λz0=>some z0) (λaF=>Yx.r0 k a0 a1 aF k)) (by kernel_rfl) ((congrArg (Yx.m k (Yx.f k) (YM.f k) a0 a1 (λz0=>some z0)) (funext λaF=>funext λv=>Yx.l0_eq k a0 a1 aF k v)).trans (Yx.t_succ k a0 a1).symm)),
  Zk (YM.p k) mix tyok Tryz.func17 ⟨YH.ok k,ih.1⟩ (by kernel_rfl) (λaC aB aD aA aI a1=>by show _=_;kernel_rfl)⟩
theorem YM.ok (k:Nat):Zf Tryz.prog 17 (YM.e k):=(Yx.oks k).2
noncomputable def YaE.g {β:Type} (k:Nat) (aC:Int) (aB:BA) (aD aA aI:Int) (bE:Bool) (aW:LD) (bB:Int) (aR:BA) (bC:Int) (aT aY:LD) (bA:Int) (aU:BA) (bD:Int) (aV aZ:LD) (a1:Int) (K:Int->Option β):Option β:=
 bif(decide (((IntKind.wrap .i64 (a1-(aB.size:Int))):Int)<0)) then(K (-1)) else(YH.f k aW (IntKind.wrap .i64 (a1-(aB.size:Int))) (λy9=>bif(decide ((y9:Int)<0)) then(K (-1)) else(YM.f k bB aR bC aT aY y9 (λy36=>bif(decide ((y36:Int)<0)) then(K (-1)) else(YM.f k bA aU bD aV aZ y36 (λy37=>bif(decide ((y37:Int)<0)) then(K (-1)) else(K y37)))))))
noncomputable def YaE.t (k:Nat) (aC:Int) (aB:BA) (aD aA aI:Int) (bE:Bool) (aW:LD) (bB:Int) (aR:BA) (bC:Int) (aT aY:LD) (bA:Int) (aU:BA) (bD:Int) (aV aZ:LD) (a1:Int):Option (Int):=YaE.g k aC aB aD aA aI bE aW bB aR bC aT aY bA aU bD aV aZ a1 (λz0=>some z0)
noncomputable def YaE.f {β:Type} (k:Nat) (aC:Int) (aB:BA) (aD aA aI:Int) (bE:Bool) (aW:LD) (bB:Int) (aR:BA) (bC:Int) (aT aY:LD) (bA:Int) (aU:BA) (bD:Int) (aV aZ:LD) (a1:Int) (K:Int->Option β):Option β:=bd1 (YaE.t k aC aB aD aA aI bE aW bB aR bC aT aY bA aU bD aV aZ a1) K
noncomputable def YaE.e (k:Nat):Zj:=ent [.agg [.n,.s,.n,.n,.n,.b,.l,.n,.s,.n,.l,.l,.n,.s,.n,.l,.l],.d .n] [1] [.n] [3] false (YaE.t k)
noncomputable def YaE.p (k:Nat):Pro:=⟨Tryz.prog,[(46,YH.e k),(17,YM.e k)],Zv [] false [],k⟩
theorem YaE.ok (k:Nat):Zf Tryz.prog 83 (YaE.e k):=Zk (YaE.p k) mix tyok Tryz.func83 ⟨YH.ok k,YM.ok k⟩ (by kernel_rfl) (λaC aB aD aA aI bE aW bB aR bC aT aY bA aU bD aV aZ a1=>by show _=_;kernel_rfl)
noncomputable def Y6.l0 {β:Type} (k:Nat) (aF:LD) (K:Int->Option β) (L0:(Int×Int)->Option β) (v:Int×Int):Option β:=
 match v with
 |(aH,aJ)=>bif(decide ((aJ:Int)<(aF.length:Int))) then(atR aF aJ [.n,.s,.n,.n,.n,.b,.l,.n,.s,.n,.l,.l,.n,.s,.n,.l,.l] λx57 x60 x63 x66 x69 x72 x75 x78 x81 x84 x87 x90 x93 x96 x99 x102 x105=>(YaE.f k x57 x60 x63 x66 x69 x72 x75 x78 x81 x84 x87 x90 x93 x96 x99 x102 x105 aH (λy106=>bif(decide ((y106:Int)<0)) then(K (-1)) else(L0 (y106,IntKind.wrap .i64 (aJ+1)))))) else(K aH)
noncomputable def Y6.m {β:Type} (k:Nat) (a0:LD) (a1:Int) (K:Int->Option β) (F:(LD->(Int×Int)->Option β)):Option β:=
 bif(decide (((IntKind.wrap .i64 (a1-(a0.length:Int))):Int)<0)) then(K (-1)) else(F a0 (IntKind.wrap .i64 (a1-(a0.length:Int)),0))
noncomputable def Y6.g {β:Type} (k:Nat) (a0:LD) (a1:Int) (K:Int->Option β):Option β:=
 bif(decide (((IntKind.wrap .i64 (a1-(a0.length:Int))):Int)<0)) then(K (-1)) else(ZA (Y6.l0 k a0 K) k (IntKind.wrap .i64 (a1-(a0.length:Int)),0))
noncomputable def Y6.t (k:Nat) (a0:LD) (a1:Int):Option (Int):=Y6.g k a0 a1 (λz0=>some z0)
noncomputable def Y6.f {β:Type} (k:Nat) (a0:LD) (a1:Int) (K:Int->Option β):Option β:=bd1 (Y6.t k a0 a1) K
noncomputable def Y6.e (k:Nat):Zj:=ent [.d .l,.d .n] [1] [.n] [3] false (Y6.t k)
noncomputable def Y6.p (k:Nat):Pro:=⟨Tryz.prog,[(83,YaE.e k)],Zv [(5,kp [0,1,5])] false [],k⟩
noncomputable def Y6.d (k:Nat) (a0:LD) (a1:Int):Ex->St->Option (Int):=(Y6.p k).fin Tryz.f31 [.d (.sl a0),.d (.int .i64 a1)] [1] [.n]
noncomputable def Y6.s0 (aF:LD) (v:Int×Int):St:=
 match v with
 |(aH,aJ)=>ZaA 27 [(0,.d false (.sl aF)),(1,.d true (.int .i64 aH)),(5,.d true (.int .i64 aJ))] []
noncomputable def Y6.r0 (k:Nat) (a0:LD) (a1:Int) (aF:LD) (n:Nat) (v:Int×Int):Option (Int):=(Y6.p k).lp (ZI Tryz.f31) 5 [1,1,1,0,1,0] (Y6.d k a0 a1) n (Y6.s0 aF v)
theorem Y6.l0_eq (k:Nat) (a0:LD) (a1:Int) (aF:LD):∀ n v,Y6.r0 k a0 a1 aF n v=ZA (Y6.l0 k aF (λz0=>some z0)) n v:=
 Zz (Y6.s0 aF) _ λL0 v=>by obtain⟨aH,aJ⟩:=v;kernel_rfl
theorem Y6.ok (k:Nat):Zf Tryz.prog 31 (Y6.e k):=Zk (Y6.p k) mix tyok Tryz.func31 (YaE.ok k) (by kernel_rfl) (λa0 a1=>Eq.trans (b:=Y6.m k a0 a1 (λz0=>some z0) (λaF=>Y6.r0 k a0 a1 aF k)) (by kernel_rfl) (congrArg (Y6.m k a0 a1 (λz0=>some z0)) (funext λaF=>funext λv=>Y6.l0_eq k a0 a1 aF k v) :))
noncomputable def Yaw.g {β:Type} (k:Nat) (aC:Int) (aB:Bool) (aD:Int) (aA:BA) (aI bE aW:Int) (bB:Bool) (aR:LD) (bC:Int) (aT:BA) (aY:Int) (bA aU:LD) (bD:Int) (aV:BA) (aZ:Int) (cN cO:LD) (a1:Int) (K:Int->Option β):Option β:=
 YaE.f k aD aA aI bE aW bB aR bC aT aY bA aU bD aV aZ cN cO a1 (λy1=>bif(decide ((y1:Int)<0)) then(K (-1)) else(K y1))
noncomputable def Yaw.t (k:Nat) (aC:Int) (aB:Bool) (aD:Int) (aA:BA) (aI bE aW:Int) (bB:Bool) (aR:LD) (bC:Int) (aT:BA) (aY:Int) (bA aU:LD) (bD:Int) (aV:BA) (aZ:Int) (cN cO:LD) (a1:Int):Option (Int):=Yaw.g k aC aB aD aA aI bE aW bB aR bC aT aY bA aU bD aV aZ cN cO a1 (λz0=>some z0)
noncomputable def Yaw.f {β:Type} (k:Nat) (aC:Int) (aB:Bool) (aD:Int) (aA:BA) (aI bE aW:Int) (bB:Bool) (aR:LD) (bC:Int) (aT:BA) (aY:Int) (bA aU:LD) (bD:Int) (aV:BA) (aZ:Int) (cN cO:LD) (a1:Int) (K:Int->Option β):Option β:=bd1 (Yaw.t k aC aB aD aA aI bE aW bB aR bC aT aY bA aU bD aV aZ cN cO a1) K
noncomputable def Yaw.e (k:Nat):Zj:=ent [.agg [.n,.b,.n,.s,.n,.n,.n,.b,.l,.n,.s,.n,.l,.l,.n,.s,.n,.l,.l],.d .n] [1] [.n] [3] false (Yaw.t k)
noncomputable def Yaw.p (k:Nat):Pro:=⟨Tryz.prog,[(83,YaE.e k)],Zv [] false [],k⟩
theorem Yaw.ok (k:Nat):Zf Tryz.prog 84 (Yaw.e k):=Zk (Yaw.p k) mix tyok Tryz.func84 (YaE.ok k) (by kernel_rfl) (λaC aB aD aA aI bE aW bB aR bC aT aY bA aU bD aV aZ cN cO a1=>by show _=_;kernel_rfl)
noncomputable def YO.l0 {β:Type} (k:Nat) (aF:LD) (K:Int->Option β) (L0:(Int×Int)->Option β) (v:Int×Int):Option β:=
 match v with
 |(aH,aJ)=>bif(decide ((aJ:Int)<(aF.length:Int))) then(atR aF aJ [.n,.b,.n,.s,.n,.n,.n,.b,.l,.n,.s,.n,.l,.l,.n,.s,.n,.l,.l] λx63 x66 x69 x72 x75 x78 x81 x84 x87 x90 x93 x96 x99 x102 x105 x108 x111 x114 x117=>(Yaw.f k x63 x66 x69 x72 x75 x78 x81 x84 x87 x90 x93 x96 x99 x102 x105 x108 x111 x114 x117 aH (λy118=>bif(decide ((y118:Int)<0)) then(K (-1)) else(L0 (y118,IntKind.wrap .i64 (aJ+1)))))) else(K aH)
noncomputable def YO.m {β:Type} (k:Nat) (a0:LD) (a1:Int) (K:Int->Option β) (F:(LD->(Int×Int)->Option β)):Option β:=
 bif(decide (((IntKind.wrap .i64 (a1-(a0.length:Int))):Int)<0)) then(K (-1)) else(F a0 (IntKind.wrap .i64 (a1-(a0.length:Int)),0))
noncomputable def YO.g {β:Type} (k:Nat) (a0:LD) (a1:Int) (K:Int->Option β):Option β:=
 bif(decide (((IntKind.wrap .i64 (a1-(a0.length:Int))):Int)<0)) then(K (-1)) else(ZA (YO.l0 k a0 K) k (IntKind.wrap .i64 (a1-(a0.length:Int)),0))
noncomputable def YO.t (k:Nat) (a0:LD) (a1:Int):Option (Int):=YO.g k a0 a1 (λz0=>some z0)
noncomputable def YO.f {β:Type} (k:Nat) (a0:LD) (a1:Int) (K:Int->Option β):Option β:=bd1 (YO.t k a0 a1) K
noncomputable def YO.e (k:Nat):Zj:=ent [.d .l,.d .n] [1] [.n] [3] false (YO.t k)
noncomputable def YO.p (k:Nat):Pro:=⟨Tryz.prog,[(84,Yaw.e k)],Zv [(5,kp [0,1,5])] false [],k⟩
noncomputable def YO.d (k:Nat) (a0:LD) (a1:Int):Ex->St->Option (Int):=(YO.p k).fin Tryz.f32 [.d (.sl a0),.d (.int .i64 a1)] [1] [.n]
noncomputable def YO.s0 (aF:LD) (v:Int×Int):St:=
 match v with
 |(aH,aJ)=>ZaA 27 [(0,.d false (.sl aF)),(1,.d true (.int .i64 aH)),(5,.d true (.int .i64 aJ))] []
noncomputable def YO.r0 (k:Nat) (a0:LD) (a1:Int) (aF:LD) (n:Nat) (v:Int×Int):Option (Int):=(YO.p k).lp (ZI Tryz.f32) 5 [1,1,1,0,1,0] (YO.d k a0 a1) n (YO.s0 aF v)
theorem YO.l0_eq (k:Nat) (a0:LD) (a1:Int) (aF:LD):∀ n v,YO.r0 k a0 a1 aF n v=ZA (YO.l0 k aF (λz0=>some z0)) n v:=
 Zz (YO.s0 aF) _ λL0 v=>by obtain⟨aH,aJ⟩:=v;kernel_rfl
theorem YO.ok (k:Nat):Zf Tryz.prog 32 (YO.e k):=Zk (YO.p k) mix tyok Tryz.func32 (Yaw.ok k) (by kernel_rfl) (λa0 a1=>Eq.trans (b:=YO.m k a0 a1 (λz0=>some z0) (λaF=>YO.r0 k a0 a1 aF k)) (by kernel_rfl) (congrArg (YO.m k a0 a1 (λz0=>some z0)) (funext λaF=>funext λv=>YO.l0_eq k a0 a1 aF k v) :))
noncomputable def YaI.g {β:Type} (k:Nat) (aC:LD) (aB aD:Int) (aA:LD) (a1:Int) (K:Int->Option β):Option β:=
 Y6.f k aC a1 (λy107=>bif(decide ((y107:Int)<0)) then(K (-1)) else(YO.f k aA y107 (λy119=>bif(decide ((y119:Int)<0)) then(K (-1)) else(K y119))))
noncomputable def YaI.t (k:Nat) (aC:LD) (aB aD:Int) (aA:LD) (a1:Int):Option (Int):=YaI.g k aC aB aD aA a1 (λz0=>some z0)
noncomputable def YaI.f {β:Type} (k:Nat) (aC:LD) (aB aD:Int) (aA:LD) (a1:Int) (K:Int->Option β):Option β:=bd1 (YaI.t k aC aB aD aA a1) K
noncomputable def YaI.e (k:Nat):Zj:=ent [.agg [.l,.n,.n,.l],.d .n] [1] [.n] [3] false (YaI.t k)
noncomputable def YaI.p (k:Nat):Pro:=⟨Tryz.prog,[(31,Y6.e k),(32,YO.e k)],Zv [] false [],k⟩
theorem YaI.ok (k:Nat):Zf Tryz.prog 7 (YaI.e k):=Zk (YaI.p k) mix tyok Tryz.func7 ⟨Y6.ok k,YO.ok k⟩ (by kernel_rfl) (λaC aB aD aA a1=>by show _=_;kernel_rfl)
noncomputable def YG.l0 {β:Type} (k:Nat) (aF:LD) (K:LC->Option β) (L0:(Int×LC)->Option β) (v:Int×LC):Option β:=
 match v with
 |(aH,aJ)=>bif(decide ((aH:Int)<(aF.length:Int))) then(atR aF aH [.s] λx8=>(Zd ((0:Int)<=aH/\aH<(aJ.length:Int)) (Zd (Int.toNat aH<aJ.length) (L0 (IntKind.wrap .i64 (aH+1),aJ.modify (Int.toNat aH) λc=>Zs c 0 [.d (.str x8)]))))) else(K aJ)
noncomputable def YG.m {β:Type} (k:Nat) (a0:LD) (K:LC->Option β) (F:(LD->(Int×LC)->Option β)):Option β:=
 Zd ((0:Int)<=(a0.length:Int)/\(a0.length:Int)<=(Z8:Int)/\(a0.length:Int)<=(a0.length:Int)/\(a0.length:Int)<=(a0.length:Int)) (F a0 (0,List.replicate (Int.toNat (a0.length:Int)) ([.d (.str (⟨#[]⟩:BA))]:List C)))
noncomputable def YG.g {β:Type} (k:Nat) (a0:LD) (K:LC->Option β):Option β:=
 Zd ((0:Int)<=(a0.length:Int)/\(a0.length:Int)<=(Z8:Int)/\(a0.length:Int)<=(a0.length:Int)/\(a0.length:Int)<=(a0.length:Int)) (ZA (YG.l0 k a0 K) k (0,List.replicate (Int.toNat (a0.length:Int)) ([.d (.str (⟨#[]⟩:BA))]:List C)))
noncomputable def YG.t (k:Nat) (a0:LD):Option (LC):=YG.g k a0 (λz0=>some z0)
noncomputable def YG.f {β:Type} (k:Nat) (a0:LD) (K:LC->Option β):Option β:=bd1 (YG.t k a0) K
noncomputable def YG.e (k:Nat):Zj:=ent [.d .l] [1] [.o] [45] false (YG.t k)
noncomputable def YG.p (k:Nat):Pro:=⟨Tryz.prog,[],Zv [(3,kp [0,3,4])] false [],k⟩
noncomputable def YG.d (k:Nat) (a0:LD):Ex->St->Option (LC):=(YG.p k).fin Tryz.f54 [.d (.sl a0)] [1] [.o]
noncomputable def YG.s0 (aF:LD) (v:Int×LC):St:=
 match v with
 |(aH,aJ)=>ZaA 22 [(0,.d false (.sl aF)),(3,.row 0),(4,.d true (.int .i64 aH))] [.row none true 45 aJ]
noncomputable def YG.r0 (k:Nat) (a0 aF:LD) (n:Nat) (v:Int×LC):Option (LC):=(YG.p k).lp (ZI Tryz.f54) 3 [1,1,0,1,0] (YG.d k a0) n (YG.s0 aF v)
theorem YG.l0_eq (k:Nat) (a0 aF:LD):∀ n v,YG.r0 k a0 aF n v=ZA (YG.l0 k aF (λz0=>some z0)) n v:=
 Zz (YG.s0 aF) _ λL0 v=>by obtain⟨aH,aJ⟩:=v;kernel_rfl
theorem YG.ok (k:Nat):Zf Tryz.prog 54 (YG.e k):=Zk (YG.p k) mix tyok Tryz.func54 trivial (by kernel_rfl) (λa0=>Eq.trans (b:=YG.m k a0 (λz0=>some z0) (λaF=>YG.r0 k a0 aF k)) (by kernel_rfl) (congrArg (YG.m k a0 (λz0=>some z0)) (funext λaF=>funext λv=>YG.l0_eq k a0 aF k v) :))
noncomputable def Yu.l0 {β:Type} (k:Nat) (r_laws_toValueS:LD->(LC->Option β)->Option β) (r_laws_toValue:Int->BA->Int->LD->LD->(Int->BA->Int->LC->LC->Option β)->Option β) (aF:LD) (K:LC->Option β) (L0:(Int×LC)->Option β) (v:Int×LC):Option β:=
 match v with
 |(aH,aJ)=>bif(decide ((aH:Int)<(aF.length:Int))) then(atR aF aH [.n,.s,.n,.l,.l] λx25 x28 x31 x34 x37=>(r_laws_toValue x25 x28 x31 x34 x37 (λy38 y39 y40 y41 y42=>Zd ((0:Int)<=aH/\aH<(aJ.length:Int)) (Zd (Int.toNat aH<aJ.length) (L0 (IntKind.wrap .i64 (aH+1),aJ.modify (Int.toNat aH) λc=>Zs c 0 [.d (.int .i64 y38),.d (.str y39),.d (.int .i64 y40),.own y41,.own y42])))))) else(K aJ)
noncomputable def Yu.m {β:Type} (k:Nat) (r_laws_toValueS:LD->(LC->Option β)->Option β) (r_laws_toValue:Int->BA->Int->LD->LD->(Int->BA->Int->LC->LC->Option β)->Option β) (a0:LD) (K:LC->Option β) (F:(LD->(Int×LC)->Option β)):Option β:=
 Zd ((0:Int)<=(a0.length:Int)/\(a0.length:Int)<=(Z8:Int)/\(a0.length:Int)<=(a0.length:Int)/\(a0.length:Int)<=(a0.length:Int)) (F a0 (0,List.replicate (Int.toNat (a0.length:Int)) ([.d (.int .i64 0),.d (.str (⟨#[]⟩:BA)),.d (.int .i64 0),.own ([]:LC),.own ([]:LC)]:List C)))
noncomputable def Yu.body {β:Type} (k:Nat) (r_laws_toValueS:LD->(LC->Option β)->Option β) (r_laws_toValue:Int->BA->Int->LD->LD->(Int->BA->Int->LC->LC->Option β)->Option β) (a0:LD) (K:LC->Option β):Option β:=Yu.m k r_laws_toValueS r_laws_toValue a0 K (λaF=>ZA (Yu.l0 k r_laws_toValueS r_laws_toValue aF K) k)
noncomputable def YE.body {β:Type} (k:Nat) (r_laws_toValueS:LD->(LC->Option β)->Option β) (r_laws_toValue:Int->BA->Int->LD->LD->(Int->BA->Int->LC->LC->Option β)->Option β) (aC:Int) (aB:BA) (aD:Int) (aA aI:LD) (K:Int->BA->Int->LC->LC->Option β):Option β:=
 YG.f k aA (λy1=>r_laws_toValueS aI (λy43=>K aC aB aD y1 y43))
noncomputable def Yu.w {β:Type} (r:LD->Option (LC)) (a0:LD) (K:LC->Option β):Option β:=bd1 (r a0) K
noncomputable def YE.w {β:Type} (r:Int->BA->Int->LD->LD->Option (Int×BA×Int×LC×LC)) (aC:Int) (aB:BA) (aD:Int) (aA aI:LD) (K:Int->BA->Int->LC->LC->Option β):Option β:=bd5 (r aC aB aD aA aI) K
noncomputable def Yu.all:Nat->(LD->Option (LC))×(Int->BA->Int->LD->LD->Option (Int×BA×Int×LC×LC))
 |0=>(λ_=>none,λ_ _ _ _ _=>none)
 |k+1=>(λr=>(λa0=>Yu.body k (Yu.w r.1) (YE.w r.2) a0 (λz0=>some z0),λaC aB aD aA aI=>YE.body k (Yu.w r.1) (YE.w r.2) aC aB aD aA aI (λz0 z1 z2 z3 z4=>some (z0,z1,z2,z3,z4)))) (Yu.all k)
noncomputable def Yu.t (k:Nat) (a0:LD):Option (LC):=(Yu.all k).1 a0
noncomputable def YE.t (k:Nat) (aC:Int) (aB:BA) (aD:Int) (aA aI:LD):Option (Int×BA×Int×LC×LC):=(Yu.all k).2 aC aB aD aA aI
noncomputable def Yu.f {β:Type} (k:Nat) (a0:LD) (K:LC->Option β):Option β:=Yu.w (Yu.t k) a0 K
noncomputable def YE.f {β:Type} (k:Nat) (aC:Int) (aB:BA) (aD:Int) (aA aI:LD) (K:Int->BA->Int->LC->LC->Option β):Option β:=YE.w (YE.t k) aC aB aD aA aI K
noncomputable def Yu.g {β:Type} (k:Nat) (a0:LD) (K:LC->Option β):Option β:=Yu.body k (Yu.f k) (YE.f k) a0 K
theorem Yu.t_succ (k:Nat) (a0:LD):Yu.t (k+1) a0=Yu.g k a0 (λz0=>some z0):=rfl
noncomputable def YE.g {β:Type} (k:Nat) (aC:Int) (aB:BA) (aD:Int) (aA aI:LD) (K:Int->BA->Int->LC->LC->Option β):Option β:=YE.body k (Yu.f k) (YE.f k) aC aB aD aA aI K
theorem YE.t_succ (k:Nat) (aC:Int) (aB:BA) (aD:Int) (aA aI:LD):YE.t (k+1) aC aB aD aA aI=YE.g k aC aB aD aA aI (λz0 z1 z2 z3 z4=>some (z0,z1,z2,z3,z4)):=rfl
noncomputable def Yu.e (k:Nat):Zj:=ent [.d .l] [1] [.o] [52] false (Yu.t k)
noncomputable def YE.e (k:Nat):Zj:=ent [.agg [.n,.s,.n,.l,.l]] [5] [.n,.s,.n,.o,.o] [54] false (YE.t k)
noncomputable def Yu.p (k:Nat):Pro:=⟨Tryz.prog,[(19,YE.e k)],Zv [(3,kp [0,3,4])] false [],k⟩
noncomputable def Yu.d (k:Nat) (a0:LD):Ex->St->Option (LC):=(Yu.p k).fin Tryz.f55 [.d (.sl a0)] [1] [.o]
noncomputable def Yu.s0 (aF:LD) (v:Int×LC):St:=
 match v with
 |(aH,aJ)=>ZaA 23 [(0,.d false (.sl aF)),(3,.row 0),(4,.d true (.int .i64 aH))] [.row none true 52 aJ]
noncomputable def Yu.r0 (k:Nat) (a0 aF:LD) (n:Nat) (v:Int×LC):Option (LC):=(Yu.p k).lp (ZI Tryz.f55) 3 [1,1,0,1,0] (Yu.d k a0) n (Yu.s0 aF v)
theorem Yu.l0_eq (k:Nat) (a0 aF:LD):∀ n v,Yu.r0 k a0 aF n v=ZA (Yu.l0 k (Yu.f k) (YE.f k) aF (λz0=>some z0)) n v:=
 Zz (Yu.s0 aF) _ λL0 v=>by obtain⟨aH,aJ⟩:=v;kernel_rfl
noncomputable def YE.p (k:Nat):Pro:=⟨Tryz.prog,[(54,YG.e k),(55,Yu.e k)],Zv [] false [],k⟩
theorem Yu.oks (k:Nat):Zf Tryz.prog 55 (Yu.e k)/\Zf Tryz.prog 19 (YE.e k):=by
 induction k with
 |zero=>exact⟨Zba Tryz.func55 (by kernel_rfl) (λ_=>rfl),
  Zba Tryz.func19 (by kernel_rfl) (λ_ _ _ _ _=>rfl)⟩
 |succ k ih=>exact⟨Zk (Yu.p k) mix tyok Tryz.func55 ih.2 (by kernel_rfl) (λa0=>Eq.trans (b:=Yu.m k (Yu.f k) (YE.f k) a0 (λz0=>some z0) (λaF=>Yu.r0 k a0 aF k)) (by kernel_rfl) ((congrArg (Yu.m k (Yu.f k) (YE.f k) a0 (λz0=>some z0)) (funext λaF=>funext λv=>Yu.l0_eq k a0 aF k v)).trans (Yu.t_succ k a0).symm)),
  Zk (YE.p k) mix tyok Tryz.func19 ⟨YG.ok k,ih.1⟩ (by kernel_rfl) (λaC aB aD aA aI=>by show _=_;kernel_rfl)⟩
theorem YE.ok (k:Nat):Zf Tryz.prog 19 (YE.e k):=(Yu.oks k).2
noncomputable def Yav.g {β:Type} (k:Nat) (aC:Int) (aB:BA) (aD aA aI:Int) (bE:Bool) (aW:LD) (bB:Int) (aR:BA) (bC:Int) (aT aY:LD) (bA:Int) (aU:BA) (bD:Int) (aV aZ:LD) (K:Int->BA->Int->Int->Int->Bool->LC->Int->BA->Int->LC->LC->Int->BA->Int->LC->LC->Option β):Option β:=
 YG.f k aW (λy9=>YE.f k bB aR bC aT aY (λy44 y45 y46 y47 y48=>YE.f k bA aU bD aV aZ (λy49 y50 y51 y52 y53=>K aC aB aD aA aI bE y9 y44 y45 y46 y47 y48 y49 y50 y51 y52 y53)))
noncomputable def Yav.t (k:Nat) (aC:Int) (aB:BA) (aD aA aI:Int) (bE:Bool) (aW:LD) (bB:Int) (aR:BA) (bC:Int) (aT aY:LD) (bA:Int) (aU:BA) (bD:Int) (aV aZ:LD):Option (Int×BA×Int×Int×Int×Bool×LC×Int×BA×Int×LC×LC×Int×BA×Int×LC×LC):=Yav.g k aC aB aD aA aI bE aW bB aR bC aT aY bA aU bD aV aZ (λz0 z1 z2 z3 z4 z5 z6 z7 z8 z9 z10 z11 z12 z13 z14 z15 z16=>some (z0,z1,z2,z3,z4,z5,z6,z7,z8,z9,z10,z11,z12,z13,z14,z15,z16))
noncomputable def Yav.f {β:Type} (k:Nat) (aC:Int) (aB:BA) (aD aA aI:Int) (bE:Bool) (aW:LD) (bB:Int) (aR:BA) (bC:Int) (aT aY:LD) (bA:Int) (aU:BA) (bD:Int) (aV aZ:LD) (K:Int->BA->Int->Int->Int->Bool->LC->Int->BA->Int->LC->LC->Int->BA->Int->LC->LC->Option β):Option β:=match Yav.t k aC aB aD aA aI bE aW bB aR bC aT aY bA aU bD aV aZ with|some (z0,z1,z2,z3,z4,z5,z6,z7,z8,z9,z10,z11,z12,z13,z14,z15,z16)=>K z0 z1 z2 z3 z4 z5 z6 z7 z8 z9 z10 z11 z12 z13 z14 z15 z16|none=>none
noncomputable def Yav.e (k:Nat):Zj:=ent [.agg [.n,.s,.n,.n,.n,.b,.l,.n,.s,.n,.l,.l,.n,.s,.n,.l,.l]] [17] [.n,.s,.n,.n,.n,.b,.o,.n,.s,.n,.o,.o,.n,.s,.n,.o,.o] [98] false (Yav.t k)
noncomputable def Yav.p (k:Nat):Pro:=⟨Tryz.prog,[(54,YG.e k),(19,YE.e k)],Zv [] false [],k⟩
theorem Yav.ok (k:Nat):Zf Tryz.prog 93 (Yav.e k):=Zk (Yav.p k) mix tyok Tryz.func93 ⟨YG.ok k,YE.ok k⟩ (by kernel_rfl) (λaC aB aD aA aI bE aW bB aR bC aT aY bA aU bD aV aZ=>by show _=_;kernel_rfl)
noncomputable def Y3.l0 {β:Type} (k:Nat) (aF:LD) (K:LC->Option β) (L0:(Int×LC)->Option β) (v:Int×LC):Option β:=
 match v with
 |(aH,aJ)=>bif(decide ((aH:Int)<(aF.length:Int))) then(atR aF aH [.n,.s,.n,.n,.n,.b,.l,.n,.s,.n,.l,.l,.n,.s,.n,.l,.l] λx74 x77 x80 x83 x86 x89 x92 x95 x98 x101 x104 x107 x110 x113 x116 x119 x122=>(Yav.f k x74 x77 x80 x83 x86 x89 x92 x95 x98 x101 x104 x107 x110 x113 x116 x119 x122 (λy123 y124 y125 y126 y127 y128 y129 y130 y131 y132 y133 y134 y135 y136 y137 y138 y139=>Zd ((0:Int)<=aH/\aH<(aJ.length:Int)) (Zd (Int.toNat aH<aJ.length) (L0 (IntKind.wrap .i64 (aH+1),aJ.modify (Int.toNat aH) λc=>Zs c 0 [.d (.int .i64 y123),.d (.str y124),.d (.int .i64 y125),.d (.int .i64 y126),.d (.int .i64 y127),.d (.bool y128),.own y129,.d (.int .i64 y130),.d (.str y131),.d (.int .i64 y132),.own y133,.own y134,.d (.int .i64 y135),.d (.str y136),.d (.int .i64 y137),.own y138,.own y139])))))) else(K aJ)
noncomputable def Y3.m {β:Type} (k:Nat) (a0:LD) (K:LC->Option β) (F:(LD->(Int×LC)->Option β)):Option β:=
 Zd ((0:Int)<=(a0.length:Int)/\(a0.length:Int)<=(Z8:Int)/\(a0.length:Int)<=(a0.length:Int)/\(a0.length:Int)<=(a0.length:Int)) (F a0 (0,List.replicate (Int.toNat (a0.length:Int)) ([.d (.int .i64 0),.d (.str (⟨#[]⟩:BA)),.d (.int .i64 0),.d (.int .i64 0),.d (.int .i64 0),.d (.bool false),.own ([]:LC),.d (.int .i64 0),.d (.str (⟨#[]⟩:BA)),.d (.int .i64 0),.own ([]:LC),.own ([]:LC),.d (.int .i64 0),.d (.str (⟨#[]⟩:BA)),.d (.int .i64 0),.own ([]:LC),.own ([]:LC)]:List C)))
noncomputable def Y3.g {β:Type} (k:Nat) (a0:LD) (K:LC->Option β):Option β:=Y3.m k a0 K (λaF=>ZA (Y3.l0 k aF K) k)
noncomputable def Y3.t (k:Nat) (a0:LD):Option (LC):=Y3.g k a0 (λz0=>some z0)
noncomputable def Y3.f {β:Type} (k:Nat) (a0:LD) (K:LC->Option β):Option β:=bd1 (Y3.t k a0) K
noncomputable def Y3.e (k:Nat):Zj:=ent [.d .l] [1] [.o] [30] false (Y3.t k)
noncomputable def Y3.p (k:Nat):Pro:=⟨Tryz.prog,[(93,Yav.e k)],Zv [(3,kp [0,3,4])] false [],k⟩
noncomputable def Y3.d (k:Nat) (a0:LD):Ex->St->Option (LC):=(Y3.p k).fin Tryz.f36 [.d (.sl a0)] [1] [.o]
noncomputable def Y3.s0 (aF:LD) (v:Int×LC):St:=
 match v with
 |(aH,aJ)=>ZaA 23 [(0,.d false (.sl aF)),(3,.row 0),(4,.d true (.int .i64 aH))] [.row none true 30 aJ]
noncomputable def Y3.r0 (k:Nat) (a0 aF:LD) (n:Nat) (v:Int×LC):Option (LC):=(Y3.p k).lp (ZI Tryz.f36) 3 [1,1,0,1,0] (Y3.d k a0) n (Y3.s0 aF v)
theorem Y3.l0_eq (k:Nat) (a0 aF:LD):∀ n v,Y3.r0 k a0 aF n v=ZA (Y3.l0 k aF (λz0=>some z0)) n v:=
 Zz (Y3.s0 aF) _ λL0 v=>by obtain⟨aH,aJ⟩:=v;kernel_rfl
theorem Y3.ok (k:Nat):Zf Tryz.prog 36 (Y3.e k):=Zk (Y3.p k) mix tyok Tryz.func36 (Yav.ok k) (by kernel_rfl) (λa0=>Eq.trans (b:=Y3.m k a0 (λz0=>some z0) (λaF=>Y3.r0 k a0 aF k)) (by kernel_rfl) (congrArg (Y3.m k a0 (λz0=>some z0)) (funext λaF=>funext λv=>Y3.l0_eq k a0 aF k v) :))
noncomputable def Yal.g {β:Type} (k:Nat) (aC:Int) (aB:Bool) (aD:Int) (aA:BA) (aI bE aW:Int) (bB:Bool) (aR:LD) (bC:Int) (aT:BA) (aY:Int) (bA aU:LD) (bD:Int) (aV:BA) (aZ:Int) (cN cO:LD) (K:Int->Bool->Int->BA->Int->Int->Int->Bool->LC->Int->BA->Int->LC->LC->Int->BA->Int->LC->LC->Option β):Option β:=
 Yav.f k aD aA aI bE aW bB aR bC aT aY bA aU bD aV aZ cN cO (λy1 y2 y3 y4 y5 y6 y7 y8 y9 y10 y11 y12 y13 y14 y15 y16 y17=>K aC aB y1 y2 y3 y4 y5 y6 y7 y8 y9 y10 y11 y12 y13 y14 y15 y16 y17)
noncomputable def Yal.t (k:Nat) (aC:Int) (aB:Bool) (aD:Int) (aA:BA) (aI bE aW:Int) (bB:Bool) (aR:LD) (bC:Int) (aT:BA) (aY:Int) (bA aU:LD) (bD:Int) (aV:BA) (aZ:Int) (cN cO:LD):Option (Int×Bool×Int×BA×Int×Int×Int×Bool×LC×Int×BA×Int×LC×LC×Int×BA×Int×LC×LC):=Yal.g k aC aB aD aA aI bE aW bB aR bC aT aY bA aU bD aV aZ cN cO (λz0 z1 z2 z3 z4 z5 z6 z7 z8 z9 z10 z11 z12 z13 z14 z15 z16 z17 z18=>some (z0,z1,z2,z3,z4,z5,z6,z7,z8,z9,z10,z11,z12,z13,z14,z15,z16,z17,z18))
noncomputable def Yal.f {β:Type} (k:Nat) (aC:Int) (aB:Bool) (aD:Int) (aA:BA) (aI bE aW:Int) (bB:Bool) (aR:LD) (bC:Int) (aT:BA) (aY:Int) (bA aU:LD) (bD:Int) (aV:BA) (aZ:Int) (cN cO:LD) (K:Int->Bool->Int->BA->Int->Int->Int->Bool->LC->Int->BA->Int->LC->LC->Int->BA->Int->LC->LC->Option β):Option β:=match Yal.t k aC aB aD aA aI bE aW bB aR bC aT aY bA aU bD aV aZ cN cO with|some (z0,z1,z2,z3,z4,z5,z6,z7,z8,z9,z10,z11,z12,z13,z14,z15,z16,z17,z18)=>K z0 z1 z2 z3 z4 z5 z6 z7 z8 z9 z10 z11 z12 z13 z14 z15 z16 z17 z18|none=>none
noncomputable def Yal.e (k:Nat):Zj:=ent [.agg [.n,.b,.n,.s,.n,.n,.n,.b,.l,.n,.s,.n,.l,.l,.n,.s,.n,.l,.l]] [19] [.n,.b,.n,.s,.n,.n,.n,.b,.o,.n,.s,.n,.o,.o,.n,.s,.n,.o,.o] [134] false (Yal.t k)
noncomputable def Yal.p (k:Nat):Pro:=⟨Tryz.prog,[(93,Yav.e k)],Zv [] false [],k⟩
theorem Yal.ok (k:Nat):Zf Tryz.prog 94 (Yal.e k):=Zk (Yal.p k) mix tyok Tryz.func94 (Yav.ok k) (by kernel_rfl) (λaC aB aD aA aI bE aW bB aR bC aT aY bA aU bD aV aZ cN cO=>by show _=_;kernel_rfl)
noncomputable def YK.l0 {β:Type} (k:Nat) (aF:LD) (K:LC->Option β) (L0:(Int×LC)->Option β) (v:Int×LC):Option β:=
 match v with
 |(aH,aJ)=>bif(decide ((aH:Int)<(aF.length:Int))) then(atR aF aH [.n,.b,.n,.s,.n,.n,.n,.b,.l,.n,.s,.n,.l,.l,.n,.s,.n,.l,.l] λx81 x84 x87 x90 x93 x96 x99 x102 x105 x108 x111 x114 x117 x120 x123 x126 x129 x132 x135=>(Yal.f k x81 x84 x87 x90 x93 x96 x99 x102 x105 x108 x111 x114 x117 x120 x123 x126 x129 x132 x135 (λy136 y137 y138 y139 y140 y141 y142 y143 y144 y145 y146 y147 y148 y149 y150 y151 y152 y153 y154=>Zd ((0:Int)<=aH/\aH<(aJ.length:Int)) (Zd (Int.toNat aH<aJ.length) (L0 (IntKind.wrap .i64 (aH+1),aJ.modify (Int.toNat aH) λc=>Zs c 0 [.d (.int .i64 y136),.d (.bool y137),.d (.int .i64 y138),.d (.str y139),.d (.int .i64 y140),.d (.int .i64 y141),.d (.int .i64 y142),.d (.bool y143),.own y144,.d (.int .i64 y145),.d (.str y146),.d (.int .i64 y147),.own y148,.own y149,.d (.int .i64 y150),.d (.str y151),.d (.int .i64 y152),.own y153,.own y154])))))) else(K aJ)
noncomputable def YK.m {β:Type} (k:Nat) (a0:LD) (K:LC->Option β) (F:(LD->(Int×LC)->Option β)):Option β:=
 Zd ((0:Int)<=(a0.length:Int)/\(a0.length:Int)<=(Z8:Int)/\(a0.length:Int)<=(a0.length:Int)/\(a0.length:Int)<=(a0.length:Int)) (F a0 (0,List.replicate (Int.toNat (a0.length:Int)) ([.d (.int .i64 0),.d (.bool false),.d (.int .i64 0),.d (.str (⟨#[]⟩:BA)),.d (.int .i64 0),.d (.int .i64 0),.d (.int .i64 0),.d (.bool false),.own ([]:LC),.d (.int .i64 0),.d (.str (⟨#[]⟩:BA)),.d (.int .i64 0),.own ([]:LC),.own ([]:LC),.d (.int .i64 0),.d (.str (⟨#[]⟩:BA)),.d (.int .i64 0),.own ([]:LC),.own ([]:LC)]:List C)))
noncomputable def YK.g {β:Type} (k:Nat) (a0:LD) (K:LC->Option β):Option β:=YK.m k a0 K (λaF=>ZA (YK.l0 k aF K) k)
noncomputable def YK.t (k:Nat) (a0:LD):Option (LC):=YK.g k a0 (λz0=>some z0)
noncomputable def YK.f {β:Type} (k:Nat) (a0:LD) (K:LC->Option β):Option β:=bd1 (YK.t k a0) K
noncomputable def YK.e (k:Nat):Zj:=ent [.d .l] [1] [.o] [36] false (YK.t k)
noncomputable def YK.p (k:Nat):Pro:=⟨Tryz.prog,[(94,Yal.e k)],Zv [(3,kp [0,3,4])] false [],k⟩
noncomputable def YK.d (k:Nat) (a0:LD):Ex->St->Option (LC):=(YK.p k).fin Tryz.f37 [.d (.sl a0)] [1] [.o]
noncomputable def YK.s0 (aF:LD) (v:Int×LC):St:=
 match v with
 |(aH,aJ)=>ZaA 23 [(0,.d false (.sl aF)),(3,.row 0),(4,.d true (.int .i64 aH))] [.row none true 36 aJ]
noncomputable def YK.r0 (k:Nat) (a0 aF:LD) (n:Nat) (v:Int×LC):Option (LC):=(YK.p k).lp (ZI Tryz.f37) 3 [1,1,0,1,0] (YK.d k a0) n (YK.s0 aF v)
theorem YK.l0_eq (k:Nat) (a0 aF:LD):∀ n v,YK.r0 k a0 aF n v=ZA (YK.l0 k aF (λz0=>some z0)) n v:=
 Zz (YK.s0 aF) _ λL0 v=>by obtain⟨aH,aJ⟩:=v;kernel_rfl
theorem YK.ok (k:Nat):Zf Tryz.prog 37 (YK.e k):=Zk (YK.p k) mix tyok Tryz.func37 (Yal.ok k) (by kernel_rfl) (λa0=>Eq.trans (b:=YK.m k a0 (λz0=>some z0) (λaF=>YK.r0 k a0 aF k)) (by kernel_rfl) (congrArg (YK.m k a0 (λz0=>some z0)) (funext λaF=>funext λv=>YK.l0_eq k a0 aF k v) :))
noncomputable def Yao.g {β:Type} (k:Nat) (aC:LD) (aB aD:Int) (aA:LD) (K:LC->Int->Int->LC->Option β):Option β:=
 Y3.f k aC (λy140=>YK.f k aA (λy155=>K y140 aB aD y155))
noncomputable def Yao.t (k:Nat) (aC:LD) (aB aD:Int) (aA:LD):Option (LC×Int×Int×LC):=Yao.g k aC aB aD aA (λz0 z1 z2 z3=>some (z0,z1,z2,z3))
noncomputable def Yao.f {β:Type} (k:Nat) (aC:LD) (aB aD:Int) (aA:LD) (K:LC->Int->Int->LC->Option β):Option β:=bd4 (Yao.t k aC aB aD aA) K
noncomputable def Yao.e (k:Nat):Zj:=ent [.agg [.l,.n,.n,.l]] [4] [.o,.n,.n,.o] [38] false (Yao.t k)
noncomputable def Yao.p (k:Nat):Pro:=⟨Tryz.prog,[(36,Y3.e k),(37,YK.e k)],Zv [] false [],k⟩
theorem Yao.ok (k:Nat):Zf Tryz.prog 10 (Yao.e k):=Zk (Yao.p k) mix tyok Tryz.func10 ⟨Y3.ok k,YK.ok k⟩ (by kernel_rfl) (λaC aB aD aA=>by show _=_;kernel_rfl)
noncomputable def YT.g {β:Type} (k:Nat) (a0 a1 a2:Int) (K:Bool->Option β):Option β:=
 bif(decide ((a0:Int)>=a1)) then(K (decide ((a0:Int)<=a2))) else(K false)
noncomputable def YT.t (k:Nat) (a0 a1 a2:Int):Option (Bool):=YT.g k a0 a1 a2 (λz0=>some z0)
noncomputable def YT.f {β:Type} (k:Nat) (a0 a1 a2:Int) (K:Bool->Option β):Option β:=bd1 (YT.t k a0 a1 a2) K
noncomputable def YT.e (k:Nat):Zj:=ent [.d .n,.d .n,.d .n] [1] [.b] [4] false (YT.t k)
noncomputable def YT.p (k:Nat):Pro:=⟨Tryz.prog,[],Zv [] false [],k⟩
theorem YT.ok (k:Nat):Zf Tryz.prog 86 (YT.e k):=Zk (YT.p k) mix tyok Tryz.func86 trivial (by kernel_rfl) (λa0 a1 a2=>by show _=_;kernel_rfl)
noncomputable def Yaa.l0 {β:Type} (k:Nat) (aF:BA) (K:Bool->Option β) (L0:Int->Option β) (v:Int):Option β:=
 match v with
 |aH=>bif(decide ((aH:Int)<(aF.size:Int))) then(atStr aF aH λb3=>YT.f k (IntKind.wrap .i64 b3) 32 126 (λy4=>bif(!y4) then(K false) else(L0 (IntKind.wrap .i64 (aH+1))))) else(K (decide (((aF.size:Int):Int)<=100)))
noncomputable def Yaa.m {β:Type} (k:Nat) (a0:BA) (K:Bool->Option β) (F:(BA->Int->Option β)):Option β:=
 F a0 (0)
noncomputable def Yaa.g {β:Type} (k:Nat) (a0:BA) (K:Bool->Option β):Option β:=
 ZA (Yaa.l0 k a0 K) k (0)
noncomputable def Yaa.t (k:Nat) (a0:BA):Option (Bool):=Yaa.g k a0 (λz0=>some z0)
noncomputable def Yaa.f {β:Type} (k:Nat) (a0:BA) (K:Bool->Option β):Option β:=bd1 (Yaa.t k a0) K
noncomputable def Yaa.e (k:Nat):Zj:=ent [.d .s] [1] [.b] [4] false (Yaa.t k)
noncomputable def Yaa.p (k:Nat):Pro:=⟨Tryz.prog,[(86,YT.e k)],Zv [(2,kp [0,3])] false [],k⟩
noncomputable def Yaa.d (k:Nat) (a0:BA):Ex->St->Option (Bool):=(Yaa.p k).fin Tryz.f146 [.d (.str a0)] [1] [.b]
noncomputable def Yaa.s0 (aF:BA) (v:Int):St:=
 match v with
 |aH=>ZaA 19 [(0,.d false (.str aF)),(3,.d true (.int .i64 aH))] []
noncomputable def Yaa.r0 (k:Nat) (a0 aF:BA) (n:Nat) (v:Int):Option (Bool):=(Yaa.p k).lp (ZI Tryz.f146) 2 [1,0,1,0] (Yaa.d k a0) n (Yaa.s0 aF v)
theorem Yaa.l0_eq (k:Nat) (a0 aF:BA):∀ n v,Yaa.r0 k a0 aF n v=ZA (Yaa.l0 k aF (λz0=>some z0)) n v:=
 Zz (Yaa.s0 aF) _ λL0 v=>by kernel_rfl
theorem Yaa.ok (k:Nat):Zf Tryz.prog 146 (Yaa.e k):=Zk (Yaa.p k) mix tyok Tryz.func146 (YT.ok k) (by kernel_rfl) (λa0=>Eq.trans (b:=Yaa.m k a0 (λz0=>some z0) (λaF=>Yaa.r0 k a0 aF k)) (by kernel_rfl) (congrArg (Yaa.m k a0 (λz0=>some z0)) (funext λaF=>funext λv=>Yaa.l0_eq k a0 aF k v) :))
noncomputable def Yp.l0 {β:Type} (k:Nat) (aF:BA) (K:Bool->Option β) (L0:Int->Option β) (v:Int):Option β:=
 match v with
 |aH=>bif(decide ((aH:Int)<(aF.size:Int))) then(atStr aF aH λb9=>YT.f k (IntKind.wrap .i64 b9) 97 122 (λy10=>bif(!y10) then(atStr aF aH λb11=>YT.f k (IntKind.wrap .i64 b11) 48 57 (λy12=>bif(!y12) then(atStr aF aH λb13=>bif((b13:Int)!=45) then(K false) else(L0 (IntKind.wrap .i64 (aH+1)))) else(L0 (IntKind.wrap .i64 (aH+1))))) else(L0 (IntKind.wrap .i64 (aH+1))))) else(YT.f k (aF.size:Int) 1 20 (λy14=>bif y14 then(atStr aF 0 λb15=>bif((b15:Int)!=45) then(atStr aF (IntKind.wrap .i64 ((aF.size:Int)-1)) λb16=>K ((b16:Int)!=45)) else(K false)) else(K false)))
noncomputable def Yp.m {β:Type} (k:Nat) (a0:BA) (K:Bool->Option β) (F:(BA->Int->Option β)):Option β:=
 F a0 (0)
noncomputable def Yp.g {β:Type} (k:Nat) (a0:BA) (K:Bool->Option β):Option β:=
 ZA (Yp.l0 k a0 K) k (0)
noncomputable def Yp.t (k:Nat) (a0:BA):Option (Bool):=Yp.g k a0 (λz0=>some z0)
noncomputable def Yp.f {β:Type} (k:Nat) (a0:BA) (K:Bool->Option β):Option β:=bd1 (Yp.t k a0) K
noncomputable def Yp.e (k:Nat):Zj:=ent [.d .s] [1] [.b] [4] false (Yp.t k)
noncomputable def Yp.p (k:Nat):Pro:=⟨Tryz.prog,[(86,YT.e k)],Zv [(2,kp [0,3])] false [],k⟩
noncomputable def Yp.d (k:Nat) (a0:BA):Ex->St->Option (Bool):=(Yp.p k).fin Tryz.f107 [.d (.str a0)] [1] [.b]
noncomputable def Yp.s0 (aF:BA) (v:Int):St:=
 match v with
 |aH=>ZaA 46 [(0,.d false (.str aF)),(3,.d true (.int .i64 aH))] []
noncomputable def Yp.r0 (k:Nat) (a0 aF:BA) (n:Nat) (v:Int):Option (Bool):=(Yp.p k).lp (ZI Tryz.f107) 2 [1,0,1,0] (Yp.d k a0) n (Yp.s0 aF v)
theorem Yp.l0_eq (k:Nat) (a0 aF:BA):∀ n v,Yp.r0 k a0 aF n v=ZA (Yp.l0 k aF (λz0=>some z0)) n v:=
 Zz (Yp.s0 aF) _ λL0 v=>by kernel_rfl
theorem Yp.ok (k:Nat):Zf Tryz.prog 107 (Yp.e k):=Zk (Yp.p k) mix tyok Tryz.func107 (YT.ok k) (by kernel_rfl) (λa0=>Eq.trans (b:=Yp.m k a0 (λz0=>some z0) (λaF=>Yp.r0 k a0 aF k)) (by kernel_rfl) (congrArg (Yp.m k a0 (λz0=>some z0)) (funext λaF=>funext λv=>Yp.l0_eq k a0 aF k v) :))
noncomputable def Y8.l0 {β:Type} (k:Nat) (aH:Int) (aJ:BA) (aK:Int) (aL aX:LD) (K:Bool->Option β) (L0:Int->Option β) (v:Int):Option β:=
 match v with
 |aF=>bif(decide ((aF:Int)<(aL.length:Int))) then(atR aL aF [.s] λx29=>(Yp.f k x29 (λy30=>bif(!y30) then(K false) else(bif(decide ((aF:Int)>0)) then(atR aL (IntKind.wrap .i64 (aF-1)) [.s] λx34=>(atR aL aF [.s] λx38=>(bif(!(strLt x34 x38)) then(K false) else(L0 (IntKind.wrap .i64 (aF+1)))))) else(L0 (IntKind.wrap .i64 (aF+1))))))) else(K (((aL.length:Int):Int)==(aX.length:Int)))
noncomputable def Y8.m {β:Type} (k:Nat) (aC:Int) (aB:BA) (aD:Int) (aA aI:LD) (K:Bool->Option β) (F:(Int->BA->Int->LD->LD->Int->Option β)):Option β:=
 F aC aB aD aA aI (0)
noncomputable def Y8.g {β:Type} (k:Nat) (aC:Int) (aB:BA) (aD:Int) (aA aI:LD) (K:Bool->Option β):Option β:=
 ZA (Y8.l0 k aC aB aD aA aI K) k (0)
noncomputable def Y8.t (k:Nat) (aC:Int) (aB:BA) (aD:Int) (aA aI:LD):Option (Bool):=Y8.g k aC aB aD aA aI (λz0=>some z0)
noncomputable def Y8.f {β:Type} (k:Nat) (aC:Int) (aB:BA) (aD:Int) (aA aI:LD) (K:Bool->Option β):Option β:=bd1 (Y8.t k aC aB aD aA aI) K
noncomputable def Y8.e (k:Nat):Zj:=ent [.agg [.n,.s,.n,.l,.l]] [1] [.b] [4] false (Y8.t k)
noncomputable def Y8.p (k:Nat):Pro:=⟨Tryz.prog,[(107,Yp.e k)],Zv [(2,kp [1,3])] false [],k⟩
noncomputable def Y8.d (k:Nat) (aC:Int) (aB:BA) (aD:Int) (aA aI:LD):Ex->St->Option (Bool):=(Y8.p k).fin Tryz.f147 [.agg [.int .i64 aC,.str aB,.int .i64 aD,.sl aA,.sl aI]] [1] [.b]
noncomputable def Y8.s0 (aH:Int) (aJ:BA) (aK:Int) (aL aX:LD) (v:Int):St:=
 match v with
 |aF=>ZaA 43 [(1,.bp 0 0),(3,.d true (.int .i64 aF))] [.box none 54 [.d false (.int .i64 aH),.d false (.str aJ),.d false (.int .i64 aK),.d false (.sl aL),.d false (.sl aX)]]
noncomputable def Y8.r0 (k:Nat) (aC:Int) (aB:BA) (aD:Int) (aA aI:LD) (aH:Int) (aJ:BA) (aK:Int) (aL aX:LD) (n:Nat) (v:Int):Option (Bool):=(Y8.p k).lp (ZI Tryz.f147) 2 [1,0,1,0] (Y8.d k aC aB aD aA aI) n (Y8.s0 aH aJ aK aL aX v)
theorem Y8.l0_eq (k:Nat) (aC:Int) (aB:BA) (aD:Int) (aA aI:LD) (aH:Int) (aJ:BA) (aK:Int) (aL aX:LD):∀ n v,Y8.r0 k aC aB aD aA aI aH aJ aK aL aX n v=ZA (Y8.l0 k aH aJ aK aL aX (λz0=>some z0)) n v:=
 Zz (Y8.s0 aH aJ aK aL aX) _ λL0 v=>by kernel_rfl
theorem Y8.ok (k:Nat):Zf Tryz.prog 147 (Y8.e k):=Zk (Y8.p k) mix tyok Tryz.func147 (Yp.ok k) (by kernel_rfl) (λaC aB aD aA aI=>Eq.trans (b:=Y8.m k aC aB aD aA aI (λz0=>some z0) (λaH aJ aK aL aX=>Y8.r0 k aC aB aD aA aI aH aJ aK aL aX k)) (by kernel_rfl) (congrArg (Y8.m k aC aB aD aA aI (λz0=>some z0)) (funext λaH=>funext λaJ=>funext λaK=>funext λaL=>funext λaX=>funext λv=>Y8.l0_eq k aC aB aD aA aI aH aJ aK aL aX k v) :))
noncomputable def YA.l0 {β:Type} (k:Nat) (r_spec_l4Look:Int->BA->Int->LD->LD->Int->(Int->Option β)->Option β) (aF aK:Int) (aL:BA) (aX:Int) (bF bG:LD) (K:Int->Option β) (L0:(Int×Int)->Option β) (v:Int×Int):Option β:=
 match v with
 |(aH,aJ)=>bif(decide ((aJ:Int)<(bG.length:Int))) then(atR bG aJ [.n,.s,.n,.l,.l] λx44 x47 x50 x53 x56=>(r_spec_l4Look x44 x47 x50 x53 x56 (IntKind.wrap .i64 (aF-1)) (λy57=>bif((y57:Int)==0) then(K 0) else(bif(decide (((IntKind.wrap .i64 (aH+y57)):Int)>300)) then(K 0) else(L0 (IntKind.wrap .i64 (aH+y57),IntKind.wrap .i64 (aJ+1))))))) else(let J1:=(bif(Zae aL (⟨#[]⟩:BA)) then(bif(!((aX:Int)==0)) then(K 0) else(K aH)) else(K 0));let J0:=(bif(((bF.length:Int):Int)==0) then J1 else(K 0));bif(((bF.length:Int):Int)==0) then(bif((aK:Int)==1) then(bif(((bG.length:Int):Int)==0) then(bif((aX:Int)==0) then(Yaa.f k aL (λy58=>bif(!y58) then(K 0) else(K aH))) else(K 0)) else(K 0)) else(bif((aK:Int)==2) then(bif(((bG.length:Int):Int)==0) then(bif(!(Zae aL (⟨#[]⟩:BA))) then(K 0) else(K aH)) else(K 0)) else(bif((aK:Int)==3) then(bif(((bG.length:Int):Int)==0) then(bif(Zae aL (⟨#[]⟩:BA)) then(YT.f k aX 0 1 (λy59=>bif(!y59) then(K 0) else(K aH))) else(K 0)) else(K 0)) else(bif((aK:Int)==4) then J0 else(bif((aK:Int)==5) then(Y8.f k aK aL aX bF bG (λy60=>bif y60 then J1 else(K 0))) else(K 0)))))) else(bif((aK:Int)==1) then(K 0) else(bif((aK:Int)==2) then(K 0) else(bif((aK:Int)==3) then(K 0) else(bif((aK:Int)==4) then J0 else(bif((aK:Int)==5) then(Y8.f k aK aL aX bF bG (λy61=>bif y61 then J1 else(K 0))) else(K 0)))))))
noncomputable def YA.m {β:Type} (k:Nat) (r_spec_l4Look:Int->BA->Int->LD->LD->Int->(Int->Option β)->Option β) (aC:Int) (aB:BA) (aD:Int) (aA aI:LD) (a1:Int) (K:Int->Option β) (F:(Int->Int->BA->Int->LD->LD->(Int×Int)->Option β)):Option β:=
 bif((a1:Int)==0) then(K 0) else(F a1 aC aB aD aA aI (1,0))
noncomputable def YA.body {β:Type} (k:Nat) (r_spec_l4Look:Int->BA->Int->LD->LD->Int->(Int->Option β)->Option β) (aC:Int) (aB:BA) (aD:Int) (aA aI:LD) (a1:Int) (K:Int->Option β):Option β:=
 bif((a1:Int)==0) then(K 0) else(ZA (YA.l0 k r_spec_l4Look a1 aC aB aD aA aI K) k (1,0))
noncomputable def YA.w {β:Type} (r:Int->BA->Int->LD->LD->Int->Option (Int)) (aC:Int) (aB:BA) (aD:Int) (aA aI:LD) (a1:Int) (K:Int->Option β):Option β:=bd1 (r aC aB aD aA aI a1) K
noncomputable def YA.all:Nat->(Int->BA->Int->LD->LD->Int->Option (Int))
 |0=>(λ_ _ _ _ _ _=>none)
 |k+1=>(λr=>(λaC aB aD aA aI a1=>YA.body k (YA.w r) aC aB aD aA aI a1 (λz0=>some z0))) (YA.all k)
noncomputable def YA.t (k:Nat) (aC:Int) (aB:BA) (aD:Int) (aA aI:LD) (a1:Int):Option (Int):=(YA.all k) aC aB aD aA aI a1
noncomputable def YA.f {β:Type} (k:Nat) (aC:Int) (aB:BA) (aD:Int) (aA aI:LD) (a1:Int) (K:Int->Option β):Option β:=YA.w (YA.t k) aC aB aD aA aI a1 K
noncomputable def YA.g {β:Type} (k:Nat) (aC:Int) (aB:BA) (aD:Int) (aA aI:LD) (a1:Int) (K:Int->Option β):Option β:=YA.body k (YA.f k) aC aB aD aA aI a1 K
theorem YA.t_succ (k:Nat) (aC:Int) (aB:BA) (aD:Int) (aA aI:LD) (a1:Int):YA.t (k+1) aC aB aD aA aI a1=YA.g k aC aB aD aA aI a1 (λz0=>some z0):=rfl
noncomputable def YA.e (k:Nat):Zj:=ent [.agg [.n,.s,.n,.l,.l],.d .n] [1] [.n] [3] false (YA.t k)
noncomputable def YA.p (k:Nat):Pro:=⟨Tryz.prog,[(108,YA.e k),(146,Yaa.e k),(86,YT.e k),(147,Y8.e k)],Zv [(5,kp [1,2,5,6])] false [],k⟩
noncomputable def YA.d (k:Nat) (aC:Int) (aB:BA) (aD:Int) (aA aI:LD) (a1:Int):Ex->St->Option (Int):=(YA.p k).fin Tryz.f108 [.agg [.int .i64 aC,.str aB,.int .i64 aD,.sl aA,.sl aI],.d (.int .i64 a1)] [1] [.n]
noncomputable def YA.s0 (aF aK:Int) (aL:BA) (aX:Int) (bF bG:LD) (v:Int×Int):St:=
 match v with
 |(aH,aJ)=>ZaA 117 [(1,.d false (.int .i64 aF)),(2,.bp 0 0),(5,.d true (.int .i64 aH)),(6,.d true (.int .i64 aJ))] [.box none 54 [.d false (.int .i64 aK),.d false (.str aL),.d false (.int .i64 aX),.d false (.sl bF),.d false (.sl bG)]]
noncomputable def YA.r0 (k:Nat) (aC:Int) (aB:BA) (aD:Int) (aA aI:LD) (a1 aF aK:Int) (aL:BA) (aX:Int) (bF bG:LD) (n:Nat) (v:Int×Int):Option (Int):=(YA.p k).lp (ZI Tryz.f108) 5 [1,1,1,0,1,0] (YA.d k aC aB aD aA aI a1) n (YA.s0 aF aK aL aX bF bG v)
theorem YA.l0_eq (k:Nat) (aC:Int) (aB:BA) (aD:Int) (aA aI:LD) (a1 aF aK:Int) (aL:BA) (aX:Int) (bF bG:LD):∀ n v,YA.r0 k aC aB aD aA aI a1 aF aK aL aX bF bG n v=ZA (YA.l0 k (YA.f k) aF aK aL aX bF bG (λz0=>some z0)) n v:=
 Zz (YA.s0 aF aK aL aX bF bG) _ λL0 v=>by obtain⟨aH,aJ⟩:=v;kernel_rfl
theorem YA.oks (k:Nat):Zf Tryz.prog 108 (YA.e k):=by
 induction k with
 |zero=>exact Zba Tryz.func108 (by kernel_rfl) (λ_ _ _ _ _ _=>rfl)
 |succ k ih=>exact Zk (YA.p k) mix tyok Tryz.func108 ⟨ih,Yaa.ok k,YT.ok k,Y8.ok k⟩ (by kernel_rfl) (λaC aB aD aA aI a1=>Eq.trans (b:=YA.m k (YA.f k) aC aB aD aA aI a1 (λz0=>some z0) (λaF aK aL aX bF bG=>YA.r0 k aC aB aD aA aI a1 aF aK aL aX bF bG k)) (by kernel_rfl) ((congrArg (YA.m k (YA.f k) aC aB aD aA aI a1 (λz0=>some z0)) (funext λaF=>funext λaK=>funext λaL=>funext λaX=>funext λbF=>funext λbG=>funext λv=>YA.l0_eq k aC aB aD aA aI a1 aF aK aL aX bF bG k v)).trans (YA.t_succ k aC aB aD aA aI a1).symm))
theorem YA.ok (k:Nat):Zf Tryz.prog 108 (YA.e k):=(YA.oks k)
noncomputable def YC.g {β:Type} (k:Nat) (aC:Int) (aB:BA) (aD:Int) (aA aI:LD) (K:Bool->Option β):Option β:=
 YA.f k aC aB aD aA aI 6 (λy62=>K (decide ((y62:Int)>0)))
noncomputable def YC.t (k:Nat) (aC:Int) (aB:BA) (aD:Int) (aA aI:LD):Option (Bool):=YC.g k aC aB aD aA aI (λz0=>some z0)
noncomputable def YC.f {β:Type} (k:Nat) (aC:Int) (aB:BA) (aD:Int) (aA aI:LD) (K:Bool->Option β):Option β:=bd1 (YC.t k aC aB aD aA aI) K
noncomputable def YC.e (k:Nat):Zj:=ent [.agg [.n,.s,.n,.l,.l]] [1] [.b] [4] false (YC.t k)
noncomputable def YC.p (k:Nat):Pro:=⟨Tryz.prog,[(108,YA.e k)],Zv [] false [],k⟩
theorem YC.ok (k:Nat):Zf Tryz.prog 49 (YC.e k):=Zk (YC.p k) mix tyok Tryz.func49 (YA.ok k) (by kernel_rfl) (λaC aB aD aA aI=>by show _=_;kernel_rfl)
noncomputable def Yz.l0 {β:Type} (k:Nat) (aF:LD) (K:Bool->Option β) (L0:Int->Option β) (v:Int):Option β:=
 match v with
 |aH=>bif(decide ((aH:Int)<(aF.length:Int))) then(atR aF aH [.s] λx17=>(Yp.f k x17 (λy18=>bif(!y18) then(K false) else(bif(decide ((aH:Int)>0)) then(atR aF (IntKind.wrap .i64 (aH-1)) [.s] λx22=>(atR aF aH [.s] λx26=>(bif(!(strLt x22 x26)) then(K false) else(L0 (IntKind.wrap .i64 (aH+1)))))) else(L0 (IntKind.wrap .i64 (aH+1))))))) else(K (decide (((aF.length:Int):Int)<=4)))
noncomputable def Yz.m {β:Type} (k:Nat) (a0:LD) (K:Bool->Option β) (F:(LD->Int->Option β)):Option β:=
 F a0 (0)
noncomputable def Yz.g {β:Type} (k:Nat) (a0:LD) (K:Bool->Option β):Option β:=
 ZA (Yz.l0 k a0 K) k (0)
noncomputable def Yz.t (k:Nat) (a0:LD):Option (Bool):=Yz.g k a0 (λz0=>some z0)
noncomputable def Yz.f {β:Type} (k:Nat) (a0:LD) (K:Bool->Option β):Option β:=bd1 (Yz.t k a0) K
noncomputable def Yz.e (k:Nat):Zj:=ent [.d .l] [1] [.b] [4] false (Yz.t k)
noncomputable def Yz.p (k:Nat):Pro:=⟨Tryz.prog,[(107,Yp.e k)],Zv [(2,kp [0,3])] false [],k⟩
noncomputable def Yz.d (k:Nat) (a0:LD):Ex->St->Option (Bool):=(Yz.p k).fin Tryz.f173 [.d (.sl a0)] [1] [.b]
noncomputable def Yz.s0 (aF:LD) (v:Int):St:=
 match v with
 |aH=>ZaA 35 [(0,.d false (.sl aF)),(3,.d true (.int .i64 aH))] []
noncomputable def Yz.r0 (k:Nat) (a0 aF:LD) (n:Nat) (v:Int):Option (Bool):=(Yz.p k).lp (ZI Tryz.f173) 2 [1,0,1,0] (Yz.d k a0) n (Yz.s0 aF v)
theorem Yz.l0_eq (k:Nat) (a0 aF:LD):∀ n v,Yz.r0 k a0 aF n v=ZA (Yz.l0 k aF (λz0=>some z0)) n v:=
 Zz (Yz.s0 aF) _ λL0 v=>by kernel_rfl
theorem Yz.ok (k:Nat):Zf Tryz.prog 173 (Yz.e k):=Zk (Yz.p k) mix tyok Tryz.func173 (Yp.ok k) (by kernel_rfl) (λa0=>Eq.trans (b:=Yz.m k a0 (λz0=>some z0) (λaF=>Yz.r0 k a0 aF k)) (by kernel_rfl) (congrArg (Yz.m k a0 (λz0=>some z0)) (funext λaF=>funext λv=>Yz.l0_eq k a0 aF k v) :))
noncomputable def Yas.g {β:Type} (k:Nat) (aC:Int) (aB:BA) (aD aA aI:Int) (bE:Bool) (aW:LD) (bB:Int) (aR:BA) (bC:Int) (aT aY:LD) (bA:Int) (aU:BA) (bD:Int) (aV aZ:LD) (a1 a2:Int) (a3:Bool) (K:Bool->Option β):Option β:=
 YT.f k aC 1 3 (λy1=>bif y1 then(Yp.f k aB (λy2=>bif y2 then(YT.f k aD 1 (IntKind.wrap .i64 (a2-1)) (λy3=>bif y3 then(YT.f k aA 1 a1 (λy4=>bif y4 then(YT.f k aI 1 aA (λy5=>bif y5 then(Yz.f k aW (λy27=>bif y27 then(YC.f k bB aR bC aT aY (λy28=>bif y28 then(YC.f k bA aU bD aV aZ (λy29=>bif y29 then(bif a3 then(K true) else(bif(!bE) then(K true) else(K (decide (((aW.length:Int):Int)>0))))) else(K false))) else(K false))) else(K false))) else(K false))) else(K false))) else(K false))) else(K false))) else(K false))
noncomputable def Yas.t (k:Nat) (aC:Int) (aB:BA) (aD aA aI:Int) (bE:Bool) (aW:LD) (bB:Int) (aR:BA) (bC:Int) (aT aY:LD) (bA:Int) (aU:BA) (bD:Int) (aV aZ:LD) (a1 a2:Int) (a3:Bool):Option (Bool):=Yas.g k aC aB aD aA aI bE aW bB aR bC aT aY bA aU bD aV aZ a1 a2 a3 (λz0=>some z0)
noncomputable def Yas.f {β:Type} (k:Nat) (aC:Int) (aB:BA) (aD aA aI:Int) (bE:Bool) (aW:LD) (bB:Int) (aR:BA) (bC:Int) (aT aY:LD) (bA:Int) (aU:BA) (bD:Int) (aV aZ:LD) (a1 a2:Int) (a3:Bool) (K:Bool->Option β):Option β:=bd1 (Yas.t k aC aB aD aA aI bE aW bB aR bC aT aY bA aU bD aV aZ a1 a2 a3) K
noncomputable def Yas.e (k:Nat):Zj:=ent [.agg [.n,.s,.n,.n,.n,.b,.l,.n,.s,.n,.l,.l,.n,.s,.n,.l,.l],.d .n,.d .n,.d .b] [1] [.b] [4] false (Yas.t k)
noncomputable def Yas.p (k:Nat):Pro:=⟨Tryz.prog,[(86,YT.e k),(107,Yp.e k),(173,Yz.e k),(49,YC.e k)],Zv [] false [],k⟩
theorem Yas.ok (k:Nat):Zf Tryz.prog 140 (Yas.e k):=Zk (Yas.p k) mix tyok Tryz.func140 ⟨YT.ok k,Yp.ok k,Yz.ok k,YC.ok k⟩ (by kernel_rfl) (λaC aB aD aA aI bE aW bB aR bC aT aY bA aU bD aV aZ a1 a2 a3=>by show _=_;kernel_rfl)
noncomputable def YaG.g {β:Type} (k:Nat) (aC:Int) (aB:BA) (aD aA aI:Int) (bE:Bool) (aW:LD) (bB:Int) (aR:BA) (bC:Int) (aT aY:LD) (bA:Int) (aU:BA) (bD:Int) (aV aZ:LD) (aM:Int) (aN:BA) (aO aP aQ:Int) (bJ:Bool) (bK:LD) (bL:Int) (bM:BA) (bN:Int) (bO bP:LD) (bQ:Int) (bR:BA) (bT:Int) (bU bV:LD) (K:Bool->Option β):Option β:=
 bif(decide ((aC:Int)<aM)) then(K true) else(bif((aC:Int)==aM) then(K (strLt aB aN)) else(K false))
noncomputable def YaG.t (k:Nat) (aC:Int) (aB:BA) (aD aA aI:Int) (bE:Bool) (aW:LD) (bB:Int) (aR:BA) (bC:Int) (aT aY:LD) (bA:Int) (aU:BA) (bD:Int) (aV aZ:LD) (aM:Int) (aN:BA) (aO aP aQ:Int) (bJ:Bool) (bK:LD) (bL:Int) (bM:BA) (bN:Int) (bO bP:LD) (bQ:Int) (bR:BA) (bT:Int) (bU bV:LD):Option (Bool):=YaG.g k aC aB aD aA aI bE aW bB aR bC aT aY bA aU bD aV aZ aM aN aO aP aQ bJ bK bL bM bN bO bP bQ bR bT bU bV (λz0=>some z0)
noncomputable def YaG.f {β:Type} (k:Nat) (aC:Int) (aB:BA) (aD aA aI:Int) (bE:Bool) (aW:LD) (bB:Int) (aR:BA) (bC:Int) (aT aY:LD) (bA:Int) (aU:BA) (bD:Int) (aV aZ:LD) (aM:Int) (aN:BA) (aO aP aQ:Int) (bJ:Bool) (bK:LD) (bL:Int) (bM:BA) (bN:Int) (bO bP:LD) (bQ:Int) (bR:BA) (bT:Int) (bU bV:LD) (K:Bool->Option β):Option β:=bd1 (YaG.t k aC aB aD aA aI bE aW bB aR bC aT aY bA aU bD aV aZ aM aN aO aP aQ bJ bK bL bM bN bO bP bQ bR bT bU bV) K
noncomputable def YaG.e (k:Nat):Zj:=ent [.agg [.n,.s,.n,.n,.n,.b,.l,.n,.s,.n,.l,.l,.n,.s,.n,.l,.l],.agg [.n,.s,.n,.n,.n,.b,.l,.n,.s,.n,.l,.l,.n,.s,.n,.l,.l]] [1] [.b] [4] false (YaG.t k)
noncomputable def YaG.p (k:Nat):Pro:=⟨Tryz.prog,[],Zv [] false [],k⟩
theorem YaG.ok (k:Nat):Zf Tryz.prog 141 (YaG.e k):=Zk (YaG.p k) mix tyok Tryz.func141 trivial (by kernel_rfl) (λaC aB aD aA aI bE aW bB aR bC aT aY bA aU bD aV aZ aM aN aO aP aQ bJ bK bL bM bN bO bP bQ bR bT bU bV=>by show _=_;kernel_rfl)
noncomputable def Yq.l2 {β:Type} (k:Nat) (v2_0:LD) (v2_1 v2_2 v2_3:Int) (L0:(LD×Int×Int×Int)->Option β) (K:Bool->Option β) (L2:Int->Option β) (v:Int):Option β:=
 match v with
 |v2_4=>bif(decide ((v2_4:Int)<v2_3)) then(atR v2_0 v2_4 [.n,.s,.n,.n,.n,.b,.l,.n,.s,.n,.l,.l,.n,.s,.n,.l,.l] λx1048 x1051 x1054 x1057 x1060 x1063 x1066 x1069 x1072 x1075 x1078 x1081 x1084 x1087 x1090 x1093 x1096=>(atR v2_0 v2_3 [.n,.s,.n,.n,.n,.b,.l,.n,.s,.n,.l,.l,.n,.s,.n,.l,.l] λx1100 x1103 x1106 x1109 x1112 x1115 x1118 x1121 x1124 x1127 x1130 x1133 x1136 x1139 x1142 x1145 x1148=>(bif((x1054:Int)==x1106) then(K false) else(L2 (IntKind.wrap .i64 (v2_4+1)))))) else(L0 (v2_0,v2_1,v2_2,IntKind.wrap .i64 (v2_3+1)))
noncomputable def Yq.l1 {β:Type} (k:Nat) (v1_0:LD) (cS cT cR:Int) (L0:(LD×Int×Int×Int)->Option β) (K:Bool->Option β) (L1:Int->Option β) (v:Int):Option β:=
 match v with
 |v1_4=>bif(decide ((v1_4:Int)<cR)) then(atR v1_0 v1_4 [.n,.s,.n,.n,.n,.b,.l,.n,.s,.n,.l,.l,.n,.s,.n,.l,.l] λx840 x843 x846 x849 x852 x855 x858 x861 x864 x867 x870 x873 x876 x879 x882 x885 x888=>(atR v1_0 cR [.n,.s,.n,.n,.n,.b,.l,.n,.s,.n,.l,.l,.n,.s,.n,.l,.l] λx892 x895 x898 x901 x904 x907 x910 x913 x916 x919 x922 x925 x928 x931 x934 x937 x940=>(bif((x846:Int)==x898) then(K false) else(L1 (IntKind.wrap .i64 (v1_4+1)))))) else(L0 (v1_0,cS,cT,IntKind.wrap .i64 (cR+1)))
noncomputable def Yq.m0 {β:Type} (k:Nat) (K:Bool->Option β) (L0:(LD×Int×Int×Int)->Option β) (v:LD×Int×Int×Int) (F:(LD->Int->Int->Int->Int->Option β)×(LD->Int->Int->Int->Int->Option β)):Option β:=
 match v with
 |(aF,aH,aJ,aK)=>bif(decide ((aK:Int)<(aF.length:Int))) then(atR aF aK [.n,.s,.n,.n,.n,.b,.l,.n,.s,.n,.l,.l,.n,.s,.n,.l,.l] λx578 x581 x584 x587 x590 x593 x596 x599 x602 x605 x608 x611 x614 x617 x620 x623 x626=>(Yas.f k x578 x581 x584 x587 x590 x593 x596 x599 x602 x605 x608 x611 x614 x617 x620 x623 x626 aH aJ false (λy627=>bif(!y627) then(K false) else(bif(decide ((aK:Int)>0)) then(atR aF (IntKind.wrap .i64 (aK-1)) [.n,.s,.n,.n,.n,.b,.l,.n,.s,.n,.l,.l,.n,.s,.n,.l,.l] λx631 x634 x637 x640 x643 x646 x649 x652 x655 x658 x661 x664 x667 x670 x673 x676 x679=>(atR aF aK [.n,.s,.n,.n,.n,.b,.l,.n,.s,.n,.l,.l,.n,.s,.n,.l,.l] λx683 x686 x689 x692 x695 x698 x701 x704 x707 x710 x713 x716 x719 x722 x725 x728 x731=>(YaG.f k x631 x634 x637 x640 x643 x646 x649 x652 x655 x658 x661 x664 x667 x670 x673 x676 x679 x683 x686 x689 x692 x695 x698 x701 x704 x707 x710 x713 x716 x719 x722 x725 x728 x731 (λy732=>bif(!y732) then(K false) else(F.1 aF aH aJ aK (0)))))) else(F.2 aF aH aJ aK (0)))))) else(K (decide (((aF.length:Int):Int)<=60)))
noncomputable def Yq.l0 {β:Type} (k:Nat) (K:Bool->Option β) (L0:(LD×Int×Int×Int)->Option β) (v:LD×Int×Int×Int):Option β:=Yq.m0 k K L0 v ((λv1_0 cS cT cR=>ZA (Yq.l1 k v1_0 cS cT cR L0 K) k),(λv2_0 v2_1 v2_2 v2_3=>ZA (Yq.l2 k v2_0 v2_1 v2_2 v2_3 L0 K) k))
noncomputable def Yq.m {β:Type} (k:Nat) (a0:LD) (a1 a2:Int) (K:Bool->Option β) (F:((LD×Int×Int×Int)->Option β)):Option β:=
 F (a0,a1,a2,0)
noncomputable def Yq.g {β:Type} (k:Nat) (a0:LD) (a1 a2:Int) (K:Bool->Option β):Option β:=
 ZA (Yq.l0 k K) k (a0,a1,a2,0)
noncomputable def Yq.t (k:Nat) (a0:LD) (a1 a2:Int):Option (Bool):=Yq.g k a0 a1 a2 (λz0=>some z0)
noncomputable def Yq.f {β:Type} (k:Nat) (a0:LD) (a1 a2:Int) (K:Bool->Option β):Option β:=bd1 (Yq.t k a0 a1 a2) K
noncomputable def Yq.e (k:Nat):Zj:=ent [.d .l,.d .n,.d .n] [1] [.b] [4] false (Yq.t k)
noncomputable def Yq.p (k:Nat):Pro:=⟨Tryz.prog,[(140,Yas.e k),(141,YaG.e k)],Zv [(2,kp [0,1,2,7]),(7,kp [0,1,2,7,8])] false [],k⟩
noncomputable def Yq.d (k:Nat) (a0:LD) (a1 a2:Int):Ex->St->Option (Bool):=(Yq.p k).fin Tryz.f139 [.d (.sl a0),.d (.int .i64 a1),.d (.int .i64 a2)] [1] [.b]
noncomputable def Yq.s0 (v:LD×Int×Int×Int):St:=
 match v with
 |(aF,aH,aJ,aK)=>ZaA 59 [(0,.d false (.sl aF)),(1,.d false (.int .i64 aH)),(2,.d false (.int .i64 aJ)),(7,.d true (.int .i64 aK))] []
noncomputable def Yq.c0 (k:Nat) (a0:LD) (a1 a2:Int):Ex->St->Option (Bool):=(Yq.p k).ct (ZI Tryz.f139) [1,0,1,0] (Yq.d k a0 a1 a2)
noncomputable def Yq.r0 (k:Nat) (a0:LD) (a1 a2:Int) (n:Nat) (v:LD×Int×Int×Int):Option (Bool):=(Yq.p k).lp (ZI Tryz.f139) 2 [1,0,1,0] (Yq.d k a0 a1 a2) n (Yq.s0 v)
noncomputable def Yq.s1 (v1_0:LD) (cS cT cR v:Int):St:=
 match v with
 |v1_4=>ZaA 59 [(0,.d false (.sl v1_0)),(1,.d false (.int .i64 cS)),(2,.d false (.int .i64 cT)),(7,.d true (.int .i64 cR)),(8,.d true (.int .i64 v1_4))] []
noncomputable def Yq.r1 (k:Nat) (a0:LD) (a1 a2:Int) (v1_0:LD) (cS cT cR:Int) (L0:St->Option (Bool)) (n:Nat) (v:Int):Option (Bool):=(Yq.p k).lp (codeAt [1,0,1,0,0] (ZI Tryz.f139)) 7 [1,0,0,1,1,0] (backK ((Yq.p k).h.H 2) L0 (Yq.c0 k a0 a1 a2)) n (Yq.s1 v1_0 cS cT cR v)
noncomputable def Yq.s2 (v2_0:LD) (v2_1 v2_2 v2_3 v:Int):St:=
 match v with
 |v2_4=>ZaA 59 [(0,.d false (.sl v2_0)),(1,.d false (.int .i64 v2_1)),(2,.d false (.int .i64 v2_2)),(7,.d true (.int .i64 v2_3)),(8,.d true (.int .i64 v2_4))] []
noncomputable def Yq.r2 (k:Nat) (a0:LD) (a1 a2:Int) (v2_0:LD) (v2_1 v2_2 v2_3:Int) (L0:St->Option (Bool)) (n:Nat) (v:Int):Option (Bool):=(Yq.p k).lp (codeAt [1,0,1,0,0] (ZI Tryz.f139)) 7 [1,0,0,1,1,0] (backK ((Yq.p k).h.H 2) L0 (Yq.c0 k a0 a1 a2)) n (Yq.s2 v2_0 v2_1 v2_2 v2_3 v)
theorem Yq.l2_eq (k:Nat) (a0:LD) (a1 a2:Int) (v2_0:LD) (v2_1 v2_2 v2_3:Int) (L0:St->Option (Bool)):∀ n v,Yq.r2 k a0 a1 a2 v2_0 v2_1 v2_2 v2_3 L0 n v=ZA (Yq.l2 k v2_0 v2_1 v2_2 v2_3 (λv=>L0 (Yq.s0 v)) (λz0=>some z0)) n v:=
 Zz (Yq.s2 v2_0 v2_1 v2_2 v2_3) _ λL2 v=>by kernel_rfl
theorem Yq.l1_eq (k:Nat) (a0:LD) (a1 a2:Int) (v1_0:LD) (cS cT cR:Int) (L0:St->Option (Bool)):∀ n v,Yq.r1 k a0 a1 a2 v1_0 cS cT cR L0 n v=ZA (Yq.l1 k v1_0 cS cT cR (λv=>L0 (Yq.s0 v)) (λz0=>some z0)) n v:=
 Zz (Yq.s1 v1_0 cS cT cR) _ λL1 v=>by kernel_rfl
theorem Yq.l0_eq (k:Nat) (a0:LD) (a1 a2:Int):∀ n v,Yq.r0 k a0 a1 a2 n v=ZA (Yq.l0 k (λz0=>some z0)) n v:=
 Zz (Yq.s0) _ λL0 v=>by obtain⟨aF,aH,aJ,aK⟩:=v;exact Eq.trans (b:=Yq.m0 k (λz0=>some z0) (λv=>L0 (Yq.s0 v)) (aF,aH,aJ,aK) ((λv1_0 cS cT cR=>Yq.r1 k a0 a1 a2 v1_0 cS cT cR L0 k),(λv2_0 v2_1 v2_2 v2_3=>Yq.r2 k a0 a1 a2 v2_0 v2_1 v2_2 v2_3 L0 k))) (by kernel_rfl) (congrArg (Yq.m0 k (λz0=>some z0) (λv=>L0 (Yq.s0 v)) (aF,aH,aJ,aK)) (pair_eq (funext λv1_0=>funext λcS=>funext λcT=>funext λcR=>funext λv=>Yq.l1_eq k a0 a1 a2 v1_0 cS cT cR L0 k v) (funext λv2_0=>funext λv2_1=>funext λv2_2=>funext λv2_3=>funext λv=>Yq.l2_eq k a0 a1 a2 v2_0 v2_1 v2_2 v2_3 L0 k v)))
theorem Yq.ok (k:Nat):Zf Tryz.prog 139 (Yq.e k):=Zk (Yq.p k) mix tyok Tryz.func139 ⟨Yas.ok k,YaG.ok k⟩ (by kernel_rfl) (λa0 a1 a2=>Eq.trans (b:=Yq.m k a0 a1 a2 (λz0=>some z0) (Yq.r0 k a0 a1 a2 k)) (by kernel_rfl) (congrArg (Yq.m k a0 a1 a2 (λz0=>some z0)) (funext λv=>Yq.l0_eq k a0 a1 a2 k v) :))
noncomputable def Yv.l0 {β:Type} (k:Nat) (aH:LD) (aJ aK:Int) (aL:LD) (K:Bool->Option β) (L0:Int->Option β) (v:Int):Option β:=
 match v with
 |aF=>bif(decide ((aF:Int)<(aL.length:Int))) then(atR aL aF [.n,.b,.n,.s,.n,.n,.n,.b,.l,.n,.s,.n,.l,.l,.n,.s,.n,.l,.l] λx1270 x1273 x1276 x1279 x1282 x1285 x1288 x1291 x1294 x1297 x1300 x1303 x1306 x1309 x1312 x1315 x1318 x1321 x1324=>(Yas.f k x1276 x1279 x1282 x1285 x1288 x1291 x1294 x1297 x1300 x1303 x1306 x1309 x1312 x1315 x1318 x1321 x1324 aJ aK x1273 (λy1325=>bif(!y1325) then(K false) else(bif((x1285:Int)!=x1270) then(K false) else(bif(decide ((aF:Int)>0)) then(atR aL (IntKind.wrap .i64 (aF-1)) [.n,.b,.n,.s,.n,.n,.n,.b,.l,.n,.s,.n,.l,.l,.n,.s,.n,.l,.l] λx1329 x1332 x1335 x1338 x1341 x1344 x1347 x1350 x1353 x1356 x1359 x1362 x1365 x1368 x1371 x1374 x1377 x1380 x1383=>(bif(decide ((x1329:Int)>=x1270)) then(K false) else(L0 (IntKind.wrap .i64 (aF+1))))) else(L0 (IntKind.wrap .i64 (aF+1)))))))) else(K true)
noncomputable def Yv.m {β:Type} (k:Nat) (aC:LD) (aB aD:Int) (aA:LD) (K:Bool->Option β) (F:(LD->Int->Int->LD->Int->Option β)):Option β:=
 YT.f k aB 0 1000000 (λy1=>bif(!y1) then(K false) else(YT.f k aD 1 1000000 (λy2=>bif(!y2) then(K false) else(bif(decide (((aA.length:Int):Int)>40)) then(K false) else(Yq.f k aC aB aD (λy1149=>bif(!y1149) then(K false) else(F aC aB aD aA (0))))))))
noncomputable def Yv.g {β:Type} (k:Nat) (aC:LD) (aB aD:Int) (aA:LD) (K:Bool->Option β):Option β:=Yv.m k aC aB aD aA K (λaH aJ aK aL=>ZA (Yv.l0 k aH aJ aK aL K) k)
noncomputable def Yv.t (k:Nat) (aC:LD) (aB aD:Int) (aA:LD):Option (Bool):=Yv.g k aC aB aD aA (λz0=>some z0)
noncomputable def Yv.f {β:Type} (k:Nat) (aC:LD) (aB aD:Int) (aA:LD) (K:Bool->Option β):Option β:=bd1 (Yv.t k aC aB aD aA) K
noncomputable def Yv.e (k:Nat):Zj:=ent [.agg [.l,.n,.n,.l]] [1] [.b] [4] false (Yv.t k)
noncomputable def Yv.p (k:Nat):Pro:=⟨Tryz.prog,[(86,YT.e k),(139,Yq.e k),(140,Yas.e k)],Zv [(4,kp [1,3])] false [],k⟩
noncomputable def Yv.d (k:Nat) (aC:LD) (aB aD:Int) (aA:LD):Ex->St->Option (Bool):=(Yv.p k).fin Tryz.f85 [.agg [.sl aC,.int .i64 aB,.int .i64 aD,.sl aA]] [1] [.b]
noncomputable def Yv.s0 (aH:LD) (aJ aK:Int) (aL:LD) (v:Int):St:=
 match v with
 |aF=>ZaA 77 [(1,.bp 0 0),(3,.d true (.int .i64 aF))] [.box none 38 [.d false (.sl aH),.d false (.int .i64 aJ),.d false (.int .i64 aK),.d false (.sl aL)]]
noncomputable def Yv.r0 (k:Nat) (aC:LD) (aB aD:Int) (aA aH:LD) (aJ aK:Int) (aL:LD) (n:Nat) (v:Int):Option (Bool):=(Yv.p k).lp (ZI Tryz.f85) 4 [1,1,0,1,0] (Yv.d k aC aB aD aA) n (Yv.s0 aH aJ aK aL v)
theorem Yv.l0_eq (k:Nat) (aC:LD) (aB aD:Int) (aA aH:LD) (aJ aK:Int) (aL:LD):∀ n v,Yv.r0 k aC aB aD aA aH aJ aK aL n v=ZA (Yv.l0 k aH aJ aK aL (λz0=>some z0)) n v:=
 Zz (Yv.s0 aH aJ aK aL) _ λL0 v=>by kernel_rfl
theorem Yv.ok (k:Nat):Zf Tryz.prog 85 (Yv.e k):=Zk (Yv.p k) mix tyok Tryz.func85 ⟨YT.ok k,Yq.ok k,Yas.ok k⟩ (by kernel_rfl) (λaC aB aD aA=>Eq.trans (b:=Yv.m k aC aB aD aA (λz0=>some z0) (λaH aJ aK aL=>Yv.r0 k aC aB aD aA aH aJ aK aL k)) (by kernel_rfl) (congrArg (Yv.m k aC aB aD aA (λz0=>some z0)) (funext λaH=>funext λaJ=>funext λaK=>funext λaL=>funext λv=>Yv.l0_eq k aC aB aD aA aH aJ aK aL k v) :))
noncomputable def YU.g {β:Type} (k:Nat) (aC:LD) (aB aD:Int) (aA:LD) (a1:Int) (a2:BA) (a3:Bool) (K:Int->Option β):Option β:=
 Yv.f k aC aB aD aA (λy1384=>bif(!y1384) then(K 1) else(YT.f k a1 1 3 (λy1385=>bif(!y1385) then(K 1) else(Yp.f k a2 (λy1386=>bif(!y1386) then(K 1) else(bif(!a3) then(K 1) else(bif((aB:Int)==1000000) then(K 5) else(bif((aD:Int)==1000000) then(K 5) else(K 0)))))))))
noncomputable def YU.t (k:Nat) (aC:LD) (aB aD:Int) (aA:LD) (a1:Int) (a2:BA) (a3:Bool):Option (Int):=YU.g k aC aB aD aA a1 a2 a3 (λz0=>some z0)
noncomputable def YU.f {β:Type} (k:Nat) (aC:LD) (aB aD:Int) (aA:LD) (a1:Int) (a2:BA) (a3:Bool) (K:Int->Option β):Option β:=bd1 (YU.t k aC aB aD aA a1 a2 a3) K
noncomputable def YU.e (k:Nat):Zj:=ent [.agg [.l,.n,.n,.l],.d .n,.d .s,.d .b] [1] [.n] [3] false (YU.t k)
noncomputable def YU.p (k:Nat):Pro:=⟨Tryz.prog,[(85,Yv.e k),(86,YT.e k),(107,Yp.e k)],Zv [] false [],k⟩
theorem YU.ok (k:Nat):Zf Tryz.prog 48 (YU.e k):=Zk (YU.p k) mix tyok Tryz.func48 ⟨Yv.ok k,YT.ok k,Yp.ok k⟩ (by kernel_rfl) (λaC aB aD aA a1 a2 a3=>by show _=_;kernel_rfl)
noncomputable def YF.l0 {β:Type} (k:Nat) (r_spec_l4Copy:Int->BA->Int->LD->LD->(Int->BA->Int->LC->LC->Option β)->Option β) (aH:Int) (aJ:BA) (aK:Int) (aL aX:LD) (bF:Int) (bG:BA) (bI bH:Int) (bW:BA) (bX:Int) (bY:LC) (K:Int->BA->Int->LC->LC->Option β) (L0:(Int×LC)->Option β) (v:Int×LC):Option β:=
 match v with
 |(aF,cG)=>bif(decide ((aF:Int)<(aX.length:Int))) then(atR aX aF [.n,.s,.n,.l,.l] λx25 x28 x31 x34 x37=>(r_spec_l4Copy x25 x28 x31 x34 x37 (λy38 y39 y40 y41 y42=>Zd (cG.length+([[.d (.int .i64 y38),.d (.str y39),.d (.int .i64 y40),.own y41,.own y42]]:LC).length<=Z8) (L0 (IntKind.wrap .i64 (aF+1),cG++([[.d (.int .i64 y38),.d (.str y39),.d (.int .i64 y40),.own y41,.own y42]]:LC)))))) else(K bH bW bX bY cG)
noncomputable def YF.m {β:Type} (k:Nat) (r_spec_l4Copy:Int->BA->Int->LD->LD->(Int->BA->Int->LC->LC->Option β)->Option β) (aC:Int) (aB:BA) (aD:Int) (aA aI:LD) (K:Int->BA->Int->LC->LC->Option β) (F:(Int->BA->Int->LD->LD->Int->BA->Int->Int->BA->Int->LC->(Int×LC)->Option β)):Option β:=
 Zd (Zcg 1 aA) (Zd (([]:LC).length+(aA.map (·.map C.d)).length<=Z8) (F aC aB aD aA aI 0 (⟨#[]⟩:BA) 0 aC aB aD (([]:LC)++(aA.map (·.map C.d))) (0,([]:LC))))
noncomputable def YF.body {β:Type} (k:Nat) (r_spec_l4Copy:Int->BA->Int->LD->LD->(Int->BA->Int->LC->LC->Option β)->Option β) (aC:Int) (aB:BA) (aD:Int) (aA aI:LD) (K:Int->BA->Int->LC->LC->Option β):Option β:=
 Zd (Zcg 1 aA) (Zd (([]:LC).length+(aA.map (·.map C.d)).length<=Z8) (ZA (YF.l0 k r_spec_l4Copy aC aB aD aA aI 0 (⟨#[]⟩:BA) 0 aC aB aD (([]:LC)++(aA.map (·.map C.d))) K) k (0,([]:LC))))
noncomputable def YF.w {β:Type} (r:Int->BA->Int->LD->LD->Option (Int×BA×Int×LC×LC)) (aC:Int) (aB:BA) (aD:Int) (aA aI:LD) (K:Int->BA->Int->LC->LC->Option β):Option β:=bd5 (r aC aB aD aA aI) K
noncomputable def YF.all:Nat->(Int->BA->Int->LD->LD->Option (Int×BA×Int×LC×LC))
 |0=>(λ_ _ _ _ _=>none)
 |k+1=>(λr=>(λaC aB aD aA aI=>YF.body k (YF.w r) aC aB aD aA aI (λz0 z1 z2 z3 z4=>some (z0,z1,z2,z3,z4)))) (YF.all k)
noncomputable def YF.t (k:Nat) (aC:Int) (aB:BA) (aD:Int) (aA aI:LD):Option (Int×BA×Int×LC×LC):=(YF.all k) aC aB aD aA aI
noncomputable def YF.f {β:Type} (k:Nat) (aC:Int) (aB:BA) (aD:Int) (aA aI:LD) (K:Int->BA->Int->LC->LC->Option β):Option β:=YF.w (YF.t k) aC aB aD aA aI K
noncomputable def YF.g {β:Type} (k:Nat) (aC:Int) (aB:BA) (aD:Int) (aA aI:LD) (K:Int->BA->Int->LC->LC->Option β):Option β:=YF.body k (YF.f k) aC aB aD aA aI K
theorem YF.t_succ (k:Nat) (aC:Int) (aB:BA) (aD:Int) (aA aI:LD):YF.t (k+1) aC aB aD aA aI=YF.g k aC aB aD aA aI (λz0 z1 z2 z3 z4=>some (z0,z1,z2,z3,z4)):=rfl
noncomputable def YF.e (k:Nat):Zj:=ent [.agg [.n,.s,.n,.l,.l]] [5] [.n,.s,.n,.o,.o] [54] false (YF.t k)
noncomputable def YF.p (k:Nat):Pro:=⟨Tryz.prog,[(70,YF.e k)],Zv [(3,kp [1,2,3,4] [] [(3,4,.row true 52)])] false [],k⟩
noncomputable def YF.d (k:Nat) (aC:Int) (aB:BA) (aD:Int) (aA aI:LD):Ex->St->Option (Int×BA×Int×LC×LC):=(YF.p k).fin Tryz.f70 [.agg [.int .i64 aC,.str aB,.int .i64 aD,.sl aA,.sl aI]] [5] [.n,.s,.n,.o,.o]
noncomputable def YF.s0 (aH:Int) (aJ:BA) (aK:Int) (aL aX:LD) (bF:Int) (bG:BA) (bI bH:Int) (bW:BA) (bX:Int) (bY:LC) (v:Int×LC):St:=
 match v with
 |(aF,cG)=>ZaA 35 [(1,.bp 0 0),(2,.bp 1 0),(3,.bp 2 0),(4,.d true (.int .i64 aF))] [.box none 54 [.d false (.int .i64 aH),.d false (.str aJ),.d false (.int .i64 aK),.d false (.sl aL),.d false (.sl aX)],.box none 54 [.d true (.int .i64 bF),.d true (.str bG),.d true (.int .i64 bI),.nil,.nil],.box none 54 [.d false (.int .i64 bH),.d false (.str bW),.d false (.int .i64 bX),.row 3,.row 4],.row none true 45 bY,.row none true 52 cG]
noncomputable def YF.r0 (k:Nat) (aC:Int) (aB:BA) (aD:Int) (aA aI:LD) (aH:Int) (aJ:BA) (aK:Int) (aL aX:LD) (bF:Int) (bG:BA) (bI bH:Int) (bW:BA) (bX:Int) (bY:LC) (n:Nat) (v:Int×LC):Option (Int×BA×Int×LC×LC):=(YF.p k).lp (ZI Tryz.f70) 3 [1,1,0,1,0] (YF.d k aC aB aD aA aI) n (YF.s0 aH aJ aK aL aX bF bG bI bH bW bX bY v)
theorem YF.l0_eq (k:Nat) (aC:Int) (aB:BA) (aD:Int) (aA aI:LD) (aH:Int) (aJ:BA) (aK:Int) (aL aX:LD) (bF:Int) (bG:BA) (bI bH:Int) (bW:BA) (bX:Int) (bY:LC):∀ n v,YF.r0 k aC aB aD aA aI aH aJ aK aL aX bF bG bI bH bW bX bY n v=ZA (YF.l0 k (YF.f k) aH aJ aK aL aX bF bG bI bH bW bX bY (λz0 z1 z2 z3 z4=>some (z0,z1,z2,z3,z4))) n v:=
 Zz (YF.s0 aH aJ aK aL aX bF bG bI bH bW bX bY) _ λL0 v=>by obtain⟨aF,cG⟩:=v;kernel_rfl
theorem YF.oks (k:Nat):Zf Tryz.prog 70 (YF.e k):=by
 induction k with
 |zero=>exact Zba Tryz.func70 (by kernel_rfl) (λ_ _ _ _ _=>rfl)
 |succ k ih=>exact Zk (YF.p k) mix tyok Tryz.func70 ih (by kernel_rfl) (λaC aB aD aA aI=>Eq.trans (b:=YF.m k (YF.f k) aC aB aD aA aI (λz0 z1 z2 z3 z4=>some (z0,z1,z2,z3,z4)) (λaH aJ aK aL aX bF bG bI bH bW bX bY=>YF.r0 k aC aB aD aA aI aH aJ aK aL aX bF bG bI bH bW bX bY k)) (by kernel_rfl) ((congrArg (YF.m k (YF.f k) aC aB aD aA aI (λz0 z1 z2 z3 z4=>some (z0,z1,z2,z3,z4))) (funext λaH=>funext λaJ=>funext λaK=>funext λaL=>funext λaX=>funext λbF=>funext λbG=>funext λbI=>funext λbH=>funext λbW=>funext λbX=>funext λbY=>funext λv=>YF.l0_eq k aC aB aD aA aI aH aJ aK aL aX bF bG bI bH bW bX bY k v)).trans (YF.t_succ k aC aB aD aA aI).symm))
theorem YF.ok (k:Nat):Zf Tryz.prog 70 (YF.e k):=(YF.oks k)
noncomputable def Yai.g {β:Type} (k:Nat) (aC:Int) (aB:BA) (aD aA aI:Int) (bE:Bool) (aW:LD) (bB:Int) (aR:BA) (bC:Int) (aT aY:LD) (bA:Int) (aU:BA) (bD:Int) (aV aZ:LD) (K:Int->BA->Int->Int->Int->Bool->LC->Int->BA->Int->LC->LC->Int->BA->Int->LC->LC->Option β):Option β:=
 Zd (Zcg 1 aW) (Zd (([]:LC).length+(aW.map (·.map C.d)).length<=Z8) (YF.f k bB aR bC aT aY (λy43 y44 y45 y46 y47=>YF.f k bA aU bD aV aZ (λy48 y49 y50 y51 y52=>K aC aB aD aA aI bE (([]:LC)++(aW.map (·.map C.d))) y43 y44 y45 y46 y47 y48 y49 y50 y51 y52))))
noncomputable def Yai.t (k:Nat) (aC:Int) (aB:BA) (aD aA aI:Int) (bE:Bool) (aW:LD) (bB:Int) (aR:BA) (bC:Int) (aT aY:LD) (bA:Int) (aU:BA) (bD:Int) (aV aZ:LD):Option (Int×BA×Int×Int×Int×Bool×LC×Int×BA×Int×LC×LC×Int×BA×Int×LC×LC):=Yai.g k aC aB aD aA aI bE aW bB aR bC aT aY bA aU bD aV aZ (λz0 z1 z2 z3 z4 z5 z6 z7 z8 z9 z10 z11 z12 z13 z14 z15 z16=>some (z0,z1,z2,z3,z4,z5,z6,z7,z8,z9,z10,z11,z12,z13,z14,z15,z16))
noncomputable def Yai.f {β:Type} (k:Nat) (aC:Int) (aB:BA) (aD aA aI:Int) (bE:Bool) (aW:LD) (bB:Int) (aR:BA) (bC:Int) (aT aY:LD) (bA:Int) (aU:BA) (bD:Int) (aV aZ:LD) (K:Int->BA->Int->Int->Int->Bool->LC->Int->BA->Int->LC->LC->Int->BA->Int->LC->LC->Option β):Option β:=match Yai.t k aC aB aD aA aI bE aW bB aR bC aT aY bA aU bD aV aZ with|some (z0,z1,z2,z3,z4,z5,z6,z7,z8,z9,z10,z11,z12,z13,z14,z15,z16)=>K z0 z1 z2 z3 z4 z5 z6 z7 z8 z9 z10 z11 z12 z13 z14 z15 z16|none=>none
noncomputable def Yai.e (k:Nat):Zj:=ent [.agg [.n,.s,.n,.n,.n,.b,.l,.n,.s,.n,.l,.l,.n,.s,.n,.l,.l]] [17] [.n,.s,.n,.n,.n,.b,.o,.n,.s,.n,.o,.o,.n,.s,.n,.o,.o] [98] false (Yai.t k)
noncomputable def Yai.p (k:Nat):Pro:=⟨Tryz.prog,[(70,YF.e k)],Zv [] false [],k⟩
theorem Yai.ok (k:Nat):Zf Tryz.prog 110 (Yai.e k):=Zk (Yai.p k) mix tyok Tryz.func110 (YF.ok k) (by kernel_rfl) (λaC aB aD aA aI bE aW bB aR bC aT aY bA aU bD aV aZ=>by show _=_;kernel_rfl)
noncomputable def YL.l0 {β:Type} (k:Nat) (aF:LD) (K:LC->Option β) (L0:(Int×LC)->Option β) (v:Int×LC):Option β:=
 match v with
 |(aH,aJ)=>bif(decide ((aH:Int)<(aF.length:Int))) then(atR aF aH [.n,.s,.n,.n,.n,.b,.l,.n,.s,.n,.l,.l,.n,.s,.n,.l,.l] λx73 x76 x79 x82 x85 x88 x91 x94 x97 x100 x103 x106 x109 x112 x115 x118 x121=>(Yai.f k x73 x76 x79 x82 x85 x88 x91 x94 x97 x100 x103 x106 x109 x112 x115 x118 x121 (λy122 y123 y124 y125 y126 y127 y128 y129 y130 y131 y132 y133 y134 y135 y136 y137 y138=>Zd (aJ.length+([[.d (.int .i64 y122),.d (.str y123),.d (.int .i64 y124),.d (.int .i64 y125),.d (.int .i64 y126),.d (.bool y127),.own y128,.d (.int .i64 y129),.d (.str y130),.d (.int .i64 y131),.own y132,.own y133,.d (.int .i64 y134),.d (.str y135),.d (.int .i64 y136),.own y137,.own y138]]:LC).length<=Z8) (L0 (IntKind.wrap .i64 (aH+1),aJ++([[.d (.int .i64 y122),.d (.str y123),.d (.int .i64 y124),.d (.int .i64 y125),.d (.int .i64 y126),.d (.bool y127),.own y128,.d (.int .i64 y129),.d (.str y130),.d (.int .i64 y131),.own y132,.own y133,.d (.int .i64 y134),.d (.str y135),.d (.int .i64 y136),.own y137,.own y138]]:LC)))))) else(K aJ)
noncomputable def YL.m {β:Type} (k:Nat) (a0:LD) (K:LC->Option β) (F:(LD->(Int×LC)->Option β)):Option β:=
 F a0 (0,([]:LC))
noncomputable def YL.g {β:Type} (k:Nat) (a0:LD) (K:LC->Option β):Option β:=
 ZA (YL.l0 k a0 K) k (0,([]:LC))
noncomputable def YL.t (k:Nat) (a0:LD):Option (LC):=YL.g k a0 (λz0=>some z0)
noncomputable def YL.f {β:Type} (k:Nat) (a0:LD) (K:LC->Option β):Option β:=bd1 (YL.t k a0) K
noncomputable def YL.e (k:Nat):Zj:=ent [.d .l] [1] [.o] [30] false (YL.t k)
noncomputable def YL.p (k:Nat):Pro:=⟨Tryz.prog,[(110,Yai.e k)],Zv [(3,kp [0,3,4])] false [],k⟩
noncomputable def YL.d (k:Nat) (a0:LD):Ex->St->Option (LC):=(YL.p k).fin Tryz.f92 [.d (.sl a0)] [1] [.o]
noncomputable def YL.s0 (aF:LD) (v:Int×LC):St:=
 match v with
 |(aH,aJ)=>ZaA 21 [(0,.d false (.sl aF)),(3,.row 0),(4,.d true (.int .i64 aH))] [.row none true 30 aJ]
noncomputable def YL.r0 (k:Nat) (a0 aF:LD) (n:Nat) (v:Int×LC):Option (LC):=(YL.p k).lp (ZI Tryz.f92) 3 [1,1,0,1,0] (YL.d k a0) n (YL.s0 aF v)
theorem YL.l0_eq (k:Nat) (a0 aF:LD):∀ n v,YL.r0 k a0 aF n v=ZA (YL.l0 k aF (λz0=>some z0)) n v:=
 Zz (YL.s0 aF) _ λL0 v=>by obtain⟨aH,aJ⟩:=v;kernel_rfl
theorem YL.ok (k:Nat):Zf Tryz.prog 92 (YL.e k):=Zk (YL.p k) mix tyok Tryz.func92 (Yai.ok k) (by kernel_rfl) (λa0=>Eq.trans (b:=YL.m k a0 (λz0=>some z0) (λaF=>YL.r0 k a0 aF k)) (by kernel_rfl) (congrArg (YL.m k a0 (λz0=>some z0)) (funext λaF=>funext λv=>YL.l0_eq k a0 aF k v) :))
noncomputable def YS.l0 {β:Type} (k:Nat) (aF:LD) (K:LC->Option β) (L0:(Int×LC)->Option β) (v:Int×LC):Option β:=
 match v with
 |(aH,aJ)=>bif(decide ((aH:Int)<(aF.length:Int))) then(atR aF aH [.n,.b,.n,.s,.n,.n,.n,.b,.l,.n,.s,.n,.l,.l,.n,.s,.n,.l,.l] λx195 x198 x201 x204 x207 x210 x213 x216 x219 x222 x225 x228 x231 x234 x237 x240 x243 x246 x249=>(atR aF aH [.n,.b,.n,.s,.n,.n,.n,.b,.l,.n,.s,.n,.l,.l,.n,.s,.n,.l,.l] λx253 x256 x259 x262 x265 x268 x271 x274 x277 x280 x283 x286 x289 x292 x295 x298 x301 x304 x307=>(atR aF aH [.n,.b,.n,.s,.n,.n,.n,.b,.l,.n,.s,.n,.l,.l,.n,.s,.n,.l,.l] λx311 x314 x317 x320 x323 x326 x329 x332 x335 x338 x341 x344 x347 x350 x353 x356 x359 x362 x365=>(Yai.f k x317 x320 x323 x326 x329 x332 x335 x338 x341 x344 x347 x350 x353 x356 x359 x362 x365 (λy366 y367 y368 y369 y370 y371 y372 y373 y374 y375 y376 y377 y378 y379 y380 y381 y382=>Zd (aJ.length+([[.d (.int .i64 x195),.d (.bool x256),.d (.int .i64 y366),.d (.str y367),.d (.int .i64 y368),.d (.int .i64 y369),.d (.int .i64 y370),.d (.bool y371),.own y372,.d (.int .i64 y373),.d (.str y374),.d (.int .i64 y375),.own y376,.own y377,.d (.int .i64 y378),.d (.str y379),.d (.int .i64 y380),.own y381,.own y382]]:LC).length<=Z8) (L0 (IntKind.wrap .i64 (aH+1),aJ++([[.d (.int .i64 x195),.d (.bool x256),.d (.int .i64 y366),.d (.str y367),.d (.int .i64 y368),.d (.int .i64 y369),.d (.int .i64 y370),.d (.bool y371),.own y372,.d (.int .i64 y373),.d (.str y374),.d (.int .i64 y375),.own y376,.own y377,.d (.int .i64 y378),.d (.str y379),.d (.int .i64 y380),.own y381,.own y382]]:LC)))))))) else(K aJ)
noncomputable def YS.m {β:Type} (k:Nat) (a0:LD) (K:LC->Option β) (F:(LD->(Int×LC)->Option β)):Option β:=
 F a0 (0,([]:LC))
noncomputable def YS.g {β:Type} (k:Nat) (a0:LD) (K:LC->Option β):Option β:=
 ZA (YS.l0 k a0 K) k (0,([]:LC))
noncomputable def YS.t (k:Nat) (a0:LD):Option (LC):=YS.g k a0 (λz0=>some z0)
noncomputable def YS.f {β:Type} (k:Nat) (a0:LD) (K:LC->Option β):Option β:=bd1 (YS.t k a0) K
noncomputable def YS.e (k:Nat):Zj:=ent [.d .l] [1] [.o] [36] false (YS.t k)
noncomputable def YS.p (k:Nat):Pro:=⟨Tryz.prog,[(110,Yai.e k)],Zv [(3,kp [0,3,4])] false [],k⟩
noncomputable def YS.d (k:Nat) (a0:LD):Ex->St->Option (LC):=(YS.p k).fin Tryz.f87 [.d (.sl a0)] [1] [.o]
noncomputable def YS.s0 (aF:LD) (v:Int×LC):St:=
 match v with
 |(aH,aJ)=>ZaA 33 [(0,.d false (.sl aF)),(3,.row 0),(4,.d true (.int .i64 aH))] [.row none true 36 aJ]
noncomputable def YS.r0 (k:Nat) (a0 aF:LD) (n:Nat) (v:Int×LC):Option (LC):=(YS.p k).lp (ZI Tryz.f87) 3 [1,1,0,1,0] (YS.d k a0) n (YS.s0 aF v)
theorem YS.l0_eq (k:Nat) (a0 aF:LD):∀ n v,YS.r0 k a0 aF n v=ZA (YS.l0 k aF (λz0=>some z0)) n v:=
 Zz (YS.s0 aF) _ λL0 v=>by obtain⟨aH,aJ⟩:=v;kernel_rfl
theorem YS.ok (k:Nat):Zf Tryz.prog 87 (YS.e k):=Zk (YS.p k) mix tyok Tryz.func87 (Yai.ok k) (by kernel_rfl) (λa0=>Eq.trans (b:=YS.m k a0 (λz0=>some z0) (λaF=>YS.r0 k a0 aF k)) (by kernel_rfl) (congrArg (YS.m k a0 (λz0=>some z0)) (funext λaF=>funext λv=>YS.l0_eq k a0 aF k v) :))
noncomputable def Yat.g {β:Type} (k:Nat) (aC:LD) (aB aD:Int) (aA:LD) (K:LC->Int->Int->LC->Option β):Option β:=
 YL.f k aC (λy139=>YS.f k aA (λy383=>K y139 aB aD y383))
noncomputable def Yat.t (k:Nat) (aC:LD) (aB aD:Int) (aA:LD):Option (LC×Int×Int×LC):=Yat.g k aC aB aD aA (λz0 z1 z2 z3=>some (z0,z1,z2,z3))
noncomputable def Yat.f {β:Type} (k:Nat) (aC:LD) (aB aD:Int) (aA:LD) (K:LC->Int->Int->LC->Option β):Option β:=bd4 (Yat.t k aC aB aD aA) K
noncomputable def Yat.e (k:Nat):Zj:=ent [.agg [.l,.n,.n,.l]] [4] [.o,.n,.n,.o] [38] false (Yat.t k)
noncomputable def Yat.p (k:Nat):Pro:=⟨Tryz.prog,[(92,YL.e k),(87,YS.e k)],Zv [] false [],k⟩
theorem Yat.ok (k:Nat):Zf Tryz.prog 50 (Yat.e k):=Zk (Yat.p k) mix tyok Tryz.func50 ⟨YL.ok k,YS.ok k⟩ (by kernel_rfl) (λaC aB aD aA=>by show _=_;kernel_rfl)
noncomputable def Y5.l0 {β:Type} (k:Nat) (aF:LD) (aH:Int) (aJ:BA) (K L0:Int->Option β) (v:Int):Option β:=
 match v with
 |aK=>bif(decide ((aK:Int)<(aF.length:Int))) then(atR aF aK [.n,.s,.n,.n,.n,.b,.l,.n,.s,.n,.l,.l,.n,.s,.n,.l,.l] λx108 x111 x114 x117 x120 x123 x126 x129 x132 x135 x138 x141 x144 x147 x150 x153 x156=>(bif((x108:Int)==aH) then(atR aF aK [.n,.s,.n,.n,.n,.b,.l,.n,.s,.n,.l,.l,.n,.s,.n,.l,.l] λx160 x163 x166 x169 x172 x175 x178 x181 x184 x187 x190 x193 x196 x199 x202 x205 x208=>(bif(Zae x163 aJ) then(K aK) else(L0 (IntKind.wrap .i64 (aK+1))))) else(L0 (IntKind.wrap .i64 (aK+1))))) else(K (-1))
noncomputable def Y5.m {β:Type} (k:Nat) (a0:LD) (a1:Int) (a2:BA) (K:Int->Option β) (F:(LD->Int->BA->Int->Option β)):Option β:=
 F a0 a1 a2 (0)
noncomputable def Y5.g {β:Type} (k:Nat) (a0:LD) (a1:Int) (a2:BA) (K:Int->Option β):Option β:=
 ZA (Y5.l0 k a0 a1 a2 K) k (0)
noncomputable def Y5.t (k:Nat) (a0:LD) (a1:Int) (a2:BA):Option (Int):=Y5.g k a0 a1 a2 (λz0=>some z0)
noncomputable def Y5.f {β:Type} (k:Nat) (a0:LD) (a1:Int) (a2:BA) (K:Int->Option β):Option β:=bd1 (Y5.t k a0 a1 a2) K
noncomputable def Y5.e (k:Nat):Zj:=ent [.d .l,.d .n,.d .s] [1] [.n] [3] false (Y5.t k)
noncomputable def Y5.p (k:Nat):Pro:=⟨Tryz.prog,[],Zv [(2,kp [0,1,2,7])] false [],k⟩
noncomputable def Y5.d (k:Nat) (a0:LD) (a1:Int) (a2:BA):Ex->St->Option (Int):=(Y5.p k).fin Tryz.f90 [.d (.sl a0),.d (.int .i64 a1),.d (.str a2)] [1] [.n]
noncomputable def Y5.s0 (aF:LD) (aH:Int) (aJ:BA) (v:Int):St:=
 match v with
 |aK=>ZaA 31 [(0,.d false (.sl aF)),(1,.d false (.int .i64 aH)),(2,.d false (.str aJ)),(7,.d true (.int .i64 aK))] []
noncomputable def Y5.r0 (k:Nat) (a0:LD) (a1:Int) (a2:BA) (aF:LD) (aH:Int) (aJ:BA) (n:Nat) (v:Int):Option (Int):=(Y5.p k).lp (ZI Tryz.f90) 2 [1,0,1,0] (Y5.d k a0 a1 a2) n (Y5.s0 aF aH aJ v)
theorem Y5.l0_eq (k:Nat) (a0:LD) (a1:Int) (a2:BA) (aF:LD) (aH:Int) (aJ:BA):∀ n v,Y5.r0 k a0 a1 a2 aF aH aJ n v=ZA (Y5.l0 k aF aH aJ (λz0=>some z0)) n v:=
 Zz (Y5.s0 aF aH aJ) _ λL0 v=>by kernel_rfl
theorem Y5.ok (k:Nat):Zf Tryz.prog 90 (Y5.e k):=Zk (Y5.p k) mix tyok Tryz.func90 trivial (by kernel_rfl) (λa0 a1 a2=>Eq.trans (b:=Y5.m k a0 a1 a2 (λz0=>some z0) (λaF aH aJ=>Y5.r0 k a0 a1 a2 aF aH aJ k)) (by kernel_rfl) (congrArg (Y5.m k a0 a1 a2 (λz0=>some z0)) (funext λaF=>funext λaH=>funext λaJ=>funext λv=>Y5.l0_eq k a0 a1 a2 aF aH aJ k v) :))
noncomputable def YaV.g {β:Type} (k:Nat) (aC:LD) (aB aD:Int) (aA:LD) (a1:Int) (a2:BA) (K:Int->BA->Int->Int->Int->Bool->LC->Int->BA->Int->LC->LC->Int->BA->Int->LC->LC->Bool->Option β):Option β:=
 Y5.f k aC a1 a2 (λy209=>bif(decide ((y209:Int)<0)) then(K 0 (⟨#[]⟩:BA) 0 0 0 false ([]:LC) 0 (⟨#[]⟩:BA) 0 ([]:LC) ([]:LC) 0 (⟨#[]⟩:BA) 0 ([]:LC) ([]:LC) false) else(atR aC y209 [.n,.s,.n,.n,.n,.b,.l,.n,.s,.n,.l,.l,.n,.s,.n,.l,.l] λx213 x216 x219 x222 x225 x228 x231 x234 x237 x240 x243 x246 x249 x252 x255 x258 x261=>(Yai.f k x213 x216 x219 x222 x225 x228 x231 x234 x237 x240 x243 x246 x249 x252 x255 x258 x261 (λy262 y263 y264 y265 y266 y267 y268 y269 y270 y271 y272 y273 y274 y275 y276 y277 y278=>K y262 y263 y264 y265 y266 y267 y268 y269 y270 y271 y272 y273 y274 y275 y276 y277 y278 true))))
noncomputable def YaV.t (k:Nat) (aC:LD) (aB aD:Int) (aA:LD) (a1:Int) (a2:BA):Option (Int×BA×Int×Int×Int×Bool×LC×Int×BA×Int×LC×LC×Int×BA×Int×LC×LC×Bool):=YaV.g k aC aB aD aA a1 a2 (λz0 z1 z2 z3 z4 z5 z6 z7 z8 z9 z10 z11 z12 z13 z14 z15 z16 z17=>some (z0,z1,z2,z3,z4,z5,z6,z7,z8,z9,z10,z11,z12,z13,z14,z15,z16,z17))
noncomputable def YaV.f {β:Type} (k:Nat) (aC:LD) (aB aD:Int) (aA:LD) (a1:Int) (a2:BA) (K:Int->BA->Int->Int->Int->Bool->LC->Int->BA->Int->LC->LC->Int->BA->Int->LC->LC->Bool->Option β):Option β:=match YaV.t k aC aB aD aA a1 a2 with|some (z0,z1,z2,z3,z4,z5,z6,z7,z8,z9,z10,z11,z12,z13,z14,z15,z16,z17)=>K z0 z1 z2 z3 z4 z5 z6 z7 z8 z9 z10 z11 z12 z13 z14 z15 z16 z17|none=>none
noncomputable def YaV.e (k:Nat):Zj:=ent [.agg [.l,.n,.n,.l],.d .n,.d .s] [17,1] [.n,.s,.n,.n,.n,.b,.o,.n,.s,.n,.o,.o,.n,.s,.n,.o,.o,.b] [98,4] false (YaV.t k)
noncomputable def YaV.p (k:Nat):Pro:=⟨Tryz.prog,[(90,Y5.e k),(110,Yai.e k)],Zv [] false [],k⟩
theorem YaV.ok (k:Nat):Zf Tryz.prog 109 (YaV.e k):=Zk (YaV.p k) mix tyok Tryz.func109 ⟨Y5.ok k,Yai.ok k⟩ (by kernel_rfl) (λaC aB aD aA a1 a2=>by show _=_;kernel_rfl)
noncomputable def YaS.g {β:Type} (k:Nat) (aC:LD) (aB aD:Int) (aA:LD) (a1:Int) (a2:BA) (a3:Int) (K:Int->BA->Int->Int->Int->Bool->LC->Int->BA->Int->LC->LC->Int->BA->Int->LC->LC->Int->Option β):Option β:=
 YaV.f k aC aB aD aA a1 a2 (λy279 y280 y281 y282 y283 y284 y285 y286 y287 y288 y289 y290 y291 y292 y293 y294 y295 y296=>bif(!y296) then(K y279 y280 y281 y282 y283 y284 y285 y286 y287 y288 y289 y290 y291 y292 y293 y294 y295 3) else(let J0:=(K y279 y280 y281 y282 y283 y284 y285 y286 y287 y288 y289 y290 y291 y292 y293 y294 y295 0);bif(decide ((a3:Int)>=0)) then(bif((y282:Int)!=a3) then(K y279 y280 y281 y282 y283 y284 y285 y286 y287 y288 y289 y290 y291 y292 y293 y294 y295 4) else J0) else J0))
noncomputable def YaS.t (k:Nat) (aC:LD) (aB aD:Int) (aA:LD) (a1:Int) (a2:BA) (a3:Int):Option (Int×BA×Int×Int×Int×Bool×LC×Int×BA×Int×LC×LC×Int×BA×Int×LC×LC×Int):=YaS.g k aC aB aD aA a1 a2 a3 (λz0 z1 z2 z3 z4 z5 z6 z7 z8 z9 z10 z11 z12 z13 z14 z15 z16 z17=>some (z0,z1,z2,z3,z4,z5,z6,z7,z8,z9,z10,z11,z12,z13,z14,z15,z16,z17))
noncomputable def YaS.f {β:Type} (k:Nat) (aC:LD) (aB aD:Int) (aA:LD) (a1:Int) (a2:BA) (a3:Int) (K:Int->BA->Int->Int->Int->Bool->LC->Int->BA->Int->LC->LC->Int->BA->Int->LC->LC->Int->Option β):Option β:=match YaS.t k aC aB aD aA a1 a2 a3 with|some (z0,z1,z2,z3,z4,z5,z6,z7,z8,z9,z10,z11,z12,z13,z14,z15,z16,z17)=>K z0 z1 z2 z3 z4 z5 z6 z7 z8 z9 z10 z11 z12 z13 z14 z15 z16 z17|none=>none
noncomputable def YaS.e (k:Nat):Zj:=ent [.agg [.l,.n,.n,.l],.d .n,.d .s,.d .n] [17,1] [.n,.s,.n,.n,.n,.b,.o,.n,.s,.n,.o,.o,.n,.s,.n,.o,.o,.n] [98,3] false (YaS.t k)
noncomputable def YaS.p (k:Nat):Pro:=⟨Tryz.prog,[(109,YaV.e k)],Zv [] false [],k⟩
theorem YaS.ok (k:Nat):Zf Tryz.prog 51 (YaS.e k):=Zk (YaS.p k) mix tyok Tryz.func51 (YaV.ok k) (by kernel_rfl) (λaC aB aD aA a1 a2 a3=>by show _=_;kernel_rfl)
noncomputable def Yh.l1 {β:Type} (k:Nat) (r_spec_SameValue:Int->BA->Int->LD->LD->Int->BA->Int->LD->LD->(Bool->Option β)->Option β) (cS:Int) (cT:BA) (cR:Int) (v1_4 v1_5:LD) (v1_6:Int) (v1_7:BA) (v1_8:Int) (v1_9 v1_10:LD) (K:Bool->Option β) (L1:Int->Option β) (v:Int):Option β:=
 match v with
 |v1_0=>bif(decide ((v1_0:Int)<(v1_5.length:Int))) then(atR v1_5 v1_0 [.n,.s,.n,.l,.l] λx119 x122 x125 x128 x131=>(atR v1_10 v1_0 [.n,.s,.n,.l,.l] λx135 x138 x141 x144 x147=>(r_spec_SameValue x119 x122 x125 x128 x131 x135 x138 x141 x144 x147 (λy148=>bif(!y148) then(K false) else(L1 (IntKind.wrap .i64 (v1_0+1))))))) else(K true)
noncomputable def Yh.m0 {β:Type} (k:Nat) (r_spec_SameValue:Int->BA->Int->LD->LD->Int->BA->Int->LD->LD->(Bool->Option β)->Option β) (aH:Int) (aJ:BA) (aK:Int) (aL aX:LD) (bF:Int) (bG:BA) (bI:Int) (bH bW:LD) (K:Bool->Option β) (L0:Int->Option β) (v:Int) (F:(Int->BA->Int->LD->LD->Int->BA->Int->LD->LD->Int->Option β)):Option β:=
 match v with
 |aF=>bif(decide ((aF:Int)<(aL.length:Int))) then(atR aL aF [.s] λx78=>(atR bH aF [.s] λx82=>(bif(!(Zae x78 x82)) then(K false) else(L0 (IntKind.wrap .i64 (aF+1)))))) else(F aH aJ aK aL aX bF bG bI bH bW (0))
noncomputable def Yh.l0 {β:Type} (k:Nat) (r_spec_SameValue:Int->BA->Int->LD->LD->Int->BA->Int->LD->LD->(Bool->Option β)->Option β) (aH:Int) (aJ:BA) (aK:Int) (aL aX:LD) (bF:Int) (bG:BA) (bI:Int) (bH bW:LD) (K:Bool->Option β) (L0:Int->Option β) (v:Int):Option β:=Yh.m0 k r_spec_SameValue aH aJ aK aL aX bF bG bI bH bW K L0 v (λcS cT cR v1_4 v1_5 v1_6 v1_7 v1_8 v1_9 v1_10=>ZA (Yh.l1 k r_spec_SameValue cS cT cR v1_4 v1_5 v1_6 v1_7 v1_8 v1_9 v1_10 K) k)
noncomputable def Yh.m {β:Type} (k:Nat) (r_spec_SameValue:Int->BA->Int->LD->LD->Int->BA->Int->LD->LD->(Bool->Option β)->Option β) (aC:Int) (aB:BA) (aD:Int) (aA aI:LD) (aM:Int) (aN:BA) (aO:Int) (aP aQ:LD) (K:Bool->Option β) (F:(Int->BA->Int->LD->LD->Int->BA->Int->LD->LD->Int->Option β)):Option β:=
 bif((aC:Int)!=aM) then(K false) else(bif(!(Zae aB aN)) then(K false) else(bif((aD:Int)!=aO) then(K false) else(bif(((aA.length:Int):Int)!=(aP.length:Int)) then(K false) else(bif(((aI.length:Int):Int)!=(aQ.length:Int)) then(K false) else(F aC aB aD aA aI aM aN aO aP aQ (0))))))
noncomputable def Yh.body {β:Type} (k:Nat) (r_spec_SameValue:Int->BA->Int->LD->LD->Int->BA->Int->LD->LD->(Bool->Option β)->Option β) (aC:Int) (aB:BA) (aD:Int) (aA aI:LD) (aM:Int) (aN:BA) (aO:Int) (aP aQ:LD) (K:Bool->Option β):Option β:=Yh.m k r_spec_SameValue aC aB aD aA aI aM aN aO aP aQ K (λaH aJ aK aL aX bF bG bI bH bW=>ZA (Yh.l0 k r_spec_SameValue aH aJ aK aL aX bF bG bI bH bW K) k)
noncomputable def Yh.w {β:Type} (r:Int->BA->Int->LD->LD->Int->BA->Int->LD->LD->Option (Bool)) (aC:Int) (aB:BA) (aD:Int) (aA aI:LD) (aM:Int) (aN:BA) (aO:Int) (aP aQ:LD) (K:Bool->Option β):Option β:=bd1 (r aC aB aD aA aI aM aN aO aP aQ) K
noncomputable def Yh.all:Nat->(Int->BA->Int->LD->LD->Int->BA->Int->LD->LD->Option (Bool))
 |0=>(λ_ _ _ _ _ _ _ _ _ _=>none)
 |k+1=>(λr=>(λaC aB aD aA aI aM aN aO aP aQ=>Yh.body k (Yh.w r) aC aB aD aA aI aM aN aO aP aQ (λz0=>some z0))) (Yh.all k)
noncomputable def Yh.t (k:Nat) (aC:Int) (aB:BA) (aD:Int) (aA aI:LD) (aM:Int) (aN:BA) (aO:Int) (aP aQ:LD):Option (Bool):=(Yh.all k) aC aB aD aA aI aM aN aO aP aQ
noncomputable def Yh.f {β:Type} (k:Nat) (aC:Int) (aB:BA) (aD:Int) (aA aI:LD) (aM:Int) (aN:BA) (aO:Int) (aP aQ:LD) (K:Bool->Option β):Option β:=Yh.w (Yh.t k) aC aB aD aA aI aM aN aO aP aQ K
noncomputable def Yh.g {β:Type} (k:Nat) (aC:Int) (aB:BA) (aD:Int) (aA aI:LD) (aM:Int) (aN:BA) (aO:Int) (aP aQ:LD) (K:Bool->Option β):Option β:=Yh.body k (Yh.f k) aC aB aD aA aI aM aN aO aP aQ K
theorem Yh.t_succ (k:Nat) (aC:Int) (aB:BA) (aD:Int) (aA aI:LD) (aM:Int) (aN:BA) (aO:Int) (aP aQ:LD):Yh.t (k+1) aC aB aD aA aI aM aN aO aP aQ=Yh.g k aC aB aD aA aI aM aN aO aP aQ (λz0=>some z0):=rfl
noncomputable def Yh.e (k:Nat):Zj:=ent [.agg [.n,.s,.n,.l,.l],.agg [.n,.s,.n,.l,.l]] [1] [.b] [4] false (Yh.t k)
noncomputable def Yh.p (k:Nat):Pro:=⟨Tryz.prog,[(52,Yh.e k)],Zv [(4,kp [2,3,5]),(9,kp [2,3,6])] false [],k⟩
noncomputable def Yh.d (k:Nat) (aC:Int) (aB:BA) (aD:Int) (aA aI:LD) (aM:Int) (aN:BA) (aO:Int) (aP aQ:LD):Ex->St->Option (Bool):=(Yh.p k).fin Tryz.f52 [.agg [.int .i64 aC,.str aB,.int .i64 aD,.sl aA,.sl aI],.agg [.int .i64 aM,.str aN,.int .i64 aO,.sl aP,.sl aQ]] [1] [.b]
noncomputable def Yh.s0 (aH:Int) (aJ:BA) (aK:Int) (aL aX:LD) (bF:Int) (bG:BA) (bI:Int) (bH bW:LD) (v:Int):St:=
 match v with
 |aF=>ZaA 81 [(2,.bp 0 0),(3,.bp 1 0),(5,.d true (.int .i64 aF))] [.box none 54 [.d false (.int .i64 aH),.d false (.str aJ),.d false (.int .i64 aK),.d false (.sl aL),.d false (.sl aX)],.box none 54 [.d false (.int .i64 bF),.d false (.str bG),.d false (.int .i64 bI),.d false (.sl bH),.d false (.sl bW)]]
noncomputable def Yh.r0 (k:Nat) (aC:Int) (aB:BA) (aD:Int) (aA aI:LD) (aM:Int) (aN:BA) (aO:Int) (aP aQ:LD) (aH:Int) (aJ:BA) (aK:Int) (aL aX:LD) (bF:Int) (bG:BA) (bI:Int) (bH bW:LD) (n:Nat) (v:Int):Option (Bool):=(Yh.p k).lp (ZI Tryz.f52) 4 [1,1,0,1,0] (Yh.d k aC aB aD aA aI aM aN aO aP aQ) n (Yh.s0 aH aJ aK aL aX bF bG bI bH bW v)
noncomputable def Yh.s1 (cS:Int) (cT:BA) (cR:Int) (v1_4 v1_5:LD) (v1_6:Int) (v1_7:BA) (v1_8:Int) (v1_9 v1_10:LD) (v:Int):St:=
 match v with
 |v1_0=>ZaA 81 [(2,.bp 0 0),(3,.bp 1 0),(6,.d true (.int .i64 v1_0))] [.box none 54 [.d false (.int .i64 cS),.d false (.str cT),.d false (.int .i64 cR),.d false (.sl v1_4),.d false (.sl v1_5)],.box none 54 [.d false (.int .i64 v1_6),.d false (.str v1_7),.d false (.int .i64 v1_8),.d false (.sl v1_9),.d false (.sl v1_10)]]
noncomputable def Yh.r1 (k:Nat) (aC:Int) (aB:BA) (aD:Int) (aA aI:LD) (aM:Int) (aN:BA) (aO:Int) (aP aQ:LD) (cS:Int) (cT:BA) (cR:Int) (v1_4 v1_5:LD) (v1_6:Int) (v1_7:BA) (v1_8:Int) (v1_9 v1_10:LD) (n:Nat) (v:Int):Option (Bool):=(Yh.p k).lp (ZI Tryz.f52) 9 [1,1,1,0,1,0] (Yh.d k aC aB aD aA aI aM aN aO aP aQ) n (Yh.s1 cS cT cR v1_4 v1_5 v1_6 v1_7 v1_8 v1_9 v1_10 v)
theorem Yh.l1_eq (k:Nat) (aC:Int) (aB:BA) (aD:Int) (aA aI:LD) (aM:Int) (aN:BA) (aO:Int) (aP aQ:LD) (cS:Int) (cT:BA) (cR:Int) (v1_4 v1_5:LD) (v1_6:Int) (v1_7:BA) (v1_8:Int) (v1_9 v1_10:LD):∀ n v,Yh.r1 k aC aB aD aA aI aM aN aO aP aQ cS cT cR v1_4 v1_5 v1_6 v1_7 v1_8 v1_9 v1_10 n v=ZA (Yh.l1 k (Yh.f k) cS cT cR v1_4 v1_5 v1_6 v1_7 v1_8 v1_9 v1_10 (λz0=>some z0)) n v:=
 Zz (Yh.s1 cS cT cR v1_4 v1_5 v1_6 v1_7 v1_8 v1_9 v1_10) _ λL1 v=>by kernel_rfl
theorem Yh.l0_eq (k:Nat) (aC:Int) (aB:BA) (aD:Int) (aA aI:LD) (aM:Int) (aN:BA) (aO:Int) (aP aQ:LD) (aH:Int) (aJ:BA) (aK:Int) (aL aX:LD) (bF:Int) (bG:BA) (bI:Int) (bH bW:LD):∀ n v,Yh.r0 k aC aB aD aA aI aM aN aO aP aQ aH aJ aK aL aX bF bG bI bH bW n v=ZA (Yh.l0 k (Yh.f k) aH aJ aK aL aX bF bG bI bH bW (λz0=>some z0)) n v:=
 Zz (Yh.s0 aH aJ aK aL aX bF bG bI bH bW) _ λL0 v=>by exact Eq.trans (b:=Yh.m0 k (Yh.f k) aH aJ aK aL aX bF bG bI bH bW (λz0=>some z0) (λv=>L0 (Yh.s0 aH aJ aK aL aX bF bG bI bH bW v)) v (λcS cT cR v1_4 v1_5 v1_6 v1_7 v1_8 v1_9 v1_10=>Yh.r1 k aC aB aD aA aI aM aN aO aP aQ cS cT cR v1_4 v1_5 v1_6 v1_7 v1_8 v1_9 v1_10 k)) (by kernel_rfl) (congrArg (Yh.m0 k (Yh.f k) aH aJ aK aL aX bF bG bI bH bW (λz0=>some z0) (λv=>L0 (Yh.s0 aH aJ aK aL aX bF bG bI bH bW v)) v) (funext λcS=>funext λcT=>funext λcR=>funext λv1_4=>funext λv1_5=>funext λv1_6=>funext λv1_7=>funext λv1_8=>funext λv1_9=>funext λv1_10=>funext λv=>Yh.l1_eq k aC aB aD aA aI aM aN aO aP aQ cS cT cR v1_4 v1_5 v1_6 v1_7 v1_8 v1_9 v1_10 k v))
theorem Yh.oks (k:Nat):Zf Tryz.prog 52 (Yh.e k):=by
 induction k with
 |zero=>exact Zba Tryz.func52 (by kernel_rfl) (λ_ _ _ _ _ _ _ _ _ _=>rfl)
 |succ k ih=>exact Zk (Yh.p k) mix tyok Tryz.func52 ih (by kernel_rfl) (λaC aB aD aA aI aM aN aO aP aQ=>Eq.trans (b:=Yh.m k (Yh.f k) aC aB aD aA aI aM aN aO aP aQ (λz0=>some z0) (λaH aJ aK aL aX bF bG bI bH bW=>Yh.r0 k aC aB aD aA aI aM aN aO aP aQ aH aJ aK aL aX bF bG bI bH bW k)) (by kernel_rfl) ((congrArg (Yh.m k (Yh.f k) aC aB aD aA aI aM aN aO aP aQ (λz0=>some z0)) (funext λaH=>funext λaJ=>funext λaK=>funext λaL=>funext λaX=>funext λbF=>funext λbG=>funext λbI=>funext λbH=>funext λbW=>funext λv=>Yh.l0_eq k aC aB aD aA aI aM aN aO aP aQ aH aJ aK aL aX bF bG bI bH bW k v)).trans (Yh.t_succ k aC aB aD aA aI aM aN aO aP aQ).symm))
theorem Yh.ok (k:Nat):Zf Tryz.prog 52 (Yh.e k):=(Yh.oks k)
set_option maxRecDepth 100000 in
noncomputable def Y9.l0 {β:Type} (k:Nat) (aF:LD) (aK:Int) (aL:BA) (aX bF bG:Int) (bI:Bool) (bH:LD) (bW:Int) (bX:BA) (bY:Int) (cG cH:LD) (cJ:Int) (cK:BA) (cL:Int) (cM cP:LD) (K:LC->Option β) (L0:(Bool×Int×LC)->Option β) (v:Bool×Int×LC):Option β:=
 match v with
 |(aH,aJ,cQ)=>bif(decide ((aJ:Int)<(aF.length:Int))) then(bif(!aH) then(atR aF aJ [.n,.s,.n,.n,.n,.b,.l,.n,.s,.n,.l,.l,.n,.s,.n,.l,.l] λx715 x718 x721 x724 x727 x730 x733 x736 x739 x742 x745 x748 x751 x754 x757 x760 x763=>(YaG.f k x715 x718 x721 x724 x727 x730 x733 x736 x739 x742 x745 x748 x751 x754 x757 x760 x763 aK aL aX bF bG bI bH bW bX bY cG cH cJ cK cL cM cP (λy764=>bif(!y764) then(Yai.f k aK aL aX bF bG bI bH bW bX bY cG cH cJ cK cL cM cP (λy765 y766 y767 y768 y769 y770 y771 y772 y773 y774 y775 y776 y777 y778 y779 y780 y781=>Zd (cQ.length+([[.d (.int .i64 y765),.d (.str y766),.d (.int .i64 y767),.d (.int .i64 y768),.d (.int .i64 y769),.d (.bool y770),.own y771,.d (.int .i64 y772),.d (.str y773),.d (.int .i64 y774),.own y775,.own y776,.d (.int .i64 y777),.d (.str y778),.d (.int .i64 y779),.own y780,.own y781]]:LC).length<=Z8) (atR aF aJ [.n,.s,.n,.n,.n,.b,.l,.n,.s,.n,.l,.l,.n,.s,.n,.l,.l] λx785 x788 x791 x794 x797 x800 x803 x806 x809 x812 x815 x818 x821 x824 x827 x830 x833=>let J0:=(cQ++([[.d (.int .i64 y765),.d (.str y766),.d (.int .i64 y767),.d (.int .i64 y768),.d (.int .i64 y769),.d (.bool y770),.own y771,.d (.int .i64 y772),.d (.str y773),.d (.int .i64 y774),.own y775,.own y776,.d (.int .i64 y777),.d (.str y778),.d (.int .i64 y779),.own y780,.own y781]]:LC));(bif((x785:Int)!=aK) then(atR aF aJ [.n,.s,.n,.n,.n,.b,.l,.n,.s,.n,.l,.l,.n,.s,.n,.l,.l] λx837 x840 x843 x846 x849 x852 x855 x858 x861 x864 x867 x870 x873 x876 x879 x882 x885=>(Zd (J0.length+([[.d (.int .i64 x837),.d (.str x840),.d (.int .i64 x843),.d (.int .i64 x846),.d (.int .i64 x849),.d (.bool x852),.d (.sl x855),.d (.int .i64 x858),.d (.str x861),.d (.int .i64 x864),.d (.sl x867),.d (.sl x870),.d (.int .i64 x873),.d (.str x876),.d (.int .i64 x879),.d (.sl x882),.d (.sl x885)]]:LC).length<=Z8) (L0 (true,IntKind.wrap .i64 (aJ+1),J0++([[.d (.int .i64 x837),.d (.str x840),.d (.int .i64 x843),.d (.int .i64 x846),.d (.int .i64 x849),.d (.bool x852),.d (.sl x855),.d (.int .i64 x858),.d (.str x861),.d (.int .i64 x864),.d (.sl x867),.d (.sl x870),.d (.int .i64 x873),.d (.str x876),.d (.int .i64 x879),.d (.sl x882),.d (.sl x885)]]:LC))))) else(atR aF aJ [.n,.s,.n,.n,.n,.b,.l,.n,.s,.n,.l,.l,.n,.s,.n,.l,.l] λx889 x892 x895 x898 x901 x904 x907 x910 x913 x916 x919 x922 x925 x928 x931 x934 x937=>(bif(!(Zae x892 aL)) then(atR aF aJ [.n,.s,.n,.n,.n,.b,.l,.n,.s,.n,.l,.l,.n,.s,.n,.l,.l] λx941 x944 x947 x950 x953 x956 x959 x962 x965 x968 x971 x974 x977 x980 x983 x986 x989=>(Zd (J0.length+([[.d (.int .i64 x941),.d (.str x944),.d (.int .i64 x947),.d (.int .i64 x950),.d (.int .i64 x953),.d (.bool x956),.d (.sl x959),.d (.int .i64 x962),.d (.str x965),.d (.int .i64 x968),.d (.sl x971),.d (.sl x974),.d (.int .i64 x977),.d (.str x980),.d (.int .i64 x983),.d (.sl x986),.d (.sl x989)]]:LC).length<=Z8) (L0 (true,IntKind.wrap .i64 (aJ+1),J0++([[.d (.int .i64 x941),.d (.str x944),.d (.int .i64 x947),.d (.int .i64 x950),.d (.int .i64 x953),.d (.bool x956),.d (.sl x959),.d (.int .i64 x962),.d (.str x965),.d (.int .i64 x968),.d (.sl x971),.d (.sl x974),.d (.int .i64 x977),.d (.str x980),.d (.int .i64 x983),.d (.sl x986),.d (.sl x989)]]:LC))))) else(L0 (true,IntKind.wrap .i64 (aJ+1),cQ++([[.d (.int .i64 y765),.d (.str y766),.d (.int .i64 y767),.d (.int .i64 y768),.d (.int .i64 y769),.d (.bool y770),.own y771,.d (.int .i64 y772),.d (.str y773),.d (.int .i64 y774),.own y775,.own y776,.d (.int .i64 y777),.d (.str y778),.d (.int .i64 y779),.own y780,.own y781]]:LC))))))))) else(atR aF aJ [.n,.s,.n,.n,.n,.b,.l,.n,.s,.n,.l,.l,.n,.s,.n,.l,.l] λx993 x996 x999 x1002 x1005 x1008 x1011 x1014 x1017 x1020 x1023 x1026 x1029 x1032 x1035 x1038 x1041=>(bif((x993:Int)!=aK) then(atR aF aJ [.n,.s,.n,.n,.n,.b,.l,.n,.s,.n,.l,.l,.n,.s,.n,.l,.l] λx1045 x1048 x1051 x1054 x1057 x1060 x1063 x1066 x1069 x1072 x1075 x1078 x1081 x1084 x1087 x1090 x1093=>(Zd (cQ.length+([[.d (.int .i64 x1045),.d (.str x1048),.d (.int .i64 x1051),.d (.int .i64 x1054),.d (.int .i64 x1057),.d (.bool x1060),.d (.sl x1063),.d (.int .i64 x1066),.d (.str x1069),.d (.int .i64 x1072),.d (.sl x1075),.d (.sl x1078),.d (.int .i64 x1081),.d (.str x1084),.d (.int .i64 x1087),.d (.sl x1090),.d (.sl x1093)]]:LC).length<=Z8) (L0 (aH,IntKind.wrap .i64 (aJ+1),cQ++([[.d (.int .i64 x1045),.d (.str x1048),.d (.int .i64 x1051),.d (.int .i64 x1054),.d (.int .i64 x1057),.d (.bool x1060),.d (.sl x1063),.d (.int .i64 x1066),.d (.str x1069),.d (.int .i64 x1072),.d (.sl x1075),.d (.sl x1078),.d (.int .i64 x1081),.d (.str x1084),.d (.int .i64 x1087),.d (.sl x1090),.d (.sl x1093)]]:LC))))) else(atR aF aJ [.n,.s,.n,.n,.n,.b,.l,.n,.s,.n,.l,.l,.n,.s,.n,.l,.l] λx1097 x1100 x1103 x1106 x1109 x1112 x1115 x1118 x1121 x1124 x1127 x1130 x1133 x1136 x1139 x1142 x1145=>(bif(!(Zae x1100 aL)) then(atR aF aJ [.n,.s,.n,.n,.n,.b,.l,.n,.s,.n,.l,.l,.n,.s,.n,.l,.l] λx1149 x1152 x1155 x1158 x1161 x1164 x1167 x1170 x1173 x1176 x1179 x1182 x1185 x1188 x1191 x1194 x1197=>(Zd (cQ.length+([[.d (.int .i64 x1149),.d (.str x1152),.d (.int .i64 x1155),.d (.int .i64 x1158),.d (.int .i64 x1161),.d (.bool x1164),.d (.sl x1167),.d (.int .i64 x1170),.d (.str x1173),.d (.int .i64 x1176),.d (.sl x1179),.d (.sl x1182),.d (.int .i64 x1185),.d (.str x1188),.d (.int .i64 x1191),.d (.sl x1194),.d (.sl x1197)]]:LC).length<=Z8) (L0 (aH,IntKind.wrap .i64 (aJ+1),cQ++([[.d (.int .i64 x1149),.d (.str x1152),.d (.int .i64 x1155),.d (.int .i64 x1158),.d (.int .i64 x1161),.d (.bool x1164),.d (.sl x1167),.d (.int .i64 x1170),.d (.str x1173),.d (.int .i64 x1176),.d (.sl x1179),.d (.sl x1182),.d (.int .i64 x1185),.d (.str x1188),.d (.int .i64 x1191),.d (.sl x1194),.d (.sl x1197)]]:LC))))) else(L0 (aH,IntKind.wrap .i64 (aJ+1),cQ))))))))) else(atR aF aJ [.n,.s,.n,.n,.n,.b,.l,.n,.s,.n,.l,.l,.n,.s,.n,.l,.l] λx1201 x1204 x1207 x1210 x1213 x1216 x1219 x1222 x1225 x1228 x1231 x1234 x1237 x1240 x1243 x1246 x1249=>(bif((x1201:Int)!=aK) then(atR aF aJ [.n,.s,.n,.n,.n,.b,.l,.n,.s,.n,.l,.l,.n,.s,.n,.l,.l] λx1253 x1256 x1259 x1262 x1265 x1268 x1271 x1274 x1277 x1280 x1283 x1286 x1289 x1292 x1295 x1298 x1301=>(Zd (cQ.length+([[.d (.int .i64 x1253),.d (.str x1256),.d (.int .i64 x1259),.d (.int .i64 x1262),.d (.int .i64 x1265),.d (.bool x1268),.d (.sl x1271),.d (.int .i64 x1274),.d (.str x1277),.d (.int .i64 x1280),.d (.sl x1283),.d (.sl x1286),.d (.int .i64 x1289),.d (.str x1292),.d (.int .i64 x1295),.d (.sl x1298),.d (.sl x1301)]]:LC).length<=Z8) (L0 (aH,IntKind.wrap .i64 (aJ+1),cQ++([[.d (.int .i64 x1253),.d (.str x1256),.d (.int .i64 x1259),.d (.int .i64 x1262),.d (.int .i64 x1265),.d (.bool x1268),.d (.sl x1271),.d (.int .i64 x1274),.d (.str x1277),.d (.int .i64 x1280),.d (.sl x1283),.d (.sl x1286),.d (.int .i64 x1289),.d (.str x1292),.d (.int .i64 x1295),.d (.sl x1298),.d (.sl x1301)]]:LC))))) else(atR aF aJ [.n,.s,.n,.n,.n,.b,.l,.n,.s,.n,.l,.l,.n,.s,.n,.l,.l] λx1305 x1308 x1311 x1314 x1317 x1320 x1323 x1326 x1329 x1332 x1335 x1338 x1341 x1344 x1347 x1350 x1353=>(bif(!(Zae x1308 aL)) then(atR aF aJ [.n,.s,.n,.n,.n,.b,.l,.n,.s,.n,.l,.l,.n,.s,.n,.l,.l] λx1357 x1360 x1363 x1366 x1369 x1372 x1375 x1378 x1381 x1384 x1387 x1390 x1393 x1396 x1399 x1402 x1405=>(Zd (cQ.length+([[.d (.int .i64 x1357),.d (.str x1360),.d (.int .i64 x1363),.d (.int .i64 x1366),.d (.int .i64 x1369),.d (.bool x1372),.d (.sl x1375),.d (.int .i64 x1378),.d (.str x1381),.d (.int .i64 x1384),.d (.sl x1387),.d (.sl x1390),.d (.int .i64 x1393),.d (.str x1396),.d (.int .i64 x1399),.d (.sl x1402),.d (.sl x1405)]]:LC).length<=Z8) (L0 (aH,IntKind.wrap .i64 (aJ+1),cQ++([[.d (.int .i64 x1357),.d (.str x1360),.d (.int .i64 x1363),.d (.int .i64 x1366),.d (.int .i64 x1369),.d (.bool x1372),.d (.sl x1375),.d (.int .i64 x1378),.d (.str x1381),.d (.int .i64 x1384),.d (.sl x1387),.d (.sl x1390),.d (.int .i64 x1393),.d (.str x1396),.d (.int .i64 x1399),.d (.sl x1402),.d (.sl x1405)]]:LC))))) else(L0 (aH,IntKind.wrap .i64 (aJ+1),cQ))))))) else(bif(!aH) then(Yai.f k aK aL aX bF bG bI bH bW bX bY cG cH cJ cK cL cM cP (λy1406 y1407 y1408 y1409 y1410 y1411 y1412 y1413 y1414 y1415 y1416 y1417 y1418 y1419 y1420 y1421 y1422=>Zd (cQ.length+([[.d (.int .i64 y1406),.d (.str y1407),.d (.int .i64 y1408),.d (.int .i64 y1409),.d (.int .i64 y1410),.d (.bool y1411),.own y1412,.d (.int .i64 y1413),.d (.str y1414),.d (.int .i64 y1415),.own y1416,.own y1417,.d (.int .i64 y1418),.d (.str y1419),.d (.int .i64 y1420),.own y1421,.own y1422]]:LC).length<=Z8) (K (cQ++([[.d (.int .i64 y1406),.d (.str y1407),.d (.int .i64 y1408),.d (.int .i64 y1409),.d (.int .i64 y1410),.d (.bool y1411),.own y1412,.d (.int .i64 y1413),.d (.str y1414),.d (.int .i64 y1415),.own y1416,.own y1417,.d (.int .i64 y1418),.d (.str y1419),.d (.int .i64 y1420),.own y1421,.own y1422]]:LC))))) else(K cQ))
noncomputable def Y9.m {β:Type} (k:Nat) (a0:LD) (aM:Int) (aN:BA) (aO aP aQ:Int) (bJ:Bool) (bK:LD) (bL:Int) (bM:BA) (bN:Int) (bO bP:LD) (bQ:Int) (bR:BA) (bT:Int) (bU bV:LD) (K:LC->Option β) (F:(LD->Int->BA->Int->Int->Int->Bool->LD->Int->BA->Int->LD->LD->Int->BA->Int->LD->LD->(Bool×Int×LC)->Option β)):Option β:=
 F a0 aM aN aO aP aQ bJ bK bL bM bN bO bP bQ bR bT bU bV (false,0,([]:LC))
noncomputable def Y9.g {β:Type} (k:Nat) (a0:LD) (aM:Int) (aN:BA) (aO aP aQ:Int) (bJ:Bool) (bK:LD) (bL:Int) (bM:BA) (bN:Int) (bO bP:LD) (bQ:Int) (bR:BA) (bT:Int) (bU bV:LD) (K:LC->Option β):Option β:=
 ZA (Y9.l0 k a0 aM aN aO aP aQ bJ bK bL bM bN bO bP bQ bR bT bU bV K) k (false,0,([]:LC))
noncomputable def Y9.t (k:Nat) (a0:LD) (aM:Int) (aN:BA) (aO aP aQ:Int) (bJ:Bool) (bK:LD) (bL:Int) (bM:BA) (bN:Int) (bO bP:LD) (bQ:Int) (bR:BA) (bT:Int) (bU bV:LD):Option (LC):=Y9.g k a0 aM aN aO aP aQ bJ bK bL bM bN bO bP bQ bR bT bU bV (λz0=>some z0)
noncomputable def Y9.f {β:Type} (k:Nat) (a0:LD) (aM:Int) (aN:BA) (aO aP aQ:Int) (bJ:Bool) (bK:LD) (bL:Int) (bM:BA) (bN:Int) (bO bP:LD) (bQ:Int) (bR:BA) (bT:Int) (bU bV:LD) (K:LC->Option β):Option β:=bd1 (Y9.t k a0 aM aN aO aP aQ bJ bK bL bM bN bO bP bQ bR bT bU bV) K
noncomputable def Y9.e (k:Nat):Zj:=ent [.d .l,.agg [.n,.s,.n,.n,.n,.b,.l,.n,.s,.n,.l,.l,.n,.s,.n,.l,.l]] [1] [.o] [30] true (Y9.t k)
noncomputable def Y9.p (k:Nat):Pro:=⟨Tryz.prog,[(141,YaG.e k),(110,Yai.e k)],Zv [(4,kp [0,3,6,7] [(5,.row false 30)])] true [],k⟩
noncomputable def Y9.d (k:Nat) (a0:LD) (aM:Int) (aN:BA) (aO aP aQ:Int) (bJ:Bool) (bK:LD) (bL:Int) (bM:BA) (bN:Int) (bO bP:LD) (bQ:Int) (bR:BA) (bT:Int) (bU bV:LD):Ex->St->Option (LC):=(Y9.p k).fin Tryz.f91 [.d (.sl a0),.agg [.int .i64 aM,.str aN,.int .i64 aO,.int .i64 aP,.int .i64 aQ,.bool bJ,.sl bK,.int .i64 bL,.str bM,.int .i64 bN,.sl bO,.sl bP,.int .i64 bQ,.str bR,.int .i64 bT,.sl bU,.sl bV]] [1] [.o]
noncomputable def Y9.s0 (aF:LD) (aK:Int) (aL:BA) (aX bF bG:Int) (bI:Bool) (bH:LD) (bW:Int) (bX:BA) (bY:Int) (cG cH:LD) (cJ:Int) (cK:BA) (cL:Int) (cM cP:LD) (v:Bool×Int×LC):St:=
 match v with
 |(aH,aJ,cQ)=>ZaA 64 [(0,.d false (.sl aF)),(3,.bp 0 0),(5,.row 1),(6,.d true (.bool aH)),(7,.d true (.int .i64 aJ))] [.box none 98 [.d false (.int .i64 aK),.d false (.str aL),.d false (.int .i64 aX),.d false (.int .i64 bF),.d false (.int .i64 bG),.d false (.bool bI),.d false (.sl bH),.d false (.int .i64 bW),.d false (.str bX),.d false (.int .i64 bY),.d false (.sl cG),.d false (.sl cH),.d false (.int .i64 cJ),.d false (.str cK),.d false (.int .i64 cL),.d false (.sl cM),.d false (.sl cP)],.row none false 30 cQ]
noncomputable def Y9.r0 (k:Nat) (a0:LD) (aM:Int) (aN:BA) (aO aP aQ:Int) (bJ:Bool) (bK:LD) (bL:Int) (bM:BA) (bN:Int) (bO bP:LD) (bQ:Int) (bR:BA) (bT:Int) (bU bV aF:LD) (aK:Int) (aL:BA) (aX bF bG:Int) (bI:Bool) (bH:LD) (bW:Int) (bX:BA) (bY:Int) (cG cH:LD) (cJ:Int) (cK:BA) (cL:Int) (cM cP:LD) (n:Nat) (v:Bool×Int×LC):Option (LC):=(Y9.p k).lp (ZI Tryz.f91) 4 [1,1,1,0,1,0] (Y9.d k a0 aM aN aO aP aQ bJ bK bL bM bN bO bP bQ bR bT bU bV) n (Y9.s0 aF aK aL aX bF bG bI bH bW bX bY cG cH cJ cK cL cM cP v)
theorem Y9.l0_eq (k:Nat) (a0:LD) (aM:Int) (aN:BA) (aO aP aQ:Int) (bJ:Bool) (bK:LD) (bL:Int) (bM:BA) (bN:Int) (bO bP:LD) (bQ:Int) (bR:BA) (bT:Int) (bU bV aF:LD) (aK:Int) (aL:BA) (aX bF bG:Int) (bI:Bool) (bH:LD) (bW:Int) (bX:BA) (bY:Int) (cG cH:LD) (cJ:Int) (cK:BA) (cL:Int) (cM cP:LD):∀ n v,Y9.r0 k a0 aM aN aO aP aQ bJ bK bL bM bN bO bP bQ bR bT bU bV aF aK aL aX bF bG bI bH bW bX bY cG cH cJ cK cL cM cP n v=ZA (Y9.l0 k aF aK aL aX bF bG bI bH bW bX bY cG cH cJ cK cL cM cP (λz0=>some z0)) n v:=
 Zz (Y9.s0 aF aK aL aX bF bG bI bH bW bX bY cG cH cJ cK cL cM cP) _ λL0 v=>by obtain⟨aH,aJ,cQ⟩:=v;kernel_rfl
theorem Y9.ok (k:Nat):Zf Tryz.prog 91 (Y9.e k):=Zk (Y9.p k) mix tyok Tryz.func91 ⟨YaG.ok k,Yai.ok k⟩ (by kernel_rfl) (λa0 aM aN aO aP aQ bJ bK bL bM bN bO bP bQ bR bT bU bV=>Eq.trans (b:=Y9.m k a0 aM aN aO aP aQ bJ bK bL bM bN bO bP bQ bR bT bU bV (λz0=>some z0) (λaF aK aL aX bF bG bI bH bW bX bY cG cH cJ cK cL cM cP=>Y9.r0 k a0 aM aN aO aP aQ bJ bK bL bM bN bO bP bQ bR bT bU bV aF aK aL aX bF bG bI bH bW bX bY cG cH cJ cK cL cM cP k)) (by kernel_rfl) (congrArg (Y9.m k a0 aM aN aO aP aQ bJ bK bL bM bN bO bP bQ bR bT bU bV (λz0=>some z0)) (funext λaF=>funext λaK=>funext λaL=>funext λaX=>funext λbF=>funext λbG=>funext λbI=>funext λbH=>funext λbW=>funext λbX=>funext λbY=>funext λcG=>funext λcH=>funext λcJ=>funext λcK=>funext λcL=>funext λcM=>funext λcP=>funext λv=>Y9.l0_eq k a0 aM aN aO aP aQ bJ bK bL bM bN bO bP bQ bR bT bU bV aF aK aL aX bF bG bI bH bW bX bY cG cH cJ cK cL cM cP k v) :))
set_option maxRecDepth 100000 in
noncomputable def Yam.g {β:Type} (k:Nat) (aC:LD) (aB aD:Int) (aA:LD) (aM:Int) (aN:BA) (aO aP aQ:Int) (bJ:Bool) (bK:LD) (bL:Int) (bM:BA) (bN:Int) (bO bP:LD) (bQ:Int) (bR:BA) (bT:Int) (bU bV:LD) (a2:Bool) (K:LC->Int->Int->LC->Option β):Option β:=
 Yat.f k aC aB aD aA (λy1 y2 y3 y4=>Y5.f k (C.immRows y1) aM aN (λy5=>bif a2 then(let J6:=(((C.immRows y1).drop (Int.toNat (IntKind.wrap .i64 (y5+1):Int))).take (Int.toNat ((C.immRows y1).length:Int)-Int.toNat (IntKind.wrap .i64 (y5+1):Int)));let J5:=(J6.map (·.map C.d));let J9:=(((C.immRows y1).drop (Int.toNat (0:Int))).take (Int.toNat (y5:Int)-Int.toNat (0:Int)));let J8:=(J9.map (·.map C.d));let J7:=(([]:LC)++J8);Zd (0<=(0:Int)/\(0:Int)<=(y5:Int)/\(y5:Int)<=((C.immRows y1).length:Int)/\Zbk 17 (C.immRows y1)) (Zd (Zbk 17 J9) (Zd (([]:LC).length+J8.length<=Z8) (Zd (0<=(IntKind.wrap .i64 (y5+1):Int)/\(IntKind.wrap .i64 (y5+1):Int)<=((C.immRows y1).length:Int)/\((C.immRows y1).length:Int)<=((C.immRows y1).length:Int)/\Zbk 17 (C.immRows y1)) (Zd (Zbk 17 J6) (Zd (J7.length+J5.length<=Z8) (Yai.f k aM aN aO (IntKind.wrap .i64 (aB+1)) aQ bJ bK bL bM bN bO bP bQ bR bT bU bV (λy6 y7 y8 y9 y10 y11 y12 y13 y14 y15 y16 y17 y18 y19 y20 y21 y22=>let J3:=(y4++([[.d (.int .i64 (IntKind.wrap .i64 (aB+1))),.d (.bool a2),.d (.int .i64 y6),.d (.str y7),.d (.int .i64 y8),.d (.int .i64 y9),.d (.int .i64 y10),.d (.bool y11),.own y12,.d (.int .i64 y13),.d (.str y14),.d (.int .i64 y15),.own y16,.own y17,.d (.int .i64 y18),.d (.str y19),.d (.int .i64 y20),.own y21,.own y22]]:LC));let J1:=(J3.length:Int);let J4:=(J7++J5);Zd (y4.length+([[.d (.int .i64 (IntKind.wrap .i64 (aB+1))),.d (.bool a2),.d (.int .i64 y6),.d (.str y7),.d (.int .i64 y8),.d (.int .i64 y9),.d (.int .i64 y10),.d (.bool y11),.own y12,.d (.int .i64 y13),.d (.str y14),.d (.int .i64 y15),.own y16,.own y17,.d (.int .i64 y18),.d (.str y19),.d (.int .i64 y20),.own y21,.own y22]]:LC).length<=Z8) (bif(decide ((J1:Int)>40)) then(Zd (0<=(1:Int)/\(1:Int)<=J1) (K J4 (IntKind.wrap .i64 (aB+1)) y3 (J3.drop (Int.toNat (1:Int))))) else(K J4 (IntKind.wrap .i64 (aB+1)) y3 J3)))))))))) else(Y9.f k (C.immRows y1) aM aN aO (IntKind.wrap .i64 (aB+1)) aQ bJ bK bL bM bN bO bP bQ bR bT bU bV (λy23=>Yai.f k aM aN aO (IntKind.wrap .i64 (aB+1)) aQ bJ bK bL bM bN bO bP bQ bR bT bU bV (λy24 y25 y26 y27 y28 y29 y30 y31 y32 y33 y34 y35 y36 y37 y38 y39 y40=>let J2:=(y4++([[.d (.int .i64 (IntKind.wrap .i64 (aB+1))),.d (.bool a2),.d (.int .i64 y24),.d (.str y25),.d (.int .i64 y26),.d (.int .i64 y27),.d (.int .i64 y28),.d (.bool y29),.own y30,.d (.int .i64 y31),.d (.str y32),.d (.int .i64 y33),.own y34,.own y35,.d (.int .i64 y36),.d (.str y37),.d (.int .i64 y38),.own y39,.own y40]]:LC));let J0:=(J2.length:Int);Zd (y4.length+([[.d (.int .i64 (IntKind.wrap .i64 (aB+1))),.d (.bool a2),.d (.int .i64 y24),.d (.str y25),.d (.int .i64 y26),.d (.int .i64 y27),.d (.int .i64 y28),.d (.bool y29),.own y30,.d (.int .i64 y31),.d (.str y32),.d (.int .i64 y33),.own y34,.own y35,.d (.int .i64 y36),.d (.str y37),.d (.int .i64 y38),.own y39,.own y40]]:LC).length<=Z8) (bif(decide ((J0:Int)>40)) then(Zd (0<=(1:Int)/\(1:Int)<=J0) (K y23 (IntKind.wrap .i64 (aB+1)) y3 (J2.drop (Int.toNat (1:Int))))) else(K y23 (IntKind.wrap .i64 (aB+1)) y3 J2)))))))
noncomputable def Yam.t (k:Nat) (aC:LD) (aB aD:Int) (aA:LD) (aM:Int) (aN:BA) (aO aP aQ:Int) (bJ:Bool) (bK:LD) (bL:Int) (bM:BA) (bN:Int) (bO bP:LD) (bQ:Int) (bR:BA) (bT:Int) (bU bV:LD) (a2:Bool):Option (LC×Int×Int×LC):=Yam.g k aC aB aD aA aM aN aO aP aQ bJ bK bL bM bN bO bP bQ bR bT bU bV a2 (λz0 z1 z2 z3=>some (z0,z1,z2,z3))
noncomputable def Yam.f {β:Type} (k:Nat) (aC:LD) (aB aD:Int) (aA:LD) (aM:Int) (aN:BA) (aO aP aQ:Int) (bJ:Bool) (bK:LD) (bL:Int) (bM:BA) (bN:Int) (bO bP:LD) (bQ:Int) (bR:BA) (bT:Int) (bU bV:LD) (a2:Bool) (K:LC->Int->Int->LC->Option β):Option β:=bd4 (Yam.t k aC aB aD aA aM aN aO aP aQ bJ bK bL bM bN bO bP bQ bR bT bU bV a2) K
noncomputable def Yam.e (k:Nat):Zj:=ent [.agg [.l,.n,.n,.l],.agg [.n,.s,.n,.n,.n,.b,.l,.n,.s,.n,.l,.l,.n,.s,.n,.l,.l],.d .b] [4] [.o,.n,.n,.o] [38] true (Yam.t k)
noncomputable def Yam.p (k:Nat):Pro:=⟨Tryz.prog,[(50,Yat.e k),(90,Y5.e k),(110,Yai.e k),(91,Y9.e k)],hintsJ [(6,kp [2,4,6,7,8] [] [(7,0,.dat true)])] [] true [],k⟩
theorem Yam.ok (k:Nat):Zf Tryz.prog 53 (Yam.e k):=Zk (Yam.p k) mix tyok Tryz.func53 ⟨Yat.ok k,Y5.ok k,Yai.ok k,Y9.ok k⟩ (by kernel_rfl) (λaC aB aD aA aM aN aO aP aQ bJ bK bL bM bN bO bP bQ bR bT bU bV a2=>by show _=_;kernel_rfl)
set_option maxRecDepth 100000 in
noncomputable def YaD.g {β:Type} (k:Nat) (aC:LD) (aB aD:Int) (aA:LD) (a1:Int) (a2:BA) (a3 cA:Int) (cC:BA) (cE:Int) (cF bZ:LD) (K:LD->Int->Int->LD->Int->Option β):Option β:=
 YC.f k cA cC cE cF bZ (λy1=>bif y1 then(YU.f k aC aB aD aA a1 a2 (decide ((a3:Int)>=0)) (λy2=>bif((y2:Int)!=0) then(Yat.f k aC aB aD aA (λy3 y4 y5 y6=>K (C.immRows y3) y4 y5 (C.immRows y6) y2)) else(YaS.f k aC aB aD aA a1 a2 a3 (λy7 y8 y9 y10 y11 y12 y13 y14 y15 y16 y17 y18 y19 y20 y21 y22 y23 y24=>bif((y24:Int)==0) then(bif y12 then(bif((6:Int)!=0) then(Yat.f k aC aB aD aA (λy25 y26 y27 y28=>K (C.immRows y25) y26 y27 (C.immRows y28) 6)) else(Yh.f k y14 y15 y16 (C.immRows y17) (C.immRows y18) cA cC cE cF bZ (λy29=>bif(!y29) then(Yam.f k aC aB aD aA y7 y8 y9 y10 (IntKind.wrap .i64 (y11+1)) y12 (C.immRows y13) cA cC cE cF bZ y19 y20 y21 (C.immRows y22) (C.immRows y23) false (λy30 y31 y32 y33=>K (C.immRows y30) y31 y32 (C.immRows y33) 0)) else(Yam.f k aC aB aD aA y7 y8 y9 y10 y11 y12 (C.immRows y13) cA cC cE cF bZ y19 y20 y21 (C.immRows y22) (C.immRows y23) false (λy34 y35 y36 y37=>K (C.immRows y34) y35 y36 (C.immRows y37) 0))))) else(bif((y24:Int)!=0) then(Yat.f k aC aB aD aA (λy38 y39 y40 y41=>K (C.immRows y38) y39 y40 (C.immRows y41) y24)) else(Yh.f k y14 y15 y16 (C.immRows y17) (C.immRows y18) cA cC cE cF bZ (λy42=>bif(!y42) then(Yam.f k aC aB aD aA y7 y8 y9 y10 (IntKind.wrap .i64 (y11+1)) y12 (C.immRows y13) cA cC cE cF bZ y19 y20 y21 (C.immRows y22) (C.immRows y23) false (λy43 y44 y45 y46=>K (C.immRows y43) y44 y45 (C.immRows y46) 0)) else(Yam.f k aC aB aD aA y7 y8 y9 y10 y11 y12 (C.immRows y13) cA cC cE cF bZ y19 y20 y21 (C.immRows y22) (C.immRows y23) false (λy47 y48 y49 y50=>K (C.immRows y47) y48 y49 (C.immRows y50) 0)))))) else(bif((y24:Int)!=0) then(Yat.f k aC aB aD aA (λy51 y52 y53 y54=>K (C.immRows y51) y52 y53 (C.immRows y54) y24)) else(Yh.f k y14 y15 y16 (C.immRows y17) (C.immRows y18) cA cC cE cF bZ (λy55=>bif(!y55) then(Yam.f k aC aB aD aA y7 y8 y9 y10 (IntKind.wrap .i64 (y11+1)) y12 (C.immRows y13) cA cC cE cF bZ y19 y20 y21 (C.immRows y22) (C.immRows y23) false (λy56 y57 y58 y59=>K (C.immRows y56) y57 y58 (C.immRows y59) 0)) else(Yam.f k aC aB aD aA y7 y8 y9 y10 y11 y12 (C.immRows y13) cA cC cE cF bZ y19 y20 y21 (C.immRows y22) (C.immRows y23) false (λy60 y61 y62 y63=>K (C.immRows y60) y61 y62 (C.immRows y63) 0))))))))) else(YU.f k aC aB aD aA a1 a2 false (λy64=>bif((y64:Int)!=0) then(Yat.f k aC aB aD aA (λy65 y66 y67 y68=>K (C.immRows y65) y66 y67 (C.immRows y68) y64)) else(YaS.f k aC aB aD aA a1 a2 a3 (λy69 y70 y71 y72 y73 y74 y75 y76 y77 y78 y79 y80 y81 y82 y83 y84 y85 y86=>bif((y86:Int)==0) then(bif y74 then(bif((6:Int)!=0) then(Yat.f k aC aB aD aA (λy87 y88 y89 y90=>K (C.immRows y87) y88 y89 (C.immRows y90) 6)) else(Yh.f k y76 y77 y78 (C.immRows y79) (C.immRows y80) cA cC cE cF bZ (λy91=>bif(!y91) then(Yam.f k aC aB aD aA y69 y70 y71 y72 (IntKind.wrap .i64 (y73+1)) y74 (C.immRows y75) cA cC cE cF bZ y81 y82 y83 (C.immRows y84) (C.immRows y85) false (λy92 y93 y94 y95=>K (C.immRows y92) y93 y94 (C.immRows y95) 0)) else(Yam.f k aC aB aD aA y69 y70 y71 y72 y73 y74 (C.immRows y75) cA cC cE cF bZ y81 y82 y83 (C.immRows y84) (C.immRows y85) false (λy96 y97 y98 y99=>K (C.immRows y96) y97 y98 (C.immRows y99) 0))))) else(bif((y86:Int)!=0) then(Yat.f k aC aB aD aA (λy100 y101 y102 y103=>K (C.immRows y100) y101 y102 (C.immRows y103) y86)) else(Yh.f k y76 y77 y78 (C.immRows y79) (C.immRows y80) cA cC cE cF bZ (λy104=>bif(!y104) then(Yam.f k aC aB aD aA y69 y70 y71 y72 (IntKind.wrap .i64 (y73+1)) y74 (C.immRows y75) cA cC cE cF bZ y81 y82 y83 (C.immRows y84) (C.immRows y85) false (λy105 y106 y107 y108=>K (C.immRows y105) y106 y107 (C.immRows y108) 0)) else(Yam.f k aC aB aD aA y69 y70 y71 y72 y73 y74 (C.immRows y75) cA cC cE cF bZ y81 y82 y83 (C.immRows y84) (C.immRows y85) false (λy109 y110 y111 y112=>K (C.immRows y109) y110 y111 (C.immRows y112) 0)))))) else(bif((y86:Int)!=0) then(Yat.f k aC aB aD aA (λy113 y114 y115 y116=>K (C.immRows y113) y114 y115 (C.immRows y116) y86)) else(Yh.f k y76 y77 y78 (C.immRows y79) (C.immRows y80) cA cC cE cF bZ (λy117=>bif(!y117) then(Yam.f k aC aB aD aA y69 y70 y71 y72 (IntKind.wrap .i64 (y73+1)) y74 (C.immRows y75) cA cC cE cF bZ y81 y82 y83 (C.immRows y84) (C.immRows y85) false (λy118 y119 y120 y121=>K (C.immRows y118) y119 y120 (C.immRows y121) 0)) else(Yam.f k aC aB aD aA y69 y70 y71 y72 y73 y74 (C.immRows y75) cA cC cE cF bZ y81 y82 y83 (C.immRows y84) (C.immRows y85) false (λy122 y123 y124 y125=>K (C.immRows y122) y123 y124 (C.immRows y125) 0))))))))))
noncomputable def YaD.t (k:Nat) (aC:LD) (aB aD:Int) (aA:LD) (a1:Int) (a2:BA) (a3 cA:Int) (cC:BA) (cE:Int) (cF bZ:LD):Option (LD×Int×Int×LD×Int):=YaD.g k aC aB aD aA a1 a2 a3 cA cC cE cF bZ (λz0 z1 z2 z3 z4=>some (z0,z1,z2,z3,z4))
noncomputable def YaD.f {β:Type} (k:Nat) (aC:LD) (aB aD:Int) (aA:LD) (a1:Int) (a2:BA) (a3 cA:Int) (cC:BA) (cE:Int) (cF bZ:LD) (K:LD->Int->Int->LD->Int->Option β):Option β:=bd5 (YaD.t k aC aB aD aA a1 a2 a3 cA cC cE cF bZ) K
noncomputable def YaD.e (k:Nat):Zj:=ent [.agg [.l,.n,.n,.l],.d .n,.d .s,.d .n,.agg [.n,.s,.n,.l,.l]] [4,1] [.l,.n,.n,.l,.n] [38,3] true (YaD.t k)
noncomputable def YaD.p (k:Nat):Pro:=⟨Tryz.prog,[(49,YC.e k),(48,YU.e k),(50,Yat.e k),(51,YaS.e k),(52,Yh.e k),(53,Yam.e k)],Zv [] true [[true,false,false,true],[false]],k⟩
theorem YaD.ok (k:Nat):Zf Tryz.prog 18 (YaD.e k):=Zk (YaD.p k) mix tyok Tryz.func18 ⟨YC.ok k,YU.ok k,Yat.ok k,YaS.ok k,Yh.ok k,Yam.ok k⟩ (by kernel_rfl) (λaC aB aD aA a1 a2 a3 cA cC cE cF bZ=>by show _=_;kernel_rfl)
noncomputable def Yae.g {β:Type} (k:Nat) (a0 a1 a2:Int) (K:Bool->Option β):Option β:=
 bif(decide ((a0:Int)>=a1)) then(K (decide ((a0:Int)<=a2))) else(K false)
noncomputable def Yae.t (k:Nat) (a0 a1 a2:Int):Option (Bool):=Yae.g k a0 a1 a2 (λz0=>some z0)
noncomputable def Yae.f {β:Type} (k:Nat) (a0 a1 a2:Int) (K:Bool->Option β):Option β:=bd1 (Yae.t k a0 a1 a2) K
noncomputable def Yae.e (k:Nat):Zj:=ent [.d .n,.d .n,.d .n] [1] [.b] [4] false (Yae.t k)
noncomputable def Yae.p (k:Nat):Pro:=⟨Tryz.prog,[],Zv [] false [],k⟩
theorem Yae.ok (k:Nat):Zf Tryz.prog 96 (Yae.e k):=Zk (Yae.p k) mix tyok Tryz.func96 trivial (by kernel_rfl) (λa0 a1 a2=>by show _=_;kernel_rfl)
noncomputable def Y4.l0 {β:Type} (k:Nat) (aF:BA) (aH:Int) (K:Bool->Option β) (L0:Int->Option β) (v:Int):Option β:=
 match v with
 |aJ=>bif(decide ((aJ:Int)<aH)) then(atStr aF aJ λb5=>let J1:=(bif((b5:Int)!=45) then(K false) else(L0 (IntKind.wrap .i64 (aJ+1))));let J0:=(bif(decide ((b5:Int)<48)) then J1 else(bif(decide ((b5:Int)>57)) then J1 else(L0 (IntKind.wrap .i64 (aJ+1)))));bif(decide ((b5:Int)<97)) then J0 else(bif(decide ((b5:Int)>122)) then J0 else(L0 (IntKind.wrap .i64 (aJ+1))))) else(Yae.f k (aF.size:Int) 1 20 (λy6=>bif y6 then(atStr aF 0 λb7=>bif((b7:Int)!=45) then(atStr aF (IntKind.wrap .i64 ((aF.size:Int)-1)) λb8=>K ((b8:Int)!=45)) else(K false)) else(K false)))
noncomputable def Y4.m {β:Type} (k:Nat) (a0:BA) (K:Bool->Option β) (F:(BA->Int->Int->Option β)):Option β:=
 F a0 (a0.size:Int) (0)
noncomputable def Y4.g {β:Type} (k:Nat) (a0:BA) (K:Bool->Option β):Option β:=
 ZA (Y4.l0 k a0 (a0.size:Int) K) k (0)
noncomputable def Y4.t (k:Nat) (a0:BA):Option (Bool):=Y4.g k a0 (λz0=>some z0)
noncomputable def Y4.f {β:Type} (k:Nat) (a0:BA) (K:Bool->Option β):Option β:=bd1 (Y4.t k a0) K
noncomputable def Y4.e (k:Nat):Zj:=ent [.d .s] [1] [.b] [4] false (Y4.t k)
noncomputable def Y4.p (k:Nat):Pro:=⟨Tryz.prog,[(96,Yae.e k)],Zv [(2,kp [0,6,7])] false [],k⟩
noncomputable def Y4.d (k:Nat) (a0:BA):Ex->St->Option (Bool):=(Y4.p k).fin Tryz.f112 [.d (.str a0)] [1] [.b]
noncomputable def Y4.s0 (aF:BA) (aH v:Int):St:=
 match v with
 |aJ=>ZaA 48 [(0,.d false (.str aF)),(6,.d true (.int .i64 aH)),(7,.d true (.int .i64 aJ))] []
noncomputable def Y4.r0 (k:Nat) (a0 aF:BA) (aH:Int) (n:Nat) (v:Int):Option (Bool):=(Y4.p k).lp (ZI Tryz.f112) 2 [1,0,1,0] (Y4.d k a0) n (Y4.s0 aF aH v)
theorem Y4.l0_eq (k:Nat) (a0 aF:BA) (aH:Int):∀ n v,Y4.r0 k a0 aF aH n v=ZA (Y4.l0 k aF aH (λz0=>some z0)) n v:=
 Zz (Y4.s0 aF aH) _ λL0 v=>by kernel_rfl
theorem Y4.ok (k:Nat):Zf Tryz.prog 112 (Y4.e k):=Zk (Y4.p k) mix tyok Tryz.func112 (Yae.ok k) (by kernel_rfl) (λa0=>Eq.trans (b:=Y4.m k a0 (λz0=>some z0) (λaF aH=>Y4.r0 k a0 aF aH k)) (by kernel_rfl) (congrArg (Y4.m k a0 (λz0=>some z0)) (funext λaF=>funext λaH=>funext λv=>Y4.l0_eq k a0 aF aH k v) :))
noncomputable def YY.l0 {β:Type} (k:Nat) (aF:LD) (aH:Int) (aJ:LD) (aK:Int) (K:Bool->Option β) (L0:Int->Option β) (v:Int):Option β:=
 match v with
 |aL=>bif(decide ((aL:Int)<aK)) then(atR aJ aL [.s] λx17=>(Y4.f k x17 (λy18=>bif(!y18) then(K false) else(bif(decide ((aL:Int)>0)) then(atR aF (IntKind.wrap .i64 (aL-1)) [.s] λx22=>(bif(!(strLt x22 x17)) then(K false) else(L0 (IntKind.wrap .i64 (aL+1))))) else(L0 (IntKind.wrap .i64 (aL+1))))))) else(K (decide (((aF.length:Int):Int)<=aH)))
noncomputable def YY.m {β:Type} (k:Nat) (a0:LD) (a1:Int) (K:Bool->Option β) (F:(LD->Int->LD->Int->Int->Option β)):Option β:=
 F a0 a1 a0 (a0.length:Int) (0)
noncomputable def YY.g {β:Type} (k:Nat) (a0:LD) (a1:Int) (K:Bool->Option β):Option β:=
 ZA (YY.l0 k a0 a1 a0 (a0.length:Int) K) k (0)
noncomputable def YY.t (k:Nat) (a0:LD) (a1:Int):Option (Bool):=YY.g k a0 a1 (λz0=>some z0)
noncomputable def YY.f {β:Type} (k:Nat) (a0:LD) (a1:Int) (K:Bool->Option β):Option β:=bd1 (YY.t k a0 a1) K
noncomputable def YY.e (k:Nat):Zj:=ent [.d .l,.d .n] [1] [.b] [4] false (YY.t k)
noncomputable def YY.p (k:Nat):Pro:=⟨Tryz.prog,[(112,Y4.e k)],Zv [(2,kp [0,1,7,8,9])] false [],k⟩
noncomputable def YY.d (k:Nat) (a0:LD) (a1:Int):Ex->St->Option (Bool):=(YY.p k).fin Tryz.f176 [.d (.sl a0),.d (.int .i64 a1)] [1] [.b]
noncomputable def YY.s0 (aF:LD) (aH:Int) (aJ:LD) (aK v:Int):St:=
 match v with
 |aL=>ZaA 35 [(0,.d false (.sl aF)),(1,.d false (.int .i64 aH)),(7,.d false (.sl aJ)),(8,.d true (.int .i64 aK)),(9,.d true (.int .i64 aL))] []
noncomputable def YY.r0 (k:Nat) (a0:LD) (a1:Int) (aF:LD) (aH:Int) (aJ:LD) (aK:Int) (n:Nat) (v:Int):Option (Bool):=(YY.p k).lp (ZI Tryz.f176) 2 [1,0,1,0] (YY.d k a0 a1) n (YY.s0 aF aH aJ aK v)
theorem YY.l0_eq (k:Nat) (a0:LD) (a1:Int) (aF:LD) (aH:Int) (aJ:LD) (aK:Int):∀ n v,YY.r0 k a0 a1 aF aH aJ aK n v=ZA (YY.l0 k aF aH aJ aK (λz0=>some z0)) n v:=
 Zz (YY.s0 aF aH aJ aK) _ λL0 v=>by kernel_rfl
theorem YY.ok (k:Nat):Zf Tryz.prog 176 (YY.e k):=Zk (YY.p k) mix tyok Tryz.func176 (Y4.ok k) (by kernel_rfl) (λa0 a1=>Eq.trans (b:=YY.m k a0 a1 (λz0=>some z0) (λaF aH aJ aK=>YY.r0 k a0 a1 aF aH aJ aK k)) (by kernel_rfl) (congrArg (YY.m k a0 a1 (λz0=>some z0)) (funext λaF=>funext λaH=>funext λaJ=>funext λaK=>funext λv=>YY.l0_eq k a0 a1 aF aH aJ aK k v) :))
noncomputable def YX.l0 {β:Type} (k:Nat) (aF aH aJ:Bool) (aK aX:Int) (bF:BA) (bG:Int) (bI bH:LD) (K:Bool->Option β) (L0:Int->Option β) (v:Int):Option β:=
 match v with
 |aL=>bif(decide ((aL:Int)<aK)) then(atStr bF aL λb3=>Yae.f k (IntKind.wrap .i64 b3) 32 126 (λy4=>bif(!y4) then(K false) else(L0 (IntKind.wrap .i64 (aL+1))))) else(bif(decide (((bF.size:Int):Int)<=100)) then(bif aF then(bif aH then(K aJ) else(K false)) else(K false)) else(K false))
noncomputable def YX.m {β:Type} (k:Nat) (aC:Int) (aB:BA) (aD:Int) (aA aI:LD) (K:Bool->Option β) (F:(Bool->Bool->Bool->Int->Int->BA->Int->LD->LD->Int->Option β)):Option β:=
 bif((aC:Int)==1) then(F ((aD:Int)==0) (((aA.length:Int):Int)==0) (((aI.length:Int):Int)==0) (aB.size:Int) aC aB aD aA aI (0)) else(let J0:=(bif(((aA.length:Int):Int)==0) then(K (((aI.length:Int):Int)==0)) else(K false));bif((aC:Int)==2) then(bif(Zae aB (⟨#[]⟩:BA)) then J0 else(K false)) else(bif((aC:Int)==3) then(Yae.f k aD 0 1 (λy5=>bif(Zae aB (⟨#[]⟩:BA)) then(bif y5 then J0 else(K false)) else(K false))) else(bif((aC:Int)==4) then(bif(Zae aB (⟨#[]⟩:BA)) then(bif((aD:Int)==0) then(bif(((aA.length:Int):Int)==0) then(K true) else(K false)) else(K false)) else(K false)) else(bif((aC:Int)==5) then(YY.f k aA 300 (λy23=>bif y23 then(bif(Zae aB (⟨#[]⟩:BA)) then(bif((aD:Int)==0) then(bif(((aA.length:Int):Int)==(aI.length:Int)) then(K true) else(K false)) else(K false)) else(K false)) else(bif(Zae aB (⟨#[]⟩:BA)) then(bif((aD:Int)==0) then(K false) else(K false)) else(K false)))) else(K false)))))
noncomputable def YX.g {β:Type} (k:Nat) (aC:Int) (aB:BA) (aD:Int) (aA aI:LD) (K:Bool->Option β):Option β:=YX.m k aC aB aD aA aI K (λaF aH aJ aK aX bF bG bI bH=>ZA (YX.l0 k aF aH aJ aK aX bF bG bI bH K) k)
noncomputable def YX.t (k:Nat) (aC:Int) (aB:BA) (aD:Int) (aA aI:LD):Option (Bool):=YX.g k aC aB aD aA aI (λz0=>some z0)
noncomputable def YX.f {β:Type} (k:Nat) (aC:Int) (aB:BA) (aD:Int) (aA aI:LD) (K:Bool->Option β):Option β:=bd1 (YX.t k aC aB aD aA aI) K
noncomputable def YX.e (k:Nat):Zj:=ent [.agg [.n,.s,.n,.l,.l]] [1] [.b] [4] false (YX.t k)
noncomputable def YX.p (k:Nat):Pro:=⟨Tryz.prog,[(96,Yae.e k),(176,YY.e k)],Zv [(6,kp [1,4,5,6,28,29])] false [],k⟩
noncomputable def YX.d (k:Nat) (aC:Int) (aB:BA) (aD:Int) (aA aI:LD):Ex->St->Option (Bool):=(YX.p k).fin Tryz.f148 [.agg [.int .i64 aC,.str aB,.int .i64 aD,.sl aA,.sl aI]] [1] [.b]
noncomputable def YX.s0 (aF aH aJ:Bool) (aK aX:Int) (bF:BA) (bG:Int) (bI bH:LD) (v:Int):St:=
 match v with
 |aL=>ZaA 77 [(1,.bp 0 0),(4,.d true (.bool aF)),(5,.d true (.bool aH)),(6,.d true (.bool aJ)),(28,.d true (.int .i64 aK)),(29,.d true (.int .i64 aL))] [.box none 54 [.d false (.int .i64 aX),.d false (.str bF),.d false (.int .i64 bG),.d false (.sl bI),.d false (.sl bH)]]
noncomputable def YX.r0 (k:Nat) (aC:Int) (aB:BA) (aD:Int) (aA aI:LD) (aF aH aJ:Bool) (aK aX:Int) (bF:BA) (bG:Int) (bI bH:LD) (n:Nat) (v:Int):Option (Bool):=(YX.p k).lp (ZI Tryz.f148) 6 [1,1,0,1,0,1,0,0,1,0] (YX.d k aC aB aD aA aI) n (YX.s0 aF aH aJ aK aX bF bG bI bH v)
theorem YX.l0_eq (k:Nat) (aC:Int) (aB:BA) (aD:Int) (aA aI:LD) (aF aH aJ:Bool) (aK aX:Int) (bF:BA) (bG:Int) (bI bH:LD):∀ n v,YX.r0 k aC aB aD aA aI aF aH aJ aK aX bF bG bI bH n v=ZA (YX.l0 k aF aH aJ aK aX bF bG bI bH (λz0=>some z0)) n v:=
 Zz (YX.s0 aF aH aJ aK aX bF bG bI bH) _ λL0 v=>by kernel_rfl
theorem YX.ok (k:Nat):Zf Tryz.prog 148 (YX.e k):=Zk (YX.p k) mix tyok Tryz.func148 ⟨Yae.ok k,YY.ok k⟩ (by kernel_rfl) (λaC aB aD aA aI=>Eq.trans (b:=YX.m k aC aB aD aA aI (λz0=>some z0) (λaF aH aJ aK aX bF bG bI bH=>YX.r0 k aC aB aD aA aI aF aH aJ aK aX bF bG bI bH k)) (by kernel_rfl) (congrArg (YX.m k aC aB aD aA aI (λz0=>some z0)) (funext λaF=>funext λaH=>funext λaJ=>funext λaK=>funext λaX=>funext λbF=>funext λbG=>funext λbI=>funext λbH=>funext λv=>YX.l0_eq k aC aB aD aA aI aF aH aJ aK aX bF bG bI bH k v) :))
noncomputable def Yt.l0 {β:Type} (k:Nat) (r_impl_measured:Int->BA->Int->LD->LD->Int->(Int->Option β)->Option β) (aF:Int) (aJ:LD) (aK:Int) (K:Int->Option β) (L0:(Int×Int)->Option β) (v:Int×Int):Option β:=
 match v with
 |(aH,aL)=>bif(decide ((aL:Int)<aK)) then(atR aJ aL [.n,.s,.n,.l,.l] λx45 x48 x51 x54 x57=>(r_impl_measured x45 x48 x51 x54 x57 (IntKind.wrap .i64 (aF-1)) (λy58=>bif(decide (((IntKind.wrap .i64 (aH+y58)):Int)>300)) then(K 301) else(L0 (IntKind.wrap .i64 (aH+y58),IntKind.wrap .i64 (aL+1)))))) else(K aH)
noncomputable def Yt.m {β:Type} (k:Nat) (r_impl_measured:Int->BA->Int->LD->LD->Int->(Int->Option β)->Option β) (aC:Int) (aB:BA) (aD:Int) (aA aI:LD) (a1:Int) (K:Int->Option β) (F:(Int->LD->Int->(Int×Int)->Option β)):Option β:=
 bif((a1:Int)==0) then(K 301) else(YX.f k aC aB aD aA aI (λy24=>bif(!y24) then(K 301) else(F a1 aI (aI.length:Int) (1,0))))
noncomputable def Yt.body {β:Type} (k:Nat) (r_impl_measured:Int->BA->Int->LD->LD->Int->(Int->Option β)->Option β) (aC:Int) (aB:BA) (aD:Int) (aA aI:LD) (a1:Int) (K:Int->Option β):Option β:=
 bif((a1:Int)==0) then(K 301) else(YX.f k aC aB aD aA aI (λy24=>bif(!y24) then(K 301) else(ZA (Yt.l0 k r_impl_measured a1 aI (aI.length:Int) K) k (1,0))))
noncomputable def Yt.w {β:Type} (r:Int->BA->Int->LD->LD->Int->Option (Int)) (aC:Int) (aB:BA) (aD:Int) (aA aI:LD) (a1:Int) (K:Int->Option β):Option β:=bd1 (r aC aB aD aA aI a1) K
noncomputable def Yt.all:Nat->(Int->BA->Int->LD->LD->Int->Option (Int))
 |0=>(λ_ _ _ _ _ _=>none)
 |k+1=>(λr=>(λaC aB aD aA aI a1=>Yt.body k (Yt.w r) aC aB aD aA aI a1 (λz0=>some z0))) (Yt.all k)
noncomputable def Yt.t (k:Nat) (aC:Int) (aB:BA) (aD:Int) (aA aI:LD) (a1:Int):Option (Int):=(Yt.all k) aC aB aD aA aI a1
noncomputable def Yt.f {β:Type} (k:Nat) (aC:Int) (aB:BA) (aD:Int) (aA aI:LD) (a1:Int) (K:Int->Option β):Option β:=Yt.w (Yt.t k) aC aB aD aA aI a1 K
noncomputable def Yt.g {β:Type} (k:Nat) (aC:Int) (aB:BA) (aD:Int) (aA aI:LD) (a1:Int) (K:Int->Option β):Option β:=Yt.body k (Yt.f k) aC aB aD aA aI a1 K
theorem Yt.t_succ (k:Nat) (aC:Int) (aB:BA) (aD:Int) (aA aI:LD) (a1:Int):Yt.t (k+1) aC aB aD aA aI a1=Yt.g k aC aB aD aA aI a1 (λz0=>some z0):=rfl
noncomputable def Yt.e (k:Nat):Zj:=ent [.agg [.n,.s,.n,.l,.l],.d .n] [1] [.n] [3] false (Yt.t k)
noncomputable def Yt.p (k:Nat):Pro:=⟨Tryz.prog,[(148,YX.e k),(113,Yt.e k)],Zv [(5,kp [1,5,16,17,18])] false [],k⟩
noncomputable def Yt.d (k:Nat) (aC:Int) (aB:BA) (aD:Int) (aA aI:LD) (a1:Int):Ex->St->Option (Int):=(Yt.p k).fin Tryz.f113 [.agg [.int .i64 aC,.str aB,.int .i64 aD,.sl aA,.sl aI],.d (.int .i64 a1)] [1] [.n]
noncomputable def Yt.s0 (aF:Int) (aJ:LD) (aK:Int) (v:Int×Int):St:=
 match v with
 |(aH,aL)=>ZaA 32 [(1,.d false (.int .i64 aF)),(5,.d true (.int .i64 aH)),(16,.d false (.sl aJ)),(17,.d true (.int .i64 aK)),(18,.d true (.int .i64 aL))] []
noncomputable def Yt.r0 (k:Nat) (aC:Int) (aB:BA) (aD:Int) (aA aI:LD) (a1 aF:Int) (aJ:LD) (aK:Int) (n:Nat) (v:Int×Int):Option (Int):=(Yt.p k).lp (ZI Tryz.f113) 5 [1,1,1,0,1,0] (Yt.d k aC aB aD aA aI a1) n (Yt.s0 aF aJ aK v)
theorem Yt.l0_eq (k:Nat) (aC:Int) (aB:BA) (aD:Int) (aA aI:LD) (a1 aF:Int) (aJ:LD) (aK:Int):∀ n v,Yt.r0 k aC aB aD aA aI a1 aF aJ aK n v=ZA (Yt.l0 k (Yt.f k) aF aJ aK (λz0=>some z0)) n v:=
 Zz (Yt.s0 aF aJ aK) _ λL0 v=>by obtain⟨aH,aL⟩:=v;kernel_rfl
theorem Yt.oks (k:Nat):Zf Tryz.prog 113 (Yt.e k):=by
 induction k with
 |zero=>exact Zba Tryz.func113 (by kernel_rfl) (λ_ _ _ _ _ _=>rfl)
 |succ k ih=>exact Zk (Yt.p k) mix tyok Tryz.func113 ⟨YX.ok k,ih⟩ (by kernel_rfl) (λaC aB aD aA aI a1=>Eq.trans (b:=Yt.m k (Yt.f k) aC aB aD aA aI a1 (λz0=>some z0) (λaF aJ aK=>Yt.r0 k aC aB aD aA aI a1 aF aJ aK k)) (by kernel_rfl) ((congrArg (Yt.m k (Yt.f k) aC aB aD aA aI a1 (λz0=>some z0)) (funext λaF=>funext λaJ=>funext λaK=>funext λv=>Yt.l0_eq k aC aB aD aA aI a1 aF aJ aK k v)).trans (Yt.t_succ k aC aB aD aA aI a1).symm))
theorem Yt.ok (k:Nat):Zf Tryz.prog 113 (Yt.e k):=(Yt.oks k)
noncomputable def Yak.g {β:Type} (k:Nat) (aC:Int) (aB:BA) (aD:Int) (aA aI:LD) (K:Bool->Option β):Option β:=
 Yt.f k aC aB aD aA aI 6 (λy59=>K (decide ((y59:Int)<=300)))
noncomputable def Yak.t (k:Nat) (aC:Int) (aB:BA) (aD:Int) (aA aI:LD):Option (Bool):=Yak.g k aC aB aD aA aI (λz0=>some z0)
noncomputable def Yak.f {β:Type} (k:Nat) (aC:Int) (aB:BA) (aD:Int) (aA aI:LD) (K:Bool->Option β):Option β:=bd1 (Yak.t k aC aB aD aA aI) K
noncomputable def Yak.e (k:Nat):Zj:=ent [.agg [.n,.s,.n,.l,.l]] [1] [.b] [4] false (Yak.t k)
noncomputable def Yak.p (k:Nat):Pro:=⟨Tryz.prog,[(113,Yt.e k)],Zv [] false [],k⟩
theorem Yak.ok (k:Nat):Zf Tryz.prog 57 (Yak.e k):=Zk (Yak.p k) mix tyok Tryz.func57 (Yt.ok k) (by kernel_rfl) (λaC aB aD aA aI=>by show _=_;kernel_rfl)
noncomputable def Yaz.g {β:Type} (k:Nat) (a0:Int) (K:Bool->Option β):Option β:=
 Yae.f k a0 1 3 (λy1=>K y1)
noncomputable def Yaz.t (k:Nat) (a0:Int):Option (Bool):=Yaz.g k a0 (λz0=>some z0)
noncomputable def Yaz.f {β:Type} (k:Nat) (a0:Int) (K:Bool->Option β):Option β:=bd1 (Yaz.t k a0) K
noncomputable def Yaz.e (k:Nat):Zj:=ent [.d .n] [1] [.b] [4] false (Yaz.t k)
noncomputable def Yaz.p (k:Nat):Pro:=⟨Tryz.prog,[(96,Yae.e k)],Zv [] false [],k⟩
theorem Yaz.ok (k:Nat):Zf Tryz.prog 111 (Yaz.e k):=Zk (Yaz.p k) mix tyok Tryz.func111 (Yae.ok k) (by kernel_rfl) (λa0=>by show _=_;kernel_rfl)
noncomputable def YaJ.g {β:Type} (k:Nat) (aC:Int) (aB:BA) (aD aA aI:Int) (bE:Bool) (aW:LD) (bB:Int) (aR:BA) (bC:Int) (aT aY:LD) (bA:Int) (aU:BA) (bD:Int) (aV aZ:LD) (a1 a2:Int) (a3:Bool) (K:Bool->Option β):Option β:=
 Yaz.f k aC (λy2=>bif y2 then(Y4.f k aB (λy3=>bif y3 then(Yae.f k aD 1 a1 (λy4=>bif y4 then(Yae.f k aA 1 a2 (λy5=>bif y5 then(Yae.f k aI 1 aA (λy6=>bif y6 then(YY.f k aW 4 (λy7=>bif y7 then(bif a3 then(Yak.f k bB aR bC aT aY (λy8=>bif y8 then(Yak.f k bA aU bD aV aZ (λy9=>K y9)) else(K false))) else(bif(!bE) then(Yak.f k bB aR bC aT aY (λy10=>bif y10 then(Yak.f k bA aU bD aV aZ (λy11=>K y11)) else(K false))) else(bif(decide (((aW.length:Int):Int)>0)) then(Yak.f k bB aR bC aT aY (λy12=>bif y12 then(Yak.f k bA aU bD aV aZ (λy13=>K y13)) else(K false))) else(K false)))) else(K false))) else(K false))) else(K false))) else(K false))) else(K false))) else(K false))
noncomputable def YaJ.t (k:Nat) (aC:Int) (aB:BA) (aD aA aI:Int) (bE:Bool) (aW:LD) (bB:Int) (aR:BA) (bC:Int) (aT aY:LD) (bA:Int) (aU:BA) (bD:Int) (aV aZ:LD) (a1 a2:Int) (a3:Bool):Option (Bool):=YaJ.g k aC aB aD aA aI bE aW bB aR bC aT aY bA aU bD aV aZ a1 a2 a3 (λz0=>some z0)
noncomputable def YaJ.f {β:Type} (k:Nat) (aC:Int) (aB:BA) (aD aA aI:Int) (bE:Bool) (aW:LD) (bB:Int) (aR:BA) (bC:Int) (aT aY:LD) (bA:Int) (aU:BA) (bD:Int) (aV aZ:LD) (a1 a2:Int) (a3:Bool) (K:Bool->Option β):Option β:=bd1 (YaJ.t k aC aB aD aA aI bE aW bB aR bC aT aY bA aU bD aV aZ a1 a2 a3) K
noncomputable def YaJ.e (k:Nat):Zj:=ent [.agg [.n,.s,.n,.n,.n,.b,.l,.n,.s,.n,.l,.l,.n,.s,.n,.l,.l],.d .n,.d .n,.d .b] [1] [.b] [4] false (YaJ.t k)
noncomputable def YaJ.p (k:Nat):Pro:=⟨Tryz.prog,[(111,Yaz.e k),(112,Y4.e k),(96,Yae.e k),(176,YY.e k),(57,Yak.e k)],Zv [] false [],k⟩
theorem YaJ.ok (k:Nat):Zf Tryz.prog 143 (YaJ.e k):=Zk (YaJ.p k) mix tyok Tryz.func143 ⟨Yaz.ok k,Y4.ok k,Yae.ok k,YY.ok k,Yak.ok k⟩ (by kernel_rfl) (λaC aB aD aA aI bE aW bB aR bC aT aY bA aU bD aV aZ a1 a2 a3=>by show _=_;kernel_rfl)
noncomputable def Yar.g {β:Type} (k:Nat) (a0:Int) (K:Bool->Option β):Option β:=
 K ((a0:Int)!=a0)
noncomputable def Yar.t (k:Nat) (a0:Int):Option (Bool):=Yar.g k a0 (λz0=>some z0)
noncomputable def Yar.f {β:Type} (k:Nat) (a0:Int) (K:Bool->Option β):Option β:=bd1 (Yar.t k a0) K
noncomputable def Yar.e (k:Nat):Zj:=ent [.d .n] [1] [.b] [4] false (Yar.t k)
noncomputable def Yar.p (k:Nat):Pro:=⟨Tryz.prog,[],Zv [] false [],k⟩
theorem Yar.ok (k:Nat):Zf Tryz.prog 177 (Yar.e k):=Zk (Yar.p k) mix tyok Tryz.func177 trivial (by kernel_rfl) (λa0=>by show _=_;kernel_rfl)
noncomputable def Yag.g {β:Type} (k:Nat) (a0 a1:Int) (K:Int->Option β):Option β:=
 Yar.f k a0 (λy1=>Yar.f k a1 (λy2=>bif y1 then(bif y2 then(K 0) else(K (-1))) else(bif y2 then(K 1) else(bif(decide ((a0:Int)<a1)) then(K (-1)) else(bif(decide ((a0:Int)>a1)) then(K 1) else(K 0))))))
noncomputable def Yag.t (k:Nat) (a0 a1:Int):Option (Int):=Yag.g k a0 a1 (λz0=>some z0)
noncomputable def Yag.f {β:Type} (k:Nat) (a0 a1:Int) (K:Int->Option β):Option β:=bd1 (Yag.t k a0 a1) K
noncomputable def Yag.e (k:Nat):Zj:=ent [.d .n,.d .n] [1] [.n] [3] false (Yag.t k)
noncomputable def Yag.p (k:Nat):Pro:=⟨Tryz.prog,[(177,Yar.e k)],Zv [] false [],k⟩
theorem Yag.ok (k:Nat):Zf Tryz.prog 151 (Yag.e k):=Zk (Yag.p k) mix tyok Tryz.func151 (Yar.ok k) (by kernel_rfl) (λa0 a1=>by show _=_;kernel_rfl)
noncomputable def Yan.t (k:Nat) (a0 a1:BA):Option Int:=some (cmpS a0 a1)
noncomputable def Yan.f {β:Type} (k:Nat) (a0 a1:BA) (K:Int->Option β):Option β:=
 match Yan.t k a0 a1 with
 |some z0=>K z0
 |none=>none
noncomputable def Yan.run (k:Nat):{β:Type}->List A->(LC->List Out->Option β)->Option β:=λ{β} l K=>
 match l with
 |[.d (.str a0),.d (.str a1)]=>Yan.f k a0 a1 (λz0=>K [[.d (.int .i64 z0)]] [])
 |_=>none
noncomputable def Yan.e (k:Nat):Zj:={ modes:=[(.imm,0),(.imm,0)],rts:=[3],al:=false,run:=Yan.run k }
set_option maxHeartbeats 1000000 in
set_option maxRecDepth 100000 in
theorem Yan.calls (a b:BA) (w:World):Calls Tryz.prog 178 #[.string a,.string b] w λe w'=>e=.returned (.int .i64 (cmpS a b))/\w'=w:=by
 go_enter Tryz.func178,Tryz.ntmps178
 go_wp2
 rw[run_callFunc_extern Tryz.func195 (by kernel_rfl) (by kernel_rfl) (by kernel_rfl) (e:=Extern.BytealgCompare.compare) (by kernel_rfl),Go.Lib.run_compareString]
 simp only[Result.andThen]
 rw[Oper.upon_value]
 go_wp2
 go_ret
 exact⟨rfl,rfl⟩
theorem Yan.ok (k:Nat):Zf Tryz.prog 178 (Yan.e k):=strs_ok (t:=3) (g:=cmpS) (run:=λ{β}=>Yan.run k) (enter_of Tryz.func178 (by kernel_rfl)) (by kernel_rfl) (by kernel_rfl) Yan.calls (λβ aa K r h=>by
 unfold Yan.run at h
 split at h
 ·exact⟨_,_,rfl,h⟩
 ·cases h)
noncomputable def Yaf.g {β:Type} (k:Nat) (a0 a1:BA) (K:Int->Option β):Option β:=
 Yan.f k a0 a1 (λy1=>K y1)
noncomputable def Yaf.t (k:Nat) (a0 a1:BA):Option (Int):=Yaf.g k a0 a1 (λz0=>some z0)
noncomputable def Yaf.f {β:Type} (k:Nat) (a0 a1:BA) (K:Int->Option β):Option β:=bd1 (Yaf.t k a0 a1) K
noncomputable def Yaf.e (k:Nat):Zj:=ent [.d .s,.d .s] [1] [.n] [3] false (Yaf.t k)
noncomputable def Yaf.p (k:Nat):Pro:=⟨Tryz.prog,[(178,Yan.e k)],Zv [] false [],k⟩
theorem Yaf.ok (k:Nat):Zf Tryz.prog 152 (Yaf.e k):=Zk (Yaf.p k) mix tyok Tryz.func152 (Yan.ok k) (by kernel_rfl) (λa0 a1=>by show _=_;kernel_rfl)
noncomputable def Yah.g {β:Type} (k:Nat) (aC:Int) (aB:BA) (aD aA aI:Int) (bE:Bool) (aW:LD) (bB:Int) (aR:BA) (bC:Int) (aT aY:LD) (bA:Int) (aU:BA) (bD:Int) (aV aZ:LD) (aM:Int) (aN:BA) (aO aP aQ:Int) (bJ:Bool) (bK:LD) (bL:Int) (bM:BA) (bN:Int) (bO bP:LD) (bQ:Int) (bR:BA) (bT:Int) (bU bV:LD) (K:Int->Option β):Option β:=
 Yag.f k aC aM (λy3=>bif((y3:Int)!=0) then(K y3) else(Yaf.f k aB aN (λy4=>K y4)))
noncomputable def Yah.t (k:Nat) (aC:Int) (aB:BA) (aD aA aI:Int) (bE:Bool) (aW:LD) (bB:Int) (aR:BA) (bC:Int) (aT aY:LD) (bA:Int) (aU:BA) (bD:Int) (aV aZ:LD) (aM:Int) (aN:BA) (aO aP aQ:Int) (bJ:Bool) (bK:LD) (bL:Int) (bM:BA) (bN:Int) (bO bP:LD) (bQ:Int) (bR:BA) (bT:Int) (bU bV:LD):Option (Int):=Yah.g k aC aB aD aA aI bE aW bB aR bC aT aY bA aU bD aV aZ aM aN aO aP aQ bJ bK bL bM bN bO bP bQ bR bT bU bV (λz0=>some z0)
noncomputable def Yah.f {β:Type} (k:Nat) (aC:Int) (aB:BA) (aD aA aI:Int) (bE:Bool) (aW:LD) (bB:Int) (aR:BA) (bC:Int) (aT aY:LD) (bA:Int) (aU:BA) (bD:Int) (aV aZ:LD) (aM:Int) (aN:BA) (aO aP aQ:Int) (bJ:Bool) (bK:LD) (bL:Int) (bM:BA) (bN:Int) (bO bP:LD) (bQ:Int) (bR:BA) (bT:Int) (bU bV:LD) (K:Int->Option β):Option β:=bd1 (Yah.t k aC aB aD aA aI bE aW bB aR bC aT aY bA aU bD aV aZ aM aN aO aP aQ bJ bK bL bM bN bO bP bQ bR bT bU bV) K
noncomputable def Yah.e (k:Nat):Zj:=ent [.agg [.n,.s,.n,.n,.n,.b,.l,.n,.s,.n,.l,.l,.n,.s,.n,.l,.l],.agg [.n,.s,.n,.n,.n,.b,.l,.n,.s,.n,.l,.l,.n,.s,.n,.l,.l]] [1] [.n] [3] false (Yah.t k)
noncomputable def Yah.p (k:Nat):Pro:=⟨Tryz.prog,[(151,Yag.e k),(152,Yaf.e k)],Zv [] false [],k⟩
theorem Yah.ok (k:Nat):Zf Tryz.prog 120 (Yah.e k):=Zk (Yah.p k) mix tyok Tryz.func120 ⟨Yag.ok k,Yaf.ok k⟩ (by kernel_rfl) (λaC aB aD aA aI bE aW bB aR bC aT aY bA aU bD aV aZ aM aN aO aP aQ bJ bK bL bM bN bO bP bQ bR bT bU bV=>by show _=_;kernel_rfl)
noncomputable def YaC.g {β:Type} (k:Nat) (aC:Int) (aB:BA) (aD aA aI:Int) (bE:Bool) (aW:LD) (bB:Int) (aR:BA) (bC:Int) (aT aY:LD) (bA:Int) (aU:BA) (bD:Int) (aV aZ:LD) (f0_0:Int) (f0_1:BA) (f0_2 f0_3 f0_4:Int) (f0_5:Bool) (f0_6:LD) (f0_7:Int) (f0_8:BA) (f0_9:Int) (f0_10 f0_11:LD) (f0_12:Int) (f0_13:BA) (f0_14:Int) (f0_15 f0_16:LD) (K:Bool->Option β):Option β:=
 K ((aD:Int)==f0_2)
noncomputable def YaC.t (k:Nat) (aC:Int) (aB:BA) (aD aA aI:Int) (bE:Bool) (aW:LD) (bB:Int) (aR:BA) (bC:Int) (aT aY:LD) (bA:Int) (aU:BA) (bD:Int) (aV aZ:LD) (f0_0:Int) (f0_1:BA) (f0_2 f0_3 f0_4:Int) (f0_5:Bool) (f0_6:LD) (f0_7:Int) (f0_8:BA) (f0_9:Int) (f0_10 f0_11:LD) (f0_12:Int) (f0_13:BA) (f0_14:Int) (f0_15 f0_16:LD):Option (Bool):=YaC.g k aC aB aD aA aI bE aW bB aR bC aT aY bA aU bD aV aZ f0_0 f0_1 f0_2 f0_3 f0_4 f0_5 f0_6 f0_7 f0_8 f0_9 f0_10 f0_11 f0_12 f0_13 f0_14 f0_15 f0_16 (λz0=>some z0)
noncomputable def YaC.f {β:Type} (k:Nat) (aC:Int) (aB:BA) (aD aA aI:Int) (bE:Bool) (aW:LD) (bB:Int) (aR:BA) (bC:Int) (aT aY:LD) (bA:Int) (aU:BA) (bD:Int) (aV aZ:LD) (f0_0:Int) (f0_1:BA) (f0_2 f0_3 f0_4:Int) (f0_5:Bool) (f0_6:LD) (f0_7:Int) (f0_8:BA) (f0_9:Int) (f0_10 f0_11:LD) (f0_12:Int) (f0_13:BA) (f0_14:Int) (f0_15 f0_16:LD) (K:Bool->Option β):Option β:=bd1 (YaC.t k aC aB aD aA aI bE aW bB aR bC aT aY bA aU bD aV aZ f0_0 f0_1 f0_2 f0_3 f0_4 f0_5 f0_6 f0_7 f0_8 f0_9 f0_10 f0_11 f0_12 f0_13 f0_14 f0_15 f0_16) K
noncomputable def YaC.e (k:Nat):Zj:=ent [.agg [.n,.s,.n,.n,.n,.b,.l,.n,.s,.n,.l,.l,.n,.s,.n,.l,.l],.ip [.n,.s,.n,.n,.n,.b,.l,.n,.s,.n,.l,.l,.n,.s,.n,.l,.l]] [1] [.b] [4] false (YaC.t k)
noncomputable def YaC.p (k:Nat):Pro:=⟨Tryz.prog,[],Zv [] false [],k⟩
theorem YaC.ok (k:Nat):Zf Tryz.prog 175 (YaC.e k):=Zk (YaC.p k) mix tyok Tryz.func175 trivial (by kernel_rfl) (λaC aB aD aA aI bE aW bB aR bC aT aY bA aU bD aV aZ f0_0 f0_1 f0_2 f0_3 f0_4 f0_5 f0_6 f0_7 f0_8 f0_9 f0_10 f0_11 f0_12 f0_13 f0_14 f0_15 f0_16=>by show _=_;kernel_rfl)
noncomputable def Ye.l0 {β:Type} (k:Nat) (aF:LD) (aH:Int) (aJ:BA) (aK aL aX:Int) (bF:Bool) (bG:LD) (bI:Int) (bH:BA) (bW:Int) (bX bY:LD) (cG:Int) (cH:BA) (cJ:Int) (cK cL:LD) (cM:Int) (K L0:Int->Option β) (v:Int):Option β:=
 match v with
 |cP=>bif(decide ((cP:Int)<cM)) then(atR aF cP [.n,.s,.n,.n,.n,.b,.l,.n,.s,.n,.l,.l,.n,.s,.n,.l,.l] λx57 x60 x63 x66 x69 x72 x75 x78 x81 x84 x87 x90 x93 x96 x99 x102 x105=>(YaC.f k x57 x60 x63 x66 x69 x72 x75 x78 x81 x84 x87 x90 x93 x96 x99 x102 x105 aH aJ aK aL aX bF bG bI bH bW bX bY cG cH cJ cK cL (λy106=>bif y106 then(K cP) else(L0 (IntKind.wrap .i64 (cP+1)))))) else(K (-1))
noncomputable def Ye.m {β:Type} (k:Nat) (a0:LD) (a1_0_0:Int) (a1_0_1:BA) (a1_0_2 a1_0_3 a1_0_4:Int) (a1_0_5:Bool) (a1_0_6:LD) (a1_0_7:Int) (a1_0_8:BA) (a1_0_9:Int) (a1_0_10 a1_0_11:LD) (a1_0_12:Int) (a1_0_13:BA) (a1_0_14:Int) (a1_0_15 a1_0_16:LD) (K:Int->Option β) (F:(LD->Int->BA->Int->Int->Int->Bool->LD->Int->BA->Int->LD->LD->Int->BA->Int->LD->LD->Int->Int->Option β)):Option β:=
 F a0 a1_0_0 a1_0_1 a1_0_2 a1_0_3 a1_0_4 a1_0_5 a1_0_6 a1_0_7 a1_0_8 a1_0_9 a1_0_10 a1_0_11 a1_0_12 a1_0_13 a1_0_14 a1_0_15 a1_0_16 (a0.length:Int) (0)
noncomputable def Ye.g {β:Type} (k:Nat) (a0:LD) (a1_0_0:Int) (a1_0_1:BA) (a1_0_2 a1_0_3 a1_0_4:Int) (a1_0_5:Bool) (a1_0_6:LD) (a1_0_7:Int) (a1_0_8:BA) (a1_0_9:Int) (a1_0_10 a1_0_11:LD) (a1_0_12:Int) (a1_0_13:BA) (a1_0_14:Int) (a1_0_15 a1_0_16:LD) (K:Int->Option β):Option β:=
 ZA (Ye.l0 k a0 a1_0_0 a1_0_1 a1_0_2 a1_0_3 a1_0_4 a1_0_5 a1_0_6 a1_0_7 a1_0_8 a1_0_9 a1_0_10 a1_0_11 a1_0_12 a1_0_13 a1_0_14 a1_0_15 a1_0_16 (a0.length:Int) K) k (0)
noncomputable def Ye.t (k:Nat) (a0:LD) (a1_0_0:Int) (a1_0_1:BA) (a1_0_2 a1_0_3 a1_0_4:Int) (a1_0_5:Bool) (a1_0_6:LD) (a1_0_7:Int) (a1_0_8:BA) (a1_0_9:Int) (a1_0_10 a1_0_11:LD) (a1_0_12:Int) (a1_0_13:BA) (a1_0_14:Int) (a1_0_15 a1_0_16:LD):Option (Int):=Ye.g k a0 a1_0_0 a1_0_1 a1_0_2 a1_0_3 a1_0_4 a1_0_5 a1_0_6 a1_0_7 a1_0_8 a1_0_9 a1_0_10 a1_0_11 a1_0_12 a1_0_13 a1_0_14 a1_0_15 a1_0_16 (λz0=>some z0)
noncomputable def Ye.f {β:Type} (k:Nat) (a0:LD) (a1_0_0:Int) (a1_0_1:BA) (a1_0_2 a1_0_3 a1_0_4:Int) (a1_0_5:Bool) (a1_0_6:LD) (a1_0_7:Int) (a1_0_8:BA) (a1_0_9:Int) (a1_0_10 a1_0_11:LD) (a1_0_12:Int) (a1_0_13:BA) (a1_0_14:Int) (a1_0_15 a1_0_16:LD) (K:Int->Option β):Option β:=bd1 (Ye.t k a0 a1_0_0 a1_0_1 a1_0_2 a1_0_3 a1_0_4 a1_0_5 a1_0_6 a1_0_7 a1_0_8 a1_0_9 a1_0_10 a1_0_11 a1_0_12 a1_0_13 a1_0_14 a1_0_15 a1_0_16) K
noncomputable def Ye.e (k:Nat):Zj:=ent [.d .l,.fn 175 [[.n,.s,.n,.n,.n,.b,.l,.n,.s,.n,.l,.l,.n,.s,.n,.l,.l]]] [1] [.n] [3] false (Ye.t k)
noncomputable def Ye.p (k:Nat):Pro:=⟨Tryz.prog,[(175,YaC.e k)],Zv [(2,kp [0,1,7,8])] false [],k⟩
noncomputable def Ye.d (k:Nat) (a0:LD) (a1_0_0:Int) (a1_0_1:BA) (a1_0_2 a1_0_3 a1_0_4:Int) (a1_0_5:Bool) (a1_0_6:LD) (a1_0_7:Int) (a1_0_8:BA) (a1_0_9:Int) (a1_0_10 a1_0_11:LD) (a1_0_12:Int) (a1_0_13:BA) (a1_0_14:Int) (a1_0_15 a1_0_16:LD):Ex->St->Option (Int):=(Ye.p k).fin Tryz.f149 [.d (.sl a0),.d (.fn 175 [[.int .i64 a1_0_0,.str a1_0_1,.int .i64 a1_0_2,.int .i64 a1_0_3,.int .i64 a1_0_4,.bool a1_0_5,.sl a1_0_6,.int .i64 a1_0_7,.str a1_0_8,.int .i64 a1_0_9,.sl a1_0_10,.sl a1_0_11,.int .i64 a1_0_12,.str a1_0_13,.int .i64 a1_0_14,.sl a1_0_15,.sl a1_0_16]])] [1] [.n]
noncomputable def Ye.s0 (aF:LD) (aH:Int) (aJ:BA) (aK aL aX:Int) (bF:Bool) (bG:LD) (bI:Int) (bH:BA) (bW:Int) (bX bY:LD) (cG:Int) (cH:BA) (cJ:Int) (cK cL:LD) (cM v:Int):St:=
 match v with
 |cP=>ZaA 19 [(0,.d false (.sl aF)),(1,.d false (.fn 175 [[.int .i64 aH,.str aJ,.int .i64 aK,.int .i64 aL,.int .i64 aX,.bool bF,.sl bG,.int .i64 bI,.str bH,.int .i64 bW,.sl bX,.sl bY,.int .i64 cG,.str cH,.int .i64 cJ,.sl cK,.sl cL]])),(7,.d true (.int .i64 cM)),(8,.d true (.int .i64 cP))] []
noncomputable def Ye.r0 (k:Nat) (a0:LD) (a1_0_0:Int) (a1_0_1:BA) (a1_0_2 a1_0_3 a1_0_4:Int) (a1_0_5:Bool) (a1_0_6:LD) (a1_0_7:Int) (a1_0_8:BA) (a1_0_9:Int) (a1_0_10 a1_0_11:LD) (a1_0_12:Int) (a1_0_13:BA) (a1_0_14:Int) (a1_0_15 a1_0_16 aF:LD) (aH:Int) (aJ:BA) (aK aL aX:Int) (bF:Bool) (bG:LD) (bI:Int) (bH:BA) (bW:Int) (bX bY:LD) (cG:Int) (cH:BA) (cJ:Int) (cK cL:LD) (cM:Int) (n:Nat) (v:Int):Option (Int):=(Ye.p k).lp (ZI Tryz.f149) 2 [1,0,1,0] (Ye.d k a0 a1_0_0 a1_0_1 a1_0_2 a1_0_3 a1_0_4 a1_0_5 a1_0_6 a1_0_7 a1_0_8 a1_0_9 a1_0_10 a1_0_11 a1_0_12 a1_0_13 a1_0_14 a1_0_15 a1_0_16) n (Ye.s0 aF aH aJ aK aL aX bF bG bI bH bW bX bY cG cH cJ cK cL cM v)
theorem Ye.l0_eq (k:Nat) (a0:LD) (a1_0_0:Int) (a1_0_1:BA) (a1_0_2 a1_0_3 a1_0_4:Int) (a1_0_5:Bool) (a1_0_6:LD) (a1_0_7:Int) (a1_0_8:BA) (a1_0_9:Int) (a1_0_10 a1_0_11:LD) (a1_0_12:Int) (a1_0_13:BA) (a1_0_14:Int) (a1_0_15 a1_0_16 aF:LD) (aH:Int) (aJ:BA) (aK aL aX:Int) (bF:Bool) (bG:LD) (bI:Int) (bH:BA) (bW:Int) (bX bY:LD) (cG:Int) (cH:BA) (cJ:Int) (cK cL:LD) (cM:Int):∀ n v,Ye.r0 k a0 a1_0_0 a1_0_1 a1_0_2 a1_0_3 a1_0_4 a1_0_5 a1_0_6 a1_0_7 a1_0_8 a1_0_9 a1_0_10 a1_0_11 a1_0_12 a1_0_13 a1_0_14 a1_0_15 a1_0_16 aF aH aJ aK aL aX bF bG bI bH bW bX bY cG cH cJ cK cL cM n v=ZA (Ye.l0 k aF aH aJ aK aL aX bF bG bI bH bW bX bY cG cH cJ cK cL cM (λz0=>some z0)) n v:=
 Zz (Ye.s0 aF aH aJ aK aL aX bF bG bI bH bW bX bY cG cH cJ cK cL cM) _ λL0 v=>by kernel_rfl
theorem Ye.ok (k:Nat):Zf Tryz.prog 149 (Ye.e k):=Zk (Ye.p k) mix tyok Tryz.func149 (YaC.ok k) (by kernel_rfl) (λa0 a1_0_0 a1_0_1 a1_0_2 a1_0_3 a1_0_4 a1_0_5 a1_0_6 a1_0_7 a1_0_8 a1_0_9 a1_0_10 a1_0_11 a1_0_12 a1_0_13 a1_0_14 a1_0_15 a1_0_16=>Eq.trans (b:=Ye.m k a0 a1_0_0 a1_0_1 a1_0_2 a1_0_3 a1_0_4 a1_0_5 a1_0_6 a1_0_7 a1_0_8 a1_0_9 a1_0_10 a1_0_11 a1_0_12 a1_0_13 a1_0_14 a1_0_15 a1_0_16 (λz0=>some z0) (λaF aH aJ aK aL aX bF bG bI bH bW bX bY cG cH cJ cK cL cM=>Ye.r0 k a0 a1_0_0 a1_0_1 a1_0_2 a1_0_3 a1_0_4 a1_0_5 a1_0_6 a1_0_7 a1_0_8 a1_0_9 a1_0_10 a1_0_11 a1_0_12 a1_0_13 a1_0_14 a1_0_15 a1_0_16 aF aH aJ aK aL aX bF bG bI bH bW bX bY cG cH cJ cK cL cM k)) (by kernel_rfl) (congrArg (Ye.m k a0 a1_0_0 a1_0_1 a1_0_2 a1_0_3 a1_0_4 a1_0_5 a1_0_6 a1_0_7 a1_0_8 a1_0_9 a1_0_10 a1_0_11 a1_0_12 a1_0_13 a1_0_14 a1_0_15 a1_0_16 (λz0=>some z0)) (funext λaF=>funext λaH=>funext λaJ=>funext λaK=>funext λaL=>funext λaX=>funext λbF=>funext λbG=>funext λbI=>funext λbH=>funext λbW=>funext λbX=>funext λbY=>funext λcG=>funext λcH=>funext λcJ=>funext λcK=>funext λcL=>funext λcM=>funext λv=>Ye.l0_eq k a0 a1_0_0 a1_0_1 a1_0_2 a1_0_3 a1_0_4 a1_0_5 a1_0_6 a1_0_7 a1_0_8 a1_0_9 a1_0_10 a1_0_11 a1_0_12 a1_0_13 a1_0_14 a1_0_15 a1_0_16 aF aH aJ aK aL aX bF bG bI bH bW bX bY cG cH cJ cK cL cM k v) :))
noncomputable def Yn.g {β:Type} (k:Nat) (a0:LD) (a1_0_0:Int) (a1_0_1:BA) (a1_0_2 a1_0_3 a1_0_4:Int) (a1_0_5:Bool) (a1_0_6:LD) (a1_0_7:Int) (a1_0_8:BA) (a1_0_9:Int) (a1_0_10 a1_0_11:LD) (a1_0_12:Int) (a1_0_13:BA) (a1_0_14:Int) (a1_0_15 a1_0_16:LD) (K:Bool->Option β):Option β:=
 Ye.f k a0 a1_0_0 a1_0_1 a1_0_2 a1_0_3 a1_0_4 a1_0_5 a1_0_6 a1_0_7 a1_0_8 a1_0_9 a1_0_10 a1_0_11 a1_0_12 a1_0_13 a1_0_14 a1_0_15 a1_0_16 (λy107=>K (decide ((y107:Int)>=0)))
noncomputable def Yn.t (k:Nat) (a0:LD) (a1_0_0:Int) (a1_0_1:BA) (a1_0_2 a1_0_3 a1_0_4:Int) (a1_0_5:Bool) (a1_0_6:LD) (a1_0_7:Int) (a1_0_8:BA) (a1_0_9:Int) (a1_0_10 a1_0_11:LD) (a1_0_12:Int) (a1_0_13:BA) (a1_0_14:Int) (a1_0_15 a1_0_16:LD):Option (Bool):=Yn.g k a0 a1_0_0 a1_0_1 a1_0_2 a1_0_3 a1_0_4 a1_0_5 a1_0_6 a1_0_7 a1_0_8 a1_0_9 a1_0_10 a1_0_11 a1_0_12 a1_0_13 a1_0_14 a1_0_15 a1_0_16 (λz0=>some z0)
noncomputable def Yn.f {β:Type} (k:Nat) (a0:LD) (a1_0_0:Int) (a1_0_1:BA) (a1_0_2 a1_0_3 a1_0_4:Int) (a1_0_5:Bool) (a1_0_6:LD) (a1_0_7:Int) (a1_0_8:BA) (a1_0_9:Int) (a1_0_10 a1_0_11:LD) (a1_0_12:Int) (a1_0_13:BA) (a1_0_14:Int) (a1_0_15 a1_0_16:LD) (K:Bool->Option β):Option β:=bd1 (Yn.t k a0 a1_0_0 a1_0_1 a1_0_2 a1_0_3 a1_0_4 a1_0_5 a1_0_6 a1_0_7 a1_0_8 a1_0_9 a1_0_10 a1_0_11 a1_0_12 a1_0_13 a1_0_14 a1_0_15 a1_0_16) K
noncomputable def Yn.e (k:Nat):Zj:=ent [.d .l,.fn 175 [[.n,.s,.n,.n,.n,.b,.l,.n,.s,.n,.l,.l,.n,.s,.n,.l,.l]]] [1] [.b] [4] false (Yn.t k)
noncomputable def Yn.p (k:Nat):Pro:=⟨Tryz.prog,[(149,Ye.e k)],Zv [] false [],k⟩
theorem Yn.ok (k:Nat):Zf Tryz.prog 174 (Yn.e k):=Zk (Yn.p k) mix tyok Tryz.func174 (Ye.ok k) (by kernel_rfl) (λa0 a1_0_0 a1_0_1 a1_0_2 a1_0_3 a1_0_4 a1_0_5 a1_0_6 a1_0_7 a1_0_8 a1_0_9 a1_0_10 a1_0_11 a1_0_12 a1_0_13 a1_0_14 a1_0_15 a1_0_16=>by show _=_;kernel_rfl)
noncomputable def Yab.l0 {β:Type} (k:Nat) (aF:LD) (aH aJ:Int) (aK:LD) (aL:Int) (K:Bool->Option β) (L0:Int->Option β) (v:Int):Option β:=
 match v with
 |aX=>bif(decide ((aX:Int)<aL)) then(atR aK aX [.n,.s,.n,.n,.n,.b,.l,.n,.s,.n,.l,.l,.n,.s,.n,.l,.l] λx113 x116 x119 x122 x125 x128 x131 x134 x137 x140 x143 x146 x149 x152 x155 x158 x161=>(YaJ.f k x113 x116 x119 x122 x125 x128 x131 x134 x137 x140 x143 x146 x149 x152 x155 x158 x161 aH aJ false (λy162=>bif(!y162) then(K false) else(let J0:=(0<=(0:Int)/\(0:Int)<=(aX:Int)/\(aX:Int)<=(aF.length:Int)/\Zbk 17 aF);let J1:=((aF.drop (Int.toNat (0:Int))).take (Int.toNat (aX:Int)-Int.toNat (0:Int)));bif(decide ((aX:Int)>0)) then(atR aF (IntKind.wrap .i64 (aX-1)) [.n,.s,.n,.n,.n,.b,.l,.n,.s,.n,.l,.l,.n,.s,.n,.l,.l] λx166 x169 x172 x175 x178 x181 x184 x187 x190 x193 x196 x199 x202 x205 x208 x211 x214=>(Yah.f k x166 x169 x172 x175 x178 x181 x184 x187 x190 x193 x196 x199 x202 x205 x208 x211 x214 x113 x116 x119 x122 x125 x128 x131 x134 x137 x140 x143 x146 x149 x152 x155 x158 x161 (λy215=>bif(decide ((y215:Int)>=0)) then(K false) else(Zd J0 (Yn.f k J1 x113 x116 x119 x122 x125 x128 x131 x134 x137 x140 x143 x146 x149 x152 x155 x158 x161 (λy216=>bif y216 then(K false) else(L0 (IntKind.wrap .i64 (aX+1))))))))) else(Zd J0 (Yn.f k J1 x113 x116 x119 x122 x125 x128 x131 x134 x137 x140 x143 x146 x149 x152 x155 x158 x161 (λy217=>bif y217 then(K false) else(L0 (IntKind.wrap .i64 (aX+1)))))))))) else(K (decide (((aF.length:Int):Int)<=60)))
noncomputable def Yab.m {β:Type} (k:Nat) (a0:LD) (a1 a2:Int) (K:Bool->Option β) (F:(LD->Int->Int->LD->Int->Int->Option β)):Option β:=
 F a0 a1 a2 a0 (a0.length:Int) (0)
noncomputable def Yab.g {β:Type} (k:Nat) (a0:LD) (a1 a2:Int) (K:Bool->Option β):Option β:=
 ZA (Yab.l0 k a0 a1 a2 a0 (a0.length:Int) K) k (0)
noncomputable def Yab.t (k:Nat) (a0:LD) (a1 a2:Int):Option (Bool):=Yab.g k a0 a1 a2 (λz0=>some z0)
noncomputable def Yab.f {β:Type} (k:Nat) (a0:LD) (a1 a2:Int) (K:Bool->Option β):Option β:=bd1 (Yab.t k a0 a1 a2) K
noncomputable def Yab.e (k:Nat):Zj:=ent [.d .l,.d .n,.d .n] [1] [.b] [4] false (Yab.t k)
noncomputable def Yab.p (k:Nat):Pro:=⟨Tryz.prog,[(143,YaJ.e k),(120,Yah.e k),(174,Yn.e k)],Zv [(2,kp [0,1,2,9,10,11])] false [],k⟩
noncomputable def Yab.d (k:Nat) (a0:LD) (a1 a2:Int):Ex->St->Option (Bool):=(Yab.p k).fin Tryz.f142 [.d (.sl a0),.d (.int .i64 a1),.d (.int .i64 a2)] [1] [.b]
noncomputable def Yab.s0 (aF:LD) (aH aJ:Int) (aK:LD) (aL v:Int):St:=
 match v with
 |aX=>ZaA 44 [(0,.d false (.sl aF)),(1,.d false (.int .i64 aH)),(2,.d false (.int .i64 aJ)),(9,.d false (.sl aK)),(10,.d true (.int .i64 aL)),(11,.d true (.int .i64 aX))] []
noncomputable def Yab.r0 (k:Nat) (a0:LD) (a1 a2:Int) (aF:LD) (aH aJ:Int) (aK:LD) (aL:Int) (n:Nat) (v:Int):Option (Bool):=(Yab.p k).lp (ZI Tryz.f142) 2 [1,0,1,0] (Yab.d k a0 a1 a2) n (Yab.s0 aF aH aJ aK aL v)
theorem Yab.l0_eq (k:Nat) (a0:LD) (a1 a2:Int) (aF:LD) (aH aJ:Int) (aK:LD) (aL:Int):∀ n v,Yab.r0 k a0 a1 a2 aF aH aJ aK aL n v=ZA (Yab.l0 k aF aH aJ aK aL (λz0=>some z0)) n v:=
 Zz (Yab.s0 aF aH aJ aK aL) _ λL0 v=>by kernel_rfl
theorem Yab.ok (k:Nat):Zf Tryz.prog 142 (Yab.e k):=Zk (Yab.p k) mix tyok Tryz.func142 ⟨YaJ.ok k,Yah.ok k,Yn.ok k⟩ (by kernel_rfl) (λa0 a1 a2=>Eq.trans (b:=Yab.m k a0 a1 a2 (λz0=>some z0) (λaF aH aJ aK aL=>Yab.r0 k a0 a1 a2 aF aH aJ aK aL k)) (by kernel_rfl) (congrArg (Yab.m k a0 a1 a2 (λz0=>some z0)) (funext λaF=>funext λaH=>funext λaJ=>funext λaK=>funext λaL=>funext λv=>Yab.l0_eq k a0 a1 a2 aF aH aJ aK aL k v) :))
noncomputable def Y1.l0 {β:Type} (k:Nat) (aF:LD) (aH:Int) (aK:LD) (aL aX:Int) (bF:LD) (K:Bool->Option β) (L0:Int->Option β) (v:Int):Option β:=
 match v with
 |aJ=>bif(decide ((aJ:Int)<aH)) then(atR aF aJ [.n,.b,.n,.s,.n,.n,.n,.b,.l,.n,.s,.n,.l,.l,.n,.s,.n,.l,.l] λx339 x342 x345 x348 x351 x354 x357 x360 x363 x366 x369 x372 x375 x378 x381 x384 x387 x390 x393=>(YaJ.f k x345 x348 x351 x354 x357 x360 x363 x366 x369 x372 x375 x378 x381 x384 x387 x390 x393 (IntKind.wrap .i64 (aX-1)) aL x342 (λy394=>bif(!y394) then(K false) else(bif((x354:Int)!=x339) then(K false) else(bif(decide ((aJ:Int)>0)) then(atR bF (IntKind.wrap .i64 (aJ-1)) [.n,.b,.n,.s,.n,.n,.n,.b,.l,.n,.s,.n,.l,.l,.n,.s,.n,.l,.l] λx398 x401 x404 x407 x410 x413 x416 x419 x422 x425 x428 x431 x434 x437 x440 x443 x446 x449 x452=>(bif(decide ((x398:Int)>=x339)) then(K false) else(L0 (IntKind.wrap .i64 (aJ+1))))) else(L0 (IntKind.wrap .i64 (aJ+1)))))))) else(K true)
noncomputable def Y1.m {β:Type} (k:Nat) (aC:LD) (aB aD:Int) (aA:LD) (K:Bool->Option β) (F:(LD->Int->LD->Int->Int->LD->Int->Option β)):Option β:=
 Yae.f k aB 0 1000000 (λy1=>bif(!y1) then(K false) else(Yae.f k aD 1 1000000 (λy2=>bif(!y2) then(K false) else(Yab.f k aC (IntKind.wrap .i64 (aD-1)) aB (λy218=>bif(!y218) then(K false) else(bif(decide (((aA.length:Int):Int)>40)) then(K false) else(F aA (aA.length:Int) aC aB aD aA (0))))))))
noncomputable def Y1.g {β:Type} (k:Nat) (aC:LD) (aB aD:Int) (aA:LD) (K:Bool->Option β):Option β:=Y1.m k aC aB aD aA K (λaF aH aK aL aX bF=>ZA (Y1.l0 k aF aH aK aL aX bF K) k)
noncomputable def Y1.t (k:Nat) (aC:LD) (aB aD:Int) (aA:LD):Option (Bool):=Y1.g k aC aB aD aA (λz0=>some z0)
noncomputable def Y1.f {β:Type} (k:Nat) (aC:LD) (aB aD:Int) (aA:LD) (K:Bool->Option β):Option β:=bd1 (Y1.t k aC aB aD aA) K
noncomputable def Y1.e (k:Nat):Zj:=ent [.agg [.l,.n,.n,.l]] [1] [.b] [4] false (Y1.t k)
noncomputable def Y1.p (k:Nat):Pro:=⟨Tryz.prog,[(96,Yae.e k),(142,Yab.e k),(143,YaJ.e k)],Zv [(4,kp [1,33,34,35])] false [],k⟩
noncomputable def Y1.d (k:Nat) (aC:LD) (aB aD:Int) (aA:LD):Ex->St->Option (Bool):=(Y1.p k).fin Tryz.f95 [.agg [.sl aC,.int .i64 aB,.int .i64 aD,.sl aA]] [1] [.b]
noncomputable def Y1.s0 (aF:LD) (aH:Int) (aK:LD) (aL aX:Int) (bF:LD) (v:Int):St:=
 match v with
 |aJ=>ZaA 76 [(1,.bp 0 0),(33,.d false (.sl aF)),(34,.d true (.int .i64 aH)),(35,.d true (.int .i64 aJ))] [.box none 38 [.d false (.sl aK),.d false (.int .i64 aL),.d false (.int .i64 aX),.d false (.sl bF)]]
noncomputable def Y1.r0 (k:Nat) (aC:LD) (aB aD:Int) (aA aF:LD) (aH:Int) (aK:LD) (aL aX:Int) (bF:LD) (n:Nat) (v:Int):Option (Bool):=(Y1.p k).lp (ZI Tryz.f95) 4 [1,1,0,1,0] (Y1.d k aC aB aD aA) n (Y1.s0 aF aH aK aL aX bF v)
theorem Y1.l0_eq (k:Nat) (aC:LD) (aB aD:Int) (aA aF:LD) (aH:Int) (aK:LD) (aL aX:Int) (bF:LD):∀ n v,Y1.r0 k aC aB aD aA aF aH aK aL aX bF n v=ZA (Y1.l0 k aF aH aK aL aX bF (λz0=>some z0)) n v:=
 Zz (Y1.s0 aF aH aK aL aX bF) _ λL0 v=>by kernel_rfl
theorem Y1.ok (k:Nat):Zf Tryz.prog 95 (Y1.e k):=Zk (Y1.p k) mix tyok Tryz.func95 ⟨Yae.ok k,Yab.ok k,YaJ.ok k⟩ (by kernel_rfl) (λaC aB aD aA=>Eq.trans (b:=Y1.m k aC aB aD aA (λz0=>some z0) (λaF aH aK aL aX bF=>Y1.r0 k aC aB aD aA aF aH aK aL aX bF k)) (by kernel_rfl) (congrArg (Y1.m k aC aB aD aA (λz0=>some z0)) (funext λaF=>funext λaH=>funext λaK=>funext λaL=>funext λaX=>funext λbF=>funext λv=>Y1.l0_eq k aC aB aD aA aF aH aK aL aX bF k v) :))
noncomputable def YaM.g {β:Type} (k:Nat) (aC:LD) (aB aD:Int) (aA:LD) (a1:Int) (a2:BA) (a3:Bool) (K:Int->Option β):Option β:=
 Y1.f k aC aB aD aA (λy453=>bif(!y453) then(K 1) else(Yaz.f k a1 (λy454=>bif(!y454) then(K 1) else(Y4.f k a2 (λy455=>bif(!y455) then(K 1) else(bif(!a3) then(K 1) else(bif((aB:Int)==1000000) then(K 5) else(bif((aD:Int)==1000000) then(K 5) else(K 0)))))))))
noncomputable def YaM.t (k:Nat) (aC:LD) (aB aD:Int) (aA:LD) (a1:Int) (a2:BA) (a3:Bool):Option (Int):=YaM.g k aC aB aD aA a1 a2 a3 (λz0=>some z0)
noncomputable def YaM.f {β:Type} (k:Nat) (aC:LD) (aB aD:Int) (aA:LD) (a1:Int) (a2:BA) (a3:Bool) (K:Int->Option β):Option β:=bd1 (YaM.t k aC aB aD aA a1 a2 a3) K
noncomputable def YaM.e (k:Nat):Zj:=ent [.agg [.l,.n,.n,.l],.d .n,.d .s,.d .b] [1] [.n] [3] false (YaM.t k)
noncomputable def YaM.p (k:Nat):Pro:=⟨Tryz.prog,[(95,Y1.e k),(111,Yaz.e k),(112,Y4.e k)],Zv [] false [],k⟩
theorem YaM.ok (k:Nat):Zf Tryz.prog 56 (YaM.e k):=Zk (YaM.p k) mix tyok Tryz.func56 ⟨Y1.ok k,Yaz.ok k,Y4.ok k⟩ (by kernel_rfl) (λaC aB aD aA a1 a2 a3=>by show _=_;kernel_rfl)
noncomputable def YZ.g {β:Type} (k:Nat) (a0:LD) (K:LC->Option β):Option β:=
 let J0:=(Zd (Zcg 1 a0) (Zd (([]:LC).length+(a0.map (·.map C.d)).length<=Z8) (K (([]:LC)++(a0.map (·.map C.d))))));nilSl a0 (both (K ([]:LC)) J0) J0
noncomputable def YZ.t (k:Nat) (a0:LD):Option (LC):=YZ.g k a0 (λz0=>some z0)
noncomputable def YZ.f {β:Type} (k:Nat) (a0:LD) (K:LC->Option β):Option β:=bd1 (YZ.t k a0) K
noncomputable def YZ.e (k:Nat):Zj:=ent [.d .l] [1] [.o] [45] false (YZ.t k)
noncomputable def YZ.p (k:Nat):Pro:=⟨Tryz.prog,[],Zv [] false [],k⟩
theorem YZ.ok (k:Nat):Zf Tryz.prog 130 (YZ.e k):=Zk (YZ.p k) mix tyok Tryz.func130 trivial (by kernel_rfl) (λa0=>by show _=_;kernel_rfl)
noncomputable def Ys.l0 {β:Type} (k:Nat) (r_impl_copyValue:Int->BA->Int->LD->LD->(Int->BA->Int->LC->LC->Option β)->Option β) (aF:LD) (aH aK:Int) (aL:BA) (aX:Int) (bF:LD) (bG:Int) (bI:BA) (bH:Int) (bX:LC) (K:Int->BA->Int->LC->LC->Option β) (L0:(Int×LC)->Option β) (v:Int×LC):Option β:=
 match v with
 |(aJ,bW)=>bif(decide ((aJ:Int)<aH)) then(atR aF aJ [.n,.s,.n,.l,.l] λx26 x29 x32 x35 x38=>(r_impl_copyValue x26 x29 x32 x35 x38 (λy39 y40 y41 y42 y43=>Zd (bW.length+([[.d (.int .i64 y39),.d (.str y40),.d (.int .i64 y41),.own y42,.own y43]]:LC).length<=Z8) (L0 (IntKind.wrap .i64 (aJ+1),bW++([[.d (.int .i64 y39),.d (.str y40),.d (.int .i64 y41),.own y42,.own y43]]:LC)))))) else(K aK aL aX bX bW)
noncomputable def Ys.m {β:Type} (k:Nat) (r_impl_copyValue:Int->BA->Int->LD->LD->(Int->BA->Int->LC->LC->Option β)->Option β) (aC:Int) (aB:BA) (aD:Int) (aA aI:LD) (K:Int->BA->Int->LC->LC->Option β) (F:(LD->Int->Int->BA->Int->LD->Int->BA->Int->LC->(Int×LC)->Option β)):Option β:=
 YZ.f k aA (λy1=>F aI (aI.length:Int) aC aB aD aI 0 (⟨#[]⟩:BA) 0 y1 (0,([]:LC)))
noncomputable def Ys.body {β:Type} (k:Nat) (r_impl_copyValue:Int->BA->Int->LD->LD->(Int->BA->Int->LC->LC->Option β)->Option β) (aC:Int) (aB:BA) (aD:Int) (aA aI:LD) (K:Int->BA->Int->LC->LC->Option β):Option β:=
 YZ.f k aA (λy1=>ZA (Ys.l0 k r_impl_copyValue aI (aI.length:Int) aC aB aD aI 0 (⟨#[]⟩:BA) 0 y1 K) k (0,([]:LC)))
noncomputable def Ys.w {β:Type} (r:Int->BA->Int->LD->LD->Option (Int×BA×Int×LC×LC)) (aC:Int) (aB:BA) (aD:Int) (aA aI:LD) (K:Int->BA->Int->LC->LC->Option β):Option β:=bd5 (r aC aB aD aA aI) K
noncomputable def Ys.all:Nat->(Int->BA->Int->LD->LD->Option (Int×BA×Int×LC×LC))
 |0=>(λ_ _ _ _ _=>none)
 |k+1=>(λr=>(λaC aB aD aA aI=>Ys.body k (Ys.w r) aC aB aD aA aI (λz0 z1 z2 z3 z4=>some (z0,z1,z2,z3,z4)))) (Ys.all k)
noncomputable def Ys.t (k:Nat) (aC:Int) (aB:BA) (aD:Int) (aA aI:LD):Option (Int×BA×Int×LC×LC):=(Ys.all k) aC aB aD aA aI
noncomputable def Ys.f {β:Type} (k:Nat) (aC:Int) (aB:BA) (aD:Int) (aA aI:LD) (K:Int->BA->Int->LC->LC->Option β):Option β:=Ys.w (Ys.t k) aC aB aD aA aI K
noncomputable def Ys.g {β:Type} (k:Nat) (aC:Int) (aB:BA) (aD:Int) (aA aI:LD) (K:Int->BA->Int->LC->LC->Option β):Option β:=Ys.body k (Ys.f k) aC aB aD aA aI K
theorem Ys.t_succ (k:Nat) (aC:Int) (aB:BA) (aD:Int) (aA aI:LD):Ys.t (k+1) aC aB aD aA aI=Ys.g k aC aB aD aA aI (λz0 z1 z2 z3 z4=>some (z0,z1,z2,z3,z4)):=rfl
noncomputable def Ys.e (k:Nat):Zj:=ent [.agg [.n,.s,.n,.l,.l]] [5] [.n,.s,.n,.o,.o] [54] false (Ys.t k)
noncomputable def Ys.p (k:Nat):Pro:=⟨Tryz.prog,[(130,YZ.e k),(75,Ys.e k)],Zv [(4,kp [1,2,3,12,13,14])] false [],k⟩
noncomputable def Ys.d (k:Nat) (aC:Int) (aB:BA) (aD:Int) (aA aI:LD):Ex->St->Option (Int×BA×Int×LC×LC):=(Ys.p k).fin Tryz.f75 [.agg [.int .i64 aC,.str aB,.int .i64 aD,.sl aA,.sl aI]] [5] [.n,.s,.n,.o,.o]
noncomputable def Ys.s0 (aF:LD) (aH aK:Int) (aL:BA) (aX:Int) (bF:LD) (bG:Int) (bI:BA) (bH:Int) (bX:LC) (v:Int×LC):St:=
 match v with
 |(aJ,bW)=>ZaA 27 [(1,.bp 0 0),(2,.bp 1 0),(3,.row 2),(12,.d false (.sl aF)),(13,.d true (.int .i64 aH)),(14,.d true (.int .i64 aJ))] [.box none 54 [.d false (.int .i64 aK),.d false (.str aL),.d false (.int .i64 aX),.row 3,.d false (.sl bF)],.box none 54 [.d true (.int .i64 bG),.d true (.str bI),.d true (.int .i64 bH),.nil,.nil],.row none true 52 bW,.row none true 45 bX]
noncomputable def Ys.r0 (k:Nat) (aC:Int) (aB:BA) (aD:Int) (aA aI aF:LD) (aH aK:Int) (aL:BA) (aX:Int) (bF:LD) (bG:Int) (bI:BA) (bH:Int) (bX:LC) (n:Nat) (v:Int×LC):Option (Int×BA×Int×LC×LC):=(Ys.p k).lp (ZI Tryz.f75) 4 [1,1,1,0,1,0] (Ys.d k aC aB aD aA aI) n (Ys.s0 aF aH aK aL aX bF bG bI bH bX v)
theorem Ys.l0_eq (k:Nat) (aC:Int) (aB:BA) (aD:Int) (aA aI aF:LD) (aH aK:Int) (aL:BA) (aX:Int) (bF:LD) (bG:Int) (bI:BA) (bH:Int) (bX:LC):∀ n v,Ys.r0 k aC aB aD aA aI aF aH aK aL aX bF bG bI bH bX n v=ZA (Ys.l0 k (Ys.f k) aF aH aK aL aX bF bG bI bH bX (λz0 z1 z2 z3 z4=>some (z0,z1,z2,z3,z4))) n v:=
 Zz (Ys.s0 aF aH aK aL aX bF bG bI bH bX) _ λL0 v=>by obtain⟨aJ,bW⟩:=v;kernel_rfl
theorem Ys.oks (k:Nat):Zf Tryz.prog 75 (Ys.e k):=by
 induction k with
 |zero=>exact Zba Tryz.func75 (by kernel_rfl) (λ_ _ _ _ _=>rfl)
 |succ k ih=>exact Zk (Ys.p k) mix tyok Tryz.func75 ⟨YZ.ok k,ih⟩ (by kernel_rfl) (λaC aB aD aA aI=>Eq.trans (b:=Ys.m k (Ys.f k) aC aB aD aA aI (λz0 z1 z2 z3 z4=>some (z0,z1,z2,z3,z4)) (λaF aH aK aL aX bF bG bI bH bX=>Ys.r0 k aC aB aD aA aI aF aH aK aL aX bF bG bI bH bX k)) (by kernel_rfl) ((congrArg (Ys.m k (Ys.f k) aC aB aD aA aI (λz0 z1 z2 z3 z4=>some (z0,z1,z2,z3,z4))) (funext λaF=>funext λaH=>funext λaK=>funext λaL=>funext λaX=>funext λbF=>funext λbG=>funext λbI=>funext λbH=>funext λbX=>funext λv=>Ys.l0_eq k aC aB aD aA aI aF aH aK aL aX bF bG bI bH bX k v)).trans (Ys.t_succ k aC aB aD aA aI).symm))
theorem Ys.ok (k:Nat):Zf Tryz.prog 75 (Ys.e k):=(Ys.oks k)
noncomputable def Yac.g {β:Type} (k:Nat) (aC:Int) (aB:BA) (aD aA aI:Int) (bE:Bool) (aW:LD) (bB:Int) (aR:BA) (bC:Int) (aT aY:LD) (bA:Int) (aU:BA) (bD:Int) (aV aZ:LD) (K:Int->BA->Int->Int->Int->Bool->LC->Int->BA->Int->LC->LC->Int->BA->Int->LC->LC->Option β):Option β:=
 YZ.f k aW (λy1=>Ys.f k bB aR bC aT aY (λy44 y45 y46 y47 y48=>Ys.f k bA aU bD aV aZ (λy49 y50 y51 y52 y53=>K aC aB aD aA aI bE y1 y44 y45 y46 y47 y48 y49 y50 y51 y52 y53)))
noncomputable def Yac.t (k:Nat) (aC:Int) (aB:BA) (aD aA aI:Int) (bE:Bool) (aW:LD) (bB:Int) (aR:BA) (bC:Int) (aT aY:LD) (bA:Int) (aU:BA) (bD:Int) (aV aZ:LD):Option (Int×BA×Int×Int×Int×Bool×LC×Int×BA×Int×LC×LC×Int×BA×Int×LC×LC):=Yac.g k aC aB aD aA aI bE aW bB aR bC aT aY bA aU bD aV aZ (λz0 z1 z2 z3 z4 z5 z6 z7 z8 z9 z10 z11 z12 z13 z14 z15 z16=>some (z0,z1,z2,z3,z4,z5,z6,z7,z8,z9,z10,z11,z12,z13,z14,z15,z16))
noncomputable def Yac.f {β:Type} (k:Nat) (aC:Int) (aB:BA) (aD aA aI:Int) (bE:Bool) (aW:LD) (bB:Int) (aR:BA) (bC:Int) (aT aY:LD) (bA:Int) (aU:BA) (bD:Int) (aV aZ:LD) (K:Int->BA->Int->Int->Int->Bool->LC->Int->BA->Int->LC->LC->Int->BA->Int->LC->LC->Option β):Option β:=match Yac.t k aC aB aD aA aI bE aW bB aR bC aT aY bA aU bD aV aZ with|some (z0,z1,z2,z3,z4,z5,z6,z7,z8,z9,z10,z11,z12,z13,z14,z15,z16)=>K z0 z1 z2 z3 z4 z5 z6 z7 z8 z9 z10 z11 z12 z13 z14 z15 z16|none=>none
noncomputable def Yac.e (k:Nat):Zj:=ent [.agg [.n,.s,.n,.n,.n,.b,.l,.n,.s,.n,.l,.l,.n,.s,.n,.l,.l]] [17] [.n,.s,.n,.n,.n,.b,.o,.n,.s,.n,.o,.o,.n,.s,.n,.o,.o] [98] false (Yac.t k)
noncomputable def Yac.p (k:Nat):Pro:=⟨Tryz.prog,[(130,YZ.e k),(75,Ys.e k)],Zv [] false [],k⟩
theorem Yac.ok (k:Nat):Zf Tryz.prog 115 (Yac.e k):=Zk (Yac.p k) mix tyok Tryz.func115 ⟨YZ.ok k,Ys.ok k⟩ (by kernel_rfl) (λaC aB aD aA aI bE aW bB aR bC aT aY bA aU bD aV aZ=>by show _=_;kernel_rfl)
noncomputable def YW.l0 {β:Type} (k:Nat) (aF:LD) (aH:Int) (K:LC->Option β) (L0:(Int×LC)->Option β) (v:Int×LC):Option β:=
 match v with
 |(aJ,aK)=>bif(decide ((aJ:Int)<aH)) then(atR aF aJ [.n,.s,.n,.n,.n,.b,.l,.n,.s,.n,.l,.l,.n,.s,.n,.l,.l] λx74 x77 x80 x83 x86 x89 x92 x95 x98 x101 x104 x107 x110 x113 x116 x119 x122=>(Yac.f k x74 x77 x80 x83 x86 x89 x92 x95 x98 x101 x104 x107 x110 x113 x116 x119 x122 (λy123 y124 y125 y126 y127 y128 y129 y130 y131 y132 y133 y134 y135 y136 y137 y138 y139=>Zd (aK.length+([[.d (.int .i64 y123),.d (.str y124),.d (.int .i64 y125),.d (.int .i64 y126),.d (.int .i64 y127),.d (.bool y128),.own y129,.d (.int .i64 y130),.d (.str y131),.d (.int .i64 y132),.own y133,.own y134,.d (.int .i64 y135),.d (.str y136),.d (.int .i64 y137),.own y138,.own y139]]:LC).length<=Z8) (L0 (IntKind.wrap .i64 (aJ+1),aK++([[.d (.int .i64 y123),.d (.str y124),.d (.int .i64 y125),.d (.int .i64 y126),.d (.int .i64 y127),.d (.bool y128),.own y129,.d (.int .i64 y130),.d (.str y131),.d (.int .i64 y132),.own y133,.own y134,.d (.int .i64 y135),.d (.str y136),.d (.int .i64 y137),.own y138,.own y139]]:LC)))))) else(K aK)
noncomputable def YW.m {β:Type} (k:Nat) (a0:LD) (K:LC->Option β) (F:(LD->Int->(Int×LC)->Option β)):Option β:=
 F a0 (a0.length:Int) (0,([]:LC))
noncomputable def YW.g {β:Type} (k:Nat) (a0:LD) (K:LC->Option β):Option β:=
 ZA (YW.l0 k a0 (a0.length:Int) K) k (0,([]:LC))
noncomputable def YW.t (k:Nat) (a0:LD):Option (LC):=YW.g k a0 (λz0=>some z0)
noncomputable def YW.f {β:Type} (k:Nat) (a0:LD) (K:LC->Option β):Option β:=bd1 (YW.t k a0) K
noncomputable def YW.e (k:Nat):Zj:=ent [.d .l] [1] [.o] [30] false (YW.t k)
noncomputable def YW.p (k:Nat):Pro:=⟨Tryz.prog,[(115,Yac.e k)],Zv [(3,kp [3,7,8,9])] false [],k⟩
noncomputable def YW.d (k:Nat) (a0:LD):Ex->St->Option (LC):=(YW.p k).fin Tryz.f100 [.d (.sl a0)] [1] [.o]
noncomputable def YW.s0 (aF:LD) (aH:Int) (v:Int×LC):St:=
 match v with
 |(aJ,aK)=>ZaA 20 [(3,.row 0),(7,.d false (.sl aF)),(8,.d true (.int .i64 aH)),(9,.d true (.int .i64 aJ))] [.row none true 30 aK]
noncomputable def YW.r0 (k:Nat) (a0 aF:LD) (aH:Int) (n:Nat) (v:Int×LC):Option (LC):=(YW.p k).lp (ZI Tryz.f100) 3 [1,1,0,1,0] (YW.d k a0) n (YW.s0 aF aH v)
theorem YW.l0_eq (k:Nat) (a0 aF:LD) (aH:Int):∀ n v,YW.r0 k a0 aF aH n v=ZA (YW.l0 k aF aH (λz0=>some z0)) n v:=
 Zz (YW.s0 aF aH) _ λL0 v=>by obtain⟨aJ,aK⟩:=v;kernel_rfl
theorem YW.ok (k:Nat):Zf Tryz.prog 100 (YW.e k):=Zk (YW.p k) mix tyok Tryz.func100 (Yac.ok k) (by kernel_rfl) (λa0=>Eq.trans (b:=YW.m k a0 (λz0=>some z0) (λaF aH=>YW.r0 k a0 aF aH k)) (by kernel_rfl) (congrArg (YW.m k a0 (λz0=>some z0)) (funext λaF=>funext λaH=>funext λv=>YW.l0_eq k a0 aF aH k v) :))
noncomputable def Y2.l0 {β:Type} (k:Nat) (aF:LD) (aH:Int) (K:LC->Option β) (L0:(Int×LC)->Option β) (v:Int×LC):Option β:=
 match v with
 |(aJ,aK)=>bif(decide ((aJ:Int)<aH)) then(atR aF aJ [.n,.b,.n,.s,.n,.n,.n,.b,.l,.n,.s,.n,.l,.l,.n,.s,.n,.l,.l] λx79 x82 x85 x88 x91 x94 x97 x100 x103 x106 x109 x112 x115 x118 x121 x124 x127 x130 x133=>(Yac.f k x85 x88 x91 x94 x97 x100 x103 x106 x109 x112 x115 x118 x121 x124 x127 x130 x133 (λy134 y135 y136 y137 y138 y139 y140 y141 y142 y143 y144 y145 y146 y147 y148 y149 y150=>Zd (aK.length+([[.d (.int .i64 x79),.d (.bool x82),.d (.int .i64 y134),.d (.str y135),.d (.int .i64 y136),.d (.int .i64 y137),.d (.int .i64 y138),.d (.bool y139),.own y140,.d (.int .i64 y141),.d (.str y142),.d (.int .i64 y143),.own y144,.own y145,.d (.int .i64 y146),.d (.str y147),.d (.int .i64 y148),.own y149,.own y150]]:LC).length<=Z8) (L0 (IntKind.wrap .i64 (aJ+1),aK++([[.d (.int .i64 x79),.d (.bool x82),.d (.int .i64 y134),.d (.str y135),.d (.int .i64 y136),.d (.int .i64 y137),.d (.int .i64 y138),.d (.bool y139),.own y140,.d (.int .i64 y141),.d (.str y142),.d (.int .i64 y143),.own y144,.own y145,.d (.int .i64 y146),.d (.str y147),.d (.int .i64 y148),.own y149,.own y150]]:LC)))))) else(K aK)
noncomputable def Y2.m {β:Type} (k:Nat) (a0:LD) (K:LC->Option β) (F:(LD->Int->(Int×LC)->Option β)):Option β:=
 F a0 (a0.length:Int) (0,([]:LC))
noncomputable def Y2.g {β:Type} (k:Nat) (a0:LD) (K:LC->Option β):Option β:=
 ZA (Y2.l0 k a0 (a0.length:Int) K) k (0,([]:LC))
noncomputable def Y2.t (k:Nat) (a0:LD):Option (LC):=Y2.g k a0 (λz0=>some z0)
noncomputable def Y2.f {β:Type} (k:Nat) (a0:LD) (K:LC->Option β):Option β:=bd1 (Y2.t k a0) K
noncomputable def Y2.e (k:Nat):Zj:=ent [.d .l] [1] [.o] [36] false (Y2.t k)
noncomputable def Y2.p (k:Nat):Pro:=⟨Tryz.prog,[(115,Yac.e k)],Zv [(3,kp [3,7,8,9])] false [],k⟩
noncomputable def Y2.d (k:Nat) (a0:LD):Ex->St->Option (LC):=(Y2.p k).fin Tryz.f98 [.d (.sl a0)] [1] [.o]
noncomputable def Y2.s0 (aF:LD) (aH:Int) (v:Int×LC):St:=
 match v with
 |(aJ,aK)=>ZaA 26 [(3,.row 0),(7,.d false (.sl aF)),(8,.d true (.int .i64 aH)),(9,.d true (.int .i64 aJ))] [.row none true 36 aK]
noncomputable def Y2.r0 (k:Nat) (a0 aF:LD) (aH:Int) (n:Nat) (v:Int×LC):Option (LC):=(Y2.p k).lp (ZI Tryz.f98) 3 [1,1,0,1,0] (Y2.d k a0) n (Y2.s0 aF aH v)
theorem Y2.l0_eq (k:Nat) (a0 aF:LD) (aH:Int):∀ n v,Y2.r0 k a0 aF aH n v=ZA (Y2.l0 k aF aH (λz0=>some z0)) n v:=
 Zz (Y2.s0 aF aH) _ λL0 v=>by obtain⟨aJ,aK⟩:=v;kernel_rfl
theorem Y2.ok (k:Nat):Zf Tryz.prog 98 (Y2.e k):=Zk (Y2.p k) mix tyok Tryz.func98 (Yac.ok k) (by kernel_rfl) (λa0=>Eq.trans (b:=Y2.m k a0 (λz0=>some z0) (λaF aH=>Y2.r0 k a0 aF aH k)) (by kernel_rfl) (congrArg (Y2.m k a0 (λz0=>some z0)) (funext λaF=>funext λaH=>funext λv=>Y2.l0_eq k a0 aF aH k v) :))
noncomputable def Yad.g {β:Type} (k:Nat) (aC:LD) (aB aD:Int) (aA:LD) (K:LC->Int->Int->LC->Option β):Option β:=
 YW.f k aC (λy140=>Y2.f k aA (λy151=>K y140 aB aD y151))
noncomputable def Yad.t (k:Nat) (aC:LD) (aB aD:Int) (aA:LD):Option (LC×Int×Int×LC):=Yad.g k aC aB aD aA (λz0 z1 z2 z3=>some (z0,z1,z2,z3))
noncomputable def Yad.f {β:Type} (k:Nat) (aC:LD) (aB aD:Int) (aA:LD) (K:LC->Int->Int->LC->Option β):Option β:=bd4 (Yad.t k aC aB aD aA) K
noncomputable def Yad.e (k:Nat):Zj:=ent [.agg [.l,.n,.n,.l]] [4] [.o,.n,.n,.o] [38] false (Yad.t k)
noncomputable def Yad.p (k:Nat):Pro:=⟨Tryz.prog,[(100,YW.e k),(98,Y2.e k)],Zv [] false [],k⟩
theorem Yad.ok (k:Nat):Zf Tryz.prog 58 (Yad.e k):=Zk (Yad.p k) mix tyok Tryz.func58 ⟨YW.ok k,Y2.ok k⟩ (by kernel_rfl) (λaC aB aD aA=>by show _=_;kernel_rfl)
noncomputable def YaH.g {β:Type} (k:Nat) (aC:Int) (aB:BA) (aD aA aI:Int) (bE:Bool) (aW:LD) (bB:Int) (aR:BA) (bC:Int) (aT aY:LD) (bA:Int) (aU:BA) (bD:Int) (aV aZ:LD) (f0_0:Int) (f1_0:BA) (K:Bool->Option β):Option β:=
 bif((aC:Int)==f0_0) then(K (Zae aB f1_0)) else(K false)
noncomputable def YaH.t (k:Nat) (aC:Int) (aB:BA) (aD aA aI:Int) (bE:Bool) (aW:LD) (bB:Int) (aR:BA) (bC:Int) (aT aY:LD) (bA:Int) (aU:BA) (bD:Int) (aV aZ:LD) (f0_0:Int) (f1_0:BA):Option (Bool):=YaH.g k aC aB aD aA aI bE aW bB aR bC aT aY bA aU bD aV aZ f0_0 f1_0 (λz0=>some z0)
noncomputable def YaH.f {β:Type} (k:Nat) (aC:Int) (aB:BA) (aD aA aI:Int) (bE:Bool) (aW:LD) (bB:Int) (aR:BA) (bC:Int) (aT aY:LD) (bA:Int) (aU:BA) (bD:Int) (aV aZ:LD) (f0_0:Int) (f1_0:BA) (K:Bool->Option β):Option β:=bd1 (YaH.t k aC aB aD aA aI bE aW bB aR bC aT aY bA aU bD aV aZ f0_0 f1_0) K
noncomputable def YaH.e (k:Nat):Zj:=ent [.agg [.n,.s,.n,.n,.n,.b,.l,.n,.s,.n,.l,.l,.n,.s,.n,.l,.l],.ip [.n],.ip [.s]] [1] [.b] [4] false (YaH.t k)
noncomputable def YaH.p (k:Nat):Pro:=⟨Tryz.prog,[],Zv [] false [],k⟩
theorem YaH.ok (k:Nat):Zf Tryz.prog 150 (YaH.e k):=Zk (YaH.p k) mix tyok Tryz.func150 trivial (by kernel_rfl) (λaC aB aD aA aI bE aW bB aR bC aT aY bA aU bD aV aZ f0_0 f1_0=>by show _=_;kernel_rfl)
noncomputable def Yf.l0 {β:Type} (k:Nat) (aF:LD) (aH:Int) (aJ:BA) (aK:Int) (K L0:Int->Option β) (v:Int):Option β:=
 match v with
 |aL=>bif(decide ((aL:Int)<aK)) then(atR aF aL [.n,.s,.n,.n,.n,.b,.l,.n,.s,.n,.l,.l,.n,.s,.n,.l,.l] λx57 x60 x63 x66 x69 x72 x75 x78 x81 x84 x87 x90 x93 x96 x99 x102 x105=>(YaH.f k x57 x60 x63 x66 x69 x72 x75 x78 x81 x84 x87 x90 x93 x96 x99 x102 x105 aH aJ (λy106=>bif y106 then(K aL) else(L0 (IntKind.wrap .i64 (aL+1)))))) else(K (-1))
noncomputable def Yf.m {β:Type} (k:Nat) (a0:LD) (a1_0_0:Int) (a1_1_0:BA) (K:Int->Option β) (F:(LD->Int->BA->Int->Int->Option β)):Option β:=
 F a0 a1_0_0 a1_1_0 (a0.length:Int) (0)
noncomputable def Yf.g {β:Type} (k:Nat) (a0:LD) (a1_0_0:Int) (a1_1_0:BA) (K:Int->Option β):Option β:=
 ZA (Yf.l0 k a0 a1_0_0 a1_1_0 (a0.length:Int) K) k (0)
noncomputable def Yf.t (k:Nat) (a0:LD) (a1_0_0:Int) (a1_1_0:BA):Option (Int):=Yf.g k a0 a1_0_0 a1_1_0 (λz0=>some z0)
noncomputable def Yf.f {β:Type} (k:Nat) (a0:LD) (a1_0_0:Int) (a1_1_0:BA) (K:Int->Option β):Option β:=bd1 (Yf.t k a0 a1_0_0 a1_1_0) K
noncomputable def Yf.e (k:Nat):Zj:=ent [.d .l,.fn 150 [[.n],[.s]]] [1] [.n] [3] false (Yf.t k)
noncomputable def Yf.p (k:Nat):Pro:=⟨Tryz.prog,[(150,YaH.e k)],Zv [(2,kp [0,1,7,8])] false [],k⟩
noncomputable def Yf.d (k:Nat) (a0:LD) (a1_0_0:Int) (a1_1_0:BA):Ex->St->Option (Int):=(Yf.p k).fin Tryz.f149 [.d (.sl a0),.d (.fn 150 [[.int .i64 a1_0_0],[.str a1_1_0]])] [1] [.n]
noncomputable def Yf.s0 (aF:LD) (aH:Int) (aJ:BA) (aK v:Int):St:=
 match v with
 |aL=>ZaA 19 [(0,.d false (.sl aF)),(1,.d false (.fn 150 [[.int .i64 aH],[.str aJ]])),(7,.d true (.int .i64 aK)),(8,.d true (.int .i64 aL))] []
noncomputable def Yf.r0 (k:Nat) (a0:LD) (a1_0_0:Int) (a1_1_0:BA) (aF:LD) (aH:Int) (aJ:BA) (aK:Int) (n:Nat) (v:Int):Option (Int):=(Yf.p k).lp (ZI Tryz.f149) 2 [1,0,1,0] (Yf.d k a0 a1_0_0 a1_1_0) n (Yf.s0 aF aH aJ aK v)
theorem Yf.l0_eq (k:Nat) (a0:LD) (a1_0_0:Int) (a1_1_0:BA) (aF:LD) (aH:Int) (aJ:BA) (aK:Int):∀ n v,Yf.r0 k a0 a1_0_0 a1_1_0 aF aH aJ aK n v=ZA (Yf.l0 k aF aH aJ aK (λz0=>some z0)) n v:=
 Zz (Yf.s0 aF aH aJ aK) _ λL0 v=>by kernel_rfl
theorem Yf.ok (k:Nat):Zf Tryz.prog 149 (Yf.e k):=Zk (Yf.p k) mix tyok Tryz.func149 (YaH.ok k) (by kernel_rfl) (λa0 a1_0_0 a1_1_0=>Eq.trans (b:=Yf.m k a0 a1_0_0 a1_1_0 (λz0=>some z0) (λaF aH aJ aK=>Yf.r0 k a0 a1_0_0 a1_1_0 aF aH aJ aK k)) (by kernel_rfl) (congrArg (Yf.m k a0 a1_0_0 a1_1_0 (λz0=>some z0)) (funext λaF=>funext λaH=>funext λaJ=>funext λaK=>funext λv=>Yf.l0_eq k a0 a1_0_0 a1_1_0 aF aH aJ aK k v) :))
noncomputable def YaN.g {β:Type} (k:Nat) (a0:LD) (a1:Int) (a2:BA) (K:Int->Option β):Option β:=
 Yf.f k a0 a1 a2 (λy107=>K y107)
noncomputable def YaN.t (k:Nat) (a0:LD) (a1:Int) (a2:BA):Option (Int):=YaN.g k a0 a1 a2 (λz0=>some z0)
noncomputable def YaN.f {β:Type} (k:Nat) (a0:LD) (a1:Int) (a2:BA) (K:Int->Option β):Option β:=bd1 (YaN.t k a0 a1 a2) K
noncomputable def YaN.e (k:Nat):Zj:=ent [.d .l,.d .n,.d .s] [1] [.n] [3] false (YaN.t k)
noncomputable def YaN.p (k:Nat):Pro:=⟨Tryz.prog,[(149,Yf.e k)],Zv [] false [],k⟩
theorem YaN.ok (k:Nat):Zf Tryz.prog 114 (YaN.e k):=Zk (YaN.p k) mix tyok Tryz.func114 (Yf.ok k) (by kernel_rfl) (λa0 a1 a2=>by show _=_;kernel_rfl)
noncomputable def YaU.g {β:Type} (k:Nat) (aC:LD) (aB aD:Int) (aA:LD) (a1:Int) (a2:BA) (K:Int->BA->Int->Int->Int->Bool->LC->Int->BA->Int->LC->LC->Int->BA->Int->LC->LC->Bool->Option β):Option β:=
 YaN.f k aC a1 a2 (λy108=>bif(decide ((y108:Int)<0)) then(K 0 (⟨#[]⟩:BA) 0 0 0 false ([]:LC) 0 (⟨#[]⟩:BA) 0 ([]:LC) ([]:LC) 0 (⟨#[]⟩:BA) 0 ([]:LC) ([]:LC) false) else(atR aC y108 [.n,.s,.n,.n,.n,.b,.l,.n,.s,.n,.l,.l,.n,.s,.n,.l,.l] λx112 x115 x118 x121 x124 x127 x130 x133 x136 x139 x142 x145 x148 x151 x154 x157 x160=>(Yac.f k x112 x115 x118 x121 x124 x127 x130 x133 x136 x139 x142 x145 x148 x151 x154 x157 x160 (λy161 y162 y163 y164 y165 y166 y167 y168 y169 y170 y171 y172 y173 y174 y175 y176 y177=>K y161 y162 y163 y164 y165 y166 y167 y168 y169 y170 y171 y172 y173 y174 y175 y176 y177 true))))
noncomputable def YaU.t (k:Nat) (aC:LD) (aB aD:Int) (aA:LD) (a1:Int) (a2:BA):Option (Int×BA×Int×Int×Int×Bool×LC×Int×BA×Int×LC×LC×Int×BA×Int×LC×LC×Bool):=YaU.g k aC aB aD aA a1 a2 (λz0 z1 z2 z3 z4 z5 z6 z7 z8 z9 z10 z11 z12 z13 z14 z15 z16 z17=>some (z0,z1,z2,z3,z4,z5,z6,z7,z8,z9,z10,z11,z12,z13,z14,z15,z16,z17))
noncomputable def YaU.f {β:Type} (k:Nat) (aC:LD) (aB aD:Int) (aA:LD) (a1:Int) (a2:BA) (K:Int->BA->Int->Int->Int->Bool->LC->Int->BA->Int->LC->LC->Int->BA->Int->LC->LC->Bool->Option β):Option β:=match YaU.t k aC aB aD aA a1 a2 with|some (z0,z1,z2,z3,z4,z5,z6,z7,z8,z9,z10,z11,z12,z13,z14,z15,z16,z17)=>K z0 z1 z2 z3 z4 z5 z6 z7 z8 z9 z10 z11 z12 z13 z14 z15 z16 z17|none=>none
noncomputable def YaU.e (k:Nat):Zj:=ent [.agg [.l,.n,.n,.l],.d .n,.d .s] [17,1] [.n,.s,.n,.n,.n,.b,.o,.n,.s,.n,.o,.o,.n,.s,.n,.o,.o,.b] [98,4] false (YaU.t k)
noncomputable def YaU.p (k:Nat):Pro:=⟨Tryz.prog,[(114,YaN.e k),(115,Yac.e k)],Zv [] false [],k⟩
theorem YaU.ok (k:Nat):Zf Tryz.prog 59 (YaU.e k):=Zk (YaU.p k) mix tyok Tryz.func59 ⟨YaN.ok k,Yac.ok k⟩ (by kernel_rfl) (λaC aB aD aA a1 a2=>by show _=_;kernel_rfl)
noncomputable def Yw.l0 {β:Type} (k:Nat) (aF aH:LD) (aJ:Int) (K:Bool->Option β) (L0:Int->Option β) (v:Int):Option β:=
 match v with
 |aK=>bif(decide ((aK:Int)<aJ)) then(atR aF aK [.s] λx12=>(atR aH aK [.s] λx16=>(bif(!(Zae x12 x16)) then(K false) else(L0 (IntKind.wrap .i64 (aK+1)))))) else(K true)
noncomputable def Yw.m {β:Type} (k:Nat) (a0 a1:LD) (K:Bool->Option β) (F:(LD->LD->Int->Int->Option β)):Option β:=
 bif(((a0.length:Int):Int)!=(a1.length:Int)) then(K false) else(F a0 a1 (a0.length:Int) (0))
noncomputable def Yw.g {β:Type} (k:Nat) (a0 a1:LD) (K:Bool->Option β):Option β:=
 bif(((a0.length:Int):Int)!=(a1.length:Int)) then(K false) else(ZA (Yw.l0 k a0 a1 (a0.length:Int) K) k (0))
noncomputable def Yw.t (k:Nat) (a0 a1:LD):Option (Bool):=Yw.g k a0 a1 (λz0=>some z0)
noncomputable def Yw.f {β:Type} (k:Nat) (a0 a1:LD) (K:Bool->Option β):Option β:=bd1 (Yw.t k a0 a1) K
noncomputable def Yw.e (k:Nat):Zj:=ent [.d .l,.d .l] [1] [.b] [4] false (Yw.t k)
noncomputable def Yw.p (k:Nat):Pro:=⟨Tryz.prog,[],Zv [(4,kp [0,1,12,13])] false [],k⟩
noncomputable def Yw.d (k:Nat) (a0 a1:LD):Ex->St->Option (Bool):=(Yw.p k).fin Tryz.f116 [.d (.sl a0),.d (.sl a1)] [1] [.b]
noncomputable def Yw.s0 (aF aH:LD) (aJ v:Int):St:=
 match v with
 |aK=>ZaA 26 [(0,.d false (.sl aF)),(1,.d false (.sl aH)),(12,.d true (.int .i64 aJ)),(13,.d true (.int .i64 aK))] []
noncomputable def Yw.r0 (k:Nat) (a0 a1 aF aH:LD) (aJ:Int) (n:Nat) (v:Int):Option (Bool):=(Yw.p k).lp (ZI Tryz.f116) 4 [1,1,0,1,0] (Yw.d k a0 a1) n (Yw.s0 aF aH aJ v)
theorem Yw.l0_eq (k:Nat) (a0 a1 aF aH:LD) (aJ:Int):∀ n v,Yw.r0 k a0 a1 aF aH aJ n v=ZA (Yw.l0 k aF aH aJ (λz0=>some z0)) n v:=
 Zz (Yw.s0 aF aH aJ) _ λL0 v=>by kernel_rfl
theorem Yw.ok (k:Nat):Zf Tryz.prog 116 (Yw.e k):=Zk (Yw.p k) mix tyok Tryz.func116 trivial (by kernel_rfl) (λa0 a1=>Eq.trans (b:=Yw.m k a0 a1 (λz0=>some z0) (λaF aH aJ=>Yw.r0 k a0 a1 aF aH aJ k)) (by kernel_rfl) (congrArg (Yw.m k a0 a1 (λz0=>some z0)) (funext λaF=>funext λaH=>funext λaJ=>funext λv=>Yw.l0_eq k a0 a1 aF aH aJ k v) :))
end Go.Proofs.YtlobhlnahhjpjaaGreat
