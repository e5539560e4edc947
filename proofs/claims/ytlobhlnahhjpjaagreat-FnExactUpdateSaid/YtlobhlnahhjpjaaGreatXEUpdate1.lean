/- Printed: the functions that FnExactUpdate reaches,read by the evaluator,each with its contract. -/
import Derived.Test.YtlobhlnahhjpjaaGreatXEUpdate0
import Derived.KernelRfl
set_option linter.unusedVariables false
set_option linter.unusedSimpArgs false
namespace Go.Proofs.YtlobhlnahhjpjaaGreat
open Go Go.T Go.Proofs
noncomputable def Yc.l0 {β:Type} (k:Nat) (r_slices_EqualFunc_impl_Value__impl_SameValue:LD->LD->(Bool->Option β)->Option β) (r_impl_SameValue:Int->BA->Int->LD->LD->Int->BA->Int->LD->LD->(Bool->Option β)->Option β) (aF aH:LD) (aJ:Int) (K:Bool->Option β) (L0:Int->Option β) (v:Int):Option β:=
 match v with
 |aK=>bif(decide ((aK:Int)<aJ)) then(atR aH aK [.n,.s,.n,.l,.l] λx37 x40 x43 x46 x49=>(atR aF aK [.n,.s,.n,.l,.l] λx53 x56 x59 x62 x65=>(r_impl_SameValue x37 x40 x43 x46 x49 x53 x56 x59 x62 x65 (λy66=>bif(!y66) then(K false) else(L0 (IntKind.wrap .i64 (aK+1))))))) else(K true)
noncomputable def Yc.m {β:Type} (k:Nat) (r_slices_EqualFunc_impl_Value__impl_SameValue:LD->LD->(Bool->Option β)->Option β) (r_impl_SameValue:Int->BA->Int->LD->LD->Int->BA->Int->LD->LD->(Bool->Option β)->Option β) (a0 a1:LD) (K:Bool->Option β) (F:(LD->LD->Int->Int->Option β)):Option β:=
 bif(((a0.length:Int):Int)!=(a1.length:Int)) then(K false) else(F a1 a0 (a0.length:Int) (0))
noncomputable def Yc.body {β:Type} (k:Nat) (r_slices_EqualFunc_impl_Value__impl_SameValue:LD->LD->(Bool->Option β)->Option β) (r_impl_SameValue:Int->BA->Int->LD->LD->Int->BA->Int->LD->LD->(Bool->Option β)->Option β) (a0 a1:LD) (K:Bool->Option β):Option β:=
 bif(((a0.length:Int):Int)!=(a1.length:Int)) then(K false) else(ZA (Yc.l0 k r_slices_EqualFunc_impl_Value__impl_SameValue r_impl_SameValue a1 a0 (a0.length:Int) K) k (0))
noncomputable def YR.body {β:Type} (k:Nat) (r_slices_EqualFunc_impl_Value__impl_SameValue:LD->LD->(Bool->Option β)->Option β) (r_impl_SameValue:Int->BA->Int->LD->LD->Int->BA->Int->LD->LD->(Bool->Option β)->Option β) (aC:Int) (aB:BA) (aD:Int) (aA aI:LD) (aM:Int) (aN:BA) (aO:Int) (aP aQ:LD) (K:Bool->Option β):Option β:=
 bif((aC:Int)==aM) then(bif(Zae aB aN) then(bif((aD:Int)==aO) then(Yw.f k aA aP (λy17=>bif y17 then(r_slices_EqualFunc_impl_Value__impl_SameValue aI aQ (λy67=>K y67)) else(K false))) else(K false)) else(K false)) else(K false)
noncomputable def Yc.w {β:Type} (r:LD->LD->Option (Bool)) (a0 a1:LD) (K:Bool->Option β):Option β:=bd1 (r a0 a1) K
noncomputable def YR.w {β:Type} (r:Int->BA->Int->LD->LD->Int->BA->Int->LD->LD->Option (Bool)) (aC:Int) (aB:BA) (aD:Int) (aA aI:LD) (aM:Int) (aN:BA) (aO:Int) (aP aQ:LD) (K:Bool->Option β):Option β:=bd1 (r aC aB aD aA aI aM aN aO aP aQ) K
noncomputable def Yc.all:Nat->(LD->LD->Option (Bool))×(Int->BA->Int->LD->LD->Int->BA->Int->LD->LD->Option (Bool))
 |0=>(λ_ _=>none,λ_ _ _ _ _ _ _ _ _ _=>none)
 |k+1=>(λr=>(λa0 a1=>Yc.body k (Yc.w r.1) (YR.w r.2) a0 a1 (λz0=>some z0),λaC aB aD aA aI aM aN aO aP aQ=>YR.body k (Yc.w r.1) (YR.w r.2) aC aB aD aA aI aM aN aO aP aQ (λz0=>some z0))) (Yc.all k)
noncomputable def Yc.t (k:Nat) (a0 a1:LD):Option (Bool):=(Yc.all k).1 a0 a1
noncomputable def YR.t (k:Nat) (aC:Int) (aB:BA) (aD:Int) (aA aI:LD) (aM:Int) (aN:BA) (aO:Int) (aP aQ:LD):Option (Bool):=(Yc.all k).2 aC aB aD aA aI aM aN aO aP aQ
noncomputable def Yc.f {β:Type} (k:Nat) (a0 a1:LD) (K:Bool->Option β):Option β:=Yc.w (Yc.t k) a0 a1 K
noncomputable def YR.f {β:Type} (k:Nat) (aC:Int) (aB:BA) (aD:Int) (aA aI:LD) (aM:Int) (aN:BA) (aO:Int) (aP aQ:LD) (K:Bool->Option β):Option β:=YR.w (YR.t k) aC aB aD aA aI aM aN aO aP aQ K
noncomputable def Yc.g {β:Type} (k:Nat) (a0 a1:LD) (K:Bool->Option β):Option β:=Yc.body k (Yc.f k) (YR.f k) a0 a1 K
theorem Yc.t_succ (k:Nat) (a0 a1:LD):Yc.t (k+1) a0 a1=Yc.g k a0 a1 (λz0=>some z0):=rfl
noncomputable def YR.g {β:Type} (k:Nat) (aC:Int) (aB:BA) (aD:Int) (aA aI:LD) (aM:Int) (aN:BA) (aO:Int) (aP aQ:LD) (K:Bool->Option β):Option β:=YR.body k (Yc.f k) (YR.f k) aC aB aD aA aI aM aN aO aP aQ K
theorem YR.t_succ (k:Nat) (aC:Int) (aB:BA) (aD:Int) (aA aI:LD) (aM:Int) (aN:BA) (aO:Int) (aP aQ:LD):YR.t (k+1) aC aB aD aA aI aM aN aO aP aQ=YR.g k aC aB aD aA aI aM aN aO aP aQ (λz0=>some z0):=rfl
noncomputable def Yc.e (k:Nat):Zj:=ent [.d .l,.d .l,.fn 60 []] [1] [.b] [4] false (Yc.t k)
noncomputable def YR.e (k:Nat):Zj:=ent [.agg [.n,.s,.n,.l,.l],.agg [.n,.s,.n,.l,.l]] [1] [.b] [4] false (YR.t k)
noncomputable def Yc.p (k:Nat):Pro:=⟨Tryz.prog,[(60,YR.e k)],Zv [(4,kp [1,2,15,16,17])] false [],k⟩
noncomputable def Yc.d (k:Nat) (a0 a1:LD):Ex->St->Option (Bool):=(Yc.p k).fin Tryz.f117 [.d (.sl a0),.d (.sl a1),.d (.fn 60 [])] [1] [.b]
noncomputable def Yc.s0 (aF aH:LD) (aJ v:Int):St:=
 match v with
 |aK=>ZaA 32 [(1,.d false (.sl aF)),(2,.d false (.fn 60 [])),(15,.d false (.sl aH)),(16,.d true (.int .i64 aJ)),(17,.d true (.int .i64 aK))] []
noncomputable def Yc.r0 (k:Nat) (a0 a1 aF aH:LD) (aJ:Int) (n:Nat) (v:Int):Option (Bool):=(Yc.p k).lp (ZI Tryz.f117) 4 [1,1,0,1,0] (Yc.d k a0 a1) n (Yc.s0 aF aH aJ v)
theorem Yc.l0_eq (k:Nat) (a0 a1 aF aH:LD) (aJ:Int):∀ n v,Yc.r0 k a0 a1 aF aH aJ n v=ZA (Yc.l0 k (Yc.f k) (YR.f k) aF aH aJ (λz0=>some z0)) n v:=
 Zz (Yc.s0 aF aH aJ) _ λL0 v=>by kernel_rfl
noncomputable def YR.p (k:Nat):Pro:=⟨Tryz.prog,[(116,Yw.e k),(117,Yc.e k)],Zv [] false [],k⟩
theorem Yc.oks (k:Nat):Zf Tryz.prog 117 (Yc.e k)/\Zf Tryz.prog 60 (YR.e k):=by
 induction k with
 |zero=>exact⟨Zba Tryz.func117 (by kernel_rfl) (λ_ _=>rfl),
  Zba Tryz.func60 (by kernel_rfl) (λ_ _ _ _ _ _ _ _ _ _=>rfl)⟩
 |succ k ih=>exact⟨Zk (Yc.p k) mix tyok Tryz.func117 ih.2 (by kernel_rfl) (λa0 a1=>Eq.trans (b:=Yc.m k (Yc.f k) (YR.f k) a0 a1 (λz0=>some z0) (λaF aH aJ=>Yc.r0 k a0 a1 aF aH aJ k)) (by kernel_rfl) ((congrArg (Yc.m k (Yc.f k) (YR.f k) a0 a1 (λz0=>some z0)) (funext λaF=>funext λaH=>funext λaJ=>funext λv=>Yc.l0_eq k a0 a1 aF aH aJ k v)).trans (Yc.t_succ k a0 a1).symm)),
  Zk (YR.p k) mix tyok Tryz.func60 ⟨Yw.ok k,ih.1⟩ (by kernel_rfl) (λaC aB aD aA aI aM aN aO aP aQ=>by show _=_;kernel_rfl)⟩
theorem YR.ok (k:Nat):Zf Tryz.prog 60 (YR.e k):=(Yc.oks k).2
noncomputable def YaO.g {β:Type} (k:Nat) (aC:Int) (aB:BA) (aD aA aI:Int) (bE:Bool) (aW:LD) (bB:Int) (aR:BA) (bC:Int) (aT aY:LD) (bA:Int) (aU:BA) (bD:Int) (aV aZ:LD) (f0_0:Int) (f0_1:BA) (f0_2 f0_3 f0_4:Int) (f0_5:Bool) (f0_6:LD) (f0_7:Int) (f0_8:BA) (f0_9:Int) (f0_10 f0_11:LD) (f0_12:Int) (f0_13:BA) (f0_14:Int) (f0_15 f0_16:LD) (K:Bool->Option β):Option β:=
 Yah.f k aC aB aD aA aI bE aW bB aR bC aT aY bA aU bD aV aZ f0_0 f0_1 f0_2 f0_3 f0_4 f0_5 f0_6 f0_7 f0_8 f0_9 f0_10 f0_11 f0_12 f0_13 f0_14 f0_15 f0_16 (λy1=>K ((y1:Int)==0))
noncomputable def YaO.t (k:Nat) (aC:Int) (aB:BA) (aD aA aI:Int) (bE:Bool) (aW:LD) (bB:Int) (aR:BA) (bC:Int) (aT aY:LD) (bA:Int) (aU:BA) (bD:Int) (aV aZ:LD) (f0_0:Int) (f0_1:BA) (f0_2 f0_3 f0_4:Int) (f0_5:Bool) (f0_6:LD) (f0_7:Int) (f0_8:BA) (f0_9:Int) (f0_10 f0_11:LD) (f0_12:Int) (f0_13:BA) (f0_14:Int) (f0_15 f0_16:LD):Option (Bool):=YaO.g k aC aB aD aA aI bE aW bB aR bC aT aY bA aU bD aV aZ f0_0 f0_1 f0_2 f0_3 f0_4 f0_5 f0_6 f0_7 f0_8 f0_9 f0_10 f0_11 f0_12 f0_13 f0_14 f0_15 f0_16 (λz0=>some z0)
noncomputable def YaO.f {β:Type} (k:Nat) (aC:Int) (aB:BA) (aD aA aI:Int) (bE:Bool) (aW:LD) (bB:Int) (aR:BA) (bC:Int) (aT aY:LD) (bA:Int) (aU:BA) (bD:Int) (aV aZ:LD) (f0_0:Int) (f0_1:BA) (f0_2 f0_3 f0_4:Int) (f0_5:Bool) (f0_6:LD) (f0_7:Int) (f0_8:BA) (f0_9:Int) (f0_10 f0_11:LD) (f0_12:Int) (f0_13:BA) (f0_14:Int) (f0_15 f0_16:LD) (K:Bool->Option β):Option β:=bd1 (YaO.t k aC aB aD aA aI bE aW bB aR bC aT aY bA aU bD aV aZ f0_0 f0_1 f0_2 f0_3 f0_4 f0_5 f0_6 f0_7 f0_8 f0_9 f0_10 f0_11 f0_12 f0_13 f0_14 f0_15 f0_16) K
noncomputable def YaO.e (k:Nat):Zj:=ent [.agg [.n,.s,.n,.n,.n,.b,.l,.n,.s,.n,.l,.l,.n,.s,.n,.l,.l],.ip [.n,.s,.n,.n,.n,.b,.l,.n,.s,.n,.l,.l,.n,.s,.n,.l,.l]] [1] [.b] [4] false (YaO.t k)
noncomputable def YaO.p (k:Nat):Pro:=⟨Tryz.prog,[(120,Yah.e k)],Zv [] false [],k⟩
theorem YaO.ok (k:Nat):Zf Tryz.prog 119 (YaO.e k):=Zk (YaO.p k) mix tyok Tryz.func119 (Yah.ok k) (by kernel_rfl) (λaC aB aD aA aI bE aW bB aR bC aT aY bA aU bD aV aZ f0_0 f0_1 f0_2 f0_3 f0_4 f0_5 f0_6 f0_7 f0_8 f0_9 f0_10 f0_11 f0_12 f0_13 f0_14 f0_15 f0_16=>by show _=_;kernel_rfl)
noncomputable def Yk.l0 {β:Type} (k:Nat) (aF:LD) (aH:Int) (aJ:BA) (aK aL aX:Int) (bF:Bool) (bG:LD) (bI:Int) (bH:BA) (bW:Int) (bX bY:LD) (cG:Int) (cH:BA) (cJ:Int) (cK cL:LD) (cM:Int) (K L0:Int->Option β) (v:Int):Option β:=
 match v with
 |cP=>bif(decide ((cP:Int)<cM)) then(atR aF cP [.n,.s,.n,.n,.n,.b,.l,.n,.s,.n,.l,.l,.n,.s,.n,.l,.l] λx57 x60 x63 x66 x69 x72 x75 x78 x81 x84 x87 x90 x93 x96 x99 x102 x105=>(YaO.f k x57 x60 x63 x66 x69 x72 x75 x78 x81 x84 x87 x90 x93 x96 x99 x102 x105 aH aJ aK aL aX bF bG bI bH bW bX bY cG cH cJ cK cL (λy106=>bif y106 then(K cP) else(L0 (IntKind.wrap .i64 (cP+1)))))) else(K (-1))
noncomputable def Yk.m {β:Type} (k:Nat) (a0:LD) (a1_0_0:Int) (a1_0_1:BA) (a1_0_2 a1_0_3 a1_0_4:Int) (a1_0_5:Bool) (a1_0_6:LD) (a1_0_7:Int) (a1_0_8:BA) (a1_0_9:Int) (a1_0_10 a1_0_11:LD) (a1_0_12:Int) (a1_0_13:BA) (a1_0_14:Int) (a1_0_15 a1_0_16:LD) (K:Int->Option β) (F:(LD->Int->BA->Int->Int->Int->Bool->LD->Int->BA->Int->LD->LD->Int->BA->Int->LD->LD->Int->Int->Option β)):Option β:=
 F a0 a1_0_0 a1_0_1 a1_0_2 a1_0_3 a1_0_4 a1_0_5 a1_0_6 a1_0_7 a1_0_8 a1_0_9 a1_0_10 a1_0_11 a1_0_12 a1_0_13 a1_0_14 a1_0_15 a1_0_16 (a0.length:Int) (0)
noncomputable def Yk.g {β:Type} (k:Nat) (a0:LD) (a1_0_0:Int) (a1_0_1:BA) (a1_0_2 a1_0_3 a1_0_4:Int) (a1_0_5:Bool) (a1_0_6:LD) (a1_0_7:Int) (a1_0_8:BA) (a1_0_9:Int) (a1_0_10 a1_0_11:LD) (a1_0_12:Int) (a1_0_13:BA) (a1_0_14:Int) (a1_0_15 a1_0_16:LD) (K:Int->Option β):Option β:=
 ZA (Yk.l0 k a0 a1_0_0 a1_0_1 a1_0_2 a1_0_3 a1_0_4 a1_0_5 a1_0_6 a1_0_7 a1_0_8 a1_0_9 a1_0_10 a1_0_11 a1_0_12 a1_0_13 a1_0_14 a1_0_15 a1_0_16 (a0.length:Int) K) k (0)
noncomputable def Yk.t (k:Nat) (a0:LD) (a1_0_0:Int) (a1_0_1:BA) (a1_0_2 a1_0_3 a1_0_4:Int) (a1_0_5:Bool) (a1_0_6:LD) (a1_0_7:Int) (a1_0_8:BA) (a1_0_9:Int) (a1_0_10 a1_0_11:LD) (a1_0_12:Int) (a1_0_13:BA) (a1_0_14:Int) (a1_0_15 a1_0_16:LD):Option (Int):=Yk.g k a0 a1_0_0 a1_0_1 a1_0_2 a1_0_3 a1_0_4 a1_0_5 a1_0_6 a1_0_7 a1_0_8 a1_0_9 a1_0_10 a1_0_11 a1_0_12 a1_0_13 a1_0_14 a1_0_15 a1_0_16 (λz0=>some z0)
noncomputable def Yk.e (k:Nat):Zj:=ent [.d .l,.fn 119 [[.n,.s,.n,.n,.n,.b,.l,.n,.s,.n,.l,.l,.n,.s,.n,.l,.l]]] [1] [.n] [3] false (Yk.t k)
noncomputable def Yk.p (k:Nat):Pro:=⟨Tryz.prog,[(119,YaO.e k)],Zv [(2,kp [0,1,7,8])] false [],k⟩
noncomputable def Yk.d (k:Nat) (a0:LD) (a1_0_0:Int) (a1_0_1:BA) (a1_0_2 a1_0_3 a1_0_4:Int) (a1_0_5:Bool) (a1_0_6:LD) (a1_0_7:Int) (a1_0_8:BA) (a1_0_9:Int) (a1_0_10 a1_0_11:LD) (a1_0_12:Int) (a1_0_13:BA) (a1_0_14:Int) (a1_0_15 a1_0_16:LD):Ex->St->Option (Int):=(Yk.p k).fin Tryz.f149 [.d (.sl a0),.d (.fn 119 [[.int .i64 a1_0_0,.str a1_0_1,.int .i64 a1_0_2,.int .i64 a1_0_3,.int .i64 a1_0_4,.bool a1_0_5,.sl a1_0_6,.int .i64 a1_0_7,.str a1_0_8,.int .i64 a1_0_9,.sl a1_0_10,.sl a1_0_11,.int .i64 a1_0_12,.str a1_0_13,.int .i64 a1_0_14,.sl a1_0_15,.sl a1_0_16]])] [1] [.n]
noncomputable def Yk.s0 (aF:LD) (aH:Int) (aJ:BA) (aK aL aX:Int) (bF:Bool) (bG:LD) (bI:Int) (bH:BA) (bW:Int) (bX bY:LD) (cG:Int) (cH:BA) (cJ:Int) (cK cL:LD) (cM v:Int):St:=
 match v with
 |cP=>ZaA 19 [(0,.d false (.sl aF)),(1,.d false (.fn 119 [[.int .i64 aH,.str aJ,.int .i64 aK,.int .i64 aL,.int .i64 aX,.bool bF,.sl bG,.int .i64 bI,.str bH,.int .i64 bW,.sl bX,.sl bY,.int .i64 cG,.str cH,.int .i64 cJ,.sl cK,.sl cL]])),(7,.d true (.int .i64 cM)),(8,.d true (.int .i64 cP))] []
noncomputable def Yk.r0 (k:Nat) (a0:LD) (a1_0_0:Int) (a1_0_1:BA) (a1_0_2 a1_0_3 a1_0_4:Int) (a1_0_5:Bool) (a1_0_6:LD) (a1_0_7:Int) (a1_0_8:BA) (a1_0_9:Int) (a1_0_10 a1_0_11:LD) (a1_0_12:Int) (a1_0_13:BA) (a1_0_14:Int) (a1_0_15 a1_0_16 aF:LD) (aH:Int) (aJ:BA) (aK aL aX:Int) (bF:Bool) (bG:LD) (bI:Int) (bH:BA) (bW:Int) (bX bY:LD) (cG:Int) (cH:BA) (cJ:Int) (cK cL:LD) (cM:Int) (n:Nat) (v:Int):Option (Int):=(Yk.p k).lp (ZI Tryz.f149) 2 [1,0,1,0] (Yk.d k a0 a1_0_0 a1_0_1 a1_0_2 a1_0_3 a1_0_4 a1_0_5 a1_0_6 a1_0_7 a1_0_8 a1_0_9 a1_0_10 a1_0_11 a1_0_12 a1_0_13 a1_0_14 a1_0_15 a1_0_16) n (Yk.s0 aF aH aJ aK aL aX bF bG bI bH bW bX bY cG cH cJ cK cL cM v)
theorem Yk.l0_eq (k:Nat) (a0:LD) (a1_0_0:Int) (a1_0_1:BA) (a1_0_2 a1_0_3 a1_0_4:Int) (a1_0_5:Bool) (a1_0_6:LD) (a1_0_7:Int) (a1_0_8:BA) (a1_0_9:Int) (a1_0_10 a1_0_11:LD) (a1_0_12:Int) (a1_0_13:BA) (a1_0_14:Int) (a1_0_15 a1_0_16 aF:LD) (aH:Int) (aJ:BA) (aK aL aX:Int) (bF:Bool) (bG:LD) (bI:Int) (bH:BA) (bW:Int) (bX bY:LD) (cG:Int) (cH:BA) (cJ:Int) (cK cL:LD) (cM:Int):∀ n v,Yk.r0 k a0 a1_0_0 a1_0_1 a1_0_2 a1_0_3 a1_0_4 a1_0_5 a1_0_6 a1_0_7 a1_0_8 a1_0_9 a1_0_10 a1_0_11 a1_0_12 a1_0_13 a1_0_14 a1_0_15 a1_0_16 aF aH aJ aK aL aX bF bG bI bH bW bX bY cG cH cJ cK cL cM n v=ZA (Yk.l0 k aF aH aJ aK aL aX bF bG bI bH bW bX bY cG cH cJ cK cL cM (λz0=>some z0)) n v:=
 Zz (Yk.s0 aF aH aJ aK aL aX bF bG bI bH bW bX bY cG cH cJ cK cL cM) _ λL0 v=>by kernel_rfl
theorem Yk.ok (k:Nat):Zf Tryz.prog 149 (Yk.e k):=Zk (Yk.p k) mix tyok Tryz.func149 (YaO.ok k) (by kernel_rfl) (λa0 a1_0_0 a1_0_1 a1_0_2 a1_0_3 a1_0_4 a1_0_5 a1_0_6 a1_0_7 a1_0_8 a1_0_9 a1_0_10 a1_0_11 a1_0_12 a1_0_13 a1_0_14 a1_0_15 a1_0_16=>Eq.trans (b:=Yk.m k a0 a1_0_0 a1_0_1 a1_0_2 a1_0_3 a1_0_4 a1_0_5 a1_0_6 a1_0_7 a1_0_8 a1_0_9 a1_0_10 a1_0_11 a1_0_12 a1_0_13 a1_0_14 a1_0_15 a1_0_16 (λz0=>some z0) (λaF aH aJ aK aL aX bF bG bI bH bW bX bY cG cH cJ cK cL cM=>Yk.r0 k a0 a1_0_0 a1_0_1 a1_0_2 a1_0_3 a1_0_4 a1_0_5 a1_0_6 a1_0_7 a1_0_8 a1_0_9 a1_0_10 a1_0_11 a1_0_12 a1_0_13 a1_0_14 a1_0_15 a1_0_16 aF aH aJ aK aL aX bF bG bI bH bW bX bY cG cH cJ cK cL cM k)) (by kernel_rfl) (congrArg (Yk.m k a0 a1_0_0 a1_0_1 a1_0_2 a1_0_3 a1_0_4 a1_0_5 a1_0_6 a1_0_7 a1_0_8 a1_0_9 a1_0_10 a1_0_11 a1_0_12 a1_0_13 a1_0_14 a1_0_15 a1_0_16 (λz0=>some z0)) (funext λaF=>funext λaH=>funext λaJ=>funext λaK=>funext λaL=>funext λaX=>funext λbF=>funext λbG=>funext λbI=>funext λbH=>funext λbW=>funext λbX=>funext λbY=>funext λcG=>funext λcH=>funext λcJ=>funext λcK=>funext λcL=>funext λcM=>funext λv=>Yk.l0_eq k a0 a1_0_0 a1_0_1 a1_0_2 a1_0_3 a1_0_4 a1_0_5 a1_0_6 a1_0_7 a1_0_8 a1_0_9 a1_0_10 a1_0_11 a1_0_12 a1_0_13 a1_0_14 a1_0_15 a1_0_16 aF aH aJ aK aL aX bF bG bI bH bW bX bY cG cH cJ cK cL cM k v) :))
noncomputable def Yr.t (k:Nat) (xs:LC) (c0_0:Int) (c0_1:BA) (c0_2 c0_3 c0_4:Int) (c0_5:Bool) (c0_6:LD) (c0_7:Int) (c0_8:BA) (c0_9:Int) (c0_10 c0_11:LD) (c0_12:Int) (c0_13:BA) (c0_14:Int) (c0_15 c0_16:LD):Option LC:=delK (λds=>Yk.t k ds c0_0 c0_1 c0_2 c0_3 c0_4 c0_5 c0_6 c0_7 c0_8 c0_9 c0_10 c0_11 c0_12 c0_13 c0_14 c0_15 c0_16) (λs=>match s with|[.int .i64 x0,.str x1,.int .i64 x2,.int .i64 x3,.int .i64 x4,.bool x5,.sl x6,.int .i64 x7,.str x8,.int .i64 x9,.sl x10,.sl x11,.int .i64 x12,.str x13,.int .i64 x14,.sl x15,.sl x16]=>YaO.t k x0 x1 x2 x3 x4 x5 x6 x7 x8 x9 x10 x11 x12 x13 x14 x15 x16 c0_0 c0_1 c0_2 c0_3 c0_4 c0_5 c0_6 c0_7 c0_8 c0_9 c0_10 c0_11 c0_12 c0_13 c0_14 c0_15 c0_16|_=>none) xs
noncomputable def Yr.f {β:Type} (k:Nat) (xs:LC) (c0_0:Int) (c0_1:BA) (c0_2 c0_3 c0_4:Int) (c0_5:Bool) (c0_6:LD) (c0_7:Int) (c0_8:BA) (c0_9:Int) (c0_10 c0_11:LD) (c0_12:Int) (c0_13:BA) (c0_14:Int) (c0_15 c0_16:LD) (K:LC->Option β):Option β:=
 match Yr.t k xs c0_0 c0_1 c0_2 c0_3 c0_4 c0_5 c0_6 c0_7 c0_8 c0_9 c0_10 c0_11 c0_12 c0_13 c0_14 c0_15 c0_16 with
 |some z0=>K z0
 |none=>none
noncomputable def Yr.run (k:Nat):{β:Type}->List A->(LC->Option β)->Option β:=λ{β} l K=>
 match l with
 |[.own false [.own xs],.d (.fn g [[.int .i64 c0_0,.str c0_1,.int .i64 c0_2,.int .i64 c0_3,.int .i64 c0_4,.bool c0_5,.sl c0_6,.int .i64 c0_7,.str c0_8,.int .i64 c0_9,.sl c0_10,.sl c0_11,.int .i64 c0_12,.str c0_13,.int .i64 c0_14,.sl c0_15,.sl c0_16]])]=>bif g==119 then Yr.f k xs c0_0 c0_1 c0_2 c0_3 c0_4 c0_5 c0_6 c0_7 c0_8 c0_9 c0_10 c0_11 c0_12 c0_13 c0_14 c0_15 c0_16 K else none
 |_=>none
noncomputable def Yr.e (k:Nat):Zj:={ modes:=[(.own,0)],rts:=[30],al:=false,run:=λ_ _=>none,lib:=some ⟨[true,false],30,Yr.run k⟩ }
set_option maxHeartbeats 4000000 in
set_option maxRecDepth 1000000 in
theorem Yr.raw2 {P:Program} (mixed:P.follows .mixedOrders=true) (hf:P.funcs[118]? = some Tryz.f118) (eI:∀ args w,(callFunc 149 args).run P w=.ok (.enter 149 args) w) (t0:P.underlying 0=some (.tuple #[])) (a0:∀ w,(isAgg 0).run P w=.ok false w) (z0:∀ w,(Go.sizeOf 0).run P w=.ok 1 w) (v0:∀ w,(zeroValue 0).run P w=.ok (.tuple #[]) w)
  (t3:P.underlying 3=some (.int .i64)) (a3:∀ w,(isAgg 3).run P w=.ok false w) (z3:∀ w,(Go.sizeOf 3).run P w=.ok 1 w) (v3:∀ w,(zeroValue 3).run P w=.ok (.int .i64 0) w) (t4:P.underlying 4=some .bool) (a4:∀ w,(isAgg 4).run P w=.ok false w) (z4:∀ w,(Go.sizeOf 4).run P w=.ok 1 w) (v4:∀ w,(zeroValue 4).run P w=.ok (.bool false) w)
  (tS:P.underlying 30=some (.slice 98)) (aS:∀ w,(isAgg 30).run P w=.ok false w) (zS:∀ w,(Go.sizeOf 30).run P w=.ok 1 w) (vS:∀ w,(zeroValue 30).run P w=.ok (.slice none 0 0) w) (tG:P.underlying 154=some (.func #[98] #[4] false)) (aG:∀ w,(isAgg 154).run P w=.ok false w) (zG:∀ w,(Go.sizeOf 154).run P w=.ok 1 w) (vG:∀ w,(zeroValue 154).run P w=.ok .nilFunc w)
  (K:Nat) (hK:0<K) (zc:Array Value) (aE:∀ w,(isAgg 98).run P w=.ok true w) (zE:∀ w,(Go.sizeOf 98).run P w=.ok K w) (vE:∀ w,(zeroValue 98).run P w=.ok (.agg zc) w)
  (b cap n:Nat) (c:Array Value) (e:TypeId) (w:World) (g:Nat) (lb:Array Value) (p:Nat->Bool) (k0:Nat) (hb:w.heap[b]? = some (.cells c e (0,0))) (hc:c.size=cap*K) (hn:n<=cap) (hk0:k0<n) (hm:n<=1099511627776)
  (h1:∀ t,t<n*K->∃ v,c[t]? = some v/\v.oneCell'=true) (i0:TypeInfo) (hi:P.info? 98=some i0) (hz:i0.zero=some (.agg zc)) (hs:i0.size=K) (hzs:zc.size=K) (hz1:∀ v∈zc.toList,v.oneCell'=true)
  (eg:∀ args w,(callFunc g args).run P w=.ok (.enter g args) w)
  (hIF:Calls P 149 #[.slice (some ⟨b,0,none⟩) n cap,.func (.func g) #[] lb] w λe w'=>e=.returned (.int .i64 k0)/\Gs w w')
  (hpred:∀ j,k0<j->j<n->∀ W,Gr b w W->∀ vs:List Value,vs.length=K->(∀ t u,vs[t]? = some u->c[j*K+t]? = some u)->Calls P g (#[.agg vs.toArray]++lb) W λe w'=>e=.returned (.bool (p j))/\Gs W w'):
  Calls P 118 #[.slice (some ⟨b,0,none⟩) n cap,.func (.func g) #[] lb] w λex w'=>ex=.returned (.slice (some ⟨b,0,none⟩) (kpt p k0 n).length cap)/\Gr b w w'/\∃ c':Array Value,w'.heap[b]? = some (.cells c' e (0,0))/\c'.size=c.size/\∀ m k:Nat,(kpt p k0 n)[m]? = some k->∀ t,t<K->c'[m*K+t]? = c[k*K+t]?:=by
 have hHC:Hold (∀ j,k0<j->j<n->∀ W,Gr b w W->∀ vs:List Value,vs.length=K->(∀ t u,vs[t]? = some u->c[j*K+t]? = some u)->Calls P g (#[.agg vs.toArray]++lb) W λe w'=>e=.returned (.bool (p j))/\Gs W w'):=⟨hpred⟩
 have hH1:Hold (∀ t,t<n*K->∃ v,c[t]? = some v/\v.oneCell'=true):=⟨h1⟩
 have hHZ:Hold (i0.zero=some (.agg zc)/\i0.size=K/\zc.size=K/\(∀ v∈zc.toList,v.oneCell'=true)/\P.info? 98=some i0):=⟨hz,hs,hzs,hz1,hi⟩
 have hHB:Hold (w.heap[b]? = some (.cells c e (0,0))/\c.size=cap*K):=⟨hb,hc⟩
 have hHK:Hold (0<K):=⟨hK⟩
 clear hpred h1 hz hs hzs hz1 hi hb hc hK
 have hne1:((k0:Int) == -1)=false:=beq_eq_false_iff_ne.2 (by omega)
 go_enter hf,Tryz.ntmps118
 go_wp2_with (go_at_fn 149;refine hIF.mono ?_;rintro e w' ⟨rfl,hg⟩)
 go_loopg [5,6,7] n (λgg s5 s6 _ wr=>∃ (i j:Nat),s5=.int .i64 i/\s6=.int .i64 j/\j<=n/\n-j<=gg/\Hold (∃ ck:Array Value,DfK K b k0 c e p w wr i j ck))
 case atStart=>
  refine⟨k0,k0+1,rfl,by go_num,by omega,by omega,⟨c,by omega,hg.gr b,?_,rfl,?_,λ_ _=>rfl,λm k hk=>?_⟩⟩
  ·rw[hg.same b (by have:=(Array.getElem?_eq_some_iff.mp hHB.out.1).1;exact this)];exact hHB.out.1
  ·unfold kpt;simp
  ·unfold kpt at hk
   simp only[Nat.sub_self,List.range'_zero,List.filter_nil,List.append_nil] at hk
   have:=List.getElem?_eq_some_iff.mp hk
   obtain⟨q,hq⟩:=this
   rw[List.getElem_range] at hq
   rw[hq]
   exact λ_ _=>rfl
 case round=>
  obtain⟨i,j,rfl,rfl,hjd,hgg,⟨ck,hI⟩⟩:=hrel
  have hij:i<j/\k0<=i:=by have:=kpt_le (p:=p) hI.lt;rw[hI.len] at this;omega
  obtain⟨hij,hki⟩:=hij
  by_cases hlt:j<n
  ·have hltz:(j:Int)<(n:Int):=by omega
   obtain⟨ul,ug,u1⟩:=cut_cells hH1.out (i:=j) (m:=1) (by omega)
   generalize(c.toList.drop (j*K)).take (1*K)=us at ul ug u1
   rw[Nat.one_mul] at ul ug
   have ug':∀ t u,us[t]? = some u->c[j*K+t]? = some u:=λt u h=>((ug t u).mp h).2
   have hblt:b<wr.heap.size:=(Array.getElem?_eq_some_iff.mp hI.at_).1
   have l1:Sem.run P (loadCellsFrom ⟨b,j*K,none⟩ 0 K #[]) wr=.ok us.toArray wr:=load_list P wr _ us K ul (λt u ht=>by
    rw[Addr.add_lit,Zat hI.at_,hI.high _ (by omega)]
    exact ug' t u ht)
   have hzc:=hHZ.out.2.2.1
   obtain⟨hN,hO⟩:=Zaa us 0 (alloc_at wr (.cells zc 98))
   have s1:Sem.run P (storeCells ⟨wr.heap.size,0,none⟩ us 0) (wr.alloc (.cells zc 98))=.ok () ((wr.alloc (.cells zc 98)).setCells wr.heap.size 0 us):=by
    have:=run_storeCells_cells (P:=P) wr.heap.size 0 us 0 (wr.alloc (.cells zc 98)) (λt ht=>by rw[Zat (alloc_at wr _),Array.getElem?_eq_getElem (by omega)];rfl) (λt ht=>Zax (alloc_at wr _) _) u1
    exact this
   have hG1:Gs wr ((wr.alloc (.cells zc 98)).setCells wr.heap.size 0 us):=(gs_alloc wr _).trans_only hO (Nat.le_refl _)
   obtain⟨W1,hW1⟩:∃ W1,Hold (W1=(wr.alloc (.cells zc 98)).setCells wr.heap.size 0 us):=⟨_,⟨rfl⟩⟩
   rw[<- hW1.out] at s1 hN hG1
   have l2:∀ w',Gs W1 w'->Sem.run P (loadCellsFrom ⟨wr.heap.size,0,none⟩ 0 K #[]) w'=.ok us.toArray w':=λw' hg2=>load_list P w' _ us K ul (λt u ht=>by
    have hlt1:=(Array.getElem?_eq_some_iff.mp hN).1
    have ht':t<us.length:=(List.getElem?_eq_some_iff.mp ht).1
    rw[Addr.add_lit,Zat ((hg2.same _ hlt1).trans hN),Z6 _ _ _ _ (by omega),if_pos (by omega)]
    simpa using ht)
   have l2':=l2 W1 (Gs.refl W1)
   have hcall:=hHC.out j hI.lt hlt W1 (hI.gr.trans (hG1.gr b)) us ul ug'
   have hst:Hold (∀ (w':World),Gs W1 w'->w'.heap[b]? = some (.cells ck e (0,0))/\Sem.run P (storeCells ⟨b,i*K,none⟩ us 0) w'=.ok () (w'.setCells b (i*K) us)):=⟨λw' hg2=>by
    have hb5:=(hg2.same b (Nat.lt_of_lt_of_le hblt hG1.size)).trans ((hG1.same b hblt).trans hI.at_)
    refine⟨hb5,?_⟩
    have hle:i*K+us.length<=ck.size:=by
     rw[hI.size,hHB.out.2,ul,<- Nat.succ_mul]
     exact Nat.mul_le_mul_right K (by omega)
    have:=run_storeCells_cells (P:=P) b (i*K) us 0 w' (λt ht=>by rw[Nat.add_zero,Zat hb5,Array.getElem?_eq_getElem (by omega)];rfl) (λt ht=>Zax hb5 _) u1
    rwa[Nat.add_zero] at this⟩
   have l2H:Hold (∀ w',Gs W1 w'->Sem.run P (loadCellsFrom ⟨wr.heap.size,0,none⟩ 0 K #[]) w'=.ok us.toArray w'):=⟨l2⟩
   have W2:Hold (DfK K b k0 c e p w wr i j ck/\Gs wr W1/\∀ t,t<K->us[t]? = c[j*K+t]?):=⟨hI,hG1,λt ht=>by
    obtain⟨u,hu,_⟩:=hH1.out (j*K+t) (by
     have:=Nat.mul_le_mul_right K (show j+1<=n from hlt)
     rw[Nat.succ_mul] at this
     omega)
    rw[hu]
    exact(ug t u).mpr ⟨by omega,hu⟩⟩
   clear hI hN hO hG1 ug ug' u1 l2 hzc
   cases hq:p j with
   |false=>
    rw[hq] at hcall
    clear hHC hH1 hHZ hIF
    go_wp2_with (go_at_fn g;refine hcall.mono ?_;rintro e w' ⟨rfl,hg2⟩;have l3:=l2H.out w' hg2;have s3:=(hst.out w' hg2).2)
    go_roundg (n-(j+1))
    case measure=>omega
    case rel=>
     obtain⟨hI,hG1,hus⟩:=W2.out
     have hb5:=(hst.out w' hg2).1
     obtain⟨hb3,ho3⟩:=Zaa us (i*K) hb5
     have hle:i*K+us.length<=ck.size:=by
      rw[hI.size,hHB.out.2,ul,<- Nat.succ_mul]
      exact Nat.mul_le_mul_right K (by omega)
     have hiK:i*K+K<=j*K:=by
      rw[<- Nat.succ_mul]
      exact Nat.mul_le_mul_right K hij
     have hjK:(j+1)*K=j*K+K:=Nat.succ_mul ..
     refine⟨i+1,j+1,by go_num,by go_num,by omega,Nat.le_refl _,⟨putA ck (i*K) us,?_⟩⟩
     refine⟨by have:=hI.lt;omega,((hI.gr.trans (hG1.gr b)).trans (hg2.gr b)).trans ho3.gr,hb3,by rw[Zab];exact hI.size,by rw[kpt_keep hI.lt hq,List.length_append,hI.len];rfl,λt ht=>?_,λm k hk t ht=>?_⟩
     ·rw[Z6 _ _ _ _ hle,if_neg (by omega)]
      exact hI.high t (by omega)
     ·rw[kpt_keep hI.lt hq] at hk
      by_cases hm:m<i
      ·have:m*K+K<=i*K:=by
        rw[<- Nat.succ_mul]
        exact Nat.mul_le_mul_right K hm
       rw[Z6 _ _ _ _ hle,if_neg (by omega)]
       exact hI.low m k (by rwa[List.getElem?_append_left (by rw[hI.len];exact hm)] at hk) t ht
      ·rw[List.getElem?_append_right (by rw[hI.len];omega),hI.len] at hk
       have hm0:m=i:=by
        by_cases h:m-i=0
        ·omega
        ·rw[List.getElem?_eq_none (by simp;omega)] at hk;cases hk
       subst hm0
       simp at hk
       subst hk
       rw[Z6 _ _ _ _ hle,if_pos (by omega),Nat.add_sub_cancel_left]
       exact hus t ht
   |true=>
    rw[hq] at hcall
    clear hHC hH1 hHZ hIF
    go_wp2_with (go_at_fn g;refine hcall.mono ?_;rintro e w' ⟨rfl,hg2⟩)
    go_roundg (n-(j+1))
    case measure=>omega
    case rel=>
     obtain⟨hI,hG1,hus⟩:=W2.out
     have hb5:=(hst.out w' hg2).1
     have hjK:(j+1)*K=j*K+K:=Nat.succ_mul ..
     refine⟨i,j+1,rfl,by go_num,by omega,Nat.le_refl _,⟨ck,?_⟩⟩
     exact⟨by have:=hI.lt;omega,(hI.gr.trans (hG1.gr b)).trans (hg2.gr b),hb5,hI.size,by rw[kpt_skip hI.lt hq];exact hI.len,λt ht=>hI.high t (by omega),by rw[kpt_skip hI.lt hq];exact hI.low⟩
  ·obtain rfl:j=n:=by omega
   have hltz:¬ (j:Int)<(j:Int):=by omega
   have hcs:=hHB.out.2
   obtain⟨hz,hs,hzs,hz1,hi⟩:=hHZ.out
   have hjc:i*K+(j-i)*K<=cap*K:=by
    rw[<- Nat.add_mul]
    exact Nat.mul_le_mul_right K (by omega)
   have hcl:∀ ty,(Builtin.clear_ #[30] ty #[.slice (some ⟨b,i*K,none⟩) (j-i) (cap-i)]).run P wr=.ok (.tuple #[]) (wr.setCells b (i*K) (Builtin.zeroCells zc (j-i)).toList):=
    λty=>run_clear_cells tS hi hz hz1 (by omega) (λt ht=>by rw[Zat hI.at_];change t<(j-i)*zc.size at ht;rw[hzs] at ht;rw[Array.getElem?_eq_getElem (by rw[hI.size,hcs];omega)];rfl) (λt ht=>Zax hI.at_ _)
   obtain⟨hb4,ho4⟩:=Zaa (Builtin.zeroCells zc (j-i)).toList (i*K) hI.at_
   have hfin:Hold (Gr b w (wr.setCells b (i*K) (Builtin.zeroCells zc (j-i)).toList)/\∃ c':Array Value,(wr.setCells b (i*K) (Builtin.zeroCells zc (j-i)).toList).heap[b]? = some (.cells c' e (0,0))/\c'.size=c.size/\∀ m k:Nat,(kpt p k0 j)[m]? = some k->∀ t,t<K->c'[m*K+t]? = c[k*K+t]?):=by
    have hzl:(Builtin.zeroCells zc (j-i)).toList.length=(j-i)*K:=by simp[Zaj,hzs]
    refine⟨hI.gr.trans ho4.gr,_,hb4,by rw[Zab];exact hI.size,λm k hk t ht=>?_⟩
    have hmi:m<i:=by rw[<- hI.len];exact(List.getElem?_eq_some_iff.mp hk).1
    have:m*K+K<=i*K:=by
     rw[<- Nat.succ_mul]
     exact Nat.mul_le_mul_right K hmi
    rw[Z6 _ _ _ _ (by rw[hzl,hI.size,hcs];omega),if_neg (by omega)]
    exact hI.low m k hk t ht
   have hlen:=hI.len
   generalize(Builtin.zeroCells zc (j-i)).toList=zl at hcl hfin
   clear hI hz hs hzs hz1 hi hb4 ho4 hcs hjc
   have hic:i<=cap:=by omega
   go_wp2
   go_ret
   refine⟨?_,hfin.out⟩
   first|rfl|(rw[hlen];rfl)
set_option maxHeartbeats 4000000 in
set_option maxRecDepth 1000000 in
theorem Yr.raw0 (a:Option Addr) (n cap:Nat) (w:World) (g:Nat) (lb:Array Value) (hn:n<=cap) (hIF:Calls Tryz.prog 149 #[.slice a n cap,.func (.func g) #[] lb] w λe w'=>e=.returned (.int .i64 (-1))/\Gs w w'):Calls Tryz.prog 118 #[.slice a n cap,.func (.func g) #[] lb] w λex w'=>ex=.returned (.slice a n cap)/\Gs w w':=by
 go_enter Tryz.func118,Tryz.ntmps118
 go_wp2_with (go_at_call 149;refine hIF.mono ?_;rintro e w' ⟨rfl,hg⟩)
 go_ret
 exact⟨rfl,hg⟩
theorem Yr.raw:DfRawK Tryz.prog 118 149 17:=⟨λa n cap w g lb hn h=>Yr.raw0 a n cap w g lb hn h,λb cap n c e w g lb p k0 h1 h2 h3 h4 h5 h6 h7 h8 h9=>by
 obtain⟨i0,z,hi,hz,hzs⟩:=Zbr (P:=Tryz.prog) (t:=98) (by kernel_rfl)
 have hsz:i0.size=17:=by
  have:Tryz.prog.cellsOf 98=17:=by kernel_rfl
  simpa[Program.cellsOf,hi] using this
 have hzc:z.cells.size=17:=by
  have h1:(ZaM Tryz.prog 98).length=17:=by kernel_rfl
  rw[<- h1]
  simpa using(Zaq hzs).2.2.1.symm
 have hzv:∀ w,(zeroValue 98).run Tryz.prog w=.ok z w:=λw=>by simp[zeroValue,typeInfo,hi,hz]
 obtain⟨zc,rfl⟩:∃ zc,z=.agg zc:=by
  have h:=(hzv w).symm.trans (Tryz.zeroValue98 w)
  injection h with h
  exact⟨_,h⟩
 exact Yr.raw2 (by kernel_rfl) Tryz.func118 (enters_of Tryz.func149 (by kernel_rfl) (c:=ZI Tryz.f149) (by kernel_rfl)) Tryz.underlying0 Tryz.isAgg0 Tryz.sizeOf0 Tryz.zeroValue0 Tryz.underlying3 Tryz.isAgg3 Tryz.sizeOf3 Tryz.zeroValue3 Tryz.underlying4 Tryz.isAgg4 Tryz.sizeOf4 Tryz.zeroValue4
  Tryz.underlying30 Tryz.isAgg30 Tryz.sizeOf30 Tryz.zeroValue30 Tryz.underlying154 Tryz.isAgg154 Tryz.sizeOf154 Tryz.zeroValue154 17 (by decide) zc Tryz.isAgg98 Tryz.sizeOf98 hzv b cap n c e w g lb p k0 h1 h2 h3 h4 h5 h6 i0 hi hz hsz hzc (Zaq hzs).2.1 h7 h8 h9⟩
theorem Yr.ok (k:Nat):Zf Tryz.prog 118 (Yr.e k):=delfuncK_ok tyok (ct:=30) (K:=17) (g:=119) (fi:=149) (run:=λ{β}=>Yr.run k) (by kernel_rfl) (by decide) (enter_of Tryz.func118 (by kernel_rfl)) Yr.raw (by kernel_rfl) (by kernel_rfl) (Yk.ok k) (YaO.ok k) (λβ aa K r h=>by
 unfold Yr.run at h
 split at h
 ·rename_i xs g c0_0 c0_1 c0_2 c0_3 c0_4 c0_5 c0_6 c0_7 c0_8 c0_9 c0_10 c0_11 c0_12 c0_13 c0_14 c0_15 c0_16
  cases hg:g==119 with
  |false=>rw[hg] at h;cases h
  |true=>
   rw[hg] at h
   obtain rfl:=eq_of_beq hg
   simp only[cond_true] at h
   unfold Yr.f Yr.t at h
   split at h
   ·rename_i z0 hz
    refine⟨_,_,_,_,_,rfl,hz,h,rfl,rfl,rfl,rfl,λds z h=>?_,λs q h=>?_⟩
    ·exact(ent_run (Yk.e k) rfl (congrArg some h) rfl)
    ·split at h
     ·rename_i x0 x1 x2 x3 x4 x5 x6 x7 x8 x9 x10 x11 x12 x13 x14 x15 x16
      exact(ent_run (YaO.e k) rfl (congrArg some h) rfl)
     ·cases h
   ·cases h
 ·cases h)
noncomputable def Yd.l0 {β:Type} (k:Nat) (aF:LD) (aH aL:Int) (aX:BA) (bF bG bI:Int) (bH:Bool) (bW:LD) (bX:Int) (bY:BA) (cG:Int) (cH cJ:LD) (cK:Int) (cL:BA) (cM:Int) (cP cQ:LD) (K:Int->Bool->Option β) (L0:(Int×Int)->Option β) (v:Int×Int):Option β:=
 match v with
 |(aJ,aK)=>bif(decide ((aJ:Int)<aK)) then(let J1:=(Int.fdiv (IntKind.wrap .u64 (IntKind.wrap .i64 (aJ+aK))) (2^(min (1:Int).toNat 64)));let J0:=(IntKind.wrap .i64 J1);Zd ((0:Int)<=1) (atRow aF J0 λc107=>rdQ [.n,.s,.n,.n,.n,.b,.l,.n,.s,.n,.l,.l,.n,.s,.n,.l,.l] c107 λx110 x113 x116 x119 x122 x125 x128 x131 x134 x137 x140 x143 x146 x149 x152 x155 x158=>(Yah.f k x110 x113 x116 x119 x122 x125 x128 x131 x134 x137 x140 x143 x146 x149 x152 x155 x158 aL aX bF bG bI bH bW bX bY cG cH cJ cK cL cM cP cQ (λy159=>bif(decide ((y159:Int)<0)) then(L0 (IntKind.wrap .i64 (J0+1),aK)) else(L0 (aJ,IntKind.wrap .i64 J1)))))) else(bif(decide ((aJ:Int)<aH)) then(atR aF aJ [.n,.s,.n,.n,.n,.b,.l,.n,.s,.n,.l,.l,.n,.s,.n,.l,.l] λx163 x166 x169 x172 x175 x178 x181 x184 x187 x190 x193 x196 x199 x202 x205 x208 x211=>(Yah.f k x163 x166 x169 x172 x175 x178 x181 x184 x187 x190 x193 x196 x199 x202 x205 x208 x211 aL aX bF bG bI bH bW bX bY cG cH cJ cK cL cM cP cQ (λy212=>K aJ ((y212:Int)==0)))) else(K aJ false))
noncomputable def Yd.m {β:Type} (k:Nat) (a0:LD) (aM:Int) (aN:BA) (aO aP aQ:Int) (bJ:Bool) (bK:LD) (bL:Int) (bM:BA) (bN:Int) (bO bP:LD) (bQ:Int) (bR:BA) (bT:Int) (bU bV:LD) (K:Int->Bool->Option β) (F:(LD->Int->Int->BA->Int->Int->Int->Bool->LD->Int->BA->Int->LD->LD->Int->BA->Int->LD->LD->(Int×Int)->Option β)):Option β:=
 F a0 (a0.length:Int) aM aN aO aP aQ bJ bK bL bM bN bO bP bQ bR bT bU bV (0,(a0.length:Int))
noncomputable def Yd.g {β:Type} (k:Nat) (a0:LD) (aM:Int) (aN:BA) (aO aP aQ:Int) (bJ:Bool) (bK:LD) (bL:Int) (bM:BA) (bN:Int) (bO bP:LD) (bQ:Int) (bR:BA) (bT:Int) (bU bV:LD) (K:Int->Bool->Option β):Option β:=
 ZA (Yd.l0 k a0 (a0.length:Int) aM aN aO aP aQ bJ bK bL bM bN bO bP bQ bR bT bU bV K) k (0,(a0.length:Int))
noncomputable def Yd.t (k:Nat) (a0:LD) (aM:Int) (aN:BA) (aO aP aQ:Int) (bJ:Bool) (bK:LD) (bL:Int) (bM:BA) (bN:Int) (bO bP:LD) (bQ:Int) (bR:BA) (bT:Int) (bU bV:LD):Option (Int×Bool):=Yd.g k a0 aM aN aO aP aQ bJ bK bL bM bN bO bP bQ bR bT bU bV (λz0 z1=>some (z0,z1))
noncomputable def Yd.f {β:Type} (k:Nat) (a0:LD) (aM:Int) (aN:BA) (aO aP aQ:Int) (bJ:Bool) (bK:LD) (bL:Int) (bM:BA) (bN:Int) (bO bP:LD) (bQ:Int) (bR:BA) (bT:Int) (bU bV:LD) (K:Int->Bool->Option β):Option β:=bd2 (Yd.t k a0 aM aN aO aP aQ bJ bK bL bM bN bO bP bQ bR bT bU bV) K
noncomputable def Yd.e (k:Nat):Zj:=ent [.d .l,.agg [.n,.s,.n,.n,.n,.b,.l,.n,.s,.n,.l,.l,.n,.s,.n,.l,.l],.fn 120 []] [1,1] [.n,.b] [3,4] false (Yd.t k)
noncomputable def Yd.p (k:Nat):Pro:=⟨Tryz.prog,[(120,Yah.e k)],Zv [(3,kp [0,2,4,8,9,10])] false [],k⟩
noncomputable def Yd.d (k:Nat) (a0:LD) (aM:Int) (aN:BA) (aO aP aQ:Int) (bJ:Bool) (bK:LD) (bL:Int) (bM:BA) (bN:Int) (bO bP:LD) (bQ:Int) (bR:BA) (bT:Int) (bU bV:LD):Ex->St->Option (Int×Bool):=(Yd.p k).fin Tryz.f153 [.d (.sl a0),.agg [.int .i64 aM,.str aN,.int .i64 aO,.int .i64 aP,.int .i64 aQ,.bool bJ,.sl bK,.int .i64 bL,.str bM,.int .i64 bN,.sl bO,.sl bP,.int .i64 bQ,.str bR,.int .i64 bT,.sl bU,.sl bV],.d (.fn 120 [])] [1,1] [.n,.b]
noncomputable def Yd.s0 (aF:LD) (aH aL:Int) (aX:BA) (bF bG bI:Int) (bH:Bool) (bW:LD) (bX:Int) (bY:BA) (cG:Int) (cH cJ:LD) (cK:Int) (cL:BA) (cM:Int) (cP cQ:LD) (v:Int×Int):St:=
 match v with
 |(aJ,aK)=>ZaA 49 [(0,.d false (.sl aF)),(2,.d false (.fn 120 [])),(4,.bp 0 0),(8,.d true (.int .i64 aH)),(9,.d true (.int .i64 aJ)),(10,.d true (.int .i64 aK))] [.box none 98 [.d false (.int .i64 aL),.d false (.str aX),.d false (.int .i64 bF),.d false (.int .i64 bG),.d false (.int .i64 bI),.d false (.bool bH),.d false (.sl bW),.d false (.int .i64 bX),.d false (.str bY),.d false (.int .i64 cG),.d false (.sl cH),.d false (.sl cJ),.d false (.int .i64 cK),.d false (.str cL),.d false (.int .i64 cM),.d false (.sl cP),.d false (.sl cQ)]]
noncomputable def Yd.r0 (k:Nat) (a0:LD) (aM:Int) (aN:BA) (aO aP aQ:Int) (bJ:Bool) (bK:LD) (bL:Int) (bM:BA) (bN:Int) (bO bP:LD) (bQ:Int) (bR:BA) (bT:Int) (bU bV aF:LD) (aH aL:Int) (aX:BA) (bF bG bI:Int) (bH:Bool) (bW:LD) (bX:Int) (bY:BA) (cG:Int) (cH cJ:LD) (cK:Int) (cL:BA) (cM:Int) (cP cQ:LD) (n:Nat) (v:Int×Int):Option (Int×Bool):=(Yd.p k).lp (ZI Tryz.f153) 3 [1,1,1,0,0] (Yd.d k a0 aM aN aO aP aQ bJ bK bL bM bN bO bP bQ bR bT bU bV) n (Yd.s0 aF aH aL aX bF bG bI bH bW bX bY cG cH cJ cK cL cM cP cQ v)
theorem Yd.l0_eq (k:Nat) (a0:LD) (aM:Int) (aN:BA) (aO aP aQ:Int) (bJ:Bool) (bK:LD) (bL:Int) (bM:BA) (bN:Int) (bO bP:LD) (bQ:Int) (bR:BA) (bT:Int) (bU bV aF:LD) (aH aL:Int) (aX:BA) (bF bG bI:Int) (bH:Bool) (bW:LD) (bX:Int) (bY:BA) (cG:Int) (cH cJ:LD) (cK:Int) (cL:BA) (cM:Int) (cP cQ:LD):∀ n v,Yd.r0 k a0 aM aN aO aP aQ bJ bK bL bM bN bO bP bQ bR bT bU bV aF aH aL aX bF bG bI bH bW bX bY cG cH cJ cK cL cM cP cQ n v=ZA (Yd.l0 k aF aH aL aX bF bG bI bH bW bX bY cG cH cJ cK cL cM cP cQ (λz0 z1=>some (z0,z1))) n v:=
 Zz (Yd.s0 aF aH aL aX bF bG bI bH bW bX bY cG cH cJ cK cL cM cP cQ) _ λL0 v=>by obtain⟨aJ,aK⟩:=v;kernel_rfl
theorem Yd.ok (k:Nat):Zf Tryz.prog 153 (Yd.e k):=Zk (Yd.p k) mix tyok Tryz.func153 (Yah.ok k) (by kernel_rfl) (λa0 aM aN aO aP aQ bJ bK bL bM bN bO bP bQ bR bT bU bV=>Eq.trans (b:=Yd.m k a0 aM aN aO aP aQ bJ bK bL bM bN bO bP bQ bR bT bU bV (λz0 z1=>some (z0,z1)) (λaF aH aL aX bF bG bI bH bW bX bY cG cH cJ cK cL cM cP cQ=>Yd.r0 k a0 aM aN aO aP aQ bJ bK bL bM bN bO bP bQ bR bT bU bV aF aH aL aX bF bG bI bH bW bX bY cG cH cJ cK cL cM cP cQ k)) (by kernel_rfl) (congrArg (Yd.m k a0 aM aN aO aP aQ bJ bK bL bM bN bO bP bQ bR bT bU bV (λz0 z1=>some (z0,z1))) (funext λaF=>funext λaH=>funext λaL=>funext λaX=>funext λbF=>funext λbG=>funext λbI=>funext λbH=>funext λbW=>funext λbX=>funext λbY=>funext λcG=>funext λcH=>funext λcJ=>funext λcK=>funext λcL=>funext λcM=>funext λcP=>funext λcQ=>funext λv=>Yd.l0_eq k a0 aM aN aO aP aQ bJ bK bL bM bN bO bP bQ bR bT bU bV aF aH aL aX bF bG bI bH bW bX bY cG cH cJ cK cL cM cP cQ k v) :))
noncomputable def YJ.t (k:Nat) (xs:LC) (i:Int) (ys:LC):Option LC:=Zd (0<=i/\i<=(xs.length:Int)/\xs.length+ys.length<=Z8) (some (xs.take i.toNat++ys++xs.drop i.toNat))
noncomputable def YJ.f {β:Type} (k:Nat) (xs:LC) (i:Int) (ys:LC) (K:LC->Option β):Option β:=
 match YJ.t k xs i ys with
 |some z0=>K z0
 |none=>none
noncomputable def YJ.run (k:Nat):{β:Type}->List A->(LC->Option β)->Option β:=λ{β} l K=>
 match l with
 |[.own false [.own xs],.d (.int .i64 i),.own false [.own ys]]=>YJ.f k xs i ys K
 |_=>none
noncomputable def YJ.e (k:Nat):Zj:={ modes:=[(.own,0)],rts:=[30],al:=false,run:=λ_ _=>none,lib:=some ⟨[true,false,true],30,YJ.run k⟩ }
set_option maxHeartbeats 4000000 in
set_option maxRecDepth 1000000 in
theorem YJ.raw0 (a:Option Addr) (n cap i:Nat) (a':Option Addr) (cap':Nat) (w:World) (hi:i<=n) (hn:n<=cap):Calls Tryz.prog 154 #[.slice a n cap,.int .i64 i,.slice a' 0 cap'] w λex w'=>ex=.returned (.slice a n cap)/\w'=w:=by
 go_enter Tryz.func154,Tryz.ntmps154
 go_wp2
 all_goals (go_ret;exact⟨rfl,rfl⟩)
set_option maxHeartbeats 4000000 in
set_option maxRecDepth 1000000 in
theorem YJ.rawA (a:Option Addr) (n cap m vb vcap:Nat) (w W':World) (R:Value) (hm:0<m) (hn:n<=cap) (hrun:∀ ty,(Builtin.append_ #[30,30] ty #[.slice a n cap,.slice (some ⟨vb,0,none⟩) m vcap]).run Tryz.prog w=.ok R W'):
  Calls Tryz.prog 154 #[.slice a n cap,.int .i64 n,.slice (some ⟨vb,0,none⟩) m vcap] w λex w'=>ex=.returned R/\w'=W':=by
 have mixed:Tryz.prog.follows .mixedOrders=true:=by kernel_rfl
 have hz1:¬ ((m:Int)=0):=by omega
 go_enter Tryz.func154,Tryz.ntmps154
 cases a with
 |none=>
  go_wp2_with (at_builtin;refine Lib.wpList_append_run _ rfl _ _ _ _ rfl _ _ rfl rfl _ _ (hrun _) ?_)
  all_goals (go_ret;exact⟨rfl,rfl⟩)
 |some a=>
  obtain⟨ab,ao,asp⟩:=a
  go_wp2_with (at_builtin;refine Lib.wpList_append_run _ rfl _ _ _ _ rfl _ _ rfl rfl _ _ (hrun _) ?_)
  all_goals (go_ret;exact⟨rfl,rfl⟩)
set_option maxHeartbeats 4000000 in
set_option maxRecDepth 1000000 in
theorem YJ.rawB (b n cap i vb m vcap:Nat) (cd vs:List Value) (w:World) (hi:i<n) (hm:0<m) (hroom:n+m<=cap) (hnm:n+m<=9223372036854775807)
  (hov:∀ lb cb,(callFunc 179 #[.slice (some ⟨vb,0,none⟩) m vcap,.slice (some ⟨b,(i+m)*17,none⟩) lb cb]).run Tryz.prog w=.ok (.value (.bool false)) w)
  (hcp1:∀ ty dc sc,(Builtin.copy_ #[30,30] ty #[.slice (some ⟨b,(i+m)*17,none⟩) (n+m-(i+m)) dc,.slice (some ⟨b,i*17,none⟩) (n+m-i) sc]).run Tryz.prog w.drew=.ok (goInt ((n-i:Nat):Int)) (w.drew.setCells b ((i+m)*17) cd))
  (hcp2:∀ ty dc,(Builtin.copy_ #[30,30] ty #[.slice (some ⟨b,i*17,none⟩) (n+m-i) dc,.slice (some ⟨vb,0,none⟩) m vcap]).run Tryz.prog (w.drew.setCells b ((i+m)*17) cd)=.ok (goInt m) ((w.drew.setCells b ((i+m)*17) cd).setCells b (i*17) vs)):
  Calls Tryz.prog 154 #[.slice (some ⟨b,0,none⟩) n cap,.int .i64 i,.slice (some ⟨vb,0,none⟩) m vcap] w λex w'=>ex=.returned (.slice (some ⟨b,0,none⟩) (n+m) cap)/\w'=(w.drew.setCells b ((i+m)*17) cd).setCells b (i*17) vs:=by
 have mixed:Tryz.prog.follows .mixedOrders=true:=by kernel_rfl
 have hz1:¬ ((m:Int)=0):=by omega
 have hz2:¬ ((i:Int)=(n:Int)):=by omega
 have hw1:IntKind.i64.wrap ((i:Int)+(m:Int))=(i:Int)+(m:Int):=by rw[IntKind.wrap_i64];omega
 have hb1:(0:Int)<=(i:Int)+(m:Int):=by omega
 have hin:i<=n:=by omega
 have htn:((i:Int)+(m:Int)).toNat=i+m:=by omega
 have hb2:¬ (cap=i+m):=by omega
 have hb3:(i:Int)<=(n:Int)+(m:Int):=by omega
 have hb4:¬ (cap=i):=by omega
 obtain⟨W1,hW1⟩:∃ W1,Hold (W1=w.drew.setCells b ((i+m)*17) cd):=⟨_,⟨rfl⟩⟩
 rw[<- hW1.out] at hcp1 hcp2⊢
 go_enter Tryz.func154,Tryz.ntmps154
 go_wp2_with (simp only[hov])
 go_region_law_o (refine step_copy_run rfl _ _ 30 30 rfl _ _ (by simp[Act.eval,Act.put]) (by simp[Act.eval,Act.put]) (hcp1 _ _ _) ?_)
 go_wp2_with (at_builtin;refine wpList_copy_run _ rfl _ _ 30 30 rfl _ _ rfl rfl (hcp2 _ _) ?_)
 go_ret
 exact⟨rfl,rfl⟩
set_option maxHeartbeats 4000000 in
set_option maxRecDepth 1000000 in
theorem YJ.rawC (b n cap i vb m vcap G N:Nat) (cd vs:List Value) (w W1:World) (hi:i<n) (hm:0<m) (hn:n<=cap) (hroom:cap<n+m) (hG:n+m<=G) (hG63:G<=9223372036854775807)
  (hrz:∀ ty,(Builtin.append_ #[30,3] ty #[.slice (some ⟨b,0,none⟩) i cap,.int .i64 ((n:Int)+(m:Int)-(i:Int))]).run Tryz.prog w=.ok (.slice (some ⟨N,0,none⟩) (n+m) G) W1)
  (hcpA:∀ ty dc,(Builtin.copy_ #[30,30] ty #[.slice (some ⟨N,i*17,none⟩) (n+m-i) dc,.slice (some ⟨vb,0,none⟩) m vcap]).run Tryz.prog W1=.ok (goInt m) (W1.setCells N (i*17) vs))
  (hcpB:∀ ty dc sc,(Builtin.copy_ #[30,30] ty #[.slice (some ⟨N,(i+m)*17,none⟩) (n+m-(i+m)) dc,.slice (some ⟨b,i*17,none⟩) (n-i) sc]).run Tryz.prog (W1.setCells N (i*17) vs).drew=.ok (goInt ((n-i:Nat):Int)) ((W1.setCells N (i*17) vs).drew.setCells N ((i+m)*17) cd)):
  Calls Tryz.prog 154 #[.slice (some ⟨b,0,none⟩) n cap,.int .i64 i,.slice (some ⟨vb,0,none⟩) m vcap] w λex w'=>ex=.returned (.slice (some ⟨N,0,none⟩) (n+m) G)/\w'=(W1.setCells N (i*17) vs).drew.setCells N ((i+m)*17) cd:=by
 have mixed:Tryz.prog.follows .mixedOrders=true:=by kernel_rfl
 have hz1:¬ ((m:Int)=0):=by omega
 have hz2:¬ ((i:Int)=(n:Int)):=by omega
 have hz3:(cap:Int)<(n:Int)+(m:Int):=by omega
 have hGi:¬ (G=i):=by omega
 have hGim:¬ (G=i+m):=by omega
 have hci:¬ (cap=i):=by omega
 have hw1:IntKind.i64.wrap ((i:Int)+(m:Int))=(i:Int)+(m:Int):=by rw[IntKind.wrap_i64];omega
 have hb1:(0:Int)<=(i:Int)+(m:Int):=by omega
 have hin:i<=n:=by omega
 have htn:((i:Int)+(m:Int)).toNat=i+m:=by omega
 have hb3:(i:Int)<=(n:Int):=by omega
 obtain⟨W2,hW2⟩:∃ W2,Hold (W2=W1.setCells N (i*17) vs):=⟨_,⟨rfl⟩⟩
 rw[<- hW2.out] at hcpA hcpB⊢
 go_enter Tryz.func154,Tryz.ntmps154
 go_wp2_with (first
  |(at_builtin;refine Lib.wpList_append_run _ rfl _ _ _ _ rfl _ _ rfl rfl _ _ (hrz _) ?_)
  |(at_builtin;refine wpList_copy_run _ rfl _ _ 30 30 rfl _ _ rfl rfl (hcpA _ _) ?_))
 go_region_law_o (refine step_copy_run rfl _ _ 30 30 rfl (.slice (some ⟨N,(i+m)*17,none⟩) (n+m-(i+m)) (G-(i+m))) (.slice (some ⟨b,i*17,none⟩) (n-i) (cap-i)) (by simp[Act.eval,Act.put]) (by simp[Act.eval,Act.put]) (hcpB _ _ _) ?_)
 go_wp2
 go_ret
 exact⟨rfl,rfl⟩
theorem YJ.raw:InsRaw Tryz.prog 154 17:=by
 obtain⟨i0,z,hi,hz,hzs⟩:=Zbr (P:=Tryz.prog) (t:=98) (by kernel_rfl)
 have hsz:i0.size=17:=by
  have:Tryz.prog.cellsOf 98=17:=by kernel_rfl
  simpa[Program.cellsOf,hi] using this
 have hzc:z.cells.size=17:=by
  have h1:(ZaM Tryz.prog 98).length=17:=by kernel_rfl
  rw[<- h1]
  simpa using(Zaq hzs).2.2.1.symm
 have hby:i0.bytes<=1000:=by
  have:(Tryz.prog.info? 98).map (·.bytes)=some 240:=by kernel_rfl
  rw[hi] at this
  simp only[Option.map_some,Option.some.injEq] at this
  rw[this]
  decide
 exact InsRoads.raw (o:=179) (S:=30) (E:=98) (T:=4) ⟨YJ.raw0,YJ.rawA,YJ.rawB,YJ.rawC⟩ Tryz.underlying30 (by kernel_rfl) hi hz hsz (by decide) hzc hby (λx y w h=>by
  rw[run_callFunc_extern Tryz.func179 (by kernel_rfl) (by kernel_rfl) (by kernel_rfl) (e:=Extern.SlicesOverlaps.overlaps #[30,30] #[4]) (by kernel_rfl),h]
  rfl)
theorem YJ.ok (k:Nat):Zf Tryz.prog 154 (YJ.e k):=insert_ok tyok (ct:=30) (K:=17) (run:=λ{β}=>YJ.run k) (by kernel_rfl) (enter_of Tryz.func154 (by kernel_rfl)) YJ.raw (λβ aa K r h=>by
 unfold YJ.run at h
 split at h
 ·unfold YJ.f YJ.t at h
  split at h
  ·rename_i hz
   obtain⟨hg,hz⟩:=Zp hz
   injection hz with hz
   subst hz
   exact⟨_,_,_,rfl,hg,h⟩
  ·cases h
 ·cases h)
noncomputable def YaL.g {β:Type} (k:Nat) (a0:LC) (aM:Int) (aN:BA) (aO aP aQ:Int) (bJ:Bool) (bK:LD) (bL:Int) (bM:BA) (bN:Int) (bO bP:LD) (bQ:Int) (bR:BA) (bT:Int) (bU bV:LD) (K:LC->Option β):Option β:=
 Yd.f k (C.immRows a0) aM aN aO aP aQ bJ bK bL bM bN bO bP bQ bR bT bU bV (λy213 y214=>bif y214 then(Yac.f k aM aN aO aP aQ bJ bK bL bM bN bO bP bQ bR bT bU bV (λy215 y216 y217 y218 y219 y220 y221 y222 y223 y224 y225 y226 y227 y228 y229 y230 y231=>Zd ((0:Int)<=y213/\y213<(a0.length:Int)) (Zd (Int.toNat y213<a0.length) (K (a0.modify (Int.toNat y213) λc=>Zs c 0 [.d (.int .i64 y215),.d (.str y216),.d (.int .i64 y217),.d (.int .i64 y218),.d (.int .i64 y219),.d (.bool y220),.own y221,.d (.int .i64 y222),.d (.str y223),.d (.int .i64 y224),.own y225,.own y226,.d (.int .i64 y227),.d (.str y228),.d (.int .i64 y229),.own y230,.own y231]))))) else(Yac.f k aM aN aO aP aQ bJ bK bL bM bN bO bP bQ bR bT bU bV (λy232 y233 y234 y235 y236 y237 y238 y239 y240 y241 y242 y243 y244 y245 y246 y247 y248=>YJ.f k a0 y213 ([[.d (.int .i64 y232),.d (.str y233),.d (.int .i64 y234),.d (.int .i64 y235),.d (.int .i64 y236),.d (.bool y237),.own y238,.d (.int .i64 y239),.d (.str y240),.d (.int .i64 y241),.own y242,.own y243,.d (.int .i64 y244),.d (.str y245),.d (.int .i64 y246),.own y247,.own y248]]:LC) (λy249=>K y249))))
noncomputable def YaL.t (k:Nat) (a0:LC) (aM:Int) (aN:BA) (aO aP aQ:Int) (bJ:Bool) (bK:LD) (bL:Int) (bM:BA) (bN:Int) (bO bP:LD) (bQ:Int) (bR:BA) (bT:Int) (bU bV:LD):Option (LC):=YaL.g k a0 aM aN aO aP aQ bJ bK bL bM bN bO bP bQ bR bT bU bV (λz0=>some z0)
noncomputable def YaL.f {β:Type} (k:Nat) (a0:LC) (aM:Int) (aN:BA) (aO aP aQ:Int) (bJ:Bool) (bK:LD) (bL:Int) (bM:BA) (bN:Int) (bO bP:LD) (bQ:Int) (bR:BA) (bT:Int) (bU bV:LD) (K:LC->Option β):Option β:=bd1 (YaL.t k a0 aM aN aO aP aQ bJ bK bL bM bN bO bP bQ bR bT bU bV) K
noncomputable def YaL.e (k:Nat):Zj:=ent [.own false 30 [.o],.agg [.n,.s,.n,.n,.n,.b,.l,.n,.s,.n,.l,.l,.n,.s,.n,.l,.l]] [1] [.o] [30] false (YaL.t k) true true
noncomputable def YaL.p (k:Nat):Pro:=⟨Tryz.prog,[(153,Yd.e k),(115,Yac.e k),(154,YJ.e k)],Zv [] false [] true,k⟩
theorem YaL.ok (k:Nat):Zf Tryz.prog 121 (YaL.e k):=Zk (YaL.p k) mix tyok Tryz.func121 ⟨Yd.ok k,Yac.ok k,YJ.ok k⟩ (by kernel_rfl) (λa0 aM aN aO aP aQ bJ bK bL bM bN bO bP bQ bR bT bU bV=>by show _=_;kernel_rfl)
noncomputable def YaK.g {β:Type} (k:Nat) (aC:LD) (aB aD:Int) (aA:LD) (aM:Int) (aN:BA) (aO aP aQ:Int) (bJ:Bool) (bK:LD) (bL:Int) (bM:BA) (bN:Int) (bO bP:LD) (bQ:Int) (bR:BA) (bT:Int) (bU bV:LD) (a2:Bool) (K:LC->Int->Int->LC->Option β):Option β:=
 Yad.f k aC aB aD aA (λy1 y2 y3 y4=>bif a2 then(Yr.f k y1 aM aN aO (IntKind.wrap .i64 (y2+1)) aQ bJ bK bL bM bN bO bP bQ bR bT bU bV (λy107=>Yac.f k aM aN aO (IntKind.wrap .i64 (y2+1)) aQ bJ bK bL bM bN bO bP bQ bR bT bU bV (λy108 y109 y110 y111 y112 y113 y114 y115 y116 y117 y118 y119 y120 y121 y122 y123 y124=>let J2:=(y4++([[.d (.int .i64 (IntKind.wrap .i64 (y2+1))),.d (.bool a2),.d (.int .i64 y108),.d (.str y109),.d (.int .i64 y110),.d (.int .i64 y111),.d (.int .i64 y112),.d (.bool y113),.own y114,.d (.int .i64 y115),.d (.str y116),.d (.int .i64 y117),.own y118,.own y119,.d (.int .i64 y120),.d (.str y121),.d (.int .i64 y122),.own y123,.own y124]]:LC));let J0:=(J2.length:Int);Zd (y4.length+([[.d (.int .i64 (IntKind.wrap .i64 (y2+1))),.d (.bool a2),.d (.int .i64 y108),.d (.str y109),.d (.int .i64 y110),.d (.int .i64 y111),.d (.int .i64 y112),.d (.bool y113),.own y114,.d (.int .i64 y115),.d (.str y116),.d (.int .i64 y117),.own y118,.own y119,.d (.int .i64 y120),.d (.str y121),.d (.int .i64 y122),.own y123,.own y124]]:LC).length<=Z8) (bif(decide ((J0:Int)>40)) then(Zd (0<=(1:Int)/\(1:Int)<=J0) (K y107 (IntKind.wrap .i64 (y2+1)) y3 (J2.drop (Int.toNat (1:Int))))) else(K y107 (IntKind.wrap .i64 (y2+1)) y3 J2))))) else(YaL.f k y1 aM aN aO (IntKind.wrap .i64 (y2+1)) aQ bJ bK bL bM bN bO bP bQ bR bT bU bV (λy250=>Yac.f k aM aN aO (IntKind.wrap .i64 (y2+1)) aQ bJ bK bL bM bN bO bP bQ bR bT bU bV (λy251 y252 y253 y254 y255 y256 y257 y258 y259 y260 y261 y262 y263 y264 y265 y266 y267=>let J3:=(y4++([[.d (.int .i64 (IntKind.wrap .i64 (y2+1))),.d (.bool a2),.d (.int .i64 y251),.d (.str y252),.d (.int .i64 y253),.d (.int .i64 y254),.d (.int .i64 y255),.d (.bool y256),.own y257,.d (.int .i64 y258),.d (.str y259),.d (.int .i64 y260),.own y261,.own y262,.d (.int .i64 y263),.d (.str y264),.d (.int .i64 y265),.own y266,.own y267]]:LC));let J1:=(J3.length:Int);Zd (y4.length+([[.d (.int .i64 (IntKind.wrap .i64 (y2+1))),.d (.bool a2),.d (.int .i64 y251),.d (.str y252),.d (.int .i64 y253),.d (.int .i64 y254),.d (.int .i64 y255),.d (.bool y256),.own y257,.d (.int .i64 y258),.d (.str y259),.d (.int .i64 y260),.own y261,.own y262,.d (.int .i64 y263),.d (.str y264),.d (.int .i64 y265),.own y266,.own y267]]:LC).length<=Z8) (bif(decide ((J1:Int)>40)) then(Zd (0<=(1:Int)/\(1:Int)<=J1) (K y250 (IntKind.wrap .i64 (y2+1)) y3 (J3.drop (Int.toNat (1:Int))))) else(K y250 (IntKind.wrap .i64 (y2+1)) y3 J3))))))
noncomputable def YaK.t (k:Nat) (aC:LD) (aB aD:Int) (aA:LD) (aM:Int) (aN:BA) (aO aP aQ:Int) (bJ:Bool) (bK:LD) (bL:Int) (bM:BA) (bN:Int) (bO bP:LD) (bQ:Int) (bR:BA) (bT:Int) (bU bV:LD) (a2:Bool):Option (LC×Int×Int×LC):=YaK.g k aC aB aD aA aM aN aO aP aQ bJ bK bL bM bN bO bP bQ bR bT bU bV a2 (λz0 z1 z2 z3=>some (z0,z1,z2,z3))
noncomputable def YaK.f {β:Type} (k:Nat) (aC:LD) (aB aD:Int) (aA:LD) (aM:Int) (aN:BA) (aO aP aQ:Int) (bJ:Bool) (bK:LD) (bL:Int) (bM:BA) (bN:Int) (bO bP:LD) (bQ:Int) (bR:BA) (bT:Int) (bU bV:LD) (a2:Bool) (K:LC->Int->Int->LC->Option β):Option β:=bd4 (YaK.t k aC aB aD aA aM aN aO aP aQ bJ bK bL bM bN bO bP bQ bR bT bU bV a2) K
noncomputable def YaK.e (k:Nat):Zj:=ent [.agg [.l,.n,.n,.l],.agg [.n,.s,.n,.n,.n,.b,.l,.n,.s,.n,.l,.l,.n,.s,.n,.l,.l],.d .b] [4] [.o,.n,.n,.o] [38] false (YaK.t k)
noncomputable def YaK.p (k:Nat):Pro:=⟨Tryz.prog,[(58,Yad.e k),(118,Yr.e k),(115,Yac.e k),(121,YaL.e k)],Zv [] false [],k⟩
theorem YaK.ok (k:Nat):Zf Tryz.prog 61 (YaK.e k):=Zk (YaK.p k) mix tyok Tryz.func61 ⟨Yad.ok k,Yr.ok k,Yac.ok k,YaL.ok k⟩ (by kernel_rfl) (λaC aB aD aA aM aN aO aP aQ bJ bK bL bM bN bO bP bQ bR bT bU bV a2=>by show _=_;kernel_rfl)
noncomputable def YaB.g {β:Type} (k:Nat) (aC:LD) (aB aD:Int) (aA:LD) (a1:Int) (a2:BA) (a3 cA:Int) (cC:BA) (cE:Int) (cF bZ:LD) (K:LC->Int->Int->LC->Int->Option β):Option β:=
 Yak.f k cA cC cE cF bZ (λy60=>bif y60 then(YaM.f k aC aB aD aA a1 a2 (decide ((a3:Int)>=0)) (λy456=>bif((y456:Int)!=0) then(Yad.f k aC aB aD aA (λy457 y458 y459 y460=>K y457 y458 y459 y460 y456)) else(YaU.f k aC aB aD aA a1 a2 (λy461 y462 y463 y464 y465 y466 y467 y468 y469 y470 y471 y472 y473 y474 y475 y476 y477 y478=>bif(!y478) then(Yad.f k aC aB aD aA (λy479 y480 y481 y482=>K y479 y480 y481 y482 3)) else(bif((y464:Int)!=a3) then(Yad.f k aC aB aD aA (λy483 y484 y485 y486=>K y483 y484 y485 y486 4)) else(bif y466 then(Yad.f k aC aB aD aA (λy487 y488 y489 y490=>K y487 y488 y489 y490 6)) else(YR.f k y468 y469 y470 (C.immRows y471) (C.immRows y472) cA cC cE cF bZ (λy491=>bif(!y491) then(YaK.f k aC aB aD aA y461 y462 y463 y464 (IntKind.wrap .i64 (y465+1)) y466 (C.immRows y467) cA cC cE cF bZ y473 y474 y475 (C.immRows y476) (C.immRows y477) false (λy492 y493 y494 y495=>K y492 y493 y494 y495 0)) else(YaK.f k aC aB aD aA y461 y462 y463 y464 y465 y466 (C.immRows y467) cA cC cE cF bZ y473 y474 y475 (C.immRows y476) (C.immRows y477) false (λy496 y497 y498 y499=>K y496 y497 y498 y499 0)))))))))) else(YaM.f k aC aB aD aA a1 a2 false (λy500=>bif((y500:Int)!=0) then(Yad.f k aC aB aD aA (λy501 y502 y503 y504=>K y501 y502 y503 y504 y500)) else(YaU.f k aC aB aD aA a1 a2 (λy505 y506 y507 y508 y509 y510 y511 y512 y513 y514 y515 y516 y517 y518 y519 y520 y521 y522=>bif(!y522) then(Yad.f k aC aB aD aA (λy523 y524 y525 y526=>K y523 y524 y525 y526 3)) else(bif((y508:Int)!=a3) then(Yad.f k aC aB aD aA (λy527 y528 y529 y530=>K y527 y528 y529 y530 4)) else(bif y510 then(Yad.f k aC aB aD aA (λy531 y532 y533 y534=>K y531 y532 y533 y534 6)) else(YR.f k y512 y513 y514 (C.immRows y515) (C.immRows y516) cA cC cE cF bZ (λy535=>bif(!y535) then(YaK.f k aC aB aD aA y505 y506 y507 y508 (IntKind.wrap .i64 (y509+1)) y510 (C.immRows y511) cA cC cE cF bZ y517 y518 y519 (C.immRows y520) (C.immRows y521) false (λy536 y537 y538 y539=>K y536 y537 y538 y539 0)) else(YaK.f k aC aB aD aA y505 y506 y507 y508 y509 y510 (C.immRows y511) cA cC cE cF bZ y517 y518 y519 (C.immRows y520) (C.immRows y521) false (λy540 y541 y542 y543=>K y540 y541 y542 y543 0)))))))))))
noncomputable def YaB.t (k:Nat) (aC:LD) (aB aD:Int) (aA:LD) (a1:Int) (a2:BA) (a3 cA:Int) (cC:BA) (cE:Int) (cF bZ:LD):Option (LC×Int×Int×LC×Int):=YaB.g k aC aB aD aA a1 a2 a3 cA cC cE cF bZ (λz0 z1 z2 z3 z4=>some (z0,z1,z2,z3,z4))
noncomputable def YaB.f {β:Type} (k:Nat) (aC:LD) (aB aD:Int) (aA:LD) (a1:Int) (a2:BA) (a3 cA:Int) (cC:BA) (cE:Int) (cF bZ:LD) (K:LC->Int->Int->LC->Int->Option β):Option β:=bd5 (YaB.t k aC aB aD aA a1 a2 a3 cA cC cE cF bZ) K
noncomputable def YaB.e (k:Nat):Zj:=ent [.agg [.l,.n,.n,.l],.d .n,.d .s,.d .n,.agg [.n,.s,.n,.l,.l]] [4,1] [.o,.n,.n,.o,.n] [38,3] false (YaB.t k)
noncomputable def YaB.p (k:Nat):Pro:=⟨Tryz.prog,[(57,Yak.e k),(56,YaM.e k),(58,Yad.e k),(59,YaU.e k),(60,YR.e k),(61,YaK.e k)],Zv [] false [],k⟩
theorem YaB.ok (k:Nat):Zf Tryz.prog 20 (YaB.e k):=Zk (YaB.p k) mix tyok Tryz.func20 ⟨Yak.ok k,YaM.ok k,Yad.ok k,YaU.ok k,YR.ok k,YaK.ok k⟩ (by kernel_rfl) (λaC aB aD aA a1 a2 a3 cA cC cE cF bZ=>by show _=_;kernel_rfl)
noncomputable def YI.l0 {β:Type} (k:Nat) (aF aH:LD) (K:Bool->Option β) (L0:Int->Option β) (v:Int):Option β:=
 match v with
 |aJ=>bif(decide ((aJ:Int)<(aF.length:Int))) then(atR aF aJ [.s] λx12=>(atR aH aJ [.s] λx16=>(bif(!(Zae x12 x16)) then(K false) else(L0 (IntKind.wrap .i64 (aJ+1)))))) else(K true)
noncomputable def YI.m {β:Type} (k:Nat) (a0 a1:LD) (K:Bool->Option β) (F:(LD->LD->Int->Option β)):Option β:=
 bif(((a0.length:Int):Int)!=(a1.length:Int)) then(K false) else(F a0 a1 (0))
noncomputable def YI.g {β:Type} (k:Nat) (a0 a1:LD) (K:Bool->Option β):Option β:=
 bif(((a0.length:Int):Int)!=(a1.length:Int)) then(K false) else(ZA (YI.l0 k a0 a1 K) k (0))
noncomputable def YI.t (k:Nat) (a0 a1:LD):Option (Bool):=YI.g k a0 a1 (λz0=>some z0)
noncomputable def YI.f {β:Type} (k:Nat) (a0 a1:LD) (K:Bool->Option β):Option β:=bd1 (YI.t k a0 a1) K
noncomputable def YI.e (k:Nat):Zj:=ent [.d .l,.d .l] [1] [.b] [4] false (YI.t k)
noncomputable def YI.p (k:Nat):Pro:=⟨Tryz.prog,[],Zv [(4,kp [0,1,5])] false [],k⟩
noncomputable def YI.d (k:Nat) (a0 a1:LD):Ex->St->Option (Bool):=(YI.p k).fin Tryz.f62 [.d (.sl a0),.d (.sl a1)] [1] [.b]
noncomputable def YI.s0 (aF aH:LD) (v:Int):St:=
 match v with
 |aJ=>ZaA 26 [(0,.d false (.sl aF)),(1,.d false (.sl aH)),(5,.d true (.int .i64 aJ))] []
noncomputable def YI.r0 (k:Nat) (a0 a1 aF aH:LD) (n:Nat) (v:Int):Option (Bool):=(YI.p k).lp (ZI Tryz.f62) 4 [1,1,0,1,0] (YI.d k a0 a1) n (YI.s0 aF aH v)
theorem YI.l0_eq (k:Nat) (a0 a1 aF aH:LD):∀ n v,YI.r0 k a0 a1 aF aH n v=ZA (YI.l0 k aF aH (λz0=>some z0)) n v:=
 Zz (YI.s0 aF aH) _ λL0 v=>by kernel_rfl
theorem YI.ok (k:Nat):Zf Tryz.prog 62 (YI.e k):=Zk (YI.p k) mix tyok Tryz.func62 trivial (by kernel_rfl) (λa0 a1=>Eq.trans (b:=YI.m k a0 a1 (λz0=>some z0) (λaF aH=>YI.r0 k a0 a1 aF aH k)) (by kernel_rfl) (congrArg (YI.m k a0 a1 (λz0=>some z0)) (funext λaF=>funext λaH=>funext λv=>YI.l0_eq k a0 a1 aF aH k v) :))
noncomputable def Yy.l0 {β:Type} (k:Nat) (r_laws_eqValueS:LD->LD->(Bool->Option β)->Option β) (r_laws_eqValue:Int->BA->Int->LD->LD->Int->BA->Int->LD->LD->(Bool->Option β)->Option β) (aF aH:LD) (K:Bool->Option β) (L0:Int->Option β) (v:Int):Option β:=
 match v with
 |aJ=>bif(decide ((aJ:Int)<(aF.length:Int))) then(atR aF aJ [.n,.s,.n,.l,.l] λx37 x40 x43 x46 x49=>(atR aH aJ [.n,.s,.n,.l,.l] λx53 x56 x59 x62 x65=>(r_laws_eqValue x37 x40 x43 x46 x49 x53 x56 x59 x62 x65 (λy66=>bif(!y66) then(K false) else(L0 (IntKind.wrap .i64 (aJ+1))))))) else(K true)
noncomputable def Yy.m {β:Type} (k:Nat) (r_laws_eqValueS:LD->LD->(Bool->Option β)->Option β) (r_laws_eqValue:Int->BA->Int->LD->LD->Int->BA->Int->LD->LD->(Bool->Option β)->Option β) (a0 a1:LD) (K:Bool->Option β) (F:(LD->LD->Int->Option β)):Option β:=
 bif(((a0.length:Int):Int)!=(a1.length:Int)) then(K false) else(F a0 a1 (0))
noncomputable def Yy.body {β:Type} (k:Nat) (r_laws_eqValueS:LD->LD->(Bool->Option β)->Option β) (r_laws_eqValue:Int->BA->Int->LD->LD->Int->BA->Int->LD->LD->(Bool->Option β)->Option β) (a0 a1:LD) (K:Bool->Option β):Option β:=
 bif(((a0.length:Int):Int)!=(a1.length:Int)) then(K false) else(ZA (Yy.l0 k r_laws_eqValueS r_laws_eqValue a0 a1 K) k (0))
noncomputable def YN.body {β:Type} (k:Nat) (r_laws_eqValueS:LD->LD->(Bool->Option β)->Option β) (r_laws_eqValue:Int->BA->Int->LD->LD->Int->BA->Int->LD->LD->(Bool->Option β)->Option β) (aC:Int) (aB:BA) (aD:Int) (aA aI:LD) (aM:Int) (aN:BA) (aO:Int) (aP aQ:LD) (K:Bool->Option β):Option β:=
 bif((aC:Int)!=aM) then(K false) else(bif(!(Zae aB aN)) then(K false) else(bif((aD:Int)!=aO) then(K false) else(YI.f k aA aP (λy1=>bif(!y1) then(K false) else(r_laws_eqValueS aI aQ (λy67=>bif(!y67) then(K false) else(K true)))))))
noncomputable def Yy.w {β:Type} (r:LD->LD->Option (Bool)) (a0 a1:LD) (K:Bool->Option β):Option β:=bd1 (r a0 a1) K
noncomputable def YN.w {β:Type} (r:Int->BA->Int->LD->LD->Int->BA->Int->LD->LD->Option (Bool)) (aC:Int) (aB:BA) (aD:Int) (aA aI:LD) (aM:Int) (aN:BA) (aO:Int) (aP aQ:LD) (K:Bool->Option β):Option β:=bd1 (r aC aB aD aA aI aM aN aO aP aQ) K
noncomputable def Yy.all:Nat->(LD->LD->Option (Bool))×(Int->BA->Int->LD->LD->Int->BA->Int->LD->LD->Option (Bool))
 |0=>(λ_ _=>none,λ_ _ _ _ _ _ _ _ _ _=>none)
 |k+1=>(λr=>(λa0 a1=>Yy.body k (Yy.w r.1) (YN.w r.2) a0 a1 (λz0=>some z0),λaC aB aD aA aI aM aN aO aP aQ=>YN.body k (Yy.w r.1) (YN.w r.2) aC aB aD aA aI aM aN aO aP aQ (λz0=>some z0))) (Yy.all k)
noncomputable def Yy.t (k:Nat) (a0 a1:LD):Option (Bool):=(Yy.all k).1 a0 a1
noncomputable def YN.t (k:Nat) (aC:Int) (aB:BA) (aD:Int) (aA aI:LD) (aM:Int) (aN:BA) (aO:Int) (aP aQ:LD):Option (Bool):=(Yy.all k).2 aC aB aD aA aI aM aN aO aP aQ
noncomputable def Yy.f {β:Type} (k:Nat) (a0 a1:LD) (K:Bool->Option β):Option β:=Yy.w (Yy.t k) a0 a1 K
noncomputable def YN.f {β:Type} (k:Nat) (aC:Int) (aB:BA) (aD:Int) (aA aI:LD) (aM:Int) (aN:BA) (aO:Int) (aP aQ:LD) (K:Bool->Option β):Option β:=YN.w (YN.t k) aC aB aD aA aI aM aN aO aP aQ K
noncomputable def Yy.g {β:Type} (k:Nat) (a0 a1:LD) (K:Bool->Option β):Option β:=Yy.body k (Yy.f k) (YN.f k) a0 a1 K
theorem Yy.t_succ (k:Nat) (a0 a1:LD):Yy.t (k+1) a0 a1=Yy.g k a0 a1 (λz0=>some z0):=rfl
noncomputable def YN.g {β:Type} (k:Nat) (aC:Int) (aB:BA) (aD:Int) (aA aI:LD) (aM:Int) (aN:BA) (aO:Int) (aP aQ:LD) (K:Bool->Option β):Option β:=YN.body k (Yy.f k) (YN.f k) aC aB aD aA aI aM aN aO aP aQ K
theorem YN.t_succ (k:Nat) (aC:Int) (aB:BA) (aD:Int) (aA aI:LD) (aM:Int) (aN:BA) (aO:Int) (aP aQ:LD):YN.t (k+1) aC aB aD aA aI aM aN aO aP aQ=YN.g k aC aB aD aA aI aM aN aO aP aQ (λz0=>some z0):=rfl
noncomputable def Yy.e (k:Nat):Zj:=ent [.d .l,.d .l] [1] [.b] [4] false (Yy.t k)
noncomputable def YN.e (k:Nat):Zj:=ent [.agg [.n,.s,.n,.l,.l],.agg [.n,.s,.n,.l,.l]] [1] [.b] [4] false (YN.t k)
noncomputable def Yy.p (k:Nat):Pro:=⟨Tryz.prog,[(21,YN.e k)],Zv [(4,kp [0,1,5])] false [],k⟩
noncomputable def Yy.d (k:Nat) (a0 a1:LD):Ex->St->Option (Bool):=(Yy.p k).fin Tryz.f63 [.d (.sl a0),.d (.sl a1)] [1] [.b]
noncomputable def Yy.s0 (aF aH:LD) (v:Int):St:=
 match v with
 |aJ=>ZaA 27 [(0,.d false (.sl aF)),(1,.d false (.sl aH)),(5,.d true (.int .i64 aJ))] []
noncomputable def Yy.r0 (k:Nat) (a0 a1 aF aH:LD) (n:Nat) (v:Int):Option (Bool):=(Yy.p k).lp (ZI Tryz.f63) 4 [1,1,0,1,0] (Yy.d k a0 a1) n (Yy.s0 aF aH v)
theorem Yy.l0_eq (k:Nat) (a0 a1 aF aH:LD):∀ n v,Yy.r0 k a0 a1 aF aH n v=ZA (Yy.l0 k (Yy.f k) (YN.f k) aF aH (λz0=>some z0)) n v:=
 Zz (Yy.s0 aF aH) _ λL0 v=>by kernel_rfl
noncomputable def YN.p (k:Nat):Pro:=⟨Tryz.prog,[(62,YI.e k),(63,Yy.e k)],Zv [] false [],k⟩
theorem Yy.oks (k:Nat):Zf Tryz.prog 63 (Yy.e k)/\Zf Tryz.prog 21 (YN.e k):=by
 induction k with
 |zero=>exact⟨Zba Tryz.func63 (by kernel_rfl) (λ_ _=>rfl),
  Zba Tryz.func21 (by kernel_rfl) (λ_ _ _ _ _ _ _ _ _ _=>rfl)⟩
 |succ k ih=>exact⟨Zk (Yy.p k) mix tyok Tryz.func63 ih.2 (by kernel_rfl) (λa0 a1=>Eq.trans (b:=Yy.m k (Yy.f k) (YN.f k) a0 a1 (λz0=>some z0) (λaF aH=>Yy.r0 k a0 a1 aF aH k)) (by kernel_rfl) ((congrArg (Yy.m k (Yy.f k) (YN.f k) a0 a1 (λz0=>some z0)) (funext λaF=>funext λaH=>funext λv=>Yy.l0_eq k a0 a1 aF aH k v)).trans (Yy.t_succ k a0 a1).symm)),
  Zk (YN.p k) mix tyok Tryz.func21 ⟨YI.ok k,ih.1⟩ (by kernel_rfl) (λaC aB aD aA aI aM aN aO aP aQ=>by show _=_;kernel_rfl)⟩
theorem YN.ok (k:Nat):Zf Tryz.prog 21 (YN.e k):=(Yy.oks k).2
noncomputable def YaF.g {β:Type} (k:Nat) (aC:Int) (aB:BA) (aD aA aI:Int) (bE:Bool) (aW:LD) (bB:Int) (aR:BA) (bC:Int) (aT aY:LD) (bA:Int) (aU:BA) (bD:Int) (aV aZ:LD) (aM:Int) (aN:BA) (aO aP aQ:Int) (bJ:Bool) (bK:LD) (bL:Int) (bM:BA) (bN:Int) (bO bP:LD) (bQ:Int) (bR:BA) (bT:Int) (bU bV:LD) (K:Bool->Option β):Option β:=
 bif((aC:Int)!=aM) then(K false) else(bif(!(Zae aB aN)) then(K false) else(bif((aD:Int)!=aO) then(K false) else(bif((aA:Int)!=aP) then(K false) else(bif((aI:Int)!=aQ) then(K false) else(bif(!(bE==bJ)) then(K false) else(YI.f k aW bK (λy17=>bif(!y17) then(K false) else(YN.f k bB aR bC aT aY bL bM bN bO bP (λy68=>bif(!y68) then(K false) else(YN.f k bA aU bD aV aZ bQ bR bT bU bV (λy69=>bif(!y69) then(K false) else(K true))))))))))))
noncomputable def YaF.t (k:Nat) (aC:Int) (aB:BA) (aD aA aI:Int) (bE:Bool) (aW:LD) (bB:Int) (aR:BA) (bC:Int) (aT aY:LD) (bA:Int) (aU:BA) (bD:Int) (aV aZ:LD) (aM:Int) (aN:BA) (aO aP aQ:Int) (bJ:Bool) (bK:LD) (bL:Int) (bM:BA) (bN:Int) (bO bP:LD) (bQ:Int) (bR:BA) (bT:Int) (bU bV:LD):Option (Bool):=YaF.g k aC aB aD aA aI bE aW bB aR bC aT aY bA aU bD aV aZ aM aN aO aP aQ bJ bK bL bM bN bO bP bQ bR bT bU bV (λz0=>some z0)
noncomputable def YaF.f {β:Type} (k:Nat) (aC:Int) (aB:BA) (aD aA aI:Int) (bE:Bool) (aW:LD) (bB:Int) (aR:BA) (bC:Int) (aT aY:LD) (bA:Int) (aU:BA) (bD:Int) (aV aZ:LD) (aM:Int) (aN:BA) (aO aP aQ:Int) (bJ:Bool) (bK:LD) (bL:Int) (bM:BA) (bN:Int) (bO bP:LD) (bQ:Int) (bR:BA) (bT:Int) (bU bV:LD) (K:Bool->Option β):Option β:=bd1 (YaF.t k aC aB aD aA aI bE aW bB aR bC aT aY bA aU bD aV aZ aM aN aO aP aQ bJ bK bL bM bN bO bP bQ bR bT bU bV) K
noncomputable def YaF.e (k:Nat):Zj:=ent [.agg [.n,.s,.n,.n,.n,.b,.l,.n,.s,.n,.l,.l,.n,.s,.n,.l,.l],.agg [.n,.s,.n,.n,.n,.b,.l,.n,.s,.n,.l,.l,.n,.s,.n,.l,.l]] [1] [.b] [4] false (YaF.t k)
noncomputable def YaF.p (k:Nat):Pro:=⟨Tryz.prog,[(62,YI.e k),(21,YN.e k)],Zv [] false [],k⟩
theorem YaF.ok (k:Nat):Zf Tryz.prog 104 (YaF.e k):=Zk (YaF.p k) mix tyok Tryz.func104 ⟨YI.ok k,YN.ok k⟩ (by kernel_rfl) (λaC aB aD aA aI bE aW bB aR bC aT aY bA aU bD aV aZ aM aN aO aP aQ bJ bK bL bM bN bO bP bQ bR bT bU bV=>by show _=_;kernel_rfl)
noncomputable def Y7.l0 {β:Type} (k:Nat) (aF aH:LD) (K:Bool->Option β) (L0:Int->Option β) (v:Int):Option β:=
 match v with
 |aJ=>bif(decide ((aJ:Int)<(aF.length:Int))) then(atR aF aJ [.n,.s,.n,.n,.n,.b,.l,.n,.s,.n,.l,.l,.n,.s,.n,.l,.l] λx109 x112 x115 x118 x121 x124 x127 x130 x133 x136 x139 x142 x145 x148 x151 x154 x157=>(atR aH aJ [.n,.s,.n,.n,.n,.b,.l,.n,.s,.n,.l,.l,.n,.s,.n,.l,.l] λx161 x164 x167 x170 x173 x176 x179 x182 x185 x188 x191 x194 x197 x200 x203 x206 x209=>(YaF.f k x109 x112 x115 x118 x121 x124 x127 x130 x133 x136 x139 x142 x145 x148 x151 x154 x157 x161 x164 x167 x170 x173 x176 x179 x182 x185 x188 x191 x194 x197 x200 x203 x206 x209 (λy210=>bif(!y210) then(K false) else(L0 (IntKind.wrap .i64 (aJ+1))))))) else(K true)
noncomputable def Y7.m {β:Type} (k:Nat) (a0 a1:LD) (K:Bool->Option β) (F:(LD->LD->Int->Option β)):Option β:=
 bif(((a0.length:Int):Int)!=(a1.length:Int)) then(K false) else(F a0 a1 (0))
noncomputable def Y7.g {β:Type} (k:Nat) (a0 a1:LD) (K:Bool->Option β):Option β:=
 bif(((a0.length:Int):Int)!=(a1.length:Int)) then(K false) else(ZA (Y7.l0 k a0 a1 K) k (0))
noncomputable def Y7.t (k:Nat) (a0 a1:LD):Option (Bool):=Y7.g k a0 a1 (λz0=>some z0)
noncomputable def Y7.f {β:Type} (k:Nat) (a0 a1:LD) (K:Bool->Option β):Option β:=bd1 (Y7.t k a0 a1) K
noncomputable def Y7.e (k:Nat):Zj:=ent [.d .l,.d .l] [1] [.b] [4] false (Y7.t k)
noncomputable def Y7.p (k:Nat):Pro:=⟨Tryz.prog,[(104,YaF.e k)],Zv [(4,kp [0,1,5])] false [],k⟩
noncomputable def Y7.d (k:Nat) (a0 a1:LD):Ex->St->Option (Bool):=(Y7.p k).fin Tryz.f41 [.d (.sl a0),.d (.sl a1)] [1] [.b]
noncomputable def Y7.s0 (aF aH:LD) (v:Int):St:=
 match v with
 |aJ=>ZaA 27 [(0,.d false (.sl aF)),(1,.d false (.sl aH)),(5,.d true (.int .i64 aJ))] []
noncomputable def Y7.r0 (k:Nat) (a0 a1 aF aH:LD) (n:Nat) (v:Int):Option (Bool):=(Y7.p k).lp (ZI Tryz.f41) 4 [1,1,0,1,0] (Y7.d k a0 a1) n (Y7.s0 aF aH v)
theorem Y7.l0_eq (k:Nat) (a0 a1 aF aH:LD):∀ n v,Y7.r0 k a0 a1 aF aH n v=ZA (Y7.l0 k aF aH (λz0=>some z0)) n v:=
 Zz (Y7.s0 aF aH) _ λL0 v=>by kernel_rfl
theorem Y7.ok (k:Nat):Zf Tryz.prog 41 (Y7.e k):=Zk (Y7.p k) mix tyok Tryz.func41 (YaF.ok k) (by kernel_rfl) (λa0 a1=>Eq.trans (b:=Y7.m k a0 a1 (λz0=>some z0) (λaF aH=>Y7.r0 k a0 a1 aF aH k)) (by kernel_rfl) (congrArg (Y7.m k a0 a1 (λz0=>some z0)) (funext λaF=>funext λaH=>funext λv=>Y7.l0_eq k a0 a1 aF aH k v) :))
noncomputable def Yay.g {β:Type} (k:Nat) (aC:Int) (aB:Bool) (aD:Int) (aA:BA) (aI bE aW:Int) (bB:Bool) (aR:LD) (bC:Int) (aT:BA) (aY:Int) (bA aU:LD) (bD:Int) (aV:BA) (aZ:Int) (cN cO:LD) (aM:Int) (aN:Bool) (aO:Int) (aP:BA) (aQ bJ bK:Int) (bL:Bool) (bM:LD) (bN:Int) (bO:BA) (bP:Int) (bQ bR:LD) (bT:Int) (bU:BA) (bV:Int) (a1_17 a1_18:LD) (K:Bool->Option β):Option β:=
 bif((aC:Int)!=aM) then(K false) else(bif(!(aB==aN)) then(K false) else(YaF.f k aD aA aI bE aW bB aR bC aT aY bA aU bD aV aZ cN cO aO aP aQ bJ bK bL bM bN bO bP bQ bR bT bU bV a1_17 a1_18 (λy1=>bif(!y1) then(K false) else(K true))))
noncomputable def Yay.t (k:Nat) (aC:Int) (aB:Bool) (aD:Int) (aA:BA) (aI bE aW:Int) (bB:Bool) (aR:LD) (bC:Int) (aT:BA) (aY:Int) (bA aU:LD) (bD:Int) (aV:BA) (aZ:Int) (cN cO:LD) (aM:Int) (aN:Bool) (aO:Int) (aP:BA) (aQ bJ bK:Int) (bL:Bool) (bM:LD) (bN:Int) (bO:BA) (bP:Int) (bQ bR:LD) (bT:Int) (bU:BA) (bV:Int) (a1_17 a1_18:LD):Option (Bool):=Yay.g k aC aB aD aA aI bE aW bB aR bC aT aY bA aU bD aV aZ cN cO aM aN aO aP aQ bJ bK bL bM bN bO bP bQ bR bT bU bV a1_17 a1_18 (λz0=>some z0)
noncomputable def Yay.f {β:Type} (k:Nat) (aC:Int) (aB:Bool) (aD:Int) (aA:BA) (aI bE aW:Int) (bB:Bool) (aR:LD) (bC:Int) (aT:BA) (aY:Int) (bA aU:LD) (bD:Int) (aV:BA) (aZ:Int) (cN cO:LD) (aM:Int) (aN:Bool) (aO:Int) (aP:BA) (aQ bJ bK:Int) (bL:Bool) (bM:LD) (bN:Int) (bO:BA) (bP:Int) (bQ bR:LD) (bT:Int) (bU:BA) (bV:Int) (a1_17 a1_18:LD) (K:Bool->Option β):Option β:=bd1 (Yay.t k aC aB aD aA aI bE aW bB aR bC aT aY bA aU bD aV aZ cN cO aM aN aO aP aQ bJ bK bL bM bN bO bP bQ bR bT bU bV a1_17 a1_18) K
noncomputable def Yay.e (k:Nat):Zj:=ent [.agg [.n,.b,.n,.s,.n,.n,.n,.b,.l,.n,.s,.n,.l,.l,.n,.s,.n,.l,.l],.agg [.n,.b,.n,.s,.n,.n,.n,.b,.l,.n,.s,.n,.l,.l,.n,.s,.n,.l,.l]] [1] [.b] [4] false (Yay.t k)
noncomputable def Yay.p (k:Nat):Pro:=⟨Tryz.prog,[(104,YaF.e k)],Zv [] false [],k⟩
theorem Yay.ok (k:Nat):Zf Tryz.prog 105 (Yay.e k):=Zk (Yay.p k) mix tyok Tryz.func105 (YaF.ok k) (by kernel_rfl) (λaC aB aD aA aI bE aW bB aR bC aT aY bA aU bD aV aZ cN cO aM aN aO aP aQ bJ bK bL bM bN bO bP bQ bR bT bU bV a1_17 a1_18=>by show _=_;kernel_rfl)
noncomputable def YQ.l0 {β:Type} (k:Nat) (aF aH:LD) (K:Bool->Option β) (L0:Int->Option β) (v:Int):Option β:=
 match v with
 |aJ=>bif(decide ((aJ:Int)<(aF.length:Int))) then(atR aF aJ [.n,.b,.n,.s,.n,.n,.n,.b,.l,.n,.s,.n,.l,.l,.n,.s,.n,.l,.l] λx121 x124 x127 x130 x133 x136 x139 x142 x145 x148 x151 x154 x157 x160 x163 x166 x169 x172 x175=>(atR aH aJ [.n,.b,.n,.s,.n,.n,.n,.b,.l,.n,.s,.n,.l,.l,.n,.s,.n,.l,.l] λx179 x182 x185 x188 x191 x194 x197 x200 x203 x206 x209 x212 x215 x218 x221 x224 x227 x230 x233=>(Yay.f k x121 x124 x127 x130 x133 x136 x139 x142 x145 x148 x151 x154 x157 x160 x163 x166 x169 x172 x175 x179 x182 x185 x188 x191 x194 x197 x200 x203 x206 x209 x212 x215 x218 x221 x224 x227 x230 x233 (λy234=>bif(!y234) then(K false) else(L0 (IntKind.wrap .i64 (aJ+1))))))) else(K true)
noncomputable def YQ.m {β:Type} (k:Nat) (a0 a1:LD) (K:Bool->Option β) (F:(LD->LD->Int->Option β)):Option β:=
 bif(((a0.length:Int):Int)!=(a1.length:Int)) then(K false) else(F a0 a1 (0))
noncomputable def YQ.g {β:Type} (k:Nat) (a0 a1:LD) (K:Bool->Option β):Option β:=
 bif(((a0.length:Int):Int)!=(a1.length:Int)) then(K false) else(ZA (YQ.l0 k a0 a1 K) k (0))
noncomputable def YQ.t (k:Nat) (a0 a1:LD):Option (Bool):=YQ.g k a0 a1 (λz0=>some z0)
noncomputable def YQ.f {β:Type} (k:Nat) (a0 a1:LD) (K:Bool->Option β):Option β:=bd1 (YQ.t k a0 a1) K
noncomputable def YQ.e (k:Nat):Zj:=ent [.d .l,.d .l] [1] [.b] [4] false (YQ.t k)
noncomputable def YQ.p (k:Nat):Pro:=⟨Tryz.prog,[(105,Yay.e k)],Zv [(4,kp [0,1,5])] false [],k⟩
noncomputable def YQ.d (k:Nat) (a0 a1:LD):Ex->St->Option (Bool):=(YQ.p k).fin Tryz.f42 [.d (.sl a0),.d (.sl a1)] [1] [.b]
noncomputable def YQ.s0 (aF aH:LD) (v:Int):St:=
 match v with
 |aJ=>ZaA 27 [(0,.d false (.sl aF)),(1,.d false (.sl aH)),(5,.d true (.int .i64 aJ))] []
noncomputable def YQ.r0 (k:Nat) (a0 a1 aF aH:LD) (n:Nat) (v:Int):Option (Bool):=(YQ.p k).lp (ZI Tryz.f42) 4 [1,1,0,1,0] (YQ.d k a0 a1) n (YQ.s0 aF aH v)
theorem YQ.l0_eq (k:Nat) (a0 a1 aF aH:LD):∀ n v,YQ.r0 k a0 a1 aF aH n v=ZA (YQ.l0 k aF aH (λz0=>some z0)) n v:=
 Zz (YQ.s0 aF aH) _ λL0 v=>by kernel_rfl
theorem YQ.ok (k:Nat):Zf Tryz.prog 42 (YQ.e k):=Zk (YQ.p k) mix tyok Tryz.func42 (Yay.ok k) (by kernel_rfl) (λa0 a1=>Eq.trans (b:=YQ.m k a0 a1 (λz0=>some z0) (λaF aH=>YQ.r0 k a0 a1 aF aH k)) (by kernel_rfl) (congrArg (YQ.m k a0 a1 (λz0=>some z0)) (funext λaF=>funext λaH=>funext λv=>YQ.l0_eq k a0 a1 aF aH k v) :))
noncomputable def Yaq.g {β:Type} (k:Nat) (aC:LD) (aB aD:Int) (aA aM:LD) (aN aO:Int) (aP:LD) (K:Bool->Option β):Option β:=
 Y7.f k aC aM (λy211=>bif(!y211) then(K false) else(bif((aB:Int)!=aN) then(K false) else(bif((aD:Int)!=aO) then(K false) else(YQ.f k aA aP (λy235=>bif(!y235) then(K false) else(K true))))))
noncomputable def Yaq.t (k:Nat) (aC:LD) (aB aD:Int) (aA aM:LD) (aN aO:Int) (aP:LD):Option (Bool):=Yaq.g k aC aB aD aA aM aN aO aP (λz0=>some z0)
noncomputable def Yaq.f {β:Type} (k:Nat) (aC:LD) (aB aD:Int) (aA aM:LD) (aN aO:Int) (aP:LD) (K:Bool->Option β):Option β:=bd1 (Yaq.t k aC aB aD aA aM aN aO aP) K
noncomputable def Yaq.e (k:Nat):Zj:=ent [.agg [.l,.n,.n,.l],.agg [.l,.n,.n,.l]] [1] [.b] [4] false (Yaq.t k)
noncomputable def Yaq.p (k:Nat):Pro:=⟨Tryz.prog,[(41,Y7.e k),(42,YQ.e k)],Zv [] false [],k⟩
theorem Yaq.ok (k:Nat):Zf Tryz.prog 13 (Yaq.e k):=Zk (Yaq.p k) mix tyok Tryz.func13 ⟨Y7.ok k,YQ.ok k⟩ (by kernel_rfl) (λaC aB aD aA aM aN aO aP=>by show _=_;kernel_rfl)
noncomputable def Yg.l0 {β:Type} (k:Nat) (K:BA->Option β) (L0:(Int×BA)->Option β) (v:Int×BA):Option β:=
 match v with
 |(aF,aH)=>bif(decide ((aF:Int)>0)) then(let J0:=(⟨#[UInt8.ofNat (Int.toNat (IntKind.wrap .u8 (IntKind.wrap .i64 (48+(Int.tmod aF 10)))))]⟩:BA);Zd ((10:Int)≠0) (Zd (((J0.size+aH.size:Nat):Int)<=9223372036854775807) (Zd ((10:Int)≠0) (L0 (IntKind.wrap .i64 (Int.tdiv aF 10),J0++aH))))) else(Zd ((((⟨#[109]⟩:BA).size+aH.size:Nat):Int)<=9223372036854775807) (K ((⟨#[109]⟩:BA)++aH)))
noncomputable def Yg.m {β:Type} (k:Nat) (a0:Int) (K:BA->Option β) (F:((Int×BA)->Option β)):Option β:=
 bif(decide ((a0:Int)<=0)) then(K (⟨#[109,48]⟩:BA)) else(F (a0,(⟨#[]⟩:BA)))
noncomputable def Yg.g {β:Type} (k:Nat) (a0:Int) (K:BA->Option β):Option β:=
 bif(decide ((a0:Int)<=0)) then(K (⟨#[109,48]⟩:BA)) else(ZA (Yg.l0 k K) k (a0,(⟨#[]⟩:BA)))
noncomputable def Yg.t (k:Nat) (a0:Int):Option (BA):=Yg.g k a0 (λz0=>some z0)
noncomputable def Yg.f {β:Type} (k:Nat) (a0:Int) (K:BA->Option β):Option β:=bd1 (Yg.t k a0) K
noncomputable def Yg.e (k:Nat):Zj:=ent [.d .n] [1] [.s] [9] false (Yg.t k)
noncomputable def Yg.p (k:Nat):Pro:=⟨Tryz.prog,[],Zv [(4,kp [3] [(0,.dat false)])] false [],k⟩
noncomputable def Yg.d (k:Nat) (a0:Int):Ex->St->Option (BA):=(Yg.p k).fin Tryz.f106 [.d (.int .i64 a0)] [1] [.s]
noncomputable def Yg.s0 (v:Int×BA):St:=
 match v with
 |(aF,aH)=>ZaA 20 [(0,.d false (.int .i64 aF)),(3,.d true (.str aH))] []
noncomputable def Yg.r0 (k:Nat) (a0:Int) (n:Nat) (v:Int×BA):Option (BA):=(Yg.p k).lp (ZI Tryz.f106) 4 [1,1,1,0,0] (Yg.d k a0) n (Yg.s0 v)
theorem Yg.l0_eq (k:Nat) (a0:Int):∀ n v,Yg.r0 k a0 n v=ZA (Yg.l0 k (λz0=>some z0)) n v:=
 Zz (Yg.s0) _ λL0 v=>by obtain⟨aF,aH⟩:=v;kernel_rfl
theorem Yg.ok (k:Nat):Zf Tryz.prog 106 (Yg.e k):=Zk (Yg.p k) mix tyok Tryz.func106 trivial (by kernel_rfl) (λa0=>Eq.trans (b:=Yg.m k a0 (λz0=>some z0) (Yg.r0 k a0 k)) (by kernel_rfl) (congrArg (Yg.m k a0 (λz0=>some z0)) (funext λv=>Yg.l0_eq k a0 k v) :))
noncomputable def Yl.l0 {β:Type} (k:Nat) (K:Int->LC->Option β) (L0:(Int×Int×LC)->Option β) (v:Int×Int×LC):Option β:=
 match v with
 |(aF,aH,aJ)=>bif(decide ((aH:Int)<(aJ.length:Int))) then(Yg.f k aF (λy2=>Zd ((0:Int)<=aH/\aH<(aJ.length:Int)) (Zd (Int.toNat aH<aJ.length) (L0 (IntKind.wrap .i64 (aF+1),IntKind.wrap .i64 (aH+1),aJ.modify (Int.toNat aH) λc=>Zs c 0 [.d (.str y2)]))))) else(K aF aJ)
noncomputable def Yl.m {β:Type} (k:Nat) (a0:LC) (a1:Int) (K:Int->LC->Option β) (F:((Int×Int×LC)->Option β)):Option β:=
 F (a1,0,a0)
noncomputable def Yl.g {β:Type} (k:Nat) (a0:LC) (a1:Int) (K:Int->LC->Option β):Option β:=
 ZA (Yl.l0 k K) k (a1,0,a0)
noncomputable def Yl.t (k:Nat) (a0:LC) (a1:Int):Option (Int×LC):=Yl.g k a0 a1 (λz0 z1=>some (z0,z1))
noncomputable def Yl.f {β:Type} (k:Nat) (a0:LC) (a1:Int) (K:Int->LC->Option β):Option β:=bd2 (Yl.t k a0 a1) K
noncomputable def Yl.e (k:Nat):Zj:=ent [.own false 45 [.o],.d .n] [1] [.n,.o] [3] false (Yl.t k)
noncomputable def Yl.p (k:Nat):Pro:=⟨Tryz.prog,[(106,Yg.e k)],Zv [(2,kp [0,5] [(1,.dat false)])] false [],k⟩
noncomputable def Yl.d (k:Nat) (a0:LC) (a1:Int):Ex->St->Option (Int×LC):=(Yl.p k).fin Tryz.f64 [.own false [.own a0],.d (.int .i64 a1)] [1] [.n,.o]
noncomputable def Yl.s0 (v:Int×Int×LC):St:=
 match v with
 |(aF,aH,aJ)=>ZaA 20 [(0,.row 0),(1,.d false (.int .i64 aF)),(5,.d true (.int .i64 aH))] [.row (some 0) false 45 aJ]
noncomputable def Yl.r0 (k:Nat) (a0:LC) (a1:Int) (n:Nat) (v:Int×Int×LC):Option (Int×LC):=(Yl.p k).lp (ZI Tryz.f64) 2 [1,0,1,0] (Yl.d k a0 a1) n (Yl.s0 v)
theorem Yl.l0_eq (k:Nat) (a0:LC) (a1:Int):∀ n v,Yl.r0 k a0 a1 n v=ZA (Yl.l0 k (λz0 z1=>some (z0,z1))) n v:=
 Zz (Yl.s0) _ λL0 v=>by obtain⟨aF,aH,aJ⟩:=v;kernel_rfl
theorem Yl.ok (k:Nat):Zf Tryz.prog 64 (Yl.e k):=Zk (Yl.p k) mix tyok Tryz.func64 (Yg.ok k) (by kernel_rfl) (λa0 a1=>Eq.trans (b:=Yl.m k a0 a1 (λz0 z1=>some (z0,z1)) (Yl.r0 k a0 a1 k)) (by kernel_rfl) (congrArg (Yl.m k a0 a1 (λz0 z1=>some (z0,z1))) (funext λv=>Yl.l0_eq k a0 a1 k v) :))
noncomputable def Yj.l0 {β:Type} (k:Nat) (r_laws_markValueS:LC->Int->(Int->LC->Option β)->Option β) (K:Int->LC->Option β) (L0:(Int×Int×LC)->Option β) (v:Int×Int×LC):Option β:=
 match v with
 |(aF,aH,aJ)=>bif(decide ((aH:Int)<(aJ.length:Int))) then(Zd ((0:Int)<=aH/\aH<(aJ.length:Int)) (Zd (Int.toNat aH<aJ.length) (Yg.f k (IntKind.wrap .i64 (aF+1)) (λy14=>let J3:=(aJ.modify (Int.toNat aH) λc=>Zs c 0 [.d (.int .i64 aF)]);let J2:=(J3.modify (Int.toNat aH) λc=>Zs c 1 [.d (.str y14)]);let J1:=(J2.modify (Int.toNat aH) λc=>Zs c 2 [.d (.int .i64 (IntKind.wrap .i64 ((IntKind.wrap .i64 (aF+1))+1)))]);Zd ((0:Int)<=aH/\aH<(J3.length:Int)) (Zd (Int.toNat aH<J3.length) (Zd ((0:Int)<=aH/\aH<(J2.length:Int)) (Zd (Int.toNat aH<J2.length) (Zd ((0:Int)<=aH/\aH<(J1.length:Int)) (ZaR J1 (Int.toNat aH) λc15=>ZaJ (c15.drop 3) λc16 r17=>cOwn c16 λy18=>Yl.f k y18 (IntKind.wrap .i64 ((IntKind.wrap .i64 ((IntKind.wrap .i64 (aF+1))+1))+1)) (λy19 y20=>let J0:=(J1.modify (Int.toNat aH) λr=>r.set 3 (.own y20));Zd ((0:Int)<=aH/\aH<(J0.length:Int)) (ZaR J0 (Int.toNat aH) λc21=>ZaJ (c21.drop 4) λc22 r23=>cOwn c22 λy24=>r_laws_markValueS y24 y19 (λy25 y26=>L0 (y25,IntKind.wrap .i64 (aH+1),J0.modify (Int.toNat aH) λr=>r.set 4 (.own y26)))))))))))))) else(K aF aJ)
noncomputable def Yj.m {β:Type} (k:Nat) (r_laws_markValueS:LC->Int->(Int->LC->Option β)->Option β) (a0:LC) (a1:Int) (K:Int->LC->Option β) (F:((Int×Int×LC)->Option β)):Option β:=
 F (a1,0,a0)
noncomputable def Yj.body {β:Type} (k:Nat) (r_laws_markValueS:LC->Int->(Int->LC->Option β)->Option β) (a0:LC) (a1:Int) (K:Int->LC->Option β):Option β:=
 ZA (Yj.l0 k r_laws_markValueS K) k (a1,0,a0)
noncomputable def Yj.w {β:Type} (r:LC->Int->Option (Int×LC)) (a0:LC) (a1:Int) (K:Int->LC->Option β):Option β:=bd2 (r a0 a1) K
noncomputable def Yj.all:Nat->(LC->Int->Option (Int×LC))
 |0=>(λ_ _=>none)
 |k+1=>(λr=>(λa0 a1=>Yj.body k (Yj.w r) a0 a1 (λz0 z1=>some (z0,z1)))) (Yj.all k)
noncomputable def Yj.t (k:Nat) (a0:LC) (a1:Int):Option (Int×LC):=(Yj.all k) a0 a1
noncomputable def Yj.f {β:Type} (k:Nat) (a0:LC) (a1:Int) (K:Int->LC->Option β):Option β:=Yj.w (Yj.t k) a0 a1 K
noncomputable def Yj.g {β:Type} (k:Nat) (a0:LC) (a1:Int) (K:Int->LC->Option β):Option β:=Yj.body k (Yj.f k) a0 a1 K
theorem Yj.t_succ (k:Nat) (a0:LC) (a1:Int):Yj.t (k+1) a0 a1=Yj.g k a0 a1 (λz0 z1=>some (z0,z1)):=rfl
noncomputable def Yj.e (k:Nat):Zj:=ent [.own false 52 [.o],.d .n] [1] [.n,.o] [3] false (Yj.t k)
noncomputable def Yj.p (k:Nat):Pro:=⟨Tryz.prog,[(106,Yg.e k),(64,Yl.e k),(65,Yj.e k)],Zv [(2,kp [0,5] [(1,.dat false)])] false [],k⟩
noncomputable def Yj.d (k:Nat) (a0:LC) (a1:Int):Ex->St->Option (Int×LC):=(Yj.p k).fin Tryz.f65 [.own false [.own a0],.d (.int .i64 a1)] [1] [.n,.o]
noncomputable def Yj.s0 (v:Int×Int×LC):St:=
 match v with
 |(aF,aH,aJ)=>ZaA 49 [(0,.row 0),(1,.d false (.int .i64 aF)),(5,.d true (.int .i64 aH))] [.row (some 0) false 52 aJ]
noncomputable def Yj.r0 (k:Nat) (a0:LC) (a1:Int) (n:Nat) (v:Int×Int×LC):Option (Int×LC):=(Yj.p k).lp (ZI Tryz.f65) 2 [1,0,1,0] (Yj.d k a0 a1) n (Yj.s0 v)
theorem Yj.l0_eq (k:Nat) (a0:LC) (a1:Int):∀ n v,Yj.r0 k a0 a1 n v=ZA (Yj.l0 k (Yj.f k) (λz0 z1=>some (z0,z1))) n v:=
 Zz (Yj.s0) _ λL0 v=>by obtain⟨aF,aH,aJ⟩:=v;kernel_rfl
theorem Yj.oks (k:Nat):Zf Tryz.prog 65 (Yj.e k):=by
 induction k with
 |zero=>exact Zba Tryz.func65 (by kernel_rfl) (λ_ _=>rfl)
 |succ k ih=>exact Zk (Yj.p k) mix tyok Tryz.func65 ⟨Yg.ok k,Yl.ok k,ih⟩ (by kernel_rfl) (λa0 a1=>Eq.trans (b:=Yj.m k (Yj.f k) a0 a1 (λz0 z1=>some (z0,z1)) (Yj.r0 k a0 a1 k)) (by kernel_rfl) ((congrArg (Yj.m k (Yj.f k) a0 a1 (λz0 z1=>some (z0,z1))) (funext λv=>Yj.l0_eq k a0 a1 k v)).trans (Yj.t_succ k a0 a1).symm))
theorem Yj.ok (k:Nat):Zf Tryz.prog 65 (Yj.e k):=(Yj.oks k)
set_option maxRecDepth 100000 in
noncomputable def YV.l0 {β:Type} (k:Nat) (K:Int->LC->Option β) (L0:(Int×Int×LC)->Option β) (v:Int×Int×LC):Option β:=
 match v with
 |(aF,aH,aJ)=>bif(decide ((aH:Int)<(aJ.length:Int))) then(Zd ((0:Int)<=aH/\aH<(aJ.length:Int)) (Zd (Int.toNat aH<aJ.length) (Yg.f k (IntKind.wrap .i64 (aF+1)) (λy34=>let J18:=(aJ.modify (Int.toNat aH) λc=>Zs c 0 [.d (.int .i64 aF)]);let J14:=(J18.modify (Int.toNat aH) λc=>Zs c 1 [.d (.str y34)]);let J13:=(J14.modify (Int.toNat aH) λc=>Zs c 2 [.d (.int .i64 (IntKind.wrap .i64 ((IntKind.wrap .i64 (aF+1))+1)))]);let J17:=(IntKind.wrap .i64 ((IntKind.wrap .i64 ((IntKind.wrap .i64 (aF+1))+1))+1));let J12:=(J13.modify (Int.toNat aH) λc=>Zs c 3 [.d (.int .i64 J17)]);let J16:=(IntKind.wrap .i64 (J17+1));let J11:=(J12.modify (Int.toNat aH) λc=>Zs c 4 [.d (.int .i64 J16)]);let J15:=(IntKind.wrap .i64 (J16+1));let J10:=(J11.modify (Int.toNat aH) λc=>Zs c 5 [.d (.bool (((Int.tmod J15 3):Int)==0))]);Zd ((0:Int)<=aH/\aH<(J18.length:Int)) (Zd (Int.toNat aH<J18.length) (Zd ((0:Int)<=aH/\aH<(J14.length:Int)) (Zd (Int.toNat aH<J14.length) (Zd ((0:Int)<=aH/\aH<(J13.length:Int)) (Zd (Int.toNat aH<J13.length) (Zd ((0:Int)<=aH/\aH<(J12.length:Int)) (Zd (Int.toNat aH<J12.length) (Zd ((3:Int)≠0) (Zd ((0:Int)<=aH/\aH<(J11.length:Int)) (Zd (Int.toNat aH<J11.length) (Zd ((0:Int)<=aH/\aH<(J10.length:Int)) (ZaR J10 (Int.toNat aH) λc35=>ZaJ (c35.drop 6) λc36 r37=>cOwn c36 λy38=>Yl.f k y38 (IntKind.wrap .i64 (J15+1)) (λy39 y40=>let J9:=(J10.modify (Int.toNat aH) λr=>r.set 6 (.own y40));Zd ((0:Int)<=aH/\aH<(J9.length:Int)) (Zd (Int.toNat aH<J9.length) (Yg.f k (IntKind.wrap .i64 (y39+1)) (λy41=>let J8:=(J9.modify (Int.toNat aH) λc=>Zs c 7 [.d (.int .i64 y39)]);let J7:=(J8.modify (Int.toNat aH) λc=>Zs c 8 [.d (.str y41)]);let J6:=(J7.modify (Int.toNat aH) λc=>Zs c 9 [.d (.int .i64 (IntKind.wrap .i64 ((IntKind.wrap .i64 (y39+1))+1)))]);Zd ((0:Int)<=aH/\aH<(J8.length:Int)) (Zd (Int.toNat aH<J8.length) (Zd ((0:Int)<=aH/\aH<(J7.length:Int)) (Zd (Int.toNat aH<J7.length) (Zd ((0:Int)<=aH/\aH<(J6.length:Int)) (ZaR J6 (Int.toNat aH) λc42=>ZaJ (c42.drop 10) λc43 r44=>cOwn c43 λy45=>Yl.f k y45 (IntKind.wrap .i64 ((IntKind.wrap .i64 ((IntKind.wrap .i64 (y39+1))+1))+1)) (λy46 y47=>let J5:=(J6.modify (Int.toNat aH) λr=>r.set 10 (.own y47));Zd ((0:Int)<=aH/\aH<(J5.length:Int)) (ZaR J5 (Int.toNat aH) λc48=>ZaJ (c48.drop 11) λc49 r50=>cOwn c49 λy51=>Yj.f k y51 y46 (λy52 y53=>let J4:=(J5.modify (Int.toNat aH) λr=>r.set 11 (.own y53));Zd ((0:Int)<=aH/\aH<(J4.length:Int)) (Zd (Int.toNat aH<J4.length) (Yg.f k (IntKind.wrap .i64 (y52+1)) (λy54=>let J3:=(J4.modify (Int.toNat aH) λc=>Zs c 12 [.d (.int .i64 y52)]);let J2:=(J3.modify (Int.toNat aH) λc=>Zs c 13 [.d (.str y54)]);let J1:=(J2.modify (Int.toNat aH) λc=>Zs c 14 [.d (.int .i64 (IntKind.wrap .i64 ((IntKind.wrap .i64 (y52+1))+1)))]);Zd ((0:Int)<=aH/\aH<(J3.length:Int)) (Zd (Int.toNat aH<J3.length) (Zd ((0:Int)<=aH/\aH<(J2.length:Int)) (Zd (Int.toNat aH<J2.length) (Zd ((0:Int)<=aH/\aH<(J1.length:Int)) (ZaR J1 (Int.toNat aH) λc55=>ZaJ (c55.drop 15) λc56 r57=>cOwn c56 λy58=>Yl.f k y58 (IntKind.wrap .i64 ((IntKind.wrap .i64 ((IntKind.wrap .i64 (y52+1))+1))+1)) (λy59 y60=>let J0:=(J1.modify (Int.toNat aH) λr=>r.set 15 (.own y60));Zd ((0:Int)<=aH/\aH<(J0.length:Int)) (ZaR J0 (Int.toNat aH) λc61=>ZaJ (c61.drop 16) λc62 r63=>cOwn c62 λy64=>Yj.f k y64 y59 (λy65 y66=>L0 (y65,IntKind.wrap .i64 (aH+1),J0.modify (Int.toNat aH) λr=>r.set 16 (.own y66))))))))))))))))))))))))))))))))))))))))) else(K aF aJ)
noncomputable def YV.m {β:Type} (k:Nat) (a0:LC) (a1:Int) (K:Int->LC->Option β) (F:((Int×Int×LC)->Option β)):Option β:=
 F (a1,0,a0)
noncomputable def YV.g {β:Type} (k:Nat) (a0:LC) (a1:Int) (K:Int->LC->Option β):Option β:=
 ZA (YV.l0 k K) k (a1,0,a0)
noncomputable def YV.t (k:Nat) (a0:LC) (a1:Int):Option (Int×LC):=YV.g k a0 a1 (λz0 z1=>some (z0,z1))
noncomputable def YV.f {β:Type} (k:Nat) (a0:LC) (a1:Int) (K:Int->LC->Option β):Option β:=bd2 (YV.t k a0 a1) K
noncomputable def YV.e (k:Nat):Zj:=ent [.own false 30 [.o],.d .n] [1] [.n,.o] [3] false (YV.t k)
noncomputable def YV.p (k:Nat):Pro:=⟨Tryz.prog,[(106,Yg.e k),(64,Yl.e k),(65,Yj.e k)],Zv [(2,kp [0,5] [(1,.dat false)])] false [],k⟩
noncomputable def YV.d (k:Nat) (a0:LC) (a1:Int):Ex->St->Option (Int×LC):=(YV.p k).fin Tryz.f43 [.own false [.own a0],.d (.int .i64 a1)] [1] [.n,.o]
noncomputable def YV.s0 (v:Int×Int×LC):St:=
 match v with
 |(aF,aH,aJ)=>ZaA 147 [(0,.row 0),(1,.d false (.int .i64 aF)),(5,.d true (.int .i64 aH))] [.row (some 0) false 30 aJ]
noncomputable def YV.r0 (k:Nat) (a0:LC) (a1:Int) (n:Nat) (v:Int×Int×LC):Option (Int×LC):=(YV.p k).lp (ZI Tryz.f43) 2 [1,0,1,0] (YV.d k a0 a1) n (YV.s0 v)
theorem YV.l0_eq (k:Nat) (a0:LC) (a1:Int):∀ n v,YV.r0 k a0 a1 n v=ZA (YV.l0 k (λz0 z1=>some (z0,z1))) n v:=
 Zz (YV.s0) _ λL0 v=>by obtain⟨aF,aH,aJ⟩:=v;kernel_rfl
theorem YV.ok (k:Nat):Zf Tryz.prog 43 (YV.e k):=Zk (YV.p k) mix tyok Tryz.func43 ⟨Yg.ok k,Yl.ok k,Yj.ok k⟩ (by kernel_rfl) (λa0 a1=>Eq.trans (b:=YV.m k a0 a1 (λz0 z1=>some (z0,z1)) (YV.r0 k a0 a1 k)) (by kernel_rfl) (congrArg (YV.m k a0 a1 (λz0 z1=>some (z0,z1))) (funext λv=>YV.l0_eq k a0 a1 k v) :))
set_option maxRecDepth 100000 in
noncomputable def YD.l0 {β:Type} (k:Nat) (K:Int->LC->Option β) (L0:(Int×Int×LC)->Option β) (v:Int×Int×LC):Option β:=
 match v with
 |(aF,aH,aJ)=>bif(decide ((aH:Int)<(aJ.length:Int))) then(let J22:=(aJ.modify (Int.toNat aH) λc=>Zs c 0 [.d (.int .i64 aF)]);let J16:=(J22.modify (Int.toNat aH) λc=>Zs c 1 [.d (.bool (((Int.tmod (IntKind.wrap .i64 (aF+1)) 3):Int)==0))]);let J21:=(IntKind.wrap .i64 ((IntKind.wrap .i64 ((IntKind.wrap .i64 (aF+1))+1))+1));Zd ((0:Int)<=aH/\aH<(aJ.length:Int)) (Zd (Int.toNat aH<aJ.length) (Zd ((3:Int)≠0) (Zd ((0:Int)<=aH/\aH<(J22.length:Int)) (Zd (Int.toNat aH<J22.length) (Zd ((0:Int)<=aH/\aH<(J16.length:Int)) (Zd (Int.toNat aH<J16.length) (Yg.f k J21 (λy34=>let J15:=(J16.modify (Int.toNat aH) λc=>Zs c 2 [.d (.int .i64 (IntKind.wrap .i64 ((IntKind.wrap .i64 (aF+1))+1)))]);let J14:=(J15.modify (Int.toNat aH) λc=>Zs c 3 [.d (.str y34)]);let J20:=(IntKind.wrap .i64 (J21+1));let J13:=(J14.modify (Int.toNat aH) λc=>Zs c 4 [.d (.int .i64 J20)]);let J19:=(IntKind.wrap .i64 (J20+1));let J12:=(J13.modify (Int.toNat aH) λc=>Zs c 5 [.d (.int .i64 J19)]);let J18:=(IntKind.wrap .i64 (J19+1));let J11:=(J12.modify (Int.toNat aH) λc=>Zs c 6 [.d (.int .i64 J18)]);let J17:=(IntKind.wrap .i64 (J18+1));let J10:=(J11.modify (Int.toNat aH) λc=>Zs c 7 [.d (.bool (((Int.tmod J17 3):Int)==0))]);Zd ((0:Int)<=aH/\aH<(J15.length:Int)) (Zd (Int.toNat aH<J15.length) (Zd ((0:Int)<=aH/\aH<(J14.length:Int)) (Zd (Int.toNat aH<J14.length) (Zd ((0:Int)<=aH/\aH<(J13.length:Int)) (Zd (Int.toNat aH<J13.length) (Zd ((0:Int)<=aH/\aH<(J12.length:Int)) (Zd (Int.toNat aH<J12.length) (Zd ((3:Int)≠0) (Zd ((0:Int)<=aH/\aH<(J11.length:Int)) (Zd (Int.toNat aH<J11.length) (Zd ((0:Int)<=aH/\aH<(J10.length:Int)) (ZaR J10 (Int.toNat aH) λc35=>ZaJ (c35.drop 8) λc36 r37=>cOwn c36 λy38=>Yl.f k y38 (IntKind.wrap .i64 (J17+1)) (λy39 y40=>let J9:=(J10.modify (Int.toNat aH) λr=>r.set 8 (.own y40));Zd ((0:Int)<=aH/\aH<(J9.length:Int)) (Zd (Int.toNat aH<J9.length) (Yg.f k (IntKind.wrap .i64 (y39+1)) (λy41=>let J8:=(J9.modify (Int.toNat aH) λc=>Zs c 9 [.d (.int .i64 y39)]);let J7:=(J8.modify (Int.toNat aH) λc=>Zs c 10 [.d (.str y41)]);let J6:=(J7.modify (Int.toNat aH) λc=>Zs c 11 [.d (.int .i64 (IntKind.wrap .i64 ((IntKind.wrap .i64 (y39+1))+1)))]);Zd ((0:Int)<=aH/\aH<(J8.length:Int)) (Zd (Int.toNat aH<J8.length) (Zd ((0:Int)<=aH/\aH<(J7.length:Int)) (Zd (Int.toNat aH<J7.length) (Zd ((0:Int)<=aH/\aH<(J6.length:Int)) (ZaR J6 (Int.toNat aH) λc42=>ZaJ (c42.drop 12) λc43 r44=>cOwn c43 λy45=>Yl.f k y45 (IntKind.wrap .i64 ((IntKind.wrap .i64 ((IntKind.wrap .i64 (y39+1))+1))+1)) (λy46 y47=>let J5:=(J6.modify (Int.toNat aH) λr=>r.set 12 (.own y47));Zd ((0:Int)<=aH/\aH<(J5.length:Int)) (ZaR J5 (Int.toNat aH) λc48=>ZaJ (c48.drop 13) λc49 r50=>cOwn c49 λy51=>Yj.f k y51 y46 (λy52 y53=>let J4:=(J5.modify (Int.toNat aH) λr=>r.set 13 (.own y53));Zd ((0:Int)<=aH/\aH<(J4.length:Int)) (Zd (Int.toNat aH<J4.length) (Yg.f k (IntKind.wrap .i64 (y52+1)) (λy54=>let J3:=(J4.modify (Int.toNat aH) λc=>Zs c 14 [.d (.int .i64 y52)]);let J2:=(J3.modify (Int.toNat aH) λc=>Zs c 15 [.d (.str y54)]);let J1:=(J2.modify (Int.toNat aH) λc=>Zs c 16 [.d (.int .i64 (IntKind.wrap .i64 ((IntKind.wrap .i64 (y52+1))+1)))]);Zd ((0:Int)<=aH/\aH<(J3.length:Int)) (Zd (Int.toNat aH<J3.length) (Zd ((0:Int)<=aH/\aH<(J2.length:Int)) (Zd (Int.toNat aH<J2.length) (Zd ((0:Int)<=aH/\aH<(J1.length:Int)) (ZaR J1 (Int.toNat aH) λc55=>ZaJ (c55.drop 17) λc56 r57=>cOwn c56 λy58=>Yl.f k y58 (IntKind.wrap .i64 ((IntKind.wrap .i64 ((IntKind.wrap .i64 (y52+1))+1))+1)) (λy59 y60=>let J0:=(J1.modify (Int.toNat aH) λr=>r.set 17 (.own y60));Zd ((0:Int)<=aH/\aH<(J0.length:Int)) (ZaR J0 (Int.toNat aH) λc61=>ZaJ (c61.drop 18) λc62 r63=>cOwn c62 λy64=>Yj.f k y64 y59 (λy65 y66=>L0 (y65,IntKind.wrap .i64 (aH+1),J0.modify (Int.toNat aH) λr=>r.set 18 (.own y66)))))))))))))))))))))))))))))))))))))))))))))) else(K aF aJ)
noncomputable def YD.m {β:Type} (k:Nat) (a0:LC) (a1:Int) (K:Int->LC->Option β) (F:((Int×Int×LC)->Option β)):Option β:=
 F (a1,0,a0)
noncomputable def YD.g {β:Type} (k:Nat) (a0:LC) (a1:Int) (K:Int->LC->Option β):Option β:=
 ZA (YD.l0 k K) k (a1,0,a0)
noncomputable def YD.t (k:Nat) (a0:LC) (a1:Int):Option (Int×LC):=YD.g k a0 a1 (λz0 z1=>some (z0,z1))
noncomputable def YD.f {β:Type} (k:Nat) (a0:LC) (a1:Int) (K:Int->LC->Option β):Option β:=bd2 (YD.t k a0 a1) K
noncomputable def YD.e (k:Nat):Zj:=ent [.own false 36 [.o],.d .n] [1] [.n,.o] [3] false (YD.t k)
noncomputable def YD.p (k:Nat):Pro:=⟨Tryz.prog,[(106,Yg.e k),(64,Yl.e k),(65,Yj.e k)],Zv [(2,kp [0,5] [(1,.dat false)])] false [],k⟩
noncomputable def YD.d (k:Nat) (a0:LC) (a1:Int):Ex->St->Option (Int×LC):=(YD.p k).fin Tryz.f44 [.own false [.own a0],.d (.int .i64 a1)] [1] [.n,.o]
noncomputable def YD.s0 (v:Int×Int×LC):St:=
 match v with
 |(aF,aH,aJ)=>ZaA 180 [(0,.row 0),(1,.d false (.int .i64 aF)),(5,.d true (.int .i64 aH))] [.row (some 0) false 36 aJ]
noncomputable def YD.r0 (k:Nat) (a0:LC) (a1:Int) (n:Nat) (v:Int×Int×LC):Option (Int×LC):=(YD.p k).lp (ZI Tryz.f44) 2 [1,0,1,0] (YD.d k a0 a1) n (YD.s0 v)
theorem YD.l0_eq (k:Nat) (a0:LC) (a1:Int):∀ n v,YD.r0 k a0 a1 n v=ZA (YD.l0 k (λz0 z1=>some (z0,z1))) n v:=
 Zz (YD.s0) _ λL0 v=>by obtain⟨aF,aH,aJ⟩:=v;kernel_rfl
theorem YD.ok (k:Nat):Zf Tryz.prog 44 (YD.e k):=Zk (YD.p k) mix tyok Tryz.func44 ⟨Yg.ok k,Yl.ok k,Yj.ok k⟩ (by kernel_rfl) (λa0 a1=>Eq.trans (b:=YD.m k a0 a1 (λz0 z1=>some (z0,z1)) (YD.r0 k a0 a1 k)) (by kernel_rfl) (congrArg (YD.m k a0 a1 (λz0 z1=>some (z0,z1))) (funext λv=>YD.l0_eq k a0 a1 k v) :))
noncomputable def Yap.g {β:Type} (k:Nat) (aC:LC) (aB aD:Int) (aA:LC) (a1:Int) (K:Int->LC->LC->Option β):Option β:=
 YV.f k aC a1 (λy67 y68=>Zd (y68.length=aC.length) (YD.f k aA y67 (λy69 y70=>Zd (y70.length=aA.length) (K y69 y68 y70))))
noncomputable def Yap.t (k:Nat) (aC:LC) (aB aD:Int) (aA:LC) (a1:Int):Option (Int×LC×LC):=Yap.g k aC aB aD aA a1 (λz0 z1 z2=>some (z0,z1,z2))
noncomputable def Yap.f {β:Type} (k:Nat) (aC:LC) (aB aD:Int) (aA:LC) (a1:Int) (K:Int->LC->LC->Option β):Option β:=bd3 (Yap.t k aC aB aD aA a1) K
noncomputable def Yap.e (k:Nat):Zj:=ent [.own true 38 [.o,.n,.n,.o],.d .n] [1] [.n,.o,.o] [3] false (Yap.t k)
noncomputable def Yap.p (k:Nat):Pro:=⟨Tryz.prog,[(43,YV.e k),(44,YD.e k)],Zv [] false [],k⟩
theorem Yap.ok (k:Nat):Zf Tryz.prog 15 (Yap.e k):=Zk (Yap.p k) mix tyok Tryz.func15 ⟨YV.ok k,YD.ok k⟩ (by kernel_rfl) (λaC aB aD aA a1=>by show _=_;kernel_rfl)
noncomputable def Yau.g {β:Type} (k:Nat) (aC:Int) (aB:BA) (aD:Int) (aA aI:LC) (a1:Int) (K:Int->LC->LC->Option β):Option β:=
 Yl.f k aA a1 (λy1 y2=>Zd (y2.length=aA.length) (Yj.f k aI y1 (λy3 y4=>Zd (y4.length=aI.length) (K y3 y2 y4))))
noncomputable def Yau.t (k:Nat) (aC:Int) (aB:BA) (aD:Int) (aA aI:LC) (a1:Int):Option (Int×LC×LC):=Yau.g k aC aB aD aA aI a1 (λz0 z1 z2=>some (z0,z1,z2))
noncomputable def Yau.f {β:Type} (k:Nat) (aC:Int) (aB:BA) (aD:Int) (aA aI:LC) (a1:Int) (K:Int->LC->LC->Option β):Option β:=bd3 (Yau.t k aC aB aD aA aI a1) K
noncomputable def Yau.e (k:Nat):Zj:=ent [.own true 54 [.n,.s,.n,.o,.o],.d .n] [1] [.n,.o,.o] [3] false (Yau.t k)
noncomputable def Yau.p (k:Nat):Pro:=⟨Tryz.prog,[(64,Yl.e k),(65,Yj.e k)],Zv [] false [],k⟩
theorem Yau.ok (k:Nat):Zf Tryz.prog 22 (Yau.e k):=Zk (Yau.p k) mix tyok Tryz.func22 ⟨Yl.ok k,Yj.ok k⟩ (by kernel_rfl) (λaC aB aD aA aI a1=>by show _=_;kernel_rfl)
noncomputable def Ym.l0 {β:Type} (k:Nat) (aF:LD) (K:Int->Option β) (L0:(Int×Int)->Option β) (v:Int×Int):Option β:=
 match v with
 |(aH,aJ)=>bif(decide ((aJ:Int)<(aF.length:Int))) then(atR aF aJ [.s] λx9=>(Yg.f k aH (λy10=>bif(!(Zae x9 y10)) then(K (-1)) else(L0 (IntKind.wrap .i64 (aH+1),IntKind.wrap .i64 (aJ+1)))))) else(K aH)
noncomputable def Ym.m {β:Type} (k:Nat) (a0:LD) (a1:Int) (K:Int->Option β) (F:(LD->(Int×Int)->Option β)):Option β:=
 F a0 (a1,0)
noncomputable def Ym.g {β:Type} (k:Nat) (a0:LD) (a1:Int) (K:Int->Option β):Option β:=
 ZA (Ym.l0 k a0 K) k (a1,0)
noncomputable def Ym.t (k:Nat) (a0:LD) (a1:Int):Option (Int):=Ym.g k a0 a1 (λz0=>some z0)
noncomputable def Ym.f {β:Type} (k:Nat) (a0:LD) (a1:Int) (K:Int->Option β):Option β:=bd1 (Ym.t k a0 a1) K
noncomputable def Ym.e (k:Nat):Zj:=ent [.d .l,.d .n] [1] [.n] [3] false (Ym.t k)
noncomputable def Ym.p (k:Nat):Pro:=⟨Tryz.prog,[(106,Yg.e k)],Zv [(2,kp [0,5] [(1,.dat false)])] false [],k⟩
noncomputable def Ym.d (k:Nat) (a0:LD) (a1:Int):Ex->St->Option (Int):=(Ym.p k).fin Tryz.f81 [.d (.sl a0),.d (.int .i64 a1)] [1] [.n]
noncomputable def Ym.s0 (aF:LD) (v:Int×Int):St:=
 match v with
 |(aH,aJ)=>ZaA 22 [(0,.d false (.sl aF)),(1,.d false (.int .i64 aH)),(5,.d true (.int .i64 aJ))] []
noncomputable def Ym.r0 (k:Nat) (a0:LD) (a1:Int) (aF:LD) (n:Nat) (v:Int×Int):Option (Int):=(Ym.p k).lp (ZI Tryz.f81) 2 [1,0,1,0] (Ym.d k a0 a1) n (Ym.s0 aF v)
theorem Ym.l0_eq (k:Nat) (a0:LD) (a1:Int) (aF:LD):∀ n v,Ym.r0 k a0 a1 aF n v=ZA (Ym.l0 k aF (λz0=>some z0)) n v:=
 Zz (Ym.s0 aF) _ λL0 v=>by obtain⟨aH,aJ⟩:=v;kernel_rfl
theorem Ym.ok (k:Nat):Zf Tryz.prog 81 (Ym.e k):=Zk (Ym.p k) mix tyok Tryz.func81 (Yg.ok k) (by kernel_rfl) (λa0 a1=>Eq.trans (b:=Ym.m k a0 a1 (λz0=>some z0) (λaF=>Ym.r0 k a0 a1 aF k)) (by kernel_rfl) (congrArg (Ym.m k a0 a1 (λz0=>some z0)) (funext λaF=>funext λv=>Ym.l0_eq k a0 a1 aF k v) :))
noncomputable def Yi.l0 {β:Type} (k:Nat) (r_laws_heldValueS:LD->Int->(Int->Option β)->Option β) (aF:LD) (K:Int->Option β) (L0:(Int×Int)->Option β) (v:Int×Int):Option β:=
 match v with
 |(aH,aJ)=>bif(decide ((aJ:Int)<(aF.length:Int))) then(atR aF aJ [.n,.s,.n,.l,.l] λx87 x90 x93 x96 x99=>(bif((x87:Int)!=aH) then(K (-1)) else(atR aF aJ [.n,.s,.n,.l,.l] λx103 x106 x109 x112 x115=>(Yg.f k (IntKind.wrap .i64 (aH+1)) (λy116=>bif(!(Zae x106 y116)) then(K (-1)) else(atR aF aJ [.n,.s,.n,.l,.l] λx120 x123 x126 x129 x132=>(bif((x126:Int)!=(IntKind.wrap .i64 ((IntKind.wrap .i64 (aH+1))+1))) then(K (-1)) else(atR aF aJ [.n,.s,.n,.l,.l] λx136 x139 x142 x145 x148=>(Ym.f k x145 (IntKind.wrap .i64 ((IntKind.wrap .i64 ((IntKind.wrap .i64 (aH+1))+1))+1)) (λy149=>bif(decide ((y149:Int)<0)) then(K (-1)) else(atR aF aJ [.n,.s,.n,.l,.l] λx153 x156 x159 x162 x165=>(r_laws_heldValueS x165 y149 (λy166=>bif(decide ((y166:Int)<0)) then(K (-1)) else(L0 (y166,IntKind.wrap .i64 (aJ+1)))))))))))))))) else(K aH)
noncomputable def Yi.m {β:Type} (k:Nat) (r_laws_heldValueS:LD->Int->(Int->Option β)->Option β) (a0:LD) (a1:Int) (K:Int->Option β) (F:(LD->(Int×Int)->Option β)):Option β:=
 F a0 (a1,0)
noncomputable def Yi.body {β:Type} (k:Nat) (r_laws_heldValueS:LD->Int->(Int->Option β)->Option β) (a0:LD) (a1:Int) (K:Int->Option β):Option β:=
 ZA (Yi.l0 k r_laws_heldValueS a0 K) k (a1,0)
noncomputable def Yi.w {β:Type} (r:LD->Int->Option (Int)) (a0:LD) (a1:Int) (K:Int->Option β):Option β:=bd1 (r a0 a1) K
noncomputable def Yi.all:Nat->(LD->Int->Option (Int))
 |0=>(λ_ _=>none)
 |k+1=>(λr=>(λa0 a1=>Yi.body k (Yi.w r) a0 a1 (λz0=>some z0))) (Yi.all k)
noncomputable def Yi.t (k:Nat) (a0:LD) (a1:Int):Option (Int):=(Yi.all k) a0 a1
noncomputable def Yi.f {β:Type} (k:Nat) (a0:LD) (a1:Int) (K:Int->Option β):Option β:=Yi.w (Yi.t k) a0 a1 K
noncomputable def Yi.g {β:Type} (k:Nat) (a0:LD) (a1:Int) (K:Int->Option β):Option β:=Yi.body k (Yi.f k) a0 a1 K
theorem Yi.t_succ (k:Nat) (a0:LD) (a1:Int):Yi.t (k+1) a0 a1=Yi.g k a0 a1 (λz0=>some z0):=rfl
noncomputable def Yi.e (k:Nat):Zj:=ent [.d .l,.d .n] [1] [.n] [3] false (Yi.t k)
noncomputable def Yi.p (k:Nat):Pro:=⟨Tryz.prog,[(106,Yg.e k),(81,Ym.e k),(82,Yi.e k)],Zv [(2,kp [0,5] [(1,.dat false)])] false [],k⟩
noncomputable def Yi.d (k:Nat) (a0:LD) (a1:Int):Ex->St->Option (Int):=(Yi.p k).fin Tryz.f82 [.d (.sl a0),.d (.int .i64 a1)] [1] [.n]
noncomputable def Yi.s0 (aF:LD) (v:Int×Int):St:=
 match v with
 |(aH,aJ)=>ZaA 59 [(0,.d false (.sl aF)),(1,.d false (.int .i64 aH)),(5,.d true (.int .i64 aJ))] []
noncomputable def Yi.r0 (k:Nat) (a0:LD) (a1:Int) (aF:LD) (n:Nat) (v:Int×Int):Option (Int):=(Yi.p k).lp (ZI Tryz.f82) 2 [1,0,1,0] (Yi.d k a0 a1) n (Yi.s0 aF v)
theorem Yi.l0_eq (k:Nat) (a0:LD) (a1:Int) (aF:LD):∀ n v,Yi.r0 k a0 a1 aF n v=ZA (Yi.l0 k (Yi.f k) aF (λz0=>some z0)) n v:=
 Zz (Yi.s0 aF) _ λL0 v=>by obtain⟨aH,aJ⟩:=v;kernel_rfl
theorem Yi.oks (k:Nat):Zf Tryz.prog 82 (Yi.e k):=by
 induction k with
 |zero=>exact Zba Tryz.func82 (by kernel_rfl) (λ_ _=>rfl)
 |succ k ih=>exact Zk (Yi.p k) mix tyok Tryz.func82 ⟨Yg.ok k,Ym.ok k,ih⟩ (by kernel_rfl) (λa0 a1=>Eq.trans (b:=Yi.m k (Yi.f k) a0 a1 (λz0=>some z0) (λaF=>Yi.r0 k a0 a1 aF k)) (by kernel_rfl) ((congrArg (Yi.m k (Yi.f k) a0 a1 (λz0=>some z0)) (funext λaF=>funext λv=>Yi.l0_eq k a0 a1 aF k v)).trans (Yi.t_succ k a0 a1).symm))
theorem Yi.ok (k:Nat):Zf Tryz.prog 82 (Yi.e k):=(Yi.oks k)
set_option maxRecDepth 100000 in
noncomputable def YP.l0 {β:Type} (k:Nat) (aF:LD) (K:Int->Option β) (L0:(Int×Int)->Option β) (v:Int×Int):Option β:=
 match v with
 |(aH,aJ)=>bif(decide ((aJ:Int)<(aF.length:Int))) then(atR aF aJ [.n,.s,.n,.n,.n,.b,.l,.n,.s,.n,.l,.l,.n,.s,.n,.l,.l] λx896 x899 x902 x905 x908 x911 x914 x917 x920 x923 x926 x929 x932 x935 x938 x941 x944=>(bif((x896:Int)!=aH) then(K (-1)) else(atR aF aJ [.n,.s,.n,.n,.n,.b,.l,.n,.s,.n,.l,.l,.n,.s,.n,.l,.l] λx948 x951 x954 x957 x960 x963 x966 x969 x972 x975 x978 x981 x984 x987 x990 x993 x996=>(Yg.f k (IntKind.wrap .i64 (aH+1)) (λy997=>bif(!(Zae x951 y997)) then(K (-1)) else(atR aF aJ [.n,.s,.n,.n,.n,.b,.l,.n,.s,.n,.l,.l,.n,.s,.n,.l,.l] λx1001 x1004 x1007 x1010 x1013 x1016 x1019 x1022 x1025 x1028 x1031 x1034 x1037 x1040 x1043 x1046 x1049=>(bif((x1007:Int)!=(IntKind.wrap .i64 ((IntKind.wrap .i64 (aH+1))+1))) then(K (-1)) else(atR aF aJ [.n,.s,.n,.n,.n,.b,.l,.n,.s,.n,.l,.l,.n,.s,.n,.l,.l] λx1053 x1056 x1059 x1062 x1065 x1068 x1071 x1074 x1077 x1080 x1083 x1086 x1089 x1092 x1095 x1098 x1101=>let J2:=(IntKind.wrap .i64 ((IntKind.wrap .i64 ((IntKind.wrap .i64 (aH+1))+1))+1));(bif((x1062:Int)!=J2) then(K (-1)) else(atR aF aJ [.n,.s,.n,.n,.n,.b,.l,.n,.s,.n,.l,.l,.n,.s,.n,.l,.l] λx1105 x1108 x1111 x1114 x1117 x1120 x1123 x1126 x1129 x1132 x1135 x1138 x1141 x1144 x1147 x1150 x1153=>let J1:=(IntKind.wrap .i64 (J2+1));(bif((x1117:Int)!=J1) then(K (-1)) else(atR aF aJ [.n,.s,.n,.n,.n,.b,.l,.n,.s,.n,.l,.l,.n,.s,.n,.l,.l] λx1157 x1160 x1163 x1166 x1169 x1172 x1175 x1178 x1181 x1184 x1187 x1190 x1193 x1196 x1199 x1202 x1205=>let J0:=(IntKind.wrap .i64 (J1+1));(Zd ((3:Int)≠0) (bif(!(x1172==(((Int.tmod J0 3):Int)==0))) then(K (-1)) else(atR aF aJ [.n,.s,.n,.n,.n,.b,.l,.n,.s,.n,.l,.l,.n,.s,.n,.l,.l] λx1209 x1212 x1215 x1218 x1221 x1224 x1227 x1230 x1233 x1236 x1239 x1242 x1245 x1248 x1251 x1254 x1257=>(Ym.f k x1227 (IntKind.wrap .i64 (J0+1)) (λy1258=>bif(decide ((y1258:Int)<0)) then(K (-1)) else(atR aF aJ [.n,.s,.n,.n,.n,.b,.l,.n,.s,.n,.l,.l,.n,.s,.n,.l,.l] λx1262 x1265 x1268 x1271 x1274 x1277 x1280 x1283 x1286 x1289 x1292 x1295 x1298 x1301 x1304 x1307 x1310=>(bif((x1283:Int)!=y1258) then(K (-1)) else(atR aF aJ [.n,.s,.n,.n,.n,.b,.l,.n,.s,.n,.l,.l,.n,.s,.n,.l,.l] λx1314 x1317 x1320 x1323 x1326 x1329 x1332 x1335 x1338 x1341 x1344 x1347 x1350 x1353 x1356 x1359 x1362=>(Yg.f k (IntKind.wrap .i64 (y1258+1)) (λy1363=>bif(!(Zae x1338 y1363)) then(K (-1)) else(atR aF aJ [.n,.s,.n,.n,.n,.b,.l,.n,.s,.n,.l,.l,.n,.s,.n,.l,.l] λx1367 x1370 x1373 x1376 x1379 x1382 x1385 x1388 x1391 x1394 x1397 x1400 x1403 x1406 x1409 x1412 x1415=>(bif((x1394:Int)!=(IntKind.wrap .i64 ((IntKind.wrap .i64 (y1258+1))+1))) then(K (-1)) else(atR aF aJ [.n,.s,.n,.n,.n,.b,.l,.n,.s,.n,.l,.l,.n,.s,.n,.l,.l] λx1419 x1422 x1425 x1428 x1431 x1434 x1437 x1440 x1443 x1446 x1449 x1452 x1455 x1458 x1461 x1464 x1467=>(Ym.f k x1449 (IntKind.wrap .i64 ((IntKind.wrap .i64 ((IntKind.wrap .i64 (y1258+1))+1))+1)) (λy1468=>bif(decide ((y1468:Int)<0)) then(K (-1)) else(atR aF aJ [.n,.s,.n,.n,.n,.b,.l,.n,.s,.n,.l,.l,.n,.s,.n,.l,.l] λx1472 x1475 x1478 x1481 x1484 x1487 x1490 x1493 x1496 x1499 x1502 x1505 x1508 x1511 x1514 x1517 x1520=>(Yi.f k x1505 y1468 (λy1521=>bif(decide ((y1521:Int)<0)) then(K (-1)) else(atR aF aJ [.n,.s,.n,.n,.n,.b,.l,.n,.s,.n,.l,.l,.n,.s,.n,.l,.l] λx1525 x1528 x1531 x1534 x1537 x1540 x1543 x1546 x1549 x1552 x1555 x1558 x1561 x1564 x1567 x1570 x1573=>(bif((x1561:Int)!=y1521) then(K (-1)) else(atR aF aJ [.n,.s,.n,.n,.n,.b,.l,.n,.s,.n,.l,.l,.n,.s,.n,.l,.l] λx1577 x1580 x1583 x1586 x1589 x1592 x1595 x1598 x1601 x1604 x1607 x1610 x1613 x1616 x1619 x1622 x1625=>(Yg.f k (IntKind.wrap .i64 (y1521+1)) (λy1626=>bif(!(Zae x1616 y1626)) then(K (-1)) else(atR aF aJ [.n,.s,.n,.n,.n,.b,.l,.n,.s,.n,.l,.l,.n,.s,.n,.l,.l] λx1630 x1633 x1636 x1639 x1642 x1645 x1648 x1651 x1654 x1657 x1660 x1663 x1666 x1669 x1672 x1675 x1678=>(bif((x1672:Int)!=(IntKind.wrap .i64 ((IntKind.wrap .i64 (y1521+1))+1))) then(K (-1)) else(atR aF aJ [.n,.s,.n,.n,.n,.b,.l,.n,.s,.n,.l,.l,.n,.s,.n,.l,.l] λx1682 x1685 x1688 x1691 x1694 x1697 x1700 x1703 x1706 x1709 x1712 x1715 x1718 x1721 x1724 x1727 x1730=>(Ym.f k x1727 (IntKind.wrap .i64 ((IntKind.wrap .i64 ((IntKind.wrap .i64 (y1521+1))+1))+1)) (λy1731=>bif(decide ((y1731:Int)<0)) then(K (-1)) else(atR aF aJ [.n,.s,.n,.n,.n,.b,.l,.n,.s,.n,.l,.l,.n,.s,.n,.l,.l] λx1735 x1738 x1741 x1744 x1747 x1750 x1753 x1756 x1759 x1762 x1765 x1768 x1771 x1774 x1777 x1780 x1783=>(Yi.f k x1783 y1731 (λy1784=>bif(decide ((y1784:Int)<0)) then(K (-1)) else(L0 (y1784,IntKind.wrap .i64 (aJ+1)))))))))))))))))))))))))))))))))))))))))))))) else(K aH)
noncomputable def YP.m {β:Type} (k:Nat) (a0:LD) (a1:Int) (K:Int->Option β) (F:(LD->(Int×Int)->Option β)):Option β:=
 F a0 (a1,0)
noncomputable def YP.g {β:Type} (k:Nat) (a0:LD) (a1:Int) (K:Int->Option β):Option β:=
 ZA (YP.l0 k a0 K) k (a1,0)
noncomputable def YP.t (k:Nat) (a0:LD) (a1:Int):Option (Int):=YP.g k a0 a1 (λz0=>some z0)
noncomputable def YP.f {β:Type} (k:Nat) (a0:LD) (a1:Int) (K:Int->Option β):Option β:=bd1 (YP.t k a0 a1) K
noncomputable def YP.e (k:Nat):Zj:=ent [.d .l,.d .n] [1] [.n] [3] false (YP.t k)
noncomputable def YP.p (k:Nat):Pro:=⟨Tryz.prog,[(106,Yg.e k),(81,Ym.e k),(82,Yi.e k)],Zv [(2,kp [0,5] [(1,.dat false)])] false [],k⟩
noncomputable def YP.d (k:Nat) (a0:LD) (a1:Int):Ex->St->Option (Int):=(YP.p k).fin Tryz.f45 [.d (.sl a0),.d (.int .i64 a1)] [1] [.n]
noncomputable def YP.s0 (aF:LD) (v:Int×Int):St:=
 match v with
 |(aH,aJ)=>ZaA 181 [(0,.d false (.sl aF)),(1,.d false (.int .i64 aH)),(5,.d true (.int .i64 aJ))] []
noncomputable def YP.r0 (k:Nat) (a0:LD) (a1:Int) (aF:LD) (n:Nat) (v:Int×Int):Option (Int):=(YP.p k).lp (ZI Tryz.f45) 2 [1,0,1,0] (YP.d k a0 a1) n (YP.s0 aF v)
theorem YP.l0_eq (k:Nat) (a0:LD) (a1:Int) (aF:LD):∀ n v,YP.r0 k a0 a1 aF n v=ZA (YP.l0 k aF (λz0=>some z0)) n v:=
 Zz (YP.s0 aF) _ λL0 v=>by obtain⟨aH,aJ⟩:=v;kernel_rfl
theorem YP.ok (k:Nat):Zf Tryz.prog 45 (YP.e k):=Zk (YP.p k) mix tyok Tryz.func45 ⟨Yg.ok k,Ym.ok k,Yi.ok k⟩ (by kernel_rfl) (λa0 a1=>Eq.trans (b:=YP.m k a0 a1 (λz0=>some z0) (λaF=>YP.r0 k a0 a1 aF k)) (by kernel_rfl) (congrArg (YP.m k a0 a1 (λz0=>some z0)) (funext λaF=>funext λv=>YP.l0_eq k a0 a1 aF k v) :))
set_option maxRecDepth 100000 in
noncomputable def YB.l0 {β:Type} (k:Nat) (aF:LD) (K:Int->Option β) (L0:(Int×Int)->Option β) (v:Int×Int):Option β:=
 match v with
 |(aH,aJ)=>bif(decide ((aJ:Int)<(aF.length:Int))) then(atR aF aJ [.n,.b,.n,.s,.n,.n,.n,.b,.l,.n,.s,.n,.l,.l,.n,.s,.n,.l,.l] λx1114 x1117 x1120 x1123 x1126 x1129 x1132 x1135 x1138 x1141 x1144 x1147 x1150 x1153 x1156 x1159 x1162 x1165 x1168=>(bif((x1114:Int)!=aH) then(K (-1)) else(atR aF aJ [.n,.b,.n,.s,.n,.n,.n,.b,.l,.n,.s,.n,.l,.l,.n,.s,.n,.l,.l] λx1172 x1175 x1178 x1181 x1184 x1187 x1190 x1193 x1196 x1199 x1202 x1205 x1208 x1211 x1214 x1217 x1220 x1223 x1226=>(Zd ((3:Int)≠0) (bif(!(x1175==(((Int.tmod (IntKind.wrap .i64 (aH+1)) 3):Int)==0))) then(K (-1)) else(atR aF aJ [.n,.b,.n,.s,.n,.n,.n,.b,.l,.n,.s,.n,.l,.l,.n,.s,.n,.l,.l] λx1230 x1233 x1236 x1239 x1242 x1245 x1248 x1251 x1254 x1257 x1260 x1263 x1266 x1269 x1272 x1275 x1278 x1281 x1284=>(bif((x1236:Int)!=(IntKind.wrap .i64 ((IntKind.wrap .i64 (aH+1))+1))) then(K (-1)) else(atR aF aJ [.n,.b,.n,.s,.n,.n,.n,.b,.l,.n,.s,.n,.l,.l,.n,.s,.n,.l,.l] λx1288 x1291 x1294 x1297 x1300 x1303 x1306 x1309 x1312 x1315 x1318 x1321 x1324 x1327 x1330 x1333 x1336 x1339 x1342=>let J4:=(IntKind.wrap .i64 ((IntKind.wrap .i64 ((IntKind.wrap .i64 (aH+1))+1))+1));(Yg.f k J4 (λy1343=>bif(!(Zae x1297 y1343)) then(K (-1)) else(atR aF aJ [.n,.b,.n,.s,.n,.n,.n,.b,.l,.n,.s,.n,.l,.l,.n,.s,.n,.l,.l] λx1347 x1350 x1353 x1356 x1359 x1362 x1365 x1368 x1371 x1374 x1377 x1380 x1383 x1386 x1389 x1392 x1395 x1398 x1401=>let J3:=(IntKind.wrap .i64 (J4+1));(bif((x1359:Int)!=J3) then(K (-1)) else(atR aF aJ [.n,.b,.n,.s,.n,.n,.n,.b,.l,.n,.s,.n,.l,.l,.n,.s,.n,.l,.l] λx1405 x1408 x1411 x1414 x1417 x1420 x1423 x1426 x1429 x1432 x1435 x1438 x1441 x1444 x1447 x1450 x1453 x1456 x1459=>let J2:=(IntKind.wrap .i64 (J3+1));(bif((x1420:Int)!=J2) then(K (-1)) else(atR aF aJ [.n,.b,.n,.s,.n,.n,.n,.b,.l,.n,.s,.n,.l,.l,.n,.s,.n,.l,.l] λx1463 x1466 x1469 x1472 x1475 x1478 x1481 x1484 x1487 x1490 x1493 x1496 x1499 x1502 x1505 x1508 x1511 x1514 x1517=>let J1:=(IntKind.wrap .i64 (J2+1));(bif((x1481:Int)!=J1) then(K (-1)) else(atR aF aJ [.n,.b,.n,.s,.n,.n,.n,.b,.l,.n,.s,.n,.l,.l,.n,.s,.n,.l,.l] λx1521 x1524 x1527 x1530 x1533 x1536 x1539 x1542 x1545 x1548 x1551 x1554 x1557 x1560 x1563 x1566 x1569 x1572 x1575=>let J0:=(IntKind.wrap .i64 (J1+1));(Zd ((3:Int)≠0) (bif(!(x1542==(((Int.tmod J0 3):Int)==0))) then(K (-1)) else(atR aF aJ [.n,.b,.n,.s,.n,.n,.n,.b,.l,.n,.s,.n,.l,.l,.n,.s,.n,.l,.l] λx1579 x1582 x1585 x1588 x1591 x1594 x1597 x1600 x1603 x1606 x1609 x1612 x1615 x1618 x1621 x1624 x1627 x1630 x1633=>(Ym.f k x1603 (IntKind.wrap .i64 (J0+1)) (λy1634=>bif(decide ((y1634:Int)<0)) then(K (-1)) else(atR aF aJ [.n,.b,.n,.s,.n,.n,.n,.b,.l,.n,.s,.n,.l,.l,.n,.s,.n,.l,.l] λx1638 x1641 x1644 x1647 x1650 x1653 x1656 x1659 x1662 x1665 x1668 x1671 x1674 x1677 x1680 x1683 x1686 x1689 x1692=>(bif((x1665:Int)!=y1634) then(K (-1)) else(atR aF aJ [.n,.b,.n,.s,.n,.n,.n,.b,.l,.n,.s,.n,.l,.l,.n,.s,.n,.l,.l] λx1696 x1699 x1702 x1705 x1708 x1711 x1714 x1717 x1720 x1723 x1726 x1729 x1732 x1735 x1738 x1741 x1744 x1747 x1750=>(Yg.f k (IntKind.wrap .i64 (y1634+1)) (λy1751=>bif(!(Zae x1726 y1751)) then(K (-1)) else(atR aF aJ [.n,.b,.n,.s,.n,.n,.n,.b,.l,.n,.s,.n,.l,.l,.n,.s,.n,.l,.l] λx1755 x1758 x1761 x1764 x1767 x1770 x1773 x1776 x1779 x1782 x1785 x1788 x1791 x1794 x1797 x1800 x1803 x1806 x1809=>(bif((x1788:Int)!=(IntKind.wrap .i64 ((IntKind.wrap .i64 (y1634+1))+1))) then(K (-1)) else(atR aF aJ [.n,.b,.n,.s,.n,.n,.n,.b,.l,.n,.s,.n,.l,.l,.n,.s,.n,.l,.l] λx1813 x1816 x1819 x1822 x1825 x1828 x1831 x1834 x1837 x1840 x1843 x1846 x1849 x1852 x1855 x1858 x1861 x1864 x1867=>(Ym.f k x1849 (IntKind.wrap .i64 ((IntKind.wrap .i64 ((IntKind.wrap .i64 (y1634+1))+1))+1)) (λy1868=>bif(decide ((y1868:Int)<0)) then(K (-1)) else(atR aF aJ [.n,.b,.n,.s,.n,.n,.n,.b,.l,.n,.s,.n,.l,.l,.n,.s,.n,.l,.l] λx1872 x1875 x1878 x1881 x1884 x1887 x1890 x1893 x1896 x1899 x1902 x1905 x1908 x1911 x1914 x1917 x1920 x1923 x1926=>(Yi.f k x1911 y1868 (λy1927=>bif(decide ((y1927:Int)<0)) then(K (-1)) else(atR aF aJ [.n,.b,.n,.s,.n,.n,.n,.b,.l,.n,.s,.n,.l,.l,.n,.s,.n,.l,.l] λx1931 x1934 x1937 x1940 x1943 x1946 x1949 x1952 x1955 x1958 x1961 x1964 x1967 x1970 x1973 x1976 x1979 x1982 x1985=>(bif((x1973:Int)!=y1927) then(K (-1)) else(atR aF aJ [.n,.b,.n,.s,.n,.n,.n,.b,.l,.n,.s,.n,.l,.l,.n,.s,.n,.l,.l] λx1989 x1992 x1995 x1998 x2001 x2004 x2007 x2010 x2013 x2016 x2019 x2022 x2025 x2028 x2031 x2034 x2037 x2040 x2043=>(Yg.f k (IntKind.wrap .i64 (y1927+1)) (λy2044=>bif(!(Zae x2034 y2044)) then(K (-1)) else(atR aF aJ [.n,.b,.n,.s,.n,.n,.n,.b,.l,.n,.s,.n,.l,.l,.n,.s,.n,.l,.l] λx2048 x2051 x2054 x2057 x2060 x2063 x2066 x2069 x2072 x2075 x2078 x2081 x2084 x2087 x2090 x2093 x2096 x2099 x2102=>(bif((x2096:Int)!=(IntKind.wrap .i64 ((IntKind.wrap .i64 (y1927+1))+1))) then(K (-1)) else(atR aF aJ [.n,.b,.n,.s,.n,.n,.n,.b,.l,.n,.s,.n,.l,.l,.n,.s,.n,.l,.l] λx2106 x2109 x2112 x2115 x2118 x2121 x2124 x2127 x2130 x2133 x2136 x2139 x2142 x2145 x2148 x2151 x2154 x2157 x2160=>(Ym.f k x2157 (IntKind.wrap .i64 ((IntKind.wrap .i64 ((IntKind.wrap .i64 (y1927+1))+1))+1)) (λy2161=>bif(decide ((y2161:Int)<0)) then(K (-1)) else(atR aF aJ [.n,.b,.n,.s,.n,.n,.n,.b,.l,.n,.s,.n,.l,.l,.n,.s,.n,.l,.l] λx2165 x2168 x2171 x2174 x2177 x2180 x2183 x2186 x2189 x2192 x2195 x2198 x2201 x2204 x2207 x2210 x2213 x2216 x2219=>(Yi.f k x2219 y2161 (λy2220=>bif(decide ((y2220:Int)<0)) then(K (-1)) else(L0 (y2220,IntKind.wrap .i64 (aJ+1))))))))))))))))))))))))))))))))))))))))))))))))))) else(K aH)
noncomputable def YB.m {β:Type} (k:Nat) (a0:LD) (a1:Int) (K:Int->Option β) (F:(LD->(Int×Int)->Option β)):Option β:=
 F a0 (a1,0)
noncomputable def YB.g {β:Type} (k:Nat) (a0:LD) (a1:Int) (K:Int->Option β):Option β:=
 ZA (YB.l0 k a0 K) k (a1,0)
noncomputable def YB.t (k:Nat) (a0:LD) (a1:Int):Option (Int):=YB.g k a0 a1 (λz0=>some z0)
noncomputable def YB.f {β:Type} (k:Nat) (a0:LD) (a1:Int) (K:Int->Option β):Option β:=bd1 (YB.t k a0 a1) K
noncomputable def YB.e (k:Nat):Zj:=ent [.d .l,.d .n] [1] [.n] [3] false (YB.t k)
noncomputable def YB.p (k:Nat):Pro:=⟨Tryz.prog,[(106,Yg.e k),(81,Ym.e k),(82,Yi.e k)],Zv [(2,kp [0,5] [(1,.dat false)])] false [],k⟩
noncomputable def YB.d (k:Nat) (a0:LD) (a1:Int):Ex->St->Option (Int):=(YB.p k).fin Tryz.f66 [.d (.sl a0),.d (.int .i64 a1)] [1] [.n]
noncomputable def YB.s0 (aF:LD) (v:Int×Int):St:=
 match v with
 |(aH,aJ)=>ZaA 218 [(0,.d false (.sl aF)),(1,.d false (.int .i64 aH)),(5,.d true (.int .i64 aJ))] []
noncomputable def YB.r0 (k:Nat) (a0:LD) (a1:Int) (aF:LD) (n:Nat) (v:Int×Int):Option (Int):=(YB.p k).lp (ZI Tryz.f66) 2 [1,0,1,0] (YB.d k a0 a1) n (YB.s0 aF v)
theorem YB.l0_eq (k:Nat) (a0:LD) (a1:Int) (aF:LD):∀ n v,YB.r0 k a0 a1 aF n v=ZA (YB.l0 k aF (λz0=>some z0)) n v:=
 Zz (YB.s0 aF) _ λL0 v=>by obtain⟨aH,aJ⟩:=v;kernel_rfl
theorem YB.ok (k:Nat):Zf Tryz.prog 66 (YB.e k):=Zk (YB.p k) mix tyok Tryz.func66 ⟨Yg.ok k,Ym.ok k,Yi.ok k⟩ (by kernel_rfl) (λa0 a1=>Eq.trans (b:=YB.m k a0 a1 (λz0=>some z0) (λaF=>YB.r0 k a0 a1 aF k)) (by kernel_rfl) (congrArg (YB.m k a0 a1 (λz0=>some z0)) (funext λaF=>funext λv=>YB.l0_eq k a0 a1 aF k v) :))
noncomputable def Yax.g {β:Type} (k:Nat) (aC:LD) (aB aD:Int) (aA:LD) (a1:Int) (K:Int->Option β):Option β:=
 YP.f k aC a1 (λy1785=>bif(decide ((y1785:Int)<0)) then(K (-1)) else(YB.f k aA y1785 (λy2221=>bif(decide ((y2221:Int)<0)) then(K (-1)) else(K y2221))))
noncomputable def Yax.t (k:Nat) (aC:LD) (aB aD:Int) (aA:LD) (a1:Int):Option (Int):=Yax.g k aC aB aD aA a1 (λz0=>some z0)
noncomputable def Yax.f {β:Type} (k:Nat) (aC:LD) (aB aD:Int) (aA:LD) (a1:Int) (K:Int->Option β):Option β:=bd1 (Yax.t k aC aB aD aA a1) K
noncomputable def Yax.e (k:Nat):Zj:=ent [.agg [.l,.n,.n,.l],.d .n] [1] [.n] [3] false (Yax.t k)
noncomputable def Yax.p (k:Nat):Pro:=⟨Tryz.prog,[(45,YP.e k),(66,YB.e k)],Zv [] false [],k⟩
theorem Yax.ok (k:Nat):Zf Tryz.prog 23 (Yax.e k):=Zk (Yax.p k) mix tyok Tryz.func23 ⟨YP.ok k,YB.ok k⟩ (by kernel_rfl) (λaC aB aD aA a1=>by show _=_;kernel_rfl)
noncomputable def YaA.g {β:Type} (k:Nat) (aC:LD) (aB aD:Int) (aA:LD) (a1:Int) (a2:BA) (a3 cA:Int) (cC:BA) (cE:Int) (cF bZ:LD) (K:Bool->Option β):Option β:=
 bif(decide (((a2.size:Int):Int)>1048576)) then(K true) else(YaI.f k aC aB aD aA 1048576 (λy120=>bif(decide ((y120:Int)<0)) then(K true) else(YM.f k cA cC cE cF bZ y120 (λy121=>bif(decide ((y121:Int)<0)) then(K true) else(Yao.f k aC aB aD aA (λy156 y157 y158 y159=>YE.f k cA cC cE cF bZ (λy160 y161 y162 y163 y164=>YaD.f k (C.immRows y156) y157 y158 (C.immRows y159) a1 a2 a3 y160 y161 y162 (C.immRows y163) (C.immRows y164) (λy165 y166 y167 y168 y169=>Yao.f k aC aB aD aA (λy170 y171 y172 y173=>YE.f k cA cC cE cF bZ (λy174 y175 y176 y177 y178=>YaB.f k (C.immRows y170) y171 y172 (C.immRows y173) a1 a2 a3 y174 y175 y176 (C.immRows y177) (C.immRows y178) (λy544 y545 y546 y547 y548=>Yaq.f k (C.immRows y544) y545 y546 (C.immRows y547) y165 y166 y167 y168 (λy549=>bif(!y549) then(K false) else(bif((y548:Int)!=y169) then(K false) else(Yao.f k aC aB aD aA (λy550 y551 y552 y553=>Yaq.f k (C.immRows y170) y171 y172 (C.immRows y173) (C.immRows y550) y551 y552 (C.immRows y553) (λy554=>bif(!y554) then(K false) else(YE.f k cA cC cE cF bZ (λy555 y556 y557 y558 y559=>YN.f k y174 y175 y176 (C.immRows y177) (C.immRows y178) y555 y556 y557 (C.immRows y558) (C.immRows y559) (λy560=>bif(!y560) then(K false) else(Yap.f k y170 y171 y172 y173 1 (λy561 y562 y563=>Zd (y562.length=y170.length) (Zd (y563.length=y173.length) (Yau.f k y174 y175 y176 y177 y178 y561 (λy564 y565 y566=>Zd (y565.length=y177.length) (Zd (y566.length=y178.length) (bif(decide ((y564:Int)<0)) then(K false) else(Yaq.f k (C.immRows y544) y545 y546 (C.immRows y547) y165 y166 y167 y168 (λy567=>bif(!y567) then(K false) else(bif((y548:Int)!=y169) then(K false) else(Yap.f k y544 y545 y546 y547 1 (λy568 y569 y570=>Zd (y569.length=y544.length) (Zd (y570.length=y547.length) (Yax.f k (C.immRows y569) y545 y546 (C.immRows y570) 1 (λy2222=>bif(decide ((y2222:Int)<0)) then(K false) else(bif((y2222:Int)!=y568) then(K false) else(Yao.f k aC aB aD aA (λy2223 y2224 y2225 y2226=>YE.f k cA cC cE cF bZ (λy2227 y2228 y2229 y2230 y2231=>YaB.f k (C.immRows y2223) y2224 y2225 (C.immRows y2226) a1 a2 a3 y2227 y2228 y2229 (C.immRows y2230) (C.immRows y2231) (λy2232 y2233 y2234 y2235 y2236=>Yaq.f k (C.immRows y2232) y2233 y2234 (C.immRows y2235) y165 y166 y167 y168 (λy2237=>bif(!y2237) then(K false) else(bif((y2236:Int)!=y169) then(K false) else(Yax.f k (C.immRows y569) y545 y546 (C.immRows y570) 1 (λy2238=>bif(decide ((y2238:Int)<0)) then(K false) else(bif((y2238:Int)!=y568) then(K false) else(K true)))))))))))))))))))))))))))))))))))))))))))))
noncomputable def YaA.t (k:Nat) (aC:LD) (aB aD:Int) (aA:LD) (a1:Int) (a2:BA) (a3 cA:Int) (cC:BA) (cE:Int) (cF bZ:LD):Option (Bool):=YaA.g k aC aB aD aA a1 a2 a3 cA cC cE cF bZ (λz0=>some z0)
noncomputable def YaA.e (k:Nat):Zj:=ent [.agg [.l,.n,.n,.l],.d .n,.d .s,.d .n,.agg [.n,.s,.n,.l,.l]] [1] [.b] [4] false (YaA.t k)
noncomputable def YaA.p (k:Nat):Pro:=⟨Tryz.prog,[(7,YaI.e k),(17,YM.e k),(10,Yao.e k),(19,YE.e k),(18,YaD.e k),(20,YaB.e k),(13,Yaq.e k),(21,YN.e k),(15,Yap.e k),(22,Yau.e k),(23,Yax.e k)],Zv [] false [],k⟩
theorem YaA.ok (k:Nat):Zf Tryz.prog 4 (YaA.e k):=Zk (YaA.p k) mix tyok Tryz.func4 ⟨YaI.ok k,YM.ok k,Yao.ok k,YE.ok k,YaD.ok k,YaB.ok k,Yaq.ok k,YN.ok k,Yap.ok k,Yau.ok k,Yax.ok k⟩ (by kernel_rfl) (λaC aB aD aA a1 a2 a3 cA cC cE cF bZ=>by show _=_;kernel_rfl)
end Go.Proofs.YtlobhlnahhjpjaaGreat
