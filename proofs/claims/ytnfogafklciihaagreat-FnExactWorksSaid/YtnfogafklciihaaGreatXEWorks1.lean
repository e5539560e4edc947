/- Printed: the functions that FnExactWorks reaches,read by the evaluator,each with its contract. -/
import Derived.Test.YtnfogafklciihaaGreatXEWorks0
import Derived.KernelRfl
set_option linter.unusedVariables false
set_option linter.unusedSimpArgs false
set_option autoImplicit true
set_option relaxedAutoImplicit true
set_option maxRecDepth 1000000
set_option maxHeartbeats 8000000
namespace Go.Proofs.YtnfogafklciihaaGreat
open Go Go.T Go.Proofs
noncomputable def Y1.l0 {β:Type} (k:Nat) (aF aC:LD) (aH:Int) (K:Bool->Option β) (L0:Int->Option β) (v:Int):Option β:=
 match v with
 |aI=>bif(decide ((aI:Int)<aH)) then(atR aF aI [.s] λx12=>(atR aC aI [.s] λx16=>(bif(!(ZP x12 x16)) then(K false) else(L0 (IntKind.wrap .i64 (aI+1)))))) else(K true)
noncomputable def Y1.m {β:Type} (k:Nat) (a0 a1:LD) (K:Bool->Option β) (F:(LD->LD->Int->Int->Option β)):Option β:=
 bif(((a0.length:Int):Int)!=(a1.length:Int)) then(K false) else(F a0 a1 (a0.length:Int) (0))
noncomputable def Y1.g {β:Type} (k:Nat) (a0 a1:LD) (K:Bool->Option β):Option β:=
 bif(((a0.length:Int):Int)!=(a1.length:Int)) then(K false) else(Za1 (Y1.l0 k a0 a1 (a0.length:Int) K) k (0))
noncomputable def Y1.t (k:Nat) (a0 a1:LD):=Y1.g k a0 a1 (λz0=>some z0)
noncomputable def Y1.e (k:Nat):Za0:=ent [.d .l,.d .l] [1] [.b] [4] false (Y1.t k)
noncomputable def Y1.p (k:Nat):Pro:=⟨Tryz.prog,[],hints [(4,kp [0,1,12,13])] false [],k⟩
theorem Y1.l0_eq (k:Nat) (a0 a1 aF aC:LD) (aH:Int):LpEq ((Y1.p k).lf Tryz.f181 4 [1,1,0,1,0] [.d (.sl a0),.d (.sl a1)] [1] [.b]) (Y1.l0 k aF aC aH (λz0=>some z0)) (λaI=>mkSt 26 [(0,.d false (.sl aF)),(1,.d false (.sl aC)),(12,.d true (.int .i64 aH)),(13,.d true (.int .i64 aI))] []):=lf_eq λL0 v=>by kernel_rfl
theorem Y1.ok (k:Nat):Zas Tryz.prog 181 (Y1.e k):=ent_ok (Y1.p k) mix tyok Tryz.func181 trivial Kr (λa0 a1=>Eq.trans Kr (congrArg (Y1.m k a0 a1 (λz0=>some z0)) (funext λaF=>funext λaC=>funext λaH=>funext λv=>Y1.l0_eq k a0 a1 aF aC aH k v) :))
noncomputable def Yb.l0 {β:Type} (k:Nat) (r_slices_EqualFunc_impl_Value__impl_SameValue:LD->LD->(Bool->Option β)->Option β) (r_impl_SameValue:Int->BA->Int->LD->LD->Int->BA->Int->LD->LD->(Bool->Option β)->Option β) (aF aC:LD) (aH:Int) (K:Bool->Option β) (L0:Int->Option β) (v:Int):Option β:=
 match v with
 |aI=>bif(decide ((aI:Int)<aH)) then(atR aC aI [.n,.s,.n,.l,.l] λx37 x40 x43 x46 x49=>(atR aF aI [.n,.s,.n,.l,.l] λx53 x56 x59 x62 x65=>(r_impl_SameValue x37 x40 x43 x46 x49 x53 x56 x59 x62 x65 (λy66=>bif(!y66) then(K false) else(L0 (IntKind.wrap .i64 (aI+1))))))) else(K true)
noncomputable def Yb.m {β:Type} (k:Nat) (r_slices_EqualFunc_impl_Value__impl_SameValue:LD->LD->(Bool->Option β)->Option β) (r_impl_SameValue:Int->BA->Int->LD->LD->Int->BA->Int->LD->LD->(Bool->Option β)->Option β) (a0 a1:LD) (K:Bool->Option β) (F:(LD->LD->Int->Int->Option β)):Option β:=
 bif(((a0.length:Int):Int)!=(a1.length:Int)) then(K false) else(F a1 a0 (a0.length:Int) (0))
noncomputable def Yb.body {β:Type} (k:Nat) (r_slices_EqualFunc_impl_Value__impl_SameValue:LD->LD->(Bool->Option β)->Option β) (r_impl_SameValue:Int->BA->Int->LD->LD->Int->BA->Int->LD->LD->(Bool->Option β)->Option β) (a0 a1:LD) (K:Bool->Option β):Option β:=
 bif(((a0.length:Int):Int)!=(a1.length:Int)) then(K false) else(Za1 (Yb.l0 k r_slices_EqualFunc_impl_Value__impl_SameValue r_impl_SameValue a1 a0 (a0.length:Int) K) k (0))
noncomputable def YE.body {β:Type} (k:Nat) (r_slices_EqualFunc_impl_Value__impl_SameValue:LD->LD->(Bool->Option β)->Option β) (r_impl_SameValue:Int->BA->Int->LD->LD->Int->BA->Int->LD->LD->(Bool->Option β)->Option β) (aB:Int) (aA:BA) (aD:Int) (aE aG:LD) (aQ:Int) (aP:BA) (aR:Int) (aS aT:LD) (K:Bool->Option β):Option β:=
 bif((aB:Int)==aQ) then(bif(ZP aA aP) then(bif((aD:Int)==aR) then(bd1 (Y1.t k aE aS) (λy17=>bif y17 then(r_slices_EqualFunc_impl_Value__impl_SameValue aG aT (λy67=>K y67)) else(K false))) else(K false)) else(K false)) else(K false)
noncomputable def Yb.w {β:Type} (r:LD->LD->Option (Bool)) (a0 a1:LD) (K:Bool->Option β):Option β:=bd1 (r a0 a1) K
noncomputable def YE.w {β:Type} (r:Int->BA->Int->LD->LD->Int->BA->Int->LD->LD->Option (Bool)) (aB:Int) (aA:BA) (aD:Int) (aE aG:LD) (aQ:Int) (aP:BA) (aR:Int) (aS aT:LD) (K:Bool->Option β):Option β:=bd1 (r aB aA aD aE aG aQ aP aR aS aT) K
noncomputable def Yb.all:Nat->(LD->LD->Option (Bool))×(Int->BA->Int->LD->LD->Int->BA->Int->LD->LD->Option (Bool))
 |0=>(λ_ _=>none,λ_ _ _ _ _ _ _ _ _ _=>none)
 |k+1=>(λr=>(λa0 a1=>Yb.body k (Yb.w r.1) (YE.w r.2) a0 a1 (λz0=>some z0),λaB aA aD aE aG aQ aP aR aS aT=>YE.body k (Yb.w r.1) (YE.w r.2) aB aA aD aE aG aQ aP aR aS aT (λz0=>some z0))) (Yb.all k)
noncomputable def Yb.t (k:Nat) (a0 a1:LD):Option (Bool):=(Yb.all k).1 a0 a1
noncomputable def YE.t (k:Nat) (aB:Int) (aA:BA) (aD:Int) (aE aG:LD) (aQ:Int) (aP:BA) (aR:Int) (aS aT:LD):Option (Bool):=(Yb.all k).2 aB aA aD aE aG aQ aP aR aS aT
noncomputable def Yb.f {β:Type} (k:Nat) (a0 a1:LD) (K:Bool->Option β):Option β:=Yb.w (Yb.t k) a0 a1 K
noncomputable def YE.f {β:Type} (k:Nat) (aB:Int) (aA:BA) (aD:Int) (aE aG:LD) (aQ:Int) (aP:BA) (aR:Int) (aS aT:LD) (K:Bool->Option β):Option β:=YE.w (YE.t k) aB aA aD aE aG aQ aP aR aS aT K
noncomputable def Yb.g {β:Type} (k:Nat) (a0 a1:LD) (K:Bool->Option β):Option β:=Yb.body k (Yb.f k) (YE.f k) a0 a1 K
theorem Yb.t_succ (k:Nat) (a0 a1:LD):Yb.t (k+1) a0 a1=Yb.g k a0 a1 (λz0=>some z0):=rfl
noncomputable def YE.g {β:Type} (k:Nat) (aB:Int) (aA:BA) (aD:Int) (aE aG:LD) (aQ:Int) (aP:BA) (aR:Int) (aS aT:LD) (K:Bool->Option β):Option β:=YE.body k (Yb.f k) (YE.f k) aB aA aD aE aG aQ aP aR aS aT K
theorem YE.t_succ (k:Nat) (aB:Int) (aA:BA) (aD:Int) (aE aG:LD) (aQ:Int) (aP:BA) (aR:Int) (aS aT:LD):YE.t (k+1) aB aA aD aE aG aQ aP aR aS aT=YE.g k aB aA aD aE aG aQ aP aR aS aT (λz0=>some z0):=rfl
noncomputable def Yb.e (k:Nat):Za0:=ent [.d .l,.d .l,.fn 156 []] [1] [.b] [4] false (Yb.t k)
noncomputable def YE.e (k:Nat):Za0:=ent [.agg [.n,.s,.n,.l,.l],.agg [.n,.s,.n,.l,.l]] [1] [.b] [4] false (YE.t k)
noncomputable def Yb.p (k:Nat):Pro:=⟨Tryz.prog,[(156,YE.e k)],hints [(4,kp [1,2,15,16,17])] false [],k⟩
theorem Yb.l0_eq (k:Nat) (a0 a1 aF aC:LD) (aH:Int):LpEq ((Yb.p k).lf Tryz.f182 4 [1,1,0,1,0] [.d (.sl a0),.d (.sl a1),.d (.fn 156 [])] [1] [.b]) (Yb.l0 k (Yb.f k) (YE.f k) aF aC aH (λz0=>some z0)) (λaI=>mkSt 32 [(1,.d false (.sl aF)),(2,.d false (.fn 156 [])),(15,.d false (.sl aC)),(16,.d true (.int .i64 aH)),(17,.d true (.int .i64 aI))] []):=lf_eq λL0 v=>by kernel_rfl
noncomputable def YE.p (k:Nat):Pro:=⟨Tryz.prog,[(181,Y1.e k),(182,Yb.e k)],hints [] false [],k⟩
theorem Yb.oks (k:Nat):Zas Tryz.prog 182 (Yb.e k)/\Zas Tryz.prog 156 (YE.e k):=by
 induction k with
 |zero=>exact⟨ent_zero Tryz.func182 Kr (λ_ _=>rfl),
  ent_zero Tryz.func156 Kr (λ_ _ _ _ _ _ _ _ _ _=>rfl)⟩
 |succ k ih=>exact⟨ent_ok (Yb.p k) mix tyok Tryz.func182 ih.2 Kr (λa0 a1=>Eq.trans Kr ((congrArg (Yb.m k (Yb.f k) (YE.f k) a0 a1 (λz0=>some z0)) (funext λaF=>funext λaC=>funext λaH=>funext λv=>Yb.l0_eq k a0 a1 aF aC aH k v)).trans (Yb.t_succ k a0 a1).symm)),
  ent_ok (YE.p k) mix tyok Tryz.func156 ⟨Y1.ok k,ih.1⟩ Kr (λaB aA aD aE aG aQ aP aR aS aT=>Ks)⟩
theorem YE.ok (k:Nat):Zas Tryz.prog 156 (YE.e k):=(Yb.oks k).2
noncomputable def Ycx.g {β:Type} (k:Nat) (aB:Int) (aA:LD) (aD:Int) (aE:BA) (aG:Int) (aJ aK:LD) (K:Bool->Option β):Option β:=
 bd1 (Y4.t k (aA.length:Int) 1 5) (λy1=>bif(!y1) then(K false) else(bd1 (YM.t k aA) (λy26=>bif y26 then(K false) else(bif((aB:Int)==1) then(bif((aB:Int)==1) then(bd1 (Yag.t k aD aE aG aJ aK) (λy43=>K y43)) else(bif((aB:Int)==2) then(YE.f k aD aE aG aJ aK 0 (⟨#[]⟩:BA) 0 ([]:LD) ([]:LD) (λy68=>K y68)) else(K false))) else(bif((aB:Int)==3) then(bd1 (Yag.t k aD aE aG aJ aK) (λy69=>K y69)) else(bif((aB:Int)==2) then(YE.f k aD aE aG aJ aK 0 (⟨#[]⟩:BA) 0 ([]:LD) ([]:LD) (λy70=>K y70)) else(K false)))))))
noncomputable def Ycx.t (k:Nat) (aB:Int) (aA:LD) (aD:Int) (aE:BA) (aG:Int) (aJ aK:LD):=Ycx.g k aB aA aD aE aG aJ aK (λz0=>some z0)
noncomputable def Ycx.e (k:Nat):Za0:=ent [.agg [.n,.l,.n,.s,.n,.l,.l]] [1] [.b] [4] false (Ycx.t k)
noncomputable def Ycx.p (k:Nat):Pro:=⟨Tryz.prog,[(30,Y4.e k),(177,YM.e k),(79,Yag.e k),(156,YE.e k)],hints [] false [],k⟩
theorem Ycx.ok (k:Nat):Zas Tryz.prog 154 (Ycx.e k):=ent_ok (Ycx.p k) mix tyok Tryz.func154 ⟨Y4.ok k,YM.ok k,Yag.ok k,YE.ok k⟩ Kr (λaB aA aD aE aG aJ aK=>Ks)
noncomputable def YbF.g {β:Type} (k:Nat) (aB:Int) (aA:LD) (aD:Int) (aE:BA) (aG:Int) (aJ aK:LD) (K:Bool->Option β):Option β:=
 bd1 (Ycx.t k aB aA aD aE aG aJ aK) (λy71=>K (!y71))
noncomputable def YbF.t (k:Nat) (aB:Int) (aA:LD) (aD:Int) (aE:BA) (aG:Int) (aJ aK:LD):=YbF.g k aB aA aD aE aG aJ aK (λz0=>some z0)
noncomputable def YbF.e (k:Nat):Za0:=ent [.agg [.n,.l,.n,.s,.n,.l,.l]] [1] [.b] [4] false (YbF.t k)
noncomputable def YbF.p (k:Nat):Pro:=⟨Tryz.prog,[(154,Ycx.e k)],hints [] false [],k⟩
theorem YbF.ok (k:Nat):Zas Tryz.prog 153 (YbF.e k):=ent_ok (YbF.p k) mix tyok Tryz.func153 (Ycx.ok k) Kr (λaB aA aD aE aG aJ aK=>Ks)
noncomputable def Yk.l0 {β:Type} (k:Nat) (aF:LD) (aC:Int) (K L0:Int->Option β) (v:Int):Option β:=
 match v with
 |aH=>bif(decide ((aH:Int)<aC)) then(atR aF aH [.n,.l,.n,.s,.n,.l,.l] λx76 x79 x82 x85 x88 x91 x94=>(bd1 (YbF.t k x76 x79 x82 x85 x88 x91 x94) (λy95=>bif y95 then(K aH) else(L0 (IntKind.wrap .i64 (aH+1)))))) else(K (-1))
noncomputable def Yk.m {β:Type} (k:Nat) (a0:LD) (K:Int->Option β) (F:(LD->Int->Int->Option β)):Option β:=
 F a0 (a0.length:Int) (0)
noncomputable def Yk.g {β:Type} (k:Nat) (a0:LD) (K:Int->Option β):Option β:=
 Za1 (Yk.l0 k a0 (a0.length:Int) K) k (0)
noncomputable def Yk.t (k:Nat) (a0:LD):=Yk.g k a0 (λz0=>some z0)
noncomputable def Yk.e (k:Nat):Za0:=ent [.d .l,.fn 153 []] [1] [.n] [3] false (Yk.t k)
noncomputable def Yk.p (k:Nat):Pro:=⟨Tryz.prog,[(153,YbF.e k)],hints [(2,kp [0,1,7,8])] false [],k⟩
theorem Yk.l0_eq (k:Nat) (a0 aF:LD) (aC:Int):LpEq ((Yk.p k).lf Tryz.f176 2 [1,0,1,0] [.d (.sl a0),.d (.fn 153 [])] [1] [.n]) (Yk.l0 k aF aC (λz0=>some z0)) (λaH=>mkSt 19 [(0,.d false (.sl aF)),(1,.d false (.fn 153 [])),(7,.d true (.int .i64 aC)),(8,.d true (.int .i64 aH))] []):=lf_eq λL0 v=>by kernel_rfl
theorem Yk.ok (k:Nat):Zas Tryz.prog 176 (Yk.e k):=ent_ok (Yk.p k) mix tyok Tryz.func176 (YbF.ok k) Kr (λa0=>Eq.trans Kr (congrArg (Yk.m k a0 (λz0=>some z0)) (funext λaF=>funext λaC=>funext λv=>Yk.l0_eq k a0 aF aC k v) :))
noncomputable def Yz.g {β:Type} (k:Nat) (a0:LD) (K:Bool->Option β):Option β:=
 bd1 (Yk.t k a0) (λy96=>K (decide ((y96:Int)>=0)))
noncomputable def Yz.t (k:Nat) (a0:LD):=Yz.g k a0 (λz0=>some z0)
noncomputable def Yz.e (k:Nat):Za0:=ent [.d .l,.fn 153 []] [1] [.b] [4] false (Yz.t k)
noncomputable def Yz.p (k:Nat):Pro:=⟨Tryz.prog,[(176,Yk.e k)],hints [] false [],k⟩
theorem Yz.ok (k:Nat):Zas Tryz.prog 152 (Yz.e k):=ent_ok (Yz.p k) mix tyok Tryz.func152 (Yk.ok k) Kr (λa0=>Ks)
noncomputable def YbG.g {β:Type} (k:Nat) (a0:LD) (K:Bool->Option β):Option β:=
 bif(decide (((a0.length:Int):Int)<=20)) then(bd1 (Yz.t k a0) (λy97=>K (!y97))) else(K false)
noncomputable def YbG.t (k:Nat) (a0:LD):=YbG.g k a0 (λz0=>some z0)
noncomputable def YbG.e (k:Nat):Za0:=ent [.d .l] [1] [.b] [4] false (YbG.t k)
noncomputable def YbG.p (k:Nat):Pro:=⟨Tryz.prog,[(152,Yz.e k)],hints [] false [],k⟩
theorem YbG.ok (k:Nat):Zas Tryz.prog 120 (YbG.e k):=ent_ok (YbG.p k) mix tyok Tryz.func120 (Yz.ok k) Kr (λa0=>Ks)
noncomputable def YaX.l0 {β:Type} (k:Nat) (aF aC:LD) (aH:Int) (K:Bool->Option β) (L0:Int->Option β) (v:Int):Option β:=
 match v with
 |aI=>bif(decide ((aI:Int)<aH)) then(atR aC aI [.s,.l] λx109 x112=>(bd1 (YP.t k x109) (λy113=>bif(!y113) then(K false) else(bd1 (YbG.t k x112) (λy114=>bif(!y114) then(K false) else(bif(decide ((aI:Int)>0)) then(atR aF (IntKind.wrap .i64 (aI-1)) [.s,.l] λx118 x121=>(bif(!(Za3 x118 x109)) then(K false) else(L0 (IntKind.wrap .i64 (aI+1))))) else(L0 (IntKind.wrap .i64 (aI+1))))))))) else(K (decide (((aF.length:Int):Int)<=12)))
noncomputable def YaX.m {β:Type} (k:Nat) (a0:LD) (K:Bool->Option β) (F:(LD->LD->Int->Int->Option β)):Option β:=
 F a0 a0 (a0.length:Int) (0)
noncomputable def YaX.g {β:Type} (k:Nat) (a0:LD) (K:Bool->Option β):Option β:=
 Za1 (YaX.l0 k a0 a0 (a0.length:Int) K) k (0)
noncomputable def YaX.t (k:Nat) (a0:LD):=YaX.g k a0 (λz0=>some z0)
noncomputable def YaX.e (k:Nat):Za0:=ent [.d .l] [1] [.b] [4] false (YaX.t k)
noncomputable def YaX.p (k:Nat):Pro:=⟨Tryz.prog,[(65,YP.e k),(120,YbG.e k)],hints [(2,kp [0,5,6,7])] false [],k⟩
theorem YaX.l0_eq (k:Nat) (a0 aF aC:LD) (aH:Int):LpEq ((YaX.p k).lf Tryz.f104 2 [1,0,1,0] [.d (.sl a0)] [1] [.b]) (YaX.l0 k aF aC aH (λz0=>some z0)) (λaI=>mkSt 41 [(0,.d false (.sl aF)),(5,.d false (.sl aC)),(6,.d true (.int .i64 aH)),(7,.d true (.int .i64 aI))] []):=lf_eq λL0 v=>by kernel_rfl
theorem YaX.ok (k:Nat):Zas Tryz.prog 104 (YaX.e k):=ent_ok (YaX.p k) mix tyok Tryz.func104 ⟨YP.ok k,YbG.ok k⟩ Kr (λa0=>Eq.trans Kr (congrArg (YaX.m k a0 (λz0=>some z0)) (funext λaF=>funext λaC=>funext λaH=>funext λv=>YaX.l0_eq k a0 aF aC aH k v) :))
noncomputable def YaF.g {β:Type} (k:Nat) (a0:LD) (K:LC->Option β):Option β:=
 let J0:=(Z0 (ZcV 1 a0) (Z0 (([]:LC).length+(a0.map (·.map C.d)).length<=Zx) (K (([]:LC)++(a0.map (·.map C.d))))));nilSl a0 (both (K ([]:LC)) J0) J0
noncomputable def YaF.t (k:Nat) (a0:LD):=YaF.g k a0 (λz0=>some z0)
noncomputable def YaF.e (k:Nat):Za0:=ent [.d .l] [1] [.o] [25] false (YaF.t k)
noncomputable def YaF.p (k:Nat):Pro:=⟨Tryz.prog,[],hints [] false [],k⟩
theorem YaF.ok (k:Nat):Zas Tryz.prog 119 (YaF.e k):=ent_ok (YaF.p k) mix tyok Tryz.func119 trivial Kr (λa0=>Ks)
noncomputable def Yr.l0 {β:Type} (k:Nat) (r_impl_copyValue:Int->BA->Int->LD->LD->(Int->BA->Int->LC->LC->Option β)->Option β) (aF:LD) (aC aI:Int) (aL:BA) (aM:Int) (aN:LD) (aO:Int) (aU:BA) (aV:Int) (aZ:LC) (K:Int->BA->Int->LC->LC->Option β) (L0:(Int×LC)->Option β) (v:Int×LC):Option β:=
 match v with
 |(aH,aW)=>bif(decide ((aH:Int)<aC)) then(atR aF aH [.n,.s,.n,.l,.l] λx26 x29 x32 x35 x38=>(r_impl_copyValue x26 x29 x32 x35 x38 (λy39 y40 y41 y42 y43=>Z0 (aW.length+([[.d (.int .i64 y39),.d (.str y40),.d (.int .i64 y41),.own y42,.own y43]]:LC).length<=Zx) (L0 (IntKind.wrap .i64 (aH+1),aW++([[.d (.int .i64 y39),.d (.str y40),.d (.int .i64 y41),.own y42,.own y43]]:LC)))))) else(K aI aL aM aZ aW)
noncomputable def Yr.m {β:Type} (k:Nat) (r_impl_copyValue:Int->BA->Int->LD->LD->(Int->BA->Int->LC->LC->Option β)->Option β) (aB:Int) (aA:BA) (aD:Int) (aE aG:LD) (K:Int->BA->Int->LC->LC->Option β) (F:(LD->Int->Int->BA->Int->LD->Int->BA->Int->LC->(Int×LC)->Option β)):Option β:=
 bd1 (YaF.t k aE) (λy1=>F aG (aG.length:Int) aB aA aD aG 0 (⟨#[]⟩:BA) 0 y1 (0,([]:LC)))
noncomputable def Yr.body {β:Type} (k:Nat) (r_impl_copyValue:Int->BA->Int->LD->LD->(Int->BA->Int->LC->LC->Option β)->Option β) (aB:Int) (aA:BA) (aD:Int) (aE aG:LD) (K:Int->BA->Int->LC->LC->Option β):Option β:=
 bd1 (YaF.t k aE) (λy1=>Za1 (Yr.l0 k r_impl_copyValue aG (aG.length:Int) aB aA aD aG 0 (⟨#[]⟩:BA) 0 y1 K) k (0,([]:LC)))
noncomputable def Yr.w {β:Type} (r:Int->BA->Int->LD->LD->Option (Int×BA×Int×LC×LC)) (aB:Int) (aA:BA) (aD:Int) (aE aG:LD) (K:Int->BA->Int->LC->LC->Option β):Option β:=bd5 (r aB aA aD aE aG) K
noncomputable def Yr.all:Nat->(Int->BA->Int->LD->LD->Option (Int×BA×Int×LC×LC))
 |0=>(λ_ _ _ _ _=>none)
 |k+1=>(λr=>(λaB aA aD aE aG=>Yr.body k (Yr.w r) aB aA aD aE aG (λz0 z1 z2 z3 z4=>some (z0,z1,z2,z3,z4)))) (Yr.all k)
noncomputable def Yr.t (k:Nat) (aB:Int) (aA:BA) (aD:Int) (aE aG:LD):Option (Int×BA×Int×LC×LC):=(Yr.all k) aB aA aD aE aG
noncomputable def Yr.f {β:Type} (k:Nat) (aB:Int) (aA:BA) (aD:Int) (aE aG:LD) (K:Int->BA->Int->LC->LC->Option β):Option β:=Yr.w (Yr.t k) aB aA aD aE aG K
noncomputable def Yr.g {β:Type} (k:Nat) (aB:Int) (aA:BA) (aD:Int) (aE aG:LD) (K:Int->BA->Int->LC->LC->Option β):Option β:=Yr.body k (Yr.f k) aB aA aD aE aG K
theorem Yr.t_succ (k:Nat) (aB:Int) (aA:BA) (aD:Int) (aE aG:LD):Yr.t (k+1) aB aA aD aE aG=Yr.g k aB aA aD aE aG (λz0 z1 z2 z3 z4=>some (z0,z1,z2,z3,z4)):=rfl
noncomputable def Yr.e (k:Nat):Za0:=ent [.agg [.n,.s,.n,.l,.l]] [5] [.n,.s,.n,.o,.o] [64] false (Yr.t k)
noncomputable def Yr.p (k:Nat):Pro:=⟨Tryz.prog,[(119,YaF.e k),(82,Yr.e k)],hints [(4,kp [1,2,3,12,13,14])] false [],k⟩
theorem Yr.l0_eq (k:Nat) (aB:Int) (aA:BA) (aD:Int) (aE aG aF:LD) (aC aI:Int) (aL:BA) (aM:Int) (aN:LD) (aO:Int) (aU:BA) (aV:Int) (aZ:LC):LpEq ((Yr.p k).lf Tryz.f82 4 [1,1,1,0,1,0] [.agg [.int .i64 aB,.str aA,.int .i64 aD,.sl aE,.sl aG]] [5] [.n,.s,.n,.o,.o]) (Yr.l0 k (Yr.f k) aF aC aI aL aM aN aO aU aV aZ (λz0 z1 z2 z3 z4=>some (z0,z1,z2,z3,z4))) (λ(aH,aW)=>mkSt 27 [(1,.bp 0 0),(2,.bp 1 0),(3,.row 2),(12,.d false (.sl aF)),(13,.d true (.int .i64 aC)),(14,.d true (.int .i64 aH))] [.box none 64 [.d false (.int .i64 aI),.d false (.str aL),.d false (.int .i64 aM),.row 3,.d false (.sl aN)],.box none 64 [.d true (.int .i64 aO),.d true (.str aU),.d true (.int .i64 aV),.nil,.nil],.row none true 62 aW,.row none true 25 aZ]):=lf_eq λL0 v=>by obtain⟨aH,aW⟩:=v;kernel_rfl
theorem Yr.oks (k:Nat):Zas Tryz.prog 82 (Yr.e k):=by
 induction k with
 |zero=>exact ent_zero Tryz.func82 Kr (λ_ _ _ _ _=>rfl)
 |succ k ih=>exact ent_ok (Yr.p k) mix tyok Tryz.func82 ⟨YaF.ok k,ih⟩ Kr (λaB aA aD aE aG=>Eq.trans Kr ((congrArg (Yr.m k (Yr.f k) aB aA aD aE aG (λz0 z1 z2 z3 z4=>some (z0,z1,z2,z3,z4))) (funext λaF=>funext λaC=>funext λaI=>funext λaL=>funext λaM=>funext λaN=>funext λaO=>funext λaU=>funext λaV=>funext λaZ=>funext λv=>Yr.l0_eq k aB aA aD aE aG aF aC aI aL aM aN aO aU aV aZ k v)).trans (Yr.t_succ k aB aA aD aE aG).symm))
theorem Yr.ok (k:Nat):Zas Tryz.prog 82 (Yr.e k):=(Yr.oks k)
noncomputable def YK.l0 {β:Type} (k:Nat) (aF:LD) (aC:BA) (aH:Int) (K L0:Int->Option β) (v:Int):Option β:=
 match v with
 |aI=>bif(decide ((aI:Int)<aH)) then(atR aF aI [.s] λx8=>(bif(ZP aC x8) then(K aI) else(L0 (IntKind.wrap .i64 (aI+1))))) else(K (-1))
noncomputable def YK.m {β:Type} (k:Nat) (a0:LD) (a1:BA) (K:Int->Option β) (F:(LD->BA->Int->Int->Option β)):Option β:=
 F a0 a1 (a0.length:Int) (0)
noncomputable def YK.g {β:Type} (k:Nat) (a0:LD) (a1:BA) (K:Int->Option β):Option β:=
 Za1 (YK.l0 k a0 a1 (a0.length:Int) K) k (0)
noncomputable def YK.t (k:Nat) (a0:LD) (a1:BA):=YK.g k a0 a1 (λz0=>some z0)
noncomputable def YK.e (k:Nat):Za0:=ent [.d .l,.d .s] [1] [.n] [3] false (YK.t k)
noncomputable def YK.p (k:Nat):Pro:=⟨Tryz.prog,[],hints [(2,kp [0,1,7,8])] false [],k⟩
theorem YK.l0_eq (k:Nat) (a0:LD) (a1:BA) (aF:LD) (aC:BA) (aH:Int):LpEq ((YK.p k).lf Tryz.f108 2 [1,0,1,0] [.d (.sl a0),.d (.str a1)] [1] [.n]) (YK.l0 k aF aC aH (λz0=>some z0)) (λaI=>mkSt 19 [(0,.d false (.sl aF)),(1,.d false (.str aC)),(7,.d true (.int .i64 aH)),(8,.d true (.int .i64 aI))] []):=lf_eq λL0 v=>by kernel_rfl
theorem YK.ok (k:Nat):Zas Tryz.prog 108 (YK.e k):=ent_ok (YK.p k) mix tyok Tryz.func108 trivial Kr (λa0 a1=>Eq.trans Kr (congrArg (YK.m k a0 a1 (λz0=>some z0)) (funext λaF=>funext λaC=>funext λaH=>funext λv=>YK.l0_eq k a0 a1 aF aC aH k v) :))
noncomputable def Yb8.g {β:Type} (k:Nat) (aB:Int) (aA:BA) (aD:Int) (aE aG:LD) (a1:BA) (K:Int->Option β):Option β:=
 bif((aB:Int)==5) then(bd1 (YK.t k aE a1) (λy9=>K y9)) else(bif((aB:Int)==4) then(bd2 (Ybt.t k a1) (λy10 y11=>bif y11 then(bif(decide ((y10:Int)<(aG.length:Int))) then(K y10) else(K (-1))) else(K (-1)))) else(K (-1)))
noncomputable def Yb8.t (k:Nat) (aB:Int) (aA:BA) (aD:Int) (aE aG:LD) (a1:BA):=Yb8.g k aB aA aD aE aG a1 (λz0=>some z0)
noncomputable def Yb8.e (k:Nat):Za0:=ent [.agg [.n,.s,.n,.l,.l],.d .s] [1] [.n] [3] false (Yb8.t k)
noncomputable def Yb8.p (k:Nat):Pro:=⟨Tryz.prog,[(108,YK.e k),(189,Ybt.e k)],hints [] false [],k⟩
theorem Yb8.ok (k:Nat):Zas Tryz.prog 180 (Yb8.e k):=ent_ok (Yb8.p k) mix tyok Tryz.func180 ⟨YK.ok k,Ybt.ok k⟩ Kr (λaB aA aD aE aG a1=>Ks)
noncomputable def Ybo.l0 {β:Type} (k:Nat) (aF:LD) (aC aU:Int) (aV:BA) (aW:Int) (K:Int->BA->Int->LC->LC->Bool->Option β) (L0:(Int×Int×BA×Int×LD×LD)->Option β) (v:Int×Int×BA×Int×LD×LD):Option β:=
 match v with
 |(aH,aI,aL,aM,aN,aO)=>bif(decide ((aH:Int)<aC)) then(atR aF aH [.s] λx37=>(bd1 (Yb8.t k aI aL aM aN aO x37) (λy38=>bif(decide ((y38:Int)<0)) then(K 0 (⟨#[]⟩:BA) 0 ([]:LC) ([]:LC) false) else(atR aO y38 [.n,.s,.n,.l,.l] λx42 x45 x48 x51 x54=>(L0 (IntKind.wrap .i64 (aH+1),x42,x45,x48,x51,x54)))))) else(Yr.f k aI aL aM aN aO (λy55 y56 y57 y58 y59=>K y55 y56 y57 y58 y59 true))
noncomputable def Ybo.m {β:Type} (k:Nat) (aB:Int) (aA:BA) (aD:Int) (aE aG a1:LD) (K:Int->BA->Int->LC->LC->Bool->Option β) (F:(LD->Int->Int->BA->Int->(Int×Int×BA×Int×LD×LD)->Option β)):Option β:=
 bd1 (Yag.t k aB aA aD aE aG) (λy1=>bif(!y1) then(K 0 (⟨#[]⟩:BA) 0 ([]:LC) ([]:LC) false) else(F a1 (a1.length:Int) 0 (⟨#[]⟩:BA) 0 (0,aB,aA,aD,aE,aG)))
noncomputable def Ybo.g {β:Type} (k:Nat) (aB:Int) (aA:BA) (aD:Int) (aE aG a1:LD) (K:Int->BA->Int->LC->LC->Bool->Option β):Option β:=
 bd1 (Yag.t k aB aA aD aE aG) (λy1=>bif(!y1) then(K 0 (⟨#[]⟩:BA) 0 ([]:LC) ([]:LC) false) else(Za1 (Ybo.l0 k a1 (a1.length:Int) 0 (⟨#[]⟩:BA) 0 K) k (0,aB,aA,aD,aE,aG)))
noncomputable def Ybo.t (k:Nat) (aB:Int) (aA:BA) (aD:Int) (aE aG a1:LD):=Ybo.g k aB aA aD aE aG a1 (λz0 z1 z2 z3 z4 z5=>some (z0,z1,z2,z3,z4,z5))
noncomputable def Ybo.e (k:Nat):Za0:=ent [.agg [.n,.s,.n,.l,.l],.d .l] [5,1] [.n,.s,.n,.o,.o,.b] [64,4] false (Ybo.t k)
noncomputable def Ybo.p (k:Nat):Pro:=⟨Tryz.prog,[(79,Yag.e k),(180,Yb8.e k),(82,Yr.e k)],hints [(4,kp [2,4,13,14,15])] false [],k⟩
theorem Ybo.l0_eq (k:Nat) (aB:Int) (aA:BA) (aD:Int) (aE aG a1 aF:LD) (aC aU:Int) (aV:BA) (aW:Int):LpEq ((Ybo.p k).lf Tryz.f155 4 [1,1,0,1,0] [.agg [.int .i64 aB,.str aA,.int .i64 aD,.sl aE,.sl aG],.d (.sl a1)] [5,1] [.n,.s,.n,.o,.o,.b]) (Ybo.l0 k aF aC aU aV aW (λz0 z1 z2 z3 z4 z5=>some (z0,z1,z2,z3,z4,z5))) (λ(aH,aI,aL,aM,aN,aO)=>mkSt 33 [(2,.bp 0 0),(4,.bp 1 0),(13,.d false (.sl aF)),(14,.d true (.int .i64 aC)),(15,.d true (.int .i64 aH))] [.box none 64 [.d false (.int .i64 aI),.d false (.str aL),.d false (.int .i64 aM),.d false (.sl aN),.d false (.sl aO)],.box none 64 [.d true (.int .i64 aU),.d true (.str aV),.d true (.int .i64 aW),.nil,.nil]]):=lf_eq λL0 v=>by obtain⟨aH,aI,aL,aM,aN,aO⟩:=v;kernel_rfl
theorem Ybo.ok (k:Nat):Zas Tryz.prog 155 (Ybo.e k):=ent_ok (Ybo.p k) mix tyok Tryz.func155 ⟨Yag.ok k,Yb8.ok k,Yr.ok k⟩ Kr (λaB aA aD aE aG a1=>Eq.trans Kr (congrArg (Ybo.m k aB aA aD aE aG a1 (λz0 z1 z2 z3 z4 z5=>some (z0,z1,z2,z3,z4,z5))) (funext λaF=>funext λaC=>funext λaU=>funext λaV=>funext λaW=>funext λv=>Ybo.l0_eq k aB aA aD aE aG a1 aF aC aU aV aW k v) :))
noncomputable def Ybh.g {β:Type} (k:Nat) (a0:BA) (K:Bool->Option β):Option β:=
 K (!(ZP a0 a0))
noncomputable def Ybh.t (k:Nat) (a0:BA):=Ybh.g k a0 (λz0=>some z0)
noncomputable def Ybh.e (k:Nat):Za0:=ent [.d .s] [1] [.b] [4] false (Ybh.t k)
noncomputable def Ybh.p (k:Nat):Pro:=⟨Tryz.prog,[],hints [] false [],k⟩
theorem Ybh.ok (k:Nat):Zas Tryz.prog 202 (Ybh.e k):=ent_ok (Ybh.p k) mix tyok Tryz.func202 trivial Kr (λa0=>Ks)
noncomputable def Ybr.g {β:Type} (k:Nat) (a0 a1:BA) (K:Bool->Option β):Option β:=
 bd1 (Ybh.t k a0) (λy1=>bif y1 then(bd1 (Ybh.t k a1) (λy2=>bif(!y2) then(K true) else(K (Za3 a0 a1)))) else(K (Za3 a0 a1)))
noncomputable def Ybr.t (k:Nat) (a0 a1:BA):=Ybr.g k a0 a1 (λz0=>some z0)
noncomputable def Ybr.e (k:Nat):Za0:=ent [.d .s,.d .s] [1] [.b] [4] false (Ybr.t k)
noncomputable def Ybr.p (k:Nat):Pro:=⟨Tryz.prog,[(202,Ybh.e k)],hints [] false [],k⟩
theorem Ybr.ok (k:Nat):Zas Tryz.prog 196 (Ybr.e k):=ent_ok (Ybr.p k) mix tyok Tryz.func196 (Ybh.ok k) Kr (λa0 a1=>Ks)
noncomputable def YaE.g {β:Type} (k:Nat) (a0:BA) (K:Bool->Option β):Option β:=
 K (!(ZP a0 a0))
noncomputable def YaE.t (k:Nat) (a0:BA):=YaE.g k a0 (λz0=>some z0)
noncomputable def YaE.e (k:Nat):Za0:=ent [.d .s] [1] [.b] [4] false (YaE.t k)
noncomputable def YaE.p (k:Nat):Pro:=⟨Tryz.prog,[],hints [] false [],k⟩
theorem YaE.ok (k:Nat):Zas Tryz.prog 197 (YaE.e k):=ent_ok (YaE.p k) mix tyok Tryz.func197 trivial Kr (λa0=>Ks)
noncomputable def YB.l0 {β:Type} (k:Nat) (aF:LD) (aC:BA) (aH:Int) (K:Int->Bool->Option β) (L0:(Int×Int)->Option β) (v:Int×Int):Option β:=
 match v with
 |(aI,aL)=>bif(decide ((aI:Int)<aL)) then(let J1:=(Int.fdiv (IntKind.wrap .u64 (IntKind.wrap .i64 (aI+aL))) (2^(min (1:Int).toNat 64)));let J0:=(IntKind.wrap .i64 J1);Z0 ((0:Int)<=1) (Zam aF J0 λc16=>rdQ [.s] c16 λx19=>(bd1 (Ybr.t k x19 aC) (λy20=>bif y20 then(L0 (IntKind.wrap .i64 (J0+1),aL)) else(L0 (aI,IntKind.wrap .i64 J1)))))) else(bif(decide ((aI:Int)<aH)) then(atR aF aI [.s] λx24=>(bif(ZP x24 aC) then(K aI true) else(atR aF aI [.s] λx28=>(bd1 (YaE.t k x28) (λy29=>bif y29 then(bd1 (YaE.t k aC) (λy30=>K aI y30)) else(K aI false)))))) else(K aI false))
noncomputable def YB.m {β:Type} (k:Nat) (a0:LD) (a1:BA) (K:Int->Bool->Option β) (F:(LD->BA->Int->(Int×Int)->Option β)):Option β:=
 F a0 a1 (a0.length:Int) (0,(a0.length:Int))
noncomputable def YB.g {β:Type} (k:Nat) (a0:LD) (a1:BA) (K:Int->Bool->Option β):Option β:=
 Za1 (YB.l0 k a0 a1 (a0.length:Int) K) k (0,(a0.length:Int))
noncomputable def YB.t (k:Nat) (a0:LD) (a1:BA):=YB.g k a0 a1 (λz0 z1=>some (z0,z1))
noncomputable def YB.e (k:Nat):Za0:=ent [.d .l,.d .s] [1,1] [.n,.b] [3,4] false (YB.t k)
noncomputable def YB.p (k:Nat):Pro:=⟨Tryz.prog,[(196,Ybr.e k),(197,YaE.e k)],hints [(3,kp [0,1,6,7,8])] false [],k⟩
theorem YB.l0_eq (k:Nat) (a0:LD) (a1:BA) (aF:LD) (aC:BA) (aH:Int):LpEq ((YB.p k).lf Tryz.f190 3 [1,1,1,0,0] [.d (.sl a0),.d (.str a1)] [1,1] [.n,.b]) (YB.l0 k aF aC aH (λz0 z1=>some (z0,z1))) (λ(aI,aL)=>mkSt 54 [(0,.d false (.sl aF)),(1,.d false (.str aC)),(6,.d true (.int .i64 aH)),(7,.d true (.int .i64 aI)),(8,.d true (.int .i64 aL))] []):=lf_eq λL0 v=>by obtain⟨aI,aL⟩:=v;kernel_rfl
theorem YB.ok (k:Nat):Zas Tryz.prog 190 (YB.e k):=ent_ok (YB.p k) mix tyok Tryz.func190 ⟨Ybr.ok k,YaE.ok k⟩ Kr (λa0 a1=>Eq.trans Kr (congrArg (YB.m k a0 a1 (λz0 z1=>some (z0,z1))) (funext λaF=>funext λaC=>funext λaH=>funext λv=>YB.l0_eq k a0 a1 aF aC aH k v) :))
noncomputable def YT.t (k:Nat) (xs:LC) (i:Int) (ys:LC):Option LC:=Z0 (0<=i/\i<=(xs.length:Int)/\xs.length+ys.length<=Zx) (some (xs.take i.toNat++ys++xs.drop i.toNat))
noncomputable def YT.f {β:Type} (k:Nat) (xs:LC) (i:Int) (ys:LC) (K:LC->Option β):Option β:=
 match YT.t k xs i ys with
 |some z0=>K z0
 |none=>none
noncomputable def YT.run (k:Nat):{β:Type}->List A->(LC->Option β)->Option β:=λ{β} l K=>
 match l with
 |[.own false [.own xs],.d (.int .i64 i),.own false [.own ys]]=>YT.f k xs i ys K
 |_=>none
noncomputable def YT.e (k:Nat):Za0:={ modes:=[(.own,0)],rts:=[25],al:=false,run:=λ_ _=>none,lib:=some ⟨[true,false,true],25,YT.run k⟩ }
theorem YT.raw0 (a:Option Addr) (n cap i:Nat) (a':Option Addr) (cap':Nat) (w:World) (hi:i<=n) (hn:n<=cap):Calls Tryz.prog 191 #[.slice a n cap,.int .i64 i,.slice a' 0 cap'] w λex w'=>ex=.returned (.slice a n cap)/\w'=w:=by
 go_enter Tryz.func191,Tryz.ntmps191
 go_wp2
 all_goals (go_ret;exact⟨rfl,rfl⟩)
theorem YT.rawA (a:Option Addr) (n cap m vb vcap:Nat) (w W':World) (R:Value) (hm:0<m) (hn:n<=cap) (hrun:∀ ty,(Builtin.append_ #[25,25] ty #[.slice a n cap,.slice (some ⟨vb,0,none⟩) m vcap]).run Tryz.prog w=.ok R W'):
  Calls Tryz.prog 191 #[.slice a n cap,.int .i64 n,.slice (some ⟨vb,0,none⟩) m vcap] w λex w'=>ex=.returned R/\w'=W':=by
 have mixed:Tryz.prog.follows .mixedOrders=true:=by kernel_rfl
 have hz1:¬ ((m:Int)=0):=by omega
 go_enter Tryz.func191,Tryz.ntmps191
 cases a with
 |none=>
  go_wp2_with (at_builtin;refine Lib.wpList_append_run _ rfl _ _ _ _ rfl _ _ rfl rfl _ _ (hrun _) ?_)
  all_goals (go_ret;exact⟨rfl,rfl⟩)
 |some a=>
  obtain⟨ab,ao,asp⟩:=a
  go_wp2_with (at_builtin;refine Lib.wpList_append_run _ rfl _ _ _ _ rfl _ _ rfl rfl _ _ (hrun _) ?_)
  all_goals (go_ret;exact⟨rfl,rfl⟩)
theorem YT.rawB (b n cap i vb m vcap:Nat) (cd vs:List Value) (w:World) (hi:i<n) (hm:0<m) (hroom:n+m<=cap) (hnm:n+m<=9223372036854775807)
  (hov:∀ lb cb,(callFunc 198 #[.slice (some ⟨vb,0,none⟩) m vcap,.slice (some ⟨b,(i+m),none⟩) lb cb]).run Tryz.prog w=.ok (.value (.bool false)) w)
  (hcp1:∀ ty dc sc,(Builtin.copy_ #[25,25] ty #[.slice (some ⟨b,(i+m),none⟩) (n+m-(i+m)) dc,.slice (some ⟨b,i,none⟩) (n+m-i) sc]).run Tryz.prog w.drew=.ok (goInt ((n-i:Nat):Int)) (w.drew.setCells b ((i+m)) cd))
  (hcp2:∀ ty dc,(Builtin.copy_ #[25,25] ty #[.slice (some ⟨b,i,none⟩) (n+m-i) dc,.slice (some ⟨vb,0,none⟩) m vcap]).run Tryz.prog (w.drew.setCells b ((i+m)) cd)=.ok (goInt m) ((w.drew.setCells b ((i+m)) cd).setCells b (i) vs)):
  Calls Tryz.prog 191 #[.slice (some ⟨b,0,none⟩) n cap,.int .i64 i,.slice (some ⟨vb,0,none⟩) m vcap] w λex w'=>ex=.returned (.slice (some ⟨b,0,none⟩) (n+m) cap)/\w'=(w.drew.setCells b ((i+m)) cd).setCells b (i) vs:=by
 have mixed:Tryz.prog.follows .mixedOrders=true:=by kernel_rfl
 have hz1:¬ ((m:Int)=0):=by omega
 have hz2:¬ ((i:Int)=(n:Int)):=by omega
 have hw1:IntKind.i64.wrap ((i:Int)+(m:Int))=(i:Int)+(m:Int):=by rw[IntKind.wrap_i64];omega
 have hb1:(0:Int)<=(i:Int)+(m:Int):=by omega
 have hin:i<=n:=by omega
 have htn:((i:Int)+(m:Int)).toNat=i+m:=by omega
 have hb2:¬ (cap=i+m):=by omega
 have hb3:(i:Int)<=(n:Int)+(m:Int):=by omega
 have hb4:¬ (cap=i):=by omega
 obtain⟨W1,hW1⟩:∃ W1,Hold (W1=w.drew.setCells b ((i+m)) cd):=⟨_,⟨rfl⟩⟩
 rw[<- hW1.out] at hcp1 hcp2⊢
 go_enter Tryz.func191,Tryz.ntmps191
 go_wp2_with (simp only[hov])
 go_region_law_o (refine step_copy_run rfl _ _ 25 25 rfl _ _ (by simp[Act.eval,Act.put]) (by simp[Act.eval,Act.put]) (hcp1 _ _ _) ?_)
 go_wp2_with (at_builtin;refine wpList_copy_run _ rfl _ _ 25 25 rfl _ _ rfl rfl (hcp2 _ _) ?_)
 go_ret
 exact⟨rfl,rfl⟩
theorem YT.rawC (b n cap i vb m vcap G N:Nat) (cd vs:List Value) (w W1:World) (hi:i<n) (hm:0<m) (hn:n<=cap) (hroom:cap<n+m) (hG:n+m<=G) (hG63:G<=9223372036854775807)
  (hrz:∀ ty,(Builtin.append_ #[25,3] ty #[.slice (some ⟨b,0,none⟩) i cap,.int .i64 ((n:Int)+(m:Int)-(i:Int))]).run Tryz.prog w=.ok (.slice (some ⟨N,0,none⟩) (n+m) G) W1)
  (hcpA:∀ ty dc,(Builtin.copy_ #[25,25] ty #[.slice (some ⟨N,i,none⟩) (n+m-i) dc,.slice (some ⟨vb,0,none⟩) m vcap]).run Tryz.prog W1=.ok (goInt m) (W1.setCells N (i) vs))
  (hcpB:∀ ty dc sc,(Builtin.copy_ #[25,25] ty #[.slice (some ⟨N,(i+m),none⟩) (n+m-(i+m)) dc,.slice (some ⟨b,i,none⟩) (n-i) sc]).run Tryz.prog (W1.setCells N (i) vs).drew=.ok (goInt ((n-i:Nat):Int)) ((W1.setCells N (i) vs).drew.setCells N ((i+m)) cd)):
  Calls Tryz.prog 191 #[.slice (some ⟨b,0,none⟩) n cap,.int .i64 i,.slice (some ⟨vb,0,none⟩) m vcap] w λex w'=>ex=.returned (.slice (some ⟨N,0,none⟩) (n+m) G)/\w'=(W1.setCells N (i) vs).drew.setCells N ((i+m)) cd:=by
 have mixed:Tryz.prog.follows .mixedOrders=true:=by kernel_rfl
 have hz1:¬ ((m:Int)=0):=by omega
 have hz2:¬ ((i:Int)=(n:Int)):=by omega
 have hz3:(cap:Int)<(n:Int)+(m:Int):=by omega
 have hGi:¬ (G=i):=by omega
 have hGim:¬ (G=i+m):=by omega
 have hci:¬ (cap=i):=by omega
 have hw1:IntKind.i64.wrap ((i:Int)+(m:Int))=(i:Int)+(m:Int):=by rw[IntKind.wrap_i64];omega
 have hb1:(0:Int)<=(i:Int)+(m:Int):=by omega
 have hin:i<=n:=by omega
 have htn:((i:Int)+(m:Int)).toNat=i+m:=by omega
 have hb3:(i:Int)<=(n:Int):=by omega
 obtain⟨W2,hW2⟩:∃ W2,Hold (W2=W1.setCells N (i) vs):=⟨_,⟨rfl⟩⟩
 rw[<- hW2.out] at hcpA hcpB⊢
 go_enter Tryz.func191,Tryz.ntmps191
 go_wp2_with (first
  |(at_builtin;refine Lib.wpList_append_run _ rfl _ _ _ _ rfl _ _ rfl rfl _ _ (hrz _) ?_)
  |(at_builtin;refine wpList_copy_run _ rfl _ _ 25 25 rfl _ _ rfl rfl (hcpA _ _) ?_))
 go_region_law_o (refine step_copy_run rfl _ _ 25 25 rfl (.slice (some ⟨N,(i+m),none⟩) (n+m-(i+m)) (G-(i+m))) (.slice (some ⟨b,i,none⟩) (n-i) (cap-i)) (by simp[Act.eval,Act.put]) (by simp[Act.eval,Act.put]) (hcpB _ _ _) ?_)
 go_wp2
 go_ret
 exact⟨rfl,rfl⟩
theorem YT.raw:InsRaw Tryz.prog 191 1:=by
 obtain⟨i0,z,hi,hz,hzs⟩:=Zc8 (P:=Tryz.prog) (t:=9) Kr;have hsz:i0.size=1:=by
  have:Tryz.prog.cellsOf 9=1:=by kernel_rfl
  simpa[Program.cellsOf,hi] using this
 have hzc:z.cells.size=1:=by
  have h1:(ZaC Tryz.prog 9).length=1:=by kernel_rfl
  rw[<- h1];simpa using(Zb5 hzs).2.2.1.symm
 have hby:i0.bytes<=1000:=by
  have:(Tryz.prog.info? 9).map (·.bytes)=some 16:=by kernel_rfl
  rw[hi] at this;simp only[Option.map_some,Option.some.injEq] at this;rw[this];decide
 exact InsRoads.raw (o:=198) (S:=25) (E:=9) (T:=4) ⟨YT.raw0,YT.rawA,by simp only[Nat.mul_one];exact YT.rawB,by simp only[Nat.mul_one];exact YT.rawC⟩ Tryz.underlying25 Kr hi hz hsz De hzc hby (λx y w h=>by
  rw[run_callFunc_extern Tryz.func198 Kr Kr Kr (e:=Extern.SlicesOverlaps.overlaps #[25,25] #[4]) Kr,h];rfl)
theorem YT.ok (k:Nat):Zas Tryz.prog 191 (YT.e k):=insert_ok tyok (ct:=25) (K:=1) (run:=λ{β}=>YT.run k) Kr (enter_of Tryz.func191 Kr) YT.raw (λβ aa K r h=>by
 unfold YT.run at h;split at h
 ·unfold YT.f YT.t at h;split at h
  ·rename_i hz;obtain⟨hg,hz⟩:=ZB hz;injection hz with hz;subst hz;exact⟨_,_,_,rfl,hg,h⟩
  ·cases h
 ·cases h)
noncomputable def Yy.t (k:Nat) (xs:LC) (i:Int) (ys:LC):Option LC:=Z0 (0<=i/\i<=(xs.length:Int)/\xs.length+ys.length<=Zx) (some (xs.take i.toNat++ys++xs.drop i.toNat))
noncomputable def Yy.f {β:Type} (k:Nat) (xs:LC) (i:Int) (ys:LC) (K:LC->Option β):Option β:=
 match Yy.t k xs i ys with
 |some z0=>K z0
 |none=>none
noncomputable def Yy.run (k:Nat):{β:Type}->List A->(LC->Option β)->Option β:=λ{β} l K=>
 match l with
 |[.own false [.own xs],.d (.int .i64 i),.own false [.own ys]]=>Yy.f k xs i ys K
 |_=>none
noncomputable def Yy.e (k:Nat):Za0:={ modes:=[(.own,0)],rts:=[62],al:=false,run:=λ_ _=>none,lib:=some ⟨[true,false,true],62,Yy.run k⟩ }
theorem Yy.raw0 (a:Option Addr) (n cap i:Nat) (a':Option Addr) (cap':Nat) (w:World) (hi:i<=n) (hn:n<=cap):Calls Tryz.prog 192 #[.slice a n cap,.int .i64 i,.slice a' 0 cap'] w λex w'=>ex=.returned (.slice a n cap)/\w'=w:=by
 go_enter Tryz.func192,Tryz.ntmps192
 go_wp2
 all_goals (go_ret;exact⟨rfl,rfl⟩)
theorem Yy.rawA (a:Option Addr) (n cap m vb vcap:Nat) (w W':World) (R:Value) (hm:0<m) (hn:n<=cap) (hrun:∀ ty,(Builtin.append_ #[62,62] ty #[.slice a n cap,.slice (some ⟨vb,0,none⟩) m vcap]).run Tryz.prog w=.ok R W'):
  Calls Tryz.prog 192 #[.slice a n cap,.int .i64 n,.slice (some ⟨vb,0,none⟩) m vcap] w λex w'=>ex=.returned R/\w'=W':=by
 have mixed:Tryz.prog.follows .mixedOrders=true:=by kernel_rfl
 have hz1:¬ ((m:Int)=0):=by omega
 go_enter Tryz.func192,Tryz.ntmps192
 cases a with
 |none=>
  go_wp2_with (at_builtin;refine Lib.wpList_append_run _ rfl _ _ _ _ rfl _ _ rfl rfl _ _ (hrun _) ?_)
  all_goals (go_ret;exact⟨rfl,rfl⟩)
 |some a=>
  obtain⟨ab,ao,asp⟩:=a
  go_wp2_with (at_builtin;refine Lib.wpList_append_run _ rfl _ _ _ _ rfl _ _ rfl rfl _ _ (hrun _) ?_)
  all_goals (go_ret;exact⟨rfl,rfl⟩)
theorem Yy.rawB (b n cap i vb m vcap:Nat) (cd vs:List Value) (w:World) (hi:i<n) (hm:0<m) (hroom:n+m<=cap) (hnm:n+m<=9223372036854775807)
  (hov:∀ lb cb,(callFunc 200 #[.slice (some ⟨vb,0,none⟩) m vcap,.slice (some ⟨b,(i+m)*5,none⟩) lb cb]).run Tryz.prog w=.ok (.value (.bool false)) w)
  (hcp1:∀ ty dc sc,(Builtin.copy_ #[62,62] ty #[.slice (some ⟨b,(i+m)*5,none⟩) (n+m-(i+m)) dc,.slice (some ⟨b,i*5,none⟩) (n+m-i) sc]).run Tryz.prog w.drew=.ok (goInt ((n-i:Nat):Int)) (w.drew.setCells b ((i+m)*5) cd))
  (hcp2:∀ ty dc,(Builtin.copy_ #[62,62] ty #[.slice (some ⟨b,i*5,none⟩) (n+m-i) dc,.slice (some ⟨vb,0,none⟩) m vcap]).run Tryz.prog (w.drew.setCells b ((i+m)*5) cd)=.ok (goInt m) ((w.drew.setCells b ((i+m)*5) cd).setCells b (i*5) vs)):
  Calls Tryz.prog 192 #[.slice (some ⟨b,0,none⟩) n cap,.int .i64 i,.slice (some ⟨vb,0,none⟩) m vcap] w λex w'=>ex=.returned (.slice (some ⟨b,0,none⟩) (n+m) cap)/\w'=(w.drew.setCells b ((i+m)*5) cd).setCells b (i*5) vs:=by
 have mixed:Tryz.prog.follows .mixedOrders=true:=by kernel_rfl
 have hz1:¬ ((m:Int)=0):=by omega
 have hz2:¬ ((i:Int)=(n:Int)):=by omega
 have hw1:IntKind.i64.wrap ((i:Int)+(m:Int))=(i:Int)+(m:Int):=by rw[IntKind.wrap_i64];omega
 have hb1:(0:Int)<=(i:Int)+(m:Int):=by omega
 have hin:i<=n:=by omega
 have htn:((i:Int)+(m:Int)).toNat=i+m:=by omega
 have hb2:¬ (cap=i+m):=by omega
 have hb3:(i:Int)<=(n:Int)+(m:Int):=by omega
 have hb4:¬ (cap=i):=by omega
 obtain⟨W1,hW1⟩:∃ W1,Hold (W1=w.drew.setCells b ((i+m)*5) cd):=⟨_,⟨rfl⟩⟩
 rw[<- hW1.out] at hcp1 hcp2⊢
 go_enter Tryz.func192,Tryz.ntmps192
 go_wp2_with (simp only[hov])
 go_region_law_o (refine step_copy_run rfl _ _ 62 62 rfl _ _ (by simp[Act.eval,Act.put]) (by simp[Act.eval,Act.put]) (hcp1 _ _ _) ?_)
 go_wp2_with (at_builtin;refine wpList_copy_run _ rfl _ _ 62 62 rfl _ _ rfl rfl (hcp2 _ _) ?_)
 go_ret
 exact⟨rfl,rfl⟩
theorem Yy.rawC (b n cap i vb m vcap G N:Nat) (cd vs:List Value) (w W1:World) (hi:i<n) (hm:0<m) (hn:n<=cap) (hroom:cap<n+m) (hG:n+m<=G) (hG63:G<=9223372036854775807)
  (hrz:∀ ty,(Builtin.append_ #[62,3] ty #[.slice (some ⟨b,0,none⟩) i cap,.int .i64 ((n:Int)+(m:Int)-(i:Int))]).run Tryz.prog w=.ok (.slice (some ⟨N,0,none⟩) (n+m) G) W1)
  (hcpA:∀ ty dc,(Builtin.copy_ #[62,62] ty #[.slice (some ⟨N,i*5,none⟩) (n+m-i) dc,.slice (some ⟨vb,0,none⟩) m vcap]).run Tryz.prog W1=.ok (goInt m) (W1.setCells N (i*5) vs))
  (hcpB:∀ ty dc sc,(Builtin.copy_ #[62,62] ty #[.slice (some ⟨N,(i+m)*5,none⟩) (n+m-(i+m)) dc,.slice (some ⟨b,i*5,none⟩) (n-i) sc]).run Tryz.prog (W1.setCells N (i*5) vs).drew=.ok (goInt ((n-i:Nat):Int)) ((W1.setCells N (i*5) vs).drew.setCells N ((i+m)*5) cd)):
  Calls Tryz.prog 192 #[.slice (some ⟨b,0,none⟩) n cap,.int .i64 i,.slice (some ⟨vb,0,none⟩) m vcap] w λex w'=>ex=.returned (.slice (some ⟨N,0,none⟩) (n+m) G)/\w'=(W1.setCells N (i*5) vs).drew.setCells N ((i+m)*5) cd:=by
 have mixed:Tryz.prog.follows .mixedOrders=true:=by kernel_rfl
 have hz1:¬ ((m:Int)=0):=by omega
 have hz2:¬ ((i:Int)=(n:Int)):=by omega
 have hz3:(cap:Int)<(n:Int)+(m:Int):=by omega
 have hGi:¬ (G=i):=by omega
 have hGim:¬ (G=i+m):=by omega
 have hci:¬ (cap=i):=by omega
 have hw1:IntKind.i64.wrap ((i:Int)+(m:Int))=(i:Int)+(m:Int):=by rw[IntKind.wrap_i64];omega
 have hb1:(0:Int)<=(i:Int)+(m:Int):=by omega
 have hin:i<=n:=by omega
 have htn:((i:Int)+(m:Int)).toNat=i+m:=by omega
 have hb3:(i:Int)<=(n:Int):=by omega
 obtain⟨W2,hW2⟩:∃ W2,Hold (W2=W1.setCells N (i*5) vs):=⟨_,⟨rfl⟩⟩
 rw[<- hW2.out] at hcpA hcpB⊢
 go_enter Tryz.func192,Tryz.ntmps192
 go_wp2_with (first
  |(at_builtin;refine Lib.wpList_append_run _ rfl _ _ _ _ rfl _ _ rfl rfl _ _ (hrz _) ?_)
  |(at_builtin;refine wpList_copy_run _ rfl _ _ 62 62 rfl _ _ rfl rfl (hcpA _ _) ?_))
 go_region_law_o (refine step_copy_run rfl _ _ 62 62 rfl (.slice (some ⟨N,(i+m)*5,none⟩) (n+m-(i+m)) (G-(i+m))) (.slice (some ⟨b,i*5,none⟩) (n-i) (cap-i)) (by simp[Act.eval,Act.put]) (by simp[Act.eval,Act.put]) (hcpB _ _ _) ?_)
 go_wp2
 go_ret
 exact⟨rfl,rfl⟩
theorem Yy.raw:InsRaw Tryz.prog 192 5:=by
 obtain⟨i0,z,hi,hz,hzs⟩:=Zc8 (P:=Tryz.prog) (t:=64) Kr;have hsz:i0.size=5:=by
  have:Tryz.prog.cellsOf 64=5:=by kernel_rfl
  simpa[Program.cellsOf,hi] using this
 have hzc:z.cells.size=5:=by
  have h1:(ZaC Tryz.prog 64).length=5:=by kernel_rfl
  rw[<- h1];simpa using(Zb5 hzs).2.2.1.symm
 have hby:i0.bytes<=1000:=by
  have:(Tryz.prog.info? 64).map (·.bytes)=some 80:=by kernel_rfl
  rw[hi] at this;simp only[Option.map_some,Option.some.injEq] at this;rw[this];decide
 exact InsRoads.raw (o:=200) (S:=62) (E:=64) (T:=4) ⟨Yy.raw0,Yy.rawA,Yy.rawB,Yy.rawC⟩ Tryz.underlying62 Kr hi hz hsz De hzc hby (λx y w h=>by
  rw[run_callFunc_extern Tryz.func200 Kr Kr Kr (e:=Extern.SlicesOverlaps.overlaps #[62,62] #[4]) Kr,h];rfl)
theorem Yy.ok (k:Nat):Zas Tryz.prog 192 (Yy.e k):=insert_ok tyok (ct:=62) (K:=5) (run:=λ{β}=>Yy.run k) Kr (enter_of Tryz.func192 Kr) Yy.raw (λβ aa K r h=>by
 unfold Yy.run at h;split at h
 ·unfold Yy.f Yy.t at h;split at h
  ·rename_i hz;obtain⟨hg,hz⟩:=ZB hz;injection hz with hz;subst hz;exact⟨_,_,_,rfl,hg,h⟩
  ·cases h
 ·cases h)
noncomputable def Ycd.g {β:Type} (k:Nat) (aB:Int) (aA:BA) (aD:Int) (aE aG:LC) (a1:BA) (bG:Int) (bL:BA) (bH:Int) (bI bJ:LC) (K:Int->BA->Int->LC->LC->Bool->Option β):Option β:=
 bif((aB:Int)==5) then(bd2 (YB.t k (C.immRows aE) a1) (λy31 y32=>bd1 (YP.t k a1) (λy33=>bif(!y33) then(K aB aA aD aE aG false) else(bif y32 then(Z0 ((0:Int)<=y31/\y31<(aG.length:Int)) (Z0 (Int.toNat y31<aG.length) (K aB aA aD aE (aG.modify (Int.toNat y31) λc=>ZE c 0 [.d (.int .i64 bG),.d (.str bL),.d (.int .i64 bH),.own bI,.own bJ]) true))) else(YT.f k aE y31 ([[.d (.str a1)]]:LC) (λy34=>Yy.f k aG y31 ([[.d (.int .i64 bG),.d (.str bL),.d (.int .i64 bH),.own bI,.own bJ]]:LC) (λy35=>K aB aA aD y34 y35 true))))))) else(bif((aB:Int)==4) then(bd2 (Ybt.t k a1) (λy36 y37=>bif(!y37) then(K aB aA aD aE aG false) else(bif(decide ((y36:Int)>(aG.length:Int))) then(K aB aA aD aE aG false) else(bif((y36:Int)==(aG.length:Int)) then(Z0 (aG.length+([[.d (.int .i64 bG),.d (.str bL),.d (.int .i64 bH),.own bI,.own bJ]]:LC).length<=Zx) (K aB aA aD aE (aG++([[.d (.int .i64 bG),.d (.str bL),.d (.int .i64 bH),.own bI,.own bJ]]:LC)) true)) else(Z0 ((0:Int)<=y36/\y36<(aG.length:Int)) (Z0 (Int.toNat y36<aG.length) (K aB aA aD aE (aG.modify (Int.toNat y36) λc=>ZE c 0 [.d (.int .i64 bG),.d (.str bL),.d (.int .i64 bH),.own bI,.own bJ]) true))))))) else(K aB aA aD aE aG false))
noncomputable def Ycd.t (k:Nat) (aB:Int) (aA:BA) (aD:Int) (aE aG:LC) (a1:BA) (bG:Int) (bL:BA) (bH:Int) (bI bJ:LC):=Ycd.g k aB aA aD aE aG a1 bG bL bH bI bJ (λz0 z1 z2 z3 z4 z5=>some (z0,z1,z2,z3,z4,z5))
noncomputable def Ycd.e (k:Nat):Za0:=ent [.own true 64 [.n,.s,.n,.o,.o],.d .s,.own true 64 [.n,.s,.n,.o,.o]] [5,1] [.n,.s,.n,.o,.o,.b] [64,4] false (Ycd.t k) true true
noncomputable def Ycd.p (k:Nat):Pro:=⟨Tryz.prog,[(190,YB.e k),(65,YP.e k),(191,YT.e k),(192,Yy.e k),(189,Ybt.e k)],hints [] false [] true true,k⟩
theorem Ycd.ok (k:Nat):Zas Tryz.prog 183 (Ycd.e k):=ent_ok (Ycd.p k) mix tyok Tryz.func183 ⟨YB.ok k,YP.ok k,YT.ok k,Yy.ok k,Ybt.ok k⟩ Kr (λaB aA aD aE aG a1 bG bL bH bI bJ=>Ks)
noncomputable def Y0.t (k:Nat) (xs:LC) (i j:Int):Option LC:=Z0 (0<=i/\i<=j/\j<=(xs.length:Int)) (some (xs.take i.toNat++xs.drop j.toNat))
noncomputable def Y0.f {β:Type} (k:Nat) (xs:LC) (i j:Int) (K:LC->Option β):Option β:=
 match Y0.t k xs i j with
 |some z0=>K z0
 |none=>none
noncomputable def Y0.run (k:Nat):{β:Type}->List A->(LC->Option β)->Option β:=λ{β} l K=>
 match l with
 |[.own false [.own xs],.d (.int .i64 i),.d (.int .i64 j)]=>Y0.f k xs i j K
 |_=>none
noncomputable def Y0.e (k:Nat):Za0:={ modes:=[(.own,0)],rts:=[25],al:=false,run:=λ_ _=>none,lib:=some ⟨[true,false,false],25,Y0.run k⟩ }
theorem Y0.raw0 (a:Option Addr) (n cap i:Nat) (w:World) (hi:i<=n) (hn:n<=cap):Calls Tryz.prog 193 #[.slice a n cap,.int .i64 i,.int .i64 i] w λex w'=>ex=.returned (.slice a n cap)/\w'=w:=by
 go_enter Tryz.func193,Tryz.ntmps193
 go_wp2
 all_goals (go_ret;exact⟨rfl,rfl⟩)
theorem Y0.raw2 (b cap n i j:Nat) (c:Array Value) (e:TypeId) (w:World) (hb:w.heap[b]? = some (.cells c e (0,0))) (hc:c.size=cap*1) (hn:n<=cap) (hij:i<j) (hj:j<=n) (h1:∀ t,t<n*1->∃ v,c[t]? = some v/\v.oneCell'=true) (i0:TypeInfo) (z:Value) (hi:Tryz.prog.info? 9=some i0) (hz:i0.zero=some z) (hs:i0.size=1) (hzs:z.cells.size=1) (hz1:∀ v∈z.cells.toList,v.oneCell'=true):
  Calls Tryz.prog 193 #[.slice (some ⟨b,0,none⟩) n cap,.int .i64 i,.int .i64 j] w λex w'=>ex=.returned (.slice (some ⟨b,0,none⟩) (n-(j-i)) cap)/\Only b w w'/\∃ c',w'.heap[b]? = some (.cells c' e (0,0))/\c'.size=c.size/\(∀ t,t<i*1->c'[t]? = c[t]?)/\∀ t,t<(n-j)*1->c'[i*1+t]? = c[j*1+t]?:=by
 have mixed:Tryz.prog.follows .mixedOrders=true:=by kernel_rfl
 have hb0:w.drew.heap[b]? = some (.cells c e (0,0)):=hb;obtain⟨A,news,hA,hlen,hsrc,hone,hget⟩:=tail_src hb0 hc hn hj h1;obtain⟨hb1,ho1⟩:=Zbs news (i*1) hb0;obtain⟨W1,hW1⟩:∃ W1,W1=w.drew.setCells b (0+i*1) news:=⟨_,rfl⟩
 rw[Nat.zero_add] at hW1;rw[<- hW1] at hb1 ho1;have hle:i*1+news.length<=c.size:=by rw[hlen,hc];omega
 have hcl:∀ ty,(Builtin.clear_ #[25] ty #[.slice (some ⟨b,(i+(n-j))*1,none⟩) (n-(i+(n-j))) (cap-(i+(n-j)))]).run Tryz.prog W1=.ok (.tuple #[]) (W1.setCells b ((i+(n-j))*1) (Builtin.zeroCells z.cells (n-(i+(n-j)))).toList):=
  λty=>run_clear_cells Tryz.underlying25 hi hz hz1 Om (λt ht=>by rw[ZbP hb1];rw[hzs] at ht;rw[Array.getElem?_eq_getElem (by rw[Zbu,hc];omega)];rfl) (λt ht=>Zb1 hb1 _)
 have hW:Hold (W1=w.drew.setCells b (i*1) news):=⟨hW1⟩
 obtain⟨hb2,ho2⟩:=Zbs (Builtin.zeroCells z.cells (n-(i+(n-j)))).toList ((i+(n-j))*1) hb1;have hfin:Hold (Only b w (W1.setCells b ((i+(n-j))*1) (Builtin.zeroCells z.cells (n-(i+(n-j)))).toList)/\∃ c',(W1.setCells b ((i+(n-j))*1) (Builtin.zeroCells z.cells (n-(i+(n-j)))).toList).heap[b]? = some (.cells c' e (0,0))/\c'.size=c.size/\(∀ t,t<i*1->c'[t]? = c[t]?)/\∀ t,t<(n-j)*1->c'[i*1+t]? = c[j*1+t]?):=by
  have hzl:(Builtin.zeroCells z.cells (n-(i+(n-j)))).toList.length=(n-(i+(n-j)))*1:=by simp[Za2,hzs]
  refine⟨((Only.drew b w).trans ho1).trans ho2,_,hb2,by rw[Zbu,Zbu],λt ht=>?_,λt ht=>?_⟩
  ·rw[Zbd _ _ _ _ (by rw[hzl,Zbu,hc];omega),if_neg Om,Zbd _ _ _ _ hle,if_neg Om]
  ·rw[Zbd _ _ _ _ (by rw[hzl,Zbu,hc];omega),if_neg Om,Zbd _ _ _ _ hle,if_pos Om,Nat.add_sub_cancel_left,hget t ht]
 have hsp:∀ t,t<news.length->(w.drew.cell? ⟨b,0+i*1+t,none⟩).isSome=true/\w.drew.frozen? ⟨b,0+i*1+t,none⟩=false:=λt ht=>⟨by rw[ZbP hb0,Array.getElem?_eq_getElem Om];rfl,Zb1 hb0 _⟩
 generalize(Builtin.zeroCells z.cells (n-(i+(n-j)))).toList=zl at hcl hfin;clear hb hb0 ho1 hb1 hb2 ho2 hget hW1 h1 hle hc hz1 hzs hz;simp only[Nat.mul_one] at hcl hW hA hlen hsp hfin⊢;simp only[Nat.zero_add] at hsp;have hic:i<=cap:=by omega
 have hjc:j<=cap:=by omega
 go_enter Tryz.func193,Tryz.ntmps193
 go_wp2_with fail
 go_region_law_o (refine step_append_room rfl (.tmp 22) (.tmp 25) 25 rfl 9 i0 1 Tryz.underlying25 hi hs b 0 i cap (by simp[Act.eval,Act.put]) A (n-j) (cap-j) news (by simp[Act.eval,Act.put]) (by rw[hlen,Nat.mul_one]) hsrc hone Om (by simpa only[Nat.mul_one,Nat.zero_add] using hsp) ?_;simp only[Nat.zero_add,Nat.mul_one];rw[<- hW.out])
 go_wp2
 go_ret
 refine⟨?_,hfin.out⟩
 rw[show i+(n-j)=n-(j-i) from by omega];rfl
theorem Y0.raw:DelRaw Tryz.prog 193 1:=⟨λa n cap i w h1 h2=>Y0.raw0 a n cap i w h1 h2,λb cap n i j c e w hb hc hn hij hj h1=>by
 obtain⟨i0,z,hi,hz,hzs⟩:=Zc8 (P:=Tryz.prog) (t:=9) Kr;have hsz:i0.size=1:=by
  have:Tryz.prog.cellsOf 9=1:=by kernel_rfl
  simpa[Program.cellsOf,hi] using this
 have hzc:z.cells.size=1:=by
  have h1:(ZaC Tryz.prog 9).length=1:=by kernel_rfl
  rw[<- h1];simpa using(Zb5 hzs).2.2.1.symm
 exact Y0.raw2 b cap n i j c e w hb hc hn hij hj h1 i0 z hi hz hsz hzc (Zb5 hzs).2.1⟩
theorem Y0.ok (k:Nat):Zas Tryz.prog 193 (Y0.e k):=delete_ok tyok (ct:=25) (K:=1) (run:=λ{β}=>Y0.run k) Kr (enter_of Tryz.func193 Kr) Y0.raw (λβ aa K r h=>by
 unfold Y0.run at h;split at h
 ·unfold Y0.f Y0.t at h;split at h
  ·rename_i hz;obtain⟨hg,hz⟩:=ZB hz;injection hz with hz;subst hz;exact⟨_,_,_,rfl,hg,h⟩
  ·cases h
 ·cases h)
noncomputable def YC.t (k:Nat) (xs:LC) (i j:Int):Option LC:=Z0 (0<=i/\i<=j/\j<=(xs.length:Int)) (some (xs.take i.toNat++xs.drop j.toNat))
noncomputable def YC.f {β:Type} (k:Nat) (xs:LC) (i j:Int) (K:LC->Option β):Option β:=
 match YC.t k xs i j with
 |some z0=>K z0
 |none=>none
noncomputable def YC.run (k:Nat):{β:Type}->List A->(LC->Option β)->Option β:=λ{β} l K=>
 match l with
 |[.own false [.own xs],.d (.int .i64 i),.d (.int .i64 j)]=>YC.f k xs i j K
 |_=>none
noncomputable def YC.e (k:Nat):Za0:={ modes:=[(.own,0)],rts:=[62],al:=false,run:=λ_ _=>none,lib:=some ⟨[true,false,false],62,YC.run k⟩ }
theorem YC.raw0 (a:Option Addr) (n cap i:Nat) (w:World) (hi:i<=n) (hn:n<=cap):Calls Tryz.prog 194 #[.slice a n cap,.int .i64 i,.int .i64 i] w λex w'=>ex=.returned (.slice a n cap)/\w'=w:=by
 go_enter Tryz.func194,Tryz.ntmps194
 go_wp2
 all_goals (go_ret;exact⟨rfl,rfl⟩)
theorem YC.raw2 (b cap n i j:Nat) (c:Array Value) (e:TypeId) (w:World) (hb:w.heap[b]? = some (.cells c e (0,0))) (hc:c.size=cap*5) (hn:n<=cap) (hij:i<j) (hj:j<=n) (h1:∀ t,t<n*5->∃ v,c[t]? = some v/\v.oneCell'=true) (i0:TypeInfo) (z:Value) (hi:Tryz.prog.info? 64=some i0) (hz:i0.zero=some z) (hs:i0.size=5) (hzs:z.cells.size=5) (hz1:∀ v∈z.cells.toList,v.oneCell'=true):
  Calls Tryz.prog 194 #[.slice (some ⟨b,0,none⟩) n cap,.int .i64 i,.int .i64 j] w λex w'=>ex=.returned (.slice (some ⟨b,0,none⟩) (n-(j-i)) cap)/\Only b w w'/\∃ c',w'.heap[b]? = some (.cells c' e (0,0))/\c'.size=c.size/\(∀ t,t<i*5->c'[t]? = c[t]?)/\∀ t,t<(n-j)*5->c'[i*5+t]? = c[j*5+t]?:=by
 have mixed:Tryz.prog.follows .mixedOrders=true:=by kernel_rfl
 have hb0:w.drew.heap[b]? = some (.cells c e (0,0)):=hb;obtain⟨A,news,hA,hlen,hsrc,hone,hget⟩:=tail_src hb0 hc hn hj h1;obtain⟨hb1,ho1⟩:=Zbs news (i*5) hb0;obtain⟨W1,hW1⟩:∃ W1,W1=w.drew.setCells b (0+i*5) news:=⟨_,rfl⟩
 rw[Nat.zero_add] at hW1;rw[<- hW1] at hb1 ho1;have hle:i*5+news.length<=c.size:=by rw[hlen,hc];omega
 have hcl:∀ ty,(Builtin.clear_ #[62] ty #[.slice (some ⟨b,(i+(n-j))*5,none⟩) (n-(i+(n-j))) (cap-(i+(n-j)))]).run Tryz.prog W1=.ok (.tuple #[]) (W1.setCells b ((i+(n-j))*5) (Builtin.zeroCells z.cells (n-(i+(n-j)))).toList):=
  λty=>run_clear_cells Tryz.underlying62 hi hz hz1 Om (λt ht=>by rw[ZbP hb1];rw[hzs] at ht;rw[Array.getElem?_eq_getElem (by rw[Zbu,hc];omega)];rfl) (λt ht=>Zb1 hb1 _)
 have hW:Hold (W1=w.drew.setCells b (i*5) news):=⟨hW1⟩
 obtain⟨hb2,ho2⟩:=Zbs (Builtin.zeroCells z.cells (n-(i+(n-j)))).toList ((i+(n-j))*5) hb1;have hfin:Hold (Only b w (W1.setCells b ((i+(n-j))*5) (Builtin.zeroCells z.cells (n-(i+(n-j)))).toList)/\∃ c',(W1.setCells b ((i+(n-j))*5) (Builtin.zeroCells z.cells (n-(i+(n-j)))).toList).heap[b]? = some (.cells c' e (0,0))/\c'.size=c.size/\(∀ t,t<i*5->c'[t]? = c[t]?)/\∀ t,t<(n-j)*5->c'[i*5+t]? = c[j*5+t]?):=by
  have hzl:(Builtin.zeroCells z.cells (n-(i+(n-j)))).toList.length=(n-(i+(n-j)))*5:=by simp[Za2,hzs]
  refine⟨((Only.drew b w).trans ho1).trans ho2,_,hb2,by rw[Zbu,Zbu],λt ht=>?_,λt ht=>?_⟩
  ·rw[Zbd _ _ _ _ (by rw[hzl,Zbu,hc];omega),if_neg Om,Zbd _ _ _ _ hle,if_neg Om]
  ·rw[Zbd _ _ _ _ (by rw[hzl,Zbu,hc];omega),if_neg Om,Zbd _ _ _ _ hle,if_pos Om,Nat.add_sub_cancel_left,hget t ht]
 have hsp:∀ t,t<news.length->(w.drew.cell? ⟨b,0+i*5+t,none⟩).isSome=true/\w.drew.frozen? ⟨b,0+i*5+t,none⟩=false:=λt ht=>⟨by rw[ZbP hb0,Array.getElem?_eq_getElem Om];rfl,Zb1 hb0 _⟩
 generalize(Builtin.zeroCells z.cells (n-(i+(n-j)))).toList=zl at hcl hfin;clear hb hb0 ho1 hb1 hb2 ho2 hget hW1 h1 hle hc hz1 hzs hz;have hic:i<=cap:=by omega
 have hjc:j<=cap:=by omega
 go_enter Tryz.func194,Tryz.ntmps194
 go_wp2_with fail
 go_region_law_o (refine step_append_room rfl (.tmp 22) (.tmp 25) 62 rfl 64 i0 5 Tryz.underlying62 hi hs b 0 i cap (by simp[Act.eval,Act.put]) A (n-j) (cap-j) news (by simp[Act.eval,Act.put]) hlen hsrc hone Om hsp ?_;rw[Nat.zero_add,<- hW.out])
 go_wp2
 go_ret
 refine⟨?_,hfin.out⟩
 rw[show i+(n-j)=n-(j-i) from by omega];rfl
theorem YC.raw:DelRaw Tryz.prog 194 5:=⟨λa n cap i w h1 h2=>YC.raw0 a n cap i w h1 h2,λb cap n i j c e w hb hc hn hij hj h1=>by
 obtain⟨i0,z,hi,hz,hzs⟩:=Zc8 (P:=Tryz.prog) (t:=64) Kr;have hsz:i0.size=5:=by
  have:Tryz.prog.cellsOf 64=5:=by kernel_rfl
  simpa[Program.cellsOf,hi] using this
 have hzc:z.cells.size=5:=by
  have h1:(ZaC Tryz.prog 64).length=5:=by kernel_rfl
  rw[<- h1];simpa using(Zb5 hzs).2.2.1.symm
 exact YC.raw2 b cap n i j c e w hb hc hn hij hj h1 i0 z hi hz hsz hzc (Zb5 hzs).2.1⟩
theorem YC.ok (k:Nat):Zas Tryz.prog 194 (YC.e k):=delete_ok tyok (ct:=62) (K:=5) (run:=λ{β}=>YC.run k) Kr (enter_of Tryz.func194 Kr) YC.raw (λβ aa K r h=>by
 unfold YC.run at h;split at h
 ·unfold YC.f YC.t at h;split at h
  ·rename_i hz;obtain⟨hg,hz⟩:=ZB hz;injection hz with hz;subst hz;exact⟨_,_,_,rfl,hg,h⟩
  ·cases h
 ·cases h)
noncomputable def Yb1.g {β:Type} (k:Nat) (aB:Int) (aA:BA) (aD:Int) (aE aG:LC) (a1:BA) (K:Int->BA->Int->LC->LC->Bool->Option β):Option β:=
 bd1 (Yb8.t k aB aA aD (C.immRows aE) (C.immRows aG) a1) (λy1=>bif(decide ((y1:Int)<0)) then(K aB aA aD aE aG false) else(bif((aB:Int)==5) then(Y0.f k aE y1 (IntKind.wrap .i64 (y1+1)) (λy2=>YC.f k aG y1 (IntKind.wrap .i64 (y1+1)) (λy3=>K aB aA aD y2 y3 true))) else(YC.f k aG y1 (IntKind.wrap .i64 (y1+1)) (λy4=>K aB aA aD aE y4 true))))
noncomputable def Yb1.t (k:Nat) (aB:Int) (aA:BA) (aD:Int) (aE aG:LC) (a1:BA):=Yb1.g k aB aA aD aE aG a1 (λz0 z1 z2 z3 z4 z5=>some (z0,z1,z2,z3,z4,z5))
noncomputable def Yb1.e (k:Nat):Za0:=ent [.own true 64 [.n,.s,.n,.o,.o],.d .s] [5,1] [.n,.s,.n,.o,.o,.b] [64,4] false (Yb1.t k) true true
noncomputable def Yb1.p (k:Nat):Pro:=⟨Tryz.prog,[(180,Yb8.e k),(193,Y0.e k),(194,YC.e k)],hints [] false [] true true,k⟩
theorem Yb1.ok (k:Nat):Zas Tryz.prog 184 (Yb1.e k):=ent_ok (Yb1.p k) mix tyok Tryz.func184 ⟨Yb8.ok k,Y0.ok k,YC.ok k⟩ Kr (λaB aA aD aE aG a1=>Ks)
noncomputable def Y3.body {β:Type} (k:Nat) (r_impl_changed:Int->BA->Int->LC->LC->LD->Int->LD->Int->BA->Int->LD->LD->(Int->BA->Int->LC->LC->Bool->Option β)->Option β) (aB:Int) (aA:BA) (aD:Int) (aE aG:LC) (a1:LD) (bG:Int) (bL:LD) (bH:Int) (bI:BA) (bJ:Int) (a2_5 a2_6:LD) (K:Int->BA->Int->LC->LC->Bool->Option β):Option β:=
 bif(((a1.length:Int):Int)==1) then(bif((bG:Int)==1) then(atR a1 0 [.s] λx4=>(Yr.f k bH bI bJ a2_5 a2_6 (λy5 y6 y7 y8 y9=>bd6 (Ycd.t k aB aA aD aE aG x4 y5 y6 y7 y8 y9) (λy38 y39 y40 y41 y42 y43=>K y38 y39 y40 y41 y42 y43)))) else(atR a1 0 [.s] λx47=>(bd6 (Yb1.t k aB aA aD aE aG x47) (λy48 y49 y50 y51 y52 y53=>K y48 y49 y50 y51 y52 y53)))) else(atR a1 0 [.s] λx57=>(bd1 (Yb8.t k aB aA aD (C.immRows aE) (C.immRows aG) x57) (λy58=>bif(decide ((y58:Int)<0)) then(K aB aA aD aE aG false) else(Z0 ((0:Int)<=y58/\y58<(aG.length:Int)) (atC aG (Int.toNat y58) [.n,.s,.n,.o,.o] λx59 x60 x61 x62 x63=>Z0 (0<=(1:Int)/\(1:Int)<=(a1.length:Int)/\(a1.length:Int)<=(a1.length:Int)/\rowsOk 1 a1) (r_impl_changed x59 x60 x61 x62 x63 ((a1.drop (Int.toNat (1:Int))).take (Int.toNat (a1.length:Int)-Int.toNat (1:Int))) bG bL bH bI bJ a2_5 a2_6 (λy64 y65 y66 y67 y68 y69=>Z0 ((0:Int)<=y58/\y58<((aG.modify (Int.toNat y58) λc=>c.map C.gone).length:Int)) (Z0 (Int.toNat y58<(aG.modify (Int.toNat y58) λc=>c.map C.gone).length) (K aB aA aD aE ((aG.modify (Int.toNat y58) λc=>c.map C.gone).modify (Int.toNat y58) λc=>ZE c 0 [.d (.int .i64 y64),.d (.str y65),.d (.int .i64 y66),.own y67,.own y68]) y69)))))))))
noncomputable def Y3.w {β:Type} (r:Int->BA->Int->LC->LC->LD->Int->LD->Int->BA->Int->LD->LD->Option (Int×BA×Int×LC×LC×Bool)) (aB:Int) (aA:BA) (aD:Int) (aE aG:LC) (a1:LD) (bG:Int) (bL:LD) (bH:Int) (bI:BA) (bJ:Int) (a2_5 a2_6:LD) (K:Int->BA->Int->LC->LC->Bool->Option β):Option β:=match r aB aA aD aE aG a1 bG bL bH bI bJ a2_5 a2_6 with|some (z0,z1,z2,z3,z4,z5)=>K z0 z1 z2 z3 z4 z5|none=>none
noncomputable def Y3.all:Nat->(Int->BA->Int->LC->LC->LD->Int->LD->Int->BA->Int->LD->LD->Option (Int×BA×Int×LC×LC×Bool))
 |0=>(λ_ _ _ _ _ _ _ _ _ _ _ _ _=>none)
 |k+1=>(λr=>(λaB aA aD aE aG a1 bG bL bH bI bJ a2_5 a2_6=>Y3.body k (Y3.w r) aB aA aD aE aG a1 bG bL bH bI bJ a2_5 a2_6 (λz0 z1 z2 z3 z4 z5=>some (z0,z1,z2,z3,z4,z5)))) (Y3.all k)
noncomputable def Y3.t (k:Nat) (aB:Int) (aA:BA) (aD:Int) (aE aG:LC) (a1:LD) (bG:Int) (bL:LD) (bH:Int) (bI:BA) (bJ:Int) (a2_5 a2_6:LD):Option (Int×BA×Int×LC×LC×Bool):=(Y3.all k) aB aA aD aE aG a1 bG bL bH bI bJ a2_5 a2_6
noncomputable def Y3.f {β:Type} (k:Nat) (aB:Int) (aA:BA) (aD:Int) (aE aG:LC) (a1:LD) (bG:Int) (bL:LD) (bH:Int) (bI:BA) (bJ:Int) (a2_5 a2_6:LD) (K:Int->BA->Int->LC->LC->Bool->Option β):Option β:=Y3.w (Y3.t k) aB aA aD aE aG a1 bG bL bH bI bJ a2_5 a2_6 K
noncomputable def Y3.g {β:Type} (k:Nat) (aB:Int) (aA:BA) (aD:Int) (aE aG:LC) (a1:LD) (bG:Int) (bL:LD) (bH:Int) (bI:BA) (bJ:Int) (a2_5 a2_6:LD) (K:Int->BA->Int->LC->LC->Bool->Option β):Option β:=Y3.body k (Y3.f k) aB aA aD aE aG a1 bG bL bH bI bJ a2_5 a2_6 K
theorem Y3.t_succ (k:Nat) (aB:Int) (aA:BA) (aD:Int) (aE aG:LC) (a1:LD) (bG:Int) (bL:LD) (bH:Int) (bI:BA) (bJ:Int) (a2_5 a2_6:LD):Y3.t (k+1) aB aA aD aE aG a1 bG bL bH bI bJ a2_5 a2_6=Y3.g k aB aA aD aE aG a1 bG bL bH bI bJ a2_5 a2_6 (λz0 z1 z2 z3 z4 z5=>some (z0,z1,z2,z3,z4,z5)):=rfl
noncomputable def Y3.e (k:Nat):Za0:=ent [.own true 64 [.n,.s,.n,.o,.o],.d .l,.agg [.n,.l,.n,.s,.n,.l,.l]] [5,1] [.n,.s,.n,.o,.o,.b] [64,4] false (Y3.t k) true true
noncomputable def Y3.p (k:Nat):Pro:=⟨Tryz.prog,[(82,Yr.e k),(183,Ycd.e k),(184,Yb1.e k),(180,Yb8.e k),(157,Y3.e k)],hints [] false [] true true,k⟩
theorem Y3.oks (k:Nat):Zas Tryz.prog 157 (Y3.e k):=by
 induction k with
 |zero=>exact ent_zero Tryz.func157 Kr (λ_ _ _ _ _ _ _ _ _ _ _ _ _=>rfl)
 |succ k ih=>exact ent_ok (Y3.p k) mix tyok Tryz.func157 ⟨Yr.ok k,Ycd.ok k,Yb1.ok k,Yb8.ok k,ih⟩ Kr (λaB aA aD aE aG a1 bG bL bH bI bJ a2_5 a2_6=>Ks)
theorem Y3.ok (k:Nat):Zas Tryz.prog 157 (Y3.e k):=(Y3.oks k)
noncomputable def Ycv.g {β:Type} (k:Nat) (aB:Int) (aA:BA) (aD:Int) (aE aG:LC) (aQ:Int) (aP:LD) (aR:Int) (aS:BA) (aT:Int) (aX bC:LD) (K:Int->BA->Int->LC->LC->Bool->Option β):Option β:=
 bif((aQ:Int)==3) then(bd6 (Ybo.t k aB aA aD (C.immRows aE) (C.immRows aG) aP) (λy60 y61 y62 y63 y64 y65=>bif y65 then(YE.f k y60 y61 y62 (C.immRows y63) (C.immRows y64) aR aS aT aX bC (λy66=>K aB aA aD aE aG y66)) else(K aB aA aD aE aG false))) else(Yr.f k aB aA aD (C.immRows aE) (C.immRows aG) (λy67 y68 y69 y70 y71=>Y3.f k y67 y68 y69 y70 y71 aP aQ aP aR aS aT aX bC (λy72 y73 y74 y75 y76 y77=>bif y77 then(bd1 (Yag.t k y72 y73 y74 (C.immRows y75) (C.immRows y76)) (λy78=>K y72 y73 y74 y75 y76 y78)) else(K y72 y73 y74 y75 y76 false))))
noncomputable def Ycv.t (k:Nat) (aB:Int) (aA:BA) (aD:Int) (aE aG:LC) (aQ:Int) (aP:LD) (aR:Int) (aS:BA) (aT:Int) (aX bC:LD):=Ycv.g k aB aA aD aE aG aQ aP aR aS aT aX bC (λz0 z1 z2 z3 z4 z5=>some (z0,z1,z2,z3,z4,z5))
noncomputable def Ycv.e (k:Nat):Za0:=ent [.own true 64 [.n,.s,.n,.o,.o],.agg [.n,.l,.n,.s,.n,.l,.l]] [5,1] [.n,.s,.n,.o,.o,.b] [64,4] false (Ycv.t k) true true
noncomputable def Ycv.p (k:Nat):Pro:=⟨Tryz.prog,[(155,Ybo.e k),(156,YE.e k),(82,Yr.e k),(157,Y3.e k),(79,Yag.e k)],hints [] false [] true true,k⟩
theorem Ycv.ok (k:Nat):Zas Tryz.prog 121 (Ycv.e k):=ent_ok (Ycv.p k) mix tyok Tryz.func121 ⟨Ybo.ok k,YE.ok k,Yr.ok k,Y3.ok k,Yag.ok k⟩ Kr (λaB aA aD aE aG aQ aP aR aS aT aX bC=>Ks)
noncomputable def Ya6.l0 {β:Type} (k:Nat) (aF:LD) (aC aI:Int) (aL:BA) (aM:Int) (aN aO:LD) (aU:Int) (aV:BA) (aW:Int) (K:Int->BA->Int->LC->LC->Int->Option β) (L0:(Int×Int×BA×Int×LC×LC)->Option β) (v:Int×Int×BA×Int×LC×LC):Option β:=
 match v with
 |(aH,aZ,bK,bM,v0_14,v0_15)=>bif(decide ((aH:Int)<aC)) then(atR aF aH [.n,.l,.n,.s,.n,.l,.l] λx96 x99 x102 x105 x108 x111 x114=>(bd6 (Ycv.t k aZ bK bM v0_14 v0_15 x96 x99 x102 x105 x108 x111 x114) (λy115 y116 y117 y118 y119 y120=>bif(!y120) then(Yr.f k aI aL aM aN aO (λy121 y122 y123 y124 y125=>K y121 y122 y123 y124 y125 aH)) else(L0 (IntKind.wrap .i64 (aH+1),y115,y116,y117,y118,y119))))) else(K aZ bK bM v0_14 v0_15 (-1))
noncomputable def Ya6.m {β:Type} (k:Nat) (aB:Int) (aA:BA) (aD:Int) (aE aG a1:LD) (K:Int->BA->Int->LC->LC->Int->Option β) (F:(LD->Int->Int->BA->Int->LD->LD->Int->BA->Int->(Int×Int×BA×Int×LC×LC)->Option β)):Option β:=
 bd1 (Yag.t k aB aA aD aE aG) (λy1=>bif(!y1) then(Yr.f k aB aA aD aE aG (λy44 y45 y46 y47 y48=>K y44 y45 y46 y47 y48 0)) else(bd1 (YbG.t k a1) (λy49=>bif(!y49) then(Yr.f k aB aA aD aE aG (λy50 y51 y52 y53 y54=>K y50 y51 y52 y53 y54 0)) else(Yr.f k aB aA aD aE aG (λy55 y56 y57 y58 y59=>F a1 (a1.length:Int) aB aA aD aE aG 0 (⟨#[]⟩:BA) 0 (0,y55,y56,y57,y58,y59))))))
noncomputable def Ya6.g {β:Type} (k:Nat) (aB:Int) (aA:BA) (aD:Int) (aE aG a1:LD) (K:Int->BA->Int->LC->LC->Int->Option β):Option β:=Ya6.m k aB aA aD aE aG a1 K (λaF aC aI aL aM aN aO aU aV aW=>Za1 (Ya6.l0 k aF aC aI aL aM aN aO aU aV aW K) k)
noncomputable def Ya6.t (k:Nat) (aB:Int) (aA:BA) (aD:Int) (aE aG a1:LD):=Ya6.g k aB aA aD aE aG a1 (λz0 z1 z2 z3 z4 z5=>some (z0,z1,z2,z3,z4,z5))
noncomputable def Ya6.e (k:Nat):Za0:=ent [.agg [.n,.s,.n,.l,.l],.d .l] [5,1] [.n,.s,.n,.o,.o,.n] [64,3] false (Ya6.t k)
noncomputable def Ya6.p (k:Nat):Pro:=⟨Tryz.prog,[(79,Yag.e k),(82,Yr.e k),(120,YbG.e k),(121,Ycv.e k)],hints [(5,kp [2,4,6,23,24,25])] false [],k⟩
theorem Ya6.l0_eq (k:Nat) (aB:Int) (aA:BA) (aD:Int) (aE aG a1 aF:LD) (aC aI:Int) (aL:BA) (aM:Int) (aN aO:LD) (aU:Int) (aV:BA) (aW:Int):LpEq ((Ya6.p k).lf Tryz.f83 5 [1,1,1,0,1,0] [.agg [.int .i64 aB,.str aA,.int .i64 aD,.sl aE,.sl aG],.d (.sl a1)] [5,1] [.n,.s,.n,.o,.o,.n]) (Ya6.l0 k aF aC aI aL aM aN aO aU aV aW (λz0 z1 z2 z3 z4 z5=>some (z0,z1,z2,z3,z4,z5))) (λ(aH,aZ,bK,bM,v0_14,v0_15)=>mkSt 44 [(2,.bp 0 0),(4,.bp 1 0),(6,.bp 2 0),(23,.d false (.sl aF)),(24,.d true (.int .i64 aC)),(25,.d true (.int .i64 aH))] [.box none 64 [.d false (.int .i64 aI),.d false (.str aL),.d false (.int .i64 aM),.d false (.sl aN),.d false (.sl aO)],.box none 64 [.d true (.int .i64 aU),.d true (.str aV),.d true (.int .i64 aW),.nil,.nil],.box none 64 [.d true (.int .i64 aZ),.d true (.str bK),.d true (.int .i64 bM),.row 3,.row 4],.row none true 25 v0_14,.row none true 62 v0_15]):=lf_eq λL0 v=>by obtain⟨aH,aZ,bK,bM,v0_14,v0_15⟩:=v;kernel_rfl
theorem Ya6.ok (k:Nat):Zas Tryz.prog 83 (Ya6.e k):=ent_ok (Ya6.p k) mix tyok Tryz.func83 ⟨Yag.ok k,Yr.ok k,YbG.ok k,Ycv.ok k⟩ Kr (λaB aA aD aE aG a1=>Eq.trans Kr (congrArg (Ya6.m k aB aA aD aE aG a1 (λz0 z1 z2 z3 z4 z5=>some (z0,z1,z2,z3,z4,z5))) (funext λaF=>funext λaC=>funext λaI=>funext λaL=>funext λaM=>funext λaN=>funext λaO=>funext λaU=>funext λaV=>funext λaW=>funext λv=>Ya6.l0_eq k aB aA aD aE aG a1 aF aC aI aL aM aN aO aU aV aW k v) :))
noncomputable def Ybm.g {β:Type} (k:Nat) (aB:BA) (aA:LD) (f0_0:Int) (f0_1:BA) (f0_2:Int) (f0_3 f0_4:LD) (K:Bool->Option β):Option β:=
 bd6 (Ya6.t k f0_0 f0_1 f0_2 f0_3 f0_4 aA) (λy126 y127 y128 y129 y130 y131=>K ((y131:Int)!=(-1)))
noncomputable def Ybm.t (k:Nat) (aB:BA) (aA:LD) (f0_0:Int) (f0_1:BA) (f0_2:Int) (f0_3 f0_4:LD):=Ybm.g k aB aA f0_0 f0_1 f0_2 f0_3 f0_4 (λz0=>some z0)
noncomputable def Ybm.e (k:Nat):Za0:=ent [.agg [.s,.l],.ip [.n,.s,.n,.l,.l]] [1] [.b] [4] false (Ybm.t k)
noncomputable def Ybm.p (k:Nat):Pro:=⟨Tryz.prog,[(83,Ya6.e k)],hints [] false [],k⟩
theorem Ybm.ok (k:Nat):Zas Tryz.prog 106 (Ybm.e k):=ent_ok (Ybm.p k) mix tyok Tryz.func106 (Ya6.ok k) Kr (λaB aA f0_0 f0_1 f0_2 f0_3 f0_4=>Ks)
noncomputable def Yh.l0 {β:Type} (k:Nat) (aF:LD) (aC:Int) (aH:BA) (aI:Int) (aL aM:LD) (aN:Int) (K L0:Int->Option β) (v:Int):Option β:=
 match v with
 |aO=>bif(decide ((aO:Int)<aN)) then(atR aF aO [.s,.l] λx136 x139=>(bd1 (Ybm.t k x136 x139 aC aH aI aL aM) (λy140=>bif y140 then(K aO) else(L0 (IntKind.wrap .i64 (aO+1)))))) else(K (-1))
noncomputable def Yh.m {β:Type} (k:Nat) (a0:LD) (a1_0_0:Int) (a1_0_1:BA) (a1_0_2:Int) (a1_0_3 a1_0_4:LD) (K:Int->Option β) (F:(LD->Int->BA->Int->LD->LD->Int->Int->Option β)):Option β:=
 F a0 a1_0_0 a1_0_1 a1_0_2 a1_0_3 a1_0_4 (a0.length:Int) (0)
noncomputable def Yh.g {β:Type} (k:Nat) (a0:LD) (a1_0_0:Int) (a1_0_1:BA) (a1_0_2:Int) (a1_0_3 a1_0_4:LD) (K:Int->Option β):Option β:=
 Za1 (Yh.l0 k a0 a1_0_0 a1_0_1 a1_0_2 a1_0_3 a1_0_4 (a0.length:Int) K) k (0)
noncomputable def Yh.t (k:Nat) (a0:LD) (a1_0_0:Int) (a1_0_1:BA) (a1_0_2:Int) (a1_0_3 a1_0_4:LD):=Yh.g k a0 a1_0_0 a1_0_1 a1_0_2 a1_0_3 a1_0_4 (λz0=>some z0)
noncomputable def Yh.e (k:Nat):Za0:=ent [.d .l,.fn 106 [[.n,.s,.n,.l,.l]]] [1] [.n] [3] false (Yh.t k)
noncomputable def Yh.p (k:Nat):Pro:=⟨Tryz.prog,[(106,Ybm.e k)],hints [(2,kp [0,1,7,8])] false [],k⟩
theorem Yh.l0_eq (k:Nat) (a0:LD) (a1_0_0:Int) (a1_0_1:BA) (a1_0_2:Int) (a1_0_3 a1_0_4 aF:LD) (aC:Int) (aH:BA) (aI:Int) (aL aM:LD) (aN:Int):LpEq ((Yh.p k).lf Tryz.f80 2 [1,0,1,0] [.d (.sl a0),.d (.fn 106 [[.int .i64 a1_0_0,.str a1_0_1,.int .i64 a1_0_2,.sl a1_0_3,.sl a1_0_4]])] [1] [.n]) (Yh.l0 k aF aC aH aI aL aM aN (λz0=>some z0)) (λaO=>mkSt 19 [(0,.d false (.sl aF)),(1,.d false (.fn 106 [[.int .i64 aC,.str aH,.int .i64 aI,.sl aL,.sl aM]])),(7,.d true (.int .i64 aN)),(8,.d true (.int .i64 aO))] []):=lf_eq λL0 v=>by kernel_rfl
theorem Yh.ok (k:Nat):Zas Tryz.prog 80 (Yh.e k):=ent_ok (Yh.p k) mix tyok Tryz.func80 (Ybm.ok k) Kr (λa0 a1_0_0 a1_0_1 a1_0_2 a1_0_3 a1_0_4=>Eq.trans Kr (congrArg (Yh.m k a0 a1_0_0 a1_0_1 a1_0_2 a1_0_3 a1_0_4 (λz0=>some z0)) (funext λaF=>funext λaC=>funext λaH=>funext λaI=>funext λaL=>funext λaM=>funext λaN=>funext λv=>Yh.l0_eq k a0 a1_0_0 a1_0_1 a1_0_2 a1_0_3 a1_0_4 aF aC aH aI aL aM aN k v) :))
noncomputable def Yv.g {β:Type} (k:Nat) (a0:LD) (a1_0_0:Int) (a1_0_1:BA) (a1_0_2:Int) (a1_0_3 a1_0_4:LD) (K:Bool->Option β):Option β:=
 bd1 (Yh.t k a0 a1_0_0 a1_0_1 a1_0_2 a1_0_3 a1_0_4) (λy141=>K (decide ((y141:Int)>=0)))
noncomputable def Yv.t (k:Nat) (a0:LD) (a1_0_0:Int) (a1_0_1:BA) (a1_0_2:Int) (a1_0_3 a1_0_4:LD):=Yv.g k a0 a1_0_0 a1_0_1 a1_0_2 a1_0_3 a1_0_4 (λz0=>some z0)
noncomputable def Yv.e (k:Nat):Za0:=ent [.d .l,.fn 106 [[.n,.s,.n,.l,.l]]] [1] [.b] [4] false (Yv.t k)
noncomputable def Yv.p (k:Nat):Pro:=⟨Tryz.prog,[(80,Yh.e k)],hints [] false [],k⟩
theorem Yv.ok (k:Nat):Zas Tryz.prog 105 (Yv.e k):=ent_ok (Yv.p k) mix tyok Tryz.func105 (Yh.ok k) Kr (λa0 a1_0_0 a1_0_1 a1_0_2 a1_0_3 a1_0_4=>Ks)
noncomputable def YbE.g {β:Type} (k:Nat) (a0:LD) (aQ:Int) (aP:BA) (aR:Int) (aS aT:LD) (K:Bool->Option β):Option β:=
 bd1 (YaX.t k a0) (λy122=>bif y122 then(bd1 (Yag.t k aQ aP aR aS aT) (λy123=>bif y123 then(bd1 (Yv.t k a0 aQ aP aR aS aT) (λy142=>K (!y142))) else(K false))) else(K false))
noncomputable def YbE.t (k:Nat) (a0:LD) (aQ:Int) (aP:BA) (aR:Int) (aS aT:LD):=YbE.g k a0 aQ aP aR aS aT (λz0=>some z0)
noncomputable def YbE.e (k:Nat):Za0:=ent [.d .l,.agg [.n,.s,.n,.l,.l]] [1] [.b] [4] false (YbE.t k)
noncomputable def YbE.p (k:Nat):Pro:=⟨Tryz.prog,[(104,YaX.e k),(79,Yag.e k),(105,Yv.e k)],hints [] false [],k⟩
theorem YbE.ok (k:Nat):Zas Tryz.prog 68 (YbE.e k):=ent_ok (YbE.p k) mix tyok Tryz.func68 ⟨YaX.ok k,Yag.ok k,Yv.ok k⟩ Kr (λa0 aQ aP aR aS aT=>Ks)
noncomputable def Ybe.l0 {β:Type} (k:Nat) (aF:LD) (aC aI aL aM:Int) (aN aO aU aV:LD) (K:Bool->Option β) (L0:Int->Option β) (v:Int):Option β:=
 match v with
 |aH=>bif(decide ((aH:Int)<aC)) then(atR aF aH [.n,.s,.n,.l,.l,.l,.n,.s,.n,.l,.l,.l,.b] λx187 x190 x193 x196 x199 x202 x205 x208 x211 x214 x217 x220 x223=>(bd1 (Y4.t k x187 1 (IntKind.wrap .i64 (aL-1))) (λy224=>bif(!y224) then(K false) else(bd1 (YP.t k x190) (λy225=>bif(!y225) then(K false) else(bd1 (Yct.t k aI aL aM aN aO aU aV x190) (λy226=>bif((y226:Int)!=aH) then(K false) else(bd1 (Ya2.t k x193 x196 x199 x202) (λy227=>bif(!y227) then(K false) else(bd1 (YbE.t k x220 x205 x208 x211 x214 x217) (λy228=>bif(!y228) then(K false) else(bif(decide ((aH:Int)>0)) then(atR aN (IntKind.wrap .i64 (aH-1)) [.n,.s,.n,.l,.l,.l,.n,.s,.n,.l,.l,.l,.b] λx232 x235 x238 x241 x244 x247 x250 x253 x256 x259 x262 x265 x268=>(bif(decide ((x232:Int)>=x187)) then(K false) else(L0 (IntKind.wrap .i64 (aH+1))))) else(L0 (IntKind.wrap .i64 (aH+1))))))))))))))) else(K (decide (((aN.length:Int):Int)<=20)))
noncomputable def Ybe.m {β:Type} (k:Nat) (aB aA aD:Int) (aE aG aJ aK:LD) (K:Bool->Option β) (F:(LD->Int->Int->Int->Int->LD->LD->LD->LD->Int->Option β)):Option β:=
 F aE (aE.length:Int) aB aA aD aE aG aJ aK (0)
noncomputable def Ybe.g {β:Type} (k:Nat) (aB aA aD:Int) (aE aG aJ aK:LD) (K:Bool->Option β):Option β:=
 Za1 (Ybe.l0 k aE (aE.length:Int) aB aA aD aE aG aJ aK K) k (0)
noncomputable def Ybe.t (k:Nat) (aB aA aD:Int) (aE aG aJ aK:LD):=Ybe.g k aB aA aD aE aG aJ aK (λz0=>some z0)
noncomputable def Ybe.e (k:Nat):Za0:=ent [.agg [.n,.n,.n,.l,.l,.l,.l]] [1] [.b] [4] false (Ybe.t k)
noncomputable def Ybe.p (k:Nat):Pro:=⟨Tryz.prog,[(30,Y4.e k),(65,YP.e k),(66,Yct.e k),(67,Ya2.e k),(68,YbE.e k)],hints [(2,kp [1,6,7,8])] false [],k⟩
theorem Ybe.l0_eq (k:Nat) (aB aA aD:Int) (aE aG aJ aK aF:LD) (aC aI aL aM:Int) (aN aO aU aV:LD):LpEq ((Ybe.p k).lf Tryz.f32 2 [1,0,1,0] [.agg [.int .i64 aB,.int .i64 aA,.int .i64 aD,.sl aE,.sl aG,.sl aJ,.sl aK]] [1] [.b]) (Ybe.l0 k aF aC aI aL aM aN aO aU aV (λz0=>some z0)) (λaH=>mkSt 69 [(1,.bp 0 0),(6,.d false (.sl aF)),(7,.d true (.int .i64 aC)),(8,.d true (.int .i64 aH))] [.box none 34 [.d false (.int .i64 aI),.d false (.int .i64 aL),.d false (.int .i64 aM),.d false (.sl aN),.d false (.sl aO),.d false (.sl aU),.d false (.sl aV)]]):=lf_eq λL0 v=>by kernel_rfl
theorem Ybe.ok (k:Nat):Zas Tryz.prog 32 (Ybe.e k):=ent_ok (Ybe.p k) mix tyok Tryz.func32 ⟨Y4.ok k,YP.ok k,Yct.ok k,Ya2.ok k,YbE.ok k⟩ Kr (λaB aA aD aE aG aJ aK=>Eq.trans Kr (congrArg (Ybe.m k aB aA aD aE aG aJ aK (λz0=>some z0)) (funext λaF=>funext λaC=>funext λaI=>funext λaL=>funext λaM=>funext λaN=>funext λaO=>funext λaU=>funext λaV=>funext λv=>Ybe.l0_eq k aB aA aD aE aG aJ aK aF aC aI aL aM aN aO aU aV k v) :))
noncomputable def YaB.l0 {β:Type} (k:Nat) (aF aC:LD) (aH:Int) (K:Bool->Option β) (L0:Int->Option β) (v:Int):Option β:=
 match v with
 |aI=>bif(decide ((aI:Int)<aH)) then(atR aC aI [.s,.s] λx20 x23=>(bd1 (YP.t k x20) (λy24=>bif(!y24) then(K false) else(bd1 (YP.t k x23) (λy25=>bif(!y25) then(K false) else(bif(decide ((aI:Int)>0)) then(atR aF (IntKind.wrap .i64 (aI-1)) [.s,.s] λx29 x32=>(bif(!(Za3 x29 x20)) then(K false) else(L0 (IntKind.wrap .i64 (aI+1))))) else(L0 (IntKind.wrap .i64 (aI+1))))))))) else(K (decide (((aF.length:Int):Int)<=8)))
noncomputable def YaB.m {β:Type} (k:Nat) (a0:LD) (K:Bool->Option β) (F:(LD->LD->Int->Int->Option β)):Option β:=
 F a0 a0 (a0.length:Int) (0)
noncomputable def YaB.g {β:Type} (k:Nat) (a0:LD) (K:Bool->Option β):Option β:=
 Za1 (YaB.l0 k a0 a0 (a0.length:Int) K) k (0)
noncomputable def YaB.t (k:Nat) (a0:LD):=YaB.g k a0 (λz0=>some z0)
noncomputable def YaB.e (k:Nat):Za0:=ent [.d .l] [1] [.b] [4] false (YaB.t k)
noncomputable def YaB.p (k:Nat):Pro:=⟨Tryz.prog,[(65,YP.e k)],hints [(2,kp [0,5,6,7])] false [],k⟩
theorem YaB.l0_eq (k:Nat) (a0 aF aC:LD) (aH:Int):LpEq ((YaB.p k).lf Tryz.f107 2 [1,0,1,0] [.d (.sl a0)] [1] [.b]) (YaB.l0 k aF aC aH (λz0=>some z0)) (λaI=>mkSt 41 [(0,.d false (.sl aF)),(5,.d false (.sl aC)),(6,.d true (.int .i64 aH)),(7,.d true (.int .i64 aI))] []):=lf_eq λL0 v=>by kernel_rfl
theorem YaB.ok (k:Nat):Zas Tryz.prog 107 (YaB.e k):=ent_ok (YaB.p k) mix tyok Tryz.func107 (YP.ok k) Kr (λa0=>Eq.trans Kr (congrArg (YaB.m k a0 (λz0=>some z0)) (funext λaF=>funext λaC=>funext λaH=>funext λv=>YaB.l0_eq k a0 aF aC aH k v) :))
noncomputable def Ybp.g {β:Type} (k:Nat) (aB:BA) (aA aD:LD) (aE:Int) (K:Bool->Option β):Option β:=
 bd1 (YP.t k aB) (λy1=>bif y1 then(bd1 (YaB.t k aA) (λy33=>bif y33 then(bd1 (YS.t k aD 4) (λy34=>bif y34 then(bd1 (YaP.t k aE) (λy35=>K y35)) else(K false))) else(K false))) else(K false))
noncomputable def Ybp.t (k:Nat) (aB:BA) (aA aD:LD) (aE:Int):=Ybp.g k aB aA aD aE (λz0=>some z0)
noncomputable def Ybp.e (k:Nat):Za0:=ent [.agg [.s,.l,.l,.n]] [1] [.b] [4] false (Ybp.t k)
noncomputable def Ybp.p (k:Nat):Pro:=⟨Tryz.prog,[(65,YP.e k),(107,YaB.e k),(31,YS.e k),(71,YaP.e k)],hints [] false [],k⟩
theorem Ybp.ok (k:Nat):Zas Tryz.prog 69 (Ybp.e k):=ent_ok (Ybp.p k) mix tyok Tryz.func69 ⟨YP.ok k,YaB.ok k,YS.ok k,YaP.ok k⟩ Kr (λaB aA aD aE=>Ks)
noncomputable def Yap.g {β:Type} (k:Nat) (a0:LD) (a1:BA) (K:Bool->Option β):Option β:=
 bd1 (YK.t k a0 a1) (λy1=>K (decide ((y1:Int)>=0)))
noncomputable def Yap.t (k:Nat) (a0:LD) (a1:BA):=Yap.g k a0 a1 (λz0=>some z0)
noncomputable def Yap.e (k:Nat):Za0:=ent [.d .l,.d .s] [1] [.b] [4] false (Yap.t k)
noncomputable def Yap.p (k:Nat):Pro:=⟨Tryz.prog,[(108,YK.e k)],hints [] false [],k⟩
theorem Yap.ok (k:Nat):Zas Tryz.prog 70 (Yap.e k):=ent_ok (Yap.p k) mix tyok Tryz.func70 (YK.ok k) Kr (λa0 a1=>Ks)
noncomputable def YaW.l0 {β:Type} (k:Nat) (aF:LD) (aC aI aL aM:Int) (aN aO aU aV:LD) (K:Bool->Option β) (L0:Int->Option β) (v:Int):Option β:=
 match v with
 |aH=>bif(decide ((aH:Int)<aC)) then(atR aF aH [.s,.l,.l,.n,.n,.n] λx62 x65 x68 x71 x74 x77=>(bd1 (Ybp.t k x62 x65 x68 x71) (λy78=>bif(!y78) then(K false) else(bd1 (Y4.t k x74 0 aM) (λy79=>bif(!y79) then(K false) else(bd1 (Y4.t k x77 0 aI) (λy80=>bif(!y80) then(K false) else(bd1 (Yap.t k aV x62) (λy81=>bif y81 then(K false) else(bif(decide ((aH:Int)>0)) then(atR aO (IntKind.wrap .i64 (aH-1)) [.s,.l,.l,.n,.n,.n] λx85 x88 x91 x94 x97 x100=>(bif(!(Za3 x85 x62)) then(K false) else(L0 (IntKind.wrap .i64 (aH+1))))) else(L0 (IntKind.wrap .i64 (aH+1))))))))))))) else(K (decide (((aO.length:Int):Int)<=12)))
noncomputable def YaW.m {β:Type} (k:Nat) (aB aA aD:Int) (aE aG aJ aK:LD) (K:Bool->Option β) (F:(LD->Int->Int->Int->Int->LD->LD->LD->LD->Int->Option β)):Option β:=
 F aG (aG.length:Int) aB aA aD aE aG aJ aK (0)
noncomputable def YaW.g {β:Type} (k:Nat) (aB aA aD:Int) (aE aG aJ aK:LD) (K:Bool->Option β):Option β:=
 Za1 (YaW.l0 k aG (aG.length:Int) aB aA aD aE aG aJ aK K) k (0)
noncomputable def YaW.t (k:Nat) (aB aA aD:Int) (aE aG aJ aK:LD):=YaW.g k aB aA aD aE aG aJ aK (λz0=>some z0)
noncomputable def YaW.e (k:Nat):Za0:=ent [.agg [.n,.n,.n,.l,.l,.l,.l]] [1] [.b] [4] false (YaW.t k)
noncomputable def YaW.p (k:Nat):Pro:=⟨Tryz.prog,[(69,Ybp.e k),(30,Y4.e k),(70,Yap.e k)],hints [(2,kp [1,6,7,8])] false [],k⟩
theorem YaW.l0_eq (k:Nat) (aB aA aD:Int) (aE aG aJ aK aF:LD) (aC aI aL aM:Int) (aN aO aU aV:LD):LpEq ((YaW.p k).lf Tryz.f33 2 [1,0,1,0] [.agg [.int .i64 aB,.int .i64 aA,.int .i64 aD,.sl aE,.sl aG,.sl aJ,.sl aK]] [1] [.b]) (YaW.l0 k aF aC aI aL aM aN aO aU aV (λz0=>some z0)) (λaH=>mkSt 64 [(1,.bp 0 0),(6,.d false (.sl aF)),(7,.d true (.int .i64 aC)),(8,.d true (.int .i64 aH))] [.box none 34 [.d false (.int .i64 aI),.d false (.int .i64 aL),.d false (.int .i64 aM),.d false (.sl aN),.d false (.sl aO),.d false (.sl aU),.d false (.sl aV)]]):=lf_eq λL0 v=>by kernel_rfl
theorem YaW.ok (k:Nat):Zas Tryz.prog 33 (YaW.e k):=ent_ok (YaW.p k) mix tyok Tryz.func33 ⟨Ybp.ok k,Y4.ok k,Yap.ok k⟩ Kr (λaB aA aD aE aG aJ aK=>Eq.trans Kr (congrArg (YaW.m k aB aA aD aE aG aJ aK (λz0=>some z0)) (funext λaF=>funext λaC=>funext λaI=>funext λaL=>funext λaM=>funext λaN=>funext λaO=>funext λaU=>funext λaV=>funext λv=>YaW.l0_eq k aB aA aD aE aG aJ aK aF aC aI aL aM aN aO aU aV k v) :))
noncomputable def Yb6.g {β:Type} (k:Nat) (aB:Int) (aA:BA) (aD:Int) (aE aG aJ:LD) (aK:Int) (aY:BA) (bE:Int) (bA bB bD:LD) (bF:Bool) (f0_0:Int) (K:Bool->Option β):Option β:=
 K ((aB:Int)==f0_0)
noncomputable def Yb6.t (k:Nat) (aB:Int) (aA:BA) (aD:Int) (aE aG aJ:LD) (aK:Int) (aY:BA) (bE:Int) (bA bB bD:LD) (bF:Bool) (f0_0:Int):=Yb6.g k aB aA aD aE aG aJ aK aY bE bA bB bD bF f0_0 (λz0=>some z0)
noncomputable def Yb6.e (k:Nat):Za0:=ent [.agg [.n,.s,.n,.l,.l,.l,.n,.s,.n,.l,.l,.l,.b],.ip [.n]] [1] [.b] [4] false (Yb6.t k)
noncomputable def Yb6.p (k:Nat):Pro:=⟨Tryz.prog,[],hints [] false [],k⟩
theorem Yb6.ok (k:Nat):Zas Tryz.prog 85 (Yb6.e k):=ent_ok (Yb6.p k) mix tyok Tryz.func85 trivial Kr (λaB aA aD aE aG aJ aK aY bE bA bB bD bF f0_0=>Ks)
noncomputable def Yl.l0 {β:Type} (k:Nat) (aF:LD) (aC aH:Int) (K L0:Int->Option β) (v:Int):Option β:=
 match v with
 |aI=>bif(decide ((aI:Int)<aH)) then(atR aF aI [.n,.s,.n,.l,.l,.l,.n,.s,.n,.l,.l,.l,.b] λx45 x48 x51 x54 x57 x60 x63 x66 x69 x72 x75 x78 x81=>(bd1 (Yb6.t k x45 x48 x51 x54 x57 x60 x63 x66 x69 x72 x75 x78 x81 aC) (λy82=>bif y82 then(K aI) else(L0 (IntKind.wrap .i64 (aI+1)))))) else(K (-1))
noncomputable def Yl.m {β:Type} (k:Nat) (a0:LD) (a1_0_0:Int) (K:Int->Option β) (F:(LD->Int->Int->Int->Option β)):Option β:=
 F a0 a1_0_0 (a0.length:Int) (0)
noncomputable def Yl.g {β:Type} (k:Nat) (a0:LD) (a1_0_0:Int) (K:Int->Option β):Option β:=
 Za1 (Yl.l0 k a0 a1_0_0 (a0.length:Int) K) k (0)
noncomputable def Yl.t (k:Nat) (a0:LD) (a1_0_0:Int):=Yl.g k a0 a1_0_0 (λz0=>some z0)
noncomputable def Yl.e (k:Nat):Za0:=ent [.d .l,.fn 85 [[.n]]] [1] [.n] [3] false (Yl.t k)
noncomputable def Yl.p (k:Nat):Pro:=⟨Tryz.prog,[(85,Yb6.e k)],hints [(2,kp [0,1,7,8])] false [],k⟩
theorem Yl.l0_eq (k:Nat) (a0:LD) (a1_0_0:Int) (aF:LD) (aC aH:Int):LpEq ((Yl.p k).lf Tryz.f84 2 [1,0,1,0] [.d (.sl a0),.d (.fn 85 [[.int .i64 a1_0_0]])] [1] [.n]) (Yl.l0 k aF aC aH (λz0=>some z0)) (λaI=>mkSt 19 [(0,.d false (.sl aF)),(1,.d false (.fn 85 [[.int .i64 aC]])),(7,.d true (.int .i64 aH)),(8,.d true (.int .i64 aI))] []):=lf_eq λL0 v=>by kernel_rfl
theorem Yl.ok (k:Nat):Zas Tryz.prog 84 (Yl.e k):=ent_ok (Yl.p k) mix tyok Tryz.func84 (Yb6.ok k) Kr (λa0 a1_0_0=>Eq.trans Kr (congrArg (Yl.m k a0 a1_0_0 (λz0=>some z0)) (funext λaF=>funext λaC=>funext λaH=>funext λv=>Yl.l0_eq k a0 a1_0_0 aF aC aH k v) :))
noncomputable def Ycc.g {β:Type} (k:Nat) (aB aA aD:Int) (aE aG aJ aK:LD) (a1:Int) (K:Int->Option β):Option β:=
 bd1 (Yl.t k aE a1) (λy83=>K y83)
noncomputable def Ycc.t (k:Nat) (aB aA aD:Int) (aE aG aJ aK:LD) (a1:Int):=Ycc.g k aB aA aD aE aG aJ aK a1 (λz0=>some z0)
noncomputable def Ycc.e (k:Nat):Za0:=ent [.agg [.n,.n,.n,.l,.l,.l,.l],.d .n] [1] [.n] [3] false (Ycc.t k)
noncomputable def Ycc.p (k:Nat):Pro:=⟨Tryz.prog,[(84,Yl.e k)],hints [] false [],k⟩
theorem Ycc.ok (k:Nat):Zas Tryz.prog 41 (Ycc.e k):=ent_ok (Ycc.p k) mix tyok Tryz.func41 (Yl.ok k) Kr (λaB aA aD aE aG aJ aK a1=>Ks)
noncomputable def YbK.g {β:Type} (k:Nat) (aB:BA) (aA aD:LD) (aE aG aJ:Int) (f0_0:BA) (K:Bool->Option β):Option β:=
 K (ZP aB f0_0)
noncomputable def YbK.t (k:Nat) (aB:BA) (aA aD:LD) (aE aG aJ:Int) (f0_0:BA):=YbK.g k aB aA aD aE aG aJ f0_0 (λz0=>some z0)
noncomputable def YbK.e (k:Nat):Za0:=ent [.agg [.s,.l,.l,.n,.n,.n],.ip [.s]] [1] [.b] [4] false (YbK.t k)
noncomputable def YbK.p (k:Nat):Pro:=⟨Tryz.prog,[],hints [] false [],k⟩
theorem YbK.ok (k:Nat):Zas Tryz.prog 110 (YbK.e k):=ent_ok (YbK.p k) mix tyok Tryz.func110 trivial Kr (λaB aA aD aE aG aJ f0_0=>Ks)
noncomputable def Yi.l0 {β:Type} (k:Nat) (aF:LD) (aC:BA) (aH:Int) (K L0:Int->Option β) (v:Int):Option β:=
 match v with
 |aI=>bif(decide ((aI:Int)<aH)) then(atR aF aI [.s,.l,.l,.n,.n,.n] λx24 x27 x30 x33 x36 x39=>(bd1 (YbK.t k x24 x27 x30 x33 x36 x39 aC) (λy40=>bif y40 then(K aI) else(L0 (IntKind.wrap .i64 (aI+1)))))) else(K (-1))
noncomputable def Yi.m {β:Type} (k:Nat) (a0:LD) (a1_0_0:BA) (K:Int->Option β) (F:(LD->BA->Int->Int->Option β)):Option β:=
 F a0 a1_0_0 (a0.length:Int) (0)
noncomputable def Yi.g {β:Type} (k:Nat) (a0:LD) (a1_0_0:BA) (K:Int->Option β):Option β:=
 Za1 (Yi.l0 k a0 a1_0_0 (a0.length:Int) K) k (0)
noncomputable def Yi.t (k:Nat) (a0:LD) (a1_0_0:BA):=Yi.g k a0 a1_0_0 (λz0=>some z0)
noncomputable def Yi.e (k:Nat):Za0:=ent [.d .l,.fn 110 [[.s]]] [1] [.n] [3] false (Yi.t k)
noncomputable def Yi.p (k:Nat):Pro:=⟨Tryz.prog,[(110,YbK.e k)],hints [(2,kp [0,1,7,8])] false [],k⟩
theorem Yi.l0_eq (k:Nat) (a0:LD) (a1_0_0:BA) (aF:LD) (aC:BA) (aH:Int):LpEq ((Yi.p k).lf Tryz.f109 2 [1,0,1,0] [.d (.sl a0),.d (.fn 110 [[.str a1_0_0]])] [1] [.n]) (Yi.l0 k aF aC aH (λz0=>some z0)) (λaI=>mkSt 19 [(0,.d false (.sl aF)),(1,.d false (.fn 110 [[.str aC]])),(7,.d true (.int .i64 aH)),(8,.d true (.int .i64 aI))] []):=lf_eq λL0 v=>by kernel_rfl
theorem Yi.ok (k:Nat):Zas Tryz.prog 109 (Yi.e k):=ent_ok (Yi.p k) mix tyok Tryz.func109 (YbK.ok k) Kr (λa0 a1_0_0=>Eq.trans Kr (congrArg (Yi.m k a0 a1_0_0 (λz0=>some z0)) (funext λaF=>funext λaC=>funext λaH=>funext λv=>Yi.l0_eq k a0 a1_0_0 aF aC aH k v) :))
noncomputable def Yci.g {β:Type} (k:Nat) (aB aA aD:Int) (aE aG aJ aK:LD) (a1:BA) (K:Int->Option β):Option β:=
 bd1 (Yi.t k aG a1) (λy41=>K y41)
noncomputable def Yci.t (k:Nat) (aB aA aD:Int) (aE aG aJ aK:LD) (a1:BA):=Yci.g k aB aA aD aE aG aJ aK a1 (λz0=>some z0)
noncomputable def Yci.e (k:Nat):Za0:=ent [.agg [.n,.n,.n,.l,.l,.l,.l],.d .s] [1] [.n] [3] false (Yci.t k)
noncomputable def Yci.p (k:Nat):Pro:=⟨Tryz.prog,[(109,Yi.e k)],hints [] false [],k⟩
theorem Yci.ok (k:Nat):Zas Tryz.prog 72 (Yci.e k):=ent_ok (Yci.p k) mix tyok Tryz.func72 (Yi.ok k) Kr (λaB aA aD aE aG aJ aK a1=>Ks)
noncomputable def YbH.g {β:Type} (k:Nat) (a0:Int) (K:Bool->Option β):Option β:=
 K ((a0:Int)!=a0)
noncomputable def YbH.t (k:Nat) (a0:Int):=YbH.g k a0 (λz0=>some z0)
noncomputable def YbH.e (k:Nat):Za0:=ent [.d .n] [1] [.b] [4] false (YbH.t k)
noncomputable def YbH.p (k:Nat):Pro:=⟨Tryz.prog,[],hints [] false [],k⟩
theorem YbH.ok (k:Nat):Zas Tryz.prog 140 (YbH.e k):=ent_ok (YbH.p k) mix tyok Tryz.func140 trivial Kr (λa0=>Ks)
noncomputable def Ybs.g {β:Type} (k:Nat) (a0 a1:Int) (K:Int->Option β):Option β:=
 bd1 (YbH.t k a0) (λy1=>bd1 (YbH.t k a1) (λy2=>bif y1 then(bif y2 then(K 0) else(K (-1))) else(bif y2 then(K 1) else(bif(decide ((a0:Int)<a1)) then(K (-1)) else(bif(decide ((a0:Int)>a1)) then(K 1) else(K 0))))))
noncomputable def Ybs.t (k:Nat) (a0 a1:Int):=Ybs.g k a0 a1 (λz0=>some z0)
noncomputable def Ybs.e (k:Nat):Za0:=ent [.d .n,.d .n] [1] [.n] [3] false (Ybs.t k)
noncomputable def Ybs.p (k:Nat):Pro:=⟨Tryz.prog,[(140,YbH.e k)],hints [] false [],k⟩
theorem Ybs.ok (k:Nat):Zas Tryz.prog 111 (Ybs.e k):=ent_ok (Ybs.p k) mix tyok Tryz.func111 (YbH.ok k) Kr (λa0 a1=>Ks)
noncomputable def Yan.t (k:Nat) (a0 a1:BA):Option Int:=some (cmpS a0 a1)
noncomputable def Yan.f {β:Type} (k:Nat) (a0 a1:BA) (K:Int->Option β):Option β:=
 match Yan.t k a0 a1 with
 |some z0=>K z0
 |none=>none
noncomputable def Yan.run (k:Nat):{β:Type}->List A->(LC->List Out->Option β)->Option β:=λ{β} l K=>
 match l with
 |[.d (.str a0),.d (.str a1)]=>Yan.f k a0 a1 (λz0=>K [[.d (.int .i64 z0)]] [])
 |_=>none
noncomputable def Yan.e (k:Nat):Za0:={ modes:=[(.imm,0),(.imm,0)],rts:=[3],al:=false,run:=Yan.run k }
theorem Yan.calls (a b:BA) (w:World):Calls Tryz.prog 141 #[.string a,.string b] w λe w'=>e=.returned (.int .i64 (cmpS a b))/\w'=w:=by
 go_enter Tryz.func141,Tryz.ntmps141
 go_wp2
 rw[run_callFunc_extern Tryz.func167 Kr Kr Kr (e:=Extern.BytealgCompare.compare) Kr,Go.Lib.run_compareString];simp only[Result.andThen]
 rw[Oper.upon_value]
 go_wp2
 go_ret
 exact⟨rfl,rfl⟩
theorem Yan.ok (k:Nat):Zas Tryz.prog 141 (Yan.e k):=strs_ok (t:=3) (g:=cmpS) (run:=λ{β}=>Yan.run k) (enter_of Tryz.func141 Kr) Kr Kr Yan.calls (λβ aa K r h=>by
 unfold Yan.run at h;split at h
 ·exact⟨_,_,rfl,h⟩
 ·cases h)
noncomputable def Ybq.g {β:Type} (k:Nat) (a0 a1:BA) (K:Int->Option β):Option β:=
 Yan.f k a0 a1 (λy1=>K y1)
noncomputable def Ybq.t (k:Nat) (a0 a1:BA):=Ybq.g k a0 a1 (λz0=>some z0)
noncomputable def Ybq.e (k:Nat):Za0:=ent [.d .s,.d .s] [1] [.n] [3] false (Ybq.t k)
noncomputable def Ybq.p (k:Nat):Pro:=⟨Tryz.prog,[(141,Yan.e k)],hints [] false [],k⟩
theorem Ybq.ok (k:Nat):Zas Tryz.prog 112 (Ybq.e k):=ent_ok (Ybq.p k) mix tyok Tryz.func112 (Yan.ok k) Kr (λa0 a1=>Ks)
noncomputable def YbM.g {β:Type} (k:Nat) (aB:Int) (aA:BA) (aD aE aG aQ:Int) (aP:BA) (aR aS aT:Int) (K:Int->Option β):Option β:=
 bd1 (Ybs.t k aB aQ) (λy3=>bif((y3:Int)!=0) then(K y3) else(bd1 (Ybq.t k aA aP) (λy4=>K y4)))
noncomputable def YbM.t (k:Nat) (aB:Int) (aA:BA) (aD aE aG aQ:Int) (aP:BA) (aR aS aT:Int):=YbM.g k aB aA aD aE aG aQ aP aR aS aT (λz0=>some z0)
noncomputable def YbM.e (k:Nat):Za0:=ent [.agg [.n,.s,.n,.n,.n],.agg [.n,.s,.n,.n,.n]] [1] [.n] [3] false (YbM.t k)
noncomputable def YbM.p (k:Nat):Pro:=⟨Tryz.prog,[(111,Ybs.e k),(112,Ybq.e k)],hints [] false [],k⟩
theorem YbM.ok (k:Nat):Zas Tryz.prog 73 (YbM.e k):=ent_ok (YbM.p k) mix tyok Tryz.func73 ⟨Ybs.ok k,Ybq.ok k⟩ Kr (λaB aA aD aE aG aQ aP aR aS aT=>Ks)
noncomputable def YaY.l0 {β:Type} (k:Nat) (aF:LD) (aC aI aL aM:Int) (aN aO aU aV:LD) (K:Bool->Option β) (L0:Int->Option β) (v:Int):Option β:=
 match v with
 |aH=>bif(decide ((aH:Int)<aC)) then(atR aF aH [.n,.s,.n,.n,.n] λx106 x109 x112 x115 x118=>(bd1 (YaP.t k x112) (λy119=>bif(!y119) then(K false) else(bif(!(((x112:Int)==0)==(decide ((x118:Int)>0)))) then(K false) else(bd1 (YaP.t k x115) (λy120=>bif(!y120) then(K false) else(bd1 (Y4.t k x118 0 aI) (λy121=>bif(!y121) then(K false) else(bd1 (Ycc.t k aI aL aM aN aO aU aV x106) (λy122=>bif(decide ((y122:Int)<0)) then(K false) else(bd1 (Yci.t k aI aL aM aN aO aU aV x109) (λy123=>bif(decide ((y123:Int)<0)) then(K false) else(bif(decide ((aH:Int)>0)) then(atR aU (IntKind.wrap .i64 (aH-1)) [.n,.s,.n,.n,.n] λx127 x130 x133 x136 x139=>(bd1 (YbM.t k x127 x130 x133 x136 x139 x106 x109 x112 x115 x118) (λy140=>bif(decide ((y140:Int)>=0)) then(K false) else(L0 (IntKind.wrap .i64 (aH+1)))))) else(L0 (IntKind.wrap .i64 (aH+1)))))))))))))))) else(K true)
noncomputable def YaY.m {β:Type} (k:Nat) (aB aA aD:Int) (aE aG aJ aK:LD) (K:Bool->Option β) (F:(LD->Int->Int->Int->Int->LD->LD->LD->LD->Int->Option β)):Option β:=
 F aJ (aJ.length:Int) aB aA aD aE aG aJ aK (0)
noncomputable def YaY.g {β:Type} (k:Nat) (aB aA aD:Int) (aE aG aJ aK:LD) (K:Bool->Option β):Option β:=
 Za1 (YaY.l0 k aJ (aJ.length:Int) aB aA aD aE aG aJ aK K) k (0)
noncomputable def YaY.t (k:Nat) (aB aA aD:Int) (aE aG aJ aK:LD):=YaY.g k aB aA aD aE aG aJ aK (λz0=>some z0)
noncomputable def YaY.e (k:Nat):Za0:=ent [.agg [.n,.n,.n,.l,.l,.l,.l]] [1] [.b] [4] false (YaY.t k)
noncomputable def YaY.p (k:Nat):Pro:=⟨Tryz.prog,[(71,YaP.e k),(30,Y4.e k),(41,Ycc.e k),(72,Yci.e k),(73,YbM.e k)],hints [(2,kp [1,6,7,8])] false [],k⟩
theorem YaY.l0_eq (k:Nat) (aB aA aD:Int) (aE aG aJ aK aF:LD) (aC aI aL aM:Int) (aN aO aU aV:LD):LpEq ((YaY.p k).lf Tryz.f34 2 [1,0,1,0] [.agg [.int .i64 aB,.int .i64 aA,.int .i64 aD,.sl aE,.sl aG,.sl aJ,.sl aK]] [1] [.b]) (YaY.l0 k aF aC aI aL aM aN aO aU aV (λz0=>some z0)) (λaH=>mkSt 70 [(1,.bp 0 0),(6,.d false (.sl aF)),(7,.d true (.int .i64 aC)),(8,.d true (.int .i64 aH))] [.box none 34 [.d false (.int .i64 aI),.d false (.int .i64 aL),.d false (.int .i64 aM),.d false (.sl aN),.d false (.sl aO),.d false (.sl aU),.d false (.sl aV)]]):=lf_eq λL0 v=>by kernel_rfl
theorem YaY.ok (k:Nat):Zas Tryz.prog 34 (YaY.e k):=ent_ok (YaY.p k) mix tyok Tryz.func34 ⟨YaP.ok k,Y4.ok k,Ycc.ok k,Yci.ok k,YbM.ok k⟩ Kr (λaB aA aD aE aG aJ aK=>Eq.trans Kr (congrArg (YaY.m k aB aA aD aE aG aJ aK (λz0=>some z0)) (funext λaF=>funext λaC=>funext λaI=>funext λaL=>funext λaM=>funext λaN=>funext λaO=>funext λaU=>funext λaV=>funext λv=>YaY.l0_eq k aB aA aD aE aG aJ aK aF aC aI aL aM aN aO aU aV k v) :))
noncomputable def Ycn.g {β:Type} (k:Nat) (aB aA aD:Int) (aE aG aJ aK:LD) (K:Bool->Option β):Option β:=
 bd1 (Y4.t k aB 0 1000000) (λy1=>bif y1 then(bd1 (Y4.t k aA 1 1000000) (λy2=>bif y2 then(bd1 (Y4.t k aD 0 1000000) (λy3=>bif y3 then(bd1 (YS.t k aK 20) (λy23=>bif y23 then(bd1 (Ybe.t k aB aA aD aE aG aJ aK) (λy269=>bif y269 then(bd1 (YaW.t k aB aA aD aE aG aJ aK) (λy270=>bif y270 then(bd1 (YaY.t k aB aA aD aE aG aJ aK) (λy271=>K y271)) else(K false))) else(K false))) else(K false))) else(K false))) else(K false))) else(K false))
noncomputable def Ycn.t (k:Nat) (aB aA aD:Int) (aE aG aJ aK:LD):=Ycn.g k aB aA aD aE aG aJ aK (λz0=>some z0)
noncomputable def Ycn.e (k:Nat):Za0:=ent [.agg [.n,.n,.n,.l,.l,.l,.l]] [1] [.b] [4] false (Ycn.t k)
noncomputable def Ycn.p (k:Nat):Pro:=⟨Tryz.prog,[(30,Y4.e k),(31,YS.e k),(32,Ybe.e k),(33,YaW.e k),(34,YaY.e k)],hints [] false [],k⟩
theorem Ycn.ok (k:Nat):Zas Tryz.prog 8 (Ycn.e k):=ent_ok (Ycn.p k) mix tyok Tryz.func8 ⟨Y4.ok k,YS.ok k,Ybe.ok k,YaW.ok k,YaY.ok k⟩ Kr (λaB aA aD aE aG aJ aK=>Ks)
noncomputable def YbN.g {β:Type} (k:Nat) (aB:BA) (aA:LD) (f0_0:BA) (K:Bool->Option β):Option β:=
 K (ZP aB f0_0)
noncomputable def YbN.t (k:Nat) (aB:BA) (aA:LD) (f0_0:BA):=YbN.g k aB aA f0_0 (λz0=>some z0)
noncomputable def YbN.e (k:Nat):Za0:=ent [.agg [.s,.l],.ip [.s]] [1] [.b] [4] false (YbN.t k)
noncomputable def YbN.p (k:Nat):Pro:=⟨Tryz.prog,[],hints [] false [],k⟩
theorem YbN.ok (k:Nat):Zas Tryz.prog 81 (YbN.e k):=ent_ok (YbN.p k) mix tyok Tryz.func81 trivial Kr (λaB aA f0_0=>Ks)
noncomputable def Yj.l0 {β:Type} (k:Nat) (aF:LD) (aC:BA) (aH:Int) (K L0:Int->Option β) (v:Int):Option β:=
 match v with
 |aI=>bif(decide ((aI:Int)<aH)) then(atR aF aI [.s,.l] λx12 x15=>(bd1 (YbN.t k x12 x15 aC) (λy16=>bif y16 then(K aI) else(L0 (IntKind.wrap .i64 (aI+1)))))) else(K (-1))
noncomputable def Yj.m {β:Type} (k:Nat) (a0:LD) (a1_0_0:BA) (K:Int->Option β) (F:(LD->BA->Int->Int->Option β)):Option β:=
 F a0 a1_0_0 (a0.length:Int) (0)
noncomputable def Yj.g {β:Type} (k:Nat) (a0:LD) (a1_0_0:BA) (K:Int->Option β):Option β:=
 Za1 (Yj.l0 k a0 a1_0_0 (a0.length:Int) K) k (0)
noncomputable def Yj.t (k:Nat) (a0:LD) (a1_0_0:BA):=Yj.g k a0 a1_0_0 (λz0=>some z0)
noncomputable def Yj.e (k:Nat):Za0:=ent [.d .l,.fn 81 [[.s]]] [1] [.n] [3] false (Yj.t k)
noncomputable def Yj.p (k:Nat):Pro:=⟨Tryz.prog,[(81,YbN.e k)],hints [(2,kp [0,1,7,8])] false [],k⟩
theorem Yj.l0_eq (k:Nat) (a0:LD) (a1_0_0:BA) (aF:LD) (aC:BA) (aH:Int):LpEq ((Yj.p k).lf Tryz.f80 2 [1,0,1,0] [.d (.sl a0),.d (.fn 81 [[.str a1_0_0]])] [1] [.n]) (Yj.l0 k aF aC aH (λz0=>some z0)) (λaI=>mkSt 19 [(0,.d false (.sl aF)),(1,.d false (.fn 81 [[.str aC]])),(7,.d true (.int .i64 aH)),(8,.d true (.int .i64 aI))] []):=lf_eq λL0 v=>by kernel_rfl
theorem Yj.ok (k:Nat):Zas Tryz.prog 80 (Yj.e k):=ent_ok (Yj.p k) mix tyok Tryz.func80 (YbN.ok k) Kr (λa0 a1_0_0=>Eq.trans Kr (congrArg (Yj.m k a0 a1_0_0 (λz0=>some z0)) (funext λaF=>funext λaC=>funext λaH=>funext λv=>Yj.l0_eq k a0 a1_0_0 aF aC aH k v) :))
noncomputable def Yck.g {β:Type} (k:Nat) (aB:Int) (aA:BA) (aD:Int) (aE aG aJ:LD) (aK:Int) (aY:BA) (bE:Int) (bA bB bD:LD) (bF:Bool) (a1:BA) (K:Int->BA->Int->LC->LC->Bool->Option β):Option β:=
 bd1 (Yag.t k aK aY bE bA bB) (λy1=>let J0:=(K 0 (⟨#[]⟩:BA) 0 ([]:LC) ([]:LC) false);bif(!y1) then J0 else(bd1 (Yj.t k bD a1) (λy17=>bif(decide ((y17:Int)<0)) then(Yr.f k aK aY bE bA bB (λy18 y19 y20 y21 y22=>K y18 y19 y20 y21 y22 true)) else(atR bD y17 [.s,.l] λx26 x29=>(bd6 (Ya6.t k aK aY bE bA bB x29) (λy30 y31 y32 y33 y34 y35=>bif((y35:Int)!=(-1)) then J0 else(K y30 y31 y32 y33 y34 true)))))))
noncomputable def Yck.t (k:Nat) (aB:Int) (aA:BA) (aD:Int) (aE aG aJ:LD) (aK:Int) (aY:BA) (bE:Int) (bA bB bD:LD) (bF:Bool) (a1:BA):=Yck.g k aB aA aD aE aG aJ aK aY bE bA bB bD bF a1 (λz0 z1 z2 z3 z4 z5=>some (z0,z1,z2,z3,z4,z5))
noncomputable def Yck.e (k:Nat):Za0:=ent [.agg [.n,.s,.n,.l,.l,.l,.n,.s,.n,.l,.l,.l,.b],.d .s] [5,1] [.n,.s,.n,.o,.o,.b] [64,4] false (Yck.t k)
noncomputable def Yck.p (k:Nat):Pro:=⟨Tryz.prog,[(79,Yag.e k),(80,Yj.e k),(82,Yr.e k),(83,Ya6.e k)],hints [] false [],k⟩
theorem Yck.ok (k:Nat):Zas Tryz.prog 40 (Yck.e k):=ent_ok (Yck.p k) mix tyok Tryz.func40 ⟨Yag.ok k,Yj.ok k,Yr.ok k,Ya6.ok k⟩ Kr (λaB aA aD aE aG aJ aK aY bE bA bB bD bF a1=>Ks)
noncomputable def Ya5.l0 {β:Type} (k:Nat) (aF:BA) (aC:LD) (aH aL aM aN:Int) (aO aU aV aW:LD) (K:LC->Option β) (L0:(Int×LC)->Option β) (v:Int×LC):Option β:=
 match v with
 |(aI,aZ)=>bif(decide ((aI:Int)<aH)) then(atR aC aI [.n,.s,.n,.n,.n] λx339 x342 x345 x348 x351=>(bif(ZP x342 aF) then(bif((x351:Int)==0) then(bd1 (Ycc.t k aL aM aN aO aU aV aW x339) (λy352=>atR aO y352 [.n,.s,.n,.l,.l,.l,.n,.s,.n,.l,.l,.l,.b] λx356 x359 x362 x365 x368 x371 x374 x377 x380 x383 x386 x389 x392=>(bd6 (Yck.t k x356 x359 x362 x365 x368 x371 x374 x377 x380 x383 x386 x389 x392 aF) (λy393 y394 y395 y396 y397 y398=>Z0 (aZ.length+([[.d (.int .i64 x339),.d (.int .i64 x345),.d (.int .i64 y393),.d (.str y394),.d (.int .i64 y395),.own y396,.own y397]]:LC).length<=Zx) (L0 (IntKind.wrap .i64 (aI+1),aZ++([[.d (.int .i64 x339),.d (.int .i64 x345),.d (.int .i64 y393),.d (.str y394),.d (.int .i64 y395),.own y396,.own y397]]:LC))))))) else(L0 (IntKind.wrap .i64 (aI+1),aZ))) else(L0 (IntKind.wrap .i64 (aI+1),aZ)))) else(K aZ)
noncomputable def Ya5.m {β:Type} (k:Nat) (aB aA aD:Int) (aE aG aJ aK:LD) (a1:BA) (K:LC->Option β) (F:(BA->LD->Int->Int->Int->Int->LD->LD->LD->LD->(Int×LC)->Option β)):Option β:=
 bd1 (Ycn.t k aB aA aD aE aG aJ aK) (λy272=>bif(!y272) then(K ([]:LC)) else(F a1 aJ (aJ.length:Int) aB aA aD aE aG aJ aK (0,([]:LC))))
noncomputable def Ya5.g {β:Type} (k:Nat) (aB aA aD:Int) (aE aG aJ aK:LD) (a1:BA) (K:LC->Option β):Option β:=
 bd1 (Ycn.t k aB aA aD aE aG aJ aK) (λy272=>bif(!y272) then(K ([]:LC)) else(Za1 (Ya5.l0 k a1 aJ (aJ.length:Int) aB aA aD aE aG aJ aK K) k (0,([]:LC))))
noncomputable def Ya5.t (k:Nat) (aB aA aD:Int) (aE aG aJ aK:LD) (a1:BA):=Ya5.g k aB aA aD aE aG aJ aK a1 (λz0=>some z0)
noncomputable def Ya5.e (k:Nat):Za0:=ent [.agg [.n,.n,.n,.l,.l,.l,.l],.d .s] [1] [.o] [38] false (Ya5.t k)
noncomputable def Ya5.p (k:Nat):Pro:=⟨Tryz.prog,[(8,Ycn.e k),(41,Ycc.e k),(40,Yck.e k)],hints [(5,kp [1,2,5,16,17,18])] false [],k⟩
theorem Ya5.l0_eq (k:Nat) (aB aA aD:Int) (aE aG aJ aK:LD) (a1 aF:BA) (aC:LD) (aH aL aM aN:Int) (aO aU aV aW:LD):LpEq ((Ya5.p k).lf Tryz.f11 5 [1,1,1,0,1,0] [.agg [.int .i64 aB,.int .i64 aA,.int .i64 aD,.sl aE,.sl aG,.sl aJ,.sl aK],.d (.str a1)] [1] [.o]) (Ya5.l0 k aF aC aH aL aM aN aO aU aV aW (λz0=>some z0)) (λ(aI,aZ)=>mkSt 55 [(1,.d false (.str aF)),(2,.bp 0 0),(5,.row 1),(16,.d false (.sl aC)),(17,.d true (.int .i64 aH)),(18,.d true (.int .i64 aI))] [.box none 34 [.d false (.int .i64 aL),.d false (.int .i64 aM),.d false (.int .i64 aN),.d false (.sl aO),.d false (.sl aU),.d false (.sl aV),.d false (.sl aW)],.row none true 38 aZ]):=lf_eq λL0 v=>by obtain⟨aI,aZ⟩:=v;kernel_rfl
theorem Ya5.ok (k:Nat):Zas Tryz.prog 11 (Ya5.e k):=ent_ok (Ya5.p k) mix tyok Tryz.func11 ⟨Ycn.ok k,Ycc.ok k,Yck.ok k⟩ Kr (λaB aA aD aE aG aJ aK a1=>Eq.trans Kr (congrArg (Ya5.m k aB aA aD aE aG aJ aK a1 (λz0=>some z0)) (funext λaF=>funext λaC=>funext λaH=>funext λaL=>funext λaM=>funext λaN=>funext λaO=>funext λaU=>funext λaV=>funext λaW=>funext λv=>Ya5.l0_eq k aB aA aD aE aG aJ aK a1 aF aC aH aL aM aN aO aU aV aW k v) :))
noncomputable def YJ.l0 {β:Type} (k:Nat) (aF aC:LD) (K:Bool->Option β) (L0:Int->Option β) (v:Int):Option β:=
 match v with
 |aH=>bif(decide ((aH:Int)<(aF.length:Int))) then(atR aF aH [.s] λx12=>(atR aC aH [.s] λx16=>(bif(!(ZP x12 x16)) then(K false) else(L0 (IntKind.wrap .i64 (aH+1)))))) else(K true)
noncomputable def YJ.m {β:Type} (k:Nat) (a0 a1:LD) (K:Bool->Option β) (F:(LD->LD->Int->Option β)):Option β:=
 bif(((a0.length:Int):Int)!=(a1.length:Int)) then(K false) else(F a0 a1 (0))
noncomputable def YJ.g {β:Type} (k:Nat) (a0 a1:LD) (K:Bool->Option β):Option β:=
 bif(((a0.length:Int):Int)!=(a1.length:Int)) then(K false) else(Za1 (YJ.l0 k a0 a1 K) k (0))
noncomputable def YJ.t (k:Nat) (a0 a1:LD):=YJ.g k a0 a1 (λz0=>some z0)
noncomputable def YJ.e (k:Nat):Za0:=ent [.d .l,.d .l] [1] [.b] [4] false (YJ.t k)
noncomputable def YJ.p (k:Nat):Pro:=⟨Tryz.prog,[],hints [(4,kp [0,1,5])] false [],k⟩
theorem YJ.l0_eq (k:Nat) (a0 a1 aF aC:LD):LpEq ((YJ.p k).lf Tryz.f38 4 [1,1,0,1,0] [.d (.sl a0),.d (.sl a1)] [1] [.b]) (YJ.l0 k aF aC (λz0=>some z0)) (λaH=>mkSt 26 [(0,.d false (.sl aF)),(1,.d false (.sl aC)),(5,.d true (.int .i64 aH))] []):=lf_eq λL0 v=>by kernel_rfl
theorem YJ.ok (k:Nat):Zas Tryz.prog 38 (YJ.e k):=ent_ok (YJ.p k) mix tyok Tryz.func38 trivial Kr (λa0 a1=>Eq.trans Kr (congrArg (YJ.m k a0 a1 (λz0=>some z0)) (funext λaF=>funext λaC=>funext λv=>YJ.l0_eq k a0 a1 aF aC k v) :))
noncomputable def YG.l0 {β:Type} (k:Nat) (r_laws_eqValueS:LD->LD->(Bool->Option β)->Option β) (r_laws_eqValue:Int->BA->Int->LD->LD->Int->BA->Int->LD->LD->(Bool->Option β)->Option β) (aF aC:LD) (K:Bool->Option β) (L0:Int->Option β) (v:Int):Option β:=
 match v with
 |aH=>bif(decide ((aH:Int)<(aF.length:Int))) then(atR aF aH [.n,.s,.n,.l,.l] λx37 x40 x43 x46 x49=>(atR aC aH [.n,.s,.n,.l,.l] λx53 x56 x59 x62 x65=>(r_laws_eqValue x37 x40 x43 x46 x49 x53 x56 x59 x62 x65 (λy66=>bif(!y66) then(K false) else(L0 (IntKind.wrap .i64 (aH+1))))))) else(K true)
noncomputable def YG.m {β:Type} (k:Nat) (r_laws_eqValueS:LD->LD->(Bool->Option β)->Option β) (r_laws_eqValue:Int->BA->Int->LD->LD->Int->BA->Int->LD->LD->(Bool->Option β)->Option β) (a0 a1:LD) (K:Bool->Option β) (F:(LD->LD->Int->Option β)):Option β:=
 bif(((a0.length:Int):Int)!=(a1.length:Int)) then(K false) else(F a0 a1 (0))
noncomputable def YG.body {β:Type} (k:Nat) (r_laws_eqValueS:LD->LD->(Bool->Option β)->Option β) (r_laws_eqValue:Int->BA->Int->LD->LD->Int->BA->Int->LD->LD->(Bool->Option β)->Option β) (a0 a1:LD) (K:Bool->Option β):Option β:=
 bif(((a0.length:Int):Int)!=(a1.length:Int)) then(K false) else(Za1 (YG.l0 k r_laws_eqValueS r_laws_eqValue a0 a1 K) k (0))
noncomputable def YN.body {β:Type} (k:Nat) (r_laws_eqValueS:LD->LD->(Bool->Option β)->Option β) (r_laws_eqValue:Int->BA->Int->LD->LD->Int->BA->Int->LD->LD->(Bool->Option β)->Option β) (aB:Int) (aA:BA) (aD:Int) (aE aG:LD) (aQ:Int) (aP:BA) (aR:Int) (aS aT:LD) (K:Bool->Option β):Option β:=
 bif((aB:Int)!=aQ) then(K false) else(bif(!(ZP aA aP)) then(K false) else(bif((aD:Int)!=aR) then(K false) else(bd1 (YJ.t k aE aS) (λy17=>bif(!y17) then(K false) else(r_laws_eqValueS aG aT (λy67=>bif(!y67) then(K false) else(K true)))))))
noncomputable def YG.w {β:Type} (r:LD->LD->Option (Bool)) (a0 a1:LD) (K:Bool->Option β):Option β:=bd1 (r a0 a1) K
noncomputable def YN.w {β:Type} (r:Int->BA->Int->LD->LD->Int->BA->Int->LD->LD->Option (Bool)) (aB:Int) (aA:BA) (aD:Int) (aE aG:LD) (aQ:Int) (aP:BA) (aR:Int) (aS aT:LD) (K:Bool->Option β):Option β:=bd1 (r aB aA aD aE aG aQ aP aR aS aT) K
noncomputable def YG.all:Nat->(LD->LD->Option (Bool))×(Int->BA->Int->LD->LD->Int->BA->Int->LD->LD->Option (Bool))
 |0=>(λ_ _=>none,λ_ _ _ _ _ _ _ _ _ _=>none)
 |k+1=>(λr=>(λa0 a1=>YG.body k (YG.w r.1) (YN.w r.2) a0 a1 (λz0=>some z0),λaB aA aD aE aG aQ aP aR aS aT=>YN.body k (YG.w r.1) (YN.w r.2) aB aA aD aE aG aQ aP aR aS aT (λz0=>some z0))) (YG.all k)
noncomputable def YG.t (k:Nat) (a0 a1:LD):Option (Bool):=(YG.all k).1 a0 a1
noncomputable def YN.t (k:Nat) (aB:Int) (aA:BA) (aD:Int) (aE aG:LD) (aQ:Int) (aP:BA) (aR:Int) (aS aT:LD):Option (Bool):=(YG.all k).2 aB aA aD aE aG aQ aP aR aS aT
noncomputable def YG.f {β:Type} (k:Nat) (a0 a1:LD) (K:Bool->Option β):Option β:=YG.w (YG.t k) a0 a1 K
noncomputable def YN.f {β:Type} (k:Nat) (aB:Int) (aA:BA) (aD:Int) (aE aG:LD) (aQ:Int) (aP:BA) (aR:Int) (aS aT:LD) (K:Bool->Option β):Option β:=YN.w (YN.t k) aB aA aD aE aG aQ aP aR aS aT K
noncomputable def YG.g {β:Type} (k:Nat) (a0 a1:LD) (K:Bool->Option β):Option β:=YG.body k (YG.f k) (YN.f k) a0 a1 K
theorem YG.t_succ (k:Nat) (a0 a1:LD):YG.t (k+1) a0 a1=YG.g k a0 a1 (λz0=>some z0):=rfl
noncomputable def YN.g {β:Type} (k:Nat) (aB:Int) (aA:BA) (aD:Int) (aE aG:LD) (aQ:Int) (aP:BA) (aR:Int) (aS aT:LD) (K:Bool->Option β):Option β:=YN.body k (YG.f k) (YN.f k) aB aA aD aE aG aQ aP aR aS aT K
theorem YN.t_succ (k:Nat) (aB:Int) (aA:BA) (aD:Int) (aE aG:LD) (aQ:Int) (aP:BA) (aR:Int) (aS aT:LD):YN.t (k+1) aB aA aD aE aG aQ aP aR aS aT=YN.g k aB aA aD aE aG aQ aP aR aS aT (λz0=>some z0):=rfl
noncomputable def YG.e (k:Nat):Za0:=ent [.d .l,.d .l] [1] [.b] [4] false (YG.t k)
noncomputable def YN.e (k:Nat):Za0:=ent [.agg [.n,.s,.n,.l,.l],.agg [.n,.s,.n,.l,.l]] [1] [.b] [4] false (YN.t k)
noncomputable def YG.p (k:Nat):Pro:=⟨Tryz.prog,[(86,YN.e k)],hints [(4,kp [0,1,5])] false [],k⟩
theorem YG.l0_eq (k:Nat) (a0 a1 aF aC:LD):LpEq ((YG.p k).lf Tryz.f122 4 [1,1,0,1,0] [.d (.sl a0),.d (.sl a1)] [1] [.b]) (YG.l0 k (YG.f k) (YN.f k) aF aC (λz0=>some z0)) (λaH=>mkSt 27 [(0,.d false (.sl aF)),(1,.d false (.sl aC)),(5,.d true (.int .i64 aH))] []):=lf_eq λL0 v=>by kernel_rfl
noncomputable def YN.p (k:Nat):Pro:=⟨Tryz.prog,[(38,YJ.e k),(122,YG.e k)],hints [] false [],k⟩
theorem YG.oks (k:Nat):Zas Tryz.prog 122 (YG.e k)/\Zas Tryz.prog 86 (YN.e k):=by
 induction k with
 |zero=>exact⟨ent_zero Tryz.func122 Kr (λ_ _=>rfl),
  ent_zero Tryz.func86 Kr (λ_ _ _ _ _ _ _ _ _ _=>rfl)⟩
 |succ k ih=>exact⟨ent_ok (YG.p k) mix tyok Tryz.func122 ih.2 Kr (λa0 a1=>Eq.trans Kr ((congrArg (YG.m k (YG.f k) (YN.f k) a0 a1 (λz0=>some z0)) (funext λaF=>funext λaC=>funext λv=>YG.l0_eq k a0 a1 aF aC k v)).trans (YG.t_succ k a0 a1).symm)),
  ent_ok (YN.p k) mix tyok Tryz.func86 ⟨YJ.ok k,ih.1⟩ Kr (λaB aA aD aE aG aQ aP aR aS aT=>Ks)⟩
theorem YN.ok (k:Nat):Zas Tryz.prog 86 (YN.e k):=(YG.oks k).2
noncomputable def YbW.g {β:Type} (k:Nat) (aB aA aD:Int) (aE:BA) (aG:Int) (aJ aK:LD) (aQ aP aR:Int) (aS:BA) (aT:Int) (aX bC:LD) (K:Bool->Option β):Option β:=
 bif((aB:Int)!=aQ) then(K false) else(bif((aA:Int)!=aP) then(K false) else(YN.f k aD aE aG aJ aK aR aS aT aX bC (λy68=>bif(!y68) then(K false) else(K true))))
noncomputable def YbW.t (k:Nat) (aB aA aD:Int) (aE:BA) (aG:Int) (aJ aK:LD) (aQ aP aR:Int) (aS:BA) (aT:Int) (aX bC:LD):=YbW.g k aB aA aD aE aG aJ aK aQ aP aR aS aT aX bC (λz0=>some z0)
noncomputable def YbW.e (k:Nat):Za0:=ent [.agg [.n,.n,.n,.s,.n,.l,.l],.agg [.n,.n,.n,.s,.n,.l,.l]] [1] [.b] [4] false (YbW.t k)
noncomputable def YbW.p (k:Nat):Pro:=⟨Tryz.prog,[(86,YN.e k)],hints [] false [],k⟩
theorem YbW.ok (k:Nat):Zas Tryz.prog 42 (YbW.e k):=ent_ok (YbW.p k) mix tyok Tryz.func42 (YN.ok k) Kr (λaB aA aD aE aG aJ aK aQ aP aR aS aT aX bC=>Ks)
noncomputable def Yal.l0 {β:Type} (k:Nat) (aF aC:LD) (K:Bool->Option β) (L0:Int->Option β) (v:Int):Option β:=
 match v with
 |aH=>bif(decide ((aH:Int)<(aF.length:Int))) then(atR aF aH [.n,.n,.n,.s,.n,.l,.l] λx73 x76 x79 x82 x85 x88 x91=>(atR aC aH [.n,.n,.n,.s,.n,.l,.l] λx95 x98 x101 x104 x107 x110 x113=>(bd1 (YbW.t k x73 x76 x79 x82 x85 x88 x91 x95 x98 x101 x104 x107 x110 x113) (λy114=>bif(!y114) then(K false) else(L0 (IntKind.wrap .i64 (aH+1))))))) else(K true)
noncomputable def Yal.m {β:Type} (k:Nat) (a0 a1:LD) (K:Bool->Option β) (F:(LD->LD->Int->Option β)):Option β:=
 bif(((a0.length:Int):Int)!=(a1.length:Int)) then(K false) else(F a0 a1 (0))
noncomputable def Yal.g {β:Type} (k:Nat) (a0 a1:LD) (K:Bool->Option β):Option β:=
 bif(((a0.length:Int):Int)!=(a1.length:Int)) then(K false) else(Za1 (Yal.l0 k a0 a1 K) k (0))
noncomputable def Yal.t (k:Nat) (a0 a1:LD):=Yal.g k a0 a1 (λz0=>some z0)
noncomputable def Yal.e (k:Nat):Za0:=ent [.d .l,.d .l] [1] [.b] [4] false (Yal.t k)
noncomputable def Yal.p (k:Nat):Pro:=⟨Tryz.prog,[(42,YbW.e k)],hints [(4,kp [0,1,5])] false [],k⟩
theorem Yal.l0_eq (k:Nat) (a0 a1 aF aC:LD):LpEq ((Yal.p k).lf Tryz.f12 4 [1,1,0,1,0] [.d (.sl a0),.d (.sl a1)] [1] [.b]) (Yal.l0 k aF aC (λz0=>some z0)) (λaH=>mkSt 27 [(0,.d false (.sl aF)),(1,.d false (.sl aC)),(5,.d true (.int .i64 aH))] []):=lf_eq λL0 v=>by kernel_rfl
theorem Yal.ok (k:Nat):Zas Tryz.prog 12 (Yal.e k):=ent_ok (Yal.p k) mix tyok Tryz.func12 (YbW.ok k) Kr (λa0 a1=>Eq.trans Kr (congrArg (Yal.m k a0 a1 (λz0=>some z0)) (funext λaF=>funext λaC=>funext λv=>Yal.l0_eq k a0 a1 aF aC k v) :))
noncomputable def YbX.g {β:Type} (k:Nat) (aB:Int) (aA:BA) (aD:LD) (aQ:Int) (aP:BA) (aR:LD) (K:Bool->Option β):Option β:=
 bif((aB:Int)!=aQ) then(K false) else(bif(!(ZP aA aP)) then(K false) else(bd1 (YJ.t k aD aR) (λy1=>bif(!y1) then(K false) else(K true))))
noncomputable def YbX.t (k:Nat) (aB:Int) (aA:BA) (aD:LD) (aQ:Int) (aP:BA) (aR:LD):=YbX.g k aB aA aD aQ aP aR (λz0=>some z0)
noncomputable def YbX.e (k:Nat):Za0:=ent [.agg [.n,.s,.l],.agg [.n,.s,.l]] [1] [.b] [4] false (YbX.t k)
noncomputable def YbX.p (k:Nat):Pro:=⟨Tryz.prog,[(38,YJ.e k)],hints [] false [],k⟩
theorem YbX.ok (k:Nat):Zas Tryz.prog 168 (YbX.e k):=ent_ok (YbX.p k) mix tyok Tryz.func168 (YJ.ok k) Kr (λaB aA aD aQ aP aR=>Ks)
noncomputable def YaK.l0 {β:Type} (k:Nat) (aF aC:LD) (K:Bool->Option β) (L0:Int->Option β) (v:Int):Option β:=
 match v with
 |aH=>bif(decide ((aH:Int)<(aF.length:Int))) then(atR aF aH [.n,.s,.l] λx25 x28 x31=>(atR aC aH [.n,.s,.l] λx35 x38 x41=>(bd1 (YbX.t k x25 x28 x31 x35 x38 x41) (λy42=>bif(!y42) then(K false) else(L0 (IntKind.wrap .i64 (aH+1))))))) else(K true)
noncomputable def YaK.m {β:Type} (k:Nat) (a0 a1:LD) (K:Bool->Option β) (F:(LD->LD->Int->Option β)):Option β:=
 bif(((a0.length:Int):Int)!=(a1.length:Int)) then(K false) else(F a0 a1 (0))
noncomputable def YaK.g {β:Type} (k:Nat) (a0 a1:LD) (K:Bool->Option β):Option β:=
 bif(((a0.length:Int):Int)!=(a1.length:Int)) then(K false) else(Za1 (YaK.l0 k a0 a1 K) k (0))
noncomputable def YaK.t (k:Nat) (a0 a1:LD):=YaK.g k a0 a1 (λz0=>some z0)
noncomputable def YaK.e (k:Nat):Za0:=ent [.d .l,.d .l] [1] [.b] [4] false (YaK.t k)
noncomputable def YaK.p (k:Nat):Pro:=⟨Tryz.prog,[(168,YbX.e k)],hints [(4,kp [0,1,5])] false [],k⟩
theorem YaK.l0_eq (k:Nat) (a0 a1 aF aC:LD):LpEq ((YaK.p k).lf Tryz.f142 4 [1,1,0,1,0] [.d (.sl a0),.d (.sl a1)] [1] [.b]) (YaK.l0 k aF aC (λz0=>some z0)) (λaH=>mkSt 27 [(0,.d false (.sl aF)),(1,.d false (.sl aC)),(5,.d true (.int .i64 aH))] []):=lf_eq λL0 v=>by kernel_rfl
theorem YaK.ok (k:Nat):Zas Tryz.prog 142 (YaK.e k):=ent_ok (YaK.p k) mix tyok Tryz.func142 (YbX.ok k) Kr (λa0 a1=>Eq.trans Kr (congrArg (YaK.m k a0 a1 (λz0=>some z0)) (funext λaF=>funext λaC=>funext λv=>YaK.l0_eq k a0 a1 aF aC k v) :))
noncomputable def YbC.g {β:Type} (k:Nat) (aB:BA) (aA:Int) (aQ:BA) (aP:Int) (K:Bool->Option β):Option β:=
 bif(!(ZP aB aQ)) then(K false) else(bif((aA:Int)!=aP) then(K false) else(K true))
noncomputable def YbC.t (k:Nat) (aB:BA) (aA:Int) (aQ:BA) (aP:Int):=YbC.g k aB aA aQ aP (λz0=>some z0)
noncomputable def YbC.e (k:Nat):Za0:=ent [.agg [.s,.n],.agg [.s,.n]] [1] [.b] [4] false (YbC.t k)
noncomputable def YbC.p (k:Nat):Pro:=⟨Tryz.prog,[],hints [] false [],k⟩
theorem YbC.ok (k:Nat):Zas Tryz.prog 169 (YbC.e k):=ent_ok (YbC.p k) mix tyok Tryz.func169 trivial Kr (λaB aA aQ aP=>Ks)
noncomputable def Yat.l0 {β:Type} (k:Nat) (aF aC:LD) (K:Bool->Option β) (L0:Int->Option β) (v:Int):Option β:=
 match v with
 |aH=>bif(decide ((aH:Int)<(aF.length:Int))) then(atR aF aH [.s,.n] λx19 x22=>(atR aC aH [.s,.n] λx26 x29=>(bd1 (YbC.t k x19 x22 x26 x29) (λy30=>bif(!y30) then(K false) else(L0 (IntKind.wrap .i64 (aH+1))))))) else(K true)
noncomputable def Yat.m {β:Type} (k:Nat) (a0 a1:LD) (K:Bool->Option β) (F:(LD->LD->Int->Option β)):Option β:=
 bif(((a0.length:Int):Int)!=(a1.length:Int)) then(K false) else(F a0 a1 (0))
noncomputable def Yat.g {β:Type} (k:Nat) (a0 a1:LD) (K:Bool->Option β):Option β:=
 bif(((a0.length:Int):Int)!=(a1.length:Int)) then(K false) else(Za1 (Yat.l0 k a0 a1 K) k (0))
noncomputable def Yat.t (k:Nat) (a0 a1:LD):=Yat.g k a0 a1 (λz0=>some z0)
noncomputable def Yat.e (k:Nat):Za0:=ent [.d .l,.d .l] [1] [.b] [4] false (Yat.t k)
noncomputable def Yat.p (k:Nat):Pro:=⟨Tryz.prog,[(169,YbC.e k)],hints [(4,kp [0,1,5])] false [],k⟩
theorem Yat.l0_eq (k:Nat) (a0 a1 aF aC:LD):LpEq ((Yat.p k).lf Tryz.f143 4 [1,1,0,1,0] [.d (.sl a0),.d (.sl a1)] [1] [.b]) (Yat.l0 k aF aC (λz0=>some z0)) (λaH=>mkSt 27 [(0,.d false (.sl aF)),(1,.d false (.sl aC)),(5,.d true (.int .i64 aH))] []):=lf_eq λL0 v=>by kernel_rfl
theorem Yat.ok (k:Nat):Zas Tryz.prog 143 (Yat.e k):=ent_ok (Yat.p k) mix tyok Tryz.func143 (YbC.ok k) Kr (λa0 a1=>Eq.trans Kr (congrArg (Yat.m k a0 a1 (λz0=>some z0)) (funext λaF=>funext λaC=>funext λv=>Yat.l0_eq k a0 a1 aF aC k v) :))
noncomputable def Yb4.g {β:Type} (k:Nat) (aB:Int) (aA aD aE:LD) (aQ:Int) (aP aR aS:LD) (K:Bool->Option β):Option β:=
 bif((aB:Int)!=aQ) then(K false) else(bd1 (YaK.t k aA aP) (λy43=>bif(!y43) then(K false) else(bd1 (YJ.t k aD aR) (λy44=>bif(!y44) then(K false) else(bd1 (Yat.t k aE aS) (λy45=>bif(!y45) then(K false) else(K true)))))))
noncomputable def Yb4.t (k:Nat) (aB:Int) (aA aD aE:LD) (aQ:Int) (aP aR aS:LD):=Yb4.g k aB aA aD aE aQ aP aR aS (λz0=>some z0)
noncomputable def Yb4.e (k:Nat):Za0:=ent [.agg [.n,.l,.l,.l],.agg [.n,.l,.l,.l]] [1] [.b] [4] false (Yb4.t k)
noncomputable def Yb4.p (k:Nat):Pro:=⟨Tryz.prog,[(142,YaK.e k),(38,YJ.e k),(143,Yat.e k)],hints [] false [],k⟩
theorem Yb4.ok (k:Nat):Zas Tryz.prog 113 (Yb4.e k):=ent_ok (Yb4.p k) mix tyok Tryz.func113 ⟨YaK.ok k,YJ.ok k,Yat.ok k⟩ Kr (λaB aA aD aE aQ aP aR aS=>Ks)
noncomputable def Ycq.g {β:Type} (k:Nat) (aB:Int) (aA:LD) (aD:Int) (aE:BA) (aG:Int) (aJ aK:LD) (aQ:Int) (aP:LD) (aR:Int) (aS:BA) (aT:Int) (aX bC:LD) (K:Bool->Option β):Option β:=
 bif((aB:Int)!=aQ) then(K false) else(bd1 (YJ.t k aA aP) (λy1=>bif(!y1) then(K false) else(YN.f k aD aE aG aJ aK aR aS aT aX bC (λy2=>bif(!y2) then(K false) else(K true)))))
noncomputable def Ycq.t (k:Nat) (aB:Int) (aA:LD) (aD:Int) (aE:BA) (aG:Int) (aJ aK:LD) (aQ:Int) (aP:LD) (aR:Int) (aS:BA) (aT:Int) (aX bC:LD):=Ycq.g k aB aA aD aE aG aJ aK aQ aP aR aS aT aX bC (λz0=>some z0)
noncomputable def Ycq.e (k:Nat):Za0:=ent [.agg [.n,.l,.n,.s,.n,.l,.l],.agg [.n,.l,.n,.s,.n,.l,.l]] [1] [.b] [4] false (Ycq.t k)
noncomputable def Ycq.p (k:Nat):Pro:=⟨Tryz.prog,[(38,YJ.e k),(86,YN.e k)],hints [] false [],k⟩
theorem Ycq.ok (k:Nat):Zas Tryz.prog 187 (Ycq.e k):=ent_ok (Ycq.p k) mix tyok Tryz.func187 ⟨YJ.ok k,YN.ok k⟩ Kr (λaB aA aD aE aG aJ aK aQ aP aR aS aT aX bC=>Ks)
noncomputable def Ybk.l0 {β:Type} (k:Nat) (aF aC:LD) (K:Bool->Option β) (L0:Int->Option β) (v:Int):Option β:=
 match v with
 |aH=>bif(decide ((aH:Int)<(aF.length:Int))) then(atR aF aH [.n,.l,.n,.s,.n,.l,.l] λx49 x52 x55 x58 x61 x64 x67=>(atR aC aH [.n,.l,.n,.s,.n,.l,.l] λx71 x74 x77 x80 x83 x86 x89=>(bd1 (Ycq.t k x49 x52 x55 x58 x61 x64 x67 x71 x74 x77 x80 x83 x86 x89) (λy90=>bif(!y90) then(K false) else(L0 (IntKind.wrap .i64 (aH+1))))))) else(K true)
noncomputable def Ybk.m {β:Type} (k:Nat) (a0 a1:LD) (K:Bool->Option β) (F:(LD->LD->Int->Option β)):Option β:=
 bif(((a0.length:Int):Int)!=(a1.length:Int)) then(K false) else(F a0 a1 (0))
noncomputable def Ybk.g {β:Type} (k:Nat) (a0 a1:LD) (K:Bool->Option β):Option β:=
 bif(((a0.length:Int):Int)!=(a1.length:Int)) then(K false) else(Za1 (Ybk.l0 k a0 a1 K) k (0))
noncomputable def Ybk.t (k:Nat) (a0 a1:LD):=Ybk.g k a0 a1 (λz0=>some z0)
noncomputable def Ybk.e (k:Nat):Za0:=ent [.d .l,.d .l] [1] [.b] [4] false (Ybk.t k)
noncomputable def Ybk.p (k:Nat):Pro:=⟨Tryz.prog,[(187,Ycq.e k)],hints [(4,kp [0,1,5])] false [],k⟩
theorem Ybk.l0_eq (k:Nat) (a0 a1 aF aC:LD):LpEq ((Ybk.p k).lf Tryz.f170 4 [1,1,0,1,0] [.d (.sl a0),.d (.sl a1)] [1] [.b]) (Ybk.l0 k aF aC (λz0=>some z0)) (λaH=>mkSt 27 [(0,.d false (.sl aF)),(1,.d false (.sl aC)),(5,.d true (.int .i64 aH))] []):=lf_eq λL0 v=>by kernel_rfl
theorem Ybk.ok (k:Nat):Zas Tryz.prog 170 (Ybk.e k):=ent_ok (Ybk.p k) mix tyok Tryz.func170 (Ycq.ok k) Kr (λa0 a1=>Eq.trans Kr (congrArg (Ybk.m k a0 a1 (λz0=>some z0)) (funext λaF=>funext λaC=>funext λv=>Ybk.l0_eq k a0 a1 aF aC k v) :))
noncomputable def YbZ.g {β:Type} (k:Nat) (aB:BA) (aA:LD) (aQ:BA) (aP:LD) (K:Bool->Option β):Option β:=
 bif(!(ZP aB aQ)) then(K false) else(bd1 (Ybk.t k aA aP) (λy91=>bif(!y91) then(K false) else(K true)))
noncomputable def YbZ.t (k:Nat) (aB:BA) (aA:LD) (aQ:BA) (aP:LD):=YbZ.g k aB aA aQ aP (λz0=>some z0)
noncomputable def YbZ.e (k:Nat):Za0:=ent [.agg [.s,.l],.agg [.s,.l]] [1] [.b] [4] false (YbZ.t k)
noncomputable def YbZ.p (k:Nat):Pro:=⟨Tryz.prog,[(170,Ybk.e k)],hints [] false [],k⟩
theorem YbZ.ok (k:Nat):Zas Tryz.prog 144 (YbZ.e k):=ent_ok (YbZ.p k) mix tyok Tryz.func144 (Ybk.ok k) Kr (λaB aA aQ aP=>Ks)
noncomputable def YaM.l0 {β:Type} (k:Nat) (aF aC:LD) (K:Bool->Option β) (L0:Int->Option β) (v:Int):Option β:=
 match v with
 |aH=>bif(decide ((aH:Int)<(aF.length:Int))) then(atR aF aH [.s,.l] λx96 x99=>(atR aC aH [.s,.l] λx103 x106=>(bd1 (YbZ.t k x96 x99 x103 x106) (λy107=>bif(!y107) then(K false) else(L0 (IntKind.wrap .i64 (aH+1))))))) else(K true)
noncomputable def YaM.m {β:Type} (k:Nat) (a0 a1:LD) (K:Bool->Option β) (F:(LD->LD->Int->Option β)):Option β:=
 bif(((a0.length:Int):Int)!=(a1.length:Int)) then(K false) else(F a0 a1 (0))
noncomputable def YaM.g {β:Type} (k:Nat) (a0 a1:LD) (K:Bool->Option β):Option β:=
 bif(((a0.length:Int):Int)!=(a1.length:Int)) then(K false) else(Za1 (YaM.l0 k a0 a1 K) k (0))
noncomputable def YaM.t (k:Nat) (a0 a1:LD):=YaM.g k a0 a1 (λz0=>some z0)
noncomputable def YaM.e (k:Nat):Za0:=ent [.d .l,.d .l] [1] [.b] [4] false (YaM.t k)
noncomputable def YaM.p (k:Nat):Pro:=⟨Tryz.prog,[(144,YbZ.e k)],hints [(4,kp [0,1,5])] false [],k⟩
theorem YaM.l0_eq (k:Nat) (a0 a1 aF aC:LD):LpEq ((YaM.p k).lf Tryz.f114 4 [1,1,0,1,0] [.d (.sl a0),.d (.sl a1)] [1] [.b]) (YaM.l0 k aF aC (λz0=>some z0)) (λaH=>mkSt 27 [(0,.d false (.sl aF)),(1,.d false (.sl aC)),(5,.d true (.int .i64 aH))] []):=lf_eq λL0 v=>by kernel_rfl
theorem YaM.ok (k:Nat):Zas Tryz.prog 114 (YaM.e k):=ent_ok (YaM.p k) mix tyok Tryz.func114 (YbZ.ok k) Kr (λa0 a1=>Eq.trans Kr (congrArg (YaM.m k a0 a1 (λz0=>some z0)) (funext λaF=>funext λaC=>funext λv=>YaM.l0_eq k a0 a1 aF aC k v) :))
noncomputable def Ycb.g {β:Type} (k:Nat) (aB:Int) (aA:BA) (aD:Int) (aE aG aJ:LD) (aK:Int) (aY:BA) (bE:Int) (bA bB bD:LD) (bF:Bool) (aQ:Int) (aP:BA) (aR:Int) (aS aT aX:LD) (bC:Int) (a1_7:BA) (a1_8:Int) (a1_9 a1_10 a1_11:LD) (a1_12:Bool) (K:Bool->Option β):Option β:=
 bif((aB:Int)!=aQ) then(K false) else(bif(!(ZP aA aP)) then(K false) else(bd1 (Yb4.t k aD aE aG aJ aR aS aT aX) (λy46=>bif(!y46) then(K false) else(YN.f k aK aY bE bA bB bC a1_7 a1_8 a1_9 a1_10 (λy47=>bif(!y47) then(K false) else(bd1 (YaM.t k bD a1_11) (λy108=>bif(!y108) then(K false) else(bif(!(bF==a1_12)) then(K false) else(K true)))))))))
noncomputable def Ycb.t (k:Nat) (aB:Int) (aA:BA) (aD:Int) (aE aG aJ:LD) (aK:Int) (aY:BA) (bE:Int) (bA bB bD:LD) (bF:Bool) (aQ:Int) (aP:BA) (aR:Int) (aS aT aX:LD) (bC:Int) (a1_7:BA) (a1_8:Int) (a1_9 a1_10 a1_11:LD) (a1_12:Bool):=Ycb.g k aB aA aD aE aG aJ aK aY bE bA bB bD bF aQ aP aR aS aT aX bC a1_7 a1_8 a1_9 a1_10 a1_11 a1_12 (λz0=>some z0)
noncomputable def Ycb.e (k:Nat):Za0:=ent [.agg [.n,.s,.n,.l,.l,.l,.n,.s,.n,.l,.l,.l,.b],.agg [.n,.s,.n,.l,.l,.l,.n,.s,.n,.l,.l,.l,.b]] [1] [.b] [4] false (Ycb.t k)
noncomputable def Ycb.p (k:Nat):Pro:=⟨Tryz.prog,[(113,Yb4.e k),(86,YN.e k),(114,YaM.e k)],hints [] false [],k⟩
theorem Ycb.ok (k:Nat):Zas Tryz.prog 74 (Ycb.e k):=ent_ok (Ycb.p k) mix tyok Tryz.func74 ⟨Yb4.ok k,YN.ok k,YaM.ok k⟩ Kr (λaB aA aD aE aG aJ aK aY bE bA bB bD bF aQ aP aR aS aT aX bC a1_7 a1_8 a1_9 a1_10 a1_11 a1_12=>Ks)
noncomputable def Ya1.l0 {β:Type} (k:Nat) (aF aC:LD) (K:Bool->Option β) (L0:Int->Option β) (v:Int):Option β:=
 match v with
 |aH=>bif(decide ((aH:Int)<(aF.length:Int))) then(atR aF aH [.n,.s,.n,.l,.l,.l,.n,.s,.n,.l,.l,.l,.b] λx113 x116 x119 x122 x125 x128 x131 x134 x137 x140 x143 x146 x149=>(atR aC aH [.n,.s,.n,.l,.l,.l,.n,.s,.n,.l,.l,.l,.b] λx153 x156 x159 x162 x165 x168 x171 x174 x177 x180 x183 x186 x189=>(bd1 (Ycb.t k x113 x116 x119 x122 x125 x128 x131 x134 x137 x140 x143 x146 x149 x153 x156 x159 x162 x165 x168 x171 x174 x177 x180 x183 x186 x189) (λy190=>bif(!y190) then(K false) else(L0 (IntKind.wrap .i64 (aH+1))))))) else(K true)
noncomputable def Ya1.m {β:Type} (k:Nat) (a0 a1:LD) (K:Bool->Option β) (F:(LD->LD->Int->Option β)):Option β:=
 bif(((a0.length:Int):Int)!=(a1.length:Int)) then(K false) else(F a0 a1 (0))
noncomputable def Ya1.g {β:Type} (k:Nat) (a0 a1:LD) (K:Bool->Option β):Option β:=
 bif(((a0.length:Int):Int)!=(a1.length:Int)) then(K false) else(Za1 (Ya1.l0 k a0 a1 K) k (0))
noncomputable def Ya1.t (k:Nat) (a0 a1:LD):=Ya1.g k a0 a1 (λz0=>some z0)
noncomputable def Ya1.e (k:Nat):Za0:=ent [.d .l,.d .l] [1] [.b] [4] false (Ya1.t k)
noncomputable def Ya1.p (k:Nat):Pro:=⟨Tryz.prog,[(74,Ycb.e k)],hints [(4,kp [0,1,5])] false [],k⟩
theorem Ya1.l0_eq (k:Nat) (a0 a1 aF aC:LD):LpEq ((Ya1.p k).lf Tryz.f35 4 [1,1,0,1,0] [.d (.sl a0),.d (.sl a1)] [1] [.b]) (Ya1.l0 k aF aC (λz0=>some z0)) (λaH=>mkSt 27 [(0,.d false (.sl aF)),(1,.d false (.sl aC)),(5,.d true (.int .i64 aH))] []):=lf_eq λL0 v=>by kernel_rfl
theorem Ya1.ok (k:Nat):Zas Tryz.prog 35 (Ya1.e k):=ent_ok (Ya1.p k) mix tyok Tryz.func35 (Ycb.ok k) Kr (λa0 a1=>Eq.trans Kr (congrArg (Ya1.m k a0 a1 (λz0=>some z0)) (funext λaF=>funext λaC=>funext λv=>Ya1.l0_eq k a0 a1 aF aC k v) :))
noncomputable def YbD.g {β:Type} (k:Nat) (aB aA aQ aP:BA) (K:Bool->Option β):Option β:=
 bif(!(ZP aB aQ)) then(K false) else(bif(!(ZP aA aP)) then(K false) else(K true))
noncomputable def YbD.t (k:Nat) (aB aA aQ aP:BA):=YbD.g k aB aA aQ aP (λz0=>some z0)
noncomputable def YbD.e (k:Nat):Za0:=ent [.agg [.s,.s],.agg [.s,.s]] [1] [.b] [4] false (YbD.t k)
noncomputable def YbD.p (k:Nat):Pro:=⟨Tryz.prog,[],hints [] false [],k⟩
theorem YbD.ok (k:Nat):Zas Tryz.prog 171 (YbD.e k):=ent_ok (YbD.p k) mix tyok Tryz.func171 trivial Kr (λaB aA aQ aP=>Ks)
noncomputable def Yau.l0 {β:Type} (k:Nat) (aF aC:LD) (K:Bool->Option β) (L0:Int->Option β) (v:Int):Option β:=
 match v with
 |aH=>bif(decide ((aH:Int)<(aF.length:Int))) then(atR aF aH [.s,.s] λx19 x22=>(atR aC aH [.s,.s] λx26 x29=>(bd1 (YbD.t k x19 x22 x26 x29) (λy30=>bif(!y30) then(K false) else(L0 (IntKind.wrap .i64 (aH+1))))))) else(K true)
noncomputable def Yau.m {β:Type} (k:Nat) (a0 a1:LD) (K:Bool->Option β) (F:(LD->LD->Int->Option β)):Option β:=
 bif(((a0.length:Int):Int)!=(a1.length:Int)) then(K false) else(F a0 a1 (0))
noncomputable def Yau.g {β:Type} (k:Nat) (a0 a1:LD) (K:Bool->Option β):Option β:=
 bif(((a0.length:Int):Int)!=(a1.length:Int)) then(K false) else(Za1 (Yau.l0 k a0 a1 K) k (0))
noncomputable def Yau.t (k:Nat) (a0 a1:LD):=Yau.g k a0 a1 (λz0=>some z0)
noncomputable def Yau.e (k:Nat):Za0:=ent [.d .l,.d .l] [1] [.b] [4] false (Yau.t k)
noncomputable def Yau.p (k:Nat):Pro:=⟨Tryz.prog,[(171,YbD.e k)],hints [(4,kp [0,1,5])] false [],k⟩
theorem Yau.l0_eq (k:Nat) (a0 a1 aF aC:LD):LpEq ((Yau.p k).lf Tryz.f145 4 [1,1,0,1,0] [.d (.sl a0),.d (.sl a1)] [1] [.b]) (Yau.l0 k aF aC (λz0=>some z0)) (λaH=>mkSt 27 [(0,.d false (.sl aF)),(1,.d false (.sl aC)),(5,.d true (.int .i64 aH))] []):=lf_eq λL0 v=>by kernel_rfl
theorem Yau.ok (k:Nat):Zas Tryz.prog 145 (Yau.e k):=ent_ok (Yau.p k) mix tyok Tryz.func145 (YbD.ok k) Kr (λa0 a1=>Eq.trans Kr (congrArg (Yau.m k a0 a1 (λz0=>some z0)) (funext λaF=>funext λaC=>funext λv=>Yau.l0_eq k a0 a1 aF aC k v) :))
noncomputable def Ybw.g {β:Type} (k:Nat) (aB:BA) (aA aD:LD) (aE:Int) (aQ:BA) (aP aR:LD) (aS:Int) (K:Bool->Option β):Option β:=
 bif(!(ZP aB aQ)) then(K false) else(bd1 (Yau.t k aA aP) (λy31=>bif(!y31) then(K false) else(bd1 (YJ.t k aD aR) (λy32=>bif(!y32) then(K false) else(bif((aE:Int)!=aS) then(K false) else(K true))))))
noncomputable def Ybw.t (k:Nat) (aB:BA) (aA aD:LD) (aE:Int) (aQ:BA) (aP aR:LD) (aS:Int):=Ybw.g k aB aA aD aE aQ aP aR aS (λz0=>some z0)
noncomputable def Ybw.e (k:Nat):Za0:=ent [.agg [.s,.l,.l,.n],.agg [.s,.l,.l,.n]] [1] [.b] [4] false (Ybw.t k)
noncomputable def Ybw.p (k:Nat):Pro:=⟨Tryz.prog,[(145,Yau.e k),(38,YJ.e k)],hints [] false [],k⟩
theorem Ybw.ok (k:Nat):Zas Tryz.prog 115 (Ybw.e k):=ent_ok (Ybw.p k) mix tyok Tryz.func115 ⟨Yau.ok k,YJ.ok k⟩ Kr (λaB aA aD aE aQ aP aR aS=>Ks)
noncomputable def YbY.g {β:Type} (k:Nat) (aB:BA) (aA aD:LD) (aE aG aJ:Int) (aQ:BA) (aP aR:LD) (aS aT aX:Int) (K:Bool->Option β):Option β:=
 bd1 (Ybw.t k aB aA aD aE aQ aP aR aS) (λy33=>bif(!y33) then(K false) else(bif((aG:Int)!=aT) then(K false) else(bif((aJ:Int)!=aX) then(K false) else(K true))))
noncomputable def YbY.t (k:Nat) (aB:BA) (aA aD:LD) (aE aG aJ:Int) (aQ:BA) (aP aR:LD) (aS aT aX:Int):=YbY.g k aB aA aD aE aG aJ aQ aP aR aS aT aX (λz0=>some z0)
noncomputable def YbY.e (k:Nat):Za0:=ent [.agg [.s,.l,.l,.n,.n,.n],.agg [.s,.l,.l,.n,.n,.n]] [1] [.b] [4] false (YbY.t k)
noncomputable def YbY.p (k:Nat):Pro:=⟨Tryz.prog,[(115,Ybw.e k)],hints [] false [],k⟩
theorem YbY.ok (k:Nat):Zas Tryz.prog 75 (YbY.e k):=ent_ok (YbY.p k) mix tyok Tryz.func75 (Ybw.ok k) Kr (λaB aA aD aE aG aJ aQ aP aR aS aT aX=>Ks)
noncomputable def YaL.l0 {β:Type} (k:Nat) (aF aC:LD) (K:Bool->Option β) (L0:Int->Option β) (v:Int):Option β:=
 match v with
 |aH=>bif(decide ((aH:Int)<(aF.length:Int))) then(atR aF aH [.s,.l,.l,.n,.n,.n] λx43 x46 x49 x52 x55 x58=>(atR aC aH [.s,.l,.l,.n,.n,.n] λx62 x65 x68 x71 x74 x77=>(bd1 (YbY.t k x43 x46 x49 x52 x55 x58 x62 x65 x68 x71 x74 x77) (λy78=>bif(!y78) then(K false) else(L0 (IntKind.wrap .i64 (aH+1))))))) else(K true)
noncomputable def YaL.m {β:Type} (k:Nat) (a0 a1:LD) (K:Bool->Option β) (F:(LD->LD->Int->Option β)):Option β:=
 bif(((a0.length:Int):Int)!=(a1.length:Int)) then(K false) else(F a0 a1 (0))
noncomputable def YaL.g {β:Type} (k:Nat) (a0 a1:LD) (K:Bool->Option β):Option β:=
 bif(((a0.length:Int):Int)!=(a1.length:Int)) then(K false) else(Za1 (YaL.l0 k a0 a1 K) k (0))
noncomputable def YaL.t (k:Nat) (a0 a1:LD):=YaL.g k a0 a1 (λz0=>some z0)
noncomputable def YaL.e (k:Nat):Za0:=ent [.d .l,.d .l] [1] [.b] [4] false (YaL.t k)
noncomputable def YaL.p (k:Nat):Pro:=⟨Tryz.prog,[(75,YbY.e k)],hints [(4,kp [0,1,5])] false [],k⟩
theorem YaL.l0_eq (k:Nat) (a0 a1 aF aC:LD):LpEq ((YaL.p k).lf Tryz.f36 4 [1,1,0,1,0] [.d (.sl a0),.d (.sl a1)] [1] [.b]) (YaL.l0 k aF aC (λz0=>some z0)) (λaH=>mkSt 27 [(0,.d false (.sl aF)),(1,.d false (.sl aC)),(5,.d true (.int .i64 aH))] []):=lf_eq λL0 v=>by kernel_rfl
theorem YaL.ok (k:Nat):Zas Tryz.prog 36 (YaL.e k):=ent_ok (YaL.p k) mix tyok Tryz.func36 (YbY.ok k) Kr (λa0 a1=>Eq.trans Kr (congrArg (YaL.m k a0 a1 (λz0=>some z0)) (funext λaF=>funext λaC=>funext λv=>YaL.l0_eq k a0 a1 aF aC k v) :))
noncomputable def Yb0.g {β:Type} (k:Nat) (aB:Int) (aA:BA) (aD aE aG aQ:Int) (aP:BA) (aR aS aT:Int) (K:Bool->Option β):Option β:=
 bif((aB:Int)!=aQ) then(K false) else(bif(!(ZP aA aP)) then(K false) else(bif((aD:Int)!=aR) then(K false) else(bif((aE:Int)!=aS) then(K false) else(bif((aG:Int)!=aT) then(K false) else(K true)))))
noncomputable def Yb0.t (k:Nat) (aB:Int) (aA:BA) (aD aE aG aQ:Int) (aP:BA) (aR aS aT:Int):=Yb0.g k aB aA aD aE aG aQ aP aR aS aT (λz0=>some z0)
noncomputable def Yb0.e (k:Nat):Za0:=ent [.agg [.n,.s,.n,.n,.n],.agg [.n,.s,.n,.n,.n]] [1] [.b] [4] false (Yb0.t k)
noncomputable def Yb0.p (k:Nat):Pro:=⟨Tryz.prog,[],hints [] false [],k⟩
theorem Yb0.ok (k:Nat):Zas Tryz.prog 76 (Yb0.e k):=ent_ok (Yb0.p k) mix tyok Tryz.func76 trivial Kr (λaB aA aD aE aG aQ aP aR aS aT=>Ks)
noncomputable def YaN.l0 {β:Type} (k:Nat) (aF aC:LD) (K:Bool->Option β) (L0:Int->Option β) (v:Int):Option β:=
 match v with
 |aH=>bif(decide ((aH:Int)<(aF.length:Int))) then(atR aF aH [.n,.s,.n,.n,.n] λx37 x40 x43 x46 x49=>(atR aC aH [.n,.s,.n,.n,.n] λx53 x56 x59 x62 x65=>(bd1 (Yb0.t k x37 x40 x43 x46 x49 x53 x56 x59 x62 x65) (λy66=>bif(!y66) then(K false) else(L0 (IntKind.wrap .i64 (aH+1))))))) else(K true)
noncomputable def YaN.m {β:Type} (k:Nat) (a0 a1:LD) (K:Bool->Option β) (F:(LD->LD->Int->Option β)):Option β:=
 bif(((a0.length:Int):Int)!=(a1.length:Int)) then(K false) else(F a0 a1 (0))
noncomputable def YaN.g {β:Type} (k:Nat) (a0 a1:LD) (K:Bool->Option β):Option β:=
 bif(((a0.length:Int):Int)!=(a1.length:Int)) then(K false) else(Za1 (YaN.l0 k a0 a1 K) k (0))
noncomputable def YaN.t (k:Nat) (a0 a1:LD):=YaN.g k a0 a1 (λz0=>some z0)
noncomputable def YaN.e (k:Nat):Za0:=ent [.d .l,.d .l] [1] [.b] [4] false (YaN.t k)
noncomputable def YaN.p (k:Nat):Pro:=⟨Tryz.prog,[(76,Yb0.e k)],hints [(4,kp [0,1,5])] false [],k⟩
theorem YaN.l0_eq (k:Nat) (a0 a1 aF aC:LD):LpEq ((YaN.p k).lf Tryz.f37 4 [1,1,0,1,0] [.d (.sl a0),.d (.sl a1)] [1] [.b]) (YaN.l0 k aF aC (λz0=>some z0)) (λaH=>mkSt 27 [(0,.d false (.sl aF)),(1,.d false (.sl aC)),(5,.d true (.int .i64 aH))] []):=lf_eq λL0 v=>by kernel_rfl
theorem YaN.ok (k:Nat):Zas Tryz.prog 37 (YaN.e k):=ent_ok (YaN.p k) mix tyok Tryz.func37 (Yb0.ok k) Kr (λa0 a1=>Eq.trans Kr (congrArg (YaN.m k a0 a1 (λz0=>some z0)) (funext λaF=>funext λaC=>funext λv=>YaN.l0_eq k a0 a1 aF aC k v) :))
noncomputable def Ycf.g {β:Type} (k:Nat) (aB aA aD:Int) (aE aG aJ aK:LD) (aQ aP aR:Int) (aS aT aX bC:LD) (K:Bool->Option β):Option β:=
 bif((aB:Int)!=aQ) then(K false) else(bif((aA:Int)!=aP) then(K false) else(bif((aD:Int)!=aR) then(K false) else(bd1 (Ya1.t k aE aS) (λy191=>bif(!y191) then(K false) else(bd1 (YaL.t k aG aT) (λy192=>bif(!y192) then(K false) else(bd1 (YaN.t k aJ aX) (λy193=>bif(!y193) then(K false) else(bd1 (YJ.t k aK bC) (λy194=>bif(!y194) then(K false) else(K true)))))))))))
noncomputable def Ycf.t (k:Nat) (aB aA aD:Int) (aE aG aJ aK:LD) (aQ aP aR:Int) (aS aT aX bC:LD):=Ycf.g k aB aA aD aE aG aJ aK aQ aP aR aS aT aX bC (λz0=>some z0)
noncomputable def Ycf.e (k:Nat):Za0:=ent [.agg [.n,.n,.n,.l,.l,.l,.l],.agg [.n,.n,.n,.l,.l,.l,.l]] [1] [.b] [4] false (Ycf.t k)
noncomputable def Ycf.p (k:Nat):Pro:=⟨Tryz.prog,[(35,Ya1.e k),(36,YaL.e k),(37,YaN.e k),(38,YJ.e k)],hints [] false [],k⟩
theorem Ycf.ok (k:Nat):Zas Tryz.prog 9 (Ycf.e k):=ent_ok (Ycf.p k) mix tyok Tryz.func9 ⟨Ya1.ok k,YaL.ok k,YaN.ok k,YJ.ok k⟩ Kr (λaB aA aD aE aG aJ aK aQ aP aR aS aT aX bC=>Ks)
noncomputable def Yc.l0 {β:Type} (k:Nat) (K:BA->Option β) (L0:(Int×BA)->Option β) (v:Int×BA):Option β:=
 match v with
 |(aF,aC)=>bif(decide ((aF:Int)>0)) then(let J0:=(⟨#[UInt8.ofNat (Int.toNat (IntKind.wrap .u8 (IntKind.wrap .i64 (48+(Int.tmod aF 10)))))]⟩:BA);Z0 ((10:Int)≠0) (Z0 (((J0.size+aC.size:Nat):Int)<=9223372036854775807) (Z0 ((10:Int)≠0) (L0 (IntKind.wrap .i64 (Int.tdiv aF 10),J0++aC))))) else(Z0 ((((⟨#[109]⟩:BA).size+aC.size:Nat):Int)<=9223372036854775807) (K ((⟨#[109]⟩:BA)++aC)))
noncomputable def Yc.m {β:Type} (k:Nat) (a0:Int) (K:BA->Option β) (F:((Int×BA)->Option β)):Option β:=
 bif(decide ((a0:Int)<=0)) then(K (⟨#[109,48]⟩:BA)) else(F (a0,(⟨#[]⟩:BA)))
noncomputable def Yc.g {β:Type} (k:Nat) (a0:Int) (K:BA->Option β):Option β:=
 bif(decide ((a0:Int)<=0)) then(K (⟨#[109,48]⟩:BA)) else(Za1 (Yc.l0 k K) k (a0,(⟨#[]⟩:BA)))
noncomputable def Yc.t (k:Nat) (a0:Int):=Yc.g k a0 (λz0=>some z0)
noncomputable def Yc.e (k:Nat):Za0:=ent [.d .n] [1] [.s] [9] false (Yc.t k)
noncomputable def Yc.p (k:Nat):Pro:=⟨Tryz.prog,[],hints [(4,kp [3] [(0,.dat false)])] false [],k⟩
theorem Yc.l0_eq (k:Nat) (a0:Int):LpEq ((Yc.p k).lf Tryz.f47 4 [1,1,1,0,0] [.d (.int .i64 a0)] [1] [.s]) (Yc.l0 k (λz0=>some z0)) (λ(aF,aC)=>mkSt 20 [(0,.d false (.int .i64 aF)),(3,.d true (.str aC))] []):=lf_eq λL0 v=>by obtain⟨aF,aC⟩:=v;kernel_rfl
theorem Yc.ok (k:Nat):Zas Tryz.prog 47 (Yc.e k):=ent_ok (Yc.p k) mix tyok Tryz.func47 trivial Kr (λa0=>Eq.trans Kr (congrArg (Yc.m k a0 (λz0=>some z0)) (funext λv=>Yc.l0_eq k a0 k v) :))
noncomputable def Yp.l0 {β:Type} (k:Nat) (K:Int->LC->Option β) (L0:(Int×Int×LC)->Option β) (v:Int×Int×LC):Option β:=
 match v with
 |(aF,aC,aH)=>bif(decide ((aC:Int)<(aH.length:Int))) then(bd1 (Yc.t k aF) (λy2=>Z0 ((0:Int)<=aC/\aC<(aH.length:Int)) (Z0 (Int.toNat aC<aH.length) (L0 (IntKind.wrap .i64 (aF+1),IntKind.wrap .i64 (aC+1),aH.modify (Int.toNat aC) λc=>ZE c 0 [.d (.str y2)]))))) else(K aF aH)
noncomputable def Yp.m {β:Type} (k:Nat) (a0:LC) (a1:Int) (K:Int->LC->Option β) (F:((Int×Int×LC)->Option β)):Option β:=
 F (a1,0,a0)
noncomputable def Yp.g {β:Type} (k:Nat) (a0:LC) (a1:Int) (K:Int->LC->Option β):Option β:=
 Za1 (Yp.l0 k K) k (a1,0,a0)
noncomputable def Yp.t (k:Nat) (a0:LC) (a1:Int):=Yp.g k a0 a1 (λz0 z1=>some (z0,z1))
noncomputable def Yp.e (k:Nat):Za0:=ent [.own false 25 [.o],.d .n] [1] [.n,.o] [3] false (Yp.t k)
noncomputable def Yp.p (k:Nat):Pro:=⟨Tryz.prog,[(47,Yc.e k)],hints [(2,kp [0,5] [(1,.dat false)])] false [],k⟩
theorem Yp.l0_eq (k:Nat) (a0:LC) (a1:Int):LpEq ((Yp.p k).lf Tryz.f46 2 [1,0,1,0] [.own false [.own a0],.d (.int .i64 a1)] [1] [.n,.o]) (Yp.l0 k (λz0 z1=>some (z0,z1))) (λ(aF,aC,aH)=>mkSt 20 [(0,.row 0),(1,.d false (.int .i64 aF)),(5,.d true (.int .i64 aC))] [.row (some 0) false 25 aH]):=lf_eq λL0 v=>by obtain⟨aF,aC,aH⟩:=v;kernel_rfl
theorem Yp.ok (k:Nat):Zas Tryz.prog 46 (Yp.e k):=ent_ok (Yp.p k) mix tyok Tryz.func46 (Yc.ok k) Kr (λa0 a1=>Eq.trans Kr (congrArg (Yp.m k a0 a1 (λz0 z1=>some (z0,z1))) (funext λv=>Yp.l0_eq k a0 a1 k v) :))
noncomputable def Y9.l0 {β:Type} (k:Nat) (K:Int->LC->Option β) (L0:(Int×Int×LC)->Option β) (v:Int×Int×LC):Option β:=
 match v with
 |(aF,aC,aH)=>bif(decide ((aC:Int)<(aH.length:Int))) then(Z0 ((0:Int)<=aC/\aC<(aH.length:Int)) (Z0 (Int.toNat aC<aH.length) (bd1 (Yc.t k (IntKind.wrap .i64 (aF+1))) (λy8=>let J1:=(aH.modify (Int.toNat aC) λc=>ZE c 0 [.d (.int .i64 aF)]);let J0:=(J1.modify (Int.toNat aC) λc=>ZE c 1 [.d (.str y8)]);Z0 ((0:Int)<=aC/\aC<(J1.length:Int)) (Z0 (Int.toNat aC<J1.length) (Z0 ((0:Int)<=aC/\aC<(J0.length:Int)) (Za7 J0 (Int.toNat aC) λc9=>Zct (c9.drop 2) λc10 r11=>cOwn c10 λy12=>bd2 (Yp.t k y12 (IntKind.wrap .i64 ((IntKind.wrap .i64 (aF+1))+1))) (λy13 y14=>L0 (y13,IntKind.wrap .i64 (aC+1),J0.modify (Int.toNat aC) λr=>r.set 2 (.own y14)))))))))) else(K aF aH)
noncomputable def Y9.m {β:Type} (k:Nat) (a0:LC) (a1:Int) (K:Int->LC->Option β) (F:((Int×Int×LC)->Option β)):Option β:=
 F (a1,0,a0)
noncomputable def Y9.g {β:Type} (k:Nat) (a0:LC) (a1:Int) (K:Int->LC->Option β):Option β:=
 Za1 (Y9.l0 k K) k (a1,0,a0)
noncomputable def Y9.t (k:Nat) (a0:LC) (a1:Int):=Y9.g k a0 a1 (λz0 z1=>some (z0,z1))
noncomputable def Y9.e (k:Nat):Za0:=ent [.own false 67 [.o],.d .n] [1] [.n,.o] [3] false (Y9.t k)
noncomputable def Y9.p (k:Nat):Pro:=⟨Tryz.prog,[(47,Yc.e k),(46,Yp.e k)],hints [(2,kp [0,5] [(1,.dat false)])] false [],k⟩
theorem Y9.l0_eq (k:Nat) (a0:LC) (a1:Int):LpEq ((Y9.p k).lf Tryz.f87 2 [1,0,1,0] [.own false [.own a0],.d (.int .i64 a1)] [1] [.n,.o]) (Y9.l0 k (λz0 z1=>some (z0,z1))) (λ(aF,aC,aH)=>mkSt 35 [(0,.row 0),(1,.d false (.int .i64 aF)),(5,.d true (.int .i64 aC))] [.row (some 0) false 67 aH]):=lf_eq λL0 v=>by obtain⟨aF,aC,aH⟩:=v;kernel_rfl
theorem Y9.ok (k:Nat):Zas Tryz.prog 87 (Y9.e k):=ent_ok (Y9.p k) mix tyok Tryz.func87 ⟨Yc.ok k,Yp.ok k⟩ Kr (λa0 a1=>Eq.trans Kr (congrArg (Y9.m k a0 a1 (λz0 z1=>some (z0,z1))) (funext λv=>Y9.l0_eq k a0 a1 k v) :))
noncomputable def Y7.l0 {β:Type} (k:Nat) (K:Int->LC->Option β) (L0:(Int×Int×LC)->Option β) (v:Int×Int×LC):Option β:=
 match v with
 |(aF,aC,aH)=>bif(decide ((aC:Int)<(aH.length:Int))) then(bd1 (Yc.t k aF) (λy2=>let J0:=(aH.modify (Int.toNat aC) λc=>ZE c 0 [.d (.str y2)]);Z0 ((0:Int)<=aC/\aC<(aH.length:Int)) (Z0 (Int.toNat aC<aH.length) (Z0 ((0:Int)<=aC/\aC<(J0.length:Int)) (Z0 (Int.toNat aC<J0.length) (L0 (IntKind.wrap .i64 ((IntKind.wrap .i64 (aF+1))+1),IntKind.wrap .i64 (aC+1),J0.modify (Int.toNat aC) λc=>ZE c 1 [.d (.int .i64 (IntKind.wrap .i64 (aF+1)))]))))))) else(K aF aH)
noncomputable def Y7.m {β:Type} (k:Nat) (a0:LC) (a1:Int) (K:Int->LC->Option β) (F:((Int×Int×LC)->Option β)):Option β:=
 F (a1,0,a0)
noncomputable def Y7.g {β:Type} (k:Nat) (a0:LC) (a1:Int) (K:Int->LC->Option β):Option β:=
 Za1 (Y7.l0 k K) k (a1,0,a0)
noncomputable def Y7.t (k:Nat) (a0:LC) (a1:Int):=Y7.g k a0 a1 (λz0 z1=>some (z0,z1))
noncomputable def Y7.e (k:Nat):Za0:=ent [.own false 68 [.o],.d .n] [1] [.n,.o] [3] false (Y7.t k)
noncomputable def Y7.p (k:Nat):Pro:=⟨Tryz.prog,[(47,Yc.e k)],hints [(2,kp [0,5] [(1,.dat false)])] false [],k⟩
theorem Y7.l0_eq (k:Nat) (a0:LC) (a1:Int):LpEq ((Y7.p k).lf Tryz.f88 2 [1,0,1,0] [.own false [.own a0],.d (.int .i64 a1)] [1] [.n,.o]) (Y7.l0 k (λz0 z1=>some (z0,z1))) (λ(aF,aC,aH)=>mkSt 28 [(0,.row 0),(1,.d false (.int .i64 aF)),(5,.d true (.int .i64 aC))] [.row (some 0) false 68 aH]):=lf_eq λL0 v=>by obtain⟨aF,aC,aH⟩:=v;kernel_rfl
theorem Y7.ok (k:Nat):Zas Tryz.prog 88 (Y7.e k):=ent_ok (Y7.p k) mix tyok Tryz.func88 (Yc.ok k) Kr (λa0 a1=>Eq.trans Kr (congrArg (Y7.m k a0 a1 (λz0 z1=>some (z0,z1))) (funext λv=>Y7.l0_eq k a0 a1 k v) :))
noncomputable def Yo.l0 {β:Type} (k:Nat) (r_laws_markValueS:LC->Int->(Int->LC->Option β)->Option β) (K:Int->LC->Option β) (L0:(Int×Int×LC)->Option β) (v:Int×Int×LC):Option β:=
 match v with
 |(aF,aC,aH)=>bif(decide ((aC:Int)<(aH.length:Int))) then(Z0 ((0:Int)<=aC/\aC<(aH.length:Int)) (Z0 (Int.toNat aC<aH.length) (bd1 (Yc.t k (IntKind.wrap .i64 (aF+1))) (λy14=>let J3:=(aH.modify (Int.toNat aC) λc=>ZE c 0 [.d (.int .i64 aF)]);let J2:=(J3.modify (Int.toNat aC) λc=>ZE c 1 [.d (.str y14)]);let J1:=(J2.modify (Int.toNat aC) λc=>ZE c 2 [.d (.int .i64 (IntKind.wrap .i64 ((IntKind.wrap .i64 (aF+1))+1)))]);Z0 ((0:Int)<=aC/\aC<(J3.length:Int)) (Z0 (Int.toNat aC<J3.length) (Z0 ((0:Int)<=aC/\aC<(J2.length:Int)) (Z0 (Int.toNat aC<J2.length) (Z0 ((0:Int)<=aC/\aC<(J1.length:Int)) (Za7 J1 (Int.toNat aC) λc15=>Zct (c15.drop 3) λc16 r17=>cOwn c16 λy18=>bd2 (Yp.t k y18 (IntKind.wrap .i64 ((IntKind.wrap .i64 ((IntKind.wrap .i64 (aF+1))+1))+1))) (λy19 y20=>let J0:=(J1.modify (Int.toNat aC) λr=>r.set 3 (.own y20));Z0 ((0:Int)<=aC/\aC<(J0.length:Int)) (Za7 J0 (Int.toNat aC) λc21=>Zct (c21.drop 4) λc22 r23=>cOwn c22 λy24=>r_laws_markValueS y24 y19 (λy25 y26=>L0 (y25,IntKind.wrap .i64 (aC+1),J0.modify (Int.toNat aC) λr=>r.set 4 (.own y26)))))))))))))) else(K aF aH)
noncomputable def Yo.m {β:Type} (k:Nat) (r_laws_markValueS:LC->Int->(Int->LC->Option β)->Option β) (a0:LC) (a1:Int) (K:Int->LC->Option β) (F:((Int×Int×LC)->Option β)):Option β:=
 F (a1,0,a0)
noncomputable def Yo.body {β:Type} (k:Nat) (r_laws_markValueS:LC->Int->(Int->LC->Option β)->Option β) (a0:LC) (a1:Int) (K:Int->LC->Option β):Option β:=
 Za1 (Yo.l0 k r_laws_markValueS K) k (a1,0,a0)
noncomputable def Yo.w {β:Type} (r:LC->Int->Option (Int×LC)) (a0:LC) (a1:Int) (K:Int->LC->Option β):Option β:=bd2 (r a0 a1) K
noncomputable def Yo.all:Nat->(LC->Int->Option (Int×LC))
 |0=>(λ_ _=>none)
 |k+1=>(λr=>(λa0 a1=>Yo.body k (Yo.w r) a0 a1 (λz0 z1=>some (z0,z1)))) (Yo.all k)
noncomputable def Yo.t (k:Nat) (a0:LC) (a1:Int):Option (Int×LC):=(Yo.all k) a0 a1
noncomputable def Yo.f {β:Type} (k:Nat) (a0:LC) (a1:Int) (K:Int->LC->Option β):Option β:=Yo.w (Yo.t k) a0 a1 K
noncomputable def Yo.g {β:Type} (k:Nat) (a0:LC) (a1:Int) (K:Int->LC->Option β):Option β:=Yo.body k (Yo.f k) a0 a1 K
theorem Yo.t_succ (k:Nat) (a0:LC) (a1:Int):Yo.t (k+1) a0 a1=Yo.g k a0 a1 (λz0 z1=>some (z0,z1)):=rfl
noncomputable def Yo.e (k:Nat):Za0:=ent [.own false 62 [.o],.d .n] [1] [.n,.o] [3] false (Yo.t k)
noncomputable def Yo.p (k:Nat):Pro:=⟨Tryz.prog,[(47,Yc.e k),(46,Yp.e k),(48,Yo.e k)],hints [(2,kp [0,5] [(1,.dat false)])] false [],k⟩
theorem Yo.l0_eq (k:Nat) (a0:LC) (a1:Int):LpEq ((Yo.p k).lf Tryz.f48 2 [1,0,1,0] [.own false [.own a0],.d (.int .i64 a1)] [1] [.n,.o]) (Yo.l0 k (Yo.f k) (λz0 z1=>some (z0,z1))) (λ(aF,aC,aH)=>mkSt 49 [(0,.row 0),(1,.d false (.int .i64 aF)),(5,.d true (.int .i64 aC))] [.row (some 0) false 62 aH]):=lf_eq λL0 v=>by obtain⟨aF,aC,aH⟩:=v;kernel_rfl
theorem Yo.oks (k:Nat):Zas Tryz.prog 48 (Yo.e k):=by
 induction k with
 |zero=>exact ent_zero Tryz.func48 Kr (λ_ _=>rfl)
 |succ k ih=>exact ent_ok (Yo.p k) mix tyok Tryz.func48 ⟨Yc.ok k,Yp.ok k,ih⟩ Kr (λa0 a1=>Eq.trans Kr ((congrArg (Yo.m k (Yo.f k) a0 a1 (λz0 z1=>some (z0,z1))) (funext λv=>Yo.l0_eq k a0 a1 k v)).trans (Yo.t_succ k a0 a1).symm))
theorem Yo.ok (k:Nat):Zas Tryz.prog 48 (Yo.e k):=(Yo.oks k)
noncomputable def Yaz.l0 {β:Type} (k:Nat) (K:Int->LC->Option β) (L0:(Int×Int×LC)->Option β) (v:Int×Int×LC):Option β:=
 match v with
 |(aF,aC,aH)=>bif(decide ((aC:Int)<(aH.length:Int))) then(let J5:=(aH.modify (Int.toNat aC) λc=>ZE c 0 [.d (.int .i64 aF)]);Z0 ((0:Int)<=aC/\aC<(aH.length:Int)) (Z0 (Int.toNat aC<aH.length) (Z0 ((0:Int)<=aC/\aC<(J5.length:Int)) (Za7 J5 (Int.toNat aC) λc20=>Zct (c20.drop 1) λc21 r22=>cOwn c21 λy23=>bd2 (Yp.t k y23 (IntKind.wrap .i64 (aF+1))) (λy24 y25=>let J4:=(J5.modify (Int.toNat aC) λr=>r.set 1 (.own y25));Z0 ((0:Int)<=aC/\aC<(J4.length:Int)) (Z0 (Int.toNat aC<J4.length) (bd1 (Yc.t k (IntKind.wrap .i64 (y24+1))) (λy26=>let J3:=(J4.modify (Int.toNat aC) λc=>ZE c 2 [.d (.int .i64 y24)]);let J2:=(J3.modify (Int.toNat aC) λc=>ZE c 3 [.d (.str y26)]);let J1:=(J2.modify (Int.toNat aC) λc=>ZE c 4 [.d (.int .i64 (IntKind.wrap .i64 ((IntKind.wrap .i64 (y24+1))+1)))]);Z0 ((0:Int)<=aC/\aC<(J3.length:Int)) (Z0 (Int.toNat aC<J3.length) (Z0 ((0:Int)<=aC/\aC<(J2.length:Int)) (Z0 (Int.toNat aC<J2.length) (Z0 ((0:Int)<=aC/\aC<(J1.length:Int)) (Za7 J1 (Int.toNat aC) λc27=>Zct (c27.drop 5) λc28 r29=>cOwn c28 λy30=>bd2 (Yp.t k y30 (IntKind.wrap .i64 ((IntKind.wrap .i64 ((IntKind.wrap .i64 (y24+1))+1))+1))) (λy31 y32=>let J0:=(J1.modify (Int.toNat aC) λr=>r.set 5 (.own y32));Z0 ((0:Int)<=aC/\aC<(J0.length:Int)) (Za7 J0 (Int.toNat aC) λc33=>Zct (c33.drop 6) λc34 r35=>cOwn c34 λy36=>Yo.f k y36 y31 (λy37 y38=>L0 (y37,IntKind.wrap .i64 (aC+1),J0.modify (Int.toNat aC) λr=>r.set 6 (.own y38)))))))))))))))))) else(K aF aH)
noncomputable def Yaz.m {β:Type} (k:Nat) (a0:LC) (a1:Int) (K:Int->LC->Option β) (F:((Int×Int×LC)->Option β)):Option β:=
 F (a1,0,a0)
noncomputable def Yaz.g {β:Type} (k:Nat) (a0:LC) (a1:Int) (K:Int->LC->Option β):Option β:=
 Za1 (Yaz.l0 k K) k (a1,0,a0)
noncomputable def Yaz.t (k:Nat) (a0:LC) (a1:Int):=Yaz.g k a0 a1 (λz0 z1=>some (z0,z1))
noncomputable def Yaz.e (k:Nat):Za0:=ent [.own false 120 [.o],.d .n] [1] [.n,.o] [3] false (Yaz.t k)
noncomputable def Yaz.p (k:Nat):Pro:=⟨Tryz.prog,[(46,Yp.e k),(47,Yc.e k),(48,Yo.e k)],hints [(2,kp [0,5] [(1,.dat false)])] false [],k⟩
theorem Yaz.l0_eq (k:Nat) (a0:LC) (a1:Int):LpEq ((Yaz.p k).lf Tryz.f123 2 [1,0,1,0] [.own false [.own a0],.d (.int .i64 a1)] [1] [.n,.o]) (Yaz.l0 k (λz0 z1=>some (z0,z1))) (λ(aF,aC,aH)=>mkSt 68 [(0,.row 0),(1,.d false (.int .i64 aF)),(5,.d true (.int .i64 aC))] [.row (some 0) false 120 aH]):=lf_eq λL0 v=>by obtain⟨aF,aC,aH⟩:=v;kernel_rfl
theorem Yaz.ok (k:Nat):Zas Tryz.prog 123 (Yaz.e k):=ent_ok (Yaz.p k) mix tyok Tryz.func123 ⟨Yp.ok k,Yc.ok k,Yo.ok k⟩ Kr (λa0 a1=>Eq.trans Kr (congrArg (Yaz.m k a0 a1 (λz0 z1=>some (z0,z1))) (funext λv=>Yaz.l0_eq k a0 a1 k v) :))
noncomputable def Yaa.l0 {β:Type} (k:Nat) (K:Int->LC->Option β) (L0:(Int×Int×LC)->Option β) (v:Int×Int×LC):Option β:=
 match v with
 |(aF,aC,aH)=>bif(decide ((aC:Int)<(aH.length:Int))) then(bd1 (Yc.t k aF) (λy8=>let J0:=(aH.modify (Int.toNat aC) λc=>ZE c 0 [.d (.str y8)]);Z0 ((0:Int)<=aC/\aC<(aH.length:Int)) (Z0 (Int.toNat aC<aH.length) (Z0 ((0:Int)<=aC/\aC<(J0.length:Int)) (Za7 J0 (Int.toNat aC) λc9=>Zct (c9.drop 1) λc10 r11=>cOwn c10 λy12=>bd2 (Yaz.t k y12 (IntKind.wrap .i64 (aF+1))) (λy13 y14=>L0 (y13,IntKind.wrap .i64 (aC+1),J0.modify (Int.toNat aC) λr=>r.set 1 (.own y14)))))))) else(K aF aH)
noncomputable def Yaa.m {β:Type} (k:Nat) (a0:LC) (a1:Int) (K:Int->LC->Option β) (F:((Int×Int×LC)->Option β)):Option β:=
 F (a1,0,a0)
noncomputable def Yaa.g {β:Type} (k:Nat) (a0:LC) (a1:Int) (K:Int->LC->Option β):Option β:=
 Za1 (Yaa.l0 k K) k (a1,0,a0)
noncomputable def Yaa.t (k:Nat) (a0:LC) (a1:Int):=Yaa.g k a0 a1 (λz0 z1=>some (z0,z1))
noncomputable def Yaa.e (k:Nat):Za0:=ent [.own false 71 [.o],.d .n] [1] [.n,.o] [3] false (Yaa.t k)
noncomputable def Yaa.p (k:Nat):Pro:=⟨Tryz.prog,[(47,Yc.e k),(123,Yaz.e k)],hints [(2,kp [0,5] [(1,.dat false)])] false [],k⟩
theorem Yaa.l0_eq (k:Nat) (a0:LC) (a1:Int):LpEq ((Yaa.p k).lf Tryz.f89 2 [1,0,1,0] [.own false [.own a0],.d (.int .i64 a1)] [1] [.n,.o]) (Yaa.l0 k (λz0 z1=>some (z0,z1))) (λ(aF,aC,aH)=>mkSt 28 [(0,.row 0),(1,.d false (.int .i64 aF)),(5,.d true (.int .i64 aC))] [.row (some 0) false 71 aH]):=lf_eq λL0 v=>by obtain⟨aF,aC,aH⟩:=v;kernel_rfl
theorem Yaa.ok (k:Nat):Zas Tryz.prog 89 (Yaa.e k):=ent_ok (Yaa.p k) mix tyok Tryz.func89 ⟨Yc.ok k,Yaz.ok k⟩ Kr (λa0 a1=>Eq.trans Kr (congrArg (Yaa.m k a0 a1 (λz0 z1=>some (z0,z1))) (funext λv=>Yaa.l0_eq k a0 a1 k v) :))
noncomputable def Yam.l0 {β:Type} (k:Nat) (K:Int->LC->Option β) (L0:(Int×Int×LC)->Option β) (v:Int×Int×LC):Option β:=
 match v with
 |(aF,aC,aH)=>bif(decide ((aC:Int)<(aH.length:Int))) then(Z0 ((0:Int)<=aC/\aC<(aH.length:Int)) (Z0 (Int.toNat aC<aH.length) (bd1 (Yc.t k (IntKind.wrap .i64 (aF+1))) (λy39=>let J11:=(aH.modify (Int.toNat aC) λc=>ZE c 0 [.d (.int .i64 aF)]);let J10:=(J11.modify (Int.toNat aC) λc=>ZE c 1 [.d (.str y39)]);let J9:=(J10.modify (Int.toNat aC) λc=>ZE c 2 [.d (.int .i64 (IntKind.wrap .i64 ((IntKind.wrap .i64 (aF+1))+1)))]);Z0 ((0:Int)<=aC/\aC<(J11.length:Int)) (Z0 (Int.toNat aC<J11.length) (Z0 ((0:Int)<=aC/\aC<(J10.length:Int)) (Z0 (Int.toNat aC<J10.length) (Z0 ((0:Int)<=aC/\aC<(J9.length:Int)) (Za7 J9 (Int.toNat aC) λc40=>Zct (c40.drop 3) λc41 r42=>cOwn c41 λy43=>bd2 (Y9.t k y43 (IntKind.wrap .i64 ((IntKind.wrap .i64 ((IntKind.wrap .i64 (aF+1))+1))+1))) (λy44 y45=>let J8:=(J9.modify (Int.toNat aC) λr=>r.set 3 (.own y45));Z0 ((0:Int)<=aC/\aC<(J8.length:Int)) (Za7 J8 (Int.toNat aC) λc46=>Zct (c46.drop 4) λc47 r48=>cOwn c47 λy49=>bd2 (Yp.t k y49 y44) (λy50 y51=>let J7:=(J8.modify (Int.toNat aC) λr=>r.set 4 (.own y51));Z0 ((0:Int)<=aC/\aC<(J7.length:Int)) (Za7 J7 (Int.toNat aC) λc52=>Zct (c52.drop 5) λc53 r54=>cOwn c53 λy55=>bd2 (Y7.t k y55 y50) (λy56 y57=>let J6:=(J7.modify (Int.toNat aC) λr=>r.set 5 (.own y57));Z0 ((0:Int)<=aC/\aC<(J6.length:Int)) (Z0 (Int.toNat aC<J6.length) (bd1 (Yc.t k (IntKind.wrap .i64 (y56+1))) (λy58=>let J5:=(J6.modify (Int.toNat aC) λc=>ZE c 6 [.d (.int .i64 y56)]);let J4:=(J5.modify (Int.toNat aC) λc=>ZE c 7 [.d (.str y58)]);let J3:=(J4.modify (Int.toNat aC) λc=>ZE c 8 [.d (.int .i64 (IntKind.wrap .i64 ((IntKind.wrap .i64 (y56+1))+1)))]);Z0 ((0:Int)<=aC/\aC<(J5.length:Int)) (Z0 (Int.toNat aC<J5.length) (Z0 ((0:Int)<=aC/\aC<(J4.length:Int)) (Z0 (Int.toNat aC<J4.length) (Z0 ((0:Int)<=aC/\aC<(J3.length:Int)) (Za7 J3 (Int.toNat aC) λc59=>Zct (c59.drop 9) λc60 r61=>cOwn c60 λy62=>bd2 (Yp.t k y62 (IntKind.wrap .i64 ((IntKind.wrap .i64 ((IntKind.wrap .i64 (y56+1))+1))+1))) (λy63 y64=>let J2:=(J3.modify (Int.toNat aC) λr=>r.set 9 (.own y64));Z0 ((0:Int)<=aC/\aC<(J2.length:Int)) (Za7 J2 (Int.toNat aC) λc65=>Zct (c65.drop 10) λc66 r67=>cOwn c66 λy68=>Yo.f k y68 y63 (λy69 y70=>let J1:=(J2.modify (Int.toNat aC) λr=>r.set 10 (.own y70));Z0 ((0:Int)<=aC/\aC<(J1.length:Int)) (Za7 J1 (Int.toNat aC) λc71=>Zct (c71.drop 11) λc72 r73=>cOwn c72 λy74=>bd2 (Yaa.t k y74 y69) (λy75 y76=>let J0:=(J1.modify (Int.toNat aC) λr=>r.set 11 (.own y76));Z0 ((3:Int)≠0) (Z0 ((0:Int)<=aC/\aC<(J0.length:Int)) (Z0 (Int.toNat aC<J0.length) (L0 (IntKind.wrap .i64 (y75+1),IntKind.wrap .i64 (aC+1),J0.modify (Int.toNat aC) λc=>ZE c 12 [.d (.bool (((Int.tmod y75 3):Int)==0))]))))))))))))))))))))))))))))))) else(K aF aH)
noncomputable def Yam.m {β:Type} (k:Nat) (a0:LC) (a1:Int) (K:Int->LC->Option β) (F:((Int×Int×LC)->Option β)):Option β:=
 F (a1,0,a0)
noncomputable def Yam.g {β:Type} (k:Nat) (a0:LC) (a1:Int) (K:Int->LC->Option β):Option β:=
 Za1 (Yam.l0 k K) k (a1,0,a0)
noncomputable def Yam.t (k:Nat) (a0:LC) (a1:Int):=Yam.g k a0 a1 (λz0 z1=>some (z0,z1))
noncomputable def Yam.e (k:Nat):Za0:=ent [.own false 30 [.o],.d .n] [1] [.n,.o] [3] false (Yam.t k)
noncomputable def Yam.p (k:Nat):Pro:=⟨Tryz.prog,[(47,Yc.e k),(87,Y9.e k),(46,Yp.e k),(88,Y7.e k),(48,Yo.e k),(89,Yaa.e k)],hints [(2,kp [0,5] [(1,.dat false)])] false [],k⟩
theorem Yam.l0_eq (k:Nat) (a0:LC) (a1:Int):LpEq ((Yam.p k).lf Tryz.f43 2 [1,0,1,0] [.own false [.own a0],.d (.int .i64 a1)] [1] [.n,.o]) (Yam.l0 k (λz0 z1=>some (z0,z1))) (λ(aF,aC,aH)=>mkSt 117 [(0,.row 0),(1,.d false (.int .i64 aF)),(5,.d true (.int .i64 aC))] [.row (some 0) false 30 aH]):=lf_eq λL0 v=>by obtain⟨aF,aC,aH⟩:=v;kernel_rfl
theorem Yam.ok (k:Nat):Zas Tryz.prog 43 (Yam.e k):=ent_ok (Yam.p k) mix tyok Tryz.func43 ⟨Yc.ok k,Y9.ok k,Yp.ok k,Y7.ok k,Yo.ok k,Yaa.ok k⟩ Kr (λa0 a1=>Eq.trans Kr (congrArg (Yam.m k a0 a1 (λz0 z1=>some (z0,z1))) (funext λv=>Yam.l0_eq k a0 a1 k v) :))
noncomputable def Y8.l0 {β:Type} (k:Nat) (K:Int->LC->Option β) (L0:(Int×Int×LC)->Option β) (v:Int×Int×LC):Option β:=
 match v with
 |(aF,aC,aH)=>bif(decide ((aC:Int)<(aH.length:Int))) then(bd1 (Yc.t k aF) (λy3=>Z0 ((0:Int)<=aC/\aC<(aH.length:Int)) (Z0 (Int.toNat aC<aH.length) (bd1 (Yc.t k (IntKind.wrap .i64 (aF+1))) (λy4=>let J0:=(aH.modify (Int.toNat aC) λc=>ZE c 0 [.d (.str y3)]);Z0 ((0:Int)<=aC/\aC<(J0.length:Int)) (Z0 (Int.toNat aC<J0.length) (L0 (IntKind.wrap .i64 ((IntKind.wrap .i64 (aF+1))+1),IntKind.wrap .i64 (aC+1),J0.modify (Int.toNat aC) λc=>ZE c 1 [.d (.str y4)])))))))) else(K aF aH)
noncomputable def Y8.m {β:Type} (k:Nat) (a0:LC) (a1:Int) (K:Int->LC->Option β) (F:((Int×Int×LC)->Option β)):Option β:=
 F (a1,0,a0)
noncomputable def Y8.g {β:Type} (k:Nat) (a0:LC) (a1:Int) (K:Int->LC->Option β):Option β:=
 Za1 (Y8.l0 k K) k (a1,0,a0)
noncomputable def Y8.t (k:Nat) (a0:LC) (a1:Int):=Y8.g k a0 a1 (λz0 z1=>some (z0,z1))
noncomputable def Y8.e (k:Nat):Za0:=ent [.own false 101 [.o],.d .n] [1] [.n,.o] [3] false (Y8.t k)
noncomputable def Y8.p (k:Nat):Pro:=⟨Tryz.prog,[(47,Yc.e k)],hints [(2,kp [0,5] [(1,.dat false)])] false [],k⟩
theorem Y8.l0_eq (k:Nat) (a0:LC) (a1:Int):LpEq ((Y8.p k).lf Tryz.f90 2 [1,0,1,0] [.own false [.own a0],.d (.int .i64 a1)] [1] [.n,.o]) (Y8.l0 k (λz0 z1=>some (z0,z1))) (λ(aF,aC,aH)=>mkSt 29 [(0,.row 0),(1,.d false (.int .i64 aF)),(5,.d true (.int .i64 aC))] [.row (some 0) false 101 aH]):=lf_eq λL0 v=>by obtain⟨aF,aC,aH⟩:=v;kernel_rfl
theorem Y8.ok (k:Nat):Zas Tryz.prog 90 (Y8.e k):=ent_ok (Y8.p k) mix tyok Tryz.func90 (Yc.ok k) Kr (λa0 a1=>Eq.trans Kr (congrArg (Y8.m k a0 a1 (λz0 z1=>some (z0,z1))) (funext λv=>Y8.l0_eq k a0 a1 k v) :))
noncomputable def Yad.l0 {β:Type} (k:Nat) (K:Int->LC->Option β) (L0:(Int×Int×LC)->Option β) (v:Int×Int×LC):Option β:=
 match v with
 |(aF,aC,aH)=>bif(decide ((aC:Int)<(aH.length:Int))) then(bd1 (Yc.t k aF) (λy14=>let J4:=(aH.modify (Int.toNat aC) λc=>ZE c 0 [.d (.str y14)]);Z0 ((0:Int)<=aC/\aC<(aH.length:Int)) (Z0 (Int.toNat aC<aH.length) (Z0 ((0:Int)<=aC/\aC<(J4.length:Int)) (Za7 J4 (Int.toNat aC) λc15=>Zct (c15.drop 1) λc16 r17=>cOwn c16 λy18=>bd2 (Y8.t k y18 (IntKind.wrap .i64 (aF+1))) (λy19 y20=>let J3:=(J4.modify (Int.toNat aC) λr=>r.set 1 (.own y20));Z0 ((0:Int)<=aC/\aC<(J3.length:Int)) (Za7 J3 (Int.toNat aC) λc21=>Zct (c21.drop 2) λc22 r23=>cOwn c22 λy24=>bd2 (Yp.t k y24 y19) (λy25 y26=>let J2:=(J3.modify (Int.toNat aC) λr=>r.set 2 (.own y26));let J1:=(J2.modify (Int.toNat aC) λc=>ZE c 3 [.d (.int .i64 y25)]);let J0:=(J1.modify (Int.toNat aC) λc=>ZE c 4 [.d (.int .i64 (IntKind.wrap .i64 (y25+1)))]);Z0 ((0:Int)<=aC/\aC<(J2.length:Int)) (Z0 (Int.toNat aC<J2.length) (Z0 ((0:Int)<=aC/\aC<(J1.length:Int)) (Z0 (Int.toNat aC<J1.length) (Z0 ((0:Int)<=aC/\aC<(J0.length:Int)) (Z0 (Int.toNat aC<J0.length) (L0 (IntKind.wrap .i64 ((IntKind.wrap .i64 ((IntKind.wrap .i64 (y25+1))+1))+1),IntKind.wrap .i64 (aC+1),J0.modify (Int.toNat aC) λc=>ZE c 5 [.d (.int .i64 (IntKind.wrap .i64 ((IntKind.wrap .i64 (y25+1))+1)))]))))))))))))))) else(K aF aH)
noncomputable def Yad.m {β:Type} (k:Nat) (a0:LC) (a1:Int) (K:Int->LC->Option β) (F:((Int×Int×LC)->Option β)):Option β:=
 F (a1,0,a0)
noncomputable def Yad.g {β:Type} (k:Nat) (a0:LC) (a1:Int) (K:Int->LC->Option β):Option β:=
 Za1 (Yad.l0 k K) k (a1,0,a0)
noncomputable def Yad.t (k:Nat) (a0:LC) (a1:Int):=Yad.g k a0 a1 (λz0 z1=>some (z0,z1))
noncomputable def Yad.e (k:Nat):Za0:=ent [.own false 31 [.o],.d .n] [1] [.n,.o] [3] false (Yad.t k)
noncomputable def Yad.p (k:Nat):Pro:=⟨Tryz.prog,[(47,Yc.e k),(90,Y8.e k),(46,Yp.e k)],hints [(2,kp [0,5] [(1,.dat false)])] false [],k⟩
theorem Yad.l0_eq (k:Nat) (a0:LC) (a1:Int):LpEq ((Yad.p k).lf Tryz.f44 2 [1,0,1,0] [.own false [.own a0],.d (.int .i64 a1)] [1] [.n,.o]) (Yad.l0 k (λz0 z1=>some (z0,z1))) (λ(aF,aC,aH)=>mkSt 60 [(0,.row 0),(1,.d false (.int .i64 aF)),(5,.d true (.int .i64 aC))] [.row (some 0) false 31 aH]):=lf_eq λL0 v=>by obtain⟨aF,aC,aH⟩:=v;kernel_rfl
theorem Yad.ok (k:Nat):Zas Tryz.prog 44 (Yad.e k):=ent_ok (Yad.p k) mix tyok Tryz.func44 ⟨Yc.ok k,Y8.ok k,Yp.ok k⟩ Kr (λa0 a1=>Eq.trans Kr (congrArg (Yad.m k a0 a1 (λz0 z1=>some (z0,z1))) (funext λv=>Yad.l0_eq k a0 a1 k v) :))
noncomputable def Yae.l0 {β:Type} (k:Nat) (K:Int->LC->Option β) (L0:(Int×Int×LC)->Option β) (v:Int×Int×LC):Option β:=
 match v with
 |(aF,aC,aH)=>bif(decide ((aC:Int)<(aH.length:Int))) then(Z0 ((0:Int)<=aC/\aC<(aH.length:Int)) (Z0 (Int.toNat aC<aH.length) (bd1 (Yc.t k (IntKind.wrap .i64 (aF+1))) (λy2=>let J5:=(aH.modify (Int.toNat aC) λc=>ZE c 0 [.d (.int .i64 aF)]);let J2:=(J5.modify (Int.toNat aC) λc=>ZE c 1 [.d (.str y2)]);let J1:=(J2.modify (Int.toNat aC) λc=>ZE c 2 [.d (.int .i64 (IntKind.wrap .i64 ((IntKind.wrap .i64 (aF+1))+1)))]);let J4:=(IntKind.wrap .i64 ((IntKind.wrap .i64 ((IntKind.wrap .i64 (aF+1))+1))+1));let J0:=(J1.modify (Int.toNat aC) λc=>ZE c 3 [.d (.int .i64 J4)]);let J3:=(IntKind.wrap .i64 (J4+1));Z0 ((0:Int)<=aC/\aC<(J5.length:Int)) (Z0 (Int.toNat aC<J5.length) (Z0 ((0:Int)<=aC/\aC<(J2.length:Int)) (Z0 (Int.toNat aC<J2.length) (Z0 ((0:Int)<=aC/\aC<(J1.length:Int)) (Z0 (Int.toNat aC<J1.length) (Z0 ((0:Int)<=aC/\aC<(J0.length:Int)) (Z0 (Int.toNat aC<J0.length) (L0 (IntKind.wrap .i64 (J3+1),IntKind.wrap .i64 (aC+1),J0.modify (Int.toNat aC) λc=>ZE c 4 [.d (.int .i64 J3)]))))))))))))) else(K aF aH)
noncomputable def Yae.m {β:Type} (k:Nat) (a0:LC) (a1:Int) (K:Int->LC->Option β) (F:((Int×Int×LC)->Option β)):Option β:=
 F (a1,0,a0)
noncomputable def Yae.g {β:Type} (k:Nat) (a0:LC) (a1:Int) (K:Int->LC->Option β):Option β:=
 Za1 (Yae.l0 k K) k (a1,0,a0)
noncomputable def Yae.t (k:Nat) (a0:LC) (a1:Int):=Yae.g k a0 a1 (λz0 z1=>some (z0,z1))
noncomputable def Yae.e (k:Nat):Za0:=ent [.own false 32 [.o],.d .n] [1] [.n,.o] [3] false (Yae.t k)
noncomputable def Yae.p (k:Nat):Pro:=⟨Tryz.prog,[(47,Yc.e k)],hints [(2,kp [0,5] [(1,.dat false)])] false [],k⟩
theorem Yae.l0_eq (k:Nat) (a0:LC) (a1:Int):LpEq ((Yae.p k).lf Tryz.f45 2 [1,0,1,0] [.own false [.own a0],.d (.int .i64 a1)] [1] [.n,.o]) (Yae.l0 k (λz0 z1=>some (z0,z1))) (λ(aF,aC,aH)=>mkSt 49 [(0,.row 0),(1,.d false (.int .i64 aF)),(5,.d true (.int .i64 aC))] [.row (some 0) false 32 aH]):=lf_eq λL0 v=>by obtain⟨aF,aC,aH⟩:=v;kernel_rfl
theorem Yae.ok (k:Nat):Zas Tryz.prog 45 (Yae.e k):=ent_ok (Yae.p k) mix tyok Tryz.func45 (Yc.ok k) Kr (λa0 a1=>Eq.trans Kr (congrArg (Yae.m k a0 a1 (λz0 z1=>some (z0,z1))) (funext λv=>Yae.l0_eq k a0 a1 k v) :))
noncomputable def YbI.g {β:Type} (k:Nat) (aB aA aD:Int) (aE aG aJ aK:LC) (a1:Int) (K:Int->LC->LC->LC->LC->Option β):Option β:=
 bd2 (Yam.t k aE a1) (λy77 y78=>Z0 (y78.length=aE.length) (bd2 (Yad.t k aG y77) (λy79 y80=>Z0 (y80.length=aG.length) (bd2 (Yae.t k aJ y79) (λy81 y82=>Z0 (y82.length=aJ.length) (bd2 (Yp.t k aK y81) (λy83 y84=>Z0 (y84.length=aK.length) (K y83 y78 y80 y82 y84))))))))
noncomputable def YbI.t (k:Nat) (aB aA aD:Int) (aE aG aJ aK:LC) (a1:Int):=YbI.g k aB aA aD aE aG aJ aK a1 (λz0 z1 z2 z3 z4=>some (z0,z1,z2,z3,z4))
noncomputable def YbI.e (k:Nat):Za0:=ent [.own true 34 [.n,.n,.n,.o,.o,.o,.o],.d .n] [1] [.n,.o,.o,.o,.o] [3] false (YbI.t k)
noncomputable def YbI.p (k:Nat):Pro:=⟨Tryz.prog,[(43,Yam.e k),(44,Yad.e k),(45,Yae.e k),(46,Yp.e k)],hints [] false [],k⟩
theorem YbI.ok (k:Nat):Zas Tryz.prog 13 (YbI.e k):=ent_ok (YbI.p k) mix tyok Tryz.func13 ⟨Yam.ok k,Yad.ok k,Yae.ok k,Yp.ok k⟩ Kr (λaB aA aD aE aG aJ aK a1=>Ks)
noncomputable def Yac.l0 {β:Type} (k:Nat) (K:Int->LC->Option β) (L0:(Int×Int×LC)->Option β) (v:Int×Int×LC):Option β:=
 match v with
 |(aF,aC,aH)=>bif(decide ((aC:Int)<(aH.length:Int))) then(let J7:=(aH.modify (Int.toNat aC) λc=>ZE c 0 [.d (.int .i64 aF)]);let J4:=(J7.modify (Int.toNat aC) λc=>ZE c 1 [.d (.int .i64 (IntKind.wrap .i64 (aF+1)))]);let J6:=(IntKind.wrap .i64 ((IntKind.wrap .i64 ((IntKind.wrap .i64 (aF+1))+1))+1));Z0 ((0:Int)<=aC/\aC<(aH.length:Int)) (Z0 (Int.toNat aC<aH.length) (Z0 ((0:Int)<=aC/\aC<(J7.length:Int)) (Z0 (Int.toNat aC<J7.length) (Z0 ((0:Int)<=aC/\aC<(J4.length:Int)) (Z0 (Int.toNat aC<J4.length) (bd1 (Yc.t k J6) (λy14=>let J3:=(J4.modify (Int.toNat aC) λc=>ZE c 2 [.d (.int .i64 (IntKind.wrap .i64 ((IntKind.wrap .i64 (aF+1))+1)))]);let J2:=(J3.modify (Int.toNat aC) λc=>ZE c 3 [.d (.str y14)]);let J5:=(IntKind.wrap .i64 (J6+1));let J1:=(J2.modify (Int.toNat aC) λc=>ZE c 4 [.d (.int .i64 J5)]);Z0 ((0:Int)<=aC/\aC<(J3.length:Int)) (Z0 (Int.toNat aC<J3.length) (Z0 ((0:Int)<=aC/\aC<(J2.length:Int)) (Z0 (Int.toNat aC<J2.length) (Z0 ((0:Int)<=aC/\aC<(J1.length:Int)) (Za7 J1 (Int.toNat aC) λc15=>Zct (c15.drop 5) λc16 r17=>cOwn c16 λy18=>bd2 (Yp.t k y18 (IntKind.wrap .i64 (J5+1))) (λy19 y20=>let J0:=(J1.modify (Int.toNat aC) λr=>r.set 5 (.own y20));Z0 ((0:Int)<=aC/\aC<(J0.length:Int)) (Za7 J0 (Int.toNat aC) λc21=>Zct (c21.drop 6) λc22 r23=>cOwn c22 λy24=>Yo.f k y24 y19 (λy25 y26=>L0 (y25,IntKind.wrap .i64 (aC+1),J0.modify (Int.toNat aC) λr=>r.set 6 (.own y26)))))))))))))))))) else(K aF aH)
noncomputable def Yac.m {β:Type} (k:Nat) (a0:LC) (a1:Int) (K:Int->LC->Option β) (F:((Int×Int×LC)->Option β)):Option β:=
 F (a1,0,a0)
noncomputable def Yac.g {β:Type} (k:Nat) (a0:LC) (a1:Int) (K:Int->LC->Option β):Option β:=
 Za1 (Yac.l0 k K) k (a1,0,a0)
noncomputable def Yac.t (k:Nat) (a0:LC) (a1:Int):=Yac.g k a0 a1 (λz0 z1=>some (z0,z1))
noncomputable def Yac.e (k:Nat):Za0:=ent [.own false 38 [.o],.d .n] [1] [.n,.o] [3] false (Yac.t k)
noncomputable def Yac.p (k:Nat):Pro:=⟨Tryz.prog,[(47,Yc.e k),(46,Yp.e k),(48,Yo.e k)],hints [(2,kp [0,5] [(1,.dat false)])] false [],k⟩
theorem Yac.l0_eq (k:Nat) (a0:LC) (a1:Int):LpEq ((Yac.p k).lf Tryz.f14 2 [1,0,1,0] [.own false [.own a0],.d (.int .i64 a1)] [1] [.n,.o]) (Yac.l0 k (λz0 z1=>some (z0,z1))) (λ(aF,aC,aH)=>mkSt 68 [(0,.row 0),(1,.d false (.int .i64 aF)),(5,.d true (.int .i64 aC))] [.row (some 0) false 38 aH]):=lf_eq λL0 v=>by obtain⟨aF,aC,aH⟩:=v;kernel_rfl
theorem Yac.ok (k:Nat):Zas Tryz.prog 14 (Yac.e k):=ent_ok (Yac.p k) mix tyok Tryz.func14 ⟨Yc.ok k,Yp.ok k,Yo.ok k⟩ Kr (λa0 a1=>Eq.trans Kr (congrArg (Yac.m k a0 a1 (λz0 z1=>some (z0,z1))) (funext λv=>Yac.l0_eq k a0 a1 k v) :))
noncomputable def YU.l0 {β:Type} (k:Nat) (aF:LD) (K:Int->Option β) (L0:(Int×Int)->Option β) (v:Int×Int):Option β:=
 match v with
 |(aC,aH)=>bif(decide ((aH:Int)<(aF.length:Int))) then(atR aF aH [.s] λx9=>(bd1 (Yc.t k aC) (λy10=>bif(!(ZP x9 y10)) then(K (-1)) else(L0 (IntKind.wrap .i64 (aC+1),IntKind.wrap .i64 (aH+1)))))) else(K aC)
noncomputable def YU.m {β:Type} (k:Nat) (a0:LD) (a1:Int) (K:Int->Option β) (F:(LD->(Int×Int)->Option β)):Option β:=
 F a0 (a1,0)
noncomputable def YU.g {β:Type} (k:Nat) (a0:LD) (a1:Int) (K:Int->Option β):Option β:=
 Za1 (YU.l0 k a0 K) k (a1,0)
noncomputable def YU.t (k:Nat) (a0:LD) (a1:Int):=YU.g k a0 a1 (λz0=>some z0)
noncomputable def YU.e (k:Nat):Za0:=ent [.d .l,.d .n] [1] [.n] [3] false (YU.t k)
noncomputable def YU.p (k:Nat):Pro:=⟨Tryz.prog,[(47,Yc.e k)],hints [(2,kp [0,5] [(1,.dat false)])] false [],k⟩
theorem YU.l0_eq (k:Nat) (a0:LD) (a1:Int) (aF:LD):LpEq ((YU.p k).lf Tryz.f49 2 [1,0,1,0] [.d (.sl a0),.d (.int .i64 a1)] [1] [.n]) (YU.l0 k aF (λz0=>some z0)) (λ(aC,aH)=>mkSt 22 [(0,.d false (.sl aF)),(1,.d false (.int .i64 aC)),(5,.d true (.int .i64 aH))] []):=lf_eq λL0 v=>by obtain⟨aC,aH⟩:=v;kernel_rfl
theorem YU.ok (k:Nat):Zas Tryz.prog 49 (YU.e k):=ent_ok (YU.p k) mix tyok Tryz.func49 (Yc.ok k) Kr (λa0 a1=>Eq.trans Kr (congrArg (YU.m k a0 a1 (λz0=>some z0)) (funext λaF=>funext λv=>YU.l0_eq k a0 a1 aF k v) :))
noncomputable def Yq.l0 {β:Type} (k:Nat) (r_laws_heldValueS:LD->Int->(Int->Option β)->Option β) (aF:LD) (K:Int->Option β) (L0:(Int×Int)->Option β) (v:Int×Int):Option β:=
 match v with
 |(aC,aH)=>bif(decide ((aH:Int)<(aF.length:Int))) then(atR aF aH [.n,.s,.n,.l,.l] λx87 x90 x93 x96 x99=>(bif((x87:Int)!=aC) then(K (-1)) else(atR aF aH [.n,.s,.n,.l,.l] λx103 x106 x109 x112 x115=>(bd1 (Yc.t k (IntKind.wrap .i64 (aC+1))) (λy116=>bif(!(ZP x106 y116)) then(K (-1)) else(atR aF aH [.n,.s,.n,.l,.l] λx120 x123 x126 x129 x132=>(bif((x126:Int)!=(IntKind.wrap .i64 ((IntKind.wrap .i64 (aC+1))+1))) then(K (-1)) else(atR aF aH [.n,.s,.n,.l,.l] λx136 x139 x142 x145 x148=>(bd1 (YU.t k x145 (IntKind.wrap .i64 ((IntKind.wrap .i64 ((IntKind.wrap .i64 (aC+1))+1))+1))) (λy149=>bif(decide ((y149:Int)<0)) then(K (-1)) else(atR aF aH [.n,.s,.n,.l,.l] λx153 x156 x159 x162 x165=>(r_laws_heldValueS x165 y149 (λy166=>bif(decide ((y166:Int)<0)) then(K (-1)) else(L0 (y166,IntKind.wrap .i64 (aH+1)))))))))))))))) else(K aC)
noncomputable def Yq.m {β:Type} (k:Nat) (r_laws_heldValueS:LD->Int->(Int->Option β)->Option β) (a0:LD) (a1:Int) (K:Int->Option β) (F:(LD->(Int×Int)->Option β)):Option β:=
 F a0 (a1,0)
noncomputable def Yq.body {β:Type} (k:Nat) (r_laws_heldValueS:LD->Int->(Int->Option β)->Option β) (a0:LD) (a1:Int) (K:Int->Option β):Option β:=
 Za1 (Yq.l0 k r_laws_heldValueS a0 K) k (a1,0)
noncomputable def Yq.w {β:Type} (r:LD->Int->Option (Int)) (a0:LD) (a1:Int) (K:Int->Option β):Option β:=bd1 (r a0 a1) K
noncomputable def Yq.all:Nat->(LD->Int->Option (Int))
 |0=>(λ_ _=>none)
 |k+1=>(λr=>(λa0 a1=>Yq.body k (Yq.w r) a0 a1 (λz0=>some z0))) (Yq.all k)
noncomputable def Yq.t (k:Nat) (a0:LD) (a1:Int):Option (Int):=(Yq.all k) a0 a1
noncomputable def Yq.f {β:Type} (k:Nat) (a0:LD) (a1:Int) (K:Int->Option β):Option β:=Yq.w (Yq.t k) a0 a1 K
noncomputable def Yq.g {β:Type} (k:Nat) (a0:LD) (a1:Int) (K:Int->Option β):Option β:=Yq.body k (Yq.f k) a0 a1 K
theorem Yq.t_succ (k:Nat) (a0:LD) (a1:Int):Yq.t (k+1) a0 a1=Yq.g k a0 a1 (λz0=>some z0):=rfl
noncomputable def Yq.e (k:Nat):Za0:=ent [.d .l,.d .n] [1] [.n] [3] false (Yq.t k)
noncomputable def Yq.p (k:Nat):Pro:=⟨Tryz.prog,[(47,Yc.e k),(49,YU.e k),(50,Yq.e k)],hints [(2,kp [0,5] [(1,.dat false)])] false [],k⟩
theorem Yq.l0_eq (k:Nat) (a0:LD) (a1:Int) (aF:LD):LpEq ((Yq.p k).lf Tryz.f50 2 [1,0,1,0] [.d (.sl a0),.d (.int .i64 a1)] [1] [.n]) (Yq.l0 k (Yq.f k) aF (λz0=>some z0)) (λ(aC,aH)=>mkSt 59 [(0,.d false (.sl aF)),(1,.d false (.int .i64 aC)),(5,.d true (.int .i64 aH))] []):=lf_eq λL0 v=>by obtain⟨aC,aH⟩:=v;kernel_rfl
theorem Yq.oks (k:Nat):Zas Tryz.prog 50 (Yq.e k):=by
 induction k with
 |zero=>exact ent_zero Tryz.func50 Kr (λ_ _=>rfl)
 |succ k ih=>exact ent_ok (Yq.p k) mix tyok Tryz.func50 ⟨Yc.ok k,YU.ok k,ih⟩ Kr (λa0 a1=>Eq.trans Kr ((congrArg (Yq.m k (Yq.f k) a0 a1 (λz0=>some z0)) (funext λaF=>funext λv=>Yq.l0_eq k a0 a1 aF k v)).trans (Yq.t_succ k a0 a1).symm))
theorem Yq.ok (k:Nat):Zas Tryz.prog 50 (Yq.e k):=(Yq.oks k)
noncomputable def Y6.l0 {β:Type} (k:Nat) (aF:LD) (K:Int->Option β) (L0:(Int×Int)->Option β) (v:Int×Int):Option β:=
 match v with
 |(aC,aH)=>bif(decide ((aH:Int)<(aF.length:Int))) then(atR aF aH [.n,.n,.n,.s,.n,.l,.l] λx161 x164 x167 x170 x173 x176 x179=>(bif((x161:Int)!=aC) then(K (-1)) else(atR aF aH [.n,.n,.n,.s,.n,.l,.l] λx183 x186 x189 x192 x195 x198 x201=>(bif((x186:Int)!=(IntKind.wrap .i64 (aC+1))) then(K (-1)) else(atR aF aH [.n,.n,.n,.s,.n,.l,.l] λx205 x208 x211 x214 x217 x220 x223=>(bif((x211:Int)!=(IntKind.wrap .i64 ((IntKind.wrap .i64 (aC+1))+1))) then(K (-1)) else(atR aF aH [.n,.n,.n,.s,.n,.l,.l] λx227 x230 x233 x236 x239 x242 x245=>let J1:=(IntKind.wrap .i64 ((IntKind.wrap .i64 ((IntKind.wrap .i64 (aC+1))+1))+1));(bd1 (Yc.t k J1) (λy246=>bif(!(ZP x236 y246)) then(K (-1)) else(atR aF aH [.n,.n,.n,.s,.n,.l,.l] λx250 x253 x256 x259 x262 x265 x268=>let J0:=(IntKind.wrap .i64 (J1+1));(bif((x262:Int)!=J0) then(K (-1)) else(atR aF aH [.n,.n,.n,.s,.n,.l,.l] λx272 x275 x278 x281 x284 x287 x290=>(bd1 (YU.t k x287 (IntKind.wrap .i64 (J0+1))) (λy291=>bif(decide ((y291:Int)<0)) then(K (-1)) else(atR aF aH [.n,.n,.n,.s,.n,.l,.l] λx295 x298 x301 x304 x307 x310 x313=>(Yq.f k x313 y291 (λy314=>bif(decide ((y314:Int)<0)) then(K (-1)) else(L0 (y314,IntKind.wrap .i64 (aH+1)))))))))))))))))))) else(K aC)
noncomputable def Y6.m {β:Type} (k:Nat) (a0:LD) (a1:Int) (K:Int->Option β) (F:(LD->(Int×Int)->Option β)):Option β:=
 F a0 (a1,0)
noncomputable def Y6.g {β:Type} (k:Nat) (a0:LD) (a1:Int) (K:Int->Option β):Option β:=
 Za1 (Y6.l0 k a0 K) k (a1,0)
noncomputable def Y6.t (k:Nat) (a0:LD) (a1:Int):=Y6.g k a0 a1 (λz0=>some z0)
noncomputable def Y6.e (k:Nat):Za0:=ent [.d .l,.d .n] [1] [.n] [3] false (Y6.t k)
noncomputable def Y6.p (k:Nat):Pro:=⟨Tryz.prog,[(47,Yc.e k),(49,YU.e k),(50,Yq.e k)],hints [(2,kp [0,5] [(1,.dat false)])] false [],k⟩
theorem Y6.l0_eq (k:Nat) (a0:LD) (a1:Int) (aF:LD):LpEq ((Y6.p k).lf Tryz.f15 2 [1,0,1,0] [.d (.sl a0),.d (.int .i64 a1)] [1] [.n]) (Y6.l0 k aF (λz0=>some z0)) (λ(aC,aH)=>mkSt 82 [(0,.d false (.sl aF)),(1,.d false (.int .i64 aC)),(5,.d true (.int .i64 aH))] []):=lf_eq λL0 v=>by obtain⟨aC,aH⟩:=v;kernel_rfl
theorem Y6.ok (k:Nat):Zas Tryz.prog 15 (Y6.e k):=ent_ok (Y6.p k) mix tyok Tryz.func15 ⟨Yc.ok k,YU.ok k,Yq.ok k⟩ Kr (λa0 a1=>Eq.trans Kr (congrArg (Y6.m k a0 a1 (λz0=>some z0)) (funext λaF=>funext λv=>Y6.l0_eq k a0 a1 aF k v) :))
noncomputable def Ya4.g {β:Type} (k:Nat) (aB aA aD:Int) (aE aG aJ aK:LD) (a1:BA) (K:Bool->Option β):Option β:=
 bif(decide (((a1.size:Int):Int)>1048576)) then(K true) else(bd1 (Yce.t k aB aA aD aE aG aJ aK 1048576) (λy104=>bif(decide ((y104:Int)<0)) then(K true) else(bd7 (Ybx.t k aB aA aD aE aG aJ aK) (λy142 y143 y144 y145 y146 y147 y148=>bd1 (Ya8.t k y142 y143 y144 (C.immRows y145) (C.immRows y146) (C.immRows y147) (C.immRows y148) a1) (λy646=>bd7 (Ybx.t k aB aA aD aE aG aJ aK) (λy647 y648 y649 y650 y651 y652 y653=>bd1 (Ya5.t k y647 y648 y649 (C.immRows y650) (C.immRows y651) (C.immRows y652) (C.immRows y653) a1) (λy654=>bd1 (Yal.t k (C.immRows y654) (C.immRows y646)) (λy655=>bif(!y655) then(K false) else(bd7 (Ybx.t k aB aA aD aE aG aJ aK) (λy656 y657 y658 y659 y660 y661 y662=>bd1 (Ycf.t k y647 y648 y649 (C.immRows y650) (C.immRows y651) (C.immRows y652) (C.immRows y653) y656 y657 y658 (C.immRows y659) (C.immRows y660) (C.immRows y661) (C.immRows y662)) (λy663=>bif(!y663) then(K false) else(bd5 (YbI.t k y647 y648 y649 y650 y651 y652 y653 1) (λy664 y665 y666 y667 y668=>Z0 (y665.length=y650.length) (Z0 (y666.length=y651.length) (Z0 (y667.length=y652.length) (Z0 (y668.length=y653.length) (bif(decide ((y664:Int)<0)) then(K false) else(bd1 (Yal.t k (C.immRows y654) (C.immRows y646)) (λy669=>bif(!y669) then(K false) else(bd2 (Yac.t k y654 1) (λy670 y671=>Z0 (y671.length=y654.length) (bd1 (Y6.t k (C.immRows y671) 1) (λy672=>bif(decide ((y672:Int)<0)) then(K false) else(bif((y672:Int)!=y670) then(K false) else(bd7 (Ybx.t k aB aA aD aE aG aJ aK) (λy673 y674 y675 y676 y677 y678 y679=>bd1 (Ya5.t k y673 y674 y675 (C.immRows y676) (C.immRows y677) (C.immRows y678) (C.immRows y679) a1) (λy680=>bd1 (Yal.t k (C.immRows y680) (C.immRows y646)) (λy681=>bif(!y681) then(K false) else(bd1 (Y6.t k (C.immRows y671) 1) (λy682=>bif(decide ((y682:Int)<0)) then(K false) else(bif((y682:Int)!=y670) then(K false) else(K true))))))))))))))))))))))))))))))))
noncomputable def Ya4.t (k:Nat) (aB aA aD:Int) (aE aG aJ aK:LD) (a1:BA):=Ya4.g k aB aA aD aE aG aJ aK a1 (λz0=>some z0)
noncomputable def Ya4.e (k:Nat):Za0:=ent [.agg [.n,.n,.n,.l,.l,.l,.l],.d .s] [1] [.b] [4] false (Ya4.t k)
noncomputable def Ya4.p (k:Nat):Pro:=⟨Tryz.prog,[(5,Yce.e k),(7,Ybx.e k),(10,Ya8.e k),(11,Ya5.e k),(12,Yal.e k),(9,Ycf.e k),(13,YbI.e k),(14,Yac.e k),(15,Y6.e k)],hints [] false [],k⟩
theorem Ya4.ok (k:Nat):Zas Tryz.prog 4 (Ya4.e k):=ent_ok (Ya4.p k) mix tyok Tryz.func4 ⟨Yce.ok k,Ybx.ok k,Ya8.ok k,Ya5.ok k,Yal.ok k,Ycf.ok k,YbI.ok k,Yac.ok k,Y6.ok k⟩ Kr (λaB aA aD aE aG aJ aK a1=>Ks)
end Go.Proofs.YtnfogafklciihaaGreat
