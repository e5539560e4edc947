/- Printed: the functions that FnExactHubOk reaches,read by the evaluator,each with its contract. -/
import Derived.Test.YtnfogafklciihaaGreatXEHubOk0
import Derived.KernelRfl
set_option linter.unusedVariables false
set_option linter.unusedSimpArgs false
set_option maxRecDepth 1000000
set_option maxHeartbeats 8000000
namespace Go.Proofs.YtnfogafklciihaaGreat
open Go Go.T Go.Proofs
noncomputable def Yb.l0 {β:Type} (k:Nat) (r_slices_EqualFunc_impl_Value__impl_SameValue:LD->LD->(Bool->Option β)->Option β) (r_impl_SameValue:Int->BA->Int->LD->LD->Int->BA->Int->LD->LD->(Bool->Option β)->Option β) (aF aG:LD) (aH:Int) (K:Bool->Option β) (L0:Int->Option β) (v:Int):Option β:=
 match v with
 |aI=>bif(decide ((aI:Int)<aH)) then(atR aG aI [.n,.s,.n,.l,.l] λx37 x40 x43 x46 x49=>(atR aF aI [.n,.s,.n,.l,.l] λx53 x56 x59 x62 x65=>(r_impl_SameValue x37 x40 x43 x46 x49 x53 x56 x59 x62 x65 (λy66=>bif(!y66) then(K false) else(L0 (IntKind.wrap .i64 (aI+1))))))) else(K true)
noncomputable def Yb.m {β:Type} (k:Nat) (r_slices_EqualFunc_impl_Value__impl_SameValue:LD->LD->(Bool->Option β)->Option β) (r_impl_SameValue:Int->BA->Int->LD->LD->Int->BA->Int->LD->LD->(Bool->Option β)->Option β) (a0 a1:LD) (K:Bool->Option β) (F:(LD->LD->Int->Int->Option β)):Option β:=
 bif(((a0.length:Int):Int)!=(a1.length:Int)) then(K false) else(F a1 a0 (a0.length:Int) (0))
noncomputable def Yb.body {β:Type} (k:Nat) (r_slices_EqualFunc_impl_Value__impl_SameValue:LD->LD->(Bool->Option β)->Option β) (r_impl_SameValue:Int->BA->Int->LD->LD->Int->BA->Int->LD->LD->(Bool->Option β)->Option β) (a0 a1:LD) (K:Bool->Option β):Option β:=
 bif(((a0.length:Int):Int)!=(a1.length:Int)) then(K false) else(Za1 (Yb.l0 k r_slices_EqualFunc_impl_Value__impl_SameValue r_impl_SameValue a1 a0 (a0.length:Int) K) k (0))
noncomputable def Yz.body {β:Type} (k:Nat) (r_slices_EqualFunc_impl_Value__impl_SameValue:LD->LD->(Bool->Option β)->Option β) (r_impl_SameValue:Int->BA->Int->LD->LD->Int->BA->Int->LD->LD->(Bool->Option β)->Option β) (aB:Int) (aA:BA) (aC:Int) (aD aE:LD) (aP:Int) (aO:BA) (aR:Int) (aS aT:LD) (K:Bool->Option β):Option β:=
 bif((aB:Int)==aP) then(bif(ZP aA aO) then(bif((aC:Int)==aR) then(bd1 (YU.t k aD aS) (λy17=>bif y17 then(r_slices_EqualFunc_impl_Value__impl_SameValue aE aT (λy67=>K y67)) else(K false))) else(K false)) else(K false)) else(K false)
noncomputable def Yb.w {β:Type} (r:LD->LD->Option (Bool)) (a0 a1:LD) (K:Bool->Option β):Option β:=bd1 (r a0 a1) K
noncomputable def Yz.w {β:Type} (r:Int->BA->Int->LD->LD->Int->BA->Int->LD->LD->Option (Bool)) (aB:Int) (aA:BA) (aC:Int) (aD aE:LD) (aP:Int) (aO:BA) (aR:Int) (aS aT:LD) (K:Bool->Option β):Option β:=bd1 (r aB aA aC aD aE aP aO aR aS aT) K
noncomputable def Yb.all:Nat->(LD->LD->Option (Bool))×(Int->BA->Int->LD->LD->Int->BA->Int->LD->LD->Option (Bool))
 |0=>(λ_ _=>none,λ_ _ _ _ _ _ _ _ _ _=>none)
 |k+1=>(λr=>(λa0 a1=>Yb.body k (Yb.w r.1) (Yz.w r.2) a0 a1 (λz0=>some z0),λaB aA aC aD aE aP aO aR aS aT=>Yz.body k (Yb.w r.1) (Yz.w r.2) aB aA aC aD aE aP aO aR aS aT (λz0=>some z0))) (Yb.all k)
noncomputable def Yb.t (k:Nat) (a0 a1:LD):Option (Bool):=(Yb.all k).1 a0 a1
noncomputable def Yz.t (k:Nat) (aB:Int) (aA:BA) (aC:Int) (aD aE:LD) (aP:Int) (aO:BA) (aR:Int) (aS aT:LD):Option (Bool):=(Yb.all k).2 aB aA aC aD aE aP aO aR aS aT
noncomputable def Yb.f {β:Type} (k:Nat) (a0 a1:LD) (K:Bool->Option β):Option β:=Yb.w (Yb.t k) a0 a1 K
noncomputable def Yz.f {β:Type} (k:Nat) (aB:Int) (aA:BA) (aC:Int) (aD aE:LD) (aP:Int) (aO:BA) (aR:Int) (aS aT:LD) (K:Bool->Option β):Option β:=Yz.w (Yz.t k) aB aA aC aD aE aP aO aR aS aT K
noncomputable def Yb.g {β:Type} (k:Nat) (a0 a1:LD) (K:Bool->Option β):Option β:=Yb.body k (Yb.f k) (Yz.f k) a0 a1 K
theorem Yb.t_succ (k:Nat) (a0 a1:LD):Yb.t (k+1) a0 a1=Yb.g k a0 a1 (λz0=>some z0):=rfl
noncomputable def Yz.g {β:Type} (k:Nat) (aB:Int) (aA:BA) (aC:Int) (aD aE:LD) (aP:Int) (aO:BA) (aR:Int) (aS aT:LD) (K:Bool->Option β):Option β:=Yz.body k (Yb.f k) (Yz.f k) aB aA aC aD aE aP aO aR aS aT K
theorem Yz.t_succ (k:Nat) (aB:Int) (aA:BA) (aC:Int) (aD aE:LD) (aP:Int) (aO:BA) (aR:Int) (aS aT:LD):Yz.t (k+1) aB aA aC aD aE aP aO aR aS aT=Yz.g k aB aA aC aD aE aP aO aR aS aT (λz0=>some z0):=rfl
noncomputable def Yb.e (k:Nat):Za0:=ent [.d .l,.d .l,.fn 156 []] [1] [.b] [4] false (Yb.t k)
noncomputable def Yz.e (k:Nat):Za0:=ent [.agg [.n,.s,.n,.l,.l],.agg [.n,.s,.n,.l,.l]] [1] [.b] [4] false (Yz.t k)
noncomputable def Yb.p (k:Nat):Pro:=⟨Tryz.prog,[(156,Yz.e k)],hints [(4,kp [1,2,15,16,17])] false [],k⟩
theorem Yb.l0_eq (k:Nat) (a0 a1 aF aG:LD) (aH:Int):LpEq ((Yb.p k).lf Tryz.f182 4 [1,1,0,1,0] [.d (.sl a0),.d (.sl a1),.d (.fn 156 [])] [1] [.b]) (Yb.l0 k (Yb.f k) (Yz.f k) aF aG aH (λz0=>some z0)) (λaI=>mkSt 32 [(1,.d false (.sl aF)),(2,.d false (.fn 156 [])),(15,.d false (.sl aG)),(16,.d true (.int .i64 aH)),(17,.d true (.int .i64 aI))] []):=lf_eq λL0 v=>by kernel_rfl
noncomputable def Yz.p (k:Nat):Pro:=⟨Tryz.prog,[(181,YU.e k),(182,Yb.e k)],hints [] false [],k⟩
theorem Yb.oks (k:Nat):Zas Tryz.prog 182 (Yb.e k)/\Zas Tryz.prog 156 (Yz.e k):=by
 induction k with
 |zero=>exact⟨ent_zero Tryz.func182 Kr (λ_ _=>rfl),
  ent_zero Tryz.func156 Kr (λ_ _ _ _ _ _ _ _ _ _=>rfl)⟩
 |succ k ih=>exact⟨ent_ok (Yb.p k) mix tyok Tryz.func182 ih.2 Kr (λa0 a1=>Eq.trans Kr ((congrArg (Yb.m k (Yb.f k) (Yz.f k) a0 a1 (λz0=>some z0)) (funext λaF=>funext λaG=>funext λaH=>funext λv=>Yb.l0_eq k a0 a1 aF aG aH k v)).trans (Yb.t_succ k a0 a1).symm)),
  ent_ok (Yz.p k) mix tyok Tryz.func156 ⟨YU.ok k,ih.1⟩ Kr (λaB aA aC aD aE aP aO aR aS aT=>Ks)⟩
theorem Yz.ok (k:Nat):Zas Tryz.prog 156 (Yz.e k):=(Yb.oks k).2
noncomputable def Yb8.g {β:Type} (k:Nat) (aB:Int) (aA:LD) (aC:Int) (aD:BA) (aE:Int) (aJ aK:LD) (K:Bool->Option β):Option β:=
 bd1 (YX.t k (aA.length:Int) 1 5) (λy1=>bif(!y1) then(K false) else(bd1 (YG.t k aA) (λy26=>bif y26 then(K false) else(bif((aB:Int)==1) then(bif((aB:Int)==1) then(bd1 (Y7.t k aC aD aE aJ aK) (λy43=>K y43)) else(bif((aB:Int)==2) then(Yz.f k aC aD aE aJ aK 0 (⟨#[]⟩:BA) 0 ([]:LD) ([]:LD) (λy68=>K y68)) else(K false))) else(bif((aB:Int)==3) then(bd1 (Y7.t k aC aD aE aJ aK) (λy69=>K y69)) else(bif((aB:Int)==2) then(Yz.f k aC aD aE aJ aK 0 (⟨#[]⟩:BA) 0 ([]:LD) ([]:LD) (λy70=>K y70)) else(K false)))))))
noncomputable def Yb8.t (k:Nat) (aB:Int) (aA:LD) (aC:Int) (aD:BA) (aE:Int) (aJ aK:LD):=Yb8.g k aB aA aC aD aE aJ aK (λz0=>some z0)
noncomputable def Yb8.e (k:Nat):Za0:=ent [.agg [.n,.l,.n,.s,.n,.l,.l]] [1] [.b] [4] false (Yb8.t k)
noncomputable def Yb8.p (k:Nat):Pro:=⟨Tryz.prog,[(30,YX.e k),(177,YG.e k),(79,Y7.e k),(156,Yz.e k)],hints [] false [],k⟩
theorem Yb8.ok (k:Nat):Zas Tryz.prog 154 (Yb8.e k):=ent_ok (Yb8.p k) mix tyok Tryz.func154 ⟨YX.ok k,YG.ok k,Y7.ok k,Yz.ok k⟩ Kr (λaB aA aC aD aE aJ aK=>Ks)
noncomputable def Ybj.g {β:Type} (k:Nat) (aB:Int) (aA:LD) (aC:Int) (aD:BA) (aE:Int) (aJ aK:LD) (K:Bool->Option β):Option β:=
 bd1 (Yb8.t k aB aA aC aD aE aJ aK) (λy71=>K (!y71))
noncomputable def Ybj.t (k:Nat) (aB:Int) (aA:LD) (aC:Int) (aD:BA) (aE:Int) (aJ aK:LD):=Ybj.g k aB aA aC aD aE aJ aK (λz0=>some z0)
noncomputable def Ybj.e (k:Nat):Za0:=ent [.agg [.n,.l,.n,.s,.n,.l,.l]] [1] [.b] [4] false (Ybj.t k)
noncomputable def Ybj.p (k:Nat):Pro:=⟨Tryz.prog,[(154,Yb8.e k)],hints [] false [],k⟩
theorem Ybj.ok (k:Nat):Zas Tryz.prog 153 (Ybj.e k):=ent_ok (Ybj.p k) mix tyok Tryz.func153 (Yb8.ok k) Kr (λaB aA aC aD aE aJ aK=>Ks)
noncomputable def Yi.l0 {β:Type} (k:Nat) (aF:LD) (aG:Int) (K L0:Int->Option β) (v:Int):Option β:=
 match v with
 |aH=>bif(decide ((aH:Int)<aG)) then(atR aF aH [.n,.l,.n,.s,.n,.l,.l] λx76 x79 x82 x85 x88 x91 x94=>(bd1 (Ybj.t k x76 x79 x82 x85 x88 x91 x94) (λy95=>bif y95 then(K aH) else(L0 (IntKind.wrap .i64 (aH+1)))))) else(K (-1))
noncomputable def Yi.m {β:Type} (k:Nat) (a0:LD) (K:Int->Option β) (F:(LD->Int->Int->Option β)):Option β:=
 F a0 (a0.length:Int) (0)
noncomputable def Yi.g {β:Type} (k:Nat) (a0:LD) (K:Int->Option β):Option β:=
 Za1 (Yi.l0 k a0 (a0.length:Int) K) k (0)
noncomputable def Yi.t (k:Nat) (a0:LD):=Yi.g k a0 (λz0=>some z0)
noncomputable def Yi.e (k:Nat):Za0:=ent [.d .l,.fn 153 []] [1] [.n] [3] false (Yi.t k)
noncomputable def Yi.p (k:Nat):Pro:=⟨Tryz.prog,[(153,Ybj.e k)],hints [(2,kp [0,1,7,8])] false [],k⟩
theorem Yi.l0_eq (k:Nat) (a0 aF:LD) (aG:Int):LpEq ((Yi.p k).lf Tryz.f176 2 [1,0,1,0] [.d (.sl a0),.d (.fn 153 [])] [1] [.n]) (Yi.l0 k aF aG (λz0=>some z0)) (λaH=>mkSt 19 [(0,.d false (.sl aF)),(1,.d false (.fn 153 [])),(7,.d true (.int .i64 aG)),(8,.d true (.int .i64 aH))] []):=lf_eq λL0 v=>by kernel_rfl
theorem Yi.ok (k:Nat):Zas Tryz.prog 176 (Yi.e k):=ent_ok (Yi.p k) mix tyok Tryz.func176 (Ybj.ok k) Kr (λa0=>Eq.trans Kr (congrArg (Yi.m k a0 (λz0=>some z0)) (funext λaF=>funext λaG=>funext λv=>Yi.l0_eq k a0 aF aG k v) :))
noncomputable def Yt.g {β:Type} (k:Nat) (a0:LD) (K:Bool->Option β):Option β:=
 bd1 (Yi.t k a0) (λy96=>K (decide ((y96:Int)>=0)))
noncomputable def Yt.t (k:Nat) (a0:LD):=Yt.g k a0 (λz0=>some z0)
noncomputable def Yt.e (k:Nat):Za0:=ent [.d .l,.fn 153 []] [1] [.b] [4] false (Yt.t k)
noncomputable def Yt.p (k:Nat):Pro:=⟨Tryz.prog,[(176,Yi.e k)],hints [] false [],k⟩
theorem Yt.ok (k:Nat):Zas Tryz.prog 152 (Yt.e k):=ent_ok (Yt.p k) mix tyok Tryz.func152 (Yi.ok k) Kr (λa0=>Ks)
noncomputable def Ybk.g {β:Type} (k:Nat) (a0:LD) (K:Bool->Option β):Option β:=
 bif(decide (((a0.length:Int):Int)<=20)) then(bd1 (Yt.t k a0) (λy97=>K (!y97))) else(K false)
noncomputable def Ybk.t (k:Nat) (a0:LD):=Ybk.g k a0 (λz0=>some z0)
noncomputable def Ybk.e (k:Nat):Za0:=ent [.d .l] [1] [.b] [4] false (Ybk.t k)
noncomputable def Ybk.p (k:Nat):Pro:=⟨Tryz.prog,[(152,Yt.e k)],hints [] false [],k⟩
theorem Ybk.ok (k:Nat):Zas Tryz.prog 120 (Ybk.e k):=ent_ok (Ybk.p k) mix tyok Tryz.func120 (Yt.ok k) Kr (λa0=>Ks)
noncomputable def YaE.l0 {β:Type} (k:Nat) (aF aG:LD) (aH:Int) (K:Bool->Option β) (L0:Int->Option β) (v:Int):Option β:=
 match v with
 |aI=>bif(decide ((aI:Int)<aH)) then(atR aG aI [.s,.l] λx109 x112=>(bd1 (YI.t k x109) (λy113=>bif(!y113) then(K false) else(bd1 (Ybk.t k x112) (λy114=>bif(!y114) then(K false) else(bif(decide ((aI:Int)>0)) then(atR aF (IntKind.wrap .i64 (aI-1)) [.s,.l] λx118 x121=>(bif(!(Za3 x118 x109)) then(K false) else(L0 (IntKind.wrap .i64 (aI+1))))) else(L0 (IntKind.wrap .i64 (aI+1))))))))) else(K (decide (((aF.length:Int):Int)<=12)))
noncomputable def YaE.m {β:Type} (k:Nat) (a0:LD) (K:Bool->Option β) (F:(LD->LD->Int->Int->Option β)):Option β:=
 F a0 a0 (a0.length:Int) (0)
noncomputable def YaE.g {β:Type} (k:Nat) (a0:LD) (K:Bool->Option β):Option β:=
 Za1 (YaE.l0 k a0 a0 (a0.length:Int) K) k (0)
noncomputable def YaE.t (k:Nat) (a0:LD):=YaE.g k a0 (λz0=>some z0)
noncomputable def YaE.e (k:Nat):Za0:=ent [.d .l] [1] [.b] [4] false (YaE.t k)
noncomputable def YaE.p (k:Nat):Pro:=⟨Tryz.prog,[(65,YI.e k),(120,Ybk.e k)],hints [(2,kp [0,5,6,7])] false [],k⟩
theorem YaE.l0_eq (k:Nat) (a0 aF aG:LD) (aH:Int):LpEq ((YaE.p k).lf Tryz.f104 2 [1,0,1,0] [.d (.sl a0)] [1] [.b]) (YaE.l0 k aF aG aH (λz0=>some z0)) (λaI=>mkSt 41 [(0,.d false (.sl aF)),(5,.d false (.sl aG)),(6,.d true (.int .i64 aH)),(7,.d true (.int .i64 aI))] []):=lf_eq λL0 v=>by kernel_rfl
theorem YaE.ok (k:Nat):Zas Tryz.prog 104 (YaE.e k):=ent_ok (YaE.p k) mix tyok Tryz.func104 ⟨YI.ok k,Ybk.ok k⟩ Kr (λa0=>Eq.trans Kr (congrArg (YaE.m k a0 (λz0=>some z0)) (funext λaF=>funext λaG=>funext λaH=>funext λv=>YaE.l0_eq k a0 aF aG aH k v) :))
noncomputable def Yam.g {β:Type} (k:Nat) (a0:LD) (K:LC->Option β):Option β:=
 let J0:=(Z0 (ZcV 1 a0) (Z0 (([]:LC).length+(a0.map (·.map C.d)).length<=Zx) (K (([]:LC)++(a0.map (·.map C.d))))));nilSl a0 (both (K ([]:LC)) J0) J0
noncomputable def Yam.t (k:Nat) (a0:LD):=Yam.g k a0 (λz0=>some z0)
noncomputable def Yam.e (k:Nat):Za0:=ent [.d .l] [1] [.o] [25] false (Yam.t k)
noncomputable def Yam.p (k:Nat):Pro:=⟨Tryz.prog,[],hints [] false [],k⟩
theorem Yam.ok (k:Nat):Zas Tryz.prog 119 (Yam.e k):=ent_ok (Yam.p k) mix tyok Tryz.func119 trivial Kr (λa0=>Ks)
noncomputable def Yn.l0 {β:Type} (k:Nat) (r_impl_copyValue:Int->BA->Int->LD->LD->(Int->BA->Int->LC->LC->Option β)->Option β) (aF:LD) (aG aI:Int) (aL:BA) (aM:Int) (aN:LD) (aQ:Int) (aU:BA) (aV:Int) (bE:LC) (K:Int->BA->Int->LC->LC->Option β) (L0:(Int×LC)->Option β) (v:Int×LC):Option β:=
 match v with
 |(aH,aW)=>bif(decide ((aH:Int)<aG)) then(atR aF aH [.n,.s,.n,.l,.l] λx26 x29 x32 x35 x38=>(r_impl_copyValue x26 x29 x32 x35 x38 (λy39 y40 y41 y42 y43=>Z0 (aW.length+([[.d (.int .i64 y39),.d (.str y40),.d (.int .i64 y41),.own y42,.own y43]]:LC).length<=Zx) (L0 (IntKind.wrap .i64 (aH+1),aW++([[.d (.int .i64 y39),.d (.str y40),.d (.int .i64 y41),.own y42,.own y43]]:LC)))))) else(K aI aL aM bE aW)
noncomputable def Yn.m {β:Type} (k:Nat) (r_impl_copyValue:Int->BA->Int->LD->LD->(Int->BA->Int->LC->LC->Option β)->Option β) (aB:Int) (aA:BA) (aC:Int) (aD aE:LD) (K:Int->BA->Int->LC->LC->Option β) (F:(LD->Int->Int->BA->Int->LD->Int->BA->Int->LC->(Int×LC)->Option β)):Option β:=
 bd1 (Yam.t k aD) (λy1=>F aE (aE.length:Int) aB aA aC aE 0 (⟨#[]⟩:BA) 0 y1 (0,([]:LC)))
noncomputable def Yn.body {β:Type} (k:Nat) (r_impl_copyValue:Int->BA->Int->LD->LD->(Int->BA->Int->LC->LC->Option β)->Option β) (aB:Int) (aA:BA) (aC:Int) (aD aE:LD) (K:Int->BA->Int->LC->LC->Option β):Option β:=
 bd1 (Yam.t k aD) (λy1=>Za1 (Yn.l0 k r_impl_copyValue aE (aE.length:Int) aB aA aC aE 0 (⟨#[]⟩:BA) 0 y1 K) k (0,([]:LC)))
noncomputable def Yn.w {β:Type} (r:Int->BA->Int->LD->LD->Option (Int×BA×Int×LC×LC)) (aB:Int) (aA:BA) (aC:Int) (aD aE:LD) (K:Int->BA->Int->LC->LC->Option β):Option β:=bd5 (r aB aA aC aD aE) K
noncomputable def Yn.all:Nat->(Int->BA->Int->LD->LD->Option (Int×BA×Int×LC×LC))
 |0=>(λ_ _ _ _ _=>none)
 |k+1=>(λr=>(λaB aA aC aD aE=>Yn.body k (Yn.w r) aB aA aC aD aE (λz0 z1 z2 z3 z4=>some (z0,z1,z2,z3,z4)))) (Yn.all k)
noncomputable def Yn.t (k:Nat) (aB:Int) (aA:BA) (aC:Int) (aD aE:LD):Option (Int×BA×Int×LC×LC):=(Yn.all k) aB aA aC aD aE
noncomputable def Yn.f {β:Type} (k:Nat) (aB:Int) (aA:BA) (aC:Int) (aD aE:LD) (K:Int->BA->Int->LC->LC->Option β):Option β:=Yn.w (Yn.t k) aB aA aC aD aE K
noncomputable def Yn.g {β:Type} (k:Nat) (aB:Int) (aA:BA) (aC:Int) (aD aE:LD) (K:Int->BA->Int->LC->LC->Option β):Option β:=Yn.body k (Yn.f k) aB aA aC aD aE K
theorem Yn.t_succ (k:Nat) (aB:Int) (aA:BA) (aC:Int) (aD aE:LD):Yn.t (k+1) aB aA aC aD aE=Yn.g k aB aA aC aD aE (λz0 z1 z2 z3 z4=>some (z0,z1,z2,z3,z4)):=rfl
noncomputable def Yn.e (k:Nat):Za0:=ent [.agg [.n,.s,.n,.l,.l]] [5] [.n,.s,.n,.o,.o] [64] false (Yn.t k)
noncomputable def Yn.p (k:Nat):Pro:=⟨Tryz.prog,[(119,Yam.e k),(82,Yn.e k)],hints [(4,kp [1,2,3,12,13,14])] false [],k⟩
theorem Yn.l0_eq (k:Nat) (aB:Int) (aA:BA) (aC:Int) (aD aE aF:LD) (aG aI:Int) (aL:BA) (aM:Int) (aN:LD) (aQ:Int) (aU:BA) (aV:Int) (bE:LC):LpEq ((Yn.p k).lf Tryz.f82 4 [1,1,1,0,1,0] [.agg [.int .i64 aB,.str aA,.int .i64 aC,.sl aD,.sl aE]] [5] [.n,.s,.n,.o,.o]) (Yn.l0 k (Yn.f k) aF aG aI aL aM aN aQ aU aV bE (λz0 z1 z2 z3 z4=>some (z0,z1,z2,z3,z4))) (λ(aH,aW)=>mkSt 27 [(1,.bp 0 0),(2,.bp 1 0),(3,.row 2),(12,.d false (.sl aF)),(13,.d true (.int .i64 aG)),(14,.d true (.int .i64 aH))] [.box none 64 [.d false (.int .i64 aI),.d false (.str aL),.d false (.int .i64 aM),.row 3,.d false (.sl aN)],.box none 64 [.d true (.int .i64 aQ),.d true (.str aU),.d true (.int .i64 aV),.nil,.nil],.row none true 62 aW,.row none true 25 bE]):=lf_eq λL0 v=>by obtain⟨aH,aW⟩:=v;kernel_rfl
theorem Yn.oks (k:Nat):Zas Tryz.prog 82 (Yn.e k):=by
 induction k with
 |zero=>exact ent_zero Tryz.func82 Kr (λ_ _ _ _ _=>rfl)
 |succ k ih=>exact ent_ok (Yn.p k) mix tyok Tryz.func82 ⟨Yam.ok k,ih⟩ Kr (λaB aA aC aD aE=>Eq.trans Kr ((congrArg (Yn.m k (Yn.f k) aB aA aC aD aE (λz0 z1 z2 z3 z4=>some (z0,z1,z2,z3,z4))) (funext λaF=>funext λaG=>funext λaI=>funext λaL=>funext λaM=>funext λaN=>funext λaQ=>funext λaU=>funext λaV=>funext λbE=>funext λv=>Yn.l0_eq k aB aA aC aD aE aF aG aI aL aM aN aQ aU aV bE k v)).trans (Yn.t_succ k aB aA aC aD aE).symm))
theorem Yn.ok (k:Nat):Zas Tryz.prog 82 (Yn.e k):=(Yn.oks k)
noncomputable def YF.l0 {β:Type} (k:Nat) (aF:LD) (aG:BA) (aH:Int) (K L0:Int->Option β) (v:Int):Option β:=
 match v with
 |aI=>bif(decide ((aI:Int)<aH)) then(atR aF aI [.s] λx8=>(bif(ZP aG x8) then(K aI) else(L0 (IntKind.wrap .i64 (aI+1))))) else(K (-1))
noncomputable def YF.m {β:Type} (k:Nat) (a0:LD) (a1:BA) (K:Int->Option β) (F:(LD->BA->Int->Int->Option β)):Option β:=
 F a0 a1 (a0.length:Int) (0)
noncomputable def YF.g {β:Type} (k:Nat) (a0:LD) (a1:BA) (K:Int->Option β):Option β:=
 Za1 (YF.l0 k a0 a1 (a0.length:Int) K) k (0)
noncomputable def YF.t (k:Nat) (a0:LD) (a1:BA):=YF.g k a0 a1 (λz0=>some z0)
noncomputable def YF.e (k:Nat):Za0:=ent [.d .l,.d .s] [1] [.n] [3] false (YF.t k)
noncomputable def YF.p (k:Nat):Pro:=⟨Tryz.prog,[],hints [(2,kp [0,1,7,8])] false [],k⟩
theorem YF.l0_eq (k:Nat) (a0:LD) (a1:BA) (aF:LD) (aG:BA) (aH:Int):LpEq ((YF.p k).lf Tryz.f108 2 [1,0,1,0] [.d (.sl a0),.d (.str a1)] [1] [.n]) (YF.l0 k aF aG aH (λz0=>some z0)) (λaI=>mkSt 19 [(0,.d false (.sl aF)),(1,.d false (.str aG)),(7,.d true (.int .i64 aH)),(8,.d true (.int .i64 aI))] []):=lf_eq λL0 v=>by kernel_rfl
theorem YF.ok (k:Nat):Zas Tryz.prog 108 (YF.e k):=ent_ok (YF.p k) mix tyok Tryz.func108 trivial Kr (λa0 a1=>Eq.trans Kr (congrArg (YF.m k a0 a1 (λz0=>some z0)) (funext λaF=>funext λaG=>funext λaH=>funext λv=>YF.l0_eq k a0 a1 aF aG aH k v) :))
noncomputable def YbK.g {β:Type} (k:Nat) (aB:Int) (aA:BA) (aC:Int) (aD aE:LD) (a1:BA) (K:Int->Option β):Option β:=
 bif((aB:Int)==5) then(bd1 (YF.t k aD a1) (λy9=>K y9)) else(bif((aB:Int)==4) then(bd2 (Ya8.t k a1) (λy10 y11=>bif y11 then(bif(decide ((y10:Int)<(aE.length:Int))) then(K y10) else(K (-1))) else(K (-1)))) else(K (-1)))
noncomputable def YbK.t (k:Nat) (aB:Int) (aA:BA) (aC:Int) (aD aE:LD) (a1:BA):=YbK.g k aB aA aC aD aE a1 (λz0=>some z0)
noncomputable def YbK.e (k:Nat):Za0:=ent [.agg [.n,.s,.n,.l,.l],.d .s] [1] [.n] [3] false (YbK.t k)
noncomputable def YbK.p (k:Nat):Pro:=⟨Tryz.prog,[(108,YF.e k),(189,Ya8.e k)],hints [] false [],k⟩
theorem YbK.ok (k:Nat):Zas Tryz.prog 180 (YbK.e k):=ent_ok (YbK.p k) mix tyok Tryz.func180 ⟨YF.ok k,Ya8.ok k⟩ Kr (λaB aA aC aD aE a1=>Ks)
noncomputable def Ya2.l0 {β:Type} (k:Nat) (aF:LD) (aG aU:Int) (aV:BA) (aW:Int) (K:Int->BA->Int->LC->LC->Bool->Option β) (L0:(Int×Int×BA×Int×LD×LD)->Option β) (v:Int×Int×BA×Int×LD×LD):Option β:=
 match v with
 |(aH,aI,aL,aM,aN,aQ)=>bif(decide ((aH:Int)<aG)) then(atR aF aH [.s] λx37=>(bd1 (YbK.t k aI aL aM aN aQ x37) (λy38=>bif(decide ((y38:Int)<0)) then(K 0 (⟨#[]⟩:BA) 0 ([]:LC) ([]:LC) false) else(atR aQ y38 [.n,.s,.n,.l,.l] λx42 x45 x48 x51 x54=>(L0 (IntKind.wrap .i64 (aH+1),x42,x45,x48,x51,x54)))))) else(Yn.f k aI aL aM aN aQ (λy55 y56 y57 y58 y59=>K y55 y56 y57 y58 y59 true))
noncomputable def Ya2.m {β:Type} (k:Nat) (aB:Int) (aA:BA) (aC:Int) (aD aE a1:LD) (K:Int->BA->Int->LC->LC->Bool->Option β) (F:(LD->Int->Int->BA->Int->(Int×Int×BA×Int×LD×LD)->Option β)):Option β:=
 bd1 (Y7.t k aB aA aC aD aE) (λy1=>bif(!y1) then(K 0 (⟨#[]⟩:BA) 0 ([]:LC) ([]:LC) false) else(F a1 (a1.length:Int) 0 (⟨#[]⟩:BA) 0 (0,aB,aA,aC,aD,aE)))
noncomputable def Ya2.g {β:Type} (k:Nat) (aB:Int) (aA:BA) (aC:Int) (aD aE a1:LD) (K:Int->BA->Int->LC->LC->Bool->Option β):Option β:=
 bd1 (Y7.t k aB aA aC aD aE) (λy1=>bif(!y1) then(K 0 (⟨#[]⟩:BA) 0 ([]:LC) ([]:LC) false) else(Za1 (Ya2.l0 k a1 (a1.length:Int) 0 (⟨#[]⟩:BA) 0 K) k (0,aB,aA,aC,aD,aE)))
noncomputable def Ya2.t (k:Nat) (aB:Int) (aA:BA) (aC:Int) (aD aE a1:LD):=Ya2.g k aB aA aC aD aE a1 (λz0 z1 z2 z3 z4 z5=>some (z0,z1,z2,z3,z4,z5))
noncomputable def Ya2.e (k:Nat):Za0:=ent [.agg [.n,.s,.n,.l,.l],.d .l] [5,1] [.n,.s,.n,.o,.o,.b] [64,4] false (Ya2.t k)
noncomputable def Ya2.p (k:Nat):Pro:=⟨Tryz.prog,[(79,Y7.e k),(180,YbK.e k),(82,Yn.e k)],hints [(4,kp [2,4,13,14,15])] false [],k⟩
theorem Ya2.l0_eq (k:Nat) (aB:Int) (aA:BA) (aC:Int) (aD aE a1 aF:LD) (aG aU:Int) (aV:BA) (aW:Int):LpEq ((Ya2.p k).lf Tryz.f155 4 [1,1,0,1,0] [.agg [.int .i64 aB,.str aA,.int .i64 aC,.sl aD,.sl aE],.d (.sl a1)] [5,1] [.n,.s,.n,.o,.o,.b]) (Ya2.l0 k aF aG aU aV aW (λz0 z1 z2 z3 z4 z5=>some (z0,z1,z2,z3,z4,z5))) (λ(aH,aI,aL,aM,aN,aQ)=>mkSt 33 [(2,.bp 0 0),(4,.bp 1 0),(13,.d false (.sl aF)),(14,.d true (.int .i64 aG)),(15,.d true (.int .i64 aH))] [.box none 64 [.d false (.int .i64 aI),.d false (.str aL),.d false (.int .i64 aM),.d false (.sl aN),.d false (.sl aQ)],.box none 64 [.d true (.int .i64 aU),.d true (.str aV),.d true (.int .i64 aW),.nil,.nil]]):=lf_eq λL0 v=>by obtain⟨aH,aI,aL,aM,aN,aQ⟩:=v;kernel_rfl
theorem Ya2.ok (k:Nat):Zas Tryz.prog 155 (Ya2.e k):=ent_ok (Ya2.p k) mix tyok Tryz.func155 ⟨Y7.ok k,YbK.ok k,Yn.ok k⟩ Kr (λaB aA aC aD aE a1=>Eq.trans Kr (congrArg (Ya2.m k aB aA aC aD aE a1 (λz0 z1 z2 z3 z4 z5=>some (z0,z1,z2,z3,z4,z5))) (funext λaF=>funext λaG=>funext λaU=>funext λaV=>funext λaW=>funext λv=>Ya2.l0_eq k aB aA aC aD aE a1 aF aG aU aV aW k v) :))
noncomputable def YaT.g {β:Type} (k:Nat) (a0:BA) (K:Bool->Option β):Option β:=
 K (!(ZP a0 a0))
noncomputable def YaT.t (k:Nat) (a0:BA):=YaT.g k a0 (λz0=>some z0)
noncomputable def YaT.e (k:Nat):Za0:=ent [.d .s] [1] [.b] [4] false (YaT.t k)
noncomputable def YaT.p (k:Nat):Pro:=⟨Tryz.prog,[],hints [] false [],k⟩
theorem YaT.ok (k:Nat):Zas Tryz.prog 202 (YaT.e k):=ent_ok (YaT.p k) mix tyok Tryz.func202 trivial Kr (λa0=>Ks)
noncomputable def Ya6.g {β:Type} (k:Nat) (a0 a1:BA) (K:Bool->Option β):Option β:=
 bd1 (YaT.t k a0) (λy1=>bif y1 then(bd1 (YaT.t k a1) (λy2=>bif(!y2) then(K true) else(K (Za3 a0 a1)))) else(K (Za3 a0 a1)))
noncomputable def Ya6.t (k:Nat) (a0 a1:BA):=Ya6.g k a0 a1 (λz0=>some z0)
noncomputable def Ya6.e (k:Nat):Za0:=ent [.d .s,.d .s] [1] [.b] [4] false (Ya6.t k)
noncomputable def Ya6.p (k:Nat):Pro:=⟨Tryz.prog,[(202,YaT.e k)],hints [] false [],k⟩
theorem Ya6.ok (k:Nat):Zas Tryz.prog 196 (Ya6.e k):=ent_ok (Ya6.p k) mix tyok Tryz.func196 (YaT.ok k) Kr (λa0 a1=>Ks)
noncomputable def Yal.g {β:Type} (k:Nat) (a0:BA) (K:Bool->Option β):Option β:=
 K (!(ZP a0 a0))
noncomputable def Yal.t (k:Nat) (a0:BA):=Yal.g k a0 (λz0=>some z0)
noncomputable def Yal.e (k:Nat):Za0:=ent [.d .s] [1] [.b] [4] false (Yal.t k)
noncomputable def Yal.p (k:Nat):Pro:=⟨Tryz.prog,[],hints [] false [],k⟩
theorem Yal.ok (k:Nat):Zas Tryz.prog 197 (Yal.e k):=ent_ok (Yal.p k) mix tyok Tryz.func197 trivial Kr (λa0=>Ks)
noncomputable def Yv.l0 {β:Type} (k:Nat) (aF:LD) (aG:BA) (aH:Int) (K:Int->Bool->Option β) (L0:(Int×Int)->Option β) (v:Int×Int):Option β:=
 match v with
 |(aI,aL)=>bif(decide ((aI:Int)<aL)) then(let J1:=(Int.fdiv (IntKind.wrap .u64 (IntKind.wrap .i64 (aI+aL))) (2^(min (1:Int).toNat 64)));let J0:=(IntKind.wrap .i64 J1);Z0 ((0:Int)<=1) (Zam aF J0 λc16=>rdQ [.s] c16 λx19=>(bd1 (Ya6.t k x19 aG) (λy20=>bif y20 then(L0 (IntKind.wrap .i64 (J0+1),aL)) else(L0 (aI,IntKind.wrap .i64 J1)))))) else(bif(decide ((aI:Int)<aH)) then(atR aF aI [.s] λx24=>(bif(ZP x24 aG) then(K aI true) else(atR aF aI [.s] λx28=>(bd1 (Yal.t k x28) (λy29=>bif y29 then(bd1 (Yal.t k aG) (λy30=>K aI y30)) else(K aI false)))))) else(K aI false))
noncomputable def Yv.m {β:Type} (k:Nat) (a0:LD) (a1:BA) (K:Int->Bool->Option β) (F:(LD->BA->Int->(Int×Int)->Option β)):Option β:=
 F a0 a1 (a0.length:Int) (0,(a0.length:Int))
noncomputable def Yv.g {β:Type} (k:Nat) (a0:LD) (a1:BA) (K:Int->Bool->Option β):Option β:=
 Za1 (Yv.l0 k a0 a1 (a0.length:Int) K) k (0,(a0.length:Int))
noncomputable def Yv.t (k:Nat) (a0:LD) (a1:BA):=Yv.g k a0 a1 (λz0 z1=>some (z0,z1))
noncomputable def Yv.e (k:Nat):Za0:=ent [.d .l,.d .s] [1,1] [.n,.b] [3,4] false (Yv.t k)
noncomputable def Yv.p (k:Nat):Pro:=⟨Tryz.prog,[(196,Ya6.e k),(197,Yal.e k)],hints [(3,kp [0,1,6,7,8])] false [],k⟩
theorem Yv.l0_eq (k:Nat) (a0:LD) (a1:BA) (aF:LD) (aG:BA) (aH:Int):LpEq ((Yv.p k).lf Tryz.f190 3 [1,1,1,0,0] [.d (.sl a0),.d (.str a1)] [1,1] [.n,.b]) (Yv.l0 k aF aG aH (λz0 z1=>some (z0,z1))) (λ(aI,aL)=>mkSt 54 [(0,.d false (.sl aF)),(1,.d false (.str aG)),(6,.d true (.int .i64 aH)),(7,.d true (.int .i64 aI)),(8,.d true (.int .i64 aL))] []):=lf_eq λL0 v=>by obtain⟨aI,aL⟩:=v;kernel_rfl
theorem Yv.ok (k:Nat):Zas Tryz.prog 190 (Yv.e k):=ent_ok (Yv.p k) mix tyok Tryz.func190 ⟨Ya6.ok k,Yal.ok k⟩ Kr (λa0 a1=>Eq.trans Kr (congrArg (Yv.m k a0 a1 (λz0 z1=>some (z0,z1))) (funext λaF=>funext λaG=>funext λaH=>funext λv=>Yv.l0_eq k a0 a1 aF aG aH k v) :))
noncomputable def YL.t (k:Nat) (xs:LC) (i:Int) (ys:LC):Option LC:=Z0 (0<=i/\i<=(xs.length:Int)/\xs.length+ys.length<=Zx) (some (xs.take i.toNat++ys++xs.drop i.toNat))
noncomputable def YL.f {β:Type} (k:Nat) (xs:LC) (i:Int) (ys:LC) (K:LC->Option β):Option β:=
 match YL.t k xs i ys with
 |some z0=>K z0
 |none=>none
noncomputable def YL.run (k:Nat):{β:Type}->List A->(LC->Option β)->Option β:=λ{β} l K=>
 match l with
 |[.own false [.own xs],.d (.int .i64 i),.own false [.own ys]]=>YL.f k xs i ys K
 |_=>none
noncomputable def YL.e (k:Nat):Za0:={ modes:=[(.own,0)],rts:=[25],al:=false,run:=λ_ _=>none,lib:=some ⟨[true,false,true],25,YL.run k⟩ }
theorem YL.raw0 (a:Option Addr) (n cap i:Nat) (a':Option Addr) (cap':Nat) (w:World) (hi:i<=n) (hn:n<=cap):Calls Tryz.prog 191 #[.slice a n cap,.int .i64 i,.slice a' 0 cap'] w λex w'=>ex=.returned (.slice a n cap)/\w'=w:=by
 go_enter Tryz.func191,Tryz.ntmps191
 go_wp2
 all_goals (go_ret;exact⟨rfl,rfl⟩)
theorem YL.rawA (a:Option Addr) (n cap m vb vcap:Nat) (w W':World) (R:Value) (hm:0<m) (hn:n<=cap) (hrun:∀ ty,(Builtin.append_ #[25,25] ty #[.slice a n cap,.slice (some ⟨vb,0,none⟩) m vcap]).run Tryz.prog w=.ok R W'):
  Calls Tryz.prog 191 #[.slice a n cap,.int .i64 n,.slice (some ⟨vb,0,none⟩) m vcap] w λex w'=>ex=.returned R/\w'=W':=by
 have mixed:Tryz.prog.follows .mixedOrders=true:=by kernel_rfl
 have hz1:¬ ((m:Int)=0):=by omega
 go_enter Tryz.func191,Tryz.ntmps191
 cases a with
 |none=>
  go_wp2_with (at_builtin;refine Lib.wpList_append_run _ rfl _ _ _ _ rfl _ _ rfl rfl _ _ (hrun _) ?_)
  all_goals (go_ret;exact⟨rfl,rfl⟩)
 |some a=>
  obtain⟨ab,ao,asp⟩:=a
  go_wp2_with (at_builtin;refine Lib.wpList_append_run _ rfl _ _ _ _ rfl _ _ rfl rfl _ _ (hrun _) ?_)
  all_goals (go_ret;exact⟨rfl,rfl⟩)
theorem YL.rawB (b n cap i vb m vcap:Nat) (cd vs:List Value) (w:World) (hi:i<n) (hm:0<m) (hroom:n+m<=cap) (hnm:n+m<=9223372036854775807)
  (hov:∀ lb cb,(callFunc 198 #[.slice (some ⟨vb,0,none⟩) m vcap,.slice (some ⟨b,(i+m),none⟩) lb cb]).run Tryz.prog w=.ok (.value (.bool false)) w)
  (hcp1:∀ ty dc sc,(Builtin.copy_ #[25,25] ty #[.slice (some ⟨b,(i+m),none⟩) (n+m-(i+m)) dc,.slice (some ⟨b,i,none⟩) (n+m-i) sc]).run Tryz.prog w.drew=.ok (goInt ((n-i:Nat):Int)) (w.drew.setCells b ((i+m)) cd))
  (hcp2:∀ ty dc,(Builtin.copy_ #[25,25] ty #[.slice (some ⟨b,i,none⟩) (n+m-i) dc,.slice (some ⟨vb,0,none⟩) m vcap]).run Tryz.prog (w.drew.setCells b ((i+m)) cd)=.ok (goInt m) ((w.drew.setCells b ((i+m)) cd).setCells b (i) vs)):
  Calls Tryz.prog 191 #[.slice (some ⟨b,0,none⟩) n cap,.int .i64 i,.slice (some ⟨vb,0,none⟩) m vcap] w λex w'=>ex=.returned (.slice (some ⟨b,0,none⟩) (n+m) cap)/\w'=(w.drew.setCells b ((i+m)) cd).setCells b (i) vs:=by
 have mixed:Tryz.prog.follows .mixedOrders=true:=by kernel_rfl
 have hz1:¬ ((m:Int)=0):=by omega
 have hz2:¬ ((i:Int)=(n:Int)):=by omega
 have hw1:IntKind.i64.wrap ((i:Int)+(m:Int))=(i:Int)+(m:Int):=by rw[IntKind.wrap_i64];omega
 have hb1:(0:Int)<=(i:Int)+(m:Int):=by omega
 have hin:i<=n:=by omega
 have htn:((i:Int)+(m:Int)).toNat=i+m:=by omega
 have hb2:¬ (cap=i+m):=by omega
 have hb3:(i:Int)<=(n:Int)+(m:Int):=by omega
 have hb4:¬ (cap=i):=by omega
 obtain⟨W1,hW1⟩:∃ W1,Hold (W1=w.drew.setCells b ((i+m)) cd):=⟨_,⟨rfl⟩⟩
 rw[<- hW1.out] at hcp1 hcp2⊢
 go_enter Tryz.func191,Tryz.ntmps191
 go_wp2_with (simp only[hov])
 go_region_law_o (refine step_copy_run rfl _ _ 25 25 rfl _ _ (by simp[Act.eval,Act.put]) (by simp[Act.eval,Act.put]) (hcp1 _ _ _) ?_)
 go_wp2_with (at_builtin;refine wpList_copy_run _ rfl _ _ 25 25 rfl _ _ rfl rfl (hcp2 _ _) ?_)
 go_ret
 exact⟨rfl,rfl⟩
theorem YL.rawC (b n cap i vb m vcap G N:Nat) (cd vs:List Value) (w W1:World) (hi:i<n) (hm:0<m) (hn:n<=cap) (hroom:cap<n+m) (hG:n+m<=G) (hG63:G<=9223372036854775807)
  (hrz:∀ ty,(Builtin.append_ #[25,3] ty #[.slice (some ⟨b,0,none⟩) i cap,.int .i64 ((n:Int)+(m:Int)-(i:Int))]).run Tryz.prog w=.ok (.slice (some ⟨N,0,none⟩) (n+m) G) W1)
  (hcpA:∀ ty dc,(Builtin.copy_ #[25,25] ty #[.slice (some ⟨N,i,none⟩) (n+m-i) dc,.slice (some ⟨vb,0,none⟩) m vcap]).run Tryz.prog W1=.ok (goInt m) (W1.setCells N (i) vs))
  (hcpB:∀ ty dc sc,(Builtin.copy_ #[25,25] ty #[.slice (some ⟨N,(i+m),none⟩) (n+m-(i+m)) dc,.slice (some ⟨b,i,none⟩) (n-i) sc]).run Tryz.prog (W1.setCells N (i) vs).drew=.ok (goInt ((n-i:Nat):Int)) ((W1.setCells N (i) vs).drew.setCells N ((i+m)) cd)):
  Calls Tryz.prog 191 #[.slice (some ⟨b,0,none⟩) n cap,.int .i64 i,.slice (some ⟨vb,0,none⟩) m vcap] w λex w'=>ex=.returned (.slice (some ⟨N,0,none⟩) (n+m) G)/\w'=(W1.setCells N (i) vs).drew.setCells N ((i+m)) cd:=by
 have mixed:Tryz.prog.follows .mixedOrders=true:=by kernel_rfl
 have hz1:¬ ((m:Int)=0):=by omega
 have hz2:¬ ((i:Int)=(n:Int)):=by omega
 have hz3:(cap:Int)<(n:Int)+(m:Int):=by omega
 have hGi:¬ (G=i):=by omega
 have hGim:¬ (G=i+m):=by omega
 have hci:¬ (cap=i):=by omega
 have hw1:IntKind.i64.wrap ((i:Int)+(m:Int))=(i:Int)+(m:Int):=by rw[IntKind.wrap_i64];omega
 have hb1:(0:Int)<=(i:Int)+(m:Int):=by omega
 have hin:i<=n:=by omega
 have htn:((i:Int)+(m:Int)).toNat=i+m:=by omega
 have hb3:(i:Int)<=(n:Int):=by omega
 obtain⟨W2,hW2⟩:∃ W2,Hold (W2=W1.setCells N (i) vs):=⟨_,⟨rfl⟩⟩
 rw[<- hW2.out] at hcpA hcpB⊢
 go_enter Tryz.func191,Tryz.ntmps191
 go_wp2_with (first
  |(at_builtin;refine Lib.wpList_append_run _ rfl _ _ _ _ rfl _ _ rfl rfl _ _ (hrz _) ?_)
  |(at_builtin;refine wpList_copy_run _ rfl _ _ 25 25 rfl _ _ rfl rfl (hcpA _ _) ?_))
 go_region_law_o (refine step_copy_run rfl _ _ 25 25 rfl (.slice (some ⟨N,(i+m),none⟩) (n+m-(i+m)) (G-(i+m))) (.slice (some ⟨b,i,none⟩) (n-i) (cap-i)) (by simp[Act.eval,Act.put]) (by simp[Act.eval,Act.put]) (hcpB _ _ _) ?_)
 go_wp2
 go_ret
 exact⟨rfl,rfl⟩
theorem YL.raw:InsRaw Tryz.prog 191 1:=by
 obtain⟨i0,z,hi,hz,hzs⟩:=Zc8 (P:=Tryz.prog) (t:=9) Kr
 have hsz:i0.size=1:=by
  have:Tryz.prog.cellsOf 9=1:=by kernel_rfl
  simpa[Program.cellsOf,hi] using this
 have hzc:z.cells.size=1:=by
  have h1:(ZaC Tryz.prog 9).length=1:=by kernel_rfl
  rw[<- h1]
  simpa using(Zb5 hzs).2.2.1.symm
 have hby:i0.bytes<=1000:=by
  have:(Tryz.prog.info? 9).map (·.bytes)=some 16:=by kernel_rfl
  rw[hi] at this
  simp only[Option.map_some,Option.some.injEq] at this
  rw[this]
  decide
 exact InsRoads.raw (o:=198) (S:=25) (E:=9) (T:=4) ⟨YL.raw0,YL.rawA,by simp only[Nat.mul_one];exact YL.rawB,by simp only[Nat.mul_one];exact YL.rawC⟩ Tryz.underlying25 Kr hi hz hsz De hzc hby (λx y w h=>by
  rw[run_callFunc_extern Tryz.func198 Kr Kr Kr (e:=Extern.SlicesOverlaps.overlaps #[25,25] #[4]) Kr,h]
  rfl)
theorem YL.ok (k:Nat):Zas Tryz.prog 191 (YL.e k):=insert_ok tyok (ct:=25) (K:=1) (run:=λ{β}=>YL.run k) Kr (enter_of Tryz.func191 Kr) YL.raw (λβ aa K r h=>by
 unfold YL.run at h
 split at h
 ·unfold YL.f YL.t at h
  split at h
  ·rename_i hz
   obtain⟨hg,hz⟩:=ZB hz
   injection hz with hz
   subst hz
   exact⟨_,_,_,rfl,hg,h⟩
  ·cases h
 ·cases h)
noncomputable def Ys.t (k:Nat) (xs:LC) (i:Int) (ys:LC):Option LC:=Z0 (0<=i/\i<=(xs.length:Int)/\xs.length+ys.length<=Zx) (some (xs.take i.toNat++ys++xs.drop i.toNat))
noncomputable def Ys.f {β:Type} (k:Nat) (xs:LC) (i:Int) (ys:LC) (K:LC->Option β):Option β:=
 match Ys.t k xs i ys with
 |some z0=>K z0
 |none=>none
noncomputable def Ys.run (k:Nat):{β:Type}->List A->(LC->Option β)->Option β:=λ{β} l K=>
 match l with
 |[.own false [.own xs],.d (.int .i64 i),.own false [.own ys]]=>Ys.f k xs i ys K
 |_=>none
noncomputable def Ys.e (k:Nat):Za0:={ modes:=[(.own,0)],rts:=[62],al:=false,run:=λ_ _=>none,lib:=some ⟨[true,false,true],62,Ys.run k⟩ }
theorem Ys.raw0 (a:Option Addr) (n cap i:Nat) (a':Option Addr) (cap':Nat) (w:World) (hi:i<=n) (hn:n<=cap):Calls Tryz.prog 192 #[.slice a n cap,.int .i64 i,.slice a' 0 cap'] w λex w'=>ex=.returned (.slice a n cap)/\w'=w:=by
 go_enter Tryz.func192,Tryz.ntmps192
 go_wp2
 all_goals (go_ret;exact⟨rfl,rfl⟩)
theorem Ys.rawA (a:Option Addr) (n cap m vb vcap:Nat) (w W':World) (R:Value) (hm:0<m) (hn:n<=cap) (hrun:∀ ty,(Builtin.append_ #[62,62] ty #[.slice a n cap,.slice (some ⟨vb,0,none⟩) m vcap]).run Tryz.prog w=.ok R W'):
  Calls Tryz.prog 192 #[.slice a n cap,.int .i64 n,.slice (some ⟨vb,0,none⟩) m vcap] w λex w'=>ex=.returned R/\w'=W':=by
 have mixed:Tryz.prog.follows .mixedOrders=true:=by kernel_rfl
 have hz1:¬ ((m:Int)=0):=by omega
 go_enter Tryz.func192,Tryz.ntmps192
 cases a with
 |none=>
  go_wp2_with (at_builtin;refine Lib.wpList_append_run _ rfl _ _ _ _ rfl _ _ rfl rfl _ _ (hrun _) ?_)
  all_goals (go_ret;exact⟨rfl,rfl⟩)
 |some a=>
  obtain⟨ab,ao,asp⟩:=a
  go_wp2_with (at_builtin;refine Lib.wpList_append_run _ rfl _ _ _ _ rfl _ _ rfl rfl _ _ (hrun _) ?_)
  all_goals (go_ret;exact⟨rfl,rfl⟩)
theorem Ys.rawB (b n cap i vb m vcap:Nat) (cd vs:List Value) (w:World) (hi:i<n) (hm:0<m) (hroom:n+m<=cap) (hnm:n+m<=9223372036854775807)
  (hov:∀ lb cb,(callFunc 200 #[.slice (some ⟨vb,0,none⟩) m vcap,.slice (some ⟨b,(i+m)*5,none⟩) lb cb]).run Tryz.prog w=.ok (.value (.bool false)) w)
  (hcp1:∀ ty dc sc,(Builtin.copy_ #[62,62] ty #[.slice (some ⟨b,(i+m)*5,none⟩) (n+m-(i+m)) dc,.slice (some ⟨b,i*5,none⟩) (n+m-i) sc]).run Tryz.prog w.drew=.ok (goInt ((n-i:Nat):Int)) (w.drew.setCells b ((i+m)*5) cd))
  (hcp2:∀ ty dc,(Builtin.copy_ #[62,62] ty #[.slice (some ⟨b,i*5,none⟩) (n+m-i) dc,.slice (some ⟨vb,0,none⟩) m vcap]).run Tryz.prog (w.drew.setCells b ((i+m)*5) cd)=.ok (goInt m) ((w.drew.setCells b ((i+m)*5) cd).setCells b (i*5) vs)):
  Calls Tryz.prog 192 #[.slice (some ⟨b,0,none⟩) n cap,.int .i64 i,.slice (some ⟨vb,0,none⟩) m vcap] w λex w'=>ex=.returned (.slice (some ⟨b,0,none⟩) (n+m) cap)/\w'=(w.drew.setCells b ((i+m)*5) cd).setCells b (i*5) vs:=by
 have mixed:Tryz.prog.follows .mixedOrders=true:=by kernel_rfl
 have hz1:¬ ((m:Int)=0):=by omega
 have hz2:¬ ((i:Int)=(n:Int)):=by omega
 have hw1:IntKind.i64.wrap ((i:Int)+(m:Int))=(i:Int)+(m:Int):=by rw[IntKind.wrap_i64];omega
 have hb1:(0:Int)<=(i:Int)+(m:Int):=by omega
 have hin:i<=n:=by omega
 have htn:((i:Int)+(m:Int)).toNat=i+m:=by omega
 have hb2:¬ (cap=i+m):=by omega
 have hb3:(i:Int)<=(n:Int)+(m:Int):=by omega
 have hb4:¬ (cap=i):=by omega
 obtain⟨W1,hW1⟩:∃ W1,Hold (W1=w.drew.setCells b ((i+m)*5) cd):=⟨_,⟨rfl⟩⟩
 rw[<- hW1.out] at hcp1 hcp2⊢
 go_enter Tryz.func192,Tryz.ntmps192
 go_wp2_with (simp only[hov])
 go_region_law_o (refine step_copy_run rfl _ _ 62 62 rfl _ _ (by simp[Act.eval,Act.put]) (by simp[Act.eval,Act.put]) (hcp1 _ _ _) ?_)
 go_wp2_with (at_builtin;refine wpList_copy_run _ rfl _ _ 62 62 rfl _ _ rfl rfl (hcp2 _ _) ?_)
 go_ret
 exact⟨rfl,rfl⟩
theorem Ys.rawC (b n cap i vb m vcap G N:Nat) (cd vs:List Value) (w W1:World) (hi:i<n) (hm:0<m) (hn:n<=cap) (hroom:cap<n+m) (hG:n+m<=G) (hG63:G<=9223372036854775807)
  (hrz:∀ ty,(Builtin.append_ #[62,3] ty #[.slice (some ⟨b,0,none⟩) i cap,.int .i64 ((n:Int)+(m:Int)-(i:Int))]).run Tryz.prog w=.ok (.slice (some ⟨N,0,none⟩) (n+m) G) W1)
  (hcpA:∀ ty dc,(Builtin.copy_ #[62,62] ty #[.slice (some ⟨N,i*5,none⟩) (n+m-i) dc,.slice (some ⟨vb,0,none⟩) m vcap]).run Tryz.prog W1=.ok (goInt m) (W1.setCells N (i*5) vs))
  (hcpB:∀ ty dc sc,(Builtin.copy_ #[62,62] ty #[.slice (some ⟨N,(i+m)*5,none⟩) (n+m-(i+m)) dc,.slice (some ⟨b,i*5,none⟩) (n-i) sc]).run Tryz.prog (W1.setCells N (i*5) vs).drew=.ok (goInt ((n-i:Nat):Int)) ((W1.setCells N (i*5) vs).drew.setCells N ((i+m)*5) cd)):
  Calls Tryz.prog 192 #[.slice (some ⟨b,0,none⟩) n cap,.int .i64 i,.slice (some ⟨vb,0,none⟩) m vcap] w λex w'=>ex=.returned (.slice (some ⟨N,0,none⟩) (n+m) G)/\w'=(W1.setCells N (i*5) vs).drew.setCells N ((i+m)*5) cd:=by
 have mixed:Tryz.prog.follows .mixedOrders=true:=by kernel_rfl
 have hz1:¬ ((m:Int)=0):=by omega
 have hz2:¬ ((i:Int)=(n:Int)):=by omega
 have hz3:(cap:Int)<(n:Int)+(m:Int):=by omega
 have hGi:¬ (G=i):=by omega
 have hGim:¬ (G=i+m):=by omega
 have hci:¬ (cap=i):=by omega
 have hw1:IntKind.i64.wrap ((i:Int)+(m:Int))=(i:Int)+(m:Int):=by rw[IntKind.wrap_i64];omega
 have hb1:(0:Int)<=(i:Int)+(m:Int):=by omega
 have hin:i<=n:=by omega
 have htn:((i:Int)+(m:Int)).toNat=i+m:=by omega
 have hb3:(i:Int)<=(n:Int):=by omega
 obtain⟨W2,hW2⟩:∃ W2,Hold (W2=W1.setCells N (i*5) vs):=⟨_,⟨rfl⟩⟩
 rw[<- hW2.out] at hcpA hcpB⊢
 go_enter Tryz.func192,Tryz.ntmps192
 go_wp2_with (first
  |(at_builtin;refine Lib.wpList_append_run _ rfl _ _ _ _ rfl _ _ rfl rfl _ _ (hrz _) ?_)
  |(at_builtin;refine wpList_copy_run _ rfl _ _ 62 62 rfl _ _ rfl rfl (hcpA _ _) ?_))
 go_region_law_o (refine step_copy_run rfl _ _ 62 62 rfl (.slice (some ⟨N,(i+m)*5,none⟩) (n+m-(i+m)) (G-(i+m))) (.slice (some ⟨b,i*5,none⟩) (n-i) (cap-i)) (by simp[Act.eval,Act.put]) (by simp[Act.eval,Act.put]) (hcpB _ _ _) ?_)
 go_wp2
 go_ret
 exact⟨rfl,rfl⟩
theorem Ys.raw:InsRaw Tryz.prog 192 5:=by
 obtain⟨i0,z,hi,hz,hzs⟩:=Zc8 (P:=Tryz.prog) (t:=64) Kr
 have hsz:i0.size=5:=by
  have:Tryz.prog.cellsOf 64=5:=by kernel_rfl
  simpa[Program.cellsOf,hi] using this
 have hzc:z.cells.size=5:=by
  have h1:(ZaC Tryz.prog 64).length=5:=by kernel_rfl
  rw[<- h1]
  simpa using(Zb5 hzs).2.2.1.symm
 have hby:i0.bytes<=1000:=by
  have:(Tryz.prog.info? 64).map (·.bytes)=some 80:=by kernel_rfl
  rw[hi] at this
  simp only[Option.map_some,Option.some.injEq] at this
  rw[this]
  decide
 exact InsRoads.raw (o:=200) (S:=62) (E:=64) (T:=4) ⟨Ys.raw0,Ys.rawA,Ys.rawB,Ys.rawC⟩ Tryz.underlying62 Kr hi hz hsz De hzc hby (λx y w h=>by
  rw[run_callFunc_extern Tryz.func200 Kr Kr Kr (e:=Extern.SlicesOverlaps.overlaps #[62,62] #[4]) Kr,h]
  rfl)
theorem Ys.ok (k:Nat):Zas Tryz.prog 192 (Ys.e k):=insert_ok tyok (ct:=62) (K:=5) (run:=λ{β}=>Ys.run k) Kr (enter_of Tryz.func192 Kr) Ys.raw (λβ aa K r h=>by
 unfold Ys.run at h
 split at h
 ·unfold Ys.f Ys.t at h
  split at h
  ·rename_i hz
   obtain⟨hg,hz⟩:=ZB hz
   injection hz with hz
   subst hz
   exact⟨_,_,_,rfl,hg,h⟩
  ·cases h
 ·cases h)
noncomputable def YbO.g {β:Type} (k:Nat) (aB:Int) (aA:BA) (aC:Int) (aD aE:LC) (a1:BA) (aZ:Int) (bD:BA) (bA:Int) (bB bC:LC) (K:Int->BA->Int->LC->LC->Bool->Option β):Option β:=
 bif((aB:Int)==5) then(bd2 (Yv.t k (C.immRows aD) a1) (λy31 y32=>bd1 (YI.t k a1) (λy33=>bif(!y33) then(K aB aA aC aD aE false) else(bif y32 then(Z0 ((0:Int)<=y31/\y31<(aE.length:Int)) (Z0 (Int.toNat y31<aE.length) (K aB aA aC aD (aE.modify (Int.toNat y31) λc=>ZE c 0 [.d (.int .i64 aZ),.d (.str bD),.d (.int .i64 bA),.own bB,.own bC]) true))) else(YL.f k aD y31 ([[.d (.str a1)]]:LC) (λy34=>Ys.f k aE y31 ([[.d (.int .i64 aZ),.d (.str bD),.d (.int .i64 bA),.own bB,.own bC]]:LC) (λy35=>K aB aA aC y34 y35 true))))))) else(bif((aB:Int)==4) then(bd2 (Ya8.t k a1) (λy36 y37=>bif(!y37) then(K aB aA aC aD aE false) else(bif(decide ((y36:Int)>(aE.length:Int))) then(K aB aA aC aD aE false) else(bif((y36:Int)==(aE.length:Int)) then(Z0 (aE.length+([[.d (.int .i64 aZ),.d (.str bD),.d (.int .i64 bA),.own bB,.own bC]]:LC).length<=Zx) (K aB aA aC aD (aE++([[.d (.int .i64 aZ),.d (.str bD),.d (.int .i64 bA),.own bB,.own bC]]:LC)) true)) else(Z0 ((0:Int)<=y36/\y36<(aE.length:Int)) (Z0 (Int.toNat y36<aE.length) (K aB aA aC aD (aE.modify (Int.toNat y36) λc=>ZE c 0 [.d (.int .i64 aZ),.d (.str bD),.d (.int .i64 bA),.own bB,.own bC]) true))))))) else(K aB aA aC aD aE false))
noncomputable def YbO.t (k:Nat) (aB:Int) (aA:BA) (aC:Int) (aD aE:LC) (a1:BA) (aZ:Int) (bD:BA) (bA:Int) (bB bC:LC):=YbO.g k aB aA aC aD aE a1 aZ bD bA bB bC (λz0 z1 z2 z3 z4 z5=>some (z0,z1,z2,z3,z4,z5))
noncomputable def YbO.e (k:Nat):Za0:=ent [.own true 64 [.n,.s,.n,.o,.o],.d .s,.own true 64 [.n,.s,.n,.o,.o]] [5,1] [.n,.s,.n,.o,.o,.b] [64,4] false (YbO.t k) true true
noncomputable def YbO.p (k:Nat):Pro:=⟨Tryz.prog,[(190,Yv.e k),(65,YI.e k),(191,YL.e k),(192,Ys.e k),(189,Ya8.e k)],hints [] false [] true true,k⟩
theorem YbO.ok (k:Nat):Zas Tryz.prog 183 (YbO.e k):=ent_ok (YbO.p k) mix tyok Tryz.func183 ⟨Yv.ok k,YI.ok k,YL.ok k,Ys.ok k,Ya8.ok k⟩ Kr (λaB aA aC aD aE a1 aZ bD bA bB bC=>Ks)
noncomputable def YT.t (k:Nat) (xs:LC) (i j:Int):Option LC:=Z0 (0<=i/\i<=j/\j<=(xs.length:Int)) (some (xs.take i.toNat++xs.drop j.toNat))
noncomputable def YT.f {β:Type} (k:Nat) (xs:LC) (i j:Int) (K:LC->Option β):Option β:=
 match YT.t k xs i j with
 |some z0=>K z0
 |none=>none
noncomputable def YT.run (k:Nat):{β:Type}->List A->(LC->Option β)->Option β:=λ{β} l K=>
 match l with
 |[.own false [.own xs],.d (.int .i64 i),.d (.int .i64 j)]=>YT.f k xs i j K
 |_=>none
noncomputable def YT.e (k:Nat):Za0:={ modes:=[(.own,0)],rts:=[25],al:=false,run:=λ_ _=>none,lib:=some ⟨[true,false,false],25,YT.run k⟩ }
theorem YT.raw0 (a:Option Addr) (n cap i:Nat) (w:World) (hi:i<=n) (hn:n<=cap):Calls Tryz.prog 193 #[.slice a n cap,.int .i64 i,.int .i64 i] w λex w'=>ex=.returned (.slice a n cap)/\w'=w:=by
 go_enter Tryz.func193,Tryz.ntmps193
 go_wp2
 all_goals (go_ret;exact⟨rfl,rfl⟩)
theorem YT.raw2 (b cap n i j:Nat) (c:Array Value) (e:TypeId) (w:World) (hb:w.heap[b]? = some (.cells c e (0,0))) (hc:c.size=cap*1) (hn:n<=cap) (hij:i<j) (hj:j<=n) (h1:∀ t,t<n*1->∃ v,c[t]? = some v/\v.oneCell'=true) (i0:TypeInfo) (z:Value) (hi:Tryz.prog.info? 9=some i0) (hz:i0.zero=some z) (hs:i0.size=1) (hzs:z.cells.size=1) (hz1:∀ v∈z.cells.toList,v.oneCell'=true):
  Calls Tryz.prog 193 #[.slice (some ⟨b,0,none⟩) n cap,.int .i64 i,.int .i64 j] w λex w'=>ex=.returned (.slice (some ⟨b,0,none⟩) (n-(j-i)) cap)/\Only b w w'/\∃ c',w'.heap[b]? = some (.cells c' e (0,0))/\c'.size=c.size/\(∀ t,t<i*1->c'[t]? = c[t]?)/\∀ t,t<(n-j)*1->c'[i*1+t]? = c[j*1+t]?:=by
 have mixed:Tryz.prog.follows .mixedOrders=true:=by kernel_rfl
 have hb0:w.drew.heap[b]? = some (.cells c e (0,0)):=hb
 obtain⟨A,news,hA,hlen,hsrc,hone,hget⟩:=tail_src hb0 hc hn hj h1
 obtain⟨hb1,ho1⟩:=Zbs news (i*1) hb0
 obtain⟨W1,hW1⟩:∃ W1,W1=w.drew.setCells b (0+i*1) news:=⟨_,rfl⟩
 rw[Nat.zero_add] at hW1
 rw[<- hW1] at hb1 ho1
 have hle:i*1+news.length<=c.size:=by rw[hlen,hc];omega
 have hcl:∀ ty,(Builtin.clear_ #[25] ty #[.slice (some ⟨b,(i+(n-j))*1,none⟩) (n-(i+(n-j))) (cap-(i+(n-j)))]).run Tryz.prog W1=.ok (.tuple #[]) (W1.setCells b ((i+(n-j))*1) (Builtin.zeroCells z.cells (n-(i+(n-j)))).toList):=
  λty=>run_clear_cells Tryz.underlying25 hi hz hz1 Om (λt ht=>by rw[ZbP hb1];rw[hzs] at ht;rw[Array.getElem?_eq_getElem (by rw[Zbu,hc];omega)];rfl) (λt ht=>Zb1 hb1 _)
 have hW:Hold (W1=w.drew.setCells b (i*1) news):=⟨hW1⟩
 obtain⟨hb2,ho2⟩:=Zbs (Builtin.zeroCells z.cells (n-(i+(n-j)))).toList ((i+(n-j))*1) hb1
 have hfin:Hold (Only b w (W1.setCells b ((i+(n-j))*1) (Builtin.zeroCells z.cells (n-(i+(n-j)))).toList)/\∃ c',(W1.setCells b ((i+(n-j))*1) (Builtin.zeroCells z.cells (n-(i+(n-j)))).toList).heap[b]? = some (.cells c' e (0,0))/\c'.size=c.size/\(∀ t,t<i*1->c'[t]? = c[t]?)/\∀ t,t<(n-j)*1->c'[i*1+t]? = c[j*1+t]?):=by
  have hzl:(Builtin.zeroCells z.cells (n-(i+(n-j)))).toList.length=(n-(i+(n-j)))*1:=by simp[Za2,hzs]
  refine⟨((Only.drew b w).trans ho1).trans ho2,_,hb2,by rw[Zbu,Zbu],λt ht=>?_,λt ht=>?_⟩
  ·rw[Zbd _ _ _ _ (by rw[hzl,Zbu,hc];omega),if_neg Om,Zbd _ _ _ _ hle,if_neg Om]
  ·rw[Zbd _ _ _ _ (by rw[hzl,Zbu,hc];omega),if_neg Om,Zbd _ _ _ _ hle,if_pos Om,Nat.add_sub_cancel_left,hget t ht]
 have hsp:∀ t,t<news.length->(w.drew.cell? ⟨b,0+i*1+t,none⟩).isSome=true/\w.drew.frozen? ⟨b,0+i*1+t,none⟩=false:=λt ht=>⟨by rw[ZbP hb0,Array.getElem?_eq_getElem Om];rfl,Zb1 hb0 _⟩
 generalize(Builtin.zeroCells z.cells (n-(i+(n-j)))).toList=zl at hcl hfin
 clear hb hb0 ho1 hb1 hb2 ho2 hget hW1 h1 hle hc hz1 hzs hz
 simp only[Nat.mul_one] at hcl hW hA hlen hsp hfin⊢
 simp only[Nat.zero_add] at hsp
 have hic:i<=cap:=by omega
 have hjc:j<=cap:=by omega
 go_enter Tryz.func193,Tryz.ntmps193
 go_wp2_with fail
 go_region_law_o (refine step_append_room rfl (.tmp 22) (.tmp 25) 25 rfl 9 i0 1 Tryz.underlying25 hi hs b 0 i cap (by simp[Act.eval,Act.put]) A (n-j) (cap-j) news (by simp[Act.eval,Act.put]) (by rw[hlen,Nat.mul_one]) hsrc hone Om (by simpa only[Nat.mul_one,Nat.zero_add] using hsp) ?_;simp only[Nat.zero_add,Nat.mul_one];rw[<- hW.out])
 go_wp2
 go_ret
 refine⟨?_,hfin.out⟩
 rw[show i+(n-j)=n-(j-i) from by omega]
 rfl
theorem YT.raw:DelRaw Tryz.prog 193 1:=⟨λa n cap i w h1 h2=>YT.raw0 a n cap i w h1 h2,λb cap n i j c e w hb hc hn hij hj h1=>by
 obtain⟨i0,z,hi,hz,hzs⟩:=Zc8 (P:=Tryz.prog) (t:=9) Kr
 have hsz:i0.size=1:=by
  have:Tryz.prog.cellsOf 9=1:=by kernel_rfl
  simpa[Program.cellsOf,hi] using this
 have hzc:z.cells.size=1:=by
  have h1:(ZaC Tryz.prog 9).length=1:=by kernel_rfl
  rw[<- h1]
  simpa using(Zb5 hzs).2.2.1.symm
 exact YT.raw2 b cap n i j c e w hb hc hn hij hj h1 i0 z hi hz hsz hzc (Zb5 hzs).2.1⟩
theorem YT.ok (k:Nat):Zas Tryz.prog 193 (YT.e k):=delete_ok tyok (ct:=25) (K:=1) (run:=λ{β}=>YT.run k) Kr (enter_of Tryz.func193 Kr) YT.raw (λβ aa K r h=>by
 unfold YT.run at h
 split at h
 ·unfold YT.f YT.t at h
  split at h
  ·rename_i hz
   obtain⟨hg,hz⟩:=ZB hz
   injection hz with hz
   subst hz
   exact⟨_,_,_,rfl,hg,h⟩
  ·cases h
 ·cases h)
noncomputable def Yw.t (k:Nat) (xs:LC) (i j:Int):Option LC:=Z0 (0<=i/\i<=j/\j<=(xs.length:Int)) (some (xs.take i.toNat++xs.drop j.toNat))
noncomputable def Yw.f {β:Type} (k:Nat) (xs:LC) (i j:Int) (K:LC->Option β):Option β:=
 match Yw.t k xs i j with
 |some z0=>K z0
 |none=>none
noncomputable def Yw.run (k:Nat):{β:Type}->List A->(LC->Option β)->Option β:=λ{β} l K=>
 match l with
 |[.own false [.own xs],.d (.int .i64 i),.d (.int .i64 j)]=>Yw.f k xs i j K
 |_=>none
noncomputable def Yw.e (k:Nat):Za0:={ modes:=[(.own,0)],rts:=[62],al:=false,run:=λ_ _=>none,lib:=some ⟨[true,false,false],62,Yw.run k⟩ }
theorem Yw.raw0 (a:Option Addr) (n cap i:Nat) (w:World) (hi:i<=n) (hn:n<=cap):Calls Tryz.prog 194 #[.slice a n cap,.int .i64 i,.int .i64 i] w λex w'=>ex=.returned (.slice a n cap)/\w'=w:=by
 go_enter Tryz.func194,Tryz.ntmps194
 go_wp2
 all_goals (go_ret;exact⟨rfl,rfl⟩)
theorem Yw.raw2 (b cap n i j:Nat) (c:Array Value) (e:TypeId) (w:World) (hb:w.heap[b]? = some (.cells c e (0,0))) (hc:c.size=cap*5) (hn:n<=cap) (hij:i<j) (hj:j<=n) (h1:∀ t,t<n*5->∃ v,c[t]? = some v/\v.oneCell'=true) (i0:TypeInfo) (z:Value) (hi:Tryz.prog.info? 64=some i0) (hz:i0.zero=some z) (hs:i0.size=5) (hzs:z.cells.size=5) (hz1:∀ v∈z.cells.toList,v.oneCell'=true):
  Calls Tryz.prog 194 #[.slice (some ⟨b,0,none⟩) n cap,.int .i64 i,.int .i64 j] w λex w'=>ex=.returned (.slice (some ⟨b,0,none⟩) (n-(j-i)) cap)/\Only b w w'/\∃ c',w'.heap[b]? = some (.cells c' e (0,0))/\c'.size=c.size/\(∀ t,t<i*5->c'[t]? = c[t]?)/\∀ t,t<(n-j)*5->c'[i*5+t]? = c[j*5+t]?:=by
 have mixed:Tryz.prog.follows .mixedOrders=true:=by kernel_rfl
 have hb0:w.drew.heap[b]? = some (.cells c e (0,0)):=hb
 obtain⟨A,news,hA,hlen,hsrc,hone,hget⟩:=tail_src hb0 hc hn hj h1
 obtain⟨hb1,ho1⟩:=Zbs news (i*5) hb0
 obtain⟨W1,hW1⟩:∃ W1,W1=w.drew.setCells b (0+i*5) news:=⟨_,rfl⟩
 rw[Nat.zero_add] at hW1
 rw[<- hW1] at hb1 ho1
 have hle:i*5+news.length<=c.size:=by rw[hlen,hc];omega
 have hcl:∀ ty,(Builtin.clear_ #[62] ty #[.slice (some ⟨b,(i+(n-j))*5,none⟩) (n-(i+(n-j))) (cap-(i+(n-j)))]).run Tryz.prog W1=.ok (.tuple #[]) (W1.setCells b ((i+(n-j))*5) (Builtin.zeroCells z.cells (n-(i+(n-j)))).toList):=
  λty=>run_clear_cells Tryz.underlying62 hi hz hz1 Om (λt ht=>by rw[ZbP hb1];rw[hzs] at ht;rw[Array.getElem?_eq_getElem (by rw[Zbu,hc];omega)];rfl) (λt ht=>Zb1 hb1 _)
 have hW:Hold (W1=w.drew.setCells b (i*5) news):=⟨hW1⟩
 obtain⟨hb2,ho2⟩:=Zbs (Builtin.zeroCells z.cells (n-(i+(n-j)))).toList ((i+(n-j))*5) hb1
 have hfin:Hold (Only b w (W1.setCells b ((i+(n-j))*5) (Builtin.zeroCells z.cells (n-(i+(n-j)))).toList)/\∃ c',(W1.setCells b ((i+(n-j))*5) (Builtin.zeroCells z.cells (n-(i+(n-j)))).toList).heap[b]? = some (.cells c' e (0,0))/\c'.size=c.size/\(∀ t,t<i*5->c'[t]? = c[t]?)/\∀ t,t<(n-j)*5->c'[i*5+t]? = c[j*5+t]?):=by
  have hzl:(Builtin.zeroCells z.cells (n-(i+(n-j)))).toList.length=(n-(i+(n-j)))*5:=by simp[Za2,hzs]
  refine⟨((Only.drew b w).trans ho1).trans ho2,_,hb2,by rw[Zbu,Zbu],λt ht=>?_,λt ht=>?_⟩
  ·rw[Zbd _ _ _ _ (by rw[hzl,Zbu,hc];omega),if_neg Om,Zbd _ _ _ _ hle,if_neg Om]
  ·rw[Zbd _ _ _ _ (by rw[hzl,Zbu,hc];omega),if_neg Om,Zbd _ _ _ _ hle,if_pos Om,Nat.add_sub_cancel_left,hget t ht]
 have hsp:∀ t,t<news.length->(w.drew.cell? ⟨b,0+i*5+t,none⟩).isSome=true/\w.drew.frozen? ⟨b,0+i*5+t,none⟩=false:=λt ht=>⟨by rw[ZbP hb0,Array.getElem?_eq_getElem Om];rfl,Zb1 hb0 _⟩
 generalize(Builtin.zeroCells z.cells (n-(i+(n-j)))).toList=zl at hcl hfin
 clear hb hb0 ho1 hb1 hb2 ho2 hget hW1 h1 hle hc hz1 hzs hz
 have hic:i<=cap:=by omega
 have hjc:j<=cap:=by omega
 go_enter Tryz.func194,Tryz.ntmps194
 go_wp2_with fail
 go_region_law_o (refine step_append_room rfl (.tmp 22) (.tmp 25) 62 rfl 64 i0 5 Tryz.underlying62 hi hs b 0 i cap (by simp[Act.eval,Act.put]) A (n-j) (cap-j) news (by simp[Act.eval,Act.put]) hlen hsrc hone Om hsp ?_;rw[Nat.zero_add,<- hW.out])
 go_wp2
 go_ret
 refine⟨?_,hfin.out⟩
 rw[show i+(n-j)=n-(j-i) from by omega]
 rfl
theorem Yw.raw:DelRaw Tryz.prog 194 5:=⟨λa n cap i w h1 h2=>Yw.raw0 a n cap i w h1 h2,λb cap n i j c e w hb hc hn hij hj h1=>by
 obtain⟨i0,z,hi,hz,hzs⟩:=Zc8 (P:=Tryz.prog) (t:=64) Kr
 have hsz:i0.size=5:=by
  have:Tryz.prog.cellsOf 64=5:=by kernel_rfl
  simpa[Program.cellsOf,hi] using this
 have hzc:z.cells.size=5:=by
  have h1:(ZaC Tryz.prog 64).length=5:=by kernel_rfl
  rw[<- h1]
  simpa using(Zb5 hzs).2.2.1.symm
 exact Yw.raw2 b cap n i j c e w hb hc hn hij hj h1 i0 z hi hz hsz hzc (Zb5 hzs).2.1⟩
theorem Yw.ok (k:Nat):Zas Tryz.prog 194 (Yw.e k):=delete_ok tyok (ct:=62) (K:=5) (run:=λ{β}=>Yw.run k) Kr (enter_of Tryz.func194 Kr) Yw.raw (λβ aa K r h=>by
 unfold Yw.run at h
 split at h
 ·unfold Yw.f Yw.t at h
  split at h
  ·rename_i hz
   obtain⟨hg,hz⟩:=ZB hz
   injection hz with hz
   subst hz
   exact⟨_,_,_,rfl,hg,h⟩
  ·cases h
 ·cases h)
noncomputable def YbC.g {β:Type} (k:Nat) (aB:Int) (aA:BA) (aC:Int) (aD aE:LC) (a1:BA) (K:Int->BA->Int->LC->LC->Bool->Option β):Option β:=
 bd1 (YbK.t k aB aA aC (C.immRows aD) (C.immRows aE) a1) (λy1=>bif(decide ((y1:Int)<0)) then(K aB aA aC aD aE false) else(bif((aB:Int)==5) then(YT.f k aD y1 (IntKind.wrap .i64 (y1+1)) (λy2=>Yw.f k aE y1 (IntKind.wrap .i64 (y1+1)) (λy3=>K aB aA aC y2 y3 true))) else(Yw.f k aE y1 (IntKind.wrap .i64 (y1+1)) (λy4=>K aB aA aC aD y4 true))))
noncomputable def YbC.t (k:Nat) (aB:Int) (aA:BA) (aC:Int) (aD aE:LC) (a1:BA):=YbC.g k aB aA aC aD aE a1 (λz0 z1 z2 z3 z4 z5=>some (z0,z1,z2,z3,z4,z5))
noncomputable def YbC.e (k:Nat):Za0:=ent [.own true 64 [.n,.s,.n,.o,.o],.d .s] [5,1] [.n,.s,.n,.o,.o,.b] [64,4] false (YbC.t k) true true
noncomputable def YbC.p (k:Nat):Pro:=⟨Tryz.prog,[(180,YbK.e k),(193,YT.e k),(194,Yw.e k)],hints [] false [] true true,k⟩
theorem YbC.ok (k:Nat):Zas Tryz.prog 184 (YbC.e k):=ent_ok (YbC.p k) mix tyok Tryz.func184 ⟨YbK.ok k,YT.ok k,Yw.ok k⟩ Kr (λaB aA aC aD aE a1=>Ks)
noncomputable def YW.body {β:Type} (k:Nat) (r_impl_changed:Int->BA->Int->LC->LC->LD->Int->LD->Int->BA->Int->LD->LD->(Int->BA->Int->LC->LC->Bool->Option β)->Option β) (aB:Int) (aA:BA) (aC:Int) (aD aE:LC) (a1:LD) (aZ:Int) (bD:LD) (bA:Int) (bB:BA) (bC:Int) (a2_5 a2_6:LD) (K:Int->BA->Int->LC->LC->Bool->Option β):Option β:=
 bif(((a1.length:Int):Int)==1) then(bif((aZ:Int)==1) then(atR a1 0 [.s] λx4=>(Yn.f k bA bB bC a2_5 a2_6 (λy5 y6 y7 y8 y9=>bd6 (YbO.t k aB aA aC aD aE x4 y5 y6 y7 y8 y9) (λy38 y39 y40 y41 y42 y43=>K y38 y39 y40 y41 y42 y43)))) else(atR a1 0 [.s] λx47=>(bd6 (YbC.t k aB aA aC aD aE x47) (λy48 y49 y50 y51 y52 y53=>K y48 y49 y50 y51 y52 y53)))) else(atR a1 0 [.s] λx57=>(bd1 (YbK.t k aB aA aC (C.immRows aD) (C.immRows aE) x57) (λy58=>bif(decide ((y58:Int)<0)) then(K aB aA aC aD aE false) else(Z0 ((0:Int)<=y58/\y58<(aE.length:Int)) (atC aE (Int.toNat y58) [.n,.s,.n,.o,.o] λx59 x60 x61 x62 x63=>Z0 (0<=(1:Int)/\(1:Int)<=(a1.length:Int)/\(a1.length:Int)<=(a1.length:Int)/\rowsOk 1 a1) (r_impl_changed x59 x60 x61 x62 x63 ((a1.drop (Int.toNat (1:Int))).take (Int.toNat (a1.length:Int)-Int.toNat (1:Int))) aZ bD bA bB bC a2_5 a2_6 (λy64 y65 y66 y67 y68 y69=>Z0 ((0:Int)<=y58/\y58<((aE.modify (Int.toNat y58) λc=>c.map C.gone).length:Int)) (Z0 (Int.toNat y58<(aE.modify (Int.toNat y58) λc=>c.map C.gone).length) (K aB aA aC aD ((aE.modify (Int.toNat y58) λc=>c.map C.gone).modify (Int.toNat y58) λc=>ZE c 0 [.d (.int .i64 y64),.d (.str y65),.d (.int .i64 y66),.own y67,.own y68]) y69)))))))))
noncomputable def YW.w {β:Type} (r:Int->BA->Int->LC->LC->LD->Int->LD->Int->BA->Int->LD->LD->Option (Int×BA×Int×LC×LC×Bool)) (aB:Int) (aA:BA) (aC:Int) (aD aE:LC) (a1:LD) (aZ:Int) (bD:LD) (bA:Int) (bB:BA) (bC:Int) (a2_5 a2_6:LD) (K:Int->BA->Int->LC->LC->Bool->Option β):Option β:=match r aB aA aC aD aE a1 aZ bD bA bB bC a2_5 a2_6 with|some (z0,z1,z2,z3,z4,z5)=>K z0 z1 z2 z3 z4 z5|none=>none
noncomputable def YW.all:Nat->(Int->BA->Int->LC->LC->LD->Int->LD->Int->BA->Int->LD->LD->Option (Int×BA×Int×LC×LC×Bool))
 |0=>(λ_ _ _ _ _ _ _ _ _ _ _ _ _=>none)
 |k+1=>(λr=>(λaB aA aC aD aE a1 aZ bD bA bB bC a2_5 a2_6=>YW.body k (YW.w r) aB aA aC aD aE a1 aZ bD bA bB bC a2_5 a2_6 (λz0 z1 z2 z3 z4 z5=>some (z0,z1,z2,z3,z4,z5)))) (YW.all k)
noncomputable def YW.t (k:Nat) (aB:Int) (aA:BA) (aC:Int) (aD aE:LC) (a1:LD) (aZ:Int) (bD:LD) (bA:Int) (bB:BA) (bC:Int) (a2_5 a2_6:LD):Option (Int×BA×Int×LC×LC×Bool):=(YW.all k) aB aA aC aD aE a1 aZ bD bA bB bC a2_5 a2_6
noncomputable def YW.f {β:Type} (k:Nat) (aB:Int) (aA:BA) (aC:Int) (aD aE:LC) (a1:LD) (aZ:Int) (bD:LD) (bA:Int) (bB:BA) (bC:Int) (a2_5 a2_6:LD) (K:Int->BA->Int->LC->LC->Bool->Option β):Option β:=YW.w (YW.t k) aB aA aC aD aE a1 aZ bD bA bB bC a2_5 a2_6 K
noncomputable def YW.g {β:Type} (k:Nat) (aB:Int) (aA:BA) (aC:Int) (aD aE:LC) (a1:LD) (aZ:Int) (bD:LD) (bA:Int) (bB:BA) (bC:Int) (a2_5 a2_6:LD) (K:Int->BA->Int->LC->LC->Bool->Option β):Option β:=YW.body k (YW.f k) aB aA aC aD aE a1 aZ bD bA bB bC a2_5 a2_6 K
theorem YW.t_succ (k:Nat) (aB:Int) (aA:BA) (aC:Int) (aD aE:LC) (a1:LD) (aZ:Int) (bD:LD) (bA:Int) (bB:BA) (bC:Int) (a2_5 a2_6:LD):YW.t (k+1) aB aA aC aD aE a1 aZ bD bA bB bC a2_5 a2_6=YW.g k aB aA aC aD aE a1 aZ bD bA bB bC a2_5 a2_6 (λz0 z1 z2 z3 z4 z5=>some (z0,z1,z2,z3,z4,z5)):=rfl
noncomputable def YW.e (k:Nat):Za0:=ent [.own true 64 [.n,.s,.n,.o,.o],.d .l,.agg [.n,.l,.n,.s,.n,.l,.l]] [5,1] [.n,.s,.n,.o,.o,.b] [64,4] false (YW.t k) true true
noncomputable def YW.p (k:Nat):Pro:=⟨Tryz.prog,[(82,Yn.e k),(183,YbO.e k),(184,YbC.e k),(180,YbK.e k),(157,YW.e k)],hints [] false [] true true,k⟩
theorem YW.oks (k:Nat):Zas Tryz.prog 157 (YW.e k):=by
 induction k with
 |zero=>exact ent_zero Tryz.func157 Kr (λ_ _ _ _ _ _ _ _ _ _ _ _ _=>rfl)
 |succ k ih=>exact ent_ok (YW.p k) mix tyok Tryz.func157 ⟨Yn.ok k,YbO.ok k,YbC.ok k,YbK.ok k,ih⟩ Kr (λaB aA aC aD aE a1 aZ bD bA bB bC a2_5 a2_6=>Ks)
theorem YW.ok (k:Nat):Zas Tryz.prog 157 (YW.e k):=(YW.oks k)
noncomputable def Yb6.g {β:Type} (k:Nat) (aB:Int) (aA:BA) (aC:Int) (aD aE:LC) (aP:Int) (aO:LD) (aR:Int) (aS:BA) (aT:Int) (aX aY:LD) (K:Int->BA->Int->LC->LC->Bool->Option β):Option β:=
 bif((aP:Int)==3) then(bd6 (Ya2.t k aB aA aC (C.immRows aD) (C.immRows aE) aO) (λy60 y61 y62 y63 y64 y65=>bif y65 then(Yz.f k y60 y61 y62 (C.immRows y63) (C.immRows y64) aR aS aT aX aY (λy66=>K aB aA aC aD aE y66)) else(K aB aA aC aD aE false))) else(Yn.f k aB aA aC (C.immRows aD) (C.immRows aE) (λy67 y68 y69 y70 y71=>YW.f k y67 y68 y69 y70 y71 aO aP aO aR aS aT aX aY (λy72 y73 y74 y75 y76 y77=>bif y77 then(bd1 (Y7.t k y72 y73 y74 (C.immRows y75) (C.immRows y76)) (λy78=>K y72 y73 y74 y75 y76 y78)) else(K y72 y73 y74 y75 y76 false))))
noncomputable def Yb6.t (k:Nat) (aB:Int) (aA:BA) (aC:Int) (aD aE:LC) (aP:Int) (aO:LD) (aR:Int) (aS:BA) (aT:Int) (aX aY:LD):=Yb6.g k aB aA aC aD aE aP aO aR aS aT aX aY (λz0 z1 z2 z3 z4 z5=>some (z0,z1,z2,z3,z4,z5))
noncomputable def Yb6.e (k:Nat):Za0:=ent [.own true 64 [.n,.s,.n,.o,.o],.agg [.n,.l,.n,.s,.n,.l,.l]] [5,1] [.n,.s,.n,.o,.o,.b] [64,4] false (Yb6.t k) true true
noncomputable def Yb6.p (k:Nat):Pro:=⟨Tryz.prog,[(155,Ya2.e k),(156,Yz.e k),(82,Yn.e k),(157,YW.e k),(79,Y7.e k)],hints [] false [] true true,k⟩
theorem Yb6.ok (k:Nat):Zas Tryz.prog 121 (Yb6.e k):=ent_ok (Yb6.p k) mix tyok Tryz.func121 ⟨Ya2.ok k,Yz.ok k,Yn.ok k,YW.ok k,Y7.ok k⟩ Kr (λaB aA aC aD aE aP aO aR aS aT aX aY=>Ks)
noncomputable def YaY.l0 {β:Type} (k:Nat) (aF:LD) (aG aI:Int) (aL:BA) (aM:Int) (aN aQ:LD) (aU:Int) (aV:BA) (aW:Int) (K:Int->BA->Int->LC->LC->Int->Option β) (L0:(Int×Int×BA×Int×LC×LC)->Option β) (v:Int×Int×BA×Int×LC×LC):Option β:=
 match v with
 |(aH,bE,bL,v0_13,v0_14,v0_15)=>bif(decide ((aH:Int)<aG)) then(atR aF aH [.n,.l,.n,.s,.n,.l,.l] λx96 x99 x102 x105 x108 x111 x114=>(bd6 (Yb6.t k bE bL v0_13 v0_14 v0_15 x96 x99 x102 x105 x108 x111 x114) (λy115 y116 y117 y118 y119 y120=>bif(!y120) then(Yn.f k aI aL aM aN aQ (λy121 y122 y123 y124 y125=>K y121 y122 y123 y124 y125 aH)) else(L0 (IntKind.wrap .i64 (aH+1),y115,y116,y117,y118,y119))))) else(K bE bL v0_13 v0_14 v0_15 (-1))
noncomputable def YaY.m {β:Type} (k:Nat) (aB:Int) (aA:BA) (aC:Int) (aD aE a1:LD) (K:Int->BA->Int->LC->LC->Int->Option β) (F:(LD->Int->Int->BA->Int->LD->LD->Int->BA->Int->(Int×Int×BA×Int×LC×LC)->Option β)):Option β:=
 bd1 (Y7.t k aB aA aC aD aE) (λy1=>bif(!y1) then(Yn.f k aB aA aC aD aE (λy44 y45 y46 y47 y48=>K y44 y45 y46 y47 y48 0)) else(bd1 (Ybk.t k a1) (λy49=>bif(!y49) then(Yn.f k aB aA aC aD aE (λy50 y51 y52 y53 y54=>K y50 y51 y52 y53 y54 0)) else(Yn.f k aB aA aC aD aE (λy55 y56 y57 y58 y59=>F a1 (a1.length:Int) aB aA aC aD aE 0 (⟨#[]⟩:BA) 0 (0,y55,y56,y57,y58,y59))))))
noncomputable def YaY.g {β:Type} (k:Nat) (aB:Int) (aA:BA) (aC:Int) (aD aE a1:LD) (K:Int->BA->Int->LC->LC->Int->Option β):Option β:=YaY.m k aB aA aC aD aE a1 K (λaF aG aI aL aM aN aQ aU aV aW=>Za1 (YaY.l0 k aF aG aI aL aM aN aQ aU aV aW K) k)
noncomputable def YaY.t (k:Nat) (aB:Int) (aA:BA) (aC:Int) (aD aE a1:LD):=YaY.g k aB aA aC aD aE a1 (λz0 z1 z2 z3 z4 z5=>some (z0,z1,z2,z3,z4,z5))
noncomputable def YaY.e (k:Nat):Za0:=ent [.agg [.n,.s,.n,.l,.l],.d .l] [5,1] [.n,.s,.n,.o,.o,.n] [64,3] false (YaY.t k)
noncomputable def YaY.p (k:Nat):Pro:=⟨Tryz.prog,[(79,Y7.e k),(82,Yn.e k),(120,Ybk.e k),(121,Yb6.e k)],hints [(5,kp [2,4,6,23,24,25])] false [],k⟩
theorem YaY.l0_eq (k:Nat) (aB:Int) (aA:BA) (aC:Int) (aD aE a1 aF:LD) (aG aI:Int) (aL:BA) (aM:Int) (aN aQ:LD) (aU:Int) (aV:BA) (aW:Int):LpEq ((YaY.p k).lf Tryz.f83 5 [1,1,1,0,1,0] [.agg [.int .i64 aB,.str aA,.int .i64 aC,.sl aD,.sl aE],.d (.sl a1)] [5,1] [.n,.s,.n,.o,.o,.n]) (YaY.l0 k aF aG aI aL aM aN aQ aU aV aW (λz0 z1 z2 z3 z4 z5=>some (z0,z1,z2,z3,z4,z5))) (λ(aH,bE,bL,v0_13,v0_14,v0_15)=>mkSt 44 [(2,.bp 0 0),(4,.bp 1 0),(6,.bp 2 0),(23,.d false (.sl aF)),(24,.d true (.int .i64 aG)),(25,.d true (.int .i64 aH))] [.box none 64 [.d false (.int .i64 aI),.d false (.str aL),.d false (.int .i64 aM),.d false (.sl aN),.d false (.sl aQ)],.box none 64 [.d true (.int .i64 aU),.d true (.str aV),.d true (.int .i64 aW),.nil,.nil],.box none 64 [.d true (.int .i64 bE),.d true (.str bL),.d true (.int .i64 v0_13),.row 3,.row 4],.row none true 25 v0_14,.row none true 62 v0_15]):=lf_eq λL0 v=>by obtain⟨aH,bE,bL,v0_13,v0_14,v0_15⟩:=v;kernel_rfl
theorem YaY.ok (k:Nat):Zas Tryz.prog 83 (YaY.e k):=ent_ok (YaY.p k) mix tyok Tryz.func83 ⟨Y7.ok k,Yn.ok k,Ybk.ok k,Yb6.ok k⟩ Kr (λaB aA aC aD aE a1=>Eq.trans Kr (congrArg (YaY.m k aB aA aC aD aE a1 (λz0 z1 z2 z3 z4 z5=>some (z0,z1,z2,z3,z4,z5))) (funext λaF=>funext λaG=>funext λaI=>funext λaL=>funext λaM=>funext λaN=>funext λaQ=>funext λaU=>funext λaV=>funext λaW=>funext λv=>YaY.l0_eq k aB aA aC aD aE a1 aF aG aI aL aM aN aQ aU aV aW k v) :))
noncomputable def YaZ.g {β:Type} (k:Nat) (aB:BA) (aA:LD) (f0_0:Int) (f0_1:BA) (f0_2:Int) (f0_3 f0_4:LD) (K:Bool->Option β):Option β:=
 bd6 (YaY.t k f0_0 f0_1 f0_2 f0_3 f0_4 aA) (λy126 y127 y128 y129 y130 y131=>K ((y131:Int)!=(-1)))
noncomputable def YaZ.t (k:Nat) (aB:BA) (aA:LD) (f0_0:Int) (f0_1:BA) (f0_2:Int) (f0_3 f0_4:LD):=YaZ.g k aB aA f0_0 f0_1 f0_2 f0_3 f0_4 (λz0=>some z0)
noncomputable def YaZ.e (k:Nat):Za0:=ent [.agg [.s,.l],.ip [.n,.s,.n,.l,.l]] [1] [.b] [4] false (YaZ.t k)
noncomputable def YaZ.p (k:Nat):Pro:=⟨Tryz.prog,[(83,YaY.e k)],hints [] false [],k⟩
theorem YaZ.ok (k:Nat):Zas Tryz.prog 106 (YaZ.e k):=ent_ok (YaZ.p k) mix tyok Tryz.func106 (YaY.ok k) Kr (λaB aA f0_0 f0_1 f0_2 f0_3 f0_4=>Ks)
noncomputable def Yg.l0 {β:Type} (k:Nat) (aF:LD) (aG:Int) (aH:BA) (aI:Int) (aL aM:LD) (aN:Int) (K L0:Int->Option β) (v:Int):Option β:=
 match v with
 |aQ=>bif(decide ((aQ:Int)<aN)) then(atR aF aQ [.s,.l] λx136 x139=>(bd1 (YaZ.t k x136 x139 aG aH aI aL aM) (λy140=>bif y140 then(K aQ) else(L0 (IntKind.wrap .i64 (aQ+1)))))) else(K (-1))
noncomputable def Yg.m {β:Type} (k:Nat) (a0:LD) (a1_0_0:Int) (a1_0_1:BA) (a1_0_2:Int) (a1_0_3 a1_0_4:LD) (K:Int->Option β) (F:(LD->Int->BA->Int->LD->LD->Int->Int->Option β)):Option β:=
 F a0 a1_0_0 a1_0_1 a1_0_2 a1_0_3 a1_0_4 (a0.length:Int) (0)
noncomputable def Yg.g {β:Type} (k:Nat) (a0:LD) (a1_0_0:Int) (a1_0_1:BA) (a1_0_2:Int) (a1_0_3 a1_0_4:LD) (K:Int->Option β):Option β:=
 Za1 (Yg.l0 k a0 a1_0_0 a1_0_1 a1_0_2 a1_0_3 a1_0_4 (a0.length:Int) K) k (0)
noncomputable def Yg.t (k:Nat) (a0:LD) (a1_0_0:Int) (a1_0_1:BA) (a1_0_2:Int) (a1_0_3 a1_0_4:LD):=Yg.g k a0 a1_0_0 a1_0_1 a1_0_2 a1_0_3 a1_0_4 (λz0=>some z0)
noncomputable def Yg.e (k:Nat):Za0:=ent [.d .l,.fn 106 [[.n,.s,.n,.l,.l]]] [1] [.n] [3] false (Yg.t k)
noncomputable def Yg.p (k:Nat):Pro:=⟨Tryz.prog,[(106,YaZ.e k)],hints [(2,kp [0,1,7,8])] false [],k⟩
theorem Yg.l0_eq (k:Nat) (a0:LD) (a1_0_0:Int) (a1_0_1:BA) (a1_0_2:Int) (a1_0_3 a1_0_4 aF:LD) (aG:Int) (aH:BA) (aI:Int) (aL aM:LD) (aN:Int):LpEq ((Yg.p k).lf Tryz.f80 2 [1,0,1,0] [.d (.sl a0),.d (.fn 106 [[.int .i64 a1_0_0,.str a1_0_1,.int .i64 a1_0_2,.sl a1_0_3,.sl a1_0_4]])] [1] [.n]) (Yg.l0 k aF aG aH aI aL aM aN (λz0=>some z0)) (λaQ=>mkSt 19 [(0,.d false (.sl aF)),(1,.d false (.fn 106 [[.int .i64 aG,.str aH,.int .i64 aI,.sl aL,.sl aM]])),(7,.d true (.int .i64 aN)),(8,.d true (.int .i64 aQ))] []):=lf_eq λL0 v=>by kernel_rfl
theorem Yg.ok (k:Nat):Zas Tryz.prog 80 (Yg.e k):=ent_ok (Yg.p k) mix tyok Tryz.func80 (YaZ.ok k) Kr (λa0 a1_0_0 a1_0_1 a1_0_2 a1_0_3 a1_0_4=>Eq.trans Kr (congrArg (Yg.m k a0 a1_0_0 a1_0_1 a1_0_2 a1_0_3 a1_0_4 (λz0=>some z0)) (funext λaF=>funext λaG=>funext λaH=>funext λaI=>funext λaL=>funext λaM=>funext λaN=>funext λv=>Yg.l0_eq k a0 a1_0_0 a1_0_1 a1_0_2 a1_0_3 a1_0_4 aF aG aH aI aL aM aN k v) :))
noncomputable def Yq.g {β:Type} (k:Nat) (a0:LD) (a1_0_0:Int) (a1_0_1:BA) (a1_0_2:Int) (a1_0_3 a1_0_4:LD) (K:Bool->Option β):Option β:=
 bd1 (Yg.t k a0 a1_0_0 a1_0_1 a1_0_2 a1_0_3 a1_0_4) (λy141=>K (decide ((y141:Int)>=0)))
noncomputable def Yq.t (k:Nat) (a0:LD) (a1_0_0:Int) (a1_0_1:BA) (a1_0_2:Int) (a1_0_3 a1_0_4:LD):=Yq.g k a0 a1_0_0 a1_0_1 a1_0_2 a1_0_3 a1_0_4 (λz0=>some z0)
noncomputable def Yq.e (k:Nat):Za0:=ent [.d .l,.fn 106 [[.n,.s,.n,.l,.l]]] [1] [.b] [4] false (Yq.t k)
noncomputable def Yq.p (k:Nat):Pro:=⟨Tryz.prog,[(80,Yg.e k)],hints [] false [],k⟩
theorem Yq.ok (k:Nat):Zas Tryz.prog 105 (Yq.e k):=ent_ok (Yq.p k) mix tyok Tryz.func105 (Yg.ok k) Kr (λa0 a1_0_0 a1_0_1 a1_0_2 a1_0_3 a1_0_4=>Ks)
noncomputable def Ybi.g {β:Type} (k:Nat) (a0:LD) (aP:Int) (aO:BA) (aR:Int) (aS aT:LD) (K:Bool->Option β):Option β:=
 bd1 (YaE.t k a0) (λy122=>bif y122 then(bd1 (Y7.t k aP aO aR aS aT) (λy123=>bif y123 then(bd1 (Yq.t k a0 aP aO aR aS aT) (λy142=>K (!y142))) else(K false))) else(K false))
noncomputable def Ybi.t (k:Nat) (a0:LD) (aP:Int) (aO:BA) (aR:Int) (aS aT:LD):=Ybi.g k a0 aP aO aR aS aT (λz0=>some z0)
noncomputable def Ybi.e (k:Nat):Za0:=ent [.d .l,.agg [.n,.s,.n,.l,.l]] [1] [.b] [4] false (Ybi.t k)
noncomputable def Ybi.p (k:Nat):Pro:=⟨Tryz.prog,[(104,YaE.e k),(79,Y7.e k),(105,Yq.e k)],hints [] false [],k⟩
theorem Ybi.ok (k:Nat):Zas Tryz.prog 68 (Ybi.e k):=ent_ok (Ybi.p k) mix tyok Tryz.func68 ⟨YaE.ok k,Y7.ok k,Yq.ok k⟩ Kr (λa0 aP aO aR aS aT=>Ks)
noncomputable def YaR.l0 {β:Type} (k:Nat) (aF:LD) (aG aI aL aM:Int) (aN aQ aU aV:LD) (K:Bool->Option β) (L0:Int->Option β) (v:Int):Option β:=
 match v with
 |aH=>bif(decide ((aH:Int)<aG)) then(atR aF aH [.n,.s,.n,.l,.l,.l,.n,.s,.n,.l,.l,.l,.b] λx187 x190 x193 x196 x199 x202 x205 x208 x211 x214 x217 x220 x223=>(bd1 (YX.t k x187 1 (IntKind.wrap .i64 (aL-1))) (λy224=>bif(!y224) then(K false) else(bd1 (YI.t k x190) (λy225=>bif(!y225) then(K false) else(bd1 (Yb4.t k aI aL aM aN aQ aU aV x190) (λy226=>bif((y226:Int)!=aH) then(K false) else(bd1 (YaK.t k x193 x196 x199 x202) (λy227=>bif(!y227) then(K false) else(bd1 (Ybi.t k x220 x205 x208 x211 x214 x217) (λy228=>bif(!y228) then(K false) else(bif(decide ((aH:Int)>0)) then(atR aN (IntKind.wrap .i64 (aH-1)) [.n,.s,.n,.l,.l,.l,.n,.s,.n,.l,.l,.l,.b] λx232 x235 x238 x241 x244 x247 x250 x253 x256 x259 x262 x265 x268=>(bif(decide ((x232:Int)>=x187)) then(K false) else(L0 (IntKind.wrap .i64 (aH+1))))) else(L0 (IntKind.wrap .i64 (aH+1))))))))))))))) else(K (decide (((aN.length:Int):Int)<=20)))
noncomputable def YaR.m {β:Type} (k:Nat) (aB aA aC:Int) (aD aE aJ aK:LD) (K:Bool->Option β) (F:(LD->Int->Int->Int->Int->LD->LD->LD->LD->Int->Option β)):Option β:=
 F aD (aD.length:Int) aB aA aC aD aE aJ aK (0)
noncomputable def YaR.g {β:Type} (k:Nat) (aB aA aC:Int) (aD aE aJ aK:LD) (K:Bool->Option β):Option β:=
 Za1 (YaR.l0 k aD (aD.length:Int) aB aA aC aD aE aJ aK K) k (0)
noncomputable def YaR.t (k:Nat) (aB aA aC:Int) (aD aE aJ aK:LD):=YaR.g k aB aA aC aD aE aJ aK (λz0=>some z0)
noncomputable def YaR.e (k:Nat):Za0:=ent [.agg [.n,.n,.n,.l,.l,.l,.l]] [1] [.b] [4] false (YaR.t k)
noncomputable def YaR.p (k:Nat):Pro:=⟨Tryz.prog,[(30,YX.e k),(65,YI.e k),(66,Yb4.e k),(67,YaK.e k),(68,Ybi.e k)],hints [(2,kp [1,6,7,8])] false [],k⟩
theorem YaR.l0_eq (k:Nat) (aB aA aC:Int) (aD aE aJ aK aF:LD) (aG aI aL aM:Int) (aN aQ aU aV:LD):LpEq ((YaR.p k).lf Tryz.f32 2 [1,0,1,0] [.agg [.int .i64 aB,.int .i64 aA,.int .i64 aC,.sl aD,.sl aE,.sl aJ,.sl aK]] [1] [.b]) (YaR.l0 k aF aG aI aL aM aN aQ aU aV (λz0=>some z0)) (λaH=>mkSt 69 [(1,.bp 0 0),(6,.d false (.sl aF)),(7,.d true (.int .i64 aG)),(8,.d true (.int .i64 aH))] [.box none 34 [.d false (.int .i64 aI),.d false (.int .i64 aL),.d false (.int .i64 aM),.d false (.sl aN),.d false (.sl aQ),.d false (.sl aU),.d false (.sl aV)]]):=lf_eq λL0 v=>by kernel_rfl
theorem YaR.ok (k:Nat):Zas Tryz.prog 32 (YaR.e k):=ent_ok (YaR.p k) mix tyok Tryz.func32 ⟨YX.ok k,YI.ok k,Yb4.ok k,YaK.ok k,Ybi.ok k⟩ Kr (λaB aA aC aD aE aJ aK=>Eq.trans Kr (congrArg (YaR.m k aB aA aC aD aE aJ aK (λz0=>some z0)) (funext λaF=>funext λaG=>funext λaI=>funext λaL=>funext λaM=>funext λaN=>funext λaQ=>funext λaU=>funext λaV=>funext λv=>YaR.l0_eq k aB aA aC aD aE aJ aK aF aG aI aL aM aN aQ aU aV k v) :))
noncomputable def Yai.l0 {β:Type} (k:Nat) (aF aG:LD) (aH:Int) (K:Bool->Option β) (L0:Int->Option β) (v:Int):Option β:=
 match v with
 |aI=>bif(decide ((aI:Int)<aH)) then(atR aG aI [.s,.s] λx20 x23=>(bd1 (YI.t k x20) (λy24=>bif(!y24) then(K false) else(bd1 (YI.t k x23) (λy25=>bif(!y25) then(K false) else(bif(decide ((aI:Int)>0)) then(atR aF (IntKind.wrap .i64 (aI-1)) [.s,.s] λx29 x32=>(bif(!(Za3 x29 x20)) then(K false) else(L0 (IntKind.wrap .i64 (aI+1))))) else(L0 (IntKind.wrap .i64 (aI+1))))))))) else(K (decide (((aF.length:Int):Int)<=8)))
noncomputable def Yai.m {β:Type} (k:Nat) (a0:LD) (K:Bool->Option β) (F:(LD->LD->Int->Int->Option β)):Option β:=
 F a0 a0 (a0.length:Int) (0)
noncomputable def Yai.g {β:Type} (k:Nat) (a0:LD) (K:Bool->Option β):Option β:=
 Za1 (Yai.l0 k a0 a0 (a0.length:Int) K) k (0)
noncomputable def Yai.t (k:Nat) (a0:LD):=Yai.g k a0 (λz0=>some z0)
noncomputable def Yai.e (k:Nat):Za0:=ent [.d .l] [1] [.b] [4] false (Yai.t k)
noncomputable def Yai.p (k:Nat):Pro:=⟨Tryz.prog,[(65,YI.e k)],hints [(2,kp [0,5,6,7])] false [],k⟩
theorem Yai.l0_eq (k:Nat) (a0 aF aG:LD) (aH:Int):LpEq ((Yai.p k).lf Tryz.f107 2 [1,0,1,0] [.d (.sl a0)] [1] [.b]) (Yai.l0 k aF aG aH (λz0=>some z0)) (λaI=>mkSt 41 [(0,.d false (.sl aF)),(5,.d false (.sl aG)),(6,.d true (.int .i64 aH)),(7,.d true (.int .i64 aI))] []):=lf_eq λL0 v=>by kernel_rfl
theorem Yai.ok (k:Nat):Zas Tryz.prog 107 (Yai.e k):=ent_ok (Yai.p k) mix tyok Tryz.func107 (YI.ok k) Kr (λa0=>Eq.trans Kr (congrArg (Yai.m k a0 (λz0=>some z0)) (funext λaF=>funext λaG=>funext λaH=>funext λv=>Yai.l0_eq k a0 aF aG aH k v) :))
noncomputable def Ya4.g {β:Type} (k:Nat) (aB:BA) (aA aC:LD) (aD:Int) (K:Bool->Option β):Option β:=
 bd1 (YI.t k aB) (λy1=>bif y1 then(bd1 (Yai.t k aA) (λy33=>bif y33 then(bd1 (YK.t k aC 4) (λy34=>bif y34 then(bd1 (Yax.t k aD) (λy35=>K y35)) else(K false))) else(K false))) else(K false))
noncomputable def Ya4.t (k:Nat) (aB:BA) (aA aC:LD) (aD:Int):=Ya4.g k aB aA aC aD (λz0=>some z0)
noncomputable def Ya4.e (k:Nat):Za0:=ent [.agg [.s,.l,.l,.n]] [1] [.b] [4] false (Ya4.t k)
noncomputable def Ya4.p (k:Nat):Pro:=⟨Tryz.prog,[(65,YI.e k),(107,Yai.e k),(31,YK.e k),(71,Yax.e k)],hints [] false [],k⟩
theorem Ya4.ok (k:Nat):Zas Tryz.prog 69 (Ya4.e k):=ent_ok (Ya4.p k) mix tyok Tryz.func69 ⟨YI.ok k,Yai.ok k,YK.ok k,Yax.ok k⟩ Kr (λaB aA aC aD=>Ks)
noncomputable def Y6.g {β:Type} (k:Nat) (a0:LD) (a1:BA) (K:Bool->Option β):Option β:=
 bd1 (YF.t k a0 a1) (λy1=>K (decide ((y1:Int)>=0)))
noncomputable def Y6.t (k:Nat) (a0:LD) (a1:BA):=Y6.g k a0 a1 (λz0=>some z0)
noncomputable def Y6.e (k:Nat):Za0:=ent [.d .l,.d .s] [1] [.b] [4] false (Y6.t k)
noncomputable def Y6.p (k:Nat):Pro:=⟨Tryz.prog,[(108,YF.e k)],hints [] false [],k⟩
theorem Y6.ok (k:Nat):Zas Tryz.prog 70 (Y6.e k):=ent_ok (Y6.p k) mix tyok Tryz.func70 (YF.ok k) Kr (λa0 a1=>Ks)
noncomputable def YaD.l0 {β:Type} (k:Nat) (aF:LD) (aG aI aL aM:Int) (aN aQ aU aV:LD) (K:Bool->Option β) (L0:Int->Option β) (v:Int):Option β:=
 match v with
 |aH=>bif(decide ((aH:Int)<aG)) then(atR aF aH [.s,.l,.l,.n,.n,.n] λx62 x65 x68 x71 x74 x77=>(bd1 (Ya4.t k x62 x65 x68 x71) (λy78=>bif(!y78) then(K false) else(bd1 (YX.t k x74 0 aM) (λy79=>bif(!y79) then(K false) else(bd1 (YX.t k x77 0 aI) (λy80=>bif(!y80) then(K false) else(bd1 (Y6.t k aV x62) (λy81=>bif y81 then(K false) else(bif(decide ((aH:Int)>0)) then(atR aQ (IntKind.wrap .i64 (aH-1)) [.s,.l,.l,.n,.n,.n] λx85 x88 x91 x94 x97 x100=>(bif(!(Za3 x85 x62)) then(K false) else(L0 (IntKind.wrap .i64 (aH+1))))) else(L0 (IntKind.wrap .i64 (aH+1))))))))))))) else(K (decide (((aQ.length:Int):Int)<=12)))
noncomputable def YaD.m {β:Type} (k:Nat) (aB aA aC:Int) (aD aE aJ aK:LD) (K:Bool->Option β) (F:(LD->Int->Int->Int->Int->LD->LD->LD->LD->Int->Option β)):Option β:=
 F aE (aE.length:Int) aB aA aC aD aE aJ aK (0)
noncomputable def YaD.g {β:Type} (k:Nat) (aB aA aC:Int) (aD aE aJ aK:LD) (K:Bool->Option β):Option β:=
 Za1 (YaD.l0 k aE (aE.length:Int) aB aA aC aD aE aJ aK K) k (0)
noncomputable def YaD.t (k:Nat) (aB aA aC:Int) (aD aE aJ aK:LD):=YaD.g k aB aA aC aD aE aJ aK (λz0=>some z0)
noncomputable def YaD.e (k:Nat):Za0:=ent [.agg [.n,.n,.n,.l,.l,.l,.l]] [1] [.b] [4] false (YaD.t k)
noncomputable def YaD.p (k:Nat):Pro:=⟨Tryz.prog,[(69,Ya4.e k),(30,YX.e k),(70,Y6.e k)],hints [(2,kp [1,6,7,8])] false [],k⟩
theorem YaD.l0_eq (k:Nat) (aB aA aC:Int) (aD aE aJ aK aF:LD) (aG aI aL aM:Int) (aN aQ aU aV:LD):LpEq ((YaD.p k).lf Tryz.f33 2 [1,0,1,0] [.agg [.int .i64 aB,.int .i64 aA,.int .i64 aC,.sl aD,.sl aE,.sl aJ,.sl aK]] [1] [.b]) (YaD.l0 k aF aG aI aL aM aN aQ aU aV (λz0=>some z0)) (λaH=>mkSt 64 [(1,.bp 0 0),(6,.d false (.sl aF)),(7,.d true (.int .i64 aG)),(8,.d true (.int .i64 aH))] [.box none 34 [.d false (.int .i64 aI),.d false (.int .i64 aL),.d false (.int .i64 aM),.d false (.sl aN),.d false (.sl aQ),.d false (.sl aU),.d false (.sl aV)]]):=lf_eq λL0 v=>by kernel_rfl
theorem YaD.ok (k:Nat):Zas Tryz.prog 33 (YaD.e k):=ent_ok (YaD.p k) mix tyok Tryz.func33 ⟨Ya4.ok k,YX.ok k,Y6.ok k⟩ Kr (λaB aA aC aD aE aJ aK=>Eq.trans Kr (congrArg (YaD.m k aB aA aC aD aE aJ aK (λz0=>some z0)) (funext λaF=>funext λaG=>funext λaI=>funext λaL=>funext λaM=>funext λaN=>funext λaQ=>funext λaU=>funext λaV=>funext λv=>YaD.l0_eq k aB aA aC aD aE aJ aK aF aG aI aL aM aN aQ aU aV k v) :))
noncomputable def YbI.g {β:Type} (k:Nat) (aB:Int) (aA:BA) (aC:Int) (aD aE aJ:LD) (aK:Int) (bI:BA) (bJ:Int) (bF bG bH:LD) (bK:Bool) (f0_0:Int) (K:Bool->Option β):Option β:=
 K ((aB:Int)==f0_0)
noncomputable def YbI.t (k:Nat) (aB:Int) (aA:BA) (aC:Int) (aD aE aJ:LD) (aK:Int) (bI:BA) (bJ:Int) (bF bG bH:LD) (bK:Bool) (f0_0:Int):=YbI.g k aB aA aC aD aE aJ aK bI bJ bF bG bH bK f0_0 (λz0=>some z0)
noncomputable def YbI.e (k:Nat):Za0:=ent [.agg [.n,.s,.n,.l,.l,.l,.n,.s,.n,.l,.l,.l,.b],.ip [.n]] [1] [.b] [4] false (YbI.t k)
noncomputable def YbI.p (k:Nat):Pro:=⟨Tryz.prog,[],hints [] false [],k⟩
theorem YbI.ok (k:Nat):Zas Tryz.prog 85 (YbI.e k):=ent_ok (YbI.p k) mix tyok Tryz.func85 trivial Kr (λaB aA aC aD aE aJ aK bI bJ bF bG bH bK f0_0=>Ks)
noncomputable def Yj.l0 {β:Type} (k:Nat) (aF:LD) (aG aH:Int) (K L0:Int->Option β) (v:Int):Option β:=
 match v with
 |aI=>bif(decide ((aI:Int)<aH)) then(atR aF aI [.n,.s,.n,.l,.l,.l,.n,.s,.n,.l,.l,.l,.b] λx45 x48 x51 x54 x57 x60 x63 x66 x69 x72 x75 x78 x81=>(bd1 (YbI.t k x45 x48 x51 x54 x57 x60 x63 x66 x69 x72 x75 x78 x81 aG) (λy82=>bif y82 then(K aI) else(L0 (IntKind.wrap .i64 (aI+1)))))) else(K (-1))
noncomputable def Yj.m {β:Type} (k:Nat) (a0:LD) (a1_0_0:Int) (K:Int->Option β) (F:(LD->Int->Int->Int->Option β)):Option β:=
 F a0 a1_0_0 (a0.length:Int) (0)
noncomputable def Yj.g {β:Type} (k:Nat) (a0:LD) (a1_0_0:Int) (K:Int->Option β):Option β:=
 Za1 (Yj.l0 k a0 a1_0_0 (a0.length:Int) K) k (0)
noncomputable def Yj.t (k:Nat) (a0:LD) (a1_0_0:Int):=Yj.g k a0 a1_0_0 (λz0=>some z0)
noncomputable def Yj.e (k:Nat):Za0:=ent [.d .l,.fn 85 [[.n]]] [1] [.n] [3] false (Yj.t k)
noncomputable def Yj.p (k:Nat):Pro:=⟨Tryz.prog,[(85,YbI.e k)],hints [(2,kp [0,1,7,8])] false [],k⟩
theorem Yj.l0_eq (k:Nat) (a0:LD) (a1_0_0:Int) (aF:LD) (aG aH:Int):LpEq ((Yj.p k).lf Tryz.f84 2 [1,0,1,0] [.d (.sl a0),.d (.fn 85 [[.int .i64 a1_0_0]])] [1] [.n]) (Yj.l0 k aF aG aH (λz0=>some z0)) (λaI=>mkSt 19 [(0,.d false (.sl aF)),(1,.d false (.fn 85 [[.int .i64 aG]])),(7,.d true (.int .i64 aH)),(8,.d true (.int .i64 aI))] []):=lf_eq λL0 v=>by kernel_rfl
theorem Yj.ok (k:Nat):Zas Tryz.prog 84 (Yj.e k):=ent_ok (Yj.p k) mix tyok Tryz.func84 (YbI.ok k) Kr (λa0 a1_0_0=>Eq.trans Kr (congrArg (Yj.m k a0 a1_0_0 (λz0=>some z0)) (funext λaF=>funext λaG=>funext λaH=>funext λv=>Yj.l0_eq k a0 a1_0_0 aF aG aH k v) :))
noncomputable def Yb3.g {β:Type} (k:Nat) (aB aA aC:Int) (aD aE aJ aK:LD) (a1:Int) (K:Int->Option β):Option β:=
 bd1 (Yj.t k aD a1) (λy83=>K y83)
noncomputable def Yb3.t (k:Nat) (aB aA aC:Int) (aD aE aJ aK:LD) (a1:Int):=Yb3.g k aB aA aC aD aE aJ aK a1 (λz0=>some z0)
noncomputable def Yb3.e (k:Nat):Za0:=ent [.agg [.n,.n,.n,.l,.l,.l,.l],.d .n] [1] [.n] [3] false (Yb3.t k)
noncomputable def Yb3.p (k:Nat):Pro:=⟨Tryz.prog,[(84,Yj.e k)],hints [] false [],k⟩
theorem Yb3.ok (k:Nat):Zas Tryz.prog 41 (Yb3.e k):=ent_ok (Yb3.p k) mix tyok Tryz.func41 (Yj.ok k) Kr (λaB aA aC aD aE aJ aK a1=>Ks)
noncomputable def Ybn.g {β:Type} (k:Nat) (aB:BA) (aA aC:LD) (aD aE aJ:Int) (f0_0:BA) (K:Bool->Option β):Option β:=
 K (ZP aB f0_0)
noncomputable def Ybn.t (k:Nat) (aB:BA) (aA aC:LD) (aD aE aJ:Int) (f0_0:BA):=Ybn.g k aB aA aC aD aE aJ f0_0 (λz0=>some z0)
noncomputable def Ybn.e (k:Nat):Za0:=ent [.agg [.s,.l,.l,.n,.n,.n],.ip [.s]] [1] [.b] [4] false (Ybn.t k)
noncomputable def Ybn.p (k:Nat):Pro:=⟨Tryz.prog,[],hints [] false [],k⟩
theorem Ybn.ok (k:Nat):Zas Tryz.prog 110 (Ybn.e k):=ent_ok (Ybn.p k) mix tyok Tryz.func110 trivial Kr (λaB aA aC aD aE aJ f0_0=>Ks)
noncomputable def Yh.l0 {β:Type} (k:Nat) (aF:LD) (aG:BA) (aH:Int) (K L0:Int->Option β) (v:Int):Option β:=
 match v with
 |aI=>bif(decide ((aI:Int)<aH)) then(atR aF aI [.s,.l,.l,.n,.n,.n] λx24 x27 x30 x33 x36 x39=>(bd1 (Ybn.t k x24 x27 x30 x33 x36 x39 aG) (λy40=>bif y40 then(K aI) else(L0 (IntKind.wrap .i64 (aI+1)))))) else(K (-1))
noncomputable def Yh.m {β:Type} (k:Nat) (a0:LD) (a1_0_0:BA) (K:Int->Option β) (F:(LD->BA->Int->Int->Option β)):Option β:=
 F a0 a1_0_0 (a0.length:Int) (0)
noncomputable def Yh.g {β:Type} (k:Nat) (a0:LD) (a1_0_0:BA) (K:Int->Option β):Option β:=
 Za1 (Yh.l0 k a0 a1_0_0 (a0.length:Int) K) k (0)
noncomputable def Yh.t (k:Nat) (a0:LD) (a1_0_0:BA):=Yh.g k a0 a1_0_0 (λz0=>some z0)
noncomputable def Yh.e (k:Nat):Za0:=ent [.d .l,.fn 110 [[.s]]] [1] [.n] [3] false (Yh.t k)
noncomputable def Yh.p (k:Nat):Pro:=⟨Tryz.prog,[(110,Ybn.e k)],hints [(2,kp [0,1,7,8])] false [],k⟩
theorem Yh.l0_eq (k:Nat) (a0:LD) (a1_0_0:BA) (aF:LD) (aG:BA) (aH:Int):LpEq ((Yh.p k).lf Tryz.f109 2 [1,0,1,0] [.d (.sl a0),.d (.fn 110 [[.str a1_0_0]])] [1] [.n]) (Yh.l0 k aF aG aH (λz0=>some z0)) (λaI=>mkSt 19 [(0,.d false (.sl aF)),(1,.d false (.fn 110 [[.str aG]])),(7,.d true (.int .i64 aH)),(8,.d true (.int .i64 aI))] []):=lf_eq λL0 v=>by kernel_rfl
theorem Yh.ok (k:Nat):Zas Tryz.prog 109 (Yh.e k):=ent_ok (Yh.p k) mix tyok Tryz.func109 (Ybn.ok k) Kr (λa0 a1_0_0=>Eq.trans Kr (congrArg (Yh.m k a0 a1_0_0 (λz0=>some z0)) (funext λaF=>funext λaG=>funext λaH=>funext λv=>Yh.l0_eq k a0 a1_0_0 aF aG aH k v) :))
noncomputable def YbU.g {β:Type} (k:Nat) (aB aA aC:Int) (aD aE aJ aK:LD) (a1:BA) (K:Int->Option β):Option β:=
 bd1 (Yh.t k aE a1) (λy41=>K y41)
noncomputable def YbU.t (k:Nat) (aB aA aC:Int) (aD aE aJ aK:LD) (a1:BA):=YbU.g k aB aA aC aD aE aJ aK a1 (λz0=>some z0)
noncomputable def YbU.e (k:Nat):Za0:=ent [.agg [.n,.n,.n,.l,.l,.l,.l],.d .s] [1] [.n] [3] false (YbU.t k)
noncomputable def YbU.p (k:Nat):Pro:=⟨Tryz.prog,[(109,Yh.e k)],hints [] false [],k⟩
theorem YbU.ok (k:Nat):Zas Tryz.prog 72 (YbU.e k):=ent_ok (YbU.p k) mix tyok Tryz.func72 (Yh.ok k) Kr (λaB aA aC aD aE aJ aK a1=>Ks)
noncomputable def Ybl.g {β:Type} (k:Nat) (a0:Int) (K:Bool->Option β):Option β:=
 K ((a0:Int)!=a0)
noncomputable def Ybl.t (k:Nat) (a0:Int):=Ybl.g k a0 (λz0=>some z0)
noncomputable def Ybl.e (k:Nat):Za0:=ent [.d .n] [1] [.b] [4] false (Ybl.t k)
noncomputable def Ybl.p (k:Nat):Pro:=⟨Tryz.prog,[],hints [] false [],k⟩
theorem Ybl.ok (k:Nat):Zas Tryz.prog 140 (Ybl.e k):=ent_ok (Ybl.p k) mix tyok Tryz.func140 trivial Kr (λa0=>Ks)
noncomputable def Ya7.g {β:Type} (k:Nat) (a0 a1:Int) (K:Int->Option β):Option β:=
 bd1 (Ybl.t k a0) (λy1=>bd1 (Ybl.t k a1) (λy2=>bif y1 then(bif y2 then(K 0) else(K (-1))) else(bif y2 then(K 1) else(bif(decide ((a0:Int)<a1)) then(K (-1)) else(bif(decide ((a0:Int)>a1)) then(K 1) else(K 0))))))
noncomputable def Ya7.t (k:Nat) (a0 a1:Int):=Ya7.g k a0 a1 (λz0=>some z0)
noncomputable def Ya7.e (k:Nat):Za0:=ent [.d .n,.d .n] [1] [.n] [3] false (Ya7.t k)
noncomputable def Ya7.p (k:Nat):Pro:=⟨Tryz.prog,[(140,Ybl.e k)],hints [] false [],k⟩
theorem Ya7.ok (k:Nat):Zas Tryz.prog 111 (Ya7.e k):=ent_ok (Ya7.p k) mix tyok Tryz.func111 (Ybl.ok k) Kr (λa0 a1=>Ks)
noncomputable def Y5.t (k:Nat) (a0 a1:BA):Option Int:=some (cmpS a0 a1)
noncomputable def Y5.f {β:Type} (k:Nat) (a0 a1:BA) (K:Int->Option β):Option β:=
 match Y5.t k a0 a1 with
 |some z0=>K z0
 |none=>none
noncomputable def Y5.run (k:Nat):{β:Type}->List A->(LC->List Out->Option β)->Option β:=λ{β} l K=>
 match l with
 |[.d (.str a0),.d (.str a1)]=>Y5.f k a0 a1 (λz0=>K [[.d (.int .i64 z0)]] [])
 |_=>none
noncomputable def Y5.e (k:Nat):Za0:={ modes:=[(.imm,0),(.imm,0)],rts:=[3],al:=false,run:=Y5.run k }
theorem Y5.calls (a b:BA) (w:World):Calls Tryz.prog 141 #[.string a,.string b] w λe w'=>e=.returned (.int .i64 (cmpS a b))/\w'=w:=by
 go_enter Tryz.func141,Tryz.ntmps141
 go_wp2
 rw[run_callFunc_extern Tryz.func167 Kr Kr Kr (e:=Extern.BytealgCompare.compare) Kr,Go.Lib.run_compareString]
 simp only[Result.andThen]
 rw[Oper.upon_value]
 go_wp2
 go_ret
 exact⟨rfl,rfl⟩
theorem Y5.ok (k:Nat):Zas Tryz.prog 141 (Y5.e k):=strs_ok (t:=3) (g:=cmpS) (run:=λ{β}=>Y5.run k) (enter_of Tryz.func141 Kr) Kr Kr Y5.calls (λβ aa K r h=>by
 unfold Y5.run at h
 split at h
 ·exact⟨_,_,rfl,h⟩
 ·cases h)
noncomputable def Ya5.g {β:Type} (k:Nat) (a0 a1:BA) (K:Int->Option β):Option β:=
 Y5.f k a0 a1 (λy1=>K y1)
noncomputable def Ya5.t (k:Nat) (a0 a1:BA):=Ya5.g k a0 a1 (λz0=>some z0)
noncomputable def Ya5.e (k:Nat):Za0:=ent [.d .s,.d .s] [1] [.n] [3] false (Ya5.t k)
noncomputable def Ya5.p (k:Nat):Pro:=⟨Tryz.prog,[(141,Y5.e k)],hints [] false [],k⟩
theorem Ya5.ok (k:Nat):Zas Tryz.prog 112 (Ya5.e k):=ent_ok (Ya5.p k) mix tyok Tryz.func112 (Y5.ok k) Kr (λa0 a1=>Ks)
noncomputable def Ybp.g {β:Type} (k:Nat) (aB:Int) (aA:BA) (aC aD aE aP:Int) (aO:BA) (aR aS aT:Int) (K:Int->Option β):Option β:=
 bd1 (Ya7.t k aB aP) (λy3=>bif((y3:Int)!=0) then(K y3) else(bd1 (Ya5.t k aA aO) (λy4=>K y4)))
noncomputable def Ybp.t (k:Nat) (aB:Int) (aA:BA) (aC aD aE aP:Int) (aO:BA) (aR aS aT:Int):=Ybp.g k aB aA aC aD aE aP aO aR aS aT (λz0=>some z0)
noncomputable def Ybp.e (k:Nat):Za0:=ent [.agg [.n,.s,.n,.n,.n],.agg [.n,.s,.n,.n,.n]] [1] [.n] [3] false (Ybp.t k)
noncomputable def Ybp.p (k:Nat):Pro:=⟨Tryz.prog,[(111,Ya7.e k),(112,Ya5.e k)],hints [] false [],k⟩
theorem Ybp.ok (k:Nat):Zas Tryz.prog 73 (Ybp.e k):=ent_ok (Ybp.p k) mix tyok Tryz.func73 ⟨Ya7.ok k,Ya5.ok k⟩ Kr (λaB aA aC aD aE aP aO aR aS aT=>Ks)
noncomputable def YaF.l0 {β:Type} (k:Nat) (aF:LD) (aG aI aL aM:Int) (aN aQ aU aV:LD) (K:Bool->Option β) (L0:Int->Option β) (v:Int):Option β:=
 match v with
 |aH=>bif(decide ((aH:Int)<aG)) then(atR aF aH [.n,.s,.n,.n,.n] λx106 x109 x112 x115 x118=>(bd1 (Yax.t k x112) (λy119=>bif(!y119) then(K false) else(bif(!(((x112:Int)==0)==(decide ((x118:Int)>0)))) then(K false) else(bd1 (Yax.t k x115) (λy120=>bif(!y120) then(K false) else(bd1 (YX.t k x118 0 aI) (λy121=>bif(!y121) then(K false) else(bd1 (Yb3.t k aI aL aM aN aQ aU aV x106) (λy122=>bif(decide ((y122:Int)<0)) then(K false) else(bd1 (YbU.t k aI aL aM aN aQ aU aV x109) (λy123=>bif(decide ((y123:Int)<0)) then(K false) else(bif(decide ((aH:Int)>0)) then(atR aU (IntKind.wrap .i64 (aH-1)) [.n,.s,.n,.n,.n] λx127 x130 x133 x136 x139=>(bd1 (Ybp.t k x127 x130 x133 x136 x139 x106 x109 x112 x115 x118) (λy140=>bif(decide ((y140:Int)>=0)) then(K false) else(L0 (IntKind.wrap .i64 (aH+1)))))) else(L0 (IntKind.wrap .i64 (aH+1)))))))))))))))) else(K true)
noncomputable def YaF.m {β:Type} (k:Nat) (aB aA aC:Int) (aD aE aJ aK:LD) (K:Bool->Option β) (F:(LD->Int->Int->Int->Int->LD->LD->LD->LD->Int->Option β)):Option β:=
 F aJ (aJ.length:Int) aB aA aC aD aE aJ aK (0)
noncomputable def YaF.g {β:Type} (k:Nat) (aB aA aC:Int) (aD aE aJ aK:LD) (K:Bool->Option β):Option β:=
 Za1 (YaF.l0 k aJ (aJ.length:Int) aB aA aC aD aE aJ aK K) k (0)
noncomputable def YaF.t (k:Nat) (aB aA aC:Int) (aD aE aJ aK:LD):=YaF.g k aB aA aC aD aE aJ aK (λz0=>some z0)
noncomputable def YaF.e (k:Nat):Za0:=ent [.agg [.n,.n,.n,.l,.l,.l,.l]] [1] [.b] [4] false (YaF.t k)
noncomputable def YaF.p (k:Nat):Pro:=⟨Tryz.prog,[(71,Yax.e k),(30,YX.e k),(41,Yb3.e k),(72,YbU.e k),(73,Ybp.e k)],hints [(2,kp [1,6,7,8])] false [],k⟩
theorem YaF.l0_eq (k:Nat) (aB aA aC:Int) (aD aE aJ aK aF:LD) (aG aI aL aM:Int) (aN aQ aU aV:LD):LpEq ((YaF.p k).lf Tryz.f34 2 [1,0,1,0] [.agg [.int .i64 aB,.int .i64 aA,.int .i64 aC,.sl aD,.sl aE,.sl aJ,.sl aK]] [1] [.b]) (YaF.l0 k aF aG aI aL aM aN aQ aU aV (λz0=>some z0)) (λaH=>mkSt 70 [(1,.bp 0 0),(6,.d false (.sl aF)),(7,.d true (.int .i64 aG)),(8,.d true (.int .i64 aH))] [.box none 34 [.d false (.int .i64 aI),.d false (.int .i64 aL),.d false (.int .i64 aM),.d false (.sl aN),.d false (.sl aQ),.d false (.sl aU),.d false (.sl aV)]]):=lf_eq λL0 v=>by kernel_rfl
theorem YaF.ok (k:Nat):Zas Tryz.prog 34 (YaF.e k):=ent_ok (YaF.p k) mix tyok Tryz.func34 ⟨Yax.ok k,YX.ok k,Yb3.ok k,YbU.ok k,Ybp.ok k⟩ Kr (λaB aA aC aD aE aJ aK=>Eq.trans Kr (congrArg (YaF.m k aB aA aC aD aE aJ aK (λz0=>some z0)) (funext λaF=>funext λaG=>funext λaI=>funext λaL=>funext λaM=>funext λaN=>funext λaQ=>funext λaU=>funext λaV=>funext λv=>YaF.l0_eq k aB aA aC aD aE aJ aK aF aG aI aL aM aN aQ aU aV k v) :))
noncomputable def YbP.g {β:Type} (k:Nat) (aB aA aC:Int) (aD aE aJ aK:LD) (K:Bool->Option β):Option β:=
 bd1 (YX.t k aB 0 1000000) (λy1=>bif y1 then(bd1 (YX.t k aA 1 1000000) (λy2=>bif y2 then(bd1 (YX.t k aC 0 1000000) (λy3=>bif y3 then(bd1 (YK.t k aK 20) (λy23=>bif y23 then(bd1 (YaR.t k aB aA aC aD aE aJ aK) (λy269=>bif y269 then(bd1 (YaD.t k aB aA aC aD aE aJ aK) (λy270=>bif y270 then(bd1 (YaF.t k aB aA aC aD aE aJ aK) (λy271=>K y271)) else(K false))) else(K false))) else(K false))) else(K false))) else(K false))) else(K false))
noncomputable def YbP.t (k:Nat) (aB aA aC:Int) (aD aE aJ aK:LD):=YbP.g k aB aA aC aD aE aJ aK (λz0=>some z0)
noncomputable def YbP.e (k:Nat):Za0:=ent [.agg [.n,.n,.n,.l,.l,.l,.l]] [1] [.b] [4] false (YbP.t k)
noncomputable def YbP.p (k:Nat):Pro:=⟨Tryz.prog,[(30,YX.e k),(31,YK.e k),(32,YaR.e k),(33,YaD.e k),(34,YaF.e k)],hints [] false [],k⟩
theorem YbP.ok (k:Nat):Zas Tryz.prog 8 (YbP.e k):=ent_ok (YbP.p k) mix tyok Tryz.func8 ⟨YX.ok k,YK.ok k,YaR.ok k,YaD.ok k,YaF.ok k⟩ Kr (λaB aA aC aD aE aJ aK=>Ks)
noncomputable def YE.l0 {β:Type} (k:Nat) (aF aG:LD) (K:Bool->Option β) (L0:Int->Option β) (v:Int):Option β:=
 match v with
 |aH=>bif(decide ((aH:Int)<(aF.length:Int))) then(atR aF aH [.s] λx12=>(atR aG aH [.s] λx16=>(bif(!(ZP x12 x16)) then(K false) else(L0 (IntKind.wrap .i64 (aH+1)))))) else(K true)
noncomputable def YE.m {β:Type} (k:Nat) (a0 a1:LD) (K:Bool->Option β) (F:(LD->LD->Int->Option β)):Option β:=
 bif(((a0.length:Int):Int)!=(a1.length:Int)) then(K false) else(F a0 a1 (0))
noncomputable def YE.g {β:Type} (k:Nat) (a0 a1:LD) (K:Bool->Option β):Option β:=
 bif(((a0.length:Int):Int)!=(a1.length:Int)) then(K false) else(Za1 (YE.l0 k a0 a1 K) k (0))
noncomputable def YE.t (k:Nat) (a0 a1:LD):=YE.g k a0 a1 (λz0=>some z0)
noncomputable def YE.e (k:Nat):Za0:=ent [.d .l,.d .l] [1] [.b] [4] false (YE.t k)
noncomputable def YE.p (k:Nat):Pro:=⟨Tryz.prog,[],hints [(4,kp [0,1,5])] false [],k⟩
theorem YE.l0_eq (k:Nat) (a0 a1 aF aG:LD):LpEq ((YE.p k).lf Tryz.f38 4 [1,1,0,1,0] [.d (.sl a0),.d (.sl a1)] [1] [.b]) (YE.l0 k aF aG (λz0=>some z0)) (λaH=>mkSt 26 [(0,.d false (.sl aF)),(1,.d false (.sl aG)),(5,.d true (.int .i64 aH))] []):=lf_eq λL0 v=>by kernel_rfl
theorem YE.ok (k:Nat):Zas Tryz.prog 38 (YE.e k):=ent_ok (YE.p k) mix tyok Tryz.func38 trivial Kr (λa0 a1=>Eq.trans Kr (congrArg (YE.m k a0 a1 (λz0=>some z0)) (funext λaF=>funext λaG=>funext λv=>YE.l0_eq k a0 a1 aF aG k v) :))
noncomputable def Yby.g {β:Type} (k:Nat) (aB:Int) (aA:BA) (aC:LD) (aP:Int) (aO:BA) (aR:LD) (K:Bool->Option β):Option β:=
 bif((aB:Int)!=aP) then(K false) else(bif(!(ZP aA aO)) then(K false) else(bd1 (YE.t k aC aR) (λy17=>bif(!y17) then(K false) else(K true))))
noncomputable def Yby.t (k:Nat) (aB:Int) (aA:BA) (aC:LD) (aP:Int) (aO:BA) (aR:LD):=Yby.g k aB aA aC aP aO aR (λz0=>some z0)
noncomputable def Yby.e (k:Nat):Za0:=ent [.agg [.n,.s,.l],.agg [.n,.s,.l]] [1] [.b] [4] false (Yby.t k)
noncomputable def Yby.p (k:Nat):Pro:=⟨Tryz.prog,[(38,YE.e k)],hints [] false [],k⟩
theorem Yby.ok (k:Nat):Zas Tryz.prog 168 (Yby.e k):=ent_ok (Yby.p k) mix tyok Tryz.func168 (YE.ok k) Kr (λaB aA aC aP aO aR=>Ks)
noncomputable def Yar.l0 {β:Type} (k:Nat) (aF aG:LD) (K:Bool->Option β) (L0:Int->Option β) (v:Int):Option β:=
 match v with
 |aH=>bif(decide ((aH:Int)<(aF.length:Int))) then(atR aF aH [.n,.s,.l] λx25 x28 x31=>(atR aG aH [.n,.s,.l] λx35 x38 x41=>(bd1 (Yby.t k x25 x28 x31 x35 x38 x41) (λy42=>bif(!y42) then(K false) else(L0 (IntKind.wrap .i64 (aH+1))))))) else(K true)
noncomputable def Yar.m {β:Type} (k:Nat) (a0 a1:LD) (K:Bool->Option β) (F:(LD->LD->Int->Option β)):Option β:=
 bif(((a0.length:Int):Int)!=(a1.length:Int)) then(K false) else(F a0 a1 (0))
noncomputable def Yar.g {β:Type} (k:Nat) (a0 a1:LD) (K:Bool->Option β):Option β:=
 bif(((a0.length:Int):Int)!=(a1.length:Int)) then(K false) else(Za1 (Yar.l0 k a0 a1 K) k (0))
noncomputable def Yar.t (k:Nat) (a0 a1:LD):=Yar.g k a0 a1 (λz0=>some z0)
noncomputable def Yar.e (k:Nat):Za0:=ent [.d .l,.d .l] [1] [.b] [4] false (Yar.t k)
noncomputable def Yar.p (k:Nat):Pro:=⟨Tryz.prog,[(168,Yby.e k)],hints [(4,kp [0,1,5])] false [],k⟩
theorem Yar.l0_eq (k:Nat) (a0 a1 aF aG:LD):LpEq ((Yar.p k).lf Tryz.f142 4 [1,1,0,1,0] [.d (.sl a0),.d (.sl a1)] [1] [.b]) (Yar.l0 k aF aG (λz0=>some z0)) (λaH=>mkSt 27 [(0,.d false (.sl aF)),(1,.d false (.sl aG)),(5,.d true (.int .i64 aH))] []):=lf_eq λL0 v=>by kernel_rfl
theorem Yar.ok (k:Nat):Zas Tryz.prog 142 (Yar.e k):=ent_ok (Yar.p k) mix tyok Tryz.func142 (Yby.ok k) Kr (λa0 a1=>Eq.trans Kr (congrArg (Yar.m k a0 a1 (λz0=>some z0)) (funext λaF=>funext λaG=>funext λv=>Yar.l0_eq k a0 a1 aF aG k v) :))
noncomputable def Ybg.g {β:Type} (k:Nat) (aB:BA) (aA:Int) (aP:BA) (aO:Int) (K:Bool->Option β):Option β:=
 bif(!(ZP aB aP)) then(K false) else(bif((aA:Int)!=aO) then(K false) else(K true))
noncomputable def Ybg.t (k:Nat) (aB:BA) (aA:Int) (aP:BA) (aO:Int):=Ybg.g k aB aA aP aO (λz0=>some z0)
noncomputable def Ybg.e (k:Nat):Za0:=ent [.agg [.s,.n],.agg [.s,.n]] [1] [.b] [4] false (Ybg.t k)
noncomputable def Ybg.p (k:Nat):Pro:=⟨Tryz.prog,[],hints [] false [],k⟩
theorem Ybg.ok (k:Nat):Zas Tryz.prog 169 (Ybg.e k):=ent_ok (Ybg.p k) mix tyok Tryz.func169 trivial Kr (λaB aA aP aO=>Ks)
noncomputable def Yab.l0 {β:Type} (k:Nat) (aF aG:LD) (K:Bool->Option β) (L0:Int->Option β) (v:Int):Option β:=
 match v with
 |aH=>bif(decide ((aH:Int)<(aF.length:Int))) then(atR aF aH [.s,.n] λx19 x22=>(atR aG aH [.s,.n] λx26 x29=>(bd1 (Ybg.t k x19 x22 x26 x29) (λy30=>bif(!y30) then(K false) else(L0 (IntKind.wrap .i64 (aH+1))))))) else(K true)
noncomputable def Yab.m {β:Type} (k:Nat) (a0 a1:LD) (K:Bool->Option β) (F:(LD->LD->Int->Option β)):Option β:=
 bif(((a0.length:Int):Int)!=(a1.length:Int)) then(K false) else(F a0 a1 (0))
noncomputable def Yab.g {β:Type} (k:Nat) (a0 a1:LD) (K:Bool->Option β):Option β:=
 bif(((a0.length:Int):Int)!=(a1.length:Int)) then(K false) else(Za1 (Yab.l0 k a0 a1 K) k (0))
noncomputable def Yab.t (k:Nat) (a0 a1:LD):=Yab.g k a0 a1 (λz0=>some z0)
noncomputable def Yab.e (k:Nat):Za0:=ent [.d .l,.d .l] [1] [.b] [4] false (Yab.t k)
noncomputable def Yab.p (k:Nat):Pro:=⟨Tryz.prog,[(169,Ybg.e k)],hints [(4,kp [0,1,5])] false [],k⟩
theorem Yab.l0_eq (k:Nat) (a0 a1 aF aG:LD):LpEq ((Yab.p k).lf Tryz.f143 4 [1,1,0,1,0] [.d (.sl a0),.d (.sl a1)] [1] [.b]) (Yab.l0 k aF aG (λz0=>some z0)) (λaH=>mkSt 27 [(0,.d false (.sl aF)),(1,.d false (.sl aG)),(5,.d true (.int .i64 aH))] []):=lf_eq λL0 v=>by kernel_rfl
theorem Yab.ok (k:Nat):Zas Tryz.prog 143 (Yab.e k):=ent_ok (Yab.p k) mix tyok Tryz.func143 (Ybg.ok k) Kr (λa0 a1=>Eq.trans Kr (congrArg (Yab.m k a0 a1 (λz0=>some z0)) (funext λaF=>funext λaG=>funext λv=>Yab.l0_eq k a0 a1 aF aG k v) :))
noncomputable def YbG.g {β:Type} (k:Nat) (aB:Int) (aA aC aD:LD) (aP:Int) (aO aR aS:LD) (K:Bool->Option β):Option β:=
 bif((aB:Int)!=aP) then(K false) else(bd1 (Yar.t k aA aO) (λy43=>bif(!y43) then(K false) else(bd1 (YE.t k aC aR) (λy44=>bif(!y44) then(K false) else(bd1 (Yab.t k aD aS) (λy45=>bif(!y45) then(K false) else(K true)))))))
noncomputable def YbG.t (k:Nat) (aB:Int) (aA aC aD:LD) (aP:Int) (aO aR aS:LD):=YbG.g k aB aA aC aD aP aO aR aS (λz0=>some z0)
noncomputable def YbG.e (k:Nat):Za0:=ent [.agg [.n,.l,.l,.l],.agg [.n,.l,.l,.l]] [1] [.b] [4] false (YbG.t k)
noncomputable def YbG.p (k:Nat):Pro:=⟨Tryz.prog,[(142,Yar.e k),(38,YE.e k),(143,Yab.e k)],hints [] false [],k⟩
theorem YbG.ok (k:Nat):Zas Tryz.prog 113 (YbG.e k):=ent_ok (YbG.p k) mix tyok Tryz.func113 ⟨Yar.ok k,YE.ok k,Yab.ok k⟩ Kr (λaB aA aC aD aP aO aR aS=>Ks)
noncomputable def YB.l0 {β:Type} (k:Nat) (r_laws_eqValueS:LD->LD->(Bool->Option β)->Option β) (r_laws_eqValue:Int->BA->Int->LD->LD->Int->BA->Int->LD->LD->(Bool->Option β)->Option β) (aF aG:LD) (K:Bool->Option β) (L0:Int->Option β) (v:Int):Option β:=
 match v with
 |aH=>bif(decide ((aH:Int)<(aF.length:Int))) then(atR aF aH [.n,.s,.n,.l,.l] λx37 x40 x43 x46 x49=>(atR aG aH [.n,.s,.n,.l,.l] λx53 x56 x59 x62 x65=>(r_laws_eqValue x37 x40 x43 x46 x49 x53 x56 x59 x62 x65 (λy66=>bif(!y66) then(K false) else(L0 (IntKind.wrap .i64 (aH+1))))))) else(K true)
noncomputable def YB.m {β:Type} (k:Nat) (r_laws_eqValueS:LD->LD->(Bool->Option β)->Option β) (r_laws_eqValue:Int->BA->Int->LD->LD->Int->BA->Int->LD->LD->(Bool->Option β)->Option β) (a0 a1:LD) (K:Bool->Option β) (F:(LD->LD->Int->Option β)):Option β:=
 bif(((a0.length:Int):Int)!=(a1.length:Int)) then(K false) else(F a0 a1 (0))
noncomputable def YB.body {β:Type} (k:Nat) (r_laws_eqValueS:LD->LD->(Bool->Option β)->Option β) (r_laws_eqValue:Int->BA->Int->LD->LD->Int->BA->Int->LD->LD->(Bool->Option β)->Option β) (a0 a1:LD) (K:Bool->Option β):Option β:=
 bif(((a0.length:Int):Int)!=(a1.length:Int)) then(K false) else(Za1 (YB.l0 k r_laws_eqValueS r_laws_eqValue a0 a1 K) k (0))
noncomputable def YO.body {β:Type} (k:Nat) (r_laws_eqValueS:LD->LD->(Bool->Option β)->Option β) (r_laws_eqValue:Int->BA->Int->LD->LD->Int->BA->Int->LD->LD->(Bool->Option β)->Option β) (aB:Int) (aA:BA) (aC:Int) (aD aE:LD) (aP:Int) (aO:BA) (aR:Int) (aS aT:LD) (K:Bool->Option β):Option β:=
 bif((aB:Int)!=aP) then(K false) else(bif(!(ZP aA aO)) then(K false) else(bif((aC:Int)!=aR) then(K false) else(bd1 (YE.t k aD aS) (λy1=>bif(!y1) then(K false) else(r_laws_eqValueS aE aT (λy67=>bif(!y67) then(K false) else(K true)))))))
noncomputable def YB.w {β:Type} (r:LD->LD->Option (Bool)) (a0 a1:LD) (K:Bool->Option β):Option β:=bd1 (r a0 a1) K
noncomputable def YO.w {β:Type} (r:Int->BA->Int->LD->LD->Int->BA->Int->LD->LD->Option (Bool)) (aB:Int) (aA:BA) (aC:Int) (aD aE:LD) (aP:Int) (aO:BA) (aR:Int) (aS aT:LD) (K:Bool->Option β):Option β:=bd1 (r aB aA aC aD aE aP aO aR aS aT) K
noncomputable def YB.all:Nat->(LD->LD->Option (Bool))×(Int->BA->Int->LD->LD->Int->BA->Int->LD->LD->Option (Bool))
 |0=>(λ_ _=>none,λ_ _ _ _ _ _ _ _ _ _=>none)
 |k+1=>(λr=>(λa0 a1=>YB.body k (YB.w r.1) (YO.w r.2) a0 a1 (λz0=>some z0),λaB aA aC aD aE aP aO aR aS aT=>YO.body k (YB.w r.1) (YO.w r.2) aB aA aC aD aE aP aO aR aS aT (λz0=>some z0))) (YB.all k)
noncomputable def YB.t (k:Nat) (a0 a1:LD):Option (Bool):=(YB.all k).1 a0 a1
noncomputable def YO.t (k:Nat) (aB:Int) (aA:BA) (aC:Int) (aD aE:LD) (aP:Int) (aO:BA) (aR:Int) (aS aT:LD):Option (Bool):=(YB.all k).2 aB aA aC aD aE aP aO aR aS aT
noncomputable def YB.f {β:Type} (k:Nat) (a0 a1:LD) (K:Bool->Option β):Option β:=YB.w (YB.t k) a0 a1 K
noncomputable def YO.f {β:Type} (k:Nat) (aB:Int) (aA:BA) (aC:Int) (aD aE:LD) (aP:Int) (aO:BA) (aR:Int) (aS aT:LD) (K:Bool->Option β):Option β:=YO.w (YO.t k) aB aA aC aD aE aP aO aR aS aT K
noncomputable def YB.g {β:Type} (k:Nat) (a0 a1:LD) (K:Bool->Option β):Option β:=YB.body k (YB.f k) (YO.f k) a0 a1 K
theorem YB.t_succ (k:Nat) (a0 a1:LD):YB.t (k+1) a0 a1=YB.g k a0 a1 (λz0=>some z0):=rfl
noncomputable def YO.g {β:Type} (k:Nat) (aB:Int) (aA:BA) (aC:Int) (aD aE:LD) (aP:Int) (aO:BA) (aR:Int) (aS aT:LD) (K:Bool->Option β):Option β:=YO.body k (YB.f k) (YO.f k) aB aA aC aD aE aP aO aR aS aT K
theorem YO.t_succ (k:Nat) (aB:Int) (aA:BA) (aC:Int) (aD aE:LD) (aP:Int) (aO:BA) (aR:Int) (aS aT:LD):YO.t (k+1) aB aA aC aD aE aP aO aR aS aT=YO.g k aB aA aC aD aE aP aO aR aS aT (λz0=>some z0):=rfl
noncomputable def YB.e (k:Nat):Za0:=ent [.d .l,.d .l] [1] [.b] [4] false (YB.t k)
noncomputable def YO.e (k:Nat):Za0:=ent [.agg [.n,.s,.n,.l,.l],.agg [.n,.s,.n,.l,.l]] [1] [.b] [4] false (YO.t k)
noncomputable def YB.p (k:Nat):Pro:=⟨Tryz.prog,[(86,YO.e k)],hints [(4,kp [0,1,5])] false [],k⟩
theorem YB.l0_eq (k:Nat) (a0 a1 aF aG:LD):LpEq ((YB.p k).lf Tryz.f122 4 [1,1,0,1,0] [.d (.sl a0),.d (.sl a1)] [1] [.b]) (YB.l0 k (YB.f k) (YO.f k) aF aG (λz0=>some z0)) (λaH=>mkSt 27 [(0,.d false (.sl aF)),(1,.d false (.sl aG)),(5,.d true (.int .i64 aH))] []):=lf_eq λL0 v=>by kernel_rfl
noncomputable def YO.p (k:Nat):Pro:=⟨Tryz.prog,[(38,YE.e k),(122,YB.e k)],hints [] false [],k⟩
theorem YB.oks (k:Nat):Zas Tryz.prog 122 (YB.e k)/\Zas Tryz.prog 86 (YO.e k):=by
 induction k with
 |zero=>exact⟨ent_zero Tryz.func122 Kr (λ_ _=>rfl),
  ent_zero Tryz.func86 Kr (λ_ _ _ _ _ _ _ _ _ _=>rfl)⟩
 |succ k ih=>exact⟨ent_ok (YB.p k) mix tyok Tryz.func122 ih.2 Kr (λa0 a1=>Eq.trans Kr ((congrArg (YB.m k (YB.f k) (YO.f k) a0 a1 (λz0=>some z0)) (funext λaF=>funext λaG=>funext λv=>YB.l0_eq k a0 a1 aF aG k v)).trans (YB.t_succ k a0 a1).symm)),
  ent_ok (YO.p k) mix tyok Tryz.func86 ⟨YE.ok k,ih.1⟩ Kr (λaB aA aC aD aE aP aO aR aS aT=>Ks)⟩
theorem YO.ok (k:Nat):Zas Tryz.prog 86 (YO.e k):=(YB.oks k).2
noncomputable def Yb0.g {β:Type} (k:Nat) (aB:Int) (aA:LD) (aC:Int) (aD:BA) (aE:Int) (aJ aK:LD) (aP:Int) (aO:LD) (aR:Int) (aS:BA) (aT:Int) (aX aY:LD) (K:Bool->Option β):Option β:=
 bif((aB:Int)!=aP) then(K false) else(bd1 (YE.t k aA aO) (λy1=>bif(!y1) then(K false) else(YO.f k aC aD aE aJ aK aR aS aT aX aY (λy2=>bif(!y2) then(K false) else(K true)))))
noncomputable def Yb0.t (k:Nat) (aB:Int) (aA:LD) (aC:Int) (aD:BA) (aE:Int) (aJ aK:LD) (aP:Int) (aO:LD) (aR:Int) (aS:BA) (aT:Int) (aX aY:LD):=Yb0.g k aB aA aC aD aE aJ aK aP aO aR aS aT aX aY (λz0=>some z0)
noncomputable def Yb0.e (k:Nat):Za0:=ent [.agg [.n,.l,.n,.s,.n,.l,.l],.agg [.n,.l,.n,.s,.n,.l,.l]] [1] [.b] [4] false (Yb0.t k)
noncomputable def Yb0.p (k:Nat):Pro:=⟨Tryz.prog,[(38,YE.e k),(86,YO.e k)],hints [] false [],k⟩
theorem Yb0.ok (k:Nat):Zas Tryz.prog 187 (Yb0.e k):=ent_ok (Yb0.p k) mix tyok Tryz.func187 ⟨YE.ok k,YO.ok k⟩ Kr (λaB aA aC aD aE aJ aK aP aO aR aS aT aX aY=>Ks)
noncomputable def YaX.l0 {β:Type} (k:Nat) (aF aG:LD) (K:Bool->Option β) (L0:Int->Option β) (v:Int):Option β:=
 match v with
 |aH=>bif(decide ((aH:Int)<(aF.length:Int))) then(atR aF aH [.n,.l,.n,.s,.n,.l,.l] λx49 x52 x55 x58 x61 x64 x67=>(atR aG aH [.n,.l,.n,.s,.n,.l,.l] λx71 x74 x77 x80 x83 x86 x89=>(bd1 (Yb0.t k x49 x52 x55 x58 x61 x64 x67 x71 x74 x77 x80 x83 x86 x89) (λy90=>bif(!y90) then(K false) else(L0 (IntKind.wrap .i64 (aH+1))))))) else(K true)
noncomputable def YaX.m {β:Type} (k:Nat) (a0 a1:LD) (K:Bool->Option β) (F:(LD->LD->Int->Option β)):Option β:=
 bif(((a0.length:Int):Int)!=(a1.length:Int)) then(K false) else(F a0 a1 (0))
noncomputable def YaX.g {β:Type} (k:Nat) (a0 a1:LD) (K:Bool->Option β):Option β:=
 bif(((a0.length:Int):Int)!=(a1.length:Int)) then(K false) else(Za1 (YaX.l0 k a0 a1 K) k (0))
noncomputable def YaX.t (k:Nat) (a0 a1:LD):=YaX.g k a0 a1 (λz0=>some z0)
noncomputable def YaX.e (k:Nat):Za0:=ent [.d .l,.d .l] [1] [.b] [4] false (YaX.t k)
noncomputable def YaX.p (k:Nat):Pro:=⟨Tryz.prog,[(187,Yb0.e k)],hints [(4,kp [0,1,5])] false [],k⟩
theorem YaX.l0_eq (k:Nat) (a0 a1 aF aG:LD):LpEq ((YaX.p k).lf Tryz.f170 4 [1,1,0,1,0] [.d (.sl a0),.d (.sl a1)] [1] [.b]) (YaX.l0 k aF aG (λz0=>some z0)) (λaH=>mkSt 27 [(0,.d false (.sl aF)),(1,.d false (.sl aG)),(5,.d true (.int .i64 aH))] []):=lf_eq λL0 v=>by kernel_rfl
theorem YaX.ok (k:Nat):Zas Tryz.prog 170 (YaX.e k):=ent_ok (YaX.p k) mix tyok Tryz.func170 (Yb0.ok k) Kr (λa0 a1=>Eq.trans Kr (congrArg (YaX.m k a0 a1 (λz0=>some z0)) (funext λaF=>funext λaG=>funext λv=>YaX.l0_eq k a0 a1 aF aG k v) :))
noncomputable def YbA.g {β:Type} (k:Nat) (aB:BA) (aA:LD) (aP:BA) (aO:LD) (K:Bool->Option β):Option β:=
 bif(!(ZP aB aP)) then(K false) else(bd1 (YaX.t k aA aO) (λy91=>bif(!y91) then(K false) else(K true)))
noncomputable def YbA.t (k:Nat) (aB:BA) (aA:LD) (aP:BA) (aO:LD):=YbA.g k aB aA aP aO (λz0=>some z0)
noncomputable def YbA.e (k:Nat):Za0:=ent [.agg [.s,.l],.agg [.s,.l]] [1] [.b] [4] false (YbA.t k)
noncomputable def YbA.p (k:Nat):Pro:=⟨Tryz.prog,[(170,YaX.e k)],hints [] false [],k⟩
theorem YbA.ok (k:Nat):Zas Tryz.prog 144 (YbA.e k):=ent_ok (YbA.p k) mix tyok Tryz.func144 (YaX.ok k) Kr (λaB aA aP aO=>Ks)
noncomputable def Yat.l0 {β:Type} (k:Nat) (aF aG:LD) (K:Bool->Option β) (L0:Int->Option β) (v:Int):Option β:=
 match v with
 |aH=>bif(decide ((aH:Int)<(aF.length:Int))) then(atR aF aH [.s,.l] λx96 x99=>(atR aG aH [.s,.l] λx103 x106=>(bd1 (YbA.t k x96 x99 x103 x106) (λy107=>bif(!y107) then(K false) else(L0 (IntKind.wrap .i64 (aH+1))))))) else(K true)
noncomputable def Yat.m {β:Type} (k:Nat) (a0 a1:LD) (K:Bool->Option β) (F:(LD->LD->Int->Option β)):Option β:=
 bif(((a0.length:Int):Int)!=(a1.length:Int)) then(K false) else(F a0 a1 (0))
noncomputable def Yat.g {β:Type} (k:Nat) (a0 a1:LD) (K:Bool->Option β):Option β:=
 bif(((a0.length:Int):Int)!=(a1.length:Int)) then(K false) else(Za1 (Yat.l0 k a0 a1 K) k (0))
noncomputable def Yat.t (k:Nat) (a0 a1:LD):=Yat.g k a0 a1 (λz0=>some z0)
noncomputable def Yat.e (k:Nat):Za0:=ent [.d .l,.d .l] [1] [.b] [4] false (Yat.t k)
noncomputable def Yat.p (k:Nat):Pro:=⟨Tryz.prog,[(144,YbA.e k)],hints [(4,kp [0,1,5])] false [],k⟩
theorem Yat.l0_eq (k:Nat) (a0 a1 aF aG:LD):LpEq ((Yat.p k).lf Tryz.f114 4 [1,1,0,1,0] [.d (.sl a0),.d (.sl a1)] [1] [.b]) (Yat.l0 k aF aG (λz0=>some z0)) (λaH=>mkSt 27 [(0,.d false (.sl aF)),(1,.d false (.sl aG)),(5,.d true (.int .i64 aH))] []):=lf_eq λL0 v=>by kernel_rfl
theorem Yat.ok (k:Nat):Zas Tryz.prog 114 (Yat.e k):=ent_ok (Yat.p k) mix tyok Tryz.func114 (YbA.ok k) Kr (λa0 a1=>Eq.trans Kr (congrArg (Yat.m k a0 a1 (λz0=>some z0)) (funext λaF=>funext λaG=>funext λv=>Yat.l0_eq k a0 a1 aF aG k v) :))
noncomputable def YbN.g {β:Type} (k:Nat) (aB:Int) (aA:BA) (aC:Int) (aD aE aJ:LD) (aK:Int) (bI:BA) (bJ:Int) (bF bG bH:LD) (bK:Bool) (aP:Int) (aO:BA) (aR:Int) (aS aT aX:LD) (aY:Int) (a1_7:BA) (a1_8:Int) (a1_9 a1_10 a1_11:LD) (a1_12:Bool) (K:Bool->Option β):Option β:=
 bif((aB:Int)!=aP) then(K false) else(bif(!(ZP aA aO)) then(K false) else(bd1 (YbG.t k aC aD aE aJ aR aS aT aX) (λy46=>bif(!y46) then(K false) else(YO.f k aK bI bJ bF bG aY a1_7 a1_8 a1_9 a1_10 (λy68=>bif(!y68) then(K false) else(bd1 (Yat.t k bH a1_11) (λy108=>bif(!y108) then(K false) else(bif(!(bK==a1_12)) then(K false) else(K true)))))))))
noncomputable def YbN.t (k:Nat) (aB:Int) (aA:BA) (aC:Int) (aD aE aJ:LD) (aK:Int) (bI:BA) (bJ:Int) (bF bG bH:LD) (bK:Bool) (aP:Int) (aO:BA) (aR:Int) (aS aT aX:LD) (aY:Int) (a1_7:BA) (a1_8:Int) (a1_9 a1_10 a1_11:LD) (a1_12:Bool):=YbN.g k aB aA aC aD aE aJ aK bI bJ bF bG bH bK aP aO aR aS aT aX aY a1_7 a1_8 a1_9 a1_10 a1_11 a1_12 (λz0=>some z0)
noncomputable def YbN.e (k:Nat):Za0:=ent [.agg [.n,.s,.n,.l,.l,.l,.n,.s,.n,.l,.l,.l,.b],.agg [.n,.s,.n,.l,.l,.l,.n,.s,.n,.l,.l,.l,.b]] [1] [.b] [4] false (YbN.t k)
noncomputable def YbN.p (k:Nat):Pro:=⟨Tryz.prog,[(113,YbG.e k),(86,YO.e k),(114,Yat.e k)],hints [] false [],k⟩
theorem YbN.ok (k:Nat):Zas Tryz.prog 74 (YbN.e k):=ent_ok (YbN.p k) mix tyok Tryz.func74 ⟨YbG.ok k,YO.ok k,Yat.ok k⟩ Kr (λaB aA aC aD aE aJ aK bI bJ bF bG bH bK aP aO aR aS aT aX aY a1_7 a1_8 a1_9 a1_10 a1_11 a1_12=>Ks)
noncomputable def YaJ.l0 {β:Type} (k:Nat) (aF aG:LD) (K:Bool->Option β) (L0:Int->Option β) (v:Int):Option β:=
 match v with
 |aH=>bif(decide ((aH:Int)<(aF.length:Int))) then(atR aF aH [.n,.s,.n,.l,.l,.l,.n,.s,.n,.l,.l,.l,.b] λx113 x116 x119 x122 x125 x128 x131 x134 x137 x140 x143 x146 x149=>(atR aG aH [.n,.s,.n,.l,.l,.l,.n,.s,.n,.l,.l,.l,.b] λx153 x156 x159 x162 x165 x168 x171 x174 x177 x180 x183 x186 x189=>(bd1 (YbN.t k x113 x116 x119 x122 x125 x128 x131 x134 x137 x140 x143 x146 x149 x153 x156 x159 x162 x165 x168 x171 x174 x177 x180 x183 x186 x189) (λy190=>bif(!y190) then(K false) else(L0 (IntKind.wrap .i64 (aH+1))))))) else(K true)
noncomputable def YaJ.m {β:Type} (k:Nat) (a0 a1:LD) (K:Bool->Option β) (F:(LD->LD->Int->Option β)):Option β:=
 bif(((a0.length:Int):Int)!=(a1.length:Int)) then(K false) else(F a0 a1 (0))
noncomputable def YaJ.g {β:Type} (k:Nat) (a0 a1:LD) (K:Bool->Option β):Option β:=
 bif(((a0.length:Int):Int)!=(a1.length:Int)) then(K false) else(Za1 (YaJ.l0 k a0 a1 K) k (0))
noncomputable def YaJ.t (k:Nat) (a0 a1:LD):=YaJ.g k a0 a1 (λz0=>some z0)
noncomputable def YaJ.e (k:Nat):Za0:=ent [.d .l,.d .l] [1] [.b] [4] false (YaJ.t k)
noncomputable def YaJ.p (k:Nat):Pro:=⟨Tryz.prog,[(74,YbN.e k)],hints [(4,kp [0,1,5])] false [],k⟩
theorem YaJ.l0_eq (k:Nat) (a0 a1 aF aG:LD):LpEq ((YaJ.p k).lf Tryz.f35 4 [1,1,0,1,0] [.d (.sl a0),.d (.sl a1)] [1] [.b]) (YaJ.l0 k aF aG (λz0=>some z0)) (λaH=>mkSt 27 [(0,.d false (.sl aF)),(1,.d false (.sl aG)),(5,.d true (.int .i64 aH))] []):=lf_eq λL0 v=>by kernel_rfl
theorem YaJ.ok (k:Nat):Zas Tryz.prog 35 (YaJ.e k):=ent_ok (YaJ.p k) mix tyok Tryz.func35 (YbN.ok k) Kr (λa0 a1=>Eq.trans Kr (congrArg (YaJ.m k a0 a1 (λz0=>some z0)) (funext λaF=>funext λaG=>funext λv=>YaJ.l0_eq k a0 a1 aF aG k v) :))
noncomputable def Ybh.g {β:Type} (k:Nat) (aB aA aP aO:BA) (K:Bool->Option β):Option β:=
 bif(!(ZP aB aP)) then(K false) else(bif(!(ZP aA aO)) then(K false) else(K true))
noncomputable def Ybh.t (k:Nat) (aB aA aP aO:BA):=Ybh.g k aB aA aP aO (λz0=>some z0)
noncomputable def Ybh.e (k:Nat):Za0:=ent [.agg [.s,.s],.agg [.s,.s]] [1] [.b] [4] false (Ybh.t k)
noncomputable def Ybh.p (k:Nat):Pro:=⟨Tryz.prog,[],hints [] false [],k⟩
theorem Ybh.ok (k:Nat):Zas Tryz.prog 171 (Ybh.e k):=ent_ok (Ybh.p k) mix tyok Tryz.func171 trivial Kr (λaB aA aP aO=>Ks)
noncomputable def Yac.l0 {β:Type} (k:Nat) (aF aG:LD) (K:Bool->Option β) (L0:Int->Option β) (v:Int):Option β:=
 match v with
 |aH=>bif(decide ((aH:Int)<(aF.length:Int))) then(atR aF aH [.s,.s] λx19 x22=>(atR aG aH [.s,.s] λx26 x29=>(bd1 (Ybh.t k x19 x22 x26 x29) (λy30=>bif(!y30) then(K false) else(L0 (IntKind.wrap .i64 (aH+1))))))) else(K true)
noncomputable def Yac.m {β:Type} (k:Nat) (a0 a1:LD) (K:Bool->Option β) (F:(LD->LD->Int->Option β)):Option β:=
 bif(((a0.length:Int):Int)!=(a1.length:Int)) then(K false) else(F a0 a1 (0))
noncomputable def Yac.g {β:Type} (k:Nat) (a0 a1:LD) (K:Bool->Option β):Option β:=
 bif(((a0.length:Int):Int)!=(a1.length:Int)) then(K false) else(Za1 (Yac.l0 k a0 a1 K) k (0))
noncomputable def Yac.t (k:Nat) (a0 a1:LD):=Yac.g k a0 a1 (λz0=>some z0)
noncomputable def Yac.e (k:Nat):Za0:=ent [.d .l,.d .l] [1] [.b] [4] false (Yac.t k)
noncomputable def Yac.p (k:Nat):Pro:=⟨Tryz.prog,[(171,Ybh.e k)],hints [(4,kp [0,1,5])] false [],k⟩
theorem Yac.l0_eq (k:Nat) (a0 a1 aF aG:LD):LpEq ((Yac.p k).lf Tryz.f145 4 [1,1,0,1,0] [.d (.sl a0),.d (.sl a1)] [1] [.b]) (Yac.l0 k aF aG (λz0=>some z0)) (λaH=>mkSt 27 [(0,.d false (.sl aF)),(1,.d false (.sl aG)),(5,.d true (.int .i64 aH))] []):=lf_eq λL0 v=>by kernel_rfl
theorem Yac.ok (k:Nat):Zas Tryz.prog 145 (Yac.e k):=ent_ok (Yac.p k) mix tyok Tryz.func145 (Ybh.ok k) Kr (λa0 a1=>Eq.trans Kr (congrArg (Yac.m k a0 a1 (λz0=>some z0)) (funext λaF=>funext λaG=>funext λv=>Yac.l0_eq k a0 a1 aF aG k v) :))
noncomputable def Ybb.g {β:Type} (k:Nat) (aB:BA) (aA aC:LD) (aD:Int) (aP:BA) (aO aR:LD) (aS:Int) (K:Bool->Option β):Option β:=
 bif(!(ZP aB aP)) then(K false) else(bd1 (Yac.t k aA aO) (λy31=>bif(!y31) then(K false) else(bd1 (YE.t k aC aR) (λy32=>bif(!y32) then(K false) else(bif((aD:Int)!=aS) then(K false) else(K true))))))
noncomputable def Ybb.t (k:Nat) (aB:BA) (aA aC:LD) (aD:Int) (aP:BA) (aO aR:LD) (aS:Int):=Ybb.g k aB aA aC aD aP aO aR aS (λz0=>some z0)
noncomputable def Ybb.e (k:Nat):Za0:=ent [.agg [.s,.l,.l,.n],.agg [.s,.l,.l,.n]] [1] [.b] [4] false (Ybb.t k)
noncomputable def Ybb.p (k:Nat):Pro:=⟨Tryz.prog,[(145,Yac.e k),(38,YE.e k)],hints [] false [],k⟩
theorem Ybb.ok (k:Nat):Zas Tryz.prog 115 (Ybb.e k):=ent_ok (Ybb.p k) mix tyok Tryz.func115 ⟨Yac.ok k,YE.ok k⟩ Kr (λaB aA aC aD aP aO aR aS=>Ks)
noncomputable def Ybz.g {β:Type} (k:Nat) (aB:BA) (aA aC:LD) (aD aE aJ:Int) (aP:BA) (aO aR:LD) (aS aT aX:Int) (K:Bool->Option β):Option β:=
 bd1 (Ybb.t k aB aA aC aD aP aO aR aS) (λy33=>bif(!y33) then(K false) else(bif((aE:Int)!=aT) then(K false) else(bif((aJ:Int)!=aX) then(K false) else(K true))))
noncomputable def Ybz.t (k:Nat) (aB:BA) (aA aC:LD) (aD aE aJ:Int) (aP:BA) (aO aR:LD) (aS aT aX:Int):=Ybz.g k aB aA aC aD aE aJ aP aO aR aS aT aX (λz0=>some z0)
noncomputable def Ybz.e (k:Nat):Za0:=ent [.agg [.s,.l,.l,.n,.n,.n],.agg [.s,.l,.l,.n,.n,.n]] [1] [.b] [4] false (Ybz.t k)
noncomputable def Ybz.p (k:Nat):Pro:=⟨Tryz.prog,[(115,Ybb.e k)],hints [] false [],k⟩
theorem Ybz.ok (k:Nat):Zas Tryz.prog 75 (Ybz.e k):=ent_ok (Ybz.p k) mix tyok Tryz.func75 (Ybb.ok k) Kr (λaB aA aC aD aE aJ aP aO aR aS aT aX=>Ks)
noncomputable def Yas.l0 {β:Type} (k:Nat) (aF aG:LD) (K:Bool->Option β) (L0:Int->Option β) (v:Int):Option β:=
 match v with
 |aH=>bif(decide ((aH:Int)<(aF.length:Int))) then(atR aF aH [.s,.l,.l,.n,.n,.n] λx43 x46 x49 x52 x55 x58=>(atR aG aH [.s,.l,.l,.n,.n,.n] λx62 x65 x68 x71 x74 x77=>(bd1 (Ybz.t k x43 x46 x49 x52 x55 x58 x62 x65 x68 x71 x74 x77) (λy78=>bif(!y78) then(K false) else(L0 (IntKind.wrap .i64 (aH+1))))))) else(K true)
noncomputable def Yas.m {β:Type} (k:Nat) (a0 a1:LD) (K:Bool->Option β) (F:(LD->LD->Int->Option β)):Option β:=
 bif(((a0.length:Int):Int)!=(a1.length:Int)) then(K false) else(F a0 a1 (0))
noncomputable def Yas.g {β:Type} (k:Nat) (a0 a1:LD) (K:Bool->Option β):Option β:=
 bif(((a0.length:Int):Int)!=(a1.length:Int)) then(K false) else(Za1 (Yas.l0 k a0 a1 K) k (0))
noncomputable def Yas.t (k:Nat) (a0 a1:LD):=Yas.g k a0 a1 (λz0=>some z0)
noncomputable def Yas.e (k:Nat):Za0:=ent [.d .l,.d .l] [1] [.b] [4] false (Yas.t k)
noncomputable def Yas.p (k:Nat):Pro:=⟨Tryz.prog,[(75,Ybz.e k)],hints [(4,kp [0,1,5])] false [],k⟩
theorem Yas.l0_eq (k:Nat) (a0 a1 aF aG:LD):LpEq ((Yas.p k).lf Tryz.f36 4 [1,1,0,1,0] [.d (.sl a0),.d (.sl a1)] [1] [.b]) (Yas.l0 k aF aG (λz0=>some z0)) (λaH=>mkSt 27 [(0,.d false (.sl aF)),(1,.d false (.sl aG)),(5,.d true (.int .i64 aH))] []):=lf_eq λL0 v=>by kernel_rfl
theorem Yas.ok (k:Nat):Zas Tryz.prog 36 (Yas.e k):=ent_ok (Yas.p k) mix tyok Tryz.func36 (Ybz.ok k) Kr (λa0 a1=>Eq.trans Kr (congrArg (Yas.m k a0 a1 (λz0=>some z0)) (funext λaF=>funext λaG=>funext λv=>Yas.l0_eq k a0 a1 aF aG k v) :))
noncomputable def YbB.g {β:Type} (k:Nat) (aB:Int) (aA:BA) (aC aD aE aP:Int) (aO:BA) (aR aS aT:Int) (K:Bool->Option β):Option β:=
 bif((aB:Int)!=aP) then(K false) else(bif(!(ZP aA aO)) then(K false) else(bif((aC:Int)!=aR) then(K false) else(bif((aD:Int)!=aS) then(K false) else(bif((aE:Int)!=aT) then(K false) else(K true)))))
noncomputable def YbB.t (k:Nat) (aB:Int) (aA:BA) (aC aD aE aP:Int) (aO:BA) (aR aS aT:Int):=YbB.g k aB aA aC aD aE aP aO aR aS aT (λz0=>some z0)
noncomputable def YbB.e (k:Nat):Za0:=ent [.agg [.n,.s,.n,.n,.n],.agg [.n,.s,.n,.n,.n]] [1] [.b] [4] false (YbB.t k)
noncomputable def YbB.p (k:Nat):Pro:=⟨Tryz.prog,[],hints [] false [],k⟩
theorem YbB.ok (k:Nat):Zas Tryz.prog 76 (YbB.e k):=ent_ok (YbB.p k) mix tyok Tryz.func76 trivial Kr (λaB aA aC aD aE aP aO aR aS aT=>Ks)
noncomputable def Yau.l0 {β:Type} (k:Nat) (aF aG:LD) (K:Bool->Option β) (L0:Int->Option β) (v:Int):Option β:=
 match v with
 |aH=>bif(decide ((aH:Int)<(aF.length:Int))) then(atR aF aH [.n,.s,.n,.n,.n] λx37 x40 x43 x46 x49=>(atR aG aH [.n,.s,.n,.n,.n] λx53 x56 x59 x62 x65=>(bd1 (YbB.t k x37 x40 x43 x46 x49 x53 x56 x59 x62 x65) (λy66=>bif(!y66) then(K false) else(L0 (IntKind.wrap .i64 (aH+1))))))) else(K true)
noncomputable def Yau.m {β:Type} (k:Nat) (a0 a1:LD) (K:Bool->Option β) (F:(LD->LD->Int->Option β)):Option β:=
 bif(((a0.length:Int):Int)!=(a1.length:Int)) then(K false) else(F a0 a1 (0))
noncomputable def Yau.g {β:Type} (k:Nat) (a0 a1:LD) (K:Bool->Option β):Option β:=
 bif(((a0.length:Int):Int)!=(a1.length:Int)) then(K false) else(Za1 (Yau.l0 k a0 a1 K) k (0))
noncomputable def Yau.t (k:Nat) (a0 a1:LD):=Yau.g k a0 a1 (λz0=>some z0)
noncomputable def Yau.e (k:Nat):Za0:=ent [.d .l,.d .l] [1] [.b] [4] false (Yau.t k)
noncomputable def Yau.p (k:Nat):Pro:=⟨Tryz.prog,[(76,YbB.e k)],hints [(4,kp [0,1,5])] false [],k⟩
theorem Yau.l0_eq (k:Nat) (a0 a1 aF aG:LD):LpEq ((Yau.p k).lf Tryz.f37 4 [1,1,0,1,0] [.d (.sl a0),.d (.sl a1)] [1] [.b]) (Yau.l0 k aF aG (λz0=>some z0)) (λaH=>mkSt 27 [(0,.d false (.sl aF)),(1,.d false (.sl aG)),(5,.d true (.int .i64 aH))] []):=lf_eq λL0 v=>by kernel_rfl
theorem Yau.ok (k:Nat):Zas Tryz.prog 37 (Yau.e k):=ent_ok (Yau.p k) mix tyok Tryz.func37 (YbB.ok k) Kr (λa0 a1=>Eq.trans Kr (congrArg (Yau.m k a0 a1 (λz0=>some z0)) (funext λaF=>funext λaG=>funext λv=>Yau.l0_eq k a0 a1 aF aG k v) :))
noncomputable def YbR.g {β:Type} (k:Nat) (aB aA aC:Int) (aD aE aJ aK:LD) (aP aO aR:Int) (aS aT aX aY:LD) (K:Bool->Option β):Option β:=
 bif((aB:Int)!=aP) then(K false) else(bif((aA:Int)!=aO) then(K false) else(bif((aC:Int)!=aR) then(K false) else(bd1 (YaJ.t k aD aS) (λy191=>bif(!y191) then(K false) else(bd1 (Yas.t k aE aT) (λy192=>bif(!y192) then(K false) else(bd1 (Yau.t k aJ aX) (λy193=>bif(!y193) then(K false) else(bd1 (YE.t k aK aY) (λy194=>bif(!y194) then(K false) else(K true)))))))))))
noncomputable def YbR.t (k:Nat) (aB aA aC:Int) (aD aE aJ aK:LD) (aP aO aR:Int) (aS aT aX aY:LD):=YbR.g k aB aA aC aD aE aJ aK aP aO aR aS aT aX aY (λz0=>some z0)
noncomputable def YbR.e (k:Nat):Za0:=ent [.agg [.n,.n,.n,.l,.l,.l,.l],.agg [.n,.n,.n,.l,.l,.l,.l]] [1] [.b] [4] false (YbR.t k)
noncomputable def YbR.p (k:Nat):Pro:=⟨Tryz.prog,[(35,YaJ.e k),(36,Yas.e k),(37,Yau.e k),(38,YE.e k)],hints [] false [],k⟩
theorem YbR.ok (k:Nat):Zas Tryz.prog 9 (YbR.e k):=ent_ok (YbR.p k) mix tyok Tryz.func9 ⟨YaJ.ok k,Yas.ok k,Yau.ok k,YE.ok k⟩ Kr (λaB aA aC aD aE aJ aK aP aO aR aS aT aX aY=>Ks)
noncomputable def YaL.g {β:Type} (k:Nat) (aB aA aC:Int) (aD aE aJ aK:LD) (K:Bool->Option β):Option β:=
 bd1 (YbQ.t k aB aA aC aD aE aJ aK 1048576) (λy104=>bif(decide ((y104:Int)<0)) then(K true) else(bd7 (Ybm.t k aB aA aC aD aE aJ aK) (λy142 y143 y144 y145 y146 y147 y148=>bd1 (YaH.t k y142 y143 y144 (C.immRows y145) (C.immRows y146) (C.immRows y147) (C.immRows y148)) (λy519=>bd7 (Ybm.t k aB aA aC aD aE aJ aK) (λy520 y521 y522 y523 y524 y525 y526=>bd1 (YbP.t k y520 y521 y522 (C.immRows y523) (C.immRows y524) (C.immRows y525) (C.immRows y526)) (λy527=>bif(!(y527==y519)) then(K false) else(bd7 (Ybm.t k aB aA aC aD aE aJ aK) (λy528 y529 y530 y531 y532 y533 y534=>bd1 (YbR.t k y520 y521 y522 (C.immRows y523) (C.immRows y524) (C.immRows y525) (C.immRows y526) y528 y529 y530 (C.immRows y531) (C.immRows y532) (C.immRows y533) (C.immRows y534)) (λy535=>bif(!y535) then(K false) else(K true))))))))))
noncomputable def YaL.t (k:Nat) (aB aA aC:Int) (aD aE aJ aK:LD):=YaL.g k aB aA aC aD aE aJ aK (λz0=>some z0)
noncomputable def YaL.e (k:Nat):Za0:=ent [.agg [.n,.n,.n,.l,.l,.l,.l]] [1] [.b] [4] false (YaL.t k)
noncomputable def YaL.p (k:Nat):Pro:=⟨Tryz.prog,[(5,YbQ.e k),(7,Ybm.e k),(6,YaH.e k),(8,YbP.e k),(9,YbR.e k)],hints [] false [],k⟩
theorem YaL.ok (k:Nat):Zas Tryz.prog 3 (YaL.e k):=ent_ok (YaL.p k) mix tyok Tryz.func3 ⟨YbQ.ok k,Ybm.ok k,YaH.ok k,YbP.ok k,YbR.ok k⟩ Kr (λaB aA aC aD aE aJ aK=>Ks)
end Go.Proofs.YtnfogafklciihaaGreat
