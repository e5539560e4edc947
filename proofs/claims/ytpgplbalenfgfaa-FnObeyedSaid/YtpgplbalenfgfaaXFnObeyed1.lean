/- Printed: the functions that FnObeyed reaches,read by the evaluator,each with its contract. -/
import Derived.Test.YtpgplbalenfgfaaXFnObeyed0
import Derived.KernelRfl
set_option linter.unusedVariables false
set_option linter.unusedSimpArgs false
namespace Go.Proofs.Ytpgplbalenfgfaa
open Go Go.T Go.Proofs
noncomputable def Yd.l0 {β : Type} (k : Nat) (aD aF aJ : Int) (K : LC → Option β) (L0 : (Int × LC) → Option β) (v : Int × LC) : Option β :=
 match v with
 | (aK,aL) => bif (decide ((aK : Int) < aJ)) then (Zd ((0 : Int) ≤ (IntKind.wrap .i64 (aF + aK)) ∧ (IntKind.wrap .i64 (aF + aK)) < (aL.length : Int)) (ZaR aL (Int.toNat (IntKind.wrap .i64 (aF + aK))) fun c19 => ZaJ (c19.drop 0) fun c20 r => cD c20 fun d => dInt .i64 d fun x23 => ZaJ r fun c24 r => cD c24 fun d => dInt .i64 d fun x27 => let J1 := ((0 : Int) ≤ (IntKind.wrap .i64 (aD + aK)) ∧ (IntKind.wrap .i64 (aD + aK)) < (aL.length : Int)); Zd J1 (ZaR aL (Int.toNat (IntKind.wrap .i64 (aD + aK))) fun c28 => ZaJ (c28.drop 0) fun c29 r => cD c29 fun d => dInt .i64 d fun x32 => ZaJ r fun c33 r => cD c33 fun d => dInt .i64 d fun x36 => let J0 := (aL.modify (Int.toNat (IntKind.wrap .i64 (aD + aK))) fun c => Zs c 0 [.d (.int .i64 x23),.d (.int .i64 x27)]); Zd J1 (Zd (Int.toNat (IntKind.wrap .i64 (aD + aK)) < aL.length) (Zd ((0 : Int) ≤ (IntKind.wrap .i64 (aF + aK)) ∧ (IntKind.wrap .i64 (aF + aK)) < (J0.length : Int)) (Zd (Int.toNat (IntKind.wrap .i64 (aF + aK)) < J0.length) (L0 (IntKind.wrap .i64 (aK + 1),J0.modify (Int.toNat (IntKind.wrap .i64 (aF + aK))) fun c => Zs c 0 [.d (.int .i64 x32),.d (.int .i64 x36)])))))))) else (K aL)
noncomputable def Yd.m {β : Type} (k : Nat) (a0 : LC) (a1 a2 a3 : Int) (K : LC → Option β) (F : (Int → Int → Int → (Int × LC) → Option β)) : Option β :=
 F a1 a2 a3 (0,a0)
noncomputable def Yd.g {β : Type} (k : Nat) (a0 : LC) (a1 a2 a3 : Int) (K : LC → Option β) : Option β :=
 ZA (Yd.l0 k a1 a2 a3 K) k (0,a0)
noncomputable def Yd.t (k : Nat) (a0 : LC) (a1 a2 a3 : Int) : Option (LC) := Yd.g k a0 a1 a2 a3 (fun z0 => some z0)
noncomputable def Yd.f {β : Type} (k : Nat) (a0 : LC) (a1 a2 a3 : Int) (K : LC → Option β) : Option β := bd1 (Yd.t k a0 a1 a2 a3) K
noncomputable def Yd.e (k : Nat) : Zj := ent [.own false 55 [.o],.d .n,.d .n,.d .n,.fn 128 []] [] [.o] [] false (Yd.t k)
noncomputable def Yd.p (k : Nat) : Pro := ⟨Try.prog,[],Zv [(1,kp [0,1,2,3,10])] false [],k⟩
noncomputable def Yd.d (k : Nat) (a0 : LC) (a1 a2 a3 : Int) : Ex → St → Option (LC) := (Yd.p k).fin Try.f263 [.own false [.own a0],.d (.int .i64 a1),.d (.int .i64 a2),.d (.int .i64 a3),.d (.fn 128 [])] [] [.o]
noncomputable def Yd.s0 (aD aF aJ : Int) (v : Int × LC) : St :=
 match v with
 | (aK,aL) => ZaA 38 [(0,.row 0),(1,.d false (.int .i64 aD)),(2,.d false (.int .i64 aF)),(3,.d false (.int .i64 aJ)),(10,.d true (.int .i64 aK))] [.row (some 0) false 55 aL]
noncomputable def Yd.r0 (k : Nat) (a0 : LC) (a1 a2 a3 aD aF aJ : Int) (n : Nat) (v : Int × LC) : Option (LC) := (Yd.p k).lp (ZI Try.f263) 1 [1,0] (Yd.d k a0 a1 a2 a3) n (Yd.s0 aD aF aJ v)
theorem Yd.l0_eq (k : Nat) (a0 : LC) (a1 a2 a3 aD aF aJ : Int) : ∀ n v,Yd.r0 k a0 a1 a2 a3 aD aF aJ n v = ZA (Yd.l0 k aD aF aJ (fun z0 => some z0)) n v :=
 Zz (Yd.s0 aD aF aJ) _ fun L0 v => by obtain ⟨aK,aL⟩ := v; kernel_rfl
theorem Yd.ok (k : Nat) : Zf Try.prog 263 (Yd.e k) := Zk (Yd.p k) mix tyok Try.func263 trivial (by kernel_rfl) (fun a0 a1 a2 a3 => Eq.trans (b := Yd.m k a0 a1 a2 a3 (fun z0 => some z0) (fun aD aF aJ => Yd.r0 k a0 a1 a2 a3 aD aF aJ k)) (by kernel_rfl) (congrArg (Yd.m k a0 a1 a2 a3 (fun z0 => some z0)) (funext fun aD => funext fun aF => funext fun aJ => funext fun v => Yd.l0_eq k a0 a1 a2 a3 aD aF aJ k v) :))
noncomputable def Ye.l0 {β : Type} (k : Nat) (aD : Int) (K : LC → Option β) (L0 : (Int × Int × LC) → Option β) (v : Int × Int × LC) : Option β :=
 match v with
 | (aF,aJ,aK) => bif ((aF : Int) != aJ) then (bif (decide ((aF : Int) > aJ)) then (Yd.f k aK (IntKind.wrap .i64 (aD - aF)) aD aJ (fun y40 => Zd (y40.length = aK.length) (L0 (IntKind.wrap .i64 (aF - aJ),aJ,y40)))) else (Yd.f k aK (IntKind.wrap .i64 (aD - aF)) (IntKind.wrap .i64 ((IntKind.wrap .i64 (aD + aJ)) - aF)) aF (fun y41 => Zd (y41.length = aK.length) (L0 (aF,IntKind.wrap .i64 (aJ - aF),y41))))) else (Yd.f k aK (IntKind.wrap .i64 (aD - aF)) aD aF (fun y42 => Zd (y42.length = aK.length) (K y42)))
noncomputable def Ye.m {β : Type} (k : Nat) (a0 : LC) (a1 a2 a3 : Int) (K : LC → Option β) (F : (Int → (Int × Int × LC) → Option β)) : Option β :=
 F a2 (IntKind.wrap .i64 (a2 - a1),IntKind.wrap .i64 (a3 - a2),a0)
noncomputable def Ye.g {β : Type} (k : Nat) (a0 : LC) (a1 a2 a3 : Int) (K : LC → Option β) : Option β :=
 ZA (Ye.l0 k a2 K) k (IntKind.wrap .i64 (a2 - a1),IntKind.wrap .i64 (a3 - a2),a0)
noncomputable def Ye.t (k : Nat) (a0 : LC) (a1 a2 a3 : Int) : Option (LC) := Ye.g k a0 a1 a2 a3 (fun z0 => some z0)
noncomputable def Ye.f {β : Type} (k : Nat) (a0 : LC) (a1 a2 a3 : Int) (K : LC → Option β) : Option β := bd1 (Ye.t k a0 a1 a2 a3) K
noncomputable def Ye.e (k : Nat) : Zj := ent [.own false 55 [.o],.d .n,.d .n,.d .n,.fn 128 []] [] [.o] [] false (Ye.t k)
noncomputable def Ye.p (k : Nat) : Pro := ⟨Try.prog,[(263,Yd.e k)],Zv [(2,kp [0,2,4,10,11])] false [],k⟩
noncomputable def Ye.d (k : Nat) (a0 : LC) (a1 a2 a3 : Int) : Ex → St → Option (LC) := (Ye.p k).fin Try.f252 [.own false [.own a0],.d (.int .i64 a1),.d (.int .i64 a2),.d (.int .i64 a3),.d (.fn 128 [])] [] [.o]
noncomputable def Ye.s0 (aD : Int) (v : Int × Int × LC) : St :=
 match v with
 | (aF,aJ,aK) => ZaA 58 [(0,.row 0),(2,.d false (.int .i64 aD)),(4,.d false (.fn 128 [])),(10,.d true (.int .i64 aF)),(11,.d true (.int .i64 aJ))] [.row (some 0) false 55 aK]
noncomputable def Ye.r0 (k : Nat) (a0 : LC) (a1 a2 a3 aD : Int) (n : Nat) (v : Int × Int × LC) : Option (LC) := (Ye.p k).lp (ZI Try.f252) 2 [1,1,0,0] (Ye.d k a0 a1 a2 a3) n (Ye.s0 aD v)
theorem Ye.l0_eq (k : Nat) (a0 : LC) (a1 a2 a3 aD : Int) : ∀ n v,Ye.r0 k a0 a1 a2 a3 aD n v = ZA (Ye.l0 k aD (fun z0 => some z0)) n v :=
 Zz (Ye.s0 aD) _ fun L0 v => by obtain ⟨aF,aJ,aK⟩ := v; kernel_rfl
theorem Ye.ok (k : Nat) : Zf Try.prog 252 (Ye.e k) := Zk (Ye.p k) mix tyok Try.func252 (Yd.ok k) (by kernel_rfl) (fun a0 a1 a2 a3 => Eq.trans (b := Ye.m k a0 a1 a2 a3 (fun z0 => some z0) (fun aD => Ye.r0 k a0 a1 a2 a3 aD k)) (by kernel_rfl) (congrArg (Ye.m k a0 a1 a2 a3 (fun z0 => some z0)) (funext fun aD => funext fun v => Ye.l0_eq k a0 a1 a2 a3 aD k v) :))
set_option maxRecDepth 100000 in
noncomputable def Ya.l5 {β : Type} (k : Nat) (r_slices_symMergeCmpFunc_impl_Run__impl_Tell_1 : LC → Int → Int → Int → (LC → Option β) → Option β) (cC v5_1 bZ bX bU cL : Int) (bN : LC) (K : LC → Option β) (L5 : (Int × Int) → Option β) (v : Int × Int) : Option β :=
 match v with
 | (bL,v5_6) => bif (decide ((bL : Int) < v5_6)) then (let J2 := (Int.fdiv (IntKind.wrap .u64 (IntKind.wrap .i64 (bL + v5_6))) (2 ^ (min (1 : Int).toNat 64))); let J1 := (IntKind.wrap .i64 J2); let J0 := (IntKind.wrap .i64 (cL - J1)); Zd ((0 : Int) ≤ 1) (Zd ((0 : Int) ≤ J0 ∧ J0 < (bN.length : Int)) (ZaR bN (Int.toNat J0) fun c317 => ZaJ (c317.drop 0) fun c318 r => cD c318 fun d => dInt .i64 d fun x321 => ZaJ r fun c322 r => cD c322 fun d => dInt .i64 d fun x325 => Zd ((0 : Int) ≤ J1 ∧ J1 < (bN.length : Int)) (ZaR bN (Int.toNat J1) fun c326 => ZaJ (c326.drop 0) fun c327 r => cD c327 fun d => dInt .i64 d fun x330 => ZaJ r fun c331 r => cD c331 fun d => dInt .i64 d fun x334 => Yag.f k x321 x325 x330 x334 (fun y335 => bif (!(decide ((y335 : Int) < 0))) then (L5 (IntKind.wrap .i64 (J1 + 1),v5_6)) else (L5 (bL,IntKind.wrap .i64 J2))))))) else (bif (decide ((bL : Int) < v5_1)) then (bif (decide ((v5_1 : Int) < (IntKind.wrap .i64 (bU - bL)))) then (Ye.f k bN bL v5_1 (IntKind.wrap .i64 (bU - bL)) (fun y336 => Zd (y336.length = bN.length) (bif (decide ((cC : Int) < bL)) then (bif (decide ((bL : Int) < bX)) then (r_slices_symMergeCmpFunc_impl_Run__impl_Tell_1 y336 cC bL bX (fun y337 => Zd (y337.length = y336.length) (bif (decide ((bX : Int) < (IntKind.wrap .i64 (bU - bL)))) then (bif (decide (((IntKind.wrap .i64 (bU - bL)) : Int) < bZ)) then (r_slices_symMergeCmpFunc_impl_Run__impl_Tell_1 y337 bX (IntKind.wrap .i64 (bU - bL)) bZ (fun y338 => Zd (y338.length = y337.length) (K y338))) else (K y337)) else (K y337)))) else (bif (decide ((bX : Int) < (IntKind.wrap .i64 (bU - bL)))) then (bif (decide (((IntKind.wrap .i64 (bU - bL)) : Int) < bZ)) then (r_slices_symMergeCmpFunc_impl_Run__impl_Tell_1 y336 bX (IntKind.wrap .i64 (bU - bL)) bZ (fun y339 => Zd (y339.length = y336.length) (K y339))) else (K y336)) else (K y336))) else (bif (decide ((bX : Int) < (IntKind.wrap .i64 (bU - bL)))) then (bif (decide (((IntKind.wrap .i64 (bU - bL)) : Int) < bZ)) then (r_slices_symMergeCmpFunc_impl_Run__impl_Tell_1 y336 bX (IntKind.wrap .i64 (bU - bL)) bZ (fun y340 => Zd (y340.length = y336.length) (K y340))) else (K y336)) else (K y336))))) else (bif (decide ((cC : Int) < bL)) then (bif (decide ((bL : Int) < bX)) then (r_slices_symMergeCmpFunc_impl_Run__impl_Tell_1 bN cC bL bX (fun y341 => Zd (y341.length = bN.length) (bif (decide ((bX : Int) < (IntKind.wrap .i64 (bU - bL)))) then (bif (decide (((IntKind.wrap .i64 (bU - bL)) : Int) < bZ)) then (r_slices_symMergeCmpFunc_impl_Run__impl_Tell_1 y341 bX (IntKind.wrap .i64 (bU - bL)) bZ (fun y342 => Zd (y342.length = y341.length) (K y342))) else (K y341)) else (K y341)))) else (bif (decide ((bX : Int) < (IntKind.wrap .i64 (bU - bL)))) then (bif (decide (((IntKind.wrap .i64 (bU - bL)) : Int) < bZ)) then (r_slices_symMergeCmpFunc_impl_Run__impl_Tell_1 bN bX (IntKind.wrap .i64 (bU - bL)) bZ (fun y343 => Zd (y343.length = bN.length) (K y343))) else (K bN)) else (K bN))) else (bif (decide ((bX : Int) < (IntKind.wrap .i64 (bU - bL)))) then (bif (decide (((IntKind.wrap .i64 (bU - bL)) : Int) < bZ)) then (r_slices_symMergeCmpFunc_impl_Run__impl_Tell_1 bN bX (IntKind.wrap .i64 (bU - bL)) bZ (fun y344 => Zd (y344.length = bN.length) (K y344))) else (K bN)) else (K bN)))) else (bif (decide ((cC : Int) < bL)) then (bif (decide ((bL : Int) < bX)) then (r_slices_symMergeCmpFunc_impl_Run__impl_Tell_1 bN cC bL bX (fun y345 => Zd (y345.length = bN.length) (bif (decide ((bX : Int) < (IntKind.wrap .i64 (bU - bL)))) then (bif (decide (((IntKind.wrap .i64 (bU - bL)) : Int) < bZ)) then (r_slices_symMergeCmpFunc_impl_Run__impl_Tell_1 y345 bX (IntKind.wrap .i64 (bU - bL)) bZ (fun y346 => Zd (y346.length = y345.length) (K y346))) else (K y345)) else (K y345)))) else (bif (decide ((bX : Int) < (IntKind.wrap .i64 (bU - bL)))) then (bif (decide (((IntKind.wrap .i64 (bU - bL)) : Int) < bZ)) then (r_slices_symMergeCmpFunc_impl_Run__impl_Tell_1 bN bX (IntKind.wrap .i64 (bU - bL)) bZ (fun y347 => Zd (y347.length = bN.length) (K y347))) else (K bN)) else (K bN))) else (bif (decide ((bX : Int) < (IntKind.wrap .i64 (bU - bL)))) then (bif (decide (((IntKind.wrap .i64 (bU - bL)) : Int) < bZ)) then (r_slices_symMergeCmpFunc_impl_Run__impl_Tell_1 bN bX (IntKind.wrap .i64 (bU - bL)) bZ (fun y348 => Zd (y348.length = bN.length) (K y348))) else (K bN)) else (K bN))))
set_option maxRecDepth 100000 in
noncomputable def Ya.l4 {β : Type} (k : Nat) (r_slices_symMergeCmpFunc_impl_Run__impl_Tell_1 : LC → Int → Int → Int → (LC → Option β) → Option β) (cE v4_1 cA bY bV cM : Int) (bO : LC) (K : LC → Option β) (L4 : (Int × Int) → Option β) (v : Int × Int) : Option β :=
 match v with
 | (bM,v4_6) => bif (decide ((bM : Int) < v4_6)) then (let J2 := (Int.fdiv (IntKind.wrap .u64 (IntKind.wrap .i64 (bM + v4_6))) (2 ^ (min (1 : Int).toNat 64))); let J1 := (IntKind.wrap .i64 J2); let J0 := (IntKind.wrap .i64 (cM - J1)); Zd ((0 : Int) ≤ 1) (Zd ((0 : Int) ≤ J0 ∧ J0 < (bO.length : Int)) (ZaR bO (Int.toNat J0) fun c253 => ZaJ (c253.drop 0) fun c254 r => cD c254 fun d => dInt .i64 d fun x257 => ZaJ r fun c258 r => cD c258 fun d => dInt .i64 d fun x261 => Zd ((0 : Int) ≤ J1 ∧ J1 < (bO.length : Int)) (ZaR bO (Int.toNat J1) fun c262 => ZaJ (c262.drop 0) fun c263 r => cD c263 fun d => dInt .i64 d fun x266 => ZaJ r fun c267 r => cD c267 fun d => dInt .i64 d fun x270 => Yag.f k x257 x261 x266 x270 (fun y271 => bif (!(decide ((y271 : Int) < 0))) then (L4 (IntKind.wrap .i64 (J1 + 1),v4_6)) else (L4 (bM,IntKind.wrap .i64 J2))))))) else (bif (decide ((bM : Int) < v4_1)) then (bif (decide ((v4_1 : Int) < (IntKind.wrap .i64 (bV - bM)))) then (Ye.f k bO bM v4_1 (IntKind.wrap .i64 (bV - bM)) (fun y272 => Zd (y272.length = bO.length) (bif (decide ((cE : Int) < bM)) then (bif (decide ((bM : Int) < bY)) then (r_slices_symMergeCmpFunc_impl_Run__impl_Tell_1 y272 cE bM bY (fun y273 => Zd (y273.length = y272.length) (bif (decide ((bY : Int) < (IntKind.wrap .i64 (bV - bM)))) then (bif (decide (((IntKind.wrap .i64 (bV - bM)) : Int) < cA)) then (r_slices_symMergeCmpFunc_impl_Run__impl_Tell_1 y273 bY (IntKind.wrap .i64 (bV - bM)) cA (fun y274 => Zd (y274.length = y273.length) (K y274))) else (K y273)) else (K y273)))) else (bif (decide ((bY : Int) < (IntKind.wrap .i64 (bV - bM)))) then (bif (decide (((IntKind.wrap .i64 (bV - bM)) : Int) < cA)) then (r_slices_symMergeCmpFunc_impl_Run__impl_Tell_1 y272 bY (IntKind.wrap .i64 (bV - bM)) cA (fun y275 => Zd (y275.length = y272.length) (K y275))) else (K y272)) else (K y272))) else (bif (decide ((bY : Int) < (IntKind.wrap .i64 (bV - bM)))) then (bif (decide (((IntKind.wrap .i64 (bV - bM)) : Int) < cA)) then (r_slices_symMergeCmpFunc_impl_Run__impl_Tell_1 y272 bY (IntKind.wrap .i64 (bV - bM)) cA (fun y276 => Zd (y276.length = y272.length) (K y276))) else (K y272)) else (K y272))))) else (bif (decide ((cE : Int) < bM)) then (bif (decide ((bM : Int) < bY)) then (r_slices_symMergeCmpFunc_impl_Run__impl_Tell_1 bO cE bM bY (fun y277 => Zd (y277.length = bO.length) (bif (decide ((bY : Int) < (IntKind.wrap .i64 (bV - bM)))) then (bif (decide (((IntKind.wrap .i64 (bV - bM)) : Int) < cA)) then (r_slices_symMergeCmpFunc_impl_Run__impl_Tell_1 y277 bY (IntKind.wrap .i64 (bV - bM)) cA (fun y278 => Zd (y278.length = y277.length) (K y278))) else (K y277)) else (K y277)))) else (bif (decide ((bY : Int) < (IntKind.wrap .i64 (bV - bM)))) then (bif (decide (((IntKind.wrap .i64 (bV - bM)) : Int) < cA)) then (r_slices_symMergeCmpFunc_impl_Run__impl_Tell_1 bO bY (IntKind.wrap .i64 (bV - bM)) cA (fun y279 => Zd (y279.length = bO.length) (K y279))) else (K bO)) else (K bO))) else (bif (decide ((bY : Int) < (IntKind.wrap .i64 (bV - bM)))) then (bif (decide (((IntKind.wrap .i64 (bV - bM)) : Int) < cA)) then (r_slices_symMergeCmpFunc_impl_Run__impl_Tell_1 bO bY (IntKind.wrap .i64 (bV - bM)) cA (fun y280 => Zd (y280.length = bO.length) (K y280))) else (K bO)) else (K bO)))) else (bif (decide ((cE : Int) < bM)) then (bif (decide ((bM : Int) < bY)) then (r_slices_symMergeCmpFunc_impl_Run__impl_Tell_1 bO cE bM bY (fun y281 => Zd (y281.length = bO.length) (bif (decide ((bY : Int) < (IntKind.wrap .i64 (bV - bM)))) then (bif (decide (((IntKind.wrap .i64 (bV - bM)) : Int) < cA)) then (r_slices_symMergeCmpFunc_impl_Run__impl_Tell_1 y281 bY (IntKind.wrap .i64 (bV - bM)) cA (fun y282 => Zd (y282.length = y281.length) (K y282))) else (K y281)) else (K y281)))) else (bif (decide ((bY : Int) < (IntKind.wrap .i64 (bV - bM)))) then (bif (decide (((IntKind.wrap .i64 (bV - bM)) : Int) < cA)) then (r_slices_symMergeCmpFunc_impl_Run__impl_Tell_1 bO bY (IntKind.wrap .i64 (bV - bM)) cA (fun y283 => Zd (y283.length = bO.length) (K y283))) else (K bO)) else (K bO))) else (bif (decide ((bY : Int) < (IntKind.wrap .i64 (bV - bM)))) then (bif (decide (((IntKind.wrap .i64 (bV - bM)) : Int) < cA)) then (r_slices_symMergeCmpFunc_impl_Run__impl_Tell_1 bO bY (IntKind.wrap .i64 (bV - bM)) cA (fun y284 => Zd (y284.length = bO.length) (K y284))) else (K bO)) else (K bO))))
noncomputable def Ya.l3 {β : Type} (k : Nat) (r_slices_symMergeCmpFunc_impl_Run__impl_Tell_1 : LC → Int → Int → Int → (LC → Option β) → Option β) (cH : Int) (K : LC → Option β) (L3 : (Int × LC) → Option β) (v : Int × LC) : Option β :=
 match v with
 | (v3_1,v3_2) => bif (decide ((v3_1 : Int) > cH)) then (Zd ((0 : Int) ≤ (IntKind.wrap .i64 (v3_1 - 1)) ∧ (IntKind.wrap .i64 (v3_1 - 1)) < (v3_2.length : Int)) (ZaR v3_2 (Int.toNat (IntKind.wrap .i64 (v3_1 - 1))) fun c203 => ZaJ (c203.drop 0) fun c204 r => cD c204 fun d => dInt .i64 d fun x207 => ZaJ r fun c208 r => cD c208 fun d => dInt .i64 d fun x211 => Zd ((0 : Int) ≤ v3_1 ∧ v3_1 < (v3_2.length : Int)) (ZaR v3_2 (Int.toNat v3_1) fun c212 => ZaJ (c212.drop 0) fun c213 r => cD c213 fun d => dInt .i64 d fun x216 => ZaJ r fun c217 r => cD c217 fun d => dInt .i64 d fun x220 => let J0 := (v3_2.modify (Int.toNat v3_1) fun c => Zs c 0 [.d (.int .i64 x207),.d (.int .i64 x211)]); Zd ((0 : Int) ≤ v3_1 ∧ v3_1 < (v3_2.length : Int)) (Zd (Int.toNat v3_1 < v3_2.length) (Zd ((0 : Int) ≤ (IntKind.wrap .i64 (v3_1 - 1)) ∧ (IntKind.wrap .i64 (v3_1 - 1)) < (J0.length : Int)) (Zd (Int.toNat (IntKind.wrap .i64 (v3_1 - 1)) < J0.length) (L3 (IntKind.wrap .i64 (v3_1 - 1),J0.modify (Int.toNat (IntKind.wrap .i64 (v3_1 - 1))) fun c => Zs c 0 [.d (.int .i64 x216),.d (.int .i64 x220)])))))))) else (K v3_2)
noncomputable def Ya.m2 {β : Type} (k : Nat) (r_slices_symMergeCmpFunc_impl_Run__impl_Tell_1 : LC → Int → Int → Int → (LC → Option β) → Option β) (bG : Int) (bP : LC) (K : LC → Option β) (L2 : (Int × Int) → Option β) (v : Int × Int) (F : (Int → (Int × LC) → Option β)) : Option β :=
 match v with
 | (bR,cF) => bif (decide ((bR : Int) < cF)) then (Zd ((0 : Int) ≤ 1) (Zd ((0 : Int) ≤ bG ∧ bG < (bP.length : Int)) (ZaR bP (Int.toNat bG) fun c166 => ZaJ (c166.drop 0) fun c167 r168 => cD c167 fun d169 => dInt .i64 d169 fun x170 => ZaJ r168 fun c171 r172 => cD c171 fun d173 => dInt .i64 d173 fun x174 => let J1 := (Int.fdiv (IntKind.wrap .u64 (IntKind.wrap .i64 (bR + cF))) (2 ^ (min (1 : Int).toNat 64))); let J0 := (IntKind.wrap .i64 J1); Zd ((0 : Int) ≤ J0 ∧ J0 < (bP.length : Int)) (ZaR bP (Int.toNat J0) fun c175 => ZaJ (c175.drop 0) fun c176 r177 => cD c176 fun d178 => dInt .i64 d178 fun x179 => ZaJ r177 fun c180 r181 => cD c180 fun d182 => dInt .i64 d182 fun x183 => Yag.f k x170 x174 x179 x183 (fun y184 => bif (!(decide ((y184 : Int) < 0))) then (L2 (IntKind.wrap .i64 (J0 + 1),cF)) else (L2 (bR,IntKind.wrap .i64 J1))))))) else (F bR (bG,bP))
noncomputable def Ya.l2 {β : Type} (k : Nat) (r_slices_symMergeCmpFunc_impl_Run__impl_Tell_1 : LC → Int → Int → Int → (LC → Option β) → Option β) (bG : Int) (bP : LC) (K : LC → Option β) (L2 : (Int × Int) → Option β) (v : Int × Int) : Option β := Ya.m2 k r_slices_symMergeCmpFunc_impl_Run__impl_Tell_1 bG bP K L2 v (fun cH => ZA (Ya.l3 k r_slices_symMergeCmpFunc_impl_Run__impl_Tell_1 cH K) k)
noncomputable def Ya.l1 {β : Type} (k : Nat) (r_slices_symMergeCmpFunc_impl_Run__impl_Tell_1 : LC → Int → Int → Int → (LC → Option β) → Option β) (aU : Int) (K : LC → Option β) (L1 : (Int × LC) → Option β) (v : Int × LC) : Option β :=
 match v with
 | (aR,aX) => bif (decide ((aR : Int) < (IntKind.wrap .i64 (aU - 1)))) then (Zd ((0 : Int) ≤ (IntKind.wrap .i64 (aR + 1)) ∧ (IntKind.wrap .i64 (aR + 1)) < (aX.length : Int)) (ZaR aX (Int.toNat (IntKind.wrap .i64 (aR + 1))) fun c93 => ZaJ (c93.drop 0) fun c94 r => cD c94 fun d => dInt .i64 d fun x97 => ZaJ r fun c98 r => cD c98 fun d => dInt .i64 d fun x101 => Zd ((0 : Int) ≤ aR ∧ aR < (aX.length : Int)) (ZaR aX (Int.toNat aR) fun c102 => ZaJ (c102.drop 0) fun c103 r => cD c103 fun d => dInt .i64 d fun x106 => ZaJ r fun c107 r => cD c107 fun d => dInt .i64 d fun x110 => let J0 := (aX.modify (Int.toNat aR) fun c => Zs c 0 [.d (.int .i64 x97),.d (.int .i64 x101)]); Zd ((0 : Int) ≤ aR ∧ aR < (aX.length : Int)) (Zd (Int.toNat aR < aX.length) (Zd ((0 : Int) ≤ (IntKind.wrap .i64 (aR + 1)) ∧ (IntKind.wrap .i64 (aR + 1)) < (J0.length : Int)) (Zd (Int.toNat (IntKind.wrap .i64 (aR + 1)) < J0.length) (L1 (IntKind.wrap .i64 (aR + 1),J0.modify (Int.toNat (IntKind.wrap .i64 (aR + 1))) fun c => Zs c 0 [.d (.int .i64 x106),.d (.int .i64 x110)])))))))) else (K aX)
noncomputable def Ya.m0 {β : Type} (k : Nat) (r_slices_symMergeCmpFunc_impl_Run__impl_Tell_1 : LC → Int → Int → Int → (LC → Option β) → Option β) (aD : Int) (aK : LC) (K : LC → Option β) (L0 : (Int × Int) → Option β) (v : Int × Int) (F : (Int → (Int × LC) → Option β)) : Option β :=
 match v with
 | (aF,aJ) => bif (decide ((aF : Int) < aJ)) then (let J1 := (Int.fdiv (IntKind.wrap .u64 (IntKind.wrap .i64 (aF + aJ))) (2 ^ (min (1 : Int).toNat 64))); let J0 := (IntKind.wrap .i64 J1); Zd ((0 : Int) ≤ 1) (Zd ((0 : Int) ≤ J0 ∧ J0 < (aK.length : Int)) (ZaR aK (Int.toNat J0) fun c56 => ZaJ (c56.drop 0) fun c57 r58 => cD c57 fun d59 => dInt .i64 d59 fun x60 => ZaJ r58 fun c61 r62 => cD c61 fun d63 => dInt .i64 d63 fun x64 => Zd ((0 : Int) ≤ aD ∧ aD < (aK.length : Int)) (ZaR aK (Int.toNat aD) fun c65 => ZaJ (c65.drop 0) fun c66 r67 => cD c66 fun d68 => dInt .i64 d68 fun x69 => ZaJ r67 fun c70 r71 => cD c70 fun d72 => dInt .i64 d72 fun x73 => Yag.f k x60 x64 x69 x73 (fun y74 => bif (decide ((y74 : Int) < 0)) then (L0 (IntKind.wrap .i64 (J0 + 1),aJ)) else (L0 (aF,IntKind.wrap .i64 J1))))))) else (F aF (aD,aK))
noncomputable def Ya.l0 {β : Type} (k : Nat) (r_slices_symMergeCmpFunc_impl_Run__impl_Tell_1 : LC → Int → Int → Int → (LC → Option β) → Option β) (aD : Int) (aK : LC) (K : LC → Option β) (L0 : (Int × Int) → Option β) (v : Int × Int) : Option β := Ya.m0 k r_slices_symMergeCmpFunc_impl_Run__impl_Tell_1 aD aK K L0 v (fun aU => ZA (Ya.l1 k r_slices_symMergeCmpFunc_impl_Run__impl_Tell_1 aU K) k)
noncomputable def Ya.m {β : Type} (k : Nat) (r_slices_symMergeCmpFunc_impl_Run__impl_Tell_1 : LC → Int → Int → Int → (LC → Option β) → Option β) (a0 : LC) (a1 a2 a3 : Int) (K : LC → Option β) (F : (Int → LC → (Int × Int) → Option β) × (Int → LC → (Int × Int) → Option β) × (Int → Int → Int → Int → Int → Int → LC → (Int × Int) → Option β) × (Int → Int → Int → Int → Int → Int → LC → (Int × Int) → Option β)) : Option β :=
 bif (((IntKind.wrap .i64 (a2 - a1)) : Int) == 1) then (F.1 a1 a0 (a2,a3)) else (bif (((IntKind.wrap .i64 (a3 - a2)) : Int) == 1) then (F.2.1 a2 a0 (a1,a2)) else (let J3 := (Int.fdiv (IntKind.wrap .u64 (IntKind.wrap .i64 (a1 + a3))) (2 ^ (min (1 : Int).toNat 64))); let J2 := (IntKind.wrap .i64 J3); let J1 := (IntKind.wrap .i64 (J2 + a2)); let J0 := (IntKind.wrap .i64 (J1 - 1)); Zd ((0 : Int) ≤ 1) (bif (decide ((a2 : Int) > J2)) then (F.2.2.1 a1 a2 a3 J2 J1 J0 a0 (IntKind.wrap .i64 (J1 - a3),IntKind.wrap .i64 J3)) else (F.2.2.2 a1 a2 a3 J2 J1 J0 a0 (a1,a2)))))
noncomputable def Ya.body {β : Type} (k : Nat) (r_slices_symMergeCmpFunc_impl_Run__impl_Tell_1 : LC → Int → Int → Int → (LC → Option β) → Option β) (a0 : LC) (a1 a2 a3 : Int) (K : LC → Option β) : Option β := Ya.m k r_slices_symMergeCmpFunc_impl_Run__impl_Tell_1 a0 a1 a2 a3 K ((fun aD aK => ZA (Ya.l0 k r_slices_symMergeCmpFunc_impl_Run__impl_Tell_1 aD aK K) k),(fun bG bP => ZA (Ya.l2 k r_slices_symMergeCmpFunc_impl_Run__impl_Tell_1 bG bP K) k),(fun cE v4_1 cA bY bV cM bO => ZA (Ya.l4 k r_slices_symMergeCmpFunc_impl_Run__impl_Tell_1 cE v4_1 cA bY bV cM bO K) k),(fun cC v5_1 bZ bX bU cL bN => ZA (Ya.l5 k r_slices_symMergeCmpFunc_impl_Run__impl_Tell_1 cC v5_1 bZ bX bU cL bN K) k))
noncomputable def Ya.w {β : Type} (r : LC → Int → Int → Int → Option (LC)) (a0 : LC) (a1 a2 a3 : Int) (K : LC → Option β) : Option β := bd1 (r a0 a1 a2 a3) K
noncomputable def Ya.all : Nat → (LC → Int → Int → Int → Option (LC))
 | 0 => (fun _ _ _ _ => none)
 | k + 1 => (fun r => (fun a0 a1 a2 a3 => Ya.body k (Ya.w r) a0 a1 a2 a3 (fun z0 => some z0))) (Ya.all k)
noncomputable def Ya.t (k : Nat) (a0 : LC) (a1 a2 a3 : Int) : Option (LC) := (Ya.all k) a0 a1 a2 a3
noncomputable def Ya.f {β : Type} (k : Nat) (a0 : LC) (a1 a2 a3 : Int) (K : LC → Option β) : Option β := Ya.w (Ya.t k) a0 a1 a2 a3 K
noncomputable def Ya.g {β : Type} (k : Nat) (a0 : LC) (a1 a2 a3 : Int) (K : LC → Option β) : Option β := Ya.body k (Ya.f k) a0 a1 a2 a3 K
theorem Ya.t_succ (k : Nat) (a0 : LC) (a1 a2 a3 : Int) : Ya.t (k + 1) a0 a1 a2 a3 = Ya.g k a0 a1 a2 a3 (fun z0 => some z0) := rfl
noncomputable def Ya.e (k : Nat) : Zj := ent [.own false 55 [.o],.d .n,.d .n,.d .n,.fn 128 []] [] [.o] [] false (Ya.t k)
noncomputable def Ya.p (k : Nat) : Pro := ⟨Try.prog,[(128,Yag.e k),(252,Ye.e k),(228,Ya.e k)],Zv [(3,kp [0,1,4] [(10,.dat false),(11,.dat false)]),(9,kp [0,10] [(13,.dat false)]),(15,kp [0,2,4] [(14,.dat false),(15,.dat false)]),(21,kp [0,14] [(17,.dat false)]),(33,kp [0,1,2,3,4,18,19,22] [(20,.dat false),(21,.dat false)])] false [],k⟩
noncomputable def Ya.d (k : Nat) (a0 : LC) (a1 a2 a3 : Int) : Ex → St → Option (LC) := (Ya.p k).fin Try.f228 [.own false [.own a0],.d (.int .i64 a1),.d (.int .i64 a2),.d (.int .i64 a3),.d (.fn 128 [])] [] [.o]
noncomputable def Ya.s0 (aD : Int) (aK : LC) (v : Int × Int) : St :=
 match v with
 | (aF,aJ) => ZaA 220 [(0,.row 0),(1,.d false (.int .i64 aD)),(4,.d false (.fn 128 [])),(10,.d false (.int .i64 aF)),(11,.d false (.int .i64 aJ))] [.row (some 0) false 55 aK]
noncomputable def Ya.r0 (k : Nat) (a0 : LC) (a1 a2 a3 aD : Int) (aK : LC) (n : Nat) (v : Int × Int) : Option (LC) := (Ya.p k).lp (ZI Try.f228) 3 [0,1,0,1,1,0,0] (Ya.d k a0 a1 a2 a3) n (Ya.s0 aD aK v)
noncomputable def Ya.s1 (aU : Int) (v : Int × LC) : St :=
 match v with
 | (aR,aX) => ZaA 220 [(0,.row 0),(10,.d false (.int .i64 aU)),(13,.d false (.int .i64 aR))] [.row (some 0) false 55 aX]
noncomputable def Ya.r1 (k : Nat) (a0 : LC) (a1 a2 a3 aU : Int) (n : Nat) (v : Int × LC) : Option (LC) := (Ya.p k).lp (ZI Try.f228) 9 [0,1,0,1,1,1,0,1,0] (Ya.d k a0 a1 a2 a3) n (Ya.s1 aU v)
noncomputable def Ya.s2 (bG : Int) (bP : LC) (v : Int × Int) : St :=
 match v with
 | (bR,cF) => ZaA 220 [(0,.row 0),(2,.d false (.int .i64 bG)),(4,.d false (.fn 128 [])),(14,.d false (.int .i64 bR)),(15,.d false (.int .i64 cF))] [.row (some 0) false 55 bP]
noncomputable def Ya.r2 (k : Nat) (a0 : LC) (a1 a2 a3 bG : Int) (bP : LC) (n : Nat) (v : Int × Int) : Option (LC) := (Ya.p k).lp (ZI Try.f228) 15 [1,0,1,0,1,1,0,0] (Ya.d k a0 a1 a2 a3) n (Ya.s2 bG bP v)
noncomputable def Ya.s3 (cH : Int) (v : Int × LC) : St :=
 match v with
 | (v3_1,v3_2) => ZaA 220 [(0,.row 0),(14,.d false (.int .i64 cH)),(17,.d false (.int .i64 v3_1))] [.row (some 0) false 55 v3_2]
noncomputable def Ya.r3 (k : Nat) (a0 : LC) (a1 a2 a3 cH : Int) (n : Nat) (v : Int × LC) : Option (LC) := (Ya.p k).lp (ZI Try.f228) 21 [1,0,1,0,1,1,1,0,1,0] (Ya.d k a0 a1 a2 a3) n (Ya.s3 cH v)
noncomputable def Ya.s4 (cE v4_1 cA bY bV cM : Int) (bO : LC) (v : Int × Int) : St :=
 match v with
 | (bM,v4_6) => ZaA 220 [(0,.row 0),(1,.d false (.int .i64 cE)),(2,.d false (.int .i64 v4_1)),(3,.d false (.int .i64 cA)),(4,.d false (.fn 128 [])),(18,.d true (.int .i64 bY)),(19,.d true (.int .i64 bV)),(20,.d false (.int .i64 bM)),(21,.d false (.int .i64 v4_6)),(22,.d true (.int .i64 cM))] [.row (some 0) false 55 bO]
noncomputable def Ya.r4 (k : Nat) (a0 : LC) (a1 a2 a3 cE v4_1 cA bY bV cM : Int) (bO : LC) (n : Nat) (v : Int × Int) : Option (LC) := (Ya.p k).lp (ZI Try.f228) 33 [1,1,1,1,1,1,1,0,0] (Ya.d k a0 a1 a2 a3) n (Ya.s4 cE v4_1 cA bY bV cM bO v)
noncomputable def Ya.s5 (cC v5_1 bZ bX bU cL : Int) (bN : LC) (v : Int × Int) : St :=
 match v with
 | (bL,v5_6) => ZaA 220 [(0,.row 0),(1,.d false (.int .i64 cC)),(2,.d false (.int .i64 v5_1)),(3,.d false (.int .i64 bZ)),(4,.d false (.fn 128 [])),(18,.d true (.int .i64 bX)),(19,.d true (.int .i64 bU)),(20,.d false (.int .i64 bL)),(21,.d false (.int .i64 v5_6)),(22,.d true (.int .i64 cL))] [.row (some 0) false 55 bN]
noncomputable def Ya.r5 (k : Nat) (a0 : LC) (a1 a2 a3 cC v5_1 bZ bX bU cL : Int) (bN : LC) (n : Nat) (v : Int × Int) : Option (LC) := (Ya.p k).lp (ZI Try.f228) 33 [1,1,1,1,1,1,1,0,0] (Ya.d k a0 a1 a2 a3) n (Ya.s5 cC v5_1 bZ bX bU cL bN v)
theorem Ya.l5_eq (k : Nat) (a0 : LC) (a1 a2 a3 cC v5_1 bZ bX bU cL : Int) (bN : LC) : ∀ n v,Ya.r5 k a0 a1 a2 a3 cC v5_1 bZ bX bU cL bN n v = ZA (Ya.l5 k (Ya.f k) cC v5_1 bZ bX bU cL bN (fun z0 => some z0)) n v :=
 Zz (Ya.s5 cC v5_1 bZ bX bU cL bN) _ fun L5 v => by obtain ⟨bL,v5_6⟩ := v; kernel_rfl
theorem Ya.l4_eq (k : Nat) (a0 : LC) (a1 a2 a3 cE v4_1 cA bY bV cM : Int) (bO : LC) : ∀ n v,Ya.r4 k a0 a1 a2 a3 cE v4_1 cA bY bV cM bO n v = ZA (Ya.l4 k (Ya.f k) cE v4_1 cA bY bV cM bO (fun z0 => some z0)) n v :=
 Zz (Ya.s4 cE v4_1 cA bY bV cM bO) _ fun L4 v => by obtain ⟨bM,v4_6⟩ := v; kernel_rfl
theorem Ya.l3_eq (k : Nat) (a0 : LC) (a1 a2 a3 cH : Int) : ∀ n v,Ya.r3 k a0 a1 a2 a3 cH n v = ZA (Ya.l3 k (Ya.f k) cH (fun z0 => some z0)) n v :=
 Zz (Ya.s3 cH) _ fun L3 v => by obtain ⟨v3_1,v3_2⟩ := v; kernel_rfl
theorem Ya.l2_eq (k : Nat) (a0 : LC) (a1 a2 a3 bG : Int) (bP : LC) : ∀ n v,Ya.r2 k a0 a1 a2 a3 bG bP n v = ZA (Ya.l2 k (Ya.f k) bG bP (fun z0 => some z0)) n v :=
 Zz (Ya.s2 bG bP) _ fun L2 v => by obtain ⟨bR,cF⟩ := v; exact Eq.trans (b := Ya.m2 k (Ya.f k) bG bP (fun z0 => some z0) (fun v => L2 (Ya.s2 bG bP v)) (bR,cF) (fun cH => Ya.r3 k a0 a1 a2 a3 cH k)) (by kernel_rfl) (congrArg (Ya.m2 k (Ya.f k) bG bP (fun z0 => some z0) (fun v => L2 (Ya.s2 bG bP v)) (bR,cF)) (funext fun cH => funext fun v => Ya.l3_eq k a0 a1 a2 a3 cH k v))
theorem Ya.l1_eq (k : Nat) (a0 : LC) (a1 a2 a3 aU : Int) : ∀ n v,Ya.r1 k a0 a1 a2 a3 aU n v = ZA (Ya.l1 k (Ya.f k) aU (fun z0 => some z0)) n v :=
 Zz (Ya.s1 aU) _ fun L1 v => by obtain ⟨aR,aX⟩ := v; kernel_rfl
theorem Ya.l0_eq (k : Nat) (a0 : LC) (a1 a2 a3 aD : Int) (aK : LC) : ∀ n v,Ya.r0 k a0 a1 a2 a3 aD aK n v = ZA (Ya.l0 k (Ya.f k) aD aK (fun z0 => some z0)) n v :=
 Zz (Ya.s0 aD aK) _ fun L0 v => by obtain ⟨aF,aJ⟩ := v; exact Eq.trans (b := Ya.m0 k (Ya.f k) aD aK (fun z0 => some z0) (fun v => L0 (Ya.s0 aD aK v)) (aF,aJ) (fun aU => Ya.r1 k a0 a1 a2 a3 aU k)) (by kernel_rfl) (congrArg (Ya.m0 k (Ya.f k) aD aK (fun z0 => some z0) (fun v => L0 (Ya.s0 aD aK v)) (aF,aJ)) (funext fun aU => funext fun v => Ya.l1_eq k a0 a1 a2 a3 aU k v))
theorem Ya.oks (k : Nat) : Zf Try.prog 228 (Ya.e k) := by
 induction k with
 | zero => exact Zba Try.func228 (by kernel_rfl) (fun _ _ _ _ => rfl)
 | succ k ih => exact Zk (Ya.p k) mix tyok Try.func228 ⟨Yag.ok k,Ye.ok k,ih⟩ (by kernel_rfl) (fun a0 a1 a2 a3 => Eq.trans (b := Ya.m k (Ya.f k) a0 a1 a2 a3 (fun z0 => some z0) ((fun aD aK => Ya.r0 k a0 a1 a2 a3 aD aK k),(fun bG bP => Ya.r2 k a0 a1 a2 a3 bG bP k),(fun cE v4_1 cA bY bV cM bO => Ya.r4 k a0 a1 a2 a3 cE v4_1 cA bY bV cM bO k),(fun cC v5_1 bZ bX bU cL bN => Ya.r5 k a0 a1 a2 a3 cC v5_1 bZ bX bU cL bN k))) (by kernel_rfl) ((congrArg (Ya.m k (Ya.f k) a0 a1 a2 a3 (fun z0 => some z0)) (pair_eq (funext fun aD => funext fun aK => funext fun v => Ya.l0_eq k a0 a1 a2 a3 aD aK k v) (pair_eq (funext fun bG => funext fun bP => funext fun v => Ya.l2_eq k a0 a1 a2 a3 bG bP k v) (pair_eq (funext fun cE => funext fun v4_1 => funext fun cA => funext fun bY => funext fun bV => funext fun cM => funext fun bO => funext fun v => Ya.l4_eq k a0 a1 a2 a3 cE v4_1 cA bY bV cM bO k v) (funext fun cC => funext fun v5_1 => funext fun bZ => funext fun bX => funext fun bU => funext fun cL => funext fun bN => funext fun v => Ya.l5_eq k a0 a1 a2 a3 cC v5_1 bZ bX bU cL bN k v))))).trans (Ya.t_succ k a0 a1 a2 a3).symm))
theorem Ya.ok (k : Nat) : Zf Try.prog 228 (Ya.e k) := (Ya.oks k)
noncomputable def Yb.l2 {β : Type} (k : Nat) (bG bR : Int) (L1 : (Int × Int × LC) → Option β) (K : LC → Option β) (L2 : (Int × Int × LC) → Option β) (v : Int × Int × LC) : Option β :=
 match v with
 | (cF,bP,cR) => bif (decide ((bP : Int) ≤ bG)) then (Ya.f k cR cF (IntKind.wrap .i64 (cF + bR)) bP (fun y365 => Zd (y365.length = cR.length) (L2 (bP,IntKind.wrap .i64 (bP + (IntKind.wrap .i64 (2 * bR))),y365)))) else (bif (decide (((IntKind.wrap .i64 (cF + bR)) : Int) < bG)) then (Ya.f k cR cF (IntKind.wrap .i64 (cF + bR)) bG (fun y366 => Zd (y366.length = cR.length) (L1 (bG,IntKind.wrap .i64 (bR * 2),y366)))) else (L1 (bG,IntKind.wrap .i64 (bR * 2),cR)))
noncomputable def Yb.m1 {β : Type} (k : Nat) (K : LC → Option β) (L1 : (Int × Int × LC) → Option β) (v : Int × Int × LC) (F : (Int → Int → (Int × Int × LC) → Option β)) : Option β :=
 match v with
 | (aU,aR,aX) => bif (decide ((aR : Int) < aU)) then (F aU aR (0,IntKind.wrap .i64 (2 * aR),aX)) else (K aX)
noncomputable def Yb.l1 {β : Type} (k : Nat) (K : LC → Option β) (L1 : (Int × Int × LC) → Option β) (v : Int × Int × LC) : Option β := Yb.m1 k K L1 v (fun bG bR => ZA (Yb.l2 k bG bR L1 K) k)
noncomputable def Yb.m0 {β : Type} (k : Nat) (aD aF : Int) (K : LC → Option β) (L0 : (Int × Int × LC) → Option β) (v : Int × Int × LC) (F : ((Int × Int × LC) → Option β)) : Option β :=
 match v with
 | (aJ,aK,aL) => bif (decide ((aK : Int) ≤ aD)) then (Yc.f k aL aJ aK (fun y357 => Zd (y357.length = aL.length) (L0 (aK,IntKind.wrap .i64 (aK + aF),y357)))) else (Yc.f k aL aJ aD (fun y358 => Zd (y358.length = aL.length) (F (aD,aF,y358))))
noncomputable def Yb.l0 {β : Type} (k : Nat) (aD aF : Int) (K : LC → Option β) (L0 : (Int × Int × LC) → Option β) (v : Int × Int × LC) : Option β := Yb.m0 k aD aF K L0 v (ZA (Yb.l1 k K) k)
noncomputable def Yb.m {β : Type} (k : Nat) (a0 : LC) (a1 : Int) (K : LC → Option β) (F : (Int → Int → (Int × Int × LC) → Option β)) : Option β :=
 F a1 20 (0,20,a0)
noncomputable def Yb.g {β : Type} (k : Nat) (a0 : LC) (a1 : Int) (K : LC → Option β) : Option β :=
 ZA (Yb.l0 k a1 20 K) k (0,20,a0)
noncomputable def Yb.t (k : Nat) (a0 : LC) (a1 : Int) : Option (LC) := Yb.g k a0 a1 (fun z0 => some z0)
noncomputable def Yb.f {β : Type} (k : Nat) (a0 : LC) (a1 : Int) (K : LC → Option β) : Option β := bd1 (Yb.t k a0 a1) K
noncomputable def Yb.e (k : Nat) : Zj := ent [.own false 55 [.o],.d .n,.fn 128 []] [] [.o] [] false (Yb.t k)
noncomputable def Yb.p (k : Nat) : Pro := ⟨Try.prog,[(227,Yc.e k),(228,Ya.e k)],Zv [(2,kp [0,1,2,6,7,8]),(7,kp [0,1,2,6]),(9,kp [0,1,2,6,7,8])] false [],k⟩
noncomputable def Yb.d (k : Nat) (a0 : LC) (a1 : Int) : Ex → St → Option (LC) := (Yb.p k).fin Try.f190 [.own false [.own a0],.d (.int .i64 a1),.d (.fn 128 [])] [] [.o]
noncomputable def Yb.s0 (aD aF : Int) (v : Int × Int × LC) : St :=
 match v with
 | (aJ,aK,aL) => ZaA 63 [(0,.row 0),(1,.d false (.int .i64 aD)),(2,.d false (.fn 128 [])),(6,.d true (.int .i64 aF)),(7,.d true (.int .i64 aJ)),(8,.d true (.int .i64 aK))] [.row (some 0) false 55 aL]
noncomputable def Yb.r0 (k : Nat) (a0 : LC) (a1 aD aF : Int) (n : Nat) (v : Int × Int × LC) : Option (LC) := (Yb.p k).lp (ZI Try.f190) 2 [1,1,0,0] (Yb.d k a0 a1) n (Yb.s0 aD aF v)
noncomputable def Yb.s1 (v : Int × Int × LC) : St :=
 match v with
 | (aU,aR,aX) => ZaA 63 [(0,.row 0),(1,.d false (.int .i64 aU)),(2,.d false (.fn 128 [])),(6,.d true (.int .i64 aR))] [.row (some 0) false 55 aX]
noncomputable def Yb.c1 (k : Nat) (a0 : LC) (a1 : Int) : Ex → St → Option (LC) := (Yb.p k).ct (ZI Try.f190) [1,1,1,1,0] (Yb.d k a0 a1)
noncomputable def Yb.r1 (k : Nat) (a0 : LC) (a1 : Int) (n : Nat) (v : Int × Int × LC) : Option (LC) := (Yb.p k).lp (ZI Try.f190) 7 [1,1,1,1,0] (Yb.d k a0 a1) n (Yb.s1 v)
noncomputable def Yb.s2 (bG bR : Int) (v : Int × Int × LC) : St :=
 match v with
 | (cF,bP,cR) => ZaA 63 [(0,.row 0),(1,.d false (.int .i64 bG)),(2,.d false (.fn 128 [])),(6,.d true (.int .i64 bR)),(7,.d true (.int .i64 cF)),(8,.d true (.int .i64 bP))] [.row (some 0) false 55 cR]
noncomputable def Yb.r2 (k : Nat) (a0 : LC) (a1 bG bR : Int) (L1 : St → Option (LC)) (n : Nat) (v : Int × Int × LC) : Option (LC) := (Yb.p k).lp (codeAt [1,1,1,1,0,0] (ZI Try.f190)) 9 [1,0,1,0,0] (backK ((Yb.p k).h.H 7) L1 (Yb.c1 k a0 a1)) n (Yb.s2 bG bR v)
theorem Yb.l2_eq (k : Nat) (a0 : LC) (a1 bG bR : Int) (L1 : St → Option (LC)) : ∀ n v,Yb.r2 k a0 a1 bG bR L1 n v = ZA (Yb.l2 k bG bR (fun v => L1 (Yb.s1 v)) (fun z0 => some z0)) n v :=
 Zz (Yb.s2 bG bR) _ fun L2 v => by obtain ⟨cF,bP,cR⟩ := v; kernel_rfl
theorem Yb.l1_eq (k : Nat) (a0 : LC) (a1 : Int) : ∀ n v,Yb.r1 k a0 a1 n v = ZA (Yb.l1 k (fun z0 => some z0)) n v :=
 Zz (Yb.s1) _ fun L1 v => by obtain ⟨aU,aR,aX⟩ := v; exact Eq.trans (b := Yb.m1 k (fun z0 => some z0) (fun v => L1 (Yb.s1 v)) (aU,aR,aX) (fun bG bR => Yb.r2 k a0 a1 bG bR L1 k)) (by kernel_rfl) (congrArg (Yb.m1 k (fun z0 => some z0) (fun v => L1 (Yb.s1 v)) (aU,aR,aX)) (funext fun bG => funext fun bR => funext fun v => Yb.l2_eq k a0 a1 bG bR L1 k v))
theorem Yb.l0_eq (k : Nat) (a0 : LC) (a1 aD aF : Int) : ∀ n v,Yb.r0 k a0 a1 aD aF n v = ZA (Yb.l0 k aD aF (fun z0 => some z0)) n v :=
 Zz (Yb.s0 aD aF) _ fun L0 v => by obtain ⟨aJ,aK,aL⟩ := v; exact Eq.trans (b := Yb.m0 k aD aF (fun z0 => some z0) (fun v => L0 (Yb.s0 aD aF v)) (aJ,aK,aL) (Yb.r1 k a0 a1 k)) (by kernel_rfl) (congrArg (Yb.m0 k aD aF (fun z0 => some z0) (fun v => L0 (Yb.s0 aD aF v)) (aJ,aK,aL)) (funext fun v => Yb.l1_eq k a0 a1 k v))
theorem Yb.ok (k : Nat) : Zf Try.prog 190 (Yb.e k) := Zk (Yb.p k) mix tyok Try.func190 ⟨Yc.ok k,Ya.ok k⟩ (by kernel_rfl) (fun a0 a1 => Eq.trans (b := Yb.m k a0 a1 (fun z0 => some z0) (fun aD aF => Yb.r0 k a0 a1 aD aF k)) (by kernel_rfl) (congrArg (Yb.m k a0 a1 (fun z0 => some z0)) (funext fun aD => funext fun aF => funext fun v => Yb.l0_eq k a0 a1 aD aF k v) :))
noncomputable def Yn.g {β : Type} (k : Nat) (a0 : LC) (K : LC → Option β) : Option β :=
 Yb.f k a0 (a0.length : Int) (fun y367 => Zd (y367.length = a0.length) (K y367))
noncomputable def Yn.t (k : Nat) (a0 : LC) : Option (LC) := Yn.g k a0 (fun z0 => some z0)
noncomputable def Yn.f {β : Type} (k : Nat) (a0 : LC) (K : LC → Option β) : Option β := bd1 (Yn.t k a0) K
noncomputable def Yn.e (k : Nat) : Zj := ent [.own false 55 [.o],.fn 128 []] [] [.o] [] false (Yn.t k)
noncomputable def Yn.p (k : Nat) : Pro := ⟨Try.prog,[(190,Yb.e k)],Zv [] false [],k⟩
theorem Yn.ok (k : Nat) : Zf Try.prog 127 (Yn.e k) := Zk (Yn.p k) mix tyok Try.func127 (Yb.ok k) (by kernel_rfl) (fun a0 => by show _ = _; kernel_rfl)
noncomputable def YaB.g {β : Type} (k : Nat) (aA aB aV aW : Int) (K : Bool → Option β) : Option β :=
 K ((aA : Int) == aV)
noncomputable def YaB.t (k : Nat) (aA aB aV aW : Int) : Option (Bool) := YaB.g k aA aB aV aW (fun z0 => some z0)
noncomputable def YaB.e (k : Nat) : Zj := ent [.agg [.n,.n],.agg [.n,.n]] [1] [.b] [4] false (YaB.t k)
noncomputable def YaB.p (k : Nat) : Pro := ⟨Try.prog,[],Zv [] false [],k⟩
theorem YaB.ok (k : Nat) : Zf Try.prog 130 (YaB.e k) := Zk (YaB.p k) mix tyok Try.func130 trivial (by kernel_rfl) (fun aA aB aV aW => by show _ = _; kernel_rfl)
noncomputable def Yl.t (k : Nat) (xs : LC) : Option LC := compK (fun s u => match s,u with | [.int .i64 x0,.int .i64 x1],[.int .i64 y0,.int .i64 y1] => YaB.t k x0 x1 y0 y1 | _,_ => none) xs
noncomputable def Yl.f {β : Type} (k : Nat) (xs : LC) (K : LC → Option β) : Option β :=
 match Yl.t k xs with
 | some z0 => K z0
 | none => none
noncomputable def Yl.run (k : Nat) : {β : Type} → List A → (LC → Option β) → Option β := fun {β} l K =>
 match l with
 | [.own false [.own xs],.d (.fn g [])] => bif g == 130 then Yl.f k xs K else none
 | _ => none
noncomputable def Yl.e (k : Nat) : Zj := { modes := [(.own,0)],rts := [55],al := false,run := fun _ _ => none,lib := some ⟨[true,false],55,Yl.run k⟩ }
set_option maxHeartbeats 8000000 in
set_option maxRecDepth 1000000 in
theorem Yl.raw2 {P : Program} (mixed : P.follows .mixedOrders = true) (hf : P.funcs[129]? = some Try.f129) (t0 : P.underlying 0 = some (.tuple #[])) (a0 : ∀ w,(isAgg 0).run P w = .ok false w) (z0 : ∀ w,(Go.sizeOf 0).run P w = .ok 1 w) (v0 : ∀ w,(zeroValue 0).run P w = .ok (.tuple #[]) w)
  (t3 : P.underlying 3 = some (.int .i64)) (a3 : ∀ w,(isAgg 3).run P w = .ok false w) (z3 : ∀ w,(Go.sizeOf 3).run P w = .ok 1 w) (v3 : ∀ w,(zeroValue 3).run P w = .ok (.int .i64 0) w) (t4 : P.underlying 4 = some .bool) (a4 : ∀ w,(isAgg 4).run P w = .ok false w) (z4 : ∀ w,(Go.sizeOf 4).run P w = .ok 1 w) (v4 : ∀ w,(zeroValue 4).run P w = .ok (.bool false) w)
  (tS : P.underlying 55 = some (.slice 70)) (aS : ∀ w,(isAgg 55).run P w = .ok false w) (zS : ∀ w,(Go.sizeOf 55).run P w = .ok 1 w) (vS : ∀ w,(zeroValue 55).run P w = .ok (.slice none 0 0) w) (tG : P.underlying 162 = some (.func #[70,70] #[4] false)) (aG : ∀ w,(isAgg 162).run P w = .ok false w) (zG : ∀ w,(Go.sizeOf 162).run P w = .ok 1 w) (vG : ∀ w,(zeroValue 162).run P w = .ok .nilFunc w)
  (K : Nat) (hK : 0 < K) (zc : Array Value) (aE : ∀ w,(isAgg 70).run P w = .ok true w) (zE : ∀ w,(Go.sizeOf 70).run P w = .ok K w) (vE : ∀ w,(zeroValue 70).run P w = .ok (.agg zc) w)
  (b cap n : Nat) (c : Array Value) (e : TypeId) (w : World) (g : Nat) (lb : Array Value) (p : Nat → Bool) (hb : w.heap[b]? = some (.cells c e (0,0))) (hc : c.size = cap * K) (hn : n ≤ cap) (hn2 : 2 ≤ n) (hm : n ≤ 1099511627776) (hp0 : p 0 = false)
  (h1 : ∀ t,t < n * K → ∃ v,c[t]? = some v ∧ v.oneCell' = true) (i0 : TypeInfo) (hi : P.info? 70 = some i0) (hz : i0.zero = some (.agg zc)) (hs : i0.size = K) (hzs : zc.size = K) (hz1 : ∀ v ∈ zc.toList,v.oneCell' = true)
  (eg : ∀ args w,(callFunc g args).run P w = .ok (.enter g args) w)
  (hpred : ∀ j,j + 1 < n → ∀ W,Gr b w W → ∀ us vs : List Value,us.length = K → vs.length = K → (∀ t u,us[t]? = some u → c[(j + 1) * K + t]? = some u) → (∀ t u,vs[t]? = some u → c[j * K + t]? = some u) → Calls P g (#[.agg us.toArray,.agg vs.toArray] ++ lb) W fun e w' => e = .returned (.bool (p (j + 1))) ∧ Gs W w') :
  Calls P 129 #[.slice (some ⟨b,0,none⟩) n cap,.func (.func g) #[] lb] w fun ex w' => ex = .returned (.slice (some ⟨b,0,none⟩) (cpt p n).length cap) ∧ Gr b w w' ∧ ∃ c' : Array Value,w'.heap[b]? = some (.cells c' e (0,0)) ∧ c'.size = c.size ∧ ∀ m k : Nat,(cpt p n)[m]? = some k → ∀ t,t < K → c'[m * K + t]? = c[k * K + t]? := by
 have hHC : Hold (∀ j,j + 1 < n → ∀ W,Gr b w W → ∀ us vs : List Value,us.length = K → vs.length = K → (∀ t u,us[t]? = some u → c[(j + 1) * K + t]? = some u) → (∀ t u,vs[t]? = some u → c[j * K + t]? = some u) → Calls P g (#[.agg us.toArray,.agg vs.toArray] ++ lb) W fun e w' => e = .returned (.bool (p (j + 1))) ∧ Gs W w') := ⟨hpred⟩
 have hH1 : Hold (∀ t,t < n * K → ∃ v,c[t]? = some v ∧ v.oneCell' = true) := ⟨h1⟩
 have hHZ : Hold (i0.zero = some (.agg zc) ∧ i0.size = K ∧ zc.size = K ∧ (∀ v ∈ zc.toList,v.oneCell' = true) ∧ P.info? 70 = some i0) := ⟨hz,hs,hzs,hz1,hi⟩
 have hHB : Hold (w.heap[b]? = some (.cells c e (0,0)) ∧ c.size = cap * K ∧ p 0 = false) := ⟨hb,hc,hp0⟩
 have hHK : Hold (0 < K) := ⟨hK⟩
 have hHn : Hold (2 ≤ n) := ⟨hn2⟩
 have hn3 : ¬ (n : Int) < 2 := by omega
 clear hpred h1 hz hs hzs hz1 hi hb hc hK hp0 hn2
 go_enter hf,Try.ntmps129
 go_wp2
 go_loopg [5] n (fun gg s5 wr => ∃ k : Nat,s5 = .int .i64 k ∧ k ≤ n ∧ n - k ≤ gg ∧ Hold (1 ≤ k ∧ Gs w wr ∧ ∀ j,j < k → p j = false))
 case atStart =>
  have := hHn.out
  exact ⟨1,rfl,by omega,by omega,⟨by omega,⟨Nat.le_refl _,rfl,rfl,rfl,fun _ _ => rfl⟩,fun j hj => by rw [show j = 0 from by omega]; exact hHB.out.2.2⟩⟩
 case round =>
  obtain ⟨k,rfl,hkn,hgg,hI0⟩ := hrel
  by_cases hlt : k < n
  ·have hk1 := hI0.out.1
   have hG := hI0.out.2.1
   obtain ⟨k1,rfl⟩ : ∃ k1,k = k1 + 1 := ⟨k - 1,by omega⟩
   have hltz : ((k1 + 1 : Nat) : Int) < (n : Int) := by omega
   have hbr : wr.heap[b]? = some (.cells c e (0,0)) := by
    rw [hG.same b (Array.getElem?_eq_some_iff.mp hHB.out.1).1]; exact hHB.out.1
   obtain ⟨ul,ug,u1⟩ := cut_cells hH1.out (i := k1 + 1) (m := 1) (by omega)
   generalize (c.toList.drop ((k1 + 1) * K)).take (1 * K) = us at ul ug u1
   obtain ⟨vl,vg,v1⟩ := cut_cells hH1.out (i := k1) (m := 1) (by omega)
   generalize (c.toList.drop (k1 * K)).take (1 * K) = vs at vl vg v1
   rw [Nat.one_mul] at ul ug vl vg
   have ug' : ∀ t u,us[t]? = some u → c[(k1 + 1) * K + t]? = some u := fun t u h => ((ug t u).mp h).2
   have vg' : ∀ t u,vs[t]? = some u → c[k1 * K + t]? = some u := fun t u h => ((vg t u).mp h).2
   have l1 : ∀ s : GsBy wr,Sem.run P (loadCellsFrom ⟨b,(k1 + 1) * K,none⟩ 0 K #[]) s.to = .ok us.toArray s.to := fun s => load_list P s.to _ us K ul (fun t u ht => by
    rw [Addr.add_lit,Zat ((s.ok.same b (Array.getElem?_eq_some_iff.mp hbr).1).trans hbr)]
    exact ug' t u ht)
   have l2 : ∀ s : GsBy wr,Sem.run P (loadCellsFrom ⟨b,k1 * K,none⟩ 0 K #[]) s.to = .ok vs.toArray s.to := fun s => load_list P s.to _ vs K vl (fun t u ht => by
    rw [Addr.add_lit,Zat ((s.ok.same b (Array.getElem?_eq_some_iff.mp hbr).1).trans hbr)]
    exact vg' t u ht)
   have hcall : ∀ s : GsBy wr,Calls P g (#[.agg us.toArray,.agg vs.toArray] ++ lb) s.to fun e w' => e = .returned (.bool (p (k1 + 1))) ∧ Gs s.to w' := fun s => hHC.out k1 hlt s.to ((hG.trans s.ok).gr b) us vs ul vl ug' vg'
   have hwp : IntKind.i64.wrap (k1 : Int) = (k1 : Int) := by rw [Z9 (by omega) (by omega)]
   have jz : (k1 : Int) + 1 < (n : Int) := by omega
   have jz1 : (k1 : Int) < (n : Int) := by omega
   have p0 : (0 : Int) ≤ (k1 : Int) + 1 := by omega
   have e0 : ((k1 : Int) + 1).toNat = k1 + 1 := by omega
   have W2 : Hold (Gs w wr ∧ us.length = K ∧ ∀ j,j < k1 + 1 → p j = false) := ⟨hG,ul,hI0.out.2.2⟩
   clear ug vg ug' vg' v1 hbr u1 hG hI0 hHn
   cases hq : p (k1 + 1) with
   | false =>
    rw [hq] at hcall
    go_wp2
    refine wp_region_gs (by assumption) (by kernel_rfl) ?_
    repeat (quiet_step (first | (go_at_fn g; refine calls_gs _ (hcall _))))
    refine wpQuiet_nil ?_
    intro _ hw'
    obtain ⟨sq,hw''⟩ := hw'
    subst hw''
    clear l1 l2 hcall
    go_wp2
    go_roundg (n - (k1 + 2))
    case measure => omega
    case rel =>
     obtain ⟨hG,-,hall⟩ := W2.out
     exact ⟨k1 + 2,by go_num,by omega,by omega,⟨by omega,hG.trans sq.ok,fun j hj => by
      by_cases h : j = k1 + 1
      ·rw [h]; exact hq
      ·exact hall j (by omega)⟩⟩
   | true =>
    rw [hq] at hcall
    go_wp2
    refine wp_region_gs (by assumption) (by kernel_rfl) ?_
    repeat (quiet_step (first | (go_at_fn g; refine calls_gs _ (hcall _))))
    refine wpQuiet_nil ?_
    intro _ hw'
    obtain ⟨sq,hw''⟩ := hw'
    subst hw''
    clear l1 l2 hcall
    have HW1 : Hold (Gs w sq.to) := ⟨W2.out.1.trans sq.ok⟩
    have HQ : Hold (p (k1 + 1) = true ∧ ∀ j,j < k1 + 1 → p j = false) := ⟨hq,W2.out.2.2⟩
    clear W2 hq jz jz1 p0 e0 hwp ul vl
    go_wp2
    go_loopg [5,7] n (fun gg s5 s7 w2 => ∃ i j : Nat,s5 = .int .i64 i ∧ s7 = .int .i64 ((j + 1 : Nat) : Int) ∧ k1 + 2 + j ≤ n ∧ n - (k1 + 2 + j) ≤ gg ∧ Hold (∃ ck : Array Value,DfK K b (k1 + 1) c e p w w2 i (k1 + 2 + j) ck ∧ ∀ t,(k1 + 1 + j) * K ≤ t → ck[t]? = c[t]?))
    case atStart =>
     refine ⟨k1 + 1,0,by go_num,by go_num,by omega,by omega,⟨c,⟨by omega,HW1.out.gr b,?_,rfl,?_,fun _ _ => rfl,fun m k hk => ?_⟩,fun _ _ => rfl⟩⟩
     ·rw [HW1.out.same b (Array.getElem?_eq_some_iff.mp hHB.out.1).1]; exact hHB.out.1
     ·unfold kpt; simp
     ·unfold kpt at hk
      simp only [Nat.sub_self,List.range'_zero,List.filter_nil,List.append_nil] at hk
      have := List.getElem?_eq_some_iff.mp hk
      obtain ⟨q,hq⟩ := this
      rw [List.getElem_range] at hq
      rw [hq]
      exact fun _ _ => rfl
    case round =>
     obtain ⟨i,j,rfl,rfl,hjn,hgg2,hI⟩ := hrel
     by_cases hlt2 : k1 + 2 + j < n
     ·obtain ⟨ck,hD,hhi⟩ := hI.out
      have hbr := hD.at_
      obtain ⟨ul,ug,u1⟩ := cut_cells hH1.out (i := k1 + 2 + j) (m := 1) (by omega)
      generalize (c.toList.drop ((k1 + 2 + j) * K)).take (1 * K) = us at ul ug u1
      obtain ⟨vl,vg,v1⟩ := cut_cells hH1.out (i := k1 + 1 + j) (m := 1) (by omega)
      generalize (c.toList.drop ((k1 + 1 + j) * K)).take (1 * K) = vs at vl vg v1
      rw [Nat.one_mul] at ul ug vl vg
      have ug' : ∀ t u,us[t]? = some u → c[(k1 + 2 + j) * K + t]? = some u := fun t u h => ((ug t u).mp h).2
      have vg' : ∀ t u,vs[t]? = some u → c[(k1 + 1 + j) * K + t]? = some u := fun t u h => ((vg t u).mp h).2
      have eu : (k1 + 1) * K + (j + 1) * K = (k1 + 2 + j) * K := by rw [← Nat.add_mul]; congr 1; omega
      have ev : (k1 + 1) * K + j * K = (k1 + 1 + j) * K := by rw [← Nat.add_mul]
      have euv : (k1 + 1 + j) * K ≤ (k1 + 2 + j) * K := Nat.mul_le_mul_right K (by omega)
      have l1 : ∀ s : GsBy wr,Sem.run P (loadCellsFrom ⟨b,(k1 + 1) * K + (j + 1) * K,none⟩ 0 K #[]) s.to = .ok us.toArray s.to := fun s => load_list P s.to _ us K ul (fun t u ht => by
       rw [Addr.add_lit,Zat ((s.ok.same b (Array.getElem?_eq_some_iff.mp hbr).1).trans hbr),eu,hhi _ (by omega)]
       exact ug' t u ht)
      have l2 : ∀ s : GsBy wr,Sem.run P (loadCellsFrom ⟨b,(k1 + 1) * K + j * K,none⟩ 0 K #[]) s.to = .ok vs.toArray s.to := fun s => load_list P s.to _ vs K vl (fun t u ht => by
       rw [Addr.add_lit,Zat ((s.ok.same b (Array.getElem?_eq_some_iff.mp hbr).1).trans hbr),ev,hhi _ (by omega)]
       exact vg' t u ht)
      have hcall : ∀ s : GsBy wr,Calls P g (#[.agg us.toArray,.agg vs.toArray] ++ lb) s.to fun e w' => e = .returned (.bool (p (k1 + 2 + j))) ∧ Gs s.to w' := fun s => by
       have := hHC.out (k1 + 1 + j) (by omega) s.to (hD.gr.trans (s.ok.gr b)) us vs ul vl (fun t u h => by rw [show k1 + 1 + j + 1 = k1 + 2 + j from by omega]; exact ug' t u h) vg'
       rwa [show k1 + 1 + j + 1 = k1 + 2 + j from by omega] at this
      have hil : i < k1 + 2 + j ∧ k1 + 1 ≤ i := by have := kpt_le (p := p) hD.lt; rw [hD.len] at this; omega
      have hst : Hold (∀ (s : GsBy wr),s.to.heap[b]? = some (.cells ck e (0,0)) ∧ Sem.run P (storeCells ⟨b,i * K,none⟩ us 0) s.to = .ok () (s.to.setCells b (i * K) us)) := ⟨fun s => by
       have hb5 := (s.ok.same b (Array.getElem?_eq_some_iff.mp hbr).1).trans hbr
       refine ⟨hb5,?_⟩
       have hle : i * K + us.length ≤ ck.size := by
        rw [hD.size,hHB.out.2.1,ul,← Nat.succ_mul]
        exact Nat.mul_le_mul_right K (by omega)
       have := run_storeCells_cells (P := P) b (i * K) us 0 s.to (fun t ht => by rw [Nat.add_zero,Zat hb5,Array.getElem?_eq_getElem (by omega)]; rfl) (fun t ht => Zax hb5 _) u1
       rwa [Nat.add_zero] at this⟩
      have W3 : Hold (us.length = K ∧ ∀ t,t < K → us[t]? = c[(k1 + 2 + j) * K + t]?) := ⟨ul,fun t ht => by
       obtain ⟨u,hu,_⟩ := hH1.out ((k1 + 2 + j) * K + t) (by
        have := Nat.mul_le_mul_right K (show k1 + 2 + j + 1 ≤ n from hlt2)
        rw [Nat.succ_mul] at this
        omega)
       rw [hu]
       exact (ug t u).mpr ⟨by omega,hu⟩⟩
      have hD2 : Hold (DfK K b (k1 + 1) c e p w wr i (k1 + 2 + j) ck ∧ ∀ t,(k1 + 1 + j) * K ≤ t → ck[t]? = c[t]?) := ⟨hD,hhi⟩
      have hil2 : Hold (i < k1 + 2 + j ∧ k1 + 1 ≤ i) := ⟨hil⟩
      clear hD hhi hbr ug vg ug' vg' u1 v1 eu ev euv hil hI hHC hH1 hHZ
      have hwp : IntKind.i64.wrap (j : Int) = (j : Int) := by rw [Z9 (by omega) (by omega)]
      have hjiN : (j : Int) + 1 < ((n - (k1 + 1) : Nat) : Int) := by omega
      have jz1N : (j : Int) < ((n - (k1 + 1) : Nat) : Int) := by omega
      have p0 : (0 : Int) ≤ (j : Int) + 1 := by omega
      have e0 : ((j : Int) + 1).toNat = j + 1 := by omega
      cases hq2 : p (k1 + 2 + j) with
      | true =>
       rw [hq2] at hcall
       go_wp2
       refine wp_region_gs (by assumption) (by kernel_rfl) ?_
       repeat (quiet_step (first | (go_at_fn g; refine calls_gs _ (hcall _))))
       refine wpQuiet_nil ?_
       intro _ hw'
       obtain ⟨sq2,hw''⟩ := hw'
       subst hw''
       clear l1 l2 hcall
       go_wp2
       go_roundg (n - (k1 + 3 + j))
       case measure => omega
       case rel =>
        obtain ⟨hD,hhi⟩ := hD2.out
        have hsz := Nat.mul_le_mul_right K (show k1 + 1 + j ≤ k1 + 1 + (j + 1) by omega)
        refine ⟨i,j + 1,rfl,by go_num,by omega,by omega,⟨ck,?_,fun t ht => hhi t (by omega)⟩⟩
        have hjK : (k1 + 2 + j + 1) * K = (k1 + 2 + j) * K + K := Nat.succ_mul ..
        exact ⟨by omega,hD.gr.trans (sq2.ok.gr b),(hst.out sq2).1,hD.size,by rw [show k1 + 2 + (j + 1) = k1 + 2 + j + 1 from by omega,kpt_skip hD.lt hq2]; exact hD.len,fun t ht => hD.high t (by rw [show k1 + 2 + (j + 1) = k1 + 2 + j + 1 from by omega] at ht; omega),by rw [show k1 + 2 + (j + 1) = k1 + 2 + j + 1 from by omega,kpt_skip hD.lt hq2]; exact hD.low⟩
      | false =>
       rw [hq2] at hcall
       have hin : (i : Int) < (n : Int) := by have := hil2.out; omega
       go_wp2
       refine wp_region_gs (by assumption) (by kernel_rfl) ?_
       repeat (quiet_step (first | (go_at_fn g; refine calls_gs _ (hcall _))))
       refine wpQuiet_nil ?_
       intro _ hw'
       obtain ⟨sq2,hw''⟩ := hw'
       subst hw''
       have l3 := l1 sq2
       have s3 := (hst.out sq2).2
       clear l1 l2 hcall
       go_wp2
       go_roundg (n - (k1 + 3 + j))
       case measure => omega
       case rel =>
        obtain ⟨hD,hhi⟩ := hD2.out
        obtain ⟨hul,hus⟩ := W3.out
        obtain ⟨hb3,ho3⟩ := Zaa us (i * K) (hst.out sq2).1
        have hij := hil2.out.1
        have hle : i * K + us.length ≤ ck.size := by
         rw [hD.size,hHB.out.2.1,hul,← Nat.succ_mul]
         exact Nat.mul_le_mul_right K (by omega)
        have hiK : i * K + K ≤ (k1 + 2 + j) * K := by
         rw [← Nat.succ_mul]
         exact Nat.mul_le_mul_right K hij
        have hjK : (k1 + 2 + j + 1) * K = (k1 + 2 + j) * K + K := Nat.succ_mul ..
        refine ⟨i + 1,j + 1,by go_num,by go_num,by omega,by omega,⟨putA ck (i * K) us,?_,fun t ht => ?_⟩⟩
        ·rw [show k1 + 2 + (j + 1) = k1 + 2 + j + 1 from by omega]
         refine ⟨by have := hD.lt; omega,(hD.gr.trans (sq2.ok.gr b)).trans ho3.gr,hb3,by rw [Zab]; exact hD.size,by rw [kpt_keep hD.lt hq2,List.length_append,hD.len]; rfl,fun t ht => ?_,fun m k hk t ht => ?_⟩
         ·rw [Z6 _ _ _ _ hle,if_neg (by omega)]
          exact hD.high t (by omega)
         ·rw [kpt_keep hD.lt hq2] at hk
          by_cases hm : m < i
          ·have : m * K + K ≤ i * K := by
            rw [← Nat.succ_mul]
            exact Nat.mul_le_mul_right K hm
           rw [Z6 _ _ _ _ hle,if_neg (by omega)]
           exact hD.low m k (by rwa [List.getElem?_append_left (by rw [hD.len]; exact hm)] at hk) t ht
          ·rw [List.getElem?_append_right (by rw [hD.len]; omega),hD.len] at hk
           have hm0 : m = i := by
            by_cases h : m - i = 0
            ·omega
            ·rw [List.getElem?_eq_none (by simp; omega)] at hk; cases hk
           subst hm0
           simp at hk
           subst hk
           rw [Z6 _ _ _ _ hle,if_pos (by omega),Nat.add_sub_cancel_left]
           exact hus t ht
        ·rw [show k1 + 1 + (j + 1) = k1 + 2 + j from by omega] at ht
         rw [Z6 _ _ _ _ hle,if_neg (by omega)]
         exact hD.high t ht
     ·obtain ⟨ck,hD,hhi⟩ := hI.out
      have hcs := hHB.out.2.1
      obtain ⟨hz,hs,hzs,hz1,hi⟩ := hHZ.out
      have hjn2 : n = k1 + 2 + j := by omega
      have hil : i < k1 + 2 + j ∧ k1 + 1 ≤ i := by have := kpt_le (p := p) hD.lt; rw [hD.len] at this; omega
      have hjc : i * K + (n - i) * K ≤ cap * K := by
       rw [← Nat.add_mul]
       exact Nat.mul_le_mul_right K (by omega)
      have hcl : ∀ ty,(Builtin.clear_ #[55] ty #[.slice (some ⟨b,i * K,none⟩) (n - i) (cap - i)]).run P wr = .ok (.tuple #[]) (wr.setCells b (i * K) (Builtin.zeroCells zc (n - i)).toList) :=
       fun ty => run_clear_cells tS hi hz hz1 (by omega) (fun t ht => by rw [Zat hD.at_]; change t < (n - i) * zc.size at ht; rw [hzs] at ht; rw [Array.getElem?_eq_getElem (by rw [hD.size,hcs]; omega)]; rfl) (fun t ht => Zax hD.at_ _)
      obtain ⟨hb4,ho4⟩ := Zaa (Builtin.zeroCells zc (n - i)).toList (i * K) hD.at_
      have hck : cpt p n = kpt p (k1 + 1) n := cpt_kpt (by omega) HQ.out.2 HQ.out.1
      have hfin : Hold (i = (cpt p n).length ∧ Gr b w (wr.setCells b (i * K) (Builtin.zeroCells zc (n - i)).toList) ∧ ∃ c' : Array Value,(wr.setCells b (i * K) (Builtin.zeroCells zc (n - i)).toList).heap[b]? = some (.cells c' e (0,0)) ∧ c'.size = c.size ∧ ∀ m k : Nat,(cpt p n)[m]? = some k → ∀ t,t < K → c'[m * K + t]? = c[k * K + t]?) := by
       have hzl : (Builtin.zeroCells zc (n - i)).toList.length = (n - i) * K := by simp [Zaj,hzs]
       have hlen : i = (cpt p n).length := by rw [hck,hjn2]; exact hD.len.symm
       refine ⟨hlen,hD.gr.trans ho4.gr,_,hb4,by rw [Zab]; exact hD.size,fun m k hk t ht => ?_⟩
       have hmi : m < i := by rw [hlen]; exact (List.getElem?_eq_some_iff.mp hk).1
       have : m * K + K ≤ i * K := by
        rw [← Nat.succ_mul]
        exact Nat.mul_le_mul_right K hmi
       rw [Z6 _ _ _ _ (by rw [hzl,hD.size,hcs]; omega),if_neg (by omega)]
       exact hD.low m k (by rw [hck,hjn2] at hk; exact hk) t ht
      generalize (Builtin.zeroCells zc (n - i)).toList = zl at hcl hfin
      have hic : i < cap := by omega
      have hne : ¬ cap = i := by omega
      have hin0 : i < n := by omega
      have hin : (i : Int) ≤ (n : Int) := by omega
      have hji : ¬ (j : Int) + 1 < ((n - (k1 + 1) : Nat) : Int) := by omega
      clear hD hhi hcs hz hs hzs hz1 hi hb4 ho4 hck hjc hI hHC hH1 hHZ hjn2 hil
      go_wp2
      go_ret
      refine ⟨?_,hfin.out.2⟩
      rw [← hfin.out.1]
      rfl
  ·obtain rfl : k = n := by omega
   have hltz : ¬ (k : Int) < (k : Int) := by omega
   obtain ⟨-,hG,hall⟩ := hI0.out
   have hfin : Hold (k = (cpt p k).length ∧ Gr b w wr ∧ ∃ c' : Array Value,wr.heap[b]? = some (.cells c' e (0,0)) ∧ c'.size = c.size ∧ ∀ m q : Nat,(cpt p k)[m]? = some q → ∀ t,t < K → c'[m * K + t]? = c[q * K + t]?) := by
    rw [cpt_all hall]
    refine ⟨by simp,hG.gr b,c,by rw [hG.same b (Array.getElem?_eq_some_iff.mp hHB.out.1).1]; exact hHB.out.1,rfl,fun m q hk t ht => ?_⟩
    obtain ⟨hq1,hq2⟩ := List.getElem?_eq_some_iff.mp hk
    simp at hq2
    rw [hq2]
   clear hG hall hI0 hHC hH1 hHZ hHn
   go_wp2
   go_ret
   refine ⟨?_,hfin.out.2⟩
   rw [← hfin.out.1]
   rfl
set_option maxHeartbeats 4000000 in
set_option maxRecDepth 1000000 in
theorem Yl.raw0 (a : Option Addr) (n cap : Nat) (w : World) (g : Nat) (lb : Array Value) (h1 : n ≤ 1) (hn : n ≤ cap) : Calls Try.prog 129 #[.slice a n cap,.func (.func g) #[] lb] w fun ex w' => ex = .returned (.slice a n cap) ∧ Gs w w' := by
 have h2 : (n : Int) < 2 := by omega
 go_enter Try.func129,Try.ntmps129
 go_wp2
 go_ret
 exact ⟨rfl,Gs.refl _⟩
theorem Yl.raw : CpRaw Try.prog 129 2 := ⟨fun a n cap w g lb h1 hn => Yl.raw0 a n cap w g lb h1 hn,fun b cap n c e w g lb p h1 h2 h3 h4 h5 h6 h7 h8 h9 => by
 obtain ⟨i0,z,hi,hz,hzs⟩ := Zbr (P := Try.prog) (t := 70) (by kernel_rfl)
 have hsz : i0.size = 2 := by
  have : Try.prog.cellsOf 70 = 2 := by kernel_rfl
  simpa [Program.cellsOf,hi] using this
 have hzc : z.cells.size = 2 := by
  have h1 : (ZaM Try.prog 70).length = 2 := by kernel_rfl
  rw [← h1]
  simpa using (Zaq hzs).2.2.1.symm
 have hzv : ∀ w,(zeroValue 70).run Try.prog w = .ok z w := fun w => by simp [zeroValue,typeInfo,hi,hz]
 obtain ⟨zc,rfl⟩ : ∃ zc,z = .agg zc := by
  have h := (hzv w).symm.trans (Try.zeroValue70 w)
  injection h with h
  exact ⟨_,h⟩
 exact Yl.raw2 (by kernel_rfl) Try.func129 Try.underlying0 Try.isAgg0 Try.sizeOf0 Try.zeroValue0 Try.underlying3 Try.isAgg3 Try.sizeOf3 Try.zeroValue3 Try.underlying4 Try.isAgg4 Try.sizeOf4 Try.zeroValue4
  Try.underlying55 Try.isAgg55 Try.sizeOf55 Try.zeroValue55 Try.underlying162 Try.isAgg162 Try.sizeOf162 Try.zeroValue162 2 (by decide) zc Try.isAgg70 Try.sizeOf70 hzv b cap n c e w g lb p h1 h2 h3 h4 h5 h6 h7 i0 hi hz hsz hzc (Zaq hzs).2.1 h8 h9⟩
theorem Yl.ok (k : Nat) : Zf Try.prog 129 (Yl.e k) := compactK_ok tyok (ct := 55) (K := 2) (g := 130) (run := fun {β} => Yl.run k) (by kernel_rfl) (by decide) (enter_of Try.func129 (by kernel_rfl)) Yl.raw (by kernel_rfl) (YaB.ok k) (fun β aa K r h => by
 unfold Yl.run at h
 split at h
 ·rename_i xs g
  cases hg : g == 130 with
  | false => rw [hg] at h; cases h
  | true =>
   rw [hg] at h
   obtain rfl := eq_of_beq hg
   simp only [cond_true] at h
   unfold Yl.f Yl.t at h
   split at h
   ·rename_i z0 hz
    refine ⟨_,_,_,_,rfl,hz,h,rfl,rfl,fun s u q h => ?_⟩
    split at h
    ·rename_i x0 x1 y0 y1
     exact (ent_run (YaB.e k) rfl (congrArg some h) rfl)
    ·cases h
   ·cases h
 ·cases h)
noncomputable def Yaa.l0 {β : Type} (k : Nat) (aD : LD) (aF : Int) (K : LC → Option β) (L0 : (Int × LC) → Option β) (v : Int × LC) : Option β :=
 match v with
 | (aJ,aK) => bif (decide ((aJ : Int) < aF)) then (atR aD aJ [.n,.n,.n,.s,.n,.l,.l] fun x373 x376 x379 x382 x385 x388 x391 => (Zd (aK.length + ([[.d (.int .i64 x373),.d (.int .i64 0)]] : LC).length ≤ Z8) (L0 (IntKind.wrap .i64 (aJ + 1),aK ++ ([[.d (.int .i64 x373),.d (.int .i64 0)]] : LC))))) else (Yn.f k aK (fun y392 => Zd (y392.length = aK.length ∧ flatC y392 = true) (Yl.f k y392 (fun y393 => K y393))))
noncomputable def Yaa.m {β : Type} (k : Nat) (aA : BA) (aB aC : Int) (aI aH : LD) (K : LC → Option β) (F : (LD → Int → (Int × LC) → Option β)) : Option β :=
 YH.f k aH (fun y1 => F aI (aI.length : Int) (0,y1))
noncomputable def Yaa.g {β : Type} (k : Nat) (aA : BA) (aB aC : Int) (aI aH : LD) (K : LC → Option β) : Option β :=
 YH.f k aH (fun y1 => ZA (Yaa.l0 k aI (aI.length : Int) K) k (0,y1))
noncomputable def Yaa.t (k : Nat) (aA : BA) (aB aC : Int) (aI aH : LD) : Option (LC) := Yaa.g k aA aB aC aI aH (fun z0 => some z0)
noncomputable def Yaa.f {β : Type} (k : Nat) (aA : BA) (aB aC : Int) (aI aH : LD) (K : LC → Option β) : Option β := bd1 (Yaa.t k aA aB aC aI aH) K
noncomputable def Yaa.e (k : Nat) : Zj := ent [.agg [.s,.n,.n,.l,.l]] [1] [.o] [55] false (Yaa.t k)
noncomputable def Yaa.p (k : Nat) : Pro := ⟨Try.prog,[(126,YH.e k),(127,Yn.e k),(129,Yl.e k)],Zv [(3,kp [3,10,11,12])] false [],k⟩
noncomputable def Yaa.d (k : Nat) (aA : BA) (aB aC : Int) (aI aH : LD) : Ex → St → Option (LC) := (Yaa.p k).fin Try.f46 [.agg [.str aA,.int .i64 aB,.int .i64 aC,.sl aI,.sl aH]] [1] [.o]
noncomputable def Yaa.s0 (aD : LD) (aF : Int) (v : Int × LC) : St :=
 match v with
 | (aJ,aK) => ZaA 27 [(3,.row 0),(10,.d false (.sl aD)),(11,.d true (.int .i64 aF)),(12,.d true (.int .i64 aJ))] [.row none true 55 aK]
noncomputable def Yaa.r0 (k : Nat) (aA : BA) (aB aC : Int) (aI aH aD : LD) (aF : Int) (n : Nat) (v : Int × LC) : Option (LC) := (Yaa.p k).lp (ZI Try.f46) 3 [1,1,0,1,0] (Yaa.d k aA aB aC aI aH) n (Yaa.s0 aD aF v)
theorem Yaa.l0_eq (k : Nat) (aA : BA) (aB aC : Int) (aI aH aD : LD) (aF : Int) : ∀ n v,Yaa.r0 k aA aB aC aI aH aD aF n v = ZA (Yaa.l0 k aD aF (fun z0 => some z0)) n v :=
 Zz (Yaa.s0 aD aF) _ fun L0 v => by obtain ⟨aJ,aK⟩ := v; kernel_rfl
theorem Yaa.ok (k : Nat) : Zf Try.prog 46 (Yaa.e k) := Zk (Yaa.p k) mix tyok Try.func46 ⟨YH.ok k,Yn.ok k,Yl.ok k⟩ (by kernel_rfl) (fun aA aB aC aI aH => Eq.trans (b := Yaa.m k aA aB aC aI aH (fun z0 => some z0) (fun aD aF => Yaa.r0 k aA aB aC aI aH aD aF k)) (by kernel_rfl) (congrArg (Yaa.m k aA aB aC aI aH (fun z0 => some z0)) (funext fun aD => funext fun aF => funext fun v => Yaa.l0_eq k aA aB aC aI aH aD aF k v) :))
noncomputable def Y1.l0 {β : Type} (k : Nat) (aD : LD) (aF : Int) (K : Int → Bool → Option β) (L0 : Int → Option β) (v : Int) : Option β :=
 match v with
 | aJ => bif (decide ((aJ : Int) < (aD.length : Int))) then (atR aD aJ [.n,.n] fun x18 x21 => (bif ((x18 : Int) == aF) then (atR aD aJ [.n,.n] fun x25 x28 => (K x28 true)) else (L0 (IntKind.wrap .i64 (aJ + 1))))) else (K 0 false)
noncomputable def Y1.m {β : Type} (k : Nat) (a0 : LD) (a1 : Int) (K : Int → Bool → Option β) (F : (LD → Int → Int → Option β)) : Option β :=
 F a0 a1 (0)
noncomputable def Y1.g {β : Type} (k : Nat) (a0 : LD) (a1 : Int) (K : Int → Bool → Option β) : Option β :=
 ZA (Y1.l0 k a0 a1 K) k (0)
noncomputable def Y1.t (k : Nat) (a0 : LD) (a1 : Int) : Option (Int × Bool) := Y1.g k a0 a1 (fun z0 z1 => some (z0,z1))
noncomputable def Y1.f {β : Type} (k : Nat) (a0 : LD) (a1 : Int) (K : Int → Bool → Option β) : Option β := bd2 (Y1.t k a0 a1) K
noncomputable def Y1.e (k : Nat) : Zj := ent [.d .l,.d .n] [1,1] [.n,.b] [3,4] false (Y1.t k)
noncomputable def Y1.p (k : Nat) : Pro := ⟨Try.prog,[],Zv [(2,kp [0,1,6])] false [],k⟩
noncomputable def Y1.d (k : Nat) (a0 : LD) (a1 : Int) : Ex → St → Option (Int × Bool) := (Y1.p k).fin Try.f35 [.d (.sl a0),.d (.int .i64 a1)] [1,1] [.n,.b]
noncomputable def Y1.s0 (aD : LD) (aF v : Int) : St :=
 match v with
 | aJ => ZaA 25 [(0,.d false (.sl aD)),(1,.d false (.int .i64 aF)),(6,.d true (.int .i64 aJ))] []
noncomputable def Y1.r0 (k : Nat) (a0 : LD) (a1 : Int) (aD : LD) (aF : Int) (n : Nat) (v : Int) : Option (Int × Bool) := (Y1.p k).lp (ZI Try.f35) 2 [1,0,1,0] (Y1.d k a0 a1) n (Y1.s0 aD aF v)
theorem Y1.l0_eq (k : Nat) (a0 : LD) (a1 : Int) (aD : LD) (aF : Int) : ∀ n v,Y1.r0 k a0 a1 aD aF n v = ZA (Y1.l0 k aD aF (fun z0 z1 => some (z0,z1))) n v :=
 Zz (Y1.s0 aD aF) _ fun L0 v => by kernel_rfl
theorem Y1.ok (k : Nat) : Zf Try.prog 35 (Y1.e k) := Zk (Y1.p k) mix tyok Try.func35 trivial (by kernel_rfl) (fun a0 a1 => Eq.trans (b := Y1.m k a0 a1 (fun z0 z1 => some (z0,z1)) (fun aD aF => Y1.r0 k a0 a1 aD aF k)) (by kernel_rfl) (congrArg (Y1.m k a0 a1 (fun z0 z1 => some (z0,z1))) (funext fun aD => funext fun aF => funext fun v => Y1.l0_eq k a0 a1 aD aF k v) :))
noncomputable def Ym.l2 {β : Type} (k : Nat) (bG : Int) (bR : Bool) (bP : BA) (cR cO : Int) (cP : BA) (cQ cJ : Int) (cK cN v2_11 v2_12 v2_13 : LC) (K : Bool → Option β) (L2 : Int → Option β) (v : Int) : Option β :=
 match v with
 | cF => bif (decide ((cF : Int) < (v2_11.length : Int))) then (Zd ((0 : Int) ≤ cF ∧ cF < (v2_11.length : Int)) (ZaR v2_11 (Int.toNat cF) fun c716 => ZaJ (c716.drop 0) fun c717 r => cD c717 fun d => dInt .i64 d fun x720 => Y1.f k (C.immRows cK) x720 (fun y721 y722 => bif (!y722) then (K false) else (Zd ((0 : Int) ≤ cF ∧ cF < (v2_11.length : Int)) (ZaR v2_11 (Int.toNat cF) fun c723 => ZaJ (c723.drop 1) fun c724 r => cD c724 fun d => dInt .i64 d fun x727 => bif ((y721 : Int) != x727) then (K false) else (L2 (IntKind.wrap .i64 (cF + 1)))))))) else (bif (!bR) then (bif ((cJ : Int) == bG) then (YE.f k (C.immRows v2_13) (C.immRows v2_11) (fun y728 => K y728)) else (K false)) else (K false))
noncomputable def Ym.m1 {β : Type} (k : Nat) (aU : Int) (aR : Bool) (aY : BA) (aZ bD : Int) (bF : LC) (bH : BA) (bJ bK : Int) (bI bT cG v1_13 v1_14 : LC) (K : Bool → Option β) (L1 : Int → Option β) (v : Int) (F : (Int → Bool → BA → Int → Int → BA → Int → Int → LC → LC → LC → LC → LC → Int → Option β)) : Option β :=
 match v with
 | aX => bif (decide ((aX : Int) < (bF.length : Int))) then (Zd ((0 : Int) ≤ aX ∧ aX < (bF.length : Int)) (ZaR bF (Int.toNat aX) fun c696 => ZaJ (c696.drop 0) fun c697 r698 => cD c697 fun d699 => dInt .i64 d699 fun x700 => Y1.f k (C.immRows bI) x700 (fun y701 y702 => bif (!y702) then (K false) else (L1 (IntKind.wrap .i64 (aX + 1)))))) else (F aU aR aY aZ bD bH bJ bK bI bT cG v1_13 v1_14 (0))
noncomputable def Ym.l1 {β : Type} (k : Nat) (aU : Int) (aR : Bool) (aY : BA) (aZ bD : Int) (bF : LC) (bH : BA) (bJ bK : Int) (bI bT cG v1_13 v1_14 : LC) (K : Bool → Option β) (L1 : Int → Option β) (v : Int) : Option β := Ym.m1 k aU aR aY aZ bD bF bH bJ bK bI bT cG v1_13 v1_14 K L1 v (fun bG bR bP cR cO cP cQ cJ cK cN v2_11 v2_12 v2_13 => ZA (Ym.l2 k bG bR bP cR cO cP cQ cJ cK cN v2_11 v2_12 v2_13 K) k)
noncomputable def Ym.m0 {β : Type} (k : Nat) (aD : Int) (aF : Bool) (aK : BA) (aL aM : Int) (aN : LC) (aO : BA) (aQ aP : Int) (aT bE bQ bW v0_14 : LC) (K : Bool → Option β) (L0 : Int → Option β) (v : Int) (F : (Int → Bool → BA → Int → Int → LC → BA → Int → Int → LC → LC → LC → LC → LC → Int → Option β)) : Option β :=
 match v with
 | aJ => bif (decide ((aJ : Int) < (aT.length : Int))) then (Zd ((0 : Int) ≤ (IntKind.wrap .i64 (aJ - 1)) ∧ (IntKind.wrap .i64 (aJ - 1)) < (aT.length : Int)) (ZaR aT (Int.toNat (IntKind.wrap .i64 (aJ - 1))) fun c653 => ZaJ (c653.drop 0) fun c654 r655 => cD c654 fun d656 => dInt .i64 d656 fun x657 => Zd ((0 : Int) ≤ aJ ∧ aJ < (aT.length : Int)) (ZaR aT (Int.toNat aJ) fun c658 => ZaJ (c658.drop 0) fun c659 r660 => cD c659 fun d661 => dInt .i64 d661 fun x662 => bif (decide ((x657 : Int) ≥ x662)) then (K false) else (L0 (IntKind.wrap .i64 (aJ + 1)))))) else (F aD aF aK aL aM aN aO aQ aP aT bE bQ bW v0_14 (0))
noncomputable def Ym.l0 {β : Type} (k : Nat) (aD : Int) (aF : Bool) (aK : BA) (aL aM : Int) (aN : LC) (aO : BA) (aQ aP : Int) (aT bE bQ bW v0_14 : LC) (K : Bool → Option β) (L0 : Int → Option β) (v : Int) : Option β := Ym.m0 k aD aF aK aL aM aN aO aQ aP aT bE bQ bW v0_14 K L0 v (fun aU aR aY aZ bD bF bH bJ bK bI bT cG v1_13 v1_14 => ZA (Ym.l1 k aU aR aY aZ bD bF bH bJ bK bI bT cG v1_13 v1_14 K) k)
noncomputable def Ym.m {β : Type} (k : Nat) (a0 : LD) (K : Bool → Option β) (F : (Int → Bool → BA → Int → Int → LC → BA → Int → Int → LC → LC → LC → LC → LC → Int → Option β)) : Option β :=
 Yaz.f k a0 (fun y1 => bif y1 then (K true) else (Yap.f k a0 (fun y550 y551 y552 y553 y554 y555 y556 => Yaw.f k y550 y551 y552 (C.immRows y553) (C.immRows y554) y555 (C.immRows y556) (fun y557 y558 y559 y560 y561 y562 => Yar.f k y550 y551 y552 (C.immRows y553) (C.immRows y554) y555 (C.immRows y556) (fun y563 y564 y565 y566 y567 y568 => bif (!(y562 == y568)) then (K false) else (bif (!y562) then (YI.f k y557 y558 y559 (C.immRows y560) (C.immRows y561) y550 y551 y552 (C.immRows y553) (C.immRows y554) (fun y569 => K y569)) else (Yaw.f k y557 y558 y559 (C.immRows y560) (C.immRows y561) y555 (C.immRows y556) (fun y570 y571 y572 y573 y574 y575 => Yaa.f k y557 y558 y559 (C.immRows y560) (C.immRows y561) (fun y576 => F y555 y575 y550 y551 y552 y556 y557 y558 y559 y576 y553 y554 y560 y561 (1))))))))))
noncomputable def Ym.g {β : Type} (k : Nat) (a0 : LD) (K : Bool → Option β) : Option β := Ym.m k a0 K (fun aD aF aK aL aM aN aO aQ aP aT bE bQ bW v0_14 => ZA (Ym.l0 k aD aF aK aL aM aN aO aQ aP aT bE bQ bW v0_14 K) k)
noncomputable def Ym.t (k : Nat) (a0 : LD) : Option (Bool) := Ym.g k a0 (fun z0 => some z0)
noncomputable def Ym.e (k : Nat) : Zj := ent [.d .l] [1] [.b] [4] false (Ym.t k)
noncomputable def Ym.p (k : Nat) : Pro := ⟨Try.prog,[(11,Yaz.e k),(42,Yap.e k),(43,Yaw.e k),(44,Yar.e k),(45,YI.e k),(46,Yaa.e k),(35,Y1.e k),(47,YE.e k)],Zv [(13,kp [3,4,5,6,11,12,13]),(18,kp [3,4,5,6,11,12,14]),(24,kp [3,4,6,11,12,17])] false [],k⟩
noncomputable def Ym.d (k : Nat) (a0 : LD) : Ex → St → Option (Bool) := (Ym.p k).fin Try.f8 [.d (.sl a0)] [1] [.b]
noncomputable def Ym.s0 (aD : Int) (aF : Bool) (aK : BA) (aL aM : Int) (aN : LC) (aO : BA) (aQ aP : Int) (aT bE bQ bW v0_14 : LC) (v : Int) : St :=
 match v with
 | aJ => ZaA 140 [(3,.bp 0 0),(4,.d true (.int .i64 aD)),(5,.row 1),(6,.bp 2 0),(11,.d true (.bool aF)),(12,.row 3),(13,.d true (.int .i64 aJ))] [.box none 57 [.d true (.str aK),.d true (.int .i64 aL),.d true (.int .i64 aM),.row 4,.row 5],.row none true 54 aN,.box none 57 [.d true (.str aO),.d true (.int .i64 aQ),.d true (.int .i64 aP),.row 6,.row 7],.row none true 55 aT,.row none true 54 bE,.row none true 55 bQ,.row none true 54 bW,.row none true 55 v0_14]
noncomputable def Ym.r0 (k : Nat) (a0 : LD) (aD : Int) (aF : Bool) (aK : BA) (aL aM : Int) (aN : LC) (aO : BA) (aQ aP : Int) (aT bE bQ bW v0_14 : LC) (n : Nat) (v : Int) : Option (Bool) := (Ym.p k).lp (ZI Try.f8) 13 [1,1,1,1,1,1,1,1,1,0,1,0] (Ym.d k a0) n (Ym.s0 aD aF aK aL aM aN aO aQ aP aT bE bQ bW v0_14 v)
noncomputable def Ym.s1 (aU : Int) (aR : Bool) (aY : BA) (aZ bD : Int) (bF : LC) (bH : BA) (bJ bK : Int) (bI bT cG v1_13 v1_14 : LC) (v : Int) : St :=
 match v with
 | aX => ZaA 140 [(3,.bp 0 0),(4,.d true (.int .i64 aU)),(5,.row 1),(6,.bp 2 0),(11,.d true (.bool aR)),(12,.row 3),(14,.d true (.int .i64 aX))] [.box none 57 [.d true (.str aY),.d true (.int .i64 aZ),.d true (.int .i64 bD),.row 4,.row 5],.row none true 54 bF,.box none 57 [.d true (.str bH),.d true (.int .i64 bJ),.d true (.int .i64 bK),.row 6,.row 7],.row none true 55 bI,.row none true 54 bT,.row none true 55 cG,.row none true 54 v1_13,.row none true 55 v1_14]
noncomputable def Ym.r1 (k : Nat) (a0 : LD) (aU : Int) (aR : Bool) (aY : BA) (aZ bD : Int) (bF : LC) (bH : BA) (bJ bK : Int) (bI bT cG v1_13 v1_14 : LC) (n : Nat) (v : Int) : Option (Bool) := (Ym.p k).lp (ZI Try.f8) 18 [1,1,1,1,1,1,1,1,1,1,0,1,0] (Ym.d k a0) n (Ym.s1 aU aR aY aZ bD bF bH bJ bK bI bT cG v1_13 v1_14 v)
noncomputable def Ym.s2 (bG : Int) (bR : Bool) (bP : BA) (cR cO : Int) (cP : BA) (cQ cJ : Int) (cK cN v2_11 v2_12 v2_13 : LC) (v : Int) : St :=
 match v with
 | cF => ZaA 140 [(3,.bp 0 0),(4,.d true (.int .i64 bG)),(6,.bp 1 0),(11,.d true (.bool bR)),(12,.row 2),(17,.d true (.int .i64 cF))] [.box none 57 [.d true (.str bP),.d true (.int .i64 cR),.d true (.int .i64 cO),.row 3,.row 4],.box none 57 [.d true (.str cP),.d true (.int .i64 cQ),.d true (.int .i64 cJ),.row 5,.row 6],.row none true 55 cK,.row none true 54 cN,.row none true 55 v2_11,.row none true 54 v2_12,.row none true 55 v2_13]
noncomputable def Ym.r2 (k : Nat) (a0 : LD) (bG : Int) (bR : Bool) (bP : BA) (cR cO : Int) (cP : BA) (cQ cJ : Int) (cK cN v2_11 v2_12 v2_13 : LC) (n : Nat) (v : Int) : Option (Bool) := (Ym.p k).lp (ZI Try.f8) 24 [1,1,1,1,1,1,1,1,1,1,1,0,1,0] (Ym.d k a0) n (Ym.s2 bG bR bP cR cO cP cQ cJ cK cN v2_11 v2_12 v2_13 v)
theorem Ym.l2_eq (k : Nat) (a0 : LD) (bG : Int) (bR : Bool) (bP : BA) (cR cO : Int) (cP : BA) (cQ cJ : Int) (cK cN v2_11 v2_12 v2_13 : LC) : ∀ n v,Ym.r2 k a0 bG bR bP cR cO cP cQ cJ cK cN v2_11 v2_12 v2_13 n v = ZA (Ym.l2 k bG bR bP cR cO cP cQ cJ cK cN v2_11 v2_12 v2_13 (fun z0 => some z0)) n v :=
 Zz (Ym.s2 bG bR bP cR cO cP cQ cJ cK cN v2_11 v2_12 v2_13) _ fun L2 v => by kernel_rfl
theorem Ym.l1_eq (k : Nat) (a0 : LD) (aU : Int) (aR : Bool) (aY : BA) (aZ bD : Int) (bF : LC) (bH : BA) (bJ bK : Int) (bI bT cG v1_13 v1_14 : LC) : ∀ n v,Ym.r1 k a0 aU aR aY aZ bD bF bH bJ bK bI bT cG v1_13 v1_14 n v = ZA (Ym.l1 k aU aR aY aZ bD bF bH bJ bK bI bT cG v1_13 v1_14 (fun z0 => some z0)) n v :=
 Zz (Ym.s1 aU aR aY aZ bD bF bH bJ bK bI bT cG v1_13 v1_14) _ fun L1 v => by exact Eq.trans (b := Ym.m1 k aU aR aY aZ bD bF bH bJ bK bI bT cG v1_13 v1_14 (fun z0 => some z0) (fun v => L1 (Ym.s1 aU aR aY aZ bD bF bH bJ bK bI bT cG v1_13 v1_14 v)) v (fun bG bR bP cR cO cP cQ cJ cK cN v2_11 v2_12 v2_13 => Ym.r2 k a0 bG bR bP cR cO cP cQ cJ cK cN v2_11 v2_12 v2_13 k)) (by kernel_rfl) (congrArg (Ym.m1 k aU aR aY aZ bD bF bH bJ bK bI bT cG v1_13 v1_14 (fun z0 => some z0) (fun v => L1 (Ym.s1 aU aR aY aZ bD bF bH bJ bK bI bT cG v1_13 v1_14 v)) v) (funext fun bG => funext fun bR => funext fun bP => funext fun cR => funext fun cO => funext fun cP => funext fun cQ => funext fun cJ => funext fun cK => funext fun cN => funext fun v2_11 => funext fun v2_12 => funext fun v2_13 => funext fun v => Ym.l2_eq k a0 bG bR bP cR cO cP cQ cJ cK cN v2_11 v2_12 v2_13 k v))
theorem Ym.l0_eq (k : Nat) (a0 : LD) (aD : Int) (aF : Bool) (aK : BA) (aL aM : Int) (aN : LC) (aO : BA) (aQ aP : Int) (aT bE bQ bW v0_14 : LC) : ∀ n v,Ym.r0 k a0 aD aF aK aL aM aN aO aQ aP aT bE bQ bW v0_14 n v = ZA (Ym.l0 k aD aF aK aL aM aN aO aQ aP aT bE bQ bW v0_14 (fun z0 => some z0)) n v :=
 Zz (Ym.s0 aD aF aK aL aM aN aO aQ aP aT bE bQ bW v0_14) _ fun L0 v => by exact Eq.trans (b := Ym.m0 k aD aF aK aL aM aN aO aQ aP aT bE bQ bW v0_14 (fun z0 => some z0) (fun v => L0 (Ym.s0 aD aF aK aL aM aN aO aQ aP aT bE bQ bW v0_14 v)) v (fun aU aR aY aZ bD bF bH bJ bK bI bT cG v1_13 v1_14 => Ym.r1 k a0 aU aR aY aZ bD bF bH bJ bK bI bT cG v1_13 v1_14 k)) (by kernel_rfl) (congrArg (Ym.m0 k aD aF aK aL aM aN aO aQ aP aT bE bQ bW v0_14 (fun z0 => some z0) (fun v => L0 (Ym.s0 aD aF aK aL aM aN aO aQ aP aT bE bQ bW v0_14 v)) v) (funext fun aU => funext fun aR => funext fun aY => funext fun aZ => funext fun bD => funext fun bF => funext fun bH => funext fun bJ => funext fun bK => funext fun bI => funext fun bT => funext fun cG => funext fun v1_13 => funext fun v1_14 => funext fun v => Ym.l1_eq k a0 aU aR aY aZ bD bF bH bJ bK bI bT cG v1_13 v1_14 k v))
theorem Ym.ok (k : Nat) : Zf Try.prog 8 (Ym.e k) := Zk (Ym.p k) mix tyok Try.func8 ⟨Yaz.ok k,Yap.ok k,Yaw.ok k,Yar.ok k,YI.ok k,Yaa.ok k,Y1.ok k,YE.ok k⟩ (by kernel_rfl) (fun a0 => Eq.trans (b := Ym.m k a0 (fun z0 => some z0) (fun aD aF aK aL aM aN aO aQ aP aT bE bQ bW v0_14 => Ym.r0 k a0 aD aF aK aL aM aN aO aQ aP aT bE bQ bW v0_14 k)) (by kernel_rfl) (congrArg (Ym.m k a0 (fun z0 => some z0)) (funext fun aD => funext fun aF => funext fun aK => funext fun aL => funext fun aM => funext fun aN => funext fun aO => funext fun aQ => funext fun aP => funext fun aT => funext fun bE => funext fun bQ => funext fun bW => funext fun v0_14 => funext fun v => Ym.l0_eq k a0 aD aF aK aL aM aN aO aQ aP aT bE bQ bW v0_14 k v) :))
end Go.Proofs.Ytpgplbalenfgfaa
