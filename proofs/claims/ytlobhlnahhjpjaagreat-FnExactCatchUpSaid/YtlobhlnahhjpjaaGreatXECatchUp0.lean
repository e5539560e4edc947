/- Printed: the functions that FnExactCatchUp reaches,read by the evaluator,each with its contract. -/
import Derived.Test.YtlobhlnahhjpjaaGreatTIns
import Derived.Test.YtlobhlnahhjpjaaGreatProg
import Derived.KernelRfl
set_option linter.unusedVariables false
set_option linter.unusedSimpArgs false
namespace Go.Proofs.YtlobhlnahhjpjaaGreat
open Go Go.T Go.Proofs
theorem mix : Tryz.prog.follows .mixedOrders = true := by kernel_rfl
theorem tyok : Zar Tryz.prog := tyOk_of (by kernel_rfl)
noncomputable def YC.l0 {β : Type} (k : Nat) (aC : LD) (K : Int → Option β) (L0 : (Int × Int) → Option β) (v : Int × Int) : Option β :=
 match v with
 | (aD,aJ) => bif (decide ((aJ : Int) < (aC.length : Int))) then (atR aC aJ [.s] fun x8 => (bif (decide (((IntKind.wrap .i64 (aD - (x8.size : Int))) : Int) < 0)) then (K (-1)) else (L0 (IntKind.wrap .i64 (aD - (x8.size : Int)),IntKind.wrap .i64 (aJ + 1))))) else (K aD)
noncomputable def YC.m {β : Type} (k : Nat) (a0 : LD) (a1 : Int) (K : Int → Option β) (F : (LD → (Int × Int) → Option β)) : Option β :=
 bif (decide (((IntKind.wrap .i64 (a1 - (a0.length : Int))) : Int) < 0)) then (K (-1)) else (F a0 (IntKind.wrap .i64 (a1 - (a0.length : Int)),0))
noncomputable def YC.g {β : Type} (k : Nat) (a0 : LD) (a1 : Int) (K : Int → Option β) : Option β :=
 bif (decide (((IntKind.wrap .i64 (a1 - (a0.length : Int))) : Int) < 0)) then (K (-1)) else (ZA (YC.l0 k a0 K) k (IntKind.wrap .i64 (a1 - (a0.length : Int)),0))
noncomputable def YC.t (k : Nat) (a0 : LD) (a1 : Int) : Option (Int) := YC.g k a0 a1 (fun z0 => some z0)
noncomputable def YC.f {β : Type} (k : Nat) (a0 : LD) (a1 : Int) (K : Int → Option β) : Option β := bd1 (YC.t k a0 a1) K
noncomputable def YC.e (k : Nat) : Zj := ent [.d .l,.d .n] [1] [.n] [3] false (YC.t k)
noncomputable def YC.p (k : Nat) : Pro := ⟨Tryz.prog,[],Zv [(5,kp [0,1,5])] false [],k⟩
noncomputable def YC.d (k : Nat) (a0 : LD) (a1 : Int) : Ex → St → Option (Int) := (YC.p k).fin Tryz.f46 [.d (.sl a0),.d (.int .i64 a1)] [1] [.n]
noncomputable def YC.s0 (aC : LD) (v : Int × Int) : St :=
 match v with
 | (aD,aJ) => ZaA 28 [(0,.d false (.sl aC)),(1,.d true (.int .i64 aD)),(5,.d true (.int .i64 aJ))] []
noncomputable def YC.r0 (k : Nat) (a0 : LD) (a1 : Int) (aC : LD) (n : Nat) (v : Int × Int) : Option (Int) := (YC.p k).lp (ZI Tryz.f46) 5 [1,1,1,0,1,0] (YC.d k a0 a1) n (YC.s0 aC v)
theorem YC.l0_eq (k : Nat) (a0 : LD) (a1 : Int) (aC : LD) : ∀ n v,YC.r0 k a0 a1 aC n v = ZA (YC.l0 k aC (fun z0 => some z0)) n v :=
 Zz (YC.s0 aC) _ fun L0 v => by obtain ⟨aD,aJ⟩ := v; kernel_rfl
theorem YC.ok (k : Nat) : Zf Tryz.prog 46 (YC.e k) := Zk (YC.p k) mix tyok Tryz.func46 trivial (by kernel_rfl) (fun a0 a1 => Eq.trans (b := YC.m k a0 a1 (fun z0 => some z0) (fun aC => YC.r0 k a0 a1 aC k)) (by kernel_rfl) (congrArg (YC.m k a0 a1 (fun z0 => some z0)) (funext fun aC => funext fun v => YC.l0_eq k a0 a1 aC k v) :))
noncomputable def Yt.l0 {β : Type} (k : Nat) (r_laws_szValueS : LD → Int → (Int → Option β) → Option β) (r_laws_szValue : Int → BA → Int → LD → LD → Int → (Int → Option β) → Option β) (aC : LD) (K : Int → Option β) (L0 : (Int × Int) → Option β) (v : Int × Int) : Option β :=
 match v with
 | (aD,aJ) => bif (decide ((aJ : Int) < (aC.length : Int))) then (atR aC aJ [.n,.s,.n,.l,.l] fun x21 x24 x27 x30 x33 => (r_laws_szValue x21 x24 x27 x30 x33 aD (fun y34 => bif (decide ((y34 : Int) < 0)) then (K (-1)) else (L0 (y34,IntKind.wrap .i64 (aJ + 1)))))) else (K aD)
noncomputable def Yt.m {β : Type} (k : Nat) (r_laws_szValueS : LD → Int → (Int → Option β) → Option β) (r_laws_szValue : Int → BA → Int → LD → LD → Int → (Int → Option β) → Option β) (a0 : LD) (a1 : Int) (K : Int → Option β) (F : (LD → (Int × Int) → Option β)) : Option β :=
 bif (decide (((IntKind.wrap .i64 (a1 - (a0.length : Int))) : Int) < 0)) then (K (-1)) else (F a0 (IntKind.wrap .i64 (a1 - (a0.length : Int)),0))
noncomputable def Yt.body {β : Type} (k : Nat) (r_laws_szValueS : LD → Int → (Int → Option β) → Option β) (r_laws_szValue : Int → BA → Int → LD → LD → Int → (Int → Option β) → Option β) (a0 : LD) (a1 : Int) (K : Int → Option β) : Option β :=
 bif (decide (((IntKind.wrap .i64 (a1 - (a0.length : Int))) : Int) < 0)) then (K (-1)) else (ZA (Yt.l0 k r_laws_szValueS r_laws_szValue a0 K) k (IntKind.wrap .i64 (a1 - (a0.length : Int)),0))
noncomputable def YR.body {β : Type} (k : Nat) (r_laws_szValueS : LD → Int → (Int → Option β) → Option β) (r_laws_szValue : Int → BA → Int → LD → LD → Int → (Int → Option β) → Option β) (aB : Int) (aA : BA) (aH : Int) (aF aI : LD) (a1 : Int) (K : Int → Option β) : Option β :=
 bif (decide (((IntKind.wrap .i64 (a1 - (aA.size : Int))) : Int) < 0)) then (K (-1)) else (YC.f k aF (IntKind.wrap .i64 (a1 - (aA.size : Int))) (fun y1 => bif (decide ((y1 : Int) < 0)) then (K (-1)) else (r_laws_szValueS aI y1 (fun y35 => bif (decide ((y35 : Int) < 0)) then (K (-1)) else (K y35)))))
noncomputable def Yt.w {β : Type} (r : LD → Int → Option (Int)) (a0 : LD) (a1 : Int) (K : Int → Option β) : Option β := bd1 (r a0 a1) K
noncomputable def YR.w {β : Type} (r : Int → BA → Int → LD → LD → Int → Option (Int)) (aB : Int) (aA : BA) (aH : Int) (aF aI : LD) (a1 : Int) (K : Int → Option β) : Option β := bd1 (r aB aA aH aF aI a1) K
noncomputable def Yt.all : Nat → (LD → Int → Option (Int)) × (Int → BA → Int → LD → LD → Int → Option (Int))
 | 0 => (fun _ _ => none,fun _ _ _ _ _ _ => none)
 | k + 1 => (fun r => (fun a0 a1 => Yt.body k (Yt.w r.1) (YR.w r.2) a0 a1 (fun z0 => some z0),fun aB aA aH aF aI a1 => YR.body k (Yt.w r.1) (YR.w r.2) aB aA aH aF aI a1 (fun z0 => some z0))) (Yt.all k)
noncomputable def Yt.t (k : Nat) (a0 : LD) (a1 : Int) : Option (Int) := (Yt.all k).1 a0 a1
noncomputable def YR.t (k : Nat) (aB : Int) (aA : BA) (aH : Int) (aF aI : LD) (a1 : Int) : Option (Int) := (Yt.all k).2 aB aA aH aF aI a1
noncomputable def Yt.f {β : Type} (k : Nat) (a0 : LD) (a1 : Int) (K : Int → Option β) : Option β := Yt.w (Yt.t k) a0 a1 K
noncomputable def YR.f {β : Type} (k : Nat) (aB : Int) (aA : BA) (aH : Int) (aF aI : LD) (a1 : Int) (K : Int → Option β) : Option β := YR.w (YR.t k) aB aA aH aF aI a1 K
noncomputable def Yt.g {β : Type} (k : Nat) (a0 : LD) (a1 : Int) (K : Int → Option β) : Option β := Yt.body k (Yt.f k) (YR.f k) a0 a1 K
theorem Yt.t_succ (k : Nat) (a0 : LD) (a1 : Int) : Yt.t (k + 1) a0 a1 = Yt.g k a0 a1 (fun z0 => some z0) := rfl
noncomputable def YR.g {β : Type} (k : Nat) (aB : Int) (aA : BA) (aH : Int) (aF aI : LD) (a1 : Int) (K : Int → Option β) : Option β := YR.body k (Yt.f k) (YR.f k) aB aA aH aF aI a1 K
theorem YR.t_succ (k : Nat) (aB : Int) (aA : BA) (aH : Int) (aF aI : LD) (a1 : Int) : YR.t (k + 1) aB aA aH aF aI a1 = YR.g k aB aA aH aF aI a1 (fun z0 => some z0) := rfl
noncomputable def Yt.e (k : Nat) : Zj := ent [.d .l,.d .n] [1] [.n] [3] false (Yt.t k)
noncomputable def YR.e (k : Nat) : Zj := ent [.agg [.n,.s,.n,.l,.l],.d .n] [1] [.n] [3] false (YR.t k)
noncomputable def Yt.p (k : Nat) : Pro := ⟨Tryz.prog,[(17,YR.e k)],Zv [(5,kp [0,1,5])] false [],k⟩
noncomputable def Yt.d (k : Nat) (a0 : LD) (a1 : Int) : Ex → St → Option (Int) := (Yt.p k).fin Tryz.f47 [.d (.sl a0),.d (.int .i64 a1)] [1] [.n]
noncomputable def Yt.s0 (aC : LD) (v : Int × Int) : St :=
 match v with
 | (aD,aJ) => ZaA 27 [(0,.d false (.sl aC)),(1,.d true (.int .i64 aD)),(5,.d true (.int .i64 aJ))] []
noncomputable def Yt.r0 (k : Nat) (a0 : LD) (a1 : Int) (aC : LD) (n : Nat) (v : Int × Int) : Option (Int) := (Yt.p k).lp (ZI Tryz.f47) 5 [1,1,1,0,1,0] (Yt.d k a0 a1) n (Yt.s0 aC v)
theorem Yt.l0_eq (k : Nat) (a0 : LD) (a1 : Int) (aC : LD) : ∀ n v,Yt.r0 k a0 a1 aC n v = ZA (Yt.l0 k (Yt.f k) (YR.f k) aC (fun z0 => some z0)) n v :=
 Zz (Yt.s0 aC) _ fun L0 v => by obtain ⟨aD,aJ⟩ := v; kernel_rfl
noncomputable def YR.p (k : Nat) : Pro := ⟨Tryz.prog,[(46,YC.e k),(47,Yt.e k)],Zv [] false [],k⟩
theorem Yt.oks (k : Nat) : Zf Tryz.prog 47 (Yt.e k) ∧ Zf Tryz.prog 17 (YR.e k) := by
 induction k with
 | zero => exact ⟨Zba Tryz.func47 (by kernel_rfl) (fun _ _ => rfl),
  Zba Tryz.func17 (by kernel_rfl) (fun _ _ _ _ _ _ => rfl)⟩
 | succ k ih => exact ⟨Zk (Yt.p k) mix tyok Tryz.func47 ih.2 (by kernel_rfl) (fun a0 a1 => Eq.trans (b := Yt.m k (Yt.f k) (YR.f k) a0 a1 (fun z0 => some z0) (fun aC => Yt.r0 k a0 a1 aC k)) (by kernel_rfl) ((congrArg (Yt.m k (Yt.f k) (YR.f k) a0 a1 (fun z0 => some z0)) (funext fun aC => funext fun v => Yt.l0_eq k a0 a1 aC k v)).trans (Yt.t_succ k a0 a1).symm)),
  Zk (YR.p k) mix tyok Tryz.func17 ⟨YC.ok k,ih.1⟩ (by kernel_rfl) (fun aB aA aH aF aI a1 => by show _ = _; kernel_rfl)⟩
theorem YR.ok (k : Nat) : Zf Tryz.prog 17 (YR.e k) := (Yt.oks k).2
noncomputable def YaF.g {β : Type} (k : Nat) (aB : Int) (aA : BA) (aH aF aI : Int) (bD : Bool) (aV : LD) (bA : Int) (aP : BA) (bB : Int) (aQ aW : LD) (aY : Int) (aR : BA) (bC : Int) (aT aX : LD) (a1 : Int) (K : Int → Option β) : Option β :=
 bif (decide (((IntKind.wrap .i64 (a1 - (aA.size : Int))) : Int) < 0)) then (K (-1)) else (YC.f k aV (IntKind.wrap .i64 (a1 - (aA.size : Int))) (fun y9 => bif (decide ((y9 : Int) < 0)) then (K (-1)) else (YR.f k bA aP bB aQ aW y9 (fun y36 => bif (decide ((y36 : Int) < 0)) then (K (-1)) else (YR.f k aY aR bC aT aX y36 (fun y37 => bif (decide ((y37 : Int) < 0)) then (K (-1)) else (K y37)))))))
noncomputable def YaF.t (k : Nat) (aB : Int) (aA : BA) (aH aF aI : Int) (bD : Bool) (aV : LD) (bA : Int) (aP : BA) (bB : Int) (aQ aW : LD) (aY : Int) (aR : BA) (bC : Int) (aT aX : LD) (a1 : Int) : Option (Int) := YaF.g k aB aA aH aF aI bD aV bA aP bB aQ aW aY aR bC aT aX a1 (fun z0 => some z0)
noncomputable def YaF.f {β : Type} (k : Nat) (aB : Int) (aA : BA) (aH aF aI : Int) (bD : Bool) (aV : LD) (bA : Int) (aP : BA) (bB : Int) (aQ aW : LD) (aY : Int) (aR : BA) (bC : Int) (aT aX : LD) (a1 : Int) (K : Int → Option β) : Option β := bd1 (YaF.t k aB aA aH aF aI bD aV bA aP bB aQ aW aY aR bC aT aX a1) K
noncomputable def YaF.e (k : Nat) : Zj := ent [.agg [.n,.s,.n,.n,.n,.b,.l,.n,.s,.n,.l,.l,.n,.s,.n,.l,.l],.d .n] [1] [.n] [3] false (YaF.t k)
noncomputable def YaF.p (k : Nat) : Pro := ⟨Tryz.prog,[(46,YC.e k),(17,YR.e k)],Zv [] false [],k⟩
theorem YaF.ok (k : Nat) : Zf Tryz.prog 83 (YaF.e k) := Zk (YaF.p k) mix tyok Tryz.func83 ⟨YC.ok k,YR.ok k⟩ (by kernel_rfl) (fun aB aA aH aF aI bD aV bA aP bB aQ aW aY aR bC aT aX a1 => by show _ = _; kernel_rfl)
noncomputable def YY.l0 {β : Type} (k : Nat) (aC : LD) (K : Int → Option β) (L0 : (Int × Int) → Option β) (v : Int × Int) : Option β :=
 match v with
 | (aD,aJ) => bif (decide ((aJ : Int) < (aC.length : Int))) then (atR aC aJ [.n,.s,.n,.n,.n,.b,.l,.n,.s,.n,.l,.l,.n,.s,.n,.l,.l] fun x57 x60 x63 x66 x69 x72 x75 x78 x81 x84 x87 x90 x93 x96 x99 x102 x105 => (YaF.f k x57 x60 x63 x66 x69 x72 x75 x78 x81 x84 x87 x90 x93 x96 x99 x102 x105 aD (fun y106 => bif (decide ((y106 : Int) < 0)) then (K (-1)) else (L0 (y106,IntKind.wrap .i64 (aJ + 1)))))) else (K aD)
noncomputable def YY.m {β : Type} (k : Nat) (a0 : LD) (a1 : Int) (K : Int → Option β) (F : (LD → (Int × Int) → Option β)) : Option β :=
 bif (decide (((IntKind.wrap .i64 (a1 - (a0.length : Int))) : Int) < 0)) then (K (-1)) else (F a0 (IntKind.wrap .i64 (a1 - (a0.length : Int)),0))
noncomputable def YY.g {β : Type} (k : Nat) (a0 : LD) (a1 : Int) (K : Int → Option β) : Option β :=
 bif (decide (((IntKind.wrap .i64 (a1 - (a0.length : Int))) : Int) < 0)) then (K (-1)) else (ZA (YY.l0 k a0 K) k (IntKind.wrap .i64 (a1 - (a0.length : Int)),0))
noncomputable def YY.t (k : Nat) (a0 : LD) (a1 : Int) : Option (Int) := YY.g k a0 a1 (fun z0 => some z0)
noncomputable def YY.f {β : Type} (k : Nat) (a0 : LD) (a1 : Int) (K : Int → Option β) : Option β := bd1 (YY.t k a0 a1) K
noncomputable def YY.e (k : Nat) : Zj := ent [.d .l,.d .n] [1] [.n] [3] false (YY.t k)
noncomputable def YY.p (k : Nat) : Pro := ⟨Tryz.prog,[(83,YaF.e k)],Zv [(5,kp [0,1,5])] false [],k⟩
noncomputable def YY.d (k : Nat) (a0 : LD) (a1 : Int) : Ex → St → Option (Int) := (YY.p k).fin Tryz.f31 [.d (.sl a0),.d (.int .i64 a1)] [1] [.n]
noncomputable def YY.s0 (aC : LD) (v : Int × Int) : St :=
 match v with
 | (aD,aJ) => ZaA 27 [(0,.d false (.sl aC)),(1,.d true (.int .i64 aD)),(5,.d true (.int .i64 aJ))] []
noncomputable def YY.r0 (k : Nat) (a0 : LD) (a1 : Int) (aC : LD) (n : Nat) (v : Int × Int) : Option (Int) := (YY.p k).lp (ZI Tryz.f31) 5 [1,1,1,0,1,0] (YY.d k a0 a1) n (YY.s0 aC v)
theorem YY.l0_eq (k : Nat) (a0 : LD) (a1 : Int) (aC : LD) : ∀ n v,YY.r0 k a0 a1 aC n v = ZA (YY.l0 k aC (fun z0 => some z0)) n v :=
 Zz (YY.s0 aC) _ fun L0 v => by obtain ⟨aD,aJ⟩ := v; kernel_rfl
theorem YY.ok (k : Nat) : Zf Tryz.prog 31 (YY.e k) := Zk (YY.p k) mix tyok Tryz.func31 (YaF.ok k) (by kernel_rfl) (fun a0 a1 => Eq.trans (b := YY.m k a0 a1 (fun z0 => some z0) (fun aC => YY.r0 k a0 a1 aC k)) (by kernel_rfl) (congrArg (YY.m k a0 a1 (fun z0 => some z0)) (funext fun aC => funext fun v => YY.l0_eq k a0 a1 aC k v) :))
noncomputable def Yax.g {β : Type} (k : Nat) (aB : Int) (aA : LD) (a1 : Int) (K : Int → Option β) : Option β :=
 YY.f k aA a1 (fun y107 => bif (decide ((y107 : Int) < 0)) then (K (-1)) else (K y107))
noncomputable def Yax.t (k : Nat) (aB : Int) (aA : LD) (a1 : Int) : Option (Int) := Yax.g k aB aA a1 (fun z0 => some z0)
noncomputable def Yax.f {β : Type} (k : Nat) (aB : Int) (aA : LD) (a1 : Int) (K : Int → Option β) : Option β := bd1 (Yax.t k aB aA a1) K
noncomputable def Yax.e (k : Nat) : Zj := ent [.agg [.n,.l],.d .n] [1] [.n] [3] false (Yax.t k)
noncomputable def Yax.p (k : Nat) : Pro := ⟨Tryz.prog,[(31,YY.e k)],Zv [] false [],k⟩
theorem Yax.ok (k : Nat) : Zf Tryz.prog 6 (Yax.e k) := Zk (Yax.p k) mix tyok Tryz.func6 (YY.ok k) (by kernel_rfl) (fun aB aA a1 => by show _ = _; kernel_rfl)
noncomputable def Yay.g {β : Type} (k : Nat) (aB : Int) (aA : Bool) (aH : Int) (aF : BA) (aI bD aV : Int) (bA : Bool) (aP : LD) (bB : Int) (aQ : BA) (aW : Int) (aY aR : LD) (bC : Int) (aT : BA) (aX : Int) (bZ cA : LD) (a1 : Int) (K : Int → Option β) : Option β :=
 YaF.f k aH aF aI bD aV bA aP bB aQ aW aY aR bC aT aX bZ cA a1 (fun y1 => bif (decide ((y1 : Int) < 0)) then (K (-1)) else (K y1))
noncomputable def Yay.t (k : Nat) (aB : Int) (aA : Bool) (aH : Int) (aF : BA) (aI bD aV : Int) (bA : Bool) (aP : LD) (bB : Int) (aQ : BA) (aW : Int) (aY aR : LD) (bC : Int) (aT : BA) (aX : Int) (bZ cA : LD) (a1 : Int) : Option (Int) := Yay.g k aB aA aH aF aI bD aV bA aP bB aQ aW aY aR bC aT aX bZ cA a1 (fun z0 => some z0)
noncomputable def Yay.f {β : Type} (k : Nat) (aB : Int) (aA : Bool) (aH : Int) (aF : BA) (aI bD aV : Int) (bA : Bool) (aP : LD) (bB : Int) (aQ : BA) (aW : Int) (aY aR : LD) (bC : Int) (aT : BA) (aX : Int) (bZ cA : LD) (a1 : Int) (K : Int → Option β) : Option β := bd1 (Yay.t k aB aA aH aF aI bD aV bA aP bB aQ aW aY aR bC aT aX bZ cA a1) K
noncomputable def Yay.e (k : Nat) : Zj := ent [.agg [.n,.b,.n,.s,.n,.n,.n,.b,.l,.n,.s,.n,.l,.l,.n,.s,.n,.l,.l],.d .n] [1] [.n] [3] false (Yay.t k)
noncomputable def Yay.p (k : Nat) : Pro := ⟨Tryz.prog,[(83,YaF.e k)],Zv [] false [],k⟩
theorem Yay.ok (k : Nat) : Zf Tryz.prog 84 (Yay.e k) := Zk (Yay.p k) mix tyok Tryz.func84 (YaF.ok k) (by kernel_rfl) (fun aB aA aH aF aI bD aV bA aP bB aQ aW aY aR bC aT aX bZ cA a1 => by show _ = _; kernel_rfl)
noncomputable def YK.l0 {β : Type} (k : Nat) (aC : LD) (K : Int → Option β) (L0 : (Int × Int) → Option β) (v : Int × Int) : Option β :=
 match v with
 | (aD,aJ) => bif (decide ((aJ : Int) < (aC.length : Int))) then (atR aC aJ [.n,.b,.n,.s,.n,.n,.n,.b,.l,.n,.s,.n,.l,.l,.n,.s,.n,.l,.l] fun x63 x66 x69 x72 x75 x78 x81 x84 x87 x90 x93 x96 x99 x102 x105 x108 x111 x114 x117 => (Yay.f k x63 x66 x69 x72 x75 x78 x81 x84 x87 x90 x93 x96 x99 x102 x105 x108 x111 x114 x117 aD (fun y118 => bif (decide ((y118 : Int) < 0)) then (K (-1)) else (L0 (y118,IntKind.wrap .i64 (aJ + 1)))))) else (K aD)
noncomputable def YK.m {β : Type} (k : Nat) (a0 : LD) (a1 : Int) (K : Int → Option β) (F : (LD → (Int × Int) → Option β)) : Option β :=
 bif (decide (((IntKind.wrap .i64 (a1 - (a0.length : Int))) : Int) < 0)) then (K (-1)) else (F a0 (IntKind.wrap .i64 (a1 - (a0.length : Int)),0))
noncomputable def YK.g {β : Type} (k : Nat) (a0 : LD) (a1 : Int) (K : Int → Option β) : Option β :=
 bif (decide (((IntKind.wrap .i64 (a1 - (a0.length : Int))) : Int) < 0)) then (K (-1)) else (ZA (YK.l0 k a0 K) k (IntKind.wrap .i64 (a1 - (a0.length : Int)),0))
noncomputable def YK.t (k : Nat) (a0 : LD) (a1 : Int) : Option (Int) := YK.g k a0 a1 (fun z0 => some z0)
noncomputable def YK.f {β : Type} (k : Nat) (a0 : LD) (a1 : Int) (K : Int → Option β) : Option β := bd1 (YK.t k a0 a1) K
noncomputable def YK.e (k : Nat) : Zj := ent [.d .l,.d .n] [1] [.n] [3] false (YK.t k)
noncomputable def YK.p (k : Nat) : Pro := ⟨Tryz.prog,[(84,Yay.e k)],Zv [(5,kp [0,1,5])] false [],k⟩
noncomputable def YK.d (k : Nat) (a0 : LD) (a1 : Int) : Ex → St → Option (Int) := (YK.p k).fin Tryz.f32 [.d (.sl a0),.d (.int .i64 a1)] [1] [.n]
noncomputable def YK.s0 (aC : LD) (v : Int × Int) : St :=
 match v with
 | (aD,aJ) => ZaA 27 [(0,.d false (.sl aC)),(1,.d true (.int .i64 aD)),(5,.d true (.int .i64 aJ))] []
noncomputable def YK.r0 (k : Nat) (a0 : LD) (a1 : Int) (aC : LD) (n : Nat) (v : Int × Int) : Option (Int) := (YK.p k).lp (ZI Tryz.f32) 5 [1,1,1,0,1,0] (YK.d k a0 a1) n (YK.s0 aC v)
theorem YK.l0_eq (k : Nat) (a0 : LD) (a1 : Int) (aC : LD) : ∀ n v,YK.r0 k a0 a1 aC n v = ZA (YK.l0 k aC (fun z0 => some z0)) n v :=
 Zz (YK.s0 aC) _ fun L0 v => by obtain ⟨aD,aJ⟩ := v; kernel_rfl
theorem YK.ok (k : Nat) : Zf Tryz.prog 32 (YK.e k) := Zk (YK.p k) mix tyok Tryz.func32 (Yay.ok k) (by kernel_rfl) (fun a0 a1 => Eq.trans (b := YK.m k a0 a1 (fun z0 => some z0) (fun aC => YK.r0 k a0 a1 aC k)) (by kernel_rfl) (congrArg (YK.m k a0 a1 (fun z0 => some z0)) (funext fun aC => funext fun v => YK.l0_eq k a0 a1 aC k v) :))
noncomputable def YaJ.g {β : Type} (k : Nat) (aB : LD) (aA aH : Int) (aF : LD) (a1 : Int) (K : Int → Option β) : Option β :=
 YY.f k aB a1 (fun y1 => bif (decide ((y1 : Int) < 0)) then (K (-1)) else (YK.f k aF y1 (fun y119 => bif (decide ((y119 : Int) < 0)) then (K (-1)) else (K y119))))
noncomputable def YaJ.t (k : Nat) (aB : LD) (aA aH : Int) (aF : LD) (a1 : Int) : Option (Int) := YaJ.g k aB aA aH aF a1 (fun z0 => some z0)
noncomputable def YaJ.f {β : Type} (k : Nat) (aB : LD) (aA aH : Int) (aF : LD) (a1 : Int) (K : Int → Option β) : Option β := bd1 (YaJ.t k aB aA aH aF a1) K
noncomputable def YaJ.e (k : Nat) : Zj := ent [.agg [.l,.n,.n,.l],.d .n] [1] [.n] [3] false (YaJ.t k)
noncomputable def YaJ.p (k : Nat) : Pro := ⟨Tryz.prog,[(31,YY.e k),(32,YK.e k)],Zv [] false [],k⟩
theorem YaJ.ok (k : Nat) : Zf Tryz.prog 7 (YaJ.e k) := Zk (YaJ.p k) mix tyok Tryz.func7 ⟨YY.ok k,YK.ok k⟩ (by kernel_rfl) (fun aB aA aH aF a1 => by show _ = _; kernel_rfl)
noncomputable def YB.l0 {β : Type} (k : Nat) (aC : LD) (K : LC → Option β) (L0 : (Int × LC) → Option β) (v : Int × LC) : Option β :=
 match v with
 | (aD,aJ) => bif (decide ((aD : Int) < (aC.length : Int))) then (atR aC aD [.s] fun x8 => (Zd ((0 : Int) ≤ aD ∧ aD < (aJ.length : Int)) (Zd (Int.toNat aD < aJ.length) (L0 (IntKind.wrap .i64 (aD + 1),aJ.modify (Int.toNat aD) fun c => Zs c 0 [.d (.str x8)]))))) else (K aJ)
noncomputable def YB.m {β : Type} (k : Nat) (a0 : LD) (K : LC → Option β) (F : (LD → (Int × LC) → Option β)) : Option β :=
 Zd ((0 : Int) ≤ (a0.length : Int) ∧ (a0.length : Int) ≤ (Z8 : Int) ∧ (a0.length : Int) ≤ (a0.length : Int) ∧ (a0.length : Int) ≤ (a0.length : Int)) (F a0 (0,List.replicate (Int.toNat (a0.length : Int)) ([.d (.str (⟨#[]⟩ : BA))] : List C)))
noncomputable def YB.g {β : Type} (k : Nat) (a0 : LD) (K : LC → Option β) : Option β :=
 Zd ((0 : Int) ≤ (a0.length : Int) ∧ (a0.length : Int) ≤ (Z8 : Int) ∧ (a0.length : Int) ≤ (a0.length : Int) ∧ (a0.length : Int) ≤ (a0.length : Int)) (ZA (YB.l0 k a0 K) k (0,List.replicate (Int.toNat (a0.length : Int)) ([.d (.str (⟨#[]⟩ : BA))] : List C)))
noncomputable def YB.t (k : Nat) (a0 : LD) : Option (LC) := YB.g k a0 (fun z0 => some z0)
noncomputable def YB.f {β : Type} (k : Nat) (a0 : LD) (K : LC → Option β) : Option β := bd1 (YB.t k a0) K
noncomputable def YB.e (k : Nat) : Zj := ent [.d .l] [1] [.o] [45] false (YB.t k)
noncomputable def YB.p (k : Nat) : Pro := ⟨Tryz.prog,[],Zv [(3,kp [0,3,4])] false [],k⟩
noncomputable def YB.d (k : Nat) (a0 : LD) : Ex → St → Option (LC) := (YB.p k).fin Tryz.f54 [.d (.sl a0)] [1] [.o]
noncomputable def YB.s0 (aC : LD) (v : Int × LC) : St :=
 match v with
 | (aD,aJ) => ZaA 22 [(0,.d false (.sl aC)),(3,.row 0),(4,.d true (.int .i64 aD))] [.row none true 45 aJ]
noncomputable def YB.r0 (k : Nat) (a0 aC : LD) (n : Nat) (v : Int × LC) : Option (LC) := (YB.p k).lp (ZI Tryz.f54) 3 [1,1,0,1,0] (YB.d k a0) n (YB.s0 aC v)
theorem YB.l0_eq (k : Nat) (a0 aC : LD) : ∀ n v,YB.r0 k a0 aC n v = ZA (YB.l0 k aC (fun z0 => some z0)) n v :=
 Zz (YB.s0 aC) _ fun L0 v => by obtain ⟨aD,aJ⟩ := v; kernel_rfl
theorem YB.ok (k : Nat) : Zf Tryz.prog 54 (YB.e k) := Zk (YB.p k) mix tyok Tryz.func54 trivial (by kernel_rfl) (fun a0 => Eq.trans (b := YB.m k a0 (fun z0 => some z0) (fun aC => YB.r0 k a0 aC k)) (by kernel_rfl) (congrArg (YB.m k a0 (fun z0 => some z0)) (funext fun aC => funext fun v => YB.l0_eq k a0 aC k v) :))
noncomputable def Ys.l0 {β : Type} (k : Nat) (r_laws_toValueS : LD → (LC → Option β) → Option β) (r_laws_toValue : Int → BA → Int → LD → LD → (Int → BA → Int → LC → LC → Option β) → Option β) (aC : LD) (K : LC → Option β) (L0 : (Int × LC) → Option β) (v : Int × LC) : Option β :=
 match v with
 | (aD,aJ) => bif (decide ((aD : Int) < (aC.length : Int))) then (atR aC aD [.n,.s,.n,.l,.l] fun x25 x28 x31 x34 x37 => (r_laws_toValue x25 x28 x31 x34 x37 (fun y38 y39 y40 y41 y42 => Zd ((0 : Int) ≤ aD ∧ aD < (aJ.length : Int)) (Zd (Int.toNat aD < aJ.length) (L0 (IntKind.wrap .i64 (aD + 1),aJ.modify (Int.toNat aD) fun c => Zs c 0 [.d (.int .i64 y38),.d (.str y39),.d (.int .i64 y40),.own y41,.own y42])))))) else (K aJ)
noncomputable def Ys.m {β : Type} (k : Nat) (r_laws_toValueS : LD → (LC → Option β) → Option β) (r_laws_toValue : Int → BA → Int → LD → LD → (Int → BA → Int → LC → LC → Option β) → Option β) (a0 : LD) (K : LC → Option β) (F : (LD → (Int × LC) → Option β)) : Option β :=
 Zd ((0 : Int) ≤ (a0.length : Int) ∧ (a0.length : Int) ≤ (Z8 : Int) ∧ (a0.length : Int) ≤ (a0.length : Int) ∧ (a0.length : Int) ≤ (a0.length : Int)) (F a0 (0,List.replicate (Int.toNat (a0.length : Int)) ([.d (.int .i64 0),.d (.str (⟨#[]⟩ : BA)),.d (.int .i64 0),.own ([] : LC),.own ([] : LC)] : List C)))
noncomputable def Ys.body {β : Type} (k : Nat) (r_laws_toValueS : LD → (LC → Option β) → Option β) (r_laws_toValue : Int → BA → Int → LD → LD → (Int → BA → Int → LC → LC → Option β) → Option β) (a0 : LD) (K : LC → Option β) : Option β := Ys.m k r_laws_toValueS r_laws_toValue a0 K (fun aC => ZA (Ys.l0 k r_laws_toValueS r_laws_toValue aC K) k)
noncomputable def YQ.body {β : Type} (k : Nat) (r_laws_toValueS : LD → (LC → Option β) → Option β) (r_laws_toValue : Int → BA → Int → LD → LD → (Int → BA → Int → LC → LC → Option β) → Option β) (aB : Int) (aA : BA) (aH : Int) (aF aI : LD) (K : Int → BA → Int → LC → LC → Option β) : Option β :=
 YB.f k aF (fun y1 => r_laws_toValueS aI (fun y43 => K aB aA aH y1 y43))
noncomputable def Ys.w {β : Type} (r : LD → Option (LC)) (a0 : LD) (K : LC → Option β) : Option β := bd1 (r a0) K
noncomputable def YQ.w {β : Type} (r : Int → BA → Int → LD → LD → Option (Int × BA × Int × LC × LC)) (aB : Int) (aA : BA) (aH : Int) (aF aI : LD) (K : Int → BA → Int → LC → LC → Option β) : Option β := bd5 (r aB aA aH aF aI) K
noncomputable def Ys.all : Nat → (LD → Option (LC)) × (Int → BA → Int → LD → LD → Option (Int × BA × Int × LC × LC))
 | 0 => (fun _ => none,fun _ _ _ _ _ => none)
 | k + 1 => (fun r => (fun a0 => Ys.body k (Ys.w r.1) (YQ.w r.2) a0 (fun z0 => some z0),fun aB aA aH aF aI => YQ.body k (Ys.w r.1) (YQ.w r.2) aB aA aH aF aI (fun z0 z1 z2 z3 z4 => some (z0,z1,z2,z3,z4)))) (Ys.all k)
noncomputable def Ys.t (k : Nat) (a0 : LD) : Option (LC) := (Ys.all k).1 a0
noncomputable def YQ.t (k : Nat) (aB : Int) (aA : BA) (aH : Int) (aF aI : LD) : Option (Int × BA × Int × LC × LC) := (Ys.all k).2 aB aA aH aF aI
noncomputable def Ys.f {β : Type} (k : Nat) (a0 : LD) (K : LC → Option β) : Option β := Ys.w (Ys.t k) a0 K
noncomputable def YQ.f {β : Type} (k : Nat) (aB : Int) (aA : BA) (aH : Int) (aF aI : LD) (K : Int → BA → Int → LC → LC → Option β) : Option β := YQ.w (YQ.t k) aB aA aH aF aI K
noncomputable def Ys.g {β : Type} (k : Nat) (a0 : LD) (K : LC → Option β) : Option β := Ys.body k (Ys.f k) (YQ.f k) a0 K
theorem Ys.t_succ (k : Nat) (a0 : LD) : Ys.t (k + 1) a0 = Ys.g k a0 (fun z0 => some z0) := rfl
noncomputable def YQ.g {β : Type} (k : Nat) (aB : Int) (aA : BA) (aH : Int) (aF aI : LD) (K : Int → BA → Int → LC → LC → Option β) : Option β := YQ.body k (Ys.f k) (YQ.f k) aB aA aH aF aI K
theorem YQ.t_succ (k : Nat) (aB : Int) (aA : BA) (aH : Int) (aF aI : LD) : YQ.t (k + 1) aB aA aH aF aI = YQ.g k aB aA aH aF aI (fun z0 z1 z2 z3 z4 => some (z0,z1,z2,z3,z4)) := rfl
noncomputable def Ys.e (k : Nat) : Zj := ent [.d .l] [1] [.o] [52] false (Ys.t k)
noncomputable def YQ.e (k : Nat) : Zj := ent [.agg [.n,.s,.n,.l,.l]] [5] [.n,.s,.n,.o,.o] [54] false (YQ.t k)
noncomputable def Ys.p (k : Nat) : Pro := ⟨Tryz.prog,[(19,YQ.e k)],Zv [(3,kp [0,3,4])] false [],k⟩
noncomputable def Ys.d (k : Nat) (a0 : LD) : Ex → St → Option (LC) := (Ys.p k).fin Tryz.f55 [.d (.sl a0)] [1] [.o]
noncomputable def Ys.s0 (aC : LD) (v : Int × LC) : St :=
 match v with
 | (aD,aJ) => ZaA 23 [(0,.d false (.sl aC)),(3,.row 0),(4,.d true (.int .i64 aD))] [.row none true 52 aJ]
noncomputable def Ys.r0 (k : Nat) (a0 aC : LD) (n : Nat) (v : Int × LC) : Option (LC) := (Ys.p k).lp (ZI Tryz.f55) 3 [1,1,0,1,0] (Ys.d k a0) n (Ys.s0 aC v)
theorem Ys.l0_eq (k : Nat) (a0 aC : LD) : ∀ n v,Ys.r0 k a0 aC n v = ZA (Ys.l0 k (Ys.f k) (YQ.f k) aC (fun z0 => some z0)) n v :=
 Zz (Ys.s0 aC) _ fun L0 v => by obtain ⟨aD,aJ⟩ := v; kernel_rfl
noncomputable def YQ.p (k : Nat) : Pro := ⟨Tryz.prog,[(54,YB.e k),(55,Ys.e k)],Zv [] false [],k⟩
theorem Ys.oks (k : Nat) : Zf Tryz.prog 55 (Ys.e k) ∧ Zf Tryz.prog 19 (YQ.e k) := by
 induction k with
 | zero => exact ⟨Zba Tryz.func55 (by kernel_rfl) (fun _ => rfl),
  Zba Tryz.func19 (by kernel_rfl) (fun _ _ _ _ _ => rfl)⟩
 | succ k ih => exact ⟨Zk (Ys.p k) mix tyok Tryz.func55 ih.2 (by kernel_rfl) (fun a0 => Eq.trans (b := Ys.m k (Ys.f k) (YQ.f k) a0 (fun z0 => some z0) (fun aC => Ys.r0 k a0 aC k)) (by kernel_rfl) ((congrArg (Ys.m k (Ys.f k) (YQ.f k) a0 (fun z0 => some z0)) (funext fun aC => funext fun v => Ys.l0_eq k a0 aC k v)).trans (Ys.t_succ k a0).symm)),
  Zk (YQ.p k) mix tyok Tryz.func19 ⟨YB.ok k,ih.1⟩ (by kernel_rfl) (fun aB aA aH aF aI => by show _ = _; kernel_rfl)⟩
theorem YQ.ok (k : Nat) : Zf Tryz.prog 19 (YQ.e k) := (Ys.oks k).2
noncomputable def Yaw.g {β : Type} (k : Nat) (aB : Int) (aA : BA) (aH aF aI : Int) (bD : Bool) (aV : LD) (bA : Int) (aP : BA) (bB : Int) (aQ aW : LD) (aY : Int) (aR : BA) (bC : Int) (aT aX : LD) (K : Int → BA → Int → Int → Int → Bool → LC → Int → BA → Int → LC → LC → Int → BA → Int → LC → LC → Option β) : Option β :=
 YB.f k aV (fun y9 => YQ.f k bA aP bB aQ aW (fun y44 y45 y46 y47 y48 => YQ.f k aY aR bC aT aX (fun y49 y50 y51 y52 y53 => K aB aA aH aF aI bD y9 y44 y45 y46 y47 y48 y49 y50 y51 y52 y53)))
noncomputable def Yaw.t (k : Nat) (aB : Int) (aA : BA) (aH aF aI : Int) (bD : Bool) (aV : LD) (bA : Int) (aP : BA) (bB : Int) (aQ aW : LD) (aY : Int) (aR : BA) (bC : Int) (aT aX : LD) : Option (Int × BA × Int × Int × Int × Bool × LC × Int × BA × Int × LC × LC × Int × BA × Int × LC × LC) := Yaw.g k aB aA aH aF aI bD aV bA aP bB aQ aW aY aR bC aT aX (fun z0 z1 z2 z3 z4 z5 z6 z7 z8 z9 z10 z11 z12 z13 z14 z15 z16 => some (z0,z1,z2,z3,z4,z5,z6,z7,z8,z9,z10,z11,z12,z13,z14,z15,z16))
noncomputable def Yaw.f {β : Type} (k : Nat) (aB : Int) (aA : BA) (aH aF aI : Int) (bD : Bool) (aV : LD) (bA : Int) (aP : BA) (bB : Int) (aQ aW : LD) (aY : Int) (aR : BA) (bC : Int) (aT aX : LD) (K : Int → BA → Int → Int → Int → Bool → LC → Int → BA → Int → LC → LC → Int → BA → Int → LC → LC → Option β) : Option β := match Yaw.t k aB aA aH aF aI bD aV bA aP bB aQ aW aY aR bC aT aX with | some (z0,z1,z2,z3,z4,z5,z6,z7,z8,z9,z10,z11,z12,z13,z14,z15,z16) => K z0 z1 z2 z3 z4 z5 z6 z7 z8 z9 z10 z11 z12 z13 z14 z15 z16 | none => none
noncomputable def Yaw.e (k : Nat) : Zj := ent [.agg [.n,.s,.n,.n,.n,.b,.l,.n,.s,.n,.l,.l,.n,.s,.n,.l,.l]] [17] [.n,.s,.n,.n,.n,.b,.o,.n,.s,.n,.o,.o,.n,.s,.n,.o,.o] [98] false (Yaw.t k)
noncomputable def Yaw.p (k : Nat) : Pro := ⟨Tryz.prog,[(54,YB.e k),(19,YQ.e k)],Zv [] false [],k⟩
theorem Yaw.ok (k : Nat) : Zf Tryz.prog 93 (Yaw.e k) := Zk (Yaw.p k) mix tyok Tryz.func93 ⟨YB.ok k,YQ.ok k⟩ (by kernel_rfl) (fun aB aA aH aF aI bD aV bA aP bB aQ aW aY aR bC aT aX => by show _ = _; kernel_rfl)
noncomputable def YU.l0 {β : Type} (k : Nat) (aC : LD) (K : LC → Option β) (L0 : (Int × LC) → Option β) (v : Int × LC) : Option β :=
 match v with
 | (aD,aJ) => bif (decide ((aD : Int) < (aC.length : Int))) then (atR aC aD [.n,.s,.n,.n,.n,.b,.l,.n,.s,.n,.l,.l,.n,.s,.n,.l,.l] fun x74 x77 x80 x83 x86 x89 x92 x95 x98 x101 x104 x107 x110 x113 x116 x119 x122 => (Yaw.f k x74 x77 x80 x83 x86 x89 x92 x95 x98 x101 x104 x107 x110 x113 x116 x119 x122 (fun y123 y124 y125 y126 y127 y128 y129 y130 y131 y132 y133 y134 y135 y136 y137 y138 y139 => Zd ((0 : Int) ≤ aD ∧ aD < (aJ.length : Int)) (Zd (Int.toNat aD < aJ.length) (L0 (IntKind.wrap .i64 (aD + 1),aJ.modify (Int.toNat aD) fun c => Zs c 0 [.d (.int .i64 y123),.d (.str y124),.d (.int .i64 y125),.d (.int .i64 y126),.d (.int .i64 y127),.d (.bool y128),.own y129,.d (.int .i64 y130),.d (.str y131),.d (.int .i64 y132),.own y133,.own y134,.d (.int .i64 y135),.d (.str y136),.d (.int .i64 y137),.own y138,.own y139])))))) else (K aJ)
noncomputable def YU.m {β : Type} (k : Nat) (a0 : LD) (K : LC → Option β) (F : (LD → (Int × LC) → Option β)) : Option β :=
 Zd ((0 : Int) ≤ (a0.length : Int) ∧ (a0.length : Int) ≤ (Z8 : Int) ∧ (a0.length : Int) ≤ (a0.length : Int) ∧ (a0.length : Int) ≤ (a0.length : Int)) (F a0 (0,List.replicate (Int.toNat (a0.length : Int)) ([.d (.int .i64 0),.d (.str (⟨#[]⟩ : BA)),.d (.int .i64 0),.d (.int .i64 0),.d (.int .i64 0),.d (.bool false),.own ([] : LC),.d (.int .i64 0),.d (.str (⟨#[]⟩ : BA)),.d (.int .i64 0),.own ([] : LC),.own ([] : LC),.d (.int .i64 0),.d (.str (⟨#[]⟩ : BA)),.d (.int .i64 0),.own ([] : LC),.own ([] : LC)] : List C)))
noncomputable def YU.g {β : Type} (k : Nat) (a0 : LD) (K : LC → Option β) : Option β := YU.m k a0 K (fun aC => ZA (YU.l0 k aC K) k)
noncomputable def YU.t (k : Nat) (a0 : LD) : Option (LC) := YU.g k a0 (fun z0 => some z0)
noncomputable def YU.f {β : Type} (k : Nat) (a0 : LD) (K : LC → Option β) : Option β := bd1 (YU.t k a0) K
noncomputable def YU.e (k : Nat) : Zj := ent [.d .l] [1] [.o] [30] false (YU.t k)
noncomputable def YU.p (k : Nat) : Pro := ⟨Tryz.prog,[(93,Yaw.e k)],Zv [(3,kp [0,3,4])] false [],k⟩
noncomputable def YU.d (k : Nat) (a0 : LD) : Ex → St → Option (LC) := (YU.p k).fin Tryz.f36 [.d (.sl a0)] [1] [.o]
noncomputable def YU.s0 (aC : LD) (v : Int × LC) : St :=
 match v with
 | (aD,aJ) => ZaA 23 [(0,.d false (.sl aC)),(3,.row 0),(4,.d true (.int .i64 aD))] [.row none true 30 aJ]
noncomputable def YU.r0 (k : Nat) (a0 aC : LD) (n : Nat) (v : Int × LC) : Option (LC) := (YU.p k).lp (ZI Tryz.f36) 3 [1,1,0,1,0] (YU.d k a0) n (YU.s0 aC v)
theorem YU.l0_eq (k : Nat) (a0 aC : LD) : ∀ n v,YU.r0 k a0 aC n v = ZA (YU.l0 k aC (fun z0 => some z0)) n v :=
 Zz (YU.s0 aC) _ fun L0 v => by obtain ⟨aD,aJ⟩ := v; kernel_rfl
theorem YU.ok (k : Nat) : Zf Tryz.prog 36 (YU.e k) := Zk (YU.p k) mix tyok Tryz.func36 (Yaw.ok k) (by kernel_rfl) (fun a0 => Eq.trans (b := YU.m k a0 (fun z0 => some z0) (fun aC => YU.r0 k a0 aC k)) (by kernel_rfl) (congrArg (YU.m k a0 (fun z0 => some z0)) (funext fun aC => funext fun v => YU.l0_eq k a0 aC k v) :))
noncomputable def Yac.g {β : Type} (k : Nat) (aB : Int) (aA : LD) (K : Int → LC → Option β) : Option β :=
 YU.f k aA (fun y140 => K aB y140)
noncomputable def Yac.t (k : Nat) (aB : Int) (aA : LD) : Option (Int × LC) := Yac.g k aB aA (fun z0 z1 => some (z0,z1))
noncomputable def Yac.f {β : Type} (k : Nat) (aB : Int) (aA : LD) (K : Int → LC → Option β) : Option β := bd2 (Yac.t k aB aA) K
noncomputable def Yac.e (k : Nat) : Zj := ent [.agg [.n,.l]] [2] [.n,.o] [32] false (Yac.t k)
noncomputable def Yac.p (k : Nat) : Pro := ⟨Tryz.prog,[(36,YU.e k)],Zv [] false [],k⟩
theorem Yac.ok (k : Nat) : Zf Tryz.prog 9 (Yac.e k) := Zk (Yac.p k) mix tyok Tryz.func9 (YU.ok k) (by kernel_rfl) (fun aB aA => by show _ = _; kernel_rfl)
noncomputable def Yal.g {β : Type} (k : Nat) (aB : Int) (aA : Bool) (aH : Int) (aF : BA) (aI bD aV : Int) (bA : Bool) (aP : LD) (bB : Int) (aQ : BA) (aW : Int) (aY aR : LD) (bC : Int) (aT : BA) (aX : Int) (bZ cA : LD) (K : Int → Bool → Int → BA → Int → Int → Int → Bool → LC → Int → BA → Int → LC → LC → Int → BA → Int → LC → LC → Option β) : Option β :=
 Yaw.f k aH aF aI bD aV bA aP bB aQ aW aY aR bC aT aX bZ cA (fun y1 y2 y3 y4 y5 y6 y7 y8 y9 y10 y11 y12 y13 y14 y15 y16 y17 => K aB aA y1 y2 y3 y4 y5 y6 y7 y8 y9 y10 y11 y12 y13 y14 y15 y16 y17)
noncomputable def Yal.t (k : Nat) (aB : Int) (aA : Bool) (aH : Int) (aF : BA) (aI bD aV : Int) (bA : Bool) (aP : LD) (bB : Int) (aQ : BA) (aW : Int) (aY aR : LD) (bC : Int) (aT : BA) (aX : Int) (bZ cA : LD) : Option (Int × Bool × Int × BA × Int × Int × Int × Bool × LC × Int × BA × Int × LC × LC × Int × BA × Int × LC × LC) := Yal.g k aB aA aH aF aI bD aV bA aP bB aQ aW aY aR bC aT aX bZ cA (fun z0 z1 z2 z3 z4 z5 z6 z7 z8 z9 z10 z11 z12 z13 z14 z15 z16 z17 z18 => some (z0,z1,z2,z3,z4,z5,z6,z7,z8,z9,z10,z11,z12,z13,z14,z15,z16,z17,z18))
noncomputable def Yal.f {β : Type} (k : Nat) (aB : Int) (aA : Bool) (aH : Int) (aF : BA) (aI bD aV : Int) (bA : Bool) (aP : LD) (bB : Int) (aQ : BA) (aW : Int) (aY aR : LD) (bC : Int) (aT : BA) (aX : Int) (bZ cA : LD) (K : Int → Bool → Int → BA → Int → Int → Int → Bool → LC → Int → BA → Int → LC → LC → Int → BA → Int → LC → LC → Option β) : Option β := match Yal.t k aB aA aH aF aI bD aV bA aP bB aQ aW aY aR bC aT aX bZ cA with | some (z0,z1,z2,z3,z4,z5,z6,z7,z8,z9,z10,z11,z12,z13,z14,z15,z16,z17,z18) => K z0 z1 z2 z3 z4 z5 z6 z7 z8 z9 z10 z11 z12 z13 z14 z15 z16 z17 z18 | none => none
noncomputable def Yal.e (k : Nat) : Zj := ent [.agg [.n,.b,.n,.s,.n,.n,.n,.b,.l,.n,.s,.n,.l,.l,.n,.s,.n,.l,.l]] [19] [.n,.b,.n,.s,.n,.n,.n,.b,.o,.n,.s,.n,.o,.o,.n,.s,.n,.o,.o] [134] false (Yal.t k)
noncomputable def Yal.p (k : Nat) : Pro := ⟨Tryz.prog,[(93,Yaw.e k)],Zv [] false [],k⟩
theorem Yal.ok (k : Nat) : Zf Tryz.prog 94 (Yal.e k) := Zk (Yal.p k) mix tyok Tryz.func94 (Yaw.ok k) (by kernel_rfl) (fun aB aA aH aF aI bD aV bA aP bB aQ aW aY aR bC aT aX bZ cA => by show _ = _; kernel_rfl)
noncomputable def YH.l0 {β : Type} (k : Nat) (aC : LD) (K : LC → Option β) (L0 : (Int × LC) → Option β) (v : Int × LC) : Option β :=
 match v with
 | (aD,aJ) => bif (decide ((aD : Int) < (aC.length : Int))) then (atR aC aD [.n,.b,.n,.s,.n,.n,.n,.b,.l,.n,.s,.n,.l,.l,.n,.s,.n,.l,.l] fun x81 x84 x87 x90 x93 x96 x99 x102 x105 x108 x111 x114 x117 x120 x123 x126 x129 x132 x135 => (Yal.f k x81 x84 x87 x90 x93 x96 x99 x102 x105 x108 x111 x114 x117 x120 x123 x126 x129 x132 x135 (fun y136 y137 y138 y139 y140 y141 y142 y143 y144 y145 y146 y147 y148 y149 y150 y151 y152 y153 y154 => Zd ((0 : Int) ≤ aD ∧ aD < (aJ.length : Int)) (Zd (Int.toNat aD < aJ.length) (L0 (IntKind.wrap .i64 (aD + 1),aJ.modify (Int.toNat aD) fun c => Zs c 0 [.d (.int .i64 y136),.d (.bool y137),.d (.int .i64 y138),.d (.str y139),.d (.int .i64 y140),.d (.int .i64 y141),.d (.int .i64 y142),.d (.bool y143),.own y144,.d (.int .i64 y145),.d (.str y146),.d (.int .i64 y147),.own y148,.own y149,.d (.int .i64 y150),.d (.str y151),.d (.int .i64 y152),.own y153,.own y154])))))) else (K aJ)
noncomputable def YH.m {β : Type} (k : Nat) (a0 : LD) (K : LC → Option β) (F : (LD → (Int × LC) → Option β)) : Option β :=
 Zd ((0 : Int) ≤ (a0.length : Int) ∧ (a0.length : Int) ≤ (Z8 : Int) ∧ (a0.length : Int) ≤ (a0.length : Int) ∧ (a0.length : Int) ≤ (a0.length : Int)) (F a0 (0,List.replicate (Int.toNat (a0.length : Int)) ([.d (.int .i64 0),.d (.bool false),.d (.int .i64 0),.d (.str (⟨#[]⟩ : BA)),.d (.int .i64 0),.d (.int .i64 0),.d (.int .i64 0),.d (.bool false),.own ([] : LC),.d (.int .i64 0),.d (.str (⟨#[]⟩ : BA)),.d (.int .i64 0),.own ([] : LC),.own ([] : LC),.d (.int .i64 0),.d (.str (⟨#[]⟩ : BA)),.d (.int .i64 0),.own ([] : LC),.own ([] : LC)] : List C)))
noncomputable def YH.g {β : Type} (k : Nat) (a0 : LD) (K : LC → Option β) : Option β := YH.m k a0 K (fun aC => ZA (YH.l0 k aC K) k)
noncomputable def YH.t (k : Nat) (a0 : LD) : Option (LC) := YH.g k a0 (fun z0 => some z0)
noncomputable def YH.f {β : Type} (k : Nat) (a0 : LD) (K : LC → Option β) : Option β := bd1 (YH.t k a0) K
noncomputable def YH.e (k : Nat) : Zj := ent [.d .l] [1] [.o] [36] false (YH.t k)
noncomputable def YH.p (k : Nat) : Pro := ⟨Tryz.prog,[(94,Yal.e k)],Zv [(3,kp [0,3,4])] false [],k⟩
noncomputable def YH.d (k : Nat) (a0 : LD) : Ex → St → Option (LC) := (YH.p k).fin Tryz.f37 [.d (.sl a0)] [1] [.o]
noncomputable def YH.s0 (aC : LD) (v : Int × LC) : St :=
 match v with
 | (aD,aJ) => ZaA 23 [(0,.d false (.sl aC)),(3,.row 0),(4,.d true (.int .i64 aD))] [.row none true 36 aJ]
noncomputable def YH.r0 (k : Nat) (a0 aC : LD) (n : Nat) (v : Int × LC) : Option (LC) := (YH.p k).lp (ZI Tryz.f37) 3 [1,1,0,1,0] (YH.d k a0) n (YH.s0 aC v)
theorem YH.l0_eq (k : Nat) (a0 aC : LD) : ∀ n v,YH.r0 k a0 aC n v = ZA (YH.l0 k aC (fun z0 => some z0)) n v :=
 Zz (YH.s0 aC) _ fun L0 v => by obtain ⟨aD,aJ⟩ := v; kernel_rfl
theorem YH.ok (k : Nat) : Zf Tryz.prog 37 (YH.e k) := Zk (YH.p k) mix tyok Tryz.func37 (Yal.ok k) (by kernel_rfl) (fun a0 => Eq.trans (b := YH.m k a0 (fun z0 => some z0) (fun aC => YH.r0 k a0 aC k)) (by kernel_rfl) (congrArg (YH.m k a0 (fun z0 => some z0)) (funext fun aC => funext fun v => YH.l0_eq k a0 aC k v) :))
noncomputable def Yao.g {β : Type} (k : Nat) (aB : LD) (aA aH : Int) (aF : LD) (K : LC → Int → Int → LC → Option β) : Option β :=
 YU.f k aB (fun y1 => YH.f k aF (fun y155 => K y1 aA aH y155))
noncomputable def Yao.t (k : Nat) (aB : LD) (aA aH : Int) (aF : LD) : Option (LC × Int × Int × LC) := Yao.g k aB aA aH aF (fun z0 z1 z2 z3 => some (z0,z1,z2,z3))
noncomputable def Yao.f {β : Type} (k : Nat) (aB : LD) (aA aH : Int) (aF : LD) (K : LC → Int → Int → LC → Option β) : Option β := bd4 (Yao.t k aB aA aH aF) K
noncomputable def Yao.e (k : Nat) : Zj := ent [.agg [.l,.n,.n,.l]] [4] [.o,.n,.n,.o] [38] false (Yao.t k)
noncomputable def Yao.p (k : Nat) : Pro := ⟨Tryz.prog,[(36,YU.e k),(37,YH.e k)],Zv [] false [],k⟩
theorem Yao.ok (k : Nat) : Zf Tryz.prog 10 (Yao.e k) := Zk (Yao.p k) mix tyok Tryz.func10 ⟨YU.ok k,YH.ok k⟩ (by kernel_rfl) (fun aB aA aH aF => by show _ = _; kernel_rfl)
noncomputable def YJ.g {β : Type} (k : Nat) (a0 a1 a2 : Int) (K : Bool → Option β) : Option β :=
 bif (decide ((a0 : Int) ≥ a1)) then (K (decide ((a0 : Int) ≤ a2))) else (K false)
noncomputable def YJ.t (k : Nat) (a0 a1 a2 : Int) : Option (Bool) := YJ.g k a0 a1 a2 (fun z0 => some z0)
noncomputable def YJ.f {β : Type} (k : Nat) (a0 a1 a2 : Int) (K : Bool → Option β) : Option β := bd1 (YJ.t k a0 a1 a2) K
noncomputable def YJ.e (k : Nat) : Zj := ent [.d .n,.d .n,.d .n] [1] [.b] [4] false (YJ.t k)
noncomputable def YJ.p (k : Nat) : Pro := ⟨Tryz.prog,[],Zv [] false [],k⟩
theorem YJ.ok (k : Nat) : Zf Tryz.prog 86 (YJ.e k) := Zk (YJ.p k) mix tyok Tryz.func86 trivial (by kernel_rfl) (fun a0 a1 a2 => by show _ = _; kernel_rfl)
noncomputable def Yo.l0 {β : Type} (k : Nat) (aC : BA) (K : Bool → Option β) (L0 : Int → Option β) (v : Int) : Option β :=
 match v with
 | aD => bif (decide ((aD : Int) < (aC.size : Int))) then (atStr aC aD fun b9 => YJ.f k (IntKind.wrap .i64 b9) 97 122 (fun y10 => bif (!y10) then (atStr aC aD fun b11 => YJ.f k (IntKind.wrap .i64 b11) 48 57 (fun y12 => bif (!y12) then (atStr aC aD fun b13 => bif ((b13 : Int) != 45) then (K false) else (L0 (IntKind.wrap .i64 (aD + 1)))) else (L0 (IntKind.wrap .i64 (aD + 1))))) else (L0 (IntKind.wrap .i64 (aD + 1))))) else (YJ.f k (aC.size : Int) 1 20 (fun y14 => bif y14 then (atStr aC 0 fun b15 => bif ((b15 : Int) != 45) then (atStr aC (IntKind.wrap .i64 ((aC.size : Int) - 1)) fun b16 => K ((b16 : Int) != 45)) else (K false)) else (K false)))
noncomputable def Yo.m {β : Type} (k : Nat) (a0 : BA) (K : Bool → Option β) (F : (BA → Int → Option β)) : Option β :=
 F a0 (0)
noncomputable def Yo.g {β : Type} (k : Nat) (a0 : BA) (K : Bool → Option β) : Option β :=
 ZA (Yo.l0 k a0 K) k (0)
noncomputable def Yo.t (k : Nat) (a0 : BA) : Option (Bool) := Yo.g k a0 (fun z0 => some z0)
noncomputable def Yo.f {β : Type} (k : Nat) (a0 : BA) (K : Bool → Option β) : Option β := bd1 (Yo.t k a0) K
noncomputable def Yo.e (k : Nat) : Zj := ent [.d .s] [1] [.b] [4] false (Yo.t k)
noncomputable def Yo.p (k : Nat) : Pro := ⟨Tryz.prog,[(86,YJ.e k)],Zv [(2,kp [0,3])] false [],k⟩
noncomputable def Yo.d (k : Nat) (a0 : BA) : Ex → St → Option (Bool) := (Yo.p k).fin Tryz.f107 [.d (.str a0)] [1] [.b]
noncomputable def Yo.s0 (aC : BA) (v : Int) : St :=
 match v with
 | aD => ZaA 46 [(0,.d false (.str aC)),(3,.d true (.int .i64 aD))] []
noncomputable def Yo.r0 (k : Nat) (a0 aC : BA) (n : Nat) (v : Int) : Option (Bool) := (Yo.p k).lp (ZI Tryz.f107) 2 [1,0,1,0] (Yo.d k a0) n (Yo.s0 aC v)
theorem Yo.l0_eq (k : Nat) (a0 aC : BA) : ∀ n v,Yo.r0 k a0 aC n v = ZA (Yo.l0 k aC (fun z0 => some z0)) n v :=
 Zz (Yo.s0 aC) _ fun L0 v => by kernel_rfl
theorem Yo.ok (k : Nat) : Zf Tryz.prog 107 (Yo.e k) := Zk (Yo.p k) mix tyok Tryz.func107 (YJ.ok k) (by kernel_rfl) (fun a0 => Eq.trans (b := Yo.m k a0 (fun z0 => some z0) (fun aC => Yo.r0 k a0 aC k)) (by kernel_rfl) (congrArg (Yo.m k a0 (fun z0 => some z0)) (funext fun aC => funext fun v => Yo.l0_eq k a0 aC k v) :))
noncomputable def Yw.l0 {β : Type} (k : Nat) (aC : LD) (K : Bool → Option β) (L0 : Int → Option β) (v : Int) : Option β :=
 match v with
 | aD => bif (decide ((aD : Int) < (aC.length : Int))) then (atR aC aD [.s] fun x17 => (Yo.f k x17 (fun y18 => bif (!y18) then (K false) else (bif (decide ((aD : Int) > 0)) then (atR aC (IntKind.wrap .i64 (aD - 1)) [.s] fun x22 => (atR aC aD [.s] fun x26 => (bif (!(strLt x22 x26)) then (K false) else (L0 (IntKind.wrap .i64 (aD + 1)))))) else (L0 (IntKind.wrap .i64 (aD + 1))))))) else (K (decide (((aC.length : Int) : Int) ≤ 4)))
noncomputable def Yw.m {β : Type} (k : Nat) (a0 : LD) (K : Bool → Option β) (F : (LD → Int → Option β)) : Option β :=
 F a0 (0)
noncomputable def Yw.g {β : Type} (k : Nat) (a0 : LD) (K : Bool → Option β) : Option β :=
 ZA (Yw.l0 k a0 K) k (0)
noncomputable def Yw.t (k : Nat) (a0 : LD) : Option (Bool) := Yw.g k a0 (fun z0 => some z0)
noncomputable def Yw.f {β : Type} (k : Nat) (a0 : LD) (K : Bool → Option β) : Option β := bd1 (Yw.t k a0) K
noncomputable def Yw.e (k : Nat) : Zj := ent [.d .l] [1] [.b] [4] false (Yw.t k)
noncomputable def Yw.p (k : Nat) : Pro := ⟨Tryz.prog,[(107,Yo.e k)],Zv [(2,kp [0,3])] false [],k⟩
noncomputable def Yw.d (k : Nat) (a0 : LD) : Ex → St → Option (Bool) := (Yw.p k).fin Tryz.f173 [.d (.sl a0)] [1] [.b]
noncomputable def Yw.s0 (aC : LD) (v : Int) : St :=
 match v with
 | aD => ZaA 35 [(0,.d false (.sl aC)),(3,.d true (.int .i64 aD))] []
noncomputable def Yw.r0 (k : Nat) (a0 aC : LD) (n : Nat) (v : Int) : Option (Bool) := (Yw.p k).lp (ZI Tryz.f173) 2 [1,0,1,0] (Yw.d k a0) n (Yw.s0 aC v)
theorem Yw.l0_eq (k : Nat) (a0 aC : LD) : ∀ n v,Yw.r0 k a0 aC n v = ZA (Yw.l0 k aC (fun z0 => some z0)) n v :=
 Zz (Yw.s0 aC) _ fun L0 v => by kernel_rfl
theorem Yw.ok (k : Nat) : Zf Tryz.prog 173 (Yw.e k) := Zk (Yw.p k) mix tyok Tryz.func173 (Yo.ok k) (by kernel_rfl) (fun a0 => Eq.trans (b := Yw.m k a0 (fun z0 => some z0) (fun aC => Yw.r0 k a0 aC k)) (by kernel_rfl) (congrArg (Yw.m k a0 (fun z0 => some z0)) (funext fun aC => funext fun v => Yw.l0_eq k a0 aC k v) :))
noncomputable def Yab.l0 {β : Type} (k : Nat) (aC : BA) (K : Bool → Option β) (L0 : Int → Option β) (v : Int) : Option β :=
 match v with
 | aD => bif (decide ((aD : Int) < (aC.size : Int))) then (atStr aC aD fun b3 => YJ.f k (IntKind.wrap .i64 b3) 32 126 (fun y4 => bif (!y4) then (K false) else (L0 (IntKind.wrap .i64 (aD + 1))))) else (K (decide (((aC.size : Int) : Int) ≤ 100)))
noncomputable def Yab.m {β : Type} (k : Nat) (a0 : BA) (K : Bool → Option β) (F : (BA → Int → Option β)) : Option β :=
 F a0 (0)
noncomputable def Yab.g {β : Type} (k : Nat) (a0 : BA) (K : Bool → Option β) : Option β :=
 ZA (Yab.l0 k a0 K) k (0)
noncomputable def Yab.t (k : Nat) (a0 : BA) : Option (Bool) := Yab.g k a0 (fun z0 => some z0)
noncomputable def Yab.f {β : Type} (k : Nat) (a0 : BA) (K : Bool → Option β) : Option β := bd1 (Yab.t k a0) K
noncomputable def Yab.e (k : Nat) : Zj := ent [.d .s] [1] [.b] [4] false (Yab.t k)
noncomputable def Yab.p (k : Nat) : Pro := ⟨Tryz.prog,[(86,YJ.e k)],Zv [(2,kp [0,3])] false [],k⟩
noncomputable def Yab.d (k : Nat) (a0 : BA) : Ex → St → Option (Bool) := (Yab.p k).fin Tryz.f146 [.d (.str a0)] [1] [.b]
noncomputable def Yab.s0 (aC : BA) (v : Int) : St :=
 match v with
 | aD => ZaA 19 [(0,.d false (.str aC)),(3,.d true (.int .i64 aD))] []
noncomputable def Yab.r0 (k : Nat) (a0 aC : BA) (n : Nat) (v : Int) : Option (Bool) := (Yab.p k).lp (ZI Tryz.f146) 2 [1,0,1,0] (Yab.d k a0) n (Yab.s0 aC v)
theorem Yab.l0_eq (k : Nat) (a0 aC : BA) : ∀ n v,Yab.r0 k a0 aC n v = ZA (Yab.l0 k aC (fun z0 => some z0)) n v :=
 Zz (Yab.s0 aC) _ fun L0 v => by kernel_rfl
theorem Yab.ok (k : Nat) : Zf Tryz.prog 146 (Yab.e k) := Zk (Yab.p k) mix tyok Tryz.func146 (YJ.ok k) (by kernel_rfl) (fun a0 => Eq.trans (b := Yab.m k a0 (fun z0 => some z0) (fun aC => Yab.r0 k a0 aC k)) (by kernel_rfl) (congrArg (Yab.m k a0 (fun z0 => some z0)) (funext fun aC => funext fun v => Yab.l0_eq k a0 aC k v) :))
noncomputable def Y4.l0 {β : Type} (k : Nat) (aD : Int) (aJ : BA) (aK : Int) (aL aZ : LD) (K : Bool → Option β) (L0 : Int → Option β) (v : Int) : Option β :=
 match v with
 | aC => bif (decide ((aC : Int) < (aL.length : Int))) then (atR aL aC [.s] fun x17 => (Yo.f k x17 (fun y18 => bif (!y18) then (K false) else (bif (decide ((aC : Int) > 0)) then (atR aL (IntKind.wrap .i64 (aC - 1)) [.s] fun x22 => (atR aL aC [.s] fun x26 => (bif (!(strLt x22 x26)) then (K false) else (L0 (IntKind.wrap .i64 (aC + 1)))))) else (L0 (IntKind.wrap .i64 (aC + 1))))))) else (K (((aL.length : Int) : Int) == (aZ.length : Int)))
noncomputable def Y4.m {β : Type} (k : Nat) (aB : Int) (aA : BA) (aH : Int) (aF aI : LD) (K : Bool → Option β) (F : (Int → BA → Int → LD → LD → Int → Option β)) : Option β :=
 F aB aA aH aF aI (0)
noncomputable def Y4.g {β : Type} (k : Nat) (aB : Int) (aA : BA) (aH : Int) (aF aI : LD) (K : Bool → Option β) : Option β :=
 ZA (Y4.l0 k aB aA aH aF aI K) k (0)
noncomputable def Y4.t (k : Nat) (aB : Int) (aA : BA) (aH : Int) (aF aI : LD) : Option (Bool) := Y4.g k aB aA aH aF aI (fun z0 => some z0)
noncomputable def Y4.f {β : Type} (k : Nat) (aB : Int) (aA : BA) (aH : Int) (aF aI : LD) (K : Bool → Option β) : Option β := bd1 (Y4.t k aB aA aH aF aI) K
noncomputable def Y4.e (k : Nat) : Zj := ent [.agg [.n,.s,.n,.l,.l]] [1] [.b] [4] false (Y4.t k)
noncomputable def Y4.p (k : Nat) : Pro := ⟨Tryz.prog,[(107,Yo.e k)],Zv [(2,kp [1,3])] false [],k⟩
noncomputable def Y4.d (k : Nat) (aB : Int) (aA : BA) (aH : Int) (aF aI : LD) : Ex → St → Option (Bool) := (Y4.p k).fin Tryz.f147 [.agg [.int .i64 aB,.str aA,.int .i64 aH,.sl aF,.sl aI]] [1] [.b]
noncomputable def Y4.s0 (aD : Int) (aJ : BA) (aK : Int) (aL aZ : LD) (v : Int) : St :=
 match v with
 | aC => ZaA 43 [(1,.bp 0 0),(3,.d true (.int .i64 aC))] [.box none 54 [.d false (.int .i64 aD),.d false (.str aJ),.d false (.int .i64 aK),.d false (.sl aL),.d false (.sl aZ)]]
noncomputable def Y4.r0 (k : Nat) (aB : Int) (aA : BA) (aH : Int) (aF aI : LD) (aD : Int) (aJ : BA) (aK : Int) (aL aZ : LD) (n : Nat) (v : Int) : Option (Bool) := (Y4.p k).lp (ZI Tryz.f147) 2 [1,0,1,0] (Y4.d k aB aA aH aF aI) n (Y4.s0 aD aJ aK aL aZ v)
theorem Y4.l0_eq (k : Nat) (aB : Int) (aA : BA) (aH : Int) (aF aI : LD) (aD : Int) (aJ : BA) (aK : Int) (aL aZ : LD) : ∀ n v,Y4.r0 k aB aA aH aF aI aD aJ aK aL aZ n v = ZA (Y4.l0 k aD aJ aK aL aZ (fun z0 => some z0)) n v :=
 Zz (Y4.s0 aD aJ aK aL aZ) _ fun L0 v => by kernel_rfl
theorem Y4.ok (k : Nat) : Zf Tryz.prog 147 (Y4.e k) := Zk (Y4.p k) mix tyok Tryz.func147 (Yo.ok k) (by kernel_rfl) (fun aB aA aH aF aI => Eq.trans (b := Y4.m k aB aA aH aF aI (fun z0 => some z0) (fun aD aJ aK aL aZ => Y4.r0 k aB aA aH aF aI aD aJ aK aL aZ k)) (by kernel_rfl) (congrArg (Y4.m k aB aA aH aF aI (fun z0 => some z0)) (funext fun aD => funext fun aJ => funext fun aK => funext fun aL => funext fun aZ => funext fun v => Y4.l0_eq k aB aA aH aF aI aD aJ aK aL aZ k v) :))
noncomputable def Yy.l0 {β : Type} (k : Nat) (r_spec_l4Look : Int → BA → Int → LD → LD → Int → (Int → Option β) → Option β) (aC aK : Int) (aL : BA) (aZ : Int) (bE bG : LD) (K : Int → Option β) (L0 : (Int × Int) → Option β) (v : Int × Int) : Option β :=
 match v with
 | (aD,aJ) => bif (decide ((aJ : Int) < (bG.length : Int))) then (atR bG aJ [.n,.s,.n,.l,.l] fun x32 x35 x38 x41 x44 => (r_spec_l4Look x32 x35 x38 x41 x44 (IntKind.wrap .i64 (aC - 1)) (fun y45 => bif ((y45 : Int) == 0) then (K 0) else (bif (decide (((IntKind.wrap .i64 (aD + y45)) : Int) > 300)) then (K 0) else (L0 (IntKind.wrap .i64 (aD + y45),IntKind.wrap .i64 (aJ + 1))))))) else (let J1 := (bif (Zae aL (⟨#[]⟩ : BA)) then (bif (!((aZ : Int) == 0)) then (K 0) else (K aD)) else (K 0)); let J0 := (bif (((bE.length : Int) : Int) == 0) then J1 else (K 0)); bif (((bE.length : Int) : Int) == 0) then (bif ((aK : Int) == 1) then (bif (((bG.length : Int) : Int) == 0) then (bif ((aZ : Int) == 0) then (Yab.f k aL (fun y46 => bif (!y46) then (K 0) else (K aD))) else (K 0)) else (K 0)) else (bif ((aK : Int) == 2) then (bif (((bG.length : Int) : Int) == 0) then (bif (!(Zae aL (⟨#[]⟩ : BA))) then (K 0) else (K aD)) else (K 0)) else (bif ((aK : Int) == 3) then (bif (((bG.length : Int) : Int) == 0) then (bif (Zae aL (⟨#[]⟩ : BA)) then (YJ.f k aZ 0 1 (fun y47 => bif (!y47) then (K 0) else (K aD))) else (K 0)) else (K 0)) else (bif ((aK : Int) == 4) then J0 else (bif ((aK : Int) == 5) then (Y4.f k aK aL aZ bE bG (fun y48 => bif y48 then J1 else (K 0))) else (K 0)))))) else (bif ((aK : Int) == 1) then (K 0) else (bif ((aK : Int) == 2) then (K 0) else (bif ((aK : Int) == 3) then (K 0) else (bif ((aK : Int) == 4) then J0 else (bif ((aK : Int) == 5) then (Y4.f k aK aL aZ bE bG (fun y49 => bif y49 then J1 else (K 0))) else (K 0)))))))
noncomputable def Yy.m {β : Type} (k : Nat) (r_spec_l4Look : Int → BA → Int → LD → LD → Int → (Int → Option β) → Option β) (aB : Int) (aA : BA) (aH : Int) (aF aI : LD) (a1 : Int) (K : Int → Option β) (F : (Int → Int → BA → Int → LD → LD → (Int × Int) → Option β)) : Option β :=
 bif ((a1 : Int) == 0) then (K 0) else (F a1 aB aA aH aF aI (1,0))
noncomputable def Yy.body {β : Type} (k : Nat) (r_spec_l4Look : Int → BA → Int → LD → LD → Int → (Int → Option β) → Option β) (aB : Int) (aA : BA) (aH : Int) (aF aI : LD) (a1 : Int) (K : Int → Option β) : Option β :=
 bif ((a1 : Int) == 0) then (K 0) else (ZA (Yy.l0 k r_spec_l4Look a1 aB aA aH aF aI K) k (1,0))
noncomputable def Yy.w {β : Type} (r : Int → BA → Int → LD → LD → Int → Option (Int)) (aB : Int) (aA : BA) (aH : Int) (aF aI : LD) (a1 : Int) (K : Int → Option β) : Option β := bd1 (r aB aA aH aF aI a1) K
noncomputable def Yy.all : Nat → (Int → BA → Int → LD → LD → Int → Option (Int))
 | 0 => (fun _ _ _ _ _ _ => none)
 | k + 1 => (fun r => (fun aB aA aH aF aI a1 => Yy.body k (Yy.w r) aB aA aH aF aI a1 (fun z0 => some z0))) (Yy.all k)
noncomputable def Yy.t (k : Nat) (aB : Int) (aA : BA) (aH : Int) (aF aI : LD) (a1 : Int) : Option (Int) := (Yy.all k) aB aA aH aF aI a1
noncomputable def Yy.f {β : Type} (k : Nat) (aB : Int) (aA : BA) (aH : Int) (aF aI : LD) (a1 : Int) (K : Int → Option β) : Option β := Yy.w (Yy.t k) aB aA aH aF aI a1 K
noncomputable def Yy.g {β : Type} (k : Nat) (aB : Int) (aA : BA) (aH : Int) (aF aI : LD) (a1 : Int) (K : Int → Option β) : Option β := Yy.body k (Yy.f k) aB aA aH aF aI a1 K
theorem Yy.t_succ (k : Nat) (aB : Int) (aA : BA) (aH : Int) (aF aI : LD) (a1 : Int) : Yy.t (k + 1) aB aA aH aF aI a1 = Yy.g k aB aA aH aF aI a1 (fun z0 => some z0) := rfl
noncomputable def Yy.e (k : Nat) : Zj := ent [.agg [.n,.s,.n,.l,.l],.d .n] [1] [.n] [3] false (Yy.t k)
noncomputable def Yy.p (k : Nat) : Pro := ⟨Tryz.prog,[(108,Yy.e k),(146,Yab.e k),(86,YJ.e k),(147,Y4.e k)],Zv [(5,kp [1,2,5,6])] false [],k⟩
noncomputable def Yy.d (k : Nat) (aB : Int) (aA : BA) (aH : Int) (aF aI : LD) (a1 : Int) : Ex → St → Option (Int) := (Yy.p k).fin Tryz.f108 [.agg [.int .i64 aB,.str aA,.int .i64 aH,.sl aF,.sl aI],.d (.int .i64 a1)] [1] [.n]
noncomputable def Yy.s0 (aC aK : Int) (aL : BA) (aZ : Int) (bE bG : LD) (v : Int × Int) : St :=
 match v with
 | (aD,aJ) => ZaA 117 [(1,.d false (.int .i64 aC)),(2,.bp 0 0),(5,.d true (.int .i64 aD)),(6,.d true (.int .i64 aJ))] [.box none 54 [.d false (.int .i64 aK),.d false (.str aL),.d false (.int .i64 aZ),.d false (.sl bE),.d false (.sl bG)]]
noncomputable def Yy.r0 (k : Nat) (aB : Int) (aA : BA) (aH : Int) (aF aI : LD) (a1 aC aK : Int) (aL : BA) (aZ : Int) (bE bG : LD) (n : Nat) (v : Int × Int) : Option (Int) := (Yy.p k).lp (ZI Tryz.f108) 5 [1,1,1,0,1,0] (Yy.d k aB aA aH aF aI a1) n (Yy.s0 aC aK aL aZ bE bG v)
theorem Yy.l0_eq (k : Nat) (aB : Int) (aA : BA) (aH : Int) (aF aI : LD) (a1 aC aK : Int) (aL : BA) (aZ : Int) (bE bG : LD) : ∀ n v,Yy.r0 k aB aA aH aF aI a1 aC aK aL aZ bE bG n v = ZA (Yy.l0 k (Yy.f k) aC aK aL aZ bE bG (fun z0 => some z0)) n v :=
 Zz (Yy.s0 aC aK aL aZ bE bG) _ fun L0 v => by obtain ⟨aD,aJ⟩ := v; kernel_rfl
theorem Yy.oks (k : Nat) : Zf Tryz.prog 108 (Yy.e k) := by
 induction k with
 | zero => exact Zba Tryz.func108 (by kernel_rfl) (fun _ _ _ _ _ _ => rfl)
 | succ k ih => exact Zk (Yy.p k) mix tyok Tryz.func108 ⟨ih,Yab.ok k,YJ.ok k,Y4.ok k⟩ (by kernel_rfl) (fun aB aA aH aF aI a1 => Eq.trans (b := Yy.m k (Yy.f k) aB aA aH aF aI a1 (fun z0 => some z0) (fun aC aK aL aZ bE bG => Yy.r0 k aB aA aH aF aI a1 aC aK aL aZ bE bG k)) (by kernel_rfl) ((congrArg (Yy.m k (Yy.f k) aB aA aH aF aI a1 (fun z0 => some z0)) (funext fun aC => funext fun aK => funext fun aL => funext fun aZ => funext fun bE => funext fun bG => funext fun v => Yy.l0_eq k aB aA aH aF aI a1 aC aK aL aZ bE bG k v)).trans (Yy.t_succ k aB aA aH aF aI a1).symm))
theorem Yy.ok (k : Nat) : Zf Tryz.prog 108 (Yy.e k) := (Yy.oks k)
noncomputable def YF.g {β : Type} (k : Nat) (aB : Int) (aA : BA) (aH : Int) (aF aI : LD) (K : Bool → Option β) : Option β :=
 Yy.f k aB aA aH aF aI 6 (fun y50 => K (decide ((y50 : Int) > 0)))
noncomputable def YF.t (k : Nat) (aB : Int) (aA : BA) (aH : Int) (aF aI : LD) : Option (Bool) := YF.g k aB aA aH aF aI (fun z0 => some z0)
noncomputable def YF.f {β : Type} (k : Nat) (aB : Int) (aA : BA) (aH : Int) (aF aI : LD) (K : Bool → Option β) : Option β := bd1 (YF.t k aB aA aH aF aI) K
noncomputable def YF.e (k : Nat) : Zj := ent [.agg [.n,.s,.n,.l,.l]] [1] [.b] [4] false (YF.t k)
noncomputable def YF.p (k : Nat) : Pro := ⟨Tryz.prog,[(108,Yy.e k)],Zv [] false [],k⟩
theorem YF.ok (k : Nat) : Zf Tryz.prog 49 (YF.e k) := Zk (YF.p k) mix tyok Tryz.func49 (Yy.ok k) (by kernel_rfl) (fun aB aA aH aF aI => by show _ = _; kernel_rfl)
noncomputable def Yas.g {β : Type} (k : Nat) (aB : Int) (aA : BA) (aH aF aI : Int) (bD : Bool) (aV : LD) (bA : Int) (aP : BA) (bB : Int) (aQ aW : LD) (aY : Int) (aR : BA) (bC : Int) (aT aX : LD) (a1 a2 : Int) (a3 : Bool) (K : Bool → Option β) : Option β :=
 YJ.f k aB 1 3 (fun y1 => bif y1 then (Yo.f k aA (fun y17 => bif y17 then (YJ.f k aH 1 (IntKind.wrap .i64 (a2 - 1)) (fun y18 => bif y18 then (YJ.f k aF 1 a1 (fun y19 => bif y19 then (YJ.f k aI 1 aF (fun y20 => bif y20 then (Yw.f k aV (fun y27 => bif y27 then (YF.f k bA aP bB aQ aW (fun y51 => bif y51 then (YF.f k aY aR bC aT aX (fun y52 => bif y52 then (bif a3 then (K true) else (bif (!bD) then (K true) else (K (decide (((aV.length : Int) : Int) > 0))))) else (K false))) else (K false))) else (K false))) else (K false))) else (K false))) else (K false))) else (K false))) else (K false))
noncomputable def Yas.t (k : Nat) (aB : Int) (aA : BA) (aH aF aI : Int) (bD : Bool) (aV : LD) (bA : Int) (aP : BA) (bB : Int) (aQ aW : LD) (aY : Int) (aR : BA) (bC : Int) (aT aX : LD) (a1 a2 : Int) (a3 : Bool) : Option (Bool) := Yas.g k aB aA aH aF aI bD aV bA aP bB aQ aW aY aR bC aT aX a1 a2 a3 (fun z0 => some z0)
noncomputable def Yas.f {β : Type} (k : Nat) (aB : Int) (aA : BA) (aH aF aI : Int) (bD : Bool) (aV : LD) (bA : Int) (aP : BA) (bB : Int) (aQ aW : LD) (aY : Int) (aR : BA) (bC : Int) (aT aX : LD) (a1 a2 : Int) (a3 : Bool) (K : Bool → Option β) : Option β := bd1 (Yas.t k aB aA aH aF aI bD aV bA aP bB aQ aW aY aR bC aT aX a1 a2 a3) K
noncomputable def Yas.e (k : Nat) : Zj := ent [.agg [.n,.s,.n,.n,.n,.b,.l,.n,.s,.n,.l,.l,.n,.s,.n,.l,.l],.d .n,.d .n,.d .b] [1] [.b] [4] false (Yas.t k)
noncomputable def Yas.p (k : Nat) : Pro := ⟨Tryz.prog,[(86,YJ.e k),(107,Yo.e k),(173,Yw.e k),(49,YF.e k)],Zv [] false [],k⟩
theorem Yas.ok (k : Nat) : Zf Tryz.prog 140 (Yas.e k) := Zk (Yas.p k) mix tyok Tryz.func140 ⟨YJ.ok k,Yo.ok k,Yw.ok k,YF.ok k⟩ (by kernel_rfl) (fun aB aA aH aF aI bD aV bA aP bB aQ aW aY aR bC aT aX a1 a2 a3 => by show _ = _; kernel_rfl)
noncomputable def YaH.g {β : Type} (k : Nat) (aB : Int) (aA : BA) (aH aF aI : Int) (bD : Bool) (aV : LD) (bA : Int) (aP : BA) (bB : Int) (aQ aW : LD) (aY : Int) (aR : BA) (bC : Int) (aT aX : LD) (aM : Int) (aN : BA) (aU aO bF : Int) (bH : Bool) (bI : LD) (bJ : Int) (bK : BA) (bL : Int) (bM bN : LD) (bO : Int) (bP : BA) (bQ : Int) (bR bT : LD) (K : Bool → Option β) : Option β :=
 bif (decide ((aB : Int) < aM)) then (K true) else (bif ((aB : Int) == aM) then (K (strLt aA aN)) else (K false))
noncomputable def YaH.t (k : Nat) (aB : Int) (aA : BA) (aH aF aI : Int) (bD : Bool) (aV : LD) (bA : Int) (aP : BA) (bB : Int) (aQ aW : LD) (aY : Int) (aR : BA) (bC : Int) (aT aX : LD) (aM : Int) (aN : BA) (aU aO bF : Int) (bH : Bool) (bI : LD) (bJ : Int) (bK : BA) (bL : Int) (bM bN : LD) (bO : Int) (bP : BA) (bQ : Int) (bR bT : LD) : Option (Bool) := YaH.g k aB aA aH aF aI bD aV bA aP bB aQ aW aY aR bC aT aX aM aN aU aO bF bH bI bJ bK bL bM bN bO bP bQ bR bT (fun z0 => some z0)
noncomputable def YaH.f {β : Type} (k : Nat) (aB : Int) (aA : BA) (aH aF aI : Int) (bD : Bool) (aV : LD) (bA : Int) (aP : BA) (bB : Int) (aQ aW : LD) (aY : Int) (aR : BA) (bC : Int) (aT aX : LD) (aM : Int) (aN : BA) (aU aO bF : Int) (bH : Bool) (bI : LD) (bJ : Int) (bK : BA) (bL : Int) (bM bN : LD) (bO : Int) (bP : BA) (bQ : Int) (bR bT : LD) (K : Bool → Option β) : Option β := bd1 (YaH.t k aB aA aH aF aI bD aV bA aP bB aQ aW aY aR bC aT aX aM aN aU aO bF bH bI bJ bK bL bM bN bO bP bQ bR bT) K
noncomputable def YaH.e (k : Nat) : Zj := ent [.agg [.n,.s,.n,.n,.n,.b,.l,.n,.s,.n,.l,.l,.n,.s,.n,.l,.l],.agg [.n,.s,.n,.n,.n,.b,.l,.n,.s,.n,.l,.l,.n,.s,.n,.l,.l]] [1] [.b] [4] false (YaH.t k)
noncomputable def YaH.p (k : Nat) : Pro := ⟨Tryz.prog,[],Zv [] false [],k⟩
theorem YaH.ok (k : Nat) : Zf Tryz.prog 141 (YaH.e k) := Zk (YaH.p k) mix tyok Tryz.func141 trivial (by kernel_rfl) (fun aB aA aH aF aI bD aV bA aP bB aQ aW aY aR bC aT aX aM aN aU aO bF bH bI bJ bK bL bM bN bO bP bQ bR bT => by show _ = _; kernel_rfl)
noncomputable def Ym.l2 {β : Type} (k : Nat) (v2_0 : LD) (v2_1 v2_2 v2_3 : Int) (L0 : (LD × Int × Int × Int) → Option β) (K : Bool → Option β) (L2 : Int → Option β) (v : Int) : Option β :=
 match v with
 | v2_4 => bif (decide ((v2_4 : Int) < v2_3)) then (atR v2_0 v2_4 [.n,.s,.n,.n,.n,.b,.l,.n,.s,.n,.l,.l,.n,.s,.n,.l,.l] fun x1048 x1051 x1054 x1057 x1060 x1063 x1066 x1069 x1072 x1075 x1078 x1081 x1084 x1087 x1090 x1093 x1096 => (atR v2_0 v2_3 [.n,.s,.n,.n,.n,.b,.l,.n,.s,.n,.l,.l,.n,.s,.n,.l,.l] fun x1100 x1103 x1106 x1109 x1112 x1115 x1118 x1121 x1124 x1127 x1130 x1133 x1136 x1139 x1142 x1145 x1148 => (bif ((x1054 : Int) == x1106) then (K false) else (L2 (IntKind.wrap .i64 (v2_4 + 1)))))) else (L0 (v2_0,v2_1,v2_2,IntKind.wrap .i64 (v2_3 + 1)))
noncomputable def Ym.l1 {β : Type} (k : Nat) (v1_0 : LD) (v1_1 v1_2 v1_3 : Int) (L0 : (LD × Int × Int × Int) → Option β) (K : Bool → Option β) (L1 : Int → Option β) (v : Int) : Option β :=
 match v with
 | v1_4 => bif (decide ((v1_4 : Int) < v1_3)) then (atR v1_0 v1_4 [.n,.s,.n,.n,.n,.b,.l,.n,.s,.n,.l,.l,.n,.s,.n,.l,.l] fun x840 x843 x846 x849 x852 x855 x858 x861 x864 x867 x870 x873 x876 x879 x882 x885 x888 => (atR v1_0 v1_3 [.n,.s,.n,.n,.n,.b,.l,.n,.s,.n,.l,.l,.n,.s,.n,.l,.l] fun x892 x895 x898 x901 x904 x907 x910 x913 x916 x919 x922 x925 x928 x931 x934 x937 x940 => (bif ((x846 : Int) == x898) then (K false) else (L1 (IntKind.wrap .i64 (v1_4 + 1)))))) else (L0 (v1_0,v1_1,v1_2,IntKind.wrap .i64 (v1_3 + 1)))
noncomputable def Ym.m0 {β : Type} (k : Nat) (K : Bool → Option β) (L0 : (LD × Int × Int × Int) → Option β) (v : LD × Int × Int × Int) (F : (LD → Int → Int → Int → Int → Option β) × (LD → Int → Int → Int → Int → Option β)) : Option β :=
 match v with
 | (aC,aD,aJ,aK) => bif (decide ((aK : Int) < (aC.length : Int))) then (atR aC aK [.n,.s,.n,.n,.n,.b,.l,.n,.s,.n,.l,.l,.n,.s,.n,.l,.l] fun x578 x581 x584 x587 x590 x593 x596 x599 x602 x605 x608 x611 x614 x617 x620 x623 x626 => (Yas.f k x578 x581 x584 x587 x590 x593 x596 x599 x602 x605 x608 x611 x614 x617 x620 x623 x626 aD aJ false (fun y627 => bif (!y627) then (K false) else (bif (decide ((aK : Int) > 0)) then (atR aC (IntKind.wrap .i64 (aK - 1)) [.n,.s,.n,.n,.n,.b,.l,.n,.s,.n,.l,.l,.n,.s,.n,.l,.l] fun x631 x634 x637 x640 x643 x646 x649 x652 x655 x658 x661 x664 x667 x670 x673 x676 x679 => (atR aC aK [.n,.s,.n,.n,.n,.b,.l,.n,.s,.n,.l,.l,.n,.s,.n,.l,.l] fun x683 x686 x689 x692 x695 x698 x701 x704 x707 x710 x713 x716 x719 x722 x725 x728 x731 => (YaH.f k x631 x634 x637 x640 x643 x646 x649 x652 x655 x658 x661 x664 x667 x670 x673 x676 x679 x683 x686 x689 x692 x695 x698 x701 x704 x707 x710 x713 x716 x719 x722 x725 x728 x731 (fun y732 => bif (!y732) then (K false) else (F.1 aC aD aJ aK (0)))))) else (F.2 aC aD aJ aK (0)))))) else (K (decide (((aC.length : Int) : Int) ≤ 60)))
noncomputable def Ym.l0 {β : Type} (k : Nat) (K : Bool → Option β) (L0 : (LD × Int × Int × Int) → Option β) (v : LD × Int × Int × Int) : Option β := Ym.m0 k K L0 v ((fun v1_0 v1_1 v1_2 v1_3 => ZA (Ym.l1 k v1_0 v1_1 v1_2 v1_3 L0 K) k),(fun v2_0 v2_1 v2_2 v2_3 => ZA (Ym.l2 k v2_0 v2_1 v2_2 v2_3 L0 K) k))
noncomputable def Ym.m {β : Type} (k : Nat) (a0 : LD) (a1 a2 : Int) (K : Bool → Option β) (F : ((LD × Int × Int × Int) → Option β)) : Option β :=
 F (a0,a1,a2,0)
noncomputable def Ym.g {β : Type} (k : Nat) (a0 : LD) (a1 a2 : Int) (K : Bool → Option β) : Option β :=
 ZA (Ym.l0 k K) k (a0,a1,a2,0)
noncomputable def Ym.t (k : Nat) (a0 : LD) (a1 a2 : Int) : Option (Bool) := Ym.g k a0 a1 a2 (fun z0 => some z0)
noncomputable def Ym.f {β : Type} (k : Nat) (a0 : LD) (a1 a2 : Int) (K : Bool → Option β) : Option β := bd1 (Ym.t k a0 a1 a2) K
noncomputable def Ym.e (k : Nat) : Zj := ent [.d .l,.d .n,.d .n] [1] [.b] [4] false (Ym.t k)
noncomputable def Ym.p (k : Nat) : Pro := ⟨Tryz.prog,[(140,Yas.e k),(141,YaH.e k)],Zv [(2,kp [0,1,2,7]),(7,kp [0,1,2,7,8])] false [],k⟩
noncomputable def Ym.d (k : Nat) (a0 : LD) (a1 a2 : Int) : Ex → St → Option (Bool) := (Ym.p k).fin Tryz.f139 [.d (.sl a0),.d (.int .i64 a1),.d (.int .i64 a2)] [1] [.b]
noncomputable def Ym.s0 (v : LD × Int × Int × Int) : St :=
 match v with
 | (aC,aD,aJ,aK) => ZaA 59 [(0,.d false (.sl aC)),(1,.d false (.int .i64 aD)),(2,.d false (.int .i64 aJ)),(7,.d true (.int .i64 aK))] []
noncomputable def Ym.c0 (k : Nat) (a0 : LD) (a1 a2 : Int) : Ex → St → Option (Bool) := (Ym.p k).ct (ZI Tryz.f139) [1,0,1,0] (Ym.d k a0 a1 a2)
noncomputable def Ym.r0 (k : Nat) (a0 : LD) (a1 a2 : Int) (n : Nat) (v : LD × Int × Int × Int) : Option (Bool) := (Ym.p k).lp (ZI Tryz.f139) 2 [1,0,1,0] (Ym.d k a0 a1 a2) n (Ym.s0 v)
noncomputable def Ym.s1 (v1_0 : LD) (v1_1 v1_2 v1_3 v : Int) : St :=
 match v with
 | v1_4 => ZaA 59 [(0,.d false (.sl v1_0)),(1,.d false (.int .i64 v1_1)),(2,.d false (.int .i64 v1_2)),(7,.d true (.int .i64 v1_3)),(8,.d true (.int .i64 v1_4))] []
noncomputable def Ym.r1 (k : Nat) (a0 : LD) (a1 a2 : Int) (v1_0 : LD) (v1_1 v1_2 v1_3 : Int) (L0 : St → Option (Bool)) (n : Nat) (v : Int) : Option (Bool) := (Ym.p k).lp (codeAt [1,0,1,0,0] (ZI Tryz.f139)) 7 [1,0,0,1,1,0] (backK ((Ym.p k).h.H 2) L0 (Ym.c0 k a0 a1 a2)) n (Ym.s1 v1_0 v1_1 v1_2 v1_3 v)
noncomputable def Ym.s2 (v2_0 : LD) (v2_1 v2_2 v2_3 v : Int) : St :=
 match v with
 | v2_4 => ZaA 59 [(0,.d false (.sl v2_0)),(1,.d false (.int .i64 v2_1)),(2,.d false (.int .i64 v2_2)),(7,.d true (.int .i64 v2_3)),(8,.d true (.int .i64 v2_4))] []
noncomputable def Ym.r2 (k : Nat) (a0 : LD) (a1 a2 : Int) (v2_0 : LD) (v2_1 v2_2 v2_3 : Int) (L0 : St → Option (Bool)) (n : Nat) (v : Int) : Option (Bool) := (Ym.p k).lp (codeAt [1,0,1,0,0] (ZI Tryz.f139)) 7 [1,0,0,1,1,0] (backK ((Ym.p k).h.H 2) L0 (Ym.c0 k a0 a1 a2)) n (Ym.s2 v2_0 v2_1 v2_2 v2_3 v)
theorem Ym.l2_eq (k : Nat) (a0 : LD) (a1 a2 : Int) (v2_0 : LD) (v2_1 v2_2 v2_3 : Int) (L0 : St → Option (Bool)) : ∀ n v,Ym.r2 k a0 a1 a2 v2_0 v2_1 v2_2 v2_3 L0 n v = ZA (Ym.l2 k v2_0 v2_1 v2_2 v2_3 (fun v => L0 (Ym.s0 v)) (fun z0 => some z0)) n v :=
 Zz (Ym.s2 v2_0 v2_1 v2_2 v2_3) _ fun L2 v => by kernel_rfl
theorem Ym.l1_eq (k : Nat) (a0 : LD) (a1 a2 : Int) (v1_0 : LD) (v1_1 v1_2 v1_3 : Int) (L0 : St → Option (Bool)) : ∀ n v,Ym.r1 k a0 a1 a2 v1_0 v1_1 v1_2 v1_3 L0 n v = ZA (Ym.l1 k v1_0 v1_1 v1_2 v1_3 (fun v => L0 (Ym.s0 v)) (fun z0 => some z0)) n v :=
 Zz (Ym.s1 v1_0 v1_1 v1_2 v1_3) _ fun L1 v => by kernel_rfl
theorem Ym.l0_eq (k : Nat) (a0 : LD) (a1 a2 : Int) : ∀ n v,Ym.r0 k a0 a1 a2 n v = ZA (Ym.l0 k (fun z0 => some z0)) n v :=
 Zz (Ym.s0) _ fun L0 v => by obtain ⟨aC,aD,aJ,aK⟩ := v; exact Eq.trans (b := Ym.m0 k (fun z0 => some z0) (fun v => L0 (Ym.s0 v)) (aC,aD,aJ,aK) ((fun v1_0 v1_1 v1_2 v1_3 => Ym.r1 k a0 a1 a2 v1_0 v1_1 v1_2 v1_3 L0 k),(fun v2_0 v2_1 v2_2 v2_3 => Ym.r2 k a0 a1 a2 v2_0 v2_1 v2_2 v2_3 L0 k))) (by kernel_rfl) (congrArg (Ym.m0 k (fun z0 => some z0) (fun v => L0 (Ym.s0 v)) (aC,aD,aJ,aK)) (pair_eq (funext fun v1_0 => funext fun v1_1 => funext fun v1_2 => funext fun v1_3 => funext fun v => Ym.l1_eq k a0 a1 a2 v1_0 v1_1 v1_2 v1_3 L0 k v) (funext fun v2_0 => funext fun v2_1 => funext fun v2_2 => funext fun v2_3 => funext fun v => Ym.l2_eq k a0 a1 a2 v2_0 v2_1 v2_2 v2_3 L0 k v)))
theorem Ym.ok (k : Nat) : Zf Tryz.prog 139 (Ym.e k) := Zk (Ym.p k) mix tyok Tryz.func139 ⟨Yas.ok k,YaH.ok k⟩ (by kernel_rfl) (fun a0 a1 a2 => Eq.trans (b := Ym.m k a0 a1 a2 (fun z0 => some z0) (Ym.r0 k a0 a1 a2 k)) (by kernel_rfl) (congrArg (Ym.m k a0 a1 a2 (fun z0 => some z0)) (funext fun v => Ym.l0_eq k a0 a1 a2 k v) :))
noncomputable def Yv.l0 {β : Type} (k : Nat) (aD : LD) (aJ aK : Int) (aL : LD) (K : Bool → Option β) (L0 : Int → Option β) (v : Int) : Option β :=
 match v with
 | aC => bif (decide ((aC : Int) < (aL.length : Int))) then (atR aL aC [.n,.b,.n,.s,.n,.n,.n,.b,.l,.n,.s,.n,.l,.l,.n,.s,.n,.l,.l] fun x1270 x1273 x1276 x1279 x1282 x1285 x1288 x1291 x1294 x1297 x1300 x1303 x1306 x1309 x1312 x1315 x1318 x1321 x1324 => (Yas.f k x1276 x1279 x1282 x1285 x1288 x1291 x1294 x1297 x1300 x1303 x1306 x1309 x1312 x1315 x1318 x1321 x1324 aJ aK x1273 (fun y1325 => bif (!y1325) then (K false) else (bif ((x1285 : Int) != x1270) then (K false) else (bif (decide ((aC : Int) > 0)) then (atR aL (IntKind.wrap .i64 (aC - 1)) [.n,.b,.n,.s,.n,.n,.n,.b,.l,.n,.s,.n,.l,.l,.n,.s,.n,.l,.l] fun x1329 x1332 x1335 x1338 x1341 x1344 x1347 x1350 x1353 x1356 x1359 x1362 x1365 x1368 x1371 x1374 x1377 x1380 x1383 => (bif (decide ((x1329 : Int) ≥ x1270)) then (K false) else (L0 (IntKind.wrap .i64 (aC + 1))))) else (L0 (IntKind.wrap .i64 (aC + 1)))))))) else (K true)
noncomputable def Yv.m {β : Type} (k : Nat) (aB : LD) (aA aH : Int) (aF : LD) (K : Bool → Option β) (F : (LD → Int → Int → LD → Int → Option β)) : Option β :=
 YJ.f k aA 0 1000000 (fun y1 => bif (!y1) then (K false) else (YJ.f k aH 1 1000000 (fun y2 => bif (!y2) then (K false) else (bif (decide (((aF.length : Int) : Int) > 40)) then (K false) else (Ym.f k aB aA aH (fun y1149 => bif (!y1149) then (K false) else (F aB aA aH aF (0))))))))
noncomputable def Yv.g {β : Type} (k : Nat) (aB : LD) (aA aH : Int) (aF : LD) (K : Bool → Option β) : Option β := Yv.m k aB aA aH aF K (fun aD aJ aK aL => ZA (Yv.l0 k aD aJ aK aL K) k)
noncomputable def Yv.t (k : Nat) (aB : LD) (aA aH : Int) (aF : LD) : Option (Bool) := Yv.g k aB aA aH aF (fun z0 => some z0)
noncomputable def Yv.f {β : Type} (k : Nat) (aB : LD) (aA aH : Int) (aF : LD) (K : Bool → Option β) : Option β := bd1 (Yv.t k aB aA aH aF) K
noncomputable def Yv.e (k : Nat) : Zj := ent [.agg [.l,.n,.n,.l]] [1] [.b] [4] false (Yv.t k)
noncomputable def Yv.p (k : Nat) : Pro := ⟨Tryz.prog,[(86,YJ.e k),(139,Ym.e k),(140,Yas.e k)],Zv [(4,kp [1,3])] false [],k⟩
noncomputable def Yv.d (k : Nat) (aB : LD) (aA aH : Int) (aF : LD) : Ex → St → Option (Bool) := (Yv.p k).fin Tryz.f85 [.agg [.sl aB,.int .i64 aA,.int .i64 aH,.sl aF]] [1] [.b]
noncomputable def Yv.s0 (aD : LD) (aJ aK : Int) (aL : LD) (v : Int) : St :=
 match v with
 | aC => ZaA 77 [(1,.bp 0 0),(3,.d true (.int .i64 aC))] [.box none 38 [.d false (.sl aD),.d false (.int .i64 aJ),.d false (.int .i64 aK),.d false (.sl aL)]]
noncomputable def Yv.r0 (k : Nat) (aB : LD) (aA aH : Int) (aF aD : LD) (aJ aK : Int) (aL : LD) (n : Nat) (v : Int) : Option (Bool) := (Yv.p k).lp (ZI Tryz.f85) 4 [1,1,0,1,0] (Yv.d k aB aA aH aF) n (Yv.s0 aD aJ aK aL v)
theorem Yv.l0_eq (k : Nat) (aB : LD) (aA aH : Int) (aF aD : LD) (aJ aK : Int) (aL : LD) : ∀ n v,Yv.r0 k aB aA aH aF aD aJ aK aL n v = ZA (Yv.l0 k aD aJ aK aL (fun z0 => some z0)) n v :=
 Zz (Yv.s0 aD aJ aK aL) _ fun L0 v => by kernel_rfl
theorem Yv.ok (k : Nat) : Zf Tryz.prog 85 (Yv.e k) := Zk (Yv.p k) mix tyok Tryz.func85 ⟨YJ.ok k,Ym.ok k,Yas.ok k⟩ (by kernel_rfl) (fun aB aA aH aF => Eq.trans (b := Yv.m k aB aA aH aF (fun z0 => some z0) (fun aD aJ aK aL => Yv.r0 k aB aA aH aF aD aJ aK aL k)) (by kernel_rfl) (congrArg (Yv.m k aB aA aH aF (fun z0 => some z0)) (funext fun aD => funext fun aJ => funext fun aK => funext fun aL => funext fun v => Yv.l0_eq k aB aA aH aF aD aJ aK aL k v) :))
noncomputable def YA.l0 {β : Type} (k : Nat) (r_spec_l4Copy : Int → BA → Int → LD → LD → (Int → BA → Int → LC → LC → Option β) → Option β) (aD : Int) (aJ : BA) (aK : Int) (aL aZ : LD) (bE : Int) (bG : BA) (bV bU : Int) (bX : BA) (bW : Int) (bY : LC) (K : Int → BA → Int → LC → LC → Option β) (L0 : (Int × LC) → Option β) (v : Int × LC) : Option β :=
 match v with
 | (aC,cC) => bif (decide ((aC : Int) < (aZ.length : Int))) then (atR aZ aC [.n,.s,.n,.l,.l] fun x25 x28 x31 x34 x37 => (r_spec_l4Copy x25 x28 x31 x34 x37 (fun y38 y39 y40 y41 y42 => Zd (cC.length + ([[.d (.int .i64 y38),.d (.str y39),.d (.int .i64 y40),.own y41,.own y42]] : LC).length ≤ Z8) (L0 (IntKind.wrap .i64 (aC + 1),cC ++ ([[.d (.int .i64 y38),.d (.str y39),.d (.int .i64 y40),.own y41,.own y42]] : LC)))))) else (K bU bX bW bY cC)
noncomputable def YA.m {β : Type} (k : Nat) (r_spec_l4Copy : Int → BA → Int → LD → LD → (Int → BA → Int → LC → LC → Option β) → Option β) (aB : Int) (aA : BA) (aH : Int) (aF aI : LD) (K : Int → BA → Int → LC → LC → Option β) (F : (Int → BA → Int → LD → LD → Int → BA → Int → Int → BA → Int → LC → (Int × LC) → Option β)) : Option β :=
 Zd (Zcg 1 aF) (Zd (([] : LC).length + (aF.map (·.map C.d)).length ≤ Z8) (F aB aA aH aF aI 0 (⟨#[]⟩ : BA) 0 aB aA aH (([] : LC) ++ (aF.map (·.map C.d))) (0,([] : LC))))
noncomputable def YA.body {β : Type} (k : Nat) (r_spec_l4Copy : Int → BA → Int → LD → LD → (Int → BA → Int → LC → LC → Option β) → Option β) (aB : Int) (aA : BA) (aH : Int) (aF aI : LD) (K : Int → BA → Int → LC → LC → Option β) : Option β :=
 Zd (Zcg 1 aF) (Zd (([] : LC).length + (aF.map (·.map C.d)).length ≤ Z8) (ZA (YA.l0 k r_spec_l4Copy aB aA aH aF aI 0 (⟨#[]⟩ : BA) 0 aB aA aH (([] : LC) ++ (aF.map (·.map C.d))) K) k (0,([] : LC))))
noncomputable def YA.w {β : Type} (r : Int → BA → Int → LD → LD → Option (Int × BA × Int × LC × LC)) (aB : Int) (aA : BA) (aH : Int) (aF aI : LD) (K : Int → BA → Int → LC → LC → Option β) : Option β := bd5 (r aB aA aH aF aI) K
noncomputable def YA.all : Nat → (Int → BA → Int → LD → LD → Option (Int × BA × Int × LC × LC))
 | 0 => (fun _ _ _ _ _ => none)
 | k + 1 => (fun r => (fun aB aA aH aF aI => YA.body k (YA.w r) aB aA aH aF aI (fun z0 z1 z2 z3 z4 => some (z0,z1,z2,z3,z4)))) (YA.all k)
noncomputable def YA.t (k : Nat) (aB : Int) (aA : BA) (aH : Int) (aF aI : LD) : Option (Int × BA × Int × LC × LC) := (YA.all k) aB aA aH aF aI
noncomputable def YA.f {β : Type} (k : Nat) (aB : Int) (aA : BA) (aH : Int) (aF aI : LD) (K : Int → BA → Int → LC → LC → Option β) : Option β := YA.w (YA.t k) aB aA aH aF aI K
noncomputable def YA.g {β : Type} (k : Nat) (aB : Int) (aA : BA) (aH : Int) (aF aI : LD) (K : Int → BA → Int → LC → LC → Option β) : Option β := YA.body k (YA.f k) aB aA aH aF aI K
theorem YA.t_succ (k : Nat) (aB : Int) (aA : BA) (aH : Int) (aF aI : LD) : YA.t (k + 1) aB aA aH aF aI = YA.g k aB aA aH aF aI (fun z0 z1 z2 z3 z4 => some (z0,z1,z2,z3,z4)) := rfl
noncomputable def YA.e (k : Nat) : Zj := ent [.agg [.n,.s,.n,.l,.l]] [5] [.n,.s,.n,.o,.o] [54] false (YA.t k)
noncomputable def YA.p (k : Nat) : Pro := ⟨Tryz.prog,[(70,YA.e k)],Zv [(3,kp [1,2,3,4] [] [(3,4,.row true 52)])] false [],k⟩
noncomputable def YA.d (k : Nat) (aB : Int) (aA : BA) (aH : Int) (aF aI : LD) : Ex → St → Option (Int × BA × Int × LC × LC) := (YA.p k).fin Tryz.f70 [.agg [.int .i64 aB,.str aA,.int .i64 aH,.sl aF,.sl aI]] [5] [.n,.s,.n,.o,.o]
noncomputable def YA.s0 (aD : Int) (aJ : BA) (aK : Int) (aL aZ : LD) (bE : Int) (bG : BA) (bV bU : Int) (bX : BA) (bW : Int) (bY : LC) (v : Int × LC) : St :=
 match v with
 | (aC,cC) => ZaA 35 [(1,.bp 0 0),(2,.bp 1 0),(3,.bp 2 0),(4,.d true (.int .i64 aC))] [.box none 54 [.d false (.int .i64 aD),.d false (.str aJ),.d false (.int .i64 aK),.d false (.sl aL),.d false (.sl aZ)],.box none 54 [.d true (.int .i64 bE),.d true (.str bG),.d true (.int .i64 bV),.nil,.nil],.box none 54 [.d false (.int .i64 bU),.d false (.str bX),.d false (.int .i64 bW),.row 3,.row 4],.row none true 45 bY,.row none true 52 cC]
noncomputable def YA.r0 (k : Nat) (aB : Int) (aA : BA) (aH : Int) (aF aI : LD) (aD : Int) (aJ : BA) (aK : Int) (aL aZ : LD) (bE : Int) (bG : BA) (bV bU : Int) (bX : BA) (bW : Int) (bY : LC) (n : Nat) (v : Int × LC) : Option (Int × BA × Int × LC × LC) := (YA.p k).lp (ZI Tryz.f70) 3 [1,1,0,1,0] (YA.d k aB aA aH aF aI) n (YA.s0 aD aJ aK aL aZ bE bG bV bU bX bW bY v)
theorem YA.l0_eq (k : Nat) (aB : Int) (aA : BA) (aH : Int) (aF aI : LD) (aD : Int) (aJ : BA) (aK : Int) (aL aZ : LD) (bE : Int) (bG : BA) (bV bU : Int) (bX : BA) (bW : Int) (bY : LC) : ∀ n v,YA.r0 k aB aA aH aF aI aD aJ aK aL aZ bE bG bV bU bX bW bY n v = ZA (YA.l0 k (YA.f k) aD aJ aK aL aZ bE bG bV bU bX bW bY (fun z0 z1 z2 z3 z4 => some (z0,z1,z2,z3,z4))) n v :=
 Zz (YA.s0 aD aJ aK aL aZ bE bG bV bU bX bW bY) _ fun L0 v => by obtain ⟨aC,cC⟩ := v; kernel_rfl
theorem YA.oks (k : Nat) : Zf Tryz.prog 70 (YA.e k) := by
 induction k with
 | zero => exact Zba Tryz.func70 (by kernel_rfl) (fun _ _ _ _ _ => rfl)
 | succ k ih => exact Zk (YA.p k) mix tyok Tryz.func70 ih (by kernel_rfl) (fun aB aA aH aF aI => Eq.trans (b := YA.m k (YA.f k) aB aA aH aF aI (fun z0 z1 z2 z3 z4 => some (z0,z1,z2,z3,z4)) (fun aD aJ aK aL aZ bE bG bV bU bX bW bY => YA.r0 k aB aA aH aF aI aD aJ aK aL aZ bE bG bV bU bX bW bY k)) (by kernel_rfl) ((congrArg (YA.m k (YA.f k) aB aA aH aF aI (fun z0 z1 z2 z3 z4 => some (z0,z1,z2,z3,z4))) (funext fun aD => funext fun aJ => funext fun aK => funext fun aL => funext fun aZ => funext fun bE => funext fun bG => funext fun bV => funext fun bU => funext fun bX => funext fun bW => funext fun bY => funext fun v => YA.l0_eq k aB aA aH aF aI aD aJ aK aL aZ bE bG bV bU bX bW bY k v)).trans (YA.t_succ k aB aA aH aF aI).symm))
theorem YA.ok (k : Nat) : Zf Tryz.prog 70 (YA.e k) := (YA.oks k)
noncomputable def YaB.g {β : Type} (k : Nat) (aB : Int) (aA : BA) (aH aF aI : Int) (bD : Bool) (aV : LD) (bA : Int) (aP : BA) (bB : Int) (aQ aW : LD) (aY : Int) (aR : BA) (bC : Int) (aT aX : LD) (K : Int → BA → Int → Int → Int → Bool → LC → Int → BA → Int → LC → LC → Int → BA → Int → LC → LC → Option β) : Option β :=
 Zd (Zcg 1 aV) (Zd (([] : LC).length + (aV.map (·.map C.d)).length ≤ Z8) (YA.f k bA aP bB aQ aW (fun y43 y44 y45 y46 y47 => YA.f k aY aR bC aT aX (fun y48 y49 y50 y51 y52 => K aB aA aH aF aI bD (([] : LC) ++ (aV.map (·.map C.d))) y43 y44 y45 y46 y47 y48 y49 y50 y51 y52))))
noncomputable def YaB.t (k : Nat) (aB : Int) (aA : BA) (aH aF aI : Int) (bD : Bool) (aV : LD) (bA : Int) (aP : BA) (bB : Int) (aQ aW : LD) (aY : Int) (aR : BA) (bC : Int) (aT aX : LD) : Option (Int × BA × Int × Int × Int × Bool × LC × Int × BA × Int × LC × LC × Int × BA × Int × LC × LC) := YaB.g k aB aA aH aF aI bD aV bA aP bB aQ aW aY aR bC aT aX (fun z0 z1 z2 z3 z4 z5 z6 z7 z8 z9 z10 z11 z12 z13 z14 z15 z16 => some (z0,z1,z2,z3,z4,z5,z6,z7,z8,z9,z10,z11,z12,z13,z14,z15,z16))
noncomputable def YaB.f {β : Type} (k : Nat) (aB : Int) (aA : BA) (aH aF aI : Int) (bD : Bool) (aV : LD) (bA : Int) (aP : BA) (bB : Int) (aQ aW : LD) (aY : Int) (aR : BA) (bC : Int) (aT aX : LD) (K : Int → BA → Int → Int → Int → Bool → LC → Int → BA → Int → LC → LC → Int → BA → Int → LC → LC → Option β) : Option β := match YaB.t k aB aA aH aF aI bD aV bA aP bB aQ aW aY aR bC aT aX with | some (z0,z1,z2,z3,z4,z5,z6,z7,z8,z9,z10,z11,z12,z13,z14,z15,z16) => K z0 z1 z2 z3 z4 z5 z6 z7 z8 z9 z10 z11 z12 z13 z14 z15 z16 | none => none
noncomputable def YaB.e (k : Nat) : Zj := ent [.agg [.n,.s,.n,.n,.n,.b,.l,.n,.s,.n,.l,.l,.n,.s,.n,.l,.l]] [17] [.n,.s,.n,.n,.n,.b,.o,.n,.s,.n,.o,.o,.n,.s,.n,.o,.o] [98] false (YaB.t k)
noncomputable def YaB.p (k : Nat) : Pro := ⟨Tryz.prog,[(70,YA.e k)],Zv [] false [],k⟩
theorem YaB.ok (k : Nat) : Zf Tryz.prog 110 (YaB.e k) := Zk (YaB.p k) mix tyok Tryz.func110 (YA.ok k) (by kernel_rfl) (fun aB aA aH aF aI bD aV bA aP bB aQ aW aY aR bC aT aX => by show _ = _; kernel_rfl)
noncomputable def YN.l0 {β : Type} (k : Nat) (aC : LD) (K : LC → Option β) (L0 : (Int × LC) → Option β) (v : Int × LC) : Option β :=
 match v with
 | (aD,aJ) => bif (decide ((aD : Int) < (aC.length : Int))) then (atR aC aD [.n,.b,.n,.s,.n,.n,.n,.b,.l,.n,.s,.n,.l,.l,.n,.s,.n,.l,.l] fun x195 x198 x201 x204 x207 x210 x213 x216 x219 x222 x225 x228 x231 x234 x237 x240 x243 x246 x249 => (atR aC aD [.n,.b,.n,.s,.n,.n,.n,.b,.l,.n,.s,.n,.l,.l,.n,.s,.n,.l,.l] fun x253 x256 x259 x262 x265 x268 x271 x274 x277 x280 x283 x286 x289 x292 x295 x298 x301 x304 x307 => (atR aC aD [.n,.b,.n,.s,.n,.n,.n,.b,.l,.n,.s,.n,.l,.l,.n,.s,.n,.l,.l] fun x311 x314 x317 x320 x323 x326 x329 x332 x335 x338 x341 x344 x347 x350 x353 x356 x359 x362 x365 => (YaB.f k x317 x320 x323 x326 x329 x332 x335 x338 x341 x344 x347 x350 x353 x356 x359 x362 x365 (fun y366 y367 y368 y369 y370 y371 y372 y373 y374 y375 y376 y377 y378 y379 y380 y381 y382 => Zd (aJ.length + ([[.d (.int .i64 x195),.d (.bool x256),.d (.int .i64 y366),.d (.str y367),.d (.int .i64 y368),.d (.int .i64 y369),.d (.int .i64 y370),.d (.bool y371),.own y372,.d (.int .i64 y373),.d (.str y374),.d (.int .i64 y375),.own y376,.own y377,.d (.int .i64 y378),.d (.str y379),.d (.int .i64 y380),.own y381,.own y382]] : LC).length ≤ Z8) (L0 (IntKind.wrap .i64 (aD + 1),aJ ++ ([[.d (.int .i64 x195),.d (.bool x256),.d (.int .i64 y366),.d (.str y367),.d (.int .i64 y368),.d (.int .i64 y369),.d (.int .i64 y370),.d (.bool y371),.own y372,.d (.int .i64 y373),.d (.str y374),.d (.int .i64 y375),.own y376,.own y377,.d (.int .i64 y378),.d (.str y379),.d (.int .i64 y380),.own y381,.own y382]] : LC)))))))) else (K aJ)
noncomputable def YN.m {β : Type} (k : Nat) (a0 : LD) (K : LC → Option β) (F : (LD → (Int × LC) → Option β)) : Option β :=
 F a0 (0,([] : LC))
noncomputable def YN.g {β : Type} (k : Nat) (a0 : LD) (K : LC → Option β) : Option β :=
 ZA (YN.l0 k a0 K) k (0,([] : LC))
noncomputable def YN.t (k : Nat) (a0 : LD) : Option (LC) := YN.g k a0 (fun z0 => some z0)
noncomputable def YN.f {β : Type} (k : Nat) (a0 : LD) (K : LC → Option β) : Option β := bd1 (YN.t k a0) K
noncomputable def YN.e (k : Nat) : Zj := ent [.d .l] [1] [.o] [36] false (YN.t k)
noncomputable def YN.p (k : Nat) : Pro := ⟨Tryz.prog,[(110,YaB.e k)],Zv [(3,kp [0,3,4])] false [],k⟩
noncomputable def YN.d (k : Nat) (a0 : LD) : Ex → St → Option (LC) := (YN.p k).fin Tryz.f87 [.d (.sl a0)] [1] [.o]
noncomputable def YN.s0 (aC : LD) (v : Int × LC) : St :=
 match v with
 | (aD,aJ) => ZaA 33 [(0,.d false (.sl aC)),(3,.row 0),(4,.d true (.int .i64 aD))] [.row none true 36 aJ]
noncomputable def YN.r0 (k : Nat) (a0 aC : LD) (n : Nat) (v : Int × LC) : Option (LC) := (YN.p k).lp (ZI Tryz.f87) 3 [1,1,0,1,0] (YN.d k a0) n (YN.s0 aC v)
theorem YN.l0_eq (k : Nat) (a0 aC : LD) : ∀ n v,YN.r0 k a0 aC n v = ZA (YN.l0 k aC (fun z0 => some z0)) n v :=
 Zz (YN.s0 aC) _ fun L0 v => by obtain ⟨aD,aJ⟩ := v; kernel_rfl
theorem YN.ok (k : Nat) : Zf Tryz.prog 87 (YN.e k) := Zk (YN.p k) mix tyok Tryz.func87 (YaB.ok k) (by kernel_rfl) (fun a0 => Eq.trans (b := YN.m k a0 (fun z0 => some z0) (fun aC => YN.r0 k a0 aC k)) (by kernel_rfl) (congrArg (YN.m k a0 (fun z0 => some z0)) (funext fun aC => funext fun v => YN.l0_eq k a0 aC k v) :))
noncomputable def Yag.l0 {β : Type} (k : Nat) (aC : Int) (aJ : LD) (aK aL : Int) (aZ : LD) (K : LC → Bool → Option β) (L0 : (Int × LC) → Option β) (v : Int × LC) : Option β :=
 match v with
 | (aD,bE) => bif (decide ((aD : Int) < (aZ.length : Int))) then (atR aZ aD [.n,.b,.n,.s,.n,.n,.n,.b,.l,.n,.s,.n,.l,.l,.n,.s,.n,.l,.l] fun x387 x390 x393 x396 x399 x402 x405 x408 x411 x414 x417 x420 x423 x426 x429 x432 x435 x438 x441 => (bif (decide ((x387 : Int) > aC)) then (atR aZ aD [.n,.b,.n,.s,.n,.n,.n,.b,.l,.n,.s,.n,.l,.l,.n,.s,.n,.l,.l] fun x445 x448 x451 x454 x457 x460 x463 x466 x469 x472 x475 x478 x481 x484 x487 x490 x493 x496 x499 => (Zd (bE.length + ([[.d (.int .i64 x445),.d (.bool x448),.d (.int .i64 x451),.d (.str x454),.d (.int .i64 x457),.d (.int .i64 x460),.d (.int .i64 x463),.d (.bool x466),.d (.sl x469),.d (.int .i64 x472),.d (.str x475),.d (.int .i64 x478),.d (.sl x481),.d (.sl x484),.d (.int .i64 x487),.d (.str x490),.d (.int .i64 x493),.d (.sl x496),.d (.sl x499)]] : LC).length ≤ Z8) (L0 (IntKind.wrap .i64 (aD + 1),bE ++ ([[.d (.int .i64 x445),.d (.bool x448),.d (.int .i64 x451),.d (.str x454),.d (.int .i64 x457),.d (.int .i64 x460),.d (.int .i64 x463),.d (.bool x466),.d (.sl x469),.d (.int .i64 x472),.d (.str x475),.d (.int .i64 x478),.d (.sl x481),.d (.sl x484),.d (.int .i64 x487),.d (.str x490),.d (.int .i64 x493),.d (.sl x496),.d (.sl x499)]] : LC))))) else (L0 (IntKind.wrap .i64 (aD + 1),bE)))) else (bif (decide (((bE.length : Int) : Int) < (IntKind.wrap .i64 (aK - aC)))) then (K ([] : LC) false) else (YN.f k (C.immRows bE) (fun y500 => K y500 true)))
noncomputable def Yag.m {β : Type} (k : Nat) (aB : LD) (aA aH : Int) (aF : LD) (a1 : Int) (K : LC → Bool → Option β) (F : (Int → LD → Int → Int → LD → (Int × LC) → Option β)) : Option β :=
 Yv.f k aB aA aH aF (fun y1 => bif (!y1) then (K ([] : LC) false) else (YJ.f k a1 0 aA (fun y2 => bif (!y2) then (K ([] : LC) false) else (F a1 aB aA aH aF (0,([] : LC))))))
noncomputable def Yag.g {β : Type} (k : Nat) (aB : LD) (aA aH : Int) (aF : LD) (a1 : Int) (K : LC → Bool → Option β) : Option β :=
 Yv.f k aB aA aH aF (fun y1 => bif (!y1) then (K ([] : LC) false) else (YJ.f k a1 0 aA (fun y2 => bif (!y2) then (K ([] : LC) false) else (ZA (Yag.l0 k a1 aB aA aH aF K) k (0,([] : LC))))))
noncomputable def Yag.t (k : Nat) (aB : LD) (aA aH : Int) (aF : LD) (a1 : Int) : Option (LC × Bool) := Yag.g k aB aA aH aF a1 (fun z0 z1 => some (z0,z1))
noncomputable def Yag.f {β : Type} (k : Nat) (aB : LD) (aA aH : Int) (aF : LD) (a1 : Int) (K : LC → Bool → Option β) : Option β := bd2 (Yag.t k aB aA aH aF a1) K
noncomputable def Yag.e (k : Nat) : Zj := ent [.agg [.l,.n,.n,.l],.d .n] [1,1] [.o,.b] [36,4] false (Yag.t k)
noncomputable def Yag.p (k : Nat) : Pro := ⟨Tryz.prog,[(85,Yv.e k),(86,YJ.e k),(87,YN.e k)],Zv [(5,kp [1,2,7] [(6,.row false 36)])] false [],k⟩
noncomputable def Yag.d (k : Nat) (aB : LD) (aA aH : Int) (aF : LD) (a1 : Int) : Ex → St → Option (LC × Bool) := (Yag.p k).fin Tryz.f33 [.agg [.sl aB,.int .i64 aA,.int .i64 aH,.sl aF],.d (.int .i64 a1)] [1,1] [.o,.b]
noncomputable def Yag.s0 (aC : Int) (aJ : LD) (aK aL : Int) (aZ : LD) (v : Int × LC) : St :=
 match v with
 | (aD,bE) => ZaA 53 [(1,.d false (.int .i64 aC)),(2,.bp 0 0),(6,.row 1),(7,.d true (.int .i64 aD))] [.box none 38 [.d false (.sl aJ),.d false (.int .i64 aK),.d false (.int .i64 aL),.d false (.sl aZ)],.row none false 36 bE]
noncomputable def Yag.r0 (k : Nat) (aB : LD) (aA aH : Int) (aF : LD) (a1 aC : Int) (aJ : LD) (aK aL : Int) (aZ : LD) (n : Nat) (v : Int × LC) : Option (LC × Bool) := (Yag.p k).lp (ZI Tryz.f33) 5 [1,1,1,0,1,0] (Yag.d k aB aA aH aF a1) n (Yag.s0 aC aJ aK aL aZ v)
theorem Yag.l0_eq (k : Nat) (aB : LD) (aA aH : Int) (aF : LD) (a1 aC : Int) (aJ : LD) (aK aL : Int) (aZ : LD) : ∀ n v,Yag.r0 k aB aA aH aF a1 aC aJ aK aL aZ n v = ZA (Yag.l0 k aC aJ aK aL aZ (fun z0 z1 => some (z0,z1))) n v :=
 Zz (Yag.s0 aC aJ aK aL aZ) _ fun L0 v => by obtain ⟨aD,bE⟩ := v; kernel_rfl
theorem Yag.ok (k : Nat) : Zf Tryz.prog 33 (Yag.e k) := Zk (Yag.p k) mix tyok Tryz.func33 ⟨Yv.ok k,YJ.ok k,YN.ok k⟩ (by kernel_rfl) (fun aB aA aH aF a1 => Eq.trans (b := Yag.m k aB aA aH aF a1 (fun z0 z1 => some (z0,z1)) (fun aC aJ aK aL aZ => Yag.r0 k aB aA aH aF a1 aC aJ aK aL aZ k)) (by kernel_rfl) (congrArg (Yag.m k aB aA aH aF a1 (fun z0 z1 => some (z0,z1))) (funext fun aC => funext fun aJ => funext fun aK => funext fun aL => funext fun aZ => funext fun v => Yag.l0_eq k aB aA aH aF a1 aC aJ aK aL aZ k v) :))
noncomputable def YE.l0 {β : Type} (k : Nat) (aC : LD) (K : LC → Option β) (L0 : (Int × LC) → Option β) (v : Int × LC) : Option β :=
 match v with
 | (aD,aJ) => bif (decide ((aD : Int) < (aC.length : Int))) then (atR aC aD [.n,.s,.n,.n,.n,.b,.l,.n,.s,.n,.l,.l,.n,.s,.n,.l,.l] fun x73 x76 x79 x82 x85 x88 x91 x94 x97 x100 x103 x106 x109 x112 x115 x118 x121 => (YaB.f k x73 x76 x79 x82 x85 x88 x91 x94 x97 x100 x103 x106 x109 x112 x115 x118 x121 (fun y122 y123 y124 y125 y126 y127 y128 y129 y130 y131 y132 y133 y134 y135 y136 y137 y138 => Zd (aJ.length + ([[.d (.int .i64 y122),.d (.str y123),.d (.int .i64 y124),.d (.int .i64 y125),.d (.int .i64 y126),.d (.bool y127),.own y128,.d (.int .i64 y129),.d (.str y130),.d (.int .i64 y131),.own y132,.own y133,.d (.int .i64 y134),.d (.str y135),.d (.int .i64 y136),.own y137,.own y138]] : LC).length ≤ Z8) (L0 (IntKind.wrap .i64 (aD + 1),aJ ++ ([[.d (.int .i64 y122),.d (.str y123),.d (.int .i64 y124),.d (.int .i64 y125),.d (.int .i64 y126),.d (.bool y127),.own y128,.d (.int .i64 y129),.d (.str y130),.d (.int .i64 y131),.own y132,.own y133,.d (.int .i64 y134),.d (.str y135),.d (.int .i64 y136),.own y137,.own y138]] : LC)))))) else (K aJ)
noncomputable def YE.m {β : Type} (k : Nat) (a0 : LD) (K : LC → Option β) (F : (LD → (Int × LC) → Option β)) : Option β :=
 F a0 (0,([] : LC))
noncomputable def YE.g {β : Type} (k : Nat) (a0 : LD) (K : LC → Option β) : Option β :=
 ZA (YE.l0 k a0 K) k (0,([] : LC))
noncomputable def YE.t (k : Nat) (a0 : LD) : Option (LC) := YE.g k a0 (fun z0 => some z0)
noncomputable def YE.f {β : Type} (k : Nat) (a0 : LD) (K : LC → Option β) : Option β := bd1 (YE.t k a0) K
noncomputable def YE.e (k : Nat) : Zj := ent [.d .l] [1] [.o] [30] false (YE.t k)
noncomputable def YE.p (k : Nat) : Pro := ⟨Tryz.prog,[(110,YaB.e k)],Zv [(3,kp [0,3,4])] false [],k⟩
noncomputable def YE.d (k : Nat) (a0 : LD) : Ex → St → Option (LC) := (YE.p k).fin Tryz.f92 [.d (.sl a0)] [1] [.o]
noncomputable def YE.s0 (aC : LD) (v : Int × LC) : St :=
 match v with
 | (aD,aJ) => ZaA 21 [(0,.d false (.sl aC)),(3,.row 0),(4,.d true (.int .i64 aD))] [.row none true 30 aJ]
noncomputable def YE.r0 (k : Nat) (a0 aC : LD) (n : Nat) (v : Int × LC) : Option (LC) := (YE.p k).lp (ZI Tryz.f92) 3 [1,1,0,1,0] (YE.d k a0) n (YE.s0 aC v)
theorem YE.l0_eq (k : Nat) (a0 aC : LD) : ∀ n v,YE.r0 k a0 aC n v = ZA (YE.l0 k aC (fun z0 => some z0)) n v :=
 Zz (YE.s0 aC) _ fun L0 v => by obtain ⟨aD,aJ⟩ := v; kernel_rfl
theorem YE.ok (k : Nat) : Zf Tryz.prog 92 (YE.e k) := Zk (YE.p k) mix tyok Tryz.func92 (YaB.ok k) (by kernel_rfl) (fun a0 => Eq.trans (b := YE.m k a0 (fun z0 => some z0) (fun aC => YE.r0 k a0 aC k)) (by kernel_rfl) (congrArg (YE.m k a0 (fun z0 => some z0)) (funext fun aC => funext fun v => YE.l0_eq k a0 aC k v) :))
noncomputable def Yah.g {β : Type} (k : Nat) (aB : Int) (aA : LD) (K : Int → LC → Option β) : Option β :=
 YE.f k aA (fun y139 => K aB y139)
noncomputable def Yah.t (k : Nat) (aB : Int) (aA : LD) : Option (Int × LC) := Yah.g k aB aA (fun z0 z1 => some (z0,z1))
noncomputable def Yah.f {β : Type} (k : Nat) (aB : Int) (aA : LD) (K : Int → LC → Option β) : Option β := bd2 (Yah.t k aB aA) K
noncomputable def Yah.e (k : Nat) : Zj := ent [.agg [.n,.l]] [2] [.n,.o] [32] false (Yah.t k)
noncomputable def Yah.p (k : Nat) : Pro := ⟨Tryz.prog,[(92,YE.e k)],Zv [] false [],k⟩
theorem Yah.ok (k : Nat) : Zf Tryz.prog 88 (Yah.e k) := Zk (Yah.p k) mix tyok Tryz.func88 (YE.ok k) (by kernel_rfl) (fun aB aA => by show _ = _; kernel_rfl)
noncomputable def Yx.g {β : Type} (k : Nat) (aB : Int) (aA : LD) (K : Bool → Option β) : Option β :=
 YJ.f k aB 0 1000000 (fun y1 => bif y1 then (Ym.f k aA aB 1000001 (fun y2 => K y2)) else (K false))
noncomputable def Yx.t (k : Nat) (aB : Int) (aA : LD) : Option (Bool) := Yx.g k aB aA (fun z0 => some z0)
noncomputable def Yx.f {β : Type} (k : Nat) (aB : Int) (aA : LD) (K : Bool → Option β) : Option β := bd1 (Yx.t k aB aA) K
noncomputable def Yx.e (k : Nat) : Zj := ent [.agg [.n,.l]] [1] [.b] [4] false (Yx.t k)
noncomputable def Yx.p (k : Nat) : Pro := ⟨Tryz.prog,[(86,YJ.e k),(139,Ym.e k)],Zv [] false [],k⟩
theorem Yx.ok (k : Nat) : Zf Tryz.prog 89 (Yx.e k) := Zk (Yx.p k) mix tyok Tryz.func89 ⟨YJ.ok k,Ym.ok k⟩ (by kernel_rfl) (fun aB aA => by show _ = _; kernel_rfl)
noncomputable def Yaa.l0 {β : Type} (k : Nat) (aC : LD) (aD : Int) (aJ : BA) (K L0 : Int → Option β) (v : Int) : Option β :=
 match v with
 | aK => bif (decide ((aK : Int) < (aC.length : Int))) then (atR aC aK [.n,.s,.n,.n,.n,.b,.l,.n,.s,.n,.l,.l,.n,.s,.n,.l,.l] fun x108 x111 x114 x117 x120 x123 x126 x129 x132 x135 x138 x141 x144 x147 x150 x153 x156 => (bif ((x108 : Int) == aD) then (atR aC aK [.n,.s,.n,.n,.n,.b,.l,.n,.s,.n,.l,.l,.n,.s,.n,.l,.l] fun x160 x163 x166 x169 x172 x175 x178 x181 x184 x187 x190 x193 x196 x199 x202 x205 x208 => (bif (Zae x163 aJ) then (K aK) else (L0 (IntKind.wrap .i64 (aK + 1))))) else (L0 (IntKind.wrap .i64 (aK + 1))))) else (K (-1))
noncomputable def Yaa.m {β : Type} (k : Nat) (a0 : LD) (a1 : Int) (a2 : BA) (K : Int → Option β) (F : (LD → Int → BA → Int → Option β)) : Option β :=
 F a0 a1 a2 (0)
noncomputable def Yaa.g {β : Type} (k : Nat) (a0 : LD) (a1 : Int) (a2 : BA) (K : Int → Option β) : Option β :=
 ZA (Yaa.l0 k a0 a1 a2 K) k (0)
noncomputable def Yaa.t (k : Nat) (a0 : LD) (a1 : Int) (a2 : BA) : Option (Int) := Yaa.g k a0 a1 a2 (fun z0 => some z0)
noncomputable def Yaa.f {β : Type} (k : Nat) (a0 : LD) (a1 : Int) (a2 : BA) (K : Int → Option β) : Option β := bd1 (Yaa.t k a0 a1 a2) K
noncomputable def Yaa.e (k : Nat) : Zj := ent [.d .l,.d .n,.d .s] [1] [.n] [3] false (Yaa.t k)
noncomputable def Yaa.p (k : Nat) : Pro := ⟨Tryz.prog,[],Zv [(2,kp [0,1,2,7])] false [],k⟩
noncomputable def Yaa.d (k : Nat) (a0 : LD) (a1 : Int) (a2 : BA) : Ex → St → Option (Int) := (Yaa.p k).fin Tryz.f90 [.d (.sl a0),.d (.int .i64 a1),.d (.str a2)] [1] [.n]
noncomputable def Yaa.s0 (aC : LD) (aD : Int) (aJ : BA) (v : Int) : St :=
 match v with
 | aK => ZaA 31 [(0,.d false (.sl aC)),(1,.d false (.int .i64 aD)),(2,.d false (.str aJ)),(7,.d true (.int .i64 aK))] []
noncomputable def Yaa.r0 (k : Nat) (a0 : LD) (a1 : Int) (a2 : BA) (aC : LD) (aD : Int) (aJ : BA) (n : Nat) (v : Int) : Option (Int) := (Yaa.p k).lp (ZI Tryz.f90) 2 [1,0,1,0] (Yaa.d k a0 a1 a2) n (Yaa.s0 aC aD aJ v)
theorem Yaa.l0_eq (k : Nat) (a0 : LD) (a1 : Int) (a2 : BA) (aC : LD) (aD : Int) (aJ : BA) : ∀ n v,Yaa.r0 k a0 a1 a2 aC aD aJ n v = ZA (Yaa.l0 k aC aD aJ (fun z0 => some z0)) n v :=
 Zz (Yaa.s0 aC aD aJ) _ fun L0 v => by kernel_rfl
theorem Yaa.ok (k : Nat) : Zf Tryz.prog 90 (Yaa.e k) := Zk (Yaa.p k) mix tyok Tryz.func90 trivial (by kernel_rfl) (fun a0 a1 a2 => Eq.trans (b := Yaa.m k a0 a1 a2 (fun z0 => some z0) (fun aC aD aJ => Yaa.r0 k a0 a1 a2 aC aD aJ k)) (by kernel_rfl) (congrArg (Yaa.m k a0 a1 a2 (fun z0 => some z0)) (funext fun aC => funext fun aD => funext fun aJ => funext fun v => Yaa.l0_eq k a0 a1 a2 aC aD aJ k v) :))
set_option maxRecDepth 100000 in
noncomputable def Y3.l0 {β : Type} (k : Nat) (aC : LD) (aK : Int) (aL : BA) (aZ bE bG : Int) (bV : Bool) (bU : LD) (bX : Int) (bW : BA) (bY : Int) (cC cE : LD) (cF : Int) (cG : BA) (cH : Int) (cJ cK : LD) (K : LC → Option β) (L0 : (Bool × Int × LC) → Option β) (v : Bool × Int × LC) : Option β :=
 match v with
 | (aD,aJ,cL) => bif (decide ((aJ : Int) < (aC.length : Int))) then (bif (!aD) then (atR aC aJ [.n,.s,.n,.n,.n,.b,.l,.n,.s,.n,.l,.l,.n,.s,.n,.l,.l] fun x715 x718 x721 x724 x727 x730 x733 x736 x739 x742 x745 x748 x751 x754 x757 x760 x763 => (YaH.f k x715 x718 x721 x724 x727 x730 x733 x736 x739 x742 x745 x748 x751 x754 x757 x760 x763 aK aL aZ bE bG bV bU bX bW bY cC cE cF cG cH cJ cK (fun y764 => bif (!y764) then (YaB.f k aK aL aZ bE bG bV bU bX bW bY cC cE cF cG cH cJ cK (fun y765 y766 y767 y768 y769 y770 y771 y772 y773 y774 y775 y776 y777 y778 y779 y780 y781 => Zd (cL.length + ([[.d (.int .i64 y765),.d (.str y766),.d (.int .i64 y767),.d (.int .i64 y768),.d (.int .i64 y769),.d (.bool y770),.own y771,.d (.int .i64 y772),.d (.str y773),.d (.int .i64 y774),.own y775,.own y776,.d (.int .i64 y777),.d (.str y778),.d (.int .i64 y779),.own y780,.own y781]] : LC).length ≤ Z8) (atR aC aJ [.n,.s,.n,.n,.n,.b,.l,.n,.s,.n,.l,.l,.n,.s,.n,.l,.l] fun x785 x788 x791 x794 x797 x800 x803 x806 x809 x812 x815 x818 x821 x824 x827 x830 x833 => let J0 := (cL ++ ([[.d (.int .i64 y765),.d (.str y766),.d (.int .i64 y767),.d (.int .i64 y768),.d (.int .i64 y769),.d (.bool y770),.own y771,.d (.int .i64 y772),.d (.str y773),.d (.int .i64 y774),.own y775,.own y776,.d (.int .i64 y777),.d (.str y778),.d (.int .i64 y779),.own y780,.own y781]] : LC)); (bif ((x785 : Int) != aK) then (atR aC aJ [.n,.s,.n,.n,.n,.b,.l,.n,.s,.n,.l,.l,.n,.s,.n,.l,.l] fun x837 x840 x843 x846 x849 x852 x855 x858 x861 x864 x867 x870 x873 x876 x879 x882 x885 => (Zd (J0.length + ([[.d (.int .i64 x837),.d (.str x840),.d (.int .i64 x843),.d (.int .i64 x846),.d (.int .i64 x849),.d (.bool x852),.d (.sl x855),.d (.int .i64 x858),.d (.str x861),.d (.int .i64 x864),.d (.sl x867),.d (.sl x870),.d (.int .i64 x873),.d (.str x876),.d (.int .i64 x879),.d (.sl x882),.d (.sl x885)]] : LC).length ≤ Z8) (L0 (true,IntKind.wrap .i64 (aJ + 1),J0 ++ ([[.d (.int .i64 x837),.d (.str x840),.d (.int .i64 x843),.d (.int .i64 x846),.d (.int .i64 x849),.d (.bool x852),.d (.sl x855),.d (.int .i64 x858),.d (.str x861),.d (.int .i64 x864),.d (.sl x867),.d (.sl x870),.d (.int .i64 x873),.d (.str x876),.d (.int .i64 x879),.d (.sl x882),.d (.sl x885)]] : LC))))) else (atR aC aJ [.n,.s,.n,.n,.n,.b,.l,.n,.s,.n,.l,.l,.n,.s,.n,.l,.l] fun x889 x892 x895 x898 x901 x904 x907 x910 x913 x916 x919 x922 x925 x928 x931 x934 x937 => (bif (!(Zae x892 aL)) then (atR aC aJ [.n,.s,.n,.n,.n,.b,.l,.n,.s,.n,.l,.l,.n,.s,.n,.l,.l] fun x941 x944 x947 x950 x953 x956 x959 x962 x965 x968 x971 x974 x977 x980 x983 x986 x989 => (Zd (J0.length + ([[.d (.int .i64 x941),.d (.str x944),.d (.int .i64 x947),.d (.int .i64 x950),.d (.int .i64 x953),.d (.bool x956),.d (.sl x959),.d (.int .i64 x962),.d (.str x965),.d (.int .i64 x968),.d (.sl x971),.d (.sl x974),.d (.int .i64 x977),.d (.str x980),.d (.int .i64 x983),.d (.sl x986),.d (.sl x989)]] : LC).length ≤ Z8) (L0 (true,IntKind.wrap .i64 (aJ + 1),J0 ++ ([[.d (.int .i64 x941),.d (.str x944),.d (.int .i64 x947),.d (.int .i64 x950),.d (.int .i64 x953),.d (.bool x956),.d (.sl x959),.d (.int .i64 x962),.d (.str x965),.d (.int .i64 x968),.d (.sl x971),.d (.sl x974),.d (.int .i64 x977),.d (.str x980),.d (.int .i64 x983),.d (.sl x986),.d (.sl x989)]] : LC))))) else (L0 (true,IntKind.wrap .i64 (aJ + 1),cL ++ ([[.d (.int .i64 y765),.d (.str y766),.d (.int .i64 y767),.d (.int .i64 y768),.d (.int .i64 y769),.d (.bool y770),.own y771,.d (.int .i64 y772),.d (.str y773),.d (.int .i64 y774),.own y775,.own y776,.d (.int .i64 y777),.d (.str y778),.d (.int .i64 y779),.own y780,.own y781]] : LC))))))))) else (atR aC aJ [.n,.s,.n,.n,.n,.b,.l,.n,.s,.n,.l,.l,.n,.s,.n,.l,.l] fun x993 x996 x999 x1002 x1005 x1008 x1011 x1014 x1017 x1020 x1023 x1026 x1029 x1032 x1035 x1038 x1041 => (bif ((x993 : Int) != aK) then (atR aC aJ [.n,.s,.n,.n,.n,.b,.l,.n,.s,.n,.l,.l,.n,.s,.n,.l,.l] fun x1045 x1048 x1051 x1054 x1057 x1060 x1063 x1066 x1069 x1072 x1075 x1078 x1081 x1084 x1087 x1090 x1093 => (Zd (cL.length + ([[.d (.int .i64 x1045),.d (.str x1048),.d (.int .i64 x1051),.d (.int .i64 x1054),.d (.int .i64 x1057),.d (.bool x1060),.d (.sl x1063),.d (.int .i64 x1066),.d (.str x1069),.d (.int .i64 x1072),.d (.sl x1075),.d (.sl x1078),.d (.int .i64 x1081),.d (.str x1084),.d (.int .i64 x1087),.d (.sl x1090),.d (.sl x1093)]] : LC).length ≤ Z8) (L0 (aD,IntKind.wrap .i64 (aJ + 1),cL ++ ([[.d (.int .i64 x1045),.d (.str x1048),.d (.int .i64 x1051),.d (.int .i64 x1054),.d (.int .i64 x1057),.d (.bool x1060),.d (.sl x1063),.d (.int .i64 x1066),.d (.str x1069),.d (.int .i64 x1072),.d (.sl x1075),.d (.sl x1078),.d (.int .i64 x1081),.d (.str x1084),.d (.int .i64 x1087),.d (.sl x1090),.d (.sl x1093)]] : LC))))) else (atR aC aJ [.n,.s,.n,.n,.n,.b,.l,.n,.s,.n,.l,.l,.n,.s,.n,.l,.l] fun x1097 x1100 x1103 x1106 x1109 x1112 x1115 x1118 x1121 x1124 x1127 x1130 x1133 x1136 x1139 x1142 x1145 => (bif (!(Zae x1100 aL)) then (atR aC aJ [.n,.s,.n,.n,.n,.b,.l,.n,.s,.n,.l,.l,.n,.s,.n,.l,.l] fun x1149 x1152 x1155 x1158 x1161 x1164 x1167 x1170 x1173 x1176 x1179 x1182 x1185 x1188 x1191 x1194 x1197 => (Zd (cL.length + ([[.d (.int .i64 x1149),.d (.str x1152),.d (.int .i64 x1155),.d (.int .i64 x1158),.d (.int .i64 x1161),.d (.bool x1164),.d (.sl x1167),.d (.int .i64 x1170),.d (.str x1173),.d (.int .i64 x1176),.d (.sl x1179),.d (.sl x1182),.d (.int .i64 x1185),.d (.str x1188),.d (.int .i64 x1191),.d (.sl x1194),.d (.sl x1197)]] : LC).length ≤ Z8) (L0 (aD,IntKind.wrap .i64 (aJ + 1),cL ++ ([[.d (.int .i64 x1149),.d (.str x1152),.d (.int .i64 x1155),.d (.int .i64 x1158),.d (.int .i64 x1161),.d (.bool x1164),.d (.sl x1167),.d (.int .i64 x1170),.d (.str x1173),.d (.int .i64 x1176),.d (.sl x1179),.d (.sl x1182),.d (.int .i64 x1185),.d (.str x1188),.d (.int .i64 x1191),.d (.sl x1194),.d (.sl x1197)]] : LC))))) else (L0 (aD,IntKind.wrap .i64 (aJ + 1),cL))))))))) else (atR aC aJ [.n,.s,.n,.n,.n,.b,.l,.n,.s,.n,.l,.l,.n,.s,.n,.l,.l] fun x1201 x1204 x1207 x1210 x1213 x1216 x1219 x1222 x1225 x1228 x1231 x1234 x1237 x1240 x1243 x1246 x1249 => (bif ((x1201 : Int) != aK) then (atR aC aJ [.n,.s,.n,.n,.n,.b,.l,.n,.s,.n,.l,.l,.n,.s,.n,.l,.l] fun x1253 x1256 x1259 x1262 x1265 x1268 x1271 x1274 x1277 x1280 x1283 x1286 x1289 x1292 x1295 x1298 x1301 => (Zd (cL.length + ([[.d (.int .i64 x1253),.d (.str x1256),.d (.int .i64 x1259),.d (.int .i64 x1262),.d (.int .i64 x1265),.d (.bool x1268),.d (.sl x1271),.d (.int .i64 x1274),.d (.str x1277),.d (.int .i64 x1280),.d (.sl x1283),.d (.sl x1286),.d (.int .i64 x1289),.d (.str x1292),.d (.int .i64 x1295),.d (.sl x1298),.d (.sl x1301)]] : LC).length ≤ Z8) (L0 (aD,IntKind.wrap .i64 (aJ + 1),cL ++ ([[.d (.int .i64 x1253),.d (.str x1256),.d (.int .i64 x1259),.d (.int .i64 x1262),.d (.int .i64 x1265),.d (.bool x1268),.d (.sl x1271),.d (.int .i64 x1274),.d (.str x1277),.d (.int .i64 x1280),.d (.sl x1283),.d (.sl x1286),.d (.int .i64 x1289),.d (.str x1292),.d (.int .i64 x1295),.d (.sl x1298),.d (.sl x1301)]] : LC))))) else (atR aC aJ [.n,.s,.n,.n,.n,.b,.l,.n,.s,.n,.l,.l,.n,.s,.n,.l,.l] fun x1305 x1308 x1311 x1314 x1317 x1320 x1323 x1326 x1329 x1332 x1335 x1338 x1341 x1344 x1347 x1350 x1353 => (bif (!(Zae x1308 aL)) then (atR aC aJ [.n,.s,.n,.n,.n,.b,.l,.n,.s,.n,.l,.l,.n,.s,.n,.l,.l] fun x1357 x1360 x1363 x1366 x1369 x1372 x1375 x1378 x1381 x1384 x1387 x1390 x1393 x1396 x1399 x1402 x1405 => (Zd (cL.length + ([[.d (.int .i64 x1357),.d (.str x1360),.d (.int .i64 x1363),.d (.int .i64 x1366),.d (.int .i64 x1369),.d (.bool x1372),.d (.sl x1375),.d (.int .i64 x1378),.d (.str x1381),.d (.int .i64 x1384),.d (.sl x1387),.d (.sl x1390),.d (.int .i64 x1393),.d (.str x1396),.d (.int .i64 x1399),.d (.sl x1402),.d (.sl x1405)]] : LC).length ≤ Z8) (L0 (aD,IntKind.wrap .i64 (aJ + 1),cL ++ ([[.d (.int .i64 x1357),.d (.str x1360),.d (.int .i64 x1363),.d (.int .i64 x1366),.d (.int .i64 x1369),.d (.bool x1372),.d (.sl x1375),.d (.int .i64 x1378),.d (.str x1381),.d (.int .i64 x1384),.d (.sl x1387),.d (.sl x1390),.d (.int .i64 x1393),.d (.str x1396),.d (.int .i64 x1399),.d (.sl x1402),.d (.sl x1405)]] : LC))))) else (L0 (aD,IntKind.wrap .i64 (aJ + 1),cL))))))) else (bif (!aD) then (YaB.f k aK aL aZ bE bG bV bU bX bW bY cC cE cF cG cH cJ cK (fun y1406 y1407 y1408 y1409 y1410 y1411 y1412 y1413 y1414 y1415 y1416 y1417 y1418 y1419 y1420 y1421 y1422 => Zd (cL.length + ([[.d (.int .i64 y1406),.d (.str y1407),.d (.int .i64 y1408),.d (.int .i64 y1409),.d (.int .i64 y1410),.d (.bool y1411),.own y1412,.d (.int .i64 y1413),.d (.str y1414),.d (.int .i64 y1415),.own y1416,.own y1417,.d (.int .i64 y1418),.d (.str y1419),.d (.int .i64 y1420),.own y1421,.own y1422]] : LC).length ≤ Z8) (K (cL ++ ([[.d (.int .i64 y1406),.d (.str y1407),.d (.int .i64 y1408),.d (.int .i64 y1409),.d (.int .i64 y1410),.d (.bool y1411),.own y1412,.d (.int .i64 y1413),.d (.str y1414),.d (.int .i64 y1415),.own y1416,.own y1417,.d (.int .i64 y1418),.d (.str y1419),.d (.int .i64 y1420),.own y1421,.own y1422]] : LC))))) else (K cL))
noncomputable def Y3.m {β : Type} (k : Nat) (a0 : LD) (aM : Int) (aN : BA) (aU aO bF : Int) (bH : Bool) (bI : LD) (bJ : Int) (bK : BA) (bL : Int) (bM bN : LD) (bO : Int) (bP : BA) (bQ : Int) (bR bT : LD) (K : LC → Option β) (F : (LD → Int → BA → Int → Int → Int → Bool → LD → Int → BA → Int → LD → LD → Int → BA → Int → LD → LD → (Bool × Int × LC) → Option β)) : Option β :=
 F a0 aM aN aU aO bF bH bI bJ bK bL bM bN bO bP bQ bR bT (false,0,([] : LC))
noncomputable def Y3.g {β : Type} (k : Nat) (a0 : LD) (aM : Int) (aN : BA) (aU aO bF : Int) (bH : Bool) (bI : LD) (bJ : Int) (bK : BA) (bL : Int) (bM bN : LD) (bO : Int) (bP : BA) (bQ : Int) (bR bT : LD) (K : LC → Option β) : Option β :=
 ZA (Y3.l0 k a0 aM aN aU aO bF bH bI bJ bK bL bM bN bO bP bQ bR bT K) k (false,0,([] : LC))
noncomputable def Y3.t (k : Nat) (a0 : LD) (aM : Int) (aN : BA) (aU aO bF : Int) (bH : Bool) (bI : LD) (bJ : Int) (bK : BA) (bL : Int) (bM bN : LD) (bO : Int) (bP : BA) (bQ : Int) (bR bT : LD) : Option (LC) := Y3.g k a0 aM aN aU aO bF bH bI bJ bK bL bM bN bO bP bQ bR bT (fun z0 => some z0)
noncomputable def Y3.f {β : Type} (k : Nat) (a0 : LD) (aM : Int) (aN : BA) (aU aO bF : Int) (bH : Bool) (bI : LD) (bJ : Int) (bK : BA) (bL : Int) (bM bN : LD) (bO : Int) (bP : BA) (bQ : Int) (bR bT : LD) (K : LC → Option β) : Option β := bd1 (Y3.t k a0 aM aN aU aO bF bH bI bJ bK bL bM bN bO bP bQ bR bT) K
noncomputable def Y3.e (k : Nat) : Zj := ent [.d .l,.agg [.n,.s,.n,.n,.n,.b,.l,.n,.s,.n,.l,.l,.n,.s,.n,.l,.l]] [1] [.o] [30] true (Y3.t k)
noncomputable def Y3.p (k : Nat) : Pro := ⟨Tryz.prog,[(141,YaH.e k),(110,YaB.e k)],Zv [(4,kp [0,3,6,7] [(5,.row false 30)])] true [],k⟩
noncomputable def Y3.d (k : Nat) (a0 : LD) (aM : Int) (aN : BA) (aU aO bF : Int) (bH : Bool) (bI : LD) (bJ : Int) (bK : BA) (bL : Int) (bM bN : LD) (bO : Int) (bP : BA) (bQ : Int) (bR bT : LD) : Ex → St → Option (LC) := (Y3.p k).fin Tryz.f91 [.d (.sl a0),.agg [.int .i64 aM,.str aN,.int .i64 aU,.int .i64 aO,.int .i64 bF,.bool bH,.sl bI,.int .i64 bJ,.str bK,.int .i64 bL,.sl bM,.sl bN,.int .i64 bO,.str bP,.int .i64 bQ,.sl bR,.sl bT]] [1] [.o]
noncomputable def Y3.s0 (aC : LD) (aK : Int) (aL : BA) (aZ bE bG : Int) (bV : Bool) (bU : LD) (bX : Int) (bW : BA) (bY : Int) (cC cE : LD) (cF : Int) (cG : BA) (cH : Int) (cJ cK : LD) (v : Bool × Int × LC) : St :=
 match v with
 | (aD,aJ,cL) => ZaA 64 [(0,.d false (.sl aC)),(3,.bp 0 0),(5,.row 1),(6,.d true (.bool aD)),(7,.d true (.int .i64 aJ))] [.box none 98 [.d false (.int .i64 aK),.d false (.str aL),.d false (.int .i64 aZ),.d false (.int .i64 bE),.d false (.int .i64 bG),.d false (.bool bV),.d false (.sl bU),.d false (.int .i64 bX),.d false (.str bW),.d false (.int .i64 bY),.d false (.sl cC),.d false (.sl cE),.d false (.int .i64 cF),.d false (.str cG),.d false (.int .i64 cH),.d false (.sl cJ),.d false (.sl cK)],.row none false 30 cL]
noncomputable def Y3.r0 (k : Nat) (a0 : LD) (aM : Int) (aN : BA) (aU aO bF : Int) (bH : Bool) (bI : LD) (bJ : Int) (bK : BA) (bL : Int) (bM bN : LD) (bO : Int) (bP : BA) (bQ : Int) (bR bT aC : LD) (aK : Int) (aL : BA) (aZ bE bG : Int) (bV : Bool) (bU : LD) (bX : Int) (bW : BA) (bY : Int) (cC cE : LD) (cF : Int) (cG : BA) (cH : Int) (cJ cK : LD) (n : Nat) (v : Bool × Int × LC) : Option (LC) := (Y3.p k).lp (ZI Tryz.f91) 4 [1,1,1,0,1,0] (Y3.d k a0 aM aN aU aO bF bH bI bJ bK bL bM bN bO bP bQ bR bT) n (Y3.s0 aC aK aL aZ bE bG bV bU bX bW bY cC cE cF cG cH cJ cK v)
theorem Y3.l0_eq (k : Nat) (a0 : LD) (aM : Int) (aN : BA) (aU aO bF : Int) (bH : Bool) (bI : LD) (bJ : Int) (bK : BA) (bL : Int) (bM bN : LD) (bO : Int) (bP : BA) (bQ : Int) (bR bT aC : LD) (aK : Int) (aL : BA) (aZ bE bG : Int) (bV : Bool) (bU : LD) (bX : Int) (bW : BA) (bY : Int) (cC cE : LD) (cF : Int) (cG : BA) (cH : Int) (cJ cK : LD) : ∀ n v,Y3.r0 k a0 aM aN aU aO bF bH bI bJ bK bL bM bN bO bP bQ bR bT aC aK aL aZ bE bG bV bU bX bW bY cC cE cF cG cH cJ cK n v = ZA (Y3.l0 k aC aK aL aZ bE bG bV bU bX bW bY cC cE cF cG cH cJ cK (fun z0 => some z0)) n v :=
 Zz (Y3.s0 aC aK aL aZ bE bG bV bU bX bW bY cC cE cF cG cH cJ cK) _ fun L0 v => by obtain ⟨aD,aJ,cL⟩ := v; kernel_rfl
theorem Y3.ok (k : Nat) : Zf Tryz.prog 91 (Y3.e k) := Zk (Y3.p k) mix tyok Tryz.func91 ⟨YaH.ok k,YaB.ok k⟩ (by kernel_rfl) (fun a0 aM aN aU aO bF bH bI bJ bK bL bM bN bO bP bQ bR bT => Eq.trans (b := Y3.m k a0 aM aN aU aO bF bH bI bJ bK bL bM bN bO bP bQ bR bT (fun z0 => some z0) (fun aC aK aL aZ bE bG bV bU bX bW bY cC cE cF cG cH cJ cK => Y3.r0 k a0 aM aN aU aO bF bH bI bJ bK bL bM bN bO bP bQ bR bT aC aK aL aZ bE bG bV bU bX bW bY cC cE cF cG cH cJ cK k)) (by kernel_rfl) (congrArg (Y3.m k a0 aM aN aU aO bF bH bI bJ bK bL bM bN bO bP bQ bR bT (fun z0 => some z0)) (funext fun aC => funext fun aK => funext fun aL => funext fun aZ => funext fun bE => funext fun bG => funext fun bV => funext fun bU => funext fun bX => funext fun bW => funext fun bY => funext fun cC => funext fun cE => funext fun cF => funext fun cG => funext fun cH => funext fun cJ => funext fun cK => funext fun v => Y3.l0_eq k a0 aM aN aU aO bF bH bI bJ bK bL bM bN bO bP bQ bR bT aC aK aL aZ bE bG bV bU bX bW bY cC cE cF cG cH cJ cK k v) :))
set_option maxRecDepth 100000 in
noncomputable def Y5.l0 {β : Type} (k : Nat) (aC : LD) (aJ : Int) (aK : LD) (aL : Int) (K : Int → LD → Bool → Option β) (L0 : (Int × Int × LD) → Option β) (v : Int × Int × LD) : Option β :=
 match v with
 | (aD,aZ,bE) => bif (decide ((aD : Int) < (aC.length : Int))) then (atR aC aD [.n,.b,.n,.s,.n,.n,.n,.b,.l,.n,.s,.n,.l,.l,.n,.s,.n,.l,.l] fun x486 x489 x492 x495 x498 x501 x504 x507 x510 x513 x516 x519 x522 x525 x528 x531 x534 x537 x540 => (Yaa.f k bE x492 x495 (fun y541 => atR aC aD [.n,.b,.n,.s,.n,.n,.n,.b,.l,.n,.s,.n,.l,.l,.n,.s,.n,.l,.l] fun x545 x548 x551 x554 x557 x560 x563 x566 x569 x572 x575 x578 x581 x584 x587 x590 x593 x596 x599 => (bif ((x545 : Int) != (IntKind.wrap .i64 (aZ + 1))) then (Yah.f k aJ aK (fun y600 y601 => K y600 (C.immRows y601) false)) else (atR aC aD [.n,.b,.n,.s,.n,.n,.n,.b,.l,.n,.s,.n,.l,.l,.n,.s,.n,.l,.l] fun x605 x608 x611 x614 x617 x620 x623 x626 x629 x632 x635 x638 x641 x644 x647 x650 x653 x656 x659 => let J7 := ((bE.drop (Int.toNat (IntKind.wrap .i64 (y541 + 1) : Int))).take (Int.toNat (bE.length : Int) - Int.toNat (IntKind.wrap .i64 (y541 + 1) : Int))); let J3 := (J7.map (·.map C.d)); let J12 := ((bE.drop (Int.toNat (0 : Int))).take (Int.toNat (y541 : Int) - Int.toNat (0 : Int))); let J9 := (J12.map (·.map C.d)); let J8 := (([] : LC) ++ J9); let J0 := (J8.length + J3.length ≤ Z8); let J2 := (J8 ++ J3); let J1 := (C.immRows J2); let J4 := (0 ≤ (IntKind.wrap .i64 (y541 + 1) : Int) ∧ (IntKind.wrap .i64 (y541 + 1) : Int) ≤ (bE.length : Int) ∧ (bE.length : Int) ≤ (bE.length : Int) ∧ Zbk 17 bE); let J5 := (Zbk 17 J7); let J6 := (([] : LC).length + J9.length ≤ Z8); let J10 := (Zbk 17 J12); let J11 := (0 ≤ (0 : Int) ∧ (0 : Int) ≤ (y541 : Int) ∧ (y541 : Int) ≤ (bE.length : Int) ∧ Zbk 17 bE); (bif x608 then (bif (decide ((y541 : Int) < 0)) then (Yah.f k aJ aK (fun y660 y661 => K y660 (C.immRows y661) false)) else (atR bE y541 [.n,.s,.n,.n,.n,.b,.l,.n,.s,.n,.l,.l,.n,.s,.n,.l,.l] fun x665 x668 x671 x674 x677 x680 x683 x686 x689 x692 x695 x698 x701 x704 x707 x710 x713 => (bif ((x671 : Int) != x498) then (Yah.f k aJ aK (fun y714 y715 => K y714 (C.immRows y715) false)) else (atR aC aD [.n,.b,.n,.s,.n,.n,.n,.b,.l,.n,.s,.n,.l,.l,.n,.s,.n,.l,.l] fun x719 x722 x725 x728 x731 x734 x737 x740 x743 x746 x749 x752 x755 x758 x761 x764 x767 x770 x773 => (atR aC aD [.n,.b,.n,.s,.n,.n,.n,.b,.l,.n,.s,.n,.l,.l,.n,.s,.n,.l,.l] fun x777 x780 x783 x786 x789 x792 x795 x798 x801 x804 x807 x810 x813 x816 x819 x822 x825 x828 x831 => (bif x780 then (Zd J11 (Zd J10 (Zd J6 (Zd J4 (Zd J5 (Zd J0 (Yx.f k x719 J1 (fun y832 => bif (!y832) then (Yah.f k aJ aK (fun y833 y834 => K y833 (C.immRows y834) false)) else (L0 (IntKind.wrap .i64 (aD + 1),x719,C.immRows J2)))))))))) else (Y3.f k bE x492 x495 x498 x501 x504 x507 x510 x513 x516 x519 x522 x525 x528 x531 x534 x537 x540 (fun y835 => Yx.f k x719 (C.immRows y835) (fun y836 => bif (!y836) then (Yah.f k aJ aK (fun y837 y838 => K y837 (C.immRows y838) false)) else (L0 (IntKind.wrap .i64 (aD + 1),x719,C.immRows y835))))))))))) else (atR aC aD [.n,.b,.n,.s,.n,.n,.n,.b,.l,.n,.s,.n,.l,.l,.n,.s,.n,.l,.l] fun x842 x845 x848 x851 x854 x857 x860 x863 x866 x869 x872 x875 x878 x881 x884 x887 x890 x893 x896 => (atR aC aD [.n,.b,.n,.s,.n,.n,.n,.b,.l,.n,.s,.n,.l,.l,.n,.s,.n,.l,.l] fun x900 x903 x906 x909 x912 x915 x918 x921 x924 x927 x930 x933 x936 x939 x942 x945 x948 x951 x954 => (bif x903 then (Zd J11 (Zd J10 (Zd J6 (Zd J4 (Zd J5 (Zd J0 (Yx.f k x842 J1 (fun y955 => bif (!y955) then (Yah.f k aJ aK (fun y956 y957 => K y956 (C.immRows y957) false)) else (L0 (IntKind.wrap .i64 (aD + 1),x842,C.immRows J2)))))))))) else (Y3.f k bE x492 x495 x498 x501 x504 x507 x510 x513 x516 x519 x522 x525 x528 x531 x534 x537 x540 (fun y958 => Yx.f k x842 (C.immRows y958) (fun y959 => bif (!y959) then (Yah.f k aJ aK (fun y960 y961 => K y960 (C.immRows y961) false)) else (L0 (IntKind.wrap .i64 (aD + 1),x842,C.immRows y958)))))))))))))) else (K aZ bE true)
noncomputable def Y5.m {β : Type} (k : Nat) (aB : Int) (aA a1 : LD) (K : Int → LD → Bool → Option β) (F : (LD → Int → LD → Int → (Int × Int × LD) → Option β)) : Option β :=
 Yah.f k aB aA (fun y1 y2 => Yx.f k aB aA (fun y3 => bif (!y3) then (K y1 (C.immRows y2) false) else (F a1 aB aA 0 (0,y1,C.immRows y2))))
noncomputable def Y5.g {β : Type} (k : Nat) (aB : Int) (aA a1 : LD) (K : Int → LD → Bool → Option β) : Option β :=
 Yah.f k aB aA (fun y1 y2 => Yx.f k aB aA (fun y3 => bif (!y3) then (K y1 (C.immRows y2) false) else (ZA (Y5.l0 k a1 aB aA 0 K) k (0,y1,C.immRows y2))))
noncomputable def Y5.t (k : Nat) (aB : Int) (aA a1 : LD) : Option (Int × LD × Bool) := Y5.g k aB aA a1 (fun z0 z1 z2 => some (z0,z1,z2))
noncomputable def Y5.f {β : Type} (k : Nat) (aB : Int) (aA a1 : LD) (K : Int → LD → Bool → Option β) : Option β := bd3 (Y5.t k aB aA a1) K
noncomputable def Y5.e (k : Nat) : Zj := ent [.agg [.n,.l],.d .l] [2,1] [.n,.l,.b] [32,4] true (Y5.t k)
noncomputable def Y5.p (k : Nat) : Pro := ⟨Tryz.prog,[(88,Yah.e k),(89,Yx.e k),(90,Yaa.e k),(91,Y3.e k)],Zv [(5,kp [1,2,4,6,7] [] [(6,0,.dat false),(6,1,.dat false)])] true [[false,true],[false]],k⟩
noncomputable def Y5.d (k : Nat) (aB : Int) (aA a1 : LD) : Ex → St → Option (Int × LD × Bool) := (Y5.p k).fin Tryz.f34 [.agg [.int .i64 aB,.sl aA],.d (.sl a1)] [2,1] [.n,.l,.b]
noncomputable def Y5.s0 (aC : LD) (aJ : Int) (aK : LD) (aL : Int) (v : Int × Int × LD) : St :=
 match v with
 | (aD,aZ,bE) => ZaA 102 [(1,.d false (.sl aC)),(2,.bp 0 0),(4,.bp 1 0),(6,.bp 2 0),(7,.d true (.int .i64 aD))] [.box none 32 [.d false (.int .i64 aJ),.d false (.sl aK)],.box none 32 [.d true (.int .i64 aL),.nil],.box none 32 [.d false (.int .i64 aZ),.d false (.sl bE)]]
noncomputable def Y5.r0 (k : Nat) (aB : Int) (aA a1 aC : LD) (aJ : Int) (aK : LD) (aL : Int) (n : Nat) (v : Int × Int × LD) : Option (Int × LD × Bool) := (Y5.p k).lp (ZI Tryz.f34) 5 [1,1,1,0,1,0] (Y5.d k aB aA a1) n (Y5.s0 aC aJ aK aL v)
theorem Y5.l0_eq (k : Nat) (aB : Int) (aA a1 aC : LD) (aJ : Int) (aK : LD) (aL : Int) : ∀ n v,Y5.r0 k aB aA a1 aC aJ aK aL n v = ZA (Y5.l0 k aC aJ aK aL (fun z0 z1 z2 => some (z0,z1,z2))) n v :=
 Zz (Y5.s0 aC aJ aK aL) _ fun L0 v => by obtain ⟨aD,aZ,bE⟩ := v; kernel_rfl
theorem Y5.ok (k : Nat) : Zf Tryz.prog 34 (Y5.e k) := Zk (Y5.p k) mix tyok Tryz.func34 ⟨Yah.ok k,Yx.ok k,Yaa.ok k,Y3.ok k⟩ (by kernel_rfl) (fun aB aA a1 => Eq.trans (b := Y5.m k aB aA a1 (fun z0 z1 z2 => some (z0,z1,z2)) (fun aC aJ aK aL => Y5.r0 k aB aA a1 aC aJ aK aL k)) (by kernel_rfl) (congrArg (Y5.m k aB aA a1 (fun z0 z1 z2 => some (z0,z1,z2))) (funext fun aC => funext fun aJ => funext fun aK => funext fun aL => funext fun v => Y5.l0_eq k aB aA a1 aC aJ aK aL k v) :))
noncomputable def YaR.g {β : Type} (k : Nat) (aB : LD) (aA aH : Int) (aF : LD) (K : Int → LC → Option β) : Option β :=
 Yv.f k aB aA aH aF (fun y1 => bif (!y1) then (K 0 ([] : LC)) else (YE.f k aB (fun y2 => K aA y2)))
noncomputable def YaR.t (k : Nat) (aB : LD) (aA aH : Int) (aF : LD) : Option (Int × LC) := YaR.g k aB aA aH aF (fun z0 z1 => some (z0,z1))
noncomputable def YaR.f {β : Type} (k : Nat) (aB : LD) (aA aH : Int) (aF : LD) (K : Int → LC → Option β) : Option β := bd2 (YaR.t k aB aA aH aF) K
noncomputable def YaR.e (k : Nat) : Zj := ent [.agg [.l,.n,.n,.l]] [2] [.n,.o] [32] false (YaR.t k)
noncomputable def YaR.p (k : Nat) : Pro := ⟨Tryz.prog,[(85,Yv.e k),(92,YE.e k)],Zv [] false [],k⟩
theorem YaR.ok (k : Nat) : Zf Tryz.prog 35 (YaR.e k) := Zk (YaR.p k) mix tyok Tryz.func35 ⟨Yv.ok k,YE.ok k⟩ (by kernel_rfl) (fun aB aA aH aF => by show _ = _; kernel_rfl)
noncomputable def YaC.g {β : Type} (k : Nat) (aB : Int) (aA aM : LD) (aN aU : Int) (aO : LD) (K : Int → LD → Bool → Option β) : Option β :=
 Yag.f k aM aN aU aO aB (fun y1 y2 => bif y2 then (Y5.f k aB aA (C.immRows y1) (fun y3 y4 y5 => bif y5 then (K y3 y4 true) else (YaR.f k aM aN aU aO (fun y6 y7 => K y6 (C.immRows y7) false)))) else (YaR.f k aM aN aU aO (fun y8 y9 => K y8 (C.immRows y9) false)))
noncomputable def YaC.t (k : Nat) (aB : Int) (aA aM : LD) (aN aU : Int) (aO : LD) : Option (Int × LD × Bool) := YaC.g k aB aA aM aN aU aO (fun z0 z1 z2 => some (z0,z1,z2))
noncomputable def YaC.f {β : Type} (k : Nat) (aB : Int) (aA aM : LD) (aN aU : Int) (aO : LD) (K : Int → LD → Bool → Option β) : Option β := bd3 (YaC.t k aB aA aM aN aU aO) K
noncomputable def YaC.e (k : Nat) : Zj := ent [.agg [.n,.l],.agg [.l,.n,.n,.l]] [2,1] [.n,.l,.b] [32,4] true (YaC.t k)
noncomputable def YaC.p (k : Nat) : Pro := ⟨Tryz.prog,[(33,Yag.e k),(34,Y5.e k),(35,YaR.e k)],Zv [] true [[false,true],[false]],k⟩
theorem YaC.ok (k : Nat) : Zf Tryz.prog 8 (YaC.e k) := Zk (YaC.p k) mix tyok Tryz.func8 ⟨Yag.ok k,Y5.ok k,YaR.ok k⟩ (by kernel_rfl) (fun aB aA aM aN aU aO => by show _ = _; kernel_rfl)
noncomputable def Y1.g {β : Type} (k : Nat) (a0 a1 a2 : Int) (K : Bool → Option β) : Option β :=
 bif (decide ((a0 : Int) ≥ a1)) then (K (decide ((a0 : Int) ≤ a2))) else (K false)
noncomputable def Y1.t (k : Nat) (a0 a1 a2 : Int) : Option (Bool) := Y1.g k a0 a1 a2 (fun z0 => some z0)
noncomputable def Y1.f {β : Type} (k : Nat) (a0 a1 a2 : Int) (K : Bool → Option β) : Option β := bd1 (Y1.t k a0 a1 a2) K
noncomputable def Y1.e (k : Nat) : Zj := ent [.d .n,.d .n,.d .n] [1] [.b] [4] false (Y1.t k)
noncomputable def Y1.p (k : Nat) : Pro := ⟨Tryz.prog,[],Zv [] false [],k⟩
theorem Y1.ok (k : Nat) : Zf Tryz.prog 96 (Y1.e k) := Zk (Y1.p k) mix tyok Tryz.func96 trivial (by kernel_rfl) (fun a0 a1 a2 => by show _ = _; kernel_rfl)
noncomputable def YaO.g {β : Type} (k : Nat) (a0 : Int) (K : Bool → Option β) : Option β :=
 Y1.f k a0 1 3 (fun y1 => K y1)
noncomputable def YaO.t (k : Nat) (a0 : Int) : Option (Bool) := YaO.g k a0 (fun z0 => some z0)
noncomputable def YaO.f {β : Type} (k : Nat) (a0 : Int) (K : Bool → Option β) : Option β := bd1 (YaO.t k a0) K
noncomputable def YaO.e (k : Nat) : Zj := ent [.d .n] [1] [.b] [4] false (YaO.t k)
noncomputable def YaO.p (k : Nat) : Pro := ⟨Tryz.prog,[(96,Y1.e k)],Zv [] false [],k⟩
theorem YaO.ok (k : Nat) : Zf Tryz.prog 111 (YaO.e k) := Zk (YaO.p k) mix tyok Tryz.func111 (Y1.ok k) (by kernel_rfl) (fun a0 => by show _ = _; kernel_rfl)
noncomputable def Y6.l0 {β : Type} (k : Nat) (aC : BA) (aD : Int) (K : Bool → Option β) (L0 : Int → Option β) (v : Int) : Option β :=
 match v with
 | aJ => bif (decide ((aJ : Int) < aD)) then (atStr aC aJ fun b5 => let J1 := (bif ((b5 : Int) != 45) then (K false) else (L0 (IntKind.wrap .i64 (aJ + 1)))); let J0 := (bif (decide ((b5 : Int) < 48)) then J1 else (bif (decide ((b5 : Int) > 57)) then J1 else (L0 (IntKind.wrap .i64 (aJ + 1))))); bif (decide ((b5 : Int) < 97)) then J0 else (bif (decide ((b5 : Int) > 122)) then J0 else (L0 (IntKind.wrap .i64 (aJ + 1))))) else (Y1.f k (aC.size : Int) 1 20 (fun y6 => bif y6 then (atStr aC 0 fun b7 => bif ((b7 : Int) != 45) then (atStr aC (IntKind.wrap .i64 ((aC.size : Int) - 1)) fun b8 => K ((b8 : Int) != 45)) else (K false)) else (K false)))
noncomputable def Y6.m {β : Type} (k : Nat) (a0 : BA) (K : Bool → Option β) (F : (BA → Int → Int → Option β)) : Option β :=
 F a0 (a0.size : Int) (0)
noncomputable def Y6.g {β : Type} (k : Nat) (a0 : BA) (K : Bool → Option β) : Option β :=
 ZA (Y6.l0 k a0 (a0.size : Int) K) k (0)
noncomputable def Y6.t (k : Nat) (a0 : BA) : Option (Bool) := Y6.g k a0 (fun z0 => some z0)
noncomputable def Y6.f {β : Type} (k : Nat) (a0 : BA) (K : Bool → Option β) : Option β := bd1 (Y6.t k a0) K
noncomputable def Y6.e (k : Nat) : Zj := ent [.d .s] [1] [.b] [4] false (Y6.t k)
noncomputable def Y6.p (k : Nat) : Pro := ⟨Tryz.prog,[(96,Y1.e k)],Zv [(2,kp [0,6,7])] false [],k⟩
noncomputable def Y6.d (k : Nat) (a0 : BA) : Ex → St → Option (Bool) := (Y6.p k).fin Tryz.f112 [.d (.str a0)] [1] [.b]
noncomputable def Y6.s0 (aC : BA) (aD v : Int) : St :=
 match v with
 | aJ => ZaA 48 [(0,.d false (.str aC)),(6,.d true (.int .i64 aD)),(7,.d true (.int .i64 aJ))] []
noncomputable def Y6.r0 (k : Nat) (a0 aC : BA) (aD : Int) (n : Nat) (v : Int) : Option (Bool) := (Y6.p k).lp (ZI Tryz.f112) 2 [1,0,1,0] (Y6.d k a0) n (Y6.s0 aC aD v)
theorem Y6.l0_eq (k : Nat) (a0 aC : BA) (aD : Int) : ∀ n v,Y6.r0 k a0 aC aD n v = ZA (Y6.l0 k aC aD (fun z0 => some z0)) n v :=
 Zz (Y6.s0 aC aD) _ fun L0 v => by kernel_rfl
theorem Y6.ok (k : Nat) : Zf Tryz.prog 112 (Y6.e k) := Zk (Y6.p k) mix tyok Tryz.func112 (Y1.ok k) (by kernel_rfl) (fun a0 => Eq.trans (b := Y6.m k a0 (fun z0 => some z0) (fun aC aD => Y6.r0 k a0 aC aD k)) (by kernel_rfl) (congrArg (Y6.m k a0 (fun z0 => some z0)) (funext fun aC => funext fun aD => funext fun v => Y6.l0_eq k a0 aC aD k v) :))
noncomputable def YV.l0 {β : Type} (k : Nat) (aC : LD) (aD : Int) (aJ : LD) (aK : Int) (K : Bool → Option β) (L0 : Int → Option β) (v : Int) : Option β :=
 match v with
 | aL => bif (decide ((aL : Int) < aK)) then (atR aJ aL [.s] fun x13 => (Y6.f k x13 (fun y14 => bif (!y14) then (K false) else (bif (decide ((aL : Int) > 0)) then (atR aC (IntKind.wrap .i64 (aL - 1)) [.s] fun x18 => (bif (!(strLt x18 x13)) then (K false) else (L0 (IntKind.wrap .i64 (aL + 1))))) else (L0 (IntKind.wrap .i64 (aL + 1))))))) else (K (decide (((aC.length : Int) : Int) ≤ aD)))
noncomputable def YV.m {β : Type} (k : Nat) (a0 : LD) (a1 : Int) (K : Bool → Option β) (F : (LD → Int → LD → Int → Int → Option β)) : Option β :=
 F a0 a1 a0 (a0.length : Int) (0)
noncomputable def YV.g {β : Type} (k : Nat) (a0 : LD) (a1 : Int) (K : Bool → Option β) : Option β :=
 ZA (YV.l0 k a0 a1 a0 (a0.length : Int) K) k (0)
noncomputable def YV.t (k : Nat) (a0 : LD) (a1 : Int) : Option (Bool) := YV.g k a0 a1 (fun z0 => some z0)
noncomputable def YV.f {β : Type} (k : Nat) (a0 : LD) (a1 : Int) (K : Bool → Option β) : Option β := bd1 (YV.t k a0 a1) K
noncomputable def YV.e (k : Nat) : Zj := ent [.d .l,.d .n] [1] [.b] [4] false (YV.t k)
noncomputable def YV.p (k : Nat) : Pro := ⟨Tryz.prog,[(112,Y6.e k)],Zv [(2,kp [0,1,7,8,9])] false [],k⟩
noncomputable def YV.d (k : Nat) (a0 : LD) (a1 : Int) : Ex → St → Option (Bool) := (YV.p k).fin Tryz.f176 [.d (.sl a0),.d (.int .i64 a1)] [1] [.b]
noncomputable def YV.s0 (aC : LD) (aD : Int) (aJ : LD) (aK v : Int) : St :=
 match v with
 | aL => ZaA 35 [(0,.d false (.sl aC)),(1,.d false (.int .i64 aD)),(7,.d false (.sl aJ)),(8,.d true (.int .i64 aK)),(9,.d true (.int .i64 aL))] []
noncomputable def YV.r0 (k : Nat) (a0 : LD) (a1 : Int) (aC : LD) (aD : Int) (aJ : LD) (aK : Int) (n : Nat) (v : Int) : Option (Bool) := (YV.p k).lp (ZI Tryz.f176) 2 [1,0,1,0] (YV.d k a0 a1) n (YV.s0 aC aD aJ aK v)
theorem YV.l0_eq (k : Nat) (a0 : LD) (a1 : Int) (aC : LD) (aD : Int) (aJ : LD) (aK : Int) : ∀ n v,YV.r0 k a0 a1 aC aD aJ aK n v = ZA (YV.l0 k aC aD aJ aK (fun z0 => some z0)) n v :=
 Zz (YV.s0 aC aD aJ aK) _ fun L0 v => by kernel_rfl
theorem YV.ok (k : Nat) : Zf Tryz.prog 176 (YV.e k) := Zk (YV.p k) mix tyok Tryz.func176 (Y6.ok k) (by kernel_rfl) (fun a0 a1 => Eq.trans (b := YV.m k a0 a1 (fun z0 => some z0) (fun aC aD aJ aK => YV.r0 k a0 a1 aC aD aJ aK k)) (by kernel_rfl) (congrArg (YV.m k a0 a1 (fun z0 => some z0)) (funext fun aC => funext fun aD => funext fun aJ => funext fun aK => funext fun v => YV.l0_eq k a0 a1 aC aD aJ aK k v) :))
noncomputable def YT.l0 {β : Type} (k : Nat) (aC aD aJ : Bool) (aK aZ : Int) (bE : BA) (bG : Int) (bV bU : LD) (K : Bool → Option β) (L0 : Int → Option β) (v : Int) : Option β :=
 match v with
 | aL => bif (decide ((aL : Int) < aK)) then (atStr bE aL fun b3 => Y1.f k (IntKind.wrap .i64 b3) 32 126 (fun y4 => bif (!y4) then (K false) else (L0 (IntKind.wrap .i64 (aL + 1))))) else (bif (decide (((bE.size : Int) : Int) ≤ 100)) then (bif aC then (bif aD then (K aJ) else (K false)) else (K false)) else (K false))
noncomputable def YT.m {β : Type} (k : Nat) (aB : Int) (aA : BA) (aH : Int) (aF aI : LD) (K : Bool → Option β) (F : (Bool → Bool → Bool → Int → Int → BA → Int → LD → LD → Int → Option β)) : Option β :=
 bif ((aB : Int) == 1) then (F ((aH : Int) == 0) (((aF.length : Int) : Int) == 0) (((aI.length : Int) : Int) == 0) (aA.size : Int) aB aA aH aF aI (0)) else (let J0 := (bif (((aF.length : Int) : Int) == 0) then (K (((aI.length : Int) : Int) == 0)) else (K false)); bif ((aB : Int) == 2) then (bif (Zae aA (⟨#[]⟩ : BA)) then J0 else (K false)) else (bif ((aB : Int) == 3) then (Y1.f k aH 0 1 (fun y5 => bif (Zae aA (⟨#[]⟩ : BA)) then (bif y5 then J0 else (K false)) else (K false))) else (bif ((aB : Int) == 4) then (bif (Zae aA (⟨#[]⟩ : BA)) then (bif ((aH : Int) == 0) then (bif (((aF.length : Int) : Int) == 0) then (K true) else (K false)) else (K false)) else (K false)) else (bif ((aB : Int) == 5) then (YV.f k aF 300 (fun y6 => bif y6 then (bif (Zae aA (⟨#[]⟩ : BA)) then (bif ((aH : Int) == 0) then (bif (((aF.length : Int) : Int) == (aI.length : Int)) then (K true) else (K false)) else (K false)) else (K false)) else (bif (Zae aA (⟨#[]⟩ : BA)) then (bif ((aH : Int) == 0) then (K false) else (K false)) else (K false)))) else (K false)))))
noncomputable def YT.g {β : Type} (k : Nat) (aB : Int) (aA : BA) (aH : Int) (aF aI : LD) (K : Bool → Option β) : Option β := YT.m k aB aA aH aF aI K (fun aC aD aJ aK aZ bE bG bV bU => ZA (YT.l0 k aC aD aJ aK aZ bE bG bV bU K) k)
noncomputable def YT.t (k : Nat) (aB : Int) (aA : BA) (aH : Int) (aF aI : LD) : Option (Bool) := YT.g k aB aA aH aF aI (fun z0 => some z0)
noncomputable def YT.f {β : Type} (k : Nat) (aB : Int) (aA : BA) (aH : Int) (aF aI : LD) (K : Bool → Option β) : Option β := bd1 (YT.t k aB aA aH aF aI) K
noncomputable def YT.e (k : Nat) : Zj := ent [.agg [.n,.s,.n,.l,.l]] [1] [.b] [4] false (YT.t k)
noncomputable def YT.p (k : Nat) : Pro := ⟨Tryz.prog,[(96,Y1.e k),(176,YV.e k)],Zv [(6,kp [1,4,5,6,28,29])] false [],k⟩
noncomputable def YT.d (k : Nat) (aB : Int) (aA : BA) (aH : Int) (aF aI : LD) : Ex → St → Option (Bool) := (YT.p k).fin Tryz.f148 [.agg [.int .i64 aB,.str aA,.int .i64 aH,.sl aF,.sl aI]] [1] [.b]
noncomputable def YT.s0 (aC aD aJ : Bool) (aK aZ : Int) (bE : BA) (bG : Int) (bV bU : LD) (v : Int) : St :=
 match v with
 | aL => ZaA 77 [(1,.bp 0 0),(4,.d true (.bool aC)),(5,.d true (.bool aD)),(6,.d true (.bool aJ)),(28,.d true (.int .i64 aK)),(29,.d true (.int .i64 aL))] [.box none 54 [.d false (.int .i64 aZ),.d false (.str bE),.d false (.int .i64 bG),.d false (.sl bV),.d false (.sl bU)]]
noncomputable def YT.r0 (k : Nat) (aB : Int) (aA : BA) (aH : Int) (aF aI : LD) (aC aD aJ : Bool) (aK aZ : Int) (bE : BA) (bG : Int) (bV bU : LD) (n : Nat) (v : Int) : Option (Bool) := (YT.p k).lp (ZI Tryz.f148) 6 [1,1,0,1,0,1,0,0,1,0] (YT.d k aB aA aH aF aI) n (YT.s0 aC aD aJ aK aZ bE bG bV bU v)
theorem YT.l0_eq (k : Nat) (aB : Int) (aA : BA) (aH : Int) (aF aI : LD) (aC aD aJ : Bool) (aK aZ : Int) (bE : BA) (bG : Int) (bV bU : LD) : ∀ n v,YT.r0 k aB aA aH aF aI aC aD aJ aK aZ bE bG bV bU n v = ZA (YT.l0 k aC aD aJ aK aZ bE bG bV bU (fun z0 => some z0)) n v :=
 Zz (YT.s0 aC aD aJ aK aZ bE bG bV bU) _ fun L0 v => by kernel_rfl
theorem YT.ok (k : Nat) : Zf Tryz.prog 148 (YT.e k) := Zk (YT.p k) mix tyok Tryz.func148 ⟨Y1.ok k,YV.ok k⟩ (by kernel_rfl) (fun aB aA aH aF aI => Eq.trans (b := YT.m k aB aA aH aF aI (fun z0 => some z0) (fun aC aD aJ aK aZ bE bG bV bU => YT.r0 k aB aA aH aF aI aC aD aJ aK aZ bE bG bV bU k)) (by kernel_rfl) (congrArg (YT.m k aB aA aH aF aI (fun z0 => some z0)) (funext fun aC => funext fun aD => funext fun aJ => funext fun aK => funext fun aZ => funext fun bE => funext fun bG => funext fun bV => funext fun bU => funext fun v => YT.l0_eq k aB aA aH aF aI aC aD aJ aK aZ bE bG bV bU k v) :))
noncomputable def Yr.l0 {β : Type} (k : Nat) (r_impl_measured : Int → BA → Int → LD → LD → Int → (Int → Option β) → Option β) (aC : Int) (aJ : LD) (aK : Int) (K : Int → Option β) (L0 : (Int × Int) → Option β) (v : Int × Int) : Option β :=
 match v with
 | (aD,aL) => bif (decide ((aL : Int) < aK)) then (atR aJ aL [.n,.s,.n,.l,.l] fun x28 x31 x34 x37 x40 => (r_impl_measured x28 x31 x34 x37 x40 (IntKind.wrap .i64 (aC - 1)) (fun y41 => bif (decide (((IntKind.wrap .i64 (aD + y41)) : Int) > 300)) then (K 301) else (L0 (IntKind.wrap .i64 (aD + y41),IntKind.wrap .i64 (aL + 1)))))) else (K aD)
noncomputable def Yr.m {β : Type} (k : Nat) (r_impl_measured : Int → BA → Int → LD → LD → Int → (Int → Option β) → Option β) (aB : Int) (aA : BA) (aH : Int) (aF aI : LD) (a1 : Int) (K : Int → Option β) (F : (Int → LD → Int → (Int × Int) → Option β)) : Option β :=
 bif ((a1 : Int) == 0) then (K 301) else (YT.f k aB aA aH aF aI (fun y7 => bif (!y7) then (K 301) else (F a1 aI (aI.length : Int) (1,0))))
noncomputable def Yr.body {β : Type} (k : Nat) (r_impl_measured : Int → BA → Int → LD → LD → Int → (Int → Option β) → Option β) (aB : Int) (aA : BA) (aH : Int) (aF aI : LD) (a1 : Int) (K : Int → Option β) : Option β :=
 bif ((a1 : Int) == 0) then (K 301) else (YT.f k aB aA aH aF aI (fun y7 => bif (!y7) then (K 301) else (ZA (Yr.l0 k r_impl_measured a1 aI (aI.length : Int) K) k (1,0))))
noncomputable def Yr.w {β : Type} (r : Int → BA → Int → LD → LD → Int → Option (Int)) (aB : Int) (aA : BA) (aH : Int) (aF aI : LD) (a1 : Int) (K : Int → Option β) : Option β := bd1 (r aB aA aH aF aI a1) K
noncomputable def Yr.all : Nat → (Int → BA → Int → LD → LD → Int → Option (Int))
 | 0 => (fun _ _ _ _ _ _ => none)
 | k + 1 => (fun r => (fun aB aA aH aF aI a1 => Yr.body k (Yr.w r) aB aA aH aF aI a1 (fun z0 => some z0))) (Yr.all k)
noncomputable def Yr.t (k : Nat) (aB : Int) (aA : BA) (aH : Int) (aF aI : LD) (a1 : Int) : Option (Int) := (Yr.all k) aB aA aH aF aI a1
noncomputable def Yr.f {β : Type} (k : Nat) (aB : Int) (aA : BA) (aH : Int) (aF aI : LD) (a1 : Int) (K : Int → Option β) : Option β := Yr.w (Yr.t k) aB aA aH aF aI a1 K
noncomputable def Yr.g {β : Type} (k : Nat) (aB : Int) (aA : BA) (aH : Int) (aF aI : LD) (a1 : Int) (K : Int → Option β) : Option β := Yr.body k (Yr.f k) aB aA aH aF aI a1 K
theorem Yr.t_succ (k : Nat) (aB : Int) (aA : BA) (aH : Int) (aF aI : LD) (a1 : Int) : Yr.t (k + 1) aB aA aH aF aI a1 = Yr.g k aB aA aH aF aI a1 (fun z0 => some z0) := rfl
noncomputable def Yr.e (k : Nat) : Zj := ent [.agg [.n,.s,.n,.l,.l],.d .n] [1] [.n] [3] false (Yr.t k)
noncomputable def Yr.p (k : Nat) : Pro := ⟨Tryz.prog,[(148,YT.e k),(113,Yr.e k)],Zv [(5,kp [1,5,16,17,18])] false [],k⟩
noncomputable def Yr.d (k : Nat) (aB : Int) (aA : BA) (aH : Int) (aF aI : LD) (a1 : Int) : Ex → St → Option (Int) := (Yr.p k).fin Tryz.f113 [.agg [.int .i64 aB,.str aA,.int .i64 aH,.sl aF,.sl aI],.d (.int .i64 a1)] [1] [.n]
noncomputable def Yr.s0 (aC : Int) (aJ : LD) (aK : Int) (v : Int × Int) : St :=
 match v with
 | (aD,aL) => ZaA 32 [(1,.d false (.int .i64 aC)),(5,.d true (.int .i64 aD)),(16,.d false (.sl aJ)),(17,.d true (.int .i64 aK)),(18,.d true (.int .i64 aL))] []
noncomputable def Yr.r0 (k : Nat) (aB : Int) (aA : BA) (aH : Int) (aF aI : LD) (a1 aC : Int) (aJ : LD) (aK : Int) (n : Nat) (v : Int × Int) : Option (Int) := (Yr.p k).lp (ZI Tryz.f113) 5 [1,1,1,0,1,0] (Yr.d k aB aA aH aF aI a1) n (Yr.s0 aC aJ aK v)
theorem Yr.l0_eq (k : Nat) (aB : Int) (aA : BA) (aH : Int) (aF aI : LD) (a1 aC : Int) (aJ : LD) (aK : Int) : ∀ n v,Yr.r0 k aB aA aH aF aI a1 aC aJ aK n v = ZA (Yr.l0 k (Yr.f k) aC aJ aK (fun z0 => some z0)) n v :=
 Zz (Yr.s0 aC aJ aK) _ fun L0 v => by obtain ⟨aD,aL⟩ := v; kernel_rfl
theorem Yr.oks (k : Nat) : Zf Tryz.prog 113 (Yr.e k) := by
 induction k with
 | zero => exact Zba Tryz.func113 (by kernel_rfl) (fun _ _ _ _ _ _ => rfl)
 | succ k ih => exact Zk (Yr.p k) mix tyok Tryz.func113 ⟨YT.ok k,ih⟩ (by kernel_rfl) (fun aB aA aH aF aI a1 => Eq.trans (b := Yr.m k (Yr.f k) aB aA aH aF aI a1 (fun z0 => some z0) (fun aC aJ aK => Yr.r0 k aB aA aH aF aI a1 aC aJ aK k)) (by kernel_rfl) ((congrArg (Yr.m k (Yr.f k) aB aA aH aF aI a1 (fun z0 => some z0)) (funext fun aC => funext fun aJ => funext fun aK => funext fun v => Yr.l0_eq k aB aA aH aF aI a1 aC aJ aK k v)).trans (Yr.t_succ k aB aA aH aF aI a1).symm))
theorem Yr.ok (k : Nat) : Zf Tryz.prog 113 (Yr.e k) := (Yr.oks k)
noncomputable def Yat.g {β : Type} (k : Nat) (aB : Int) (aA : BA) (aH : Int) (aF aI : LD) (K : Bool → Option β) : Option β :=
 Yr.f k aB aA aH aF aI 6 (fun y42 => K (decide ((y42 : Int) ≤ 300)))
noncomputable def Yat.t (k : Nat) (aB : Int) (aA : BA) (aH : Int) (aF aI : LD) : Option (Bool) := Yat.g k aB aA aH aF aI (fun z0 => some z0)
noncomputable def Yat.f {β : Type} (k : Nat) (aB : Int) (aA : BA) (aH : Int) (aF aI : LD) (K : Bool → Option β) : Option β := bd1 (Yat.t k aB aA aH aF aI) K
noncomputable def Yat.e (k : Nat) : Zj := ent [.agg [.n,.s,.n,.l,.l]] [1] [.b] [4] false (Yat.t k)
noncomputable def Yat.p (k : Nat) : Pro := ⟨Tryz.prog,[(113,Yr.e k)],Zv [] false [],k⟩
theorem Yat.ok (k : Nat) : Zf Tryz.prog 57 (Yat.e k) := Zk (Yat.p k) mix tyok Tryz.func57 (Yr.ok k) (by kernel_rfl) (fun aB aA aH aF aI => by show _ = _; kernel_rfl)
noncomputable def YaL.g {β : Type} (k : Nat) (aB : Int) (aA : BA) (aH aF aI : Int) (bD : Bool) (aV : LD) (bA : Int) (aP : BA) (bB : Int) (aQ aW : LD) (aY : Int) (aR : BA) (bC : Int) (aT aX : LD) (a1 a2 : Int) (a3 : Bool) (K : Bool → Option β) : Option β :=
 YaO.f k aB (fun y2 => bif y2 then (Y6.f k aA (fun y9 => bif y9 then (Y1.f k aH 1 a1 (fun y10 => bif y10 then (Y1.f k aF 1 a2 (fun y11 => bif y11 then (Y1.f k aI 1 aF (fun y12 => bif y12 then (YV.f k aV 4 (fun y19 => bif y19 then (bif a3 then (Yat.f k bA aP bB aQ aW (fun y43 => bif y43 then (Yat.f k aY aR bC aT aX (fun y44 => K y44)) else (K false))) else (bif (!bD) then (Yat.f k bA aP bB aQ aW (fun y45 => bif y45 then (Yat.f k aY aR bC aT aX (fun y46 => K y46)) else (K false))) else (bif (decide (((aV.length : Int) : Int) > 0)) then (Yat.f k bA aP bB aQ aW (fun y47 => bif y47 then (Yat.f k aY aR bC aT aX (fun y48 => K y48)) else (K false))) else (K false)))) else (K false))) else (K false))) else (K false))) else (K false))) else (K false))) else (K false))
noncomputable def YaL.t (k : Nat) (aB : Int) (aA : BA) (aH aF aI : Int) (bD : Bool) (aV : LD) (bA : Int) (aP : BA) (bB : Int) (aQ aW : LD) (aY : Int) (aR : BA) (bC : Int) (aT aX : LD) (a1 a2 : Int) (a3 : Bool) : Option (Bool) := YaL.g k aB aA aH aF aI bD aV bA aP bB aQ aW aY aR bC aT aX a1 a2 a3 (fun z0 => some z0)
noncomputable def YaL.f {β : Type} (k : Nat) (aB : Int) (aA : BA) (aH aF aI : Int) (bD : Bool) (aV : LD) (bA : Int) (aP : BA) (bB : Int) (aQ aW : LD) (aY : Int) (aR : BA) (bC : Int) (aT aX : LD) (a1 a2 : Int) (a3 : Bool) (K : Bool → Option β) : Option β := bd1 (YaL.t k aB aA aH aF aI bD aV bA aP bB aQ aW aY aR bC aT aX a1 a2 a3) K
noncomputable def YaL.e (k : Nat) : Zj := ent [.agg [.n,.s,.n,.n,.n,.b,.l,.n,.s,.n,.l,.l,.n,.s,.n,.l,.l],.d .n,.d .n,.d .b] [1] [.b] [4] false (YaL.t k)
noncomputable def YaL.p (k : Nat) : Pro := ⟨Tryz.prog,[(111,YaO.e k),(112,Y6.e k),(96,Y1.e k),(176,YV.e k),(57,Yat.e k)],Zv [] false [],k⟩
theorem YaL.ok (k : Nat) : Zf Tryz.prog 143 (YaL.e k) := Zk (YaL.p k) mix tyok Tryz.func143 ⟨YaO.ok k,Y6.ok k,Y1.ok k,YV.ok k,Yat.ok k⟩ (by kernel_rfl) (fun aB aA aH aF aI bD aV bA aP bB aQ aW aY aR bC aT aX a1 a2 a3 => by show _ = _; kernel_rfl)
noncomputable def Yaq.g {β : Type} (k : Nat) (a0 : Int) (K : Bool → Option β) : Option β :=
 K ((a0 : Int) != a0)
noncomputable def Yaq.t (k : Nat) (a0 : Int) : Option (Bool) := Yaq.g k a0 (fun z0 => some z0)
noncomputable def Yaq.f {β : Type} (k : Nat) (a0 : Int) (K : Bool → Option β) : Option β := bd1 (Yaq.t k a0) K
noncomputable def Yaq.e (k : Nat) : Zj := ent [.d .n] [1] [.b] [4] false (Yaq.t k)
noncomputable def Yaq.p (k : Nat) : Pro := ⟨Tryz.prog,[],Zv [] false [],k⟩
theorem Yaq.ok (k : Nat) : Zf Tryz.prog 177 (Yaq.e k) := Zk (Yaq.p k) mix tyok Tryz.func177 trivial (by kernel_rfl) (fun a0 => by show _ = _; kernel_rfl)
noncomputable def Yaj.g {β : Type} (k : Nat) (a0 a1 : Int) (K : Int → Option β) : Option β :=
 Yaq.f k a0 (fun y1 => Yaq.f k a1 (fun y2 => bif y1 then (bif y2 then (K 0) else (K (-1))) else (bif y2 then (K 1) else (bif (decide ((a0 : Int) < a1)) then (K (-1)) else (bif (decide ((a0 : Int) > a1)) then (K 1) else (K 0))))))
noncomputable def Yaj.t (k : Nat) (a0 a1 : Int) : Option (Int) := Yaj.g k a0 a1 (fun z0 => some z0)
noncomputable def Yaj.f {β : Type} (k : Nat) (a0 a1 : Int) (K : Int → Option β) : Option β := bd1 (Yaj.t k a0 a1) K
noncomputable def Yaj.e (k : Nat) : Zj := ent [.d .n,.d .n] [1] [.n] [3] false (Yaj.t k)
noncomputable def Yaj.p (k : Nat) : Pro := ⟨Tryz.prog,[(177,Yaq.e k)],Zv [] false [],k⟩
theorem Yaj.ok (k : Nat) : Zf Tryz.prog 151 (Yaj.e k) := Zk (Yaj.p k) mix tyok Tryz.func151 (Yaq.ok k) (by kernel_rfl) (fun a0 a1 => by show _ = _; kernel_rfl)
noncomputable def Yam.t (k : Nat) (a0 a1 : BA) : Option Int := some (cmpS a0 a1)
noncomputable def Yam.f {β : Type} (k : Nat) (a0 a1 : BA) (K : Int → Option β) : Option β :=
 match Yam.t k a0 a1 with
 | some z0 => K z0
 | none => none
noncomputable def Yam.run (k : Nat) : {β : Type} → List A → (LC → List Out → Option β) → Option β := fun {β} l K =>
 match l with
 | [.d (.str a0),.d (.str a1)] => Yam.f k a0 a1 (fun z0 => K [[.d (.int .i64 z0)]] [])
 | _ => none
noncomputable def Yam.e (k : Nat) : Zj := { modes := [(.imm,0),(.imm,0)],rts := [3],al := false,run := Yam.run k }
set_option maxHeartbeats 1000000 in
set_option maxRecDepth 100000 in
theorem Yam.calls (a b : BA) (w : World) : Calls Tryz.prog 178 #[.string a,.string b] w fun e w' => e = .returned (.int .i64 (cmpS a b)) ∧ w' = w := by
 go_enter Tryz.func178,Tryz.ntmps178
 go_wp2
 rw [run_callFunc_extern Tryz.func195 (by kernel_rfl) (by kernel_rfl) (by kernel_rfl) (e := Extern.BytealgCompare.compare) (by kernel_rfl),Go.Lib.run_compareString]
 simp only [Result.andThen]
 rw [Oper.upon_value]
 go_wp2
 go_ret
 exact ⟨rfl,rfl⟩
theorem Yam.ok (k : Nat) : Zf Tryz.prog 178 (Yam.e k) := strs_ok (t := 3) (g := cmpS) (run := fun {β} => Yam.run k) (enter_of Tryz.func178 (by kernel_rfl)) (by kernel_rfl) (by kernel_rfl) Yam.calls (fun β aa K r h => by
 unfold Yam.run at h
 split at h
 ·exact ⟨_,_,rfl,h⟩
 ·cases h)
noncomputable def Yai.g {β : Type} (k : Nat) (a0 a1 : BA) (K : Int → Option β) : Option β :=
 Yam.f k a0 a1 (fun y1 => K y1)
noncomputable def Yai.t (k : Nat) (a0 a1 : BA) : Option (Int) := Yai.g k a0 a1 (fun z0 => some z0)
noncomputable def Yai.f {β : Type} (k : Nat) (a0 a1 : BA) (K : Int → Option β) : Option β := bd1 (Yai.t k a0 a1) K
noncomputable def Yai.e (k : Nat) : Zj := ent [.d .s,.d .s] [1] [.n] [3] false (Yai.t k)
noncomputable def Yai.p (k : Nat) : Pro := ⟨Tryz.prog,[(178,Yam.e k)],Zv [] false [],k⟩
theorem Yai.ok (k : Nat) : Zf Tryz.prog 152 (Yai.e k) := Zk (Yai.p k) mix tyok Tryz.func152 (Yam.ok k) (by kernel_rfl) (fun a0 a1 => by show _ = _; kernel_rfl)
noncomputable def Yan.g {β : Type} (k : Nat) (aB : Int) (aA : BA) (aH aF aI : Int) (bD : Bool) (aV : LD) (bA : Int) (aP : BA) (bB : Int) (aQ aW : LD) (aY : Int) (aR : BA) (bC : Int) (aT aX : LD) (aM : Int) (aN : BA) (aU aO bF : Int) (bH : Bool) (bI : LD) (bJ : Int) (bK : BA) (bL : Int) (bM bN : LD) (bO : Int) (bP : BA) (bQ : Int) (bR bT : LD) (K : Int → Option β) : Option β :=
 Yaj.f k aB aM (fun y3 => bif ((y3 : Int) != 0) then (K y3) else (Yai.f k aA aN (fun y4 => K y4)))
noncomputable def Yan.t (k : Nat) (aB : Int) (aA : BA) (aH aF aI : Int) (bD : Bool) (aV : LD) (bA : Int) (aP : BA) (bB : Int) (aQ aW : LD) (aY : Int) (aR : BA) (bC : Int) (aT aX : LD) (aM : Int) (aN : BA) (aU aO bF : Int) (bH : Bool) (bI : LD) (bJ : Int) (bK : BA) (bL : Int) (bM bN : LD) (bO : Int) (bP : BA) (bQ : Int) (bR bT : LD) : Option (Int) := Yan.g k aB aA aH aF aI bD aV bA aP bB aQ aW aY aR bC aT aX aM aN aU aO bF bH bI bJ bK bL bM bN bO bP bQ bR bT (fun z0 => some z0)
noncomputable def Yan.f {β : Type} (k : Nat) (aB : Int) (aA : BA) (aH aF aI : Int) (bD : Bool) (aV : LD) (bA : Int) (aP : BA) (bB : Int) (aQ aW : LD) (aY : Int) (aR : BA) (bC : Int) (aT aX : LD) (aM : Int) (aN : BA) (aU aO bF : Int) (bH : Bool) (bI : LD) (bJ : Int) (bK : BA) (bL : Int) (bM bN : LD) (bO : Int) (bP : BA) (bQ : Int) (bR bT : LD) (K : Int → Option β) : Option β := bd1 (Yan.t k aB aA aH aF aI bD aV bA aP bB aQ aW aY aR bC aT aX aM aN aU aO bF bH bI bJ bK bL bM bN bO bP bQ bR bT) K
noncomputable def Yan.e (k : Nat) : Zj := ent [.agg [.n,.s,.n,.n,.n,.b,.l,.n,.s,.n,.l,.l,.n,.s,.n,.l,.l],.agg [.n,.s,.n,.n,.n,.b,.l,.n,.s,.n,.l,.l,.n,.s,.n,.l,.l]] [1] [.n] [3] false (Yan.t k)
noncomputable def Yan.p (k : Nat) : Pro := ⟨Tryz.prog,[(151,Yaj.e k),(152,Yai.e k)],Zv [] false [],k⟩
theorem Yan.ok (k : Nat) : Zf Tryz.prog 120 (Yan.e k) := Zk (Yan.p k) mix tyok Tryz.func120 ⟨Yaj.ok k,Yai.ok k⟩ (by kernel_rfl) (fun aB aA aH aF aI bD aV bA aP bB aQ aW aY aR bC aT aX aM aN aU aO bF bH bI bJ bK bL bM bN bO bP bQ bR bT => by show _ = _; kernel_rfl)
noncomputable def YaE.g {β : Type} (k : Nat) (aB : Int) (aA : BA) (aH aF aI : Int) (bD : Bool) (aV : LD) (bA : Int) (aP : BA) (bB : Int) (aQ aW : LD) (aY : Int) (aR : BA) (bC : Int) (aT aX : LD) (f0_0 : Int) (f0_1 : BA) (f0_2 f0_3 f0_4 : Int) (f0_5 : Bool) (f0_6 : LD) (f0_7 : Int) (f0_8 : BA) (f0_9 : Int) (f0_10 f0_11 : LD) (f0_12 : Int) (f0_13 : BA) (f0_14 : Int) (f0_15 f0_16 : LD) (K : Bool → Option β) : Option β :=
 K ((aH : Int) == f0_2)
noncomputable def YaE.t (k : Nat) (aB : Int) (aA : BA) (aH aF aI : Int) (bD : Bool) (aV : LD) (bA : Int) (aP : BA) (bB : Int) (aQ aW : LD) (aY : Int) (aR : BA) (bC : Int) (aT aX : LD) (f0_0 : Int) (f0_1 : BA) (f0_2 f0_3 f0_4 : Int) (f0_5 : Bool) (f0_6 : LD) (f0_7 : Int) (f0_8 : BA) (f0_9 : Int) (f0_10 f0_11 : LD) (f0_12 : Int) (f0_13 : BA) (f0_14 : Int) (f0_15 f0_16 : LD) : Option (Bool) := YaE.g k aB aA aH aF aI bD aV bA aP bB aQ aW aY aR bC aT aX f0_0 f0_1 f0_2 f0_3 f0_4 f0_5 f0_6 f0_7 f0_8 f0_9 f0_10 f0_11 f0_12 f0_13 f0_14 f0_15 f0_16 (fun z0 => some z0)
noncomputable def YaE.f {β : Type} (k : Nat) (aB : Int) (aA : BA) (aH aF aI : Int) (bD : Bool) (aV : LD) (bA : Int) (aP : BA) (bB : Int) (aQ aW : LD) (aY : Int) (aR : BA) (bC : Int) (aT aX : LD) (f0_0 : Int) (f0_1 : BA) (f0_2 f0_3 f0_4 : Int) (f0_5 : Bool) (f0_6 : LD) (f0_7 : Int) (f0_8 : BA) (f0_9 : Int) (f0_10 f0_11 : LD) (f0_12 : Int) (f0_13 : BA) (f0_14 : Int) (f0_15 f0_16 : LD) (K : Bool → Option β) : Option β := bd1 (YaE.t k aB aA aH aF aI bD aV bA aP bB aQ aW aY aR bC aT aX f0_0 f0_1 f0_2 f0_3 f0_4 f0_5 f0_6 f0_7 f0_8 f0_9 f0_10 f0_11 f0_12 f0_13 f0_14 f0_15 f0_16) K
noncomputable def YaE.e (k : Nat) : Zj := ent [.agg [.n,.s,.n,.n,.n,.b,.l,.n,.s,.n,.l,.l,.n,.s,.n,.l,.l],.ip [.n,.s,.n,.n,.n,.b,.l,.n,.s,.n,.l,.l,.n,.s,.n,.l,.l]] [1] [.b] [4] false (YaE.t k)
noncomputable def YaE.p (k : Nat) : Pro := ⟨Tryz.prog,[],Zv [] false [],k⟩
theorem YaE.ok (k : Nat) : Zf Tryz.prog 175 (YaE.e k) := Zk (YaE.p k) mix tyok Tryz.func175 trivial (by kernel_rfl) (fun aB aA aH aF aI bD aV bA aP bB aQ aW aY aR bC aT aX f0_0 f0_1 f0_2 f0_3 f0_4 f0_5 f0_6 f0_7 f0_8 f0_9 f0_10 f0_11 f0_12 f0_13 f0_14 f0_15 f0_16 => by show _ = _; kernel_rfl)
noncomputable def Yd.l0 {β : Type} (k : Nat) (aC : LD) (aD : Int) (aJ : BA) (aK aL aZ : Int) (bE : Bool) (bG : LD) (bV : Int) (bU : BA) (bX : Int) (bW bY : LD) (cC : Int) (cE : BA) (cF : Int) (cG cH : LD) (cJ : Int) (K L0 : Int → Option β) (v : Int) : Option β :=
 match v with
 | cK => bif (decide ((cK : Int) < cJ)) then (atR aC cK [.n,.s,.n,.n,.n,.b,.l,.n,.s,.n,.l,.l,.n,.s,.n,.l,.l] fun x57 x60 x63 x66 x69 x72 x75 x78 x81 x84 x87 x90 x93 x96 x99 x102 x105 => (YaE.f k x57 x60 x63 x66 x69 x72 x75 x78 x81 x84 x87 x90 x93 x96 x99 x102 x105 aD aJ aK aL aZ bE bG bV bU bX bW bY cC cE cF cG cH (fun y106 => bif y106 then (K cK) else (L0 (IntKind.wrap .i64 (cK + 1)))))) else (K (-1))
noncomputable def Yd.m {β : Type} (k : Nat) (a0 : LD) (a1_0_0 : Int) (a1_0_1 : BA) (a1_0_2 a1_0_3 a1_0_4 : Int) (a1_0_5 : Bool) (a1_0_6 : LD) (a1_0_7 : Int) (a1_0_8 : BA) (a1_0_9 : Int) (a1_0_10 a1_0_11 : LD) (a1_0_12 : Int) (a1_0_13 : BA) (a1_0_14 : Int) (a1_0_15 a1_0_16 : LD) (K : Int → Option β) (F : (LD → Int → BA → Int → Int → Int → Bool → LD → Int → BA → Int → LD → LD → Int → BA → Int → LD → LD → Int → Int → Option β)) : Option β :=
 F a0 a1_0_0 a1_0_1 a1_0_2 a1_0_3 a1_0_4 a1_0_5 a1_0_6 a1_0_7 a1_0_8 a1_0_9 a1_0_10 a1_0_11 a1_0_12 a1_0_13 a1_0_14 a1_0_15 a1_0_16 (a0.length : Int) (0)
noncomputable def Yd.g {β : Type} (k : Nat) (a0 : LD) (a1_0_0 : Int) (a1_0_1 : BA) (a1_0_2 a1_0_3 a1_0_4 : Int) (a1_0_5 : Bool) (a1_0_6 : LD) (a1_0_7 : Int) (a1_0_8 : BA) (a1_0_9 : Int) (a1_0_10 a1_0_11 : LD) (a1_0_12 : Int) (a1_0_13 : BA) (a1_0_14 : Int) (a1_0_15 a1_0_16 : LD) (K : Int → Option β) : Option β :=
 ZA (Yd.l0 k a0 a1_0_0 a1_0_1 a1_0_2 a1_0_3 a1_0_4 a1_0_5 a1_0_6 a1_0_7 a1_0_8 a1_0_9 a1_0_10 a1_0_11 a1_0_12 a1_0_13 a1_0_14 a1_0_15 a1_0_16 (a0.length : Int) K) k (0)
noncomputable def Yd.t (k : Nat) (a0 : LD) (a1_0_0 : Int) (a1_0_1 : BA) (a1_0_2 a1_0_3 a1_0_4 : Int) (a1_0_5 : Bool) (a1_0_6 : LD) (a1_0_7 : Int) (a1_0_8 : BA) (a1_0_9 : Int) (a1_0_10 a1_0_11 : LD) (a1_0_12 : Int) (a1_0_13 : BA) (a1_0_14 : Int) (a1_0_15 a1_0_16 : LD) : Option (Int) := Yd.g k a0 a1_0_0 a1_0_1 a1_0_2 a1_0_3 a1_0_4 a1_0_5 a1_0_6 a1_0_7 a1_0_8 a1_0_9 a1_0_10 a1_0_11 a1_0_12 a1_0_13 a1_0_14 a1_0_15 a1_0_16 (fun z0 => some z0)
noncomputable def Yd.f {β : Type} (k : Nat) (a0 : LD) (a1_0_0 : Int) (a1_0_1 : BA) (a1_0_2 a1_0_3 a1_0_4 : Int) (a1_0_5 : Bool) (a1_0_6 : LD) (a1_0_7 : Int) (a1_0_8 : BA) (a1_0_9 : Int) (a1_0_10 a1_0_11 : LD) (a1_0_12 : Int) (a1_0_13 : BA) (a1_0_14 : Int) (a1_0_15 a1_0_16 : LD) (K : Int → Option β) : Option β := bd1 (Yd.t k a0 a1_0_0 a1_0_1 a1_0_2 a1_0_3 a1_0_4 a1_0_5 a1_0_6 a1_0_7 a1_0_8 a1_0_9 a1_0_10 a1_0_11 a1_0_12 a1_0_13 a1_0_14 a1_0_15 a1_0_16) K
noncomputable def Yd.e (k : Nat) : Zj := ent [.d .l,.fn 175 [[.n,.s,.n,.n,.n,.b,.l,.n,.s,.n,.l,.l,.n,.s,.n,.l,.l]]] [1] [.n] [3] false (Yd.t k)
noncomputable def Yd.p (k : Nat) : Pro := ⟨Tryz.prog,[(175,YaE.e k)],Zv [(2,kp [0,1,7,8])] false [],k⟩
noncomputable def Yd.d (k : Nat) (a0 : LD) (a1_0_0 : Int) (a1_0_1 : BA) (a1_0_2 a1_0_3 a1_0_4 : Int) (a1_0_5 : Bool) (a1_0_6 : LD) (a1_0_7 : Int) (a1_0_8 : BA) (a1_0_9 : Int) (a1_0_10 a1_0_11 : LD) (a1_0_12 : Int) (a1_0_13 : BA) (a1_0_14 : Int) (a1_0_15 a1_0_16 : LD) : Ex → St → Option (Int) := (Yd.p k).fin Tryz.f149 [.d (.sl a0),.d (.fn 175 [[.int .i64 a1_0_0,.str a1_0_1,.int .i64 a1_0_2,.int .i64 a1_0_3,.int .i64 a1_0_4,.bool a1_0_5,.sl a1_0_6,.int .i64 a1_0_7,.str a1_0_8,.int .i64 a1_0_9,.sl a1_0_10,.sl a1_0_11,.int .i64 a1_0_12,.str a1_0_13,.int .i64 a1_0_14,.sl a1_0_15,.sl a1_0_16]])] [1] [.n]
noncomputable def Yd.s0 (aC : LD) (aD : Int) (aJ : BA) (aK aL aZ : Int) (bE : Bool) (bG : LD) (bV : Int) (bU : BA) (bX : Int) (bW bY : LD) (cC : Int) (cE : BA) (cF : Int) (cG cH : LD) (cJ v : Int) : St :=
 match v with
 | cK => ZaA 19 [(0,.d false (.sl aC)),(1,.d false (.fn 175 [[.int .i64 aD,.str aJ,.int .i64 aK,.int .i64 aL,.int .i64 aZ,.bool bE,.sl bG,.int .i64 bV,.str bU,.int .i64 bX,.sl bW,.sl bY,.int .i64 cC,.str cE,.int .i64 cF,.sl cG,.sl cH]])),(7,.d true (.int .i64 cJ)),(8,.d true (.int .i64 cK))] []
noncomputable def Yd.r0 (k : Nat) (a0 : LD) (a1_0_0 : Int) (a1_0_1 : BA) (a1_0_2 a1_0_3 a1_0_4 : Int) (a1_0_5 : Bool) (a1_0_6 : LD) (a1_0_7 : Int) (a1_0_8 : BA) (a1_0_9 : Int) (a1_0_10 a1_0_11 : LD) (a1_0_12 : Int) (a1_0_13 : BA) (a1_0_14 : Int) (a1_0_15 a1_0_16 aC : LD) (aD : Int) (aJ : BA) (aK aL aZ : Int) (bE : Bool) (bG : LD) (bV : Int) (bU : BA) (bX : Int) (bW bY : LD) (cC : Int) (cE : BA) (cF : Int) (cG cH : LD) (cJ : Int) (n : Nat) (v : Int) : Option (Int) := (Yd.p k).lp (ZI Tryz.f149) 2 [1,0,1,0] (Yd.d k a0 a1_0_0 a1_0_1 a1_0_2 a1_0_3 a1_0_4 a1_0_5 a1_0_6 a1_0_7 a1_0_8 a1_0_9 a1_0_10 a1_0_11 a1_0_12 a1_0_13 a1_0_14 a1_0_15 a1_0_16) n (Yd.s0 aC aD aJ aK aL aZ bE bG bV bU bX bW bY cC cE cF cG cH cJ v)
theorem Yd.l0_eq (k : Nat) (a0 : LD) (a1_0_0 : Int) (a1_0_1 : BA) (a1_0_2 a1_0_3 a1_0_4 : Int) (a1_0_5 : Bool) (a1_0_6 : LD) (a1_0_7 : Int) (a1_0_8 : BA) (a1_0_9 : Int) (a1_0_10 a1_0_11 : LD) (a1_0_12 : Int) (a1_0_13 : BA) (a1_0_14 : Int) (a1_0_15 a1_0_16 aC : LD) (aD : Int) (aJ : BA) (aK aL aZ : Int) (bE : Bool) (bG : LD) (bV : Int) (bU : BA) (bX : Int) (bW bY : LD) (cC : Int) (cE : BA) (cF : Int) (cG cH : LD) (cJ : Int) : ∀ n v,Yd.r0 k a0 a1_0_0 a1_0_1 a1_0_2 a1_0_3 a1_0_4 a1_0_5 a1_0_6 a1_0_7 a1_0_8 a1_0_9 a1_0_10 a1_0_11 a1_0_12 a1_0_13 a1_0_14 a1_0_15 a1_0_16 aC aD aJ aK aL aZ bE bG bV bU bX bW bY cC cE cF cG cH cJ n v = ZA (Yd.l0 k aC aD aJ aK aL aZ bE bG bV bU bX bW bY cC cE cF cG cH cJ (fun z0 => some z0)) n v :=
 Zz (Yd.s0 aC aD aJ aK aL aZ bE bG bV bU bX bW bY cC cE cF cG cH cJ) _ fun L0 v => by kernel_rfl
theorem Yd.ok (k : Nat) : Zf Tryz.prog 149 (Yd.e k) := Zk (Yd.p k) mix tyok Tryz.func149 (YaE.ok k) (by kernel_rfl) (fun a0 a1_0_0 a1_0_1 a1_0_2 a1_0_3 a1_0_4 a1_0_5 a1_0_6 a1_0_7 a1_0_8 a1_0_9 a1_0_10 a1_0_11 a1_0_12 a1_0_13 a1_0_14 a1_0_15 a1_0_16 => Eq.trans (b := Yd.m k a0 a1_0_0 a1_0_1 a1_0_2 a1_0_3 a1_0_4 a1_0_5 a1_0_6 a1_0_7 a1_0_8 a1_0_9 a1_0_10 a1_0_11 a1_0_12 a1_0_13 a1_0_14 a1_0_15 a1_0_16 (fun z0 => some z0) (fun aC aD aJ aK aL aZ bE bG bV bU bX bW bY cC cE cF cG cH cJ => Yd.r0 k a0 a1_0_0 a1_0_1 a1_0_2 a1_0_3 a1_0_4 a1_0_5 a1_0_6 a1_0_7 a1_0_8 a1_0_9 a1_0_10 a1_0_11 a1_0_12 a1_0_13 a1_0_14 a1_0_15 a1_0_16 aC aD aJ aK aL aZ bE bG bV bU bX bW bY cC cE cF cG cH cJ k)) (by kernel_rfl) (congrArg (Yd.m k a0 a1_0_0 a1_0_1 a1_0_2 a1_0_3 a1_0_4 a1_0_5 a1_0_6 a1_0_7 a1_0_8 a1_0_9 a1_0_10 a1_0_11 a1_0_12 a1_0_13 a1_0_14 a1_0_15 a1_0_16 (fun z0 => some z0)) (funext fun aC => funext fun aD => funext fun aJ => funext fun aK => funext fun aL => funext fun aZ => funext fun bE => funext fun bG => funext fun bV => funext fun bU => funext fun bX => funext fun bW => funext fun bY => funext fun cC => funext fun cE => funext fun cF => funext fun cG => funext fun cH => funext fun cJ => funext fun v => Yd.l0_eq k a0 a1_0_0 a1_0_1 a1_0_2 a1_0_3 a1_0_4 a1_0_5 a1_0_6 a1_0_7 a1_0_8 a1_0_9 a1_0_10 a1_0_11 a1_0_12 a1_0_13 a1_0_14 a1_0_15 a1_0_16 aC aD aJ aK aL aZ bE bG bV bU bX bW bY cC cE cF cG cH cJ k v) :))
noncomputable def Yk.g {β : Type} (k : Nat) (a0 : LD) (a1_0_0 : Int) (a1_0_1 : BA) (a1_0_2 a1_0_3 a1_0_4 : Int) (a1_0_5 : Bool) (a1_0_6 : LD) (a1_0_7 : Int) (a1_0_8 : BA) (a1_0_9 : Int) (a1_0_10 a1_0_11 : LD) (a1_0_12 : Int) (a1_0_13 : BA) (a1_0_14 : Int) (a1_0_15 a1_0_16 : LD) (K : Bool → Option β) : Option β :=
 Yd.f k a0 a1_0_0 a1_0_1 a1_0_2 a1_0_3 a1_0_4 a1_0_5 a1_0_6 a1_0_7 a1_0_8 a1_0_9 a1_0_10 a1_0_11 a1_0_12 a1_0_13 a1_0_14 a1_0_15 a1_0_16 (fun y107 => K (decide ((y107 : Int) ≥ 0)))
noncomputable def Yk.t (k : Nat) (a0 : LD) (a1_0_0 : Int) (a1_0_1 : BA) (a1_0_2 a1_0_3 a1_0_4 : Int) (a1_0_5 : Bool) (a1_0_6 : LD) (a1_0_7 : Int) (a1_0_8 : BA) (a1_0_9 : Int) (a1_0_10 a1_0_11 : LD) (a1_0_12 : Int) (a1_0_13 : BA) (a1_0_14 : Int) (a1_0_15 a1_0_16 : LD) : Option (Bool) := Yk.g k a0 a1_0_0 a1_0_1 a1_0_2 a1_0_3 a1_0_4 a1_0_5 a1_0_6 a1_0_7 a1_0_8 a1_0_9 a1_0_10 a1_0_11 a1_0_12 a1_0_13 a1_0_14 a1_0_15 a1_0_16 (fun z0 => some z0)
noncomputable def Yk.f {β : Type} (k : Nat) (a0 : LD) (a1_0_0 : Int) (a1_0_1 : BA) (a1_0_2 a1_0_3 a1_0_4 : Int) (a1_0_5 : Bool) (a1_0_6 : LD) (a1_0_7 : Int) (a1_0_8 : BA) (a1_0_9 : Int) (a1_0_10 a1_0_11 : LD) (a1_0_12 : Int) (a1_0_13 : BA) (a1_0_14 : Int) (a1_0_15 a1_0_16 : LD) (K : Bool → Option β) : Option β := bd1 (Yk.t k a0 a1_0_0 a1_0_1 a1_0_2 a1_0_3 a1_0_4 a1_0_5 a1_0_6 a1_0_7 a1_0_8 a1_0_9 a1_0_10 a1_0_11 a1_0_12 a1_0_13 a1_0_14 a1_0_15 a1_0_16) K
noncomputable def Yk.e (k : Nat) : Zj := ent [.d .l,.fn 175 [[.n,.s,.n,.n,.n,.b,.l,.n,.s,.n,.l,.l,.n,.s,.n,.l,.l]]] [1] [.b] [4] false (Yk.t k)
noncomputable def Yk.p (k : Nat) : Pro := ⟨Tryz.prog,[(149,Yd.e k)],Zv [] false [],k⟩
theorem Yk.ok (k : Nat) : Zf Tryz.prog 174 (Yk.e k) := Zk (Yk.p k) mix tyok Tryz.func174 (Yd.ok k) (by kernel_rfl) (fun a0 a1_0_0 a1_0_1 a1_0_2 a1_0_3 a1_0_4 a1_0_5 a1_0_6 a1_0_7 a1_0_8 a1_0_9 a1_0_10 a1_0_11 a1_0_12 a1_0_13 a1_0_14 a1_0_15 a1_0_16 => by show _ = _; kernel_rfl)
noncomputable def Y2.l0 {β : Type} (k : Nat) (aC : LD) (aD aJ : Int) (aK : LD) (aL : Int) (K : Bool → Option β) (L0 : Int → Option β) (v : Int) : Option β :=
 match v with
 | aZ => bif (decide ((aZ : Int) < aL)) then (atR aK aZ [.n,.s,.n,.n,.n,.b,.l,.n,.s,.n,.l,.l,.n,.s,.n,.l,.l] fun x113 x116 x119 x122 x125 x128 x131 x134 x137 x140 x143 x146 x149 x152 x155 x158 x161 => (YaL.f k x113 x116 x119 x122 x125 x128 x131 x134 x137 x140 x143 x146 x149 x152 x155 x158 x161 aD aJ false (fun y162 => bif (!y162) then (K false) else (let J0 := (0 ≤ (0 : Int) ∧ (0 : Int) ≤ (aZ : Int) ∧ (aZ : Int) ≤ (aC.length : Int) ∧ Zbk 17 aC); let J1 := ((aC.drop (Int.toNat (0 : Int))).take (Int.toNat (aZ : Int) - Int.toNat (0 : Int))); bif (decide ((aZ : Int) > 0)) then (atR aC (IntKind.wrap .i64 (aZ - 1)) [.n,.s,.n,.n,.n,.b,.l,.n,.s,.n,.l,.l,.n,.s,.n,.l,.l] fun x166 x169 x172 x175 x178 x181 x184 x187 x190 x193 x196 x199 x202 x205 x208 x211 x214 => (Yan.f k x166 x169 x172 x175 x178 x181 x184 x187 x190 x193 x196 x199 x202 x205 x208 x211 x214 x113 x116 x119 x122 x125 x128 x131 x134 x137 x140 x143 x146 x149 x152 x155 x158 x161 (fun y215 => bif (decide ((y215 : Int) ≥ 0)) then (K false) else (Zd J0 (Yk.f k J1 x113 x116 x119 x122 x125 x128 x131 x134 x137 x140 x143 x146 x149 x152 x155 x158 x161 (fun y216 => bif y216 then (K false) else (L0 (IntKind.wrap .i64 (aZ + 1))))))))) else (Zd J0 (Yk.f k J1 x113 x116 x119 x122 x125 x128 x131 x134 x137 x140 x143 x146 x149 x152 x155 x158 x161 (fun y217 => bif y217 then (K false) else (L0 (IntKind.wrap .i64 (aZ + 1)))))))))) else (K (decide (((aC.length : Int) : Int) ≤ 60)))
noncomputable def Y2.m {β : Type} (k : Nat) (a0 : LD) (a1 a2 : Int) (K : Bool → Option β) (F : (LD → Int → Int → LD → Int → Int → Option β)) : Option β :=
 F a0 a1 a2 a0 (a0.length : Int) (0)
noncomputable def Y2.g {β : Type} (k : Nat) (a0 : LD) (a1 a2 : Int) (K : Bool → Option β) : Option β :=
 ZA (Y2.l0 k a0 a1 a2 a0 (a0.length : Int) K) k (0)
noncomputable def Y2.t (k : Nat) (a0 : LD) (a1 a2 : Int) : Option (Bool) := Y2.g k a0 a1 a2 (fun z0 => some z0)
noncomputable def Y2.f {β : Type} (k : Nat) (a0 : LD) (a1 a2 : Int) (K : Bool → Option β) : Option β := bd1 (Y2.t k a0 a1 a2) K
noncomputable def Y2.e (k : Nat) : Zj := ent [.d .l,.d .n,.d .n] [1] [.b] [4] false (Y2.t k)
noncomputable def Y2.p (k : Nat) : Pro := ⟨Tryz.prog,[(143,YaL.e k),(120,Yan.e k),(174,Yk.e k)],Zv [(2,kp [0,1,2,9,10,11])] false [],k⟩
noncomputable def Y2.d (k : Nat) (a0 : LD) (a1 a2 : Int) : Ex → St → Option (Bool) := (Y2.p k).fin Tryz.f142 [.d (.sl a0),.d (.int .i64 a1),.d (.int .i64 a2)] [1] [.b]
noncomputable def Y2.s0 (aC : LD) (aD aJ : Int) (aK : LD) (aL v : Int) : St :=
 match v with
 | aZ => ZaA 44 [(0,.d false (.sl aC)),(1,.d false (.int .i64 aD)),(2,.d false (.int .i64 aJ)),(9,.d false (.sl aK)),(10,.d true (.int .i64 aL)),(11,.d true (.int .i64 aZ))] []
noncomputable def Y2.r0 (k : Nat) (a0 : LD) (a1 a2 : Int) (aC : LD) (aD aJ : Int) (aK : LD) (aL : Int) (n : Nat) (v : Int) : Option (Bool) := (Y2.p k).lp (ZI Tryz.f142) 2 [1,0,1,0] (Y2.d k a0 a1 a2) n (Y2.s0 aC aD aJ aK aL v)
theorem Y2.l0_eq (k : Nat) (a0 : LD) (a1 a2 : Int) (aC : LD) (aD aJ : Int) (aK : LD) (aL : Int) : ∀ n v,Y2.r0 k a0 a1 a2 aC aD aJ aK aL n v = ZA (Y2.l0 k aC aD aJ aK aL (fun z0 => some z0)) n v :=
 Zz (Y2.s0 aC aD aJ aK aL) _ fun L0 v => by kernel_rfl
theorem Y2.ok (k : Nat) : Zf Tryz.prog 142 (Y2.e k) := Zk (Y2.p k) mix tyok Tryz.func142 ⟨YaL.ok k,Yan.ok k,Yk.ok k⟩ (by kernel_rfl) (fun a0 a1 a2 => Eq.trans (b := Y2.m k a0 a1 a2 (fun z0 => some z0) (fun aC aD aJ aK aL => Y2.r0 k a0 a1 a2 aC aD aJ aK aL k)) (by kernel_rfl) (congrArg (Y2.m k a0 a1 a2 (fun z0 => some z0)) (funext fun aC => funext fun aD => funext fun aJ => funext fun aK => funext fun aL => funext fun v => Y2.l0_eq k a0 a1 a2 aC aD aJ aK aL k v) :))
noncomputable def YW.l0 {β : Type} (k : Nat) (aC : LD) (aD : Int) (aK : LD) (aL aZ : Int) (bE : LD) (K : Bool → Option β) (L0 : Int → Option β) (v : Int) : Option β :=
 match v with
 | aJ => bif (decide ((aJ : Int) < aD)) then (atR aC aJ [.n,.b,.n,.s,.n,.n,.n,.b,.l,.n,.s,.n,.l,.l,.n,.s,.n,.l,.l] fun x339 x342 x345 x348 x351 x354 x357 x360 x363 x366 x369 x372 x375 x378 x381 x384 x387 x390 x393 => (YaL.f k x345 x348 x351 x354 x357 x360 x363 x366 x369 x372 x375 x378 x381 x384 x387 x390 x393 (IntKind.wrap .i64 (aZ - 1)) aL x342 (fun y394 => bif (!y394) then (K false) else (bif ((x354 : Int) != x339) then (K false) else (bif (decide ((aJ : Int) > 0)) then (atR bE (IntKind.wrap .i64 (aJ - 1)) [.n,.b,.n,.s,.n,.n,.n,.b,.l,.n,.s,.n,.l,.l,.n,.s,.n,.l,.l] fun x398 x401 x404 x407 x410 x413 x416 x419 x422 x425 x428 x431 x434 x437 x440 x443 x446 x449 x452 => (bif (decide ((x398 : Int) ≥ x339)) then (K false) else (L0 (IntKind.wrap .i64 (aJ + 1))))) else (L0 (IntKind.wrap .i64 (aJ + 1)))))))) else (K true)
noncomputable def YW.m {β : Type} (k : Nat) (aB : LD) (aA aH : Int) (aF : LD) (K : Bool → Option β) (F : (LD → Int → LD → Int → Int → LD → Int → Option β)) : Option β :=
 Y1.f k aA 0 1000000 (fun y1 => bif (!y1) then (K false) else (Y1.f k aH 1 1000000 (fun y2 => bif (!y2) then (K false) else (Y2.f k aB (IntKind.wrap .i64 (aH - 1)) aA (fun y218 => bif (!y218) then (K false) else (bif (decide (((aF.length : Int) : Int) > 40)) then (K false) else (F aF (aF.length : Int) aB aA aH aF (0))))))))
noncomputable def YW.g {β : Type} (k : Nat) (aB : LD) (aA aH : Int) (aF : LD) (K : Bool → Option β) : Option β := YW.m k aB aA aH aF K (fun aC aD aK aL aZ bE => ZA (YW.l0 k aC aD aK aL aZ bE K) k)
noncomputable def YW.t (k : Nat) (aB : LD) (aA aH : Int) (aF : LD) : Option (Bool) := YW.g k aB aA aH aF (fun z0 => some z0)
noncomputable def YW.f {β : Type} (k : Nat) (aB : LD) (aA aH : Int) (aF : LD) (K : Bool → Option β) : Option β := bd1 (YW.t k aB aA aH aF) K
noncomputable def YW.e (k : Nat) : Zj := ent [.agg [.l,.n,.n,.l]] [1] [.b] [4] false (YW.t k)
noncomputable def YW.p (k : Nat) : Pro := ⟨Tryz.prog,[(96,Y1.e k),(142,Y2.e k),(143,YaL.e k)],Zv [(4,kp [1,33,34,35])] false [],k⟩
noncomputable def YW.d (k : Nat) (aB : LD) (aA aH : Int) (aF : LD) : Ex → St → Option (Bool) := (YW.p k).fin Tryz.f95 [.agg [.sl aB,.int .i64 aA,.int .i64 aH,.sl aF]] [1] [.b]
noncomputable def YW.s0 (aC : LD) (aD : Int) (aK : LD) (aL aZ : Int) (bE : LD) (v : Int) : St :=
 match v with
 | aJ => ZaA 76 [(1,.bp 0 0),(33,.d false (.sl aC)),(34,.d true (.int .i64 aD)),(35,.d true (.int .i64 aJ))] [.box none 38 [.d false (.sl aK),.d false (.int .i64 aL),.d false (.int .i64 aZ),.d false (.sl bE)]]
noncomputable def YW.r0 (k : Nat) (aB : LD) (aA aH : Int) (aF aC : LD) (aD : Int) (aK : LD) (aL aZ : Int) (bE : LD) (n : Nat) (v : Int) : Option (Bool) := (YW.p k).lp (ZI Tryz.f95) 4 [1,1,0,1,0] (YW.d k aB aA aH aF) n (YW.s0 aC aD aK aL aZ bE v)
theorem YW.l0_eq (k : Nat) (aB : LD) (aA aH : Int) (aF aC : LD) (aD : Int) (aK : LD) (aL aZ : Int) (bE : LD) : ∀ n v,YW.r0 k aB aA aH aF aC aD aK aL aZ bE n v = ZA (YW.l0 k aC aD aK aL aZ bE (fun z0 => some z0)) n v :=
 Zz (YW.s0 aC aD aK aL aZ bE) _ fun L0 v => by kernel_rfl
theorem YW.ok (k : Nat) : Zf Tryz.prog 95 (YW.e k) := Zk (YW.p k) mix tyok Tryz.func95 ⟨Y1.ok k,Y2.ok k,YaL.ok k⟩ (by kernel_rfl) (fun aB aA aH aF => Eq.trans (b := YW.m k aB aA aH aF (fun z0 => some z0) (fun aC aD aK aL aZ bE => YW.r0 k aB aA aH aF aC aD aK aL aZ bE k)) (by kernel_rfl) (congrArg (YW.m k aB aA aH aF (fun z0 => some z0)) (funext fun aC => funext fun aD => funext fun aK => funext fun aL => funext fun aZ => funext fun bE => funext fun v => YW.l0_eq k aB aA aH aF aC aD aK aL aZ bE k v) :))
noncomputable def YX.g {β : Type} (k : Nat) (a0 : LD) (K : LC → Option β) : Option β :=
 let J0 := (Zd (Zcg 1 a0) (Zd (([] : LC).length + (a0.map (·.map C.d)).length ≤ Z8) (K (([] : LC) ++ (a0.map (·.map C.d)))))); nilSl a0 (both (K ([] : LC)) J0) J0
noncomputable def YX.t (k : Nat) (a0 : LD) : Option (LC) := YX.g k a0 (fun z0 => some z0)
noncomputable def YX.f {β : Type} (k : Nat) (a0 : LD) (K : LC → Option β) : Option β := bd1 (YX.t k a0) K
noncomputable def YX.e (k : Nat) : Zj := ent [.d .l] [1] [.o] [45] false (YX.t k)
noncomputable def YX.p (k : Nat) : Pro := ⟨Tryz.prog,[],Zv [] false [],k⟩
theorem YX.ok (k : Nat) : Zf Tryz.prog 130 (YX.e k) := Zk (YX.p k) mix tyok Tryz.func130 trivial (by kernel_rfl) (fun a0 => by show _ = _; kernel_rfl)
noncomputable def Yp.l0 {β : Type} (k : Nat) (r_impl_copyValue : Int → BA → Int → LD → LD → (Int → BA → Int → LC → LC → Option β) → Option β) (aC : LD) (aD aK : Int) (aL : BA) (aZ : Int) (bE : LD) (bG : Int) (bV : BA) (bU : Int) (bW : LC) (K : Int → BA → Int → LC → LC → Option β) (L0 : (Int × LC) → Option β) (v : Int × LC) : Option β :=
 match v with
 | (aJ,bX) => bif (decide ((aJ : Int) < aD)) then (atR aC aJ [.n,.s,.n,.l,.l] fun x26 x29 x32 x35 x38 => (r_impl_copyValue x26 x29 x32 x35 x38 (fun y39 y40 y41 y42 y43 => Zd (bX.length + ([[.d (.int .i64 y39),.d (.str y40),.d (.int .i64 y41),.own y42,.own y43]] : LC).length ≤ Z8) (L0 (IntKind.wrap .i64 (aJ + 1),bX ++ ([[.d (.int .i64 y39),.d (.str y40),.d (.int .i64 y41),.own y42,.own y43]] : LC)))))) else (K aK aL aZ bW bX)
noncomputable def Yp.m {β : Type} (k : Nat) (r_impl_copyValue : Int → BA → Int → LD → LD → (Int → BA → Int → LC → LC → Option β) → Option β) (aB : Int) (aA : BA) (aH : Int) (aF aI : LD) (K : Int → BA → Int → LC → LC → Option β) (F : (LD → Int → Int → BA → Int → LD → Int → BA → Int → LC → (Int × LC) → Option β)) : Option β :=
 YX.f k aF (fun y1 => F aI (aI.length : Int) aB aA aH aI 0 (⟨#[]⟩ : BA) 0 y1 (0,([] : LC)))
noncomputable def Yp.body {β : Type} (k : Nat) (r_impl_copyValue : Int → BA → Int → LD → LD → (Int → BA → Int → LC → LC → Option β) → Option β) (aB : Int) (aA : BA) (aH : Int) (aF aI : LD) (K : Int → BA → Int → LC → LC → Option β) : Option β :=
 YX.f k aF (fun y1 => ZA (Yp.l0 k r_impl_copyValue aI (aI.length : Int) aB aA aH aI 0 (⟨#[]⟩ : BA) 0 y1 K) k (0,([] : LC)))
noncomputable def Yp.w {β : Type} (r : Int → BA → Int → LD → LD → Option (Int × BA × Int × LC × LC)) (aB : Int) (aA : BA) (aH : Int) (aF aI : LD) (K : Int → BA → Int → LC → LC → Option β) : Option β := bd5 (r aB aA aH aF aI) K
noncomputable def Yp.all : Nat → (Int → BA → Int → LD → LD → Option (Int × BA × Int × LC × LC))
 | 0 => (fun _ _ _ _ _ => none)
 | k + 1 => (fun r => (fun aB aA aH aF aI => Yp.body k (Yp.w r) aB aA aH aF aI (fun z0 z1 z2 z3 z4 => some (z0,z1,z2,z3,z4)))) (Yp.all k)
noncomputable def Yp.t (k : Nat) (aB : Int) (aA : BA) (aH : Int) (aF aI : LD) : Option (Int × BA × Int × LC × LC) := (Yp.all k) aB aA aH aF aI
noncomputable def Yp.f {β : Type} (k : Nat) (aB : Int) (aA : BA) (aH : Int) (aF aI : LD) (K : Int → BA → Int → LC → LC → Option β) : Option β := Yp.w (Yp.t k) aB aA aH aF aI K
noncomputable def Yp.g {β : Type} (k : Nat) (aB : Int) (aA : BA) (aH : Int) (aF aI : LD) (K : Int → BA → Int → LC → LC → Option β) : Option β := Yp.body k (Yp.f k) aB aA aH aF aI K
theorem Yp.t_succ (k : Nat) (aB : Int) (aA : BA) (aH : Int) (aF aI : LD) : Yp.t (k + 1) aB aA aH aF aI = Yp.g k aB aA aH aF aI (fun z0 z1 z2 z3 z4 => some (z0,z1,z2,z3,z4)) := rfl
noncomputable def Yp.e (k : Nat) : Zj := ent [.agg [.n,.s,.n,.l,.l]] [5] [.n,.s,.n,.o,.o] [54] false (Yp.t k)
noncomputable def Yp.p (k : Nat) : Pro := ⟨Tryz.prog,[(130,YX.e k),(75,Yp.e k)],Zv [(4,kp [1,2,3,12,13,14])] false [],k⟩
noncomputable def Yp.d (k : Nat) (aB : Int) (aA : BA) (aH : Int) (aF aI : LD) : Ex → St → Option (Int × BA × Int × LC × LC) := (Yp.p k).fin Tryz.f75 [.agg [.int .i64 aB,.str aA,.int .i64 aH,.sl aF,.sl aI]] [5] [.n,.s,.n,.o,.o]
noncomputable def Yp.s0 (aC : LD) (aD aK : Int) (aL : BA) (aZ : Int) (bE : LD) (bG : Int) (bV : BA) (bU : Int) (bW : LC) (v : Int × LC) : St :=
 match v with
 | (aJ,bX) => ZaA 27 [(1,.bp 0 0),(2,.bp 1 0),(3,.row 2),(12,.d false (.sl aC)),(13,.d true (.int .i64 aD)),(14,.d true (.int .i64 aJ))] [.box none 54 [.d false (.int .i64 aK),.d false (.str aL),.d false (.int .i64 aZ),.row 3,.d false (.sl bE)],.box none 54 [.d true (.int .i64 bG),.d true (.str bV),.d true (.int .i64 bU),.nil,.nil],.row none true 52 bX,.row none true 45 bW]
noncomputable def Yp.r0 (k : Nat) (aB : Int) (aA : BA) (aH : Int) (aF aI aC : LD) (aD aK : Int) (aL : BA) (aZ : Int) (bE : LD) (bG : Int) (bV : BA) (bU : Int) (bW : LC) (n : Nat) (v : Int × LC) : Option (Int × BA × Int × LC × LC) := (Yp.p k).lp (ZI Tryz.f75) 4 [1,1,1,0,1,0] (Yp.d k aB aA aH aF aI) n (Yp.s0 aC aD aK aL aZ bE bG bV bU bW v)
theorem Yp.l0_eq (k : Nat) (aB : Int) (aA : BA) (aH : Int) (aF aI aC : LD) (aD aK : Int) (aL : BA) (aZ : Int) (bE : LD) (bG : Int) (bV : BA) (bU : Int) (bW : LC) : ∀ n v,Yp.r0 k aB aA aH aF aI aC aD aK aL aZ bE bG bV bU bW n v = ZA (Yp.l0 k (Yp.f k) aC aD aK aL aZ bE bG bV bU bW (fun z0 z1 z2 z3 z4 => some (z0,z1,z2,z3,z4))) n v :=
 Zz (Yp.s0 aC aD aK aL aZ bE bG bV bU bW) _ fun L0 v => by obtain ⟨aJ,bX⟩ := v; kernel_rfl
theorem Yp.oks (k : Nat) : Zf Tryz.prog 75 (Yp.e k) := by
 induction k with
 | zero => exact Zba Tryz.func75 (by kernel_rfl) (fun _ _ _ _ _ => rfl)
 | succ k ih => exact Zk (Yp.p k) mix tyok Tryz.func75 ⟨YX.ok k,ih⟩ (by kernel_rfl) (fun aB aA aH aF aI => Eq.trans (b := Yp.m k (Yp.f k) aB aA aH aF aI (fun z0 z1 z2 z3 z4 => some (z0,z1,z2,z3,z4)) (fun aC aD aK aL aZ bE bG bV bU bW => Yp.r0 k aB aA aH aF aI aC aD aK aL aZ bE bG bV bU bW k)) (by kernel_rfl) ((congrArg (Yp.m k (Yp.f k) aB aA aH aF aI (fun z0 z1 z2 z3 z4 => some (z0,z1,z2,z3,z4))) (funext fun aC => funext fun aD => funext fun aK => funext fun aL => funext fun aZ => funext fun bE => funext fun bG => funext fun bV => funext fun bU => funext fun bW => funext fun v => Yp.l0_eq k aB aA aH aF aI aC aD aK aL aZ bE bG bV bU bW k v)).trans (Yp.t_succ k aB aA aH aF aI).symm))
theorem Yp.ok (k : Nat) : Zf Tryz.prog 75 (Yp.e k) := (Yp.oks k)
noncomputable def Yar.g {β : Type} (k : Nat) (aB : Int) (aA : BA) (aH aF aI : Int) (bD : Bool) (aV : LD) (bA : Int) (aP : BA) (bB : Int) (aQ aW : LD) (aY : Int) (aR : BA) (bC : Int) (aT aX : LD) (K : Int → BA → Int → Int → Int → Bool → LC → Int → BA → Int → LC → LC → Int → BA → Int → LC → LC → Option β) : Option β :=
 YX.f k aV (fun y1 => Yp.f k bA aP bB aQ aW (fun y44 y45 y46 y47 y48 => Yp.f k aY aR bC aT aX (fun y49 y50 y51 y52 y53 => K aB aA aH aF aI bD y1 y44 y45 y46 y47 y48 y49 y50 y51 y52 y53)))
noncomputable def Yar.t (k : Nat) (aB : Int) (aA : BA) (aH aF aI : Int) (bD : Bool) (aV : LD) (bA : Int) (aP : BA) (bB : Int) (aQ aW : LD) (aY : Int) (aR : BA) (bC : Int) (aT aX : LD) : Option (Int × BA × Int × Int × Int × Bool × LC × Int × BA × Int × LC × LC × Int × BA × Int × LC × LC) := Yar.g k aB aA aH aF aI bD aV bA aP bB aQ aW aY aR bC aT aX (fun z0 z1 z2 z3 z4 z5 z6 z7 z8 z9 z10 z11 z12 z13 z14 z15 z16 => some (z0,z1,z2,z3,z4,z5,z6,z7,z8,z9,z10,z11,z12,z13,z14,z15,z16))
noncomputable def Yar.f {β : Type} (k : Nat) (aB : Int) (aA : BA) (aH aF aI : Int) (bD : Bool) (aV : LD) (bA : Int) (aP : BA) (bB : Int) (aQ aW : LD) (aY : Int) (aR : BA) (bC : Int) (aT aX : LD) (K : Int → BA → Int → Int → Int → Bool → LC → Int → BA → Int → LC → LC → Int → BA → Int → LC → LC → Option β) : Option β := match Yar.t k aB aA aH aF aI bD aV bA aP bB aQ aW aY aR bC aT aX with | some (z0,z1,z2,z3,z4,z5,z6,z7,z8,z9,z10,z11,z12,z13,z14,z15,z16) => K z0 z1 z2 z3 z4 z5 z6 z7 z8 z9 z10 z11 z12 z13 z14 z15 z16 | none => none
noncomputable def Yar.e (k : Nat) : Zj := ent [.agg [.n,.s,.n,.n,.n,.b,.l,.n,.s,.n,.l,.l,.n,.s,.n,.l,.l]] [17] [.n,.s,.n,.n,.n,.b,.o,.n,.s,.n,.o,.o,.n,.s,.n,.o,.o] [98] false (Yar.t k)
noncomputable def Yar.p (k : Nat) : Pro := ⟨Tryz.prog,[(130,YX.e k),(75,Yp.e k)],Zv [] false [],k⟩
theorem Yar.ok (k : Nat) : Zf Tryz.prog 115 (Yar.e k) := Zk (Yar.p k) mix tyok Tryz.func115 ⟨YX.ok k,Yp.ok k⟩ (by kernel_rfl) (fun aB aA aH aF aI bD aV bA aP bB aQ aW aY aR bC aT aX => by show _ = _; kernel_rfl)
noncomputable def Y0.l0 {β : Type} (k : Nat) (aC : LD) (aD : Int) (K : LC → Option β) (L0 : (Int × LC) → Option β) (v : Int × LC) : Option β :=
 match v with
 | (aJ,aK) => bif (decide ((aJ : Int) < aD)) then (atR aC aJ [.n,.b,.n,.s,.n,.n,.n,.b,.l,.n,.s,.n,.l,.l,.n,.s,.n,.l,.l] fun x79 x82 x85 x88 x91 x94 x97 x100 x103 x106 x109 x112 x115 x118 x121 x124 x127 x130 x133 => (Yar.f k x85 x88 x91 x94 x97 x100 x103 x106 x109 x112 x115 x118 x121 x124 x127 x130 x133 (fun y134 y135 y136 y137 y138 y139 y140 y141 y142 y143 y144 y145 y146 y147 y148 y149 y150 => Zd (aK.length + ([[.d (.int .i64 x79),.d (.bool x82),.d (.int .i64 y134),.d (.str y135),.d (.int .i64 y136),.d (.int .i64 y137),.d (.int .i64 y138),.d (.bool y139),.own y140,.d (.int .i64 y141),.d (.str y142),.d (.int .i64 y143),.own y144,.own y145,.d (.int .i64 y146),.d (.str y147),.d (.int .i64 y148),.own y149,.own y150]] : LC).length ≤ Z8) (L0 (IntKind.wrap .i64 (aJ + 1),aK ++ ([[.d (.int .i64 x79),.d (.bool x82),.d (.int .i64 y134),.d (.str y135),.d (.int .i64 y136),.d (.int .i64 y137),.d (.int .i64 y138),.d (.bool y139),.own y140,.d (.int .i64 y141),.d (.str y142),.d (.int .i64 y143),.own y144,.own y145,.d (.int .i64 y146),.d (.str y147),.d (.int .i64 y148),.own y149,.own y150]] : LC)))))) else (K aK)
noncomputable def Y0.m {β : Type} (k : Nat) (a0 : LD) (K : LC → Option β) (F : (LD → Int → (Int × LC) → Option β)) : Option β :=
 F a0 (a0.length : Int) (0,([] : LC))
noncomputable def Y0.g {β : Type} (k : Nat) (a0 : LD) (K : LC → Option β) : Option β :=
 ZA (Y0.l0 k a0 (a0.length : Int) K) k (0,([] : LC))
noncomputable def Y0.t (k : Nat) (a0 : LD) : Option (LC) := Y0.g k a0 (fun z0 => some z0)
noncomputable def Y0.f {β : Type} (k : Nat) (a0 : LD) (K : LC → Option β) : Option β := bd1 (Y0.t k a0) K
noncomputable def Y0.e (k : Nat) : Zj := ent [.d .l] [1] [.o] [36] false (Y0.t k)
noncomputable def Y0.p (k : Nat) : Pro := ⟨Tryz.prog,[(115,Yar.e k)],Zv [(3,kp [3,7,8,9])] false [],k⟩
noncomputable def Y0.d (k : Nat) (a0 : LD) : Ex → St → Option (LC) := (Y0.p k).fin Tryz.f98 [.d (.sl a0)] [1] [.o]
noncomputable def Y0.s0 (aC : LD) (aD : Int) (v : Int × LC) : St :=
 match v with
 | (aJ,aK) => ZaA 26 [(3,.row 0),(7,.d false (.sl aC)),(8,.d true (.int .i64 aD)),(9,.d true (.int .i64 aJ))] [.row none true 36 aK]
noncomputable def Y0.r0 (k : Nat) (a0 aC : LD) (aD : Int) (n : Nat) (v : Int × LC) : Option (LC) := (Y0.p k).lp (ZI Tryz.f98) 3 [1,1,0,1,0] (Y0.d k a0) n (Y0.s0 aC aD v)
theorem Y0.l0_eq (k : Nat) (a0 aC : LD) (aD : Int) : ∀ n v,Y0.r0 k a0 aC aD n v = ZA (Y0.l0 k aC aD (fun z0 => some z0)) n v :=
 Zz (Y0.s0 aC aD) _ fun L0 v => by obtain ⟨aJ,aK⟩ := v; kernel_rfl
theorem Y0.ok (k : Nat) : Zf Tryz.prog 98 (Y0.e k) := Zk (Y0.p k) mix tyok Tryz.func98 (Yar.ok k) (by kernel_rfl) (fun a0 => Eq.trans (b := Y0.m k a0 (fun z0 => some z0) (fun aC aD => Y0.r0 k a0 aC aD k)) (by kernel_rfl) (congrArg (Y0.m k a0 (fun z0 => some z0)) (funext fun aC => funext fun aD => funext fun v => Y0.l0_eq k a0 aC aD k v) :))
noncomputable def YaD.g {β : Type} (k : Nat) (aB : Int) (aA : Bool) (aH : Int) (aF : BA) (aI bD aV : Int) (bA : Bool) (aP : LD) (bB : Int) (aQ : BA) (aW : Int) (aY aR : LD) (bC : Int) (aT : BA) (aX : Int) (bZ cA : LD) (f0_0 : Int) (K : Bool → Option β) : Option β :=
 K (decide ((aB : Int) ≤ f0_0))
noncomputable def YaD.t (k : Nat) (aB : Int) (aA : Bool) (aH : Int) (aF : BA) (aI bD aV : Int) (bA : Bool) (aP : LD) (bB : Int) (aQ : BA) (aW : Int) (aY aR : LD) (bC : Int) (aT : BA) (aX : Int) (bZ cA : LD) (f0_0 : Int) : Option (Bool) := YaD.g k aB aA aH aF aI bD aV bA aP bB aQ aW aY aR bC aT aX bZ cA f0_0 (fun z0 => some z0)
noncomputable def YaD.f {β : Type} (k : Nat) (aB : Int) (aA : Bool) (aH : Int) (aF : BA) (aI bD aV : Int) (bA : Bool) (aP : LD) (bB : Int) (aQ : BA) (aW : Int) (aY aR : LD) (bC : Int) (aT : BA) (aX : Int) (bZ cA : LD) (f0_0 : Int) (K : Bool → Option β) : Option β := bd1 (YaD.t k aB aA aH aF aI bD aV bA aP bB aQ aW aY aR bC aT aX bZ cA f0_0) K
noncomputable def YaD.e (k : Nat) : Zj := ent [.agg [.n,.b,.n,.s,.n,.n,.n,.b,.l,.n,.s,.n,.l,.l,.n,.s,.n,.l,.l],.ip [.n]] [1] [.b] [4] false (YaD.t k)
noncomputable def YaD.p (k : Nat) : Pro := ⟨Tryz.prog,[],Zv [] false [],k⟩
theorem YaD.ok (k : Nat) : Zf Tryz.prog 99 (YaD.e k) := Zk (YaD.p k) mix tyok Tryz.func99 trivial (by kernel_rfl) (fun aB aA aH aF aI bD aV bA aP bB aQ aW aY aR bC aT aX bZ cA f0_0 => by show _ = _; kernel_rfl)
noncomputable def Yf.l0 {β : Type} (k : Nat) (aC : LD) (aD aJ : Int) (K L0 : Int → Option β) (v : Int) : Option β :=
 match v with
 | aK => bif (decide ((aK : Int) < aJ)) then (atR aC aK [.n,.b,.n,.s,.n,.n,.n,.b,.l,.n,.s,.n,.l,.l,.n,.s,.n,.l,.l] fun x63 x66 x69 x72 x75 x78 x81 x84 x87 x90 x93 x96 x99 x102 x105 x108 x111 x114 x117 => (YaD.f k x63 x66 x69 x72 x75 x78 x81 x84 x87 x90 x93 x96 x99 x102 x105 x108 x111 x114 x117 aD (fun y118 => bif y118 then (K aK) else (L0 (IntKind.wrap .i64 (aK + 1)))))) else (K (-1))
noncomputable def Yf.m {β : Type} (k : Nat) (a0 : LD) (a1_0_0 : Int) (K : Int → Option β) (F : (LD → Int → Int → Int → Option β)) : Option β :=
 F a0 a1_0_0 (a0.length : Int) (0)
noncomputable def Yf.g {β : Type} (k : Nat) (a0 : LD) (a1_0_0 : Int) (K : Int → Option β) : Option β :=
 ZA (Yf.l0 k a0 a1_0_0 (a0.length : Int) K) k (0)
noncomputable def Yf.t (k : Nat) (a0 : LD) (a1_0_0 : Int) : Option (Int) := Yf.g k a0 a1_0_0 (fun z0 => some z0)
noncomputable def Yf.e (k : Nat) : Zj := ent [.d .l,.fn 99 [[.n]]] [1] [.n] [3] false (Yf.t k)
noncomputable def Yf.p (k : Nat) : Pro := ⟨Tryz.prog,[(99,YaD.e k)],Zv [(2,kp [0,1,7,8])] false [],k⟩
noncomputable def Yf.d (k : Nat) (a0 : LD) (a1_0_0 : Int) : Ex → St → Option (Int) := (Yf.p k).fin Tryz.f144 [.d (.sl a0),.d (.fn 99 [[.int .i64 a1_0_0]])] [1] [.n]
noncomputable def Yf.s0 (aC : LD) (aD aJ v : Int) : St :=
 match v with
 | aK => ZaA 19 [(0,.d false (.sl aC)),(1,.d false (.fn 99 [[.int .i64 aD]])),(7,.d true (.int .i64 aJ)),(8,.d true (.int .i64 aK))] []
noncomputable def Yf.r0 (k : Nat) (a0 : LD) (a1_0_0 : Int) (aC : LD) (aD aJ : Int) (n : Nat) (v : Int) : Option (Int) := (Yf.p k).lp (ZI Tryz.f144) 2 [1,0,1,0] (Yf.d k a0 a1_0_0) n (Yf.s0 aC aD aJ v)
theorem Yf.l0_eq (k : Nat) (a0 : LD) (a1_0_0 : Int) (aC : LD) (aD aJ : Int) : ∀ n v,Yf.r0 k a0 a1_0_0 aC aD aJ n v = ZA (Yf.l0 k aC aD aJ (fun z0 => some z0)) n v :=
 Zz (Yf.s0 aC aD aJ) _ fun L0 v => by kernel_rfl
theorem Yf.ok (k : Nat) : Zf Tryz.prog 144 (Yf.e k) := Zk (Yf.p k) mix tyok Tryz.func144 (YaD.ok k) (by kernel_rfl) (fun a0 a1_0_0 => Eq.trans (b := Yf.m k a0 a1_0_0 (fun z0 => some z0) (fun aC aD aJ => Yf.r0 k a0 a1_0_0 aC aD aJ k)) (by kernel_rfl) (congrArg (Yf.m k a0 a1_0_0 (fun z0 => some z0)) (funext fun aC => funext fun aD => funext fun aJ => funext fun v => Yf.l0_eq k a0 a1_0_0 aC aD aJ k v) :))
noncomputable def Yh.t (k : Nat) (xs : LC) (c0_0 : Int) : Option LC := delK (fun ds => Yf.t k ds c0_0) (fun s => match s with | [.int .i64 x0,.bool x1,.int .i64 x2,.str x3,.int .i64 x4,.int .i64 x5,.int .i64 x6,.bool x7,.sl x8,.int .i64 x9,.str x10,.int .i64 x11,.sl x12,.sl x13,.int .i64 x14,.str x15,.int .i64 x16,.sl x17,.sl x18] => YaD.t k x0 x1 x2 x3 x4 x5 x6 x7 x8 x9 x10 x11 x12 x13 x14 x15 x16 x17 x18 c0_0 | _ => none) xs
noncomputable def Yh.f {β : Type} (k : Nat) (xs : LC) (c0_0 : Int) (K : LC → Option β) : Option β :=
 match Yh.t k xs c0_0 with
 | some z0 => K z0
 | none => none
noncomputable def Yh.run (k : Nat) : {β : Type} → List A → (LC → Option β) → Option β := fun {β} l K =>
 match l with
 | [.own false [.own xs],.d (.fn g [[.int .i64 c0_0]])] => bif g == 99 then Yh.f k xs c0_0 K else none
 | _ => none
noncomputable def Yh.e (k : Nat) : Zj := { modes := [(.own,0)],rts := [36],al := false,run := fun _ _ => none,lib := some ⟨[true,false],36,Yh.run k⟩ }
set_option maxHeartbeats 4000000 in
set_option maxRecDepth 1000000 in
theorem Yh.raw2 {P : Program} (mixed : P.follows .mixedOrders = true) (hf : P.funcs[97]? = some Tryz.f97) (eI : ∀ args w,(callFunc 144 args).run P w = .ok (.enter 144 args) w) (t0 : P.underlying 0 = some (.tuple #[])) (a0 : ∀ w,(isAgg 0).run P w = .ok false w) (z0 : ∀ w,(Go.sizeOf 0).run P w = .ok 1 w) (v0 : ∀ w,(zeroValue 0).run P w = .ok (.tuple #[]) w)
  (t3 : P.underlying 3 = some (.int .i64)) (a3 : ∀ w,(isAgg 3).run P w = .ok false w) (z3 : ∀ w,(Go.sizeOf 3).run P w = .ok 1 w) (v3 : ∀ w,(zeroValue 3).run P w = .ok (.int .i64 0) w) (t4 : P.underlying 4 = some .bool) (a4 : ∀ w,(isAgg 4).run P w = .ok false w) (z4 : ∀ w,(Go.sizeOf 4).run P w = .ok 1 w) (v4 : ∀ w,(zeroValue 4).run P w = .ok (.bool false) w)
  (tS : P.underlying 36 = some (.slice 134)) (aS : ∀ w,(isAgg 36).run P w = .ok false w) (zS : ∀ w,(Go.sizeOf 36).run P w = .ok 1 w) (vS : ∀ w,(zeroValue 36).run P w = .ok (.slice none 0 0) w) (tG : P.underlying 144 = some (.func #[134] #[4] false)) (aG : ∀ w,(isAgg 144).run P w = .ok false w) (zG : ∀ w,(Go.sizeOf 144).run P w = .ok 1 w) (vG : ∀ w,(zeroValue 144).run P w = .ok .nilFunc w)
  (K : Nat) (hK : 0 < K) (zc : Array Value) (aE : ∀ w,(isAgg 134).run P w = .ok true w) (zE : ∀ w,(Go.sizeOf 134).run P w = .ok K w) (vE : ∀ w,(zeroValue 134).run P w = .ok (.agg zc) w)
  (b cap n : Nat) (c : Array Value) (e : TypeId) (w : World) (g : Nat) (lb : Array Value) (p : Nat → Bool) (k0 : Nat) (hb : w.heap[b]? = some (.cells c e (0,0))) (hc : c.size = cap * K) (hn : n ≤ cap) (hk0 : k0 < n) (hm : n ≤ 1099511627776)
  (h1 : ∀ t,t < n * K → ∃ v,c[t]? = some v ∧ v.oneCell' = true) (i0 : TypeInfo) (hi : P.info? 134 = some i0) (hz : i0.zero = some (.agg zc)) (hs : i0.size = K) (hzs : zc.size = K) (hz1 : ∀ v ∈ zc.toList,v.oneCell' = true)
  (eg : ∀ args w,(callFunc g args).run P w = .ok (.enter g args) w)
  (hIF : Calls P 144 #[.slice (some ⟨b,0,none⟩) n cap,.func (.func g) #[] lb] w fun e w' => e = .returned (.int .i64 k0) ∧ Gs w w')
  (hpred : ∀ j,k0 < j → j < n → ∀ W,Gr b w W → ∀ vs : List Value,vs.length = K → (∀ t u,vs[t]? = some u → c[j * K + t]? = some u) → Calls P g (#[.agg vs.toArray] ++ lb) W fun e w' => e = .returned (.bool (p j)) ∧ Gs W w') :
  Calls P 97 #[.slice (some ⟨b,0,none⟩) n cap,.func (.func g) #[] lb] w fun ex w' => ex = .returned (.slice (some ⟨b,0,none⟩) (kpt p k0 n).length cap) ∧ Gr b w w' ∧ ∃ c' : Array Value,w'.heap[b]? = some (.cells c' e (0,0)) ∧ c'.size = c.size ∧ ∀ m k : Nat,(kpt p k0 n)[m]? = some k → ∀ t,t < K → c'[m * K + t]? = c[k * K + t]? := by
 have hHC : Hold (∀ j,k0 < j → j < n → ∀ W,Gr b w W → ∀ vs : List Value,vs.length = K → (∀ t u,vs[t]? = some u → c[j * K + t]? = some u) → Calls P g (#[.agg vs.toArray] ++ lb) W fun e w' => e = .returned (.bool (p j)) ∧ Gs W w') := ⟨hpred⟩
 have hH1 : Hold (∀ t,t < n * K → ∃ v,c[t]? = some v ∧ v.oneCell' = true) := ⟨h1⟩
 have hHZ : Hold (i0.zero = some (.agg zc) ∧ i0.size = K ∧ zc.size = K ∧ (∀ v ∈ zc.toList,v.oneCell' = true) ∧ P.info? 134 = some i0) := ⟨hz,hs,hzs,hz1,hi⟩
 have hHB : Hold (w.heap[b]? = some (.cells c e (0,0)) ∧ c.size = cap * K) := ⟨hb,hc⟩
 have hHK : Hold (0 < K) := ⟨hK⟩
 clear hpred h1 hz hs hzs hz1 hi hb hc hK
 have hne1 : ((k0 : Int) == -1) = false := beq_eq_false_iff_ne.2 (by omega)
 go_enter hf,Tryz.ntmps97
 go_wp2_with (go_at_fn 144; refine hIF.mono ?_; rintro e w' ⟨rfl,hg⟩)
 go_loopg [5,6,7] n (fun gg s5 s6 _ wr => ∃ (i j : Nat),s5 = .int .i64 i ∧ s6 = .int .i64 j ∧ j ≤ n ∧ n - j ≤ gg ∧ Hold (∃ ck : Array Value,DfK K b k0 c e p w wr i j ck))
 case atStart =>
  refine ⟨k0,k0 + 1,rfl,by go_num,by omega,by omega,⟨c,by omega,hg.gr b,?_,rfl,?_,fun _ _ => rfl,fun m k hk => ?_⟩⟩
  ·rw [hg.same b (by have := (Array.getElem?_eq_some_iff.mp hHB.out.1).1; exact this)]; exact hHB.out.1
  ·unfold kpt; simp
  ·unfold kpt at hk
   simp only [Nat.sub_self,List.range'_zero,List.filter_nil,List.append_nil] at hk
   have := List.getElem?_eq_some_iff.mp hk
   obtain ⟨q,hq⟩ := this
   rw [List.getElem_range] at hq
   rw [hq]
   exact fun _ _ => rfl
 case round =>
  obtain ⟨i,j,rfl,rfl,hjd,hgg,⟨ck,hI⟩⟩ := hrel
  have hij : i < j ∧ k0 ≤ i := by have := kpt_le (p := p) hI.lt; rw [hI.len] at this; omega
  obtain ⟨hij,hki⟩ := hij
  by_cases hlt : j < n
  ·have hltz : (j : Int) < (n : Int) := by omega
   obtain ⟨ul,ug,u1⟩ := cut_cells hH1.out (i := j) (m := 1) (by omega)
   generalize (c.toList.drop (j * K)).take (1 * K) = us at ul ug u1
   rw [Nat.one_mul] at ul ug
   have ug' : ∀ t u,us[t]? = some u → c[j * K + t]? = some u := fun t u h => ((ug t u).mp h).2
   have hblt : b < wr.heap.size := (Array.getElem?_eq_some_iff.mp hI.at_).1
   have l1 : Sem.run P (loadCellsFrom ⟨b,j * K,none⟩ 0 K #[]) wr = .ok us.toArray wr := load_list P wr _ us K ul (fun t u ht => by
    rw [Addr.add_lit,Zat hI.at_,hI.high _ (by omega)]
    exact ug' t u ht)
   have hzc := hHZ.out.2.2.1
   obtain ⟨hN,hO⟩ := Zaa us 0 (alloc_at wr (.cells zc 134))
   have s1 : Sem.run P (storeCells ⟨wr.heap.size,0,none⟩ us 0) (wr.alloc (.cells zc 134)) = .ok () ((wr.alloc (.cells zc 134)).setCells wr.heap.size 0 us) := by
    have := run_storeCells_cells (P := P) wr.heap.size 0 us 0 (wr.alloc (.cells zc 134)) (fun t ht => by rw [Zat (alloc_at wr _),Array.getElem?_eq_getElem (by omega)]; rfl) (fun t ht => Zax (alloc_at wr _) _) u1
    exact this
   have hG1 : Gs wr ((wr.alloc (.cells zc 134)).setCells wr.heap.size 0 us) := (gs_alloc wr _).trans_only hO (Nat.le_refl _)
   obtain ⟨W1,hW1⟩ : ∃ W1,Hold (W1 = (wr.alloc (.cells zc 134)).setCells wr.heap.size 0 us) := ⟨_,⟨rfl⟩⟩
   rw [← hW1.out] at s1 hN hG1
   have l2 : ∀ w',Gs W1 w' → Sem.run P (loadCellsFrom ⟨wr.heap.size,0,none⟩ 0 K #[]) w' = .ok us.toArray w' := fun w' hg2 => load_list P w' _ us K ul (fun t u ht => by
    have hlt1 := (Array.getElem?_eq_some_iff.mp hN).1
    have ht' : t < us.length := (List.getElem?_eq_some_iff.mp ht).1
    rw [Addr.add_lit,Zat ((hg2.same _ hlt1).trans hN),Z6 _ _ _ _ (by omega),if_pos (by omega)]
    simpa using ht)
   have l2' := l2 W1 (Gs.refl W1)
   have hcall := hHC.out j hI.lt hlt W1 (hI.gr.trans (hG1.gr b)) us ul ug'
   have hst : Hold (∀ (w' : World),Gs W1 w' → w'.heap[b]? = some (.cells ck e (0,0)) ∧ Sem.run P (storeCells ⟨b,i * K,none⟩ us 0) w' = .ok () (w'.setCells b (i * K) us)) := ⟨fun w' hg2 => by
    have hb5 := (hg2.same b (Nat.lt_of_lt_of_le hblt hG1.size)).trans ((hG1.same b hblt).trans hI.at_)
    refine ⟨hb5,?_⟩
    have hle : i * K + us.length ≤ ck.size := by
     rw [hI.size,hHB.out.2,ul,← Nat.succ_mul]
     exact Nat.mul_le_mul_right K (by omega)
    have := run_storeCells_cells (P := P) b (i * K) us 0 w' (fun t ht => by rw [Nat.add_zero,Zat hb5,Array.getElem?_eq_getElem (by omega)]; rfl) (fun t ht => Zax hb5 _) u1
    rwa [Nat.add_zero] at this⟩
   have l2H : Hold (∀ w',Gs W1 w' → Sem.run P (loadCellsFrom ⟨wr.heap.size,0,none⟩ 0 K #[]) w' = .ok us.toArray w') := ⟨l2⟩
   have W2 : Hold (DfK K b k0 c e p w wr i j ck ∧ Gs wr W1 ∧ ∀ t,t < K → us[t]? = c[j * K + t]?) := ⟨hI,hG1,fun t ht => by
    obtain ⟨u,hu,_⟩ := hH1.out (j * K + t) (by
     have := Nat.mul_le_mul_right K (show j + 1 ≤ n from hlt)
     rw [Nat.succ_mul] at this
     omega)
    rw [hu]
    exact (ug t u).mpr ⟨by omega,hu⟩⟩
   clear hI hN hO hG1 ug ug' u1 l2 hzc
   cases hq : p j with
   | false =>
    rw [hq] at hcall
    clear hHC hH1 hHZ hIF
    go_wp2_with (go_at_fn g; refine hcall.mono ?_; rintro e w' ⟨rfl,hg2⟩; have l3 := l2H.out w' hg2; have s3 := (hst.out w' hg2).2)
    go_roundg (n - (j + 1))
    case measure => omega
    case rel =>
     obtain ⟨hI,hG1,hus⟩ := W2.out
     have hb5 := (hst.out w' hg2).1
     obtain ⟨hb3,ho3⟩ := Zaa us (i * K) hb5
     have hle : i * K + us.length ≤ ck.size := by
      rw [hI.size,hHB.out.2,ul,← Nat.succ_mul]
      exact Nat.mul_le_mul_right K (by omega)
     have hiK : i * K + K ≤ j * K := by
      rw [← Nat.succ_mul]
      exact Nat.mul_le_mul_right K hij
     have hjK : (j + 1) * K = j * K + K := Nat.succ_mul ..
     refine ⟨i + 1,j + 1,by go_num,by go_num,by omega,Nat.le_refl _,⟨putA ck (i * K) us,?_⟩⟩
     refine ⟨by have := hI.lt; omega,((hI.gr.trans (hG1.gr b)).trans (hg2.gr b)).trans ho3.gr,hb3,by rw [Zab]; exact hI.size,by rw [kpt_keep hI.lt hq,List.length_append,hI.len]; rfl,fun t ht => ?_,fun m k hk t ht => ?_⟩
     ·rw [Z6 _ _ _ _ hle,if_neg (by omega)]
      exact hI.high t (by omega)
     ·rw [kpt_keep hI.lt hq] at hk
      by_cases hm : m < i
      ·have : m * K + K ≤ i * K := by
        rw [← Nat.succ_mul]
        exact Nat.mul_le_mul_right K hm
       rw [Z6 _ _ _ _ hle,if_neg (by omega)]
       exact hI.low m k (by rwa [List.getElem?_append_left (by rw [hI.len]; exact hm)] at hk) t ht
      ·rw [List.getElem?_append_right (by rw [hI.len]; omega),hI.len] at hk
       have hm0 : m = i := by
        by_cases h : m - i = 0
        ·omega
        ·rw [List.getElem?_eq_none (by simp; omega)] at hk; cases hk
       subst hm0
       simp at hk
       subst hk
       rw [Z6 _ _ _ _ hle,if_pos (by omega),Nat.add_sub_cancel_left]
       exact hus t ht
   | true =>
    rw [hq] at hcall
    clear hHC hH1 hHZ hIF
    go_wp2_with (go_at_fn g; refine hcall.mono ?_; rintro e w' ⟨rfl,hg2⟩)
    go_roundg (n - (j + 1))
    case measure => omega
    case rel =>
     obtain ⟨hI,hG1,hus⟩ := W2.out
     have hb5 := (hst.out w' hg2).1
     have hjK : (j + 1) * K = j * K + K := Nat.succ_mul ..
     refine ⟨i,j + 1,rfl,by go_num,by omega,Nat.le_refl _,⟨ck,?_⟩⟩
     exact ⟨by have := hI.lt; omega,(hI.gr.trans (hG1.gr b)).trans (hg2.gr b),hb5,hI.size,by rw [kpt_skip hI.lt hq]; exact hI.len,fun t ht => hI.high t (by omega),by rw [kpt_skip hI.lt hq]; exact hI.low⟩
  ·obtain rfl : j = n := by omega
   have hltz : ¬ (j : Int) < (j : Int) := by omega
   have hcs := hHB.out.2
   obtain ⟨hz,hs,hzs,hz1,hi⟩ := hHZ.out
   have hjc : i * K + (j - i) * K ≤ cap * K := by
    rw [← Nat.add_mul]
    exact Nat.mul_le_mul_right K (by omega)
   have hcl : ∀ ty,(Builtin.clear_ #[36] ty #[.slice (some ⟨b,i * K,none⟩) (j - i) (cap - i)]).run P wr = .ok (.tuple #[]) (wr.setCells b (i * K) (Builtin.zeroCells zc (j - i)).toList) :=
    fun ty => run_clear_cells tS hi hz hz1 (by omega) (fun t ht => by rw [Zat hI.at_]; change t < (j - i) * zc.size at ht; rw [hzs] at ht; rw [Array.getElem?_eq_getElem (by rw [hI.size,hcs]; omega)]; rfl) (fun t ht => Zax hI.at_ _)
   obtain ⟨hb4,ho4⟩ := Zaa (Builtin.zeroCells zc (j - i)).toList (i * K) hI.at_
   have hfin : Hold (Gr b w (wr.setCells b (i * K) (Builtin.zeroCells zc (j - i)).toList) ∧ ∃ c' : Array Value,(wr.setCells b (i * K) (Builtin.zeroCells zc (j - i)).toList).heap[b]? = some (.cells c' e (0,0)) ∧ c'.size = c.size ∧ ∀ m k : Nat,(kpt p k0 j)[m]? = some k → ∀ t,t < K → c'[m * K + t]? = c[k * K + t]?) := by
    have hzl : (Builtin.zeroCells zc (j - i)).toList.length = (j - i) * K := by simp [Zaj,hzs]
    refine ⟨hI.gr.trans ho4.gr,_,hb4,by rw [Zab]; exact hI.size,fun m k hk t ht => ?_⟩
    have hmi : m < i := by rw [← hI.len]; exact (List.getElem?_eq_some_iff.mp hk).1
    have : m * K + K ≤ i * K := by
     rw [← Nat.succ_mul]
     exact Nat.mul_le_mul_right K hmi
    rw [Z6 _ _ _ _ (by rw [hzl,hI.size,hcs]; omega),if_neg (by omega)]
    exact hI.low m k hk t ht
   have hlen := hI.len
   generalize (Builtin.zeroCells zc (j - i)).toList = zl at hcl hfin
   clear hI hz hs hzs hz1 hi hb4 ho4 hcs hjc
   have hic : i ≤ cap := by omega
   go_wp2
   go_ret
   refine ⟨?_,hfin.out⟩
   first | rfl | (rw [hlen]; rfl)
set_option maxHeartbeats 4000000 in
set_option maxRecDepth 1000000 in
theorem Yh.raw0 (a : Option Addr) (n cap : Nat) (w : World) (g : Nat) (lb : Array Value) (hn : n ≤ cap) (hIF : Calls Tryz.prog 144 #[.slice a n cap,.func (.func g) #[] lb] w fun e w' => e = .returned (.int .i64 (-1)) ∧ Gs w w') : Calls Tryz.prog 97 #[.slice a n cap,.func (.func g) #[] lb] w fun ex w' => ex = .returned (.slice a n cap) ∧ Gs w w' := by
 go_enter Tryz.func97,Tryz.ntmps97
 go_wp2_with (go_at_call 144; refine hIF.mono ?_; rintro e w' ⟨rfl,hg⟩)
 go_ret
 exact ⟨rfl,hg⟩
theorem Yh.raw : DfRawK Tryz.prog 97 144 19 := ⟨fun a n cap w g lb hn h => Yh.raw0 a n cap w g lb hn h,fun b cap n c e w g lb p k0 h1 h2 h3 h4 h5 h6 h7 h8 h9 => by
 obtain ⟨i0,z,hi,hz,hzs⟩ := Zbr (P := Tryz.prog) (t := 134) (by kernel_rfl)
 have hsz : i0.size = 19 := by
  have : Tryz.prog.cellsOf 134 = 19 := by kernel_rfl
  simpa [Program.cellsOf,hi] using this
 have hzc : z.cells.size = 19 := by
  have h1 : (ZaM Tryz.prog 134).length = 19 := by kernel_rfl
  rw [← h1]
  simpa using (Zaq hzs).2.2.1.symm
 have hzv : ∀ w,(zeroValue 134).run Tryz.prog w = .ok z w := fun w => by simp [zeroValue,typeInfo,hi,hz]
 obtain ⟨zc,rfl⟩ : ∃ zc,z = .agg zc := by
  have h := (hzv w).symm.trans (Tryz.zeroValue134 w)
  injection h with h
  exact ⟨_,h⟩
 exact Yh.raw2 (by kernel_rfl) Tryz.func97 (enters_of Tryz.func144 (by kernel_rfl) (c := ZI Tryz.f144) (by kernel_rfl)) Tryz.underlying0 Tryz.isAgg0 Tryz.sizeOf0 Tryz.zeroValue0 Tryz.underlying3 Tryz.isAgg3 Tryz.sizeOf3 Tryz.zeroValue3 Tryz.underlying4 Tryz.isAgg4 Tryz.sizeOf4 Tryz.zeroValue4
  Tryz.underlying36 Tryz.isAgg36 Tryz.sizeOf36 Tryz.zeroValue36 Tryz.underlying144 Tryz.isAgg144 Tryz.sizeOf144 Tryz.zeroValue144 19 (by decide) zc Tryz.isAgg134 Tryz.sizeOf134 hzv b cap n c e w g lb p k0 h1 h2 h3 h4 h5 h6 i0 hi hz hsz hzc (Zaq hzs).2.1 h7 h8 h9⟩
theorem Yh.ok (k : Nat) : Zf Tryz.prog 97 (Yh.e k) := delfuncK_ok tyok (ct := 36) (K := 19) (g := 99) (fi := 144) (run := fun {β} => Yh.run k) (by kernel_rfl) (by decide) (enter_of Tryz.func97 (by kernel_rfl)) Yh.raw (by kernel_rfl) (by kernel_rfl) (Yf.ok k) (YaD.ok k) (fun β aa K r h => by
 unfold Yh.run at h
 split at h
 ·rename_i xs g c0_0
  cases hg : g == 99 with
  | false => rw [hg] at h; cases h
  | true =>
   rw [hg] at h
   obtain rfl := eq_of_beq hg
   simp only [cond_true] at h
   unfold Yh.f Yh.t at h
   split at h
   ·rename_i z0 hz
    refine ⟨_,_,_,_,_,rfl,hz,h,rfl,rfl,rfl,rfl,fun ds z h => ?_,fun s q h => ?_⟩
    ·exact (ent_run (Yf.e k) rfl (congrArg some h) rfl)
    ·split at h
     ·rename_i x0 x1 x2 x3 x4 x5 x6 x7 x8 x9 x10 x11 x12 x13 x14 x15 x16 x17 x18
      exact (ent_run (YaD.e k) rfl (congrArg some h) rfl)
     ·cases h
   ·cases h
 ·cases h)
noncomputable def YaP.g {β : Type} (k : Nat) (aB : LD) (aA aH : Int) (aF : LD) (a1 : Int) (K : LC → Bool → Option β) : Option β :=
 YW.f k aB aA aH aF (fun y453 => bif (!y453) then (K ([] : LC) false) else (Y1.f k a1 0 aA (fun y454 => bif (!y454) then (K ([] : LC) false) else (Y0.f k aF (fun y455 => Yh.f k y455 a1 (fun y456 => bif (decide (((y456.length : Int) : Int) < (IntKind.wrap .i64 (aA - a1)))) then (K ([] : LC) false) else (K y456 true)))))))
noncomputable def YaP.t (k : Nat) (aB : LD) (aA aH : Int) (aF : LD) (a1 : Int) : Option (LC × Bool) := YaP.g k aB aA aH aF a1 (fun z0 z1 => some (z0,z1))
noncomputable def YaP.f {β : Type} (k : Nat) (aB : LD) (aA aH : Int) (aF : LD) (a1 : Int) (K : LC → Bool → Option β) : Option β := bd2 (YaP.t k aB aA aH aF a1) K
noncomputable def YaP.e (k : Nat) : Zj := ent [.agg [.l,.n,.n,.l],.d .n] [1,1] [.o,.b] [36,4] false (YaP.t k)
noncomputable def YaP.p (k : Nat) : Pro := ⟨Tryz.prog,[(95,YW.e k),(96,Y1.e k),(98,Y0.e k),(97,Yh.e k)],Zv [] false [],k⟩
theorem YaP.ok (k : Nat) : Zf Tryz.prog 38 (YaP.e k) := Zk (YaP.p k) mix tyok Tryz.func38 ⟨YW.ok k,Y1.ok k,Y0.ok k,Yh.ok k⟩ (by kernel_rfl) (fun aB aA aH aF a1 => by show _ = _; kernel_rfl)
noncomputable def YO.l0 {β : Type} (k : Nat) (aC : LD) (aD : Int) (K : LC → Option β) (L0 : (Int × LC) → Option β) (v : Int × LC) : Option β :=
 match v with
 | (aJ,aK) => bif (decide ((aJ : Int) < aD)) then (atR aC aJ [.n,.s,.n,.n,.n,.b,.l,.n,.s,.n,.l,.l,.n,.s,.n,.l,.l] fun x73 x76 x79 x82 x85 x88 x91 x94 x97 x100 x103 x106 x109 x112 x115 x118 x121 => (Yar.f k x73 x76 x79 x82 x85 x88 x91 x94 x97 x100 x103 x106 x109 x112 x115 x118 x121 (fun y122 y123 y124 y125 y126 y127 y128 y129 y130 y131 y132 y133 y134 y135 y136 y137 y138 => Zd (aK.length + ([[.d (.int .i64 y122),.d (.str y123),.d (.int .i64 y124),.d (.int .i64 y125),.d (.int .i64 y126),.d (.bool y127),.own y128,.d (.int .i64 y129),.d (.str y130),.d (.int .i64 y131),.own y132,.own y133,.d (.int .i64 y134),.d (.str y135),.d (.int .i64 y136),.own y137,.own y138]] : LC).length ≤ Z8) (L0 (IntKind.wrap .i64 (aJ + 1),aK ++ ([[.d (.int .i64 y122),.d (.str y123),.d (.int .i64 y124),.d (.int .i64 y125),.d (.int .i64 y126),.d (.bool y127),.own y128,.d (.int .i64 y129),.d (.str y130),.d (.int .i64 y131),.own y132,.own y133,.d (.int .i64 y134),.d (.str y135),.d (.int .i64 y136),.own y137,.own y138]] : LC)))))) else (K aK)
noncomputable def YO.m {β : Type} (k : Nat) (a0 : LD) (K : LC → Option β) (F : (LD → Int → (Int × LC) → Option β)) : Option β :=
 F a0 (a0.length : Int) (0,([] : LC))
noncomputable def YO.g {β : Type} (k : Nat) (a0 : LD) (K : LC → Option β) : Option β :=
 ZA (YO.l0 k a0 (a0.length : Int) K) k (0,([] : LC))
noncomputable def YO.t (k : Nat) (a0 : LD) : Option (LC) := YO.g k a0 (fun z0 => some z0)
noncomputable def YO.f {β : Type} (k : Nat) (a0 : LD) (K : LC → Option β) : Option β := bd1 (YO.t k a0) K
noncomputable def YO.e (k : Nat) : Zj := ent [.d .l] [1] [.o] [30] false (YO.t k)
noncomputable def YO.p (k : Nat) : Pro := ⟨Tryz.prog,[(115,Yar.e k)],Zv [(3,kp [3,7,8,9])] false [],k⟩
noncomputable def YO.d (k : Nat) (a0 : LD) : Ex → St → Option (LC) := (YO.p k).fin Tryz.f100 [.d (.sl a0)] [1] [.o]
noncomputable def YO.s0 (aC : LD) (aD : Int) (v : Int × LC) : St :=
 match v with
 | (aJ,aK) => ZaA 20 [(3,.row 0),(7,.d false (.sl aC)),(8,.d true (.int .i64 aD)),(9,.d true (.int .i64 aJ))] [.row none true 30 aK]
noncomputable def YO.r0 (k : Nat) (a0 aC : LD) (aD : Int) (n : Nat) (v : Int × LC) : Option (LC) := (YO.p k).lp (ZI Tryz.f100) 3 [1,1,0,1,0] (YO.d k a0) n (YO.s0 aC aD v)
theorem YO.l0_eq (k : Nat) (a0 aC : LD) (aD : Int) : ∀ n v,YO.r0 k a0 aC aD n v = ZA (YO.l0 k aC aD (fun z0 => some z0)) n v :=
 Zz (YO.s0 aC aD) _ fun L0 v => by obtain ⟨aJ,aK⟩ := v; kernel_rfl
theorem YO.ok (k : Nat) : Zf Tryz.prog 100 (YO.e k) := Zk (YO.p k) mix tyok Tryz.func100 (Yar.ok k) (by kernel_rfl) (fun a0 => Eq.trans (b := YO.m k a0 (fun z0 => some z0) (fun aC aD => YO.r0 k a0 aC aD k)) (by kernel_rfl) (congrArg (YO.m k a0 (fun z0 => some z0)) (funext fun aC => funext fun aD => funext fun v => YO.l0_eq k a0 aC aD k v) :))
noncomputable def YaS.g {β : Type} (k : Nat) (aB : LD) (aA aH : Int) (aF : LD) (K : Int → LC → Option β) : Option β :=
 YW.f k aB aA aH aF (fun y1 => bif (!y1) then (K 0 ([] : LC)) else (YO.f k aB (fun y139 => K aA y139)))
noncomputable def YaS.t (k : Nat) (aB : LD) (aA aH : Int) (aF : LD) : Option (Int × LC) := YaS.g k aB aA aH aF (fun z0 z1 => some (z0,z1))
noncomputable def YaS.f {β : Type} (k : Nat) (aB : LD) (aA aH : Int) (aF : LD) (K : Int → LC → Option β) : Option β := bd2 (YaS.t k aB aA aH aF) K
noncomputable def YaS.e (k : Nat) : Zj := ent [.agg [.l,.n,.n,.l]] [2] [.n,.o] [32] false (YaS.t k)
noncomputable def YaS.p (k : Nat) : Pro := ⟨Tryz.prog,[(95,YW.e k),(100,YO.e k)],Zv [] false [],k⟩
theorem YaS.ok (k : Nat) : Zf Tryz.prog 39 (YaS.e k) := Zk (YaS.p k) mix tyok Tryz.func39 ⟨YW.ok k,YO.ok k⟩ (by kernel_rfl) (fun aB aA aH aF => by show _ = _; kernel_rfl)
noncomputable def Yap.g {β : Type} (k : Nat) (aB : Int) (aA : LD) (K : Bool → Option β) : Option β :=
 Y1.f k aB 0 1000000 (fun y1 => bif y1 then (Y2.f k aA 1000000 aB (fun y2 => K y2)) else (K false))
noncomputable def Yap.t (k : Nat) (aB : Int) (aA : LD) : Option (Bool) := Yap.g k aB aA (fun z0 => some z0)
noncomputable def Yap.f {β : Type} (k : Nat) (aB : Int) (aA : LD) (K : Bool → Option β) : Option β := bd1 (Yap.t k aB aA) K
noncomputable def Yap.e (k : Nat) : Zj := ent [.agg [.n,.l]] [1] [.b] [4] false (Yap.t k)
noncomputable def Yap.p (k : Nat) : Pro := ⟨Tryz.prog,[(96,Y1.e k),(142,Y2.e k)],Zv [] false [],k⟩
theorem Yap.ok (k : Nat) : Zf Tryz.prog 101 (Yap.e k) := Zk (Yap.p k) mix tyok Tryz.func101 ⟨Y1.ok k,Y2.ok k⟩ (by kernel_rfl) (fun aB aA => by show _ = _; kernel_rfl)
noncomputable def Yaf.g {β : Type} (k : Nat) (aB : Int) (aA : LD) (K : Int → LC → Option β) : Option β :=
 YO.f k aA (fun y1 => K aB y1)
noncomputable def Yaf.t (k : Nat) (aB : Int) (aA : LD) : Option (Int × LC) := Yaf.g k aB aA (fun z0 z1 => some (z0,z1))
noncomputable def Yaf.f {β : Type} (k : Nat) (aB : Int) (aA : LD) (K : Int → LC → Option β) : Option β := bd2 (Yaf.t k aB aA) K
noncomputable def Yaf.e (k : Nat) : Zj := ent [.agg [.n,.l]] [2] [.n,.o] [32] false (Yaf.t k)
noncomputable def Yaf.p (k : Nat) : Pro := ⟨Tryz.prog,[(100,YO.e k)],Zv [] false [],k⟩
theorem Yaf.ok (k : Nat) : Zf Tryz.prog 102 (Yaf.e k) := Zk (Yaf.p k) mix tyok Tryz.func102 (YO.ok k) (by kernel_rfl) (fun aB aA => by show _ = _; kernel_rfl)
noncomputable def Yc.l0 {β : Type} (k : Nat) (aC : LD) (aD aL : Int) (aZ : BA) (bE bG bV : Int) (bU : Bool) (bX : LD) (bW : Int) (bY : BA) (cC : Int) (cE cF : LD) (cG : Int) (cH : BA) (cJ : Int) (cK cL : LD) (K : Int → Bool → Option β) (L0 : (Int × Int) → Option β) (v : Int × Int) : Option β :=
 match v with
 | (aJ,aK) => bif (decide ((aJ : Int) < aK)) then (let J1 := (Int.fdiv (IntKind.wrap .u64 (IntKind.wrap .i64 (aJ + aK))) (2 ^ (min (1 : Int).toNat 64))); let J0 := (IntKind.wrap .i64 J1); Zd ((0 : Int) ≤ 1) (atRow aC J0 fun c107 => rdQ [.n,.s,.n,.n,.n,.b,.l,.n,.s,.n,.l,.l,.n,.s,.n,.l,.l] c107 fun x110 x113 x116 x119 x122 x125 x128 x131 x134 x137 x140 x143 x146 x149 x152 x155 x158 => (Yan.f k x110 x113 x116 x119 x122 x125 x128 x131 x134 x137 x140 x143 x146 x149 x152 x155 x158 aL aZ bE bG bV bU bX bW bY cC cE cF cG cH cJ cK cL (fun y159 => bif (decide ((y159 : Int) < 0)) then (L0 (IntKind.wrap .i64 (J0 + 1),aK)) else (L0 (aJ,IntKind.wrap .i64 J1)))))) else (bif (decide ((aJ : Int) < aD)) then (atR aC aJ [.n,.s,.n,.n,.n,.b,.l,.n,.s,.n,.l,.l,.n,.s,.n,.l,.l] fun x163 x166 x169 x172 x175 x178 x181 x184 x187 x190 x193 x196 x199 x202 x205 x208 x211 => (Yan.f k x163 x166 x169 x172 x175 x178 x181 x184 x187 x190 x193 x196 x199 x202 x205 x208 x211 aL aZ bE bG bV bU bX bW bY cC cE cF cG cH cJ cK cL (fun y212 => K aJ ((y212 : Int) == 0)))) else (K aJ false))
noncomputable def Yc.m {β : Type} (k : Nat) (a0 : LD) (aM : Int) (aN : BA) (aU aO bF : Int) (bH : Bool) (bI : LD) (bJ : Int) (bK : BA) (bL : Int) (bM bN : LD) (bO : Int) (bP : BA) (bQ : Int) (bR bT : LD) (K : Int → Bool → Option β) (F : (LD → Int → Int → BA → Int → Int → Int → Bool → LD → Int → BA → Int → LD → LD → Int → BA → Int → LD → LD → (Int × Int) → Option β)) : Option β :=
 F a0 (a0.length : Int) aM aN aU aO bF bH bI bJ bK bL bM bN bO bP bQ bR bT (0,(a0.length : Int))
noncomputable def Yc.g {β : Type} (k : Nat) (a0 : LD) (aM : Int) (aN : BA) (aU aO bF : Int) (bH : Bool) (bI : LD) (bJ : Int) (bK : BA) (bL : Int) (bM bN : LD) (bO : Int) (bP : BA) (bQ : Int) (bR bT : LD) (K : Int → Bool → Option β) : Option β :=
 ZA (Yc.l0 k a0 (a0.length : Int) aM aN aU aO bF bH bI bJ bK bL bM bN bO bP bQ bR bT K) k (0,(a0.length : Int))
noncomputable def Yc.t (k : Nat) (a0 : LD) (aM : Int) (aN : BA) (aU aO bF : Int) (bH : Bool) (bI : LD) (bJ : Int) (bK : BA) (bL : Int) (bM bN : LD) (bO : Int) (bP : BA) (bQ : Int) (bR bT : LD) : Option (Int × Bool) := Yc.g k a0 aM aN aU aO bF bH bI bJ bK bL bM bN bO bP bQ bR bT (fun z0 z1 => some (z0,z1))
noncomputable def Yc.f {β : Type} (k : Nat) (a0 : LD) (aM : Int) (aN : BA) (aU aO bF : Int) (bH : Bool) (bI : LD) (bJ : Int) (bK : BA) (bL : Int) (bM bN : LD) (bO : Int) (bP : BA) (bQ : Int) (bR bT : LD) (K : Int → Bool → Option β) : Option β := bd2 (Yc.t k a0 aM aN aU aO bF bH bI bJ bK bL bM bN bO bP bQ bR bT) K
noncomputable def Yc.e (k : Nat) : Zj := ent [.d .l,.agg [.n,.s,.n,.n,.n,.b,.l,.n,.s,.n,.l,.l,.n,.s,.n,.l,.l],.fn 120 []] [1,1] [.n,.b] [3,4] false (Yc.t k)
noncomputable def Yc.p (k : Nat) : Pro := ⟨Tryz.prog,[(120,Yan.e k)],Zv [(3,kp [0,2,4,8,9,10])] false [],k⟩
noncomputable def Yc.d (k : Nat) (a0 : LD) (aM : Int) (aN : BA) (aU aO bF : Int) (bH : Bool) (bI : LD) (bJ : Int) (bK : BA) (bL : Int) (bM bN : LD) (bO : Int) (bP : BA) (bQ : Int) (bR bT : LD) : Ex → St → Option (Int × Bool) := (Yc.p k).fin Tryz.f153 [.d (.sl a0),.agg [.int .i64 aM,.str aN,.int .i64 aU,.int .i64 aO,.int .i64 bF,.bool bH,.sl bI,.int .i64 bJ,.str bK,.int .i64 bL,.sl bM,.sl bN,.int .i64 bO,.str bP,.int .i64 bQ,.sl bR,.sl bT],.d (.fn 120 [])] [1,1] [.n,.b]
noncomputable def Yc.s0 (aC : LD) (aD aL : Int) (aZ : BA) (bE bG bV : Int) (bU : Bool) (bX : LD) (bW : Int) (bY : BA) (cC : Int) (cE cF : LD) (cG : Int) (cH : BA) (cJ : Int) (cK cL : LD) (v : Int × Int) : St :=
 match v with
 | (aJ,aK) => ZaA 49 [(0,.d false (.sl aC)),(2,.d false (.fn 120 [])),(4,.bp 0 0),(8,.d true (.int .i64 aD)),(9,.d true (.int .i64 aJ)),(10,.d true (.int .i64 aK))] [.box none 98 [.d false (.int .i64 aL),.d false (.str aZ),.d false (.int .i64 bE),.d false (.int .i64 bG),.d false (.int .i64 bV),.d false (.bool bU),.d false (.sl bX),.d false (.int .i64 bW),.d false (.str bY),.d false (.int .i64 cC),.d false (.sl cE),.d false (.sl cF),.d false (.int .i64 cG),.d false (.str cH),.d false (.int .i64 cJ),.d false (.sl cK),.d false (.sl cL)]]
noncomputable def Yc.r0 (k : Nat) (a0 : LD) (aM : Int) (aN : BA) (aU aO bF : Int) (bH : Bool) (bI : LD) (bJ : Int) (bK : BA) (bL : Int) (bM bN : LD) (bO : Int) (bP : BA) (bQ : Int) (bR bT aC : LD) (aD aL : Int) (aZ : BA) (bE bG bV : Int) (bU : Bool) (bX : LD) (bW : Int) (bY : BA) (cC : Int) (cE cF : LD) (cG : Int) (cH : BA) (cJ : Int) (cK cL : LD) (n : Nat) (v : Int × Int) : Option (Int × Bool) := (Yc.p k).lp (ZI Tryz.f153) 3 [1,1,1,0,0] (Yc.d k a0 aM aN aU aO bF bH bI bJ bK bL bM bN bO bP bQ bR bT) n (Yc.s0 aC aD aL aZ bE bG bV bU bX bW bY cC cE cF cG cH cJ cK cL v)
theorem Yc.l0_eq (k : Nat) (a0 : LD) (aM : Int) (aN : BA) (aU aO bF : Int) (bH : Bool) (bI : LD) (bJ : Int) (bK : BA) (bL : Int) (bM bN : LD) (bO : Int) (bP : BA) (bQ : Int) (bR bT aC : LD) (aD aL : Int) (aZ : BA) (bE bG bV : Int) (bU : Bool) (bX : LD) (bW : Int) (bY : BA) (cC : Int) (cE cF : LD) (cG : Int) (cH : BA) (cJ : Int) (cK cL : LD) : ∀ n v,Yc.r0 k a0 aM aN aU aO bF bH bI bJ bK bL bM bN bO bP bQ bR bT aC aD aL aZ bE bG bV bU bX bW bY cC cE cF cG cH cJ cK cL n v = ZA (Yc.l0 k aC aD aL aZ bE bG bV bU bX bW bY cC cE cF cG cH cJ cK cL (fun z0 z1 => some (z0,z1))) n v :=
 Zz (Yc.s0 aC aD aL aZ bE bG bV bU bX bW bY cC cE cF cG cH cJ cK cL) _ fun L0 v => by obtain ⟨aJ,aK⟩ := v; kernel_rfl
theorem Yc.ok (k : Nat) : Zf Tryz.prog 153 (Yc.e k) := Zk (Yc.p k) mix tyok Tryz.func153 (Yan.ok k) (by kernel_rfl) (fun a0 aM aN aU aO bF bH bI bJ bK bL bM bN bO bP bQ bR bT => Eq.trans (b := Yc.m k a0 aM aN aU aO bF bH bI bJ bK bL bM bN bO bP bQ bR bT (fun z0 z1 => some (z0,z1)) (fun aC aD aL aZ bE bG bV bU bX bW bY cC cE cF cG cH cJ cK cL => Yc.r0 k a0 aM aN aU aO bF bH bI bJ bK bL bM bN bO bP bQ bR bT aC aD aL aZ bE bG bV bU bX bW bY cC cE cF cG cH cJ cK cL k)) (by kernel_rfl) (congrArg (Yc.m k a0 aM aN aU aO bF bH bI bJ bK bL bM bN bO bP bQ bR bT (fun z0 z1 => some (z0,z1))) (funext fun aC => funext fun aD => funext fun aL => funext fun aZ => funext fun bE => funext fun bG => funext fun bV => funext fun bU => funext fun bX => funext fun bW => funext fun bY => funext fun cC => funext fun cE => funext fun cF => funext fun cG => funext fun cH => funext fun cJ => funext fun cK => funext fun cL => funext fun v => Yc.l0_eq k a0 aM aN aU aO bF bH bI bJ bK bL bM bN bO bP bQ bR bT aC aD aL aZ bE bG bV bU bX bW bY cC cE cF cG cH cJ cK cL k v) :))
end Go.Proofs.YtlobhlnahhjpjaaGreat
