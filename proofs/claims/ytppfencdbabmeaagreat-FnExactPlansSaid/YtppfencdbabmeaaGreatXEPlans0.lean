/- Printed: the functions that FnExactPlans reaches, read by the evaluator, each with its contract. -/
import Derived.Test.YtppfencdbabmeaaGreatTLibs
import Derived.Test.YtppfencdbabmeaaGreatProg
import Derived.KernelRfl
set_option linter.unusedVariables false
set_option linter.unusedSimpArgs false
namespace Go.Proofs.YtppfencdbabmeaaGreat
open Go Go.T Go.Proofs
theorem mix : Tryz.prog.follows .mixedOrders = true := by kernel_rfl
theorem tyok : ZaI Tryz.prog := tyOk_of (by kernel_rfl)
noncomputable def YQ.l0 {β : Type} (k : Nat) (aA : LD) (K : Int → Option β) (L0 : (Int × Int) → Option β) (v : Int × Int) : Option β :=
 match v with
 | (aB, aE) => bif (decide ((aE : Int) < (aA.length : Int))) then (atR aA aE [.s] fun x8 => (bif (decide (((IntKind.wrap .i64 (aB - (x8.size : Int))) : Int) < 0)) then (K (-1)) else (L0 (IntKind.wrap .i64 (aB - (x8.size : Int)), IntKind.wrap .i64 (aE + 1))))) else (K aB)
noncomputable def YQ.m {β : Type} (k : Nat) (a0 : LD) (a1 : Int) (K : Int → Option β) (F : (LD → (Int × Int) → Option β)) : Option β :=
 bif (decide (((IntKind.wrap .i64 (a1 - (a0.length : Int))) : Int) < 0)) then (K (-1)) else (F a0 (IntKind.wrap .i64 (a1 - (a0.length : Int)), 0))
noncomputable def YQ.g {β : Type} (k : Nat) (a0 : LD) (a1 : Int) (K : Int → Option β) : Option β :=
 bif (decide (((IntKind.wrap .i64 (a1 - (a0.length : Int))) : Int) < 0)) then (K (-1)) else (Zo (YQ.l0 k a0 K) k (IntKind.wrap .i64 (a1 - (a0.length : Int)), 0))
noncomputable def YQ.t (k : Nat) (a0 : LD) (a1 : Int) : Option (Int) := YQ.g k a0 a1 (fun z0 => some z0)
noncomputable def YQ.f {β : Type} (k : Nat) (a0 : LD) (a1 : Int) (K : Int → Option β) : Option β := bd1 (YQ.t k a0 a1) K
noncomputable def YQ.e (k : Nat) : Zk := ent [.d .l, .d .n] [1] [.n] [3] false (YQ.t k)
noncomputable def YQ.p (k : Nat) : Pro := ⟨Tryz.prog, [], Zn [(5, kp [0, 1, 5])] false [], k⟩
noncomputable def YQ.d (k : Nat) (a0 : LD) (a1 : Int) : Ex → St → Option (Int) := (YQ.p k).fin Tryz.f57 [.d (.sl a0), .d (.int .i64 a1)] [1] [.n]
noncomputable def YQ.s0 (aA : LD) (v : Int × Int) : St :=
 match v with
 | (aB, aE) => ZX 28 [(0, .d false (.sl aA)), (1, .d true (.int .i64 aB)), (5, .d true (.int .i64 aE))] []
noncomputable def YQ.r0 (k : Nat) (a0 : LD) (a1 : Int) (aA : LD) (n : Nat) (v : Int × Int) : Option (Int) := (YQ.p k).lp (Zt Tryz.f57) 5 [1, 1, 1, 0, 1, 0] (YQ.d k a0 a1) n (YQ.s0 aA v)
theorem YQ.l0_eq (k : Nat) (a0 : LD) (a1 : Int) (aA : LD) : ∀ n v, YQ.r0 k a0 a1 aA n v = Zo (YQ.l0 k aA (fun z0 => some z0)) n v :=
 Zm (YQ.s0 aA) _ fun L0 v => by obtain ⟨aB, aE⟩ := v; kernel_rfl
theorem YQ.ok (k : Nat) : Za Tryz.prog 57 (YQ.e k) := Zh (YQ.p k) mix tyok Tryz.func57 trivial (by kernel_rfl) (fun a0 a1 => Eq.trans (b := YQ.m k a0 a1 (fun z0 => some z0) (fun aA => YQ.r0 k a0 a1 aA k)) (by kernel_rfl) (congrArg (YQ.m k a0 a1 (fun z0 => some z0)) (funext fun aA => funext fun v => YQ.l0_eq k a0 a1 aA k v)))
noncomputable def Ya1.g {β : Type} (k : Nat) (aC : Int) (aD : BA) (aF : LD) (a1 : Int) (K : Int → Option β) : Option β :=
 bif (decide (((IntKind.wrap .i64 (a1 - (aD.size : Int))) : Int) < 0)) then (K (-1)) else (YQ.f k aF (IntKind.wrap .i64 (a1 - (aD.size : Int))) (fun y9 => bif (decide ((y9 : Int) < 0)) then (K (-1)) else (K y9)))
noncomputable def Ya1.t (k : Nat) (aC : Int) (aD : BA) (aF : LD) (a1 : Int) : Option (Int) := Ya1.g k aC aD aF a1 (fun z0 => some z0)
noncomputable def Ya1.f {β : Type} (k : Nat) (aC : Int) (aD : BA) (aF : LD) (a1 : Int) (K : Int → Option β) : Option β := bd1 (Ya1.t k aC aD aF a1) K
noncomputable def Ya1.e (k : Nat) : Zk := ent [.agg [.n, .s, .l], .d .n] [1] [.n] [3] false (Ya1.t k)
noncomputable def Ya1.p (k : Nat) : Pro := ⟨Tryz.prog, [(57, YQ.e k)], Zn [] false [], k⟩
theorem Ya1.ok (k : Nat) : Za Tryz.prog 126 (Ya1.e k) := Zh (Ya1.p k) mix tyok Tryz.func126 (YQ.ok k) (by kernel_rfl) (fun aC aD aF a1 => by show _ = _; kernel_rfl)
noncomputable def Yan.l0 {β : Type} (k : Nat) (aA : LD) (K : Int → Option β) (L0 : (Int × Int) → Option β) (v : Int × Int) : Option β :=
 match v with
 | (aB, aE) => bif (decide ((aE : Int) < (aA.length : Int))) then (atR aA aE [.n, .s, .l] fun x15 x18 x21 => (Ya1.f k x15 x18 x21 aB (fun y22 => bif (decide ((y22 : Int) < 0)) then (K (-1)) else (L0 (y22, IntKind.wrap .i64 (aE + 1)))))) else (K aB)
noncomputable def Yan.m {β : Type} (k : Nat) (a0 : LD) (a1 : Int) (K : Int → Option β) (F : (LD → (Int × Int) → Option β)) : Option β :=
 bif (decide (((IntKind.wrap .i64 (a1 - (a0.length : Int))) : Int) < 0)) then (K (-1)) else (F a0 (IntKind.wrap .i64 (a1 - (a0.length : Int)), 0))
noncomputable def Yan.g {β : Type} (k : Nat) (a0 : LD) (a1 : Int) (K : Int → Option β) : Option β :=
 bif (decide (((IntKind.wrap .i64 (a1 - (a0.length : Int))) : Int) < 0)) then (K (-1)) else (Zo (Yan.l0 k a0 K) k (IntKind.wrap .i64 (a1 - (a0.length : Int)), 0))
noncomputable def Yan.t (k : Nat) (a0 : LD) (a1 : Int) : Option (Int) := Yan.g k a0 a1 (fun z0 => some z0)
noncomputable def Yan.f {β : Type} (k : Nat) (a0 : LD) (a1 : Int) (K : Int → Option β) : Option β := bd1 (Yan.t k a0 a1) K
noncomputable def Yan.e (k : Nat) : Zk := ent [.d .l, .d .n] [1] [.n] [3] false (Yan.t k)
noncomputable def Yan.p (k : Nat) : Pro := ⟨Tryz.prog, [(126, Ya1.e k)], Zn [(5, kp [0, 1, 5])] false [], k⟩
noncomputable def Yan.d (k : Nat) (a0 : LD) (a1 : Int) : Ex → St → Option (Int) := (Yan.p k).fin Tryz.f56 [.d (.sl a0), .d (.int .i64 a1)] [1] [.n]
noncomputable def Yan.s0 (aA : LD) (v : Int × Int) : St :=
 match v with
 | (aB, aE) => ZX 27 [(0, .d false (.sl aA)), (1, .d true (.int .i64 aB)), (5, .d true (.int .i64 aE))] []
noncomputable def Yan.r0 (k : Nat) (a0 : LD) (a1 : Int) (aA : LD) (n : Nat) (v : Int × Int) : Option (Int) := (Yan.p k).lp (Zt Tryz.f56) 5 [1, 1, 1, 0, 1, 0] (Yan.d k a0 a1) n (Yan.s0 aA v)
theorem Yan.l0_eq (k : Nat) (a0 : LD) (a1 : Int) (aA : LD) : ∀ n v, Yan.r0 k a0 a1 aA n v = Zo (Yan.l0 k aA (fun z0 => some z0)) n v :=
 Zm (Yan.s0 aA) _ fun L0 v => by obtain ⟨aB, aE⟩ := v; kernel_rfl
theorem Yan.ok (k : Nat) : Za Tryz.prog 56 (Yan.e k) := Zh (Yan.p k) mix tyok Tryz.func56 (Ya1.ok k) (by kernel_rfl) (fun a0 a1 => Eq.trans (b := Yan.m k a0 a1 (fun z0 => some z0) (fun aA => Yan.r0 k a0 a1 aA k)) (by kernel_rfl) (congrArg (Yan.m k a0 a1 (fun z0 => some z0)) (funext fun aA => funext fun v => Yan.l0_eq k a0 a1 aA k v)))
noncomputable def YaT.g {β : Type} (k : Nat) (aC : BA) (aD a1 : Int) (K : Int → Option β) : Option β :=
 bif (decide (((IntKind.wrap .i64 (a1 - (aC.size : Int))) : Int) < 0)) then (K (-1)) else (K (IntKind.wrap .i64 (a1 - (aC.size : Int))))
noncomputable def YaT.t (k : Nat) (aC : BA) (aD a1 : Int) : Option (Int) := YaT.g k aC aD a1 (fun z0 => some z0)
noncomputable def YaT.f {β : Type} (k : Nat) (aC : BA) (aD a1 : Int) (K : Int → Option β) : Option β := bd1 (YaT.t k aC aD a1) K
noncomputable def YaT.e (k : Nat) : Zk := ent [.agg [.s, .n], .d .n] [1] [.n] [3] false (YaT.t k)
noncomputable def YaT.p (k : Nat) : Pro := ⟨Tryz.prog, [], Zn [] false [], k⟩
theorem YaT.ok (k : Nat) : Za Tryz.prog 127 (YaT.e k) := Zh (YaT.p k) mix tyok Tryz.func127 trivial (by kernel_rfl) (fun aC aD a1 => by show _ = _; kernel_rfl)
noncomputable def Yae.l0 {β : Type} (k : Nat) (aA : LD) (K : Int → Option β) (L0 : (Int × Int) → Option β) (v : Int × Int) : Option β :=
 match v with
 | (aB, aE) => bif (decide ((aE : Int) < (aA.length : Int))) then (atR aA aE [.s, .n] fun x12 x15 => (YaT.f k x12 x15 aB (fun y16 => bif (decide ((y16 : Int) < 0)) then (K (-1)) else (L0 (y16, IntKind.wrap .i64 (aE + 1)))))) else (K aB)
noncomputable def Yae.m {β : Type} (k : Nat) (a0 : LD) (a1 : Int) (K : Int → Option β) (F : (LD → (Int × Int) → Option β)) : Option β :=
 bif (decide (((IntKind.wrap .i64 (a1 - (a0.length : Int))) : Int) < 0)) then (K (-1)) else (F a0 (IntKind.wrap .i64 (a1 - (a0.length : Int)), 0))
noncomputable def Yae.g {β : Type} (k : Nat) (a0 : LD) (a1 : Int) (K : Int → Option β) : Option β :=
 bif (decide (((IntKind.wrap .i64 (a1 - (a0.length : Int))) : Int) < 0)) then (K (-1)) else (Zo (Yae.l0 k a0 K) k (IntKind.wrap .i64 (a1 - (a0.length : Int)), 0))
noncomputable def Yae.t (k : Nat) (a0 : LD) (a1 : Int) : Option (Int) := Yae.g k a0 a1 (fun z0 => some z0)
noncomputable def Yae.f {β : Type} (k : Nat) (a0 : LD) (a1 : Int) (K : Int → Option β) : Option β := bd1 (Yae.t k a0 a1) K
noncomputable def Yae.e (k : Nat) : Zk := ent [.d .l, .d .n] [1] [.n] [3] false (Yae.t k)
noncomputable def Yae.p (k : Nat) : Pro := ⟨Tryz.prog, [(127, YaT.e k)], Zn [(5, kp [0, 1, 5])] false [], k⟩
noncomputable def Yae.d (k : Nat) (a0 : LD) (a1 : Int) : Ex → St → Option (Int) := (Yae.p k).fin Tryz.f58 [.d (.sl a0), .d (.int .i64 a1)] [1] [.n]
noncomputable def Yae.s0 (aA : LD) (v : Int × Int) : St :=
 match v with
 | (aB, aE) => ZX 27 [(0, .d false (.sl aA)), (1, .d true (.int .i64 aB)), (5, .d true (.int .i64 aE))] []
noncomputable def Yae.r0 (k : Nat) (a0 : LD) (a1 : Int) (aA : LD) (n : Nat) (v : Int × Int) : Option (Int) := (Yae.p k).lp (Zt Tryz.f58) 5 [1, 1, 1, 0, 1, 0] (Yae.d k a0 a1) n (Yae.s0 aA v)
theorem Yae.l0_eq (k : Nat) (a0 : LD) (a1 : Int) (aA : LD) : ∀ n v, Yae.r0 k a0 a1 aA n v = Zo (Yae.l0 k aA (fun z0 => some z0)) n v :=
 Zm (Yae.s0 aA) _ fun L0 v => by obtain ⟨aB, aE⟩ := v; kernel_rfl
theorem Yae.ok (k : Nat) : Za Tryz.prog 58 (Yae.e k) := Zh (Yae.p k) mix tyok Tryz.func58 (YaT.ok k) (by kernel_rfl) (fun a0 a1 => Eq.trans (b := Yae.m k a0 a1 (fun z0 => some z0) (fun aA => Yae.r0 k a0 a1 aA k)) (by kernel_rfl) (congrArg (Yae.m k a0 a1 (fun z0 => some z0)) (funext fun aA => funext fun v => Yae.l0_eq k a0 a1 aA k v)))
noncomputable def Ya0.g {β : Type} (k : Nat) (aC : Int) (aD aF aG : LD) (a1 : Int) (K : Int → Option β) : Option β :=
 Yan.f k aD a1 (fun y23 => bif (decide ((y23 : Int) < 0)) then (K (-1)) else (YQ.f k aF y23 (fun y24 => bif (decide ((y24 : Int) < 0)) then (K (-1)) else (Yae.f k aG y24 (fun y25 => bif (decide ((y25 : Int) < 0)) then (K (-1)) else (K y25))))))
noncomputable def Ya0.t (k : Nat) (aC : Int) (aD aF aG : LD) (a1 : Int) : Option (Int) := Ya0.g k aC aD aF aG a1 (fun z0 => some z0)
noncomputable def Ya0.f {β : Type} (k : Nat) (aC : Int) (aD aF aG : LD) (a1 : Int) (K : Int → Option β) : Option β := bd1 (Ya0.t k aC aD aF aG a1) K
noncomputable def Ya0.e (k : Nat) : Zk := ent [.agg [.n, .l, .l, .l], .d .n] [1] [.n] [3] false (Ya0.t k)
noncomputable def Ya0.p (k : Nat) : Pro := ⟨Tryz.prog, [(56, Yan.e k), (57, YQ.e k), (58, Yae.e k)], Zn [] false [], k⟩
theorem Ya0.ok (k : Nat) : Za Tryz.prog 8 (Ya0.e k) := Zh (Ya0.p k) mix tyok Tryz.func8 ⟨Yan.ok k, YQ.ok k, Yae.ok k⟩ (by kernel_rfl) (fun aC aD aF aG a1 => by show _ = _; kernel_rfl)
noncomputable def Yam.l0 {β : Type} (k : Nat) (aA : LD) (K : Int → Option β) (L0 : (Int × Int) → Option β) (v : Int × Int) : Option β :=
 match v with
 | (aB, aE) => bif (decide ((aE : Int) < (aA.length : Int))) then (atR aA aE [.n, .l, .l, .l] fun x30 x33 x36 x39 => (Ya0.f k x30 x33 x36 x39 aB (fun y40 => bif (decide ((y40 : Int) < 0)) then (K (-1)) else (L0 (y40, IntKind.wrap .i64 (aE + 1)))))) else (K aB)
noncomputable def Yam.m {β : Type} (k : Nat) (a0 : LD) (a1 : Int) (K : Int → Option β) (F : (LD → (Int × Int) → Option β)) : Option β :=
 bif (decide (((IntKind.wrap .i64 (a1 - (a0.length : Int))) : Int) < 0)) then (K (-1)) else (F a0 (IntKind.wrap .i64 (a1 - (a0.length : Int)), 0))
noncomputable def Yam.g {β : Type} (k : Nat) (a0 : LD) (a1 : Int) (K : Int → Option β) : Option β :=
 bif (decide (((IntKind.wrap .i64 (a1 - (a0.length : Int))) : Int) < 0)) then (K (-1)) else (Zo (Yam.l0 k a0 K) k (IntKind.wrap .i64 (a1 - (a0.length : Int)), 0))
noncomputable def Yam.t (k : Nat) (a0 : LD) (a1 : Int) : Option (Int) := Yam.g k a0 a1 (fun z0 => some z0)
noncomputable def Yam.f {β : Type} (k : Nat) (a0 : LD) (a1 : Int) (K : Int → Option β) : Option β := bd1 (Yam.t k a0 a1) K
noncomputable def Yam.e (k : Nat) : Zk := ent [.d .l, .d .n] [1] [.n] [3] false (Yam.t k)
noncomputable def Yam.p (k : Nat) : Pro := ⟨Tryz.prog, [(8, Ya0.e k)], Zn [(5, kp [0, 1, 5])] false [], k⟩
noncomputable def Yam.d (k : Nat) (a0 : LD) (a1 : Int) : Ex → St → Option (Int) := (Yam.p k).fin Tryz.f22 [.d (.sl a0), .d (.int .i64 a1)] [1] [.n]
noncomputable def Yam.s0 (aA : LD) (v : Int × Int) : St :=
 match v with
 | (aB, aE) => ZX 27 [(0, .d false (.sl aA)), (1, .d true (.int .i64 aB)), (5, .d true (.int .i64 aE))] []
noncomputable def Yam.r0 (k : Nat) (a0 : LD) (a1 : Int) (aA : LD) (n : Nat) (v : Int × Int) : Option (Int) := (Yam.p k).lp (Zt Tryz.f22) 5 [1, 1, 1, 0, 1, 0] (Yam.d k a0 a1) n (Yam.s0 aA v)
theorem Yam.l0_eq (k : Nat) (a0 : LD) (a1 : Int) (aA : LD) : ∀ n v, Yam.r0 k a0 a1 aA n v = Zo (Yam.l0 k aA (fun z0 => some z0)) n v :=
 Zm (Yam.s0 aA) _ fun L0 v => by obtain ⟨aB, aE⟩ := v; kernel_rfl
theorem Yam.ok (k : Nat) : Za Tryz.prog 22 (Yam.e k) := Zh (Yam.p k) mix tyok Tryz.func22 (Ya0.ok k) (by kernel_rfl) (fun a0 a1 => Eq.trans (b := Yam.m k a0 a1 (fun z0 => some z0) (fun aA => Yam.r0 k a0 a1 aA k)) (by kernel_rfl) (congrArg (Yam.m k a0 a1 (fun z0 => some z0)) (funext fun aA => funext fun v => Yam.l0_eq k a0 a1 aA k v)))
noncomputable def YaU.g {β : Type} (k : Nat) (aC aD : BA) (a1 : Int) (K : Int → Option β) : Option β :=
 bif (decide (((IntKind.wrap .i64 (a1 - (aC.size : Int))) : Int) < 0)) then (K (-1)) else (let J0 := (IntKind.wrap .i64 ((IntKind.wrap .i64 (a1 - (aC.size : Int))) - (aD.size : Int))); bif (decide ((J0 : Int) < 0)) then (K (-1)) else (K J0))
noncomputable def YaU.t (k : Nat) (aC aD : BA) (a1 : Int) : Option (Int) := YaU.g k aC aD a1 (fun z0 => some z0)
noncomputable def YaU.f {β : Type} (k : Nat) (aC aD : BA) (a1 : Int) (K : Int → Option β) : Option β := bd1 (YaU.t k aC aD a1) K
noncomputable def YaU.e (k : Nat) : Zk := ent [.agg [.s, .s], .d .n] [1] [.n] [3] false (YaU.t k)
noncomputable def YaU.p (k : Nat) : Pro := ⟨Tryz.prog, [], Zn [] false [], k⟩
theorem YaU.ok (k : Nat) : Za Tryz.prog 202 (YaU.e k) := Zh (YaU.p k) mix tyok Tryz.func202 trivial (by kernel_rfl) (fun aC aD a1 => by show _ = _; kernel_rfl)
noncomputable def Yaf.l0 {β : Type} (k : Nat) (aA : LD) (K : Int → Option β) (L0 : (Int × Int) → Option β) (v : Int × Int) : Option β :=
 match v with
 | (aB, aE) => bif (decide ((aE : Int) < (aA.length : Int))) then (atR aA aE [.s, .s] fun x12 x15 => (YaU.f k x12 x15 aB (fun y16 => bif (decide ((y16 : Int) < 0)) then (K (-1)) else (L0 (y16, IntKind.wrap .i64 (aE + 1)))))) else (K aB)
noncomputable def Yaf.m {β : Type} (k : Nat) (a0 : LD) (a1 : Int) (K : Int → Option β) (F : (LD → (Int × Int) → Option β)) : Option β :=
 bif (decide (((IntKind.wrap .i64 (a1 - (a0.length : Int))) : Int) < 0)) then (K (-1)) else (F a0 (IntKind.wrap .i64 (a1 - (a0.length : Int)), 0))
noncomputable def Yaf.g {β : Type} (k : Nat) (a0 : LD) (a1 : Int) (K : Int → Option β) : Option β :=
 bif (decide (((IntKind.wrap .i64 (a1 - (a0.length : Int))) : Int) < 0)) then (K (-1)) else (Zo (Yaf.l0 k a0 K) k (IntKind.wrap .i64 (a1 - (a0.length : Int)), 0))
noncomputable def Yaf.t (k : Nat) (a0 : LD) (a1 : Int) : Option (Int) := Yaf.g k a0 a1 (fun z0 => some z0)
noncomputable def Yaf.f {β : Type} (k : Nat) (a0 : LD) (a1 : Int) (K : Int → Option β) : Option β := bd1 (Yaf.t k a0 a1) K
noncomputable def Yaf.e (k : Nat) : Zk := ent [.d .l, .d .n] [1] [.n] [3] false (Yaf.t k)
noncomputable def Yaf.p (k : Nat) : Pro := ⟨Tryz.prog, [(202, YaU.e k)], Zn [(5, kp [0, 1, 5])] false [], k⟩
noncomputable def Yaf.d (k : Nat) (a0 : LD) (a1 : Int) : Ex → St → Option (Int) := (Yaf.p k).fin Tryz.f128 [.d (.sl a0), .d (.int .i64 a1)] [1] [.n]
noncomputable def Yaf.s0 (aA : LD) (v : Int × Int) : St :=
 match v with
 | (aB, aE) => ZX 27 [(0, .d false (.sl aA)), (1, .d true (.int .i64 aB)), (5, .d true (.int .i64 aE))] []
noncomputable def Yaf.r0 (k : Nat) (a0 : LD) (a1 : Int) (aA : LD) (n : Nat) (v : Int × Int) : Option (Int) := (Yaf.p k).lp (Zt Tryz.f128) 5 [1, 1, 1, 0, 1, 0] (Yaf.d k a0 a1) n (Yaf.s0 aA v)
theorem Yaf.l0_eq (k : Nat) (a0 : LD) (a1 : Int) (aA : LD) : ∀ n v, Yaf.r0 k a0 a1 aA n v = Zo (Yaf.l0 k aA (fun z0 => some z0)) n v :=
 Zm (Yaf.s0 aA) _ fun L0 v => by obtain ⟨aB, aE⟩ := v; kernel_rfl
theorem Yaf.ok (k : Nat) : Za Tryz.prog 128 (Yaf.e k) := Zh (Yaf.p k) mix tyok Tryz.func128 (YaU.ok k) (by kernel_rfl) (fun a0 a1 => Eq.trans (b := Yaf.m k a0 a1 (fun z0 => some z0) (fun aA => Yaf.r0 k a0 a1 aA k)) (by kernel_rfl) (congrArg (Yaf.m k a0 a1 (fun z0 => some z0)) (funext fun aA => funext fun v => Yaf.l0_eq k a0 a1 aA k v)))
noncomputable def YaN.g {β : Type} (k : Nat) (aC : BA) (aD aF : LD) (aG a1 : Int) (K : Int → Option β) : Option β :=
 bif (decide (((IntKind.wrap .i64 (a1 - (aC.size : Int))) : Int) < 0)) then (K (-1)) else (Yaf.f k aD (IntKind.wrap .i64 (a1 - (aC.size : Int))) (fun y17 => bif (decide ((y17 : Int) < 0)) then (K (-1)) else (YQ.f k aF y17 (fun y18 => bif (decide ((y18 : Int) < 0)) then (K (-1)) else (K y18)))))
noncomputable def YaN.t (k : Nat) (aC : BA) (aD aF : LD) (aG a1 : Int) : Option (Int) := YaN.g k aC aD aF aG a1 (fun z0 => some z0)
noncomputable def YaN.f {β : Type} (k : Nat) (aC : BA) (aD aF : LD) (aG a1 : Int) (K : Int → Option β) : Option β := bd1 (YaN.t k aC aD aF aG a1) K
noncomputable def YaN.e (k : Nat) : Zk := ent [.agg [.s, .l, .l, .n], .d .n] [1] [.n] [3] false (YaN.t k)
noncomputable def YaN.p (k : Nat) : Pro := ⟨Tryz.prog, [(128, Yaf.e k), (57, YQ.e k)], Zn [] false [], k⟩
theorem YaN.ok (k : Nat) : Za Tryz.prog 59 (YaN.e k) := Zh (YaN.p k) mix tyok Tryz.func59 ⟨Yaf.ok k, YQ.ok k⟩ (by kernel_rfl) (fun aC aD aF aG a1 => by show _ = _; kernel_rfl)
noncomputable def Y4.l0 {β : Type} (k : Nat) (aA : LD) (K : Int → Option β) (L0 : (Int × Int) → Option β) (v : Int × Int) : Option β :=
 match v with
 | (aB, aE) => bif (decide ((aE : Int) < (aA.length : Int))) then (atR aA aE [.s, .l, .l, .n] fun x23 x26 x29 x32 => (YaN.f k x23 x26 x29 x32 aB (fun y33 => bif (decide ((y33 : Int) < 0)) then (K (-1)) else (L0 (y33, IntKind.wrap .i64 (aE + 1)))))) else (K aB)
noncomputable def Y4.m {β : Type} (k : Nat) (a0 : LD) (a1 : Int) (K : Int → Option β) (F : (LD → (Int × Int) → Option β)) : Option β :=
 bif (decide (((IntKind.wrap .i64 (a1 - (a0.length : Int))) : Int) < 0)) then (K (-1)) else (F a0 (IntKind.wrap .i64 (a1 - (a0.length : Int)), 0))
noncomputable def Y4.g {β : Type} (k : Nat) (a0 : LD) (a1 : Int) (K : Int → Option β) : Option β :=
 bif (decide (((IntKind.wrap .i64 (a1 - (a0.length : Int))) : Int) < 0)) then (K (-1)) else (Zo (Y4.l0 k a0 K) k (IntKind.wrap .i64 (a1 - (a0.length : Int)), 0))
noncomputable def Y4.t (k : Nat) (a0 : LD) (a1 : Int) : Option (Int) := Y4.g k a0 a1 (fun z0 => some z0)
noncomputable def Y4.f {β : Type} (k : Nat) (a0 : LD) (a1 : Int) (K : Int → Option β) : Option β := bd1 (Y4.t k a0 a1) K
noncomputable def Y4.e (k : Nat) : Zk := ent [.d .l, .d .n] [1] [.n] [3] false (Y4.t k)
noncomputable def Y4.p (k : Nat) : Pro := ⟨Tryz.prog, [(59, YaN.e k)], Zn [(5, kp [0, 1, 5])] false [], k⟩
noncomputable def Y4.d (k : Nat) (a0 : LD) (a1 : Int) : Ex → St → Option (Int) := (Y4.p k).fin Tryz.f9 [.d (.sl a0), .d (.int .i64 a1)] [1] [.n]
noncomputable def Y4.s0 (aA : LD) (v : Int × Int) : St :=
 match v with
 | (aB, aE) => ZX 27 [(0, .d false (.sl aA)), (1, .d true (.int .i64 aB)), (5, .d true (.int .i64 aE))] []
noncomputable def Y4.r0 (k : Nat) (a0 : LD) (a1 : Int) (aA : LD) (n : Nat) (v : Int × Int) : Option (Int) := (Y4.p k).lp (Zt Tryz.f9) 5 [1, 1, 1, 0, 1, 0] (Y4.d k a0 a1) n (Y4.s0 aA v)
theorem Y4.l0_eq (k : Nat) (a0 : LD) (a1 : Int) (aA : LD) : ∀ n v, Y4.r0 k a0 a1 aA n v = Zo (Y4.l0 k aA (fun z0 => some z0)) n v :=
 Zm (Y4.s0 aA) _ fun L0 v => by obtain ⟨aB, aE⟩ := v; kernel_rfl
theorem Y4.ok (k : Nat) : Za Tryz.prog 9 (Y4.e k) := Zh (Y4.p k) mix tyok Tryz.func9 (YaN.ok k) (by kernel_rfl) (fun a0 a1 => Eq.trans (b := Y4.m k a0 a1 (fun z0 => some z0) (fun aA => Y4.r0 k a0 a1 aA k)) (by kernel_rfl) (congrArg (Y4.m k a0 a1 (fun z0 => some z0)) (funext fun aA => funext fun v => Y4.l0_eq k a0 a1 aA k v)))
noncomputable def YP.l0 {β : Type} (k : Nat) (aA : LD) (K : LC → Option β) (L0 : (Int × LC) → Option β) (v : Int × LC) : Option β :=
 match v with
 | (aB, aE) => bif (decide ((aB : Int) < (aA.length : Int))) then (atR aA aB [.s] fun x8 => (Zc ((0 : Int) ≤ aB ∧ aB < (aE.length : Int)) (Zc (Int.toNat aB < aE.length) (L0 (IntKind.wrap .i64 (aB + 1), aE.modify (Int.toNat aB) fun c => Zq c 0 [.d (.str x8)]))))) else (K aE)
noncomputable def YP.m {β : Type} (k : Nat) (a0 : LD) (K : LC → Option β) (F : (LD → (Int × LC) → Option β)) : Option β :=
 Zc ((0 : Int) ≤ (a0.length : Int) ∧ (a0.length : Int) ≤ (ZN : Int) ∧ (a0.length : Int) ≤ (a0.length : Int) ∧ (a0.length : Int) ≤ (a0.length : Int)) (F a0 (0, List.replicate (Int.toNat (a0.length : Int)) ([.d (.str (⟨#[]⟩ : BA))] : List C)))
noncomputable def YP.g {β : Type} (k : Nat) (a0 : LD) (K : LC → Option β) : Option β :=
 Zc ((0 : Int) ≤ (a0.length : Int) ∧ (a0.length : Int) ≤ (ZN : Int) ∧ (a0.length : Int) ≤ (a0.length : Int) ∧ (a0.length : Int) ≤ (a0.length : Int)) (Zo (YP.l0 k a0 K) k (0, List.replicate (Int.toNat (a0.length : Int)) ([.d (.str (⟨#[]⟩ : BA))] : List C)))
noncomputable def YP.t (k : Nat) (a0 : LD) : Option (LC) := YP.g k a0 (fun z0 => some z0)
noncomputable def YP.f {β : Type} (k : Nat) (a0 : LD) (K : LC → Option β) : Option β := bd1 (YP.t k a0) K
noncomputable def YP.e (k : Nat) : Zk := ent [.d .l] [1] [.o] [23] false (YP.t k)
noncomputable def YP.p (k : Nat) : Pro := ⟨Tryz.prog, [], Zn [(3, kp [0, 3, 4])] false [], k⟩
noncomputable def YP.d (k : Nat) (a0 : LD) : Ex → St → Option (LC) := (YP.p k).fin Tryz.f66 [.d (.sl a0)] [1] [.o]
noncomputable def YP.s0 (aA : LD) (v : Int × LC) : St :=
 match v with
 | (aB, aE) => ZX 22 [(0, .d false (.sl aA)), (3, .row 0), (4, .d true (.int .i64 aB))] [.row none true 23 aE]
noncomputable def YP.r0 (k : Nat) (a0 aA : LD) (n : Nat) (v : Int × LC) : Option (LC) := (YP.p k).lp (Zt Tryz.f66) 3 [1, 1, 0, 1, 0] (YP.d k a0) n (YP.s0 aA v)
theorem YP.l0_eq (k : Nat) (a0 aA : LD) : ∀ n v, YP.r0 k a0 aA n v = Zo (YP.l0 k aA (fun z0 => some z0)) n v :=
 Zm (YP.s0 aA) _ fun L0 v => by obtain ⟨aB, aE⟩ := v; kernel_rfl
theorem YP.ok (k : Nat) : Za Tryz.prog 66 (YP.e k) := Zh (YP.p k) mix tyok Tryz.func66 trivial (by kernel_rfl) (fun a0 => Eq.trans (b := YP.m k a0 (fun z0 => some z0) (fun aA => YP.r0 k a0 aA k)) (by kernel_rfl) (congrArg (YP.m k a0 (fun z0 => some z0)) (funext fun aA => funext fun v => YP.l0_eq k a0 aA k v)))
noncomputable def YaZ.g {β : Type} (k : Nat) (aC : Int) (aD : BA) (aF : LD) (K : Int → BA → LC → Option β) : Option β :=
 YP.f k aF (fun y9 => K aC aD y9)
noncomputable def YaZ.t (k : Nat) (aC : Int) (aD : BA) (aF : LD) : Option (Int × BA × LC) := YaZ.g k aC aD aF (fun z0 z1 z2 => some (z0, z1, z2))
noncomputable def YaZ.f {β : Type} (k : Nat) (aC : Int) (aD : BA) (aF : LD) (K : Int → BA → LC → Option β) : Option β := bd3 (YaZ.t k aC aD aF) K
noncomputable def YaZ.e (k : Nat) : Zk := ent [.agg [.n, .s, .l]] [3] [.n, .s, .o] [191] false (YaZ.t k)
noncomputable def YaZ.p (k : Nat) : Pro := ⟨Tryz.prog, [(66, YP.e k)], Zn [] false [], k⟩
theorem YaZ.ok (k : Nat) : Za Tryz.prog 138 (YaZ.e k) := Zh (YaZ.p k) mix tyok Tryz.func138 (YP.ok k) (by kernel_rfl) (fun aC aD aF => by show _ = _; kernel_rfl)
noncomputable def Yak.l0 {β : Type} (k : Nat) (aA : LD) (K : LC → Option β) (L0 : (Int × LC) → Option β) (v : Int × LC) : Option β :=
 match v with
 | (aB, aE) => bif (decide ((aB : Int) < (aA.length : Int))) then (atR aA aB [.n, .s, .l] fun x17 x20 x23 => (YaZ.f k x17 x20 x23 (fun y24 y25 y26 => Zc ((0 : Int) ≤ aB ∧ aB < (aE.length : Int)) (Zc (Int.toNat aB < aE.length) (L0 (IntKind.wrap .i64 (aB + 1), aE.modify (Int.toNat aB) fun c => Zq c 0 [.d (.int .i64 y24), .d (.str y25), .own y26])))))) else (K aE)
noncomputable def Yak.m {β : Type} (k : Nat) (a0 : LD) (K : LC → Option β) (F : (LD → (Int × LC) → Option β)) : Option β :=
 Zc ((0 : Int) ≤ (a0.length : Int) ∧ (a0.length : Int) ≤ (ZN : Int) ∧ (a0.length : Int) ≤ (a0.length : Int) ∧ (a0.length : Int) ≤ (a0.length : Int)) (F a0 (0, List.replicate (Int.toNat (a0.length : Int)) ([.d (.int .i64 0), .d (.str (⟨#[]⟩ : BA)), .own ([] : LC)] : List C)))
noncomputable def Yak.g {β : Type} (k : Nat) (a0 : LD) (K : LC → Option β) : Option β := Yak.m k a0 K (fun aA => Zo (Yak.l0 k aA K) k)
noncomputable def Yak.t (k : Nat) (a0 : LD) : Option (LC) := Yak.g k a0 (fun z0 => some z0)
noncomputable def Yak.f {β : Type} (k : Nat) (a0 : LD) (K : LC → Option β) : Option β := bd1 (Yak.t k a0) K
noncomputable def Yak.e (k : Nat) : Zk := ent [.d .l] [1] [.o] [32] false (Yak.t k)
noncomputable def Yak.p (k : Nat) : Pro := ⟨Tryz.prog, [(138, YaZ.e k)], Zn [(3, kp [0, 3, 4])] false [], k⟩
noncomputable def Yak.d (k : Nat) (a0 : LD) : Ex → St → Option (LC) := (Yak.p k).fin Tryz.f65 [.d (.sl a0)] [1] [.o]
noncomputable def Yak.s0 (aA : LD) (v : Int × LC) : St :=
 match v with
 | (aB, aE) => ZX 23 [(0, .d false (.sl aA)), (3, .row 0), (4, .d true (.int .i64 aB))] [.row none true 32 aE]
noncomputable def Yak.r0 (k : Nat) (a0 aA : LD) (n : Nat) (v : Int × LC) : Option (LC) := (Yak.p k).lp (Zt Tryz.f65) 3 [1, 1, 0, 1, 0] (Yak.d k a0) n (Yak.s0 aA v)
theorem Yak.l0_eq (k : Nat) (a0 aA : LD) : ∀ n v, Yak.r0 k a0 aA n v = Zo (Yak.l0 k aA (fun z0 => some z0)) n v :=
 Zm (Yak.s0 aA) _ fun L0 v => by obtain ⟨aB, aE⟩ := v; kernel_rfl
theorem Yak.ok (k : Nat) : Za Tryz.prog 65 (Yak.e k) := Zh (Yak.p k) mix tyok Tryz.func65 (YaZ.ok k) (by kernel_rfl) (fun a0 => Eq.trans (b := Yak.m k a0 (fun z0 => some z0) (fun aA => Yak.r0 k a0 aA k)) (by kernel_rfl) (congrArg (Yak.m k a0 (fun z0 => some z0)) (funext fun aA => funext fun v => Yak.l0_eq k a0 aA k v)))
noncomputable def YaR.g {β : Type} (k : Nat) (aC : BA) (aD : Int) (K : BA → Int → Option β) : Option β :=
 K aC aD
noncomputable def YaR.t (k : Nat) (aC : BA) (aD : Int) : Option (BA × Int) := YaR.g k aC aD (fun z0 z1 => some (z0, z1))
noncomputable def YaR.f {β : Type} (k : Nat) (aC : BA) (aD : Int) (K : BA → Int → Option β) : Option β := bd2 (YaR.t k aC aD) K
noncomputable def YaR.e (k : Nat) : Zk := ent [.agg [.s, .n]] [2] [.s, .n] [181] false (YaR.t k)
noncomputable def YaR.p (k : Nat) : Pro := ⟨Tryz.prog, [], Zn [] false [], k⟩
theorem YaR.ok (k : Nat) : Za Tryz.prog 139 (YaR.e k) := Zh (YaR.p k) mix tyok Tryz.func139 trivial (by kernel_rfl) (fun aC aD => by show _ = _; kernel_rfl)
noncomputable def Y6.l0 {β : Type} (k : Nat) (aA : LD) (K : LC → Option β) (L0 : (Int × LC) → Option β) (v : Int × LC) : Option β :=
 match v with
 | (aB, aE) => bif (decide ((aB : Int) < (aA.length : Int))) then (atR aA aB [.s, .n] fun x13 x16 => (YaR.f k x13 x16 (fun y17 y18 => Zc ((0 : Int) ≤ aB ∧ aB < (aE.length : Int)) (Zc (Int.toNat aB < aE.length) (L0 (IntKind.wrap .i64 (aB + 1), aE.modify (Int.toNat aB) fun c => Zq c 0 [.d (.str y17), .d (.int .i64 y18)])))))) else (K aE)
noncomputable def Y6.m {β : Type} (k : Nat) (a0 : LD) (K : LC → Option β) (F : (LD → (Int × LC) → Option β)) : Option β :=
 Zc ((0 : Int) ≤ (a0.length : Int) ∧ (a0.length : Int) ≤ (ZN : Int) ∧ (a0.length : Int) ≤ (a0.length : Int) ∧ (a0.length : Int) ≤ (a0.length : Int)) (F a0 (0, List.replicate (Int.toNat (a0.length : Int)) ([.d (.str (⟨#[]⟩ : BA)), .d (.int .i64 0)] : List C)))
noncomputable def Y6.g {β : Type} (k : Nat) (a0 : LD) (K : LC → Option β) : Option β := Y6.m k a0 K (fun aA => Zo (Y6.l0 k aA K) k)
noncomputable def Y6.t (k : Nat) (a0 : LD) : Option (LC) := Y6.g k a0 (fun z0 => some z0)
noncomputable def Y6.f {β : Type} (k : Nat) (a0 : LD) (K : LC → Option β) : Option β := bd1 (Y6.t k a0) K
noncomputable def Y6.e (k : Nat) : Zk := ent [.d .l] [1] [.o] [33] false (Y6.t k)
noncomputable def Y6.p (k : Nat) : Pro := ⟨Tryz.prog, [(139, YaR.e k)], Zn [(3, kp [0, 3, 4])] false [], k⟩
noncomputable def Y6.d (k : Nat) (a0 : LD) : Ex → St → Option (LC) := (Y6.p k).fin Tryz.f67 [.d (.sl a0)] [1] [.o]
noncomputable def Y6.s0 (aA : LD) (v : Int × LC) : St :=
 match v with
 | (aB, aE) => ZX 23 [(0, .d false (.sl aA)), (3, .row 0), (4, .d true (.int .i64 aB))] [.row none true 33 aE]
noncomputable def Y6.r0 (k : Nat) (a0 aA : LD) (n : Nat) (v : Int × LC) : Option (LC) := (Y6.p k).lp (Zt Tryz.f67) 3 [1, 1, 0, 1, 0] (Y6.d k a0) n (Y6.s0 aA v)
theorem Y6.l0_eq (k : Nat) (a0 aA : LD) : ∀ n v, Y6.r0 k a0 aA n v = Zo (Y6.l0 k aA (fun z0 => some z0)) n v :=
 Zm (Y6.s0 aA) _ fun L0 v => by obtain ⟨aB, aE⟩ := v; kernel_rfl
theorem Y6.ok (k : Nat) : Za Tryz.prog 67 (Y6.e k) := Zh (Y6.p k) mix tyok Tryz.func67 (YaR.ok k) (by kernel_rfl) (fun a0 => Eq.trans (b := Y6.m k a0 (fun z0 => some z0) (fun aA => Y6.r0 k a0 aA k)) (by kernel_rfl) (congrArg (Y6.m k a0 (fun z0 => some z0)) (funext fun aA => funext fun v => Y6.l0_eq k a0 aA k v)))
noncomputable def YaY.g {β : Type} (k : Nat) (aC : Int) (aD aF aG : LD) (K : Int → LC → LC → LC → Option β) : Option β :=
 Yak.f k aD (fun y27 => YP.f k aF (fun y28 => Y6.f k aG (fun y29 => K aC y27 y28 y29)))
noncomputable def YaY.t (k : Nat) (aC : Int) (aD aF aG : LD) : Option (Int × LC × LC × LC) := YaY.g k aC aD aF aG (fun z0 z1 z2 z3 => some (z0, z1, z2, z3))
noncomputable def YaY.f {β : Type} (k : Nat) (aC : Int) (aD aF aG : LD) (K : Int → LC → LC → LC → Option β) : Option β := bd4 (YaY.t k aC aD aF aG) K
noncomputable def YaY.e (k : Nat) : Zk := ent [.agg [.n, .l, .l, .l]] [4] [.n, .o, .o, .o] [35] false (YaY.t k)
noncomputable def YaY.p (k : Nat) : Pro := ⟨Tryz.prog, [(65, Yak.e k), (66, YP.e k), (67, Y6.e k)], Zn [] false [], k⟩
theorem YaY.ok (k : Nat) : Za Tryz.prog 11 (YaY.e k) := Zh (YaY.p k) mix tyok Tryz.func11 ⟨Yak.ok k, YP.ok k, Y6.ok k⟩ (by kernel_rfl) (fun aC aD aF aG => by show _ = _; kernel_rfl)
noncomputable def YY.l0 {β : Type} (k : Nat) (aA : LD) (K : LC → Option β) (L0 : (Int × LC) → Option β) (v : Int × LC) : Option β :=
 match v with
 | (aB, aE) => bif (decide ((aB : Int) < (aA.length : Int))) then (atR aA aB [.n, .l, .l, .l] fun x37 x40 x43 x46 => (YaY.f k x37 x40 x43 x46 (fun y47 y48 y49 y50 => Zc ((0 : Int) ≤ aB ∧ aB < (aE.length : Int)) (Zc (Int.toNat aB < aE.length) (L0 (IntKind.wrap .i64 (aB + 1), aE.modify (Int.toNat aB) fun c => Zq c 0 [.d (.int .i64 y47), .own y48, .own y49, .own y50])))))) else (K aE)
noncomputable def YY.m {β : Type} (k : Nat) (a0 : LD) (K : LC → Option β) (F : (LD → (Int × LC) → Option β)) : Option β :=
 Zc ((0 : Int) ≤ (a0.length : Int) ∧ (a0.length : Int) ≤ (ZN : Int) ∧ (a0.length : Int) ≤ (a0.length : Int) ∧ (a0.length : Int) ≤ (a0.length : Int)) (F a0 (0, List.replicate (Int.toNat (a0.length : Int)) ([.d (.int .i64 0), .own ([] : LC), .own ([] : LC), .own ([] : LC)] : List C)))
noncomputable def YY.g {β : Type} (k : Nat) (a0 : LD) (K : LC → Option β) : Option β := YY.m k a0 K (fun aA => Zo (YY.l0 k aA K) k)
noncomputable def YY.t (k : Nat) (a0 : LD) : Option (LC) := YY.g k a0 (fun z0 => some z0)
noncomputable def YY.f {β : Type} (k : Nat) (a0 : LD) (K : LC → Option β) : Option β := bd1 (YY.t k a0) K
noncomputable def YY.e (k : Nat) : Zk := ent [.d .l] [1] [.o] [51] false (YY.t k)
noncomputable def YY.p (k : Nat) : Pro := ⟨Tryz.prog, [(11, YaY.e k)], Zn [(3, kp [0, 3, 4])] false [], k⟩
noncomputable def YY.d (k : Nat) (a0 : LD) : Ex → St → Option (LC) := (YY.p k).fin Tryz.f24 [.d (.sl a0)] [1] [.o]
noncomputable def YY.s0 (aA : LD) (v : Int × LC) : St :=
 match v with
 | (aB, aE) => ZX 23 [(0, .d false (.sl aA)), (3, .row 0), (4, .d true (.int .i64 aB))] [.row none true 51 aE]
noncomputable def YY.r0 (k : Nat) (a0 aA : LD) (n : Nat) (v : Int × LC) : Option (LC) := (YY.p k).lp (Zt Tryz.f24) 3 [1, 1, 0, 1, 0] (YY.d k a0) n (YY.s0 aA v)
theorem YY.l0_eq (k : Nat) (a0 aA : LD) : ∀ n v, YY.r0 k a0 aA n v = Zo (YY.l0 k aA (fun z0 => some z0)) n v :=
 Zm (YY.s0 aA) _ fun L0 v => by obtain ⟨aB, aE⟩ := v; kernel_rfl
theorem YY.ok (k : Nat) : Za Tryz.prog 24 (YY.e k) := Zh (YY.p k) mix tyok Tryz.func24 (YaY.ok k) (by kernel_rfl) (fun a0 => Eq.trans (b := YY.m k a0 (fun z0 => some z0) (fun aA => YY.r0 k a0 aA k)) (by kernel_rfl) (congrArg (YY.m k a0 (fun z0 => some z0)) (funext fun aA => funext fun v => YY.l0_eq k a0 aA k v)))
noncomputable def YaS.g {β : Type} (k : Nat) (aC aD : BA) (K : BA → BA → Option β) : Option β :=
 K aC aD
noncomputable def YaS.t (k : Nat) (aC aD : BA) : Option (BA × BA) := YaS.g k aC aD (fun z0 z1 => some (z0, z1))
noncomputable def YaS.f {β : Type} (k : Nat) (aC aD : BA) (K : BA → BA → Option β) : Option β := bd2 (YaS.t k aC aD) K
noncomputable def YaS.e (k : Nat) : Zk := ent [.agg [.s, .s]] [2] [.s, .s] [204] false (YaS.t k)
noncomputable def YaS.p (k : Nat) : Pro := ⟨Tryz.prog, [], Zn [] false [], k⟩
theorem YaS.ok (k : Nat) : Za Tryz.prog 206 (YaS.e k) := Zh (YaS.p k) mix tyok Tryz.func206 trivial (by kernel_rfl) (fun aC aD => by show _ = _; kernel_rfl)
noncomputable def Y7.l0 {β : Type} (k : Nat) (aA : LD) (K : LC → Option β) (L0 : (Int × LC) → Option β) (v : Int × LC) : Option β :=
 match v with
 | (aB, aE) => bif (decide ((aB : Int) < (aA.length : Int))) then (atR aA aB [.s, .s] fun x13 x16 => (YaS.f k x13 x16 (fun y17 y18 => Zc ((0 : Int) ≤ aB ∧ aB < (aE.length : Int)) (Zc (Int.toNat aB < aE.length) (L0 (IntKind.wrap .i64 (aB + 1), aE.modify (Int.toNat aB) fun c => Zq c 0 [.d (.str y17), .d (.str y18)])))))) else (K aE)
noncomputable def Y7.m {β : Type} (k : Nat) (a0 : LD) (K : LC → Option β) (F : (LD → (Int × LC) → Option β)) : Option β :=
 Zc ((0 : Int) ≤ (a0.length : Int) ∧ (a0.length : Int) ≤ (ZN : Int) ∧ (a0.length : Int) ≤ (a0.length : Int) ∧ (a0.length : Int) ≤ (a0.length : Int)) (F a0 (0, List.replicate (Int.toNat (a0.length : Int)) ([.d (.str (⟨#[]⟩ : BA)), .d (.str (⟨#[]⟩ : BA))] : List C)))
noncomputable def Y7.g {β : Type} (k : Nat) (a0 : LD) (K : LC → Option β) : Option β := Y7.m k a0 K (fun aA => Zo (Y7.l0 k aA K) k)
noncomputable def Y7.t (k : Nat) (a0 : LD) : Option (LC) := Y7.g k a0 (fun z0 => some z0)
noncomputable def Y7.f {β : Type} (k : Nat) (a0 : LD) (K : LC → Option β) : Option β := bd1 (Y7.t k a0) K
noncomputable def Y7.e (k : Nat) : Zk := ent [.d .l] [1] [.o] [116] false (Y7.t k)
noncomputable def Y7.p (k : Nat) : Pro := ⟨Tryz.prog, [(206, YaS.e k)], Zn [(3, kp [0, 3, 4])] false [], k⟩
noncomputable def Y7.d (k : Nat) (a0 : LD) : Ex → St → Option (LC) := (Y7.p k).fin Tryz.f140 [.d (.sl a0)] [1] [.o]
noncomputable def Y7.s0 (aA : LD) (v : Int × LC) : St :=
 match v with
 | (aB, aE) => ZX 23 [(0, .d false (.sl aA)), (3, .row 0), (4, .d true (.int .i64 aB))] [.row none true 116 aE]
noncomputable def Y7.r0 (k : Nat) (a0 aA : LD) (n : Nat) (v : Int × LC) : Option (LC) := (Y7.p k).lp (Zt Tryz.f140) 3 [1, 1, 0, 1, 0] (Y7.d k a0) n (Y7.s0 aA v)
theorem Y7.l0_eq (k : Nat) (a0 aA : LD) : ∀ n v, Y7.r0 k a0 aA n v = Zo (Y7.l0 k aA (fun z0 => some z0)) n v :=
 Zm (Y7.s0 aA) _ fun L0 v => by obtain ⟨aB, aE⟩ := v; kernel_rfl
theorem Y7.ok (k : Nat) : Za Tryz.prog 140 (Y7.e k) := Zh (Y7.p k) mix tyok Tryz.func140 (YaS.ok k) (by kernel_rfl) (fun a0 => Eq.trans (b := Y7.m k a0 (fun z0 => some z0) (fun aA => Y7.r0 k a0 aA k)) (by kernel_rfl) (congrArg (Y7.m k a0 (fun z0 => some z0)) (funext fun aA => funext fun v => Y7.l0_eq k a0 aA k v)))
noncomputable def YaM.g {β : Type} (k : Nat) (aC : BA) (aD aF : LD) (aG : Int) (K : BA → LC → LC → Int → Option β) : Option β :=
 Y7.f k aD (fun y19 => YP.f k aF (fun y20 => K aC y19 y20 aG))
noncomputable def YaM.t (k : Nat) (aC : BA) (aD aF : LD) (aG : Int) : Option (BA × LC × LC × Int) := YaM.g k aC aD aF aG (fun z0 z1 z2 z3 => some (z0, z1, z2, z3))
noncomputable def YaM.f {β : Type} (k : Nat) (aC : BA) (aD aF : LD) (aG : Int) (K : BA → LC → LC → Int → Option β) : Option β := bd4 (YaM.t k aC aD aF aG) K
noncomputable def YaM.e (k : Nat) : Zk := ent [.agg [.s, .l, .l, .n]] [4] [.s, .o, .o, .n] [118] false (YaM.t k)
noncomputable def YaM.p (k : Nat) : Pro := ⟨Tryz.prog, [(140, Y7.e k), (66, YP.e k)], Zn [] false [], k⟩
theorem YaM.ok (k : Nat) : Za Tryz.prog 68 (YaM.e k) := Zh (YaM.p k) mix tyok Tryz.func68 ⟨Y7.ok k, YP.ok k⟩ (by kernel_rfl) (fun aC aD aF aG => by show _ = _; kernel_rfl)
noncomputable def YN.l0 {β : Type} (k : Nat) (aA : LD) (K : LC → Option β) (L0 : (Int × LC) → Option β) (v : Int × LC) : Option β :=
 match v with
 | (aB, aE) => bif (decide ((aB : Int) < (aA.length : Int))) then (atR aA aB [.s, .l, .l, .n] fun x28 x31 x34 x37 => (YaM.f k x28 x31 x34 x37 (fun y38 y39 y40 y41 => Zc ((0 : Int) ≤ aB ∧ aB < (aE.length : Int)) (Zc (Int.toNat aB < aE.length) (L0 (IntKind.wrap .i64 (aB + 1), aE.modify (Int.toNat aB) fun c => Zq c 0 [.d (.str y38), .own y39, .own y40, .d (.int .i64 y41)])))))) else (K aE)
noncomputable def YN.m {β : Type} (k : Nat) (a0 : LD) (K : LC → Option β) (F : (LD → (Int × LC) → Option β)) : Option β :=
 Zc ((0 : Int) ≤ (a0.length : Int) ∧ (a0.length : Int) ≤ (ZN : Int) ∧ (a0.length : Int) ≤ (a0.length : Int) ∧ (a0.length : Int) ≤ (a0.length : Int)) (F a0 (0, List.replicate (Int.toNat (a0.length : Int)) ([.d (.str (⟨#[]⟩ : BA)), .own ([] : LC), .own ([] : LC), .d (.int .i64 0)] : List C)))
noncomputable def YN.g {β : Type} (k : Nat) (a0 : LD) (K : LC → Option β) : Option β := YN.m k a0 K (fun aA => Zo (YN.l0 k aA K) k)
noncomputable def YN.t (k : Nat) (a0 : LD) : Option (LC) := YN.g k a0 (fun z0 => some z0)
noncomputable def YN.f {β : Type} (k : Nat) (a0 : LD) (K : LC → Option β) : Option β := bd1 (YN.t k a0) K
noncomputable def YN.e (k : Nat) : Zk := ent [.d .l] [1] [.o] [37] false (YN.t k)
noncomputable def YN.p (k : Nat) : Pro := ⟨Tryz.prog, [(68, YaM.e k)], Zn [(3, kp [0, 3, 4])] false [], k⟩
noncomputable def YN.d (k : Nat) (a0 : LD) : Ex → St → Option (LC) := (YN.p k).fin Tryz.f12 [.d (.sl a0)] [1] [.o]
noncomputable def YN.s0 (aA : LD) (v : Int × LC) : St :=
 match v with
 | (aB, aE) => ZX 23 [(0, .d false (.sl aA)), (3, .row 0), (4, .d true (.int .i64 aB))] [.row none true 37 aE]
noncomputable def YN.r0 (k : Nat) (a0 aA : LD) (n : Nat) (v : Int × LC) : Option (LC) := (YN.p k).lp (Zt Tryz.f12) 3 [1, 1, 0, 1, 0] (YN.d k a0) n (YN.s0 aA v)
theorem YN.l0_eq (k : Nat) (a0 aA : LD) : ∀ n v, YN.r0 k a0 aA n v = Zo (YN.l0 k aA (fun z0 => some z0)) n v :=
 Zm (YN.s0 aA) _ fun L0 v => by obtain ⟨aB, aE⟩ := v; kernel_rfl
theorem YN.ok (k : Nat) : Za Tryz.prog 12 (YN.e k) := Zh (YN.p k) mix tyok Tryz.func12 (YaM.ok k) (by kernel_rfl) (fun a0 => Eq.trans (b := YN.m k a0 (fun z0 => some z0) (fun aA => YN.r0 k a0 aA k)) (by kernel_rfl) (congrArg (YN.m k a0 (fun z0 => some z0)) (funext fun aA => funext fun v => YN.l0_eq k a0 aA k v)))
noncomputable def Yaj.g {β : Type} (k : Nat) (a0 a1 a2 : Int) (K : Bool → Option β) : Option β :=
 bif (decide ((a0 : Int) ≥ a1)) then (K (decide ((a0 : Int) ≤ a2))) else (K false)
noncomputable def Yaj.t (k : Nat) (a0 a1 a2 : Int) : Option (Bool) := Yaj.g k a0 a1 a2 (fun z0 => some z0)
noncomputable def Yaj.f {β : Type} (k : Nat) (a0 a1 a2 : Int) (K : Bool → Option β) : Option β := bd1 (Yaj.t k a0 a1 a2) K
noncomputable def Yaj.e (k : Nat) : Zk := ent [.d .n, .d .n, .d .n] [1] [.b] [4] false (Yaj.t k)
noncomputable def Yaj.p (k : Nat) : Pro := ⟨Tryz.prog, [], Zn [] false [], k⟩
theorem Yaj.ok (k : Nat) : Za Tryz.prog 130 (Yaj.e k) := Zh (Yaj.p k) mix tyok Tryz.func130 trivial (by kernel_rfl) (fun a0 a1 a2 => by show _ = _; kernel_rfl)
noncomputable def Yn.l0 {β : Type} (k : Nat) (aA : BA) (K : Bool → Option β) (L0 : Int → Option β) (v : Int) : Option β :=
 match v with
 | aB => bif (decide ((aB : Int) < (aA.size : Int))) then (Za0 aA aB fun b9 => Yaj.f k (IntKind.wrap .i64 b9) 97 122 (fun y10 => bif (!y10) then (Za0 aA aB fun b11 => Yaj.f k (IntKind.wrap .i64 b11) 48 57 (fun y12 => bif (!y12) then (Za0 aA aB fun b13 => bif ((b13 : Int) != 45) then (K false) else (L0 (IntKind.wrap .i64 (aB + 1)))) else (L0 (IntKind.wrap .i64 (aB + 1))))) else (L0 (IntKind.wrap .i64 (aB + 1))))) else (Yaj.f k (aA.size : Int) 1 20 (fun y14 => bif y14 then (Za0 aA 0 fun b15 => bif ((b15 : Int) != 45) then (Za0 aA (IntKind.wrap .i64 ((aA.size : Int) - 1)) fun b16 => K ((b16 : Int) != 45)) else (K false)) else (K false)))
noncomputable def Yn.m {β : Type} (k : Nat) (a0 : BA) (K : Bool → Option β) (F : (BA → Int → Option β)) : Option β :=
 F a0 (0)
noncomputable def Yn.g {β : Type} (k : Nat) (a0 : BA) (K : Bool → Option β) : Option β :=
 Zo (Yn.l0 k a0 K) k (0)
noncomputable def Yn.t (k : Nat) (a0 : BA) : Option (Bool) := Yn.g k a0 (fun z0 => some z0)
noncomputable def Yn.f {β : Type} (k : Nat) (a0 : BA) (K : Bool → Option β) : Option β := bd1 (Yn.t k a0) K
noncomputable def Yn.e (k : Nat) : Zk := ent [.d .s] [1] [.b] [4] false (Yn.t k)
noncomputable def Yn.p (k : Nat) : Pro := ⟨Tryz.prog, [(130, Yaj.e k)], Zn [(2, kp [0, 3])] false [], k⟩
noncomputable def Yn.d (k : Nat) (a0 : BA) : Ex → St → Option (Bool) := (Yn.p k).fin Tryz.f129 [.d (.str a0)] [1] [.b]
noncomputable def Yn.s0 (aA : BA) (v : Int) : St :=
 match v with
 | aB => ZX 46 [(0, .d false (.str aA)), (3, .d true (.int .i64 aB))] []
noncomputable def Yn.r0 (k : Nat) (a0 aA : BA) (n : Nat) (v : Int) : Option (Bool) := (Yn.p k).lp (Zt Tryz.f129) 2 [1, 0, 1, 0] (Yn.d k a0) n (Yn.s0 aA v)
theorem Yn.l0_eq (k : Nat) (a0 aA : BA) : ∀ n v, Yn.r0 k a0 aA n v = Zo (Yn.l0 k aA (fun z0 => some z0)) n v :=
 Zm (Yn.s0 aA) _ fun L0 v => by kernel_rfl
theorem Yn.ok (k : Nat) : Za Tryz.prog 129 (Yn.e k) := Zh (Yn.p k) mix tyok Tryz.func129 (Yaj.ok k) (by kernel_rfl) (fun a0 => Eq.trans (b := Yn.m k a0 (fun z0 => some z0) (fun aA => Yn.r0 k a0 aA k)) (by kernel_rfl) (congrArg (Yn.m k a0 (fun z0 => some z0)) (funext fun aA => funext fun v => Yn.l0_eq k a0 aA k v)))
noncomputable def Yad.l0 {β : Type} (k : Nat) (aA aE : Int) (aH : BA) (aI : LD) (K : Bool → Option β) (L0 : Int → Option β) (v : Int) : Option β :=
 match v with
 | aB => bif (decide ((aB : Int) < aA)) then (atR aI aB [.s] fun x20 => (Yn.f k x20 (fun y21 => bif (!y21) then (K false) else (bif (decide ((aB : Int) > 0)) then (atR aI (IntKind.wrap .i64 (aB - 1)) [.s] fun x25 => (atR aI aB [.s] fun x29 => (bif (!(ZbO x25 x29)) then (K false) else (L0 (IntKind.wrap .i64 (aB + 1)))))) else (L0 (IntKind.wrap .i64 (aB + 1))))))) else (Yn.f k aH (fun y30 => bif (!y30) then (K false) else (let J0 := (bif ((aE : Int) == 4) then (bif ((aE : Int) == 4) then (K ((aA : Int) == 0)) else (K false)) else (bif ((aE : Int) == 5) then (K ((aA : Int) == 0)) else (K false))); bif ((aE : Int) == 1) then (bif ((aE : Int) == 1) then (K ((aA : Int) == 1)) else (bif ((aE : Int) == 3) then (Yaj.f k aA 1 6 (fun y31 => K y31)) else J0)) else (bif ((aE : Int) == 2) then (K ((aA : Int) == 1)) else (bif ((aE : Int) == 3) then (Yaj.f k aA 1 6 (fun y32 => K y32)) else J0)))))
noncomputable def Yad.m {β : Type} (k : Nat) (aC : Int) (aD : BA) (aF : LD) (K : Bool → Option β) (F : (Int → Int → BA → LD → Int → Option β)) : Option β :=
 F (aF.length : Int) aC aD aF (0)
noncomputable def Yad.g {β : Type} (k : Nat) (aC : Int) (aD : BA) (aF : LD) (K : Bool → Option β) : Option β :=
 Zo (Yad.l0 k (aF.length : Int) aC aD aF K) k (0)
noncomputable def Yad.t (k : Nat) (aC : Int) (aD : BA) (aF : LD) : Option (Bool) := Yad.g k aC aD aF (fun z0 => some z0)
noncomputable def Yad.f {β : Type} (k : Nat) (aC : Int) (aD : BA) (aF : LD) (K : Bool → Option β) : Option β := bd1 (Yad.t k aC aD aF) K
noncomputable def Yad.e (k : Nat) : Zk := ent [.agg [.n, .s, .l]] [1] [.b] [4] false (Yad.t k)
noncomputable def Yad.p (k : Nat) : Pro := ⟨Tryz.prog, [(129, Yn.e k), (130, Yaj.e k)], Zn [(3, kp [1, 3, 4])] false [], k⟩
noncomputable def Yad.d (k : Nat) (aC : Int) (aD : BA) (aF : LD) : Ex → St → Option (Bool) := (Yad.p k).fin Tryz.f203 [.agg [.int .i64 aC, .str aD, .sl aF]] [1] [.b]
noncomputable def Yad.s0 (aA aE : Int) (aH : BA) (aI : LD) (v : Int) : St :=
 match v with
 | aB => ZX 58 [(1, .bp 0 0), (3, .d true (.int .i64 aA)), (4, .d true (.int .i64 aB))] [.box none 191 [.d false (.int .i64 aE), .d false (.str aH), .d false (.sl aI)]]
noncomputable def Yad.r0 (k : Nat) (aC : Int) (aD : BA) (aF : LD) (aA aE : Int) (aH : BA) (aI : LD) (n : Nat) (v : Int) : Option (Bool) := (Yad.p k).lp (Zt Tryz.f203) 3 [1, 1, 0, 1, 0] (Yad.d k aC aD aF) n (Yad.s0 aA aE aH aI v)
theorem Yad.l0_eq (k : Nat) (aC : Int) (aD : BA) (aF : LD) (aA aE : Int) (aH : BA) (aI : LD) : ∀ n v, Yad.r0 k aC aD aF aA aE aH aI n v = Zo (Yad.l0 k aA aE aH aI (fun z0 => some z0)) n v :=
 Zm (Yad.s0 aA aE aH aI) _ fun L0 v => by kernel_rfl
theorem Yad.ok (k : Nat) : Za Tryz.prog 203 (Yad.e k) := Zh (Yad.p k) mix tyok Tryz.func203 ⟨Yn.ok k, Yaj.ok k⟩ (by kernel_rfl) (fun aC aD aF => Eq.trans (b := Yad.m k aC aD aF (fun z0 => some z0) (fun aA aE aH aI => Yad.r0 k aC aD aF aA aE aH aI k)) (by kernel_rfl) (congrArg (Yad.m k aC aD aF (fun z0 => some z0)) (funext fun aA => funext fun aE => funext fun aH => funext fun aI => funext fun v => Yad.l0_eq k aC aD aF aA aE aH aI k v)))
noncomputable def Yr.l0 {β : Type} (k : Nat) (aA : LD) (K : Bool → Option β) (L0 : Int → Option β) (v : Int) : Option β :=
 match v with
 | aB => bif (decide ((aB : Int) < (aA.length : Int))) then (atR aA aB [.n, .s, .l] fun x37 x40 x43 => (Yad.f k x37 x40 x43 (fun y44 => bif (!y44) then (K false) else (L0 (IntKind.wrap .i64 (aB + 1)))))) else (K (decide (((aA.length : Int) : Int) ≤ 8)))
noncomputable def Yr.m {β : Type} (k : Nat) (a0 : LD) (K : Bool → Option β) (F : (LD → Int → Option β)) : Option β :=
 F a0 (0)
noncomputable def Yr.g {β : Type} (k : Nat) (a0 : LD) (K : Bool → Option β) : Option β :=
 Zo (Yr.l0 k a0 K) k (0)
noncomputable def Yr.t (k : Nat) (a0 : LD) : Option (Bool) := Yr.g k a0 (fun z0 => some z0)
noncomputable def Yr.f {β : Type} (k : Nat) (a0 : LD) (K : Bool → Option β) : Option β := bd1 (Yr.t k a0) K
noncomputable def Yr.e (k : Nat) : Zk := ent [.d .l] [1] [.b] [4] false (Yr.t k)
noncomputable def Yr.p (k : Nat) : Pro := ⟨Tryz.prog, [(203, Yad.e k)], Zn [(2, kp [0, 3])] false [], k⟩
noncomputable def Yr.d (k : Nat) (a0 : LD) : Ex → St → Option (Bool) := (Yr.p k).fin Tryz.f131 [.d (.sl a0)] [1] [.b]
noncomputable def Yr.s0 (aA : LD) (v : Int) : St :=
 match v with
 | aB => ZX 19 [(0, .d false (.sl aA)), (3, .d true (.int .i64 aB))] []
noncomputable def Yr.r0 (k : Nat) (a0 aA : LD) (n : Nat) (v : Int) : Option (Bool) := (Yr.p k).lp (Zt Tryz.f131) 2 [1, 0, 1, 0] (Yr.d k a0) n (Yr.s0 aA v)
theorem Yr.l0_eq (k : Nat) (a0 aA : LD) : ∀ n v, Yr.r0 k a0 aA n v = Zo (Yr.l0 k aA (fun z0 => some z0)) n v :=
 Zm (Yr.s0 aA) _ fun L0 v => by kernel_rfl
theorem Yr.ok (k : Nat) : Za Tryz.prog 131 (Yr.e k) := Zh (Yr.p k) mix tyok Tryz.func131 (Yad.ok k) (by kernel_rfl) (fun a0 => Eq.trans (b := Yr.m k a0 (fun z0 => some z0) (fun aA => Yr.r0 k a0 aA k)) (by kernel_rfl) (congrArg (Yr.m k a0 (fun z0 => some z0)) (funext fun aA => funext fun v => Yr.l0_eq k a0 aA k v)))
noncomputable def YM.l0 {β : Type} (k : Nat) (aA : LD) (aB : Int) (K : Bool → Option β) (L0 : Int → Option β) (v : Int) : Option β :=
 match v with
 | aE => bif (decide ((aE : Int) < (aA.length : Int))) then (atR aA aE [.s] fun x17 => (Yn.f k x17 (fun y18 => bif (!y18) then (K false) else (bif (decide ((aE : Int) > 0)) then (atR aA (IntKind.wrap .i64 (aE - 1)) [.s] fun x22 => (atR aA aE [.s] fun x26 => (bif (!(ZbO x22 x26)) then (K false) else (L0 (IntKind.wrap .i64 (aE + 1)))))) else (L0 (IntKind.wrap .i64 (aE + 1))))))) else (K (decide (((aA.length : Int) : Int) ≤ aB)))
noncomputable def YM.m {β : Type} (k : Nat) (a0 : LD) (a1 : Int) (K : Bool → Option β) (F : (LD → Int → Int → Option β)) : Option β :=
 F a0 a1 (0)
noncomputable def YM.g {β : Type} (k : Nat) (a0 : LD) (a1 : Int) (K : Bool → Option β) : Option β :=
 Zo (YM.l0 k a0 a1 K) k (0)
noncomputable def YM.t (k : Nat) (a0 : LD) (a1 : Int) : Option (Bool) := YM.g k a0 a1 (fun z0 => some z0)
noncomputable def YM.f {β : Type} (k : Nat) (a0 : LD) (a1 : Int) (K : Bool → Option β) : Option β := bd1 (YM.t k a0 a1) K
noncomputable def YM.e (k : Nat) : Zk := ent [.d .l, .d .n] [1] [.b] [4] false (YM.t k)
noncomputable def YM.p (k : Nat) : Pro := ⟨Tryz.prog, [(129, Yn.e k)], Zn [(2, kp [0, 1, 5])] false [], k⟩
noncomputable def YM.d (k : Nat) (a0 : LD) (a1 : Int) : Ex → St → Option (Bool) := (YM.p k).fin Tryz.f132 [.d (.sl a0), .d (.int .i64 a1)] [1] [.b]
noncomputable def YM.s0 (aA : LD) (aB v : Int) : St :=
 match v with
 | aE => ZX 38 [(0, .d false (.sl aA)), (1, .d false (.int .i64 aB)), (5, .d true (.int .i64 aE))] []
noncomputable def YM.r0 (k : Nat) (a0 : LD) (a1 : Int) (aA : LD) (aB : Int) (n : Nat) (v : Int) : Option (Bool) := (YM.p k).lp (Zt Tryz.f132) 2 [1, 0, 1, 0] (YM.d k a0 a1) n (YM.s0 aA aB v)
theorem YM.l0_eq (k : Nat) (a0 : LD) (a1 : Int) (aA : LD) (aB : Int) : ∀ n v, YM.r0 k a0 a1 aA aB n v = Zo (YM.l0 k aA aB (fun z0 => some z0)) n v :=
 Zm (YM.s0 aA aB) _ fun L0 v => by kernel_rfl
theorem YM.ok (k : Nat) : Za Tryz.prog 132 (YM.e k) := Zh (YM.p k) mix tyok Tryz.func132 (Yn.ok k) (by kernel_rfl) (fun a0 a1 => Eq.trans (b := YM.m k a0 a1 (fun z0 => some z0) (fun aA aB => YM.r0 k a0 a1 aA aB k)) (by kernel_rfl) (congrArg (YM.m k a0 a1 (fun z0 => some z0)) (funext fun aA => funext fun aB => funext fun v => YM.l0_eq k a0 a1 aA aB k v)))
noncomputable def Yz.l0 {β : Type} (k : Nat) (aB : Int) (aE aH aI : LD) (K : Bool → Option β) (L0 : Int → Option β) (v : Int) : Option β :=
 match v with
 | aA => bif (decide ((aA : Int) < (aI.length : Int))) then (atR aI aA [.s, .n] fun x50 x53 => (Yn.f k x50 (fun y54 => bif (!y54) then (K false) else (atR aI aA [.s, .n] fun x58 x61 => (Yaj.f k x61 0 1000 (fun y62 => bif (!y62) then (K false) else (bif (decide ((aA : Int) > 0)) then (atR aI (IntKind.wrap .i64 (aA - 1)) [.s, .n] fun x66 x69 => (atR aI aA [.s, .n] fun x73 x76 => (bif (!(ZbO x66 x73)) then (K false) else (L0 (IntKind.wrap .i64 (aA + 1)))))) else (L0 (IntKind.wrap .i64 (aA + 1)))))))))) else (Yaj.f k aB 0 10000 (fun y77 => bif y77 then (Yr.f k aE (fun y78 => bif y78 then (YM.f k aH 8 (fun y79 => bif y79 then (K (decide (((aI.length : Int) : Int) ≤ 12))) else (K false))) else (K false))) else (K false)))
noncomputable def Yz.m {β : Type} (k : Nat) (aC : Int) (aD aF aG : LD) (K : Bool → Option β) (F : (Int → LD → LD → LD → Int → Option β)) : Option β :=
 F aC aD aF aG (0)
noncomputable def Yz.g {β : Type} (k : Nat) (aC : Int) (aD aF aG : LD) (K : Bool → Option β) : Option β :=
 Zo (Yz.l0 k aC aD aF aG K) k (0)
noncomputable def Yz.t (k : Nat) (aC : Int) (aD aF aG : LD) : Option (Bool) := Yz.g k aC aD aF aG (fun z0 => some z0)
noncomputable def Yz.f {β : Type} (k : Nat) (aC : Int) (aD aF aG : LD) (K : Bool → Option β) : Option β := bd1 (Yz.t k aC aD aF aG) K
noncomputable def Yz.e (k : Nat) : Zk := ent [.agg [.n, .l, .l, .l]] [1] [.b] [4] false (Yz.t k)
noncomputable def Yz.p (k : Nat) : Pro := ⟨Tryz.prog, [(129, Yn.e k), (130, Yaj.e k), (131, Yr.e k), (132, YM.e k)], Zn [(2, kp [1, 3])] false [], k⟩
noncomputable def Yz.d (k : Nat) (aC : Int) (aD aF aG : LD) : Ex → St → Option (Bool) := (Yz.p k).fin Tryz.f60 [.agg [.int .i64 aC, .sl aD, .sl aF, .sl aG]] [1] [.b]
noncomputable def Yz.s0 (aB : Int) (aE aH aI : LD) (v : Int) : St :=
 match v with
 | aA => ZX 68 [(1, .bp 0 0), (3, .d true (.int .i64 aA))] [.box none 35 [.d false (.int .i64 aB), .d false (.sl aE), .d false (.sl aH), .d false (.sl aI)]]
noncomputable def Yz.r0 (k : Nat) (aC : Int) (aD aF aG : LD) (aB : Int) (aE aH aI : LD) (n : Nat) (v : Int) : Option (Bool) := (Yz.p k).lp (Zt Tryz.f60) 2 [1, 0, 1, 0] (Yz.d k aC aD aF aG) n (Yz.s0 aB aE aH aI v)
theorem Yz.l0_eq (k : Nat) (aC : Int) (aD aF aG : LD) (aB : Int) (aE aH aI : LD) : ∀ n v, Yz.r0 k aC aD aF aG aB aE aH aI n v = Zo (Yz.l0 k aB aE aH aI (fun z0 => some z0)) n v :=
 Zm (Yz.s0 aB aE aH aI) _ fun L0 v => by kernel_rfl
theorem Yz.ok (k : Nat) : Za Tryz.prog 60 (Yz.e k) := Zh (Yz.p k) mix tyok Tryz.func60 ⟨Yn.ok k, Yaj.ok k, Yr.ok k, YM.ok k⟩ (by kernel_rfl) (fun aC aD aF aG => Eq.trans (b := Yz.m k aC aD aF aG (fun z0 => some z0) (fun aB aE aH aI => Yz.r0 k aC aD aF aG aB aE aH aI k)) (by kernel_rfl) (congrArg (Yz.m k aC aD aF aG (fun z0 => some z0)) (funext fun aB => funext fun aE => funext fun aH => funext fun aI => funext fun v => Yz.l0_eq k aC aD aF aG aB aE aH aI k v)))
noncomputable def YF.l0 {β : Type} (k : Nat) (aA : LD) (K : Bool → Option β) (L0 : Int → Option β) (v : Int) : Option β :=
 match v with
 | aB => bif (decide ((aB : Int) < (aA.length : Int))) then (atR aA aB [.s, .s] fun x34 x37 => (Yn.f k x34 (fun y38 => bif (!y38) then (K false) else (atR aA aB [.s, .s] fun x42 x45 => (Yn.f k x45 (fun y46 => bif (!y46) then (K false) else (bif (decide ((aB : Int) > 0)) then (atR aA (IntKind.wrap .i64 (aB - 1)) [.s, .s] fun x50 x53 => (atR aA aB [.s, .s] fun x57 x60 => (bif (!(ZbO x50 x57)) then (K false) else (L0 (IntKind.wrap .i64 (aB + 1)))))) else (L0 (IntKind.wrap .i64 (aB + 1)))))))))) else (K (decide (((aA.length : Int) : Int) ≤ 8)))
noncomputable def YF.m {β : Type} (k : Nat) (a0 : LD) (K : Bool → Option β) (F : (LD → Int → Option β)) : Option β :=
 F a0 (0)
noncomputable def YF.g {β : Type} (k : Nat) (a0 : LD) (K : Bool → Option β) : Option β :=
 Zo (YF.l0 k a0 K) k (0)
noncomputable def YF.t (k : Nat) (a0 : LD) : Option (Bool) := YF.g k a0 (fun z0 => some z0)
noncomputable def YF.f {β : Type} (k : Nat) (a0 : LD) (K : Bool → Option β) : Option β := bd1 (YF.t k a0) K
noncomputable def YF.e (k : Nat) : Zk := ent [.d .l] [1] [.b] [4] false (YF.t k)
noncomputable def YF.p (k : Nat) : Pro := ⟨Tryz.prog, [(129, Yn.e k)], Zn [(2, kp [0, 3])] false [], k⟩
noncomputable def YF.d (k : Nat) (a0 : LD) : Ex → St → Option (Bool) := (YF.p k).fin Tryz.f133 [.d (.sl a0)] [1] [.b]
noncomputable def YF.s0 (aA : LD) (v : Int) : St :=
 match v with
 | aB => ZX 47 [(0, .d false (.sl aA)), (3, .d true (.int .i64 aB))] []
noncomputable def YF.r0 (k : Nat) (a0 aA : LD) (n : Nat) (v : Int) : Option (Bool) := (YF.p k).lp (Zt Tryz.f133) 2 [1, 0, 1, 0] (YF.d k a0) n (YF.s0 aA v)
theorem YF.l0_eq (k : Nat) (a0 aA : LD) : ∀ n v, YF.r0 k a0 aA n v = Zo (YF.l0 k aA (fun z0 => some z0)) n v :=
 Zm (YF.s0 aA) _ fun L0 v => by kernel_rfl
theorem YF.ok (k : Nat) : Za Tryz.prog 133 (YF.e k) := Zh (YF.p k) mix tyok Tryz.func133 (Yn.ok k) (by kernel_rfl) (fun a0 => Eq.trans (b := YF.m k a0 (fun z0 => some z0) (fun aA => YF.r0 k a0 aA k)) (by kernel_rfl) (congrArg (YF.m k a0 (fun z0 => some z0)) (funext fun aA => funext fun v => YF.l0_eq k a0 aA k v)))
noncomputable def YO.g {β : Type} (k : Nat) (aC : BA) (aD aF : LD) (aG : Int) (K : Bool → Option β) : Option β :=
 Yn.f k aC (fun y1 => bif y1 then (YF.f k aD (fun y61 => bif y61 then (YM.f k aF 4 (fun y62 => bif y62 then (Yaj.f k aG 0 10000 (fun y63 => K y63)) else (K false))) else (K false))) else (K false))
noncomputable def YO.t (k : Nat) (aC : BA) (aD aF : LD) (aG : Int) : Option (Bool) := YO.g k aC aD aF aG (fun z0 => some z0)
noncomputable def YO.f {β : Type} (k : Nat) (aC : BA) (aD aF : LD) (aG : Int) (K : Bool → Option β) : Option β := bd1 (YO.t k aC aD aF aG) K
noncomputable def YO.e (k : Nat) : Zk := ent [.agg [.s, .l, .l, .n]] [1] [.b] [4] false (YO.t k)
noncomputable def YO.p (k : Nat) : Pro := ⟨Tryz.prog, [(129, Yn.e k), (133, YF.e k), (132, YM.e k), (130, Yaj.e k)], Zn [] false [], k⟩
theorem YO.ok (k : Nat) : Za Tryz.prog 61 (YO.e k) := Zh (YO.p k) mix tyok Tryz.func61 ⟨Yn.ok k, YF.ok k, YM.ok k, Yaj.ok k⟩ (by kernel_rfl) (fun aC aD aF aG => by show _ = _; kernel_rfl)
noncomputable def Yx.l0 {β : Type} (k : Nat) (aA : LD) (aB : BA) (K : BA → Bool → Option β) (L0 : Int → Option β) (v : Int) : Option β :=
 match v with
 | aE => bif (decide ((aE : Int) < (aA.length : Int))) then (atR aA aE [.s, .s] fun x18 x21 => (bif (Zae x18 aB) then (atR aA aE [.s, .s] fun x25 x28 => (K x28 true)) else (L0 (IntKind.wrap .i64 (aE + 1))))) else (K (⟨#[]⟩ : BA) false)
noncomputable def Yx.m {β : Type} (k : Nat) (a0 : LD) (a1 : BA) (K : BA → Bool → Option β) (F : (LD → BA → Int → Option β)) : Option β :=
 F a0 a1 (0)
noncomputable def Yx.g {β : Type} (k : Nat) (a0 : LD) (a1 : BA) (K : BA → Bool → Option β) : Option β :=
 Zo (Yx.l0 k a0 a1 K) k (0)
noncomputable def Yx.t (k : Nat) (a0 : LD) (a1 : BA) : Option (BA × Bool) := Yx.g k a0 a1 (fun z0 z1 => some (z0, z1))
noncomputable def Yx.f {β : Type} (k : Nat) (a0 : LD) (a1 : BA) (K : BA → Bool → Option β) : Option β := bd2 (Yx.t k a0 a1) K
noncomputable def Yx.e (k : Nat) : Zk := ent [.d .l, .d .s] [1, 1] [.s, .b] [9, 4] false (Yx.t k)
noncomputable def Yx.p (k : Nat) : Pro := ⟨Tryz.prog, [], Zn [(2, kp [0, 1, 6])] false [], k⟩
noncomputable def Yx.d (k : Nat) (a0 : LD) (a1 : BA) : Ex → St → Option (BA × Bool) := (Yx.p k).fin Tryz.f204 [.d (.sl a0), .d (.str a1)] [1, 1] [.s, .b]
noncomputable def Yx.s0 (aA : LD) (aB : BA) (v : Int) : St :=
 match v with
 | aE => ZX 25 [(0, .d false (.sl aA)), (1, .d false (.str aB)), (6, .d true (.int .i64 aE))] []
noncomputable def Yx.r0 (k : Nat) (a0 : LD) (a1 : BA) (aA : LD) (aB : BA) (n : Nat) (v : Int) : Option (BA × Bool) := (Yx.p k).lp (Zt Tryz.f204) 2 [1, 0, 1, 0] (Yx.d k a0 a1) n (Yx.s0 aA aB v)
theorem Yx.l0_eq (k : Nat) (a0 : LD) (a1 : BA) (aA : LD) (aB : BA) : ∀ n v, Yx.r0 k a0 a1 aA aB n v = Zo (Yx.l0 k aA aB (fun z0 z1 => some (z0, z1))) n v :=
 Zm (Yx.s0 aA aB) _ fun L0 v => by kernel_rfl
theorem Yx.ok (k : Nat) : Za Tryz.prog 204 (Yx.e k) := Zh (Yx.p k) mix tyok Tryz.func204 trivial (by kernel_rfl) (fun a0 a1 => Eq.trans (b := Yx.m k a0 a1 (fun z0 z1 => some (z0, z1)) (fun aA aB => Yx.r0 k a0 a1 aA aB k)) (by kernel_rfl) (congrArg (Yx.m k a0 a1 (fun z0 z1 => some (z0, z1))) (funext fun aA => funext fun aB => funext fun v => Yx.l0_eq k a0 a1 aA aB k v)))
noncomputable def YL.l0 {β : Type} (k : Nat) (aA : LD) (aB : BA) (K : Bool → Option β) (L0 : Int → Option β) (v : Int) : Option β :=
 match v with
 | aE => bif (decide ((aE : Int) < (aA.length : Int))) then (atR aA aE [.s] fun x8 => (bif (Zae x8 aB) then (K true) else (L0 (IntKind.wrap .i64 (aE + 1))))) else (K false)
noncomputable def YL.m {β : Type} (k : Nat) (a0 : LD) (a1 : BA) (K : Bool → Option β) (F : (LD → BA → Int → Option β)) : Option β :=
 F a0 a1 (0)
noncomputable def YL.g {β : Type} (k : Nat) (a0 : LD) (a1 : BA) (K : Bool → Option β) : Option β :=
 Zo (YL.l0 k a0 a1 K) k (0)
noncomputable def YL.t (k : Nat) (a0 : LD) (a1 : BA) : Option (Bool) := YL.g k a0 a1 (fun z0 => some z0)
noncomputable def YL.f {β : Type} (k : Nat) (a0 : LD) (a1 : BA) (K : Bool → Option β) : Option β := bd1 (YL.t k a0 a1) K
noncomputable def YL.e (k : Nat) : Zk := ent [.d .l, .d .s] [1] [.b] [4] false (YL.t k)
noncomputable def YL.p (k : Nat) : Pro := ⟨Tryz.prog, [], Zn [(2, kp [0, 1, 5])] false [], k⟩
noncomputable def YL.d (k : Nat) (a0 : LD) (a1 : BA) : Ex → St → Option (Bool) := (YL.p k).fin Tryz.f135 [.d (.sl a0), .d (.str a1)] [1] [.b]
noncomputable def YL.s0 (aA : LD) (aB : BA) (v : Int) : St :=
 match v with
 | aE => ZX 18 [(0, .d false (.sl aA)), (1, .d false (.str aB)), (5, .d true (.int .i64 aE))] []
noncomputable def YL.r0 (k : Nat) (a0 : LD) (a1 : BA) (aA : LD) (aB : BA) (n : Nat) (v : Int) : Option (Bool) := (YL.p k).lp (Zt Tryz.f135) 2 [1, 0, 1, 0] (YL.d k a0 a1) n (YL.s0 aA aB v)
theorem YL.l0_eq (k : Nat) (a0 : LD) (a1 : BA) (aA : LD) (aB : BA) : ∀ n v, YL.r0 k a0 a1 aA aB n v = Zo (YL.l0 k aA aB (fun z0 => some z0)) n v :=
 Zm (YL.s0 aA aB) _ fun L0 v => by kernel_rfl
theorem YL.ok (k : Nat) : Za Tryz.prog 135 (YL.e k) := Zh (YL.p k) mix tyok Tryz.func135 trivial (by kernel_rfl) (fun a0 a1 => Eq.trans (b := YL.m k a0 a1 (fun z0 => some z0) (fun aA aB => YL.r0 k a0 a1 aA aB k)) (by kernel_rfl) (congrArg (YL.m k a0 a1 (fun z0 => some z0)) (funext fun aA => funext fun aB => funext fun v => YL.l0_eq k a0 a1 aA aB k v)))
noncomputable def Yaz.g {β : Type} (k : Nat) (aC : Int) (aD : BA) (aF : LD) (a1 : BA) (a2 : Bool) (K : Bool → Option β) : Option β :=
 bif ((aC : Int) == 1) then (bif ((aC : Int) == 1) then (bif a2 then (YL.f k aF a1 (fun y9 => K y9)) else (K false)) else (bif ((aC : Int) == 2) then (bif (!a2) then (K true) else (YL.f k aF a1 (fun y10 => K (!y10)))) else (bif ((aC : Int) == 4) then (K a2) else (K (!a2))))) else (bif ((aC : Int) == 3) then (bif a2 then (YL.f k aF a1 (fun y11 => K y11)) else (K false)) else (bif ((aC : Int) == 2) then (bif (!a2) then (K true) else (YL.f k aF a1 (fun y12 => K (!y12)))) else (bif ((aC : Int) == 4) then (K a2) else (K (!a2)))))
noncomputable def Yaz.t (k : Nat) (aC : Int) (aD : BA) (aF : LD) (a1 : BA) (a2 : Bool) : Option (Bool) := Yaz.g k aC aD aF a1 a2 (fun z0 => some z0)
noncomputable def Yaz.f {β : Type} (k : Nat) (aC : Int) (aD : BA) (aF : LD) (a1 : BA) (a2 : Bool) (K : Bool → Option β) : Option β := bd1 (Yaz.t k aC aD aF a1 a2) K
noncomputable def Yaz.e (k : Nat) : Zk := ent [.agg [.n, .s, .l], .d .s, .d .b] [1] [.b] [4] false (Yaz.t k)
noncomputable def Yaz.p (k : Nat) : Pro := ⟨Tryz.prog, [(135, YL.e k)], Zn [] false [], k⟩
theorem Yaz.ok (k : Nat) : Za Tryz.prog 205 (Yaz.e k) := Zh (Yaz.p k) mix tyok Tryz.func205 (YL.ok k) (by kernel_rfl) (fun aC aD aF a1 a2 => by show _ = _; kernel_rfl)
noncomputable def YK.l0 {β : Type} (k : Nat) (aA aB : LD) (K : Bool → Option β) (L0 : Int → Option β) (v : Int) : Option β :=
 match v with
 | aE => bif (decide ((aE : Int) < (aA.length : Int))) then (atR aA aE [.n, .s, .l] fun x45 x48 x51 => (Yx.f k aB x48 (fun y52 y53 => atR aA aE [.n, .s, .l] fun x57 x60 x63 => (Yaz.f k x57 x60 x63 y52 y53 (fun y64 => bif (!y64) then (K false) else (L0 (IntKind.wrap .i64 (aE + 1)))))))) else (K true)
noncomputable def YK.m {β : Type} (k : Nat) (a0 a1 : LD) (K : Bool → Option β) (F : (LD → LD → Int → Option β)) : Option β :=
 Yr.f k a0 (fun y1 => bif (!y1) then (K false) else (YF.f k a1 (fun y2 => bif (!y2) then (K false) else (F a0 a1 (0)))))
noncomputable def YK.g {β : Type} (k : Nat) (a0 a1 : LD) (K : Bool → Option β) : Option β :=
 Yr.f k a0 (fun y1 => bif (!y1) then (K false) else (YF.f k a1 (fun y2 => bif (!y2) then (K false) else (Zo (YK.l0 k a0 a1 K) k (0)))))
noncomputable def YK.t (k : Nat) (a0 a1 : LD) : Option (Bool) := YK.g k a0 a1 (fun z0 => some z0)
noncomputable def YK.f {β : Type} (k : Nat) (a0 a1 : LD) (K : Bool → Option β) : Option β := bd1 (YK.t k a0 a1) K
noncomputable def YK.e (k : Nat) : Zk := ent [.d .l, .d .l] [1] [.b] [4] false (YK.t k)
noncomputable def YK.p (k : Nat) : Pro := ⟨Tryz.prog, [(131, Yr.e k), (133, YF.e k), (204, Yx.e k), (205, Yaz.e k)], Zn [(4, kp [0, 1, 5])] false [], k⟩
noncomputable def YK.d (k : Nat) (a0 a1 : LD) : Ex → St → Option (Bool) := (YK.p k).fin Tryz.f134 [.d (.sl a0), .d (.sl a1)] [1] [.b]
noncomputable def YK.s0 (aA aB : LD) (v : Int) : St :=
 match v with
 | aE => ZX 40 [(0, .d false (.sl aA)), (1, .d false (.sl aB)), (5, .d true (.int .i64 aE))] []
noncomputable def YK.r0 (k : Nat) (a0 a1 aA aB : LD) (n : Nat) (v : Int) : Option (Bool) := (YK.p k).lp (Zt Tryz.f134) 4 [1, 1, 0, 1, 0] (YK.d k a0 a1) n (YK.s0 aA aB v)
theorem YK.l0_eq (k : Nat) (a0 a1 aA aB : LD) : ∀ n v, YK.r0 k a0 a1 aA aB n v = Zo (YK.l0 k aA aB (fun z0 => some z0)) n v :=
 Zm (YK.s0 aA aB) _ fun L0 v => by kernel_rfl
theorem YK.ok (k : Nat) : Za Tryz.prog 134 (YK.e k) := Zh (YK.p k) mix tyok Tryz.func134 ⟨Yr.ok k, YF.ok k, Yx.ok k, Yaz.ok k⟩ (by kernel_rfl) (fun a0 a1 => Eq.trans (b := YK.m k a0 a1 (fun z0 => some z0) (fun aA aB => YK.r0 k a0 a1 aA aB k)) (by kernel_rfl) (congrArg (YK.m k a0 a1 (fun z0 => some z0)) (funext fun aA => funext fun aB => funext fun v => YK.l0_eq k a0 a1 aA aB k v)))
noncomputable def YH.l0 {β : Type} (k : Nat) (aB : Int) (aE aH aI : LD) (aJ : BA) (aO aY : LD) (bP : Int) (K : Bool → Option β) (L0 : Int → Option β) (v : Int) : Option β :=
 match v with
 | aA => bif (decide ((aA : Int) < (aY.length : Int))) then (atR aY aA [.s] fun x74 => (YL.f k aH x74 (fun y75 => bif (!y75) then (K false) else (L0 (IntKind.wrap .i64 (aA + 1)))))) else (K true)
noncomputable def YH.m {β : Type} (k : Nat) (aC : Int) (aD aF aG : LD) (aX : BA) (aW aZ : LD) (bE : Int) (K : Bool → Option β) (F : (Int → LD → LD → LD → BA → LD → LD → Int → Int → Option β)) : Option β :=
 Yz.f k aC aD aF aG (fun y1 => bif (!y1) then (K false) else (YO.f k aX aW aZ bE (fun y2 => bif (!y2) then (K false) else (YK.f k aD aW (fun y65 => bif (!y65) then (K false) else (F aC aD aF aG aX aW aZ bE (0)))))))
noncomputable def YH.g {β : Type} (k : Nat) (aC : Int) (aD aF aG : LD) (aX : BA) (aW aZ : LD) (bE : Int) (K : Bool → Option β) : Option β := YH.m k aC aD aF aG aX aW aZ bE K (fun aB aE aH aI aJ aO aY bP => Zo (YH.l0 k aB aE aH aI aJ aO aY bP K) k)
noncomputable def YH.t (k : Nat) (aC : Int) (aD aF aG : LD) (aX : BA) (aW aZ : LD) (bE : Int) : Option (Bool) := YH.g k aC aD aF aG aX aW aZ bE (fun z0 => some z0)
noncomputable def YH.f {β : Type} (k : Nat) (aC : Int) (aD aF aG : LD) (aX : BA) (aW aZ : LD) (bE : Int) (K : Bool → Option β) : Option β := bd1 (YH.t k aC aD aF aG aX aW aZ bE) K
noncomputable def YH.e (k : Nat) : Zk := ent [.agg [.n, .l, .l, .l], .agg [.s, .l, .l, .n]] [1] [.b] [4] false (YH.t k)
noncomputable def YH.p (k : Nat) : Pro := ⟨Tryz.prog, [(60, Yz.e k), (61, YO.e k), (134, YK.e k), (135, YL.e k)], Zn [(4, kp [2, 3, 5])] false [], k⟩
noncomputable def YH.d (k : Nat) (aC : Int) (aD aF aG : LD) (aX : BA) (aW aZ : LD) (bE : Int) : Ex → St → Option (Bool) := (YH.p k).fin Tryz.f62 [.agg [.int .i64 aC, .sl aD, .sl aF, .sl aG], .agg [.str aX, .sl aW, .sl aZ, .int .i64 bE]] [1] [.b]
noncomputable def YH.s0 (aB : Int) (aE aH aI : LD) (aJ : BA) (aO aY : LD) (bP v : Int) : St :=
 match v with
 | aA => ZX 38 [(2, .bp 0 0), (3, .bp 1 0), (5, .d true (.int .i64 aA))] [.box none 35 [.d false (.int .i64 aB), .d false (.sl aE), .d false (.sl aH), .d false (.sl aI)], .box none 118 [.d false (.str aJ), .d false (.sl aO), .d false (.sl aY), .d false (.int .i64 bP)]]
noncomputable def YH.r0 (k : Nat) (aC : Int) (aD aF aG : LD) (aX : BA) (aW aZ : LD) (bE aB : Int) (aE aH aI : LD) (aJ : BA) (aO aY : LD) (bP : Int) (n : Nat) (v : Int) : Option (Bool) := (YH.p k).lp (Zt Tryz.f62) 4 [1, 1, 0, 1, 0] (YH.d k aC aD aF aG aX aW aZ bE) n (YH.s0 aB aE aH aI aJ aO aY bP v)
theorem YH.l0_eq (k : Nat) (aC : Int) (aD aF aG : LD) (aX : BA) (aW aZ : LD) (bE aB : Int) (aE aH aI : LD) (aJ : BA) (aO aY : LD) (bP : Int) : ∀ n v, YH.r0 k aC aD aF aG aX aW aZ bE aB aE aH aI aJ aO aY bP n v = Zo (YH.l0 k aB aE aH aI aJ aO aY bP (fun z0 => some z0)) n v :=
 Zm (YH.s0 aB aE aH aI aJ aO aY bP) _ fun L0 v => by kernel_rfl
theorem YH.ok (k : Nat) : Za Tryz.prog 62 (YH.e k) := Zh (YH.p k) mix tyok Tryz.func62 ⟨Yz.ok k, YO.ok k, YK.ok k, YL.ok k⟩ (by kernel_rfl) (fun aC aD aF aG aX aW aZ bE => Eq.trans (b := YH.m k aC aD aF aG aX aW aZ bE (fun z0 => some z0) (fun aB aE aH aI aJ aO aY bP => YH.r0 k aC aD aF aG aX aW aZ bE aB aE aH aI aJ aO aY bP k)) (by kernel_rfl) (congrArg (YH.m k aC aD aF aG aX aW aZ bE (fun z0 => some z0)) (funext fun aB => funext fun aE => funext fun aH => funext fun aI => funext fun aJ => funext fun aO => funext fun aY => funext fun bP => funext fun v => YH.l0_eq k aC aD aF aG aX aW aZ bE aB aE aH aI aJ aO aY bP k v)))
noncomputable def YG.l0 {β : Type} (k : Nat) (aA : BA) (aE : Int) (aH aI aJ : LD) (K L0 : Int → Option β) (v : Int) : Option β :=
 match v with
 | aB => bif (decide ((aB : Int) < (aJ.length : Int))) then (atR aJ aB [.s, .n] fun x18 x21 => (bif (Zae x18 aA) then (atR aJ aB [.s, .n] fun x25 x28 => (K x28)) else (L0 (IntKind.wrap .i64 (aB + 1))))) else (K 1)
noncomputable def YG.m {β : Type} (k : Nat) (aC : Int) (aD aF aG : LD) (a1 : BA) (K : Int → Option β) (F : (BA → Int → LD → LD → LD → Int → Option β)) : Option β :=
 F a1 aC aD aF aG (0)
noncomputable def YG.g {β : Type} (k : Nat) (aC : Int) (aD aF aG : LD) (a1 : BA) (K : Int → Option β) : Option β :=
 Zo (YG.l0 k a1 aC aD aF aG K) k (0)
noncomputable def YG.t (k : Nat) (aC : Int) (aD aF aG : LD) (a1 : BA) : Option (Int) := YG.g k aC aD aF aG a1 (fun z0 => some z0)
noncomputable def YG.f {β : Type} (k : Nat) (aC : Int) (aD aF aG : LD) (a1 : BA) (K : Int → Option β) : Option β := bd1 (YG.t k aC aD aF aG a1) K
noncomputable def YG.e (k : Nat) : Zk := ent [.agg [.n, .l, .l, .l], .d .s] [1] [.n] [3] false (YG.t k)
noncomputable def YG.p (k : Nat) : Pro := ⟨Tryz.prog, [], Zn [(2, kp [1, 2, 5])] false [], k⟩
noncomputable def YG.d (k : Nat) (aC : Int) (aD aF aG : LD) (a1 : BA) : Ex → St → Option (Int) := (YG.p k).fin Tryz.f63 [.agg [.int .i64 aC, .sl aD, .sl aF, .sl aG], .d (.str a1)] [1] [.n]
noncomputable def YG.s0 (aA : BA) (aE : Int) (aH aI aJ : LD) (v : Int) : St :=
 match v with
 | aB => ZX 27 [(1, .d false (.str aA)), (2, .bp 0 0), (5, .d true (.int .i64 aB))] [.box none 35 [.d false (.int .i64 aE), .d false (.sl aH), .d false (.sl aI), .d false (.sl aJ)]]
noncomputable def YG.r0 (k : Nat) (aC : Int) (aD aF aG : LD) (a1 aA : BA) (aE : Int) (aH aI aJ : LD) (n : Nat) (v : Int) : Option (Int) := (YG.p k).lp (Zt Tryz.f63) 2 [1, 0, 1, 0] (YG.d k aC aD aF aG a1) n (YG.s0 aA aE aH aI aJ v)
theorem YG.l0_eq (k : Nat) (aC : Int) (aD aF aG : LD) (a1 aA : BA) (aE : Int) (aH aI aJ : LD) : ∀ n v, YG.r0 k aC aD aF aG a1 aA aE aH aI aJ n v = Zo (YG.l0 k aA aE aH aI aJ (fun z0 => some z0)) n v :=
 Zm (YG.s0 aA aE aH aI aJ) _ fun L0 v => by kernel_rfl
theorem YG.ok (k : Nat) : Za Tryz.prog 63 (YG.e k) := Zh (YG.p k) mix tyok Tryz.func63 trivial (by kernel_rfl) (fun aC aD aF aG a1 => Eq.trans (b := YG.m k aC aD aF aG a1 (fun z0 => some z0) (fun aA aE aH aI aJ => YG.r0 k aC aD aF aG a1 aA aE aH aI aJ k)) (by kernel_rfl) (congrArg (YG.m k aC aD aF aG a1 (fun z0 => some z0)) (funext fun aA => funext fun aE => funext fun aH => funext fun aI => funext fun aJ => funext fun v => YG.l0_eq k aC aD aF aG a1 aA aE aH aI aJ k v)))
noncomputable def Yas.l0 {β : Type} (k : Nat) (aA aB : LD) (K : Bool → Option β) (L0 : Int → Option β) (v : Int) : Option β :=
 match v with
 | aE => bif (decide ((aE : Int) < (aA.length : Int))) then (atR aA aE [.n] fun x15 => (Yaj.f k x15 0 1000 (fun y16 => bif (!y16) then (K false) else (atR aB aE [.n] fun x20 => (Yaj.f k x20 0 10000 (fun y21 => bif (!y21) then (K false) else (L0 (IntKind.wrap .i64 (aE + 1))))))))) else (K true)
noncomputable def Yas.m {β : Type} (k : Nat) (a0 : Int) (a1 a2 : LD) (K : Bool → Option β) (F : (LD → LD → Int → Option β)) : Option β :=
 Yaj.f k a0 0 10000 (fun y1 => bif (!y1) then (K false) else (bif (decide (((a1.length : Int) : Int) > 64)) then (K false) else (bif (((a1.length : Int) : Int) != (a2.length : Int)) then (K false) else (F a1 a2 (0)))))
noncomputable def Yas.g {β : Type} (k : Nat) (a0 : Int) (a1 a2 : LD) (K : Bool → Option β) : Option β :=
 Yaj.f k a0 0 10000 (fun y1 => bif (!y1) then (K false) else (bif (decide (((a1.length : Int) : Int) > 64)) then (K false) else (bif (((a1.length : Int) : Int) != (a2.length : Int)) then (K false) else (Zo (Yas.l0 k a1 a2 K) k (0)))))
noncomputable def Yas.t (k : Nat) (a0 : Int) (a1 a2 : LD) : Option (Bool) := Yas.g k a0 a1 a2 (fun z0 => some z0)
noncomputable def Yas.f {β : Type} (k : Nat) (a0 : Int) (a1 a2 : LD) (K : Bool → Option β) : Option β := bd1 (Yas.t k a0 a1 a2) K
noncomputable def Yas.e (k : Nat) : Zk := ent [.d .n, .d .l, .d .l] [1] [.b] [4] false (Yas.t k)
noncomputable def Yas.p (k : Nat) : Pro := ⟨Tryz.prog, [(130, Yaj.e k)], Zn [(4, kp [1, 2, 7])] false [], k⟩
noncomputable def Yas.d (k : Nat) (a0 : Int) (a1 a2 : LD) : Ex → St → Option (Bool) := (Yas.p k).fin Tryz.f136 [.d (.int .i64 a0), .d (.sl a1), .d (.sl a2)] [1] [.b]
noncomputable def Yas.s0 (aA aB : LD) (v : Int) : St :=
 match v with
 | aE => ZX 43 [(1, .d false (.sl aA)), (2, .d false (.sl aB)), (7, .d true (.int .i64 aE))] []
noncomputable def Yas.r0 (k : Nat) (a0 : Int) (a1 a2 aA aB : LD) (n : Nat) (v : Int) : Option (Bool) := (Yas.p k).lp (Zt Tryz.f136) 4 [1, 1, 0, 1, 0] (Yas.d k a0 a1 a2) n (Yas.s0 aA aB v)
theorem Yas.l0_eq (k : Nat) (a0 : Int) (a1 a2 aA aB : LD) : ∀ n v, Yas.r0 k a0 a1 a2 aA aB n v = Zo (Yas.l0 k aA aB (fun z0 => some z0)) n v :=
 Zm (Yas.s0 aA aB) _ fun L0 v => by kernel_rfl
theorem Yas.ok (k : Nat) : Za Tryz.prog 136 (Yas.e k) := Zh (Yas.p k) mix tyok Tryz.func136 (Yaj.ok k) (by kernel_rfl) (fun a0 a1 a2 => Eq.trans (b := Yas.m k a0 a1 a2 (fun z0 => some z0) (fun aA aB => Yas.r0 k a0 a1 a2 aA aB k)) (by kernel_rfl) (congrArg (Yas.m k a0 a1 a2 (fun z0 => some z0)) (funext fun aA => funext fun aB => funext fun v => Yas.l0_eq k a0 a1 a2 aA aB k v)))
noncomputable def Ys.l2 {β : Type} (k : Nat) (aQ aL : LD) (aP : Int) (aT aV : LC) (L1 : (LD × LD × Int × LC × LC) → Option β) (K : LC → Option β) (L2 : (Int × Int) → Option β) (v : Int × Int) : Option β :=
 match v with
 | (aK, aM) => bif (decide ((aM : Int) < (aQ.length : Int))) then (atR aL aM [.b] fun x171 => (bif x171 then (bif (decide ((aK : Int) < 0)) then (L2 (aM, IntKind.wrap .i64 (aM + 1))) else (Zc ((0 : Int) ≤ aM ∧ aM < (aV.length : Int)) (ZaG aV (Int.toNat aM) fun c172 => Zas (c172.drop 0) fun c173 r => cD c173 fun d => dInt .i64 d fun x176 => Zc ((0 : Int) ≤ aK ∧ aK < (aV.length : Int)) (ZaG aV (Int.toNat aK) fun c177 => Zas (c177.drop 0) fun c178 r => cD c178 fun d => dInt .i64 d fun x181 => bif (decide ((x176 : Int) > x181)) then (L2 (aM, IntKind.wrap .i64 (aM + 1))) else (L2 (aK, IntKind.wrap .i64 (aM + 1))))))) else (L2 (aK, IntKind.wrap .i64 (aM + 1))))) else (Zc ((0 : Int) ≤ aK ∧ aK < (aT.length : Int)) (ZaG aT (Int.toNat aK) fun c182 => Zas (c182.drop 0) fun c183 r => cD c183 fun d => dInt .i64 d fun x186 => Zc ((0 : Int) ≤ aK ∧ aK < (aT.length : Int)) (Zc (Int.toNat aK < aT.length) (Zc ((0 : Int) ≤ aK ∧ aK < (aV.length : Int)) (Zc (Int.toNat aK < aV.length) (L1 (aQ, aL, IntKind.wrap .i64 (aP - 1), aT.modify (Int.toNat aK) fun c => Zq c 0 [.d (.int .i64 (IntKind.wrap .i64 (x186 + 1)))], aV.modify (Int.toNat aK) fun c => Zq c 0 [.d (.int .i64 (-1))])))))))
noncomputable def Ys.m1 {β : Type} (k : Nat) (K : LC → Option β) (L1 : (LD × LD × Int × LC × LC) → Option β) (v : LD × LD × Int × LC × LC) (F : (LD → LD → Int → LC → LC → (Int × Int) → Option β)) : Option β :=
 match v with
 | (aU, aN, aR, bB, aS) => bif (decide ((aR : Int) > 0)) then (F aU aN aR bB aS ((-1), 0)) else (K bB)
noncomputable def Ys.l1 {β : Type} (k : Nat) (K : LC → Option β) (L1 : (LD × LD × Int × LC × LC) → Option β) (v : LD × LD × Int × LC × LC) : Option β := Ys.m1 k K L1 v (fun aQ aL aP aT aV => Zo (Ys.l2 k aQ aL aP aT aV L1 K) k)
noncomputable def Ys.m0 {β : Type} (k : Nat) (aA : Int) (aB aE : LD) (aH : Int) (K : LC → Option β) (L0 : (Int × Int × LC × LC) → Option β) (v : Int × Int × LC × LC) (F : ((LD × LD × Int × LC × LC) → Option β)) : Option β :=
 match v with
 | (aI, aJ, aO, aY) => bif (decide ((aJ : Int) < (aB.length : Int))) then (atR aE aJ [.b] fun x97 => (bif x97 then (atR aB aJ [.n] fun x101 => (Zc ((aH : Int) ≠ 0) (Zc ((0 : Int) ≤ aJ ∧ aJ < (aO.length : Int)) (Zc (Int.toNat aJ < aO.length) (atR aB aJ [.n] fun x105 => let J1 := (IntKind.wrap .i64 (Int.tdiv (IntKind.wrap .i64 (aA * x101)) aH)); let J0 := (aO.modify (Int.toNat aJ) fun c => Zq c 0 [.d (.int .i64 J1)]); (Zc ((aH : Int) ≠ 0) (Zc ((0 : Int) ≤ aJ ∧ aJ < (aY.length : Int)) (Zc (Int.toNat aJ < aY.length) (Zc ((0 : Int) ≤ aJ ∧ aJ < (J0.length : Int)) (ZaG J0 (Int.toNat aJ) fun c106 => Zas (c106.drop 0) fun c107 r108 => cD c107 fun d109 => dInt .i64 d109 fun x110 => L0 (IntKind.wrap .i64 (aI - x110), IntKind.wrap .i64 (aJ + 1), aO.modify (Int.toNat aJ) fun c => Zq c 0 [.d (.int .i64 J1)], aY.modify (Int.toNat aJ) fun c => Zq c 0 [.d (.int .i64 (Int.tmod (IntKind.wrap .i64 (aA * x105)) aH))]))))))))))) else (L0 (aI, IntKind.wrap .i64 (aJ + 1), aO, aY)))) else (F (aB, aE, aI, aO, aY))
noncomputable def Ys.l0 {β : Type} (k : Nat) (aA : Int) (aB aE : LD) (aH : Int) (K : LC → Option β) (L0 : (Int × Int × LC × LC) → Option β) (v : Int × Int × LC × LC) : Option β := Ys.m0 k aA aB aE aH K L0 v (Zo (Ys.l1 k K) k)
noncomputable def Ys.m {β : Type} (k : Nat) (a0 : Int) (a1 a2 : LD) (a3 : Int) (K : LC → Option β) (F : (Int → LD → LD → Int → (Int × Int × LC × LC) → Option β)) : Option β :=
 let J0 := ((0 : Int) ≤ (a1.length : Int) ∧ (a1.length : Int) ≤ (ZN : Int) ∧ (a1.length : Int) ≤ (a1.length : Int) ∧ (a1.length : Int) ≤ (a1.length : Int)); Zc J0 (Zc J0 (F a0 a1 a2 a3 (a0, 0, List.replicate (Int.toNat (a1.length : Int)) ([.d (.int .i64 0)] : List C), List.replicate (Int.toNat (a1.length : Int)) ([.d (.int .i64 0)] : List C))))
noncomputable def Ys.g {β : Type} (k : Nat) (a0 : Int) (a1 a2 : LD) (a3 : Int) (K : LC → Option β) : Option β := Ys.m k a0 a1 a2 a3 K (fun aA aB aE aH => Zo (Ys.l0 k aA aB aE aH K) k)
noncomputable def Ys.t (k : Nat) (a0 : Int) (a1 a2 : LD) (a3 : Int) : Option (LC) := Ys.g k a0 a1 a2 a3 (fun z0 => some z0)
noncomputable def Ys.f {β : Type} (k : Nat) (a0 : Int) (a1 a2 : LD) (a3 : Int) (K : LC → Option β) : Option β := bd1 (Ys.t k a0 a1 a2 a3) K
noncomputable def Ys.e (k : Nat) : Zk := ent [.d .n, .d .l, .d .l, .d .n] [1] [.o] [28] false (Ys.t k)
noncomputable def Ys.p (k : Nat) : Pro := ⟨Tryz.prog, [], Zn [(5, kp [0, 1, 2, 3, 9, 10, 12] [(11, .dat false)]), (11, kp [1, 2, 9, 10] [(11, .dat false)]), (15, kp [1, 2, 9, 10, 11, 13, 14])] false [], k⟩
noncomputable def Ys.d (k : Nat) (a0 : Int) (a1 a2 : LD) (a3 : Int) : Ex → St → Option (LC) := (Ys.p k).fin Tryz.f137 [.d (.int .i64 a0), .d (.sl a1), .d (.sl a2), .d (.int .i64 a3)] [1] [.o]
noncomputable def Ys.s0 (aA : Int) (aB aE : LD) (aH : Int) (v : Int × Int × LC × LC) : St :=
 match v with
 | (aI, aJ, aO, aY) => ZX 102 [(0, .d false (.int .i64 aA)), (1, .d false (.sl aB)), (2, .d false (.sl aE)), (3, .d false (.int .i64 aH)), (9, .row 0), (10, .row 1), (11, .d false (.int .i64 aI)), (12, .d true (.int .i64 aJ))] [.row none true 28 aO, .row none true 28 aY]
noncomputable def Ys.r0 (k : Nat) (a0 : Int) (a1 a2 : LD) (a3 aA : Int) (aB aE : LD) (aH : Int) (n : Nat) (v : Int × Int × LC × LC) : Option (LC) := (Ys.p k).lp (Zt Tryz.f137) 5 [1, 1, 1, 1, 0, 1, 0] (Ys.d k a0 a1 a2 a3) n (Ys.s0 aA aB aE aH v)
noncomputable def Ys.s1 (v : LD × LD × Int × LC × LC) : St :=
 match v with
 | (aU, aN, aR, bB, aS) => ZX 102 [(1, .d false (.sl aU)), (2, .d false (.sl aN)), (9, .row 0), (10, .row 1), (11, .d false (.int .i64 aR))] [.row none true 28 bB, .row none true 28 aS]
noncomputable def Ys.c1 (k : Nat) (a0 : Int) (a1 a2 : LD) (a3 : Int) : Ex → St → Option (LC) := (Ys.p k).ct (Zt Tryz.f137) [1, 1, 1, 1, 1, 0, 0] (Ys.d k a0 a1 a2 a3)
noncomputable def Ys.r1 (k : Nat) (a0 : Int) (a1 a2 : LD) (a3 : Int) (n : Nat) (v : LD × LD × Int × LC × LC) : Option (LC) := (Ys.p k).lp (Zt Tryz.f137) 11 [1, 1, 1, 1, 1, 0, 0] (Ys.d k a0 a1 a2 a3) n (Ys.s1 v)
noncomputable def Ys.s2 (aQ aL : LD) (aP : Int) (aT aV : LC) (v : Int × Int) : St :=
 match v with
 | (aK, aM) => ZX 102 [(1, .d false (.sl aQ)), (2, .d false (.sl aL)), (9, .row 0), (10, .row 1), (11, .d false (.int .i64 aP)), (13, .d true (.int .i64 aK)), (14, .d true (.int .i64 aM))] [.row none true 28 aT, .row none true 28 aV]
noncomputable def Ys.r2 (k : Nat) (a0 : Int) (a1 a2 : LD) (a3 : Int) (aQ aL : LD) (aP : Int) (aT aV : LC) (L1 : St → Option (LC)) (n : Nat) (v : Int × Int) : Option (LC) := (Ys.p k).lp (codeAt [1, 1, 1, 1, 1, 0, 0, 0] (Zt Tryz.f137)) 15 [1, 0, 0, 1, 0, 1, 0] (backK ((Ys.p k).h.H 11) L1 (Ys.c1 k a0 a1 a2 a3)) n (Ys.s2 aQ aL aP aT aV v)
theorem Ys.l2_eq (k : Nat) (a0 : Int) (a1 a2 : LD) (a3 : Int) (aQ aL : LD) (aP : Int) (aT aV : LC) (L1 : St → Option (LC)) : ∀ n v, Ys.r2 k a0 a1 a2 a3 aQ aL aP aT aV L1 n v = Zo (Ys.l2 k aQ aL aP aT aV (fun v => L1 (Ys.s1 v)) (fun z0 => some z0)) n v :=
 Zm (Ys.s2 aQ aL aP aT aV) _ fun L2 v => by obtain ⟨aK, aM⟩ := v; kernel_rfl
theorem Ys.l1_eq (k : Nat) (a0 : Int) (a1 a2 : LD) (a3 : Int) : ∀ n v, Ys.r1 k a0 a1 a2 a3 n v = Zo (Ys.l1 k (fun z0 => some z0)) n v :=
 Zm (Ys.s1) _ fun L1 v => by obtain ⟨aU, aN, aR, bB, aS⟩ := v; exact Eq.trans (b := Ys.m1 k (fun z0 => some z0) (fun v => L1 (Ys.s1 v)) (aU, aN, aR, bB, aS) (fun aQ aL aP aT aV => Ys.r2 k a0 a1 a2 a3 aQ aL aP aT aV L1 k)) (by kernel_rfl) (congrArg (Ys.m1 k (fun z0 => some z0) (fun v => L1 (Ys.s1 v)) (aU, aN, aR, bB, aS)) (funext fun aQ => funext fun aL => funext fun aP => funext fun aT => funext fun aV => funext fun v => Ys.l2_eq k a0 a1 a2 a3 aQ aL aP aT aV L1 k v))
theorem Ys.l0_eq (k : Nat) (a0 : Int) (a1 a2 : LD) (a3 aA : Int) (aB aE : LD) (aH : Int) : ∀ n v, Ys.r0 k a0 a1 a2 a3 aA aB aE aH n v = Zo (Ys.l0 k aA aB aE aH (fun z0 => some z0)) n v :=
 Zm (Ys.s0 aA aB aE aH) _ fun L0 v => by obtain ⟨aI, aJ, aO, aY⟩ := v; exact Eq.trans (b := Ys.m0 k aA aB aE aH (fun z0 => some z0) (fun v => L0 (Ys.s0 aA aB aE aH v)) (aI, aJ, aO, aY) (Ys.r1 k a0 a1 a2 a3 k)) (by kernel_rfl) (congrArg (Ys.m0 k aA aB aE aH (fun z0 => some z0) (fun v => L0 (Ys.s0 aA aB aE aH v)) (aI, aJ, aO, aY)) (funext fun v => Ys.l1_eq k a0 a1 a2 a3 k v))
theorem Ys.ok (k : Nat) : Za Tryz.prog 137 (Ys.e k) := Zh (Ys.p k) mix tyok Tryz.func137 trivial (by kernel_rfl) (fun a0 a1 a2 a3 => Eq.trans (b := Ys.m k a0 a1 a2 a3 (fun z0 => some z0) (fun aA aB aE aH => Ys.r0 k a0 a1 a2 a3 aA aB aE aH k)) (by kernel_rfl) (congrArg (Ys.m k a0 a1 a2 a3 (fun z0 => some z0)) (funext fun aA => funext fun aB => funext fun aE => funext fun aH => funext fun v => Ys.l0_eq k a0 a1 a2 a3 aA aB aE aH k v)))
noncomputable def Yu.l2 {β : Type} (k : Nat) (aL aP : LD) (L0 : (Int × LD × LD × LC) → Option β) (K : LC → Option β) (L2 : (Int × Int × LC × LC) → Option β) (v : Int × Int × LC × LC) : Option β :=
 match v with
 | (aQ, aK, aM, aT) => bif (decide ((aK : Int) < (aL.length : Int))) then (Zc ((0 : Int) ≤ aK ∧ aK < (aT.length : Int)) (ZaG aT (Int.toNat aK) fun c501 => Zas (c501.drop 0) fun c502 r => cD c502 fun d => dInt .i64 d fun x505 => atR aP aK [.n] fun x509 => (Zc ((0 : Int) ≤ aK ∧ aK < (aM.length : Int)) (ZaG aM (Int.toNat aK) fun c510 => Zas (c510.drop 0) fun c511 r => cD c511 fun d => dInt .i64 d fun x514 => bif (decide ((x505 : Int) > (IntKind.wrap .i64 (x509 - x514)))) then (atR aP aK [.n] fun x518 => (Zc ((0 : Int) ≤ aK ∧ aK < (aM.length : Int)) (ZaG aM (Int.toNat aK) fun c519 => Zas (c519.drop 0) fun c520 r => cD c520 fun d => dInt .i64 d fun x523 => Zc ((0 : Int) ≤ aK ∧ aK < (aT.length : Int)) (Zc (Int.toNat aK < aT.length) (Zc ((0 : Int) ≤ aK ∧ aK < (aM.length : Int)) (ZaG aM (Int.toNat aK) fun c524 => Zas (c524.drop 0) fun c525 r => cD c525 fun d => dInt .i64 d fun x528 => let J1 := (aT.modify (Int.toNat aK) fun c => Zq c 0 [.d (.int .i64 (IntKind.wrap .i64 (x518 - x523)))]); let J0 := ((0 : Int) ≤ aK ∧ aK < (J1.length : Int)); Zc J0 (ZaG J1 (Int.toNat aK) fun c529 => Zas (c529.drop 0) fun c530 r => cD c530 fun d => dInt .i64 d fun x533 => Zc ((0 : Int) ≤ aK ∧ aK < (aM.length : Int)) (Zc (Int.toNat aK < aM.length) (Zc J0 (ZaG J1 (Int.toNat aK) fun c534 => Zas (c534.drop 0) fun c535 r => cD c535 fun d => dInt .i64 d fun x538 => L2 (IntKind.wrap .i64 (aQ - x538), IntKind.wrap .i64 (aK + 1), aM.modify (Int.toNat aK) fun c => Zq c 0 [.d (.int .i64 (IntKind.wrap .i64 (x528 + x533)))], aT.modify (Int.toNat aK) fun c => Zq c 0 [.d (.int .i64 (IntKind.wrap .i64 (x518 - x523)))]))))))))))) else (Zc ((0 : Int) ≤ aK ∧ aK < (aM.length : Int)) (ZaG aM (Int.toNat aK) fun c539 => Zas (c539.drop 0) fun c540 r => cD c540 fun d => dInt .i64 d fun x543 => Zc ((0 : Int) ≤ aK ∧ aK < (aT.length : Int)) (ZaG aT (Int.toNat aK) fun c544 => Zas (c544.drop 0) fun c545 r => cD c545 fun d => dInt .i64 d fun x548 => Zc ((0 : Int) ≤ aK ∧ aK < (aM.length : Int)) (Zc (Int.toNat aK < aM.length) (Zc ((0 : Int) ≤ aK ∧ aK < (aT.length : Int)) (ZaG aT (Int.toNat aK) fun c549 => Zas (c549.drop 0) fun c550 r => cD c550 fun d => dInt .i64 d fun x553 => L2 (IntKind.wrap .i64 (aQ - x553), IntKind.wrap .i64 (aK + 1), aM.modify (Int.toNat aK) fun c => Zq c 0 [.d (.int .i64 (IntKind.wrap .i64 (x543 + x548)))], aT))))))))))) else (L0 (aQ, aL, aP, aM))
noncomputable def Yu.m1 {β : Type} (k : Nat) (aU : Int) (aN aR : LD) (bA : LC) (L0 : (Int × LD × LD × LC) → Option β) (K : LC → Option β) (L1 : (Int × Int × LC) → Option β) (v : Int × Int × LC) (F : (LD → LD → (Int × Int × LC × LC) → Option β)) : Option β :=
 match v with
 | (bB, aS, bC) => bif (decide ((aS : Int) < (aN.length : Int))) then (atR aN aS [.n] fun x419 => (bif (decide ((x419 : Int) > 0)) then (Zc ((0 : Int) ≤ aS ∧ aS < (bA.length : Int)) (ZaG bA (Int.toNat aS) fun c420 => Zas (c420.drop 0) fun c421 r422 => cD c421 fun d423 => dInt .i64 d423 fun x424 => atR aR aS [.n] fun x428 => let J0 := (bC.modify (Int.toNat aS) fun c => Zq c 0 [.d (.bool (decide ((x424 : Int) < x428)))]); (Zc ((0 : Int) ≤ aS ∧ aS < (bC.length : Int)) (Zc (Int.toNat aS < bC.length) (Zc ((0 : Int) ≤ aS ∧ aS < (J0.length : Int)) (ZaG J0 (Int.toNat aS) fun c429 => Zas (c429.drop 0) fun c430 r431 => cD c430 fun d432 => dBool d432 fun x433 => bif x433 then (atR aN aS [.n] fun x437 => (L1 (IntKind.wrap .i64 (bB + x437), IntKind.wrap .i64 (aS + 1), bC.modify (Int.toNat aS) fun c => Zq c 0 [.d (.bool (decide ((x424 : Int) < x428)))]))) else (L1 (bB, IntKind.wrap .i64 (aS + 1), bC.modify (Int.toNat aS) fun c => Zq c 0 [.d (.bool (decide ((x424 : Int) < x428)))])))))))) else (let J1 := (bC.modify (Int.toNat aS) fun c => Zq c 0 [.d (.bool false)]); Zc ((0 : Int) ≤ aS ∧ aS < (bC.length : Int)) (Zc (Int.toNat aS < bC.length) (Zc ((0 : Int) ≤ aS ∧ aS < (J1.length : Int)) (ZaG J1 (Int.toNat aS) fun c438 => Zas (c438.drop 0) fun c439 r440 => cD c439 fun d441 => dBool d441 fun x442 => bif x442 then (atR aN aS [.n] fun x446 => (L1 (IntKind.wrap .i64 (bB + x446), IntKind.wrap .i64 (aS + 1), bC.modify (Int.toNat aS) fun c => Zq c 0 [.d (.bool false)]))) else (L1 (bB, IntKind.wrap .i64 (aS + 1), bC.modify (Int.toNat aS) fun c => Zq c 0 [.d (.bool false)])))))))) else (bif ((bB : Int) == 0) then (K bA) else (Ys.f k aU aN (C.immRows bC) bB (fun y447 => F aN aR (aU, 0, bA, y447))))
noncomputable def Yu.l1 {β : Type} (k : Nat) (aU : Int) (aN aR : LD) (bA : LC) (L0 : (Int × LD × LD × LC) → Option β) (K : LC → Option β) (L1 : (Int × Int × LC) → Option β) (v : Int × Int × LC) : Option β := Yu.m1 k aU aN aR bA L0 K L1 v (fun aL aP => Zo (Yu.l2 k aL aP L0 K) k)
noncomputable def Yu.m0 {β : Type} (k : Nat) (K : LC → Option β) (L0 : (Int × LD × LD × LC) → Option β) (v : Int × LD × LD × LC) (F : (Int → LD → LD → LC → (Int × Int × LC) → Option β)) : Option β :=
 match v with
 | (aA, aB, aE, aH) => bif (decide ((aA : Int) > 0)) then (Zc ((0 : Int) ≤ (aB.length : Int) ∧ (aB.length : Int) ≤ (ZN : Int) ∧ (aB.length : Int) ≤ (aB.length : Int) ∧ (aB.length : Int) ≤ (aB.length : Int)) (F aA aB aE aH (0, 0, List.replicate (Int.toNat (aB.length : Int)) ([.d (.bool false)] : List C)))) else (K aH)
noncomputable def Yu.l0 {β : Type} (k : Nat) (K : LC → Option β) (L0 : (Int × LD × LD × LC) → Option β) (v : Int × LD × LD × LC) : Option β := Yu.m0 k K L0 v (fun aU aN aR bA => Zo (Yu.l1 k aU aN aR bA L0 K) k)
noncomputable def Yu.m {β : Type} (k : Nat) (a0 : Int) (a1 a2 : LD) (K : LC → Option β) (F : ((Int × LD × LD × LC) → Option β)) : Option β :=
 Yas.f k a0 a1 a2 (fun y1 => bif (!y1) then (K ([] : LC)) else (Zc ((0 : Int) ≤ (a1.length : Int) ∧ (a1.length : Int) ≤ (ZN : Int) ∧ (a1.length : Int) ≤ (a1.length : Int) ∧ (a1.length : Int) ≤ (a1.length : Int)) (F (a0, a1, a2, List.replicate (Int.toNat (a1.length : Int)) ([.d (.int .i64 0)] : List C)))))
noncomputable def Yu.g {β : Type} (k : Nat) (a0 : Int) (a1 a2 : LD) (K : LC → Option β) : Option β := Yu.m k a0 a1 a2 K (Zo (Yu.l0 k K) k)
noncomputable def Yu.t (k : Nat) (a0 : Int) (a1 a2 : LD) : Option (LC) := Yu.g k a0 a1 a2 (fun z0 => some z0)
noncomputable def Yu.f {β : Type} (k : Nat) (a0 : Int) (a1 a2 : LD) (K : LC → Option β) : Option β := bd1 (Yu.t k a0 a1 a2) K
noncomputable def Yu.e (k : Nat) : Zk := ent [.d .n, .d .l, .d .l] [1] [.o] [28] false (Yu.t k)
noncomputable def Yu.p (k : Nat) : Pro := ⟨Tryz.prog, [(136, Yas.e k), (137, Ys.e k)], Zn [(5, kp [0, 1, 2, 7]), (9, kp [0, 1, 2, 7, 8, 9, 10]), (17, kp [1, 2, 7, 11, 12] [(0, .dat false)])] false [], k⟩
noncomputable def Yu.d (k : Nat) (a0 : Int) (a1 a2 : LD) : Ex → St → Option (LC) := (Yu.p k).fin Tryz.f64 [.d (.int .i64 a0), .d (.sl a1), .d (.sl a2)] [1] [.o]
noncomputable def Yu.s0 (v : Int × LD × LD × LC) : St :=
 match v with
 | (aA, aB, aE, aH) => ZX 121 [(0, .d false (.int .i64 aA)), (1, .d false (.sl aB)), (2, .d false (.sl aE)), (7, .row 0)] [.row none true 28 aH]
noncomputable def Yu.c0 (k : Nat) (a0 : Int) (a1 a2 : LD) : Ex → St → Option (LC) := (Yu.p k).ct (Zt Tryz.f64) [1, 1, 1, 1, 0, 0] (Yu.d k a0 a1 a2)
noncomputable def Yu.r0 (k : Nat) (a0 : Int) (a1 a2 : LD) (n : Nat) (v : Int × LD × LD × LC) : Option (LC) := (Yu.p k).lp (Zt Tryz.f64) 5 [1, 1, 1, 1, 0, 0] (Yu.d k a0 a1 a2) n (Yu.s0 v)
noncomputable def Yu.s1 (aU : Int) (aN aR : LD) (bA : LC) (v : Int × Int × LC) : St :=
 match v with
 | (bB, aS, bC) => ZX 121 [(0, .d false (.int .i64 aU)), (1, .d false (.sl aN)), (2, .d false (.sl aR)), (7, .row 0), (8, .row 1), (9, .d true (.int .i64 bB)), (10, .d true (.int .i64 aS))] [.row none true 28 bA, .row none true 189 bC]
noncomputable def Yu.r1 (k : Nat) (a0 : Int) (a1 a2 : LD) (aU : Int) (aN aR : LD) (bA : LC) (L0 : St → Option (LC)) (n : Nat) (v : Int × Int × LC) : Option (LC) := (Yu.p k).lp (codeAt [1, 1, 1, 1, 0, 0, 0] (Zt Tryz.f64)) 9 [1, 0, 1, 1, 0, 1, 0] (backK ((Yu.p k).h.H 5) L0 (Yu.c0 k a0 a1 a2)) n (Yu.s1 aU aN aR bA v)
noncomputable def Yu.s2 (aL aP : LD) (v : Int × Int × LC × LC) : St :=
 match v with
 | (aQ, aK, aM, aT) => ZX 121 [(0, .d false (.int .i64 aQ)), (1, .d false (.sl aL)), (2, .d false (.sl aP)), (7, .row 0), (11, .row 1), (12, .d true (.int .i64 aK))] [.row none true 28 aM, .row none true 28 aT]
noncomputable def Yu.r2 (k : Nat) (a0 : Int) (a1 a2 aL aP : LD) (L0 : St → Option (LC)) (n : Nat) (v : Int × Int × LC × LC) : Option (LC) := (Yu.p k).lp (codeAt [1, 1, 1, 1, 0, 0, 0] (Zt Tryz.f64)) 17 [1, 0, 1, 1, 1, 1, 1, 1, 0] (backK ((Yu.p k).h.H 5) L0 (Yu.c0 k a0 a1 a2)) n (Yu.s2 aL aP v)
theorem Yu.l2_eq (k : Nat) (a0 : Int) (a1 a2 aL aP : LD) (L0 : St → Option (LC)) : ∀ n v, Yu.r2 k a0 a1 a2 aL aP L0 n v = Zo (Yu.l2 k aL aP (fun v => L0 (Yu.s0 v)) (fun z0 => some z0)) n v :=
 Zm (Yu.s2 aL aP) _ fun L2 v => by obtain ⟨aQ, aK, aM, aT⟩ := v; kernel_rfl
theorem Yu.l1_eq (k : Nat) (a0 : Int) (a1 a2 : LD) (aU : Int) (aN aR : LD) (bA : LC) (L0 : St → Option (LC)) : ∀ n v, Yu.r1 k a0 a1 a2 aU aN aR bA L0 n v = Zo (Yu.l1 k aU aN aR bA (fun v => L0 (Yu.s0 v)) (fun z0 => some z0)) n v :=
 Zm (Yu.s1 aU aN aR bA) _ fun L1 v => by obtain ⟨bB, aS, bC⟩ := v; exact Eq.trans (b := Yu.m1 k aU aN aR bA (fun v => L0 (Yu.s0 v)) (fun z0 => some z0) (fun v => L1 (Yu.s1 aU aN aR bA v)) (bB, aS, bC) (fun aL aP => Yu.r2 k a0 a1 a2 aL aP L0 k)) (by kernel_rfl) (congrArg (Yu.m1 k aU aN aR bA (fun v => L0 (Yu.s0 v)) (fun z0 => some z0) (fun v => L1 (Yu.s1 aU aN aR bA v)) (bB, aS, bC)) (funext fun aL => funext fun aP => funext fun v => Yu.l2_eq k a0 a1 a2 aL aP L0 k v))
theorem Yu.l0_eq (k : Nat) (a0 : Int) (a1 a2 : LD) : ∀ n v, Yu.r0 k a0 a1 a2 n v = Zo (Yu.l0 k (fun z0 => some z0)) n v :=
 Zm (Yu.s0) _ fun L0 v => by obtain ⟨aA, aB, aE, aH⟩ := v; exact Eq.trans (b := Yu.m0 k (fun z0 => some z0) (fun v => L0 (Yu.s0 v)) (aA, aB, aE, aH) (fun aU aN aR bA => Yu.r1 k a0 a1 a2 aU aN aR bA L0 k)) (by kernel_rfl) (congrArg (Yu.m0 k (fun z0 => some z0) (fun v => L0 (Yu.s0 v)) (aA, aB, aE, aH)) (funext fun aU => funext fun aN => funext fun aR => funext fun bA => funext fun v => Yu.l1_eq k a0 a1 a2 aU aN aR bA L0 k v))
theorem Yu.ok (k : Nat) : Za Tryz.prog 64 (Yu.e k) := Zh (Yu.p k) mix tyok Tryz.func64 ⟨Yas.ok k, Ys.ok k⟩ (by kernel_rfl) (fun a0 a1 a2 => Eq.trans (b := Yu.m k a0 a1 a2 (fun z0 => some z0) (Yu.r0 k a0 a1 a2 k)) (by kernel_rfl) (congrArg (Yu.m k a0 a1 a2 (fun z0 => some z0)) (funext fun v => Yu.l0_eq k a0 a1 a2 k v)))
noncomputable def Yaa.l0 {β : Type} (k : Nat) (aA aB : LD) (aH : Int) (aI aJ aO : LD) (K : LC → Option β) (L0 : (Int × LC) → Option β) (v : Int × LC) : Option β :=
 match v with
 | (aE, aY) => bif (decide ((aE : Int) < (aA.length : Int))) then (atR aA aE [.s, .l, .l, .n] fun x558 x561 x564 x567 => (YO.f k x558 x561 x564 x567 (fun y568 => bif (!y568) then (K ([] : LC)) else (atR aA aE [.s, .l, .l, .n] fun x572 x575 x578 x581 => (YH.f k aH aI aJ aO x572 x575 x578 x581 (fun y582 => bif y582 then (atR aA aE [.s, .l, .l, .n] fun x586 x589 x592 x595 => (YG.f k aH aI aJ aO x586 (fun y596 => Zc (aY.length + ([[.d (.int .i64 y596)]] : LC).length ≤ ZN) (L0 (IntKind.wrap .i64 (aE + 1), aY ++ ([[.d (.int .i64 y596)]] : LC)))))) else (Zc (aY.length + ([[.d (.int .i64 0)]] : LC).length ≤ ZN) (L0 (IntKind.wrap .i64 (aE + 1), aY ++ ([[.d (.int .i64 0)]] : LC)))))))))) else (Yu.f k aH (C.immRows aY) aB (fun y597 => K y597))
noncomputable def Yaa.m {β : Type} (k : Nat) (aC : Int) (aD aF aG a1 a2 : LD) (K : LC → Option β) (F : (LD → LD → Int → LD → LD → LD → (Int × LC) → Option β)) : Option β :=
 Yz.f k aC aD aF aG (fun y80 => bif (!y80) then (K ([] : LC)) else (bif (decide (((a1.length : Int) : Int) > 12)) then (K ([] : LC)) else (bif (((a2.length : Int) : Int) != (a1.length : Int)) then (K ([] : LC)) else (F a1 a2 aC aD aF aG (0, ([] : LC))))))
noncomputable def Yaa.g {β : Type} (k : Nat) (aC : Int) (aD aF aG a1 a2 : LD) (K : LC → Option β) : Option β := Yaa.m k aC aD aF aG a1 a2 K (fun aA aB aH aI aJ aO => Zo (Yaa.l0 k aA aB aH aI aJ aO K) k)
noncomputable def Yaa.t (k : Nat) (aC : Int) (aD aF aG a1 a2 : LD) : Option (LC) := Yaa.g k aC aD aF aG a1 a2 (fun z0 => some z0)
noncomputable def Yaa.f {β : Type} (k : Nat) (aC : Int) (aD aF aG a1 a2 : LD) (K : LC → Option β) : Option β := bd1 (Yaa.t k aC aD aF aG a1 a2) K
noncomputable def Yaa.e (k : Nat) : Zk := ent [.agg [.n, .l, .l, .l], .d .l, .d .l] [1] [.o] [28] false (Yaa.t k)
noncomputable def Yaa.p (k : Nat) : Pro := ⟨Tryz.prog, [(60, Yz.e k), (61, YO.e k), (62, YH.e k), (63, YG.e k), (64, Yu.e k)], Zn [(5, kp [1, 2, 3, 7, 8])] false [], k⟩
noncomputable def Yaa.d (k : Nat) (aC : Int) (aD aF aG a1 a2 : LD) : Ex → St → Option (LC) := (Yaa.p k).fin Tryz.f10 [.agg [.int .i64 aC, .sl aD, .sl aF, .sl aG], .d (.sl a1), .d (.sl a2)] [1] [.o]
noncomputable def Yaa.s0 (aA aB : LD) (aH : Int) (aI aJ aO : LD) (v : Int × LC) : St :=
 match v with
 | (aE, aY) => ZX 62 [(1, .d false (.sl aA)), (2, .d false (.sl aB)), (3, .bp 0 0), (7, .row 1), (8, .d true (.int .i64 aE))] [.box none 35 [.d false (.int .i64 aH), .d false (.sl aI), .d false (.sl aJ), .d false (.sl aO)], .row none true 28 aY]
noncomputable def Yaa.r0 (k : Nat) (aC : Int) (aD aF aG a1 a2 aA aB : LD) (aH : Int) (aI aJ aO : LD) (n : Nat) (v : Int × LC) : Option (LC) := (Yaa.p k).lp (Zt Tryz.f10) 5 [1, 1, 1, 0, 1, 0] (Yaa.d k aC aD aF aG a1 a2) n (Yaa.s0 aA aB aH aI aJ aO v)
theorem Yaa.l0_eq (k : Nat) (aC : Int) (aD aF aG a1 a2 aA aB : LD) (aH : Int) (aI aJ aO : LD) : ∀ n v, Yaa.r0 k aC aD aF aG a1 a2 aA aB aH aI aJ aO n v = Zo (Yaa.l0 k aA aB aH aI aJ aO (fun z0 => some z0)) n v :=
 Zm (Yaa.s0 aA aB aH aI aJ aO) _ fun L0 v => by obtain ⟨aE, aY⟩ := v; kernel_rfl
theorem Yaa.ok (k : Nat) : Za Tryz.prog 10 (Yaa.e k) := Zh (Yaa.p k) mix tyok Tryz.func10 ⟨Yz.ok k, YO.ok k, YH.ok k, YG.ok k, Yu.ok k⟩ (by kernel_rfl) (fun aC aD aF aG a1 a2 => Eq.trans (b := Yaa.m k aC aD aF aG a1 a2 (fun z0 => some z0) (fun aA aB aH aI aJ aO => Yaa.r0 k aC aD aF aG a1 a2 aA aB aH aI aJ aO k)) (by kernel_rfl) (congrArg (Yaa.m k aC aD aF aG a1 a2 (fun z0 => some z0)) (funext fun aA => funext fun aB => funext fun aH => funext fun aI => funext fun aJ => funext fun aO => funext fun v => Yaa.l0_eq k aC aD aF aG a1 a2 aA aB aH aI aJ aO k v)))
noncomputable def YA.l2 {β : Type} (k : Nat) (aQ aL : LD) (aP : Int) (aM aV : LC) (L1 : (LD × LD × Int × LC × LC) → Option β) (K : LC → Option β) (L2 : (Int × LC) → Option β) (v : Int × LC) : Option β :=
 match v with
 | (aK, aT) => bif (decide ((aK : Int) < (aV.length : Int))) then (Zc ((0 : Int) ≤ aK ∧ aK < (aT.length : Int)) (ZaG aT (Int.toNat aK) fun c780 => Zas (c780.drop 0) fun c781 r => cD c781 fun d => dInt .i64 d fun x784 => Zc ((0 : Int) ≤ aK ∧ aK < (aV.length : Int)) (ZaG aV (Int.toNat aK) fun c785 => Zas (c785.drop 0) fun c786 r => cD c786 fun d => dInt .i64 d fun x789 => Zc ((0 : Int) ≤ aK ∧ aK < (aT.length : Int)) (Zc (Int.toNat aK < aT.length) (L2 (IntKind.wrap .i64 (aK + 1), aT.modify (Int.toNat aK) fun c => Zq c 0 [.d (.int .i64 (IntKind.wrap .i64 (x784 - x789)))])))))) else (Zc (aM.length + ([[.own aV]] : LC).length ≤ ZN) (L1 (aQ, aL, IntKind.wrap .i64 (aP + 1), aM ++ ([[.own aV]] : LC), aT)))
noncomputable def YA.m1 {β : Type} (k : Nat) (K : LC → Option β) (L1 : (LD × LD × Int × LC × LC) → Option β) (v : LD × LD × Int × LC × LC) (F : (LD → LD → Int → LC → LC → (Int × LC) → Option β)) : Option β :=
 match v with
 | (aU, aN, aR, bB, aS) => bif (decide ((aR : Int) < (aU.length : Int))) then (atR aU aR [.n, .l, .l, .l] fun x745 x748 x751 x754 => (Yaa.f k x745 x748 x751 x754 aN (C.immRows aS) (fun y755 => bif (decide (((aU.length : Int) : Int) > 40)) then (K ([] : LC)) else (atR aU aR [.n, .l, .l, .l] fun x759 x762 x765 x768 => (Yz.f k x759 x762 x765 x768 (fun y769 => bif (!y769) then (K ([] : LC)) else (bif (((y755.length : Int) : Int) != (aN.length : Int)) then (K ([] : LC)) else (F aU aN aR bB y755 (0, aS))))))))) else (K bB)
noncomputable def YA.l1 {β : Type} (k : Nat) (K : LC → Option β) (L1 : (LD × LD × Int × LC × LC) → Option β) (v : LD × LD × Int × LC × LC) : Option β := YA.m1 k K L1 v (fun aQ aL aP aM aV => Zo (YA.l2 k aQ aL aP aM aV L1 K) k)
noncomputable def YA.m0 {β : Type} (k : Nat) (aA aB : LD) (aH : LC) (K : LC → Option β) (L0 : (Int × LC) → Option β) (v : Int × LC) (F : ((LD × LD × Int × LC × LC) → Option β)) : Option β :=
 match v with
 | (aE, aI) => bif (decide ((aE : Int) < (aB.length : Int))) then (atR aB aE [.s, .l, .l, .n] fun x684 x687 x690 x693 => (Zc (aI.length + ([[.d (.int .i64 x693)]] : LC).length ≤ ZN) (L0 (IntKind.wrap .i64 (aE + 1), aI ++ ([[.d (.int .i64 x693)]] : LC))))) else (F (aA, aB, 0, aH, aI))
noncomputable def YA.l0 {β : Type} (k : Nat) (aA aB : LD) (aH : LC) (K : LC → Option β) (L0 : (Int × LC) → Option β) (v : Int × LC) : Option β := YA.m0 k aA aB aH K L0 v (Zo (YA.l1 k K) k)
noncomputable def YA.m {β : Type} (k : Nat) (a0 a1 : LD) (K : LC → Option β) (F : (LD → LD → LC → (Int × LC) → Option β)) : Option β :=
 F a0 a1 ([] : LC) (0, ([] : LC))
noncomputable def YA.g {β : Type} (k : Nat) (a0 a1 : LD) (K : LC → Option β) : Option β :=
 Zo (YA.l0 k a0 a1 ([] : LC) K) k (0, ([] : LC))
noncomputable def YA.t (k : Nat) (a0 a1 : LD) : Option (LC) := YA.g k a0 a1 (fun z0 => some z0)
noncomputable def YA.f {β : Type} (k : Nat) (a0 a1 : LD) (K : LC → Option β) : Option β := bd1 (YA.t k a0 a1) K
noncomputable def YA.e (k : Nat) : Zk := ent [.d .l, .d .l] [1] [.o] [49] false (YA.t k)
noncomputable def YA.p (k : Nat) : Pro := ⟨Tryz.prog, [(10, Yaa.e k), (60, Yz.e k)], Zn [(4, kp [0, 1, 5, 6, 7]), (8, kp [0, 1, 5, 6, 8]), (14, kp [0, 1, 5, 6, 8, 9, 10])] false [], k⟩
noncomputable def YA.d (k : Nat) (a0 a1 : LD) : Ex → St → Option (LC) := (YA.p k).fin Tryz.f23 [.d (.sl a0), .d (.sl a1)] [1] [.o]
noncomputable def YA.s0 (aA aB : LD) (aH : LC) (v : Int × LC) : St :=
 match v with
 | (aE, aI) => ZX 82 [(0, .d false (.sl aA)), (1, .d false (.sl aB)), (5, .row 0), (6, .row 1), (7, .d true (.int .i64 aE))] [.row none true 49 aH, .row none true 28 aI]
noncomputable def YA.r0 (k : Nat) (a0 a1 aA aB : LD) (aH : LC) (n : Nat) (v : Int × LC) : Option (LC) := (YA.p k).lp (Zt Tryz.f23) 4 [1, 1, 1, 0, 1, 0] (YA.d k a0 a1) n (YA.s0 aA aB aH v)
noncomputable def YA.s1 (v : LD × LD × Int × LC × LC) : St :=
 match v with
 | (aU, aN, aR, bB, aS) => ZX 82 [(0, .d false (.sl aU)), (1, .d false (.sl aN)), (5, .row 0), (6, .row 1), (8, .d true (.int .i64 aR))] [.row none true 49 bB, .row none true 28 aS]
noncomputable def YA.c1 (k : Nat) (a0 a1 : LD) : Ex → St → Option (LC) := (YA.p k).ct (Zt Tryz.f23) [1, 1, 1, 1, 0, 1, 0] (YA.d k a0 a1)
noncomputable def YA.r1 (k : Nat) (a0 a1 : LD) (n : Nat) (v : LD × LD × Int × LC × LC) : Option (LC) := (YA.p k).lp (Zt Tryz.f23) 8 [1, 1, 1, 1, 0, 1, 0] (YA.d k a0 a1) n (YA.s1 v)
noncomputable def YA.s2 (aQ aL : LD) (aP : Int) (aM aV : LC) (v : Int × LC) : St :=
 match v with
 | (aK, aT) => ZX 82 [(0, .d false (.sl aQ)), (1, .d false (.sl aL)), (5, .row 0), (6, .row 1), (8, .d true (.int .i64 aP)), (9, .row 2), (10, .d true (.int .i64 aK))] [.row none true 49 aM, .row none true 28 aT, .row none true 28 aV]
noncomputable def YA.r2 (k : Nat) (a0 a1 aQ aL : LD) (aP : Int) (aM aV : LC) (L1 : St → Option (LC)) (n : Nat) (v : Int × LC) : Option (LC) := (YA.p k).lp (codeAt [1, 1, 1, 1, 0, 1, 0, 0] (Zt Tryz.f23)) 14 [1, 0, 0, 1, 1, 0, 1, 0] (backK ((YA.p k).h.H 8) L1 (YA.c1 k a0 a1)) n (YA.s2 aQ aL aP aM aV v)
theorem YA.l2_eq (k : Nat) (a0 a1 aQ aL : LD) (aP : Int) (aM aV : LC) (L1 : St → Option (LC)) : ∀ n v, YA.r2 k a0 a1 aQ aL aP aM aV L1 n v = Zo (YA.l2 k aQ aL aP aM aV (fun v => L1 (YA.s1 v)) (fun z0 => some z0)) n v :=
 Zm (YA.s2 aQ aL aP aM aV) _ fun L2 v => by obtain ⟨aK, aT⟩ := v; kernel_rfl
theorem YA.l1_eq (k : Nat) (a0 a1 : LD) : ∀ n v, YA.r1 k a0 a1 n v = Zo (YA.l1 k (fun z0 => some z0)) n v :=
 Zm (YA.s1) _ fun L1 v => by obtain ⟨aU, aN, aR, bB, aS⟩ := v; exact Eq.trans (b := YA.m1 k (fun z0 => some z0) (fun v => L1 (YA.s1 v)) (aU, aN, aR, bB, aS) (fun aQ aL aP aM aV => YA.r2 k a0 a1 aQ aL aP aM aV L1 k)) (by kernel_rfl) (congrArg (YA.m1 k (fun z0 => some z0) (fun v => L1 (YA.s1 v)) (aU, aN, aR, bB, aS)) (funext fun aQ => funext fun aL => funext fun aP => funext fun aM => funext fun aV => funext fun v => YA.l2_eq k a0 a1 aQ aL aP aM aV L1 k v))
theorem YA.l0_eq (k : Nat) (a0 a1 aA aB : LD) (aH : LC) : ∀ n v, YA.r0 k a0 a1 aA aB aH n v = Zo (YA.l0 k aA aB aH (fun z0 => some z0)) n v :=
 Zm (YA.s0 aA aB aH) _ fun L0 v => by obtain ⟨aE, aI⟩ := v; exact Eq.trans (b := YA.m0 k aA aB aH (fun z0 => some z0) (fun v => L0 (YA.s0 aA aB aH v)) (aE, aI) (YA.r1 k a0 a1 k)) (by kernel_rfl) (congrArg (YA.m0 k aA aB aH (fun z0 => some z0) (fun v => L0 (YA.s0 aA aB aH v)) (aE, aI)) (funext fun v => YA.l1_eq k a0 a1 k v))
theorem YA.ok (k : Nat) : Za Tryz.prog 23 (YA.e k) := Zh (YA.p k) mix tyok Tryz.func23 ⟨Yaa.ok k, Yz.ok k⟩ (by kernel_rfl) (fun a0 a1 => Eq.trans (b := YA.m k a0 a1 (fun z0 => some z0) (fun aA aB aH => YA.r0 k a0 a1 aA aB aH k)) (by kernel_rfl) (congrArg (YA.m k a0 a1 (fun z0 => some z0)) (funext fun aA => funext fun aB => funext fun aH => funext fun v => YA.l0_eq k a0 a1 aA aB aH k v)))
noncomputable def Yaw.g {β : Type} (k : Nat) (a0 a1 a2 : Int) (K : Bool → Option β) : Option β :=
 bif (decide ((a0 : Int) ≥ a1)) then (K (decide ((a0 : Int) ≤ a2))) else (K false)
noncomputable def Yaw.t (k : Nat) (a0 a1 a2 : Int) : Option (Bool) := Yaw.g k a0 a1 a2 (fun z0 => some z0)
noncomputable def Yaw.f {β : Type} (k : Nat) (a0 a1 a2 : Int) (K : Bool → Option β) : Option β := bd1 (Yaw.t k a0 a1 a2) K
noncomputable def Yaw.e (k : Nat) : Zk := ent [.d .n, .d .n, .d .n] [1] [.b] [4] false (Yaw.t k)
noncomputable def Yaw.p (k : Nat) : Pro := ⟨Tryz.prog, [], Zn [] false [], k⟩
theorem Yaw.ok (k : Nat) : Za Tryz.prog 169 (Yaw.e k) := Zh (Yaw.p k) mix tyok Tryz.func169 trivial (by kernel_rfl) (fun a0 a1 a2 => by show _ = _; kernel_rfl)
noncomputable def Y2.l0 {β : Type} (k : Nat) (aA : BA) (aB : Int) (K : Bool → Option β) (L0 : Int → Option β) (v : Int) : Option β :=
 match v with
 | aE => bif (decide ((aE : Int) < aB)) then (Za0 aA aE fun b5 => let J1 := (bif ((b5 : Int) != 45) then (K false) else (L0 (IntKind.wrap .i64 (aE + 1)))); let J0 := (bif (decide ((b5 : Int) < 48)) then J1 else (bif (decide ((b5 : Int) > 57)) then J1 else (L0 (IntKind.wrap .i64 (aE + 1))))); bif (decide ((b5 : Int) < 97)) then J0 else (bif (decide ((b5 : Int) > 122)) then J0 else (L0 (IntKind.wrap .i64 (aE + 1))))) else (Yaw.f k (aA.size : Int) 1 20 (fun y6 => bif y6 then (Za0 aA 0 fun b7 => bif ((b7 : Int) != 45) then (Za0 aA (IntKind.wrap .i64 ((aA.size : Int) - 1)) fun b8 => K ((b8 : Int) != 45)) else (K false)) else (K false)))
noncomputable def Y2.m {β : Type} (k : Nat) (a0 : BA) (K : Bool → Option β) (F : (BA → Int → Int → Option β)) : Option β :=
 F a0 (a0.size : Int) (0)
noncomputable def Y2.g {β : Type} (k : Nat) (a0 : BA) (K : Bool → Option β) : Option β :=
 Zo (Y2.l0 k a0 (a0.size : Int) K) k (0)
noncomputable def Y2.t (k : Nat) (a0 : BA) : Option (Bool) := Y2.g k a0 (fun z0 => some z0)
noncomputable def Y2.f {β : Type} (k : Nat) (a0 : BA) (K : Bool → Option β) : Option β := bd1 (Y2.t k a0) K
noncomputable def Y2.e (k : Nat) : Zk := ent [.d .s] [1] [.b] [4] false (Y2.t k)
noncomputable def Y2.p (k : Nat) : Pro := ⟨Tryz.prog, [(169, Yaw.e k)], Zn [(2, kp [0, 6, 7])] false [], k⟩
noncomputable def Y2.d (k : Nat) (a0 : BA) : Ex → St → Option (Bool) := (Y2.p k).fin Tryz.f193 [.d (.str a0)] [1] [.b]
noncomputable def Y2.s0 (aA : BA) (aB v : Int) : St :=
 match v with
 | aE => ZX 48 [(0, .d false (.str aA)), (6, .d true (.int .i64 aB)), (7, .d true (.int .i64 aE))] []
noncomputable def Y2.r0 (k : Nat) (a0 aA : BA) (aB : Int) (n : Nat) (v : Int) : Option (Bool) := (Y2.p k).lp (Zt Tryz.f193) 2 [1, 0, 1, 0] (Y2.d k a0) n (Y2.s0 aA aB v)
theorem Y2.l0_eq (k : Nat) (a0 aA : BA) (aB : Int) : ∀ n v, Y2.r0 k a0 aA aB n v = Zo (Y2.l0 k aA aB (fun z0 => some z0)) n v :=
 Zm (Y2.s0 aA aB) _ fun L0 v => by kernel_rfl
theorem Y2.ok (k : Nat) : Za Tryz.prog 193 (Y2.e k) := Zh (Y2.p k) mix tyok Tryz.func193 (Yaw.ok k) (by kernel_rfl) (fun a0 => Eq.trans (b := Y2.m k a0 (fun z0 => some z0) (fun aA aB => Y2.r0 k a0 aA aB k)) (by kernel_rfl) (congrArg (Y2.m k a0 (fun z0 => some z0)) (funext fun aA => funext fun aB => funext fun v => Y2.l0_eq k a0 aA aB k v)))
noncomputable def YaB.g {β : Type} (k : Nat) (a0 : Int) (K : Bool → Option β) : Option β :=
 Yaw.f k a0 0 10000 (fun y1 => K y1)
noncomputable def YaB.t (k : Nat) (a0 : Int) : Option (Bool) := YaB.g k a0 (fun z0 => some z0)
noncomputable def YaB.f {β : Type} (k : Nat) (a0 : Int) (K : Bool → Option β) : Option β := bd1 (YaB.t k a0) K
noncomputable def YaB.e (k : Nat) : Zk := ent [.d .n] [1] [.b] [4] false (YaB.t k)
noncomputable def YaB.p (k : Nat) : Pro := ⟨Tryz.prog, [(169, Yaw.e k)], Zn [] false [], k⟩
theorem YaB.ok (k : Nat) : Za Tryz.prog 147 (YaB.e k) := Zh (YaB.p k) mix tyok Tryz.func147 (Yaw.ok k) (by kernel_rfl) (fun a0 => by show _ = _; kernel_rfl)
noncomputable def YS.l0 {β : Type} (k : Nat) (aA : LD) (aB : Int) (aE : LD) (aH : Int) (K : Bool → Option β) (L0 : Int → Option β) (v : Int) : Option β :=
 match v with
 | aI => bif (decide ((aI : Int) < aH)) then (atR aE aI [.s] fun x13 => (Y2.f k x13 (fun y14 => bif (!y14) then (K false) else (bif (decide ((aI : Int) > 0)) then (atR aA (IntKind.wrap .i64 (aI - 1)) [.s] fun x18 => (bif (!(ZbO x18 x13)) then (K false) else (L0 (IntKind.wrap .i64 (aI + 1))))) else (L0 (IntKind.wrap .i64 (aI + 1))))))) else (K (decide (((aA.length : Int) : Int) ≤ aB)))
noncomputable def YS.m {β : Type} (k : Nat) (a0 : LD) (a1 : Int) (K : Bool → Option β) (F : (LD → Int → LD → Int → Int → Option β)) : Option β :=
 F a0 a1 a0 (a0.length : Int) (0)
noncomputable def YS.g {β : Type} (k : Nat) (a0 : LD) (a1 : Int) (K : Bool → Option β) : Option β :=
 Zo (YS.l0 k a0 a1 a0 (a0.length : Int) K) k (0)
noncomputable def YS.t (k : Nat) (a0 : LD) (a1 : Int) : Option (Bool) := YS.g k a0 a1 (fun z0 => some z0)
noncomputable def YS.f {β : Type} (k : Nat) (a0 : LD) (a1 : Int) (K : Bool → Option β) : Option β := bd1 (YS.t k a0 a1) K
noncomputable def YS.e (k : Nat) : Zk := ent [.d .l, .d .n] [1] [.b] [4] false (YS.t k)
noncomputable def YS.p (k : Nat) : Pro := ⟨Tryz.prog, [(193, Y2.e k)], Zn [(2, kp [0, 1, 7, 8, 9])] false [], k⟩
noncomputable def YS.d (k : Nat) (a0 : LD) (a1 : Int) : Ex → St → Option (Bool) := (YS.p k).fin Tryz.f208 [.d (.sl a0), .d (.int .i64 a1)] [1] [.b]
noncomputable def YS.s0 (aA : LD) (aB : Int) (aE : LD) (aH v : Int) : St :=
 match v with
 | aI => ZX 35 [(0, .d false (.sl aA)), (1, .d false (.int .i64 aB)), (7, .d false (.sl aE)), (8, .d true (.int .i64 aH)), (9, .d true (.int .i64 aI))] []
noncomputable def YS.r0 (k : Nat) (a0 : LD) (a1 : Int) (aA : LD) (aB : Int) (aE : LD) (aH : Int) (n : Nat) (v : Int) : Option (Bool) := (YS.p k).lp (Zt Tryz.f208) 2 [1, 0, 1, 0] (YS.d k a0 a1) n (YS.s0 aA aB aE aH v)
theorem YS.l0_eq (k : Nat) (a0 : LD) (a1 : Int) (aA : LD) (aB : Int) (aE : LD) (aH : Int) : ∀ n v, YS.r0 k a0 a1 aA aB aE aH n v = Zo (YS.l0 k aA aB aE aH (fun z0 => some z0)) n v :=
 Zm (YS.s0 aA aB aE aH) _ fun L0 v => by kernel_rfl
theorem YS.ok (k : Nat) : Za Tryz.prog 208 (YS.e k) := Zh (YS.p k) mix tyok Tryz.func208 (Y2.ok k) (by kernel_rfl) (fun a0 a1 => Eq.trans (b := YS.m k a0 a1 (fun z0 => some z0) (fun aA aB aE aH => YS.r0 k a0 a1 aA aB aE aH k)) (by kernel_rfl) (congrArg (YS.m k a0 a1 (fun z0 => some z0)) (funext fun aA => funext fun aB => funext fun aE => funext fun aH => funext fun v => YS.l0_eq k a0 a1 aA aB aE aH k v)))
noncomputable def Ya5.g {β : Type} (k : Nat) (aC : Int) (aD : BA) (aF : LD) (K : Bool → Option β) : Option β :=
 bif ((aC : Int) == 1) then (bif ((aC : Int) == 1) then (bif (((aF.length : Int) : Int) == 1) then (Y2.f k aD (fun y1 => bif y1 then (YS.f k aF 6 (fun y19 => K y19)) else (K false))) else (K false)) else (bif ((aC : Int) == 3) then (bif (decide (((aF.length : Int) : Int) ≥ 1)) then (Y2.f k aD (fun y20 => bif y20 then (YS.f k aF 6 (fun y21 => K y21)) else (K false))) else (K false)) else (bif ((aC : Int) == 4) then (bif ((aC : Int) == 4) then (bif (((aF.length : Int) : Int) == 0) then (Y2.f k aD (fun y22 => bif y22 then (YS.f k aF 6 (fun y23 => K y23)) else (K false))) else (K false)) else (K false)) else (bif ((aC : Int) == 5) then (bif (((aF.length : Int) : Int) == 0) then (Y2.f k aD (fun y24 => bif y24 then (YS.f k aF 6 (fun y25 => K y25)) else (K false))) else (K false)) else (K false))))) else (bif ((aC : Int) == 2) then (bif (((aF.length : Int) : Int) == 1) then (Y2.f k aD (fun y26 => bif y26 then (YS.f k aF 6 (fun y27 => K y27)) else (K false))) else (K false)) else (bif ((aC : Int) == 3) then (bif (decide (((aF.length : Int) : Int) ≥ 1)) then (Y2.f k aD (fun y28 => bif y28 then (YS.f k aF 6 (fun y29 => K y29)) else (K false))) else (K false)) else (bif ((aC : Int) == 4) then (bif ((aC : Int) == 4) then (bif (((aF.length : Int) : Int) == 0) then (Y2.f k aD (fun y30 => bif y30 then (YS.f k aF 6 (fun y31 => K y31)) else (K false))) else (K false)) else (K false)) else (bif ((aC : Int) == 5) then (bif (((aF.length : Int) : Int) == 0) then (Y2.f k aD (fun y32 => bif y32 then (YS.f k aF 6 (fun y33 => K y33)) else (K false))) else (K false)) else (K false)))))
noncomputable def Ya5.t (k : Nat) (aC : Int) (aD : BA) (aF : LD) : Option (Bool) := Ya5.g k aC aD aF (fun z0 => some z0)
noncomputable def Ya5.f {β : Type} (k : Nat) (aC : Int) (aD : BA) (aF : LD) (K : Bool → Option β) : Option β := bd1 (Ya5.t k aC aD aF) K
noncomputable def Ya5.e (k : Nat) : Zk := ent [.agg [.n, .s, .l]] [1] [.b] [4] false (Ya5.t k)
noncomputable def Ya5.p (k : Nat) : Pro := ⟨Tryz.prog, [(193, Y2.e k), (208, YS.e k)], Zn [] false [], k⟩
theorem Ya5.ok (k : Nat) : Za Tryz.prog 251 (Ya5.e k) := Zh (Ya5.p k) mix tyok Tryz.func251 ⟨Y2.ok k, YS.ok k⟩ (by kernel_rfl) (fun aC aD aF => by show _ = _; kernel_rfl)
noncomputable def Yay.g {β : Type} (k : Nat) (aC : Int) (aD : BA) (aF : LD) (K : Bool → Option β) : Option β :=
 Ya5.f k aC aD aF (fun y34 => K (!y34))
noncomputable def Yay.t (k : Nat) (aC : Int) (aD : BA) (aF : LD) : Option (Bool) := Yay.g k aC aD aF (fun z0 => some z0)
noncomputable def Yay.f {β : Type} (k : Nat) (aC : Int) (aD : BA) (aF : LD) (K : Bool → Option β) : Option β := bd1 (Yay.t k aC aD aF) K
noncomputable def Yay.e (k : Nat) : Zk := ent [.agg [.n, .s, .l]] [1] [.b] [4] false (Yay.t k)
noncomputable def Yay.p (k : Nat) : Pro := ⟨Tryz.prog, [(251, Ya5.e k)], Zn [] false [], k⟩
theorem Yay.ok (k : Nat) : Za Tryz.prog 250 (Yay.e k) := Zh (Yay.p k) mix tyok Tryz.func250 (Ya5.ok k) (by kernel_rfl) (fun aC aD aF => by show _ = _; kernel_rfl)
noncomputable def Yd.l0 {β : Type} (k : Nat) (aA : LD) (aB : Int) (K L0 : Int → Option β) (v : Int) : Option β :=
 match v with
 | aE => bif (decide ((aE : Int) < aB)) then (atR aA aE [.n, .s, .l] fun x39 x42 x45 => (Yay.f k x39 x42 x45 (fun y46 => bif y46 then (K aE) else (L0 (IntKind.wrap .i64 (aE + 1)))))) else (K (-1))
noncomputable def Yd.m {β : Type} (k : Nat) (a0 : LD) (K : Int → Option β) (F : (LD → Int → Int → Option β)) : Option β :=
 F a0 (a0.length : Int) (0)
noncomputable def Yd.g {β : Type} (k : Nat) (a0 : LD) (K : Int → Option β) : Option β :=
 Zo (Yd.l0 k a0 (a0.length : Int) K) k (0)
noncomputable def Yd.t (k : Nat) (a0 : LD) : Option (Int) := Yd.g k a0 (fun z0 => some z0)
noncomputable def Yd.f {β : Type} (k : Nat) (a0 : LD) (K : Int → Option β) : Option β := bd1 (Yd.t k a0) K
noncomputable def Yd.e (k : Nat) : Zk := ent [.d .l, .fn 250 []] [1] [.n] [3] false (Yd.t k)
noncomputable def Yd.p (k : Nat) : Pro := ⟨Tryz.prog, [(250, Yay.e k)], Zn [(2, kp [0, 1, 7, 8])] false [], k⟩
noncomputable def Yd.d (k : Nat) (a0 : LD) : Ex → St → Option (Int) := (Yd.p k).fin Tryz.f252 [.d (.sl a0), .d (.fn 250 [])] [1] [.n]
noncomputable def Yd.s0 (aA : LD) (aB v : Int) : St :=
 match v with
 | aE => ZX 19 [(0, .d false (.sl aA)), (1, .d false (.fn 250 [])), (7, .d true (.int .i64 aB)), (8, .d true (.int .i64 aE))] []
noncomputable def Yd.r0 (k : Nat) (a0 aA : LD) (aB : Int) (n : Nat) (v : Int) : Option (Int) := (Yd.p k).lp (Zt Tryz.f252) 2 [1, 0, 1, 0] (Yd.d k a0) n (Yd.s0 aA aB v)
theorem Yd.l0_eq (k : Nat) (a0 aA : LD) (aB : Int) : ∀ n v, Yd.r0 k a0 aA aB n v = Zo (Yd.l0 k aA aB (fun z0 => some z0)) n v :=
 Zm (Yd.s0 aA aB) _ fun L0 v => by kernel_rfl
theorem Yd.ok (k : Nat) : Za Tryz.prog 252 (Yd.e k) := Zh (Yd.p k) mix tyok Tryz.func252 (Yay.ok k) (by kernel_rfl) (fun a0 => Eq.trans (b := Yd.m k a0 (fun z0 => some z0) (fun aA aB => Yd.r0 k a0 aA aB k)) (by kernel_rfl) (congrArg (Yd.m k a0 (fun z0 => some z0)) (funext fun aA => funext fun aB => funext fun v => Yd.l0_eq k a0 aA aB k v)))
noncomputable def Yo.g {β : Type} (k : Nat) (a0 : LD) (K : Bool → Option β) : Option β :=
 Yd.f k a0 (fun y47 => K (decide ((y47 : Int) ≥ 0)))
noncomputable def Yo.t (k : Nat) (a0 : LD) : Option (Bool) := Yo.g k a0 (fun z0 => some z0)
noncomputable def Yo.f {β : Type} (k : Nat) (a0 : LD) (K : Bool → Option β) : Option β := bd1 (Yo.t k a0) K
noncomputable def Yo.e (k : Nat) : Zk := ent [.d .l, .fn 250 []] [1] [.b] [4] false (Yo.t k)
noncomputable def Yo.p (k : Nat) : Pro := ⟨Tryz.prog, [(252, Yd.e k)], Zn [] false [], k⟩
theorem Yo.ok (k : Nat) : Za Tryz.prog 212 (Yo.e k) := Zh (Yo.p k) mix tyok Tryz.func212 (Yd.ok k) (by kernel_rfl) (fun a0 => by show _ = _; kernel_rfl)
noncomputable def Yax.g {β : Type} (k : Nat) (a0 : LD) (K : Bool → Option β) : Option β :=
 bif (decide (((a0.length : Int) : Int) ≤ 8)) then (Yo.f k a0 (fun y48 => K (!y48))) else (K false)
noncomputable def Yax.t (k : Nat) (a0 : LD) : Option (Bool) := Yax.g k a0 (fun z0 => some z0)
noncomputable def Yax.f {β : Type} (k : Nat) (a0 : LD) (K : Bool → Option β) : Option β := bd1 (Yax.t k a0) K
noncomputable def Yax.e (k : Nat) : Zk := ent [.d .l] [1] [.b] [4] false (Yax.t k)
noncomputable def Yax.p (k : Nat) : Pro := ⟨Tryz.prog, [(212, Yo.e k)], Zn [] false [], k⟩
theorem Yax.ok (k : Nat) : Za Tryz.prog 207 (Yax.e k) := Zh (Yax.p k) mix tyok Tryz.func207 (Yo.ok k) (by kernel_rfl) (fun a0 => by show _ = _; kernel_rfl)
noncomputable def Yat.l0 {β : Type} (k : Nat) (aA : LD) (aB aH : Int) (aI aJ aO : LD) (K : Bool → Option β) (L0 : Int → Option β) (v : Int) : Option β :=
 match v with
 | aE => bif (decide ((aE : Int) < aB)) then (atR aA aE [.s, .n] fun x54 x57 => (Y2.f k x54 (fun y58 => bif (!y58) then (K false) else (Yaw.f k x57 0 1000 (fun y59 => bif (!y59) then (K false) else (bif (decide ((aE : Int) > 0)) then (atR aO (IntKind.wrap .i64 (aE - 1)) [.s, .n] fun x63 x66 => (bif (!(ZbO x63 x54)) then (K false) else (L0 (IntKind.wrap .i64 (aE + 1))))) else (L0 (IntKind.wrap .i64 (aE + 1))))))))) else (YaB.f k aH (fun y67 => bif y67 then (Yax.f k aI (fun y68 => bif y68 then (YS.f k aJ 8 (fun y69 => bif y69 then (K (decide (((aO.length : Int) : Int) ≤ 12))) else (K false))) else (K false))) else (K false)))
noncomputable def Yat.m {β : Type} (k : Nat) (aC : Int) (aD aF aG : LD) (K : Bool → Option β) (F : (LD → Int → Int → LD → LD → LD → Int → Option β)) : Option β :=
 F aG (aG.length : Int) aC aD aF aG (0)
noncomputable def Yat.g {β : Type} (k : Nat) (aC : Int) (aD aF aG : LD) (K : Bool → Option β) : Option β :=
 Zo (Yat.l0 k aG (aG.length : Int) aC aD aF aG K) k (0)
noncomputable def Yat.t (k : Nat) (aC : Int) (aD aF aG : LD) : Option (Bool) := Yat.g k aC aD aF aG (fun z0 => some z0)
noncomputable def Yat.f {β : Type} (k : Nat) (aC : Int) (aD aF aG : LD) (K : Bool → Option β) : Option β := bd1 (Yat.t k aC aD aF aG) K
noncomputable def Yat.e (k : Nat) : Zk := ent [.agg [.n, .l, .l, .l]] [1] [.b] [4] false (Yat.t k)
noncomputable def Yat.p (k : Nat) : Pro := ⟨Tryz.prog, [(193, Y2.e k), (169, Yaw.e k), (147, YaB.e k), (207, Yax.e k), (208, YS.e k)], Zn [(2, kp [1, 6, 7, 8])] false [], k⟩
noncomputable def Yat.d (k : Nat) (aC : Int) (aD aF aG : LD) : Ex → St → Option (Bool) := (Yat.p k).fin Tryz.f141 [.agg [.int .i64 aC, .sl aD, .sl aF, .sl aG]] [1] [.b]
noncomputable def Yat.s0 (aA : LD) (aB aH : Int) (aI aJ aO : LD) (v : Int) : St :=
 match v with
 | aE => ZX 59 [(1, .bp 0 0), (6, .d false (.sl aA)), (7, .d true (.int .i64 aB)), (8, .d true (.int .i64 aE))] [.box none 35 [.d false (.int .i64 aH), .d false (.sl aI), .d false (.sl aJ), .d false (.sl aO)]]
noncomputable def Yat.r0 (k : Nat) (aC : Int) (aD aF aG aA : LD) (aB aH : Int) (aI aJ aO : LD) (n : Nat) (v : Int) : Option (Bool) := (Yat.p k).lp (Zt Tryz.f141) 2 [1, 0, 1, 0] (Yat.d k aC aD aF aG) n (Yat.s0 aA aB aH aI aJ aO v)
theorem Yat.l0_eq (k : Nat) (aC : Int) (aD aF aG aA : LD) (aB aH : Int) (aI aJ aO : LD) : ∀ n v, Yat.r0 k aC aD aF aG aA aB aH aI aJ aO n v = Zo (Yat.l0 k aA aB aH aI aJ aO (fun z0 => some z0)) n v :=
 Zm (Yat.s0 aA aB aH aI aJ aO) _ fun L0 v => by kernel_rfl
theorem Yat.ok (k : Nat) : Za Tryz.prog 141 (Yat.e k) := Zh (Yat.p k) mix tyok Tryz.func141 ⟨Y2.ok k, Yaw.ok k, YaB.ok k, Yax.ok k, YS.ok k⟩ (by kernel_rfl) (fun aC aD aF aG => Eq.trans (b := Yat.m k aC aD aF aG (fun z0 => some z0) (fun aA aB aH aI aJ aO => Yat.r0 k aC aD aF aG aA aB aH aI aJ aO k)) (by kernel_rfl) (congrArg (Yat.m k aC aD aF aG (fun z0 => some z0)) (funext fun aA => funext fun aB => funext fun aH => funext fun aI => funext fun aJ => funext fun aO => funext fun v => Yat.l0_eq k aC aD aF aG aA aB aH aI aJ aO k v)))
noncomputable def Yac.l0 {β : Type} (k : Nat) (aA aB : LD) (aE : Int) (K : Bool → Option β) (L0 : Int → Option β) (v : Int) : Option β :=
 match v with
 | aH => bif (decide ((aH : Int) < aE)) then (atR aB aH [.s, .s] fun x20 x23 => (Y2.f k x20 (fun y24 => bif (!y24) then (K false) else (Y2.f k x23 (fun y25 => bif (!y25) then (K false) else (bif (decide ((aH : Int) > 0)) then (atR aA (IntKind.wrap .i64 (aH - 1)) [.s, .s] fun x29 x32 => (bif (!(ZbO x29 x20)) then (K false) else (L0 (IntKind.wrap .i64 (aH + 1))))) else (L0 (IntKind.wrap .i64 (aH + 1))))))))) else (K (decide (((aA.length : Int) : Int) ≤ 8)))
noncomputable def Yac.m {β : Type} (k : Nat) (a0 : LD) (K : Bool → Option β) (F : (LD → LD → Int → Int → Option β)) : Option β :=
 F a0 a0 (a0.length : Int) (0)
noncomputable def Yac.g {β : Type} (k : Nat) (a0 : LD) (K : Bool → Option β) : Option β :=
 Zo (Yac.l0 k a0 a0 (a0.length : Int) K) k (0)
noncomputable def Yac.t (k : Nat) (a0 : LD) : Option (Bool) := Yac.g k a0 (fun z0 => some z0)
noncomputable def Yac.f {β : Type} (k : Nat) (a0 : LD) (K : Bool → Option β) : Option β := bd1 (Yac.t k a0) K
noncomputable def Yac.e (k : Nat) : Zk := ent [.d .l] [1] [.b] [4] false (Yac.t k)
noncomputable def Yac.p (k : Nat) : Pro := ⟨Tryz.prog, [(193, Y2.e k)], Zn [(2, kp [0, 5, 6, 7])] false [], k⟩
noncomputable def Yac.d (k : Nat) (a0 : LD) : Ex → St → Option (Bool) := (Yac.p k).fin Tryz.f210 [.d (.sl a0)] [1] [.b]
noncomputable def Yac.s0 (aA aB : LD) (aE v : Int) : St :=
 match v with
 | aH => ZX 41 [(0, .d false (.sl aA)), (5, .d false (.sl aB)), (6, .d true (.int .i64 aE)), (7, .d true (.int .i64 aH))] []
noncomputable def Yac.r0 (k : Nat) (a0 aA aB : LD) (aE : Int) (n : Nat) (v : Int) : Option (Bool) := (Yac.p k).lp (Zt Tryz.f210) 2 [1, 0, 1, 0] (Yac.d k a0) n (Yac.s0 aA aB aE v)
theorem Yac.l0_eq (k : Nat) (a0 aA aB : LD) (aE : Int) : ∀ n v, Yac.r0 k a0 aA aB aE n v = Zo (Yac.l0 k aA aB aE (fun z0 => some z0)) n v :=
 Zm (Yac.s0 aA aB aE) _ fun L0 v => by kernel_rfl
theorem Yac.ok (k : Nat) : Za Tryz.prog 210 (Yac.e k) := Zh (Yac.p k) mix tyok Tryz.func210 (Y2.ok k) (by kernel_rfl) (fun a0 => Eq.trans (b := Yac.m k a0 (fun z0 => some z0) (fun aA aB aE => Yac.r0 k a0 aA aB aE k)) (by kernel_rfl) (congrArg (Yac.m k a0 (fun z0 => some z0)) (funext fun aA => funext fun aB => funext fun aE => funext fun v => Yac.l0_eq k a0 aA aB aE k v)))
noncomputable def YaI.g {β : Type} (k : Nat) (aC : BA) (aD aF : LD) (aG : Int) (K : Bool → Option β) : Option β :=
 Y2.f k aC (fun y1 => bif y1 then (Yac.f k aD (fun y33 => bif y33 then (YS.f k aF 4 (fun y34 => bif y34 then (YaB.f k aG (fun y35 => K y35)) else (K false))) else (K false))) else (K false))
noncomputable def YaI.t (k : Nat) (aC : BA) (aD aF : LD) (aG : Int) : Option (Bool) := YaI.g k aC aD aF aG (fun z0 => some z0)
noncomputable def YaI.f {β : Type} (k : Nat) (aC : BA) (aD aF : LD) (aG : Int) (K : Bool → Option β) : Option β := bd1 (YaI.t k aC aD aF aG) K
noncomputable def YaI.e (k : Nat) : Zk := ent [.agg [.s, .l, .l, .n]] [1] [.b] [4] false (YaI.t k)
noncomputable def YaI.p (k : Nat) : Pro := ⟨Tryz.prog, [(193, Y2.e k), (210, Yac.e k), (208, YS.e k), (147, YaB.e k)], Zn [] false [], k⟩
theorem YaI.ok (k : Nat) : Za Tryz.prog 144 (YaI.e k) := Zh (YaI.p k) mix tyok Tryz.func144 ⟨Y2.ok k, Yac.ok k, YS.ok k, YaB.ok k⟩ (by kernel_rfl) (fun aC aD aF aG => by show _ = _; kernel_rfl)
noncomputable def YaG.g {β : Type} (k : Nat) (aC : BA) (aD aF : LD) (aG : Int) (K : Bool → Option β) : Option β :=
 YaI.f k aC aD aF aG (fun y36 => K (!y36))
noncomputable def YaG.t (k : Nat) (aC : BA) (aD aF : LD) (aG : Int) : Option (Bool) := YaG.g k aC aD aF aG (fun z0 => some z0)
noncomputable def YaG.f {β : Type} (k : Nat) (aC : BA) (aD aF : LD) (aG : Int) (K : Bool → Option β) : Option β := bd1 (YaG.t k aC aD aF aG) K
noncomputable def YaG.e (k : Nat) : Zk := ent [.agg [.s, .l, .l, .n]] [1] [.b] [4] false (YaG.t k)
noncomputable def YaG.p (k : Nat) : Pro := ⟨Tryz.prog, [(144, YaI.e k)], Zn [] false [], k⟩
theorem YaG.ok (k : Nat) : Za Tryz.prog 143 (YaG.e k) := Zh (YaG.p k) mix tyok Tryz.func143 (YaI.ok k) (by kernel_rfl) (fun aC aD aF aG => by show _ = _; kernel_rfl)
noncomputable def Ye.l0 {β : Type} (k : Nat) (aA : LD) (aB : Int) (K L0 : Int → Option β) (v : Int) : Option β :=
 match v with
 | aE => bif (decide ((aE : Int) < aB)) then (atR aA aE [.s, .l, .l, .n] fun x41 x44 x47 x50 => (YaG.f k x41 x44 x47 x50 (fun y51 => bif y51 then (K aE) else (L0 (IntKind.wrap .i64 (aE + 1)))))) else (K (-1))
noncomputable def Ye.m {β : Type} (k : Nat) (a0 : LD) (K : Int → Option β) (F : (LD → Int → Int → Option β)) : Option β :=
 F a0 (a0.length : Int) (0)
noncomputable def Ye.g {β : Type} (k : Nat) (a0 : LD) (K : Int → Option β) : Option β :=
 Zo (Ye.l0 k a0 (a0.length : Int) K) k (0)
noncomputable def Ye.t (k : Nat) (a0 : LD) : Option (Int) := Ye.g k a0 (fun z0 => some z0)
noncomputable def Ye.f {β : Type} (k : Nat) (a0 : LD) (K : Int → Option β) : Option β := bd1 (Ye.t k a0) K
noncomputable def Ye.e (k : Nat) : Zk := ent [.d .l, .fn 143 []] [1] [.n] [3] false (Ye.t k)
noncomputable def Ye.p (k : Nat) : Pro := ⟨Tryz.prog, [(143, YaG.e k)], Zn [(2, kp [0, 1, 7, 8])] false [], k⟩
noncomputable def Ye.d (k : Nat) (a0 : LD) : Ex → St → Option (Int) := (Ye.p k).fin Tryz.f209 [.d (.sl a0), .d (.fn 143 [])] [1] [.n]
noncomputable def Ye.s0 (aA : LD) (aB v : Int) : St :=
 match v with
 | aE => ZX 19 [(0, .d false (.sl aA)), (1, .d false (.fn 143 [])), (7, .d true (.int .i64 aB)), (8, .d true (.int .i64 aE))] []
noncomputable def Ye.r0 (k : Nat) (a0 aA : LD) (aB : Int) (n : Nat) (v : Int) : Option (Int) := (Ye.p k).lp (Zt Tryz.f209) 2 [1, 0, 1, 0] (Ye.d k a0) n (Ye.s0 aA aB v)
theorem Ye.l0_eq (k : Nat) (a0 aA : LD) (aB : Int) : ∀ n v, Ye.r0 k a0 aA aB n v = Zo (Ye.l0 k aA aB (fun z0 => some z0)) n v :=
 Zm (Ye.s0 aA aB) _ fun L0 v => by kernel_rfl
theorem Ye.ok (k : Nat) : Za Tryz.prog 209 (Ye.e k) := Zh (Ye.p k) mix tyok Tryz.func209 (YaG.ok k) (by kernel_rfl) (fun a0 => Eq.trans (b := Ye.m k a0 (fun z0 => some z0) (fun aA aB => Ye.r0 k a0 aA aB k)) (by kernel_rfl) (congrArg (Ye.m k a0 (fun z0 => some z0)) (funext fun aA => funext fun aB => funext fun v => Ye.l0_eq k a0 aA aB k v)))
noncomputable def Yp.g {β : Type} (k : Nat) (a0 : LD) (K : Bool → Option β) : Option β :=
 Ye.f k a0 (fun y52 => K (decide ((y52 : Int) ≥ 0)))
noncomputable def Yp.t (k : Nat) (a0 : LD) : Option (Bool) := Yp.g k a0 (fun z0 => some z0)
noncomputable def Yp.f {β : Type} (k : Nat) (a0 : LD) (K : Bool → Option β) : Option β := bd1 (Yp.t k a0) K
noncomputable def Yp.e (k : Nat) : Zk := ent [.d .l, .fn 143 []] [1] [.b] [4] false (Yp.t k)
noncomputable def Yp.p (k : Nat) : Pro := ⟨Tryz.prog, [(209, Ye.e k)], Zn [] false [], k⟩
theorem Yp.ok (k : Nat) : Za Tryz.prog 142 (Yp.e k) := Zh (Yp.p k) mix tyok Tryz.func142 (Ye.ok k) (by kernel_rfl) (fun a0 => by show _ = _; kernel_rfl)
noncomputable def YaF.g {β : Type} (k : Nat) (a0 : Int) (K : Bool → Option β) : Option β :=
 YaB.f k a0 (fun y1 => K (!y1))
noncomputable def YaF.t (k : Nat) (a0 : Int) : Option (Bool) := YaF.g k a0 (fun z0 => some z0)
noncomputable def YaF.f {β : Type} (k : Nat) (a0 : Int) (K : Bool → Option β) : Option β := bd1 (YaF.t k a0) K
noncomputable def YaF.e (k : Nat) : Zk := ent [.d .n] [1] [.b] [4] false (YaF.t k)
noncomputable def YaF.p (k : Nat) : Pro := ⟨Tryz.prog, [(147, YaB.e k)], Zn [] false [], k⟩
theorem YaF.ok (k : Nat) : Za Tryz.prog 146 (YaF.e k) := Zh (YaF.p k) mix tyok Tryz.func146 (YaB.ok k) (by kernel_rfl) (fun a0 => by show _ = _; kernel_rfl)
noncomputable def Yj.l0 {β : Type} (k : Nat) (aA : LD) (aB : Int) (K L0 : Int → Option β) (v : Int) : Option β :=
 match v with
 | aE => bif (decide ((aE : Int) < aB)) then (atR aA aE [.n] fun x9 => (YaF.f k x9 (fun y10 => bif y10 then (K aE) else (L0 (IntKind.wrap .i64 (aE + 1)))))) else (K (-1))
noncomputable def Yj.m {β : Type} (k : Nat) (a0 : LD) (K : Int → Option β) (F : (LD → Int → Int → Option β)) : Option β :=
 F a0 (a0.length : Int) (0)
noncomputable def Yj.g {β : Type} (k : Nat) (a0 : LD) (K : Int → Option β) : Option β :=
 Zo (Yj.l0 k a0 (a0.length : Int) K) k (0)
noncomputable def Yj.t (k : Nat) (a0 : LD) : Option (Int) := Yj.g k a0 (fun z0 => some z0)
noncomputable def Yj.f {β : Type} (k : Nat) (a0 : LD) (K : Int → Option β) : Option β := bd1 (Yj.t k a0) K
noncomputable def Yj.e (k : Nat) : Zk := ent [.d .l, .fn 146 []] [1] [.n] [3] false (Yj.t k)
noncomputable def Yj.p (k : Nat) : Pro := ⟨Tryz.prog, [(146, YaF.e k)], Zn [(2, kp [0, 1, 7, 8])] false [], k⟩
noncomputable def Yj.d (k : Nat) (a0 : LD) : Ex → St → Option (Int) := (Yj.p k).fin Tryz.f211 [.d (.sl a0), .d (.fn 146 [])] [1] [.n]
noncomputable def Yj.s0 (aA : LD) (aB v : Int) : St :=
 match v with
 | aE => ZX 19 [(0, .d false (.sl aA)), (1, .d false (.fn 146 [])), (7, .d true (.int .i64 aB)), (8, .d true (.int .i64 aE))] []
noncomputable def Yj.r0 (k : Nat) (a0 aA : LD) (aB : Int) (n : Nat) (v : Int) : Option (Int) := (Yj.p k).lp (Zt Tryz.f211) 2 [1, 0, 1, 0] (Yj.d k a0) n (Yj.s0 aA aB v)
theorem Yj.l0_eq (k : Nat) (a0 aA : LD) (aB : Int) : ∀ n v, Yj.r0 k a0 aA aB n v = Zo (Yj.l0 k aA aB (fun z0 => some z0)) n v :=
 Zm (Yj.s0 aA aB) _ fun L0 v => by kernel_rfl
theorem Yj.ok (k : Nat) : Za Tryz.prog 211 (Yj.e k) := Zh (Yj.p k) mix tyok Tryz.func211 (YaF.ok k) (by kernel_rfl) (fun a0 => Eq.trans (b := Yj.m k a0 (fun z0 => some z0) (fun aA aB => Yj.r0 k a0 aA aB k)) (by kernel_rfl) (congrArg (Yj.m k a0 (fun z0 => some z0)) (funext fun aA => funext fun aB => funext fun v => Yj.l0_eq k a0 aA aB k v)))
noncomputable def YE.g {β : Type} (k : Nat) (a0 : LD) (K : Bool → Option β) : Option β :=
 Yj.f k a0 (fun y11 => K (decide ((y11 : Int) ≥ 0)))
noncomputable def YE.t (k : Nat) (a0 : LD) : Option (Bool) := YE.g k a0 (fun z0 => some z0)
noncomputable def YE.f {β : Type} (k : Nat) (a0 : LD) (K : Bool → Option β) : Option β := bd1 (YE.t k a0) K
noncomputable def YE.e (k : Nat) : Zk := ent [.d .l, .fn 146 []] [1] [.b] [4] false (YE.t k)
noncomputable def YE.p (k : Nat) : Pro := ⟨Tryz.prog, [(211, Yj.e k)], Zn [] false [], k⟩
theorem YE.ok (k : Nat) : Za Tryz.prog 145 (YE.e k) := Zh (YE.p k) mix tyok Tryz.func145 (Yj.ok k) (by kernel_rfl) (fun a0 => by show _ = _; kernel_rfl)
noncomputable def YaH.g {β : Type} (k : Nat) (aC : Int) (aD aF aG a1 a2 : LD) (K : Bool → Option β) : Option β :=
 Yat.f k aC aD aF aG (fun y70 => bif y70 then (bif (decide (((a1.length : Int) : Int) ≤ 12)) then (bif (((a2.length : Int) : Int) == (a1.length : Int)) then (Yp.f k a1 (fun y71 => bif (!y71) then (YE.f k a2 (fun y72 => K (!y72))) else (K false))) else (K false)) else (K false)) else (K false))
noncomputable def YaH.t (k : Nat) (aC : Int) (aD aF aG a1 a2 : LD) : Option (Bool) := YaH.g k aC aD aF aG a1 a2 (fun z0 => some z0)
noncomputable def YaH.f {β : Type} (k : Nat) (aC : Int) (aD aF aG a1 a2 : LD) (K : Bool → Option β) : Option β := bd1 (YaH.t k aC aD aF aG a1 a2) K
noncomputable def YaH.e (k : Nat) : Zk := ent [.agg [.n, .l, .l, .l], .d .l, .d .l] [1] [.b] [4] false (YaH.t k)
noncomputable def YaH.p (k : Nat) : Pro := ⟨Tryz.prog, [(141, Yat.e k), (142, Yp.e k), (145, YE.e k)], Zn [] false [], k⟩
theorem YaH.ok (k : Nat) : Za Tryz.prog 69 (YaH.e k) := Zh (YaH.p k) mix tyok Tryz.func69 ⟨Yat.ok k, Yp.ok k, YE.ok k⟩ (by kernel_rfl) (fun aC aD aF aG a1 a2 => by show _ = _; kernel_rfl)
noncomputable def Yaq.l0 {β : Type} (k : Nat) (aA : BA) (aB : LD) (aE : Int) (K : BA → Bool → Option β) (L0 : Int → Option β) (v : Int) : Option β :=
 match v with
 | aH => bif (decide ((aH : Int) < aE)) then (atR aB aH [.s, .s] fun x11 x14 => (bif (Zae x11 aA) then (K x14 true) else (L0 (IntKind.wrap .i64 (aH + 1))))) else (K (⟨#[]⟩ : BA) false)
noncomputable def Yaq.m {β : Type} (k : Nat) (a0 : LD) (a1 : BA) (K : BA → Bool → Option β) (F : (BA → LD → Int → Int → Option β)) : Option β :=
 F a1 a0 (a0.length : Int) (0)
noncomputable def Yaq.g {β : Type} (k : Nat) (a0 : LD) (a1 : BA) (K : BA → Bool → Option β) : Option β :=
 Zo (Yaq.l0 k a1 a0 (a0.length : Int) K) k (0)
noncomputable def Yaq.t (k : Nat) (a0 : LD) (a1 : BA) : Option (BA × Bool) := Yaq.g k a0 a1 (fun z0 z1 => some (z0, z1))
noncomputable def Yaq.f {β : Type} (k : Nat) (a0 : LD) (a1 : BA) (K : BA → Bool → Option β) : Option β := bd2 (Yaq.t k a0 a1) K
noncomputable def Yaq.e (k : Nat) : Zk := ent [.d .l, .d .s] [1, 1] [.s, .b] [9, 4] false (Yaq.t k)
noncomputable def Yaq.p (k : Nat) : Pro := ⟨Tryz.prog, [], Zn [(2, kp [1, 8, 9, 10])] false [], k⟩
noncomputable def Yaq.d (k : Nat) (a0 : LD) (a1 : BA) : Ex → St → Option (BA × Bool) := (Yaq.p k).fin Tryz.f253 [.d (.sl a0), .d (.str a1)] [1, 1] [.s, .b]
noncomputable def Yaq.s0 (aA : BA) (aB : LD) (aE v : Int) : St :=
 match v with
 | aH => ZX 21 [(1, .d false (.str aA)), (8, .d false (.sl aB)), (9, .d true (.int .i64 aE)), (10, .d true (.int .i64 aH))] []
noncomputable def Yaq.r0 (k : Nat) (a0 : LD) (a1 aA : BA) (aB : LD) (aE : Int) (n : Nat) (v : Int) : Option (BA × Bool) := (Yaq.p k).lp (Zt Tryz.f253) 2 [1, 0, 1, 0] (Yaq.d k a0 a1) n (Yaq.s0 aA aB aE v)
theorem Yaq.l0_eq (k : Nat) (a0 : LD) (a1 aA : BA) (aB : LD) (aE : Int) : ∀ n v, Yaq.r0 k a0 a1 aA aB aE n v = Zo (Yaq.l0 k aA aB aE (fun z0 z1 => some (z0, z1))) n v :=
 Zm (Yaq.s0 aA aB aE) _ fun L0 v => by kernel_rfl
theorem Yaq.ok (k : Nat) : Za Tryz.prog 253 (Yaq.e k) := Zh (Yaq.p k) mix tyok Tryz.func253 trivial (by kernel_rfl) (fun a0 a1 => Eq.trans (b := Yaq.m k a0 a1 (fun z0 z1 => some (z0, z1)) (fun aA aB aE => Yaq.r0 k a0 a1 aA aB aE k)) (by kernel_rfl) (congrArg (Yaq.m k a0 a1 (fun z0 z1 => some (z0, z1))) (funext fun aA => funext fun aB => funext fun aE => funext fun v => Yaq.l0_eq k a0 a1 aA aB aE k v)))
noncomputable def YJ.l0 {β : Type} (k : Nat) (aA : LD) (aB : BA) (aE : Int) (K L0 : Int → Option β) (v : Int) : Option β :=
 match v with
 | aH => bif (decide ((aH : Int) < aE)) then (atR aA aH [.s] fun x8 => (bif (Zae aB x8) then (K aH) else (L0 (IntKind.wrap .i64 (aH + 1))))) else (K (-1))
noncomputable def YJ.m {β : Type} (k : Nat) (a0 : LD) (a1 : BA) (K : Int → Option β) (F : (LD → BA → Int → Int → Option β)) : Option β :=
 F a0 a1 (a0.length : Int) (0)
noncomputable def YJ.g {β : Type} (k : Nat) (a0 : LD) (a1 : BA) (K : Int → Option β) : Option β :=
 Zo (YJ.l0 k a0 a1 (a0.length : Int) K) k (0)
noncomputable def YJ.t (k : Nat) (a0 : LD) (a1 : BA) : Option (Int) := YJ.g k a0 a1 (fun z0 => some z0)
noncomputable def YJ.f {β : Type} (k : Nat) (a0 : LD) (a1 : BA) (K : Int → Option β) : Option β := bd1 (YJ.t k a0 a1) K
noncomputable def YJ.e (k : Nat) : Zk := ent [.d .l, .d .s] [1] [.n] [3] false (YJ.t k)
noncomputable def YJ.p (k : Nat) : Pro := ⟨Tryz.prog, [], Zn [(2, kp [0, 1, 7, 8])] false [], k⟩
noncomputable def YJ.d (k : Nat) (a0 : LD) (a1 : BA) : Ex → St → Option (Int) := (YJ.p k).fin Tryz.f216 [.d (.sl a0), .d (.str a1)] [1] [.n]
noncomputable def YJ.s0 (aA : LD) (aB : BA) (aE v : Int) : St :=
 match v with
 | aH => ZX 19 [(0, .d false (.sl aA)), (1, .d false (.str aB)), (7, .d true (.int .i64 aE)), (8, .d true (.int .i64 aH))] []
noncomputable def YJ.r0 (k : Nat) (a0 : LD) (a1 : BA) (aA : LD) (aB : BA) (aE : Int) (n : Nat) (v : Int) : Option (Int) := (YJ.p k).lp (Zt Tryz.f216) 2 [1, 0, 1, 0] (YJ.d k a0 a1) n (YJ.s0 aA aB aE v)
theorem YJ.l0_eq (k : Nat) (a0 : LD) (a1 : BA) (aA : LD) (aB : BA) (aE : Int) : ∀ n v, YJ.r0 k a0 a1 aA aB aE n v = Zo (YJ.l0 k aA aB aE (fun z0 => some z0)) n v :=
 Zm (YJ.s0 aA aB aE) _ fun L0 v => by kernel_rfl
theorem YJ.ok (k : Nat) : Za Tryz.prog 216 (YJ.e k) := Zh (YJ.p k) mix tyok Tryz.func216 trivial (by kernel_rfl) (fun a0 a1 => Eq.trans (b := YJ.m k a0 a1 (fun z0 => some z0) (fun aA aB aE => YJ.r0 k a0 a1 aA aB aE k)) (by kernel_rfl) (congrArg (YJ.m k a0 a1 (fun z0 => some z0)) (funext fun aA => funext fun aB => funext fun aE => funext fun v => YJ.l0_eq k a0 a1 aA aB aE k v)))
noncomputable def Y8.g {β : Type} (k : Nat) (a0 : LD) (a1 : BA) (K : Bool → Option β) : Option β :=
 YJ.f k a0 a1 (fun y9 => K (decide ((y9 : Int) ≥ 0)))
noncomputable def Y8.t (k : Nat) (a0 : LD) (a1 : BA) : Option (Bool) := Y8.g k a0 a1 (fun z0 => some z0)
noncomputable def Y8.f {β : Type} (k : Nat) (a0 : LD) (a1 : BA) (K : Bool → Option β) : Option β := bd1 (Y8.t k a0 a1) K
noncomputable def Y8.e (k : Nat) : Zk := ent [.d .l, .d .s] [1] [.b] [4] false (Y8.t k)
noncomputable def Y8.p (k : Nat) : Pro := ⟨Tryz.prog, [(216, YJ.e k)], Zn [] false [], k⟩
theorem Y8.ok (k : Nat) : Za Tryz.prog 151 (Y8.e k) := Zh (Y8.p k) mix tyok Tryz.func151 (YJ.ok k) (by kernel_rfl) (fun a0 a1 => by show _ = _; kernel_rfl)
noncomputable def Ya6.g {β : Type} (k : Nat) (aC : Int) (aD : BA) (aF a1 : LD) (K : Bool → Option β) : Option β :=
 Yaq.f k a1 aD (fun y15 y16 => bif y16 then (Y8.f k aF y15 (fun y17 => let J0 := (bif ((aC : Int) == 2) then (K (!y17)) else (bif ((aC : Int) == 4) then (K y16) else (K (!y16)))); bif ((aC : Int) == 1) then (bif ((aC : Int) == 1) then (K y17) else J0) else (bif ((aC : Int) == 3) then (K y17) else J0))) else (let J1 := (bif ((aC : Int) == 2) then (K true) else (bif ((aC : Int) == 4) then (K y16) else (K (!y16)))); bif ((aC : Int) == 1) then (bif ((aC : Int) == 1) then (K false) else J1) else (bif ((aC : Int) == 3) then (K false) else J1)))
noncomputable def Ya6.t (k : Nat) (aC : Int) (aD : BA) (aF a1 : LD) : Option (Bool) := Ya6.g k aC aD aF a1 (fun z0 => some z0)
noncomputable def Ya6.f {β : Type} (k : Nat) (aC : Int) (aD : BA) (aF a1 : LD) (K : Bool → Option β) : Option β := bd1 (Ya6.t k aC aD aF a1) K
noncomputable def Ya6.e (k : Nat) : Zk := ent [.agg [.n, .s, .l], .d .l] [1] [.b] [4] false (Ya6.t k)
noncomputable def Ya6.p (k : Nat) : Pro := ⟨Tryz.prog, [(253, Yaq.e k), (151, Y8.e k)], Zn [] false [], k⟩
theorem Ya6.ok (k : Nat) : Za Tryz.prog 214 (Ya6.e k) := Zh (Ya6.p k) mix tyok Tryz.func214 ⟨Yaq.ok k, Y8.ok k⟩ (by kernel_rfl) (fun aC aD aF a1 => by show _ = _; kernel_rfl)
noncomputable def YaP.g {β : Type} (k : Nat) (aC : Int) (aD : BA) (aF bU : LD) (K : Bool → Option β) : Option β :=
 Ya6.f k aC aD aF bU (fun y18 => K (!y18))
noncomputable def YaP.t (k : Nat) (aC : Int) (aD : BA) (aF bU : LD) : Option (Bool) := YaP.g k aC aD aF bU (fun z0 => some z0)
noncomputable def YaP.f {β : Type} (k : Nat) (aC : Int) (aD : BA) (aF bU : LD) (K : Bool → Option β) : Option β := bd1 (YaP.t k aC aD aF bU) K
noncomputable def YaP.e (k : Nat) : Zk := ent [.agg [.n, .s, .l], .ip [.l]] [1] [.b] [4] false (YaP.t k)
noncomputable def YaP.p (k : Nat) : Pro := ⟨Tryz.prog, [(214, Ya6.e k)], Zn [] false [], k⟩
theorem YaP.ok (k : Nat) : Za Tryz.prog 213 (YaP.e k) := Zh (YaP.p k) mix tyok Tryz.func213 (Ya6.ok k) (by kernel_rfl) (fun aC aD aF bU => by show _ = _; kernel_rfl)
noncomputable def Yf.l0 {β : Type} (k : Nat) (aA aB : LD) (aE : Int) (K L0 : Int → Option β) (v : Int) : Option β :=
 match v with
 | aH => bif (decide ((aH : Int) < aE)) then (atR aA aH [.n, .s, .l] fun x23 x26 x29 => (YaP.f k x23 x26 x29 aB (fun y30 => bif y30 then (K aH) else (L0 (IntKind.wrap .i64 (aH + 1)))))) else (K (-1))
noncomputable def Yf.m {β : Type} (k : Nat) (a0 a1_0_0 : LD) (K : Int → Option β) (F : (LD → LD → Int → Int → Option β)) : Option β :=
 F a0 a1_0_0 (a0.length : Int) (0)
noncomputable def Yf.g {β : Type} (k : Nat) (a0 a1_0_0 : LD) (K : Int → Option β) : Option β :=
 Zo (Yf.l0 k a0 a1_0_0 (a0.length : Int) K) k (0)
noncomputable def Yf.t (k : Nat) (a0 a1_0_0 : LD) : Option (Int) := Yf.g k a0 a1_0_0 (fun z0 => some z0)
noncomputable def Yf.f {β : Type} (k : Nat) (a0 a1_0_0 : LD) (K : Int → Option β) : Option β := bd1 (Yf.t k a0 a1_0_0) K
noncomputable def Yf.e (k : Nat) : Zk := ent [.d .l, .fn 213 [[.l]]] [1] [.n] [3] false (Yf.t k)
noncomputable def Yf.p (k : Nat) : Pro := ⟨Tryz.prog, [(213, YaP.e k)], Zn [(2, kp [0, 1, 7, 8])] false [], k⟩
noncomputable def Yf.d (k : Nat) (a0 a1_0_0 : LD) : Ex → St → Option (Int) := (Yf.p k).fin Tryz.f252 [.d (.sl a0), .d (.fn 213 [[.sl a1_0_0]])] [1] [.n]
noncomputable def Yf.s0 (aA aB : LD) (aE v : Int) : St :=
 match v with
 | aH => ZX 19 [(0, .d false (.sl aA)), (1, .d false (.fn 213 [[.sl aB]])), (7, .d true (.int .i64 aE)), (8, .d true (.int .i64 aH))] []
noncomputable def Yf.r0 (k : Nat) (a0 a1_0_0 aA aB : LD) (aE : Int) (n : Nat) (v : Int) : Option (Int) := (Yf.p k).lp (Zt Tryz.f252) 2 [1, 0, 1, 0] (Yf.d k a0 a1_0_0) n (Yf.s0 aA aB aE v)
theorem Yf.l0_eq (k : Nat) (a0 a1_0_0 aA aB : LD) (aE : Int) : ∀ n v, Yf.r0 k a0 a1_0_0 aA aB aE n v = Zo (Yf.l0 k aA aB aE (fun z0 => some z0)) n v :=
 Zm (Yf.s0 aA aB aE) _ fun L0 v => by kernel_rfl
theorem Yf.ok (k : Nat) : Za Tryz.prog 252 (Yf.e k) := Zh (Yf.p k) mix tyok Tryz.func252 (YaP.ok k) (by kernel_rfl) (fun a0 a1_0_0 => Eq.trans (b := Yf.m k a0 a1_0_0 (fun z0 => some z0) (fun aA aB aE => Yf.r0 k a0 a1_0_0 aA aB aE k)) (by kernel_rfl) (congrArg (Yf.m k a0 a1_0_0 (fun z0 => some z0)) (funext fun aA => funext fun aB => funext fun aE => funext fun v => Yf.l0_eq k a0 a1_0_0 aA aB aE k v)))
noncomputable def Yt.g {β : Type} (k : Nat) (a0 a1_0_0 : LD) (K : Bool → Option β) : Option β :=
 Yf.f k a0 a1_0_0 (fun y31 => K (decide ((y31 : Int) ≥ 0)))
noncomputable def Yt.t (k : Nat) (a0 a1_0_0 : LD) : Option (Bool) := Yt.g k a0 a1_0_0 (fun z0 => some z0)
noncomputable def Yt.f {β : Type} (k : Nat) (a0 a1_0_0 : LD) (K : Bool → Option β) : Option β := bd1 (Yt.t k a0 a1_0_0) K
noncomputable def Yt.e (k : Nat) : Zk := ent [.d .l, .fn 213 [[.l]]] [1] [.b] [4] false (Yt.t k)
noncomputable def Yt.p (k : Nat) : Pro := ⟨Tryz.prog, [(252, Yf.e k)], Zn [] false [], k⟩
theorem Yt.ok (k : Nat) : Za Tryz.prog 212 (Yt.e k) := Zh (Yt.p k) mix tyok Tryz.func212 (Yf.ok k) (by kernel_rfl) (fun a0 a1_0_0 => by show _ = _; kernel_rfl)
noncomputable def Ya4.g {β : Type} (k : Nat) (a0 a1 : LD) (K : Bool → Option β) : Option β :=
 Yax.f k a0 (fun y1 => bif y1 then (Yac.f k a1 (fun y2 => bif y2 then (Yt.f k a0 a1 (fun y32 => K (!y32))) else (K false))) else (K false))
noncomputable def Ya4.t (k : Nat) (a0 a1 : LD) : Option (Bool) := Ya4.g k a0 a1 (fun z0 => some z0)
noncomputable def Ya4.f {β : Type} (k : Nat) (a0 a1 : LD) (K : Bool → Option β) : Option β := bd1 (Ya4.t k a0 a1) K
noncomputable def Ya4.e (k : Nat) : Zk := ent [.d .l, .d .l] [1] [.b] [4] false (Ya4.t k)
noncomputable def Ya4.p (k : Nat) : Pro := ⟨Tryz.prog, [(207, Yax.e k), (210, Yac.e k), (212, Yt.e k)], Zn [] false [], k⟩
theorem Ya4.ok (k : Nat) : Za Tryz.prog 148 (Ya4.e k) := Zh (Ya4.p k) mix tyok Tryz.func148 ⟨Yax.ok k, Yac.ok k, Yt.ok k⟩ (by kernel_rfl) (fun a0 a1 => by show _ = _; kernel_rfl)
noncomputable def YaJ.g {β : Type} (k : Nat) (a0 : BA) (bU : Int) (f0_1 f0_2 f0_3 : LD) (K : Bool → Option β) : Option β :=
 Y8.f k f0_2 a0 (fun y1 => K (!y1))
noncomputable def YaJ.t (k : Nat) (a0 : BA) (bU : Int) (f0_1 f0_2 f0_3 : LD) : Option (Bool) := YaJ.g k a0 bU f0_1 f0_2 f0_3 (fun z0 => some z0)
noncomputable def YaJ.f {β : Type} (k : Nat) (a0 : BA) (bU : Int) (f0_1 f0_2 f0_3 : LD) (K : Bool → Option β) : Option β := bd1 (YaJ.t k a0 bU f0_1 f0_2 f0_3) K
noncomputable def YaJ.e (k : Nat) : Zk := ent [.d .s, .ip [.n, .l, .l, .l]] [1] [.b] [4] false (YaJ.t k)
noncomputable def YaJ.p (k : Nat) : Pro := ⟨Tryz.prog, [(151, Y8.e k)], Zn [] false [], k⟩
theorem YaJ.ok (k : Nat) : Za Tryz.prog 150 (YaJ.e k) := Zh (YaJ.p k) mix tyok Tryz.func150 (Y8.ok k) (by kernel_rfl) (fun a0 bU f0_1 f0_2 f0_3 => by show _ = _; kernel_rfl)
noncomputable def Yg.l0 {β : Type} (k : Nat) (aA : LD) (aB : Int) (aE aH aI : LD) (aJ : Int) (K L0 : Int → Option β) (v : Int) : Option β :=
 match v with
 | aO => bif (decide ((aO : Int) < aJ)) then (atR aA aO [.s] fun x9 => (YaJ.f k x9 aB aE aH aI (fun y10 => bif y10 then (K aO) else (L0 (IntKind.wrap .i64 (aO + 1)))))) else (K (-1))
noncomputable def Yg.m {β : Type} (k : Nat) (a0 : LD) (a1_0_0 : Int) (a1_0_1 a1_0_2 a1_0_3 : LD) (K : Int → Option β) (F : (LD → Int → LD → LD → LD → Int → Int → Option β)) : Option β :=
 F a0 a1_0_0 a1_0_1 a1_0_2 a1_0_3 (a0.length : Int) (0)
noncomputable def Yg.g {β : Type} (k : Nat) (a0 : LD) (a1_0_0 : Int) (a1_0_1 a1_0_2 a1_0_3 : LD) (K : Int → Option β) : Option β :=
 Zo (Yg.l0 k a0 a1_0_0 a1_0_1 a1_0_2 a1_0_3 (a0.length : Int) K) k (0)
noncomputable def Yg.t (k : Nat) (a0 : LD) (a1_0_0 : Int) (a1_0_1 a1_0_2 a1_0_3 : LD) : Option (Int) := Yg.g k a0 a1_0_0 a1_0_1 a1_0_2 a1_0_3 (fun z0 => some z0)
noncomputable def Yg.f {β : Type} (k : Nat) (a0 : LD) (a1_0_0 : Int) (a1_0_1 a1_0_2 a1_0_3 : LD) (K : Int → Option β) : Option β := bd1 (Yg.t k a0 a1_0_0 a1_0_1 a1_0_2 a1_0_3) K
noncomputable def Yg.e (k : Nat) : Zk := ent [.d .l, .fn 150 [[.n, .l, .l, .l]]] [1] [.n] [3] false (Yg.t k)
noncomputable def Yg.p (k : Nat) : Pro := ⟨Tryz.prog, [(150, YaJ.e k)], Zn [(2, kp [0, 1, 7, 8])] false [], k⟩
noncomputable def Yg.d (k : Nat) (a0 : LD) (a1_0_0 : Int) (a1_0_1 a1_0_2 a1_0_3 : LD) : Ex → St → Option (Int) := (Yg.p k).fin Tryz.f215 [.d (.sl a0), .d (.fn 150 [[.int .i64 a1_0_0, .sl a1_0_1, .sl a1_0_2, .sl a1_0_3]])] [1] [.n]
noncomputable def Yg.s0 (aA : LD) (aB : Int) (aE aH aI : LD) (aJ v : Int) : St :=
 match v with
 | aO => ZX 19 [(0, .d false (.sl aA)), (1, .d false (.fn 150 [[.int .i64 aB, .sl aE, .sl aH, .sl aI]])), (7, .d true (.int .i64 aJ)), (8, .d true (.int .i64 aO))] []
noncomputable def Yg.r0 (k : Nat) (a0 : LD) (a1_0_0 : Int) (a1_0_1 a1_0_2 a1_0_3 aA : LD) (aB : Int) (aE aH aI : LD) (aJ : Int) (n : Nat) (v : Int) : Option (Int) := (Yg.p k).lp (Zt Tryz.f215) 2 [1, 0, 1, 0] (Yg.d k a0 a1_0_0 a1_0_1 a1_0_2 a1_0_3) n (Yg.s0 aA aB aE aH aI aJ v)
theorem Yg.l0_eq (k : Nat) (a0 : LD) (a1_0_0 : Int) (a1_0_1 a1_0_2 a1_0_3 aA : LD) (aB : Int) (aE aH aI : LD) (aJ : Int) : ∀ n v, Yg.r0 k a0 a1_0_0 a1_0_1 a1_0_2 a1_0_3 aA aB aE aH aI aJ n v = Zo (Yg.l0 k aA aB aE aH aI aJ (fun z0 => some z0)) n v :=
 Zm (Yg.s0 aA aB aE aH aI aJ) _ fun L0 v => by kernel_rfl
theorem Yg.ok (k : Nat) : Za Tryz.prog 215 (Yg.e k) := Zh (Yg.p k) mix tyok Tryz.func215 (YaJ.ok k) (by kernel_rfl) (fun a0 a1_0_0 a1_0_1 a1_0_2 a1_0_3 => Eq.trans (b := Yg.m k a0 a1_0_0 a1_0_1 a1_0_2 a1_0_3 (fun z0 => some z0) (fun aA aB aE aH aI aJ => Yg.r0 k a0 a1_0_0 a1_0_1 a1_0_2 a1_0_3 aA aB aE aH aI aJ k)) (by kernel_rfl) (congrArg (Yg.m k a0 a1_0_0 a1_0_1 a1_0_2 a1_0_3 (fun z0 => some z0)) (funext fun aA => funext fun aB => funext fun aE => funext fun aH => funext fun aI => funext fun aJ => funext fun v => Yg.l0_eq k a0 a1_0_0 a1_0_1 a1_0_2 a1_0_3 aA aB aE aH aI aJ k v)))
noncomputable def Yw.g {β : Type} (k : Nat) (a0 : LD) (a1_0_0 : Int) (a1_0_1 a1_0_2 a1_0_3 : LD) (K : Bool → Option β) : Option β :=
 Yg.f k a0 a1_0_0 a1_0_1 a1_0_2 a1_0_3 (fun y11 => K (decide ((y11 : Int) ≥ 0)))
noncomputable def Yw.t (k : Nat) (a0 : LD) (a1_0_0 : Int) (a1_0_1 a1_0_2 a1_0_3 : LD) : Option (Bool) := Yw.g k a0 a1_0_0 a1_0_1 a1_0_2 a1_0_3 (fun z0 => some z0)
noncomputable def Yw.f {β : Type} (k : Nat) (a0 : LD) (a1_0_0 : Int) (a1_0_1 a1_0_2 a1_0_3 : LD) (K : Bool → Option β) : Option β := bd1 (Yw.t k a0 a1_0_0 a1_0_1 a1_0_2 a1_0_3) K
noncomputable def Yw.e (k : Nat) : Zk := ent [.d .l, .fn 150 [[.n, .l, .l, .l]]] [1] [.b] [4] false (Yw.t k)
noncomputable def Yw.p (k : Nat) : Pro := ⟨Tryz.prog, [(215, Yg.e k)], Zn [] false [], k⟩
theorem Yw.ok (k : Nat) : Za Tryz.prog 149 (Yw.e k) := Zh (Yw.p k) mix tyok Tryz.func149 (Yg.ok k) (by kernel_rfl) (fun a0 a1_0_0 a1_0_1 a1_0_2 a1_0_3 => by show _ = _; kernel_rfl)
noncomputable def YaK.g {β : Type} (k : Nat) (aC : Int) (aD aF aG : LD) (aX : BA) (aW aZ : LD) (bE : Int) (K : Bool → Option β) : Option β :=
 Yat.f k aC aD aF aG (fun y1 => bif y1 then (YaI.f k aX aW aZ bE (fun y2 => bif y2 then (Ya4.f k aD aW (fun y33 => bif y33 then (Yw.f k aZ aC aD aF aG (fun y34 => K (!y34))) else (K false))) else (K false))) else (K false))
noncomputable def YaK.t (k : Nat) (aC : Int) (aD aF aG : LD) (aX : BA) (aW aZ : LD) (bE : Int) : Option (Bool) := YaK.g k aC aD aF aG aX aW aZ bE (fun z0 => some z0)
noncomputable def YaK.f {β : Type} (k : Nat) (aC : Int) (aD aF aG : LD) (aX : BA) (aW aZ : LD) (bE : Int) (K : Bool → Option β) : Option β := bd1 (YaK.t k aC aD aF aG aX aW aZ bE) K
noncomputable def YaK.e (k : Nat) : Zk := ent [.agg [.n, .l, .l, .l], .agg [.s, .l, .l, .n]] [1] [.b] [4] false (YaK.t k)
noncomputable def YaK.p (k : Nat) : Pro := ⟨Tryz.prog, [(141, Yat.e k), (144, YaI.e k), (148, Ya4.e k), (149, Yw.e k)], Zn [] false [], k⟩
theorem YaK.ok (k : Nat) : Za Tryz.prog 70 (YaK.e k) := Zh (YaK.p k) mix tyok Tryz.func70 ⟨Yat.ok k, YaI.ok k, Ya4.ok k, Yw.ok k⟩ (by kernel_rfl) (fun aC aD aF aG aX aW aZ bE => by show _ = _; kernel_rfl)
noncomputable def Yai.l0 {β : Type} (k : Nat) (aA : BA) (aB : LD) (aE : Int) (K L0 : Int → Option β) (v : Int) : Option β :=
 match v with
 | aH => bif (decide ((aH : Int) < aE)) then (atR aB aH [.s, .n] fun x11 x14 => (bif (Zae x11 aA) then (K x14) else (L0 (IntKind.wrap .i64 (aH + 1))))) else (K 1)
noncomputable def Yai.m {β : Type} (k : Nat) (aC : Int) (aD aF aG : LD) (a1 : BA) (K : Int → Option β) (F : (BA → LD → Int → Int → Option β)) : Option β :=
 F a1 aG (aG.length : Int) (0)
noncomputable def Yai.g {β : Type} (k : Nat) (aC : Int) (aD aF aG : LD) (a1 : BA) (K : Int → Option β) : Option β :=
 Zo (Yai.l0 k a1 aG (aG.length : Int) K) k (0)
noncomputable def Yai.t (k : Nat) (aC : Int) (aD aF aG : LD) (a1 : BA) : Option (Int) := Yai.g k aC aD aF aG a1 (fun z0 => some z0)
noncomputable def Yai.f {β : Type} (k : Nat) (aC : Int) (aD aF aG : LD) (a1 : BA) (K : Int → Option β) : Option β := bd1 (Yai.t k aC aD aF aG a1) K
noncomputable def Yai.e (k : Nat) : Zk := ent [.agg [.n, .l, .l, .l], .d .s] [1] [.n] [3] false (Yai.t k)
noncomputable def Yai.p (k : Nat) : Pro := ⟨Tryz.prog, [], Zn [(2, kp [1, 8, 9, 10])] false [], k⟩
noncomputable def Yai.d (k : Nat) (aC : Int) (aD aF aG : LD) (a1 : BA) : Ex → St → Option (Int) := (Yai.p k).fin Tryz.f71 [.agg [.int .i64 aC, .sl aD, .sl aF, .sl aG], .d (.str a1)] [1] [.n]
noncomputable def Yai.s0 (aA : BA) (aB : LD) (aE v : Int) : St :=
 match v with
 | aH => ZX 21 [(1, .d false (.str aA)), (8, .d false (.sl aB)), (9, .d true (.int .i64 aE)), (10, .d true (.int .i64 aH))] []
noncomputable def Yai.r0 (k : Nat) (aC : Int) (aD aF aG : LD) (a1 aA : BA) (aB : LD) (aE : Int) (n : Nat) (v : Int) : Option (Int) := (Yai.p k).lp (Zt Tryz.f71) 2 [1, 0, 1, 0] (Yai.d k aC aD aF aG a1) n (Yai.s0 aA aB aE v)
theorem Yai.l0_eq (k : Nat) (aC : Int) (aD aF aG : LD) (a1 aA : BA) (aB : LD) (aE : Int) : ∀ n v, Yai.r0 k aC aD aF aG a1 aA aB aE n v = Zo (Yai.l0 k aA aB aE (fun z0 => some z0)) n v :=
 Zm (Yai.s0 aA aB aE) _ fun L0 v => by kernel_rfl
theorem Yai.ok (k : Nat) : Za Tryz.prog 71 (Yai.e k) := Zh (Yai.p k) mix tyok Tryz.func71 trivial (by kernel_rfl) (fun aC aD aF aG a1 => Eq.trans (b := Yai.m k aC aD aF aG a1 (fun z0 => some z0) (fun aA aB aE => Yai.r0 k aC aD aF aG a1 aA aB aE k)) (by kernel_rfl) (congrArg (Yai.m k aC aD aF aG a1 (fun z0 => some z0)) (funext fun aA => funext fun aB => funext fun aE => funext fun v => Yai.l0_eq k aC aD aF aG a1 aA aB aE k v)))
noncomputable def YaE.g {β : Type} (k : Nat) (a0 : Int) (K : Bool → Option β) : Option β :=
 Yaw.f k a0 0 1000 (fun y1 => K (!y1))
noncomputable def YaE.t (k : Nat) (a0 : Int) : Option (Bool) := YaE.g k a0 (fun z0 => some z0)
noncomputable def YaE.f {β : Type} (k : Nat) (a0 : Int) (K : Bool → Option β) : Option β := bd1 (YaE.t k a0) K
noncomputable def YaE.e (k : Nat) : Zk := ent [.d .n] [1] [.b] [4] false (YaE.t k)
noncomputable def YaE.p (k : Nat) : Pro := ⟨Tryz.prog, [(169, Yaw.e k)], Zn [] false [], k⟩
theorem YaE.ok (k : Nat) : Za Tryz.prog 217 (YaE.e k) := Zh (YaE.p k) mix tyok Tryz.func217 (Yaw.ok k) (by kernel_rfl) (fun a0 => by show _ = _; kernel_rfl)
noncomputable def Yi.l0 {β : Type} (k : Nat) (aA : LD) (aB : Int) (K L0 : Int → Option β) (v : Int) : Option β :=
 match v with
 | aE => bif (decide ((aE : Int) < aB)) then (atR aA aE [.n] fun x9 => (YaE.f k x9 (fun y10 => bif y10 then (K aE) else (L0 (IntKind.wrap .i64 (aE + 1)))))) else (K (-1))
noncomputable def Yi.m {β : Type} (k : Nat) (a0 : LD) (K : Int → Option β) (F : (LD → Int → Int → Option β)) : Option β :=
 F a0 (a0.length : Int) (0)
noncomputable def Yi.g {β : Type} (k : Nat) (a0 : LD) (K : Int → Option β) : Option β :=
 Zo (Yi.l0 k a0 (a0.length : Int) K) k (0)
noncomputable def Yi.t (k : Nat) (a0 : LD) : Option (Int) := Yi.g k a0 (fun z0 => some z0)
noncomputable def Yi.f {β : Type} (k : Nat) (a0 : LD) (K : Int → Option β) : Option β := bd1 (Yi.t k a0) K
noncomputable def Yi.e (k : Nat) : Zk := ent [.d .l, .fn 217 []] [1] [.n] [3] false (Yi.t k)
noncomputable def Yi.p (k : Nat) : Pro := ⟨Tryz.prog, [(217, YaE.e k)], Zn [(2, kp [0, 1, 7, 8])] false [], k⟩
noncomputable def Yi.d (k : Nat) (a0 : LD) : Ex → St → Option (Int) := (Yi.p k).fin Tryz.f211 [.d (.sl a0), .d (.fn 217 [])] [1] [.n]
noncomputable def Yi.s0 (aA : LD) (aB v : Int) : St :=
 match v with
 | aE => ZX 19 [(0, .d false (.sl aA)), (1, .d false (.fn 217 [])), (7, .d true (.int .i64 aB)), (8, .d true (.int .i64 aE))] []
noncomputable def Yi.r0 (k : Nat) (a0 aA : LD) (aB : Int) (n : Nat) (v : Int) : Option (Int) := (Yi.p k).lp (Zt Tryz.f211) 2 [1, 0, 1, 0] (Yi.d k a0) n (Yi.s0 aA aB v)
theorem Yi.l0_eq (k : Nat) (a0 aA : LD) (aB : Int) : ∀ n v, Yi.r0 k a0 aA aB n v = Zo (Yi.l0 k aA aB (fun z0 => some z0)) n v :=
 Zm (Yi.s0 aA aB) _ fun L0 v => by kernel_rfl
theorem Yi.ok (k : Nat) : Za Tryz.prog 211 (Yi.e k) := Zh (Yi.p k) mix tyok Tryz.func211 (YaE.ok k) (by kernel_rfl) (fun a0 => Eq.trans (b := Yi.m k a0 (fun z0 => some z0) (fun aA aB => Yi.r0 k a0 aA aB k)) (by kernel_rfl) (congrArg (Yi.m k a0 (fun z0 => some z0)) (funext fun aA => funext fun aB => funext fun v => Yi.l0_eq k a0 aA aB k v)))
noncomputable def YD.g {β : Type} (k : Nat) (a0 : LD) (K : Bool → Option β) : Option β :=
 Yi.f k a0 (fun y11 => K (decide ((y11 : Int) ≥ 0)))
noncomputable def YD.t (k : Nat) (a0 : LD) : Option (Bool) := YD.g k a0 (fun z0 => some z0)
noncomputable def YD.f {β : Type} (k : Nat) (a0 : LD) (K : Bool → Option β) : Option β := bd1 (YD.t k a0) K
noncomputable def YD.e (k : Nat) : Zk := ent [.d .l, .fn 217 []] [1] [.b] [4] false (YD.t k)
noncomputable def YD.p (k : Nat) : Pro := ⟨Tryz.prog, [(211, Yi.e k)], Zn [] false [], k⟩
theorem YD.ok (k : Nat) : Za Tryz.prog 145 (YD.e k) := Zh (YD.p k) mix tyok Tryz.func145 (Yi.ok k) (by kernel_rfl) (fun a0 => by show _ = _; kernel_rfl)
noncomputable def YaD.g {β : Type} (k : Nat) (a0 : Int) (K : Bool → Option β) : Option β :=
 Yaw.f k a0 0 10000 (fun y1 => K (!y1))
noncomputable def YaD.t (k : Nat) (a0 : Int) : Option (Bool) := YaD.g k a0 (fun z0 => some z0)
noncomputable def YaD.f {β : Type} (k : Nat) (a0 : Int) (K : Bool → Option β) : Option β := bd1 (YaD.t k a0) K
noncomputable def YaD.e (k : Nat) : Zk := ent [.d .n] [1] [.b] [4] false (YaD.t k)
noncomputable def YaD.p (k : Nat) : Pro := ⟨Tryz.prog, [(169, Yaw.e k)], Zn [] false [], k⟩
theorem YaD.ok (k : Nat) : Za Tryz.prog 218 (YaD.e k) := Zh (YaD.p k) mix tyok Tryz.func218 (Yaw.ok k) (by kernel_rfl) (fun a0 => by show _ = _; kernel_rfl)
noncomputable def Yh.l0 {β : Type} (k : Nat) (aA : LD) (aB : Int) (K L0 : Int → Option β) (v : Int) : Option β :=
 match v with
 | aE => bif (decide ((aE : Int) < aB)) then (atR aA aE [.n] fun x9 => (YaD.f k x9 (fun y10 => bif y10 then (K aE) else (L0 (IntKind.wrap .i64 (aE + 1)))))) else (K (-1))
noncomputable def Yh.m {β : Type} (k : Nat) (a0 : LD) (K : Int → Option β) (F : (LD → Int → Int → Option β)) : Option β :=
 F a0 (a0.length : Int) (0)
noncomputable def Yh.g {β : Type} (k : Nat) (a0 : LD) (K : Int → Option β) : Option β :=
 Zo (Yh.l0 k a0 (a0.length : Int) K) k (0)
noncomputable def Yh.t (k : Nat) (a0 : LD) : Option (Int) := Yh.g k a0 (fun z0 => some z0)
noncomputable def Yh.f {β : Type} (k : Nat) (a0 : LD) (K : Int → Option β) : Option β := bd1 (Yh.t k a0) K
noncomputable def Yh.e (k : Nat) : Zk := ent [.d .l, .fn 218 []] [1] [.n] [3] false (Yh.t k)
noncomputable def Yh.p (k : Nat) : Pro := ⟨Tryz.prog, [(218, YaD.e k)], Zn [(2, kp [0, 1, 7, 8])] false [], k⟩
noncomputable def Yh.d (k : Nat) (a0 : LD) : Ex → St → Option (Int) := (Yh.p k).fin Tryz.f211 [.d (.sl a0), .d (.fn 218 [])] [1] [.n]
noncomputable def Yh.s0 (aA : LD) (aB v : Int) : St :=
 match v with
 | aE => ZX 19 [(0, .d false (.sl aA)), (1, .d false (.fn 218 [])), (7, .d true (.int .i64 aB)), (8, .d true (.int .i64 aE))] []
noncomputable def Yh.r0 (k : Nat) (a0 aA : LD) (aB : Int) (n : Nat) (v : Int) : Option (Int) := (Yh.p k).lp (Zt Tryz.f211) 2 [1, 0, 1, 0] (Yh.d k a0) n (Yh.s0 aA aB v)
theorem Yh.l0_eq (k : Nat) (a0 aA : LD) (aB : Int) : ∀ n v, Yh.r0 k a0 aA aB n v = Zo (Yh.l0 k aA aB (fun z0 => some z0)) n v :=
 Zm (Yh.s0 aA aB) _ fun L0 v => by kernel_rfl
theorem Yh.ok (k : Nat) : Za Tryz.prog 211 (Yh.e k) := Zh (Yh.p k) mix tyok Tryz.func211 (YaD.ok k) (by kernel_rfl) (fun a0 => Eq.trans (b := Yh.m k a0 (fun z0 => some z0) (fun aA aB => Yh.r0 k a0 aA aB k)) (by kernel_rfl) (congrArg (Yh.m k a0 (fun z0 => some z0)) (funext fun aA => funext fun aB => funext fun v => Yh.l0_eq k a0 aA aB k v)))
noncomputable def YC.g {β : Type} (k : Nat) (a0 : LD) (K : Bool → Option β) : Option β :=
 Yh.f k a0 (fun y11 => K (decide ((y11 : Int) ≥ 0)))
noncomputable def YC.t (k : Nat) (a0 : LD) : Option (Bool) := YC.g k a0 (fun z0 => some z0)
noncomputable def YC.f {β : Type} (k : Nat) (a0 : LD) (K : Bool → Option β) : Option β := bd1 (YC.t k a0) K
noncomputable def YC.e (k : Nat) : Zk := ent [.d .l, .fn 218 []] [1] [.b] [4] false (YC.t k)
noncomputable def YC.p (k : Nat) : Pro := ⟨Tryz.prog, [(211, Yh.e k)], Zn [] false [], k⟩
theorem YC.ok (k : Nat) : Za Tryz.prog 145 (YC.e k) := Zh (YC.p k) mix tyok Tryz.func145 (Yh.ok k) (by kernel_rfl) (fun a0 => by show _ = _; kernel_rfl)
noncomputable def YaQ.g {β : Type} (k : Nat) (a0 : Int) (a1 a2 : LD) (K : Bool → Option β) : Option β :=
 Yaw.f k a0 0 10000 (fun y1 => bif y1 then (bif (decide (((a1.length : Int) : Int) ≤ 64)) then (bif (((a2.length : Int) : Int) == (a1.length : Int)) then (YD.f k a1 (fun y12 => bif (!y12) then (YC.f k a2 (fun y13 => K (!y13))) else (K false))) else (K false)) else (K false)) else (K false))
noncomputable def YaQ.t (k : Nat) (a0 : Int) (a1 a2 : LD) : Option (Bool) := YaQ.g k a0 a1 a2 (fun z0 => some z0)
noncomputable def YaQ.f {β : Type} (k : Nat) (a0 : Int) (a1 a2 : LD) (K : Bool → Option β) : Option β := bd1 (YaQ.t k a0 a1 a2) K
noncomputable def YaQ.e (k : Nat) : Zk := ent [.d .n, .d .l, .d .l] [1] [.b] [4] false (YaQ.t k)
noncomputable def YaQ.p (k : Nat) : Pro := ⟨Tryz.prog, [(169, Yaw.e k), (145, (YD.e k).alt 217 (YC.e k))], Zn [] false [], k⟩
theorem YaQ.ok (k : Nat) : Za Tryz.prog 152 (YaQ.e k) := Zh (YaQ.p k) mix tyok Tryz.func152 ⟨Yaw.ok k, alt_ok (YD.ok k) (YC.ok k)⟩ (by kernel_rfl) (fun a0 a1 a2 => by show _ = _; kernel_rfl)
noncomputable def YaA.g {β : Type} (k : Nat) (a0 a1 bU : Int) (f1_0 f2_0 : LD) (f3_0 : Int) (K : Int → Option β) : Option β :=
 atR f2_0 a1 [.n] fun x4 => (atR f1_0 x4 [.n] fun x8 => (Zc ((f3_0 : Int) ≠ 0) (atR f2_0 a0 [.n] fun x12 => (atR f1_0 x12 [.n] fun x16 => (Zc ((f3_0 : Int) ≠ 0) (K (IntKind.wrap .i64 ((Int.tmod (IntKind.wrap .i64 (bU * x8)) f3_0) - (Int.tmod (IntKind.wrap .i64 (bU * x16)) f3_0)))))))))
noncomputable def YaA.t (k : Nat) (a0 a1 bU : Int) (f1_0 f2_0 : LD) (f3_0 : Int) : Option (Int) := YaA.g k a0 a1 bU f1_0 f2_0 f3_0 (fun z0 => some z0)
noncomputable def YaA.f {β : Type} (k : Nat) (a0 a1 bU : Int) (f1_0 f2_0 : LD) (f3_0 : Int) (K : Int → Option β) : Option β := bd1 (YaA.t k a0 a1 bU f1_0 f2_0 f3_0) K
noncomputable def YaA.e (k : Nat) : Zk := ent [.d .n, .d .n, .ip [.n], .ip [.l], .ip [.l], .ip [.n]] [1] [.n] [3] false (YaA.t k)
noncomputable def YaA.p (k : Nat) : Pro := ⟨Tryz.prog, [], Zn [] false [], k⟩
theorem YaA.ok (k : Nat) : Za Tryz.prog 220 (YaA.e k) := Zh (YaA.p k) mix tyok Tryz.func220 trivial (by kernel_rfl) (fun a0 a1 bU f1_0 f2_0 f3_0 => by show _ = _; kernel_rfl)
noncomputable def Yc.l1 {β : Type} (k : Nat) (aU aN aR : Int) (bB aS : LD) (bA bC : Int) (L0 : (Int × Int × Int × LD × LD × Int × Int × LC) → Option β) (K : LC → Option β) (L1 : (Int × LC) → Option β) (v : Int × LC) : Option β :=
 match v with
 | (bF, v1_8) => let J1 := (L0 (aU, aN, aR, bB, aS, bA, IntKind.wrap .i64 (bC + 1), v1_8)); bif (decide ((bF : Int) > aU)) then (Zc ((0 : Int) ≤ bF ∧ bF < (v1_8.length : Int)) (ZaG v1_8 (Int.toNat bF) fun c70 => Zas (c70.drop 0) fun c71 r => cD c71 fun d => dInt .i64 d fun x74 => let J0 := ((0 : Int) ≤ (IntKind.wrap .i64 (bF - 1)) ∧ (IntKind.wrap .i64 (bF - 1)) < (v1_8.length : Int)); Zc J0 (ZaG v1_8 (Int.toNat (IntKind.wrap .i64 (bF - 1))) fun c75 => Zas (c75.drop 0) fun c76 r => cD c76 fun d => dInt .i64 d fun x79 => YaA.f k x74 x79 aR bB aS bA (fun y80 => bif (decide ((y80 : Int) < 0)) then (Zc J0 (ZaG v1_8 (Int.toNat (IntKind.wrap .i64 (bF - 1))) fun c81 => Zas (c81.drop 0) fun c82 r => cD c82 fun d => dInt .i64 d fun x85 => Zc ((0 : Int) ≤ bF ∧ bF < (v1_8.length : Int)) (ZaG v1_8 (Int.toNat bF) fun c86 => Zas (c86.drop 0) fun c87 r => cD c87 fun d => dInt .i64 d fun x90 => let J2 := (v1_8.modify (Int.toNat bF) fun c => Zq c 0 [.d (.int .i64 x85)]); Zc ((0 : Int) ≤ bF ∧ bF < (v1_8.length : Int)) (Zc (Int.toNat bF < v1_8.length) (Zc ((0 : Int) ≤ (IntKind.wrap .i64 (bF - 1)) ∧ (IntKind.wrap .i64 (bF - 1)) < (J2.length : Int)) (Zc (Int.toNat (IntKind.wrap .i64 (bF - 1)) < J2.length) (L1 (IntKind.wrap .i64 (bF - 1), J2.modify (Int.toNat (IntKind.wrap .i64 (bF - 1))) fun c => Zq c 0 [.d (.int .i64 x90)])))))))) else J1)))) else J1
noncomputable def Yc.m0 {β : Type} (k : Nat) (K : LC → Option β) (L0 : (Int × Int × Int × LD × LD × Int × Int × LC) → Option β) (v : Int × Int × Int × LD × LD × Int × Int × LC) (F : (Int → Int → Int → LD → LD → Int → Int → (Int × LC) → Option β)) : Option β :=
 match v with
 | (aA, aB, aE, aH, aI, aJ, aO, aY) => bif (decide ((aO : Int) < aB)) then (F aA aB aE aH aI aJ aO (aO, aY)) else (K aY)
noncomputable def Yc.l0 {β : Type} (k : Nat) (K : LC → Option β) (L0 : (Int × Int × Int × LD × LD × Int × Int × LC) → Option β) (v : Int × Int × Int × LD × LD × Int × Int × LC) : Option β := Yc.m0 k K L0 v (fun aU aN aR bB aS bA bC => Zo (Yc.l1 k aU aN aR bB aS bA bC L0 K) k)
noncomputable def Yc.m {β : Type} (k : Nat) (a0 : LC) (a1 a2 a3_0_0 : Int) (a3_1_0 a3_2_0 : LD) (a3_3_0 : Int) (K : LC → Option β) (F : ((Int × Int × Int × LD × LD × Int × Int × LC) → Option β)) : Option β :=
 F (a1, a2, a3_0_0, a3_1_0, a3_2_0, a3_3_0, IntKind.wrap .i64 (a1 + 1), a0)
noncomputable def Yc.g {β : Type} (k : Nat) (a0 : LC) (a1 a2 a3_0_0 : Int) (a3_1_0 a3_2_0 : LD) (a3_3_0 : Int) (K : LC → Option β) : Option β :=
 Zo (Yc.l0 k K) k (a1, a2, a3_0_0, a3_1_0, a3_2_0, a3_3_0, IntKind.wrap .i64 (a1 + 1), a0)
noncomputable def Yc.t (k : Nat) (a0 : LC) (a1 a2 a3_0_0 : Int) (a3_1_0 a3_2_0 : LD) (a3_3_0 : Int) : Option (LC) := Yc.g k a0 a1 a2 a3_0_0 a3_1_0 a3_2_0 a3_3_0 (fun z0 => some z0)
noncomputable def Yc.f {β : Type} (k : Nat) (a0 : LC) (a1 a2 a3_0_0 : Int) (a3_1_0 a3_2_0 : LD) (a3_3_0 : Int) (K : LC → Option β) : Option β := bd1 (Yc.t k a0 a1 a2 a3_0_0 a3_1_0 a3_2_0 a3_3_0) K
noncomputable def Yc.e (k : Nat) : Zk := ent [.own false 28 [.o], .d .n, .d .n, .fn 220 [[.n], [.l], [.l], [.n]]] [] [.o] [] false (Yc.t k)
noncomputable def Yc.p (k : Nat) : Pro := ⟨Tryz.prog, [(220, YaA.e k)], Zn [(1, kp [0, 1, 2, 3, 8]), (4, kp [0, 1, 2, 3, 8, 9])] false [], k⟩
noncomputable def Yc.d (k : Nat) (a0 : LC) (a1 a2 a3_0_0 : Int) (a3_1_0 a3_2_0 : LD) (a3_3_0 : Int) : Ex → St → Option (LC) := (Yc.p k).fin Tryz.f275 [.own false [.own a0], .d (.int .i64 a1), .d (.int .i64 a2), .d (.fn 220 [[.int .i64 a3_0_0], [.sl a3_1_0], [.sl a3_2_0], [.int .i64 a3_3_0]])] [] [.o]
noncomputable def Yc.s0 (v : Int × Int × Int × LD × LD × Int × Int × LC) : St :=
 match v with
 | (aA, aB, aE, aH, aI, aJ, aO, aY) => ZX 53 [(0, .row 0), (1, .d false (.int .i64 aA)), (2, .d false (.int .i64 aB)), (3, .d false (.fn 220 [[.int .i64 aE], [.sl aH], [.sl aI], [.int .i64 aJ]])), (8, .d true (.int .i64 aO))] [.row (some 0) false 28 aY]
noncomputable def Yc.c0 (k : Nat) (a0 : LC) (a1 a2 a3_0_0 : Int) (a3_1_0 a3_2_0 : LD) (a3_3_0 : Int) : Ex → St → Option (LC) := (Yc.p k).ct (Zt Tryz.f275) [1, 0] (Yc.d k a0 a1 a2 a3_0_0 a3_1_0 a3_2_0 a3_3_0)
noncomputable def Yc.r0 (k : Nat) (a0 : LC) (a1 a2 a3_0_0 : Int) (a3_1_0 a3_2_0 : LD) (a3_3_0 : Int) (n : Nat) (v : Int × Int × Int × LD × LD × Int × Int × LC) : Option (LC) := (Yc.p k).lp (Zt Tryz.f275) 1 [1, 0] (Yc.d k a0 a1 a2 a3_0_0 a3_1_0 a3_2_0 a3_3_0) n (Yc.s0 v)
noncomputable def Yc.s1 (aU aN aR : Int) (bB aS : LD) (bA bC : Int) (v : Int × LC) : St :=
 match v with
 | (bF, v1_8) => ZX 53 [(0, .row 0), (1, .d false (.int .i64 aU)), (2, .d false (.int .i64 aN)), (3, .d false (.fn 220 [[.int .i64 aR], [.sl bB], [.sl aS], [.int .i64 bA]])), (8, .d true (.int .i64 bC)), (9, .d true (.int .i64 bF))] [.row (some 0) false 28 v1_8]
noncomputable def Yc.r1 (k : Nat) (a0 : LC) (a1 a2 a3_0_0 : Int) (a3_1_0 a3_2_0 : LD) (a3_3_0 aU aN aR : Int) (bB aS : LD) (bA bC : Int) (L0 : St → Option (LC)) (n : Nat) (v : Int × LC) : Option (LC) := (Yc.p k).lp (codeAt [1, 0, 0] (Zt Tryz.f275)) 4 [1, 0, 0, 1, 0] (backK ((Yc.p k).h.H 1) L0 (Yc.c0 k a0 a1 a2 a3_0_0 a3_1_0 a3_2_0 a3_3_0)) n (Yc.s1 aU aN aR bB aS bA bC v)
theorem Yc.l1_eq (k : Nat) (a0 : LC) (a1 a2 a3_0_0 : Int) (a3_1_0 a3_2_0 : LD) (a3_3_0 aU aN aR : Int) (bB aS : LD) (bA bC : Int) (L0 : St → Option (LC)) : ∀ n v, Yc.r1 k a0 a1 a2 a3_0_0 a3_1_0 a3_2_0 a3_3_0 aU aN aR bB aS bA bC L0 n v = Zo (Yc.l1 k aU aN aR bB aS bA bC (fun v => L0 (Yc.s0 v)) (fun z0 => some z0)) n v :=
 Zm (Yc.s1 aU aN aR bB aS bA bC) _ fun L1 v => by obtain ⟨bF, v1_8⟩ := v; kernel_rfl
theorem Yc.l0_eq (k : Nat) (a0 : LC) (a1 a2 a3_0_0 : Int) (a3_1_0 a3_2_0 : LD) (a3_3_0 : Int) : ∀ n v, Yc.r0 k a0 a1 a2 a3_0_0 a3_1_0 a3_2_0 a3_3_0 n v = Zo (Yc.l0 k (fun z0 => some z0)) n v :=
 Zm (Yc.s0) _ fun L0 v => by obtain ⟨aA, aB, aE, aH, aI, aJ, aO, aY⟩ := v; exact Eq.trans (b := Yc.m0 k (fun z0 => some z0) (fun v => L0 (Yc.s0 v)) (aA, aB, aE, aH, aI, aJ, aO, aY) (fun aU aN aR bB aS bA bC => Yc.r1 k a0 a1 a2 a3_0_0 a3_1_0 a3_2_0 a3_3_0 aU aN aR bB aS bA bC L0 k)) (by kernel_rfl) (congrArg (Yc.m0 k (fun z0 => some z0) (fun v => L0 (Yc.s0 v)) (aA, aB, aE, aH, aI, aJ, aO, aY)) (funext fun aU => funext fun aN => funext fun aR => funext fun bB => funext fun aS => funext fun bA => funext fun bC => funext fun v => Yc.l1_eq k a0 a1 a2 a3_0_0 a3_1_0 a3_2_0 a3_3_0 aU aN aR bB aS bA bC L0 k v))
theorem Yc.ok (k : Nat) : Za Tryz.prog 275 (Yc.e k) := Zh (Yc.p k) mix tyok Tryz.func275 (YaA.ok k) (by kernel_rfl) (fun a0 a1 a2 a3_0_0 a3_1_0 a3_2_0 a3_3_0 => Eq.trans (b := Yc.m k a0 a1 a2 a3_0_0 a3_1_0 a3_2_0 a3_3_0 (fun z0 => some z0) (Yc.r0 k a0 a1 a2 a3_0_0 a3_1_0 a3_2_0 a3_3_0 k)) (by kernel_rfl) (congrArg (Yc.m k a0 a1 a2 a3_0_0 a3_1_0 a3_2_0 a3_3_0 (fun z0 => some z0)) (funext fun v => Yc.l0_eq k a0 a1 a2 a3_0_0 a3_1_0 a3_2_0 a3_3_0 k v)))
noncomputable def Yk.l0 {β : Type} (k : Nat) (aA aB aE : Int) (K : LC → Option β) (L0 : (Int × LC) → Option β) (v : Int × LC) : Option β :=
 match v with
 | (aH, aI) => bif (decide ((aH : Int) < aE)) then (Zc ((0 : Int) ≤ (IntKind.wrap .i64 (aB + aH)) ∧ (IntKind.wrap .i64 (aB + aH)) < (aI.length : Int)) (ZaG aI (Int.toNat (IntKind.wrap .i64 (aB + aH))) fun c11 => Zas (c11.drop 0) fun c12 r => cD c12 fun d => dInt .i64 d fun x15 => let J0 := ((0 : Int) ≤ (IntKind.wrap .i64 (aA + aH)) ∧ (IntKind.wrap .i64 (aA + aH)) < (aI.length : Int)); Zc J0 (ZaG aI (Int.toNat (IntKind.wrap .i64 (aA + aH))) fun c16 => Zas (c16.drop 0) fun c17 r => cD c17 fun d => dInt .i64 d fun x20 => let J1 := (aI.modify (Int.toNat (IntKind.wrap .i64 (aA + aH))) fun c => Zq c 0 [.d (.int .i64 x15)]); Zc J0 (Zc (Int.toNat (IntKind.wrap .i64 (aA + aH)) < aI.length) (Zc ((0 : Int) ≤ (IntKind.wrap .i64 (aB + aH)) ∧ (IntKind.wrap .i64 (aB + aH)) < (J1.length : Int)) (Zc (Int.toNat (IntKind.wrap .i64 (aB + aH)) < J1.length) (L0 (IntKind.wrap .i64 (aH + 1), J1.modify (Int.toNat (IntKind.wrap .i64 (aB + aH))) fun c => Zq c 0 [.d (.int .i64 x20)])))))))) else (K aI)
noncomputable def Yk.m {β : Type} (k : Nat) (a0 : LC) (a1 a2 a3 a4_0_0 : Int) (a4_1_0 a4_2_0 : LD) (a4_3_0 : Int) (K : LC → Option β) (F : (Int → Int → Int → (Int × LC) → Option β)) : Option β :=
 F a1 a2 a3 (0, a0)
noncomputable def Yk.g {β : Type} (k : Nat) (a0 : LC) (a1 a2 a3 a4_0_0 : Int) (a4_1_0 a4_2_0 : LD) (a4_3_0 : Int) (K : LC → Option β) : Option β :=
 Zo (Yk.l0 k a1 a2 a3 K) k (0, a0)
noncomputable def Yk.t (k : Nat) (a0 : LC) (a1 a2 a3 a4_0_0 : Int) (a4_1_0 a4_2_0 : LD) (a4_3_0 : Int) : Option (LC) := Yk.g k a0 a1 a2 a3 a4_0_0 a4_1_0 a4_2_0 a4_3_0 (fun z0 => some z0)
noncomputable def Yk.f {β : Type} (k : Nat) (a0 : LC) (a1 a2 a3 a4_0_0 : Int) (a4_1_0 a4_2_0 : LD) (a4_3_0 : Int) (K : LC → Option β) : Option β := bd1 (Yk.t k a0 a1 a2 a3 a4_0_0 a4_1_0 a4_2_0 a4_3_0) K
noncomputable def Yk.e (k : Nat) : Zk := ent [.own false 28 [.o], .d .n, .d .n, .d .n, .fn 220 [[.n], [.l], [.l], [.n]]] [] [.o] [] false (Yk.t k)
noncomputable def Yk.p (k : Nat) : Pro := ⟨Tryz.prog, [], Zn [(1, kp [0, 1, 2, 3, 10])] false [], k⟩
noncomputable def Yk.d (k : Nat) (a0 : LC) (a1 a2 a3 a4_0_0 : Int) (a4_1_0 a4_2_0 : LD) (a4_3_0 : Int) : Ex → St → Option (LC) := (Yk.p k).fin Tryz.f294 [.own false [.own a0], .d (.int .i64 a1), .d (.int .i64 a2), .d (.int .i64 a3), .d (.fn 220 [[.int .i64 a4_0_0], [.sl a4_1_0], [.sl a4_2_0], [.int .i64 a4_3_0]])] [] [.o]
noncomputable def Yk.s0 (aA aB aE : Int) (v : Int × LC) : St :=
 match v with
 | (aH, aI) => ZX 38 [(0, .row 0), (1, .d false (.int .i64 aA)), (2, .d false (.int .i64 aB)), (3, .d false (.int .i64 aE)), (10, .d true (.int .i64 aH))] [.row (some 0) false 28 aI]
noncomputable def Yk.r0 (k : Nat) (a0 : LC) (a1 a2 a3 a4_0_0 : Int) (a4_1_0 a4_2_0 : LD) (a4_3_0 aA aB aE : Int) (n : Nat) (v : Int × LC) : Option (LC) := (Yk.p k).lp (Zt Tryz.f294) 1 [1, 0] (Yk.d k a0 a1 a2 a3 a4_0_0 a4_1_0 a4_2_0 a4_3_0) n (Yk.s0 aA aB aE v)
theorem Yk.l0_eq (k : Nat) (a0 : LC) (a1 a2 a3 a4_0_0 : Int) (a4_1_0 a4_2_0 : LD) (a4_3_0 aA aB aE : Int) : ∀ n v, Yk.r0 k a0 a1 a2 a3 a4_0_0 a4_1_0 a4_2_0 a4_3_0 aA aB aE n v = Zo (Yk.l0 k aA aB aE (fun z0 => some z0)) n v :=
 Zm (Yk.s0 aA aB aE) _ fun L0 v => by obtain ⟨aH, aI⟩ := v; kernel_rfl
theorem Yk.ok (k : Nat) : Za Tryz.prog 294 (Yk.e k) := Zh (Yk.p k) mix tyok Tryz.func294 trivial (by kernel_rfl) (fun a0 a1 a2 a3 a4_0_0 a4_1_0 a4_2_0 a4_3_0 => Eq.trans (b := Yk.m k a0 a1 a2 a3 a4_0_0 a4_1_0 a4_2_0 a4_3_0 (fun z0 => some z0) (fun aA aB aE => Yk.r0 k a0 a1 a2 a3 a4_0_0 a4_1_0 a4_2_0 a4_3_0 aA aB aE k)) (by kernel_rfl) (congrArg (Yk.m k a0 a1 a2 a3 a4_0_0 a4_1_0 a4_2_0 a4_3_0 (fun z0 => some z0)) (funext fun aA => funext fun aB => funext fun aE => funext fun v => Yk.l0_eq k a0 a1 a2 a3 a4_0_0 a4_1_0 a4_2_0 a4_3_0 aA aB aE k v)))
noncomputable def Yl.l0 {β : Type} (k : Nat) (aA aB : Int) (aE aH : LD) (aI : Int) (K : LC → Option β) (L0 : (Int × Int × LC) → Option β) (v : Int × Int × LC) : Option β :=
 match v with
 | (aJ, aO, aY) => bif ((aJ : Int) != aO) then (bif (decide ((aJ : Int) > aO)) then (Yk.f k aY (IntKind.wrap .i64 (aA - aJ)) aA aO aB aE aH aI (fun y24 => Zc (y24.length = aY.length) (L0 (IntKind.wrap .i64 (aJ - aO), aO, y24)))) else (Yk.f k aY (IntKind.wrap .i64 (aA - aJ)) (IntKind.wrap .i64 ((IntKind.wrap .i64 (aA + aO)) - aJ)) aJ aB aE aH aI (fun y25 => Zc (y25.length = aY.length) (L0 (aJ, IntKind.wrap .i64 (aO - aJ), y25))))) else (Yk.f k aY (IntKind.wrap .i64 (aA - aJ)) aA aJ aB aE aH aI (fun y26 => Zc (y26.length = aY.length) (K y26)))
noncomputable def Yl.m {β : Type} (k : Nat) (a0 : LC) (a1 a2 a3 a4_0_0 : Int) (a4_1_0 a4_2_0 : LD) (a4_3_0 : Int) (K : LC → Option β) (F : (Int → Int → LD → LD → Int → (Int × Int × LC) → Option β)) : Option β :=
 F a2 a4_0_0 a4_1_0 a4_2_0 a4_3_0 (IntKind.wrap .i64 (a2 - a1), IntKind.wrap .i64 (a3 - a2), a0)
noncomputable def Yl.g {β : Type} (k : Nat) (a0 : LC) (a1 a2 a3 a4_0_0 : Int) (a4_1_0 a4_2_0 : LD) (a4_3_0 : Int) (K : LC → Option β) : Option β :=
 Zo (Yl.l0 k a2 a4_0_0 a4_1_0 a4_2_0 a4_3_0 K) k (IntKind.wrap .i64 (a2 - a1), IntKind.wrap .i64 (a3 - a2), a0)
noncomputable def Yl.t (k : Nat) (a0 : LC) (a1 a2 a3 a4_0_0 : Int) (a4_1_0 a4_2_0 : LD) (a4_3_0 : Int) : Option (LC) := Yl.g k a0 a1 a2 a3 a4_0_0 a4_1_0 a4_2_0 a4_3_0 (fun z0 => some z0)
noncomputable def Yl.f {β : Type} (k : Nat) (a0 : LC) (a1 a2 a3 a4_0_0 : Int) (a4_1_0 a4_2_0 : LD) (a4_3_0 : Int) (K : LC → Option β) : Option β := bd1 (Yl.t k a0 a1 a2 a3 a4_0_0 a4_1_0 a4_2_0 a4_3_0) K
noncomputable def Yl.e (k : Nat) : Zk := ent [.own false 28 [.o], .d .n, .d .n, .d .n, .fn 220 [[.n], [.l], [.l], [.n]]] [] [.o] [] false (Yl.t k)
noncomputable def Yl.p (k : Nat) : Pro := ⟨Tryz.prog, [(294, Yk.e k)], Zn [(2, kp [0, 2, 4, 10, 11])] false [], k⟩
noncomputable def Yl.d (k : Nat) (a0 : LC) (a1 a2 a3 a4_0_0 : Int) (a4_1_0 a4_2_0 : LD) (a4_3_0 : Int) : Ex → St → Option (LC) := (Yl.p k).fin Tryz.f285 [.own false [.own a0], .d (.int .i64 a1), .d (.int .i64 a2), .d (.int .i64 a3), .d (.fn 220 [[.int .i64 a4_0_0], [.sl a4_1_0], [.sl a4_2_0], [.int .i64 a4_3_0]])] [] [.o]
noncomputable def Yl.s0 (aA aB : Int) (aE aH : LD) (aI : Int) (v : Int × Int × LC) : St :=
 match v with
 | (aJ, aO, aY) => ZX 58 [(0, .row 0), (2, .d false (.int .i64 aA)), (4, .d false (.fn 220 [[.int .i64 aB], [.sl aE], [.sl aH], [.int .i64 aI]])), (10, .d true (.int .i64 aJ)), (11, .d true (.int .i64 aO))] [.row (some 0) false 28 aY]
noncomputable def Yl.r0 (k : Nat) (a0 : LC) (a1 a2 a3 a4_0_0 : Int) (a4_1_0 a4_2_0 : LD) (a4_3_0 aA aB : Int) (aE aH : LD) (aI : Int) (n : Nat) (v : Int × Int × LC) : Option (LC) := (Yl.p k).lp (Zt Tryz.f285) 2 [1, 1, 0, 0] (Yl.d k a0 a1 a2 a3 a4_0_0 a4_1_0 a4_2_0 a4_3_0) n (Yl.s0 aA aB aE aH aI v)
theorem Yl.l0_eq (k : Nat) (a0 : LC) (a1 a2 a3 a4_0_0 : Int) (a4_1_0 a4_2_0 : LD) (a4_3_0 aA aB : Int) (aE aH : LD) (aI : Int) : ∀ n v, Yl.r0 k a0 a1 a2 a3 a4_0_0 a4_1_0 a4_2_0 a4_3_0 aA aB aE aH aI n v = Zo (Yl.l0 k aA aB aE aH aI (fun z0 => some z0)) n v :=
 Zm (Yl.s0 aA aB aE aH aI) _ fun L0 v => by obtain ⟨aJ, aO, aY⟩ := v; kernel_rfl
theorem Yl.ok (k : Nat) : Za Tryz.prog 285 (Yl.e k) := Zh (Yl.p k) mix tyok Tryz.func285 (Yk.ok k) (by kernel_rfl) (fun a0 a1 a2 a3 a4_0_0 a4_1_0 a4_2_0 a4_3_0 => Eq.trans (b := Yl.m k a0 a1 a2 a3 a4_0_0 a4_1_0 a4_2_0 a4_3_0 (fun z0 => some z0) (fun aA aB aE aH aI => Yl.r0 k a0 a1 a2 a3 a4_0_0 a4_1_0 a4_2_0 a4_3_0 aA aB aE aH aI k)) (by kernel_rfl) (congrArg (Yl.m k a0 a1 a2 a3 a4_0_0 a4_1_0 a4_2_0 a4_3_0 (fun z0 => some z0)) (funext fun aA => funext fun aB => funext fun aE => funext fun aH => funext fun aI => funext fun v => Yl.l0_eq k a0 a1 a2 a3 a4_0_0 a4_1_0 a4_2_0 a4_3_0 aA aB aE aH aI k v)))
end Go.Proofs.YtppfencdbabmeaaGreat
