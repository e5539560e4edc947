/- Printed: the functions that FnExactShares reaches, read by the evaluator, each with its contract. -/
import Derived.Test.YtppfencdbabmeaaGreatTLibs
import Derived.Test.YtppfencdbabmeaaGreatProg
import Derived.KernelRfl
set_option linter.unusedVariables false
set_option linter.unusedSimpArgs false
namespace Go.Proofs.YtppfencdbabmeaaGreat
open Go Go.T Go.Proofs
theorem mix : Tryz.prog.follows .mixedOrders = true := by kernel_rfl
theorem tyok : ZaI Tryz.prog := tyOk_of (by kernel_rfl)
noncomputable def YO.l0 {β : Type} (k : Nat) (aA : List (List D)) (K : Int → Option β) (L0 : (Int × Int) → Option β) (v : Int × Int) : Option β :=
  match v with
  | (aB, aF) => bif (decide ((aF : Int) < (aA.length : Int))) then (atR aA aF [.s] fun x8 => (bif (decide (((IntKind.wrap .i64 (aB - (x8.size : Int))) : Int) < 0)) then (K (-1)) else (L0 (IntKind.wrap .i64 (aB - (x8.size : Int)), IntKind.wrap .i64 (aF + 1))))) else (K aB)
noncomputable def YO.m {β : Type} (k : Nat) (a0 : List (List D)) (a1 : Int) (K : Int → Option β) (F : ((List (List D)) → (Int × Int) → Option β)) : Option β :=
  bif (decide (((IntKind.wrap .i64 (a1 - (a0.length : Int))) : Int) < 0)) then (K (-1)) else (F a0 (IntKind.wrap .i64 (a1 - (a0.length : Int)), 0))
noncomputable def YO.g {β : Type} (k : Nat) (a0 : List (List D)) (a1 : Int) (K : Int → Option β) : Option β :=
  bif (decide (((IntKind.wrap .i64 (a1 - (a0.length : Int))) : Int) < 0)) then (K (-1)) else (Zo (YO.l0 k a0 K) k (IntKind.wrap .i64 (a1 - (a0.length : Int)), 0))
noncomputable def YO.t (k : Nat) (a0 : List (List D)) (a1 : Int) : Option (Int) := YO.g k a0 a1 (fun z0 => some z0)
noncomputable def YO.f {β : Type} (k : Nat) (a0 : List (List D)) (a1 : Int) (K : Int → Option β) : Option β := bd1 (YO.t k a0 a1) K
noncomputable def YO.e (k : Nat) : Zk := ent [.d .l, .d .n] [1] [.n] [3] false (YO.t k)
noncomputable def YO.p (k : Nat) : Pro := ⟨Tryz.prog, [], Zn [(5, kp [0, 1, 5])] false [], k⟩
noncomputable def YO.d (k : Nat) (a0 : List (List D)) (a1 : Int) : Ex → St → Option (Int) := (YO.p k).fin Tryz.f57 [.d (.sl a0), .d (.int .i64 a1)] [1] [.n]
noncomputable def YO.s0 (aA : List (List D)) (v : Int × Int) : St :=
  match v with
  | (aB, aF) => ZX 28 [(0, .d false (.sl aA)), (1, .d true (.int .i64 aB)), (5, .d true (.int .i64 aF))] []
noncomputable def YO.r0 (k : Nat) (a0 : List (List D)) (a1 : Int) (aA : List (List D)) (n : Nat) (v : Int × Int) : Option (Int) := (YO.p k).lp (Zt Tryz.f57) 5 [1, 1, 1, 0, 1, 0] (YO.d k a0 a1) n (YO.s0 aA v)
theorem YO.l0_eq (k : Nat) (a0 : List (List D)) (a1 : Int) (aA : List (List D)) : ∀ n v, YO.r0 k a0 a1 aA n v = Zo (YO.l0 k aA (fun z0 => some z0)) n v :=
  Zm (YO.s0 aA) _ fun L0 v => by obtain ⟨aB, aF⟩ := v; kernel_rfl
theorem YO.ok (k : Nat) : Za Tryz.prog 57 (YO.e k) := Zh (YO.p k) mix tyok Tryz.func57 trivial (by kernel_rfl) (fun a0 a1 => Eq.trans (b := YO.m k a0 a1 (fun z0 => some z0) (fun aA => YO.r0 k a0 a1 aA k)) (by kernel_rfl) (congrArg (YO.m k a0 a1 (fun z0 => some z0)) (funext fun aA => funext fun v => YO.l0_eq k a0 a1 aA k v)))
noncomputable def YaT.g {β : Type} (k : Nat) (aD : Int) (aC : ByteArray) (aE : List (List D)) (a1 : Int) (K : Int → Option β) : Option β :=
  bif (decide (((IntKind.wrap .i64 (a1 - (aC.size : Int))) : Int) < 0)) then (K (-1)) else (YO.f k aE (IntKind.wrap .i64 (a1 - (aC.size : Int))) (fun y9 => bif (decide ((y9 : Int) < 0)) then (K (-1)) else (K y9)))
noncomputable def YaT.t (k : Nat) (aD : Int) (aC : ByteArray) (aE : List (List D)) (a1 : Int) : Option (Int) := YaT.g k aD aC aE a1 (fun z0 => some z0)
noncomputable def YaT.f {β : Type} (k : Nat) (aD : Int) (aC : ByteArray) (aE : List (List D)) (a1 : Int) (K : Int → Option β) : Option β := bd1 (YaT.t k aD aC aE a1) K
noncomputable def YaT.e (k : Nat) : Zk := ent [.agg [.n, .s, .l], .d .n] [1] [.n] [3] false (YaT.t k)
noncomputable def YaT.p (k : Nat) : Pro := ⟨Tryz.prog, [(57, YO.e k)], Zn [] false [], k⟩
theorem YaT.ok (k : Nat) : Za Tryz.prog 126 (YaT.e k) := Zh (YaT.p k) mix tyok Tryz.func126 (YO.ok k) (by kernel_rfl) (fun aD aC aE a1 => by show _ = _; kernel_rfl)
noncomputable def Yag.l0 {β : Type} (k : Nat) (aA : List (List D)) (K : Int → Option β) (L0 : (Int × Int) → Option β) (v : Int × Int) : Option β :=
  match v with
  | (aB, aF) => bif (decide ((aF : Int) < (aA.length : Int))) then (atR aA aF [.n, .s, .l] fun x15 x18 x21 => (YaT.f k x15 x18 x21 aB (fun y22 => bif (decide ((y22 : Int) < 0)) then (K (-1)) else (L0 (y22, IntKind.wrap .i64 (aF + 1)))))) else (K aB)
noncomputable def Yag.m {β : Type} (k : Nat) (a0 : List (List D)) (a1 : Int) (K : Int → Option β) (F : ((List (List D)) → (Int × Int) → Option β)) : Option β :=
  bif (decide (((IntKind.wrap .i64 (a1 - (a0.length : Int))) : Int) < 0)) then (K (-1)) else (F a0 (IntKind.wrap .i64 (a1 - (a0.length : Int)), 0))
noncomputable def Yag.g {β : Type} (k : Nat) (a0 : List (List D)) (a1 : Int) (K : Int → Option β) : Option β :=
  bif (decide (((IntKind.wrap .i64 (a1 - (a0.length : Int))) : Int) < 0)) then (K (-1)) else (Zo (Yag.l0 k a0 K) k (IntKind.wrap .i64 (a1 - (a0.length : Int)), 0))
noncomputable def Yag.t (k : Nat) (a0 : List (List D)) (a1 : Int) : Option (Int) := Yag.g k a0 a1 (fun z0 => some z0)
noncomputable def Yag.f {β : Type} (k : Nat) (a0 : List (List D)) (a1 : Int) (K : Int → Option β) : Option β := bd1 (Yag.t k a0 a1) K
noncomputable def Yag.e (k : Nat) : Zk := ent [.d .l, .d .n] [1] [.n] [3] false (Yag.t k)
noncomputable def Yag.p (k : Nat) : Pro := ⟨Tryz.prog, [(126, YaT.e k)], Zn [(5, kp [0, 1, 5])] false [], k⟩
noncomputable def Yag.d (k : Nat) (a0 : List (List D)) (a1 : Int) : Ex → St → Option (Int) := (Yag.p k).fin Tryz.f56 [.d (.sl a0), .d (.int .i64 a1)] [1] [.n]
noncomputable def Yag.s0 (aA : List (List D)) (v : Int × Int) : St :=
  match v with
  | (aB, aF) => ZX 27 [(0, .d false (.sl aA)), (1, .d true (.int .i64 aB)), (5, .d true (.int .i64 aF))] []
noncomputable def Yag.r0 (k : Nat) (a0 : List (List D)) (a1 : Int) (aA : List (List D)) (n : Nat) (v : Int × Int) : Option (Int) := (Yag.p k).lp (Zt Tryz.f56) 5 [1, 1, 1, 0, 1, 0] (Yag.d k a0 a1) n (Yag.s0 aA v)
theorem Yag.l0_eq (k : Nat) (a0 : List (List D)) (a1 : Int) (aA : List (List D)) : ∀ n v, Yag.r0 k a0 a1 aA n v = Zo (Yag.l0 k aA (fun z0 => some z0)) n v :=
  Zm (Yag.s0 aA) _ fun L0 v => by obtain ⟨aB, aF⟩ := v; kernel_rfl
theorem Yag.ok (k : Nat) : Za Tryz.prog 56 (Yag.e k) := Zh (Yag.p k) mix tyok Tryz.func56 (YaT.ok k) (by kernel_rfl) (fun a0 a1 => Eq.trans (b := Yag.m k a0 a1 (fun z0 => some z0) (fun aA => Yag.r0 k a0 a1 aA k)) (by kernel_rfl) (congrArg (Yag.m k a0 a1 (fun z0 => some z0)) (funext fun aA => funext fun v => Yag.l0_eq k a0 a1 aA k v)))
noncomputable def YaM.g {β : Type} (k : Nat) (aD : ByteArray) (aC a1 : Int) (K : Int → Option β) : Option β :=
  bif (decide (((IntKind.wrap .i64 (a1 - (aD.size : Int))) : Int) < 0)) then (K (-1)) else (K (IntKind.wrap .i64 (a1 - (aD.size : Int))))
noncomputable def YaM.t (k : Nat) (aD : ByteArray) (aC a1 : Int) : Option (Int) := YaM.g k aD aC a1 (fun z0 => some z0)
noncomputable def YaM.f {β : Type} (k : Nat) (aD : ByteArray) (aC a1 : Int) (K : Int → Option β) : Option β := bd1 (YaM.t k aD aC a1) K
noncomputable def YaM.e (k : Nat) : Zk := ent [.agg [.s, .n], .d .n] [1] [.n] [3] false (YaM.t k)
noncomputable def YaM.p (k : Nat) : Pro := ⟨Tryz.prog, [], Zn [] false [], k⟩
theorem YaM.ok (k : Nat) : Za Tryz.prog 127 (YaM.e k) := Zh (YaM.p k) mix tyok Tryz.func127 trivial (by kernel_rfl) (fun aD aC a1 => by show _ = _; kernel_rfl)
noncomputable def Y7.l0 {β : Type} (k : Nat) (aA : List (List D)) (K : Int → Option β) (L0 : (Int × Int) → Option β) (v : Int × Int) : Option β :=
  match v with
  | (aB, aF) => bif (decide ((aF : Int) < (aA.length : Int))) then (atR aA aF [.s, .n] fun x12 x15 => (YaM.f k x12 x15 aB (fun y16 => bif (decide ((y16 : Int) < 0)) then (K (-1)) else (L0 (y16, IntKind.wrap .i64 (aF + 1)))))) else (K aB)
noncomputable def Y7.m {β : Type} (k : Nat) (a0 : List (List D)) (a1 : Int) (K : Int → Option β) (F : ((List (List D)) → (Int × Int) → Option β)) : Option β :=
  bif (decide (((IntKind.wrap .i64 (a1 - (a0.length : Int))) : Int) < 0)) then (K (-1)) else (F a0 (IntKind.wrap .i64 (a1 - (a0.length : Int)), 0))
noncomputable def Y7.g {β : Type} (k : Nat) (a0 : List (List D)) (a1 : Int) (K : Int → Option β) : Option β :=
  bif (decide (((IntKind.wrap .i64 (a1 - (a0.length : Int))) : Int) < 0)) then (K (-1)) else (Zo (Y7.l0 k a0 K) k (IntKind.wrap .i64 (a1 - (a0.length : Int)), 0))
noncomputable def Y7.t (k : Nat) (a0 : List (List D)) (a1 : Int) : Option (Int) := Y7.g k a0 a1 (fun z0 => some z0)
noncomputable def Y7.f {β : Type} (k : Nat) (a0 : List (List D)) (a1 : Int) (K : Int → Option β) : Option β := bd1 (Y7.t k a0 a1) K
noncomputable def Y7.e (k : Nat) : Zk := ent [.d .l, .d .n] [1] [.n] [3] false (Y7.t k)
noncomputable def Y7.p (k : Nat) : Pro := ⟨Tryz.prog, [(127, YaM.e k)], Zn [(5, kp [0, 1, 5])] false [], k⟩
noncomputable def Y7.d (k : Nat) (a0 : List (List D)) (a1 : Int) : Ex → St → Option (Int) := (Y7.p k).fin Tryz.f58 [.d (.sl a0), .d (.int .i64 a1)] [1] [.n]
noncomputable def Y7.s0 (aA : List (List D)) (v : Int × Int) : St :=
  match v with
  | (aB, aF) => ZX 27 [(0, .d false (.sl aA)), (1, .d true (.int .i64 aB)), (5, .d true (.int .i64 aF))] []
noncomputable def Y7.r0 (k : Nat) (a0 : List (List D)) (a1 : Int) (aA : List (List D)) (n : Nat) (v : Int × Int) : Option (Int) := (Y7.p k).lp (Zt Tryz.f58) 5 [1, 1, 1, 0, 1, 0] (Y7.d k a0 a1) n (Y7.s0 aA v)
theorem Y7.l0_eq (k : Nat) (a0 : List (List D)) (a1 : Int) (aA : List (List D)) : ∀ n v, Y7.r0 k a0 a1 aA n v = Zo (Y7.l0 k aA (fun z0 => some z0)) n v :=
  Zm (Y7.s0 aA) _ fun L0 v => by obtain ⟨aB, aF⟩ := v; kernel_rfl
theorem Y7.ok (k : Nat) : Za Tryz.prog 58 (Y7.e k) := Zh (Y7.p k) mix tyok Tryz.func58 (YaM.ok k) (by kernel_rfl) (fun a0 a1 => Eq.trans (b := Y7.m k a0 a1 (fun z0 => some z0) (fun aA => Y7.r0 k a0 a1 aA k)) (by kernel_rfl) (congrArg (Y7.m k a0 a1 (fun z0 => some z0)) (funext fun aA => funext fun v => Y7.l0_eq k a0 a1 aA k v)))
noncomputable def YaS.g {β : Type} (k : Nat) (aD : Int) (aC aE aG : List (List D)) (a1 : Int) (K : Int → Option β) : Option β :=
  Yag.f k aC a1 (fun y23 => bif (decide ((y23 : Int) < 0)) then (K (-1)) else (YO.f k aE y23 (fun y24 => bif (decide ((y24 : Int) < 0)) then (K (-1)) else (Y7.f k aG y24 (fun y25 => bif (decide ((y25 : Int) < 0)) then (K (-1)) else (K y25))))))
noncomputable def YaS.t (k : Nat) (aD : Int) (aC aE aG : List (List D)) (a1 : Int) : Option (Int) := YaS.g k aD aC aE aG a1 (fun z0 => some z0)
noncomputable def YaS.f {β : Type} (k : Nat) (aD : Int) (aC aE aG : List (List D)) (a1 : Int) (K : Int → Option β) : Option β := bd1 (YaS.t k aD aC aE aG a1) K
noncomputable def YaS.e (k : Nat) : Zk := ent [.agg [.n, .l, .l, .l], .d .n] [1] [.n] [3] false (YaS.t k)
noncomputable def YaS.p (k : Nat) : Pro := ⟨Tryz.prog, [(56, Yag.e k), (57, YO.e k), (58, Y7.e k)], Zn [] false [], k⟩
theorem YaS.ok (k : Nat) : Za Tryz.prog 8 (YaS.e k) := Zh (YaS.p k) mix tyok Tryz.func8 ⟨Yag.ok k, YO.ok k, Y7.ok k⟩ (by kernel_rfl) (fun aD aC aE aG a1 => by show _ = _; kernel_rfl)
noncomputable def YaN.g {β : Type} (k : Nat) (aD aC : ByteArray) (a1 : Int) (K : Int → Option β) : Option β :=
  bif (decide (((IntKind.wrap .i64 (a1 - (aD.size : Int))) : Int) < 0)) then (K (-1)) else (let J0 := (IntKind.wrap .i64 ((IntKind.wrap .i64 (a1 - (aD.size : Int))) - (aC.size : Int))); bif (decide ((J0 : Int) < 0)) then (K (-1)) else (K J0))
noncomputable def YaN.t (k : Nat) (aD aC : ByteArray) (a1 : Int) : Option (Int) := YaN.g k aD aC a1 (fun z0 => some z0)
noncomputable def YaN.f {β : Type} (k : Nat) (aD aC : ByteArray) (a1 : Int) (K : Int → Option β) : Option β := bd1 (YaN.t k aD aC a1) K
noncomputable def YaN.e (k : Nat) : Zk := ent [.agg [.s, .s], .d .n] [1] [.n] [3] false (YaN.t k)
noncomputable def YaN.p (k : Nat) : Pro := ⟨Tryz.prog, [], Zn [] false [], k⟩
theorem YaN.ok (k : Nat) : Za Tryz.prog 202 (YaN.e k) := Zh (YaN.p k) mix tyok Tryz.func202 trivial (by kernel_rfl) (fun aD aC a1 => by show _ = _; kernel_rfl)
noncomputable def Y8.l0 {β : Type} (k : Nat) (aA : List (List D)) (K : Int → Option β) (L0 : (Int × Int) → Option β) (v : Int × Int) : Option β :=
  match v with
  | (aB, aF) => bif (decide ((aF : Int) < (aA.length : Int))) then (atR aA aF [.s, .s] fun x12 x15 => (YaN.f k x12 x15 aB (fun y16 => bif (decide ((y16 : Int) < 0)) then (K (-1)) else (L0 (y16, IntKind.wrap .i64 (aF + 1)))))) else (K aB)
noncomputable def Y8.m {β : Type} (k : Nat) (a0 : List (List D)) (a1 : Int) (K : Int → Option β) (F : ((List (List D)) → (Int × Int) → Option β)) : Option β :=
  bif (decide (((IntKind.wrap .i64 (a1 - (a0.length : Int))) : Int) < 0)) then (K (-1)) else (F a0 (IntKind.wrap .i64 (a1 - (a0.length : Int)), 0))
noncomputable def Y8.g {β : Type} (k : Nat) (a0 : List (List D)) (a1 : Int) (K : Int → Option β) : Option β :=
  bif (decide (((IntKind.wrap .i64 (a1 - (a0.length : Int))) : Int) < 0)) then (K (-1)) else (Zo (Y8.l0 k a0 K) k (IntKind.wrap .i64 (a1 - (a0.length : Int)), 0))
noncomputable def Y8.t (k : Nat) (a0 : List (List D)) (a1 : Int) : Option (Int) := Y8.g k a0 a1 (fun z0 => some z0)
noncomputable def Y8.f {β : Type} (k : Nat) (a0 : List (List D)) (a1 : Int) (K : Int → Option β) : Option β := bd1 (Y8.t k a0 a1) K
noncomputable def Y8.e (k : Nat) : Zk := ent [.d .l, .d .n] [1] [.n] [3] false (Y8.t k)
noncomputable def Y8.p (k : Nat) : Pro := ⟨Tryz.prog, [(202, YaN.e k)], Zn [(5, kp [0, 1, 5])] false [], k⟩
noncomputable def Y8.d (k : Nat) (a0 : List (List D)) (a1 : Int) : Ex → St → Option (Int) := (Y8.p k).fin Tryz.f128 [.d (.sl a0), .d (.int .i64 a1)] [1] [.n]
noncomputable def Y8.s0 (aA : List (List D)) (v : Int × Int) : St :=
  match v with
  | (aB, aF) => ZX 27 [(0, .d false (.sl aA)), (1, .d true (.int .i64 aB)), (5, .d true (.int .i64 aF))] []
noncomputable def Y8.r0 (k : Nat) (a0 : List (List D)) (a1 : Int) (aA : List (List D)) (n : Nat) (v : Int × Int) : Option (Int) := (Y8.p k).lp (Zt Tryz.f128) 5 [1, 1, 1, 0, 1, 0] (Y8.d k a0 a1) n (Y8.s0 aA v)
theorem Y8.l0_eq (k : Nat) (a0 : List (List D)) (a1 : Int) (aA : List (List D)) : ∀ n v, Y8.r0 k a0 a1 aA n v = Zo (Y8.l0 k aA (fun z0 => some z0)) n v :=
  Zm (Y8.s0 aA) _ fun L0 v => by obtain ⟨aB, aF⟩ := v; kernel_rfl
theorem Y8.ok (k : Nat) : Za Tryz.prog 128 (Y8.e k) := Zh (Y8.p k) mix tyok Tryz.func128 (YaN.ok k) (by kernel_rfl) (fun a0 a1 => Eq.trans (b := Y8.m k a0 a1 (fun z0 => some z0) (fun aA => Y8.r0 k a0 a1 aA k)) (by kernel_rfl) (congrArg (Y8.m k a0 a1 (fun z0 => some z0)) (funext fun aA => funext fun v => Y8.l0_eq k a0 a1 aA k v)))
noncomputable def YaD.g {β : Type} (k : Nat) (aD : ByteArray) (aC aE : List (List D)) (aG a1 : Int) (K : Int → Option β) : Option β :=
  bif (decide (((IntKind.wrap .i64 (a1 - (aD.size : Int))) : Int) < 0)) then (K (-1)) else (Y8.f k aC (IntKind.wrap .i64 (a1 - (aD.size : Int))) (fun y17 => bif (decide ((y17 : Int) < 0)) then (K (-1)) else (YO.f k aE y17 (fun y18 => bif (decide ((y18 : Int) < 0)) then (K (-1)) else (K y18)))))
noncomputable def YaD.t (k : Nat) (aD : ByteArray) (aC aE : List (List D)) (aG a1 : Int) : Option (Int) := YaD.g k aD aC aE aG a1 (fun z0 => some z0)
noncomputable def YaD.f {β : Type} (k : Nat) (aD : ByteArray) (aC aE : List (List D)) (aG a1 : Int) (K : Int → Option β) : Option β := bd1 (YaD.t k aD aC aE aG a1) K
noncomputable def YaD.e (k : Nat) : Zk := ent [.agg [.s, .l, .l, .n], .d .n] [1] [.n] [3] false (YaD.t k)
noncomputable def YaD.p (k : Nat) : Pro := ⟨Tryz.prog, [(128, Y8.e k), (57, YO.e k)], Zn [] false [], k⟩
theorem YaD.ok (k : Nat) : Za Tryz.prog 59 (YaD.e k) := Zh (YaD.p k) mix tyok Tryz.func59 ⟨Y8.ok k, YO.ok k⟩ (by kernel_rfl) (fun aD aC aE aG a1 => by show _ = _; kernel_rfl)
noncomputable def YX.l0 {β : Type} (k : Nat) (aA : List (List D)) (K : Int → Option β) (L0 : (Int × Int) → Option β) (v : Int × Int) : Option β :=
  match v with
  | (aB, aF) => bif (decide ((aF : Int) < (aA.length : Int))) then (atR aA aF [.s, .l, .l, .n] fun x23 x26 x29 x32 => (YaD.f k x23 x26 x29 x32 aB (fun y33 => bif (decide ((y33 : Int) < 0)) then (K (-1)) else (L0 (y33, IntKind.wrap .i64 (aF + 1)))))) else (K aB)
noncomputable def YX.m {β : Type} (k : Nat) (a0 : List (List D)) (a1 : Int) (K : Int → Option β) (F : ((List (List D)) → (Int × Int) → Option β)) : Option β :=
  bif (decide (((IntKind.wrap .i64 (a1 - (a0.length : Int))) : Int) < 0)) then (K (-1)) else (F a0 (IntKind.wrap .i64 (a1 - (a0.length : Int)), 0))
noncomputable def YX.g {β : Type} (k : Nat) (a0 : List (List D)) (a1 : Int) (K : Int → Option β) : Option β :=
  bif (decide (((IntKind.wrap .i64 (a1 - (a0.length : Int))) : Int) < 0)) then (K (-1)) else (Zo (YX.l0 k a0 K) k (IntKind.wrap .i64 (a1 - (a0.length : Int)), 0))
noncomputable def YX.t (k : Nat) (a0 : List (List D)) (a1 : Int) : Option (Int) := YX.g k a0 a1 (fun z0 => some z0)
noncomputable def YX.f {β : Type} (k : Nat) (a0 : List (List D)) (a1 : Int) (K : Int → Option β) : Option β := bd1 (YX.t k a0 a1) K
noncomputable def YX.e (k : Nat) : Zk := ent [.d .l, .d .n] [1] [.n] [3] false (YX.t k)
noncomputable def YX.p (k : Nat) : Pro := ⟨Tryz.prog, [(59, YaD.e k)], Zn [(5, kp [0, 1, 5])] false [], k⟩
noncomputable def YX.d (k : Nat) (a0 : List (List D)) (a1 : Int) : Ex → St → Option (Int) := (YX.p k).fin Tryz.f9 [.d (.sl a0), .d (.int .i64 a1)] [1] [.n]
noncomputable def YX.s0 (aA : List (List D)) (v : Int × Int) : St :=
  match v with
  | (aB, aF) => ZX 27 [(0, .d false (.sl aA)), (1, .d true (.int .i64 aB)), (5, .d true (.int .i64 aF))] []
noncomputable def YX.r0 (k : Nat) (a0 : List (List D)) (a1 : Int) (aA : List (List D)) (n : Nat) (v : Int × Int) : Option (Int) := (YX.p k).lp (Zt Tryz.f9) 5 [1, 1, 1, 0, 1, 0] (YX.d k a0 a1) n (YX.s0 aA v)
theorem YX.l0_eq (k : Nat) (a0 : List (List D)) (a1 : Int) (aA : List (List D)) : ∀ n v, YX.r0 k a0 a1 aA n v = Zo (YX.l0 k aA (fun z0 => some z0)) n v :=
  Zm (YX.s0 aA) _ fun L0 v => by obtain ⟨aB, aF⟩ := v; kernel_rfl
theorem YX.ok (k : Nat) : Za Tryz.prog 9 (YX.e k) := Zh (YX.p k) mix tyok Tryz.func9 (YaD.ok k) (by kernel_rfl) (fun a0 a1 => Eq.trans (b := YX.m k a0 a1 (fun z0 => some z0) (fun aA => YX.r0 k a0 a1 aA k)) (by kernel_rfl) (congrArg (YX.m k a0 a1 (fun z0 => some z0)) (funext fun aA => funext fun v => YX.l0_eq k a0 a1 aA k v)))
noncomputable def YN.l0 {β : Type} (k : Nat) (aA : List (List D)) (K : (List (List C)) → Option β) (L0 : (Int × (List (List C))) → Option β) (v : Int × (List (List C))) : Option β :=
  match v with
  | (aB, aF) => bif (decide ((aB : Int) < (aA.length : Int))) then (atR aA aB [.s] fun x8 => (Zc ((0 : Int) ≤ aB ∧ aB < (aF.length : Int)) (Zc (Int.toNat aB < aF.length) (L0 (IntKind.wrap .i64 (aB + 1), aF.modify (Int.toNat aB) fun c => Zq c 0 [.d (.str x8)]))))) else (K aF)
noncomputable def YN.m {β : Type} (k : Nat) (a0 : List (List D)) (K : (List (List C)) → Option β) (F : ((List (List D)) → (Int × (List (List C))) → Option β)) : Option β :=
  Zc ((0 : Int) ≤ (a0.length : Int) ∧ (a0.length : Int) ≤ (ZN : Int) ∧ (a0.length : Int) ≤ (a0.length : Int) ∧ (a0.length : Int) ≤ (a0.length : Int)) (F a0 (0, List.replicate (Int.toNat (a0.length : Int)) ([.d (.str (⟨#[]⟩ : ByteArray))] : List C)))
noncomputable def YN.g {β : Type} (k : Nat) (a0 : List (List D)) (K : (List (List C)) → Option β) : Option β :=
  Zc ((0 : Int) ≤ (a0.length : Int) ∧ (a0.length : Int) ≤ (ZN : Int) ∧ (a0.length : Int) ≤ (a0.length : Int) ∧ (a0.length : Int) ≤ (a0.length : Int)) (Zo (YN.l0 k a0 K) k (0, List.replicate (Int.toNat (a0.length : Int)) ([.d (.str (⟨#[]⟩ : ByteArray))] : List C)))
noncomputable def YN.t (k : Nat) (a0 : List (List D)) : Option ((List (List C))) := YN.g k a0 (fun z0 => some z0)
noncomputable def YN.f {β : Type} (k : Nat) (a0 : List (List D)) (K : (List (List C)) → Option β) : Option β := bd1 (YN.t k a0) K
noncomputable def YN.e (k : Nat) : Zk := ent [.d .l] [1] [.o] [23] false (YN.t k)
noncomputable def YN.p (k : Nat) : Pro := ⟨Tryz.prog, [], Zn [(3, kp [0, 3, 4])] false [], k⟩
noncomputable def YN.d (k : Nat) (a0 : List (List D)) : Ex → St → Option ((List (List C))) := (YN.p k).fin Tryz.f66 [.d (.sl a0)] [1] [.o]
noncomputable def YN.s0 (aA : List (List D)) (v : Int × (List (List C))) : St :=
  match v with
  | (aB, aF) => ZX 22 [(0, .d false (.sl aA)), (3, .row 0), (4, .d true (.int .i64 aB))] [.row none true 23 aF]
noncomputable def YN.r0 (k : Nat) (a0 aA : List (List D)) (n : Nat) (v : Int × (List (List C))) : Option ((List (List C))) := (YN.p k).lp (Zt Tryz.f66) 3 [1, 1, 0, 1, 0] (YN.d k a0) n (YN.s0 aA v)
theorem YN.l0_eq (k : Nat) (a0 aA : List (List D)) : ∀ n v, YN.r0 k a0 aA n v = Zo (YN.l0 k aA (fun z0 => some z0)) n v :=
  Zm (YN.s0 aA) _ fun L0 v => by obtain ⟨aB, aF⟩ := v; kernel_rfl
theorem YN.ok (k : Nat) : Za Tryz.prog 66 (YN.e k) := Zh (YN.p k) mix tyok Tryz.func66 trivial (by kernel_rfl) (fun a0 => Eq.trans (b := YN.m k a0 (fun z0 => some z0) (fun aA => YN.r0 k a0 aA k)) (by kernel_rfl) (congrArg (YN.m k a0 (fun z0 => some z0)) (funext fun aA => funext fun v => YN.l0_eq k a0 aA k v)))
noncomputable def YaR.g {β : Type} (k : Nat) (aD : Int) (aC : ByteArray) (aE : List (List D)) (K : Int → ByteArray → (List (List C)) → Option β) : Option β :=
  YN.f k aE (fun y9 => K aD aC y9)
noncomputable def YaR.t (k : Nat) (aD : Int) (aC : ByteArray) (aE : List (List D)) : Option (Int × ByteArray × (List (List C))) := YaR.g k aD aC aE (fun z0 z1 z2 => some (z0, z1, z2))
noncomputable def YaR.f {β : Type} (k : Nat) (aD : Int) (aC : ByteArray) (aE : List (List D)) (K : Int → ByteArray → (List (List C)) → Option β) : Option β := bd3 (YaR.t k aD aC aE) K
noncomputable def YaR.e (k : Nat) : Zk := ent [.agg [.n, .s, .l]] [3] [.n, .s, .o] [191] false (YaR.t k)
noncomputable def YaR.p (k : Nat) : Pro := ⟨Tryz.prog, [(66, YN.e k)], Zn [] false [], k⟩
theorem YaR.ok (k : Nat) : Za Tryz.prog 138 (YaR.e k) := Zh (YaR.p k) mix tyok Tryz.func138 (YN.ok k) (by kernel_rfl) (fun aD aC aE => by show _ = _; kernel_rfl)
noncomputable def Yaf.l0 {β : Type} (k : Nat) (aA : List (List D)) (K : (List (List C)) → Option β) (L0 : (Int × (List (List C))) → Option β) (v : Int × (List (List C))) : Option β :=
  match v with
  | (aB, aF) => bif (decide ((aB : Int) < (aA.length : Int))) then (atR aA aB [.n, .s, .l] fun x17 x20 x23 => (YaR.f k x17 x20 x23 (fun y24 y25 y26 => Zc ((0 : Int) ≤ aB ∧ aB < (aF.length : Int)) (Zc (Int.toNat aB < aF.length) (L0 (IntKind.wrap .i64 (aB + 1), aF.modify (Int.toNat aB) fun c => Zq c 0 [.d (.int .i64 y24), .d (.str y25), .own y26])))))) else (K aF)
noncomputable def Yaf.m {β : Type} (k : Nat) (a0 : List (List D)) (K : (List (List C)) → Option β) (F : ((List (List D)) → (Int × (List (List C))) → Option β)) : Option β :=
  Zc ((0 : Int) ≤ (a0.length : Int) ∧ (a0.length : Int) ≤ (ZN : Int) ∧ (a0.length : Int) ≤ (a0.length : Int) ∧ (a0.length : Int) ≤ (a0.length : Int)) (F a0 (0, List.replicate (Int.toNat (a0.length : Int)) ([.d (.int .i64 0), .d (.str (⟨#[]⟩ : ByteArray)), .own ([] : List (List C))] : List C)))
noncomputable def Yaf.g {β : Type} (k : Nat) (a0 : List (List D)) (K : (List (List C)) → Option β) : Option β := Yaf.m k a0 K (fun aA => Zo (Yaf.l0 k aA K) k)
noncomputable def Yaf.t (k : Nat) (a0 : List (List D)) : Option ((List (List C))) := Yaf.g k a0 (fun z0 => some z0)
noncomputable def Yaf.f {β : Type} (k : Nat) (a0 : List (List D)) (K : (List (List C)) → Option β) : Option β := bd1 (Yaf.t k a0) K
noncomputable def Yaf.e (k : Nat) : Zk := ent [.d .l] [1] [.o] [32] false (Yaf.t k)
noncomputable def Yaf.p (k : Nat) : Pro := ⟨Tryz.prog, [(138, YaR.e k)], Zn [(3, kp [0, 3, 4])] false [], k⟩
noncomputable def Yaf.d (k : Nat) (a0 : List (List D)) : Ex → St → Option ((List (List C))) := (Yaf.p k).fin Tryz.f65 [.d (.sl a0)] [1] [.o]
noncomputable def Yaf.s0 (aA : List (List D)) (v : Int × (List (List C))) : St :=
  match v with
  | (aB, aF) => ZX 23 [(0, .d false (.sl aA)), (3, .row 0), (4, .d true (.int .i64 aB))] [.row none true 32 aF]
noncomputable def Yaf.r0 (k : Nat) (a0 aA : List (List D)) (n : Nat) (v : Int × (List (List C))) : Option ((List (List C))) := (Yaf.p k).lp (Zt Tryz.f65) 3 [1, 1, 0, 1, 0] (Yaf.d k a0) n (Yaf.s0 aA v)
theorem Yaf.l0_eq (k : Nat) (a0 aA : List (List D)) : ∀ n v, Yaf.r0 k a0 aA n v = Zo (Yaf.l0 k aA (fun z0 => some z0)) n v :=
  Zm (Yaf.s0 aA) _ fun L0 v => by obtain ⟨aB, aF⟩ := v; kernel_rfl
theorem Yaf.ok (k : Nat) : Za Tryz.prog 65 (Yaf.e k) := Zh (Yaf.p k) mix tyok Tryz.func65 (YaR.ok k) (by kernel_rfl) (fun a0 => Eq.trans (b := Yaf.m k a0 (fun z0 => some z0) (fun aA => Yaf.r0 k a0 aA k)) (by kernel_rfl) (congrArg (Yaf.m k a0 (fun z0 => some z0)) (funext fun aA => funext fun v => Yaf.l0_eq k a0 aA k v)))
noncomputable def YaK.g {β : Type} (k : Nat) (aD : ByteArray) (aC : Int) (K : ByteArray → Int → Option β) : Option β :=
  K aD aC
noncomputable def YaK.t (k : Nat) (aD : ByteArray) (aC : Int) : Option (ByteArray × Int) := YaK.g k aD aC (fun z0 z1 => some (z0, z1))
noncomputable def YaK.f {β : Type} (k : Nat) (aD : ByteArray) (aC : Int) (K : ByteArray → Int → Option β) : Option β := bd2 (YaK.t k aD aC) K
noncomputable def YaK.e (k : Nat) : Zk := ent [.agg [.s, .n]] [2] [.s, .n] [181] false (YaK.t k)
noncomputable def YaK.p (k : Nat) : Pro := ⟨Tryz.prog, [], Zn [] false [], k⟩
theorem YaK.ok (k : Nat) : Za Tryz.prog 139 (YaK.e k) := Zh (YaK.p k) mix tyok Tryz.func139 trivial (by kernel_rfl) (fun aD aC => by show _ = _; kernel_rfl)
noncomputable def Y0.l0 {β : Type} (k : Nat) (aA : List (List D)) (K : (List (List C)) → Option β) (L0 : (Int × (List (List C))) → Option β) (v : Int × (List (List C))) : Option β :=
  match v with
  | (aB, aF) => bif (decide ((aB : Int) < (aA.length : Int))) then (atR aA aB [.s, .n] fun x13 x16 => (YaK.f k x13 x16 (fun y17 y18 => Zc ((0 : Int) ≤ aB ∧ aB < (aF.length : Int)) (Zc (Int.toNat aB < aF.length) (L0 (IntKind.wrap .i64 (aB + 1), aF.modify (Int.toNat aB) fun c => Zq c 0 [.d (.str y17), .d (.int .i64 y18)])))))) else (K aF)
noncomputable def Y0.m {β : Type} (k : Nat) (a0 : List (List D)) (K : (List (List C)) → Option β) (F : ((List (List D)) → (Int × (List (List C))) → Option β)) : Option β :=
  Zc ((0 : Int) ≤ (a0.length : Int) ∧ (a0.length : Int) ≤ (ZN : Int) ∧ (a0.length : Int) ≤ (a0.length : Int) ∧ (a0.length : Int) ≤ (a0.length : Int)) (F a0 (0, List.replicate (Int.toNat (a0.length : Int)) ([.d (.str (⟨#[]⟩ : ByteArray)), .d (.int .i64 0)] : List C)))
noncomputable def Y0.g {β : Type} (k : Nat) (a0 : List (List D)) (K : (List (List C)) → Option β) : Option β := Y0.m k a0 K (fun aA => Zo (Y0.l0 k aA K) k)
noncomputable def Y0.t (k : Nat) (a0 : List (List D)) : Option ((List (List C))) := Y0.g k a0 (fun z0 => some z0)
noncomputable def Y0.f {β : Type} (k : Nat) (a0 : List (List D)) (K : (List (List C)) → Option β) : Option β := bd1 (Y0.t k a0) K
noncomputable def Y0.e (k : Nat) : Zk := ent [.d .l] [1] [.o] [33] false (Y0.t k)
noncomputable def Y0.p (k : Nat) : Pro := ⟨Tryz.prog, [(139, YaK.e k)], Zn [(3, kp [0, 3, 4])] false [], k⟩
noncomputable def Y0.d (k : Nat) (a0 : List (List D)) : Ex → St → Option ((List (List C))) := (Y0.p k).fin Tryz.f67 [.d (.sl a0)] [1] [.o]
noncomputable def Y0.s0 (aA : List (List D)) (v : Int × (List (List C))) : St :=
  match v with
  | (aB, aF) => ZX 23 [(0, .d false (.sl aA)), (3, .row 0), (4, .d true (.int .i64 aB))] [.row none true 33 aF]
noncomputable def Y0.r0 (k : Nat) (a0 aA : List (List D)) (n : Nat) (v : Int × (List (List C))) : Option ((List (List C))) := (Y0.p k).lp (Zt Tryz.f67) 3 [1, 1, 0, 1, 0] (Y0.d k a0) n (Y0.s0 aA v)
theorem Y0.l0_eq (k : Nat) (a0 aA : List (List D)) : ∀ n v, Y0.r0 k a0 aA n v = Zo (Y0.l0 k aA (fun z0 => some z0)) n v :=
  Zm (Y0.s0 aA) _ fun L0 v => by obtain ⟨aB, aF⟩ := v; kernel_rfl
theorem Y0.ok (k : Nat) : Za Tryz.prog 67 (Y0.e k) := Zh (Y0.p k) mix tyok Tryz.func67 (YaK.ok k) (by kernel_rfl) (fun a0 => Eq.trans (b := Y0.m k a0 (fun z0 => some z0) (fun aA => Y0.r0 k a0 aA k)) (by kernel_rfl) (congrArg (Y0.m k a0 (fun z0 => some z0)) (funext fun aA => funext fun v => Y0.l0_eq k a0 aA k v)))
noncomputable def Yat.g {β : Type} (k : Nat) (aD : Int) (aC aE aG : List (List D)) (K : Int → (List (List C)) → (List (List C)) → (List (List C)) → Option β) : Option β :=
  Yaf.f k aC (fun y27 => YN.f k aE (fun y28 => Y0.f k aG (fun y29 => K aD y27 y28 y29)))
noncomputable def Yat.t (k : Nat) (aD : Int) (aC aE aG : List (List D)) : Option (Int × (List (List C)) × (List (List C)) × (List (List C))) := Yat.g k aD aC aE aG (fun z0 z1 z2 z3 => some (z0, z1, z2, z3))
noncomputable def Yat.f {β : Type} (k : Nat) (aD : Int) (aC aE aG : List (List D)) (K : Int → (List (List C)) → (List (List C)) → (List (List C)) → Option β) : Option β := bd4 (Yat.t k aD aC aE aG) K
noncomputable def Yat.e (k : Nat) : Zk := ent [.agg [.n, .l, .l, .l]] [4] [.n, .o, .o, .o] [35] false (Yat.t k)
noncomputable def Yat.p (k : Nat) : Pro := ⟨Tryz.prog, [(65, Yaf.e k), (66, YN.e k), (67, Y0.e k)], Zn [] false [], k⟩
theorem Yat.ok (k : Nat) : Za Tryz.prog 11 (Yat.e k) := Zh (Yat.p k) mix tyok Tryz.func11 ⟨Yaf.ok k, YN.ok k, Y0.ok k⟩ (by kernel_rfl) (fun aD aC aE aG => by show _ = _; kernel_rfl)
noncomputable def YaL.g {β : Type} (k : Nat) (aD aC : ByteArray) (K : ByteArray → ByteArray → Option β) : Option β :=
  K aD aC
noncomputable def YaL.t (k : Nat) (aD aC : ByteArray) : Option (ByteArray × ByteArray) := YaL.g k aD aC (fun z0 z1 => some (z0, z1))
noncomputable def YaL.f {β : Type} (k : Nat) (aD aC : ByteArray) (K : ByteArray → ByteArray → Option β) : Option β := bd2 (YaL.t k aD aC) K
noncomputable def YaL.e (k : Nat) : Zk := ent [.agg [.s, .s]] [2] [.s, .s] [204] false (YaL.t k)
noncomputable def YaL.p (k : Nat) : Pro := ⟨Tryz.prog, [], Zn [] false [], k⟩
theorem YaL.ok (k : Nat) : Za Tryz.prog 206 (YaL.e k) := Zh (YaL.p k) mix tyok Tryz.func206 trivial (by kernel_rfl) (fun aD aC => by show _ = _; kernel_rfl)
noncomputable def Y1.l0 {β : Type} (k : Nat) (aA : List (List D)) (K : (List (List C)) → Option β) (L0 : (Int × (List (List C))) → Option β) (v : Int × (List (List C))) : Option β :=
  match v with
  | (aB, aF) => bif (decide ((aB : Int) < (aA.length : Int))) then (atR aA aB [.s, .s] fun x13 x16 => (YaL.f k x13 x16 (fun y17 y18 => Zc ((0 : Int) ≤ aB ∧ aB < (aF.length : Int)) (Zc (Int.toNat aB < aF.length) (L0 (IntKind.wrap .i64 (aB + 1), aF.modify (Int.toNat aB) fun c => Zq c 0 [.d (.str y17), .d (.str y18)])))))) else (K aF)
noncomputable def Y1.m {β : Type} (k : Nat) (a0 : List (List D)) (K : (List (List C)) → Option β) (F : ((List (List D)) → (Int × (List (List C))) → Option β)) : Option β :=
  Zc ((0 : Int) ≤ (a0.length : Int) ∧ (a0.length : Int) ≤ (ZN : Int) ∧ (a0.length : Int) ≤ (a0.length : Int) ∧ (a0.length : Int) ≤ (a0.length : Int)) (F a0 (0, List.replicate (Int.toNat (a0.length : Int)) ([.d (.str (⟨#[]⟩ : ByteArray)), .d (.str (⟨#[]⟩ : ByteArray))] : List C)))
noncomputable def Y1.g {β : Type} (k : Nat) (a0 : List (List D)) (K : (List (List C)) → Option β) : Option β := Y1.m k a0 K (fun aA => Zo (Y1.l0 k aA K) k)
noncomputable def Y1.t (k : Nat) (a0 : List (List D)) : Option ((List (List C))) := Y1.g k a0 (fun z0 => some z0)
noncomputable def Y1.f {β : Type} (k : Nat) (a0 : List (List D)) (K : (List (List C)) → Option β) : Option β := bd1 (Y1.t k a0) K
noncomputable def Y1.e (k : Nat) : Zk := ent [.d .l] [1] [.o] [116] false (Y1.t k)
noncomputable def Y1.p (k : Nat) : Pro := ⟨Tryz.prog, [(206, YaL.e k)], Zn [(3, kp [0, 3, 4])] false [], k⟩
noncomputable def Y1.d (k : Nat) (a0 : List (List D)) : Ex → St → Option ((List (List C))) := (Y1.p k).fin Tryz.f140 [.d (.sl a0)] [1] [.o]
noncomputable def Y1.s0 (aA : List (List D)) (v : Int × (List (List C))) : St :=
  match v with
  | (aB, aF) => ZX 23 [(0, .d false (.sl aA)), (3, .row 0), (4, .d true (.int .i64 aB))] [.row none true 116 aF]
noncomputable def Y1.r0 (k : Nat) (a0 aA : List (List D)) (n : Nat) (v : Int × (List (List C))) : Option ((List (List C))) := (Y1.p k).lp (Zt Tryz.f140) 3 [1, 1, 0, 1, 0] (Y1.d k a0) n (Y1.s0 aA v)
theorem Y1.l0_eq (k : Nat) (a0 aA : List (List D)) : ∀ n v, Y1.r0 k a0 aA n v = Zo (Y1.l0 k aA (fun z0 => some z0)) n v :=
  Zm (Y1.s0 aA) _ fun L0 v => by obtain ⟨aB, aF⟩ := v; kernel_rfl
theorem Y1.ok (k : Nat) : Za Tryz.prog 140 (Y1.e k) := Zh (Y1.p k) mix tyok Tryz.func140 (YaL.ok k) (by kernel_rfl) (fun a0 => Eq.trans (b := Y1.m k a0 (fun z0 => some z0) (fun aA => Y1.r0 k a0 aA k)) (by kernel_rfl) (congrArg (Y1.m k a0 (fun z0 => some z0)) (funext fun aA => funext fun v => Y1.l0_eq k a0 aA k v)))
noncomputable def YaC.g {β : Type} (k : Nat) (aD : ByteArray) (aC aE : List (List D)) (aG : Int) (K : ByteArray → (List (List C)) → (List (List C)) → Int → Option β) : Option β :=
  Y1.f k aC (fun y19 => YN.f k aE (fun y20 => K aD y19 y20 aG))
noncomputable def YaC.t (k : Nat) (aD : ByteArray) (aC aE : List (List D)) (aG : Int) : Option (ByteArray × (List (List C)) × (List (List C)) × Int) := YaC.g k aD aC aE aG (fun z0 z1 z2 z3 => some (z0, z1, z2, z3))
noncomputable def YaC.f {β : Type} (k : Nat) (aD : ByteArray) (aC aE : List (List D)) (aG : Int) (K : ByteArray → (List (List C)) → (List (List C)) → Int → Option β) : Option β := bd4 (YaC.t k aD aC aE aG) K
noncomputable def YaC.e (k : Nat) : Zk := ent [.agg [.s, .l, .l, .n]] [4] [.s, .o, .o, .n] [118] false (YaC.t k)
noncomputable def YaC.p (k : Nat) : Pro := ⟨Tryz.prog, [(140, Y1.e k), (66, YN.e k)], Zn [] false [], k⟩
theorem YaC.ok (k : Nat) : Za Tryz.prog 68 (YaC.e k) := Zh (YaC.p k) mix tyok Tryz.func68 ⟨Y1.ok k, YN.ok k⟩ (by kernel_rfl) (fun aD aC aE aG => by show _ = _; kernel_rfl)
noncomputable def YL.l0 {β : Type} (k : Nat) (aA : List (List D)) (K : (List (List C)) → Option β) (L0 : (Int × (List (List C))) → Option β) (v : Int × (List (List C))) : Option β :=
  match v with
  | (aB, aF) => bif (decide ((aB : Int) < (aA.length : Int))) then (atR aA aB [.s, .l, .l, .n] fun x28 x31 x34 x37 => (YaC.f k x28 x31 x34 x37 (fun y38 y39 y40 y41 => Zc ((0 : Int) ≤ aB ∧ aB < (aF.length : Int)) (Zc (Int.toNat aB < aF.length) (L0 (IntKind.wrap .i64 (aB + 1), aF.modify (Int.toNat aB) fun c => Zq c 0 [.d (.str y38), .own y39, .own y40, .d (.int .i64 y41)])))))) else (K aF)
noncomputable def YL.m {β : Type} (k : Nat) (a0 : List (List D)) (K : (List (List C)) → Option β) (F : ((List (List D)) → (Int × (List (List C))) → Option β)) : Option β :=
  Zc ((0 : Int) ≤ (a0.length : Int) ∧ (a0.length : Int) ≤ (ZN : Int) ∧ (a0.length : Int) ≤ (a0.length : Int) ∧ (a0.length : Int) ≤ (a0.length : Int)) (F a0 (0, List.replicate (Int.toNat (a0.length : Int)) ([.d (.str (⟨#[]⟩ : ByteArray)), .own ([] : List (List C)), .own ([] : List (List C)), .d (.int .i64 0)] : List C)))
noncomputable def YL.g {β : Type} (k : Nat) (a0 : List (List D)) (K : (List (List C)) → Option β) : Option β := YL.m k a0 K (fun aA => Zo (YL.l0 k aA K) k)
noncomputable def YL.t (k : Nat) (a0 : List (List D)) : Option ((List (List C))) := YL.g k a0 (fun z0 => some z0)
noncomputable def YL.f {β : Type} (k : Nat) (a0 : List (List D)) (K : (List (List C)) → Option β) : Option β := bd1 (YL.t k a0) K
noncomputable def YL.e (k : Nat) : Zk := ent [.d .l] [1] [.o] [37] false (YL.t k)
noncomputable def YL.p (k : Nat) : Pro := ⟨Tryz.prog, [(68, YaC.e k)], Zn [(3, kp [0, 3, 4])] false [], k⟩
noncomputable def YL.d (k : Nat) (a0 : List (List D)) : Ex → St → Option ((List (List C))) := (YL.p k).fin Tryz.f12 [.d (.sl a0)] [1] [.o]
noncomputable def YL.s0 (aA : List (List D)) (v : Int × (List (List C))) : St :=
  match v with
  | (aB, aF) => ZX 23 [(0, .d false (.sl aA)), (3, .row 0), (4, .d true (.int .i64 aB))] [.row none true 37 aF]
noncomputable def YL.r0 (k : Nat) (a0 aA : List (List D)) (n : Nat) (v : Int × (List (List C))) : Option ((List (List C))) := (YL.p k).lp (Zt Tryz.f12) 3 [1, 1, 0, 1, 0] (YL.d k a0) n (YL.s0 aA v)
theorem YL.l0_eq (k : Nat) (a0 aA : List (List D)) : ∀ n v, YL.r0 k a0 aA n v = Zo (YL.l0 k aA (fun z0 => some z0)) n v :=
  Zm (YL.s0 aA) _ fun L0 v => by obtain ⟨aB, aF⟩ := v; kernel_rfl
theorem YL.ok (k : Nat) : Za Tryz.prog 12 (YL.e k) := Zh (YL.p k) mix tyok Tryz.func12 (YaC.ok k) (by kernel_rfl) (fun a0 => Eq.trans (b := YL.m k a0 (fun z0 => some z0) (fun aA => YL.r0 k a0 aA k)) (by kernel_rfl) (congrArg (YL.m k a0 (fun z0 => some z0)) (funext fun aA => funext fun v => YL.l0_eq k a0 aA k v)))
noncomputable def Yac.l0 {β : Type} (k : Nat) (aA : List (List D)) (K : (List (List C)) → Option β) (L0 : (Int × (List (List C))) → Option β) (v : Int × (List (List C))) : Option β :=
  match v with
  | (aB, aF) => bif (decide ((aB : Int) < (aA.length : Int))) then (atR aA aB [.n] fun x8 => (Zc ((0 : Int) ≤ aB ∧ aB < (aF.length : Int)) (Zc (Int.toNat aB < aF.length) (L0 (IntKind.wrap .i64 (aB + 1), aF.modify (Int.toNat aB) fun c => Zq c 0 [.d (.int .i64 x8)]))))) else (K aF)
noncomputable def Yac.m {β : Type} (k : Nat) (a0 : List (List D)) (K : (List (List C)) → Option β) (F : ((List (List D)) → (Int × (List (List C))) → Option β)) : Option β :=
  Zc ((0 : Int) ≤ (a0.length : Int) ∧ (a0.length : Int) ≤ (ZN : Int) ∧ (a0.length : Int) ≤ (a0.length : Int) ∧ (a0.length : Int) ≤ (a0.length : Int)) (F a0 (0, List.replicate (Int.toNat (a0.length : Int)) ([.d (.int .i64 0)] : List C)))
noncomputable def Yac.g {β : Type} (k : Nat) (a0 : List (List D)) (K : (List (List C)) → Option β) : Option β :=
  Zc ((0 : Int) ≤ (a0.length : Int) ∧ (a0.length : Int) ≤ (ZN : Int) ∧ (a0.length : Int) ≤ (a0.length : Int) ∧ (a0.length : Int) ≤ (a0.length : Int)) (Zo (Yac.l0 k a0 K) k (0, List.replicate (Int.toNat (a0.length : Int)) ([.d (.int .i64 0)] : List C)))
noncomputable def Yac.t (k : Nat) (a0 : List (List D)) : Option ((List (List C))) := Yac.g k a0 (fun z0 => some z0)
noncomputable def Yac.f {β : Type} (k : Nat) (a0 : List (List D)) (K : (List (List C)) → Option β) : Option β := bd1 (Yac.t k a0) K
noncomputable def Yac.e (k : Nat) : Zk := ent [.d .l] [1] [.o] [28] false (Yac.t k)
noncomputable def Yac.p (k : Nat) : Pro := ⟨Tryz.prog, [], Zn [(3, kp [0, 3, 4])] false [], k⟩
noncomputable def Yac.d (k : Nat) (a0 : List (List D)) : Ex → St → Option ((List (List C))) := (Yac.p k).fin Tryz.f13 [.d (.sl a0)] [1] [.o]
noncomputable def Yac.s0 (aA : List (List D)) (v : Int × (List (List C))) : St :=
  match v with
  | (aB, aF) => ZX 22 [(0, .d false (.sl aA)), (3, .row 0), (4, .d true (.int .i64 aB))] [.row none true 28 aF]
noncomputable def Yac.r0 (k : Nat) (a0 aA : List (List D)) (n : Nat) (v : Int × (List (List C))) : Option ((List (List C))) := (Yac.p k).lp (Zt Tryz.f13) 3 [1, 1, 0, 1, 0] (Yac.d k a0) n (Yac.s0 aA v)
theorem Yac.l0_eq (k : Nat) (a0 aA : List (List D)) : ∀ n v, Yac.r0 k a0 aA n v = Zo (Yac.l0 k aA (fun z0 => some z0)) n v :=
  Zm (Yac.s0 aA) _ fun L0 v => by obtain ⟨aB, aF⟩ := v; kernel_rfl
theorem Yac.ok (k : Nat) : Za Tryz.prog 13 (Yac.e k) := Zh (Yac.p k) mix tyok Tryz.func13 trivial (by kernel_rfl) (fun a0 => Eq.trans (b := Yac.m k a0 (fun z0 => some z0) (fun aA => Yac.r0 k a0 aA k)) (by kernel_rfl) (congrArg (Yac.m k a0 (fun z0 => some z0)) (funext fun aA => funext fun v => Yac.l0_eq k a0 aA k v)))
noncomputable def Yae.g {β : Type} (k : Nat) (a0 a1 a2 : Int) (K : Bool → Option β) : Option β :=
  bif (decide ((a0 : Int) ≥ a1)) then (K (decide ((a0 : Int) ≤ a2))) else (K false)
noncomputable def Yae.t (k : Nat) (a0 a1 a2 : Int) : Option (Bool) := Yae.g k a0 a1 a2 (fun z0 => some z0)
noncomputable def Yae.f {β : Type} (k : Nat) (a0 a1 a2 : Int) (K : Bool → Option β) : Option β := bd1 (Yae.t k a0 a1 a2) K
noncomputable def Yae.e (k : Nat) : Zk := ent [.d .n, .d .n, .d .n] [1] [.b] [4] false (Yae.t k)
noncomputable def Yae.p (k : Nat) : Pro := ⟨Tryz.prog, [], Zn [] false [], k⟩
theorem Yae.ok (k : Nat) : Za Tryz.prog 130 (Yae.e k) := Zh (Yae.p k) mix tyok Tryz.func130 trivial (by kernel_rfl) (fun a0 a1 a2 => by show _ = _; kernel_rfl)
noncomputable def Yq.l0 {β : Type} (k : Nat) (aA : ByteArray) (K : Bool → Option β) (L0 : Int → Option β) (v : Int) : Option β :=
  match v with
  | aB => bif (decide ((aB : Int) < (aA.size : Int))) then (Za0 aA aB fun b9 => Yae.f k (IntKind.wrap .i64 b9) 97 122 (fun y10 => bif (!y10) then (Za0 aA aB fun b11 => Yae.f k (IntKind.wrap .i64 b11) 48 57 (fun y12 => bif (!y12) then (Za0 aA aB fun b13 => bif ((b13 : Int) != 45) then (K false) else (L0 (IntKind.wrap .i64 (aB + 1)))) else (L0 (IntKind.wrap .i64 (aB + 1))))) else (L0 (IntKind.wrap .i64 (aB + 1))))) else (Yae.f k (aA.size : Int) 1 20 (fun y14 => bif y14 then (Za0 aA 0 fun b15 => bif ((b15 : Int) != 45) then (Za0 aA (IntKind.wrap .i64 ((aA.size : Int) - 1)) fun b16 => K ((b16 : Int) != 45)) else (K false)) else (K false)))
noncomputable def Yq.m {β : Type} (k : Nat) (a0 : ByteArray) (K : Bool → Option β) (F : (ByteArray → Int → Option β)) : Option β :=
  F a0 (0)
noncomputable def Yq.g {β : Type} (k : Nat) (a0 : ByteArray) (K : Bool → Option β) : Option β :=
  Zo (Yq.l0 k a0 K) k (0)
noncomputable def Yq.t (k : Nat) (a0 : ByteArray) : Option (Bool) := Yq.g k a0 (fun z0 => some z0)
noncomputable def Yq.f {β : Type} (k : Nat) (a0 : ByteArray) (K : Bool → Option β) : Option β := bd1 (Yq.t k a0) K
noncomputable def Yq.e (k : Nat) : Zk := ent [.d .s] [1] [.b] [4] false (Yq.t k)
noncomputable def Yq.p (k : Nat) : Pro := ⟨Tryz.prog, [(130, Yae.e k)], Zn [(2, kp [0, 3])] false [], k⟩
noncomputable def Yq.d (k : Nat) (a0 : ByteArray) : Ex → St → Option (Bool) := (Yq.p k).fin Tryz.f129 [.d (.str a0)] [1] [.b]
noncomputable def Yq.s0 (aA : ByteArray) (v : Int) : St :=
  match v with
  | aB => ZX 46 [(0, .d false (.str aA)), (3, .d true (.int .i64 aB))] []
noncomputable def Yq.r0 (k : Nat) (a0 aA : ByteArray) (n : Nat) (v : Int) : Option (Bool) := (Yq.p k).lp (Zt Tryz.f129) 2 [1, 0, 1, 0] (Yq.d k a0) n (Yq.s0 aA v)
theorem Yq.l0_eq (k : Nat) (a0 aA : ByteArray) : ∀ n v, Yq.r0 k a0 aA n v = Zo (Yq.l0 k aA (fun z0 => some z0)) n v :=
  Zm (Yq.s0 aA) _ fun L0 v => by kernel_rfl
theorem Yq.ok (k : Nat) : Za Tryz.prog 129 (Yq.e k) := Zh (Yq.p k) mix tyok Tryz.func129 (Yae.ok k) (by kernel_rfl) (fun a0 => Eq.trans (b := Yq.m k a0 (fun z0 => some z0) (fun aA => Yq.r0 k a0 aA k)) (by kernel_rfl) (congrArg (Yq.m k a0 (fun z0 => some z0)) (funext fun aA => funext fun v => Yq.l0_eq k a0 aA k v)))
noncomputable def Y6.l0 {β : Type} (k : Nat) (aA aF : Int) (aH : ByteArray) (aI : List (List D)) (K : Bool → Option β) (L0 : Int → Option β) (v : Int) : Option β :=
  match v with
  | aB => bif (decide ((aB : Int) < aA)) then (atR aI aB [.s] fun x20 => (Yq.f k x20 (fun y21 => bif (!y21) then (K false) else (bif (decide ((aB : Int) > 0)) then (atR aI (IntKind.wrap .i64 (aB - 1)) [.s] fun x25 => (atR aI aB [.s] fun x29 => (bif (!(ZbO x25 x29)) then (K false) else (L0 (IntKind.wrap .i64 (aB + 1)))))) else (L0 (IntKind.wrap .i64 (aB + 1))))))) else (Yq.f k aH (fun y30 => bif (!y30) then (K false) else (let J0 := (bif ((aF : Int) == 4) then (bif ((aF : Int) == 4) then (K ((aA : Int) == 0)) else (K false)) else (bif ((aF : Int) == 5) then (K ((aA : Int) == 0)) else (K false))); bif ((aF : Int) == 1) then (bif ((aF : Int) == 1) then (K ((aA : Int) == 1)) else (bif ((aF : Int) == 3) then (Yae.f k aA 1 6 (fun y31 => K y31)) else J0)) else (bif ((aF : Int) == 2) then (K ((aA : Int) == 1)) else (bif ((aF : Int) == 3) then (Yae.f k aA 1 6 (fun y32 => K y32)) else J0)))))
noncomputable def Y6.m {β : Type} (k : Nat) (aD : Int) (aC : ByteArray) (aE : List (List D)) (K : Bool → Option β) (F : (Int → Int → ByteArray → (List (List D)) → Int → Option β)) : Option β :=
  F (aE.length : Int) aD aC aE (0)
noncomputable def Y6.g {β : Type} (k : Nat) (aD : Int) (aC : ByteArray) (aE : List (List D)) (K : Bool → Option β) : Option β :=
  Zo (Y6.l0 k (aE.length : Int) aD aC aE K) k (0)
noncomputable def Y6.t (k : Nat) (aD : Int) (aC : ByteArray) (aE : List (List D)) : Option (Bool) := Y6.g k aD aC aE (fun z0 => some z0)
noncomputable def Y6.f {β : Type} (k : Nat) (aD : Int) (aC : ByteArray) (aE : List (List D)) (K : Bool → Option β) : Option β := bd1 (Y6.t k aD aC aE) K
noncomputable def Y6.e (k : Nat) : Zk := ent [.agg [.n, .s, .l]] [1] [.b] [4] false (Y6.t k)
noncomputable def Y6.p (k : Nat) : Pro := ⟨Tryz.prog, [(129, Yq.e k), (130, Yae.e k)], Zn [(3, kp [1, 3, 4])] false [], k⟩
noncomputable def Y6.d (k : Nat) (aD : Int) (aC : ByteArray) (aE : List (List D)) : Ex → St → Option (Bool) := (Y6.p k).fin Tryz.f203 [.agg [.int .i64 aD, .str aC, .sl aE]] [1] [.b]
noncomputable def Y6.s0 (aA aF : Int) (aH : ByteArray) (aI : List (List D)) (v : Int) : St :=
  match v with
  | aB => ZX 58 [(1, .bp 0 0), (3, .d true (.int .i64 aA)), (4, .d true (.int .i64 aB))] [.box none 191 [.d false (.int .i64 aF), .d false (.str aH), .d false (.sl aI)]]
noncomputable def Y6.r0 (k : Nat) (aD : Int) (aC : ByteArray) (aE : List (List D)) (aA aF : Int) (aH : ByteArray) (aI : List (List D)) (n : Nat) (v : Int) : Option (Bool) := (Y6.p k).lp (Zt Tryz.f203) 3 [1, 1, 0, 1, 0] (Y6.d k aD aC aE) n (Y6.s0 aA aF aH aI v)
theorem Y6.l0_eq (k : Nat) (aD : Int) (aC : ByteArray) (aE : List (List D)) (aA aF : Int) (aH : ByteArray) (aI : List (List D)) : ∀ n v, Y6.r0 k aD aC aE aA aF aH aI n v = Zo (Y6.l0 k aA aF aH aI (fun z0 => some z0)) n v :=
  Zm (Y6.s0 aA aF aH aI) _ fun L0 v => by kernel_rfl
theorem Y6.ok (k : Nat) : Za Tryz.prog 203 (Y6.e k) := Zh (Y6.p k) mix tyok Tryz.func203 ⟨Yq.ok k, Yae.ok k⟩ (by kernel_rfl) (fun aD aC aE => Eq.trans (b := Y6.m k aD aC aE (fun z0 => some z0) (fun aA aF aH aI => Y6.r0 k aD aC aE aA aF aH aI k)) (by kernel_rfl) (congrArg (Y6.m k aD aC aE (fun z0 => some z0)) (funext fun aA => funext fun aF => funext fun aH => funext fun aI => funext fun v => Y6.l0_eq k aD aC aE aA aF aH aI k v)))
noncomputable def Ys.l0 {β : Type} (k : Nat) (aA : List (List D)) (K : Bool → Option β) (L0 : Int → Option β) (v : Int) : Option β :=
  match v with
  | aB => bif (decide ((aB : Int) < (aA.length : Int))) then (atR aA aB [.n, .s, .l] fun x37 x40 x43 => (Y6.f k x37 x40 x43 (fun y44 => bif (!y44) then (K false) else (L0 (IntKind.wrap .i64 (aB + 1)))))) else (K (decide (((aA.length : Int) : Int) ≤ 8)))
noncomputable def Ys.m {β : Type} (k : Nat) (a0 : List (List D)) (K : Bool → Option β) (F : ((List (List D)) → Int → Option β)) : Option β :=
  F a0 (0)
noncomputable def Ys.g {β : Type} (k : Nat) (a0 : List (List D)) (K : Bool → Option β) : Option β :=
  Zo (Ys.l0 k a0 K) k (0)
noncomputable def Ys.t (k : Nat) (a0 : List (List D)) : Option (Bool) := Ys.g k a0 (fun z0 => some z0)
noncomputable def Ys.f {β : Type} (k : Nat) (a0 : List (List D)) (K : Bool → Option β) : Option β := bd1 (Ys.t k a0) K
noncomputable def Ys.e (k : Nat) : Zk := ent [.d .l] [1] [.b] [4] false (Ys.t k)
noncomputable def Ys.p (k : Nat) : Pro := ⟨Tryz.prog, [(203, Y6.e k)], Zn [(2, kp [0, 3])] false [], k⟩
noncomputable def Ys.d (k : Nat) (a0 : List (List D)) : Ex → St → Option (Bool) := (Ys.p k).fin Tryz.f131 [.d (.sl a0)] [1] [.b]
noncomputable def Ys.s0 (aA : List (List D)) (v : Int) : St :=
  match v with
  | aB => ZX 19 [(0, .d false (.sl aA)), (3, .d true (.int .i64 aB))] []
noncomputable def Ys.r0 (k : Nat) (a0 aA : List (List D)) (n : Nat) (v : Int) : Option (Bool) := (Ys.p k).lp (Zt Tryz.f131) 2 [1, 0, 1, 0] (Ys.d k a0) n (Ys.s0 aA v)
theorem Ys.l0_eq (k : Nat) (a0 aA : List (List D)) : ∀ n v, Ys.r0 k a0 aA n v = Zo (Ys.l0 k aA (fun z0 => some z0)) n v :=
  Zm (Ys.s0 aA) _ fun L0 v => by kernel_rfl
theorem Ys.ok (k : Nat) : Za Tryz.prog 131 (Ys.e k) := Zh (Ys.p k) mix tyok Tryz.func131 (Y6.ok k) (by kernel_rfl) (fun a0 => Eq.trans (b := Ys.m k a0 (fun z0 => some z0) (fun aA => Ys.r0 k a0 aA k)) (by kernel_rfl) (congrArg (Ys.m k a0 (fun z0 => some z0)) (funext fun aA => funext fun v => Ys.l0_eq k a0 aA k v)))
noncomputable def YK.l0 {β : Type} (k : Nat) (aA : List (List D)) (aB : Int) (K : Bool → Option β) (L0 : Int → Option β) (v : Int) : Option β :=
  match v with
  | aF => bif (decide ((aF : Int) < (aA.length : Int))) then (atR aA aF [.s] fun x17 => (Yq.f k x17 (fun y18 => bif (!y18) then (K false) else (bif (decide ((aF : Int) > 0)) then (atR aA (IntKind.wrap .i64 (aF - 1)) [.s] fun x22 => (atR aA aF [.s] fun x26 => (bif (!(ZbO x22 x26)) then (K false) else (L0 (IntKind.wrap .i64 (aF + 1)))))) else (L0 (IntKind.wrap .i64 (aF + 1))))))) else (K (decide (((aA.length : Int) : Int) ≤ aB)))
noncomputable def YK.m {β : Type} (k : Nat) (a0 : List (List D)) (a1 : Int) (K : Bool → Option β) (F : ((List (List D)) → Int → Int → Option β)) : Option β :=
  F a0 a1 (0)
noncomputable def YK.g {β : Type} (k : Nat) (a0 : List (List D)) (a1 : Int) (K : Bool → Option β) : Option β :=
  Zo (YK.l0 k a0 a1 K) k (0)
noncomputable def YK.t (k : Nat) (a0 : List (List D)) (a1 : Int) : Option (Bool) := YK.g k a0 a1 (fun z0 => some z0)
noncomputable def YK.f {β : Type} (k : Nat) (a0 : List (List D)) (a1 : Int) (K : Bool → Option β) : Option β := bd1 (YK.t k a0 a1) K
noncomputable def YK.e (k : Nat) : Zk := ent [.d .l, .d .n] [1] [.b] [4] false (YK.t k)
noncomputable def YK.p (k : Nat) : Pro := ⟨Tryz.prog, [(129, Yq.e k)], Zn [(2, kp [0, 1, 5])] false [], k⟩
noncomputable def YK.d (k : Nat) (a0 : List (List D)) (a1 : Int) : Ex → St → Option (Bool) := (YK.p k).fin Tryz.f132 [.d (.sl a0), .d (.int .i64 a1)] [1] [.b]
noncomputable def YK.s0 (aA : List (List D)) (aB v : Int) : St :=
  match v with
  | aF => ZX 38 [(0, .d false (.sl aA)), (1, .d false (.int .i64 aB)), (5, .d true (.int .i64 aF))] []
noncomputable def YK.r0 (k : Nat) (a0 : List (List D)) (a1 : Int) (aA : List (List D)) (aB : Int) (n : Nat) (v : Int) : Option (Bool) := (YK.p k).lp (Zt Tryz.f132) 2 [1, 0, 1, 0] (YK.d k a0 a1) n (YK.s0 aA aB v)
theorem YK.l0_eq (k : Nat) (a0 : List (List D)) (a1 : Int) (aA : List (List D)) (aB : Int) : ∀ n v, YK.r0 k a0 a1 aA aB n v = Zo (YK.l0 k aA aB (fun z0 => some z0)) n v :=
  Zm (YK.s0 aA aB) _ fun L0 v => by kernel_rfl
theorem YK.ok (k : Nat) : Za Tryz.prog 132 (YK.e k) := Zh (YK.p k) mix tyok Tryz.func132 (Yq.ok k) (by kernel_rfl) (fun a0 a1 => Eq.trans (b := YK.m k a0 a1 (fun z0 => some z0) (fun aA aB => YK.r0 k a0 a1 aA aB k)) (by kernel_rfl) (congrArg (YK.m k a0 a1 (fun z0 => some z0)) (funext fun aA => funext fun aB => funext fun v => YK.l0_eq k a0 a1 aA aB k v)))
noncomputable def YG.l0 {β : Type} (k : Nat) (aB : Int) (aF aH aI : List (List D)) (K : Bool → Option β) (L0 : Int → Option β) (v : Int) : Option β :=
  match v with
  | aA => bif (decide ((aA : Int) < (aI.length : Int))) then (atR aI aA [.s, .n] fun x50 x53 => (Yq.f k x50 (fun y54 => bif (!y54) then (K false) else (atR aI aA [.s, .n] fun x58 x61 => (Yae.f k x61 0 1000 (fun y62 => bif (!y62) then (K false) else (bif (decide ((aA : Int) > 0)) then (atR aI (IntKind.wrap .i64 (aA - 1)) [.s, .n] fun x66 x69 => (atR aI aA [.s, .n] fun x73 x76 => (bif (!(ZbO x66 x73)) then (K false) else (L0 (IntKind.wrap .i64 (aA + 1)))))) else (L0 (IntKind.wrap .i64 (aA + 1)))))))))) else (Yae.f k aB 0 10000 (fun y77 => bif y77 then (Ys.f k aF (fun y78 => bif y78 then (YK.f k aH 8 (fun y79 => bif y79 then (K (decide (((aI.length : Int) : Int) ≤ 12))) else (K false))) else (K false))) else (K false)))
noncomputable def YG.m {β : Type} (k : Nat) (aD : Int) (aC aE aG : List (List D)) (K : Bool → Option β) (F : (Int → (List (List D)) → (List (List D)) → (List (List D)) → Int → Option β)) : Option β :=
  F aD aC aE aG (0)
noncomputable def YG.g {β : Type} (k : Nat) (aD : Int) (aC aE aG : List (List D)) (K : Bool → Option β) : Option β :=
  Zo (YG.l0 k aD aC aE aG K) k (0)
noncomputable def YG.t (k : Nat) (aD : Int) (aC aE aG : List (List D)) : Option (Bool) := YG.g k aD aC aE aG (fun z0 => some z0)
noncomputable def YG.f {β : Type} (k : Nat) (aD : Int) (aC aE aG : List (List D)) (K : Bool → Option β) : Option β := bd1 (YG.t k aD aC aE aG) K
noncomputable def YG.e (k : Nat) : Zk := ent [.agg [.n, .l, .l, .l]] [1] [.b] [4] false (YG.t k)
noncomputable def YG.p (k : Nat) : Pro := ⟨Tryz.prog, [(129, Yq.e k), (130, Yae.e k), (131, Ys.e k), (132, YK.e k)], Zn [(2, kp [1, 3])] false [], k⟩
noncomputable def YG.d (k : Nat) (aD : Int) (aC aE aG : List (List D)) : Ex → St → Option (Bool) := (YG.p k).fin Tryz.f60 [.agg [.int .i64 aD, .sl aC, .sl aE, .sl aG]] [1] [.b]
noncomputable def YG.s0 (aB : Int) (aF aH aI : List (List D)) (v : Int) : St :=
  match v with
  | aA => ZX 68 [(1, .bp 0 0), (3, .d true (.int .i64 aA))] [.box none 35 [.d false (.int .i64 aB), .d false (.sl aF), .d false (.sl aH), .d false (.sl aI)]]
noncomputable def YG.r0 (k : Nat) (aD : Int) (aC aE aG : List (List D)) (aB : Int) (aF aH aI : List (List D)) (n : Nat) (v : Int) : Option (Bool) := (YG.p k).lp (Zt Tryz.f60) 2 [1, 0, 1, 0] (YG.d k aD aC aE aG) n (YG.s0 aB aF aH aI v)
theorem YG.l0_eq (k : Nat) (aD : Int) (aC aE aG : List (List D)) (aB : Int) (aF aH aI : List (List D)) : ∀ n v, YG.r0 k aD aC aE aG aB aF aH aI n v = Zo (YG.l0 k aB aF aH aI (fun z0 => some z0)) n v :=
  Zm (YG.s0 aB aF aH aI) _ fun L0 v => by kernel_rfl
theorem YG.ok (k : Nat) : Za Tryz.prog 60 (YG.e k) := Zh (YG.p k) mix tyok Tryz.func60 ⟨Yq.ok k, Yae.ok k, Ys.ok k, YK.ok k⟩ (by kernel_rfl) (fun aD aC aE aG => Eq.trans (b := YG.m k aD aC aE aG (fun z0 => some z0) (fun aB aF aH aI => YG.r0 k aD aC aE aG aB aF aH aI k)) (by kernel_rfl) (congrArg (YG.m k aD aC aE aG (fun z0 => some z0)) (funext fun aB => funext fun aF => funext fun aH => funext fun aI => funext fun v => YG.l0_eq k aD aC aE aG aB aF aH aI k v)))
noncomputable def YC.l0 {β : Type} (k : Nat) (aA : List (List D)) (K : Bool → Option β) (L0 : Int → Option β) (v : Int) : Option β :=
  match v with
  | aB => bif (decide ((aB : Int) < (aA.length : Int))) then (atR aA aB [.s, .s] fun x34 x37 => (Yq.f k x34 (fun y38 => bif (!y38) then (K false) else (atR aA aB [.s, .s] fun x42 x45 => (Yq.f k x45 (fun y46 => bif (!y46) then (K false) else (bif (decide ((aB : Int) > 0)) then (atR aA (IntKind.wrap .i64 (aB - 1)) [.s, .s] fun x50 x53 => (atR aA aB [.s, .s] fun x57 x60 => (bif (!(ZbO x50 x57)) then (K false) else (L0 (IntKind.wrap .i64 (aB + 1)))))) else (L0 (IntKind.wrap .i64 (aB + 1)))))))))) else (K (decide (((aA.length : Int) : Int) ≤ 8)))
noncomputable def YC.m {β : Type} (k : Nat) (a0 : List (List D)) (K : Bool → Option β) (F : ((List (List D)) → Int → Option β)) : Option β :=
  F a0 (0)
noncomputable def YC.g {β : Type} (k : Nat) (a0 : List (List D)) (K : Bool → Option β) : Option β :=
  Zo (YC.l0 k a0 K) k (0)
noncomputable def YC.t (k : Nat) (a0 : List (List D)) : Option (Bool) := YC.g k a0 (fun z0 => some z0)
noncomputable def YC.f {β : Type} (k : Nat) (a0 : List (List D)) (K : Bool → Option β) : Option β := bd1 (YC.t k a0) K
noncomputable def YC.e (k : Nat) : Zk := ent [.d .l] [1] [.b] [4] false (YC.t k)
noncomputable def YC.p (k : Nat) : Pro := ⟨Tryz.prog, [(129, Yq.e k)], Zn [(2, kp [0, 3])] false [], k⟩
noncomputable def YC.d (k : Nat) (a0 : List (List D)) : Ex → St → Option (Bool) := (YC.p k).fin Tryz.f133 [.d (.sl a0)] [1] [.b]
noncomputable def YC.s0 (aA : List (List D)) (v : Int) : St :=
  match v with
  | aB => ZX 47 [(0, .d false (.sl aA)), (3, .d true (.int .i64 aB))] []
noncomputable def YC.r0 (k : Nat) (a0 aA : List (List D)) (n : Nat) (v : Int) : Option (Bool) := (YC.p k).lp (Zt Tryz.f133) 2 [1, 0, 1, 0] (YC.d k a0) n (YC.s0 aA v)
theorem YC.l0_eq (k : Nat) (a0 aA : List (List D)) : ∀ n v, YC.r0 k a0 aA n v = Zo (YC.l0 k aA (fun z0 => some z0)) n v :=
  Zm (YC.s0 aA) _ fun L0 v => by kernel_rfl
theorem YC.ok (k : Nat) : Za Tryz.prog 133 (YC.e k) := Zh (YC.p k) mix tyok Tryz.func133 (Yq.ok k) (by kernel_rfl) (fun a0 => Eq.trans (b := YC.m k a0 (fun z0 => some z0) (fun aA => YC.r0 k a0 aA k)) (by kernel_rfl) (congrArg (YC.m k a0 (fun z0 => some z0)) (funext fun aA => funext fun v => YC.l0_eq k a0 aA k v)))
noncomputable def YM.g {β : Type} (k : Nat) (aD : ByteArray) (aC aE : List (List D)) (aG : Int) (K : Bool → Option β) : Option β :=
  Yq.f k aD (fun y1 => bif y1 then (YC.f k aC (fun y61 => bif y61 then (YK.f k aE 4 (fun y62 => bif y62 then (Yae.f k aG 0 10000 (fun y63 => K y63)) else (K false))) else (K false))) else (K false))
noncomputable def YM.t (k : Nat) (aD : ByteArray) (aC aE : List (List D)) (aG : Int) : Option (Bool) := YM.g k aD aC aE aG (fun z0 => some z0)
noncomputable def YM.f {β : Type} (k : Nat) (aD : ByteArray) (aC aE : List (List D)) (aG : Int) (K : Bool → Option β) : Option β := bd1 (YM.t k aD aC aE aG) K
noncomputable def YM.e (k : Nat) : Zk := ent [.agg [.s, .l, .l, .n]] [1] [.b] [4] false (YM.t k)
noncomputable def YM.p (k : Nat) : Pro := ⟨Tryz.prog, [(129, Yq.e k), (133, YC.e k), (132, YK.e k), (130, Yae.e k)], Zn [] false [], k⟩
theorem YM.ok (k : Nat) : Za Tryz.prog 61 (YM.e k) := Zh (YM.p k) mix tyok Tryz.func61 ⟨Yq.ok k, YC.ok k, YK.ok k, Yae.ok k⟩ (by kernel_rfl) (fun aD aC aE aG => by show _ = _; kernel_rfl)
noncomputable def Yx.l0 {β : Type} (k : Nat) (aA : List (List D)) (aB : ByteArray) (K : ByteArray → Bool → Option β) (L0 : Int → Option β) (v : Int) : Option β :=
  match v with
  | aF => bif (decide ((aF : Int) < (aA.length : Int))) then (atR aA aF [.s, .s] fun x18 x21 => (bif (Zae x18 aB) then (atR aA aF [.s, .s] fun x25 x28 => (K x28 true)) else (L0 (IntKind.wrap .i64 (aF + 1))))) else (K (⟨#[]⟩ : ByteArray) false)
noncomputable def Yx.m {β : Type} (k : Nat) (a0 : List (List D)) (a1 : ByteArray) (K : ByteArray → Bool → Option β) (F : ((List (List D)) → ByteArray → Int → Option β)) : Option β :=
  F a0 a1 (0)
noncomputable def Yx.g {β : Type} (k : Nat) (a0 : List (List D)) (a1 : ByteArray) (K : ByteArray → Bool → Option β) : Option β :=
  Zo (Yx.l0 k a0 a1 K) k (0)
noncomputable def Yx.t (k : Nat) (a0 : List (List D)) (a1 : ByteArray) : Option (ByteArray × Bool) := Yx.g k a0 a1 (fun z0 z1 => some (z0, z1))
noncomputable def Yx.f {β : Type} (k : Nat) (a0 : List (List D)) (a1 : ByteArray) (K : ByteArray → Bool → Option β) : Option β := bd2 (Yx.t k a0 a1) K
noncomputable def Yx.e (k : Nat) : Zk := ent [.d .l, .d .s] [1, 1] [.s, .b] [9, 4] false (Yx.t k)
noncomputable def Yx.p (k : Nat) : Pro := ⟨Tryz.prog, [], Zn [(2, kp [0, 1, 6])] false [], k⟩
noncomputable def Yx.d (k : Nat) (a0 : List (List D)) (a1 : ByteArray) : Ex → St → Option (ByteArray × Bool) := (Yx.p k).fin Tryz.f204 [.d (.sl a0), .d (.str a1)] [1, 1] [.s, .b]
noncomputable def Yx.s0 (aA : List (List D)) (aB : ByteArray) (v : Int) : St :=
  match v with
  | aF => ZX 25 [(0, .d false (.sl aA)), (1, .d false (.str aB)), (6, .d true (.int .i64 aF))] []
noncomputable def Yx.r0 (k : Nat) (a0 : List (List D)) (a1 : ByteArray) (aA : List (List D)) (aB : ByteArray) (n : Nat) (v : Int) : Option (ByteArray × Bool) := (Yx.p k).lp (Zt Tryz.f204) 2 [1, 0, 1, 0] (Yx.d k a0 a1) n (Yx.s0 aA aB v)
theorem Yx.l0_eq (k : Nat) (a0 : List (List D)) (a1 : ByteArray) (aA : List (List D)) (aB : ByteArray) : ∀ n v, Yx.r0 k a0 a1 aA aB n v = Zo (Yx.l0 k aA aB (fun z0 z1 => some (z0, z1))) n v :=
  Zm (Yx.s0 aA aB) _ fun L0 v => by kernel_rfl
theorem Yx.ok (k : Nat) : Za Tryz.prog 204 (Yx.e k) := Zh (Yx.p k) mix tyok Tryz.func204 trivial (by kernel_rfl) (fun a0 a1 => Eq.trans (b := Yx.m k a0 a1 (fun z0 z1 => some (z0, z1)) (fun aA aB => Yx.r0 k a0 a1 aA aB k)) (by kernel_rfl) (congrArg (Yx.m k a0 a1 (fun z0 z1 => some (z0, z1))) (funext fun aA => funext fun aB => funext fun v => Yx.l0_eq k a0 a1 aA aB k v)))
noncomputable def YJ.l0 {β : Type} (k : Nat) (aA : List (List D)) (aB : ByteArray) (K : Bool → Option β) (L0 : Int → Option β) (v : Int) : Option β :=
  match v with
  | aF => bif (decide ((aF : Int) < (aA.length : Int))) then (atR aA aF [.s] fun x8 => (bif (Zae x8 aB) then (K true) else (L0 (IntKind.wrap .i64 (aF + 1))))) else (K false)
noncomputable def YJ.m {β : Type} (k : Nat) (a0 : List (List D)) (a1 : ByteArray) (K : Bool → Option β) (F : ((List (List D)) → ByteArray → Int → Option β)) : Option β :=
  F a0 a1 (0)
noncomputable def YJ.g {β : Type} (k : Nat) (a0 : List (List D)) (a1 : ByteArray) (K : Bool → Option β) : Option β :=
  Zo (YJ.l0 k a0 a1 K) k (0)
noncomputable def YJ.t (k : Nat) (a0 : List (List D)) (a1 : ByteArray) : Option (Bool) := YJ.g k a0 a1 (fun z0 => some z0)
noncomputable def YJ.f {β : Type} (k : Nat) (a0 : List (List D)) (a1 : ByteArray) (K : Bool → Option β) : Option β := bd1 (YJ.t k a0 a1) K
noncomputable def YJ.e (k : Nat) : Zk := ent [.d .l, .d .s] [1] [.b] [4] false (YJ.t k)
noncomputable def YJ.p (k : Nat) : Pro := ⟨Tryz.prog, [], Zn [(2, kp [0, 1, 5])] false [], k⟩
noncomputable def YJ.d (k : Nat) (a0 : List (List D)) (a1 : ByteArray) : Ex → St → Option (Bool) := (YJ.p k).fin Tryz.f135 [.d (.sl a0), .d (.str a1)] [1] [.b]
noncomputable def YJ.s0 (aA : List (List D)) (aB : ByteArray) (v : Int) : St :=
  match v with
  | aF => ZX 18 [(0, .d false (.sl aA)), (1, .d false (.str aB)), (5, .d true (.int .i64 aF))] []
noncomputable def YJ.r0 (k : Nat) (a0 : List (List D)) (a1 : ByteArray) (aA : List (List D)) (aB : ByteArray) (n : Nat) (v : Int) : Option (Bool) := (YJ.p k).lp (Zt Tryz.f135) 2 [1, 0, 1, 0] (YJ.d k a0 a1) n (YJ.s0 aA aB v)
theorem YJ.l0_eq (k : Nat) (a0 : List (List D)) (a1 : ByteArray) (aA : List (List D)) (aB : ByteArray) : ∀ n v, YJ.r0 k a0 a1 aA aB n v = Zo (YJ.l0 k aA aB (fun z0 => some z0)) n v :=
  Zm (YJ.s0 aA aB) _ fun L0 v => by kernel_rfl
theorem YJ.ok (k : Nat) : Za Tryz.prog 135 (YJ.e k) := Zh (YJ.p k) mix tyok Tryz.func135 trivial (by kernel_rfl) (fun a0 a1 => Eq.trans (b := YJ.m k a0 a1 (fun z0 => some z0) (fun aA aB => YJ.r0 k a0 a1 aA aB k)) (by kernel_rfl) (congrArg (YJ.m k a0 a1 (fun z0 => some z0)) (funext fun aA => funext fun aB => funext fun v => YJ.l0_eq k a0 a1 aA aB k v)))
noncomputable def Yap.g {β : Type} (k : Nat) (aD : Int) (aC : ByteArray) (aE : List (List D)) (a1 : ByteArray) (a2 : Bool) (K : Bool → Option β) : Option β :=
  bif ((aD : Int) == 1) then (bif ((aD : Int) == 1) then (bif a2 then (YJ.f k aE a1 (fun y9 => K y9)) else (K false)) else (bif ((aD : Int) == 2) then (bif (!a2) then (K true) else (YJ.f k aE a1 (fun y10 => K (!y10)))) else (bif ((aD : Int) == 4) then (K a2) else (K (!a2))))) else (bif ((aD : Int) == 3) then (bif a2 then (YJ.f k aE a1 (fun y11 => K y11)) else (K false)) else (bif ((aD : Int) == 2) then (bif (!a2) then (K true) else (YJ.f k aE a1 (fun y12 => K (!y12)))) else (bif ((aD : Int) == 4) then (K a2) else (K (!a2)))))
noncomputable def Yap.t (k : Nat) (aD : Int) (aC : ByteArray) (aE : List (List D)) (a1 : ByteArray) (a2 : Bool) : Option (Bool) := Yap.g k aD aC aE a1 a2 (fun z0 => some z0)
noncomputable def Yap.f {β : Type} (k : Nat) (aD : Int) (aC : ByteArray) (aE : List (List D)) (a1 : ByteArray) (a2 : Bool) (K : Bool → Option β) : Option β := bd1 (Yap.t k aD aC aE a1 a2) K
noncomputable def Yap.e (k : Nat) : Zk := ent [.agg [.n, .s, .l], .d .s, .d .b] [1] [.b] [4] false (Yap.t k)
noncomputable def Yap.p (k : Nat) : Pro := ⟨Tryz.prog, [(135, YJ.e k)], Zn [] false [], k⟩
theorem Yap.ok (k : Nat) : Za Tryz.prog 205 (Yap.e k) := Zh (Yap.p k) mix tyok Tryz.func205 (YJ.ok k) (by kernel_rfl) (fun aD aC aE a1 a2 => by show _ = _; kernel_rfl)
noncomputable def YI.l0 {β : Type} (k : Nat) (aA aB : List (List D)) (K : Bool → Option β) (L0 : Int → Option β) (v : Int) : Option β :=
  match v with
  | aF => bif (decide ((aF : Int) < (aA.length : Int))) then (atR aA aF [.n, .s, .l] fun x45 x48 x51 => (Yx.f k aB x48 (fun y52 y53 => atR aA aF [.n, .s, .l] fun x57 x60 x63 => (Yap.f k x57 x60 x63 y52 y53 (fun y64 => bif (!y64) then (K false) else (L0 (IntKind.wrap .i64 (aF + 1)))))))) else (K true)
noncomputable def YI.m {β : Type} (k : Nat) (a0 a1 : List (List D)) (K : Bool → Option β) (F : ((List (List D)) → (List (List D)) → Int → Option β)) : Option β :=
  Ys.f k a0 (fun y1 => bif (!y1) then (K false) else (YC.f k a1 (fun y2 => bif (!y2) then (K false) else (F a0 a1 (0)))))
noncomputable def YI.g {β : Type} (k : Nat) (a0 a1 : List (List D)) (K : Bool → Option β) : Option β :=
  Ys.f k a0 (fun y1 => bif (!y1) then (K false) else (YC.f k a1 (fun y2 => bif (!y2) then (K false) else (Zo (YI.l0 k a0 a1 K) k (0)))))
noncomputable def YI.t (k : Nat) (a0 a1 : List (List D)) : Option (Bool) := YI.g k a0 a1 (fun z0 => some z0)
noncomputable def YI.f {β : Type} (k : Nat) (a0 a1 : List (List D)) (K : Bool → Option β) : Option β := bd1 (YI.t k a0 a1) K
noncomputable def YI.e (k : Nat) : Zk := ent [.d .l, .d .l] [1] [.b] [4] false (YI.t k)
noncomputable def YI.p (k : Nat) : Pro := ⟨Tryz.prog, [(131, Ys.e k), (133, YC.e k), (204, Yx.e k), (205, Yap.e k)], Zn [(4, kp [0, 1, 5])] false [], k⟩
noncomputable def YI.d (k : Nat) (a0 a1 : List (List D)) : Ex → St → Option (Bool) := (YI.p k).fin Tryz.f134 [.d (.sl a0), .d (.sl a1)] [1] [.b]
noncomputable def YI.s0 (aA aB : List (List D)) (v : Int) : St :=
  match v with
  | aF => ZX 40 [(0, .d false (.sl aA)), (1, .d false (.sl aB)), (5, .d true (.int .i64 aF))] []
noncomputable def YI.r0 (k : Nat) (a0 a1 aA aB : List (List D)) (n : Nat) (v : Int) : Option (Bool) := (YI.p k).lp (Zt Tryz.f134) 4 [1, 1, 0, 1, 0] (YI.d k a0 a1) n (YI.s0 aA aB v)
theorem YI.l0_eq (k : Nat) (a0 a1 aA aB : List (List D)) : ∀ n v, YI.r0 k a0 a1 aA aB n v = Zo (YI.l0 k aA aB (fun z0 => some z0)) n v :=
  Zm (YI.s0 aA aB) _ fun L0 v => by kernel_rfl
theorem YI.ok (k : Nat) : Za Tryz.prog 134 (YI.e k) := Zh (YI.p k) mix tyok Tryz.func134 ⟨Ys.ok k, YC.ok k, Yx.ok k, Yap.ok k⟩ (by kernel_rfl) (fun a0 a1 => Eq.trans (b := YI.m k a0 a1 (fun z0 => some z0) (fun aA aB => YI.r0 k a0 a1 aA aB k)) (by kernel_rfl) (congrArg (YI.m k a0 a1 (fun z0 => some z0)) (funext fun aA => funext fun aB => funext fun v => YI.l0_eq k a0 a1 aA aB k v)))
noncomputable def YE.l0 {β : Type} (k : Nat) (aB : Int) (aF aH aI : List (List D)) (aJ : ByteArray) (aL aT : List (List D)) (bO : Int) (K : Bool → Option β) (L0 : Int → Option β) (v : Int) : Option β :=
  match v with
  | aA => bif (decide ((aA : Int) < (aT.length : Int))) then (atR aT aA [.s] fun x74 => (YJ.f k aH x74 (fun y75 => bif (!y75) then (K false) else (L0 (IntKind.wrap .i64 (aA + 1)))))) else (K true)
noncomputable def YE.m {β : Type} (k : Nat) (aD : Int) (aC aE aG : List (List D)) (aR : ByteArray) (aN aU : List (List D)) (bD : Int) (K : Bool → Option β) (F : (Int → (List (List D)) → (List (List D)) → (List (List D)) → ByteArray → (List (List D)) → (List (List D)) → Int → Int → Option β)) : Option β :=
  YG.f k aD aC aE aG (fun y1 => bif (!y1) then (K false) else (YM.f k aR aN aU bD (fun y2 => bif (!y2) then (K false) else (YI.f k aC aN (fun y65 => bif (!y65) then (K false) else (F aD aC aE aG aR aN aU bD (0)))))))
noncomputable def YE.g {β : Type} (k : Nat) (aD : Int) (aC aE aG : List (List D)) (aR : ByteArray) (aN aU : List (List D)) (bD : Int) (K : Bool → Option β) : Option β := YE.m k aD aC aE aG aR aN aU bD K (fun aB aF aH aI aJ aL aT bO => Zo (YE.l0 k aB aF aH aI aJ aL aT bO K) k)
noncomputable def YE.t (k : Nat) (aD : Int) (aC aE aG : List (List D)) (aR : ByteArray) (aN aU : List (List D)) (bD : Int) : Option (Bool) := YE.g k aD aC aE aG aR aN aU bD (fun z0 => some z0)
noncomputable def YE.f {β : Type} (k : Nat) (aD : Int) (aC aE aG : List (List D)) (aR : ByteArray) (aN aU : List (List D)) (bD : Int) (K : Bool → Option β) : Option β := bd1 (YE.t k aD aC aE aG aR aN aU bD) K
noncomputable def YE.e (k : Nat) : Zk := ent [.agg [.n, .l, .l, .l], .agg [.s, .l, .l, .n]] [1] [.b] [4] false (YE.t k)
noncomputable def YE.p (k : Nat) : Pro := ⟨Tryz.prog, [(60, YG.e k), (61, YM.e k), (134, YI.e k), (135, YJ.e k)], Zn [(4, kp [2, 3, 5])] false [], k⟩
noncomputable def YE.d (k : Nat) (aD : Int) (aC aE aG : List (List D)) (aR : ByteArray) (aN aU : List (List D)) (bD : Int) : Ex → St → Option (Bool) := (YE.p k).fin Tryz.f62 [.agg [.int .i64 aD, .sl aC, .sl aE, .sl aG], .agg [.str aR, .sl aN, .sl aU, .int .i64 bD]] [1] [.b]
noncomputable def YE.s0 (aB : Int) (aF aH aI : List (List D)) (aJ : ByteArray) (aL aT : List (List D)) (bO v : Int) : St :=
  match v with
  | aA => ZX 38 [(2, .bp 0 0), (3, .bp 1 0), (5, .d true (.int .i64 aA))] [.box none 35 [.d false (.int .i64 aB), .d false (.sl aF), .d false (.sl aH), .d false (.sl aI)], .box none 118 [.d false (.str aJ), .d false (.sl aL), .d false (.sl aT), .d false (.int .i64 bO)]]
noncomputable def YE.r0 (k : Nat) (aD : Int) (aC aE aG : List (List D)) (aR : ByteArray) (aN aU : List (List D)) (bD aB : Int) (aF aH aI : List (List D)) (aJ : ByteArray) (aL aT : List (List D)) (bO : Int) (n : Nat) (v : Int) : Option (Bool) := (YE.p k).lp (Zt Tryz.f62) 4 [1, 1, 0, 1, 0] (YE.d k aD aC aE aG aR aN aU bD) n (YE.s0 aB aF aH aI aJ aL aT bO v)
theorem YE.l0_eq (k : Nat) (aD : Int) (aC aE aG : List (List D)) (aR : ByteArray) (aN aU : List (List D)) (bD aB : Int) (aF aH aI : List (List D)) (aJ : ByteArray) (aL aT : List (List D)) (bO : Int) : ∀ n v, YE.r0 k aD aC aE aG aR aN aU bD aB aF aH aI aJ aL aT bO n v = Zo (YE.l0 k aB aF aH aI aJ aL aT bO (fun z0 => some z0)) n v :=
  Zm (YE.s0 aB aF aH aI aJ aL aT bO) _ fun L0 v => by kernel_rfl
theorem YE.ok (k : Nat) : Za Tryz.prog 62 (YE.e k) := Zh (YE.p k) mix tyok Tryz.func62 ⟨YG.ok k, YM.ok k, YI.ok k, YJ.ok k⟩ (by kernel_rfl) (fun aD aC aE aG aR aN aU bD => Eq.trans (b := YE.m k aD aC aE aG aR aN aU bD (fun z0 => some z0) (fun aB aF aH aI aJ aL aT bO => YE.r0 k aD aC aE aG aR aN aU bD aB aF aH aI aJ aL aT bO k)) (by kernel_rfl) (congrArg (YE.m k aD aC aE aG aR aN aU bD (fun z0 => some z0)) (funext fun aB => funext fun aF => funext fun aH => funext fun aI => funext fun aJ => funext fun aL => funext fun aT => funext fun bO => funext fun v => YE.l0_eq k aD aC aE aG aR aN aU bD aB aF aH aI aJ aL aT bO k v)))
noncomputable def YF.l0 {β : Type} (k : Nat) (aA : ByteArray) (aF : Int) (aH aI aJ : List (List D)) (K L0 : Int → Option β) (v : Int) : Option β :=
  match v with
  | aB => bif (decide ((aB : Int) < (aJ.length : Int))) then (atR aJ aB [.s, .n] fun x18 x21 => (bif (Zae x18 aA) then (atR aJ aB [.s, .n] fun x25 x28 => (K x28)) else (L0 (IntKind.wrap .i64 (aB + 1))))) else (K 1)
noncomputable def YF.m {β : Type} (k : Nat) (aD : Int) (aC aE aG : List (List D)) (a1 : ByteArray) (K : Int → Option β) (F : (ByteArray → Int → (List (List D)) → (List (List D)) → (List (List D)) → Int → Option β)) : Option β :=
  F a1 aD aC aE aG (0)
noncomputable def YF.g {β : Type} (k : Nat) (aD : Int) (aC aE aG : List (List D)) (a1 : ByteArray) (K : Int → Option β) : Option β :=
  Zo (YF.l0 k a1 aD aC aE aG K) k (0)
noncomputable def YF.t (k : Nat) (aD : Int) (aC aE aG : List (List D)) (a1 : ByteArray) : Option (Int) := YF.g k aD aC aE aG a1 (fun z0 => some z0)
noncomputable def YF.f {β : Type} (k : Nat) (aD : Int) (aC aE aG : List (List D)) (a1 : ByteArray) (K : Int → Option β) : Option β := bd1 (YF.t k aD aC aE aG a1) K
noncomputable def YF.e (k : Nat) : Zk := ent [.agg [.n, .l, .l, .l], .d .s] [1] [.n] [3] false (YF.t k)
noncomputable def YF.p (k : Nat) : Pro := ⟨Tryz.prog, [], Zn [(2, kp [1, 2, 5])] false [], k⟩
noncomputable def YF.d (k : Nat) (aD : Int) (aC aE aG : List (List D)) (a1 : ByteArray) : Ex → St → Option (Int) := (YF.p k).fin Tryz.f63 [.agg [.int .i64 aD, .sl aC, .sl aE, .sl aG], .d (.str a1)] [1] [.n]
noncomputable def YF.s0 (aA : ByteArray) (aF : Int) (aH aI aJ : List (List D)) (v : Int) : St :=
  match v with
  | aB => ZX 27 [(1, .d false (.str aA)), (2, .bp 0 0), (5, .d true (.int .i64 aB))] [.box none 35 [.d false (.int .i64 aF), .d false (.sl aH), .d false (.sl aI), .d false (.sl aJ)]]
noncomputable def YF.r0 (k : Nat) (aD : Int) (aC aE aG : List (List D)) (a1 aA : ByteArray) (aF : Int) (aH aI aJ : List (List D)) (n : Nat) (v : Int) : Option (Int) := (YF.p k).lp (Zt Tryz.f63) 2 [1, 0, 1, 0] (YF.d k aD aC aE aG a1) n (YF.s0 aA aF aH aI aJ v)
theorem YF.l0_eq (k : Nat) (aD : Int) (aC aE aG : List (List D)) (a1 aA : ByteArray) (aF : Int) (aH aI aJ : List (List D)) : ∀ n v, YF.r0 k aD aC aE aG a1 aA aF aH aI aJ n v = Zo (YF.l0 k aA aF aH aI aJ (fun z0 => some z0)) n v :=
  Zm (YF.s0 aA aF aH aI aJ) _ fun L0 v => by kernel_rfl
theorem YF.ok (k : Nat) : Za Tryz.prog 63 (YF.e k) := Zh (YF.p k) mix tyok Tryz.func63 trivial (by kernel_rfl) (fun aD aC aE aG a1 => Eq.trans (b := YF.m k aD aC aE aG a1 (fun z0 => some z0) (fun aA aF aH aI aJ => YF.r0 k aD aC aE aG a1 aA aF aH aI aJ k)) (by kernel_rfl) (congrArg (YF.m k aD aC aE aG a1 (fun z0 => some z0)) (funext fun aA => funext fun aF => funext fun aH => funext fun aI => funext fun aJ => funext fun v => YF.l0_eq k aD aC aE aG a1 aA aF aH aI aJ k v)))
noncomputable def Yaj.l0 {β : Type} (k : Nat) (aA aB : List (List D)) (K : Bool → Option β) (L0 : Int → Option β) (v : Int) : Option β :=
  match v with
  | aF => bif (decide ((aF : Int) < (aA.length : Int))) then (atR aA aF [.n] fun x15 => (Yae.f k x15 0 1000 (fun y16 => bif (!y16) then (K false) else (atR aB aF [.n] fun x20 => (Yae.f k x20 0 10000 (fun y21 => bif (!y21) then (K false) else (L0 (IntKind.wrap .i64 (aF + 1))))))))) else (K true)
noncomputable def Yaj.m {β : Type} (k : Nat) (a0 : Int) (a1 a2 : List (List D)) (K : Bool → Option β) (F : ((List (List D)) → (List (List D)) → Int → Option β)) : Option β :=
  Yae.f k a0 0 10000 (fun y1 => bif (!y1) then (K false) else (bif (decide (((a1.length : Int) : Int) > 64)) then (K false) else (bif (((a1.length : Int) : Int) != (a2.length : Int)) then (K false) else (F a1 a2 (0)))))
noncomputable def Yaj.g {β : Type} (k : Nat) (a0 : Int) (a1 a2 : List (List D)) (K : Bool → Option β) : Option β :=
  Yae.f k a0 0 10000 (fun y1 => bif (!y1) then (K false) else (bif (decide (((a1.length : Int) : Int) > 64)) then (K false) else (bif (((a1.length : Int) : Int) != (a2.length : Int)) then (K false) else (Zo (Yaj.l0 k a1 a2 K) k (0)))))
noncomputable def Yaj.t (k : Nat) (a0 : Int) (a1 a2 : List (List D)) : Option (Bool) := Yaj.g k a0 a1 a2 (fun z0 => some z0)
noncomputable def Yaj.f {β : Type} (k : Nat) (a0 : Int) (a1 a2 : List (List D)) (K : Bool → Option β) : Option β := bd1 (Yaj.t k a0 a1 a2) K
noncomputable def Yaj.e (k : Nat) : Zk := ent [.d .n, .d .l, .d .l] [1] [.b] [4] false (Yaj.t k)
noncomputable def Yaj.p (k : Nat) : Pro := ⟨Tryz.prog, [(130, Yae.e k)], Zn [(4, kp [1, 2, 7])] false [], k⟩
noncomputable def Yaj.d (k : Nat) (a0 : Int) (a1 a2 : List (List D)) : Ex → St → Option (Bool) := (Yaj.p k).fin Tryz.f136 [.d (.int .i64 a0), .d (.sl a1), .d (.sl a2)] [1] [.b]
noncomputable def Yaj.s0 (aA aB : List (List D)) (v : Int) : St :=
  match v with
  | aF => ZX 43 [(1, .d false (.sl aA)), (2, .d false (.sl aB)), (7, .d true (.int .i64 aF))] []
noncomputable def Yaj.r0 (k : Nat) (a0 : Int) (a1 a2 aA aB : List (List D)) (n : Nat) (v : Int) : Option (Bool) := (Yaj.p k).lp (Zt Tryz.f136) 4 [1, 1, 0, 1, 0] (Yaj.d k a0 a1 a2) n (Yaj.s0 aA aB v)
theorem Yaj.l0_eq (k : Nat) (a0 : Int) (a1 a2 aA aB : List (List D)) : ∀ n v, Yaj.r0 k a0 a1 a2 aA aB n v = Zo (Yaj.l0 k aA aB (fun z0 => some z0)) n v :=
  Zm (Yaj.s0 aA aB) _ fun L0 v => by kernel_rfl
theorem Yaj.ok (k : Nat) : Za Tryz.prog 136 (Yaj.e k) := Zh (Yaj.p k) mix tyok Tryz.func136 (Yae.ok k) (by kernel_rfl) (fun a0 a1 a2 => Eq.trans (b := Yaj.m k a0 a1 a2 (fun z0 => some z0) (fun aA aB => Yaj.r0 k a0 a1 a2 aA aB k)) (by kernel_rfl) (congrArg (Yaj.m k a0 a1 a2 (fun z0 => some z0)) (funext fun aA => funext fun aB => funext fun v => Yaj.l0_eq k a0 a1 a2 aA aB k v)))
noncomputable def Yr.l2 {β : Type} (k : Nat) (aX aO : List (List D)) (aV : Int) (aY bB : List (List C)) (L1 : ((List (List D)) × (List (List D)) × Int × (List (List C)) × (List (List C))) → Option β) (K : (List (List C)) → Option β) (L2 : (Int × Int) → Option β) (v : Int × Int) : Option β :=
  match v with
  | (aK, aS) => bif (decide ((aS : Int) < (aX.length : Int))) then (atR aO aS [.b] fun x171 => (bif x171 then (bif (decide ((aK : Int) < 0)) then (L2 (aS, IntKind.wrap .i64 (aS + 1))) else (Zc ((0 : Int) ≤ aS ∧ aS < (bB.length : Int)) (ZaG bB (Int.toNat aS) fun c172 => Zas (c172.drop 0) fun c173 r174 => cD c173 fun d175 => dInt .i64 d175 fun x176 => Zc ((0 : Int) ≤ aK ∧ aK < (bB.length : Int)) (ZaG bB (Int.toNat aK) fun c177 => Zas (c177.drop 0) fun c178 r179 => cD c178 fun d180 => dInt .i64 d180 fun x181 => bif (decide ((x176 : Int) > x181)) then (L2 (aS, IntKind.wrap .i64 (aS + 1))) else (L2 (aK, IntKind.wrap .i64 (aS + 1))))))) else (L2 (aK, IntKind.wrap .i64 (aS + 1))))) else (Zc ((0 : Int) ≤ aK ∧ aK < (aY.length : Int)) (ZaG aY (Int.toNat aK) fun c182 => Zas (c182.drop 0) fun c183 r184 => cD c183 fun d185 => dInt .i64 d185 fun x186 => Zc ((0 : Int) ≤ aK ∧ aK < (aY.length : Int)) (Zc (Int.toNat aK < aY.length) (Zc ((0 : Int) ≤ aK ∧ aK < (bB.length : Int)) (Zc (Int.toNat aK < bB.length) (L1 (aX, aO, IntKind.wrap .i64 (aV - 1), aY.modify (Int.toNat aK) fun c => Zq c 0 [.d (.int .i64 (IntKind.wrap .i64 (x186 + 1)))], bB.modify (Int.toNat aK) fun c => Zq c 0 [.d (.int .i64 (-1))])))))))
noncomputable def Yr.m1 {β : Type} (k : Nat) (K : (List (List C)) → Option β) (L1 : ((List (List D)) × (List (List D)) × Int × (List (List C)) × (List (List C))) → Option β) (v : (List (List D)) × (List (List D)) × Int × (List (List C)) × (List (List C))) (F : ((List (List D)) → (List (List D)) → Int → (List (List C)) → (List (List C)) → (Int × Int) → Option β)) : Option β :=
  match v with
  | (aW, aM, aQ, bC, aP) => bif (decide ((aQ : Int) > 0)) then (F aW aM aQ bC aP ((-1), 0)) else (K bC)
noncomputable def Yr.l1 {β : Type} (k : Nat) (K : (List (List C)) → Option β) (L1 : ((List (List D)) × (List (List D)) × Int × (List (List C)) × (List (List C))) → Option β) (v : (List (List D)) × (List (List D)) × Int × (List (List C)) × (List (List C))) : Option β := Yr.m1 k K L1 v (fun aX aO aV aY bB => Zo (Yr.l2 k aX aO aV aY bB L1 K) k)
noncomputable def Yr.m0 {β : Type} (k : Nat) (aA : Int) (aB aF : List (List D)) (aH : Int) (K : (List (List C)) → Option β) (L0 : (Int × Int × (List (List C)) × (List (List C))) → Option β) (v : Int × Int × (List (List C)) × (List (List C))) (F : (((List (List D)) × (List (List D)) × Int × (List (List C)) × (List (List C))) → Option β)) : Option β :=
  match v with
  | (aI, aJ, aL, aT) => bif (decide ((aJ : Int) < (aB.length : Int))) then (atR aF aJ [.b] fun x97 => (bif x97 then (atR aB aJ [.n] fun x101 => (Zc ((aH : Int) ≠ 0) (Zc ((0 : Int) ≤ aJ ∧ aJ < (aL.length : Int)) (Zc (Int.toNat aJ < aL.length) (atR aB aJ [.n] fun x105 => let J1 := (IntKind.wrap .i64 (Int.tdiv (IntKind.wrap .i64 (aA * x101)) aH)); let J0 := (aL.modify (Int.toNat aJ) fun c => Zq c 0 [.d (.int .i64 J1)]); (Zc ((aH : Int) ≠ 0) (Zc ((0 : Int) ≤ aJ ∧ aJ < (aT.length : Int)) (Zc (Int.toNat aJ < aT.length) (Zc ((0 : Int) ≤ aJ ∧ aJ < (J0.length : Int)) (ZaG J0 (Int.toNat aJ) fun c106 => Zas (c106.drop 0) fun c107 r108 => cD c107 fun d109 => dInt .i64 d109 fun x110 => L0 (IntKind.wrap .i64 (aI - x110), IntKind.wrap .i64 (aJ + 1), aL.modify (Int.toNat aJ) fun c => Zq c 0 [.d (.int .i64 J1)], aT.modify (Int.toNat aJ) fun c => Zq c 0 [.d (.int .i64 (Int.tmod (IntKind.wrap .i64 (aA * x105)) aH))]))))))))))) else (L0 (aI, IntKind.wrap .i64 (aJ + 1), aL, aT)))) else (F (aB, aF, aI, aL, aT))
noncomputable def Yr.l0 {β : Type} (k : Nat) (aA : Int) (aB aF : List (List D)) (aH : Int) (K : (List (List C)) → Option β) (L0 : (Int × Int × (List (List C)) × (List (List C))) → Option β) (v : Int × Int × (List (List C)) × (List (List C))) : Option β := Yr.m0 k aA aB aF aH K L0 v (Zo (Yr.l1 k K) k)
noncomputable def Yr.m {β : Type} (k : Nat) (a0 : Int) (a1 a2 : List (List D)) (a3 : Int) (K : (List (List C)) → Option β) (F : (Int → (List (List D)) → (List (List D)) → Int → (Int × Int × (List (List C)) × (List (List C))) → Option β)) : Option β :=
  let J0 := ((0 : Int) ≤ (a1.length : Int) ∧ (a1.length : Int) ≤ (ZN : Int) ∧ (a1.length : Int) ≤ (a1.length : Int) ∧ (a1.length : Int) ≤ (a1.length : Int)); Zc J0 (Zc J0 (F a0 a1 a2 a3 (a0, 0, List.replicate (Int.toNat (a1.length : Int)) ([.d (.int .i64 0)] : List C), List.replicate (Int.toNat (a1.length : Int)) ([.d (.int .i64 0)] : List C))))
noncomputable def Yr.g {β : Type} (k : Nat) (a0 : Int) (a1 a2 : List (List D)) (a3 : Int) (K : (List (List C)) → Option β) : Option β := Yr.m k a0 a1 a2 a3 K (fun aA aB aF aH => Zo (Yr.l0 k aA aB aF aH K) k)
noncomputable def Yr.t (k : Nat) (a0 : Int) (a1 a2 : List (List D)) (a3 : Int) : Option ((List (List C))) := Yr.g k a0 a1 a2 a3 (fun z0 => some z0)
noncomputable def Yr.f {β : Type} (k : Nat) (a0 : Int) (a1 a2 : List (List D)) (a3 : Int) (K : (List (List C)) → Option β) : Option β := bd1 (Yr.t k a0 a1 a2 a3) K
noncomputable def Yr.e (k : Nat) : Zk := ent [.d .n, .d .l, .d .l, .d .n] [1] [.o] [28] false (Yr.t k)
noncomputable def Yr.p (k : Nat) : Pro := ⟨Tryz.prog, [], Zn [(5, kp [0, 1, 2, 3, 9, 10, 12] [(11, .dat false)]), (11, kp [1, 2, 9, 10] [(11, .dat false)]), (15, kp [1, 2, 9, 10, 11, 13, 14])] false [], k⟩
noncomputable def Yr.d (k : Nat) (a0 : Int) (a1 a2 : List (List D)) (a3 : Int) : Ex → St → Option ((List (List C))) := (Yr.p k).fin Tryz.f137 [.d (.int .i64 a0), .d (.sl a1), .d (.sl a2), .d (.int .i64 a3)] [1] [.o]
noncomputable def Yr.s0 (aA : Int) (aB aF : List (List D)) (aH : Int) (v : Int × Int × (List (List C)) × (List (List C))) : St :=
  match v with
  | (aI, aJ, aL, aT) => ZX 102 [(0, .d false (.int .i64 aA)), (1, .d false (.sl aB)), (2, .d false (.sl aF)), (3, .d false (.int .i64 aH)), (9, .row 0), (10, .row 1), (11, .d false (.int .i64 aI)), (12, .d true (.int .i64 aJ))] [.row none true 28 aL, .row none true 28 aT]
noncomputable def Yr.r0 (k : Nat) (a0 : Int) (a1 a2 : List (List D)) (a3 aA : Int) (aB aF : List (List D)) (aH : Int) (n : Nat) (v : Int × Int × (List (List C)) × (List (List C))) : Option ((List (List C))) := (Yr.p k).lp (Zt Tryz.f137) 5 [1, 1, 1, 1, 0, 1, 0] (Yr.d k a0 a1 a2 a3) n (Yr.s0 aA aB aF aH v)
noncomputable def Yr.s1 (v : (List (List D)) × (List (List D)) × Int × (List (List C)) × (List (List C))) : St :=
  match v with
  | (aW, aM, aQ, bC, aP) => ZX 102 [(1, .d false (.sl aW)), (2, .d false (.sl aM)), (9, .row 0), (10, .row 1), (11, .d false (.int .i64 aQ))] [.row none true 28 bC, .row none true 28 aP]
noncomputable def Yr.c1 (k : Nat) (a0 : Int) (a1 a2 : List (List D)) (a3 : Int) : Ex → St → Option ((List (List C))) := (Yr.p k).ct (Zt Tryz.f137) [1, 1, 1, 1, 1, 0, 0] (Yr.d k a0 a1 a2 a3)
noncomputable def Yr.r1 (k : Nat) (a0 : Int) (a1 a2 : List (List D)) (a3 : Int) (n : Nat) (v : (List (List D)) × (List (List D)) × Int × (List (List C)) × (List (List C))) : Option ((List (List C))) := (Yr.p k).lp (Zt Tryz.f137) 11 [1, 1, 1, 1, 1, 0, 0] (Yr.d k a0 a1 a2 a3) n (Yr.s1 v)
noncomputable def Yr.s2 (aX aO : List (List D)) (aV : Int) (aY bB : List (List C)) (v : Int × Int) : St :=
  match v with
  | (aK, aS) => ZX 102 [(1, .d false (.sl aX)), (2, .d false (.sl aO)), (9, .row 0), (10, .row 1), (11, .d false (.int .i64 aV)), (13, .d true (.int .i64 aK)), (14, .d true (.int .i64 aS))] [.row none true 28 aY, .row none true 28 bB]
noncomputable def Yr.r2 (k : Nat) (a0 : Int) (a1 a2 : List (List D)) (a3 : Int) (aX aO : List (List D)) (aV : Int) (aY bB : List (List C)) (L1 : St → Option ((List (List C)))) (n : Nat) (v : Int × Int) : Option ((List (List C))) := (Yr.p k).lp (codeAt [1, 1, 1, 1, 1, 0, 0, 0] (Zt Tryz.f137)) 15 [1, 0, 0, 1, 0, 1, 0] (backK ((Yr.p k).h.H 11) L1 (Yr.c1 k a0 a1 a2 a3)) n (Yr.s2 aX aO aV aY bB v)
theorem Yr.l2_eq (k : Nat) (a0 : Int) (a1 a2 : List (List D)) (a3 : Int) (aX aO : List (List D)) (aV : Int) (aY bB : List (List C)) (L1 : St → Option ((List (List C)))) : ∀ n v, Yr.r2 k a0 a1 a2 a3 aX aO aV aY bB L1 n v = Zo (Yr.l2 k aX aO aV aY bB (fun v => L1 (Yr.s1 v)) (fun z0 => some z0)) n v :=
  Zm (Yr.s2 aX aO aV aY bB) _ fun L2 v => by obtain ⟨aK, aS⟩ := v; kernel_rfl
theorem Yr.l1_eq (k : Nat) (a0 : Int) (a1 a2 : List (List D)) (a3 : Int) : ∀ n v, Yr.r1 k a0 a1 a2 a3 n v = Zo (Yr.l1 k (fun z0 => some z0)) n v :=
  Zm (Yr.s1) _ fun L1 v => by obtain ⟨aW, aM, aQ, bC, aP⟩ := v; exact Eq.trans (b := Yr.m1 k (fun z0 => some z0) (fun v => L1 (Yr.s1 v)) (aW, aM, aQ, bC, aP) (fun aX aO aV aY bB => Yr.r2 k a0 a1 a2 a3 aX aO aV aY bB L1 k)) (by kernel_rfl) (congrArg (Yr.m1 k (fun z0 => some z0) (fun v => L1 (Yr.s1 v)) (aW, aM, aQ, bC, aP)) (funext fun aX => funext fun aO => funext fun aV => funext fun aY => funext fun bB => funext fun v => Yr.l2_eq k a0 a1 a2 a3 aX aO aV aY bB L1 k v))
theorem Yr.l0_eq (k : Nat) (a0 : Int) (a1 a2 : List (List D)) (a3 aA : Int) (aB aF : List (List D)) (aH : Int) : ∀ n v, Yr.r0 k a0 a1 a2 a3 aA aB aF aH n v = Zo (Yr.l0 k aA aB aF aH (fun z0 => some z0)) n v :=
  Zm (Yr.s0 aA aB aF aH) _ fun L0 v => by obtain ⟨aI, aJ, aL, aT⟩ := v; exact Eq.trans (b := Yr.m0 k aA aB aF aH (fun z0 => some z0) (fun v => L0 (Yr.s0 aA aB aF aH v)) (aI, aJ, aL, aT) (Yr.r1 k a0 a1 a2 a3 k)) (by kernel_rfl) (congrArg (Yr.m0 k aA aB aF aH (fun z0 => some z0) (fun v => L0 (Yr.s0 aA aB aF aH v)) (aI, aJ, aL, aT)) (funext fun v => Yr.l1_eq k a0 a1 a2 a3 k v))
theorem Yr.ok (k : Nat) : Za Tryz.prog 137 (Yr.e k) := Zh (Yr.p k) mix tyok Tryz.func137 trivial (by kernel_rfl) (fun a0 a1 a2 a3 => Eq.trans (b := Yr.m k a0 a1 a2 a3 (fun z0 => some z0) (fun aA aB aF aH => Yr.r0 k a0 a1 a2 a3 aA aB aF aH k)) (by kernel_rfl) (congrArg (Yr.m k a0 a1 a2 a3 (fun z0 => some z0)) (funext fun aA => funext fun aB => funext fun aF => funext fun aH => funext fun v => Yr.l0_eq k a0 a1 a2 a3 aA aB aF aH k v)))
noncomputable def Yu.l2 {β : Type} (k : Nat) (aO aV : List (List D)) (L0 : (Int × (List (List D)) × (List (List D)) × (List (List C))) → Option β) (K : (List (List C)) → Option β) (L2 : (Int × Int × (List (List C)) × (List (List C))) → Option β) (v : Int × Int × (List (List C)) × (List (List C))) : Option β :=
  match v with
  | (aX, aK, aS, aY) => bif (decide ((aK : Int) < (aO.length : Int))) then (Zc ((0 : Int) ≤ aK ∧ aK < (aY.length : Int)) (ZaG aY (Int.toNat aK) fun c501 => Zas (c501.drop 0) fun c502 r503 => cD c502 fun d504 => dInt .i64 d504 fun x505 => atR aV aK [.n] fun x509 => (Zc ((0 : Int) ≤ aK ∧ aK < (aS.length : Int)) (ZaG aS (Int.toNat aK) fun c510 => Zas (c510.drop 0) fun c511 r512 => cD c511 fun d513 => dInt .i64 d513 fun x514 => bif (decide ((x505 : Int) > (IntKind.wrap .i64 (x509 - x514)))) then (atR aV aK [.n] fun x518 => (Zc ((0 : Int) ≤ aK ∧ aK < (aS.length : Int)) (ZaG aS (Int.toNat aK) fun c519 => Zas (c519.drop 0) fun c520 r521 => cD c520 fun d522 => dInt .i64 d522 fun x523 => Zc ((0 : Int) ≤ aK ∧ aK < (aY.length : Int)) (Zc (Int.toNat aK < aY.length) (Zc ((0 : Int) ≤ aK ∧ aK < (aS.length : Int)) (ZaG aS (Int.toNat aK) fun c524 => Zas (c524.drop 0) fun c525 r526 => cD c525 fun d527 => dInt .i64 d527 fun x528 => let J1 := (aY.modify (Int.toNat aK) fun c => Zq c 0 [.d (.int .i64 (IntKind.wrap .i64 (x518 - x523)))]); let J0 := ((0 : Int) ≤ aK ∧ aK < (J1.length : Int)); Zc J0 (ZaG J1 (Int.toNat aK) fun c529 => Zas (c529.drop 0) fun c530 r531 => cD c530 fun d532 => dInt .i64 d532 fun x533 => Zc ((0 : Int) ≤ aK ∧ aK < (aS.length : Int)) (Zc (Int.toNat aK < aS.length) (Zc J0 (ZaG J1 (Int.toNat aK) fun c534 => Zas (c534.drop 0) fun c535 r536 => cD c535 fun d537 => dInt .i64 d537 fun x538 => L2 (IntKind.wrap .i64 (aX - x538), IntKind.wrap .i64 (aK + 1), aS.modify (Int.toNat aK) fun c => Zq c 0 [.d (.int .i64 (IntKind.wrap .i64 (x528 + x533)))], aY.modify (Int.toNat aK) fun c => Zq c 0 [.d (.int .i64 (IntKind.wrap .i64 (x518 - x523)))]))))))))))) else (Zc ((0 : Int) ≤ aK ∧ aK < (aS.length : Int)) (ZaG aS (Int.toNat aK) fun c539 => Zas (c539.drop 0) fun c540 r541 => cD c540 fun d542 => dInt .i64 d542 fun x543 => Zc ((0 : Int) ≤ aK ∧ aK < (aY.length : Int)) (ZaG aY (Int.toNat aK) fun c544 => Zas (c544.drop 0) fun c545 r546 => cD c545 fun d547 => dInt .i64 d547 fun x548 => Zc ((0 : Int) ≤ aK ∧ aK < (aS.length : Int)) (Zc (Int.toNat aK < aS.length) (Zc ((0 : Int) ≤ aK ∧ aK < (aY.length : Int)) (ZaG aY (Int.toNat aK) fun c549 => Zas (c549.drop 0) fun c550 r551 => cD c550 fun d552 => dInt .i64 d552 fun x553 => L2 (IntKind.wrap .i64 (aX - x553), IntKind.wrap .i64 (aK + 1), aS.modify (Int.toNat aK) fun c => Zq c 0 [.d (.int .i64 (IntKind.wrap .i64 (x543 + x548)))], aY))))))))))) else (L0 (aX, aO, aV, aS))
noncomputable def Yu.m1 {β : Type} (k : Nat) (aW : Int) (aM aQ : List (List D)) (aZ : List (List C)) (L0 : (Int × (List (List D)) × (List (List D)) × (List (List C))) → Option β) (K : (List (List C)) → Option β) (L1 : (Int × Int × (List (List C))) → Option β) (v : Int × Int × (List (List C))) (F : ((List (List D)) → (List (List D)) → (Int × Int × (List (List C)) × (List (List C))) → Option β)) : Option β :=
  match v with
  | (bC, aP, bA) => bif (decide ((aP : Int) < (aM.length : Int))) then (atR aM aP [.n] fun x419 => (bif (decide ((x419 : Int) > 0)) then (Zc ((0 : Int) ≤ aP ∧ aP < (aZ.length : Int)) (ZaG aZ (Int.toNat aP) fun c420 => Zas (c420.drop 0) fun c421 r422 => cD c421 fun d423 => dInt .i64 d423 fun x424 => atR aQ aP [.n] fun x428 => let J0 := (bA.modify (Int.toNat aP) fun c => Zq c 0 [.d (.bool (decide ((x424 : Int) < x428)))]); (Zc ((0 : Int) ≤ aP ∧ aP < (bA.length : Int)) (Zc (Int.toNat aP < bA.length) (Zc ((0 : Int) ≤ aP ∧ aP < (J0.length : Int)) (ZaG J0 (Int.toNat aP) fun c429 => Zas (c429.drop 0) fun c430 r431 => cD c430 fun d432 => dBool d432 fun x433 => bif x433 then (atR aM aP [.n] fun x437 => (L1 (IntKind.wrap .i64 (bC + x437), IntKind.wrap .i64 (aP + 1), bA.modify (Int.toNat aP) fun c => Zq c 0 [.d (.bool (decide ((x424 : Int) < x428)))]))) else (L1 (bC, IntKind.wrap .i64 (aP + 1), bA.modify (Int.toNat aP) fun c => Zq c 0 [.d (.bool (decide ((x424 : Int) < x428)))])))))))) else (let J1 := (bA.modify (Int.toNat aP) fun c => Zq c 0 [.d (.bool false)]); Zc ((0 : Int) ≤ aP ∧ aP < (bA.length : Int)) (Zc (Int.toNat aP < bA.length) (Zc ((0 : Int) ≤ aP ∧ aP < (J1.length : Int)) (ZaG J1 (Int.toNat aP) fun c438 => Zas (c438.drop 0) fun c439 r440 => cD c439 fun d441 => dBool d441 fun x442 => bif x442 then (atR aM aP [.n] fun x446 => (L1 (IntKind.wrap .i64 (bC + x446), IntKind.wrap .i64 (aP + 1), bA.modify (Int.toNat aP) fun c => Zq c 0 [.d (.bool false)]))) else (L1 (bC, IntKind.wrap .i64 (aP + 1), bA.modify (Int.toNat aP) fun c => Zq c 0 [.d (.bool false)])))))))) else (bif ((bC : Int) == 0) then (K aZ) else (Yr.f k aW aM (C.immRows bA) bC (fun y447 => F aM aQ (aW, 0, aZ, y447))))
noncomputable def Yu.l1 {β : Type} (k : Nat) (aW : Int) (aM aQ : List (List D)) (aZ : List (List C)) (L0 : (Int × (List (List D)) × (List (List D)) × (List (List C))) → Option β) (K : (List (List C)) → Option β) (L1 : (Int × Int × (List (List C))) → Option β) (v : Int × Int × (List (List C))) : Option β := Yu.m1 k aW aM aQ aZ L0 K L1 v (fun aO aV => Zo (Yu.l2 k aO aV L0 K) k)
noncomputable def Yu.m0 {β : Type} (k : Nat) (K : (List (List C)) → Option β) (L0 : (Int × (List (List D)) × (List (List D)) × (List (List C))) → Option β) (v : Int × (List (List D)) × (List (List D)) × (List (List C))) (F : (Int → (List (List D)) → (List (List D)) → (List (List C)) → (Int × Int × (List (List C))) → Option β)) : Option β :=
  match v with
  | (aA, aB, aF, aH) => bif (decide ((aA : Int) > 0)) then (Zc ((0 : Int) ≤ (aB.length : Int) ∧ (aB.length : Int) ≤ (ZN : Int) ∧ (aB.length : Int) ≤ (aB.length : Int) ∧ (aB.length : Int) ≤ (aB.length : Int)) (F aA aB aF aH (0, 0, List.replicate (Int.toNat (aB.length : Int)) ([.d (.bool false)] : List C)))) else (K aH)
noncomputable def Yu.l0 {β : Type} (k : Nat) (K : (List (List C)) → Option β) (L0 : (Int × (List (List D)) × (List (List D)) × (List (List C))) → Option β) (v : Int × (List (List D)) × (List (List D)) × (List (List C))) : Option β := Yu.m0 k K L0 v (fun aW aM aQ aZ => Zo (Yu.l1 k aW aM aQ aZ L0 K) k)
noncomputable def Yu.m {β : Type} (k : Nat) (a0 : Int) (a1 a2 : List (List D)) (K : (List (List C)) → Option β) (F : ((Int × (List (List D)) × (List (List D)) × (List (List C))) → Option β)) : Option β :=
  Yaj.f k a0 a1 a2 (fun y1 => bif (!y1) then (K ([] : List (List C))) else (Zc ((0 : Int) ≤ (a1.length : Int) ∧ (a1.length : Int) ≤ (ZN : Int) ∧ (a1.length : Int) ≤ (a1.length : Int) ∧ (a1.length : Int) ≤ (a1.length : Int)) (F (a0, a1, a2, List.replicate (Int.toNat (a1.length : Int)) ([.d (.int .i64 0)] : List C)))))
noncomputable def Yu.g {β : Type} (k : Nat) (a0 : Int) (a1 a2 : List (List D)) (K : (List (List C)) → Option β) : Option β := Yu.m k a0 a1 a2 K (Zo (Yu.l0 k K) k)
noncomputable def Yu.t (k : Nat) (a0 : Int) (a1 a2 : List (List D)) : Option ((List (List C))) := Yu.g k a0 a1 a2 (fun z0 => some z0)
noncomputable def Yu.f {β : Type} (k : Nat) (a0 : Int) (a1 a2 : List (List D)) (K : (List (List C)) → Option β) : Option β := bd1 (Yu.t k a0 a1 a2) K
noncomputable def Yu.e (k : Nat) : Zk := ent [.d .n, .d .l, .d .l] [1] [.o] [28] false (Yu.t k)
noncomputable def Yu.p (k : Nat) : Pro := ⟨Tryz.prog, [(136, Yaj.e k), (137, Yr.e k)], Zn [(5, kp [0, 1, 2, 7]), (9, kp [0, 1, 2, 7, 8, 9, 10]), (17, kp [1, 2, 7, 11, 12] [(0, .dat false)])] false [], k⟩
noncomputable def Yu.d (k : Nat) (a0 : Int) (a1 a2 : List (List D)) : Ex → St → Option ((List (List C))) := (Yu.p k).fin Tryz.f64 [.d (.int .i64 a0), .d (.sl a1), .d (.sl a2)] [1] [.o]
noncomputable def Yu.s0 (v : Int × (List (List D)) × (List (List D)) × (List (List C))) : St :=
  match v with
  | (aA, aB, aF, aH) => ZX 121 [(0, .d false (.int .i64 aA)), (1, .d false (.sl aB)), (2, .d false (.sl aF)), (7, .row 0)] [.row none true 28 aH]
noncomputable def Yu.c0 (k : Nat) (a0 : Int) (a1 a2 : List (List D)) : Ex → St → Option ((List (List C))) := (Yu.p k).ct (Zt Tryz.f64) [1, 1, 1, 1, 0, 0] (Yu.d k a0 a1 a2)
noncomputable def Yu.r0 (k : Nat) (a0 : Int) (a1 a2 : List (List D)) (n : Nat) (v : Int × (List (List D)) × (List (List D)) × (List (List C))) : Option ((List (List C))) := (Yu.p k).lp (Zt Tryz.f64) 5 [1, 1, 1, 1, 0, 0] (Yu.d k a0 a1 a2) n (Yu.s0 v)
noncomputable def Yu.s1 (aW : Int) (aM aQ : List (List D)) (aZ : List (List C)) (v : Int × Int × (List (List C))) : St :=
  match v with
  | (bC, aP, bA) => ZX 121 [(0, .d false (.int .i64 aW)), (1, .d false (.sl aM)), (2, .d false (.sl aQ)), (7, .row 0), (8, .row 1), (9, .d true (.int .i64 bC)), (10, .d true (.int .i64 aP))] [.row none true 28 aZ, .row none true 189 bA]
noncomputable def Yu.r1 (k : Nat) (a0 : Int) (a1 a2 : List (List D)) (aW : Int) (aM aQ : List (List D)) (aZ : List (List C)) (L0 : St → Option ((List (List C)))) (n : Nat) (v : Int × Int × (List (List C))) : Option ((List (List C))) := (Yu.p k).lp (codeAt [1, 1, 1, 1, 0, 0, 0] (Zt Tryz.f64)) 9 [1, 0, 1, 1, 0, 1, 0] (backK ((Yu.p k).h.H 5) L0 (Yu.c0 k a0 a1 a2)) n (Yu.s1 aW aM aQ aZ v)
noncomputable def Yu.s2 (aO aV : List (List D)) (v : Int × Int × (List (List C)) × (List (List C))) : St :=
  match v with
  | (aX, aK, aS, aY) => ZX 121 [(0, .d false (.int .i64 aX)), (1, .d false (.sl aO)), (2, .d false (.sl aV)), (7, .row 0), (11, .row 1), (12, .d true (.int .i64 aK))] [.row none true 28 aS, .row none true 28 aY]
noncomputable def Yu.r2 (k : Nat) (a0 : Int) (a1 a2 aO aV : List (List D)) (L0 : St → Option ((List (List C)))) (n : Nat) (v : Int × Int × (List (List C)) × (List (List C))) : Option ((List (List C))) := (Yu.p k).lp (codeAt [1, 1, 1, 1, 0, 0, 0] (Zt Tryz.f64)) 17 [1, 0, 1, 1, 1, 1, 1, 1, 0] (backK ((Yu.p k).h.H 5) L0 (Yu.c0 k a0 a1 a2)) n (Yu.s2 aO aV v)
theorem Yu.l2_eq (k : Nat) (a0 : Int) (a1 a2 aO aV : List (List D)) (L0 : St → Option ((List (List C)))) : ∀ n v, Yu.r2 k a0 a1 a2 aO aV L0 n v = Zo (Yu.l2 k aO aV (fun v => L0 (Yu.s0 v)) (fun z0 => some z0)) n v :=
  Zm (Yu.s2 aO aV) _ fun L2 v => by obtain ⟨aX, aK, aS, aY⟩ := v; kernel_rfl
theorem Yu.l1_eq (k : Nat) (a0 : Int) (a1 a2 : List (List D)) (aW : Int) (aM aQ : List (List D)) (aZ : List (List C)) (L0 : St → Option ((List (List C)))) : ∀ n v, Yu.r1 k a0 a1 a2 aW aM aQ aZ L0 n v = Zo (Yu.l1 k aW aM aQ aZ (fun v => L0 (Yu.s0 v)) (fun z0 => some z0)) n v :=
  Zm (Yu.s1 aW aM aQ aZ) _ fun L1 v => by obtain ⟨bC, aP, bA⟩ := v; exact Eq.trans (b := Yu.m1 k aW aM aQ aZ (fun v => L0 (Yu.s0 v)) (fun z0 => some z0) (fun v => L1 (Yu.s1 aW aM aQ aZ v)) (bC, aP, bA) (fun aO aV => Yu.r2 k a0 a1 a2 aO aV L0 k)) (by kernel_rfl) (congrArg (Yu.m1 k aW aM aQ aZ (fun v => L0 (Yu.s0 v)) (fun z0 => some z0) (fun v => L1 (Yu.s1 aW aM aQ aZ v)) (bC, aP, bA)) (funext fun aO => funext fun aV => funext fun v => Yu.l2_eq k a0 a1 a2 aO aV L0 k v))
theorem Yu.l0_eq (k : Nat) (a0 : Int) (a1 a2 : List (List D)) : ∀ n v, Yu.r0 k a0 a1 a2 n v = Zo (Yu.l0 k (fun z0 => some z0)) n v :=
  Zm (Yu.s0) _ fun L0 v => by obtain ⟨aA, aB, aF, aH⟩ := v; exact Eq.trans (b := Yu.m0 k (fun z0 => some z0) (fun v => L0 (Yu.s0 v)) (aA, aB, aF, aH) (fun aW aM aQ aZ => Yu.r1 k a0 a1 a2 aW aM aQ aZ L0 k)) (by kernel_rfl) (congrArg (Yu.m0 k (fun z0 => some z0) (fun v => L0 (Yu.s0 v)) (aA, aB, aF, aH)) (funext fun aW => funext fun aM => funext fun aQ => funext fun aZ => funext fun v => Yu.l1_eq k a0 a1 a2 aW aM aQ aZ L0 k v))
theorem Yu.ok (k : Nat) : Za Tryz.prog 64 (Yu.e k) := Zh (Yu.p k) mix tyok Tryz.func64 ⟨Yaj.ok k, Yr.ok k⟩ (by kernel_rfl) (fun a0 a1 a2 => Eq.trans (b := Yu.m k a0 a1 a2 (fun z0 => some z0) (Yu.r0 k a0 a1 a2 k)) (by kernel_rfl) (congrArg (Yu.m k a0 a1 a2 (fun z0 => some z0)) (funext fun v => Yu.l0_eq k a0 a1 a2 k v)))
noncomputable def Y2.l0 {β : Type} (k : Nat) (aA aB : List (List D)) (aH : Int) (aI aJ aL : List (List D)) (K : (List (List C)) → Option β) (L0 : (Int × (List (List C))) → Option β) (v : Int × (List (List C))) : Option β :=
  match v with
  | (aF, aT) => bif (decide ((aF : Int) < (aA.length : Int))) then (atR aA aF [.s, .l, .l, .n] fun x558 x561 x564 x567 => (YM.f k x558 x561 x564 x567 (fun y568 => bif (!y568) then (K ([] : List (List C))) else (atR aA aF [.s, .l, .l, .n] fun x572 x575 x578 x581 => (YE.f k aH aI aJ aL x572 x575 x578 x581 (fun y582 => bif y582 then (atR aA aF [.s, .l, .l, .n] fun x586 x589 x592 x595 => (YF.f k aH aI aJ aL x586 (fun y596 => Zc (aT.length + ([[.d (.int .i64 y596)]] : List (List C)).length ≤ ZN) (L0 (IntKind.wrap .i64 (aF + 1), aT ++ ([[.d (.int .i64 y596)]] : List (List C))))))) else (Zc (aT.length + ([[.d (.int .i64 0)]] : List (List C)).length ≤ ZN) (L0 (IntKind.wrap .i64 (aF + 1), aT ++ ([[.d (.int .i64 0)]] : List (List C))))))))))) else (Yu.f k aH (C.immRows aT) aB (fun y597 => K y597))
noncomputable def Y2.m {β : Type} (k : Nat) (aD : Int) (aC aE aG a1 a2 : List (List D)) (K : (List (List C)) → Option β) (F : ((List (List D)) → (List (List D)) → Int → (List (List D)) → (List (List D)) → (List (List D)) → (Int × (List (List C))) → Option β)) : Option β :=
  YG.f k aD aC aE aG (fun y80 => bif (!y80) then (K ([] : List (List C))) else (bif (decide (((a1.length : Int) : Int) > 12)) then (K ([] : List (List C))) else (bif (((a2.length : Int) : Int) != (a1.length : Int)) then (K ([] : List (List C))) else (F a1 a2 aD aC aE aG (0, ([] : List (List C)))))))
noncomputable def Y2.g {β : Type} (k : Nat) (aD : Int) (aC aE aG a1 a2 : List (List D)) (K : (List (List C)) → Option β) : Option β := Y2.m k aD aC aE aG a1 a2 K (fun aA aB aH aI aJ aL => Zo (Y2.l0 k aA aB aH aI aJ aL K) k)
noncomputable def Y2.t (k : Nat) (aD : Int) (aC aE aG a1 a2 : List (List D)) : Option ((List (List C))) := Y2.g k aD aC aE aG a1 a2 (fun z0 => some z0)
noncomputable def Y2.f {β : Type} (k : Nat) (aD : Int) (aC aE aG a1 a2 : List (List D)) (K : (List (List C)) → Option β) : Option β := bd1 (Y2.t k aD aC aE aG a1 a2) K
noncomputable def Y2.e (k : Nat) : Zk := ent [.agg [.n, .l, .l, .l], .d .l, .d .l] [1] [.o] [28] false (Y2.t k)
noncomputable def Y2.p (k : Nat) : Pro := ⟨Tryz.prog, [(60, YG.e k), (61, YM.e k), (62, YE.e k), (63, YF.e k), (64, Yu.e k)], Zn [(5, kp [1, 2, 3, 7, 8])] false [], k⟩
noncomputable def Y2.d (k : Nat) (aD : Int) (aC aE aG a1 a2 : List (List D)) : Ex → St → Option ((List (List C))) := (Y2.p k).fin Tryz.f10 [.agg [.int .i64 aD, .sl aC, .sl aE, .sl aG], .d (.sl a1), .d (.sl a2)] [1] [.o]
noncomputable def Y2.s0 (aA aB : List (List D)) (aH : Int) (aI aJ aL : List (List D)) (v : Int × (List (List C))) : St :=
  match v with
  | (aF, aT) => ZX 62 [(1, .d false (.sl aA)), (2, .d false (.sl aB)), (3, .bp 0 0), (7, .row 1), (8, .d true (.int .i64 aF))] [.box none 35 [.d false (.int .i64 aH), .d false (.sl aI), .d false (.sl aJ), .d false (.sl aL)], .row none true 28 aT]
noncomputable def Y2.r0 (k : Nat) (aD : Int) (aC aE aG a1 a2 aA aB : List (List D)) (aH : Int) (aI aJ aL : List (List D)) (n : Nat) (v : Int × (List (List C))) : Option ((List (List C))) := (Y2.p k).lp (Zt Tryz.f10) 5 [1, 1, 1, 0, 1, 0] (Y2.d k aD aC aE aG a1 a2) n (Y2.s0 aA aB aH aI aJ aL v)
theorem Y2.l0_eq (k : Nat) (aD : Int) (aC aE aG a1 a2 aA aB : List (List D)) (aH : Int) (aI aJ aL : List (List D)) : ∀ n v, Y2.r0 k aD aC aE aG a1 a2 aA aB aH aI aJ aL n v = Zo (Y2.l0 k aA aB aH aI aJ aL (fun z0 => some z0)) n v :=
  Zm (Y2.s0 aA aB aH aI aJ aL) _ fun L0 v => by obtain ⟨aF, aT⟩ := v; kernel_rfl
theorem Y2.ok (k : Nat) : Za Tryz.prog 10 (Y2.e k) := Zh (Y2.p k) mix tyok Tryz.func10 ⟨YG.ok k, YM.ok k, YE.ok k, YF.ok k, Yu.ok k⟩ (by kernel_rfl) (fun aD aC aE aG a1 a2 => Eq.trans (b := Y2.m k aD aC aE aG a1 a2 (fun z0 => some z0) (fun aA aB aH aI aJ aL => Y2.r0 k aD aC aE aG a1 a2 aA aB aH aI aJ aL k)) (by kernel_rfl) (congrArg (Y2.m k aD aC aE aG a1 a2 (fun z0 => some z0)) (funext fun aA => funext fun aB => funext fun aH => funext fun aI => funext fun aJ => funext fun aL => funext fun v => Y2.l0_eq k aD aC aE aG a1 a2 aA aB aH aI aJ aL k v)))
noncomputable def Yam.g {β : Type} (k : Nat) (a0 a1 a2 : Int) (K : Bool → Option β) : Option β :=
  bif (decide ((a0 : Int) ≥ a1)) then (K (decide ((a0 : Int) ≤ a2))) else (K false)
noncomputable def Yam.t (k : Nat) (a0 a1 a2 : Int) : Option (Bool) := Yam.g k a0 a1 a2 (fun z0 => some z0)
noncomputable def Yam.f {β : Type} (k : Nat) (a0 a1 a2 : Int) (K : Bool → Option β) : Option β := bd1 (Yam.t k a0 a1 a2) K
noncomputable def Yam.e (k : Nat) : Zk := ent [.d .n, .d .n, .d .n] [1] [.b] [4] false (Yam.t k)
noncomputable def Yam.p (k : Nat) : Pro := ⟨Tryz.prog, [], Zn [] false [], k⟩
theorem Yam.ok (k : Nat) : Za Tryz.prog 169 (Yam.e k) := Zh (Yam.p k) mix tyok Tryz.func169 trivial (by kernel_rfl) (fun a0 a1 a2 => by show _ = _; kernel_rfl)
noncomputable def YW.l0 {β : Type} (k : Nat) (aA : ByteArray) (aB : Int) (K : Bool → Option β) (L0 : Int → Option β) (v : Int) : Option β :=
  match v with
  | aF => bif (decide ((aF : Int) < aB)) then (Za0 aA aF fun b5 => let J1 := (bif ((b5 : Int) != 45) then (K false) else (L0 (IntKind.wrap .i64 (aF + 1)))); let J0 := (bif (decide ((b5 : Int) < 48)) then J1 else (bif (decide ((b5 : Int) > 57)) then J1 else (L0 (IntKind.wrap .i64 (aF + 1))))); bif (decide ((b5 : Int) < 97)) then J0 else (bif (decide ((b5 : Int) > 122)) then J0 else (L0 (IntKind.wrap .i64 (aF + 1))))) else (Yam.f k (aA.size : Int) 1 20 (fun y6 => bif y6 then (Za0 aA 0 fun b7 => bif ((b7 : Int) != 45) then (Za0 aA (IntKind.wrap .i64 ((aA.size : Int) - 1)) fun b8 => K ((b8 : Int) != 45)) else (K false)) else (K false)))
noncomputable def YW.m {β : Type} (k : Nat) (a0 : ByteArray) (K : Bool → Option β) (F : (ByteArray → Int → Int → Option β)) : Option β :=
  F a0 (a0.size : Int) (0)
noncomputable def YW.g {β : Type} (k : Nat) (a0 : ByteArray) (K : Bool → Option β) : Option β :=
  Zo (YW.l0 k a0 (a0.size : Int) K) k (0)
noncomputable def YW.t (k : Nat) (a0 : ByteArray) : Option (Bool) := YW.g k a0 (fun z0 => some z0)
noncomputable def YW.f {β : Type} (k : Nat) (a0 : ByteArray) (K : Bool → Option β) : Option β := bd1 (YW.t k a0) K
noncomputable def YW.e (k : Nat) : Zk := ent [.d .s] [1] [.b] [4] false (YW.t k)
noncomputable def YW.p (k : Nat) : Pro := ⟨Tryz.prog, [(169, Yam.e k)], Zn [(2, kp [0, 6, 7])] false [], k⟩
noncomputable def YW.d (k : Nat) (a0 : ByteArray) : Ex → St → Option (Bool) := (YW.p k).fin Tryz.f193 [.d (.str a0)] [1] [.b]
noncomputable def YW.s0 (aA : ByteArray) (aB v : Int) : St :=
  match v with
  | aF => ZX 48 [(0, .d false (.str aA)), (6, .d true (.int .i64 aB)), (7, .d true (.int .i64 aF))] []
noncomputable def YW.r0 (k : Nat) (a0 aA : ByteArray) (aB : Int) (n : Nat) (v : Int) : Option (Bool) := (YW.p k).lp (Zt Tryz.f193) 2 [1, 0, 1, 0] (YW.d k a0) n (YW.s0 aA aB v)
theorem YW.l0_eq (k : Nat) (a0 aA : ByteArray) (aB : Int) : ∀ n v, YW.r0 k a0 aA aB n v = Zo (YW.l0 k aA aB (fun z0 => some z0)) n v :=
  Zm (YW.s0 aA aB) _ fun L0 v => by kernel_rfl
theorem YW.ok (k : Nat) : Za Tryz.prog 193 (YW.e k) := Zh (YW.p k) mix tyok Tryz.func193 (Yam.ok k) (by kernel_rfl) (fun a0 => Eq.trans (b := YW.m k a0 (fun z0 => some z0) (fun aA aB => YW.r0 k a0 aA aB k)) (by kernel_rfl) (congrArg (YW.m k a0 (fun z0 => some z0)) (funext fun aA => funext fun aB => funext fun v => YW.l0_eq k a0 aA aB k v)))
noncomputable def Yar.g {β : Type} (k : Nat) (a0 : Int) (K : Bool → Option β) : Option β :=
  Yam.f k a0 0 10000 (fun y1 => K y1)
noncomputable def Yar.t (k : Nat) (a0 : Int) : Option (Bool) := Yar.g k a0 (fun z0 => some z0)
noncomputable def Yar.f {β : Type} (k : Nat) (a0 : Int) (K : Bool → Option β) : Option β := bd1 (Yar.t k a0) K
noncomputable def Yar.e (k : Nat) : Zk := ent [.d .n] [1] [.b] [4] false (Yar.t k)
noncomputable def Yar.p (k : Nat) : Pro := ⟨Tryz.prog, [(169, Yam.e k)], Zn [] false [], k⟩
theorem Yar.ok (k : Nat) : Za Tryz.prog 147 (Yar.e k) := Zh (Yar.p k) mix tyok Tryz.func147 (Yam.ok k) (by kernel_rfl) (fun a0 => by show _ = _; kernel_rfl)
noncomputable def YQ.l0 {β : Type} (k : Nat) (aA : List (List D)) (aB : Int) (aF : List (List D)) (aH : Int) (K : Bool → Option β) (L0 : Int → Option β) (v : Int) : Option β :=
  match v with
  | aI => bif (decide ((aI : Int) < aH)) then (atR aF aI [.s] fun x13 => (YW.f k x13 (fun y14 => bif (!y14) then (K false) else (bif (decide ((aI : Int) > 0)) then (atR aA (IntKind.wrap .i64 (aI - 1)) [.s] fun x18 => (bif (!(ZbO x18 x13)) then (K false) else (L0 (IntKind.wrap .i64 (aI + 1))))) else (L0 (IntKind.wrap .i64 (aI + 1))))))) else (K (decide (((aA.length : Int) : Int) ≤ aB)))
noncomputable def YQ.m {β : Type} (k : Nat) (a0 : List (List D)) (a1 : Int) (K : Bool → Option β) (F : ((List (List D)) → Int → (List (List D)) → Int → Int → Option β)) : Option β :=
  F a0 a1 a0 (a0.length : Int) (0)
noncomputable def YQ.g {β : Type} (k : Nat) (a0 : List (List D)) (a1 : Int) (K : Bool → Option β) : Option β :=
  Zo (YQ.l0 k a0 a1 a0 (a0.length : Int) K) k (0)
noncomputable def YQ.t (k : Nat) (a0 : List (List D)) (a1 : Int) : Option (Bool) := YQ.g k a0 a1 (fun z0 => some z0)
noncomputable def YQ.f {β : Type} (k : Nat) (a0 : List (List D)) (a1 : Int) (K : Bool → Option β) : Option β := bd1 (YQ.t k a0 a1) K
noncomputable def YQ.e (k : Nat) : Zk := ent [.d .l, .d .n] [1] [.b] [4] false (YQ.t k)
noncomputable def YQ.p (k : Nat) : Pro := ⟨Tryz.prog, [(193, YW.e k)], Zn [(2, kp [0, 1, 7, 8, 9])] false [], k⟩
noncomputable def YQ.d (k : Nat) (a0 : List (List D)) (a1 : Int) : Ex → St → Option (Bool) := (YQ.p k).fin Tryz.f208 [.d (.sl a0), .d (.int .i64 a1)] [1] [.b]
noncomputable def YQ.s0 (aA : List (List D)) (aB : Int) (aF : List (List D)) (aH v : Int) : St :=
  match v with
  | aI => ZX 35 [(0, .d false (.sl aA)), (1, .d false (.int .i64 aB)), (7, .d false (.sl aF)), (8, .d true (.int .i64 aH)), (9, .d true (.int .i64 aI))] []
noncomputable def YQ.r0 (k : Nat) (a0 : List (List D)) (a1 : Int) (aA : List (List D)) (aB : Int) (aF : List (List D)) (aH : Int) (n : Nat) (v : Int) : Option (Bool) := (YQ.p k).lp (Zt Tryz.f208) 2 [1, 0, 1, 0] (YQ.d k a0 a1) n (YQ.s0 aA aB aF aH v)
theorem YQ.l0_eq (k : Nat) (a0 : List (List D)) (a1 : Int) (aA : List (List D)) (aB : Int) (aF : List (List D)) (aH : Int) : ∀ n v, YQ.r0 k a0 a1 aA aB aF aH n v = Zo (YQ.l0 k aA aB aF aH (fun z0 => some z0)) n v :=
  Zm (YQ.s0 aA aB aF aH) _ fun L0 v => by kernel_rfl
theorem YQ.ok (k : Nat) : Za Tryz.prog 208 (YQ.e k) := Zh (YQ.p k) mix tyok Tryz.func208 (YW.ok k) (by kernel_rfl) (fun a0 a1 => Eq.trans (b := YQ.m k a0 a1 (fun z0 => some z0) (fun aA aB aF aH => YQ.r0 k a0 a1 aA aB aF aH k)) (by kernel_rfl) (congrArg (YQ.m k a0 a1 (fun z0 => some z0)) (funext fun aA => funext fun aB => funext fun aF => funext fun aH => funext fun v => YQ.l0_eq k a0 a1 aA aB aF aH k v)))
noncomputable def YaX.g {β : Type} (k : Nat) (aD : Int) (aC : ByteArray) (aE : List (List D)) (K : Bool → Option β) : Option β :=
  bif ((aD : Int) == 1) then (bif ((aD : Int) == 1) then (bif (((aE.length : Int) : Int) == 1) then (YW.f k aC (fun y1 => bif y1 then (YQ.f k aE 6 (fun y19 => K y19)) else (K false))) else (K false)) else (bif ((aD : Int) == 3) then (bif (decide (((aE.length : Int) : Int) ≥ 1)) then (YW.f k aC (fun y20 => bif y20 then (YQ.f k aE 6 (fun y21 => K y21)) else (K false))) else (K false)) else (bif ((aD : Int) == 4) then (bif ((aD : Int) == 4) then (bif (((aE.length : Int) : Int) == 0) then (YW.f k aC (fun y22 => bif y22 then (YQ.f k aE 6 (fun y23 => K y23)) else (K false))) else (K false)) else (K false)) else (bif ((aD : Int) == 5) then (bif (((aE.length : Int) : Int) == 0) then (YW.f k aC (fun y24 => bif y24 then (YQ.f k aE 6 (fun y25 => K y25)) else (K false))) else (K false)) else (K false))))) else (bif ((aD : Int) == 2) then (bif (((aE.length : Int) : Int) == 1) then (YW.f k aC (fun y26 => bif y26 then (YQ.f k aE 6 (fun y27 => K y27)) else (K false))) else (K false)) else (bif ((aD : Int) == 3) then (bif (decide (((aE.length : Int) : Int) ≥ 1)) then (YW.f k aC (fun y28 => bif y28 then (YQ.f k aE 6 (fun y29 => K y29)) else (K false))) else (K false)) else (bif ((aD : Int) == 4) then (bif ((aD : Int) == 4) then (bif (((aE.length : Int) : Int) == 0) then (YW.f k aC (fun y30 => bif y30 then (YQ.f k aE 6 (fun y31 => K y31)) else (K false))) else (K false)) else (K false)) else (bif ((aD : Int) == 5) then (bif (((aE.length : Int) : Int) == 0) then (YW.f k aC (fun y32 => bif y32 then (YQ.f k aE 6 (fun y33 => K y33)) else (K false))) else (K false)) else (K false)))))
noncomputable def YaX.t (k : Nat) (aD : Int) (aC : ByteArray) (aE : List (List D)) : Option (Bool) := YaX.g k aD aC aE (fun z0 => some z0)
noncomputable def YaX.f {β : Type} (k : Nat) (aD : Int) (aC : ByteArray) (aE : List (List D)) (K : Bool → Option β) : Option β := bd1 (YaX.t k aD aC aE) K
noncomputable def YaX.e (k : Nat) : Zk := ent [.agg [.n, .s, .l]] [1] [.b] [4] false (YaX.t k)
noncomputable def YaX.p (k : Nat) : Pro := ⟨Tryz.prog, [(193, YW.e k), (208, YQ.e k)], Zn [] false [], k⟩
theorem YaX.ok (k : Nat) : Za Tryz.prog 251 (YaX.e k) := Zh (YaX.p k) mix tyok Tryz.func251 ⟨YW.ok k, YQ.ok k⟩ (by kernel_rfl) (fun aD aC aE => by show _ = _; kernel_rfl)
noncomputable def Yao.g {β : Type} (k : Nat) (aD : Int) (aC : ByteArray) (aE : List (List D)) (K : Bool → Option β) : Option β :=
  YaX.f k aD aC aE (fun y34 => K (!y34))
noncomputable def Yao.t (k : Nat) (aD : Int) (aC : ByteArray) (aE : List (List D)) : Option (Bool) := Yao.g k aD aC aE (fun z0 => some z0)
noncomputable def Yao.f {β : Type} (k : Nat) (aD : Int) (aC : ByteArray) (aE : List (List D)) (K : Bool → Option β) : Option β := bd1 (Yao.t k aD aC aE) K
noncomputable def Yao.e (k : Nat) : Zk := ent [.agg [.n, .s, .l]] [1] [.b] [4] false (Yao.t k)
noncomputable def Yao.p (k : Nat) : Pro := ⟨Tryz.prog, [(251, YaX.e k)], Zn [] false [], k⟩
theorem Yao.ok (k : Nat) : Za Tryz.prog 250 (Yao.e k) := Zh (Yao.p k) mix tyok Tryz.func250 (YaX.ok k) (by kernel_rfl) (fun aD aC aE => by show _ = _; kernel_rfl)
noncomputable def Yd.l0 {β : Type} (k : Nat) (aA : List (List D)) (aB : Int) (K L0 : Int → Option β) (v : Int) : Option β :=
  match v with
  | aF => bif (decide ((aF : Int) < aB)) then (atR aA aF [.n, .s, .l] fun x39 x42 x45 => (Yao.f k x39 x42 x45 (fun y46 => bif y46 then (K aF) else (L0 (IntKind.wrap .i64 (aF + 1)))))) else (K (-1))
noncomputable def Yd.m {β : Type} (k : Nat) (a0 : List (List D)) (K : Int → Option β) (F : ((List (List D)) → Int → Int → Option β)) : Option β :=
  F a0 (a0.length : Int) (0)
noncomputable def Yd.g {β : Type} (k : Nat) (a0 : List (List D)) (K : Int → Option β) : Option β :=
  Zo (Yd.l0 k a0 (a0.length : Int) K) k (0)
noncomputable def Yd.t (k : Nat) (a0 : List (List D)) : Option (Int) := Yd.g k a0 (fun z0 => some z0)
noncomputable def Yd.f {β : Type} (k : Nat) (a0 : List (List D)) (K : Int → Option β) : Option β := bd1 (Yd.t k a0) K
noncomputable def Yd.e (k : Nat) : Zk := ent [.d .l, .fn 250 []] [1] [.n] [3] false (Yd.t k)
noncomputable def Yd.p (k : Nat) : Pro := ⟨Tryz.prog, [(250, Yao.e k)], Zn [(2, kp [0, 1, 7, 8])] false [], k⟩
noncomputable def Yd.d (k : Nat) (a0 : List (List D)) : Ex → St → Option (Int) := (Yd.p k).fin Tryz.f252 [.d (.sl a0), .d (.fn 250 [])] [1] [.n]
noncomputable def Yd.s0 (aA : List (List D)) (aB v : Int) : St :=
  match v with
  | aF => ZX 19 [(0, .d false (.sl aA)), (1, .d false (.fn 250 [])), (7, .d true (.int .i64 aB)), (8, .d true (.int .i64 aF))] []
noncomputable def Yd.r0 (k : Nat) (a0 aA : List (List D)) (aB : Int) (n : Nat) (v : Int) : Option (Int) := (Yd.p k).lp (Zt Tryz.f252) 2 [1, 0, 1, 0] (Yd.d k a0) n (Yd.s0 aA aB v)
theorem Yd.l0_eq (k : Nat) (a0 aA : List (List D)) (aB : Int) : ∀ n v, Yd.r0 k a0 aA aB n v = Zo (Yd.l0 k aA aB (fun z0 => some z0)) n v :=
  Zm (Yd.s0 aA aB) _ fun L0 v => by kernel_rfl
theorem Yd.ok (k : Nat) : Za Tryz.prog 252 (Yd.e k) := Zh (Yd.p k) mix tyok Tryz.func252 (Yao.ok k) (by kernel_rfl) (fun a0 => Eq.trans (b := Yd.m k a0 (fun z0 => some z0) (fun aA aB => Yd.r0 k a0 aA aB k)) (by kernel_rfl) (congrArg (Yd.m k a0 (fun z0 => some z0)) (funext fun aA => funext fun aB => funext fun v => Yd.l0_eq k a0 aA aB k v)))
noncomputable def Yn.g {β : Type} (k : Nat) (a0 : List (List D)) (K : Bool → Option β) : Option β :=
  Yd.f k a0 (fun y47 => K (decide ((y47 : Int) ≥ 0)))
noncomputable def Yn.t (k : Nat) (a0 : List (List D)) : Option (Bool) := Yn.g k a0 (fun z0 => some z0)
noncomputable def Yn.f {β : Type} (k : Nat) (a0 : List (List D)) (K : Bool → Option β) : Option β := bd1 (Yn.t k a0) K
noncomputable def Yn.e (k : Nat) : Zk := ent [.d .l, .fn 250 []] [1] [.b] [4] false (Yn.t k)
noncomputable def Yn.p (k : Nat) : Pro := ⟨Tryz.prog, [(252, Yd.e k)], Zn [] false [], k⟩
theorem Yn.ok (k : Nat) : Za Tryz.prog 212 (Yn.e k) := Zh (Yn.p k) mix tyok Tryz.func212 (Yd.ok k) (by kernel_rfl) (fun a0 => by show _ = _; kernel_rfl)
noncomputable def Yan.g {β : Type} (k : Nat) (a0 : List (List D)) (K : Bool → Option β) : Option β :=
  bif (decide (((a0.length : Int) : Int) ≤ 8)) then (Yn.f k a0 (fun y48 => K (!y48))) else (K false)
noncomputable def Yan.t (k : Nat) (a0 : List (List D)) : Option (Bool) := Yan.g k a0 (fun z0 => some z0)
noncomputable def Yan.f {β : Type} (k : Nat) (a0 : List (List D)) (K : Bool → Option β) : Option β := bd1 (Yan.t k a0) K
noncomputable def Yan.e (k : Nat) : Zk := ent [.d .l] [1] [.b] [4] false (Yan.t k)
noncomputable def Yan.p (k : Nat) : Pro := ⟨Tryz.prog, [(212, Yn.e k)], Zn [] false [], k⟩
theorem Yan.ok (k : Nat) : Za Tryz.prog 207 (Yan.e k) := Zh (Yan.p k) mix tyok Tryz.func207 (Yn.ok k) (by kernel_rfl) (fun a0 => by show _ = _; kernel_rfl)
noncomputable def Yak.l0 {β : Type} (k : Nat) (aA : List (List D)) (aB aH : Int) (aI aJ aL : List (List D)) (K : Bool → Option β) (L0 : Int → Option β) (v : Int) : Option β :=
  match v with
  | aF => bif (decide ((aF : Int) < aB)) then (atR aA aF [.s, .n] fun x54 x57 => (YW.f k x54 (fun y58 => bif (!y58) then (K false) else (Yam.f k x57 0 1000 (fun y59 => bif (!y59) then (K false) else (bif (decide ((aF : Int) > 0)) then (atR aL (IntKind.wrap .i64 (aF - 1)) [.s, .n] fun x63 x66 => (bif (!(ZbO x63 x54)) then (K false) else (L0 (IntKind.wrap .i64 (aF + 1))))) else (L0 (IntKind.wrap .i64 (aF + 1))))))))) else (Yar.f k aH (fun y67 => bif y67 then (Yan.f k aI (fun y68 => bif y68 then (YQ.f k aJ 8 (fun y69 => bif y69 then (K (decide (((aL.length : Int) : Int) ≤ 12))) else (K false))) else (K false))) else (K false)))
noncomputable def Yak.m {β : Type} (k : Nat) (aD : Int) (aC aE aG : List (List D)) (K : Bool → Option β) (F : ((List (List D)) → Int → Int → (List (List D)) → (List (List D)) → (List (List D)) → Int → Option β)) : Option β :=
  F aG (aG.length : Int) aD aC aE aG (0)
noncomputable def Yak.g {β : Type} (k : Nat) (aD : Int) (aC aE aG : List (List D)) (K : Bool → Option β) : Option β :=
  Zo (Yak.l0 k aG (aG.length : Int) aD aC aE aG K) k (0)
noncomputable def Yak.t (k : Nat) (aD : Int) (aC aE aG : List (List D)) : Option (Bool) := Yak.g k aD aC aE aG (fun z0 => some z0)
noncomputable def Yak.f {β : Type} (k : Nat) (aD : Int) (aC aE aG : List (List D)) (K : Bool → Option β) : Option β := bd1 (Yak.t k aD aC aE aG) K
noncomputable def Yak.e (k : Nat) : Zk := ent [.agg [.n, .l, .l, .l]] [1] [.b] [4] false (Yak.t k)
noncomputable def Yak.p (k : Nat) : Pro := ⟨Tryz.prog, [(193, YW.e k), (169, Yam.e k), (147, Yar.e k), (207, Yan.e k), (208, YQ.e k)], Zn [(2, kp [1, 6, 7, 8])] false [], k⟩
noncomputable def Yak.d (k : Nat) (aD : Int) (aC aE aG : List (List D)) : Ex → St → Option (Bool) := (Yak.p k).fin Tryz.f141 [.agg [.int .i64 aD, .sl aC, .sl aE, .sl aG]] [1] [.b]
noncomputable def Yak.s0 (aA : List (List D)) (aB aH : Int) (aI aJ aL : List (List D)) (v : Int) : St :=
  match v with
  | aF => ZX 59 [(1, .bp 0 0), (6, .d false (.sl aA)), (7, .d true (.int .i64 aB)), (8, .d true (.int .i64 aF))] [.box none 35 [.d false (.int .i64 aH), .d false (.sl aI), .d false (.sl aJ), .d false (.sl aL)]]
noncomputable def Yak.r0 (k : Nat) (aD : Int) (aC aE aG aA : List (List D)) (aB aH : Int) (aI aJ aL : List (List D)) (n : Nat) (v : Int) : Option (Bool) := (Yak.p k).lp (Zt Tryz.f141) 2 [1, 0, 1, 0] (Yak.d k aD aC aE aG) n (Yak.s0 aA aB aH aI aJ aL v)
theorem Yak.l0_eq (k : Nat) (aD : Int) (aC aE aG aA : List (List D)) (aB aH : Int) (aI aJ aL : List (List D)) : ∀ n v, Yak.r0 k aD aC aE aG aA aB aH aI aJ aL n v = Zo (Yak.l0 k aA aB aH aI aJ aL (fun z0 => some z0)) n v :=
  Zm (Yak.s0 aA aB aH aI aJ aL) _ fun L0 v => by kernel_rfl
theorem Yak.ok (k : Nat) : Za Tryz.prog 141 (Yak.e k) := Zh (Yak.p k) mix tyok Tryz.func141 ⟨YW.ok k, Yam.ok k, Yar.ok k, Yan.ok k, YQ.ok k⟩ (by kernel_rfl) (fun aD aC aE aG => Eq.trans (b := Yak.m k aD aC aE aG (fun z0 => some z0) (fun aA aB aH aI aJ aL => Yak.r0 k aD aC aE aG aA aB aH aI aJ aL k)) (by kernel_rfl) (congrArg (Yak.m k aD aC aE aG (fun z0 => some z0)) (funext fun aA => funext fun aB => funext fun aH => funext fun aI => funext fun aJ => funext fun aL => funext fun v => Yak.l0_eq k aD aC aE aG aA aB aH aI aJ aL k v)))
noncomputable def Y5.l0 {β : Type} (k : Nat) (aA aB : List (List D)) (aF : Int) (K : Bool → Option β) (L0 : Int → Option β) (v : Int) : Option β :=
  match v with
  | aH => bif (decide ((aH : Int) < aF)) then (atR aB aH [.s, .s] fun x20 x23 => (YW.f k x20 (fun y24 => bif (!y24) then (K false) else (YW.f k x23 (fun y25 => bif (!y25) then (K false) else (bif (decide ((aH : Int) > 0)) then (atR aA (IntKind.wrap .i64 (aH - 1)) [.s, .s] fun x29 x32 => (bif (!(ZbO x29 x20)) then (K false) else (L0 (IntKind.wrap .i64 (aH + 1))))) else (L0 (IntKind.wrap .i64 (aH + 1))))))))) else (K (decide (((aA.length : Int) : Int) ≤ 8)))
noncomputable def Y5.m {β : Type} (k : Nat) (a0 : List (List D)) (K : Bool → Option β) (F : ((List (List D)) → (List (List D)) → Int → Int → Option β)) : Option β :=
  F a0 a0 (a0.length : Int) (0)
noncomputable def Y5.g {β : Type} (k : Nat) (a0 : List (List D)) (K : Bool → Option β) : Option β :=
  Zo (Y5.l0 k a0 a0 (a0.length : Int) K) k (0)
noncomputable def Y5.t (k : Nat) (a0 : List (List D)) : Option (Bool) := Y5.g k a0 (fun z0 => some z0)
noncomputable def Y5.f {β : Type} (k : Nat) (a0 : List (List D)) (K : Bool → Option β) : Option β := bd1 (Y5.t k a0) K
noncomputable def Y5.e (k : Nat) : Zk := ent [.d .l] [1] [.b] [4] false (Y5.t k)
noncomputable def Y5.p (k : Nat) : Pro := ⟨Tryz.prog, [(193, YW.e k)], Zn [(2, kp [0, 5, 6, 7])] false [], k⟩
noncomputable def Y5.d (k : Nat) (a0 : List (List D)) : Ex → St → Option (Bool) := (Y5.p k).fin Tryz.f210 [.d (.sl a0)] [1] [.b]
noncomputable def Y5.s0 (aA aB : List (List D)) (aF v : Int) : St :=
  match v with
  | aH => ZX 41 [(0, .d false (.sl aA)), (5, .d false (.sl aB)), (6, .d true (.int .i64 aF)), (7, .d true (.int .i64 aH))] []
noncomputable def Y5.r0 (k : Nat) (a0 aA aB : List (List D)) (aF : Int) (n : Nat) (v : Int) : Option (Bool) := (Y5.p k).lp (Zt Tryz.f210) 2 [1, 0, 1, 0] (Y5.d k a0) n (Y5.s0 aA aB aF v)
theorem Y5.l0_eq (k : Nat) (a0 aA aB : List (List D)) (aF : Int) : ∀ n v, Y5.r0 k a0 aA aB aF n v = Zo (Y5.l0 k aA aB aF (fun z0 => some z0)) n v :=
  Zm (Y5.s0 aA aB aF) _ fun L0 v => by kernel_rfl
theorem Y5.ok (k : Nat) : Za Tryz.prog 210 (Y5.e k) := Zh (Y5.p k) mix tyok Tryz.func210 (YW.ok k) (by kernel_rfl) (fun a0 => Eq.trans (b := Y5.m k a0 (fun z0 => some z0) (fun aA aB aF => Y5.r0 k a0 aA aB aF k)) (by kernel_rfl) (congrArg (Y5.m k a0 (fun z0 => some z0)) (funext fun aA => funext fun aB => funext fun aF => funext fun v => Y5.l0_eq k a0 aA aB aF k v)))
noncomputable def Yaz.g {β : Type} (k : Nat) (aD : ByteArray) (aC aE : List (List D)) (aG : Int) (K : Bool → Option β) : Option β :=
  YW.f k aD (fun y1 => bif y1 then (Y5.f k aC (fun y33 => bif y33 then (YQ.f k aE 4 (fun y34 => bif y34 then (Yar.f k aG (fun y35 => K y35)) else (K false))) else (K false))) else (K false))
noncomputable def Yaz.t (k : Nat) (aD : ByteArray) (aC aE : List (List D)) (aG : Int) : Option (Bool) := Yaz.g k aD aC aE aG (fun z0 => some z0)
noncomputable def Yaz.f {β : Type} (k : Nat) (aD : ByteArray) (aC aE : List (List D)) (aG : Int) (K : Bool → Option β) : Option β := bd1 (Yaz.t k aD aC aE aG) K
noncomputable def Yaz.e (k : Nat) : Zk := ent [.agg [.s, .l, .l, .n]] [1] [.b] [4] false (Yaz.t k)
noncomputable def Yaz.p (k : Nat) : Pro := ⟨Tryz.prog, [(193, YW.e k), (210, Y5.e k), (208, YQ.e k), (147, Yar.e k)], Zn [] false [], k⟩
theorem Yaz.ok (k : Nat) : Za Tryz.prog 144 (Yaz.e k) := Zh (Yaz.p k) mix tyok Tryz.func144 ⟨YW.ok k, Y5.ok k, YQ.ok k, Yar.ok k⟩ (by kernel_rfl) (fun aD aC aE aG => by show _ = _; kernel_rfl)
noncomputable def Yay.g {β : Type} (k : Nat) (aD : ByteArray) (aC aE : List (List D)) (aG : Int) (K : Bool → Option β) : Option β :=
  Yaz.f k aD aC aE aG (fun y36 => K (!y36))
noncomputable def Yay.t (k : Nat) (aD : ByteArray) (aC aE : List (List D)) (aG : Int) : Option (Bool) := Yay.g k aD aC aE aG (fun z0 => some z0)
noncomputable def Yay.f {β : Type} (k : Nat) (aD : ByteArray) (aC aE : List (List D)) (aG : Int) (K : Bool → Option β) : Option β := bd1 (Yay.t k aD aC aE aG) K
noncomputable def Yay.e (k : Nat) : Zk := ent [.agg [.s, .l, .l, .n]] [1] [.b] [4] false (Yay.t k)
noncomputable def Yay.p (k : Nat) : Pro := ⟨Tryz.prog, [(144, Yaz.e k)], Zn [] false [], k⟩
theorem Yay.ok (k : Nat) : Za Tryz.prog 143 (Yay.e k) := Zh (Yay.p k) mix tyok Tryz.func143 (Yaz.ok k) (by kernel_rfl) (fun aD aC aE aG => by show _ = _; kernel_rfl)
noncomputable def Ye.l0 {β : Type} (k : Nat) (aA : List (List D)) (aB : Int) (K L0 : Int → Option β) (v : Int) : Option β :=
  match v with
  | aF => bif (decide ((aF : Int) < aB)) then (atR aA aF [.s, .l, .l, .n] fun x41 x44 x47 x50 => (Yay.f k x41 x44 x47 x50 (fun y51 => bif y51 then (K aF) else (L0 (IntKind.wrap .i64 (aF + 1)))))) else (K (-1))
noncomputable def Ye.m {β : Type} (k : Nat) (a0 : List (List D)) (K : Int → Option β) (F : ((List (List D)) → Int → Int → Option β)) : Option β :=
  F a0 (a0.length : Int) (0)
noncomputable def Ye.g {β : Type} (k : Nat) (a0 : List (List D)) (K : Int → Option β) : Option β :=
  Zo (Ye.l0 k a0 (a0.length : Int) K) k (0)
noncomputable def Ye.t (k : Nat) (a0 : List (List D)) : Option (Int) := Ye.g k a0 (fun z0 => some z0)
noncomputable def Ye.f {β : Type} (k : Nat) (a0 : List (List D)) (K : Int → Option β) : Option β := bd1 (Ye.t k a0) K
noncomputable def Ye.e (k : Nat) : Zk := ent [.d .l, .fn 143 []] [1] [.n] [3] false (Ye.t k)
noncomputable def Ye.p (k : Nat) : Pro := ⟨Tryz.prog, [(143, Yay.e k)], Zn [(2, kp [0, 1, 7, 8])] false [], k⟩
noncomputable def Ye.d (k : Nat) (a0 : List (List D)) : Ex → St → Option (Int) := (Ye.p k).fin Tryz.f209 [.d (.sl a0), .d (.fn 143 [])] [1] [.n]
noncomputable def Ye.s0 (aA : List (List D)) (aB v : Int) : St :=
  match v with
  | aF => ZX 19 [(0, .d false (.sl aA)), (1, .d false (.fn 143 [])), (7, .d true (.int .i64 aB)), (8, .d true (.int .i64 aF))] []
noncomputable def Ye.r0 (k : Nat) (a0 aA : List (List D)) (aB : Int) (n : Nat) (v : Int) : Option (Int) := (Ye.p k).lp (Zt Tryz.f209) 2 [1, 0, 1, 0] (Ye.d k a0) n (Ye.s0 aA aB v)
theorem Ye.l0_eq (k : Nat) (a0 aA : List (List D)) (aB : Int) : ∀ n v, Ye.r0 k a0 aA aB n v = Zo (Ye.l0 k aA aB (fun z0 => some z0)) n v :=
  Zm (Ye.s0 aA aB) _ fun L0 v => by kernel_rfl
theorem Ye.ok (k : Nat) : Za Tryz.prog 209 (Ye.e k) := Zh (Ye.p k) mix tyok Tryz.func209 (Yay.ok k) (by kernel_rfl) (fun a0 => Eq.trans (b := Ye.m k a0 (fun z0 => some z0) (fun aA aB => Ye.r0 k a0 aA aB k)) (by kernel_rfl) (congrArg (Ye.m k a0 (fun z0 => some z0)) (funext fun aA => funext fun aB => funext fun v => Ye.l0_eq k a0 aA aB k v)))
noncomputable def Yo.g {β : Type} (k : Nat) (a0 : List (List D)) (K : Bool → Option β) : Option β :=
  Ye.f k a0 (fun y52 => K (decide ((y52 : Int) ≥ 0)))
noncomputable def Yo.t (k : Nat) (a0 : List (List D)) : Option (Bool) := Yo.g k a0 (fun z0 => some z0)
noncomputable def Yo.f {β : Type} (k : Nat) (a0 : List (List D)) (K : Bool → Option β) : Option β := bd1 (Yo.t k a0) K
noncomputable def Yo.e (k : Nat) : Zk := ent [.d .l, .fn 143 []] [1] [.b] [4] false (Yo.t k)
noncomputable def Yo.p (k : Nat) : Pro := ⟨Tryz.prog, [(209, Ye.e k)], Zn [] false [], k⟩
theorem Yo.ok (k : Nat) : Za Tryz.prog 142 (Yo.e k) := Zh (Yo.p k) mix tyok Tryz.func142 (Ye.ok k) (by kernel_rfl) (fun a0 => by show _ = _; kernel_rfl)
noncomputable def Yax.g {β : Type} (k : Nat) (a0 : Int) (K : Bool → Option β) : Option β :=
  Yar.f k a0 (fun y1 => K (!y1))
noncomputable def Yax.t (k : Nat) (a0 : Int) : Option (Bool) := Yax.g k a0 (fun z0 => some z0)
noncomputable def Yax.f {β : Type} (k : Nat) (a0 : Int) (K : Bool → Option β) : Option β := bd1 (Yax.t k a0) K
noncomputable def Yax.e (k : Nat) : Zk := ent [.d .n] [1] [.b] [4] false (Yax.t k)
noncomputable def Yax.p (k : Nat) : Pro := ⟨Tryz.prog, [(147, Yar.e k)], Zn [] false [], k⟩
theorem Yax.ok (k : Nat) : Za Tryz.prog 146 (Yax.e k) := Zh (Yax.p k) mix tyok Tryz.func146 (Yar.ok k) (by kernel_rfl) (fun a0 => by show _ = _; kernel_rfl)
noncomputable def Yj.l0 {β : Type} (k : Nat) (aA : List (List D)) (aB : Int) (K L0 : Int → Option β) (v : Int) : Option β :=
  match v with
  | aF => bif (decide ((aF : Int) < aB)) then (atR aA aF [.n] fun x9 => (Yax.f k x9 (fun y10 => bif y10 then (K aF) else (L0 (IntKind.wrap .i64 (aF + 1)))))) else (K (-1))
noncomputable def Yj.m {β : Type} (k : Nat) (a0 : List (List D)) (K : Int → Option β) (F : ((List (List D)) → Int → Int → Option β)) : Option β :=
  F a0 (a0.length : Int) (0)
noncomputable def Yj.g {β : Type} (k : Nat) (a0 : List (List D)) (K : Int → Option β) : Option β :=
  Zo (Yj.l0 k a0 (a0.length : Int) K) k (0)
noncomputable def Yj.t (k : Nat) (a0 : List (List D)) : Option (Int) := Yj.g k a0 (fun z0 => some z0)
noncomputable def Yj.f {β : Type} (k : Nat) (a0 : List (List D)) (K : Int → Option β) : Option β := bd1 (Yj.t k a0) K
noncomputable def Yj.e (k : Nat) : Zk := ent [.d .l, .fn 146 []] [1] [.n] [3] false (Yj.t k)
noncomputable def Yj.p (k : Nat) : Pro := ⟨Tryz.prog, [(146, Yax.e k)], Zn [(2, kp [0, 1, 7, 8])] false [], k⟩
noncomputable def Yj.d (k : Nat) (a0 : List (List D)) : Ex → St → Option (Int) := (Yj.p k).fin Tryz.f211 [.d (.sl a0), .d (.fn 146 [])] [1] [.n]
noncomputable def Yj.s0 (aA : List (List D)) (aB v : Int) : St :=
  match v with
  | aF => ZX 19 [(0, .d false (.sl aA)), (1, .d false (.fn 146 [])), (7, .d true (.int .i64 aB)), (8, .d true (.int .i64 aF))] []
noncomputable def Yj.r0 (k : Nat) (a0 aA : List (List D)) (aB : Int) (n : Nat) (v : Int) : Option (Int) := (Yj.p k).lp (Zt Tryz.f211) 2 [1, 0, 1, 0] (Yj.d k a0) n (Yj.s0 aA aB v)
theorem Yj.l0_eq (k : Nat) (a0 aA : List (List D)) (aB : Int) : ∀ n v, Yj.r0 k a0 aA aB n v = Zo (Yj.l0 k aA aB (fun z0 => some z0)) n v :=
  Zm (Yj.s0 aA aB) _ fun L0 v => by kernel_rfl
theorem Yj.ok (k : Nat) : Za Tryz.prog 211 (Yj.e k) := Zh (Yj.p k) mix tyok Tryz.func211 (Yax.ok k) (by kernel_rfl) (fun a0 => Eq.trans (b := Yj.m k a0 (fun z0 => some z0) (fun aA aB => Yj.r0 k a0 aA aB k)) (by kernel_rfl) (congrArg (Yj.m k a0 (fun z0 => some z0)) (funext fun aA => funext fun aB => funext fun v => Yj.l0_eq k a0 aA aB k v)))
noncomputable def YB.g {β : Type} (k : Nat) (a0 : List (List D)) (K : Bool → Option β) : Option β :=
  Yj.f k a0 (fun y11 => K (decide ((y11 : Int) ≥ 0)))
noncomputable def YB.t (k : Nat) (a0 : List (List D)) : Option (Bool) := YB.g k a0 (fun z0 => some z0)
noncomputable def YB.f {β : Type} (k : Nat) (a0 : List (List D)) (K : Bool → Option β) : Option β := bd1 (YB.t k a0) K
noncomputable def YB.e (k : Nat) : Zk := ent [.d .l, .fn 146 []] [1] [.b] [4] false (YB.t k)
noncomputable def YB.p (k : Nat) : Pro := ⟨Tryz.prog, [(211, Yj.e k)], Zn [] false [], k⟩
theorem YB.ok (k : Nat) : Za Tryz.prog 145 (YB.e k) := Zh (YB.p k) mix tyok Tryz.func145 (Yj.ok k) (by kernel_rfl) (fun a0 => by show _ = _; kernel_rfl)
noncomputable def YaI.g {β : Type} (k : Nat) (aD : Int) (aC aE aG a1 a2 : List (List D)) (K : Bool → Option β) : Option β :=
  Yak.f k aD aC aE aG (fun y70 => bif y70 then (bif (decide (((a1.length : Int) : Int) ≤ 12)) then (bif (((a2.length : Int) : Int) == (a1.length : Int)) then (Yo.f k a1 (fun y71 => bif (!y71) then (YB.f k a2 (fun y72 => K (!y72))) else (K false))) else (K false)) else (K false)) else (K false))
noncomputable def YaI.t (k : Nat) (aD : Int) (aC aE aG a1 a2 : List (List D)) : Option (Bool) := YaI.g k aD aC aE aG a1 a2 (fun z0 => some z0)
noncomputable def YaI.f {β : Type} (k : Nat) (aD : Int) (aC aE aG a1 a2 : List (List D)) (K : Bool → Option β) : Option β := bd1 (YaI.t k aD aC aE aG a1 a2) K
noncomputable def YaI.e (k : Nat) : Zk := ent [.agg [.n, .l, .l, .l], .d .l, .d .l] [1] [.b] [4] false (YaI.t k)
noncomputable def YaI.p (k : Nat) : Pro := ⟨Tryz.prog, [(141, Yak.e k), (142, Yo.e k), (145, YB.e k)], Zn [] false [], k⟩
theorem YaI.ok (k : Nat) : Za Tryz.prog 69 (YaI.e k) := Zh (YaI.p k) mix tyok Tryz.func69 ⟨Yak.ok k, Yo.ok k, YB.ok k⟩ (by kernel_rfl) (fun aD aC aE aG a1 a2 => by show _ = _; kernel_rfl)
noncomputable def Yai.l0 {β : Type} (k : Nat) (aA : ByteArray) (aB : List (List D)) (aF : Int) (K : ByteArray → Bool → Option β) (L0 : Int → Option β) (v : Int) : Option β :=
  match v with
  | aH => bif (decide ((aH : Int) < aF)) then (atR aB aH [.s, .s] fun x11 x14 => (bif (Zae x11 aA) then (K x14 true) else (L0 (IntKind.wrap .i64 (aH + 1))))) else (K (⟨#[]⟩ : ByteArray) false)
noncomputable def Yai.m {β : Type} (k : Nat) (a0 : List (List D)) (a1 : ByteArray) (K : ByteArray → Bool → Option β) (F : (ByteArray → (List (List D)) → Int → Int → Option β)) : Option β :=
  F a1 a0 (a0.length : Int) (0)
noncomputable def Yai.g {β : Type} (k : Nat) (a0 : List (List D)) (a1 : ByteArray) (K : ByteArray → Bool → Option β) : Option β :=
  Zo (Yai.l0 k a1 a0 (a0.length : Int) K) k (0)
noncomputable def Yai.t (k : Nat) (a0 : List (List D)) (a1 : ByteArray) : Option (ByteArray × Bool) := Yai.g k a0 a1 (fun z0 z1 => some (z0, z1))
noncomputable def Yai.f {β : Type} (k : Nat) (a0 : List (List D)) (a1 : ByteArray) (K : ByteArray → Bool → Option β) : Option β := bd2 (Yai.t k a0 a1) K
noncomputable def Yai.e (k : Nat) : Zk := ent [.d .l, .d .s] [1, 1] [.s, .b] [9, 4] false (Yai.t k)
noncomputable def Yai.p (k : Nat) : Pro := ⟨Tryz.prog, [], Zn [(2, kp [1, 8, 9, 10])] false [], k⟩
noncomputable def Yai.d (k : Nat) (a0 : List (List D)) (a1 : ByteArray) : Ex → St → Option (ByteArray × Bool) := (Yai.p k).fin Tryz.f253 [.d (.sl a0), .d (.str a1)] [1, 1] [.s, .b]
noncomputable def Yai.s0 (aA : ByteArray) (aB : List (List D)) (aF v : Int) : St :=
  match v with
  | aH => ZX 21 [(1, .d false (.str aA)), (8, .d false (.sl aB)), (9, .d true (.int .i64 aF)), (10, .d true (.int .i64 aH))] []
noncomputable def Yai.r0 (k : Nat) (a0 : List (List D)) (a1 aA : ByteArray) (aB : List (List D)) (aF : Int) (n : Nat) (v : Int) : Option (ByteArray × Bool) := (Yai.p k).lp (Zt Tryz.f253) 2 [1, 0, 1, 0] (Yai.d k a0 a1) n (Yai.s0 aA aB aF v)
theorem Yai.l0_eq (k : Nat) (a0 : List (List D)) (a1 aA : ByteArray) (aB : List (List D)) (aF : Int) : ∀ n v, Yai.r0 k a0 a1 aA aB aF n v = Zo (Yai.l0 k aA aB aF (fun z0 z1 => some (z0, z1))) n v :=
  Zm (Yai.s0 aA aB aF) _ fun L0 v => by kernel_rfl
theorem Yai.ok (k : Nat) : Za Tryz.prog 253 (Yai.e k) := Zh (Yai.p k) mix tyok Tryz.func253 trivial (by kernel_rfl) (fun a0 a1 => Eq.trans (b := Yai.m k a0 a1 (fun z0 z1 => some (z0, z1)) (fun aA aB aF => Yai.r0 k a0 a1 aA aB aF k)) (by kernel_rfl) (congrArg (Yai.m k a0 a1 (fun z0 z1 => some (z0, z1))) (funext fun aA => funext fun aB => funext fun aF => funext fun v => Yai.l0_eq k a0 a1 aA aB aF k v)))
noncomputable def YH.l0 {β : Type} (k : Nat) (aA : List (List D)) (aB : ByteArray) (aF : Int) (K L0 : Int → Option β) (v : Int) : Option β :=
  match v with
  | aH => bif (decide ((aH : Int) < aF)) then (atR aA aH [.s] fun x8 => (bif (Zae aB x8) then (K aH) else (L0 (IntKind.wrap .i64 (aH + 1))))) else (K (-1))
noncomputable def YH.m {β : Type} (k : Nat) (a0 : List (List D)) (a1 : ByteArray) (K : Int → Option β) (F : ((List (List D)) → ByteArray → Int → Int → Option β)) : Option β :=
  F a0 a1 (a0.length : Int) (0)
noncomputable def YH.g {β : Type} (k : Nat) (a0 : List (List D)) (a1 : ByteArray) (K : Int → Option β) : Option β :=
  Zo (YH.l0 k a0 a1 (a0.length : Int) K) k (0)
noncomputable def YH.t (k : Nat) (a0 : List (List D)) (a1 : ByteArray) : Option (Int) := YH.g k a0 a1 (fun z0 => some z0)
noncomputable def YH.f {β : Type} (k : Nat) (a0 : List (List D)) (a1 : ByteArray) (K : Int → Option β) : Option β := bd1 (YH.t k a0 a1) K
noncomputable def YH.e (k : Nat) : Zk := ent [.d .l, .d .s] [1] [.n] [3] false (YH.t k)
noncomputable def YH.p (k : Nat) : Pro := ⟨Tryz.prog, [], Zn [(2, kp [0, 1, 7, 8])] false [], k⟩
noncomputable def YH.d (k : Nat) (a0 : List (List D)) (a1 : ByteArray) : Ex → St → Option (Int) := (YH.p k).fin Tryz.f216 [.d (.sl a0), .d (.str a1)] [1] [.n]
noncomputable def YH.s0 (aA : List (List D)) (aB : ByteArray) (aF v : Int) : St :=
  match v with
  | aH => ZX 19 [(0, .d false (.sl aA)), (1, .d false (.str aB)), (7, .d true (.int .i64 aF)), (8, .d true (.int .i64 aH))] []
noncomputable def YH.r0 (k : Nat) (a0 : List (List D)) (a1 : ByteArray) (aA : List (List D)) (aB : ByteArray) (aF : Int) (n : Nat) (v : Int) : Option (Int) := (YH.p k).lp (Zt Tryz.f216) 2 [1, 0, 1, 0] (YH.d k a0 a1) n (YH.s0 aA aB aF v)
theorem YH.l0_eq (k : Nat) (a0 : List (List D)) (a1 : ByteArray) (aA : List (List D)) (aB : ByteArray) (aF : Int) : ∀ n v, YH.r0 k a0 a1 aA aB aF n v = Zo (YH.l0 k aA aB aF (fun z0 => some z0)) n v :=
  Zm (YH.s0 aA aB aF) _ fun L0 v => by kernel_rfl
theorem YH.ok (k : Nat) : Za Tryz.prog 216 (YH.e k) := Zh (YH.p k) mix tyok Tryz.func216 trivial (by kernel_rfl) (fun a0 a1 => Eq.trans (b := YH.m k a0 a1 (fun z0 => some z0) (fun aA aB aF => YH.r0 k a0 a1 aA aB aF k)) (by kernel_rfl) (congrArg (YH.m k a0 a1 (fun z0 => some z0)) (funext fun aA => funext fun aB => funext fun aF => funext fun v => YH.l0_eq k a0 a1 aA aB aF k v)))
noncomputable def Y4.g {β : Type} (k : Nat) (a0 : List (List D)) (a1 : ByteArray) (K : Bool → Option β) : Option β :=
  YH.f k a0 a1 (fun y9 => K (decide ((y9 : Int) ≥ 0)))
noncomputable def Y4.t (k : Nat) (a0 : List (List D)) (a1 : ByteArray) : Option (Bool) := Y4.g k a0 a1 (fun z0 => some z0)
noncomputable def Y4.f {β : Type} (k : Nat) (a0 : List (List D)) (a1 : ByteArray) (K : Bool → Option β) : Option β := bd1 (Y4.t k a0 a1) K
noncomputable def Y4.e (k : Nat) : Zk := ent [.d .l, .d .s] [1] [.b] [4] false (Y4.t k)
noncomputable def Y4.p (k : Nat) : Pro := ⟨Tryz.prog, [(216, YH.e k)], Zn [] false [], k⟩
theorem Y4.ok (k : Nat) : Za Tryz.prog 151 (Y4.e k) := Zh (Y4.p k) mix tyok Tryz.func151 (YH.ok k) (by kernel_rfl) (fun a0 a1 => by show _ = _; kernel_rfl)
noncomputable def YaY.g {β : Type} (k : Nat) (aD : Int) (aC : ByteArray) (aE a1 : List (List D)) (K : Bool → Option β) : Option β :=
  Yai.f k a1 aC (fun y15 y16 => bif y16 then (Y4.f k aE y15 (fun y17 => let J0 := (bif ((aD : Int) == 2) then (K (!y17)) else (bif ((aD : Int) == 4) then (K y16) else (K (!y16)))); bif ((aD : Int) == 1) then (bif ((aD : Int) == 1) then (K y17) else J0) else (bif ((aD : Int) == 3) then (K y17) else J0))) else (let J1 := (bif ((aD : Int) == 2) then (K true) else (bif ((aD : Int) == 4) then (K y16) else (K (!y16)))); bif ((aD : Int) == 1) then (bif ((aD : Int) == 1) then (K false) else J1) else (bif ((aD : Int) == 3) then (K false) else J1)))
noncomputable def YaY.t (k : Nat) (aD : Int) (aC : ByteArray) (aE a1 : List (List D)) : Option (Bool) := YaY.g k aD aC aE a1 (fun z0 => some z0)
noncomputable def YaY.f {β : Type} (k : Nat) (aD : Int) (aC : ByteArray) (aE a1 : List (List D)) (K : Bool → Option β) : Option β := bd1 (YaY.t k aD aC aE a1) K
noncomputable def YaY.e (k : Nat) : Zk := ent [.agg [.n, .s, .l], .d .l] [1] [.b] [4] false (YaY.t k)
noncomputable def YaY.p (k : Nat) : Pro := ⟨Tryz.prog, [(253, Yai.e k), (151, Y4.e k)], Zn [] false [], k⟩
theorem YaY.ok (k : Nat) : Za Tryz.prog 214 (YaY.e k) := Zh (YaY.p k) mix tyok Tryz.func214 ⟨Yai.ok k, Y4.ok k⟩ (by kernel_rfl) (fun aD aC aE a1 => by show _ = _; kernel_rfl)
noncomputable def YaG.g {β : Type} (k : Nat) (aD : Int) (aC : ByteArray) (aE bT : List (List D)) (K : Bool → Option β) : Option β :=
  YaY.f k aD aC aE bT (fun y18 => K (!y18))
noncomputable def YaG.t (k : Nat) (aD : Int) (aC : ByteArray) (aE bT : List (List D)) : Option (Bool) := YaG.g k aD aC aE bT (fun z0 => some z0)
noncomputable def YaG.f {β : Type} (k : Nat) (aD : Int) (aC : ByteArray) (aE bT : List (List D)) (K : Bool → Option β) : Option β := bd1 (YaG.t k aD aC aE bT) K
noncomputable def YaG.e (k : Nat) : Zk := ent [.agg [.n, .s, .l], .ip [.l]] [1] [.b] [4] false (YaG.t k)
noncomputable def YaG.p (k : Nat) : Pro := ⟨Tryz.prog, [(214, YaY.e k)], Zn [] false [], k⟩
theorem YaG.ok (k : Nat) : Za Tryz.prog 213 (YaG.e k) := Zh (YaG.p k) mix tyok Tryz.func213 (YaY.ok k) (by kernel_rfl) (fun aD aC aE bT => by show _ = _; kernel_rfl)
noncomputable def Yf.l0 {β : Type} (k : Nat) (aA aB : List (List D)) (aF : Int) (K L0 : Int → Option β) (v : Int) : Option β :=
  match v with
  | aH => bif (decide ((aH : Int) < aF)) then (atR aA aH [.n, .s, .l] fun x23 x26 x29 => (YaG.f k x23 x26 x29 aB (fun y30 => bif y30 then (K aH) else (L0 (IntKind.wrap .i64 (aH + 1)))))) else (K (-1))
noncomputable def Yf.m {β : Type} (k : Nat) (a0 a1_0_0 : List (List D)) (K : Int → Option β) (F : ((List (List D)) → (List (List D)) → Int → Int → Option β)) : Option β :=
  F a0 a1_0_0 (a0.length : Int) (0)
noncomputable def Yf.g {β : Type} (k : Nat) (a0 a1_0_0 : List (List D)) (K : Int → Option β) : Option β :=
  Zo (Yf.l0 k a0 a1_0_0 (a0.length : Int) K) k (0)
noncomputable def Yf.t (k : Nat) (a0 a1_0_0 : List (List D)) : Option (Int) := Yf.g k a0 a1_0_0 (fun z0 => some z0)
noncomputable def Yf.f {β : Type} (k : Nat) (a0 a1_0_0 : List (List D)) (K : Int → Option β) : Option β := bd1 (Yf.t k a0 a1_0_0) K
noncomputable def Yf.e (k : Nat) : Zk := ent [.d .l, .fn 213 [[.l]]] [1] [.n] [3] false (Yf.t k)
noncomputable def Yf.p (k : Nat) : Pro := ⟨Tryz.prog, [(213, YaG.e k)], Zn [(2, kp [0, 1, 7, 8])] false [], k⟩
noncomputable def Yf.d (k : Nat) (a0 a1_0_0 : List (List D)) : Ex → St → Option (Int) := (Yf.p k).fin Tryz.f252 [.d (.sl a0), .d (.fn 213 [[.sl a1_0_0]])] [1] [.n]
noncomputable def Yf.s0 (aA aB : List (List D)) (aF v : Int) : St :=
  match v with
  | aH => ZX 19 [(0, .d false (.sl aA)), (1, .d false (.fn 213 [[.sl aB]])), (7, .d true (.int .i64 aF)), (8, .d true (.int .i64 aH))] []
noncomputable def Yf.r0 (k : Nat) (a0 a1_0_0 aA aB : List (List D)) (aF : Int) (n : Nat) (v : Int) : Option (Int) := (Yf.p k).lp (Zt Tryz.f252) 2 [1, 0, 1, 0] (Yf.d k a0 a1_0_0) n (Yf.s0 aA aB aF v)
theorem Yf.l0_eq (k : Nat) (a0 a1_0_0 aA aB : List (List D)) (aF : Int) : ∀ n v, Yf.r0 k a0 a1_0_0 aA aB aF n v = Zo (Yf.l0 k aA aB aF (fun z0 => some z0)) n v :=
  Zm (Yf.s0 aA aB aF) _ fun L0 v => by kernel_rfl
theorem Yf.ok (k : Nat) : Za Tryz.prog 252 (Yf.e k) := Zh (Yf.p k) mix tyok Tryz.func252 (YaG.ok k) (by kernel_rfl) (fun a0 a1_0_0 => Eq.trans (b := Yf.m k a0 a1_0_0 (fun z0 => some z0) (fun aA aB aF => Yf.r0 k a0 a1_0_0 aA aB aF k)) (by kernel_rfl) (congrArg (Yf.m k a0 a1_0_0 (fun z0 => some z0)) (funext fun aA => funext fun aB => funext fun aF => funext fun v => Yf.l0_eq k a0 a1_0_0 aA aB aF k v)))
noncomputable def Yt.g {β : Type} (k : Nat) (a0 a1_0_0 : List (List D)) (K : Bool → Option β) : Option β :=
  Yf.f k a0 a1_0_0 (fun y31 => K (decide ((y31 : Int) ≥ 0)))
noncomputable def Yt.t (k : Nat) (a0 a1_0_0 : List (List D)) : Option (Bool) := Yt.g k a0 a1_0_0 (fun z0 => some z0)
noncomputable def Yt.f {β : Type} (k : Nat) (a0 a1_0_0 : List (List D)) (K : Bool → Option β) : Option β := bd1 (Yt.t k a0 a1_0_0) K
noncomputable def Yt.e (k : Nat) : Zk := ent [.d .l, .fn 213 [[.l]]] [1] [.b] [4] false (Yt.t k)
noncomputable def Yt.p (k : Nat) : Pro := ⟨Tryz.prog, [(252, Yf.e k)], Zn [] false [], k⟩
theorem Yt.ok (k : Nat) : Za Tryz.prog 212 (Yt.e k) := Zh (Yt.p k) mix tyok Tryz.func212 (Yf.ok k) (by kernel_rfl) (fun a0 a1_0_0 => by show _ = _; kernel_rfl)
noncomputable def YaW.g {β : Type} (k : Nat) (a0 a1 : List (List D)) (K : Bool → Option β) : Option β :=
  Yan.f k a0 (fun y1 => bif y1 then (Y5.f k a1 (fun y2 => bif y2 then (Yt.f k a0 a1 (fun y32 => K (!y32))) else (K false))) else (K false))
noncomputable def YaW.t (k : Nat) (a0 a1 : List (List D)) : Option (Bool) := YaW.g k a0 a1 (fun z0 => some z0)
noncomputable def YaW.f {β : Type} (k : Nat) (a0 a1 : List (List D)) (K : Bool → Option β) : Option β := bd1 (YaW.t k a0 a1) K
noncomputable def YaW.e (k : Nat) : Zk := ent [.d .l, .d .l] [1] [.b] [4] false (YaW.t k)
noncomputable def YaW.p (k : Nat) : Pro := ⟨Tryz.prog, [(207, Yan.e k), (210, Y5.e k), (212, Yt.e k)], Zn [] false [], k⟩
theorem YaW.ok (k : Nat) : Za Tryz.prog 148 (YaW.e k) := Zh (YaW.p k) mix tyok Tryz.func148 ⟨Yan.ok k, Y5.ok k, Yt.ok k⟩ (by kernel_rfl) (fun a0 a1 => by show _ = _; kernel_rfl)
noncomputable def YaA.g {β : Type} (k : Nat) (a0 : ByteArray) (bT : Int) (f0_1 f0_2 f0_3 : List (List D)) (K : Bool → Option β) : Option β :=
  Y4.f k f0_2 a0 (fun y1 => K (!y1))
noncomputable def YaA.t (k : Nat) (a0 : ByteArray) (bT : Int) (f0_1 f0_2 f0_3 : List (List D)) : Option (Bool) := YaA.g k a0 bT f0_1 f0_2 f0_3 (fun z0 => some z0)
noncomputable def YaA.f {β : Type} (k : Nat) (a0 : ByteArray) (bT : Int) (f0_1 f0_2 f0_3 : List (List D)) (K : Bool → Option β) : Option β := bd1 (YaA.t k a0 bT f0_1 f0_2 f0_3) K
noncomputable def YaA.e (k : Nat) : Zk := ent [.d .s, .ip [.n, .l, .l, .l]] [1] [.b] [4] false (YaA.t k)
noncomputable def YaA.p (k : Nat) : Pro := ⟨Tryz.prog, [(151, Y4.e k)], Zn [] false [], k⟩
theorem YaA.ok (k : Nat) : Za Tryz.prog 150 (YaA.e k) := Zh (YaA.p k) mix tyok Tryz.func150 (Y4.ok k) (by kernel_rfl) (fun a0 bT f0_1 f0_2 f0_3 => by show _ = _; kernel_rfl)
noncomputable def Yg.l0 {β : Type} (k : Nat) (aA : List (List D)) (aB : Int) (aF aH aI : List (List D)) (aJ : Int) (K L0 : Int → Option β) (v : Int) : Option β :=
  match v with
  | aL => bif (decide ((aL : Int) < aJ)) then (atR aA aL [.s] fun x9 => (YaA.f k x9 aB aF aH aI (fun y10 => bif y10 then (K aL) else (L0 (IntKind.wrap .i64 (aL + 1)))))) else (K (-1))
noncomputable def Yg.m {β : Type} (k : Nat) (a0 : List (List D)) (a1_0_0 : Int) (a1_0_1 a1_0_2 a1_0_3 : List (List D)) (K : Int → Option β) (F : ((List (List D)) → Int → (List (List D)) → (List (List D)) → (List (List D)) → Int → Int → Option β)) : Option β :=
  F a0 a1_0_0 a1_0_1 a1_0_2 a1_0_3 (a0.length : Int) (0)
noncomputable def Yg.g {β : Type} (k : Nat) (a0 : List (List D)) (a1_0_0 : Int) (a1_0_1 a1_0_2 a1_0_3 : List (List D)) (K : Int → Option β) : Option β :=
  Zo (Yg.l0 k a0 a1_0_0 a1_0_1 a1_0_2 a1_0_3 (a0.length : Int) K) k (0)
noncomputable def Yg.t (k : Nat) (a0 : List (List D)) (a1_0_0 : Int) (a1_0_1 a1_0_2 a1_0_3 : List (List D)) : Option (Int) := Yg.g k a0 a1_0_0 a1_0_1 a1_0_2 a1_0_3 (fun z0 => some z0)
noncomputable def Yg.f {β : Type} (k : Nat) (a0 : List (List D)) (a1_0_0 : Int) (a1_0_1 a1_0_2 a1_0_3 : List (List D)) (K : Int → Option β) : Option β := bd1 (Yg.t k a0 a1_0_0 a1_0_1 a1_0_2 a1_0_3) K
noncomputable def Yg.e (k : Nat) : Zk := ent [.d .l, .fn 150 [[.n, .l, .l, .l]]] [1] [.n] [3] false (Yg.t k)
noncomputable def Yg.p (k : Nat) : Pro := ⟨Tryz.prog, [(150, YaA.e k)], Zn [(2, kp [0, 1, 7, 8])] false [], k⟩
noncomputable def Yg.d (k : Nat) (a0 : List (List D)) (a1_0_0 : Int) (a1_0_1 a1_0_2 a1_0_3 : List (List D)) : Ex → St → Option (Int) := (Yg.p k).fin Tryz.f215 [.d (.sl a0), .d (.fn 150 [[.int .i64 a1_0_0, .sl a1_0_1, .sl a1_0_2, .sl a1_0_3]])] [1] [.n]
noncomputable def Yg.s0 (aA : List (List D)) (aB : Int) (aF aH aI : List (List D)) (aJ v : Int) : St :=
  match v with
  | aL => ZX 19 [(0, .d false (.sl aA)), (1, .d false (.fn 150 [[.int .i64 aB, .sl aF, .sl aH, .sl aI]])), (7, .d true (.int .i64 aJ)), (8, .d true (.int .i64 aL))] []
noncomputable def Yg.r0 (k : Nat) (a0 : List (List D)) (a1_0_0 : Int) (a1_0_1 a1_0_2 a1_0_3 aA : List (List D)) (aB : Int) (aF aH aI : List (List D)) (aJ : Int) (n : Nat) (v : Int) : Option (Int) := (Yg.p k).lp (Zt Tryz.f215) 2 [1, 0, 1, 0] (Yg.d k a0 a1_0_0 a1_0_1 a1_0_2 a1_0_3) n (Yg.s0 aA aB aF aH aI aJ v)
theorem Yg.l0_eq (k : Nat) (a0 : List (List D)) (a1_0_0 : Int) (a1_0_1 a1_0_2 a1_0_3 aA : List (List D)) (aB : Int) (aF aH aI : List (List D)) (aJ : Int) : ∀ n v, Yg.r0 k a0 a1_0_0 a1_0_1 a1_0_2 a1_0_3 aA aB aF aH aI aJ n v = Zo (Yg.l0 k aA aB aF aH aI aJ (fun z0 => some z0)) n v :=
  Zm (Yg.s0 aA aB aF aH aI aJ) _ fun L0 v => by kernel_rfl
theorem Yg.ok (k : Nat) : Za Tryz.prog 215 (Yg.e k) := Zh (Yg.p k) mix tyok Tryz.func215 (YaA.ok k) (by kernel_rfl) (fun a0 a1_0_0 a1_0_1 a1_0_2 a1_0_3 => Eq.trans (b := Yg.m k a0 a1_0_0 a1_0_1 a1_0_2 a1_0_3 (fun z0 => some z0) (fun aA aB aF aH aI aJ => Yg.r0 k a0 a1_0_0 a1_0_1 a1_0_2 a1_0_3 aA aB aF aH aI aJ k)) (by kernel_rfl) (congrArg (Yg.m k a0 a1_0_0 a1_0_1 a1_0_2 a1_0_3 (fun z0 => some z0)) (funext fun aA => funext fun aB => funext fun aF => funext fun aH => funext fun aI => funext fun aJ => funext fun v => Yg.l0_eq k a0 a1_0_0 a1_0_1 a1_0_2 a1_0_3 aA aB aF aH aI aJ k v)))
noncomputable def Yw.g {β : Type} (k : Nat) (a0 : List (List D)) (a1_0_0 : Int) (a1_0_1 a1_0_2 a1_0_3 : List (List D)) (K : Bool → Option β) : Option β :=
  Yg.f k a0 a1_0_0 a1_0_1 a1_0_2 a1_0_3 (fun y11 => K (decide ((y11 : Int) ≥ 0)))
noncomputable def Yw.t (k : Nat) (a0 : List (List D)) (a1_0_0 : Int) (a1_0_1 a1_0_2 a1_0_3 : List (List D)) : Option (Bool) := Yw.g k a0 a1_0_0 a1_0_1 a1_0_2 a1_0_3 (fun z0 => some z0)
noncomputable def Yw.f {β : Type} (k : Nat) (a0 : List (List D)) (a1_0_0 : Int) (a1_0_1 a1_0_2 a1_0_3 : List (List D)) (K : Bool → Option β) : Option β := bd1 (Yw.t k a0 a1_0_0 a1_0_1 a1_0_2 a1_0_3) K
noncomputable def Yw.e (k : Nat) : Zk := ent [.d .l, .fn 150 [[.n, .l, .l, .l]]] [1] [.b] [4] false (Yw.t k)
noncomputable def Yw.p (k : Nat) : Pro := ⟨Tryz.prog, [(215, Yg.e k)], Zn [] false [], k⟩
theorem Yw.ok (k : Nat) : Za Tryz.prog 149 (Yw.e k) := Zh (Yw.p k) mix tyok Tryz.func149 (Yg.ok k) (by kernel_rfl) (fun a0 a1_0_0 a1_0_1 a1_0_2 a1_0_3 => by show _ = _; kernel_rfl)
noncomputable def YaB.g {β : Type} (k : Nat) (aD : Int) (aC aE aG : List (List D)) (aR : ByteArray) (aN aU : List (List D)) (bD : Int) (K : Bool → Option β) : Option β :=
  Yak.f k aD aC aE aG (fun y1 => bif y1 then (Yaz.f k aR aN aU bD (fun y2 => bif y2 then (YaW.f k aC aN (fun y33 => bif y33 then (Yw.f k aU aD aC aE aG (fun y34 => K (!y34))) else (K false))) else (K false))) else (K false))
noncomputable def YaB.t (k : Nat) (aD : Int) (aC aE aG : List (List D)) (aR : ByteArray) (aN aU : List (List D)) (bD : Int) : Option (Bool) := YaB.g k aD aC aE aG aR aN aU bD (fun z0 => some z0)
noncomputable def YaB.f {β : Type} (k : Nat) (aD : Int) (aC aE aG : List (List D)) (aR : ByteArray) (aN aU : List (List D)) (bD : Int) (K : Bool → Option β) : Option β := bd1 (YaB.t k aD aC aE aG aR aN aU bD) K
noncomputable def YaB.e (k : Nat) : Zk := ent [.agg [.n, .l, .l, .l], .agg [.s, .l, .l, .n]] [1] [.b] [4] false (YaB.t k)
noncomputable def YaB.p (k : Nat) : Pro := ⟨Tryz.prog, [(141, Yak.e k), (144, Yaz.e k), (148, YaW.e k), (149, Yw.e k)], Zn [] false [], k⟩
theorem YaB.ok (k : Nat) : Za Tryz.prog 70 (YaB.e k) := Zh (YaB.p k) mix tyok Tryz.func70 ⟨Yak.ok k, Yaz.ok k, YaW.ok k, Yw.ok k⟩ (by kernel_rfl) (fun aD aC aE aG aR aN aU bD => by show _ = _; kernel_rfl)
noncomputable def Yab.l0 {β : Type} (k : Nat) (aA : ByteArray) (aB : List (List D)) (aF : Int) (K L0 : Int → Option β) (v : Int) : Option β :=
  match v with
  | aH => bif (decide ((aH : Int) < aF)) then (atR aB aH [.s, .n] fun x11 x14 => (bif (Zae x11 aA) then (K x14) else (L0 (IntKind.wrap .i64 (aH + 1))))) else (K 1)
noncomputable def Yab.m {β : Type} (k : Nat) (aD : Int) (aC aE aG : List (List D)) (a1 : ByteArray) (K : Int → Option β) (F : (ByteArray → (List (List D)) → Int → Int → Option β)) : Option β :=
  F a1 aG (aG.length : Int) (0)
noncomputable def Yab.g {β : Type} (k : Nat) (aD : Int) (aC aE aG : List (List D)) (a1 : ByteArray) (K : Int → Option β) : Option β :=
  Zo (Yab.l0 k a1 aG (aG.length : Int) K) k (0)
noncomputable def Yab.t (k : Nat) (aD : Int) (aC aE aG : List (List D)) (a1 : ByteArray) : Option (Int) := Yab.g k aD aC aE aG a1 (fun z0 => some z0)
noncomputable def Yab.f {β : Type} (k : Nat) (aD : Int) (aC aE aG : List (List D)) (a1 : ByteArray) (K : Int → Option β) : Option β := bd1 (Yab.t k aD aC aE aG a1) K
noncomputable def Yab.e (k : Nat) : Zk := ent [.agg [.n, .l, .l, .l], .d .s] [1] [.n] [3] false (Yab.t k)
noncomputable def Yab.p (k : Nat) : Pro := ⟨Tryz.prog, [], Zn [(2, kp [1, 8, 9, 10])] false [], k⟩
noncomputable def Yab.d (k : Nat) (aD : Int) (aC aE aG : List (List D)) (a1 : ByteArray) : Ex → St → Option (Int) := (Yab.p k).fin Tryz.f71 [.agg [.int .i64 aD, .sl aC, .sl aE, .sl aG], .d (.str a1)] [1] [.n]
noncomputable def Yab.s0 (aA : ByteArray) (aB : List (List D)) (aF v : Int) : St :=
  match v with
  | aH => ZX 21 [(1, .d false (.str aA)), (8, .d false (.sl aB)), (9, .d true (.int .i64 aF)), (10, .d true (.int .i64 aH))] []
noncomputable def Yab.r0 (k : Nat) (aD : Int) (aC aE aG : List (List D)) (a1 aA : ByteArray) (aB : List (List D)) (aF : Int) (n : Nat) (v : Int) : Option (Int) := (Yab.p k).lp (Zt Tryz.f71) 2 [1, 0, 1, 0] (Yab.d k aD aC aE aG a1) n (Yab.s0 aA aB aF v)
theorem Yab.l0_eq (k : Nat) (aD : Int) (aC aE aG : List (List D)) (a1 aA : ByteArray) (aB : List (List D)) (aF : Int) : ∀ n v, Yab.r0 k aD aC aE aG a1 aA aB aF n v = Zo (Yab.l0 k aA aB aF (fun z0 => some z0)) n v :=
  Zm (Yab.s0 aA aB aF) _ fun L0 v => by kernel_rfl
theorem Yab.ok (k : Nat) : Za Tryz.prog 71 (Yab.e k) := Zh (Yab.p k) mix tyok Tryz.func71 trivial (by kernel_rfl) (fun aD aC aE aG a1 => Eq.trans (b := Yab.m k aD aC aE aG a1 (fun z0 => some z0) (fun aA aB aF => Yab.r0 k aD aC aE aG a1 aA aB aF k)) (by kernel_rfl) (congrArg (Yab.m k aD aC aE aG a1 (fun z0 => some z0)) (funext fun aA => funext fun aB => funext fun aF => funext fun v => Yab.l0_eq k aD aC aE aG a1 aA aB aF k v)))
noncomputable def Yaw.g {β : Type} (k : Nat) (a0 : Int) (K : Bool → Option β) : Option β :=
  Yam.f k a0 0 1000 (fun y1 => K (!y1))
noncomputable def Yaw.t (k : Nat) (a0 : Int) : Option (Bool) := Yaw.g k a0 (fun z0 => some z0)
noncomputable def Yaw.f {β : Type} (k : Nat) (a0 : Int) (K : Bool → Option β) : Option β := bd1 (Yaw.t k a0) K
noncomputable def Yaw.e (k : Nat) : Zk := ent [.d .n] [1] [.b] [4] false (Yaw.t k)
noncomputable def Yaw.p (k : Nat) : Pro := ⟨Tryz.prog, [(169, Yam.e k)], Zn [] false [], k⟩
theorem Yaw.ok (k : Nat) : Za Tryz.prog 217 (Yaw.e k) := Zh (Yaw.p k) mix tyok Tryz.func217 (Yam.ok k) (by kernel_rfl) (fun a0 => by show _ = _; kernel_rfl)
noncomputable def Yi.l0 {β : Type} (k : Nat) (aA : List (List D)) (aB : Int) (K L0 : Int → Option β) (v : Int) : Option β :=
  match v with
  | aF => bif (decide ((aF : Int) < aB)) then (atR aA aF [.n] fun x9 => (Yaw.f k x9 (fun y10 => bif y10 then (K aF) else (L0 (IntKind.wrap .i64 (aF + 1)))))) else (K (-1))
noncomputable def Yi.m {β : Type} (k : Nat) (a0 : List (List D)) (K : Int → Option β) (F : ((List (List D)) → Int → Int → Option β)) : Option β :=
  F a0 (a0.length : Int) (0)
noncomputable def Yi.g {β : Type} (k : Nat) (a0 : List (List D)) (K : Int → Option β) : Option β :=
  Zo (Yi.l0 k a0 (a0.length : Int) K) k (0)
noncomputable def Yi.t (k : Nat) (a0 : List (List D)) : Option (Int) := Yi.g k a0 (fun z0 => some z0)
noncomputable def Yi.f {β : Type} (k : Nat) (a0 : List (List D)) (K : Int → Option β) : Option β := bd1 (Yi.t k a0) K
noncomputable def Yi.e (k : Nat) : Zk := ent [.d .l, .fn 217 []] [1] [.n] [3] false (Yi.t k)
noncomputable def Yi.p (k : Nat) : Pro := ⟨Tryz.prog, [(217, Yaw.e k)], Zn [(2, kp [0, 1, 7, 8])] false [], k⟩
noncomputable def Yi.d (k : Nat) (a0 : List (List D)) : Ex → St → Option (Int) := (Yi.p k).fin Tryz.f211 [.d (.sl a0), .d (.fn 217 [])] [1] [.n]
noncomputable def Yi.s0 (aA : List (List D)) (aB v : Int) : St :=
  match v with
  | aF => ZX 19 [(0, .d false (.sl aA)), (1, .d false (.fn 217 [])), (7, .d true (.int .i64 aB)), (8, .d true (.int .i64 aF))] []
noncomputable def Yi.r0 (k : Nat) (a0 aA : List (List D)) (aB : Int) (n : Nat) (v : Int) : Option (Int) := (Yi.p k).lp (Zt Tryz.f211) 2 [1, 0, 1, 0] (Yi.d k a0) n (Yi.s0 aA aB v)
theorem Yi.l0_eq (k : Nat) (a0 aA : List (List D)) (aB : Int) : ∀ n v, Yi.r0 k a0 aA aB n v = Zo (Yi.l0 k aA aB (fun z0 => some z0)) n v :=
  Zm (Yi.s0 aA aB) _ fun L0 v => by kernel_rfl
theorem Yi.ok (k : Nat) : Za Tryz.prog 211 (Yi.e k) := Zh (Yi.p k) mix tyok Tryz.func211 (Yaw.ok k) (by kernel_rfl) (fun a0 => Eq.trans (b := Yi.m k a0 (fun z0 => some z0) (fun aA aB => Yi.r0 k a0 aA aB k)) (by kernel_rfl) (congrArg (Yi.m k a0 (fun z0 => some z0)) (funext fun aA => funext fun aB => funext fun v => Yi.l0_eq k a0 aA aB k v)))
noncomputable def YA.g {β : Type} (k : Nat) (a0 : List (List D)) (K : Bool → Option β) : Option β :=
  Yi.f k a0 (fun y11 => K (decide ((y11 : Int) ≥ 0)))
noncomputable def YA.t (k : Nat) (a0 : List (List D)) : Option (Bool) := YA.g k a0 (fun z0 => some z0)
noncomputable def YA.f {β : Type} (k : Nat) (a0 : List (List D)) (K : Bool → Option β) : Option β := bd1 (YA.t k a0) K
noncomputable def YA.e (k : Nat) : Zk := ent [.d .l, .fn 217 []] [1] [.b] [4] false (YA.t k)
noncomputable def YA.p (k : Nat) : Pro := ⟨Tryz.prog, [(211, Yi.e k)], Zn [] false [], k⟩
theorem YA.ok (k : Nat) : Za Tryz.prog 145 (YA.e k) := Zh (YA.p k) mix tyok Tryz.func145 (Yi.ok k) (by kernel_rfl) (fun a0 => by show _ = _; kernel_rfl)
noncomputable def Yav.g {β : Type} (k : Nat) (a0 : Int) (K : Bool → Option β) : Option β :=
  Yam.f k a0 0 10000 (fun y1 => K (!y1))
noncomputable def Yav.t (k : Nat) (a0 : Int) : Option (Bool) := Yav.g k a0 (fun z0 => some z0)
noncomputable def Yav.f {β : Type} (k : Nat) (a0 : Int) (K : Bool → Option β) : Option β := bd1 (Yav.t k a0) K
noncomputable def Yav.e (k : Nat) : Zk := ent [.d .n] [1] [.b] [4] false (Yav.t k)
noncomputable def Yav.p (k : Nat) : Pro := ⟨Tryz.prog, [(169, Yam.e k)], Zn [] false [], k⟩
theorem Yav.ok (k : Nat) : Za Tryz.prog 218 (Yav.e k) := Zh (Yav.p k) mix tyok Tryz.func218 (Yam.ok k) (by kernel_rfl) (fun a0 => by show _ = _; kernel_rfl)
noncomputable def Yh.l0 {β : Type} (k : Nat) (aA : List (List D)) (aB : Int) (K L0 : Int → Option β) (v : Int) : Option β :=
  match v with
  | aF => bif (decide ((aF : Int) < aB)) then (atR aA aF [.n] fun x9 => (Yav.f k x9 (fun y10 => bif y10 then (K aF) else (L0 (IntKind.wrap .i64 (aF + 1)))))) else (K (-1))
noncomputable def Yh.m {β : Type} (k : Nat) (a0 : List (List D)) (K : Int → Option β) (F : ((List (List D)) → Int → Int → Option β)) : Option β :=
  F a0 (a0.length : Int) (0)
noncomputable def Yh.g {β : Type} (k : Nat) (a0 : List (List D)) (K : Int → Option β) : Option β :=
  Zo (Yh.l0 k a0 (a0.length : Int) K) k (0)
noncomputable def Yh.t (k : Nat) (a0 : List (List D)) : Option (Int) := Yh.g k a0 (fun z0 => some z0)
noncomputable def Yh.f {β : Type} (k : Nat) (a0 : List (List D)) (K : Int → Option β) : Option β := bd1 (Yh.t k a0) K
noncomputable def Yh.e (k : Nat) : Zk := ent [.d .l, .fn 218 []] [1] [.n] [3] false (Yh.t k)
noncomputable def Yh.p (k : Nat) : Pro := ⟨Tryz.prog, [(218, Yav.e k)], Zn [(2, kp [0, 1, 7, 8])] false [], k⟩
noncomputable def Yh.d (k : Nat) (a0 : List (List D)) : Ex → St → Option (Int) := (Yh.p k).fin Tryz.f211 [.d (.sl a0), .d (.fn 218 [])] [1] [.n]
noncomputable def Yh.s0 (aA : List (List D)) (aB v : Int) : St :=
  match v with
  | aF => ZX 19 [(0, .d false (.sl aA)), (1, .d false (.fn 218 [])), (7, .d true (.int .i64 aB)), (8, .d true (.int .i64 aF))] []
noncomputable def Yh.r0 (k : Nat) (a0 aA : List (List D)) (aB : Int) (n : Nat) (v : Int) : Option (Int) := (Yh.p k).lp (Zt Tryz.f211) 2 [1, 0, 1, 0] (Yh.d k a0) n (Yh.s0 aA aB v)
theorem Yh.l0_eq (k : Nat) (a0 aA : List (List D)) (aB : Int) : ∀ n v, Yh.r0 k a0 aA aB n v = Zo (Yh.l0 k aA aB (fun z0 => some z0)) n v :=
  Zm (Yh.s0 aA aB) _ fun L0 v => by kernel_rfl
theorem Yh.ok (k : Nat) : Za Tryz.prog 211 (Yh.e k) := Zh (Yh.p k) mix tyok Tryz.func211 (Yav.ok k) (by kernel_rfl) (fun a0 => Eq.trans (b := Yh.m k a0 (fun z0 => some z0) (fun aA aB => Yh.r0 k a0 aA aB k)) (by kernel_rfl) (congrArg (Yh.m k a0 (fun z0 => some z0)) (funext fun aA => funext fun aB => funext fun v => Yh.l0_eq k a0 aA aB k v)))
noncomputable def Yz.g {β : Type} (k : Nat) (a0 : List (List D)) (K : Bool → Option β) : Option β :=
  Yh.f k a0 (fun y11 => K (decide ((y11 : Int) ≥ 0)))
noncomputable def Yz.t (k : Nat) (a0 : List (List D)) : Option (Bool) := Yz.g k a0 (fun z0 => some z0)
noncomputable def Yz.f {β : Type} (k : Nat) (a0 : List (List D)) (K : Bool → Option β) : Option β := bd1 (Yz.t k a0) K
noncomputable def Yz.e (k : Nat) : Zk := ent [.d .l, .fn 218 []] [1] [.b] [4] false (Yz.t k)
noncomputable def Yz.p (k : Nat) : Pro := ⟨Tryz.prog, [(211, Yh.e k)], Zn [] false [], k⟩
theorem Yz.ok (k : Nat) : Za Tryz.prog 145 (Yz.e k) := Zh (Yz.p k) mix tyok Tryz.func145 (Yh.ok k) (by kernel_rfl) (fun a0 => by show _ = _; kernel_rfl)
noncomputable def YaJ.g {β : Type} (k : Nat) (a0 : Int) (a1 a2 : List (List D)) (K : Bool → Option β) : Option β :=
  Yam.f k a0 0 10000 (fun y1 => bif y1 then (bif (decide (((a1.length : Int) : Int) ≤ 64)) then (bif (((a2.length : Int) : Int) == (a1.length : Int)) then (YA.f k a1 (fun y12 => bif (!y12) then (Yz.f k a2 (fun y13 => K (!y13))) else (K false))) else (K false)) else (K false)) else (K false))
noncomputable def YaJ.t (k : Nat) (a0 : Int) (a1 a2 : List (List D)) : Option (Bool) := YaJ.g k a0 a1 a2 (fun z0 => some z0)
noncomputable def YaJ.f {β : Type} (k : Nat) (a0 : Int) (a1 a2 : List (List D)) (K : Bool → Option β) : Option β := bd1 (YaJ.t k a0 a1 a2) K
noncomputable def YaJ.e (k : Nat) : Zk := ent [.d .n, .d .l, .d .l] [1] [.b] [4] false (YaJ.t k)
noncomputable def YaJ.p (k : Nat) : Pro := ⟨Tryz.prog, [(169, Yam.e k), (145, (YA.e k).alt 217 (Yz.e k))], Zn [] false [], k⟩
theorem YaJ.ok (k : Nat) : Za Tryz.prog 152 (YaJ.e k) := Zh (YaJ.p k) mix tyok Tryz.func152 ⟨Yam.ok k, alt_ok (YA.ok k) (Yz.ok k)⟩ (by kernel_rfl) (fun a0 a1 a2 => by show _ = _; kernel_rfl)
noncomputable def Yaq.g {β : Type} (k : Nat) (a0 a1 bT : Int) (f1_0 f2_0 : List (List D)) (f3_0 : Int) (K : Int → Option β) : Option β :=
  atR f2_0 a1 [.n] fun x4 => (atR f1_0 x4 [.n] fun x8 => (Zc ((f3_0 : Int) ≠ 0) (atR f2_0 a0 [.n] fun x12 => (atR f1_0 x12 [.n] fun x16 => (Zc ((f3_0 : Int) ≠ 0) (K (IntKind.wrap .i64 ((Int.tmod (IntKind.wrap .i64 (bT * x8)) f3_0) - (Int.tmod (IntKind.wrap .i64 (bT * x16)) f3_0)))))))))
noncomputable def Yaq.t (k : Nat) (a0 a1 bT : Int) (f1_0 f2_0 : List (List D)) (f3_0 : Int) : Option (Int) := Yaq.g k a0 a1 bT f1_0 f2_0 f3_0 (fun z0 => some z0)
noncomputable def Yaq.f {β : Type} (k : Nat) (a0 a1 bT : Int) (f1_0 f2_0 : List (List D)) (f3_0 : Int) (K : Int → Option β) : Option β := bd1 (Yaq.t k a0 a1 bT f1_0 f2_0 f3_0) K
noncomputable def Yaq.e (k : Nat) : Zk := ent [.d .n, .d .n, .ip [.n], .ip [.l], .ip [.l], .ip [.n]] [1] [.n] [3] false (Yaq.t k)
noncomputable def Yaq.p (k : Nat) : Pro := ⟨Tryz.prog, [], Zn [] false [], k⟩
theorem Yaq.ok (k : Nat) : Za Tryz.prog 220 (Yaq.e k) := Zh (Yaq.p k) mix tyok Tryz.func220 trivial (by kernel_rfl) (fun a0 a1 bT f1_0 f2_0 f3_0 => by show _ = _; kernel_rfl)
noncomputable def Yc.l1 {β : Type} (k : Nat) (aW aM aQ : Int) (bC aP : List (List D)) (aZ bA : Int) (L0 : (Int × Int × Int × (List (List D)) × (List (List D)) × Int × Int × (List (List C))) → Option β) (K : (List (List C)) → Option β) (L1 : (Int × (List (List C))) → Option β) (v : Int × (List (List C))) : Option β :=
  match v with
  | (bF, v1_8) => let J1 := (L0 (aW, aM, aQ, bC, aP, aZ, IntKind.wrap .i64 (bA + 1), v1_8)); bif (decide ((bF : Int) > aW)) then (Zc ((0 : Int) ≤ bF ∧ bF < (v1_8.length : Int)) (ZaG v1_8 (Int.toNat bF) fun c70 => Zas (c70.drop 0) fun c71 r72 => cD c71 fun d73 => dInt .i64 d73 fun x74 => let J0 := ((0 : Int) ≤ (IntKind.wrap .i64 (bF - 1)) ∧ (IntKind.wrap .i64 (bF - 1)) < (v1_8.length : Int)); Zc J0 (ZaG v1_8 (Int.toNat (IntKind.wrap .i64 (bF - 1))) fun c75 => Zas (c75.drop 0) fun c76 r77 => cD c76 fun d78 => dInt .i64 d78 fun x79 => Yaq.f k x74 x79 aQ bC aP aZ (fun y80 => bif (decide ((y80 : Int) < 0)) then (Zc J0 (ZaG v1_8 (Int.toNat (IntKind.wrap .i64 (bF - 1))) fun c81 => Zas (c81.drop 0) fun c82 r83 => cD c82 fun d84 => dInt .i64 d84 fun x85 => Zc ((0 : Int) ≤ bF ∧ bF < (v1_8.length : Int)) (ZaG v1_8 (Int.toNat bF) fun c86 => Zas (c86.drop 0) fun c87 r88 => cD c87 fun d89 => dInt .i64 d89 fun x90 => let J2 := (v1_8.modify (Int.toNat bF) fun c => Zq c 0 [.d (.int .i64 x85)]); Zc ((0 : Int) ≤ bF ∧ bF < (v1_8.length : Int)) (Zc (Int.toNat bF < v1_8.length) (Zc ((0 : Int) ≤ (IntKind.wrap .i64 (bF - 1)) ∧ (IntKind.wrap .i64 (bF - 1)) < (J2.length : Int)) (Zc (Int.toNat (IntKind.wrap .i64 (bF - 1)) < J2.length) (L1 (IntKind.wrap .i64 (bF - 1), J2.modify (Int.toNat (IntKind.wrap .i64 (bF - 1))) fun c => Zq c 0 [.d (.int .i64 x90)])))))))) else J1)))) else J1
noncomputable def Yc.m0 {β : Type} (k : Nat) (K : (List (List C)) → Option β) (L0 : (Int × Int × Int × (List (List D)) × (List (List D)) × Int × Int × (List (List C))) → Option β) (v : Int × Int × Int × (List (List D)) × (List (List D)) × Int × Int × (List (List C))) (F : (Int → Int → Int → (List (List D)) → (List (List D)) → Int → Int → (Int × (List (List C))) → Option β)) : Option β :=
  match v with
  | (aA, aB, aF, aH, aI, aJ, aL, aT) => bif (decide ((aL : Int) < aB)) then (F aA aB aF aH aI aJ aL (aL, aT)) else (K aT)
noncomputable def Yc.l0 {β : Type} (k : Nat) (K : (List (List C)) → Option β) (L0 : (Int × Int × Int × (List (List D)) × (List (List D)) × Int × Int × (List (List C))) → Option β) (v : Int × Int × Int × (List (List D)) × (List (List D)) × Int × Int × (List (List C))) : Option β := Yc.m0 k K L0 v (fun aW aM aQ bC aP aZ bA => Zo (Yc.l1 k aW aM aQ bC aP aZ bA L0 K) k)
noncomputable def Yc.m {β : Type} (k : Nat) (a0 : List (List C)) (a1 a2 a3_0_0 : Int) (a3_1_0 a3_2_0 : List (List D)) (a3_3_0 : Int) (K : (List (List C)) → Option β) (F : ((Int × Int × Int × (List (List D)) × (List (List D)) × Int × Int × (List (List C))) → Option β)) : Option β :=
  F (a1, a2, a3_0_0, a3_1_0, a3_2_0, a3_3_0, IntKind.wrap .i64 (a1 + 1), a0)
noncomputable def Yc.g {β : Type} (k : Nat) (a0 : List (List C)) (a1 a2 a3_0_0 : Int) (a3_1_0 a3_2_0 : List (List D)) (a3_3_0 : Int) (K : (List (List C)) → Option β) : Option β :=
  Zo (Yc.l0 k K) k (a1, a2, a3_0_0, a3_1_0, a3_2_0, a3_3_0, IntKind.wrap .i64 (a1 + 1), a0)
noncomputable def Yc.t (k : Nat) (a0 : List (List C)) (a1 a2 a3_0_0 : Int) (a3_1_0 a3_2_0 : List (List D)) (a3_3_0 : Int) : Option ((List (List C))) := Yc.g k a0 a1 a2 a3_0_0 a3_1_0 a3_2_0 a3_3_0 (fun z0 => some z0)
noncomputable def Yc.f {β : Type} (k : Nat) (a0 : List (List C)) (a1 a2 a3_0_0 : Int) (a3_1_0 a3_2_0 : List (List D)) (a3_3_0 : Int) (K : (List (List C)) → Option β) : Option β := bd1 (Yc.t k a0 a1 a2 a3_0_0 a3_1_0 a3_2_0 a3_3_0) K
noncomputable def Yc.e (k : Nat) : Zk := ent [.own false 28 [.o], .d .n, .d .n, .fn 220 [[.n], [.l], [.l], [.n]]] [] [.o] [] false (Yc.t k)
noncomputable def Yc.p (k : Nat) : Pro := ⟨Tryz.prog, [(220, Yaq.e k)], Zn [(1, kp [0, 1, 2, 3, 8]), (4, kp [0, 1, 2, 3, 8, 9])] false [], k⟩
noncomputable def Yc.d (k : Nat) (a0 : List (List C)) (a1 a2 a3_0_0 : Int) (a3_1_0 a3_2_0 : List (List D)) (a3_3_0 : Int) : Ex → St → Option ((List (List C))) := (Yc.p k).fin Tryz.f275 [.own false [.own a0], .d (.int .i64 a1), .d (.int .i64 a2), .d (.fn 220 [[.int .i64 a3_0_0], [.sl a3_1_0], [.sl a3_2_0], [.int .i64 a3_3_0]])] [] [.o]
noncomputable def Yc.s0 (v : Int × Int × Int × (List (List D)) × (List (List D)) × Int × Int × (List (List C))) : St :=
  match v with
  | (aA, aB, aF, aH, aI, aJ, aL, aT) => ZX 53 [(0, .row 0), (1, .d false (.int .i64 aA)), (2, .d false (.int .i64 aB)), (3, .d false (.fn 220 [[.int .i64 aF], [.sl aH], [.sl aI], [.int .i64 aJ]])), (8, .d true (.int .i64 aL))] [.row (some 0) false 28 aT]
noncomputable def Yc.c0 (k : Nat) (a0 : List (List C)) (a1 a2 a3_0_0 : Int) (a3_1_0 a3_2_0 : List (List D)) (a3_3_0 : Int) : Ex → St → Option ((List (List C))) := (Yc.p k).ct (Zt Tryz.f275) [1, 0] (Yc.d k a0 a1 a2 a3_0_0 a3_1_0 a3_2_0 a3_3_0)
noncomputable def Yc.r0 (k : Nat) (a0 : List (List C)) (a1 a2 a3_0_0 : Int) (a3_1_0 a3_2_0 : List (List D)) (a3_3_0 : Int) (n : Nat) (v : Int × Int × Int × (List (List D)) × (List (List D)) × Int × Int × (List (List C))) : Option ((List (List C))) := (Yc.p k).lp (Zt Tryz.f275) 1 [1, 0] (Yc.d k a0 a1 a2 a3_0_0 a3_1_0 a3_2_0 a3_3_0) n (Yc.s0 v)
noncomputable def Yc.s1 (aW aM aQ : Int) (bC aP : List (List D)) (aZ bA : Int) (v : Int × (List (List C))) : St :=
  match v with
  | (bF, v1_8) => ZX 53 [(0, .row 0), (1, .d false (.int .i64 aW)), (2, .d false (.int .i64 aM)), (3, .d false (.fn 220 [[.int .i64 aQ], [.sl bC], [.sl aP], [.int .i64 aZ]])), (8, .d true (.int .i64 bA)), (9, .d true (.int .i64 bF))] [.row (some 0) false 28 v1_8]
noncomputable def Yc.r1 (k : Nat) (a0 : List (List C)) (a1 a2 a3_0_0 : Int) (a3_1_0 a3_2_0 : List (List D)) (a3_3_0 aW aM aQ : Int) (bC aP : List (List D)) (aZ bA : Int) (L0 : St → Option ((List (List C)))) (n : Nat) (v : Int × (List (List C))) : Option ((List (List C))) := (Yc.p k).lp (codeAt [1, 0, 0] (Zt Tryz.f275)) 4 [1, 0, 0, 1, 0] (backK ((Yc.p k).h.H 1) L0 (Yc.c0 k a0 a1 a2 a3_0_0 a3_1_0 a3_2_0 a3_3_0)) n (Yc.s1 aW aM aQ bC aP aZ bA v)
theorem Yc.l1_eq (k : Nat) (a0 : List (List C)) (a1 a2 a3_0_0 : Int) (a3_1_0 a3_2_0 : List (List D)) (a3_3_0 aW aM aQ : Int) (bC aP : List (List D)) (aZ bA : Int) (L0 : St → Option ((List (List C)))) : ∀ n v, Yc.r1 k a0 a1 a2 a3_0_0 a3_1_0 a3_2_0 a3_3_0 aW aM aQ bC aP aZ bA L0 n v = Zo (Yc.l1 k aW aM aQ bC aP aZ bA (fun v => L0 (Yc.s0 v)) (fun z0 => some z0)) n v :=
  Zm (Yc.s1 aW aM aQ bC aP aZ bA) _ fun L1 v => by obtain ⟨bF, v1_8⟩ := v; kernel_rfl
theorem Yc.l0_eq (k : Nat) (a0 : List (List C)) (a1 a2 a3_0_0 : Int) (a3_1_0 a3_2_0 : List (List D)) (a3_3_0 : Int) : ∀ n v, Yc.r0 k a0 a1 a2 a3_0_0 a3_1_0 a3_2_0 a3_3_0 n v = Zo (Yc.l0 k (fun z0 => some z0)) n v :=
  Zm (Yc.s0) _ fun L0 v => by obtain ⟨aA, aB, aF, aH, aI, aJ, aL, aT⟩ := v; exact Eq.trans (b := Yc.m0 k (fun z0 => some z0) (fun v => L0 (Yc.s0 v)) (aA, aB, aF, aH, aI, aJ, aL, aT) (fun aW aM aQ bC aP aZ bA => Yc.r1 k a0 a1 a2 a3_0_0 a3_1_0 a3_2_0 a3_3_0 aW aM aQ bC aP aZ bA L0 k)) (by kernel_rfl) (congrArg (Yc.m0 k (fun z0 => some z0) (fun v => L0 (Yc.s0 v)) (aA, aB, aF, aH, aI, aJ, aL, aT)) (funext fun aW => funext fun aM => funext fun aQ => funext fun bC => funext fun aP => funext fun aZ => funext fun bA => funext fun v => Yc.l1_eq k a0 a1 a2 a3_0_0 a3_1_0 a3_2_0 a3_3_0 aW aM aQ bC aP aZ bA L0 k v))
theorem Yc.ok (k : Nat) : Za Tryz.prog 275 (Yc.e k) := Zh (Yc.p k) mix tyok Tryz.func275 (Yaq.ok k) (by kernel_rfl) (fun a0 a1 a2 a3_0_0 a3_1_0 a3_2_0 a3_3_0 => Eq.trans (b := Yc.m k a0 a1 a2 a3_0_0 a3_1_0 a3_2_0 a3_3_0 (fun z0 => some z0) (Yc.r0 k a0 a1 a2 a3_0_0 a3_1_0 a3_2_0 a3_3_0 k)) (by kernel_rfl) (congrArg (Yc.m k a0 a1 a2 a3_0_0 a3_1_0 a3_2_0 a3_3_0 (fun z0 => some z0)) (funext fun v => Yc.l0_eq k a0 a1 a2 a3_0_0 a3_1_0 a3_2_0 a3_3_0 k v)))
noncomputable def Yk.l0 {β : Type} (k : Nat) (aA aB aF : Int) (K : (List (List C)) → Option β) (L0 : (Int × (List (List C))) → Option β) (v : Int × (List (List C))) : Option β :=
  match v with
  | (aH, aI) => bif (decide ((aH : Int) < aF)) then (Zc ((0 : Int) ≤ (IntKind.wrap .i64 (aB + aH)) ∧ (IntKind.wrap .i64 (aB + aH)) < (aI.length : Int)) (ZaG aI (Int.toNat (IntKind.wrap .i64 (aB + aH))) fun c11 => Zas (c11.drop 0) fun c12 r13 => cD c12 fun d14 => dInt .i64 d14 fun x15 => let J0 := ((0 : Int) ≤ (IntKind.wrap .i64 (aA + aH)) ∧ (IntKind.wrap .i64 (aA + aH)) < (aI.length : Int)); Zc J0 (ZaG aI (Int.toNat (IntKind.wrap .i64 (aA + aH))) fun c16 => Zas (c16.drop 0) fun c17 r18 => cD c17 fun d19 => dInt .i64 d19 fun x20 => let J1 := (aI.modify (Int.toNat (IntKind.wrap .i64 (aA + aH))) fun c => Zq c 0 [.d (.int .i64 x15)]); Zc J0 (Zc (Int.toNat (IntKind.wrap .i64 (aA + aH)) < aI.length) (Zc ((0 : Int) ≤ (IntKind.wrap .i64 (aB + aH)) ∧ (IntKind.wrap .i64 (aB + aH)) < (J1.length : Int)) (Zc (Int.toNat (IntKind.wrap .i64 (aB + aH)) < J1.length) (L0 (IntKind.wrap .i64 (aH + 1), J1.modify (Int.toNat (IntKind.wrap .i64 (aB + aH))) fun c => Zq c 0 [.d (.int .i64 x20)])))))))) else (K aI)
noncomputable def Yk.m {β : Type} (k : Nat) (a0 : List (List C)) (a1 a2 a3 a4_0_0 : Int) (a4_1_0 a4_2_0 : List (List D)) (a4_3_0 : Int) (K : (List (List C)) → Option β) (F : (Int → Int → Int → (Int × (List (List C))) → Option β)) : Option β :=
  F a1 a2 a3 (0, a0)
noncomputable def Yk.g {β : Type} (k : Nat) (a0 : List (List C)) (a1 a2 a3 a4_0_0 : Int) (a4_1_0 a4_2_0 : List (List D)) (a4_3_0 : Int) (K : (List (List C)) → Option β) : Option β :=
  Zo (Yk.l0 k a1 a2 a3 K) k (0, a0)
noncomputable def Yk.t (k : Nat) (a0 : List (List C)) (a1 a2 a3 a4_0_0 : Int) (a4_1_0 a4_2_0 : List (List D)) (a4_3_0 : Int) : Option ((List (List C))) := Yk.g k a0 a1 a2 a3 a4_0_0 a4_1_0 a4_2_0 a4_3_0 (fun z0 => some z0)
noncomputable def Yk.f {β : Type} (k : Nat) (a0 : List (List C)) (a1 a2 a3 a4_0_0 : Int) (a4_1_0 a4_2_0 : List (List D)) (a4_3_0 : Int) (K : (List (List C)) → Option β) : Option β := bd1 (Yk.t k a0 a1 a2 a3 a4_0_0 a4_1_0 a4_2_0 a4_3_0) K
noncomputable def Yk.e (k : Nat) : Zk := ent [.own false 28 [.o], .d .n, .d .n, .d .n, .fn 220 [[.n], [.l], [.l], [.n]]] [] [.o] [] false (Yk.t k)
noncomputable def Yk.p (k : Nat) : Pro := ⟨Tryz.prog, [], Zn [(1, kp [0, 1, 2, 3, 10])] false [], k⟩
noncomputable def Yk.d (k : Nat) (a0 : List (List C)) (a1 a2 a3 a4_0_0 : Int) (a4_1_0 a4_2_0 : List (List D)) (a4_3_0 : Int) : Ex → St → Option ((List (List C))) := (Yk.p k).fin Tryz.f294 [.own false [.own a0], .d (.int .i64 a1), .d (.int .i64 a2), .d (.int .i64 a3), .d (.fn 220 [[.int .i64 a4_0_0], [.sl a4_1_0], [.sl a4_2_0], [.int .i64 a4_3_0]])] [] [.o]
noncomputable def Yk.s0 (aA aB aF : Int) (v : Int × (List (List C))) : St :=
  match v with
  | (aH, aI) => ZX 38 [(0, .row 0), (1, .d false (.int .i64 aA)), (2, .d false (.int .i64 aB)), (3, .d false (.int .i64 aF)), (10, .d true (.int .i64 aH))] [.row (some 0) false 28 aI]
noncomputable def Yk.r0 (k : Nat) (a0 : List (List C)) (a1 a2 a3 a4_0_0 : Int) (a4_1_0 a4_2_0 : List (List D)) (a4_3_0 aA aB aF : Int) (n : Nat) (v : Int × (List (List C))) : Option ((List (List C))) := (Yk.p k).lp (Zt Tryz.f294) 1 [1, 0] (Yk.d k a0 a1 a2 a3 a4_0_0 a4_1_0 a4_2_0 a4_3_0) n (Yk.s0 aA aB aF v)
theorem Yk.l0_eq (k : Nat) (a0 : List (List C)) (a1 a2 a3 a4_0_0 : Int) (a4_1_0 a4_2_0 : List (List D)) (a4_3_0 aA aB aF : Int) : ∀ n v, Yk.r0 k a0 a1 a2 a3 a4_0_0 a4_1_0 a4_2_0 a4_3_0 aA aB aF n v = Zo (Yk.l0 k aA aB aF (fun z0 => some z0)) n v :=
  Zm (Yk.s0 aA aB aF) _ fun L0 v => by obtain ⟨aH, aI⟩ := v; kernel_rfl
theorem Yk.ok (k : Nat) : Za Tryz.prog 294 (Yk.e k) := Zh (Yk.p k) mix tyok Tryz.func294 trivial (by kernel_rfl) (fun a0 a1 a2 a3 a4_0_0 a4_1_0 a4_2_0 a4_3_0 => Eq.trans (b := Yk.m k a0 a1 a2 a3 a4_0_0 a4_1_0 a4_2_0 a4_3_0 (fun z0 => some z0) (fun aA aB aF => Yk.r0 k a0 a1 a2 a3 a4_0_0 a4_1_0 a4_2_0 a4_3_0 aA aB aF k)) (by kernel_rfl) (congrArg (Yk.m k a0 a1 a2 a3 a4_0_0 a4_1_0 a4_2_0 a4_3_0 (fun z0 => some z0)) (funext fun aA => funext fun aB => funext fun aF => funext fun v => Yk.l0_eq k a0 a1 a2 a3 a4_0_0 a4_1_0 a4_2_0 a4_3_0 aA aB aF k v)))
noncomputable def Yl.l0 {β : Type} (k : Nat) (aA aB : Int) (aF aH : List (List D)) (aI : Int) (K : (List (List C)) → Option β) (L0 : (Int × Int × (List (List C))) → Option β) (v : Int × Int × (List (List C))) : Option β :=
  match v with
  | (aJ, aL, aT) => bif ((aJ : Int) != aL) then (bif (decide ((aJ : Int) > aL)) then (Yk.f k aT (IntKind.wrap .i64 (aA - aJ)) aA aL aB aF aH aI (fun y24 => Zc (y24.length = aT.length) (L0 (IntKind.wrap .i64 (aJ - aL), aL, y24)))) else (Yk.f k aT (IntKind.wrap .i64 (aA - aJ)) (IntKind.wrap .i64 ((IntKind.wrap .i64 (aA + aL)) - aJ)) aJ aB aF aH aI (fun y25 => Zc (y25.length = aT.length) (L0 (aJ, IntKind.wrap .i64 (aL - aJ), y25))))) else (Yk.f k aT (IntKind.wrap .i64 (aA - aJ)) aA aJ aB aF aH aI (fun y26 => Zc (y26.length = aT.length) (K y26)))
noncomputable def Yl.m {β : Type} (k : Nat) (a0 : List (List C)) (a1 a2 a3 a4_0_0 : Int) (a4_1_0 a4_2_0 : List (List D)) (a4_3_0 : Int) (K : (List (List C)) → Option β) (F : (Int → Int → (List (List D)) → (List (List D)) → Int → (Int × Int × (List (List C))) → Option β)) : Option β :=
  F a2 a4_0_0 a4_1_0 a4_2_0 a4_3_0 (IntKind.wrap .i64 (a2 - a1), IntKind.wrap .i64 (a3 - a2), a0)
noncomputable def Yl.g {β : Type} (k : Nat) (a0 : List (List C)) (a1 a2 a3 a4_0_0 : Int) (a4_1_0 a4_2_0 : List (List D)) (a4_3_0 : Int) (K : (List (List C)) → Option β) : Option β :=
  Zo (Yl.l0 k a2 a4_0_0 a4_1_0 a4_2_0 a4_3_0 K) k (IntKind.wrap .i64 (a2 - a1), IntKind.wrap .i64 (a3 - a2), a0)
noncomputable def Yl.t (k : Nat) (a0 : List (List C)) (a1 a2 a3 a4_0_0 : Int) (a4_1_0 a4_2_0 : List (List D)) (a4_3_0 : Int) : Option ((List (List C))) := Yl.g k a0 a1 a2 a3 a4_0_0 a4_1_0 a4_2_0 a4_3_0 (fun z0 => some z0)
noncomputable def Yl.f {β : Type} (k : Nat) (a0 : List (List C)) (a1 a2 a3 a4_0_0 : Int) (a4_1_0 a4_2_0 : List (List D)) (a4_3_0 : Int) (K : (List (List C)) → Option β) : Option β := bd1 (Yl.t k a0 a1 a2 a3 a4_0_0 a4_1_0 a4_2_0 a4_3_0) K
noncomputable def Yl.e (k : Nat) : Zk := ent [.own false 28 [.o], .d .n, .d .n, .d .n, .fn 220 [[.n], [.l], [.l], [.n]]] [] [.o] [] false (Yl.t k)
noncomputable def Yl.p (k : Nat) : Pro := ⟨Tryz.prog, [(294, Yk.e k)], Zn [(2, kp [0, 2, 4, 10, 11])] false [], k⟩
noncomputable def Yl.d (k : Nat) (a0 : List (List C)) (a1 a2 a3 a4_0_0 : Int) (a4_1_0 a4_2_0 : List (List D)) (a4_3_0 : Int) : Ex → St → Option ((List (List C))) := (Yl.p k).fin Tryz.f285 [.own false [.own a0], .d (.int .i64 a1), .d (.int .i64 a2), .d (.int .i64 a3), .d (.fn 220 [[.int .i64 a4_0_0], [.sl a4_1_0], [.sl a4_2_0], [.int .i64 a4_3_0]])] [] [.o]
noncomputable def Yl.s0 (aA aB : Int) (aF aH : List (List D)) (aI : Int) (v : Int × Int × (List (List C))) : St :=
  match v with
  | (aJ, aL, aT) => ZX 58 [(0, .row 0), (2, .d false (.int .i64 aA)), (4, .d false (.fn 220 [[.int .i64 aB], [.sl aF], [.sl aH], [.int .i64 aI]])), (10, .d true (.int .i64 aJ)), (11, .d true (.int .i64 aL))] [.row (some 0) false 28 aT]
noncomputable def Yl.r0 (k : Nat) (a0 : List (List C)) (a1 a2 a3 a4_0_0 : Int) (a4_1_0 a4_2_0 : List (List D)) (a4_3_0 aA aB : Int) (aF aH : List (List D)) (aI : Int) (n : Nat) (v : Int × Int × (List (List C))) : Option ((List (List C))) := (Yl.p k).lp (Zt Tryz.f285) 2 [1, 1, 0, 0] (Yl.d k a0 a1 a2 a3 a4_0_0 a4_1_0 a4_2_0 a4_3_0) n (Yl.s0 aA aB aF aH aI v)
theorem Yl.l0_eq (k : Nat) (a0 : List (List C)) (a1 a2 a3 a4_0_0 : Int) (a4_1_0 a4_2_0 : List (List D)) (a4_3_0 aA aB : Int) (aF aH : List (List D)) (aI : Int) : ∀ n v, Yl.r0 k a0 a1 a2 a3 a4_0_0 a4_1_0 a4_2_0 a4_3_0 aA aB aF aH aI n v = Zo (Yl.l0 k aA aB aF aH aI (fun z0 => some z0)) n v :=
  Zm (Yl.s0 aA aB aF aH aI) _ fun L0 v => by obtain ⟨aJ, aL, aT⟩ := v; kernel_rfl
theorem Yl.ok (k : Nat) : Za Tryz.prog 285 (Yl.e k) := Zh (Yl.p k) mix tyok Tryz.func285 (Yk.ok k) (by kernel_rfl) (fun a0 a1 a2 a3 a4_0_0 a4_1_0 a4_2_0 a4_3_0 => Eq.trans (b := Yl.m k a0 a1 a2 a3 a4_0_0 a4_1_0 a4_2_0 a4_3_0 (fun z0 => some z0) (fun aA aB aF aH aI => Yl.r0 k a0 a1 a2 a3 a4_0_0 a4_1_0 a4_2_0 a4_3_0 aA aB aF aH aI k)) (by kernel_rfl) (congrArg (Yl.m k a0 a1 a2 a3 a4_0_0 a4_1_0 a4_2_0 a4_3_0 (fun z0 => some z0)) (funext fun aA => funext fun aB => funext fun aF => funext fun aH => funext fun aI => funext fun v => Yl.l0_eq k a0 a1 a2 a3 a4_0_0 a4_1_0 a4_2_0 a4_3_0 aA aB aF aH aI k v)))
set_option maxRecDepth 100000 in
noncomputable def Ya.l5 {β : Type} (k : Nat) (r_slices_symMergeCmpFunc_int__impl_quotas_1 : (List (List C)) → Int → Int → Int → Int → (List (List D)) → (List (List D)) → Int → ((List (List C)) → Option β) → Option β) (v5_0 : Int) (v5_1 : Int) (bP : Int) (v5_3 : Int) (v5_4 : List (List D)) (v5_5 : List (List D)) (v5_6 : Int) (bM : Int) (bI : Int) (v5_11 : Int) (bK : List (List C)) (K : (List (List C)) → Option β) (L5 : (Int × Int) → Option β) (v : Int × Int) : Option β :=
  match v with
  | (bG, v5_10) => bif (decide ((bG : Int) < v5_10)) then (let J2 := (Int.fdiv (IntKind.wrap .u64 (IntKind.wrap .i64 (bG + v5_10))) (2 ^ (min (1 : Int).toNat 64))); let J1 := (IntKind.wrap .i64 J2); let J0 := (IntKind.wrap .i64 (v5_11 - J1)); Zc ((0 : Int) ≤ 1) (Zc ((0 : Int) ≤ J0 ∧ J0 < (bK.length : Int)) (ZaG bK (Int.toNat J0) fun c197 => Zas (c197.drop 0) fun c198 r199 => cD c198 fun d200 => dInt .i64 d200 fun x201 => Zc ((0 : Int) ≤ J1 ∧ J1 < (bK.length : Int)) (ZaG bK (Int.toNat J1) fun c202 => Zas (c202.drop 0) fun c203 r204 => cD c203 fun d205 => dInt .i64 d205 fun x206 => Yaq.f k x201 x206 v5_3 v5_4 v5_5 v5_6 (fun y207 => bif (!(decide ((y207 : Int) < 0))) then (L5 (IntKind.wrap .i64 (J1 + 1), v5_10)) else (L5 (bG, IntKind.wrap .i64 J2))))))) else (bif (decide ((bG : Int) < v5_1)) then (bif (decide ((v5_1 : Int) < (IntKind.wrap .i64 (bI - bG)))) then (Yl.f k bK bG v5_1 (IntKind.wrap .i64 (bI - bG)) v5_3 v5_4 v5_5 v5_6 (fun y208 => Zc (y208.length = bK.length) (bif (decide ((v5_0 : Int) < bG)) then (bif (decide ((bG : Int) < bM)) then (r_slices_symMergeCmpFunc_int__impl_quotas_1 y208 v5_0 bG bM v5_3 v5_4 v5_5 v5_6 (fun y209 => Zc (y209.length = y208.length) (bif (decide ((bM : Int) < (IntKind.wrap .i64 (bI - bG)))) then (bif (decide (((IntKind.wrap .i64 (bI - bG)) : Int) < bP)) then (r_slices_symMergeCmpFunc_int__impl_quotas_1 y209 bM (IntKind.wrap .i64 (bI - bG)) bP v5_3 v5_4 v5_5 v5_6 (fun y210 => Zc (y210.length = y209.length) (K y210))) else (K y209)) else (K y209)))) else (bif (decide ((bM : Int) < (IntKind.wrap .i64 (bI - bG)))) then (bif (decide (((IntKind.wrap .i64 (bI - bG)) : Int) < bP)) then (r_slices_symMergeCmpFunc_int__impl_quotas_1 y208 bM (IntKind.wrap .i64 (bI - bG)) bP v5_3 v5_4 v5_5 v5_6 (fun y211 => Zc (y211.length = y208.length) (K y211))) else (K y208)) else (K y208))) else (bif (decide ((bM : Int) < (IntKind.wrap .i64 (bI - bG)))) then (bif (decide (((IntKind.wrap .i64 (bI - bG)) : Int) < bP)) then (r_slices_symMergeCmpFunc_int__impl_quotas_1 y208 bM (IntKind.wrap .i64 (bI - bG)) bP v5_3 v5_4 v5_5 v5_6 (fun y212 => Zc (y212.length = y208.length) (K y212))) else (K y208)) else (K y208))))) else (bif (decide ((v5_0 : Int) < bG)) then (bif (decide ((bG : Int) < bM)) then (r_slices_symMergeCmpFunc_int__impl_quotas_1 bK v5_0 bG bM v5_3 v5_4 v5_5 v5_6 (fun y213 => Zc (y213.length = bK.length) (bif (decide ((bM : Int) < (IntKind.wrap .i64 (bI - bG)))) then (bif (decide (((IntKind.wrap .i64 (bI - bG)) : Int) < bP)) then (r_slices_symMergeCmpFunc_int__impl_quotas_1 y213 bM (IntKind.wrap .i64 (bI - bG)) bP v5_3 v5_4 v5_5 v5_6 (fun y214 => Zc (y214.length = y213.length) (K y214))) else (K y213)) else (K y213)))) else (bif (decide ((bM : Int) < (IntKind.wrap .i64 (bI - bG)))) then (bif (decide (((IntKind.wrap .i64 (bI - bG)) : Int) < bP)) then (r_slices_symMergeCmpFunc_int__impl_quotas_1 bK bM (IntKind.wrap .i64 (bI - bG)) bP v5_3 v5_4 v5_5 v5_6 (fun y215 => Zc (y215.length = bK.length) (K y215))) else (K bK)) else (K bK))) else (bif (decide ((bM : Int) < (IntKind.wrap .i64 (bI - bG)))) then (bif (decide (((IntKind.wrap .i64 (bI - bG)) : Int) < bP)) then (r_slices_symMergeCmpFunc_int__impl_quotas_1 bK bM (IntKind.wrap .i64 (bI - bG)) bP v5_3 v5_4 v5_5 v5_6 (fun y216 => Zc (y216.length = bK.length) (K y216))) else (K bK)) else (K bK)))) else (bif (decide ((v5_0 : Int) < bG)) then (bif (decide ((bG : Int) < bM)) then (r_slices_symMergeCmpFunc_int__impl_quotas_1 bK v5_0 bG bM v5_3 v5_4 v5_5 v5_6 (fun y217 => Zc (y217.length = bK.length) (bif (decide ((bM : Int) < (IntKind.wrap .i64 (bI - bG)))) then (bif (decide (((IntKind.wrap .i64 (bI - bG)) : Int) < bP)) then (r_slices_symMergeCmpFunc_int__impl_quotas_1 y217 bM (IntKind.wrap .i64 (bI - bG)) bP v5_3 v5_4 v5_5 v5_6 (fun y218 => Zc (y218.length = y217.length) (K y218))) else (K y217)) else (K y217)))) else (bif (decide ((bM : Int) < (IntKind.wrap .i64 (bI - bG)))) then (bif (decide (((IntKind.wrap .i64 (bI - bG)) : Int) < bP)) then (r_slices_symMergeCmpFunc_int__impl_quotas_1 bK bM (IntKind.wrap .i64 (bI - bG)) bP v5_3 v5_4 v5_5 v5_6 (fun y219 => Zc (y219.length = bK.length) (K y219))) else (K bK)) else (K bK))) else (bif (decide ((bM : Int) < (IntKind.wrap .i64 (bI - bG)))) then (bif (decide (((IntKind.wrap .i64 (bI - bG)) : Int) < bP)) then (r_slices_symMergeCmpFunc_int__impl_quotas_1 bK bM (IntKind.wrap .i64 (bI - bG)) bP v5_3 v5_4 v5_5 v5_6 (fun y220 => Zc (y220.length = bK.length) (K y220))) else (K bK)) else (K bK))))
set_option maxRecDepth 100000 in
noncomputable def Ya.l4 {β : Type} (k : Nat) (r_slices_symMergeCmpFunc_int__impl_quotas_1 : (List (List C)) → Int → Int → Int → Int → (List (List D)) → (List (List D)) → Int → ((List (List C)) → Option β) → Option β) (v4_0 : Int) (v4_1 : Int) (bQ : Int) (v4_3 : Int) (v4_4 : List (List D)) (v4_5 : List (List D)) (v4_6 : Int) (bN : Int) (bJ : Int) (v4_11 : Int) (bL : List (List C)) (K : (List (List C)) → Option β) (L4 : (Int × Int) → Option β) (v : Int × Int) : Option β :=
  match v with
  | (bH, v4_10) => bif (decide ((bH : Int) < v4_10)) then (let J2 := (Int.fdiv (IntKind.wrap .u64 (IntKind.wrap .i64 (bH + v4_10))) (2 ^ (min (1 : Int).toNat 64))); let J1 := (IntKind.wrap .i64 J2); let J0 := (IntKind.wrap .i64 (v4_11 - J1)); Zc ((0 : Int) ≤ 1) (Zc ((0 : Int) ≤ J0 ∧ J0 < (bL.length : Int)) (ZaG bL (Int.toNat J0) fun c149 => Zas (c149.drop 0) fun c150 r151 => cD c150 fun d152 => dInt .i64 d152 fun x153 => Zc ((0 : Int) ≤ J1 ∧ J1 < (bL.length : Int)) (ZaG bL (Int.toNat J1) fun c154 => Zas (c154.drop 0) fun c155 r156 => cD c155 fun d157 => dInt .i64 d157 fun x158 => Yaq.f k x153 x158 v4_3 v4_4 v4_5 v4_6 (fun y159 => bif (!(decide ((y159 : Int) < 0))) then (L4 (IntKind.wrap .i64 (J1 + 1), v4_10)) else (L4 (bH, IntKind.wrap .i64 J2))))))) else (bif (decide ((bH : Int) < v4_1)) then (bif (decide ((v4_1 : Int) < (IntKind.wrap .i64 (bJ - bH)))) then (Yl.f k bL bH v4_1 (IntKind.wrap .i64 (bJ - bH)) v4_3 v4_4 v4_5 v4_6 (fun y160 => Zc (y160.length = bL.length) (bif (decide ((v4_0 : Int) < bH)) then (bif (decide ((bH : Int) < bN)) then (r_slices_symMergeCmpFunc_int__impl_quotas_1 y160 v4_0 bH bN v4_3 v4_4 v4_5 v4_6 (fun y161 => Zc (y161.length = y160.length) (bif (decide ((bN : Int) < (IntKind.wrap .i64 (bJ - bH)))) then (bif (decide (((IntKind.wrap .i64 (bJ - bH)) : Int) < bQ)) then (r_slices_symMergeCmpFunc_int__impl_quotas_1 y161 bN (IntKind.wrap .i64 (bJ - bH)) bQ v4_3 v4_4 v4_5 v4_6 (fun y162 => Zc (y162.length = y161.length) (K y162))) else (K y161)) else (K y161)))) else (bif (decide ((bN : Int) < (IntKind.wrap .i64 (bJ - bH)))) then (bif (decide (((IntKind.wrap .i64 (bJ - bH)) : Int) < bQ)) then (r_slices_symMergeCmpFunc_int__impl_quotas_1 y160 bN (IntKind.wrap .i64 (bJ - bH)) bQ v4_3 v4_4 v4_5 v4_6 (fun y163 => Zc (y163.length = y160.length) (K y163))) else (K y160)) else (K y160))) else (bif (decide ((bN : Int) < (IntKind.wrap .i64 (bJ - bH)))) then (bif (decide (((IntKind.wrap .i64 (bJ - bH)) : Int) < bQ)) then (r_slices_symMergeCmpFunc_int__impl_quotas_1 y160 bN (IntKind.wrap .i64 (bJ - bH)) bQ v4_3 v4_4 v4_5 v4_6 (fun y164 => Zc (y164.length = y160.length) (K y164))) else (K y160)) else (K y160))))) else (bif (decide ((v4_0 : Int) < bH)) then (bif (decide ((bH : Int) < bN)) then (r_slices_symMergeCmpFunc_int__impl_quotas_1 bL v4_0 bH bN v4_3 v4_4 v4_5 v4_6 (fun y165 => Zc (y165.length = bL.length) (bif (decide ((bN : Int) < (IntKind.wrap .i64 (bJ - bH)))) then (bif (decide (((IntKind.wrap .i64 (bJ - bH)) : Int) < bQ)) then (r_slices_symMergeCmpFunc_int__impl_quotas_1 y165 bN (IntKind.wrap .i64 (bJ - bH)) bQ v4_3 v4_4 v4_5 v4_6 (fun y166 => Zc (y166.length = y165.length) (K y166))) else (K y165)) else (K y165)))) else (bif (decide ((bN : Int) < (IntKind.wrap .i64 (bJ - bH)))) then (bif (decide (((IntKind.wrap .i64 (bJ - bH)) : Int) < bQ)) then (r_slices_symMergeCmpFunc_int__impl_quotas_1 bL bN (IntKind.wrap .i64 (bJ - bH)) bQ v4_3 v4_4 v4_5 v4_6 (fun y167 => Zc (y167.length = bL.length) (K y167))) else (K bL)) else (K bL))) else (bif (decide ((bN : Int) < (IntKind.wrap .i64 (bJ - bH)))) then (bif (decide (((IntKind.wrap .i64 (bJ - bH)) : Int) < bQ)) then (r_slices_symMergeCmpFunc_int__impl_quotas_1 bL bN (IntKind.wrap .i64 (bJ - bH)) bQ v4_3 v4_4 v4_5 v4_6 (fun y168 => Zc (y168.length = bL.length) (K y168))) else (K bL)) else (K bL)))) else (bif (decide ((v4_0 : Int) < bH)) then (bif (decide ((bH : Int) < bN)) then (r_slices_symMergeCmpFunc_int__impl_quotas_1 bL v4_0 bH bN v4_3 v4_4 v4_5 v4_6 (fun y169 => Zc (y169.length = bL.length) (bif (decide ((bN : Int) < (IntKind.wrap .i64 (bJ - bH)))) then (bif (decide (((IntKind.wrap .i64 (bJ - bH)) : Int) < bQ)) then (r_slices_symMergeCmpFunc_int__impl_quotas_1 y169 bN (IntKind.wrap .i64 (bJ - bH)) bQ v4_3 v4_4 v4_5 v4_6 (fun y170 => Zc (y170.length = y169.length) (K y170))) else (K y169)) else (K y169)))) else (bif (decide ((bN : Int) < (IntKind.wrap .i64 (bJ - bH)))) then (bif (decide (((IntKind.wrap .i64 (bJ - bH)) : Int) < bQ)) then (r_slices_symMergeCmpFunc_int__impl_quotas_1 bL bN (IntKind.wrap .i64 (bJ - bH)) bQ v4_3 v4_4 v4_5 v4_6 (fun y171 => Zc (y171.length = bL.length) (K y171))) else (K bL)) else (K bL))) else (bif (decide ((bN : Int) < (IntKind.wrap .i64 (bJ - bH)))) then (bif (decide (((IntKind.wrap .i64 (bJ - bH)) : Int) < bQ)) then (r_slices_symMergeCmpFunc_int__impl_quotas_1 bL bN (IntKind.wrap .i64 (bJ - bH)) bQ v4_3 v4_4 v4_5 v4_6 (fun y172 => Zc (y172.length = bL.length) (K y172))) else (K bL)) else (K bL))))
noncomputable def Ya.l3 {β : Type} (k : Nat) (r_slices_symMergeCmpFunc_int__impl_quotas_1 : (List (List C)) → Int → Int → Int → Int → (List (List D)) → (List (List D)) → Int → ((List (List C)) → Option β) → Option β) (bR : Int) (K : (List (List C)) → Option β) (L3 : (Int × (List (List C))) → Option β) (v : Int × (List (List C))) : Option β :=
  match v with
  | (v3_1, v3_2) => bif (decide ((v3_1 : Int) > bR)) then (Zc ((0 : Int) ≤ (IntKind.wrap .i64 (v3_1 - 1)) ∧ (IntKind.wrap .i64 (v3_1 - 1)) < (v3_2.length : Int)) (ZaG v3_2 (Int.toNat (IntKind.wrap .i64 (v3_1 - 1))) fun c115 => Zas (c115.drop 0) fun c116 r117 => cD c116 fun d118 => dInt .i64 d118 fun x119 => Zc ((0 : Int) ≤ v3_1 ∧ v3_1 < (v3_2.length : Int)) (ZaG v3_2 (Int.toNat v3_1) fun c120 => Zas (c120.drop 0) fun c121 r122 => cD c121 fun d123 => dInt .i64 d123 fun x124 => let J0 := (v3_2.modify (Int.toNat v3_1) fun c => Zq c 0 [.d (.int .i64 x119)]); Zc ((0 : Int) ≤ v3_1 ∧ v3_1 < (v3_2.length : Int)) (Zc (Int.toNat v3_1 < v3_2.length) (Zc ((0 : Int) ≤ (IntKind.wrap .i64 (v3_1 - 1)) ∧ (IntKind.wrap .i64 (v3_1 - 1)) < (J0.length : Int)) (Zc (Int.toNat (IntKind.wrap .i64 (v3_1 - 1)) < J0.length) (L3 (IntKind.wrap .i64 (v3_1 - 1), J0.modify (Int.toNat (IntKind.wrap .i64 (v3_1 - 1))) fun c => Zq c 0 [.d (.int .i64 x124)])))))))) else (K v3_2)
noncomputable def Ya.m2 {β : Type} (k : Nat) (r_slices_symMergeCmpFunc_int__impl_quotas_1 : (List (List C)) → Int → Int → Int → Int → (List (List D)) → (List (List D)) → Int → ((List (List C)) → Option β) → Option β) (aX : Int) (aO : Int) (aV : List (List D)) (aK : List (List D)) (aS : Int) (bE : List (List C)) (K : (List (List C)) → Option β) (L2 : (Int × Int) → Option β) (v : Int × Int) (F : (Int → (Int × (List (List C))) → Option β)) : Option β :=
  match v with
  | (aY, bB) => bif (decide ((aY : Int) < bB)) then (Zc ((0 : Int) ≤ 1) (Zc ((0 : Int) ≤ aX ∧ aX < (bE.length : Int)) (ZaG bE (Int.toNat aX) fun c94 => Zas (c94.drop 0) fun c95 r96 => cD c95 fun d97 => dInt .i64 d97 fun x98 => let J1 := (Int.fdiv (IntKind.wrap .u64 (IntKind.wrap .i64 (aY + bB))) (2 ^ (min (1 : Int).toNat 64))); let J0 := (IntKind.wrap .i64 J1); Zc ((0 : Int) ≤ J0 ∧ J0 < (bE.length : Int)) (ZaG bE (Int.toNat J0) fun c99 => Zas (c99.drop 0) fun c100 r101 => cD c100 fun d102 => dInt .i64 d102 fun x103 => Yaq.f k x98 x103 aO aV aK aS (fun y104 => bif (!(decide ((y104 : Int) < 0))) then (L2 (IntKind.wrap .i64 (J0 + 1), bB)) else (L2 (aY, IntKind.wrap .i64 J1))))))) else (F aY (aX, bE))
noncomputable def Ya.l2 {β : Type} (k : Nat) (r_slices_symMergeCmpFunc_int__impl_quotas_1 : (List (List C)) → Int → Int → Int → Int → (List (List D)) → (List (List D)) → Int → ((List (List C)) → Option β) → Option β) (aX : Int) (aO : Int) (aV : List (List D)) (aK : List (List D)) (aS : Int) (bE : List (List C)) (K : (List (List C)) → Option β) (L2 : (Int × Int) → Option β) (v : Int × Int) : Option β := Ya.m2 k r_slices_symMergeCmpFunc_int__impl_quotas_1 aX aO aV aK aS bE K L2 v (fun bR => Zo (Ya.l3 k r_slices_symMergeCmpFunc_int__impl_quotas_1 bR K) k)
noncomputable def Ya.l1 {β : Type} (k : Nat) (r_slices_symMergeCmpFunc_int__impl_quotas_1 : (List (List C)) → Int → Int → Int → Int → (List (List D)) → (List (List D)) → Int → ((List (List C)) → Option β) → Option β) (aW : Int) (K : (List (List C)) → Option β) (L1 : (Int × (List (List C))) → Option β) (v : Int × (List (List C))) : Option β :=
  match v with
  | (aM, aQ) => bif (decide ((aM : Int) < (IntKind.wrap .i64 (aW - 1)))) then (Zc ((0 : Int) ≤ (IntKind.wrap .i64 (aM + 1)) ∧ (IntKind.wrap .i64 (aM + 1)) < (aQ.length : Int)) (ZaG aQ (Int.toNat (IntKind.wrap .i64 (aM + 1))) fun c53 => Zas (c53.drop 0) fun c54 r55 => cD c54 fun d56 => dInt .i64 d56 fun x57 => Zc ((0 : Int) ≤ aM ∧ aM < (aQ.length : Int)) (ZaG aQ (Int.toNat aM) fun c58 => Zas (c58.drop 0) fun c59 r60 => cD c59 fun d61 => dInt .i64 d61 fun x62 => let J0 := (aQ.modify (Int.toNat aM) fun c => Zq c 0 [.d (.int .i64 x57)]); Zc ((0 : Int) ≤ aM ∧ aM < (aQ.length : Int)) (Zc (Int.toNat aM < aQ.length) (Zc ((0 : Int) ≤ (IntKind.wrap .i64 (aM + 1)) ∧ (IntKind.wrap .i64 (aM + 1)) < (J0.length : Int)) (Zc (Int.toNat (IntKind.wrap .i64 (aM + 1)) < J0.length) (L1 (IntKind.wrap .i64 (aM + 1), J0.modify (Int.toNat (IntKind.wrap .i64 (aM + 1))) fun c => Zq c 0 [.d (.int .i64 x62)])))))))) else (K aQ)
noncomputable def Ya.m0 {β : Type} (k : Nat) (r_slices_symMergeCmpFunc_int__impl_quotas_1 : (List (List C)) → Int → Int → Int → Int → (List (List D)) → (List (List D)) → Int → ((List (List C)) → Option β) → Option β) (aA : Int) (aB : Int) (aF : List (List D)) (aH : List (List D)) (aI : Int) (aT : List (List C)) (K : (List (List C)) → Option β) (L0 : (Int × Int) → Option β) (v : Int × Int) (F : (Int → (Int × (List (List C))) → Option β)) : Option β :=
  match v with
  | (aJ, aL) => bif (decide ((aJ : Int) < aL)) then (let J1 := (Int.fdiv (IntKind.wrap .u64 (IntKind.wrap .i64 (aJ + aL))) (2 ^ (min (1 : Int).toNat 64))); let J0 := (IntKind.wrap .i64 J1); Zc ((0 : Int) ≤ 1) (Zc ((0 : Int) ≤ J0 ∧ J0 < (aT.length : Int)) (ZaG aT (Int.toNat J0) fun c32 => Zas (c32.drop 0) fun c33 r34 => cD c33 fun d35 => dInt .i64 d35 fun x36 => Zc ((0 : Int) ≤ aA ∧ aA < (aT.length : Int)) (ZaG aT (Int.toNat aA) fun c37 => Zas (c37.drop 0) fun c38 r39 => cD c38 fun d40 => dInt .i64 d40 fun x41 => Yaq.f k x36 x41 aB aF aH aI (fun y42 => bif (decide ((y42 : Int) < 0)) then (L0 (IntKind.wrap .i64 (J0 + 1), aL)) else (L0 (aJ, IntKind.wrap .i64 J1))))))) else (F aJ (aA, aT))
noncomputable def Ya.l0 {β : Type} (k : Nat) (r_slices_symMergeCmpFunc_int__impl_quotas_1 : (List (List C)) → Int → Int → Int → Int → (List (List D)) → (List (List D)) → Int → ((List (List C)) → Option β) → Option β) (aA : Int) (aB : Int) (aF : List (List D)) (aH : List (List D)) (aI : Int) (aT : List (List C)) (K : (List (List C)) → Option β) (L0 : (Int × Int) → Option β) (v : Int × Int) : Option β := Ya.m0 k r_slices_symMergeCmpFunc_int__impl_quotas_1 aA aB aF aH aI aT K L0 v (fun aW => Zo (Ya.l1 k r_slices_symMergeCmpFunc_int__impl_quotas_1 aW K) k)
noncomputable def Ya.m {β : Type} (k : Nat) (r_slices_symMergeCmpFunc_int__impl_quotas_1 : (List (List C)) → Int → Int → Int → Int → (List (List D)) → (List (List D)) → Int → ((List (List C)) → Option β) → Option β) (a0 : List (List C)) (a1 : Int) (a2 : Int) (a3 : Int) (a4_0_0 : Int) (a4_1_0 : List (List D)) (a4_2_0 : List (List D)) (a4_3_0 : Int) (K : (List (List C)) → Option β) (F : (Int → Int → (List (List D)) → (List (List D)) → Int → (List (List C)) → (Int × Int) → Option β) × (Int → Int → (List (List D)) → (List (List D)) → Int → (List (List C)) → (Int × Int) → Option β) × (Int → Int → Int → Int → (List (List D)) → (List (List D)) → Int → Int → Int → Int → (List (List C)) → (Int × Int) → Option β) × (Int → Int → Int → Int → (List (List D)) → (List (List D)) → Int → Int → Int → Int → (List (List C)) → (Int × Int) → Option β)) : Option β :=
  bif (((IntKind.wrap .i64 (a2 - a1)) : Int) == 1) then (F.1 a1 a4_0_0 a4_1_0 a4_2_0 a4_3_0 a0 (a2, a3)) else (bif (((IntKind.wrap .i64 (a3 - a2)) : Int) == 1) then (F.2.1 a2 a4_0_0 a4_1_0 a4_2_0 a4_3_0 a0 (a1, a2)) else (let J3 := (Int.fdiv (IntKind.wrap .u64 (IntKind.wrap .i64 (a1 + a3))) (2 ^ (min (1 : Int).toNat 64))); let J2 := (IntKind.wrap .i64 J3); let J1 := (IntKind.wrap .i64 (J2 + a2)); let J0 := (IntKind.wrap .i64 (J1 - 1)); Zc ((0 : Int) ≤ 1) (bif (decide ((a2 : Int) > J2)) then (F.2.2.1 a1 a2 a3 a4_0_0 a4_1_0 a4_2_0 a4_3_0 J2 J1 J0 a0 (IntKind.wrap .i64 (J1 - a3), IntKind.wrap .i64 J3)) else (F.2.2.2 a1 a2 a3 a4_0_0 a4_1_0 a4_2_0 a4_3_0 J2 J1 J0 a0 (a1, a2)))))
noncomputable def Ya.body {β : Type} (k : Nat) (r_slices_symMergeCmpFunc_int__impl_quotas_1 : (List (List C)) → Int → Int → Int → Int → (List (List D)) → (List (List D)) → Int → ((List (List C)) → Option β) → Option β) (a0 : List (List C)) (a1 : Int) (a2 : Int) (a3 : Int) (a4_0_0 : Int) (a4_1_0 : List (List D)) (a4_2_0 : List (List D)) (a4_3_0 : Int) (K : (List (List C)) → Option β) : Option β := Ya.m k r_slices_symMergeCmpFunc_int__impl_quotas_1 a0 a1 a2 a3 a4_0_0 a4_1_0 a4_2_0 a4_3_0 K ((fun aA aB aF aH aI aT => Zo (Ya.l0 k r_slices_symMergeCmpFunc_int__impl_quotas_1 aA aB aF aH aI aT K) k), (fun aX aO aV aK aS bE => Zo (Ya.l2 k r_slices_symMergeCmpFunc_int__impl_quotas_1 aX aO aV aK aS bE K) k), (fun v4_0 v4_1 bQ v4_3 v4_4 v4_5 v4_6 bN bJ v4_11 bL => Zo (Ya.l4 k r_slices_symMergeCmpFunc_int__impl_quotas_1 v4_0 v4_1 bQ v4_3 v4_4 v4_5 v4_6 bN bJ v4_11 bL K) k), (fun v5_0 v5_1 bP v5_3 v5_4 v5_5 v5_6 bM bI v5_11 bK => Zo (Ya.l5 k r_slices_symMergeCmpFunc_int__impl_quotas_1 v5_0 v5_1 bP v5_3 v5_4 v5_5 v5_6 bM bI v5_11 bK K) k))
noncomputable def Ya.w {β : Type} (r : (List (List C)) → Int → Int → Int → Int → (List (List D)) → (List (List D)) → Int → Option ((List (List C)))) (a0 : List (List C)) (a1 : Int) (a2 : Int) (a3 : Int) (a4_0_0 : Int) (a4_1_0 : List (List D)) (a4_2_0 : List (List D)) (a4_3_0 : Int) (K : (List (List C)) → Option β) : Option β := bd1 (r a0 a1 a2 a3 a4_0_0 a4_1_0 a4_2_0 a4_3_0) K
noncomputable def Ya.all : Nat → ((List (List C)) → Int → Int → Int → Int → (List (List D)) → (List (List D)) → Int → Option ((List (List C))))
  | 0 => (fun _ _ _ _ _ _ _ _ => none)
  | k + 1 => (fun r => (fun a0 a1 a2 a3 a4_0_0 a4_1_0 a4_2_0 a4_3_0 => Ya.body k (Ya.w r) a0 a1 a2 a3 a4_0_0 a4_1_0 a4_2_0 a4_3_0 (fun z0 => some z0))) (Ya.all k)
noncomputable def Ya.t (k : Nat) (a0 : List (List C)) (a1 a2 a3 a4_0_0 : Int) (a4_1_0 a4_2_0 : List (List D)) (a4_3_0 : Int) : Option ((List (List C))) := (Ya.all k) a0 a1 a2 a3 a4_0_0 a4_1_0 a4_2_0 a4_3_0
noncomputable def Ya.f {β : Type} (k : Nat) (a0 : List (List C)) (a1 a2 a3 a4_0_0 : Int) (a4_1_0 a4_2_0 : List (List D)) (a4_3_0 : Int) (K : (List (List C)) → Option β) : Option β := Ya.w (Ya.t k) a0 a1 a2 a3 a4_0_0 a4_1_0 a4_2_0 a4_3_0 K
noncomputable def Ya.g {β : Type} (k : Nat) (a0 : List (List C)) (a1 a2 a3 a4_0_0 : Int) (a4_1_0 a4_2_0 : List (List D)) (a4_3_0 : Int) (K : (List (List C)) → Option β) : Option β := Ya.body k (Ya.f k) a0 a1 a2 a3 a4_0_0 a4_1_0 a4_2_0 a4_3_0 K
theorem Ya.t_succ (k : Nat) (a0 : List (List C)) (a1 a2 a3 a4_0_0 : Int) (a4_1_0 a4_2_0 : List (List D)) (a4_3_0 : Int) : Ya.t (k + 1) a0 a1 a2 a3 a4_0_0 a4_1_0 a4_2_0 a4_3_0 = Ya.g k a0 a1 a2 a3 a4_0_0 a4_1_0 a4_2_0 a4_3_0 (fun z0 => some z0) := rfl
noncomputable def Ya.e (k : Nat) : Zk := ent [.own false 28 [.o], .d .n, .d .n, .d .n, .fn 220 [[.n], [.l], [.l], [.n]]] [] [.o] [] false (Ya.t k)
noncomputable def Ya.p (k : Nat) : Pro := ⟨Tryz.prog, [(220, Yaq.e k), (285, Yl.e k), (276, Ya.e k)], Zn [(3, kp [0, 1, 4] [(10, .dat false), (11, .dat false)]), (9, kp [0, 10] [(13, .dat false)]), (15, kp [0, 2, 4] [(14, .dat false), (15, .dat false)]), (21, kp [0, 14] [(17, .dat false)]), (33, kp [0, 1, 2, 3, 4, 18, 19, 22] [(20, .dat false), (21, .dat false)])] false [], k⟩
noncomputable def Ya.d (k : Nat) (a0 : List (List C)) (a1 a2 a3 a4_0_0 : Int) (a4_1_0 a4_2_0 : List (List D)) (a4_3_0 : Int) : Ex → St → Option ((List (List C))) := (Ya.p k).fin Tryz.f276 [.own false [.own a0], .d (.int .i64 a1), .d (.int .i64 a2), .d (.int .i64 a3), .d (.fn 220 [[.int .i64 a4_0_0], [.sl a4_1_0], [.sl a4_2_0], [.int .i64 a4_3_0]])] [] [.o]
noncomputable def Ya.s0 (aA aB : Int) (aF aH : List (List D)) (aI : Int) (aT : List (List C)) (v : Int × Int) : St :=
  match v with
  | (aJ, aL) => ZX 220 [(0, .row 0), (1, .d false (.int .i64 aA)), (4, .d false (.fn 220 [[.int .i64 aB], [.sl aF], [.sl aH], [.int .i64 aI]])), (10, .d false (.int .i64 aJ)), (11, .d false (.int .i64 aL))] [.row (some 0) false 28 aT]
noncomputable def Ya.r0 (k : Nat) (a0 : List (List C)) (a1 a2 a3 a4_0_0 : Int) (a4_1_0 a4_2_0 : List (List D)) (a4_3_0 aA aB : Int) (aF aH : List (List D)) (aI : Int) (aT : List (List C)) (n : Nat) (v : Int × Int) : Option ((List (List C))) := (Ya.p k).lp (Zt Tryz.f276) 3 [0, 1, 0, 1, 1, 0, 0] (Ya.d k a0 a1 a2 a3 a4_0_0 a4_1_0 a4_2_0 a4_3_0) n (Ya.s0 aA aB aF aH aI aT v)
noncomputable def Ya.s1 (aW : Int) (v : Int × (List (List C))) : St :=
  match v with
  | (aM, aQ) => ZX 220 [(0, .row 0), (10, .d false (.int .i64 aW)), (13, .d false (.int .i64 aM))] [.row (some 0) false 28 aQ]
noncomputable def Ya.r1 (k : Nat) (a0 : List (List C)) (a1 a2 a3 a4_0_0 : Int) (a4_1_0 a4_2_0 : List (List D)) (a4_3_0 aW : Int) (n : Nat) (v : Int × (List (List C))) : Option ((List (List C))) := (Ya.p k).lp (Zt Tryz.f276) 9 [0, 1, 0, 1, 1, 1, 0, 1, 0] (Ya.d k a0 a1 a2 a3 a4_0_0 a4_1_0 a4_2_0 a4_3_0) n (Ya.s1 aW v)
noncomputable def Ya.s2 (aX aO : Int) (aV aK : List (List D)) (aS : Int) (bE : List (List C)) (v : Int × Int) : St :=
  match v with
  | (aY, bB) => ZX 220 [(0, .row 0), (2, .d false (.int .i64 aX)), (4, .d false (.fn 220 [[.int .i64 aO], [.sl aV], [.sl aK], [.int .i64 aS]])), (14, .d false (.int .i64 aY)), (15, .d false (.int .i64 bB))] [.row (some 0) false 28 bE]
noncomputable def Ya.r2 (k : Nat) (a0 : List (List C)) (a1 a2 a3 a4_0_0 : Int) (a4_1_0 a4_2_0 : List (List D)) (a4_3_0 aX aO : Int) (aV aK : List (List D)) (aS : Int) (bE : List (List C)) (n : Nat) (v : Int × Int) : Option ((List (List C))) := (Ya.p k).lp (Zt Tryz.f276) 15 [1, 0, 1, 0, 1, 1, 0, 0] (Ya.d k a0 a1 a2 a3 a4_0_0 a4_1_0 a4_2_0 a4_3_0) n (Ya.s2 aX aO aV aK aS bE v)
noncomputable def Ya.s3 (bR : Int) (v : Int × (List (List C))) : St :=
  match v with
  | (v3_1, v3_2) => ZX 220 [(0, .row 0), (14, .d false (.int .i64 bR)), (17, .d false (.int .i64 v3_1))] [.row (some 0) false 28 v3_2]
noncomputable def Ya.r3 (k : Nat) (a0 : List (List C)) (a1 a2 a3 a4_0_0 : Int) (a4_1_0 a4_2_0 : List (List D)) (a4_3_0 bR : Int) (n : Nat) (v : Int × (List (List C))) : Option ((List (List C))) := (Ya.p k).lp (Zt Tryz.f276) 21 [1, 0, 1, 0, 1, 1, 1, 0, 1, 0] (Ya.d k a0 a1 a2 a3 a4_0_0 a4_1_0 a4_2_0 a4_3_0) n (Ya.s3 bR v)
noncomputable def Ya.s4 (v4_0 v4_1 bQ v4_3 : Int) (v4_4 v4_5 : List (List D)) (v4_6 bN bJ v4_11 : Int) (bL : List (List C)) (v : Int × Int) : St :=
  match v with
  | (bH, v4_10) => ZX 220 [(0, .row 0), (1, .d false (.int .i64 v4_0)), (2, .d false (.int .i64 v4_1)), (3, .d false (.int .i64 bQ)), (4, .d false (.fn 220 [[.int .i64 v4_3], [.sl v4_4], [.sl v4_5], [.int .i64 v4_6]])), (18, .d true (.int .i64 bN)), (19, .d true (.int .i64 bJ)), (20, .d false (.int .i64 bH)), (21, .d false (.int .i64 v4_10)), (22, .d true (.int .i64 v4_11))] [.row (some 0) false 28 bL]
noncomputable def Ya.r4 (k : Nat) (a0 : List (List C)) (a1 a2 a3 a4_0_0 : Int) (a4_1_0 a4_2_0 : List (List D)) (a4_3_0 v4_0 v4_1 bQ v4_3 : Int) (v4_4 v4_5 : List (List D)) (v4_6 bN bJ v4_11 : Int) (bL : List (List C)) (n : Nat) (v : Int × Int) : Option ((List (List C))) := (Ya.p k).lp (Zt Tryz.f276) 33 [1, 1, 1, 1, 1, 1, 1, 0, 0] (Ya.d k a0 a1 a2 a3 a4_0_0 a4_1_0 a4_2_0 a4_3_0) n (Ya.s4 v4_0 v4_1 bQ v4_3 v4_4 v4_5 v4_6 bN bJ v4_11 bL v)
noncomputable def Ya.s5 (v5_0 v5_1 bP v5_3 : Int) (v5_4 v5_5 : List (List D)) (v5_6 bM bI v5_11 : Int) (bK : List (List C)) (v : Int × Int) : St :=
  match v with
  | (bG, v5_10) => ZX 220 [(0, .row 0), (1, .d false (.int .i64 v5_0)), (2, .d false (.int .i64 v5_1)), (3, .d false (.int .i64 bP)), (4, .d false (.fn 220 [[.int .i64 v5_3], [.sl v5_4], [.sl v5_5], [.int .i64 v5_6]])), (18, .d true (.int .i64 bM)), (19, .d true (.int .i64 bI)), (20, .d false (.int .i64 bG)), (21, .d false (.int .i64 v5_10)), (22, .d true (.int .i64 v5_11))] [.row (some 0) false 28 bK]
noncomputable def Ya.r5 (k : Nat) (a0 : List (List C)) (a1 a2 a3 a4_0_0 : Int) (a4_1_0 a4_2_0 : List (List D)) (a4_3_0 v5_0 v5_1 bP v5_3 : Int) (v5_4 v5_5 : List (List D)) (v5_6 bM bI v5_11 : Int) (bK : List (List C)) (n : Nat) (v : Int × Int) : Option ((List (List C))) := (Ya.p k).lp (Zt Tryz.f276) 33 [1, 1, 1, 1, 1, 1, 1, 0, 0] (Ya.d k a0 a1 a2 a3 a4_0_0 a4_1_0 a4_2_0 a4_3_0) n (Ya.s5 v5_0 v5_1 bP v5_3 v5_4 v5_5 v5_6 bM bI v5_11 bK v)
theorem Ya.l5_eq (k : Nat) (a0 : List (List C)) (a1 a2 a3 a4_0_0 : Int) (a4_1_0 a4_2_0 : List (List D)) (a4_3_0 v5_0 v5_1 bP v5_3 : Int) (v5_4 v5_5 : List (List D)) (v5_6 bM bI v5_11 : Int) (bK : List (List C)) : ∀ n v, Ya.r5 k a0 a1 a2 a3 a4_0_0 a4_1_0 a4_2_0 a4_3_0 v5_0 v5_1 bP v5_3 v5_4 v5_5 v5_6 bM bI v5_11 bK n v = Zo (Ya.l5 k (Ya.f k) v5_0 v5_1 bP v5_3 v5_4 v5_5 v5_6 bM bI v5_11 bK (fun z0 => some z0)) n v :=
  Zm (Ya.s5 v5_0 v5_1 bP v5_3 v5_4 v5_5 v5_6 bM bI v5_11 bK) _ fun L5 v => by obtain ⟨bG, v5_10⟩ := v; kernel_rfl
theorem Ya.l4_eq (k : Nat) (a0 : List (List C)) (a1 a2 a3 a4_0_0 : Int) (a4_1_0 a4_2_0 : List (List D)) (a4_3_0 v4_0 v4_1 bQ v4_3 : Int) (v4_4 v4_5 : List (List D)) (v4_6 bN bJ v4_11 : Int) (bL : List (List C)) : ∀ n v, Ya.r4 k a0 a1 a2 a3 a4_0_0 a4_1_0 a4_2_0 a4_3_0 v4_0 v4_1 bQ v4_3 v4_4 v4_5 v4_6 bN bJ v4_11 bL n v = Zo (Ya.l4 k (Ya.f k) v4_0 v4_1 bQ v4_3 v4_4 v4_5 v4_6 bN bJ v4_11 bL (fun z0 => some z0)) n v :=
  Zm (Ya.s4 v4_0 v4_1 bQ v4_3 v4_4 v4_5 v4_6 bN bJ v4_11 bL) _ fun L4 v => by obtain ⟨bH, v4_10⟩ := v; kernel_rfl
theorem Ya.l3_eq (k : Nat) (a0 : List (List C)) (a1 a2 a3 a4_0_0 : Int) (a4_1_0 a4_2_0 : List (List D)) (a4_3_0 bR : Int) : ∀ n v, Ya.r3 k a0 a1 a2 a3 a4_0_0 a4_1_0 a4_2_0 a4_3_0 bR n v = Zo (Ya.l3 k (Ya.f k) bR (fun z0 => some z0)) n v :=
  Zm (Ya.s3 bR) _ fun L3 v => by obtain ⟨v3_1, v3_2⟩ := v; kernel_rfl
theorem Ya.l2_eq (k : Nat) (a0 : List (List C)) (a1 a2 a3 a4_0_0 : Int) (a4_1_0 a4_2_0 : List (List D)) (a4_3_0 aX aO : Int) (aV aK : List (List D)) (aS : Int) (bE : List (List C)) : ∀ n v, Ya.r2 k a0 a1 a2 a3 a4_0_0 a4_1_0 a4_2_0 a4_3_0 aX aO aV aK aS bE n v = Zo (Ya.l2 k (Ya.f k) aX aO aV aK aS bE (fun z0 => some z0)) n v :=
  Zm (Ya.s2 aX aO aV aK aS bE) _ fun L2 v => by obtain ⟨aY, bB⟩ := v; exact Eq.trans (b := Ya.m2 k (Ya.f k) aX aO aV aK aS bE (fun z0 => some z0) (fun v => L2 (Ya.s2 aX aO aV aK aS bE v)) (aY, bB) (fun bR => Ya.r3 k a0 a1 a2 a3 a4_0_0 a4_1_0 a4_2_0 a4_3_0 bR k)) (by kernel_rfl) (congrArg (Ya.m2 k (Ya.f k) aX aO aV aK aS bE (fun z0 => some z0) (fun v => L2 (Ya.s2 aX aO aV aK aS bE v)) (aY, bB)) (funext fun bR => funext fun v => Ya.l3_eq k a0 a1 a2 a3 a4_0_0 a4_1_0 a4_2_0 a4_3_0 bR k v))
theorem Ya.l1_eq (k : Nat) (a0 : List (List C)) (a1 a2 a3 a4_0_0 : Int) (a4_1_0 a4_2_0 : List (List D)) (a4_3_0 aW : Int) : ∀ n v, Ya.r1 k a0 a1 a2 a3 a4_0_0 a4_1_0 a4_2_0 a4_3_0 aW n v = Zo (Ya.l1 k (Ya.f k) aW (fun z0 => some z0)) n v :=
  Zm (Ya.s1 aW) _ fun L1 v => by obtain ⟨aM, aQ⟩ := v; kernel_rfl
theorem Ya.l0_eq (k : Nat) (a0 : List (List C)) (a1 a2 a3 a4_0_0 : Int) (a4_1_0 a4_2_0 : List (List D)) (a4_3_0 aA aB : Int) (aF aH : List (List D)) (aI : Int) (aT : List (List C)) : ∀ n v, Ya.r0 k a0 a1 a2 a3 a4_0_0 a4_1_0 a4_2_0 a4_3_0 aA aB aF aH aI aT n v = Zo (Ya.l0 k (Ya.f k) aA aB aF aH aI aT (fun z0 => some z0)) n v :=
  Zm (Ya.s0 aA aB aF aH aI aT) _ fun L0 v => by obtain ⟨aJ, aL⟩ := v; exact Eq.trans (b := Ya.m0 k (Ya.f k) aA aB aF aH aI aT (fun z0 => some z0) (fun v => L0 (Ya.s0 aA aB aF aH aI aT v)) (aJ, aL) (fun aW => Ya.r1 k a0 a1 a2 a3 a4_0_0 a4_1_0 a4_2_0 a4_3_0 aW k)) (by kernel_rfl) (congrArg (Ya.m0 k (Ya.f k) aA aB aF aH aI aT (fun z0 => some z0) (fun v => L0 (Ya.s0 aA aB aF aH aI aT v)) (aJ, aL)) (funext fun aW => funext fun v => Ya.l1_eq k a0 a1 a2 a3 a4_0_0 a4_1_0 a4_2_0 a4_3_0 aW k v))
theorem Ya.oks (k : Nat) : Za Tryz.prog 276 (Ya.e k) := by
  induction k with
  | zero => exact Z7 Tryz.func276 (by kernel_rfl) (fun _ _ _ _ _ _ _ _ => rfl)
  | succ k ih => exact Zh (Ya.p k) mix tyok Tryz.func276 ⟨Yaq.ok k, Yl.ok k, ih⟩ (by kernel_rfl) (fun a0 a1 a2 a3 a4_0_0 a4_1_0 a4_2_0 a4_3_0 => Eq.trans (b := Ya.m k (Ya.f k) a0 a1 a2 a3 a4_0_0 a4_1_0 a4_2_0 a4_3_0 (fun z0 => some z0) ((fun aA aB aF aH aI aT => Ya.r0 k a0 a1 a2 a3 a4_0_0 a4_1_0 a4_2_0 a4_3_0 aA aB aF aH aI aT k), (fun aX aO aV aK aS bE => Ya.r2 k a0 a1 a2 a3 a4_0_0 a4_1_0 a4_2_0 a4_3_0 aX aO aV aK aS bE k), (fun v4_0 v4_1 bQ v4_3 v4_4 v4_5 v4_6 bN bJ v4_11 bL => Ya.r4 k a0 a1 a2 a3 a4_0_0 a4_1_0 a4_2_0 a4_3_0 v4_0 v4_1 bQ v4_3 v4_4 v4_5 v4_6 bN bJ v4_11 bL k), (fun v5_0 v5_1 bP v5_3 v5_4 v5_5 v5_6 bM bI v5_11 bK => Ya.r5 k a0 a1 a2 a3 a4_0_0 a4_1_0 a4_2_0 a4_3_0 v5_0 v5_1 bP v5_3 v5_4 v5_5 v5_6 bM bI v5_11 bK k))) (by kernel_rfl) ((congrArg (Ya.m k (Ya.f k) a0 a1 a2 a3 a4_0_0 a4_1_0 a4_2_0 a4_3_0 (fun z0 => some z0)) (pair_eq (funext fun aA => funext fun aB => funext fun aF => funext fun aH => funext fun aI => funext fun aT => funext fun v => Ya.l0_eq k a0 a1 a2 a3 a4_0_0 a4_1_0 a4_2_0 a4_3_0 aA aB aF aH aI aT k v) (pair_eq (funext fun aX => funext fun aO => funext fun aV => funext fun aK => funext fun aS => funext fun bE => funext fun v => Ya.l2_eq k a0 a1 a2 a3 a4_0_0 a4_1_0 a4_2_0 a4_3_0 aX aO aV aK aS bE k v) (pair_eq (funext fun v4_0 => funext fun v4_1 => funext fun bQ => funext fun v4_3 => funext fun v4_4 => funext fun v4_5 => funext fun v4_6 => funext fun bN => funext fun bJ => funext fun v4_11 => funext fun bL => funext fun v => Ya.l4_eq k a0 a1 a2 a3 a4_0_0 a4_1_0 a4_2_0 a4_3_0 v4_0 v4_1 bQ v4_3 v4_4 v4_5 v4_6 bN bJ v4_11 bL k v) (funext fun v5_0 => funext fun v5_1 => funext fun bP => funext fun v5_3 => funext fun v5_4 => funext fun v5_5 => funext fun v5_6 => funext fun bM => funext fun bI => funext fun v5_11 => funext fun bK => funext fun v => Ya.l5_eq k a0 a1 a2 a3 a4_0_0 a4_1_0 a4_2_0 a4_3_0 v5_0 v5_1 bP v5_3 v5_4 v5_5 v5_6 bM bI v5_11 bK k v))))).trans (Ya.t_succ k a0 a1 a2 a3 a4_0_0 a4_1_0 a4_2_0 a4_3_0).symm))
theorem Ya.ok (k : Nat) : Za Tryz.prog 276 (Ya.e k) := (Ya.oks k)
end Go.Proofs.YtppfencdbabmeaaGreat
