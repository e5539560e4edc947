/- Printed: the functions that FnDelayed reaches, read by the evaluator, each with its contract. -/
import Derived.Test.YtpgplbalenfgfaaTLibs
import Derived.Test.YtpgplbalenfgfaaProg
import Derived.KernelRfl
set_option linter.unusedVariables false
set_option linter.unusedSimpArgs false
namespace Go.Proofs.Ytpgplbalenfgfaa
open Go Go.T Go.Proofs
theorem mix : Try.prog.follows .mixedOrders = true := by kernel_rfl
theorem tyok : ZaI Try.prog := tyOk_of (by kernel_rfl)
noncomputable def YX.g {β : Type} (k : Nat) (a0 : List (List D)) (K : Bool → Option β) : Option β :=
  K (decide (((a0.length : Int) : Int) > 1048576))
noncomputable def YX.t (k : Nat) (a0 : List (List D)) : Option (Bool) := YX.g k a0 (fun z0 => some z0)
noncomputable def YX.f {β : Type} (k : Nat) (a0 : List (List D)) (K : Bool → Option β) : Option β := bd1 (YX.t k a0) K
noncomputable def YX.e (k : Nat) : Zk := ent [.d .l] [1] [.b] [4] false (YX.t k)
noncomputable def YX.p (k : Nat) : Pro := ⟨Try.prog, [], Zn [] false [], k⟩
theorem YX.ok (k : Nat) : Za Try.prog 11 (YX.e k) := Zh (YX.p k) mix tyok Try.func11 trivial (by kernel_rfl) (fun a0 => by show _ = _; kernel_rfl)
noncomputable def Yw.l0 {β : Type} (k : Nat) (aE : List (List D)) (K : (List (List D)) → Int → Int → Option β) (L0 : (Int × Int) → Option β) (v : Int × Int) : Option β :=
  match v with
  | (aF, aG) => bif (decide ((aG : Int) < (aE.length : Int))) then (bif (decide ((aG : Int) < 4000)) then (atR aE aG [.i .u8] fun x8 => (L0 (IntKind.wrap .i64 ((BitVec.ofInt (IntKind.bits .i64) (IntKind.wrap .i64 ((IntKind.wrap .i64 ((IntKind.wrap .i64 (aF * 137)) + (IntKind.wrap .i64 x8))) + 11)) &&& BitVec.ofInt (IntKind.bits .i64) 1073741823).toNat), IntKind.wrap .i64 (aG + 1)))) else (K aE 0 aF)) else (K aE 0 aF)
noncomputable def Yw.m {β : Type} (k : Nat) (a0 : List (List D)) (K : (List (List D)) → Int → Int → Option β) (F : ((List (List D)) → (Int × Int) → Option β)) : Option β :=
  F a0 (IntKind.wrap .i64 (138138 + (a0.length : Int)), 0)
noncomputable def Yw.g {β : Type} (k : Nat) (a0 : List (List D)) (K : (List (List D)) → Int → Int → Option β) : Option β :=
  Zo (Yw.l0 k a0 K) k (IntKind.wrap .i64 (138138 + (a0.length : Int)), 0)
noncomputable def Yw.t (k : Nat) (a0 : List (List D)) : Option ((List (List D)) × Int × Int) := Yw.g k a0 (fun z0 z1 z2 => some (z0, z1, z2))
noncomputable def Yw.f {β : Type} (k : Nat) (a0 : List (List D)) (K : (List (List D)) → Int → Int → Option β) : Option β := bd3 (Yw.t k a0) K
noncomputable def Yw.e (k : Nat) : Zk := ent [.d .l] [3] [.l, .n, .n] [106] true (Yw.t k)
noncomputable def Yw.p (k : Nat) : Pro := ⟨Try.prog, [], Zn [(3, kp [0, 3, 4])] true [], k⟩
noncomputable def Yw.d (k : Nat) (a0 : List (List D)) : Ex → St → Option ((List (List D)) × Int × Int) := (Yw.p k).fin Try.f58 [.d (.sl a0)] [3] [.l, .n, .n]
noncomputable def Yw.s0 (aE : List (List D)) (v : Int × Int) : St :=
  match v with
  | (aF, aG) => ZX 32 [(0, .d false (.sl aE)), (3, .d true (.int .i64 aF)), (4, .d true (.int .i64 aG))] []
noncomputable def Yw.r0 (k : Nat) (a0 aE : List (List D)) (n : Nat) (v : Int × Int) : Option ((List (List D)) × Int × Int) := (Yw.p k).lp (Zt Try.f58) 3 [1, 1, 0, 1, 0] (Yw.d k a0) n (Yw.s0 aE v)
theorem Yw.l0_eq (k : Nat) (a0 aE : List (List D)) : ∀ n v, Yw.r0 k a0 aE n v = Zo (Yw.l0 k aE (fun z0 z1 z2 => some (z0, z1, z2))) n v :=
  Zm (Yw.s0 aE) _ fun L0 v => by obtain ⟨aF, aG⟩ := v; kernel_rfl
theorem Yw.ok (k : Nat) : Za Try.prog 58 (Yw.e k) := Zh (Yw.p k) mix tyok Try.func58 trivial (by kernel_rfl) (fun a0 => Eq.trans (b := Yw.m k a0 (fun z0 z1 z2 => some (z0, z1, z2)) (fun aE => Yw.r0 k a0 aE k)) (by kernel_rfl) (congrArg (Yw.m k a0 (fun z0 z1 z2 => some (z0, z1, z2))) (funext fun aE => funext fun v => Yw.l0_eq k a0 aE k v) :))
noncomputable def YM.g {β : Type} (k : Nat) (a0 : List (List D)) (a1 : Int) (K : Int → Option β) : Option β :=
  let J0 := (IntKind.wrap .i64 (3 + (IntKind.wrap .i64 (Int.tdiv (a0.length : Int) 12)))); Zc ((12 : Int) ≠ 0) (bif (decide ((J0 : Int) > a1)) then (K a1) else (K J0))
noncomputable def YM.t (k : Nat) (a0 : List (List D)) (a1 : Int) : Option (Int) := YM.g k a0 a1 (fun z0 => some z0)
noncomputable def YM.f {β : Type} (k : Nat) (a0 : List (List D)) (a1 : Int) (K : Int → Option β) : Option β := bd1 (YM.t k a0 a1) K
noncomputable def YM.e (k : Nat) : Zk := ent [.d .l, .d .n] [1] [.n] [3] false (YM.t k)
noncomputable def YM.p (k : Nat) : Pro := ⟨Try.prog, [], Zn [] false [], k⟩
theorem YM.ok (k : Nat) : Za Try.prog 60 (YM.e k) := Zh (YM.p k) mix tyok Try.func60 trivial (by kernel_rfl) (fun a0 a1 => by show _ = _; kernel_rfl)
noncomputable def YG.g {β : Type} (k : Nat) (aA : List (List D)) (aB aC : Int) (K : Int → (List (List D)) → Int → Int → Option β) : Option β :=
  let J1 := (IntKind.wrap .i64 ((IntKind.wrap .i64 (aC * 6364136223846793005)) + 1442695040888963407)); let J0 := (IntKind.wrap .i64 ((BitVec.ofInt (IntKind.bits .i64) (IntKind.wrap .i64 ((BitVec.ofInt (IntKind.bits .i64) (Int.fdiv J1 (2 ^ (min (33 : Int).toNat 64))) ^^^ BitVec.ofInt (IntKind.bits .i64) (Int.fdiv J1 (2 ^ (min (47 : Int).toNat 64)))).toNat)) &&& BitVec.ofInt (IntKind.bits .i64) 255).toNat)); Zc ((0 : Int) ≤ 33) (Zc ((0 : Int) ≤ 47) (bif (decide ((aB : Int) < (aA.length : Int))) then (atR aA aB [.i .u8] fun x4 => (K (IntKind.wrap .i64 ((BitVec.ofInt (IntKind.bits .i64) (IntKind.wrap .i64 (J0 + (IntKind.wrap .i64 x4))) &&& BitVec.ofInt (IntKind.bits .i64) 255).toNat)) aA (IntKind.wrap .i64 (aB + 1)) J1)) else (K J0 aA aB J1)))
noncomputable def YG.t (k : Nat) (aA : List (List D)) (aB aC : Int) : Option (Int × (List (List D)) × Int × Int) := YG.g k aA aB aC (fun z0 z1 z2 z3 => some (z0, z1, z2, z3))
noncomputable def YG.f {β : Type} (k : Nat) (aA : List (List D)) (aB aC : Int) (K : Int → (List (List D)) → Int → Int → Option β) : Option β := bd4 (YG.t k aA aB aC) K
noncomputable def YG.e (k : Nat) : Zk := ent [.box 178 [.l, .n, .n]] [1] [.n, .l, .n, .n] [3] false (YG.t k)
noncomputable def YG.p (k : Nat) : Pro := ⟨Try.prog, [], Zn [] false [], k⟩
theorem YG.ok (k : Nat) : Za Try.prog 174 (YG.e k) := Zh (YG.p k) mix tyok Try.func174 trivial (by kernel_rfl) (fun aA aB aC => by show _ = _; kernel_rfl)
noncomputable def Ys.g {β : Type} (k : Nat) (aA : List (List D)) (aB aC a1 : Int) (K : Int → (List (List D)) → Int → Int → Option β) : Option β :=
  bif (decide ((a1 : Int) ≤ 0)) then (K 0 aA aB aC) else (bif (decide ((a1 : Int) ≤ 256)) then (YG.f k aA aB aC (fun y5 y6 y7 y8 => Zc ((a1 : Int) ≠ 0) (K (Int.tmod y5 a1) y6 y7 y8))) else (YG.f k aA aB aC (fun y9 y10 y11 y12 => YG.f k y10 y11 y12 (fun y13 y14 y15 y16 => YG.f k y14 y15 y16 (fun y17 y18 y19 y20 => Zc ((a1 : Int) ≠ 0) (K (Int.tmod (IntKind.wrap .i64 ((IntKind.wrap .i64 ((IntKind.wrap .i64 (y9 * 65536)) + (IntKind.wrap .i64 (y13 * 256)))) + y17)) a1) y18 y19 y20))))))
noncomputable def Ys.t (k : Nat) (aA : List (List D)) (aB aC a1 : Int) : Option (Int × (List (List D)) × Int × Int) := Ys.g k aA aB aC a1 (fun z0 z1 z2 z3 => some (z0, z1, z2, z3))
noncomputable def Ys.f {β : Type} (k : Nat) (aA : List (List D)) (aB aC a1 : Int) (K : Int → (List (List D)) → Int → Int → Option β) : Option β := bd4 (Ys.t k aA aB aC a1) K
noncomputable def Ys.e (k : Nat) : Zk := ent [.box 178 [.l, .n, .n], .d .n] [1] [.n, .l, .n, .n] [3] false (Ys.t k)
noncomputable def Ys.p (k : Nat) : Pro := ⟨Try.prog, [(174, YG.e k)], Zn [] false [], k⟩
theorem Ys.ok (k : Nat) : Za Try.prog 112 (Ys.e k) := Zh (Ys.p k) mix tyok Try.func112 (YG.ok k) (by kernel_rfl) (fun aA aB aC a1 => by show _ = _; kernel_rfl)
noncomputable def YP.g {β : Type} (k : Nat) (aA : List (List D)) (aB aC : Int) (a1 : List (List D)) (K : ByteArray → (List (List D)) → Int → Int → Option β) : Option β :=
  Ys.f k aA aB aC (a1.length : Int) (fun y1 y2 y3 y4 => atR a1 y1 [.s] fun x8 => (K x8 y2 y3 y4))
noncomputable def YP.t (k : Nat) (aA : List (List D)) (aB aC : Int) (a1 : List (List D)) : Option (ByteArray × (List (List D)) × Int × Int) := YP.g k aA aB aC a1 (fun z0 z1 z2 z3 => some (z0, z1, z2, z3))
noncomputable def YP.f {β : Type} (k : Nat) (aA : List (List D)) (aB aC : Int) (a1 : List (List D)) (K : ByteArray → (List (List D)) → Int → Int → Option β) : Option β := bd4 (YP.t k aA aB aC a1) K
noncomputable def YP.e (k : Nat) : Zk := ent [.box 178 [.l, .n, .n], .d .l] [1] [.s, .l, .n, .n] [9] false (YP.t k)
noncomputable def YP.p (k : Nat) : Pro := ⟨Try.prog, [(112, Ys.e k)], Zn [] false [], k⟩
theorem YP.ok (k : Nat) : Za Try.prog 75 (YP.e k) := Zh (YP.p k) mix tyok Try.func75 (Ys.ok k) (by kernel_rfl) (fun aA aB aC a1 => by show _ = _; kernel_rfl)
noncomputable def YD.g {β : Type} (k : Nat) (aA aB aC : List (List D)) (aD : Int) (K : (List (List C)) → (List (List C)) → (List (List C)) → Int → Option β) : Option β :=
  Zc (ZaZ 3 aA) (Zc (([] : List (List C)).length + (aA.map (·.map C.d)).length ≤ ZN) (Zc (ZaZ 3 aB) (Zc (([] : List (List C)).length + (aB.map (·.map C.d)).length ≤ ZN) (Zc (ZaZ 1 aC) (Zc (([] : List (List C)).length + (aC.map (·.map C.d)).length ≤ ZN) (K (([] : List (List C)) ++ (aA.map (·.map C.d))) (([] : List (List C)) ++ (aB.map (·.map C.d))) (([] : List (List C)) ++ (aC.map (·.map C.d))) aD))))))
noncomputable def YD.t (k : Nat) (aA aB aC : List (List D)) (aD : Int) : Option ((List (List C)) × (List (List C)) × (List (List C)) × Int) := YD.g k aA aB aC aD (fun z0 z1 z2 z3 => some (z0, z1, z2, z3))
noncomputable def YD.f {β : Type} (k : Nat) (aA aB aC : List (List D)) (aD : Int) (K : (List (List C)) → (List (List C)) → (List (List C)) → Int → Option β) : Option β := bd4 (YD.t k aA aB aC aD) K
noncomputable def YD.e (k : Nat) : Zk := ent [.agg [.l, .l, .l, .n]] [4] [.o, .o, .o, .n] [27] false (YD.t k)
noncomputable def YD.p (k : Nat) : Pro := ⟨Try.prog, [], Zn [] false [], k⟩
theorem YD.ok (k : Nat) : Za Try.prog 65 (YD.e k) := Zh (YD.p k) mix tyok Try.func65 trivial (by kernel_rfl) (fun aA aB aC aD => by show _ = _; kernel_rfl)
noncomputable def YB.g {β : Type} (k : Nat) (a0 a1 a2 : Int) (K : Bool → Option β) : Option β :=
  bif (decide ((a0 : Int) ≥ a1)) then (K (decide ((a0 : Int) ≤ a2))) else (K false)
noncomputable def YB.t (k : Nat) (a0 a1 a2 : Int) : Option (Bool) := YB.g k a0 a1 a2 (fun z0 => some z0)
noncomputable def YB.f {β : Type} (k : Nat) (a0 a1 a2 : Int) (K : Bool → Option β) : Option β := bd1 (YB.t k a0 a1 a2) K
noncomputable def YB.e (k : Nat) : Zk := ent [.d .n, .d .n, .d .n] [1] [.b] [4] false (YB.t k)
noncomputable def YB.p (k : Nat) : Pro := ⟨Try.prog, [], Zn [] false [], k⟩
theorem YB.ok (k : Nat) : Za Try.prog 79 (YB.e k) := Zh (YB.p k) mix tyok Try.func79 trivial (by kernel_rfl) (fun a0 a1 a2 => by show _ = _; kernel_rfl)
noncomputable def Yj.l0 {β : Type} (k : Nat) (aE : ByteArray) (K : Bool → Option β) (L0 : Int → Option β) (v : Int) : Option β :=
  match v with
  | aF => bif (decide ((aF : Int) < (aE.size : Int))) then (Za0 aE aF fun b9 => YB.f k (IntKind.wrap .i64 b9) 97 122 (fun y10 => bif (!y10) then (Za0 aE aF fun b11 => YB.f k (IntKind.wrap .i64 b11) 48 57 (fun y12 => bif (!y12) then (Za0 aE aF fun b13 => bif ((b13 : Int) != 45) then (K false) else (L0 (IntKind.wrap .i64 (aF + 1)))) else (L0 (IntKind.wrap .i64 (aF + 1))))) else (L0 (IntKind.wrap .i64 (aF + 1))))) else (YB.f k (aE.size : Int) 1 20 (fun y14 => bif y14 then (Za0 aE 0 fun b15 => bif ((b15 : Int) != 45) then (Za0 aE (IntKind.wrap .i64 ((aE.size : Int) - 1)) fun b16 => K ((b16 : Int) != 45)) else (K false)) else (K false)))
noncomputable def Yj.m {β : Type} (k : Nat) (a0 : ByteArray) (K : Bool → Option β) (F : (ByteArray → Int → Option β)) : Option β :=
  F a0 (0)
noncomputable def Yj.g {β : Type} (k : Nat) (a0 : ByteArray) (K : Bool → Option β) : Option β :=
  Zo (Yj.l0 k a0 K) k (0)
noncomputable def Yj.t (k : Nat) (a0 : ByteArray) : Option (Bool) := Yj.g k a0 (fun z0 => some z0)
noncomputable def Yj.f {β : Type} (k : Nat) (a0 : ByteArray) (K : Bool → Option β) : Option β := bd1 (Yj.t k a0) K
noncomputable def Yj.e (k : Nat) : Zk := ent [.d .s] [1] [.b] [4] false (Yj.t k)
noncomputable def Yj.p (k : Nat) : Pro := ⟨Try.prog, [(79, YB.e k)], Zn [(2, kp [0, 3])] false [], k⟩
noncomputable def Yj.d (k : Nat) (a0 : ByteArray) : Ex → St → Option (Bool) := (Yj.p k).fin Try.f76 [.d (.str a0)] [1] [.b]
noncomputable def Yj.s0 (aE : ByteArray) (v : Int) : St :=
  match v with
  | aF => ZX 46 [(0, .d false (.str aE)), (3, .d true (.int .i64 aF))] []
noncomputable def Yj.r0 (k : Nat) (a0 aE : ByteArray) (n : Nat) (v : Int) : Option (Bool) := (Yj.p k).lp (Zt Try.f76) 2 [1, 0, 1, 0] (Yj.d k a0) n (Yj.s0 aE v)
theorem Yj.l0_eq (k : Nat) (a0 aE : ByteArray) : ∀ n v, Yj.r0 k a0 aE n v = Zo (Yj.l0 k aE (fun z0 => some z0)) n v :=
  Zm (Yj.s0 aE) _ fun L0 v => by kernel_rfl
theorem Yj.ok (k : Nat) : Za Try.prog 76 (Yj.e k) := Zh (Yj.p k) mix tyok Try.func76 (YB.ok k) (by kernel_rfl) (fun a0 => Eq.trans (b := Yj.m k a0 (fun z0 => some z0) (fun aE => Yj.r0 k a0 aE k)) (by kernel_rfl) (congrArg (Yj.m k a0 (fun z0 => some z0)) (funext fun aE => funext fun v => Yj.l0_eq k a0 aE k v) :))
noncomputable def Yq.l0 {β : Type} (k : Nat) (aE : List (List D)) (aF : ByteArray) (K L0 : Int → Option β) (v : Int) : Option β :=
  match v with
  | aG => bif (decide ((aG : Int) < (aE.length : Int))) then (atR aE aG [.s, .n, .n] fun x14 x17 x20 => (bif (Zae x14 aF) then (K aG) else (L0 (IntKind.wrap .i64 (aG + 1))))) else (K (-1))
noncomputable def Yq.m {β : Type} (k : Nat) (a0 : List (List D)) (a1 : ByteArray) (K : Int → Option β) (F : ((List (List D)) → ByteArray → Int → Option β)) : Option β :=
  F a0 a1 (0)
noncomputable def Yq.g {β : Type} (k : Nat) (a0 : List (List D)) (a1 : ByteArray) (K : Int → Option β) : Option β :=
  Zo (Yq.l0 k a0 a1 K) k (0)
noncomputable def Yq.t (k : Nat) (a0 : List (List D)) (a1 : ByteArray) : Option (Int) := Yq.g k a0 a1 (fun z0 => some z0)
noncomputable def Yq.f {β : Type} (k : Nat) (a0 : List (List D)) (a1 : ByteArray) (K : Int → Option β) : Option β := bd1 (Yq.t k a0 a1) K
noncomputable def Yq.e (k : Nat) : Zk := ent [.d .l, .d .s] [1] [.n] [3] false (Yq.t k)
noncomputable def Yq.p (k : Nat) : Pro := ⟨Try.prog, [], Zn [(2, kp [0, 1, 5])] false [], k⟩
noncomputable def Yq.d (k : Nat) (a0 : List (List D)) (a1 : ByteArray) : Ex → St → Option (Int) := (Yq.p k).fin Try.f77 [.d (.sl a0), .d (.str a1)] [1] [.n]
noncomputable def Yq.s0 (aE : List (List D)) (aF : ByteArray) (v : Int) : St :=
  match v with
  | aG => ZX 20 [(0, .d false (.sl aE)), (1, .d false (.str aF)), (5, .d true (.int .i64 aG))] []
noncomputable def Yq.r0 (k : Nat) (a0 : List (List D)) (a1 : ByteArray) (aE : List (List D)) (aF : ByteArray) (n : Nat) (v : Int) : Option (Int) := (Yq.p k).lp (Zt Try.f77) 2 [1, 0, 1, 0] (Yq.d k a0 a1) n (Yq.s0 aE aF v)
theorem Yq.l0_eq (k : Nat) (a0 : List (List D)) (a1 : ByteArray) (aE : List (List D)) (aF : ByteArray) : ∀ n v, Yq.r0 k a0 a1 aE aF n v = Zo (Yq.l0 k aE aF (fun z0 => some z0)) n v :=
  Zm (Yq.s0 aE aF) _ fun L0 v => by kernel_rfl
theorem Yq.ok (k : Nat) : Za Try.prog 77 (Yq.e k) := Zh (Yq.p k) mix tyok Try.func77 trivial (by kernel_rfl) (fun a0 a1 => Eq.trans (b := Yq.m k a0 a1 (fun z0 => some z0) (fun aE aF => Yq.r0 k a0 a1 aE aF k)) (by kernel_rfl) (congrArg (Yq.m k a0 a1 (fun z0 => some z0)) (funext fun aE => funext fun aF => funext fun v => Yq.l0_eq k a0 a1 aE aF k v) :))
noncomputable def Yd.l2 {β : Type} (k : Nat) (v2_0 : Int) (v2_2 v2_3 v2_4 : List (List D)) (v2_5 : Int) (L1 : (Int × (List (List D)) × (List (List D)) × (List (List D)) × Int) → Option β) (K : Bool → Option β) (L2 : Int → Option β) (v : Int) : Option β :=
  match v with
  | v2_1 => bif (decide ((v2_1 : Int) < v2_0)) then (atR v2_4 v2_1 [.s] fun x123 => (atR v2_4 v2_0 [.s] fun x127 => (bif (Zae x123 x127) then (K false) else (L2 (IntKind.wrap .i64 (v2_1 + 1)))))) else (L1 (IntKind.wrap .i64 (v2_0 + 1), v2_2, v2_3, v2_4, v2_5))
noncomputable def Yd.m1 {β : Type} (k : Nat) (K : Bool → Option β) (L1 : (Int × (List (List D)) × (List (List D)) × (List (List D)) × Int) → Option β) (v : Int × (List (List D)) × (List (List D)) × (List (List D)) × Int) (F : (Int → (List (List D)) → (List (List D)) → (List (List D)) → Int → Int → Option β)) : Option β :=
  match v with
  | (aN, aO, v1_2, aQ, v1_4) => bif (decide ((aN : Int) < (aQ.length : Int))) then (atR aQ aN [.s] fun x110 => (Yq.f k v1_2 x110 (fun y111 => bif (decide ((y111 : Int) < 0)) then (K false) else (F aN aO v1_2 aQ v1_4 (0))))) else (bif (decide (((aO.length : Int) : Int) ≤ 60)) then (bif (decide (((v1_2.length : Int) : Int) ≤ 60)) then (YB.f k v1_4 0 1000000 (fun y128 => K y128)) else (K false)) else (K false))
noncomputable def Yd.l1 {β : Type} (k : Nat) (K : Bool → Option β) (L1 : (Int × (List (List D)) × (List (List D)) × (List (List D)) × Int) → Option β) (v : Int × (List (List D)) × (List (List D)) × (List (List D)) × Int) : Option β := Yd.m1 k K L1 v (fun v2_0 v2_2 v2_3 v2_4 v2_5 => Zo (Yd.l2 k v2_0 v2_2 v2_3 v2_4 v2_5 L1 K) k)
noncomputable def Yd.m0 {β : Type} (k : Nat) (aF aG aH : List (List D)) (aJ : Int) (aI : List (List C)) (K : Bool → Option β) (L0 : Int → Option β) (v : Int) (F : ((Int × (List (List D)) × (List (List D)) × (List (List D)) × Int) → Option β)) : Option β :=
  match v with
  | aE => bif (decide ((aE : Int) < (aI.length : Int))) then (Zc ((0 : Int) ≤ aE ∧ aE < (aI.length : Int)) (ZaG aI (Int.toNat aE) fun c68 => Zas (c68.drop 0) fun c69 r70 => cD c69 fun d71 => dStr d71 fun x72 => Zas r70 fun c73 r74 => cD c73 fun d75 => dInt .i64 d75 fun x76 => Zas r74 fun c77 r78 => cD c77 fun d79 => dInt .i64 d79 fun x80 => Yj.f k x72 (fun y81 => bif (!y81) then (K false) else (Yq.f k (C.immRows aI) x72 (fun y82 => bif ((y82 : Int) != aE) then (K false) else (YB.f k x76 0 1000064 (fun y83 => bif (!y83) then (K false) else (YB.f k x80 0 1000 (fun y84 => bif (!y84) then (K false) else (bif (decide ((aE : Int) ≥ (aF.length : Int))) then (bif ((x76 : Int) != 0) then (K false) else (L0 (IntKind.wrap .i64 (aE + 1)))) else (L0 (IntKind.wrap .i64 (aE + 1))))))))))))) else (F (0, aF, aG, aH, aJ))
noncomputable def Yd.l0 {β : Type} (k : Nat) (aF aG aH : List (List D)) (aJ : Int) (aI : List (List C)) (K : Bool → Option β) (L0 : Int → Option β) (v : Int) : Option β := Yd.m0 k aF aG aH aJ aI K L0 v (Zo (Yd.l1 k K) k)
noncomputable def Yd.m {β : Type} (k : Nat) (aA aB aC : List (List D)) (aD : Int) (K : Bool → Option β) (F : ((List (List D)) → (List (List D)) → (List (List D)) → Int → (List (List C)) → Int → Option β)) : Option β :=
  Zc (ZaZ 3 aA) (Zc (([] : List (List C)).length + (aA.map (·.map C.d)).length ≤ ZN) (Zc (ZaZ 3 aB) (Zc ((([] : List (List C)) ++ (aA.map (·.map C.d))).length + (aB.map (·.map C.d)).length ≤ ZN) (F aA aB aC aD ((([] : List (List C)) ++ (aA.map (·.map C.d))) ++ (aB.map (·.map C.d))) (0)))))
noncomputable def Yd.g {β : Type} (k : Nat) (aA aB aC : List (List D)) (aD : Int) (K : Bool → Option β) : Option β := Yd.m k aA aB aC aD K (fun aF aG aH aJ aI => Zo (Yd.l0 k aF aG aH aJ aI K) k)
noncomputable def Yd.t (k : Nat) (aA aB aC : List (List D)) (aD : Int) : Option (Bool) := Yd.g k aA aB aC aD (fun z0 => some z0)
noncomputable def Yd.f {β : Type} (k : Nat) (aA aB aC : List (List D)) (aD : Int) (K : Bool → Option β) : Option β := bd1 (Yd.t k aA aB aC aD) K
noncomputable def Yd.e (k : Nat) : Zk := ent [.agg [.l, .l, .l, .n]] [1] [.b] [4] false (Yd.t k)
noncomputable def Yd.p (k : Nat) : Pro := ⟨Try.prog, [(76, Yj.e k), (77, Yq.e k), (79, YB.e k)], Zn [(3, kp [1, 3, 4]), (9, kp [1, 6]), (14, kp [1, 6, 7])] false [], k⟩
noncomputable def Yd.d (k : Nat) (aA aB aC : List (List D)) (aD : Int) : Ex → St → Option (Bool) := (Yd.p k).fin Try.f23 [.agg [.sl aA, .sl aB, .sl aC, .int .i64 aD]] [1] [.b]
noncomputable def Yd.s0 (aF aG aH : List (List D)) (aJ : Int) (aI : List (List C)) (v : Int) : St :=
  match v with
  | aE => ZX 108 [(1, .bp 0 0), (3, .row 1), (4, .d true (.int .i64 aE))] [.box none 27 [.d false (.sl aF), .d false (.sl aG), .d false (.sl aH), .d false (.int .i64 aJ)], .row none true 24 aI]
noncomputable def Yd.r0 (k : Nat) (aA aB aC : List (List D)) (aD : Int) (aF aG aH : List (List D)) (aJ : Int) (aI : List (List C)) (n : Nat) (v : Int) : Option (Bool) := (Yd.p k).lp (Zt Try.f23) 3 [1, 1, 0, 1, 0] (Yd.d k aA aB aC aD) n (Yd.s0 aF aG aH aJ aI v)
noncomputable def Yd.s1 (v : Int × (List (List D)) × (List (List D)) × (List (List D)) × Int) : St :=
  match v with
  | (aN, aO, v1_2, aQ, v1_4) => ZX 108 [(1, .bp 0 0), (6, .d true (.int .i64 aN))] [.box none 27 [.d false (.sl aO), .d false (.sl v1_2), .d false (.sl aQ), .d false (.int .i64 v1_4)]]
noncomputable def Yd.c1 (k : Nat) (aA aB aC : List (List D)) (aD : Int) : Ex → St → Option (Bool) := (Yd.p k).ct (Zt Try.f23) [1, 1, 1, 0, 1, 0] (Yd.d k aA aB aC aD)
noncomputable def Yd.r1 (k : Nat) (aA aB aC : List (List D)) (aD : Int) (n : Nat) (v : Int × (List (List D)) × (List (List D)) × (List (List D)) × Int) : Option (Bool) := (Yd.p k).lp (Zt Try.f23) 9 [1, 1, 1, 0, 1, 0] (Yd.d k aA aB aC aD) n (Yd.s1 v)
noncomputable def Yd.s2 (v2_0 : Int) (v2_2 v2_3 v2_4 : List (List D)) (v2_5 v : Int) : St :=
  match v with
  | v2_1 => ZX 108 [(1, .bp 0 0), (6, .d true (.int .i64 v2_0)), (7, .d true (.int .i64 v2_1))] [.box none 27 [.d false (.sl v2_2), .d false (.sl v2_3), .d false (.sl v2_4), .d false (.int .i64 v2_5)]]
noncomputable def Yd.r2 (k : Nat) (aA aB aC : List (List D)) (aD v2_0 : Int) (v2_2 v2_3 v2_4 : List (List D)) (v2_5 : Int) (L1 : St → Option (Bool)) (n : Nat) (v : Int) : Option (Bool) := (Yd.p k).lp (codeAt [1, 1, 1, 0, 1, 0, 0] (Zt Try.f23)) 14 [1, 0, 0, 1, 1, 0] (backK ((Yd.p k).h.H 9) L1 (Yd.c1 k aA aB aC aD)) n (Yd.s2 v2_0 v2_2 v2_3 v2_4 v2_5 v)
theorem Yd.l2_eq (k : Nat) (aA aB aC : List (List D)) (aD v2_0 : Int) (v2_2 v2_3 v2_4 : List (List D)) (v2_5 : Int) (L1 : St → Option (Bool)) : ∀ n v, Yd.r2 k aA aB aC aD v2_0 v2_2 v2_3 v2_4 v2_5 L1 n v = Zo (Yd.l2 k v2_0 v2_2 v2_3 v2_4 v2_5 (fun v => L1 (Yd.s1 v)) (fun z0 => some z0)) n v :=
  Zm (Yd.s2 v2_0 v2_2 v2_3 v2_4 v2_5) _ fun L2 v => by kernel_rfl
theorem Yd.l1_eq (k : Nat) (aA aB aC : List (List D)) (aD : Int) : ∀ n v, Yd.r1 k aA aB aC aD n v = Zo (Yd.l1 k (fun z0 => some z0)) n v :=
  Zm (Yd.s1) _ fun L1 v => by obtain ⟨aN, aO, v1_2, aQ, v1_4⟩ := v; exact Eq.trans (b := Yd.m1 k (fun z0 => some z0) (fun v => L1 (Yd.s1 v)) (aN, aO, v1_2, aQ, v1_4) (fun v2_0 v2_2 v2_3 v2_4 v2_5 => Yd.r2 k aA aB aC aD v2_0 v2_2 v2_3 v2_4 v2_5 L1 k)) (by kernel_rfl) (congrArg (Yd.m1 k (fun z0 => some z0) (fun v => L1 (Yd.s1 v)) (aN, aO, v1_2, aQ, v1_4)) (funext fun v2_0 => funext fun v2_2 => funext fun v2_3 => funext fun v2_4 => funext fun v2_5 => funext fun v => Yd.l2_eq k aA aB aC aD v2_0 v2_2 v2_3 v2_4 v2_5 L1 k v))
theorem Yd.l0_eq (k : Nat) (aA aB aC : List (List D)) (aD : Int) (aF aG aH : List (List D)) (aJ : Int) (aI : List (List C)) : ∀ n v, Yd.r0 k aA aB aC aD aF aG aH aJ aI n v = Zo (Yd.l0 k aF aG aH aJ aI (fun z0 => some z0)) n v :=
  Zm (Yd.s0 aF aG aH aJ aI) _ fun L0 v => by exact Eq.trans (b := Yd.m0 k aF aG aH aJ aI (fun z0 => some z0) (fun v => L0 (Yd.s0 aF aG aH aJ aI v)) v (Yd.r1 k aA aB aC aD k)) (by kernel_rfl) (congrArg (Yd.m0 k aF aG aH aJ aI (fun z0 => some z0) (fun v => L0 (Yd.s0 aF aG aH aJ aI v)) v) (funext fun v => Yd.l1_eq k aA aB aC aD k v))
theorem Yd.ok (k : Nat) : Za Try.prog 23 (Yd.e k) := Zh (Yd.p k) mix tyok Try.func23 ⟨Yj.ok k, Yq.ok k, YB.ok k⟩ (by kernel_rfl) (fun aA aB aC aD => Eq.trans (b := Yd.m k aA aB aC aD (fun z0 => some z0) (fun aF aG aH aJ aI => Yd.r0 k aA aB aC aD aF aG aH aJ aI k)) (by kernel_rfl) (congrArg (Yd.m k aA aB aC aD (fun z0 => some z0)) (funext fun aF => funext fun aG => funext fun aH => funext fun aJ => funext fun aI => funext fun v => Yd.l0_eq k aA aB aC aD aF aG aH aJ aI k v) :))
noncomputable def Yr.l0 {β : Type} (k : Nat) (aE : List (List D)) (aF : ByteArray) (K : Bool → Option β) (L0 : Int → Option β) (v : Int) : Option β :=
  match v with
  | aG => bif (decide ((aG : Int) < (aE.length : Int))) then (atR aE aG [.s] fun x8 => (bif (Zae x8 aF) then (K true) else (L0 (IntKind.wrap .i64 (aG + 1))))) else (K false)
noncomputable def Yr.m {β : Type} (k : Nat) (a0 : List (List D)) (a1 : ByteArray) (K : Bool → Option β) (F : ((List (List D)) → ByteArray → Int → Option β)) : Option β :=
  F a0 a1 (0)
noncomputable def Yr.g {β : Type} (k : Nat) (a0 : List (List D)) (a1 : ByteArray) (K : Bool → Option β) : Option β :=
  Zo (Yr.l0 k a0 a1 K) k (0)
noncomputable def Yr.t (k : Nat) (a0 : List (List D)) (a1 : ByteArray) : Option (Bool) := Yr.g k a0 a1 (fun z0 => some z0)
noncomputable def Yr.f {β : Type} (k : Nat) (a0 : List (List D)) (a1 : ByteArray) (K : Bool → Option β) : Option β := bd1 (Yr.t k a0 a1) K
noncomputable def Yr.e (k : Nat) : Zk := ent [.d .l, .d .s] [1] [.b] [4] false (Yr.t k)
noncomputable def Yr.p (k : Nat) : Pro := ⟨Try.prog, [], Zn [(2, kp [0, 1, 5])] false [], k⟩
noncomputable def Yr.d (k : Nat) (a0 : List (List D)) (a1 : ByteArray) : Ex → St → Option (Bool) := (Yr.p k).fin Try.f78 [.d (.sl a0), .d (.str a1)] [1] [.b]
noncomputable def Yr.s0 (aE : List (List D)) (aF : ByteArray) (v : Int) : St :=
  match v with
  | aG => ZX 18 [(0, .d false (.sl aE)), (1, .d false (.str aF)), (5, .d true (.int .i64 aG))] []
noncomputable def Yr.r0 (k : Nat) (a0 : List (List D)) (a1 : ByteArray) (aE : List (List D)) (aF : ByteArray) (n : Nat) (v : Int) : Option (Bool) := (Yr.p k).lp (Zt Try.f78) 2 [1, 0, 1, 0] (Yr.d k a0 a1) n (Yr.s0 aE aF v)
theorem Yr.l0_eq (k : Nat) (a0 : List (List D)) (a1 : ByteArray) (aE : List (List D)) (aF : ByteArray) : ∀ n v, Yr.r0 k a0 a1 aE aF n v = Zo (Yr.l0 k aE aF (fun z0 => some z0)) n v :=
  Zm (Yr.s0 aE aF) _ fun L0 v => by kernel_rfl
theorem Yr.ok (k : Nat) : Za Try.prog 78 (Yr.e k) := Zh (Yr.p k) mix tyok Try.func78 trivial (by kernel_rfl) (fun a0 a1 => Eq.trans (b := Yr.m k a0 a1 (fun z0 => some z0) (fun aE aF => Yr.r0 k a0 a1 aE aF k)) (by kernel_rfl) (congrArg (Yr.m k a0 a1 (fun z0 => some z0)) (funext fun aE => funext fun aF => funext fun v => Yr.l0_eq k a0 a1 aE aF k v) :))
noncomputable def YU.g {β : Type} (k : Nat) (aA aB aC : List (List D)) (aD : Int) (a1 : ByteArray) (K : (List (List C)) → (List (List C)) → (List (List C)) → Int → Bool → Option β) : Option β :=
  YD.f k aA aB aC aD (fun y1 y2 y3 y4 => Yd.f k aA aB aC aD (fun y129 => bif (!y129) then (K y1 y2 y3 y4 false) else (Yj.f k a1 (fun y130 => bif (!y130) then (K y1 y2 y3 y4 false) else (Yq.f k aB a1 (fun y131 => bif (decide ((y131 : Int) ≥ 0)) then (Yr.f k aC a1 (fun y132 => bif (!y132) then (Zc (y3.length + ([[.d (.str a1)]] : List (List C)).length ≤ ZN) (K y1 y2 (y3 ++ ([[.d (.str a1)]] : List (List C))) y4 true)) else (K y1 y2 y3 y4 true))) else (Yq.f k aA a1 (fun y133 => bif (decide ((y133 : Int) ≥ 0)) then (Zc ((0 : Int) ≤ y133 ∧ y133 < (y1.length : Int)) (ZaG y1 (Int.toNat y133) fun c134 => Zas (c134.drop 1) fun c135 r136 => cD c135 fun d137 => dInt .i64 d137 fun x138 => bif (decide ((x138 : Int) > aD)) then (Zc ((0 : Int) ≤ y133 ∧ y133 < (y1.length : Int)) (Zc (Int.toNat y133 < y1.length) (K (y1.modify (Int.toNat y133) fun c => Zq c 1 [.d (.int .i64 aD)]) y2 y3 y4 true))) else (K y1 y2 y3 y4 true))) else (bif (((aA.length : Int) : Int) == 60) then (K y1 y2 y3 y4 false) else (Zc (y1.length + ([[.d (.str a1), .d (.int .i64 aD), .d (.int .i64 0)]] : List (List C)).length ≤ ZN) (K (y1 ++ ([[.d (.str a1), .d (.int .i64 aD), .d (.int .i64 0)]] : List (List C))) y2 y3 y4 true)))))))))))
noncomputable def YU.t (k : Nat) (aA aB aC : List (List D)) (aD : Int) (a1 : ByteArray) : Option ((List (List C)) × (List (List C)) × (List (List C)) × Int × Bool) := YU.g k aA aB aC aD a1 (fun z0 z1 z2 z3 z4 => some (z0, z1, z2, z3, z4))
noncomputable def YU.f {β : Type} (k : Nat) (aA aB aC : List (List D)) (aD : Int) (a1 : ByteArray) (K : (List (List C)) → (List (List C)) → (List (List C)) → Int → Bool → Option β) : Option β := bd5 (YU.t k aA aB aC aD a1) K
noncomputable def YU.e (k : Nat) : Zk := ent [.agg [.l, .l, .l, .n], .d .s] [4, 1] [.o, .o, .o, .n, .b] [27, 4] false (YU.t k)
noncomputable def YU.p (k : Nat) : Pro := ⟨Try.prog, [(65, YD.e k), (23, Yd.e k), (76, Yj.e k), (77, Yq.e k), (78, Yr.e k)], Zn [] false [], k⟩
theorem YU.ok (k : Nat) : Za Try.prog 22 (YU.e k) := Zh (YU.p k) mix tyok Try.func22 ⟨YD.ok k, Yd.ok k, Yj.ok k, Yq.ok k, Yr.ok k⟩ (by kernel_rfl) (fun aA aB aC aD a1 => by show _ = _; kernel_rfl)
noncomputable def Yx.l0 {β : Type} (k : Nat) (aF aG aH : List (List D)) (aJ aI aK : Int) (aL aM aP : List (List C)) (K : (List (List C)) → (List (List C)) → (List (List C)) → Int → ByteArray → Bool → Option β) (L0 : Int → Option β) (v : Int) : Option β :=
  match v with
  | aE => bif (decide ((aE : Int) < (aF.length : Int))) then (Yd.f k aF aG aH aJ (fun y16 => bif y16 then (bif (decide (((aG.length : Int) : Int) < 60)) then (atR aF aE [.s, .n, .n] fun x20 x23 x26 => (bif (decide ((x23 : Int) ≤ aJ)) then (let J1 := ((aF.drop (Int.toNat (IntKind.wrap .i64 (aE + 1) : Int))).take (Int.toNat (aF.length : Int) - Int.toNat (IntKind.wrap .i64 (aE + 1) : Int))); let J0 := (J1.map (·.map C.d)); let J4 := ((aF.drop (Int.toNat (0 : Int))).take (Int.toNat (aE : Int) - Int.toNat (0 : Int))); let J3 := (J4.map (·.map C.d)); let J2 := (([] : List (List C)) ++ J3); Zc (0 ≤ (0 : Int) ∧ (0 : Int) ≤ (aE : Int) ∧ (aE : Int) ≤ (aF.length : Int) ∧ rowsOk 3 aF) (Zc (ZaZ 3 J4) (Zc (([] : List (List C)).length + J3.length ≤ ZN) (Zc (0 ≤ (IntKind.wrap .i64 (aE + 1) : Int) ∧ (IntKind.wrap .i64 (aE + 1) : Int) ≤ (aF.length : Int) ∧ (aF.length : Int) ≤ (aF.length : Int) ∧ rowsOk 3 aF) (Zc (ZaZ 3 J1) (Zc (J2.length + J0.length ≤ ZN) (Zc (aM.length + ([[.d (.str x20), .d (.int .i64 0), .d (.int .i64 x26)]] : List (List C)).length ≤ ZN) (K (J2 ++ J0) (aM ++ ([[.d (.str x20), .d (.int .i64 0), .d (.int .i64 x26)]] : List (List C))) aP aK x20 true)))))))) else (L0 (IntKind.wrap .i64 (aE + 1))))) else (K aL aM aP aK (⟨#[]⟩ : ByteArray) false)) else (K aL aM aP aK (⟨#[]⟩ : ByteArray) false))) else (K aL aM aP aK (⟨#[]⟩ : ByteArray) false)
noncomputable def Yx.m {β : Type} (k : Nat) (aA aB aC : List (List D)) (aD : Int) (K : (List (List C)) → (List (List C)) → (List (List C)) → Int → ByteArray → Bool → Option β) (F : ((List (List D)) → (List (List D)) → (List (List D)) → Int → Int → Int → (List (List C)) → (List (List C)) → (List (List C)) → Int → Option β)) : Option β :=
  YD.f k aA aB aC aD (fun y1 y2 y3 y4 => F aA aB aC aD 0 y4 y1 y2 y3 (0))
noncomputable def Yx.g {β : Type} (k : Nat) (aA aB aC : List (List D)) (aD : Int) (K : (List (List C)) → (List (List C)) → (List (List C)) → Int → ByteArray → Bool → Option β) : Option β :=
  YD.f k aA aB aC aD (fun y1 y2 y3 y4 => Zo (Yx.l0 k aA aB aC aD 0 y4 y1 y2 y3 K) k (0))
noncomputable def Yx.t (k : Nat) (aA aB aC : List (List D)) (aD : Int) : Option ((List (List C)) × (List (List C)) × (List (List C)) × Int × ByteArray × Bool) := Yx.g k aA aB aC aD (fun z0 z1 z2 z3 z4 z5 => some (z0, z1, z2, z3, z4, z5))
noncomputable def Yx.f {β : Type} (k : Nat) (aA aB aC : List (List D)) (aD : Int) (K : (List (List C)) → (List (List C)) → (List (List C)) → Int → ByteArray → Bool → Option β) : Option β := match Yx.t k aA aB aC aD with | some (z0, z1, z2, z3, z4, z5) => K z0 z1 z2 z3 z4 z5 | none => none
noncomputable def Yx.e (k : Nat) : Zk := ent [.agg [.l, .l, .l, .n]] [4, 1, 1] [.o, .o, .o, .n, .s, .b] [27, 9, 4] false (Yx.t k)
noncomputable def Yx.p (k : Nat) : Pro := ⟨Try.prog, [(65, YD.e k), (23, Yd.e k)], Zn [(3, kp [1, 2, 5, 6])] false [], k⟩
noncomputable def Yx.d (k : Nat) (aA aB aC : List (List D)) (aD : Int) : Ex → St → Option ((List (List C)) × (List (List C)) × (List (List C)) × Int × ByteArray × Bool) := (Yx.p k).fin Try.f14 [.agg [.sl aA, .sl aB, .sl aC, .int .i64 aD]] [4, 1, 1] [.o, .o, .o, .n, .s, .b]
noncomputable def Yx.s0 (aF aG aH : List (List D)) (aJ aI aK : Int) (aL aM aP : List (List C)) (v : Int) : St :=
  match v with
  | aE => ZX 64 [(1, .bp 0 0), (2, .bp 1 0), (5, .bp 2 0), (6, .d true (.int .i64 aE))] [.box none 27 [.d false (.sl aF), .d false (.sl aG), .d false (.sl aH), .d false (.int .i64 aJ)], .box none 27 [.nil, .nil, .nil, .d true (.int .i64 aI)], .box none 27 [.row 3, .row 4, .row 5, .d true (.int .i64 aK)], .row none true 24 aL, .row none true 24 aM, .row none true 25 aP]
noncomputable def Yx.r0 (k : Nat) (aA aB aC : List (List D)) (aD : Int) (aF aG aH : List (List D)) (aJ aI aK : Int) (aL aM aP : List (List C)) (n : Nat) (v : Int) : Option ((List (List C)) × (List (List C)) × (List (List C)) × Int × ByteArray × Bool) := (Yx.p k).lp (Zt Try.f14) 3 [1, 1, 0, 1, 0] (Yx.d k aA aB aC aD) n (Yx.s0 aF aG aH aJ aI aK aL aM aP v)
theorem Yx.l0_eq (k : Nat) (aA aB aC : List (List D)) (aD : Int) (aF aG aH : List (List D)) (aJ aI aK : Int) (aL aM aP : List (List C)) : ∀ n v, Yx.r0 k aA aB aC aD aF aG aH aJ aI aK aL aM aP n v = Zo (Yx.l0 k aF aG aH aJ aI aK aL aM aP (fun z0 z1 z2 z3 z4 z5 => some (z0, z1, z2, z3, z4, z5))) n v :=
  Zm (Yx.s0 aF aG aH aJ aI aK aL aM aP) _ fun L0 v => by kernel_rfl
theorem Yx.ok (k : Nat) : Za Try.prog 14 (Yx.e k) := Zh (Yx.p k) mix tyok Try.func14 ⟨YD.ok k, Yd.ok k⟩ (by kernel_rfl) (fun aA aB aC aD => Eq.trans (b := Yx.m k aA aB aC aD (fun z0 z1 z2 z3 z4 z5 => some (z0, z1, z2, z3, z4, z5)) (fun aF aG aH aJ aI aK aL aM aP => Yx.r0 k aA aB aC aD aF aG aH aJ aI aK aL aM aP k)) (by kernel_rfl) (congrArg (Yx.m k aA aB aC aD (fun z0 z1 z2 z3 z4 z5 => some (z0, z1, z2, z3, z4, z5))) (funext fun aF => funext fun aG => funext fun aH => funext fun aJ => funext fun aI => funext fun aK => funext fun aL => funext fun aM => funext fun aP => funext fun v => Yx.l0_eq k aA aB aC aD aF aG aH aJ aI aK aL aM aP k v) :))
noncomputable def YJ.g {β : Type} (k : Nat) (aA : List (List D)) (aB aC a1 : Int) (K : Bool → (List (List D)) → Int → Int → Option β) : Option β :=
  Ys.f k aA aB aC a1 (fun y1 y2 y3 y4 => K ((y1 : Int) == 0) y2 y3 y4)
noncomputable def YJ.t (k : Nat) (aA : List (List D)) (aB aC a1 : Int) : Option (Bool × (List (List D)) × Int × Int) := YJ.g k aA aB aC a1 (fun z0 z1 z2 z3 => some (z0, z1, z2, z3))
noncomputable def YJ.f {β : Type} (k : Nat) (aA : List (List D)) (aB aC a1 : Int) (K : Bool → (List (List D)) → Int → Int → Option β) : Option β := bd4 (YJ.t k aA aB aC a1) K
noncomputable def YJ.e (k : Nat) : Zk := ent [.box 178 [.l, .n, .n], .d .n] [1] [.b, .l, .n, .n] [4] false (YJ.t k)
noncomputable def YJ.p (k : Nat) : Pro := ⟨Try.prog, [(112, Ys.e k)], Zn [] false [], k⟩
theorem YJ.ok (k : Nat) : Za Try.prog 81 (YJ.e k) := Zh (YJ.p k) mix tyok Try.func81 (Ys.ok k) (by kernel_rfl) (fun aA aB aC a1 => by show _ = _; kernel_rfl)
noncomputable def Ym.l0 {β : Type} (k : Nat) (aE : Int) (K : Int → Option β) (L0 : (Int × Int) → Option β) (v : Int × Int) : Option β :=
  match v with
  | (aF, aG) => bif (decide ((aG : Int) < aE)) then (bif (decide ((aF : Int) < 64)) then (L0 (IntKind.wrap .i64 (aF * 2), IntKind.wrap .i64 (aG + 1))) else (K aF)) else (K aF)
noncomputable def Ym.m {β : Type} (k : Nat) (a0 : Int) (K : Int → Option β) (F : (Int → (Int × Int) → Option β)) : Option β :=
  F a0 (1, 1)
noncomputable def Ym.g {β : Type} (k : Nat) (a0 : Int) (K : Int → Option β) : Option β :=
  Zo (Ym.l0 k a0 K) k (1, 1)
noncomputable def Ym.t (k : Nat) (a0 : Int) : Option (Int) := Ym.g k a0 (fun z0 => some z0)
noncomputable def Ym.f {β : Type} (k : Nat) (a0 : Int) (K : Int → Option β) : Option β := bd1 (Ym.t k a0) K
noncomputable def Ym.e (k : Nat) : Zk := ent [.d .n] [1] [.n] [3] false (Ym.t k)
noncomputable def Ym.p (k : Nat) : Pro := ⟨Try.prog, [], Zn [(3, kp [0, 3, 4])] false [], k⟩
noncomputable def Ym.d (k : Nat) (a0 : Int) : Ex → St → Option (Int) := (Ym.p k).fin Try.f209 [.d (.int .i64 a0)] [1] [.n]
noncomputable def Ym.s0 (aE : Int) (v : Int × Int) : St :=
  match v with
  | (aF, aG) => ZX 17 [(0, .d false (.int .i64 aE)), (3, .d true (.int .i64 aF)), (4, .d true (.int .i64 aG))] []
noncomputable def Ym.r0 (k : Nat) (a0 aE : Int) (n : Nat) (v : Int × Int) : Option (Int) := (Ym.p k).lp (Zt Try.f209) 3 [1, 1, 0, 1, 0] (Ym.d k a0) n (Ym.s0 aE v)
theorem Ym.l0_eq (k : Nat) (a0 aE : Int) : ∀ n v, Ym.r0 k a0 aE n v = Zo (Ym.l0 k aE (fun z0 => some z0)) n v :=
  Zm (Ym.s0 aE) _ fun L0 v => by obtain ⟨aF, aG⟩ := v; kernel_rfl
theorem Ym.ok (k : Nat) : Za Try.prog 209 (Ym.e k) := Zh (Ym.p k) mix tyok Try.func209 trivial (by kernel_rfl) (fun a0 => Eq.trans (b := Ym.m k a0 (fun z0 => some z0) (fun aE => Ym.r0 k a0 aE k)) (by kernel_rfl) (congrArg (Ym.m k a0 (fun z0 => some z0)) (funext fun aE => funext fun v => Ym.l0_eq k a0 aE k v) :))
noncomputable def Yy.l0 {β : Type} (k : Nat) (aE : ByteArray) (aF : Bool) (aH aJ aI : List (List D)) (aK aL aM : Int) (aP : ByteArray) (v0_10 v0_11 : Int) (v0_12 v0_13 : List (List C)) (K : (List (List C)) → (List (List C)) → (List (List C)) → Int → Bool → Option β) (L0 : (Int × (List (List C))) → Option β) (v : Int × (List (List C))) : Option β :=
  match v with
  | (aG, v0_14) => bif (decide ((aG : Int) < (aI.length : Int))) then (atR aI aG [.s] fun x33 => (bif (!(Zae x33 aE)) then (atR aI aG [.s] fun x37 => (Zc (v0_14.length + ([[.d (.str x37)]] : List (List C)).length ≤ ZN) (L0 (IntKind.wrap .i64 (aG + 1), v0_14 ++ ([[.d (.str x37)]] : List (List C)))))) else (L0 (IntKind.wrap .i64 (aG + 1), v0_14)))) else (let J0 := (Zc (v0_12.length + ([[.d (.str aE), .d (.int .i64 aK), .d (.int .i64 0)]] : List (List C)).length ≤ ZN) (K (v0_12 ++ ([[.d (.str aE), .d (.int .i64 aK), .d (.int .i64 0)]] : List (List C))) v0_13 v0_14 aM true)); bif aF then (Yr.f k aI aE (fun y38 => bif (!y38) then (K v0_12 v0_13 v0_14 aM true) else (bif (((aH.length : Int) : Int) == 60) then (K v0_12 v0_13 v0_14 aM true) else (bif aF then J0 else (bif (decide ((v0_11 : Int) < 1000)) then (Ym.f k (IntKind.wrap .i64 (v0_11 + 1)) (fun y39 => Zc (v0_12.length + ([[.d (.str aE), .d (.int .i64 (IntKind.wrap .i64 (aK + y39))), .d (.int .i64 (IntKind.wrap .i64 (v0_11 + 1)))]] : List (List C)).length ≤ ZN) (K (v0_12 ++ ([[.d (.str aE), .d (.int .i64 (IntKind.wrap .i64 (aK + y39))), .d (.int .i64 (IntKind.wrap .i64 (v0_11 + 1)))]] : List (List C))) v0_13 v0_14 aM true))) else (Ym.f k v0_11 (fun y40 => Zc (v0_12.length + ([[.d (.str aE), .d (.int .i64 (IntKind.wrap .i64 (aK + y40))), .d (.int .i64 v0_11)]] : List (List C)).length ≤ ZN) (K (v0_12 ++ ([[.d (.str aE), .d (.int .i64 (IntKind.wrap .i64 (aK + y40))), .d (.int .i64 v0_11)]] : List (List C))) v0_13 v0_14 aM true)))))))) else (bif (((aH.length : Int) : Int) == 60) then (K v0_12 v0_13 v0_14 aM true) else (bif aF then J0 else (bif (decide ((v0_11 : Int) < 1000)) then (Ym.f k (IntKind.wrap .i64 (v0_11 + 1)) (fun y41 => Zc (v0_12.length + ([[.d (.str aE), .d (.int .i64 (IntKind.wrap .i64 (aK + y41))), .d (.int .i64 (IntKind.wrap .i64 (v0_11 + 1)))]] : List (List C)).length ≤ ZN) (K (v0_12 ++ ([[.d (.str aE), .d (.int .i64 (IntKind.wrap .i64 (aK + y41))), .d (.int .i64 (IntKind.wrap .i64 (v0_11 + 1)))]] : List (List C))) v0_13 v0_14 aM true))) else (Ym.f k v0_11 (fun y42 => Zc (v0_12.length + ([[.d (.str aE), .d (.int .i64 (IntKind.wrap .i64 (aK + y42))), .d (.int .i64 v0_11)]] : List (List C)).length ≤ ZN) (K (v0_12 ++ ([[.d (.str aE), .d (.int .i64 (IntKind.wrap .i64 (aK + y42))), .d (.int .i64 v0_11)]] : List (List C))) v0_13 v0_14 aM true)))))))
noncomputable def Yy.m {β : Type} (k : Nat) (aA aB aC : List (List D)) (aD : Int) (a1 : ByteArray) (a2 : Bool) (K : (List (List C)) → (List (List C)) → (List (List C)) → Int → Bool → Option β) (F : (ByteArray → Bool → (List (List D)) → (List (List D)) → (List (List D)) → Int → Int → Int → ByteArray → Int → Int → (List (List C)) → (List (List C)) → (Int × (List (List C))) → Option β)) : Option β :=
  YD.f k aA aB aC aD (fun y1 y2 y3 y4 => Yq.f k aB a1 (fun y5 => Yd.f k aA aB aC aD (fun y6 => bif (!y6) then (K y1 y2 y3 y4 false) else (bif (decide ((y5 : Int) < 0)) then (K y1 y2 y3 y4 false) else (atR aB y5 [.s, .n, .n] fun x10 x13 x16 => let J1 := ((aB.drop (Int.toNat (IntKind.wrap .i64 (y5 + 1) : Int))).take (Int.toNat (aB.length : Int) - Int.toNat (IntKind.wrap .i64 (y5 + 1) : Int))); let J0 := (J1.map (·.map C.d)); let J4 := ((aB.drop (Int.toNat (0 : Int))).take (Int.toNat (y5 : Int) - Int.toNat (0 : Int))); let J3 := (J4.map (·.map C.d)); let J2 := (([] : List (List C)) ++ J3); (Zc (0 ≤ (0 : Int) ∧ (0 : Int) ≤ (y5 : Int) ∧ (y5 : Int) ≤ (aB.length : Int) ∧ rowsOk 3 aB) (Zc (ZaZ 3 J4) (Zc (([] : List (List C)).length + J3.length ≤ ZN) (Zc (0 ≤ (IntKind.wrap .i64 (y5 + 1) : Int) ∧ (IntKind.wrap .i64 (y5 + 1) : Int) ≤ (aB.length : Int) ∧ (aB.length : Int) ≤ (aB.length : Int) ∧ rowsOk 3 aB) (Zc (ZaZ 3 J1) (Zc (J2.length + J0.length ≤ ZN) (F a1 a2 aA aB aC aD 0 y4 x10 x13 x16 y1 (J2 ++ J0) (0, ([] : List (List C)))))))))))))))
noncomputable def Yy.g {β : Type} (k : Nat) (aA aB aC : List (List D)) (aD : Int) (a1 : ByteArray) (a2 : Bool) (K : (List (List C)) → (List (List C)) → (List (List C)) → Int → Bool → Option β) : Option β := Yy.m k aA aB aC aD a1 a2 K (fun aE aF aH aJ aI aK aL aM aP v0_10 v0_11 v0_12 v0_13 => Zo (Yy.l0 k aE aF aH aJ aI aK aL aM aP v0_10 v0_11 v0_12 v0_13 K) k)
noncomputable def Yy.t (k : Nat) (aA aB aC : List (List D)) (aD : Int) (a1 : ByteArray) (a2 : Bool) : Option ((List (List C)) × (List (List C)) × (List (List C)) × Int × Bool) := Yy.g k aA aB aC aD a1 a2 (fun z0 z1 z2 z3 z4 => some (z0, z1, z2, z3, z4))
noncomputable def Yy.f {β : Type} (k : Nat) (aA aB aC : List (List D)) (aD : Int) (a1 : ByteArray) (a2 : Bool) (K : (List (List C)) → (List (List C)) → (List (List C)) → Int → Bool → Option β) : Option β := bd5 (Yy.t k aA aB aC aD a1 a2) K
noncomputable def Yy.e (k : Nat) : Zk := ent [.agg [.l, .l, .l, .n], .d .s, .d .b] [4, 1] [.o, .o, .o, .n, .b] [27, 4] false (Yy.t k)
noncomputable def Yy.p (k : Nat) : Pro := ⟨Try.prog, [(65, YD.e k), (77, Yq.e k), (23, Yd.e k), (78, Yr.e k), (209, Ym.e k)], Zn [(9, kp [1, 2, 3, 6, 8, 10, 11])] false [], k⟩
noncomputable def Yy.d (k : Nat) (aA aB aC : List (List D)) (aD : Int) (a1 : ByteArray) (a2 : Bool) : Ex → St → Option ((List (List C)) × (List (List C)) × (List (List C)) × Int × Bool) := (Yy.p k).fin Try.f145 [.agg [.sl aA, .sl aB, .sl aC, .int .i64 aD], .d (.str a1), .d (.bool a2)] [4, 1] [.o, .o, .o, .n, .b]
noncomputable def Yy.s0 (aE : ByteArray) (aF : Bool) (aH aJ aI : List (List D)) (aK aL aM : Int) (aP : ByteArray) (v0_10 v0_11 : Int) (v0_12 v0_13 : List (List C)) (v : Int × (List (List C))) : St :=
  match v with
  | (aG, v0_14) => ZX 119 [(1, .d false (.str aE)), (2, .d false (.bool aF)), (3, .bp 0 0), (6, .bp 1 0), (8, .bp 2 0), (10, .bp 3 0), (11, .d true (.int .i64 aG))] [.box none 27 [.d false (.sl aH), .d false (.sl aJ), .d false (.sl aI), .d false (.int .i64 aK)], .box none 27 [.nil, .nil, .nil, .d true (.int .i64 aL)], .box none 27 [.row 4, .row 5, .row 6, .d true (.int .i64 aM)], .box none 33 [.d false (.str aP), .d false (.int .i64 v0_10), .d false (.int .i64 v0_11)], .row none true 24 v0_12, .row none true 24 v0_13, .row none true 25 v0_14]
noncomputable def Yy.r0 (k : Nat) (aA aB aC : List (List D)) (aD : Int) (a1 : ByteArray) (a2 : Bool) (aE : ByteArray) (aF : Bool) (aH aJ aI : List (List D)) (aK aL aM : Int) (aP : ByteArray) (v0_10 v0_11 : Int) (v0_12 v0_13 : List (List C)) (n : Nat) (v : Int × (List (List C))) : Option ((List (List C)) × (List (List C)) × (List (List C)) × Int × Bool) := (Yy.p k).lp (Zt Try.f145) 9 [1, 1, 1, 1, 1, 1, 1, 0, 1, 0] (Yy.d k aA aB aC aD a1 a2) n (Yy.s0 aE aF aH aJ aI aK aL aM aP v0_10 v0_11 v0_12 v0_13 v)
theorem Yy.l0_eq (k : Nat) (aA aB aC : List (List D)) (aD : Int) (a1 : ByteArray) (a2 : Bool) (aE : ByteArray) (aF : Bool) (aH aJ aI : List (List D)) (aK aL aM : Int) (aP : ByteArray) (v0_10 v0_11 : Int) (v0_12 v0_13 : List (List C)) : ∀ n v, Yy.r0 k aA aB aC aD a1 a2 aE aF aH aJ aI aK aL aM aP v0_10 v0_11 v0_12 v0_13 n v = Zo (Yy.l0 k aE aF aH aJ aI aK aL aM aP v0_10 v0_11 v0_12 v0_13 (fun z0 z1 z2 z3 z4 => some (z0, z1, z2, z3, z4))) n v :=
  Zm (Yy.s0 aE aF aH aJ aI aK aL aM aP v0_10 v0_11 v0_12 v0_13) _ fun L0 v => by obtain ⟨aG, v0_14⟩ := v; kernel_rfl
theorem Yy.ok (k : Nat) : Za Try.prog 145 (Yy.e k) := Zh (Yy.p k) mix tyok Try.func145 ⟨YD.ok k, Yq.ok k, Yd.ok k, Yr.ok k, Ym.ok k⟩ (by kernel_rfl) (fun aA aB aC aD a1 a2 => Eq.trans (b := Yy.m k aA aB aC aD a1 a2 (fun z0 z1 z2 z3 z4 => some (z0, z1, z2, z3, z4)) (fun aE aF aH aJ aI aK aL aM aP v0_10 v0_11 v0_12 v0_13 => Yy.r0 k aA aB aC aD a1 a2 aE aF aH aJ aI aK aL aM aP v0_10 v0_11 v0_12 v0_13 k)) (by kernel_rfl) (congrArg (Yy.m k aA aB aC aD a1 a2 (fun z0 z1 z2 z3 z4 => some (z0, z1, z2, z3, z4))) (funext fun aE => funext fun aF => funext fun aH => funext fun aJ => funext fun aI => funext fun aK => funext fun aL => funext fun aM => funext fun aP => funext fun v0_10 => funext fun v0_11 => funext fun v0_12 => funext fun v0_13 => funext fun v => Yy.l0_eq k aA aB aC aD a1 a2 aE aF aH aJ aI aK aL aM aP v0_10 v0_11 v0_12 v0_13 k v) :))
noncomputable def YQ.g {β : Type} (k : Nat) (aA aB aC : List (List D)) (aD a1 : Int) (K : (List (List C)) → (List (List C)) → (List (List C)) → Int → Option β) : Option β :=
  YD.f k aA aB aC aD (fun y1 y2 y3 y4 => Yd.f k aA aB aC aD (fun y5 => bif y5 then (bif (decide ((a1 : Int) > aD)) then (bif (decide ((a1 : Int) ≤ 1000000)) then (K y1 y2 y3 a1) else (K y1 y2 y3 y4)) else (K y1 y2 y3 y4)) else (K y1 y2 y3 y4)))
noncomputable def YQ.t (k : Nat) (aA aB aC : List (List D)) (aD a1 : Int) : Option ((List (List C)) × (List (List C)) × (List (List C)) × Int) := YQ.g k aA aB aC aD a1 (fun z0 z1 z2 z3 => some (z0, z1, z2, z3))
noncomputable def YQ.f {β : Type} (k : Nat) (aA aB aC : List (List D)) (aD a1 : Int) (K : (List (List C)) → (List (List C)) → (List (List C)) → Int → Option β) : Option β := bd4 (YQ.t k aA aB aC aD a1) K
noncomputable def YQ.e (k : Nat) : Zk := ent [.agg [.l, .l, .l, .n], .d .n] [4] [.o, .o, .o, .n] [27] false (YQ.t k)
noncomputable def YQ.p (k : Nat) : Pro := ⟨Try.prog, [(65, YD.e k), (23, Yd.e k)], Zn [] false [], k⟩
theorem YQ.ok (k : Nat) : Za Try.prog 146 (YQ.e k) := Zh (YQ.p k) mix tyok Try.func146 ⟨YD.ok k, Yd.ok k⟩ (by kernel_rfl) (fun aA aB aC aD a1 => by show _ = _; kernel_rfl)
set_option maxRecDepth 100000 in
noncomputable def Yu.l0 {β : Type} (k : Nat) (aJ : Int) (K : (List (List C)) → (List (List C)) → (List (List C)) → Int → (List (List D)) → Int → Int → Option β) (L0 : (Int × (List (List D)) × Int × Int × Int × (List (List C)) × (List (List C)) × (List (List C))) → Option β) (v : Int × (List (List D)) × Int × Int × Int × (List (List C)) × (List (List C)) × (List (List C))) : Option β :=
  match v with
  | (aE, aF, aG, aH, aI, aK, aL, aM) => bif (decide ((aE : Int) > 0)) then (YP.f k aF aG aH ([[.str (⟨#[97]⟩ : ByteArray)], [.str (⟨#[98]⟩ : ByteArray)], [.str (⟨#[99]⟩ : ByteArray)], [.str (⟨#[100]⟩ : ByteArray)], [.str (⟨#[101]⟩ : ByteArray)]] : List (List D)) (fun y112 y113 y114 y115 => Ys.f k y113 y114 y115 6 (fun y116 y117 y118 y119 => let J0 := (L0 (IntKind.wrap .i64 (aE - 1), y117, y118, y119, aI, aK, aL, aM)); bif ((y116 : Int) == 0) then (bif ((y116 : Int) == 0) then (YU.f k (C.immRows aK) (C.immRows aL) (C.immRows aM) aI y112 (fun y120 y121 y122 y123 y124 => L0 (IntKind.wrap .i64 (aE - 1), y117, y118, y119, y123, y120, y121, y122))) else (bif ((y116 : Int) == 2) then (Yx.f k (C.immRows aK) (C.immRows aL) (C.immRows aM) aI (fun y125 y126 y127 y128 y129 y130 => L0 (IntKind.wrap .i64 (aE - 1), y117, y118, y119, y128, y125, y126, y127))) else (bif ((y116 : Int) == 3) then (YJ.f k y117 y118 y119 2 (fun y131 y132 y133 y134 => Yy.f k (C.immRows aK) (C.immRows aL) (C.immRows aM) aI y112 y131 (fun y135 y136 y137 y138 y139 => L0 (IntKind.wrap .i64 (aE - 1), y132, y133, y134, y138, y135, y136, y137)))) else (bif ((y116 : Int) == 4) then (Ys.f k y117 y118 y119 4 (fun y140 y141 y142 y143 => YQ.f k (C.immRows aK) (C.immRows aL) (C.immRows aM) aI (IntKind.wrap .i64 (aI + y140)) (fun y144 y145 y146 y147 => L0 (IntKind.wrap .i64 (aE - 1), y141, y142, y143, y147, y144, y145, y146)))) else (bif (decide (((aL.length : Int) : Int) > 0)) then (Zc ((0 : Int) ≤ 0 ∧ 0 < (aL.length : Int)) (ZaG aL (Int.toNat 0) fun c148 => Zas (c148.drop 0) fun c149 r150 => cD c149 fun d151 => dStr d151 fun x152 => YJ.f k y117 y118 y119 3 (fun y153 y154 y155 y156 => Yy.f k (C.immRows aK) (C.immRows aL) (C.immRows aM) aI x152 y153 (fun y157 y158 y159 y160 y161 => L0 (IntKind.wrap .i64 (aE - 1), y154, y155, y156, y160, y157, y158, y159))))) else J0))))) else (bif ((y116 : Int) == 1) then (YU.f k (C.immRows aK) (C.immRows aL) (C.immRows aM) aI y112 (fun y162 y163 y164 y165 y166 => L0 (IntKind.wrap .i64 (aE - 1), y117, y118, y119, y165, y162, y163, y164))) else (bif ((y116 : Int) == 2) then (Yx.f k (C.immRows aK) (C.immRows aL) (C.immRows aM) aI (fun y167 y168 y169 y170 y171 y172 => L0 (IntKind.wrap .i64 (aE - 1), y117, y118, y119, y170, y167, y168, y169))) else (bif ((y116 : Int) == 3) then (YJ.f k y117 y118 y119 2 (fun y173 y174 y175 y176 => Yy.f k (C.immRows aK) (C.immRows aL) (C.immRows aM) aI y112 y173 (fun y177 y178 y179 y180 y181 => L0 (IntKind.wrap .i64 (aE - 1), y174, y175, y176, y180, y177, y178, y179)))) else (bif ((y116 : Int) == 4) then (Ys.f k y117 y118 y119 4 (fun y182 y183 y184 y185 => YQ.f k (C.immRows aK) (C.immRows aL) (C.immRows aM) aI (IntKind.wrap .i64 (aI + y182)) (fun y186 y187 y188 y189 => L0 (IntKind.wrap .i64 (aE - 1), y183, y184, y185, y189, y186, y187, y188)))) else (bif (decide (((aL.length : Int) : Int) > 0)) then (Zc ((0 : Int) ≤ 0 ∧ 0 < (aL.length : Int)) (ZaG aL (Int.toNat 0) fun c190 => Zas (c190.drop 0) fun c191 r192 => cD c191 fun d193 => dStr d193 fun x194 => YJ.f k y117 y118 y119 3 (fun y195 y196 y197 y198 => Yy.f k (C.immRows aK) (C.immRows aL) (C.immRows aM) aI x194 y195 (fun y199 y200 y201 y202 y203 => L0 (IntKind.wrap .i64 (aE - 1), y196, y197, y198, y202, y199, y200, y201))))) else J0)))))))) else (K aK aL aM aI aF aG aH)
noncomputable def Yu.m {β : Type} (k : Nat) (aA : List (List D)) (aB aC a1 : Int) (K : (List (List C)) → (List (List C)) → (List (List C)) → Int → (List (List D)) → Int → Int → Option β) (F : (Int → (Int × (List (List D)) × Int × Int × Int × (List (List C)) × (List (List C)) × (List (List C))) → Option β)) : Option β :=
  Ys.f k aA aB aC 10 (fun y1 y2 y3 y4 => Ys.f k y2 y3 y4 a1 (fun y5 y6 y7 y8 => F 0 (y5, y6, y7, y8, y1, ([] : List (List C)), ([] : List (List C)), ([] : List (List C)))))
noncomputable def Yu.g {β : Type} (k : Nat) (aA : List (List D)) (aB aC a1 : Int) (K : (List (List C)) → (List (List C)) → (List (List C)) → Int → (List (List D)) → Int → Int → Option β) : Option β :=
  Ys.f k aA aB aC 10 (fun y1 y2 y3 y4 => Ys.f k y2 y3 y4 a1 (fun y5 y6 y7 y8 => Zo (Yu.l0 k 0 K) k (y5, y6, y7, y8, y1, ([] : List (List C)), ([] : List (List C)), ([] : List (List C)))))
noncomputable def Yu.t (k : Nat) (aA : List (List D)) (aB aC a1 : Int) : Option ((List (List C)) × (List (List C)) × (List (List C)) × Int × (List (List D)) × Int × Int) := Yu.g k aA aB aC a1 (fun z0 z1 z2 z3 z4 z5 z6 => some (z0, z1, z2, z3, z4, z5, z6))
noncomputable def Yu.f {β : Type} (k : Nat) (aA : List (List D)) (aB aC a1 : Int) (K : (List (List C)) → (List (List C)) → (List (List C)) → Int → (List (List D)) → Int → Int → Option β) : Option β := match Yu.t k aA aB aC a1 with | some (z0, z1, z2, z3, z4, z5, z6) => K z0 z1 z2 z3 z4 z5 z6 | none => none
noncomputable def Yu.e (k : Nat) : Zk := ent [.box 178 [.l, .n, .n], .d .n] [4] [.o, .o, .o, .n, .l, .n, .n] [27] false (Yu.t k)
noncomputable def Yu.p (k : Nat) : Pro := ⟨Try.prog, [(112, Ys.e k), (75, YP.e k), (22, YU.e k), (14, Yx.e k), (81, YJ.e k), (145, Yy.e k), (146, YQ.e k)], Zn [(3, kp [0, 4, 5, 6] [] [(5, 0, .row true 24), (5, 1, .row true 24), (5, 2, .row true 25)])] false [], k⟩
noncomputable def Yu.d (k : Nat) (aA : List (List D)) (aB aC a1 : Int) : Ex → St → Option ((List (List C)) × (List (List C)) × (List (List C)) × Int × (List (List D)) × Int × Int) := (Yu.p k).fin Try.f59 [.box [.d (.sl aA), .d (.int .i64 aB), .d (.int .i64 aC)], .d (.int .i64 a1)] [4] [.o, .o, .o, .n, .l, .n, .n]
noncomputable def Yu.s0 (aJ : Int) (v : Int × (List (List D)) × Int × Int × Int × (List (List C)) × (List (List C)) × (List (List C))) : St :=
  match v with
  | (aE, aF, aG, aH, aI, aK, aL, aM) => ZX 76 [(0, .bp 0 0), (4, .bp 1 0), (5, .bp 2 0), (6, .d true (.int .i64 aE))] [.box (some 0) 178 [.d false (.sl aF), .d false (.int .i64 aG), .d false (.int .i64 aH)], .box none 27 [.nil, .nil, .nil, .d true (.int .i64 aJ)], .box none 27 [.row 3, .row 4, .row 5, .d true (.int .i64 aI)], .row none true 24 aK, .row none true 24 aL, .row none true 25 aM]
noncomputable def Yu.r0 (k : Nat) (aA : List (List D)) (aB aC a1 aJ : Int) (n : Nat) (v : Int × (List (List D)) × Int × Int × Int × (List (List C)) × (List (List C)) × (List (List C))) : Option ((List (List C)) × (List (List C)) × (List (List C)) × Int × (List (List D)) × Int × Int) := (Yu.p k).lp (Zt Try.f59) 3 [1, 1, 0, 1, 0] (Yu.d k aA aB aC a1) n (Yu.s0 aJ v)
theorem Yu.l0_eq (k : Nat) (aA : List (List D)) (aB aC a1 aJ : Int) : ∀ n v, Yu.r0 k aA aB aC a1 aJ n v = Zo (Yu.l0 k aJ (fun z0 z1 z2 z3 z4 z5 z6 => some (z0, z1, z2, z3, z4, z5, z6))) n v :=
  Zm (Yu.s0 aJ) _ fun L0 v => by obtain ⟨aE, aF, aG, aH, aI, aK, aL, aM⟩ := v; kernel_rfl
theorem Yu.ok (k : Nat) : Za Try.prog 59 (Yu.e k) := Zh (Yu.p k) mix tyok Try.func59 ⟨Ys.ok k, YP.ok k, YU.ok k, Yx.ok k, YJ.ok k, Yy.ok k, YQ.ok k⟩ (by kernel_rfl) (fun aA aB aC a1 => Eq.trans (b := Yu.m k aA aB aC a1 (fun z0 z1 z2 z3 z4 z5 z6 => some (z0, z1, z2, z3, z4, z5, z6)) (fun aJ => Yu.r0 k aA aB aC a1 aJ k)) (by kernel_rfl) (congrArg (Yu.m k aA aB aC a1 (fun z0 z1 z2 z3 z4 z5 z6 => some (z0, z1, z2, z3, z4, z5, z6))) (funext fun aJ => funext fun v => Yu.l0_eq k aA aB aC a1 aJ k v) :))
noncomputable def YF.g {β : Type} (k : Nat) (a0 : List (List D)) (K : (List (List C)) → (List (List C)) → (List (List C)) → Int → Option β) : Option β :=
  Yw.f k a0 (fun y9 y10 y11 => YM.f k a0 40 (fun y12 => Yu.f k y9 y10 y11 y12 (fun y204 y205 y206 y207 y208 y209 y210 => K y204 y205 y206 y207)))
noncomputable def YF.t (k : Nat) (a0 : List (List D)) : Option ((List (List C)) × (List (List C)) × (List (List C)) × Int) := YF.g k a0 (fun z0 z1 z2 z3 => some (z0, z1, z2, z3))
noncomputable def YF.f {β : Type} (k : Nat) (a0 : List (List D)) (K : (List (List C)) → (List (List C)) → (List (List C)) → Int → Option β) : Option β := bd4 (YF.t k a0) K
noncomputable def YF.e (k : Nat) : Zk := ent [.d .l] [4] [.o, .o, .o, .n] [27] false (YF.t k)
noncomputable def YF.p (k : Nat) : Pro := ⟨Try.prog, [(58, Yw.e k), (60, YM.e k), (59, Yu.e k)], Zn [] false [], k⟩
theorem YF.ok (k : Nat) : Za Try.prog 12 (YF.e k) := Zh (YF.p k) mix tyok Try.func12 ⟨Yw.ok k, YM.ok k, Yu.ok k⟩ (by kernel_rfl) (fun a0 => by show _ = _; kernel_rfl)
noncomputable def Yp.g {β : Type} (k : Nat) (a0 : List (List D)) (K : (List (List C)) → Option β) : Option β :=
  let J0 := (Zc (ZaZ 3 a0) (Zc (([] : List (List C)).length + (a0.map (·.map C.d)).length ≤ ZN) (K (([] : List (List C)) ++ (a0.map (·.map C.d)))))); nilSl a0 (both (K ([] : List (List C))) J0) J0
noncomputable def Yp.t (k : Nat) (a0 : List (List D)) : Option ((List (List C))) := Yp.g k a0 (fun z0 => some z0)
noncomputable def Yp.f {β : Type} (k : Nat) (a0 : List (List D)) (K : (List (List C)) → Option β) : Option β := bd1 (Yp.t k a0) K
noncomputable def Yp.e (k : Nat) : Zk := ent [.d .l] [1] [.o] [24] false (Yp.t k)
noncomputable def Yp.p (k : Nat) : Pro := ⟨Try.prog, [], Zn [] false [], k⟩
theorem Yp.ok (k : Nat) : Za Try.prog 147 (Yp.e k) := Zh (Yp.p k) mix tyok Try.func147 trivial (by kernel_rfl) (fun a0 => by show _ = _; kernel_rfl)
noncomputable def Yt.g {β : Type} (k : Nat) (a0 : List (List D)) (K : (List (List C)) → Option β) : Option β :=
  let J0 := (Zc (ZaZ 1 a0) (Zc (([] : List (List C)).length + (a0.map (·.map C.d)).length ≤ ZN) (K (([] : List (List C)) ++ (a0.map (·.map C.d)))))); nilSl a0 (both (K ([] : List (List C))) J0) J0
noncomputable def Yt.t (k : Nat) (a0 : List (List D)) : Option ((List (List C))) := Yt.g k a0 (fun z0 => some z0)
noncomputable def Yt.f {β : Type} (k : Nat) (a0 : List (List D)) (K : (List (List C)) → Option β) : Option β := bd1 (Yt.t k a0) K
noncomputable def Yt.e (k : Nat) : Zk := ent [.d .l] [1] [.o] [25] false (Yt.t k)
noncomputable def Yt.p (k : Nat) : Pro := ⟨Try.prog, [], Zn [] false [], k⟩
theorem Yt.ok (k : Nat) : Za Try.prog 148 (Yt.e k) := Zh (Yt.p k) mix tyok Try.func148 trivial (by kernel_rfl) (fun a0 => by show _ = _; kernel_rfl)
noncomputable def Yz.g {β : Type} (k : Nat) (aA aB aC : List (List D)) (aD : Int) (K : (List (List C)) → (List (List C)) → (List (List C)) → Int → Option β) : Option β :=
  Yp.f k aA (fun y1 => Yp.f k aB (fun y2 => Yt.f k aC (fun y3 => K y1 y2 y3 aD)))
noncomputable def Yz.t (k : Nat) (aA aB aC : List (List D)) (aD : Int) : Option ((List (List C)) × (List (List C)) × (List (List C)) × Int) := Yz.g k aA aB aC aD (fun z0 z1 z2 z3 => some (z0, z1, z2, z3))
noncomputable def Yz.f {β : Type} (k : Nat) (aA aB aC : List (List D)) (aD : Int) (K : (List (List C)) → (List (List C)) → (List (List C)) → Int → Option β) : Option β := bd4 (Yz.t k aA aB aC aD) K
noncomputable def Yz.e (k : Nat) : Zk := ent [.agg [.l, .l, .l, .n]] [4] [.o, .o, .o, .n] [27] false (Yz.t k)
noncomputable def Yz.p (k : Nat) : Pro := ⟨Try.prog, [(147, Yp.e k), (148, Yt.e k)], Zn [] false [], k⟩
theorem Yz.ok (k : Nat) : Za Try.prog 61 (Yz.e k) := Zh (Yz.p k) mix tyok Try.func61 ⟨Yp.ok k, Yt.ok k⟩ (by kernel_rfl) (fun aA aB aC aD => by show _ = _; kernel_rfl)
noncomputable def YN.g {β : Type} (k : Nat) (aA : ByteArray) (aB aC : Int) (f0_0 f0_1 f0_2 : List (List D)) (f0_3 : Int) (K : Bool → Option β) : Option β :=
  K (decide ((aB : Int) ≤ f0_3))
noncomputable def YN.t (k : Nat) (aA : ByteArray) (aB aC : Int) (f0_0 f0_1 f0_2 : List (List D)) (f0_3 : Int) : Option (Bool) := YN.g k aA aB aC f0_0 f0_1 f0_2 f0_3 (fun z0 => some z0)
noncomputable def YN.f {β : Type} (k : Nat) (aA : ByteArray) (aB aC : Int) (f0_0 f0_1 f0_2 : List (List D)) (f0_3 : Int) (K : Bool → Option β) : Option β := bd1 (YN.t k aA aB aC f0_0 f0_1 f0_2 f0_3) K
noncomputable def YN.e (k : Nat) : Zk := ent [.agg [.s, .n, .n], .ip [.l, .l, .l, .n]] [1] [.b] [4] false (YN.t k)
noncomputable def YN.p (k : Nat) : Pro := ⟨Try.prog, [], Zn [] false [], k⟩
theorem YN.ok (k : Nat) : Za Try.prog 63 (YN.e k) := Zh (YN.p k) mix tyok Try.func63 trivial (by kernel_rfl) (fun aA aB aC f0_0 f0_1 f0_2 f0_3 => by show _ = _; kernel_rfl)
noncomputable def Yb.l0 {β : Type} (k : Nat) (aE aF aG aH : List (List D)) (aJ aI : Int) (K L0 : Int → Option β) (v : Int) : Option β :=
  match v with
  | aK => bif (decide ((aK : Int) < aI)) then (atR aE aK [.s, .n, .n] fun x15 x18 x21 => (YN.f k x15 x18 x21 aF aG aH aJ (fun y22 => bif y22 then (K aK) else (L0 (IntKind.wrap .i64 (aK + 1)))))) else (K (-1))
noncomputable def Yb.m {β : Type} (k : Nat) (a0 a1_0_0 a1_0_1 a1_0_2 : List (List D)) (a1_0_3 : Int) (K : Int → Option β) (F : ((List (List D)) → (List (List D)) → (List (List D)) → (List (List D)) → Int → Int → Int → Option β)) : Option β :=
  F a0 a1_0_0 a1_0_1 a1_0_2 a1_0_3 (a0.length : Int) (0)
noncomputable def Yb.g {β : Type} (k : Nat) (a0 a1_0_0 a1_0_1 a1_0_2 : List (List D)) (a1_0_3 : Int) (K : Int → Option β) : Option β :=
  Zo (Yb.l0 k a0 a1_0_0 a1_0_1 a1_0_2 a1_0_3 (a0.length : Int) K) k (0)
noncomputable def Yb.t (k : Nat) (a0 a1_0_0 a1_0_1 a1_0_2 : List (List D)) (a1_0_3 : Int) : Option (Int) := Yb.g k a0 a1_0_0 a1_0_1 a1_0_2 a1_0_3 (fun z0 => some z0)
noncomputable def Yb.f {β : Type} (k : Nat) (a0 a1_0_0 a1_0_1 a1_0_2 : List (List D)) (a1_0_3 : Int) (K : Int → Option β) : Option β := bd1 (Yb.t k a0 a1_0_0 a1_0_1 a1_0_2 a1_0_3) K
noncomputable def Yb.e (k : Nat) : Zk := ent [.d .l, .fn 63 [[.l, .l, .l, .n]]] [1] [.n] [3] false (Yb.t k)
noncomputable def Yb.p (k : Nat) : Pro := ⟨Try.prog, [(63, YN.e k)], Zn [(2, kp [0, 1, 7, 8])] false [], k⟩
noncomputable def Yb.d (k : Nat) (a0 a1_0_0 a1_0_1 a1_0_2 : List (List D)) (a1_0_3 : Int) : Ex → St → Option (Int) := (Yb.p k).fin Try.f62 [.d (.sl a0), .d (.fn 63 [[.sl a1_0_0, .sl a1_0_1, .sl a1_0_2, .int .i64 a1_0_3]])] [1] [.n]
noncomputable def Yb.s0 (aE aF aG aH : List (List D)) (aJ aI v : Int) : St :=
  match v with
  | aK => ZX 19 [(0, .d false (.sl aE)), (1, .d false (.fn 63 [[.sl aF, .sl aG, .sl aH, .int .i64 aJ]])), (7, .d true (.int .i64 aI)), (8, .d true (.int .i64 aK))] []
noncomputable def Yb.r0 (k : Nat) (a0 a1_0_0 a1_0_1 a1_0_2 : List (List D)) (a1_0_3 : Int) (aE aF aG aH : List (List D)) (aJ aI : Int) (n : Nat) (v : Int) : Option (Int) := (Yb.p k).lp (Zt Try.f62) 2 [1, 0, 1, 0] (Yb.d k a0 a1_0_0 a1_0_1 a1_0_2 a1_0_3) n (Yb.s0 aE aF aG aH aJ aI v)
theorem Yb.l0_eq (k : Nat) (a0 a1_0_0 a1_0_1 a1_0_2 : List (List D)) (a1_0_3 : Int) (aE aF aG aH : List (List D)) (aJ aI : Int) : ∀ n v, Yb.r0 k a0 a1_0_0 a1_0_1 a1_0_2 a1_0_3 aE aF aG aH aJ aI n v = Zo (Yb.l0 k aE aF aG aH aJ aI (fun z0 => some z0)) n v :=
  Zm (Yb.s0 aE aF aG aH aJ aI) _ fun L0 v => by kernel_rfl
theorem Yb.ok (k : Nat) : Za Try.prog 62 (Yb.e k) := Zh (Yb.p k) mix tyok Try.func62 (YN.ok k) (by kernel_rfl) (fun a0 a1_0_0 a1_0_1 a1_0_2 a1_0_3 => Eq.trans (b := Yb.m k a0 a1_0_0 a1_0_1 a1_0_2 a1_0_3 (fun z0 => some z0) (fun aE aF aG aH aJ aI => Yb.r0 k a0 a1_0_0 a1_0_1 a1_0_2 a1_0_3 aE aF aG aH aJ aI k)) (by kernel_rfl) (congrArg (Yb.m k a0 a1_0_0 a1_0_1 a1_0_2 a1_0_3 (fun z0 => some z0)) (funext fun aE => funext fun aF => funext fun aG => funext fun aH => funext fun aJ => funext fun aI => funext fun v => Yb.l0_eq k a0 a1_0_0 a1_0_1 a1_0_2 a1_0_3 aE aF aG aH aJ aI k v) :))
noncomputable def YH.g {β : Type} (k : Nat) (a0 a1 a2 : Int) (K : Bool → Option β) : Option β :=
  bif (decide ((a0 : Int) ≥ a1)) then (K (decide ((a0 : Int) ≤ a2))) else (K false)
noncomputable def YH.t (k : Nat) (a0 a1 a2 : Int) : Option (Bool) := YH.g k a0 a1 a2 (fun z0 => some z0)
noncomputable def YH.f {β : Type} (k : Nat) (a0 a1 a2 : Int) (K : Bool → Option β) : Option β := bd1 (YH.t k a0 a1 a2) K
noncomputable def YH.e (k : Nat) : Zk := ent [.d .n, .d .n, .d .n] [1] [.b] [4] false (YH.t k)
noncomputable def YH.p (k : Nat) : Pro := ⟨Try.prog, [], Zn [] false [], k⟩
theorem YH.ok (k : Nat) : Za Try.prog 71 (YH.e k) := Zh (YH.p k) mix tyok Try.func71 trivial (by kernel_rfl) (fun a0 a1 a2 => by show _ = _; kernel_rfl)
noncomputable def Yl.g {β : Type} (k : Nat) (a1 : Int) (K : (List (List C)) → Option β) : Option β :=
  bif (decide ((a1 : Int) < 0)) then none else (bif (decide (((IntKind.wrap .i64 (a1 - (IntKind.wrap .i64 (0 - 0)))) : Int) > 0)) then (let J0 := (List.replicate (Int.toNat (IntKind.wrap .i64 (a1 - (IntKind.wrap .i64 (0 - 0))))) ([.d (.str (⟨#[]⟩ : ByteArray)), .d (.int .i64 0), .d (.int .i64 0)] : List C)); Zc (0 ≤ (0 : Int) ∧ (0 : Int) ≤ (0 : Int) ∧ (0 : Int) ≤ 0) (Zc ((0 : Int) ≤ (IntKind.wrap .i64 (a1 - (IntKind.wrap .i64 (0 - 0)))) ∧ (IntKind.wrap .i64 (a1 - (IntKind.wrap .i64 (0 - 0)))) ≤ (ZN : Int)) (Zc (J0.length ≤ ZN) (Zc (0 ≤ (0 : Int) ∧ (0 : Int) ≤ (J0.length : Int)) (K (J0.take (Int.toNat (0 : Int)))))))) else (K ([] : List (List C))))
noncomputable def Yl.t (k : Nat) (a1 : Int) : Option ((List (List C))) := Yl.g k a1 (fun z0 => some z0)
noncomputable def Yl.f {β : Type} (k : Nat) (a1 : Int) (K : (List (List C)) → Option β) : Option β := bd1 (Yl.t k a1) K
noncomputable def Yl.e (k : Nat) : Zk := ent [.nil, .d .n] [1] [.o] [24] false (Yl.t k)
noncomputable def Yl.p (k : Nat) : Pro := ⟨Try.prog, [], Zn [] false [], k⟩
theorem Yl.ok (k : Nat) : Za Try.prog 152 (Yl.e k) := Zh (Yl.p k) mix tyok Try.func152 trivial (by kernel_rfl) (fun a1 => by show _ = _; kernel_rfl)
noncomputable def Yc.l1 {β : Type} (k : Nat) (aN : List (List D)) (aO : Int) (K : (List (List C)) → Option β) (L1 : (Int × (List (List C))) → Option β) (v : Int × (List (List C))) : Option β :=
  match v with
  | (v1_2, aQ) => bif (decide ((v1_2 : Int) < aO)) then (atR aN v1_2 [.l] fun x26 => (Zc (ZaZ 3 x26) (Zc (aQ.length + (x26.map (·.map C.d)).length ≤ ZN) (L1 (IntKind.wrap .i64 (v1_2 + 1), aQ ++ (x26.map (·.map C.d))))))) else (K aQ)
noncomputable def Yc.m0 {β : Type} (k : Nat) (aE aG : List (List D)) (aH : Int) (K : (List (List C)) → Option β) (L0 : (Int × Int) → Option β) (v : Int × Int) (F : ((List (List D)) → Int → (Int × (List (List C))) → Option β)) : Option β :=
  match v with
  | (aF, aJ) => bif (decide ((aJ : Int) < aH)) then (atR aG aJ [.l] fun x17 => (bif (decide (((IntKind.wrap .i64 (aF + (x17.length : Int))) : Int) < 0)) then none else (L0 (IntKind.wrap .i64 (aF + (x17.length : Int)), IntKind.wrap .i64 (aJ + 1))))) else (Yl.f k aF (fun y18 => F aE (aE.length : Int) (0, y18)))
noncomputable def Yc.l0 {β : Type} (k : Nat) (aE aG : List (List D)) (aH : Int) (K : (List (List C)) → Option β) (L0 : (Int × Int) → Option β) (v : Int × Int) : Option β := Yc.m0 k aE aG aH K L0 v (fun aN aO => Zo (Yc.l1 k aN aO K) k)
noncomputable def Yc.m {β : Type} (k : Nat) (a0 : List (List D)) (K : (List (List C)) → Option β) (F : ((List (List D)) → (List (List D)) → Int → (Int × Int) → Option β)) : Option β :=
  F a0 a0 (a0.length : Int) (0, 0)
noncomputable def Yc.g {β : Type} (k : Nat) (a0 : List (List D)) (K : (List (List C)) → Option β) : Option β :=
  Zo (Yc.l0 k a0 a0 (a0.length : Int) K) k (0, 0)
noncomputable def Yc.t (k : Nat) (a0 : List (List D)) : Option ((List (List C))) := Yc.g k a0 (fun z0 => some z0)
noncomputable def Yc.f {β : Type} (k : Nat) (a0 : List (List D)) (K : (List (List C)) → Option β) : Option β := bd1 (Yc.t k a0) K
noncomputable def Yc.e (k : Nat) : Zk := ent [.d .l] [1] [.o] [24] false (Yc.t k)
noncomputable def Yc.p (k : Nat) : Pro := ⟨Try.prog, [(152, Yl.e k)], Zn [(3, kp [0, 3, 9, 10, 11]), (11, kp [6, 25, 26, 27])] false [], k⟩
noncomputable def Yc.d (k : Nat) (a0 : List (List D)) : Ex → St → Option ((List (List C))) := (Yc.p k).fin Try.f72 [.d (.sl a0)] [1] [.o]
noncomputable def Yc.s0 (aE aG : List (List D)) (aH : Int) (v : Int × Int) : St :=
  match v with
  | (aF, aJ) => ZX 36 [(0, .d false (.sl aE)), (3, .d true (.int .i64 aF)), (9, .d false (.sl aG)), (10, .d true (.int .i64 aH)), (11, .d true (.int .i64 aJ))] []
noncomputable def Yc.r0 (k : Nat) (a0 aE aG : List (List D)) (aH : Int) (n : Nat) (v : Int × Int) : Option ((List (List C))) := (Yc.p k).lp (Zt Try.f72) 3 [1, 1, 0, 1, 0] (Yc.d k a0) n (Yc.s0 aE aG aH v)
noncomputable def Yc.s1 (aN : List (List D)) (aO : Int) (v : Int × (List (List C))) : St :=
  match v with
  | (v1_2, aQ) => ZX 36 [(6, .row 0), (25, .d false (.sl aN)), (26, .d true (.int .i64 aO)), (27, .d true (.int .i64 v1_2))] [.row none true 24 aQ]
noncomputable def Yc.r1 (k : Nat) (a0 aN : List (List D)) (aO : Int) (n : Nat) (v : Int × (List (List C))) : Option ((List (List C))) := (Yc.p k).lp (Zt Try.f72) 11 [1, 1, 1, 1, 0, 1, 0] (Yc.d k a0) n (Yc.s1 aN aO v)
theorem Yc.l1_eq (k : Nat) (a0 aN : List (List D)) (aO : Int) : ∀ n v, Yc.r1 k a0 aN aO n v = Zo (Yc.l1 k aN aO (fun z0 => some z0)) n v :=
  Zm (Yc.s1 aN aO) _ fun L1 v => by obtain ⟨v1_2, aQ⟩ := v; kernel_rfl
theorem Yc.l0_eq (k : Nat) (a0 aE aG : List (List D)) (aH : Int) : ∀ n v, Yc.r0 k a0 aE aG aH n v = Zo (Yc.l0 k aE aG aH (fun z0 => some z0)) n v :=
  Zm (Yc.s0 aE aG aH) _ fun L0 v => by obtain ⟨aF, aJ⟩ := v; exact Eq.trans (b := Yc.m0 k aE aG aH (fun z0 => some z0) (fun v => L0 (Yc.s0 aE aG aH v)) (aF, aJ) (fun aN aO => Yc.r1 k a0 aN aO k)) (by kernel_rfl) (congrArg (Yc.m0 k aE aG aH (fun z0 => some z0) (fun v => L0 (Yc.s0 aE aG aH v)) (aF, aJ)) (funext fun aN => funext fun aO => funext fun v => Yc.l1_eq k a0 aN aO k v))
theorem Yc.ok (k : Nat) : Za Try.prog 72 (Yc.e k) := Zh (Yc.p k) mix tyok Try.func72 (Yl.ok k) (by kernel_rfl) (fun a0 => Eq.trans (b := Yc.m k a0 (fun z0 => some z0) (fun aE aG aH => Yc.r0 k a0 aE aG aH k)) (by kernel_rfl) (congrArg (Yc.m k a0 (fun z0 => some z0)) (funext fun aE => funext fun aG => funext fun aH => funext fun v => Yc.l0_eq k a0 aE aG aH k v) :))
noncomputable def Yv.l0 {β : Type} (k : Nat) (aE : ByteArray) (aF : Int) (K : Bool → Option β) (L0 : Int → Option β) (v : Int) : Option β :=
  match v with
  | aG => bif (decide ((aG : Int) < aF)) then (Za0 aE aG fun b5 => let J1 := (bif ((b5 : Int) != 45) then (K false) else (L0 (IntKind.wrap .i64 (aG + 1)))); let J0 := (bif (decide ((b5 : Int) < 48)) then J1 else (bif (decide ((b5 : Int) > 57)) then J1 else (L0 (IntKind.wrap .i64 (aG + 1))))); bif (decide ((b5 : Int) < 97)) then J0 else (bif (decide ((b5 : Int) > 122)) then J0 else (L0 (IntKind.wrap .i64 (aG + 1))))) else (YH.f k (aE.size : Int) 1 20 (fun y6 => bif y6 then (Za0 aE 0 fun b7 => bif ((b7 : Int) != 45) then (Za0 aE (IntKind.wrap .i64 ((aE.size : Int) - 1)) fun b8 => K ((b8 : Int) != 45)) else (K false)) else (K false)))
noncomputable def Yv.m {β : Type} (k : Nat) (a0 : ByteArray) (K : Bool → Option β) (F : (ByteArray → Int → Int → Option β)) : Option β :=
  F a0 (a0.size : Int) (0)
noncomputable def Yv.g {β : Type} (k : Nat) (a0 : ByteArray) (K : Bool → Option β) : Option β :=
  Zo (Yv.l0 k a0 (a0.size : Int) K) k (0)
noncomputable def Yv.t (k : Nat) (a0 : ByteArray) : Option (Bool) := Yv.g k a0 (fun z0 => some z0)
noncomputable def Yv.f {β : Type} (k : Nat) (a0 : ByteArray) (K : Bool → Option β) : Option β := bd1 (Yv.t k a0) K
noncomputable def Yv.e (k : Nat) : Zk := ent [.d .s] [1] [.b] [4] false (Yv.t k)
noncomputable def Yv.p (k : Nat) : Pro := ⟨Try.prog, [(71, YH.e k)], Zn [(2, kp [0, 6, 7])] false [], k⟩
noncomputable def Yv.d (k : Nat) (a0 : ByteArray) : Ex → St → Option (Bool) := (Yv.p k).fin Try.f73 [.d (.str a0)] [1] [.b]
noncomputable def Yv.s0 (aE : ByteArray) (aF v : Int) : St :=
  match v with
  | aG => ZX 48 [(0, .d false (.str aE)), (6, .d true (.int .i64 aF)), (7, .d true (.int .i64 aG))] []
noncomputable def Yv.r0 (k : Nat) (a0 aE : ByteArray) (aF : Int) (n : Nat) (v : Int) : Option (Bool) := (Yv.p k).lp (Zt Try.f73) 2 [1, 0, 1, 0] (Yv.d k a0) n (Yv.s0 aE aF v)
theorem Yv.l0_eq (k : Nat) (a0 aE : ByteArray) (aF : Int) : ∀ n v, Yv.r0 k a0 aE aF n v = Zo (Yv.l0 k aE aF (fun z0 => some z0)) n v :=
  Zm (Yv.s0 aE aF) _ fun L0 v => by kernel_rfl
theorem Yv.ok (k : Nat) : Za Try.prog 73 (Yv.e k) := Zh (Yv.p k) mix tyok Try.func73 (YH.ok k) (by kernel_rfl) (fun a0 => Eq.trans (b := Yv.m k a0 (fun z0 => some z0) (fun aE aF => Yv.r0 k a0 aE aF k)) (by kernel_rfl) (congrArg (Yv.m k a0 (fun z0 => some z0)) (funext fun aE => funext fun aF => funext fun v => Yv.l0_eq k a0 aE aF k v) :))
noncomputable def YI.g {β : Type} (k : Nat) (aA : ByteArray) (aB aC : Int) (f0_0 : ByteArray) (K : Bool → Option β) : Option β :=
  K (Zae aA f0_0)
noncomputable def YI.t (k : Nat) (aA : ByteArray) (aB aC : Int) (f0_0 : ByteArray) : Option (Bool) := YI.g k aA aB aC f0_0 (fun z0 => some z0)
noncomputable def YI.f {β : Type} (k : Nat) (aA : ByteArray) (aB aC : Int) (f0_0 : ByteArray) (K : Bool → Option β) : Option β := bd1 (YI.t k aA aB aC f0_0) K
noncomputable def YI.e (k : Nat) : Zk := ent [.agg [.s, .n, .n], .ip [.s]] [1] [.b] [4] false (YI.t k)
noncomputable def YI.p (k : Nat) : Pro := ⟨Try.prog, [], Zn [] false [], k⟩
theorem YI.ok (k : Nat) : Za Try.prog 149 (YI.e k) := Zh (YI.p k) mix tyok Try.func149 trivial (by kernel_rfl) (fun aA aB aC f0_0 => by show _ = _; kernel_rfl)
noncomputable def Ya.l0 {β : Type} (k : Nat) (aE : List (List D)) (aF : ByteArray) (aG : Int) (K L0 : Int → Option β) (v : Int) : Option β :=
  match v with
  | aH => bif (decide ((aH : Int) < aG)) then (atR aE aH [.s, .n, .n] fun x15 x18 x21 => (YI.f k x15 x18 x21 aF (fun y22 => bif y22 then (K aH) else (L0 (IntKind.wrap .i64 (aH + 1)))))) else (K (-1))
noncomputable def Ya.m {β : Type} (k : Nat) (a0 : List (List D)) (a1_0_0 : ByteArray) (K : Int → Option β) (F : ((List (List D)) → ByteArray → Int → Int → Option β)) : Option β :=
  F a0 a1_0_0 (a0.length : Int) (0)
noncomputable def Ya.g {β : Type} (k : Nat) (a0 : List (List D)) (a1_0_0 : ByteArray) (K : Int → Option β) : Option β :=
  Zo (Ya.l0 k a0 a1_0_0 (a0.length : Int) K) k (0)
noncomputable def Ya.t (k : Nat) (a0 : List (List D)) (a1_0_0 : ByteArray) : Option (Int) := Ya.g k a0 a1_0_0 (fun z0 => some z0)
noncomputable def Ya.f {β : Type} (k : Nat) (a0 : List (List D)) (a1_0_0 : ByteArray) (K : Int → Option β) : Option β := bd1 (Ya.t k a0 a1_0_0) K
noncomputable def Ya.e (k : Nat) : Zk := ent [.d .l, .fn 149 [[.s]]] [1] [.n] [3] false (Ya.t k)
noncomputable def Ya.p (k : Nat) : Pro := ⟨Try.prog, [(149, YI.e k)], Zn [(2, kp [0, 1, 7, 8])] false [], k⟩
noncomputable def Ya.d (k : Nat) (a0 : List (List D)) (a1_0_0 : ByteArray) : Ex → St → Option (Int) := (Ya.p k).fin Try.f62 [.d (.sl a0), .d (.fn 149 [[.str a1_0_0]])] [1] [.n]
noncomputable def Ya.s0 (aE : List (List D)) (aF : ByteArray) (aG v : Int) : St :=
  match v with
  | aH => ZX 19 [(0, .d false (.sl aE)), (1, .d false (.fn 149 [[.str aF]])), (7, .d true (.int .i64 aG)), (8, .d true (.int .i64 aH))] []
noncomputable def Ya.r0 (k : Nat) (a0 : List (List D)) (a1_0_0 : ByteArray) (aE : List (List D)) (aF : ByteArray) (aG : Int) (n : Nat) (v : Int) : Option (Int) := (Ya.p k).lp (Zt Try.f62) 2 [1, 0, 1, 0] (Ya.d k a0 a1_0_0) n (Ya.s0 aE aF aG v)
theorem Ya.l0_eq (k : Nat) (a0 : List (List D)) (a1_0_0 : ByteArray) (aE : List (List D)) (aF : ByteArray) (aG : Int) : ∀ n v, Ya.r0 k a0 a1_0_0 aE aF aG n v = Zo (Ya.l0 k aE aF aG (fun z0 => some z0)) n v :=
  Zm (Ya.s0 aE aF aG) _ fun L0 v => by kernel_rfl
theorem Ya.ok (k : Nat) : Za Try.prog 62 (Ya.e k) := Zh (Ya.p k) mix tyok Try.func62 (YI.ok k) (by kernel_rfl) (fun a0 a1_0_0 => Eq.trans (b := Ya.m k a0 a1_0_0 (fun z0 => some z0) (fun aE aF aG => Ya.r0 k a0 a1_0_0 aE aF aG k)) (by kernel_rfl) (congrArg (Ya.m k a0 a1_0_0 (fun z0 => some z0)) (funext fun aE => funext fun aF => funext fun aG => funext fun v => Ya.l0_eq k a0 a1_0_0 aE aF aG k v) :))
noncomputable def YK.g {β : Type} (k : Nat) (a0 : List (List D)) (a1 : ByteArray) (K : Int → Option β) : Option β :=
  Ya.f k a0 a1 (fun y23 => K y23)
noncomputable def YK.t (k : Nat) (a0 : List (List D)) (a1 : ByteArray) : Option (Int) := YK.g k a0 a1 (fun z0 => some z0)
noncomputable def YK.f {β : Type} (k : Nat) (a0 : List (List D)) (a1 : ByteArray) (K : Int → Option β) : Option β := bd1 (YK.t k a0 a1) K
noncomputable def YK.e (k : Nat) : Zk := ent [.d .l, .d .s] [1] [.n] [3] false (YK.t k)
noncomputable def YK.p (k : Nat) : Pro := ⟨Try.prog, [(62, Ya.e k)], Zn [] false [], k⟩
theorem YK.ok (k : Nat) : Za Try.prog 67 (YK.e k) := Zh (YK.p k) mix tyok Try.func67 (Ya.ok k) (by kernel_rfl) (fun a0 a1 => by show _ = _; kernel_rfl)
noncomputable def Yi.l0 {β : Type} (k : Nat) (aE : List (List D)) (aF : ByteArray) (aG : Int) (K L0 : Int → Option β) (v : Int) : Option β :=
  match v with
  | aH => bif (decide ((aH : Int) < aG)) then (atR aE aH [.s] fun x8 => (bif (Zae aF x8) then (K aH) else (L0 (IntKind.wrap .i64 (aH + 1))))) else (K (-1))
noncomputable def Yi.m {β : Type} (k : Nat) (a0 : List (List D)) (a1 : ByteArray) (K : Int → Option β) (F : ((List (List D)) → ByteArray → Int → Int → Option β)) : Option β :=
  F a0 a1 (a0.length : Int) (0)
noncomputable def Yi.g {β : Type} (k : Nat) (a0 : List (List D)) (a1 : ByteArray) (K : Int → Option β) : Option β :=
  Zo (Yi.l0 k a0 a1 (a0.length : Int) K) k (0)
noncomputable def Yi.t (k : Nat) (a0 : List (List D)) (a1 : ByteArray) : Option (Int) := Yi.g k a0 a1 (fun z0 => some z0)
noncomputable def Yi.f {β : Type} (k : Nat) (a0 : List (List D)) (a1 : ByteArray) (K : Int → Option β) : Option β := bd1 (Yi.t k a0 a1) K
noncomputable def Yi.e (k : Nat) : Zk := ent [.d .l, .d .s] [1] [.n] [3] false (Yi.t k)
noncomputable def Yi.p (k : Nat) : Pro := ⟨Try.prog, [], Zn [(2, kp [0, 1, 7, 8])] false [], k⟩
noncomputable def Yi.d (k : Nat) (a0 : List (List D)) (a1 : ByteArray) : Ex → St → Option (Int) := (Yi.p k).fin Try.f150 [.d (.sl a0), .d (.str a1)] [1] [.n]
noncomputable def Yi.s0 (aE : List (List D)) (aF : ByteArray) (aG v : Int) : St :=
  match v with
  | aH => ZX 19 [(0, .d false (.sl aE)), (1, .d false (.str aF)), (7, .d true (.int .i64 aG)), (8, .d true (.int .i64 aH))] []
noncomputable def Yi.r0 (k : Nat) (a0 : List (List D)) (a1 : ByteArray) (aE : List (List D)) (aF : ByteArray) (aG : Int) (n : Nat) (v : Int) : Option (Int) := (Yi.p k).lp (Zt Try.f150) 2 [1, 0, 1, 0] (Yi.d k a0 a1) n (Yi.s0 aE aF aG v)
theorem Yi.l0_eq (k : Nat) (a0 : List (List D)) (a1 : ByteArray) (aE : List (List D)) (aF : ByteArray) (aG : Int) : ∀ n v, Yi.r0 k a0 a1 aE aF aG n v = Zo (Yi.l0 k aE aF aG (fun z0 => some z0)) n v :=
  Zm (Yi.s0 aE aF aG) _ fun L0 v => by kernel_rfl
theorem Yi.ok (k : Nat) : Za Try.prog 150 (Yi.e k) := Zh (Yi.p k) mix tyok Try.func150 trivial (by kernel_rfl) (fun a0 a1 => Eq.trans (b := Yi.m k a0 a1 (fun z0 => some z0) (fun aE aF aG => Yi.r0 k a0 a1 aE aF aG k)) (by kernel_rfl) (congrArg (Yi.m k a0 a1 (fun z0 => some z0)) (funext fun aE => funext fun aF => funext fun aG => funext fun v => Yi.l0_eq k a0 a1 aE aF aG k v) :))
noncomputable def Yk.g {β : Type} (k : Nat) (a0 : List (List D)) (a1 : ByteArray) (K : Bool → Option β) : Option β :=
  Yi.f k a0 a1 (fun y9 => K (decide ((y9 : Int) ≥ 0)))
noncomputable def Yk.t (k : Nat) (a0 : List (List D)) (a1 : ByteArray) : Option (Bool) := Yk.g k a0 a1 (fun z0 => some z0)
noncomputable def Yk.f {β : Type} (k : Nat) (a0 : List (List D)) (a1 : ByteArray) (K : Bool → Option β) : Option β := bd1 (Yk.t k a0 a1) K
noncomputable def Yk.e (k : Nat) : Zk := ent [.d .l, .d .s] [1] [.b] [4] false (Yk.t k)
noncomputable def Yk.p (k : Nat) : Pro := ⟨Try.prog, [(150, Yi.e k)], Zn [] false [], k⟩
theorem Yk.ok (k : Nat) : Za Try.prog 68 (Yk.e k) := Zh (Yk.p k) mix tyok Try.func68 (Yi.ok k) (by kernel_rfl) (fun a0 a1 => by show _ = _; kernel_rfl)
noncomputable def Yg.l1 {β : Type} (k : Nat) (aN : List (List D)) (aO : Int) (aQ v1_4 v1_5 : List (List D)) (v1_6 : Int) (K : Bool → Option β) (L1 : Int → Option β) (v : Int) : Option β :=
  match v with
  | v1_2 => bif (decide ((v1_2 : Int) < aO)) then (atR aN v1_2 [.s] fun x85 => (YK.f k v1_4 x85 (fun y86 => bif (decide ((y86 : Int) < 0)) then (K false) else (Zc (0 ≤ (0 : Int) ∧ (0 : Int) ≤ (v1_2 : Int) ∧ (v1_2 : Int) ≤ (v1_5.length : Int) ∧ rowsOk 1 v1_5) (Yk.f k ((v1_5.drop (Int.toNat (0 : Int))).take (Int.toNat (v1_2 : Int) - Int.toNat (0 : Int))) x85 (fun y87 => bif y87 then (K false) else (L1 (IntKind.wrap .i64 (v1_2 + 1))))))))) else (K true)
noncomputable def Yg.m0 {β : Type} (k : Nat) (aE : Int) (aG aH aJ : List (List D)) (aI : Int) (aK : List (List C)) (K : Bool → Option β) (L0 : Int → Option β) (v : Int) (F : ((List (List D)) → Int → (List (List D)) → (List (List D)) → (List (List D)) → Int → Int → Option β)) : Option β :=
  match v with
  | aF => bif (decide ((aF : Int) < aE)) then (Zc ((0 : Int) ≤ aF ∧ aF < (aK.length : Int)) (ZaG aK (Int.toNat aF) fun c58 => Zas (c58.drop 0) fun c59 r60 => cD c59 fun d61 => dStr d61 fun x62 => Zas r60 fun c63 r64 => cD c63 fun d65 => dInt .i64 d65 fun x66 => Zas r64 fun c67 r68 => cD c67 fun d69 => dInt .i64 d69 fun x70 => Yc.f k ([[.sl aG], [.sl aH]] : List (List D)) (fun y71 => Yv.f k x62 (fun y72 => bif (!y72) then (K false) else (YK.f k (C.immRows y71) x62 (fun y73 => bif ((y73 : Int) != aF) then (K false) else (YH.f k x66 0 1000064 (fun y74 => bif (!y74) then (K false) else (YH.f k x70 0 1000 (fun y75 => bif (!y75) then (K false) else (bif (decide ((aF : Int) ≥ (aG.length : Int))) then (bif ((x66 : Int) != 0) then (K false) else (L0 (IntKind.wrap .i64 (aF + 1)))) else (L0 (IntKind.wrap .i64 (aF + 1)))))))))))))) else (F aJ (aJ.length : Int) aG aH aJ aI (0))
noncomputable def Yg.l0 {β : Type} (k : Nat) (aE : Int) (aG aH aJ : List (List D)) (aI : Int) (aK : List (List C)) (K : Bool → Option β) (L0 : Int → Option β) (v : Int) : Option β := Yg.m0 k aE aG aH aJ aI aK K L0 v (fun aN aO aQ v1_4 v1_5 v1_6 => Zo (Yg.l1 k aN aO aQ v1_4 v1_5 v1_6 K) k)
noncomputable def Yg.m {β : Type} (k : Nat) (aA aB aC : List (List D)) (aD : Int) (K : Bool → Option β) (F : (Int → (List (List D)) → (List (List D)) → (List (List D)) → Int → (List (List C)) → Int → Option β)) : Option β :=
  bif (decide (((aA.length : Int) : Int) > 60)) then (K false) else (bif (decide (((aB.length : Int) : Int) > 60)) then (K false) else (YH.f k aD 0 1000000 (fun y1 => bif (!y1) then (K false) else (Yc.f k ([[.sl aA], [.sl aB]] : List (List D)) (fun y27 => F (y27.length : Int) aA aB aC aD y27 (0))))))
noncomputable def Yg.g {β : Type} (k : Nat) (aA aB aC : List (List D)) (aD : Int) (K : Bool → Option β) : Option β := Yg.m k aA aB aC aD K (fun aE aG aH aJ aI aK => Zo (Yg.l0 k aE aG aH aJ aI aK K) k)
noncomputable def Yg.t (k : Nat) (aA aB aC : List (List D)) (aD : Int) : Option (Bool) := Yg.g k aA aB aC aD (fun z0 => some z0)
noncomputable def Yg.f {β : Type} (k : Nat) (aA aB aC : List (List D)) (aD : Int) (K : Bool → Option β) : Option β := bd1 (Yg.t k aA aB aC aD) K
noncomputable def Yg.e (k : Nat) : Zk := ent [.agg [.l, .l, .l, .n]] [1] [.b] [4] false (Yg.t k)
noncomputable def Yg.p (k : Nat) : Pro := ⟨Try.prog, [(71, YH.e k), (72, Yc.e k), (73, Yv.e k), (67, YK.e k), (68, Yk.e k)], Zn [(4, kp [1, 29, 30, 31]), (11, kp [1, 80, 81, 82])] false [], k⟩
noncomputable def Yg.d (k : Nat) (aA aB aC : List (List D)) (aD : Int) : Ex → St → Option (Bool) := (Yg.p k).fin Try.f19 [.agg [.sl aA, .sl aB, .sl aC, .int .i64 aD]] [1] [.b]
noncomputable def Yg.s0 (aE : Int) (aG aH aJ : List (List D)) (aI : Int) (aK : List (List C)) (v : Int) : St :=
  match v with
  | aF => ZX 101 [(1, .bp 0 0), (29, .row 1), (30, .d true (.int .i64 aE)), (31, .d true (.int .i64 aF))] [.box none 27 [.d false (.sl aG), .d false (.sl aH), .d false (.sl aJ), .d false (.int .i64 aI)], .row none true 24 aK]
noncomputable def Yg.r0 (k : Nat) (aA aB aC : List (List D)) (aD aE : Int) (aG aH aJ : List (List D)) (aI : Int) (aK : List (List C)) (n : Nat) (v : Int) : Option (Bool) := (Yg.p k).lp (Zt Try.f19) 4 [1, 1, 0, 1, 0] (Yg.d k aA aB aC aD) n (Yg.s0 aE aG aH aJ aI aK v)
noncomputable def Yg.s1 (aN : List (List D)) (aO : Int) (aQ v1_4 v1_5 : List (List D)) (v1_6 v : Int) : St :=
  match v with
  | v1_2 => ZX 101 [(1, .bp 0 0), (80, .d false (.sl aN)), (81, .d true (.int .i64 aO)), (82, .d true (.int .i64 v1_2))] [.box none 27 [.d false (.sl aQ), .d false (.sl v1_4), .d false (.sl v1_5), .d false (.int .i64 v1_6)]]
noncomputable def Yg.r1 (k : Nat) (aA aB aC : List (List D)) (aD : Int) (aN : List (List D)) (aO : Int) (aQ v1_4 v1_5 : List (List D)) (v1_6 : Int) (n : Nat) (v : Int) : Option (Bool) := (Yg.p k).lp (Zt Try.f19) 11 [1, 1, 1, 0, 1, 0] (Yg.d k aA aB aC aD) n (Yg.s1 aN aO aQ v1_4 v1_5 v1_6 v)
theorem Yg.l1_eq (k : Nat) (aA aB aC : List (List D)) (aD : Int) (aN : List (List D)) (aO : Int) (aQ v1_4 v1_5 : List (List D)) (v1_6 : Int) : ∀ n v, Yg.r1 k aA aB aC aD aN aO aQ v1_4 v1_5 v1_6 n v = Zo (Yg.l1 k aN aO aQ v1_4 v1_5 v1_6 (fun z0 => some z0)) n v :=
  Zm (Yg.s1 aN aO aQ v1_4 v1_5 v1_6) _ fun L1 v => by kernel_rfl
theorem Yg.l0_eq (k : Nat) (aA aB aC : List (List D)) (aD aE : Int) (aG aH aJ : List (List D)) (aI : Int) (aK : List (List C)) : ∀ n v, Yg.r0 k aA aB aC aD aE aG aH aJ aI aK n v = Zo (Yg.l0 k aE aG aH aJ aI aK (fun z0 => some z0)) n v :=
  Zm (Yg.s0 aE aG aH aJ aI aK) _ fun L0 v => by exact Eq.trans (b := Yg.m0 k aE aG aH aJ aI aK (fun z0 => some z0) (fun v => L0 (Yg.s0 aE aG aH aJ aI aK v)) v (fun aN aO aQ v1_4 v1_5 v1_6 => Yg.r1 k aA aB aC aD aN aO aQ v1_4 v1_5 v1_6 k)) (by kernel_rfl) (congrArg (Yg.m0 k aE aG aH aJ aI aK (fun z0 => some z0) (fun v => L0 (Yg.s0 aE aG aH aJ aI aK v)) v) (funext fun aN => funext fun aO => funext fun aQ => funext fun v1_4 => funext fun v1_5 => funext fun v1_6 => funext fun v => Yg.l1_eq k aA aB aC aD aN aO aQ v1_4 v1_5 v1_6 k v))
theorem Yg.ok (k : Nat) : Za Try.prog 19 (Yg.e k) := Zh (Yg.p k) mix tyok Try.func19 ⟨YH.ok k, Yc.ok k, Yv.ok k, YK.ok k, Yk.ok k⟩ (by kernel_rfl) (fun aA aB aC aD => Eq.trans (b := Yg.m k aA aB aC aD (fun z0 => some z0) (fun aE aG aH aJ aI aK => Yg.r0 k aA aB aC aD aE aG aH aJ aI aK k)) (by kernel_rfl) (congrArg (Yg.m k aA aB aC aD (fun z0 => some z0)) (funext fun aE => funext fun aG => funext fun aH => funext fun aJ => funext fun aI => funext fun aK => funext fun v => Yg.l0_eq k aA aB aC aD aE aG aH aJ aI aK k v) :))
noncomputable def Yh.t (k : Nat) (xs : List (List C)) (i j : Int) : Option (List (List C)) := Zc (0 ≤ i ∧ i ≤ j ∧ j ≤ (xs.length : Int)) (some (xs.take i.toNat ++ xs.drop j.toNat))
noncomputable def Yh.f {β : Type} (k : Nat) (xs : List (List C)) (i j : Int) (K : (List (List C)) → Option β) : Option β :=
  match Yh.t k xs i j with
  | some z0 => K z0
  | none => none
noncomputable def Yh.run (k : Nat) : {β : Type} → List A → ((List (List C)) → Option β) → Option β := fun {β} l K =>
  match l with
  | [.own false [.own xs], .d (.int .i64 i), .d (.int .i64 j)] => Yh.f k xs i j K
  | _ => none
noncomputable def Yh.e (k : Nat) : Zk := { modes := [(.own, 0)], rts := [24], al := false, run := fun _ _ => none, lib := some ⟨[true, false, false], 24, Yh.run k⟩ }
set_option maxHeartbeats 4000000 in
set_option maxRecDepth 1000000 in
theorem Yh.raw0 (a : Option Addr) (n cap i : Nat) (w : World) (hi : i ≤ n) (hn : n ≤ cap) : Calls Try.prog 64 #[.slice a n cap, .int .i64 i, .int .i64 i] w fun ex w' => ex = .returned (.slice a n cap) ∧ w' = w := by
  go_enter Try.func64, Try.ntmps64
  go_wp2
  all_goals (go_ret; exact ⟨rfl, rfl⟩)
set_option maxHeartbeats 4000000 in
set_option maxRecDepth 1000000 in
theorem Yh.raw2 (b cap n i j : Nat) (c : Array Value) (e : TypeId) (w : World) (hb : w.heap[b]? = some (.cells c e (0, 0))) (hc : c.size = cap * 3) (hn : n ≤ cap) (hij : i < j) (hj : j ≤ n) (h1 : ∀ t, t < n * 3 → ∃ v, c[t]? = some v ∧ v.oneCell' = true) (i0 : TypeInfo) (z : Value) (hi : Try.prog.info? 33 = some i0) (hz : i0.zero = some z) (hs : i0.size = 3) (hzs : z.cells.size = 3) (hz1 : ∀ v ∈ z.cells.toList, v.oneCell' = true) :
    Calls Try.prog 64 #[.slice (some ⟨b, 0, none⟩) n cap, .int .i64 i, .int .i64 j] w fun ex w' => ex = .returned (.slice (some ⟨b, 0, none⟩) (n - (j - i)) cap) ∧ Only b w w' ∧ ∃ c', w'.heap[b]? = some (.cells c' e (0, 0)) ∧ c'.size = c.size ∧ (∀ t, t < i * 3 → c'[t]? = c[t]?) ∧ ∀ t, t < (n - j) * 3 → c'[i * 3 + t]? = c[j * 3 + t]? := by
  have mixed : Try.prog.follows .mixedOrders = true := by kernel_rfl
  have hb0 : w.drew.heap[b]? = some (.cells c e (0, 0)) := hb
  obtain ⟨A, news, hA, hlen, hsrc, hone, hget⟩ := tail_src hb0 hc hn hj h1
  obtain ⟨hb1, ho1⟩ := Zac news (i * 3) hb0
  obtain ⟨W1, hW1⟩ : ∃ W1, W1 = w.drew.setCells b (0 + i * 3) news := ⟨_, rfl⟩
  rw [Nat.zero_add] at hW1
  rw [← hW1] at hb1 ho1
  have hle : i * 3 + news.length ≤ c.size := by rw [hlen, hc]; omega
  have hcl : ∀ ty, (Builtin.clear_ #[24] ty #[.slice (some ⟨b, (i + (n - j)) * 3, none⟩) (n - (i + (n - j))) (cap - (i + (n - j)))]).run Try.prog W1 = .ok (.tuple #[]) (W1.setCells b ((i + (n - j)) * 3) (Builtin.zeroCells z.cells (n - (i + (n - j)))).toList) :=
    fun ty => run_clear_cells Try.underlying24 hi hz hz1 (by omega) (fun t ht => by rw [Zam hb1]; rw [hzs] at ht; rw [Array.getElem?_eq_getElem (by rw [Zaz, hc]; omega)]; rfl) (fun t ht => Zaw hb1 _)
  have hW : Hold (W1 = w.drew.setCells b (i * 3) news) := ⟨hW1⟩
  obtain ⟨hb2, ho2⟩ := Zac (Builtin.zeroCells z.cells (n - (i + (n - j)))).toList ((i + (n - j)) * 3) hb1
  have hfin : Hold (Only b w (W1.setCells b ((i + (n - j)) * 3) (Builtin.zeroCells z.cells (n - (i + (n - j)))).toList) ∧ ∃ c', (W1.setCells b ((i + (n - j)) * 3) (Builtin.zeroCells z.cells (n - (i + (n - j)))).toList).heap[b]? = some (.cells c' e (0, 0)) ∧ c'.size = c.size ∧ (∀ t, t < i * 3 → c'[t]? = c[t]?) ∧ ∀ t, t < (n - j) * 3 → c'[i * 3 + t]? = c[j * 3 + t]?) := by
    have hzl : (Builtin.zeroCells z.cells (n - (i + (n - j)))).toList.length = (n - (i + (n - j))) * 3 := by simp [Zap, hzs]
    refine ⟨((Only.drew b w).trans ho1).trans ho2, _, hb2, by rw [Zaz, Zaz], fun t ht => ?_, fun t ht => ?_⟩
    · rw [Zaa _ _ _ _ (by rw [hzl, Zaz, hc]; omega), if_neg (by omega), Zaa _ _ _ _ hle, if_neg (by omega)]
    · rw [Zaa _ _ _ _ (by rw [hzl, Zaz, hc]; omega), if_neg (by omega), Zaa _ _ _ _ hle, if_pos (by omega), Nat.add_sub_cancel_left, hget t ht]
  have hsp : ∀ t, t < news.length → (w.drew.cell? ⟨b, 0 + i * 3 + t, none⟩).isSome = true ∧ w.drew.frozen? ⟨b, 0 + i * 3 + t, none⟩ = false := fun t ht => ⟨by rw [Zam hb0, Array.getElem?_eq_getElem (by omega)]; rfl, Zaw hb0 _⟩
  generalize (Builtin.zeroCells z.cells (n - (i + (n - j)))).toList = zl at hcl hfin
  clear hb hb0 ho1 hb1 hb2 ho2 hget hW1 h1 hle hc hz1 hzs hz
  have hic : i ≤ cap := by omega
  have hjc : j ≤ cap := by omega
  go_enter Try.func64, Try.ntmps64
  go_wp2_with fail
  go_region_law_o (refine step_append_room rfl (.tmp 22) (.tmp 25) 24 rfl 33 i0 3 Try.underlying24 hi hs b 0 i cap (by simp [Act.eval, Act.put]) A (n - j) (cap - j) news (by simp [Act.eval, Act.put]) hlen hsrc hone (by omega) hsp ?_; rw [Nat.zero_add, ← hW.out])
  go_wp2
  go_ret
  refine ⟨?_, hfin.out⟩
  rw [show i + (n - j) = n - (j - i) from by omega]
  rfl
theorem Yh.raw : DelRaw Try.prog 64 3 := ⟨fun a n cap i w h1 h2 => Yh.raw0 a n cap i w h1 h2, fun b cap n i j c e w hb hc hn hij hj h1 => by
  obtain ⟨i0, z, hi, hz, hzs⟩ := Zbj (P := Try.prog) (t := 33) (by kernel_rfl)
  have hsz : i0.size = 3 := by
    have : Try.prog.cellsOf 33 = 3 := by kernel_rfl
    simpa [Program.cellsOf, hi] using this
  have hzc : z.cells.size = 3 := by
    have h1 : (ZaA Try.prog 33).length = 3 := by kernel_rfl
    rw [← h1]
    simpa using (Zay hzs).2.2.1.symm
  exact Yh.raw2 b cap n i j c e w hb hc hn hij hj h1 i0 z hi hz hsz hzc (Zay hzs).2.1⟩
theorem Yh.ok (k : Nat) : Za Try.prog 64 (Yh.e k) := delete_ok tyok (ct := 24) (K := 3) (run := fun {β} => Yh.run k) (by kernel_rfl) (enter_of Try.func64 (by kernel_rfl)) Yh.raw (fun β aa K r h => by
  unfold Yh.run at h
  split at h
  · unfold Yh.f Yh.t at h
    split at h
    · rename_i hz
      obtain ⟨hg, hz⟩ := ZD hz
      injection hz with hz
      subst hz
      exact ⟨_, _, _, rfl, hg, h⟩
    · cases h
  · cases h)
noncomputable def YT.g {β : Type} (k : Nat) (aA aB aC : List (List D)) (aD : Int) (K : (List (List C)) → (List (List C)) → (List (List C)) → Int → ByteArray → Bool → Option β) : Option β :=
  Yz.f k aA aB aC aD (fun y4 y5 y6 y7 => Yb.f k aA aA aB aC aD (fun y23 => Yg.f k aA aB aC aD (fun y88 => bif (!y88) then (K y4 y5 y6 y7 (⟨#[]⟩ : ByteArray) false) else (bif (decide ((y23 : Int) < 0)) then (K y4 y5 y6 y7 (⟨#[]⟩ : ByteArray) false) else (bif (((aB.length : Int) : Int) == 60) then (K y4 y5 y6 y7 (⟨#[]⟩ : ByteArray) false) else (atR aA y23 [.s, .n, .n] fun x92 x95 x98 => (Yh.f k y4 y23 (IntKind.wrap .i64 (y23 + 1)) (fun y99 => Zc (y5.length + ([[.d (.str x92), .d (.int .i64 0), .d (.int .i64 x98)]] : List (List C)).length ≤ ZN) (K y99 (y5 ++ ([[.d (.str x92), .d (.int .i64 0), .d (.int .i64 x98)]] : List (List C))) y6 y7 x92 true)))))))))
noncomputable def YT.t (k : Nat) (aA aB aC : List (List D)) (aD : Int) : Option ((List (List C)) × (List (List C)) × (List (List C)) × Int × ByteArray × Bool) := YT.g k aA aB aC aD (fun z0 z1 z2 z3 z4 z5 => some (z0, z1, z2, z3, z4, z5))
noncomputable def YT.f {β : Type} (k : Nat) (aA aB aC : List (List D)) (aD : Int) (K : (List (List C)) → (List (List C)) → (List (List C)) → Int → ByteArray → Bool → Option β) : Option β := match YT.t k aA aB aC aD with | some (z0, z1, z2, z3, z4, z5) => K z0 z1 z2 z3 z4 z5 | none => none
noncomputable def YT.e (k : Nat) : Zk := ent [.agg [.l, .l, .l, .n]] [4, 1, 1] [.o, .o, .o, .n, .s, .b] [27, 9, 4] false (YT.t k)
noncomputable def YT.p (k : Nat) : Pro := ⟨Try.prog, [(61, Yz.e k), (62, Yb.e k), (19, Yg.e k), (64, Yh.e k)], Zn [] false [], k⟩
theorem YT.ok (k : Nat) : Za Try.prog 13 (YT.e k) := Zh (YT.p k) mix tyok Try.func13 ⟨Yz.ok k, Yb.ok k, Yg.ok k, Yh.ok k⟩ (by kernel_rfl) (fun aA aB aC aD => by show _ = _; kernel_rfl)
noncomputable def Yo.l0 {β : Type} (k : Nat) (aF : List (List D)) (aG : Int) (aJ aI aK : List (List D)) (aL : Int) (K : Int → Option β) (L0 : (Int × Int) → Option β) (v : Int × Int) : Option β :=
  match v with
  | (aE, aH) => bif (decide ((aH : Int) < aG)) then (atR aF aH [.s, .n, .n] fun x15 x18 x21 => let J0 := (L0 (if (aL : Int) > x18 then aL else x18, IntKind.wrap .i64 (aH + 1))); (bif (decide ((aE : Int) < 0)) then J0 else (bif (decide (((if (aL : Int) > x18 then aL else x18) : Int) < aE)) then J0 else (L0 (aE, IntKind.wrap .i64 (aH + 1)))))) else (K aE)
noncomputable def Yo.m {β : Type} (k : Nat) (aA aB aC : List (List D)) (aD : Int) (K : Int → Option β) (F : ((List (List D)) → Int → (List (List D)) → (List (List D)) → (List (List D)) → Int → (Int × Int) → Option β)) : Option β :=
  Yg.f k aA aB aC aD (fun y1 => bif (!y1) then (K (-1)) else (F aA (aA.length : Int) aA aB aC aD ((-1), 0)))
noncomputable def Yo.g {β : Type} (k : Nat) (aA aB aC : List (List D)) (aD : Int) (K : Int → Option β) : Option β :=
  Yg.f k aA aB aC aD (fun y1 => bif (!y1) then (K (-1)) else (Zo (Yo.l0 k aA (aA.length : Int) aA aB aC aD K) k ((-1), 0)))
noncomputable def Yo.t (k : Nat) (aA aB aC : List (List D)) (aD : Int) : Option (Int) := Yo.g k aA aB aC aD (fun z0 => some z0)
noncomputable def Yo.f {β : Type} (k : Nat) (aA aB aC : List (List D)) (aD : Int) (K : Int → Option β) : Option β := bd1 (Yo.t k aA aB aC aD) K
noncomputable def Yo.e (k : Nat) : Zk := ent [.agg [.l, .l, .l, .n]] [1] [.n] [3] false (Yo.t k)
noncomputable def Yo.p (k : Nat) : Pro := ⟨Try.prog, [(19, Yg.e k)], Zn [(5, kp [1, 3, 11, 12, 13])] false [], k⟩
noncomputable def Yo.d (k : Nat) (aA aB aC : List (List D)) (aD : Int) : Ex → St → Option (Int) := (Yo.p k).fin Try.f15 [.agg [.sl aA, .sl aB, .sl aC, .int .i64 aD]] [1] [.n]
noncomputable def Yo.s0 (aF : List (List D)) (aG : Int) (aJ aI aK : List (List D)) (aL : Int) (v : Int × Int) : St :=
  match v with
  | (aE, aH) => ZX 32 [(1, .bp 0 0), (3, .d true (.int .i64 aE)), (11, .d false (.sl aF)), (12, .d true (.int .i64 aG)), (13, .d true (.int .i64 aH))] [.box none 27 [.d false (.sl aJ), .d false (.sl aI), .d false (.sl aK), .d false (.int .i64 aL)]]
noncomputable def Yo.r0 (k : Nat) (aA aB aC : List (List D)) (aD : Int) (aF : List (List D)) (aG : Int) (aJ aI aK : List (List D)) (aL : Int) (n : Nat) (v : Int × Int) : Option (Int) := (Yo.p k).lp (Zt Try.f15) 5 [1, 1, 1, 0, 1, 0] (Yo.d k aA aB aC aD) n (Yo.s0 aF aG aJ aI aK aL v)
theorem Yo.l0_eq (k : Nat) (aA aB aC : List (List D)) (aD : Int) (aF : List (List D)) (aG : Int) (aJ aI aK : List (List D)) (aL : Int) : ∀ n v, Yo.r0 k aA aB aC aD aF aG aJ aI aK aL n v = Zo (Yo.l0 k aF aG aJ aI aK aL (fun z0 => some z0)) n v :=
  Zm (Yo.s0 aF aG aJ aI aK aL) _ fun L0 v => by obtain ⟨aE, aH⟩ := v; kernel_rfl
theorem Yo.ok (k : Nat) : Za Try.prog 15 (Yo.e k) := Zh (Yo.p k) mix tyok Try.func15 (Yg.ok k) (by kernel_rfl) (fun aA aB aC aD => Eq.trans (b := Yo.m k aA aB aC aD (fun z0 => some z0) (fun aF aG aJ aI aK aL => Yo.r0 k aA aB aC aD aF aG aJ aI aK aL k)) (by kernel_rfl) (congrArg (Yo.m k aA aB aC aD (fun z0 => some z0)) (funext fun aF => funext fun aG => funext fun aJ => funext fun aI => funext fun aK => funext fun aL => funext fun v => Yo.l0_eq k aA aB aC aD aF aG aJ aI aK aL k v) :))
noncomputable def YA.g {β : Type} (k : Nat) (a0 a1 : Int) (K : Int → Option β) : Option β :=
  bif (decide ((a0 : Int) < a1)) then (K a0) else (K a1)
noncomputable def YA.t (k : Nat) (a0 a1 : Int) : Option (Int) := YA.g k a0 a1 (fun z0 => some z0)
noncomputable def YA.f {β : Type} (k : Nat) (a0 a1 : Int) (K : Int → Option β) : Option β := bd1 (YA.t k a0 a1) K
noncomputable def YA.e (k : Nat) : Zk := ent [.d .n, .d .n] [1] [.n] [3] false (YA.t k)
noncomputable def YA.p (k : Nat) : Pro := ⟨Try.prog, [], Zn [] false [], k⟩
theorem YA.ok (k : Nat) : Za Try.prog 66 (YA.e k) := Zh (YA.p k) mix tyok Try.func66 trivial (by kernel_rfl) (fun a0 a1 => by show _ = _; kernel_rfl)
noncomputable def Yn.l0 {β : Type} (k : Nat) (aG aH aJ : List (List D)) (aI : Int) (K : Int → Option β) (L0 : (Int × Int) → Option β) (v : Int × Int) : Option β :=
  match v with
  | (aE, aF) => bif (decide ((aF : Int) < (aG.length : Int))) then (atR aG aF [.s, .n, .n] fun x26 x29 x32 => (YA.f k aE x29 (fun y33 => L0 (y33, IntKind.wrap .i64 (aF + 1))))) else (bif (decide ((aE : Int) < aI)) then (K aI) else (K aE))
noncomputable def Yn.m {β : Type} (k : Nat) (aA aB aC : List (List D)) (aD : Int) (K : Int → Option β) (F : ((List (List D)) → (List (List D)) → (List (List D)) → Int → (Int × Int) → Option β)) : Option β :=
  Yd.f k aA aB aC aD (fun y1 => bif (!y1) then (K (-1)) else (bif (((aA.length : Int) : Int) == 0) then (K (-1)) else (atR aA 0 [.s, .n, .n] fun x5 x8 x11 => (F aA aB aC aD (x8, 1)))))
noncomputable def Yn.g {β : Type} (k : Nat) (aA aB aC : List (List D)) (aD : Int) (K : Int → Option β) : Option β := Yn.m k aA aB aC aD K (fun aG aH aJ aI => Zo (Yn.l0 k aG aH aJ aI K) k)
noncomputable def Yn.t (k : Nat) (aA aB aC : List (List D)) (aD : Int) : Option (Int) := Yn.g k aA aB aC aD (fun z0 => some z0)
noncomputable def Yn.f {β : Type} (k : Nat) (aA aB aC : List (List D)) (aD : Int) (K : Int → Option β) : Option β := bd1 (Yn.t k aA aB aC aD) K
noncomputable def Yn.e (k : Nat) : Zk := ent [.agg [.l, .l, .l, .n]] [1] [.n] [3] false (Yn.t k)
noncomputable def Yn.p (k : Nat) : Pro := ⟨Try.prog, [(23, Yd.e k), (66, YA.e k)], Zn [(5, kp [1, 4] [(3, .dat false)])] false [], k⟩
noncomputable def Yn.d (k : Nat) (aA aB aC : List (List D)) (aD : Int) : Ex → St → Option (Int) := (Yn.p k).fin Try.f16 [.agg [.sl aA, .sl aB, .sl aC, .int .i64 aD]] [1] [.n]
noncomputable def Yn.s0 (aG aH aJ : List (List D)) (aI : Int) (v : Int × Int) : St :=
  match v with
  | (aE, aF) => ZX 41 [(1, .bp 0 0), (3, .d false (.int .i64 aE)), (4, .d true (.int .i64 aF))] [.box none 27 [.d false (.sl aG), .d false (.sl aH), .d false (.sl aJ), .d false (.int .i64 aI)]]
noncomputable def Yn.r0 (k : Nat) (aA aB aC : List (List D)) (aD : Int) (aG aH aJ : List (List D)) (aI : Int) (n : Nat) (v : Int × Int) : Option (Int) := (Yn.p k).lp (Zt Try.f16) 5 [1, 1, 1, 0, 1, 0] (Yn.d k aA aB aC aD) n (Yn.s0 aG aH aJ aI v)
theorem Yn.l0_eq (k : Nat) (aA aB aC : List (List D)) (aD : Int) (aG aH aJ : List (List D)) (aI : Int) : ∀ n v, Yn.r0 k aA aB aC aD aG aH aJ aI n v = Zo (Yn.l0 k aG aH aJ aI (fun z0 => some z0)) n v :=
  Zm (Yn.s0 aG aH aJ aI) _ fun L0 v => by obtain ⟨aE, aF⟩ := v; kernel_rfl
theorem Yn.ok (k : Nat) : Za Try.prog 16 (Yn.e k) := Zh (Yn.p k) mix tyok Try.func16 ⟨Yd.ok k, YA.ok k⟩ (by kernel_rfl) (fun aA aB aC aD => Eq.trans (b := Yn.m k aA aB aC aD (fun z0 => some z0) (fun aG aH aJ aI => Yn.r0 k aA aB aC aD aG aH aJ aI k)) (by kernel_rfl) (congrArg (Yn.m k aA aB aC aD (fun z0 => some z0)) (funext fun aG => funext fun aH => funext fun aJ => funext fun aI => funext fun v => Yn.l0_eq k aA aB aC aD aG aH aJ aI k v) :))
noncomputable def YL.g {β : Type} (k : Nat) (a0 f0_0 : ByteArray) (K : Bool → Option β) : Option β :=
  K (Zae a0 f0_0)
noncomputable def YL.t (k : Nat) (a0 f0_0 : ByteArray) : Option (Bool) := YL.g k a0 f0_0 (fun z0 => some z0)
noncomputable def YL.f {β : Type} (k : Nat) (a0 f0_0 : ByteArray) (K : Bool → Option β) : Option β := bd1 (YL.t k a0 f0_0) K
noncomputable def YL.e (k : Nat) : Zk := ent [.d .s, .ip [.s]] [1] [.b] [4] false (YL.t k)
noncomputable def YL.p (k : Nat) : Pro := ⟨Try.prog, [], Zn [] false [], k⟩
theorem YL.ok (k : Nat) : Za Try.prog 70 (YL.e k) := Zh (YL.p k) mix tyok Try.func70 trivial (by kernel_rfl) (fun a0 f0_0 => by show _ = _; kernel_rfl)
noncomputable def Ye.l0 {β : Type} (k : Nat) (aE : List (List D)) (aF : ByteArray) (aG : Int) (K L0 : Int → Option β) (v : Int) : Option β :=
  match v with
  | aH => bif (decide ((aH : Int) < aG)) then (atR aE aH [.s] fun x9 => (YL.f k x9 aF (fun y10 => bif y10 then (K aH) else (L0 (IntKind.wrap .i64 (aH + 1)))))) else (K (-1))
noncomputable def Ye.m {β : Type} (k : Nat) (a0 : List (List D)) (a1_0_0 : ByteArray) (K : Int → Option β) (F : ((List (List D)) → ByteArray → Int → Int → Option β)) : Option β :=
  F a0 a1_0_0 (a0.length : Int) (0)
noncomputable def Ye.g {β : Type} (k : Nat) (a0 : List (List D)) (a1_0_0 : ByteArray) (K : Int → Option β) : Option β :=
  Zo (Ye.l0 k a0 a1_0_0 (a0.length : Int) K) k (0)
noncomputable def Ye.t (k : Nat) (a0 : List (List D)) (a1_0_0 : ByteArray) : Option (Int) := Ye.g k a0 a1_0_0 (fun z0 => some z0)
noncomputable def Ye.e (k : Nat) : Zk := ent [.d .l, .fn 70 [[.s]]] [1] [.n] [3] false (Ye.t k)
noncomputable def Ye.p (k : Nat) : Pro := ⟨Try.prog, [(70, YL.e k)], Zn [(2, kp [0, 1, 7, 8])] false [], k⟩
noncomputable def Ye.d (k : Nat) (a0 : List (List D)) (a1_0_0 : ByteArray) : Ex → St → Option (Int) := (Ye.p k).fin Try.f151 [.d (.sl a0), .d (.fn 70 [[.str a1_0_0]])] [1] [.n]
noncomputable def Ye.s0 (aE : List (List D)) (aF : ByteArray) (aG v : Int) : St :=
  match v with
  | aH => ZX 19 [(0, .d false (.sl aE)), (1, .d false (.fn 70 [[.str aF]])), (7, .d true (.int .i64 aG)), (8, .d true (.int .i64 aH))] []
noncomputable def Ye.r0 (k : Nat) (a0 : List (List D)) (a1_0_0 : ByteArray) (aE : List (List D)) (aF : ByteArray) (aG : Int) (n : Nat) (v : Int) : Option (Int) := (Ye.p k).lp (Zt Try.f151) 2 [1, 0, 1, 0] (Ye.d k a0 a1_0_0) n (Ye.s0 aE aF aG v)
theorem Ye.l0_eq (k : Nat) (a0 : List (List D)) (a1_0_0 : ByteArray) (aE : List (List D)) (aF : ByteArray) (aG : Int) : ∀ n v, Ye.r0 k a0 a1_0_0 aE aF aG n v = Zo (Ye.l0 k aE aF aG (fun z0 => some z0)) n v :=
  Zm (Ye.s0 aE aF aG) _ fun L0 v => by kernel_rfl
theorem Ye.ok (k : Nat) : Za Try.prog 151 (Ye.e k) := Zh (Ye.p k) mix tyok Try.func151 (YL.ok k) (by kernel_rfl) (fun a0 a1_0_0 => Eq.trans (b := Ye.m k a0 a1_0_0 (fun z0 => some z0) (fun aE aF aG => Ye.r0 k a0 a1_0_0 aE aF aG k)) (by kernel_rfl) (congrArg (Ye.m k a0 a1_0_0 (fun z0 => some z0)) (funext fun aE => funext fun aF => funext fun aG => funext fun v => Ye.l0_eq k a0 a1_0_0 aE aF aG k v) :))
noncomputable def Yf.t (k : Nat) (xs : List (List C)) (c0_0 : ByteArray) : Option (List (List C)) := delT (fun ds => Ye.t k ds c0_0) (fun s => YL.t k s c0_0) xs
noncomputable def Yf.f {β : Type} (k : Nat) (xs : List (List C)) (c0_0 : ByteArray) (K : (List (List C)) → Option β) : Option β :=
  match Yf.t k xs c0_0 with
  | some z0 => K z0
  | none => none
noncomputable def Yf.run (k : Nat) : {β : Type} → List A → ((List (List C)) → Option β) → Option β := fun {β} l K =>
  match l with
  | [.own false [.own xs], .d (.fn g [[.str c0_0]])] => bif g == 70 then Yf.f k xs c0_0 K else none
  | _ => none
noncomputable def Yf.e (k : Nat) : Zk := { modes := [(.own, 0)], rts := [25], al := false, run := fun _ _ => none, lib := some ⟨[true, false], 25, Yf.run k⟩ }
set_option maxHeartbeats 4000000 in
set_option maxRecDepth 1000000 in
theorem Yf.raw2 (b cap n : Nat) (c : Array Value) (e : TypeId) (w : World) (g : Nat) (lb : Array Value) (p : Nat → Bool) (k0 : Nat) (hb : w.heap[b]? = some (.cells c e (0, 0))) (hc : c.size = cap * 1) (hn : n ≤ cap) (hk0 : k0 < n) (hm : n ≤ 1099511627776)
   (h1 : ∀ t, t < n → ∃ s, c[t]? = some (.string s)) (i0 : TypeInfo) (z : Value) (hi : Try.prog.info? 9 = some i0) (hz : i0.zero = some z) (hs : i0.size = 1) (hzs : z.cells.size = 1) (hz1 : ∀ v ∈ z.cells.toList, v.oneCell' = true)
   (eg : ∀ args w, (callFunc g args).run Try.prog w = .ok (.enter g args) w)
   (hIF : Calls Try.prog 151 #[.slice (some ⟨b, 0, none⟩) n cap, .func (.func g) #[] lb] w fun e w' => e = .returned (.int .i64 k0) ∧ Gs w w')
   (hpred : ∀ j, k0 < j → j < n → ∀ W, Gr b w W → ∀ v : Value, c[j]? = some v → Calls Try.prog g (#[v] ++ lb) W fun e w' => e = .returned (.bool (p j)) ∧ Gs W w') :
    Calls Try.prog 69 #[.slice (some ⟨b, 0, none⟩) n cap, .func (.func g) #[] lb] w fun ex w' => ex = .returned (.slice (some ⟨b, 0, none⟩) (kpt p k0 n).length cap) ∧ Gr b w w' ∧ ∃ c' : Array Value, w'.heap[b]? = some (.cells c' e (0, 0)) ∧ c'.size = c.size ∧ ∀ m k : Nat, (kpt p k0 n)[m]? = some k → c'[m]? = c[k]? := by
  have mixed : Try.prog.follows .mixedOrders = true := by kernel_rfl
  have hHC : Hold (∀ j, k0 < j → j < n → ∀ W, Gr b w W → ∀ v : Value, c[j]? = some v → Calls Try.prog g (#[v] ++ lb) W fun e w' => e = .returned (.bool (p j)) ∧ Gs W w') := ⟨hpred⟩
  have hH1 : Hold (∀ t, t < n → ∃ s, c[t]? = some (.string s)) := ⟨h1⟩
  have hHZ : Hold (i0.zero = some z ∧ i0.size = 1 ∧ z.cells.size = 1 ∧ (∀ v ∈ z.cells.toList, v.oneCell' = true) ∧ Try.prog.info? 9 = some i0) := ⟨hz, hs, hzs, hz1, hi⟩
  have hHB : Hold (w.heap[b]? = some (.cells c e (0, 0)) ∧ c.size = cap * 1) := ⟨hb, hc⟩
  clear hpred h1 hz hs hzs hz1 hi hb hc
  have hne1 : ((k0 : Int) == -1) = false := beq_eq_false_iff_ne.2 (by omega)
  go_enter Try.func69, Try.ntmps69
  go_wp2_with (go_at_call 151; refine hIF.mono ?_; rintro e w' ⟨rfl, hg⟩)
  go_loopg [5, 6, 7] n (fun gg s5 s6 _ wr => ∃ (i j : Nat), s5 = .int .i64 i ∧ s6 = .int .i64 j ∧ j ≤ n ∧ n - j ≤ gg ∧ Hold (∃ ck : Array Value, DfI b k0 c e p w wr i j ck))
  case atStart =>
    refine ⟨k0, k0 + 1, rfl, by go_num, by omega, by omega, ⟨c, by omega, hg.gr b, ?_, rfl, ?_, fun _ _ => rfl, fun m k hk => ?_⟩⟩
    · rw [hg.same b (by have := (Array.getElem?_eq_some_iff.mp hHB.out.1).1; exact this)]; exact hHB.out.1
    · unfold kpt; simp
    · unfold kpt at hk
      simp only [Nat.sub_self, List.range'_zero, List.filter_nil, List.append_nil] at hk
      have := List.getElem?_eq_some_iff.mp hk
      obtain ⟨q, hq⟩ := this
      rw [List.getElem_range] at hq
      rw [hq]
  case round =>
    obtain ⟨i, j, rfl, rfl, hjd, hgg, ⟨ck, hI⟩⟩ := hrel
    have hij : i < j ∧ k0 ≤ i := by have := kpt_le (p := p) hI.lt; rw [hI.len] at this; omega
    obtain ⟨hij, hki⟩ := hij
    by_cases hlt : j < n
    · have hltz : (j : Int) < (n : Int) := by omega
      obtain ⟨s, hsj⟩ := hH1.out j hlt
      obtain ⟨old, hold⟩ : ∃ old, ck[i]? = some old := ⟨_, Array.getElem?_eq_getElem (by rw [hI.size, hHB.out.2]; omega)⟩
      have cj : wr.cell? ⟨b, j, none⟩ = some (.string s) := by rw [Zam hI.at_, hI.high j (Nat.le_refl _)]; exact hsj
      have hcall := hHC.out j hI.lt hlt wr hI.gr _ hsj
      have W2 : Hold (DfI b k0 c e p w wr i j ck) := ⟨hI⟩
      have hS : Hold (c[j]? = some (.string s)) := ⟨hsj⟩
      have hblt : b < wr.heap.size := (Array.getElem?_eq_some_iff.mp hI.at_).1
      clear hI hsj
      cases hq : p j with
      | false =>
        rw [hq] at hcall
        have hst : ∀ (w' : World), Gs wr w' → w'.cell? ⟨b, i, none⟩ = some old ∧ w'.frozen? ⟨b, i, none⟩ = false := fun w' hg2 => by
          have := (hg2.same b hblt).trans W2.out.at_
          exact ⟨by rw [Zam this]; exact hold, Zaw this _⟩
        go_wp2_with (go_at_fn g; refine hcall.mono ?_; rintro e w' ⟨rfl, hg2⟩; obtain ⟨ci, fi⟩ := hst w' hg2)
        go_roundg (n - (j + 1))
        case measure => omega
        case rel =>
          refine ⟨i + 1, j + 1, by go_num, by go_num, by omega, Nat.le_refl _, ⟨ck.setIfInBounds i (.string s), ?_⟩⟩
          have hI := W2.out
          obtain ⟨hb3, ho3⟩ := Zac [.string s] i ((hg2.same b hblt).trans hI.at_)
          have hsz : i < ck.size := (Array.getElem?_eq_some_iff.mp hold).1
          refine ⟨by have := hI.lt; omega, (hI.gr.trans (hg2.gr b)).trans ho3.gr, hb3, by simpa using hI.size, by rw [kpt_keep hI.lt hq, List.length_append, hI.len]; rfl, fun t ht => ?_, fun m k hk => ?_⟩
          · rw [Array.getElem?_setIfInBounds, if_neg (by omega)]
            exact hI.high t (by omega)
          · rw [kpt_keep hI.lt hq] at hk
            by_cases hm : m < i
            · rw [Array.getElem?_setIfInBounds, if_neg (by omega)]
              exact hI.low m k (by rwa [List.getElem?_append_left (by rw [hI.len]; exact hm)] at hk)
            · rw [List.getElem?_append_right (by rw [hI.len]; omega), hI.len] at hk
              have hm0 : m = i := by
                by_cases h : m - i = 0
                · omega
                · rw [List.getElem?_eq_none (by simp; omega)] at hk; cases hk
              subst hm0
              simp at hk
              subst hk
              rw [Array.getElem?_setIfInBounds, if_pos rfl, if_pos hsz]
              exact hS.out.symm
      | true =>
        rw [hq] at hcall
        go_wp2_with (go_at_fn g; refine hcall.mono ?_; rintro e w' ⟨rfl, hg2⟩)
        go_roundg (n - (j + 1))
        case measure => omega
        case rel =>
          refine ⟨i, j + 1, rfl, by go_num, by omega, Nat.le_refl _, ⟨ck, ?_⟩⟩
          have hI := W2.out
          refine ⟨by have := hI.lt; omega, hI.gr.trans (hg2.gr b), by rw [hg2.same b hblt]; exact hI.at_, hI.size, by rw [kpt_skip hI.lt hq]; exact hI.len, fun t ht => hI.high t (by omega), by rw [kpt_skip hI.lt hq]; exact hI.low⟩
    · obtain rfl : j = n := by omega
      have hltz : ¬ (j : Int) < (j : Int) := by omega
      have hcs := hHB.out.2
      obtain ⟨hz, hs, hzs, hz1, hi⟩ := hHZ.out
      have hcl : ∀ ty, (Builtin.clear_ #[25] ty #[.slice (some ⟨b, i, none⟩) (j - i) (cap - i)]).run Try.prog wr = .ok (.tuple #[]) (wr.setCells b i (Builtin.zeroCells z.cells (j - i)).toList) :=
        fun ty => run_clear_cells Try.underlying25 hi hz hz1 (by omega) (fun t ht => by rw [Zam hI.at_]; rw [hzs] at ht; rw [Array.getElem?_eq_getElem (by rw [hI.size, hcs]; omega)]; rfl) (fun t ht => Zaw hI.at_ _)
      obtain ⟨hb4, ho4⟩ := Zac (Builtin.zeroCells z.cells (j - i)).toList i hI.at_
      have hfin : Hold (Gr b w (wr.setCells b i (Builtin.zeroCells z.cells (j - i)).toList) ∧ ∃ c' : Array Value, (wr.setCells b i (Builtin.zeroCells z.cells (j - i)).toList).heap[b]? = some (.cells c' e (0, 0)) ∧ c'.size = c.size ∧ ∀ m k : Nat, (kpt p k0 j)[m]? = some k → c'[m]? = c[k]?) := by
        have hzl : (Builtin.zeroCells z.cells (j - i)).toList.length = j - i := by simp [Zap, hzs]
        refine ⟨hI.gr.trans ho4.gr, _, hb4, by rw [Zaz]; exact hI.size, fun m k hk => ?_⟩
        have hmi : m < i := by rw [← hI.len]; exact (List.getElem?_eq_some_iff.mp hk).1
        rw [Zaa _ _ _ _ (by rw [hzl, hI.size, hcs]; omega), if_neg (by omega)]
        exact hI.low m k hk
      have hlen := hI.len
      generalize (Builtin.zeroCells z.cells (j - i)).toList = zl at hcl hfin
      clear hI hz hs hzs hz1 hi hb4 ho4 hcs
      have hic : i ≤ cap := by omega
      go_wp2
      go_ret
      refine ⟨?_, hfin.out⟩
      first | rfl | (rw [hlen]; rfl)
set_option maxHeartbeats 4000000 in
set_option maxRecDepth 1000000 in
theorem Yf.raw0 (a : Option Addr) (n cap : Nat) (w : World) (g : Nat) (lb : Array Value) (hn : n ≤ cap) (hIF : Calls Try.prog 151 #[.slice a n cap, .func (.func g) #[] lb] w fun e w' => e = .returned (.int .i64 (-1)) ∧ Gs w w') : Calls Try.prog 69 #[.slice a n cap, .func (.func g) #[] lb] w fun ex w' => ex = .returned (.slice a n cap) ∧ Gs w w' := by
  go_enter Try.func69, Try.ntmps69
  go_wp2_with (go_at_call 151; refine hIF.mono ?_; rintro e w' ⟨rfl, hg⟩)
  go_ret
  exact ⟨rfl, hg⟩
theorem Yf.raw : DfRaw Try.prog 69 151 := ⟨fun a n cap w g lb hn h => Yf.raw0 a n cap w g lb hn h, fun b cap n c e w g lb p k0 h1 h2 h3 h4 h5 h6 h7 h8 h9 => by
  obtain ⟨i0, z, hi, hz, hzs⟩ := Zbj (P := Try.prog) (t := 9) (by kernel_rfl)
  have hsz : i0.size = 1 := by
    have : Try.prog.cellsOf 9 = 1 := by kernel_rfl
    simpa [Program.cellsOf, hi] using this
  have hzc : z.cells.size = 1 := by
    have h1 : (ZaA Try.prog 9).length = 1 := by kernel_rfl
    rw [← h1]
    simpa using (Zay hzs).2.2.1.symm
  exact Yf.raw2 b cap n c e w g lb p k0 h1 h2 h3 h4 h5 h6 i0 z hi hz hsz hzc (Zay hzs).2.1 h7 h8 h9⟩
theorem Yf.ok (k : Nat) : Za Try.prog 69 (Yf.e k) := delfunc_ok tyok (ct := 25) (sl := 9) (g := 70) (fi := 151) (run := fun {β} => Yf.run k) (by kernel_rfl) (by kernel_rfl) (enter_of Try.func69 (by kernel_rfl)) Yf.raw (by kernel_rfl) (by kernel_rfl) (Ye.ok k) (YL.ok k) (fun β aa K r h => by
  unfold Yf.run at h
  split at h
  · rename_i xs g c0_0
    cases hg : g == 70 with
    | false => rw [hg] at h; cases h
    | true =>
      rw [hg] at h
      obtain rfl := eq_of_beq hg
      simp only [cond_true] at h
      unfold Yf.f Yf.t at h
      split at h
      · rename_i z0 hz
        exact ⟨_, _, _, _, _, rfl, hz, h, rfl, rfl, rfl, rfl, fun ds z h => (ent_run (Ye.e k) rfl (congrArg some h) rfl), fun s q h => (ent_run (YL.e k) rfl (congrArg some h) rfl)⟩
      · cases h
  · cases h)
noncomputable def YS.g {β : Type} (k : Nat) (aA aB aC : List (List D)) (aD : Int) (a1 : ByteArray) (a2 : Bool) (K : (List (List C)) → (List (List C)) → (List (List C)) → Int → Bool → Option β) : Option β :=
  Yz.f k aA aB aC aD (fun y1 y2 y3 y4 => YK.f k aB a1 (fun y5 => Yg.f k aA aB aC aD (fun y6 => bif (!y6) then (K y1 y2 y3 y4 false) else (bif (decide ((y5 : Int) < 0)) then (K y1 y2 y3 y4 false) else (bif (!a2) then (atR aB y5 [.s, .n, .n] fun x10 x13 x16 => let J7 := (if (1000 : Int) < (IntKind.wrap .i64 (x16 + 1)) then 1000 else (IntKind.wrap .i64 (x16 + 1))); let J5 := (IntKind.wrap .i64 (J7 - 1)); let J4 := (if (6 : Int) < J5 then 6 else J5); let J3 := (IntKind.wrap .i64 (1 * 2 ^ (min (J4 : Int).toNat 64))); let J2 := (IntKind.wrap .i64 (aD + (if (64 : Int) < J3 then 64 else J3))); let J0 := (y1.length + ([[.d (.str a1), .d (.int .i64 J2), .d (.int .i64 J7)]] : List (List C)).length ≤ ZN); let J1 := (y1 ++ ([[.d (.str a1), .d (.int .i64 J2), .d (.int .i64 J7)]] : List (List C))); (Zc ((0 : Int) ≤ J4) (bif (!a2) then (Yh.f k y2 y5 (IntKind.wrap .i64 (y5 + 1)) (fun y17 => Yf.f k y3 a1 (fun y18 => bif (decide (((y1.length : Int) : Int) < 60)) then (Zc J0 (K J1 y17 y18 y4 true)) else (K y1 y17 y18 y4 true)))) else (Yk.f k aC a1 (fun y19 => Yh.f k y2 y5 (IntKind.wrap .i64 (y5 + 1)) (fun y20 => Yf.f k y3 a1 (fun y21 => bif y19 then (bif (decide (((y1.length : Int) : Int) < 60)) then (Zc J0 (K J1 y20 y21 y4 true)) else (K y1 y20 y21 y4 true)) else (K y1 y20 y21 y4 true)))))))) else (let J6 := (y1.length + ([[.d (.str a1), .d (.int .i64 aD), .d (.int .i64 0)]] : List (List C)).length ≤ ZN); let J8 := (y1 ++ ([[.d (.str a1), .d (.int .i64 aD), .d (.int .i64 0)]] : List (List C))); bif (!a2) then (Yh.f k y2 y5 (IntKind.wrap .i64 (y5 + 1)) (fun y22 => Yf.f k y3 a1 (fun y23 => bif (decide (((y1.length : Int) : Int) < 60)) then (Zc J6 (K J8 y22 y23 y4 true)) else (K y1 y22 y23 y4 true)))) else (Yk.f k aC a1 (fun y24 => Yh.f k y2 y5 (IntKind.wrap .i64 (y5 + 1)) (fun y25 => Yf.f k y3 a1 (fun y26 => bif y24 then (bif (decide (((y1.length : Int) : Int) < 60)) then (Zc J6 (K J8 y25 y26 y4 true)) else (K y1 y25 y26 y4 true)) else (K y1 y25 y26 y4 true)))))))))))
noncomputable def YS.t (k : Nat) (aA aB aC : List (List D)) (aD : Int) (a1 : ByteArray) (a2 : Bool) : Option ((List (List C)) × (List (List C)) × (List (List C)) × Int × Bool) := YS.g k aA aB aC aD a1 a2 (fun z0 z1 z2 z3 z4 => some (z0, z1, z2, z3, z4))
noncomputable def YS.f {β : Type} (k : Nat) (aA aB aC : List (List D)) (aD : Int) (a1 : ByteArray) (a2 : Bool) (K : (List (List C)) → (List (List C)) → (List (List C)) → Int → Bool → Option β) : Option β := bd5 (YS.t k aA aB aC aD a1 a2) K
noncomputable def YS.e (k : Nat) : Zk := ent [.agg [.l, .l, .l, .n], .d .s, .d .b] [4, 1] [.o, .o, .o, .n, .b] [27, 4] false (YS.t k)
noncomputable def YS.p (k : Nat) : Pro := ⟨Try.prog, [(61, Yz.e k), (67, YK.e k), (19, Yg.e k), (64, Yh.e k), (69, Yf.e k), (68, Yk.e k)], Zn [] false [], k⟩
theorem YS.ok (k : Nat) : Za Try.prog 17 (YS.e k) := Zh (YS.p k) mix tyok Try.func17 ⟨Yz.ok k, YK.ok k, Yg.ok k, Yh.ok k, Yf.ok k, Yk.ok k⟩ (by kernel_rfl) (fun aA aB aC aD a1 a2 => by show _ = _; kernel_rfl)
noncomputable def YR.g {β : Type} (k : Nat) (aA aB aC : List (List D)) (aD a1 : Int) (K : (List (List C)) → (List (List C)) → (List (List C)) → Int → Option β) : Option β :=
  Yz.f k aA aB aC aD (fun y1 y2 y3 y4 => Yg.f k aA aB aC aD (fun y5 => bif y5 then (bif (decide ((a1 : Int) > aD)) then (bif (decide ((a1 : Int) ≤ 1000000)) then (K y1 y2 y3 a1) else (K y1 y2 y3 y4)) else (K y1 y2 y3 y4)) else (K y1 y2 y3 y4)))
noncomputable def YR.t (k : Nat) (aA aB aC : List (List D)) (aD a1 : Int) : Option ((List (List C)) × (List (List C)) × (List (List C)) × Int) := YR.g k aA aB aC aD a1 (fun z0 z1 z2 z3 => some (z0, z1, z2, z3))
noncomputable def YR.f {β : Type} (k : Nat) (aA aB aC : List (List D)) (aD a1 : Int) (K : (List (List C)) → (List (List C)) → (List (List C)) → Int → Option β) : Option β := bd4 (YR.t k aA aB aC aD a1) K
noncomputable def YR.e (k : Nat) : Zk := ent [.agg [.l, .l, .l, .n], .d .n] [4] [.o, .o, .o, .n] [27] false (YR.t k)
noncomputable def YR.p (k : Nat) : Pro := ⟨Try.prog, [(61, Yz.e k), (19, Yg.e k)], Zn [] false [], k⟩
theorem YR.ok (k : Nat) : Za Try.prog 18 (YR.e k) := Zh (YR.p k) mix tyok Try.func18 ⟨Yz.ok k, Yg.ok k⟩ (by kernel_rfl) (fun aA aB aC aD a1 => by show _ = _; kernel_rfl)
noncomputable def YO.g {β : Type} (k : Nat) (a0 : List (List D)) (K : Bool → Option β) : Option β :=
  YX.f k a0 (fun y1 => bif y1 then (K true) else (YF.f k a0 (fun y211 y212 y213 y214 => YT.f k (C.immRows y211) (C.immRows y212) (C.immRows y213) y214 (fun y215 y216 y217 y218 y219 y220 => Yx.f k (C.immRows y211) (C.immRows y212) (C.immRows y213) y214 (fun y221 y222 y223 y224 y225 y226 => bif (!(y220 == y226)) then (bif (y220 == y226) then (Yo.f k (C.immRows y211) (C.immRows y212) (C.immRows y213) y214 (fun y227 => Yn.f k (C.immRows y211) (C.immRows y212) (C.immRows y213) y214 (fun y228 => K ((y227 : Int) == y228)))) else (K false)) else (bif (!y220) then (bif (y220 == y226) then (Yo.f k (C.immRows y211) (C.immRows y212) (C.immRows y213) y214 (fun y229 => Yn.f k (C.immRows y211) (C.immRows y212) (C.immRows y213) y214 (fun y230 => K ((y229 : Int) == y230)))) else (K false)) else (Zc ((0 : Int) ≤ (IntKind.wrap .i64 ((y216.length : Int) - 1)) ∧ (IntKind.wrap .i64 ((y216.length : Int) - 1)) < (y216.length : Int)) (ZaG y216 (Int.toNat (IntKind.wrap .i64 ((y216.length : Int) - 1))) fun c231 => Zas (c231.drop 2) fun c232 r233 => cD c232 fun d234 => dInt .i64 d234 fun x235 => YS.f k (C.immRows y215) (C.immRows y216) (C.immRows y217) y218 y219 false (fun y236 y237 y238 y239 y240 => bif (!y240) then (K false) else (bif (((y236.length : Int) : Int) == 0) then (K false) else (let J0 := ((0 : Int) ≤ (IntKind.wrap .i64 ((y236.length : Int) - 1)) ∧ (IntKind.wrap .i64 ((y236.length : Int) - 1)) < (y236.length : Int)); Zc J0 (ZaG y236 (Int.toNat (IntKind.wrap .i64 ((y236.length : Int) - 1))) fun c241 => Zas (c241.drop 0) fun c242 r243 => cD c242 fun d244 => dStr d244 fun x245 => bif (!(Zae x245 y219)) then (K false) else (Zc J0 (ZaG y236 (Int.toNat (IntKind.wrap .i64 ((y236.length : Int) - 1))) fun c246 => Zas (c246.drop 0) fun c247 r248 => cD c247 fun d249 => dStr d249 fun x250 => Zas r248 fun c251 r252 => cD c251 fun d253 => dInt .i64 d253 fun x254 => Zas r252 fun c255 r256 => cD c255 fun d257 => dInt .i64 d257 fun x258 => YS.f k (C.immRows y215) (C.immRows y216) (C.immRows y217) y218 y219 true (fun y259 y260 y261 y262 y263 => YR.f k (C.immRows y236) (C.immRows y237) (C.immRows y238) y239 x254 (fun y264 y265 y266 y267 => bif ((x258 : Int) == (IntKind.wrap .i64 (x235 + 1))) then (bif (decide ((x254 : Int) > y239)) then (bif (decide ((x254 : Int) ≤ (IntKind.wrap .i64 (y239 + 64)))) then (bif y263 then (bif (((y260.length : Int) : Int) == (IntKind.wrap .i64 ((y216.length : Int) - 1))) then (Yo.f k (C.immRows y236) (C.immRows y237) (C.immRows y238) y239 (fun y268 => bif (decide ((y268 : Int) ≤ x254)) then (bif (decide ((x254 : Int) > 1000000)) then (Yg.f k (C.immRows y236) (C.immRows y237) (C.immRows y238) y239 (fun y269 => K y269)) else (bif ((y267 : Int) == x254) then (Yg.f k (C.immRows y236) (C.immRows y237) (C.immRows y238) y239 (fun y270 => K y270)) else (K false))) else (K false))) else (K false)) else (K false)) else (K false)) else (K false)) else (K false)))))))))))))))))
noncomputable def YO.t (k : Nat) (a0 : List (List D)) : Option (Bool) := YO.g k a0 (fun z0 => some z0)
noncomputable def YO.e (k : Nat) : Zk := ent [.d .l] [1] [.b] [4] false (YO.t k)
noncomputable def YO.p (k : Nat) : Pro := ⟨Try.prog, [(11, YX.e k), (12, YF.e k), (13, YT.e k), (14, Yx.e k), (15, Yo.e k), (16, Yn.e k), (17, YS.e k), (18, YR.e k), (19, Yg.e k)], Zn [] false [], k⟩
theorem YO.ok (k : Nat) : Za Try.prog 3 (YO.e k) := Zh (YO.p k) mix tyok Try.func3 ⟨YX.ok k, YF.ok k, YT.ok k, Yx.ok k, Yo.ok k, Yn.ok k, YS.ok k, YR.ok k, Yg.ok k⟩ (by kernel_rfl) (fun a0 => by show _ = _; kernel_rfl)
end Go.Proofs.Ytpgplbalenfgfaa
