/- Printed: the functions that FnFit reaches, read by the evaluator, each with its contract. -/
import Derived.Test.YtpgplbalenfgfaaTLibs
import Derived.Test.YtpgplbalenfgfaaProg
import Derived.KernelRfl
set_option linter.unusedVariables false
set_option linter.unusedSimpArgs false
namespace Go.Proofs.Ytpgplbalenfgfaa
open Go Go.T Go.Proofs
theorem mix : Try.prog.follows .mixedOrders = true := by kernel_rfl
theorem tyok : ZaI Try.prog := tyOk_of (by kernel_rfl)
noncomputable def Y5.g {β : Type} (k : Nat) (a0 : List (List D)) (K : Bool → Option β) : Option β :=
  K (decide (((a0.length : Int) : Int) > 1048576))
noncomputable def Y5.t (k : Nat) (a0 : List (List D)) : Option (Bool) := Y5.g k a0 (fun z0 => some z0)
noncomputable def Y5.f {β : Type} (k : Nat) (a0 : List (List D)) (K : Bool → Option β) : Option β := bd1 (Y5.t k a0) K
noncomputable def Y5.e (k : Nat) : Zk := ent [.d .l] [1] [.b] [4] false (Y5.t k)
noncomputable def Y5.p (k : Nat) : Pro := ⟨Try.prog, [], Zn [] false [], k⟩
theorem Y5.ok (k : Nat) : Za Try.prog 11 (Y5.e k) := Zh (Y5.p k) mix tyok Try.func11 trivial (by kernel_rfl) (fun a0 => by show _ = _; kernel_rfl)
noncomputable def YI.l0 {β : Type} (k : Nat) (aD : List (List D)) (K : (List (List D)) → Int → Int → Option β) (L0 : (Int × Int) → Option β) (v : Int × Int) : Option β :=
  match v with
  | (aE, aF) => bif (decide ((aF : Int) < (aD.length : Int))) then (bif (decide ((aF : Int) < 4000)) then (atR aD aF [.i .u8] fun x8 => (L0 (IntKind.wrap .i64 ((BitVec.ofInt (IntKind.bits .i64) (IntKind.wrap .i64 ((IntKind.wrap .i64 ((IntKind.wrap .i64 (aE * 137)) + (IntKind.wrap .i64 x8))) + 11)) &&& BitVec.ofInt (IntKind.bits .i64) 1073741823).toNat), IntKind.wrap .i64 (aF + 1)))) else (K aD 0 aE)) else (K aD 0 aE)
noncomputable def YI.m {β : Type} (k : Nat) (a0 : List (List D)) (K : (List (List D)) → Int → Int → Option β) (F : ((List (List D)) → (Int × Int) → Option β)) : Option β :=
  F a0 (IntKind.wrap .i64 (138138 + (a0.length : Int)), 0)
noncomputable def YI.g {β : Type} (k : Nat) (a0 : List (List D)) (K : (List (List D)) → Int → Int → Option β) : Option β :=
  Zo (YI.l0 k a0 K) k (IntKind.wrap .i64 (138138 + (a0.length : Int)), 0)
noncomputable def YI.t (k : Nat) (a0 : List (List D)) : Option ((List (List D)) × Int × Int) := YI.g k a0 (fun z0 z1 z2 => some (z0, z1, z2))
noncomputable def YI.f {β : Type} (k : Nat) (a0 : List (List D)) (K : (List (List D)) → Int → Int → Option β) : Option β := bd3 (YI.t k a0) K
noncomputable def YI.e (k : Nat) : Zk := ent [.d .l] [3] [.l, .n, .n] [106] true (YI.t k)
noncomputable def YI.p (k : Nat) : Pro := ⟨Try.prog, [], Zn [(3, kp [0, 3, 4])] true [], k⟩
noncomputable def YI.d (k : Nat) (a0 : List (List D)) : Ex → St → Option ((List (List D)) × Int × Int) := (YI.p k).fin Try.f58 [.d (.sl a0)] [3] [.l, .n, .n]
noncomputable def YI.s0 (aD : List (List D)) (v : Int × Int) : St :=
  match v with
  | (aE, aF) => ZX 32 [(0, .d false (.sl aD)), (3, .d true (.int .i64 aE)), (4, .d true (.int .i64 aF))] []
noncomputable def YI.r0 (k : Nat) (a0 aD : List (List D)) (n : Nat) (v : Int × Int) : Option ((List (List D)) × Int × Int) := (YI.p k).lp (Zt Try.f58) 3 [1, 1, 0, 1, 0] (YI.d k a0) n (YI.s0 aD v)
theorem YI.l0_eq (k : Nat) (a0 aD : List (List D)) : ∀ n v, YI.r0 k a0 aD n v = Zo (YI.l0 k aD (fun z0 z1 z2 => some (z0, z1, z2))) n v :=
  Zm (YI.s0 aD) _ fun L0 v => by obtain ⟨aE, aF⟩ := v; kernel_rfl
theorem YI.ok (k : Nat) : Za Try.prog 58 (YI.e k) := Zh (YI.p k) mix tyok Try.func58 trivial (by kernel_rfl) (fun a0 => Eq.trans (b := YI.m k a0 (fun z0 z1 z2 => some (z0, z1, z2)) (fun aD => YI.r0 k a0 aD k)) (by kernel_rfl) (congrArg (YI.m k a0 (fun z0 z1 z2 => some (z0, z1, z2))) (funext fun aD => funext fun v => YI.l0_eq k a0 aD k v) :))
noncomputable def YX.g {β : Type} (k : Nat) (aB : List (List D)) (aC aA : Int) (K : Int → (List (List D)) → Int → Int → Option β) : Option β :=
  let J1 := (IntKind.wrap .i64 ((IntKind.wrap .i64 (aA * 6364136223846793005)) + 1442695040888963407)); let J0 := (IntKind.wrap .i64 ((BitVec.ofInt (IntKind.bits .i64) (IntKind.wrap .i64 ((BitVec.ofInt (IntKind.bits .i64) (Int.fdiv J1 (2 ^ (min (33 : Int).toNat 64))) ^^^ BitVec.ofInt (IntKind.bits .i64) (Int.fdiv J1 (2 ^ (min (47 : Int).toNat 64)))).toNat)) &&& BitVec.ofInt (IntKind.bits .i64) 255).toNat)); Zc ((0 : Int) ≤ 33) (Zc ((0 : Int) ≤ 47) (bif (decide ((aC : Int) < (aB.length : Int))) then (atR aB aC [.i .u8] fun x4 => (K (IntKind.wrap .i64 ((BitVec.ofInt (IntKind.bits .i64) (IntKind.wrap .i64 (J0 + (IntKind.wrap .i64 x4))) &&& BitVec.ofInt (IntKind.bits .i64) 255).toNat)) aB (IntKind.wrap .i64 (aC + 1)) J1)) else (K J0 aB aC J1)))
noncomputable def YX.t (k : Nat) (aB : List (List D)) (aC aA : Int) : Option (Int × (List (List D)) × Int × Int) := YX.g k aB aC aA (fun z0 z1 z2 z3 => some (z0, z1, z2, z3))
noncomputable def YX.f {β : Type} (k : Nat) (aB : List (List D)) (aC aA : Int) (K : Int → (List (List D)) → Int → Int → Option β) : Option β := bd4 (YX.t k aB aC aA) K
noncomputable def YX.e (k : Nat) : Zk := ent [.box 178 [.l, .n, .n]] [1] [.n, .l, .n, .n] [3] false (YX.t k)
noncomputable def YX.p (k : Nat) : Pro := ⟨Try.prog, [], Zn [] false [], k⟩
theorem YX.ok (k : Nat) : Za Try.prog 174 (YX.e k) := Zh (YX.p k) mix tyok Try.func174 trivial (by kernel_rfl) (fun aB aC aA => by show _ = _; kernel_rfl)
noncomputable def Yu.g {β : Type} (k : Nat) (aB : List (List D)) (aC aA a1 : Int) (K : Int → (List (List D)) → Int → Int → Option β) : Option β :=
  bif (decide ((a1 : Int) ≤ 0)) then (K 0 aB aC aA) else (bif (decide ((a1 : Int) ≤ 256)) then (YX.f k aB aC aA (fun y5 y6 y7 y8 => Zc ((a1 : Int) ≠ 0) (K (Int.tmod y5 a1) y6 y7 y8))) else (YX.f k aB aC aA (fun y9 y10 y11 y12 => YX.f k y10 y11 y12 (fun y13 y14 y15 y16 => YX.f k y14 y15 y16 (fun y17 y18 y19 y20 => Zc ((a1 : Int) ≠ 0) (K (Int.tmod (IntKind.wrap .i64 ((IntKind.wrap .i64 ((IntKind.wrap .i64 (y9 * 65536)) + (IntKind.wrap .i64 (y13 * 256)))) + y17)) a1) y18 y19 y20))))))
noncomputable def Yu.t (k : Nat) (aB : List (List D)) (aC aA a1 : Int) : Option (Int × (List (List D)) × Int × Int) := Yu.g k aB aC aA a1 (fun z0 z1 z2 z3 => some (z0, z1, z2, z3))
noncomputable def Yu.f {β : Type} (k : Nat) (aB : List (List D)) (aC aA a1 : Int) (K : Int → (List (List D)) → Int → Int → Option β) : Option β := bd4 (Yu.t k aB aC aA a1) K
noncomputable def Yu.e (k : Nat) : Zk := ent [.box 178 [.l, .n, .n], .d .n] [1] [.n, .l, .n, .n] [3] false (Yu.t k)
noncomputable def Yu.p (k : Nat) : Pro := ⟨Try.prog, [(174, YX.e k)], Zn [] false [], k⟩
theorem Yu.ok (k : Nat) : Za Try.prog 112 (Yu.e k) := Zh (Yu.p k) mix tyok Try.func112 (YX.ok k) (by kernel_rfl) (fun aB aC aA a1 => by show _ = _; kernel_rfl)
noncomputable def YL.g {β : Type} (k : Nat) (aB : List (List D)) (aC aA : Int) (a1 : List (List D)) (K : Int → (List (List D)) → Int → Int → Option β) : Option β :=
  Yu.f k aB aC aA (a1.length : Int) (fun y21 y22 y23 y24 => atR a1 y21 [.n] fun x28 => (K x28 y22 y23 y24))
noncomputable def YL.t (k : Nat) (aB : List (List D)) (aC aA : Int) (a1 : List (List D)) : Option (Int × (List (List D)) × Int × Int) := YL.g k aB aC aA a1 (fun z0 z1 z2 z3 => some (z0, z1, z2, z3))
noncomputable def YL.f {β : Type} (k : Nat) (aB : List (List D)) (aC aA : Int) (a1 : List (List D)) (K : Int → (List (List D)) → Int → Int → Option β) : Option β := bd4 (YL.t k aB aC aA a1) K
noncomputable def YL.e (k : Nat) : Zk := ent [.box 178 [.l, .n, .n], .d .l] [1] [.n, .l, .n, .n] [3] false (YL.t k)
noncomputable def YL.p (k : Nat) : Pro := ⟨Try.prog, [(112, Yu.e k)], Zn [] false [], k⟩
theorem YL.ok (k : Nat) : Za Try.prog 118 (YL.e k) := Zh (YL.p k) mix tyok Try.func118 (Yu.ok k) (by kernel_rfl) (fun aB aC aA a1 => by show _ = _; kernel_rfl)
noncomputable def Yz.g {β : Type} (k : Nat) (aB : List (List D)) (aC aA a1 : Int) (K : Bool → (List (List D)) → Int → Int → Option β) : Option β :=
  Yu.f k aB aC aA a1 (fun y1 y2 y3 y4 => K ((y1 : Int) == 0) y2 y3 y4)
noncomputable def Yz.t (k : Nat) (aB : List (List D)) (aC aA a1 : Int) : Option (Bool × (List (List D)) × Int × Int) := Yz.g k aB aC aA a1 (fun z0 z1 z2 z3 => some (z0, z1, z2, z3))
noncomputable def Yz.f {β : Type} (k : Nat) (aB : List (List D)) (aC aA a1 : Int) (K : Bool → (List (List D)) → Int → Int → Option β) : Option β := bd4 (Yz.t k aB aC aA a1) K
noncomputable def Yz.e (k : Nat) : Zk := ent [.box 178 [.l, .n, .n], .d .n] [1] [.b, .l, .n, .n] [4] false (Yz.t k)
noncomputable def Yz.p (k : Nat) : Pro := ⟨Try.prog, [(112, Yu.e k)], Zn [] false [], k⟩
theorem Yz.ok (k : Nat) : Za Try.prog 81 (Yz.e k) := Zh (Yz.p k) mix tyok Try.func81 (Yu.ok k) (by kernel_rfl) (fun aB aC aA a1 => by show _ = _; kernel_rfl)
noncomputable def YY.g {β : Type} (k : Nat) (aB : List (List D)) (aC aA : Int) (a1 : List (List D)) (K : ByteArray → (List (List D)) → Int → Int → Option β) : Option β :=
  Yu.f k aB aC aA (a1.length : Int) (fun y1 y2 y3 y4 => atR a1 y1 [.s] fun x8 => (K x8 y2 y3 y4))
noncomputable def YY.t (k : Nat) (aB : List (List D)) (aC aA : Int) (a1 : List (List D)) : Option (ByteArray × (List (List D)) × Int × Int) := YY.g k aB aC aA a1 (fun z0 z1 z2 z3 => some (z0, z1, z2, z3))
noncomputable def YY.f {β : Type} (k : Nat) (aB : List (List D)) (aC aA : Int) (a1 : List (List D)) (K : ByteArray → (List (List D)) → Int → Int → Option β) : Option β := bd4 (YY.t k aB aC aA a1) K
noncomputable def YY.e (k : Nat) : Zk := ent [.box 178 [.l, .n, .n], .d .l] [1] [.s, .l, .n, .n] [9] false (YY.t k)
noncomputable def YY.p (k : Nat) : Pro := ⟨Try.prog, [(112, Yu.e k)], Zn [] false [], k⟩
theorem YY.ok (k : Nat) : Za Try.prog 75 (YY.e k) := Zh (YY.p k) mix tyok Try.func75 (Yu.ok k) (by kernel_rfl) (fun aB aC aA a1 => by show _ = _; kernel_rfl)
noncomputable def YH.g {β : Type} (k : Nat) (aB : List (List D)) (aC aA : Int) (K : ByteArray → (List (List D)) → Int → Int → Option β) : Option β :=
  YY.f k aB aC aA ([[.str (⟨#[97]⟩ : ByteArray)], [.str (⟨#[98]⟩ : ByteArray)], [.str (⟨#[99]⟩ : ByteArray)], [.str (⟨#[122, 111, 110, 101]⟩ : ByteArray)], [.str (⟨#[116, 105, 101, 114]⟩ : ByteArray)], [.str (⟨#[103, 111, 108, 100]⟩ : ByteArray)], [.str (⟨#[101, 97, 115, 116]⟩ : ByteArray)], [.str (⟨#[120, 45, 49]⟩ : ByteArray)], [.str (⟨#[97, 98, 99, 100, 101, 102, 103, 104, 105, 106, 107, 108, 109, 110, 111, 112, 113, 114, 115, 116]⟩ : ByteArray)]] : List (List D)) (fun y9 y10 y11 y12 => K y9 y10 y11 y12)
noncomputable def YH.t (k : Nat) (aB : List (List D)) (aC aA : Int) : Option (ByteArray × (List (List D)) × Int × Int) := YH.g k aB aC aA (fun z0 z1 z2 z3 => some (z0, z1, z2, z3))
noncomputable def YH.f {β : Type} (k : Nat) (aB : List (List D)) (aC aA : Int) (K : ByteArray → (List (List D)) → Int → Int → Option β) : Option β := bd4 (YH.t k aB aC aA) K
noncomputable def YH.e (k : Nat) : Zk := ent [.box 178 [.l, .n, .n]] [1] [.s, .l, .n, .n] [9] false (YH.t k)
noncomputable def YH.p (k : Nat) : Pro := ⟨Try.prog, [(75, YY.e k)], Zn [] false [], k⟩
theorem YH.ok (k : Nat) : Za Try.prog 84 (YH.e k) := Zh (YH.p k) mix tyok Try.func84 (YY.ok k) (by kernel_rfl) (fun aB aC aA => by show _ = _; kernel_rfl)
noncomputable def Yj.l0 {β : Type} (k : Nat) (aD : List (List D)) (aE : ByteArray) (K : ByteArray → Bool → Option β) (L0 : Int → Option β) (v : Int) : Option β :=
  match v with
  | aF => bif (decide ((aF : Int) < (aD.length : Int))) then (atR aD aF [.s, .s] fun x18 x21 => (bif (Zae x18 aE) then (atR aD aF [.s, .s] fun x25 x28 => (K x28 true)) else (L0 (IntKind.wrap .i64 (aF + 1))))) else (K (⟨#[]⟩ : ByteArray) false)
noncomputable def Yj.m {β : Type} (k : Nat) (a0 : List (List D)) (a1 : ByteArray) (K : ByteArray → Bool → Option β) (F : ((List (List D)) → ByteArray → Int → Option β)) : Option β :=
  F a0 a1 (0)
noncomputable def Yj.g {β : Type} (k : Nat) (a0 : List (List D)) (a1 : ByteArray) (K : ByteArray → Bool → Option β) : Option β :=
  Zo (Yj.l0 k a0 a1 K) k (0)
noncomputable def Yj.t (k : Nat) (a0 : List (List D)) (a1 : ByteArray) : Option (ByteArray × Bool) := Yj.g k a0 a1 (fun z0 z1 => some (z0, z1))
noncomputable def Yj.f {β : Type} (k : Nat) (a0 : List (List D)) (a1 : ByteArray) (K : ByteArray → Bool → Option β) : Option β := bd2 (Yj.t k a0 a1) K
noncomputable def Yj.e (k : Nat) : Zk := ent [.d .l, .d .s] [1, 1] [.s, .b] [9, 4] false (Yj.t k)
noncomputable def Yj.p (k : Nat) : Pro := ⟨Try.prog, [], Zn [(2, kp [0, 1, 6])] false [], k⟩
noncomputable def Yj.d (k : Nat) (a0 : List (List D)) (a1 : ByteArray) : Ex → St → Option (ByteArray × Bool) := (Yj.p k).fin Try.f158 [.d (.sl a0), .d (.str a1)] [1, 1] [.s, .b]
noncomputable def Yj.s0 (aD : List (List D)) (aE : ByteArray) (v : Int) : St :=
  match v with
  | aF => ZX 25 [(0, .d false (.sl aD)), (1, .d false (.str aE)), (6, .d true (.int .i64 aF))] []
noncomputable def Yj.r0 (k : Nat) (a0 : List (List D)) (a1 : ByteArray) (aD : List (List D)) (aE : ByteArray) (n : Nat) (v : Int) : Option (ByteArray × Bool) := (Yj.p k).lp (Zt Try.f158) 2 [1, 0, 1, 0] (Yj.d k a0 a1) n (Yj.s0 aD aE v)
theorem Yj.l0_eq (k : Nat) (a0 : List (List D)) (a1 : ByteArray) (aD : List (List D)) (aE : ByteArray) : ∀ n v, Yj.r0 k a0 a1 aD aE n v = Zo (Yj.l0 k aD aE (fun z0 z1 => some (z0, z1))) n v :=
  Zm (Yj.s0 aD aE) _ fun L0 v => by kernel_rfl
theorem Yj.ok (k : Nat) : Za Try.prog 158 (Yj.e k) := Zh (Yj.p k) mix tyok Try.func158 trivial (by kernel_rfl) (fun a0 a1 => Eq.trans (b := Yj.m k a0 a1 (fun z0 z1 => some (z0, z1)) (fun aD aE => Yj.r0 k a0 a1 aD aE k)) (by kernel_rfl) (congrArg (Yj.m k a0 a1 (fun z0 z1 => some (z0, z1))) (funext fun aD => funext fun aE => funext fun v => Yj.l0_eq k a0 a1 aD aE k v) :))
noncomputable def YE.g {β : Type} (k : Nat) (a0 a1 a2 : Int) (K : Bool → Option β) : Option β :=
  bif (decide ((a0 : Int) ≥ a1)) then (K (decide ((a0 : Int) ≤ a2))) else (K false)
noncomputable def YE.t (k : Nat) (a0 a1 a2 : Int) : Option (Bool) := YE.g k a0 a1 a2 (fun z0 => some z0)
noncomputable def YE.f {β : Type} (k : Nat) (a0 a1 a2 : Int) (K : Bool → Option β) : Option β := bd1 (YE.t k a0 a1 a2) K
noncomputable def YE.e (k : Nat) : Zk := ent [.d .n, .d .n, .d .n] [1] [.b] [4] false (YE.t k)
noncomputable def YE.p (k : Nat) : Pro := ⟨Try.prog, [], Zn [] false [], k⟩
theorem YE.ok (k : Nat) : Za Try.prog 79 (YE.e k) := Zh (YE.p k) mix tyok Try.func79 trivial (by kernel_rfl) (fun a0 a1 a2 => by show _ = _; kernel_rfl)
noncomputable def Ye.l0 {β : Type} (k : Nat) (aD : ByteArray) (K : Bool → Option β) (L0 : Int → Option β) (v : Int) : Option β :=
  match v with
  | aE => bif (decide ((aE : Int) < (aD.size : Int))) then (Za0 aD aE fun b9 => YE.f k (IntKind.wrap .i64 b9) 97 122 (fun y10 => bif (!y10) then (Za0 aD aE fun b11 => YE.f k (IntKind.wrap .i64 b11) 48 57 (fun y12 => bif (!y12) then (Za0 aD aE fun b13 => bif ((b13 : Int) != 45) then (K false) else (L0 (IntKind.wrap .i64 (aE + 1)))) else (L0 (IntKind.wrap .i64 (aE + 1))))) else (L0 (IntKind.wrap .i64 (aE + 1))))) else (YE.f k (aD.size : Int) 1 20 (fun y14 => bif y14 then (Za0 aD 0 fun b15 => bif ((b15 : Int) != 45) then (Za0 aD (IntKind.wrap .i64 ((aD.size : Int) - 1)) fun b16 => K ((b16 : Int) != 45)) else (K false)) else (K false)))
noncomputable def Ye.m {β : Type} (k : Nat) (a0 : ByteArray) (K : Bool → Option β) (F : (ByteArray → Int → Option β)) : Option β :=
  F a0 (0)
noncomputable def Ye.g {β : Type} (k : Nat) (a0 : ByteArray) (K : Bool → Option β) : Option β :=
  Zo (Ye.l0 k a0 K) k (0)
noncomputable def Ye.t (k : Nat) (a0 : ByteArray) : Option (Bool) := Ye.g k a0 (fun z0 => some z0)
noncomputable def Ye.f {β : Type} (k : Nat) (a0 : ByteArray) (K : Bool → Option β) : Option β := bd1 (Ye.t k a0) K
noncomputable def Ye.e (k : Nat) : Zk := ent [.d .s] [1] [.b] [4] false (Ye.t k)
noncomputable def Ye.p (k : Nat) : Pro := ⟨Try.prog, [(79, YE.e k)], Zn [(2, kp [0, 3])] false [], k⟩
noncomputable def Ye.d (k : Nat) (a0 : ByteArray) : Ex → St → Option (Bool) := (Ye.p k).fin Try.f76 [.d (.str a0)] [1] [.b]
noncomputable def Ye.s0 (aD : ByteArray) (v : Int) : St :=
  match v with
  | aE => ZX 46 [(0, .d false (.str aD)), (3, .d true (.int .i64 aE))] []
noncomputable def Ye.r0 (k : Nat) (a0 aD : ByteArray) (n : Nat) (v : Int) : Option (Bool) := (Ye.p k).lp (Zt Try.f76) 2 [1, 0, 1, 0] (Ye.d k a0) n (Ye.s0 aD v)
theorem Ye.l0_eq (k : Nat) (a0 aD : ByteArray) : ∀ n v, Ye.r0 k a0 aD n v = Zo (Ye.l0 k aD (fun z0 => some z0)) n v :=
  Zm (Ye.s0 aD) _ fun L0 v => by kernel_rfl
theorem Ye.ok (k : Nat) : Za Try.prog 76 (Ye.e k) := Zh (Ye.p k) mix tyok Try.func76 (YE.ok k) (by kernel_rfl) (fun a0 => Eq.trans (b := Ye.m k a0 (fun z0 => some z0) (fun aD => Ye.r0 k a0 aD k)) (by kernel_rfl) (congrArg (Ye.m k a0 (fun z0 => some z0)) (funext fun aD => funext fun v => Ye.l0_eq k a0 aD k v) :))
noncomputable def Yi.l0 {β : Type} (k : Nat) (aD : List (List D)) (K : Bool → Option β) (L0 : Int → Option β) (v : Int) : Option β :=
  match v with
  | aE => bif (decide ((aE : Int) < (aD.length : Int))) then (atR aD aE [.s, .s] fun x43 x46 => (Ye.f k x43 (fun y47 => bif (!y47) then (K false) else (atR aD aE [.s, .s] fun x51 x54 => (Ye.f k x54 (fun y55 => bif (!y55) then (K false) else (bif (decide ((aE : Int) > 0)) then (atR aD (IntKind.wrap .i64 (aE - 1)) [.s, .s] fun x59 x62 => (atR aD aE [.s, .s] fun x66 x69 => (bif (!(ZbO x59 x66)) then (K false) else (L0 (IntKind.wrap .i64 (aE + 1)))))) else (L0 (IntKind.wrap .i64 (aE + 1)))))))))) else (K (decide (((aD.length : Int) : Int) ≤ 8)))
noncomputable def Yi.m {β : Type} (k : Nat) (a0 : List (List D)) (K : Bool → Option β) (F : ((List (List D)) → Int → Option β)) : Option β :=
  F a0 (0)
noncomputable def Yi.g {β : Type} (k : Nat) (a0 : List (List D)) (K : Bool → Option β) : Option β :=
  Zo (Yi.l0 k a0 K) k (0)
noncomputable def Yi.t (k : Nat) (a0 : List (List D)) : Option (Bool) := Yi.g k a0 (fun z0 => some z0)
noncomputable def Yi.f {β : Type} (k : Nat) (a0 : List (List D)) (K : Bool → Option β) : Option β := bd1 (Yi.t k a0) K
noncomputable def Yi.e (k : Nat) : Zk := ent [.d .l] [1] [.b] [4] false (Yi.t k)
noncomputable def Yi.p (k : Nat) : Pro := ⟨Try.prog, [(76, Ye.e k)], Zn [(2, kp [0, 3])] false [], k⟩
noncomputable def Yi.d (k : Nat) (a0 : List (List D)) : Ex → St → Option (Bool) := (Yi.p k).fin Try.f94 [.d (.sl a0)] [1] [.b]
noncomputable def Yi.s0 (aD : List (List D)) (v : Int) : St :=
  match v with
  | aE => ZX 47 [(0, .d false (.sl aD)), (3, .d true (.int .i64 aE))] []
noncomputable def Yi.r0 (k : Nat) (a0 aD : List (List D)) (n : Nat) (v : Int) : Option (Bool) := (Yi.p k).lp (Zt Try.f94) 2 [1, 0, 1, 0] (Yi.d k a0) n (Yi.s0 aD v)
theorem Yi.l0_eq (k : Nat) (a0 aD : List (List D)) : ∀ n v, Yi.r0 k a0 aD n v = Zo (Yi.l0 k aD (fun z0 => some z0)) n v :=
  Zm (Yi.s0 aD) _ fun L0 v => by kernel_rfl
theorem Yi.ok (k : Nat) : Za Try.prog 94 (Yi.e k) := Zh (Yi.p k) mix tyok Try.func94 (Ye.ok k) (by kernel_rfl) (fun a0 => Eq.trans (b := Yi.m k a0 (fun z0 => some z0) (fun aD => Yi.r0 k a0 aD k)) (by kernel_rfl) (congrArg (Yi.m k a0 (fun z0 => some z0)) (funext fun aD => funext fun v => Yi.l0_eq k a0 aD k v) :))
noncomputable def YT.g {β : Type} (k : Nat) (a0 : List (List D)) (K : (List (List C)) → Option β) : Option β :=
  Zc (ZaZ 2 a0) (Zc (([] : List (List C)).length + (a0.map (·.map C.d)).length ≤ ZN) (K (([] : List (List C)) ++ (a0.map (·.map C.d)))))
noncomputable def YT.t (k : Nat) (a0 : List (List D)) : Option ((List (List C))) := YT.g k a0 (fun z0 => some z0)
noncomputable def YT.f {β : Type} (k : Nat) (a0 : List (List D)) (K : (List (List C)) → Option β) : Option β := bd1 (YT.t k a0) K
noncomputable def YT.e (k : Nat) : Zk := ent [.d .l] [1] [.o] [45] false (YT.t k)
noncomputable def YT.p (k : Nat) : Pro := ⟨Try.prog, [], Zn [] false [], k⟩
theorem YT.ok (k : Nat) : Za Try.prog 245 (YT.e k) := Zh (YT.p k) mix tyok Try.func245 trivial (by kernel_rfl) (fun a0 => by show _ = _; kernel_rfl)
noncomputable def Yt.l1 {β : Type} (k : Nat) (aT : List (List D)) (aP aU : ByteArray) (K : (List (List C)) → Bool → Option β) (L1 : (Bool × Int × (List (List C))) → Option β) (v : Bool × Int × (List (List C))) : Option β :=
  match v with
  | (aW, aS, aV) => let J0 := (aV.length + ([[.d (.str aP), .d (.str aU)]] : List (List C)).length ≤ ZN); let J1 := (aV ++ ([[.d (.str aP), .d (.str aU)]] : List (List C))); bif (decide ((aS : Int) < (aT.length : Int))) then (bif (!aW) then (atR aT aS [.s, .s] fun x227 x230 => (bif (!(ZbO x227 aP)) then (Zc J0 (atR aT aS [.s, .s] fun x234 x237 => (bif (!(Zae x234 aP)) then (atR aT aS [.s, .s] fun x241 x244 => (Zc (J1.length + ([[.d (.str x241), .d (.str x244)]] : List (List C)).length ≤ ZN) (L1 (true, IntKind.wrap .i64 (aS + 1), J1 ++ ([[.d (.str x241), .d (.str x244)]] : List (List C)))))) else (L1 (true, IntKind.wrap .i64 (aS + 1), aV ++ ([[.d (.str aP), .d (.str aU)]] : List (List C))))))) else (atR aT aS [.s, .s] fun x248 x251 => (bif (!(Zae x248 aP)) then (atR aT aS [.s, .s] fun x255 x258 => (Zc (aV.length + ([[.d (.str x255), .d (.str x258)]] : List (List C)).length ≤ ZN) (L1 (aW, IntKind.wrap .i64 (aS + 1), aV ++ ([[.d (.str x255), .d (.str x258)]] : List (List C)))))) else (L1 (aW, IntKind.wrap .i64 (aS + 1), aV)))))) else (atR aT aS [.s, .s] fun x262 x265 => (bif (!(Zae x262 aP)) then (atR aT aS [.s, .s] fun x269 x272 => (Zc (aV.length + ([[.d (.str x269), .d (.str x272)]] : List (List C)).length ≤ ZN) (L1 (aW, IntKind.wrap .i64 (aS + 1), aV ++ ([[.d (.str x269), .d (.str x272)]] : List (List C)))))) else (L1 (aW, IntKind.wrap .i64 (aS + 1), aV))))) else (bif (!aW) then (Zc J0 (K J1 true)) else (K aV true))
noncomputable def Yt.l0 {β : Type} (k : Nat) (aD : List (List D)) (aE aF : ByteArray) (K : (List (List C)) → Bool → Option β) (L0 : (Bool × Int × (List (List C))) → Option β) (v : Bool × Int × (List (List C))) : Option β :=
  match v with
  | (aG, aI, aJ) => let J0 := (aJ.length + ([[.d (.str aE), .d (.str aF)]] : List (List C)).length ≤ ZN); let J1 := (aJ ++ ([[.d (.str aE), .d (.str aF)]] : List (List C))); bif (decide ((aI : Int) < (aD.length : Int))) then (bif (!aG) then (atR aD aI [.s, .s] fun x129 x132 => (bif (!(ZbO x129 aE)) then (Zc J0 (atR aD aI [.s, .s] fun x136 x139 => (bif (!(Zae x136 aE)) then (atR aD aI [.s, .s] fun x143 x146 => (Zc (J1.length + ([[.d (.str x143), .d (.str x146)]] : List (List C)).length ≤ ZN) (L0 (true, IntKind.wrap .i64 (aI + 1), J1 ++ ([[.d (.str x143), .d (.str x146)]] : List (List C)))))) else (L0 (true, IntKind.wrap .i64 (aI + 1), aJ ++ ([[.d (.str aE), .d (.str aF)]] : List (List C))))))) else (atR aD aI [.s, .s] fun x150 x153 => (bif (!(Zae x150 aE)) then (atR aD aI [.s, .s] fun x157 x160 => (Zc (aJ.length + ([[.d (.str x157), .d (.str x160)]] : List (List C)).length ≤ ZN) (L0 (aG, IntKind.wrap .i64 (aI + 1), aJ ++ ([[.d (.str x157), .d (.str x160)]] : List (List C)))))) else (L0 (aG, IntKind.wrap .i64 (aI + 1), aJ)))))) else (atR aD aI [.s, .s] fun x164 x167 => (bif (!(Zae x164 aE)) then (atR aD aI [.s, .s] fun x171 x174 => (Zc (aJ.length + ([[.d (.str x171), .d (.str x174)]] : List (List C)).length ≤ ZN) (L0 (aG, IntKind.wrap .i64 (aI + 1), aJ ++ ([[.d (.str x171), .d (.str x174)]] : List (List C)))))) else (L0 (aG, IntKind.wrap .i64 (aI + 1), aJ))))) else (bif (!aG) then (Zc J0 (K J1 true)) else (K aJ true))
noncomputable def Yt.m {β : Type} (k : Nat) (a0 : List (List D)) (a1 a2 : ByteArray) (K : (List (List C)) → Bool → Option β) (F : ((List (List D)) → ByteArray → ByteArray → (Bool × Int × (List (List C))) → Option β) × ((List (List D)) → ByteArray → ByteArray → (Bool × Int × (List (List C))) → Option β)) : Option β :=
  Yj.f k a0 a1 (fun y29 y30 => Yi.f k a0 (fun y70 => bif (!y70) then (YT.f k a0 (fun y71 => K y71 false)) else (Ye.f k a1 (fun y72 => bif (!y72) then (YT.f k a0 (fun y73 => K y73 false)) else (Ye.f k a2 (fun y74 => bif (!y74) then (YT.f k a0 (fun y75 => K y75 false)) else (bif (!y30) then (bif (((a0.length : Int) : Int) == 8) then (YT.f k a0 (fun y76 => K y76 false)) else (F.1 a0 a1 a2 (false, 0, ([] : List (List C))))) else (F.2 a0 a1 a2 (false, 0, ([] : List (List C)))))))))))
noncomputable def Yt.g {β : Type} (k : Nat) (a0 : List (List D)) (a1 a2 : ByteArray) (K : (List (List C)) → Bool → Option β) : Option β := Yt.m k a0 a1 a2 K ((fun aD aE aF => Zo (Yt.l0 k aD aE aF K) k), (fun aT aP aU => Zo (Yt.l1 k aT aP aU K) k))
noncomputable def Yt.t (k : Nat) (a0 : List (List D)) (a1 a2 : ByteArray) : Option ((List (List C)) × Bool) := Yt.g k a0 a1 a2 (fun z0 z1 => some (z0, z1))
noncomputable def Yt.f {β : Type} (k : Nat) (a0 : List (List D)) (a1 a2 : ByteArray) (K : (List (List C)) → Bool → Option β) : Option β := bd2 (Yt.t k a0 a1 a2) K
noncomputable def Yt.e (k : Nat) : Zk := ent [.d .l, .d .s, .d .s] [1, 1] [.o, .b] [45, 4] false (Yt.t k)
noncomputable def Yt.p (k : Nat) : Pro := ⟨Try.prog, [(158, Yj.e k), (94, Yi.e k), (245, YT.e k), (76, Ye.e k)], Zn [(7, kp [0, 1, 2, 10, 11, 12])] false [], k⟩
noncomputable def Yt.d (k : Nat) (a0 : List (List D)) (a1 a2 : ByteArray) : Ex → St → Option ((List (List C)) × Bool) := (Yt.p k).fin Try.f211 [.d (.sl a0), .d (.str a1), .d (.str a2)] [1, 1] [.o, .b]
noncomputable def Yt.s0 (aD : List (List D)) (aE aF : ByteArray) (v : Bool × Int × (List (List C))) : St :=
  match v with
  | (aG, aI, aJ) => ZX 90 [(0, .d false (.sl aD)), (1, .d false (.str aE)), (2, .d false (.str aF)), (10, .row 0), (11, .d true (.bool aG)), (12, .d true (.int .i64 aI))] [.row none true 45 aJ]
noncomputable def Yt.r0 (k : Nat) (a0 : List (List D)) (a1 a2 : ByteArray) (aD : List (List D)) (aE aF : ByteArray) (n : Nat) (v : Bool × Int × (List (List C))) : Option ((List (List C)) × Bool) := (Yt.p k).lp (Zt Try.f211) 7 [1, 1, 1, 1, 1, 0, 1, 0] (Yt.d k a0 a1 a2) n (Yt.s0 aD aE aF v)
noncomputable def Yt.s1 (aT : List (List D)) (aP aU : ByteArray) (v : Bool × Int × (List (List C))) : St :=
  match v with
  | (aW, aS, aV) => ZX 90 [(0, .d false (.sl aT)), (1, .d false (.str aP)), (2, .d false (.str aU)), (10, .row 0), (11, .d true (.bool aW)), (12, .d true (.int .i64 aS))] [.row none true 45 aV]
noncomputable def Yt.r1 (k : Nat) (a0 : List (List D)) (a1 a2 : ByteArray) (aT : List (List D)) (aP aU : ByteArray) (n : Nat) (v : Bool × Int × (List (List C))) : Option ((List (List C)) × Bool) := (Yt.p k).lp (Zt Try.f211) 7 [1, 1, 1, 1, 1, 0, 1, 0] (Yt.d k a0 a1 a2) n (Yt.s1 aT aP aU v)
theorem Yt.l1_eq (k : Nat) (a0 : List (List D)) (a1 a2 : ByteArray) (aT : List (List D)) (aP aU : ByteArray) : ∀ n v, Yt.r1 k a0 a1 a2 aT aP aU n v = Zo (Yt.l1 k aT aP aU (fun z0 z1 => some (z0, z1))) n v :=
  Zm (Yt.s1 aT aP aU) _ fun L1 v => by obtain ⟨aW, aS, aV⟩ := v; kernel_rfl
theorem Yt.l0_eq (k : Nat) (a0 : List (List D)) (a1 a2 : ByteArray) (aD : List (List D)) (aE aF : ByteArray) : ∀ n v, Yt.r0 k a0 a1 a2 aD aE aF n v = Zo (Yt.l0 k aD aE aF (fun z0 z1 => some (z0, z1))) n v :=
  Zm (Yt.s0 aD aE aF) _ fun L0 v => by obtain ⟨aG, aI, aJ⟩ := v; kernel_rfl
theorem Yt.ok (k : Nat) : Za Try.prog 211 (Yt.e k) := Zh (Yt.p k) mix tyok Try.func211 ⟨Yj.ok k, Yi.ok k, YT.ok k, Ye.ok k⟩ (by kernel_rfl) (fun a0 a1 a2 => Eq.trans (b := Yt.m k a0 a1 a2 (fun z0 z1 => some (z0, z1)) ((fun aD aE aF => Yt.r0 k a0 a1 a2 aD aE aF k), (fun aT aP aU => Yt.r1 k a0 a1 a2 aT aP aU k))) (by kernel_rfl) (congrArg (Yt.m k a0 a1 a2 (fun z0 z1 => some (z0, z1))) (pair_eq (funext fun aD => funext fun aE => funext fun aF => funext fun v => Yt.l0_eq k a0 a1 a2 aD aE aF k v) (funext fun aT => funext fun aP => funext fun aU => funext fun v => Yt.l1_eq k a0 a1 a2 aT aP aU k v)) :))
noncomputable def YD.l0 {β : Type} (k : Nat) (K : (List (List C)) → (List (List D)) → Int → Int → Option β) (L0 : (Int × (List (List D)) × Int × Int × (List (List C))) → Option β) (v : Int × (List (List D)) × Int × Int × (List (List C))) : Option β :=
  match v with
  | (aD, aE, aF, aG, aI) => bif (decide ((aD : Int) > 0)) then (YH.f k aE aF aG (fun y275 y276 y277 y278 => YH.f k y276 y277 y278 (fun y279 y280 y281 y282 => Yt.f k (C.immRows aI) y275 y279 (fun y283 y284 => L0 (IntKind.wrap .i64 (aD - 1), y280, y281, y282, y283))))) else (K aI aE aF aG)
noncomputable def YD.m {β : Type} (k : Nat) (aB : List (List D)) (aC aA a1 : Int) (K : (List (List C)) → (List (List D)) → Int → Int → Option β) (F : ((Int × (List (List D)) × Int × Int × (List (List C))) → Option β)) : Option β :=
  Yu.f k aB aC aA a1 (fun y1 y2 y3 y4 => F (y1, y2, y3, y4, ([] : List (List C))))
noncomputable def YD.g {β : Type} (k : Nat) (aB : List (List D)) (aC aA a1 : Int) (K : (List (List C)) → (List (List D)) → Int → Int → Option β) : Option β :=
  Yu.f k aB aC aA a1 (fun y1 y2 y3 y4 => Zo (YD.l0 k K) k (y1, y2, y3, y4, ([] : List (List C))))
noncomputable def YD.t (k : Nat) (aB : List (List D)) (aC aA a1 : Int) : Option ((List (List C)) × (List (List D)) × Int × Int) := YD.g k aB aC aA a1 (fun z0 z1 z2 z3 => some (z0, z1, z2, z3))
noncomputable def YD.f {β : Type} (k : Nat) (aB : List (List D)) (aC aA a1 : Int) (K : (List (List C)) → (List (List D)) → Int → Int → Option β) : Option β := bd4 (YD.t k aB aC aA a1) K
noncomputable def YD.e (k : Nat) : Zk := ent [.box 178 [.l, .n, .n], .d .n] [1] [.o, .l, .n, .n] [45] false (YD.t k)
noncomputable def YD.p (k : Nat) : Pro := ⟨Try.prog, [(112, Yu.e k), (84, YH.e k), (211, Yt.e k)], Zn [(3, kp [0, 5, 6])] false [], k⟩
noncomputable def YD.d (k : Nat) (aB : List (List D)) (aC aA a1 : Int) : Ex → St → Option ((List (List C)) × (List (List D)) × Int × Int) := (YD.p k).fin Try.f157 [.box [.d (.sl aB), .d (.int .i64 aC), .d (.int .i64 aA)], .d (.int .i64 a1)] [1] [.o, .l, .n, .n]
noncomputable def YD.s0 (v : Int × (List (List D)) × Int × Int × (List (List C))) : St :=
  match v with
  | (aD, aE, aF, aG, aI) => ZX 25 [(0, .bp 0 0), (5, .row 1), (6, .d true (.int .i64 aD))] [.box (some 0) 178 [.d false (.sl aE), .d false (.int .i64 aF), .d false (.int .i64 aG)], .row none true 45 aI]
noncomputable def YD.r0 (k : Nat) (aB : List (List D)) (aC aA a1 : Int) (n : Nat) (v : Int × (List (List D)) × Int × Int × (List (List C))) : Option ((List (List C)) × (List (List D)) × Int × Int) := (YD.p k).lp (Zt Try.f157) 3 [1, 1, 0, 1, 0] (YD.d k aB aC aA a1) n (YD.s0 v)
theorem YD.l0_eq (k : Nat) (aB : List (List D)) (aC aA a1 : Int) : ∀ n v, YD.r0 k aB aC aA a1 n v = Zo (YD.l0 k (fun z0 z1 z2 z3 => some (z0, z1, z2, z3))) n v :=
  Zm (YD.s0) _ fun L0 v => by obtain ⟨aD, aE, aF, aG, aI⟩ := v; kernel_rfl
theorem YD.ok (k : Nat) : Za Try.prog 157 (YD.e k) := Zh (YD.p k) mix tyok Try.func157 ⟨Yu.ok k, YH.ok k, Yt.ok k⟩ (by kernel_rfl) (fun aB aC aA a1 => Eq.trans (b := YD.m k aB aC aA a1 (fun z0 z1 z2 z3 => some (z0, z1, z2, z3)) (YD.r0 k aB aC aA a1 k)) (by kernel_rfl) (congrArg (YD.m k aB aC aA a1 (fun z0 z1 z2 z3 => some (z0, z1, z2, z3))) (funext fun v => YD.l0_eq k aB aC aA a1 k v) :))
noncomputable def Yn.l1 {β : Type} (k : Nat) (aP : List (List D)) (aU aW aS : Int) (aV : ByteArray) (aX : Int) (aY : ByteArray) (v1_8 : List (List C)) (K : Int → ByteArray → (List (List C)) → (List (List D)) → Int → Int → Option β) (L1 : (Int × (List (List C))) → Option β) (v : Int × (List (List C))) : Option β :=
  match v with
  | (aT, v1_9) => bif (decide ((aT : Int) < (v1_8.length : Int))) then (Zc ((0 : Int) ≤ aT ∧ aT < (v1_8.length : Int)) (ZaG v1_8 (Int.toNat aT) fun c40 => Zas (c40.drop 0) fun c41 r42 => cD c41 fun d43 => dStr d43 fun x44 => Zc (v1_9.length + ([[.d (.str x44)]] : List (List C)).length ≤ ZN) (L1 (IntKind.wrap .i64 (aT + 1), v1_9 ++ ([[.d (.str x44)]] : List (List C)))))) else (bif (((v1_9.length : Int) : Int) == 0) then (K aX aY ([[.d (.str (⟨#[97]⟩ : ByteArray))]] : List (List C)) aP aU aW) else (K aX aY v1_9 aP aU aW))
noncomputable def Yn.l0 {β : Type} (k : Nat) (aE : List (List D)) (aF aG aI : Int) (aJ : ByteArray) (aL : Int) (aQ : ByteArray) (aR : List (List C)) (K : Int → ByteArray → (List (List C)) → (List (List D)) → Int → Int → Option β) (L0 : (Int × (List (List C))) → Option β) (v : Int × (List (List C))) : Option β :=
  match v with
  | (aD, v0_9) => bif (decide ((aD : Int) < (aR.length : Int))) then (Zc ((0 : Int) ≤ aD ∧ aD < (aR.length : Int)) (ZaG aR (Int.toNat aD) fun c22 => Zas (c22.drop 0) fun c23 r24 => cD c23 fun d25 => dStr d25 fun x26 => Zc (v0_9.length + ([[.d (.str x26)]] : List (List C)).length ≤ ZN) (L0 (IntKind.wrap .i64 (aD + 1), v0_9 ++ ([[.d (.str x26)]] : List (List C)))))) else (bif (((v0_9.length : Int) : Int) == 0) then (K aL aQ ([[.d (.str (⟨#[97]⟩ : ByteArray))]] : List (List C)) aE aF aG) else (K aL aQ v0_9 aE aF aG))
noncomputable def Yn.m {β : Type} (k : Nat) (aB : List (List D)) (aC aA : Int) (K : Int → ByteArray → (List (List C)) → (List (List D)) → Int → Int → Option β) (F : ((List (List D)) → Int → Int → Int → ByteArray → Int → ByteArray → (List (List C)) → (Int × (List (List C))) → Option β) × ((List (List D)) → Int → Int → Int → ByteArray → Int → ByteArray → (List (List C)) → (Int × (List (List C))) → Option β)) : Option β :=
  Yu.f k aB aC aA 5 (fun y1 y2 y3 y4 => YH.f k y2 y3 y4 (fun y5 y6 y7 y8 => let J0 := (K (IntKind.wrap .i64 (1 + y1)) y5 ([] : List (List C)) y6 y7 y8); bif (((IntKind.wrap .i64 (1 + y1)) : Int) == 1) then (bif (((IntKind.wrap .i64 (1 + y1)) : Int) == 1) then (YH.f k y6 y7 y8 (fun y9 y10 y11 y12 => K (IntKind.wrap .i64 (1 + y1)) y5 ([[.d (.str y9)]] : List (List C)) y10 y11 y12)) else (bif (((IntKind.wrap .i64 (1 + y1)) : Int) == 3) then (YD.f k y6 y7 y8 5 (fun y13 y14 y15 y16 => F.1 y14 y15 y16 0 (⟨#[]⟩ : ByteArray) (IntKind.wrap .i64 (1 + y1)) y5 y13 (0, ([] : List (List C))))) else J0)) else (bif (((IntKind.wrap .i64 (1 + y1)) : Int) == 2) then (YH.f k y6 y7 y8 (fun y27 y28 y29 y30 => K (IntKind.wrap .i64 (1 + y1)) y5 ([[.d (.str y27)]] : List (List C)) y28 y29 y30)) else (bif (((IntKind.wrap .i64 (1 + y1)) : Int) == 3) then (YD.f k y6 y7 y8 5 (fun y31 y32 y33 y34 => F.2 y32 y33 y34 0 (⟨#[]⟩ : ByteArray) (IntKind.wrap .i64 (1 + y1)) y5 y31 (0, ([] : List (List C))))) else J0))))
noncomputable def Yn.g {β : Type} (k : Nat) (aB : List (List D)) (aC aA : Int) (K : Int → ByteArray → (List (List C)) → (List (List D)) → Int → Int → Option β) : Option β := Yn.m k aB aC aA K ((fun aE aF aG aI aJ aL aQ aR => Zo (Yn.l0 k aE aF aG aI aJ aL aQ aR K) k), (fun aP aU aW aS aV aX aY v1_8 => Zo (Yn.l1 k aP aU aW aS aV aX aY v1_8 K) k))
noncomputable def Yn.t (k : Nat) (aB : List (List D)) (aC aA : Int) : Option (Int × ByteArray × (List (List C)) × (List (List D)) × Int × Int) := Yn.g k aB aC aA (fun z0 z1 z2 z3 z4 z5 => some (z0, z1, z2, z3, z4, z5))
noncomputable def Yn.f {β : Type} (k : Nat) (aB : List (List D)) (aC aA : Int) (K : Int → ByteArray → (List (List C)) → (List (List D)) → Int → Int → Option β) : Option β := match Yn.t k aB aC aA with | some (z0, z1, z2, z3, z4, z5) => K z0 z1 z2 z3 z4 z5 | none => none
noncomputable def Yn.e (k : Nat) : Zk := ent [.box 178 [.l, .n, .n]] [3] [.n, .s, .o, .l, .n, .n] [135] false (Yn.t k)
noncomputable def Yn.p (k : Nat) : Pro := ⟨Try.prog, [(112, Yu.e k), (84, YH.e k), (157, YD.e k)], Zn [(9, kp [2, 3, 4, 5] [] [(3, 2, .row true 25)])] false [], k⟩
noncomputable def Yn.d (k : Nat) (aB : List (List D)) (aC aA : Int) : Ex → St → Option (Int × ByteArray × (List (List C)) × (List (List D)) × Int × Int) := (Yn.p k).fin Try.f210 [.box [.d (.sl aB), .d (.int .i64 aC), .d (.int .i64 aA)]] [3] [.n, .s, .o, .l, .n, .n]
noncomputable def Yn.s0 (aE : List (List D)) (aF aG aI : Int) (aJ : ByteArray) (aL : Int) (aQ : ByteArray) (aR : List (List C)) (v : Int × (List (List C))) : St :=
  match v with
  | (aD, v0_9) => ZX 48 [(2, .bp 1 0), (3, .bp 2 0), (4, .row 3), (5, .d true (.int .i64 aD))] [.box (some 0) 178 [.d false (.sl aE), .d false (.int .i64 aF), .d false (.int .i64 aG)], .box none 135 [.d true (.int .i64 aI), .d true (.str aJ), .nil], .box none 135 [.d true (.int .i64 aL), .d true (.str aQ), .row 4], .row none true 45 aR, .row none true 25 v0_9]
noncomputable def Yn.r0 (k : Nat) (aB : List (List D)) (aC aA : Int) (aE : List (List D)) (aF aG aI : Int) (aJ : ByteArray) (aL : Int) (aQ : ByteArray) (aR : List (List C)) (n : Nat) (v : Int × (List (List C))) : Option (Int × ByteArray × (List (List C)) × (List (List D)) × Int × Int) := (Yn.p k).lp (Zt Try.f210) 9 [1, 1, 0, 1, 0, 1, 1, 1, 0, 1, 0, 1, 0] (Yn.d k aB aC aA) n (Yn.s0 aE aF aG aI aJ aL aQ aR v)
noncomputable def Yn.s1 (aP : List (List D)) (aU aW aS : Int) (aV : ByteArray) (aX : Int) (aY : ByteArray) (v1_8 : List (List C)) (v : Int × (List (List C))) : St :=
  match v with
  | (aT, v1_9) => ZX 48 [(2, .bp 1 0), (3, .bp 2 0), (4, .row 3), (5, .d true (.int .i64 aT))] [.box (some 0) 178 [.d false (.sl aP), .d false (.int .i64 aU), .d false (.int .i64 aW)], .box none 135 [.d true (.int .i64 aS), .d true (.str aV), .nil], .box none 135 [.d true (.int .i64 aX), .d true (.str aY), .row 4], .row none true 45 v1_8, .row none true 25 v1_9]
noncomputable def Yn.r1 (k : Nat) (aB : List (List D)) (aC aA : Int) (aP : List (List D)) (aU aW aS : Int) (aV : ByteArray) (aX : Int) (aY : ByteArray) (v1_8 : List (List C)) (n : Nat) (v : Int × (List (List C))) : Option (Int × ByteArray × (List (List C)) × (List (List D)) × Int × Int) := (Yn.p k).lp (Zt Try.f210) 9 [1, 1, 0, 1, 0, 1, 1, 1, 0, 1, 0, 1, 0] (Yn.d k aB aC aA) n (Yn.s1 aP aU aW aS aV aX aY v1_8 v)
theorem Yn.l1_eq (k : Nat) (aB : List (List D)) (aC aA : Int) (aP : List (List D)) (aU aW aS : Int) (aV : ByteArray) (aX : Int) (aY : ByteArray) (v1_8 : List (List C)) : ∀ n v, Yn.r1 k aB aC aA aP aU aW aS aV aX aY v1_8 n v = Zo (Yn.l1 k aP aU aW aS aV aX aY v1_8 (fun z0 z1 z2 z3 z4 z5 => some (z0, z1, z2, z3, z4, z5))) n v :=
  Zm (Yn.s1 aP aU aW aS aV aX aY v1_8) _ fun L1 v => by obtain ⟨aT, v1_9⟩ := v; kernel_rfl
theorem Yn.l0_eq (k : Nat) (aB : List (List D)) (aC aA : Int) (aE : List (List D)) (aF aG aI : Int) (aJ : ByteArray) (aL : Int) (aQ : ByteArray) (aR : List (List C)) : ∀ n v, Yn.r0 k aB aC aA aE aF aG aI aJ aL aQ aR n v = Zo (Yn.l0 k aE aF aG aI aJ aL aQ aR (fun z0 z1 z2 z3 z4 z5 => some (z0, z1, z2, z3, z4, z5))) n v :=
  Zm (Yn.s0 aE aF aG aI aJ aL aQ aR) _ fun L0 v => by obtain ⟨aD, v0_9⟩ := v; kernel_rfl
theorem Yn.ok (k : Nat) : Za Try.prog 210 (Yn.e k) := Zh (Yn.p k) mix tyok Try.func210 ⟨Yu.ok k, YH.ok k, YD.ok k⟩ (by kernel_rfl) (fun aB aC aA => Eq.trans (b := Yn.m k aB aC aA (fun z0 z1 z2 z3 z4 z5 => some (z0, z1, z2, z3, z4, z5)) ((fun aE aF aG aI aJ aL aQ aR => Yn.r0 k aB aC aA aE aF aG aI aJ aL aQ aR k), (fun aP aU aW aS aV aX aY v1_8 => Yn.r1 k aB aC aA aP aU aW aS aV aX aY v1_8 k))) (by kernel_rfl) (congrArg (Yn.m k aB aC aA (fun z0 z1 z2 z3 z4 z5 => some (z0, z1, z2, z3, z4, z5))) (pair_eq (funext fun aE => funext fun aF => funext fun aG => funext fun aI => funext fun aJ => funext fun aL => funext fun aQ => funext fun aR => funext fun v => Yn.l0_eq k aB aC aA aE aF aG aI aJ aL aQ aR k v) (funext fun aP => funext fun aU => funext fun aW => funext fun aS => funext fun aV => funext fun aX => funext fun aY => funext fun v1_8 => funext fun v => Yn.l1_eq k aB aC aA aP aU aW aS aV aX aY v1_8 k v)) :))
noncomputable def YF.l0 {β : Type} (k : Nat) (K : (List (List C)) → (List (List D)) → Int → Int → Option β) (L0 : (Int × (List (List D)) × Int × Int × (List (List C))) → Option β) (v : Int × (List (List D)) × Int × Int × (List (List C))) : Option β :=
  match v with
  | (aD, aE, aF, aG, aI) => bif (decide ((aD : Int) > 0)) then (Yn.f k aE aF aG (fun y51 y52 y53 y54 y55 y56 => Zc (aI.length + ([[.d (.int .i64 y51), .d (.str y52), .own y53]] : List (List C)).length ≤ ZN) (L0 (IntKind.wrap .i64 (aD - 1), y54, y55, y56, aI ++ ([[.d (.int .i64 y51), .d (.str y52), .own y53]] : List (List C)))))) else (K aI aE aF aG)
noncomputable def YF.m {β : Type} (k : Nat) (aB : List (List D)) (aC aA a1 : Int) (K : (List (List C)) → (List (List D)) → Int → Int → Option β) (F : ((Int × (List (List D)) × Int × Int × (List (List C))) → Option β)) : Option β :=
  Yu.f k aB aC aA a1 (fun y1 y2 y3 y4 => F (y1, y2, y3, y4, ([] : List (List C))))
noncomputable def YF.g {β : Type} (k : Nat) (aB : List (List D)) (aC aA a1 : Int) (K : (List (List C)) → (List (List D)) → Int → Int → Option β) : Option β :=
  Yu.f k aB aC aA a1 (fun y1 y2 y3 y4 => Zo (YF.l0 k K) k (y1, y2, y3, y4, ([] : List (List C))))
noncomputable def YF.t (k : Nat) (aB : List (List D)) (aC aA a1 : Int) : Option ((List (List C)) × (List (List D)) × Int × Int) := YF.g k aB aC aA a1 (fun z0 z1 z2 z3 => some (z0, z1, z2, z3))
noncomputable def YF.f {β : Type} (k : Nat) (aB : List (List D)) (aC aA a1 : Int) (K : (List (List C)) → (List (List D)) → Int → Int → Option β) : Option β := bd4 (YF.t k aB aC aA a1) K
noncomputable def YF.e (k : Nat) : Zk := ent [.box 178 [.l, .n, .n], .d .n] [1] [.o, .l, .n, .n] [41] false (YF.t k)
noncomputable def YF.p (k : Nat) : Pro := ⟨Try.prog, [(112, Yu.e k), (210, Yn.e k)], Zn [(3, kp [0, 5, 6])] false [], k⟩
noncomputable def YF.d (k : Nat) (aB : List (List D)) (aC aA a1 : Int) : Ex → St → Option ((List (List C)) × (List (List D)) × Int × Int) := (YF.p k).fin Try.f154 [.box [.d (.sl aB), .d (.int .i64 aC), .d (.int .i64 aA)], .d (.int .i64 a1)] [1] [.o, .l, .n, .n]
noncomputable def YF.s0 (v : Int × (List (List D)) × Int × Int × (List (List C))) : St :=
  match v with
  | (aD, aE, aF, aG, aI) => ZX 21 [(0, .bp 0 0), (5, .row 1), (6, .d true (.int .i64 aD))] [.box (some 0) 178 [.d false (.sl aE), .d false (.int .i64 aF), .d false (.int .i64 aG)], .row none true 41 aI]
noncomputable def YF.r0 (k : Nat) (aB : List (List D)) (aC aA a1 : Int) (n : Nat) (v : Int × (List (List D)) × Int × Int × (List (List C))) : Option ((List (List C)) × (List (List D)) × Int × Int) := (YF.p k).lp (Zt Try.f154) 3 [1, 1, 0, 1, 0] (YF.d k aB aC aA a1) n (YF.s0 v)
theorem YF.l0_eq (k : Nat) (aB : List (List D)) (aC aA a1 : Int) : ∀ n v, YF.r0 k aB aC aA a1 n v = Zo (YF.l0 k (fun z0 z1 z2 z3 => some (z0, z1, z2, z3))) n v :=
  Zm (YF.s0) _ fun L0 v => by obtain ⟨aD, aE, aF, aG, aI⟩ := v; kernel_rfl
theorem YF.ok (k : Nat) : Za Try.prog 154 (YF.e k) := Zh (YF.p k) mix tyok Try.func154 ⟨Yu.ok k, Yn.ok k⟩ (by kernel_rfl) (fun aB aC aA a1 => Eq.trans (b := YF.m k aB aC aA a1 (fun z0 z1 z2 z3 => some (z0, z1, z2, z3)) (YF.r0 k aB aC aA a1 k)) (by kernel_rfl) (congrArg (YF.m k aB aC aA a1 (fun z0 z1 z2 z3 => some (z0, z1, z2, z3))) (funext fun v => YF.l0_eq k aB aC aA a1 k v) :))
noncomputable def Ym.l3 {β : Type} (k : Nat) (v3_4 v3_5 : Int) (v3_6 : List (List C)) (K : Int → (List (List C)) → (List (List C)) → (List (List C)) → (List (List D)) → Int → Int → Option β) (L3 : (Int × (List (List D)) × Int × Int × (List (List C))) → Option β) (v : Int × (List (List D)) × Int × Int × (List (List C))) : Option β :=
  match v with
  | (v3_0, v3_1, v3_2, v3_3, v3_7) => bif (decide ((v3_0 : Int) < 4)) then (Yz.f k v3_1 v3_2 v3_3 3 (fun y112 y113 y114 y115 => bif y112 then (Zc ((0 : Int) ≤ v3_0 ∧ v3_0 < (v3_6.length : Int)) (ZaG v3_6 (Int.toNat v3_0) fun c116 => Zas (c116.drop 0) fun c117 r118 => cD c117 fun d119 => dStr d119 fun x120 => YL.f k y113 y114 y115 ([[.int .i64 0], [.int .i64 1], [.int .i64 2], [.int .i64 3], [.int .i64 10]] : List (List D)) (fun y121 y122 y123 y124 => Zc (v3_7.length + ([[.d (.str x120), .d (.int .i64 y121)]] : List (List C)).length ≤ ZN) (L3 (IntKind.wrap .i64 (v3_0 + 1), y122, y123, y124, v3_7 ++ ([[.d (.str x120), .d (.int .i64 y121)]] : List (List C))))))) else (L3 (IntKind.wrap .i64 (v3_0 + 1), y113, y114, y115, v3_7)))) else (K v3_5 ([] : List (List C)) ([] : List (List C)) v3_7 v3_1 v3_2 v3_3)
noncomputable def Ym.l2 {β : Type} (k : Nat) (v2_4 v2_5 : Int) (v2_6 v2_7 : List (List C)) (K : Int → (List (List C)) → (List (List C)) → (List (List C)) → (List (List D)) → Int → Int → Option β) (L2 : (Int × (List (List D)) × Int × Int × (List (List C))) → Option β) (v : Int × (List (List D)) × Int × Int × (List (List C))) : Option β :=
  match v with
  | (v2_0, v2_1, v2_2, v2_3, v2_8) => bif (decide ((v2_0 : Int) < 4)) then (Yz.f k v2_1 v2_2 v2_3 3 (fun y86 y87 y88 y89 => bif y86 then (Zc ((0 : Int) ≤ v2_0 ∧ v2_0 < (v2_6.length : Int)) (ZaG v2_6 (Int.toNat v2_0) fun c90 => Zas (c90.drop 0) fun c91 r92 => cD c91 fun d93 => dStr d93 fun x94 => YL.f k y87 y88 y89 ([[.int .i64 0], [.int .i64 1], [.int .i64 2], [.int .i64 3], [.int .i64 10]] : List (List D)) (fun y95 y96 y97 y98 => Zc (v2_8.length + ([[.d (.str x94), .d (.int .i64 y95)]] : List (List C)).length ≤ ZN) (L2 (IntKind.wrap .i64 (v2_0 + 1), y96, y97, y98, v2_8 ++ ([[.d (.str x94), .d (.int .i64 y95)]] : List (List C))))))) else (L2 (IntKind.wrap .i64 (v2_0 + 1), y87, y88, y89, v2_8)))) else (K v2_5 ([] : List (List C)) v2_7 v2_8 v2_1 v2_2 v2_3)
noncomputable def Ym.l1 {β : Type} (k : Nat) (aS aV : Int) (aX aY : List (List C)) (K : Int → (List (List C)) → (List (List C)) → (List (List C)) → (List (List D)) → Int → Int → Option β) (L1 : (Int × (List (List D)) × Int × Int × (List (List C))) → Option β) (v : Int × (List (List D)) × Int × Int × (List (List C))) : Option β :=
  match v with
  | (aT, aP, aU, aW, v1_8) => bif (decide ((aT : Int) < 4)) then (Yz.f k aP aU aW 3 (fun y56 y57 y58 y59 => bif y56 then (Zc ((0 : Int) ≤ aT ∧ aT < (aX.length : Int)) (ZaG aX (Int.toNat aT) fun c60 => Zas (c60.drop 0) fun c61 r62 => cD c61 fun d63 => dStr d63 fun x64 => YL.f k y57 y58 y59 ([[.int .i64 0], [.int .i64 1], [.int .i64 2], [.int .i64 3], [.int .i64 10]] : List (List D)) (fun y65 y66 y67 y68 => Zc (v1_8.length + ([[.d (.str x64), .d (.int .i64 y65)]] : List (List C)).length ≤ ZN) (L1 (IntKind.wrap .i64 (aT + 1), y66, y67, y68, v1_8 ++ ([[.d (.str x64), .d (.int .i64 y65)]] : List (List C))))))) else (L1 (IntKind.wrap .i64 (aT + 1), y57, y58, y59, v1_8)))) else (K aV aY ([] : List (List C)) v1_8 aP aU aW)
noncomputable def Ym.l0 {β : Type} (k : Nat) (aI aJ : Int) (aL aQ aR : List (List C)) (K : Int → (List (List C)) → (List (List C)) → (List (List C)) → (List (List D)) → Int → Int → Option β) (L0 : (Int × (List (List D)) × Int × Int × (List (List C))) → Option β) (v : Int × (List (List D)) × Int × Int × (List (List C))) : Option β :=
  match v with
  | (aD, aE, aF, aG, v0_9) => bif (decide ((aD : Int) < 4)) then (Yz.f k aE aF aG 3 (fun y30 y31 y32 y33 => bif y30 then (Zc ((0 : Int) ≤ aD ∧ aD < (aL.length : Int)) (ZaG aL (Int.toNat aD) fun c34 => Zas (c34.drop 0) fun c35 r36 => cD c35 fun d37 => dStr d37 fun x38 => YL.f k y31 y32 y33 ([[.int .i64 0], [.int .i64 1], [.int .i64 2], [.int .i64 3], [.int .i64 10]] : List (List D)) (fun y39 y40 y41 y42 => Zc (v0_9.length + ([[.d (.str x38), .d (.int .i64 y39)]] : List (List C)).length ≤ ZN) (L0 (IntKind.wrap .i64 (aD + 1), y40, y41, y42, v0_9 ++ ([[.d (.str x38), .d (.int .i64 y39)]] : List (List C))))))) else (L0 (IntKind.wrap .i64 (aD + 1), y31, y32, y33, v0_9)))) else (K aJ aQ aR v0_9 aE aF aG)
noncomputable def Ym.m {β : Type} (k : Nat) (aB : List (List D)) (aC aA : Int) (K : Int → (List (List C)) → (List (List C)) → (List (List C)) → (List (List D)) → Int → Int → Option β) (F : (Int → Int → (List (List C)) → (List (List C)) → (List (List C)) → (Int × (List (List D)) × Int × Int × (List (List C))) → Option β) × (Int → Int → (List (List C)) → (List (List C)) → (Int × (List (List D)) × Int × Int × (List (List C))) → Option β) × (Int → Int → (List (List C)) → (List (List C)) → (Int × (List (List D)) × Int × Int × (List (List C))) → Option β) × (Int → Int → (List (List C)) → (Int × (List (List D)) × Int × Int × (List (List C))) → Option β)) : Option β :=
  YL.f k aB aC aA ([[.int .i64 0], [.int .i64 1], [.int .i64 2], [.int .i64 3], [.int .i64 5], [.int .i64 7], [.int .i64 12], [.int .i64 30]] : List (List D)) (fun y1 y2 y3 y4 => Yz.f k y2 y3 y4 4 (fun y5 y6 y7 y8 => bif y5 then (YF.f k y6 y7 y8 2 (fun y9 y10 y11 y12 => Yz.f k y10 y11 y12 2 (fun y13 y14 y15 y16 => bif y13 then (F.1 0 y1 ([[.d (.str (⟨#[97]⟩ : ByteArray))], [.d (.str (⟨#[98]⟩ : ByteArray))], [.d (.str (⟨#[99]⟩ : ByteArray))], [.d (.str (⟨#[100]⟩ : ByteArray))]] : List (List C)) y9 ([[.d (.str (⟨#[103, 111, 108, 100]⟩ : ByteArray))], [.d (.str (⟨#[116, 105, 101, 114]⟩ : ByteArray))]] : List (List C)) (0, y14, y15, y16, ([] : List (List C)))) else (F.2.1 0 y1 ([[.d (.str (⟨#[97]⟩ : ByteArray))], [.d (.str (⟨#[98]⟩ : ByteArray))], [.d (.str (⟨#[99]⟩ : ByteArray))], [.d (.str (⟨#[100]⟩ : ByteArray))]] : List (List C)) y9 (0, y14, y15, y16, ([] : List (List C))))))) else (Yz.f k y6 y7 y8 2 (fun y69 y70 y71 y72 => bif y69 then (F.2.2.1 0 y1 ([[.d (.str (⟨#[97]⟩ : ByteArray))], [.d (.str (⟨#[98]⟩ : ByteArray))], [.d (.str (⟨#[99]⟩ : ByteArray))], [.d (.str (⟨#[100]⟩ : ByteArray))]] : List (List C)) ([[.d (.str (⟨#[103, 111, 108, 100]⟩ : ByteArray))], [.d (.str (⟨#[116, 105, 101, 114]⟩ : ByteArray))]] : List (List C)) (0, y70, y71, y72, ([] : List (List C)))) else (F.2.2.2 0 y1 ([[.d (.str (⟨#[97]⟩ : ByteArray))], [.d (.str (⟨#[98]⟩ : ByteArray))], [.d (.str (⟨#[99]⟩ : ByteArray))], [.d (.str (⟨#[100]⟩ : ByteArray))]] : List (List C)) (0, y70, y71, y72, ([] : List (List C))))))))
noncomputable def Ym.g {β : Type} (k : Nat) (aB : List (List D)) (aC aA : Int) (K : Int → (List (List C)) → (List (List C)) → (List (List C)) → (List (List D)) → Int → Int → Option β) : Option β := Ym.m k aB aC aA K ((fun aI aJ aL aQ aR => Zo (Ym.l0 k aI aJ aL aQ aR K) k), (fun aS aV aX aY => Zo (Ym.l1 k aS aV aX aY K) k), (fun v2_4 v2_5 v2_6 v2_7 => Zo (Ym.l2 k v2_4 v2_5 v2_6 v2_7 K) k), (fun v3_4 v3_5 v3_6 => Zo (Ym.l3 k v3_4 v3_5 v3_6 K) k))
noncomputable def Ym.t (k : Nat) (aB : List (List D)) (aC aA : Int) : Option (Int × (List (List C)) × (List (List C)) × (List (List C)) × (List (List D)) × Int × Int) := Ym.g k aB aC aA (fun z0 z1 z2 z3 z4 z5 z6 => some (z0, z1, z2, z3, z4, z5, z6))
noncomputable def Ym.f {β : Type} (k : Nat) (aB : List (List D)) (aC aA : Int) (K : Int → (List (List C)) → (List (List C)) → (List (List C)) → (List (List D)) → Int → Int → Option β) : Option β := match Ym.t k aB aC aA with | some (z0, z1, z2, z3, z4, z5, z6) => K z0 z1 z2 z3 z4 z5 z6 | none => none
noncomputable def Ym.e (k : Nat) : Zk := ent [.box 178 [.l, .n, .n]] [4] [.n, .o, .o, .o, .l, .n, .n] [44] false (Ym.t k)
noncomputable def Ym.p (k : Nat) : Pro := ⟨Try.prog, [(118, YL.e k), (81, Yz.e k), (154, YF.e k)], Zn [(8, kp [0, 2, 3, 4, 5] [] [(3, 3, .row true 42)])] false [], k⟩
noncomputable def Ym.d (k : Nat) (aB : List (List D)) (aC aA : Int) : Ex → St → Option (Int × (List (List C)) × (List (List C)) × (List (List C)) × (List (List D)) × Int × Int) := (Ym.p k).fin Try.f80 [.box [.d (.sl aB), .d (.int .i64 aC), .d (.int .i64 aA)]] [4] [.n, .o, .o, .o, .l, .n, .n]
noncomputable def Ym.s0 (aI aJ : Int) (aL aQ aR : List (List C)) (v : Int × (List (List D)) × Int × Int × (List (List C))) : St :=
  match v with
  | (aD, aE, aF, aG, v0_9) => ZX 40 [(0, .bp 0 0), (2, .bp 1 0), (3, .bp 2 0), (4, .row 3), (5, .d true (.int .i64 aD))] [.box (some 0) 178 [.d false (.sl aE), .d false (.int .i64 aF), .d false (.int .i64 aG)], .box none 44 [.d true (.int .i64 aI), .nil, .nil, .nil], .box none 44 [.d true (.int .i64 aJ), .row 4, .row 5, .row 6], .row none true 25 aL, .row none true 41 aQ, .row none true 25 aR, .row none true 42 v0_9]
noncomputable def Ym.r0 (k : Nat) (aB : List (List D)) (aC aA aI aJ : Int) (aL aQ aR : List (List C)) (n : Nat) (v : Int × (List (List D)) × Int × Int × (List (List C))) : Option (Int × (List (List C)) × (List (List C)) × (List (List C)) × (List (List D)) × Int × Int) := (Ym.p k).lp (Zt Try.f80) 8 [1, 1, 1, 1, 1, 0, 1, 0] (Ym.d k aB aC aA) n (Ym.s0 aI aJ aL aQ aR v)
noncomputable def Ym.s1 (aS aV : Int) (aX aY : List (List C)) (v : Int × (List (List D)) × Int × Int × (List (List C))) : St :=
  match v with
  | (aT, aP, aU, aW, v1_8) => ZX 40 [(0, .bp 0 0), (2, .bp 1 0), (3, .bp 2 0), (4, .row 3), (5, .d true (.int .i64 aT))] [.box (some 0) 178 [.d false (.sl aP), .d false (.int .i64 aU), .d false (.int .i64 aW)], .box none 44 [.d true (.int .i64 aS), .nil, .nil, .nil], .box none 44 [.d true (.int .i64 aV), .row 4, .nil, .row 5], .row none true 25 aX, .row none true 41 aY, .row none true 42 v1_8]
noncomputable def Ym.r1 (k : Nat) (aB : List (List D)) (aC aA aS aV : Int) (aX aY : List (List C)) (n : Nat) (v : Int × (List (List D)) × Int × Int × (List (List C))) : Option (Int × (List (List C)) × (List (List C)) × (List (List C)) × (List (List D)) × Int × Int) := (Ym.p k).lp (Zt Try.f80) 8 [1, 1, 1, 1, 1, 0, 1, 0] (Ym.d k aB aC aA) n (Ym.s1 aS aV aX aY v)
noncomputable def Ym.s2 (v2_4 v2_5 : Int) (v2_6 v2_7 : List (List C)) (v : Int × (List (List D)) × Int × Int × (List (List C))) : St :=
  match v with
  | (v2_0, v2_1, v2_2, v2_3, v2_8) => ZX 40 [(0, .bp 0 0), (2, .bp 1 0), (3, .bp 2 0), (4, .row 3), (5, .d true (.int .i64 v2_0))] [.box (some 0) 178 [.d false (.sl v2_1), .d false (.int .i64 v2_2), .d false (.int .i64 v2_3)], .box none 44 [.d true (.int .i64 v2_4), .nil, .nil, .nil], .box none 44 [.d true (.int .i64 v2_5), .nil, .row 4, .row 5], .row none true 25 v2_6, .row none true 25 v2_7, .row none true 42 v2_8]
noncomputable def Ym.r2 (k : Nat) (aB : List (List D)) (aC aA v2_4 v2_5 : Int) (v2_6 v2_7 : List (List C)) (n : Nat) (v : Int × (List (List D)) × Int × Int × (List (List C))) : Option (Int × (List (List C)) × (List (List C)) × (List (List C)) × (List (List D)) × Int × Int) := (Ym.p k).lp (Zt Try.f80) 8 [1, 1, 1, 1, 1, 0, 1, 0] (Ym.d k aB aC aA) n (Ym.s2 v2_4 v2_5 v2_6 v2_7 v)
noncomputable def Ym.s3 (v3_4 v3_5 : Int) (v3_6 : List (List C)) (v : Int × (List (List D)) × Int × Int × (List (List C))) : St :=
  match v with
  | (v3_0, v3_1, v3_2, v3_3, v3_7) => ZX 40 [(0, .bp 0 0), (2, .bp 1 0), (3, .bp 2 0), (4, .row 3), (5, .d true (.int .i64 v3_0))] [.box (some 0) 178 [.d false (.sl v3_1), .d false (.int .i64 v3_2), .d false (.int .i64 v3_3)], .box none 44 [.d true (.int .i64 v3_4), .nil, .nil, .nil], .box none 44 [.d true (.int .i64 v3_5), .nil, .nil, .row 4], .row none true 25 v3_6, .row none true 42 v3_7]
noncomputable def Ym.r3 (k : Nat) (aB : List (List D)) (aC aA v3_4 v3_5 : Int) (v3_6 : List (List C)) (n : Nat) (v : Int × (List (List D)) × Int × Int × (List (List C))) : Option (Int × (List (List C)) × (List (List C)) × (List (List C)) × (List (List D)) × Int × Int) := (Ym.p k).lp (Zt Try.f80) 8 [1, 1, 1, 1, 1, 0, 1, 0] (Ym.d k aB aC aA) n (Ym.s3 v3_4 v3_5 v3_6 v)
theorem Ym.l3_eq (k : Nat) (aB : List (List D)) (aC aA v3_4 v3_5 : Int) (v3_6 : List (List C)) : ∀ n v, Ym.r3 k aB aC aA v3_4 v3_5 v3_6 n v = Zo (Ym.l3 k v3_4 v3_5 v3_6 (fun z0 z1 z2 z3 z4 z5 z6 => some (z0, z1, z2, z3, z4, z5, z6))) n v :=
  Zm (Ym.s3 v3_4 v3_5 v3_6) _ fun L3 v => by obtain ⟨v3_0, v3_1, v3_2, v3_3, v3_7⟩ := v; kernel_rfl
theorem Ym.l2_eq (k : Nat) (aB : List (List D)) (aC aA v2_4 v2_5 : Int) (v2_6 v2_7 : List (List C)) : ∀ n v, Ym.r2 k aB aC aA v2_4 v2_5 v2_6 v2_7 n v = Zo (Ym.l2 k v2_4 v2_5 v2_6 v2_7 (fun z0 z1 z2 z3 z4 z5 z6 => some (z0, z1, z2, z3, z4, z5, z6))) n v :=
  Zm (Ym.s2 v2_4 v2_5 v2_6 v2_7) _ fun L2 v => by obtain ⟨v2_0, v2_1, v2_2, v2_3, v2_8⟩ := v; kernel_rfl
theorem Ym.l1_eq (k : Nat) (aB : List (List D)) (aC aA aS aV : Int) (aX aY : List (List C)) : ∀ n v, Ym.r1 k aB aC aA aS aV aX aY n v = Zo (Ym.l1 k aS aV aX aY (fun z0 z1 z2 z3 z4 z5 z6 => some (z0, z1, z2, z3, z4, z5, z6))) n v :=
  Zm (Ym.s1 aS aV aX aY) _ fun L1 v => by obtain ⟨aT, aP, aU, aW, v1_8⟩ := v; kernel_rfl
theorem Ym.l0_eq (k : Nat) (aB : List (List D)) (aC aA aI aJ : Int) (aL aQ aR : List (List C)) : ∀ n v, Ym.r0 k aB aC aA aI aJ aL aQ aR n v = Zo (Ym.l0 k aI aJ aL aQ aR (fun z0 z1 z2 z3 z4 z5 z6 => some (z0, z1, z2, z3, z4, z5, z6))) n v :=
  Zm (Ym.s0 aI aJ aL aQ aR) _ fun L0 v => by obtain ⟨aD, aE, aF, aG, v0_9⟩ := v; kernel_rfl
theorem Ym.ok (k : Nat) : Za Try.prog 80 (Ym.e k) := Zh (Ym.p k) mix tyok Try.func80 ⟨YL.ok k, Yz.ok k, YF.ok k⟩ (by kernel_rfl) (fun aB aC aA => Eq.trans (b := Ym.m k aB aC aA (fun z0 z1 z2 z3 z4 z5 z6 => some (z0, z1, z2, z3, z4, z5, z6)) ((fun aI aJ aL aQ aR => Ym.r0 k aB aC aA aI aJ aL aQ aR k), (fun aS aV aX aY => Ym.r1 k aB aC aA aS aV aX aY k), (fun v2_4 v2_5 v2_6 v2_7 => Ym.r2 k aB aC aA v2_4 v2_5 v2_6 v2_7 k), (fun v3_4 v3_5 v3_6 => Ym.r3 k aB aC aA v3_4 v3_5 v3_6 k))) (by kernel_rfl) (congrArg (Ym.m k aB aC aA (fun z0 z1 z2 z3 z4 z5 z6 => some (z0, z1, z2, z3, z4, z5, z6))) (pair_eq (funext fun aI => funext fun aJ => funext fun aL => funext fun aQ => funext fun aR => funext fun v => Ym.l0_eq k aB aC aA aI aJ aL aQ aR k v) (pair_eq (funext fun aS => funext fun aV => funext fun aX => funext fun aY => funext fun v => Ym.l1_eq k aB aC aA aS aV aX aY k v) (pair_eq (funext fun v2_4 => funext fun v2_5 => funext fun v2_6 => funext fun v2_7 => funext fun v => Ym.l2_eq k aB aC aA v2_4 v2_5 v2_6 v2_7 k v) (funext fun v3_4 => funext fun v3_5 => funext fun v3_6 => funext fun v => Ym.l3_eq k aB aC aA v3_4 v3_5 v3_6 k v)))) :))
noncomputable def YK.g {β : Type} (k : Nat) (aB : List (List D)) (aC aA : Int) (K : ByteArray → (List (List D)) → Int → Int → Option β) : Option β :=
  Yz.f k aB aC aA 8 (fun y1 y2 y3 y4 => bif y1 then (YY.f k y2 y3 y4 ([[.str (⟨#[]⟩ : ByteArray)], [.str (⟨#[45, 97]⟩ : ByteArray)], [.str (⟨#[97, 45]⟩ : ByteArray)], [.str (⟨#[65]⟩ : ByteArray)], [.str (⟨#[97, 32, 98]⟩ : ByteArray)], [.str (⟨#[97, 98, 99, 100, 101, 102, 103, 104, 105, 106, 107, 108, 109, 110, 111, 112, 113, 114, 115, 116, 117]⟩ : ByteArray)], [.str (⟨#[255]⟩ : ByteArray)], [.str (⟨#[97, 61, 98]⟩ : ByteArray)]] : List (List D)) (fun y5 y6 y7 y8 => K y5 y6 y7 y8)) else (YH.f k y2 y3 y4 (fun y9 y10 y11 y12 => K y9 y10 y11 y12)))
noncomputable def YK.t (k : Nat) (aB : List (List D)) (aC aA : Int) : Option (ByteArray × (List (List D)) × Int × Int) := YK.g k aB aC aA (fun z0 z1 z2 z3 => some (z0, z1, z2, z3))
noncomputable def YK.f {β : Type} (k : Nat) (aB : List (List D)) (aC aA : Int) (K : ByteArray → (List (List D)) → Int → Int → Option β) : Option β := bd4 (YK.t k aB aC aA) K
noncomputable def YK.e (k : Nat) : Zk := ent [.box 178 [.l, .n, .n]] [1] [.s, .l, .n, .n] [9] false (YK.t k)
noncomputable def YK.p (k : Nat) : Pro := ⟨Try.prog, [(81, Yz.e k), (75, YY.e k), (84, YH.e k)], Zn [] false [], k⟩
theorem YK.ok (k : Nat) : Za Try.prog 155 (YK.e k) := Zh (YK.p k) mix tyok Try.func155 ⟨Yz.ok k, YY.ok k, YH.ok k⟩ (by kernel_rfl) (fun aB aC aA => by show _ = _; kernel_rfl)
noncomputable def Yd.l5 {β : Type} (k : Nat) (K : (List (List C)) → (List (List D)) → Int → Int → Option β) (L5 : ((List (List D)) × Int × Int × (List (List C))) → Option β) (v : (List (List D)) × Int × Int × (List (List C))) : Option β :=
  match v with
  | (v5_0, v5_1, v5_2, v5_3) => Yu.f k v5_0 v5_1 v5_2 2 (fun y101 y102 y103 y104 => bif (decide (((v5_3.length : Int) : Int) < (IntKind.wrap .i64 (8 + y101)))) then (Zc (v5_3.length + ([[.d (.int .i64 4), .d (.str (⟨#[97]⟩ : ByteArray)), .own ([] : List (List C))]] : List (List C)).length ≤ ZN) (L5 (y102, y103, y104, v5_3 ++ ([[.d (.int .i64 4), .d (.str (⟨#[97]⟩ : ByteArray)), .own ([] : List (List C))]] : List (List C))))) else (K v5_3 y102 y103 y104))
noncomputable def Yd.l4 {β : Type} (k : Nat) (K : (List (List C)) → (List (List D)) → Int → Int → Option β) (L4 : ((List (List D)) × Int × Int × (List (List C))) → Option β) (v : (List (List D)) × Int × Int × (List (List C))) : Option β :=
  match v with
  | (v4_0, v4_1, v4_2, v4_3) => Yu.f k v4_0 v4_1 v4_2 2 (fun y89 y90 y91 y92 => bif (decide (((v4_3.length : Int) : Int) < (IntKind.wrap .i64 (8 + y89)))) then (Zc (v4_3.length + ([[.d (.int .i64 4), .d (.str (⟨#[97]⟩ : ByteArray)), .own ([] : List (List C))]] : List (List C)).length ≤ ZN) (L4 (y90, y91, y92, v4_3 ++ ([[.d (.int .i64 4), .d (.str (⟨#[97]⟩ : ByteArray)), .own ([] : List (List C))]] : List (List C))))) else (K v4_3 y90 y91 y92))
noncomputable def Yd.l3 {β : Type} (k : Nat) (K : (List (List C)) → (List (List D)) → Int → Int → Option β) (L3 : ((List (List D)) × Int × Int × (List (List C))) → Option β) (v : (List (List D)) × Int × Int × (List (List C))) : Option β :=
  match v with
  | (v3_0, v3_1, v3_2, v3_3) => Yu.f k v3_0 v3_1 v3_2 2 (fun y77 y78 y79 y80 => bif (decide (((v3_3.length : Int) : Int) < (IntKind.wrap .i64 (8 + y77)))) then (Zc (v3_3.length + ([[.d (.int .i64 4), .d (.str (⟨#[97]⟩ : ByteArray)), .own ([] : List (List C))]] : List (List C)).length ≤ ZN) (L3 (y78, y79, y80, v3_3 ++ ([[.d (.int .i64 4), .d (.str (⟨#[97]⟩ : ByteArray)), .own ([] : List (List C))]] : List (List C))))) else (K v3_3 y78 y79 y80))
noncomputable def Yd.l2 {β : Type} (k : Nat) (K : (List (List C)) → (List (List D)) → Int → Int → Option β) (L2 : ((List (List D)) × Int × Int × (List (List C))) → Option β) (v : (List (List D)) × Int × Int × (List (List C))) : Option β :=
  match v with
  | (v2_0, v2_1, v2_2, v2_3) => Yu.f k v2_0 v2_1 v2_2 2 (fun y65 y66 y67 y68 => bif (decide (((v2_3.length : Int) : Int) < (IntKind.wrap .i64 (8 + y65)))) then (Zc (v2_3.length + ([[.d (.int .i64 4), .d (.str (⟨#[97]⟩ : ByteArray)), .own ([] : List (List C))]] : List (List C)).length ≤ ZN) (L2 (y66, y67, y68, v2_3 ++ ([[.d (.int .i64 4), .d (.str (⟨#[97]⟩ : ByteArray)), .own ([] : List (List C))]] : List (List C))))) else (K v2_3 y66 y67 y68))
noncomputable def Yd.l1 {β : Type} (k : Nat) (K : (List (List C)) → (List (List D)) → Int → Int → Option β) (L1 : ((List (List D)) × Int × Int × (List (List C))) → Option β) (v : (List (List D)) × Int × Int × (List (List C))) : Option β :=
  match v with
  | (aT, aP, aU, aW) => Yu.f k aT aP aU 2 (fun y45 y46 y47 y48 => bif (decide (((aW.length : Int) : Int) < (IntKind.wrap .i64 (8 + y45)))) then (Zc (aW.length + ([[.d (.int .i64 4), .d (.str (⟨#[97]⟩ : ByteArray)), .own ([] : List (List C))]] : List (List C)).length ≤ ZN) (L1 (y46, y47, y48, aW ++ ([[.d (.int .i64 4), .d (.str (⟨#[97]⟩ : ByteArray)), .own ([] : List (List C))]] : List (List C))))) else (K aW y46 y47 y48))
noncomputable def Yd.l0 {β : Type} (k : Nat) (K : (List (List C)) → (List (List D)) → Int → Int → Option β) (L0 : ((List (List D)) × Int × Int × (List (List C))) → Option β) (v : (List (List D)) × Int × Int × (List (List C))) : Option β :=
  match v with
  | (aD, aE, aF, aG) => Yu.f k aD aE aF 2 (fun y29 y30 y31 y32 => bif (decide (((aG.length : Int) : Int) < (IntKind.wrap .i64 (8 + y29)))) then (Zc (aG.length + ([[.d (.int .i64 4), .d (.str (⟨#[97]⟩ : ByteArray)), .own ([] : List (List C))]] : List (List C)).length ≤ ZN) (L0 (y30, y31, y32, aG ++ ([[.d (.int .i64 4), .d (.str (⟨#[97]⟩ : ByteArray)), .own ([] : List (List C))]] : List (List C))))) else (K aG y30 y31 y32))
noncomputable def Yd.m {β : Type} (k : Nat) (aB : List (List D)) (aC aA : Int) (K : (List (List C)) → (List (List D)) → Int → Int → Option β) (F : (((List (List D)) × Int × Int × (List (List C))) → Option β) × (((List (List D)) × Int × Int × (List (List C))) → Option β) × (((List (List D)) × Int × Int × (List (List C))) → Option β) × (((List (List D)) × Int × Int × (List (List C))) → Option β) × (((List (List D)) × Int × Int × (List (List C))) → Option β) × (((List (List D)) × Int × Int × (List (List C))) → Option β)) : Option β :=
  YF.f k aB aC aA 5 (fun y1 y2 y3 y4 => bif (decide (((y1.length : Int) : Int) > 0)) then (Yz.f k y2 y3 y4 5 (fun y5 y6 y7 y8 => bif y5 then (Yu.f k y6 y7 y8 (y1.length : Int) (fun y9 y10 y11 y12 => Yu.f k y10 y11 y12 3 (fun y13 y14 y15 y16 => bif ((y13 : Int) == 0) then (Yu.f k y14 y15 y16 7 (fun y17 y18 y19 y20 => Zc ((0 : Int) ≤ y9 ∧ y9 < (y1.length : Int)) (Zc (Int.toNat y9 < y1.length) (Yz.f k y18 y19 y20 40 (fun y21 y22 y23 y24 => bif y21 then (F.1 (y22, y23, y24, y1.modify (Int.toNat y9) fun c => Zq c 0 [.d (.int .i64 y17)])) else (K (y1.modify (Int.toNat y9) fun c => Zq c 0 [.d (.int .i64 y17)]) y22 y23 y24)))))) else (bif ((y13 : Int) == 1) then (YK.f k y14 y15 y16 (fun y33 y34 y35 y36 => Zc ((0 : Int) ≤ y9 ∧ y9 < (y1.length : Int)) (Zc (Int.toNat y9 < y1.length) (Yz.f k y34 y35 y36 40 (fun y37 y38 y39 y40 => bif y37 then (F.2.1 (y38, y39, y40, y1.modify (Int.toNat y9) fun c => Zq c 1 [.d (.str y33)])) else (K (y1.modify (Int.toNat y9) fun c => Zq c 1 [.d (.str y33)]) y38 y39 y40)))))) else (bif ((y13 : Int) == 2) then (Zc ((0 : Int) ≤ y9 ∧ y9 < (y1.length : Int)) (ZaG y1 (Int.toNat y9) fun c49 => Zas (c49.drop 2) fun c50 r51 => dSl c50.imm fun y52 => Zc (ZaZ 1 y52) (Zc (([] : List (List C)).length + (y52.map (·.map C.d)).length ≤ ZN) (YK.f k y14 y15 y16 (fun y53 y54 y55 y56 => Zc ((([] : List (List C)) ++ (y52.map (·.map C.d))).length + ([[.d (.str y53)]] : List (List C)).length ≤ ZN) (Zc ((0 : Int) ≤ y9 ∧ y9 < (y1.length : Int)) (Zc (Int.toNat y9 < y1.length) (Yz.f k y54 y55 y56 40 (fun y57 y58 y59 y60 => let J0 := ((([] : List (List C)) ++ (y52.map (·.map C.d))) ++ ([[.d (.str y53)]] : List (List C))); bif y57 then (F.2.2.1 (y58, y59, y60, y1.modify (Int.toNat y9) fun c => Zq c 2 [.own J0])) else (K (y1.modify (Int.toNat y9) fun c => Zq c 2 [.own J0]) y58 y59 y60)))))))))) else (Yz.f k y14 y15 y16 40 (fun y69 y70 y71 y72 => bif y69 then (F.2.2.2.1 (y70, y71, y72, y1)) else (K y1 y70 y71 y72)))))))) else (Yz.f k y6 y7 y8 40 (fun y81 y82 y83 y84 => bif y81 then (F.2.2.2.2.1 (y82, y83, y84, y1)) else (K y1 y82 y83 y84))))) else (Yz.f k y2 y3 y4 40 (fun y93 y94 y95 y96 => bif y93 then (F.2.2.2.2.2 (y94, y95, y96, y1)) else (K y1 y94 y95 y96))))
noncomputable def Yd.g {β : Type} (k : Nat) (aB : List (List D)) (aC aA : Int) (K : (List (List C)) → (List (List D)) → Int → Int → Option β) : Option β := Yd.m k aB aC aA K ((Zo (Yd.l0 k K) k), (Zo (Yd.l1 k K) k), (Zo (Yd.l2 k K) k), (Zo (Yd.l3 k K) k), (Zo (Yd.l4 k K) k), (Zo (Yd.l5 k K) k))
noncomputable def Yd.t (k : Nat) (aB : List (List D)) (aC aA : Int) : Option ((List (List C)) × (List (List D)) × Int × Int) := Yd.g k aB aC aA (fun z0 z1 z2 z3 => some (z0, z1, z2, z3))
noncomputable def Yd.f {β : Type} (k : Nat) (aB : List (List D)) (aC aA : Int) (K : (List (List C)) → (List (List D)) → Int → Int → Option β) : Option β := bd4 (Yd.t k aB aC aA) K
noncomputable def Yd.e (k : Nat) : Zk := ent [.box 178 [.l, .n, .n]] [1] [.o, .l, .n, .n] [41] false (Yd.t k)
noncomputable def Yd.p (k : Nat) : Pro := ⟨Try.prog, [(154, YF.e k), (81, Yz.e k), (112, Yu.e k), (155, YK.e k)], Zn [(12, kp [0, 3])] false [], k⟩
noncomputable def Yd.d (k : Nat) (aB : List (List D)) (aC aA : Int) : Ex → St → Option ((List (List C)) × (List (List D)) × Int × Int) := (Yd.p k).fin Try.f156 [.box [.d (.sl aB), .d (.int .i64 aC), .d (.int .i64 aA)]] [1] [.o, .l, .n, .n]
noncomputable def Yd.s0 (v : (List (List D)) × Int × Int × (List (List C))) : St :=
  match v with
  | (aD, aE, aF, aG) => ZX 66 [(0, .bp 0 0), (3, .row 1)] [.box (some 0) 178 [.d false (.sl aD), .d false (.int .i64 aE), .d false (.int .i64 aF)], .row none true 41 aG]
noncomputable def Yd.r0 (k : Nat) (aB : List (List D)) (aC aA : Int) (n : Nat) (v : (List (List D)) × Int × Int × (List (List C))) : Option ((List (List C)) × (List (List D)) × Int × Int) := (Yd.p k).lp (Zt Try.f156) 12 [1, 1, 1, 0, 1, 0, 0] (Yd.d k aB aC aA) n (Yd.s0 v)
noncomputable def Yd.s1 (v : (List (List D)) × Int × Int × (List (List C))) : St :=
  match v with
  | (aT, aP, aU, aW) => ZX 66 [(0, .bp 0 0), (3, .row 1)] [.box (some 0) 178 [.d false (.sl aT), .d false (.int .i64 aP), .d false (.int .i64 aU)], .row none true 41 aW]
noncomputable def Yd.r1 (k : Nat) (aB : List (List D)) (aC aA : Int) (n : Nat) (v : (List (List D)) × Int × Int × (List (List C))) : Option ((List (List C)) × (List (List D)) × Int × Int) := (Yd.p k).lp (Zt Try.f156) 12 [1, 1, 1, 0, 1, 0, 0] (Yd.d k aB aC aA) n (Yd.s1 v)
noncomputable def Yd.s2 (v : (List (List D)) × Int × Int × (List (List C))) : St :=
  match v with
  | (v2_0, v2_1, v2_2, v2_3) => ZX 66 [(0, .bp 0 0), (3, .row 1)] [.box (some 0) 178 [.d false (.sl v2_0), .d false (.int .i64 v2_1), .d false (.int .i64 v2_2)], .row none true 41 v2_3]
noncomputable def Yd.r2 (k : Nat) (aB : List (List D)) (aC aA : Int) (n : Nat) (v : (List (List D)) × Int × Int × (List (List C))) : Option ((List (List C)) × (List (List D)) × Int × Int) := (Yd.p k).lp (Zt Try.f156) 12 [1, 1, 1, 0, 1, 0, 0] (Yd.d k aB aC aA) n (Yd.s2 v)
noncomputable def Yd.s3 (v : (List (List D)) × Int × Int × (List (List C))) : St :=
  match v with
  | (v3_0, v3_1, v3_2, v3_3) => ZX 66 [(0, .bp 0 0), (3, .row 1)] [.box (some 0) 178 [.d false (.sl v3_0), .d false (.int .i64 v3_1), .d false (.int .i64 v3_2)], .row none true 41 v3_3]
noncomputable def Yd.r3 (k : Nat) (aB : List (List D)) (aC aA : Int) (n : Nat) (v : (List (List D)) × Int × Int × (List (List C))) : Option ((List (List C)) × (List (List D)) × Int × Int) := (Yd.p k).lp (Zt Try.f156) 12 [1, 1, 1, 0, 1, 0, 0] (Yd.d k aB aC aA) n (Yd.s3 v)
noncomputable def Yd.s4 (v : (List (List D)) × Int × Int × (List (List C))) : St :=
  match v with
  | (v4_0, v4_1, v4_2, v4_3) => ZX 66 [(0, .bp 0 0), (3, .row 1)] [.box (some 0) 178 [.d false (.sl v4_0), .d false (.int .i64 v4_1), .d false (.int .i64 v4_2)], .row none true 41 v4_3]
noncomputable def Yd.r4 (k : Nat) (aB : List (List D)) (aC aA : Int) (n : Nat) (v : (List (List D)) × Int × Int × (List (List C))) : Option ((List (List C)) × (List (List D)) × Int × Int) := (Yd.p k).lp (Zt Try.f156) 12 [1, 1, 1, 0, 1, 0, 0] (Yd.d k aB aC aA) n (Yd.s4 v)
noncomputable def Yd.s5 (v : (List (List D)) × Int × Int × (List (List C))) : St :=
  match v with
  | (v5_0, v5_1, v5_2, v5_3) => ZX 66 [(0, .bp 0 0), (3, .row 1)] [.box (some 0) 178 [.d false (.sl v5_0), .d false (.int .i64 v5_1), .d false (.int .i64 v5_2)], .row none true 41 v5_3]
noncomputable def Yd.r5 (k : Nat) (aB : List (List D)) (aC aA : Int) (n : Nat) (v : (List (List D)) × Int × Int × (List (List C))) : Option ((List (List C)) × (List (List D)) × Int × Int) := (Yd.p k).lp (Zt Try.f156) 12 [1, 1, 1, 0, 1, 0, 0] (Yd.d k aB aC aA) n (Yd.s5 v)
theorem Yd.l5_eq (k : Nat) (aB : List (List D)) (aC aA : Int) : ∀ n v, Yd.r5 k aB aC aA n v = Zo (Yd.l5 k (fun z0 z1 z2 z3 => some (z0, z1, z2, z3))) n v :=
  Zm (Yd.s5) _ fun L5 v => by obtain ⟨v5_0, v5_1, v5_2, v5_3⟩ := v; kernel_rfl
theorem Yd.l4_eq (k : Nat) (aB : List (List D)) (aC aA : Int) : ∀ n v, Yd.r4 k aB aC aA n v = Zo (Yd.l4 k (fun z0 z1 z2 z3 => some (z0, z1, z2, z3))) n v :=
  Zm (Yd.s4) _ fun L4 v => by obtain ⟨v4_0, v4_1, v4_2, v4_3⟩ := v; kernel_rfl
theorem Yd.l3_eq (k : Nat) (aB : List (List D)) (aC aA : Int) : ∀ n v, Yd.r3 k aB aC aA n v = Zo (Yd.l3 k (fun z0 z1 z2 z3 => some (z0, z1, z2, z3))) n v :=
  Zm (Yd.s3) _ fun L3 v => by obtain ⟨v3_0, v3_1, v3_2, v3_3⟩ := v; kernel_rfl
theorem Yd.l2_eq (k : Nat) (aB : List (List D)) (aC aA : Int) : ∀ n v, Yd.r2 k aB aC aA n v = Zo (Yd.l2 k (fun z0 z1 z2 z3 => some (z0, z1, z2, z3))) n v :=
  Zm (Yd.s2) _ fun L2 v => by obtain ⟨v2_0, v2_1, v2_2, v2_3⟩ := v; kernel_rfl
theorem Yd.l1_eq (k : Nat) (aB : List (List D)) (aC aA : Int) : ∀ n v, Yd.r1 k aB aC aA n v = Zo (Yd.l1 k (fun z0 z1 z2 z3 => some (z0, z1, z2, z3))) n v :=
  Zm (Yd.s1) _ fun L1 v => by obtain ⟨aT, aP, aU, aW⟩ := v; kernel_rfl
theorem Yd.l0_eq (k : Nat) (aB : List (List D)) (aC aA : Int) : ∀ n v, Yd.r0 k aB aC aA n v = Zo (Yd.l0 k (fun z0 z1 z2 z3 => some (z0, z1, z2, z3))) n v :=
  Zm (Yd.s0) _ fun L0 v => by obtain ⟨aD, aE, aF, aG⟩ := v; kernel_rfl
theorem Yd.ok (k : Nat) : Za Try.prog 156 (Yd.e k) := Zh (Yd.p k) mix tyok Try.func156 ⟨YF.ok k, Yz.ok k, Yu.ok k, YK.ok k⟩ (by kernel_rfl) (fun aB aC aA => Eq.trans (b := Yd.m k aB aC aA (fun z0 z1 z2 z3 => some (z0, z1, z2, z3)) ((Yd.r0 k aB aC aA k), (Yd.r1 k aB aC aA k), (Yd.r2 k aB aC aA k), (Yd.r3 k aB aC aA k), (Yd.r4 k aB aC aA k), (Yd.r5 k aB aC aA k))) (by kernel_rfl) (congrArg (Yd.m k aB aC aA (fun z0 z1 z2 z3 => some (z0, z1, z2, z3))) (pair_eq (funext fun v => Yd.l0_eq k aB aC aA k v) (pair_eq (funext fun v => Yd.l1_eq k aB aC aA k v) (pair_eq (funext fun v => Yd.l2_eq k aB aC aA k v) (pair_eq (funext fun v => Yd.l3_eq k aB aC aA k v) (pair_eq (funext fun v => Yd.l4_eq k aB aC aA k v) (funext fun v => Yd.l5_eq k aB aC aA k v)))))) :))
noncomputable def Y0.g {β : Type} (k : Nat) (aB : List (List D)) (aC aA aO : Int) (aM aK aN : List (List D)) (K : Int → (List (List D)) → (List (List D)) → (List (List D)) → (List (List D)) → Int → Int → Option β) : Option β :=
  Yu.f k aB aC aA 8 (fun y1 y2 y3 y4 => bif ((y1 : Int) == 0) then (YL.f k y2 y3 y4 ([[.int .i64 (-1)], [.int .i64 10000], [.int .i64 10001]] : List (List D)) (fun y5 y6 y7 y8 => K y5 aM aK aN y6 y7 y8)) else (bif ((y1 : Int) == 1) then (K aO aM ([[.str (⟨#[98]⟩ : ByteArray)], [.str (⟨#[97]⟩ : ByteArray)]] : List (List D)) aN y2 y3 y4) else (bif ((y1 : Int) == 2) then (Zc (ZaZ 2 aN) (Zc (([] : List (List C)).length + (aN.map (·.map C.d)).length ≤ ZN) (YK.f k y2 y3 y4 (fun y9 y10 y11 y12 => YL.f k y10 y11 y12 ([[.int .i64 1], [.int .i64 (-1)], [.int .i64 1001]] : List (List D)) (fun y13 y14 y15 y16 => Zc ((([] : List (List C)) ++ (aN.map (·.map C.d))).length + ([[.d (.str y9), .d (.int .i64 y13)]] : List (List C)).length ≤ ZN) (K aO aM aK (C.immRows ((([] : List (List C)) ++ (aN.map (·.map C.d))) ++ ([[.d (.str y9), .d (.int .i64 y13)]] : List (List C)))) y14 y15 y16)))))) else (bif ((y1 : Int) == 3) then (Yd.f k y2 y3 y4 (fun y17 y18 y19 y20 => K aO (C.immRows y17) aK aN y18 y19 y20)) else (K aO aM aK aN y2 y3 y4)))))
noncomputable def Y0.t (k : Nat) (aB : List (List D)) (aC aA aO : Int) (aM aK aN : List (List D)) : Option (Int × (List (List D)) × (List (List D)) × (List (List D)) × (List (List D)) × Int × Int) := Y0.g k aB aC aA aO aM aK aN (fun z0 z1 z2 z3 z4 z5 z6 => some (z0, z1, z2, z3, z4, z5, z6))
noncomputable def Y0.f {β : Type} (k : Nat) (aB : List (List D)) (aC aA aO : Int) (aM aK aN : List (List D)) (K : Int → (List (List D)) → (List (List D)) → (List (List D)) → (List (List D)) → Int → Int → Option β) : Option β := match Y0.t k aB aC aA aO aM aK aN with | some (z0, z1, z2, z3, z4, z5, z6) => K z0 z1 z2 z3 z4 z5 z6 | none => none
noncomputable def Y0.e (k : Nat) : Zk := ent [.box 178 [.l, .n, .n], .agg [.n, .l, .l, .l]] [4] [.n, .l, .l, .l, .l, .n, .n] [44] true (Y0.t k)
noncomputable def Y0.p (k : Nat) : Pro := ⟨Try.prog, [(112, Yu.e k), (118, YL.e k), (155, YK.e k), (156, Yd.e k)], Zn [] true [[false, true, true, true]], k⟩
theorem Y0.ok (k : Nat) : Za Try.prog 82 (Y0.e k) := Zh (Y0.p k) mix tyok Try.func82 ⟨Yu.ok k, YL.ok k, YK.ok k, Yd.ok k⟩ (by kernel_rfl) (fun aB aC aA aO aM aK aN => by show _ = _; kernel_rfl)
noncomputable def YR.g {β : Type} (k : Nat) (aB : List (List D)) (aC aA : Int) (a1 : ByteArray) (K : ByteArray → (List (List C)) → (List (List C)) → Int → (List (List D)) → Int → Int → Option β) : Option β :=
  YD.f k aB aC aA 4 (fun y1 y2 y3 y4 => YL.f k y2 y3 y4 ([[.int .i64 0], [.int .i64 1], [.int .i64 3], [.int .i64 5], [.int .i64 8], [.int .i64 20], [.int .i64 100]] : List (List D)) (fun y5 y6 y7 y8 => Yz.f k y6 y7 y8 4 (fun y9 y10 y11 y12 => bif y9 then (YY.f k y10 y11 y12 ([[.str (⟨#[103, 111, 108, 100]⟩ : ByteArray)], [.str (⟨#[116, 105, 101, 114]⟩ : ByteArray)]] : List (List D)) (fun y13 y14 y15 y16 => K a1 y1 ([[.d (.str y13)]] : List (List C)) y5 y14 y15 y16)) else (K a1 y1 ([] : List (List C)) y5 y10 y11 y12))))
noncomputable def YR.t (k : Nat) (aB : List (List D)) (aC aA : Int) (a1 : ByteArray) : Option (ByteArray × (List (List C)) × (List (List C)) × Int × (List (List D)) × Int × Int) := YR.g k aB aC aA a1 (fun z0 z1 z2 z3 z4 z5 z6 => some (z0, z1, z2, z3, z4, z5, z6))
noncomputable def YR.f {β : Type} (k : Nat) (aB : List (List D)) (aC aA : Int) (a1 : ByteArray) (K : ByteArray → (List (List C)) → (List (List C)) → Int → (List (List D)) → Int → Int → Option β) : Option β := match YR.t k aB aC aA a1 with | some (z0, z1, z2, z3, z4, z5, z6) => K z0 z1 z2 z3 z4 z5 z6 | none => none
noncomputable def YR.e (k : Nat) : Zk := ent [.box 178 [.l, .n, .n], .d .s] [4] [.s, .o, .o, .n, .l, .n, .n] [47] false (YR.t k)
noncomputable def YR.p (k : Nat) : Pro := ⟨Try.prog, [(157, YD.e k), (118, YL.e k), (81, Yz.e k), (75, YY.e k)], Zn [] false [], k⟩
theorem YR.ok (k : Nat) : Za Try.prog 83 (YR.e k) := Zh (YR.p k) mix tyok Try.func83 ⟨YD.ok k, YL.ok k, Yz.ok k, YY.ok k⟩ (by kernel_rfl) (fun aB aC aA a1 => by show _ = _; kernel_rfl)
noncomputable def YM.g {β : Type} (k : Nat) (a0 : List (List D)) (K : Int → (List (List D)) → (List (List D)) → (List (List D)) → ByteArray → (List (List C)) → (List (List C)) → Int → Option β) : Option β :=
  YI.f k a0 (fun y1 y2 y3 => Ym.f k y1 y2 y3 (fun y4 y5 y6 y7 y8 y9 y10 => Yz.f k y8 y9 y10 10 (fun y11 y12 y13 y14 => bif y11 then (Y0.f k y12 y13 y14 y4 (C.immRows y5) (C.immRows y6) (C.immRows y7) (fun y15 y16 y17 y18 y19 y20 y21 => YH.f k y19 y20 y21 (fun y22 y23 y24 y25 => YR.f k y23 y24 y25 y22 (fun y26 y27 y28 y29 y30 y31 y32 => K y15 y16 y17 y18 y26 y27 y28 y29)))) else (YH.f k y12 y13 y14 (fun y33 y34 y35 y36 => YR.f k y34 y35 y36 y33 (fun y37 y38 y39 y40 y41 y42 y43 => K y4 (C.immRows y5) (C.immRows y6) (C.immRows y7) y37 y38 y39 y40))))))
noncomputable def YM.t (k : Nat) (a0 : List (List D)) : Option (Int × (List (List D)) × (List (List D)) × (List (List D)) × ByteArray × (List (List C)) × (List (List C)) × Int) := YM.g k a0 (fun z0 z1 z2 z3 z4 z5 z6 z7 => some (z0, z1, z2, z3, z4, z5, z6, z7))
noncomputable def YM.f {β : Type} (k : Nat) (a0 : List (List D)) (K : Int → (List (List D)) → (List (List D)) → (List (List D)) → ByteArray → (List (List C)) → (List (List C)) → Int → Option β) : Option β := match YM.t k a0 with | some (z0, z1, z2, z3, z4, z5, z6, z7) => K z0 z1 z2 z3 z4 z5 z6 z7 | none => none
noncomputable def YM.e (k : Nat) : Zk := ent [.d .l] [4, 4] [.n, .l, .l, .l, .s, .o, .o, .n] [44, 47] true (YM.t k)
noncomputable def YM.p (k : Nat) : Pro := ⟨Try.prog, [(58, YI.e k), (80, Ym.e k), (81, Yz.e k), (82, Y0.e k), (84, YH.e k), (83, YR.e k)], Zn [] true [[false, true, true, true], [false, false, false, false]], k⟩
theorem YM.ok (k : Nat) : Za Try.prog 24 (YM.e k) := Zh (YM.p k) mix tyok Try.func24 ⟨YI.ok k, Ym.ok k, Yz.ok k, Y0.ok k, YH.ok k, YR.ok k⟩ (by kernel_rfl) (fun a0 => by show _ = _; kernel_rfl)
noncomputable def YW.g {β : Type} (k : Nat) (a0 a1 a2 : Int) (K : Bool → Option β) : Option β :=
  bif (decide ((a0 : Int) ≥ a1)) then (K (decide ((a0 : Int) ≤ a2))) else (K false)
noncomputable def YW.t (k : Nat) (a0 a1 a2 : Int) : Option (Bool) := YW.g k a0 a1 a2 (fun z0 => some z0)
noncomputable def YW.f {β : Type} (k : Nat) (a0 a1 a2 : Int) (K : Bool → Option β) : Option β := bd1 (YW.t k a0 a1 a2) K
noncomputable def YW.e (k : Nat) : Zk := ent [.d .n, .d .n, .d .n] [1] [.b] [4] false (YW.t k)
noncomputable def YW.p (k : Nat) : Pro := ⟨Try.prog, [], Zn [] false [], k⟩
theorem YW.ok (k : Nat) : Za Try.prog 71 (YW.e k) := Zh (YW.p k) mix tyok Try.func71 trivial (by kernel_rfl) (fun a0 a1 a2 => by show _ = _; kernel_rfl)
noncomputable def Yx.l0 {β : Type} (k : Nat) (aD : ByteArray) (aE : Int) (K : Bool → Option β) (L0 : Int → Option β) (v : Int) : Option β :=
  match v with
  | aF => bif (decide ((aF : Int) < aE)) then (Za0 aD aF fun b5 => let J1 := (bif ((b5 : Int) != 45) then (K false) else (L0 (IntKind.wrap .i64 (aF + 1)))); let J0 := (bif (decide ((b5 : Int) < 48)) then J1 else (bif (decide ((b5 : Int) > 57)) then J1 else (L0 (IntKind.wrap .i64 (aF + 1))))); bif (decide ((b5 : Int) < 97)) then J0 else (bif (decide ((b5 : Int) > 122)) then J0 else (L0 (IntKind.wrap .i64 (aF + 1))))) else (YW.f k (aD.size : Int) 1 20 (fun y6 => bif y6 then (Za0 aD 0 fun b7 => bif ((b7 : Int) != 45) then (Za0 aD (IntKind.wrap .i64 ((aD.size : Int) - 1)) fun b8 => K ((b8 : Int) != 45)) else (K false)) else (K false)))
noncomputable def Yx.m {β : Type} (k : Nat) (a0 : ByteArray) (K : Bool → Option β) (F : (ByteArray → Int → Int → Option β)) : Option β :=
  F a0 (a0.size : Int) (0)
noncomputable def Yx.g {β : Type} (k : Nat) (a0 : ByteArray) (K : Bool → Option β) : Option β :=
  Zo (Yx.l0 k a0 (a0.size : Int) K) k (0)
noncomputable def Yx.t (k : Nat) (a0 : ByteArray) : Option (Bool) := Yx.g k a0 (fun z0 => some z0)
noncomputable def Yx.f {β : Type} (k : Nat) (a0 : ByteArray) (K : Bool → Option β) : Option β := bd1 (Yx.t k a0) K
noncomputable def Yx.e (k : Nat) : Zk := ent [.d .s] [1] [.b] [4] false (Yx.t k)
noncomputable def Yx.p (k : Nat) : Pro := ⟨Try.prog, [(71, YW.e k)], Zn [(2, kp [0, 6, 7])] false [], k⟩
noncomputable def Yx.d (k : Nat) (a0 : ByteArray) : Ex → St → Option (Bool) := (Yx.p k).fin Try.f73 [.d (.str a0)] [1] [.b]
noncomputable def Yx.s0 (aD : ByteArray) (aE v : Int) : St :=
  match v with
  | aF => ZX 48 [(0, .d false (.str aD)), (6, .d true (.int .i64 aE)), (7, .d true (.int .i64 aF))] []
noncomputable def Yx.r0 (k : Nat) (a0 aD : ByteArray) (aE : Int) (n : Nat) (v : Int) : Option (Bool) := (Yx.p k).lp (Zt Try.f73) 2 [1, 0, 1, 0] (Yx.d k a0) n (Yx.s0 aD aE v)
theorem Yx.l0_eq (k : Nat) (a0 aD : ByteArray) (aE : Int) : ∀ n v, Yx.r0 k a0 aD aE n v = Zo (Yx.l0 k aD aE (fun z0 => some z0)) n v :=
  Zm (Yx.s0 aD aE) _ fun L0 v => by kernel_rfl
theorem Yx.ok (k : Nat) : Za Try.prog 73 (Yx.e k) := Zh (Yx.p k) mix tyok Try.func73 (YW.ok k) (by kernel_rfl) (fun a0 => Eq.trans (b := Yx.m k a0 (fun z0 => some z0) (fun aD aE => Yx.r0 k a0 aD aE k)) (by kernel_rfl) (congrArg (Yx.m k a0 (fun z0 => some z0)) (funext fun aD => funext fun aE => funext fun v => Yx.l0_eq k a0 aD aE k v) :))
noncomputable def YU.g {β : Type} (k : Nat) (a0 : Int) (K : Bool → Option β) : Option β :=
  YW.f k a0 0 10000 (fun y1 => K y1)
noncomputable def YU.t (k : Nat) (a0 : Int) : Option (Bool) := YU.g k a0 (fun z0 => some z0)
noncomputable def YU.f {β : Type} (k : Nat) (a0 : Int) (K : Bool → Option β) : Option β := bd1 (YU.t k a0) K
noncomputable def YU.e (k : Nat) : Zk := ent [.d .n] [1] [.b] [4] false (YU.t k)
noncomputable def YU.p (k : Nat) : Pro := ⟨Try.prog, [(71, YW.e k)], Zn [] false [], k⟩
theorem YU.ok (k : Nat) : Za Try.prog 88 (YU.e k) := Zh (YU.p k) mix tyok Try.func88 (YW.ok k) (by kernel_rfl) (fun a0 => by show _ = _; kernel_rfl)
noncomputable def Ys.l0 {β : Type} (k : Nat) (aD : List (List D)) (aE : Int) (aF : List (List D)) (aG : Int) (K : Bool → Option β) (L0 : Int → Option β) (v : Int) : Option β :=
  match v with
  | aI => bif (decide ((aI : Int) < aG)) then (atR aF aI [.s] fun x13 => (Yx.f k x13 (fun y14 => bif (!y14) then (K false) else (bif (decide ((aI : Int) > 0)) then (atR aD (IntKind.wrap .i64 (aI - 1)) [.s] fun x18 => (bif (!(ZbO x18 x13)) then (K false) else (L0 (IntKind.wrap .i64 (aI + 1))))) else (L0 (IntKind.wrap .i64 (aI + 1))))))) else (K (decide (((aD.length : Int) : Int) ≤ aE)))
noncomputable def Ys.m {β : Type} (k : Nat) (a0 : List (List D)) (a1 : Int) (K : Bool → Option β) (F : ((List (List D)) → Int → (List (List D)) → Int → Int → Option β)) : Option β :=
  F a0 a1 a0 (a0.length : Int) (0)
noncomputable def Ys.g {β : Type} (k : Nat) (a0 : List (List D)) (a1 : Int) (K : Bool → Option β) : Option β :=
  Zo (Ys.l0 k a0 a1 a0 (a0.length : Int) K) k (0)
noncomputable def Ys.t (k : Nat) (a0 : List (List D)) (a1 : Int) : Option (Bool) := Ys.g k a0 a1 (fun z0 => some z0)
noncomputable def Ys.f {β : Type} (k : Nat) (a0 : List (List D)) (a1 : Int) (K : Bool → Option β) : Option β := bd1 (Ys.t k a0 a1) K
noncomputable def Ys.e (k : Nat) : Zk := ent [.d .l, .d .n] [1] [.b] [4] false (Ys.t k)
noncomputable def Ys.p (k : Nat) : Pro := ⟨Try.prog, [(73, Yx.e k)], Zn [(2, kp [0, 1, 7, 8, 9])] false [], k⟩
noncomputable def Ys.d (k : Nat) (a0 : List (List D)) (a1 : Int) : Ex → St → Option (Bool) := (Ys.p k).fin Try.f90 [.d (.sl a0), .d (.int .i64 a1)] [1] [.b]
noncomputable def Ys.s0 (aD : List (List D)) (aE : Int) (aF : List (List D)) (aG v : Int) : St :=
  match v with
  | aI => ZX 35 [(0, .d false (.sl aD)), (1, .d false (.int .i64 aE)), (7, .d false (.sl aF)), (8, .d true (.int .i64 aG)), (9, .d true (.int .i64 aI))] []
noncomputable def Ys.r0 (k : Nat) (a0 : List (List D)) (a1 : Int) (aD : List (List D)) (aE : Int) (aF : List (List D)) (aG : Int) (n : Nat) (v : Int) : Option (Bool) := (Ys.p k).lp (Zt Try.f90) 2 [1, 0, 1, 0] (Ys.d k a0 a1) n (Ys.s0 aD aE aF aG v)
theorem Ys.l0_eq (k : Nat) (a0 : List (List D)) (a1 : Int) (aD : List (List D)) (aE : Int) (aF : List (List D)) (aG : Int) : ∀ n v, Ys.r0 k a0 a1 aD aE aF aG n v = Zo (Ys.l0 k aD aE aF aG (fun z0 => some z0)) n v :=
  Zm (Ys.s0 aD aE aF aG) _ fun L0 v => by kernel_rfl
theorem Ys.ok (k : Nat) : Za Try.prog 90 (Ys.e k) := Zh (Ys.p k) mix tyok Try.func90 (Yx.ok k) (by kernel_rfl) (fun a0 a1 => Eq.trans (b := Ys.m k a0 a1 (fun z0 => some z0) (fun aD aE aF aG => Ys.r0 k a0 a1 aD aE aF aG k)) (by kernel_rfl) (congrArg (Ys.m k a0 a1 (fun z0 => some z0)) (funext fun aD => funext fun aE => funext fun aF => funext fun aG => funext fun v => Ys.l0_eq k a0 a1 aD aE aF aG k v) :))
noncomputable def Y2.g {β : Type} (k : Nat) (aB : Int) (aC : ByteArray) (aA : List (List D)) (K : Bool → Option β) : Option β :=
  bif ((aB : Int) == 1) then (bif ((aB : Int) == 1) then (bif (((aA.length : Int) : Int) == 1) then (Yx.f k aC (fun y1 => bif y1 then (Ys.f k aA 6 (fun y19 => K y19)) else (K false))) else (K false)) else (bif ((aB : Int) == 3) then (bif (decide (((aA.length : Int) : Int) ≥ 1)) then (Yx.f k aC (fun y20 => bif y20 then (Ys.f k aA 6 (fun y21 => K y21)) else (K false))) else (K false)) else (bif ((aB : Int) == 4) then (bif ((aB : Int) == 4) then (bif (((aA.length : Int) : Int) == 0) then (Yx.f k aC (fun y22 => bif y22 then (Ys.f k aA 6 (fun y23 => K y23)) else (K false))) else (K false)) else (K false)) else (bif ((aB : Int) == 5) then (bif (((aA.length : Int) : Int) == 0) then (Yx.f k aC (fun y24 => bif y24 then (Ys.f k aA 6 (fun y25 => K y25)) else (K false))) else (K false)) else (K false))))) else (bif ((aB : Int) == 2) then (bif (((aA.length : Int) : Int) == 1) then (Yx.f k aC (fun y26 => bif y26 then (Ys.f k aA 6 (fun y27 => K y27)) else (K false))) else (K false)) else (bif ((aB : Int) == 3) then (bif (decide (((aA.length : Int) : Int) ≥ 1)) then (Yx.f k aC (fun y28 => bif y28 then (Ys.f k aA 6 (fun y29 => K y29)) else (K false))) else (K false)) else (bif ((aB : Int) == 4) then (bif ((aB : Int) == 4) then (bif (((aA.length : Int) : Int) == 0) then (Yx.f k aC (fun y30 => bif y30 then (Ys.f k aA 6 (fun y31 => K y31)) else (K false))) else (K false)) else (K false)) else (bif ((aB : Int) == 5) then (bif (((aA.length : Int) : Int) == 0) then (Yx.f k aC (fun y32 => bif y32 then (Ys.f k aA 6 (fun y33 => K y33)) else (K false))) else (K false)) else (K false)))))
noncomputable def Y2.t (k : Nat) (aB : Int) (aC : ByteArray) (aA : List (List D)) : Option (Bool) := Y2.g k aB aC aA (fun z0 => some z0)
noncomputable def Y2.f {β : Type} (k : Nat) (aB : Int) (aC : ByteArray) (aA : List (List D)) (K : Bool → Option β) : Option β := bd1 (Y2.t k aB aC aA) K
noncomputable def Y2.e (k : Nat) : Zk := ent [.agg [.n, .s, .l]] [1] [.b] [4] false (Y2.t k)
noncomputable def Y2.p (k : Nat) : Pro := ⟨Try.prog, [(73, Yx.e k), (90, Ys.e k)], Zn [] false [], k⟩
theorem Y2.ok (k : Nat) : Za Try.prog 161 (Y2.e k) := Zh (Y2.p k) mix tyok Try.func161 ⟨Yx.ok k, Ys.ok k⟩ (by kernel_rfl) (fun aB aC aA => by show _ = _; kernel_rfl)
noncomputable def YN.g {β : Type} (k : Nat) (aB : Int) (aC : ByteArray) (aA : List (List D)) (K : Bool → Option β) : Option β :=
  Y2.f k aB aC aA (fun y34 => K (!y34))
noncomputable def YN.t (k : Nat) (aB : Int) (aC : ByteArray) (aA : List (List D)) : Option (Bool) := YN.g k aB aC aA (fun z0 => some z0)
noncomputable def YN.f {β : Type} (k : Nat) (aB : Int) (aC : ByteArray) (aA : List (List D)) (K : Bool → Option β) : Option β := bd1 (YN.t k aB aC aA) K
noncomputable def YN.e (k : Nat) : Zk := ent [.agg [.n, .s, .l]] [1] [.b] [4] false (YN.t k)
noncomputable def YN.p (k : Nat) : Pro := ⟨Try.prog, [(161, Y2.e k)], Zn [] false [], k⟩
theorem YN.ok (k : Nat) : Za Try.prog 160 (YN.e k) := Zh (YN.p k) mix tyok Try.func160 (Y2.ok k) (by kernel_rfl) (fun aB aC aA => by show _ = _; kernel_rfl)
noncomputable def Ya.l0 {β : Type} (k : Nat) (aD : List (List D)) (aE : Int) (K L0 : Int → Option β) (v : Int) : Option β :=
  match v with
  | aF => bif (decide ((aF : Int) < aE)) then (atR aD aF [.n, .s, .l] fun x39 x42 x45 => (YN.f k x39 x42 x45 (fun y46 => bif y46 then (K aF) else (L0 (IntKind.wrap .i64 (aF + 1)))))) else (K (-1))
noncomputable def Ya.m {β : Type} (k : Nat) (a0 : List (List D)) (K : Int → Option β) (F : ((List (List D)) → Int → Int → Option β)) : Option β :=
  F a0 (a0.length : Int) (0)
noncomputable def Ya.g {β : Type} (k : Nat) (a0 : List (List D)) (K : Int → Option β) : Option β :=
  Zo (Ya.l0 k a0 (a0.length : Int) K) k (0)
noncomputable def Ya.t (k : Nat) (a0 : List (List D)) : Option (Int) := Ya.g k a0 (fun z0 => some z0)
noncomputable def Ya.f {β : Type} (k : Nat) (a0 : List (List D)) (K : Int → Option β) : Option β := bd1 (Ya.t k a0) K
noncomputable def Ya.e (k : Nat) : Zk := ent [.d .l, .fn 160 []] [1] [.n] [3] false (Ya.t k)
noncomputable def Ya.p (k : Nat) : Pro := ⟨Try.prog, [(160, YN.e k)], Zn [(2, kp [0, 1, 7, 8])] false [], k⟩
noncomputable def Ya.d (k : Nat) (a0 : List (List D)) : Ex → St → Option (Int) := (Ya.p k).fin Try.f163 [.d (.sl a0), .d (.fn 160 [])] [1] [.n]
noncomputable def Ya.s0 (aD : List (List D)) (aE v : Int) : St :=
  match v with
  | aF => ZX 19 [(0, .d false (.sl aD)), (1, .d false (.fn 160 [])), (7, .d true (.int .i64 aE)), (8, .d true (.int .i64 aF))] []
noncomputable def Ya.r0 (k : Nat) (a0 aD : List (List D)) (aE : Int) (n : Nat) (v : Int) : Option (Int) := (Ya.p k).lp (Zt Try.f163) 2 [1, 0, 1, 0] (Ya.d k a0) n (Ya.s0 aD aE v)
theorem Ya.l0_eq (k : Nat) (a0 aD : List (List D)) (aE : Int) : ∀ n v, Ya.r0 k a0 aD aE n v = Zo (Ya.l0 k aD aE (fun z0 => some z0)) n v :=
  Zm (Ya.s0 aD aE) _ fun L0 v => by kernel_rfl
theorem Ya.ok (k : Nat) : Za Try.prog 163 (Ya.e k) := Zh (Ya.p k) mix tyok Try.func163 (YN.ok k) (by kernel_rfl) (fun a0 => Eq.trans (b := Ya.m k a0 (fun z0 => some z0) (fun aD aE => Ya.r0 k a0 aD aE k)) (by kernel_rfl) (congrArg (Ya.m k a0 (fun z0 => some z0)) (funext fun aD => funext fun aE => funext fun v => Ya.l0_eq k a0 aD aE k v) :))
noncomputable def Yg.g {β : Type} (k : Nat) (a0 : List (List D)) (K : Bool → Option β) : Option β :=
  Ya.f k a0 (fun y47 => K (decide ((y47 : Int) ≥ 0)))
noncomputable def Yg.t (k : Nat) (a0 : List (List D)) : Option (Bool) := Yg.g k a0 (fun z0 => some z0)
noncomputable def Yg.f {β : Type} (k : Nat) (a0 : List (List D)) (K : Bool → Option β) : Option β := bd1 (Yg.t k a0) K
noncomputable def Yg.e (k : Nat) : Zk := ent [.d .l, .fn 160 []] [1] [.b] [4] false (Yg.t k)
noncomputable def Yg.p (k : Nat) : Pro := ⟨Try.prog, [(163, Ya.e k)], Zn [] false [], k⟩
theorem Yg.ok (k : Nat) : Za Try.prog 95 (Yg.e k) := Zh (Yg.p k) mix tyok Try.func95 (Ya.ok k) (by kernel_rfl) (fun a0 => by show _ = _; kernel_rfl)
noncomputable def YJ.g {β : Type} (k : Nat) (a0 : List (List D)) (K : Bool → Option β) : Option β :=
  bif (decide (((a0.length : Int) : Int) ≤ 8)) then (Yg.f k a0 (fun y48 => K (!y48))) else (K false)
noncomputable def YJ.t (k : Nat) (a0 : List (List D)) : Option (Bool) := YJ.g k a0 (fun z0 => some z0)
noncomputable def YJ.f {β : Type} (k : Nat) (a0 : List (List D)) (K : Bool → Option β) : Option β := bd1 (YJ.t k a0) K
noncomputable def YJ.e (k : Nat) : Zk := ent [.d .l] [1] [.b] [4] false (YJ.t k)
noncomputable def YJ.p (k : Nat) : Pro := ⟨Try.prog, [(95, Yg.e k)], Zn [] false [], k⟩
theorem YJ.ok (k : Nat) : Za Try.prog 89 (YJ.e k) := Zh (YJ.p k) mix tyok Try.func89 (Yg.ok k) (by kernel_rfl) (fun a0 => by show _ = _; kernel_rfl)
noncomputable def YG.l0 {β : Type} (k : Nat) (aD : List (List D)) (aE aG : Int) (aI aJ aL : List (List D)) (K : Bool → Option β) (L0 : Int → Option β) (v : Int) : Option β :=
  match v with
  | aF => bif (decide ((aF : Int) < aE)) then (atR aD aF [.s, .n] fun x54 x57 => (Yx.f k x54 (fun y58 => bif (!y58) then (K false) else (YW.f k x57 0 1000 (fun y59 => bif (!y59) then (K false) else (bif (decide ((aF : Int) > 0)) then (atR aL (IntKind.wrap .i64 (aF - 1)) [.s, .n] fun x63 x66 => (bif (!(ZbO x63 x54)) then (K false) else (L0 (IntKind.wrap .i64 (aF + 1))))) else (L0 (IntKind.wrap .i64 (aF + 1))))))))) else (YU.f k aG (fun y67 => bif y67 then (YJ.f k aI (fun y68 => bif y68 then (Ys.f k aJ 8 (fun y69 => bif y69 then (K (decide (((aL.length : Int) : Int) ≤ 12))) else (K false))) else (K false))) else (K false)))
noncomputable def YG.m {β : Type} (k : Nat) (aB : Int) (aC aA aH : List (List D)) (K : Bool → Option β) (F : ((List (List D)) → Int → Int → (List (List D)) → (List (List D)) → (List (List D)) → Int → Option β)) : Option β :=
  F aH (aH.length : Int) aB aC aA aH (0)
noncomputable def YG.g {β : Type} (k : Nat) (aB : Int) (aC aA aH : List (List D)) (K : Bool → Option β) : Option β :=
  Zo (YG.l0 k aH (aH.length : Int) aB aC aA aH K) k (0)
noncomputable def YG.t (k : Nat) (aB : Int) (aC aA aH : List (List D)) : Option (Bool) := YG.g k aB aC aA aH (fun z0 => some z0)
noncomputable def YG.f {β : Type} (k : Nat) (aB : Int) (aC aA aH : List (List D)) (K : Bool → Option β) : Option β := bd1 (YG.t k aB aC aA aH) K
noncomputable def YG.e (k : Nat) : Zk := ent [.agg [.n, .l, .l, .l]] [1] [.b] [4] false (YG.t k)
noncomputable def YG.p (k : Nat) : Pro := ⟨Try.prog, [(73, Yx.e k), (71, YW.e k), (88, YU.e k), (89, YJ.e k), (90, Ys.e k)], Zn [(2, kp [1, 6, 7, 8])] false [], k⟩
noncomputable def YG.d (k : Nat) (aB : Int) (aC aA aH : List (List D)) : Ex → St → Option (Bool) := (YG.p k).fin Try.f27 [.agg [.int .i64 aB, .sl aC, .sl aA, .sl aH]] [1] [.b]
noncomputable def YG.s0 (aD : List (List D)) (aE aG : Int) (aI aJ aL : List (List D)) (v : Int) : St :=
  match v with
  | aF => ZX 59 [(1, .bp 0 0), (6, .d false (.sl aD)), (7, .d true (.int .i64 aE)), (8, .d true (.int .i64 aF))] [.box none 44 [.d false (.int .i64 aG), .d false (.sl aI), .d false (.sl aJ), .d false (.sl aL)]]
noncomputable def YG.r0 (k : Nat) (aB : Int) (aC aA aH aD : List (List D)) (aE aG : Int) (aI aJ aL : List (List D)) (n : Nat) (v : Int) : Option (Bool) := (YG.p k).lp (Zt Try.f27) 2 [1, 0, 1, 0] (YG.d k aB aC aA aH) n (YG.s0 aD aE aG aI aJ aL v)
theorem YG.l0_eq (k : Nat) (aB : Int) (aC aA aH aD : List (List D)) (aE aG : Int) (aI aJ aL : List (List D)) : ∀ n v, YG.r0 k aB aC aA aH aD aE aG aI aJ aL n v = Zo (YG.l0 k aD aE aG aI aJ aL (fun z0 => some z0)) n v :=
  Zm (YG.s0 aD aE aG aI aJ aL) _ fun L0 v => by kernel_rfl
theorem YG.ok (k : Nat) : Za Try.prog 27 (YG.e k) := Zh (YG.p k) mix tyok Try.func27 ⟨Yx.ok k, YW.ok k, YU.ok k, YJ.ok k, Ys.ok k⟩ (by kernel_rfl) (fun aB aC aA aH => Eq.trans (b := YG.m k aB aC aA aH (fun z0 => some z0) (fun aD aE aG aI aJ aL => YG.r0 k aB aC aA aH aD aE aG aI aJ aL k)) (by kernel_rfl) (congrArg (YG.m k aB aC aA aH (fun z0 => some z0)) (funext fun aD => funext fun aE => funext fun aG => funext fun aI => funext fun aJ => funext fun aL => funext fun v => YG.l0_eq k aB aC aA aH aD aE aG aI aJ aL k v) :))
noncomputable def YA.l0 {β : Type} (k : Nat) (aD aE : List (List D)) (aF : Int) (K : Bool → Option β) (L0 : Int → Option β) (v : Int) : Option β :=
  match v with
  | aG => bif (decide ((aG : Int) < aF)) then (atR aE aG [.s, .s] fun x20 x23 => (Yx.f k x20 (fun y24 => bif (!y24) then (K false) else (Yx.f k x23 (fun y25 => bif (!y25) then (K false) else (bif (decide ((aG : Int) > 0)) then (atR aD (IntKind.wrap .i64 (aG - 1)) [.s, .s] fun x29 x32 => (bif (!(ZbO x29 x20)) then (K false) else (L0 (IntKind.wrap .i64 (aG + 1))))) else (L0 (IntKind.wrap .i64 (aG + 1))))))))) else (K (decide (((aD.length : Int) : Int) ≤ 8)))
noncomputable def YA.m {β : Type} (k : Nat) (a0 : List (List D)) (K : Bool → Option β) (F : ((List (List D)) → (List (List D)) → Int → Int → Option β)) : Option β :=
  F a0 a0 (a0.length : Int) (0)
noncomputable def YA.g {β : Type} (k : Nat) (a0 : List (List D)) (K : Bool → Option β) : Option β :=
  Zo (YA.l0 k a0 a0 (a0.length : Int) K) k (0)
noncomputable def YA.t (k : Nat) (a0 : List (List D)) : Option (Bool) := YA.g k a0 (fun z0 => some z0)
noncomputable def YA.f {β : Type} (k : Nat) (a0 : List (List D)) (K : Bool → Option β) : Option β := bd1 (YA.t k a0) K
noncomputable def YA.e (k : Nat) : Zk := ent [.d .l] [1] [.b] [4] false (YA.t k)
noncomputable def YA.p (k : Nat) : Pro := ⟨Try.prog, [(73, Yx.e k)], Zn [(2, kp [0, 5, 6, 7])] false [], k⟩
noncomputable def YA.d (k : Nat) (a0 : List (List D)) : Ex → St → Option (Bool) := (YA.p k).fin Try.f93 [.d (.sl a0)] [1] [.b]
noncomputable def YA.s0 (aD aE : List (List D)) (aF v : Int) : St :=
  match v with
  | aG => ZX 41 [(0, .d false (.sl aD)), (5, .d false (.sl aE)), (6, .d true (.int .i64 aF)), (7, .d true (.int .i64 aG))] []
noncomputable def YA.r0 (k : Nat) (a0 aD aE : List (List D)) (aF : Int) (n : Nat) (v : Int) : Option (Bool) := (YA.p k).lp (Zt Try.f93) 2 [1, 0, 1, 0] (YA.d k a0) n (YA.s0 aD aE aF v)
theorem YA.l0_eq (k : Nat) (a0 aD aE : List (List D)) (aF : Int) : ∀ n v, YA.r0 k a0 aD aE aF n v = Zo (YA.l0 k aD aE aF (fun z0 => some z0)) n v :=
  Zm (YA.s0 aD aE aF) _ fun L0 v => by kernel_rfl
theorem YA.ok (k : Nat) : Za Try.prog 93 (YA.e k) := Zh (YA.p k) mix tyok Try.func93 (Yx.ok k) (by kernel_rfl) (fun a0 => Eq.trans (b := YA.m k a0 (fun z0 => some z0) (fun aD aE aF => YA.r0 k a0 aD aE aF k)) (by kernel_rfl) (congrArg (YA.m k a0 (fun z0 => some z0)) (funext fun aD => funext fun aE => funext fun aF => funext fun v => YA.l0_eq k a0 aD aE aF k v) :))
noncomputable def YQ.g {β : Type} (k : Nat) (aB : ByteArray) (aC aA : List (List D)) (aH : Int) (K : Bool → Option β) : Option β :=
  Yx.f k aB (fun y1 => bif y1 then (YA.f k aC (fun y33 => bif y33 then (Ys.f k aA 4 (fun y34 => bif y34 then (YU.f k aH (fun y35 => K y35)) else (K false))) else (K false))) else (K false))
noncomputable def YQ.t (k : Nat) (aB : ByteArray) (aC aA : List (List D)) (aH : Int) : Option (Bool) := YQ.g k aB aC aA aH (fun z0 => some z0)
noncomputable def YQ.f {β : Type} (k : Nat) (aB : ByteArray) (aC aA : List (List D)) (aH : Int) (K : Bool → Option β) : Option β := bd1 (YQ.t k aB aC aA aH) K
noncomputable def YQ.e (k : Nat) : Zk := ent [.agg [.s, .l, .l, .n]] [1] [.b] [4] false (YQ.t k)
noncomputable def YQ.p (k : Nat) : Pro := ⟨Try.prog, [(73, Yx.e k), (93, YA.e k), (90, Ys.e k), (88, YU.e k)], Zn [] false [], k⟩
theorem YQ.ok (k : Nat) : Za Try.prog 29 (YQ.e k) := Zh (YQ.p k) mix tyok Try.func29 ⟨Yx.ok k, YA.ok k, Ys.ok k, YU.ok k⟩ (by kernel_rfl) (fun aB aC aA aH => by show _ = _; kernel_rfl)
noncomputable def YC.l0 {β : Type} (k : Nat) (aD : ByteArray) (aE : List (List D)) (aF : Int) (K : ByteArray → Bool → Option β) (L0 : Int → Option β) (v : Int) : Option β :=
  match v with
  | aG => bif (decide ((aG : Int) < aF)) then (atR aE aG [.s, .s] fun x11 x14 => (bif (Zae x11 aD) then (K x14 true) else (L0 (IntKind.wrap .i64 (aG + 1))))) else (K (⟨#[]⟩ : ByteArray) false)
noncomputable def YC.m {β : Type} (k : Nat) (a0 : List (List D)) (a1 : ByteArray) (K : ByteArray → Bool → Option β) (F : (ByteArray → (List (List D)) → Int → Int → Option β)) : Option β :=
  F a1 a0 (a0.length : Int) (0)
noncomputable def YC.g {β : Type} (k : Nat) (a0 : List (List D)) (a1 : ByteArray) (K : ByteArray → Bool → Option β) : Option β :=
  Zo (YC.l0 k a1 a0 (a0.length : Int) K) k (0)
noncomputable def YC.t (k : Nat) (a0 : List (List D)) (a1 : ByteArray) : Option (ByteArray × Bool) := YC.g k a0 a1 (fun z0 z1 => some (z0, z1))
noncomputable def YC.f {β : Type} (k : Nat) (a0 : List (List D)) (a1 : ByteArray) (K : ByteArray → Bool → Option β) : Option β := bd2 (YC.t k a0 a1) K
noncomputable def YC.e (k : Nat) : Zk := ent [.d .l, .d .s] [1, 1] [.s, .b] [9, 4] false (YC.t k)
noncomputable def YC.p (k : Nat) : Pro := ⟨Try.prog, [], Zn [(2, kp [1, 8, 9, 10])] false [], k⟩
noncomputable def YC.d (k : Nat) (a0 : List (List D)) (a1 : ByteArray) : Ex → St → Option (ByteArray × Bool) := (YC.p k).fin Try.f164 [.d (.sl a0), .d (.str a1)] [1, 1] [.s, .b]
noncomputable def YC.s0 (aD : ByteArray) (aE : List (List D)) (aF v : Int) : St :=
  match v with
  | aG => ZX 21 [(1, .d false (.str aD)), (8, .d false (.sl aE)), (9, .d true (.int .i64 aF)), (10, .d true (.int .i64 aG))] []
noncomputable def YC.r0 (k : Nat) (a0 : List (List D)) (a1 aD : ByteArray) (aE : List (List D)) (aF : Int) (n : Nat) (v : Int) : Option (ByteArray × Bool) := (YC.p k).lp (Zt Try.f164) 2 [1, 0, 1, 0] (YC.d k a0 a1) n (YC.s0 aD aE aF v)
theorem YC.l0_eq (k : Nat) (a0 : List (List D)) (a1 aD : ByteArray) (aE : List (List D)) (aF : Int) : ∀ n v, YC.r0 k a0 a1 aD aE aF n v = Zo (YC.l0 k aD aE aF (fun z0 z1 => some (z0, z1))) n v :=
  Zm (YC.s0 aD aE aF) _ fun L0 v => by kernel_rfl
theorem YC.ok (k : Nat) : Za Try.prog 164 (YC.e k) := Zh (YC.p k) mix tyok Try.func164 trivial (by kernel_rfl) (fun a0 a1 => Eq.trans (b := YC.m k a0 a1 (fun z0 z1 => some (z0, z1)) (fun aD aE aF => YC.r0 k a0 a1 aD aE aF k)) (by kernel_rfl) (congrArg (YC.m k a0 a1 (fun z0 z1 => some (z0, z1))) (funext fun aD => funext fun aE => funext fun aF => funext fun v => YC.l0_eq k a0 a1 aD aE aF k v) :))
noncomputable def Yq.l0 {β : Type} (k : Nat) (aD : List (List D)) (aE : ByteArray) (aF : Int) (K L0 : Int → Option β) (v : Int) : Option β :=
  match v with
  | aG => bif (decide ((aG : Int) < aF)) then (atR aD aG [.s] fun x8 => (bif (Zae aE x8) then (K aG) else (L0 (IntKind.wrap .i64 (aG + 1))))) else (K (-1))
noncomputable def Yq.m {β : Type} (k : Nat) (a0 : List (List D)) (a1 : ByteArray) (K : Int → Option β) (F : ((List (List D)) → ByteArray → Int → Int → Option β)) : Option β :=
  F a0 a1 (a0.length : Int) (0)
noncomputable def Yq.g {β : Type} (k : Nat) (a0 : List (List D)) (a1 : ByteArray) (K : Int → Option β) : Option β :=
  Zo (Yq.l0 k a0 a1 (a0.length : Int) K) k (0)
noncomputable def Yq.t (k : Nat) (a0 : List (List D)) (a1 : ByteArray) : Option (Int) := Yq.g k a0 a1 (fun z0 => some z0)
noncomputable def Yq.f {β : Type} (k : Nat) (a0 : List (List D)) (a1 : ByteArray) (K : Int → Option β) : Option β := bd1 (Yq.t k a0 a1) K
noncomputable def Yq.e (k : Nat) : Zk := ent [.d .l, .d .s] [1] [.n] [3] false (Yq.t k)
noncomputable def Yq.p (k : Nat) : Pro := ⟨Try.prog, [], Zn [(2, kp [0, 1, 7, 8])] false [], k⟩
noncomputable def Yq.d (k : Nat) (a0 : List (List D)) (a1 : ByteArray) : Ex → St → Option (Int) := (Yq.p k).fin Try.f150 [.d (.sl a0), .d (.str a1)] [1] [.n]
noncomputable def Yq.s0 (aD : List (List D)) (aE : ByteArray) (aF v : Int) : St :=
  match v with
  | aG => ZX 19 [(0, .d false (.sl aD)), (1, .d false (.str aE)), (7, .d true (.int .i64 aF)), (8, .d true (.int .i64 aG))] []
noncomputable def Yq.r0 (k : Nat) (a0 : List (List D)) (a1 : ByteArray) (aD : List (List D)) (aE : ByteArray) (aF : Int) (n : Nat) (v : Int) : Option (Int) := (Yq.p k).lp (Zt Try.f150) 2 [1, 0, 1, 0] (Yq.d k a0 a1) n (Yq.s0 aD aE aF v)
theorem Yq.l0_eq (k : Nat) (a0 : List (List D)) (a1 : ByteArray) (aD : List (List D)) (aE : ByteArray) (aF : Int) : ∀ n v, Yq.r0 k a0 a1 aD aE aF n v = Zo (Yq.l0 k aD aE aF (fun z0 => some z0)) n v :=
  Zm (Yq.s0 aD aE aF) _ fun L0 v => by kernel_rfl
theorem Yq.ok (k : Nat) : Za Try.prog 150 (Yq.e k) := Zh (Yq.p k) mix tyok Try.func150 trivial (by kernel_rfl) (fun a0 a1 => Eq.trans (b := Yq.m k a0 a1 (fun z0 => some z0) (fun aD aE aF => Yq.r0 k a0 a1 aD aE aF k)) (by kernel_rfl) (congrArg (Yq.m k a0 a1 (fun z0 => some z0)) (funext fun aD => funext fun aE => funext fun aF => funext fun v => Yq.l0_eq k a0 a1 aD aE aF k v) :))
noncomputable def Yy.g {β : Type} (k : Nat) (a0 : List (List D)) (a1 : ByteArray) (K : Bool → Option β) : Option β :=
  Yq.f k a0 a1 (fun y9 => K (decide ((y9 : Int) ≥ 0)))
noncomputable def Yy.t (k : Nat) (a0 : List (List D)) (a1 : ByteArray) : Option (Bool) := Yy.g k a0 a1 (fun z0 => some z0)
noncomputable def Yy.f {β : Type} (k : Nat) (a0 : List (List D)) (a1 : ByteArray) (K : Bool → Option β) : Option β := bd1 (Yy.t k a0 a1) K
noncomputable def Yy.e (k : Nat) : Zk := ent [.d .l, .d .s] [1] [.b] [4] false (Yy.t k)
noncomputable def Yy.p (k : Nat) : Pro := ⟨Try.prog, [(150, Yq.e k)], Zn [] false [], k⟩
theorem Yy.ok (k : Nat) : Za Try.prog 68 (Yy.e k) := Zh (Yy.p k) mix tyok Try.func68 (Yq.ok k) (by kernel_rfl) (fun a0 a1 => by show _ = _; kernel_rfl)
noncomputable def Y3.g {β : Type} (k : Nat) (aB : Int) (aC : ByteArray) (aA a1 : List (List D)) (K : Bool → Option β) : Option β :=
  YC.f k a1 aC (fun y15 y16 => bif y16 then (Yy.f k aA y15 (fun y17 => let J0 := (bif ((aB : Int) == 2) then (K (!y17)) else (bif ((aB : Int) == 4) then (K y16) else (K (!y16)))); bif ((aB : Int) == 1) then (bif ((aB : Int) == 1) then (K y17) else J0) else (bif ((aB : Int) == 3) then (K y17) else J0))) else (let J1 := (bif ((aB : Int) == 2) then (K true) else (bif ((aB : Int) == 4) then (K y16) else (K (!y16)))); bif ((aB : Int) == 1) then (bif ((aB : Int) == 1) then (K false) else J1) else (bif ((aB : Int) == 3) then (K false) else J1)))
noncomputable def Y3.t (k : Nat) (aB : Int) (aC : ByteArray) (aA a1 : List (List D)) : Option (Bool) := Y3.g k aB aC aA a1 (fun z0 => some z0)
noncomputable def Y3.f {β : Type} (k : Nat) (aB : Int) (aC : ByteArray) (aA a1 : List (List D)) (K : Bool → Option β) : Option β := bd1 (Y3.t k aB aC aA a1) K
noncomputable def Y3.e (k : Nat) : Zk := ent [.agg [.n, .s, .l], .d .l] [1] [.b] [4] false (Y3.t k)
noncomputable def Y3.p (k : Nat) : Pro := ⟨Try.prog, [(164, YC.e k), (68, Yy.e k)], Zn [] false [], k⟩
theorem Y3.ok (k : Nat) : Za Try.prog 97 (Y3.e k) := Zh (Y3.p k) mix tyok Try.func97 ⟨YC.ok k, Yy.ok k⟩ (by kernel_rfl) (fun aB aC aA a1 => by show _ = _; kernel_rfl)
noncomputable def YV.g {β : Type} (k : Nat) (aB : Int) (aC : ByteArray) (aA f0_0 : List (List D)) (K : Bool → Option β) : Option β :=
  Y3.f k aB aC aA f0_0 (fun y18 => K (!y18))
noncomputable def YV.t (k : Nat) (aB : Int) (aC : ByteArray) (aA f0_0 : List (List D)) : Option (Bool) := YV.g k aB aC aA f0_0 (fun z0 => some z0)
noncomputable def YV.f {β : Type} (k : Nat) (aB : Int) (aC : ByteArray) (aA f0_0 : List (List D)) (K : Bool → Option β) : Option β := bd1 (YV.t k aB aC aA f0_0) K
noncomputable def YV.e (k : Nat) : Zk := ent [.agg [.n, .s, .l], .ip [.l]] [1] [.b] [4] false (YV.t k)
noncomputable def YV.p (k : Nat) : Pro := ⟨Try.prog, [(97, Y3.e k)], Zn [] false [], k⟩
theorem YV.ok (k : Nat) : Za Try.prog 96 (YV.e k) := Zh (YV.p k) mix tyok Try.func96 (Y3.ok k) (by kernel_rfl) (fun aB aC aA f0_0 => by show _ = _; kernel_rfl)
noncomputable def Yb.l0 {β : Type} (k : Nat) (aD aE : List (List D)) (aF : Int) (K L0 : Int → Option β) (v : Int) : Option β :=
  match v with
  | aG => bif (decide ((aG : Int) < aF)) then (atR aD aG [.n, .s, .l] fun x23 x26 x29 => (YV.f k x23 x26 x29 aE (fun y30 => bif y30 then (K aG) else (L0 (IntKind.wrap .i64 (aG + 1)))))) else (K (-1))
noncomputable def Yb.m {β : Type} (k : Nat) (a0 a1_0_0 : List (List D)) (K : Int → Option β) (F : ((List (List D)) → (List (List D)) → Int → Int → Option β)) : Option β :=
  F a0 a1_0_0 (a0.length : Int) (0)
noncomputable def Yb.g {β : Type} (k : Nat) (a0 a1_0_0 : List (List D)) (K : Int → Option β) : Option β :=
  Zo (Yb.l0 k a0 a1_0_0 (a0.length : Int) K) k (0)
noncomputable def Yb.t (k : Nat) (a0 a1_0_0 : List (List D)) : Option (Int) := Yb.g k a0 a1_0_0 (fun z0 => some z0)
noncomputable def Yb.f {β : Type} (k : Nat) (a0 a1_0_0 : List (List D)) (K : Int → Option β) : Option β := bd1 (Yb.t k a0 a1_0_0) K
noncomputable def Yb.e (k : Nat) : Zk := ent [.d .l, .fn 96 [[.l]]] [1] [.n] [3] false (Yb.t k)
noncomputable def Yb.p (k : Nat) : Pro := ⟨Try.prog, [(96, YV.e k)], Zn [(2, kp [0, 1, 7, 8])] false [], k⟩
noncomputable def Yb.d (k : Nat) (a0 a1_0_0 : List (List D)) : Ex → St → Option (Int) := (Yb.p k).fin Try.f163 [.d (.sl a0), .d (.fn 96 [[.sl a1_0_0]])] [1] [.n]
noncomputable def Yb.s0 (aD aE : List (List D)) (aF v : Int) : St :=
  match v with
  | aG => ZX 19 [(0, .d false (.sl aD)), (1, .d false (.fn 96 [[.sl aE]])), (7, .d true (.int .i64 aF)), (8, .d true (.int .i64 aG))] []
noncomputable def Yb.r0 (k : Nat) (a0 a1_0_0 aD aE : List (List D)) (aF : Int) (n : Nat) (v : Int) : Option (Int) := (Yb.p k).lp (Zt Try.f163) 2 [1, 0, 1, 0] (Yb.d k a0 a1_0_0) n (Yb.s0 aD aE aF v)
theorem Yb.l0_eq (k : Nat) (a0 a1_0_0 aD aE : List (List D)) (aF : Int) : ∀ n v, Yb.r0 k a0 a1_0_0 aD aE aF n v = Zo (Yb.l0 k aD aE aF (fun z0 => some z0)) n v :=
  Zm (Yb.s0 aD aE aF) _ fun L0 v => by kernel_rfl
theorem Yb.ok (k : Nat) : Za Try.prog 163 (Yb.e k) := Zh (Yb.p k) mix tyok Try.func163 (YV.ok k) (by kernel_rfl) (fun a0 a1_0_0 => Eq.trans (b := Yb.m k a0 a1_0_0 (fun z0 => some z0) (fun aD aE aF => Yb.r0 k a0 a1_0_0 aD aE aF k)) (by kernel_rfl) (congrArg (Yb.m k a0 a1_0_0 (fun z0 => some z0)) (funext fun aD => funext fun aE => funext fun aF => funext fun v => Yb.l0_eq k a0 a1_0_0 aD aE aF k v) :))
noncomputable def Yh.g {β : Type} (k : Nat) (a0 a1_0_0 : List (List D)) (K : Bool → Option β) : Option β :=
  Yb.f k a0 a1_0_0 (fun y31 => K (decide ((y31 : Int) ≥ 0)))
noncomputable def Yh.t (k : Nat) (a0 a1_0_0 : List (List D)) : Option (Bool) := Yh.g k a0 a1_0_0 (fun z0 => some z0)
noncomputable def Yh.f {β : Type} (k : Nat) (a0 a1_0_0 : List (List D)) (K : Bool → Option β) : Option β := bd1 (Yh.t k a0 a1_0_0) K
noncomputable def Yh.e (k : Nat) : Zk := ent [.d .l, .fn 96 [[.l]]] [1] [.b] [4] false (Yh.t k)
noncomputable def Yh.p (k : Nat) : Pro := ⟨Try.prog, [(163, Yb.e k)], Zn [] false [], k⟩
theorem Yh.ok (k : Nat) : Za Try.prog 95 (Yh.e k) := Zh (Yh.p k) mix tyok Try.func95 (Yb.ok k) (by kernel_rfl) (fun a0 a1_0_0 => by show _ = _; kernel_rfl)
noncomputable def YZ.g {β : Type} (k : Nat) (a0 a1 : List (List D)) (K : Bool → Option β) : Option β :=
  YJ.f k a0 (fun y1 => bif y1 then (YA.f k a1 (fun y2 => bif y2 then (Yh.f k a0 a1 (fun y32 => K (!y32))) else (K false))) else (K false))
noncomputable def YZ.t (k : Nat) (a0 a1 : List (List D)) : Option (Bool) := YZ.g k a0 a1 (fun z0 => some z0)
noncomputable def YZ.f {β : Type} (k : Nat) (a0 a1 : List (List D)) (K : Bool → Option β) : Option β := bd1 (YZ.t k a0 a1) K
noncomputable def YZ.e (k : Nat) : Zk := ent [.d .l, .d .l] [1] [.b] [4] false (YZ.t k)
noncomputable def YZ.p (k : Nat) : Pro := ⟨Try.prog, [(89, YJ.e k), (93, YA.e k), (95, Yh.e k)], Zn [] false [], k⟩
theorem YZ.ok (k : Nat) : Za Try.prog 31 (YZ.e k) := Zh (YZ.p k) mix tyok Try.func31 ⟨YJ.ok k, YA.ok k, Yh.ok k⟩ (by kernel_rfl) (fun a0 a1 => by show _ = _; kernel_rfl)
noncomputable def YS.g {β : Type} (k : Nat) (a0 : ByteArray) (f0_0 : Int) (f0_1 f0_2 f0_3 : List (List D)) (K : Bool → Option β) : Option β :=
  Yy.f k f0_2 a0 (fun y1 => K (!y1))
noncomputable def YS.t (k : Nat) (a0 : ByteArray) (f0_0 : Int) (f0_1 f0_2 f0_3 : List (List D)) : Option (Bool) := YS.g k a0 f0_0 f0_1 f0_2 f0_3 (fun z0 => some z0)
noncomputable def YS.f {β : Type} (k : Nat) (a0 : ByteArray) (f0_0 : Int) (f0_1 f0_2 f0_3 : List (List D)) (K : Bool → Option β) : Option β := bd1 (YS.t k a0 f0_0 f0_1 f0_2 f0_3) K
noncomputable def YS.e (k : Nat) : Zk := ent [.d .s, .ip [.n, .l, .l, .l]] [1] [.b] [4] false (YS.t k)
noncomputable def YS.p (k : Nat) : Pro := ⟨Try.prog, [(68, Yy.e k)], Zn [] false [], k⟩
theorem YS.ok (k : Nat) : Za Try.prog 86 (YS.e k) := Zh (YS.p k) mix tyok Try.func86 (Yy.ok k) (by kernel_rfl) (fun a0 f0_0 f0_1 f0_2 f0_3 => by show _ = _; kernel_rfl)
noncomputable def Yc.l0 {β : Type} (k : Nat) (aD : List (List D)) (aE : Int) (aF aG aI : List (List D)) (aJ : Int) (K L0 : Int → Option β) (v : Int) : Option β :=
  match v with
  | aL => bif (decide ((aL : Int) < aJ)) then (atR aD aL [.s] fun x9 => (YS.f k x9 aE aF aG aI (fun y10 => bif y10 then (K aL) else (L0 (IntKind.wrap .i64 (aL + 1)))))) else (K (-1))
noncomputable def Yc.m {β : Type} (k : Nat) (a0 : List (List D)) (a1_0_0 : Int) (a1_0_1 a1_0_2 a1_0_3 : List (List D)) (K : Int → Option β) (F : ((List (List D)) → Int → (List (List D)) → (List (List D)) → (List (List D)) → Int → Int → Option β)) : Option β :=
  F a0 a1_0_0 a1_0_1 a1_0_2 a1_0_3 (a0.length : Int) (0)
noncomputable def Yc.g {β : Type} (k : Nat) (a0 : List (List D)) (a1_0_0 : Int) (a1_0_1 a1_0_2 a1_0_3 : List (List D)) (K : Int → Option β) : Option β :=
  Zo (Yc.l0 k a0 a1_0_0 a1_0_1 a1_0_2 a1_0_3 (a0.length : Int) K) k (0)
noncomputable def Yc.t (k : Nat) (a0 : List (List D)) (a1_0_0 : Int) (a1_0_1 a1_0_2 a1_0_3 : List (List D)) : Option (Int) := Yc.g k a0 a1_0_0 a1_0_1 a1_0_2 a1_0_3 (fun z0 => some z0)
noncomputable def Yc.f {β : Type} (k : Nat) (a0 : List (List D)) (a1_0_0 : Int) (a1_0_1 a1_0_2 a1_0_3 : List (List D)) (K : Int → Option β) : Option β := bd1 (Yc.t k a0 a1_0_0 a1_0_1 a1_0_2 a1_0_3) K
noncomputable def Yc.e (k : Nat) : Zk := ent [.d .l, .fn 86 [[.n, .l, .l, .l]]] [1] [.n] [3] false (Yc.t k)
noncomputable def Yc.p (k : Nat) : Pro := ⟨Try.prog, [(86, YS.e k)], Zn [(2, kp [0, 1, 7, 8])] false [], k⟩
noncomputable def Yc.d (k : Nat) (a0 : List (List D)) (a1_0_0 : Int) (a1_0_1 a1_0_2 a1_0_3 : List (List D)) : Ex → St → Option (Int) := (Yc.p k).fin Try.f151 [.d (.sl a0), .d (.fn 86 [[.int .i64 a1_0_0, .sl a1_0_1, .sl a1_0_2, .sl a1_0_3]])] [1] [.n]
noncomputable def Yc.s0 (aD : List (List D)) (aE : Int) (aF aG aI : List (List D)) (aJ v : Int) : St :=
  match v with
  | aL => ZX 19 [(0, .d false (.sl aD)), (1, .d false (.fn 86 [[.int .i64 aE, .sl aF, .sl aG, .sl aI]])), (7, .d true (.int .i64 aJ)), (8, .d true (.int .i64 aL))] []
noncomputable def Yc.r0 (k : Nat) (a0 : List (List D)) (a1_0_0 : Int) (a1_0_1 a1_0_2 a1_0_3 aD : List (List D)) (aE : Int) (aF aG aI : List (List D)) (aJ : Int) (n : Nat) (v : Int) : Option (Int) := (Yc.p k).lp (Zt Try.f151) 2 [1, 0, 1, 0] (Yc.d k a0 a1_0_0 a1_0_1 a1_0_2 a1_0_3) n (Yc.s0 aD aE aF aG aI aJ v)
theorem Yc.l0_eq (k : Nat) (a0 : List (List D)) (a1_0_0 : Int) (a1_0_1 a1_0_2 a1_0_3 aD : List (List D)) (aE : Int) (aF aG aI : List (List D)) (aJ : Int) : ∀ n v, Yc.r0 k a0 a1_0_0 a1_0_1 a1_0_2 a1_0_3 aD aE aF aG aI aJ n v = Zo (Yc.l0 k aD aE aF aG aI aJ (fun z0 => some z0)) n v :=
  Zm (Yc.s0 aD aE aF aG aI aJ) _ fun L0 v => by kernel_rfl
theorem Yc.ok (k : Nat) : Za Try.prog 151 (Yc.e k) := Zh (Yc.p k) mix tyok Try.func151 (YS.ok k) (by kernel_rfl) (fun a0 a1_0_0 a1_0_1 a1_0_2 a1_0_3 => Eq.trans (b := Yc.m k a0 a1_0_0 a1_0_1 a1_0_2 a1_0_3 (fun z0 => some z0) (fun aD aE aF aG aI aJ => Yc.r0 k a0 a1_0_0 a1_0_1 a1_0_2 a1_0_3 aD aE aF aG aI aJ k)) (by kernel_rfl) (congrArg (Yc.m k a0 a1_0_0 a1_0_1 a1_0_2 a1_0_3 (fun z0 => some z0)) (funext fun aD => funext fun aE => funext fun aF => funext fun aG => funext fun aI => funext fun aJ => funext fun v => Yc.l0_eq k a0 a1_0_0 a1_0_1 a1_0_2 a1_0_3 aD aE aF aG aI aJ k v) :))
noncomputable def Yl.g {β : Type} (k : Nat) (a0 : List (List D)) (a1_0_0 : Int) (a1_0_1 a1_0_2 a1_0_3 : List (List D)) (K : Bool → Option β) : Option β :=
  Yc.f k a0 a1_0_0 a1_0_1 a1_0_2 a1_0_3 (fun y11 => K (decide ((y11 : Int) ≥ 0)))
noncomputable def Yl.t (k : Nat) (a0 : List (List D)) (a1_0_0 : Int) (a1_0_1 a1_0_2 a1_0_3 : List (List D)) : Option (Bool) := Yl.g k a0 a1_0_0 a1_0_1 a1_0_2 a1_0_3 (fun z0 => some z0)
noncomputable def Yl.f {β : Type} (k : Nat) (a0 : List (List D)) (a1_0_0 : Int) (a1_0_1 a1_0_2 a1_0_3 : List (List D)) (K : Bool → Option β) : Option β := bd1 (Yl.t k a0 a1_0_0 a1_0_1 a1_0_2 a1_0_3) K
noncomputable def Yl.e (k : Nat) : Zk := ent [.d .l, .fn 86 [[.n, .l, .l, .l]]] [1] [.b] [4] false (Yl.t k)
noncomputable def Yl.p (k : Nat) : Pro := ⟨Try.prog, [(151, Yc.e k)], Zn [] false [], k⟩
theorem Yl.ok (k : Nat) : Za Try.prog 85 (Yl.e k) := Zh (Yl.p k) mix tyok Try.func85 (Yc.ok k) (by kernel_rfl) (fun a0 a1_0_0 a1_0_1 a1_0_2 a1_0_3 => by show _ = _; kernel_rfl)
noncomputable def YP.g {β : Type} (k : Nat) (aB : Int) (aC aA aH : List (List D)) (aO : ByteArray) (aM aK : List (List D)) (aN : Int) (K : Bool → Option β) : Option β :=
  YG.f k aB aC aA aH (fun y70 => bif y70 then (YQ.f k aO aM aK aN (fun y71 => bif y71 then (YZ.f k aC aM (fun y72 => bif y72 then (Yl.f k aK aB aC aA aH (fun y73 => K (!y73))) else (K false))) else (K false))) else (K false))
noncomputable def YP.t (k : Nat) (aB : Int) (aC aA aH : List (List D)) (aO : ByteArray) (aM aK : List (List D)) (aN : Int) : Option (Bool) := YP.g k aB aC aA aH aO aM aK aN (fun z0 => some z0)
noncomputable def YP.f {β : Type} (k : Nat) (aB : Int) (aC aA aH : List (List D)) (aO : ByteArray) (aM aK : List (List D)) (aN : Int) (K : Bool → Option β) : Option β := bd1 (YP.t k aB aC aA aH aO aM aK aN) K
noncomputable def YP.e (k : Nat) : Zk := ent [.agg [.n, .l, .l, .l], .agg [.s, .l, .l, .n]] [1] [.b] [4] false (YP.t k)
noncomputable def YP.p (k : Nat) : Pro := ⟨Try.prog, [(27, YG.e k), (29, YQ.e k), (31, YZ.e k), (85, Yl.e k)], Zn [] false [], k⟩
theorem YP.ok (k : Nat) : Za Try.prog 25 (YP.e k) := Zh (YP.p k) mix tyok Try.func25 ⟨YG.ok k, YQ.ok k, YZ.ok k, Yl.ok k⟩ (by kernel_rfl) (fun aB aC aA aH aO aM aK aN => by show _ = _; kernel_rfl)
noncomputable def YB.l0 {β : Type} (k : Nat) (aD aF : Int) (aG : ByteArray) (aI : List (List D)) (K : Bool → Option β) (L0 : Int → Option β) (v : Int) : Option β :=
  match v with
  | aE => bif (decide ((aE : Int) < aD)) then (atR aI aE [.s] fun x20 => (Ye.f k x20 (fun y21 => bif (!y21) then (K false) else (bif (decide ((aE : Int) > 0)) then (atR aI (IntKind.wrap .i64 (aE - 1)) [.s] fun x25 => (atR aI aE [.s] fun x29 => (bif (!(ZbO x25 x29)) then (K false) else (L0 (IntKind.wrap .i64 (aE + 1)))))) else (L0 (IntKind.wrap .i64 (aE + 1))))))) else (Ye.f k aG (fun y30 => bif (!y30) then (K false) else (let J0 := (bif ((aF : Int) == 4) then (bif ((aF : Int) == 4) then (K ((aD : Int) == 0)) else (K false)) else (bif ((aF : Int) == 5) then (K ((aD : Int) == 0)) else (K false))); bif ((aF : Int) == 1) then (bif ((aF : Int) == 1) then (K ((aD : Int) == 1)) else (bif ((aF : Int) == 3) then (YE.f k aD 1 6 (fun y31 => K y31)) else J0)) else (bif ((aF : Int) == 2) then (K ((aD : Int) == 1)) else (bif ((aF : Int) == 3) then (YE.f k aD 1 6 (fun y32 => K y32)) else J0)))))
noncomputable def YB.m {β : Type} (k : Nat) (aB : Int) (aC : ByteArray) (aA : List (List D)) (K : Bool → Option β) (F : (Int → Int → ByteArray → (List (List D)) → Int → Option β)) : Option β :=
  F (aA.length : Int) aB aC aA (0)
noncomputable def YB.g {β : Type} (k : Nat) (aB : Int) (aC : ByteArray) (aA : List (List D)) (K : Bool → Option β) : Option β :=
  Zo (YB.l0 k (aA.length : Int) aB aC aA K) k (0)
noncomputable def YB.t (k : Nat) (aB : Int) (aC : ByteArray) (aA : List (List D)) : Option (Bool) := YB.g k aB aC aA (fun z0 => some z0)
noncomputable def YB.f {β : Type} (k : Nat) (aB : Int) (aC : ByteArray) (aA : List (List D)) (K : Bool → Option β) : Option β := bd1 (YB.t k aB aC aA) K
noncomputable def YB.e (k : Nat) : Zk := ent [.agg [.n, .s, .l]] [1] [.b] [4] false (YB.t k)
noncomputable def YB.p (k : Nat) : Pro := ⟨Try.prog, [(76, Ye.e k), (79, YE.e k)], Zn [(3, kp [1, 3, 4])] false [], k⟩
noncomputable def YB.d (k : Nat) (aB : Int) (aC : ByteArray) (aA : List (List D)) : Ex → St → Option (Bool) := (YB.p k).fin Try.f162 [.agg [.int .i64 aB, .str aC, .sl aA]] [1] [.b]
noncomputable def YB.s0 (aD aF : Int) (aG : ByteArray) (aI : List (List D)) (v : Int) : St :=
  match v with
  | aE => ZX 58 [(1, .bp 0 0), (3, .d true (.int .i64 aD)), (4, .d true (.int .i64 aE))] [.box none 135 [.d false (.int .i64 aF), .d false (.str aG), .d false (.sl aI)]]
noncomputable def YB.r0 (k : Nat) (aB : Int) (aC : ByteArray) (aA : List (List D)) (aD aF : Int) (aG : ByteArray) (aI : List (List D)) (n : Nat) (v : Int) : Option (Bool) := (YB.p k).lp (Zt Try.f162) 3 [1, 1, 0, 1, 0] (YB.d k aB aC aA) n (YB.s0 aD aF aG aI v)
theorem YB.l0_eq (k : Nat) (aB : Int) (aC : ByteArray) (aA : List (List D)) (aD aF : Int) (aG : ByteArray) (aI : List (List D)) : ∀ n v, YB.r0 k aB aC aA aD aF aG aI n v = Zo (YB.l0 k aD aF aG aI (fun z0 => some z0)) n v :=
  Zm (YB.s0 aD aF aG aI) _ fun L0 v => by kernel_rfl
theorem YB.ok (k : Nat) : Za Try.prog 162 (YB.e k) := Zh (YB.p k) mix tyok Try.func162 ⟨Ye.ok k, YE.ok k⟩ (by kernel_rfl) (fun aB aC aA => Eq.trans (b := YB.m k aB aC aA (fun z0 => some z0) (fun aD aF aG aI => YB.r0 k aB aC aA aD aF aG aI k)) (by kernel_rfl) (congrArg (YB.m k aB aC aA (fun z0 => some z0)) (funext fun aD => funext fun aF => funext fun aG => funext fun aI => funext fun v => YB.l0_eq k aB aC aA aD aF aG aI k v) :))
noncomputable def Yf.l0 {β : Type} (k : Nat) (aD : List (List D)) (K : Bool → Option β) (L0 : Int → Option β) (v : Int) : Option β :=
  match v with
  | aE => bif (decide ((aE : Int) < (aD.length : Int))) then (atR aD aE [.n, .s, .l] fun x37 x40 x43 => (YB.f k x37 x40 x43 (fun y44 => bif (!y44) then (K false) else (L0 (IntKind.wrap .i64 (aE + 1)))))) else (K (decide (((aD.length : Int) : Int) ≤ 8)))
noncomputable def Yf.m {β : Type} (k : Nat) (a0 : List (List D)) (K : Bool → Option β) (F : ((List (List D)) → Int → Option β)) : Option β :=
  F a0 (0)
noncomputable def Yf.g {β : Type} (k : Nat) (a0 : List (List D)) (K : Bool → Option β) : Option β :=
  Zo (Yf.l0 k a0 K) k (0)
noncomputable def Yf.t (k : Nat) (a0 : List (List D)) : Option (Bool) := Yf.g k a0 (fun z0 => some z0)
noncomputable def Yf.f {β : Type} (k : Nat) (a0 : List (List D)) (K : Bool → Option β) : Option β := bd1 (Yf.t k a0) K
noncomputable def Yf.e (k : Nat) : Zk := ent [.d .l] [1] [.b] [4] false (Yf.t k)
noncomputable def Yf.p (k : Nat) : Pro := ⟨Try.prog, [(162, YB.e k)], Zn [(2, kp [0, 3])] false [], k⟩
noncomputable def Yf.d (k : Nat) (a0 : List (List D)) : Ex → St → Option (Bool) := (Yf.p k).fin Try.f91 [.d (.sl a0)] [1] [.b]
noncomputable def Yf.s0 (aD : List (List D)) (v : Int) : St :=
  match v with
  | aE => ZX 19 [(0, .d false (.sl aD)), (3, .d true (.int .i64 aE))] []
noncomputable def Yf.r0 (k : Nat) (a0 aD : List (List D)) (n : Nat) (v : Int) : Option (Bool) := (Yf.p k).lp (Zt Try.f91) 2 [1, 0, 1, 0] (Yf.d k a0) n (Yf.s0 aD v)
theorem Yf.l0_eq (k : Nat) (a0 aD : List (List D)) : ∀ n v, Yf.r0 k a0 aD n v = Zo (Yf.l0 k aD (fun z0 => some z0)) n v :=
  Zm (Yf.s0 aD) _ fun L0 v => by kernel_rfl
theorem Yf.ok (k : Nat) : Za Try.prog 91 (Yf.e k) := Zh (Yf.p k) mix tyok Try.func91 (YB.ok k) (by kernel_rfl) (fun a0 => Eq.trans (b := Yf.m k a0 (fun z0 => some z0) (fun aD => Yf.r0 k a0 aD k)) (by kernel_rfl) (congrArg (Yf.m k a0 (fun z0 => some z0)) (funext fun aD => funext fun v => Yf.l0_eq k a0 aD k v) :))
noncomputable def Yk.l0 {β : Type} (k : Nat) (aD : List (List D)) (aE : Int) (K : Bool → Option β) (L0 : Int → Option β) (v : Int) : Option β :=
  match v with
  | aF => bif (decide ((aF : Int) < (aD.length : Int))) then (atR aD aF [.s] fun x17 => (Ye.f k x17 (fun y18 => bif (!y18) then (K false) else (bif (decide ((aF : Int) > 0)) then (atR aD (IntKind.wrap .i64 (aF - 1)) [.s] fun x22 => (atR aD aF [.s] fun x26 => (bif (!(ZbO x22 x26)) then (K false) else (L0 (IntKind.wrap .i64 (aF + 1)))))) else (L0 (IntKind.wrap .i64 (aF + 1))))))) else (K (decide (((aD.length : Int) : Int) ≤ aE)))
noncomputable def Yk.m {β : Type} (k : Nat) (a0 : List (List D)) (a1 : Int) (K : Bool → Option β) (F : ((List (List D)) → Int → Int → Option β)) : Option β :=
  F a0 a1 (0)
noncomputable def Yk.g {β : Type} (k : Nat) (a0 : List (List D)) (a1 : Int) (K : Bool → Option β) : Option β :=
  Zo (Yk.l0 k a0 a1 K) k (0)
noncomputable def Yk.t (k : Nat) (a0 : List (List D)) (a1 : Int) : Option (Bool) := Yk.g k a0 a1 (fun z0 => some z0)
noncomputable def Yk.f {β : Type} (k : Nat) (a0 : List (List D)) (a1 : Int) (K : Bool → Option β) : Option β := bd1 (Yk.t k a0 a1) K
noncomputable def Yk.e (k : Nat) : Zk := ent [.d .l, .d .n] [1] [.b] [4] false (Yk.t k)
noncomputable def Yk.p (k : Nat) : Pro := ⟨Try.prog, [(76, Ye.e k)], Zn [(2, kp [0, 1, 5])] false [], k⟩
noncomputable def Yk.d (k : Nat) (a0 : List (List D)) (a1 : Int) : Ex → St → Option (Bool) := (Yk.p k).fin Try.f92 [.d (.sl a0), .d (.int .i64 a1)] [1] [.b]
noncomputable def Yk.s0 (aD : List (List D)) (aE v : Int) : St :=
  match v with
  | aF => ZX 38 [(0, .d false (.sl aD)), (1, .d false (.int .i64 aE)), (5, .d true (.int .i64 aF))] []
noncomputable def Yk.r0 (k : Nat) (a0 : List (List D)) (a1 : Int) (aD : List (List D)) (aE : Int) (n : Nat) (v : Int) : Option (Bool) := (Yk.p k).lp (Zt Try.f92) 2 [1, 0, 1, 0] (Yk.d k a0 a1) n (Yk.s0 aD aE v)
theorem Yk.l0_eq (k : Nat) (a0 : List (List D)) (a1 : Int) (aD : List (List D)) (aE : Int) : ∀ n v, Yk.r0 k a0 a1 aD aE n v = Zo (Yk.l0 k aD aE (fun z0 => some z0)) n v :=
  Zm (Yk.s0 aD aE) _ fun L0 v => by kernel_rfl
theorem Yk.ok (k : Nat) : Za Try.prog 92 (Yk.e k) := Zh (Yk.p k) mix tyok Try.func92 (Ye.ok k) (by kernel_rfl) (fun a0 a1 => Eq.trans (b := Yk.m k a0 a1 (fun z0 => some z0) (fun aD aE => Yk.r0 k a0 a1 aD aE k)) (by kernel_rfl) (congrArg (Yk.m k a0 a1 (fun z0 => some z0)) (funext fun aD => funext fun aE => funext fun v => Yk.l0_eq k a0 a1 aD aE k v) :))
noncomputable def Yo.l0 {β : Type} (k : Nat) (aE : Int) (aF aG aI : List (List D)) (K : Bool → Option β) (L0 : Int → Option β) (v : Int) : Option β :=
  match v with
  | aD => bif (decide ((aD : Int) < (aI.length : Int))) then (atR aI aD [.s, .n] fun x50 x53 => (Ye.f k x50 (fun y54 => bif (!y54) then (K false) else (atR aI aD [.s, .n] fun x58 x61 => (YE.f k x61 0 1000 (fun y62 => bif (!y62) then (K false) else (bif (decide ((aD : Int) > 0)) then (atR aI (IntKind.wrap .i64 (aD - 1)) [.s, .n] fun x66 x69 => (atR aI aD [.s, .n] fun x73 x76 => (bif (!(ZbO x66 x73)) then (K false) else (L0 (IntKind.wrap .i64 (aD + 1)))))) else (L0 (IntKind.wrap .i64 (aD + 1)))))))))) else (YE.f k aE 0 10000 (fun y77 => bif y77 then (Yf.f k aF (fun y78 => bif y78 then (Yk.f k aG 8 (fun y79 => bif y79 then (K (decide (((aI.length : Int) : Int) ≤ 12))) else (K false))) else (K false))) else (K false)))
noncomputable def Yo.m {β : Type} (k : Nat) (aB : Int) (aC aA aH : List (List D)) (K : Bool → Option β) (F : (Int → (List (List D)) → (List (List D)) → (List (List D)) → Int → Option β)) : Option β :=
  F aB aC aA aH (0)
noncomputable def Yo.g {β : Type} (k : Nat) (aB : Int) (aC aA aH : List (List D)) (K : Bool → Option β) : Option β :=
  Zo (Yo.l0 k aB aC aA aH K) k (0)
noncomputable def Yo.t (k : Nat) (aB : Int) (aC aA aH : List (List D)) : Option (Bool) := Yo.g k aB aC aA aH (fun z0 => some z0)
noncomputable def Yo.f {β : Type} (k : Nat) (aB : Int) (aC aA aH : List (List D)) (K : Bool → Option β) : Option β := bd1 (Yo.t k aB aC aA aH) K
noncomputable def Yo.e (k : Nat) : Zk := ent [.agg [.n, .l, .l, .l]] [1] [.b] [4] false (Yo.t k)
noncomputable def Yo.p (k : Nat) : Pro := ⟨Try.prog, [(76, Ye.e k), (79, YE.e k), (91, Yf.e k), (92, Yk.e k)], Zn [(2, kp [1, 3])] false [], k⟩
noncomputable def Yo.d (k : Nat) (aB : Int) (aC aA aH : List (List D)) : Ex → St → Option (Bool) := (Yo.p k).fin Try.f28 [.agg [.int .i64 aB, .sl aC, .sl aA, .sl aH]] [1] [.b]
noncomputable def Yo.s0 (aE : Int) (aF aG aI : List (List D)) (v : Int) : St :=
  match v with
  | aD => ZX 68 [(1, .bp 0 0), (3, .d true (.int .i64 aD))] [.box none 44 [.d false (.int .i64 aE), .d false (.sl aF), .d false (.sl aG), .d false (.sl aI)]]
noncomputable def Yo.r0 (k : Nat) (aB : Int) (aC aA aH : List (List D)) (aE : Int) (aF aG aI : List (List D)) (n : Nat) (v : Int) : Option (Bool) := (Yo.p k).lp (Zt Try.f28) 2 [1, 0, 1, 0] (Yo.d k aB aC aA aH) n (Yo.s0 aE aF aG aI v)
theorem Yo.l0_eq (k : Nat) (aB : Int) (aC aA aH : List (List D)) (aE : Int) (aF aG aI : List (List D)) : ∀ n v, Yo.r0 k aB aC aA aH aE aF aG aI n v = Zo (Yo.l0 k aE aF aG aI (fun z0 => some z0)) n v :=
  Zm (Yo.s0 aE aF aG aI) _ fun L0 v => by kernel_rfl
theorem Yo.ok (k : Nat) : Za Try.prog 28 (Yo.e k) := Zh (Yo.p k) mix tyok Try.func28 ⟨Ye.ok k, YE.ok k, Yf.ok k, Yk.ok k⟩ (by kernel_rfl) (fun aB aC aA aH => Eq.trans (b := Yo.m k aB aC aA aH (fun z0 => some z0) (fun aE aF aG aI => Yo.r0 k aB aC aA aH aE aF aG aI k)) (by kernel_rfl) (congrArg (Yo.m k aB aC aA aH (fun z0 => some z0)) (funext fun aE => funext fun aF => funext fun aG => funext fun aI => funext fun v => Yo.l0_eq k aB aC aA aH aE aF aG aI k v) :))
noncomputable def Yv.g {β : Type} (k : Nat) (aB : ByteArray) (aC aA : List (List D)) (aH : Int) (K : Bool → Option β) : Option β :=
  Ye.f k aB (fun y1 => bif y1 then (Yi.f k aC (fun y2 => bif y2 then (Yk.f k aA 4 (fun y3 => bif y3 then (YE.f k aH 0 10000 (fun y4 => K y4)) else (K false))) else (K false))) else (K false))
noncomputable def Yv.t (k : Nat) (aB : ByteArray) (aC aA : List (List D)) (aH : Int) : Option (Bool) := Yv.g k aB aC aA aH (fun z0 => some z0)
noncomputable def Yv.f {β : Type} (k : Nat) (aB : ByteArray) (aC aA : List (List D)) (aH : Int) (K : Bool → Option β) : Option β := bd1 (Yv.t k aB aC aA aH) K
noncomputable def Yv.e (k : Nat) : Zk := ent [.agg [.s, .l, .l, .n]] [1] [.b] [4] false (Yv.t k)
noncomputable def Yv.p (k : Nat) : Pro := ⟨Try.prog, [(76, Ye.e k), (94, Yi.e k), (92, Yk.e k), (79, YE.e k)], Zn [] false [], k⟩
theorem Yv.ok (k : Nat) : Za Try.prog 30 (Yv.e k) := Zh (Yv.p k) mix tyok Try.func30 ⟨Ye.ok k, Yi.ok k, Yk.ok k, YE.ok k⟩ (by kernel_rfl) (fun aB aC aA aH => by show _ = _; kernel_rfl)
noncomputable def Yr.l0 {β : Type} (k : Nat) (aD : List (List D)) (aE : ByteArray) (K : Bool → Option β) (L0 : Int → Option β) (v : Int) : Option β :=
  match v with
  | aF => bif (decide ((aF : Int) < (aD.length : Int))) then (atR aD aF [.s] fun x8 => (bif (Zae x8 aE) then (K true) else (L0 (IntKind.wrap .i64 (aF + 1))))) else (K false)
noncomputable def Yr.m {β : Type} (k : Nat) (a0 : List (List D)) (a1 : ByteArray) (K : Bool → Option β) (F : ((List (List D)) → ByteArray → Int → Option β)) : Option β :=
  F a0 a1 (0)
noncomputable def Yr.g {β : Type} (k : Nat) (a0 : List (List D)) (a1 : ByteArray) (K : Bool → Option β) : Option β :=
  Zo (Yr.l0 k a0 a1 K) k (0)
noncomputable def Yr.t (k : Nat) (a0 : List (List D)) (a1 : ByteArray) : Option (Bool) := Yr.g k a0 a1 (fun z0 => some z0)
noncomputable def Yr.f {β : Type} (k : Nat) (a0 : List (List D)) (a1 : ByteArray) (K : Bool → Option β) : Option β := bd1 (Yr.t k a0 a1) K
noncomputable def Yr.e (k : Nat) : Zk := ent [.d .l, .d .s] [1] [.b] [4] false (Yr.t k)
noncomputable def Yr.p (k : Nat) : Pro := ⟨Try.prog, [], Zn [(2, kp [0, 1, 5])] false [], k⟩
noncomputable def Yr.d (k : Nat) (a0 : List (List D)) (a1 : ByteArray) : Ex → St → Option (Bool) := (Yr.p k).fin Try.f78 [.d (.sl a0), .d (.str a1)] [1] [.b]
noncomputable def Yr.s0 (aD : List (List D)) (aE : ByteArray) (v : Int) : St :=
  match v with
  | aF => ZX 18 [(0, .d false (.sl aD)), (1, .d false (.str aE)), (5, .d true (.int .i64 aF))] []
noncomputable def Yr.r0 (k : Nat) (a0 : List (List D)) (a1 : ByteArray) (aD : List (List D)) (aE : ByteArray) (n : Nat) (v : Int) : Option (Bool) := (Yr.p k).lp (Zt Try.f78) 2 [1, 0, 1, 0] (Yr.d k a0 a1) n (Yr.s0 aD aE v)
theorem Yr.l0_eq (k : Nat) (a0 : List (List D)) (a1 : ByteArray) (aD : List (List D)) (aE : ByteArray) : ∀ n v, Yr.r0 k a0 a1 aD aE n v = Zo (Yr.l0 k aD aE (fun z0 => some z0)) n v :=
  Zm (Yr.s0 aD aE) _ fun L0 v => by kernel_rfl
theorem Yr.ok (k : Nat) : Za Try.prog 78 (Yr.e k) := Zh (Yr.p k) mix tyok Try.func78 trivial (by kernel_rfl) (fun a0 a1 => Eq.trans (b := Yr.m k a0 a1 (fun z0 => some z0) (fun aD aE => Yr.r0 k a0 a1 aD aE k)) (by kernel_rfl) (congrArg (Yr.m k a0 a1 (fun z0 => some z0)) (funext fun aD => funext fun aE => funext fun v => Yr.l0_eq k a0 a1 aD aE k v) :))
noncomputable def YO.g {β : Type} (k : Nat) (aB : Int) (aC : ByteArray) (aA : List (List D)) (a1 : ByteArray) (a2 : Bool) (K : Bool → Option β) : Option β :=
  bif ((aB : Int) == 1) then (bif ((aB : Int) == 1) then (bif a2 then (Yr.f k aA a1 (fun y9 => K y9)) else (K false)) else (bif ((aB : Int) == 2) then (bif (!a2) then (K true) else (Yr.f k aA a1 (fun y10 => K (!y10)))) else (bif ((aB : Int) == 4) then (K a2) else (K (!a2))))) else (bif ((aB : Int) == 3) then (bif a2 then (Yr.f k aA a1 (fun y11 => K y11)) else (K false)) else (bif ((aB : Int) == 2) then (bif (!a2) then (K true) else (Yr.f k aA a1 (fun y12 => K (!y12)))) else (bif ((aB : Int) == 4) then (K a2) else (K (!a2)))))
noncomputable def YO.t (k : Nat) (aB : Int) (aC : ByteArray) (aA : List (List D)) (a1 : ByteArray) (a2 : Bool) : Option (Bool) := YO.g k aB aC aA a1 a2 (fun z0 => some z0)
noncomputable def YO.f {β : Type} (k : Nat) (aB : Int) (aC : ByteArray) (aA : List (List D)) (a1 : ByteArray) (a2 : Bool) (K : Bool → Option β) : Option β := bd1 (YO.t k aB aC aA a1 a2) K
noncomputable def YO.e (k : Nat) : Zk := ent [.agg [.n, .s, .l], .d .s, .d .b] [1] [.b] [4] false (YO.t k)
noncomputable def YO.p (k : Nat) : Pro := ⟨Try.prog, [(78, Yr.e k)], Zn [] false [], k⟩
theorem YO.ok (k : Nat) : Za Try.prog 159 (YO.e k) := Zh (YO.p k) mix tyok Try.func159 (Yr.ok k) (by kernel_rfl) (fun aB aC aA a1 a2 => by show _ = _; kernel_rfl)
noncomputable def Yp.l0 {β : Type} (k : Nat) (aD aE : List (List D)) (K : Bool → Option β) (L0 : Int → Option β) (v : Int) : Option β :=
  match v with
  | aF => bif (decide ((aF : Int) < (aD.length : Int))) then (atR aD aF [.n, .s, .l] fun x29 x32 x35 => (Yj.f k aE x32 (fun y36 y37 => atR aD aF [.n, .s, .l] fun x41 x44 x47 => (YO.f k x41 x44 x47 y36 y37 (fun y48 => bif (!y48) then (K false) else (L0 (IntKind.wrap .i64 (aF + 1)))))))) else (K true)
noncomputable def Yp.m {β : Type} (k : Nat) (a0 a1 : List (List D)) (K : Bool → Option β) (F : ((List (List D)) → (List (List D)) → Int → Option β)) : Option β :=
  Yf.f k a0 (fun y1 => bif (!y1) then (K false) else (Yi.f k a1 (fun y2 => bif (!y2) then (K false) else (F a0 a1 (0)))))
noncomputable def Yp.g {β : Type} (k : Nat) (a0 a1 : List (List D)) (K : Bool → Option β) : Option β :=
  Yf.f k a0 (fun y1 => bif (!y1) then (K false) else (Yi.f k a1 (fun y2 => bif (!y2) then (K false) else (Zo (Yp.l0 k a0 a1 K) k (0)))))
noncomputable def Yp.t (k : Nat) (a0 a1 : List (List D)) : Option (Bool) := Yp.g k a0 a1 (fun z0 => some z0)
noncomputable def Yp.f {β : Type} (k : Nat) (a0 a1 : List (List D)) (K : Bool → Option β) : Option β := bd1 (Yp.t k a0 a1) K
noncomputable def Yp.e (k : Nat) : Zk := ent [.d .l, .d .l] [1] [.b] [4] false (Yp.t k)
noncomputable def Yp.p (k : Nat) : Pro := ⟨Try.prog, [(91, Yf.e k), (94, Yi.e k), (158, Yj.e k), (159, YO.e k)], Zn [(4, kp [0, 1, 5])] false [], k⟩
noncomputable def Yp.d (k : Nat) (a0 a1 : List (List D)) : Ex → St → Option (Bool) := (Yp.p k).fin Try.f87 [.d (.sl a0), .d (.sl a1)] [1] [.b]
noncomputable def Yp.s0 (aD aE : List (List D)) (v : Int) : St :=
  match v with
  | aF => ZX 40 [(0, .d false (.sl aD)), (1, .d false (.sl aE)), (5, .d true (.int .i64 aF))] []
noncomputable def Yp.r0 (k : Nat) (a0 a1 aD aE : List (List D)) (n : Nat) (v : Int) : Option (Bool) := (Yp.p k).lp (Zt Try.f87) 4 [1, 1, 0, 1, 0] (Yp.d k a0 a1) n (Yp.s0 aD aE v)
theorem Yp.l0_eq (k : Nat) (a0 a1 aD aE : List (List D)) : ∀ n v, Yp.r0 k a0 a1 aD aE n v = Zo (Yp.l0 k aD aE (fun z0 => some z0)) n v :=
  Zm (Yp.s0 aD aE) _ fun L0 v => by kernel_rfl
theorem Yp.ok (k : Nat) : Za Try.prog 87 (Yp.e k) := Zh (Yp.p k) mix tyok Try.func87 ⟨Yf.ok k, Yi.ok k, Yj.ok k, YO.ok k⟩ (by kernel_rfl) (fun a0 a1 => Eq.trans (b := Yp.m k a0 a1 (fun z0 => some z0) (fun aD aE => Yp.r0 k a0 a1 aD aE k)) (by kernel_rfl) (congrArg (Yp.m k a0 a1 (fun z0 => some z0)) (funext fun aD => funext fun aE => funext fun v => Yp.l0_eq k a0 a1 aD aE k v) :))
noncomputable def Yw.l0 {β : Type} (k : Nat) (aE : Int) (aF aG aI : List (List D)) (aJ : ByteArray) (aL aQ : List (List D)) (aR : Int) (K : Bool → Option β) (L0 : Int → Option β) (v : Int) : Option β :=
  match v with
  | aD => bif (decide ((aD : Int) < (aQ.length : Int))) then (atR aQ aD [.s] fun x91 => (Yr.f k aG x91 (fun y92 => bif (!y92) then (K false) else (L0 (IntKind.wrap .i64 (aD + 1)))))) else (K true)
noncomputable def Yw.m {β : Type} (k : Nat) (aB : Int) (aC aA aH : List (List D)) (aO : ByteArray) (aM aK : List (List D)) (aN : Int) (K : Bool → Option β) (F : (Int → (List (List D)) → (List (List D)) → (List (List D)) → ByteArray → (List (List D)) → (List (List D)) → Int → Int → Option β)) : Option β :=
  Yo.f k aB aC aA aH (fun y80 => bif (!y80) then (K false) else (Yv.f k aO aM aK aN (fun y81 => bif (!y81) then (K false) else (Yp.f k aC aM (fun y82 => bif (!y82) then (K false) else (F aB aC aA aH aO aM aK aN (0)))))))
noncomputable def Yw.g {β : Type} (k : Nat) (aB : Int) (aC aA aH : List (List D)) (aO : ByteArray) (aM aK : List (List D)) (aN : Int) (K : Bool → Option β) : Option β := Yw.m k aB aC aA aH aO aM aK aN K (fun aE aF aG aI aJ aL aQ aR => Zo (Yw.l0 k aE aF aG aI aJ aL aQ aR K) k)
noncomputable def Yw.t (k : Nat) (aB : Int) (aC aA aH : List (List D)) (aO : ByteArray) (aM aK : List (List D)) (aN : Int) : Option (Bool) := Yw.g k aB aC aA aH aO aM aK aN (fun z0 => some z0)
noncomputable def Yw.f {β : Type} (k : Nat) (aB : Int) (aC aA aH : List (List D)) (aO : ByteArray) (aM aK : List (List D)) (aN : Int) (K : Bool → Option β) : Option β := bd1 (Yw.t k aB aC aA aH aO aM aK aN) K
noncomputable def Yw.e (k : Nat) : Zk := ent [.agg [.n, .l, .l, .l], .agg [.s, .l, .l, .n]] [1] [.b] [4] false (Yw.t k)
noncomputable def Yw.p (k : Nat) : Pro := ⟨Try.prog, [(28, Yo.e k), (30, Yv.e k), (87, Yp.e k), (78, Yr.e k)], Zn [(4, kp [2, 3, 5])] false [], k⟩
noncomputable def Yw.d (k : Nat) (aB : Int) (aC aA aH : List (List D)) (aO : ByteArray) (aM aK : List (List D)) (aN : Int) : Ex → St → Option (Bool) := (Yw.p k).fin Try.f26 [.agg [.int .i64 aB, .sl aC, .sl aA, .sl aH], .agg [.str aO, .sl aM, .sl aK, .int .i64 aN]] [1] [.b]
noncomputable def Yw.s0 (aE : Int) (aF aG aI : List (List D)) (aJ : ByteArray) (aL aQ : List (List D)) (aR v : Int) : St :=
  match v with
  | aD => ZX 38 [(2, .bp 0 0), (3, .bp 1 0), (5, .d true (.int .i64 aD))] [.box none 44 [.d false (.int .i64 aE), .d false (.sl aF), .d false (.sl aG), .d false (.sl aI)], .box none 47 [.d false (.str aJ), .d false (.sl aL), .d false (.sl aQ), .d false (.int .i64 aR)]]
noncomputable def Yw.r0 (k : Nat) (aB : Int) (aC aA aH : List (List D)) (aO : ByteArray) (aM aK : List (List D)) (aN aE : Int) (aF aG aI : List (List D)) (aJ : ByteArray) (aL aQ : List (List D)) (aR : Int) (n : Nat) (v : Int) : Option (Bool) := (Yw.p k).lp (Zt Try.f26) 4 [1, 1, 0, 1, 0] (Yw.d k aB aC aA aH aO aM aK aN) n (Yw.s0 aE aF aG aI aJ aL aQ aR v)
theorem Yw.l0_eq (k : Nat) (aB : Int) (aC aA aH : List (List D)) (aO : ByteArray) (aM aK : List (List D)) (aN aE : Int) (aF aG aI : List (List D)) (aJ : ByteArray) (aL aQ : List (List D)) (aR : Int) : ∀ n v, Yw.r0 k aB aC aA aH aO aM aK aN aE aF aG aI aJ aL aQ aR n v = Zo (Yw.l0 k aE aF aG aI aJ aL aQ aR (fun z0 => some z0)) n v :=
  Zm (Yw.s0 aE aF aG aI aJ aL aQ aR) _ fun L0 v => by kernel_rfl
theorem Yw.ok (k : Nat) : Za Try.prog 26 (Yw.e k) := Zh (Yw.p k) mix tyok Try.func26 ⟨Yo.ok k, Yv.ok k, Yp.ok k, Yr.ok k⟩ (by kernel_rfl) (fun aB aC aA aH aO aM aK aN => Eq.trans (b := Yw.m k aB aC aA aH aO aM aK aN (fun z0 => some z0) (fun aE aF aG aI aJ aL aQ aR => Yw.r0 k aB aC aA aH aO aM aK aN aE aF aG aI aJ aL aQ aR k)) (by kernel_rfl) (congrArg (Yw.m k aB aC aA aH aO aM aK aN (fun z0 => some z0)) (funext fun aE => funext fun aF => funext fun aG => funext fun aI => funext fun aJ => funext fun aL => funext fun aQ => funext fun aR => funext fun v => Yw.l0_eq k aB aC aA aH aO aM aK aN aE aF aG aI aJ aL aQ aR k v) :))
noncomputable def Y4.g {β : Type} (k : Nat) (a0 : List (List D)) (K : Bool → Option β) : Option β :=
  Y5.f k a0 (fun y1 => bif y1 then (K true) else (YM.f k a0 (fun y44 y45 y46 y47 y48 y49 y50 y51 => YP.f k y44 y45 y46 y47 y48 (C.immRows y49) (C.immRows y50) y51 (fun y74 => Yw.f k y44 y45 y46 y47 y48 (C.immRows y49) (C.immRows y50) y51 (fun y93 => bif (!(y74 == y93)) then (K false) else (YG.f k y44 y45 y46 y47 (fun y94 => Yo.f k y44 y45 y46 y47 (fun y95 => bif (!(y94 == y95)) then (K false) else (YQ.f k y48 (C.immRows y49) (C.immRows y50) y51 (fun y96 => Yv.f k y48 (C.immRows y49) (C.immRows y50) y51 (fun y97 => bif (!(y96 == y97)) then (K false) else (Yo.f k y44 y45 y46 y47 (fun y98 => bif (!y98) then (K (!y74)) else (Yv.f k y48 (C.immRows y49) (C.immRows y50) y51 (fun y99 => bif (!y99) then (K (!y74)) else (YP.f k y44 ([] : List (List D)) y46 y47 y48 (C.immRows y49) ([] : List (List D)) y51 (fun y100 => bif y100 then (YP.f k y44 y45 y46 y47 y48 (C.immRows y49) ([[.str (⟨#[110, 111, 116, 45, 98, 111, 114, 110, 101]⟩ : ByteArray)]] : List (List D)) y51 (fun y101 => bif (!y101) then (bif (!y74) then (K true) else (YZ.f k y45 (C.immRows y49) (fun y102 => K y102))) else (K false))) else (K false))))))))))))))))))
noncomputable def Y4.t (k : Nat) (a0 : List (List D)) : Option (Bool) := Y4.g k a0 (fun z0 => some z0)
noncomputable def Y4.e (k : Nat) : Zk := ent [.d .l] [1] [.b] [4] false (Y4.t k)
noncomputable def Y4.p (k : Nat) : Pro := ⟨Try.prog, [(11, Y5.e k), (24, YM.e k), (25, YP.e k), (26, Yw.e k), (27, YG.e k), (28, Yo.e k), (29, YQ.e k), (30, Yv.e k), (31, YZ.e k)], Zn [] false [], k⟩
theorem Y4.ok (k : Nat) : Za Try.prog 5 (Y4.e k) := Zh (Y4.p k) mix tyok Try.func5 ⟨Y5.ok k, YM.ok k, YP.ok k, Yw.ok k, YG.ok k, Yo.ok k, YQ.ok k, Yv.ok k, YZ.ok k⟩ (by kernel_rfl) (fun a0 => by show _ = _; kernel_rfl)
end Go.Proofs.Ytpgplbalenfgfaa
