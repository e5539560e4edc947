/- Printed: the functions that FnOnce reaches, read by the evaluator, each with its contract. -/
import Derived.Test.YtpgplbalenfgfaaTLibs
import Derived.Test.YtpgplbalenfgfaaProg
import Derived.KernelRfl
set_option linter.unusedVariables false
set_option linter.unusedSimpArgs false
namespace Go.Proofs.Ytpgplbalenfgfaa
open Go Go.T Go.Proofs
theorem mix : Try.prog.follows .mixedOrders = true := by kernel_rfl
theorem tyok : ZaI Try.prog := tyOk_of (by kernel_rfl)
noncomputable def YW.g {β : Type} (k : Nat) (a0 : List (List D)) (K : Bool → Option β) : Option β :=
  K (decide (((a0.length : Int) : Int) > 1048576))
noncomputable def YW.t (k : Nat) (a0 : List (List D)) : Option (Bool) := YW.g k a0 (fun z0 => some z0)
noncomputable def YW.f {β : Type} (k : Nat) (a0 : List (List D)) (K : Bool → Option β) : Option β := bd1 (YW.t k a0) K
noncomputable def YW.e (k : Nat) : Zk := ent [.d .l] [1] [.b] [4] false (YW.t k)
noncomputable def YW.p (k : Nat) : Pro := ⟨Try.prog, [], Zn [] false [], k⟩
theorem YW.ok (k : Nat) : Za Try.prog 11 (YW.e k) := Zh (YW.p k) mix tyok Try.func11 trivial (by kernel_rfl) (fun a0 => by show _ = _; kernel_rfl)
noncomputable def Yx.l0 {β : Type} (k : Nat) (aD : List (List D)) (K : (List (List D)) → Int → Int → Option β) (L0 : (Int × Int) → Option β) (v : Int × Int) : Option β :=
  match v with
  | (aE, aF) => bif (decide ((aF : Int) < (aD.length : Int))) then (bif (decide ((aF : Int) < 4000)) then (atR aD aF [.i .u8] fun x8 => (L0 (IntKind.wrap .i64 ((BitVec.ofInt (IntKind.bits .i64) (IntKind.wrap .i64 ((IntKind.wrap .i64 ((IntKind.wrap .i64 (aE * 137)) + (IntKind.wrap .i64 x8))) + 11)) &&& BitVec.ofInt (IntKind.bits .i64) 1073741823).toNat), IntKind.wrap .i64 (aF + 1)))) else (K aD 0 aE)) else (K aD 0 aE)
noncomputable def Yx.m {β : Type} (k : Nat) (a0 : List (List D)) (K : (List (List D)) → Int → Int → Option β) (F : ((List (List D)) → (Int × Int) → Option β)) : Option β :=
  F a0 (IntKind.wrap .i64 (138138 + (a0.length : Int)), 0)
noncomputable def Yx.g {β : Type} (k : Nat) (a0 : List (List D)) (K : (List (List D)) → Int → Int → Option β) : Option β :=
  Zo (Yx.l0 k a0 K) k (IntKind.wrap .i64 (138138 + (a0.length : Int)), 0)
noncomputable def Yx.t (k : Nat) (a0 : List (List D)) : Option ((List (List D)) × Int × Int) := Yx.g k a0 (fun z0 z1 z2 => some (z0, z1, z2))
noncomputable def Yx.f {β : Type} (k : Nat) (a0 : List (List D)) (K : (List (List D)) → Int → Int → Option β) : Option β := bd3 (Yx.t k a0) K
noncomputable def Yx.e (k : Nat) : Zk := ent [.d .l] [3] [.l, .n, .n] [106] true (Yx.t k)
noncomputable def Yx.p (k : Nat) : Pro := ⟨Try.prog, [], Zn [(3, kp [0, 3, 4])] true [], k⟩
noncomputable def Yx.d (k : Nat) (a0 : List (List D)) : Ex → St → Option ((List (List D)) × Int × Int) := (Yx.p k).fin Try.f58 [.d (.sl a0)] [3] [.l, .n, .n]
noncomputable def Yx.s0 (aD : List (List D)) (v : Int × Int) : St :=
  match v with
  | (aE, aF) => ZX 32 [(0, .d false (.sl aD)), (3, .d true (.int .i64 aE)), (4, .d true (.int .i64 aF))] []
noncomputable def Yx.r0 (k : Nat) (a0 aD : List (List D)) (n : Nat) (v : Int × Int) : Option ((List (List D)) × Int × Int) := (Yx.p k).lp (Zt Try.f58) 3 [1, 1, 0, 1, 0] (Yx.d k a0) n (Yx.s0 aD v)
theorem Yx.l0_eq (k : Nat) (a0 aD : List (List D)) : ∀ n v, Yx.r0 k a0 aD n v = Zo (Yx.l0 k aD (fun z0 z1 z2 => some (z0, z1, z2))) n v :=
  Zm (Yx.s0 aD) _ fun L0 v => by obtain ⟨aE, aF⟩ := v; kernel_rfl
theorem Yx.ok (k : Nat) : Za Try.prog 58 (Yx.e k) := Zh (Yx.p k) mix tyok Try.func58 trivial (by kernel_rfl) (fun a0 => Eq.trans (b := Yx.m k a0 (fun z0 z1 z2 => some (z0, z1, z2)) (fun aD => Yx.r0 k a0 aD k)) (by kernel_rfl) (congrArg (Yx.m k a0 (fun z0 z1 z2 => some (z0, z1, z2))) (funext fun aD => funext fun v => Yx.l0_eq k a0 aD k v) :))
noncomputable def YM.g {β : Type} (k : Nat) (a0 : List (List D)) (a1 : Int) (K : Int → Option β) : Option β :=
  let J0 := (IntKind.wrap .i64 (3 + (IntKind.wrap .i64 (Int.tdiv (a0.length : Int) 12)))); Zc ((12 : Int) ≠ 0) (bif (decide ((J0 : Int) > a1)) then (K a1) else (K J0))
noncomputable def YM.t (k : Nat) (a0 : List (List D)) (a1 : Int) : Option (Int) := YM.g k a0 a1 (fun z0 => some z0)
noncomputable def YM.f {β : Type} (k : Nat) (a0 : List (List D)) (a1 : Int) (K : Int → Option β) : Option β := bd1 (YM.t k a0 a1) K
noncomputable def YM.e (k : Nat) : Zk := ent [.d .l, .d .n] [1] [.n] [3] false (YM.t k)
noncomputable def YM.p (k : Nat) : Pro := ⟨Try.prog, [], Zn [] false [], k⟩
theorem YM.ok (k : Nat) : Za Try.prog 60 (YM.e k) := Zh (YM.p k) mix tyok Try.func60 trivial (by kernel_rfl) (fun a0 a1 => by show _ = _; kernel_rfl)
noncomputable def YG.g {β : Type} (k : Nat) (aB : List (List D)) (aA aC : Int) (K : Int → (List (List D)) → Int → Int → Option β) : Option β :=
  let J1 := (IntKind.wrap .i64 ((IntKind.wrap .i64 (aC * 6364136223846793005)) + 1442695040888963407)); let J0 := (IntKind.wrap .i64 ((BitVec.ofInt (IntKind.bits .i64) (IntKind.wrap .i64 ((BitVec.ofInt (IntKind.bits .i64) (Int.fdiv J1 (2 ^ (min (33 : Int).toNat 64))) ^^^ BitVec.ofInt (IntKind.bits .i64) (Int.fdiv J1 (2 ^ (min (47 : Int).toNat 64)))).toNat)) &&& BitVec.ofInt (IntKind.bits .i64) 255).toNat)); Zc ((0 : Int) ≤ 33) (Zc ((0 : Int) ≤ 47) (bif (decide ((aA : Int) < (aB.length : Int))) then (atR aB aA [.i .u8] fun x4 => (K (IntKind.wrap .i64 ((BitVec.ofInt (IntKind.bits .i64) (IntKind.wrap .i64 (J0 + (IntKind.wrap .i64 x4))) &&& BitVec.ofInt (IntKind.bits .i64) 255).toNat)) aB (IntKind.wrap .i64 (aA + 1)) J1)) else (K J0 aB aA J1)))
noncomputable def YG.t (k : Nat) (aB : List (List D)) (aA aC : Int) : Option (Int × (List (List D)) × Int × Int) := YG.g k aB aA aC (fun z0 z1 z2 z3 => some (z0, z1, z2, z3))
noncomputable def YG.f {β : Type} (k : Nat) (aB : List (List D)) (aA aC : Int) (K : Int → (List (List D)) → Int → Int → Option β) : Option β := bd4 (YG.t k aB aA aC) K
noncomputable def YG.e (k : Nat) : Zk := ent [.box 178 [.l, .n, .n]] [1] [.n, .l, .n, .n] [3] false (YG.t k)
noncomputable def YG.p (k : Nat) : Pro := ⟨Try.prog, [], Zn [] false [], k⟩
theorem YG.ok (k : Nat) : Za Try.prog 174 (YG.e k) := Zh (YG.p k) mix tyok Try.func174 trivial (by kernel_rfl) (fun aB aA aC => by show _ = _; kernel_rfl)
noncomputable def Yp.g {β : Type} (k : Nat) (aB : List (List D)) (aA aC a1 : Int) (K : Int → (List (List D)) → Int → Int → Option β) : Option β :=
  bif (decide ((a1 : Int) ≤ 0)) then (K 0 aB aA aC) else (bif (decide ((a1 : Int) ≤ 256)) then (YG.f k aB aA aC (fun y5 y6 y7 y8 => Zc ((a1 : Int) ≠ 0) (K (Int.tmod y5 a1) y6 y7 y8))) else (YG.f k aB aA aC (fun y9 y10 y11 y12 => YG.f k y10 y11 y12 (fun y13 y14 y15 y16 => YG.f k y14 y15 y16 (fun y17 y18 y19 y20 => Zc ((a1 : Int) ≠ 0) (K (Int.tmod (IntKind.wrap .i64 ((IntKind.wrap .i64 ((IntKind.wrap .i64 (y9 * 65536)) + (IntKind.wrap .i64 (y13 * 256)))) + y17)) a1) y18 y19 y20))))))
noncomputable def Yp.t (k : Nat) (aB : List (List D)) (aA aC a1 : Int) : Option (Int × (List (List D)) × Int × Int) := Yp.g k aB aA aC a1 (fun z0 z1 z2 z3 => some (z0, z1, z2, z3))
noncomputable def Yp.f {β : Type} (k : Nat) (aB : List (List D)) (aA aC a1 : Int) (K : Int → (List (List D)) → Int → Int → Option β) : Option β := bd4 (Yp.t k aB aA aC a1) K
noncomputable def Yp.e (k : Nat) : Zk := ent [.box 178 [.l, .n, .n], .d .n] [1] [.n, .l, .n, .n] [3] false (Yp.t k)
noncomputable def Yp.p (k : Nat) : Pro := ⟨Try.prog, [(174, YG.e k)], Zn [] false [], k⟩
theorem Yp.ok (k : Nat) : Za Try.prog 112 (Yp.e k) := Zh (Yp.p k) mix tyok Try.func112 (YG.ok k) (by kernel_rfl) (fun aB aA aC a1 => by show _ = _; kernel_rfl)
noncomputable def YL.g {β : Type} (k : Nat) (aB : List (List D)) (aA aC : Int) (a1 : List (List D)) (K : ByteArray → (List (List D)) → Int → Int → Option β) : Option β :=
  Yp.f k aB aA aC (a1.length : Int) (fun y1 y2 y3 y4 => atR a1 y1 [.s] fun x8 => (K x8 y2 y3 y4))
noncomputable def YL.t (k : Nat) (aB : List (List D)) (aA aC : Int) (a1 : List (List D)) : Option (ByteArray × (List (List D)) × Int × Int) := YL.g k aB aA aC a1 (fun z0 z1 z2 z3 => some (z0, z1, z2, z3))
noncomputable def YL.f {β : Type} (k : Nat) (aB : List (List D)) (aA aC : Int) (a1 : List (List D)) (K : ByteArray → (List (List D)) → Int → Int → Option β) : Option β := bd4 (YL.t k aB aA aC a1) K
noncomputable def YL.e (k : Nat) : Zk := ent [.box 178 [.l, .n, .n], .d .l] [1] [.s, .l, .n, .n] [9] false (YL.t k)
noncomputable def YL.p (k : Nat) : Pro := ⟨Try.prog, [(112, Yp.e k)], Zn [] false [], k⟩
theorem YL.ok (k : Nat) : Za Try.prog 75 (YL.e k) := Zh (YL.p k) mix tyok Try.func75 (Yp.ok k) (by kernel_rfl) (fun aB aA aC a1 => by show _ = _; kernel_rfl)
noncomputable def YA.g {β : Type} (k : Nat) (aB aA aC : List (List D)) (aG : Int) (K : (List (List C)) → (List (List C)) → (List (List C)) → Int → Option β) : Option β :=
  Zc (ZaZ 3 aB) (Zc (([] : List (List C)).length + (aB.map (·.map C.d)).length ≤ ZN) (Zc (ZaZ 3 aA) (Zc (([] : List (List C)).length + (aA.map (·.map C.d)).length ≤ ZN) (Zc (ZaZ 1 aC) (Zc (([] : List (List C)).length + (aC.map (·.map C.d)).length ≤ ZN) (K (([] : List (List C)) ++ (aB.map (·.map C.d))) (([] : List (List C)) ++ (aA.map (·.map C.d))) (([] : List (List C)) ++ (aC.map (·.map C.d))) aG))))))
noncomputable def YA.t (k : Nat) (aB aA aC : List (List D)) (aG : Int) : Option ((List (List C)) × (List (List C)) × (List (List C)) × Int) := YA.g k aB aA aC aG (fun z0 z1 z2 z3 => some (z0, z1, z2, z3))
noncomputable def YA.f {β : Type} (k : Nat) (aB aA aC : List (List D)) (aG : Int) (K : (List (List C)) → (List (List C)) → (List (List C)) → Int → Option β) : Option β := bd4 (YA.t k aB aA aC aG) K
noncomputable def YA.e (k : Nat) : Zk := ent [.agg [.l, .l, .l, .n]] [4] [.o, .o, .o, .n] [27] false (YA.t k)
noncomputable def YA.p (k : Nat) : Pro := ⟨Try.prog, [], Zn [] false [], k⟩
theorem YA.ok (k : Nat) : Za Try.prog 65 (YA.e k) := Zh (YA.p k) mix tyok Try.func65 trivial (by kernel_rfl) (fun aB aA aC aG => by show _ = _; kernel_rfl)
noncomputable def YC.g {β : Type} (k : Nat) (a0 a1 a2 : Int) (K : Bool → Option β) : Option β :=
  bif (decide ((a0 : Int) ≥ a1)) then (K (decide ((a0 : Int) ≤ a2))) else (K false)
noncomputable def YC.t (k : Nat) (a0 a1 a2 : Int) : Option (Bool) := YC.g k a0 a1 a2 (fun z0 => some z0)
noncomputable def YC.f {β : Type} (k : Nat) (a0 a1 a2 : Int) (K : Bool → Option β) : Option β := bd1 (YC.t k a0 a1 a2) K
noncomputable def YC.e (k : Nat) : Zk := ent [.d .n, .d .n, .d .n] [1] [.b] [4] false (YC.t k)
noncomputable def YC.p (k : Nat) : Pro := ⟨Try.prog, [], Zn [] false [], k⟩
theorem YC.ok (k : Nat) : Za Try.prog 79 (YC.e k) := Zh (YC.p k) mix tyok Try.func79 trivial (by kernel_rfl) (fun a0 a1 a2 => by show _ = _; kernel_rfl)
noncomputable def Yj.l0 {β : Type} (k : Nat) (aD : ByteArray) (K : Bool → Option β) (L0 : Int → Option β) (v : Int) : Option β :=
  match v with
  | aE => bif (decide ((aE : Int) < (aD.size : Int))) then (Za0 aD aE fun b9 => YC.f k (IntKind.wrap .i64 b9) 97 122 (fun y10 => bif (!y10) then (Za0 aD aE fun b11 => YC.f k (IntKind.wrap .i64 b11) 48 57 (fun y12 => bif (!y12) then (Za0 aD aE fun b13 => bif ((b13 : Int) != 45) then (K false) else (L0 (IntKind.wrap .i64 (aE + 1)))) else (L0 (IntKind.wrap .i64 (aE + 1))))) else (L0 (IntKind.wrap .i64 (aE + 1))))) else (YC.f k (aD.size : Int) 1 20 (fun y14 => bif y14 then (Za0 aD 0 fun b15 => bif ((b15 : Int) != 45) then (Za0 aD (IntKind.wrap .i64 ((aD.size : Int) - 1)) fun b16 => K ((b16 : Int) != 45)) else (K false)) else (K false)))
noncomputable def Yj.m {β : Type} (k : Nat) (a0 : ByteArray) (K : Bool → Option β) (F : (ByteArray → Int → Option β)) : Option β :=
  F a0 (0)
noncomputable def Yj.g {β : Type} (k : Nat) (a0 : ByteArray) (K : Bool → Option β) : Option β :=
  Zo (Yj.l0 k a0 K) k (0)
noncomputable def Yj.t (k : Nat) (a0 : ByteArray) : Option (Bool) := Yj.g k a0 (fun z0 => some z0)
noncomputable def Yj.f {β : Type} (k : Nat) (a0 : ByteArray) (K : Bool → Option β) : Option β := bd1 (Yj.t k a0) K
noncomputable def Yj.e (k : Nat) : Zk := ent [.d .s] [1] [.b] [4] false (Yj.t k)
noncomputable def Yj.p (k : Nat) : Pro := ⟨Try.prog, [(79, YC.e k)], Zn [(2, kp [0, 3])] false [], k⟩
noncomputable def Yj.d (k : Nat) (a0 : ByteArray) : Ex → St → Option (Bool) := (Yj.p k).fin Try.f76 [.d (.str a0)] [1] [.b]
noncomputable def Yj.s0 (aD : ByteArray) (v : Int) : St :=
  match v with
  | aE => ZX 46 [(0, .d false (.str aD)), (3, .d true (.int .i64 aE))] []
noncomputable def Yj.r0 (k : Nat) (a0 aD : ByteArray) (n : Nat) (v : Int) : Option (Bool) := (Yj.p k).lp (Zt Try.f76) 2 [1, 0, 1, 0] (Yj.d k a0) n (Yj.s0 aD v)
theorem Yj.l0_eq (k : Nat) (a0 aD : ByteArray) : ∀ n v, Yj.r0 k a0 aD n v = Zo (Yj.l0 k aD (fun z0 => some z0)) n v :=
  Zm (Yj.s0 aD) _ fun L0 v => by kernel_rfl
theorem Yj.ok (k : Nat) : Za Try.prog 76 (Yj.e k) := Zh (Yj.p k) mix tyok Try.func76 (YC.ok k) (by kernel_rfl) (fun a0 => Eq.trans (b := Yj.m k a0 (fun z0 => some z0) (fun aD => Yj.r0 k a0 aD k)) (by kernel_rfl) (congrArg (Yj.m k a0 (fun z0 => some z0)) (funext fun aD => funext fun v => Yj.l0_eq k a0 aD k v) :))
noncomputable def Yr.l0 {β : Type} (k : Nat) (aD : List (List D)) (aE : ByteArray) (K L0 : Int → Option β) (v : Int) : Option β :=
  match v with
  | aF => bif (decide ((aF : Int) < (aD.length : Int))) then (atR aD aF [.s, .n, .n] fun x14 x17 x20 => (bif (Zae x14 aE) then (K aF) else (L0 (IntKind.wrap .i64 (aF + 1))))) else (K (-1))
noncomputable def Yr.m {β : Type} (k : Nat) (a0 : List (List D)) (a1 : ByteArray) (K : Int → Option β) (F : ((List (List D)) → ByteArray → Int → Option β)) : Option β :=
  F a0 a1 (0)
noncomputable def Yr.g {β : Type} (k : Nat) (a0 : List (List D)) (a1 : ByteArray) (K : Int → Option β) : Option β :=
  Zo (Yr.l0 k a0 a1 K) k (0)
noncomputable def Yr.t (k : Nat) (a0 : List (List D)) (a1 : ByteArray) : Option (Int) := Yr.g k a0 a1 (fun z0 => some z0)
noncomputable def Yr.f {β : Type} (k : Nat) (a0 : List (List D)) (a1 : ByteArray) (K : Int → Option β) : Option β := bd1 (Yr.t k a0 a1) K
noncomputable def Yr.e (k : Nat) : Zk := ent [.d .l, .d .s] [1] [.n] [3] false (Yr.t k)
noncomputable def Yr.p (k : Nat) : Pro := ⟨Try.prog, [], Zn [(2, kp [0, 1, 5])] false [], k⟩
noncomputable def Yr.d (k : Nat) (a0 : List (List D)) (a1 : ByteArray) : Ex → St → Option (Int) := (Yr.p k).fin Try.f77 [.d (.sl a0), .d (.str a1)] [1] [.n]
noncomputable def Yr.s0 (aD : List (List D)) (aE : ByteArray) (v : Int) : St :=
  match v with
  | aF => ZX 20 [(0, .d false (.sl aD)), (1, .d false (.str aE)), (5, .d true (.int .i64 aF))] []
noncomputable def Yr.r0 (k : Nat) (a0 : List (List D)) (a1 : ByteArray) (aD : List (List D)) (aE : ByteArray) (n : Nat) (v : Int) : Option (Int) := (Yr.p k).lp (Zt Try.f77) 2 [1, 0, 1, 0] (Yr.d k a0 a1) n (Yr.s0 aD aE v)
theorem Yr.l0_eq (k : Nat) (a0 : List (List D)) (a1 : ByteArray) (aD : List (List D)) (aE : ByteArray) : ∀ n v, Yr.r0 k a0 a1 aD aE n v = Zo (Yr.l0 k aD aE (fun z0 => some z0)) n v :=
  Zm (Yr.s0 aD aE) _ fun L0 v => by kernel_rfl
theorem Yr.ok (k : Nat) : Za Try.prog 77 (Yr.e k) := Zh (Yr.p k) mix tyok Try.func77 trivial (by kernel_rfl) (fun a0 a1 => Eq.trans (b := Yr.m k a0 a1 (fun z0 => some z0) (fun aD aE => Yr.r0 k a0 a1 aD aE k)) (by kernel_rfl) (congrArg (Yr.m k a0 a1 (fun z0 => some z0)) (funext fun aD => funext fun aE => funext fun v => Yr.l0_eq k a0 a1 aD aE k v) :))
noncomputable def Yf.l2 {β : Type} (k : Nat) (aU : Int) (aW aX v2_4 : List (List D)) (v2_5 : Int) (L1 : (Int × (List (List D)) × (List (List D)) × (List (List D)) × Int) → Option β) (K : Bool → Option β) (L2 : Int → Option β) (v : Int) : Option β :=
  match v with
  | v2_1 => bif (decide ((v2_1 : Int) < aU)) then (atR v2_4 v2_1 [.s] fun x123 => (atR v2_4 aU [.s] fun x127 => (bif (Zae x123 x127) then (K false) else (L2 (IntKind.wrap .i64 (v2_1 + 1)))))) else (L1 (IntKind.wrap .i64 (aU + 1), aW, aX, v2_4, v2_5))
noncomputable def Yf.m1 {β : Type} (k : Nat) (K : Bool → Option β) (L1 : (Int × (List (List D)) × (List (List D)) × (List (List D)) × Int) → Option β) (v : Int × (List (List D)) × (List (List D)) × (List (List D)) × Int) (F : (Int → (List (List D)) → (List (List D)) → (List (List D)) → Int → Int → Option β)) : Option β :=
  match v with
  | (aO, aM, aQ, aP, aR) => bif (decide ((aO : Int) < (aP.length : Int))) then (atR aP aO [.s] fun x110 => (Yr.f k aQ x110 (fun y111 => bif (decide ((y111 : Int) < 0)) then (K false) else (F aO aM aQ aP aR (0))))) else (bif (decide (((aM.length : Int) : Int) ≤ 60)) then (bif (decide (((aQ.length : Int) : Int) ≤ 60)) then (YC.f k aR 0 1000000 (fun y128 => K y128)) else (K false)) else (K false))
noncomputable def Yf.l1 {β : Type} (k : Nat) (K : Bool → Option β) (L1 : (Int × (List (List D)) × (List (List D)) × (List (List D)) × Int) → Option β) (v : Int × (List (List D)) × (List (List D)) × (List (List D)) × Int) : Option β := Yf.m1 k K L1 v (fun aU aW aX v2_4 v2_5 => Zo (Yf.l2 k aU aW aX v2_4 v2_5 L1 K) k)
noncomputable def Yf.m0 {β : Type} (k : Nat) (aE aF aH : List (List D)) (aI : Int) (aJ : List (List C)) (K : Bool → Option β) (L0 : Int → Option β) (v : Int) (F : ((Int × (List (List D)) × (List (List D)) × (List (List D)) × Int) → Option β)) : Option β :=
  match v with
  | aD => bif (decide ((aD : Int) < (aJ.length : Int))) then (Zc ((0 : Int) ≤ aD ∧ aD < (aJ.length : Int)) (ZaG aJ (Int.toNat aD) fun c68 => Zas (c68.drop 0) fun c69 r70 => cD c69 fun d71 => dStr d71 fun x72 => Zas r70 fun c73 r74 => cD c73 fun d75 => dInt .i64 d75 fun x76 => Zas r74 fun c77 r78 => cD c77 fun d79 => dInt .i64 d79 fun x80 => Yj.f k x72 (fun y81 => bif (!y81) then (K false) else (Yr.f k (C.immRows aJ) x72 (fun y82 => bif ((y82 : Int) != aD) then (K false) else (YC.f k x76 0 1000064 (fun y83 => bif (!y83) then (K false) else (YC.f k x80 0 1000 (fun y84 => bif (!y84) then (K false) else (bif (decide ((aD : Int) ≥ (aE.length : Int))) then (bif ((x76 : Int) != 0) then (K false) else (L0 (IntKind.wrap .i64 (aD + 1)))) else (L0 (IntKind.wrap .i64 (aD + 1))))))))))))) else (F (0, aE, aF, aH, aI))
noncomputable def Yf.l0 {β : Type} (k : Nat) (aE aF aH : List (List D)) (aI : Int) (aJ : List (List C)) (K : Bool → Option β) (L0 : Int → Option β) (v : Int) : Option β := Yf.m0 k aE aF aH aI aJ K L0 v (Zo (Yf.l1 k K) k)
noncomputable def Yf.m {β : Type} (k : Nat) (aB aA aC : List (List D)) (aG : Int) (K : Bool → Option β) (F : ((List (List D)) → (List (List D)) → (List (List D)) → Int → (List (List C)) → Int → Option β)) : Option β :=
  Zc (ZaZ 3 aB) (Zc (([] : List (List C)).length + (aB.map (·.map C.d)).length ≤ ZN) (Zc (ZaZ 3 aA) (Zc ((([] : List (List C)) ++ (aB.map (·.map C.d))).length + (aA.map (·.map C.d)).length ≤ ZN) (F aB aA aC aG ((([] : List (List C)) ++ (aB.map (·.map C.d))) ++ (aA.map (·.map C.d))) (0)))))
noncomputable def Yf.g {β : Type} (k : Nat) (aB aA aC : List (List D)) (aG : Int) (K : Bool → Option β) : Option β := Yf.m k aB aA aC aG K (fun aE aF aH aI aJ => Zo (Yf.l0 k aE aF aH aI aJ K) k)
noncomputable def Yf.t (k : Nat) (aB aA aC : List (List D)) (aG : Int) : Option (Bool) := Yf.g k aB aA aC aG (fun z0 => some z0)
noncomputable def Yf.f {β : Type} (k : Nat) (aB aA aC : List (List D)) (aG : Int) (K : Bool → Option β) : Option β := bd1 (Yf.t k aB aA aC aG) K
noncomputable def Yf.e (k : Nat) : Zk := ent [.agg [.l, .l, .l, .n]] [1] [.b] [4] false (Yf.t k)
noncomputable def Yf.p (k : Nat) : Pro := ⟨Try.prog, [(76, Yj.e k), (77, Yr.e k), (79, YC.e k)], Zn [(3, kp [1, 3, 4]), (9, kp [1, 6]), (14, kp [1, 6, 7])] false [], k⟩
noncomputable def Yf.d (k : Nat) (aB aA aC : List (List D)) (aG : Int) : Ex → St → Option (Bool) := (Yf.p k).fin Try.f23 [.agg [.sl aB, .sl aA, .sl aC, .int .i64 aG]] [1] [.b]
noncomputable def Yf.s0 (aE aF aH : List (List D)) (aI : Int) (aJ : List (List C)) (v : Int) : St :=
  match v with
  | aD => ZX 108 [(1, .bp 0 0), (3, .row 1), (4, .d true (.int .i64 aD))] [.box none 27 [.d false (.sl aE), .d false (.sl aF), .d false (.sl aH), .d false (.int .i64 aI)], .row none true 24 aJ]
noncomputable def Yf.r0 (k : Nat) (aB aA aC : List (List D)) (aG : Int) (aE aF aH : List (List D)) (aI : Int) (aJ : List (List C)) (n : Nat) (v : Int) : Option (Bool) := (Yf.p k).lp (Zt Try.f23) 3 [1, 1, 0, 1, 0] (Yf.d k aB aA aC aG) n (Yf.s0 aE aF aH aI aJ v)
noncomputable def Yf.s1 (v : Int × (List (List D)) × (List (List D)) × (List (List D)) × Int) : St :=
  match v with
  | (aO, aM, aQ, aP, aR) => ZX 108 [(1, .bp 0 0), (6, .d true (.int .i64 aO))] [.box none 27 [.d false (.sl aM), .d false (.sl aQ), .d false (.sl aP), .d false (.int .i64 aR)]]
noncomputable def Yf.c1 (k : Nat) (aB aA aC : List (List D)) (aG : Int) : Ex → St → Option (Bool) := (Yf.p k).ct (Zt Try.f23) [1, 1, 1, 0, 1, 0] (Yf.d k aB aA aC aG)
noncomputable def Yf.r1 (k : Nat) (aB aA aC : List (List D)) (aG : Int) (n : Nat) (v : Int × (List (List D)) × (List (List D)) × (List (List D)) × Int) : Option (Bool) := (Yf.p k).lp (Zt Try.f23) 9 [1, 1, 1, 0, 1, 0] (Yf.d k aB aA aC aG) n (Yf.s1 v)
noncomputable def Yf.s2 (aU : Int) (aW aX v2_4 : List (List D)) (v2_5 v : Int) : St :=
  match v with
  | v2_1 => ZX 108 [(1, .bp 0 0), (6, .d true (.int .i64 aU)), (7, .d true (.int .i64 v2_1))] [.box none 27 [.d false (.sl aW), .d false (.sl aX), .d false (.sl v2_4), .d false (.int .i64 v2_5)]]
noncomputable def Yf.r2 (k : Nat) (aB aA aC : List (List D)) (aG aU : Int) (aW aX v2_4 : List (List D)) (v2_5 : Int) (L1 : St → Option (Bool)) (n : Nat) (v : Int) : Option (Bool) := (Yf.p k).lp (codeAt [1, 1, 1, 0, 1, 0, 0] (Zt Try.f23)) 14 [1, 0, 0, 1, 1, 0] (backK ((Yf.p k).h.H 9) L1 (Yf.c1 k aB aA aC aG)) n (Yf.s2 aU aW aX v2_4 v2_5 v)
theorem Yf.l2_eq (k : Nat) (aB aA aC : List (List D)) (aG aU : Int) (aW aX v2_4 : List (List D)) (v2_5 : Int) (L1 : St → Option (Bool)) : ∀ n v, Yf.r2 k aB aA aC aG aU aW aX v2_4 v2_5 L1 n v = Zo (Yf.l2 k aU aW aX v2_4 v2_5 (fun v => L1 (Yf.s1 v)) (fun z0 => some z0)) n v :=
  Zm (Yf.s2 aU aW aX v2_4 v2_5) _ fun L2 v => by kernel_rfl
theorem Yf.l1_eq (k : Nat) (aB aA aC : List (List D)) (aG : Int) : ∀ n v, Yf.r1 k aB aA aC aG n v = Zo (Yf.l1 k (fun z0 => some z0)) n v :=
  Zm (Yf.s1) _ fun L1 v => by obtain ⟨aO, aM, aQ, aP, aR⟩ := v; exact Eq.trans (b := Yf.m1 k (fun z0 => some z0) (fun v => L1 (Yf.s1 v)) (aO, aM, aQ, aP, aR) (fun aU aW aX v2_4 v2_5 => Yf.r2 k aB aA aC aG aU aW aX v2_4 v2_5 L1 k)) (by kernel_rfl) (congrArg (Yf.m1 k (fun z0 => some z0) (fun v => L1 (Yf.s1 v)) (aO, aM, aQ, aP, aR)) (funext fun aU => funext fun aW => funext fun aX => funext fun v2_4 => funext fun v2_5 => funext fun v => Yf.l2_eq k aB aA aC aG aU aW aX v2_4 v2_5 L1 k v))
theorem Yf.l0_eq (k : Nat) (aB aA aC : List (List D)) (aG : Int) (aE aF aH : List (List D)) (aI : Int) (aJ : List (List C)) : ∀ n v, Yf.r0 k aB aA aC aG aE aF aH aI aJ n v = Zo (Yf.l0 k aE aF aH aI aJ (fun z0 => some z0)) n v :=
  Zm (Yf.s0 aE aF aH aI aJ) _ fun L0 v => by exact Eq.trans (b := Yf.m0 k aE aF aH aI aJ (fun z0 => some z0) (fun v => L0 (Yf.s0 aE aF aH aI aJ v)) v (Yf.r1 k aB aA aC aG k)) (by kernel_rfl) (congrArg (Yf.m0 k aE aF aH aI aJ (fun z0 => some z0) (fun v => L0 (Yf.s0 aE aF aH aI aJ v)) v) (funext fun v => Yf.l1_eq k aB aA aC aG k v))
theorem Yf.ok (k : Nat) : Za Try.prog 23 (Yf.e k) := Zh (Yf.p k) mix tyok Try.func23 ⟨Yj.ok k, Yr.ok k, YC.ok k⟩ (by kernel_rfl) (fun aB aA aC aG => Eq.trans (b := Yf.m k aB aA aC aG (fun z0 => some z0) (fun aE aF aH aI aJ => Yf.r0 k aB aA aC aG aE aF aH aI aJ k)) (by kernel_rfl) (congrArg (Yf.m k aB aA aC aG (fun z0 => some z0)) (funext fun aE => funext fun aF => funext fun aH => funext fun aI => funext fun aJ => funext fun v => Yf.l0_eq k aB aA aC aG aE aF aH aI aJ k v) :))
noncomputable def Ys.l0 {β : Type} (k : Nat) (aD : List (List D)) (aE : ByteArray) (K : Bool → Option β) (L0 : Int → Option β) (v : Int) : Option β :=
  match v with
  | aF => bif (decide ((aF : Int) < (aD.length : Int))) then (atR aD aF [.s] fun x8 => (bif (Zae x8 aE) then (K true) else (L0 (IntKind.wrap .i64 (aF + 1))))) else (K false)
noncomputable def Ys.m {β : Type} (k : Nat) (a0 : List (List D)) (a1 : ByteArray) (K : Bool → Option β) (F : ((List (List D)) → ByteArray → Int → Option β)) : Option β :=
  F a0 a1 (0)
noncomputable def Ys.g {β : Type} (k : Nat) (a0 : List (List D)) (a1 : ByteArray) (K : Bool → Option β) : Option β :=
  Zo (Ys.l0 k a0 a1 K) k (0)
noncomputable def Ys.t (k : Nat) (a0 : List (List D)) (a1 : ByteArray) : Option (Bool) := Ys.g k a0 a1 (fun z0 => some z0)
noncomputable def Ys.f {β : Type} (k : Nat) (a0 : List (List D)) (a1 : ByteArray) (K : Bool → Option β) : Option β := bd1 (Ys.t k a0 a1) K
noncomputable def Ys.e (k : Nat) : Zk := ent [.d .l, .d .s] [1] [.b] [4] false (Ys.t k)
noncomputable def Ys.p (k : Nat) : Pro := ⟨Try.prog, [], Zn [(2, kp [0, 1, 5])] false [], k⟩
noncomputable def Ys.d (k : Nat) (a0 : List (List D)) (a1 : ByteArray) : Ex → St → Option (Bool) := (Ys.p k).fin Try.f78 [.d (.sl a0), .d (.str a1)] [1] [.b]
noncomputable def Ys.s0 (aD : List (List D)) (aE : ByteArray) (v : Int) : St :=
  match v with
  | aF => ZX 18 [(0, .d false (.sl aD)), (1, .d false (.str aE)), (5, .d true (.int .i64 aF))] []
noncomputable def Ys.r0 (k : Nat) (a0 : List (List D)) (a1 : ByteArray) (aD : List (List D)) (aE : ByteArray) (n : Nat) (v : Int) : Option (Bool) := (Ys.p k).lp (Zt Try.f78) 2 [1, 0, 1, 0] (Ys.d k a0 a1) n (Ys.s0 aD aE v)
theorem Ys.l0_eq (k : Nat) (a0 : List (List D)) (a1 : ByteArray) (aD : List (List D)) (aE : ByteArray) : ∀ n v, Ys.r0 k a0 a1 aD aE n v = Zo (Ys.l0 k aD aE (fun z0 => some z0)) n v :=
  Zm (Ys.s0 aD aE) _ fun L0 v => by kernel_rfl
theorem Ys.ok (k : Nat) : Za Try.prog 78 (Ys.e k) := Zh (Ys.p k) mix tyok Try.func78 trivial (by kernel_rfl) (fun a0 a1 => Eq.trans (b := Ys.m k a0 a1 (fun z0 => some z0) (fun aD aE => Ys.r0 k a0 a1 aD aE k)) (by kernel_rfl) (congrArg (Ys.m k a0 a1 (fun z0 => some z0)) (funext fun aD => funext fun aE => funext fun v => Ys.l0_eq k a0 a1 aD aE k v) :))
noncomputable def YT.g {β : Type} (k : Nat) (aB aA aC : List (List D)) (aG : Int) (a1 : ByteArray) (K : (List (List C)) → (List (List C)) → (List (List C)) → Int → Bool → Option β) : Option β :=
  YA.f k aB aA aC aG (fun y1 y2 y3 y4 => Yf.f k aB aA aC aG (fun y129 => bif (!y129) then (K y1 y2 y3 y4 false) else (Yj.f k a1 (fun y130 => bif (!y130) then (K y1 y2 y3 y4 false) else (Yr.f k aA a1 (fun y131 => bif (decide ((y131 : Int) ≥ 0)) then (Ys.f k aC a1 (fun y132 => bif (!y132) then (Zc (y3.length + ([[.d (.str a1)]] : List (List C)).length ≤ ZN) (K y1 y2 (y3 ++ ([[.d (.str a1)]] : List (List C))) y4 true)) else (K y1 y2 y3 y4 true))) else (Yr.f k aB a1 (fun y133 => bif (decide ((y133 : Int) ≥ 0)) then (Zc ((0 : Int) ≤ y133 ∧ y133 < (y1.length : Int)) (ZaG y1 (Int.toNat y133) fun c134 => Zas (c134.drop 1) fun c135 r136 => cD c135 fun d137 => dInt .i64 d137 fun x138 => bif (decide ((x138 : Int) > aG)) then (Zc ((0 : Int) ≤ y133 ∧ y133 < (y1.length : Int)) (Zc (Int.toNat y133 < y1.length) (K (y1.modify (Int.toNat y133) fun c => Zq c 1 [.d (.int .i64 aG)]) y2 y3 y4 true))) else (K y1 y2 y3 y4 true))) else (bif (((aB.length : Int) : Int) == 60) then (K y1 y2 y3 y4 false) else (Zc (y1.length + ([[.d (.str a1), .d (.int .i64 aG), .d (.int .i64 0)]] : List (List C)).length ≤ ZN) (K (y1 ++ ([[.d (.str a1), .d (.int .i64 aG), .d (.int .i64 0)]] : List (List C))) y2 y3 y4 true)))))))))))
noncomputable def YT.t (k : Nat) (aB aA aC : List (List D)) (aG : Int) (a1 : ByteArray) : Option ((List (List C)) × (List (List C)) × (List (List C)) × Int × Bool) := YT.g k aB aA aC aG a1 (fun z0 z1 z2 z3 z4 => some (z0, z1, z2, z3, z4))
noncomputable def YT.f {β : Type} (k : Nat) (aB aA aC : List (List D)) (aG : Int) (a1 : ByteArray) (K : (List (List C)) → (List (List C)) → (List (List C)) → Int → Bool → Option β) : Option β := bd5 (YT.t k aB aA aC aG a1) K
noncomputable def YT.e (k : Nat) : Zk := ent [.agg [.l, .l, .l, .n], .d .s] [4, 1] [.o, .o, .o, .n, .b] [27, 4] false (YT.t k)
noncomputable def YT.p (k : Nat) : Pro := ⟨Try.prog, [(65, YA.e k), (23, Yf.e k), (76, Yj.e k), (77, Yr.e k), (78, Ys.e k)], Zn [] false [], k⟩
theorem YT.ok (k : Nat) : Za Try.prog 22 (YT.e k) := Zh (YT.p k) mix tyok Try.func22 ⟨YA.ok k, Yf.ok k, Yj.ok k, Yr.ok k, Ys.ok k⟩ (by kernel_rfl) (fun aB aA aC aG a1 => by show _ = _; kernel_rfl)
noncomputable def YB.l0 {β : Type} (k : Nat) (aE aF aH : List (List D)) (aI aJ aK : Int) (aN aL aY : List (List C)) (K : (List (List C)) → (List (List C)) → (List (List C)) → Int → ByteArray → Bool → Option β) (L0 : Int → Option β) (v : Int) : Option β :=
  match v with
  | aD => bif (decide ((aD : Int) < (aE.length : Int))) then (Yf.f k aE aF aH aI (fun y16 => bif y16 then (bif (decide (((aF.length : Int) : Int) < 60)) then (atR aE aD [.s, .n, .n] fun x20 x23 x26 => (bif (decide ((x23 : Int) ≤ aI)) then (let J1 := ((aE.drop (Int.toNat (IntKind.wrap .i64 (aD + 1) : Int))).take (Int.toNat (aE.length : Int) - Int.toNat (IntKind.wrap .i64 (aD + 1) : Int))); let J0 := (J1.map (·.map C.d)); let J4 := ((aE.drop (Int.toNat (0 : Int))).take (Int.toNat (aD : Int) - Int.toNat (0 : Int))); let J3 := (J4.map (·.map C.d)); let J2 := (([] : List (List C)) ++ J3); Zc (0 ≤ (0 : Int) ∧ (0 : Int) ≤ (aD : Int) ∧ (aD : Int) ≤ (aE.length : Int) ∧ rowsOk 3 aE) (Zc (ZaZ 3 J4) (Zc (([] : List (List C)).length + J3.length ≤ ZN) (Zc (0 ≤ (IntKind.wrap .i64 (aD + 1) : Int) ∧ (IntKind.wrap .i64 (aD + 1) : Int) ≤ (aE.length : Int) ∧ (aE.length : Int) ≤ (aE.length : Int) ∧ rowsOk 3 aE) (Zc (ZaZ 3 J1) (Zc (J2.length + J0.length ≤ ZN) (Zc (aL.length + ([[.d (.str x20), .d (.int .i64 0), .d (.int .i64 x26)]] : List (List C)).length ≤ ZN) (K (J2 ++ J0) (aL ++ ([[.d (.str x20), .d (.int .i64 0), .d (.int .i64 x26)]] : List (List C))) aY aK x20 true)))))))) else (L0 (IntKind.wrap .i64 (aD + 1))))) else (K aN aL aY aK (⟨#[]⟩ : ByteArray) false)) else (K aN aL aY aK (⟨#[]⟩ : ByteArray) false))) else (K aN aL aY aK (⟨#[]⟩ : ByteArray) false)
noncomputable def YB.m {β : Type} (k : Nat) (aB aA aC : List (List D)) (aG : Int) (K : (List (List C)) → (List (List C)) → (List (List C)) → Int → ByteArray → Bool → Option β) (F : ((List (List D)) → (List (List D)) → (List (List D)) → Int → Int → Int → (List (List C)) → (List (List C)) → (List (List C)) → Int → Option β)) : Option β :=
  YA.f k aB aA aC aG (fun y1 y2 y3 y4 => F aB aA aC aG 0 y4 y1 y2 y3 (0))
noncomputable def YB.g {β : Type} (k : Nat) (aB aA aC : List (List D)) (aG : Int) (K : (List (List C)) → (List (List C)) → (List (List C)) → Int → ByteArray → Bool → Option β) : Option β :=
  YA.f k aB aA aC aG (fun y1 y2 y3 y4 => Zo (YB.l0 k aB aA aC aG 0 y4 y1 y2 y3 K) k (0))
noncomputable def YB.t (k : Nat) (aB aA aC : List (List D)) (aG : Int) : Option ((List (List C)) × (List (List C)) × (List (List C)) × Int × ByteArray × Bool) := YB.g k aB aA aC aG (fun z0 z1 z2 z3 z4 z5 => some (z0, z1, z2, z3, z4, z5))
noncomputable def YB.f {β : Type} (k : Nat) (aB aA aC : List (List D)) (aG : Int) (K : (List (List C)) → (List (List C)) → (List (List C)) → Int → ByteArray → Bool → Option β) : Option β := match YB.t k aB aA aC aG with | some (z0, z1, z2, z3, z4, z5) => K z0 z1 z2 z3 z4 z5 | none => none
noncomputable def YB.e (k : Nat) : Zk := ent [.agg [.l, .l, .l, .n]] [4, 1, 1] [.o, .o, .o, .n, .s, .b] [27, 9, 4] false (YB.t k)
noncomputable def YB.p (k : Nat) : Pro := ⟨Try.prog, [(65, YA.e k), (23, Yf.e k)], Zn [(3, kp [1, 2, 5, 6])] false [], k⟩
noncomputable def YB.d (k : Nat) (aB aA aC : List (List D)) (aG : Int) : Ex → St → Option ((List (List C)) × (List (List C)) × (List (List C)) × Int × ByteArray × Bool) := (YB.p k).fin Try.f14 [.agg [.sl aB, .sl aA, .sl aC, .int .i64 aG]] [4, 1, 1] [.o, .o, .o, .n, .s, .b]
noncomputable def YB.s0 (aE aF aH : List (List D)) (aI aJ aK : Int) (aN aL aY : List (List C)) (v : Int) : St :=
  match v with
  | aD => ZX 64 [(1, .bp 0 0), (2, .bp 1 0), (5, .bp 2 0), (6, .d true (.int .i64 aD))] [.box none 27 [.d false (.sl aE), .d false (.sl aF), .d false (.sl aH), .d false (.int .i64 aI)], .box none 27 [.nil, .nil, .nil, .d true (.int .i64 aJ)], .box none 27 [.row 3, .row 4, .row 5, .d true (.int .i64 aK)], .row none true 24 aN, .row none true 24 aL, .row none true 25 aY]
noncomputable def YB.r0 (k : Nat) (aB aA aC : List (List D)) (aG : Int) (aE aF aH : List (List D)) (aI aJ aK : Int) (aN aL aY : List (List C)) (n : Nat) (v : Int) : Option ((List (List C)) × (List (List C)) × (List (List C)) × Int × ByteArray × Bool) := (YB.p k).lp (Zt Try.f14) 3 [1, 1, 0, 1, 0] (YB.d k aB aA aC aG) n (YB.s0 aE aF aH aI aJ aK aN aL aY v)
theorem YB.l0_eq (k : Nat) (aB aA aC : List (List D)) (aG : Int) (aE aF aH : List (List D)) (aI aJ aK : Int) (aN aL aY : List (List C)) : ∀ n v, YB.r0 k aB aA aC aG aE aF aH aI aJ aK aN aL aY n v = Zo (YB.l0 k aE aF aH aI aJ aK aN aL aY (fun z0 z1 z2 z3 z4 z5 => some (z0, z1, z2, z3, z4, z5))) n v :=
  Zm (YB.s0 aE aF aH aI aJ aK aN aL aY) _ fun L0 v => by kernel_rfl
theorem YB.ok (k : Nat) : Za Try.prog 14 (YB.e k) := Zh (YB.p k) mix tyok Try.func14 ⟨YA.ok k, Yf.ok k⟩ (by kernel_rfl) (fun aB aA aC aG => Eq.trans (b := YB.m k aB aA aC aG (fun z0 z1 z2 z3 z4 z5 => some (z0, z1, z2, z3, z4, z5)) (fun aE aF aH aI aJ aK aN aL aY => YB.r0 k aB aA aC aG aE aF aH aI aJ aK aN aL aY k)) (by kernel_rfl) (congrArg (YB.m k aB aA aC aG (fun z0 z1 z2 z3 z4 z5 => some (z0, z1, z2, z3, z4, z5))) (funext fun aE => funext fun aF => funext fun aH => funext fun aI => funext fun aJ => funext fun aK => funext fun aN => funext fun aL => funext fun aY => funext fun v => YB.l0_eq k aB aA aC aG aE aF aH aI aJ aK aN aL aY k v) :))
noncomputable def YD.g {β : Type} (k : Nat) (aB : List (List D)) (aA aC a1 : Int) (K : Bool → (List (List D)) → Int → Int → Option β) : Option β :=
  Yp.f k aB aA aC a1 (fun y1 y2 y3 y4 => K ((y1 : Int) == 0) y2 y3 y4)
noncomputable def YD.t (k : Nat) (aB : List (List D)) (aA aC a1 : Int) : Option (Bool × (List (List D)) × Int × Int) := YD.g k aB aA aC a1 (fun z0 z1 z2 z3 => some (z0, z1, z2, z3))
noncomputable def YD.f {β : Type} (k : Nat) (aB : List (List D)) (aA aC a1 : Int) (K : Bool → (List (List D)) → Int → Int → Option β) : Option β := bd4 (YD.t k aB aA aC a1) K
noncomputable def YD.e (k : Nat) : Zk := ent [.box 178 [.l, .n, .n], .d .n] [1] [.b, .l, .n, .n] [4] false (YD.t k)
noncomputable def YD.p (k : Nat) : Pro := ⟨Try.prog, [(112, Yp.e k)], Zn [] false [], k⟩
theorem YD.ok (k : Nat) : Za Try.prog 81 (YD.e k) := Zh (YD.p k) mix tyok Try.func81 (Yp.ok k) (by kernel_rfl) (fun aB aA aC a1 => by show _ = _; kernel_rfl)
noncomputable def Yo.l0 {β : Type} (k : Nat) (aD : Int) (K : Int → Option β) (L0 : (Int × Int) → Option β) (v : Int × Int) : Option β :=
  match v with
  | (aE, aF) => bif (decide ((aF : Int) < aD)) then (bif (decide ((aE : Int) < 64)) then (L0 (IntKind.wrap .i64 (aE * 2), IntKind.wrap .i64 (aF + 1))) else (K aE)) else (K aE)
noncomputable def Yo.m {β : Type} (k : Nat) (a0 : Int) (K : Int → Option β) (F : (Int → (Int × Int) → Option β)) : Option β :=
  F a0 (1, 1)
noncomputable def Yo.g {β : Type} (k : Nat) (a0 : Int) (K : Int → Option β) : Option β :=
  Zo (Yo.l0 k a0 K) k (1, 1)
noncomputable def Yo.t (k : Nat) (a0 : Int) : Option (Int) := Yo.g k a0 (fun z0 => some z0)
noncomputable def Yo.f {β : Type} (k : Nat) (a0 : Int) (K : Int → Option β) : Option β := bd1 (Yo.t k a0) K
noncomputable def Yo.e (k : Nat) : Zk := ent [.d .n] [1] [.n] [3] false (Yo.t k)
noncomputable def Yo.p (k : Nat) : Pro := ⟨Try.prog, [], Zn [(3, kp [0, 3, 4])] false [], k⟩
noncomputable def Yo.d (k : Nat) (a0 : Int) : Ex → St → Option (Int) := (Yo.p k).fin Try.f209 [.d (.int .i64 a0)] [1] [.n]
noncomputable def Yo.s0 (aD : Int) (v : Int × Int) : St :=
  match v with
  | (aE, aF) => ZX 17 [(0, .d false (.int .i64 aD)), (3, .d true (.int .i64 aE)), (4, .d true (.int .i64 aF))] []
noncomputable def Yo.r0 (k : Nat) (a0 aD : Int) (n : Nat) (v : Int × Int) : Option (Int) := (Yo.p k).lp (Zt Try.f209) 3 [1, 1, 0, 1, 0] (Yo.d k a0) n (Yo.s0 aD v)
theorem Yo.l0_eq (k : Nat) (a0 aD : Int) : ∀ n v, Yo.r0 k a0 aD n v = Zo (Yo.l0 k aD (fun z0 => some z0)) n v :=
  Zm (Yo.s0 aD) _ fun L0 v => by obtain ⟨aE, aF⟩ := v; kernel_rfl
theorem Yo.ok (k : Nat) : Za Try.prog 209 (Yo.e k) := Zh (Yo.p k) mix tyok Try.func209 trivial (by kernel_rfl) (fun a0 => Eq.trans (b := Yo.m k a0 (fun z0 => some z0) (fun aD => Yo.r0 k a0 aD k)) (by kernel_rfl) (congrArg (Yo.m k a0 (fun z0 => some z0)) (funext fun aD => funext fun v => Yo.l0_eq k a0 aD k v) :))
noncomputable def Yy.l0 {β : Type} (k : Nat) (aD : ByteArray) (aE : Bool) (aH aI aJ : List (List D)) (aK aN aL : Int) (aY : ByteArray) (v0_10 v0_11 : Int) (v0_12 v0_13 : List (List C)) (K : (List (List C)) → (List (List C)) → (List (List C)) → Int → Bool → Option β) (L0 : (Int × (List (List C))) → Option β) (v : Int × (List (List C))) : Option β :=
  match v with
  | (aF, v0_14) => bif (decide ((aF : Int) < (aJ.length : Int))) then (atR aJ aF [.s] fun x33 => (bif (!(Zae x33 aD)) then (atR aJ aF [.s] fun x37 => (Zc (v0_14.length + ([[.d (.str x37)]] : List (List C)).length ≤ ZN) (L0 (IntKind.wrap .i64 (aF + 1), v0_14 ++ ([[.d (.str x37)]] : List (List C)))))) else (L0 (IntKind.wrap .i64 (aF + 1), v0_14)))) else (let J0 := (Zc (v0_12.length + ([[.d (.str aD), .d (.int .i64 aK), .d (.int .i64 0)]] : List (List C)).length ≤ ZN) (K (v0_12 ++ ([[.d (.str aD), .d (.int .i64 aK), .d (.int .i64 0)]] : List (List C))) v0_13 v0_14 aL true)); bif aE then (Ys.f k aJ aD (fun y38 => bif (!y38) then (K v0_12 v0_13 v0_14 aL true) else (bif (((aH.length : Int) : Int) == 60) then (K v0_12 v0_13 v0_14 aL true) else (bif aE then J0 else (bif (decide ((v0_11 : Int) < 1000)) then (Yo.f k (IntKind.wrap .i64 (v0_11 + 1)) (fun y39 => Zc (v0_12.length + ([[.d (.str aD), .d (.int .i64 (IntKind.wrap .i64 (aK + y39))), .d (.int .i64 (IntKind.wrap .i64 (v0_11 + 1)))]] : List (List C)).length ≤ ZN) (K (v0_12 ++ ([[.d (.str aD), .d (.int .i64 (IntKind.wrap .i64 (aK + y39))), .d (.int .i64 (IntKind.wrap .i64 (v0_11 + 1)))]] : List (List C))) v0_13 v0_14 aL true))) else (Yo.f k v0_11 (fun y40 => Zc (v0_12.length + ([[.d (.str aD), .d (.int .i64 (IntKind.wrap .i64 (aK + y40))), .d (.int .i64 v0_11)]] : List (List C)).length ≤ ZN) (K (v0_12 ++ ([[.d (.str aD), .d (.int .i64 (IntKind.wrap .i64 (aK + y40))), .d (.int .i64 v0_11)]] : List (List C))) v0_13 v0_14 aL true)))))))) else (bif (((aH.length : Int) : Int) == 60) then (K v0_12 v0_13 v0_14 aL true) else (bif aE then J0 else (bif (decide ((v0_11 : Int) < 1000)) then (Yo.f k (IntKind.wrap .i64 (v0_11 + 1)) (fun y41 => Zc (v0_12.length + ([[.d (.str aD), .d (.int .i64 (IntKind.wrap .i64 (aK + y41))), .d (.int .i64 (IntKind.wrap .i64 (v0_11 + 1)))]] : List (List C)).length ≤ ZN) (K (v0_12 ++ ([[.d (.str aD), .d (.int .i64 (IntKind.wrap .i64 (aK + y41))), .d (.int .i64 (IntKind.wrap .i64 (v0_11 + 1)))]] : List (List C))) v0_13 v0_14 aL true))) else (Yo.f k v0_11 (fun y42 => Zc (v0_12.length + ([[.d (.str aD), .d (.int .i64 (IntKind.wrap .i64 (aK + y42))), .d (.int .i64 v0_11)]] : List (List C)).length ≤ ZN) (K (v0_12 ++ ([[.d (.str aD), .d (.int .i64 (IntKind.wrap .i64 (aK + y42))), .d (.int .i64 v0_11)]] : List (List C))) v0_13 v0_14 aL true)))))))
noncomputable def Yy.m {β : Type} (k : Nat) (aB aA aC : List (List D)) (aG : Int) (a1 : ByteArray) (a2 : Bool) (K : (List (List C)) → (List (List C)) → (List (List C)) → Int → Bool → Option β) (F : (ByteArray → Bool → (List (List D)) → (List (List D)) → (List (List D)) → Int → Int → Int → ByteArray → Int → Int → (List (List C)) → (List (List C)) → (Int × (List (List C))) → Option β)) : Option β :=
  YA.f k aB aA aC aG (fun y1 y2 y3 y4 => Yr.f k aA a1 (fun y5 => Yf.f k aB aA aC aG (fun y6 => bif (!y6) then (K y1 y2 y3 y4 false) else (bif (decide ((y5 : Int) < 0)) then (K y1 y2 y3 y4 false) else (atR aA y5 [.s, .n, .n] fun x10 x13 x16 => let J1 := ((aA.drop (Int.toNat (IntKind.wrap .i64 (y5 + 1) : Int))).take (Int.toNat (aA.length : Int) - Int.toNat (IntKind.wrap .i64 (y5 + 1) : Int))); let J0 := (J1.map (·.map C.d)); let J4 := ((aA.drop (Int.toNat (0 : Int))).take (Int.toNat (y5 : Int) - Int.toNat (0 : Int))); let J3 := (J4.map (·.map C.d)); let J2 := (([] : List (List C)) ++ J3); (Zc (0 ≤ (0 : Int) ∧ (0 : Int) ≤ (y5 : Int) ∧ (y5 : Int) ≤ (aA.length : Int) ∧ rowsOk 3 aA) (Zc (ZaZ 3 J4) (Zc (([] : List (List C)).length + J3.length ≤ ZN) (Zc (0 ≤ (IntKind.wrap .i64 (y5 + 1) : Int) ∧ (IntKind.wrap .i64 (y5 + 1) : Int) ≤ (aA.length : Int) ∧ (aA.length : Int) ≤ (aA.length : Int) ∧ rowsOk 3 aA) (Zc (ZaZ 3 J1) (Zc (J2.length + J0.length ≤ ZN) (F a1 a2 aB aA aC aG 0 y4 x10 x13 x16 y1 (J2 ++ J0) (0, ([] : List (List C)))))))))))))))
noncomputable def Yy.g {β : Type} (k : Nat) (aB aA aC : List (List D)) (aG : Int) (a1 : ByteArray) (a2 : Bool) (K : (List (List C)) → (List (List C)) → (List (List C)) → Int → Bool → Option β) : Option β := Yy.m k aB aA aC aG a1 a2 K (fun aD aE aH aI aJ aK aN aL aY v0_10 v0_11 v0_12 v0_13 => Zo (Yy.l0 k aD aE aH aI aJ aK aN aL aY v0_10 v0_11 v0_12 v0_13 K) k)
noncomputable def Yy.t (k : Nat) (aB aA aC : List (List D)) (aG : Int) (a1 : ByteArray) (a2 : Bool) : Option ((List (List C)) × (List (List C)) × (List (List C)) × Int × Bool) := Yy.g k aB aA aC aG a1 a2 (fun z0 z1 z2 z3 z4 => some (z0, z1, z2, z3, z4))
noncomputable def Yy.f {β : Type} (k : Nat) (aB aA aC : List (List D)) (aG : Int) (a1 : ByteArray) (a2 : Bool) (K : (List (List C)) → (List (List C)) → (List (List C)) → Int → Bool → Option β) : Option β := bd5 (Yy.t k aB aA aC aG a1 a2) K
noncomputable def Yy.e (k : Nat) : Zk := ent [.agg [.l, .l, .l, .n], .d .s, .d .b] [4, 1] [.o, .o, .o, .n, .b] [27, 4] false (Yy.t k)
noncomputable def Yy.p (k : Nat) : Pro := ⟨Try.prog, [(65, YA.e k), (77, Yr.e k), (23, Yf.e k), (78, Ys.e k), (209, Yo.e k)], Zn [(9, kp [1, 2, 3, 6, 8, 10, 11])] false [], k⟩
noncomputable def Yy.d (k : Nat) (aB aA aC : List (List D)) (aG : Int) (a1 : ByteArray) (a2 : Bool) : Ex → St → Option ((List (List C)) × (List (List C)) × (List (List C)) × Int × Bool) := (Yy.p k).fin Try.f145 [.agg [.sl aB, .sl aA, .sl aC, .int .i64 aG], .d (.str a1), .d (.bool a2)] [4, 1] [.o, .o, .o, .n, .b]
noncomputable def Yy.s0 (aD : ByteArray) (aE : Bool) (aH aI aJ : List (List D)) (aK aN aL : Int) (aY : ByteArray) (v0_10 v0_11 : Int) (v0_12 v0_13 : List (List C)) (v : Int × (List (List C))) : St :=
  match v with
  | (aF, v0_14) => ZX 119 [(1, .d false (.str aD)), (2, .d false (.bool aE)), (3, .bp 0 0), (6, .bp 1 0), (8, .bp 2 0), (10, .bp 3 0), (11, .d true (.int .i64 aF))] [.box none 27 [.d false (.sl aH), .d false (.sl aI), .d false (.sl aJ), .d false (.int .i64 aK)], .box none 27 [.nil, .nil, .nil, .d true (.int .i64 aN)], .box none 27 [.row 4, .row 5, .row 6, .d true (.int .i64 aL)], .box none 33 [.d false (.str aY), .d false (.int .i64 v0_10), .d false (.int .i64 v0_11)], .row none true 24 v0_12, .row none true 24 v0_13, .row none true 25 v0_14]
noncomputable def Yy.r0 (k : Nat) (aB aA aC : List (List D)) (aG : Int) (a1 : ByteArray) (a2 : Bool) (aD : ByteArray) (aE : Bool) (aH aI aJ : List (List D)) (aK aN aL : Int) (aY : ByteArray) (v0_10 v0_11 : Int) (v0_12 v0_13 : List (List C)) (n : Nat) (v : Int × (List (List C))) : Option ((List (List C)) × (List (List C)) × (List (List C)) × Int × Bool) := (Yy.p k).lp (Zt Try.f145) 9 [1, 1, 1, 1, 1, 1, 1, 0, 1, 0] (Yy.d k aB aA aC aG a1 a2) n (Yy.s0 aD aE aH aI aJ aK aN aL aY v0_10 v0_11 v0_12 v0_13 v)
theorem Yy.l0_eq (k : Nat) (aB aA aC : List (List D)) (aG : Int) (a1 : ByteArray) (a2 : Bool) (aD : ByteArray) (aE : Bool) (aH aI aJ : List (List D)) (aK aN aL : Int) (aY : ByteArray) (v0_10 v0_11 : Int) (v0_12 v0_13 : List (List C)) : ∀ n v, Yy.r0 k aB aA aC aG a1 a2 aD aE aH aI aJ aK aN aL aY v0_10 v0_11 v0_12 v0_13 n v = Zo (Yy.l0 k aD aE aH aI aJ aK aN aL aY v0_10 v0_11 v0_12 v0_13 (fun z0 z1 z2 z3 z4 => some (z0, z1, z2, z3, z4))) n v :=
  Zm (Yy.s0 aD aE aH aI aJ aK aN aL aY v0_10 v0_11 v0_12 v0_13) _ fun L0 v => by obtain ⟨aF, v0_14⟩ := v; kernel_rfl
theorem Yy.ok (k : Nat) : Za Try.prog 145 (Yy.e k) := Zh (Yy.p k) mix tyok Try.func145 ⟨YA.ok k, Yr.ok k, Yf.ok k, Ys.ok k, Yo.ok k⟩ (by kernel_rfl) (fun aB aA aC aG a1 a2 => Eq.trans (b := Yy.m k aB aA aC aG a1 a2 (fun z0 z1 z2 z3 z4 => some (z0, z1, z2, z3, z4)) (fun aD aE aH aI aJ aK aN aL aY v0_10 v0_11 v0_12 v0_13 => Yy.r0 k aB aA aC aG a1 a2 aD aE aH aI aJ aK aN aL aY v0_10 v0_11 v0_12 v0_13 k)) (by kernel_rfl) (congrArg (Yy.m k aB aA aC aG a1 a2 (fun z0 z1 z2 z3 z4 => some (z0, z1, z2, z3, z4))) (funext fun aD => funext fun aE => funext fun aH => funext fun aI => funext fun aJ => funext fun aK => funext fun aN => funext fun aL => funext fun aY => funext fun v0_10 => funext fun v0_11 => funext fun v0_12 => funext fun v0_13 => funext fun v => Yy.l0_eq k aB aA aC aG a1 a2 aD aE aH aI aJ aK aN aL aY v0_10 v0_11 v0_12 v0_13 k v) :))
noncomputable def YU.g {β : Type} (k : Nat) (aB aA aC : List (List D)) (aG a1 : Int) (K : (List (List C)) → (List (List C)) → (List (List C)) → Int → Option β) : Option β :=
  YA.f k aB aA aC aG (fun y1 y2 y3 y4 => Yf.f k aB aA aC aG (fun y5 => bif y5 then (bif (decide ((a1 : Int) > aG)) then (bif (decide ((a1 : Int) ≤ 1000000)) then (K y1 y2 y3 a1) else (K y1 y2 y3 y4)) else (K y1 y2 y3 y4)) else (K y1 y2 y3 y4)))
noncomputable def YU.t (k : Nat) (aB aA aC : List (List D)) (aG a1 : Int) : Option ((List (List C)) × (List (List C)) × (List (List C)) × Int) := YU.g k aB aA aC aG a1 (fun z0 z1 z2 z3 => some (z0, z1, z2, z3))
noncomputable def YU.f {β : Type} (k : Nat) (aB aA aC : List (List D)) (aG a1 : Int) (K : (List (List C)) → (List (List C)) → (List (List C)) → Int → Option β) : Option β := bd4 (YU.t k aB aA aC aG a1) K
noncomputable def YU.e (k : Nat) : Zk := ent [.agg [.l, .l, .l, .n], .d .n] [4] [.o, .o, .o, .n] [27] false (YU.t k)
noncomputable def YU.p (k : Nat) : Pro := ⟨Try.prog, [(65, YA.e k), (23, Yf.e k)], Zn [] false [], k⟩
theorem YU.ok (k : Nat) : Za Try.prog 146 (YU.e k) := Zh (YU.p k) mix tyok Try.func146 ⟨YA.ok k, Yf.ok k⟩ (by kernel_rfl) (fun aB aA aC aG a1 => by show _ = _; kernel_rfl)
set_option maxRecDepth 100000 in
noncomputable def Yw.l0 {β : Type} (k : Nat) (aI : Int) (K : (List (List C)) → (List (List C)) → (List (List C)) → Int → (List (List D)) → Int → Int → Option β) (L0 : (Int × (List (List D)) × Int × Int × Int × (List (List C)) × (List (List C)) × (List (List C))) → Option β) (v : Int × (List (List D)) × Int × Int × Int × (List (List C)) × (List (List C)) × (List (List C))) : Option β :=
  match v with
  | (aD, aE, aF, aH, aJ, aK, aN, aL) => bif (decide ((aD : Int) > 0)) then (YL.f k aE aF aH ([[.str (⟨#[97]⟩ : ByteArray)], [.str (⟨#[98]⟩ : ByteArray)], [.str (⟨#[99]⟩ : ByteArray)], [.str (⟨#[100]⟩ : ByteArray)], [.str (⟨#[101]⟩ : ByteArray)]] : List (List D)) (fun y112 y113 y114 y115 => Yp.f k y113 y114 y115 6 (fun y116 y117 y118 y119 => let J0 := (L0 (IntKind.wrap .i64 (aD - 1), y117, y118, y119, aJ, aK, aN, aL)); bif ((y116 : Int) == 0) then (bif ((y116 : Int) == 0) then (YT.f k (C.immRows aK) (C.immRows aN) (C.immRows aL) aJ y112 (fun y120 y121 y122 y123 y124 => L0 (IntKind.wrap .i64 (aD - 1), y117, y118, y119, y123, y120, y121, y122))) else (bif ((y116 : Int) == 2) then (YB.f k (C.immRows aK) (C.immRows aN) (C.immRows aL) aJ (fun y125 y126 y127 y128 y129 y130 => L0 (IntKind.wrap .i64 (aD - 1), y117, y118, y119, y128, y125, y126, y127))) else (bif ((y116 : Int) == 3) then (YD.f k y117 y118 y119 2 (fun y131 y132 y133 y134 => Yy.f k (C.immRows aK) (C.immRows aN) (C.immRows aL) aJ y112 y131 (fun y135 y136 y137 y138 y139 => L0 (IntKind.wrap .i64 (aD - 1), y132, y133, y134, y138, y135, y136, y137)))) else (bif ((y116 : Int) == 4) then (Yp.f k y117 y118 y119 4 (fun y140 y141 y142 y143 => YU.f k (C.immRows aK) (C.immRows aN) (C.immRows aL) aJ (IntKind.wrap .i64 (aJ + y140)) (fun y144 y145 y146 y147 => L0 (IntKind.wrap .i64 (aD - 1), y141, y142, y143, y147, y144, y145, y146)))) else (bif (decide (((aN.length : Int) : Int) > 0)) then (Zc ((0 : Int) ≤ 0 ∧ 0 < (aN.length : Int)) (ZaG aN (Int.toNat 0) fun c148 => Zas (c148.drop 0) fun c149 r150 => cD c149 fun d151 => dStr d151 fun x152 => YD.f k y117 y118 y119 3 (fun y153 y154 y155 y156 => Yy.f k (C.immRows aK) (C.immRows aN) (C.immRows aL) aJ x152 y153 (fun y157 y158 y159 y160 y161 => L0 (IntKind.wrap .i64 (aD - 1), y154, y155, y156, y160, y157, y158, y159))))) else J0))))) else (bif ((y116 : Int) == 1) then (YT.f k (C.immRows aK) (C.immRows aN) (C.immRows aL) aJ y112 (fun y162 y163 y164 y165 y166 => L0 (IntKind.wrap .i64 (aD - 1), y117, y118, y119, y165, y162, y163, y164))) else (bif ((y116 : Int) == 2) then (YB.f k (C.immRows aK) (C.immRows aN) (C.immRows aL) aJ (fun y167 y168 y169 y170 y171 y172 => L0 (IntKind.wrap .i64 (aD - 1), y117, y118, y119, y170, y167, y168, y169))) else (bif ((y116 : Int) == 3) then (YD.f k y117 y118 y119 2 (fun y173 y174 y175 y176 => Yy.f k (C.immRows aK) (C.immRows aN) (C.immRows aL) aJ y112 y173 (fun y177 y178 y179 y180 y181 => L0 (IntKind.wrap .i64 (aD - 1), y174, y175, y176, y180, y177, y178, y179)))) else (bif ((y116 : Int) == 4) then (Yp.f k y117 y118 y119 4 (fun y182 y183 y184 y185 => YU.f k (C.immRows aK) (C.immRows aN) (C.immRows aL) aJ (IntKind.wrap .i64 (aJ + y182)) (fun y186 y187 y188 y189 => L0 (IntKind.wrap .i64 (aD - 1), y183, y184, y185, y189, y186, y187, y188)))) else (bif (decide (((aN.length : Int) : Int) > 0)) then (Zc ((0 : Int) ≤ 0 ∧ 0 < (aN.length : Int)) (ZaG aN (Int.toNat 0) fun c190 => Zas (c190.drop 0) fun c191 r192 => cD c191 fun d193 => dStr d193 fun x194 => YD.f k y117 y118 y119 3 (fun y195 y196 y197 y198 => Yy.f k (C.immRows aK) (C.immRows aN) (C.immRows aL) aJ x194 y195 (fun y199 y200 y201 y202 y203 => L0 (IntKind.wrap .i64 (aD - 1), y196, y197, y198, y202, y199, y200, y201))))) else J0)))))))) else (K aK aN aL aJ aE aF aH)
noncomputable def Yw.m {β : Type} (k : Nat) (aB : List (List D)) (aA aC a1 : Int) (K : (List (List C)) → (List (List C)) → (List (List C)) → Int → (List (List D)) → Int → Int → Option β) (F : (Int → (Int × (List (List D)) × Int × Int × Int × (List (List C)) × (List (List C)) × (List (List C))) → Option β)) : Option β :=
  Yp.f k aB aA aC 10 (fun y1 y2 y3 y4 => Yp.f k y2 y3 y4 a1 (fun y5 y6 y7 y8 => F 0 (y5, y6, y7, y8, y1, ([] : List (List C)), ([] : List (List C)), ([] : List (List C)))))
noncomputable def Yw.g {β : Type} (k : Nat) (aB : List (List D)) (aA aC a1 : Int) (K : (List (List C)) → (List (List C)) → (List (List C)) → Int → (List (List D)) → Int → Int → Option β) : Option β :=
  Yp.f k aB aA aC 10 (fun y1 y2 y3 y4 => Yp.f k y2 y3 y4 a1 (fun y5 y6 y7 y8 => Zo (Yw.l0 k 0 K) k (y5, y6, y7, y8, y1, ([] : List (List C)), ([] : List (List C)), ([] : List (List C)))))
noncomputable def Yw.t (k : Nat) (aB : List (List D)) (aA aC a1 : Int) : Option ((List (List C)) × (List (List C)) × (List (List C)) × Int × (List (List D)) × Int × Int) := Yw.g k aB aA aC a1 (fun z0 z1 z2 z3 z4 z5 z6 => some (z0, z1, z2, z3, z4, z5, z6))
noncomputable def Yw.f {β : Type} (k : Nat) (aB : List (List D)) (aA aC a1 : Int) (K : (List (List C)) → (List (List C)) → (List (List C)) → Int → (List (List D)) → Int → Int → Option β) : Option β := match Yw.t k aB aA aC a1 with | some (z0, z1, z2, z3, z4, z5, z6) => K z0 z1 z2 z3 z4 z5 z6 | none => none
noncomputable def Yw.e (k : Nat) : Zk := ent [.box 178 [.l, .n, .n], .d .n] [4] [.o, .o, .o, .n, .l, .n, .n] [27] false (Yw.t k)
noncomputable def Yw.p (k : Nat) : Pro := ⟨Try.prog, [(112, Yp.e k), (75, YL.e k), (22, YT.e k), (14, YB.e k), (81, YD.e k), (145, Yy.e k), (146, YU.e k)], Zn [(3, kp [0, 4, 5, 6] [] [(5, 0, .row true 24), (5, 1, .row true 24), (5, 2, .row true 25)])] false [], k⟩
noncomputable def Yw.d (k : Nat) (aB : List (List D)) (aA aC a1 : Int) : Ex → St → Option ((List (List C)) × (List (List C)) × (List (List C)) × Int × (List (List D)) × Int × Int) := (Yw.p k).fin Try.f59 [.box [.d (.sl aB), .d (.int .i64 aA), .d (.int .i64 aC)], .d (.int .i64 a1)] [4] [.o, .o, .o, .n, .l, .n, .n]
noncomputable def Yw.s0 (aI : Int) (v : Int × (List (List D)) × Int × Int × Int × (List (List C)) × (List (List C)) × (List (List C))) : St :=
  match v with
  | (aD, aE, aF, aH, aJ, aK, aN, aL) => ZX 76 [(0, .bp 0 0), (4, .bp 1 0), (5, .bp 2 0), (6, .d true (.int .i64 aD))] [.box (some 0) 178 [.d false (.sl aE), .d false (.int .i64 aF), .d false (.int .i64 aH)], .box none 27 [.nil, .nil, .nil, .d true (.int .i64 aI)], .box none 27 [.row 3, .row 4, .row 5, .d true (.int .i64 aJ)], .row none true 24 aK, .row none true 24 aN, .row none true 25 aL]
noncomputable def Yw.r0 (k : Nat) (aB : List (List D)) (aA aC a1 aI : Int) (n : Nat) (v : Int × (List (List D)) × Int × Int × Int × (List (List C)) × (List (List C)) × (List (List C))) : Option ((List (List C)) × (List (List C)) × (List (List C)) × Int × (List (List D)) × Int × Int) := (Yw.p k).lp (Zt Try.f59) 3 [1, 1, 0, 1, 0] (Yw.d k aB aA aC a1) n (Yw.s0 aI v)
theorem Yw.l0_eq (k : Nat) (aB : List (List D)) (aA aC a1 aI : Int) : ∀ n v, Yw.r0 k aB aA aC a1 aI n v = Zo (Yw.l0 k aI (fun z0 z1 z2 z3 z4 z5 z6 => some (z0, z1, z2, z3, z4, z5, z6))) n v :=
  Zm (Yw.s0 aI) _ fun L0 v => by obtain ⟨aD, aE, aF, aH, aJ, aK, aN, aL⟩ := v; kernel_rfl
theorem Yw.ok (k : Nat) : Za Try.prog 59 (Yw.e k) := Zh (Yw.p k) mix tyok Try.func59 ⟨Yp.ok k, YL.ok k, YT.ok k, YB.ok k, YD.ok k, Yy.ok k, YU.ok k⟩ (by kernel_rfl) (fun aB aA aC a1 => Eq.trans (b := Yw.m k aB aA aC a1 (fun z0 z1 z2 z3 z4 z5 z6 => some (z0, z1, z2, z3, z4, z5, z6)) (fun aI => Yw.r0 k aB aA aC a1 aI k)) (by kernel_rfl) (congrArg (Yw.m k aB aA aC a1 (fun z0 z1 z2 z3 z4 z5 z6 => some (z0, z1, z2, z3, z4, z5, z6))) (funext fun aI => funext fun v => Yw.l0_eq k aB aA aC a1 aI k v) :))
noncomputable def YO.g {β : Type} (k : Nat) (aB : List (List D)) (aA aC : Int) (a1 : List (List D)) (K : Int → (List (List D)) → Int → Int → Option β) : Option β :=
  Yp.f k aB aA aC (a1.length : Int) (fun y1 y2 y3 y4 => atR a1 y1 [.n] fun x8 => (K x8 y2 y3 y4))
noncomputable def YO.t (k : Nat) (aB : List (List D)) (aA aC : Int) (a1 : List (List D)) : Option (Int × (List (List D)) × Int × Int) := YO.g k aB aA aC a1 (fun z0 z1 z2 z3 => some (z0, z1, z2, z3))
noncomputable def YO.f {β : Type} (k : Nat) (aB : List (List D)) (aA aC : Int) (a1 : List (List D)) (K : Int → (List (List D)) → Int → Int → Option β) : Option β := bd4 (YO.t k aB aA aC a1) K
noncomputable def YO.e (k : Nat) : Zk := ent [.box 178 [.l, .n, .n], .d .l] [1] [.n, .l, .n, .n] [3] false (YO.t k)
noncomputable def YO.p (k : Nat) : Pro := ⟨Try.prog, [(112, Yp.e k)], Zn [] false [], k⟩
theorem YO.ok (k : Nat) : Za Try.prog 118 (YO.e k) := Zh (YO.p k) mix tyok Try.func118 (Yp.ok k) (by kernel_rfl) (fun aB aA aC a1 => by show _ = _; kernel_rfl)
noncomputable def YS.g {β : Type} (k : Nat) (aB : List (List D)) (aA aC : Int) (a1_0 a1_1 a1_2 : List (List D)) (a1_3 : Int) (K : (List (List C)) → (List (List C)) → (List (List C)) → Int → (List (List D)) → Int → Int → Option β) : Option β :=
  YA.f k a1_0 a1_1 a1_2 a1_3 (fun y1 y2 y3 y4 => Yp.f k aB aA aC 7 (fun y5 y6 y7 y8 => bif ((y5 : Int) == 0) then (YO.f k y6 y7 y8 ([[.int .i64 (-1)], [.int .i64 1000000], [.int .i64 1000001]] : List (List D)) (fun y9 y10 y11 y12 => K y1 y2 y3 y9 y10 y11 y12)) else (bif ((y5 : Int) == 1) then (Zc (y3.length + ([[.d (.str (⟨#[122, 122]⟩ : ByteArray))]] : List (List C)).length ≤ ZN) (K y1 y2 (y3 ++ ([[.d (.str (⟨#[122, 122]⟩ : ByteArray))]] : List (List C))) y4 y6 y7 y8)) else (bif ((y5 : Int) == 2) then (bif (decide (((y1.length : Int) : Int) > 0)) then (Zc ((0 : Int) ≤ 0 ∧ 0 < (y1.length : Int)) (ZaG y1 (Int.toNat 0) fun c13 => Zas (c13.drop 0) fun c14 r15 => cD c14 fun d16 => dStr d16 fun x17 => Zas r15 fun c18 r19 => cD c18 fun d20 => dInt .i64 d20 fun x21 => Zas r19 fun c22 r23 => cD c22 fun d24 => dInt .i64 d24 fun x25 => Zc (y1.length + ([[.d (.str x17), .d (.int .i64 x21), .d (.int .i64 x25)]] : List (List C)).length ≤ ZN) (K (y1 ++ ([[.d (.str x17), .d (.int .i64 x21), .d (.int .i64 x25)]] : List (List C))) y2 y3 y4 y6 y7 y8))) else (K y1 y2 y3 y4 y6 y7 y8)) else (bif ((y5 : Int) == 3) then (bif (decide (((y1.length : Int) : Int) > 0)) then (YO.f k y6 y7 y8 ([[.int .i64 (-1)], [.int .i64 7], [.int .i64 1000], [.int .i64 1001]] : List (List D)) (fun y26 y27 y28 y29 => Zc ((0 : Int) ≤ 0 ∧ 0 < (y1.length : Int)) (Zc (Int.toNat 0 < y1.length) (K (y1.modify (Int.toNat 0) fun c => Zq c 2 [.d (.int .i64 y26)]) y2 y3 y4 y27 y28 y29)))) else (K y1 y2 y3 y4 y6 y7 y8)) else (K y1 y2 y3 y4 y6 y7 y8))))))
noncomputable def YS.t (k : Nat) (aB : List (List D)) (aA aC : Int) (a1_0 a1_1 a1_2 : List (List D)) (a1_3 : Int) : Option ((List (List C)) × (List (List C)) × (List (List C)) × Int × (List (List D)) × Int × Int) := YS.g k aB aA aC a1_0 a1_1 a1_2 a1_3 (fun z0 z1 z2 z3 z4 z5 z6 => some (z0, z1, z2, z3, z4, z5, z6))
noncomputable def YS.f {β : Type} (k : Nat) (aB : List (List D)) (aA aC : Int) (a1_0 a1_1 a1_2 : List (List D)) (a1_3 : Int) (K : (List (List C)) → (List (List C)) → (List (List C)) → Int → (List (List D)) → Int → Int → Option β) : Option β := match YS.t k aB aA aC a1_0 a1_1 a1_2 a1_3 with | some (z0, z1, z2, z3, z4, z5, z6) => K z0 z1 z2 z3 z4 z5 z6 | none => none
noncomputable def YS.e (k : Nat) : Zk := ent [.box 178 [.l, .n, .n], .agg [.l, .l, .l, .n]] [4] [.o, .o, .o, .n, .l, .n, .n] [27] false (YS.t k)
noncomputable def YS.p (k : Nat) : Pro := ⟨Try.prog, [(65, YA.e k), (112, Yp.e k), (118, YO.e k)], Zn [] false [], k⟩
theorem YS.ok (k : Nat) : Za Try.prog 153 (YS.e k) := Zh (YS.p k) mix tyok Try.func153 ⟨YA.ok k, Yp.ok k, YO.ok k⟩ (by kernel_rfl) (fun aB aA aC a1_0 a1_1 a1_2 a1_3 => by show _ = _; kernel_rfl)
noncomputable def Yl.l1 {β : Type} (k : Nat) (aM : List (List D)) (aQ aP aR aS : Int) (aV aZ : List (List C)) (K : (List (List C)) → (List (List C)) → (List (List C)) → Int → (List (List D)) → Int → Int → Option β) (L1 : (Int × (List (List C))) → Option β) (v : Int × (List (List C))) : Option β :=
  match v with
  | (aO, aT) => bif (decide ((aO : Int) < 60)) then (let J0 := (⟨#[UInt8.ofNat (Int.toNat 122), UInt8.ofNat (Int.toNat (IntKind.wrap .u8 (IntKind.wrap .i64 (97 + (IntKind.wrap .i64 (Int.tdiv aO 10)))))), UInt8.ofNat (Int.toNat (IntKind.wrap .u8 (IntKind.wrap .i64 (48 + (Int.tmod aO 10)))))]⟩ : ByteArray); Zc ((10 : Int) ≠ 0) (Zc ((10 : Int) ≠ 0) (Zc (aT.length + ([[.d (.str J0), .d (.int .i64 0), .d (.int .i64 0)]] : List (List C)).length ≤ ZN) (L1 (IntKind.wrap .i64 (aO + 1), aT ++ ([[.d (.str J0), .d (.int .i64 0), .d (.int .i64 0)]] : List (List C))))))) else (K aT aV aZ aS aM aQ aP)
noncomputable def Yl.l0 {β : Type} (k : Nat) (aE : List (List D)) (aF aH aI aJ : Int) (aN aL : List (List C)) (K : (List (List C)) → (List (List C)) → (List (List C)) → Int → (List (List D)) → Int → Int → Option β) (L0 : (Int × (List (List C))) → Option β) (v : Int × (List (List C))) : Option β :=
  match v with
  | (aD, aK) => bif (decide ((aD : Int) < 60)) then (let J0 := (⟨#[UInt8.ofNat (Int.toNat 122), UInt8.ofNat (Int.toNat (IntKind.wrap .u8 (IntKind.wrap .i64 (97 + (IntKind.wrap .i64 (Int.tdiv aD 10)))))), UInt8.ofNat (Int.toNat (IntKind.wrap .u8 (IntKind.wrap .i64 (48 + (Int.tmod aD 10)))))]⟩ : ByteArray); Zc ((10 : Int) ≠ 0) (Zc ((10 : Int) ≠ 0) (Zc (aK.length + ([[.d (.str J0), .d (.int .i64 0), .d (.int .i64 0)]] : List (List C)).length ≤ ZN) (L0 (IntKind.wrap .i64 (aD + 1), aK ++ ([[.d (.str J0), .d (.int .i64 0), .d (.int .i64 0)]] : List (List C))))))) else (K aK aN aL aJ aE aF aH)
noncomputable def Yl.m {β : Type} (k : Nat) (aB : List (List D)) (aA aC a1 : Int) (K : (List (List C)) → (List (List C)) → (List (List C)) → Int → (List (List D)) → Int → Int → Option β) (F : ((List (List D)) → Int → Int → Int → Int → (List (List C)) → (List (List C)) → (Int × (List (List C))) → Option β) × ((List (List D)) → Int → Int → Int → Int → (List (List C)) → (List (List C)) → (Int × (List (List C))) → Option β)) : Option β :=
  Yw.f k aB aA aC a1 (fun y204 y205 y206 y207 y208 y209 y210 => YD.f k y208 y209 y210 5 (fun y211 y212 y213 y214 => bif y211 then (YS.f k y212 y213 y214 (C.immRows y204) (C.immRows y205) (C.immRows y206) y207 (fun y215 y216 y217 y218 y219 y220 y221 => YD.f k y219 y220 y221 40 (fun y222 y223 y224 y225 => bif y222 then (F.1 y223 y224 y225 0 y218 ([] : List (List C)) ([] : List (List C)) (0, ([] : List (List C)))) else (K y215 y216 y217 y218 y223 y224 y225)))) else (YD.f k y212 y213 y214 40 (fun y226 y227 y228 y229 => bif y226 then (F.2 y227 y228 y229 0 y207 ([] : List (List C)) ([] : List (List C)) (0, ([] : List (List C)))) else (K y204 y205 y206 y207 y227 y228 y229)))))
noncomputable def Yl.g {β : Type} (k : Nat) (aB : List (List D)) (aA aC a1 : Int) (K : (List (List C)) → (List (List C)) → (List (List C)) → Int → (List (List D)) → Int → Int → Option β) : Option β := Yl.m k aB aA aC a1 K ((fun aE aF aH aI aJ aN aL => Zo (Yl.l0 k aE aF aH aI aJ aN aL K) k), (fun aM aQ aP aR aS aV aZ => Zo (Yl.l1 k aM aQ aP aR aS aV aZ K) k))
noncomputable def Yl.t (k : Nat) (aB : List (List D)) (aA aC a1 : Int) : Option ((List (List C)) × (List (List C)) × (List (List C)) × Int × (List (List D)) × Int × Int) := Yl.g k aB aA aC a1 (fun z0 z1 z2 z3 z4 z5 z6 => some (z0, z1, z2, z3, z4, z5, z6))
noncomputable def Yl.f {β : Type} (k : Nat) (aB : List (List D)) (aA aC a1 : Int) (K : (List (List C)) → (List (List C)) → (List (List C)) → Int → (List (List D)) → Int → Int → Option β) : Option β := match Yl.t k aB aA aC a1 with | some (z0, z1, z2, z3, z4, z5, z6) => K z0 z1 z2 z3 z4 z5 z6 | none => none
noncomputable def Yl.e (k : Nat) : Zk := ent [.box 178 [.l, .n, .n], .d .n] [4] [.o, .o, .o, .n, .l, .n, .n] [27] false (Yl.t k)
noncomputable def Yl.p (k : Nat) : Pro := ⟨Try.prog, [(59, Yw.e k), (81, YD.e k), (153, YS.e k)], Zn [(9, kp [4, 5, 6])] false [], k⟩
noncomputable def Yl.d (k : Nat) (aB : List (List D)) (aA aC a1 : Int) : Ex → St → Option ((List (List C)) × (List (List C)) × (List (List C)) × Int × (List (List D)) × Int × Int) := (Yl.p k).fin Try.f74 [.box [.d (.sl aB), .d (.int .i64 aA), .d (.int .i64 aC)], .d (.int .i64 a1)] [4] [.o, .o, .o, .n, .l, .n, .n]
noncomputable def Yl.s0 (aE : List (List D)) (aF aH aI aJ : Int) (aN aL : List (List C)) (v : Int × (List (List C))) : St :=
  match v with
  | (aD, aK) => ZX 44 [(4, .bp 1 0), (5, .bp 2 0), (6, .d true (.int .i64 aD))] [.box (some 0) 178 [.d false (.sl aE), .d false (.int .i64 aF), .d false (.int .i64 aH)], .box none 27 [.nil, .nil, .nil, .d true (.int .i64 aI)], .box none 27 [.row 3, .row 4, .row 5, .d true (.int .i64 aJ)], .row none true 24 aK, .row none true 24 aN, .row none true 25 aL]
noncomputable def Yl.r0 (k : Nat) (aB : List (List D)) (aA aC a1 : Int) (aE : List (List D)) (aF aH aI aJ : Int) (aN aL : List (List C)) (n : Nat) (v : Int × (List (List C))) : Option ((List (List C)) × (List (List C)) × (List (List C)) × Int × (List (List D)) × Int × Int) := (Yl.p k).lp (Zt Try.f74) 9 [1, 1, 1, 0, 1, 0, 1, 1, 1, 1, 0] (Yl.d k aB aA aC a1) n (Yl.s0 aE aF aH aI aJ aN aL v)
noncomputable def Yl.s1 (aM : List (List D)) (aQ aP aR aS : Int) (aV aZ : List (List C)) (v : Int × (List (List C))) : St :=
  match v with
  | (aO, aT) => ZX 44 [(4, .bp 1 0), (5, .bp 2 0), (6, .d true (.int .i64 aO))] [.box (some 0) 178 [.d false (.sl aM), .d false (.int .i64 aQ), .d false (.int .i64 aP)], .box none 27 [.nil, .nil, .nil, .d true (.int .i64 aR)], .box none 27 [.row 3, .row 4, .row 5, .d true (.int .i64 aS)], .row none true 24 aT, .row none true 24 aV, .row none true 25 aZ]
noncomputable def Yl.r1 (k : Nat) (aB : List (List D)) (aA aC a1 : Int) (aM : List (List D)) (aQ aP aR aS : Int) (aV aZ : List (List C)) (n : Nat) (v : Int × (List (List C))) : Option ((List (List C)) × (List (List C)) × (List (List C)) × Int × (List (List D)) × Int × Int) := (Yl.p k).lp (Zt Try.f74) 9 [1, 1, 1, 0, 1, 0, 1, 1, 1, 1, 0] (Yl.d k aB aA aC a1) n (Yl.s1 aM aQ aP aR aS aV aZ v)
theorem Yl.l1_eq (k : Nat) (aB : List (List D)) (aA aC a1 : Int) (aM : List (List D)) (aQ aP aR aS : Int) (aV aZ : List (List C)) : ∀ n v, Yl.r1 k aB aA aC a1 aM aQ aP aR aS aV aZ n v = Zo (Yl.l1 k aM aQ aP aR aS aV aZ (fun z0 z1 z2 z3 z4 z5 z6 => some (z0, z1, z2, z3, z4, z5, z6))) n v :=
  Zm (Yl.s1 aM aQ aP aR aS aV aZ) _ fun L1 v => by obtain ⟨aO, aT⟩ := v; kernel_rfl
theorem Yl.l0_eq (k : Nat) (aB : List (List D)) (aA aC a1 : Int) (aE : List (List D)) (aF aH aI aJ : Int) (aN aL : List (List C)) : ∀ n v, Yl.r0 k aB aA aC a1 aE aF aH aI aJ aN aL n v = Zo (Yl.l0 k aE aF aH aI aJ aN aL (fun z0 z1 z2 z3 z4 z5 z6 => some (z0, z1, z2, z3, z4, z5, z6))) n v :=
  Zm (Yl.s0 aE aF aH aI aJ aN aL) _ fun L0 v => by obtain ⟨aD, aK⟩ := v; kernel_rfl
theorem Yl.ok (k : Nat) : Za Try.prog 74 (Yl.e k) := Zh (Yl.p k) mix tyok Try.func74 ⟨Yw.ok k, YD.ok k, YS.ok k⟩ (by kernel_rfl) (fun aB aA aC a1 => Eq.trans (b := Yl.m k aB aA aC a1 (fun z0 z1 z2 z3 z4 z5 z6 => some (z0, z1, z2, z3, z4, z5, z6)) ((fun aE aF aH aI aJ aN aL => Yl.r0 k aB aA aC a1 aE aF aH aI aJ aN aL k), (fun aM aQ aP aR aS aV aZ => Yl.r1 k aB aA aC a1 aM aQ aP aR aS aV aZ k))) (by kernel_rfl) (congrArg (Yl.m k aB aA aC a1 (fun z0 z1 z2 z3 z4 z5 z6 => some (z0, z1, z2, z3, z4, z5, z6))) (pair_eq (funext fun aE => funext fun aF => funext fun aH => funext fun aI => funext fun aJ => funext fun aN => funext fun aL => funext fun v => Yl.l0_eq k aB aA aC a1 aE aF aH aI aJ aN aL k v) (funext fun aM => funext fun aQ => funext fun aP => funext fun aR => funext fun aS => funext fun aV => funext fun aZ => funext fun v => Yl.l1_eq k aB aA aC a1 aM aQ aP aR aS aV aZ k v)) :))
noncomputable def YK.g {β : Type} (k : Nat) (a0 : List (List D)) (K : (List (List C)) → (List (List C)) → (List (List C)) → Int → ByteArray → Option β) : Option β :=
  Yx.f k a0 (fun y9 y10 y11 => YM.f k a0 30 (fun y12 => Yl.f k y9 y10 y11 y12 (fun y230 y231 y232 y233 y234 y235 y236 => YL.f k y234 y235 y236 ([[.str (⟨#[97]⟩ : ByteArray)], [.str (⟨#[98]⟩ : ByteArray)], [.str (⟨#[99]⟩ : ByteArray)], [.str (⟨#[100]⟩ : ByteArray)], [.str (⟨#[120]⟩ : ByteArray)], [.str (⟨#[]⟩ : ByteArray)]] : List (List D)) (fun y237 y238 y239 y240 => K y230 y231 y232 y233 y237))))
noncomputable def YK.t (k : Nat) (a0 : List (List D)) : Option ((List (List C)) × (List (List C)) × (List (List C)) × Int × ByteArray) := YK.g k a0 (fun z0 z1 z2 z3 z4 => some (z0, z1, z2, z3, z4))
noncomputable def YK.f {β : Type} (k : Nat) (a0 : List (List D)) (K : (List (List C)) → (List (List C)) → (List (List C)) → Int → ByteArray → Option β) : Option β := bd5 (YK.t k a0) K
noncomputable def YK.e (k : Nat) : Zk := ent [.d .l] [4, 1] [.o, .o, .o, .n, .s] [27, 9] false (YK.t k)
noncomputable def YK.p (k : Nat) : Pro := ⟨Try.prog, [(58, Yx.e k), (60, YM.e k), (74, Yl.e k), (75, YL.e k)], Zn [] false [], k⟩
theorem YK.ok (k : Nat) : Za Try.prog 20 (YK.e k) := Zh (YK.p k) mix tyok Try.func20 ⟨Yx.ok k, YM.ok k, Yl.ok k, YL.ok k⟩ (by kernel_rfl) (fun a0 => by show _ = _; kernel_rfl)
noncomputable def Yq.g {β : Type} (k : Nat) (a0 : List (List D)) (K : (List (List C)) → Option β) : Option β :=
  let J0 := (Zc (ZaZ 3 a0) (Zc (([] : List (List C)).length + (a0.map (·.map C.d)).length ≤ ZN) (K (([] : List (List C)) ++ (a0.map (·.map C.d)))))); nilSl a0 (both (K ([] : List (List C))) J0) J0
noncomputable def Yq.t (k : Nat) (a0 : List (List D)) : Option ((List (List C))) := Yq.g k a0 (fun z0 => some z0)
noncomputable def Yq.f {β : Type} (k : Nat) (a0 : List (List D)) (K : (List (List C)) → Option β) : Option β := bd1 (Yq.t k a0) K
noncomputable def Yq.e (k : Nat) : Zk := ent [.d .l] [1] [.o] [24] false (Yq.t k)
noncomputable def Yq.p (k : Nat) : Pro := ⟨Try.prog, [], Zn [] false [], k⟩
theorem Yq.ok (k : Nat) : Za Try.prog 147 (Yq.e k) := Zh (Yq.p k) mix tyok Try.func147 trivial (by kernel_rfl) (fun a0 => by show _ = _; kernel_rfl)
noncomputable def Yv.g {β : Type} (k : Nat) (a0 : List (List D)) (K : (List (List C)) → Option β) : Option β :=
  let J0 := (Zc (ZaZ 1 a0) (Zc (([] : List (List C)).length + (a0.map (·.map C.d)).length ≤ ZN) (K (([] : List (List C)) ++ (a0.map (·.map C.d)))))); nilSl a0 (both (K ([] : List (List C))) J0) J0
noncomputable def Yv.t (k : Nat) (a0 : List (List D)) : Option ((List (List C))) := Yv.g k a0 (fun z0 => some z0)
noncomputable def Yv.f {β : Type} (k : Nat) (a0 : List (List D)) (K : (List (List C)) → Option β) : Option β := bd1 (Yv.t k a0) K
noncomputable def Yv.e (k : Nat) : Zk := ent [.d .l] [1] [.o] [25] false (Yv.t k)
noncomputable def Yv.p (k : Nat) : Pro := ⟨Try.prog, [], Zn [] false [], k⟩
theorem Yv.ok (k : Nat) : Za Try.prog 148 (Yv.e k) := Zh (Yv.p k) mix tyok Try.func148 trivial (by kernel_rfl) (fun a0 => by show _ = _; kernel_rfl)
noncomputable def Yz.g {β : Type} (k : Nat) (aB aA aC : List (List D)) (aG : Int) (K : (List (List C)) → (List (List C)) → (List (List C)) → Int → Option β) : Option β :=
  Yq.f k aB (fun y1 => Yq.f k aA (fun y2 => Yv.f k aC (fun y3 => K y1 y2 y3 aG)))
noncomputable def Yz.t (k : Nat) (aB aA aC : List (List D)) (aG : Int) : Option ((List (List C)) × (List (List C)) × (List (List C)) × Int) := Yz.g k aB aA aC aG (fun z0 z1 z2 z3 => some (z0, z1, z2, z3))
noncomputable def Yz.f {β : Type} (k : Nat) (aB aA aC : List (List D)) (aG : Int) (K : (List (List C)) → (List (List C)) → (List (List C)) → Int → Option β) : Option β := bd4 (Yz.t k aB aA aC aG) K
noncomputable def Yz.e (k : Nat) : Zk := ent [.agg [.l, .l, .l, .n]] [4] [.o, .o, .o, .n] [27] false (Yz.t k)
noncomputable def Yz.p (k : Nat) : Pro := ⟨Try.prog, [(147, Yq.e k), (148, Yv.e k)], Zn [] false [], k⟩
theorem Yz.ok (k : Nat) : Za Try.prog 61 (Yz.e k) := Zh (Yz.p k) mix tyok Try.func61 ⟨Yq.ok k, Yv.ok k⟩ (by kernel_rfl) (fun aB aA aC aG => by show _ = _; kernel_rfl)
noncomputable def YH.g {β : Type} (k : Nat) (a0 a1 a2 : Int) (K : Bool → Option β) : Option β :=
  bif (decide ((a0 : Int) ≥ a1)) then (K (decide ((a0 : Int) ≤ a2))) else (K false)
noncomputable def YH.t (k : Nat) (a0 a1 a2 : Int) : Option (Bool) := YH.g k a0 a1 a2 (fun z0 => some z0)
noncomputable def YH.f {β : Type} (k : Nat) (a0 a1 a2 : Int) (K : Bool → Option β) : Option β := bd1 (YH.t k a0 a1 a2) K
noncomputable def YH.e (k : Nat) : Zk := ent [.d .n, .d .n, .d .n] [1] [.b] [4] false (YH.t k)
noncomputable def YH.p (k : Nat) : Pro := ⟨Try.prog, [], Zn [] false [], k⟩
theorem YH.ok (k : Nat) : Za Try.prog 71 (YH.e k) := Zh (YH.p k) mix tyok Try.func71 trivial (by kernel_rfl) (fun a0 a1 a2 => by show _ = _; kernel_rfl)
noncomputable def Yn.g {β : Type} (k : Nat) (a1 : Int) (K : (List (List C)) → Option β) : Option β :=
  bif (decide ((a1 : Int) < 0)) then none else (bif (decide (((IntKind.wrap .i64 (a1 - (IntKind.wrap .i64 (0 - 0)))) : Int) > 0)) then (let J0 := (List.replicate (Int.toNat (IntKind.wrap .i64 (a1 - (IntKind.wrap .i64 (0 - 0))))) ([.d (.str (⟨#[]⟩ : ByteArray)), .d (.int .i64 0), .d (.int .i64 0)] : List C)); Zc (0 ≤ (0 : Int) ∧ (0 : Int) ≤ (0 : Int) ∧ (0 : Int) ≤ 0) (Zc ((0 : Int) ≤ (IntKind.wrap .i64 (a1 - (IntKind.wrap .i64 (0 - 0)))) ∧ (IntKind.wrap .i64 (a1 - (IntKind.wrap .i64 (0 - 0)))) ≤ (ZN : Int)) (Zc (J0.length ≤ ZN) (Zc (0 ≤ (0 : Int) ∧ (0 : Int) ≤ (J0.length : Int)) (K (J0.take (Int.toNat (0 : Int)))))))) else (K ([] : List (List C))))
noncomputable def Yn.t (k : Nat) (a1 : Int) : Option ((List (List C))) := Yn.g k a1 (fun z0 => some z0)
noncomputable def Yn.f {β : Type} (k : Nat) (a1 : Int) (K : (List (List C)) → Option β) : Option β := bd1 (Yn.t k a1) K
noncomputable def Yn.e (k : Nat) : Zk := ent [.nil, .d .n] [1] [.o] [24] false (Yn.t k)
noncomputable def Yn.p (k : Nat) : Pro := ⟨Try.prog, [], Zn [] false [], k⟩
theorem Yn.ok (k : Nat) : Za Try.prog 152 (Yn.e k) := Zh (Yn.p k) mix tyok Try.func152 trivial (by kernel_rfl) (fun a1 => by show _ = _; kernel_rfl)
noncomputable def Yc.l1 {β : Type} (k : Nat) (aO : List (List D)) (aM : Int) (K : (List (List C)) → Option β) (L1 : (Int × (List (List C))) → Option β) (v : Int × (List (List C))) : Option β :=
  match v with
  | (aQ, aP) => bif (decide ((aQ : Int) < aM)) then (atR aO aQ [.l] fun x26 => (Zc (ZaZ 3 x26) (Zc (aP.length + (x26.map (·.map C.d)).length ≤ ZN) (L1 (IntKind.wrap .i64 (aQ + 1), aP ++ (x26.map (·.map C.d))))))) else (K aP)
noncomputable def Yc.m0 {β : Type} (k : Nat) (aD aF : List (List D)) (aH : Int) (K : (List (List C)) → Option β) (L0 : (Int × Int) → Option β) (v : Int × Int) (F : ((List (List D)) → Int → (Int × (List (List C))) → Option β)) : Option β :=
  match v with
  | (aE, aI) => bif (decide ((aI : Int) < aH)) then (atR aF aI [.l] fun x17 => (bif (decide (((IntKind.wrap .i64 (aE + (x17.length : Int))) : Int) < 0)) then none else (L0 (IntKind.wrap .i64 (aE + (x17.length : Int)), IntKind.wrap .i64 (aI + 1))))) else (Yn.f k aE (fun y18 => F aD (aD.length : Int) (0, y18)))
noncomputable def Yc.l0 {β : Type} (k : Nat) (aD aF : List (List D)) (aH : Int) (K : (List (List C)) → Option β) (L0 : (Int × Int) → Option β) (v : Int × Int) : Option β := Yc.m0 k aD aF aH K L0 v (fun aO aM => Zo (Yc.l1 k aO aM K) k)
noncomputable def Yc.m {β : Type} (k : Nat) (a0 : List (List D)) (K : (List (List C)) → Option β) (F : ((List (List D)) → (List (List D)) → Int → (Int × Int) → Option β)) : Option β :=
  F a0 a0 (a0.length : Int) (0, 0)
noncomputable def Yc.g {β : Type} (k : Nat) (a0 : List (List D)) (K : (List (List C)) → Option β) : Option β :=
  Zo (Yc.l0 k a0 a0 (a0.length : Int) K) k (0, 0)
noncomputable def Yc.t (k : Nat) (a0 : List (List D)) : Option ((List (List C))) := Yc.g k a0 (fun z0 => some z0)
noncomputable def Yc.f {β : Type} (k : Nat) (a0 : List (List D)) (K : (List (List C)) → Option β) : Option β := bd1 (Yc.t k a0) K
noncomputable def Yc.e (k : Nat) : Zk := ent [.d .l] [1] [.o] [24] false (Yc.t k)
noncomputable def Yc.p (k : Nat) : Pro := ⟨Try.prog, [(152, Yn.e k)], Zn [(3, kp [0, 3, 9, 10, 11]), (11, kp [6, 25, 26, 27])] false [], k⟩
noncomputable def Yc.d (k : Nat) (a0 : List (List D)) : Ex → St → Option ((List (List C))) := (Yc.p k).fin Try.f72 [.d (.sl a0)] [1] [.o]
noncomputable def Yc.s0 (aD aF : List (List D)) (aH : Int) (v : Int × Int) : St :=
  match v with
  | (aE, aI) => ZX 36 [(0, .d false (.sl aD)), (3, .d true (.int .i64 aE)), (9, .d false (.sl aF)), (10, .d true (.int .i64 aH)), (11, .d true (.int .i64 aI))] []
noncomputable def Yc.r0 (k : Nat) (a0 aD aF : List (List D)) (aH : Int) (n : Nat) (v : Int × Int) : Option ((List (List C))) := (Yc.p k).lp (Zt Try.f72) 3 [1, 1, 0, 1, 0] (Yc.d k a0) n (Yc.s0 aD aF aH v)
noncomputable def Yc.s1 (aO : List (List D)) (aM : Int) (v : Int × (List (List C))) : St :=
  match v with
  | (aQ, aP) => ZX 36 [(6, .row 0), (25, .d false (.sl aO)), (26, .d true (.int .i64 aM)), (27, .d true (.int .i64 aQ))] [.row none true 24 aP]
noncomputable def Yc.r1 (k : Nat) (a0 aO : List (List D)) (aM : Int) (n : Nat) (v : Int × (List (List C))) : Option ((List (List C))) := (Yc.p k).lp (Zt Try.f72) 11 [1, 1, 1, 1, 0, 1, 0] (Yc.d k a0) n (Yc.s1 aO aM v)
theorem Yc.l1_eq (k : Nat) (a0 aO : List (List D)) (aM : Int) : ∀ n v, Yc.r1 k a0 aO aM n v = Zo (Yc.l1 k aO aM (fun z0 => some z0)) n v :=
  Zm (Yc.s1 aO aM) _ fun L1 v => by obtain ⟨aQ, aP⟩ := v; kernel_rfl
theorem Yc.l0_eq (k : Nat) (a0 aD aF : List (List D)) (aH : Int) : ∀ n v, Yc.r0 k a0 aD aF aH n v = Zo (Yc.l0 k aD aF aH (fun z0 => some z0)) n v :=
  Zm (Yc.s0 aD aF aH) _ fun L0 v => by obtain ⟨aE, aI⟩ := v; exact Eq.trans (b := Yc.m0 k aD aF aH (fun z0 => some z0) (fun v => L0 (Yc.s0 aD aF aH v)) (aE, aI) (fun aO aM => Yc.r1 k a0 aO aM k)) (by kernel_rfl) (congrArg (Yc.m0 k aD aF aH (fun z0 => some z0) (fun v => L0 (Yc.s0 aD aF aH v)) (aE, aI)) (funext fun aO => funext fun aM => funext fun v => Yc.l1_eq k a0 aO aM k v))
theorem Yc.ok (k : Nat) : Za Try.prog 72 (Yc.e k) := Zh (Yc.p k) mix tyok Try.func72 (Yn.ok k) (by kernel_rfl) (fun a0 => Eq.trans (b := Yc.m k a0 (fun z0 => some z0) (fun aD aF aH => Yc.r0 k a0 aD aF aH k)) (by kernel_rfl) (congrArg (Yc.m k a0 (fun z0 => some z0)) (funext fun aD => funext fun aF => funext fun aH => funext fun v => Yc.l0_eq k a0 aD aF aH k v) :))
noncomputable def Yu.l0 {β : Type} (k : Nat) (aD : ByteArray) (aE : Int) (K : Bool → Option β) (L0 : Int → Option β) (v : Int) : Option β :=
  match v with
  | aF => bif (decide ((aF : Int) < aE)) then (Za0 aD aF fun b5 => let J1 := (bif ((b5 : Int) != 45) then (K false) else (L0 (IntKind.wrap .i64 (aF + 1)))); let J0 := (bif (decide ((b5 : Int) < 48)) then J1 else (bif (decide ((b5 : Int) > 57)) then J1 else (L0 (IntKind.wrap .i64 (aF + 1))))); bif (decide ((b5 : Int) < 97)) then J0 else (bif (decide ((b5 : Int) > 122)) then J0 else (L0 (IntKind.wrap .i64 (aF + 1))))) else (YH.f k (aD.size : Int) 1 20 (fun y6 => bif y6 then (Za0 aD 0 fun b7 => bif ((b7 : Int) != 45) then (Za0 aD (IntKind.wrap .i64 ((aD.size : Int) - 1)) fun b8 => K ((b8 : Int) != 45)) else (K false)) else (K false)))
noncomputable def Yu.m {β : Type} (k : Nat) (a0 : ByteArray) (K : Bool → Option β) (F : (ByteArray → Int → Int → Option β)) : Option β :=
  F a0 (a0.size : Int) (0)
noncomputable def Yu.g {β : Type} (k : Nat) (a0 : ByteArray) (K : Bool → Option β) : Option β :=
  Zo (Yu.l0 k a0 (a0.size : Int) K) k (0)
noncomputable def Yu.t (k : Nat) (a0 : ByteArray) : Option (Bool) := Yu.g k a0 (fun z0 => some z0)
noncomputable def Yu.f {β : Type} (k : Nat) (a0 : ByteArray) (K : Bool → Option β) : Option β := bd1 (Yu.t k a0) K
noncomputable def Yu.e (k : Nat) : Zk := ent [.d .s] [1] [.b] [4] false (Yu.t k)
noncomputable def Yu.p (k : Nat) : Pro := ⟨Try.prog, [(71, YH.e k)], Zn [(2, kp [0, 6, 7])] false [], k⟩
noncomputable def Yu.d (k : Nat) (a0 : ByteArray) : Ex → St → Option (Bool) := (Yu.p k).fin Try.f73 [.d (.str a0)] [1] [.b]
noncomputable def Yu.s0 (aD : ByteArray) (aE v : Int) : St :=
  match v with
  | aF => ZX 48 [(0, .d false (.str aD)), (6, .d true (.int .i64 aE)), (7, .d true (.int .i64 aF))] []
noncomputable def Yu.r0 (k : Nat) (a0 aD : ByteArray) (aE : Int) (n : Nat) (v : Int) : Option (Bool) := (Yu.p k).lp (Zt Try.f73) 2 [1, 0, 1, 0] (Yu.d k a0) n (Yu.s0 aD aE v)
theorem Yu.l0_eq (k : Nat) (a0 aD : ByteArray) (aE : Int) : ∀ n v, Yu.r0 k a0 aD aE n v = Zo (Yu.l0 k aD aE (fun z0 => some z0)) n v :=
  Zm (Yu.s0 aD aE) _ fun L0 v => by kernel_rfl
theorem Yu.ok (k : Nat) : Za Try.prog 73 (Yu.e k) := Zh (Yu.p k) mix tyok Try.func73 (YH.ok k) (by kernel_rfl) (fun a0 => Eq.trans (b := Yu.m k a0 (fun z0 => some z0) (fun aD aE => Yu.r0 k a0 aD aE k)) (by kernel_rfl) (congrArg (Yu.m k a0 (fun z0 => some z0)) (funext fun aD => funext fun aE => funext fun v => Yu.l0_eq k a0 aD aE k v) :))
noncomputable def YI.g {β : Type} (k : Nat) (aB : ByteArray) (aA aC : Int) (f0_0 : ByteArray) (K : Bool → Option β) : Option β :=
  K (Zae aB f0_0)
noncomputable def YI.t (k : Nat) (aB : ByteArray) (aA aC : Int) (f0_0 : ByteArray) : Option (Bool) := YI.g k aB aA aC f0_0 (fun z0 => some z0)
noncomputable def YI.f {β : Type} (k : Nat) (aB : ByteArray) (aA aC : Int) (f0_0 : ByteArray) (K : Bool → Option β) : Option β := bd1 (YI.t k aB aA aC f0_0) K
noncomputable def YI.e (k : Nat) : Zk := ent [.agg [.s, .n, .n], .ip [.s]] [1] [.b] [4] false (YI.t k)
noncomputable def YI.p (k : Nat) : Pro := ⟨Try.prog, [], Zn [] false [], k⟩
theorem YI.ok (k : Nat) : Za Try.prog 149 (YI.e k) := Zh (YI.p k) mix tyok Try.func149 trivial (by kernel_rfl) (fun aB aA aC f0_0 => by show _ = _; kernel_rfl)
noncomputable def Ya.l0 {β : Type} (k : Nat) (aD : List (List D)) (aE : ByteArray) (aF : Int) (K L0 : Int → Option β) (v : Int) : Option β :=
  match v with
  | aH => bif (decide ((aH : Int) < aF)) then (atR aD aH [.s, .n, .n] fun x15 x18 x21 => (YI.f k x15 x18 x21 aE (fun y22 => bif y22 then (K aH) else (L0 (IntKind.wrap .i64 (aH + 1)))))) else (K (-1))
noncomputable def Ya.m {β : Type} (k : Nat) (a0 : List (List D)) (a1_0_0 : ByteArray) (K : Int → Option β) (F : ((List (List D)) → ByteArray → Int → Int → Option β)) : Option β :=
  F a0 a1_0_0 (a0.length : Int) (0)
noncomputable def Ya.g {β : Type} (k : Nat) (a0 : List (List D)) (a1_0_0 : ByteArray) (K : Int → Option β) : Option β :=
  Zo (Ya.l0 k a0 a1_0_0 (a0.length : Int) K) k (0)
noncomputable def Ya.t (k : Nat) (a0 : List (List D)) (a1_0_0 : ByteArray) : Option (Int) := Ya.g k a0 a1_0_0 (fun z0 => some z0)
noncomputable def Ya.f {β : Type} (k : Nat) (a0 : List (List D)) (a1_0_0 : ByteArray) (K : Int → Option β) : Option β := bd1 (Ya.t k a0 a1_0_0) K
noncomputable def Ya.e (k : Nat) : Zk := ent [.d .l, .fn 149 [[.s]]] [1] [.n] [3] false (Ya.t k)
noncomputable def Ya.p (k : Nat) : Pro := ⟨Try.prog, [(149, YI.e k)], Zn [(2, kp [0, 1, 7, 8])] false [], k⟩
noncomputable def Ya.d (k : Nat) (a0 : List (List D)) (a1_0_0 : ByteArray) : Ex → St → Option (Int) := (Ya.p k).fin Try.f62 [.d (.sl a0), .d (.fn 149 [[.str a1_0_0]])] [1] [.n]
noncomputable def Ya.s0 (aD : List (List D)) (aE : ByteArray) (aF v : Int) : St :=
  match v with
  | aH => ZX 19 [(0, .d false (.sl aD)), (1, .d false (.fn 149 [[.str aE]])), (7, .d true (.int .i64 aF)), (8, .d true (.int .i64 aH))] []
noncomputable def Ya.r0 (k : Nat) (a0 : List (List D)) (a1_0_0 : ByteArray) (aD : List (List D)) (aE : ByteArray) (aF : Int) (n : Nat) (v : Int) : Option (Int) := (Ya.p k).lp (Zt Try.f62) 2 [1, 0, 1, 0] (Ya.d k a0 a1_0_0) n (Ya.s0 aD aE aF v)
theorem Ya.l0_eq (k : Nat) (a0 : List (List D)) (a1_0_0 : ByteArray) (aD : List (List D)) (aE : ByteArray) (aF : Int) : ∀ n v, Ya.r0 k a0 a1_0_0 aD aE aF n v = Zo (Ya.l0 k aD aE aF (fun z0 => some z0)) n v :=
  Zm (Ya.s0 aD aE aF) _ fun L0 v => by kernel_rfl
theorem Ya.ok (k : Nat) : Za Try.prog 62 (Ya.e k) := Zh (Ya.p k) mix tyok Try.func62 (YI.ok k) (by kernel_rfl) (fun a0 a1_0_0 => Eq.trans (b := Ya.m k a0 a1_0_0 (fun z0 => some z0) (fun aD aE aF => Ya.r0 k a0 a1_0_0 aD aE aF k)) (by kernel_rfl) (congrArg (Ya.m k a0 a1_0_0 (fun z0 => some z0)) (funext fun aD => funext fun aE => funext fun aF => funext fun v => Ya.l0_eq k a0 a1_0_0 aD aE aF k v) :))
noncomputable def YF.g {β : Type} (k : Nat) (a0 : List (List D)) (a1 : ByteArray) (K : Int → Option β) : Option β :=
  Ya.f k a0 a1 (fun y23 => K y23)
noncomputable def YF.t (k : Nat) (a0 : List (List D)) (a1 : ByteArray) : Option (Int) := YF.g k a0 a1 (fun z0 => some z0)
noncomputable def YF.f {β : Type} (k : Nat) (a0 : List (List D)) (a1 : ByteArray) (K : Int → Option β) : Option β := bd1 (YF.t k a0 a1) K
noncomputable def YF.e (k : Nat) : Zk := ent [.d .l, .d .s] [1] [.n] [3] false (YF.t k)
noncomputable def YF.p (k : Nat) : Pro := ⟨Try.prog, [(62, Ya.e k)], Zn [] false [], k⟩
theorem YF.ok (k : Nat) : Za Try.prog 67 (YF.e k) := Zh (YF.p k) mix tyok Try.func67 (Ya.ok k) (by kernel_rfl) (fun a0 a1 => by show _ = _; kernel_rfl)
noncomputable def Yk.l0 {β : Type} (k : Nat) (aD : List (List D)) (aE : ByteArray) (aF : Int) (K L0 : Int → Option β) (v : Int) : Option β :=
  match v with
  | aH => bif (decide ((aH : Int) < aF)) then (atR aD aH [.s] fun x8 => (bif (Zae aE x8) then (K aH) else (L0 (IntKind.wrap .i64 (aH + 1))))) else (K (-1))
noncomputable def Yk.m {β : Type} (k : Nat) (a0 : List (List D)) (a1 : ByteArray) (K : Int → Option β) (F : ((List (List D)) → ByteArray → Int → Int → Option β)) : Option β :=
  F a0 a1 (a0.length : Int) (0)
noncomputable def Yk.g {β : Type} (k : Nat) (a0 : List (List D)) (a1 : ByteArray) (K : Int → Option β) : Option β :=
  Zo (Yk.l0 k a0 a1 (a0.length : Int) K) k (0)
noncomputable def Yk.t (k : Nat) (a0 : List (List D)) (a1 : ByteArray) : Option (Int) := Yk.g k a0 a1 (fun z0 => some z0)
noncomputable def Yk.f {β : Type} (k : Nat) (a0 : List (List D)) (a1 : ByteArray) (K : Int → Option β) : Option β := bd1 (Yk.t k a0 a1) K
noncomputable def Yk.e (k : Nat) : Zk := ent [.d .l, .d .s] [1] [.n] [3] false (Yk.t k)
noncomputable def Yk.p (k : Nat) : Pro := ⟨Try.prog, [], Zn [(2, kp [0, 1, 7, 8])] false [], k⟩
noncomputable def Yk.d (k : Nat) (a0 : List (List D)) (a1 : ByteArray) : Ex → St → Option (Int) := (Yk.p k).fin Try.f150 [.d (.sl a0), .d (.str a1)] [1] [.n]
noncomputable def Yk.s0 (aD : List (List D)) (aE : ByteArray) (aF v : Int) : St :=
  match v with
  | aH => ZX 19 [(0, .d false (.sl aD)), (1, .d false (.str aE)), (7, .d true (.int .i64 aF)), (8, .d true (.int .i64 aH))] []
noncomputable def Yk.r0 (k : Nat) (a0 : List (List D)) (a1 : ByteArray) (aD : List (List D)) (aE : ByteArray) (aF : Int) (n : Nat) (v : Int) : Option (Int) := (Yk.p k).lp (Zt Try.f150) 2 [1, 0, 1, 0] (Yk.d k a0 a1) n (Yk.s0 aD aE aF v)
theorem Yk.l0_eq (k : Nat) (a0 : List (List D)) (a1 : ByteArray) (aD : List (List D)) (aE : ByteArray) (aF : Int) : ∀ n v, Yk.r0 k a0 a1 aD aE aF n v = Zo (Yk.l0 k aD aE aF (fun z0 => some z0)) n v :=
  Zm (Yk.s0 aD aE aF) _ fun L0 v => by kernel_rfl
theorem Yk.ok (k : Nat) : Za Try.prog 150 (Yk.e k) := Zh (Yk.p k) mix tyok Try.func150 trivial (by kernel_rfl) (fun a0 a1 => Eq.trans (b := Yk.m k a0 a1 (fun z0 => some z0) (fun aD aE aF => Yk.r0 k a0 a1 aD aE aF k)) (by kernel_rfl) (congrArg (Yk.m k a0 a1 (fun z0 => some z0)) (funext fun aD => funext fun aE => funext fun aF => funext fun v => Yk.l0_eq k a0 a1 aD aE aF k v) :))
noncomputable def Ym.g {β : Type} (k : Nat) (a0 : List (List D)) (a1 : ByteArray) (K : Bool → Option β) : Option β :=
  Yk.f k a0 a1 (fun y9 => K (decide ((y9 : Int) ≥ 0)))
noncomputable def Ym.t (k : Nat) (a0 : List (List D)) (a1 : ByteArray) : Option (Bool) := Ym.g k a0 a1 (fun z0 => some z0)
noncomputable def Ym.f {β : Type} (k : Nat) (a0 : List (List D)) (a1 : ByteArray) (K : Bool → Option β) : Option β := bd1 (Ym.t k a0 a1) K
noncomputable def Ym.e (k : Nat) : Zk := ent [.d .l, .d .s] [1] [.b] [4] false (Ym.t k)
noncomputable def Ym.p (k : Nat) : Pro := ⟨Try.prog, [(150, Yk.e k)], Zn [] false [], k⟩
theorem Ym.ok (k : Nat) : Za Try.prog 68 (Ym.e k) := Zh (Ym.p k) mix tyok Try.func68 (Yk.ok k) (by kernel_rfl) (fun a0 a1 => by show _ = _; kernel_rfl)
noncomputable def Yh.l1 {β : Type} (k : Nat) (aO : List (List D)) (aM : Int) (aP aR aS : List (List D)) (aT : Int) (K : Bool → Option β) (L1 : Int → Option β) (v : Int) : Option β :=
  match v with
  | aQ => bif (decide ((aQ : Int) < aM)) then (atR aO aQ [.s] fun x85 => (YF.f k aR x85 (fun y86 => bif (decide ((y86 : Int) < 0)) then (K false) else (Zc (0 ≤ (0 : Int) ∧ (0 : Int) ≤ (aQ : Int) ∧ (aQ : Int) ≤ (aS.length : Int) ∧ rowsOk 1 aS) (Ym.f k ((aS.drop (Int.toNat (0 : Int))).take (Int.toNat (aQ : Int) - Int.toNat (0 : Int))) x85 (fun y87 => bif y87 then (K false) else (L1 (IntKind.wrap .i64 (aQ + 1))))))))) else (K true)
noncomputable def Yh.m0 {β : Type} (k : Nat) (aD : Int) (aF aH aI : List (List D)) (aJ : Int) (aK : List (List C)) (K : Bool → Option β) (L0 : Int → Option β) (v : Int) (F : ((List (List D)) → Int → (List (List D)) → (List (List D)) → (List (List D)) → Int → Int → Option β)) : Option β :=
  match v with
  | aE => bif (decide ((aE : Int) < aD)) then (Zc ((0 : Int) ≤ aE ∧ aE < (aK.length : Int)) (ZaG aK (Int.toNat aE) fun c58 => Zas (c58.drop 0) fun c59 r60 => cD c59 fun d61 => dStr d61 fun x62 => Zas r60 fun c63 r64 => cD c63 fun d65 => dInt .i64 d65 fun x66 => Zas r64 fun c67 r68 => cD c67 fun d69 => dInt .i64 d69 fun x70 => Yc.f k ([[.sl aF], [.sl aH]] : List (List D)) (fun y71 => Yu.f k x62 (fun y72 => bif (!y72) then (K false) else (YF.f k (C.immRows y71) x62 (fun y73 => bif ((y73 : Int) != aE) then (K false) else (YH.f k x66 0 1000064 (fun y74 => bif (!y74) then (K false) else (YH.f k x70 0 1000 (fun y75 => bif (!y75) then (K false) else (bif (decide ((aE : Int) ≥ (aF.length : Int))) then (bif ((x66 : Int) != 0) then (K false) else (L0 (IntKind.wrap .i64 (aE + 1)))) else (L0 (IntKind.wrap .i64 (aE + 1)))))))))))))) else (F aI (aI.length : Int) aF aH aI aJ (0))
noncomputable def Yh.l0 {β : Type} (k : Nat) (aD : Int) (aF aH aI : List (List D)) (aJ : Int) (aK : List (List C)) (K : Bool → Option β) (L0 : Int → Option β) (v : Int) : Option β := Yh.m0 k aD aF aH aI aJ aK K L0 v (fun aO aM aP aR aS aT => Zo (Yh.l1 k aO aM aP aR aS aT K) k)
noncomputable def Yh.m {β : Type} (k : Nat) (aB aA aC : List (List D)) (aG : Int) (K : Bool → Option β) (F : (Int → (List (List D)) → (List (List D)) → (List (List D)) → Int → (List (List C)) → Int → Option β)) : Option β :=
  bif (decide (((aB.length : Int) : Int) > 60)) then (K false) else (bif (decide (((aA.length : Int) : Int) > 60)) then (K false) else (YH.f k aG 0 1000000 (fun y1 => bif (!y1) then (K false) else (Yc.f k ([[.sl aB], [.sl aA]] : List (List D)) (fun y27 => F (y27.length : Int) aB aA aC aG y27 (0))))))
noncomputable def Yh.g {β : Type} (k : Nat) (aB aA aC : List (List D)) (aG : Int) (K : Bool → Option β) : Option β := Yh.m k aB aA aC aG K (fun aD aF aH aI aJ aK => Zo (Yh.l0 k aD aF aH aI aJ aK K) k)
noncomputable def Yh.t (k : Nat) (aB aA aC : List (List D)) (aG : Int) : Option (Bool) := Yh.g k aB aA aC aG (fun z0 => some z0)
noncomputable def Yh.f {β : Type} (k : Nat) (aB aA aC : List (List D)) (aG : Int) (K : Bool → Option β) : Option β := bd1 (Yh.t k aB aA aC aG) K
noncomputable def Yh.e (k : Nat) : Zk := ent [.agg [.l, .l, .l, .n]] [1] [.b] [4] false (Yh.t k)
noncomputable def Yh.p (k : Nat) : Pro := ⟨Try.prog, [(71, YH.e k), (72, Yc.e k), (73, Yu.e k), (67, YF.e k), (68, Ym.e k)], Zn [(4, kp [1, 29, 30, 31]), (11, kp [1, 80, 81, 82])] false [], k⟩
noncomputable def Yh.d (k : Nat) (aB aA aC : List (List D)) (aG : Int) : Ex → St → Option (Bool) := (Yh.p k).fin Try.f19 [.agg [.sl aB, .sl aA, .sl aC, .int .i64 aG]] [1] [.b]
noncomputable def Yh.s0 (aD : Int) (aF aH aI : List (List D)) (aJ : Int) (aK : List (List C)) (v : Int) : St :=
  match v with
  | aE => ZX 101 [(1, .bp 0 0), (29, .row 1), (30, .d true (.int .i64 aD)), (31, .d true (.int .i64 aE))] [.box none 27 [.d false (.sl aF), .d false (.sl aH), .d false (.sl aI), .d false (.int .i64 aJ)], .row none true 24 aK]
noncomputable def Yh.r0 (k : Nat) (aB aA aC : List (List D)) (aG aD : Int) (aF aH aI : List (List D)) (aJ : Int) (aK : List (List C)) (n : Nat) (v : Int) : Option (Bool) := (Yh.p k).lp (Zt Try.f19) 4 [1, 1, 0, 1, 0] (Yh.d k aB aA aC aG) n (Yh.s0 aD aF aH aI aJ aK v)
noncomputable def Yh.s1 (aO : List (List D)) (aM : Int) (aP aR aS : List (List D)) (aT v : Int) : St :=
  match v with
  | aQ => ZX 101 [(1, .bp 0 0), (80, .d false (.sl aO)), (81, .d true (.int .i64 aM)), (82, .d true (.int .i64 aQ))] [.box none 27 [.d false (.sl aP), .d false (.sl aR), .d false (.sl aS), .d false (.int .i64 aT)]]
noncomputable def Yh.r1 (k : Nat) (aB aA aC : List (List D)) (aG : Int) (aO : List (List D)) (aM : Int) (aP aR aS : List (List D)) (aT : Int) (n : Nat) (v : Int) : Option (Bool) := (Yh.p k).lp (Zt Try.f19) 11 [1, 1, 1, 0, 1, 0] (Yh.d k aB aA aC aG) n (Yh.s1 aO aM aP aR aS aT v)
theorem Yh.l1_eq (k : Nat) (aB aA aC : List (List D)) (aG : Int) (aO : List (List D)) (aM : Int) (aP aR aS : List (List D)) (aT : Int) : ∀ n v, Yh.r1 k aB aA aC aG aO aM aP aR aS aT n v = Zo (Yh.l1 k aO aM aP aR aS aT (fun z0 => some z0)) n v :=
  Zm (Yh.s1 aO aM aP aR aS aT) _ fun L1 v => by kernel_rfl
theorem Yh.l0_eq (k : Nat) (aB aA aC : List (List D)) (aG aD : Int) (aF aH aI : List (List D)) (aJ : Int) (aK : List (List C)) : ∀ n v, Yh.r0 k aB aA aC aG aD aF aH aI aJ aK n v = Zo (Yh.l0 k aD aF aH aI aJ aK (fun z0 => some z0)) n v :=
  Zm (Yh.s0 aD aF aH aI aJ aK) _ fun L0 v => by exact Eq.trans (b := Yh.m0 k aD aF aH aI aJ aK (fun z0 => some z0) (fun v => L0 (Yh.s0 aD aF aH aI aJ aK v)) v (fun aO aM aP aR aS aT => Yh.r1 k aB aA aC aG aO aM aP aR aS aT k)) (by kernel_rfl) (congrArg (Yh.m0 k aD aF aH aI aJ aK (fun z0 => some z0) (fun v => L0 (Yh.s0 aD aF aH aI aJ aK v)) v) (funext fun aO => funext fun aM => funext fun aP => funext fun aR => funext fun aS => funext fun aT => funext fun v => Yh.l1_eq k aB aA aC aG aO aM aP aR aS aT k v))
theorem Yh.ok (k : Nat) : Za Try.prog 19 (Yh.e k) := Zh (Yh.p k) mix tyok Try.func19 ⟨YH.ok k, Yc.ok k, Yu.ok k, YF.ok k, Ym.ok k⟩ (by kernel_rfl) (fun aB aA aC aG => Eq.trans (b := Yh.m k aB aA aC aG (fun z0 => some z0) (fun aD aF aH aI aJ aK => Yh.r0 k aB aA aC aG aD aF aH aI aJ aK k)) (by kernel_rfl) (congrArg (Yh.m k aB aA aC aG (fun z0 => some z0)) (funext fun aD => funext fun aF => funext fun aH => funext fun aI => funext fun aJ => funext fun aK => funext fun v => Yh.l0_eq k aB aA aC aG aD aF aH aI aJ aK k v) :))
noncomputable def YQ.g {β : Type} (k : Nat) (aB aA aC : List (List D)) (aG : Int) (a1 : ByteArray) (K : (List (List C)) → (List (List C)) → (List (List C)) → Int → Bool → Option β) : Option β :=
  Yz.f k aB aA aC aG (fun y4 y5 y6 y7 => Yh.f k aB aA aC aG (fun y88 => bif (!y88) then (K y4 y5 y6 y7 false) else (Yu.f k a1 (fun y89 => bif (!y89) then (K y4 y5 y6 y7 false) else (YF.f k aA a1 (fun y90 => bif (decide ((y90 : Int) ≥ 0)) then (Ym.f k aC a1 (fun y91 => bif (!y91) then (Zc (y6.length + ([[.d (.str a1)]] : List (List C)).length ≤ ZN) (K y4 y5 (y6 ++ ([[.d (.str a1)]] : List (List C))) y7 true)) else (K y4 y5 y6 y7 true))) else (YF.f k aB a1 (fun y92 => bif (decide ((y92 : Int) ≥ 0)) then (Zc ((0 : Int) ≤ y92 ∧ y92 < (y4.length : Int)) (ZaG y4 (Int.toNat y92) fun c93 => Zas (c93.drop 1) fun c94 r95 => cD c94 fun d96 => dInt .i64 d96 fun x97 => Zc ((0 : Int) ≤ y92 ∧ y92 < (y4.length : Int)) (Zc (Int.toNat y92 < y4.length) (K (y4.modify (Int.toNat y92) fun c => Zq c 1 [.d (.int .i64 (if (aG : Int) < x97 then aG else x97))]) y5 y6 y7 true)))) else (bif (((aB.length : Int) : Int) == 60) then (K y4 y5 y6 y7 false) else (Zc (y4.length + ([[.d (.str a1), .d (.int .i64 aG), .d (.int .i64 0)]] : List (List C)).length ≤ ZN) (K (y4 ++ ([[.d (.str a1), .d (.int .i64 aG), .d (.int .i64 0)]] : List (List C))) y5 y6 y7 true)))))))))))
noncomputable def YQ.t (k : Nat) (aB aA aC : List (List D)) (aG : Int) (a1 : ByteArray) : Option ((List (List C)) × (List (List C)) × (List (List C)) × Int × Bool) := YQ.g k aB aA aC aG a1 (fun z0 z1 z2 z3 z4 => some (z0, z1, z2, z3, z4))
noncomputable def YQ.f {β : Type} (k : Nat) (aB aA aC : List (List D)) (aG : Int) (a1 : ByteArray) (K : (List (List C)) → (List (List C)) → (List (List C)) → Int → Bool → Option β) : Option β := bd5 (YQ.t k aB aA aC aG a1) K
noncomputable def YQ.e (k : Nat) : Zk := ent [.agg [.l, .l, .l, .n], .d .s] [4, 1] [.o, .o, .o, .n, .b] [27, 4] false (YQ.t k)
noncomputable def YQ.p (k : Nat) : Pro := ⟨Try.prog, [(61, Yz.e k), (19, Yh.e k), (73, Yu.e k), (67, YF.e k), (68, Ym.e k)], Zn [] false [], k⟩
theorem YQ.ok (k : Nat) : Za Try.prog 21 (YQ.e k) := Zh (YQ.p k) mix tyok Try.func21 ⟨Yz.ok k, Yh.ok k, Yu.ok k, YF.ok k, Ym.ok k⟩ (by kernel_rfl) (fun aB aA aC aG a1 => by show _ = _; kernel_rfl)
noncomputable def YN.g {β : Type} (k : Nat) (aB : ByteArray) (aA aC : Int) (f0_0 f0_1 f0_2 : List (List D)) (f0_3 : Int) (K : Bool → Option β) : Option β :=
  K (decide ((aA : Int) ≤ f0_3))
noncomputable def YN.t (k : Nat) (aB : ByteArray) (aA aC : Int) (f0_0 f0_1 f0_2 : List (List D)) (f0_3 : Int) : Option (Bool) := YN.g k aB aA aC f0_0 f0_1 f0_2 f0_3 (fun z0 => some z0)
noncomputable def YN.f {β : Type} (k : Nat) (aB : ByteArray) (aA aC : Int) (f0_0 f0_1 f0_2 : List (List D)) (f0_3 : Int) (K : Bool → Option β) : Option β := bd1 (YN.t k aB aA aC f0_0 f0_1 f0_2 f0_3) K
noncomputable def YN.e (k : Nat) : Zk := ent [.agg [.s, .n, .n], .ip [.l, .l, .l, .n]] [1] [.b] [4] false (YN.t k)
noncomputable def YN.p (k : Nat) : Pro := ⟨Try.prog, [], Zn [] false [], k⟩
theorem YN.ok (k : Nat) : Za Try.prog 63 (YN.e k) := Zh (YN.p k) mix tyok Try.func63 trivial (by kernel_rfl) (fun aB aA aC f0_0 f0_1 f0_2 f0_3 => by show _ = _; kernel_rfl)
noncomputable def Yb.l0 {β : Type} (k : Nat) (aD aE aF aH : List (List D)) (aI aJ : Int) (K L0 : Int → Option β) (v : Int) : Option β :=
  match v with
  | aK => bif (decide ((aK : Int) < aJ)) then (atR aD aK [.s, .n, .n] fun x15 x18 x21 => (YN.f k x15 x18 x21 aE aF aH aI (fun y22 => bif y22 then (K aK) else (L0 (IntKind.wrap .i64 (aK + 1)))))) else (K (-1))
noncomputable def Yb.m {β : Type} (k : Nat) (a0 a1_0_0 a1_0_1 a1_0_2 : List (List D)) (a1_0_3 : Int) (K : Int → Option β) (F : ((List (List D)) → (List (List D)) → (List (List D)) → (List (List D)) → Int → Int → Int → Option β)) : Option β :=
  F a0 a1_0_0 a1_0_1 a1_0_2 a1_0_3 (a0.length : Int) (0)
noncomputable def Yb.g {β : Type} (k : Nat) (a0 a1_0_0 a1_0_1 a1_0_2 : List (List D)) (a1_0_3 : Int) (K : Int → Option β) : Option β :=
  Zo (Yb.l0 k a0 a1_0_0 a1_0_1 a1_0_2 a1_0_3 (a0.length : Int) K) k (0)
noncomputable def Yb.t (k : Nat) (a0 a1_0_0 a1_0_1 a1_0_2 : List (List D)) (a1_0_3 : Int) : Option (Int) := Yb.g k a0 a1_0_0 a1_0_1 a1_0_2 a1_0_3 (fun z0 => some z0)
noncomputable def Yb.f {β : Type} (k : Nat) (a0 a1_0_0 a1_0_1 a1_0_2 : List (List D)) (a1_0_3 : Int) (K : Int → Option β) : Option β := bd1 (Yb.t k a0 a1_0_0 a1_0_1 a1_0_2 a1_0_3) K
noncomputable def Yb.e (k : Nat) : Zk := ent [.d .l, .fn 63 [[.l, .l, .l, .n]]] [1] [.n] [3] false (Yb.t k)
noncomputable def Yb.p (k : Nat) : Pro := ⟨Try.prog, [(63, YN.e k)], Zn [(2, kp [0, 1, 7, 8])] false [], k⟩
noncomputable def Yb.d (k : Nat) (a0 a1_0_0 a1_0_1 a1_0_2 : List (List D)) (a1_0_3 : Int) : Ex → St → Option (Int) := (Yb.p k).fin Try.f62 [.d (.sl a0), .d (.fn 63 [[.sl a1_0_0, .sl a1_0_1, .sl a1_0_2, .int .i64 a1_0_3]])] [1] [.n]
noncomputable def Yb.s0 (aD aE aF aH : List (List D)) (aI aJ v : Int) : St :=
  match v with
  | aK => ZX 19 [(0, .d false (.sl aD)), (1, .d false (.fn 63 [[.sl aE, .sl aF, .sl aH, .int .i64 aI]])), (7, .d true (.int .i64 aJ)), (8, .d true (.int .i64 aK))] []
noncomputable def Yb.r0 (k : Nat) (a0 a1_0_0 a1_0_1 a1_0_2 : List (List D)) (a1_0_3 : Int) (aD aE aF aH : List (List D)) (aI aJ : Int) (n : Nat) (v : Int) : Option (Int) := (Yb.p k).lp (Zt Try.f62) 2 [1, 0, 1, 0] (Yb.d k a0 a1_0_0 a1_0_1 a1_0_2 a1_0_3) n (Yb.s0 aD aE aF aH aI aJ v)
theorem Yb.l0_eq (k : Nat) (a0 a1_0_0 a1_0_1 a1_0_2 : List (List D)) (a1_0_3 : Int) (aD aE aF aH : List (List D)) (aI aJ : Int) : ∀ n v, Yb.r0 k a0 a1_0_0 a1_0_1 a1_0_2 a1_0_3 aD aE aF aH aI aJ n v = Zo (Yb.l0 k aD aE aF aH aI aJ (fun z0 => some z0)) n v :=
  Zm (Yb.s0 aD aE aF aH aI aJ) _ fun L0 v => by kernel_rfl
theorem Yb.ok (k : Nat) : Za Try.prog 62 (Yb.e k) := Zh (Yb.p k) mix tyok Try.func62 (YN.ok k) (by kernel_rfl) (fun a0 a1_0_0 a1_0_1 a1_0_2 a1_0_3 => Eq.trans (b := Yb.m k a0 a1_0_0 a1_0_1 a1_0_2 a1_0_3 (fun z0 => some z0) (fun aD aE aF aH aI aJ => Yb.r0 k a0 a1_0_0 a1_0_1 a1_0_2 a1_0_3 aD aE aF aH aI aJ k)) (by kernel_rfl) (congrArg (Yb.m k a0 a1_0_0 a1_0_1 a1_0_2 a1_0_3 (fun z0 => some z0)) (funext fun aD => funext fun aE => funext fun aF => funext fun aH => funext fun aI => funext fun aJ => funext fun v => Yb.l0_eq k a0 a1_0_0 a1_0_1 a1_0_2 a1_0_3 aD aE aF aH aI aJ k v) :))
noncomputable def Yi.t (k : Nat) (xs : List (List C)) (i j : Int) : Option (List (List C)) := Zc (0 ≤ i ∧ i ≤ j ∧ j ≤ (xs.length : Int)) (some (xs.take i.toNat ++ xs.drop j.toNat))
noncomputable def Yi.f {β : Type} (k : Nat) (xs : List (List C)) (i j : Int) (K : (List (List C)) → Option β) : Option β :=
  match Yi.t k xs i j with
  | some z0 => K z0
  | none => none
noncomputable def Yi.run (k : Nat) : {β : Type} → List A → ((List (List C)) → Option β) → Option β := fun {β} l K =>
  match l with
  | [.own false [.own xs], .d (.int .i64 i), .d (.int .i64 j)] => Yi.f k xs i j K
  | _ => none
noncomputable def Yi.e (k : Nat) : Zk := { modes := [(.own, 0)], rts := [24], al := false, run := fun _ _ => none, lib := some ⟨[true, false, false], 24, Yi.run k⟩ }
set_option maxHeartbeats 4000000 in
set_option maxRecDepth 1000000 in
theorem Yi.raw0 (a : Option Addr) (n cap i : Nat) (w : World) (hi : i ≤ n) (hn : n ≤ cap) : Calls Try.prog 64 #[.slice a n cap, .int .i64 i, .int .i64 i] w fun ex w' => ex = .returned (.slice a n cap) ∧ w' = w := by
  go_enter Try.func64, Try.ntmps64
  go_wp2
  all_goals (go_ret; exact ⟨rfl, rfl⟩)
set_option maxHeartbeats 4000000 in
set_option maxRecDepth 1000000 in
theorem Yi.raw2 (b cap n i j : Nat) (c : Array Value) (e : TypeId) (w : World) (hb : w.heap[b]? = some (.cells c e (0, 0))) (hc : c.size = cap * 3) (hn : n ≤ cap) (hij : i < j) (hj : j ≤ n) (h1 : ∀ t, t < n * 3 → ∃ v, c[t]? = some v ∧ v.oneCell' = true) (i0 : TypeInfo) (z : Value) (hi : Try.prog.info? 33 = some i0) (hz : i0.zero = some z) (hs : i0.size = 3) (hzs : z.cells.size = 3) (hz1 : ∀ v ∈ z.cells.toList, v.oneCell' = true) :
    Calls Try.prog 64 #[.slice (some ⟨b, 0, none⟩) n cap, .int .i64 i, .int .i64 j] w fun ex w' => ex = .returned (.slice (some ⟨b, 0, none⟩) (n - (j - i)) cap) ∧ Only b w w' ∧ ∃ c', w'.heap[b]? = some (.cells c' e (0, 0)) ∧ c'.size = c.size ∧ (∀ t, t < i * 3 → c'[t]? = c[t]?) ∧ ∀ t, t < (n - j) * 3 → c'[i * 3 + t]? = c[j * 3 + t]? := by
  have mixed : Try.prog.follows .mixedOrders = true := by kernel_rfl
  have hb0 : w.drew.heap[b]? = some (.cells c e (0, 0)) := hb
  obtain ⟨A, news, hA, hlen, hsrc, hone, hget⟩ := tail_src hb0 hc hn hj h1
  obtain ⟨hb1, ho1⟩ := Zac news (i * 3) hb0
  obtain ⟨W1, hW1⟩ : ∃ W1, W1 = w.drew.setCells b (0 + i * 3) news := ⟨_, rfl⟩
  rw [Nat.zero_add] at hW1
  rw [← hW1] at hb1 ho1
  have hle : i * 3 + news.length ≤ c.size := by rw [hlen, hc]; omega
  have hcl : ∀ ty, (Builtin.clear_ #[24] ty #[.slice (some ⟨b, (i + (n - j)) * 3, none⟩) (n - (i + (n - j))) (cap - (i + (n - j)))]).run Try.prog W1 = .ok (.tuple #[]) (W1.setCells b ((i + (n - j)) * 3) (Builtin.zeroCells z.cells (n - (i + (n - j)))).toList) :=
    fun ty => run_clear_cells Try.underlying24 hi hz hz1 (by omega) (fun t ht => by rw [Zam hb1]; rw [hzs] at ht; rw [Array.getElem?_eq_getElem (by rw [Zaz, hc]; omega)]; rfl) (fun t ht => Zaw hb1 _)
  have hW : Hold (W1 = w.drew.setCells b (i * 3) news) := ⟨hW1⟩
  obtain ⟨hb2, ho2⟩ := Zac (Builtin.zeroCells z.cells (n - (i + (n - j)))).toList ((i + (n - j)) * 3) hb1
  have hfin : Hold (Only b w (W1.setCells b ((i + (n - j)) * 3) (Builtin.zeroCells z.cells (n - (i + (n - j)))).toList) ∧ ∃ c', (W1.setCells b ((i + (n - j)) * 3) (Builtin.zeroCells z.cells (n - (i + (n - j)))).toList).heap[b]? = some (.cells c' e (0, 0)) ∧ c'.size = c.size ∧ (∀ t, t < i * 3 → c'[t]? = c[t]?) ∧ ∀ t, t < (n - j) * 3 → c'[i * 3 + t]? = c[j * 3 + t]?) := by
    have hzl : (Builtin.zeroCells z.cells (n - (i + (n - j)))).toList.length = (n - (i + (n - j))) * 3 := by simp [Zap, hzs]
    refine ⟨((Only.drew b w).trans ho1).trans ho2, _, hb2, by rw [Zaz, Zaz], fun t ht => ?_, fun t ht => ?_⟩
    · rw [Zaa _ _ _ _ (by rw [hzl, Zaz, hc]; omega), if_neg (by omega), Zaa _ _ _ _ hle, if_neg (by omega)]
    · rw [Zaa _ _ _ _ (by rw [hzl, Zaz, hc]; omega), if_neg (by omega), Zaa _ _ _ _ hle, if_pos (by omega), Nat.add_sub_cancel_left, hget t ht]
  have hsp : ∀ t, t < news.length → (w.drew.cell? ⟨b, 0 + i * 3 + t, none⟩).isSome = true ∧ w.drew.frozen? ⟨b, 0 + i * 3 + t, none⟩ = false := fun t ht => ⟨by rw [Zam hb0, Array.getElem?_eq_getElem (by omega)]; rfl, Zaw hb0 _⟩
  generalize (Builtin.zeroCells z.cells (n - (i + (n - j)))).toList = zl at hcl hfin
  clear hb hb0 ho1 hb1 hb2 ho2 hget hW1 h1 hle hc hz1 hzs hz
  have hic : i ≤ cap := by omega
  have hjc : j ≤ cap := by omega
  go_enter Try.func64, Try.ntmps64
  go_wp2_with fail
  go_region_law_o (refine step_append_room rfl (.tmp 22) (.tmp 25) 24 rfl 33 i0 3 Try.underlying24 hi hs b 0 i cap (by simp [Act.eval, Act.put]) A (n - j) (cap - j) news (by simp [Act.eval, Act.put]) hlen hsrc hone (by omega) hsp ?_; rw [Nat.zero_add, ← hW.out])
  go_wp2
  go_ret
  refine ⟨?_, hfin.out⟩
  rw [show i + (n - j) = n - (j - i) from by omega]
  rfl
theorem Yi.raw : DelRaw Try.prog 64 3 := ⟨fun a n cap i w h1 h2 => Yi.raw0 a n cap i w h1 h2, fun b cap n i j c e w hb hc hn hij hj h1 => by
  obtain ⟨i0, z, hi, hz, hzs⟩ := Zbj (P := Try.prog) (t := 33) (by kernel_rfl)
  have hsz : i0.size = 3 := by
    have : Try.prog.cellsOf 33 = 3 := by kernel_rfl
    simpa [Program.cellsOf, hi] using this
  have hzc : z.cells.size = 3 := by
    have h1 : (ZaA Try.prog 33).length = 3 := by kernel_rfl
    rw [← h1]
    simpa using (Zay hzs).2.2.1.symm
  exact Yi.raw2 b cap n i j c e w hb hc hn hij hj h1 i0 z hi hz hsz hzc (Zay hzs).2.1⟩
theorem Yi.ok (k : Nat) : Za Try.prog 64 (Yi.e k) := delete_ok tyok (ct := 24) (K := 3) (run := fun {β} => Yi.run k) (by kernel_rfl) (enter_of Try.func64 (by kernel_rfl)) Yi.raw (fun β aa K r h => by
  unfold Yi.run at h
  split at h
  · unfold Yi.f Yi.t at h
    split at h
    · rename_i hz
      obtain ⟨hg, hz⟩ := ZD hz
      injection hz with hz
      subst hz
      exact ⟨_, _, _, rfl, hg, h⟩
    · cases h
  · cases h)
noncomputable def YV.g {β : Type} (k : Nat) (aB aA aC : List (List D)) (aG : Int) (K : (List (List C)) → (List (List C)) → (List (List C)) → Int → ByteArray → Bool → Option β) : Option β :=
  Yz.f k aB aA aC aG (fun y1 y2 y3 y4 => Yb.f k aB aB aA aC aG (fun y23 => Yh.f k aB aA aC aG (fun y24 => bif (!y24) then (K y1 y2 y3 y4 (⟨#[]⟩ : ByteArray) false) else (bif (decide ((y23 : Int) < 0)) then (K y1 y2 y3 y4 (⟨#[]⟩ : ByteArray) false) else (bif (((aA.length : Int) : Int) == 60) then (K y1 y2 y3 y4 (⟨#[]⟩ : ByteArray) false) else (atR aB y23 [.s, .n, .n] fun x28 x31 x34 => (Yi.f k y1 y23 (IntKind.wrap .i64 (y23 + 1)) (fun y35 => Zc (y2.length + ([[.d (.str x28), .d (.int .i64 0), .d (.int .i64 x34)]] : List (List C)).length ≤ ZN) (K y35 (y2 ++ ([[.d (.str x28), .d (.int .i64 0), .d (.int .i64 x34)]] : List (List C))) y3 y4 x28 true)))))))))
noncomputable def YV.t (k : Nat) (aB aA aC : List (List D)) (aG : Int) : Option ((List (List C)) × (List (List C)) × (List (List C)) × Int × ByteArray × Bool) := YV.g k aB aA aC aG (fun z0 z1 z2 z3 z4 z5 => some (z0, z1, z2, z3, z4, z5))
noncomputable def YV.f {β : Type} (k : Nat) (aB aA aC : List (List D)) (aG : Int) (K : (List (List C)) → (List (List C)) → (List (List C)) → Int → ByteArray → Bool → Option β) : Option β := match YV.t k aB aA aC aG with | some (z0, z1, z2, z3, z4, z5) => K z0 z1 z2 z3 z4 z5 | none => none
noncomputable def YV.e (k : Nat) : Zk := ent [.agg [.l, .l, .l, .n]] [4, 1, 1] [.o, .o, .o, .n, .s, .b] [27, 9, 4] false (YV.t k)
noncomputable def YV.p (k : Nat) : Pro := ⟨Try.prog, [(61, Yz.e k), (62, Yb.e k), (19, Yh.e k), (64, Yi.e k)], Zn [] false [], k⟩
theorem YV.ok (k : Nat) : Za Try.prog 13 (YV.e k) := Zh (YV.p k) mix tyok Try.func13 ⟨Yz.ok k, Yb.ok k, Yh.ok k, Yi.ok k⟩ (by kernel_rfl) (fun aB aA aC aG => by show _ = _; kernel_rfl)
noncomputable def YJ.g {β : Type} (k : Nat) (a0 f0_0 : ByteArray) (K : Bool → Option β) : Option β :=
  K (Zae a0 f0_0)
noncomputable def YJ.t (k : Nat) (a0 f0_0 : ByteArray) : Option (Bool) := YJ.g k a0 f0_0 (fun z0 => some z0)
noncomputable def YJ.f {β : Type} (k : Nat) (a0 f0_0 : ByteArray) (K : Bool → Option β) : Option β := bd1 (YJ.t k a0 f0_0) K
noncomputable def YJ.e (k : Nat) : Zk := ent [.d .s, .ip [.s]] [1] [.b] [4] false (YJ.t k)
noncomputable def YJ.p (k : Nat) : Pro := ⟨Try.prog, [], Zn [] false [], k⟩
theorem YJ.ok (k : Nat) : Za Try.prog 70 (YJ.e k) := Zh (YJ.p k) mix tyok Try.func70 trivial (by kernel_rfl) (fun a0 f0_0 => by show _ = _; kernel_rfl)
noncomputable def Yd.l0 {β : Type} (k : Nat) (aD : List (List D)) (aE : ByteArray) (aF : Int) (K L0 : Int → Option β) (v : Int) : Option β :=
  match v with
  | aH => bif (decide ((aH : Int) < aF)) then (atR aD aH [.s] fun x9 => (YJ.f k x9 aE (fun y10 => bif y10 then (K aH) else (L0 (IntKind.wrap .i64 (aH + 1)))))) else (K (-1))
noncomputable def Yd.m {β : Type} (k : Nat) (a0 : List (List D)) (a1_0_0 : ByteArray) (K : Int → Option β) (F : ((List (List D)) → ByteArray → Int → Int → Option β)) : Option β :=
  F a0 a1_0_0 (a0.length : Int) (0)
noncomputable def Yd.g {β : Type} (k : Nat) (a0 : List (List D)) (a1_0_0 : ByteArray) (K : Int → Option β) : Option β :=
  Zo (Yd.l0 k a0 a1_0_0 (a0.length : Int) K) k (0)
noncomputable def Yd.t (k : Nat) (a0 : List (List D)) (a1_0_0 : ByteArray) : Option (Int) := Yd.g k a0 a1_0_0 (fun z0 => some z0)
noncomputable def Yd.e (k : Nat) : Zk := ent [.d .l, .fn 70 [[.s]]] [1] [.n] [3] false (Yd.t k)
noncomputable def Yd.p (k : Nat) : Pro := ⟨Try.prog, [(70, YJ.e k)], Zn [(2, kp [0, 1, 7, 8])] false [], k⟩
noncomputable def Yd.d (k : Nat) (a0 : List (List D)) (a1_0_0 : ByteArray) : Ex → St → Option (Int) := (Yd.p k).fin Try.f151 [.d (.sl a0), .d (.fn 70 [[.str a1_0_0]])] [1] [.n]
noncomputable def Yd.s0 (aD : List (List D)) (aE : ByteArray) (aF v : Int) : St :=
  match v with
  | aH => ZX 19 [(0, .d false (.sl aD)), (1, .d false (.fn 70 [[.str aE]])), (7, .d true (.int .i64 aF)), (8, .d true (.int .i64 aH))] []
noncomputable def Yd.r0 (k : Nat) (a0 : List (List D)) (a1_0_0 : ByteArray) (aD : List (List D)) (aE : ByteArray) (aF : Int) (n : Nat) (v : Int) : Option (Int) := (Yd.p k).lp (Zt Try.f151) 2 [1, 0, 1, 0] (Yd.d k a0 a1_0_0) n (Yd.s0 aD aE aF v)
theorem Yd.l0_eq (k : Nat) (a0 : List (List D)) (a1_0_0 : ByteArray) (aD : List (List D)) (aE : ByteArray) (aF : Int) : ∀ n v, Yd.r0 k a0 a1_0_0 aD aE aF n v = Zo (Yd.l0 k aD aE aF (fun z0 => some z0)) n v :=
  Zm (Yd.s0 aD aE aF) _ fun L0 v => by kernel_rfl
theorem Yd.ok (k : Nat) : Za Try.prog 151 (Yd.e k) := Zh (Yd.p k) mix tyok Try.func151 (YJ.ok k) (by kernel_rfl) (fun a0 a1_0_0 => Eq.trans (b := Yd.m k a0 a1_0_0 (fun z0 => some z0) (fun aD aE aF => Yd.r0 k a0 a1_0_0 aD aE aF k)) (by kernel_rfl) (congrArg (Yd.m k a0 a1_0_0 (fun z0 => some z0)) (funext fun aD => funext fun aE => funext fun aF => funext fun v => Yd.l0_eq k a0 a1_0_0 aD aE aF k v) :))
noncomputable def Yg.t (k : Nat) (xs : List (List C)) (c0_0 : ByteArray) : Option (List (List C)) := delT (fun ds => Yd.t k ds c0_0) (fun s => YJ.t k s c0_0) xs
noncomputable def Yg.f {β : Type} (k : Nat) (xs : List (List C)) (c0_0 : ByteArray) (K : (List (List C)) → Option β) : Option β :=
  match Yg.t k xs c0_0 with
  | some z0 => K z0
  | none => none
noncomputable def Yg.run (k : Nat) : {β : Type} → List A → ((List (List C)) → Option β) → Option β := fun {β} l K =>
  match l with
  | [.own false [.own xs], .d (.fn g [[.str c0_0]])] => bif g == 70 then Yg.f k xs c0_0 K else none
  | _ => none
noncomputable def Yg.e (k : Nat) : Zk := { modes := [(.own, 0)], rts := [25], al := false, run := fun _ _ => none, lib := some ⟨[true, false], 25, Yg.run k⟩ }
set_option maxHeartbeats 4000000 in
set_option maxRecDepth 1000000 in
theorem Yg.raw2 (b cap n : Nat) (c : Array Value) (e : TypeId) (w : World) (g : Nat) (lb : Array Value) (p : Nat → Bool) (k0 : Nat) (hb : w.heap[b]? = some (.cells c e (0, 0))) (hc : c.size = cap * 1) (hn : n ≤ cap) (hk0 : k0 < n) (hm : n ≤ 1099511627776)
   (h1 : ∀ t, t < n → ∃ s, c[t]? = some (.string s)) (i0 : TypeInfo) (z : Value) (hi : Try.prog.info? 9 = some i0) (hz : i0.zero = some z) (hs : i0.size = 1) (hzs : z.cells.size = 1) (hz1 : ∀ v ∈ z.cells.toList, v.oneCell' = true)
   (eg : ∀ args w, (callFunc g args).run Try.prog w = .ok (.enter g args) w)
   (hIF : Calls Try.prog 151 #[.slice (some ⟨b, 0, none⟩) n cap, .func (.func g) #[] lb] w fun e w' => e = .returned (.int .i64 k0) ∧ Gs w w')
   (hpred : ∀ j, k0 < j → j < n → ∀ W, Gr b w W → ∀ v : Value, c[j]? = some v → Calls Try.prog g (#[v] ++ lb) W fun e w' => e = .returned (.bool (p j)) ∧ Gs W w') :
    Calls Try.prog 69 #[.slice (some ⟨b, 0, none⟩) n cap, .func (.func g) #[] lb] w fun ex w' => ex = .returned (.slice (some ⟨b, 0, none⟩) (kpt p k0 n).length cap) ∧ Gr b w w' ∧ ∃ c' : Array Value, w'.heap[b]? = some (.cells c' e (0, 0)) ∧ c'.size = c.size ∧ ∀ m k : Nat, (kpt p k0 n)[m]? = some k → c'[m]? = c[k]? := by
  have mixed : Try.prog.follows .mixedOrders = true := by kernel_rfl
  have hHC : Hold (∀ j, k0 < j → j < n → ∀ W, Gr b w W → ∀ v : Value, c[j]? = some v → Calls Try.prog g (#[v] ++ lb) W fun e w' => e = .returned (.bool (p j)) ∧ Gs W w') := ⟨hpred⟩
  have hH1 : Hold (∀ t, t < n → ∃ s, c[t]? = some (.string s)) := ⟨h1⟩
  have hHZ : Hold (i0.zero = some z ∧ i0.size = 1 ∧ z.cells.size = 1 ∧ (∀ v ∈ z.cells.toList, v.oneCell' = true) ∧ Try.prog.info? 9 = some i0) := ⟨hz, hs, hzs, hz1, hi⟩
  have hHB : Hold (w.heap[b]? = some (.cells c e (0, 0)) ∧ c.size = cap * 1) := ⟨hb, hc⟩
  clear hpred h1 hz hs hzs hz1 hi hb hc
  have hne1 : ((k0 : Int) == -1) = false := beq_eq_false_iff_ne.2 (by omega)
  go_enter Try.func69, Try.ntmps69
  go_wp2_with (go_at_call 151; refine hIF.mono ?_; rintro e w' ⟨rfl, hg⟩)
  go_loopg [5, 6, 7] n (fun gg s5 s6 _ wr => ∃ (i j : Nat), s5 = .int .i64 i ∧ s6 = .int .i64 j ∧ j ≤ n ∧ n - j ≤ gg ∧ Hold (∃ ck : Array Value, DfI b k0 c e p w wr i j ck))
  case atStart =>
    refine ⟨k0, k0 + 1, rfl, by go_num, by omega, by omega, ⟨c, by omega, hg.gr b, ?_, rfl, ?_, fun _ _ => rfl, fun m k hk => ?_⟩⟩
    · rw [hg.same b (by have := (Array.getElem?_eq_some_iff.mp hHB.out.1).1; exact this)]; exact hHB.out.1
    · unfold kpt; simp
    · unfold kpt at hk
      simp only [Nat.sub_self, List.range'_zero, List.filter_nil, List.append_nil] at hk
      have := List.getElem?_eq_some_iff.mp hk
      obtain ⟨q, hq⟩ := this
      rw [List.getElem_range] at hq
      rw [hq]
  case round =>
    obtain ⟨i, j, rfl, rfl, hjd, hgg, ⟨ck, hI⟩⟩ := hrel
    have hij : i < j ∧ k0 ≤ i := by have := kpt_le (p := p) hI.lt; rw [hI.len] at this; omega
    obtain ⟨hij, hki⟩ := hij
    by_cases hlt : j < n
    · have hltz : (j : Int) < (n : Int) := by omega
      obtain ⟨s, hsj⟩ := hH1.out j hlt
      obtain ⟨old, hold⟩ : ∃ old, ck[i]? = some old := ⟨_, Array.getElem?_eq_getElem (by rw [hI.size, hHB.out.2]; omega)⟩
      have cj : wr.cell? ⟨b, j, none⟩ = some (.string s) := by rw [Zam hI.at_, hI.high j (Nat.le_refl _)]; exact hsj
      have hcall := hHC.out j hI.lt hlt wr hI.gr _ hsj
      have W2 : Hold (DfI b k0 c e p w wr i j ck) := ⟨hI⟩
      have hS : Hold (c[j]? = some (.string s)) := ⟨hsj⟩
      have hblt : b < wr.heap.size := (Array.getElem?_eq_some_iff.mp hI.at_).1
      clear hI hsj
      cases hq : p j with
      | false =>
        rw [hq] at hcall
        have hst : ∀ (w' : World), Gs wr w' → w'.cell? ⟨b, i, none⟩ = some old ∧ w'.frozen? ⟨b, i, none⟩ = false := fun w' hg2 => by
          have := (hg2.same b hblt).trans W2.out.at_
          exact ⟨by rw [Zam this]; exact hold, Zaw this _⟩
        go_wp2_with (go_at_fn g; refine hcall.mono ?_; rintro e w' ⟨rfl, hg2⟩; obtain ⟨ci, fi⟩ := hst w' hg2)
        go_roundg (n - (j + 1))
        case measure => omega
        case rel =>
          refine ⟨i + 1, j + 1, by go_num, by go_num, by omega, Nat.le_refl _, ⟨ck.setIfInBounds i (.string s), ?_⟩⟩
          have hI := W2.out
          obtain ⟨hb3, ho3⟩ := Zac [.string s] i ((hg2.same b hblt).trans hI.at_)
          have hsz : i < ck.size := (Array.getElem?_eq_some_iff.mp hold).1
          refine ⟨by have := hI.lt; omega, (hI.gr.trans (hg2.gr b)).trans ho3.gr, hb3, by simpa using hI.size, by rw [kpt_keep hI.lt hq, List.length_append, hI.len]; rfl, fun t ht => ?_, fun m k hk => ?_⟩
          · rw [Array.getElem?_setIfInBounds, if_neg (by omega)]
            exact hI.high t (by omega)
          · rw [kpt_keep hI.lt hq] at hk
            by_cases hm : m < i
            · rw [Array.getElem?_setIfInBounds, if_neg (by omega)]
              exact hI.low m k (by rwa [List.getElem?_append_left (by rw [hI.len]; exact hm)] at hk)
            · rw [List.getElem?_append_right (by rw [hI.len]; omega), hI.len] at hk
              have hm0 : m = i := by
                by_cases h : m - i = 0
                · omega
                · rw [List.getElem?_eq_none (by simp; omega)] at hk; cases hk
              subst hm0
              simp at hk
              subst hk
              rw [Array.getElem?_setIfInBounds, if_pos rfl, if_pos hsz]
              exact hS.out.symm
      | true =>
        rw [hq] at hcall
        go_wp2_with (go_at_fn g; refine hcall.mono ?_; rintro e w' ⟨rfl, hg2⟩)
        go_roundg (n - (j + 1))
        case measure => omega
        case rel =>
          refine ⟨i, j + 1, rfl, by go_num, by omega, Nat.le_refl _, ⟨ck, ?_⟩⟩
          have hI := W2.out
          refine ⟨by have := hI.lt; omega, hI.gr.trans (hg2.gr b), by rw [hg2.same b hblt]; exact hI.at_, hI.size, by rw [kpt_skip hI.lt hq]; exact hI.len, fun t ht => hI.high t (by omega), by rw [kpt_skip hI.lt hq]; exact hI.low⟩
    · obtain rfl : j = n := by omega
      have hltz : ¬ (j : Int) < (j : Int) := by omega
      have hcs := hHB.out.2
      obtain ⟨hz, hs, hzs, hz1, hi⟩ := hHZ.out
      have hcl : ∀ ty, (Builtin.clear_ #[25] ty #[.slice (some ⟨b, i, none⟩) (j - i) (cap - i)]).run Try.prog wr = .ok (.tuple #[]) (wr.setCells b i (Builtin.zeroCells z.cells (j - i)).toList) :=
        fun ty => run_clear_cells Try.underlying25 hi hz hz1 (by omega) (fun t ht => by rw [Zam hI.at_]; rw [hzs] at ht; rw [Array.getElem?_eq_getElem (by rw [hI.size, hcs]; omega)]; rfl) (fun t ht => Zaw hI.at_ _)
      obtain ⟨hb4, ho4⟩ := Zac (Builtin.zeroCells z.cells (j - i)).toList i hI.at_
      have hfin : Hold (Gr b w (wr.setCells b i (Builtin.zeroCells z.cells (j - i)).toList) ∧ ∃ c' : Array Value, (wr.setCells b i (Builtin.zeroCells z.cells (j - i)).toList).heap[b]? = some (.cells c' e (0, 0)) ∧ c'.size = c.size ∧ ∀ m k : Nat, (kpt p k0 j)[m]? = some k → c'[m]? = c[k]?) := by
        have hzl : (Builtin.zeroCells z.cells (j - i)).toList.length = j - i := by simp [Zap, hzs]
        refine ⟨hI.gr.trans ho4.gr, _, hb4, by rw [Zaz]; exact hI.size, fun m k hk => ?_⟩
        have hmi : m < i := by rw [← hI.len]; exact (List.getElem?_eq_some_iff.mp hk).1
        rw [Zaa _ _ _ _ (by rw [hzl, hI.size, hcs]; omega), if_neg (by omega)]
        exact hI.low m k hk
      have hlen := hI.len
      generalize (Builtin.zeroCells z.cells (j - i)).toList = zl at hcl hfin
      clear hI hz hs hzs hz1 hi hb4 ho4 hcs
      have hic : i ≤ cap := by omega
      go_wp2
      go_ret
      refine ⟨?_, hfin.out⟩
      first | rfl | (rw [hlen]; rfl)
set_option maxHeartbeats 4000000 in
set_option maxRecDepth 1000000 in
theorem Yg.raw0 (a : Option Addr) (n cap : Nat) (w : World) (g : Nat) (lb : Array Value) (hn : n ≤ cap) (hIF : Calls Try.prog 151 #[.slice a n cap, .func (.func g) #[] lb] w fun e w' => e = .returned (.int .i64 (-1)) ∧ Gs w w') : Calls Try.prog 69 #[.slice a n cap, .func (.func g) #[] lb] w fun ex w' => ex = .returned (.slice a n cap) ∧ Gs w w' := by
  go_enter Try.func69, Try.ntmps69
  go_wp2_with (go_at_call 151; refine hIF.mono ?_; rintro e w' ⟨rfl, hg⟩)
  go_ret
  exact ⟨rfl, hg⟩
theorem Yg.raw : DfRaw Try.prog 69 151 := ⟨fun a n cap w g lb hn h => Yg.raw0 a n cap w g lb hn h, fun b cap n c e w g lb p k0 h1 h2 h3 h4 h5 h6 h7 h8 h9 => by
  obtain ⟨i0, z, hi, hz, hzs⟩ := Zbj (P := Try.prog) (t := 9) (by kernel_rfl)
  have hsz : i0.size = 1 := by
    have : Try.prog.cellsOf 9 = 1 := by kernel_rfl
    simpa [Program.cellsOf, hi] using this
  have hzc : z.cells.size = 1 := by
    have h1 : (ZaA Try.prog 9).length = 1 := by kernel_rfl
    rw [← h1]
    simpa using (Zay hzs).2.2.1.symm
  exact Yg.raw2 b cap n c e w g lb p k0 h1 h2 h3 h4 h5 h6 i0 z hi hz hsz hzc (Zay hzs).2.1 h7 h8 h9⟩
theorem Yg.ok (k : Nat) : Za Try.prog 69 (Yg.e k) := delfunc_ok tyok (ct := 25) (sl := 9) (g := 70) (fi := 151) (run := fun {β} => Yg.run k) (by kernel_rfl) (by kernel_rfl) (enter_of Try.func69 (by kernel_rfl)) Yg.raw (by kernel_rfl) (by kernel_rfl) (Yd.ok k) (YJ.ok k) (fun β aa K r h => by
  unfold Yg.run at h
  split at h
  · rename_i xs g c0_0
    cases hg : g == 70 with
    | false => rw [hg] at h; cases h
    | true =>
      rw [hg] at h
      obtain rfl := eq_of_beq hg
      simp only [cond_true] at h
      unfold Yg.f Yg.t at h
      split at h
      · rename_i z0 hz
        exact ⟨_, _, _, _, _, rfl, hz, h, rfl, rfl, rfl, rfl, fun ds z h => (ent_run (Yd.e k) rfl (congrArg some h) rfl), fun s q h => (ent_run (YJ.e k) rfl (congrArg some h) rfl)⟩
      · cases h
  · cases h)
noncomputable def YP.g {β : Type} (k : Nat) (aB aA aC : List (List D)) (aG : Int) (a1 : ByteArray) (a2 : Bool) (K : (List (List C)) → (List (List C)) → (List (List C)) → Int → Bool → Option β) : Option β :=
  Yz.f k aB aA aC aG (fun y1 y2 y3 y4 => YF.f k aA a1 (fun y5 => Yh.f k aB aA aC aG (fun y6 => bif (!y6) then (K y1 y2 y3 y4 false) else (bif (decide ((y5 : Int) < 0)) then (K y1 y2 y3 y4 false) else (bif (!a2) then (atR aA y5 [.s, .n, .n] fun x10 x13 x16 => let J7 := (if (1000 : Int) < (IntKind.wrap .i64 (x16 + 1)) then 1000 else (IntKind.wrap .i64 (x16 + 1))); let J5 := (IntKind.wrap .i64 (J7 - 1)); let J4 := (if (6 : Int) < J5 then 6 else J5); let J3 := (IntKind.wrap .i64 (1 * 2 ^ (min (J4 : Int).toNat 64))); let J2 := (IntKind.wrap .i64 (aG + (if (64 : Int) < J3 then 64 else J3))); let J0 := (y1.length + ([[.d (.str a1), .d (.int .i64 J2), .d (.int .i64 J7)]] : List (List C)).length ≤ ZN); let J1 := (y1 ++ ([[.d (.str a1), .d (.int .i64 J2), .d (.int .i64 J7)]] : List (List C))); (Zc ((0 : Int) ≤ J4) (bif (!a2) then (Yi.f k y2 y5 (IntKind.wrap .i64 (y5 + 1)) (fun y17 => Yg.f k y3 a1 (fun y18 => bif (decide (((y1.length : Int) : Int) < 60)) then (Zc J0 (K J1 y17 y18 y4 true)) else (K y1 y17 y18 y4 true)))) else (Ym.f k aC a1 (fun y19 => Yi.f k y2 y5 (IntKind.wrap .i64 (y5 + 1)) (fun y20 => Yg.f k y3 a1 (fun y21 => bif y19 then (bif (decide (((y1.length : Int) : Int) < 60)) then (Zc J0 (K J1 y20 y21 y4 true)) else (K y1 y20 y21 y4 true)) else (K y1 y20 y21 y4 true)))))))) else (let J6 := (y1.length + ([[.d (.str a1), .d (.int .i64 aG), .d (.int .i64 0)]] : List (List C)).length ≤ ZN); let J8 := (y1 ++ ([[.d (.str a1), .d (.int .i64 aG), .d (.int .i64 0)]] : List (List C))); bif (!a2) then (Yi.f k y2 y5 (IntKind.wrap .i64 (y5 + 1)) (fun y22 => Yg.f k y3 a1 (fun y23 => bif (decide (((y1.length : Int) : Int) < 60)) then (Zc J6 (K J8 y22 y23 y4 true)) else (K y1 y22 y23 y4 true)))) else (Ym.f k aC a1 (fun y24 => Yi.f k y2 y5 (IntKind.wrap .i64 (y5 + 1)) (fun y25 => Yg.f k y3 a1 (fun y26 => bif y24 then (bif (decide (((y1.length : Int) : Int) < 60)) then (Zc J6 (K J8 y25 y26 y4 true)) else (K y1 y25 y26 y4 true)) else (K y1 y25 y26 y4 true)))))))))))
noncomputable def YP.t (k : Nat) (aB aA aC : List (List D)) (aG : Int) (a1 : ByteArray) (a2 : Bool) : Option ((List (List C)) × (List (List C)) × (List (List C)) × Int × Bool) := YP.g k aB aA aC aG a1 a2 (fun z0 z1 z2 z3 z4 => some (z0, z1, z2, z3, z4))
noncomputable def YP.f {β : Type} (k : Nat) (aB aA aC : List (List D)) (aG : Int) (a1 : ByteArray) (a2 : Bool) (K : (List (List C)) → (List (List C)) → (List (List C)) → Int → Bool → Option β) : Option β := bd5 (YP.t k aB aA aC aG a1 a2) K
noncomputable def YP.e (k : Nat) : Zk := ent [.agg [.l, .l, .l, .n], .d .s, .d .b] [4, 1] [.o, .o, .o, .n, .b] [27, 4] false (YP.t k)
noncomputable def YP.p (k : Nat) : Pro := ⟨Try.prog, [(61, Yz.e k), (67, YF.e k), (19, Yh.e k), (64, Yi.e k), (69, Yg.e k), (68, Ym.e k)], Zn [] false [], k⟩
theorem YP.ok (k : Nat) : Za Try.prog 17 (YP.e k) := Zh (YP.p k) mix tyok Try.func17 ⟨Yz.ok k, YF.ok k, Yh.ok k, Yi.ok k, Yg.ok k, Ym.ok k⟩ (by kernel_rfl) (fun aB aA aC aG a1 a2 => by show _ = _; kernel_rfl)
noncomputable def Ye.l5 {β : Type} (k : Nat) (v5_0 : ByteArray) (v5_1 v5_2 v5_3 : Bool) (v5_6 v5_7 : Int) (v5_8 v5_9 v5_10 v5_11 v5_12 v5_13 : List (List C)) (K : Bool → Option β) (L5 : (Bool × Int) → Option β) (v : Bool × Int) : Option β :=
  match v with
  | (v5_4, v5_5) => bif (decide ((v5_5 : Int) < (v5_9.length : Int))) then (bif v5_4 then (L5 (true, IntKind.wrap .i64 (v5_5 + 1))) else (Zc ((0 : Int) ≤ v5_5 ∧ v5_5 < (v5_9.length : Int)) (ZaG v5_9 (Int.toNat v5_5) fun c463 => Zas (c463.drop 0) fun c464 r465 => cD c464 fun d466 => dStr d466 fun x467 => L5 (Zae x467 v5_0, IntKind.wrap .i64 (v5_5 + 1))))) else (bif v5_1 then (bif (v5_2 == v5_4) then (bif (!v5_4) then (Yh.f k (C.immRows v5_11) (C.immRows v5_12) (C.immRows v5_13) v5_7 (fun y468 => K y468)) else (bif v5_3 then (Yh.f k (C.immRows v5_11) (C.immRows v5_12) (C.immRows v5_13) v5_7 (fun y469 => K y469)) else (K false))) else (K false)) else (K false))
noncomputable def Ye.l4 {β : Type} (k : Nat) (v4_0 : ByteArray) (v4_1 v4_2 v4_3 : Bool) (v4_6 v4_7 : Int) (v4_8 v4_9 v4_10 v4_11 v4_12 v4_13 : List (List C)) (K : Bool → Option β) (L4 : (Bool × Int) → Option β) (v : Bool × Int) : Option β :=
  match v with
  | (v4_4, v4_5) => bif (decide ((v4_5 : Int) < (v4_9.length : Int))) then (bif v4_4 then (L4 (true, IntKind.wrap .i64 (v4_5 + 1))) else (Zc ((0 : Int) ≤ v4_5 ∧ v4_5 < (v4_9.length : Int)) (ZaG v4_9 (Int.toNat v4_5) fun c449 => Zas (c449.drop 0) fun c450 r451 => cD c450 fun d452 => dStr d452 fun x453 => L4 (Zae x453 v4_0, IntKind.wrap .i64 (v4_5 + 1))))) else (bif v4_1 then (bif (v4_2 == v4_4) then (bif (!v4_4) then (Yh.f k (C.immRows v4_11) (C.immRows v4_12) (C.immRows v4_13) v4_7 (fun y454 => K y454)) else (bif v4_3 then (Yh.f k (C.immRows v4_11) (C.immRows v4_12) (C.immRows v4_13) v4_7 (fun y455 => K y455)) else (K false))) else (K false)) else (K false))
noncomputable def Ye.l3 {β : Type} (k : Nat) (v3_0 : ByteArray) (v3_1 : Int) (v3_2 : ByteArray) (v3_4 v3_5 : Int) (v3_6 v3_7 v3_8 v3_9 v3_10 v3_11 : List (List C)) (L0 : (ByteArray × Int × Int × (List (List C)) × (List (List C)) × (List (List C))) → Option β) (K : Bool → Option β) (L3 : Int → Option β) (v : Int) : Option β :=
  match v with
  | v3_3 => bif (decide ((v3_3 : Int) < (v3_7.length : Int))) then (Zc ((0 : Int) ≤ v3_3 ∧ v3_3 < (v3_7.length : Int)) (ZaG v3_7 (Int.toNat v3_3) fun c422 => Zas (c422.drop 0) fun c423 r424 => cD c423 fun d425 => dStr d425 fun x426 => bif (Zae x426 v3_2) then (K false) else (L3 (IntKind.wrap .i64 (v3_3 + 1))))) else (L0 (v3_0, IntKind.wrap .i64 (v3_1 + 1), v3_5, v3_9, v3_10, v3_11))
noncomputable def Ye.l2 {β : Type} (k : Nat) (aU : ByteArray) (v2_1 aW aX : Bool) (v2_6 v2_7 : Int) (v2_8 v2_9 v2_10 v2_11 v2_12 v2_13 : List (List C)) (K : Bool → Option β) (L2 : (Bool × Int) → Option β) (v : Bool × Int) : Option β :=
  match v with
  | (v2_4, v2_5) => bif (decide ((v2_5 : Int) < (v2_9.length : Int))) then (bif v2_4 then (L2 (true, IntKind.wrap .i64 (v2_5 + 1))) else (Zc ((0 : Int) ≤ v2_5 ∧ v2_5 < (v2_9.length : Int)) (ZaG v2_9 (Int.toNat v2_5) fun c410 => Zas (c410.drop 0) fun c411 r412 => cD c411 fun d413 => dStr d413 fun x414 => L2 (Zae x414 aU, IntKind.wrap .i64 (v2_5 + 1))))) else (bif v2_1 then (bif (aW == v2_4) then (bif (!v2_4) then (Yh.f k (C.immRows v2_11) (C.immRows v2_12) (C.immRows v2_13) v2_7 (fun y415 => K y415)) else (bif aX then (Yh.f k (C.immRows v2_11) (C.immRows v2_12) (C.immRows v2_13) v2_7 (fun y416 => K y416)) else (K false))) else (K false)) else (K false))
noncomputable def Ye.l1 {β : Type} (k : Nat) (aO : ByteArray) (aM aQ aP : Bool) (aT aV : Int) (aZ v1_9 v1_10 v1_11 v1_12 v1_13 : List (List C)) (K : Bool → Option β) (L1 : (Bool × Int) → Option β) (v : Bool × Int) : Option β :=
  match v with
  | (aR, aS) => bif (decide ((aS : Int) < (v1_9.length : Int))) then (bif aR then (L1 (true, IntKind.wrap .i64 (aS + 1))) else (Zc ((0 : Int) ≤ aS ∧ aS < (v1_9.length : Int)) (ZaG v1_9 (Int.toNat aS) fun c396 => Zas (c396.drop 0) fun c397 r398 => cD c397 fun d399 => dStr d399 fun x400 => L1 (Zae x400 aO, IntKind.wrap .i64 (aS + 1))))) else (bif aM then (bif (aQ == aR) then (bif (!aR) then (Yh.f k (C.immRows v1_11) (C.immRows v1_12) (C.immRows v1_13) aV (fun y401 => K y401)) else (bif aP then (Yh.f k (C.immRows v1_11) (C.immRows v1_12) (C.immRows v1_13) aV (fun y402 => K y402)) else (K false))) else (K false)) else (K false))
noncomputable def Ye.m0 {β : Type} (k : Nat) (K : Bool → Option β) (L0 : (ByteArray × Int × Int × (List (List C)) × (List (List C)) × (List (List C))) → Option β) (v : ByteArray × Int × Int × (List (List C)) × (List (List C)) × (List (List C))) (F : (ByteArray → Bool → Bool → Bool → Int → Int → (List (List C)) → (List (List C)) → (List (List C)) → (List (List C)) → (List (List C)) → (List (List C)) → (Bool × Int) → Option β) × (ByteArray → Bool → Bool → Bool → Int → Int → (List (List C)) → (List (List C)) → (List (List C)) → (List (List C)) → (List (List C)) → (List (List C)) → (Bool × Int) → Option β) × (ByteArray → Int → ByteArray → Int → Int → (List (List C)) → (List (List C)) → (List (List C)) → (List (List C)) → (List (List C)) → (List (List C)) → Int → Option β) × (ByteArray → Bool → Bool → Bool → Int → Int → (List (List C)) → (List (List C)) → (List (List C)) → (List (List C)) → (List (List C)) → (List (List C)) → (Bool × Int) → Option β) × (ByteArray → Bool → Bool → Bool → Int → Int → (List (List C)) → (List (List C)) → (List (List C)) → (List (List C)) → (List (List C)) → (List (List C)) → (Bool × Int) → Option β)) : Option β :=
  match v with
  | (aD, aE, aF, aH, aI, aJ) => bif (decide ((aE : Int) < 200)) then (YV.f k (C.immRows aH) (C.immRows aI) (C.immRows aJ) aF (fun y368 y369 y370 y371 y372 y373 => bif (!y373) then (YQ.f k (C.immRows aH) (C.immRows aI) (C.immRows aJ) aF aD (fun y374 y375 y376 y377 y378 => YP.f k (C.immRows y374) (C.immRows y375) (C.immRows y376) y377 aD true (fun y379 y380 y381 y382 y383 => bif (decide (((y379.length : Int) : Int) > 0)) then (Zc ((0 : Int) ≤ (IntKind.wrap .i64 ((y379.length : Int) - 1)) ∧ (IntKind.wrap .i64 ((y379.length : Int) - 1)) < (y379.length : Int)) (ZaG y379 (Int.toNat (IntKind.wrap .i64 ((y379.length : Int) - 1))) fun c384 => Zas (c384.drop 0) fun c385 r386 => cD c385 fun d387 => dStr d387 fun x388 => F.1 aD y378 y383 (Zae x388 aD) aF y382 aH aI aJ y379 y380 y381 (false, 0))) else (F.2.1 aD y378 y383 false aF y382 aH aI aJ y379 y380 y381 (false, 0))))) else (F.2.2.1 aD aE y372 aF y371 aH aI aJ y368 y369 y370 (0)))) else (YQ.f k (C.immRows aH) (C.immRows aI) (C.immRows aJ) aF aD (fun y427 y428 y429 y430 y431 => YP.f k (C.immRows y427) (C.immRows y428) (C.immRows y429) y430 aD true (fun y432 y433 y434 y435 y436 => bif (decide (((y432.length : Int) : Int) > 0)) then (Zc ((0 : Int) ≤ (IntKind.wrap .i64 ((y432.length : Int) - 1)) ∧ (IntKind.wrap .i64 ((y432.length : Int) - 1)) < (y432.length : Int)) (ZaG y432 (Int.toNat (IntKind.wrap .i64 ((y432.length : Int) - 1))) fun c437 => Zas (c437.drop 0) fun c438 r439 => cD c438 fun d440 => dStr d440 fun x441 => F.2.2.2.1 aD y431 y436 (Zae x441 aD) aF y435 aH aI aJ y432 y433 y434 (false, 0))) else (F.2.2.2.2 aD y431 y436 false aF y435 aH aI aJ y432 y433 y434 (false, 0)))))
noncomputable def Ye.l0 {β : Type} (k : Nat) (K : Bool → Option β) (L0 : (ByteArray × Int × Int × (List (List C)) × (List (List C)) × (List (List C))) → Option β) (v : ByteArray × Int × Int × (List (List C)) × (List (List C)) × (List (List C))) : Option β := Ye.m0 k K L0 v ((fun aO aM aQ aP aT aV aZ v1_9 v1_10 v1_11 v1_12 v1_13 => Zo (Ye.l1 k aO aM aQ aP aT aV aZ v1_9 v1_10 v1_11 v1_12 v1_13 K) k), (fun aU v2_1 aW aX v2_6 v2_7 v2_8 v2_9 v2_10 v2_11 v2_12 v2_13 => Zo (Ye.l2 k aU v2_1 aW aX v2_6 v2_7 v2_8 v2_9 v2_10 v2_11 v2_12 v2_13 K) k), (fun v3_0 v3_1 v3_2 v3_4 v3_5 v3_6 v3_7 v3_8 v3_9 v3_10 v3_11 => Zo (Ye.l3 k v3_0 v3_1 v3_2 v3_4 v3_5 v3_6 v3_7 v3_8 v3_9 v3_10 v3_11 L0 K) k), (fun v4_0 v4_1 v4_2 v4_3 v4_6 v4_7 v4_8 v4_9 v4_10 v4_11 v4_12 v4_13 => Zo (Ye.l4 k v4_0 v4_1 v4_2 v4_3 v4_6 v4_7 v4_8 v4_9 v4_10 v4_11 v4_12 v4_13 K) k), (fun v5_0 v5_1 v5_2 v5_3 v5_6 v5_7 v5_8 v5_9 v5_10 v5_11 v5_12 v5_13 => Zo (Ye.l5 k v5_0 v5_1 v5_2 v5_3 v5_6 v5_7 v5_8 v5_9 v5_10 v5_11 v5_12 v5_13 K) k))
noncomputable def Ye.m {β : Type} (k : Nat) (a0 : List (List D)) (K : Bool → Option β) (F : ((ByteArray × Int × Int × (List (List C)) × (List (List C)) × (List (List C))) → Option β)) : Option β :=
  YW.f k a0 (fun y1 => bif y1 then (K true) else (YK.f k a0 (fun y241 y242 y243 y244 y245 => YQ.f k (C.immRows y241) (C.immRows y242) (C.immRows y243) y244 y245 (fun y246 y247 y248 y249 y250 => YT.f k (C.immRows y241) (C.immRows y242) (C.immRows y243) y244 y245 (fun y251 y252 y253 y254 y255 => bif (!(y250 == y255)) then (bif (y250 == y255) then (Yf.f k (C.immRows y241) (C.immRows y242) (C.immRows y243) y244 (fun y256 => bif (!y256) then (K true) else (Yh.f k (C.immRows y241) (C.immRows y242) (C.immRows y243) y244 (fun y257 => K y257)))) else (K false)) else (bif (!y250) then (bif (y250 == y255) then (Yf.f k (C.immRows y241) (C.immRows y242) (C.immRows y243) y244 (fun y258 => bif (!y258) then (K true) else (Yh.f k (C.immRows y241) (C.immRows y242) (C.immRows y243) y244 (fun y259 => K y259)))) else (K false)) else (YQ.f k (C.immRows y246) (C.immRows y247) (C.immRows y248) y249 y245 (fun y260 y261 y262 y263 y264 => Yh.f k (C.immRows y246) (C.immRows y247) (C.immRows y248) y249 (fun y265 => bif (!y265) then (K false) else (bif (((y260.length : Int) : Int) != (y246.length : Int)) then (K false) else (bif (((y262.length : Int) : Int) != (y248.length : Int)) then (K false) else (F (y245, 0, y249, y246, y247, y248)))))))))))))
noncomputable def Ye.g {β : Type} (k : Nat) (a0 : List (List D)) (K : Bool → Option β) : Option β := Ye.m k a0 K (Zo (Ye.l0 k K) k)
noncomputable def Ye.t (k : Nat) (a0 : List (List D)) : Option (Bool) := Ye.g k a0 (fun z0 => some z0)
noncomputable def Ye.e (k : Nat) : Zk := ent [.d .l] [1] [.b] [4] false (Ye.t k)
noncomputable def Ye.p (k : Nat) : Pro := ⟨Try.prog, [(11, YW.e k), (20, YK.e k), (21, YQ.e k), (22, YT.e k), (23, Yf.e k), (19, Yh.e k), (13, YV.e k), (17, YP.e k)], Zn [(13, kp [4, 11, 12]), (28, kp [4, 11, 18, 19, 20, 21, 22, 23]), (18, kp [4, 11, 12, 13, 14, 16])] false [], k⟩
noncomputable def Ye.d (k : Nat) (a0 : List (List D)) : Ex → St → Option (Bool) := (Ye.p k).fin Try.f4 [.d (.sl a0)] [1] [.b]
noncomputable def Ye.s0 (v : ByteArray × Int × Int × (List (List C)) × (List (List C)) × (List (List C))) : St :=
  match v with
  | (aD, aE, aF, aH, aI, aJ) => ZX 182 [(4, .d true (.str aD)), (11, .bp 0 0), (12, .d true (.int .i64 aE))] [.box none 27 [.row 1, .row 2, .row 3, .d true (.int .i64 aF)], .row none true 24 aH, .row none true 24 aI, .row none true 25 aJ]
noncomputable def Ye.c0 (k : Nat) (a0 : List (List D)) : Ex → St → Option (Bool) := (Ye.p k).ct (Zt Try.f4) [1, 1, 1, 1, 1, 1, 1, 1, 1, 0, 1, 0] (Ye.d k a0)
noncomputable def Ye.r0 (k : Nat) (a0 : List (List D)) (n : Nat) (v : ByteArray × Int × Int × (List (List C)) × (List (List C)) × (List (List C))) : Option (Bool) := (Ye.p k).lp (Zt Try.f4) 13 [1, 1, 1, 1, 1, 1, 1, 1, 1, 0, 1, 0] (Ye.d k a0) n (Ye.s0 v)
noncomputable def Ye.s1 (aO : ByteArray) (aM aQ aP : Bool) (aT aV : Int) (aZ v1_9 v1_10 v1_11 v1_12 v1_13 : List (List C)) (v : Bool × Int) : St :=
  match v with
  | (aR, aS) => ZX 182 [(4, .d true (.str aO)), (11, .bp 0 0), (18, .d true (.bool aM)), (19, .bp 1 0), (20, .d true (.bool aQ)), (21, .d true (.bool aP)), (22, .d true (.bool aR)), (23, .d true (.int .i64 aS))] [.box none 27 [.row 2, .row 3, .row 4, .d true (.int .i64 aT)], .box none 27 [.row 5, .row 6, .row 7, .d true (.int .i64 aV)], .row none true 24 aZ, .row none true 24 v1_9, .row none true 25 v1_10, .row none true 24 v1_11, .row none true 24 v1_12, .row none true 25 v1_13]
noncomputable def Ye.r1 (k : Nat) (a0 : List (List D)) (aO : ByteArray) (aM aQ aP : Bool) (aT aV : Int) (aZ v1_9 v1_10 v1_11 v1_12 v1_13 : List (List C)) (n : Nat) (v : Bool × Int) : Option (Bool) := (Ye.p k).lp (Zt Try.f4) 28 [1, 1, 1, 1, 1, 1, 1, 1, 1, 1, 1, 1, 1, 1, 0, 1, 0] (Ye.d k a0) n (Ye.s1 aO aM aQ aP aT aV aZ v1_9 v1_10 v1_11 v1_12 v1_13 v)
noncomputable def Ye.s2 (aU : ByteArray) (v2_1 aW aX : Bool) (v2_6 v2_7 : Int) (v2_8 v2_9 v2_10 v2_11 v2_12 v2_13 : List (List C)) (v : Bool × Int) : St :=
  match v with
  | (v2_4, v2_5) => ZX 182 [(4, .d true (.str aU)), (11, .bp 0 0), (18, .d true (.bool v2_1)), (19, .bp 1 0), (20, .d true (.bool aW)), (21, .d true (.bool aX)), (22, .d true (.bool v2_4)), (23, .d true (.int .i64 v2_5))] [.box none 27 [.row 2, .row 3, .row 4, .d true (.int .i64 v2_6)], .box none 27 [.row 5, .row 6, .row 7, .d true (.int .i64 v2_7)], .row none true 24 v2_8, .row none true 24 v2_9, .row none true 25 v2_10, .row none true 24 v2_11, .row none true 24 v2_12, .row none true 25 v2_13]
noncomputable def Ye.r2 (k : Nat) (a0 : List (List D)) (aU : ByteArray) (v2_1 aW aX : Bool) (v2_6 v2_7 : Int) (v2_8 v2_9 v2_10 v2_11 v2_12 v2_13 : List (List C)) (n : Nat) (v : Bool × Int) : Option (Bool) := (Ye.p k).lp (Zt Try.f4) 28 [1, 1, 1, 1, 1, 1, 1, 1, 1, 1, 1, 1, 1, 1, 0, 1, 0] (Ye.d k a0) n (Ye.s2 aU v2_1 aW aX v2_6 v2_7 v2_8 v2_9 v2_10 v2_11 v2_12 v2_13 v)
noncomputable def Ye.s3 (v3_0 : ByteArray) (v3_1 : Int) (v3_2 : ByteArray) (v3_4 v3_5 : Int) (v3_6 v3_7 v3_8 v3_9 v3_10 v3_11 : List (List C)) (v : Int) : St :=
  match v with
  | v3_3 => ZX 182 [(4, .d true (.str v3_0)), (11, .bp 0 0), (12, .d true (.int .i64 v3_1)), (13, .bp 1 0), (14, .d true (.str v3_2)), (16, .d true (.int .i64 v3_3))] [.box none 27 [.row 2, .row 3, .row 4, .d true (.int .i64 v3_4)], .box none 27 [.row 5, .row 6, .row 7, .d true (.int .i64 v3_5)], .row none true 24 v3_6, .row none true 24 v3_7, .row none true 25 v3_8, .row none true 24 v3_9, .row none true 24 v3_10, .row none true 25 v3_11]
noncomputable def Ye.r3 (k : Nat) (a0 : List (List D)) (v3_0 : ByteArray) (v3_1 : Int) (v3_2 : ByteArray) (v3_4 v3_5 : Int) (v3_6 v3_7 v3_8 v3_9 v3_10 v3_11 : List (List C)) (L0 : St → Option (Bool)) (n : Nat) (v : Int) : Option (Bool) := (Ye.p k).lp (codeAt [1, 1, 1, 1, 1, 1, 1, 1, 1, 0, 1, 0, 0] (Zt Try.f4)) 18 [1, 0, 0, 1, 1, 0, 1, 0] (backK ((Ye.p k).h.H 13) L0 (Ye.c0 k a0)) n (Ye.s3 v3_0 v3_1 v3_2 v3_4 v3_5 v3_6 v3_7 v3_8 v3_9 v3_10 v3_11 v)
noncomputable def Ye.s4 (v4_0 : ByteArray) (v4_1 v4_2 v4_3 : Bool) (v4_6 v4_7 : Int) (v4_8 v4_9 v4_10 v4_11 v4_12 v4_13 : List (List C)) (v : Bool × Int) : St :=
  match v with
  | (v4_4, v4_5) => ZX 182 [(4, .d true (.str v4_0)), (11, .bp 0 0), (18, .d true (.bool v4_1)), (19, .bp 1 0), (20, .d true (.bool v4_2)), (21, .d true (.bool v4_3)), (22, .d true (.bool v4_4)), (23, .d true (.int .i64 v4_5))] [.box none 27 [.row 2, .row 3, .row 4, .d true (.int .i64 v4_6)], .box none 27 [.row 5, .row 6, .row 7, .d true (.int .i64 v4_7)], .row none true 24 v4_8, .row none true 24 v4_9, .row none true 25 v4_10, .row none true 24 v4_11, .row none true 24 v4_12, .row none true 25 v4_13]
noncomputable def Ye.r4 (k : Nat) (a0 : List (List D)) (v4_0 : ByteArray) (v4_1 v4_2 v4_3 : Bool) (v4_6 v4_7 : Int) (v4_8 v4_9 v4_10 v4_11 v4_12 v4_13 : List (List C)) (n : Nat) (v : Bool × Int) : Option (Bool) := (Ye.p k).lp (Zt Try.f4) 28 [1, 1, 1, 1, 1, 1, 1, 1, 1, 1, 1, 1, 1, 1, 0, 1, 0] (Ye.d k a0) n (Ye.s4 v4_0 v4_1 v4_2 v4_3 v4_6 v4_7 v4_8 v4_9 v4_10 v4_11 v4_12 v4_13 v)
noncomputable def Ye.s5 (v5_0 : ByteArray) (v5_1 v5_2 v5_3 : Bool) (v5_6 v5_7 : Int) (v5_8 v5_9 v5_10 v5_11 v5_12 v5_13 : List (List C)) (v : Bool × Int) : St :=
  match v with
  | (v5_4, v5_5) => ZX 182 [(4, .d true (.str v5_0)), (11, .bp 0 0), (18, .d true (.bool v5_1)), (19, .bp 1 0), (20, .d true (.bool v5_2)), (21, .d true (.bool v5_3)), (22, .d true (.bool v5_4)), (23, .d true (.int .i64 v5_5))] [.box none 27 [.row 2, .row 3, .row 4, .d true (.int .i64 v5_6)], .box none 27 [.row 5, .row 6, .row 7, .d true (.int .i64 v5_7)], .row none true 24 v5_8, .row none true 24 v5_9, .row none true 25 v5_10, .row none true 24 v5_11, .row none true 24 v5_12, .row none true 25 v5_13]
noncomputable def Ye.r5 (k : Nat) (a0 : List (List D)) (v5_0 : ByteArray) (v5_1 v5_2 v5_3 : Bool) (v5_6 v5_7 : Int) (v5_8 v5_9 v5_10 v5_11 v5_12 v5_13 : List (List C)) (n : Nat) (v : Bool × Int) : Option (Bool) := (Ye.p k).lp (Zt Try.f4) 28 [1, 1, 1, 1, 1, 1, 1, 1, 1, 1, 1, 1, 1, 1, 0, 1, 0] (Ye.d k a0) n (Ye.s5 v5_0 v5_1 v5_2 v5_3 v5_6 v5_7 v5_8 v5_9 v5_10 v5_11 v5_12 v5_13 v)
theorem Ye.l5_eq (k : Nat) (a0 : List (List D)) (v5_0 : ByteArray) (v5_1 v5_2 v5_3 : Bool) (v5_6 v5_7 : Int) (v5_8 v5_9 v5_10 v5_11 v5_12 v5_13 : List (List C)) : ∀ n v, Ye.r5 k a0 v5_0 v5_1 v5_2 v5_3 v5_6 v5_7 v5_8 v5_9 v5_10 v5_11 v5_12 v5_13 n v = Zo (Ye.l5 k v5_0 v5_1 v5_2 v5_3 v5_6 v5_7 v5_8 v5_9 v5_10 v5_11 v5_12 v5_13 (fun z0 => some z0)) n v :=
  Zm (Ye.s5 v5_0 v5_1 v5_2 v5_3 v5_6 v5_7 v5_8 v5_9 v5_10 v5_11 v5_12 v5_13) _ fun L5 v => by obtain ⟨v5_4, v5_5⟩ := v; kernel_rfl
theorem Ye.l4_eq (k : Nat) (a0 : List (List D)) (v4_0 : ByteArray) (v4_1 v4_2 v4_3 : Bool) (v4_6 v4_7 : Int) (v4_8 v4_9 v4_10 v4_11 v4_12 v4_13 : List (List C)) : ∀ n v, Ye.r4 k a0 v4_0 v4_1 v4_2 v4_3 v4_6 v4_7 v4_8 v4_9 v4_10 v4_11 v4_12 v4_13 n v = Zo (Ye.l4 k v4_0 v4_1 v4_2 v4_3 v4_6 v4_7 v4_8 v4_9 v4_10 v4_11 v4_12 v4_13 (fun z0 => some z0)) n v :=
  Zm (Ye.s4 v4_0 v4_1 v4_2 v4_3 v4_6 v4_7 v4_8 v4_9 v4_10 v4_11 v4_12 v4_13) _ fun L4 v => by obtain ⟨v4_4, v4_5⟩ := v; kernel_rfl
theorem Ye.l3_eq (k : Nat) (a0 : List (List D)) (v3_0 : ByteArray) (v3_1 : Int) (v3_2 : ByteArray) (v3_4 v3_5 : Int) (v3_6 v3_7 v3_8 v3_9 v3_10 v3_11 : List (List C)) (L0 : St → Option (Bool)) : ∀ n v, Ye.r3 k a0 v3_0 v3_1 v3_2 v3_4 v3_5 v3_6 v3_7 v3_8 v3_9 v3_10 v3_11 L0 n v = Zo (Ye.l3 k v3_0 v3_1 v3_2 v3_4 v3_5 v3_6 v3_7 v3_8 v3_9 v3_10 v3_11 (fun v => L0 (Ye.s0 v)) (fun z0 => some z0)) n v :=
  Zm (Ye.s3 v3_0 v3_1 v3_2 v3_4 v3_5 v3_6 v3_7 v3_8 v3_9 v3_10 v3_11) _ fun L3 v => by kernel_rfl
theorem Ye.l2_eq (k : Nat) (a0 : List (List D)) (aU : ByteArray) (v2_1 aW aX : Bool) (v2_6 v2_7 : Int) (v2_8 v2_9 v2_10 v2_11 v2_12 v2_13 : List (List C)) : ∀ n v, Ye.r2 k a0 aU v2_1 aW aX v2_6 v2_7 v2_8 v2_9 v2_10 v2_11 v2_12 v2_13 n v = Zo (Ye.l2 k aU v2_1 aW aX v2_6 v2_7 v2_8 v2_9 v2_10 v2_11 v2_12 v2_13 (fun z0 => some z0)) n v :=
  Zm (Ye.s2 aU v2_1 aW aX v2_6 v2_7 v2_8 v2_9 v2_10 v2_11 v2_12 v2_13) _ fun L2 v => by obtain ⟨v2_4, v2_5⟩ := v; kernel_rfl
theorem Ye.l1_eq (k : Nat) (a0 : List (List D)) (aO : ByteArray) (aM aQ aP : Bool) (aT aV : Int) (aZ v1_9 v1_10 v1_11 v1_12 v1_13 : List (List C)) : ∀ n v, Ye.r1 k a0 aO aM aQ aP aT aV aZ v1_9 v1_10 v1_11 v1_12 v1_13 n v = Zo (Ye.l1 k aO aM aQ aP aT aV aZ v1_9 v1_10 v1_11 v1_12 v1_13 (fun z0 => some z0)) n v :=
  Zm (Ye.s1 aO aM aQ aP aT aV aZ v1_9 v1_10 v1_11 v1_12 v1_13) _ fun L1 v => by obtain ⟨aR, aS⟩ := v; kernel_rfl
theorem Ye.l0_eq (k : Nat) (a0 : List (List D)) : ∀ n v, Ye.r0 k a0 n v = Zo (Ye.l0 k (fun z0 => some z0)) n v :=
  Zm (Ye.s0) _ fun L0 v => by obtain ⟨aD, aE, aF, aH, aI, aJ⟩ := v; exact Eq.trans (b := Ye.m0 k (fun z0 => some z0) (fun v => L0 (Ye.s0 v)) (aD, aE, aF, aH, aI, aJ) ((fun aO aM aQ aP aT aV aZ v1_9 v1_10 v1_11 v1_12 v1_13 => Ye.r1 k a0 aO aM aQ aP aT aV aZ v1_9 v1_10 v1_11 v1_12 v1_13 k), (fun aU v2_1 aW aX v2_6 v2_7 v2_8 v2_9 v2_10 v2_11 v2_12 v2_13 => Ye.r2 k a0 aU v2_1 aW aX v2_6 v2_7 v2_8 v2_9 v2_10 v2_11 v2_12 v2_13 k), (fun v3_0 v3_1 v3_2 v3_4 v3_5 v3_6 v3_7 v3_8 v3_9 v3_10 v3_11 => Ye.r3 k a0 v3_0 v3_1 v3_2 v3_4 v3_5 v3_6 v3_7 v3_8 v3_9 v3_10 v3_11 L0 k), (fun v4_0 v4_1 v4_2 v4_3 v4_6 v4_7 v4_8 v4_9 v4_10 v4_11 v4_12 v4_13 => Ye.r4 k a0 v4_0 v4_1 v4_2 v4_3 v4_6 v4_7 v4_8 v4_9 v4_10 v4_11 v4_12 v4_13 k), (fun v5_0 v5_1 v5_2 v5_3 v5_6 v5_7 v5_8 v5_9 v5_10 v5_11 v5_12 v5_13 => Ye.r5 k a0 v5_0 v5_1 v5_2 v5_3 v5_6 v5_7 v5_8 v5_9 v5_10 v5_11 v5_12 v5_13 k))) (by kernel_rfl) (congrArg (Ye.m0 k (fun z0 => some z0) (fun v => L0 (Ye.s0 v)) (aD, aE, aF, aH, aI, aJ)) (pair_eq (funext fun aO => funext fun aM => funext fun aQ => funext fun aP => funext fun aT => funext fun aV => funext fun aZ => funext fun v1_9 => funext fun v1_10 => funext fun v1_11 => funext fun v1_12 => funext fun v1_13 => funext fun v => Ye.l1_eq k a0 aO aM aQ aP aT aV aZ v1_9 v1_10 v1_11 v1_12 v1_13 k v) (pair_eq (funext fun aU => funext fun v2_1 => funext fun aW => funext fun aX => funext fun v2_6 => funext fun v2_7 => funext fun v2_8 => funext fun v2_9 => funext fun v2_10 => funext fun v2_11 => funext fun v2_12 => funext fun v2_13 => funext fun v => Ye.l2_eq k a0 aU v2_1 aW aX v2_6 v2_7 v2_8 v2_9 v2_10 v2_11 v2_12 v2_13 k v) (pair_eq (funext fun v3_0 => funext fun v3_1 => funext fun v3_2 => funext fun v3_4 => funext fun v3_5 => funext fun v3_6 => funext fun v3_7 => funext fun v3_8 => funext fun v3_9 => funext fun v3_10 => funext fun v3_11 => funext fun v => Ye.l3_eq k a0 v3_0 v3_1 v3_2 v3_4 v3_5 v3_6 v3_7 v3_8 v3_9 v3_10 v3_11 L0 k v) (pair_eq (funext fun v4_0 => funext fun v4_1 => funext fun v4_2 => funext fun v4_3 => funext fun v4_6 => funext fun v4_7 => funext fun v4_8 => funext fun v4_9 => funext fun v4_10 => funext fun v4_11 => funext fun v4_12 => funext fun v4_13 => funext fun v => Ye.l4_eq k a0 v4_0 v4_1 v4_2 v4_3 v4_6 v4_7 v4_8 v4_9 v4_10 v4_11 v4_12 v4_13 k v) (funext fun v5_0 => funext fun v5_1 => funext fun v5_2 => funext fun v5_3 => funext fun v5_6 => funext fun v5_7 => funext fun v5_8 => funext fun v5_9 => funext fun v5_10 => funext fun v5_11 => funext fun v5_12 => funext fun v5_13 => funext fun v => Ye.l5_eq k a0 v5_0 v5_1 v5_2 v5_3 v5_6 v5_7 v5_8 v5_9 v5_10 v5_11 v5_12 v5_13 k v))))))
theorem Ye.ok (k : Nat) : Za Try.prog 4 (Ye.e k) := Zh (Ye.p k) mix tyok Try.func4 ⟨YW.ok k, YK.ok k, YQ.ok k, YT.ok k, Yf.ok k, Yh.ok k, YV.ok k, YP.ok k⟩ (by kernel_rfl) (fun a0 => Eq.trans (b := Ye.m k a0 (fun z0 => some z0) (Ye.r0 k a0 k)) (by kernel_rfl) (congrArg (Ye.m k a0 (fun z0 => some z0)) (funext fun v => Ye.l0_eq k a0 k v) :))
end Go.Proofs.Ytpgplbalenfgfaa
