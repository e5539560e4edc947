/- Printed: the functions that FnPlans reaches, read by the evaluator, each with its contract. -/
import Derived.Test.YtpgplbalenfgfaaTLibs
import Derived.Test.YtpgplbalenfgfaaProg
import Derived.KernelRfl
set_option linter.unusedVariables false
set_option linter.unusedSimpArgs false
namespace Go.Proofs.Ytpgplbalenfgfaa
open Go Go.T Go.Proofs
theorem mix : Try.prog.follows .mixedOrders = true := by kernel_rfl
theorem tyok : ZaI Try.prog := tyOk_of (by kernel_rfl)
noncomputable def YaJ.g {β : Type} (k : Nat) (a0 : LD) (K : Bool → Option β) : Option β :=
 K (decide (((a0.length : Int) : Int) > 1048576))
noncomputable def YaJ.t (k : Nat) (a0 : LD) : Option (Bool) := YaJ.g k a0 (fun z0 => some z0)
noncomputable def YaJ.f {β : Type} (k : Nat) (a0 : LD) (K : Bool → Option β) : Option β := bd1 (YaJ.t k a0) K
noncomputable def YaJ.e (k : Nat) : Zk := ent [.d .l] [1] [.b] [4] false (YaJ.t k)
noncomputable def YaJ.p (k : Nat) : Pro := ⟨Try.prog, [], Zn [] false [], k⟩
theorem YaJ.ok (k : Nat) : Za Try.prog 11 (YaJ.e k) := Zh (YaJ.p k) mix tyok Try.func11 trivial (by kernel_rfl) (fun a0 => by show _ = _; kernel_rfl)
noncomputable def Yac.l0 {β : Type} (k : Nat) (aD : LD) (K : LD → Int → Int → Option β) (L0 : (Int × Int) → Option β) (v : Int × Int) : Option β :=
 match v with
 | (aE, aF) => bif (decide ((aF : Int) < (aD.length : Int))) then (bif (decide ((aF : Int) < 4000)) then (atR aD aF [.i .u8] fun x8 => (L0 (IntKind.wrap .i64 ((BitVec.ofInt (IntKind.bits .i64) (IntKind.wrap .i64 ((IntKind.wrap .i64 ((IntKind.wrap .i64 (aE * 137)) + (IntKind.wrap .i64 x8))) + 11)) &&& BitVec.ofInt (IntKind.bits .i64) 1073741823).toNat), IntKind.wrap .i64 (aF + 1)))) else (K aD 0 aE)) else (K aD 0 aE)
noncomputable def Yac.m {β : Type} (k : Nat) (a0 : LD) (K : LD → Int → Int → Option β) (F : (LD → (Int × Int) → Option β)) : Option β :=
 F a0 (IntKind.wrap .i64 (138138 + (a0.length : Int)), 0)
noncomputable def Yac.g {β : Type} (k : Nat) (a0 : LD) (K : LD → Int → Int → Option β) : Option β :=
 Zo (Yac.l0 k a0 K) k (IntKind.wrap .i64 (138138 + (a0.length : Int)), 0)
noncomputable def Yac.t (k : Nat) (a0 : LD) : Option (LD × Int × Int) := Yac.g k a0 (fun z0 z1 z2 => some (z0, z1, z2))
noncomputable def Yac.f {β : Type} (k : Nat) (a0 : LD) (K : LD → Int → Int → Option β) : Option β := bd3 (Yac.t k a0) K
noncomputable def Yac.e (k : Nat) : Zk := ent [.d .l] [3] [.l, .n, .n] [106] true (Yac.t k)
noncomputable def Yac.p (k : Nat) : Pro := ⟨Try.prog, [], Zn [(3, kp [0, 3, 4])] true [], k⟩
noncomputable def Yac.d (k : Nat) (a0 : LD) : Ex → St → Option (LD × Int × Int) := (Yac.p k).fin Try.f58 [.d (.sl a0)] [3] [.l, .n, .n]
noncomputable def Yac.s0 (aD : LD) (v : Int × Int) : St :=
 match v with
 | (aE, aF) => ZX 32 [(0, .d false (.sl aD)), (3, .d true (.int .i64 aE)), (4, .d true (.int .i64 aF))] []
noncomputable def Yac.r0 (k : Nat) (a0 aD : LD) (n : Nat) (v : Int × Int) : Option (LD × Int × Int) := (Yac.p k).lp (Zt Try.f58) 3 [1, 1, 0, 1, 0] (Yac.d k a0) n (Yac.s0 aD v)
theorem Yac.l0_eq (k : Nat) (a0 aD : LD) : ∀ n v, Yac.r0 k a0 aD n v = Zo (Yac.l0 k aD (fun z0 z1 z2 => some (z0, z1, z2))) n v :=
 Zm (Yac.s0 aD) _ fun L0 v => by obtain ⟨aE, aF⟩ := v; kernel_rfl
theorem Yac.ok (k : Nat) : Za Try.prog 58 (Yac.e k) := Zh (Yac.p k) mix tyok Try.func58 trivial (by kernel_rfl) (fun a0 => Eq.trans (b := Yac.m k a0 (fun z0 z1 z2 => some (z0, z1, z2)) (fun aD => Yac.r0 k a0 aD k)) (by kernel_rfl) (congrArg (Yac.m k a0 (fun z0 z1 z2 => some (z0, z1, z2))) (funext fun aD => funext fun v => Yac.l0_eq k a0 aD k v) :))
noncomputable def Yaz.g {β : Type} (k : Nat) (aB : LD) (aC aA : Int) (K : Int → LD → Int → Int → Option β) : Option β :=
 let J1 := (IntKind.wrap .i64 ((IntKind.wrap .i64 (aA * 6364136223846793005)) + 1442695040888963407)); let J0 := (IntKind.wrap .i64 ((BitVec.ofInt (IntKind.bits .i64) (IntKind.wrap .i64 ((BitVec.ofInt (IntKind.bits .i64) (Int.fdiv J1 (2 ^ (min (33 : Int).toNat 64))) ^^^ BitVec.ofInt (IntKind.bits .i64) (Int.fdiv J1 (2 ^ (min (47 : Int).toNat 64)))).toNat)) &&& BitVec.ofInt (IntKind.bits .i64) 255).toNat)); Zc ((0 : Int) ≤ 33) (Zc ((0 : Int) ≤ 47) (bif (decide ((aC : Int) < (aB.length : Int))) then (atR aB aC [.i .u8] fun x4 => (K (IntKind.wrap .i64 ((BitVec.ofInt (IntKind.bits .i64) (IntKind.wrap .i64 (J0 + (IntKind.wrap .i64 x4))) &&& BitVec.ofInt (IntKind.bits .i64) 255).toNat)) aB (IntKind.wrap .i64 (aC + 1)) J1)) else (K J0 aB aC J1)))
noncomputable def Yaz.t (k : Nat) (aB : LD) (aC aA : Int) : Option (Int × LD × Int × Int) := Yaz.g k aB aC aA (fun z0 z1 z2 z3 => some (z0, z1, z2, z3))
noncomputable def Yaz.f {β : Type} (k : Nat) (aB : LD) (aC aA : Int) (K : Int → LD → Int → Int → Option β) : Option β := bd4 (Yaz.t k aB aC aA) K
noncomputable def Yaz.e (k : Nat) : Zk := ent [.box 178 [.l, .n, .n]] [1] [.n, .l, .n, .n] [3] false (Yaz.t k)
noncomputable def Yaz.p (k : Nat) : Pro := ⟨Try.prog, [], Zn [] false [], k⟩
theorem Yaz.ok (k : Nat) : Za Try.prog 174 (Yaz.e k) := Zh (Yaz.p k) mix tyok Try.func174 trivial (by kernel_rfl) (fun aB aC aA => by show _ = _; kernel_rfl)
noncomputable def YL.g {β : Type} (k : Nat) (aB : LD) (aC aA a1 : Int) (K : Int → LD → Int → Int → Option β) : Option β :=
 bif (decide ((a1 : Int) ≤ 0)) then (K 0 aB aC aA) else (bif (decide ((a1 : Int) ≤ 256)) then (Yaz.f k aB aC aA (fun y5 y6 y7 y8 => Zc ((a1 : Int) ≠ 0) (K (Int.tmod y5 a1) y6 y7 y8))) else (Yaz.f k aB aC aA (fun y9 y10 y11 y12 => Yaz.f k y10 y11 y12 (fun y13 y14 y15 y16 => Yaz.f k y14 y15 y16 (fun y17 y18 y19 y20 => Zc ((a1 : Int) ≠ 0) (K (Int.tmod (IntKind.wrap .i64 ((IntKind.wrap .i64 ((IntKind.wrap .i64 (y9 * 65536)) + (IntKind.wrap .i64 (y13 * 256)))) + y17)) a1) y18 y19 y20))))))
noncomputable def YL.t (k : Nat) (aB : LD) (aC aA a1 : Int) : Option (Int × LD × Int × Int) := YL.g k aB aC aA a1 (fun z0 z1 z2 z3 => some (z0, z1, z2, z3))
noncomputable def YL.f {β : Type} (k : Nat) (aB : LD) (aC aA a1 : Int) (K : Int → LD → Int → Int → Option β) : Option β := bd4 (YL.t k aB aC aA a1) K
noncomputable def YL.e (k : Nat) : Zk := ent [.box 178 [.l, .n, .n], .d .n] [1] [.n, .l, .n, .n] [3] false (YL.t k)
noncomputable def YL.p (k : Nat) : Pro := ⟨Try.prog, [(174, Yaz.e k)], Zn [] false [], k⟩
theorem YL.ok (k : Nat) : Za Try.prog 112 (YL.e k) := Zh (YL.p k) mix tyok Try.func112 (Yaz.ok k) (by kernel_rfl) (fun aB aC aA a1 => by show _ = _; kernel_rfl)
noncomputable def Yah.g {β : Type} (k : Nat) (aB : LD) (aC aA : Int) (a1 : LD) (K : Int → LD → Int → Int → Option β) : Option β :=
 YL.f k aB aC aA (a1.length : Int) (fun y1 y2 y3 y4 => atR a1 y1 [.n] fun x8 => (K x8 y2 y3 y4))
noncomputable def Yah.t (k : Nat) (aB : LD) (aC aA : Int) (a1 : LD) : Option (Int × LD × Int × Int) := Yah.g k aB aC aA a1 (fun z0 z1 z2 z3 => some (z0, z1, z2, z3))
noncomputable def Yah.f {β : Type} (k : Nat) (aB : LD) (aC aA : Int) (a1 : LD) (K : Int → LD → Int → Int → Option β) : Option β := bd4 (Yah.t k aB aC aA a1) K
noncomputable def Yah.e (k : Nat) : Zk := ent [.box 178 [.l, .n, .n], .d .l] [1] [.n, .l, .n, .n] [3] false (Yah.t k)
noncomputable def Yah.p (k : Nat) : Pro := ⟨Try.prog, [(112, YL.e k)], Zn [] false [], k⟩
theorem Yah.ok (k : Nat) : Za Try.prog 118 (Yah.e k) := Zh (Yah.p k) mix tyok Try.func118 (YL.ok k) (by kernel_rfl) (fun aB aC aA a1 => by show _ = _; kernel_rfl)
noncomputable def YZ.g {β : Type} (k : Nat) (aB : LD) (aC aA a1 : Int) (K : Bool → LD → Int → Int → Option β) : Option β :=
 YL.f k aB aC aA a1 (fun y1 y2 y3 y4 => K ((y1 : Int) == 0) y2 y3 y4)
noncomputable def YZ.t (k : Nat) (aB : LD) (aC aA a1 : Int) : Option (Bool × LD × Int × Int) := YZ.g k aB aC aA a1 (fun z0 z1 z2 z3 => some (z0, z1, z2, z3))
noncomputable def YZ.f {β : Type} (k : Nat) (aB : LD) (aC aA a1 : Int) (K : Bool → LD → Int → Int → Option β) : Option β := bd4 (YZ.t k aB aC aA a1) K
noncomputable def YZ.e (k : Nat) : Zk := ent [.box 178 [.l, .n, .n], .d .n] [1] [.b, .l, .n, .n] [4] false (YZ.t k)
noncomputable def YZ.p (k : Nat) : Pro := ⟨Try.prog, [(112, YL.e k)], Zn [] false [], k⟩
theorem YZ.ok (k : Nat) : Za Try.prog 81 (YZ.e k) := Zh (YZ.p k) mix tyok Try.func81 (YL.ok k) (by kernel_rfl) (fun aB aC aA a1 => by show _ = _; kernel_rfl)
noncomputable def YaB.g {β : Type} (k : Nat) (aB : LD) (aC aA : Int) (a1 : LD) (K : BA → LD → Int → Int → Option β) : Option β :=
 YL.f k aB aC aA (a1.length : Int) (fun y1 y2 y3 y4 => atR a1 y1 [.s] fun x8 => (K x8 y2 y3 y4))
noncomputable def YaB.t (k : Nat) (aB : LD) (aC aA : Int) (a1 : LD) : Option (BA × LD × Int × Int) := YaB.g k aB aC aA a1 (fun z0 z1 z2 z3 => some (z0, z1, z2, z3))
noncomputable def YaB.f {β : Type} (k : Nat) (aB : LD) (aC aA : Int) (a1 : LD) (K : BA → LD → Int → Int → Option β) : Option β := bd4 (YaB.t k aB aC aA a1) K
noncomputable def YaB.e (k : Nat) : Zk := ent [.box 178 [.l, .n, .n], .d .l] [1] [.s, .l, .n, .n] [9] false (YaB.t k)
noncomputable def YaB.p (k : Nat) : Pro := ⟨Try.prog, [(112, YL.e k)], Zn [] false [], k⟩
theorem YaB.ok (k : Nat) : Za Try.prog 75 (YaB.e k) := Zh (YaB.p k) mix tyok Try.func75 (YL.ok k) (by kernel_rfl) (fun aB aC aA a1 => by show _ = _; kernel_rfl)
noncomputable def Yaj.g {β : Type} (k : Nat) (aB : LD) (aC aA : Int) (K : BA → LD → Int → Int → Option β) : Option β :=
 YaB.f k aB aC aA ([[.str (⟨#[97]⟩ : BA)], [.str (⟨#[98]⟩ : BA)], [.str (⟨#[99]⟩ : BA)], [.str (⟨#[122, 111, 110, 101]⟩ : BA)], [.str (⟨#[116, 105, 101, 114]⟩ : BA)], [.str (⟨#[103, 111, 108, 100]⟩ : BA)], [.str (⟨#[101, 97, 115, 116]⟩ : BA)], [.str (⟨#[120, 45, 49]⟩ : BA)], [.str (⟨#[97, 98, 99, 100, 101, 102, 103, 104, 105, 106, 107, 108, 109, 110, 111, 112, 113, 114, 115, 116]⟩ : BA)]] : LD) (fun y9 y10 y11 y12 => K y9 y10 y11 y12)
noncomputable def Yaj.t (k : Nat) (aB : LD) (aC aA : Int) : Option (BA × LD × Int × Int) := Yaj.g k aB aC aA (fun z0 z1 z2 z3 => some (z0, z1, z2, z3))
noncomputable def Yaj.f {β : Type} (k : Nat) (aB : LD) (aC aA : Int) (K : BA → LD → Int → Int → Option β) : Option β := bd4 (Yaj.t k aB aC aA) K
noncomputable def Yaj.e (k : Nat) : Zk := ent [.box 178 [.l, .n, .n]] [1] [.s, .l, .n, .n] [9] false (Yaj.t k)
noncomputable def Yaj.p (k : Nat) : Pro := ⟨Try.prog, [(75, YaB.e k)], Zn [] false [], k⟩
theorem Yaj.ok (k : Nat) : Za Try.prog 84 (Yaj.e k) := Zh (Yaj.p k) mix tyok Try.func84 (YaB.ok k) (by kernel_rfl) (fun aB aC aA => by show _ = _; kernel_rfl)
noncomputable def Yx.l0 {β : Type} (k : Nat) (aD : LD) (aE : BA) (K : BA → Bool → Option β) (L0 : Int → Option β) (v : Int) : Option β :=
 match v with
 | aF => bif (decide ((aF : Int) < (aD.length : Int))) then (atR aD aF [.s, .s] fun x18 x21 => (bif (Zae x18 aE) then (atR aD aF [.s, .s] fun x25 x28 => (K x28 true)) else (L0 (IntKind.wrap .i64 (aF + 1))))) else (K (⟨#[]⟩ : BA) false)
noncomputable def Yx.m {β : Type} (k : Nat) (a0 : LD) (a1 : BA) (K : BA → Bool → Option β) (F : (LD → BA → Int → Option β)) : Option β :=
 F a0 a1 (0)
noncomputable def Yx.g {β : Type} (k : Nat) (a0 : LD) (a1 : BA) (K : BA → Bool → Option β) : Option β :=
 Zo (Yx.l0 k a0 a1 K) k (0)
noncomputable def Yx.t (k : Nat) (a0 : LD) (a1 : BA) : Option (BA × Bool) := Yx.g k a0 a1 (fun z0 z1 => some (z0, z1))
noncomputable def Yx.f {β : Type} (k : Nat) (a0 : LD) (a1 : BA) (K : BA → Bool → Option β) : Option β := bd2 (Yx.t k a0 a1) K
noncomputable def Yx.e (k : Nat) : Zk := ent [.d .l, .d .s] [1, 1] [.s, .b] [9, 4] false (Yx.t k)
noncomputable def Yx.p (k : Nat) : Pro := ⟨Try.prog, [], Zn [(2, kp [0, 1, 6])] false [], k⟩
noncomputable def Yx.d (k : Nat) (a0 : LD) (a1 : BA) : Ex → St → Option (BA × Bool) := (Yx.p k).fin Try.f158 [.d (.sl a0), .d (.str a1)] [1, 1] [.s, .b]
noncomputable def Yx.s0 (aD : LD) (aE : BA) (v : Int) : St :=
 match v with
 | aF => ZX 25 [(0, .d false (.sl aD)), (1, .d false (.str aE)), (6, .d true (.int .i64 aF))] []
noncomputable def Yx.r0 (k : Nat) (a0 : LD) (a1 : BA) (aD : LD) (aE : BA) (n : Nat) (v : Int) : Option (BA × Bool) := (Yx.p k).lp (Zt Try.f158) 2 [1, 0, 1, 0] (Yx.d k a0 a1) n (Yx.s0 aD aE v)
theorem Yx.l0_eq (k : Nat) (a0 : LD) (a1 : BA) (aD : LD) (aE : BA) : ∀ n v, Yx.r0 k a0 a1 aD aE n v = Zo (Yx.l0 k aD aE (fun z0 z1 => some (z0, z1))) n v :=
 Zm (Yx.s0 aD aE) _ fun L0 v => by kernel_rfl
theorem Yx.ok (k : Nat) : Za Try.prog 158 (Yx.e k) := Zh (Yx.p k) mix tyok Try.func158 trivial (by kernel_rfl) (fun a0 a1 => Eq.trans (b := Yx.m k a0 a1 (fun z0 z1 => some (z0, z1)) (fun aD aE => Yx.r0 k a0 a1 aD aE k)) (by kernel_rfl) (congrArg (Yx.m k a0 a1 (fun z0 z1 => some (z0, z1))) (funext fun aD => funext fun aE => funext fun v => Yx.l0_eq k a0 a1 aD aE k v) :))
noncomputable def Y4.g {β : Type} (k : Nat) (a0 a1 a2 : Int) (K : Bool → Option β) : Option β :=
 bif (decide ((a0 : Int) ≥ a1)) then (K (decide ((a0 : Int) ≤ a2))) else (K false)
noncomputable def Y4.t (k : Nat) (a0 a1 a2 : Int) : Option (Bool) := Y4.g k a0 a1 a2 (fun z0 => some z0)
noncomputable def Y4.f {β : Type} (k : Nat) (a0 a1 a2 : Int) (K : Bool → Option β) : Option β := bd1 (Y4.t k a0 a1 a2) K
noncomputable def Y4.e (k : Nat) : Zk := ent [.d .n, .d .n, .d .n] [1] [.b] [4] false (Y4.t k)
noncomputable def Y4.p (k : Nat) : Pro := ⟨Try.prog, [], Zn [] false [], k⟩
theorem Y4.ok (k : Nat) : Za Try.prog 79 (Y4.e k) := Zh (Y4.p k) mix tyok Try.func79 trivial (by kernel_rfl) (fun a0 a1 a2 => by show _ = _; kernel_rfl)
noncomputable def Yn.l0 {β : Type} (k : Nat) (aD : BA) (K : Bool → Option β) (L0 : Int → Option β) (v : Int) : Option β :=
 match v with
 | aE => bif (decide ((aE : Int) < (aD.size : Int))) then (Za0 aD aE fun b9 => Y4.f k (IntKind.wrap .i64 b9) 97 122 (fun y10 => bif (!y10) then (Za0 aD aE fun b11 => Y4.f k (IntKind.wrap .i64 b11) 48 57 (fun y12 => bif (!y12) then (Za0 aD aE fun b13 => bif ((b13 : Int) != 45) then (K false) else (L0 (IntKind.wrap .i64 (aE + 1)))) else (L0 (IntKind.wrap .i64 (aE + 1))))) else (L0 (IntKind.wrap .i64 (aE + 1))))) else (Y4.f k (aD.size : Int) 1 20 (fun y14 => bif y14 then (Za0 aD 0 fun b15 => bif ((b15 : Int) != 45) then (Za0 aD (IntKind.wrap .i64 ((aD.size : Int) - 1)) fun b16 => K ((b16 : Int) != 45)) else (K false)) else (K false)))
noncomputable def Yn.m {β : Type} (k : Nat) (a0 : BA) (K : Bool → Option β) (F : (BA → Int → Option β)) : Option β :=
 F a0 (0)
noncomputable def Yn.g {β : Type} (k : Nat) (a0 : BA) (K : Bool → Option β) : Option β :=
 Zo (Yn.l0 k a0 K) k (0)
noncomputable def Yn.t (k : Nat) (a0 : BA) : Option (Bool) := Yn.g k a0 (fun z0 => some z0)
noncomputable def Yn.f {β : Type} (k : Nat) (a0 : BA) (K : Bool → Option β) : Option β := bd1 (Yn.t k a0) K
noncomputable def Yn.e (k : Nat) : Zk := ent [.d .s] [1] [.b] [4] false (Yn.t k)
noncomputable def Yn.p (k : Nat) : Pro := ⟨Try.prog, [(79, Y4.e k)], Zn [(2, kp [0, 3])] false [], k⟩
noncomputable def Yn.d (k : Nat) (a0 : BA) : Ex → St → Option (Bool) := (Yn.p k).fin Try.f76 [.d (.str a0)] [1] [.b]
noncomputable def Yn.s0 (aD : BA) (v : Int) : St :=
 match v with
 | aE => ZX 46 [(0, .d false (.str aD)), (3, .d true (.int .i64 aE))] []
noncomputable def Yn.r0 (k : Nat) (a0 aD : BA) (n : Nat) (v : Int) : Option (Bool) := (Yn.p k).lp (Zt Try.f76) 2 [1, 0, 1, 0] (Yn.d k a0) n (Yn.s0 aD v)
theorem Yn.l0_eq (k : Nat) (a0 aD : BA) : ∀ n v, Yn.r0 k a0 aD n v = Zo (Yn.l0 k aD (fun z0 => some z0)) n v :=
 Zm (Yn.s0 aD) _ fun L0 v => by kernel_rfl
theorem Yn.ok (k : Nat) : Za Try.prog 76 (Yn.e k) := Zh (Yn.p k) mix tyok Try.func76 (Y4.ok k) (by kernel_rfl) (fun a0 => Eq.trans (b := Yn.m k a0 (fun z0 => some z0) (fun aD => Yn.r0 k a0 aD k)) (by kernel_rfl) (congrArg (Yn.m k a0 (fun z0 => some z0)) (funext fun aD => funext fun v => Yn.l0_eq k a0 aD k v) :))
noncomputable def YA.l0 {β : Type} (k : Nat) (aD : LD) (K : Bool → Option β) (L0 : Int → Option β) (v : Int) : Option β :=
 match v with
 | aE => bif (decide ((aE : Int) < (aD.length : Int))) then (atR aD aE [.s, .s] fun x43 x46 => (Yn.f k x43 (fun y47 => bif (!y47) then (K false) else (atR aD aE [.s, .s] fun x51 x54 => (Yn.f k x54 (fun y55 => bif (!y55) then (K false) else (bif (decide ((aE : Int) > 0)) then (atR aD (IntKind.wrap .i64 (aE - 1)) [.s, .s] fun x59 x62 => (atR aD aE [.s, .s] fun x66 x69 => (bif (!(ZbO x59 x66)) then (K false) else (L0 (IntKind.wrap .i64 (aE + 1)))))) else (L0 (IntKind.wrap .i64 (aE + 1)))))))))) else (K (decide (((aD.length : Int) : Int) ≤ 8)))
noncomputable def YA.m {β : Type} (k : Nat) (a0 : LD) (K : Bool → Option β) (F : (LD → Int → Option β)) : Option β :=
 F a0 (0)
noncomputable def YA.g {β : Type} (k : Nat) (a0 : LD) (K : Bool → Option β) : Option β :=
 Zo (YA.l0 k a0 K) k (0)
noncomputable def YA.t (k : Nat) (a0 : LD) : Option (Bool) := YA.g k a0 (fun z0 => some z0)
noncomputable def YA.f {β : Type} (k : Nat) (a0 : LD) (K : Bool → Option β) : Option β := bd1 (YA.t k a0) K
noncomputable def YA.e (k : Nat) : Zk := ent [.d .l] [1] [.b] [4] false (YA.t k)
noncomputable def YA.p (k : Nat) : Pro := ⟨Try.prog, [(76, Yn.e k)], Zn [(2, kp [0, 3])] false [], k⟩
noncomputable def YA.d (k : Nat) (a0 : LD) : Ex → St → Option (Bool) := (YA.p k).fin Try.f94 [.d (.sl a0)] [1] [.b]
noncomputable def YA.s0 (aD : LD) (v : Int) : St :=
 match v with
 | aE => ZX 47 [(0, .d false (.sl aD)), (3, .d true (.int .i64 aE))] []
noncomputable def YA.r0 (k : Nat) (a0 aD : LD) (n : Nat) (v : Int) : Option (Bool) := (YA.p k).lp (Zt Try.f94) 2 [1, 0, 1, 0] (YA.d k a0) n (YA.s0 aD v)
theorem YA.l0_eq (k : Nat) (a0 aD : LD) : ∀ n v, YA.r0 k a0 aD n v = Zo (YA.l0 k aD (fun z0 => some z0)) n v :=
 Zm (YA.s0 aD) _ fun L0 v => by kernel_rfl
theorem YA.ok (k : Nat) : Za Try.prog 94 (YA.e k) := Zh (YA.p k) mix tyok Try.func94 (Yn.ok k) (by kernel_rfl) (fun a0 => Eq.trans (b := YA.m k a0 (fun z0 => some z0) (fun aD => YA.r0 k a0 aD k)) (by kernel_rfl) (congrArg (YA.m k a0 (fun z0 => some z0)) (funext fun aD => funext fun v => YA.l0_eq k a0 aD k v) :))
noncomputable def Yax.g {β : Type} (k : Nat) (a0 : LD) (K : LC → Option β) : Option β :=
 Zc (ZaZ 2 a0) (Zc (([] : LC).length + (a0.map (·.map C.d)).length ≤ ZN) (K (([] : LC) ++ (a0.map (·.map C.d)))))
noncomputable def Yax.t (k : Nat) (a0 : LD) : Option (LC) := Yax.g k a0 (fun z0 => some z0)
noncomputable def Yax.f {β : Type} (k : Nat) (a0 : LD) (K : LC → Option β) : Option β := bd1 (Yax.t k a0) K
noncomputable def Yax.e (k : Nat) : Zk := ent [.d .l] [1] [.o] [45] false (Yax.t k)
noncomputable def Yax.p (k : Nat) : Pro := ⟨Try.prog, [], Zn [] false [], k⟩
theorem Yax.ok (k : Nat) : Za Try.prog 245 (Yax.e k) := Zh (Yax.p k) mix tyok Try.func245 trivial (by kernel_rfl) (fun a0 => by show _ = _; kernel_rfl)
noncomputable def YT.l1 {β : Type} (k : Nat) (aO : LD) (aL aN : BA) (K : LC → Bool → Option β) (L1 : (Bool × Int × LC) → Option β) (v : Bool × Int × LC) : Option β :=
 match v with
 | (aW, aM, aV) => let J0 := (aV.length + ([[.d (.str aL), .d (.str aN)]] : LC).length ≤ ZN); let J1 := (aV ++ ([[.d (.str aL), .d (.str aN)]] : LC)); bif (decide ((aM : Int) < (aO.length : Int))) then (bif (!aW) then (atR aO aM [.s, .s] fun x227 x230 => (bif (!(ZbO x227 aL)) then (Zc J0 (atR aO aM [.s, .s] fun x234 x237 => (bif (!(Zae x234 aL)) then (atR aO aM [.s, .s] fun x241 x244 => (Zc (J1.length + ([[.d (.str x241), .d (.str x244)]] : LC).length ≤ ZN) (L1 (true, IntKind.wrap .i64 (aM + 1), J1 ++ ([[.d (.str x241), .d (.str x244)]] : LC))))) else (L1 (true, IntKind.wrap .i64 (aM + 1), aV ++ ([[.d (.str aL), .d (.str aN)]] : LC)))))) else (atR aO aM [.s, .s] fun x248 x251 => (bif (!(Zae x248 aL)) then (atR aO aM [.s, .s] fun x255 x258 => (Zc (aV.length + ([[.d (.str x255), .d (.str x258)]] : LC).length ≤ ZN) (L1 (aW, IntKind.wrap .i64 (aM + 1), aV ++ ([[.d (.str x255), .d (.str x258)]] : LC))))) else (L1 (aW, IntKind.wrap .i64 (aM + 1), aV)))))) else (atR aO aM [.s, .s] fun x262 x265 => (bif (!(Zae x262 aL)) then (atR aO aM [.s, .s] fun x269 x272 => (Zc (aV.length + ([[.d (.str x269), .d (.str x272)]] : LC).length ≤ ZN) (L1 (aW, IntKind.wrap .i64 (aM + 1), aV ++ ([[.d (.str x269), .d (.str x272)]] : LC))))) else (L1 (aW, IntKind.wrap .i64 (aM + 1), aV))))) else (bif (!aW) then (Zc J0 (K J1 true)) else (K aV true))
noncomputable def YT.l0 {β : Type} (k : Nat) (aD : LD) (aE aF : BA) (K : LC → Bool → Option β) (L0 : (Bool × Int × LC) → Option β) (v : Bool × Int × LC) : Option β :=
 match v with
 | (aG, aI, aJ) => let J0 := (aJ.length + ([[.d (.str aE), .d (.str aF)]] : LC).length ≤ ZN); let J1 := (aJ ++ ([[.d (.str aE), .d (.str aF)]] : LC)); bif (decide ((aI : Int) < (aD.length : Int))) then (bif (!aG) then (atR aD aI [.s, .s] fun x129 x132 => (bif (!(ZbO x129 aE)) then (Zc J0 (atR aD aI [.s, .s] fun x136 x139 => (bif (!(Zae x136 aE)) then (atR aD aI [.s, .s] fun x143 x146 => (Zc (J1.length + ([[.d (.str x143), .d (.str x146)]] : LC).length ≤ ZN) (L0 (true, IntKind.wrap .i64 (aI + 1), J1 ++ ([[.d (.str x143), .d (.str x146)]] : LC))))) else (L0 (true, IntKind.wrap .i64 (aI + 1), aJ ++ ([[.d (.str aE), .d (.str aF)]] : LC)))))) else (atR aD aI [.s, .s] fun x150 x153 => (bif (!(Zae x150 aE)) then (atR aD aI [.s, .s] fun x157 x160 => (Zc (aJ.length + ([[.d (.str x157), .d (.str x160)]] : LC).length ≤ ZN) (L0 (aG, IntKind.wrap .i64 (aI + 1), aJ ++ ([[.d (.str x157), .d (.str x160)]] : LC))))) else (L0 (aG, IntKind.wrap .i64 (aI + 1), aJ)))))) else (atR aD aI [.s, .s] fun x164 x167 => (bif (!(Zae x164 aE)) then (atR aD aI [.s, .s] fun x171 x174 => (Zc (aJ.length + ([[.d (.str x171), .d (.str x174)]] : LC).length ≤ ZN) (L0 (aG, IntKind.wrap .i64 (aI + 1), aJ ++ ([[.d (.str x171), .d (.str x174)]] : LC))))) else (L0 (aG, IntKind.wrap .i64 (aI + 1), aJ))))) else (bif (!aG) then (Zc J0 (K J1 true)) else (K aJ true))
noncomputable def YT.m {β : Type} (k : Nat) (a0 : LD) (a1 a2 : BA) (K : LC → Bool → Option β) (F : (LD → BA → BA → (Bool × Int × LC) → Option β) × (LD → BA → BA → (Bool × Int × LC) → Option β)) : Option β :=
 Yx.f k a0 a1 (fun y29 y30 => YA.f k a0 (fun y70 => bif (!y70) then (Yax.f k a0 (fun y71 => K y71 false)) else (Yn.f k a1 (fun y72 => bif (!y72) then (Yax.f k a0 (fun y73 => K y73 false)) else (Yn.f k a2 (fun y74 => bif (!y74) then (Yax.f k a0 (fun y75 => K y75 false)) else (bif (!y30) then (bif (((a0.length : Int) : Int) == 8) then (Yax.f k a0 (fun y76 => K y76 false)) else (F.1 a0 a1 a2 (false, 0, ([] : LC)))) else (F.2 a0 a1 a2 (false, 0, ([] : LC))))))))))
noncomputable def YT.g {β : Type} (k : Nat) (a0 : LD) (a1 a2 : BA) (K : LC → Bool → Option β) : Option β := YT.m k a0 a1 a2 K ((fun aD aE aF => Zo (YT.l0 k aD aE aF K) k), (fun aO aL aN => Zo (YT.l1 k aO aL aN K) k))
noncomputable def YT.t (k : Nat) (a0 : LD) (a1 a2 : BA) : Option (LC × Bool) := YT.g k a0 a1 a2 (fun z0 z1 => some (z0, z1))
noncomputable def YT.f {β : Type} (k : Nat) (a0 : LD) (a1 a2 : BA) (K : LC → Bool → Option β) : Option β := bd2 (YT.t k a0 a1 a2) K
noncomputable def YT.e (k : Nat) : Zk := ent [.d .l, .d .s, .d .s] [1, 1] [.o, .b] [45, 4] false (YT.t k)
noncomputable def YT.p (k : Nat) : Pro := ⟨Try.prog, [(158, Yx.e k), (94, YA.e k), (245, Yax.e k), (76, Yn.e k)], Zn [(7, kp [0, 1, 2, 10, 11, 12])] false [], k⟩
noncomputable def YT.d (k : Nat) (a0 : LD) (a1 a2 : BA) : Ex → St → Option (LC × Bool) := (YT.p k).fin Try.f211 [.d (.sl a0), .d (.str a1), .d (.str a2)] [1, 1] [.o, .b]
noncomputable def YT.s0 (aD : LD) (aE aF : BA) (v : Bool × Int × LC) : St :=
 match v with
 | (aG, aI, aJ) => ZX 90 [(0, .d false (.sl aD)), (1, .d false (.str aE)), (2, .d false (.str aF)), (10, .row 0), (11, .d true (.bool aG)), (12, .d true (.int .i64 aI))] [.row none true 45 aJ]
noncomputable def YT.r0 (k : Nat) (a0 : LD) (a1 a2 : BA) (aD : LD) (aE aF : BA) (n : Nat) (v : Bool × Int × LC) : Option (LC × Bool) := (YT.p k).lp (Zt Try.f211) 7 [1, 1, 1, 1, 1, 0, 1, 0] (YT.d k a0 a1 a2) n (YT.s0 aD aE aF v)
noncomputable def YT.s1 (aO : LD) (aL aN : BA) (v : Bool × Int × LC) : St :=
 match v with
 | (aW, aM, aV) => ZX 90 [(0, .d false (.sl aO)), (1, .d false (.str aL)), (2, .d false (.str aN)), (10, .row 0), (11, .d true (.bool aW)), (12, .d true (.int .i64 aM))] [.row none true 45 aV]
noncomputable def YT.r1 (k : Nat) (a0 : LD) (a1 a2 : BA) (aO : LD) (aL aN : BA) (n : Nat) (v : Bool × Int × LC) : Option (LC × Bool) := (YT.p k).lp (Zt Try.f211) 7 [1, 1, 1, 1, 1, 0, 1, 0] (YT.d k a0 a1 a2) n (YT.s1 aO aL aN v)
theorem YT.l1_eq (k : Nat) (a0 : LD) (a1 a2 : BA) (aO : LD) (aL aN : BA) : ∀ n v, YT.r1 k a0 a1 a2 aO aL aN n v = Zo (YT.l1 k aO aL aN (fun z0 z1 => some (z0, z1))) n v :=
 Zm (YT.s1 aO aL aN) _ fun L1 v => by obtain ⟨aW, aM, aV⟩ := v; kernel_rfl
theorem YT.l0_eq (k : Nat) (a0 : LD) (a1 a2 : BA) (aD : LD) (aE aF : BA) : ∀ n v, YT.r0 k a0 a1 a2 aD aE aF n v = Zo (YT.l0 k aD aE aF (fun z0 z1 => some (z0, z1))) n v :=
 Zm (YT.s0 aD aE aF) _ fun L0 v => by obtain ⟨aG, aI, aJ⟩ := v; kernel_rfl
theorem YT.ok (k : Nat) : Za Try.prog 211 (YT.e k) := Zh (YT.p k) mix tyok Try.func211 ⟨Yx.ok k, YA.ok k, Yax.ok k, Yn.ok k⟩ (by kernel_rfl) (fun a0 a1 a2 => Eq.trans (b := YT.m k a0 a1 a2 (fun z0 z1 => some (z0, z1)) ((fun aD aE aF => YT.r0 k a0 a1 a2 aD aE aF k), (fun aO aL aN => YT.r1 k a0 a1 a2 aO aL aN k))) (by kernel_rfl) (congrArg (YT.m k a0 a1 a2 (fun z0 z1 => some (z0, z1))) (pair_eq (funext fun aD => funext fun aE => funext fun aF => funext fun v => YT.l0_eq k a0 a1 a2 aD aE aF k v) (funext fun aO => funext fun aL => funext fun aN => funext fun v => YT.l1_eq k a0 a1 a2 aO aL aN k v)) :))
noncomputable def Y7.l0 {β : Type} (k : Nat) (K : LC → LD → Int → Int → Option β) (L0 : (Int × LD × Int × Int × LC) → Option β) (v : Int × LD × Int × Int × LC) : Option β :=
 match v with
 | (aD, aE, aF, aG, aI) => bif (decide ((aD : Int) > 0)) then (Yaj.f k aE aF aG (fun y275 y276 y277 y278 => Yaj.f k y276 y277 y278 (fun y279 y280 y281 y282 => YT.f k (C.immRows aI) y275 y279 (fun y283 y284 => L0 (IntKind.wrap .i64 (aD - 1), y280, y281, y282, y283))))) else (K aI aE aF aG)
noncomputable def Y7.m {β : Type} (k : Nat) (aB : LD) (aC aA a1 : Int) (K : LC → LD → Int → Int → Option β) (F : ((Int × LD × Int × Int × LC) → Option β)) : Option β :=
 YL.f k aB aC aA a1 (fun y1 y2 y3 y4 => F (y1, y2, y3, y4, ([] : LC)))
noncomputable def Y7.g {β : Type} (k : Nat) (aB : LD) (aC aA a1 : Int) (K : LC → LD → Int → Int → Option β) : Option β :=
 YL.f k aB aC aA a1 (fun y1 y2 y3 y4 => Zo (Y7.l0 k K) k (y1, y2, y3, y4, ([] : LC)))
noncomputable def Y7.t (k : Nat) (aB : LD) (aC aA a1 : Int) : Option (LC × LD × Int × Int) := Y7.g k aB aC aA a1 (fun z0 z1 z2 z3 => some (z0, z1, z2, z3))
noncomputable def Y7.f {β : Type} (k : Nat) (aB : LD) (aC aA a1 : Int) (K : LC → LD → Int → Int → Option β) : Option β := bd4 (Y7.t k aB aC aA a1) K
noncomputable def Y7.e (k : Nat) : Zk := ent [.box 178 [.l, .n, .n], .d .n] [1] [.o, .l, .n, .n] [45] false (Y7.t k)
noncomputable def Y7.p (k : Nat) : Pro := ⟨Try.prog, [(112, YL.e k), (84, Yaj.e k), (211, YT.e k)], Zn [(3, kp [0, 5, 6])] false [], k⟩
noncomputable def Y7.d (k : Nat) (aB : LD) (aC aA a1 : Int) : Ex → St → Option (LC × LD × Int × Int) := (Y7.p k).fin Try.f157 [.box [.d (.sl aB), .d (.int .i64 aC), .d (.int .i64 aA)], .d (.int .i64 a1)] [1] [.o, .l, .n, .n]
noncomputable def Y7.s0 (v : Int × LD × Int × Int × LC) : St :=
 match v with
 | (aD, aE, aF, aG, aI) => ZX 25 [(0, .bp 0 0), (5, .row 1), (6, .d true (.int .i64 aD))] [.box (some 0) 178 [.d false (.sl aE), .d false (.int .i64 aF), .d false (.int .i64 aG)], .row none true 45 aI]
noncomputable def Y7.r0 (k : Nat) (aB : LD) (aC aA a1 : Int) (n : Nat) (v : Int × LD × Int × Int × LC) : Option (LC × LD × Int × Int) := (Y7.p k).lp (Zt Try.f157) 3 [1, 1, 0, 1, 0] (Y7.d k aB aC aA a1) n (Y7.s0 v)
theorem Y7.l0_eq (k : Nat) (aB : LD) (aC aA a1 : Int) : ∀ n v, Y7.r0 k aB aC aA a1 n v = Zo (Y7.l0 k (fun z0 z1 z2 z3 => some (z0, z1, z2, z3))) n v :=
 Zm (Y7.s0) _ fun L0 v => by obtain ⟨aD, aE, aF, aG, aI⟩ := v; kernel_rfl
theorem Y7.ok (k : Nat) : Za Try.prog 157 (Y7.e k) := Zh (Y7.p k) mix tyok Try.func157 ⟨YL.ok k, Yaj.ok k, YT.ok k⟩ (by kernel_rfl) (fun aB aC aA a1 => Eq.trans (b := Y7.m k aB aC aA a1 (fun z0 z1 z2 z3 => some (z0, z1, z2, z3)) (Y7.r0 k aB aC aA a1 k)) (by kernel_rfl) (congrArg (Y7.m k aB aC aA a1 (fun z0 z1 z2 z3 => some (z0, z1, z2, z3))) (funext fun v => Y7.l0_eq k aB aC aA a1 k v) :))
noncomputable def YK.l1 {β : Type} (k : Nat) (aL : LD) (aN aW aM : Int) (aV : BA) (aY : Int) (bB : BA) (bH : LC) (K : Int → BA → LC → LD → Int → Int → Option β) (L1 : (Int × LC) → Option β) (v : Int × LC) : Option β :=
 match v with
 | (aO, v1_9) => bif (decide ((aO : Int) < (bH.length : Int))) then (Zc ((0 : Int) ≤ aO ∧ aO < (bH.length : Int)) (ZaG bH (Int.toNat aO) fun c40 => Zas (c40.drop 0) fun c41 r => cD c41 fun d => dStr d fun x44 => Zc (v1_9.length + ([[.d (.str x44)]] : LC).length ≤ ZN) (L1 (IntKind.wrap .i64 (aO + 1), v1_9 ++ ([[.d (.str x44)]] : LC))))) else (bif (((v1_9.length : Int) : Int) == 0) then (K aY bB ([[.d (.str (⟨#[97]⟩ : BA))]] : LC) aL aN aW) else (K aY bB v1_9 aL aN aW))
noncomputable def YK.l0 {β : Type} (k : Nat) (aE : LD) (aF aG aI : Int) (aJ : BA) (aR : Int) (aZ : BA) (bE : LC) (K : Int → BA → LC → LD → Int → Int → Option β) (L0 : (Int × LC) → Option β) (v : Int × LC) : Option β :=
 match v with
 | (aD, v0_9) => bif (decide ((aD : Int) < (bE.length : Int))) then (Zc ((0 : Int) ≤ aD ∧ aD < (bE.length : Int)) (ZaG bE (Int.toNat aD) fun c22 => Zas (c22.drop 0) fun c23 r => cD c23 fun d => dStr d fun x26 => Zc (v0_9.length + ([[.d (.str x26)]] : LC).length ≤ ZN) (L0 (IntKind.wrap .i64 (aD + 1), v0_9 ++ ([[.d (.str x26)]] : LC))))) else (bif (((v0_9.length : Int) : Int) == 0) then (K aR aZ ([[.d (.str (⟨#[97]⟩ : BA))]] : LC) aE aF aG) else (K aR aZ v0_9 aE aF aG))
noncomputable def YK.m {β : Type} (k : Nat) (aB : LD) (aC aA : Int) (K : Int → BA → LC → LD → Int → Int → Option β) (F : (LD → Int → Int → Int → BA → Int → BA → LC → (Int × LC) → Option β) × (LD → Int → Int → Int → BA → Int → BA → LC → (Int × LC) → Option β)) : Option β :=
 YL.f k aB aC aA 5 (fun y1 y2 y3 y4 => Yaj.f k y2 y3 y4 (fun y5 y6 y7 y8 => let J0 := (K (IntKind.wrap .i64 (1 + y1)) y5 ([] : LC) y6 y7 y8); bif (((IntKind.wrap .i64 (1 + y1)) : Int) == 1) then (bif (((IntKind.wrap .i64 (1 + y1)) : Int) == 1) then (Yaj.f k y6 y7 y8 (fun y9 y10 y11 y12 => K (IntKind.wrap .i64 (1 + y1)) y5 ([[.d (.str y9)]] : LC) y10 y11 y12)) else (bif (((IntKind.wrap .i64 (1 + y1)) : Int) == 3) then (Y7.f k y6 y7 y8 5 (fun y13 y14 y15 y16 => F.1 y14 y15 y16 0 (⟨#[]⟩ : BA) (IntKind.wrap .i64 (1 + y1)) y5 y13 (0, ([] : LC)))) else J0)) else (bif (((IntKind.wrap .i64 (1 + y1)) : Int) == 2) then (Yaj.f k y6 y7 y8 (fun y27 y28 y29 y30 => K (IntKind.wrap .i64 (1 + y1)) y5 ([[.d (.str y27)]] : LC) y28 y29 y30)) else (bif (((IntKind.wrap .i64 (1 + y1)) : Int) == 3) then (Y7.f k y6 y7 y8 5 (fun y31 y32 y33 y34 => F.2 y32 y33 y34 0 (⟨#[]⟩ : BA) (IntKind.wrap .i64 (1 + y1)) y5 y31 (0, ([] : LC)))) else J0))))
noncomputable def YK.g {β : Type} (k : Nat) (aB : LD) (aC aA : Int) (K : Int → BA → LC → LD → Int → Int → Option β) : Option β := YK.m k aB aC aA K ((fun aE aF aG aI aJ aR aZ bE => Zo (YK.l0 k aE aF aG aI aJ aR aZ bE K) k), (fun aL aN aW aM aV aY bB bH => Zo (YK.l1 k aL aN aW aM aV aY bB bH K) k))
noncomputable def YK.t (k : Nat) (aB : LD) (aC aA : Int) : Option (Int × BA × LC × LD × Int × Int) := YK.g k aB aC aA (fun z0 z1 z2 z3 z4 z5 => some (z0, z1, z2, z3, z4, z5))
noncomputable def YK.f {β : Type} (k : Nat) (aB : LD) (aC aA : Int) (K : Int → BA → LC → LD → Int → Int → Option β) : Option β := match YK.t k aB aC aA with | some (z0, z1, z2, z3, z4, z5) => K z0 z1 z2 z3 z4 z5 | none => none
noncomputable def YK.e (k : Nat) : Zk := ent [.box 178 [.l, .n, .n]] [3] [.n, .s, .o, .l, .n, .n] [135] false (YK.t k)
noncomputable def YK.p (k : Nat) : Pro := ⟨Try.prog, [(112, YL.e k), (84, Yaj.e k), (157, Y7.e k)], Zn [(9, kp [2, 3, 4, 5] [] [(3, 2, .row true 25)])] false [], k⟩
noncomputable def YK.d (k : Nat) (aB : LD) (aC aA : Int) : Ex → St → Option (Int × BA × LC × LD × Int × Int) := (YK.p k).fin Try.f210 [.box [.d (.sl aB), .d (.int .i64 aC), .d (.int .i64 aA)]] [3] [.n, .s, .o, .l, .n, .n]
noncomputable def YK.s0 (aE : LD) (aF aG aI : Int) (aJ : BA) (aR : Int) (aZ : BA) (bE : LC) (v : Int × LC) : St :=
 match v with
 | (aD, v0_9) => ZX 48 [(2, .bp 1 0), (3, .bp 2 0), (4, .row 3), (5, .d true (.int .i64 aD))] [.box (some 0) 178 [.d false (.sl aE), .d false (.int .i64 aF), .d false (.int .i64 aG)], .box none 135 [.d true (.int .i64 aI), .d true (.str aJ), .nil], .box none 135 [.d true (.int .i64 aR), .d true (.str aZ), .row 4], .row none true 45 bE, .row none true 25 v0_9]
noncomputable def YK.r0 (k : Nat) (aB : LD) (aC aA : Int) (aE : LD) (aF aG aI : Int) (aJ : BA) (aR : Int) (aZ : BA) (bE : LC) (n : Nat) (v : Int × LC) : Option (Int × BA × LC × LD × Int × Int) := (YK.p k).lp (Zt Try.f210) 9 [1, 1, 0, 1, 0, 1, 1, 1, 0, 1, 0, 1, 0] (YK.d k aB aC aA) n (YK.s0 aE aF aG aI aJ aR aZ bE v)
noncomputable def YK.s1 (aL : LD) (aN aW aM : Int) (aV : BA) (aY : Int) (bB : BA) (bH : LC) (v : Int × LC) : St :=
 match v with
 | (aO, v1_9) => ZX 48 [(2, .bp 1 0), (3, .bp 2 0), (4, .row 3), (5, .d true (.int .i64 aO))] [.box (some 0) 178 [.d false (.sl aL), .d false (.int .i64 aN), .d false (.int .i64 aW)], .box none 135 [.d true (.int .i64 aM), .d true (.str aV), .nil], .box none 135 [.d true (.int .i64 aY), .d true (.str bB), .row 4], .row none true 45 bH, .row none true 25 v1_9]
noncomputable def YK.r1 (k : Nat) (aB : LD) (aC aA : Int) (aL : LD) (aN aW aM : Int) (aV : BA) (aY : Int) (bB : BA) (bH : LC) (n : Nat) (v : Int × LC) : Option (Int × BA × LC × LD × Int × Int) := (YK.p k).lp (Zt Try.f210) 9 [1, 1, 0, 1, 0, 1, 1, 1, 0, 1, 0, 1, 0] (YK.d k aB aC aA) n (YK.s1 aL aN aW aM aV aY bB bH v)
theorem YK.l1_eq (k : Nat) (aB : LD) (aC aA : Int) (aL : LD) (aN aW aM : Int) (aV : BA) (aY : Int) (bB : BA) (bH : LC) : ∀ n v, YK.r1 k aB aC aA aL aN aW aM aV aY bB bH n v = Zo (YK.l1 k aL aN aW aM aV aY bB bH (fun z0 z1 z2 z3 z4 z5 => some (z0, z1, z2, z3, z4, z5))) n v :=
 Zm (YK.s1 aL aN aW aM aV aY bB bH) _ fun L1 v => by obtain ⟨aO, v1_9⟩ := v; kernel_rfl
theorem YK.l0_eq (k : Nat) (aB : LD) (aC aA : Int) (aE : LD) (aF aG aI : Int) (aJ : BA) (aR : Int) (aZ : BA) (bE : LC) : ∀ n v, YK.r0 k aB aC aA aE aF aG aI aJ aR aZ bE n v = Zo (YK.l0 k aE aF aG aI aJ aR aZ bE (fun z0 z1 z2 z3 z4 z5 => some (z0, z1, z2, z3, z4, z5))) n v :=
 Zm (YK.s0 aE aF aG aI aJ aR aZ bE) _ fun L0 v => by obtain ⟨aD, v0_9⟩ := v; kernel_rfl
theorem YK.ok (k : Nat) : Za Try.prog 210 (YK.e k) := Zh (YK.p k) mix tyok Try.func210 ⟨YL.ok k, Yaj.ok k, Y7.ok k⟩ (by kernel_rfl) (fun aB aC aA => Eq.trans (b := YK.m k aB aC aA (fun z0 z1 z2 z3 z4 z5 => some (z0, z1, z2, z3, z4, z5)) ((fun aE aF aG aI aJ aR aZ bE => YK.r0 k aB aC aA aE aF aG aI aJ aR aZ bE k), (fun aL aN aW aM aV aY bB bH => YK.r1 k aB aC aA aL aN aW aM aV aY bB bH k))) (by kernel_rfl) (congrArg (YK.m k aB aC aA (fun z0 z1 z2 z3 z4 z5 => some (z0, z1, z2, z3, z4, z5))) (pair_eq (funext fun aE => funext fun aF => funext fun aG => funext fun aI => funext fun aJ => funext fun aR => funext fun aZ => funext fun bE => funext fun v => YK.l0_eq k aB aC aA aE aF aG aI aJ aR aZ bE k v) (funext fun aL => funext fun aN => funext fun aW => funext fun aM => funext fun aV => funext fun aY => funext fun bB => funext fun bH => funext fun v => YK.l1_eq k aB aC aA aL aN aW aM aV aY bB bH k v)) :))
noncomputable def Y9.l0 {β : Type} (k : Nat) (K : LC → LD → Int → Int → Option β) (L0 : (Int × LD × Int × Int × LC) → Option β) (v : Int × LD × Int × Int × LC) : Option β :=
 match v with
 | (aD, aE, aF, aG, aI) => bif (decide ((aD : Int) > 0)) then (YK.f k aE aF aG (fun y51 y52 y53 y54 y55 y56 => Zc (aI.length + ([[.d (.int .i64 y51), .d (.str y52), .own y53]] : LC).length ≤ ZN) (L0 (IntKind.wrap .i64 (aD - 1), y54, y55, y56, aI ++ ([[.d (.int .i64 y51), .d (.str y52), .own y53]] : LC))))) else (K aI aE aF aG)
noncomputable def Y9.m {β : Type} (k : Nat) (aB : LD) (aC aA a1 : Int) (K : LC → LD → Int → Int → Option β) (F : ((Int × LD × Int × Int × LC) → Option β)) : Option β :=
 YL.f k aB aC aA a1 (fun y1 y2 y3 y4 => F (y1, y2, y3, y4, ([] : LC)))
noncomputable def Y9.g {β : Type} (k : Nat) (aB : LD) (aC aA a1 : Int) (K : LC → LD → Int → Int → Option β) : Option β :=
 YL.f k aB aC aA a1 (fun y1 y2 y3 y4 => Zo (Y9.l0 k K) k (y1, y2, y3, y4, ([] : LC)))
noncomputable def Y9.t (k : Nat) (aB : LD) (aC aA a1 : Int) : Option (LC × LD × Int × Int) := Y9.g k aB aC aA a1 (fun z0 z1 z2 z3 => some (z0, z1, z2, z3))
noncomputable def Y9.f {β : Type} (k : Nat) (aB : LD) (aC aA a1 : Int) (K : LC → LD → Int → Int → Option β) : Option β := bd4 (Y9.t k aB aC aA a1) K
noncomputable def Y9.e (k : Nat) : Zk := ent [.box 178 [.l, .n, .n], .d .n] [1] [.o, .l, .n, .n] [41] false (Y9.t k)
noncomputable def Y9.p (k : Nat) : Pro := ⟨Try.prog, [(112, YL.e k), (210, YK.e k)], Zn [(3, kp [0, 5, 6])] false [], k⟩
noncomputable def Y9.d (k : Nat) (aB : LD) (aC aA a1 : Int) : Ex → St → Option (LC × LD × Int × Int) := (Y9.p k).fin Try.f154 [.box [.d (.sl aB), .d (.int .i64 aC), .d (.int .i64 aA)], .d (.int .i64 a1)] [1] [.o, .l, .n, .n]
noncomputable def Y9.s0 (v : Int × LD × Int × Int × LC) : St :=
 match v with
 | (aD, aE, aF, aG, aI) => ZX 21 [(0, .bp 0 0), (5, .row 1), (6, .d true (.int .i64 aD))] [.box (some 0) 178 [.d false (.sl aE), .d false (.int .i64 aF), .d false (.int .i64 aG)], .row none true 41 aI]
noncomputable def Y9.r0 (k : Nat) (aB : LD) (aC aA a1 : Int) (n : Nat) (v : Int × LD × Int × Int × LC) : Option (LC × LD × Int × Int) := (Y9.p k).lp (Zt Try.f154) 3 [1, 1, 0, 1, 0] (Y9.d k aB aC aA a1) n (Y9.s0 v)
theorem Y9.l0_eq (k : Nat) (aB : LD) (aC aA a1 : Int) : ∀ n v, Y9.r0 k aB aC aA a1 n v = Zo (Y9.l0 k (fun z0 z1 z2 z3 => some (z0, z1, z2, z3))) n v :=
 Zm (Y9.s0) _ fun L0 v => by obtain ⟨aD, aE, aF, aG, aI⟩ := v; kernel_rfl
theorem Y9.ok (k : Nat) : Za Try.prog 154 (Y9.e k) := Zh (Y9.p k) mix tyok Try.func154 ⟨YL.ok k, YK.ok k⟩ (by kernel_rfl) (fun aB aC aA a1 => Eq.trans (b := Y9.m k aB aC aA a1 (fun z0 z1 z2 z3 => some (z0, z1, z2, z3)) (Y9.r0 k aB aC aA a1 k)) (by kernel_rfl) (congrArg (Y9.m k aB aC aA a1 (fun z0 z1 z2 z3 => some (z0, z1, z2, z3))) (funext fun v => Y9.l0_eq k aB aC aA a1 k v) :))
noncomputable def YD.l3 {β : Type} (k : Nat) (v3_4 v3_5 : Int) (v3_6 : LC) (K : Int → LC → LC → LC → LD → Int → Int → Option β) (L3 : (Int × LD × Int × Int × LC) → Option β) (v : Int × LD × Int × Int × LC) : Option β :=
 match v with
 | (bI, bQ, bY, bZ, v3_7) => bif (decide ((bI : Int) < 4)) then (YZ.f k bQ bY bZ 3 (fun y112 y113 y114 y115 => bif y112 then (Zc ((0 : Int) ≤ bI ∧ bI < (v3_6.length : Int)) (ZaG v3_6 (Int.toNat bI) fun c116 => Zas (c116.drop 0) fun c117 r => cD c117 fun d => dStr d fun x120 => Yah.f k y113 y114 y115 ([[.int .i64 0], [.int .i64 1], [.int .i64 2], [.int .i64 3], [.int .i64 10]] : LD) (fun y121 y122 y123 y124 => Zc (v3_7.length + ([[.d (.str x120), .d (.int .i64 y121)]] : LC).length ≤ ZN) (L3 (IntKind.wrap .i64 (bI + 1), y122, y123, y124, v3_7 ++ ([[.d (.str x120), .d (.int .i64 y121)]] : LC)))))) else (L3 (IntKind.wrap .i64 (bI + 1), y113, y114, y115, v3_7)))) else (K v3_5 ([] : LC) ([] : LC) v3_7 bQ bY bZ)
noncomputable def YD.l2 {β : Type} (k : Nat) (aU aP : Int) (aX bA : LC) (K : Int → LC → LC → LC → LD → Int → Int → Option β) (L2 : (Int × LD × Int × Int × LC) → Option β) (v : Int × LD × Int × Int × LC) : Option β :=
 match v with
 | (aT, aQ, aS, aK, bL) => bif (decide ((aT : Int) < 4)) then (YZ.f k aQ aS aK 3 (fun y86 y87 y88 y89 => bif y86 then (Zc ((0 : Int) ≤ aT ∧ aT < (aX.length : Int)) (ZaG aX (Int.toNat aT) fun c90 => Zas (c90.drop 0) fun c91 r => cD c91 fun d => dStr d fun x94 => Yah.f k y87 y88 y89 ([[.int .i64 0], [.int .i64 1], [.int .i64 2], [.int .i64 3], [.int .i64 10]] : LD) (fun y95 y96 y97 y98 => Zc (bL.length + ([[.d (.str x94), .d (.int .i64 y95)]] : LC).length ≤ ZN) (L2 (IntKind.wrap .i64 (aT + 1), y96, y97, y98, bL ++ ([[.d (.str x94), .d (.int .i64 y95)]] : LC)))))) else (L2 (IntKind.wrap .i64 (aT + 1), y87, y88, y89, bL)))) else (K aP ([] : LC) bA bL aQ aS aK)
noncomputable def YD.l1 {β : Type} (k : Nat) (aM aV : Int) (aY bB : LC) (K : Int → LC → LC → LC → LD → Int → Int → Option β) (L1 : (Int × LD × Int × Int × LC) → Option β) (v : Int × LD × Int × Int × LC) : Option β :=
 match v with
 | (aO, aL, aN, aW, bH) => bif (decide ((aO : Int) < 4)) then (YZ.f k aL aN aW 3 (fun y56 y57 y58 y59 => bif y56 then (Zc ((0 : Int) ≤ aO ∧ aO < (aY.length : Int)) (ZaG aY (Int.toNat aO) fun c60 => Zas (c60.drop 0) fun c61 r => cD c61 fun d => dStr d fun x64 => Yah.f k y57 y58 y59 ([[.int .i64 0], [.int .i64 1], [.int .i64 2], [.int .i64 3], [.int .i64 10]] : LD) (fun y65 y66 y67 y68 => Zc (bH.length + ([[.d (.str x64), .d (.int .i64 y65)]] : LC).length ≤ ZN) (L1 (IntKind.wrap .i64 (aO + 1), y66, y67, y68, bH ++ ([[.d (.str x64), .d (.int .i64 y65)]] : LC)))))) else (L1 (IntKind.wrap .i64 (aO + 1), y57, y58, y59, bH)))) else (K aV bB ([] : LC) bH aL aN aW)
noncomputable def YD.l0 {β : Type} (k : Nat) (aI aJ : Int) (aR aZ bE : LC) (K : Int → LC → LC → LC → LD → Int → Int → Option β) (L0 : (Int × LD × Int × Int × LC) → Option β) (v : Int × LD × Int × Int × LC) : Option β :=
 match v with
 | (aD, aE, aF, aG, v0_9) => bif (decide ((aD : Int) < 4)) then (YZ.f k aE aF aG 3 (fun y30 y31 y32 y33 => bif y30 then (Zc ((0 : Int) ≤ aD ∧ aD < (aR.length : Int)) (ZaG aR (Int.toNat aD) fun c34 => Zas (c34.drop 0) fun c35 r => cD c35 fun d => dStr d fun x38 => Yah.f k y31 y32 y33 ([[.int .i64 0], [.int .i64 1], [.int .i64 2], [.int .i64 3], [.int .i64 10]] : LD) (fun y39 y40 y41 y42 => Zc (v0_9.length + ([[.d (.str x38), .d (.int .i64 y39)]] : LC).length ≤ ZN) (L0 (IntKind.wrap .i64 (aD + 1), y40, y41, y42, v0_9 ++ ([[.d (.str x38), .d (.int .i64 y39)]] : LC)))))) else (L0 (IntKind.wrap .i64 (aD + 1), y31, y32, y33, v0_9)))) else (K aJ aZ bE v0_9 aE aF aG)
noncomputable def YD.m {β : Type} (k : Nat) (aB : LD) (aC aA : Int) (K : Int → LC → LC → LC → LD → Int → Int → Option β) (F : (Int → Int → LC → LC → LC → (Int × LD × Int × Int × LC) → Option β) × (Int → Int → LC → LC → (Int × LD × Int × Int × LC) → Option β) × (Int → Int → LC → LC → (Int × LD × Int × Int × LC) → Option β) × (Int → Int → LC → (Int × LD × Int × Int × LC) → Option β)) : Option β :=
 Yah.f k aB aC aA ([[.int .i64 0], [.int .i64 1], [.int .i64 2], [.int .i64 3], [.int .i64 5], [.int .i64 7], [.int .i64 12], [.int .i64 30]] : LD) (fun y1 y2 y3 y4 => YZ.f k y2 y3 y4 4 (fun y5 y6 y7 y8 => bif y5 then (Y9.f k y6 y7 y8 2 (fun y9 y10 y11 y12 => YZ.f k y10 y11 y12 2 (fun y13 y14 y15 y16 => bif y13 then (F.1 0 y1 ([[.d (.str (⟨#[97]⟩ : BA))], [.d (.str (⟨#[98]⟩ : BA))], [.d (.str (⟨#[99]⟩ : BA))], [.d (.str (⟨#[100]⟩ : BA))]] : LC) y9 ([[.d (.str (⟨#[103, 111, 108, 100]⟩ : BA))], [.d (.str (⟨#[116, 105, 101, 114]⟩ : BA))]] : LC) (0, y14, y15, y16, ([] : LC))) else (F.2.1 0 y1 ([[.d (.str (⟨#[97]⟩ : BA))], [.d (.str (⟨#[98]⟩ : BA))], [.d (.str (⟨#[99]⟩ : BA))], [.d (.str (⟨#[100]⟩ : BA))]] : LC) y9 (0, y14, y15, y16, ([] : LC)))))) else (YZ.f k y6 y7 y8 2 (fun y69 y70 y71 y72 => bif y69 then (F.2.2.1 0 y1 ([[.d (.str (⟨#[97]⟩ : BA))], [.d (.str (⟨#[98]⟩ : BA))], [.d (.str (⟨#[99]⟩ : BA))], [.d (.str (⟨#[100]⟩ : BA))]] : LC) ([[.d (.str (⟨#[103, 111, 108, 100]⟩ : BA))], [.d (.str (⟨#[116, 105, 101, 114]⟩ : BA))]] : LC) (0, y70, y71, y72, ([] : LC))) else (F.2.2.2 0 y1 ([[.d (.str (⟨#[97]⟩ : BA))], [.d (.str (⟨#[98]⟩ : BA))], [.d (.str (⟨#[99]⟩ : BA))], [.d (.str (⟨#[100]⟩ : BA))]] : LC) (0, y70, y71, y72, ([] : LC)))))))
noncomputable def YD.g {β : Type} (k : Nat) (aB : LD) (aC aA : Int) (K : Int → LC → LC → LC → LD → Int → Int → Option β) : Option β := YD.m k aB aC aA K ((fun aI aJ aR aZ bE => Zo (YD.l0 k aI aJ aR aZ bE K) k), (fun aM aV aY bB => Zo (YD.l1 k aM aV aY bB K) k), (fun aU aP aX bA => Zo (YD.l2 k aU aP aX bA K) k), (fun v3_4 v3_5 v3_6 => Zo (YD.l3 k v3_4 v3_5 v3_6 K) k))
noncomputable def YD.t (k : Nat) (aB : LD) (aC aA : Int) : Option (Int × LC × LC × LC × LD × Int × Int) := YD.g k aB aC aA (fun z0 z1 z2 z3 z4 z5 z6 => some (z0, z1, z2, z3, z4, z5, z6))
noncomputable def YD.f {β : Type} (k : Nat) (aB : LD) (aC aA : Int) (K : Int → LC → LC → LC → LD → Int → Int → Option β) : Option β := match YD.t k aB aC aA with | some (z0, z1, z2, z3, z4, z5, z6) => K z0 z1 z2 z3 z4 z5 z6 | none => none
noncomputable def YD.e (k : Nat) : Zk := ent [.box 178 [.l, .n, .n]] [4] [.n, .o, .o, .o, .l, .n, .n] [44] false (YD.t k)
noncomputable def YD.p (k : Nat) : Pro := ⟨Try.prog, [(118, Yah.e k), (81, YZ.e k), (154, Y9.e k)], Zn [(8, kp [0, 2, 3, 4, 5] [] [(3, 3, .row true 42)])] false [], k⟩
noncomputable def YD.d (k : Nat) (aB : LD) (aC aA : Int) : Ex → St → Option (Int × LC × LC × LC × LD × Int × Int) := (YD.p k).fin Try.f80 [.box [.d (.sl aB), .d (.int .i64 aC), .d (.int .i64 aA)]] [4] [.n, .o, .o, .o, .l, .n, .n]
noncomputable def YD.s0 (aI aJ : Int) (aR aZ bE : LC) (v : Int × LD × Int × Int × LC) : St :=
 match v with
 | (aD, aE, aF, aG, v0_9) => ZX 40 [(0, .bp 0 0), (2, .bp 1 0), (3, .bp 2 0), (4, .row 3), (5, .d true (.int .i64 aD))] [.box (some 0) 178 [.d false (.sl aE), .d false (.int .i64 aF), .d false (.int .i64 aG)], .box none 44 [.d true (.int .i64 aI), .nil, .nil, .nil], .box none 44 [.d true (.int .i64 aJ), .row 4, .row 5, .row 6], .row none true 25 aR, .row none true 41 aZ, .row none true 25 bE, .row none true 42 v0_9]
noncomputable def YD.r0 (k : Nat) (aB : LD) (aC aA aI aJ : Int) (aR aZ bE : LC) (n : Nat) (v : Int × LD × Int × Int × LC) : Option (Int × LC × LC × LC × LD × Int × Int) := (YD.p k).lp (Zt Try.f80) 8 [1, 1, 1, 1, 1, 0, 1, 0] (YD.d k aB aC aA) n (YD.s0 aI aJ aR aZ bE v)
noncomputable def YD.s1 (aM aV : Int) (aY bB : LC) (v : Int × LD × Int × Int × LC) : St :=
 match v with
 | (aO, aL, aN, aW, bH) => ZX 40 [(0, .bp 0 0), (2, .bp 1 0), (3, .bp 2 0), (4, .row 3), (5, .d true (.int .i64 aO))] [.box (some 0) 178 [.d false (.sl aL), .d false (.int .i64 aN), .d false (.int .i64 aW)], .box none 44 [.d true (.int .i64 aM), .nil, .nil, .nil], .box none 44 [.d true (.int .i64 aV), .row 4, .nil, .row 5], .row none true 25 aY, .row none true 41 bB, .row none true 42 bH]
noncomputable def YD.r1 (k : Nat) (aB : LD) (aC aA aM aV : Int) (aY bB : LC) (n : Nat) (v : Int × LD × Int × Int × LC) : Option (Int × LC × LC × LC × LD × Int × Int) := (YD.p k).lp (Zt Try.f80) 8 [1, 1, 1, 1, 1, 0, 1, 0] (YD.d k aB aC aA) n (YD.s1 aM aV aY bB v)
noncomputable def YD.s2 (aU aP : Int) (aX bA : LC) (v : Int × LD × Int × Int × LC) : St :=
 match v with
 | (aT, aQ, aS, aK, bL) => ZX 40 [(0, .bp 0 0), (2, .bp 1 0), (3, .bp 2 0), (4, .row 3), (5, .d true (.int .i64 aT))] [.box (some 0) 178 [.d false (.sl aQ), .d false (.int .i64 aS), .d false (.int .i64 aK)], .box none 44 [.d true (.int .i64 aU), .nil, .nil, .nil], .box none 44 [.d true (.int .i64 aP), .nil, .row 4, .row 5], .row none true 25 aX, .row none true 25 bA, .row none true 42 bL]
noncomputable def YD.r2 (k : Nat) (aB : LD) (aC aA aU aP : Int) (aX bA : LC) (n : Nat) (v : Int × LD × Int × Int × LC) : Option (Int × LC × LC × LC × LD × Int × Int) := (YD.p k).lp (Zt Try.f80) 8 [1, 1, 1, 1, 1, 0, 1, 0] (YD.d k aB aC aA) n (YD.s2 aU aP aX bA v)
noncomputable def YD.s3 (v3_4 v3_5 : Int) (v3_6 : LC) (v : Int × LD × Int × Int × LC) : St :=
 match v with
 | (bI, bQ, bY, bZ, v3_7) => ZX 40 [(0, .bp 0 0), (2, .bp 1 0), (3, .bp 2 0), (4, .row 3), (5, .d true (.int .i64 bI))] [.box (some 0) 178 [.d false (.sl bQ), .d false (.int .i64 bY), .d false (.int .i64 bZ)], .box none 44 [.d true (.int .i64 v3_4), .nil, .nil, .nil], .box none 44 [.d true (.int .i64 v3_5), .nil, .nil, .row 4], .row none true 25 v3_6, .row none true 42 v3_7]
noncomputable def YD.r3 (k : Nat) (aB : LD) (aC aA v3_4 v3_5 : Int) (v3_6 : LC) (n : Nat) (v : Int × LD × Int × Int × LC) : Option (Int × LC × LC × LC × LD × Int × Int) := (YD.p k).lp (Zt Try.f80) 8 [1, 1, 1, 1, 1, 0, 1, 0] (YD.d k aB aC aA) n (YD.s3 v3_4 v3_5 v3_6 v)
theorem YD.l3_eq (k : Nat) (aB : LD) (aC aA v3_4 v3_5 : Int) (v3_6 : LC) : ∀ n v, YD.r3 k aB aC aA v3_4 v3_5 v3_6 n v = Zo (YD.l3 k v3_4 v3_5 v3_6 (fun z0 z1 z2 z3 z4 z5 z6 => some (z0, z1, z2, z3, z4, z5, z6))) n v :=
 Zm (YD.s3 v3_4 v3_5 v3_6) _ fun L3 v => by obtain ⟨bI, bQ, bY, bZ, v3_7⟩ := v; kernel_rfl
theorem YD.l2_eq (k : Nat) (aB : LD) (aC aA aU aP : Int) (aX bA : LC) : ∀ n v, YD.r2 k aB aC aA aU aP aX bA n v = Zo (YD.l2 k aU aP aX bA (fun z0 z1 z2 z3 z4 z5 z6 => some (z0, z1, z2, z3, z4, z5, z6))) n v :=
 Zm (YD.s2 aU aP aX bA) _ fun L2 v => by obtain ⟨aT, aQ, aS, aK, bL⟩ := v; kernel_rfl
theorem YD.l1_eq (k : Nat) (aB : LD) (aC aA aM aV : Int) (aY bB : LC) : ∀ n v, YD.r1 k aB aC aA aM aV aY bB n v = Zo (YD.l1 k aM aV aY bB (fun z0 z1 z2 z3 z4 z5 z6 => some (z0, z1, z2, z3, z4, z5, z6))) n v :=
 Zm (YD.s1 aM aV aY bB) _ fun L1 v => by obtain ⟨aO, aL, aN, aW, bH⟩ := v; kernel_rfl
theorem YD.l0_eq (k : Nat) (aB : LD) (aC aA aI aJ : Int) (aR aZ bE : LC) : ∀ n v, YD.r0 k aB aC aA aI aJ aR aZ bE n v = Zo (YD.l0 k aI aJ aR aZ bE (fun z0 z1 z2 z3 z4 z5 z6 => some (z0, z1, z2, z3, z4, z5, z6))) n v :=
 Zm (YD.s0 aI aJ aR aZ bE) _ fun L0 v => by obtain ⟨aD, aE, aF, aG, v0_9⟩ := v; kernel_rfl
theorem YD.ok (k : Nat) : Za Try.prog 80 (YD.e k) := Zh (YD.p k) mix tyok Try.func80 ⟨Yah.ok k, YZ.ok k, Y9.ok k⟩ (by kernel_rfl) (fun aB aC aA => Eq.trans (b := YD.m k aB aC aA (fun z0 z1 z2 z3 z4 z5 z6 => some (z0, z1, z2, z3, z4, z5, z6)) ((fun aI aJ aR aZ bE => YD.r0 k aB aC aA aI aJ aR aZ bE k), (fun aM aV aY bB => YD.r1 k aB aC aA aM aV aY bB k), (fun aU aP aX bA => YD.r2 k aB aC aA aU aP aX bA k), (fun v3_4 v3_5 v3_6 => YD.r3 k aB aC aA v3_4 v3_5 v3_6 k))) (by kernel_rfl) (congrArg (YD.m k aB aC aA (fun z0 z1 z2 z3 z4 z5 z6 => some (z0, z1, z2, z3, z4, z5, z6))) (pair_eq (funext fun aI => funext fun aJ => funext fun aR => funext fun aZ => funext fun bE => funext fun v => YD.l0_eq k aB aC aA aI aJ aR aZ bE k v) (pair_eq (funext fun aM => funext fun aV => funext fun aY => funext fun bB => funext fun v => YD.l1_eq k aB aC aA aM aV aY bB k v) (pair_eq (funext fun aU => funext fun aP => funext fun aX => funext fun bA => funext fun v => YD.l2_eq k aB aC aA aU aP aX bA k v) (funext fun v3_4 => funext fun v3_5 => funext fun v3_6 => funext fun v => YD.l3_eq k aB aC aA v3_4 v3_5 v3_6 k v)))) :))
noncomputable def Yag.g {β : Type} (k : Nat) (aB : LD) (aC aA : Int) (K : BA → LD → Int → Int → Option β) : Option β :=
 YZ.f k aB aC aA 8 (fun y1 y2 y3 y4 => bif y1 then (YaB.f k y2 y3 y4 ([[.str (⟨#[]⟩ : BA)], [.str (⟨#[45, 97]⟩ : BA)], [.str (⟨#[97, 45]⟩ : BA)], [.str (⟨#[65]⟩ : BA)], [.str (⟨#[97, 32, 98]⟩ : BA)], [.str (⟨#[97, 98, 99, 100, 101, 102, 103, 104, 105, 106, 107, 108, 109, 110, 111, 112, 113, 114, 115, 116, 117]⟩ : BA)], [.str (⟨#[255]⟩ : BA)], [.str (⟨#[97, 61, 98]⟩ : BA)]] : LD) (fun y5 y6 y7 y8 => K y5 y6 y7 y8)) else (Yaj.f k y2 y3 y4 (fun y9 y10 y11 y12 => K y9 y10 y11 y12)))
noncomputable def Yag.t (k : Nat) (aB : LD) (aC aA : Int) : Option (BA × LD × Int × Int) := Yag.g k aB aC aA (fun z0 z1 z2 z3 => some (z0, z1, z2, z3))
noncomputable def Yag.f {β : Type} (k : Nat) (aB : LD) (aC aA : Int) (K : BA → LD → Int → Int → Option β) : Option β := bd4 (Yag.t k aB aC aA) K
noncomputable def Yag.e (k : Nat) : Zk := ent [.box 178 [.l, .n, .n]] [1] [.s, .l, .n, .n] [9] false (Yag.t k)
noncomputable def Yag.p (k : Nat) : Pro := ⟨Try.prog, [(81, YZ.e k), (75, YaB.e k), (84, Yaj.e k)], Zn [] false [], k⟩
theorem Yag.ok (k : Nat) : Za Try.prog 155 (Yag.e k) := Zh (Yag.p k) mix tyok Try.func155 ⟨YZ.ok k, YaB.ok k, Yaj.ok k⟩ (by kernel_rfl) (fun aB aC aA => by show _ = _; kernel_rfl)
noncomputable def Yl.l5 {β : Type} (k : Nat) (K : LC → LD → Int → Int → Option β) (L5 : (LD × Int × Int × LC) → Option β) (v : LD × Int × Int × LC) : Option β :=
 match v with
 | (v5_0, v5_1, bU, bW) => YL.f k v5_0 v5_1 bU 2 (fun y101 y102 y103 y104 => bif (decide (((bW.length : Int) : Int) < (IntKind.wrap .i64 (8 + y101)))) then (Zc (bW.length + ([[.d (.int .i64 4), .d (.str (⟨#[97]⟩ : BA)), .own ([] : LC)]] : LC).length ≤ ZN) (L5 (y102, y103, y104, bW ++ ([[.d (.int .i64 4), .d (.str (⟨#[97]⟩ : BA)), .own ([] : LC)]] : LC)))) else (K bW y102 y103 y104))
noncomputable def Yl.l4 {β : Type} (k : Nat) (K : LC → LD → Int → Int → Option β) (L4 : (LD × Int × Int × LC) → Option β) (v : LD × Int × Int × LC) : Option β :=
 match v with
 | (v4_0, v4_1, bV, bX) => YL.f k v4_0 v4_1 bV 2 (fun y89 y90 y91 y92 => bif (decide (((bX.length : Int) : Int) < (IntKind.wrap .i64 (8 + y89)))) then (Zc (bX.length + ([[.d (.int .i64 4), .d (.str (⟨#[97]⟩ : BA)), .own ([] : LC)]] : LC).length ≤ ZN) (L4 (y90, y91, y92, bX ++ ([[.d (.int .i64 4), .d (.str (⟨#[97]⟩ : BA)), .own ([] : LC)]] : LC)))) else (K bX y90 y91 y92))
noncomputable def Yl.l3 {β : Type} (k : Nat) (K : LC → LD → Int → Int → Option β) (L3 : (LD × Int × Int × LC) → Option β) (v : LD × Int × Int × LC) : Option β :=
 match v with
 | (bI, bQ, bY, bZ) => YL.f k bI bQ bY 2 (fun y77 y78 y79 y80 => bif (decide (((bZ.length : Int) : Int) < (IntKind.wrap .i64 (8 + y77)))) then (Zc (bZ.length + ([[.d (.int .i64 4), .d (.str (⟨#[97]⟩ : BA)), .own ([] : LC)]] : LC).length ≤ ZN) (L3 (y78, y79, y80, bZ ++ ([[.d (.int .i64 4), .d (.str (⟨#[97]⟩ : BA)), .own ([] : LC)]] : LC)))) else (K bZ y78 y79 y80))
noncomputable def Yl.l2 {β : Type} (k : Nat) (K : LC → LD → Int → Int → Option β) (L2 : (LD × Int × Int × LC) → Option β) (v : LD × Int × Int × LC) : Option β :=
 match v with
 | (aT, aQ, aS, aK) => YL.f k aT aQ aS 2 (fun y65 y66 y67 y68 => bif (decide (((aK.length : Int) : Int) < (IntKind.wrap .i64 (8 + y65)))) then (Zc (aK.length + ([[.d (.int .i64 4), .d (.str (⟨#[97]⟩ : BA)), .own ([] : LC)]] : LC).length ≤ ZN) (L2 (y66, y67, y68, aK ++ ([[.d (.int .i64 4), .d (.str (⟨#[97]⟩ : BA)), .own ([] : LC)]] : LC)))) else (K aK y66 y67 y68))
noncomputable def Yl.l1 {β : Type} (k : Nat) (K : LC → LD → Int → Int → Option β) (L1 : (LD × Int × Int × LC) → Option β) (v : LD × Int × Int × LC) : Option β :=
 match v with
 | (aO, aL, aN, aW) => YL.f k aO aL aN 2 (fun y45 y46 y47 y48 => bif (decide (((aW.length : Int) : Int) < (IntKind.wrap .i64 (8 + y45)))) then (Zc (aW.length + ([[.d (.int .i64 4), .d (.str (⟨#[97]⟩ : BA)), .own ([] : LC)]] : LC).length ≤ ZN) (L1 (y46, y47, y48, aW ++ ([[.d (.int .i64 4), .d (.str (⟨#[97]⟩ : BA)), .own ([] : LC)]] : LC)))) else (K aW y46 y47 y48))
noncomputable def Yl.l0 {β : Type} (k : Nat) (K : LC → LD → Int → Int → Option β) (L0 : (LD × Int × Int × LC) → Option β) (v : LD × Int × Int × LC) : Option β :=
 match v with
 | (aD, aE, aF, aG) => YL.f k aD aE aF 2 (fun y29 y30 y31 y32 => bif (decide (((aG.length : Int) : Int) < (IntKind.wrap .i64 (8 + y29)))) then (Zc (aG.length + ([[.d (.int .i64 4), .d (.str (⟨#[97]⟩ : BA)), .own ([] : LC)]] : LC).length ≤ ZN) (L0 (y30, y31, y32, aG ++ ([[.d (.int .i64 4), .d (.str (⟨#[97]⟩ : BA)), .own ([] : LC)]] : LC)))) else (K aG y30 y31 y32))
noncomputable def Yl.m {β : Type} (k : Nat) (aB : LD) (aC aA : Int) (K : LC → LD → Int → Int → Option β) (F : ((LD × Int × Int × LC) → Option β) × ((LD × Int × Int × LC) → Option β) × ((LD × Int × Int × LC) → Option β) × ((LD × Int × Int × LC) → Option β) × ((LD × Int × Int × LC) → Option β) × ((LD × Int × Int × LC) → Option β)) : Option β :=
 Y9.f k aB aC aA 5 (fun y1 y2 y3 y4 => bif (decide (((y1.length : Int) : Int) > 0)) then (YZ.f k y2 y3 y4 5 (fun y5 y6 y7 y8 => bif y5 then (YL.f k y6 y7 y8 (y1.length : Int) (fun y9 y10 y11 y12 => YL.f k y10 y11 y12 3 (fun y13 y14 y15 y16 => bif ((y13 : Int) == 0) then (YL.f k y14 y15 y16 7 (fun y17 y18 y19 y20 => Zc ((0 : Int) ≤ y9 ∧ y9 < (y1.length : Int)) (Zc (Int.toNat y9 < y1.length) (YZ.f k y18 y19 y20 40 (fun y21 y22 y23 y24 => bif y21 then (F.1 (y22, y23, y24, y1.modify (Int.toNat y9) fun c => Zq c 0 [.d (.int .i64 y17)])) else (K (y1.modify (Int.toNat y9) fun c => Zq c 0 [.d (.int .i64 y17)]) y22 y23 y24)))))) else (bif ((y13 : Int) == 1) then (Yag.f k y14 y15 y16 (fun y33 y34 y35 y36 => Zc ((0 : Int) ≤ y9 ∧ y9 < (y1.length : Int)) (Zc (Int.toNat y9 < y1.length) (YZ.f k y34 y35 y36 40 (fun y37 y38 y39 y40 => bif y37 then (F.2.1 (y38, y39, y40, y1.modify (Int.toNat y9) fun c => Zq c 1 [.d (.str y33)])) else (K (y1.modify (Int.toNat y9) fun c => Zq c 1 [.d (.str y33)]) y38 y39 y40)))))) else (bif ((y13 : Int) == 2) then (Zc ((0 : Int) ≤ y9 ∧ y9 < (y1.length : Int)) (ZaG y1 (Int.toNat y9) fun c49 => Zas (c49.drop 2) fun c50 r51 => dSl c50.imm fun y52 => Zc (ZaZ 1 y52) (Zc (([] : LC).length + (y52.map (·.map C.d)).length ≤ ZN) (Yag.f k y14 y15 y16 (fun y53 y54 y55 y56 => Zc ((([] : LC) ++ (y52.map (·.map C.d))).length + ([[.d (.str y53)]] : LC).length ≤ ZN) (Zc ((0 : Int) ≤ y9 ∧ y9 < (y1.length : Int)) (Zc (Int.toNat y9 < y1.length) (YZ.f k y54 y55 y56 40 (fun y57 y58 y59 y60 => let J0 := ((([] : LC) ++ (y52.map (·.map C.d))) ++ ([[.d (.str y53)]] : LC)); bif y57 then (F.2.2.1 (y58, y59, y60, y1.modify (Int.toNat y9) fun c => Zq c 2 [.own J0])) else (K (y1.modify (Int.toNat y9) fun c => Zq c 2 [.own J0]) y58 y59 y60)))))))))) else (YZ.f k y14 y15 y16 40 (fun y69 y70 y71 y72 => bif y69 then (F.2.2.2.1 (y70, y71, y72, y1)) else (K y1 y70 y71 y72)))))))) else (YZ.f k y6 y7 y8 40 (fun y81 y82 y83 y84 => bif y81 then (F.2.2.2.2.1 (y82, y83, y84, y1)) else (K y1 y82 y83 y84))))) else (YZ.f k y2 y3 y4 40 (fun y93 y94 y95 y96 => bif y93 then (F.2.2.2.2.2 (y94, y95, y96, y1)) else (K y1 y94 y95 y96))))
noncomputable def Yl.g {β : Type} (k : Nat) (aB : LD) (aC aA : Int) (K : LC → LD → Int → Int → Option β) : Option β := Yl.m k aB aC aA K ((Zo (Yl.l0 k K) k), (Zo (Yl.l1 k K) k), (Zo (Yl.l2 k K) k), (Zo (Yl.l3 k K) k), (Zo (Yl.l4 k K) k), (Zo (Yl.l5 k K) k))
noncomputable def Yl.t (k : Nat) (aB : LD) (aC aA : Int) : Option (LC × LD × Int × Int) := Yl.g k aB aC aA (fun z0 z1 z2 z3 => some (z0, z1, z2, z3))
noncomputable def Yl.f {β : Type} (k : Nat) (aB : LD) (aC aA : Int) (K : LC → LD → Int → Int → Option β) : Option β := bd4 (Yl.t k aB aC aA) K
noncomputable def Yl.e (k : Nat) : Zk := ent [.box 178 [.l, .n, .n]] [1] [.o, .l, .n, .n] [41] false (Yl.t k)
noncomputable def Yl.p (k : Nat) : Pro := ⟨Try.prog, [(154, Y9.e k), (81, YZ.e k), (112, YL.e k), (155, Yag.e k)], Zn [(12, kp [0, 3])] false [], k⟩
noncomputable def Yl.d (k : Nat) (aB : LD) (aC aA : Int) : Ex → St → Option (LC × LD × Int × Int) := (Yl.p k).fin Try.f156 [.box [.d (.sl aB), .d (.int .i64 aC), .d (.int .i64 aA)]] [1] [.o, .l, .n, .n]
noncomputable def Yl.s0 (v : LD × Int × Int × LC) : St :=
 match v with
 | (aD, aE, aF, aG) => ZX 66 [(0, .bp 0 0), (3, .row 1)] [.box (some 0) 178 [.d false (.sl aD), .d false (.int .i64 aE), .d false (.int .i64 aF)], .row none true 41 aG]
noncomputable def Yl.r0 (k : Nat) (aB : LD) (aC aA : Int) (n : Nat) (v : LD × Int × Int × LC) : Option (LC × LD × Int × Int) := (Yl.p k).lp (Zt Try.f156) 12 [1, 1, 1, 0, 1, 0, 0] (Yl.d k aB aC aA) n (Yl.s0 v)
noncomputable def Yl.s1 (v : LD × Int × Int × LC) : St :=
 match v with
 | (aO, aL, aN, aW) => ZX 66 [(0, .bp 0 0), (3, .row 1)] [.box (some 0) 178 [.d false (.sl aO), .d false (.int .i64 aL), .d false (.int .i64 aN)], .row none true 41 aW]
noncomputable def Yl.r1 (k : Nat) (aB : LD) (aC aA : Int) (n : Nat) (v : LD × Int × Int × LC) : Option (LC × LD × Int × Int) := (Yl.p k).lp (Zt Try.f156) 12 [1, 1, 1, 0, 1, 0, 0] (Yl.d k aB aC aA) n (Yl.s1 v)
noncomputable def Yl.s2 (v : LD × Int × Int × LC) : St :=
 match v with
 | (aT, aQ, aS, aK) => ZX 66 [(0, .bp 0 0), (3, .row 1)] [.box (some 0) 178 [.d false (.sl aT), .d false (.int .i64 aQ), .d false (.int .i64 aS)], .row none true 41 aK]
noncomputable def Yl.r2 (k : Nat) (aB : LD) (aC aA : Int) (n : Nat) (v : LD × Int × Int × LC) : Option (LC × LD × Int × Int) := (Yl.p k).lp (Zt Try.f156) 12 [1, 1, 1, 0, 1, 0, 0] (Yl.d k aB aC aA) n (Yl.s2 v)
noncomputable def Yl.s3 (v : LD × Int × Int × LC) : St :=
 match v with
 | (bI, bQ, bY, bZ) => ZX 66 [(0, .bp 0 0), (3, .row 1)] [.box (some 0) 178 [.d false (.sl bI), .d false (.int .i64 bQ), .d false (.int .i64 bY)], .row none true 41 bZ]
noncomputable def Yl.r3 (k : Nat) (aB : LD) (aC aA : Int) (n : Nat) (v : LD × Int × Int × LC) : Option (LC × LD × Int × Int) := (Yl.p k).lp (Zt Try.f156) 12 [1, 1, 1, 0, 1, 0, 0] (Yl.d k aB aC aA) n (Yl.s3 v)
noncomputable def Yl.s4 (v : LD × Int × Int × LC) : St :=
 match v with
 | (v4_0, v4_1, bV, bX) => ZX 66 [(0, .bp 0 0), (3, .row 1)] [.box (some 0) 178 [.d false (.sl v4_0), .d false (.int .i64 v4_1), .d false (.int .i64 bV)], .row none true 41 bX]
noncomputable def Yl.r4 (k : Nat) (aB : LD) (aC aA : Int) (n : Nat) (v : LD × Int × Int × LC) : Option (LC × LD × Int × Int) := (Yl.p k).lp (Zt Try.f156) 12 [1, 1, 1, 0, 1, 0, 0] (Yl.d k aB aC aA) n (Yl.s4 v)
noncomputable def Yl.s5 (v : LD × Int × Int × LC) : St :=
 match v with
 | (v5_0, v5_1, bU, bW) => ZX 66 [(0, .bp 0 0), (3, .row 1)] [.box (some 0) 178 [.d false (.sl v5_0), .d false (.int .i64 v5_1), .d false (.int .i64 bU)], .row none true 41 bW]
noncomputable def Yl.r5 (k : Nat) (aB : LD) (aC aA : Int) (n : Nat) (v : LD × Int × Int × LC) : Option (LC × LD × Int × Int) := (Yl.p k).lp (Zt Try.f156) 12 [1, 1, 1, 0, 1, 0, 0] (Yl.d k aB aC aA) n (Yl.s5 v)
theorem Yl.l5_eq (k : Nat) (aB : LD) (aC aA : Int) : ∀ n v, Yl.r5 k aB aC aA n v = Zo (Yl.l5 k (fun z0 z1 z2 z3 => some (z0, z1, z2, z3))) n v :=
 Zm (Yl.s5) _ fun L5 v => by obtain ⟨v5_0, v5_1, bU, bW⟩ := v; kernel_rfl
theorem Yl.l4_eq (k : Nat) (aB : LD) (aC aA : Int) : ∀ n v, Yl.r4 k aB aC aA n v = Zo (Yl.l4 k (fun z0 z1 z2 z3 => some (z0, z1, z2, z3))) n v :=
 Zm (Yl.s4) _ fun L4 v => by obtain ⟨v4_0, v4_1, bV, bX⟩ := v; kernel_rfl
theorem Yl.l3_eq (k : Nat) (aB : LD) (aC aA : Int) : ∀ n v, Yl.r3 k aB aC aA n v = Zo (Yl.l3 k (fun z0 z1 z2 z3 => some (z0, z1, z2, z3))) n v :=
 Zm (Yl.s3) _ fun L3 v => by obtain ⟨bI, bQ, bY, bZ⟩ := v; kernel_rfl
theorem Yl.l2_eq (k : Nat) (aB : LD) (aC aA : Int) : ∀ n v, Yl.r2 k aB aC aA n v = Zo (Yl.l2 k (fun z0 z1 z2 z3 => some (z0, z1, z2, z3))) n v :=
 Zm (Yl.s2) _ fun L2 v => by obtain ⟨aT, aQ, aS, aK⟩ := v; kernel_rfl
theorem Yl.l1_eq (k : Nat) (aB : LD) (aC aA : Int) : ∀ n v, Yl.r1 k aB aC aA n v = Zo (Yl.l1 k (fun z0 z1 z2 z3 => some (z0, z1, z2, z3))) n v :=
 Zm (Yl.s1) _ fun L1 v => by obtain ⟨aO, aL, aN, aW⟩ := v; kernel_rfl
theorem Yl.l0_eq (k : Nat) (aB : LD) (aC aA : Int) : ∀ n v, Yl.r0 k aB aC aA n v = Zo (Yl.l0 k (fun z0 z1 z2 z3 => some (z0, z1, z2, z3))) n v :=
 Zm (Yl.s0) _ fun L0 v => by obtain ⟨aD, aE, aF, aG⟩ := v; kernel_rfl
theorem Yl.ok (k : Nat) : Za Try.prog 156 (Yl.e k) := Zh (Yl.p k) mix tyok Try.func156 ⟨Y9.ok k, YZ.ok k, YL.ok k, Yag.ok k⟩ (by kernel_rfl) (fun aB aC aA => Eq.trans (b := Yl.m k aB aC aA (fun z0 z1 z2 z3 => some (z0, z1, z2, z3)) ((Yl.r0 k aB aC aA k), (Yl.r1 k aB aC aA k), (Yl.r2 k aB aC aA k), (Yl.r3 k aB aC aA k), (Yl.r4 k aB aC aA k), (Yl.r5 k aB aC aA k))) (by kernel_rfl) (congrArg (Yl.m k aB aC aA (fun z0 z1 z2 z3 => some (z0, z1, z2, z3))) (pair_eq (funext fun v => Yl.l0_eq k aB aC aA k v) (pair_eq (funext fun v => Yl.l1_eq k aB aC aA k v) (pair_eq (funext fun v => Yl.l2_eq k aB aC aA k v) (pair_eq (funext fun v => Yl.l3_eq k aB aC aA k v) (pair_eq (funext fun v => Yl.l4_eq k aB aC aA k v) (funext fun v => Yl.l5_eq k aB aC aA k v)))))) :))
noncomputable def YaC.g {β : Type} (k : Nat) (aB : LD) (aC aA bF : Int) (bD bC bG : LD) (K : Int → LD → LD → LD → LD → Int → Int → Option β) : Option β :=
 YL.f k aB aC aA 8 (fun y1 y2 y3 y4 => bif ((y1 : Int) == 0) then (Yah.f k y2 y3 y4 ([[.int .i64 (-1)], [.int .i64 10000], [.int .i64 10001]] : LD) (fun y5 y6 y7 y8 => K y5 bD bC bG y6 y7 y8)) else (bif ((y1 : Int) == 1) then (K bF bD ([[.str (⟨#[98]⟩ : BA)], [.str (⟨#[97]⟩ : BA)]] : LD) bG y2 y3 y4) else (bif ((y1 : Int) == 2) then (Zc (ZaZ 2 bG) (Zc (([] : LC).length + (bG.map (·.map C.d)).length ≤ ZN) (Yag.f k y2 y3 y4 (fun y9 y10 y11 y12 => Yah.f k y10 y11 y12 ([[.int .i64 1], [.int .i64 (-1)], [.int .i64 1001]] : LD) (fun y13 y14 y15 y16 => Zc ((([] : LC) ++ (bG.map (·.map C.d))).length + ([[.d (.str y9), .d (.int .i64 y13)]] : LC).length ≤ ZN) (K bF bD bC (C.immRows ((([] : LC) ++ (bG.map (·.map C.d))) ++ ([[.d (.str y9), .d (.int .i64 y13)]] : LC))) y14 y15 y16)))))) else (bif ((y1 : Int) == 3) then (Yl.f k y2 y3 y4 (fun y17 y18 y19 y20 => K bF (C.immRows y17) bC bG y18 y19 y20)) else (K bF bD bC bG y2 y3 y4)))))
noncomputable def YaC.t (k : Nat) (aB : LD) (aC aA bF : Int) (bD bC bG : LD) : Option (Int × LD × LD × LD × LD × Int × Int) := YaC.g k aB aC aA bF bD bC bG (fun z0 z1 z2 z3 z4 z5 z6 => some (z0, z1, z2, z3, z4, z5, z6))
noncomputable def YaC.f {β : Type} (k : Nat) (aB : LD) (aC aA bF : Int) (bD bC bG : LD) (K : Int → LD → LD → LD → LD → Int → Int → Option β) : Option β := match YaC.t k aB aC aA bF bD bC bG with | some (z0, z1, z2, z3, z4, z5, z6) => K z0 z1 z2 z3 z4 z5 z6 | none => none
noncomputable def YaC.e (k : Nat) : Zk := ent [.box 178 [.l, .n, .n], .agg [.n, .l, .l, .l]] [4] [.n, .l, .l, .l, .l, .n, .n] [44] true (YaC.t k)
noncomputable def YaC.p (k : Nat) : Pro := ⟨Try.prog, [(112, YL.e k), (118, Yah.e k), (155, Yag.e k), (156, Yl.e k)], Zn [] true [[false, true, true, true]], k⟩
theorem YaC.ok (k : Nat) : Za Try.prog 82 (YaC.e k) := Zh (YaC.p k) mix tyok Try.func82 ⟨YL.ok k, Yah.ok k, Yag.ok k, Yl.ok k⟩ (by kernel_rfl) (fun aB aC aA bF bD bC bG => by show _ = _; kernel_rfl)
noncomputable def Yav.g {β : Type} (k : Nat) (aB : LD) (aC aA : Int) (a1 : BA) (K : BA → LC → LC → Int → LD → Int → Int → Option β) : Option β :=
 Y7.f k aB aC aA 4 (fun y1 y2 y3 y4 => Yah.f k y2 y3 y4 ([[.int .i64 0], [.int .i64 1], [.int .i64 3], [.int .i64 5], [.int .i64 8], [.int .i64 20], [.int .i64 100]] : LD) (fun y5 y6 y7 y8 => YZ.f k y6 y7 y8 4 (fun y9 y10 y11 y12 => bif y9 then (YaB.f k y10 y11 y12 ([[.str (⟨#[103, 111, 108, 100]⟩ : BA)], [.str (⟨#[116, 105, 101, 114]⟩ : BA)]] : LD) (fun y13 y14 y15 y16 => K a1 y1 ([[.d (.str y13)]] : LC) y5 y14 y15 y16)) else (K a1 y1 ([] : LC) y5 y10 y11 y12))))
noncomputable def Yav.t (k : Nat) (aB : LD) (aC aA : Int) (a1 : BA) : Option (BA × LC × LC × Int × LD × Int × Int) := Yav.g k aB aC aA a1 (fun z0 z1 z2 z3 z4 z5 z6 => some (z0, z1, z2, z3, z4, z5, z6))
noncomputable def Yav.f {β : Type} (k : Nat) (aB : LD) (aC aA : Int) (a1 : BA) (K : BA → LC → LC → Int → LD → Int → Int → Option β) : Option β := match Yav.t k aB aC aA a1 with | some (z0, z1, z2, z3, z4, z5, z6) => K z0 z1 z2 z3 z4 z5 z6 | none => none
noncomputable def Yav.e (k : Nat) : Zk := ent [.box 178 [.l, .n, .n], .d .s] [4] [.s, .o, .o, .n, .l, .n, .n] [47] false (Yav.t k)
noncomputable def Yav.p (k : Nat) : Pro := ⟨Try.prog, [(157, Y7.e k), (118, Yah.e k), (81, YZ.e k), (75, YaB.e k)], Zn [] false [], k⟩
theorem Yav.ok (k : Nat) : Za Try.prog 83 (Yav.e k) := Zh (Yav.p k) mix tyok Try.func83 ⟨Y7.ok k, Yah.ok k, YZ.ok k, YaB.ok k⟩ (by kernel_rfl) (fun aB aC aA a1 => by show _ = _; kernel_rfl)
noncomputable def Y3.l0 {β : Type} (k : Nat) (aI : LC) (K : LC → LD → Int → Int → Option β) (L0 : (Int × LD × Int × Int × LC) → Option β) (v : Int × LD × Int × Int × LC) : Option β :=
 match v with
 | (aD, aE, aF, aG, aJ) => bif (decide ((aD : Int) > 0)) then (Zc ((0 : Int) ≤ (aJ.length : Int) ∧ (aJ.length : Int) < (aI.length : Int)) (ZaG aI (Int.toNat (aJ.length : Int)) fun c24 => Zas (c24.drop 0) fun c25 r => cD c25 fun d => dStr d fun x28 => Yav.f k aE aF aG x28 (fun y29 y30 y31 y32 y33 y34 y35 => Zc (aJ.length + ([[.d (.str y29), .own y30, .own y31, .d (.int .i64 y32)]] : LC).length ≤ ZN) (L0 (IntKind.wrap .i64 (aD - 1), y33, y34, y35, aJ ++ ([[.d (.str y29), .own y30, .own y31, .d (.int .i64 y32)]] : LC)))))) else (K aJ aE aF aG)
noncomputable def Y3.m {β : Type} (k : Nat) (aB : LD) (aC aA : Int) (K : LC → LD → Int → Int → Option β) (F : (LC → (Int × LD × Int × Int × LC) → Option β)) : Option β :=
 YL.f k aB aC aA 6 (fun y1 y2 y3 y4 => F ([[.d (.str (⟨#[97]⟩ : BA))], [.d (.str (⟨#[98]⟩ : BA))], [.d (.str (⟨#[99]⟩ : BA))], [.d (.str (⟨#[100]⟩ : BA))], [.d (.str (⟨#[101]⟩ : BA))]] : LC) (y1, y2, y3, y4, ([] : LC)))
noncomputable def Y3.g {β : Type} (k : Nat) (aB : LD) (aC aA : Int) (K : LC → LD → Int → Int → Option β) : Option β := Y3.m k aB aC aA K (fun aI => Zo (Y3.l0 k aI K) k)
noncomputable def Y3.t (k : Nat) (aB : LD) (aC aA : Int) : Option (LC × LD × Int × Int) := Y3.g k aB aC aA (fun z0 z1 z2 z3 => some (z0, z1, z2, z3))
noncomputable def Y3.f {β : Type} (k : Nat) (aB : LD) (aC aA : Int) (K : LC → LD → Int → Int → Option β) : Option β := bd4 (Y3.t k aB aC aA) K
noncomputable def Y3.e (k : Nat) : Zk := ent [.box 178 [.l, .n, .n]] [1] [.o, .l, .n, .n] [72] false (Y3.t k)
noncomputable def Y3.p (k : Nat) : Pro := ⟨Try.prog, [(112, YL.e k), (83, Yav.e k)], Zn [(4, kp [0, 3, 4, 5])] false [], k⟩
noncomputable def Y3.d (k : Nat) (aB : LD) (aC aA : Int) : Ex → St → Option (LC × LD × Int × Int) := (Y3.p k).fin Try.f113 [.box [.d (.sl aB), .d (.int .i64 aC), .d (.int .i64 aA)]] [1] [.o, .l, .n, .n]
noncomputable def Y3.s0 (aI : LC) (v : Int × LD × Int × Int × LC) : St :=
 match v with
 | (aD, aE, aF, aG, aJ) => ZX 25 [(0, .bp 0 0), (3, .row 1), (4, .row 2), (5, .d true (.int .i64 aD))] [.box (some 0) 178 [.d false (.sl aE), .d false (.int .i64 aF), .d false (.int .i64 aG)], .row none true 25 aI, .row none true 72 aJ]
noncomputable def Y3.r0 (k : Nat) (aB : LD) (aC aA : Int) (aI : LC) (n : Nat) (v : Int × LD × Int × Int × LC) : Option (LC × LD × Int × Int) := (Y3.p k).lp (Zt Try.f113) 4 [1, 1, 1, 0, 1, 0] (Y3.d k aB aC aA) n (Y3.s0 aI v)
theorem Y3.l0_eq (k : Nat) (aB : LD) (aC aA : Int) (aI : LC) : ∀ n v, Y3.r0 k aB aC aA aI n v = Zo (Y3.l0 k aI (fun z0 z1 z2 z3 => some (z0, z1, z2, z3))) n v :=
 Zm (Y3.s0 aI) _ fun L0 v => by obtain ⟨aD, aE, aF, aG, aJ⟩ := v; kernel_rfl
theorem Y3.ok (k : Nat) : Za Try.prog 113 (Y3.e k) := Zh (Y3.p k) mix tyok Try.func113 ⟨YL.ok k, Yav.ok k⟩ (by kernel_rfl) (fun aB aC aA => Eq.trans (b := Y3.m k aB aC aA (fun z0 z1 z2 z3 => some (z0, z1, z2, z3)) (fun aI => Y3.r0 k aB aC aA aI k)) (by kernel_rfl) (congrArg (Y3.m k aB aC aA (fun z0 z1 z2 z3 => some (z0, z1, z2, z3))) (funext fun aI => funext fun v => Y3.l0_eq k aB aC aA aI k v) :))
noncomputable def YX.l0 {β : Type} (k : Nat) (K : LC → LC → Option β) (L0 : (Int × LD × Int × Int × LC) → Option β) (v : Int × LD × Int × Int × LC) : Option β :=
 match v with
 | (aD, aE, aF, aG, aI) => bif (decide ((aD : Int) > 0)) then (YD.f k aE aF aG (fun y55 y56 y57 y58 y59 y60 y61 => Zc (aI.length + ([[.d (.int .i64 y55), .own y56, .own y57, .own y58]] : LC).length ≤ ZN) (L0 (IntKind.wrap .i64 (aD - 1), y59, y60, y61, flatRows (aI ++ ([[.d (.int .i64 y55), .own y56, .own y57, .own y58]] : LC)))))) else (bif (decide (((aI.length : Int) : Int) > 0)) then (YZ.f k aE aF aG 12 (fun y62 y63 y64 y65 => bif y62 then (Zc ((0 : Int) ≤ 0 ∧ 0 < (aI.length : Int)) (ZaG aI (Int.toNat 0) fun c66 => Zas (c66.drop 0) fun c67 r => cD c67 fun d => dInt .i64 d fun x70 => Zas r fun c71 r => cD c71 fun d => dSl d fun x74 => Zas r fun c75 r => cD c75 fun d => dSl d fun x78 => Zas r fun c79 r => cD c79 fun d => dSl d fun x82 => YaC.f k y63 y64 y65 x70 x74 x78 x82 (fun y83 y84 y85 y86 y87 y88 y89 => Zc ((0 : Int) ≤ 0 ∧ 0 < (aI.length : Int)) (Zc (Int.toNat 0 < aI.length) (Y3.f k y87 y88 y89 (fun y90 y91 y92 y93 => K (aI.modify (Int.toNat 0) fun c => Zq c 0 [.d (.int .i64 y83), .d (.sl y84), .d (.sl y85), .d (.sl y86)]) y90)))))) else (Y3.f k y63 y64 y65 (fun y94 y95 y96 y97 => K aI y94)))) else (Y3.f k aE aF aG (fun y98 y99 y100 y101 => K aI y98)))
noncomputable def YX.m {β : Type} (k : Nat) (a0 : LD) (K : LC → LC → Option β) (F : ((Int × LD × Int × Int × LC) → Option β)) : Option β :=
 Yac.f k a0 (fun y1 y2 y3 => YL.f k y1 y2 y3 5 (fun y4 y5 y6 y7 => F (y4, y5, y6, y7, ([] : LC))))
noncomputable def YX.g {β : Type} (k : Nat) (a0 : LD) (K : LC → LC → Option β) : Option β :=
 Yac.f k a0 (fun y1 y2 y3 => YL.f k y1 y2 y3 5 (fun y4 y5 y6 y7 => Zo (YX.l0 k K) k (y4, y5, y6, y7, ([] : LC))))
noncomputable def YX.t (k : Nat) (a0 : LD) : Option (LC × LC) := YX.g k a0 (fun z0 z1 => some (z0, z1))
noncomputable def YX.f {β : Type} (k : Nat) (a0 : LD) (K : LC → LC → Option β) : Option β := bd2 (YX.t k a0) K
noncomputable def YX.e (k : Nat) : Zk := ent [.d .l] [1, 1] [.o, .o] [71, 72] true (YX.t k)
noncomputable def YX.p (k : Nat) : Pro := ⟨Try.prog, [(58, Yac.e k), (112, YL.e k), (80, YD.e k), (81, YZ.e k), (82, YaC.e k), (113, Y3.e k)], Zn [(4, kp [4, 6] [(5, .flt true 71)])] true [], k⟩
noncomputable def YX.d (k : Nat) (a0 : LD) : Ex → St → Option (LC × LC) := (YX.p k).fin Try.f37 [.d (.sl a0)] [1, 1] [.o, .o]
noncomputable def YX.s0 (v : Int × LD × Int × Int × LC) : St :=
 match v with
 | (aD, aE, aF, aG, aI) => ZX 38 [(4, .bp 0 0), (5, .row 1), (6, .d true (.int .i64 aD))] [.box none 178 [.d false (.sl aE), .d false (.int .i64 aF), .d false (.int .i64 aG)], .row none true 71 aI]
noncomputable def YX.r0 (k : Nat) (a0 : LD) (n : Nat) (v : Int × LD × Int × Int × LC) : Option (LC × LC) := (YX.p k).lp (Zt Try.f37) 4 [1, 1, 1, 0, 1, 0] (YX.d k a0) n (YX.s0 v)
theorem YX.l0_eq (k : Nat) (a0 : LD) : ∀ n v, YX.r0 k a0 n v = Zo (YX.l0 k (fun z0 z1 => some (z0, z1))) n v :=
 Zm (YX.s0) _ fun L0 v => by obtain ⟨aD, aE, aF, aG, aI⟩ := v; kernel_rfl
theorem YX.ok (k : Nat) : Za Try.prog 37 (YX.e k) := Zh (YX.p k) mix tyok Try.func37 ⟨Yac.ok k, YL.ok k, YD.ok k, YZ.ok k, YaC.ok k, Y3.ok k⟩ (by kernel_rfl) (fun a0 => Eq.trans (b := YX.m k a0 (fun z0 z1 => some (z0, z1)) (YX.r0 k a0 k)) (by kernel_rfl) (congrArg (YX.m k a0 (fun z0 z1 => some (z0, z1))) (funext fun v => YX.l0_eq k a0 k v) :))
noncomputable def Yad.g {β : Type} (k : Nat) (a0 a1 a2 : Int) (K : Bool → Option β) : Option β :=
 bif (decide ((a0 : Int) ≥ a1)) then (K (decide ((a0 : Int) ≤ a2))) else (K false)
noncomputable def Yad.t (k : Nat) (a0 a1 a2 : Int) : Option (Bool) := Yad.g k a0 a1 a2 (fun z0 => some z0)
noncomputable def Yad.f {β : Type} (k : Nat) (a0 a1 a2 : Int) (K : Bool → Option β) : Option β := bd1 (Yad.t k a0 a1 a2) K
noncomputable def Yad.e (k : Nat) : Zk := ent [.d .n, .d .n, .d .n] [1] [.b] [4] false (Yad.t k)
noncomputable def Yad.p (k : Nat) : Pro := ⟨Try.prog, [], Zn [] false [], k⟩
theorem Yad.ok (k : Nat) : Za Try.prog 71 (Yad.e k) := Zh (Yad.p k) mix tyok Try.func71 trivial (by kernel_rfl) (fun a0 a1 a2 => by show _ = _; kernel_rfl)
noncomputable def YW.l0 {β : Type} (k : Nat) (aD : BA) (aE : Int) (K : Bool → Option β) (L0 : Int → Option β) (v : Int) : Option β :=
 match v with
 | aF => bif (decide ((aF : Int) < aE)) then (Za0 aD aF fun b5 => let J1 := (bif ((b5 : Int) != 45) then (K false) else (L0 (IntKind.wrap .i64 (aF + 1)))); let J0 := (bif (decide ((b5 : Int) < 48)) then J1 else (bif (decide ((b5 : Int) > 57)) then J1 else (L0 (IntKind.wrap .i64 (aF + 1))))); bif (decide ((b5 : Int) < 97)) then J0 else (bif (decide ((b5 : Int) > 122)) then J0 else (L0 (IntKind.wrap .i64 (aF + 1))))) else (Yad.f k (aD.size : Int) 1 20 (fun y6 => bif y6 then (Za0 aD 0 fun b7 => bif ((b7 : Int) != 45) then (Za0 aD (IntKind.wrap .i64 ((aD.size : Int) - 1)) fun b8 => K ((b8 : Int) != 45)) else (K false)) else (K false)))
noncomputable def YW.m {β : Type} (k : Nat) (a0 : BA) (K : Bool → Option β) (F : (BA → Int → Int → Option β)) : Option β :=
 F a0 (a0.size : Int) (0)
noncomputable def YW.g {β : Type} (k : Nat) (a0 : BA) (K : Bool → Option β) : Option β :=
 Zo (YW.l0 k a0 (a0.size : Int) K) k (0)
noncomputable def YW.t (k : Nat) (a0 : BA) : Option (Bool) := YW.g k a0 (fun z0 => some z0)
noncomputable def YW.f {β : Type} (k : Nat) (a0 : BA) (K : Bool → Option β) : Option β := bd1 (YW.t k a0) K
noncomputable def YW.e (k : Nat) : Zk := ent [.d .s] [1] [.b] [4] false (YW.t k)
noncomputable def YW.p (k : Nat) : Pro := ⟨Try.prog, [(71, Yad.e k)], Zn [(2, kp [0, 6, 7])] false [], k⟩
noncomputable def YW.d (k : Nat) (a0 : BA) : Ex → St → Option (Bool) := (YW.p k).fin Try.f73 [.d (.str a0)] [1] [.b]
noncomputable def YW.s0 (aD : BA) (aE v : Int) : St :=
 match v with
 | aF => ZX 48 [(0, .d false (.str aD)), (6, .d true (.int .i64 aE)), (7, .d true (.int .i64 aF))] []
noncomputable def YW.r0 (k : Nat) (a0 aD : BA) (aE : Int) (n : Nat) (v : Int) : Option (Bool) := (YW.p k).lp (Zt Try.f73) 2 [1, 0, 1, 0] (YW.d k a0) n (YW.s0 aD aE v)
theorem YW.l0_eq (k : Nat) (a0 aD : BA) (aE : Int) : ∀ n v, YW.r0 k a0 aD aE n v = Zo (YW.l0 k aD aE (fun z0 => some z0)) n v :=
 Zm (YW.s0 aD aE) _ fun L0 v => by kernel_rfl
theorem YW.ok (k : Nat) : Za Try.prog 73 (YW.e k) := Zh (YW.p k) mix tyok Try.func73 (Yad.ok k) (by kernel_rfl) (fun a0 => Eq.trans (b := YW.m k a0 (fun z0 => some z0) (fun aD aE => YW.r0 k a0 aD aE k)) (by kernel_rfl) (congrArg (YW.m k a0 (fun z0 => some z0)) (funext fun aD => funext fun aE => funext fun v => YW.l0_eq k a0 aD aE k v) :))
noncomputable def Yan.g {β : Type} (k : Nat) (a0 : Int) (K : Bool → Option β) : Option β :=
 Yad.f k a0 0 10000 (fun y1 => K y1)
noncomputable def Yan.t (k : Nat) (a0 : Int) : Option (Bool) := Yan.g k a0 (fun z0 => some z0)
noncomputable def Yan.f {β : Type} (k : Nat) (a0 : Int) (K : Bool → Option β) : Option β := bd1 (Yan.t k a0) K
noncomputable def Yan.e (k : Nat) : Zk := ent [.d .n] [1] [.b] [4] false (Yan.t k)
noncomputable def Yan.p (k : Nat) : Pro := ⟨Try.prog, [(71, Yad.e k)], Zn [] false [], k⟩
theorem Yan.ok (k : Nat) : Za Try.prog 88 (Yan.e k) := Zh (Yan.p k) mix tyok Try.func88 (Yad.ok k) (by kernel_rfl) (fun a0 => by show _ = _; kernel_rfl)
noncomputable def YS.l0 {β : Type} (k : Nat) (aD : LD) (aE : Int) (aF : LD) (aG : Int) (K : Bool → Option β) (L0 : Int → Option β) (v : Int) : Option β :=
 match v with
 | aI => bif (decide ((aI : Int) < aG)) then (atR aF aI [.s] fun x13 => (YW.f k x13 (fun y14 => bif (!y14) then (K false) else (bif (decide ((aI : Int) > 0)) then (atR aD (IntKind.wrap .i64 (aI - 1)) [.s] fun x18 => (bif (!(ZbO x18 x13)) then (K false) else (L0 (IntKind.wrap .i64 (aI + 1))))) else (L0 (IntKind.wrap .i64 (aI + 1))))))) else (K (decide (((aD.length : Int) : Int) ≤ aE)))
noncomputable def YS.m {β : Type} (k : Nat) (a0 : LD) (a1 : Int) (K : Bool → Option β) (F : (LD → Int → LD → Int → Int → Option β)) : Option β :=
 F a0 a1 a0 (a0.length : Int) (0)
noncomputable def YS.g {β : Type} (k : Nat) (a0 : LD) (a1 : Int) (K : Bool → Option β) : Option β :=
 Zo (YS.l0 k a0 a1 a0 (a0.length : Int) K) k (0)
noncomputable def YS.t (k : Nat) (a0 : LD) (a1 : Int) : Option (Bool) := YS.g k a0 a1 (fun z0 => some z0)
noncomputable def YS.f {β : Type} (k : Nat) (a0 : LD) (a1 : Int) (K : Bool → Option β) : Option β := bd1 (YS.t k a0 a1) K
noncomputable def YS.e (k : Nat) : Zk := ent [.d .l, .d .n] [1] [.b] [4] false (YS.t k)
noncomputable def YS.p (k : Nat) : Pro := ⟨Try.prog, [(73, YW.e k)], Zn [(2, kp [0, 1, 7, 8, 9])] false [], k⟩
noncomputable def YS.d (k : Nat) (a0 : LD) (a1 : Int) : Ex → St → Option (Bool) := (YS.p k).fin Try.f90 [.d (.sl a0), .d (.int .i64 a1)] [1] [.b]
noncomputable def YS.s0 (aD : LD) (aE : Int) (aF : LD) (aG v : Int) : St :=
 match v with
 | aI => ZX 35 [(0, .d false (.sl aD)), (1, .d false (.int .i64 aE)), (7, .d false (.sl aF)), (8, .d true (.int .i64 aG)), (9, .d true (.int .i64 aI))] []
noncomputable def YS.r0 (k : Nat) (a0 : LD) (a1 : Int) (aD : LD) (aE : Int) (aF : LD) (aG : Int) (n : Nat) (v : Int) : Option (Bool) := (YS.p k).lp (Zt Try.f90) 2 [1, 0, 1, 0] (YS.d k a0 a1) n (YS.s0 aD aE aF aG v)
theorem YS.l0_eq (k : Nat) (a0 : LD) (a1 : Int) (aD : LD) (aE : Int) (aF : LD) (aG : Int) : ∀ n v, YS.r0 k a0 a1 aD aE aF aG n v = Zo (YS.l0 k aD aE aF aG (fun z0 => some z0)) n v :=
 Zm (YS.s0 aD aE aF aG) _ fun L0 v => by kernel_rfl
theorem YS.ok (k : Nat) : Za Try.prog 90 (YS.e k) := Zh (YS.p k) mix tyok Try.func90 (YW.ok k) (by kernel_rfl) (fun a0 a1 => Eq.trans (b := YS.m k a0 a1 (fun z0 => some z0) (fun aD aE aF aG => YS.r0 k a0 a1 aD aE aF aG k)) (by kernel_rfl) (congrArg (YS.m k a0 a1 (fun z0 => some z0)) (funext fun aD => funext fun aE => funext fun aF => funext fun aG => funext fun v => YS.l0_eq k a0 a1 aD aE aF aG k v) :))
noncomputable def YaE.g {β : Type} (k : Nat) (aB : Int) (aC : BA) (aA : LD) (K : Bool → Option β) : Option β :=
 bif ((aB : Int) == 1) then (bif ((aB : Int) == 1) then (bif (((aA.length : Int) : Int) == 1) then (YW.f k aC (fun y1 => bif y1 then (YS.f k aA 6 (fun y19 => K y19)) else (K false))) else (K false)) else (bif ((aB : Int) == 3) then (bif (decide (((aA.length : Int) : Int) ≥ 1)) then (YW.f k aC (fun y20 => bif y20 then (YS.f k aA 6 (fun y21 => K y21)) else (K false))) else (K false)) else (bif ((aB : Int) == 4) then (bif ((aB : Int) == 4) then (bif (((aA.length : Int) : Int) == 0) then (YW.f k aC (fun y22 => bif y22 then (YS.f k aA 6 (fun y23 => K y23)) else (K false))) else (K false)) else (K false)) else (bif ((aB : Int) == 5) then (bif (((aA.length : Int) : Int) == 0) then (YW.f k aC (fun y24 => bif y24 then (YS.f k aA 6 (fun y25 => K y25)) else (K false))) else (K false)) else (K false))))) else (bif ((aB : Int) == 2) then (bif (((aA.length : Int) : Int) == 1) then (YW.f k aC (fun y26 => bif y26 then (YS.f k aA 6 (fun y27 => K y27)) else (K false))) else (K false)) else (bif ((aB : Int) == 3) then (bif (decide (((aA.length : Int) : Int) ≥ 1)) then (YW.f k aC (fun y28 => bif y28 then (YS.f k aA 6 (fun y29 => K y29)) else (K false))) else (K false)) else (bif ((aB : Int) == 4) then (bif ((aB : Int) == 4) then (bif (((aA.length : Int) : Int) == 0) then (YW.f k aC (fun y30 => bif y30 then (YS.f k aA 6 (fun y31 => K y31)) else (K false))) else (K false)) else (K false)) else (bif ((aB : Int) == 5) then (bif (((aA.length : Int) : Int) == 0) then (YW.f k aC (fun y32 => bif y32 then (YS.f k aA 6 (fun y33 => K y33)) else (K false))) else (K false)) else (K false)))))
noncomputable def YaE.t (k : Nat) (aB : Int) (aC : BA) (aA : LD) : Option (Bool) := YaE.g k aB aC aA (fun z0 => some z0)
noncomputable def YaE.f {β : Type} (k : Nat) (aB : Int) (aC : BA) (aA : LD) (K : Bool → Option β) : Option β := bd1 (YaE.t k aB aC aA) K
noncomputable def YaE.e (k : Nat) : Zk := ent [.agg [.n, .s, .l]] [1] [.b] [4] false (YaE.t k)
noncomputable def YaE.p (k : Nat) : Pro := ⟨Try.prog, [(73, YW.e k), (90, YS.e k)], Zn [] false [], k⟩
theorem YaE.ok (k : Nat) : Za Try.prog 161 (YaE.e k) := Zh (YaE.p k) mix tyok Try.func161 ⟨YW.ok k, YS.ok k⟩ (by kernel_rfl) (fun aB aC aA => by show _ = _; kernel_rfl)
noncomputable def Yai.g {β : Type} (k : Nat) (aB : Int) (aC : BA) (aA : LD) (K : Bool → Option β) : Option β :=
 YaE.f k aB aC aA (fun y34 => K (!y34))
noncomputable def Yai.t (k : Nat) (aB : Int) (aC : BA) (aA : LD) : Option (Bool) := Yai.g k aB aC aA (fun z0 => some z0)
noncomputable def Yai.f {β : Type} (k : Nat) (aB : Int) (aC : BA) (aA : LD) (K : Bool → Option β) : Option β := bd1 (Yai.t k aB aC aA) K
noncomputable def Yai.e (k : Nat) : Zk := ent [.agg [.n, .s, .l]] [1] [.b] [4] false (Yai.t k)
noncomputable def Yai.p (k : Nat) : Pro := ⟨Try.prog, [(161, YaE.e k)], Zn [] false [], k⟩
theorem Yai.ok (k : Nat) : Za Try.prog 160 (Yai.e k) := Zh (Yai.p k) mix tyok Try.func160 (YaE.ok k) (by kernel_rfl) (fun aB aC aA => by show _ = _; kernel_rfl)
noncomputable def Yd.l0 {β : Type} (k : Nat) (aD : LD) (aE : Int) (K L0 : Int → Option β) (v : Int) : Option β :=
 match v with
 | aF => bif (decide ((aF : Int) < aE)) then (atR aD aF [.n, .s, .l] fun x39 x42 x45 => (Yai.f k x39 x42 x45 (fun y46 => bif y46 then (K aF) else (L0 (IntKind.wrap .i64 (aF + 1)))))) else (K (-1))
noncomputable def Yd.m {β : Type} (k : Nat) (a0 : LD) (K : Int → Option β) (F : (LD → Int → Int → Option β)) : Option β :=
 F a0 (a0.length : Int) (0)
noncomputable def Yd.g {β : Type} (k : Nat) (a0 : LD) (K : Int → Option β) : Option β :=
 Zo (Yd.l0 k a0 (a0.length : Int) K) k (0)
noncomputable def Yd.t (k : Nat) (a0 : LD) : Option (Int) := Yd.g k a0 (fun z0 => some z0)
noncomputable def Yd.f {β : Type} (k : Nat) (a0 : LD) (K : Int → Option β) : Option β := bd1 (Yd.t k a0) K
noncomputable def Yd.e (k : Nat) : Zk := ent [.d .l, .fn 160 []] [1] [.n] [3] false (Yd.t k)
noncomputable def Yd.p (k : Nat) : Pro := ⟨Try.prog, [(160, Yai.e k)], Zn [(2, kp [0, 1, 7, 8])] false [], k⟩
noncomputable def Yd.d (k : Nat) (a0 : LD) : Ex → St → Option (Int) := (Yd.p k).fin Try.f163 [.d (.sl a0), .d (.fn 160 [])] [1] [.n]
noncomputable def Yd.s0 (aD : LD) (aE v : Int) : St :=
 match v with
 | aF => ZX 19 [(0, .d false (.sl aD)), (1, .d false (.fn 160 [])), (7, .d true (.int .i64 aE)), (8, .d true (.int .i64 aF))] []
noncomputable def Yd.r0 (k : Nat) (a0 aD : LD) (aE : Int) (n : Nat) (v : Int) : Option (Int) := (Yd.p k).lp (Zt Try.f163) 2 [1, 0, 1, 0] (Yd.d k a0) n (Yd.s0 aD aE v)
theorem Yd.l0_eq (k : Nat) (a0 aD : LD) (aE : Int) : ∀ n v, Yd.r0 k a0 aD aE n v = Zo (Yd.l0 k aD aE (fun z0 => some z0)) n v :=
 Zm (Yd.s0 aD aE) _ fun L0 v => by kernel_rfl
theorem Yd.ok (k : Nat) : Za Try.prog 163 (Yd.e k) := Zh (Yd.p k) mix tyok Try.func163 (Yai.ok k) (by kernel_rfl) (fun a0 => Eq.trans (b := Yd.m k a0 (fun z0 => some z0) (fun aD aE => Yd.r0 k a0 aD aE k)) (by kernel_rfl) (congrArg (Yd.m k a0 (fun z0 => some z0)) (funext fun aD => funext fun aE => funext fun v => Yd.l0_eq k a0 aD aE k v) :))
noncomputable def Yo.g {β : Type} (k : Nat) (a0 : LD) (K : Bool → Option β) : Option β :=
 Yd.f k a0 (fun y47 => K (decide ((y47 : Int) ≥ 0)))
noncomputable def Yo.t (k : Nat) (a0 : LD) : Option (Bool) := Yo.g k a0 (fun z0 => some z0)
noncomputable def Yo.f {β : Type} (k : Nat) (a0 : LD) (K : Bool → Option β) : Option β := bd1 (Yo.t k a0) K
noncomputable def Yo.e (k : Nat) : Zk := ent [.d .l, .fn 160 []] [1] [.b] [4] false (Yo.t k)
noncomputable def Yo.p (k : Nat) : Pro := ⟨Try.prog, [(163, Yd.e k)], Zn [] false [], k⟩
theorem Yo.ok (k : Nat) : Za Try.prog 95 (Yo.e k) := Zh (Yo.p k) mix tyok Try.func95 (Yd.ok k) (by kernel_rfl) (fun a0 => by show _ = _; kernel_rfl)
noncomputable def Yaf.g {β : Type} (k : Nat) (a0 : LD) (K : Bool → Option β) : Option β :=
 bif (decide (((a0.length : Int) : Int) ≤ 8)) then (Yo.f k a0 (fun y48 => K (!y48))) else (K false)
noncomputable def Yaf.t (k : Nat) (a0 : LD) : Option (Bool) := Yaf.g k a0 (fun z0 => some z0)
noncomputable def Yaf.f {β : Type} (k : Nat) (a0 : LD) (K : Bool → Option β) : Option β := bd1 (Yaf.t k a0) K
noncomputable def Yaf.e (k : Nat) : Zk := ent [.d .l] [1] [.b] [4] false (Yaf.t k)
noncomputable def Yaf.p (k : Nat) : Pro := ⟨Try.prog, [(95, Yo.e k)], Zn [] false [], k⟩
theorem Yaf.ok (k : Nat) : Za Try.prog 89 (Yaf.e k) := Zh (Yaf.p k) mix tyok Try.func89 (Yo.ok k) (by kernel_rfl) (fun a0 => by show _ = _; kernel_rfl)
noncomputable def Yaa.l0 {β : Type} (k : Nat) (aD : LD) (aE aG : Int) (aI aJ aR : LD) (K : Bool → Option β) (L0 : Int → Option β) (v : Int) : Option β :=
 match v with
 | aF => bif (decide ((aF : Int) < aE)) then (atR aD aF [.s, .n] fun x54 x57 => (YW.f k x54 (fun y58 => bif (!y58) then (K false) else (Yad.f k x57 0 1000 (fun y59 => bif (!y59) then (K false) else (bif (decide ((aF : Int) > 0)) then (atR aR (IntKind.wrap .i64 (aF - 1)) [.s, .n] fun x63 x66 => (bif (!(ZbO x63 x54)) then (K false) else (L0 (IntKind.wrap .i64 (aF + 1))))) else (L0 (IntKind.wrap .i64 (aF + 1))))))))) else (Yan.f k aG (fun y67 => bif y67 then (Yaf.f k aI (fun y68 => bif y68 then (YS.f k aJ 8 (fun y69 => bif y69 then (K (decide (((aR.length : Int) : Int) ≤ 12))) else (K false))) else (K false))) else (K false)))
noncomputable def Yaa.m {β : Type} (k : Nat) (aB : Int) (aC aA aH : LD) (K : Bool → Option β) (F : (LD → Int → Int → LD → LD → LD → Int → Option β)) : Option β :=
 F aH (aH.length : Int) aB aC aA aH (0)
noncomputable def Yaa.g {β : Type} (k : Nat) (aB : Int) (aC aA aH : LD) (K : Bool → Option β) : Option β :=
 Zo (Yaa.l0 k aH (aH.length : Int) aB aC aA aH K) k (0)
noncomputable def Yaa.t (k : Nat) (aB : Int) (aC aA aH : LD) : Option (Bool) := Yaa.g k aB aC aA aH (fun z0 => some z0)
noncomputable def Yaa.f {β : Type} (k : Nat) (aB : Int) (aC aA aH : LD) (K : Bool → Option β) : Option β := bd1 (Yaa.t k aB aC aA aH) K
noncomputable def Yaa.e (k : Nat) : Zk := ent [.agg [.n, .l, .l, .l]] [1] [.b] [4] false (Yaa.t k)
noncomputable def Yaa.p (k : Nat) : Pro := ⟨Try.prog, [(73, YW.e k), (71, Yad.e k), (88, Yan.e k), (89, Yaf.e k), (90, YS.e k)], Zn [(2, kp [1, 6, 7, 8])] false [], k⟩
noncomputable def Yaa.d (k : Nat) (aB : Int) (aC aA aH : LD) : Ex → St → Option (Bool) := (Yaa.p k).fin Try.f27 [.agg [.int .i64 aB, .sl aC, .sl aA, .sl aH]] [1] [.b]
noncomputable def Yaa.s0 (aD : LD) (aE aG : Int) (aI aJ aR : LD) (v : Int) : St :=
 match v with
 | aF => ZX 59 [(1, .bp 0 0), (6, .d false (.sl aD)), (7, .d true (.int .i64 aE)), (8, .d true (.int .i64 aF))] [.box none 44 [.d false (.int .i64 aG), .d false (.sl aI), .d false (.sl aJ), .d false (.sl aR)]]
noncomputable def Yaa.r0 (k : Nat) (aB : Int) (aC aA aH aD : LD) (aE aG : Int) (aI aJ aR : LD) (n : Nat) (v : Int) : Option (Bool) := (Yaa.p k).lp (Zt Try.f27) 2 [1, 0, 1, 0] (Yaa.d k aB aC aA aH) n (Yaa.s0 aD aE aG aI aJ aR v)
theorem Yaa.l0_eq (k : Nat) (aB : Int) (aC aA aH aD : LD) (aE aG : Int) (aI aJ aR : LD) : ∀ n v, Yaa.r0 k aB aC aA aH aD aE aG aI aJ aR n v = Zo (Yaa.l0 k aD aE aG aI aJ aR (fun z0 => some z0)) n v :=
 Zm (Yaa.s0 aD aE aG aI aJ aR) _ fun L0 v => by kernel_rfl
theorem Yaa.ok (k : Nat) : Za Try.prog 27 (Yaa.e k) := Zh (Yaa.p k) mix tyok Try.func27 ⟨YW.ok k, Yad.ok k, Yan.ok k, Yaf.ok k, YS.ok k⟩ (by kernel_rfl) (fun aB aC aA aH => Eq.trans (b := Yaa.m k aB aC aA aH (fun z0 => some z0) (fun aD aE aG aI aJ aR => Yaa.r0 k aB aC aA aH aD aE aG aI aJ aR k)) (by kernel_rfl) (congrArg (Yaa.m k aB aC aA aH (fun z0 => some z0)) (funext fun aD => funext fun aE => funext fun aG => funext fun aI => funext fun aJ => funext fun aR => funext fun v => Yaa.l0_eq k aB aC aA aH aD aE aG aI aJ aR k v) :))
noncomputable def Y1.l0 {β : Type} (k : Nat) (aD aE : LD) (aF : Int) (K : Bool → Option β) (L0 : Int → Option β) (v : Int) : Option β :=
 match v with
 | aG => bif (decide ((aG : Int) < aF)) then (atR aE aG [.s, .s] fun x20 x23 => (YW.f k x20 (fun y24 => bif (!y24) then (K false) else (YW.f k x23 (fun y25 => bif (!y25) then (K false) else (bif (decide ((aG : Int) > 0)) then (atR aD (IntKind.wrap .i64 (aG - 1)) [.s, .s] fun x29 x32 => (bif (!(ZbO x29 x20)) then (K false) else (L0 (IntKind.wrap .i64 (aG + 1))))) else (L0 (IntKind.wrap .i64 (aG + 1))))))))) else (K (decide (((aD.length : Int) : Int) ≤ 8)))
noncomputable def Y1.m {β : Type} (k : Nat) (a0 : LD) (K : Bool → Option β) (F : (LD → LD → Int → Int → Option β)) : Option β :=
 F a0 a0 (a0.length : Int) (0)
noncomputable def Y1.g {β : Type} (k : Nat) (a0 : LD) (K : Bool → Option β) : Option β :=
 Zo (Y1.l0 k a0 a0 (a0.length : Int) K) k (0)
noncomputable def Y1.t (k : Nat) (a0 : LD) : Option (Bool) := Y1.g k a0 (fun z0 => some z0)
noncomputable def Y1.f {β : Type} (k : Nat) (a0 : LD) (K : Bool → Option β) : Option β := bd1 (Y1.t k a0) K
noncomputable def Y1.e (k : Nat) : Zk := ent [.d .l] [1] [.b] [4] false (Y1.t k)
noncomputable def Y1.p (k : Nat) : Pro := ⟨Try.prog, [(73, YW.e k)], Zn [(2, kp [0, 5, 6, 7])] false [], k⟩
noncomputable def Y1.d (k : Nat) (a0 : LD) : Ex → St → Option (Bool) := (Y1.p k).fin Try.f93 [.d (.sl a0)] [1] [.b]
noncomputable def Y1.s0 (aD aE : LD) (aF v : Int) : St :=
 match v with
 | aG => ZX 41 [(0, .d false (.sl aD)), (5, .d false (.sl aE)), (6, .d true (.int .i64 aF)), (7, .d true (.int .i64 aG))] []
noncomputable def Y1.r0 (k : Nat) (a0 aD aE : LD) (aF : Int) (n : Nat) (v : Int) : Option (Bool) := (Y1.p k).lp (Zt Try.f93) 2 [1, 0, 1, 0] (Y1.d k a0) n (Y1.s0 aD aE aF v)
theorem Y1.l0_eq (k : Nat) (a0 aD aE : LD) (aF : Int) : ∀ n v, Y1.r0 k a0 aD aE aF n v = Zo (Y1.l0 k aD aE aF (fun z0 => some z0)) n v :=
 Zm (Y1.s0 aD aE aF) _ fun L0 v => by kernel_rfl
theorem Y1.ok (k : Nat) : Za Try.prog 93 (Y1.e k) := Zh (Y1.p k) mix tyok Try.func93 (YW.ok k) (by kernel_rfl) (fun a0 => Eq.trans (b := Y1.m k a0 (fun z0 => some z0) (fun aD aE aF => Y1.r0 k a0 aD aE aF k)) (by kernel_rfl) (congrArg (Y1.m k a0 (fun z0 => some z0)) (funext fun aD => funext fun aE => funext fun aF => funext fun v => Y1.l0_eq k a0 aD aE aF k v) :))
noncomputable def Yat.g {β : Type} (k : Nat) (aB : BA) (aC aA : LD) (aH : Int) (K : Bool → Option β) : Option β :=
 YW.f k aB (fun y1 => bif y1 then (Y1.f k aC (fun y33 => bif y33 then (YS.f k aA 4 (fun y34 => bif y34 then (Yan.f k aH (fun y35 => K y35)) else (K false))) else (K false))) else (K false))
noncomputable def Yat.t (k : Nat) (aB : BA) (aC aA : LD) (aH : Int) : Option (Bool) := Yat.g k aB aC aA aH (fun z0 => some z0)
noncomputable def Yat.f {β : Type} (k : Nat) (aB : BA) (aC aA : LD) (aH : Int) (K : Bool → Option β) : Option β := bd1 (Yat.t k aB aC aA aH) K
noncomputable def Yat.e (k : Nat) : Zk := ent [.agg [.s, .l, .l, .n]] [1] [.b] [4] false (Yat.t k)
noncomputable def Yat.p (k : Nat) : Pro := ⟨Try.prog, [(73, YW.e k), (93, Y1.e k), (90, YS.e k), (88, Yan.e k)], Zn [] false [], k⟩
theorem Yat.ok (k : Nat) : Za Try.prog 29 (Yat.e k) := Zh (Yat.p k) mix tyok Try.func29 ⟨YW.ok k, Y1.ok k, YS.ok k, Yan.ok k⟩ (by kernel_rfl) (fun aB aC aA aH => by show _ = _; kernel_rfl)
noncomputable def Yar.g {β : Type} (k : Nat) (aB : BA) (aC aA : LD) (aH : Int) (K : Bool → Option β) : Option β :=
 Yat.f k aB aC aA aH (fun y36 => K (!y36))
noncomputable def Yar.t (k : Nat) (aB : BA) (aC aA : LD) (aH : Int) : Option (Bool) := Yar.g k aB aC aA aH (fun z0 => some z0)
noncomputable def Yar.f {β : Type} (k : Nat) (aB : BA) (aC aA : LD) (aH : Int) (K : Bool → Option β) : Option β := bd1 (Yar.t k aB aC aA aH) K
noncomputable def Yar.e (k : Nat) : Zk := ent [.agg [.s, .l, .l, .n]] [1] [.b] [4] false (Yar.t k)
noncomputable def Yar.p (k : Nat) : Pro := ⟨Try.prog, [(29, Yat.e k)], Zn [] false [], k⟩
theorem Yar.ok (k : Nat) : Za Try.prog 176 (Yar.e k) := Zh (Yar.p k) mix tyok Try.func176 (Yat.ok k) (by kernel_rfl) (fun aB aC aA aH => by show _ = _; kernel_rfl)
noncomputable def Ye.l0 {β : Type} (k : Nat) (aD : LD) (aE : Int) (K L0 : Int → Option β) (v : Int) : Option β :=
 match v with
 | aF => bif (decide ((aF : Int) < aE)) then (atR aD aF [.s, .l, .l, .n] fun x41 x44 x47 x50 => (Yar.f k x41 x44 x47 x50 (fun y51 => bif y51 then (K aF) else (L0 (IntKind.wrap .i64 (aF + 1)))))) else (K (-1))
noncomputable def Ye.m {β : Type} (k : Nat) (a0 : LD) (K : Int → Option β) (F : (LD → Int → Int → Option β)) : Option β :=
 F a0 (a0.length : Int) (0)
noncomputable def Ye.g {β : Type} (k : Nat) (a0 : LD) (K : Int → Option β) : Option β :=
 Zo (Ye.l0 k a0 (a0.length : Int) K) k (0)
noncomputable def Ye.t (k : Nat) (a0 : LD) : Option (Int) := Ye.g k a0 (fun z0 => some z0)
noncomputable def Ye.f {β : Type} (k : Nat) (a0 : LD) (K : Int → Option β) : Option β := bd1 (Ye.t k a0) K
noncomputable def Ye.e (k : Nat) : Zk := ent [.d .l, .fn 176 []] [1] [.n] [3] false (Ye.t k)
noncomputable def Ye.p (k : Nat) : Pro := ⟨Try.prog, [(176, Yar.e k)], Zn [(2, kp [0, 1, 7, 8])] false [], k⟩
noncomputable def Ye.d (k : Nat) (a0 : LD) : Ex → St → Option (Int) := (Ye.p k).fin Try.f218 [.d (.sl a0), .d (.fn 176 [])] [1] [.n]
noncomputable def Ye.s0 (aD : LD) (aE v : Int) : St :=
 match v with
 | aF => ZX 19 [(0, .d false (.sl aD)), (1, .d false (.fn 176 [])), (7, .d true (.int .i64 aE)), (8, .d true (.int .i64 aF))] []
noncomputable def Ye.r0 (k : Nat) (a0 aD : LD) (aE : Int) (n : Nat) (v : Int) : Option (Int) := (Ye.p k).lp (Zt Try.f218) 2 [1, 0, 1, 0] (Ye.d k a0) n (Ye.s0 aD aE v)
theorem Ye.l0_eq (k : Nat) (a0 aD : LD) (aE : Int) : ∀ n v, Ye.r0 k a0 aD aE n v = Zo (Ye.l0 k aD aE (fun z0 => some z0)) n v :=
 Zm (Ye.s0 aD aE) _ fun L0 v => by kernel_rfl
theorem Ye.ok (k : Nat) : Za Try.prog 218 (Ye.e k) := Zh (Ye.p k) mix tyok Try.func218 (Yar.ok k) (by kernel_rfl) (fun a0 => Eq.trans (b := Ye.m k a0 (fun z0 => some z0) (fun aD aE => Ye.r0 k a0 aD aE k)) (by kernel_rfl) (congrArg (Ye.m k a0 (fun z0 => some z0)) (funext fun aD => funext fun aE => funext fun v => Ye.l0_eq k a0 aD aE k v) :))
noncomputable def Yp.g {β : Type} (k : Nat) (a0 : LD) (K : Bool → Option β) : Option β :=
 Ye.f k a0 (fun y52 => K (decide ((y52 : Int) ≥ 0)))
noncomputable def Yp.t (k : Nat) (a0 : LD) : Option (Bool) := Yp.g k a0 (fun z0 => some z0)
noncomputable def Yp.f {β : Type} (k : Nat) (a0 : LD) (K : Bool → Option β) : Option β := bd1 (Yp.t k a0) K
noncomputable def Yp.e (k : Nat) : Zk := ent [.d .l, .fn 176 []] [1] [.b] [4] false (Yp.t k)
noncomputable def Yp.p (k : Nat) : Pro := ⟨Try.prog, [(218, Ye.e k)], Zn [] false [], k⟩
theorem Yp.ok (k : Nat) : Za Try.prog 175 (Yp.e k) := Zh (Yp.p k) mix tyok Try.func175 (Ye.ok k) (by kernel_rfl) (fun a0 => by show _ = _; kernel_rfl)
noncomputable def Yaq.g {β : Type} (k : Nat) (a0 : Int) (K : Bool → Option β) : Option β :=
 Yan.f k a0 (fun y1 => K (!y1))
noncomputable def Yaq.t (k : Nat) (a0 : Int) : Option (Bool) := Yaq.g k a0 (fun z0 => some z0)
noncomputable def Yaq.f {β : Type} (k : Nat) (a0 : Int) (K : Bool → Option β) : Option β := bd1 (Yaq.t k a0) K
noncomputable def Yaq.e (k : Nat) : Zk := ent [.d .n] [1] [.b] [4] false (Yaq.t k)
noncomputable def Yaq.p (k : Nat) : Pro := ⟨Try.prog, [(88, Yan.e k)], Zn [] false [], k⟩
theorem Yaq.ok (k : Nat) : Za Try.prog 178 (Yaq.e k) := Zh (Yaq.p k) mix tyok Try.func178 (Yan.ok k) (by kernel_rfl) (fun a0 => by show _ = _; kernel_rfl)
noncomputable def Yj.l0 {β : Type} (k : Nat) (aD : LD) (aE : Int) (K L0 : Int → Option β) (v : Int) : Option β :=
 match v with
 | aF => bif (decide ((aF : Int) < aE)) then (atR aD aF [.n] fun x9 => (Yaq.f k x9 (fun y10 => bif y10 then (K aF) else (L0 (IntKind.wrap .i64 (aF + 1)))))) else (K (-1))
noncomputable def Yj.m {β : Type} (k : Nat) (a0 : LD) (K : Int → Option β) (F : (LD → Int → Int → Option β)) : Option β :=
 F a0 (a0.length : Int) (0)
noncomputable def Yj.g {β : Type} (k : Nat) (a0 : LD) (K : Int → Option β) : Option β :=
 Zo (Yj.l0 k a0 (a0.length : Int) K) k (0)
noncomputable def Yj.t (k : Nat) (a0 : LD) : Option (Int) := Yj.g k a0 (fun z0 => some z0)
noncomputable def Yj.f {β : Type} (k : Nat) (a0 : LD) (K : Int → Option β) : Option β := bd1 (Yj.t k a0) K
noncomputable def Yj.e (k : Nat) : Zk := ent [.d .l, .fn 178 []] [1] [.n] [3] false (Yj.t k)
noncomputable def Yj.p (k : Nat) : Pro := ⟨Try.prog, [(178, Yaq.e k)], Zn [(2, kp [0, 1, 7, 8])] false [], k⟩
noncomputable def Yj.d (k : Nat) (a0 : LD) : Ex → St → Option (Int) := (Yj.p k).fin Try.f219 [.d (.sl a0), .d (.fn 178 [])] [1] [.n]
noncomputable def Yj.s0 (aD : LD) (aE v : Int) : St :=
 match v with
 | aF => ZX 19 [(0, .d false (.sl aD)), (1, .d false (.fn 178 [])), (7, .d true (.int .i64 aE)), (8, .d true (.int .i64 aF))] []
noncomputable def Yj.r0 (k : Nat) (a0 aD : LD) (aE : Int) (n : Nat) (v : Int) : Option (Int) := (Yj.p k).lp (Zt Try.f219) 2 [1, 0, 1, 0] (Yj.d k a0) n (Yj.s0 aD aE v)
theorem Yj.l0_eq (k : Nat) (a0 aD : LD) (aE : Int) : ∀ n v, Yj.r0 k a0 aD aE n v = Zo (Yj.l0 k aD aE (fun z0 => some z0)) n v :=
 Zm (Yj.s0 aD aE) _ fun L0 v => by kernel_rfl
theorem Yj.ok (k : Nat) : Za Try.prog 219 (Yj.e k) := Zh (Yj.p k) mix tyok Try.func219 (Yaq.ok k) (by kernel_rfl) (fun a0 => Eq.trans (b := Yj.m k a0 (fun z0 => some z0) (fun aD aE => Yj.r0 k a0 aD aE k)) (by kernel_rfl) (congrArg (Yj.m k a0 (fun z0 => some z0)) (funext fun aD => funext fun aE => funext fun v => Yj.l0_eq k a0 aD aE k v) :))
noncomputable def YH.g {β : Type} (k : Nat) (a0 : LD) (K : Bool → Option β) : Option β :=
 Yj.f k a0 (fun y11 => K (decide ((y11 : Int) ≥ 0)))
noncomputable def YH.t (k : Nat) (a0 : LD) : Option (Bool) := YH.g k a0 (fun z0 => some z0)
noncomputable def YH.f {β : Type} (k : Nat) (a0 : LD) (K : Bool → Option β) : Option β := bd1 (YH.t k a0) K
noncomputable def YH.e (k : Nat) : Zk := ent [.d .l, .fn 178 []] [1] [.b] [4] false (YH.t k)
noncomputable def YH.p (k : Nat) : Pro := ⟨Try.prog, [(219, Yj.e k)], Zn [] false [], k⟩
theorem YH.ok (k : Nat) : Za Try.prog 177 (YH.e k) := Zh (YH.p k) mix tyok Try.func177 (Yj.ok k) (by kernel_rfl) (fun a0 => by show _ = _; kernel_rfl)
noncomputable def Yas.g {β : Type} (k : Nat) (aB : Int) (aC aA aH a1 a2 : LD) (K : Bool → Option β) : Option β :=
 Yaa.f k aB aC aA aH (fun y70 => bif y70 then (bif (decide (((a1.length : Int) : Int) ≤ 12)) then (bif (((a2.length : Int) : Int) == (a1.length : Int)) then (Yp.f k a1 (fun y71 => bif (!y71) then (YH.f k a2 (fun y72 => K (!y72))) else (K false))) else (K false)) else (K false)) else (K false))
noncomputable def Yas.t (k : Nat) (aB : Int) (aC aA aH a1 a2 : LD) : Option (Bool) := Yas.g k aB aC aA aH a1 a2 (fun z0 => some z0)
noncomputable def Yas.f {β : Type} (k : Nat) (aB : Int) (aC aA aH a1 a2 : LD) (K : Bool → Option β) : Option β := bd1 (Yas.t k aB aC aA aH a1 a2) K
noncomputable def Yas.e (k : Nat) : Zk := ent [.agg [.n, .l, .l, .l], .d .l, .d .l] [1] [.b] [4] false (Yas.t k)
noncomputable def Yas.p (k : Nat) : Pro := ⟨Try.prog, [(27, Yaa.e k), (175, Yp.e k), (177, YH.e k)], Zn [] false [], k⟩
theorem Yas.ok (k : Nat) : Za Try.prog 114 (Yas.e k) := Zh (Yas.p k) mix tyok Try.func114 ⟨Yaa.ok k, Yp.ok k, YH.ok k⟩ (by kernel_rfl) (fun aB aC aA aH a1 a2 => by show _ = _; kernel_rfl)
noncomputable def Y5.l0 {β : Type} (k : Nat) (aD : BA) (aE : LD) (aF : Int) (K : BA → Bool → Option β) (L0 : Int → Option β) (v : Int) : Option β :=
 match v with
 | aG => bif (decide ((aG : Int) < aF)) then (atR aE aG [.s, .s] fun x11 x14 => (bif (Zae x11 aD) then (K x14 true) else (L0 (IntKind.wrap .i64 (aG + 1))))) else (K (⟨#[]⟩ : BA) false)
noncomputable def Y5.m {β : Type} (k : Nat) (a0 : LD) (a1 : BA) (K : BA → Bool → Option β) (F : (BA → LD → Int → Int → Option β)) : Option β :=
 F a1 a0 (a0.length : Int) (0)
noncomputable def Y5.g {β : Type} (k : Nat) (a0 : LD) (a1 : BA) (K : BA → Bool → Option β) : Option β :=
 Zo (Y5.l0 k a1 a0 (a0.length : Int) K) k (0)
noncomputable def Y5.t (k : Nat) (a0 : LD) (a1 : BA) : Option (BA × Bool) := Y5.g k a0 a1 (fun z0 z1 => some (z0, z1))
noncomputable def Y5.f {β : Type} (k : Nat) (a0 : LD) (a1 : BA) (K : BA → Bool → Option β) : Option β := bd2 (Y5.t k a0 a1) K
noncomputable def Y5.e (k : Nat) : Zk := ent [.d .l, .d .s] [1, 1] [.s, .b] [9, 4] false (Y5.t k)
noncomputable def Y5.p (k : Nat) : Pro := ⟨Try.prog, [], Zn [(2, kp [1, 8, 9, 10])] false [], k⟩
noncomputable def Y5.d (k : Nat) (a0 : LD) (a1 : BA) : Ex → St → Option (BA × Bool) := (Y5.p k).fin Try.f164 [.d (.sl a0), .d (.str a1)] [1, 1] [.s, .b]
noncomputable def Y5.s0 (aD : BA) (aE : LD) (aF v : Int) : St :=
 match v with
 | aG => ZX 21 [(1, .d false (.str aD)), (8, .d false (.sl aE)), (9, .d true (.int .i64 aF)), (10, .d true (.int .i64 aG))] []
noncomputable def Y5.r0 (k : Nat) (a0 : LD) (a1 aD : BA) (aE : LD) (aF : Int) (n : Nat) (v : Int) : Option (BA × Bool) := (Y5.p k).lp (Zt Try.f164) 2 [1, 0, 1, 0] (Y5.d k a0 a1) n (Y5.s0 aD aE aF v)
theorem Y5.l0_eq (k : Nat) (a0 : LD) (a1 aD : BA) (aE : LD) (aF : Int) : ∀ n v, Y5.r0 k a0 a1 aD aE aF n v = Zo (Y5.l0 k aD aE aF (fun z0 z1 => some (z0, z1))) n v :=
 Zm (Y5.s0 aD aE aF) _ fun L0 v => by kernel_rfl
theorem Y5.ok (k : Nat) : Za Try.prog 164 (Y5.e k) := Zh (Y5.p k) mix tyok Try.func164 trivial (by kernel_rfl) (fun a0 a1 => Eq.trans (b := Y5.m k a0 a1 (fun z0 z1 => some (z0, z1)) (fun aD aE aF => Y5.r0 k a0 a1 aD aE aF k)) (by kernel_rfl) (congrArg (Y5.m k a0 a1 (fun z0 z1 => some (z0, z1))) (funext fun aD => funext fun aE => funext fun aF => funext fun v => Y5.l0_eq k a0 a1 aD aE aF k v) :))
noncomputable def YM.l0 {β : Type} (k : Nat) (aD : LD) (aE : BA) (aF : Int) (K L0 : Int → Option β) (v : Int) : Option β :=
 match v with
 | aG => bif (decide ((aG : Int) < aF)) then (atR aD aG [.s] fun x8 => (bif (Zae aE x8) then (K aG) else (L0 (IntKind.wrap .i64 (aG + 1))))) else (K (-1))
noncomputable def YM.m {β : Type} (k : Nat) (a0 : LD) (a1 : BA) (K : Int → Option β) (F : (LD → BA → Int → Int → Option β)) : Option β :=
 F a0 a1 (a0.length : Int) (0)
noncomputable def YM.g {β : Type} (k : Nat) (a0 : LD) (a1 : BA) (K : Int → Option β) : Option β :=
 Zo (YM.l0 k a0 a1 (a0.length : Int) K) k (0)
noncomputable def YM.t (k : Nat) (a0 : LD) (a1 : BA) : Option (Int) := YM.g k a0 a1 (fun z0 => some z0)
noncomputable def YM.f {β : Type} (k : Nat) (a0 : LD) (a1 : BA) (K : Int → Option β) : Option β := bd1 (YM.t k a0 a1) K
noncomputable def YM.e (k : Nat) : Zk := ent [.d .l, .d .s] [1] [.n] [3] false (YM.t k)
noncomputable def YM.p (k : Nat) : Pro := ⟨Try.prog, [], Zn [(2, kp [0, 1, 7, 8])] false [], k⟩
noncomputable def YM.d (k : Nat) (a0 : LD) (a1 : BA) : Ex → St → Option (Int) := (YM.p k).fin Try.f150 [.d (.sl a0), .d (.str a1)] [1] [.n]
noncomputable def YM.s0 (aD : LD) (aE : BA) (aF v : Int) : St :=
 match v with
 | aG => ZX 19 [(0, .d false (.sl aD)), (1, .d false (.str aE)), (7, .d true (.int .i64 aF)), (8, .d true (.int .i64 aG))] []
noncomputable def YM.r0 (k : Nat) (a0 : LD) (a1 : BA) (aD : LD) (aE : BA) (aF : Int) (n : Nat) (v : Int) : Option (Int) := (YM.p k).lp (Zt Try.f150) 2 [1, 0, 1, 0] (YM.d k a0 a1) n (YM.s0 aD aE aF v)
theorem YM.l0_eq (k : Nat) (a0 : LD) (a1 : BA) (aD : LD) (aE : BA) (aF : Int) : ∀ n v, YM.r0 k a0 a1 aD aE aF n v = Zo (YM.l0 k aD aE aF (fun z0 => some z0)) n v :=
 Zm (YM.s0 aD aE aF) _ fun L0 v => by kernel_rfl
theorem YM.ok (k : Nat) : Za Try.prog 150 (YM.e k) := Zh (YM.p k) mix tyok Try.func150 trivial (by kernel_rfl) (fun a0 a1 => Eq.trans (b := YM.m k a0 a1 (fun z0 => some z0) (fun aD aE aF => YM.r0 k a0 a1 aD aE aF k)) (by kernel_rfl) (congrArg (YM.m k a0 a1 (fun z0 => some z0)) (funext fun aD => funext fun aE => funext fun aF => funext fun v => YM.l0_eq k a0 a1 aD aE aF k v) :))
noncomputable def YY.g {β : Type} (k : Nat) (a0 : LD) (a1 : BA) (K : Bool → Option β) : Option β :=
 YM.f k a0 a1 (fun y9 => K (decide ((y9 : Int) ≥ 0)))
noncomputable def YY.t (k : Nat) (a0 : LD) (a1 : BA) : Option (Bool) := YY.g k a0 a1 (fun z0 => some z0)
noncomputable def YY.f {β : Type} (k : Nat) (a0 : LD) (a1 : BA) (K : Bool → Option β) : Option β := bd1 (YY.t k a0 a1) K
noncomputable def YY.e (k : Nat) : Zk := ent [.d .l, .d .s] [1] [.b] [4] false (YY.t k)
noncomputable def YY.p (k : Nat) : Pro := ⟨Try.prog, [(150, YM.e k)], Zn [] false [], k⟩
theorem YY.ok (k : Nat) : Za Try.prog 68 (YY.e k) := Zh (YY.p k) mix tyok Try.func68 (YM.ok k) (by kernel_rfl) (fun a0 a1 => by show _ = _; kernel_rfl)
noncomputable def YaG.g {β : Type} (k : Nat) (aB : Int) (aC : BA) (aA a1 : LD) (K : Bool → Option β) : Option β :=
 Y5.f k a1 aC (fun y15 y16 => bif y16 then (YY.f k aA y15 (fun y17 => let J0 := (bif ((aB : Int) == 2) then (K (!y17)) else (bif ((aB : Int) == 4) then (K y16) else (K (!y16)))); bif ((aB : Int) == 1) then (bif ((aB : Int) == 1) then (K y17) else J0) else (bif ((aB : Int) == 3) then (K y17) else J0))) else (let J1 := (bif ((aB : Int) == 2) then (K true) else (bif ((aB : Int) == 4) then (K y16) else (K (!y16)))); bif ((aB : Int) == 1) then (bif ((aB : Int) == 1) then (K false) else J1) else (bif ((aB : Int) == 3) then (K false) else J1)))
noncomputable def YaG.t (k : Nat) (aB : Int) (aC : BA) (aA a1 : LD) : Option (Bool) := YaG.g k aB aC aA a1 (fun z0 => some z0)
noncomputable def YaG.f {β : Type} (k : Nat) (aB : Int) (aC : BA) (aA a1 : LD) (K : Bool → Option β) : Option β := bd1 (YaG.t k aB aC aA a1) K
noncomputable def YaG.e (k : Nat) : Zk := ent [.agg [.n, .s, .l], .d .l] [1] [.b] [4] false (YaG.t k)
noncomputable def YaG.p (k : Nat) : Pro := ⟨Try.prog, [(164, Y5.e k), (68, YY.e k)], Zn [] false [], k⟩
theorem YaG.ok (k : Nat) : Za Try.prog 97 (YaG.e k) := Zh (YaG.p k) mix tyok Try.func97 ⟨Y5.ok k, YY.ok k⟩ (by kernel_rfl) (fun aB aC aA a1 => by show _ = _; kernel_rfl)
noncomputable def Yay.g {β : Type} (k : Nat) (aB : Int) (aC : BA) (aA cA : LD) (K : Bool → Option β) : Option β :=
 YaG.f k aB aC aA cA (fun y18 => K (!y18))
noncomputable def Yay.t (k : Nat) (aB : Int) (aC : BA) (aA cA : LD) : Option (Bool) := Yay.g k aB aC aA cA (fun z0 => some z0)
noncomputable def Yay.f {β : Type} (k : Nat) (aB : Int) (aC : BA) (aA cA : LD) (K : Bool → Option β) : Option β := bd1 (Yay.t k aB aC aA cA) K
noncomputable def Yay.e (k : Nat) : Zk := ent [.agg [.n, .s, .l], .ip [.l]] [1] [.b] [4] false (Yay.t k)
noncomputable def Yay.p (k : Nat) : Pro := ⟨Try.prog, [(97, YaG.e k)], Zn [] false [], k⟩
theorem Yay.ok (k : Nat) : Za Try.prog 96 (Yay.e k) := Zh (Yay.p k) mix tyok Try.func96 (YaG.ok k) (by kernel_rfl) (fun aB aC aA cA => by show _ = _; kernel_rfl)
noncomputable def Yf.l0 {β : Type} (k : Nat) (aD aE : LD) (aF : Int) (K L0 : Int → Option β) (v : Int) : Option β :=
 match v with
 | aG => bif (decide ((aG : Int) < aF)) then (atR aD aG [.n, .s, .l] fun x23 x26 x29 => (Yay.f k x23 x26 x29 aE (fun y30 => bif y30 then (K aG) else (L0 (IntKind.wrap .i64 (aG + 1)))))) else (K (-1))
noncomputable def Yf.m {β : Type} (k : Nat) (a0 a1_0_0 : LD) (K : Int → Option β) (F : (LD → LD → Int → Int → Option β)) : Option β :=
 F a0 a1_0_0 (a0.length : Int) (0)
noncomputable def Yf.g {β : Type} (k : Nat) (a0 a1_0_0 : LD) (K : Int → Option β) : Option β :=
 Zo (Yf.l0 k a0 a1_0_0 (a0.length : Int) K) k (0)
noncomputable def Yf.t (k : Nat) (a0 a1_0_0 : LD) : Option (Int) := Yf.g k a0 a1_0_0 (fun z0 => some z0)
noncomputable def Yf.f {β : Type} (k : Nat) (a0 a1_0_0 : LD) (K : Int → Option β) : Option β := bd1 (Yf.t k a0 a1_0_0) K
noncomputable def Yf.e (k : Nat) : Zk := ent [.d .l, .fn 96 [[.l]]] [1] [.n] [3] false (Yf.t k)
noncomputable def Yf.p (k : Nat) : Pro := ⟨Try.prog, [(96, Yay.e k)], Zn [(2, kp [0, 1, 7, 8])] false [], k⟩
noncomputable def Yf.d (k : Nat) (a0 a1_0_0 : LD) : Ex → St → Option (Int) := (Yf.p k).fin Try.f163 [.d (.sl a0), .d (.fn 96 [[.sl a1_0_0]])] [1] [.n]
noncomputable def Yf.s0 (aD aE : LD) (aF v : Int) : St :=
 match v with
 | aG => ZX 19 [(0, .d false (.sl aD)), (1, .d false (.fn 96 [[.sl aE]])), (7, .d true (.int .i64 aF)), (8, .d true (.int .i64 aG))] []
noncomputable def Yf.r0 (k : Nat) (a0 a1_0_0 aD aE : LD) (aF : Int) (n : Nat) (v : Int) : Option (Int) := (Yf.p k).lp (Zt Try.f163) 2 [1, 0, 1, 0] (Yf.d k a0 a1_0_0) n (Yf.s0 aD aE aF v)
theorem Yf.l0_eq (k : Nat) (a0 a1_0_0 aD aE : LD) (aF : Int) : ∀ n v, Yf.r0 k a0 a1_0_0 aD aE aF n v = Zo (Yf.l0 k aD aE aF (fun z0 => some z0)) n v :=
 Zm (Yf.s0 aD aE aF) _ fun L0 v => by kernel_rfl
theorem Yf.ok (k : Nat) : Za Try.prog 163 (Yf.e k) := Zh (Yf.p k) mix tyok Try.func163 (Yay.ok k) (by kernel_rfl) (fun a0 a1_0_0 => Eq.trans (b := Yf.m k a0 a1_0_0 (fun z0 => some z0) (fun aD aE aF => Yf.r0 k a0 a1_0_0 aD aE aF k)) (by kernel_rfl) (congrArg (Yf.m k a0 a1_0_0 (fun z0 => some z0)) (funext fun aD => funext fun aE => funext fun aF => funext fun v => Yf.l0_eq k a0 a1_0_0 aD aE aF k v) :))
noncomputable def Yv.g {β : Type} (k : Nat) (a0 a1_0_0 : LD) (K : Bool → Option β) : Option β :=
 Yf.f k a0 a1_0_0 (fun y31 => K (decide ((y31 : Int) ≥ 0)))
noncomputable def Yv.t (k : Nat) (a0 a1_0_0 : LD) : Option (Bool) := Yv.g k a0 a1_0_0 (fun z0 => some z0)
noncomputable def Yv.f {β : Type} (k : Nat) (a0 a1_0_0 : LD) (K : Bool → Option β) : Option β := bd1 (Yv.t k a0 a1_0_0) K
noncomputable def Yv.e (k : Nat) : Zk := ent [.d .l, .fn 96 [[.l]]] [1] [.b] [4] false (Yv.t k)
noncomputable def Yv.p (k : Nat) : Pro := ⟨Try.prog, [(163, Yf.e k)], Zn [] false [], k⟩
theorem Yv.ok (k : Nat) : Za Try.prog 95 (Yv.e k) := Zh (Yv.p k) mix tyok Try.func95 (Yf.ok k) (by kernel_rfl) (fun a0 a1_0_0 => by show _ = _; kernel_rfl)
noncomputable def YaD.g {β : Type} (k : Nat) (a0 a1 : LD) (K : Bool → Option β) : Option β :=
 Yaf.f k a0 (fun y1 => bif y1 then (Y1.f k a1 (fun y2 => bif y2 then (Yv.f k a0 a1 (fun y32 => K (!y32))) else (K false))) else (K false))
noncomputable def YaD.t (k : Nat) (a0 a1 : LD) : Option (Bool) := YaD.g k a0 a1 (fun z0 => some z0)
noncomputable def YaD.f {β : Type} (k : Nat) (a0 a1 : LD) (K : Bool → Option β) : Option β := bd1 (YaD.t k a0 a1) K
noncomputable def YaD.e (k : Nat) : Zk := ent [.d .l, .d .l] [1] [.b] [4] false (YaD.t k)
noncomputable def YaD.p (k : Nat) : Pro := ⟨Try.prog, [(89, Yaf.e k), (93, Y1.e k), (95, Yv.e k)], Zn [] false [], k⟩
theorem YaD.ok (k : Nat) : Za Try.prog 31 (YaD.e k) := Zh (YaD.p k) mix tyok Try.func31 ⟨Yaf.ok k, Y1.ok k, Yv.ok k⟩ (by kernel_rfl) (fun a0 a1 => by show _ = _; kernel_rfl)
noncomputable def Yau.g {β : Type} (k : Nat) (a0 : BA) (cA : Int) (f0_1 f0_2 f0_3 : LD) (K : Bool → Option β) : Option β :=
 YY.f k f0_2 a0 (fun y1 => K (!y1))
noncomputable def Yau.t (k : Nat) (a0 : BA) (cA : Int) (f0_1 f0_2 f0_3 : LD) : Option (Bool) := Yau.g k a0 cA f0_1 f0_2 f0_3 (fun z0 => some z0)
noncomputable def Yau.f {β : Type} (k : Nat) (a0 : BA) (cA : Int) (f0_1 f0_2 f0_3 : LD) (K : Bool → Option β) : Option β := bd1 (Yau.t k a0 cA f0_1 f0_2 f0_3) K
noncomputable def Yau.e (k : Nat) : Zk := ent [.d .s, .ip [.n, .l, .l, .l]] [1] [.b] [4] false (Yau.t k)
noncomputable def Yau.p (k : Nat) : Pro := ⟨Try.prog, [(68, YY.e k)], Zn [] false [], k⟩
theorem Yau.ok (k : Nat) : Za Try.prog 86 (Yau.e k) := Zh (Yau.p k) mix tyok Try.func86 (YY.ok k) (by kernel_rfl) (fun a0 cA f0_1 f0_2 f0_3 => by show _ = _; kernel_rfl)
noncomputable def Yg.l0 {β : Type} (k : Nat) (aD : LD) (aE : Int) (aF aG aI : LD) (aJ : Int) (K L0 : Int → Option β) (v : Int) : Option β :=
 match v with
 | aR => bif (decide ((aR : Int) < aJ)) then (atR aD aR [.s] fun x9 => (Yau.f k x9 aE aF aG aI (fun y10 => bif y10 then (K aR) else (L0 (IntKind.wrap .i64 (aR + 1)))))) else (K (-1))
noncomputable def Yg.m {β : Type} (k : Nat) (a0 : LD) (a1_0_0 : Int) (a1_0_1 a1_0_2 a1_0_3 : LD) (K : Int → Option β) (F : (LD → Int → LD → LD → LD → Int → Int → Option β)) : Option β :=
 F a0 a1_0_0 a1_0_1 a1_0_2 a1_0_3 (a0.length : Int) (0)
noncomputable def Yg.g {β : Type} (k : Nat) (a0 : LD) (a1_0_0 : Int) (a1_0_1 a1_0_2 a1_0_3 : LD) (K : Int → Option β) : Option β :=
 Zo (Yg.l0 k a0 a1_0_0 a1_0_1 a1_0_2 a1_0_3 (a0.length : Int) K) k (0)
noncomputable def Yg.t (k : Nat) (a0 : LD) (a1_0_0 : Int) (a1_0_1 a1_0_2 a1_0_3 : LD) : Option (Int) := Yg.g k a0 a1_0_0 a1_0_1 a1_0_2 a1_0_3 (fun z0 => some z0)
noncomputable def Yg.f {β : Type} (k : Nat) (a0 : LD) (a1_0_0 : Int) (a1_0_1 a1_0_2 a1_0_3 : LD) (K : Int → Option β) : Option β := bd1 (Yg.t k a0 a1_0_0 a1_0_1 a1_0_2 a1_0_3) K
noncomputable def Yg.e (k : Nat) : Zk := ent [.d .l, .fn 86 [[.n, .l, .l, .l]]] [1] [.n] [3] false (Yg.t k)
noncomputable def Yg.p (k : Nat) : Pro := ⟨Try.prog, [(86, Yau.e k)], Zn [(2, kp [0, 1, 7, 8])] false [], k⟩
noncomputable def Yg.d (k : Nat) (a0 : LD) (a1_0_0 : Int) (a1_0_1 a1_0_2 a1_0_3 : LD) : Ex → St → Option (Int) := (Yg.p k).fin Try.f151 [.d (.sl a0), .d (.fn 86 [[.int .i64 a1_0_0, .sl a1_0_1, .sl a1_0_2, .sl a1_0_3]])] [1] [.n]
noncomputable def Yg.s0 (aD : LD) (aE : Int) (aF aG aI : LD) (aJ v : Int) : St :=
 match v with
 | aR => ZX 19 [(0, .d false (.sl aD)), (1, .d false (.fn 86 [[.int .i64 aE, .sl aF, .sl aG, .sl aI]])), (7, .d true (.int .i64 aJ)), (8, .d true (.int .i64 aR))] []
noncomputable def Yg.r0 (k : Nat) (a0 : LD) (a1_0_0 : Int) (a1_0_1 a1_0_2 a1_0_3 aD : LD) (aE : Int) (aF aG aI : LD) (aJ : Int) (n : Nat) (v : Int) : Option (Int) := (Yg.p k).lp (Zt Try.f151) 2 [1, 0, 1, 0] (Yg.d k a0 a1_0_0 a1_0_1 a1_0_2 a1_0_3) n (Yg.s0 aD aE aF aG aI aJ v)
theorem Yg.l0_eq (k : Nat) (a0 : LD) (a1_0_0 : Int) (a1_0_1 a1_0_2 a1_0_3 aD : LD) (aE : Int) (aF aG aI : LD) (aJ : Int) : ∀ n v, Yg.r0 k a0 a1_0_0 a1_0_1 a1_0_2 a1_0_3 aD aE aF aG aI aJ n v = Zo (Yg.l0 k aD aE aF aG aI aJ (fun z0 => some z0)) n v :=
 Zm (Yg.s0 aD aE aF aG aI aJ) _ fun L0 v => by kernel_rfl
theorem Yg.ok (k : Nat) : Za Try.prog 151 (Yg.e k) := Zh (Yg.p k) mix tyok Try.func151 (Yau.ok k) (by kernel_rfl) (fun a0 a1_0_0 a1_0_1 a1_0_2 a1_0_3 => Eq.trans (b := Yg.m k a0 a1_0_0 a1_0_1 a1_0_2 a1_0_3 (fun z0 => some z0) (fun aD aE aF aG aI aJ => Yg.r0 k a0 a1_0_0 a1_0_1 a1_0_2 a1_0_3 aD aE aF aG aI aJ k)) (by kernel_rfl) (congrArg (Yg.m k a0 a1_0_0 a1_0_1 a1_0_2 a1_0_3 (fun z0 => some z0)) (funext fun aD => funext fun aE => funext fun aF => funext fun aG => funext fun aI => funext fun aJ => funext fun v => Yg.l0_eq k a0 a1_0_0 a1_0_1 a1_0_2 a1_0_3 aD aE aF aG aI aJ k v) :))
noncomputable def Yz.g {β : Type} (k : Nat) (a0 : LD) (a1_0_0 : Int) (a1_0_1 a1_0_2 a1_0_3 : LD) (K : Bool → Option β) : Option β :=
 Yg.f k a0 a1_0_0 a1_0_1 a1_0_2 a1_0_3 (fun y11 => K (decide ((y11 : Int) ≥ 0)))
noncomputable def Yz.t (k : Nat) (a0 : LD) (a1_0_0 : Int) (a1_0_1 a1_0_2 a1_0_3 : LD) : Option (Bool) := Yz.g k a0 a1_0_0 a1_0_1 a1_0_2 a1_0_3 (fun z0 => some z0)
noncomputable def Yz.f {β : Type} (k : Nat) (a0 : LD) (a1_0_0 : Int) (a1_0_1 a1_0_2 a1_0_3 : LD) (K : Bool → Option β) : Option β := bd1 (Yz.t k a0 a1_0_0 a1_0_1 a1_0_2 a1_0_3) K
noncomputable def Yz.e (k : Nat) : Zk := ent [.d .l, .fn 86 [[.n, .l, .l, .l]]] [1] [.b] [4] false (Yz.t k)
noncomputable def Yz.p (k : Nat) : Pro := ⟨Try.prog, [(151, Yg.e k)], Zn [] false [], k⟩
theorem Yz.ok (k : Nat) : Za Try.prog 85 (Yz.e k) := Zh (Yz.p k) mix tyok Try.func85 (Yg.ok k) (by kernel_rfl) (fun a0 a1_0_0 a1_0_1 a1_0_2 a1_0_3 => by show _ = _; kernel_rfl)
noncomputable def Yae.g {β : Type} (k : Nat) (aB : Int) (aC aA aH : LD) (bF : BA) (bD bC : LD) (bG : Int) (K : Bool → Option β) : Option β :=
 Yaa.f k aB aC aA aH (fun y1 => bif y1 then (Yat.f k bF bD bC bG (fun y2 => bif y2 then (YaD.f k aC bD (fun y33 => bif y33 then (Yz.f k bC aB aC aA aH (fun y34 => K (!y34))) else (K false))) else (K false))) else (K false))
noncomputable def Yae.t (k : Nat) (aB : Int) (aC aA aH : LD) (bF : BA) (bD bC : LD) (bG : Int) : Option (Bool) := Yae.g k aB aC aA aH bF bD bC bG (fun z0 => some z0)
noncomputable def Yae.f {β : Type} (k : Nat) (aB : Int) (aC aA aH : LD) (bF : BA) (bD bC : LD) (bG : Int) (K : Bool → Option β) : Option β := bd1 (Yae.t k aB aC aA aH bF bD bC bG) K
noncomputable def Yae.e (k : Nat) : Zk := ent [.agg [.n, .l, .l, .l], .agg [.s, .l, .l, .n]] [1] [.b] [4] false (Yae.t k)
noncomputable def Yae.p (k : Nat) : Pro := ⟨Try.prog, [(27, Yaa.e k), (29, Yat.e k), (31, YaD.e k), (85, Yz.e k)], Zn [] false [], k⟩
theorem Yae.ok (k : Nat) : Za Try.prog 25 (Yae.e k) := Zh (Yae.p k) mix tyok Try.func25 ⟨Yaa.ok k, Yat.ok k, YaD.ok k, Yz.ok k⟩ (by kernel_rfl) (fun aB aC aA aH bF bD bC bG => by show _ = _; kernel_rfl)
noncomputable def YU.l0 {β : Type} (k : Nat) (aD : BA) (aE : LD) (aF : Int) (K L0 : Int → Option β) (v : Int) : Option β :=
 match v with
 | aG => bif (decide ((aG : Int) < aF)) then (atR aE aG [.s, .n] fun x11 x14 => (bif (Zae x11 aD) then (K x14) else (L0 (IntKind.wrap .i64 (aG + 1))))) else (K 1)
noncomputable def YU.m {β : Type} (k : Nat) (aB : Int) (aC aA aH : LD) (a1 : BA) (K : Int → Option β) (F : (BA → LD → Int → Int → Option β)) : Option β :=
 F a1 aH (aH.length : Int) (0)
noncomputable def YU.g {β : Type} (k : Nat) (aB : Int) (aC aA aH : LD) (a1 : BA) (K : Int → Option β) : Option β :=
 Zo (YU.l0 k a1 aH (aH.length : Int) K) k (0)
noncomputable def YU.t (k : Nat) (aB : Int) (aC aA aH : LD) (a1 : BA) : Option (Int) := YU.g k aB aC aA aH a1 (fun z0 => some z0)
noncomputable def YU.f {β : Type} (k : Nat) (aB : Int) (aC aA aH : LD) (a1 : BA) (K : Int → Option β) : Option β := bd1 (YU.t k aB aC aA aH a1) K
noncomputable def YU.e (k : Nat) : Zk := ent [.agg [.n, .l, .l, .l], .d .s] [1] [.n] [3] false (YU.t k)
noncomputable def YU.p (k : Nat) : Pro := ⟨Try.prog, [], Zn [(2, kp [1, 8, 9, 10])] false [], k⟩
noncomputable def YU.d (k : Nat) (aB : Int) (aC aA aH : LD) (a1 : BA) : Ex → St → Option (Int) := (YU.p k).fin Try.f41 [.agg [.int .i64 aB, .sl aC, .sl aA, .sl aH], .d (.str a1)] [1] [.n]
noncomputable def YU.s0 (aD : BA) (aE : LD) (aF v : Int) : St :=
 match v with
 | aG => ZX 21 [(1, .d false (.str aD)), (8, .d false (.sl aE)), (9, .d true (.int .i64 aF)), (10, .d true (.int .i64 aG))] []
noncomputable def YU.r0 (k : Nat) (aB : Int) (aC aA aH : LD) (a1 aD : BA) (aE : LD) (aF : Int) (n : Nat) (v : Int) : Option (Int) := (YU.p k).lp (Zt Try.f41) 2 [1, 0, 1, 0] (YU.d k aB aC aA aH a1) n (YU.s0 aD aE aF v)
theorem YU.l0_eq (k : Nat) (aB : Int) (aC aA aH : LD) (a1 aD : BA) (aE : LD) (aF : Int) : ∀ n v, YU.r0 k aB aC aA aH a1 aD aE aF n v = Zo (YU.l0 k aD aE aF (fun z0 => some z0)) n v :=
 Zm (YU.s0 aD aE aF) _ fun L0 v => by kernel_rfl
theorem YU.ok (k : Nat) : Za Try.prog 41 (YU.e k) := Zh (YU.p k) mix tyok Try.func41 trivial (by kernel_rfl) (fun aB aC aA aH a1 => Eq.trans (b := YU.m k aB aC aA aH a1 (fun z0 => some z0) (fun aD aE aF => YU.r0 k aB aC aA aH a1 aD aE aF k)) (by kernel_rfl) (congrArg (YU.m k aB aC aA aH a1 (fun z0 => some z0)) (funext fun aD => funext fun aE => funext fun aF => funext fun v => YU.l0_eq k aB aC aA aH a1 aD aE aF k v) :))
noncomputable def Yap.g {β : Type} (k : Nat) (a0 : Int) (K : Bool → Option β) : Option β :=
 Yad.f k a0 0 1000 (fun y1 => K (!y1))
noncomputable def Yap.t (k : Nat) (a0 : Int) : Option (Bool) := Yap.g k a0 (fun z0 => some z0)
noncomputable def Yap.f {β : Type} (k : Nat) (a0 : Int) (K : Bool → Option β) : Option β := bd1 (Yap.t k a0) K
noncomputable def Yap.e (k : Nat) : Zk := ent [.d .n] [1] [.b] [4] false (Yap.t k)
noncomputable def Yap.p (k : Nat) : Pro := ⟨Try.prog, [(71, Yad.e k)], Zn [] false [], k⟩
theorem Yap.ok (k : Nat) : Za Try.prog 222 (Yap.e k) := Zh (Yap.p k) mix tyok Try.func222 (Yad.ok k) (by kernel_rfl) (fun a0 => by show _ = _; kernel_rfl)
noncomputable def Yi.l0 {β : Type} (k : Nat) (aD : LD) (aE : Int) (K L0 : Int → Option β) (v : Int) : Option β :=
 match v with
 | aF => bif (decide ((aF : Int) < aE)) then (atR aD aF [.n] fun x9 => (Yap.f k x9 (fun y10 => bif y10 then (K aF) else (L0 (IntKind.wrap .i64 (aF + 1)))))) else (K (-1))
noncomputable def Yi.m {β : Type} (k : Nat) (a0 : LD) (K : Int → Option β) (F : (LD → Int → Int → Option β)) : Option β :=
 F a0 (a0.length : Int) (0)
noncomputable def Yi.g {β : Type} (k : Nat) (a0 : LD) (K : Int → Option β) : Option β :=
 Zo (Yi.l0 k a0 (a0.length : Int) K) k (0)
noncomputable def Yi.t (k : Nat) (a0 : LD) : Option (Int) := Yi.g k a0 (fun z0 => some z0)
noncomputable def Yi.f {β : Type} (k : Nat) (a0 : LD) (K : Int → Option β) : Option β := bd1 (Yi.t k a0) K
noncomputable def Yi.e (k : Nat) : Zk := ent [.d .l, .fn 222 []] [1] [.n] [3] false (Yi.t k)
noncomputable def Yi.p (k : Nat) : Pro := ⟨Try.prog, [(222, Yap.e k)], Zn [(2, kp [0, 1, 7, 8])] false [], k⟩
noncomputable def Yi.d (k : Nat) (a0 : LD) : Ex → St → Option (Int) := (Yi.p k).fin Try.f219 [.d (.sl a0), .d (.fn 222 [])] [1] [.n]
noncomputable def Yi.s0 (aD : LD) (aE v : Int) : St :=
 match v with
 | aF => ZX 19 [(0, .d false (.sl aD)), (1, .d false (.fn 222 [])), (7, .d true (.int .i64 aE)), (8, .d true (.int .i64 aF))] []
noncomputable def Yi.r0 (k : Nat) (a0 aD : LD) (aE : Int) (n : Nat) (v : Int) : Option (Int) := (Yi.p k).lp (Zt Try.f219) 2 [1, 0, 1, 0] (Yi.d k a0) n (Yi.s0 aD aE v)
theorem Yi.l0_eq (k : Nat) (a0 aD : LD) (aE : Int) : ∀ n v, Yi.r0 k a0 aD aE n v = Zo (Yi.l0 k aD aE (fun z0 => some z0)) n v :=
 Zm (Yi.s0 aD aE) _ fun L0 v => by kernel_rfl
theorem Yi.ok (k : Nat) : Za Try.prog 219 (Yi.e k) := Zh (Yi.p k) mix tyok Try.func219 (Yap.ok k) (by kernel_rfl) (fun a0 => Eq.trans (b := Yi.m k a0 (fun z0 => some z0) (fun aD aE => Yi.r0 k a0 aD aE k)) (by kernel_rfl) (congrArg (Yi.m k a0 (fun z0 => some z0)) (funext fun aD => funext fun aE => funext fun v => Yi.l0_eq k a0 aD aE k v) :))
noncomputable def YG.g {β : Type} (k : Nat) (a0 : LD) (K : Bool → Option β) : Option β :=
 Yi.f k a0 (fun y11 => K (decide ((y11 : Int) ≥ 0)))
noncomputable def YG.t (k : Nat) (a0 : LD) : Option (Bool) := YG.g k a0 (fun z0 => some z0)
noncomputable def YG.f {β : Type} (k : Nat) (a0 : LD) (K : Bool → Option β) : Option β := bd1 (YG.t k a0) K
noncomputable def YG.e (k : Nat) : Zk := ent [.d .l, .fn 222 []] [1] [.b] [4] false (YG.t k)
noncomputable def YG.p (k : Nat) : Pro := ⟨Try.prog, [(219, Yi.e k)], Zn [] false [], k⟩
theorem YG.ok (k : Nat) : Za Try.prog 177 (YG.e k) := Zh (YG.p k) mix tyok Try.func177 (Yi.ok k) (by kernel_rfl) (fun a0 => by show _ = _; kernel_rfl)
noncomputable def Yao.g {β : Type} (k : Nat) (a0 : Int) (K : Bool → Option β) : Option β :=
 Yad.f k a0 0 10000 (fun y1 => K (!y1))
noncomputable def Yao.t (k : Nat) (a0 : Int) : Option (Bool) := Yao.g k a0 (fun z0 => some z0)
noncomputable def Yao.f {β : Type} (k : Nat) (a0 : Int) (K : Bool → Option β) : Option β := bd1 (Yao.t k a0) K
noncomputable def Yao.e (k : Nat) : Zk := ent [.d .n] [1] [.b] [4] false (Yao.t k)
noncomputable def Yao.p (k : Nat) : Pro := ⟨Try.prog, [(71, Yad.e k)], Zn [] false [], k⟩
theorem Yao.ok (k : Nat) : Za Try.prog 223 (Yao.e k) := Zh (Yao.p k) mix tyok Try.func223 (Yad.ok k) (by kernel_rfl) (fun a0 => by show _ = _; kernel_rfl)
noncomputable def Yh.l0 {β : Type} (k : Nat) (aD : LD) (aE : Int) (K L0 : Int → Option β) (v : Int) : Option β :=
 match v with
 | aF => bif (decide ((aF : Int) < aE)) then (atR aD aF [.n] fun x9 => (Yao.f k x9 (fun y10 => bif y10 then (K aF) else (L0 (IntKind.wrap .i64 (aF + 1)))))) else (K (-1))
noncomputable def Yh.m {β : Type} (k : Nat) (a0 : LD) (K : Int → Option β) (F : (LD → Int → Int → Option β)) : Option β :=
 F a0 (a0.length : Int) (0)
noncomputable def Yh.g {β : Type} (k : Nat) (a0 : LD) (K : Int → Option β) : Option β :=
 Zo (Yh.l0 k a0 (a0.length : Int) K) k (0)
noncomputable def Yh.t (k : Nat) (a0 : LD) : Option (Int) := Yh.g k a0 (fun z0 => some z0)
noncomputable def Yh.f {β : Type} (k : Nat) (a0 : LD) (K : Int → Option β) : Option β := bd1 (Yh.t k a0) K
noncomputable def Yh.e (k : Nat) : Zk := ent [.d .l, .fn 223 []] [1] [.n] [3] false (Yh.t k)
noncomputable def Yh.p (k : Nat) : Pro := ⟨Try.prog, [(223, Yao.e k)], Zn [(2, kp [0, 1, 7, 8])] false [], k⟩
noncomputable def Yh.d (k : Nat) (a0 : LD) : Ex → St → Option (Int) := (Yh.p k).fin Try.f219 [.d (.sl a0), .d (.fn 223 [])] [1] [.n]
noncomputable def Yh.s0 (aD : LD) (aE v : Int) : St :=
 match v with
 | aF => ZX 19 [(0, .d false (.sl aD)), (1, .d false (.fn 223 [])), (7, .d true (.int .i64 aE)), (8, .d true (.int .i64 aF))] []
noncomputable def Yh.r0 (k : Nat) (a0 aD : LD) (aE : Int) (n : Nat) (v : Int) : Option (Int) := (Yh.p k).lp (Zt Try.f219) 2 [1, 0, 1, 0] (Yh.d k a0) n (Yh.s0 aD aE v)
theorem Yh.l0_eq (k : Nat) (a0 aD : LD) (aE : Int) : ∀ n v, Yh.r0 k a0 aD aE n v = Zo (Yh.l0 k aD aE (fun z0 => some z0)) n v :=
 Zm (Yh.s0 aD aE) _ fun L0 v => by kernel_rfl
theorem Yh.ok (k : Nat) : Za Try.prog 219 (Yh.e k) := Zh (Yh.p k) mix tyok Try.func219 (Yao.ok k) (by kernel_rfl) (fun a0 => Eq.trans (b := Yh.m k a0 (fun z0 => some z0) (fun aD aE => Yh.r0 k a0 aD aE k)) (by kernel_rfl) (congrArg (Yh.m k a0 (fun z0 => some z0)) (funext fun aD => funext fun aE => funext fun v => Yh.l0_eq k a0 aD aE k v) :))
noncomputable def YF.g {β : Type} (k : Nat) (a0 : LD) (K : Bool → Option β) : Option β :=
 Yh.f k a0 (fun y11 => K (decide ((y11 : Int) ≥ 0)))
noncomputable def YF.t (k : Nat) (a0 : LD) : Option (Bool) := YF.g k a0 (fun z0 => some z0)
noncomputable def YF.f {β : Type} (k : Nat) (a0 : LD) (K : Bool → Option β) : Option β := bd1 (YF.t k a0) K
noncomputable def YF.e (k : Nat) : Zk := ent [.d .l, .fn 223 []] [1] [.b] [4] false (YF.t k)
noncomputable def YF.p (k : Nat) : Pro := ⟨Try.prog, [(219, Yh.e k)], Zn [] false [], k⟩
theorem YF.ok (k : Nat) : Za Try.prog 177 (YF.e k) := Zh (YF.p k) mix tyok Try.func177 (Yh.ok k) (by kernel_rfl) (fun a0 => by show _ = _; kernel_rfl)
noncomputable def YaA.g {β : Type} (k : Nat) (a0 : Int) (a1 a2 : LD) (K : Bool → Option β) : Option β :=
 Yad.f k a0 0 10000 (fun y1 => bif y1 then (bif (decide (((a1.length : Int) : Int) ≤ 64)) then (bif (((a2.length : Int) : Int) == (a1.length : Int)) then (YG.f k a1 (fun y12 => bif (!y12) then (YF.f k a2 (fun y13 => K (!y13))) else (K false))) else (K false)) else (K false)) else (K false))
noncomputable def YaA.t (k : Nat) (a0 : Int) (a1 a2 : LD) : Option (Bool) := YaA.g k a0 a1 a2 (fun z0 => some z0)
noncomputable def YaA.f {β : Type} (k : Nat) (a0 : Int) (a1 a2 : LD) (K : Bool → Option β) : Option β := bd1 (YaA.t k a0 a1 a2) K
noncomputable def YaA.e (k : Nat) : Zk := ent [.d .n, .d .l, .d .l] [1] [.b] [4] false (YaA.t k)
noncomputable def YaA.p (k : Nat) : Pro := ⟨Try.prog, [(71, Yad.e k), (177, (YG.e k).alt 222 (YF.e k))], Zn [] false [], k⟩
theorem YaA.ok (k : Nat) : Za Try.prog 181 (YaA.e k) := Zh (YaA.p k) mix tyok Try.func181 ⟨Yad.ok k, alt_ok (YG.ok k) (YF.ok k)⟩ (by kernel_rfl) (fun a0 a1 a2 => by show _ = _; kernel_rfl)
noncomputable def Yam.g {β : Type} (k : Nat) (a0 a1 cA : Int) (f1_0 f2_0 : LD) (f3_0 : Int) (K : Int → Option β) : Option β :=
 atR f2_0 a1 [.n] fun x4 => (atR f1_0 x4 [.n] fun x8 => (Zc ((f3_0 : Int) ≠ 0) (atR f2_0 a0 [.n] fun x12 => (atR f1_0 x12 [.n] fun x16 => (Zc ((f3_0 : Int) ≠ 0) (K (IntKind.wrap .i64 ((Int.tmod (IntKind.wrap .i64 (cA * x8)) f3_0) - (Int.tmod (IntKind.wrap .i64 (cA * x16)) f3_0)))))))))
noncomputable def Yam.t (k : Nat) (a0 a1 cA : Int) (f1_0 f2_0 : LD) (f3_0 : Int) : Option (Int) := Yam.g k a0 a1 cA f1_0 f2_0 f3_0 (fun z0 => some z0)
noncomputable def Yam.f {β : Type} (k : Nat) (a0 a1 cA : Int) (f1_0 f2_0 : LD) (f3_0 : Int) (K : Int → Option β) : Option β := bd1 (Yam.t k a0 a1 cA f1_0 f2_0 f3_0) K
noncomputable def Yam.e (k : Nat) : Zk := ent [.d .n, .d .n, .ip [.n], .ip [.l], .ip [.l], .ip [.n]] [1] [.n] [3] false (Yam.t k)
noncomputable def Yam.p (k : Nat) : Pro := ⟨Try.prog, [], Zn [] false [], k⟩
theorem Yam.ok (k : Nat) : Za Try.prog 225 (Yam.e k) := Zh (Yam.p k) mix tyok Try.func225 trivial (by kernel_rfl) (fun a0 a1 cA f1_0 f2_0 f3_0 => by show _ = _; kernel_rfl)
noncomputable def Yc.l1 {β : Type} (k : Nat) (aO aL aN : Int) (aW aM : LD) (aV aY : Int) (L0 : (Int × Int × Int × LD × LD × Int × Int × LC) → Option β) (K : LC → Option β) (L1 : (Int × LC) → Option β) (v : Int × LC) : Option β :=
 match v with
 | (bB, bH) => let J1 := (L0 (aO, aL, aN, aW, aM, aV, IntKind.wrap .i64 (aY + 1), bH)); bif (decide ((bB : Int) > aO)) then (Zc ((0 : Int) ≤ bB ∧ bB < (bH.length : Int)) (ZaG bH (Int.toNat bB) fun c70 => Zas (c70.drop 0) fun c71 r => cD c71 fun d => dInt .i64 d fun x74 => let J0 := ((0 : Int) ≤ (IntKind.wrap .i64 (bB - 1)) ∧ (IntKind.wrap .i64 (bB - 1)) < (bH.length : Int)); Zc J0 (ZaG bH (Int.toNat (IntKind.wrap .i64 (bB - 1))) fun c75 => Zas (c75.drop 0) fun c76 r => cD c76 fun d => dInt .i64 d fun x79 => Yam.f k x74 x79 aN aW aM aV (fun y80 => bif (decide ((y80 : Int) < 0)) then (Zc J0 (ZaG bH (Int.toNat (IntKind.wrap .i64 (bB - 1))) fun c81 => Zas (c81.drop 0) fun c82 r => cD c82 fun d => dInt .i64 d fun x85 => Zc ((0 : Int) ≤ bB ∧ bB < (bH.length : Int)) (ZaG bH (Int.toNat bB) fun c86 => Zas (c86.drop 0) fun c87 r => cD c87 fun d => dInt .i64 d fun x90 => let J2 := (bH.modify (Int.toNat bB) fun c => Zq c 0 [.d (.int .i64 x85)]); Zc ((0 : Int) ≤ bB ∧ bB < (bH.length : Int)) (Zc (Int.toNat bB < bH.length) (Zc ((0 : Int) ≤ (IntKind.wrap .i64 (bB - 1)) ∧ (IntKind.wrap .i64 (bB - 1)) < (J2.length : Int)) (Zc (Int.toNat (IntKind.wrap .i64 (bB - 1)) < J2.length) (L1 (IntKind.wrap .i64 (bB - 1), J2.modify (Int.toNat (IntKind.wrap .i64 (bB - 1))) fun c => Zq c 0 [.d (.int .i64 x90)])))))))) else J1)))) else J1
noncomputable def Yc.m0 {β : Type} (k : Nat) (K : LC → Option β) (L0 : (Int × Int × Int × LD × LD × Int × Int × LC) → Option β) (v : Int × Int × Int × LD × LD × Int × Int × LC) (F : (Int → Int → Int → LD → LD → Int → Int → (Int × LC) → Option β)) : Option β :=
 match v with
 | (aD, aE, aF, aG, aI, aJ, aR, aZ) => bif (decide ((aR : Int) < aE)) then (F aD aE aF aG aI aJ aR (aR, aZ)) else (K aZ)
noncomputable def Yc.l0 {β : Type} (k : Nat) (K : LC → Option β) (L0 : (Int × Int × Int × LD × LD × Int × Int × LC) → Option β) (v : Int × Int × Int × LD × LD × Int × Int × LC) : Option β := Yc.m0 k K L0 v (fun aO aL aN aW aM aV aY => Zo (Yc.l1 k aO aL aN aW aM aV aY L0 K) k)
noncomputable def Yc.m {β : Type} (k : Nat) (a0 : LC) (a1 a2 a3_0_0 : Int) (a3_1_0 a3_2_0 : LD) (a3_3_0 : Int) (K : LC → Option β) (F : ((Int × Int × Int × LD × LD × Int × Int × LC) → Option β)) : Option β :=
 F (a1, a2, a3_0_0, a3_1_0, a3_2_0, a3_3_0, IntKind.wrap .i64 (a1 + 1), a0)
noncomputable def Yc.g {β : Type} (k : Nat) (a0 : LC) (a1 a2 a3_0_0 : Int) (a3_1_0 a3_2_0 : LD) (a3_3_0 : Int) (K : LC → Option β) : Option β :=
 Zo (Yc.l0 k K) k (a1, a2, a3_0_0, a3_1_0, a3_2_0, a3_3_0, IntKind.wrap .i64 (a1 + 1), a0)
noncomputable def Yc.t (k : Nat) (a0 : LC) (a1 a2 a3_0_0 : Int) (a3_1_0 a3_2_0 : LD) (a3_3_0 : Int) : Option (LC) := Yc.g k a0 a1 a2 a3_0_0 a3_1_0 a3_2_0 a3_3_0 (fun z0 => some z0)
noncomputable def Yc.f {β : Type} (k : Nat) (a0 : LC) (a1 a2 a3_0_0 : Int) (a3_1_0 a3_2_0 : LD) (a3_3_0 : Int) (K : LC → Option β) : Option β := bd1 (Yc.t k a0 a1 a2 a3_0_0 a3_1_0 a3_2_0 a3_3_0) K
noncomputable def Yc.e (k : Nat) : Zk := ent [.own false 77 [.o], .d .n, .d .n, .fn 225 [[.n], [.l], [.l], [.n]]] [] [.o] [] false (Yc.t k)
noncomputable def Yc.p (k : Nat) : Pro := ⟨Try.prog, [(225, Yam.e k)], Zn [(1, kp [0, 1, 2, 3, 8]), (4, kp [0, 1, 2, 3, 8, 9])] false [], k⟩
noncomputable def Yc.d (k : Nat) (a0 : LC) (a1 a2 a3_0_0 : Int) (a3_1_0 a3_2_0 : LD) (a3_3_0 : Int) : Ex → St → Option (LC) := (Yc.p k).fin Try.f261 [.own false [.own a0], .d (.int .i64 a1), .d (.int .i64 a2), .d (.fn 225 [[.int .i64 a3_0_0], [.sl a3_1_0], [.sl a3_2_0], [.int .i64 a3_3_0]])] [] [.o]
noncomputable def Yc.s0 (v : Int × Int × Int × LD × LD × Int × Int × LC) : St :=
 match v with
 | (aD, aE, aF, aG, aI, aJ, aR, aZ) => ZX 53 [(0, .row 0), (1, .d false (.int .i64 aD)), (2, .d false (.int .i64 aE)), (3, .d false (.fn 225 [[.int .i64 aF], [.sl aG], [.sl aI], [.int .i64 aJ]])), (8, .d true (.int .i64 aR))] [.row (some 0) false 77 aZ]
noncomputable def Yc.c0 (k : Nat) (a0 : LC) (a1 a2 a3_0_0 : Int) (a3_1_0 a3_2_0 : LD) (a3_3_0 : Int) : Ex → St → Option (LC) := (Yc.p k).ct (Zt Try.f261) [1, 0] (Yc.d k a0 a1 a2 a3_0_0 a3_1_0 a3_2_0 a3_3_0)
noncomputable def Yc.r0 (k : Nat) (a0 : LC) (a1 a2 a3_0_0 : Int) (a3_1_0 a3_2_0 : LD) (a3_3_0 : Int) (n : Nat) (v : Int × Int × Int × LD × LD × Int × Int × LC) : Option (LC) := (Yc.p k).lp (Zt Try.f261) 1 [1, 0] (Yc.d k a0 a1 a2 a3_0_0 a3_1_0 a3_2_0 a3_3_0) n (Yc.s0 v)
noncomputable def Yc.s1 (aO aL aN : Int) (aW aM : LD) (aV aY : Int) (v : Int × LC) : St :=
 match v with
 | (bB, bH) => ZX 53 [(0, .row 0), (1, .d false (.int .i64 aO)), (2, .d false (.int .i64 aL)), (3, .d false (.fn 225 [[.int .i64 aN], [.sl aW], [.sl aM], [.int .i64 aV]])), (8, .d true (.int .i64 aY)), (9, .d true (.int .i64 bB))] [.row (some 0) false 77 bH]
noncomputable def Yc.r1 (k : Nat) (a0 : LC) (a1 a2 a3_0_0 : Int) (a3_1_0 a3_2_0 : LD) (a3_3_0 aO aL aN : Int) (aW aM : LD) (aV aY : Int) (L0 : St → Option (LC)) (n : Nat) (v : Int × LC) : Option (LC) := (Yc.p k).lp (codeAt [1, 0, 0] (Zt Try.f261)) 4 [1, 0, 0, 1, 0] (backK ((Yc.p k).h.H 1) L0 (Yc.c0 k a0 a1 a2 a3_0_0 a3_1_0 a3_2_0 a3_3_0)) n (Yc.s1 aO aL aN aW aM aV aY v)
theorem Yc.l1_eq (k : Nat) (a0 : LC) (a1 a2 a3_0_0 : Int) (a3_1_0 a3_2_0 : LD) (a3_3_0 aO aL aN : Int) (aW aM : LD) (aV aY : Int) (L0 : St → Option (LC)) : ∀ n v, Yc.r1 k a0 a1 a2 a3_0_0 a3_1_0 a3_2_0 a3_3_0 aO aL aN aW aM aV aY L0 n v = Zo (Yc.l1 k aO aL aN aW aM aV aY (fun v => L0 (Yc.s0 v)) (fun z0 => some z0)) n v :=
 Zm (Yc.s1 aO aL aN aW aM aV aY) _ fun L1 v => by obtain ⟨bB, bH⟩ := v; kernel_rfl
theorem Yc.l0_eq (k : Nat) (a0 : LC) (a1 a2 a3_0_0 : Int) (a3_1_0 a3_2_0 : LD) (a3_3_0 : Int) : ∀ n v, Yc.r0 k a0 a1 a2 a3_0_0 a3_1_0 a3_2_0 a3_3_0 n v = Zo (Yc.l0 k (fun z0 => some z0)) n v :=
 Zm (Yc.s0) _ fun L0 v => by obtain ⟨aD, aE, aF, aG, aI, aJ, aR, aZ⟩ := v; exact Eq.trans (b := Yc.m0 k (fun z0 => some z0) (fun v => L0 (Yc.s0 v)) (aD, aE, aF, aG, aI, aJ, aR, aZ) (fun aO aL aN aW aM aV aY => Yc.r1 k a0 a1 a2 a3_0_0 a3_1_0 a3_2_0 a3_3_0 aO aL aN aW aM aV aY L0 k)) (by kernel_rfl) (congrArg (Yc.m0 k (fun z0 => some z0) (fun v => L0 (Yc.s0 v)) (aD, aE, aF, aG, aI, aJ, aR, aZ)) (funext fun aO => funext fun aL => funext fun aN => funext fun aW => funext fun aM => funext fun aV => funext fun aY => funext fun v => Yc.l1_eq k a0 a1 a2 a3_0_0 a3_1_0 a3_2_0 a3_3_0 aO aL aN aW aM aV aY L0 k v))
theorem Yc.ok (k : Nat) : Za Try.prog 261 (Yc.e k) := Zh (Yc.p k) mix tyok Try.func261 (Yam.ok k) (by kernel_rfl) (fun a0 a1 a2 a3_0_0 a3_1_0 a3_2_0 a3_3_0 => Eq.trans (b := Yc.m k a0 a1 a2 a3_0_0 a3_1_0 a3_2_0 a3_3_0 (fun z0 => some z0) (Yc.r0 k a0 a1 a2 a3_0_0 a3_1_0 a3_2_0 a3_3_0 k)) (by kernel_rfl) (congrArg (Yc.m k a0 a1 a2 a3_0_0 a3_1_0 a3_2_0 a3_3_0 (fun z0 => some z0)) (funext fun v => Yc.l0_eq k a0 a1 a2 a3_0_0 a3_1_0 a3_2_0 a3_3_0 k v) :))
noncomputable def Yk.l0 {β : Type} (k : Nat) (aD aE aF : Int) (K : LC → Option β) (L0 : (Int × LC) → Option β) (v : Int × LC) : Option β :=
 match v with
 | (aG, aI) => bif (decide ((aG : Int) < aF)) then (Zc ((0 : Int) ≤ (IntKind.wrap .i64 (aE + aG)) ∧ (IntKind.wrap .i64 (aE + aG)) < (aI.length : Int)) (ZaG aI (Int.toNat (IntKind.wrap .i64 (aE + aG))) fun c11 => Zas (c11.drop 0) fun c12 r => cD c12 fun d => dInt .i64 d fun x15 => let J0 := ((0 : Int) ≤ (IntKind.wrap .i64 (aD + aG)) ∧ (IntKind.wrap .i64 (aD + aG)) < (aI.length : Int)); Zc J0 (ZaG aI (Int.toNat (IntKind.wrap .i64 (aD + aG))) fun c16 => Zas (c16.drop 0) fun c17 r => cD c17 fun d => dInt .i64 d fun x20 => let J1 := (aI.modify (Int.toNat (IntKind.wrap .i64 (aD + aG))) fun c => Zq c 0 [.d (.int .i64 x15)]); Zc J0 (Zc (Int.toNat (IntKind.wrap .i64 (aD + aG)) < aI.length) (Zc ((0 : Int) ≤ (IntKind.wrap .i64 (aE + aG)) ∧ (IntKind.wrap .i64 (aE + aG)) < (J1.length : Int)) (Zc (Int.toNat (IntKind.wrap .i64 (aE + aG)) < J1.length) (L0 (IntKind.wrap .i64 (aG + 1), J1.modify (Int.toNat (IntKind.wrap .i64 (aE + aG))) fun c => Zq c 0 [.d (.int .i64 x20)])))))))) else (K aI)
noncomputable def Yk.m {β : Type} (k : Nat) (a0 : LC) (a1 a2 a3 a4_0_0 : Int) (a4_1_0 a4_2_0 : LD) (a4_3_0 : Int) (K : LC → Option β) (F : (Int → Int → Int → (Int × LC) → Option β)) : Option β :=
 F a1 a2 a3 (0, a0)
noncomputable def Yk.g {β : Type} (k : Nat) (a0 : LC) (a1 a2 a3 a4_0_0 : Int) (a4_1_0 a4_2_0 : LD) (a4_3_0 : Int) (K : LC → Option β) : Option β :=
 Zo (Yk.l0 k a1 a2 a3 K) k (0, a0)
noncomputable def Yk.t (k : Nat) (a0 : LC) (a1 a2 a3 a4_0_0 : Int) (a4_1_0 a4_2_0 : LD) (a4_3_0 : Int) : Option (LC) := Yk.g k a0 a1 a2 a3 a4_0_0 a4_1_0 a4_2_0 a4_3_0 (fun z0 => some z0)
noncomputable def Yk.f {β : Type} (k : Nat) (a0 : LC) (a1 a2 a3 a4_0_0 : Int) (a4_1_0 a4_2_0 : LD) (a4_3_0 : Int) (K : LC → Option β) : Option β := bd1 (Yk.t k a0 a1 a2 a3 a4_0_0 a4_1_0 a4_2_0 a4_3_0) K
noncomputable def Yk.e (k : Nat) : Zk := ent [.own false 77 [.o], .d .n, .d .n, .d .n, .fn 225 [[.n], [.l], [.l], [.n]]] [] [.o] [] false (Yk.t k)
noncomputable def Yk.p (k : Nat) : Pro := ⟨Try.prog, [], Zn [(1, kp [0, 1, 2, 3, 10])] false [], k⟩
noncomputable def Yk.d (k : Nat) (a0 : LC) (a1 a2 a3 a4_0_0 : Int) (a4_1_0 a4_2_0 : LD) (a4_3_0 : Int) : Ex → St → Option (LC) := (Yk.p k).fin Try.f268 [.own false [.own a0], .d (.int .i64 a1), .d (.int .i64 a2), .d (.int .i64 a3), .d (.fn 225 [[.int .i64 a4_0_0], [.sl a4_1_0], [.sl a4_2_0], [.int .i64 a4_3_0]])] [] [.o]
noncomputable def Yk.s0 (aD aE aF : Int) (v : Int × LC) : St :=
 match v with
 | (aG, aI) => ZX 38 [(0, .row 0), (1, .d false (.int .i64 aD)), (2, .d false (.int .i64 aE)), (3, .d false (.int .i64 aF)), (10, .d true (.int .i64 aG))] [.row (some 0) false 77 aI]
noncomputable def Yk.r0 (k : Nat) (a0 : LC) (a1 a2 a3 a4_0_0 : Int) (a4_1_0 a4_2_0 : LD) (a4_3_0 aD aE aF : Int) (n : Nat) (v : Int × LC) : Option (LC) := (Yk.p k).lp (Zt Try.f268) 1 [1, 0] (Yk.d k a0 a1 a2 a3 a4_0_0 a4_1_0 a4_2_0 a4_3_0) n (Yk.s0 aD aE aF v)
theorem Yk.l0_eq (k : Nat) (a0 : LC) (a1 a2 a3 a4_0_0 : Int) (a4_1_0 a4_2_0 : LD) (a4_3_0 aD aE aF : Int) : ∀ n v, Yk.r0 k a0 a1 a2 a3 a4_0_0 a4_1_0 a4_2_0 a4_3_0 aD aE aF n v = Zo (Yk.l0 k aD aE aF (fun z0 => some z0)) n v :=
 Zm (Yk.s0 aD aE aF) _ fun L0 v => by obtain ⟨aG, aI⟩ := v; kernel_rfl
theorem Yk.ok (k : Nat) : Za Try.prog 268 (Yk.e k) := Zh (Yk.p k) mix tyok Try.func268 trivial (by kernel_rfl) (fun a0 a1 a2 a3 a4_0_0 a4_1_0 a4_2_0 a4_3_0 => Eq.trans (b := Yk.m k a0 a1 a2 a3 a4_0_0 a4_1_0 a4_2_0 a4_3_0 (fun z0 => some z0) (fun aD aE aF => Yk.r0 k a0 a1 a2 a3 a4_0_0 a4_1_0 a4_2_0 a4_3_0 aD aE aF k)) (by kernel_rfl) (congrArg (Yk.m k a0 a1 a2 a3 a4_0_0 a4_1_0 a4_2_0 a4_3_0 (fun z0 => some z0)) (funext fun aD => funext fun aE => funext fun aF => funext fun v => Yk.l0_eq k a0 a1 a2 a3 a4_0_0 a4_1_0 a4_2_0 a4_3_0 aD aE aF k v) :))
noncomputable def Ym.l0 {β : Type} (k : Nat) (aD aE : Int) (aF aG : LD) (aI : Int) (K : LC → Option β) (L0 : (Int × Int × LC) → Option β) (v : Int × Int × LC) : Option β :=
 match v with
 | (aJ, aR, aZ) => bif ((aJ : Int) != aR) then (bif (decide ((aJ : Int) > aR)) then (Yk.f k aZ (IntKind.wrap .i64 (aD - aJ)) aD aR aE aF aG aI (fun y24 => Zc (y24.length = aZ.length) (L0 (IntKind.wrap .i64 (aJ - aR), aR, y24)))) else (Yk.f k aZ (IntKind.wrap .i64 (aD - aJ)) (IntKind.wrap .i64 ((IntKind.wrap .i64 (aD + aR)) - aJ)) aJ aE aF aG aI (fun y25 => Zc (y25.length = aZ.length) (L0 (aJ, IntKind.wrap .i64 (aR - aJ), y25))))) else (Yk.f k aZ (IntKind.wrap .i64 (aD - aJ)) aD aJ aE aF aG aI (fun y26 => Zc (y26.length = aZ.length) (K y26)))
noncomputable def Ym.m {β : Type} (k : Nat) (a0 : LC) (a1 a2 a3 a4_0_0 : Int) (a4_1_0 a4_2_0 : LD) (a4_3_0 : Int) (K : LC → Option β) (F : (Int → Int → LD → LD → Int → (Int × Int × LC) → Option β)) : Option β :=
 F a2 a4_0_0 a4_1_0 a4_2_0 a4_3_0 (IntKind.wrap .i64 (a2 - a1), IntKind.wrap .i64 (a3 - a2), a0)
noncomputable def Ym.g {β : Type} (k : Nat) (a0 : LC) (a1 a2 a3 a4_0_0 : Int) (a4_1_0 a4_2_0 : LD) (a4_3_0 : Int) (K : LC → Option β) : Option β :=
 Zo (Ym.l0 k a2 a4_0_0 a4_1_0 a4_2_0 a4_3_0 K) k (IntKind.wrap .i64 (a2 - a1), IntKind.wrap .i64 (a3 - a2), a0)
noncomputable def Ym.t (k : Nat) (a0 : LC) (a1 a2 a3 a4_0_0 : Int) (a4_1_0 a4_2_0 : LD) (a4_3_0 : Int) : Option (LC) := Ym.g k a0 a1 a2 a3 a4_0_0 a4_1_0 a4_2_0 a4_3_0 (fun z0 => some z0)
noncomputable def Ym.f {β : Type} (k : Nat) (a0 : LC) (a1 a2 a3 a4_0_0 : Int) (a4_1_0 a4_2_0 : LD) (a4_3_0 : Int) (K : LC → Option β) : Option β := bd1 (Ym.t k a0 a1 a2 a3 a4_0_0 a4_1_0 a4_2_0 a4_3_0) K
noncomputable def Ym.e (k : Nat) : Zk := ent [.own false 77 [.o], .d .n, .d .n, .d .n, .fn 225 [[.n], [.l], [.l], [.n]]] [] [.o] [] false (Ym.t k)
noncomputable def Ym.p (k : Nat) : Pro := ⟨Try.prog, [(268, Yk.e k)], Zn [(2, kp [0, 2, 4, 10, 11])] false [], k⟩
noncomputable def Ym.d (k : Nat) (a0 : LC) (a1 a2 a3 a4_0_0 : Int) (a4_1_0 a4_2_0 : LD) (a4_3_0 : Int) : Ex → St → Option (LC) := (Ym.p k).fin Try.f266 [.own false [.own a0], .d (.int .i64 a1), .d (.int .i64 a2), .d (.int .i64 a3), .d (.fn 225 [[.int .i64 a4_0_0], [.sl a4_1_0], [.sl a4_2_0], [.int .i64 a4_3_0]])] [] [.o]
noncomputable def Ym.s0 (aD aE : Int) (aF aG : LD) (aI : Int) (v : Int × Int × LC) : St :=
 match v with
 | (aJ, aR, aZ) => ZX 58 [(0, .row 0), (2, .d false (.int .i64 aD)), (4, .d false (.fn 225 [[.int .i64 aE], [.sl aF], [.sl aG], [.int .i64 aI]])), (10, .d true (.int .i64 aJ)), (11, .d true (.int .i64 aR))] [.row (some 0) false 77 aZ]
noncomputable def Ym.r0 (k : Nat) (a0 : LC) (a1 a2 a3 a4_0_0 : Int) (a4_1_0 a4_2_0 : LD) (a4_3_0 aD aE : Int) (aF aG : LD) (aI : Int) (n : Nat) (v : Int × Int × LC) : Option (LC) := (Ym.p k).lp (Zt Try.f266) 2 [1, 1, 0, 0] (Ym.d k a0 a1 a2 a3 a4_0_0 a4_1_0 a4_2_0 a4_3_0) n (Ym.s0 aD aE aF aG aI v)
theorem Ym.l0_eq (k : Nat) (a0 : LC) (a1 a2 a3 a4_0_0 : Int) (a4_1_0 a4_2_0 : LD) (a4_3_0 aD aE : Int) (aF aG : LD) (aI : Int) : ∀ n v, Ym.r0 k a0 a1 a2 a3 a4_0_0 a4_1_0 a4_2_0 a4_3_0 aD aE aF aG aI n v = Zo (Ym.l0 k aD aE aF aG aI (fun z0 => some z0)) n v :=
 Zm (Ym.s0 aD aE aF aG aI) _ fun L0 v => by obtain ⟨aJ, aR, aZ⟩ := v; kernel_rfl
theorem Ym.ok (k : Nat) : Za Try.prog 266 (Ym.e k) := Zh (Ym.p k) mix tyok Try.func266 (Yk.ok k) (by kernel_rfl) (fun a0 a1 a2 a3 a4_0_0 a4_1_0 a4_2_0 a4_3_0 => Eq.trans (b := Ym.m k a0 a1 a2 a3 a4_0_0 a4_1_0 a4_2_0 a4_3_0 (fun z0 => some z0) (fun aD aE aF aG aI => Ym.r0 k a0 a1 a2 a3 a4_0_0 a4_1_0 a4_2_0 a4_3_0 aD aE aF aG aI k)) (by kernel_rfl) (congrArg (Ym.m k a0 a1 a2 a3 a4_0_0 a4_1_0 a4_2_0 a4_3_0 (fun z0 => some z0)) (funext fun aD => funext fun aE => funext fun aF => funext fun aG => funext fun aI => funext fun v => Ym.l0_eq k a0 a1 a2 a3 a4_0_0 a4_1_0 a4_2_0 a4_3_0 aD aE aF aG aI k v) :))
set_option maxRecDepth 100000 in
noncomputable def Ya.l5 {β : Type} (k : Nat) (r_slices_symMergeCmpFunc_int__impl_quotas_1 : LC → Int → Int → Int → Int → LD → LD → Int → (LC → Option β) → Option β) (v5_0 v5_1 bU bW : Int) (v5_4 v5_5 : LD) (v5_6 bR bM v5_11 : Int) (bO : LC) (K : LC → Option β) (L5 : (Int × Int) → Option β) (v : Int × Int) : Option β :=
 match v with
 | (bJ, v5_10) => bif (decide ((bJ : Int) < v5_10)) then (let J2 := (Int.fdiv (IntKind.wrap .u64 (IntKind.wrap .i64 (bJ + v5_10))) (2 ^ (min (1 : Int).toNat 64))); let J1 := (IntKind.wrap .i64 J2); let J0 := (IntKind.wrap .i64 (v5_11 - J1)); Zc ((0 : Int) ≤ 1) (Zc ((0 : Int) ≤ J0 ∧ J0 < (bO.length : Int)) (ZaG bO (Int.toNat J0) fun c197 => Zas (c197.drop 0) fun c198 r => cD c198 fun d => dInt .i64 d fun x201 => Zc ((0 : Int) ≤ J1 ∧ J1 < (bO.length : Int)) (ZaG bO (Int.toNat J1) fun c202 => Zas (c202.drop 0) fun c203 r => cD c203 fun d => dInt .i64 d fun x206 => Yam.f k x201 x206 bW v5_4 v5_5 v5_6 (fun y207 => bif (!(decide ((y207 : Int) < 0))) then (L5 (IntKind.wrap .i64 (J1 + 1), v5_10)) else (L5 (bJ, IntKind.wrap .i64 J2))))))) else (bif (decide ((bJ : Int) < v5_1)) then (bif (decide ((v5_1 : Int) < (IntKind.wrap .i64 (bM - bJ)))) then (Ym.f k bO bJ v5_1 (IntKind.wrap .i64 (bM - bJ)) bW v5_4 v5_5 v5_6 (fun y208 => Zc (y208.length = bO.length) (bif (decide ((v5_0 : Int) < bJ)) then (bif (decide ((bJ : Int) < bR)) then (r_slices_symMergeCmpFunc_int__impl_quotas_1 y208 v5_0 bJ bR bW v5_4 v5_5 v5_6 (fun y209 => Zc (y209.length = y208.length) (bif (decide ((bR : Int) < (IntKind.wrap .i64 (bM - bJ)))) then (bif (decide (((IntKind.wrap .i64 (bM - bJ)) : Int) < bU)) then (r_slices_symMergeCmpFunc_int__impl_quotas_1 y209 bR (IntKind.wrap .i64 (bM - bJ)) bU bW v5_4 v5_5 v5_6 (fun y210 => Zc (y210.length = y209.length) (K y210))) else (K y209)) else (K y209)))) else (bif (decide ((bR : Int) < (IntKind.wrap .i64 (bM - bJ)))) then (bif (decide (((IntKind.wrap .i64 (bM - bJ)) : Int) < bU)) then (r_slices_symMergeCmpFunc_int__impl_quotas_1 y208 bR (IntKind.wrap .i64 (bM - bJ)) bU bW v5_4 v5_5 v5_6 (fun y211 => Zc (y211.length = y208.length) (K y211))) else (K y208)) else (K y208))) else (bif (decide ((bR : Int) < (IntKind.wrap .i64 (bM - bJ)))) then (bif (decide (((IntKind.wrap .i64 (bM - bJ)) : Int) < bU)) then (r_slices_symMergeCmpFunc_int__impl_quotas_1 y208 bR (IntKind.wrap .i64 (bM - bJ)) bU bW v5_4 v5_5 v5_6 (fun y212 => Zc (y212.length = y208.length) (K y212))) else (K y208)) else (K y208))))) else (bif (decide ((v5_0 : Int) < bJ)) then (bif (decide ((bJ : Int) < bR)) then (r_slices_symMergeCmpFunc_int__impl_quotas_1 bO v5_0 bJ bR bW v5_4 v5_5 v5_6 (fun y213 => Zc (y213.length = bO.length) (bif (decide ((bR : Int) < (IntKind.wrap .i64 (bM - bJ)))) then (bif (decide (((IntKind.wrap .i64 (bM - bJ)) : Int) < bU)) then (r_slices_symMergeCmpFunc_int__impl_quotas_1 y213 bR (IntKind.wrap .i64 (bM - bJ)) bU bW v5_4 v5_5 v5_6 (fun y214 => Zc (y214.length = y213.length) (K y214))) else (K y213)) else (K y213)))) else (bif (decide ((bR : Int) < (IntKind.wrap .i64 (bM - bJ)))) then (bif (decide (((IntKind.wrap .i64 (bM - bJ)) : Int) < bU)) then (r_slices_symMergeCmpFunc_int__impl_quotas_1 bO bR (IntKind.wrap .i64 (bM - bJ)) bU bW v5_4 v5_5 v5_6 (fun y215 => Zc (y215.length = bO.length) (K y215))) else (K bO)) else (K bO))) else (bif (decide ((bR : Int) < (IntKind.wrap .i64 (bM - bJ)))) then (bif (decide (((IntKind.wrap .i64 (bM - bJ)) : Int) < bU)) then (r_slices_symMergeCmpFunc_int__impl_quotas_1 bO bR (IntKind.wrap .i64 (bM - bJ)) bU bW v5_4 v5_5 v5_6 (fun y216 => Zc (y216.length = bO.length) (K y216))) else (K bO)) else (K bO)))) else (bif (decide ((v5_0 : Int) < bJ)) then (bif (decide ((bJ : Int) < bR)) then (r_slices_symMergeCmpFunc_int__impl_quotas_1 bO v5_0 bJ bR bW v5_4 v5_5 v5_6 (fun y217 => Zc (y217.length = bO.length) (bif (decide ((bR : Int) < (IntKind.wrap .i64 (bM - bJ)))) then (bif (decide (((IntKind.wrap .i64 (bM - bJ)) : Int) < bU)) then (r_slices_symMergeCmpFunc_int__impl_quotas_1 y217 bR (IntKind.wrap .i64 (bM - bJ)) bU bW v5_4 v5_5 v5_6 (fun y218 => Zc (y218.length = y217.length) (K y218))) else (K y217)) else (K y217)))) else (bif (decide ((bR : Int) < (IntKind.wrap .i64 (bM - bJ)))) then (bif (decide (((IntKind.wrap .i64 (bM - bJ)) : Int) < bU)) then (r_slices_symMergeCmpFunc_int__impl_quotas_1 bO bR (IntKind.wrap .i64 (bM - bJ)) bU bW v5_4 v5_5 v5_6 (fun y219 => Zc (y219.length = bO.length) (K y219))) else (K bO)) else (K bO))) else (bif (decide ((bR : Int) < (IntKind.wrap .i64 (bM - bJ)))) then (bif (decide (((IntKind.wrap .i64 (bM - bJ)) : Int) < bU)) then (r_slices_symMergeCmpFunc_int__impl_quotas_1 bO bR (IntKind.wrap .i64 (bM - bJ)) bU bW v5_4 v5_5 v5_6 (fun y220 => Zc (y220.length = bO.length) (K y220))) else (K bO)) else (K bO))))
set_option maxRecDepth 100000 in
noncomputable def Ya.l4 {β : Type} (k : Nat) (r_slices_symMergeCmpFunc_int__impl_quotas_1 : LC → Int → Int → Int → Int → LD → LD → Int → (LC → Option β) → Option β) (v4_0 v4_1 bV bX : Int) (v4_4 v4_5 : LD) (v4_6 bT bN v4_11 : Int) (bP : LC) (K : LC → Option β) (L4 : (Int × Int) → Option β) (v : Int × Int) : Option β :=
 match v with
 | (bK, v4_10) => bif (decide ((bK : Int) < v4_10)) then (let J2 := (Int.fdiv (IntKind.wrap .u64 (IntKind.wrap .i64 (bK + v4_10))) (2 ^ (min (1 : Int).toNat 64))); let J1 := (IntKind.wrap .i64 J2); let J0 := (IntKind.wrap .i64 (v4_11 - J1)); Zc ((0 : Int) ≤ 1) (Zc ((0 : Int) ≤ J0 ∧ J0 < (bP.length : Int)) (ZaG bP (Int.toNat J0) fun c149 => Zas (c149.drop 0) fun c150 r => cD c150 fun d => dInt .i64 d fun x153 => Zc ((0 : Int) ≤ J1 ∧ J1 < (bP.length : Int)) (ZaG bP (Int.toNat J1) fun c154 => Zas (c154.drop 0) fun c155 r => cD c155 fun d => dInt .i64 d fun x158 => Yam.f k x153 x158 bX v4_4 v4_5 v4_6 (fun y159 => bif (!(decide ((y159 : Int) < 0))) then (L4 (IntKind.wrap .i64 (J1 + 1), v4_10)) else (L4 (bK, IntKind.wrap .i64 J2))))))) else (bif (decide ((bK : Int) < v4_1)) then (bif (decide ((v4_1 : Int) < (IntKind.wrap .i64 (bN - bK)))) then (Ym.f k bP bK v4_1 (IntKind.wrap .i64 (bN - bK)) bX v4_4 v4_5 v4_6 (fun y160 => Zc (y160.length = bP.length) (bif (decide ((v4_0 : Int) < bK)) then (bif (decide ((bK : Int) < bT)) then (r_slices_symMergeCmpFunc_int__impl_quotas_1 y160 v4_0 bK bT bX v4_4 v4_5 v4_6 (fun y161 => Zc (y161.length = y160.length) (bif (decide ((bT : Int) < (IntKind.wrap .i64 (bN - bK)))) then (bif (decide (((IntKind.wrap .i64 (bN - bK)) : Int) < bV)) then (r_slices_symMergeCmpFunc_int__impl_quotas_1 y161 bT (IntKind.wrap .i64 (bN - bK)) bV bX v4_4 v4_5 v4_6 (fun y162 => Zc (y162.length = y161.length) (K y162))) else (K y161)) else (K y161)))) else (bif (decide ((bT : Int) < (IntKind.wrap .i64 (bN - bK)))) then (bif (decide (((IntKind.wrap .i64 (bN - bK)) : Int) < bV)) then (r_slices_symMergeCmpFunc_int__impl_quotas_1 y160 bT (IntKind.wrap .i64 (bN - bK)) bV bX v4_4 v4_5 v4_6 (fun y163 => Zc (y163.length = y160.length) (K y163))) else (K y160)) else (K y160))) else (bif (decide ((bT : Int) < (IntKind.wrap .i64 (bN - bK)))) then (bif (decide (((IntKind.wrap .i64 (bN - bK)) : Int) < bV)) then (r_slices_symMergeCmpFunc_int__impl_quotas_1 y160 bT (IntKind.wrap .i64 (bN - bK)) bV bX v4_4 v4_5 v4_6 (fun y164 => Zc (y164.length = y160.length) (K y164))) else (K y160)) else (K y160))))) else (bif (decide ((v4_0 : Int) < bK)) then (bif (decide ((bK : Int) < bT)) then (r_slices_symMergeCmpFunc_int__impl_quotas_1 bP v4_0 bK bT bX v4_4 v4_5 v4_6 (fun y165 => Zc (y165.length = bP.length) (bif (decide ((bT : Int) < (IntKind.wrap .i64 (bN - bK)))) then (bif (decide (((IntKind.wrap .i64 (bN - bK)) : Int) < bV)) then (r_slices_symMergeCmpFunc_int__impl_quotas_1 y165 bT (IntKind.wrap .i64 (bN - bK)) bV bX v4_4 v4_5 v4_6 (fun y166 => Zc (y166.length = y165.length) (K y166))) else (K y165)) else (K y165)))) else (bif (decide ((bT : Int) < (IntKind.wrap .i64 (bN - bK)))) then (bif (decide (((IntKind.wrap .i64 (bN - bK)) : Int) < bV)) then (r_slices_symMergeCmpFunc_int__impl_quotas_1 bP bT (IntKind.wrap .i64 (bN - bK)) bV bX v4_4 v4_5 v4_6 (fun y167 => Zc (y167.length = bP.length) (K y167))) else (K bP)) else (K bP))) else (bif (decide ((bT : Int) < (IntKind.wrap .i64 (bN - bK)))) then (bif (decide (((IntKind.wrap .i64 (bN - bK)) : Int) < bV)) then (r_slices_symMergeCmpFunc_int__impl_quotas_1 bP bT (IntKind.wrap .i64 (bN - bK)) bV bX v4_4 v4_5 v4_6 (fun y168 => Zc (y168.length = bP.length) (K y168))) else (K bP)) else (K bP)))) else (bif (decide ((v4_0 : Int) < bK)) then (bif (decide ((bK : Int) < bT)) then (r_slices_symMergeCmpFunc_int__impl_quotas_1 bP v4_0 bK bT bX v4_4 v4_5 v4_6 (fun y169 => Zc (y169.length = bP.length) (bif (decide ((bT : Int) < (IntKind.wrap .i64 (bN - bK)))) then (bif (decide (((IntKind.wrap .i64 (bN - bK)) : Int) < bV)) then (r_slices_symMergeCmpFunc_int__impl_quotas_1 y169 bT (IntKind.wrap .i64 (bN - bK)) bV bX v4_4 v4_5 v4_6 (fun y170 => Zc (y170.length = y169.length) (K y170))) else (K y169)) else (K y169)))) else (bif (decide ((bT : Int) < (IntKind.wrap .i64 (bN - bK)))) then (bif (decide (((IntKind.wrap .i64 (bN - bK)) : Int) < bV)) then (r_slices_symMergeCmpFunc_int__impl_quotas_1 bP bT (IntKind.wrap .i64 (bN - bK)) bV bX v4_4 v4_5 v4_6 (fun y171 => Zc (y171.length = bP.length) (K y171))) else (K bP)) else (K bP))) else (bif (decide ((bT : Int) < (IntKind.wrap .i64 (bN - bK)))) then (bif (decide (((IntKind.wrap .i64 (bN - bK)) : Int) < bV)) then (r_slices_symMergeCmpFunc_int__impl_quotas_1 bP bT (IntKind.wrap .i64 (bN - bK)) bV bX v4_4 v4_5 v4_6 (fun y172 => Zc (y172.length = bP.length) (K y172))) else (K bP)) else (K bP))))
noncomputable def Ya.l3 {β : Type} (k : Nat) (r_slices_symMergeCmpFunc_int__impl_quotas_1 : LC → Int → Int → Int → Int → LD → LD → Int → (LC → Option β) → Option β) (bI : Int) (K : LC → Option β) (L3 : (Int × LC) → Option β) (v : Int × LC) : Option β :=
 match v with
 | (bQ, bY) => bif (decide ((bQ : Int) > bI)) then (Zc ((0 : Int) ≤ (IntKind.wrap .i64 (bQ - 1)) ∧ (IntKind.wrap .i64 (bQ - 1)) < (bY.length : Int)) (ZaG bY (Int.toNat (IntKind.wrap .i64 (bQ - 1))) fun c115 => Zas (c115.drop 0) fun c116 r => cD c116 fun d => dInt .i64 d fun x119 => Zc ((0 : Int) ≤ bQ ∧ bQ < (bY.length : Int)) (ZaG bY (Int.toNat bQ) fun c120 => Zas (c120.drop 0) fun c121 r => cD c121 fun d => dInt .i64 d fun x124 => let J0 := (bY.modify (Int.toNat bQ) fun c => Zq c 0 [.d (.int .i64 x119)]); Zc ((0 : Int) ≤ bQ ∧ bQ < (bY.length : Int)) (Zc (Int.toNat bQ < bY.length) (Zc ((0 : Int) ≤ (IntKind.wrap .i64 (bQ - 1)) ∧ (IntKind.wrap .i64 (bQ - 1)) < (J0.length : Int)) (Zc (Int.toNat (IntKind.wrap .i64 (bQ - 1)) < J0.length) (L3 (IntKind.wrap .i64 (bQ - 1), J0.modify (Int.toNat (IntKind.wrap .i64 (bQ - 1))) fun c => Zq c 0 [.d (.int .i64 x124)])))))))) else (K bY)
noncomputable def Ya.m2 {β : Type} (k : Nat) (r_slices_symMergeCmpFunc_int__impl_quotas_1 : LC → Int → Int → Int → Int → LD → LD → Int → (LC → Option β) → Option β) (aT aQ : Int) (aS aK : LD) (aU : Int) (bA : LC) (K : LC → Option β) (L2 : (Int × Int) → Option β) (v : Int × Int) (F : (Int → (Int × LC) → Option β)) : Option β :=
 match v with
 | (aP, aX) => bif (decide ((aP : Int) < aX)) then (Zc ((0 : Int) ≤ 1) (Zc ((0 : Int) ≤ aT ∧ aT < (bA.length : Int)) (ZaG bA (Int.toNat aT) fun c94 => Zas (c94.drop 0) fun c95 r96 => cD c95 fun d97 => dInt .i64 d97 fun x98 => let J1 := (Int.fdiv (IntKind.wrap .u64 (IntKind.wrap .i64 (aP + aX))) (2 ^ (min (1 : Int).toNat 64))); let J0 := (IntKind.wrap .i64 J1); Zc ((0 : Int) ≤ J0 ∧ J0 < (bA.length : Int)) (ZaG bA (Int.toNat J0) fun c99 => Zas (c99.drop 0) fun c100 r101 => cD c100 fun d102 => dInt .i64 d102 fun x103 => Yam.f k x98 x103 aQ aS aK aU (fun y104 => bif (!(decide ((y104 : Int) < 0))) then (L2 (IntKind.wrap .i64 (J0 + 1), aX)) else (L2 (aP, IntKind.wrap .i64 J1))))))) else (F aP (aT, bA))
noncomputable def Ya.l2 {β : Type} (k : Nat) (r_slices_symMergeCmpFunc_int__impl_quotas_1 : LC → Int → Int → Int → Int → LD → LD → Int → (LC → Option β) → Option β) (aT aQ : Int) (aS aK : LD) (aU : Int) (bA : LC) (K : LC → Option β) (L2 : (Int × Int) → Option β) (v : Int × Int) : Option β := Ya.m2 k r_slices_symMergeCmpFunc_int__impl_quotas_1 aT aQ aS aK aU bA K L2 v (fun bI => Zo (Ya.l3 k r_slices_symMergeCmpFunc_int__impl_quotas_1 bI K) k)
noncomputable def Ya.l1 {β : Type} (k : Nat) (r_slices_symMergeCmpFunc_int__impl_quotas_1 : LC → Int → Int → Int → Int → LD → LD → Int → (LC → Option β) → Option β) (aO : Int) (K : LC → Option β) (L1 : (Int × LC) → Option β) (v : Int × LC) : Option β :=
 match v with
 | (aL, aN) => bif (decide ((aL : Int) < (IntKind.wrap .i64 (aO - 1)))) then (Zc ((0 : Int) ≤ (IntKind.wrap .i64 (aL + 1)) ∧ (IntKind.wrap .i64 (aL + 1)) < (aN.length : Int)) (ZaG aN (Int.toNat (IntKind.wrap .i64 (aL + 1))) fun c53 => Zas (c53.drop 0) fun c54 r => cD c54 fun d => dInt .i64 d fun x57 => Zc ((0 : Int) ≤ aL ∧ aL < (aN.length : Int)) (ZaG aN (Int.toNat aL) fun c58 => Zas (c58.drop 0) fun c59 r => cD c59 fun d => dInt .i64 d fun x62 => let J0 := (aN.modify (Int.toNat aL) fun c => Zq c 0 [.d (.int .i64 x57)]); Zc ((0 : Int) ≤ aL ∧ aL < (aN.length : Int)) (Zc (Int.toNat aL < aN.length) (Zc ((0 : Int) ≤ (IntKind.wrap .i64 (aL + 1)) ∧ (IntKind.wrap .i64 (aL + 1)) < (J0.length : Int)) (Zc (Int.toNat (IntKind.wrap .i64 (aL + 1)) < J0.length) (L1 (IntKind.wrap .i64 (aL + 1), J0.modify (Int.toNat (IntKind.wrap .i64 (aL + 1))) fun c => Zq c 0 [.d (.int .i64 x62)])))))))) else (K aN)
noncomputable def Ya.m0 {β : Type} (k : Nat) (r_slices_symMergeCmpFunc_int__impl_quotas_1 : LC → Int → Int → Int → Int → LD → LD → Int → (LC → Option β) → Option β) (aD aE : Int) (aF aG : LD) (aI : Int) (aZ : LC) (K : LC → Option β) (L0 : (Int × Int) → Option β) (v : Int × Int) (F : (Int → (Int × LC) → Option β)) : Option β :=
 match v with
 | (aJ, aR) => bif (decide ((aJ : Int) < aR)) then (let J1 := (Int.fdiv (IntKind.wrap .u64 (IntKind.wrap .i64 (aJ + aR))) (2 ^ (min (1 : Int).toNat 64))); let J0 := (IntKind.wrap .i64 J1); Zc ((0 : Int) ≤ 1) (Zc ((0 : Int) ≤ J0 ∧ J0 < (aZ.length : Int)) (ZaG aZ (Int.toNat J0) fun c32 => Zas (c32.drop 0) fun c33 r34 => cD c33 fun d35 => dInt .i64 d35 fun x36 => Zc ((0 : Int) ≤ aD ∧ aD < (aZ.length : Int)) (ZaG aZ (Int.toNat aD) fun c37 => Zas (c37.drop 0) fun c38 r39 => cD c38 fun d40 => dInt .i64 d40 fun x41 => Yam.f k x36 x41 aE aF aG aI (fun y42 => bif (decide ((y42 : Int) < 0)) then (L0 (IntKind.wrap .i64 (J0 + 1), aR)) else (L0 (aJ, IntKind.wrap .i64 J1))))))) else (F aJ (aD, aZ))
noncomputable def Ya.l0 {β : Type} (k : Nat) (r_slices_symMergeCmpFunc_int__impl_quotas_1 : LC → Int → Int → Int → Int → LD → LD → Int → (LC → Option β) → Option β) (aD aE : Int) (aF aG : LD) (aI : Int) (aZ : LC) (K : LC → Option β) (L0 : (Int × Int) → Option β) (v : Int × Int) : Option β := Ya.m0 k r_slices_symMergeCmpFunc_int__impl_quotas_1 aD aE aF aG aI aZ K L0 v (fun aO => Zo (Ya.l1 k r_slices_symMergeCmpFunc_int__impl_quotas_1 aO K) k)
noncomputable def Ya.m {β : Type} (k : Nat) (r_slices_symMergeCmpFunc_int__impl_quotas_1 : LC → Int → Int → Int → Int → LD → LD → Int → (LC → Option β) → Option β) (a0 : LC) (a1 a2 a3 a4_0_0 : Int) (a4_1_0 a4_2_0 : LD) (a4_3_0 : Int) (K : LC → Option β) (F : (Int → Int → LD → LD → Int → LC → (Int × Int) → Option β) × (Int → Int → LD → LD → Int → LC → (Int × Int) → Option β) × (Int → Int → Int → Int → LD → LD → Int → Int → Int → Int → LC → (Int × Int) → Option β) × (Int → Int → Int → Int → LD → LD → Int → Int → Int → Int → LC → (Int × Int) → Option β)) : Option β :=
 bif (((IntKind.wrap .i64 (a2 - a1)) : Int) == 1) then (F.1 a1 a4_0_0 a4_1_0 a4_2_0 a4_3_0 a0 (a2, a3)) else (bif (((IntKind.wrap .i64 (a3 - a2)) : Int) == 1) then (F.2.1 a2 a4_0_0 a4_1_0 a4_2_0 a4_3_0 a0 (a1, a2)) else (let J3 := (Int.fdiv (IntKind.wrap .u64 (IntKind.wrap .i64 (a1 + a3))) (2 ^ (min (1 : Int).toNat 64))); let J2 := (IntKind.wrap .i64 J3); let J1 := (IntKind.wrap .i64 (J2 + a2)); let J0 := (IntKind.wrap .i64 (J1 - 1)); Zc ((0 : Int) ≤ 1) (bif (decide ((a2 : Int) > J2)) then (F.2.2.1 a1 a2 a3 a4_0_0 a4_1_0 a4_2_0 a4_3_0 J2 J1 J0 a0 (IntKind.wrap .i64 (J1 - a3), IntKind.wrap .i64 J3)) else (F.2.2.2 a1 a2 a3 a4_0_0 a4_1_0 a4_2_0 a4_3_0 J2 J1 J0 a0 (a1, a2)))))
noncomputable def Ya.body {β : Type} (k : Nat) (r_slices_symMergeCmpFunc_int__impl_quotas_1 : LC → Int → Int → Int → Int → LD → LD → Int → (LC → Option β) → Option β) (a0 : LC) (a1 a2 a3 a4_0_0 : Int) (a4_1_0 a4_2_0 : LD) (a4_3_0 : Int) (K : LC → Option β) : Option β := Ya.m k r_slices_symMergeCmpFunc_int__impl_quotas_1 a0 a1 a2 a3 a4_0_0 a4_1_0 a4_2_0 a4_3_0 K ((fun aD aE aF aG aI aZ => Zo (Ya.l0 k r_slices_symMergeCmpFunc_int__impl_quotas_1 aD aE aF aG aI aZ K) k), (fun aT aQ aS aK aU bA => Zo (Ya.l2 k r_slices_symMergeCmpFunc_int__impl_quotas_1 aT aQ aS aK aU bA K) k), (fun v4_0 v4_1 bV bX v4_4 v4_5 v4_6 bT bN v4_11 bP => Zo (Ya.l4 k r_slices_symMergeCmpFunc_int__impl_quotas_1 v4_0 v4_1 bV bX v4_4 v4_5 v4_6 bT bN v4_11 bP K) k), (fun v5_0 v5_1 bU bW v5_4 v5_5 v5_6 bR bM v5_11 bO => Zo (Ya.l5 k r_slices_symMergeCmpFunc_int__impl_quotas_1 v5_0 v5_1 bU bW v5_4 v5_5 v5_6 bR bM v5_11 bO K) k))
noncomputable def Ya.w {β : Type} (r : LC → Int → Int → Int → Int → LD → LD → Int → Option (LC)) (a0 : LC) (a1 a2 a3 a4_0_0 : Int) (a4_1_0 a4_2_0 : LD) (a4_3_0 : Int) (K : LC → Option β) : Option β := bd1 (r a0 a1 a2 a3 a4_0_0 a4_1_0 a4_2_0 a4_3_0) K
noncomputable def Ya.all : Nat → (LC → Int → Int → Int → Int → LD → LD → Int → Option (LC))
 | 0 => (fun _ _ _ _ _ _ _ _ => none)
 | k + 1 => (fun r => (fun a0 a1 a2 a3 a4_0_0 a4_1_0 a4_2_0 a4_3_0 => Ya.body k (Ya.w r) a0 a1 a2 a3 a4_0_0 a4_1_0 a4_2_0 a4_3_0 (fun z0 => some z0))) (Ya.all k)
noncomputable def Ya.t (k : Nat) (a0 : LC) (a1 a2 a3 a4_0_0 : Int) (a4_1_0 a4_2_0 : LD) (a4_3_0 : Int) : Option (LC) := (Ya.all k) a0 a1 a2 a3 a4_0_0 a4_1_0 a4_2_0 a4_3_0
noncomputable def Ya.f {β : Type} (k : Nat) (a0 : LC) (a1 a2 a3 a4_0_0 : Int) (a4_1_0 a4_2_0 : LD) (a4_3_0 : Int) (K : LC → Option β) : Option β := Ya.w (Ya.t k) a0 a1 a2 a3 a4_0_0 a4_1_0 a4_2_0 a4_3_0 K
noncomputable def Ya.g {β : Type} (k : Nat) (a0 : LC) (a1 a2 a3 a4_0_0 : Int) (a4_1_0 a4_2_0 : LD) (a4_3_0 : Int) (K : LC → Option β) : Option β := Ya.body k (Ya.f k) a0 a1 a2 a3 a4_0_0 a4_1_0 a4_2_0 a4_3_0 K
theorem Ya.t_succ (k : Nat) (a0 : LC) (a1 a2 a3 a4_0_0 : Int) (a4_1_0 a4_2_0 : LD) (a4_3_0 : Int) : Ya.t (k + 1) a0 a1 a2 a3 a4_0_0 a4_1_0 a4_2_0 a4_3_0 = Ya.g k a0 a1 a2 a3 a4_0_0 a4_1_0 a4_2_0 a4_3_0 (fun z0 => some z0) := rfl
noncomputable def Ya.e (k : Nat) : Zk := ent [.own false 77 [.o], .d .n, .d .n, .d .n, .fn 225 [[.n], [.l], [.l], [.n]]] [] [.o] [] false (Ya.t k)
noncomputable def Ya.p (k : Nat) : Pro := ⟨Try.prog, [(225, Yam.e k), (266, Ym.e k), (262, Ya.e k)], Zn [(3, kp [0, 1, 4] [(10, .dat false), (11, .dat false)]), (9, kp [0, 10] [(13, .dat false)]), (15, kp [0, 2, 4] [(14, .dat false), (15, .dat false)]), (21, kp [0, 14] [(17, .dat false)]), (33, kp [0, 1, 2, 3, 4, 18, 19, 22] [(20, .dat false), (21, .dat false)])] false [], k⟩
noncomputable def Ya.d (k : Nat) (a0 : LC) (a1 a2 a3 a4_0_0 : Int) (a4_1_0 a4_2_0 : LD) (a4_3_0 : Int) : Ex → St → Option (LC) := (Ya.p k).fin Try.f262 [.own false [.own a0], .d (.int .i64 a1), .d (.int .i64 a2), .d (.int .i64 a3), .d (.fn 225 [[.int .i64 a4_0_0], [.sl a4_1_0], [.sl a4_2_0], [.int .i64 a4_3_0]])] [] [.o]
noncomputable def Ya.s0 (aD aE : Int) (aF aG : LD) (aI : Int) (aZ : LC) (v : Int × Int) : St :=
 match v with
 | (aJ, aR) => ZX 220 [(0, .row 0), (1, .d false (.int .i64 aD)), (4, .d false (.fn 225 [[.int .i64 aE], [.sl aF], [.sl aG], [.int .i64 aI]])), (10, .d false (.int .i64 aJ)), (11, .d false (.int .i64 aR))] [.row (some 0) false 77 aZ]
noncomputable def Ya.r0 (k : Nat) (a0 : LC) (a1 a2 a3 a4_0_0 : Int) (a4_1_0 a4_2_0 : LD) (a4_3_0 aD aE : Int) (aF aG : LD) (aI : Int) (aZ : LC) (n : Nat) (v : Int × Int) : Option (LC) := (Ya.p k).lp (Zt Try.f262) 3 [0, 1, 0, 1, 1, 0, 0] (Ya.d k a0 a1 a2 a3 a4_0_0 a4_1_0 a4_2_0 a4_3_0) n (Ya.s0 aD aE aF aG aI aZ v)
noncomputable def Ya.s1 (aO : Int) (v : Int × LC) : St :=
 match v with
 | (aL, aN) => ZX 220 [(0, .row 0), (10, .d false (.int .i64 aO)), (13, .d false (.int .i64 aL))] [.row (some 0) false 77 aN]
noncomputable def Ya.r1 (k : Nat) (a0 : LC) (a1 a2 a3 a4_0_0 : Int) (a4_1_0 a4_2_0 : LD) (a4_3_0 aO : Int) (n : Nat) (v : Int × LC) : Option (LC) := (Ya.p k).lp (Zt Try.f262) 9 [0, 1, 0, 1, 1, 1, 0, 1, 0] (Ya.d k a0 a1 a2 a3 a4_0_0 a4_1_0 a4_2_0 a4_3_0) n (Ya.s1 aO v)
noncomputable def Ya.s2 (aT aQ : Int) (aS aK : LD) (aU : Int) (bA : LC) (v : Int × Int) : St :=
 match v with
 | (aP, aX) => ZX 220 [(0, .row 0), (2, .d false (.int .i64 aT)), (4, .d false (.fn 225 [[.int .i64 aQ], [.sl aS], [.sl aK], [.int .i64 aU]])), (14, .d false (.int .i64 aP)), (15, .d false (.int .i64 aX))] [.row (some 0) false 77 bA]
noncomputable def Ya.r2 (k : Nat) (a0 : LC) (a1 a2 a3 a4_0_0 : Int) (a4_1_0 a4_2_0 : LD) (a4_3_0 aT aQ : Int) (aS aK : LD) (aU : Int) (bA : LC) (n : Nat) (v : Int × Int) : Option (LC) := (Ya.p k).lp (Zt Try.f262) 15 [1, 0, 1, 0, 1, 1, 0, 0] (Ya.d k a0 a1 a2 a3 a4_0_0 a4_1_0 a4_2_0 a4_3_0) n (Ya.s2 aT aQ aS aK aU bA v)
noncomputable def Ya.s3 (bI : Int) (v : Int × LC) : St :=
 match v with
 | (bQ, bY) => ZX 220 [(0, .row 0), (14, .d false (.int .i64 bI)), (17, .d false (.int .i64 bQ))] [.row (some 0) false 77 bY]
noncomputable def Ya.r3 (k : Nat) (a0 : LC) (a1 a2 a3 a4_0_0 : Int) (a4_1_0 a4_2_0 : LD) (a4_3_0 bI : Int) (n : Nat) (v : Int × LC) : Option (LC) := (Ya.p k).lp (Zt Try.f262) 21 [1, 0, 1, 0, 1, 1, 1, 0, 1, 0] (Ya.d k a0 a1 a2 a3 a4_0_0 a4_1_0 a4_2_0 a4_3_0) n (Ya.s3 bI v)
noncomputable def Ya.s4 (v4_0 v4_1 bV bX : Int) (v4_4 v4_5 : LD) (v4_6 bT bN v4_11 : Int) (bP : LC) (v : Int × Int) : St :=
 match v with
 | (bK, v4_10) => ZX 220 [(0, .row 0), (1, .d false (.int .i64 v4_0)), (2, .d false (.int .i64 v4_1)), (3, .d false (.int .i64 bV)), (4, .d false (.fn 225 [[.int .i64 bX], [.sl v4_4], [.sl v4_5], [.int .i64 v4_6]])), (18, .d true (.int .i64 bT)), (19, .d true (.int .i64 bN)), (20, .d false (.int .i64 bK)), (21, .d false (.int .i64 v4_10)), (22, .d true (.int .i64 v4_11))] [.row (some 0) false 77 bP]
noncomputable def Ya.r4 (k : Nat) (a0 : LC) (a1 a2 a3 a4_0_0 : Int) (a4_1_0 a4_2_0 : LD) (a4_3_0 v4_0 v4_1 bV bX : Int) (v4_4 v4_5 : LD) (v4_6 bT bN v4_11 : Int) (bP : LC) (n : Nat) (v : Int × Int) : Option (LC) := (Ya.p k).lp (Zt Try.f262) 33 [1, 1, 1, 1, 1, 1, 1, 0, 0] (Ya.d k a0 a1 a2 a3 a4_0_0 a4_1_0 a4_2_0 a4_3_0) n (Ya.s4 v4_0 v4_1 bV bX v4_4 v4_5 v4_6 bT bN v4_11 bP v)
noncomputable def Ya.s5 (v5_0 v5_1 bU bW : Int) (v5_4 v5_5 : LD) (v5_6 bR bM v5_11 : Int) (bO : LC) (v : Int × Int) : St :=
 match v with
 | (bJ, v5_10) => ZX 220 [(0, .row 0), (1, .d false (.int .i64 v5_0)), (2, .d false (.int .i64 v5_1)), (3, .d false (.int .i64 bU)), (4, .d false (.fn 225 [[.int .i64 bW], [.sl v5_4], [.sl v5_5], [.int .i64 v5_6]])), (18, .d true (.int .i64 bR)), (19, .d true (.int .i64 bM)), (20, .d false (.int .i64 bJ)), (21, .d false (.int .i64 v5_10)), (22, .d true (.int .i64 v5_11))] [.row (some 0) false 77 bO]
noncomputable def Ya.r5 (k : Nat) (a0 : LC) (a1 a2 a3 a4_0_0 : Int) (a4_1_0 a4_2_0 : LD) (a4_3_0 v5_0 v5_1 bU bW : Int) (v5_4 v5_5 : LD) (v5_6 bR bM v5_11 : Int) (bO : LC) (n : Nat) (v : Int × Int) : Option (LC) := (Ya.p k).lp (Zt Try.f262) 33 [1, 1, 1, 1, 1, 1, 1, 0, 0] (Ya.d k a0 a1 a2 a3 a4_0_0 a4_1_0 a4_2_0 a4_3_0) n (Ya.s5 v5_0 v5_1 bU bW v5_4 v5_5 v5_6 bR bM v5_11 bO v)
theorem Ya.l5_eq (k : Nat) (a0 : LC) (a1 a2 a3 a4_0_0 : Int) (a4_1_0 a4_2_0 : LD) (a4_3_0 v5_0 v5_1 bU bW : Int) (v5_4 v5_5 : LD) (v5_6 bR bM v5_11 : Int) (bO : LC) : ∀ n v, Ya.r5 k a0 a1 a2 a3 a4_0_0 a4_1_0 a4_2_0 a4_3_0 v5_0 v5_1 bU bW v5_4 v5_5 v5_6 bR bM v5_11 bO n v = Zo (Ya.l5 k (Ya.f k) v5_0 v5_1 bU bW v5_4 v5_5 v5_6 bR bM v5_11 bO (fun z0 => some z0)) n v :=
 Zm (Ya.s5 v5_0 v5_1 bU bW v5_4 v5_5 v5_6 bR bM v5_11 bO) _ fun L5 v => by obtain ⟨bJ, v5_10⟩ := v; kernel_rfl
theorem Ya.l4_eq (k : Nat) (a0 : LC) (a1 a2 a3 a4_0_0 : Int) (a4_1_0 a4_2_0 : LD) (a4_3_0 v4_0 v4_1 bV bX : Int) (v4_4 v4_5 : LD) (v4_6 bT bN v4_11 : Int) (bP : LC) : ∀ n v, Ya.r4 k a0 a1 a2 a3 a4_0_0 a4_1_0 a4_2_0 a4_3_0 v4_0 v4_1 bV bX v4_4 v4_5 v4_6 bT bN v4_11 bP n v = Zo (Ya.l4 k (Ya.f k) v4_0 v4_1 bV bX v4_4 v4_5 v4_6 bT bN v4_11 bP (fun z0 => some z0)) n v :=
 Zm (Ya.s4 v4_0 v4_1 bV bX v4_4 v4_5 v4_6 bT bN v4_11 bP) _ fun L4 v => by obtain ⟨bK, v4_10⟩ := v; kernel_rfl
theorem Ya.l3_eq (k : Nat) (a0 : LC) (a1 a2 a3 a4_0_0 : Int) (a4_1_0 a4_2_0 : LD) (a4_3_0 bI : Int) : ∀ n v, Ya.r3 k a0 a1 a2 a3 a4_0_0 a4_1_0 a4_2_0 a4_3_0 bI n v = Zo (Ya.l3 k (Ya.f k) bI (fun z0 => some z0)) n v :=
 Zm (Ya.s3 bI) _ fun L3 v => by obtain ⟨bQ, bY⟩ := v; kernel_rfl
theorem Ya.l2_eq (k : Nat) (a0 : LC) (a1 a2 a3 a4_0_0 : Int) (a4_1_0 a4_2_0 : LD) (a4_3_0 aT aQ : Int) (aS aK : LD) (aU : Int) (bA : LC) : ∀ n v, Ya.r2 k a0 a1 a2 a3 a4_0_0 a4_1_0 a4_2_0 a4_3_0 aT aQ aS aK aU bA n v = Zo (Ya.l2 k (Ya.f k) aT aQ aS aK aU bA (fun z0 => some z0)) n v :=
 Zm (Ya.s2 aT aQ aS aK aU bA) _ fun L2 v => by obtain ⟨aP, aX⟩ := v; exact Eq.trans (b := Ya.m2 k (Ya.f k) aT aQ aS aK aU bA (fun z0 => some z0) (fun v => L2 (Ya.s2 aT aQ aS aK aU bA v)) (aP, aX) (fun bI => Ya.r3 k a0 a1 a2 a3 a4_0_0 a4_1_0 a4_2_0 a4_3_0 bI k)) (by kernel_rfl) (congrArg (Ya.m2 k (Ya.f k) aT aQ aS aK aU bA (fun z0 => some z0) (fun v => L2 (Ya.s2 aT aQ aS aK aU bA v)) (aP, aX)) (funext fun bI => funext fun v => Ya.l3_eq k a0 a1 a2 a3 a4_0_0 a4_1_0 a4_2_0 a4_3_0 bI k v))
theorem Ya.l1_eq (k : Nat) (a0 : LC) (a1 a2 a3 a4_0_0 : Int) (a4_1_0 a4_2_0 : LD) (a4_3_0 aO : Int) : ∀ n v, Ya.r1 k a0 a1 a2 a3 a4_0_0 a4_1_0 a4_2_0 a4_3_0 aO n v = Zo (Ya.l1 k (Ya.f k) aO (fun z0 => some z0)) n v :=
 Zm (Ya.s1 aO) _ fun L1 v => by obtain ⟨aL, aN⟩ := v; kernel_rfl
theorem Ya.l0_eq (k : Nat) (a0 : LC) (a1 a2 a3 a4_0_0 : Int) (a4_1_0 a4_2_0 : LD) (a4_3_0 aD aE : Int) (aF aG : LD) (aI : Int) (aZ : LC) : ∀ n v, Ya.r0 k a0 a1 a2 a3 a4_0_0 a4_1_0 a4_2_0 a4_3_0 aD aE aF aG aI aZ n v = Zo (Ya.l0 k (Ya.f k) aD aE aF aG aI aZ (fun z0 => some z0)) n v :=
 Zm (Ya.s0 aD aE aF aG aI aZ) _ fun L0 v => by obtain ⟨aJ, aR⟩ := v; exact Eq.trans (b := Ya.m0 k (Ya.f k) aD aE aF aG aI aZ (fun z0 => some z0) (fun v => L0 (Ya.s0 aD aE aF aG aI aZ v)) (aJ, aR) (fun aO => Ya.r1 k a0 a1 a2 a3 a4_0_0 a4_1_0 a4_2_0 a4_3_0 aO k)) (by kernel_rfl) (congrArg (Ya.m0 k (Ya.f k) aD aE aF aG aI aZ (fun z0 => some z0) (fun v => L0 (Ya.s0 aD aE aF aG aI aZ v)) (aJ, aR)) (funext fun aO => funext fun v => Ya.l1_eq k a0 a1 a2 a3 a4_0_0 a4_1_0 a4_2_0 a4_3_0 aO k v))
theorem Ya.oks (k : Nat) : Za Try.prog 262 (Ya.e k) := by
 induction k with
 | zero => exact Z7 Try.func262 (by kernel_rfl) (fun _ _ _ _ _ _ _ _ => rfl)
 | succ k ih => exact Zh (Ya.p k) mix tyok Try.func262 ⟨Yam.ok k, Ym.ok k, ih⟩ (by kernel_rfl) (fun a0 a1 a2 a3 a4_0_0 a4_1_0 a4_2_0 a4_3_0 => Eq.trans (b := Ya.m k (Ya.f k) a0 a1 a2 a3 a4_0_0 a4_1_0 a4_2_0 a4_3_0 (fun z0 => some z0) ((fun aD aE aF aG aI aZ => Ya.r0 k a0 a1 a2 a3 a4_0_0 a4_1_0 a4_2_0 a4_3_0 aD aE aF aG aI aZ k), (fun aT aQ aS aK aU bA => Ya.r2 k a0 a1 a2 a3 a4_0_0 a4_1_0 a4_2_0 a4_3_0 aT aQ aS aK aU bA k), (fun v4_0 v4_1 bV bX v4_4 v4_5 v4_6 bT bN v4_11 bP => Ya.r4 k a0 a1 a2 a3 a4_0_0 a4_1_0 a4_2_0 a4_3_0 v4_0 v4_1 bV bX v4_4 v4_5 v4_6 bT bN v4_11 bP k), (fun v5_0 v5_1 bU bW v5_4 v5_5 v5_6 bR bM v5_11 bO => Ya.r5 k a0 a1 a2 a3 a4_0_0 a4_1_0 a4_2_0 a4_3_0 v5_0 v5_1 bU bW v5_4 v5_5 v5_6 bR bM v5_11 bO k))) (by kernel_rfl) ((congrArg (Ya.m k (Ya.f k) a0 a1 a2 a3 a4_0_0 a4_1_0 a4_2_0 a4_3_0 (fun z0 => some z0)) (pair_eq (funext fun aD => funext fun aE => funext fun aF => funext fun aG => funext fun aI => funext fun aZ => funext fun v => Ya.l0_eq k a0 a1 a2 a3 a4_0_0 a4_1_0 a4_2_0 a4_3_0 aD aE aF aG aI aZ k v) (pair_eq (funext fun aT => funext fun aQ => funext fun aS => funext fun aK => funext fun aU => funext fun bA => funext fun v => Ya.l2_eq k a0 a1 a2 a3 a4_0_0 a4_1_0 a4_2_0 a4_3_0 aT aQ aS aK aU bA k v) (pair_eq (funext fun v4_0 => funext fun v4_1 => funext fun bV => funext fun bX => funext fun v4_4 => funext fun v4_5 => funext fun v4_6 => funext fun bT => funext fun bN => funext fun v4_11 => funext fun bP => funext fun v => Ya.l4_eq k a0 a1 a2 a3 a4_0_0 a4_1_0 a4_2_0 a4_3_0 v4_0 v4_1 bV bX v4_4 v4_5 v4_6 bT bN v4_11 bP k v) (funext fun v5_0 => funext fun v5_1 => funext fun bU => funext fun bW => funext fun v5_4 => funext fun v5_5 => funext fun v5_6 => funext fun bR => funext fun bM => funext fun v5_11 => funext fun bO => funext fun v => Ya.l5_eq k a0 a1 a2 a3 a4_0_0 a4_1_0 a4_2_0 a4_3_0 v5_0 v5_1 bU bW v5_4 v5_5 v5_6 bR bM v5_11 bO k v))))).trans (Ya.t_succ k a0 a1 a2 a3 a4_0_0 a4_1_0 a4_2_0 a4_3_0).symm))
theorem Ya.ok (k : Nat) : Za Try.prog 262 (Ya.e k) := (Ya.oks k)
noncomputable def Yb.l2 {β : Type} (k : Nat) (aT aQ : Int) (aS aK : LD) (aU aP : Int) (L1 : (Int × Int × LD × LD × Int × Int × LC) → Option β) (K : LC → Option β) (L2 : (Int × Int × LC) → Option β) (v : Int × Int × LC) : Option β :=
 match v with
 | (aX, bA, bL) => bif (decide ((bA : Int) ≤ aT)) then (Ya.f k bL aX (IntKind.wrap .i64 (aX + aP)) bA aQ aS aK aU (fun y237 => Zc (y237.length = bL.length) (L2 (bA, IntKind.wrap .i64 (bA + (IntKind.wrap .i64 (2 * aP))), y237)))) else (bif (decide (((IntKind.wrap .i64 (aX + aP)) : Int) < aT)) then (Ya.f k bL aX (IntKind.wrap .i64 (aX + aP)) aT aQ aS aK aU (fun y238 => Zc (y238.length = bL.length) (L1 (aT, aQ, aS, aK, aU, IntKind.wrap .i64 (aP * 2), y238)))) else (L1 (aT, aQ, aS, aK, aU, IntKind.wrap .i64 (aP * 2), bL)))
noncomputable def Yb.m1 {β : Type} (k : Nat) (K : LC → Option β) (L1 : (Int × Int × LD × LD × Int × Int × LC) → Option β) (v : Int × Int × LD × LD × Int × Int × LC) (F : (Int → Int → LD → LD → Int → Int → (Int × Int × LC) → Option β)) : Option β :=
 match v with
 | (aO, aL, aN, aW, aM, aV, aY) => bif (decide ((aV : Int) < aO)) then (F aO aL aN aW aM aV (0, IntKind.wrap .i64 (2 * aV), aY)) else (K aY)
noncomputable def Yb.l1 {β : Type} (k : Nat) (K : LC → Option β) (L1 : (Int × Int × LD × LD × Int × Int × LC) → Option β) (v : Int × Int × LD × LD × Int × Int × LC) : Option β := Yb.m1 k K L1 v (fun aT aQ aS aK aU aP => Zo (Yb.l2 k aT aQ aS aK aU aP L1 K) k)
noncomputable def Yb.m0 {β : Type} (k : Nat) (aD aE : Int) (aF aG : LD) (aI aJ : Int) (K : LC → Option β) (L0 : (Int × Int × LC) → Option β) (v : Int × Int × LC) (F : ((Int × Int × LD × LD × Int × Int × LC) → Option β)) : Option β :=
 match v with
 | (aR, aZ, bE) => bif (decide ((aZ : Int) ≤ aD)) then (Yc.f k bE aR aZ aE aF aG aI (fun y229 => Zc (y229.length = bE.length) (L0 (aZ, IntKind.wrap .i64 (aZ + aJ), y229)))) else (Yc.f k bE aR aD aE aF aG aI (fun y230 => Zc (y230.length = bE.length) (F (aD, aE, aF, aG, aI, aJ, y230))))
noncomputable def Yb.l0 {β : Type} (k : Nat) (aD aE : Int) (aF aG : LD) (aI aJ : Int) (K : LC → Option β) (L0 : (Int × Int × LC) → Option β) (v : Int × Int × LC) : Option β := Yb.m0 k aD aE aF aG aI aJ K L0 v (Zo (Yb.l1 k K) k)
noncomputable def Yb.m {β : Type} (k : Nat) (a0 : LC) (a1 a2_0_0 : Int) (a2_1_0 a2_2_0 : LD) (a2_3_0 : Int) (K : LC → Option β) (F : (Int → Int → LD → LD → Int → Int → (Int × Int × LC) → Option β)) : Option β :=
 F a1 a2_0_0 a2_1_0 a2_2_0 a2_3_0 20 (0, 20, a0)
noncomputable def Yb.g {β : Type} (k : Nat) (a0 : LC) (a1 a2_0_0 : Int) (a2_1_0 a2_2_0 : LD) (a2_3_0 : Int) (K : LC → Option β) : Option β :=
 Zo (Yb.l0 k a1 a2_0_0 a2_1_0 a2_2_0 a2_3_0 20 K) k (0, 20, a0)
noncomputable def Yb.t (k : Nat) (a0 : LC) (a1 a2_0_0 : Int) (a2_1_0 a2_2_0 : LD) (a2_3_0 : Int) : Option (LC) := Yb.g k a0 a1 a2_0_0 a2_1_0 a2_2_0 a2_3_0 (fun z0 => some z0)
noncomputable def Yb.f {β : Type} (k : Nat) (a0 : LC) (a1 a2_0_0 : Int) (a2_1_0 a2_2_0 : LD) (a2_3_0 : Int) (K : LC → Option β) : Option β := bd1 (Yb.t k a0 a1 a2_0_0 a2_1_0 a2_2_0 a2_3_0) K
noncomputable def Yb.e (k : Nat) : Zk := ent [.own false 77 [.o], .d .n, .fn 225 [[.n], [.l], [.l], [.n]]] [] [.o] [] false (Yb.t k)
noncomputable def Yb.p (k : Nat) : Pro := ⟨Try.prog, [(261, Yc.e k), (262, Ya.e k)], Zn [(2, kp [0, 1, 2, 6, 7, 8]), (7, kp [0, 1, 2, 6]), (9, kp [0, 1, 2, 6, 7, 8])] false [], k⟩
noncomputable def Yb.d (k : Nat) (a0 : LC) (a1 a2_0_0 : Int) (a2_1_0 a2_2_0 : LD) (a2_3_0 : Int) : Ex → St → Option (LC) := (Yb.p k).fin Try.f249 [.own false [.own a0], .d (.int .i64 a1), .d (.fn 225 [[.int .i64 a2_0_0], [.sl a2_1_0], [.sl a2_2_0], [.int .i64 a2_3_0]])] [] [.o]
noncomputable def Yb.s0 (aD aE : Int) (aF aG : LD) (aI aJ : Int) (v : Int × Int × LC) : St :=
 match v with
 | (aR, aZ, bE) => ZX 63 [(0, .row 0), (1, .d false (.int .i64 aD)), (2, .d false (.fn 225 [[.int .i64 aE], [.sl aF], [.sl aG], [.int .i64 aI]])), (6, .d true (.int .i64 aJ)), (7, .d true (.int .i64 aR)), (8, .d true (.int .i64 aZ))] [.row (some 0) false 77 bE]
noncomputable def Yb.r0 (k : Nat) (a0 : LC) (a1 a2_0_0 : Int) (a2_1_0 a2_2_0 : LD) (a2_3_0 aD aE : Int) (aF aG : LD) (aI aJ : Int) (n : Nat) (v : Int × Int × LC) : Option (LC) := (Yb.p k).lp (Zt Try.f249) 2 [1, 1, 0, 0] (Yb.d k a0 a1 a2_0_0 a2_1_0 a2_2_0 a2_3_0) n (Yb.s0 aD aE aF aG aI aJ v)
noncomputable def Yb.s1 (v : Int × Int × LD × LD × Int × Int × LC) : St :=
 match v with
 | (aO, aL, aN, aW, aM, aV, aY) => ZX 63 [(0, .row 0), (1, .d false (.int .i64 aO)), (2, .d false (.fn 225 [[.int .i64 aL], [.sl aN], [.sl aW], [.int .i64 aM]])), (6, .d true (.int .i64 aV))] [.row (some 0) false 77 aY]
noncomputable def Yb.c1 (k : Nat) (a0 : LC) (a1 a2_0_0 : Int) (a2_1_0 a2_2_0 : LD) (a2_3_0 : Int) : Ex → St → Option (LC) := (Yb.p k).ct (Zt Try.f249) [1, 1, 1, 1, 0] (Yb.d k a0 a1 a2_0_0 a2_1_0 a2_2_0 a2_3_0)
noncomputable def Yb.r1 (k : Nat) (a0 : LC) (a1 a2_0_0 : Int) (a2_1_0 a2_2_0 : LD) (a2_3_0 : Int) (n : Nat) (v : Int × Int × LD × LD × Int × Int × LC) : Option (LC) := (Yb.p k).lp (Zt Try.f249) 7 [1, 1, 1, 1, 0] (Yb.d k a0 a1 a2_0_0 a2_1_0 a2_2_0 a2_3_0) n (Yb.s1 v)
noncomputable def Yb.s2 (aT aQ : Int) (aS aK : LD) (aU aP : Int) (v : Int × Int × LC) : St :=
 match v with
 | (aX, bA, bL) => ZX 63 [(0, .row 0), (1, .d false (.int .i64 aT)), (2, .d false (.fn 225 [[.int .i64 aQ], [.sl aS], [.sl aK], [.int .i64 aU]])), (6, .d true (.int .i64 aP)), (7, .d true (.int .i64 aX)), (8, .d true (.int .i64 bA))] [.row (some 0) false 77 bL]
noncomputable def Yb.r2 (k : Nat) (a0 : LC) (a1 a2_0_0 : Int) (a2_1_0 a2_2_0 : LD) (a2_3_0 aT aQ : Int) (aS aK : LD) (aU aP : Int) (L1 : St → Option (LC)) (n : Nat) (v : Int × Int × LC) : Option (LC) := (Yb.p k).lp (codeAt [1, 1, 1, 1, 0, 0] (Zt Try.f249)) 9 [1, 0, 1, 0, 0] (backK ((Yb.p k).h.H 7) L1 (Yb.c1 k a0 a1 a2_0_0 a2_1_0 a2_2_0 a2_3_0)) n (Yb.s2 aT aQ aS aK aU aP v)
theorem Yb.l2_eq (k : Nat) (a0 : LC) (a1 a2_0_0 : Int) (a2_1_0 a2_2_0 : LD) (a2_3_0 aT aQ : Int) (aS aK : LD) (aU aP : Int) (L1 : St → Option (LC)) : ∀ n v, Yb.r2 k a0 a1 a2_0_0 a2_1_0 a2_2_0 a2_3_0 aT aQ aS aK aU aP L1 n v = Zo (Yb.l2 k aT aQ aS aK aU aP (fun v => L1 (Yb.s1 v)) (fun z0 => some z0)) n v :=
 Zm (Yb.s2 aT aQ aS aK aU aP) _ fun L2 v => by obtain ⟨aX, bA, bL⟩ := v; kernel_rfl
theorem Yb.l1_eq (k : Nat) (a0 : LC) (a1 a2_0_0 : Int) (a2_1_0 a2_2_0 : LD) (a2_3_0 : Int) : ∀ n v, Yb.r1 k a0 a1 a2_0_0 a2_1_0 a2_2_0 a2_3_0 n v = Zo (Yb.l1 k (fun z0 => some z0)) n v :=
 Zm (Yb.s1) _ fun L1 v => by obtain ⟨aO, aL, aN, aW, aM, aV, aY⟩ := v; exact Eq.trans (b := Yb.m1 k (fun z0 => some z0) (fun v => L1 (Yb.s1 v)) (aO, aL, aN, aW, aM, aV, aY) (fun aT aQ aS aK aU aP => Yb.r2 k a0 a1 a2_0_0 a2_1_0 a2_2_0 a2_3_0 aT aQ aS aK aU aP L1 k)) (by kernel_rfl) (congrArg (Yb.m1 k (fun z0 => some z0) (fun v => L1 (Yb.s1 v)) (aO, aL, aN, aW, aM, aV, aY)) (funext fun aT => funext fun aQ => funext fun aS => funext fun aK => funext fun aU => funext fun aP => funext fun v => Yb.l2_eq k a0 a1 a2_0_0 a2_1_0 a2_2_0 a2_3_0 aT aQ aS aK aU aP L1 k v))
theorem Yb.l0_eq (k : Nat) (a0 : LC) (a1 a2_0_0 : Int) (a2_1_0 a2_2_0 : LD) (a2_3_0 aD aE : Int) (aF aG : LD) (aI aJ : Int) : ∀ n v, Yb.r0 k a0 a1 a2_0_0 a2_1_0 a2_2_0 a2_3_0 aD aE aF aG aI aJ n v = Zo (Yb.l0 k aD aE aF aG aI aJ (fun z0 => some z0)) n v :=
 Zm (Yb.s0 aD aE aF aG aI aJ) _ fun L0 v => by obtain ⟨aR, aZ, bE⟩ := v; exact Eq.trans (b := Yb.m0 k aD aE aF aG aI aJ (fun z0 => some z0) (fun v => L0 (Yb.s0 aD aE aF aG aI aJ v)) (aR, aZ, bE) (Yb.r1 k a0 a1 a2_0_0 a2_1_0 a2_2_0 a2_3_0 k)) (by kernel_rfl) (congrArg (Yb.m0 k aD aE aF aG aI aJ (fun z0 => some z0) (fun v => L0 (Yb.s0 aD aE aF aG aI aJ v)) (aR, aZ, bE)) (funext fun v => Yb.l1_eq k a0 a1 a2_0_0 a2_1_0 a2_2_0 a2_3_0 k v))
theorem Yb.ok (k : Nat) : Za Try.prog 249 (Yb.e k) := Zh (Yb.p k) mix tyok Try.func249 ⟨Yc.ok k, Ya.ok k⟩ (by kernel_rfl) (fun a0 a1 a2_0_0 a2_1_0 a2_2_0 a2_3_0 => Eq.trans (b := Yb.m k a0 a1 a2_0_0 a2_1_0 a2_2_0 a2_3_0 (fun z0 => some z0) (fun aD aE aF aG aI aJ => Yb.r0 k a0 a1 a2_0_0 a2_1_0 a2_2_0 a2_3_0 aD aE aF aG aI aJ k)) (by kernel_rfl) (congrArg (Yb.m k a0 a1 a2_0_0 a2_1_0 a2_2_0 a2_3_0 (fun z0 => some z0)) (funext fun aD => funext fun aE => funext fun aF => funext fun aG => funext fun aI => funext fun aJ => funext fun v => Yb.l0_eq k a0 a1 a2_0_0 a2_1_0 a2_2_0 a2_3_0 aD aE aF aG aI aJ k v) :))
noncomputable def YB.g {β : Type} (k : Nat) (a0 : LC) (a1_0_0 : Int) (a1_1_0 a1_2_0 : LD) (a1_3_0 : Int) (K : LC → Option β) : Option β :=
 Yb.f k a0 (a0.length : Int) a1_0_0 a1_1_0 a1_2_0 a1_3_0 (fun y239 => Zc (y239.length = a0.length) (K y239))
noncomputable def YB.t (k : Nat) (a0 : LC) (a1_0_0 : Int) (a1_1_0 a1_2_0 : LD) (a1_3_0 : Int) : Option (LC) := YB.g k a0 a1_0_0 a1_1_0 a1_2_0 a1_3_0 (fun z0 => some z0)
noncomputable def YB.f {β : Type} (k : Nat) (a0 : LC) (a1_0_0 : Int) (a1_1_0 a1_2_0 : LD) (a1_3_0 : Int) (K : LC → Option β) : Option β := bd1 (YB.t k a0 a1_0_0 a1_1_0 a1_2_0 a1_3_0) K
noncomputable def YB.e (k : Nat) : Zk := ent [.own false 77 [.o], .fn 225 [[.n], [.l], [.l], [.n]]] [] [.o] [] false (YB.t k)
noncomputable def YB.p (k : Nat) : Pro := ⟨Try.prog, [(249, Yb.e k)], Zn [] false [], k⟩
theorem YB.ok (k : Nat) : Za Try.prog 224 (YB.e k) := Zh (YB.p k) mix tyok Try.func224 (Yb.ok k) (by kernel_rfl) (fun a0 a1_0_0 a1_1_0 a1_2_0 a1_3_0 => by show _ = _; kernel_rfl)
noncomputable def Yq.l3 {β : Type} (k : Nat) (bI : Int) (bZ : LC) (K : LC → Option β) (L3 : (Int × LC) → Option β) (v : Int × LC) : Option β :=
 match v with
 | (bQ, bY) => bif (decide ((bQ : Int) < bI)) then (Zc ((0 : Int) ≤ bQ ∧ bQ < (bZ.length : Int)) (ZaG bZ (Int.toNat bQ) fun c442 => Zas (c442.drop 0) fun c443 r => cD c443 fun d => dInt .i64 d fun x446 => Zc ((0 : Int) ≤ x446 ∧ x446 < (bY.length : Int)) (ZaG bY (Int.toNat x446) fun c447 => Zas (c447.drop 0) fun c448 r => cD c448 fun d => dInt .i64 d fun x451 => Zc ((0 : Int) ≤ x446 ∧ x446 < (bY.length : Int)) (Zc (Int.toNat x446 < bY.length) (L3 (IntKind.wrap .i64 (bQ + 1), bY.modify (Int.toNat x446) fun c => Zq c 0 [.d (.int .i64 (IntKind.wrap .i64 (x451 + 1)))])))))) else (K bY)
noncomputable def Yq.m2 {β : Type} (k : Nat) (aT aQ aK : Int) (aU aP : LD) (aX : Int) (bA : LC) (K : LC → Option β) (L2 : (Int × LC) → Option β) (v : Int × LC) (F : (Int → LC → (Int × LC) → Option β)) : Option β :=
 match v with
 | (aS, bL) => bif (decide ((aS : Int) < aQ)) then (Zc (bL.length + ([[.d (.int .i64 aS)]] : LC).length ≤ ZN) (L2 (IntKind.wrap .i64 (aS + 1), bL ++ ([[.d (.int .i64 aS)]] : LC)))) else (YB.f k bL aK aU aP aX (fun y431 => Zc (y431.length = bL.length ∧ flatC y431 = true) (Zc (0 ≤ (aT : Int) ∧ (aT : Int) ≤ (y431.length : Int)) (F ((y431.take (Int.toNat (aT : Int))).length : Int) (y431.take (Int.toNat (aT : Int))) (0, bA)))))
noncomputable def Yq.l2 {β : Type} (k : Nat) (aT aQ aK : Int) (aU aP : LD) (aX : Int) (bA : LC) (K : LC → Option β) (L2 : (Int × LC) → Option β) (v : Int × LC) : Option β := Yq.m2 k aT aQ aK aU aP aX bA K L2 v (fun bI bZ => Zo (Yq.l3 k bI bZ K) k)
noncomputable def Yq.m1 {β : Type} (k : Nat) (aL : LD) (aN aM : Int) (aV aY : LD) (bB : Int) (K : LC → Option β) (L1 : (Int × Int × LC) → Option β) (v : Int × Int × LC) (F : (Int → Int → Int → LD → LD → Int → LC → (Int × LC) → Option β)) : Option β :=
 match v with
 | (aO, aW, bH) => bif (decide ((aW : Int) < aN)) then (atR aL aW [.n] fun x401 => (atR aV x401 [.n] fun x405 => let J0 := (IntKind.wrap .i64 (Int.tdiv (IntKind.wrap .i64 (aM * x405)) bB)); (Zc ((bB : Int) ≠ 0) (Zc (bH.length + ([[.d (.int .i64 J0)]] : LC).length ≤ ZN) (atR aV x401 [.n] fun x409 => (Zc ((bB : Int) ≠ 0) (L1 (IntKind.wrap .i64 (aO - (IntKind.wrap .i64 (Int.tdiv (IntKind.wrap .i64 (aM * x409)) bB))), IntKind.wrap .i64 (aW + 1), bH ++ ([[.d (.int .i64 J0)]] : LC))))))))) else (F aO (aY.length : Int) aM aV aY bB bH (0, ([] : LC)))
noncomputable def Yq.l1 {β : Type} (k : Nat) (aL : LD) (aN aM : Int) (aV aY : LD) (bB : Int) (K : LC → Option β) (L1 : (Int × Int × LC) → Option β) (v : Int × Int × LC) : Option β := Yq.m1 k aL aN aM aV aY bB K L1 v (fun aT aQ aK aU aP aX bA => Zo (Yq.l2 k aT aQ aK aU aP aX bA K) k)
noncomputable def Yq.m0 {β : Type} (k : Nat) (aD : LD) (aE aG : Int) (aI aJ : LD) (K : LC → Option β) (L0 : (Int × Int) → Option β) (v : Int × Int) (F : (LD → Int → Int → LD → LD → Int → (Int × Int × LC) → Option β)) : Option β :=
 match v with
 | (aF, aR) => bif (decide ((aF : Int) < aE)) then (atR aD aF [.n] fun x339 => (atR aI x339 [.n] fun x343 => (L0 (IntKind.wrap .i64 (aF + 1), IntKind.wrap .i64 (aR + x343))))) else (F aJ (aJ.length : Int) aG aI aJ aR (aG, 0, ([] : LC)))
noncomputable def Yq.l0 {β : Type} (k : Nat) (aD : LD) (aE aG : Int) (aI aJ : LD) (K : LC → Option β) (L0 : (Int × Int) → Option β) (v : Int × Int) : Option β := Yq.m0 k aD aE aG aI aJ K L0 v (fun aL aN aM aV aY bB => Zo (Yq.l1 k aL aN aM aV aY bB K) k)
noncomputable def Yq.m {β : Type} (k : Nat) (a0 : Int) (a1 a2 : LD) (K : LC → Option β) (F : (LD → Int → Int → LD → LD → (Int × Int) → Option β)) : Option β :=
 F a2 (a2.length : Int) a0 a1 a2 (0, 0)
noncomputable def Yq.g {β : Type} (k : Nat) (a0 : Int) (a1 a2 : LD) (K : LC → Option β) : Option β :=
 Zo (Yq.l0 k a2 (a2.length : Int) a0 a1 a2 K) k (0, 0)
noncomputable def Yq.t (k : Nat) (a0 : Int) (a1 a2 : LD) : Option (LC) := Yq.g k a0 a1 a2 (fun z0 => some z0)
noncomputable def Yq.f {β : Type} (k : Nat) (a0 : Int) (a1 a2 : LD) (K : LC → Option β) : Option β := bd1 (Yq.t k a0 a1 a2) K
noncomputable def Yq.e (k : Nat) : Zk := ent [.d .n, .d .l, .d .l] [1] [.o] [77] false (Yq.t k)
noncomputable def Yq.p (k : Nat) : Pro := ⟨Try.prog, [(224, YB.e k)], Zn [(3, kp [3, 4, 5, 7, 18, 19, 20]), (10, kp [3, 4, 5, 7, 10, 33, 34, 35] [(11, .dat false)]), (17, kp [3, 4, 5, 7, 10, 11, 14, 63, 64]), (23, kp [10, 77, 78, 79])] false [], k⟩
noncomputable def Yq.d (k : Nat) (a0 : Int) (a1 a2 : LD) : Ex → St → Option (LC) := (Yq.p k).fin Try.f182 [.d (.int .i64 a0), .d (.sl a1), .d (.sl a2)] [1] [.o]
noncomputable def Yq.s0 (aD : LD) (aE aG : Int) (aI aJ : LD) (v : Int × Int) : St :=
 match v with
 | (aF, aR) => ZX 91 [(3, .bp 0 0), (4, .bp 1 0), (5, .bp 2 0), (7, .bp 3 0), (18, .d false (.sl aD)), (19, .d true (.int .i64 aE)), (20, .d true (.int .i64 aF))] [.box none 3 [.d false (.int .i64 aG)], .box none 77 [.d false (.sl aI)], .box none 77 [.d false (.sl aJ)], .box none 3 [.d true (.int .i64 aR)]]
noncomputable def Yq.r0 (k : Nat) (a0 : Int) (a1 a2 aD : LD) (aE aG : Int) (aI aJ : LD) (n : Nat) (v : Int × Int) : Option (LC) := (Yq.p k).lp (Zt Try.f182) 3 [1, 1, 0, 1, 0] (Yq.d k a0 a1 a2) n (Yq.s0 aD aE aG aI aJ v)
noncomputable def Yq.s1 (aL : LD) (aN aM : Int) (aV aY : LD) (bB : Int) (v : Int × Int × LC) : St :=
 match v with
 | (aO, aW, bH) => ZX 91 [(3, .bp 0 0), (4, .bp 1 0), (5, .bp 2 0), (7, .bp 3 0), (10, .row 4), (11, .d false (.int .i64 aO)), (33, .d false (.sl aL)), (34, .d true (.int .i64 aN)), (35, .d true (.int .i64 aW))] [.box none 3 [.d false (.int .i64 aM)], .box none 77 [.d false (.sl aV)], .box none 77 [.d false (.sl aY)], .box none 3 [.d true (.int .i64 bB)], .row none true 77 bH]
noncomputable def Yq.r1 (k : Nat) (a0 : Int) (a1 a2 aL : LD) (aN aM : Int) (aV aY : LD) (bB : Int) (n : Nat) (v : Int × Int × LC) : Option (LC) := (Yq.p k).lp (Zt Try.f182) 10 [1, 1, 1, 1, 1, 0, 1, 0] (Yq.d k a0 a1 a2) n (Yq.s1 aL aN aM aV aY bB v)
noncomputable def Yq.s2 (aT aQ aK : Int) (aU aP : LD) (aX : Int) (bA : LC) (v : Int × LC) : St :=
 match v with
 | (aS, bL) => ZX 91 [(3, .bp 0 0), (4, .bp 1 0), (5, .bp 2 0), (7, .bp 3 0), (10, .row 4), (11, .d false (.int .i64 aT)), (14, .row 5), (63, .d true (.int .i64 aQ)), (64, .d true (.int .i64 aS))] [.box none 3 [.d false (.int .i64 aK)], .box none 77 [.d false (.sl aU)], .box none 77 [.d false (.sl aP)], .box none 3 [.d true (.int .i64 aX)], .row none true 77 bA, .row none true 77 bL]
noncomputable def Yq.r2 (k : Nat) (a0 : Int) (a1 a2 : LD) (aT aQ aK : Int) (aU aP : LD) (aX : Int) (bA : LC) (n : Nat) (v : Int × LC) : Option (LC) := (Yq.p k).lp (Zt Try.f182) 17 [1, 1, 1, 1, 1, 1, 1, 0, 1, 0] (Yq.d k a0 a1 a2) n (Yq.s2 aT aQ aK aU aP aX bA v)
noncomputable def Yq.s3 (bI : Int) (bZ : LC) (v : Int × LC) : St :=
 match v with
 | (bQ, bY) => ZX 91 [(10, .row 0), (77, .row 1), (78, .d true (.int .i64 bI)), (79, .d true (.int .i64 bQ))] [.row none true 77 bY, .row none true 77 bZ]
noncomputable def Yq.r3 (k : Nat) (a0 : Int) (a1 a2 : LD) (bI : Int) (bZ : LC) (n : Nat) (v : Int × LC) : Option (LC) := (Yq.p k).lp (Zt Try.f182) 23 [1, 1, 1, 1, 1, 1, 1, 1, 1, 0, 1, 0] (Yq.d k a0 a1 a2) n (Yq.s3 bI bZ v)
theorem Yq.l3_eq (k : Nat) (a0 : Int) (a1 a2 : LD) (bI : Int) (bZ : LC) : ∀ n v, Yq.r3 k a0 a1 a2 bI bZ n v = Zo (Yq.l3 k bI bZ (fun z0 => some z0)) n v :=
 Zm (Yq.s3 bI bZ) _ fun L3 v => by obtain ⟨bQ, bY⟩ := v; kernel_rfl
theorem Yq.l2_eq (k : Nat) (a0 : Int) (a1 a2 : LD) (aT aQ aK : Int) (aU aP : LD) (aX : Int) (bA : LC) : ∀ n v, Yq.r2 k a0 a1 a2 aT aQ aK aU aP aX bA n v = Zo (Yq.l2 k aT aQ aK aU aP aX bA (fun z0 => some z0)) n v :=
 Zm (Yq.s2 aT aQ aK aU aP aX bA) _ fun L2 v => by obtain ⟨aS, bL⟩ := v; exact Eq.trans (b := Yq.m2 k aT aQ aK aU aP aX bA (fun z0 => some z0) (fun v => L2 (Yq.s2 aT aQ aK aU aP aX bA v)) (aS, bL) (fun bI bZ => Yq.r3 k a0 a1 a2 bI bZ k)) (by kernel_rfl) (congrArg (Yq.m2 k aT aQ aK aU aP aX bA (fun z0 => some z0) (fun v => L2 (Yq.s2 aT aQ aK aU aP aX bA v)) (aS, bL)) (funext fun bI => funext fun bZ => funext fun v => Yq.l3_eq k a0 a1 a2 bI bZ k v))
theorem Yq.l1_eq (k : Nat) (a0 : Int) (a1 a2 aL : LD) (aN aM : Int) (aV aY : LD) (bB : Int) : ∀ n v, Yq.r1 k a0 a1 a2 aL aN aM aV aY bB n v = Zo (Yq.l1 k aL aN aM aV aY bB (fun z0 => some z0)) n v :=
 Zm (Yq.s1 aL aN aM aV aY bB) _ fun L1 v => by obtain ⟨aO, aW, bH⟩ := v; exact Eq.trans (b := Yq.m1 k aL aN aM aV aY bB (fun z0 => some z0) (fun v => L1 (Yq.s1 aL aN aM aV aY bB v)) (aO, aW, bH) (fun aT aQ aK aU aP aX bA => Yq.r2 k a0 a1 a2 aT aQ aK aU aP aX bA k)) (by kernel_rfl) (congrArg (Yq.m1 k aL aN aM aV aY bB (fun z0 => some z0) (fun v => L1 (Yq.s1 aL aN aM aV aY bB v)) (aO, aW, bH)) (funext fun aT => funext fun aQ => funext fun aK => funext fun aU => funext fun aP => funext fun aX => funext fun bA => funext fun v => Yq.l2_eq k a0 a1 a2 aT aQ aK aU aP aX bA k v))
theorem Yq.l0_eq (k : Nat) (a0 : Int) (a1 a2 aD : LD) (aE aG : Int) (aI aJ : LD) : ∀ n v, Yq.r0 k a0 a1 a2 aD aE aG aI aJ n v = Zo (Yq.l0 k aD aE aG aI aJ (fun z0 => some z0)) n v :=
 Zm (Yq.s0 aD aE aG aI aJ) _ fun L0 v => by obtain ⟨aF, aR⟩ := v; exact Eq.trans (b := Yq.m0 k aD aE aG aI aJ (fun z0 => some z0) (fun v => L0 (Yq.s0 aD aE aG aI aJ v)) (aF, aR) (fun aL aN aM aV aY bB => Yq.r1 k a0 a1 a2 aL aN aM aV aY bB k)) (by kernel_rfl) (congrArg (Yq.m0 k aD aE aG aI aJ (fun z0 => some z0) (fun v => L0 (Yq.s0 aD aE aG aI aJ v)) (aF, aR)) (funext fun aL => funext fun aN => funext fun aM => funext fun aV => funext fun aY => funext fun bB => funext fun v => Yq.l1_eq k a0 a1 a2 aL aN aM aV aY bB k v))
theorem Yq.ok (k : Nat) : Za Try.prog 182 (Yq.e k) := Zh (Yq.p k) mix tyok Try.func182 (YB.ok k) (by kernel_rfl) (fun a0 a1 a2 => Eq.trans (b := Yq.m k a0 a1 a2 (fun z0 => some z0) (fun aD aE aG aI aJ => Yq.r0 k a0 a1 a2 aD aE aG aI aJ k)) (by kernel_rfl) (congrArg (Yq.m k a0 a1 a2 (fun z0 => some z0)) (funext fun aD => funext fun aE => funext fun aG => funext fun aI => funext fun aJ => funext fun v => Yq.l0_eq k a0 a1 a2 aD aE aG aI aJ k v) :))
end Go.Proofs.Ytpgplbalenfgfaa
