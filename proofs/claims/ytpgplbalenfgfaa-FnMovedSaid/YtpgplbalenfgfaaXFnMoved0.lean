/- Printed: the functions that FnMoved reaches, read by the evaluator, each with its contract. -/
import Derived.Test.YtpgplbalenfgfaaTIns
import Derived.Test.YtpgplbalenfgfaaProg
import Derived.KernelRfl
set_option linter.unusedVariables false
set_option linter.unusedSimpArgs false
namespace Go.Proofs.Ytpgplbalenfgfaa
open Go Go.T Go.Proofs
theorem mix : Try.prog.follows .mixedOrders = true := by kernel_rfl
theorem tyok : ZaI Try.prog := tyOk_of (by kernel_rfl)
noncomputable def Yan.g {β : Type} (k : Nat) (a0 : List (List D)) (K : Bool → Option β) : Option β :=
  K (decide (((a0.length : Int) : Int) > 1048576))
noncomputable def Yan.t (k : Nat) (a0 : List (List D)) : Option (Bool) := Yan.g k a0 (fun z0 => some z0)
noncomputable def Yan.f {β : Type} (k : Nat) (a0 : List (List D)) (K : Bool → Option β) : Option β := bd1 (Yan.t k a0) K
noncomputable def Yan.e (k : Nat) : Zk := ent [.d .l] [1] [.b] [4] false (Yan.t k)
noncomputable def Yan.p (k : Nat) : Pro := ⟨Try.prog, [], Zn [] false [], k⟩
theorem Yan.ok (k : Nat) : Za Try.prog 11 (Yan.e k) := Zh (Yan.p k) mix tyok Try.func11 trivial (by kernel_rfl) (fun a0 => by show _ = _; kernel_rfl)
noncomputable def YU.l0 {β : Type} (k : Nat) (aD : List (List D)) (K : (List (List D)) → Int → Int → Option β) (L0 : (Int × Int) → Option β) (v : Int × Int) : Option β :=
  match v with
  | (aH, aJ) => bif (decide ((aJ : Int) < (aD.length : Int))) then (bif (decide ((aJ : Int) < 4000)) then (atR aD aJ [.i .u8] fun x8 => (L0 (IntKind.wrap .i64 ((BitVec.ofInt (IntKind.bits .i64) (IntKind.wrap .i64 ((IntKind.wrap .i64 ((IntKind.wrap .i64 (aH * 137)) + (IntKind.wrap .i64 x8))) + 11)) &&& BitVec.ofInt (IntKind.bits .i64) 1073741823).toNat), IntKind.wrap .i64 (aJ + 1)))) else (K aD 0 aH)) else (K aD 0 aH)
noncomputable def YU.m {β : Type} (k : Nat) (a0 : List (List D)) (K : (List (List D)) → Int → Int → Option β) (F : ((List (List D)) → (Int × Int) → Option β)) : Option β :=
  F a0 (IntKind.wrap .i64 (138138 + (a0.length : Int)), 0)
noncomputable def YU.g {β : Type} (k : Nat) (a0 : List (List D)) (K : (List (List D)) → Int → Int → Option β) : Option β :=
  Zo (YU.l0 k a0 K) k (IntKind.wrap .i64 (138138 + (a0.length : Int)), 0)
noncomputable def YU.t (k : Nat) (a0 : List (List D)) : Option ((List (List D)) × Int × Int) := YU.g k a0 (fun z0 z1 z2 => some (z0, z1, z2))
noncomputable def YU.f {β : Type} (k : Nat) (a0 : List (List D)) (K : (List (List D)) → Int → Int → Option β) : Option β := bd3 (YU.t k a0) K
noncomputable def YU.e (k : Nat) : Zk := ent [.d .l] [3] [.l, .n, .n] [106] true (YU.t k)
noncomputable def YU.p (k : Nat) : Pro := ⟨Try.prog, [], Zn [(3, kp [0, 3, 4])] true [], k⟩
noncomputable def YU.d (k : Nat) (a0 : List (List D)) : Ex → St → Option ((List (List D)) × Int × Int) := (YU.p k).fin Try.f58 [.d (.sl a0)] [3] [.l, .n, .n]
noncomputable def YU.s0 (aD : List (List D)) (v : Int × Int) : St :=
  match v with
  | (aH, aJ) => ZX 32 [(0, .d false (.sl aD)), (3, .d true (.int .i64 aH)), (4, .d true (.int .i64 aJ))] []
noncomputable def YU.r0 (k : Nat) (a0 aD : List (List D)) (n : Nat) (v : Int × Int) : Option ((List (List D)) × Int × Int) := (YU.p k).lp (Zt Try.f58) 3 [1, 1, 0, 1, 0] (YU.d k a0) n (YU.s0 aD v)
theorem YU.l0_eq (k : Nat) (a0 aD : List (List D)) : ∀ n v, YU.r0 k a0 aD n v = Zo (YU.l0 k aD (fun z0 z1 z2 => some (z0, z1, z2))) n v :=
  Zm (YU.s0 aD) _ fun L0 v => by obtain ⟨aH, aJ⟩ := v; kernel_rfl
theorem YU.ok (k : Nat) : Za Try.prog 58 (YU.e k) := Zh (YU.p k) mix tyok Try.func58 trivial (by kernel_rfl) (fun a0 => Eq.trans (b := YU.m k a0 (fun z0 z1 z2 => some (z0, z1, z2)) (fun aD => YU.r0 k a0 aD k)) (by kernel_rfl) (congrArg (YU.m k a0 (fun z0 z1 z2 => some (z0, z1, z2))) (funext fun aD => funext fun v => YU.l0_eq k a0 aD k v) :))
noncomputable def Y5.g {β : Type} (k : Nat) (aB : List (List D)) (aA aC : Int) (K : Int → (List (List D)) → Int → Int → Option β) : Option β :=
  let J1 := (IntKind.wrap .i64 ((IntKind.wrap .i64 (aC * 6364136223846793005)) + 1442695040888963407)); let J0 := (IntKind.wrap .i64 ((BitVec.ofInt (IntKind.bits .i64) (IntKind.wrap .i64 ((BitVec.ofInt (IntKind.bits .i64) (Int.fdiv J1 (2 ^ (min (33 : Int).toNat 64))) ^^^ BitVec.ofInt (IntKind.bits .i64) (Int.fdiv J1 (2 ^ (min (47 : Int).toNat 64)))).toNat)) &&& BitVec.ofInt (IntKind.bits .i64) 255).toNat)); Zc ((0 : Int) ≤ 33) (Zc ((0 : Int) ≤ 47) (bif (decide ((aA : Int) < (aB.length : Int))) then (atR aB aA [.i .u8] fun x4 => (K (IntKind.wrap .i64 ((BitVec.ofInt (IntKind.bits .i64) (IntKind.wrap .i64 (J0 + (IntKind.wrap .i64 x4))) &&& BitVec.ofInt (IntKind.bits .i64) 255).toNat)) aB (IntKind.wrap .i64 (aA + 1)) J1)) else (K J0 aB aA J1)))
noncomputable def Y5.t (k : Nat) (aB : List (List D)) (aA aC : Int) : Option (Int × (List (List D)) × Int × Int) := Y5.g k aB aA aC (fun z0 z1 z2 z3 => some (z0, z1, z2, z3))
noncomputable def Y5.f {β : Type} (k : Nat) (aB : List (List D)) (aA aC : Int) (K : Int → (List (List D)) → Int → Int → Option β) : Option β := bd4 (Y5.t k aB aA aC) K
noncomputable def Y5.e (k : Nat) : Zk := ent [.box 178 [.l, .n, .n]] [1] [.n, .l, .n, .n] [3] false (Y5.t k)
noncomputable def Y5.p (k : Nat) : Pro := ⟨Try.prog, [], Zn [] false [], k⟩
theorem Y5.ok (k : Nat) : Za Try.prog 174 (Y5.e k) := Zh (Y5.p k) mix tyok Try.func174 trivial (by kernel_rfl) (fun aB aA aC => by show _ = _; kernel_rfl)
noncomputable def Yt.g {β : Type} (k : Nat) (aB : List (List D)) (aA aC a1 : Int) (K : Int → (List (List D)) → Int → Int → Option β) : Option β :=
  bif (decide ((a1 : Int) ≤ 0)) then (K 0 aB aA aC) else (bif (decide ((a1 : Int) ≤ 256)) then (Y5.f k aB aA aC (fun y5 y6 y7 y8 => Zc ((a1 : Int) ≠ 0) (K (Int.tmod y5 a1) y6 y7 y8))) else (Y5.f k aB aA aC (fun y9 y10 y11 y12 => Y5.f k y10 y11 y12 (fun y13 y14 y15 y16 => Y5.f k y14 y15 y16 (fun y17 y18 y19 y20 => Zc ((a1 : Int) ≠ 0) (K (Int.tmod (IntKind.wrap .i64 ((IntKind.wrap .i64 ((IntKind.wrap .i64 (y9 * 65536)) + (IntKind.wrap .i64 (y13 * 256)))) + y17)) a1) y18 y19 y20))))))
noncomputable def Yt.t (k : Nat) (aB : List (List D)) (aA aC a1 : Int) : Option (Int × (List (List D)) × Int × Int) := Yt.g k aB aA aC a1 (fun z0 z1 z2 z3 => some (z0, z1, z2, z3))
noncomputable def Yt.f {β : Type} (k : Nat) (aB : List (List D)) (aA aC a1 : Int) (K : Int → (List (List D)) → Int → Int → Option β) : Option β := bd4 (Yt.t k aB aA aC a1) K
noncomputable def Yt.e (k : Nat) : Zk := ent [.box 178 [.l, .n, .n], .d .n] [1] [.n, .l, .n, .n] [3] false (Yt.t k)
noncomputable def Yt.p (k : Nat) : Pro := ⟨Try.prog, [(174, Y5.e k)], Zn [] false [], k⟩
theorem Yt.ok (k : Nat) : Za Try.prog 112 (Yt.e k) := Zh (Yt.p k) mix tyok Try.func112 (Y5.ok k) (by kernel_rfl) (fun aB aA aC a1 => by show _ = _; kernel_rfl)
noncomputable def Y1.g {β : Type} (k : Nat) (aB : List (List D)) (aA aC : Int) (a1 : List (List D)) (K : ByteArray → (List (List D)) → Int → Int → Option β) : Option β :=
  Yt.f k aB aA aC (a1.length : Int) (fun y21 y22 y23 y24 => atR a1 y21 [.s] fun x28 => (K x28 y22 y23 y24))
noncomputable def Y1.t (k : Nat) (aB : List (List D)) (aA aC : Int) (a1 : List (List D)) : Option (ByteArray × (List (List D)) × Int × Int) := Y1.g k aB aA aC a1 (fun z0 z1 z2 z3 => some (z0, z1, z2, z3))
noncomputable def Y1.f {β : Type} (k : Nat) (aB : List (List D)) (aA aC : Int) (a1 : List (List D)) (K : ByteArray → (List (List D)) → Int → Int → Option β) : Option β := bd4 (Y1.t k aB aA aC a1) K
noncomputable def Y1.e (k : Nat) : Zk := ent [.box 178 [.l, .n, .n], .d .l] [1] [.s, .l, .n, .n] [9] false (Y1.t k)
noncomputable def Y1.p (k : Nat) : Pro := ⟨Try.prog, [(112, Yt.e k)], Zn [] false [], k⟩
theorem Y1.ok (k : Nat) : Za Try.prog 75 (Y1.e k) := Zh (Y1.p k) mix tyok Try.func75 (Yt.ok k) (by kernel_rfl) (fun aB aA aC a1 => by show _ = _; kernel_rfl)
noncomputable def Yab.g {β : Type} (k : Nat) (aB : List (List D)) (aA aC : Int) (K : ByteArray → (List (List D)) → Int → Int → Option β) : Option β :=
  Y1.f k aB aA aC ([[.str (⟨#[97]⟩ : ByteArray)], [.str (⟨#[98]⟩ : ByteArray)], [.str (⟨#[99]⟩ : ByteArray)], [.str (⟨#[100]⟩ : ByteArray)], [.str (⟨#[101]⟩ : ByteArray)]] : List (List D)) (fun y29 y30 y31 y32 => K y29 y30 y31 y32)
noncomputable def Yab.t (k : Nat) (aB : List (List D)) (aA aC : Int) : Option (ByteArray × (List (List D)) × Int × Int) := Yab.g k aB aA aC (fun z0 z1 z2 z3 => some (z0, z1, z2, z3))
noncomputable def Yab.f {β : Type} (k : Nat) (aB : List (List D)) (aA aC : Int) (K : ByteArray → (List (List D)) → Int → Int → Option β) : Option β := bd4 (Yab.t k aB aA aC) K
noncomputable def Yab.e (k : Nat) : Zk := ent [.box 178 [.l, .n, .n]] [1] [.s, .l, .n, .n] [9] false (Yab.t k)
noncomputable def Yab.p (k : Nat) : Pro := ⟨Try.prog, [(75, Y1.e k)], Zn [] false [], k⟩
theorem Yab.ok (k : Nat) : Za Try.prog 166 (Yab.e k) := Zh (Yab.p k) mix tyok Try.func166 (Y1.ok k) (by kernel_rfl) (fun aB aA aC => by show _ = _; kernel_rfl)
noncomputable def Yaa.g {β : Type} (k : Nat) (aB : List (List D)) (aA aC : Int) (a1 : List (List D)) (K : Int → (List (List D)) → Int → Int → Option β) : Option β :=
  Yt.f k aB aA aC (a1.length : Int) (fun y1 y2 y3 y4 => atR a1 y1 [.n] fun x8 => (K x8 y2 y3 y4))
noncomputable def Yaa.t (k : Nat) (aB : List (List D)) (aA aC : Int) (a1 : List (List D)) : Option (Int × (List (List D)) × Int × Int) := Yaa.g k aB aA aC a1 (fun z0 z1 z2 z3 => some (z0, z1, z2, z3))
noncomputable def Yaa.f {β : Type} (k : Nat) (aB : List (List D)) (aA aC : Int) (a1 : List (List D)) (K : Int → (List (List D)) → Int → Int → Option β) : Option β := bd4 (Yaa.t k aB aA aC a1) K
noncomputable def Yaa.e (k : Nat) : Zk := ent [.box 178 [.l, .n, .n], .d .l] [1] [.n, .l, .n, .n] [3] false (Yaa.t k)
noncomputable def Yaa.p (k : Nat) : Pro := ⟨Try.prog, [(112, Yt.e k)], Zn [] false [], k⟩
theorem Yaa.ok (k : Nat) : Za Try.prog 118 (Yaa.e k) := Zh (Yaa.p k) mix tyok Try.func118 (Yt.ok k) (by kernel_rfl) (fun aB aA aC a1 => by show _ = _; kernel_rfl)
noncomputable def Yy.g {β : Type} (k : Nat) (a0 a1 a2 : Int) (K : Bool → Option β) : Option β :=
  bif (decide ((a0 : Int) ≥ a1)) then (K (decide ((a0 : Int) ≤ a2))) else (K false)
noncomputable def Yy.t (k : Nat) (a0 a1 a2 : Int) : Option (Bool) := Yy.g k a0 a1 a2 (fun z0 => some z0)
noncomputable def Yy.f {β : Type} (k : Nat) (a0 a1 a2 : Int) (K : Bool → Option β) : Option β := bd1 (Yy.t k a0 a1 a2) K
noncomputable def Yy.e (k : Nat) : Zk := ent [.d .n, .d .n, .d .n] [1] [.b] [4] false (Yy.t k)
noncomputable def Yy.p (k : Nat) : Pro := ⟨Try.prog, [], Zn [] false [], k⟩
theorem Yy.ok (k : Nat) : Za Try.prog 79 (Yy.e k) := Zh (Yy.p k) mix tyok Try.func79 trivial (by kernel_rfl) (fun a0 a1 a2 => by show _ = _; kernel_rfl)
noncomputable def Yh.l0 {β : Type} (k : Nat) (aD : ByteArray) (K : Bool → Option β) (L0 : Int → Option β) (v : Int) : Option β :=
  match v with
  | aH => bif (decide ((aH : Int) < (aD.size : Int))) then (Za0 aD aH fun b9 => Yy.f k (IntKind.wrap .i64 b9) 97 122 (fun y10 => bif (!y10) then (Za0 aD aH fun b11 => Yy.f k (IntKind.wrap .i64 b11) 48 57 (fun y12 => bif (!y12) then (Za0 aD aH fun b13 => bif ((b13 : Int) != 45) then (K false) else (L0 (IntKind.wrap .i64 (aH + 1)))) else (L0 (IntKind.wrap .i64 (aH + 1))))) else (L0 (IntKind.wrap .i64 (aH + 1))))) else (Yy.f k (aD.size : Int) 1 20 (fun y14 => bif y14 then (Za0 aD 0 fun b15 => bif ((b15 : Int) != 45) then (Za0 aD (IntKind.wrap .i64 ((aD.size : Int) - 1)) fun b16 => K ((b16 : Int) != 45)) else (K false)) else (K false)))
noncomputable def Yh.m {β : Type} (k : Nat) (a0 : ByteArray) (K : Bool → Option β) (F : (ByteArray → Int → Option β)) : Option β :=
  F a0 (0)
noncomputable def Yh.g {β : Type} (k : Nat) (a0 : ByteArray) (K : Bool → Option β) : Option β :=
  Zo (Yh.l0 k a0 K) k (0)
noncomputable def Yh.t (k : Nat) (a0 : ByteArray) : Option (Bool) := Yh.g k a0 (fun z0 => some z0)
noncomputable def Yh.f {β : Type} (k : Nat) (a0 : ByteArray) (K : Bool → Option β) : Option β := bd1 (Yh.t k a0) K
noncomputable def Yh.e (k : Nat) : Zk := ent [.d .s] [1] [.b] [4] false (Yh.t k)
noncomputable def Yh.p (k : Nat) : Pro := ⟨Try.prog, [(79, Yy.e k)], Zn [(2, kp [0, 3])] false [], k⟩
noncomputable def Yh.d (k : Nat) (a0 : ByteArray) : Ex → St → Option (Bool) := (Yh.p k).fin Try.f76 [.d (.str a0)] [1] [.b]
noncomputable def Yh.s0 (aD : ByteArray) (v : Int) : St :=
  match v with
  | aH => ZX 46 [(0, .d false (.str aD)), (3, .d true (.int .i64 aH))] []
noncomputable def Yh.r0 (k : Nat) (a0 aD : ByteArray) (n : Nat) (v : Int) : Option (Bool) := (Yh.p k).lp (Zt Try.f76) 2 [1, 0, 1, 0] (Yh.d k a0) n (Yh.s0 aD v)
theorem Yh.l0_eq (k : Nat) (a0 aD : ByteArray) : ∀ n v, Yh.r0 k a0 aD n v = Zo (Yh.l0 k aD (fun z0 => some z0)) n v :=
  Zm (Yh.s0 aD) _ fun L0 v => by kernel_rfl
theorem Yh.ok (k : Nat) : Za Try.prog 76 (Yh.e k) := Zh (Yh.p k) mix tyok Try.func76 (Yy.ok k) (by kernel_rfl) (fun a0 => Eq.trans (b := Yh.m k a0 (fun z0 => some z0) (fun aD => Yh.r0 k a0 aD k)) (by kernel_rfl) (congrArg (Yh.m k a0 (fun z0 => some z0)) (funext fun aD => funext fun v => Yh.l0_eq k a0 aD k v) :))
noncomputable def Yah.g {β : Type} (k : Nat) (a0 : ByteArray) (a1 : Int) (K : ByteArray → Int → Int → (List (List C)) → (List (List C)) → Bool → Option β) : Option β :=
  Yh.f k a0 (fun y17 => let J0 := (K (⟨#[]⟩ : ByteArray) 0 0 ([] : List (List C)) ([] : List (List C)) false); bif (!y17) then J0 else (Yy.f k a1 0 10000 (fun y18 => bif (!y18) then J0 else (K a0 a1 0 ([] : List (List C)) ([] : List (List C)) true))))
noncomputable def Yah.t (k : Nat) (a0 : ByteArray) (a1 : Int) : Option (ByteArray × Int × Int × (List (List C)) × (List (List C)) × Bool) := Yah.g k a0 a1 (fun z0 z1 z2 z3 z4 z5 => some (z0, z1, z2, z3, z4, z5))
noncomputable def Yah.f {β : Type} (k : Nat) (a0 : ByteArray) (a1 : Int) (K : ByteArray → Int → Int → (List (List C)) → (List (List C)) → Bool → Option β) : Option β := match Yah.t k a0 a1 with | some (z0, z1, z2, z3, z4, z5) => K z0 z1 z2 z3 z4 z5 | none => none
noncomputable def Yah.e (k : Nat) : Zk := ent [.d .s, .d .n] [5, 1] [.s, .n, .n, .o, .o, .b] [57, 4] false (Yah.t k)
noncomputable def Yah.p (k : Nat) : Pro := ⟨Try.prog, [(76, Yh.e k), (79, Yy.e k)], Zn [] false [], k⟩
theorem Yah.ok (k : Nat) : Za Try.prog 165 (Yah.e k) := Zh (Yah.p k) mix tyok Try.func165 ⟨Yh.ok k, Yy.ok k⟩ (by kernel_rfl) (fun a0 a1 => by show _ = _; kernel_rfl)
noncomputable def Yaf.g {β : Type} (k : Nat) (aB : List (List D)) (aA aC a1 : Int) (K : Bool → (List (List D)) → Int → Int → Option β) : Option β :=
  Yt.f k aB aA aC a1 (fun y1 y2 y3 y4 => K ((y1 : Int) == 0) y2 y3 y4)
noncomputable def Yaf.t (k : Nat) (aB : List (List D)) (aA aC a1 : Int) : Option (Bool × (List (List D)) × Int × Int) := Yaf.g k aB aA aC a1 (fun z0 z1 z2 z3 => some (z0, z1, z2, z3))
noncomputable def Yaf.f {β : Type} (k : Nat) (aB : List (List D)) (aA aC a1 : Int) (K : Bool → (List (List D)) → Int → Int → Option β) : Option β := bd4 (Yaf.t k aB aA aC a1) K
noncomputable def Yaf.e (k : Nat) : Zk := ent [.box 178 [.l, .n, .n], .d .n] [1] [.b, .l, .n, .n] [4] false (Yaf.t k)
noncomputable def Yaf.p (k : Nat) : Pro := ⟨Try.prog, [(112, Yt.e k)], Zn [] false [], k⟩
theorem Yaf.ok (k : Nat) : Za Try.prog 81 (Yaf.e k) := Zh (Yaf.p k) mix tyok Try.func81 (Yt.ok k) (by kernel_rfl) (fun aB aA aC a1 => by show _ = _; kernel_rfl)
noncomputable def Yae.g {β : Type} (k : Nat) (aB : List (List D)) (aA aC : Int) (K : ByteArray → (List (List D)) → Int → Int → Option β) : Option β :=
  Y1.f k aB aA aC ([[.str (⟨#[97]⟩ : ByteArray)], [.str (⟨#[98]⟩ : ByteArray)], [.str (⟨#[99]⟩ : ByteArray)], [.str (⟨#[122, 111, 110, 101]⟩ : ByteArray)], [.str (⟨#[116, 105, 101, 114]⟩ : ByteArray)], [.str (⟨#[103, 111, 108, 100]⟩ : ByteArray)], [.str (⟨#[101, 97, 115, 116]⟩ : ByteArray)], [.str (⟨#[120, 45, 49]⟩ : ByteArray)], [.str (⟨#[97, 98, 99, 100, 101, 102, 103, 104, 105, 106, 107, 108, 109, 110, 111, 112, 113, 114, 115, 116]⟩ : ByteArray)]] : List (List D)) (fun y1 y2 y3 y4 => K y1 y2 y3 y4)
noncomputable def Yae.t (k : Nat) (aB : List (List D)) (aA aC : Int) : Option (ByteArray × (List (List D)) × Int × Int) := Yae.g k aB aA aC (fun z0 z1 z2 z3 => some (z0, z1, z2, z3))
noncomputable def Yae.f {β : Type} (k : Nat) (aB : List (List D)) (aA aC : Int) (K : ByteArray → (List (List D)) → Int → Int → Option β) : Option β := bd4 (Yae.t k aB aA aC) K
noncomputable def Yae.e (k : Nat) : Zk := ent [.box 178 [.l, .n, .n]] [1] [.s, .l, .n, .n] [9] false (Yae.t k)
noncomputable def Yae.p (k : Nat) : Pro := ⟨Try.prog, [(75, Y1.e k)], Zn [] false [], k⟩
theorem Yae.ok (k : Nat) : Za Try.prog 84 (Yae.e k) := Zh (Yae.p k) mix tyok Try.func84 (Y1.ok k) (by kernel_rfl) (fun aB aA aC => by show _ = _; kernel_rfl)
noncomputable def Ys.l0 {β : Type} (k : Nat) (aD : List (List D)) (aH : ByteArray) (K : ByteArray → Bool → Option β) (L0 : Int → Option β) (v : Int) : Option β :=
  match v with
  | aJ => bif (decide ((aJ : Int) < (aD.length : Int))) then (atR aD aJ [.s, .s] fun x18 x21 => (bif (Zae x18 aH) then (atR aD aJ [.s, .s] fun x25 x28 => (K x28 true)) else (L0 (IntKind.wrap .i64 (aJ + 1))))) else (K (⟨#[]⟩ : ByteArray) false)
noncomputable def Ys.m {β : Type} (k : Nat) (a0 : List (List D)) (a1 : ByteArray) (K : ByteArray → Bool → Option β) (F : ((List (List D)) → ByteArray → Int → Option β)) : Option β :=
  F a0 a1 (0)
noncomputable def Ys.g {β : Type} (k : Nat) (a0 : List (List D)) (a1 : ByteArray) (K : ByteArray → Bool → Option β) : Option β :=
  Zo (Ys.l0 k a0 a1 K) k (0)
noncomputable def Ys.t (k : Nat) (a0 : List (List D)) (a1 : ByteArray) : Option (ByteArray × Bool) := Ys.g k a0 a1 (fun z0 z1 => some (z0, z1))
noncomputable def Ys.f {β : Type} (k : Nat) (a0 : List (List D)) (a1 : ByteArray) (K : ByteArray → Bool → Option β) : Option β := bd2 (Ys.t k a0 a1) K
noncomputable def Ys.e (k : Nat) : Zk := ent [.d .l, .d .s] [1, 1] [.s, .b] [9, 4] false (Ys.t k)
noncomputable def Ys.p (k : Nat) : Pro := ⟨Try.prog, [], Zn [(2, kp [0, 1, 6])] false [], k⟩
noncomputable def Ys.d (k : Nat) (a0 : List (List D)) (a1 : ByteArray) : Ex → St → Option (ByteArray × Bool) := (Ys.p k).fin Try.f158 [.d (.sl a0), .d (.str a1)] [1, 1] [.s, .b]
noncomputable def Ys.s0 (aD : List (List D)) (aH : ByteArray) (v : Int) : St :=
  match v with
  | aJ => ZX 25 [(0, .d false (.sl aD)), (1, .d false (.str aH)), (6, .d true (.int .i64 aJ))] []
noncomputable def Ys.r0 (k : Nat) (a0 : List (List D)) (a1 : ByteArray) (aD : List (List D)) (aH : ByteArray) (n : Nat) (v : Int) : Option (ByteArray × Bool) := (Ys.p k).lp (Zt Try.f158) 2 [1, 0, 1, 0] (Ys.d k a0 a1) n (Ys.s0 aD aH v)
theorem Ys.l0_eq (k : Nat) (a0 : List (List D)) (a1 : ByteArray) (aD : List (List D)) (aH : ByteArray) : ∀ n v, Ys.r0 k a0 a1 aD aH n v = Zo (Ys.l0 k aD aH (fun z0 z1 => some (z0, z1))) n v :=
  Zm (Ys.s0 aD aH) _ fun L0 v => by kernel_rfl
theorem Ys.ok (k : Nat) : Za Try.prog 158 (Ys.e k) := Zh (Ys.p k) mix tyok Try.func158 trivial (by kernel_rfl) (fun a0 a1 => Eq.trans (b := Ys.m k a0 a1 (fun z0 z1 => some (z0, z1)) (fun aD aH => Ys.r0 k a0 a1 aD aH k)) (by kernel_rfl) (congrArg (Ys.m k a0 a1 (fun z0 z1 => some (z0, z1))) (funext fun aD => funext fun aH => funext fun v => Ys.l0_eq k a0 a1 aD aH k v) :))
noncomputable def Yu.l0 {β : Type} (k : Nat) (aD : List (List D)) (K : Bool → Option β) (L0 : Int → Option β) (v : Int) : Option β :=
  match v with
  | aH => bif (decide ((aH : Int) < (aD.length : Int))) then (atR aD aH [.s, .s] fun x34 x37 => (Yh.f k x34 (fun y38 => bif (!y38) then (K false) else (atR aD aH [.s, .s] fun x42 x45 => (Yh.f k x45 (fun y46 => bif (!y46) then (K false) else (bif (decide ((aH : Int) > 0)) then (atR aD (IntKind.wrap .i64 (aH - 1)) [.s, .s] fun x50 x53 => (atR aD aH [.s, .s] fun x57 x60 => (bif (!(ZbO x50 x57)) then (K false) else (L0 (IntKind.wrap .i64 (aH + 1)))))) else (L0 (IntKind.wrap .i64 (aH + 1)))))))))) else (K (decide (((aD.length : Int) : Int) ≤ 8)))
noncomputable def Yu.m {β : Type} (k : Nat) (a0 : List (List D)) (K : Bool → Option β) (F : ((List (List D)) → Int → Option β)) : Option β :=
  F a0 (0)
noncomputable def Yu.g {β : Type} (k : Nat) (a0 : List (List D)) (K : Bool → Option β) : Option β :=
  Zo (Yu.l0 k a0 K) k (0)
noncomputable def Yu.t (k : Nat) (a0 : List (List D)) : Option (Bool) := Yu.g k a0 (fun z0 => some z0)
noncomputable def Yu.f {β : Type} (k : Nat) (a0 : List (List D)) (K : Bool → Option β) : Option β := bd1 (Yu.t k a0) K
noncomputable def Yu.e (k : Nat) : Zk := ent [.d .l] [1] [.b] [4] false (Yu.t k)
noncomputable def Yu.p (k : Nat) : Pro := ⟨Try.prog, [(76, Yh.e k)], Zn [(2, kp [0, 3])] false [], k⟩
noncomputable def Yu.d (k : Nat) (a0 : List (List D)) : Ex → St → Option (Bool) := (Yu.p k).fin Try.f94 [.d (.sl a0)] [1] [.b]
noncomputable def Yu.s0 (aD : List (List D)) (v : Int) : St :=
  match v with
  | aH => ZX 47 [(0, .d false (.sl aD)), (3, .d true (.int .i64 aH))] []
noncomputable def Yu.r0 (k : Nat) (a0 aD : List (List D)) (n : Nat) (v : Int) : Option (Bool) := (Yu.p k).lp (Zt Try.f94) 2 [1, 0, 1, 0] (Yu.d k a0) n (Yu.s0 aD v)
theorem Yu.l0_eq (k : Nat) (a0 aD : List (List D)) : ∀ n v, Yu.r0 k a0 aD n v = Zo (Yu.l0 k aD (fun z0 => some z0)) n v :=
  Zm (Yu.s0 aD) _ fun L0 v => by kernel_rfl
theorem Yu.ok (k : Nat) : Za Try.prog 94 (Yu.e k) := Zh (Yu.p k) mix tyok Try.func94 (Yh.ok k) (by kernel_rfl) (fun a0 => Eq.trans (b := Yu.m k a0 (fun z0 => some z0) (fun aD => Yu.r0 k a0 aD k)) (by kernel_rfl) (congrArg (Yu.m k a0 (fun z0 => some z0)) (funext fun aD => funext fun v => Yu.l0_eq k a0 aD k v) :))
noncomputable def Y2.g {β : Type} (k : Nat) (a0 : List (List D)) (K : (List (List C)) → Option β) : Option β :=
  Zc (ZaZ 2 a0) (Zc (([] : List (List C)).length + (a0.map (·.map C.d)).length ≤ ZN) (K (([] : List (List C)) ++ (a0.map (·.map C.d)))))
noncomputable def Y2.t (k : Nat) (a0 : List (List D)) : Option ((List (List C))) := Y2.g k a0 (fun z0 => some z0)
noncomputable def Y2.f {β : Type} (k : Nat) (a0 : List (List D)) (K : (List (List C)) → Option β) : Option β := bd1 (Y2.t k a0) K
noncomputable def Y2.e (k : Nat) : Zk := ent [.d .l] [1] [.o] [45] false (Y2.t k)
noncomputable def Y2.p (k : Nat) : Pro := ⟨Try.prog, [], Zn [] false [], k⟩
theorem Y2.ok (k : Nat) : Za Try.prog 245 (Y2.e k) := Zh (Y2.p k) mix tyok Try.func245 trivial (by kernel_rfl) (fun a0 => by show _ = _; kernel_rfl)
noncomputable def Yr.l1 {β : Type} (k : Nat) (aV : List (List D)) (bB bA : ByteArray) (K : (List (List C)) → Bool → Option β) (L1 : (Bool × Int × (List (List C))) → Option β) (v : Bool × Int × (List (List C))) : Option β :=
  match v with
  | (aZ, aW, aU) => let J0 := (aU.length + ([[.d (.str bB), .d (.str bA)]] : List (List C)).length ≤ ZN); let J1 := (aU ++ ([[.d (.str bB), .d (.str bA)]] : List (List C))); bif (decide ((aW : Int) < (aV.length : Int))) then (bif (!aZ) then (atR aV aW [.s, .s] fun x218 x221 => (bif (!(ZbO x218 bB)) then (Zc J0 (atR aV aW [.s, .s] fun x225 x228 => (bif (!(Zae x225 bB)) then (atR aV aW [.s, .s] fun x232 x235 => (Zc (J1.length + ([[.d (.str x232), .d (.str x235)]] : List (List C)).length ≤ ZN) (L1 (true, IntKind.wrap .i64 (aW + 1), J1 ++ ([[.d (.str x232), .d (.str x235)]] : List (List C)))))) else (L1 (true, IntKind.wrap .i64 (aW + 1), aU ++ ([[.d (.str bB), .d (.str bA)]] : List (List C))))))) else (atR aV aW [.s, .s] fun x239 x242 => (bif (!(Zae x239 bB)) then (atR aV aW [.s, .s] fun x246 x249 => (Zc (aU.length + ([[.d (.str x246), .d (.str x249)]] : List (List C)).length ≤ ZN) (L1 (aZ, IntKind.wrap .i64 (aW + 1), aU ++ ([[.d (.str x246), .d (.str x249)]] : List (List C)))))) else (L1 (aZ, IntKind.wrap .i64 (aW + 1), aU)))))) else (atR aV aW [.s, .s] fun x253 x256 => (bif (!(Zae x253 bB)) then (atR aV aW [.s, .s] fun x260 x263 => (Zc (aU.length + ([[.d (.str x260), .d (.str x263)]] : List (List C)).length ≤ ZN) (L1 (aZ, IntKind.wrap .i64 (aW + 1), aU ++ ([[.d (.str x260), .d (.str x263)]] : List (List C)))))) else (L1 (aZ, IntKind.wrap .i64 (aW + 1), aU))))) else (bif (!aZ) then (Zc J0 (K J1 true)) else (K aU true))
noncomputable def Yr.l0 {β : Type} (k : Nat) (aD : List (List D)) (aH aJ : ByteArray) (K : (List (List C)) → Bool → Option β) (L0 : (Bool × Int × (List (List C))) → Option β) (v : Bool × Int × (List (List C))) : Option β :=
  match v with
  | (aK, aL, aM) => let J0 := (aM.length + ([[.d (.str aH), .d (.str aJ)]] : List (List C)).length ≤ ZN); let J1 := (aM ++ ([[.d (.str aH), .d (.str aJ)]] : List (List C))); bif (decide ((aL : Int) < (aD.length : Int))) then (bif (!aK) then (atR aD aL [.s, .s] fun x120 x123 => (bif (!(ZbO x120 aH)) then (Zc J0 (atR aD aL [.s, .s] fun x127 x130 => (bif (!(Zae x127 aH)) then (atR aD aL [.s, .s] fun x134 x137 => (Zc (J1.length + ([[.d (.str x134), .d (.str x137)]] : List (List C)).length ≤ ZN) (L0 (true, IntKind.wrap .i64 (aL + 1), J1 ++ ([[.d (.str x134), .d (.str x137)]] : List (List C)))))) else (L0 (true, IntKind.wrap .i64 (aL + 1), aM ++ ([[.d (.str aH), .d (.str aJ)]] : List (List C))))))) else (atR aD aL [.s, .s] fun x141 x144 => (bif (!(Zae x141 aH)) then (atR aD aL [.s, .s] fun x148 x151 => (Zc (aM.length + ([[.d (.str x148), .d (.str x151)]] : List (List C)).length ≤ ZN) (L0 (aK, IntKind.wrap .i64 (aL + 1), aM ++ ([[.d (.str x148), .d (.str x151)]] : List (List C)))))) else (L0 (aK, IntKind.wrap .i64 (aL + 1), aM)))))) else (atR aD aL [.s, .s] fun x155 x158 => (bif (!(Zae x155 aH)) then (atR aD aL [.s, .s] fun x162 x165 => (Zc (aM.length + ([[.d (.str x162), .d (.str x165)]] : List (List C)).length ≤ ZN) (L0 (aK, IntKind.wrap .i64 (aL + 1), aM ++ ([[.d (.str x162), .d (.str x165)]] : List (List C)))))) else (L0 (aK, IntKind.wrap .i64 (aL + 1), aM))))) else (bif (!aK) then (Zc J0 (K J1 true)) else (K aM true))
noncomputable def Yr.m {β : Type} (k : Nat) (a0 : List (List D)) (a1 a2 : ByteArray) (K : (List (List C)) → Bool → Option β) (F : ((List (List D)) → ByteArray → ByteArray → (Bool × Int × (List (List C))) → Option β) × ((List (List D)) → ByteArray → ByteArray → (Bool × Int × (List (List C))) → Option β)) : Option β :=
  Ys.f k a0 a1 (fun y29 y30 => Yu.f k a0 (fun y61 => bif (!y61) then (Y2.f k a0 (fun y62 => K y62 false)) else (Yh.f k a1 (fun y63 => bif (!y63) then (Y2.f k a0 (fun y64 => K y64 false)) else (Yh.f k a2 (fun y65 => bif (!y65) then (Y2.f k a0 (fun y66 => K y66 false)) else (bif (!y30) then (bif (((a0.length : Int) : Int) == 8) then (Y2.f k a0 (fun y67 => K y67 false)) else (F.1 a0 a1 a2 (false, 0, ([] : List (List C))))) else (F.2 a0 a1 a2 (false, 0, ([] : List (List C)))))))))))
noncomputable def Yr.g {β : Type} (k : Nat) (a0 : List (List D)) (a1 a2 : ByteArray) (K : (List (List C)) → Bool → Option β) : Option β := Yr.m k a0 a1 a2 K ((fun aD aH aJ => Zo (Yr.l0 k aD aH aJ K) k), (fun aV bB bA => Zo (Yr.l1 k aV bB bA K) k))
noncomputable def Yr.t (k : Nat) (a0 : List (List D)) (a1 a2 : ByteArray) : Option ((List (List C)) × Bool) := Yr.g k a0 a1 a2 (fun z0 z1 => some (z0, z1))
noncomputable def Yr.f {β : Type} (k : Nat) (a0 : List (List D)) (a1 a2 : ByteArray) (K : (List (List C)) → Bool → Option β) : Option β := bd2 (Yr.t k a0 a1 a2) K
noncomputable def Yr.e (k : Nat) : Zk := ent [.d .l, .d .s, .d .s] [1, 1] [.o, .b] [45, 4] false (Yr.t k)
noncomputable def Yr.p (k : Nat) : Pro := ⟨Try.prog, [(158, Ys.e k), (94, Yu.e k), (245, Y2.e k), (76, Yh.e k)], Zn [(7, kp [0, 1, 2, 10, 11, 12])] false [], k⟩
noncomputable def Yr.d (k : Nat) (a0 : List (List D)) (a1 a2 : ByteArray) : Ex → St → Option ((List (List C)) × Bool) := (Yr.p k).fin Try.f211 [.d (.sl a0), .d (.str a1), .d (.str a2)] [1, 1] [.o, .b]
noncomputable def Yr.s0 (aD : List (List D)) (aH aJ : ByteArray) (v : Bool × Int × (List (List C))) : St :=
  match v with
  | (aK, aL, aM) => ZX 90 [(0, .d false (.sl aD)), (1, .d false (.str aH)), (2, .d false (.str aJ)), (10, .row 0), (11, .d true (.bool aK)), (12, .d true (.int .i64 aL))] [.row none true 45 aM]
noncomputable def Yr.r0 (k : Nat) (a0 : List (List D)) (a1 a2 : ByteArray) (aD : List (List D)) (aH aJ : ByteArray) (n : Nat) (v : Bool × Int × (List (List C))) : Option ((List (List C)) × Bool) := (Yr.p k).lp (Zt Try.f211) 7 [1, 1, 1, 1, 1, 0, 1, 0] (Yr.d k a0 a1 a2) n (Yr.s0 aD aH aJ v)
noncomputable def Yr.s1 (aV : List (List D)) (bB bA : ByteArray) (v : Bool × Int × (List (List C))) : St :=
  match v with
  | (aZ, aW, aU) => ZX 90 [(0, .d false (.sl aV)), (1, .d false (.str bB)), (2, .d false (.str bA)), (10, .row 0), (11, .d true (.bool aZ)), (12, .d true (.int .i64 aW))] [.row none true 45 aU]
noncomputable def Yr.r1 (k : Nat) (a0 : List (List D)) (a1 a2 : ByteArray) (aV : List (List D)) (bB bA : ByteArray) (n : Nat) (v : Bool × Int × (List (List C))) : Option ((List (List C)) × Bool) := (Yr.p k).lp (Zt Try.f211) 7 [1, 1, 1, 1, 1, 0, 1, 0] (Yr.d k a0 a1 a2) n (Yr.s1 aV bB bA v)
theorem Yr.l1_eq (k : Nat) (a0 : List (List D)) (a1 a2 : ByteArray) (aV : List (List D)) (bB bA : ByteArray) : ∀ n v, Yr.r1 k a0 a1 a2 aV bB bA n v = Zo (Yr.l1 k aV bB bA (fun z0 z1 => some (z0, z1))) n v :=
  Zm (Yr.s1 aV bB bA) _ fun L1 v => by obtain ⟨aZ, aW, aU⟩ := v; kernel_rfl
theorem Yr.l0_eq (k : Nat) (a0 : List (List D)) (a1 a2 : ByteArray) (aD : List (List D)) (aH aJ : ByteArray) : ∀ n v, Yr.r0 k a0 a1 a2 aD aH aJ n v = Zo (Yr.l0 k aD aH aJ (fun z0 z1 => some (z0, z1))) n v :=
  Zm (Yr.s0 aD aH aJ) _ fun L0 v => by obtain ⟨aK, aL, aM⟩ := v; kernel_rfl
theorem Yr.ok (k : Nat) : Za Try.prog 211 (Yr.e k) := Zh (Yr.p k) mix tyok Try.func211 ⟨Ys.ok k, Yu.ok k, Y2.ok k, Yh.ok k⟩ (by kernel_rfl) (fun a0 a1 a2 => Eq.trans (b := Yr.m k a0 a1 a2 (fun z0 z1 => some (z0, z1)) ((fun aD aH aJ => Yr.r0 k a0 a1 a2 aD aH aJ k), (fun aV bB bA => Yr.r1 k a0 a1 a2 aV bB bA k))) (by kernel_rfl) (congrArg (Yr.m k a0 a1 a2 (fun z0 z1 => some (z0, z1))) (pair_eq (funext fun aD => funext fun aH => funext fun aJ => funext fun v => Yr.l0_eq k a0 a1 a2 aD aH aJ k v) (funext fun aV => funext fun bB => funext fun bA => funext fun v => Yr.l1_eq k a0 a1 a2 aV bB bA k v)) :))
noncomputable def YK.l0 {β : Type} (k : Nat) (K : (List (List C)) → (List (List D)) → Int → Int → Option β) (L0 : (Int × (List (List D)) × Int × Int × (List (List C))) → Option β) (v : Int × (List (List D)) × Int × Int × (List (List C))) : Option β :=
  match v with
  | (aD, aH, aJ, aK, aL) => bif (decide ((aD : Int) > 0)) then (Yae.f k aH aJ aK (fun y266 y267 y268 y269 => Yae.f k y267 y268 y269 (fun y270 y271 y272 y273 => Yr.f k (C.immRows aL) y266 y270 (fun y274 y275 => L0 (IntKind.wrap .i64 (aD - 1), y271, y272, y273, y274))))) else (K aL aH aJ aK)
noncomputable def YK.m {β : Type} (k : Nat) (aB : List (List D)) (aA aC a1 : Int) (K : (List (List C)) → (List (List D)) → Int → Int → Option β) (F : ((Int × (List (List D)) × Int × Int × (List (List C))) → Option β)) : Option β :=
  Yt.f k aB aA aC a1 (fun y1 y2 y3 y4 => F (y1, y2, y3, y4, ([] : List (List C))))
noncomputable def YK.g {β : Type} (k : Nat) (aB : List (List D)) (aA aC a1 : Int) (K : (List (List C)) → (List (List D)) → Int → Int → Option β) : Option β :=
  Yt.f k aB aA aC a1 (fun y1 y2 y3 y4 => Zo (YK.l0 k K) k (y1, y2, y3, y4, ([] : List (List C))))
noncomputable def YK.t (k : Nat) (aB : List (List D)) (aA aC a1 : Int) : Option ((List (List C)) × (List (List D)) × Int × Int) := YK.g k aB aA aC a1 (fun z0 z1 z2 z3 => some (z0, z1, z2, z3))
noncomputable def YK.f {β : Type} (k : Nat) (aB : List (List D)) (aA aC a1 : Int) (K : (List (List C)) → (List (List D)) → Int → Int → Option β) : Option β := bd4 (YK.t k aB aA aC a1) K
noncomputable def YK.e (k : Nat) : Zk := ent [.box 178 [.l, .n, .n], .d .n] [1] [.o, .l, .n, .n] [45] false (YK.t k)
noncomputable def YK.p (k : Nat) : Pro := ⟨Try.prog, [(112, Yt.e k), (84, Yae.e k), (211, Yr.e k)], Zn [(3, kp [0, 5, 6])] false [], k⟩
noncomputable def YK.d (k : Nat) (aB : List (List D)) (aA aC a1 : Int) : Ex → St → Option ((List (List C)) × (List (List D)) × Int × Int) := (YK.p k).fin Try.f157 [.box [.d (.sl aB), .d (.int .i64 aA), .d (.int .i64 aC)], .d (.int .i64 a1)] [1] [.o, .l, .n, .n]
noncomputable def YK.s0 (v : Int × (List (List D)) × Int × Int × (List (List C))) : St :=
  match v with
  | (aD, aH, aJ, aK, aL) => ZX 25 [(0, .bp 0 0), (5, .row 1), (6, .d true (.int .i64 aD))] [.box (some 0) 178 [.d false (.sl aH), .d false (.int .i64 aJ), .d false (.int .i64 aK)], .row none true 45 aL]
noncomputable def YK.r0 (k : Nat) (aB : List (List D)) (aA aC a1 : Int) (n : Nat) (v : Int × (List (List D)) × Int × Int × (List (List C))) : Option ((List (List C)) × (List (List D)) × Int × Int) := (YK.p k).lp (Zt Try.f157) 3 [1, 1, 0, 1, 0] (YK.d k aB aA aC a1) n (YK.s0 v)
theorem YK.l0_eq (k : Nat) (aB : List (List D)) (aA aC a1 : Int) : ∀ n v, YK.r0 k aB aA aC a1 n v = Zo (YK.l0 k (fun z0 z1 z2 z3 => some (z0, z1, z2, z3))) n v :=
  Zm (YK.s0) _ fun L0 v => by obtain ⟨aD, aH, aJ, aK, aL⟩ := v; kernel_rfl
theorem YK.ok (k : Nat) : Za Try.prog 157 (YK.e k) := Zh (YK.p k) mix tyok Try.func157 ⟨Yt.ok k, Yae.ok k, Yr.ok k⟩ (by kernel_rfl) (fun aB aA aC a1 => Eq.trans (b := YK.m k aB aA aC a1 (fun z0 z1 z2 z3 => some (z0, z1, z2, z3)) (YK.r0 k aB aA aC a1 k)) (by kernel_rfl) (congrArg (YK.m k aB aA aC a1 (fun z0 z1 z2 z3 => some (z0, z1, z2, z3))) (funext fun v => YK.l0_eq k aB aA aC a1 k v) :))
noncomputable def Yc.l5 {β : Type} (k : Nat) (r_spec_l4Draw : (List (List D)) → Int → Int → Int → (Int → ByteArray → Int → (List (List C)) → (List (List C)) → (List (List D)) → Int → Int → Option β) → Option β) (v5_0 : Int) (v5_5 : Int) (v5_6 : ByteArray) (v5_7 : Int) (v5_8 : Int) (v5_9 : ByteArray) (v5_10 : Int) (v5_11 : List (List C)) (K : Int → ByteArray → Int → (List (List C)) → (List (List C)) → (List (List D)) → Int → Int → Option β) (L5 : (Int × (List (List D)) × Int × Int × (List (List C)) × (List (List C))) → Option β) (v : Int × (List (List D)) × Int × Int × (List (List C)) × (List (List C))) : Option β :=
  match v with
  | (v5_1, v5_2, v5_3, v5_4, v5_12, v5_13) => bif (decide ((v5_1 : Int) < (v5_11.length : Int))) then (Zc ((0 : Int) ≤ v5_1 ∧ v5_1 < (v5_11.length : Int)) (ZaG v5_11 (Int.toNat v5_1) fun c417 => Zas (c417.drop 0) fun c418 r419 => cD c418 fun d420 => dStr d420 fun x421 => Zc (v5_12.length + ([[.d (.str x421)]] : List (List C)).length ≤ ZN) (r_spec_l4Draw v5_2 v5_3 v5_4 (IntKind.wrap .i64 (v5_0 - 1)) (fun y422 y423 y424 y425 y426 y427 y428 y429 => Zc (v5_13.length + ([[.d (.int .i64 y422), .d (.str y423), .d (.int .i64 y424), .own y425, .own y426]] : List (List C)).length ≤ ZN) (L5 (IntKind.wrap .i64 (v5_1 + 1), y427, y428, y429, v5_12 ++ ([[.d (.str x421)]] : List (List C)), v5_13 ++ ([[.d (.int .i64 y422), .d (.str y423), .d (.int .i64 y424), .own y425, .own y426]] : List (List C)))))))) else (K v5_8 v5_9 v5_10 v5_12 v5_13 v5_2 v5_3 v5_4)
noncomputable def Yc.l4 {β : Type} (k : Nat) (r_spec_l4Draw : (List (List D)) → Int → Int → Int → (Int → ByteArray → Int → (List (List C)) → (List (List C)) → (List (List D)) → Int → Int → Option β) → Option β) (bN : Int) (bP : Int) (bR : ByteArray) (bT : Int) (bL : Int) (v4_9 : ByteArray) (v4_10 : Int) (K : Int → ByteArray → Int → (List (List C)) → (List (List C)) → (List (List D)) → Int → Int → Option β) (L4 : (Int × (List (List D)) × Int × Int × (List (List C))) → Option β) (v : Int × (List (List D)) × Int × Int × (List (List C))) : Option β :=
  match v with
  | (v4_1, v4_2, v4_3, v4_4, v4_11) => bif (decide ((v4_1 : Int) > 0)) then (r_spec_l4Draw v4_2 v4_3 v4_4 (IntKind.wrap .i64 (bN - 1)) (fun y392 y393 y394 y395 y396 y397 y398 y399 => Zc (v4_11.length + ([[.d (.int .i64 y392), .d (.str y393), .d (.int .i64 y394), .own y395, .own y396]] : List (List C)).length ≤ ZN) (L4 (IntKind.wrap .i64 (v4_1 - 1), y397, y398, y399, v4_11 ++ ([[.d (.int .i64 y392), .d (.str y393), .d (.int .i64 y394), .own y395, .own y396]] : List (List C)))))) else (K bL v4_9 v4_10 ([] : List (List C)) v4_11 v4_2 v4_3 v4_4)
noncomputable def Yc.l3 {β : Type} (k : Nat) (r_spec_l4Draw : (List (List D)) → Int → Int → Int → (Int → ByteArray → Int → (List (List C)) → (List (List C)) → (List (List D)) → Int → Int → Option β) → Option β) (v3_0 : Int) (bH : Int) (bE : ByteArray) (bG : Int) (v3_8 : Int) (v3_9 : ByteArray) (v3_10 : Int) (v3_11 : List (List C)) (K : Int → ByteArray → Int → (List (List C)) → (List (List C)) → (List (List D)) → Int → Int → Option β) (L3 : (Int × (List (List D)) × Int × Int × (List (List C)) × (List (List C))) → Option β) (v : Int × (List (List D)) × Int × Int × (List (List C)) × (List (List C))) : Option β :=
  match v with
  | (v3_1, v3_2, v3_3, v3_4, v3_12, v3_13) => bif (decide ((v3_1 : Int) < (v3_11.length : Int))) then (Zc ((0 : Int) ≤ v3_1 ∧ v3_1 < (v3_11.length : Int)) (ZaG v3_11 (Int.toNat v3_1) fun c355 => Zas (c355.drop 0) fun c356 r357 => cD c356 fun d358 => dStr d358 fun x359 => Zc (v3_12.length + ([[.d (.str x359)]] : List (List C)).length ≤ ZN) (r_spec_l4Draw v3_2 v3_3 v3_4 (IntKind.wrap .i64 (v3_0 - 1)) (fun y360 y361 y362 y363 y364 y365 y366 y367 => Zc (v3_13.length + ([[.d (.int .i64 y360), .d (.str y361), .d (.int .i64 y362), .own y363, .own y364]] : List (List C)).length ≤ ZN) (L3 (IntKind.wrap .i64 (v3_1 + 1), y365, y366, y367, v3_12 ++ ([[.d (.str x359)]] : List (List C)), v3_13 ++ ([[.d (.int .i64 y360), .d (.str y361), .d (.int .i64 y362), .own y363, .own y364]] : List (List C)))))))) else (K v3_8 v3_9 v3_10 v3_12 v3_13 v3_2 v3_3 v3_4)
noncomputable def Yc.l2 {β : Type} (k : Nat) (r_spec_l4Draw : (List (List D)) → Int → Int → Int → (Int → ByteArray → Int → (List (List C)) → (List (List C)) → (List (List D)) → Int → Int → Option β) → Option β) (bO : Int) (bQ : Int) (bU : ByteArray) (bV : Int) (bM : Int) (v2_9 : ByteArray) (v2_10 : Int) (K : Int → ByteArray → Int → (List (List C)) → (List (List C)) → (List (List D)) → Int → Int → Option β) (L2 : (Int × (List (List D)) × Int × Int × (List (List C))) → Option β) (v : Int × (List (List D)) × Int × Int × (List (List C))) : Option β :=
  match v with
  | (v2_1, v2_2, v2_3, v2_4, v2_11) => bif (decide ((v2_1 : Int) > 0)) then (r_spec_l4Draw v2_2 v2_3 v2_4 (IntKind.wrap .i64 (bO - 1)) (fun y330 y331 y332 y333 y334 y335 y336 y337 => Zc (v2_11.length + ([[.d (.int .i64 y330), .d (.str y331), .d (.int .i64 y332), .own y333, .own y334]] : List (List C)).length ≤ ZN) (L2 (IntKind.wrap .i64 (v2_1 - 1), y335, y336, y337, v2_11 ++ ([[.d (.int .i64 y330), .d (.str y331), .d (.int .i64 y332), .own y333, .own y334]] : List (List C)))))) else (K bM v2_9 v2_10 ([] : List (List C)) v2_11 v2_2 v2_3 v2_4)
noncomputable def Yc.l1 {β : Type} (k : Nat) (r_spec_l4Draw : (List (List D)) → Int → Int → Int → (Int → ByteArray → Int → (List (List C)) → (List (List C)) → (List (List D)) → Int → Int → Option β) → Option β) (aV : Int) (aU : Int) (aX : ByteArray) (aY : Int) (bI : Int) (bJ : ByteArray) (bK : Int) (bF : List (List C)) (K : Int → ByteArray → Int → (List (List C)) → (List (List C)) → (List (List D)) → Int → Int → Option β) (L1 : (Int × (List (List D)) × Int × Int × (List (List C)) × (List (List C))) → Option β) (v : Int × (List (List D)) × Int × Int × (List (List C)) × (List (List C))) : Option β :=
  match v with
  | (bB, bA, aZ, aW, bW, v1_13) => bif (decide ((bB : Int) < (bF.length : Int))) then (Zc ((0 : Int) ≤ bB ∧ bB < (bF.length : Int)) (ZaG bF (Int.toNat bB) fun c293 => Zas (c293.drop 0) fun c294 r295 => cD c294 fun d296 => dStr d296 fun x297 => Zc (bW.length + ([[.d (.str x297)]] : List (List C)).length ≤ ZN) (r_spec_l4Draw bA aZ aW (IntKind.wrap .i64 (aV - 1)) (fun y298 y299 y300 y301 y302 y303 y304 y305 => Zc (v1_13.length + ([[.d (.int .i64 y298), .d (.str y299), .d (.int .i64 y300), .own y301, .own y302]] : List (List C)).length ≤ ZN) (L1 (IntKind.wrap .i64 (bB + 1), y303, y304, y305, bW ++ ([[.d (.str x297)]] : List (List C)), v1_13 ++ ([[.d (.int .i64 y298), .d (.str y299), .d (.int .i64 y300), .own y301, .own y302]] : List (List C)))))))) else (K bI bJ bK bW v1_13 bA aZ aW)
noncomputable def Yc.l0 {β : Type} (k : Nat) (r_spec_l4Draw : (List (List D)) → Int → Int → Int → (Int → ByteArray → Int → (List (List C)) → (List (List C)) → (List (List D)) → Int → Int → Option β) → Option β) (aD : Int) (aM : Int) (aN : ByteArray) (aO : Int) (aQ : Int) (aP : ByteArray) (aR : Int) (K : Int → ByteArray → Int → (List (List C)) → (List (List C)) → (List (List D)) → Int → Int → Option β) (L0 : (Int × (List (List D)) × Int × Int × (List (List C))) → Option β) (v : Int × (List (List D)) × Int × Int × (List (List C))) : Option β :=
  match v with
  | (aH, aJ, aK, aL, aT) => bif (decide ((aH : Int) > 0)) then (r_spec_l4Draw aJ aK aL (IntKind.wrap .i64 (aD - 1)) (fun y29 y30 y31 y32 y33 y34 y35 y36 => Zc (aT.length + ([[.d (.int .i64 y29), .d (.str y30), .d (.int .i64 y31), .own y32, .own y33]] : List (List C)).length ≤ ZN) (L0 (IntKind.wrap .i64 (aH - 1), y34, y35, y36, aT ++ ([[.d (.int .i64 y29), .d (.str y30), .d (.int .i64 y31), .own y32, .own y33]] : List (List C)))))) else (K aQ aP aR ([] : List (List C)) aT aJ aK aL)
set_option maxRecDepth 100000 in
noncomputable def Yc.m {β : Type} (k : Nat) (r_spec_l4Draw : (List (List D)) → Int → Int → Int → (Int → ByteArray → Int → (List (List C)) → (List (List C)) → (List (List D)) → Int → Int → Option β) → Option β) (aB : List (List D)) (aA : Int) (aC : Int) (a1 : Int) (K : Int → ByteArray → Int → (List (List C)) → (List (List C)) → (List (List D)) → Int → Int → Option β) (F : (Int → Int → ByteArray → Int → Int → ByteArray → Int → (Int × (List (List D)) × Int × Int × (List (List C))) → Option β) × (Int → Int → ByteArray → Int → Int → ByteArray → Int → (List (List C)) → (Int × (List (List D)) × Int × Int × (List (List C)) × (List (List C))) → Option β) × (Int → Int → ByteArray → Int → Int → ByteArray → Int → (Int × (List (List D)) × Int × Int × (List (List C))) → Option β) × (Int → Int → ByteArray → Int → Int → ByteArray → Int → (List (List C)) → (Int × (List (List D)) × Int × Int × (List (List C)) × (List (List C))) → Option β) × (Int → Int → ByteArray → Int → Int → ByteArray → Int → (Int × (List (List D)) × Int × Int × (List (List C))) → Option β) × (Int → Int → ByteArray → Int → Int → ByteArray → Int → (List (List C)) → (Int × (List (List D)) × Int × Int × (List (List C)) × (List (List C))) → Option β)) : Option β :=
  Yt.f k aB aA aC 5 (fun y1 y2 y3 y4 => let J0 := (K (IntKind.wrap .i64 (1 + y1)) (⟨#[]⟩ : ByteArray) 0 ([] : List (List C)) ([] : List (List C)) y2 y3 y4); bif (decide ((a1 : Int) ≤ 1)) then (bif (decide (((IntKind.wrap .i64 (1 + y1)) : Int) > 3)) then (bif ((2 : Int) == 1) then (Y1.f k y2 y3 y4 ([[.str (⟨#[]⟩ : ByteArray)], [.str (⟨#[97]⟩ : ByteArray)], [.str (⟨#[120, 32, 121]⟩ : ByteArray)], [.str (⟨#[34]⟩ : ByteArray)], [.str (⟨#[92, 110]⟩ : ByteArray)], [.str (⟨#[105, 109, 97, 103, 101, 58, 49]⟩ : ByteArray)]] : List (List D)) (fun y5 y6 y7 y8 => K 2 y5 0 ([] : List (List C)) ([] : List (List C)) y6 y7 y8)) else (bif ((2 : Int) == 2) then (Yaa.f k y2 y3 y4 ([[.int .i64 0], [.int .i64 1], [.int .i64 80], [.int .i64 (-5)], [.int .i64 9223372036854775807], [.int .i64 (-9223372036854775808)]] : List (List D)) (fun y9 y10 y11 y12 => K 2 (⟨#[]⟩ : ByteArray) y9 ([] : List (List C)) ([] : List (List C)) y10 y11 y12)) else (bif ((2 : Int) == 3) then (Yt.f k y2 y3 y4 2 (fun y13 y14 y15 y16 => K 2 (⟨#[]⟩ : ByteArray) y13 ([] : List (List C)) ([] : List (List C)) y14 y15 y16)) else (bif ((2 : Int) == 4) then (Yt.f k y2 y3 y4 4 (fun y17 y18 y19 y20 => F.1 a1 0 (⟨#[]⟩ : ByteArray) 0 2 (⟨#[]⟩ : ByteArray) 0 (y17, y18, y19, y20, ([] : List (List C))))) else (bif ((2 : Int) == 5) then (YK.f k y2 y3 y4 5 (fun y276 y277 y278 y279 => F.2.1 a1 0 (⟨#[]⟩ : ByteArray) 0 2 (⟨#[]⟩ : ByteArray) 0 y276 (0, y277, y278, y279, ([] : List (List C)), ([] : List (List C))))) else (K 2 (⟨#[]⟩ : ByteArray) 0 ([] : List (List C)) ([] : List (List C)) y2 y3 y4)))))) else (bif (((IntKind.wrap .i64 (1 + y1)) : Int) == 1) then (Y1.f k y2 y3 y4 ([[.str (⟨#[]⟩ : ByteArray)], [.str (⟨#[97]⟩ : ByteArray)], [.str (⟨#[120, 32, 121]⟩ : ByteArray)], [.str (⟨#[34]⟩ : ByteArray)], [.str (⟨#[92, 110]⟩ : ByteArray)], [.str (⟨#[105, 109, 97, 103, 101, 58, 49]⟩ : ByteArray)]] : List (List D)) (fun y306 y307 y308 y309 => K (IntKind.wrap .i64 (1 + y1)) y306 0 ([] : List (List C)) ([] : List (List C)) y307 y308 y309)) else (bif (((IntKind.wrap .i64 (1 + y1)) : Int) == 2) then (Yaa.f k y2 y3 y4 ([[.int .i64 0], [.int .i64 1], [.int .i64 80], [.int .i64 (-5)], [.int .i64 9223372036854775807], [.int .i64 (-9223372036854775808)]] : List (List D)) (fun y310 y311 y312 y313 => K (IntKind.wrap .i64 (1 + y1)) (⟨#[]⟩ : ByteArray) y310 ([] : List (List C)) ([] : List (List C)) y311 y312 y313)) else (bif (((IntKind.wrap .i64 (1 + y1)) : Int) == 3) then (Yt.f k y2 y3 y4 2 (fun y314 y315 y316 y317 => K (IntKind.wrap .i64 (1 + y1)) (⟨#[]⟩ : ByteArray) y314 ([] : List (List C)) ([] : List (List C)) y315 y316 y317)) else (bif (((IntKind.wrap .i64 (1 + y1)) : Int) == 4) then (Yt.f k y2 y3 y4 4 (fun y318 y319 y320 y321 => F.2.2.1 a1 0 (⟨#[]⟩ : ByteArray) 0 (IntKind.wrap .i64 (1 + y1)) (⟨#[]⟩ : ByteArray) 0 (y318, y319, y320, y321, ([] : List (List C))))) else (bif (((IntKind.wrap .i64 (1 + y1)) : Int) == 5) then (YK.f k y2 y3 y4 5 (fun y338 y339 y340 y341 => F.2.2.2.1 a1 0 (⟨#[]⟩ : ByteArray) 0 (IntKind.wrap .i64 (1 + y1)) (⟨#[]⟩ : ByteArray) 0 y338 (0, y339, y340, y341, ([] : List (List C)), ([] : List (List C))))) else J0)))))) else (bif (((IntKind.wrap .i64 (1 + y1)) : Int) == 1) then (Y1.f k y2 y3 y4 ([[.str (⟨#[]⟩ : ByteArray)], [.str (⟨#[97]⟩ : ByteArray)], [.str (⟨#[120, 32, 121]⟩ : ByteArray)], [.str (⟨#[34]⟩ : ByteArray)], [.str (⟨#[92, 110]⟩ : ByteArray)], [.str (⟨#[105, 109, 97, 103, 101, 58, 49]⟩ : ByteArray)]] : List (List D)) (fun y368 y369 y370 y371 => K (IntKind.wrap .i64 (1 + y1)) y368 0 ([] : List (List C)) ([] : List (List C)) y369 y370 y371)) else (bif (((IntKind.wrap .i64 (1 + y1)) : Int) == 2) then (Yaa.f k y2 y3 y4 ([[.int .i64 0], [.int .i64 1], [.int .i64 80], [.int .i64 (-5)], [.int .i64 9223372036854775807], [.int .i64 (-9223372036854775808)]] : List (List D)) (fun y372 y373 y374 y375 => K (IntKind.wrap .i64 (1 + y1)) (⟨#[]⟩ : ByteArray) y372 ([] : List (List C)) ([] : List (List C)) y373 y374 y375)) else (bif (((IntKind.wrap .i64 (1 + y1)) : Int) == 3) then (Yt.f k y2 y3 y4 2 (fun y376 y377 y378 y379 => K (IntKind.wrap .i64 (1 + y1)) (⟨#[]⟩ : ByteArray) y376 ([] : List (List C)) ([] : List (List C)) y377 y378 y379)) else (bif (((IntKind.wrap .i64 (1 + y1)) : Int) == 4) then (Yt.f k y2 y3 y4 4 (fun y380 y381 y382 y383 => F.2.2.2.2.1 a1 0 (⟨#[]⟩ : ByteArray) 0 (IntKind.wrap .i64 (1 + y1)) (⟨#[]⟩ : ByteArray) 0 (y380, y381, y382, y383, ([] : List (List C))))) else (bif (((IntKind.wrap .i64 (1 + y1)) : Int) == 5) then (YK.f k y2 y3 y4 5 (fun y400 y401 y402 y403 => F.2.2.2.2.2 a1 0 (⟨#[]⟩ : ByteArray) 0 (IntKind.wrap .i64 (1 + y1)) (⟨#[]⟩ : ByteArray) 0 y400 (0, y401, y402, y403, ([] : List (List C)), ([] : List (List C))))) else J0))))))
noncomputable def Yc.body {β : Type} (k : Nat) (r_spec_l4Draw : (List (List D)) → Int → Int → Int → (Int → ByteArray → Int → (List (List C)) → (List (List C)) → (List (List D)) → Int → Int → Option β) → Option β) (aB : List (List D)) (aA : Int) (aC : Int) (a1 : Int) (K : Int → ByteArray → Int → (List (List C)) → (List (List C)) → (List (List D)) → Int → Int → Option β) : Option β := Yc.m k r_spec_l4Draw aB aA aC a1 K ((fun aD aM aN aO aQ aP aR => Zo (Yc.l0 k r_spec_l4Draw aD aM aN aO aQ aP aR K) k), (fun aV aU aX aY bI bJ bK bF => Zo (Yc.l1 k r_spec_l4Draw aV aU aX aY bI bJ bK bF K) k), (fun bO bQ bU bV bM v2_9 v2_10 => Zo (Yc.l2 k r_spec_l4Draw bO bQ bU bV bM v2_9 v2_10 K) k), (fun v3_0 bH bE bG v3_8 v3_9 v3_10 v3_11 => Zo (Yc.l3 k r_spec_l4Draw v3_0 bH bE bG v3_8 v3_9 v3_10 v3_11 K) k), (fun bN bP bR bT bL v4_9 v4_10 => Zo (Yc.l4 k r_spec_l4Draw bN bP bR bT bL v4_9 v4_10 K) k), (fun v5_0 v5_5 v5_6 v5_7 v5_8 v5_9 v5_10 v5_11 => Zo (Yc.l5 k r_spec_l4Draw v5_0 v5_5 v5_6 v5_7 v5_8 v5_9 v5_10 v5_11 K) k))
noncomputable def Yc.w {β : Type} (r : (List (List D)) → Int → Int → Int → Option (Int × ByteArray × Int × (List (List C)) × (List (List C)) × (List (List D)) × Int × Int)) (aB : List (List D)) (aA : Int) (aC : Int) (a1 : Int) (K : Int → ByteArray → Int → (List (List C)) → (List (List C)) → (List (List D)) → Int → Int → Option β) : Option β := match r aB aA aC a1 with | some (z0, z1, z2, z3, z4, z5, z6, z7) => K z0 z1 z2 z3 z4 z5 z6 z7 | none => none
noncomputable def Yc.all : Nat → ((List (List D)) → Int → Int → Int → Option (Int × ByteArray × Int × (List (List C)) × (List (List C)) × (List (List D)) × Int × Int))
  | 0 => (fun _ _ _ _ => none)
  | k + 1 => (fun r => (fun aB aA aC a1 => Yc.body k (Yc.w r) aB aA aC a1 (fun z0 z1 z2 z3 z4 z5 z6 z7 => some (z0, z1, z2, z3, z4, z5, z6, z7)))) (Yc.all k)
noncomputable def Yc.t (k : Nat) (aB : List (List D)) (aA aC a1 : Int) : Option (Int × ByteArray × Int × (List (List C)) × (List (List C)) × (List (List D)) × Int × Int) := (Yc.all k) aB aA aC a1
noncomputable def Yc.f {β : Type} (k : Nat) (aB : List (List D)) (aA aC a1 : Int) (K : Int → ByteArray → Int → (List (List C)) → (List (List C)) → (List (List D)) → Int → Int → Option β) : Option β := Yc.w (Yc.t k) aB aA aC a1 K
noncomputable def Yc.g {β : Type} (k : Nat) (aB : List (List D)) (aA aC a1 : Int) (K : Int → ByteArray → Int → (List (List C)) → (List (List C)) → (List (List D)) → Int → Int → Option β) : Option β := Yc.body k (Yc.f k) aB aA aC a1 K
theorem Yc.t_succ (k : Nat) (aB : List (List D)) (aA aC a1 : Int) : Yc.t (k + 1) aB aA aC a1 = Yc.g k aB aA aC a1 (fun z0 z1 z2 z3 z4 z5 z6 z7 => some (z0, z1, z2, z3, z4, z5, z6, z7)) := rfl
noncomputable def Yc.e (k : Nat) : Zk := ent [.box 178 [.l, .n, .n], .d .n] [5] [.n, .s, .n, .o, .o, .l, .n, .n] [66] false (Yc.t k)
noncomputable def Yc.p (k : Nat) : Pro := ⟨Try.prog, [(112, Yt.e k), (75, Y1.e k), (118, Yaa.e k), (212, Yc.e k), (157, YK.e k)], Zn [(14, kp [0, 1, 4, 6, 7] [] [(6, 4, .row true 64)]), (20, kp [0, 1, 4, 6, 8, 9] [] [(6, 3, .row true 25), (6, 4, .row true 64)])] false [], k⟩
noncomputable def Yc.d (k : Nat) (aB : List (List D)) (aA aC a1 : Int) : Ex → St → Option (Int × ByteArray × Int × (List (List C)) × (List (List C)) × (List (List D)) × Int × Int) := (Yc.p k).fin Try.f212 [.box [.d (.sl aB), .d (.int .i64 aA), .d (.int .i64 aC)], .d (.int .i64 a1)] [5] [.n, .s, .n, .o, .o, .l, .n, .n]
noncomputable def Yc.s0 (aD aM : Int) (aN : ByteArray) (aO aQ : Int) (aP : ByteArray) (aR : Int) (v : Int × (List (List D)) × Int × Int × (List (List C))) : St :=
  match v with
  | (aH, aJ, aK, aL, aT) => ZX 86 [(0, .bp 0 0), (1, .d false (.int .i64 aD)), (4, .bp 1 0), (6, .bp 2 0), (7, .d true (.int .i64 aH))] [.box (some 0) 178 [.d false (.sl aJ), .d false (.int .i64 aK), .d false (.int .i64 aL)], .box none 66 [.d true (.int .i64 aM), .d true (.str aN), .d true (.int .i64 aO), .nil, .nil], .box none 66 [.d true (.int .i64 aQ), .d true (.str aP), .d true (.int .i64 aR), .nil, .row 3], .row none true 64 aT]
noncomputable def Yc.r0 (k : Nat) (aB : List (List D)) (aA aC a1 aD aM : Int) (aN : ByteArray) (aO aQ : Int) (aP : ByteArray) (aR : Int) (n : Nat) (v : Int × (List (List D)) × Int × Int × (List (List C))) : Option (Int × ByteArray × Int × (List (List C)) × (List (List C)) × (List (List D)) × Int × Int) := (Yc.p k).lp (Zt Try.f212) 14 [1, 1, 1, 1, 0, 1, 0, 1, 1, 1, 1, 1, 1, 1, 0, 1, 0] (Yc.d k aB aA aC a1) n (Yc.s0 aD aM aN aO aQ aP aR v)
noncomputable def Yc.s1 (aV aU : Int) (aX : ByteArray) (aY bI : Int) (bJ : ByteArray) (bK : Int) (bF : List (List C)) (v : Int × (List (List D)) × Int × Int × (List (List C)) × (List (List C))) : St :=
  match v with
  | (bB, bA, aZ, aW, bW, v1_13) => ZX 86 [(0, .bp 0 0), (1, .d false (.int .i64 aV)), (4, .bp 1 0), (6, .bp 2 0), (8, .row 3), (9, .d true (.int .i64 bB))] [.box (some 0) 178 [.d false (.sl bA), .d false (.int .i64 aZ), .d false (.int .i64 aW)], .box none 66 [.d true (.int .i64 aU), .d true (.str aX), .d true (.int .i64 aY), .nil, .nil], .box none 66 [.d true (.int .i64 bI), .d true (.str bJ), .d true (.int .i64 bK), .row 4, .row 5], .row none true 45 bF, .row none true 25 bW, .row none true 64 v1_13]
noncomputable def Yc.r1 (k : Nat) (aB : List (List D)) (aA aC a1 aV aU : Int) (aX : ByteArray) (aY bI : Int) (bJ : ByteArray) (bK : Int) (bF : List (List C)) (n : Nat) (v : Int × (List (List D)) × Int × Int × (List (List C)) × (List (List C))) : Option (Int × ByteArray × Int × (List (List C)) × (List (List C)) × (List (List D)) × Int × Int) := (Yc.p k).lp (Zt Try.f212) 20 [1, 1, 1, 1, 0, 1, 0, 1, 1, 1, 1, 1, 1, 1, 1, 1, 0, 1, 1, 0] (Yc.d k aB aA aC a1) n (Yc.s1 aV aU aX aY bI bJ bK bF v)
noncomputable def Yc.s2 (bO bQ : Int) (bU : ByteArray) (bV bM : Int) (v2_9 : ByteArray) (v2_10 : Int) (v : Int × (List (List D)) × Int × Int × (List (List C))) : St :=
  match v with
  | (v2_1, v2_2, v2_3, v2_4, v2_11) => ZX 86 [(0, .bp 0 0), (1, .d false (.int .i64 bO)), (4, .bp 1 0), (6, .bp 2 0), (7, .d true (.int .i64 v2_1))] [.box (some 0) 178 [.d false (.sl v2_2), .d false (.int .i64 v2_3), .d false (.int .i64 v2_4)], .box none 66 [.d true (.int .i64 bQ), .d true (.str bU), .d true (.int .i64 bV), .nil, .nil], .box none 66 [.d true (.int .i64 bM), .d true (.str v2_9), .d true (.int .i64 v2_10), .nil, .row 3], .row none true 64 v2_11]
noncomputable def Yc.r2 (k : Nat) (aB : List (List D)) (aA aC a1 bO bQ : Int) (bU : ByteArray) (bV bM : Int) (v2_9 : ByteArray) (v2_10 : Int) (n : Nat) (v : Int × (List (List D)) × Int × Int × (List (List C))) : Option (Int × ByteArray × Int × (List (List C)) × (List (List C)) × (List (List D)) × Int × Int) := (Yc.p k).lp (Zt Try.f212) 14 [1, 1, 1, 1, 0, 1, 0, 1, 1, 1, 1, 1, 1, 1, 0, 1, 0] (Yc.d k aB aA aC a1) n (Yc.s2 bO bQ bU bV bM v2_9 v2_10 v)
noncomputable def Yc.s3 (v3_0 bH : Int) (bE : ByteArray) (bG v3_8 : Int) (v3_9 : ByteArray) (v3_10 : Int) (v3_11 : List (List C)) (v : Int × (List (List D)) × Int × Int × (List (List C)) × (List (List C))) : St :=
  match v with
  | (v3_1, v3_2, v3_3, v3_4, v3_12, v3_13) => ZX 86 [(0, .bp 0 0), (1, .d false (.int .i64 v3_0)), (4, .bp 1 0), (6, .bp 2 0), (8, .row 3), (9, .d true (.int .i64 v3_1))] [.box (some 0) 178 [.d false (.sl v3_2), .d false (.int .i64 v3_3), .d false (.int .i64 v3_4)], .box none 66 [.d true (.int .i64 bH), .d true (.str bE), .d true (.int .i64 bG), .nil, .nil], .box none 66 [.d true (.int .i64 v3_8), .d true (.str v3_9), .d true (.int .i64 v3_10), .row 4, .row 5], .row none true 45 v3_11, .row none true 25 v3_12, .row none true 64 v3_13]
noncomputable def Yc.r3 (k : Nat) (aB : List (List D)) (aA aC a1 v3_0 bH : Int) (bE : ByteArray) (bG v3_8 : Int) (v3_9 : ByteArray) (v3_10 : Int) (v3_11 : List (List C)) (n : Nat) (v : Int × (List (List D)) × Int × Int × (List (List C)) × (List (List C))) : Option (Int × ByteArray × Int × (List (List C)) × (List (List C)) × (List (List D)) × Int × Int) := (Yc.p k).lp (Zt Try.f212) 20 [1, 1, 1, 1, 0, 1, 0, 1, 1, 1, 1, 1, 1, 1, 1, 1, 0, 1, 1, 0] (Yc.d k aB aA aC a1) n (Yc.s3 v3_0 bH bE bG v3_8 v3_9 v3_10 v3_11 v)
noncomputable def Yc.s4 (bN bP : Int) (bR : ByteArray) (bT bL : Int) (v4_9 : ByteArray) (v4_10 : Int) (v : Int × (List (List D)) × Int × Int × (List (List C))) : St :=
  match v with
  | (v4_1, v4_2, v4_3, v4_4, v4_11) => ZX 86 [(0, .bp 0 0), (1, .d false (.int .i64 bN)), (4, .bp 1 0), (6, .bp 2 0), (7, .d true (.int .i64 v4_1))] [.box (some 0) 178 [.d false (.sl v4_2), .d false (.int .i64 v4_3), .d false (.int .i64 v4_4)], .box none 66 [.d true (.int .i64 bP), .d true (.str bR), .d true (.int .i64 bT), .nil, .nil], .box none 66 [.d true (.int .i64 bL), .d true (.str v4_9), .d true (.int .i64 v4_10), .nil, .row 3], .row none true 64 v4_11]
noncomputable def Yc.r4 (k : Nat) (aB : List (List D)) (aA aC a1 bN bP : Int) (bR : ByteArray) (bT bL : Int) (v4_9 : ByteArray) (v4_10 : Int) (n : Nat) (v : Int × (List (List D)) × Int × Int × (List (List C))) : Option (Int × ByteArray × Int × (List (List C)) × (List (List C)) × (List (List D)) × Int × Int) := (Yc.p k).lp (Zt Try.f212) 14 [1, 1, 1, 1, 0, 1, 0, 1, 1, 1, 1, 1, 1, 1, 0, 1, 0] (Yc.d k aB aA aC a1) n (Yc.s4 bN bP bR bT bL v4_9 v4_10 v)
noncomputable def Yc.s5 (v5_0 v5_5 : Int) (v5_6 : ByteArray) (v5_7 v5_8 : Int) (v5_9 : ByteArray) (v5_10 : Int) (v5_11 : List (List C)) (v : Int × (List (List D)) × Int × Int × (List (List C)) × (List (List C))) : St :=
  match v with
  | (v5_1, v5_2, v5_3, v5_4, v5_12, v5_13) => ZX 86 [(0, .bp 0 0), (1, .d false (.int .i64 v5_0)), (4, .bp 1 0), (6, .bp 2 0), (8, .row 3), (9, .d true (.int .i64 v5_1))] [.box (some 0) 178 [.d false (.sl v5_2), .d false (.int .i64 v5_3), .d false (.int .i64 v5_4)], .box none 66 [.d true (.int .i64 v5_5), .d true (.str v5_6), .d true (.int .i64 v5_7), .nil, .nil], .box none 66 [.d true (.int .i64 v5_8), .d true (.str v5_9), .d true (.int .i64 v5_10), .row 4, .row 5], .row none true 45 v5_11, .row none true 25 v5_12, .row none true 64 v5_13]
noncomputable def Yc.r5 (k : Nat) (aB : List (List D)) (aA aC a1 v5_0 v5_5 : Int) (v5_6 : ByteArray) (v5_7 v5_8 : Int) (v5_9 : ByteArray) (v5_10 : Int) (v5_11 : List (List C)) (n : Nat) (v : Int × (List (List D)) × Int × Int × (List (List C)) × (List (List C))) : Option (Int × ByteArray × Int × (List (List C)) × (List (List C)) × (List (List D)) × Int × Int) := (Yc.p k).lp (Zt Try.f212) 20 [1, 1, 1, 1, 0, 1, 0, 1, 1, 1, 1, 1, 1, 1, 1, 1, 0, 1, 1, 0] (Yc.d k aB aA aC a1) n (Yc.s5 v5_0 v5_5 v5_6 v5_7 v5_8 v5_9 v5_10 v5_11 v)
theorem Yc.l5_eq (k : Nat) (aB : List (List D)) (aA aC a1 v5_0 v5_5 : Int) (v5_6 : ByteArray) (v5_7 v5_8 : Int) (v5_9 : ByteArray) (v5_10 : Int) (v5_11 : List (List C)) : ∀ n v, Yc.r5 k aB aA aC a1 v5_0 v5_5 v5_6 v5_7 v5_8 v5_9 v5_10 v5_11 n v = Zo (Yc.l5 k (Yc.f k) v5_0 v5_5 v5_6 v5_7 v5_8 v5_9 v5_10 v5_11 (fun z0 z1 z2 z3 z4 z5 z6 z7 => some (z0, z1, z2, z3, z4, z5, z6, z7))) n v :=
  Zm (Yc.s5 v5_0 v5_5 v5_6 v5_7 v5_8 v5_9 v5_10 v5_11) _ fun L5 v => by obtain ⟨v5_1, v5_2, v5_3, v5_4, v5_12, v5_13⟩ := v; kernel_rfl
theorem Yc.l4_eq (k : Nat) (aB : List (List D)) (aA aC a1 bN bP : Int) (bR : ByteArray) (bT bL : Int) (v4_9 : ByteArray) (v4_10 : Int) : ∀ n v, Yc.r4 k aB aA aC a1 bN bP bR bT bL v4_9 v4_10 n v = Zo (Yc.l4 k (Yc.f k) bN bP bR bT bL v4_9 v4_10 (fun z0 z1 z2 z3 z4 z5 z6 z7 => some (z0, z1, z2, z3, z4, z5, z6, z7))) n v :=
  Zm (Yc.s4 bN bP bR bT bL v4_9 v4_10) _ fun L4 v => by obtain ⟨v4_1, v4_2, v4_3, v4_4, v4_11⟩ := v; kernel_rfl
theorem Yc.l3_eq (k : Nat) (aB : List (List D)) (aA aC a1 v3_0 bH : Int) (bE : ByteArray) (bG v3_8 : Int) (v3_9 : ByteArray) (v3_10 : Int) (v3_11 : List (List C)) : ∀ n v, Yc.r3 k aB aA aC a1 v3_0 bH bE bG v3_8 v3_9 v3_10 v3_11 n v = Zo (Yc.l3 k (Yc.f k) v3_0 bH bE bG v3_8 v3_9 v3_10 v3_11 (fun z0 z1 z2 z3 z4 z5 z6 z7 => some (z0, z1, z2, z3, z4, z5, z6, z7))) n v :=
  Zm (Yc.s3 v3_0 bH bE bG v3_8 v3_9 v3_10 v3_11) _ fun L3 v => by obtain ⟨v3_1, v3_2, v3_3, v3_4, v3_12, v3_13⟩ := v; kernel_rfl
theorem Yc.l2_eq (k : Nat) (aB : List (List D)) (aA aC a1 bO bQ : Int) (bU : ByteArray) (bV bM : Int) (v2_9 : ByteArray) (v2_10 : Int) : ∀ n v, Yc.r2 k aB aA aC a1 bO bQ bU bV bM v2_9 v2_10 n v = Zo (Yc.l2 k (Yc.f k) bO bQ bU bV bM v2_9 v2_10 (fun z0 z1 z2 z3 z4 z5 z6 z7 => some (z0, z1, z2, z3, z4, z5, z6, z7))) n v :=
  Zm (Yc.s2 bO bQ bU bV bM v2_9 v2_10) _ fun L2 v => by obtain ⟨v2_1, v2_2, v2_3, v2_4, v2_11⟩ := v; kernel_rfl
theorem Yc.l1_eq (k : Nat) (aB : List (List D)) (aA aC a1 aV aU : Int) (aX : ByteArray) (aY bI : Int) (bJ : ByteArray) (bK : Int) (bF : List (List C)) : ∀ n v, Yc.r1 k aB aA aC a1 aV aU aX aY bI bJ bK bF n v = Zo (Yc.l1 k (Yc.f k) aV aU aX aY bI bJ bK bF (fun z0 z1 z2 z3 z4 z5 z6 z7 => some (z0, z1, z2, z3, z4, z5, z6, z7))) n v :=
  Zm (Yc.s1 aV aU aX aY bI bJ bK bF) _ fun L1 v => by obtain ⟨bB, bA, aZ, aW, bW, v1_13⟩ := v; kernel_rfl
theorem Yc.l0_eq (k : Nat) (aB : List (List D)) (aA aC a1 aD aM : Int) (aN : ByteArray) (aO aQ : Int) (aP : ByteArray) (aR : Int) : ∀ n v, Yc.r0 k aB aA aC a1 aD aM aN aO aQ aP aR n v = Zo (Yc.l0 k (Yc.f k) aD aM aN aO aQ aP aR (fun z0 z1 z2 z3 z4 z5 z6 z7 => some (z0, z1, z2, z3, z4, z5, z6, z7))) n v :=
  Zm (Yc.s0 aD aM aN aO aQ aP aR) _ fun L0 v => by obtain ⟨aH, aJ, aK, aL, aT⟩ := v; kernel_rfl
theorem Yc.oks (k : Nat) : Za Try.prog 212 (Yc.e k) := by
  induction k with
  | zero => exact Z7 Try.func212 (by kernel_rfl) (fun _ _ _ _ => rfl)
  | succ k ih => exact Zh (Yc.p k) mix tyok Try.func212 ⟨Yt.ok k, Y1.ok k, Yaa.ok k, ih, YK.ok k⟩ (by kernel_rfl) (fun aB aA aC a1 => Eq.trans (b := Yc.m k (Yc.f k) aB aA aC a1 (fun z0 z1 z2 z3 z4 z5 z6 z7 => some (z0, z1, z2, z3, z4, z5, z6, z7)) ((fun aD aM aN aO aQ aP aR => Yc.r0 k aB aA aC a1 aD aM aN aO aQ aP aR k), (fun aV aU aX aY bI bJ bK bF => Yc.r1 k aB aA aC a1 aV aU aX aY bI bJ bK bF k), (fun bO bQ bU bV bM v2_9 v2_10 => Yc.r2 k aB aA aC a1 bO bQ bU bV bM v2_9 v2_10 k), (fun v3_0 bH bE bG v3_8 v3_9 v3_10 v3_11 => Yc.r3 k aB aA aC a1 v3_0 bH bE bG v3_8 v3_9 v3_10 v3_11 k), (fun bN bP bR bT bL v4_9 v4_10 => Yc.r4 k aB aA aC a1 bN bP bR bT bL v4_9 v4_10 k), (fun v5_0 v5_5 v5_6 v5_7 v5_8 v5_9 v5_10 v5_11 => Yc.r5 k aB aA aC a1 v5_0 v5_5 v5_6 v5_7 v5_8 v5_9 v5_10 v5_11 k))) (by kernel_rfl) ((congrArg (Yc.m k (Yc.f k) aB aA aC a1 (fun z0 z1 z2 z3 z4 z5 z6 z7 => some (z0, z1, z2, z3, z4, z5, z6, z7))) (pair_eq (funext fun aD => funext fun aM => funext fun aN => funext fun aO => funext fun aQ => funext fun aP => funext fun aR => funext fun v => Yc.l0_eq k aB aA aC a1 aD aM aN aO aQ aP aR k v) (pair_eq (funext fun aV => funext fun aU => funext fun aX => funext fun aY => funext fun bI => funext fun bJ => funext fun bK => funext fun bF => funext fun v => Yc.l1_eq k aB aA aC a1 aV aU aX aY bI bJ bK bF k v) (pair_eq (funext fun bO => funext fun bQ => funext fun bU => funext fun bV => funext fun bM => funext fun v2_9 => funext fun v2_10 => funext fun v => Yc.l2_eq k aB aA aC a1 bO bQ bU bV bM v2_9 v2_10 k v) (pair_eq (funext fun v3_0 => funext fun bH => funext fun bE => funext fun bG => funext fun v3_8 => funext fun v3_9 => funext fun v3_10 => funext fun v3_11 => funext fun v => Yc.l3_eq k aB aA aC a1 v3_0 bH bE bG v3_8 v3_9 v3_10 v3_11 k v) (pair_eq (funext fun bN => funext fun bP => funext fun bR => funext fun bT => funext fun bL => funext fun v4_9 => funext fun v4_10 => funext fun v => Yc.l4_eq k aB aA aC a1 bN bP bR bT bL v4_9 v4_10 k v) (funext fun v5_0 => funext fun v5_5 => funext fun v5_6 => funext fun v5_7 => funext fun v5_8 => funext fun v5_9 => funext fun v5_10 => funext fun v5_11 => funext fun v => Yc.l5_eq k aB aA aC a1 v5_0 v5_5 v5_6 v5_7 v5_8 v5_9 v5_10 v5_11 k v))))))).trans (Yc.t_succ k aB aA aC a1).symm))
theorem Yc.ok (k : Nat) : Za Try.prog 212 (Yc.e k) := (Yc.oks k)
noncomputable def YF.l0 {β : Type} (k : Nat) (K : (List (List C)) → (List (List D)) → Int → Int → Option β) (L0 : (Int × (List (List D)) × Int × Int × (List (List C))) → Option β) (v : Int × (List (List D)) × Int × Int × (List (List C))) : Option β :=
  match v with
  | (aD, aH, aJ, aK, aL) => bif (decide ((aD : Int) < 6)) then (Yaf.f k aH aJ aK 2 (fun y438 y439 y440 y441 => bif y438 then (Yt.f k y439 y440 y441 5 (fun y442 y443 y444 y445 => Yc.f k y443 y444 y445 2 (fun y446 y447 y448 y449 y450 y451 y452 y453 => Zc (aL.length + ([[.d (.int .i64 aD), .d (.int .i64 (IntKind.wrap .i64 (1 + y442))), .d (.int .i64 y446), .d (.str y447), .d (.int .i64 y448), .own y449, .own y450]] : List (List C)).length ≤ ZN) (L0 (IntKind.wrap .i64 (aD + 1), y451, y452, y453, aL ++ ([[.d (.int .i64 aD), .d (.int .i64 (IntKind.wrap .i64 (1 + y442))), .d (.int .i64 y446), .d (.str y447), .d (.int .i64 y448), .own y449, .own y450]] : List (List C))))))) else (L0 (IntKind.wrap .i64 (aD + 1), y439, y440, y441, aL)))) else (K aL aH aJ aK)
noncomputable def YF.m {β : Type} (k : Nat) (aB : List (List D)) (aA aC : Int) (K : (List (List C)) → (List (List D)) → Int → Int → Option β) (F : ((Int × (List (List D)) × Int × Int × (List (List C))) → Option β)) : Option β :=
  F (1, aB, aA, aC, ([] : List (List C)))
noncomputable def YF.g {β : Type} (k : Nat) (aB : List (List D)) (aA aC : Int) (K : (List (List C)) → (List (List D)) → Int → Int → Option β) : Option β :=
  Zo (YF.l0 k K) k (1, aB, aA, aC, ([] : List (List C)))
noncomputable def YF.t (k : Nat) (aB : List (List D)) (aA aC : Int) : Option ((List (List C)) × (List (List D)) × Int × Int) := YF.g k aB aA aC (fun z0 z1 z2 z3 => some (z0, z1, z2, z3))
noncomputable def YF.f {β : Type} (k : Nat) (aB : List (List D)) (aA aC : Int) (K : (List (List C)) → (List (List D)) → Int → Int → Option β) : Option β := bd4 (YF.t k aB aA aC) K
noncomputable def YF.e (k : Nat) : Zk := ent [.box 178 [.l, .n, .n]] [1] [.o, .l, .n, .n] [54] false (YF.t k)
noncomputable def YF.p (k : Nat) : Pro := ⟨Try.prog, [(81, Yaf.e k), (112, Yt.e k), (212, Yc.e k)], Zn [(3, kp [0, 3, 4])] false [], k⟩
noncomputable def YF.d (k : Nat) (aB : List (List D)) (aA aC : Int) : Ex → St → Option ((List (List C)) × (List (List D)) × Int × Int) := (YF.p k).fin Try.f167 [.box [.d (.sl aB), .d (.int .i64 aA), .d (.int .i64 aC)]] [1] [.o, .l, .n, .n]
noncomputable def YF.s0 (v : Int × (List (List D)) × Int × Int × (List (List C))) : St :=
  match v with
  | (aD, aH, aJ, aK, aL) => ZX 23 [(0, .bp 0 0), (3, .row 1), (4, .d true (.int .i64 aD))] [.box (some 0) 178 [.d false (.sl aH), .d false (.int .i64 aJ), .d false (.int .i64 aK)], .row none true 54 aL]
noncomputable def YF.r0 (k : Nat) (aB : List (List D)) (aA aC : Int) (n : Nat) (v : Int × (List (List D)) × Int × Int × (List (List C))) : Option ((List (List C)) × (List (List D)) × Int × Int) := (YF.p k).lp (Zt Try.f167) 3 [1, 1, 0, 1, 0] (YF.d k aB aA aC) n (YF.s0 v)
theorem YF.l0_eq (k : Nat) (aB : List (List D)) (aA aC : Int) : ∀ n v, YF.r0 k aB aA aC n v = Zo (YF.l0 k (fun z0 z1 z2 z3 => some (z0, z1, z2, z3))) n v :=
  Zm (YF.s0) _ fun L0 v => by obtain ⟨aD, aH, aJ, aK, aL⟩ := v; kernel_rfl
theorem YF.ok (k : Nat) : Za Try.prog 167 (YF.e k) := Zh (YF.p k) mix tyok Try.func167 ⟨Yaf.ok k, Yt.ok k, Yc.ok k⟩ (by kernel_rfl) (fun aB aA aC => Eq.trans (b := YF.m k aB aA aC (fun z0 z1 z2 z3 => some (z0, z1, z2, z3)) (YF.r0 k aB aA aC k)) (by kernel_rfl) (congrArg (YF.m k aB aA aC (fun z0 z1 z2 z3 => some (z0, z1, z2, z3))) (funext fun v => YF.l0_eq k aB aA aC k v) :))
noncomputable def Yv.l0 {β : Type} (k : Nat) (r_spec_l4Copy : Int → ByteArray → Int → (List (List D)) → (List (List D)) → (Int → ByteArray → Int → (List (List C)) → (List (List C)) → Option β) → Option β) (aH : Int) (aJ : ByteArray) (aK : Int) (aL : List (List D)) (aM : List (List D)) (aN : Int) (aO : ByteArray) (aQ : Int) (aP : Int) (aR : ByteArray) (aT : Int) (bC : List (List C)) (K : Int → ByteArray → Int → (List (List C)) → (List (List C)) → Option β) (L0 : (Int × (List (List C))) → Option β) (v : Int × (List (List C))) : Option β :=
  match v with
  | (aD, bD) => bif (decide ((aD : Int) < (aM.length : Int))) then (atR aM aD [.n, .s, .n, .l, .l] fun x25 x28 x31 x34 x37 => (r_spec_l4Copy x25 x28 x31 x34 x37 (fun y38 y39 y40 y41 y42 => Zc (bD.length + ([[.d (.int .i64 y38), .d (.str y39), .d (.int .i64 y40), .own y41, .own y42]] : List (List C)).length ≤ ZN) (L0 (IntKind.wrap .i64 (aD + 1), bD ++ ([[.d (.int .i64 y38), .d (.str y39), .d (.int .i64 y40), .own y41, .own y42]] : List (List C))))))) else (K aP aR aT bC bD)
noncomputable def Yv.m {β : Type} (k : Nat) (r_spec_l4Copy : Int → ByteArray → Int → (List (List D)) → (List (List D)) → (Int → ByteArray → Int → (List (List C)) → (List (List C)) → Option β) → Option β) (aB : Int) (aA : ByteArray) (aC : Int) (aI : List (List D)) (aF : List (List D)) (K : Int → ByteArray → Int → (List (List C)) → (List (List C)) → Option β) (F : (Int → ByteArray → Int → (List (List D)) → (List (List D)) → Int → ByteArray → Int → Int → ByteArray → Int → (List (List C)) → (Int × (List (List C))) → Option β)) : Option β :=
  Zc (ZaZ 1 aI) (Zc (([] : List (List C)).length + (aI.map (·.map C.d)).length ≤ ZN) (F aB aA aC aI aF 0 (⟨#[]⟩ : ByteArray) 0 aB aA aC (([] : List (List C)) ++ (aI.map (·.map C.d))) (0, ([] : List (List C)))))
noncomputable def Yv.body {β : Type} (k : Nat) (r_spec_l4Copy : Int → ByteArray → Int → (List (List D)) → (List (List D)) → (Int → ByteArray → Int → (List (List C)) → (List (List C)) → Option β) → Option β) (aB : Int) (aA : ByteArray) (aC : Int) (aI : List (List D)) (aF : List (List D)) (K : Int → ByteArray → Int → (List (List C)) → (List (List C)) → Option β) : Option β :=
  Zc (ZaZ 1 aI) (Zc (([] : List (List C)).length + (aI.map (·.map C.d)).length ≤ ZN) (Zo (Yv.l0 k r_spec_l4Copy aB aA aC aI aF 0 (⟨#[]⟩ : ByteArray) 0 aB aA aC (([] : List (List C)) ++ (aI.map (·.map C.d))) K) k (0, ([] : List (List C)))))
noncomputable def Yv.w {β : Type} (r : Int → ByteArray → Int → (List (List D)) → (List (List D)) → Option (Int × ByteArray × Int × (List (List C)) × (List (List C)))) (aB : Int) (aA : ByteArray) (aC : Int) (aI : List (List D)) (aF : List (List D)) (K : Int → ByteArray → Int → (List (List C)) → (List (List C)) → Option β) : Option β := bd5 (r aB aA aC aI aF) K
noncomputable def Yv.all : Nat → (Int → ByteArray → Int → (List (List D)) → (List (List D)) → Option (Int × ByteArray × Int × (List (List C)) × (List (List C))))
  | 0 => (fun _ _ _ _ _ => none)
  | k + 1 => (fun r => (fun aB aA aC aI aF => Yv.body k (Yv.w r) aB aA aC aI aF (fun z0 z1 z2 z3 z4 => some (z0, z1, z2, z3, z4)))) (Yv.all k)
noncomputable def Yv.t (k : Nat) (aB : Int) (aA : ByteArray) (aC : Int) (aI aF : List (List D)) : Option (Int × ByteArray × Int × (List (List C)) × (List (List C))) := (Yv.all k) aB aA aC aI aF
noncomputable def Yv.f {β : Type} (k : Nat) (aB : Int) (aA : ByteArray) (aC : Int) (aI aF : List (List D)) (K : Int → ByteArray → Int → (List (List C)) → (List (List C)) → Option β) : Option β := Yv.w (Yv.t k) aB aA aC aI aF K
noncomputable def Yv.g {β : Type} (k : Nat) (aB : Int) (aA : ByteArray) (aC : Int) (aI aF : List (List D)) (K : Int → ByteArray → Int → (List (List C)) → (List (List C)) → Option β) : Option β := Yv.body k (Yv.f k) aB aA aC aI aF K
theorem Yv.t_succ (k : Nat) (aB : Int) (aA : ByteArray) (aC : Int) (aI aF : List (List D)) : Yv.t (k + 1) aB aA aC aI aF = Yv.g k aB aA aC aI aF (fun z0 z1 z2 z3 z4 => some (z0, z1, z2, z3, z4)) := rfl
noncomputable def Yv.e (k : Nat) : Zk := ent [.agg [.n, .s, .n, .l, .l]] [5] [.n, .s, .n, .o, .o] [66] false (Yv.t k)
noncomputable def Yv.p (k : Nat) : Pro := ⟨Try.prog, [(189, Yv.e k)], Zn [(3, kp [1, 2, 3, 4] [] [(3, 4, .row true 64)])] false [], k⟩
noncomputable def Yv.d (k : Nat) (aB : Int) (aA : ByteArray) (aC : Int) (aI aF : List (List D)) : Ex → St → Option (Int × ByteArray × Int × (List (List C)) × (List (List C))) := (Yv.p k).fin Try.f189 [.agg [.int .i64 aB, .str aA, .int .i64 aC, .sl aI, .sl aF]] [5] [.n, .s, .n, .o, .o]
noncomputable def Yv.s0 (aH : Int) (aJ : ByteArray) (aK : Int) (aL aM : List (List D)) (aN : Int) (aO : ByteArray) (aQ aP : Int) (aR : ByteArray) (aT : Int) (bC : List (List C)) (v : Int × (List (List C))) : St :=
  match v with
  | (aD, bD) => ZX 35 [(1, .bp 0 0), (2, .bp 1 0), (3, .bp 2 0), (4, .d true (.int .i64 aD))] [.box none 66 [.d false (.int .i64 aH), .d false (.str aJ), .d false (.int .i64 aK), .d false (.sl aL), .d false (.sl aM)], .box none 66 [.d true (.int .i64 aN), .d true (.str aO), .d true (.int .i64 aQ), .nil, .nil], .box none 66 [.d false (.int .i64 aP), .d false (.str aR), .d false (.int .i64 aT), .row 3, .row 4], .row none true 25 bC, .row none true 64 bD]
noncomputable def Yv.r0 (k : Nat) (aB : Int) (aA : ByteArray) (aC : Int) (aI aF : List (List D)) (aH : Int) (aJ : ByteArray) (aK : Int) (aL aM : List (List D)) (aN : Int) (aO : ByteArray) (aQ aP : Int) (aR : ByteArray) (aT : Int) (bC : List (List C)) (n : Nat) (v : Int × (List (List C))) : Option (Int × ByteArray × Int × (List (List C)) × (List (List C))) := (Yv.p k).lp (Zt Try.f189) 3 [1, 1, 0, 1, 0] (Yv.d k aB aA aC aI aF) n (Yv.s0 aH aJ aK aL aM aN aO aQ aP aR aT bC v)
theorem Yv.l0_eq (k : Nat) (aB : Int) (aA : ByteArray) (aC : Int) (aI aF : List (List D)) (aH : Int) (aJ : ByteArray) (aK : Int) (aL aM : List (List D)) (aN : Int) (aO : ByteArray) (aQ aP : Int) (aR : ByteArray) (aT : Int) (bC : List (List C)) : ∀ n v, Yv.r0 k aB aA aC aI aF aH aJ aK aL aM aN aO aQ aP aR aT bC n v = Zo (Yv.l0 k (Yv.f k) aH aJ aK aL aM aN aO aQ aP aR aT bC (fun z0 z1 z2 z3 z4 => some (z0, z1, z2, z3, z4))) n v :=
  Zm (Yv.s0 aH aJ aK aL aM aN aO aQ aP aR aT bC) _ fun L0 v => by obtain ⟨aD, bD⟩ := v; kernel_rfl
theorem Yv.oks (k : Nat) : Za Try.prog 189 (Yv.e k) := by
  induction k with
  | zero => exact Z7 Try.func189 (by kernel_rfl) (fun _ _ _ _ _ => rfl)
  | succ k ih => exact Zh (Yv.p k) mix tyok Try.func189 ih (by kernel_rfl) (fun aB aA aC aI aF => Eq.trans (b := Yv.m k (Yv.f k) aB aA aC aI aF (fun z0 z1 z2 z3 z4 => some (z0, z1, z2, z3, z4)) (fun aH aJ aK aL aM aN aO aQ aP aR aT bC => Yv.r0 k aB aA aC aI aF aH aJ aK aL aM aN aO aQ aP aR aT bC k)) (by kernel_rfl) ((congrArg (Yv.m k (Yv.f k) aB aA aC aI aF (fun z0 z1 z2 z3 z4 => some (z0, z1, z2, z3, z4))) (funext fun aH => funext fun aJ => funext fun aK => funext fun aL => funext fun aM => funext fun aN => funext fun aO => funext fun aQ => funext fun aP => funext fun aR => funext fun aT => funext fun bC => funext fun v => Yv.l0_eq k aB aA aC aI aF aH aJ aK aL aM aN aO aQ aP aR aT bC k v)).trans (Yv.t_succ k aB aA aC aI aF).symm))
theorem Yv.ok (k : Nat) : Za Try.prog 189 (Yv.e k) := (Yv.oks k)
noncomputable def YC.l0 {β : Type} (k : Nat) (aD : List (List D)) (K : (List (List C)) → Option β) (L0 : (Int × (List (List C))) → Option β) (v : Int × (List (List C))) : Option β :=
  match v with
  | (aH, aJ) => bif (decide ((aH : Int) < (aD.length : Int))) then (atR aD aH [.n, .n, .n, .s, .n, .l, .l] fun x75 x78 x81 x84 x87 x90 x93 => (atR aD aH [.n, .n, .n, .s, .n, .l, .l] fun x97 x100 x103 x106 x109 x112 x115 => (atR aD aH [.n, .n, .n, .s, .n, .l, .l] fun x119 x122 x125 x128 x131 x134 x137 => (Yv.f k x125 x128 x131 x134 x137 (fun y138 y139 y140 y141 y142 => Zc (aJ.length + ([[.d (.int .i64 x75), .d (.int .i64 x100), .d (.int .i64 y138), .d (.str y139), .d (.int .i64 y140), .own y141, .own y142]] : List (List C)).length ≤ ZN) (L0 (IntKind.wrap .i64 (aH + 1), aJ ++ ([[.d (.int .i64 x75), .d (.int .i64 x100), .d (.int .i64 y138), .d (.str y139), .d (.int .i64 y140), .own y141, .own y142]] : List (List C))))))))) else (K aJ)
noncomputable def YC.m {β : Type} (k : Nat) (a0 : List (List D)) (K : (List (List C)) → Option β) (F : ((List (List D)) → (Int × (List (List C))) → Option β)) : Option β :=
  F a0 (0, ([] : List (List C)))
noncomputable def YC.g {β : Type} (k : Nat) (a0 : List (List D)) (K : (List (List C)) → Option β) : Option β :=
  Zo (YC.l0 k a0 K) k (0, ([] : List (List C)))
noncomputable def YC.t (k : Nat) (a0 : List (List D)) : Option ((List (List C))) := YC.g k a0 (fun z0 => some z0)
noncomputable def YC.f {β : Type} (k : Nat) (a0 : List (List D)) (K : (List (List C)) → Option β) : Option β := bd1 (YC.t k a0) K
noncomputable def YC.e (k : Nat) : Zk := ent [.d .l] [1] [.o] [54] false (YC.t k)
noncomputable def YC.p (k : Nat) : Pro := ⟨Try.prog, [(189, Yv.e k)], Zn [(3, kp [0, 3, 4])] false [], k⟩
noncomputable def YC.d (k : Nat) (a0 : List (List D)) : Ex → St → Option ((List (List C))) := (YC.p k).fin Try.f124 [.d (.sl a0)] [1] [.o]
noncomputable def YC.s0 (aD : List (List D)) (v : Int × (List (List C))) : St :=
  match v with
  | (aH, aJ) => ZX 33 [(0, .d false (.sl aD)), (3, .row 0), (4, .d true (.int .i64 aH))] [.row none true 54 aJ]
noncomputable def YC.r0 (k : Nat) (a0 aD : List (List D)) (n : Nat) (v : Int × (List (List C))) : Option ((List (List C))) := (YC.p k).lp (Zt Try.f124) 3 [1, 1, 0, 1, 0] (YC.d k a0) n (YC.s0 aD v)
theorem YC.l0_eq (k : Nat) (a0 aD : List (List D)) : ∀ n v, YC.r0 k a0 aD n v = Zo (YC.l0 k aD (fun z0 => some z0)) n v :=
  Zm (YC.s0 aD) _ fun L0 v => by obtain ⟨aH, aJ⟩ := v; kernel_rfl
theorem YC.ok (k : Nat) : Za Try.prog 124 (YC.e k) := Zh (YC.p k) mix tyok Try.func124 (Yv.ok k) (by kernel_rfl) (fun a0 => Eq.trans (b := YC.m k a0 (fun z0 => some z0) (fun aD => YC.r0 k a0 aD k)) (by kernel_rfl) (congrArg (YC.m k a0 (fun z0 => some z0)) (funext fun aD => funext fun v => YC.l0_eq k a0 aD k v) :))
noncomputable def Y7.g {β : Type} (k : Nat) (aB : ByteArray) (aA aC : Int) (aI aF : List (List D)) (K : ByteArray → Int → Int → (List (List C)) → (List (List C)) → Option β) : Option β :=
  YC.f k aI (fun y143 => Zc (ZaZ 2 aF) (Zc (([] : List (List C)).length + (aF.map (·.map C.d)).length ≤ ZN) (K aB aA aC y143 (([] : List (List C)) ++ (aF.map (·.map C.d))))))
noncomputable def Y7.t (k : Nat) (aB : ByteArray) (aA aC : Int) (aI aF : List (List D)) : Option (ByteArray × Int × Int × (List (List C)) × (List (List C))) := Y7.g k aB aA aC aI aF (fun z0 z1 z2 z3 z4 => some (z0, z1, z2, z3, z4))
noncomputable def Y7.f {β : Type} (k : Nat) (aB : ByteArray) (aA aC : Int) (aI aF : List (List D)) (K : ByteArray → Int → Int → (List (List C)) → (List (List C)) → Option β) : Option β := bd5 (Y7.t k aB aA aC aI aF) K
noncomputable def Y7.e (k : Nat) : Zk := ent [.agg [.s, .n, .n, .l, .l]] [5] [.s, .n, .n, .o, .o] [57] false (Y7.t k)
noncomputable def Y7.p (k : Nat) : Pro := ⟨Try.prog, [(124, YC.e k)], Zn [] false [], k⟩
theorem Y7.ok (k : Nat) : Za Try.prog 121 (Y7.e k) := Zh (Y7.p k) mix tyok Try.func121 (YC.ok k) (by kernel_rfl) (fun aB aA aC aI aF => by show _ = _; kernel_rfl)
noncomputable def YO.l0 {β : Type} (k : Nat) (aD : ByteArray) (K : Bool → Option β) (L0 : Int → Option β) (v : Int) : Option β :=
  match v with
  | aH => bif (decide ((aH : Int) < (aD.size : Int))) then (Za0 aD aH fun b3 => Yy.f k (IntKind.wrap .i64 b3) 32 126 (fun y4 => bif (!y4) then (K false) else (L0 (IntKind.wrap .i64 (aH + 1))))) else (K (decide (((aD.size : Int) : Int) ≤ 100)))
noncomputable def YO.m {β : Type} (k : Nat) (a0 : ByteArray) (K : Bool → Option β) (F : (ByteArray → Int → Option β)) : Option β :=
  F a0 (0)
noncomputable def YO.g {β : Type} (k : Nat) (a0 : ByteArray) (K : Bool → Option β) : Option β :=
  Zo (YO.l0 k a0 K) k (0)
noncomputable def YO.t (k : Nat) (a0 : ByteArray) : Option (Bool) := YO.g k a0 (fun z0 => some z0)
noncomputable def YO.f {β : Type} (k : Nat) (a0 : ByteArray) (K : Bool → Option β) : Option β := bd1 (YO.t k a0) K
noncomputable def YO.e (k : Nat) : Zk := ent [.d .s] [1] [.b] [4] false (YO.t k)
noncomputable def YO.p (k : Nat) : Pro := ⟨Try.prog, [(79, Yy.e k)], Zn [(2, kp [0, 3])] false [], k⟩
noncomputable def YO.d (k : Nat) (a0 : ByteArray) : Ex → St → Option (Bool) := (YO.p k).fin Try.f250 [.d (.str a0)] [1] [.b]
noncomputable def YO.s0 (aD : ByteArray) (v : Int) : St :=
  match v with
  | aH => ZX 19 [(0, .d false (.str aD)), (3, .d true (.int .i64 aH))] []
noncomputable def YO.r0 (k : Nat) (a0 aD : ByteArray) (n : Nat) (v : Int) : Option (Bool) := (YO.p k).lp (Zt Try.f250) 2 [1, 0, 1, 0] (YO.d k a0) n (YO.s0 aD v)
theorem YO.l0_eq (k : Nat) (a0 aD : ByteArray) : ∀ n v, YO.r0 k a0 aD n v = Zo (YO.l0 k aD (fun z0 => some z0)) n v :=
  Zm (YO.s0 aD) _ fun L0 v => by kernel_rfl
theorem YO.ok (k : Nat) : Za Try.prog 250 (YO.e k) := Zh (YO.p k) mix tyok Try.func250 (Yy.ok k) (by kernel_rfl) (fun a0 => Eq.trans (b := YO.m k a0 (fun z0 => some z0) (fun aD => YO.r0 k a0 aD k)) (by kernel_rfl) (congrArg (YO.m k a0 (fun z0 => some z0)) (funext fun aD => funext fun v => YO.l0_eq k a0 aD k v) :))
noncomputable def YM.l0 {β : Type} (k : Nat) (aH : Int) (aJ : ByteArray) (aK : Int) (aL aM : List (List D)) (K : Bool → Option β) (L0 : Int → Option β) (v : Int) : Option β :=
  match v with
  | aD => bif (decide ((aD : Int) < (aL.length : Int))) then (atR aL aD [.s] fun x17 => (Yh.f k x17 (fun y18 => bif (!y18) then (K false) else (bif (decide ((aD : Int) > 0)) then (atR aL (IntKind.wrap .i64 (aD - 1)) [.s] fun x22 => (atR aL aD [.s] fun x26 => (bif (!(ZbO x22 x26)) then (K false) else (L0 (IntKind.wrap .i64 (aD + 1)))))) else (L0 (IntKind.wrap .i64 (aD + 1))))))) else (K (((aL.length : Int) : Int) == (aM.length : Int)))
noncomputable def YM.m {β : Type} (k : Nat) (aB : Int) (aA : ByteArray) (aC : Int) (aI aF : List (List D)) (K : Bool → Option β) (F : (Int → ByteArray → Int → (List (List D)) → (List (List D)) → Int → Option β)) : Option β :=
  F aB aA aC aI aF (0)
noncomputable def YM.g {β : Type} (k : Nat) (aB : Int) (aA : ByteArray) (aC : Int) (aI aF : List (List D)) (K : Bool → Option β) : Option β :=
  Zo (YM.l0 k aB aA aC aI aF K) k (0)
noncomputable def YM.t (k : Nat) (aB : Int) (aA : ByteArray) (aC : Int) (aI aF : List (List D)) : Option (Bool) := YM.g k aB aA aC aI aF (fun z0 => some z0)
noncomputable def YM.f {β : Type} (k : Nat) (aB : Int) (aA : ByteArray) (aC : Int) (aI aF : List (List D)) (K : Bool → Option β) : Option β := bd1 (YM.t k aB aA aC aI aF) K
noncomputable def YM.e (k : Nat) : Zk := ent [.agg [.n, .s, .n, .l, .l]] [1] [.b] [4] false (YM.t k)
noncomputable def YM.p (k : Nat) : Pro := ⟨Try.prog, [(76, Yh.e k)], Zn [(2, kp [1, 3])] false [], k⟩
noncomputable def YM.d (k : Nat) (aB : Int) (aA : ByteArray) (aC : Int) (aI aF : List (List D)) : Ex → St → Option (Bool) := (YM.p k).fin Try.f251 [.agg [.int .i64 aB, .str aA, .int .i64 aC, .sl aI, .sl aF]] [1] [.b]
noncomputable def YM.s0 (aH : Int) (aJ : ByteArray) (aK : Int) (aL aM : List (List D)) (v : Int) : St :=
  match v with
  | aD => ZX 43 [(1, .bp 0 0), (3, .d true (.int .i64 aD))] [.box none 66 [.d false (.int .i64 aH), .d false (.str aJ), .d false (.int .i64 aK), .d false (.sl aL), .d false (.sl aM)]]
noncomputable def YM.r0 (k : Nat) (aB : Int) (aA : ByteArray) (aC : Int) (aI aF : List (List D)) (aH : Int) (aJ : ByteArray) (aK : Int) (aL aM : List (List D)) (n : Nat) (v : Int) : Option (Bool) := (YM.p k).lp (Zt Try.f251) 2 [1, 0, 1, 0] (YM.d k aB aA aC aI aF) n (YM.s0 aH aJ aK aL aM v)
theorem YM.l0_eq (k : Nat) (aB : Int) (aA : ByteArray) (aC : Int) (aI aF : List (List D)) (aH : Int) (aJ : ByteArray) (aK : Int) (aL aM : List (List D)) : ∀ n v, YM.r0 k aB aA aC aI aF aH aJ aK aL aM n v = Zo (YM.l0 k aH aJ aK aL aM (fun z0 => some z0)) n v :=
  Zm (YM.s0 aH aJ aK aL aM) _ fun L0 v => by kernel_rfl
theorem YM.ok (k : Nat) : Za Try.prog 251 (YM.e k) := Zh (YM.p k) mix tyok Try.func251 (Yh.ok k) (by kernel_rfl) (fun aB aA aC aI aF => Eq.trans (b := YM.m k aB aA aC aI aF (fun z0 => some z0) (fun aH aJ aK aL aM => YM.r0 k aB aA aC aI aF aH aJ aK aL aM k)) (by kernel_rfl) (congrArg (YM.m k aB aA aC aI aF (fun z0 => some z0)) (funext fun aH => funext fun aJ => funext fun aK => funext fun aL => funext fun aM => funext fun v => YM.l0_eq k aB aA aC aI aF aH aJ aK aL aM k v) :))
noncomputable def Yp.l0 {β : Type} (k : Nat) (r_spec_l4Look : Int → ByteArray → Int → (List (List D)) → (List (List D)) → Int → (Int → Option β) → Option β) (aD : Int) (aK : Int) (aL : ByteArray) (aM : Int) (aN : List (List D)) (aO : List (List D)) (K : Int → Option β) (L0 : (Int × Int) → Option β) (v : Int × Int) : Option β :=
  match v with
  | (aH, aJ) => bif (decide ((aJ : Int) < (aO.length : Int))) then (atR aO aJ [.n, .s, .n, .l, .l] fun x32 x35 x38 x41 x44 => (r_spec_l4Look x32 x35 x38 x41 x44 (IntKind.wrap .i64 (aD - 1)) (fun y45 => bif ((y45 : Int) == 0) then (K 0) else (bif (decide (((IntKind.wrap .i64 (aH + y45)) : Int) > 300)) then (K 0) else (L0 (IntKind.wrap .i64 (aH + y45), IntKind.wrap .i64 (aJ + 1))))))) else (let J1 := (bif (Zae aL (⟨#[]⟩ : ByteArray)) then (bif (!((aM : Int) == 0)) then (K 0) else (K aH)) else (K 0)); let J0 := (bif (((aN.length : Int) : Int) == 0) then J1 else (K 0)); bif (((aN.length : Int) : Int) == 0) then (bif ((aK : Int) == 1) then (bif (((aO.length : Int) : Int) == 0) then (bif ((aM : Int) == 0) then (YO.f k aL (fun y46 => bif (!y46) then (K 0) else (K aH))) else (K 0)) else (K 0)) else (bif ((aK : Int) == 2) then (bif (((aO.length : Int) : Int) == 0) then (bif (!(Zae aL (⟨#[]⟩ : ByteArray))) then (K 0) else (K aH)) else (K 0)) else (bif ((aK : Int) == 3) then (bif (((aO.length : Int) : Int) == 0) then (bif (Zae aL (⟨#[]⟩ : ByteArray)) then (Yy.f k aM 0 1 (fun y47 => bif (!y47) then (K 0) else (K aH))) else (K 0)) else (K 0)) else (bif ((aK : Int) == 4) then J0 else (bif ((aK : Int) == 5) then (YM.f k aK aL aM aN aO (fun y48 => bif y48 then J1 else (K 0))) else (K 0)))))) else (bif ((aK : Int) == 1) then (K 0) else (bif ((aK : Int) == 2) then (K 0) else (bif ((aK : Int) == 3) then (K 0) else (bif ((aK : Int) == 4) then J0 else (bif ((aK : Int) == 5) then (YM.f k aK aL aM aN aO (fun y49 => bif y49 then J1 else (K 0))) else (K 0)))))))
noncomputable def Yp.m {β : Type} (k : Nat) (r_spec_l4Look : Int → ByteArray → Int → (List (List D)) → (List (List D)) → Int → (Int → Option β) → Option β) (aB : Int) (aA : ByteArray) (aC : Int) (aI : List (List D)) (aF : List (List D)) (a1 : Int) (K : Int → Option β) (F : (Int → Int → ByteArray → Int → (List (List D)) → (List (List D)) → (Int × Int) → Option β)) : Option β :=
  bif ((a1 : Int) == 0) then (K 0) else (F a1 aB aA aC aI aF (1, 0))
noncomputable def Yp.body {β : Type} (k : Nat) (r_spec_l4Look : Int → ByteArray → Int → (List (List D)) → (List (List D)) → Int → (Int → Option β) → Option β) (aB : Int) (aA : ByteArray) (aC : Int) (aI : List (List D)) (aF : List (List D)) (a1 : Int) (K : Int → Option β) : Option β :=
  bif ((a1 : Int) == 0) then (K 0) else (Zo (Yp.l0 k r_spec_l4Look a1 aB aA aC aI aF K) k (1, 0))
noncomputable def Yp.w {β : Type} (r : Int → ByteArray → Int → (List (List D)) → (List (List D)) → Int → Option (Int)) (aB : Int) (aA : ByteArray) (aC : Int) (aI : List (List D)) (aF : List (List D)) (a1 : Int) (K : Int → Option β) : Option β := bd1 (r aB aA aC aI aF a1) K
noncomputable def Yp.all : Nat → (Int → ByteArray → Int → (List (List D)) → (List (List D)) → Int → Option (Int))
  | 0 => (fun _ _ _ _ _ _ => none)
  | k + 1 => (fun r => (fun aB aA aC aI aF a1 => Yp.body k (Yp.w r) aB aA aC aI aF a1 (fun z0 => some z0))) (Yp.all k)
noncomputable def Yp.t (k : Nat) (aB : Int) (aA : ByteArray) (aC : Int) (aI aF : List (List D)) (a1 : Int) : Option (Int) := (Yp.all k) aB aA aC aI aF a1
noncomputable def Yp.f {β : Type} (k : Nat) (aB : Int) (aA : ByteArray) (aC : Int) (aI aF : List (List D)) (a1 : Int) (K : Int → Option β) : Option β := Yp.w (Yp.t k) aB aA aC aI aF a1 K
noncomputable def Yp.g {β : Type} (k : Nat) (aB : Int) (aA : ByteArray) (aC : Int) (aI aF : List (List D)) (a1 : Int) (K : Int → Option β) : Option β := Yp.body k (Yp.f k) aB aA aC aI aF a1 K
theorem Yp.t_succ (k : Nat) (aB : Int) (aA : ByteArray) (aC : Int) (aI aF : List (List D)) (a1 : Int) : Yp.t (k + 1) aB aA aC aI aF a1 = Yp.g k aB aA aC aI aF a1 (fun z0 => some z0) := rfl
noncomputable def Yp.e (k : Nat) : Zk := ent [.agg [.n, .s, .n, .l, .l], .d .n] [1] [.n] [3] false (Yp.t k)
noncomputable def Yp.p (k : Nat) : Pro := ⟨Try.prog, [(226, Yp.e k), (250, YO.e k), (79, Yy.e k), (251, YM.e k)], Zn [(5, kp [1, 2, 5, 6])] false [], k⟩
noncomputable def Yp.d (k : Nat) (aB : Int) (aA : ByteArray) (aC : Int) (aI aF : List (List D)) (a1 : Int) : Ex → St → Option (Int) := (Yp.p k).fin Try.f226 [.agg [.int .i64 aB, .str aA, .int .i64 aC, .sl aI, .sl aF], .d (.int .i64 a1)] [1] [.n]
noncomputable def Yp.s0 (aD aK : Int) (aL : ByteArray) (aM : Int) (aN aO : List (List D)) (v : Int × Int) : St :=
  match v with
  | (aH, aJ) => ZX 117 [(1, .d false (.int .i64 aD)), (2, .bp 0 0), (5, .d true (.int .i64 aH)), (6, .d true (.int .i64 aJ))] [.box none 66 [.d false (.int .i64 aK), .d false (.str aL), .d false (.int .i64 aM), .d false (.sl aN), .d false (.sl aO)]]
noncomputable def Yp.r0 (k : Nat) (aB : Int) (aA : ByteArray) (aC : Int) (aI aF : List (List D)) (a1 aD aK : Int) (aL : ByteArray) (aM : Int) (aN aO : List (List D)) (n : Nat) (v : Int × Int) : Option (Int) := (Yp.p k).lp (Zt Try.f226) 5 [1, 1, 1, 0, 1, 0] (Yp.d k aB aA aC aI aF a1) n (Yp.s0 aD aK aL aM aN aO v)
theorem Yp.l0_eq (k : Nat) (aB : Int) (aA : ByteArray) (aC : Int) (aI aF : List (List D)) (a1 aD aK : Int) (aL : ByteArray) (aM : Int) (aN aO : List (List D)) : ∀ n v, Yp.r0 k aB aA aC aI aF a1 aD aK aL aM aN aO n v = Zo (Yp.l0 k (Yp.f k) aD aK aL aM aN aO (fun z0 => some z0)) n v :=
  Zm (Yp.s0 aD aK aL aM aN aO) _ fun L0 v => by obtain ⟨aH, aJ⟩ := v; kernel_rfl
theorem Yp.oks (k : Nat) : Za Try.prog 226 (Yp.e k) := by
  induction k with
  | zero => exact Z7 Try.func226 (by kernel_rfl) (fun _ _ _ _ _ _ => rfl)
  | succ k ih => exact Zh (Yp.p k) mix tyok Try.func226 ⟨ih, YO.ok k, Yy.ok k, YM.ok k⟩ (by kernel_rfl) (fun aB aA aC aI aF a1 => Eq.trans (b := Yp.m k (Yp.f k) aB aA aC aI aF a1 (fun z0 => some z0) (fun aD aK aL aM aN aO => Yp.r0 k aB aA aC aI aF a1 aD aK aL aM aN aO k)) (by kernel_rfl) ((congrArg (Yp.m k (Yp.f k) aB aA aC aI aF a1 (fun z0 => some z0)) (funext fun aD => funext fun aK => funext fun aL => funext fun aM => funext fun aN => funext fun aO => funext fun v => Yp.l0_eq k aB aA aC aI aF a1 aD aK aL aM aN aO k v)).trans (Yp.t_succ k aB aA aC aI aF a1).symm))
theorem Yp.ok (k : Nat) : Za Try.prog 226 (Yp.e k) := (Yp.oks k)
noncomputable def YW.g {β : Type} (k : Nat) (aB : Int) (aA : ByteArray) (aC : Int) (aI aF : List (List D)) (K : Bool → Option β) : Option β :=
  Yp.f k aB aA aC aI aF 6 (fun y50 => K (decide ((y50 : Int) > 0)))
noncomputable def YW.t (k : Nat) (aB : Int) (aA : ByteArray) (aC : Int) (aI aF : List (List D)) : Option (Bool) := YW.g k aB aA aC aI aF (fun z0 => some z0)
noncomputable def YW.f {β : Type} (k : Nat) (aB : Int) (aA : ByteArray) (aC : Int) (aI aF : List (List D)) (K : Bool → Option β) : Option β := bd1 (YW.t k aB aA aC aI aF) K
noncomputable def YW.e (k : Nat) : Zk := ent [.agg [.n, .s, .n, .l, .l]] [1] [.b] [4] false (YW.t k)
noncomputable def YW.p (k : Nat) : Pro := ⟨Try.prog, [(226, Yp.e k)], Zn [] false [], k⟩
theorem YW.ok (k : Nat) : Za Try.prog 188 (YW.e k) := Zh (YW.p k) mix tyok Try.func188 (Yp.ok k) (by kernel_rfl) (fun aB aA aC aI aF => by show _ = _; kernel_rfl)
noncomputable def Yi.l0 {β : Type} (k : Nat) (aD : List (List D)) (K : Bool → Option β) (L0 : Int → Option β) (v : Int) : Option β :=
  match v with
  | aH => bif (decide ((aH : Int) < (aD.length : Int))) then (atR aD aH [.n, .n, .n, .s, .n, .l, .l] fun x77 x80 x83 x86 x89 x92 x95 => (Yy.f k x77 1 1000000 (fun y96 => bif (!y96) then (K false) else (Yy.f k x80 1 10000 (fun y97 => bif (!y97) then (K false) else (YW.f k x83 x86 x89 x92 x95 (fun y98 => bif (!y98) then (K false) else (bif (decide ((aH : Int) > 0)) then (atR aD (IntKind.wrap .i64 (aH - 1)) [.n, .n, .n, .s, .n, .l, .l] fun x102 x105 x108 x111 x114 x117 x120 => (bif (decide ((x102 : Int) ≥ x77)) then (K false) else (L0 (IntKind.wrap .i64 (aH + 1))))) else (L0 (IntKind.wrap .i64 (aH + 1))))))))))) else (K (decide (((aD.length : Int) : Int) ≤ 40)))
noncomputable def Yi.m {β : Type} (k : Nat) (a0 : List (List D)) (K : Bool → Option β) (F : ((List (List D)) → Int → Option β)) : Option β :=
  F a0 (0)
noncomputable def Yi.g {β : Type} (k : Nat) (a0 : List (List D)) (K : Bool → Option β) : Option β :=
  Zo (Yi.l0 k a0 K) k (0)
noncomputable def Yi.t (k : Nat) (a0 : List (List D)) : Option (Bool) := Yi.g k a0 (fun z0 => some z0)
noncomputable def Yi.f {β : Type} (k : Nat) (a0 : List (List D)) (K : Bool → Option β) : Option β := bd1 (Yi.t k a0) K
noncomputable def Yi.e (k : Nat) : Zk := ent [.d .l] [1] [.b] [4] false (Yi.t k)
noncomputable def Yi.p (k : Nat) : Pro := ⟨Try.prog, [(79, Yy.e k), (188, YW.e k)], Zn [(2, kp [0, 3])] false [], k⟩
noncomputable def Yi.d (k : Nat) (a0 : List (List D)) : Ex → St → Option (Bool) := (Yi.p k).fin Try.f123 [.d (.sl a0)] [1] [.b]
noncomputable def Yi.s0 (aD : List (List D)) (v : Int) : St :=
  match v with
  | aH => ZX 49 [(0, .d false (.sl aD)), (3, .d true (.int .i64 aH))] []
noncomputable def Yi.r0 (k : Nat) (a0 aD : List (List D)) (n : Nat) (v : Int) : Option (Bool) := (Yi.p k).lp (Zt Try.f123) 2 [1, 0, 1, 0] (Yi.d k a0) n (Yi.s0 aD v)
theorem Yi.l0_eq (k : Nat) (a0 aD : List (List D)) : ∀ n v, Yi.r0 k a0 aD n v = Zo (Yi.l0 k aD (fun z0 => some z0)) n v :=
  Zm (Yi.s0 aD) _ fun L0 v => by kernel_rfl
theorem Yi.ok (k : Nat) : Za Try.prog 123 (Yi.e k) := Zh (Yi.p k) mix tyok Try.func123 ⟨Yy.ok k, YW.ok k⟩ (by kernel_rfl) (fun a0 => Eq.trans (b := Yi.m k a0 (fun z0 => some z0) (fun aD => Yi.r0 k a0 aD k)) (by kernel_rfl) (congrArg (Yi.m k a0 (fun z0 => some z0)) (funext fun aD => funext fun v => Yi.l0_eq k a0 aD k v) :))
noncomputable def Yw.l0 {β : Type} (k : Nat) (aD : List (List D)) (aH : Int) (K : Bool → Option β) (L0 : Int → Option β) (v : Int) : Option β :=
  match v with
  | aJ => bif (decide ((aJ : Int) < (aD.length : Int))) then (atR aD aJ [.n, .n] fun x34 x37 => (Yy.f k x34 1 1000000 (fun y38 => bif (!y38) then (K false) else (atR aD aJ [.n, .n] fun x42 x45 => (Yy.f k x45 aH 10000 (fun y46 => bif (!y46) then (K false) else (bif (decide ((aJ : Int) > 0)) then (atR aD (IntKind.wrap .i64 (aJ - 1)) [.n, .n] fun x50 x53 => (atR aD aJ [.n, .n] fun x57 x60 => (bif (decide ((x50 : Int) ≥ x57)) then (K false) else (L0 (IntKind.wrap .i64 (aJ + 1)))))) else (L0 (IntKind.wrap .i64 (aJ + 1)))))))))) else (K (decide (((aD.length : Int) : Int) ≤ 80)))
noncomputable def Yw.m {β : Type} (k : Nat) (a0 : List (List D)) (a1 : Int) (K : Bool → Option β) (F : ((List (List D)) → Int → Int → Option β)) : Option β :=
  F a0 a1 (0)
noncomputable def Yw.g {β : Type} (k : Nat) (a0 : List (List D)) (a1 : Int) (K : Bool → Option β) : Option β :=
  Zo (Yw.l0 k a0 a1 K) k (0)
noncomputable def Yw.t (k : Nat) (a0 : List (List D)) (a1 : Int) : Option (Bool) := Yw.g k a0 a1 (fun z0 => some z0)
noncomputable def Yw.f {β : Type} (k : Nat) (a0 : List (List D)) (a1 : Int) (K : Bool → Option β) : Option β := bd1 (Yw.t k a0 a1) K
noncomputable def Yw.e (k : Nat) : Zk := ent [.d .l, .d .n] [1] [.b] [4] false (Yw.t k)
noncomputable def Yw.p (k : Nat) : Pro := ⟨Try.prog, [(79, Yy.e k)], Zn [(2, kp [0, 1, 5])] false [], k⟩
noncomputable def Yw.d (k : Nat) (a0 : List (List D)) (a1 : Int) : Ex → St → Option (Bool) := (Yw.p k).fin Try.f186 [.d (.sl a0), .d (.int .i64 a1)] [1] [.b]
noncomputable def Yw.s0 (aD : List (List D)) (aH v : Int) : St :=
  match v with
  | aJ => ZX 50 [(0, .d false (.sl aD)), (1, .d false (.int .i64 aH)), (5, .d true (.int .i64 aJ))] []
noncomputable def Yw.r0 (k : Nat) (a0 : List (List D)) (a1 : Int) (aD : List (List D)) (aH : Int) (n : Nat) (v : Int) : Option (Bool) := (Yw.p k).lp (Zt Try.f186) 2 [1, 0, 1, 0] (Yw.d k a0 a1) n (Yw.s0 aD aH v)
theorem Yw.l0_eq (k : Nat) (a0 : List (List D)) (a1 : Int) (aD : List (List D)) (aH : Int) : ∀ n v, Yw.r0 k a0 a1 aD aH n v = Zo (Yw.l0 k aD aH (fun z0 => some z0)) n v :=
  Zm (Yw.s0 aD aH) _ fun L0 v => by kernel_rfl
theorem Yw.ok (k : Nat) : Za Try.prog 186 (Yw.e k) := Zh (Yw.p k) mix tyok Try.func186 (Yy.ok k) (by kernel_rfl) (fun a0 a1 => Eq.trans (b := Yw.m k a0 a1 (fun z0 => some z0) (fun aD aH => Yw.r0 k a0 a1 aD aH k)) (by kernel_rfl) (congrArg (Yw.m k a0 a1 (fun z0 => some z0)) (funext fun aD => funext fun aH => funext fun v => Yw.l0_eq k a0 a1 aD aH k v) :))
noncomputable def Yk.l0 {β : Type} (k : Nat) (aD : List (List D)) (K : Int → Option β) (L0 : (Int × Int) → Option β) (v : Int × Int) : Option β :=
  match v with
  | (aH, aJ) => bif (decide ((aJ : Int) < (aD.length : Int))) then (atR aD aJ [.n, .n] fun x11 x14 => (L0 (IntKind.wrap .i64 (aH + x14), IntKind.wrap .i64 (aJ + 1)))) else (K aH)
noncomputable def Yk.m {β : Type} (k : Nat) (a0 : List (List D)) (K : Int → Option β) (F : ((List (List D)) → (Int × Int) → Option β)) : Option β :=
  F a0 (0, 0)
noncomputable def Yk.g {β : Type} (k : Nat) (a0 : List (List D)) (K : Int → Option β) : Option β :=
  Zo (Yk.l0 k a0 K) k (0, 0)
noncomputable def Yk.t (k : Nat) (a0 : List (List D)) : Option (Int) := Yk.g k a0 (fun z0 => some z0)
noncomputable def Yk.f {β : Type} (k : Nat) (a0 : List (List D)) (K : Int → Option β) : Option β := bd1 (Yk.t k a0) K
noncomputable def Yk.e (k : Nat) : Zk := ent [.d .l] [1] [.n] [3] false (Yk.t k)
noncomputable def Yk.p (k : Nat) : Pro := ⟨Try.prog, [], Zn [(3, kp [0, 3, 4])] false [], k⟩
noncomputable def Yk.d (k : Nat) (a0 : List (List D)) : Ex → St → Option (Int) := (Yk.p k).fin Try.f187 [.d (.sl a0)] [1] [.n]
noncomputable def Yk.s0 (aD : List (List D)) (v : Int × Int) : St :=
  match v with
  | (aH, aJ) => ZX 19 [(0, .d false (.sl aD)), (3, .d true (.int .i64 aH)), (4, .d true (.int .i64 aJ))] []
noncomputable def Yk.r0 (k : Nat) (a0 aD : List (List D)) (n : Nat) (v : Int × Int) : Option (Int) := (Yk.p k).lp (Zt Try.f187) 3 [1, 1, 0, 1, 0] (Yk.d k a0) n (Yk.s0 aD v)
theorem Yk.l0_eq (k : Nat) (a0 aD : List (List D)) : ∀ n v, Yk.r0 k a0 aD n v = Zo (Yk.l0 k aD (fun z0 => some z0)) n v :=
  Zm (Yk.s0 aD) _ fun L0 v => by obtain ⟨aH, aJ⟩ := v; kernel_rfl
theorem Yk.ok (k : Nat) : Za Try.prog 187 (Yk.e k) := Zh (Yk.p k) mix tyok Try.func187 trivial (by kernel_rfl) (fun a0 => Eq.trans (b := Yk.m k a0 (fun z0 => some z0) (fun aD => Yk.r0 k a0 aD k)) (by kernel_rfl) (congrArg (Yk.m k a0 (fun z0 => some z0)) (funext fun aD => funext fun v => Yk.l0_eq k a0 aD k v) :))
noncomputable def Yx.g {β : Type} (k : Nat) (aB : ByteArray) (aA aC : Int) (aI aF : List (List D)) (K : Bool → Option β) : Option β :=
  Yh.f k aB (fun y1 => bif y1 then (Yy.f k aA 0 10000 (fun y2 => bif y2 then (Yy.f k aC 0 1000000 (fun y3 => bif y3 then (Yi.f k aI (fun y121 => bif y121 then (Yw.f k aF 1 (fun y122 => bif y122 then (Yk.f k aF (fun y123 => K (decide ((y123 : Int) ≤ aA)))) else (K false))) else (K false))) else (K false))) else (K false))) else (K false))
noncomputable def Yx.t (k : Nat) (aB : ByteArray) (aA aC : Int) (aI aF : List (List D)) : Option (Bool) := Yx.g k aB aA aC aI aF (fun z0 => some z0)
noncomputable def Yx.f {β : Type} (k : Nat) (aB : ByteArray) (aA aC : Int) (aI aF : List (List D)) (K : Bool → Option β) : Option β := bd1 (Yx.t k aB aA aC aI aF) K
noncomputable def Yx.e (k : Nat) : Zk := ent [.agg [.s, .n, .n, .l, .l]] [1] [.b] [4] false (Yx.t k)
noncomputable def Yx.p (k : Nat) : Pro := ⟨Try.prog, [(76, Yh.e k), (79, Yy.e k), (123, Yi.e k), (186, Yw.e k), (187, Yk.e k)], Zn [] false [], k⟩
theorem Yx.ok (k : Nat) : Za Try.prog 122 (Yx.e k) := Zh (Yx.p k) mix tyok Try.func122 ⟨Yh.ok k, Yy.ok k, Yi.ok k, Yw.ok k, Yk.ok k⟩ (by kernel_rfl) (fun aB aA aC aI aF => by show _ = _; kernel_rfl)
noncomputable def Yai.g {β : Type} (k : Nat) (aB : ByteArray) (aA aC : Int) (aI aF : List (List D)) (a1 : Int) (a2 : List (List D)) (K : ByteArray → Int → Int → (List (List C)) → (List (List C)) → Bool → Option β) : Option β :=
  Y7.f k aB aA aC aI aF (fun y144 y145 y146 y147 y148 => Yx.f k aB aA aC aI aF (fun y149 => bif (!y149) then (K y144 y145 y146 y147 y148 false) else (Yi.f k a2 (fun y150 => bif (!y150) then (K y144 y145 y146 y147 y148 false) else (bif (decide ((a1 : Int) ≤ aC)) then (K y144 y145 y146 y147 y148 false) else (bif (decide ((a1 : Int) > 1000000)) then (K y144 y145 y146 y147 y148 false) else (YC.f k a2 (fun y151 => K y144 y145 a1 y151 y148 true))))))))
noncomputable def Yai.t (k : Nat) (aB : ByteArray) (aA aC : Int) (aI aF : List (List D)) (a1 : Int) (a2 : List (List D)) : Option (ByteArray × Int × Int × (List (List C)) × (List (List C)) × Bool) := Yai.g k aB aA aC aI aF a1 a2 (fun z0 z1 z2 z3 z4 z5 => some (z0, z1, z2, z3, z4, z5))
noncomputable def Yai.f {β : Type} (k : Nat) (aB : ByteArray) (aA aC : Int) (aI aF : List (List D)) (a1 : Int) (a2 : List (List D)) (K : ByteArray → Int → Int → (List (List C)) → (List (List C)) → Bool → Option β) : Option β := match Yai.t k aB aA aC aI aF a1 a2 with | some (z0, z1, z2, z3, z4, z5) => K z0 z1 z2 z3 z4 z5 | none => none
noncomputable def Yai.e (k : Nat) : Zk := ent [.agg [.s, .n, .n, .l, .l], .d .n, .d .l] [5, 1] [.s, .n, .n, .o, .o, .b] [57, 4] false (Yai.t k)
noncomputable def Yai.p (k : Nat) : Pro := ⟨Try.prog, [(121, Y7.e k), (122, Yx.e k), (123, Yi.e k), (124, YC.e k)], Zn [] false [], k⟩
theorem Yai.ok (k : Nat) : Za Try.prog 44 (Yai.e k) := Zh (Yai.p k) mix tyok Try.func44 ⟨Y7.ok k, Yx.ok k, Yi.ok k, YC.ok k⟩ (by kernel_rfl) (fun aB aA aC aI aF a1 a2 => by show _ = _; kernel_rfl)
noncomputable def Yl.l0 {β : Type} (k : Nat) (aD : Int) (aJ : ByteArray) (aK aL : Int) (aM aN : List (List D)) (K L0 : Int → Option β) (v : Int) : Option β :=
  match v with
  | aH => bif (decide ((aH : Int) < (aM.length : Int))) then (atR aM aH [.n, .n, .n, .s, .n, .l, .l] fun x48 x51 x54 x57 x60 x63 x66 => (bif ((x48 : Int) == aD) then (atR aM aH [.n, .n, .n, .s, .n, .l, .l] fun x70 x73 x76 x79 x82 x85 x88 => (K x73)) else (L0 (IntKind.wrap .i64 (aH + 1))))) else (K 0)
noncomputable def Yl.m {β : Type} (k : Nat) (aB : ByteArray) (aA aC : Int) (aI aF : List (List D)) (a1 : Int) (K : Int → Option β) (F : (Int → ByteArray → Int → Int → (List (List D)) → (List (List D)) → Int → Option β)) : Option β :=
  F a1 aB aA aC aI aF (0)
noncomputable def Yl.g {β : Type} (k : Nat) (aB : ByteArray) (aA aC : Int) (aI aF : List (List D)) (a1 : Int) (K : Int → Option β) : Option β :=
  Zo (Yl.l0 k a1 aB aA aC aI aF K) k (0)
noncomputable def Yl.t (k : Nat) (aB : ByteArray) (aA aC : Int) (aI aF : List (List D)) (a1 : Int) : Option (Int) := Yl.g k aB aA aC aI aF a1 (fun z0 => some z0)
noncomputable def Yl.f {β : Type} (k : Nat) (aB : ByteArray) (aA aC : Int) (aI aF : List (List D)) (a1 : Int) (K : Int → Option β) : Option β := bd1 (Yl.t k aB aA aC aI aF a1) K
noncomputable def Yl.e (k : Nat) : Zk := ent [.agg [.s, .n, .n, .l, .l], .d .n] [1] [.n] [3] false (Yl.t k)
noncomputable def Yl.p (k : Nat) : Pro := ⟨Try.prog, [], Zn [(2, kp [1, 2, 5])] false [], k⟩
noncomputable def Yl.d (k : Nat) (aB : ByteArray) (aA aC : Int) (aI aF : List (List D)) (a1 : Int) : Ex → St → Option (Int) := (Yl.p k).fin Try.f246 [.agg [.str aB, .int .i64 aA, .int .i64 aC, .sl aI, .sl aF], .d (.int .i64 a1)] [1] [.n]
noncomputable def Yl.s0 (aD : Int) (aJ : ByteArray) (aK aL : Int) (aM aN : List (List D)) (v : Int) : St :=
  match v with
  | aH => ZX 27 [(1, .d false (.int .i64 aD)), (2, .bp 0 0), (5, .d true (.int .i64 aH))] [.box none 57 [.d false (.str aJ), .d false (.int .i64 aK), .d false (.int .i64 aL), .d false (.sl aM), .d false (.sl aN)]]
noncomputable def Yl.r0 (k : Nat) (aB : ByteArray) (aA aC : Int) (aI aF : List (List D)) (a1 aD : Int) (aJ : ByteArray) (aK aL : Int) (aM aN : List (List D)) (n : Nat) (v : Int) : Option (Int) := (Yl.p k).lp (Zt Try.f246) 2 [1, 0, 1, 0] (Yl.d k aB aA aC aI aF a1) n (Yl.s0 aD aJ aK aL aM aN v)
theorem Yl.l0_eq (k : Nat) (aB : ByteArray) (aA aC : Int) (aI aF : List (List D)) (a1 aD : Int) (aJ : ByteArray) (aK aL : Int) (aM aN : List (List D)) : ∀ n v, Yl.r0 k aB aA aC aI aF a1 aD aJ aK aL aM aN n v = Zo (Yl.l0 k aD aJ aK aL aM aN (fun z0 => some z0)) n v :=
  Zm (Yl.s0 aD aJ aK aL aM aN) _ fun L0 v => by kernel_rfl
theorem Yl.ok (k : Nat) : Za Try.prog 246 (Yl.e k) := Zh (Yl.p k) mix tyok Try.func246 trivial (by kernel_rfl) (fun aB aA aC aI aF a1 => Eq.trans (b := Yl.m k aB aA aC aI aF a1 (fun z0 => some z0) (fun aD aJ aK aL aM aN => Yl.r0 k aB aA aC aI aF a1 aD aJ aK aL aM aN k)) (by kernel_rfl) (congrArg (Yl.m k aB aA aC aI aF a1 (fun z0 => some z0)) (funext fun aD => funext fun aJ => funext fun aK => funext fun aL => funext fun aM => funext fun aN => funext fun v => Yl.l0_eq k aB aA aC aI aF a1 aD aJ aK aL aM aN k v) :))
noncomputable def YG.l0 {β : Type} (k : Nat) (aH : ByteArray) (aJ aK : Int) (aL aM : List (List D)) (K L0 : Int → Option β) (v : Int) : Option β :=
  match v with
  | aD => bif (decide ((aD : Int) < (aM.length : Int))) then (atR aM aD [.n, .n] fun x93 x96 => (atR aM aD [.n, .n] fun x100 x103 => (Yl.f k aH aJ aK aL aM x100 (fun y104 => bif (decide ((x96 : Int) > y104)) then (K aD) else (L0 (IntKind.wrap .i64 (aD + 1))))))) else (K (-1))
noncomputable def YG.m {β : Type} (k : Nat) (aB : ByteArray) (aA aC : Int) (aI aF : List (List D)) (K : Int → Option β) (F : (ByteArray → Int → Int → (List (List D)) → (List (List D)) → Int → Option β)) : Option β :=
  F aB aA aC aI aF (0)
noncomputable def YG.g {β : Type} (k : Nat) (aB : ByteArray) (aA aC : Int) (aI aF : List (List D)) (K : Int → Option β) : Option β :=
  Zo (YG.l0 k aB aA aC aI aF K) k (0)
noncomputable def YG.t (k : Nat) (aB : ByteArray) (aA aC : Int) (aI aF : List (List D)) : Option (Int) := YG.g k aB aA aC aI aF (fun z0 => some z0)
noncomputable def YG.f {β : Type} (k : Nat) (aB : ByteArray) (aA aC : Int) (aI aF : List (List D)) (K : Int → Option β) : Option β := bd1 (YG.t k aB aA aC aI aF) K
noncomputable def YG.e (k : Nat) : Zk := ent [.agg [.s, .n, .n, .l, .l]] [1] [.n] [3] false (YG.t k)
noncomputable def YG.p (k : Nat) : Pro := ⟨Try.prog, [(246, Yl.e k)], Zn [(2, kp [1, 3])] false [], k⟩
noncomputable def YG.d (k : Nat) (aB : ByteArray) (aA aC : Int) (aI aF : List (List D)) : Ex → St → Option (Int) := (YG.p k).fin Try.f213 [.agg [.str aB, .int .i64 aA, .int .i64 aC, .sl aI, .sl aF]] [1] [.n]
noncomputable def YG.s0 (aH : ByteArray) (aJ aK : Int) (aL aM : List (List D)) (v : Int) : St :=
  match v with
  | aD => ZX 27 [(1, .bp 0 0), (3, .d true (.int .i64 aD))] [.box none 57 [.d false (.str aH), .d false (.int .i64 aJ), .d false (.int .i64 aK), .d false (.sl aL), .d false (.sl aM)]]
noncomputable def YG.r0 (k : Nat) (aB : ByteArray) (aA aC : Int) (aI aF : List (List D)) (aH : ByteArray) (aJ aK : Int) (aL aM : List (List D)) (n : Nat) (v : Int) : Option (Int) := (YG.p k).lp (Zt Try.f213) 2 [1, 0, 1, 0] (YG.d k aB aA aC aI aF) n (YG.s0 aH aJ aK aL aM v)
theorem YG.l0_eq (k : Nat) (aB : ByteArray) (aA aC : Int) (aI aF : List (List D)) (aH : ByteArray) (aJ aK : Int) (aL aM : List (List D)) : ∀ n v, YG.r0 k aB aA aC aI aF aH aJ aK aL aM n v = Zo (YG.l0 k aH aJ aK aL aM (fun z0 => some z0)) n v :=
  Zm (YG.s0 aH aJ aK aL aM) _ fun L0 v => by kernel_rfl
theorem YG.ok (k : Nat) : Za Try.prog 213 (YG.e k) := Zh (YG.p k) mix tyok Try.func213 (Yl.ok k) (by kernel_rfl) (fun aB aA aC aI aF => Eq.trans (b := YG.m k aB aA aC aI aF (fun z0 => some z0) (fun aH aJ aK aL aM => YG.r0 k aB aA aC aI aF aH aJ aK aL aM k)) (by kernel_rfl) (congrArg (YG.m k aB aA aC aI aF (fun z0 => some z0)) (funext fun aH => funext fun aJ => funext fun aK => funext fun aL => funext fun aM => funext fun v => YG.l0_eq k aB aA aC aI aF aH aJ aK aL aM k v) :))
noncomputable def YP.l0 {β : Type} (k : Nat) (aD : List (List D)) (aH aJ : Int) (K : (List (List C)) → Option β) (L0 : (Bool × Int × (List (List C))) → Option β) (v : Bool × Int × (List (List C))) : Option β :=
  match v with
  | (aK, aL, aM) => let J0 := (aM.length + ([[.d (.int .i64 aH), .d (.int .i64 aJ)]] : List (List C)).length ≤ ZN); let J1 := (aM ++ ([[.d (.int .i64 aH), .d (.int .i64 aJ)]] : List (List C))); bif (decide ((aL : Int) < (aD.length : Int))) then (bif (!aK) then (atR aD aL [.n, .n] fun x53 x56 => (bif (decide ((x53 : Int) ≥ aH)) then (Zc J0 (atR aD aL [.n, .n] fun x60 x63 => (bif ((x60 : Int) != aH) then (atR aD aL [.n, .n] fun x67 x70 => (Zc (J1.length + ([[.d (.int .i64 x67), .d (.int .i64 x70)]] : List (List C)).length ≤ ZN) (L0 (true, IntKind.wrap .i64 (aL + 1), J1 ++ ([[.d (.int .i64 x67), .d (.int .i64 x70)]] : List (List C)))))) else (L0 (true, IntKind.wrap .i64 (aL + 1), aM ++ ([[.d (.int .i64 aH), .d (.int .i64 aJ)]] : List (List C))))))) else (atR aD aL [.n, .n] fun x74 x77 => (bif ((x74 : Int) != aH) then (atR aD aL [.n, .n] fun x81 x84 => (Zc (aM.length + ([[.d (.int .i64 x81), .d (.int .i64 x84)]] : List (List C)).length ≤ ZN) (L0 (aK, IntKind.wrap .i64 (aL + 1), aM ++ ([[.d (.int .i64 x81), .d (.int .i64 x84)]] : List (List C)))))) else (L0 (aK, IntKind.wrap .i64 (aL + 1), aM)))))) else (atR aD aL [.n, .n] fun x88 x91 => (bif ((x88 : Int) != aH) then (atR aD aL [.n, .n] fun x95 x98 => (Zc (aM.length + ([[.d (.int .i64 x95), .d (.int .i64 x98)]] : List (List C)).length ≤ ZN) (L0 (aK, IntKind.wrap .i64 (aL + 1), aM ++ ([[.d (.int .i64 x95), .d (.int .i64 x98)]] : List (List C)))))) else (L0 (aK, IntKind.wrap .i64 (aL + 1), aM))))) else (bif (!aK) then (Zc J0 (K J1)) else (K aM))
noncomputable def YP.m {β : Type} (k : Nat) (a0 : List (List D)) (a1 a2 : Int) (K : (List (List C)) → Option β) (F : ((List (List D)) → Int → Int → (Bool × Int × (List (List C))) → Option β)) : Option β :=
  F a0 a1 a2 (((a2 : Int) == 0), 0, ([] : List (List C)))
noncomputable def YP.g {β : Type} (k : Nat) (a0 : List (List D)) (a1 a2 : Int) (K : (List (List C)) → Option β) : Option β :=
  Zo (YP.l0 k a0 a1 a2 K) k (((a2 : Int) == 0), 0, ([] : List (List C)))
noncomputable def YP.t (k : Nat) (a0 : List (List D)) (a1 a2 : Int) : Option ((List (List C))) := YP.g k a0 a1 a2 (fun z0 => some z0)
noncomputable def YP.f {β : Type} (k : Nat) (a0 : List (List D)) (a1 a2 : Int) (K : (List (List C)) → Option β) : Option β := bd1 (YP.t k a0 a1 a2) K
noncomputable def YP.e (k : Nat) : Zk := ent [.d .l, .d .n, .d .n] [1] [.o] [55] false (YP.t k)
noncomputable def YP.p (k : Nat) : Pro := ⟨Try.prog, [], Zn [(4, kp [0, 1, 2, 7, 8, 9])] false [], k⟩
noncomputable def YP.d (k : Nat) (a0 : List (List D)) (a1 a2 : Int) : Ex → St → Option ((List (List C))) := (YP.p k).fin Try.f214 [.d (.sl a0), .d (.int .i64 a1), .d (.int .i64 a2)] [1] [.o]
noncomputable def YP.s0 (aD : List (List D)) (aH aJ : Int) (v : Bool × Int × (List (List C))) : St :=
  match v with
  | (aK, aL, aM) => ZX 59 [(0, .d false (.sl aD)), (1, .d false (.int .i64 aH)), (2, .d false (.int .i64 aJ)), (7, .row 0), (8, .d true (.bool aK)), (9, .d true (.int .i64 aL))] [.row none true 55 aM]
noncomputable def YP.r0 (k : Nat) (a0 : List (List D)) (a1 a2 : Int) (aD : List (List D)) (aH aJ : Int) (n : Nat) (v : Bool × Int × (List (List C))) : Option ((List (List C))) := (YP.p k).lp (Zt Try.f214) 4 [1, 1, 1, 0, 1, 0] (YP.d k a0 a1 a2) n (YP.s0 aD aH aJ v)
theorem YP.l0_eq (k : Nat) (a0 : List (List D)) (a1 a2 : Int) (aD : List (List D)) (aH aJ : Int) : ∀ n v, YP.r0 k a0 a1 a2 aD aH aJ n v = Zo (YP.l0 k aD aH aJ (fun z0 => some z0)) n v :=
  Zm (YP.s0 aD aH aJ) _ fun L0 v => by obtain ⟨aK, aL, aM⟩ := v; kernel_rfl
theorem YP.ok (k : Nat) : Za Try.prog 214 (YP.e k) := Zh (YP.p k) mix tyok Try.func214 trivial (by kernel_rfl) (fun a0 a1 a2 => Eq.trans (b := YP.m k a0 a1 a2 (fun z0 => some z0) (fun aD aH aJ => YP.r0 k a0 a1 a2 aD aH aJ k)) (by kernel_rfl) (congrArg (YP.m k a0 a1 a2 (fun z0 => some z0)) (funext fun aD => funext fun aH => funext fun aJ => funext fun v => YP.l0_eq k a0 a1 a2 aD aH aJ k v) :))
noncomputable def YR.l0 {β : Type} (k : Nat) (aD : List (List D)) (aH : Int) (K : Int → Bool → Option β) (L0 : Int → Option β) (v : Int) : Option β :=
  match v with
  | aJ => bif (decide ((aJ : Int) < (aD.length : Int))) then (atR aD aJ [.n, .n] fun x18 x21 => (bif ((x18 : Int) == aH) then (atR aD aJ [.n, .n] fun x25 x28 => (K x28 true)) else (L0 (IntKind.wrap .i64 (aJ + 1))))) else (K 0 false)
noncomputable def YR.m {β : Type} (k : Nat) (a0 : List (List D)) (a1 : Int) (K : Int → Bool → Option β) (F : ((List (List D)) → Int → Int → Option β)) : Option β :=
  F a0 a1 (0)
noncomputable def YR.g {β : Type} (k : Nat) (a0 : List (List D)) (a1 : Int) (K : Int → Bool → Option β) : Option β :=
  Zo (YR.l0 k a0 a1 K) k (0)
noncomputable def YR.t (k : Nat) (a0 : List (List D)) (a1 : Int) : Option (Int × Bool) := YR.g k a0 a1 (fun z0 z1 => some (z0, z1))
noncomputable def YR.f {β : Type} (k : Nat) (a0 : List (List D)) (a1 : Int) (K : Int → Bool → Option β) : Option β := bd2 (YR.t k a0 a1) K
noncomputable def YR.e (k : Nat) : Zk := ent [.d .l, .d .n] [1, 1] [.n, .b] [3, 4] false (YR.t k)
noncomputable def YR.p (k : Nat) : Pro := ⟨Try.prog, [], Zn [(2, kp [0, 1, 6])] false [], k⟩
noncomputable def YR.d (k : Nat) (a0 : List (List D)) (a1 : Int) : Ex → St → Option (Int × Bool) := (YR.p k).fin Try.f215 [.d (.sl a0), .d (.int .i64 a1)] [1, 1] [.n, .b]
noncomputable def YR.s0 (aD : List (List D)) (aH v : Int) : St :=
  match v with
  | aJ => ZX 25 [(0, .d false (.sl aD)), (1, .d false (.int .i64 aH)), (6, .d true (.int .i64 aJ))] []
noncomputable def YR.r0 (k : Nat) (a0 : List (List D)) (a1 : Int) (aD : List (List D)) (aH : Int) (n : Nat) (v : Int) : Option (Int × Bool) := (YR.p k).lp (Zt Try.f215) 2 [1, 0, 1, 0] (YR.d k a0 a1) n (YR.s0 aD aH v)
theorem YR.l0_eq (k : Nat) (a0 : List (List D)) (a1 : Int) (aD : List (List D)) (aH : Int) : ∀ n v, YR.r0 k a0 a1 aD aH n v = Zo (YR.l0 k aD aH (fun z0 z1 => some (z0, z1))) n v :=
  Zm (YR.s0 aD aH) _ fun L0 v => by kernel_rfl
theorem YR.ok (k : Nat) : Za Try.prog 215 (YR.e k) := Zh (YR.p k) mix tyok Try.func215 trivial (by kernel_rfl) (fun a0 a1 => Eq.trans (b := YR.m k a0 a1 (fun z0 z1 => some (z0, z1)) (fun aD aH => YR.r0 k a0 a1 aD aH k)) (by kernel_rfl) (congrArg (YR.m k a0 a1 (fun z0 z1 => some (z0, z1))) (funext fun aD => funext fun aH => funext fun v => YR.l0_eq k a0 a1 aD aH k v) :))
noncomputable def YX.l0 {β : Type} (k : Nat) (aH : ByteArray) (aJ aK : Int) (aL aM : List (List D)) (aN : ByteArray) (aO aQ : Int) (aP : ByteArray) (aR aT : Int) (bC bD : List (List C)) (K : ByteArray → Int → Int → (List (List C)) → (List (List C)) → Int → Int → Option β) (L0 : Int → Option β) (v : Int) : Option β :=
  match v with
  | aD => bif (decide ((aD : Int) < (aL.length : Int))) then (Yk.f k aM (fun y220 => bif (decide ((y220 : Int) < aJ)) then (atR aL aD [.n, .n, .n, .s, .n, .l, .l] fun x224 x227 x230 x233 x236 x239 x242 => (YR.f k aM x224 (fun y243 y244 => atR aL aD [.n, .n, .n, .s, .n, .l, .l] fun x248 x251 x254 x257 x260 x263 x266 => (bif (decide ((y243 : Int) < x251)) then (atR aL aD [.n, .n, .n, .s, .n, .l, .l] fun x270 x273 x276 x279 x282 x285 x288 => (YP.f k aM x270 (IntKind.wrap .i64 (y243 + 1)) (fun y289 => atR aL aD [.n, .n, .n, .s, .n, .l, .l] fun x293 x296 x299 x302 x305 x308 x311 => (K aP aR aT bC y289 x293 1)))) else (L0 (IntKind.wrap .i64 (aD + 1))))))) else (K aP aR aT bC bD 0 0))) else (K aP aR aT bC bD 0 0)
noncomputable def YX.m {β : Type} (k : Nat) (aB : ByteArray) (aA aC : Int) (aI aF : List (List D)) (K : ByteArray → Int → Int → (List (List C)) → (List (List C)) → Int → Int → Option β) (F : (ByteArray → Int → Int → (List (List D)) → (List (List D)) → ByteArray → Int → Int → ByteArray → Int → Int → (List (List C)) → (List (List C)) → Int → Option β)) : Option β :=
  Y7.f k aB aA aC aI aF (fun y1 y2 y3 y4 y5 => Yx.f k aB aA aC aI aF (fun y6 => bif (!y6) then (K y1 y2 y3 y4 y5 0 0) else (YG.f k aB aA aC aI aF (fun y105 => bif (decide ((y105 : Int) ≥ 0)) then (atR aF y105 [.n, .n] fun x109 x112 => (atR aF y105 [.n, .n] fun x116 x119 => (YP.f k aF x109 (IntKind.wrap .i64 (x119 - 1)) (fun y120 => atR aF y105 [.n, .n] fun x124 x127 => (K y1 y2 y3 y4 y120 x124 (-1)))))) else (F aB aA aC aI aF (⟨#[]⟩ : ByteArray) 0 0 y1 y2 y3 y4 y5 (0))))))
noncomputable def YX.g {β : Type} (k : Nat) (aB : ByteArray) (aA aC : Int) (aI aF : List (List D)) (K : ByteArray → Int → Int → (List (List C)) → (List (List C)) → Int → Int → Option β) : Option β := YX.m k aB aA aC aI aF K (fun aH aJ aK aL aM aN aO aQ aP aR aT bC bD => Zo (YX.l0 k aH aJ aK aL aM aN aO aQ aP aR aT bC bD K) k)
noncomputable def YX.t (k : Nat) (aB : ByteArray) (aA aC : Int) (aI aF : List (List D)) : Option (ByteArray × Int × Int × (List (List C)) × (List (List C)) × Int × Int) := YX.g k aB aA aC aI aF (fun z0 z1 z2 z3 z4 z5 z6 => some (z0, z1, z2, z3, z4, z5, z6))
noncomputable def YX.f {β : Type} (k : Nat) (aB : ByteArray) (aA aC : Int) (aI aF : List (List D)) (K : ByteArray → Int → Int → (List (List C)) → (List (List C)) → Int → Int → Option β) : Option β := match YX.t k aB aA aC aI aF with | some (z0, z1, z2, z3, z4, z5, z6) => K z0 z1 z2 z3 z4 z5 z6 | none => none
noncomputable def YX.e (k : Nat) : Zk := ent [.agg [.s, .n, .n, .l, .l]] [5, 1, 1] [.s, .n, .n, .o, .o, .n, .n] [57, 3, 3] false (YX.t k)
noncomputable def YX.p (k : Nat) : Pro := ⟨Try.prog, [(121, Y7.e k), (122, Yx.e k), (213, YG.e k), (214, YP.e k), (187, Yk.e k), (215, YR.e k)], Zn [(9, kp [1, 2, 5, 7])] false [], k⟩
noncomputable def YX.d (k : Nat) (aB : ByteArray) (aA aC : Int) (aI aF : List (List D)) : Ex → St → Option (ByteArray × Int × Int × (List (List C)) × (List (List C)) × Int × Int) := (YX.p k).fin Try.f168 [.agg [.str aB, .int .i64 aA, .int .i64 aC, .sl aI, .sl aF]] [5, 1, 1] [.s, .n, .n, .o, .o, .n, .n]
noncomputable def YX.s0 (aH : ByteArray) (aJ aK : Int) (aL aM : List (List D)) (aN : ByteArray) (aO aQ : Int) (aP : ByteArray) (aR aT : Int) (bC bD : List (List C)) (v : Int) : St :=
  match v with
  | aD => ZX 99 [(1, .bp 0 0), (2, .bp 1 0), (5, .bp 2 0), (7, .d true (.int .i64 aD))] [.box none 57 [.d false (.str aH), .d false (.int .i64 aJ), .d false (.int .i64 aK), .d false (.sl aL), .d false (.sl aM)], .box none 57 [.d true (.str aN), .d true (.int .i64 aO), .d true (.int .i64 aQ), .nil, .nil], .box none 57 [.d true (.str aP), .d true (.int .i64 aR), .d true (.int .i64 aT), .row 3, .row 4], .row none true 54 bC, .row none true 55 bD]
noncomputable def YX.r0 (k : Nat) (aB : ByteArray) (aA aC : Int) (aI aF : List (List D)) (aH : ByteArray) (aJ aK : Int) (aL aM : List (List D)) (aN : ByteArray) (aO aQ : Int) (aP : ByteArray) (aR aT : Int) (bC bD : List (List C)) (n : Nat) (v : Int) : Option (ByteArray × Int × Int × (List (List C)) × (List (List C)) × Int × Int) := (YX.p k).lp (Zt Try.f168) 9 [1, 1, 1, 1, 0, 1, 0] (YX.d k aB aA aC aI aF) n (YX.s0 aH aJ aK aL aM aN aO aQ aP aR aT bC bD v)
theorem YX.l0_eq (k : Nat) (aB : ByteArray) (aA aC : Int) (aI aF : List (List D)) (aH : ByteArray) (aJ aK : Int) (aL aM : List (List D)) (aN : ByteArray) (aO aQ : Int) (aP : ByteArray) (aR aT : Int) (bC bD : List (List C)) : ∀ n v, YX.r0 k aB aA aC aI aF aH aJ aK aL aM aN aO aQ aP aR aT bC bD n v = Zo (YX.l0 k aH aJ aK aL aM aN aO aQ aP aR aT bC bD (fun z0 z1 z2 z3 z4 z5 z6 => some (z0, z1, z2, z3, z4, z5, z6))) n v :=
  Zm (YX.s0 aH aJ aK aL aM aN aO aQ aP aR aT bC bD) _ fun L0 v => by kernel_rfl
theorem YX.ok (k : Nat) : Za Try.prog 168 (YX.e k) := Zh (YX.p k) mix tyok Try.func168 ⟨Y7.ok k, Yx.ok k, YG.ok k, YP.ok k, Yk.ok k, YR.ok k⟩ (by kernel_rfl) (fun aB aA aC aI aF => Eq.trans (b := YX.m k aB aA aC aI aF (fun z0 z1 z2 z3 z4 z5 z6 => some (z0, z1, z2, z3, z4, z5, z6)) (fun aH aJ aK aL aM aN aO aQ aP aR aT bC bD => YX.r0 k aB aA aC aI aF aH aJ aK aL aM aN aO aQ aP aR aT bC bD k)) (by kernel_rfl) (congrArg (YX.m k aB aA aC aI aF (fun z0 z1 z2 z3 z4 z5 z6 => some (z0, z1, z2, z3, z4, z5, z6))) (funext fun aH => funext fun aJ => funext fun aK => funext fun aL => funext fun aM => funext fun aN => funext fun aO => funext fun aQ => funext fun aP => funext fun aR => funext fun aT => funext fun bC => funext fun bD => funext fun v => YX.l0_eq k aB aA aC aI aF aH aJ aK aL aM aN aO aQ aP aR aT bC bD k v) :))
noncomputable def Yo.l1 {β : Type} (k : Nat) (aV : Int) (bA : List (List D)) (aZ aW : Int) (aU : ByteArray) (aX aY : Int) (L0 : (Int × (List (List D)) × Int × Int × ByteArray × Int × Int × ByteArray × Int × Int × (List (List C)) × (List (List C))) → Option β) (K : ByteArray → Int → Int → (List (List C)) → (List (List C)) → (List (List D)) → Int → Int → Option β) (L1 : (Int × ByteArray × Int × Int × (List (List C)) × (List (List C))) → Option β) (v : Int × ByteArray × Int × Int × (List (List C)) × (List (List C))) : Option β :=
  match v with
  | (bB, bI, bJ, bK, bF, bW) => bif (decide ((bB : Int) > 0)) then (YX.f k bI bJ bK (C.immRows bF) (C.immRows bW) (fun y507 y508 y509 y510 y511 y512 y513 => L1 (IntKind.wrap .i64 (bB - 1), y507, y508, y509, y510, y511))) else (L0 (IntKind.wrap .i64 (aV - 1), bA, aZ, aW, aU, aX, aY, bI, bJ, bK, bF, bW))
noncomputable def Yo.m0 {β : Type} (k : Nat) (K : ByteArray → Int → Int → (List (List C)) → (List (List C)) → (List (List D)) → Int → Int → Option β) (L0 : (Int × (List (List D)) × Int × Int × ByteArray × Int × Int × ByteArray × Int × Int × (List (List C)) × (List (List C))) → Option β) (v : Int × (List (List D)) × Int × Int × ByteArray × Int × Int × ByteArray × Int × Int × (List (List C)) × (List (List C))) (F : (Int → (List (List D)) → Int → Int → ByteArray → Int → Int → (Int × ByteArray × Int × Int × (List (List C)) × (List (List C))) → Option β)) : Option β :=
  match v with
  | (aD, aH, aJ, aK, aL, aM, aN, aO, aQ, aP, aR, aT) => bif (decide ((aD : Int) > 0)) then (Yt.f k aH aJ aK 3 (fun y482 y483 y484 y485 => YF.f k y483 y484 y485 (fun y486 y487 y488 y489 => Yai.f k aO aQ aP (C.immRows aR) (C.immRows aT) (IntKind.wrap .i64 ((IntKind.wrap .i64 (aP + 1)) + y482)) (C.immRows y486) (fun y490 y491 y492 y493 y494 y495 => Yt.f k y487 y488 y489 9 (fun y496 y497 y498 y499 => F aD y497 y498 y499 aL aM aN (y496, y490, y491, y492, y493, y494)))))) else (K aO aQ aP aR aT aH aJ aK)
noncomputable def Yo.l0 {β : Type} (k : Nat) (K : ByteArray → Int → Int → (List (List C)) → (List (List C)) → (List (List D)) → Int → Int → Option β) (L0 : (Int × (List (List D)) × Int × Int × ByteArray × Int × Int × ByteArray × Int × Int × (List (List C)) × (List (List C))) → Option β) (v : Int × (List (List D)) × Int × Int × ByteArray × Int × Int × ByteArray × Int × Int × (List (List C)) × (List (List C))) : Option β := Yo.m0 k K L0 v (fun aV bA aZ aW aU aX aY => Zo (Yo.l1 k aV bA aZ aW aU aX aY L0 K) k)
noncomputable def Yo.m {β : Type} (k : Nat) (aB : List (List D)) (aA aC : Int) (K : ByteArray → Int → Int → (List (List C)) → (List (List C)) → (List (List D)) → Int → Int → Option β) (F : ((Int × (List (List D)) × Int × Int × ByteArray × Int × Int × ByteArray × Int × Int × (List (List C)) × (List (List C))) → Option β)) : Option β :=
  Yab.f k aB aA aC (fun y33 y34 y35 y36 => Yaa.f k y34 y35 y36 ([[.int .i64 0], [.int .i64 1], [.int .i64 3], [.int .i64 6], [.int .i64 20]] : List (List D)) (fun y37 y38 y39 y40 => Yah.f k y33 y37 (fun y41 y42 y43 y44 y45 y46 => Yt.f k y38 y39 y40 4 (fun y47 y48 y49 y50 => F (y47, y48, y49, y50, (⟨#[]⟩ : ByteArray), 0, 0, y41, y42, y43, y44, y45)))))
noncomputable def Yo.g {β : Type} (k : Nat) (aB : List (List D)) (aA aC : Int) (K : ByteArray → Int → Int → (List (List C)) → (List (List C)) → (List (List D)) → Int → Int → Option β) : Option β := Yo.m k aB aA aC K (Zo (Yo.l0 k K) k)
noncomputable def Yo.t (k : Nat) (aB : List (List D)) (aA aC : Int) : Option (ByteArray × Int × Int × (List (List C)) × (List (List C)) × (List (List D)) × Int × Int) := Yo.g k aB aA aC (fun z0 z1 z2 z3 z4 z5 z6 z7 => some (z0, z1, z2, z3, z4, z5, z6, z7))
noncomputable def Yo.f {β : Type} (k : Nat) (aB : List (List D)) (aA aC : Int) (K : ByteArray → Int → Int → (List (List C)) → (List (List C)) → (List (List D)) → Int → Int → Option β) : Option β := match Yo.t k aB aA aC with | some (z0, z1, z2, z3, z4, z5, z6, z7) => K z0 z1 z2 z3 z4 z5 z6 z7 | none => none
noncomputable def Yo.e (k : Nat) : Zk := ent [.box 178 [.l, .n, .n]] [5] [.s, .n, .n, .o, .o, .l, .n, .n] [57] false (Yo.t k)
noncomputable def Yo.p (k : Nat) : Pro := ⟨Try.prog, [(166, Yab.e k), (118, Yaa.e k), (165, Yah.e k), (112, Yt.e k), (167, YF.e k), (44, Yai.e k), (168, YX.e k)], Zn [(3, kp [0, 2, 3, 5]), (7, kp [0, 2, 3, 5, 6])] false [], k⟩
noncomputable def Yo.d (k : Nat) (aB : List (List D)) (aA aC : Int) : Ex → St → Option (ByteArray × Int × Int × (List (List C)) × (List (List C)) × (List (List D)) × Int × Int) := (Yo.p k).fin Try.f98 [.box [.d (.sl aB), .d (.int .i64 aA), .d (.int .i64 aC)]] [5] [.s, .n, .n, .o, .o, .l, .n, .n]
noncomputable def Yo.s0 (v : Int × (List (List D)) × Int × Int × ByteArray × Int × Int × ByteArray × Int × Int × (List (List C)) × (List (List C))) : St :=
  match v with
  | (aD, aH, aJ, aK, aL, aM, aN, aO, aQ, aP, aR, aT) => ZX 48 [(0, .bp 0 0), (2, .bp 1 0), (3, .bp 2 0), (5, .d true (.int .i64 aD))] [.box (some 0) 178 [.d false (.sl aH), .d false (.int .i64 aJ), .d false (.int .i64 aK)], .box none 57 [.d true (.str aL), .d true (.int .i64 aM), .d true (.int .i64 aN), .nil, .nil], .box none 57 [.d true (.str aO), .d true (.int .i64 aQ), .d true (.int .i64 aP), .row 3, .row 4], .row none true 54 aR, .row none true 55 aT]
noncomputable def Yo.c0 (k : Nat) (aB : List (List D)) (aA aC : Int) : Ex → St → Option (ByteArray × Int × Int × (List (List C)) × (List (List C)) × (List (List D)) × Int × Int) := (Yo.p k).ct (Zt Try.f98) [1, 1, 0, 1, 0] (Yo.d k aB aA aC)
noncomputable def Yo.r0 (k : Nat) (aB : List (List D)) (aA aC : Int) (n : Nat) (v : Int × (List (List D)) × Int × Int × ByteArray × Int × Int × ByteArray × Int × Int × (List (List C)) × (List (List C))) : Option (ByteArray × Int × Int × (List (List C)) × (List (List C)) × (List (List D)) × Int × Int) := (Yo.p k).lp (Zt Try.f98) 3 [1, 1, 0, 1, 0] (Yo.d k aB aA aC) n (Yo.s0 v)
noncomputable def Yo.s1 (aV : Int) (bA : List (List D)) (aZ aW : Int) (aU : ByteArray) (aX aY : Int) (v : Int × ByteArray × Int × Int × (List (List C)) × (List (List C))) : St :=
  match v with
  | (bB, bI, bJ, bK, bF, bW) => ZX 48 [(0, .bp 0 0), (2, .bp 1 0), (3, .bp 2 0), (5, .d true (.int .i64 aV)), (6, .d true (.int .i64 bB))] [.box (some 0) 178 [.d false (.sl bA), .d false (.int .i64 aZ), .d false (.int .i64 aW)], .box none 57 [.d true (.str aU), .d true (.int .i64 aX), .d true (.int .i64 aY), .nil, .nil], .box none 57 [.d true (.str bI), .d true (.int .i64 bJ), .d true (.int .i64 bK), .row 3, .row 4], .row none true 54 bF, .row none true 55 bW]
noncomputable def Yo.r1 (k : Nat) (aB : List (List D)) (aA aC aV : Int) (bA : List (List D)) (aZ aW : Int) (aU : ByteArray) (aX aY : Int) (L0 : St → Option (ByteArray × Int × Int × (List (List C)) × (List (List C)) × (List (List D)) × Int × Int)) (n : Nat) (v : Int × ByteArray × Int × Int × (List (List C)) × (List (List C))) : Option (ByteArray × Int × Int × (List (List C)) × (List (List C)) × (List (List D)) × Int × Int) := (Yo.p k).lp (codeAt [1, 1, 0, 1, 0, 0] (Zt Try.f98)) 7 [1, 0, 0, 1, 1, 0] (backK ((Yo.p k).h.H 3) L0 (Yo.c0 k aB aA aC)) n (Yo.s1 aV bA aZ aW aU aX aY v)
theorem Yo.l1_eq (k : Nat) (aB : List (List D)) (aA aC aV : Int) (bA : List (List D)) (aZ aW : Int) (aU : ByteArray) (aX aY : Int) (L0 : St → Option (ByteArray × Int × Int × (List (List C)) × (List (List C)) × (List (List D)) × Int × Int)) : ∀ n v, Yo.r1 k aB aA aC aV bA aZ aW aU aX aY L0 n v = Zo (Yo.l1 k aV bA aZ aW aU aX aY (fun v => L0 (Yo.s0 v)) (fun z0 z1 z2 z3 z4 z5 z6 z7 => some (z0, z1, z2, z3, z4, z5, z6, z7))) n v :=
  Zm (Yo.s1 aV bA aZ aW aU aX aY) _ fun L1 v => by obtain ⟨bB, bI, bJ, bK, bF, bW⟩ := v; kernel_rfl
theorem Yo.l0_eq (k : Nat) (aB : List (List D)) (aA aC : Int) : ∀ n v, Yo.r0 k aB aA aC n v = Zo (Yo.l0 k (fun z0 z1 z2 z3 z4 z5 z6 z7 => some (z0, z1, z2, z3, z4, z5, z6, z7))) n v :=
  Zm (Yo.s0) _ fun L0 v => by obtain ⟨aD, aH, aJ, aK, aL, aM, aN, aO, aQ, aP, aR, aT⟩ := v; exact Eq.trans (b := Yo.m0 k (fun z0 z1 z2 z3 z4 z5 z6 z7 => some (z0, z1, z2, z3, z4, z5, z6, z7)) (fun v => L0 (Yo.s0 v)) (aD, aH, aJ, aK, aL, aM, aN, aO, aQ, aP, aR, aT) (fun aV bA aZ aW aU aX aY => Yo.r1 k aB aA aC aV bA aZ aW aU aX aY L0 k)) (by kernel_rfl) (congrArg (Yo.m0 k (fun z0 z1 z2 z3 z4 z5 z6 z7 => some (z0, z1, z2, z3, z4, z5, z6, z7)) (fun v => L0 (Yo.s0 v)) (aD, aH, aJ, aK, aL, aM, aN, aO, aQ, aP, aR, aT)) (funext fun aV => funext fun bA => funext fun aZ => funext fun aW => funext fun aU => funext fun aX => funext fun aY => funext fun v => Yo.l1_eq k aB aA aC aV bA aZ aW aU aX aY L0 k v))
theorem Yo.ok (k : Nat) : Za Try.prog 98 (Yo.e k) := Zh (Yo.p k) mix tyok Try.func98 ⟨Yab.ok k, Yaa.ok k, Yah.ok k, Yt.ok k, YF.ok k, Yai.ok k, YX.ok k⟩ (by kernel_rfl) (fun aB aA aC => Eq.trans (b := Yo.m k aB aA aC (fun z0 z1 z2 z3 z4 z5 z6 z7 => some (z0, z1, z2, z3, z4, z5, z6, z7)) (Yo.r0 k aB aA aC k)) (by kernel_rfl) (congrArg (Yo.m k aB aA aC (fun z0 z1 z2 z3 z4 z5 z6 z7 => some (z0, z1, z2, z3, z4, z5, z6, z7))) (funext fun v => Yo.l0_eq k aB aA aC k v) :))
noncomputable def Y3.g {β : Type} (k : Nat) (a0 : List (List D)) (K : ByteArray → Int → Int → (List (List C)) → (List (List C)) → Option β) : Option β :=
  YU.f k a0 (fun y9 y10 y11 => Yo.f k y9 y10 y11 (fun y514 y515 y516 y517 y518 y519 y520 y521 => K y514 y515 y516 y517 y518))
noncomputable def Y3.t (k : Nat) (a0 : List (List D)) : Option (ByteArray × Int × Int × (List (List C)) × (List (List C))) := Y3.g k a0 (fun z0 z1 z2 z3 z4 => some (z0, z1, z2, z3, z4))
noncomputable def Y3.f {β : Type} (k : Nat) (a0 : List (List D)) (K : ByteArray → Int → Int → (List (List C)) → (List (List C)) → Option β) : Option β := bd5 (Y3.t k a0) K
noncomputable def Y3.e (k : Nat) : Zk := ent [.d .l] [5] [.s, .n, .n, .o, .o] [57] false (Y3.t k)
noncomputable def Y3.p (k : Nat) : Pro := ⟨Try.prog, [(58, YU.e k), (98, Yo.e k)], Zn [] false [], k⟩
theorem Y3.ok (k : Nat) : Za Try.prog 32 (Y3.e k) := Zh (Y3.p k) mix tyok Try.func32 ⟨YU.ok k, Yo.ok k⟩ (by kernel_rfl) (fun a0 => by show _ = _; kernel_rfl)
noncomputable def YS.g {β : Type} (k : Nat) (a0 a1 a2 : Int) (K : Bool → Option β) : Option β :=
  bif (decide ((a0 : Int) ≥ a1)) then (K (decide ((a0 : Int) ≤ a2))) else (K false)
noncomputable def YS.t (k : Nat) (a0 a1 a2 : Int) : Option (Bool) := YS.g k a0 a1 a2 (fun z0 => some z0)
noncomputable def YS.f {β : Type} (k : Nat) (a0 a1 a2 : Int) (K : Bool → Option β) : Option β := bd1 (YS.t k a0 a1 a2) K
noncomputable def YS.e (k : Nat) : Zk := ent [.d .n, .d .n, .d .n] [1] [.b] [4] false (YS.t k)
noncomputable def YS.p (k : Nat) : Pro := ⟨Try.prog, [], Zn [] false [], k⟩
theorem YS.ok (k : Nat) : Za Try.prog 71 (YS.e k) := Zh (YS.p k) mix tyok Try.func71 trivial (by kernel_rfl) (fun a0 a1 a2 => by show _ = _; kernel_rfl)
noncomputable def YN.l0 {β : Type} (k : Nat) (aD : ByteArray) (aH : Int) (K : Bool → Option β) (L0 : Int → Option β) (v : Int) : Option β :=
  match v with
  | aJ => bif (decide ((aJ : Int) < aH)) then (Za0 aD aJ fun b5 => let J1 := (bif ((b5 : Int) != 45) then (K false) else (L0 (IntKind.wrap .i64 (aJ + 1)))); let J0 := (bif (decide ((b5 : Int) < 48)) then J1 else (bif (decide ((b5 : Int) > 57)) then J1 else (L0 (IntKind.wrap .i64 (aJ + 1))))); bif (decide ((b5 : Int) < 97)) then J0 else (bif (decide ((b5 : Int) > 122)) then J0 else (L0 (IntKind.wrap .i64 (aJ + 1))))) else (YS.f k (aD.size : Int) 1 20 (fun y6 => bif y6 then (Za0 aD 0 fun b7 => bif ((b7 : Int) != 45) then (Za0 aD (IntKind.wrap .i64 ((aD.size : Int) - 1)) fun b8 => K ((b8 : Int) != 45)) else (K false)) else (K false)))
noncomputable def YN.m {β : Type} (k : Nat) (a0 : ByteArray) (K : Bool → Option β) (F : (ByteArray → Int → Int → Option β)) : Option β :=
  F a0 (a0.size : Int) (0)
noncomputable def YN.g {β : Type} (k : Nat) (a0 : ByteArray) (K : Bool → Option β) : Option β :=
  Zo (YN.l0 k a0 (a0.size : Int) K) k (0)
noncomputable def YN.t (k : Nat) (a0 : ByteArray) : Option (Bool) := YN.g k a0 (fun z0 => some z0)
noncomputable def YN.f {β : Type} (k : Nat) (a0 : ByteArray) (K : Bool → Option β) : Option β := bd1 (YN.t k a0) K
noncomputable def YN.e (k : Nat) : Zk := ent [.d .s] [1] [.b] [4] false (YN.t k)
noncomputable def YN.p (k : Nat) : Pro := ⟨Try.prog, [(71, YS.e k)], Zn [(2, kp [0, 6, 7])] false [], k⟩
noncomputable def YN.d (k : Nat) (a0 : ByteArray) : Ex → St → Option (Bool) := (YN.p k).fin Try.f73 [.d (.str a0)] [1] [.b]
noncomputable def YN.s0 (aD : ByteArray) (aH v : Int) : St :=
  match v with
  | aJ => ZX 48 [(0, .d false (.str aD)), (6, .d true (.int .i64 aH)), (7, .d true (.int .i64 aJ))] []
noncomputable def YN.r0 (k : Nat) (a0 aD : ByteArray) (aH : Int) (n : Nat) (v : Int) : Option (Bool) := (YN.p k).lp (Zt Try.f73) 2 [1, 0, 1, 0] (YN.d k a0) n (YN.s0 aD aH v)
theorem YN.l0_eq (k : Nat) (a0 aD : ByteArray) (aH : Int) : ∀ n v, YN.r0 k a0 aD aH n v = Zo (YN.l0 k aD aH (fun z0 => some z0)) n v :=
  Zm (YN.s0 aD aH) _ fun L0 v => by kernel_rfl
theorem YN.ok (k : Nat) : Za Try.prog 73 (YN.e k) := Zh (YN.p k) mix tyok Try.func73 (YS.ok k) (by kernel_rfl) (fun a0 => Eq.trans (b := YN.m k a0 (fun z0 => some z0) (fun aD aH => YN.r0 k a0 aD aH k)) (by kernel_rfl) (congrArg (YN.m k a0 (fun z0 => some z0)) (funext fun aD => funext fun aH => funext fun v => YN.l0_eq k a0 aD aH k v) :))
noncomputable def YY.g {β : Type} (k : Nat) (a0 : Int) (K : Bool → Option β) : Option β :=
  YS.f k a0 0 10000 (fun y1 => K y1)
noncomputable def YY.t (k : Nat) (a0 : Int) : Option (Bool) := YY.g k a0 (fun z0 => some z0)
noncomputable def YY.f {β : Type} (k : Nat) (a0 : Int) (K : Bool → Option β) : Option β := bd1 (YY.t k a0) K
noncomputable def YY.e (k : Nat) : Zk := ent [.d .n] [1] [.b] [4] false (YY.t k)
noncomputable def YY.p (k : Nat) : Pro := ⟨Try.prog, [(71, YS.e k)], Zn [] false [], k⟩
theorem YY.ok (k : Nat) : Za Try.prog 88 (YY.e k) := Zh (YY.p k) mix tyok Try.func88 (YS.ok k) (by kernel_rfl) (fun a0 => by show _ = _; kernel_rfl)
noncomputable def YH.l0 {β : Type} (k : Nat) (aD : List (List D)) (aH : Int) (aJ : List (List D)) (aK : Int) (K : Bool → Option β) (L0 : Int → Option β) (v : Int) : Option β :=
  match v with
  | aL => bif (decide ((aL : Int) < aK)) then (atR aJ aL [.s] fun x13 => (YN.f k x13 (fun y14 => bif (!y14) then (K false) else (bif (decide ((aL : Int) > 0)) then (atR aD (IntKind.wrap .i64 (aL - 1)) [.s] fun x18 => (bif (!(ZbO x18 x13)) then (K false) else (L0 (IntKind.wrap .i64 (aL + 1))))) else (L0 (IntKind.wrap .i64 (aL + 1))))))) else (K (decide (((aD.length : Int) : Int) ≤ aH)))
noncomputable def YH.m {β : Type} (k : Nat) (a0 : List (List D)) (a1 : Int) (K : Bool → Option β) (F : ((List (List D)) → Int → (List (List D)) → Int → Int → Option β)) : Option β :=
  F a0 a1 a0 (a0.length : Int) (0)
noncomputable def YH.g {β : Type} (k : Nat) (a0 : List (List D)) (a1 : Int) (K : Bool → Option β) : Option β :=
  Zo (YH.l0 k a0 a1 a0 (a0.length : Int) K) k (0)
noncomputable def YH.t (k : Nat) (a0 : List (List D)) (a1 : Int) : Option (Bool) := YH.g k a0 a1 (fun z0 => some z0)
noncomputable def YH.f {β : Type} (k : Nat) (a0 : List (List D)) (a1 : Int) (K : Bool → Option β) : Option β := bd1 (YH.t k a0 a1) K
noncomputable def YH.e (k : Nat) : Zk := ent [.d .l, .d .n] [1] [.b] [4] false (YH.t k)
noncomputable def YH.p (k : Nat) : Pro := ⟨Try.prog, [(73, YN.e k)], Zn [(2, kp [0, 1, 7, 8, 9])] false [], k⟩
noncomputable def YH.d (k : Nat) (a0 : List (List D)) (a1 : Int) : Ex → St → Option (Bool) := (YH.p k).fin Try.f90 [.d (.sl a0), .d (.int .i64 a1)] [1] [.b]
noncomputable def YH.s0 (aD : List (List D)) (aH : Int) (aJ : List (List D)) (aK v : Int) : St :=
  match v with
  | aL => ZX 35 [(0, .d false (.sl aD)), (1, .d false (.int .i64 aH)), (7, .d false (.sl aJ)), (8, .d true (.int .i64 aK)), (9, .d true (.int .i64 aL))] []
noncomputable def YH.r0 (k : Nat) (a0 : List (List D)) (a1 : Int) (aD : List (List D)) (aH : Int) (aJ : List (List D)) (aK : Int) (n : Nat) (v : Int) : Option (Bool) := (YH.p k).lp (Zt Try.f90) 2 [1, 0, 1, 0] (YH.d k a0 a1) n (YH.s0 aD aH aJ aK v)
theorem YH.l0_eq (k : Nat) (a0 : List (List D)) (a1 : Int) (aD : List (List D)) (aH : Int) (aJ : List (List D)) (aK : Int) : ∀ n v, YH.r0 k a0 a1 aD aH aJ aK n v = Zo (YH.l0 k aD aH aJ aK (fun z0 => some z0)) n v :=
  Zm (YH.s0 aD aH aJ aK) _ fun L0 v => by kernel_rfl
theorem YH.ok (k : Nat) : Za Try.prog 90 (YH.e k) := Zh (YH.p k) mix tyok Try.func90 (YN.ok k) (by kernel_rfl) (fun a0 a1 => Eq.trans (b := YH.m k a0 a1 (fun z0 => some z0) (fun aD aH aJ aK => YH.r0 k a0 a1 aD aH aJ aK k)) (by kernel_rfl) (congrArg (YH.m k a0 a1 (fun z0 => some z0)) (funext fun aD => funext fun aH => funext fun aJ => funext fun aK => funext fun v => YH.l0_eq k a0 a1 aD aH aJ aK k v) :))
noncomputable def YD.l0 {β : Type} (k : Nat) (aD aH aJ : Bool) (aK aM : Int) (aN : ByteArray) (aO : Int) (aQ aP : List (List D)) (K : Bool → Option β) (L0 : Int → Option β) (v : Int) : Option β :=
  match v with
  | aL => bif (decide ((aL : Int) < aK)) then (Za0 aN aL fun b3 => YS.f k (IntKind.wrap .i64 b3) 32 126 (fun y4 => bif (!y4) then (K false) else (L0 (IntKind.wrap .i64 (aL + 1))))) else (bif (decide (((aN.size : Int) : Int) ≤ 100)) then (bif aD then (bif aH then (K aJ) else (K false)) else (K false)) else (K false))
noncomputable def YD.m {β : Type} (k : Nat) (aB : Int) (aA : ByteArray) (aC : Int) (aI aF : List (List D)) (K : Bool → Option β) (F : (Bool → Bool → Bool → Int → Int → ByteArray → Int → (List (List D)) → (List (List D)) → Int → Option β)) : Option β :=
  bif ((aB : Int) == 1) then (F ((aC : Int) == 0) (((aI.length : Int) : Int) == 0) (((aF.length : Int) : Int) == 0) (aA.size : Int) aB aA aC aI aF (0)) else (let J0 := (bif (((aI.length : Int) : Int) == 0) then (K (((aF.length : Int) : Int) == 0)) else (K false)); bif ((aB : Int) == 2) then (bif (Zae aA (⟨#[]⟩ : ByteArray)) then J0 else (K false)) else (bif ((aB : Int) == 3) then (YS.f k aC 0 1 (fun y5 => bif (Zae aA (⟨#[]⟩ : ByteArray)) then (bif y5 then J0 else (K false)) else (K false))) else (bif ((aB : Int) == 4) then (bif (Zae aA (⟨#[]⟩ : ByteArray)) then (bif ((aC : Int) == 0) then (bif (((aI.length : Int) : Int) == 0) then (K true) else (K false)) else (K false)) else (K false)) else (bif ((aB : Int) == 5) then (YH.f k aI 300 (fun y19 => bif y19 then (bif (Zae aA (⟨#[]⟩ : ByteArray)) then (bif ((aC : Int) == 0) then (bif (((aI.length : Int) : Int) == (aF.length : Int)) then (K true) else (K false)) else (K false)) else (K false)) else (bif (Zae aA (⟨#[]⟩ : ByteArray)) then (bif ((aC : Int) == 0) then (K false) else (K false)) else (K false)))) else (K false)))))
noncomputable def YD.g {β : Type} (k : Nat) (aB : Int) (aA : ByteArray) (aC : Int) (aI aF : List (List D)) (K : Bool → Option β) : Option β := YD.m k aB aA aC aI aF K (fun aD aH aJ aK aM aN aO aQ aP => Zo (YD.l0 k aD aH aJ aK aM aN aO aQ aP K) k)
noncomputable def YD.t (k : Nat) (aB : Int) (aA : ByteArray) (aC : Int) (aI aF : List (List D)) : Option (Bool) := YD.g k aB aA aC aI aF (fun z0 => some z0)
noncomputable def YD.f {β : Type} (k : Nat) (aB : Int) (aA : ByteArray) (aC : Int) (aI aF : List (List D)) (K : Bool → Option β) : Option β := bd1 (YD.t k aB aA aC aI aF) K
noncomputable def YD.e (k : Nat) : Zk := ent [.agg [.n, .s, .n, .l, .l]] [1] [.b] [4] false (YD.t k)
noncomputable def YD.p (k : Nat) : Pro := ⟨Try.prog, [(71, YS.e k), (90, YH.e k)], Zn [(6, kp [1, 4, 5, 6, 28, 29])] false [], k⟩
noncomputable def YD.d (k : Nat) (aB : Int) (aA : ByteArray) (aC : Int) (aI aF : List (List D)) : Ex → St → Option (Bool) := (YD.p k).fin Try.f247 [.agg [.int .i64 aB, .str aA, .int .i64 aC, .sl aI, .sl aF]] [1] [.b]
noncomputable def YD.s0 (aD aH aJ : Bool) (aK aM : Int) (aN : ByteArray) (aO : Int) (aQ aP : List (List D)) (v : Int) : St :=
  match v with
  | aL => ZX 77 [(1, .bp 0 0), (4, .d true (.bool aD)), (5, .d true (.bool aH)), (6, .d true (.bool aJ)), (28, .d true (.int .i64 aK)), (29, .d true (.int .i64 aL))] [.box none 66 [.d false (.int .i64 aM), .d false (.str aN), .d false (.int .i64 aO), .d false (.sl aQ), .d false (.sl aP)]]
noncomputable def YD.r0 (k : Nat) (aB : Int) (aA : ByteArray) (aC : Int) (aI aF : List (List D)) (aD aH aJ : Bool) (aK aM : Int) (aN : ByteArray) (aO : Int) (aQ aP : List (List D)) (n : Nat) (v : Int) : Option (Bool) := (YD.p k).lp (Zt Try.f247) 6 [1, 1, 0, 1, 0, 1, 0, 0, 1, 0] (YD.d k aB aA aC aI aF) n (YD.s0 aD aH aJ aK aM aN aO aQ aP v)
theorem YD.l0_eq (k : Nat) (aB : Int) (aA : ByteArray) (aC : Int) (aI aF : List (List D)) (aD aH aJ : Bool) (aK aM : Int) (aN : ByteArray) (aO : Int) (aQ aP : List (List D)) : ∀ n v, YD.r0 k aB aA aC aI aF aD aH aJ aK aM aN aO aQ aP n v = Zo (YD.l0 k aD aH aJ aK aM aN aO aQ aP (fun z0 => some z0)) n v :=
  Zm (YD.s0 aD aH aJ aK aM aN aO aQ aP) _ fun L0 v => by kernel_rfl
theorem YD.ok (k : Nat) : Za Try.prog 247 (YD.e k) := Zh (YD.p k) mix tyok Try.func247 ⟨YS.ok k, YH.ok k⟩ (by kernel_rfl) (fun aB aA aC aI aF => Eq.trans (b := YD.m k aB aA aC aI aF (fun z0 => some z0) (fun aD aH aJ aK aM aN aO aQ aP => YD.r0 k aB aA aC aI aF aD aH aJ aK aM aN aO aQ aP k)) (by kernel_rfl) (congrArg (YD.m k aB aA aC aI aF (fun z0 => some z0)) (funext fun aD => funext fun aH => funext fun aJ => funext fun aK => funext fun aM => funext fun aN => funext fun aO => funext fun aQ => funext fun aP => funext fun v => YD.l0_eq k aB aA aC aI aF aD aH aJ aK aM aN aO aQ aP k v) :))
noncomputable def Yn.l0 {β : Type} (k : Nat) (r_impl_measured : Int → ByteArray → Int → (List (List D)) → (List (List D)) → Int → (Int → Option β) → Option β) (aD : Int) (aJ : List (List D)) (aK : Int) (K : Int → Option β) (L0 : (Int × Int) → Option β) (v : Int × Int) : Option β :=
  match v with
  | (aH, aL) => bif (decide ((aL : Int) < aK)) then (atR aJ aL [.n, .s, .n, .l, .l] fun x41 x44 x47 x50 x53 => (r_impl_measured x41 x44 x47 x50 x53 (IntKind.wrap .i64 (aD - 1)) (fun y54 => bif (decide (((IntKind.wrap .i64 (aH + y54)) : Int) > 300)) then (K 301) else (L0 (IntKind.wrap .i64 (aH + y54), IntKind.wrap .i64 (aL + 1)))))) else (K aH)
noncomputable def Yn.m {β : Type} (k : Nat) (r_impl_measured : Int → ByteArray → Int → (List (List D)) → (List (List D)) → Int → (Int → Option β) → Option β) (aB : Int) (aA : ByteArray) (aC : Int) (aI : List (List D)) (aF : List (List D)) (a1 : Int) (K : Int → Option β) (F : (Int → (List (List D)) → Int → (Int × Int) → Option β)) : Option β :=
  bif ((a1 : Int) == 0) then (K 301) else (YD.f k aB aA aC aI aF (fun y20 => bif (!y20) then (K 301) else (F a1 aF (aF.length : Int) (1, 0))))
noncomputable def Yn.body {β : Type} (k : Nat) (r_impl_measured : Int → ByteArray → Int → (List (List D)) → (List (List D)) → Int → (Int → Option β) → Option β) (aB : Int) (aA : ByteArray) (aC : Int) (aI : List (List D)) (aF : List (List D)) (a1 : Int) (K : Int → Option β) : Option β :=
  bif ((a1 : Int) == 0) then (K 301) else (YD.f k aB aA aC aI aF (fun y20 => bif (!y20) then (K 301) else (Zo (Yn.l0 k r_impl_measured a1 aF (aF.length : Int) K) k (1, 0))))
noncomputable def Yn.w {β : Type} (r : Int → ByteArray → Int → (List (List D)) → (List (List D)) → Int → Option (Int)) (aB : Int) (aA : ByteArray) (aC : Int) (aI : List (List D)) (aF : List (List D)) (a1 : Int) (K : Int → Option β) : Option β := bd1 (r aB aA aC aI aF a1) K
noncomputable def Yn.all : Nat → (Int → ByteArray → Int → (List (List D)) → (List (List D)) → Int → Option (Int))
  | 0 => (fun _ _ _ _ _ _ => none)
  | k + 1 => (fun r => (fun aB aA aC aI aF a1 => Yn.body k (Yn.w r) aB aA aC aI aF a1 (fun z0 => some z0))) (Yn.all k)
noncomputable def Yn.t (k : Nat) (aB : Int) (aA : ByteArray) (aC : Int) (aI aF : List (List D)) (a1 : Int) : Option (Int) := (Yn.all k) aB aA aC aI aF a1
noncomputable def Yn.f {β : Type} (k : Nat) (aB : Int) (aA : ByteArray) (aC : Int) (aI aF : List (List D)) (a1 : Int) (K : Int → Option β) : Option β := Yn.w (Yn.t k) aB aA aC aI aF a1 K
noncomputable def Yn.g {β : Type} (k : Nat) (aB : Int) (aA : ByteArray) (aC : Int) (aI aF : List (List D)) (a1 : Int) (K : Int → Option β) : Option β := Yn.body k (Yn.f k) aB aA aC aI aF a1 K
theorem Yn.t_succ (k : Nat) (aB : Int) (aA : ByteArray) (aC : Int) (aI aF : List (List D)) (a1 : Int) : Yn.t (k + 1) aB aA aC aI aF a1 = Yn.g k aB aA aC aI aF a1 (fun z0 => some z0) := rfl
noncomputable def Yn.e (k : Nat) : Zk := ent [.agg [.n, .s, .n, .l, .l], .d .n] [1] [.n] [3] false (Yn.t k)
noncomputable def Yn.p (k : Nat) : Pro := ⟨Try.prog, [(247, YD.e k), (216, Yn.e k)], Zn [(5, kp [1, 5, 16, 17, 18])] false [], k⟩
noncomputable def Yn.d (k : Nat) (aB : Int) (aA : ByteArray) (aC : Int) (aI aF : List (List D)) (a1 : Int) : Ex → St → Option (Int) := (Yn.p k).fin Try.f216 [.agg [.int .i64 aB, .str aA, .int .i64 aC, .sl aI, .sl aF], .d (.int .i64 a1)] [1] [.n]
noncomputable def Yn.s0 (aD : Int) (aJ : List (List D)) (aK : Int) (v : Int × Int) : St :=
  match v with
  | (aH, aL) => ZX 32 [(1, .d false (.int .i64 aD)), (5, .d true (.int .i64 aH)), (16, .d false (.sl aJ)), (17, .d true (.int .i64 aK)), (18, .d true (.int .i64 aL))] []
noncomputable def Yn.r0 (k : Nat) (aB : Int) (aA : ByteArray) (aC : Int) (aI aF : List (List D)) (a1 aD : Int) (aJ : List (List D)) (aK : Int) (n : Nat) (v : Int × Int) : Option (Int) := (Yn.p k).lp (Zt Try.f216) 5 [1, 1, 1, 0, 1, 0] (Yn.d k aB aA aC aI aF a1) n (Yn.s0 aD aJ aK v)
theorem Yn.l0_eq (k : Nat) (aB : Int) (aA : ByteArray) (aC : Int) (aI aF : List (List D)) (a1 aD : Int) (aJ : List (List D)) (aK : Int) : ∀ n v, Yn.r0 k aB aA aC aI aF a1 aD aJ aK n v = Zo (Yn.l0 k (Yn.f k) aD aJ aK (fun z0 => some z0)) n v :=
  Zm (Yn.s0 aD aJ aK) _ fun L0 v => by obtain ⟨aH, aL⟩ := v; kernel_rfl
theorem Yn.oks (k : Nat) : Za Try.prog 216 (Yn.e k) := by
  induction k with
  | zero => exact Z7 Try.func216 (by kernel_rfl) (fun _ _ _ _ _ _ => rfl)
  | succ k ih => exact Zh (Yn.p k) mix tyok Try.func216 ⟨YD.ok k, ih⟩ (by kernel_rfl) (fun aB aA aC aI aF a1 => Eq.trans (b := Yn.m k (Yn.f k) aB aA aC aI aF a1 (fun z0 => some z0) (fun aD aJ aK => Yn.r0 k aB aA aC aI aF a1 aD aJ aK k)) (by kernel_rfl) ((congrArg (Yn.m k (Yn.f k) aB aA aC aI aF a1 (fun z0 => some z0)) (funext fun aD => funext fun aJ => funext fun aK => funext fun v => Yn.l0_eq k aB aA aC aI aF a1 aD aJ aK k v)).trans (Yn.t_succ k aB aA aC aI aF a1).symm))
theorem Yn.ok (k : Nat) : Za Try.prog 216 (Yn.e k) := (Yn.oks k)
noncomputable def Yac.g {β : Type} (k : Nat) (aB : Int) (aA : ByteArray) (aC : Int) (aI aF : List (List D)) (K : Bool → Option β) : Option β :=
  Yn.f k aB aA aC aI aF 6 (fun y55 => K (decide ((y55 : Int) ≤ 300)))
noncomputable def Yac.t (k : Nat) (aB : Int) (aA : ByteArray) (aC : Int) (aI aF : List (List D)) : Option (Bool) := Yac.g k aB aA aC aI aF (fun z0 => some z0)
noncomputable def Yac.f {β : Type} (k : Nat) (aB : Int) (aA : ByteArray) (aC : Int) (aI aF : List (List D)) (K : Bool → Option β) : Option β := bd1 (Yac.t k aB aA aC aI aF) K
noncomputable def Yac.e (k : Nat) : Zk := ent [.agg [.n, .s, .n, .l, .l]] [1] [.b] [4] false (Yac.t k)
noncomputable def Yac.p (k : Nat) : Pro := ⟨Try.prog, [(216, Yn.e k)], Zn [] false [], k⟩
theorem Yac.ok (k : Nat) : Za Try.prog 169 (Yac.e k) := Zh (Yac.p k) mix tyok Try.func169 (Yn.ok k) (by kernel_rfl) (fun aB aA aC aI aF => by show _ = _; kernel_rfl)
noncomputable def YE.l0 {β : Type} (k : Nat) (aD aH : List (List D)) (aJ : Int) (K : Bool → Option β) (L0 : Int → Option β) (v : Int) : Option β :=
  match v with
  | aK => bif (decide ((aK : Int) < aJ)) then (atR aH aK [.n, .n, .n, .s, .n, .l, .l] fun x82 x85 x88 x91 x94 x97 x100 => (YS.f k x82 1 1000000 (fun y101 => bif (!y101) then (K false) else (YS.f k x85 1 10000 (fun y102 => bif (!y102) then (K false) else (Yac.f k x88 x91 x94 x97 x100 (fun y103 => bif (!y103) then (K false) else (bif (decide ((aK : Int) > 0)) then (atR aD (IntKind.wrap .i64 (aK - 1)) [.n, .n, .n, .s, .n, .l, .l] fun x107 x110 x113 x116 x119 x122 x125 => (bif (decide ((x107 : Int) ≥ x82)) then (K false) else (L0 (IntKind.wrap .i64 (aK + 1))))) else (L0 (IntKind.wrap .i64 (aK + 1))))))))))) else (K (decide (((aD.length : Int) : Int) ≤ 40)))
noncomputable def YE.m {β : Type} (k : Nat) (a0 : List (List D)) (K : Bool → Option β) (F : ((List (List D)) → (List (List D)) → Int → Int → Option β)) : Option β :=
  F a0 a0 (a0.length : Int) (0)
noncomputable def YE.g {β : Type} (k : Nat) (a0 : List (List D)) (K : Bool → Option β) : Option β :=
  Zo (YE.l0 k a0 a0 (a0.length : Int) K) k (0)
noncomputable def YE.t (k : Nat) (a0 : List (List D)) : Option (Bool) := YE.g k a0 (fun z0 => some z0)
noncomputable def YE.f {β : Type} (k : Nat) (a0 : List (List D)) (K : Bool → Option β) : Option β := bd1 (YE.t k a0) K
noncomputable def YE.e (k : Nat) : Zk := ent [.d .l] [1] [.b] [4] false (YE.t k)
noncomputable def YE.p (k : Nat) : Pro := ⟨Try.prog, [(71, YS.e k), (169, Yac.e k)], Zn [(2, kp [0, 5, 6, 7])] false [], k⟩
noncomputable def YE.d (k : Nat) (a0 : List (List D)) : Ex → St → Option (Bool) := (YE.p k).fin Try.f99 [.d (.sl a0)] [1] [.b]
noncomputable def YE.s0 (aD aH : List (List D)) (aJ v : Int) : St :=
  match v with
  | aK => ZX 47 [(0, .d false (.sl aD)), (5, .d false (.sl aH)), (6, .d true (.int .i64 aJ)), (7, .d true (.int .i64 aK))] []
noncomputable def YE.r0 (k : Nat) (a0 aD aH : List (List D)) (aJ : Int) (n : Nat) (v : Int) : Option (Bool) := (YE.p k).lp (Zt Try.f99) 2 [1, 0, 1, 0] (YE.d k a0) n (YE.s0 aD aH aJ v)
theorem YE.l0_eq (k : Nat) (a0 aD aH : List (List D)) (aJ : Int) : ∀ n v, YE.r0 k a0 aD aH aJ n v = Zo (YE.l0 k aD aH aJ (fun z0 => some z0)) n v :=
  Zm (YE.s0 aD aH aJ) _ fun L0 v => by kernel_rfl
theorem YE.ok (k : Nat) : Za Try.prog 99 (YE.e k) := Zh (YE.p k) mix tyok Try.func99 ⟨YS.ok k, Yac.ok k⟩ (by kernel_rfl) (fun a0 => Eq.trans (b := YE.m k a0 (fun z0 => some z0) (fun aD aH aJ => YE.r0 k a0 aD aH aJ k)) (by kernel_rfl) (congrArg (YE.m k a0 (fun z0 => some z0)) (funext fun aD => funext fun aH => funext fun aJ => funext fun v => YE.l0_eq k a0 aD aH aJ k v) :))
noncomputable def YQ.l0 {β : Type} (k : Nat) (aD aH : List (List D)) (aJ : Int) (K : Bool → Option β) (L0 : Int → Option β) (v : Int) : Option β :=
  match v with
  | aK => bif (decide ((aK : Int) < aJ)) then (atR aH aK [.n, .n] fun x20 x23 => (YS.f k x20 1 1000000 (fun y24 => bif (!y24) then (K false) else (YY.f k x23 (fun y25 => bif (!y25) then (K false) else (bif (decide ((aK : Int) > 0)) then (atR aD (IntKind.wrap .i64 (aK - 1)) [.n, .n] fun x29 x32 => (bif (decide ((x29 : Int) ≥ x20)) then (K false) else (L0 (IntKind.wrap .i64 (aK + 1))))) else (L0 (IntKind.wrap .i64 (aK + 1))))))))) else (K (decide (((aD.length : Int) : Int) ≤ 80)))
noncomputable def YQ.m {β : Type} (k : Nat) (a0 : List (List D)) (K : Bool → Option β) (F : ((List (List D)) → (List (List D)) → Int → Int → Option β)) : Option β :=
  F a0 a0 (a0.length : Int) (0)
noncomputable def YQ.g {β : Type} (k : Nat) (a0 : List (List D)) (K : Bool → Option β) : Option β :=
  Zo (YQ.l0 k a0 a0 (a0.length : Int) K) k (0)
noncomputable def YQ.t (k : Nat) (a0 : List (List D)) : Option (Bool) := YQ.g k a0 (fun z0 => some z0)
noncomputable def YQ.f {β : Type} (k : Nat) (a0 : List (List D)) (K : Bool → Option β) : Option β := bd1 (YQ.t k a0) K
noncomputable def YQ.e (k : Nat) : Zk := ent [.d .l] [1] [.b] [4] false (YQ.t k)
noncomputable def YQ.p (k : Nat) : Pro := ⟨Try.prog, [(71, YS.e k), (88, YY.e k)], Zn [(2, kp [0, 5, 6, 7])] false [], k⟩
noncomputable def YQ.d (k : Nat) (a0 : List (List D)) : Ex → St → Option (Bool) := (YQ.p k).fin Try.f100 [.d (.sl a0)] [1] [.b]
noncomputable def YQ.s0 (aD aH : List (List D)) (aJ v : Int) : St :=
  match v with
  | aK => ZX 41 [(0, .d false (.sl aD)), (5, .d false (.sl aH)), (6, .d true (.int .i64 aJ)), (7, .d true (.int .i64 aK))] []
noncomputable def YQ.r0 (k : Nat) (a0 aD aH : List (List D)) (aJ : Int) (n : Nat) (v : Int) : Option (Bool) := (YQ.p k).lp (Zt Try.f100) 2 [1, 0, 1, 0] (YQ.d k a0) n (YQ.s0 aD aH aJ v)
theorem YQ.l0_eq (k : Nat) (a0 aD aH : List (List D)) (aJ : Int) : ∀ n v, YQ.r0 k a0 aD aH aJ n v = Zo (YQ.l0 k aD aH aJ (fun z0 => some z0)) n v :=
  Zm (YQ.s0 aD aH aJ) _ fun L0 v => by kernel_rfl
theorem YQ.ok (k : Nat) : Za Try.prog 100 (YQ.e k) := Zh (YQ.p k) mix tyok Try.func100 ⟨YS.ok k, YY.ok k⟩ (by kernel_rfl) (fun a0 => Eq.trans (b := YQ.m k a0 (fun z0 => some z0) (fun aD aH aJ => YQ.r0 k a0 aD aH aJ k)) (by kernel_rfl) (congrArg (YQ.m k a0 (fun z0 => some z0)) (funext fun aD => funext fun aH => funext fun aJ => funext fun v => YQ.l0_eq k a0 aD aH aJ k v) :))
noncomputable def Y9.g {β : Type} (k : Nat) (aB aA : Int) (K : Bool → Option β) : Option β :=
  K ((aA : Int) == 0)
noncomputable def Y9.t (k : Nat) (aB aA : Int) : Option (Bool) := Y9.g k aB aA (fun z0 => some z0)
noncomputable def Y9.f {β : Type} (k : Nat) (aB aA : Int) (K : Bool → Option β) : Option β := bd1 (Y9.t k aB aA) K
noncomputable def Y9.e (k : Nat) : Zk := ent [.agg [.n, .n]] [1] [.b] [4] false (Y9.t k)
noncomputable def Y9.p (k : Nat) : Pro := ⟨Try.prog, [], Zn [] false [], k⟩
theorem Y9.ok (k : Nat) : Za Try.prog 102 (Y9.e k) := Zh (Y9.p k) mix tyok Try.func102 trivial (by kernel_rfl) (fun aB aA => by show _ = _; kernel_rfl)
noncomputable def Yb.l0 {β : Type} (k : Nat) (aD : List (List D)) (aH : Int) (K L0 : Int → Option β) (v : Int) : Option β :=
  match v with
  | aJ => bif (decide ((aJ : Int) < aH)) then (atR aD aJ [.n, .n] fun x12 x15 => (Y9.f k x12 x15 (fun y16 => bif y16 then (K aJ) else (L0 (IntKind.wrap .i64 (aJ + 1)))))) else (K (-1))
noncomputable def Yb.m {β : Type} (k : Nat) (a0 : List (List D)) (K : Int → Option β) (F : ((List (List D)) → Int → Int → Option β)) : Option β :=
  F a0 (a0.length : Int) (0)
noncomputable def Yb.g {β : Type} (k : Nat) (a0 : List (List D)) (K : Int → Option β) : Option β :=
  Zo (Yb.l0 k a0 (a0.length : Int) K) k (0)
noncomputable def Yb.t (k : Nat) (a0 : List (List D)) : Option (Int) := Yb.g k a0 (fun z0 => some z0)
noncomputable def Yb.f {β : Type} (k : Nat) (a0 : List (List D)) (K : Int → Option β) : Option β := bd1 (Yb.t k a0) K
noncomputable def Yb.e (k : Nat) : Zk := ent [.d .l, .fn 102 []] [1] [.n] [3] false (Yb.t k)
noncomputable def Yb.p (k : Nat) : Pro := ⟨Try.prog, [(102, Y9.e k)], Zn [(2, kp [0, 1, 7, 8])] false [], k⟩
noncomputable def Yb.d (k : Nat) (a0 : List (List D)) : Ex → St → Option (Int) := (Yb.p k).fin Try.f170 [.d (.sl a0), .d (.fn 102 [])] [1] [.n]
noncomputable def Yb.s0 (aD : List (List D)) (aH v : Int) : St :=
  match v with
  | aJ => ZX 19 [(0, .d false (.sl aD)), (1, .d false (.fn 102 [])), (7, .d true (.int .i64 aH)), (8, .d true (.int .i64 aJ))] []
noncomputable def Yb.r0 (k : Nat) (a0 aD : List (List D)) (aH : Int) (n : Nat) (v : Int) : Option (Int) := (Yb.p k).lp (Zt Try.f170) 2 [1, 0, 1, 0] (Yb.d k a0) n (Yb.s0 aD aH v)
theorem Yb.l0_eq (k : Nat) (a0 aD : List (List D)) (aH : Int) : ∀ n v, Yb.r0 k a0 aD aH n v = Zo (Yb.l0 k aD aH (fun z0 => some z0)) n v :=
  Zm (Yb.s0 aD aH) _ fun L0 v => by kernel_rfl
theorem Yb.ok (k : Nat) : Za Try.prog 170 (Yb.e k) := Zh (Yb.p k) mix tyok Try.func170 (Y9.ok k) (by kernel_rfl) (fun a0 => Eq.trans (b := Yb.m k a0 (fun z0 => some z0) (fun aD aH => Yb.r0 k a0 aD aH k)) (by kernel_rfl) (congrArg (Yb.m k a0 (fun z0 => some z0)) (funext fun aD => funext fun aH => funext fun v => Yb.l0_eq k a0 aD aH k v) :))
noncomputable def Yj.g {β : Type} (k : Nat) (a0 : List (List D)) (K : Bool → Option β) : Option β :=
  Yb.f k a0 (fun y17 => K (decide ((y17 : Int) ≥ 0)))
noncomputable def Yj.t (k : Nat) (a0 : List (List D)) : Option (Bool) := Yj.g k a0 (fun z0 => some z0)
noncomputable def Yj.f {β : Type} (k : Nat) (a0 : List (List D)) (K : Bool → Option β) : Option β := bd1 (Yj.t k a0) K
noncomputable def Yj.e (k : Nat) : Zk := ent [.d .l, .fn 102 []] [1] [.b] [4] false (Yj.t k)
noncomputable def Yj.p (k : Nat) : Pro := ⟨Try.prog, [(170, Yb.e k)], Zn [] false [], k⟩
theorem Yj.ok (k : Nat) : Za Try.prog 101 (Yj.e k) := Zh (Yj.p k) mix tyok Try.func101 (Yb.ok k) (by kernel_rfl) (fun a0 => by show _ = _; kernel_rfl)
noncomputable def YB.l0 {β : Type} (k : Nat) (aH : List (List D)) (aJ : Int) (K : Int → Option β) (L0 : (Int × Int) → Option β) (v : Int × Int) : Option β :=
  match v with
  | (aD, aK) => bif (decide ((aK : Int) < aJ)) then (atR aH aK [.n, .n] fun x11 x14 => (L0 (IntKind.wrap .i64 (aD + x14), IntKind.wrap .i64 (aK + 1)))) else (K aD)
noncomputable def YB.m {β : Type} (k : Nat) (aB : ByteArray) (aA aC : Int) (aI aF : List (List D)) (K : Int → Option β) (F : ((List (List D)) → Int → (Int × Int) → Option β)) : Option β :=
  F aF (aF.length : Int) (0, 0)
noncomputable def YB.g {β : Type} (k : Nat) (aB : ByteArray) (aA aC : Int) (aI aF : List (List D)) (K : Int → Option β) : Option β :=
  Zo (YB.l0 k aF (aF.length : Int) K) k (0, 0)
noncomputable def YB.t (k : Nat) (aB : ByteArray) (aA aC : Int) (aI aF : List (List D)) : Option (Int) := YB.g k aB aA aC aI aF (fun z0 => some z0)
noncomputable def YB.f {β : Type} (k : Nat) (aB : ByteArray) (aA aC : Int) (aI aF : List (List D)) (K : Int → Option β) : Option β := bd1 (YB.t k aB aA aC aI aF) K
noncomputable def YB.e (k : Nat) : Zk := ent [.agg [.s, .n, .n, .l, .l]] [1] [.n] [3] false (YB.t k)
noncomputable def YB.p (k : Nat) : Pro := ⟨Try.prog, [], Zn [(3, kp [3, 7, 8, 9])] false [], k⟩
noncomputable def YB.d (k : Nat) (aB : ByteArray) (aA aC : Int) (aI aF : List (List D)) : Ex → St → Option (Int) := (YB.p k).fin Try.f103 [.agg [.str aB, .int .i64 aA, .int .i64 aC, .sl aI, .sl aF]] [1] [.n]
noncomputable def YB.s0 (aH : List (List D)) (aJ : Int) (v : Int × Int) : St :=
  match v with
  | (aD, aK) => ZX 19 [(3, .d true (.int .i64 aD)), (7, .d false (.sl aH)), (8, .d true (.int .i64 aJ)), (9, .d true (.int .i64 aK))] []
noncomputable def YB.r0 (k : Nat) (aB : ByteArray) (aA aC : Int) (aI aF aH : List (List D)) (aJ : Int) (n : Nat) (v : Int × Int) : Option (Int) := (YB.p k).lp (Zt Try.f103) 3 [1, 1, 0, 1, 0] (YB.d k aB aA aC aI aF) n (YB.s0 aH aJ v)
theorem YB.l0_eq (k : Nat) (aB : ByteArray) (aA aC : Int) (aI aF aH : List (List D)) (aJ : Int) : ∀ n v, YB.r0 k aB aA aC aI aF aH aJ n v = Zo (YB.l0 k aH aJ (fun z0 => some z0)) n v :=
  Zm (YB.s0 aH aJ) _ fun L0 v => by obtain ⟨aD, aK⟩ := v; kernel_rfl
theorem YB.ok (k : Nat) : Za Try.prog 103 (YB.e k) := Zh (YB.p k) mix tyok Try.func103 trivial (by kernel_rfl) (fun aB aA aC aI aF => Eq.trans (b := YB.m k aB aA aC aI aF (fun z0 => some z0) (fun aH aJ => YB.r0 k aB aA aC aI aF aH aJ k)) (by kernel_rfl) (congrArg (YB.m k aB aA aC aI aF (fun z0 => some z0)) (funext fun aH => funext fun aJ => funext fun v => YB.l0_eq k aB aA aC aI aF aH aJ k v) :))
noncomputable def YZ.g {β : Type} (k : Nat) (aB : ByteArray) (aA aC : Int) (aI aF : List (List D)) (K : Bool → Option β) : Option β :=
  YN.f k aB (fun y9 => bif y9 then (YY.f k aA (fun y10 => bif y10 then (YS.f k aC 0 1000000 (fun y11 => bif y11 then (YE.f k aI (fun y126 => bif y126 then (YQ.f k aF (fun y127 => bif y127 then (Yj.f k aF (fun y128 => bif (!y128) then (YB.f k aB aA aC aI aF (fun y129 => K (decide ((y129 : Int) ≤ aA)))) else (K false))) else (K false))) else (K false))) else (K false))) else (K false))) else (K false))
noncomputable def YZ.t (k : Nat) (aB : ByteArray) (aA aC : Int) (aI aF : List (List D)) : Option (Bool) := YZ.g k aB aA aC aI aF (fun z0 => some z0)
noncomputable def YZ.f {β : Type} (k : Nat) (aB : ByteArray) (aA aC : Int) (aI aF : List (List D)) (K : Bool → Option β) : Option β := bd1 (YZ.t k aB aA aC aI aF) K
noncomputable def YZ.e (k : Nat) : Zk := ent [.agg [.s, .n, .n, .l, .l]] [1] [.b] [4] false (YZ.t k)
noncomputable def YZ.p (k : Nat) : Pro := ⟨Try.prog, [(73, YN.e k), (88, YY.e k), (71, YS.e k), (99, YE.e k), (100, YQ.e k), (101, Yj.e k), (103, YB.e k)], Zn [] false [], k⟩
theorem YZ.ok (k : Nat) : Za Try.prog 33 (YZ.e k) := Zh (YZ.p k) mix tyok Try.func33 ⟨YN.ok k, YY.ok k, YS.ok k, YE.ok k, YQ.ok k, Yj.ok k, YB.ok k⟩ (by kernel_rfl) (fun aB aA aC aI aF => by show _ = _; kernel_rfl)
noncomputable def YL.g {β : Type} (k : Nat) (a0 : List (List D)) (K : (List (List C)) → Option β) : Option β :=
  let J0 := (Zc (ZaZ 1 a0) (Zc (([] : List (List C)).length + (a0.map (·.map C.d)).length ≤ ZN) (K (([] : List (List C)) ++ (a0.map (·.map C.d)))))); nilSl a0 (both (K ([] : List (List C))) J0) J0
noncomputable def YL.t (k : Nat) (a0 : List (List D)) : Option ((List (List C))) := YL.g k a0 (fun z0 => some z0)
noncomputable def YL.f {β : Type} (k : Nat) (a0 : List (List D)) (K : (List (List C)) → Option β) : Option β := bd1 (YL.t k a0) K
noncomputable def YL.e (k : Nat) : Zk := ent [.d .l] [1] [.o] [25] false (YL.t k)
noncomputable def YL.p (k : Nat) : Pro := ⟨Try.prog, [], Zn [] false [], k⟩
theorem YL.ok (k : Nat) : Za Try.prog 148 (YL.e k) := Zh (YL.p k) mix tyok Try.func148 trivial (by kernel_rfl) (fun a0 => by show _ = _; kernel_rfl)
noncomputable def Ym.l0 {β : Type} (k : Nat) (r_impl_copyValue : Int → ByteArray → Int → (List (List D)) → (List (List D)) → (Int → ByteArray → Int → (List (List C)) → (List (List C)) → Option β) → Option β) (aD : List (List D)) (aH : Int) (aK : Int) (aL : ByteArray) (aM : Int) (aN : List (List D)) (aO : Int) (aQ : ByteArray) (aP : Int) (aT : List (List C)) (K : Int → ByteArray → Int → (List (List C)) → (List (List C)) → Option β) (L0 : (Int × (List (List C))) → Option β) (v : Int × (List (List C))) : Option β :=
  match v with
  | (aJ, aR) => bif (decide ((aJ : Int) < aH)) then (atR aD aJ [.n, .s, .n, .l, .l] fun x26 x29 x32 x35 x38 => (r_impl_copyValue x26 x29 x32 x35 x38 (fun y39 y40 y41 y42 y43 => Zc (aR.length + ([[.d (.int .i64 y39), .d (.str y40), .d (.int .i64 y41), .own y42, .own y43]] : List (List C)).length ≤ ZN) (L0 (IntKind.wrap .i64 (aJ + 1), aR ++ ([[.d (.int .i64 y39), .d (.str y40), .d (.int .i64 y41), .own y42, .own y43]] : List (List C))))))) else (K aK aL aM aT aR)
noncomputable def Ym.m {β : Type} (k : Nat) (r_impl_copyValue : Int → ByteArray → Int → (List (List D)) → (List (List D)) → (Int → ByteArray → Int → (List (List C)) → (List (List C)) → Option β) → Option β) (aB : Int) (aA : ByteArray) (aC : Int) (aI : List (List D)) (aF : List (List D)) (K : Int → ByteArray → Int → (List (List C)) → (List (List C)) → Option β) (F : ((List (List D)) → Int → Int → ByteArray → Int → (List (List D)) → Int → ByteArray → Int → (List (List C)) → (Int × (List (List C))) → Option β)) : Option β :=
  YL.f k aI (fun y1 => F aF (aF.length : Int) aB aA aC aF 0 (⟨#[]⟩ : ByteArray) 0 y1 (0, ([] : List (List C))))
noncomputable def Ym.body {β : Type} (k : Nat) (r_impl_copyValue : Int → ByteArray → Int → (List (List D)) → (List (List D)) → (Int → ByteArray → Int → (List (List C)) → (List (List C)) → Option β) → Option β) (aB : Int) (aA : ByteArray) (aC : Int) (aI : List (List D)) (aF : List (List D)) (K : Int → ByteArray → Int → (List (List C)) → (List (List C)) → Option β) : Option β :=
  YL.f k aI (fun y1 => Zo (Ym.l0 k r_impl_copyValue aF (aF.length : Int) aB aA aC aF 0 (⟨#[]⟩ : ByteArray) 0 y1 K) k (0, ([] : List (List C))))
noncomputable def Ym.w {β : Type} (r : Int → ByteArray → Int → (List (List D)) → (List (List D)) → Option (Int × ByteArray × Int × (List (List C)) × (List (List C)))) (aB : Int) (aA : ByteArray) (aC : Int) (aI : List (List D)) (aF : List (List D)) (K : Int → ByteArray → Int → (List (List C)) → (List (List C)) → Option β) : Option β := bd5 (r aB aA aC aI aF) K
noncomputable def Ym.all : Nat → (Int → ByteArray → Int → (List (List D)) → (List (List D)) → Option (Int × ByteArray × Int × (List (List C)) × (List (List C))))
  | 0 => (fun _ _ _ _ _ => none)
  | k + 1 => (fun r => (fun aB aA aC aI aF => Ym.body k (Ym.w r) aB aA aC aI aF (fun z0 z1 z2 z3 z4 => some (z0, z1, z2, z3, z4)))) (Ym.all k)
noncomputable def Ym.t (k : Nat) (aB : Int) (aA : ByteArray) (aC : Int) (aI aF : List (List D)) : Option (Int × ByteArray × Int × (List (List C)) × (List (List C))) := (Ym.all k) aB aA aC aI aF
noncomputable def Ym.f {β : Type} (k : Nat) (aB : Int) (aA : ByteArray) (aC : Int) (aI aF : List (List D)) (K : Int → ByteArray → Int → (List (List C)) → (List (List C)) → Option β) : Option β := Ym.w (Ym.t k) aB aA aC aI aF K
noncomputable def Ym.g {β : Type} (k : Nat) (aB : Int) (aA : ByteArray) (aC : Int) (aI aF : List (List D)) (K : Int → ByteArray → Int → (List (List C)) → (List (List C)) → Option β) : Option β := Ym.body k (Ym.f k) aB aA aC aI aF K
theorem Ym.t_succ (k : Nat) (aB : Int) (aA : ByteArray) (aC : Int) (aI aF : List (List D)) : Ym.t (k + 1) aB aA aC aI aF = Ym.g k aB aA aC aI aF (fun z0 z1 z2 z3 z4 => some (z0, z1, z2, z3, z4)) := rfl
noncomputable def Ym.e (k : Nat) : Zk := ent [.agg [.n, .s, .n, .l, .l]] [5] [.n, .s, .n, .o, .o] [66] false (Ym.t k)
noncomputable def Ym.p (k : Nat) : Pro := ⟨Try.prog, [(148, YL.e k), (185, Ym.e k)], Zn [(4, kp [1, 2, 3, 12, 13, 14])] false [], k⟩
noncomputable def Ym.d (k : Nat) (aB : Int) (aA : ByteArray) (aC : Int) (aI aF : List (List D)) : Ex → St → Option (Int × ByteArray × Int × (List (List C)) × (List (List C))) := (Ym.p k).fin Try.f185 [.agg [.int .i64 aB, .str aA, .int .i64 aC, .sl aI, .sl aF]] [5] [.n, .s, .n, .o, .o]
noncomputable def Ym.s0 (aD : List (List D)) (aH aK : Int) (aL : ByteArray) (aM : Int) (aN : List (List D)) (aO : Int) (aQ : ByteArray) (aP : Int) (aT : List (List C)) (v : Int × (List (List C))) : St :=
  match v with
  | (aJ, aR) => ZX 27 [(1, .bp 0 0), (2, .bp 1 0), (3, .row 2), (12, .d false (.sl aD)), (13, .d true (.int .i64 aH)), (14, .d true (.int .i64 aJ))] [.box none 66 [.d false (.int .i64 aK), .d false (.str aL), .d false (.int .i64 aM), .row 3, .d false (.sl aN)], .box none 66 [.d true (.int .i64 aO), .d true (.str aQ), .d true (.int .i64 aP), .nil, .nil], .row none true 64 aR, .row none true 25 aT]
noncomputable def Ym.r0 (k : Nat) (aB : Int) (aA : ByteArray) (aC : Int) (aI aF aD : List (List D)) (aH aK : Int) (aL : ByteArray) (aM : Int) (aN : List (List D)) (aO : Int) (aQ : ByteArray) (aP : Int) (aT : List (List C)) (n : Nat) (v : Int × (List (List C))) : Option (Int × ByteArray × Int × (List (List C)) × (List (List C))) := (Ym.p k).lp (Zt Try.f185) 4 [1, 1, 1, 0, 1, 0] (Ym.d k aB aA aC aI aF) n (Ym.s0 aD aH aK aL aM aN aO aQ aP aT v)
theorem Ym.l0_eq (k : Nat) (aB : Int) (aA : ByteArray) (aC : Int) (aI aF aD : List (List D)) (aH aK : Int) (aL : ByteArray) (aM : Int) (aN : List (List D)) (aO : Int) (aQ : ByteArray) (aP : Int) (aT : List (List C)) : ∀ n v, Ym.r0 k aB aA aC aI aF aD aH aK aL aM aN aO aQ aP aT n v = Zo (Ym.l0 k (Ym.f k) aD aH aK aL aM aN aO aQ aP aT (fun z0 z1 z2 z3 z4 => some (z0, z1, z2, z3, z4))) n v :=
  Zm (Ym.s0 aD aH aK aL aM aN aO aQ aP aT) _ fun L0 v => by obtain ⟨aJ, aR⟩ := v; kernel_rfl
theorem Ym.oks (k : Nat) : Za Try.prog 185 (Ym.e k) := by
  induction k with
  | zero => exact Z7 Try.func185 (by kernel_rfl) (fun _ _ _ _ _ => rfl)
  | succ k ih => exact Zh (Ym.p k) mix tyok Try.func185 ⟨YL.ok k, ih⟩ (by kernel_rfl) (fun aB aA aC aI aF => Eq.trans (b := Ym.m k (Ym.f k) aB aA aC aI aF (fun z0 z1 z2 z3 z4 => some (z0, z1, z2, z3, z4)) (fun aD aH aK aL aM aN aO aQ aP aT => Ym.r0 k aB aA aC aI aF aD aH aK aL aM aN aO aQ aP aT k)) (by kernel_rfl) ((congrArg (Ym.m k (Ym.f k) aB aA aC aI aF (fun z0 z1 z2 z3 z4 => some (z0, z1, z2, z3, z4))) (funext fun aD => funext fun aH => funext fun aK => funext fun aL => funext fun aM => funext fun aN => funext fun aO => funext fun aQ => funext fun aP => funext fun aT => funext fun v => Ym.l0_eq k aB aA aC aI aF aD aH aK aL aM aN aO aQ aP aT k v)).trans (Ym.t_succ k aB aA aC aI aF).symm))
theorem Ym.ok (k : Nat) : Za Try.prog 185 (Ym.e k) := (Ym.oks k)
noncomputable def Yz.l0 {β : Type} (k : Nat) (aD : List (List D)) (aH : Int) (K : (List (List C)) → Option β) (L0 : (Int × (List (List C))) → Option β) (v : Int × (List (List C))) : Option β :=
  match v with
  | (aJ, aK) => bif (decide ((aJ : Int) < aH)) then (atR aD aJ [.n, .n, .n, .s, .n, .l, .l] fun x52 x55 x58 x61 x64 x67 x70 => (Ym.f k x58 x61 x64 x67 x70 (fun y71 y72 y73 y74 y75 => Zc (aK.length + ([[.d (.int .i64 x52), .d (.int .i64 x55), .d (.int .i64 y71), .d (.str y72), .d (.int .i64 y73), .own y74, .own y75]] : List (List C)).length ≤ ZN) (L0 (IntKind.wrap .i64 (aJ + 1), aK ++ ([[.d (.int .i64 x52), .d (.int .i64 x55), .d (.int .i64 y71), .d (.str y72), .d (.int .i64 y73), .own y74, .own y75]] : List (List C))))))) else (K aK)
noncomputable def Yz.m {β : Type} (k : Nat) (a0 : List (List D)) (K : (List (List C)) → Option β) (F : ((List (List D)) → Int → (Int × (List (List C))) → Option β)) : Option β :=
  F a0 (a0.length : Int) (0, ([] : List (List C)))
noncomputable def Yz.g {β : Type} (k : Nat) (a0 : List (List D)) (K : (List (List C)) → Option β) : Option β :=
  Zo (Yz.l0 k a0 (a0.length : Int) K) k (0, ([] : List (List C)))
noncomputable def Yz.t (k : Nat) (a0 : List (List D)) : Option ((List (List C))) := Yz.g k a0 (fun z0 => some z0)
noncomputable def Yz.f {β : Type} (k : Nat) (a0 : List (List D)) (K : (List (List C)) → Option β) : Option β := bd1 (Yz.t k a0) K
noncomputable def Yz.e (k : Nat) : Zk := ent [.d .l] [1] [.o] [54] false (Yz.t k)
noncomputable def Yz.p (k : Nat) : Pro := ⟨Try.prog, [(185, Ym.e k)], Zn [(3, kp [3, 7, 8, 9])] false [], k⟩
noncomputable def Yz.d (k : Nat) (a0 : List (List D)) : Ex → St → Option ((List (List C))) := (Yz.p k).fin Try.f120 [.d (.sl a0)] [1] [.o]
noncomputable def Yz.s0 (aD : List (List D)) (aH : Int) (v : Int × (List (List C))) : St :=
  match v with
  | (aJ, aK) => ZX 26 [(3, .row 0), (7, .d false (.sl aD)), (8, .d true (.int .i64 aH)), (9, .d true (.int .i64 aJ))] [.row none true 54 aK]
noncomputable def Yz.r0 (k : Nat) (a0 aD : List (List D)) (aH : Int) (n : Nat) (v : Int × (List (List C))) : Option ((List (List C))) := (Yz.p k).lp (Zt Try.f120) 3 [1, 1, 0, 1, 0] (Yz.d k a0) n (Yz.s0 aD aH v)
theorem Yz.l0_eq (k : Nat) (a0 aD : List (List D)) (aH : Int) : ∀ n v, Yz.r0 k a0 aD aH n v = Zo (Yz.l0 k aD aH (fun z0 => some z0)) n v :=
  Zm (Yz.s0 aD aH) _ fun L0 v => by obtain ⟨aJ, aK⟩ := v; kernel_rfl
theorem Yz.ok (k : Nat) : Za Try.prog 120 (Yz.e k) := Zh (Yz.p k) mix tyok Try.func120 (Ym.ok k) (by kernel_rfl) (fun a0 => Eq.trans (b := Yz.m k a0 (fun z0 => some z0) (fun aD aH => Yz.r0 k a0 aD aH k)) (by kernel_rfl) (congrArg (Yz.m k a0 (fun z0 => some z0)) (funext fun aD => funext fun aH => funext fun v => Yz.l0_eq k a0 aD aH k v) :))
noncomputable def YI.g {β : Type} (k : Nat) (a0 : List (List D)) (K : (List (List C)) → Option β) : Option β :=
  let J0 := (Zc (ZaZ 2 a0) (Zc (([] : List (List C)).length + (a0.map (·.map C.d)).length ≤ ZN) (K (([] : List (List C)) ++ (a0.map (·.map C.d)))))); nilSl a0 (both (K ([] : List (List C))) J0) J0
noncomputable def YI.t (k : Nat) (a0 : List (List D)) : Option ((List (List C))) := YI.g k a0 (fun z0 => some z0)
noncomputable def YI.f {β : Type} (k : Nat) (a0 : List (List D)) (K : (List (List C)) → Option β) : Option β := bd1 (YI.t k a0) K
noncomputable def YI.e (k : Nat) : Zk := ent [.d .l] [1] [.o] [55] false (YI.t k)
noncomputable def YI.p (k : Nat) : Pro := ⟨Try.prog, [], Zn [] false [], k⟩
theorem YI.ok (k : Nat) : Za Try.prog 126 (YI.e k) := Zh (YI.p k) mix tyok Try.func126 trivial (by kernel_rfl) (fun a0 => by show _ = _; kernel_rfl)
noncomputable def Y8.g {β : Type} (k : Nat) (aB : ByteArray) (aA aC : Int) (aI aF : List (List D)) (K : ByteArray → Int → Int → (List (List C)) → (List (List C)) → Option β) : Option β :=
  Yz.f k aI (fun y76 => YI.f k aF (fun y77 => K aB aA aC y76 y77))
noncomputable def Y8.t (k : Nat) (aB : ByteArray) (aA aC : Int) (aI aF : List (List D)) : Option (ByteArray × Int × Int × (List (List C)) × (List (List C))) := Y8.g k aB aA aC aI aF (fun z0 z1 z2 z3 z4 => some (z0, z1, z2, z3, z4))
noncomputable def Y8.f {β : Type} (k : Nat) (aB : ByteArray) (aA aC : Int) (aI aF : List (List D)) (K : ByteArray → Int → Int → (List (List C)) → (List (List C)) → Option β) : Option β := bd5 (Y8.t k aB aA aC aI aF) K
noncomputable def Y8.e (k : Nat) : Zk := ent [.agg [.s, .n, .n, .l, .l]] [5] [.s, .n, .n, .o, .o] [57] false (Y8.t k)
noncomputable def Y8.p (k : Nat) : Pro := ⟨Try.prog, [(120, Yz.e k), (126, YI.e k)], Zn [] false [], k⟩
theorem Y8.ok (k : Nat) : Za Try.prog 104 (Y8.e k) := Zh (Y8.p k) mix tyok Try.func104 ⟨Yz.ok k, YI.ok k⟩ (by kernel_rfl) (fun aB aA aC aI aF => by show _ = _; kernel_rfl)
noncomputable def YV.l0 {β : Type} (k : Nat) (aD : Int) (aH : List (List D)) (aJ : Int) (K L0 : Int → Option β) (v : Int) : Option β :=
  match v with
  | aK => bif (decide ((aK : Int) < aJ)) then (atR aH aK [.n, .n, .n, .s, .n, .l, .l] fun x26 x29 x32 x35 x38 x41 x44 => (bif ((x26 : Int) == aD) then (K x29) else (L0 (IntKind.wrap .i64 (aK + 1))))) else (K 0)
noncomputable def YV.m {β : Type} (k : Nat) (aB : ByteArray) (aA aC : Int) (aI aF : List (List D)) (a1 : Int) (K : Int → Option β) (F : (Int → (List (List D)) → Int → Int → Option β)) : Option β :=
  F a1 aI (aI.length : Int) (0)
noncomputable def YV.g {β : Type} (k : Nat) (aB : ByteArray) (aA aC : Int) (aI aF : List (List D)) (a1 : Int) (K : Int → Option β) : Option β :=
  Zo (YV.l0 k a1 aI (aI.length : Int) K) k (0)
noncomputable def YV.t (k : Nat) (aB : ByteArray) (aA aC : Int) (aI aF : List (List D)) (a1 : Int) : Option (Int) := YV.g k aB aA aC aI aF a1 (fun z0 => some z0)
noncomputable def YV.f {β : Type} (k : Nat) (aB : ByteArray) (aA aC : Int) (aI aF : List (List D)) (a1 : Int) (K : Int → Option β) : Option β := bd1 (YV.t k aB aA aC aI aF a1) K
noncomputable def YV.e (k : Nat) : Zk := ent [.agg [.s, .n, .n, .l, .l], .d .n] [1] [.n] [3] false (YV.t k)
noncomputable def YV.p (k : Nat) : Pro := ⟨Try.prog, [], Zn [(2, kp [1, 8, 9, 10])] false [], k⟩
noncomputable def YV.d (k : Nat) (aB : ByteArray) (aA aC : Int) (aI aF : List (List D)) (a1 : Int) : Ex → St → Option (Int) := (YV.p k).fin Try.f105 [.agg [.str aB, .int .i64 aA, .int .i64 aC, .sl aI, .sl aF], .d (.int .i64 a1)] [1] [.n]
noncomputable def YV.s0 (aD : Int) (aH : List (List D)) (aJ v : Int) : St :=
  match v with
  | aK => ZX 21 [(1, .d false (.int .i64 aD)), (8, .d false (.sl aH)), (9, .d true (.int .i64 aJ)), (10, .d true (.int .i64 aK))] []
noncomputable def YV.r0 (k : Nat) (aB : ByteArray) (aA aC : Int) (aI aF : List (List D)) (a1 aD : Int) (aH : List (List D)) (aJ : Int) (n : Nat) (v : Int) : Option (Int) := (YV.p k).lp (Zt Try.f105) 2 [1, 0, 1, 0] (YV.d k aB aA aC aI aF a1) n (YV.s0 aD aH aJ v)
theorem YV.l0_eq (k : Nat) (aB : ByteArray) (aA aC : Int) (aI aF : List (List D)) (a1 aD : Int) (aH : List (List D)) (aJ : Int) : ∀ n v, YV.r0 k aB aA aC aI aF a1 aD aH aJ n v = Zo (YV.l0 k aD aH aJ (fun z0 => some z0)) n v :=
  Zm (YV.s0 aD aH aJ) _ fun L0 v => by kernel_rfl
theorem YV.ok (k : Nat) : Za Try.prog 105 (YV.e k) := Zh (YV.p k) mix tyok Try.func105 trivial (by kernel_rfl) (fun aB aA aC aI aF a1 => Eq.trans (b := YV.m k aB aA aC aI aF a1 (fun z0 => some z0) (fun aD aH aJ => YV.r0 k aB aA aC aI aF a1 aD aH aJ k)) (by kernel_rfl) (congrArg (YV.m k aB aA aC aI aF a1 (fun z0 => some z0)) (funext fun aD => funext fun aH => funext fun aJ => funext fun v => YV.l0_eq k aB aA aC aI aF a1 aD aH aJ k v) :))
noncomputable def Y6.g {β : Type} (k : Nat) (aB aA : Int) (K : Bool → Option β) : Option β :=
  K ((aA : Int) == 0)
noncomputable def Y6.t (k : Nat) (aB aA : Int) : Option (Bool) := Y6.g k aB aA (fun z0 => some z0)
noncomputable def Y6.f {β : Type} (k : Nat) (aB aA : Int) (K : Bool → Option β) : Option β := bd1 (Y6.t k aB aA) K
noncomputable def Y6.e (k : Nat) : Zk := ent [.agg [.n, .n]] [1] [.b] [4] false (Y6.t k)
noncomputable def Y6.p (k : Nat) : Pro := ⟨Try.prog, [], Zn [] false [], k⟩
theorem Y6.ok (k : Nat) : Za Try.prog 107 (Y6.e k) := Zh (Y6.p k) mix tyok Try.func107 trivial (by kernel_rfl) (fun aB aA => by show _ = _; kernel_rfl)
noncomputable def Ye.l0 {β : Type} (k : Nat) (aD : List (List D)) (aH : Int) (K L0 : Int → Option β) (v : Int) : Option β :=
  match v with
  | aJ => bif (decide ((aJ : Int) < aH)) then (atR aD aJ [.n, .n] fun x12 x15 => (Y6.f k x12 x15 (fun y16 => bif y16 then (K aJ) else (L0 (IntKind.wrap .i64 (aJ + 1)))))) else (K (-1))
noncomputable def Ye.m {β : Type} (k : Nat) (a0 : List (List D)) (K : Int → Option β) (F : ((List (List D)) → Int → Int → Option β)) : Option β :=
  F a0 (a0.length : Int) (0)
noncomputable def Ye.g {β : Type} (k : Nat) (a0 : List (List D)) (K : Int → Option β) : Option β :=
  Zo (Ye.l0 k a0 (a0.length : Int) K) k (0)
noncomputable def Ye.t (k : Nat) (a0 : List (List D)) : Option (Int) := Ye.g k a0 (fun z0 => some z0)
noncomputable def Ye.e (k : Nat) : Zk := ent [.d .l, .fn 107 []] [1] [.n] [3] false (Ye.t k)
noncomputable def Ye.p (k : Nat) : Pro := ⟨Try.prog, [(107, Y6.e k)], Zn [(2, kp [0, 1, 7, 8])] false [], k⟩
noncomputable def Ye.d (k : Nat) (a0 : List (List D)) : Ex → St → Option (Int) := (Ye.p k).fin Try.f170 [.d (.sl a0), .d (.fn 107 [])] [1] [.n]
noncomputable def Ye.s0 (aD : List (List D)) (aH v : Int) : St :=
  match v with
  | aJ => ZX 19 [(0, .d false (.sl aD)), (1, .d false (.fn 107 [])), (7, .d true (.int .i64 aH)), (8, .d true (.int .i64 aJ))] []
noncomputable def Ye.r0 (k : Nat) (a0 aD : List (List D)) (aH : Int) (n : Nat) (v : Int) : Option (Int) := (Ye.p k).lp (Zt Try.f170) 2 [1, 0, 1, 0] (Ye.d k a0) n (Ye.s0 aD aH v)
theorem Ye.l0_eq (k : Nat) (a0 aD : List (List D)) (aH : Int) : ∀ n v, Ye.r0 k a0 aD aH n v = Zo (Ye.l0 k aD aH (fun z0 => some z0)) n v :=
  Zm (Ye.s0 aD aH) _ fun L0 v => by kernel_rfl
theorem Ye.ok (k : Nat) : Za Try.prog 170 (Ye.e k) := Zh (Ye.p k) mix tyok Try.func170 (Y6.ok k) (by kernel_rfl) (fun a0 => Eq.trans (b := Ye.m k a0 (fun z0 => some z0) (fun aD aH => Ye.r0 k a0 aD aH k)) (by kernel_rfl) (congrArg (Ye.m k a0 (fun z0 => some z0)) (funext fun aD => funext fun aH => funext fun v => Ye.l0_eq k a0 aD aH k v) :))
noncomputable def Yg.t (k : Nat) (xs : List (List C)) : Option (List (List C)) := delK (fun ds => Ye.t k ds) (fun s => match s with | [.int .i64 x0, .int .i64 x1] => Y6.t k x0 x1 | _ => none) xs
noncomputable def Yg.f {β : Type} (k : Nat) (xs : List (List C)) (K : (List (List C)) → Option β) : Option β :=
  match Yg.t k xs with
  | some z0 => K z0
  | none => none
noncomputable def Yg.run (k : Nat) : {β : Type} → List A → ((List (List C)) → Option β) → Option β := fun {β} l K =>
  match l with
  | [.own false [.own xs], .d (.fn g [])] => bif g == 107 then Yg.f k xs K else none
  | _ => none
noncomputable def Yg.e (k : Nat) : Zk := { modes := [(.own, 0)], rts := [55], al := false, run := fun _ _ => none, lib := some ⟨[true, false], 55, Yg.run k⟩ }
set_option maxHeartbeats 4000000 in
set_option maxRecDepth 1000000 in
theorem Yg.raw2 {P : Program} (mixed : P.follows .mixedOrders = true) (hf : P.funcs[106]? = some Try.f106) (eI : ∀ args w, (callFunc 170 args).run P w = .ok (.enter 170 args) w) (t0 : P.underlying 0 = some (.tuple #[])) (a0 : ∀ w, (isAgg 0).run P w = .ok false w) (z0 : ∀ w, (Go.sizeOf 0).run P w = .ok 1 w) (v0 : ∀ w, (zeroValue 0).run P w = .ok (.tuple #[]) w)
   (t3 : P.underlying 3 = some (.int .i64)) (a3 : ∀ w, (isAgg 3).run P w = .ok false w) (z3 : ∀ w, (Go.sizeOf 3).run P w = .ok 1 w) (v3 : ∀ w, (zeroValue 3).run P w = .ok (.int .i64 0) w) (t4 : P.underlying 4 = some .bool) (a4 : ∀ w, (isAgg 4).run P w = .ok false w) (z4 : ∀ w, (Go.sizeOf 4).run P w = .ok 1 w) (v4 : ∀ w, (zeroValue 4).run P w = .ok (.bool false) w)
   (tS : P.underlying 55 = some (.slice 70)) (aS : ∀ w, (isAgg 55).run P w = .ok false w) (zS : ∀ w, (Go.sizeOf 55).run P w = .ok 1 w) (vS : ∀ w, (zeroValue 55).run P w = .ok (.slice none 0 0) w) (tG : P.underlying 142 = some (.func #[70] #[4] false)) (aG : ∀ w, (isAgg 142).run P w = .ok false w) (zG : ∀ w, (Go.sizeOf 142).run P w = .ok 1 w) (vG : ∀ w, (zeroValue 142).run P w = .ok .nilFunc w)
   (K : Nat) (hK : 0 < K) (zc : Array Value) (aE : ∀ w, (isAgg 70).run P w = .ok true w) (zE : ∀ w, (Go.sizeOf 70).run P w = .ok K w) (vE : ∀ w, (zeroValue 70).run P w = .ok (.agg zc) w)
   (b cap n : Nat) (c : Array Value) (e : TypeId) (w : World) (g : Nat) (lb : Array Value) (p : Nat → Bool) (k0 : Nat) (hb : w.heap[b]? = some (.cells c e (0, 0))) (hc : c.size = cap * K) (hn : n ≤ cap) (hk0 : k0 < n) (hm : n ≤ 1099511627776)
   (h1 : ∀ t, t < n * K → ∃ v, c[t]? = some v ∧ v.oneCell' = true) (i0 : TypeInfo) (hi : P.info? 70 = some i0) (hz : i0.zero = some (.agg zc)) (hs : i0.size = K) (hzs : zc.size = K) (hz1 : ∀ v ∈ zc.toList, v.oneCell' = true)
   (eg : ∀ args w, (callFunc g args).run P w = .ok (.enter g args) w)
   (hIF : Calls P 170 #[.slice (some ⟨b, 0, none⟩) n cap, .func (.func g) #[] lb] w fun e w' => e = .returned (.int .i64 k0) ∧ Gs w w')
   (hpred : ∀ j, k0 < j → j < n → ∀ W, Gr b w W → ∀ vs : List Value, vs.length = K → (∀ t u, vs[t]? = some u → c[j * K + t]? = some u) → Calls P g (#[.agg vs.toArray] ++ lb) W fun e w' => e = .returned (.bool (p j)) ∧ Gs W w') :
    Calls P 106 #[.slice (some ⟨b, 0, none⟩) n cap, .func (.func g) #[] lb] w fun ex w' => ex = .returned (.slice (some ⟨b, 0, none⟩) (kpt p k0 n).length cap) ∧ Gr b w w' ∧ ∃ c' : Array Value, w'.heap[b]? = some (.cells c' e (0, 0)) ∧ c'.size = c.size ∧ ∀ m k : Nat, (kpt p k0 n)[m]? = some k → ∀ t, t < K → c'[m * K + t]? = c[k * K + t]? := by
  have hHC : Hold (∀ j, k0 < j → j < n → ∀ W, Gr b w W → ∀ vs : List Value, vs.length = K → (∀ t u, vs[t]? = some u → c[j * K + t]? = some u) → Calls P g (#[.agg vs.toArray] ++ lb) W fun e w' => e = .returned (.bool (p j)) ∧ Gs W w') := ⟨hpred⟩
  have hH1 : Hold (∀ t, t < n * K → ∃ v, c[t]? = some v ∧ v.oneCell' = true) := ⟨h1⟩
  have hHZ : Hold (i0.zero = some (.agg zc) ∧ i0.size = K ∧ zc.size = K ∧ (∀ v ∈ zc.toList, v.oneCell' = true) ∧ P.info? 70 = some i0) := ⟨hz, hs, hzs, hz1, hi⟩
  have hHB : Hold (w.heap[b]? = some (.cells c e (0, 0)) ∧ c.size = cap * K) := ⟨hb, hc⟩
  have hHK : Hold (0 < K) := ⟨hK⟩
  clear hpred h1 hz hs hzs hz1 hi hb hc hK
  have hne1 : ((k0 : Int) == -1) = false := beq_eq_false_iff_ne.2 (by omega)
  go_enter hf, Try.ntmps106
  go_wp2_with (go_at_fn 170; refine hIF.mono ?_; rintro e w' ⟨rfl, hg⟩)
  go_loopg [5, 6, 7] n (fun gg s5 s6 _ wr => ∃ (i j : Nat), s5 = .int .i64 i ∧ s6 = .int .i64 j ∧ j ≤ n ∧ n - j ≤ gg ∧ Hold (∃ ck : Array Value, DfK K b k0 c e p w wr i j ck))
  case atStart =>
    refine ⟨k0, k0 + 1, rfl, by go_num, by omega, by omega, ⟨c, by omega, hg.gr b, ?_, rfl, ?_, fun _ _ => rfl, fun m k hk => ?_⟩⟩
    · rw [hg.same b (by have := (Array.getElem?_eq_some_iff.mp hHB.out.1).1; exact this)]; exact hHB.out.1
    · unfold kpt; simp
    · unfold kpt at hk
      simp only [Nat.sub_self, List.range'_zero, List.filter_nil, List.append_nil] at hk
      have := List.getElem?_eq_some_iff.mp hk
      obtain ⟨q, hq⟩ := this
      rw [List.getElem_range] at hq
      rw [hq]
      exact fun _ _ => rfl
  case round =>
    obtain ⟨i, j, rfl, rfl, hjd, hgg, ⟨ck, hI⟩⟩ := hrel
    have hij : i < j ∧ k0 ≤ i := by have := kpt_le (p := p) hI.lt; rw [hI.len] at this; omega
    obtain ⟨hij, hki⟩ := hij
    by_cases hlt : j < n
    · have hltz : (j : Int) < (n : Int) := by omega
      obtain ⟨ul, ug, u1⟩ := Zcs hH1.out (i := j) (m := 1) (by omega)
      generalize (c.toList.drop (j * K)).take (1 * K) = us at ul ug u1
      rw [Nat.one_mul] at ul ug
      have ug' : ∀ t u, us[t]? = some u → c[j * K + t]? = some u := fun t u h => ((ug t u).mp h).2
      have hblt : b < wr.heap.size := (Array.getElem?_eq_some_iff.mp hI.at_).1
      have l1 : Sem.run P (loadCellsFrom ⟨b, j * K, none⟩ 0 K #[]) wr = .ok us.toArray wr := load_list P wr _ us K ul (fun t u ht => by
        rw [Addr.add_lit, Zam hI.at_, hI.high _ (by omega)]
        exact ug' t u ht)
      have hzc := hHZ.out.2.2.1
      obtain ⟨hN, hO⟩ := Zac us 0 (Zci wr (.cells zc 70))
      have s1 : Sem.run P (storeCells ⟨wr.heap.size, 0, none⟩ us 0) (wr.alloc (.cells zc 70)) = .ok () ((wr.alloc (.cells zc 70)).setCells wr.heap.size 0 us) := by
        have := run_storeCells_cells (P := P) wr.heap.size 0 us 0 (wr.alloc (.cells zc 70)) (fun t ht => by rw [Zam (Zci wr _), Array.getElem?_eq_getElem (by omega)]; rfl) (fun t ht => Zaw (Zci wr _) _) u1
        exact this
      have hG1 : Gs wr ((wr.alloc (.cells zc 70)).setCells wr.heap.size 0 us) := (gs_alloc wr _).trans_only hO (Nat.le_refl _)
      obtain ⟨W1, hW1⟩ : ∃ W1, Hold (W1 = (wr.alloc (.cells zc 70)).setCells wr.heap.size 0 us) := ⟨_, ⟨rfl⟩⟩
      rw [← hW1.out] at s1 hN hG1
      have l2 : ∀ w', Gs W1 w' → Sem.run P (loadCellsFrom ⟨wr.heap.size, 0, none⟩ 0 K #[]) w' = .ok us.toArray w' := fun w' hg2 => load_list P w' _ us K ul (fun t u ht => by
        have hlt1 := (Array.getElem?_eq_some_iff.mp hN).1
        have ht' : t < us.length := (List.getElem?_eq_some_iff.mp ht).1
        rw [Addr.add_lit, Zam ((hg2.same _ hlt1).trans hN), Zaa _ _ _ _ (by omega), if_pos (by omega)]
        simpa using ht)
      have l2' := l2 W1 (Gs.refl W1)
      have hcall := hHC.out j hI.lt hlt W1 (hI.gr.trans (hG1.gr b)) us ul ug'
      have hst : Hold (∀ (w' : World), Gs W1 w' → w'.heap[b]? = some (.cells ck e (0, 0)) ∧ Sem.run P (storeCells ⟨b, i * K, none⟩ us 0) w' = .ok () (w'.setCells b (i * K) us)) := ⟨fun w' hg2 => by
        have hb5 := (hg2.same b (Nat.lt_of_lt_of_le hblt hG1.size)).trans ((hG1.same b hblt).trans hI.at_)
        refine ⟨hb5, ?_⟩
        have hle : i * K + us.length ≤ ck.size := by
          rw [hI.size, hHB.out.2, ul, ← Nat.succ_mul]
          exact Nat.mul_le_mul_right K (by omega)
        have := run_storeCells_cells (P := P) b (i * K) us 0 w' (fun t ht => by rw [Nat.add_zero, Zam hb5, Array.getElem?_eq_getElem (by omega)]; rfl) (fun t ht => Zaw hb5 _) u1
        rwa [Nat.add_zero] at this⟩
      have l2H : Hold (∀ w', Gs W1 w' → Sem.run P (loadCellsFrom ⟨wr.heap.size, 0, none⟩ 0 K #[]) w' = .ok us.toArray w') := ⟨l2⟩
      have W2 : Hold (DfK K b k0 c e p w wr i j ck ∧ Gs wr W1 ∧ ∀ t, t < K → us[t]? = c[j * K + t]?) := ⟨hI, hG1, fun t ht => by
        obtain ⟨u, hu, _⟩ := hH1.out (j * K + t) (by
          have := Nat.mul_le_mul_right K (show j + 1 ≤ n from hlt)
          rw [Nat.succ_mul] at this
          omega)
        rw [hu]
        exact (ug t u).mpr ⟨by omega, hu⟩⟩
      clear hI hN hO hG1 ug ug' u1 l2 hzc
      cases hq : p j with
      | false =>
        rw [hq] at hcall
        clear hHC hH1 hHZ hIF
        go_wp2_with (go_at_fn g; refine hcall.mono ?_; rintro e w' ⟨rfl, hg2⟩; have l3 := l2H.out w' hg2; have s3 := (hst.out w' hg2).2)
        go_roundg (n - (j + 1))
        case measure => omega
        case rel =>
          obtain ⟨hI, hG1, hus⟩ := W2.out
          have hb5 := (hst.out w' hg2).1
          obtain ⟨hb3, ho3⟩ := Zac us (i * K) hb5
          have hle : i * K + us.length ≤ ck.size := by
            rw [hI.size, hHB.out.2, ul, ← Nat.succ_mul]
            exact Nat.mul_le_mul_right K (by omega)
          have hiK : i * K + K ≤ j * K := by
            rw [← Nat.succ_mul]
            exact Nat.mul_le_mul_right K hij
          have hjK : (j + 1) * K = j * K + K := Nat.succ_mul ..
          refine ⟨i + 1, j + 1, by go_num, by go_num, by omega, Nat.le_refl _, ⟨putA ck (i * K) us, ?_⟩⟩
          refine ⟨by have := hI.lt; omega, ((hI.gr.trans (hG1.gr b)).trans (hg2.gr b)).trans ho3.gr, hb3, by rw [Zaz]; exact hI.size, by rw [kpt_keep hI.lt hq, List.length_append, hI.len]; rfl, fun t ht => ?_, fun m k hk t ht => ?_⟩
          · rw [Zaa _ _ _ _ hle, if_neg (by omega)]
            exact hI.high t (by omega)
          · rw [kpt_keep hI.lt hq] at hk
            by_cases hm : m < i
            · have : m * K + K ≤ i * K := by
                rw [← Nat.succ_mul]
                exact Nat.mul_le_mul_right K hm
              rw [Zaa _ _ _ _ hle, if_neg (by omega)]
              exact hI.low m k (by rwa [List.getElem?_append_left (by rw [hI.len]; exact hm)] at hk) t ht
            · rw [List.getElem?_append_right (by rw [hI.len]; omega), hI.len] at hk
              have hm0 : m = i := by
                by_cases h : m - i = 0
                · omega
                · rw [List.getElem?_eq_none (by simp; omega)] at hk; cases hk
              subst hm0
              simp at hk
              subst hk
              rw [Zaa _ _ _ _ hle, if_pos (by omega), Nat.add_sub_cancel_left]
              exact hus t ht
      | true =>
        rw [hq] at hcall
        clear hHC hH1 hHZ hIF
        go_wp2_with (go_at_fn g; refine hcall.mono ?_; rintro e w' ⟨rfl, hg2⟩)
        go_roundg (n - (j + 1))
        case measure => omega
        case rel =>
          obtain ⟨hI, hG1, hus⟩ := W2.out
          have hb5 := (hst.out w' hg2).1
          have hjK : (j + 1) * K = j * K + K := Nat.succ_mul ..
          refine ⟨i, j + 1, rfl, by go_num, by omega, Nat.le_refl _, ⟨ck, ?_⟩⟩
          exact ⟨by have := hI.lt; omega, (hI.gr.trans (hG1.gr b)).trans (hg2.gr b), hb5, hI.size, by rw [kpt_skip hI.lt hq]; exact hI.len, fun t ht => hI.high t (by omega), by rw [kpt_skip hI.lt hq]; exact hI.low⟩
    · obtain rfl : j = n := by omega
      have hltz : ¬ (j : Int) < (j : Int) := by omega
      have hcs := hHB.out.2
      obtain ⟨hz, hs, hzs, hz1, hi⟩ := hHZ.out
      have hjc : i * K + (j - i) * K ≤ cap * K := by
        rw [← Nat.add_mul]
        exact Nat.mul_le_mul_right K (by omega)
      have hcl : ∀ ty, (Builtin.clear_ #[55] ty #[.slice (some ⟨b, i * K, none⟩) (j - i) (cap - i)]).run P wr = .ok (.tuple #[]) (wr.setCells b (i * K) (Builtin.zeroCells zc (j - i)).toList) :=
        fun ty => run_clear_cells tS hi hz hz1 (by omega) (fun t ht => by rw [Zam hI.at_]; change t < (j - i) * zc.size at ht; rw [hzs] at ht; rw [Array.getElem?_eq_getElem (by rw [hI.size, hcs]; omega)]; rfl) (fun t ht => Zaw hI.at_ _)
      obtain ⟨hb4, ho4⟩ := Zac (Builtin.zeroCells zc (j - i)).toList (i * K) hI.at_
      have hfin : Hold (Gr b w (wr.setCells b (i * K) (Builtin.zeroCells zc (j - i)).toList) ∧ ∃ c' : Array Value, (wr.setCells b (i * K) (Builtin.zeroCells zc (j - i)).toList).heap[b]? = some (.cells c' e (0, 0)) ∧ c'.size = c.size ∧ ∀ m k : Nat, (kpt p k0 j)[m]? = some k → ∀ t, t < K → c'[m * K + t]? = c[k * K + t]?) := by
        have hzl : (Builtin.zeroCells zc (j - i)).toList.length = (j - i) * K := by simp [Zap, hzs]
        refine ⟨hI.gr.trans ho4.gr, _, hb4, by rw [Zaz]; exact hI.size, fun m k hk t ht => ?_⟩
        have hmi : m < i := by rw [← hI.len]; exact (List.getElem?_eq_some_iff.mp hk).1
        have : m * K + K ≤ i * K := by
          rw [← Nat.succ_mul]
          exact Nat.mul_le_mul_right K hmi
        rw [Zaa _ _ _ _ (by rw [hzl, hI.size, hcs]; omega), if_neg (by omega)]
        exact hI.low m k hk t ht
      have hlen := hI.len
      generalize (Builtin.zeroCells zc (j - i)).toList = zl at hcl hfin
      clear hI hz hs hzs hz1 hi hb4 ho4 hcs hjc
      have hic : i ≤ cap := by omega
      go_wp2
      go_ret
      refine ⟨?_, hfin.out⟩
      first | rfl | (rw [hlen]; rfl)
set_option maxHeartbeats 4000000 in
set_option maxRecDepth 1000000 in
theorem Yg.raw0 (a : Option Addr) (n cap : Nat) (w : World) (g : Nat) (lb : Array Value) (hn : n ≤ cap) (hIF : Calls Try.prog 170 #[.slice a n cap, .func (.func g) #[] lb] w fun e w' => e = .returned (.int .i64 (-1)) ∧ Gs w w') : Calls Try.prog 106 #[.slice a n cap, .func (.func g) #[] lb] w fun ex w' => ex = .returned (.slice a n cap) ∧ Gs w w' := by
  go_enter Try.func106, Try.ntmps106
  go_wp2_with (go_at_call 170; refine hIF.mono ?_; rintro e w' ⟨rfl, hg⟩)
  go_ret
  exact ⟨rfl, hg⟩
theorem Yg.raw : DfRawK Try.prog 106 170 2 := ⟨fun a n cap w g lb hn h => Yg.raw0 a n cap w g lb hn h, fun b cap n c e w g lb p k0 h1 h2 h3 h4 h5 h6 h7 h8 h9 => by
  obtain ⟨i0, z, hi, hz, hzs⟩ := Zbj (P := Try.prog) (t := 70) (by kernel_rfl)
  have hsz : i0.size = 2 := by
    have : Try.prog.cellsOf 70 = 2 := by kernel_rfl
    simpa [Program.cellsOf, hi] using this
  have hzc : z.cells.size = 2 := by
    have h1 : (ZaA Try.prog 70).length = 2 := by kernel_rfl
    rw [← h1]
    simpa using (Zay hzs).2.2.1.symm
  have hzv : ∀ w, (zeroValue 70).run Try.prog w = .ok z w := fun w => by simp [zeroValue, typeInfo, hi, hz]
  obtain ⟨zc, rfl⟩ : ∃ zc, z = .agg zc := by
    have h := (hzv w).symm.trans (Try.zeroValue70 w)
    injection h with h
    exact ⟨_, h⟩
  exact Yg.raw2 (by kernel_rfl) Try.func106 (enters_of Try.func170 (by kernel_rfl) (c := Zt Try.f170) (by kernel_rfl)) Try.underlying0 Try.isAgg0 Try.sizeOf0 Try.zeroValue0 Try.underlying3 Try.isAgg3 Try.sizeOf3 Try.zeroValue3 Try.underlying4 Try.isAgg4 Try.sizeOf4 Try.zeroValue4
    Try.underlying55 Try.isAgg55 Try.sizeOf55 Try.zeroValue55 Try.underlying142 Try.isAgg142 Try.sizeOf142 Try.zeroValue142 2 (by decide) zc Try.isAgg70 Try.sizeOf70 hzv b cap n c e w g lb p k0 h1 h2 h3 h4 h5 h6 i0 hi hz hsz hzc (Zay hzs).2.1 h7 h8 h9⟩
theorem Yg.ok (k : Nat) : Za Try.prog 106 (Yg.e k) := delfuncK_ok tyok (ct := 55) (K := 2) (g := 107) (fi := 170) (run := fun {β} => Yg.run k) (by kernel_rfl) (by decide) (enter_of Try.func106 (by kernel_rfl)) Yg.raw (by kernel_rfl) (by kernel_rfl) (Ye.ok k) (Y6.ok k) (fun β aa K r h => by
  unfold Yg.run at h
  split at h
  · rename_i xs g
    cases hg : g == 107 with
    | false => rw [hg] at h; cases h
    | true =>
      rw [hg] at h
      obtain rfl := eq_of_beq hg
      simp only [cond_true] at h
      unfold Yg.f Yg.t at h
      split at h
      · rename_i z0 hz
        refine ⟨_, _, _, _, _, rfl, hz, h, rfl, rfl, rfl, rfl, fun ds z h => ?_, fun s q h => ?_⟩
        · exact (ent_run (Ye.e k) rfl (congrArg some h) rfl)
        · split at h
          · rename_i x0 x1
            exact (ent_run (Y6.e k) rfl (congrArg some h) rfl)
          · cases h
      · cases h
  · cases h)
noncomputable def Y4.g {β : Type} (k : Nat) (a0 : Int) (K : Bool → Option β) : Option β :=
  K ((a0 : Int) != a0)
noncomputable def Y4.t (k : Nat) (a0 : Int) : Option (Bool) := Y4.g k a0 (fun z0 => some z0)
noncomputable def Y4.f {β : Type} (k : Nat) (a0 : Int) (K : Bool → Option β) : Option β := bd1 (Y4.t k a0) K
noncomputable def Y4.e (k : Nat) : Zk := ent [.d .n] [1] [.b] [4] false (Y4.t k)
noncomputable def Y4.p (k : Nat) : Pro := ⟨Try.prog, [], Zn [] false [], k⟩
theorem Y4.ok (k : Nat) : Za Try.prog 171 (Y4.e k) := Zh (Y4.p k) mix tyok Try.func171 trivial (by kernel_rfl) (fun a0 => by show _ = _; kernel_rfl)
noncomputable def Y0.g {β : Type} (k : Nat) (a0 a1 : Int) (K : Int → Option β) : Option β :=
  Y4.f k a0 (fun y1 => Y4.f k a1 (fun y2 => bif y1 then (bif y2 then (K 0) else (K (-1))) else (bif y2 then (K 1) else (bif (decide ((a0 : Int) < a1)) then (K (-1)) else (bif (decide ((a0 : Int) > a1)) then (K 1) else (K 0))))))
noncomputable def Y0.t (k : Nat) (a0 a1 : Int) : Option (Int) := Y0.g k a0 a1 (fun z0 => some z0)
noncomputable def Y0.f {β : Type} (k : Nat) (a0 a1 : Int) (K : Int → Option β) : Option β := bd1 (Y0.t k a0 a1) K
noncomputable def Y0.e (k : Nat) : Zk := ent [.d .n, .d .n] [1] [.n] [3] false (Y0.t k)
noncomputable def Y0.p (k : Nat) : Pro := ⟨Try.prog, [(171, Y4.e k)], Zn [] false [], k⟩
theorem Y0.ok (k : Nat) : Za Try.prog 110 (Y0.e k) := Zh (Y0.p k) mix tyok Try.func110 (Y4.ok k) (by kernel_rfl) (fun a0 a1 => by show _ = _; kernel_rfl)
noncomputable def Yag.g {β : Type} (k : Nat) (aB aA a1 : Int) (K : Int → Option β) : Option β :=
  Y0.f k aB a1 (fun y3 => K y3)
noncomputable def Yag.t (k : Nat) (aB aA a1 : Int) : Option (Int) := Yag.g k aB aA a1 (fun z0 => some z0)
noncomputable def Yag.f {β : Type} (k : Nat) (aB aA a1 : Int) (K : Int → Option β) : Option β := bd1 (Yag.t k aB aA a1) K
noncomputable def Yag.e (k : Nat) : Zk := ent [.agg [.n, .n], .d .n] [1] [.n] [3] false (Yag.t k)
noncomputable def Yag.p (k : Nat) : Pro := ⟨Try.prog, [(110, Y0.e k)], Zn [] false [], k⟩
theorem Yag.ok (k : Nat) : Za Try.prog 109 (Yag.e k) := Zh (Yag.p k) mix tyok Try.func109 (Y0.ok k) (by kernel_rfl) (fun aB aA a1 => by show _ = _; kernel_rfl)
noncomputable def Ya.l0 {β : Type} (k : Nat) (aD : List (List D)) (aH aJ : Int) (K : Int → Bool → Option β) (L0 : (Int × Int) → Option β) (v : Int × Int) : Option β :=
  match v with
  | (aK, aL) => bif (decide ((aK : Int) < aL)) then (let J1 := (Int.fdiv (IntKind.wrap .u64 (IntKind.wrap .i64 (aK + aL))) (2 ^ (min (1 : Int).toNat 64))); let J0 := (IntKind.wrap .i64 J1); Zc ((0 : Int) ≤ 1) (Zbw aD J0 fun c17 => rdQ [.n, .n] c17 fun x20 x23 => (Yag.f k x20 x23 aH (fun y24 => bif (decide ((y24 : Int) < 0)) then (L0 (IntKind.wrap .i64 (J0 + 1), aL)) else (L0 (aK, IntKind.wrap .i64 J1)))))) else (bif (decide ((aK : Int) < aJ)) then (atR aD aK [.n, .n] fun x28 x31 => (Yag.f k x28 x31 aH (fun y32 => K aK ((y32 : Int) == 0)))) else (K aK false))
noncomputable def Ya.m {β : Type} (k : Nat) (a0 : List (List D)) (a1 : Int) (K : Int → Bool → Option β) (F : ((List (List D)) → Int → Int → (Int × Int) → Option β)) : Option β :=
  F a0 a1 (a0.length : Int) (0, (a0.length : Int))
noncomputable def Ya.g {β : Type} (k : Nat) (a0 : List (List D)) (a1 : Int) (K : Int → Bool → Option β) : Option β :=
  Zo (Ya.l0 k a0 a1 (a0.length : Int) K) k (0, (a0.length : Int))
noncomputable def Ya.t (k : Nat) (a0 : List (List D)) (a1 : Int) : Option (Int × Bool) := Ya.g k a0 a1 (fun z0 z1 => some (z0, z1))
noncomputable def Ya.f {β : Type} (k : Nat) (a0 : List (List D)) (a1 : Int) (K : Int → Bool → Option β) : Option β := bd2 (Ya.t k a0 a1) K
noncomputable def Ya.e (k : Nat) : Zk := ent [.d .l, .d .n, .fn 109 []] [1, 1] [.n, .b] [3, 4] false (Ya.t k)
noncomputable def Ya.p (k : Nat) : Pro := ⟨Try.prog, [(109, Yag.e k)], Zn [(3, kp [0, 1, 2, 8, 9, 10])] false [], k⟩
noncomputable def Ya.d (k : Nat) (a0 : List (List D)) (a1 : Int) : Ex → St → Option (Int × Bool) := (Ya.p k).fin Try.f108 [.d (.sl a0), .d (.int .i64 a1), .d (.fn 109 [])] [1, 1] [.n, .b]
noncomputable def Ya.s0 (aD : List (List D)) (aH aJ : Int) (v : Int × Int) : St :=
  match v with
  | (aK, aL) => ZX 49 [(0, .d false (.sl aD)), (1, .d false (.int .i64 aH)), (2, .d false (.fn 109 [])), (8, .d true (.int .i64 aJ)), (9, .d true (.int .i64 aK)), (10, .d true (.int .i64 aL))] []
noncomputable def Ya.r0 (k : Nat) (a0 : List (List D)) (a1 : Int) (aD : List (List D)) (aH aJ : Int) (n : Nat) (v : Int × Int) : Option (Int × Bool) := (Ya.p k).lp (Zt Try.f108) 3 [1, 1, 1, 0, 0] (Ya.d k a0 a1) n (Ya.s0 aD aH aJ v)
theorem Ya.l0_eq (k : Nat) (a0 : List (List D)) (a1 : Int) (aD : List (List D)) (aH aJ : Int) : ∀ n v, Ya.r0 k a0 a1 aD aH aJ n v = Zo (Ya.l0 k aD aH aJ (fun z0 z1 => some (z0, z1))) n v :=
  Zm (Ya.s0 aD aH aJ) _ fun L0 v => by obtain ⟨aK, aL⟩ := v; kernel_rfl
theorem Ya.ok (k : Nat) : Za Try.prog 108 (Ya.e k) := Zh (Ya.p k) mix tyok Try.func108 (Yag.ok k) (by kernel_rfl) (fun a0 a1 => Eq.trans (b := Ya.m k a0 a1 (fun z0 z1 => some (z0, z1)) (fun aD aH aJ => Ya.r0 k a0 a1 aD aH aJ k)) (by kernel_rfl) (congrArg (Ya.m k a0 a1 (fun z0 z1 => some (z0, z1))) (funext fun aD => funext fun aH => funext fun aJ => funext fun v => Ya.l0_eq k a0 a1 aD aH aJ k v) :))
noncomputable def Yq.t (k : Nat) (xs : List (List C)) (i : Int) (ys : List (List C)) : Option (List (List C)) := Zc (0 ≤ i ∧ i ≤ (xs.length : Int) ∧ xs.length + ys.length ≤ ZN) (some (xs.take i.toNat ++ ys ++ xs.drop i.toNat))
noncomputable def Yq.f {β : Type} (k : Nat) (xs : List (List C)) (i : Int) (ys : List (List C)) (K : (List (List C)) → Option β) : Option β :=
  match Yq.t k xs i ys with
  | some z0 => K z0
  | none => none
noncomputable def Yq.run (k : Nat) : {β : Type} → List A → ((List (List C)) → Option β) → Option β := fun {β} l K =>
  match l with
  | [.own false [.own xs], .d (.int .i64 i), .own false [.own ys]] => Yq.f k xs i ys K
  | _ => none
noncomputable def Yq.e (k : Nat) : Zk := { modes := [(.own, 0)], rts := [55], al := false, run := fun _ _ => none, lib := some ⟨[true, false, true], 55, Yq.run k⟩ }
set_option maxHeartbeats 4000000 in
set_option maxRecDepth 1000000 in
theorem Yq.raw0 (a : Option Addr) (n cap i : Nat) (a' : Option Addr) (cap' : Nat) (w : World) (hi : i ≤ n) (hn : n ≤ cap) : Calls Try.prog 111 #[.slice a n cap, .int .i64 i, .slice a' 0 cap'] w fun ex w' => ex = .returned (.slice a n cap) ∧ w' = w := by
  go_enter Try.func111, Try.ntmps111
  go_wp2
  all_goals (go_ret; exact ⟨rfl, rfl⟩)
set_option maxHeartbeats 4000000 in
set_option maxRecDepth 1000000 in
theorem Yq.rawA (a : Option Addr) (n cap m vb vcap : Nat) (w W' : World) (R : Value) (hm : 0 < m) (hn : n ≤ cap) (hrun : ∀ ty, (Builtin.append_ #[55, 55] ty #[.slice a n cap, .slice (some ⟨vb, 0, none⟩) m vcap]).run Try.prog w = .ok R W') :
    Calls Try.prog 111 #[.slice a n cap, .int .i64 n, .slice (some ⟨vb, 0, none⟩) m vcap] w fun ex w' => ex = .returned R ∧ w' = W' := by
  have mixed : Try.prog.follows .mixedOrders = true := by kernel_rfl
  have hz1 : ¬ ((m : Int) = 0) := by omega
  go_enter Try.func111, Try.ntmps111
  cases a with
  | none =>
    go_wp2_with (at_builtin; refine Lib.wpList_append_run _ rfl _ _ _ _ rfl _ _ rfl rfl _ _ (hrun _) ?_)
    all_goals (go_ret; exact ⟨rfl, rfl⟩)
  | some a =>
    obtain ⟨ab, ao, asp⟩ := a
    go_wp2_with (at_builtin; refine Lib.wpList_append_run _ rfl _ _ _ _ rfl _ _ rfl rfl _ _ (hrun _) ?_)
    all_goals (go_ret; exact ⟨rfl, rfl⟩)
set_option maxHeartbeats 4000000 in
set_option maxRecDepth 1000000 in
theorem Yq.rawB (b n cap i vb m vcap : Nat) (cd vs : List Value) (w : World) (hi : i < n) (hm : 0 < m) (hroom : n + m ≤ cap) (hnm : n + m ≤ 9223372036854775807)
    (hov : ∀ lb cb, (callFunc 172 #[.slice (some ⟨vb, 0, none⟩) m vcap, .slice (some ⟨b, (i + m) * 2, none⟩) lb cb]).run Try.prog w = .ok (.value (.bool false)) w)
    (hcp1 : ∀ ty dc sc, (Builtin.copy_ #[55, 55] ty #[.slice (some ⟨b, (i + m) * 2, none⟩) (n + m - (i + m)) dc, .slice (some ⟨b, i * 2, none⟩) (n + m - i) sc]).run Try.prog w.drew = .ok (goInt ((n - i : Nat) : Int)) (w.drew.setCells b ((i + m) * 2) cd))
    (hcp2 : ∀ ty dc, (Builtin.copy_ #[55, 55] ty #[.slice (some ⟨b, i * 2, none⟩) (n + m - i) dc, .slice (some ⟨vb, 0, none⟩) m vcap]).run Try.prog (w.drew.setCells b ((i + m) * 2) cd) = .ok (goInt m) ((w.drew.setCells b ((i + m) * 2) cd).setCells b (i * 2) vs)) :
    Calls Try.prog 111 #[.slice (some ⟨b, 0, none⟩) n cap, .int .i64 i, .slice (some ⟨vb, 0, none⟩) m vcap] w fun ex w' => ex = .returned (.slice (some ⟨b, 0, none⟩) (n + m) cap) ∧ w' = (w.drew.setCells b ((i + m) * 2) cd).setCells b (i * 2) vs := by
  have mixed : Try.prog.follows .mixedOrders = true := by kernel_rfl
  have hz1 : ¬ ((m : Int) = 0) := by omega
  have hz2 : ¬ ((i : Int) = (n : Int)) := by omega
  have hw1 : IntKind.i64.wrap ((i : Int) + (m : Int)) = (i : Int) + (m : Int) := by rw [IntKind.wrap_i64]; omega
  have hb1 : (0 : Int) ≤ (i : Int) + (m : Int) := by omega
  have hin : i ≤ n := by omega
  have htn : ((i : Int) + (m : Int)).toNat = i + m := by omega
  have hb2 : ¬ (cap = i + m) := by omega
  have hb3 : (i : Int) ≤ (n : Int) + (m : Int) := by omega
  have hb4 : ¬ (cap = i) := by omega
  obtain ⟨W1, hW1⟩ : ∃ W1, Hold (W1 = w.drew.setCells b ((i + m) * 2) cd) := ⟨_, ⟨rfl⟩⟩
  rw [← hW1.out] at hcp1 hcp2 ⊢
  go_enter Try.func111, Try.ntmps111
  go_wp2_with (simp only [hov])
  go_region_law_o (refine step_copy_run rfl _ _ 55 55 rfl _ _ (by simp [Act.eval, Act.put]) (by simp [Act.eval, Act.put]) (hcp1 _ _ _) ?_)
  go_wp2_with (at_builtin; refine wpList_copy_run _ rfl _ _ 55 55 rfl _ _ rfl rfl (hcp2 _ _) ?_)
  go_ret
  exact ⟨rfl, rfl⟩
set_option maxHeartbeats 4000000 in
set_option maxRecDepth 1000000 in
theorem Yq.rawC (b n cap i vb m vcap G N : Nat) (cd vs : List Value) (w W1 : World) (hi : i < n) (hm : 0 < m) (hn : n ≤ cap) (hroom : cap < n + m) (hG : n + m ≤ G) (hG63 : G ≤ 9223372036854775807)
    (hrz : ∀ ty, (Builtin.append_ #[55, 3] ty #[.slice (some ⟨b, 0, none⟩) i cap, .int .i64 ((n : Int) + (m : Int) - (i : Int))]).run Try.prog w = .ok (.slice (some ⟨N, 0, none⟩) (n + m) G) W1)
    (hcpA : ∀ ty dc, (Builtin.copy_ #[55, 55] ty #[.slice (some ⟨N, i * 2, none⟩) (n + m - i) dc, .slice (some ⟨vb, 0, none⟩) m vcap]).run Try.prog W1 = .ok (goInt m) (W1.setCells N (i * 2) vs))
    (hcpB : ∀ ty dc sc, (Builtin.copy_ #[55, 55] ty #[.slice (some ⟨N, (i + m) * 2, none⟩) (n + m - (i + m)) dc, .slice (some ⟨b, i * 2, none⟩) (n - i) sc]).run Try.prog (W1.setCells N (i * 2) vs).drew = .ok (goInt ((n - i : Nat) : Int)) ((W1.setCells N (i * 2) vs).drew.setCells N ((i + m) * 2) cd)) :
    Calls Try.prog 111 #[.slice (some ⟨b, 0, none⟩) n cap, .int .i64 i, .slice (some ⟨vb, 0, none⟩) m vcap] w fun ex w' => ex = .returned (.slice (some ⟨N, 0, none⟩) (n + m) G) ∧ w' = (W1.setCells N (i * 2) vs).drew.setCells N ((i + m) * 2) cd := by
  have mixed : Try.prog.follows .mixedOrders = true := by kernel_rfl
  have hz1 : ¬ ((m : Int) = 0) := by omega
  have hz2 : ¬ ((i : Int) = (n : Int)) := by omega
  have hz3 : (cap : Int) < (n : Int) + (m : Int) := by omega
  have hGi : ¬ (G = i) := by omega
  have hGim : ¬ (G = i + m) := by omega
  have hci : ¬ (cap = i) := by omega
  have hw1 : IntKind.i64.wrap ((i : Int) + (m : Int)) = (i : Int) + (m : Int) := by rw [IntKind.wrap_i64]; omega
  have hb1 : (0 : Int) ≤ (i : Int) + (m : Int) := by omega
  have hin : i ≤ n := by omega
  have htn : ((i : Int) + (m : Int)).toNat = i + m := by omega
  have hb3 : (i : Int) ≤ (n : Int) := by omega
  obtain ⟨W2, hW2⟩ : ∃ W2, Hold (W2 = W1.setCells N (i * 2) vs) := ⟨_, ⟨rfl⟩⟩
  rw [← hW2.out] at hcpA hcpB ⊢
  go_enter Try.func111, Try.ntmps111
  go_wp2_with (first
    | (at_builtin; refine Lib.wpList_append_run _ rfl _ _ _ _ rfl _ _ rfl rfl _ _ (hrz _) ?_)
    | (at_builtin; refine wpList_copy_run _ rfl _ _ 55 55 rfl _ _ rfl rfl (hcpA _ _) ?_))
  go_region_law_o (refine step_copy_run rfl _ _ 55 55 rfl (.slice (some ⟨N, (i + m) * 2, none⟩) (n + m - (i + m)) (G - (i + m))) (.slice (some ⟨b, i * 2, none⟩) (n - i) (cap - i)) (by simp [Act.eval, Act.put]) (by simp [Act.eval, Act.put]) (hcpB _ _ _) ?_)
  go_wp2
  go_ret
  exact ⟨rfl, rfl⟩
theorem Yq.raw : InsRaw Try.prog 111 2 := by
  obtain ⟨i0, z, hi, hz, hzs⟩ := Zbj (P := Try.prog) (t := 70) (by kernel_rfl)
  have hsz : i0.size = 2 := by
    have : Try.prog.cellsOf 70 = 2 := by kernel_rfl
    simpa [Program.cellsOf, hi] using this
  have hzc : z.cells.size = 2 := by
    have h1 : (ZaA Try.prog 70).length = 2 := by kernel_rfl
    rw [← h1]
    simpa using (Zay hzs).2.2.1.symm
  have hby : i0.bytes ≤ 1000 := by
    have : (Try.prog.info? 70).map (·.bytes) = some 16 := by kernel_rfl
    rw [hi] at this
    simp only [Option.map_some, Option.some.injEq] at this
    rw [this]
    decide
  exact InsRoads.raw (o := 172) (S := 55) (E := 70) (T := 4) ⟨Yq.raw0, Yq.rawA, Yq.rawB, Yq.rawC⟩ Try.underlying55 (by kernel_rfl) hi hz hsz (by decide) hzc hby (fun x y w h => by
    rw [run_callFunc_extern Try.func172 (by kernel_rfl) (by kernel_rfl) (by kernel_rfl) (e := Extern.SlicesOverlaps.overlaps #[55, 55] #[4]) (by kernel_rfl), h]
    rfl)
theorem Yq.ok (k : Nat) : Za Try.prog 111 (Yq.e k) := insert_ok tyok (ct := 55) (K := 2) (run := fun {β} => Yq.run k) (by kernel_rfl) (enter_of Try.func111 (by kernel_rfl)) Yq.raw (fun β aa K r h => by
  unfold Yq.run at h
  split at h
  · unfold Yq.f Yq.t at h
    split at h
    · rename_i hz
      obtain ⟨hg, hz⟩ := ZD hz
      injection hz with hz
      subst hz
      exact ⟨_, _, _, rfl, hg, h⟩
    · cases h
  · cases h)
noncomputable def YA.l1 {β : Type} (k : Nat) (aV : List (List D)) (bB : Int) (aZ : ByteArray) (aW aU : Int) (aX aY : List (List D)) (bI : ByteArray) (bJ bK : Int) (bF : ByteArray) (bW v1_13 : Int) (v1_14 v1_15 : List (List C)) (K : ByteArray → Int → Int → (List (List C)) → (List (List C)) → Int → Int → Option β) (L1 : Int → Option β) (v : Int) : Option β :=
  match v with
  | bA => bif (decide ((bA : Int) < bB)) then (atR aV bA [.n, .n, .n, .s, .n, .l, .l] fun x228 x231 x234 x237 x240 x243 x246 => (Ya.f k aY x228 (fun y247 y248 => bif (!y248) then (Yq.f k v1_15 y247 ([[.d (.int .i64 x228), .d (.int .i64 1)]] : List (List C)) (fun y249 => K bF bW v1_13 v1_14 y249 x228 1)) else (atR aY y247 [.n, .n] fun x253 x256 => (bif (decide ((x256 : Int) < x231)) then (Zc ((0 : Int) ≤ y247 ∧ y247 < (v1_15.length : Int)) (ZaG v1_15 (Int.toNat y247) fun c257 => Zas (c257.drop 1) fun c258 r259 => cD c258 fun d260 => dInt .i64 d260 fun x261 => Zc ((0 : Int) ≤ y247 ∧ y247 < (v1_15.length : Int)) (Zc (Int.toNat y247 < v1_15.length) (K bF bW v1_13 v1_14 (v1_15.modify (Int.toNat y247) fun c => Zq c 1 [.d (.int .i64 (IntKind.wrap .i64 (x261 + 1)))]) x228 1)))) else (L1 (IntKind.wrap .i64 (bA + 1)))))))) else (K bF bW v1_13 v1_14 v1_15 0 0)
noncomputable def YA.m0 {β : Type} (k : Nat) (aD : List (List D)) (aH : Int) (aK : ByteArray) (aL aM : Int) (aN aO : List (List D)) (aQ : ByteArray) (aP aR : Int) (aT : ByteArray) (bC bD : Int) (v0_14 v0_15 : List (List C)) (K : ByteArray → Int → Int → (List (List C)) → (List (List C)) → Int → Int → Option β) (L0 : Int → Option β) (v : Int) (F : ((List (List D)) → Int → ByteArray → Int → Int → (List (List D)) → (List (List D)) → ByteArray → Int → Int → ByteArray → Int → Int → (List (List C)) → (List (List C)) → Int → Option β)) : Option β :=
  match v with
  | aJ => bif (decide ((aJ : Int) < aH)) then (atR aD aJ [.n, .n] fun x176 x179 => (YV.f k aK aL aM aN aO x176 (fun y180 => bif (decide ((x179 : Int) > y180)) then (Zc ((0 : Int) ≤ aJ ∧ aJ < (v0_15.length : Int)) (ZaG v0_15 (Int.toNat aJ) fun c181 => Zas (c181.drop 1) fun c182 r183 => cD c182 fun d184 => dInt .i64 d184 fun x185 => Zc ((0 : Int) ≤ aJ ∧ aJ < (v0_15.length : Int)) (Zc (Int.toNat aJ < v0_15.length) (Yg.f k (v0_15.modify (Int.toNat aJ) fun c => Zq c 1 [.d (.int .i64 (IntKind.wrap .i64 (x185 - 1)))]) (fun y186 => K aT bC bD v0_14 y186 x176 (-1)))))) else (L0 (IntKind.wrap .i64 (aJ + 1)))))) else (YB.f k aK aL aM aN aO (fun y187 => bif (decide ((y187 : Int) ≥ aL)) then (K aT bC bD v0_14 v0_15 0 0) else (F aN (aN.length : Int) aK aL aM aN aO aQ aP aR aT bC bD v0_14 v0_15 (0))))
noncomputable def YA.l0 {β : Type} (k : Nat) (aD : List (List D)) (aH : Int) (aK : ByteArray) (aL aM : Int) (aN aO : List (List D)) (aQ : ByteArray) (aP aR : Int) (aT : ByteArray) (bC bD : Int) (v0_14 v0_15 : List (List C)) (K : ByteArray → Int → Int → (List (List C)) → (List (List C)) → Int → Int → Option β) (L0 : Int → Option β) (v : Int) : Option β := YA.m0 k aD aH aK aL aM aN aO aQ aP aR aT bC bD v0_14 v0_15 K L0 v (fun aV bB aZ aW aU aX aY bI bJ bK bF bW v1_13 v1_14 v1_15 => Zo (YA.l1 k aV bB aZ aW aU aX aY bI bJ bK bF bW v1_13 v1_14 v1_15 K) k)
noncomputable def YA.m {β : Type} (k : Nat) (aB : ByteArray) (aA aC : Int) (aI aF : List (List D)) (K : ByteArray → Int → Int → (List (List C)) → (List (List C)) → Int → Int → Option β) (F : ((List (List D)) → Int → ByteArray → Int → Int → (List (List D)) → (List (List D)) → ByteArray → Int → Int → ByteArray → Int → Int → (List (List C)) → (List (List C)) → Int → Option β)) : Option β :=
  Y8.f k aB aA aC aI aF (fun y78 y79 y80 y81 y82 => YZ.f k aB aA aC aI aF (fun y83 => bif (!y83) then (K y78 y79 y80 y81 y82 0 0) else (F aF (aF.length : Int) aB aA aC aI aF (⟨#[]⟩ : ByteArray) 0 0 y78 y79 y80 y81 y82 (0))))
noncomputable def YA.g {β : Type} (k : Nat) (aB : ByteArray) (aA aC : Int) (aI aF : List (List D)) (K : ByteArray → Int → Int → (List (List C)) → (List (List C)) → Int → Int → Option β) : Option β := YA.m k aB aA aC aI aF K (fun aD aH aK aL aM aN aO aQ aP aR aT bC bD v0_14 v0_15 => Zo (YA.l0 k aD aH aK aL aM aN aO aQ aP aR aT bC bD v0_14 v0_15 K) k)
noncomputable def YA.t (k : Nat) (aB : ByteArray) (aA aC : Int) (aI aF : List (List D)) : Option (ByteArray × Int × Int × (List (List C)) × (List (List C)) × Int × Int) := YA.g k aB aA aC aI aF (fun z0 z1 z2 z3 z4 z5 z6 => some (z0, z1, z2, z3, z4, z5, z6))
noncomputable def YA.f {β : Type} (k : Nat) (aB : ByteArray) (aA aC : Int) (aI aF : List (List D)) (K : ByteArray → Int → Int → (List (List C)) → (List (List C)) → Int → Int → Option β) : Option β := match YA.t k aB aA aC aI aF with | some (z0, z1, z2, z3, z4, z5, z6) => K z0 z1 z2 z3 z4 z5 z6 | none => none
noncomputable def YA.e (k : Nat) : Zk := ent [.agg [.s, .n, .n, .l, .l]] [5, 1, 1] [.s, .n, .n, .o, .o, .n, .n] [57, 3, 3] false (YA.t k)
noncomputable def YA.p (k : Nat) : Pro := ⟨Try.prog, [(104, Y8.e k), (33, YZ.e k), (105, YV.e k), (106, Yg.e k), (103, YB.e k), (108, Ya.e k), (111, Yq.e k)], Zn [(5, kp [1, 2, 5, 19, 20, 21]), (15, kp [1, 2, 5, 57, 58, 59])] false [], k⟩
noncomputable def YA.d (k : Nat) (aB : ByteArray) (aA aC : Int) (aI aF : List (List D)) : Ex → St → Option (ByteArray × Int × Int × (List (List C)) × (List (List C)) × Int × Int) := (YA.p k).fin Try.f34 [.agg [.str aB, .int .i64 aA, .int .i64 aC, .sl aI, .sl aF]] [5, 1, 1] [.s, .n, .n, .o, .o, .n, .n]
noncomputable def YA.s0 (aD : List (List D)) (aH : Int) (aK : ByteArray) (aL aM : Int) (aN aO : List (List D)) (aQ : ByteArray) (aP aR : Int) (aT : ByteArray) (bC bD : Int) (v0_14 v0_15 : List (List C)) (v : Int) : St :=
  match v with
  | aJ => ZX 108 [(1, .bp 0 0), (2, .bp 1 0), (5, .bp 2 0), (19, .d false (.sl aD)), (20, .d true (.int .i64 aH)), (21, .d true (.int .i64 aJ))] [.box none 57 [.d false (.str aK), .d false (.int .i64 aL), .d false (.int .i64 aM), .d false (.sl aN), .d false (.sl aO)], .box none 57 [.d true (.str aQ), .d true (.int .i64 aP), .d true (.int .i64 aR), .nil, .nil], .box none 57 [.d true (.str aT), .d true (.int .i64 bC), .d true (.int .i64 bD), .row 3, .row 4], .row none true 54 v0_14, .row none true 55 v0_15]
noncomputable def YA.r0 (k : Nat) (aB : ByteArray) (aA aC : Int) (aI aF aD : List (List D)) (aH : Int) (aK : ByteArray) (aL aM : Int) (aN aO : List (List D)) (aQ : ByteArray) (aP aR : Int) (aT : ByteArray) (bC bD : Int) (v0_14 v0_15 : List (List C)) (n : Nat) (v : Int) : Option (ByteArray × Int × Int × (List (List C)) × (List (List C)) × Int × Int) := (YA.p k).lp (Zt Try.f34) 5 [1, 1, 1, 0, 1, 0] (YA.d k aB aA aC aI aF) n (YA.s0 aD aH aK aL aM aN aO aQ aP aR aT bC bD v0_14 v0_15 v)
noncomputable def YA.s1 (aV : List (List D)) (bB : Int) (aZ : ByteArray) (aW aU : Int) (aX aY : List (List D)) (bI : ByteArray) (bJ bK : Int) (bF : ByteArray) (bW v1_13 : Int) (v1_14 v1_15 : List (List C)) (v : Int) : St :=
  match v with
  | bA => ZX 108 [(1, .bp 0 0), (2, .bp 1 0), (5, .bp 2 0), (57, .d false (.sl aV)), (58, .d true (.int .i64 bB)), (59, .d true (.int .i64 bA))] [.box none 57 [.d false (.str aZ), .d false (.int .i64 aW), .d false (.int .i64 aU), .d false (.sl aX), .d false (.sl aY)], .box none 57 [.d true (.str bI), .d true (.int .i64 bJ), .d true (.int .i64 bK), .nil, .nil], .box none 57 [.d true (.str bF), .d true (.int .i64 bW), .d true (.int .i64 v1_13), .row 3, .row 4], .row none true 54 v1_14, .row none true 55 v1_15]
noncomputable def YA.r1 (k : Nat) (aB : ByteArray) (aA aC : Int) (aI aF aV : List (List D)) (bB : Int) (aZ : ByteArray) (aW aU : Int) (aX aY : List (List D)) (bI : ByteArray) (bJ bK : Int) (bF : ByteArray) (bW v1_13 : Int) (v1_14 v1_15 : List (List C)) (n : Nat) (v : Int) : Option (ByteArray × Int × Int × (List (List C)) × (List (List C)) × Int × Int) := (YA.p k).lp (Zt Try.f34) 15 [1, 1, 1, 1, 1, 0, 1, 0] (YA.d k aB aA aC aI aF) n (YA.s1 aV bB aZ aW aU aX aY bI bJ bK bF bW v1_13 v1_14 v1_15 v)
theorem YA.l1_eq (k : Nat) (aB : ByteArray) (aA aC : Int) (aI aF aV : List (List D)) (bB : Int) (aZ : ByteArray) (aW aU : Int) (aX aY : List (List D)) (bI : ByteArray) (bJ bK : Int) (bF : ByteArray) (bW v1_13 : Int) (v1_14 v1_15 : List (List C)) : ∀ n v, YA.r1 k aB aA aC aI aF aV bB aZ aW aU aX aY bI bJ bK bF bW v1_13 v1_14 v1_15 n v = Zo (YA.l1 k aV bB aZ aW aU aX aY bI bJ bK bF bW v1_13 v1_14 v1_15 (fun z0 z1 z2 z3 z4 z5 z6 => some (z0, z1, z2, z3, z4, z5, z6))) n v :=
  Zm (YA.s1 aV bB aZ aW aU aX aY bI bJ bK bF bW v1_13 v1_14 v1_15) _ fun L1 v => by kernel_rfl
theorem YA.l0_eq (k : Nat) (aB : ByteArray) (aA aC : Int) (aI aF aD : List (List D)) (aH : Int) (aK : ByteArray) (aL aM : Int) (aN aO : List (List D)) (aQ : ByteArray) (aP aR : Int) (aT : ByteArray) (bC bD : Int) (v0_14 v0_15 : List (List C)) : ∀ n v, YA.r0 k aB aA aC aI aF aD aH aK aL aM aN aO aQ aP aR aT bC bD v0_14 v0_15 n v = Zo (YA.l0 k aD aH aK aL aM aN aO aQ aP aR aT bC bD v0_14 v0_15 (fun z0 z1 z2 z3 z4 z5 z6 => some (z0, z1, z2, z3, z4, z5, z6))) n v :=
  Zm (YA.s0 aD aH aK aL aM aN aO aQ aP aR aT bC bD v0_14 v0_15) _ fun L0 v => by exact Eq.trans (b := YA.m0 k aD aH aK aL aM aN aO aQ aP aR aT bC bD v0_14 v0_15 (fun z0 z1 z2 z3 z4 z5 z6 => some (z0, z1, z2, z3, z4, z5, z6)) (fun v => L0 (YA.s0 aD aH aK aL aM aN aO aQ aP aR aT bC bD v0_14 v0_15 v)) v (fun aV bB aZ aW aU aX aY bI bJ bK bF bW v1_13 v1_14 v1_15 => YA.r1 k aB aA aC aI aF aV bB aZ aW aU aX aY bI bJ bK bF bW v1_13 v1_14 v1_15 k)) (by kernel_rfl) (congrArg (YA.m0 k aD aH aK aL aM aN aO aQ aP aR aT bC bD v0_14 v0_15 (fun z0 z1 z2 z3 z4 z5 z6 => some (z0, z1, z2, z3, z4, z5, z6)) (fun v => L0 (YA.s0 aD aH aK aL aM aN aO aQ aP aR aT bC bD v0_14 v0_15 v)) v) (funext fun aV => funext fun bB => funext fun aZ => funext fun aW => funext fun aU => funext fun aX => funext fun aY => funext fun bI => funext fun bJ => funext fun bK => funext fun bF => funext fun bW => funext fun v1_13 => funext fun v1_14 => funext fun v1_15 => funext fun v => YA.l1_eq k aB aA aC aI aF aV bB aZ aW aU aX aY bI bJ bK bF bW v1_13 v1_14 v1_15 k v))
theorem YA.ok (k : Nat) : Za Try.prog 34 (YA.e k) := Zh (YA.p k) mix tyok Try.func34 ⟨Y8.ok k, YZ.ok k, YV.ok k, Yg.ok k, YB.ok k, Ya.ok k, Yq.ok k⟩ (by kernel_rfl) (fun aB aA aC aI aF => Eq.trans (b := YA.m k aB aA aC aI aF (fun z0 z1 z2 z3 z4 z5 z6 => some (z0, z1, z2, z3, z4, z5, z6)) (fun aD aH aK aL aM aN aO aQ aP aR aT bC bD v0_14 v0_15 => YA.r0 k aB aA aC aI aF aD aH aK aL aM aN aO aQ aP aR aT bC bD v0_14 v0_15 k)) (by kernel_rfl) (congrArg (YA.m k aB aA aC aI aF (fun z0 z1 z2 z3 z4 z5 z6 => some (z0, z1, z2, z3, z4, z5, z6))) (funext fun aD => funext fun aH => funext fun aK => funext fun aL => funext fun aM => funext fun aN => funext fun aO => funext fun aQ => funext fun aP => funext fun aR => funext fun aT => funext fun bC => funext fun bD => funext fun v0_14 => funext fun v0_15 => funext fun v => YA.l0_eq k aB aA aC aI aF aD aH aK aL aM aN aO aQ aP aR aT bC bD v0_14 v0_15 k v) :))
noncomputable def YJ.l0 {β : Type} (k : Nat) (aD : List (List D)) (aH : Int) (K : Int → Bool → Option β) (L0 : Int → Option β) (v : Int) : Option β :=
  match v with
  | aJ => bif (decide ((aJ : Int) < (aD.length : Int))) then (atR aD aJ [.n, .n] fun x18 x21 => (bif ((x18 : Int) == aH) then (atR aD aJ [.n, .n] fun x25 x28 => (K x28 true)) else (L0 (IntKind.wrap .i64 (aJ + 1))))) else (K 0 false)
noncomputable def YJ.m {β : Type} (k : Nat) (a0 : List (List D)) (a1 : Int) (K : Int → Bool → Option β) (F : ((List (List D)) → Int → Int → Option β)) : Option β :=
  F a0 a1 (0)
noncomputable def YJ.g {β : Type} (k : Nat) (a0 : List (List D)) (a1 : Int) (K : Int → Bool → Option β) : Option β :=
  Zo (YJ.l0 k a0 a1 K) k (0)
noncomputable def YJ.t (k : Nat) (a0 : List (List D)) (a1 : Int) : Option (Int × Bool) := YJ.g k a0 a1 (fun z0 z1 => some (z0, z1))
noncomputable def YJ.f {β : Type} (k : Nat) (a0 : List (List D)) (a1 : Int) (K : Int → Bool → Option β) : Option β := bd2 (YJ.t k a0 a1) K
noncomputable def YJ.e (k : Nat) : Zk := ent [.d .l, .d .n] [1, 1] [.n, .b] [3, 4] false (YJ.t k)
noncomputable def YJ.p (k : Nat) : Pro := ⟨Try.prog, [], Zn [(2, kp [0, 1, 6])] false [], k⟩
noncomputable def YJ.d (k : Nat) (a0 : List (List D)) (a1 : Int) : Ex → St → Option (Int × Bool) := (YJ.p k).fin Try.f35 [.d (.sl a0), .d (.int .i64 a1)] [1, 1] [.n, .b]
noncomputable def YJ.s0 (aD : List (List D)) (aH v : Int) : St :=
  match v with
  | aJ => ZX 25 [(0, .d false (.sl aD)), (1, .d false (.int .i64 aH)), (6, .d true (.int .i64 aJ))] []
noncomputable def YJ.r0 (k : Nat) (a0 : List (List D)) (a1 : Int) (aD : List (List D)) (aH : Int) (n : Nat) (v : Int) : Option (Int × Bool) := (YJ.p k).lp (Zt Try.f35) 2 [1, 0, 1, 0] (YJ.d k a0 a1) n (YJ.s0 aD aH v)
theorem YJ.l0_eq (k : Nat) (a0 : List (List D)) (a1 : Int) (aD : List (List D)) (aH : Int) : ∀ n v, YJ.r0 k a0 a1 aD aH n v = Zo (YJ.l0 k aD aH (fun z0 z1 => some (z0, z1))) n v :=
  Zm (YJ.s0 aD aH) _ fun L0 v => by kernel_rfl
theorem YJ.ok (k : Nat) : Za Try.prog 35 (YJ.e k) := Zh (YJ.p k) mix tyok Try.func35 trivial (by kernel_rfl) (fun a0 a1 => Eq.trans (b := YJ.m k a0 a1 (fun z0 z1 => some (z0, z1)) (fun aD aH => YJ.r0 k a0 a1 aD aH k)) (by kernel_rfl) (congrArg (YJ.m k a0 a1 (fun z0 z1 => some (z0, z1))) (funext fun aD => funext fun aH => funext fun v => YJ.l0_eq k a0 a1 aD aH k v) :))
noncomputable def Yaj.g {β : Type} (k : Nat) (aB : ByteArray) (aA aC : Int) (aI aF : List (List D)) (K : Bool → Option β) : Option β :=
  YA.f k aB aA aC aI aF (fun y1 y2 y3 y4 y5 y6 y7 => K ((y7 : Int) == 0))
noncomputable def Yaj.t (k : Nat) (aB : ByteArray) (aA aC : Int) (aI aF : List (List D)) : Option (Bool) := Yaj.g k aB aA aC aI aF (fun z0 => some z0)
noncomputable def Yaj.f {β : Type} (k : Nat) (aB : ByteArray) (aA aC : Int) (aI aF : List (List D)) (K : Bool → Option β) : Option β := bd1 (Yaj.t k aB aA aC aI aF) K
noncomputable def Yaj.e (k : Nat) : Zk := ent [.agg [.s, .n, .n, .l, .l]] [1] [.b] [4] false (Yaj.t k)
noncomputable def Yaj.p (k : Nat) : Pro := ⟨Try.prog, [(34, YA.e k)], Zn [] false [], k⟩
theorem Yaj.ok (k : Nat) : Za Try.prog 36 (Yaj.e k) := Zh (Yaj.p k) mix tyok Try.func36 (YA.ok k) (by kernel_rfl) (fun aB aA aC aI aF => by show _ = _; kernel_rfl)
end Go.Proofs.Ytpgplbalenfgfaa
