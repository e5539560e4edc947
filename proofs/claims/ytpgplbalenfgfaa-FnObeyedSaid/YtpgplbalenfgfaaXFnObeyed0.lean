/- Printed: the functions that FnObeyed reaches,read by the evaluator,each with its contract. -/
import Derived.Test.YtpgplbalenfgfaaTIns
import Derived.Test.YtpgplbalenfgfaaProg
import Derived.KernelRfl
set_option linter.unusedVariables false
set_option linter.unusedSimpArgs false
namespace Go.Proofs.Ytpgplbalenfgfaa
open Go Go.T Go.Proofs
theorem mix : Try.prog.follows .mixedOrders = true := by kernel_rfl
theorem tyok : Zar Try.prog := tyOk_of (by kernel_rfl)
noncomputable def Yaz.g {β : Type} (k : Nat) (a0 : LD) (K : Bool → Option β) : Option β :=
 K (decide (((a0.length : Int) : Int) > 1048576))
noncomputable def Yaz.t (k : Nat) (a0 : LD) : Option (Bool) := Yaz.g k a0 (fun z0 => some z0)
noncomputable def Yaz.f {β : Type} (k : Nat) (a0 : LD) (K : Bool → Option β) : Option β := bd1 (Yaz.t k a0) K
noncomputable def Yaz.e (k : Nat) : Zj := ent [.d .l] [1] [.b] [4] false (Yaz.t k)
noncomputable def Yaz.p (k : Nat) : Pro := ⟨Try.prog,[],Zv [] false [],k⟩
theorem Yaz.ok (k : Nat) : Zf Try.prog 11 (Yaz.e k) := Zk (Yaz.p k) mix tyok Try.func11 trivial (by kernel_rfl) (fun a0 => by show _ = _; kernel_rfl)
noncomputable def Y2.l0 {β : Type} (k : Nat) (aD : LD) (K : LD → Int → Int → Option β) (L0 : (Int × Int) → Option β) (v : Int × Int) : Option β :=
 match v with
 | (aF,aJ) => bif (decide ((aJ : Int) < (aD.length : Int))) then (bif (decide ((aJ : Int) < 4000)) then (atR aD aJ [.i .u8] fun x8 => (L0 (IntKind.wrap .i64 ((BitVec.ofInt (IntKind.bits .i64) (IntKind.wrap .i64 ((IntKind.wrap .i64 ((IntKind.wrap .i64 (aF * 137)) + (IntKind.wrap .i64 x8))) + 11)) &&& BitVec.ofInt (IntKind.bits .i64) 1073741823).toNat),IntKind.wrap .i64 (aJ + 1)))) else (K aD 0 aF)) else (K aD 0 aF)
noncomputable def Y2.m {β : Type} (k : Nat) (a0 : LD) (K : LD → Int → Int → Option β) (F : (LD → (Int × Int) → Option β)) : Option β :=
 F a0 (IntKind.wrap .i64 (138138 + (a0.length : Int)),0)
noncomputable def Y2.g {β : Type} (k : Nat) (a0 : LD) (K : LD → Int → Int → Option β) : Option β :=
 ZA (Y2.l0 k a0 K) k (IntKind.wrap .i64 (138138 + (a0.length : Int)),0)
noncomputable def Y2.t (k : Nat) (a0 : LD) : Option (LD × Int × Int) := Y2.g k a0 (fun z0 z1 z2 => some (z0,z1,z2))
noncomputable def Y2.f {β : Type} (k : Nat) (a0 : LD) (K : LD → Int → Int → Option β) : Option β := bd3 (Y2.t k a0) K
noncomputable def Y2.e (k : Nat) : Zj := ent [.d .l] [3] [.l,.n,.n] [106] true (Y2.t k)
noncomputable def Y2.p (k : Nat) : Pro := ⟨Try.prog,[],Zv [(3,kp [0,3,4])] true [],k⟩
noncomputable def Y2.d (k : Nat) (a0 : LD) : Ex → St → Option (LD × Int × Int) := (Y2.p k).fin Try.f58 [.d (.sl a0)] [3] [.l,.n,.n]
noncomputable def Y2.s0 (aD : LD) (v : Int × Int) : St :=
 match v with
 | (aF,aJ) => ZaA 32 [(0,.d false (.sl aD)),(3,.d true (.int .i64 aF)),(4,.d true (.int .i64 aJ))] []
noncomputable def Y2.r0 (k : Nat) (a0 aD : LD) (n : Nat) (v : Int × Int) : Option (LD × Int × Int) := (Y2.p k).lp (ZI Try.f58) 3 [1,1,0,1,0] (Y2.d k a0) n (Y2.s0 aD v)
theorem Y2.l0_eq (k : Nat) (a0 aD : LD) : ∀ n v,Y2.r0 k a0 aD n v = ZA (Y2.l0 k aD (fun z0 z1 z2 => some (z0,z1,z2))) n v :=
 Zz (Y2.s0 aD) _ fun L0 v => by obtain ⟨aF,aJ⟩ := v; kernel_rfl
theorem Y2.ok (k : Nat) : Zf Try.prog 58 (Y2.e k) := Zk (Y2.p k) mix tyok Try.func58 trivial (by kernel_rfl) (fun a0 => Eq.trans (b := Y2.m k a0 (fun z0 z1 z2 => some (z0,z1,z2)) (fun aD => Y2.r0 k a0 aD k)) (by kernel_rfl) (congrArg (Y2.m k a0 (fun z0 z1 z2 => some (z0,z1,z2))) (funext fun aD => funext fun v => Y2.l0_eq k a0 aD k v) :))
noncomputable def Yaf.g {β : Type} (k : Nat) (aA : LD) (aB aC : Int) (K : Int → LD → Int → Int → Option β) : Option β :=
 let J1 := (IntKind.wrap .i64 ((IntKind.wrap .i64 (aC * 6364136223846793005)) + 1442695040888963407)); let J0 := (IntKind.wrap .i64 ((BitVec.ofInt (IntKind.bits .i64) (IntKind.wrap .i64 ((BitVec.ofInt (IntKind.bits .i64) (Int.fdiv J1 (2 ^ (min (33 : Int).toNat 64))) ^^^ BitVec.ofInt (IntKind.bits .i64) (Int.fdiv J1 (2 ^ (min (47 : Int).toNat 64)))).toNat)) &&& BitVec.ofInt (IntKind.bits .i64) 255).toNat)); Zd ((0 : Int) ≤ 33) (Zd ((0 : Int) ≤ 47) (bif (decide ((aB : Int) < (aA.length : Int))) then (atR aA aB [.i .u8] fun x4 => (K (IntKind.wrap .i64 ((BitVec.ofInt (IntKind.bits .i64) (IntKind.wrap .i64 (J0 + (IntKind.wrap .i64 x4))) &&& BitVec.ofInt (IntKind.bits .i64) 255).toNat)) aA (IntKind.wrap .i64 (aB + 1)) J1)) else (K J0 aA aB J1)))
noncomputable def Yaf.t (k : Nat) (aA : LD) (aB aC : Int) : Option (Int × LD × Int × Int) := Yaf.g k aA aB aC (fun z0 z1 z2 z3 => some (z0,z1,z2,z3))
noncomputable def Yaf.f {β : Type} (k : Nat) (aA : LD) (aB aC : Int) (K : Int → LD → Int → Int → Option β) : Option β := bd4 (Yaf.t k aA aB aC) K
noncomputable def Yaf.e (k : Nat) : Zj := ent [.box 178 [.l,.n,.n]] [1] [.n,.l,.n,.n] [3] false (Yaf.t k)
noncomputable def Yaf.p (k : Nat) : Pro := ⟨Try.prog,[],Zv [] false [],k⟩
theorem Yaf.ok (k : Nat) : Zf Try.prog 174 (Yaf.e k) := Zk (Yaf.p k) mix tyok Try.func174 trivial (by kernel_rfl) (fun aA aB aC => by show _ = _; kernel_rfl)
noncomputable def Yp.g {β : Type} (k : Nat) (aA : LD) (aB aC a1 : Int) (K : Int → LD → Int → Int → Option β) : Option β :=
 bif (decide ((a1 : Int) ≤ 0)) then (K 0 aA aB aC) else (bif (decide ((a1 : Int) ≤ 256)) then (Yaf.f k aA aB aC (fun y5 y6 y7 y8 => Zd ((a1 : Int) ≠ 0) (K (Int.tmod y5 a1) y6 y7 y8))) else (Yaf.f k aA aB aC (fun y9 y10 y11 y12 => Yaf.f k y10 y11 y12 (fun y13 y14 y15 y16 => Yaf.f k y14 y15 y16 (fun y17 y18 y19 y20 => Zd ((a1 : Int) ≠ 0) (K (Int.tmod (IntKind.wrap .i64 ((IntKind.wrap .i64 ((IntKind.wrap .i64 (y9 * 65536)) + (IntKind.wrap .i64 (y13 * 256)))) + y17)) a1) y18 y19 y20))))))
noncomputable def Yp.t (k : Nat) (aA : LD) (aB aC a1 : Int) : Option (Int × LD × Int × Int) := Yp.g k aA aB aC a1 (fun z0 z1 z2 z3 => some (z0,z1,z2,z3))
noncomputable def Yp.f {β : Type} (k : Nat) (aA : LD) (aB aC a1 : Int) (K : Int → LD → Int → Int → Option β) : Option β := bd4 (Yp.t k aA aB aC a1) K
noncomputable def Yp.e (k : Nat) : Zj := ent [.box 178 [.l,.n,.n],.d .n] [1] [.n,.l,.n,.n] [3] false (Yp.t k)
noncomputable def Yp.p (k : Nat) : Pro := ⟨Try.prog,[(174,Yaf.e k)],Zv [] false [],k⟩
theorem Yp.ok (k : Nat) : Zf Try.prog 112 (Yp.e k) := Zk (Yp.p k) mix tyok Try.func112 (Yaf.ok k) (by kernel_rfl) (fun aA aB aC a1 => by show _ = _; kernel_rfl)
noncomputable def YY.g {β : Type} (k : Nat) (aA : LD) (aB aC : Int) (a1 : LD) (K : BA → LD → Int → Int → Option β) : Option β :=
 Yp.f k aA aB aC (a1.length : Int) (fun y21 y22 y23 y24 => atR a1 y21 [.s] fun x28 => (K x28 y22 y23 y24))
noncomputable def YY.t (k : Nat) (aA : LD) (aB aC : Int) (a1 : LD) : Option (BA × LD × Int × Int) := YY.g k aA aB aC a1 (fun z0 z1 z2 z3 => some (z0,z1,z2,z3))
noncomputable def YY.f {β : Type} (k : Nat) (aA : LD) (aB aC : Int) (a1 : LD) (K : BA → LD → Int → Int → Option β) : Option β := bd4 (YY.t k aA aB aC a1) K
noncomputable def YY.e (k : Nat) : Zj := ent [.box 178 [.l,.n,.n],.d .l] [1] [.s,.l,.n,.n] [9] false (YY.t k)
noncomputable def YY.p (k : Nat) : Pro := ⟨Try.prog,[(112,Yp.e k)],Zv [] false [],k⟩
theorem YY.ok (k : Nat) : Zf Try.prog 75 (YY.e k) := Zk (YY.p k) mix tyok Try.func75 (Yp.ok k) (by kernel_rfl) (fun aA aB aC a1 => by show _ = _; kernel_rfl)
noncomputable def Yam.g {β : Type} (k : Nat) (aA : LD) (aB aC : Int) (K : BA → LD → Int → Int → Option β) : Option β :=
 YY.f k aA aB aC ([[.str (⟨#[97]⟩ : BA)],[.str (⟨#[98]⟩ : BA)],[.str (⟨#[99]⟩ : BA)],[.str (⟨#[100]⟩ : BA)],[.str (⟨#[101]⟩ : BA)]] : LD) (fun y29 y30 y31 y32 => K y29 y30 y31 y32)
noncomputable def Yam.t (k : Nat) (aA : LD) (aB aC : Int) : Option (BA × LD × Int × Int) := Yam.g k aA aB aC (fun z0 z1 z2 z3 => some (z0,z1,z2,z3))
noncomputable def Yam.f {β : Type} (k : Nat) (aA : LD) (aB aC : Int) (K : BA → LD → Int → Int → Option β) : Option β := bd4 (Yam.t k aA aB aC) K
noncomputable def Yam.e (k : Nat) : Zj := ent [.box 178 [.l,.n,.n]] [1] [.s,.l,.n,.n] [9] false (Yam.t k)
noncomputable def Yam.p (k : Nat) : Pro := ⟨Try.prog,[(75,YY.e k)],Zv [] false [],k⟩
theorem Yam.ok (k : Nat) : Zf Try.prog 166 (Yam.e k) := Zk (Yam.p k) mix tyok Try.func166 (YY.ok k) (by kernel_rfl) (fun aA aB aC => by show _ = _; kernel_rfl)
noncomputable def YP.g {β : Type} (k : Nat) (aA : LD) (aB aC : Int) (a1 : LD) (K : Int → LD → Int → Int → Option β) : Option β :=
 Yp.f k aA aB aC (a1.length : Int) (fun y1 y2 y3 y4 => atR a1 y1 [.n] fun x8 => (K x8 y2 y3 y4))
noncomputable def YP.t (k : Nat) (aA : LD) (aB aC : Int) (a1 : LD) : Option (Int × LD × Int × Int) := YP.g k aA aB aC a1 (fun z0 z1 z2 z3 => some (z0,z1,z2,z3))
noncomputable def YP.f {β : Type} (k : Nat) (aA : LD) (aB aC : Int) (a1 : LD) (K : Int → LD → Int → Int → Option β) : Option β := bd4 (YP.t k aA aB aC a1) K
noncomputable def YP.e (k : Nat) : Zj := ent [.box 178 [.l,.n,.n],.d .l] [1] [.n,.l,.n,.n] [3] false (YP.t k)
noncomputable def YP.p (k : Nat) : Pro := ⟨Try.prog,[(112,Yp.e k)],Zv [] false [],k⟩
theorem YP.ok (k : Nat) : Zf Try.prog 118 (YP.e k) := Zk (YP.p k) mix tyok Try.func118 (Yp.ok k) (by kernel_rfl) (fun aA aB aC a1 => by show _ = _; kernel_rfl)
noncomputable def YF.g {β : Type} (k : Nat) (a0 a1 a2 : Int) (K : Bool → Option β) : Option β :=
 bif (decide ((a0 : Int) ≥ a1)) then (K (decide ((a0 : Int) ≤ a2))) else (K false)
noncomputable def YF.t (k : Nat) (a0 a1 a2 : Int) : Option (Bool) := YF.g k a0 a1 a2 (fun z0 => some z0)
noncomputable def YF.f {β : Type} (k : Nat) (a0 a1 a2 : Int) (K : Bool → Option β) : Option β := bd1 (YF.t k a0 a1 a2) K
noncomputable def YF.e (k : Nat) : Zj := ent [.d .n,.d .n,.d .n] [1] [.b] [4] false (YF.t k)
noncomputable def YF.p (k : Nat) : Pro := ⟨Try.prog,[],Zv [] false [],k⟩
theorem YF.ok (k : Nat) : Zf Try.prog 79 (YF.e k) := Zk (YF.p k) mix tyok Try.func79 trivial (by kernel_rfl) (fun a0 a1 a2 => by show _ = _; kernel_rfl)
noncomputable def Yj.l0 {β : Type} (k : Nat) (aD : BA) (K : Bool → Option β) (L0 : Int → Option β) (v : Int) : Option β :=
 match v with
 | aF => bif (decide ((aF : Int) < (aD.size : Int))) then (atStr aD aF fun b9 => YF.f k (IntKind.wrap .i64 b9) 97 122 (fun y10 => bif (!y10) then (atStr aD aF fun b11 => YF.f k (IntKind.wrap .i64 b11) 48 57 (fun y12 => bif (!y12) then (atStr aD aF fun b13 => bif ((b13 : Int) != 45) then (K false) else (L0 (IntKind.wrap .i64 (aF + 1)))) else (L0 (IntKind.wrap .i64 (aF + 1))))) else (L0 (IntKind.wrap .i64 (aF + 1))))) else (YF.f k (aD.size : Int) 1 20 (fun y14 => bif y14 then (atStr aD 0 fun b15 => bif ((b15 : Int) != 45) then (atStr aD (IntKind.wrap .i64 ((aD.size : Int) - 1)) fun b16 => K ((b16 : Int) != 45)) else (K false)) else (K false)))
noncomputable def Yj.m {β : Type} (k : Nat) (a0 : BA) (K : Bool → Option β) (F : (BA → Int → Option β)) : Option β :=
 F a0 (0)
noncomputable def Yj.g {β : Type} (k : Nat) (a0 : BA) (K : Bool → Option β) : Option β :=
 ZA (Yj.l0 k a0 K) k (0)
noncomputable def Yj.t (k : Nat) (a0 : BA) : Option (Bool) := Yj.g k a0 (fun z0 => some z0)
noncomputable def Yj.f {β : Type} (k : Nat) (a0 : BA) (K : Bool → Option β) : Option β := bd1 (Yj.t k a0) K
noncomputable def Yj.e (k : Nat) : Zj := ent [.d .s] [1] [.b] [4] false (Yj.t k)
noncomputable def Yj.p (k : Nat) : Pro := ⟨Try.prog,[(79,YF.e k)],Zv [(2,kp [0,3])] false [],k⟩
noncomputable def Yj.d (k : Nat) (a0 : BA) : Ex → St → Option (Bool) := (Yj.p k).fin Try.f76 [.d (.str a0)] [1] [.b]
noncomputable def Yj.s0 (aD : BA) (v : Int) : St :=
 match v with
 | aF => ZaA 46 [(0,.d false (.str aD)),(3,.d true (.int .i64 aF))] []
noncomputable def Yj.r0 (k : Nat) (a0 aD : BA) (n : Nat) (v : Int) : Option (Bool) := (Yj.p k).lp (ZI Try.f76) 2 [1,0,1,0] (Yj.d k a0) n (Yj.s0 aD v)
theorem Yj.l0_eq (k : Nat) (a0 aD : BA) : ∀ n v,Yj.r0 k a0 aD n v = ZA (Yj.l0 k aD (fun z0 => some z0)) n v :=
 Zz (Yj.s0 aD) _ fun L0 v => by kernel_rfl
theorem Yj.ok (k : Nat) : Zf Try.prog 76 (Yj.e k) := Zk (Yj.p k) mix tyok Try.func76 (YF.ok k) (by kernel_rfl) (fun a0 => Eq.trans (b := Yj.m k a0 (fun z0 => some z0) (fun aD => Yj.r0 k a0 aD k)) (by kernel_rfl) (congrArg (Yj.m k a0 (fun z0 => some z0)) (funext fun aD => funext fun v => Yj.l0_eq k a0 aD k v) :))
noncomputable def Yat.g {β : Type} (k : Nat) (a0 : BA) (a1 : Int) (K : BA → Int → Int → LC → LC → Bool → Option β) : Option β :=
 Yj.f k a0 (fun y17 => let J0 := (K (⟨#[]⟩ : BA) 0 0 ([] : LC) ([] : LC) false); bif (!y17) then J0 else (YF.f k a1 0 10000 (fun y18 => bif (!y18) then J0 else (K a0 a1 0 ([] : LC) ([] : LC) true))))
noncomputable def Yat.t (k : Nat) (a0 : BA) (a1 : Int) : Option (BA × Int × Int × LC × LC × Bool) := Yat.g k a0 a1 (fun z0 z1 z2 z3 z4 z5 => some (z0,z1,z2,z3,z4,z5))
noncomputable def Yat.f {β : Type} (k : Nat) (a0 : BA) (a1 : Int) (K : BA → Int → Int → LC → LC → Bool → Option β) : Option β := match Yat.t k a0 a1 with | some (z0,z1,z2,z3,z4,z5) => K z0 z1 z2 z3 z4 z5 | none => none
noncomputable def Yat.e (k : Nat) : Zj := ent [.d .s,.d .n] [5,1] [.s,.n,.n,.o,.o,.b] [57,4] false (Yat.t k)
noncomputable def Yat.p (k : Nat) : Pro := ⟨Try.prog,[(76,Yj.e k),(79,YF.e k)],Zv [] false [],k⟩
theorem Yat.ok (k : Nat) : Zf Try.prog 165 (Yat.e k) := Zk (Yat.p k) mix tyok Try.func165 ⟨Yj.ok k,YF.ok k⟩ (by kernel_rfl) (fun a0 a1 => by show _ = _; kernel_rfl)
noncomputable def Y7.g {β : Type} (k : Nat) (aA : LD) (aB aC a1 : Int) (K : Bool → LD → Int → Int → Option β) : Option β :=
 Yp.f k aA aB aC a1 (fun y1 y2 y3 y4 => K ((y1 : Int) == 0) y2 y3 y4)
noncomputable def Y7.t (k : Nat) (aA : LD) (aB aC a1 : Int) : Option (Bool × LD × Int × Int) := Y7.g k aA aB aC a1 (fun z0 z1 z2 z3 => some (z0,z1,z2,z3))
noncomputable def Y7.f {β : Type} (k : Nat) (aA : LD) (aB aC a1 : Int) (K : Bool → LD → Int → Int → Option β) : Option β := bd4 (Y7.t k aA aB aC a1) K
noncomputable def Y7.e (k : Nat) : Zj := ent [.box 178 [.l,.n,.n],.d .n] [1] [.b,.l,.n,.n] [4] false (Y7.t k)
noncomputable def Y7.p (k : Nat) : Pro := ⟨Try.prog,[(112,Yp.e k)],Zv [] false [],k⟩
theorem Y7.ok (k : Nat) : Zf Try.prog 81 (Y7.e k) := Zk (Y7.p k) mix tyok Try.func81 (Yp.ok k) (by kernel_rfl) (fun aA aB aC a1 => by show _ = _; kernel_rfl)
noncomputable def Yae.g {β : Type} (k : Nat) (aA : LD) (aB aC : Int) (K : BA → LD → Int → Int → Option β) : Option β :=
 YY.f k aA aB aC ([[.str (⟨#[97]⟩ : BA)],[.str (⟨#[98]⟩ : BA)],[.str (⟨#[99]⟩ : BA)],[.str (⟨#[122,111,110,101]⟩ : BA)],[.str (⟨#[116,105,101,114]⟩ : BA)],[.str (⟨#[103,111,108,100]⟩ : BA)],[.str (⟨#[101,97,115,116]⟩ : BA)],[.str (⟨#[120,45,49]⟩ : BA)],[.str (⟨#[97,98,99,100,101,102,103,104,105,106,107,108,109,110,111,112,113,114,115,116]⟩ : BA)]] : LD) (fun y1 y2 y3 y4 => K y1 y2 y3 y4)
noncomputable def Yae.t (k : Nat) (aA : LD) (aB aC : Int) : Option (BA × LD × Int × Int) := Yae.g k aA aB aC (fun z0 z1 z2 z3 => some (z0,z1,z2,z3))
noncomputable def Yae.f {β : Type} (k : Nat) (aA : LD) (aB aC : Int) (K : BA → LD → Int → Int → Option β) : Option β := bd4 (Yae.t k aA aB aC) K
noncomputable def Yae.e (k : Nat) : Zj := ent [.box 178 [.l,.n,.n]] [1] [.s,.l,.n,.n] [9] false (Yae.t k)
noncomputable def Yae.p (k : Nat) : Pro := ⟨Try.prog,[(75,YY.e k)],Zv [] false [],k⟩
theorem Yae.ok (k : Nat) : Zf Try.prog 84 (Yae.e k) := Zk (Yae.p k) mix tyok Try.func84 (YY.ok k) (by kernel_rfl) (fun aA aB aC => by show _ = _; kernel_rfl)
noncomputable def Yz.l0 {β : Type} (k : Nat) (aD : LD) (aF : BA) (K : BA → Bool → Option β) (L0 : Int → Option β) (v : Int) : Option β :=
 match v with
 | aJ => bif (decide ((aJ : Int) < (aD.length : Int))) then (atR aD aJ [.s,.s] fun x18 x21 => (bif (Zae x18 aF) then (atR aD aJ [.s,.s] fun x25 x28 => (K x28 true)) else (L0 (IntKind.wrap .i64 (aJ + 1))))) else (K (⟨#[]⟩ : BA) false)
noncomputable def Yz.m {β : Type} (k : Nat) (a0 : LD) (a1 : BA) (K : BA → Bool → Option β) (F : (LD → BA → Int → Option β)) : Option β :=
 F a0 a1 (0)
noncomputable def Yz.g {β : Type} (k : Nat) (a0 : LD) (a1 : BA) (K : BA → Bool → Option β) : Option β :=
 ZA (Yz.l0 k a0 a1 K) k (0)
noncomputable def Yz.t (k : Nat) (a0 : LD) (a1 : BA) : Option (BA × Bool) := Yz.g k a0 a1 (fun z0 z1 => some (z0,z1))
noncomputable def Yz.f {β : Type} (k : Nat) (a0 : LD) (a1 : BA) (K : BA → Bool → Option β) : Option β := bd2 (Yz.t k a0 a1) K
noncomputable def Yz.e (k : Nat) : Zj := ent [.d .l,.d .s] [1,1] [.s,.b] [9,4] false (Yz.t k)
noncomputable def Yz.p (k : Nat) : Pro := ⟨Try.prog,[],Zv [(2,kp [0,1,6])] false [],k⟩
noncomputable def Yz.d (k : Nat) (a0 : LD) (a1 : BA) : Ex → St → Option (BA × Bool) := (Yz.p k).fin Try.f158 [.d (.sl a0),.d (.str a1)] [1,1] [.s,.b]
noncomputable def Yz.s0 (aD : LD) (aF : BA) (v : Int) : St :=
 match v with
 | aJ => ZaA 25 [(0,.d false (.sl aD)),(1,.d false (.str aF)),(6,.d true (.int .i64 aJ))] []
noncomputable def Yz.r0 (k : Nat) (a0 : LD) (a1 : BA) (aD : LD) (aF : BA) (n : Nat) (v : Int) : Option (BA × Bool) := (Yz.p k).lp (ZI Try.f158) 2 [1,0,1,0] (Yz.d k a0 a1) n (Yz.s0 aD aF v)
theorem Yz.l0_eq (k : Nat) (a0 : LD) (a1 : BA) (aD : LD) (aF : BA) : ∀ n v,Yz.r0 k a0 a1 aD aF n v = ZA (Yz.l0 k aD aF (fun z0 z1 => some (z0,z1))) n v :=
 Zz (Yz.s0 aD aF) _ fun L0 v => by kernel_rfl
theorem Yz.ok (k : Nat) : Zf Try.prog 158 (Yz.e k) := Zk (Yz.p k) mix tyok Try.func158 trivial (by kernel_rfl) (fun a0 a1 => Eq.trans (b := Yz.m k a0 a1 (fun z0 z1 => some (z0,z1)) (fun aD aF => Yz.r0 k a0 a1 aD aF k)) (by kernel_rfl) (congrArg (Yz.m k a0 a1 (fun z0 z1 => some (z0,z1))) (funext fun aD => funext fun aF => funext fun v => Yz.l0_eq k a0 a1 aD aF k v) :))
noncomputable def YA.l0 {β : Type} (k : Nat) (aD : LD) (K : Bool → Option β) (L0 : Int → Option β) (v : Int) : Option β :=
 match v with
 | aF => bif (decide ((aF : Int) < (aD.length : Int))) then (atR aD aF [.s,.s] fun x34 x37 => (Yj.f k x34 (fun y38 => bif (!y38) then (K false) else (atR aD aF [.s,.s] fun x42 x45 => (Yj.f k x45 (fun y46 => bif (!y46) then (K false) else (bif (decide ((aF : Int) > 0)) then (atR aD (IntKind.wrap .i64 (aF - 1)) [.s,.s] fun x50 x53 => (atR aD aF [.s,.s] fun x57 x60 => (bif (!(strLt x50 x57)) then (K false) else (L0 (IntKind.wrap .i64 (aF + 1)))))) else (L0 (IntKind.wrap .i64 (aF + 1)))))))))) else (K (decide (((aD.length : Int) : Int) ≤ 8)))
noncomputable def YA.m {β : Type} (k : Nat) (a0 : LD) (K : Bool → Option β) (F : (LD → Int → Option β)) : Option β :=
 F a0 (0)
noncomputable def YA.g {β : Type} (k : Nat) (a0 : LD) (K : Bool → Option β) : Option β :=
 ZA (YA.l0 k a0 K) k (0)
noncomputable def YA.t (k : Nat) (a0 : LD) : Option (Bool) := YA.g k a0 (fun z0 => some z0)
noncomputable def YA.f {β : Type} (k : Nat) (a0 : LD) (K : Bool → Option β) : Option β := bd1 (YA.t k a0) K
noncomputable def YA.e (k : Nat) : Zj := ent [.d .l] [1] [.b] [4] false (YA.t k)
noncomputable def YA.p (k : Nat) : Pro := ⟨Try.prog,[(76,Yj.e k)],Zv [(2,kp [0,3])] false [],k⟩
noncomputable def YA.d (k : Nat) (a0 : LD) : Ex → St → Option (Bool) := (YA.p k).fin Try.f94 [.d (.sl a0)] [1] [.b]
noncomputable def YA.s0 (aD : LD) (v : Int) : St :=
 match v with
 | aF => ZaA 47 [(0,.d false (.sl aD)),(3,.d true (.int .i64 aF))] []
noncomputable def YA.r0 (k : Nat) (a0 aD : LD) (n : Nat) (v : Int) : Option (Bool) := (YA.p k).lp (ZI Try.f94) 2 [1,0,1,0] (YA.d k a0) n (YA.s0 aD v)
theorem YA.l0_eq (k : Nat) (a0 aD : LD) : ∀ n v,YA.r0 k a0 aD n v = ZA (YA.l0 k aD (fun z0 => some z0)) n v :=
 Zz (YA.s0 aD) _ fun L0 v => by kernel_rfl
theorem YA.ok (k : Nat) : Zf Try.prog 94 (YA.e k) := Zk (YA.p k) mix tyok Try.func94 (Yj.ok k) (by kernel_rfl) (fun a0 => Eq.trans (b := YA.m k a0 (fun z0 => some z0) (fun aD => YA.r0 k a0 aD k)) (by kernel_rfl) (congrArg (YA.m k a0 (fun z0 => some z0)) (funext fun aD => funext fun v => YA.l0_eq k a0 aD k v) :))
noncomputable def Yad.g {β : Type} (k : Nat) (a0 : LD) (K : LC → Option β) : Option β :=
 Zd (Zcg 2 a0) (Zd (([] : LC).length + (a0.map (·.map C.d)).length ≤ Z8) (K (([] : LC) ++ (a0.map (·.map C.d)))))
noncomputable def Yad.t (k : Nat) (a0 : LD) : Option (LC) := Yad.g k a0 (fun z0 => some z0)
noncomputable def Yad.f {β : Type} (k : Nat) (a0 : LD) (K : LC → Option β) : Option β := bd1 (Yad.t k a0) K
noncomputable def Yad.e (k : Nat) : Zj := ent [.d .l] [1] [.o] [45] false (Yad.t k)
noncomputable def Yad.p (k : Nat) : Pro := ⟨Try.prog,[],Zv [] false [],k⟩
theorem Yad.ok (k : Nat) : Zf Try.prog 245 (Yad.e k) := Zk (Yad.p k) mix tyok Try.func245 trivial (by kernel_rfl) (fun a0 => by show _ = _; kernel_rfl)
noncomputable def Yx.l1 {β : Type} (k : Nat) (aU : LD) (aR aX : BA) (K : LC → Bool → Option β) (L1 : (Bool × Int × LC) → Option β) (v : Bool × Int × LC) : Option β :=
 match v with
 | (aY,aZ,bD) => let J0 := (bD.length + ([[.d (.str aR),.d (.str aX)]] : LC).length ≤ Z8); let J1 := (bD ++ ([[.d (.str aR),.d (.str aX)]] : LC)); bif (decide ((aZ : Int) < (aU.length : Int))) then (bif (!aY) then (atR aU aZ [.s,.s] fun x218 x221 => (bif (!(strLt x218 aR)) then (Zd J0 (atR aU aZ [.s,.s] fun x225 x228 => (bif (!(Zae x225 aR)) then (atR aU aZ [.s,.s] fun x232 x235 => (Zd (J1.length + ([[.d (.str x232),.d (.str x235)]] : LC).length ≤ Z8) (L1 (true,IntKind.wrap .i64 (aZ + 1),J1 ++ ([[.d (.str x232),.d (.str x235)]] : LC))))) else (L1 (true,IntKind.wrap .i64 (aZ + 1),bD ++ ([[.d (.str aR),.d (.str aX)]] : LC)))))) else (atR aU aZ [.s,.s] fun x239 x242 => (bif (!(Zae x239 aR)) then (atR aU aZ [.s,.s] fun x246 x249 => (Zd (bD.length + ([[.d (.str x246),.d (.str x249)]] : LC).length ≤ Z8) (L1 (aY,IntKind.wrap .i64 (aZ + 1),bD ++ ([[.d (.str x246),.d (.str x249)]] : LC))))) else (L1 (aY,IntKind.wrap .i64 (aZ + 1),bD)))))) else (atR aU aZ [.s,.s] fun x253 x256 => (bif (!(Zae x253 aR)) then (atR aU aZ [.s,.s] fun x260 x263 => (Zd (bD.length + ([[.d (.str x260),.d (.str x263)]] : LC).length ≤ Z8) (L1 (aY,IntKind.wrap .i64 (aZ + 1),bD ++ ([[.d (.str x260),.d (.str x263)]] : LC))))) else (L1 (aY,IntKind.wrap .i64 (aZ + 1),bD))))) else (bif (!aY) then (Zd J0 (K J1 true)) else (K bD true))
noncomputable def Yx.l0 {β : Type} (k : Nat) (aD : LD) (aF aJ : BA) (K : LC → Bool → Option β) (L0 : (Bool × Int × LC) → Option β) (v : Bool × Int × LC) : Option β :=
 match v with
 | (aK,aL,aM) => let J0 := (aM.length + ([[.d (.str aF),.d (.str aJ)]] : LC).length ≤ Z8); let J1 := (aM ++ ([[.d (.str aF),.d (.str aJ)]] : LC)); bif (decide ((aL : Int) < (aD.length : Int))) then (bif (!aK) then (atR aD aL [.s,.s] fun x120 x123 => (bif (!(strLt x120 aF)) then (Zd J0 (atR aD aL [.s,.s] fun x127 x130 => (bif (!(Zae x127 aF)) then (atR aD aL [.s,.s] fun x134 x137 => (Zd (J1.length + ([[.d (.str x134),.d (.str x137)]] : LC).length ≤ Z8) (L0 (true,IntKind.wrap .i64 (aL + 1),J1 ++ ([[.d (.str x134),.d (.str x137)]] : LC))))) else (L0 (true,IntKind.wrap .i64 (aL + 1),aM ++ ([[.d (.str aF),.d (.str aJ)]] : LC)))))) else (atR aD aL [.s,.s] fun x141 x144 => (bif (!(Zae x141 aF)) then (atR aD aL [.s,.s] fun x148 x151 => (Zd (aM.length + ([[.d (.str x148),.d (.str x151)]] : LC).length ≤ Z8) (L0 (aK,IntKind.wrap .i64 (aL + 1),aM ++ ([[.d (.str x148),.d (.str x151)]] : LC))))) else (L0 (aK,IntKind.wrap .i64 (aL + 1),aM)))))) else (atR aD aL [.s,.s] fun x155 x158 => (bif (!(Zae x155 aF)) then (atR aD aL [.s,.s] fun x162 x165 => (Zd (aM.length + ([[.d (.str x162),.d (.str x165)]] : LC).length ≤ Z8) (L0 (aK,IntKind.wrap .i64 (aL + 1),aM ++ ([[.d (.str x162),.d (.str x165)]] : LC))))) else (L0 (aK,IntKind.wrap .i64 (aL + 1),aM))))) else (bif (!aK) then (Zd J0 (K J1 true)) else (K aM true))
noncomputable def Yx.m {β : Type} (k : Nat) (a0 : LD) (a1 a2 : BA) (K : LC → Bool → Option β) (F : (LD → BA → BA → (Bool × Int × LC) → Option β) × (LD → BA → BA → (Bool × Int × LC) → Option β)) : Option β :=
 Yz.f k a0 a1 (fun y29 y30 => YA.f k a0 (fun y61 => bif (!y61) then (Yad.f k a0 (fun y62 => K y62 false)) else (Yj.f k a1 (fun y63 => bif (!y63) then (Yad.f k a0 (fun y64 => K y64 false)) else (Yj.f k a2 (fun y65 => bif (!y65) then (Yad.f k a0 (fun y66 => K y66 false)) else (bif (!y30) then (bif (((a0.length : Int) : Int) == 8) then (Yad.f k a0 (fun y67 => K y67 false)) else (F.1 a0 a1 a2 (false,0,([] : LC)))) else (F.2 a0 a1 a2 (false,0,([] : LC))))))))))
noncomputable def Yx.g {β : Type} (k : Nat) (a0 : LD) (a1 a2 : BA) (K : LC → Bool → Option β) : Option β := Yx.m k a0 a1 a2 K ((fun aD aF aJ => ZA (Yx.l0 k aD aF aJ K) k),(fun aU aR aX => ZA (Yx.l1 k aU aR aX K) k))
noncomputable def Yx.t (k : Nat) (a0 : LD) (a1 a2 : BA) : Option (LC × Bool) := Yx.g k a0 a1 a2 (fun z0 z1 => some (z0,z1))
noncomputable def Yx.f {β : Type} (k : Nat) (a0 : LD) (a1 a2 : BA) (K : LC → Bool → Option β) : Option β := bd2 (Yx.t k a0 a1 a2) K
noncomputable def Yx.e (k : Nat) : Zj := ent [.d .l,.d .s,.d .s] [1,1] [.o,.b] [45,4] false (Yx.t k)
noncomputable def Yx.p (k : Nat) : Pro := ⟨Try.prog,[(158,Yz.e k),(94,YA.e k),(245,Yad.e k),(76,Yj.e k)],Zv [(7,kp [0,1,2,10,11,12])] false [],k⟩
noncomputable def Yx.d (k : Nat) (a0 : LD) (a1 a2 : BA) : Ex → St → Option (LC × Bool) := (Yx.p k).fin Try.f211 [.d (.sl a0),.d (.str a1),.d (.str a2)] [1,1] [.o,.b]
noncomputable def Yx.s0 (aD : LD) (aF aJ : BA) (v : Bool × Int × LC) : St :=
 match v with
 | (aK,aL,aM) => ZaA 90 [(0,.d false (.sl aD)),(1,.d false (.str aF)),(2,.d false (.str aJ)),(10,.row 0),(11,.d true (.bool aK)),(12,.d true (.int .i64 aL))] [.row none true 45 aM]
noncomputable def Yx.r0 (k : Nat) (a0 : LD) (a1 a2 : BA) (aD : LD) (aF aJ : BA) (n : Nat) (v : Bool × Int × LC) : Option (LC × Bool) := (Yx.p k).lp (ZI Try.f211) 7 [1,1,1,1,1,0,1,0] (Yx.d k a0 a1 a2) n (Yx.s0 aD aF aJ v)
noncomputable def Yx.s1 (aU : LD) (aR aX : BA) (v : Bool × Int × LC) : St :=
 match v with
 | (aY,aZ,bD) => ZaA 90 [(0,.d false (.sl aU)),(1,.d false (.str aR)),(2,.d false (.str aX)),(10,.row 0),(11,.d true (.bool aY)),(12,.d true (.int .i64 aZ))] [.row none true 45 bD]
noncomputable def Yx.r1 (k : Nat) (a0 : LD) (a1 a2 : BA) (aU : LD) (aR aX : BA) (n : Nat) (v : Bool × Int × LC) : Option (LC × Bool) := (Yx.p k).lp (ZI Try.f211) 7 [1,1,1,1,1,0,1,0] (Yx.d k a0 a1 a2) n (Yx.s1 aU aR aX v)
theorem Yx.l1_eq (k : Nat) (a0 : LD) (a1 a2 : BA) (aU : LD) (aR aX : BA) : ∀ n v,Yx.r1 k a0 a1 a2 aU aR aX n v = ZA (Yx.l1 k aU aR aX (fun z0 z1 => some (z0,z1))) n v :=
 Zz (Yx.s1 aU aR aX) _ fun L1 v => by obtain ⟨aY,aZ,bD⟩ := v; kernel_rfl
theorem Yx.l0_eq (k : Nat) (a0 : LD) (a1 a2 : BA) (aD : LD) (aF aJ : BA) : ∀ n v,Yx.r0 k a0 a1 a2 aD aF aJ n v = ZA (Yx.l0 k aD aF aJ (fun z0 z1 => some (z0,z1))) n v :=
 Zz (Yx.s0 aD aF aJ) _ fun L0 v => by obtain ⟨aK,aL,aM⟩ := v; kernel_rfl
theorem Yx.ok (k : Nat) : Zf Try.prog 211 (Yx.e k) := Zk (Yx.p k) mix tyok Try.func211 ⟨Yz.ok k,YA.ok k,Yad.ok k,Yj.ok k⟩ (by kernel_rfl) (fun a0 a1 a2 => Eq.trans (b := Yx.m k a0 a1 a2 (fun z0 z1 => some (z0,z1)) ((fun aD aF aJ => Yx.r0 k a0 a1 a2 aD aF aJ k),(fun aU aR aX => Yx.r1 k a0 a1 a2 aU aR aX k))) (by kernel_rfl) (congrArg (Yx.m k a0 a1 a2 (fun z0 z1 => some (z0,z1))) (pair_eq (funext fun aD => funext fun aF => funext fun aJ => funext fun v => Yx.l0_eq k a0 a1 a2 aD aF aJ k v) (funext fun aU => funext fun aR => funext fun aX => funext fun v => Yx.l1_eq k a0 a1 a2 aU aR aX k v)) :))
noncomputable def YO.l0 {β : Type} (k : Nat) (K : LC → LD → Int → Int → Option β) (L0 : (Int × LD × Int × Int × LC) → Option β) (v : Int × LD × Int × Int × LC) : Option β :=
 match v with
 | (aD,aF,aJ,aK,aL) => bif (decide ((aD : Int) > 0)) then (Yae.f k aF aJ aK (fun y266 y267 y268 y269 => Yae.f k y267 y268 y269 (fun y270 y271 y272 y273 => Yx.f k (C.immRows aL) y266 y270 (fun y274 y275 => L0 (IntKind.wrap .i64 (aD - 1),y271,y272,y273,y274))))) else (K aL aF aJ aK)
noncomputable def YO.m {β : Type} (k : Nat) (aA : LD) (aB aC a1 : Int) (K : LC → LD → Int → Int → Option β) (F : ((Int × LD × Int × Int × LC) → Option β)) : Option β :=
 Yp.f k aA aB aC a1 (fun y1 y2 y3 y4 => F (y1,y2,y3,y4,([] : LC)))
noncomputable def YO.g {β : Type} (k : Nat) (aA : LD) (aB aC a1 : Int) (K : LC → LD → Int → Int → Option β) : Option β :=
 Yp.f k aA aB aC a1 (fun y1 y2 y3 y4 => ZA (YO.l0 k K) k (y1,y2,y3,y4,([] : LC)))
noncomputable def YO.t (k : Nat) (aA : LD) (aB aC a1 : Int) : Option (LC × LD × Int × Int) := YO.g k aA aB aC a1 (fun z0 z1 z2 z3 => some (z0,z1,z2,z3))
noncomputable def YO.f {β : Type} (k : Nat) (aA : LD) (aB aC a1 : Int) (K : LC → LD → Int → Int → Option β) : Option β := bd4 (YO.t k aA aB aC a1) K
noncomputable def YO.e (k : Nat) : Zj := ent [.box 178 [.l,.n,.n],.d .n] [1] [.o,.l,.n,.n] [45] false (YO.t k)
noncomputable def YO.p (k : Nat) : Pro := ⟨Try.prog,[(112,Yp.e k),(84,Yae.e k),(211,Yx.e k)],Zv [(3,kp [0,5,6])] false [],k⟩
noncomputable def YO.d (k : Nat) (aA : LD) (aB aC a1 : Int) : Ex → St → Option (LC × LD × Int × Int) := (YO.p k).fin Try.f157 [.box [.d (.sl aA),.d (.int .i64 aB),.d (.int .i64 aC)],.d (.int .i64 a1)] [1] [.o,.l,.n,.n]
noncomputable def YO.s0 (v : Int × LD × Int × Int × LC) : St :=
 match v with
 | (aD,aF,aJ,aK,aL) => ZaA 25 [(0,.bp 0 0),(5,.row 1),(6,.d true (.int .i64 aD))] [.box (some 0) 178 [.d false (.sl aF),.d false (.int .i64 aJ),.d false (.int .i64 aK)],.row none true 45 aL]
noncomputable def YO.r0 (k : Nat) (aA : LD) (aB aC a1 : Int) (n : Nat) (v : Int × LD × Int × Int × LC) : Option (LC × LD × Int × Int) := (YO.p k).lp (ZI Try.f157) 3 [1,1,0,1,0] (YO.d k aA aB aC a1) n (YO.s0 v)
theorem YO.l0_eq (k : Nat) (aA : LD) (aB aC a1 : Int) : ∀ n v,YO.r0 k aA aB aC a1 n v = ZA (YO.l0 k (fun z0 z1 z2 z3 => some (z0,z1,z2,z3))) n v :=
 Zz (YO.s0) _ fun L0 v => by obtain ⟨aD,aF,aJ,aK,aL⟩ := v; kernel_rfl
theorem YO.ok (k : Nat) : Zf Try.prog 157 (YO.e k) := Zk (YO.p k) mix tyok Try.func157 ⟨Yp.ok k,Yae.ok k,Yx.ok k⟩ (by kernel_rfl) (fun aA aB aC a1 => Eq.trans (b := YO.m k aA aB aC a1 (fun z0 z1 z2 z3 => some (z0,z1,z2,z3)) (YO.r0 k aA aB aC a1 k)) (by kernel_rfl) (congrArg (YO.m k aA aB aC a1 (fun z0 z1 z2 z3 => some (z0,z1,z2,z3))) (funext fun v => YO.l0_eq k aA aB aC a1 k v) :))
noncomputable def Yh.l5 {β : Type} (k : Nat) (r_spec_l4Draw : LD → Int → Int → Int → (Int → BA → Int → LC → LC → LD → Int → Int → Option β) → Option β) (cC bL : Int) (v5_6 : BA) (cL bN : Int) (v5_9 : BA) (v5_10 : Int) (v5_11 : LC) (K : Int → BA → Int → LC → LC → LD → Int → Int → Option β) (L5 : (Int × LD × Int × Int × LC × LC) → Option β) (v : Int × LD × Int × Int × LC × LC) : Option β :=
 match v with
 | (v5_1,bZ,bX,bU,v5_12,v5_13) => bif (decide ((v5_1 : Int) < (v5_11.length : Int))) then (Zd ((0 : Int) ≤ v5_1 ∧ v5_1 < (v5_11.length : Int)) (ZaR v5_11 (Int.toNat v5_1) fun c417 => ZaJ (c417.drop 0) fun c418 r => cD c418 fun d => dStr d fun x421 => Zd (v5_12.length + ([[.d (.str x421)]] : LC).length ≤ Z8) (r_spec_l4Draw bZ bX bU (IntKind.wrap .i64 (cC - 1)) (fun y422 y423 y424 y425 y426 y427 y428 y429 => Zd (v5_13.length + ([[.d (.int .i64 y422),.d (.str y423),.d (.int .i64 y424),.own y425,.own y426]] : LC).length ≤ Z8) (L5 (IntKind.wrap .i64 (v5_1 + 1),y427,y428,y429,v5_12 ++ ([[.d (.str x421)]] : LC),v5_13 ++ ([[.d (.int .i64 y422),.d (.str y423),.d (.int .i64 y424),.own y425,.own y426]] : LC))))))) else (K bN v5_9 v5_10 v5_12 v5_13 bZ bX bU)
noncomputable def Yh.l4 {β : Type} (k : Nat) (r_spec_l4Draw : LD → Int → Int → Int → (Int → BA → Int → LC → LC → LD → Int → Int → Option β) → Option β) (cE bM : Int) (v4_6 : BA) (cM bO : Int) (v4_9 : BA) (v4_10 : Int) (K : Int → BA → Int → LC → LC → LD → Int → Int → Option β) (L4 : (Int × LD × Int × Int × LC) → Option β) (v : Int × LD × Int × Int × LC) : Option β :=
 match v with
 | (v4_1,cA,bY,bV,v4_11) => bif (decide ((v4_1 : Int) > 0)) then (r_spec_l4Draw cA bY bV (IntKind.wrap .i64 (cE - 1)) (fun y392 y393 y394 y395 y396 y397 y398 y399 => Zd (v4_11.length + ([[.d (.int .i64 y392),.d (.str y393),.d (.int .i64 y394),.own y395,.own y396]] : LC).length ≤ Z8) (L4 (IntKind.wrap .i64 (v4_1 - 1),y397,y398,y399,v4_11 ++ ([[.d (.int .i64 y392),.d (.str y393),.d (.int .i64 y394),.own y395,.own y396]] : LC))))) else (K bO v4_9 v4_10 ([] : LC) v4_11 cA bY bV)
noncomputable def Yh.l3 {β : Type} (k : Nat) (r_spec_l4Draw : LD → Int → Int → Int → (Int → BA → Int → LC → LC → LD → Int → Int → Option β) → Option β) (cH v3_5 : Int) (v3_6 : BA) (v3_7 v3_8 : Int) (v3_9 : BA) (v3_10 : Int) (v3_11 : LC) (K : Int → BA → Int → LC → LC → LD → Int → Int → Option β) (L3 : (Int × LD × Int × Int × LC × LC) → Option β) (v : Int × LD × Int × Int × LC × LC) : Option β :=
 match v with
 | (v3_1,v3_2,v3_3,v3_4,v3_12,v3_13) => bif (decide ((v3_1 : Int) < (v3_11.length : Int))) then (Zd ((0 : Int) ≤ v3_1 ∧ v3_1 < (v3_11.length : Int)) (ZaR v3_11 (Int.toNat v3_1) fun c355 => ZaJ (c355.drop 0) fun c356 r => cD c356 fun d => dStr d fun x359 => Zd (v3_12.length + ([[.d (.str x359)]] : LC).length ≤ Z8) (r_spec_l4Draw v3_2 v3_3 v3_4 (IntKind.wrap .i64 (cH - 1)) (fun y360 y361 y362 y363 y364 y365 y366 y367 => Zd (v3_13.length + ([[.d (.int .i64 y360),.d (.str y361),.d (.int .i64 y362),.own y363,.own y364]] : LC).length ≤ Z8) (L3 (IntKind.wrap .i64 (v3_1 + 1),y365,y366,y367,v3_12 ++ ([[.d (.str x359)]] : LC),v3_13 ++ ([[.d (.int .i64 y360),.d (.str y361),.d (.int .i64 y362),.own y363,.own y364]] : LC))))))) else (K v3_8 v3_9 v3_10 v3_12 v3_13 v3_2 v3_3 v3_4)
noncomputable def Yh.l2 {β : Type} (k : Nat) (r_spec_l4Draw : LD → Int → Int → Int → (Int → BA → Int → LC → LC → LD → Int → Int → Option β) → Option β) (bG cO : Int) (cP : BA) (cQ cJ : Int) (cK : BA) (cN : Int) (K : Int → BA → Int → LC → LC → LD → Int → Int → Option β) (L2 : (Int × LD × Int × Int × LC) → Option β) (v : Int × LD × Int × Int × LC) : Option β :=
 match v with
 | (bR,cF,bP,cR,v2_11) => bif (decide ((bR : Int) > 0)) then (r_spec_l4Draw cF bP cR (IntKind.wrap .i64 (bG - 1)) (fun y330 y331 y332 y333 y334 y335 y336 y337 => Zd (v2_11.length + ([[.d (.int .i64 y330),.d (.str y331),.d (.int .i64 y332),.own y333,.own y334]] : LC).length ≤ Z8) (L2 (IntKind.wrap .i64 (bR - 1),y335,y336,y337,v2_11 ++ ([[.d (.int .i64 y330),.d (.str y331),.d (.int .i64 y332),.own y333,.own y334]] : LC))))) else (K cJ cK cN ([] : LC) v2_11 cF bP cR)
noncomputable def Yh.l1 {β : Type} (k : Nat) (r_spec_l4Draw : LD → Int → Int → Int → (Int → BA → Int → LC → LC → LD → Int → Int → Option β) → Option β) (aU bD : Int) (bF : BA) (bH bJ : Int) (bK : BA) (bI : Int) (bT : LC) (K : Int → BA → Int → LC → LC → LD → Int → Int → Option β) (L1 : (Int × LD × Int × Int × LC × LC) → Option β) (v : Int × LD × Int × Int × LC × LC) : Option β :=
 match v with
 | (aR,aX,aY,aZ,cG,v1_13) => bif (decide ((aR : Int) < (bT.length : Int))) then (Zd ((0 : Int) ≤ aR ∧ aR < (bT.length : Int)) (ZaR bT (Int.toNat aR) fun c293 => ZaJ (c293.drop 0) fun c294 r => cD c294 fun d => dStr d fun x297 => Zd (cG.length + ([[.d (.str x297)]] : LC).length ≤ Z8) (r_spec_l4Draw aX aY aZ (IntKind.wrap .i64 (aU - 1)) (fun y298 y299 y300 y301 y302 y303 y304 y305 => Zd (v1_13.length + ([[.d (.int .i64 y298),.d (.str y299),.d (.int .i64 y300),.own y301,.own y302]] : LC).length ≤ Z8) (L1 (IntKind.wrap .i64 (aR + 1),y303,y304,y305,cG ++ ([[.d (.str x297)]] : LC),v1_13 ++ ([[.d (.int .i64 y298),.d (.str y299),.d (.int .i64 y300),.own y301,.own y302]] : LC))))))) else (K bJ bK bI cG v1_13 aX aY aZ)
noncomputable def Yh.l0 {β : Type} (k : Nat) (r_spec_l4Draw : LD → Int → Int → Int → (Int → BA → Int → LC → LC → LD → Int → Int → Option β) → Option β) (aD aM : Int) (aN : BA) (aO aQ : Int) (aP : BA) (aT : Int) (K : Int → BA → Int → LC → LC → LD → Int → Int → Option β) (L0 : (Int × LD × Int × Int × LC) → Option β) (v : Int × LD × Int × Int × LC) : Option β :=
 match v with
 | (aF,aJ,aK,aL,bE) => bif (decide ((aF : Int) > 0)) then (r_spec_l4Draw aJ aK aL (IntKind.wrap .i64 (aD - 1)) (fun y29 y30 y31 y32 y33 y34 y35 y36 => Zd (bE.length + ([[.d (.int .i64 y29),.d (.str y30),.d (.int .i64 y31),.own y32,.own y33]] : LC).length ≤ Z8) (L0 (IntKind.wrap .i64 (aF - 1),y34,y35,y36,bE ++ ([[.d (.int .i64 y29),.d (.str y30),.d (.int .i64 y31),.own y32,.own y33]] : LC))))) else (K aQ aP aT ([] : LC) bE aJ aK aL)
set_option maxRecDepth 100000 in
noncomputable def Yh.m {β : Type} (k : Nat) (r_spec_l4Draw : LD → Int → Int → Int → (Int → BA → Int → LC → LC → LD → Int → Int → Option β) → Option β) (aA : LD) (aB aC a1 : Int) (K : Int → BA → Int → LC → LC → LD → Int → Int → Option β) (F : (Int → Int → BA → Int → Int → BA → Int → (Int × LD × Int × Int × LC) → Option β) × (Int → Int → BA → Int → Int → BA → Int → LC → (Int × LD × Int × Int × LC × LC) → Option β) × (Int → Int → BA → Int → Int → BA → Int → (Int × LD × Int × Int × LC) → Option β) × (Int → Int → BA → Int → Int → BA → Int → LC → (Int × LD × Int × Int × LC × LC) → Option β) × (Int → Int → BA → Int → Int → BA → Int → (Int × LD × Int × Int × LC) → Option β) × (Int → Int → BA → Int → Int → BA → Int → LC → (Int × LD × Int × Int × LC × LC) → Option β)) : Option β :=
 Yp.f k aA aB aC 5 (fun y1 y2 y3 y4 => let J0 := (K (IntKind.wrap .i64 (1 + y1)) (⟨#[]⟩ : BA) 0 ([] : LC) ([] : LC) y2 y3 y4); bif (decide ((a1 : Int) ≤ 1)) then (bif (decide (((IntKind.wrap .i64 (1 + y1)) : Int) > 3)) then (bif ((2 : Int) == 1) then (YY.f k y2 y3 y4 ([[.str (⟨#[]⟩ : BA)],[.str (⟨#[97]⟩ : BA)],[.str (⟨#[120,32,121]⟩ : BA)],[.str (⟨#[34]⟩ : BA)],[.str (⟨#[92,110]⟩ : BA)],[.str (⟨#[105,109,97,103,101,58,49]⟩ : BA)]] : LD) (fun y5 y6 y7 y8 => K 2 y5 0 ([] : LC) ([] : LC) y6 y7 y8)) else (bif ((2 : Int) == 2) then (YP.f k y2 y3 y4 ([[.int .i64 0],[.int .i64 1],[.int .i64 80],[.int .i64 (-5)],[.int .i64 9223372036854775807],[.int .i64 (-9223372036854775808)]] : LD) (fun y9 y10 y11 y12 => K 2 (⟨#[]⟩ : BA) y9 ([] : LC) ([] : LC) y10 y11 y12)) else (bif ((2 : Int) == 3) then (Yp.f k y2 y3 y4 2 (fun y13 y14 y15 y16 => K 2 (⟨#[]⟩ : BA) y13 ([] : LC) ([] : LC) y14 y15 y16)) else (bif ((2 : Int) == 4) then (Yp.f k y2 y3 y4 4 (fun y17 y18 y19 y20 => F.1 a1 0 (⟨#[]⟩ : BA) 0 2 (⟨#[]⟩ : BA) 0 (y17,y18,y19,y20,([] : LC)))) else (bif ((2 : Int) == 5) then (YO.f k y2 y3 y4 5 (fun y276 y277 y278 y279 => F.2.1 a1 0 (⟨#[]⟩ : BA) 0 2 (⟨#[]⟩ : BA) 0 y276 (0,y277,y278,y279,([] : LC),([] : LC)))) else (K 2 (⟨#[]⟩ : BA) 0 ([] : LC) ([] : LC) y2 y3 y4)))))) else (bif (((IntKind.wrap .i64 (1 + y1)) : Int) == 1) then (YY.f k y2 y3 y4 ([[.str (⟨#[]⟩ : BA)],[.str (⟨#[97]⟩ : BA)],[.str (⟨#[120,32,121]⟩ : BA)],[.str (⟨#[34]⟩ : BA)],[.str (⟨#[92,110]⟩ : BA)],[.str (⟨#[105,109,97,103,101,58,49]⟩ : BA)]] : LD) (fun y306 y307 y308 y309 => K (IntKind.wrap .i64 (1 + y1)) y306 0 ([] : LC) ([] : LC) y307 y308 y309)) else (bif (((IntKind.wrap .i64 (1 + y1)) : Int) == 2) then (YP.f k y2 y3 y4 ([[.int .i64 0],[.int .i64 1],[.int .i64 80],[.int .i64 (-5)],[.int .i64 9223372036854775807],[.int .i64 (-9223372036854775808)]] : LD) (fun y310 y311 y312 y313 => K (IntKind.wrap .i64 (1 + y1)) (⟨#[]⟩ : BA) y310 ([] : LC) ([] : LC) y311 y312 y313)) else (bif (((IntKind.wrap .i64 (1 + y1)) : Int) == 3) then (Yp.f k y2 y3 y4 2 (fun y314 y315 y316 y317 => K (IntKind.wrap .i64 (1 + y1)) (⟨#[]⟩ : BA) y314 ([] : LC) ([] : LC) y315 y316 y317)) else (bif (((IntKind.wrap .i64 (1 + y1)) : Int) == 4) then (Yp.f k y2 y3 y4 4 (fun y318 y319 y320 y321 => F.2.2.1 a1 0 (⟨#[]⟩ : BA) 0 (IntKind.wrap .i64 (1 + y1)) (⟨#[]⟩ : BA) 0 (y318,y319,y320,y321,([] : LC)))) else (bif (((IntKind.wrap .i64 (1 + y1)) : Int) == 5) then (YO.f k y2 y3 y4 5 (fun y338 y339 y340 y341 => F.2.2.2.1 a1 0 (⟨#[]⟩ : BA) 0 (IntKind.wrap .i64 (1 + y1)) (⟨#[]⟩ : BA) 0 y338 (0,y339,y340,y341,([] : LC),([] : LC)))) else J0)))))) else (bif (((IntKind.wrap .i64 (1 + y1)) : Int) == 1) then (YY.f k y2 y3 y4 ([[.str (⟨#[]⟩ : BA)],[.str (⟨#[97]⟩ : BA)],[.str (⟨#[120,32,121]⟩ : BA)],[.str (⟨#[34]⟩ : BA)],[.str (⟨#[92,110]⟩ : BA)],[.str (⟨#[105,109,97,103,101,58,49]⟩ : BA)]] : LD) (fun y368 y369 y370 y371 => K (IntKind.wrap .i64 (1 + y1)) y368 0 ([] : LC) ([] : LC) y369 y370 y371)) else (bif (((IntKind.wrap .i64 (1 + y1)) : Int) == 2) then (YP.f k y2 y3 y4 ([[.int .i64 0],[.int .i64 1],[.int .i64 80],[.int .i64 (-5)],[.int .i64 9223372036854775807],[.int .i64 (-9223372036854775808)]] : LD) (fun y372 y373 y374 y375 => K (IntKind.wrap .i64 (1 + y1)) (⟨#[]⟩ : BA) y372 ([] : LC) ([] : LC) y373 y374 y375)) else (bif (((IntKind.wrap .i64 (1 + y1)) : Int) == 3) then (Yp.f k y2 y3 y4 2 (fun y376 y377 y378 y379 => K (IntKind.wrap .i64 (1 + y1)) (⟨#[]⟩ : BA) y376 ([] : LC) ([] : LC) y377 y378 y379)) else (bif (((IntKind.wrap .i64 (1 + y1)) : Int) == 4) then (Yp.f k y2 y3 y4 4 (fun y380 y381 y382 y383 => F.2.2.2.2.1 a1 0 (⟨#[]⟩ : BA) 0 (IntKind.wrap .i64 (1 + y1)) (⟨#[]⟩ : BA) 0 (y380,y381,y382,y383,([] : LC)))) else (bif (((IntKind.wrap .i64 (1 + y1)) : Int) == 5) then (YO.f k y2 y3 y4 5 (fun y400 y401 y402 y403 => F.2.2.2.2.2 a1 0 (⟨#[]⟩ : BA) 0 (IntKind.wrap .i64 (1 + y1)) (⟨#[]⟩ : BA) 0 y400 (0,y401,y402,y403,([] : LC),([] : LC)))) else J0))))))
noncomputable def Yh.body {β : Type} (k : Nat) (r_spec_l4Draw : LD → Int → Int → Int → (Int → BA → Int → LC → LC → LD → Int → Int → Option β) → Option β) (aA : LD) (aB aC a1 : Int) (K : Int → BA → Int → LC → LC → LD → Int → Int → Option β) : Option β := Yh.m k r_spec_l4Draw aA aB aC a1 K ((fun aD aM aN aO aQ aP aT => ZA (Yh.l0 k r_spec_l4Draw aD aM aN aO aQ aP aT K) k),(fun aU bD bF bH bJ bK bI bT => ZA (Yh.l1 k r_spec_l4Draw aU bD bF bH bJ bK bI bT K) k),(fun bG cO cP cQ cJ cK cN => ZA (Yh.l2 k r_spec_l4Draw bG cO cP cQ cJ cK cN K) k),(fun cH v3_5 v3_6 v3_7 v3_8 v3_9 v3_10 v3_11 => ZA (Yh.l3 k r_spec_l4Draw cH v3_5 v3_6 v3_7 v3_8 v3_9 v3_10 v3_11 K) k),(fun cE bM v4_6 cM bO v4_9 v4_10 => ZA (Yh.l4 k r_spec_l4Draw cE bM v4_6 cM bO v4_9 v4_10 K) k),(fun cC bL v5_6 cL bN v5_9 v5_10 v5_11 => ZA (Yh.l5 k r_spec_l4Draw cC bL v5_6 cL bN v5_9 v5_10 v5_11 K) k))
noncomputable def Yh.w {β : Type} (r : LD → Int → Int → Int → Option (Int × BA × Int × LC × LC × LD × Int × Int)) (aA : LD) (aB aC a1 : Int) (K : Int → BA → Int → LC → LC → LD → Int → Int → Option β) : Option β := match r aA aB aC a1 with | some (z0,z1,z2,z3,z4,z5,z6,z7) => K z0 z1 z2 z3 z4 z5 z6 z7 | none => none
noncomputable def Yh.all : Nat → (LD → Int → Int → Int → Option (Int × BA × Int × LC × LC × LD × Int × Int))
 | 0 => (fun _ _ _ _ => none)
 | k + 1 => (fun r => (fun aA aB aC a1 => Yh.body k (Yh.w r) aA aB aC a1 (fun z0 z1 z2 z3 z4 z5 z6 z7 => some (z0,z1,z2,z3,z4,z5,z6,z7)))) (Yh.all k)
noncomputable def Yh.t (k : Nat) (aA : LD) (aB aC a1 : Int) : Option (Int × BA × Int × LC × LC × LD × Int × Int) := (Yh.all k) aA aB aC a1
noncomputable def Yh.f {β : Type} (k : Nat) (aA : LD) (aB aC a1 : Int) (K : Int → BA → Int → LC → LC → LD → Int → Int → Option β) : Option β := Yh.w (Yh.t k) aA aB aC a1 K
noncomputable def Yh.g {β : Type} (k : Nat) (aA : LD) (aB aC a1 : Int) (K : Int → BA → Int → LC → LC → LD → Int → Int → Option β) : Option β := Yh.body k (Yh.f k) aA aB aC a1 K
theorem Yh.t_succ (k : Nat) (aA : LD) (aB aC a1 : Int) : Yh.t (k + 1) aA aB aC a1 = Yh.g k aA aB aC a1 (fun z0 z1 z2 z3 z4 z5 z6 z7 => some (z0,z1,z2,z3,z4,z5,z6,z7)) := rfl
noncomputable def Yh.e (k : Nat) : Zj := ent [.box 178 [.l,.n,.n],.d .n] [5] [.n,.s,.n,.o,.o,.l,.n,.n] [66] false (Yh.t k)
noncomputable def Yh.p (k : Nat) : Pro := ⟨Try.prog,[(112,Yp.e k),(75,YY.e k),(118,YP.e k),(212,Yh.e k),(157,YO.e k)],Zv [(14,kp [0,1,4,6,7] [] [(6,4,.row true 64)]),(20,kp [0,1,4,6,8,9] [] [(6,3,.row true 25),(6,4,.row true 64)])] false [],k⟩
noncomputable def Yh.d (k : Nat) (aA : LD) (aB aC a1 : Int) : Ex → St → Option (Int × BA × Int × LC × LC × LD × Int × Int) := (Yh.p k).fin Try.f212 [.box [.d (.sl aA),.d (.int .i64 aB),.d (.int .i64 aC)],.d (.int .i64 a1)] [5] [.n,.s,.n,.o,.o,.l,.n,.n]
noncomputable def Yh.s0 (aD aM : Int) (aN : BA) (aO aQ : Int) (aP : BA) (aT : Int) (v : Int × LD × Int × Int × LC) : St :=
 match v with
 | (aF,aJ,aK,aL,bE) => ZaA 86 [(0,.bp 0 0),(1,.d false (.int .i64 aD)),(4,.bp 1 0),(6,.bp 2 0),(7,.d true (.int .i64 aF))] [.box (some 0) 178 [.d false (.sl aJ),.d false (.int .i64 aK),.d false (.int .i64 aL)],.box none 66 [.d true (.int .i64 aM),.d true (.str aN),.d true (.int .i64 aO),.nil,.nil],.box none 66 [.d true (.int .i64 aQ),.d true (.str aP),.d true (.int .i64 aT),.nil,.row 3],.row none true 64 bE]
noncomputable def Yh.r0 (k : Nat) (aA : LD) (aB aC a1 aD aM : Int) (aN : BA) (aO aQ : Int) (aP : BA) (aT : Int) (n : Nat) (v : Int × LD × Int × Int × LC) : Option (Int × BA × Int × LC × LC × LD × Int × Int) := (Yh.p k).lp (ZI Try.f212) 14 [1,1,1,1,0,1,0,1,1,1,1,1,1,1,0,1,0] (Yh.d k aA aB aC a1) n (Yh.s0 aD aM aN aO aQ aP aT v)
noncomputable def Yh.s1 (aU bD : Int) (bF : BA) (bH bJ : Int) (bK : BA) (bI : Int) (bT : LC) (v : Int × LD × Int × Int × LC × LC) : St :=
 match v with
 | (aR,aX,aY,aZ,cG,v1_13) => ZaA 86 [(0,.bp 0 0),(1,.d false (.int .i64 aU)),(4,.bp 1 0),(6,.bp 2 0),(8,.row 3),(9,.d true (.int .i64 aR))] [.box (some 0) 178 [.d false (.sl aX),.d false (.int .i64 aY),.d false (.int .i64 aZ)],.box none 66 [.d true (.int .i64 bD),.d true (.str bF),.d true (.int .i64 bH),.nil,.nil],.box none 66 [.d true (.int .i64 bJ),.d true (.str bK),.d true (.int .i64 bI),.row 4,.row 5],.row none true 45 bT,.row none true 25 cG,.row none true 64 v1_13]
noncomputable def Yh.r1 (k : Nat) (aA : LD) (aB aC a1 aU bD : Int) (bF : BA) (bH bJ : Int) (bK : BA) (bI : Int) (bT : LC) (n : Nat) (v : Int × LD × Int × Int × LC × LC) : Option (Int × BA × Int × LC × LC × LD × Int × Int) := (Yh.p k).lp (ZI Try.f212) 20 [1,1,1,1,0,1,0,1,1,1,1,1,1,1,1,1,0,1,1,0] (Yh.d k aA aB aC a1) n (Yh.s1 aU bD bF bH bJ bK bI bT v)
noncomputable def Yh.s2 (bG cO : Int) (cP : BA) (cQ cJ : Int) (cK : BA) (cN : Int) (v : Int × LD × Int × Int × LC) : St :=
 match v with
 | (bR,cF,bP,cR,v2_11) => ZaA 86 [(0,.bp 0 0),(1,.d false (.int .i64 bG)),(4,.bp 1 0),(6,.bp 2 0),(7,.d true (.int .i64 bR))] [.box (some 0) 178 [.d false (.sl cF),.d false (.int .i64 bP),.d false (.int .i64 cR)],.box none 66 [.d true (.int .i64 cO),.d true (.str cP),.d true (.int .i64 cQ),.nil,.nil],.box none 66 [.d true (.int .i64 cJ),.d true (.str cK),.d true (.int .i64 cN),.nil,.row 3],.row none true 64 v2_11]
noncomputable def Yh.r2 (k : Nat) (aA : LD) (aB aC a1 bG cO : Int) (cP : BA) (cQ cJ : Int) (cK : BA) (cN : Int) (n : Nat) (v : Int × LD × Int × Int × LC) : Option (Int × BA × Int × LC × LC × LD × Int × Int) := (Yh.p k).lp (ZI Try.f212) 14 [1,1,1,1,0,1,0,1,1,1,1,1,1,1,0,1,0] (Yh.d k aA aB aC a1) n (Yh.s2 bG cO cP cQ cJ cK cN v)
noncomputable def Yh.s3 (cH v3_5 : Int) (v3_6 : BA) (v3_7 v3_8 : Int) (v3_9 : BA) (v3_10 : Int) (v3_11 : LC) (v : Int × LD × Int × Int × LC × LC) : St :=
 match v with
 | (v3_1,v3_2,v3_3,v3_4,v3_12,v3_13) => ZaA 86 [(0,.bp 0 0),(1,.d false (.int .i64 cH)),(4,.bp 1 0),(6,.bp 2 0),(8,.row 3),(9,.d true (.int .i64 v3_1))] [.box (some 0) 178 [.d false (.sl v3_2),.d false (.int .i64 v3_3),.d false (.int .i64 v3_4)],.box none 66 [.d true (.int .i64 v3_5),.d true (.str v3_6),.d true (.int .i64 v3_7),.nil,.nil],.box none 66 [.d true (.int .i64 v3_8),.d true (.str v3_9),.d true (.int .i64 v3_10),.row 4,.row 5],.row none true 45 v3_11,.row none true 25 v3_12,.row none true 64 v3_13]
noncomputable def Yh.r3 (k : Nat) (aA : LD) (aB aC a1 cH v3_5 : Int) (v3_6 : BA) (v3_7 v3_8 : Int) (v3_9 : BA) (v3_10 : Int) (v3_11 : LC) (n : Nat) (v : Int × LD × Int × Int × LC × LC) : Option (Int × BA × Int × LC × LC × LD × Int × Int) := (Yh.p k).lp (ZI Try.f212) 20 [1,1,1,1,0,1,0,1,1,1,1,1,1,1,1,1,0,1,1,0] (Yh.d k aA aB aC a1) n (Yh.s3 cH v3_5 v3_6 v3_7 v3_8 v3_9 v3_10 v3_11 v)
noncomputable def Yh.s4 (cE bM : Int) (v4_6 : BA) (cM bO : Int) (v4_9 : BA) (v4_10 : Int) (v : Int × LD × Int × Int × LC) : St :=
 match v with
 | (v4_1,cA,bY,bV,v4_11) => ZaA 86 [(0,.bp 0 0),(1,.d false (.int .i64 cE)),(4,.bp 1 0),(6,.bp 2 0),(7,.d true (.int .i64 v4_1))] [.box (some 0) 178 [.d false (.sl cA),.d false (.int .i64 bY),.d false (.int .i64 bV)],.box none 66 [.d true (.int .i64 bM),.d true (.str v4_6),.d true (.int .i64 cM),.nil,.nil],.box none 66 [.d true (.int .i64 bO),.d true (.str v4_9),.d true (.int .i64 v4_10),.nil,.row 3],.row none true 64 v4_11]
noncomputable def Yh.r4 (k : Nat) (aA : LD) (aB aC a1 cE bM : Int) (v4_6 : BA) (cM bO : Int) (v4_9 : BA) (v4_10 : Int) (n : Nat) (v : Int × LD × Int × Int × LC) : Option (Int × BA × Int × LC × LC × LD × Int × Int) := (Yh.p k).lp (ZI Try.f212) 14 [1,1,1,1,0,1,0,1,1,1,1,1,1,1,0,1,0] (Yh.d k aA aB aC a1) n (Yh.s4 cE bM v4_6 cM bO v4_9 v4_10 v)
noncomputable def Yh.s5 (cC bL : Int) (v5_6 : BA) (cL bN : Int) (v5_9 : BA) (v5_10 : Int) (v5_11 : LC) (v : Int × LD × Int × Int × LC × LC) : St :=
 match v with
 | (v5_1,bZ,bX,bU,v5_12,v5_13) => ZaA 86 [(0,.bp 0 0),(1,.d false (.int .i64 cC)),(4,.bp 1 0),(6,.bp 2 0),(8,.row 3),(9,.d true (.int .i64 v5_1))] [.box (some 0) 178 [.d false (.sl bZ),.d false (.int .i64 bX),.d false (.int .i64 bU)],.box none 66 [.d true (.int .i64 bL),.d true (.str v5_6),.d true (.int .i64 cL),.nil,.nil],.box none 66 [.d true (.int .i64 bN),.d true (.str v5_9),.d true (.int .i64 v5_10),.row 4,.row 5],.row none true 45 v5_11,.row none true 25 v5_12,.row none true 64 v5_13]
noncomputable def Yh.r5 (k : Nat) (aA : LD) (aB aC a1 cC bL : Int) (v5_6 : BA) (cL bN : Int) (v5_9 : BA) (v5_10 : Int) (v5_11 : LC) (n : Nat) (v : Int × LD × Int × Int × LC × LC) : Option (Int × BA × Int × LC × LC × LD × Int × Int) := (Yh.p k).lp (ZI Try.f212) 20 [1,1,1,1,0,1,0,1,1,1,1,1,1,1,1,1,0,1,1,0] (Yh.d k aA aB aC a1) n (Yh.s5 cC bL v5_6 cL bN v5_9 v5_10 v5_11 v)
theorem Yh.l5_eq (k : Nat) (aA : LD) (aB aC a1 cC bL : Int) (v5_6 : BA) (cL bN : Int) (v5_9 : BA) (v5_10 : Int) (v5_11 : LC) : ∀ n v,Yh.r5 k aA aB aC a1 cC bL v5_6 cL bN v5_9 v5_10 v5_11 n v = ZA (Yh.l5 k (Yh.f k) cC bL v5_6 cL bN v5_9 v5_10 v5_11 (fun z0 z1 z2 z3 z4 z5 z6 z7 => some (z0,z1,z2,z3,z4,z5,z6,z7))) n v :=
 Zz (Yh.s5 cC bL v5_6 cL bN v5_9 v5_10 v5_11) _ fun L5 v => by obtain ⟨v5_1,bZ,bX,bU,v5_12,v5_13⟩ := v; kernel_rfl
theorem Yh.l4_eq (k : Nat) (aA : LD) (aB aC a1 cE bM : Int) (v4_6 : BA) (cM bO : Int) (v4_9 : BA) (v4_10 : Int) : ∀ n v,Yh.r4 k aA aB aC a1 cE bM v4_6 cM bO v4_9 v4_10 n v = ZA (Yh.l4 k (Yh.f k) cE bM v4_6 cM bO v4_9 v4_10 (fun z0 z1 z2 z3 z4 z5 z6 z7 => some (z0,z1,z2,z3,z4,z5,z6,z7))) n v :=
 Zz (Yh.s4 cE bM v4_6 cM bO v4_9 v4_10) _ fun L4 v => by obtain ⟨v4_1,cA,bY,bV,v4_11⟩ := v; kernel_rfl
theorem Yh.l3_eq (k : Nat) (aA : LD) (aB aC a1 cH v3_5 : Int) (v3_6 : BA) (v3_7 v3_8 : Int) (v3_9 : BA) (v3_10 : Int) (v3_11 : LC) : ∀ n v,Yh.r3 k aA aB aC a1 cH v3_5 v3_6 v3_7 v3_8 v3_9 v3_10 v3_11 n v = ZA (Yh.l3 k (Yh.f k) cH v3_5 v3_6 v3_7 v3_8 v3_9 v3_10 v3_11 (fun z0 z1 z2 z3 z4 z5 z6 z7 => some (z0,z1,z2,z3,z4,z5,z6,z7))) n v :=
 Zz (Yh.s3 cH v3_5 v3_6 v3_7 v3_8 v3_9 v3_10 v3_11) _ fun L3 v => by obtain ⟨v3_1,v3_2,v3_3,v3_4,v3_12,v3_13⟩ := v; kernel_rfl
theorem Yh.l2_eq (k : Nat) (aA : LD) (aB aC a1 bG cO : Int) (cP : BA) (cQ cJ : Int) (cK : BA) (cN : Int) : ∀ n v,Yh.r2 k aA aB aC a1 bG cO cP cQ cJ cK cN n v = ZA (Yh.l2 k (Yh.f k) bG cO cP cQ cJ cK cN (fun z0 z1 z2 z3 z4 z5 z6 z7 => some (z0,z1,z2,z3,z4,z5,z6,z7))) n v :=
 Zz (Yh.s2 bG cO cP cQ cJ cK cN) _ fun L2 v => by obtain ⟨bR,cF,bP,cR,v2_11⟩ := v; kernel_rfl
theorem Yh.l1_eq (k : Nat) (aA : LD) (aB aC a1 aU bD : Int) (bF : BA) (bH bJ : Int) (bK : BA) (bI : Int) (bT : LC) : ∀ n v,Yh.r1 k aA aB aC a1 aU bD bF bH bJ bK bI bT n v = ZA (Yh.l1 k (Yh.f k) aU bD bF bH bJ bK bI bT (fun z0 z1 z2 z3 z4 z5 z6 z7 => some (z0,z1,z2,z3,z4,z5,z6,z7))) n v :=
 Zz (Yh.s1 aU bD bF bH bJ bK bI bT) _ fun L1 v => by obtain ⟨aR,aX,aY,aZ,cG,v1_13⟩ := v; kernel_rfl
theorem Yh.l0_eq (k : Nat) (aA : LD) (aB aC a1 aD aM : Int) (aN : BA) (aO aQ : Int) (aP : BA) (aT : Int) : ∀ n v,Yh.r0 k aA aB aC a1 aD aM aN aO aQ aP aT n v = ZA (Yh.l0 k (Yh.f k) aD aM aN aO aQ aP aT (fun z0 z1 z2 z3 z4 z5 z6 z7 => some (z0,z1,z2,z3,z4,z5,z6,z7))) n v :=
 Zz (Yh.s0 aD aM aN aO aQ aP aT) _ fun L0 v => by obtain ⟨aF,aJ,aK,aL,bE⟩ := v; kernel_rfl
theorem Yh.oks (k : Nat) : Zf Try.prog 212 (Yh.e k) := by
 induction k with
 | zero => exact Zba Try.func212 (by kernel_rfl) (fun _ _ _ _ => rfl)
 | succ k ih => exact Zk (Yh.p k) mix tyok Try.func212 ⟨Yp.ok k,YY.ok k,YP.ok k,ih,YO.ok k⟩ (by kernel_rfl) (fun aA aB aC a1 => Eq.trans (b := Yh.m k (Yh.f k) aA aB aC a1 (fun z0 z1 z2 z3 z4 z5 z6 z7 => some (z0,z1,z2,z3,z4,z5,z6,z7)) ((fun aD aM aN aO aQ aP aT => Yh.r0 k aA aB aC a1 aD aM aN aO aQ aP aT k),(fun aU bD bF bH bJ bK bI bT => Yh.r1 k aA aB aC a1 aU bD bF bH bJ bK bI bT k),(fun bG cO cP cQ cJ cK cN => Yh.r2 k aA aB aC a1 bG cO cP cQ cJ cK cN k),(fun cH v3_5 v3_6 v3_7 v3_8 v3_9 v3_10 v3_11 => Yh.r3 k aA aB aC a1 cH v3_5 v3_6 v3_7 v3_8 v3_9 v3_10 v3_11 k),(fun cE bM v4_6 cM bO v4_9 v4_10 => Yh.r4 k aA aB aC a1 cE bM v4_6 cM bO v4_9 v4_10 k),(fun cC bL v5_6 cL bN v5_9 v5_10 v5_11 => Yh.r5 k aA aB aC a1 cC bL v5_6 cL bN v5_9 v5_10 v5_11 k))) (by kernel_rfl) ((congrArg (Yh.m k (Yh.f k) aA aB aC a1 (fun z0 z1 z2 z3 z4 z5 z6 z7 => some (z0,z1,z2,z3,z4,z5,z6,z7))) (pair_eq (funext fun aD => funext fun aM => funext fun aN => funext fun aO => funext fun aQ => funext fun aP => funext fun aT => funext fun v => Yh.l0_eq k aA aB aC a1 aD aM aN aO aQ aP aT k v) (pair_eq (funext fun aU => funext fun bD => funext fun bF => funext fun bH => funext fun bJ => funext fun bK => funext fun bI => funext fun bT => funext fun v => Yh.l1_eq k aA aB aC a1 aU bD bF bH bJ bK bI bT k v) (pair_eq (funext fun bG => funext fun cO => funext fun cP => funext fun cQ => funext fun cJ => funext fun cK => funext fun cN => funext fun v => Yh.l2_eq k aA aB aC a1 bG cO cP cQ cJ cK cN k v) (pair_eq (funext fun cH => funext fun v3_5 => funext fun v3_6 => funext fun v3_7 => funext fun v3_8 => funext fun v3_9 => funext fun v3_10 => funext fun v3_11 => funext fun v => Yh.l3_eq k aA aB aC a1 cH v3_5 v3_6 v3_7 v3_8 v3_9 v3_10 v3_11 k v) (pair_eq (funext fun cE => funext fun bM => funext fun v4_6 => funext fun cM => funext fun bO => funext fun v4_9 => funext fun v4_10 => funext fun v => Yh.l4_eq k aA aB aC a1 cE bM v4_6 cM bO v4_9 v4_10 k v) (funext fun cC => funext fun bL => funext fun v5_6 => funext fun cL => funext fun bN => funext fun v5_9 => funext fun v5_10 => funext fun v5_11 => funext fun v => Yh.l5_eq k aA aB aC a1 cC bL v5_6 cL bN v5_9 v5_10 v5_11 k v))))))).trans (Yh.t_succ k aA aB aC a1).symm))
theorem Yh.ok (k : Nat) : Zf Try.prog 212 (Yh.e k) := (Yh.oks k)
noncomputable def YJ.l0 {β : Type} (k : Nat) (K : LC → LD → Int → Int → Option β) (L0 : (Int × LD × Int × Int × LC) → Option β) (v : Int × LD × Int × Int × LC) : Option β :=
 match v with
 | (aD,aF,aJ,aK,aL) => bif (decide ((aD : Int) < 6)) then (Y7.f k aF aJ aK 2 (fun y438 y439 y440 y441 => bif y438 then (Yp.f k y439 y440 y441 5 (fun y442 y443 y444 y445 => Yh.f k y443 y444 y445 2 (fun y446 y447 y448 y449 y450 y451 y452 y453 => Zd (aL.length + ([[.d (.int .i64 aD),.d (.int .i64 (IntKind.wrap .i64 (1 + y442))),.d (.int .i64 y446),.d (.str y447),.d (.int .i64 y448),.own y449,.own y450]] : LC).length ≤ Z8) (L0 (IntKind.wrap .i64 (aD + 1),y451,y452,y453,aL ++ ([[.d (.int .i64 aD),.d (.int .i64 (IntKind.wrap .i64 (1 + y442))),.d (.int .i64 y446),.d (.str y447),.d (.int .i64 y448),.own y449,.own y450]] : LC)))))) else (L0 (IntKind.wrap .i64 (aD + 1),y439,y440,y441,aL)))) else (K aL aF aJ aK)
noncomputable def YJ.m {β : Type} (k : Nat) (aA : LD) (aB aC : Int) (K : LC → LD → Int → Int → Option β) (F : ((Int × LD × Int × Int × LC) → Option β)) : Option β :=
 F (1,aA,aB,aC,([] : LC))
noncomputable def YJ.g {β : Type} (k : Nat) (aA : LD) (aB aC : Int) (K : LC → LD → Int → Int → Option β) : Option β :=
 ZA (YJ.l0 k K) k (1,aA,aB,aC,([] : LC))
noncomputable def YJ.t (k : Nat) (aA : LD) (aB aC : Int) : Option (LC × LD × Int × Int) := YJ.g k aA aB aC (fun z0 z1 z2 z3 => some (z0,z1,z2,z3))
noncomputable def YJ.f {β : Type} (k : Nat) (aA : LD) (aB aC : Int) (K : LC → LD → Int → Int → Option β) : Option β := bd4 (YJ.t k aA aB aC) K
noncomputable def YJ.e (k : Nat) : Zj := ent [.box 178 [.l,.n,.n]] [1] [.o,.l,.n,.n] [54] false (YJ.t k)
noncomputable def YJ.p (k : Nat) : Pro := ⟨Try.prog,[(81,Y7.e k),(112,Yp.e k),(212,Yh.e k)],Zv [(3,kp [0,3,4])] false [],k⟩
noncomputable def YJ.d (k : Nat) (aA : LD) (aB aC : Int) : Ex → St → Option (LC × LD × Int × Int) := (YJ.p k).fin Try.f167 [.box [.d (.sl aA),.d (.int .i64 aB),.d (.int .i64 aC)]] [1] [.o,.l,.n,.n]
noncomputable def YJ.s0 (v : Int × LD × Int × Int × LC) : St :=
 match v with
 | (aD,aF,aJ,aK,aL) => ZaA 23 [(0,.bp 0 0),(3,.row 1),(4,.d true (.int .i64 aD))] [.box (some 0) 178 [.d false (.sl aF),.d false (.int .i64 aJ),.d false (.int .i64 aK)],.row none true 54 aL]
noncomputable def YJ.r0 (k : Nat) (aA : LD) (aB aC : Int) (n : Nat) (v : Int × LD × Int × Int × LC) : Option (LC × LD × Int × Int) := (YJ.p k).lp (ZI Try.f167) 3 [1,1,0,1,0] (YJ.d k aA aB aC) n (YJ.s0 v)
theorem YJ.l0_eq (k : Nat) (aA : LD) (aB aC : Int) : ∀ n v,YJ.r0 k aA aB aC n v = ZA (YJ.l0 k (fun z0 z1 z2 z3 => some (z0,z1,z2,z3))) n v :=
 Zz (YJ.s0) _ fun L0 v => by obtain ⟨aD,aF,aJ,aK,aL⟩ := v; kernel_rfl
theorem YJ.ok (k : Nat) : Zf Try.prog 167 (YJ.e k) := Zk (YJ.p k) mix tyok Try.func167 ⟨Y7.ok k,Yp.ok k,Yh.ok k⟩ (by kernel_rfl) (fun aA aB aC => Eq.trans (b := YJ.m k aA aB aC (fun z0 z1 z2 z3 => some (z0,z1,z2,z3)) (YJ.r0 k aA aB aC k)) (by kernel_rfl) (congrArg (YJ.m k aA aB aC (fun z0 z1 z2 z3 => some (z0,z1,z2,z3))) (funext fun v => YJ.l0_eq k aA aB aC k v) :))
noncomputable def Yy.l0 {β : Type} (k : Nat) (r_spec_l4Copy : Int → BA → Int → LD → LD → (Int → BA → Int → LC → LC → Option β) → Option β) (aF : Int) (aJ : BA) (aK : Int) (aL aM : LD) (aN : Int) (aO : BA) (aQ aP : Int) (aT : BA) (bE : Int) (bQ : LC) (K : Int → BA → Int → LC → LC → Option β) (L0 : (Int × LC) → Option β) (v : Int × LC) : Option β :=
 match v with
 | (aD,bW) => bif (decide ((aD : Int) < (aM.length : Int))) then (atR aM aD [.n,.s,.n,.l,.l] fun x25 x28 x31 x34 x37 => (r_spec_l4Copy x25 x28 x31 x34 x37 (fun y38 y39 y40 y41 y42 => Zd (bW.length + ([[.d (.int .i64 y38),.d (.str y39),.d (.int .i64 y40),.own y41,.own y42]] : LC).length ≤ Z8) (L0 (IntKind.wrap .i64 (aD + 1),bW ++ ([[.d (.int .i64 y38),.d (.str y39),.d (.int .i64 y40),.own y41,.own y42]] : LC)))))) else (K aP aT bE bQ bW)
noncomputable def Yy.m {β : Type} (k : Nat) (r_spec_l4Copy : Int → BA → Int → LD → LD → (Int → BA → Int → LC → LC → Option β) → Option β) (aA : Int) (aB : BA) (aC : Int) (aI aH : LD) (K : Int → BA → Int → LC → LC → Option β) (F : (Int → BA → Int → LD → LD → Int → BA → Int → Int → BA → Int → LC → (Int × LC) → Option β)) : Option β :=
 Zd (Zcg 1 aI) (Zd (([] : LC).length + (aI.map (·.map C.d)).length ≤ Z8) (F aA aB aC aI aH 0 (⟨#[]⟩ : BA) 0 aA aB aC (([] : LC) ++ (aI.map (·.map C.d))) (0,([] : LC))))
noncomputable def Yy.body {β : Type} (k : Nat) (r_spec_l4Copy : Int → BA → Int → LD → LD → (Int → BA → Int → LC → LC → Option β) → Option β) (aA : Int) (aB : BA) (aC : Int) (aI aH : LD) (K : Int → BA → Int → LC → LC → Option β) : Option β :=
 Zd (Zcg 1 aI) (Zd (([] : LC).length + (aI.map (·.map C.d)).length ≤ Z8) (ZA (Yy.l0 k r_spec_l4Copy aA aB aC aI aH 0 (⟨#[]⟩ : BA) 0 aA aB aC (([] : LC) ++ (aI.map (·.map C.d))) K) k (0,([] : LC))))
noncomputable def Yy.w {β : Type} (r : Int → BA → Int → LD → LD → Option (Int × BA × Int × LC × LC)) (aA : Int) (aB : BA) (aC : Int) (aI aH : LD) (K : Int → BA → Int → LC → LC → Option β) : Option β := bd5 (r aA aB aC aI aH) K
noncomputable def Yy.all : Nat → (Int → BA → Int → LD → LD → Option (Int × BA × Int × LC × LC))
 | 0 => (fun _ _ _ _ _ => none)
 | k + 1 => (fun r => (fun aA aB aC aI aH => Yy.body k (Yy.w r) aA aB aC aI aH (fun z0 z1 z2 z3 z4 => some (z0,z1,z2,z3,z4)))) (Yy.all k)
noncomputable def Yy.t (k : Nat) (aA : Int) (aB : BA) (aC : Int) (aI aH : LD) : Option (Int × BA × Int × LC × LC) := (Yy.all k) aA aB aC aI aH
noncomputable def Yy.f {β : Type} (k : Nat) (aA : Int) (aB : BA) (aC : Int) (aI aH : LD) (K : Int → BA → Int → LC → LC → Option β) : Option β := Yy.w (Yy.t k) aA aB aC aI aH K
noncomputable def Yy.g {β : Type} (k : Nat) (aA : Int) (aB : BA) (aC : Int) (aI aH : LD) (K : Int → BA → Int → LC → LC → Option β) : Option β := Yy.body k (Yy.f k) aA aB aC aI aH K
theorem Yy.t_succ (k : Nat) (aA : Int) (aB : BA) (aC : Int) (aI aH : LD) : Yy.t (k + 1) aA aB aC aI aH = Yy.g k aA aB aC aI aH (fun z0 z1 z2 z3 z4 => some (z0,z1,z2,z3,z4)) := rfl
noncomputable def Yy.e (k : Nat) : Zj := ent [.agg [.n,.s,.n,.l,.l]] [5] [.n,.s,.n,.o,.o] [66] false (Yy.t k)
noncomputable def Yy.p (k : Nat) : Pro := ⟨Try.prog,[(189,Yy.e k)],Zv [(3,kp [1,2,3,4] [] [(3,4,.row true 64)])] false [],k⟩
noncomputable def Yy.d (k : Nat) (aA : Int) (aB : BA) (aC : Int) (aI aH : LD) : Ex → St → Option (Int × BA × Int × LC × LC) := (Yy.p k).fin Try.f189 [.agg [.int .i64 aA,.str aB,.int .i64 aC,.sl aI,.sl aH]] [5] [.n,.s,.n,.o,.o]
noncomputable def Yy.s0 (aF : Int) (aJ : BA) (aK : Int) (aL aM : LD) (aN : Int) (aO : BA) (aQ aP : Int) (aT : BA) (bE : Int) (bQ : LC) (v : Int × LC) : St :=
 match v with
 | (aD,bW) => ZaA 35 [(1,.bp 0 0),(2,.bp 1 0),(3,.bp 2 0),(4,.d true (.int .i64 aD))] [.box none 66 [.d false (.int .i64 aF),.d false (.str aJ),.d false (.int .i64 aK),.d false (.sl aL),.d false (.sl aM)],.box none 66 [.d true (.int .i64 aN),.d true (.str aO),.d true (.int .i64 aQ),.nil,.nil],.box none 66 [.d false (.int .i64 aP),.d false (.str aT),.d false (.int .i64 bE),.row 3,.row 4],.row none true 25 bQ,.row none true 64 bW]
noncomputable def Yy.r0 (k : Nat) (aA : Int) (aB : BA) (aC : Int) (aI aH : LD) (aF : Int) (aJ : BA) (aK : Int) (aL aM : LD) (aN : Int) (aO : BA) (aQ aP : Int) (aT : BA) (bE : Int) (bQ : LC) (n : Nat) (v : Int × LC) : Option (Int × BA × Int × LC × LC) := (Yy.p k).lp (ZI Try.f189) 3 [1,1,0,1,0] (Yy.d k aA aB aC aI aH) n (Yy.s0 aF aJ aK aL aM aN aO aQ aP aT bE bQ v)
theorem Yy.l0_eq (k : Nat) (aA : Int) (aB : BA) (aC : Int) (aI aH : LD) (aF : Int) (aJ : BA) (aK : Int) (aL aM : LD) (aN : Int) (aO : BA) (aQ aP : Int) (aT : BA) (bE : Int) (bQ : LC) : ∀ n v,Yy.r0 k aA aB aC aI aH aF aJ aK aL aM aN aO aQ aP aT bE bQ n v = ZA (Yy.l0 k (Yy.f k) aF aJ aK aL aM aN aO aQ aP aT bE bQ (fun z0 z1 z2 z3 z4 => some (z0,z1,z2,z3,z4))) n v :=
 Zz (Yy.s0 aF aJ aK aL aM aN aO aQ aP aT bE bQ) _ fun L0 v => by obtain ⟨aD,bW⟩ := v; kernel_rfl
theorem Yy.oks (k : Nat) : Zf Try.prog 189 (Yy.e k) := by
 induction k with
 | zero => exact Zba Try.func189 (by kernel_rfl) (fun _ _ _ _ _ => rfl)
 | succ k ih => exact Zk (Yy.p k) mix tyok Try.func189 ih (by kernel_rfl) (fun aA aB aC aI aH => Eq.trans (b := Yy.m k (Yy.f k) aA aB aC aI aH (fun z0 z1 z2 z3 z4 => some (z0,z1,z2,z3,z4)) (fun aF aJ aK aL aM aN aO aQ aP aT bE bQ => Yy.r0 k aA aB aC aI aH aF aJ aK aL aM aN aO aQ aP aT bE bQ k)) (by kernel_rfl) ((congrArg (Yy.m k (Yy.f k) aA aB aC aI aH (fun z0 z1 z2 z3 z4 => some (z0,z1,z2,z3,z4))) (funext fun aF => funext fun aJ => funext fun aK => funext fun aL => funext fun aM => funext fun aN => funext fun aO => funext fun aQ => funext fun aP => funext fun aT => funext fun bE => funext fun bQ => funext fun v => Yy.l0_eq k aA aB aC aI aH aF aJ aK aL aM aN aO aQ aP aT bE bQ k v)).trans (Yy.t_succ k aA aB aC aI aH).symm))
theorem Yy.ok (k : Nat) : Zf Try.prog 189 (Yy.e k) := (Yy.oks k)
noncomputable def YG.l0 {β : Type} (k : Nat) (aD : LD) (K : LC → Option β) (L0 : (Int × LC) → Option β) (v : Int × LC) : Option β :=
 match v with
 | (aF,aJ) => bif (decide ((aF : Int) < (aD.length : Int))) then (atR aD aF [.n,.n,.n,.s,.n,.l,.l] fun x75 x78 x81 x84 x87 x90 x93 => (atR aD aF [.n,.n,.n,.s,.n,.l,.l] fun x97 x100 x103 x106 x109 x112 x115 => (atR aD aF [.n,.n,.n,.s,.n,.l,.l] fun x119 x122 x125 x128 x131 x134 x137 => (Yy.f k x125 x128 x131 x134 x137 (fun y138 y139 y140 y141 y142 => Zd (aJ.length + ([[.d (.int .i64 x75),.d (.int .i64 x100),.d (.int .i64 y138),.d (.str y139),.d (.int .i64 y140),.own y141,.own y142]] : LC).length ≤ Z8) (L0 (IntKind.wrap .i64 (aF + 1),aJ ++ ([[.d (.int .i64 x75),.d (.int .i64 x100),.d (.int .i64 y138),.d (.str y139),.d (.int .i64 y140),.own y141,.own y142]] : LC)))))))) else (K aJ)
noncomputable def YG.m {β : Type} (k : Nat) (a0 : LD) (K : LC → Option β) (F : (LD → (Int × LC) → Option β)) : Option β :=
 F a0 (0,([] : LC))
noncomputable def YG.g {β : Type} (k : Nat) (a0 : LD) (K : LC → Option β) : Option β :=
 ZA (YG.l0 k a0 K) k (0,([] : LC))
noncomputable def YG.t (k : Nat) (a0 : LD) : Option (LC) := YG.g k a0 (fun z0 => some z0)
noncomputable def YG.f {β : Type} (k : Nat) (a0 : LD) (K : LC → Option β) : Option β := bd1 (YG.t k a0) K
noncomputable def YG.e (k : Nat) : Zj := ent [.d .l] [1] [.o] [54] false (YG.t k)
noncomputable def YG.p (k : Nat) : Pro := ⟨Try.prog,[(189,Yy.e k)],Zv [(3,kp [0,3,4])] false [],k⟩
noncomputable def YG.d (k : Nat) (a0 : LD) : Ex → St → Option (LC) := (YG.p k).fin Try.f124 [.d (.sl a0)] [1] [.o]
noncomputable def YG.s0 (aD : LD) (v : Int × LC) : St :=
 match v with
 | (aF,aJ) => ZaA 33 [(0,.d false (.sl aD)),(3,.row 0),(4,.d true (.int .i64 aF))] [.row none true 54 aJ]
noncomputable def YG.r0 (k : Nat) (a0 aD : LD) (n : Nat) (v : Int × LC) : Option (LC) := (YG.p k).lp (ZI Try.f124) 3 [1,1,0,1,0] (YG.d k a0) n (YG.s0 aD v)
theorem YG.l0_eq (k : Nat) (a0 aD : LD) : ∀ n v,YG.r0 k a0 aD n v = ZA (YG.l0 k aD (fun z0 => some z0)) n v :=
 Zz (YG.s0 aD) _ fun L0 v => by obtain ⟨aF,aJ⟩ := v; kernel_rfl
theorem YG.ok (k : Nat) : Zf Try.prog 124 (YG.e k) := Zk (YG.p k) mix tyok Try.func124 (Yy.ok k) (by kernel_rfl) (fun a0 => Eq.trans (b := YG.m k a0 (fun z0 => some z0) (fun aD => YG.r0 k a0 aD k)) (by kernel_rfl) (congrArg (YG.m k a0 (fun z0 => some z0)) (funext fun aD => funext fun v => YG.l0_eq k a0 aD k v) :))
noncomputable def Yac.g {β : Type} (k : Nat) (aA : BA) (aB aC : Int) (aI aH : LD) (K : BA → Int → Int → LC → LC → Option β) : Option β :=
 YG.f k aI (fun y143 => Zd (Zcg 2 aH) (Zd (([] : LC).length + (aH.map (·.map C.d)).length ≤ Z8) (K aA aB aC y143 (([] : LC) ++ (aH.map (·.map C.d))))))
noncomputable def Yac.t (k : Nat) (aA : BA) (aB aC : Int) (aI aH : LD) : Option (BA × Int × Int × LC × LC) := Yac.g k aA aB aC aI aH (fun z0 z1 z2 z3 z4 => some (z0,z1,z2,z3,z4))
noncomputable def Yac.f {β : Type} (k : Nat) (aA : BA) (aB aC : Int) (aI aH : LD) (K : BA → Int → Int → LC → LC → Option β) : Option β := bd5 (Yac.t k aA aB aC aI aH) K
noncomputable def Yac.e (k : Nat) : Zj := ent [.agg [.s,.n,.n,.l,.l]] [5] [.s,.n,.n,.o,.o] [57] false (Yac.t k)
noncomputable def Yac.p (k : Nat) : Pro := ⟨Try.prog,[(124,YG.e k)],Zv [] false [],k⟩
theorem Yac.ok (k : Nat) : Zf Try.prog 121 (Yac.e k) := Zk (Yac.p k) mix tyok Try.func121 (YG.ok k) (by kernel_rfl) (fun aA aB aC aI aH => by show _ = _; kernel_rfl)
noncomputable def YU.l0 {β : Type} (k : Nat) (aD : BA) (K : Bool → Option β) (L0 : Int → Option β) (v : Int) : Option β :=
 match v with
 | aF => bif (decide ((aF : Int) < (aD.size : Int))) then (atStr aD aF fun b3 => YF.f k (IntKind.wrap .i64 b3) 32 126 (fun y4 => bif (!y4) then (K false) else (L0 (IntKind.wrap .i64 (aF + 1))))) else (K (decide (((aD.size : Int) : Int) ≤ 100)))
noncomputable def YU.m {β : Type} (k : Nat) (a0 : BA) (K : Bool → Option β) (F : (BA → Int → Option β)) : Option β :=
 F a0 (0)
noncomputable def YU.g {β : Type} (k : Nat) (a0 : BA) (K : Bool → Option β) : Option β :=
 ZA (YU.l0 k a0 K) k (0)
noncomputable def YU.t (k : Nat) (a0 : BA) : Option (Bool) := YU.g k a0 (fun z0 => some z0)
noncomputable def YU.f {β : Type} (k : Nat) (a0 : BA) (K : Bool → Option β) : Option β := bd1 (YU.t k a0) K
noncomputable def YU.e (k : Nat) : Zj := ent [.d .s] [1] [.b] [4] false (YU.t k)
noncomputable def YU.p (k : Nat) : Pro := ⟨Try.prog,[(79,YF.e k)],Zv [(2,kp [0,3])] false [],k⟩
noncomputable def YU.d (k : Nat) (a0 : BA) : Ex → St → Option (Bool) := (YU.p k).fin Try.f250 [.d (.str a0)] [1] [.b]
noncomputable def YU.s0 (aD : BA) (v : Int) : St :=
 match v with
 | aF => ZaA 19 [(0,.d false (.str aD)),(3,.d true (.int .i64 aF))] []
noncomputable def YU.r0 (k : Nat) (a0 aD : BA) (n : Nat) (v : Int) : Option (Bool) := (YU.p k).lp (ZI Try.f250) 2 [1,0,1,0] (YU.d k a0) n (YU.s0 aD v)
theorem YU.l0_eq (k : Nat) (a0 aD : BA) : ∀ n v,YU.r0 k a0 aD n v = ZA (YU.l0 k aD (fun z0 => some z0)) n v :=
 Zz (YU.s0 aD) _ fun L0 v => by kernel_rfl
theorem YU.ok (k : Nat) : Zf Try.prog 250 (YU.e k) := Zk (YU.p k) mix tyok Try.func250 (YF.ok k) (by kernel_rfl) (fun a0 => Eq.trans (b := YU.m k a0 (fun z0 => some z0) (fun aD => YU.r0 k a0 aD k)) (by kernel_rfl) (congrArg (YU.m k a0 (fun z0 => some z0)) (funext fun aD => funext fun v => YU.l0_eq k a0 aD k v) :))
noncomputable def YR.l0 {β : Type} (k : Nat) (aF : Int) (aJ : BA) (aK : Int) (aL aM : LD) (K : Bool → Option β) (L0 : Int → Option β) (v : Int) : Option β :=
 match v with
 | aD => bif (decide ((aD : Int) < (aL.length : Int))) then (atR aL aD [.s] fun x17 => (Yj.f k x17 (fun y18 => bif (!y18) then (K false) else (bif (decide ((aD : Int) > 0)) then (atR aL (IntKind.wrap .i64 (aD - 1)) [.s] fun x22 => (atR aL aD [.s] fun x26 => (bif (!(strLt x22 x26)) then (K false) else (L0 (IntKind.wrap .i64 (aD + 1)))))) else (L0 (IntKind.wrap .i64 (aD + 1))))))) else (K (((aL.length : Int) : Int) == (aM.length : Int)))
noncomputable def YR.m {β : Type} (k : Nat) (aA : Int) (aB : BA) (aC : Int) (aI aH : LD) (K : Bool → Option β) (F : (Int → BA → Int → LD → LD → Int → Option β)) : Option β :=
 F aA aB aC aI aH (0)
noncomputable def YR.g {β : Type} (k : Nat) (aA : Int) (aB : BA) (aC : Int) (aI aH : LD) (K : Bool → Option β) : Option β :=
 ZA (YR.l0 k aA aB aC aI aH K) k (0)
noncomputable def YR.t (k : Nat) (aA : Int) (aB : BA) (aC : Int) (aI aH : LD) : Option (Bool) := YR.g k aA aB aC aI aH (fun z0 => some z0)
noncomputable def YR.f {β : Type} (k : Nat) (aA : Int) (aB : BA) (aC : Int) (aI aH : LD) (K : Bool → Option β) : Option β := bd1 (YR.t k aA aB aC aI aH) K
noncomputable def YR.e (k : Nat) : Zj := ent [.agg [.n,.s,.n,.l,.l]] [1] [.b] [4] false (YR.t k)
noncomputable def YR.p (k : Nat) : Pro := ⟨Try.prog,[(76,Yj.e k)],Zv [(2,kp [1,3])] false [],k⟩
noncomputable def YR.d (k : Nat) (aA : Int) (aB : BA) (aC : Int) (aI aH : LD) : Ex → St → Option (Bool) := (YR.p k).fin Try.f251 [.agg [.int .i64 aA,.str aB,.int .i64 aC,.sl aI,.sl aH]] [1] [.b]
noncomputable def YR.s0 (aF : Int) (aJ : BA) (aK : Int) (aL aM : LD) (v : Int) : St :=
 match v with
 | aD => ZaA 43 [(1,.bp 0 0),(3,.d true (.int .i64 aD))] [.box none 66 [.d false (.int .i64 aF),.d false (.str aJ),.d false (.int .i64 aK),.d false (.sl aL),.d false (.sl aM)]]
noncomputable def YR.r0 (k : Nat) (aA : Int) (aB : BA) (aC : Int) (aI aH : LD) (aF : Int) (aJ : BA) (aK : Int) (aL aM : LD) (n : Nat) (v : Int) : Option (Bool) := (YR.p k).lp (ZI Try.f251) 2 [1,0,1,0] (YR.d k aA aB aC aI aH) n (YR.s0 aF aJ aK aL aM v)
theorem YR.l0_eq (k : Nat) (aA : Int) (aB : BA) (aC : Int) (aI aH : LD) (aF : Int) (aJ : BA) (aK : Int) (aL aM : LD) : ∀ n v,YR.r0 k aA aB aC aI aH aF aJ aK aL aM n v = ZA (YR.l0 k aF aJ aK aL aM (fun z0 => some z0)) n v :=
 Zz (YR.s0 aF aJ aK aL aM) _ fun L0 v => by kernel_rfl
theorem YR.ok (k : Nat) : Zf Try.prog 251 (YR.e k) := Zk (YR.p k) mix tyok Try.func251 (Yj.ok k) (by kernel_rfl) (fun aA aB aC aI aH => Eq.trans (b := YR.m k aA aB aC aI aH (fun z0 => some z0) (fun aF aJ aK aL aM => YR.r0 k aA aB aC aI aH aF aJ aK aL aM k)) (by kernel_rfl) (congrArg (YR.m k aA aB aC aI aH (fun z0 => some z0)) (funext fun aF => funext fun aJ => funext fun aK => funext fun aL => funext fun aM => funext fun v => YR.l0_eq k aA aB aC aI aH aF aJ aK aL aM k v) :))
noncomputable def Yv.l0 {β : Type} (k : Nat) (r_spec_l4Look : Int → BA → Int → LD → LD → Int → (Int → Option β) → Option β) (aD aK : Int) (aL : BA) (aM : Int) (aN aO : LD) (K : Int → Option β) (L0 : (Int × Int) → Option β) (v : Int × Int) : Option β :=
 match v with
 | (aF,aJ) => bif (decide ((aJ : Int) < (aO.length : Int))) then (atR aO aJ [.n,.s,.n,.l,.l] fun x32 x35 x38 x41 x44 => (r_spec_l4Look x32 x35 x38 x41 x44 (IntKind.wrap .i64 (aD - 1)) (fun y45 => bif ((y45 : Int) == 0) then (K 0) else (bif (decide (((IntKind.wrap .i64 (aF + y45)) : Int) > 300)) then (K 0) else (L0 (IntKind.wrap .i64 (aF + y45),IntKind.wrap .i64 (aJ + 1))))))) else (let J1 := (bif (Zae aL (⟨#[]⟩ : BA)) then (bif (!((aM : Int) == 0)) then (K 0) else (K aF)) else (K 0)); let J0 := (bif (((aN.length : Int) : Int) == 0) then J1 else (K 0)); bif (((aN.length : Int) : Int) == 0) then (bif ((aK : Int) == 1) then (bif (((aO.length : Int) : Int) == 0) then (bif ((aM : Int) == 0) then (YU.f k aL (fun y46 => bif (!y46) then (K 0) else (K aF))) else (K 0)) else (K 0)) else (bif ((aK : Int) == 2) then (bif (((aO.length : Int) : Int) == 0) then (bif (!(Zae aL (⟨#[]⟩ : BA))) then (K 0) else (K aF)) else (K 0)) else (bif ((aK : Int) == 3) then (bif (((aO.length : Int) : Int) == 0) then (bif (Zae aL (⟨#[]⟩ : BA)) then (YF.f k aM 0 1 (fun y47 => bif (!y47) then (K 0) else (K aF))) else (K 0)) else (K 0)) else (bif ((aK : Int) == 4) then J0 else (bif ((aK : Int) == 5) then (YR.f k aK aL aM aN aO (fun y48 => bif y48 then J1 else (K 0))) else (K 0)))))) else (bif ((aK : Int) == 1) then (K 0) else (bif ((aK : Int) == 2) then (K 0) else (bif ((aK : Int) == 3) then (K 0) else (bif ((aK : Int) == 4) then J0 else (bif ((aK : Int) == 5) then (YR.f k aK aL aM aN aO (fun y49 => bif y49 then J1 else (K 0))) else (K 0)))))))
noncomputable def Yv.m {β : Type} (k : Nat) (r_spec_l4Look : Int → BA → Int → LD → LD → Int → (Int → Option β) → Option β) (aA : Int) (aB : BA) (aC : Int) (aI aH : LD) (a1 : Int) (K : Int → Option β) (F : (Int → Int → BA → Int → LD → LD → (Int × Int) → Option β)) : Option β :=
 bif ((a1 : Int) == 0) then (K 0) else (F a1 aA aB aC aI aH (1,0))
noncomputable def Yv.body {β : Type} (k : Nat) (r_spec_l4Look : Int → BA → Int → LD → LD → Int → (Int → Option β) → Option β) (aA : Int) (aB : BA) (aC : Int) (aI aH : LD) (a1 : Int) (K : Int → Option β) : Option β :=
 bif ((a1 : Int) == 0) then (K 0) else (ZA (Yv.l0 k r_spec_l4Look a1 aA aB aC aI aH K) k (1,0))
noncomputable def Yv.w {β : Type} (r : Int → BA → Int → LD → LD → Int → Option (Int)) (aA : Int) (aB : BA) (aC : Int) (aI aH : LD) (a1 : Int) (K : Int → Option β) : Option β := bd1 (r aA aB aC aI aH a1) K
noncomputable def Yv.all : Nat → (Int → BA → Int → LD → LD → Int → Option (Int))
 | 0 => (fun _ _ _ _ _ _ => none)
 | k + 1 => (fun r => (fun aA aB aC aI aH a1 => Yv.body k (Yv.w r) aA aB aC aI aH a1 (fun z0 => some z0))) (Yv.all k)
noncomputable def Yv.t (k : Nat) (aA : Int) (aB : BA) (aC : Int) (aI aH : LD) (a1 : Int) : Option (Int) := (Yv.all k) aA aB aC aI aH a1
noncomputable def Yv.f {β : Type} (k : Nat) (aA : Int) (aB : BA) (aC : Int) (aI aH : LD) (a1 : Int) (K : Int → Option β) : Option β := Yv.w (Yv.t k) aA aB aC aI aH a1 K
noncomputable def Yv.g {β : Type} (k : Nat) (aA : Int) (aB : BA) (aC : Int) (aI aH : LD) (a1 : Int) (K : Int → Option β) : Option β := Yv.body k (Yv.f k) aA aB aC aI aH a1 K
theorem Yv.t_succ (k : Nat) (aA : Int) (aB : BA) (aC : Int) (aI aH : LD) (a1 : Int) : Yv.t (k + 1) aA aB aC aI aH a1 = Yv.g k aA aB aC aI aH a1 (fun z0 => some z0) := rfl
noncomputable def Yv.e (k : Nat) : Zj := ent [.agg [.n,.s,.n,.l,.l],.d .n] [1] [.n] [3] false (Yv.t k)
noncomputable def Yv.p (k : Nat) : Pro := ⟨Try.prog,[(226,Yv.e k),(250,YU.e k),(79,YF.e k),(251,YR.e k)],Zv [(5,kp [1,2,5,6])] false [],k⟩
noncomputable def Yv.d (k : Nat) (aA : Int) (aB : BA) (aC : Int) (aI aH : LD) (a1 : Int) : Ex → St → Option (Int) := (Yv.p k).fin Try.f226 [.agg [.int .i64 aA,.str aB,.int .i64 aC,.sl aI,.sl aH],.d (.int .i64 a1)] [1] [.n]
noncomputable def Yv.s0 (aD aK : Int) (aL : BA) (aM : Int) (aN aO : LD) (v : Int × Int) : St :=
 match v with
 | (aF,aJ) => ZaA 117 [(1,.d false (.int .i64 aD)),(2,.bp 0 0),(5,.d true (.int .i64 aF)),(6,.d true (.int .i64 aJ))] [.box none 66 [.d false (.int .i64 aK),.d false (.str aL),.d false (.int .i64 aM),.d false (.sl aN),.d false (.sl aO)]]
noncomputable def Yv.r0 (k : Nat) (aA : Int) (aB : BA) (aC : Int) (aI aH : LD) (a1 aD aK : Int) (aL : BA) (aM : Int) (aN aO : LD) (n : Nat) (v : Int × Int) : Option (Int) := (Yv.p k).lp (ZI Try.f226) 5 [1,1,1,0,1,0] (Yv.d k aA aB aC aI aH a1) n (Yv.s0 aD aK aL aM aN aO v)
theorem Yv.l0_eq (k : Nat) (aA : Int) (aB : BA) (aC : Int) (aI aH : LD) (a1 aD aK : Int) (aL : BA) (aM : Int) (aN aO : LD) : ∀ n v,Yv.r0 k aA aB aC aI aH a1 aD aK aL aM aN aO n v = ZA (Yv.l0 k (Yv.f k) aD aK aL aM aN aO (fun z0 => some z0)) n v :=
 Zz (Yv.s0 aD aK aL aM aN aO) _ fun L0 v => by obtain ⟨aF,aJ⟩ := v; kernel_rfl
theorem Yv.oks (k : Nat) : Zf Try.prog 226 (Yv.e k) := by
 induction k with
 | zero => exact Zba Try.func226 (by kernel_rfl) (fun _ _ _ _ _ _ => rfl)
 | succ k ih => exact Zk (Yv.p k) mix tyok Try.func226 ⟨ih,YU.ok k,YF.ok k,YR.ok k⟩ (by kernel_rfl) (fun aA aB aC aI aH a1 => Eq.trans (b := Yv.m k (Yv.f k) aA aB aC aI aH a1 (fun z0 => some z0) (fun aD aK aL aM aN aO => Yv.r0 k aA aB aC aI aH a1 aD aK aL aM aN aO k)) (by kernel_rfl) ((congrArg (Yv.m k (Yv.f k) aA aB aC aI aH a1 (fun z0 => some z0)) (funext fun aD => funext fun aK => funext fun aL => funext fun aM => funext fun aN => funext fun aO => funext fun v => Yv.l0_eq k aA aB aC aI aH a1 aD aK aL aM aN aO k v)).trans (Yv.t_succ k aA aB aC aI aH a1).symm))
theorem Yv.ok (k : Nat) : Zf Try.prog 226 (Yv.e k) := (Yv.oks k)
noncomputable def Y6.g {β : Type} (k : Nat) (aA : Int) (aB : BA) (aC : Int) (aI aH : LD) (K : Bool → Option β) : Option β :=
 Yv.f k aA aB aC aI aH 6 (fun y50 => K (decide ((y50 : Int) > 0)))
noncomputable def Y6.t (k : Nat) (aA : Int) (aB : BA) (aC : Int) (aI aH : LD) : Option (Bool) := Y6.g k aA aB aC aI aH (fun z0 => some z0)
noncomputable def Y6.f {β : Type} (k : Nat) (aA : Int) (aB : BA) (aC : Int) (aI aH : LD) (K : Bool → Option β) : Option β := bd1 (Y6.t k aA aB aC aI aH) K
noncomputable def Y6.e (k : Nat) : Zj := ent [.agg [.n,.s,.n,.l,.l]] [1] [.b] [4] false (Y6.t k)
noncomputable def Y6.p (k : Nat) : Pro := ⟨Try.prog,[(226,Yv.e k)],Zv [] false [],k⟩
theorem Y6.ok (k : Nat) : Zf Try.prog 188 (Y6.e k) := Zk (Y6.p k) mix tyok Try.func188 (Yv.ok k) (by kernel_rfl) (fun aA aB aC aI aH => by show _ = _; kernel_rfl)
noncomputable def Yk.l0 {β : Type} (k : Nat) (aD : LD) (K : Bool → Option β) (L0 : Int → Option β) (v : Int) : Option β :=
 match v with
 | aF => bif (decide ((aF : Int) < (aD.length : Int))) then (atR aD aF [.n,.n,.n,.s,.n,.l,.l] fun x77 x80 x83 x86 x89 x92 x95 => (YF.f k x77 1 1000000 (fun y96 => bif (!y96) then (K false) else (YF.f k x80 1 10000 (fun y97 => bif (!y97) then (K false) else (Y6.f k x83 x86 x89 x92 x95 (fun y98 => bif (!y98) then (K false) else (bif (decide ((aF : Int) > 0)) then (atR aD (IntKind.wrap .i64 (aF - 1)) [.n,.n,.n,.s,.n,.l,.l] fun x102 x105 x108 x111 x114 x117 x120 => (bif (decide ((x102 : Int) ≥ x77)) then (K false) else (L0 (IntKind.wrap .i64 (aF + 1))))) else (L0 (IntKind.wrap .i64 (aF + 1))))))))))) else (K (decide (((aD.length : Int) : Int) ≤ 40)))
noncomputable def Yk.m {β : Type} (k : Nat) (a0 : LD) (K : Bool → Option β) (F : (LD → Int → Option β)) : Option β :=
 F a0 (0)
noncomputable def Yk.g {β : Type} (k : Nat) (a0 : LD) (K : Bool → Option β) : Option β :=
 ZA (Yk.l0 k a0 K) k (0)
noncomputable def Yk.t (k : Nat) (a0 : LD) : Option (Bool) := Yk.g k a0 (fun z0 => some z0)
noncomputable def Yk.f {β : Type} (k : Nat) (a0 : LD) (K : Bool → Option β) : Option β := bd1 (Yk.t k a0) K
noncomputable def Yk.e (k : Nat) : Zj := ent [.d .l] [1] [.b] [4] false (Yk.t k)
noncomputable def Yk.p (k : Nat) : Pro := ⟨Try.prog,[(79,YF.e k),(188,Y6.e k)],Zv [(2,kp [0,3])] false [],k⟩
noncomputable def Yk.d (k : Nat) (a0 : LD) : Ex → St → Option (Bool) := (Yk.p k).fin Try.f123 [.d (.sl a0)] [1] [.b]
noncomputable def Yk.s0 (aD : LD) (v : Int) : St :=
 match v with
 | aF => ZaA 49 [(0,.d false (.sl aD)),(3,.d true (.int .i64 aF))] []
noncomputable def Yk.r0 (k : Nat) (a0 aD : LD) (n : Nat) (v : Int) : Option (Bool) := (Yk.p k).lp (ZI Try.f123) 2 [1,0,1,0] (Yk.d k a0) n (Yk.s0 aD v)
theorem Yk.l0_eq (k : Nat) (a0 aD : LD) : ∀ n v,Yk.r0 k a0 aD n v = ZA (Yk.l0 k aD (fun z0 => some z0)) n v :=
 Zz (Yk.s0 aD) _ fun L0 v => by kernel_rfl
theorem Yk.ok (k : Nat) : Zf Try.prog 123 (Yk.e k) := Zk (Yk.p k) mix tyok Try.func123 ⟨YF.ok k,Y6.ok k⟩ (by kernel_rfl) (fun a0 => Eq.trans (b := Yk.m k a0 (fun z0 => some z0) (fun aD => Yk.r0 k a0 aD k)) (by kernel_rfl) (congrArg (Yk.m k a0 (fun z0 => some z0)) (funext fun aD => funext fun v => Yk.l0_eq k a0 aD k v) :))
noncomputable def YB.l0 {β : Type} (k : Nat) (aD : LD) (aF : Int) (K : Bool → Option β) (L0 : Int → Option β) (v : Int) : Option β :=
 match v with
 | aJ => bif (decide ((aJ : Int) < (aD.length : Int))) then (atR aD aJ [.n,.n] fun x34 x37 => (YF.f k x34 1 1000000 (fun y38 => bif (!y38) then (K false) else (atR aD aJ [.n,.n] fun x42 x45 => (YF.f k x45 aF 10000 (fun y46 => bif (!y46) then (K false) else (bif (decide ((aJ : Int) > 0)) then (atR aD (IntKind.wrap .i64 (aJ - 1)) [.n,.n] fun x50 x53 => (atR aD aJ [.n,.n] fun x57 x60 => (bif (decide ((x50 : Int) ≥ x57)) then (K false) else (L0 (IntKind.wrap .i64 (aJ + 1)))))) else (L0 (IntKind.wrap .i64 (aJ + 1)))))))))) else (K (decide (((aD.length : Int) : Int) ≤ 80)))
noncomputable def YB.m {β : Type} (k : Nat) (a0 : LD) (a1 : Int) (K : Bool → Option β) (F : (LD → Int → Int → Option β)) : Option β :=
 F a0 a1 (0)
noncomputable def YB.g {β : Type} (k : Nat) (a0 : LD) (a1 : Int) (K : Bool → Option β) : Option β :=
 ZA (YB.l0 k a0 a1 K) k (0)
noncomputable def YB.t (k : Nat) (a0 : LD) (a1 : Int) : Option (Bool) := YB.g k a0 a1 (fun z0 => some z0)
noncomputable def YB.f {β : Type} (k : Nat) (a0 : LD) (a1 : Int) (K : Bool → Option β) : Option β := bd1 (YB.t k a0 a1) K
noncomputable def YB.e (k : Nat) : Zj := ent [.d .l,.d .n] [1] [.b] [4] false (YB.t k)
noncomputable def YB.p (k : Nat) : Pro := ⟨Try.prog,[(79,YF.e k)],Zv [(2,kp [0,1,5])] false [],k⟩
noncomputable def YB.d (k : Nat) (a0 : LD) (a1 : Int) : Ex → St → Option (Bool) := (YB.p k).fin Try.f186 [.d (.sl a0),.d (.int .i64 a1)] [1] [.b]
noncomputable def YB.s0 (aD : LD) (aF v : Int) : St :=
 match v with
 | aJ => ZaA 50 [(0,.d false (.sl aD)),(1,.d false (.int .i64 aF)),(5,.d true (.int .i64 aJ))] []
noncomputable def YB.r0 (k : Nat) (a0 : LD) (a1 : Int) (aD : LD) (aF : Int) (n : Nat) (v : Int) : Option (Bool) := (YB.p k).lp (ZI Try.f186) 2 [1,0,1,0] (YB.d k a0 a1) n (YB.s0 aD aF v)
theorem YB.l0_eq (k : Nat) (a0 : LD) (a1 : Int) (aD : LD) (aF : Int) : ∀ n v,YB.r0 k a0 a1 aD aF n v = ZA (YB.l0 k aD aF (fun z0 => some z0)) n v :=
 Zz (YB.s0 aD aF) _ fun L0 v => by kernel_rfl
theorem YB.ok (k : Nat) : Zf Try.prog 186 (YB.e k) := Zk (YB.p k) mix tyok Try.func186 (YF.ok k) (by kernel_rfl) (fun a0 a1 => Eq.trans (b := YB.m k a0 a1 (fun z0 => some z0) (fun aD aF => YB.r0 k a0 a1 aD aF k)) (by kernel_rfl) (congrArg (YB.m k a0 a1 (fun z0 => some z0)) (funext fun aD => funext fun aF => funext fun v => YB.l0_eq k a0 a1 aD aF k v) :))
noncomputable def Yt.l0 {β : Type} (k : Nat) (aD : LD) (K : Int → Option β) (L0 : (Int × Int) → Option β) (v : Int × Int) : Option β :=
 match v with
 | (aF,aJ) => bif (decide ((aJ : Int) < (aD.length : Int))) then (atR aD aJ [.n,.n] fun x11 x14 => (L0 (IntKind.wrap .i64 (aF + x14),IntKind.wrap .i64 (aJ + 1)))) else (K aF)
noncomputable def Yt.m {β : Type} (k : Nat) (a0 : LD) (K : Int → Option β) (F : (LD → (Int × Int) → Option β)) : Option β :=
 F a0 (0,0)
noncomputable def Yt.g {β : Type} (k : Nat) (a0 : LD) (K : Int → Option β) : Option β :=
 ZA (Yt.l0 k a0 K) k (0,0)
noncomputable def Yt.t (k : Nat) (a0 : LD) : Option (Int) := Yt.g k a0 (fun z0 => some z0)
noncomputable def Yt.f {β : Type} (k : Nat) (a0 : LD) (K : Int → Option β) : Option β := bd1 (Yt.t k a0) K
noncomputable def Yt.e (k : Nat) : Zj := ent [.d .l] [1] [.n] [3] false (Yt.t k)
noncomputable def Yt.p (k : Nat) : Pro := ⟨Try.prog,[],Zv [(3,kp [0,3,4])] false [],k⟩
noncomputable def Yt.d (k : Nat) (a0 : LD) : Ex → St → Option (Int) := (Yt.p k).fin Try.f187 [.d (.sl a0)] [1] [.n]
noncomputable def Yt.s0 (aD : LD) (v : Int × Int) : St :=
 match v with
 | (aF,aJ) => ZaA 19 [(0,.d false (.sl aD)),(3,.d true (.int .i64 aF)),(4,.d true (.int .i64 aJ))] []
noncomputable def Yt.r0 (k : Nat) (a0 aD : LD) (n : Nat) (v : Int × Int) : Option (Int) := (Yt.p k).lp (ZI Try.f187) 3 [1,1,0,1,0] (Yt.d k a0) n (Yt.s0 aD v)
theorem Yt.l0_eq (k : Nat) (a0 aD : LD) : ∀ n v,Yt.r0 k a0 aD n v = ZA (Yt.l0 k aD (fun z0 => some z0)) n v :=
 Zz (Yt.s0 aD) _ fun L0 v => by obtain ⟨aF,aJ⟩ := v; kernel_rfl
theorem Yt.ok (k : Nat) : Zf Try.prog 187 (Yt.e k) := Zk (Yt.p k) mix tyok Try.func187 trivial (by kernel_rfl) (fun a0 => Eq.trans (b := Yt.m k a0 (fun z0 => some z0) (fun aD => Yt.r0 k a0 aD k)) (by kernel_rfl) (congrArg (Yt.m k a0 (fun z0 => some z0)) (funext fun aD => funext fun v => Yt.l0_eq k a0 aD k v) :))
noncomputable def YD.g {β : Type} (k : Nat) (aA : BA) (aB aC : Int) (aI aH : LD) (K : Bool → Option β) : Option β :=
 Yj.f k aA (fun y1 => bif y1 then (YF.f k aB 0 10000 (fun y2 => bif y2 then (YF.f k aC 0 1000000 (fun y3 => bif y3 then (Yk.f k aI (fun y121 => bif y121 then (YB.f k aH 1 (fun y122 => bif y122 then (Yt.f k aH (fun y123 => K (decide ((y123 : Int) ≤ aB)))) else (K false))) else (K false))) else (K false))) else (K false))) else (K false))
noncomputable def YD.t (k : Nat) (aA : BA) (aB aC : Int) (aI aH : LD) : Option (Bool) := YD.g k aA aB aC aI aH (fun z0 => some z0)
noncomputable def YD.f {β : Type} (k : Nat) (aA : BA) (aB aC : Int) (aI aH : LD) (K : Bool → Option β) : Option β := bd1 (YD.t k aA aB aC aI aH) K
noncomputable def YD.e (k : Nat) : Zj := ent [.agg [.s,.n,.n,.l,.l]] [1] [.b] [4] false (YD.t k)
noncomputable def YD.p (k : Nat) : Pro := ⟨Try.prog,[(76,Yj.e k),(79,YF.e k),(123,Yk.e k),(186,YB.e k),(187,Yt.e k)],Zv [] false [],k⟩
theorem YD.ok (k : Nat) : Zf Try.prog 122 (YD.e k) := Zk (YD.p k) mix tyok Try.func122 ⟨Yj.ok k,YF.ok k,Yk.ok k,YB.ok k,Yt.ok k⟩ (by kernel_rfl) (fun aA aB aC aI aH => by show _ = _; kernel_rfl)
noncomputable def Yar.g {β : Type} (k : Nat) (aA : BA) (aB aC : Int) (aI aH : LD) (a1 : Int) (a2 : LD) (K : BA → Int → Int → LC → LC → Bool → Option β) : Option β :=
 Yac.f k aA aB aC aI aH (fun y144 y145 y146 y147 y148 => YD.f k aA aB aC aI aH (fun y149 => bif (!y149) then (K y144 y145 y146 y147 y148 false) else (Yk.f k a2 (fun y150 => bif (!y150) then (K y144 y145 y146 y147 y148 false) else (bif (decide ((a1 : Int) ≤ aC)) then (K y144 y145 y146 y147 y148 false) else (bif (decide ((a1 : Int) > 1000000)) then (K y144 y145 y146 y147 y148 false) else (YG.f k a2 (fun y151 => K y144 y145 a1 y151 y148 true))))))))
noncomputable def Yar.t (k : Nat) (aA : BA) (aB aC : Int) (aI aH : LD) (a1 : Int) (a2 : LD) : Option (BA × Int × Int × LC × LC × Bool) := Yar.g k aA aB aC aI aH a1 a2 (fun z0 z1 z2 z3 z4 z5 => some (z0,z1,z2,z3,z4,z5))
noncomputable def Yar.f {β : Type} (k : Nat) (aA : BA) (aB aC : Int) (aI aH : LD) (a1 : Int) (a2 : LD) (K : BA → Int → Int → LC → LC → Bool → Option β) : Option β := match Yar.t k aA aB aC aI aH a1 a2 with | some (z0,z1,z2,z3,z4,z5) => K z0 z1 z2 z3 z4 z5 | none => none
noncomputable def Yar.e (k : Nat) : Zj := ent [.agg [.s,.n,.n,.l,.l],.d .n,.d .l] [5,1] [.s,.n,.n,.o,.o,.b] [57,4] false (Yar.t k)
noncomputable def Yar.p (k : Nat) : Pro := ⟨Try.prog,[(121,Yac.e k),(122,YD.e k),(123,Yk.e k),(124,YG.e k)],Zv [] false [],k⟩
theorem Yar.ok (k : Nat) : Zf Try.prog 44 (Yar.e k) := Zk (Yar.p k) mix tyok Try.func44 ⟨Yac.ok k,YD.ok k,Yk.ok k,YG.ok k⟩ (by kernel_rfl) (fun aA aB aC aI aH a1 a2 => by show _ = _; kernel_rfl)
noncomputable def Yu.l0 {β : Type} (k : Nat) (aD : Int) (aJ : BA) (aK aL : Int) (aM aN : LD) (K L0 : Int → Option β) (v : Int) : Option β :=
 match v with
 | aF => bif (decide ((aF : Int) < (aM.length : Int))) then (atR aM aF [.n,.n,.n,.s,.n,.l,.l] fun x48 x51 x54 x57 x60 x63 x66 => (bif ((x48 : Int) == aD) then (atR aM aF [.n,.n,.n,.s,.n,.l,.l] fun x70 x73 x76 x79 x82 x85 x88 => (K x73)) else (L0 (IntKind.wrap .i64 (aF + 1))))) else (K 0)
noncomputable def Yu.m {β : Type} (k : Nat) (aA : BA) (aB aC : Int) (aI aH : LD) (a1 : Int) (K : Int → Option β) (F : (Int → BA → Int → Int → LD → LD → Int → Option β)) : Option β :=
 F a1 aA aB aC aI aH (0)
noncomputable def Yu.g {β : Type} (k : Nat) (aA : BA) (aB aC : Int) (aI aH : LD) (a1 : Int) (K : Int → Option β) : Option β :=
 ZA (Yu.l0 k a1 aA aB aC aI aH K) k (0)
noncomputable def Yu.t (k : Nat) (aA : BA) (aB aC : Int) (aI aH : LD) (a1 : Int) : Option (Int) := Yu.g k aA aB aC aI aH a1 (fun z0 => some z0)
noncomputable def Yu.f {β : Type} (k : Nat) (aA : BA) (aB aC : Int) (aI aH : LD) (a1 : Int) (K : Int → Option β) : Option β := bd1 (Yu.t k aA aB aC aI aH a1) K
noncomputable def Yu.e (k : Nat) : Zj := ent [.agg [.s,.n,.n,.l,.l],.d .n] [1] [.n] [3] false (Yu.t k)
noncomputable def Yu.p (k : Nat) : Pro := ⟨Try.prog,[],Zv [(2,kp [1,2,5])] false [],k⟩
noncomputable def Yu.d (k : Nat) (aA : BA) (aB aC : Int) (aI aH : LD) (a1 : Int) : Ex → St → Option (Int) := (Yu.p k).fin Try.f246 [.agg [.str aA,.int .i64 aB,.int .i64 aC,.sl aI,.sl aH],.d (.int .i64 a1)] [1] [.n]
noncomputable def Yu.s0 (aD : Int) (aJ : BA) (aK aL : Int) (aM aN : LD) (v : Int) : St :=
 match v with
 | aF => ZaA 27 [(1,.d false (.int .i64 aD)),(2,.bp 0 0),(5,.d true (.int .i64 aF))] [.box none 57 [.d false (.str aJ),.d false (.int .i64 aK),.d false (.int .i64 aL),.d false (.sl aM),.d false (.sl aN)]]
noncomputable def Yu.r0 (k : Nat) (aA : BA) (aB aC : Int) (aI aH : LD) (a1 aD : Int) (aJ : BA) (aK aL : Int) (aM aN : LD) (n : Nat) (v : Int) : Option (Int) := (Yu.p k).lp (ZI Try.f246) 2 [1,0,1,0] (Yu.d k aA aB aC aI aH a1) n (Yu.s0 aD aJ aK aL aM aN v)
theorem Yu.l0_eq (k : Nat) (aA : BA) (aB aC : Int) (aI aH : LD) (a1 aD : Int) (aJ : BA) (aK aL : Int) (aM aN : LD) : ∀ n v,Yu.r0 k aA aB aC aI aH a1 aD aJ aK aL aM aN n v = ZA (Yu.l0 k aD aJ aK aL aM aN (fun z0 => some z0)) n v :=
 Zz (Yu.s0 aD aJ aK aL aM aN) _ fun L0 v => by kernel_rfl
theorem Yu.ok (k : Nat) : Zf Try.prog 246 (Yu.e k) := Zk (Yu.p k) mix tyok Try.func246 trivial (by kernel_rfl) (fun aA aB aC aI aH a1 => Eq.trans (b := Yu.m k aA aB aC aI aH a1 (fun z0 => some z0) (fun aD aJ aK aL aM aN => Yu.r0 k aA aB aC aI aH a1 aD aJ aK aL aM aN k)) (by kernel_rfl) (congrArg (Yu.m k aA aB aC aI aH a1 (fun z0 => some z0)) (funext fun aD => funext fun aJ => funext fun aK => funext fun aL => funext fun aM => funext fun aN => funext fun v => Yu.l0_eq k aA aB aC aI aH a1 aD aJ aK aL aM aN k v) :))
noncomputable def YM.l0 {β : Type} (k : Nat) (aF : BA) (aJ aK : Int) (aL aM : LD) (K L0 : Int → Option β) (v : Int) : Option β :=
 match v with
 | aD => bif (decide ((aD : Int) < (aM.length : Int))) then (atR aM aD [.n,.n] fun x93 x96 => (atR aM aD [.n,.n] fun x100 x103 => (Yu.f k aF aJ aK aL aM x100 (fun y104 => bif (decide ((x96 : Int) > y104)) then (K aD) else (L0 (IntKind.wrap .i64 (aD + 1))))))) else (K (-1))
noncomputable def YM.m {β : Type} (k : Nat) (aA : BA) (aB aC : Int) (aI aH : LD) (K : Int → Option β) (F : (BA → Int → Int → LD → LD → Int → Option β)) : Option β :=
 F aA aB aC aI aH (0)
noncomputable def YM.g {β : Type} (k : Nat) (aA : BA) (aB aC : Int) (aI aH : LD) (K : Int → Option β) : Option β :=
 ZA (YM.l0 k aA aB aC aI aH K) k (0)
noncomputable def YM.t (k : Nat) (aA : BA) (aB aC : Int) (aI aH : LD) : Option (Int) := YM.g k aA aB aC aI aH (fun z0 => some z0)
noncomputable def YM.f {β : Type} (k : Nat) (aA : BA) (aB aC : Int) (aI aH : LD) (K : Int → Option β) : Option β := bd1 (YM.t k aA aB aC aI aH) K
noncomputable def YM.e (k : Nat) : Zj := ent [.agg [.s,.n,.n,.l,.l]] [1] [.n] [3] false (YM.t k)
noncomputable def YM.p (k : Nat) : Pro := ⟨Try.prog,[(246,Yu.e k)],Zv [(2,kp [1,3])] false [],k⟩
noncomputable def YM.d (k : Nat) (aA : BA) (aB aC : Int) (aI aH : LD) : Ex → St → Option (Int) := (YM.p k).fin Try.f213 [.agg [.str aA,.int .i64 aB,.int .i64 aC,.sl aI,.sl aH]] [1] [.n]
noncomputable def YM.s0 (aF : BA) (aJ aK : Int) (aL aM : LD) (v : Int) : St :=
 match v with
 | aD => ZaA 27 [(1,.bp 0 0),(3,.d true (.int .i64 aD))] [.box none 57 [.d false (.str aF),.d false (.int .i64 aJ),.d false (.int .i64 aK),.d false (.sl aL),.d false (.sl aM)]]
noncomputable def YM.r0 (k : Nat) (aA : BA) (aB aC : Int) (aI aH : LD) (aF : BA) (aJ aK : Int) (aL aM : LD) (n : Nat) (v : Int) : Option (Int) := (YM.p k).lp (ZI Try.f213) 2 [1,0,1,0] (YM.d k aA aB aC aI aH) n (YM.s0 aF aJ aK aL aM v)
theorem YM.l0_eq (k : Nat) (aA : BA) (aB aC : Int) (aI aH : LD) (aF : BA) (aJ aK : Int) (aL aM : LD) : ∀ n v,YM.r0 k aA aB aC aI aH aF aJ aK aL aM n v = ZA (YM.l0 k aF aJ aK aL aM (fun z0 => some z0)) n v :=
 Zz (YM.s0 aF aJ aK aL aM) _ fun L0 v => by kernel_rfl
theorem YM.ok (k : Nat) : Zf Try.prog 213 (YM.e k) := Zk (YM.p k) mix tyok Try.func213 (Yu.ok k) (by kernel_rfl) (fun aA aB aC aI aH => Eq.trans (b := YM.m k aA aB aC aI aH (fun z0 => some z0) (fun aF aJ aK aL aM => YM.r0 k aA aB aC aI aH aF aJ aK aL aM k)) (by kernel_rfl) (congrArg (YM.m k aA aB aC aI aH (fun z0 => some z0)) (funext fun aF => funext fun aJ => funext fun aK => funext fun aL => funext fun aM => funext fun v => YM.l0_eq k aA aB aC aI aH aF aJ aK aL aM k v) :))
noncomputable def YV.l0 {β : Type} (k : Nat) (aD : LD) (aF aJ : Int) (K : LC → Option β) (L0 : (Bool × Int × LC) → Option β) (v : Bool × Int × LC) : Option β :=
 match v with
 | (aK,aL,aM) => let J0 := (aM.length + ([[.d (.int .i64 aF),.d (.int .i64 aJ)]] : LC).length ≤ Z8); let J1 := (aM ++ ([[.d (.int .i64 aF),.d (.int .i64 aJ)]] : LC)); bif (decide ((aL : Int) < (aD.length : Int))) then (bif (!aK) then (atR aD aL [.n,.n] fun x53 x56 => (bif (decide ((x53 : Int) ≥ aF)) then (Zd J0 (atR aD aL [.n,.n] fun x60 x63 => (bif ((x60 : Int) != aF) then (atR aD aL [.n,.n] fun x67 x70 => (Zd (J1.length + ([[.d (.int .i64 x67),.d (.int .i64 x70)]] : LC).length ≤ Z8) (L0 (true,IntKind.wrap .i64 (aL + 1),J1 ++ ([[.d (.int .i64 x67),.d (.int .i64 x70)]] : LC))))) else (L0 (true,IntKind.wrap .i64 (aL + 1),aM ++ ([[.d (.int .i64 aF),.d (.int .i64 aJ)]] : LC)))))) else (atR aD aL [.n,.n] fun x74 x77 => (bif ((x74 : Int) != aF) then (atR aD aL [.n,.n] fun x81 x84 => (Zd (aM.length + ([[.d (.int .i64 x81),.d (.int .i64 x84)]] : LC).length ≤ Z8) (L0 (aK,IntKind.wrap .i64 (aL + 1),aM ++ ([[.d (.int .i64 x81),.d (.int .i64 x84)]] : LC))))) else (L0 (aK,IntKind.wrap .i64 (aL + 1),aM)))))) else (atR aD aL [.n,.n] fun x88 x91 => (bif ((x88 : Int) != aF) then (atR aD aL [.n,.n] fun x95 x98 => (Zd (aM.length + ([[.d (.int .i64 x95),.d (.int .i64 x98)]] : LC).length ≤ Z8) (L0 (aK,IntKind.wrap .i64 (aL + 1),aM ++ ([[.d (.int .i64 x95),.d (.int .i64 x98)]] : LC))))) else (L0 (aK,IntKind.wrap .i64 (aL + 1),aM))))) else (bif (!aK) then (Zd J0 (K J1)) else (K aM))
noncomputable def YV.m {β : Type} (k : Nat) (a0 : LD) (a1 a2 : Int) (K : LC → Option β) (F : (LD → Int → Int → (Bool × Int × LC) → Option β)) : Option β :=
 F a0 a1 a2 (((a2 : Int) == 0),0,([] : LC))
noncomputable def YV.g {β : Type} (k : Nat) (a0 : LD) (a1 a2 : Int) (K : LC → Option β) : Option β :=
 ZA (YV.l0 k a0 a1 a2 K) k (((a2 : Int) == 0),0,([] : LC))
noncomputable def YV.t (k : Nat) (a0 : LD) (a1 a2 : Int) : Option (LC) := YV.g k a0 a1 a2 (fun z0 => some z0)
noncomputable def YV.f {β : Type} (k : Nat) (a0 : LD) (a1 a2 : Int) (K : LC → Option β) : Option β := bd1 (YV.t k a0 a1 a2) K
noncomputable def YV.e (k : Nat) : Zj := ent [.d .l,.d .n,.d .n] [1] [.o] [55] false (YV.t k)
noncomputable def YV.p (k : Nat) : Pro := ⟨Try.prog,[],Zv [(4,kp [0,1,2,7,8,9])] false [],k⟩
noncomputable def YV.d (k : Nat) (a0 : LD) (a1 a2 : Int) : Ex → St → Option (LC) := (YV.p k).fin Try.f214 [.d (.sl a0),.d (.int .i64 a1),.d (.int .i64 a2)] [1] [.o]
noncomputable def YV.s0 (aD : LD) (aF aJ : Int) (v : Bool × Int × LC) : St :=
 match v with
 | (aK,aL,aM) => ZaA 59 [(0,.d false (.sl aD)),(1,.d false (.int .i64 aF)),(2,.d false (.int .i64 aJ)),(7,.row 0),(8,.d true (.bool aK)),(9,.d true (.int .i64 aL))] [.row none true 55 aM]
noncomputable def YV.r0 (k : Nat) (a0 : LD) (a1 a2 : Int) (aD : LD) (aF aJ : Int) (n : Nat) (v : Bool × Int × LC) : Option (LC) := (YV.p k).lp (ZI Try.f214) 4 [1,1,1,0,1,0] (YV.d k a0 a1 a2) n (YV.s0 aD aF aJ v)
theorem YV.l0_eq (k : Nat) (a0 : LD) (a1 a2 : Int) (aD : LD) (aF aJ : Int) : ∀ n v,YV.r0 k a0 a1 a2 aD aF aJ n v = ZA (YV.l0 k aD aF aJ (fun z0 => some z0)) n v :=
 Zz (YV.s0 aD aF aJ) _ fun L0 v => by obtain ⟨aK,aL,aM⟩ := v; kernel_rfl
theorem YV.ok (k : Nat) : Zf Try.prog 214 (YV.e k) := Zk (YV.p k) mix tyok Try.func214 trivial (by kernel_rfl) (fun a0 a1 a2 => Eq.trans (b := YV.m k a0 a1 a2 (fun z0 => some z0) (fun aD aF aJ => YV.r0 k a0 a1 a2 aD aF aJ k)) (by kernel_rfl) (congrArg (YV.m k a0 a1 a2 (fun z0 => some z0)) (funext fun aD => funext fun aF => funext fun aJ => funext fun v => YV.l0_eq k a0 a1 a2 aD aF aJ k v) :))
noncomputable def YX.l0 {β : Type} (k : Nat) (aD : LD) (aF : Int) (K : Int → Bool → Option β) (L0 : Int → Option β) (v : Int) : Option β :=
 match v with
 | aJ => bif (decide ((aJ : Int) < (aD.length : Int))) then (atR aD aJ [.n,.n] fun x18 x21 => (bif ((x18 : Int) == aF) then (atR aD aJ [.n,.n] fun x25 x28 => (K x28 true)) else (L0 (IntKind.wrap .i64 (aJ + 1))))) else (K 0 false)
noncomputable def YX.m {β : Type} (k : Nat) (a0 : LD) (a1 : Int) (K : Int → Bool → Option β) (F : (LD → Int → Int → Option β)) : Option β :=
 F a0 a1 (0)
noncomputable def YX.g {β : Type} (k : Nat) (a0 : LD) (a1 : Int) (K : Int → Bool → Option β) : Option β :=
 ZA (YX.l0 k a0 a1 K) k (0)
noncomputable def YX.t (k : Nat) (a0 : LD) (a1 : Int) : Option (Int × Bool) := YX.g k a0 a1 (fun z0 z1 => some (z0,z1))
noncomputable def YX.f {β : Type} (k : Nat) (a0 : LD) (a1 : Int) (K : Int → Bool → Option β) : Option β := bd2 (YX.t k a0 a1) K
noncomputable def YX.e (k : Nat) : Zj := ent [.d .l,.d .n] [1,1] [.n,.b] [3,4] false (YX.t k)
noncomputable def YX.p (k : Nat) : Pro := ⟨Try.prog,[],Zv [(2,kp [0,1,6])] false [],k⟩
noncomputable def YX.d (k : Nat) (a0 : LD) (a1 : Int) : Ex → St → Option (Int × Bool) := (YX.p k).fin Try.f215 [.d (.sl a0),.d (.int .i64 a1)] [1,1] [.n,.b]
noncomputable def YX.s0 (aD : LD) (aF v : Int) : St :=
 match v with
 | aJ => ZaA 25 [(0,.d false (.sl aD)),(1,.d false (.int .i64 aF)),(6,.d true (.int .i64 aJ))] []
noncomputable def YX.r0 (k : Nat) (a0 : LD) (a1 : Int) (aD : LD) (aF : Int) (n : Nat) (v : Int) : Option (Int × Bool) := (YX.p k).lp (ZI Try.f215) 2 [1,0,1,0] (YX.d k a0 a1) n (YX.s0 aD aF v)
theorem YX.l0_eq (k : Nat) (a0 : LD) (a1 : Int) (aD : LD) (aF : Int) : ∀ n v,YX.r0 k a0 a1 aD aF n v = ZA (YX.l0 k aD aF (fun z0 z1 => some (z0,z1))) n v :=
 Zz (YX.s0 aD aF) _ fun L0 v => by kernel_rfl
theorem YX.ok (k : Nat) : Zf Try.prog 215 (YX.e k) := Zk (YX.p k) mix tyok Try.func215 trivial (by kernel_rfl) (fun a0 a1 => Eq.trans (b := YX.m k a0 a1 (fun z0 z1 => some (z0,z1)) (fun aD aF => YX.r0 k a0 a1 aD aF k)) (by kernel_rfl) (congrArg (YX.m k a0 a1 (fun z0 z1 => some (z0,z1))) (funext fun aD => funext fun aF => funext fun v => YX.l0_eq k a0 a1 aD aF k v) :))
noncomputable def Y8.l0 {β : Type} (k : Nat) (aF : BA) (aJ aK : Int) (aL aM : LD) (aN : BA) (aO aQ : Int) (aP : BA) (aT bE : Int) (bQ bW : LC) (K : BA → Int → Int → LC → LC → Int → Int → Option β) (L0 : Int → Option β) (v : Int) : Option β :=
 match v with
 | aD => bif (decide ((aD : Int) < (aL.length : Int))) then (Yt.f k aM (fun y220 => bif (decide ((y220 : Int) < aJ)) then (atR aL aD [.n,.n,.n,.s,.n,.l,.l] fun x224 x227 x230 x233 x236 x239 x242 => (YX.f k aM x224 (fun y243 y244 => atR aL aD [.n,.n,.n,.s,.n,.l,.l] fun x248 x251 x254 x257 x260 x263 x266 => (bif (decide ((y243 : Int) < x251)) then (atR aL aD [.n,.n,.n,.s,.n,.l,.l] fun x270 x273 x276 x279 x282 x285 x288 => (YV.f k aM x270 (IntKind.wrap .i64 (y243 + 1)) (fun y289 => atR aL aD [.n,.n,.n,.s,.n,.l,.l] fun x293 x296 x299 x302 x305 x308 x311 => (K aP aT bE bQ y289 x293 1)))) else (L0 (IntKind.wrap .i64 (aD + 1))))))) else (K aP aT bE bQ bW 0 0))) else (K aP aT bE bQ bW 0 0)
noncomputable def Y8.m {β : Type} (k : Nat) (aA : BA) (aB aC : Int) (aI aH : LD) (K : BA → Int → Int → LC → LC → Int → Int → Option β) (F : (BA → Int → Int → LD → LD → BA → Int → Int → BA → Int → Int → LC → LC → Int → Option β)) : Option β :=
 Yac.f k aA aB aC aI aH (fun y1 y2 y3 y4 y5 => YD.f k aA aB aC aI aH (fun y6 => bif (!y6) then (K y1 y2 y3 y4 y5 0 0) else (YM.f k aA aB aC aI aH (fun y105 => bif (decide ((y105 : Int) ≥ 0)) then (atR aH y105 [.n,.n] fun x109 x112 => (atR aH y105 [.n,.n] fun x116 x119 => (YV.f k aH x109 (IntKind.wrap .i64 (x119 - 1)) (fun y120 => atR aH y105 [.n,.n] fun x124 x127 => (K y1 y2 y3 y4 y120 x124 (-1)))))) else (F aA aB aC aI aH (⟨#[]⟩ : BA) 0 0 y1 y2 y3 y4 y5 (0))))))
noncomputable def Y8.g {β : Type} (k : Nat) (aA : BA) (aB aC : Int) (aI aH : LD) (K : BA → Int → Int → LC → LC → Int → Int → Option β) : Option β := Y8.m k aA aB aC aI aH K (fun aF aJ aK aL aM aN aO aQ aP aT bE bQ bW => ZA (Y8.l0 k aF aJ aK aL aM aN aO aQ aP aT bE bQ bW K) k)
noncomputable def Y8.t (k : Nat) (aA : BA) (aB aC : Int) (aI aH : LD) : Option (BA × Int × Int × LC × LC × Int × Int) := Y8.g k aA aB aC aI aH (fun z0 z1 z2 z3 z4 z5 z6 => some (z0,z1,z2,z3,z4,z5,z6))
noncomputable def Y8.f {β : Type} (k : Nat) (aA : BA) (aB aC : Int) (aI aH : LD) (K : BA → Int → Int → LC → LC → Int → Int → Option β) : Option β := match Y8.t k aA aB aC aI aH with | some (z0,z1,z2,z3,z4,z5,z6) => K z0 z1 z2 z3 z4 z5 z6 | none => none
noncomputable def Y8.e (k : Nat) : Zj := ent [.agg [.s,.n,.n,.l,.l]] [5,1,1] [.s,.n,.n,.o,.o,.n,.n] [57,3,3] false (Y8.t k)
noncomputable def Y8.p (k : Nat) : Pro := ⟨Try.prog,[(121,Yac.e k),(122,YD.e k),(213,YM.e k),(214,YV.e k),(187,Yt.e k),(215,YX.e k)],Zv [(9,kp [1,2,5,7])] false [],k⟩
noncomputable def Y8.d (k : Nat) (aA : BA) (aB aC : Int) (aI aH : LD) : Ex → St → Option (BA × Int × Int × LC × LC × Int × Int) := (Y8.p k).fin Try.f168 [.agg [.str aA,.int .i64 aB,.int .i64 aC,.sl aI,.sl aH]] [5,1,1] [.s,.n,.n,.o,.o,.n,.n]
noncomputable def Y8.s0 (aF : BA) (aJ aK : Int) (aL aM : LD) (aN : BA) (aO aQ : Int) (aP : BA) (aT bE : Int) (bQ bW : LC) (v : Int) : St :=
 match v with
 | aD => ZaA 99 [(1,.bp 0 0),(2,.bp 1 0),(5,.bp 2 0),(7,.d true (.int .i64 aD))] [.box none 57 [.d false (.str aF),.d false (.int .i64 aJ),.d false (.int .i64 aK),.d false (.sl aL),.d false (.sl aM)],.box none 57 [.d true (.str aN),.d true (.int .i64 aO),.d true (.int .i64 aQ),.nil,.nil],.box none 57 [.d true (.str aP),.d true (.int .i64 aT),.d true (.int .i64 bE),.row 3,.row 4],.row none true 54 bQ,.row none true 55 bW]
noncomputable def Y8.r0 (k : Nat) (aA : BA) (aB aC : Int) (aI aH : LD) (aF : BA) (aJ aK : Int) (aL aM : LD) (aN : BA) (aO aQ : Int) (aP : BA) (aT bE : Int) (bQ bW : LC) (n : Nat) (v : Int) : Option (BA × Int × Int × LC × LC × Int × Int) := (Y8.p k).lp (ZI Try.f168) 9 [1,1,1,1,0,1,0] (Y8.d k aA aB aC aI aH) n (Y8.s0 aF aJ aK aL aM aN aO aQ aP aT bE bQ bW v)
theorem Y8.l0_eq (k : Nat) (aA : BA) (aB aC : Int) (aI aH : LD) (aF : BA) (aJ aK : Int) (aL aM : LD) (aN : BA) (aO aQ : Int) (aP : BA) (aT bE : Int) (bQ bW : LC) : ∀ n v,Y8.r0 k aA aB aC aI aH aF aJ aK aL aM aN aO aQ aP aT bE bQ bW n v = ZA (Y8.l0 k aF aJ aK aL aM aN aO aQ aP aT bE bQ bW (fun z0 z1 z2 z3 z4 z5 z6 => some (z0,z1,z2,z3,z4,z5,z6))) n v :=
 Zz (Y8.s0 aF aJ aK aL aM aN aO aQ aP aT bE bQ bW) _ fun L0 v => by kernel_rfl
theorem Y8.ok (k : Nat) : Zf Try.prog 168 (Y8.e k) := Zk (Y8.p k) mix tyok Try.func168 ⟨Yac.ok k,YD.ok k,YM.ok k,YV.ok k,Yt.ok k,YX.ok k⟩ (by kernel_rfl) (fun aA aB aC aI aH => Eq.trans (b := Y8.m k aA aB aC aI aH (fun z0 z1 z2 z3 z4 z5 z6 => some (z0,z1,z2,z3,z4,z5,z6)) (fun aF aJ aK aL aM aN aO aQ aP aT bE bQ bW => Y8.r0 k aA aB aC aI aH aF aJ aK aL aM aN aO aQ aP aT bE bQ bW k)) (by kernel_rfl) (congrArg (Y8.m k aA aB aC aI aH (fun z0 z1 z2 z3 z4 z5 z6 => some (z0,z1,z2,z3,z4,z5,z6))) (funext fun aF => funext fun aJ => funext fun aK => funext fun aL => funext fun aM => funext fun aN => funext fun aO => funext fun aQ => funext fun aP => funext fun aT => funext fun bE => funext fun bQ => funext fun bW => funext fun v => Y8.l0_eq k aA aB aC aI aH aF aJ aK aL aM aN aO aQ aP aT bE bQ bW k v) :))
noncomputable def Yw.l1 {β : Type} (k : Nat) (aU : Int) (aX : LD) (aY aZ : Int) (bD : BA) (bF bH : Int) (L0 : (Int × LD × Int × Int × BA × Int × Int × BA × Int × Int × LC × LC) → Option β) (K : BA → Int → Int → LC → LC → LD → Int → Int → Option β) (L1 : (Int × BA × Int × Int × LC × LC) → Option β) (v : Int × BA × Int × Int × LC × LC) : Option β :=
 match v with
 | (aR,bJ,bK,bI,bT,cG) => bif (decide ((aR : Int) > 0)) then (Y8.f k bJ bK bI (C.immRows bT) (C.immRows cG) (fun y507 y508 y509 y510 y511 y512 y513 => L1 (IntKind.wrap .i64 (aR - 1),y507,y508,y509,y510,y511))) else (L0 (IntKind.wrap .i64 (aU - 1),aX,aY,aZ,bD,bF,bH,bJ,bK,bI,bT,cG))
noncomputable def Yw.m0 {β : Type} (k : Nat) (K : BA → Int → Int → LC → LC → LD → Int → Int → Option β) (L0 : (Int × LD × Int × Int × BA × Int × Int × BA × Int × Int × LC × LC) → Option β) (v : Int × LD × Int × Int × BA × Int × Int × BA × Int × Int × LC × LC) (F : (Int → LD → Int → Int → BA → Int → Int → (Int × BA × Int × Int × LC × LC) → Option β)) : Option β :=
 match v with
 | (aD,aF,aJ,aK,aL,aM,aN,aO,aQ,aP,aT,bE) => bif (decide ((aD : Int) > 0)) then (Yp.f k aF aJ aK 3 (fun y482 y483 y484 y485 => YJ.f k y483 y484 y485 (fun y486 y487 y488 y489 => Yar.f k aO aQ aP (C.immRows aT) (C.immRows bE) (IntKind.wrap .i64 ((IntKind.wrap .i64 (aP + 1)) + y482)) (C.immRows y486) (fun y490 y491 y492 y493 y494 y495 => Yp.f k y487 y488 y489 9 (fun y496 y497 y498 y499 => F aD y497 y498 y499 aL aM aN (y496,y490,y491,y492,y493,y494)))))) else (K aO aQ aP aT bE aF aJ aK)
noncomputable def Yw.l0 {β : Type} (k : Nat) (K : BA → Int → Int → LC → LC → LD → Int → Int → Option β) (L0 : (Int × LD × Int × Int × BA × Int × Int × BA × Int × Int × LC × LC) → Option β) (v : Int × LD × Int × Int × BA × Int × Int × BA × Int × Int × LC × LC) : Option β := Yw.m0 k K L0 v (fun aU aX aY aZ bD bF bH => ZA (Yw.l1 k aU aX aY aZ bD bF bH L0 K) k)
noncomputable def Yw.m {β : Type} (k : Nat) (aA : LD) (aB aC : Int) (K : BA → Int → Int → LC → LC → LD → Int → Int → Option β) (F : ((Int × LD × Int × Int × BA × Int × Int × BA × Int × Int × LC × LC) → Option β)) : Option β :=
 Yam.f k aA aB aC (fun y33 y34 y35 y36 => YP.f k y34 y35 y36 ([[.int .i64 0],[.int .i64 1],[.int .i64 3],[.int .i64 6],[.int .i64 20]] : LD) (fun y37 y38 y39 y40 => Yat.f k y33 y37 (fun y41 y42 y43 y44 y45 y46 => Yp.f k y38 y39 y40 4 (fun y47 y48 y49 y50 => F (y47,y48,y49,y50,(⟨#[]⟩ : BA),0,0,y41,y42,y43,y44,y45)))))
noncomputable def Yw.g {β : Type} (k : Nat) (aA : LD) (aB aC : Int) (K : BA → Int → Int → LC → LC → LD → Int → Int → Option β) : Option β := Yw.m k aA aB aC K (ZA (Yw.l0 k K) k)
noncomputable def Yw.t (k : Nat) (aA : LD) (aB aC : Int) : Option (BA × Int × Int × LC × LC × LD × Int × Int) := Yw.g k aA aB aC (fun z0 z1 z2 z3 z4 z5 z6 z7 => some (z0,z1,z2,z3,z4,z5,z6,z7))
noncomputable def Yw.f {β : Type} (k : Nat) (aA : LD) (aB aC : Int) (K : BA → Int → Int → LC → LC → LD → Int → Int → Option β) : Option β := match Yw.t k aA aB aC with | some (z0,z1,z2,z3,z4,z5,z6,z7) => K z0 z1 z2 z3 z4 z5 z6 z7 | none => none
noncomputable def Yw.e (k : Nat) : Zj := ent [.box 178 [.l,.n,.n]] [5] [.s,.n,.n,.o,.o,.l,.n,.n] [57] false (Yw.t k)
noncomputable def Yw.p (k : Nat) : Pro := ⟨Try.prog,[(166,Yam.e k),(118,YP.e k),(165,Yat.e k),(112,Yp.e k),(167,YJ.e k),(44,Yar.e k),(168,Y8.e k)],Zv [(3,kp [0,2,3,5]),(7,kp [0,2,3,5,6])] false [],k⟩
noncomputable def Yw.d (k : Nat) (aA : LD) (aB aC : Int) : Ex → St → Option (BA × Int × Int × LC × LC × LD × Int × Int) := (Yw.p k).fin Try.f98 [.box [.d (.sl aA),.d (.int .i64 aB),.d (.int .i64 aC)]] [5] [.s,.n,.n,.o,.o,.l,.n,.n]
noncomputable def Yw.s0 (v : Int × LD × Int × Int × BA × Int × Int × BA × Int × Int × LC × LC) : St :=
 match v with
 | (aD,aF,aJ,aK,aL,aM,aN,aO,aQ,aP,aT,bE) => ZaA 48 [(0,.bp 0 0),(2,.bp 1 0),(3,.bp 2 0),(5,.d true (.int .i64 aD))] [.box (some 0) 178 [.d false (.sl aF),.d false (.int .i64 aJ),.d false (.int .i64 aK)],.box none 57 [.d true (.str aL),.d true (.int .i64 aM),.d true (.int .i64 aN),.nil,.nil],.box none 57 [.d true (.str aO),.d true (.int .i64 aQ),.d true (.int .i64 aP),.row 3,.row 4],.row none true 54 aT,.row none true 55 bE]
noncomputable def Yw.c0 (k : Nat) (aA : LD) (aB aC : Int) : Ex → St → Option (BA × Int × Int × LC × LC × LD × Int × Int) := (Yw.p k).ct (ZI Try.f98) [1,1,0,1,0] (Yw.d k aA aB aC)
noncomputable def Yw.r0 (k : Nat) (aA : LD) (aB aC : Int) (n : Nat) (v : Int × LD × Int × Int × BA × Int × Int × BA × Int × Int × LC × LC) : Option (BA × Int × Int × LC × LC × LD × Int × Int) := (Yw.p k).lp (ZI Try.f98) 3 [1,1,0,1,0] (Yw.d k aA aB aC) n (Yw.s0 v)
noncomputable def Yw.s1 (aU : Int) (aX : LD) (aY aZ : Int) (bD : BA) (bF bH : Int) (v : Int × BA × Int × Int × LC × LC) : St :=
 match v with
 | (aR,bJ,bK,bI,bT,cG) => ZaA 48 [(0,.bp 0 0),(2,.bp 1 0),(3,.bp 2 0),(5,.d true (.int .i64 aU)),(6,.d true (.int .i64 aR))] [.box (some 0) 178 [.d false (.sl aX),.d false (.int .i64 aY),.d false (.int .i64 aZ)],.box none 57 [.d true (.str bD),.d true (.int .i64 bF),.d true (.int .i64 bH),.nil,.nil],.box none 57 [.d true (.str bJ),.d true (.int .i64 bK),.d true (.int .i64 bI),.row 3,.row 4],.row none true 54 bT,.row none true 55 cG]
noncomputable def Yw.r1 (k : Nat) (aA : LD) (aB aC aU : Int) (aX : LD) (aY aZ : Int) (bD : BA) (bF bH : Int) (L0 : St → Option (BA × Int × Int × LC × LC × LD × Int × Int)) (n : Nat) (v : Int × BA × Int × Int × LC × LC) : Option (BA × Int × Int × LC × LC × LD × Int × Int) := (Yw.p k).lp (codeAt [1,1,0,1,0,0] (ZI Try.f98)) 7 [1,0,0,1,1,0] (backK ((Yw.p k).h.H 3) L0 (Yw.c0 k aA aB aC)) n (Yw.s1 aU aX aY aZ bD bF bH v)
theorem Yw.l1_eq (k : Nat) (aA : LD) (aB aC aU : Int) (aX : LD) (aY aZ : Int) (bD : BA) (bF bH : Int) (L0 : St → Option (BA × Int × Int × LC × LC × LD × Int × Int)) : ∀ n v,Yw.r1 k aA aB aC aU aX aY aZ bD bF bH L0 n v = ZA (Yw.l1 k aU aX aY aZ bD bF bH (fun v => L0 (Yw.s0 v)) (fun z0 z1 z2 z3 z4 z5 z6 z7 => some (z0,z1,z2,z3,z4,z5,z6,z7))) n v :=
 Zz (Yw.s1 aU aX aY aZ bD bF bH) _ fun L1 v => by obtain ⟨aR,bJ,bK,bI,bT,cG⟩ := v; kernel_rfl
theorem Yw.l0_eq (k : Nat) (aA : LD) (aB aC : Int) : ∀ n v,Yw.r0 k aA aB aC n v = ZA (Yw.l0 k (fun z0 z1 z2 z3 z4 z5 z6 z7 => some (z0,z1,z2,z3,z4,z5,z6,z7))) n v :=
 Zz (Yw.s0) _ fun L0 v => by obtain ⟨aD,aF,aJ,aK,aL,aM,aN,aO,aQ,aP,aT,bE⟩ := v; exact Eq.trans (b := Yw.m0 k (fun z0 z1 z2 z3 z4 z5 z6 z7 => some (z0,z1,z2,z3,z4,z5,z6,z7)) (fun v => L0 (Yw.s0 v)) (aD,aF,aJ,aK,aL,aM,aN,aO,aQ,aP,aT,bE) (fun aU aX aY aZ bD bF bH => Yw.r1 k aA aB aC aU aX aY aZ bD bF bH L0 k)) (by kernel_rfl) (congrArg (Yw.m0 k (fun z0 z1 z2 z3 z4 z5 z6 z7 => some (z0,z1,z2,z3,z4,z5,z6,z7)) (fun v => L0 (Yw.s0 v)) (aD,aF,aJ,aK,aL,aM,aN,aO,aQ,aP,aT,bE)) (funext fun aU => funext fun aX => funext fun aY => funext fun aZ => funext fun bD => funext fun bF => funext fun bH => funext fun v => Yw.l1_eq k aA aB aC aU aX aY aZ bD bF bH L0 k v))
theorem Yw.ok (k : Nat) : Zf Try.prog 98 (Yw.e k) := Zk (Yw.p k) mix tyok Try.func98 ⟨Yam.ok k,YP.ok k,Yat.ok k,Yp.ok k,YJ.ok k,Yar.ok k,Y8.ok k⟩ (by kernel_rfl) (fun aA aB aC => Eq.trans (b := Yw.m k aA aB aC (fun z0 z1 z2 z3 z4 z5 z6 z7 => some (z0,z1,z2,z3,z4,z5,z6,z7)) (Yw.r0 k aA aB aC k)) (by kernel_rfl) (congrArg (Yw.m k aA aB aC (fun z0 z1 z2 z3 z4 z5 z6 z7 => some (z0,z1,z2,z3,z4,z5,z6,z7))) (funext fun v => Yw.l0_eq k aA aB aC k v) :))
noncomputable def Yab.g {β : Type} (k : Nat) (aA : LD) (aB aC : Int) (K : BA → LD → Int → Int → Option β) : Option β :=
 Y7.f k aA aB aC 8 (fun y1 y2 y3 y4 => bif y1 then (YY.f k y2 y3 y4 ([[.str (⟨#[]⟩ : BA)],[.str (⟨#[45,97]⟩ : BA)],[.str (⟨#[97,45]⟩ : BA)],[.str (⟨#[65]⟩ : BA)],[.str (⟨#[97,32,98]⟩ : BA)],[.str (⟨#[97,98,99,100,101,102,103,104,105,106,107,108,109,110,111,112,113,114,115,116,117]⟩ : BA)],[.str (⟨#[255]⟩ : BA)],[.str (⟨#[97,61,98]⟩ : BA)]] : LD) (fun y5 y6 y7 y8 => K y5 y6 y7 y8)) else (Yae.f k y2 y3 y4 (fun y9 y10 y11 y12 => K y9 y10 y11 y12)))
noncomputable def Yab.t (k : Nat) (aA : LD) (aB aC : Int) : Option (BA × LD × Int × Int) := Yab.g k aA aB aC (fun z0 z1 z2 z3 => some (z0,z1,z2,z3))
noncomputable def Yab.f {β : Type} (k : Nat) (aA : LD) (aB aC : Int) (K : BA → LD → Int → Int → Option β) : Option β := bd4 (Yab.t k aA aB aC) K
noncomputable def Yab.e (k : Nat) : Zj := ent [.box 178 [.l,.n,.n]] [1] [.s,.l,.n,.n] [9] false (Yab.t k)
noncomputable def Yab.p (k : Nat) : Pro := ⟨Try.prog,[(81,Y7.e k),(75,YY.e k),(84,Yae.e k)],Zv [] false [],k⟩
theorem Yab.ok (k : Nat) : Zf Try.prog 155 (Yab.e k) := Zk (Yab.p k) mix tyok Try.func155 ⟨Y7.ok k,YY.ok k,Yae.ok k⟩ (by kernel_rfl) (fun aA aB aC => by show _ = _; kernel_rfl)
noncomputable def Yr.l1 {β : Type} (k : Nat) (r_spec_l4Bend : LD → Int → Int → Int → BA → Int → LD → LD → (Int → BA → Int → LC → LC → LD → Int → Int → Option β) → Option β) (aR : LD) (aX aY aZ : Int) (bD : BA) (bF : Int) (K : Int → BA → Int → LC → LC → LD → Int → Int → Option β) (L1 : (Int × Int × BA × Int × LC × LC) → Option β) (v : Int × Int × BA × Int × LC × LC) : Option β :=
 match v with
 | (aU,bH,bJ,bK,bI,bT) => bif (decide ((aU : Int) < 6)) then (L1 (IntKind.wrap .i64 (aU + 1),4,(⟨#[]⟩ : BA),0,([] : LC),([[.d (.int .i64 bH),.d (.str bJ),.d (.int .i64 bK),.own bI,.own bT]] : LC))) else (K bH bJ bK bI bT aR aX aY)
noncomputable def Yr.l0 {β : Type} (k : Nat) (r_spec_l4Bend : LD → Int → Int → Int → BA → Int → LD → LD → (Int → BA → Int → LC → LC → LD → Int → Int → Option β) → Option β) (aF : LD) (aJ aK aL : Int) (aM : BA) (aN : Int) (K : Int → BA → Int → LC → LC → LD → Int → Int → Option β) (L0 : (Int × Int × BA × Int × LC × LC) → Option β) (v : Int × Int × BA × Int × LC × LC) : Option β :=
 match v with
 | (aD,aO,aQ,aP,aT,bE) => bif (decide ((aD : Int) < 6)) then (L0 (IntKind.wrap .i64 (aD + 1),4,(⟨#[]⟩ : BA),0,([] : LC),([[.d (.int .i64 aO),.d (.str aQ),.d (.int .i64 aP),.own aT,.own bE]] : LC))) else (K aO aQ aP aT bE aF aJ aK)
noncomputable def Yr.m {β : Type} (k : Nat) (r_spec_l4Bend : LD → Int → Int → Int → BA → Int → LD → LD → (Int → BA → Int → LC → LC → LD → Int → Int → Option β) → Option β) (aA : LD) (aB aC aV : Int) (aW : BA) (bA : Int) (bB bC : LD) (K : Int → BA → Int → LC → LC → LD → Int → Int → Option β) (F : (LD → Int → Int → Int → BA → Int → (Int × Int × BA × Int × LC × LC) → Option β) × (LD → Int → Int → Int → BA → Int → (Int × Int × BA × Int × LC × LC) → Option β)) : Option β :=
 Yy.f k aV aW bA bB bC (fun y1 y2 y3 y4 y5 => let J0 := (y5.length + ([[.d (.int .i64 2),.d (.str (⟨#[]⟩ : BA)),.d (.int .i64 0),.own ([] : LC),.own ([] : LC)]] : LC).length ≤ Z8); let J1 := (y5 ++ ([[.d (.int .i64 2),.d (.str (⟨#[]⟩ : BA)),.d (.int .i64 0),.own ([] : LC),.own ([] : LC)]] : LC)); bif (decide (((y5.length : Int) : Int) > 0)) then (Y7.f k aA aB aC 2 (fun y6 y7 y8 y9 => bif y6 then (Yp.f k y7 y8 y9 (y5.length : Int) (fun y10 y11 y12 y13 => Zd ((0 : Int) ≤ y10 ∧ y10 < ((Zb6 y5).length : Int)) (ZaR (Zb6 y5) (Int.toNat y10) fun c14 => ZaJ (c14.drop 0) fun c15 r16 => cD c15 fun d17 => dInt .i64 d17 fun x18 => ZaJ r16 fun c19 r20 => cD c19 fun d21 => dStr d21 fun x22 => ZaJ r20 fun c23 r24 => cD c23 fun d25 => dInt .i64 d25 fun x26 => ZaJ r24 fun c27 r28 => cD c27 fun d29 => dSl d29 fun x30 => ZaJ r28 fun c31 r32 => cD c31 fun d33 => dSl d33 fun x34 => r_spec_l4Bend y11 y12 y13 x18 x22 x26 x30 x34 (fun y35 y36 y37 y38 y39 y40 y41 y42 => Zd ((0 : Int) ≤ y10 ∧ y10 < ((Zb6 y5).length : Int)) (Zd (Int.toNat y10 < (Zb6 y5).length) (K y1 y2 y3 y4 ((Zb6 y5).modify (Int.toNat y10) fun c => Zs c 0 [.d (.int .i64 y35),.d (.str y36),.d (.int .i64 y37),.own y38,.own y39]) y40 y41 y42)))))) else (Yp.f k y7 y8 y9 6 (fun y43 y44 y45 y46 => bif ((y43 : Int) == 0) then (Yp.f k y44 y45 y46 7 (fun y47 y48 y49 y50 => K y47 y2 y3 y4 y5 y48 y49 y50)) else (bif ((y43 : Int) == 1) then (YY.f k y44 y45 y46 ([[.str (⟨#[97]⟩ : BA)],[.str (⟨#[10]⟩ : BA)],[.str (⟨#[127]⟩ : BA)]] : LD) (fun y51 y52 y53 y54 => K y1 y51 y3 y4 y5 y52 y53 y54)) else (bif ((y43 : Int) == 2) then (K y1 y2 (IntKind.wrap .i64 (y3 + 1)) y4 y5 y44 y45 y46) else (bif ((y43 : Int) == 3) then (Yab.f k y44 y45 y46 (fun y55 y56 y57 y58 => Zd (y4.length + ([[.d (.str y55)]] : LC).length ≤ Z8) (K y1 y2 y3 (y4 ++ ([[.d (.str y55)]] : LC)) y5 y56 y57 y58))) else (bif ((y43 : Int) == 4) then (Zd J0 (K y1 y2 y3 y4 J1 y44 y45 y46)) else (bif ((y43 : Int) == 5) then (F.1 y44 y45 y46 0 (⟨#[]⟩ : BA) 0 (0,y1,y2,y3,y4,y5)) else (K y1 y2 y3 y4 y5 y44 y45 y46)))))))))) else (Yp.f k aA aB aC 6 (fun y59 y60 y61 y62 => bif ((y59 : Int) == 0) then (Yp.f k y60 y61 y62 7 (fun y63 y64 y65 y66 => K y63 y2 y3 y4 y5 y64 y65 y66)) else (bif ((y59 : Int) == 1) then (YY.f k y60 y61 y62 ([[.str (⟨#[97]⟩ : BA)],[.str (⟨#[10]⟩ : BA)],[.str (⟨#[127]⟩ : BA)]] : LD) (fun y67 y68 y69 y70 => K y1 y67 y3 y4 y5 y68 y69 y70)) else (bif ((y59 : Int) == 2) then (K y1 y2 (IntKind.wrap .i64 (y3 + 1)) y4 y5 y60 y61 y62) else (bif ((y59 : Int) == 3) then (Yab.f k y60 y61 y62 (fun y71 y72 y73 y74 => Zd (y4.length + ([[.d (.str y71)]] : LC).length ≤ Z8) (K y1 y2 y3 (y4 ++ ([[.d (.str y71)]] : LC)) y5 y72 y73 y74))) else (bif ((y59 : Int) == 4) then (Zd J0 (K y1 y2 y3 y4 J1 y60 y61 y62)) else (bif ((y59 : Int) == 5) then (F.2 y60 y61 y62 0 (⟨#[]⟩ : BA) 0 (0,y1,y2,y3,y4,y5)) else (K y1 y2 y3 y4 y5 y60 y61 y62)))))))))
noncomputable def Yr.body {β : Type} (k : Nat) (r_spec_l4Bend : LD → Int → Int → Int → BA → Int → LD → LD → (Int → BA → Int → LC → LC → LD → Int → Int → Option β) → Option β) (aA : LD) (aB aC aV : Int) (aW : BA) (bA : Int) (bB bC : LD) (K : Int → BA → Int → LC → LC → LD → Int → Int → Option β) : Option β := Yr.m k r_spec_l4Bend aA aB aC aV aW bA bB bC K ((fun aF aJ aK aL aM aN => ZA (Yr.l0 k r_spec_l4Bend aF aJ aK aL aM aN K) k),(fun aR aX aY aZ bD bF => ZA (Yr.l1 k r_spec_l4Bend aR aX aY aZ bD bF K) k))
noncomputable def Yr.w {β : Type} (r : LD → Int → Int → Int → BA → Int → LD → LD → Option (Int × BA × Int × LC × LC × LD × Int × Int)) (aA : LD) (aB aC aV : Int) (aW : BA) (bA : Int) (bB bC : LD) (K : Int → BA → Int → LC → LC → LD → Int → Int → Option β) : Option β := match r aA aB aC aV aW bA bB bC with | some (z0,z1,z2,z3,z4,z5,z6,z7) => K z0 z1 z2 z3 z4 z5 z6 z7 | none => none
noncomputable def Yr.all : Nat → (LD → Int → Int → Int → BA → Int → LD → LD → Option (Int × BA × Int × LC × LC × LD × Int × Int))
 | 0 => (fun _ _ _ _ _ _ _ _ => none)
 | k + 1 => (fun r => (fun aA aB aC aV aW bA bB bC => Yr.body k (Yr.w r) aA aB aC aV aW bA bB bC (fun z0 z1 z2 z3 z4 z5 z6 z7 => some (z0,z1,z2,z3,z4,z5,z6,z7)))) (Yr.all k)
noncomputable def Yr.t (k : Nat) (aA : LD) (aB aC aV : Int) (aW : BA) (bA : Int) (bB bC : LD) : Option (Int × BA × Int × LC × LC × LD × Int × Int) := (Yr.all k) aA aB aC aV aW bA bB bC
noncomputable def Yr.f {β : Type} (k : Nat) (aA : LD) (aB aC aV : Int) (aW : BA) (bA : Int) (bB bC : LD) (K : Int → BA → Int → LC → LC → LD → Int → Int → Option β) : Option β := Yr.w (Yr.t k) aA aB aC aV aW bA bB bC K
noncomputable def Yr.g {β : Type} (k : Nat) (aA : LD) (aB aC aV : Int) (aW : BA) (bA : Int) (bB bC : LD) (K : Int → BA → Int → LC → LC → LD → Int → Int → Option β) : Option β := Yr.body k (Yr.f k) aA aB aC aV aW bA bB bC K
theorem Yr.t_succ (k : Nat) (aA : LD) (aB aC aV : Int) (aW : BA) (bA : Int) (bB bC : LD) : Yr.t (k + 1) aA aB aC aV aW bA bB bC = Yr.g k aA aB aC aV aW bA bB bC (fun z0 z1 z2 z3 z4 z5 z6 z7 => some (z0,z1,z2,z3,z4,z5,z6,z7)) := rfl
noncomputable def Yr.e (k : Nat) : Zj := ent [.box 178 [.l,.n,.n],.agg [.n,.s,.n,.l,.l]] [5] [.n,.s,.n,.o,.o,.l,.n,.n] [66] false (Yr.t k)
noncomputable def Yr.p (k : Nat) : Pro := ⟨Try.prog,[(189,Yy.e k),(81,Y7.e k),(112,Yp.e k),(184,Yr.e k),(75,YY.e k),(155,Yab.e k)],hintsJ [(4,kp [0,4,5,6] [] [(5,4,.flt true 64)])] [(19,kp [4,5,7] [] [(5,3,.row true 25)])] false [],k⟩
noncomputable def Yr.d (k : Nat) (aA : LD) (aB aC aV : Int) (aW : BA) (bA : Int) (bB bC : LD) : Ex → St → Option (Int × BA × Int × LC × LC × LD × Int × Int) := (Yr.p k).fin Try.f184 [.box [.d (.sl aA),.d (.int .i64 aB),.d (.int .i64 aC)],.agg [.int .i64 aV,.str aW,.int .i64 bA,.sl bB,.sl bC]] [5] [.n,.s,.n,.o,.o,.l,.n,.n]
noncomputable def Yr.s0 (aF : LD) (aJ aK aL : Int) (aM : BA) (aN : Int) (v : Int × Int × BA × Int × LC × LC) : St :=
 match v with
 | (aD,aO,aQ,aP,aT,bE) => ZaA 81 [(4,.bp 1 0),(5,.bp 2 0),(7,.d true (.int .i64 aD))] [.box (some 0) 178 [.d false (.sl aF),.d false (.int .i64 aJ),.d false (.int .i64 aK)],.box none 66 [.d true (.int .i64 aL),.d true (.str aM),.d true (.int .i64 aN),.nil,.nil],.box none 66 [.d true (.int .i64 aO),.d true (.str aQ),.d true (.int .i64 aP),.row 3,.row 4],.row none true 25 aT,.row none true 64 bE]
noncomputable def Yr.r0 (k : Nat) (aA : LD) (aB aC aV : Int) (aW : BA) (bA : Int) (bB bC aF : LD) (aJ aK aL : Int) (aM : BA) (aN : Int) (n : Nat) (v : Int × Int × BA × Int × LC × LC) : Option (Int × BA × Int × LC × LC × LD × Int × Int) := (Yr.p k).lp (ZI Try.f184) 19 [1,1,1,0,1,0,1,1,1,1,1,1,1,1,1,1,1,0,1,0] (Yr.d k aA aB aC aV aW bA bB bC) n (Yr.s0 aF aJ aK aL aM aN v)
noncomputable def Yr.s1 (aR : LD) (aX aY aZ : Int) (bD : BA) (bF : Int) (v : Int × Int × BA × Int × LC × LC) : St :=
 match v with
 | (aU,bH,bJ,bK,bI,bT) => ZaA 81 [(4,.bp 1 0),(5,.bp 2 0),(7,.d true (.int .i64 aU))] [.box (some 0) 178 [.d false (.sl aR),.d false (.int .i64 aX),.d false (.int .i64 aY)],.box none 66 [.d true (.int .i64 aZ),.d true (.str bD),.d true (.int .i64 bF),.nil,.nil],.box none 66 [.d true (.int .i64 bH),.d true (.str bJ),.d true (.int .i64 bK),.row 3,.row 4],.row none true 25 bI,.row none true 64 bT]
noncomputable def Yr.r1 (k : Nat) (aA : LD) (aB aC aV : Int) (aW : BA) (bA : Int) (bB bC aR : LD) (aX aY aZ : Int) (bD : BA) (bF : Int) (n : Nat) (v : Int × Int × BA × Int × LC × LC) : Option (Int × BA × Int × LC × LC × LD × Int × Int) := (Yr.p k).lp (ZI Try.f184) 19 [1,1,1,0,1,0,1,1,1,1,1,1,1,1,1,1,1,0,1,0] (Yr.d k aA aB aC aV aW bA bB bC) n (Yr.s1 aR aX aY aZ bD bF v)
theorem Yr.l1_eq (k : Nat) (aA : LD) (aB aC aV : Int) (aW : BA) (bA : Int) (bB bC aR : LD) (aX aY aZ : Int) (bD : BA) (bF : Int) : ∀ n v,Yr.r1 k aA aB aC aV aW bA bB bC aR aX aY aZ bD bF n v = ZA (Yr.l1 k (Yr.f k) aR aX aY aZ bD bF (fun z0 z1 z2 z3 z4 z5 z6 z7 => some (z0,z1,z2,z3,z4,z5,z6,z7))) n v :=
 Zz (Yr.s1 aR aX aY aZ bD bF) _ fun L1 v => by obtain ⟨aU,bH,bJ,bK,bI,bT⟩ := v; kernel_rfl
theorem Yr.l0_eq (k : Nat) (aA : LD) (aB aC aV : Int) (aW : BA) (bA : Int) (bB bC aF : LD) (aJ aK aL : Int) (aM : BA) (aN : Int) : ∀ n v,Yr.r0 k aA aB aC aV aW bA bB bC aF aJ aK aL aM aN n v = ZA (Yr.l0 k (Yr.f k) aF aJ aK aL aM aN (fun z0 z1 z2 z3 z4 z5 z6 z7 => some (z0,z1,z2,z3,z4,z5,z6,z7))) n v :=
 Zz (Yr.s0 aF aJ aK aL aM aN) _ fun L0 v => by obtain ⟨aD,aO,aQ,aP,aT,bE⟩ := v; kernel_rfl
theorem Yr.oks (k : Nat) : Zf Try.prog 184 (Yr.e k) := by
 induction k with
 | zero => exact Zba Try.func184 (by kernel_rfl) (fun _ _ _ _ _ _ _ _ => rfl)
 | succ k ih => exact Zk (Yr.p k) mix tyok Try.func184 ⟨Yy.ok k,Y7.ok k,Yp.ok k,ih,YY.ok k,Yab.ok k⟩ (by kernel_rfl) (fun aA aB aC aV aW bA bB bC => Eq.trans (b := Yr.m k (Yr.f k) aA aB aC aV aW bA bB bC (fun z0 z1 z2 z3 z4 z5 z6 z7 => some (z0,z1,z2,z3,z4,z5,z6,z7)) ((fun aF aJ aK aL aM aN => Yr.r0 k aA aB aC aV aW bA bB bC aF aJ aK aL aM aN k),(fun aR aX aY aZ bD bF => Yr.r1 k aA aB aC aV aW bA bB bC aR aX aY aZ bD bF k))) (by kernel_rfl) ((congrArg (Yr.m k (Yr.f k) aA aB aC aV aW bA bB bC (fun z0 z1 z2 z3 z4 z5 z6 z7 => some (z0,z1,z2,z3,z4,z5,z6,z7))) (pair_eq (funext fun aF => funext fun aJ => funext fun aK => funext fun aL => funext fun aM => funext fun aN => funext fun v => Yr.l0_eq k aA aB aC aV aW bA bB bC aF aJ aK aL aM aN k v) (funext fun aR => funext fun aX => funext fun aY => funext fun aZ => funext fun bD => funext fun bF => funext fun v => Yr.l1_eq k aA aB aC aV aW bA bB bC aR aX aY aZ bD bF k v))).trans (Yr.t_succ k aA aB aC aV aW bA bB bC).symm))
theorem Yr.ok (k : Nat) : Zf Try.prog 184 (Yr.e k) := (Yr.oks k)
noncomputable def Y5.g {β : Type} (k : Nat) (aA : LD) (aB aC : Int) (K : LC → LD → Int → Int → Option β) : Option β :=
 YJ.f k aA aB aC (fun y1 y2 y3 y4 => bif (decide (((y1.length : Int) : Int) > 0)) then (Yp.f k y2 y3 y4 (y1.length : Int) (fun y5 y6 y7 y8 => Yp.f k y6 y7 y8 10 (fun y9 y10 y11 y12 => bif ((y9 : Int) == 0) then (YP.f k y10 y11 y12 ([[.int .i64 0],[.int .i64 10000],[.int .i64 10001]] : LD) (fun y13 y14 y15 y16 => Zd ((0 : Int) ≤ y5 ∧ y5 < ((Zb6 y1).length : Int)) (Zd (Int.toNat y5 < (Zb6 y1).length) (K ((Zb6 y1).modify (Int.toNat y5) fun c => Zs c 1 [.d (.int .i64 y13)]) y14 y15 y16)))) else (bif ((y9 : Int) == 1) then (YP.f k y10 y11 y12 ([[.int .i64 0],[.int .i64 1000000],[.int .i64 3]] : LD) (fun y17 y18 y19 y20 => Zd ((0 : Int) ≤ y5 ∧ y5 < ((Zb6 y1).length : Int)) (Zd (Int.toNat y5 < (Zb6 y1).length) (K ((Zb6 y1).modify (Int.toNat y5) fun c => Zs c 0 [.d (.int .i64 y17)]) y18 y19 y20)))) else (bif ((y9 : Int) == 2) then (Zd ((0 : Int) ≤ y5 ∧ y5 < ((Zb6 y1).length : Int)) (ZaR (Zb6 y1) (Int.toNat y5) fun c21 => ZaJ (c21.drop 2) fun c22 r => cD c22 fun d => dInt .i64 d fun x25 => ZaJ r fun c26 r => cD c26 fun d => dStr d fun x29 => ZaJ r fun c30 r => cD c30 fun d => dInt .i64 d fun x33 => ZaJ r fun c34 r => cD c34 fun d => dSl d fun x37 => ZaJ r fun c38 r => cD c38 fun d => dSl d fun x41 => Yr.f k y10 y11 y12 x25 x29 x33 x37 x41 (fun y75 y76 y77 y78 y79 y80 y81 y82 => Zd ((0 : Int) ≤ y5 ∧ y5 < ((Zb6 y1).length : Int)) (Zd (Int.toNat y5 < (Zb6 y1).length) (K ((Zb6 y1).modify (Int.toNat y5) fun c => Zs c 2 [.d (.int .i64 y75),.d (.str y76),.d (.int .i64 y77),.own y78,.own y79]) y80 y81 y82))))) else (K (Zb6 y1) y10 y11 y12)))))) else (K y1 y2 y3 y4))
noncomputable def Y5.t (k : Nat) (aA : LD) (aB aC : Int) : Option (LC × LD × Int × Int) := Y5.g k aA aB aC (fun z0 z1 z2 z3 => some (z0,z1,z2,z3))
noncomputable def Y5.f {β : Type} (k : Nat) (aA : LD) (aB aC : Int) (K : LC → LD → Int → Int → Option β) : Option β := bd4 (Y5.t k aA aB aC) K
noncomputable def Y5.e (k : Nat) : Zj := ent [.box 178 [.l,.n,.n]] [1] [.o,.l,.n,.n] [54] false (Y5.t k)
noncomputable def Y5.p (k : Nat) : Pro := ⟨Try.prog,[(167,YJ.e k),(112,Yp.e k),(118,YP.e k),(184,Yr.e k)],hintsJ [(5,kp [0,4,15] [(3,.flt true 54)])] [] false [],k⟩
theorem Y5.ok (k : Nat) : Zf Try.prog 119 (Y5.e k) := Zk (Y5.p k) mix tyok Try.func119 ⟨YJ.ok k,Yp.ok k,YP.ok k,Yr.ok k⟩ (by kernel_rfl) (fun aA aB aC => by show _ = _; kernel_rfl)
noncomputable def Yav.g {β : Type} (k : Nat) (aA : LD) (aB aC : Int) (aV : BA) (aW bA : Int) (bB bC : LD) (K : BA → Int → Int → LC → LC → LD → Int → Int → Option β) : Option β :=
 Yac.f k aV aW bA bB bC (fun y1 y2 y3 y4 y5 => Yp.f k aA aB aC 6 (fun y6 y7 y8 y9 => bif ((y6 : Int) == 0) then (YP.f k y7 y8 y9 ([[.int .i64 (-1)],[.int .i64 0],[.int .i64 10001]] : LD) (fun y10 y11 y12 y13 => K y1 y10 y3 y4 y5 y11 y12 y13)) else (bif ((y6 : Int) == 1) then (YP.f k y7 y8 y9 ([[.int .i64 0],[.int .i64 1],[.int .i64 50]] : LD) (fun y14 y15 y16 y17 => Zd (y5.length + ([[.d (.int .i64 1),.d (.int .i64 y14)]] : LC).length ≤ Z8) (K y1 y2 y3 y4 (y5 ++ ([[.d (.int .i64 1),.d (.int .i64 y14)]] : LC)) y15 y16 y17))) else (bif ((y6 : Int) == 2) then (Y5.f k y7 y8 y9 (fun y83 y84 y85 y86 => K y1 y2 y3 y83 y5 y84 y85 y86)) else (bif ((y6 : Int) == 3) then (YP.f k y7 y8 y9 ([[.int .i64 (-1)],[.int .i64 1000000],[.int .i64 1000001]] : LD) (fun y87 y88 y89 y90 => K y1 y2 y87 y4 y5 y88 y89 y90)) else (K y1 y2 y3 y4 y5 y7 y8 y9))))))
noncomputable def Yav.t (k : Nat) (aA : LD) (aB aC : Int) (aV : BA) (aW bA : Int) (bB bC : LD) : Option (BA × Int × Int × LC × LC × LD × Int × Int) := Yav.g k aA aB aC aV aW bA bB bC (fun z0 z1 z2 z3 z4 z5 z6 z7 => some (z0,z1,z2,z3,z4,z5,z6,z7))
noncomputable def Yav.f {β : Type} (k : Nat) (aA : LD) (aB aC : Int) (aV : BA) (aW bA : Int) (bB bC : LD) (K : BA → Int → Int → LC → LC → LD → Int → Int → Option β) : Option β := match Yav.t k aA aB aC aV aW bA bB bC with | some (z0,z1,z2,z3,z4,z5,z6,z7) => K z0 z1 z2 z3 z4 z5 z6 z7 | none => none
noncomputable def Yav.e (k : Nat) : Zj := ent [.box 178 [.l,.n,.n],.agg [.s,.n,.n,.l,.l]] [5] [.s,.n,.n,.o,.o,.l,.n,.n] [57] false (Yav.t k)
noncomputable def Yav.p (k : Nat) : Pro := ⟨Try.prog,[(121,Yac.e k),(112,Yp.e k),(118,YP.e k),(119,Y5.e k)],Zv [] false [],k⟩
theorem Yav.ok (k : Nat) : Zf Try.prog 183 (Yav.e k) := Zk (Yav.p k) mix tyok Try.func183 ⟨Yac.ok k,Yp.ok k,YP.ok k,Y5.ok k⟩ (by kernel_rfl) (fun aA aB aC aV aW bA bB bC => by show _ = _; kernel_rfl)
noncomputable def Yaj.g {β : Type} (k : Nat) (aA : LD) (aB aC : Int) (K : BA → Int → Int → LC → LC → LD → Int → Int → Option β) : Option β :=
 Yw.f k aA aB aC (fun y514 y515 y516 y517 y518 y519 y520 y521 => Y7.f k y519 y520 y521 6 (fun y522 y523 y524 y525 => bif y522 then (Yav.f k y523 y524 y525 y514 y515 y516 (C.immRows y517) (C.immRows y518) (fun y526 y527 y528 y529 y530 y531 y532 y533 => K y526 y527 y528 y529 y530 y531 y532 y533)) else (K y514 y515 y516 y517 y518 y523 y524 y525)))
noncomputable def Yaj.t (k : Nat) (aA : LD) (aB aC : Int) : Option (BA × Int × Int × LC × LC × LD × Int × Int) := Yaj.g k aA aB aC (fun z0 z1 z2 z3 z4 z5 z6 z7 => some (z0,z1,z2,z3,z4,z5,z6,z7))
noncomputable def Yaj.f {β : Type} (k : Nat) (aA : LD) (aB aC : Int) (K : BA → Int → Int → LC → LC → LD → Int → Int → Option β) : Option β := match Yaj.t k aA aB aC with | some (z0,z1,z2,z3,z4,z5,z6,z7) => K z0 z1 z2 z3 z4 z5 z6 z7 | none => none
noncomputable def Yaj.e (k : Nat) : Zj := ent [.box 178 [.l,.n,.n]] [5] [.s,.n,.n,.o,.o,.l,.n,.n] [57] false (Yaj.t k)
noncomputable def Yaj.p (k : Nat) : Pro := ⟨Try.prog,[(98,Yw.e k),(81,Y7.e k),(183,Yav.e k)],Zv [] false [],k⟩
theorem Yaj.ok (k : Nat) : Zf Try.prog 117 (Yaj.e k) := Zk (Yaj.p k) mix tyok Try.func117 ⟨Yw.ok k,Y7.ok k,Yav.ok k⟩ (by kernel_rfl) (fun aA aB aC => by show _ = _; kernel_rfl)
noncomputable def Yap.g {β : Type} (k : Nat) (a0 : LD) (K : BA → Int → Int → LC → LC → Int → LC → Option β) : Option β :=
 Y2.f k a0 (fun y9 y10 y11 => Yaj.f k y9 y10 y11 (fun y534 y535 y536 y537 y538 y539 y540 y541 => YP.f k y539 y540 y541 ([[.int .i64 1],[.int .i64 2],[.int .i64 0],[.int .i64 (-1)]] : LD) (fun y542 y543 y544 y545 => Y5.f k y543 y544 y545 (fun y546 y547 y548 y549 => K y534 y535 y536 y537 y538 (IntKind.wrap .i64 (y536 + y542)) y546))))
noncomputable def Yap.t (k : Nat) (a0 : LD) : Option (BA × Int × Int × LC × LC × Int × LC) := Yap.g k a0 (fun z0 z1 z2 z3 z4 z5 z6 => some (z0,z1,z2,z3,z4,z5,z6))
noncomputable def Yap.f {β : Type} (k : Nat) (a0 : LD) (K : BA → Int → Int → LC → LC → Int → LC → Option β) : Option β := match Yap.t k a0 with | some (z0,z1,z2,z3,z4,z5,z6) => K z0 z1 z2 z3 z4 z5 z6 | none => none
noncomputable def Yap.e (k : Nat) : Zj := ent [.d .l] [5,1,1] [.s,.n,.n,.o,.o,.n,.o] [57,3,54] false (Yap.t k)
noncomputable def Yap.p (k : Nat) : Pro := ⟨Try.prog,[(58,Y2.e k),(117,Yaj.e k),(118,YP.e k),(119,Y5.e k)],Zv [] false [],k⟩
theorem Yap.ok (k : Nat) : Zf Try.prog 42 (Yap.e k) := Zk (Yap.p k) mix tyok Try.func42 ⟨Y2.ok k,Yaj.ok k,YP.ok k,Y5.ok k⟩ (by kernel_rfl) (fun a0 => by show _ = _; kernel_rfl)
noncomputable def YQ.g {β : Type} (k : Nat) (a0 : LD) (K : LC → Option β) : Option β :=
 let J0 := (Zd (Zcg 1 a0) (Zd (([] : LC).length + (a0.map (·.map C.d)).length ≤ Z8) (K (([] : LC) ++ (a0.map (·.map C.d)))))); nilSl a0 (both (K ([] : LC)) J0) J0
noncomputable def YQ.t (k : Nat) (a0 : LD) : Option (LC) := YQ.g k a0 (fun z0 => some z0)
noncomputable def YQ.f {β : Type} (k : Nat) (a0 : LD) (K : LC → Option β) : Option β := bd1 (YQ.t k a0) K
noncomputable def YQ.e (k : Nat) : Zj := ent [.d .l] [1] [.o] [25] false (YQ.t k)
noncomputable def YQ.p (k : Nat) : Pro := ⟨Try.prog,[],Zv [] false [],k⟩
theorem YQ.ok (k : Nat) : Zf Try.prog 148 (YQ.e k) := Zk (YQ.p k) mix tyok Try.func148 trivial (by kernel_rfl) (fun a0 => by show _ = _; kernel_rfl)
noncomputable def Yq.l0 {β : Type} (k : Nat) (r_impl_copyValue : Int → BA → Int → LD → LD → (Int → BA → Int → LC → LC → Option β) → Option β) (aD : LD) (aF aK : Int) (aL : BA) (aM : Int) (aN : LD) (aO : Int) (aQ : BA) (aP : Int) (bE : LC) (K : Int → BA → Int → LC → LC → Option β) (L0 : (Int × LC) → Option β) (v : Int × LC) : Option β :=
 match v with
 | (aJ,aT) => bif (decide ((aJ : Int) < aF)) then (atR aD aJ [.n,.s,.n,.l,.l] fun x26 x29 x32 x35 x38 => (r_impl_copyValue x26 x29 x32 x35 x38 (fun y39 y40 y41 y42 y43 => Zd (aT.length + ([[.d (.int .i64 y39),.d (.str y40),.d (.int .i64 y41),.own y42,.own y43]] : LC).length ≤ Z8) (L0 (IntKind.wrap .i64 (aJ + 1),aT ++ ([[.d (.int .i64 y39),.d (.str y40),.d (.int .i64 y41),.own y42,.own y43]] : LC)))))) else (K aK aL aM bE aT)
noncomputable def Yq.m {β : Type} (k : Nat) (r_impl_copyValue : Int → BA → Int → LD → LD → (Int → BA → Int → LC → LC → Option β) → Option β) (aA : Int) (aB : BA) (aC : Int) (aI aH : LD) (K : Int → BA → Int → LC → LC → Option β) (F : (LD → Int → Int → BA → Int → LD → Int → BA → Int → LC → (Int × LC) → Option β)) : Option β :=
 YQ.f k aI (fun y1 => F aH (aH.length : Int) aA aB aC aH 0 (⟨#[]⟩ : BA) 0 y1 (0,([] : LC)))
noncomputable def Yq.body {β : Type} (k : Nat) (r_impl_copyValue : Int → BA → Int → LD → LD → (Int → BA → Int → LC → LC → Option β) → Option β) (aA : Int) (aB : BA) (aC : Int) (aI aH : LD) (K : Int → BA → Int → LC → LC → Option β) : Option β :=
 YQ.f k aI (fun y1 => ZA (Yq.l0 k r_impl_copyValue aH (aH.length : Int) aA aB aC aH 0 (⟨#[]⟩ : BA) 0 y1 K) k (0,([] : LC)))
noncomputable def Yq.w {β : Type} (r : Int → BA → Int → LD → LD → Option (Int × BA × Int × LC × LC)) (aA : Int) (aB : BA) (aC : Int) (aI aH : LD) (K : Int → BA → Int → LC → LC → Option β) : Option β := bd5 (r aA aB aC aI aH) K
noncomputable def Yq.all : Nat → (Int → BA → Int → LD → LD → Option (Int × BA × Int × LC × LC))
 | 0 => (fun _ _ _ _ _ => none)
 | k + 1 => (fun r => (fun aA aB aC aI aH => Yq.body k (Yq.w r) aA aB aC aI aH (fun z0 z1 z2 z3 z4 => some (z0,z1,z2,z3,z4)))) (Yq.all k)
noncomputable def Yq.t (k : Nat) (aA : Int) (aB : BA) (aC : Int) (aI aH : LD) : Option (Int × BA × Int × LC × LC) := (Yq.all k) aA aB aC aI aH
noncomputable def Yq.f {β : Type} (k : Nat) (aA : Int) (aB : BA) (aC : Int) (aI aH : LD) (K : Int → BA → Int → LC → LC → Option β) : Option β := Yq.w (Yq.t k) aA aB aC aI aH K
noncomputable def Yq.g {β : Type} (k : Nat) (aA : Int) (aB : BA) (aC : Int) (aI aH : LD) (K : Int → BA → Int → LC → LC → Option β) : Option β := Yq.body k (Yq.f k) aA aB aC aI aH K
theorem Yq.t_succ (k : Nat) (aA : Int) (aB : BA) (aC : Int) (aI aH : LD) : Yq.t (k + 1) aA aB aC aI aH = Yq.g k aA aB aC aI aH (fun z0 z1 z2 z3 z4 => some (z0,z1,z2,z3,z4)) := rfl
noncomputable def Yq.e (k : Nat) : Zj := ent [.agg [.n,.s,.n,.l,.l]] [5] [.n,.s,.n,.o,.o] [66] false (Yq.t k)
noncomputable def Yq.p (k : Nat) : Pro := ⟨Try.prog,[(148,YQ.e k),(185,Yq.e k)],Zv [(4,kp [1,2,3,12,13,14])] false [],k⟩
noncomputable def Yq.d (k : Nat) (aA : Int) (aB : BA) (aC : Int) (aI aH : LD) : Ex → St → Option (Int × BA × Int × LC × LC) := (Yq.p k).fin Try.f185 [.agg [.int .i64 aA,.str aB,.int .i64 aC,.sl aI,.sl aH]] [5] [.n,.s,.n,.o,.o]
noncomputable def Yq.s0 (aD : LD) (aF aK : Int) (aL : BA) (aM : Int) (aN : LD) (aO : Int) (aQ : BA) (aP : Int) (bE : LC) (v : Int × LC) : St :=
 match v with
 | (aJ,aT) => ZaA 27 [(1,.bp 0 0),(2,.bp 1 0),(3,.row 2),(12,.d false (.sl aD)),(13,.d true (.int .i64 aF)),(14,.d true (.int .i64 aJ))] [.box none 66 [.d false (.int .i64 aK),.d false (.str aL),.d false (.int .i64 aM),.row 3,.d false (.sl aN)],.box none 66 [.d true (.int .i64 aO),.d true (.str aQ),.d true (.int .i64 aP),.nil,.nil],.row none true 64 aT,.row none true 25 bE]
noncomputable def Yq.r0 (k : Nat) (aA : Int) (aB : BA) (aC : Int) (aI aH aD : LD) (aF aK : Int) (aL : BA) (aM : Int) (aN : LD) (aO : Int) (aQ : BA) (aP : Int) (bE : LC) (n : Nat) (v : Int × LC) : Option (Int × BA × Int × LC × LC) := (Yq.p k).lp (ZI Try.f185) 4 [1,1,1,0,1,0] (Yq.d k aA aB aC aI aH) n (Yq.s0 aD aF aK aL aM aN aO aQ aP bE v)
theorem Yq.l0_eq (k : Nat) (aA : Int) (aB : BA) (aC : Int) (aI aH aD : LD) (aF aK : Int) (aL : BA) (aM : Int) (aN : LD) (aO : Int) (aQ : BA) (aP : Int) (bE : LC) : ∀ n v,Yq.r0 k aA aB aC aI aH aD aF aK aL aM aN aO aQ aP bE n v = ZA (Yq.l0 k (Yq.f k) aD aF aK aL aM aN aO aQ aP bE (fun z0 z1 z2 z3 z4 => some (z0,z1,z2,z3,z4))) n v :=
 Zz (Yq.s0 aD aF aK aL aM aN aO aQ aP bE) _ fun L0 v => by obtain ⟨aJ,aT⟩ := v; kernel_rfl
theorem Yq.oks (k : Nat) : Zf Try.prog 185 (Yq.e k) := by
 induction k with
 | zero => exact Zba Try.func185 (by kernel_rfl) (fun _ _ _ _ _ => rfl)
 | succ k ih => exact Zk (Yq.p k) mix tyok Try.func185 ⟨YQ.ok k,ih⟩ (by kernel_rfl) (fun aA aB aC aI aH => Eq.trans (b := Yq.m k (Yq.f k) aA aB aC aI aH (fun z0 z1 z2 z3 z4 => some (z0,z1,z2,z3,z4)) (fun aD aF aK aL aM aN aO aQ aP bE => Yq.r0 k aA aB aC aI aH aD aF aK aL aM aN aO aQ aP bE k)) (by kernel_rfl) ((congrArg (Yq.m k (Yq.f k) aA aB aC aI aH (fun z0 z1 z2 z3 z4 => some (z0,z1,z2,z3,z4))) (funext fun aD => funext fun aF => funext fun aK => funext fun aL => funext fun aM => funext fun aN => funext fun aO => funext fun aQ => funext fun aP => funext fun bE => funext fun v => Yq.l0_eq k aA aB aC aI aH aD aF aK aL aM aN aO aQ aP bE k v)).trans (Yq.t_succ k aA aB aC aI aH).symm))
theorem Yq.ok (k : Nat) : Zf Try.prog 185 (Yq.e k) := (Yq.oks k)
noncomputable def YC.l0 {β : Type} (k : Nat) (aD : LD) (aF : Int) (K : LC → Option β) (L0 : (Int × LC) → Option β) (v : Int × LC) : Option β :=
 match v with
 | (aJ,aK) => bif (decide ((aJ : Int) < aF)) then (atR aD aJ [.n,.n,.n,.s,.n,.l,.l] fun x52 x55 x58 x61 x64 x67 x70 => (Yq.f k x58 x61 x64 x67 x70 (fun y71 y72 y73 y74 y75 => Zd (aK.length + ([[.d (.int .i64 x52),.d (.int .i64 x55),.d (.int .i64 y71),.d (.str y72),.d (.int .i64 y73),.own y74,.own y75]] : LC).length ≤ Z8) (L0 (IntKind.wrap .i64 (aJ + 1),aK ++ ([[.d (.int .i64 x52),.d (.int .i64 x55),.d (.int .i64 y71),.d (.str y72),.d (.int .i64 y73),.own y74,.own y75]] : LC)))))) else (K aK)
noncomputable def YC.m {β : Type} (k : Nat) (a0 : LD) (K : LC → Option β) (F : (LD → Int → (Int × LC) → Option β)) : Option β :=
 F a0 (a0.length : Int) (0,([] : LC))
noncomputable def YC.g {β : Type} (k : Nat) (a0 : LD) (K : LC → Option β) : Option β :=
 ZA (YC.l0 k a0 (a0.length : Int) K) k (0,([] : LC))
noncomputable def YC.t (k : Nat) (a0 : LD) : Option (LC) := YC.g k a0 (fun z0 => some z0)
noncomputable def YC.f {β : Type} (k : Nat) (a0 : LD) (K : LC → Option β) : Option β := bd1 (YC.t k a0) K
noncomputable def YC.e (k : Nat) : Zj := ent [.d .l] [1] [.o] [54] false (YC.t k)
noncomputable def YC.p (k : Nat) : Pro := ⟨Try.prog,[(185,Yq.e k)],Zv [(3,kp [3,7,8,9])] false [],k⟩
noncomputable def YC.d (k : Nat) (a0 : LD) : Ex → St → Option (LC) := (YC.p k).fin Try.f120 [.d (.sl a0)] [1] [.o]
noncomputable def YC.s0 (aD : LD) (aF : Int) (v : Int × LC) : St :=
 match v with
 | (aJ,aK) => ZaA 26 [(3,.row 0),(7,.d false (.sl aD)),(8,.d true (.int .i64 aF)),(9,.d true (.int .i64 aJ))] [.row none true 54 aK]
noncomputable def YC.r0 (k : Nat) (a0 aD : LD) (aF : Int) (n : Nat) (v : Int × LC) : Option (LC) := (YC.p k).lp (ZI Try.f120) 3 [1,1,0,1,0] (YC.d k a0) n (YC.s0 aD aF v)
theorem YC.l0_eq (k : Nat) (a0 aD : LD) (aF : Int) : ∀ n v,YC.r0 k a0 aD aF n v = ZA (YC.l0 k aD aF (fun z0 => some z0)) n v :=
 Zz (YC.s0 aD aF) _ fun L0 v => by obtain ⟨aJ,aK⟩ := v; kernel_rfl
theorem YC.ok (k : Nat) : Zf Try.prog 120 (YC.e k) := Zk (YC.p k) mix tyok Try.func120 (Yq.ok k) (by kernel_rfl) (fun a0 => Eq.trans (b := YC.m k a0 (fun z0 => some z0) (fun aD aF => YC.r0 k a0 aD aF k)) (by kernel_rfl) (congrArg (YC.m k a0 (fun z0 => some z0)) (funext fun aD => funext fun aF => funext fun v => YC.l0_eq k a0 aD aF k v) :))
noncomputable def YH.g {β : Type} (k : Nat) (a0 : LD) (K : LC → Option β) : Option β :=
 let J0 := (Zd (Zcg 2 a0) (Zd (([] : LC).length + (a0.map (·.map C.d)).length ≤ Z8) (K (([] : LC) ++ (a0.map (·.map C.d)))))); nilSl a0 (both (K ([] : LC)) J0) J0
noncomputable def YH.t (k : Nat) (a0 : LD) : Option (LC) := YH.g k a0 (fun z0 => some z0)
noncomputable def YH.f {β : Type} (k : Nat) (a0 : LD) (K : LC → Option β) : Option β := bd1 (YH.t k a0) K
noncomputable def YH.e (k : Nat) : Zj := ent [.d .l] [1] [.o] [55] false (YH.t k)
noncomputable def YH.p (k : Nat) : Pro := ⟨Try.prog,[],Zv [] false [],k⟩
theorem YH.ok (k : Nat) : Zf Try.prog 126 (YH.e k) := Zk (YH.p k) mix tyok Try.func126 trivial (by kernel_rfl) (fun a0 => by show _ = _; kernel_rfl)
noncomputable def Yah.g {β : Type} (k : Nat) (aA : BA) (aB aC : Int) (aI aH : LD) (K : BA → Int → Int → LC → LC → Option β) : Option β :=
 YC.f k aI (fun y76 => YH.f k aH (fun y77 => K aA aB aC y76 y77))
noncomputable def Yah.t (k : Nat) (aA : BA) (aB aC : Int) (aI aH : LD) : Option (BA × Int × Int × LC × LC) := Yah.g k aA aB aC aI aH (fun z0 z1 z2 z3 z4 => some (z0,z1,z2,z3,z4))
noncomputable def Yah.f {β : Type} (k : Nat) (aA : BA) (aB aC : Int) (aI aH : LD) (K : BA → Int → Int → LC → LC → Option β) : Option β := bd5 (Yah.t k aA aB aC aI aH) K
noncomputable def Yah.e (k : Nat) : Zj := ent [.agg [.s,.n,.n,.l,.l]] [5] [.s,.n,.n,.o,.o] [57] false (Yah.t k)
noncomputable def Yah.p (k : Nat) : Pro := ⟨Try.prog,[(120,YC.e k),(126,YH.e k)],Zv [] false [],k⟩
theorem Yah.ok (k : Nat) : Zf Try.prog 104 (Yah.e k) := Zk (Yah.p k) mix tyok Try.func104 ⟨YC.ok k,YH.ok k⟩ (by kernel_rfl) (fun aA aB aC aI aH => by show _ = _; kernel_rfl)
noncomputable def YZ.g {β : Type} (k : Nat) (a0 a1 a2 : Int) (K : Bool → Option β) : Option β :=
 bif (decide ((a0 : Int) ≥ a1)) then (K (decide ((a0 : Int) ≤ a2))) else (K false)
noncomputable def YZ.t (k : Nat) (a0 a1 a2 : Int) : Option (Bool) := YZ.g k a0 a1 a2 (fun z0 => some z0)
noncomputable def YZ.f {β : Type} (k : Nat) (a0 a1 a2 : Int) (K : Bool → Option β) : Option β := bd1 (YZ.t k a0 a1 a2) K
noncomputable def YZ.e (k : Nat) : Zj := ent [.d .n,.d .n,.d .n] [1] [.b] [4] false (YZ.t k)
noncomputable def YZ.p (k : Nat) : Pro := ⟨Try.prog,[],Zv [] false [],k⟩
theorem YZ.ok (k : Nat) : Zf Try.prog 71 (YZ.e k) := Zk (YZ.p k) mix tyok Try.func71 trivial (by kernel_rfl) (fun a0 a1 a2 => by show _ = _; kernel_rfl)
noncomputable def YS.l0 {β : Type} (k : Nat) (aD : BA) (aF : Int) (K : Bool → Option β) (L0 : Int → Option β) (v : Int) : Option β :=
 match v with
 | aJ => bif (decide ((aJ : Int) < aF)) then (atStr aD aJ fun b5 => let J1 := (bif ((b5 : Int) != 45) then (K false) else (L0 (IntKind.wrap .i64 (aJ + 1)))); let J0 := (bif (decide ((b5 : Int) < 48)) then J1 else (bif (decide ((b5 : Int) > 57)) then J1 else (L0 (IntKind.wrap .i64 (aJ + 1))))); bif (decide ((b5 : Int) < 97)) then J0 else (bif (decide ((b5 : Int) > 122)) then J0 else (L0 (IntKind.wrap .i64 (aJ + 1))))) else (YZ.f k (aD.size : Int) 1 20 (fun y6 => bif y6 then (atStr aD 0 fun b7 => bif ((b7 : Int) != 45) then (atStr aD (IntKind.wrap .i64 ((aD.size : Int) - 1)) fun b8 => K ((b8 : Int) != 45)) else (K false)) else (K false)))
noncomputable def YS.m {β : Type} (k : Nat) (a0 : BA) (K : Bool → Option β) (F : (BA → Int → Int → Option β)) : Option β :=
 F a0 (a0.size : Int) (0)
noncomputable def YS.g {β : Type} (k : Nat) (a0 : BA) (K : Bool → Option β) : Option β :=
 ZA (YS.l0 k a0 (a0.size : Int) K) k (0)
noncomputable def YS.t (k : Nat) (a0 : BA) : Option (Bool) := YS.g k a0 (fun z0 => some z0)
noncomputable def YS.f {β : Type} (k : Nat) (a0 : BA) (K : Bool → Option β) : Option β := bd1 (YS.t k a0) K
noncomputable def YS.e (k : Nat) : Zj := ent [.d .s] [1] [.b] [4] false (YS.t k)
noncomputable def YS.p (k : Nat) : Pro := ⟨Try.prog,[(71,YZ.e k)],Zv [(2,kp [0,6,7])] false [],k⟩
noncomputable def YS.d (k : Nat) (a0 : BA) : Ex → St → Option (Bool) := (YS.p k).fin Try.f73 [.d (.str a0)] [1] [.b]
noncomputable def YS.s0 (aD : BA) (aF v : Int) : St :=
 match v with
 | aJ => ZaA 48 [(0,.d false (.str aD)),(6,.d true (.int .i64 aF)),(7,.d true (.int .i64 aJ))] []
noncomputable def YS.r0 (k : Nat) (a0 aD : BA) (aF : Int) (n : Nat) (v : Int) : Option (Bool) := (YS.p k).lp (ZI Try.f73) 2 [1,0,1,0] (YS.d k a0) n (YS.s0 aD aF v)
theorem YS.l0_eq (k : Nat) (a0 aD : BA) (aF : Int) : ∀ n v,YS.r0 k a0 aD aF n v = ZA (YS.l0 k aD aF (fun z0 => some z0)) n v :=
 Zz (YS.s0 aD aF) _ fun L0 v => by kernel_rfl
theorem YS.ok (k : Nat) : Zf Try.prog 73 (YS.e k) := Zk (YS.p k) mix tyok Try.func73 (YZ.ok k) (by kernel_rfl) (fun a0 => Eq.trans (b := YS.m k a0 (fun z0 => some z0) (fun aD aF => YS.r0 k a0 aD aF k)) (by kernel_rfl) (congrArg (YS.m k a0 (fun z0 => some z0)) (funext fun aD => funext fun aF => funext fun v => YS.l0_eq k a0 aD aF k v) :))
noncomputable def Y9.g {β : Type} (k : Nat) (a0 : Int) (K : Bool → Option β) : Option β :=
 YZ.f k a0 0 10000 (fun y1 => K y1)
noncomputable def Y9.t (k : Nat) (a0 : Int) : Option (Bool) := Y9.g k a0 (fun z0 => some z0)
noncomputable def Y9.f {β : Type} (k : Nat) (a0 : Int) (K : Bool → Option β) : Option β := bd1 (Y9.t k a0) K
noncomputable def Y9.e (k : Nat) : Zj := ent [.d .n] [1] [.b] [4] false (Y9.t k)
noncomputable def Y9.p (k : Nat) : Pro := ⟨Try.prog,[(71,YZ.e k)],Zv [] false [],k⟩
theorem Y9.ok (k : Nat) : Zf Try.prog 88 (Y9.e k) := Zk (Y9.p k) mix tyok Try.func88 (YZ.ok k) (by kernel_rfl) (fun a0 => by show _ = _; kernel_rfl)
noncomputable def YN.l0 {β : Type} (k : Nat) (aD : LD) (aF : Int) (aJ : LD) (aK : Int) (K : Bool → Option β) (L0 : Int → Option β) (v : Int) : Option β :=
 match v with
 | aL => bif (decide ((aL : Int) < aK)) then (atR aJ aL [.s] fun x13 => (YS.f k x13 (fun y14 => bif (!y14) then (K false) else (bif (decide ((aL : Int) > 0)) then (atR aD (IntKind.wrap .i64 (aL - 1)) [.s] fun x18 => (bif (!(strLt x18 x13)) then (K false) else (L0 (IntKind.wrap .i64 (aL + 1))))) else (L0 (IntKind.wrap .i64 (aL + 1))))))) else (K (decide (((aD.length : Int) : Int) ≤ aF)))
noncomputable def YN.m {β : Type} (k : Nat) (a0 : LD) (a1 : Int) (K : Bool → Option β) (F : (LD → Int → LD → Int → Int → Option β)) : Option β :=
 F a0 a1 a0 (a0.length : Int) (0)
noncomputable def YN.g {β : Type} (k : Nat) (a0 : LD) (a1 : Int) (K : Bool → Option β) : Option β :=
 ZA (YN.l0 k a0 a1 a0 (a0.length : Int) K) k (0)
noncomputable def YN.t (k : Nat) (a0 : LD) (a1 : Int) : Option (Bool) := YN.g k a0 a1 (fun z0 => some z0)
noncomputable def YN.f {β : Type} (k : Nat) (a0 : LD) (a1 : Int) (K : Bool → Option β) : Option β := bd1 (YN.t k a0 a1) K
noncomputable def YN.e (k : Nat) : Zj := ent [.d .l,.d .n] [1] [.b] [4] false (YN.t k)
noncomputable def YN.p (k : Nat) : Pro := ⟨Try.prog,[(73,YS.e k)],Zv [(2,kp [0,1,7,8,9])] false [],k⟩
noncomputable def YN.d (k : Nat) (a0 : LD) (a1 : Int) : Ex → St → Option (Bool) := (YN.p k).fin Try.f90 [.d (.sl a0),.d (.int .i64 a1)] [1] [.b]
noncomputable def YN.s0 (aD : LD) (aF : Int) (aJ : LD) (aK v : Int) : St :=
 match v with
 | aL => ZaA 35 [(0,.d false (.sl aD)),(1,.d false (.int .i64 aF)),(7,.d false (.sl aJ)),(8,.d true (.int .i64 aK)),(9,.d true (.int .i64 aL))] []
noncomputable def YN.r0 (k : Nat) (a0 : LD) (a1 : Int) (aD : LD) (aF : Int) (aJ : LD) (aK : Int) (n : Nat) (v : Int) : Option (Bool) := (YN.p k).lp (ZI Try.f90) 2 [1,0,1,0] (YN.d k a0 a1) n (YN.s0 aD aF aJ aK v)
theorem YN.l0_eq (k : Nat) (a0 : LD) (a1 : Int) (aD : LD) (aF : Int) (aJ : LD) (aK : Int) : ∀ n v,YN.r0 k a0 a1 aD aF aJ aK n v = ZA (YN.l0 k aD aF aJ aK (fun z0 => some z0)) n v :=
 Zz (YN.s0 aD aF aJ aK) _ fun L0 v => by kernel_rfl
theorem YN.ok (k : Nat) : Zf Try.prog 90 (YN.e k) := Zk (YN.p k) mix tyok Try.func90 (YS.ok k) (by kernel_rfl) (fun a0 a1 => Eq.trans (b := YN.m k a0 a1 (fun z0 => some z0) (fun aD aF aJ aK => YN.r0 k a0 a1 aD aF aJ aK k)) (by kernel_rfl) (congrArg (YN.m k a0 a1 (fun z0 => some z0)) (funext fun aD => funext fun aF => funext fun aJ => funext fun aK => funext fun v => YN.l0_eq k a0 a1 aD aF aJ aK k v) :))
noncomputable def YL.l0 {β : Type} (k : Nat) (aD aF aJ : Bool) (aK aM : Int) (aN : BA) (aO : Int) (aQ aP : LD) (K : Bool → Option β) (L0 : Int → Option β) (v : Int) : Option β :=
 match v with
 | aL => bif (decide ((aL : Int) < aK)) then (atStr aN aL fun b3 => YZ.f k (IntKind.wrap .i64 b3) 32 126 (fun y4 => bif (!y4) then (K false) else (L0 (IntKind.wrap .i64 (aL + 1))))) else (bif (decide (((aN.size : Int) : Int) ≤ 100)) then (bif aD then (bif aF then (K aJ) else (K false)) else (K false)) else (K false))
noncomputable def YL.m {β : Type} (k : Nat) (aA : Int) (aB : BA) (aC : Int) (aI aH : LD) (K : Bool → Option β) (F : (Bool → Bool → Bool → Int → Int → BA → Int → LD → LD → Int → Option β)) : Option β :=
 bif ((aA : Int) == 1) then (F ((aC : Int) == 0) (((aI.length : Int) : Int) == 0) (((aH.length : Int) : Int) == 0) (aB.size : Int) aA aB aC aI aH (0)) else (let J0 := (bif (((aI.length : Int) : Int) == 0) then (K (((aH.length : Int) : Int) == 0)) else (K false)); bif ((aA : Int) == 2) then (bif (Zae aB (⟨#[]⟩ : BA)) then J0 else (K false)) else (bif ((aA : Int) == 3) then (YZ.f k aC 0 1 (fun y5 => bif (Zae aB (⟨#[]⟩ : BA)) then (bif y5 then J0 else (K false)) else (K false))) else (bif ((aA : Int) == 4) then (bif (Zae aB (⟨#[]⟩ : BA)) then (bif ((aC : Int) == 0) then (bif (((aI.length : Int) : Int) == 0) then (K true) else (K false)) else (K false)) else (K false)) else (bif ((aA : Int) == 5) then (YN.f k aI 300 (fun y19 => bif y19 then (bif (Zae aB (⟨#[]⟩ : BA)) then (bif ((aC : Int) == 0) then (bif (((aI.length : Int) : Int) == (aH.length : Int)) then (K true) else (K false)) else (K false)) else (K false)) else (bif (Zae aB (⟨#[]⟩ : BA)) then (bif ((aC : Int) == 0) then (K false) else (K false)) else (K false)))) else (K false)))))
noncomputable def YL.g {β : Type} (k : Nat) (aA : Int) (aB : BA) (aC : Int) (aI aH : LD) (K : Bool → Option β) : Option β := YL.m k aA aB aC aI aH K (fun aD aF aJ aK aM aN aO aQ aP => ZA (YL.l0 k aD aF aJ aK aM aN aO aQ aP K) k)
noncomputable def YL.t (k : Nat) (aA : Int) (aB : BA) (aC : Int) (aI aH : LD) : Option (Bool) := YL.g k aA aB aC aI aH (fun z0 => some z0)
noncomputable def YL.f {β : Type} (k : Nat) (aA : Int) (aB : BA) (aC : Int) (aI aH : LD) (K : Bool → Option β) : Option β := bd1 (YL.t k aA aB aC aI aH) K
noncomputable def YL.e (k : Nat) : Zj := ent [.agg [.n,.s,.n,.l,.l]] [1] [.b] [4] false (YL.t k)
noncomputable def YL.p (k : Nat) : Pro := ⟨Try.prog,[(71,YZ.e k),(90,YN.e k)],Zv [(6,kp [1,4,5,6,28,29])] false [],k⟩
noncomputable def YL.d (k : Nat) (aA : Int) (aB : BA) (aC : Int) (aI aH : LD) : Ex → St → Option (Bool) := (YL.p k).fin Try.f247 [.agg [.int .i64 aA,.str aB,.int .i64 aC,.sl aI,.sl aH]] [1] [.b]
noncomputable def YL.s0 (aD aF aJ : Bool) (aK aM : Int) (aN : BA) (aO : Int) (aQ aP : LD) (v : Int) : St :=
 match v with
 | aL => ZaA 77 [(1,.bp 0 0),(4,.d true (.bool aD)),(5,.d true (.bool aF)),(6,.d true (.bool aJ)),(28,.d true (.int .i64 aK)),(29,.d true (.int .i64 aL))] [.box none 66 [.d false (.int .i64 aM),.d false (.str aN),.d false (.int .i64 aO),.d false (.sl aQ),.d false (.sl aP)]]
noncomputable def YL.r0 (k : Nat) (aA : Int) (aB : BA) (aC : Int) (aI aH : LD) (aD aF aJ : Bool) (aK aM : Int) (aN : BA) (aO : Int) (aQ aP : LD) (n : Nat) (v : Int) : Option (Bool) := (YL.p k).lp (ZI Try.f247) 6 [1,1,0,1,0,1,0,0,1,0] (YL.d k aA aB aC aI aH) n (YL.s0 aD aF aJ aK aM aN aO aQ aP v)
theorem YL.l0_eq (k : Nat) (aA : Int) (aB : BA) (aC : Int) (aI aH : LD) (aD aF aJ : Bool) (aK aM : Int) (aN : BA) (aO : Int) (aQ aP : LD) : ∀ n v,YL.r0 k aA aB aC aI aH aD aF aJ aK aM aN aO aQ aP n v = ZA (YL.l0 k aD aF aJ aK aM aN aO aQ aP (fun z0 => some z0)) n v :=
 Zz (YL.s0 aD aF aJ aK aM aN aO aQ aP) _ fun L0 v => by kernel_rfl
theorem YL.ok (k : Nat) : Zf Try.prog 247 (YL.e k) := Zk (YL.p k) mix tyok Try.func247 ⟨YZ.ok k,YN.ok k⟩ (by kernel_rfl) (fun aA aB aC aI aH => Eq.trans (b := YL.m k aA aB aC aI aH (fun z0 => some z0) (fun aD aF aJ aK aM aN aO aQ aP => YL.r0 k aA aB aC aI aH aD aF aJ aK aM aN aO aQ aP k)) (by kernel_rfl) (congrArg (YL.m k aA aB aC aI aH (fun z0 => some z0)) (funext fun aD => funext fun aF => funext fun aJ => funext fun aK => funext fun aM => funext fun aN => funext fun aO => funext fun aQ => funext fun aP => funext fun v => YL.l0_eq k aA aB aC aI aH aD aF aJ aK aM aN aO aQ aP k v) :))
noncomputable def Ys.l0 {β : Type} (k : Nat) (r_impl_measured : Int → BA → Int → LD → LD → Int → (Int → Option β) → Option β) (aD : Int) (aJ : LD) (aK : Int) (K : Int → Option β) (L0 : (Int × Int) → Option β) (v : Int × Int) : Option β :=
 match v with
 | (aF,aL) => bif (decide ((aL : Int) < aK)) then (atR aJ aL [.n,.s,.n,.l,.l] fun x41 x44 x47 x50 x53 => (r_impl_measured x41 x44 x47 x50 x53 (IntKind.wrap .i64 (aD - 1)) (fun y54 => bif (decide (((IntKind.wrap .i64 (aF + y54)) : Int) > 300)) then (K 301) else (L0 (IntKind.wrap .i64 (aF + y54),IntKind.wrap .i64 (aL + 1)))))) else (K aF)
noncomputable def Ys.m {β : Type} (k : Nat) (r_impl_measured : Int → BA → Int → LD → LD → Int → (Int → Option β) → Option β) (aA : Int) (aB : BA) (aC : Int) (aI aH : LD) (a1 : Int) (K : Int → Option β) (F : (Int → LD → Int → (Int × Int) → Option β)) : Option β :=
 bif ((a1 : Int) == 0) then (K 301) else (YL.f k aA aB aC aI aH (fun y20 => bif (!y20) then (K 301) else (F a1 aH (aH.length : Int) (1,0))))
noncomputable def Ys.body {β : Type} (k : Nat) (r_impl_measured : Int → BA → Int → LD → LD → Int → (Int → Option β) → Option β) (aA : Int) (aB : BA) (aC : Int) (aI aH : LD) (a1 : Int) (K : Int → Option β) : Option β :=
 bif ((a1 : Int) == 0) then (K 301) else (YL.f k aA aB aC aI aH (fun y20 => bif (!y20) then (K 301) else (ZA (Ys.l0 k r_impl_measured a1 aH (aH.length : Int) K) k (1,0))))
noncomputable def Ys.w {β : Type} (r : Int → BA → Int → LD → LD → Int → Option (Int)) (aA : Int) (aB : BA) (aC : Int) (aI aH : LD) (a1 : Int) (K : Int → Option β) : Option β := bd1 (r aA aB aC aI aH a1) K
noncomputable def Ys.all : Nat → (Int → BA → Int → LD → LD → Int → Option (Int))
 | 0 => (fun _ _ _ _ _ _ => none)
 | k + 1 => (fun r => (fun aA aB aC aI aH a1 => Ys.body k (Ys.w r) aA aB aC aI aH a1 (fun z0 => some z0))) (Ys.all k)
noncomputable def Ys.t (k : Nat) (aA : Int) (aB : BA) (aC : Int) (aI aH : LD) (a1 : Int) : Option (Int) := (Ys.all k) aA aB aC aI aH a1
noncomputable def Ys.f {β : Type} (k : Nat) (aA : Int) (aB : BA) (aC : Int) (aI aH : LD) (a1 : Int) (K : Int → Option β) : Option β := Ys.w (Ys.t k) aA aB aC aI aH a1 K
noncomputable def Ys.g {β : Type} (k : Nat) (aA : Int) (aB : BA) (aC : Int) (aI aH : LD) (a1 : Int) (K : Int → Option β) : Option β := Ys.body k (Ys.f k) aA aB aC aI aH a1 K
theorem Ys.t_succ (k : Nat) (aA : Int) (aB : BA) (aC : Int) (aI aH : LD) (a1 : Int) : Ys.t (k + 1) aA aB aC aI aH a1 = Ys.g k aA aB aC aI aH a1 (fun z0 => some z0) := rfl
noncomputable def Ys.e (k : Nat) : Zj := ent [.agg [.n,.s,.n,.l,.l],.d .n] [1] [.n] [3] false (Ys.t k)
noncomputable def Ys.p (k : Nat) : Pro := ⟨Try.prog,[(247,YL.e k),(216,Ys.e k)],Zv [(5,kp [1,5,16,17,18])] false [],k⟩
noncomputable def Ys.d (k : Nat) (aA : Int) (aB : BA) (aC : Int) (aI aH : LD) (a1 : Int) : Ex → St → Option (Int) := (Ys.p k).fin Try.f216 [.agg [.int .i64 aA,.str aB,.int .i64 aC,.sl aI,.sl aH],.d (.int .i64 a1)] [1] [.n]
noncomputable def Ys.s0 (aD : Int) (aJ : LD) (aK : Int) (v : Int × Int) : St :=
 match v with
 | (aF,aL) => ZaA 32 [(1,.d false (.int .i64 aD)),(5,.d true (.int .i64 aF)),(16,.d false (.sl aJ)),(17,.d true (.int .i64 aK)),(18,.d true (.int .i64 aL))] []
noncomputable def Ys.r0 (k : Nat) (aA : Int) (aB : BA) (aC : Int) (aI aH : LD) (a1 aD : Int) (aJ : LD) (aK : Int) (n : Nat) (v : Int × Int) : Option (Int) := (Ys.p k).lp (ZI Try.f216) 5 [1,1,1,0,1,0] (Ys.d k aA aB aC aI aH a1) n (Ys.s0 aD aJ aK v)
theorem Ys.l0_eq (k : Nat) (aA : Int) (aB : BA) (aC : Int) (aI aH : LD) (a1 aD : Int) (aJ : LD) (aK : Int) : ∀ n v,Ys.r0 k aA aB aC aI aH a1 aD aJ aK n v = ZA (Ys.l0 k (Ys.f k) aD aJ aK (fun z0 => some z0)) n v :=
 Zz (Ys.s0 aD aJ aK) _ fun L0 v => by obtain ⟨aF,aL⟩ := v; kernel_rfl
theorem Ys.oks (k : Nat) : Zf Try.prog 216 (Ys.e k) := by
 induction k with
 | zero => exact Zba Try.func216 (by kernel_rfl) (fun _ _ _ _ _ _ => rfl)
 | succ k ih => exact Zk (Ys.p k) mix tyok Try.func216 ⟨YL.ok k,ih⟩ (by kernel_rfl) (fun aA aB aC aI aH a1 => Eq.trans (b := Ys.m k (Ys.f k) aA aB aC aI aH a1 (fun z0 => some z0) (fun aD aJ aK => Ys.r0 k aA aB aC aI aH a1 aD aJ aK k)) (by kernel_rfl) ((congrArg (Ys.m k (Ys.f k) aA aB aC aI aH a1 (fun z0 => some z0)) (funext fun aD => funext fun aJ => funext fun aK => funext fun v => Ys.l0_eq k aA aB aC aI aH a1 aD aJ aK k v)).trans (Ys.t_succ k aA aB aC aI aH a1).symm))
theorem Ys.ok (k : Nat) : Zf Try.prog 216 (Ys.e k) := (Ys.oks k)
noncomputable def Yan.g {β : Type} (k : Nat) (aA : Int) (aB : BA) (aC : Int) (aI aH : LD) (K : Bool → Option β) : Option β :=
 Ys.f k aA aB aC aI aH 6 (fun y55 => K (decide ((y55 : Int) ≤ 300)))
noncomputable def Yan.t (k : Nat) (aA : Int) (aB : BA) (aC : Int) (aI aH : LD) : Option (Bool) := Yan.g k aA aB aC aI aH (fun z0 => some z0)
noncomputable def Yan.f {β : Type} (k : Nat) (aA : Int) (aB : BA) (aC : Int) (aI aH : LD) (K : Bool → Option β) : Option β := bd1 (Yan.t k aA aB aC aI aH) K
noncomputable def Yan.e (k : Nat) : Zj := ent [.agg [.n,.s,.n,.l,.l]] [1] [.b] [4] false (Yan.t k)
noncomputable def Yan.p (k : Nat) : Pro := ⟨Try.prog,[(216,Ys.e k)],Zv [] false [],k⟩
theorem Yan.ok (k : Nat) : Zf Try.prog 169 (Yan.e k) := Zk (Yan.p k) mix tyok Try.func169 (Ys.ok k) (by kernel_rfl) (fun aA aB aC aI aH => by show _ = _; kernel_rfl)
noncomputable def YK.l0 {β : Type} (k : Nat) (aD aF : LD) (aJ : Int) (K : Bool → Option β) (L0 : Int → Option β) (v : Int) : Option β :=
 match v with
 | aK => bif (decide ((aK : Int) < aJ)) then (atR aF aK [.n,.n,.n,.s,.n,.l,.l] fun x82 x85 x88 x91 x94 x97 x100 => (YZ.f k x82 1 1000000 (fun y101 => bif (!y101) then (K false) else (YZ.f k x85 1 10000 (fun y102 => bif (!y102) then (K false) else (Yan.f k x88 x91 x94 x97 x100 (fun y103 => bif (!y103) then (K false) else (bif (decide ((aK : Int) > 0)) then (atR aD (IntKind.wrap .i64 (aK - 1)) [.n,.n,.n,.s,.n,.l,.l] fun x107 x110 x113 x116 x119 x122 x125 => (bif (decide ((x107 : Int) ≥ x82)) then (K false) else (L0 (IntKind.wrap .i64 (aK + 1))))) else (L0 (IntKind.wrap .i64 (aK + 1))))))))))) else (K (decide (((aD.length : Int) : Int) ≤ 40)))
noncomputable def YK.m {β : Type} (k : Nat) (a0 : LD) (K : Bool → Option β) (F : (LD → LD → Int → Int → Option β)) : Option β :=
 F a0 a0 (a0.length : Int) (0)
noncomputable def YK.g {β : Type} (k : Nat) (a0 : LD) (K : Bool → Option β) : Option β :=
 ZA (YK.l0 k a0 a0 (a0.length : Int) K) k (0)
noncomputable def YK.t (k : Nat) (a0 : LD) : Option (Bool) := YK.g k a0 (fun z0 => some z0)
noncomputable def YK.f {β : Type} (k : Nat) (a0 : LD) (K : Bool → Option β) : Option β := bd1 (YK.t k a0) K
noncomputable def YK.e (k : Nat) : Zj := ent [.d .l] [1] [.b] [4] false (YK.t k)
noncomputable def YK.p (k : Nat) : Pro := ⟨Try.prog,[(71,YZ.e k),(169,Yan.e k)],Zv [(2,kp [0,5,6,7])] false [],k⟩
noncomputable def YK.d (k : Nat) (a0 : LD) : Ex → St → Option (Bool) := (YK.p k).fin Try.f99 [.d (.sl a0)] [1] [.b]
noncomputable def YK.s0 (aD aF : LD) (aJ v : Int) : St :=
 match v with
 | aK => ZaA 47 [(0,.d false (.sl aD)),(5,.d false (.sl aF)),(6,.d true (.int .i64 aJ)),(7,.d true (.int .i64 aK))] []
noncomputable def YK.r0 (k : Nat) (a0 aD aF : LD) (aJ : Int) (n : Nat) (v : Int) : Option (Bool) := (YK.p k).lp (ZI Try.f99) 2 [1,0,1,0] (YK.d k a0) n (YK.s0 aD aF aJ v)
theorem YK.l0_eq (k : Nat) (a0 aD aF : LD) (aJ : Int) : ∀ n v,YK.r0 k a0 aD aF aJ n v = ZA (YK.l0 k aD aF aJ (fun z0 => some z0)) n v :=
 Zz (YK.s0 aD aF aJ) _ fun L0 v => by kernel_rfl
theorem YK.ok (k : Nat) : Zf Try.prog 99 (YK.e k) := Zk (YK.p k) mix tyok Try.func99 ⟨YZ.ok k,Yan.ok k⟩ (by kernel_rfl) (fun a0 => Eq.trans (b := YK.m k a0 (fun z0 => some z0) (fun aD aF aJ => YK.r0 k a0 aD aF aJ k)) (by kernel_rfl) (congrArg (YK.m k a0 (fun z0 => some z0)) (funext fun aD => funext fun aF => funext fun aJ => funext fun v => YK.l0_eq k a0 aD aF aJ k v) :))
noncomputable def YW.l0 {β : Type} (k : Nat) (aD aF : LD) (aJ : Int) (K : Bool → Option β) (L0 : Int → Option β) (v : Int) : Option β :=
 match v with
 | aK => bif (decide ((aK : Int) < aJ)) then (atR aF aK [.n,.n] fun x20 x23 => (YZ.f k x20 1 1000000 (fun y24 => bif (!y24) then (K false) else (Y9.f k x23 (fun y25 => bif (!y25) then (K false) else (bif (decide ((aK : Int) > 0)) then (atR aD (IntKind.wrap .i64 (aK - 1)) [.n,.n] fun x29 x32 => (bif (decide ((x29 : Int) ≥ x20)) then (K false) else (L0 (IntKind.wrap .i64 (aK + 1))))) else (L0 (IntKind.wrap .i64 (aK + 1))))))))) else (K (decide (((aD.length : Int) : Int) ≤ 80)))
noncomputable def YW.m {β : Type} (k : Nat) (a0 : LD) (K : Bool → Option β) (F : (LD → LD → Int → Int → Option β)) : Option β :=
 F a0 a0 (a0.length : Int) (0)
noncomputable def YW.g {β : Type} (k : Nat) (a0 : LD) (K : Bool → Option β) : Option β :=
 ZA (YW.l0 k a0 a0 (a0.length : Int) K) k (0)
noncomputable def YW.t (k : Nat) (a0 : LD) : Option (Bool) := YW.g k a0 (fun z0 => some z0)
noncomputable def YW.f {β : Type} (k : Nat) (a0 : LD) (K : Bool → Option β) : Option β := bd1 (YW.t k a0) K
noncomputable def YW.e (k : Nat) : Zj := ent [.d .l] [1] [.b] [4] false (YW.t k)
noncomputable def YW.p (k : Nat) : Pro := ⟨Try.prog,[(71,YZ.e k),(88,Y9.e k)],Zv [(2,kp [0,5,6,7])] false [],k⟩
noncomputable def YW.d (k : Nat) (a0 : LD) : Ex → St → Option (Bool) := (YW.p k).fin Try.f100 [.d (.sl a0)] [1] [.b]
noncomputable def YW.s0 (aD aF : LD) (aJ v : Int) : St :=
 match v with
 | aK => ZaA 41 [(0,.d false (.sl aD)),(5,.d false (.sl aF)),(6,.d true (.int .i64 aJ)),(7,.d true (.int .i64 aK))] []
noncomputable def YW.r0 (k : Nat) (a0 aD aF : LD) (aJ : Int) (n : Nat) (v : Int) : Option (Bool) := (YW.p k).lp (ZI Try.f100) 2 [1,0,1,0] (YW.d k a0) n (YW.s0 aD aF aJ v)
theorem YW.l0_eq (k : Nat) (a0 aD aF : LD) (aJ : Int) : ∀ n v,YW.r0 k a0 aD aF aJ n v = ZA (YW.l0 k aD aF aJ (fun z0 => some z0)) n v :=
 Zz (YW.s0 aD aF aJ) _ fun L0 v => by kernel_rfl
theorem YW.ok (k : Nat) : Zf Try.prog 100 (YW.e k) := Zk (YW.p k) mix tyok Try.func100 ⟨YZ.ok k,Y9.ok k⟩ (by kernel_rfl) (fun a0 => Eq.trans (b := YW.m k a0 (fun z0 => some z0) (fun aD aF aJ => YW.r0 k a0 aD aF aJ k)) (by kernel_rfl) (congrArg (YW.m k a0 (fun z0 => some z0)) (funext fun aD => funext fun aF => funext fun aJ => funext fun v => YW.l0_eq k a0 aD aF aJ k v) :))
noncomputable def Yai.g {β : Type} (k : Nat) (aA aB : Int) (K : Bool → Option β) : Option β :=
 K ((aB : Int) == 0)
noncomputable def Yai.t (k : Nat) (aA aB : Int) : Option (Bool) := Yai.g k aA aB (fun z0 => some z0)
noncomputable def Yai.f {β : Type} (k : Nat) (aA aB : Int) (K : Bool → Option β) : Option β := bd1 (Yai.t k aA aB) K
noncomputable def Yai.e (k : Nat) : Zj := ent [.agg [.n,.n]] [1] [.b] [4] false (Yai.t k)
noncomputable def Yai.p (k : Nat) : Pro := ⟨Try.prog,[],Zv [] false [],k⟩
theorem Yai.ok (k : Nat) : Zf Try.prog 102 (Yai.e k) := Zk (Yai.p k) mix tyok Try.func102 trivial (by kernel_rfl) (fun aA aB => by show _ = _; kernel_rfl)
noncomputable def Yf.l0 {β : Type} (k : Nat) (aD : LD) (aF : Int) (K L0 : Int → Option β) (v : Int) : Option β :=
 match v with
 | aJ => bif (decide ((aJ : Int) < aF)) then (atR aD aJ [.n,.n] fun x12 x15 => (Yai.f k x12 x15 (fun y16 => bif y16 then (K aJ) else (L0 (IntKind.wrap .i64 (aJ + 1)))))) else (K (-1))
noncomputable def Yf.m {β : Type} (k : Nat) (a0 : LD) (K : Int → Option β) (F : (LD → Int → Int → Option β)) : Option β :=
 F a0 (a0.length : Int) (0)
noncomputable def Yf.g {β : Type} (k : Nat) (a0 : LD) (K : Int → Option β) : Option β :=
 ZA (Yf.l0 k a0 (a0.length : Int) K) k (0)
noncomputable def Yf.t (k : Nat) (a0 : LD) : Option (Int) := Yf.g k a0 (fun z0 => some z0)
noncomputable def Yf.f {β : Type} (k : Nat) (a0 : LD) (K : Int → Option β) : Option β := bd1 (Yf.t k a0) K
noncomputable def Yf.e (k : Nat) : Zj := ent [.d .l,.fn 102 []] [1] [.n] [3] false (Yf.t k)
noncomputable def Yf.p (k : Nat) : Pro := ⟨Try.prog,[(102,Yai.e k)],Zv [(2,kp [0,1,7,8])] false [],k⟩
noncomputable def Yf.d (k : Nat) (a0 : LD) : Ex → St → Option (Int) := (Yf.p k).fin Try.f170 [.d (.sl a0),.d (.fn 102 [])] [1] [.n]
noncomputable def Yf.s0 (aD : LD) (aF v : Int) : St :=
 match v with
 | aJ => ZaA 19 [(0,.d false (.sl aD)),(1,.d false (.fn 102 [])),(7,.d true (.int .i64 aF)),(8,.d true (.int .i64 aJ))] []
noncomputable def Yf.r0 (k : Nat) (a0 aD : LD) (aF : Int) (n : Nat) (v : Int) : Option (Int) := (Yf.p k).lp (ZI Try.f170) 2 [1,0,1,0] (Yf.d k a0) n (Yf.s0 aD aF v)
theorem Yf.l0_eq (k : Nat) (a0 aD : LD) (aF : Int) : ∀ n v,Yf.r0 k a0 aD aF n v = ZA (Yf.l0 k aD aF (fun z0 => some z0)) n v :=
 Zz (Yf.s0 aD aF) _ fun L0 v => by kernel_rfl
theorem Yf.ok (k : Nat) : Zf Try.prog 170 (Yf.e k) := Zk (Yf.p k) mix tyok Try.func170 (Yai.ok k) (by kernel_rfl) (fun a0 => Eq.trans (b := Yf.m k a0 (fun z0 => some z0) (fun aD aF => Yf.r0 k a0 aD aF k)) (by kernel_rfl) (congrArg (Yf.m k a0 (fun z0 => some z0)) (funext fun aD => funext fun aF => funext fun v => Yf.l0_eq k a0 aD aF k v) :))
noncomputable def Yo.g {β : Type} (k : Nat) (a0 : LD) (K : Bool → Option β) : Option β :=
 Yf.f k a0 (fun y17 => K (decide ((y17 : Int) ≥ 0)))
noncomputable def Yo.t (k : Nat) (a0 : LD) : Option (Bool) := Yo.g k a0 (fun z0 => some z0)
noncomputable def Yo.f {β : Type} (k : Nat) (a0 : LD) (K : Bool → Option β) : Option β := bd1 (Yo.t k a0) K
noncomputable def Yo.e (k : Nat) : Zj := ent [.d .l,.fn 102 []] [1] [.b] [4] false (Yo.t k)
noncomputable def Yo.p (k : Nat) : Pro := ⟨Try.prog,[(170,Yf.e k)],Zv [] false [],k⟩
theorem Yo.ok (k : Nat) : Zf Try.prog 101 (Yo.e k) := Zk (Yo.p k) mix tyok Try.func101 (Yf.ok k) (by kernel_rfl) (fun a0 => by show _ = _; kernel_rfl)
noncomputable def YT.l0 {β : Type} (k : Nat) (aF : LD) (aJ : Int) (K : Int → Option β) (L0 : (Int × Int) → Option β) (v : Int × Int) : Option β :=
 match v with
 | (aD,aK) => bif (decide ((aK : Int) < aJ)) then (atR aF aK [.n,.n] fun x11 x14 => (L0 (IntKind.wrap .i64 (aD + x14),IntKind.wrap .i64 (aK + 1)))) else (K aD)
noncomputable def YT.m {β : Type} (k : Nat) (aA : BA) (aB aC : Int) (aI aH : LD) (K : Int → Option β) (F : (LD → Int → (Int × Int) → Option β)) : Option β :=
 F aH (aH.length : Int) (0,0)
noncomputable def YT.g {β : Type} (k : Nat) (aA : BA) (aB aC : Int) (aI aH : LD) (K : Int → Option β) : Option β :=
 ZA (YT.l0 k aH (aH.length : Int) K) k (0,0)
noncomputable def YT.t (k : Nat) (aA : BA) (aB aC : Int) (aI aH : LD) : Option (Int) := YT.g k aA aB aC aI aH (fun z0 => some z0)
noncomputable def YT.f {β : Type} (k : Nat) (aA : BA) (aB aC : Int) (aI aH : LD) (K : Int → Option β) : Option β := bd1 (YT.t k aA aB aC aI aH) K
noncomputable def YT.e (k : Nat) : Zj := ent [.agg [.s,.n,.n,.l,.l]] [1] [.n] [3] false (YT.t k)
noncomputable def YT.p (k : Nat) : Pro := ⟨Try.prog,[],Zv [(3,kp [3,7,8,9])] false [],k⟩
noncomputable def YT.d (k : Nat) (aA : BA) (aB aC : Int) (aI aH : LD) : Ex → St → Option (Int) := (YT.p k).fin Try.f103 [.agg [.str aA,.int .i64 aB,.int .i64 aC,.sl aI,.sl aH]] [1] [.n]
noncomputable def YT.s0 (aF : LD) (aJ : Int) (v : Int × Int) : St :=
 match v with
 | (aD,aK) => ZaA 19 [(3,.d true (.int .i64 aD)),(7,.d false (.sl aF)),(8,.d true (.int .i64 aJ)),(9,.d true (.int .i64 aK))] []
noncomputable def YT.r0 (k : Nat) (aA : BA) (aB aC : Int) (aI aH aF : LD) (aJ : Int) (n : Nat) (v : Int × Int) : Option (Int) := (YT.p k).lp (ZI Try.f103) 3 [1,1,0,1,0] (YT.d k aA aB aC aI aH) n (YT.s0 aF aJ v)
theorem YT.l0_eq (k : Nat) (aA : BA) (aB aC : Int) (aI aH aF : LD) (aJ : Int) : ∀ n v,YT.r0 k aA aB aC aI aH aF aJ n v = ZA (YT.l0 k aF aJ (fun z0 => some z0)) n v :=
 Zz (YT.s0 aF aJ) _ fun L0 v => by obtain ⟨aD,aK⟩ := v; kernel_rfl
theorem YT.ok (k : Nat) : Zf Try.prog 103 (YT.e k) := Zk (YT.p k) mix tyok Try.func103 trivial (by kernel_rfl) (fun aA aB aC aI aH => Eq.trans (b := YT.m k aA aB aC aI aH (fun z0 => some z0) (fun aF aJ => YT.r0 k aA aB aC aI aH aF aJ k)) (by kernel_rfl) (congrArg (YT.m k aA aB aC aI aH (fun z0 => some z0)) (funext fun aF => funext fun aJ => funext fun v => YT.l0_eq k aA aB aC aI aH aF aJ k v) :))
noncomputable def Yak.g {β : Type} (k : Nat) (aA : BA) (aB aC : Int) (aI aH : LD) (K : Bool → Option β) : Option β :=
 YS.f k aA (fun y9 => bif y9 then (Y9.f k aB (fun y10 => bif y10 then (YZ.f k aC 0 1000000 (fun y11 => bif y11 then (YK.f k aI (fun y126 => bif y126 then (YW.f k aH (fun y127 => bif y127 then (Yo.f k aH (fun y128 => bif (!y128) then (YT.f k aA aB aC aI aH (fun y129 => K (decide ((y129 : Int) ≤ aB)))) else (K false))) else (K false))) else (K false))) else (K false))) else (K false))) else (K false))
noncomputable def Yak.t (k : Nat) (aA : BA) (aB aC : Int) (aI aH : LD) : Option (Bool) := Yak.g k aA aB aC aI aH (fun z0 => some z0)
noncomputable def Yak.f {β : Type} (k : Nat) (aA : BA) (aB aC : Int) (aI aH : LD) (K : Bool → Option β) : Option β := bd1 (Yak.t k aA aB aC aI aH) K
noncomputable def Yak.e (k : Nat) : Zj := ent [.agg [.s,.n,.n,.l,.l]] [1] [.b] [4] false (Yak.t k)
noncomputable def Yak.p (k : Nat) : Pro := ⟨Try.prog,[(73,YS.e k),(88,Y9.e k),(71,YZ.e k),(99,YK.e k),(100,YW.e k),(101,Yo.e k),(103,YT.e k)],Zv [] false [],k⟩
theorem Yak.ok (k : Nat) : Zf Try.prog 33 (Yak.e k) := Zk (Yak.p k) mix tyok Try.func33 ⟨YS.ok k,Y9.ok k,YZ.ok k,YK.ok k,YW.ok k,Yo.ok k,YT.ok k⟩ (by kernel_rfl) (fun aA aB aC aI aH => by show _ = _; kernel_rfl)
noncomputable def Yaw.g {β : Type} (k : Nat) (aA : BA) (aB aC : Int) (aI aH : LD) (a1 : Int) (a2 : LD) (K : BA → Int → Int → LC → LC → Bool → Option β) : Option β :=
 Yah.f k aA aB aC aI aH (fun y78 y79 y80 y81 y82 => Yak.f k aA aB aC aI aH (fun y130 => bif (!y130) then (K y78 y79 y80 y81 y82 false) else (YK.f k a2 (fun y131 => bif (!y131) then (K y78 y79 y80 y81 y82 false) else (bif (decide ((a1 : Int) ≤ aC)) then (K y78 y79 y80 y81 y82 false) else (bif (decide ((a1 : Int) > 1000000)) then (K y78 y79 y80 y81 y82 false) else (YC.f k a2 (fun y132 => K y78 y79 a1 y132 y82 true))))))))
noncomputable def Yaw.t (k : Nat) (aA : BA) (aB aC : Int) (aI aH : LD) (a1 : Int) (a2 : LD) : Option (BA × Int × Int × LC × LC × Bool) := Yaw.g k aA aB aC aI aH a1 a2 (fun z0 z1 z2 z3 z4 z5 => some (z0,z1,z2,z3,z4,z5))
noncomputable def Yaw.f {β : Type} (k : Nat) (aA : BA) (aB aC : Int) (aI aH : LD) (a1 : Int) (a2 : LD) (K : BA → Int → Int → LC → LC → Bool → Option β) : Option β := match Yaw.t k aA aB aC aI aH a1 a2 with | some (z0,z1,z2,z3,z4,z5) => K z0 z1 z2 z3 z4 z5 | none => none
noncomputable def Yaw.e (k : Nat) : Zj := ent [.agg [.s,.n,.n,.l,.l],.d .n,.d .l] [5,1] [.s,.n,.n,.o,.o,.b] [57,4] false (Yaw.t k)
noncomputable def Yaw.p (k : Nat) : Pro := ⟨Try.prog,[(104,Yah.e k),(33,Yak.e k),(99,YK.e k),(120,YC.e k)],Zv [] false [],k⟩
theorem Yaw.ok (k : Nat) : Zf Try.prog 43 (Yaw.e k) := Zk (Yaw.p k) mix tyok Try.func43 ⟨Yah.ok k,Yak.ok k,YK.ok k,YC.ok k⟩ (by kernel_rfl) (fun aA aB aC aI aH a1 a2 => by show _ = _; kernel_rfl)
noncomputable def Yi.l1 {β : Type} (k : Nat) (r_spec_SameValue : Int → BA → Int → LD → LD → Int → BA → Int → LD → LD → (Bool → Option β) → Option β) (aR : Int) (aX : BA) (aY : Int) (aZ bD : LD) (bF : Int) (bH : BA) (bJ : Int) (bK bI : LD) (K : Bool → Option β) (L1 : Int → Option β) (v : Int) : Option β :=
 match v with
 | aU => bif (decide ((aU : Int) < (bD.length : Int))) then (atR bD aU [.n,.s,.n,.l,.l] fun x119 x122 x125 x128 x131 => (atR bI aU [.n,.s,.n,.l,.l] fun x135 x138 x141 x144 x147 => (r_spec_SameValue x119 x122 x125 x128 x131 x135 x138 x141 x144 x147 (fun y148 => bif (!y148) then (K false) else (L1 (IntKind.wrap .i64 (aU + 1))))))) else (K true)
noncomputable def Yi.m0 {β : Type} (k : Nat) (r_spec_SameValue : Int → BA → Int → LD → LD → Int → BA → Int → LD → LD → (Bool → Option β) → Option β) (aF : Int) (aJ : BA) (aK : Int) (aL aM : LD) (aN : Int) (aO : BA) (aQ : Int) (aP aT : LD) (K : Bool → Option β) (L0 : Int → Option β) (v : Int) (F : (Int → BA → Int → LD → LD → Int → BA → Int → LD → LD → Int → Option β)) : Option β :=
 match v with
 | aD => bif (decide ((aD : Int) < (aL.length : Int))) then (atR aL aD [.s] fun x78 => (atR aP aD [.s] fun x82 => (bif (!(Zae x78 x82)) then (K false) else (L0 (IntKind.wrap .i64 (aD + 1)))))) else (F aF aJ aK aL aM aN aO aQ aP aT (0))
noncomputable def Yi.l0 {β : Type} (k : Nat) (r_spec_SameValue : Int → BA → Int → LD → LD → Int → BA → Int → LD → LD → (Bool → Option β) → Option β) (aF : Int) (aJ : BA) (aK : Int) (aL aM : LD) (aN : Int) (aO : BA) (aQ : Int) (aP aT : LD) (K : Bool → Option β) (L0 : Int → Option β) (v : Int) : Option β := Yi.m0 k r_spec_SameValue aF aJ aK aL aM aN aO aQ aP aT K L0 v (fun aR aX aY aZ bD bF bH bJ bK bI => ZA (Yi.l1 k r_spec_SameValue aR aX aY aZ bD bF bH bJ bK bI K) k)
noncomputable def Yi.m {β : Type} (k : Nat) (r_spec_SameValue : Int → BA → Int → LD → LD → Int → BA → Int → LD → LD → (Bool → Option β) → Option β) (aA : Int) (aB : BA) (aC : Int) (aI aH : LD) (aV : Int) (aW : BA) (bA : Int) (bB bC : LD) (K : Bool → Option β) (F : (Int → BA → Int → LD → LD → Int → BA → Int → LD → LD → Int → Option β)) : Option β :=
 bif ((aA : Int) != aV) then (K false) else (bif (!(Zae aB aW)) then (K false) else (bif ((aC : Int) != bA) then (K false) else (bif (((aI.length : Int) : Int) != (bB.length : Int)) then (K false) else (bif (((aH.length : Int) : Int) != (bC.length : Int)) then (K false) else (F aA aB aC aI aH aV aW bA bB bC (0))))))
noncomputable def Yi.body {β : Type} (k : Nat) (r_spec_SameValue : Int → BA → Int → LD → LD → Int → BA → Int → LD → LD → (Bool → Option β) → Option β) (aA : Int) (aB : BA) (aC : Int) (aI aH : LD) (aV : Int) (aW : BA) (bA : Int) (bB bC : LD) (K : Bool → Option β) : Option β := Yi.m k r_spec_SameValue aA aB aC aI aH aV aW bA bB bC K (fun aF aJ aK aL aM aN aO aQ aP aT => ZA (Yi.l0 k r_spec_SameValue aF aJ aK aL aM aN aO aQ aP aT K) k)
noncomputable def Yi.w {β : Type} (r : Int → BA → Int → LD → LD → Int → BA → Int → LD → LD → Option (Bool)) (aA : Int) (aB : BA) (aC : Int) (aI aH : LD) (aV : Int) (aW : BA) (bA : Int) (bB bC : LD) (K : Bool → Option β) : Option β := bd1 (r aA aB aC aI aH aV aW bA bB bC) K
noncomputable def Yi.all : Nat → (Int → BA → Int → LD → LD → Int → BA → Int → LD → LD → Option (Bool))
 | 0 => (fun _ _ _ _ _ _ _ _ _ _ => none)
 | k + 1 => (fun r => (fun aA aB aC aI aH aV aW bA bB bC => Yi.body k (Yi.w r) aA aB aC aI aH aV aW bA bB bC (fun z0 => some z0))) (Yi.all k)
noncomputable def Yi.t (k : Nat) (aA : Int) (aB : BA) (aC : Int) (aI aH : LD) (aV : Int) (aW : BA) (bA : Int) (bB bC : LD) : Option (Bool) := (Yi.all k) aA aB aC aI aH aV aW bA bB bC
noncomputable def Yi.f {β : Type} (k : Nat) (aA : Int) (aB : BA) (aC : Int) (aI aH : LD) (aV : Int) (aW : BA) (bA : Int) (bB bC : LD) (K : Bool → Option β) : Option β := Yi.w (Yi.t k) aA aB aC aI aH aV aW bA bB bC K
noncomputable def Yi.g {β : Type} (k : Nat) (aA : Int) (aB : BA) (aC : Int) (aI aH : LD) (aV : Int) (aW : BA) (bA : Int) (bB bC : LD) (K : Bool → Option β) : Option β := Yi.body k (Yi.f k) aA aB aC aI aH aV aW bA bB bC K
theorem Yi.t_succ (k : Nat) (aA : Int) (aB : BA) (aC : Int) (aI aH : LD) (aV : Int) (aW : BA) (bA : Int) (bB bC : LD) : Yi.t (k + 1) aA aB aC aI aH aV aW bA bB bC = Yi.g k aA aB aC aI aH aV aW bA bB bC (fun z0 => some z0) := rfl
noncomputable def Yi.e (k : Nat) : Zj := ent [.agg [.n,.s,.n,.l,.l],.agg [.n,.s,.n,.l,.l]] [1] [.b] [4] false (Yi.t k)
noncomputable def Yi.p (k : Nat) : Pro := ⟨Try.prog,[(125,Yi.e k)],Zv [(4,kp [2,3,5]),(9,kp [2,3,6])] false [],k⟩
noncomputable def Yi.d (k : Nat) (aA : Int) (aB : BA) (aC : Int) (aI aH : LD) (aV : Int) (aW : BA) (bA : Int) (bB bC : LD) : Ex → St → Option (Bool) := (Yi.p k).fin Try.f125 [.agg [.int .i64 aA,.str aB,.int .i64 aC,.sl aI,.sl aH],.agg [.int .i64 aV,.str aW,.int .i64 bA,.sl bB,.sl bC]] [1] [.b]
noncomputable def Yi.s0 (aF : Int) (aJ : BA) (aK : Int) (aL aM : LD) (aN : Int) (aO : BA) (aQ : Int) (aP aT : LD) (v : Int) : St :=
 match v with
 | aD => ZaA 81 [(2,.bp 0 0),(3,.bp 1 0),(5,.d true (.int .i64 aD))] [.box none 66 [.d false (.int .i64 aF),.d false (.str aJ),.d false (.int .i64 aK),.d false (.sl aL),.d false (.sl aM)],.box none 66 [.d false (.int .i64 aN),.d false (.str aO),.d false (.int .i64 aQ),.d false (.sl aP),.d false (.sl aT)]]
noncomputable def Yi.r0 (k : Nat) (aA : Int) (aB : BA) (aC : Int) (aI aH : LD) (aV : Int) (aW : BA) (bA : Int) (bB bC : LD) (aF : Int) (aJ : BA) (aK : Int) (aL aM : LD) (aN : Int) (aO : BA) (aQ : Int) (aP aT : LD) (n : Nat) (v : Int) : Option (Bool) := (Yi.p k).lp (ZI Try.f125) 4 [1,1,0,1,0] (Yi.d k aA aB aC aI aH aV aW bA bB bC) n (Yi.s0 aF aJ aK aL aM aN aO aQ aP aT v)
noncomputable def Yi.s1 (aR : Int) (aX : BA) (aY : Int) (aZ bD : LD) (bF : Int) (bH : BA) (bJ : Int) (bK bI : LD) (v : Int) : St :=
 match v with
 | aU => ZaA 81 [(2,.bp 0 0),(3,.bp 1 0),(6,.d true (.int .i64 aU))] [.box none 66 [.d false (.int .i64 aR),.d false (.str aX),.d false (.int .i64 aY),.d false (.sl aZ),.d false (.sl bD)],.box none 66 [.d false (.int .i64 bF),.d false (.str bH),.d false (.int .i64 bJ),.d false (.sl bK),.d false (.sl bI)]]
noncomputable def Yi.r1 (k : Nat) (aA : Int) (aB : BA) (aC : Int) (aI aH : LD) (aV : Int) (aW : BA) (bA : Int) (bB bC : LD) (aR : Int) (aX : BA) (aY : Int) (aZ bD : LD) (bF : Int) (bH : BA) (bJ : Int) (bK bI : LD) (n : Nat) (v : Int) : Option (Bool) := (Yi.p k).lp (ZI Try.f125) 9 [1,1,1,0,1,0] (Yi.d k aA aB aC aI aH aV aW bA bB bC) n (Yi.s1 aR aX aY aZ bD bF bH bJ bK bI v)
theorem Yi.l1_eq (k : Nat) (aA : Int) (aB : BA) (aC : Int) (aI aH : LD) (aV : Int) (aW : BA) (bA : Int) (bB bC : LD) (aR : Int) (aX : BA) (aY : Int) (aZ bD : LD) (bF : Int) (bH : BA) (bJ : Int) (bK bI : LD) : ∀ n v,Yi.r1 k aA aB aC aI aH aV aW bA bB bC aR aX aY aZ bD bF bH bJ bK bI n v = ZA (Yi.l1 k (Yi.f k) aR aX aY aZ bD bF bH bJ bK bI (fun z0 => some z0)) n v :=
 Zz (Yi.s1 aR aX aY aZ bD bF bH bJ bK bI) _ fun L1 v => by kernel_rfl
theorem Yi.l0_eq (k : Nat) (aA : Int) (aB : BA) (aC : Int) (aI aH : LD) (aV : Int) (aW : BA) (bA : Int) (bB bC : LD) (aF : Int) (aJ : BA) (aK : Int) (aL aM : LD) (aN : Int) (aO : BA) (aQ : Int) (aP aT : LD) : ∀ n v,Yi.r0 k aA aB aC aI aH aV aW bA bB bC aF aJ aK aL aM aN aO aQ aP aT n v = ZA (Yi.l0 k (Yi.f k) aF aJ aK aL aM aN aO aQ aP aT (fun z0 => some z0)) n v :=
 Zz (Yi.s0 aF aJ aK aL aM aN aO aQ aP aT) _ fun L0 v => by exact Eq.trans (b := Yi.m0 k (Yi.f k) aF aJ aK aL aM aN aO aQ aP aT (fun z0 => some z0) (fun v => L0 (Yi.s0 aF aJ aK aL aM aN aO aQ aP aT v)) v (fun aR aX aY aZ bD bF bH bJ bK bI => Yi.r1 k aA aB aC aI aH aV aW bA bB bC aR aX aY aZ bD bF bH bJ bK bI k)) (by kernel_rfl) (congrArg (Yi.m0 k (Yi.f k) aF aJ aK aL aM aN aO aQ aP aT (fun z0 => some z0) (fun v => L0 (Yi.s0 aF aJ aK aL aM aN aO aQ aP aT v)) v) (funext fun aR => funext fun aX => funext fun aY => funext fun aZ => funext fun bD => funext fun bF => funext fun bH => funext fun bJ => funext fun bK => funext fun bI => funext fun v => Yi.l1_eq k aA aB aC aI aH aV aW bA bB bC aR aX aY aZ bD bF bH bJ bK bI k v))
theorem Yi.oks (k : Nat) : Zf Try.prog 125 (Yi.e k) := by
 induction k with
 | zero => exact Zba Try.func125 (by kernel_rfl) (fun _ _ _ _ _ _ _ _ _ _ => rfl)
 | succ k ih => exact Zk (Yi.p k) mix tyok Try.func125 ih (by kernel_rfl) (fun aA aB aC aI aH aV aW bA bB bC => Eq.trans (b := Yi.m k (Yi.f k) aA aB aC aI aH aV aW bA bB bC (fun z0 => some z0) (fun aF aJ aK aL aM aN aO aQ aP aT => Yi.r0 k aA aB aC aI aH aV aW bA bB bC aF aJ aK aL aM aN aO aQ aP aT k)) (by kernel_rfl) ((congrArg (Yi.m k (Yi.f k) aA aB aC aI aH aV aW bA bB bC (fun z0 => some z0)) (funext fun aF => funext fun aJ => funext fun aK => funext fun aL => funext fun aM => funext fun aN => funext fun aO => funext fun aQ => funext fun aP => funext fun aT => funext fun v => Yi.l0_eq k aA aB aC aI aH aV aW bA bB bC aF aJ aK aL aM aN aO aQ aP aT k v)).trans (Yi.t_succ k aA aB aC aI aH aV aW bA bB bC).symm))
theorem Yi.ok (k : Nat) : Zf Try.prog 125 (Yi.e k) := (Yi.oks k)
noncomputable def YE.l0 {β : Type} (k : Nat) (aD aF : LD) (K : Bool → Option β) (L0 : Int → Option β) (v : Int) : Option β :=
 match v with
 | aJ => bif (decide ((aJ : Int) < (aD.length : Int))) then (atR aD aJ [.n,.n] fun x18 x21 => (atR aF aJ [.n,.n] fun x25 x28 => (bif (!((x18 : Int) == x25 && (x21 : Int) == x28)) then (K false) else (L0 (IntKind.wrap .i64 (aJ + 1)))))) else (K true)
noncomputable def YE.m {β : Type} (k : Nat) (a0 a1 : LD) (K : Bool → Option β) (F : (LD → LD → Int → Option β)) : Option β :=
 bif (((a0.length : Int) : Int) != (a1.length : Int)) then (K false) else (F a0 a1 (0))
noncomputable def YE.g {β : Type} (k : Nat) (a0 a1 : LD) (K : Bool → Option β) : Option β :=
 bif (((a0.length : Int) : Int) != (a1.length : Int)) then (K false) else (ZA (YE.l0 k a0 a1 K) k (0))
noncomputable def YE.t (k : Nat) (a0 a1 : LD) : Option (Bool) := YE.g k a0 a1 (fun z0 => some z0)
noncomputable def YE.f {β : Type} (k : Nat) (a0 a1 : LD) (K : Bool → Option β) : Option β := bd1 (YE.t k a0 a1) K
noncomputable def YE.e (k : Nat) : Zj := ent [.d .l,.d .l] [1] [.b] [4] false (YE.t k)
noncomputable def YE.p (k : Nat) : Pro := ⟨Try.prog,[],Zv [(4,kp [0,1,5])] false [],k⟩
noncomputable def YE.d (k : Nat) (a0 a1 : LD) : Ex → St → Option (Bool) := (YE.p k).fin Try.f47 [.d (.sl a0),.d (.sl a1)] [1] [.b]
noncomputable def YE.s0 (aD aF : LD) (v : Int) : St :=
 match v with
 | aJ => ZaA 26 [(0,.d false (.sl aD)),(1,.d false (.sl aF)),(5,.d true (.int .i64 aJ))] []
noncomputable def YE.r0 (k : Nat) (a0 a1 aD aF : LD) (n : Nat) (v : Int) : Option (Bool) := (YE.p k).lp (ZI Try.f47) 4 [1,1,0,1,0] (YE.d k a0 a1) n (YE.s0 aD aF v)
theorem YE.l0_eq (k : Nat) (a0 a1 aD aF : LD) : ∀ n v,YE.r0 k a0 a1 aD aF n v = ZA (YE.l0 k aD aF (fun z0 => some z0)) n v :=
 Zz (YE.s0 aD aF) _ fun L0 v => by kernel_rfl
theorem YE.ok (k : Nat) : Zf Try.prog 47 (YE.e k) := Zk (YE.p k) mix tyok Try.func47 trivial (by kernel_rfl) (fun a0 a1 => Eq.trans (b := YE.m k a0 a1 (fun z0 => some z0) (fun aD aF => YE.r0 k a0 a1 aD aF k)) (by kernel_rfl) (congrArg (YE.m k a0 a1 (fun z0 => some z0)) (funext fun aD => funext fun aF => funext fun v => YE.l0_eq k a0 a1 aD aF k v) :))
noncomputable def YI.l0 {β : Type} (k : Nat) (aF : BA) (aJ aK : Int) (aL aM : LD) (aN : BA) (aO aQ : Int) (aP aT : LD) (K : Bool → Option β) (L0 : Int → Option β) (v : Int) : Option β :=
 match v with
 | aD => bif (decide ((aD : Int) < (aL.length : Int))) then (atR aL aD [.n,.n,.n,.s,.n,.l,.l] fun x154 x157 x160 x163 x166 x169 x172 => (atR aP aD [.n,.n,.n,.s,.n,.l,.l] fun x176 x179 x182 x185 x188 x191 x194 => (bif ((x154 : Int) != x176) then (K false) else (atR aL aD [.n,.n,.n,.s,.n,.l,.l] fun x198 x201 x204 x207 x210 x213 x216 => (atR aP aD [.n,.n,.n,.s,.n,.l,.l] fun x220 x223 x226 x229 x232 x235 x238 => (bif ((x201 : Int) != x223) then (K false) else (atR aL aD [.n,.n,.n,.s,.n,.l,.l] fun x242 x245 x248 x251 x254 x257 x260 => (atR aP aD [.n,.n,.n,.s,.n,.l,.l] fun x264 x267 x270 x273 x276 x279 x282 => (Yi.f k x248 x251 x254 x257 x260 x270 x273 x276 x279 x282 (fun y283 => bif (!y283) then (K false) else (L0 (IntKind.wrap .i64 (aD + 1))))))))))))) else (YE.f k aM aT (fun y284 => K y284))
noncomputable def YI.m {β : Type} (k : Nat) (aA : BA) (aB aC : Int) (aI aH : LD) (aV : BA) (aW bA : Int) (bB bC : LD) (K : Bool → Option β) (F : (BA → Int → Int → LD → LD → BA → Int → Int → LD → LD → Int → Option β)) : Option β :=
 bif (!(Zae aA aV)) then (K false) else (bif ((aB : Int) != aW) then (K false) else (bif ((aC : Int) != bA) then (K false) else (bif (((aI.length : Int) : Int) != (bB.length : Int)) then (K false) else (F aA aB aC aI aH aV aW bA bB bC (0)))))
noncomputable def YI.g {β : Type} (k : Nat) (aA : BA) (aB aC : Int) (aI aH : LD) (aV : BA) (aW bA : Int) (bB bC : LD) (K : Bool → Option β) : Option β := YI.m k aA aB aC aI aH aV aW bA bB bC K (fun aF aJ aK aL aM aN aO aQ aP aT => ZA (YI.l0 k aF aJ aK aL aM aN aO aQ aP aT K) k)
noncomputable def YI.t (k : Nat) (aA : BA) (aB aC : Int) (aI aH : LD) (aV : BA) (aW bA : Int) (bB bC : LD) : Option (Bool) := YI.g k aA aB aC aI aH aV aW bA bB bC (fun z0 => some z0)
noncomputable def YI.f {β : Type} (k : Nat) (aA : BA) (aB aC : Int) (aI aH : LD) (aV : BA) (aW bA : Int) (bB bC : LD) (K : Bool → Option β) : Option β := bd1 (YI.t k aA aB aC aI aH aV aW bA bB bC) K
noncomputable def YI.e (k : Nat) : Zj := ent [.agg [.s,.n,.n,.l,.l],.agg [.s,.n,.n,.l,.l]] [1] [.b] [4] false (YI.t k)
noncomputable def YI.p (k : Nat) : Pro := ⟨Try.prog,[(125,Yi.e k),(47,YE.e k)],Zv [(4,kp [2,3,5])] false [],k⟩
noncomputable def YI.d (k : Nat) (aA : BA) (aB aC : Int) (aI aH : LD) (aV : BA) (aW bA : Int) (bB bC : LD) : Ex → St → Option (Bool) := (YI.p k).fin Try.f45 [.agg [.str aA,.int .i64 aB,.int .i64 aC,.sl aI,.sl aH],.agg [.str aV,.int .i64 aW,.int .i64 bA,.sl bB,.sl bC]] [1] [.b]
noncomputable def YI.s0 (aF : BA) (aJ aK : Int) (aL aM : LD) (aN : BA) (aO aQ : Int) (aP aT : LD) (v : Int) : St :=
 match v with
 | aD => ZaA 90 [(2,.bp 0 0),(3,.bp 1 0),(5,.d true (.int .i64 aD))] [.box none 57 [.d false (.str aF),.d false (.int .i64 aJ),.d false (.int .i64 aK),.d false (.sl aL),.d false (.sl aM)],.box none 57 [.d false (.str aN),.d false (.int .i64 aO),.d false (.int .i64 aQ),.d false (.sl aP),.d false (.sl aT)]]
noncomputable def YI.r0 (k : Nat) (aA : BA) (aB aC : Int) (aI aH : LD) (aV : BA) (aW bA : Int) (bB bC : LD) (aF : BA) (aJ aK : Int) (aL aM : LD) (aN : BA) (aO aQ : Int) (aP aT : LD) (n : Nat) (v : Int) : Option (Bool) := (YI.p k).lp (ZI Try.f45) 4 [1,1,0,1,0] (YI.d k aA aB aC aI aH aV aW bA bB bC) n (YI.s0 aF aJ aK aL aM aN aO aQ aP aT v)
theorem YI.l0_eq (k : Nat) (aA : BA) (aB aC : Int) (aI aH : LD) (aV : BA) (aW bA : Int) (bB bC : LD) (aF : BA) (aJ aK : Int) (aL aM : LD) (aN : BA) (aO aQ : Int) (aP aT : LD) : ∀ n v,YI.r0 k aA aB aC aI aH aV aW bA bB bC aF aJ aK aL aM aN aO aQ aP aT n v = ZA (YI.l0 k aF aJ aK aL aM aN aO aQ aP aT (fun z0 => some z0)) n v :=
 Zz (YI.s0 aF aJ aK aL aM aN aO aQ aP aT) _ fun L0 v => by kernel_rfl
theorem YI.ok (k : Nat) : Zf Try.prog 45 (YI.e k) := Zk (YI.p k) mix tyok Try.func45 ⟨Yi.ok k,YE.ok k⟩ (by kernel_rfl) (fun aA aB aC aI aH aV aW bA bB bC => Eq.trans (b := YI.m k aA aB aC aI aH aV aW bA bB bC (fun z0 => some z0) (fun aF aJ aK aL aM aN aO aQ aP aT => YI.r0 k aA aB aC aI aH aV aW bA bB bC aF aJ aK aL aM aN aO aQ aP aT k)) (by kernel_rfl) (congrArg (YI.m k aA aB aC aI aH aV aW bA bB bC (fun z0 => some z0)) (funext fun aF => funext fun aJ => funext fun aK => funext fun aL => funext fun aM => funext fun aN => funext fun aO => funext fun aQ => funext fun aP => funext fun aT => funext fun v => YI.l0_eq k aA aB aC aI aH aV aW bA bB bC aF aJ aK aL aM aN aO aQ aP aT k v) :))
noncomputable def Yaq.g {β : Type} (k : Nat) (a0 : Int) (K : Bool → Option β) : Option β :=
 K ((a0 : Int) != a0)
noncomputable def Yaq.t (k : Nat) (a0 : Int) : Option (Bool) := Yaq.g k a0 (fun z0 => some z0)
noncomputable def Yaq.f {β : Type} (k : Nat) (a0 : Int) (K : Bool → Option β) : Option β := bd1 (Yaq.t k a0) K
noncomputable def Yaq.e (k : Nat) : Zj := ent [.d .n] [1] [.b] [4] false (Yaq.t k)
noncomputable def Yaq.p (k : Nat) : Pro := ⟨Try.prog,[],Zv [] false [],k⟩
theorem Yaq.ok (k : Nat) : Zf Try.prog 171 (Yaq.e k) := Zk (Yaq.p k) mix tyok Try.func171 trivial (by kernel_rfl) (fun a0 => by show _ = _; kernel_rfl)
noncomputable def Yal.g {β : Type} (k : Nat) (a0 a1 : Int) (K : Int → Option β) : Option β :=
 Yaq.f k a0 (fun y1 => Yaq.f k a1 (fun y2 => bif y1 then (bif y2 then (K 0) else (K (-1))) else (bif y2 then (K 1) else (bif (decide ((a0 : Int) < a1)) then (K (-1)) else (bif (decide ((a0 : Int) > a1)) then (K 1) else (K 0))))))
noncomputable def Yal.t (k : Nat) (a0 a1 : Int) : Option (Int) := Yal.g k a0 a1 (fun z0 => some z0)
noncomputable def Yal.f {β : Type} (k : Nat) (a0 a1 : Int) (K : Int → Option β) : Option β := bd1 (Yal.t k a0 a1) K
noncomputable def Yal.e (k : Nat) : Zj := ent [.d .n,.d .n] [1] [.n] [3] false (Yal.t k)
noncomputable def Yal.p (k : Nat) : Pro := ⟨Try.prog,[(171,Yaq.e k)],Zv [] false [],k⟩
theorem Yal.ok (k : Nat) : Zf Try.prog 110 (Yal.e k) := Zk (Yal.p k) mix tyok Try.func110 (Yaq.ok k) (by kernel_rfl) (fun a0 a1 => by show _ = _; kernel_rfl)
noncomputable def Yag.g {β : Type} (k : Nat) (aA aB aV aW : Int) (K : Int → Option β) : Option β :=
 Yal.f k aA aV (fun y3 => K y3)
noncomputable def Yag.t (k : Nat) (aA aB aV aW : Int) : Option (Int) := Yag.g k aA aB aV aW (fun z0 => some z0)
noncomputable def Yag.f {β : Type} (k : Nat) (aA aB aV aW : Int) (K : Int → Option β) : Option β := bd1 (Yag.t k aA aB aV aW) K
noncomputable def Yag.e (k : Nat) : Zj := ent [.agg [.n,.n],.agg [.n,.n]] [1] [.n] [3] false (Yag.t k)
noncomputable def Yag.p (k : Nat) : Pro := ⟨Try.prog,[(110,Yal.e k)],Zv [] false [],k⟩
theorem Yag.ok (k : Nat) : Zf Try.prog 128 (Yag.e k) := Zk (Yag.p k) mix tyok Try.func128 (Yal.ok k) (by kernel_rfl) (fun aA aB aV aW => by show _ = _; kernel_rfl)
noncomputable def Yc.l1 {β : Type} (k : Nat) (aU aR aX : Int) (L0 : (Int × Int × Int × LC) → Option β) (K : LC → Option β) (L1 : (Int × LC) → Option β) (v : Int × LC) : Option β :=
 match v with
 | (aY,aZ) => bif (decide ((aY : Int) > aU)) then (Zd ((0 : Int) ≤ aY ∧ aY < (aZ.length : Int)) (ZaR aZ (Int.toNat aY) fun c112 => ZaJ (c112.drop 0) fun c113 r => cD c113 fun d => dInt .i64 d fun x116 => ZaJ r fun c117 r => cD c117 fun d => dInt .i64 d fun x120 => let J0 := ((0 : Int) ≤ (IntKind.wrap .i64 (aY - 1)) ∧ (IntKind.wrap .i64 (aY - 1)) < (aZ.length : Int)); Zd J0 (ZaR aZ (Int.toNat (IntKind.wrap .i64 (aY - 1))) fun c121 => ZaJ (c121.drop 0) fun c122 r => cD c122 fun d => dInt .i64 d fun x125 => ZaJ r fun c126 r => cD c126 fun d => dInt .i64 d fun x129 => Yag.f k x116 x120 x125 x129 (fun y130 => bif (decide ((y130 : Int) < 0)) then (Zd J0 (ZaR aZ (Int.toNat (IntKind.wrap .i64 (aY - 1))) fun c131 => ZaJ (c131.drop 0) fun c132 r => cD c132 fun d => dInt .i64 d fun x135 => ZaJ r fun c136 r => cD c136 fun d => dInt .i64 d fun x139 => Zd ((0 : Int) ≤ aY ∧ aY < (aZ.length : Int)) (ZaR aZ (Int.toNat aY) fun c140 => ZaJ (c140.drop 0) fun c141 r => cD c141 fun d => dInt .i64 d fun x144 => ZaJ r fun c145 r => cD c145 fun d => dInt .i64 d fun x148 => let J1 := (aZ.modify (Int.toNat aY) fun c => Zs c 0 [.d (.int .i64 x135),.d (.int .i64 x139)]); Zd ((0 : Int) ≤ aY ∧ aY < (aZ.length : Int)) (Zd (Int.toNat aY < aZ.length) (Zd ((0 : Int) ≤ (IntKind.wrap .i64 (aY - 1)) ∧ (IntKind.wrap .i64 (aY - 1)) < (J1.length : Int)) (Zd (Int.toNat (IntKind.wrap .i64 (aY - 1)) < J1.length) (L1 (IntKind.wrap .i64 (aY - 1),J1.modify (Int.toNat (IntKind.wrap .i64 (aY - 1))) fun c => Zs c 0 [.d (.int .i64 x144),.d (.int .i64 x148)])))))))) else (L0 (aU,aR,IntKind.wrap .i64 (aX + 1),aZ)))))) else (L0 (aU,aR,IntKind.wrap .i64 (aX + 1),aZ))
noncomputable def Yc.m0 {β : Type} (k : Nat) (K : LC → Option β) (L0 : (Int × Int × Int × LC) → Option β) (v : Int × Int × Int × LC) (F : (Int → Int → Int → (Int × LC) → Option β)) : Option β :=
 match v with
 | (aD,aF,aJ,aK) => bif (decide ((aJ : Int) < aF)) then (F aD aF aJ (aJ,aK)) else (K aK)
noncomputable def Yc.l0 {β : Type} (k : Nat) (K : LC → Option β) (L0 : (Int × Int × Int × LC) → Option β) (v : Int × Int × Int × LC) : Option β := Yc.m0 k K L0 v (fun aU aR aX => ZA (Yc.l1 k aU aR aX L0 K) k)
noncomputable def Yc.m {β : Type} (k : Nat) (a0 : LC) (a1 a2 : Int) (K : LC → Option β) (F : ((Int × Int × Int × LC) → Option β)) : Option β :=
 F (a1,a2,IntKind.wrap .i64 (a1 + 1),a0)
noncomputable def Yc.g {β : Type} (k : Nat) (a0 : LC) (a1 a2 : Int) (K : LC → Option β) : Option β :=
 ZA (Yc.l0 k K) k (a1,a2,IntKind.wrap .i64 (a1 + 1),a0)
noncomputable def Yc.t (k : Nat) (a0 : LC) (a1 a2 : Int) : Option (LC) := Yc.g k a0 a1 a2 (fun z0 => some z0)
noncomputable def Yc.f {β : Type} (k : Nat) (a0 : LC) (a1 a2 : Int) (K : LC → Option β) : Option β := bd1 (Yc.t k a0 a1 a2) K
noncomputable def Yc.e (k : Nat) : Zj := ent [.own false 55 [.o],.d .n,.d .n,.fn 128 []] [] [.o] [] false (Yc.t k)
noncomputable def Yc.p (k : Nat) : Pro := ⟨Try.prog,[(128,Yag.e k)],Zv [(1,kp [0,1,2,3,8]),(4,kp [0,1,2,3,8,9])] false [],k⟩
noncomputable def Yc.d (k : Nat) (a0 : LC) (a1 a2 : Int) : Ex → St → Option (LC) := (Yc.p k).fin Try.f227 [.own false [.own a0],.d (.int .i64 a1),.d (.int .i64 a2),.d (.fn 128 [])] [] [.o]
noncomputable def Yc.s0 (v : Int × Int × Int × LC) : St :=
 match v with
 | (aD,aF,aJ,aK) => ZaA 53 [(0,.row 0),(1,.d false (.int .i64 aD)),(2,.d false (.int .i64 aF)),(3,.d false (.fn 128 [])),(8,.d true (.int .i64 aJ))] [.row (some 0) false 55 aK]
noncomputable def Yc.c0 (k : Nat) (a0 : LC) (a1 a2 : Int) : Ex → St → Option (LC) := (Yc.p k).ct (ZI Try.f227) [1,0] (Yc.d k a0 a1 a2)
noncomputable def Yc.r0 (k : Nat) (a0 : LC) (a1 a2 : Int) (n : Nat) (v : Int × Int × Int × LC) : Option (LC) := (Yc.p k).lp (ZI Try.f227) 1 [1,0] (Yc.d k a0 a1 a2) n (Yc.s0 v)
noncomputable def Yc.s1 (aU aR aX : Int) (v : Int × LC) : St :=
 match v with
 | (aY,aZ) => ZaA 53 [(0,.row 0),(1,.d false (.int .i64 aU)),(2,.d false (.int .i64 aR)),(3,.d false (.fn 128 [])),(8,.d true (.int .i64 aX)),(9,.d true (.int .i64 aY))] [.row (some 0) false 55 aZ]
noncomputable def Yc.r1 (k : Nat) (a0 : LC) (a1 a2 aU aR aX : Int) (L0 : St → Option (LC)) (n : Nat) (v : Int × LC) : Option (LC) := (Yc.p k).lp (codeAt [1,0,0] (ZI Try.f227)) 4 [1,0,0,1,0] (backK ((Yc.p k).h.H 1) L0 (Yc.c0 k a0 a1 a2)) n (Yc.s1 aU aR aX v)
theorem Yc.l1_eq (k : Nat) (a0 : LC) (a1 a2 aU aR aX : Int) (L0 : St → Option (LC)) : ∀ n v,Yc.r1 k a0 a1 a2 aU aR aX L0 n v = ZA (Yc.l1 k aU aR aX (fun v => L0 (Yc.s0 v)) (fun z0 => some z0)) n v :=
 Zz (Yc.s1 aU aR aX) _ fun L1 v => by obtain ⟨aY,aZ⟩ := v; kernel_rfl
theorem Yc.l0_eq (k : Nat) (a0 : LC) (a1 a2 : Int) : ∀ n v,Yc.r0 k a0 a1 a2 n v = ZA (Yc.l0 k (fun z0 => some z0)) n v :=
 Zz (Yc.s0) _ fun L0 v => by obtain ⟨aD,aF,aJ,aK⟩ := v; exact Eq.trans (b := Yc.m0 k (fun z0 => some z0) (fun v => L0 (Yc.s0 v)) (aD,aF,aJ,aK) (fun aU aR aX => Yc.r1 k a0 a1 a2 aU aR aX L0 k)) (by kernel_rfl) (congrArg (Yc.m0 k (fun z0 => some z0) (fun v => L0 (Yc.s0 v)) (aD,aF,aJ,aK)) (funext fun aU => funext fun aR => funext fun aX => funext fun v => Yc.l1_eq k a0 a1 a2 aU aR aX L0 k v))
theorem Yc.ok (k : Nat) : Zf Try.prog 227 (Yc.e k) := Zk (Yc.p k) mix tyok Try.func227 (Yag.ok k) (by kernel_rfl) (fun a0 a1 a2 => Eq.trans (b := Yc.m k a0 a1 a2 (fun z0 => some z0) (Yc.r0 k a0 a1 a2 k)) (by kernel_rfl) (congrArg (Yc.m k a0 a1 a2 (fun z0 => some z0)) (funext fun v => Yc.l0_eq k a0 a1 a2 k v) :))
end Go.Proofs.Ytpgplbalenfgfaa
