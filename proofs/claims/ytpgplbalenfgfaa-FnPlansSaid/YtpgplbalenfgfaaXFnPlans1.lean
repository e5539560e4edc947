/- Printed: the functions that FnPlans reaches, read by the evaluator, each with its contract. -/
import Derived.Test.YtpgplbalenfgfaaXFnPlans0
import Derived.KernelRfl
set_option linter.unusedVariables false
set_option linter.unusedSimpArgs false
namespace Go.Proofs.Ytpgplbalenfgfaa
open Go Go.T Go.Proofs
noncomputable def Yr.l2 {β : Type} (k : Nat) (aQ aS : LD) (aK : Int) (aX bA : LC) (L0 : (Int × LD × LD × LC) → Option β) (K : LC → Option β) (L2 : (Int × Int × LC) → Option β) (v : Int × Int × LC) : Option β :=
 match v with
 | (aT, aU, aP) => bif (decide ((aU : Int) < aK)) then (Zc ((0 : Int) ≤ aU ∧ aU < (bA.length : Int)) (ZaG bA (Int.toNat aU) fun c226 => Zas (c226.drop 0) fun c227 r => cD c227 fun d => dInt .i64 d fun x230 => Zc ((0 : Int) ≤ aU ∧ aU < (aX.length : Int)) (ZaG aX (Int.toNat aU) fun c231 => Zas (c231.drop 0) fun c232 r => cD c232 fun d => dInt .i64 d fun x235 => atR aS x235 [.n] fun x239 => (Zc ((0 : Int) ≤ x235 ∧ x235 < (aP.length : Int)) (ZaG aP (Int.toNat x235) fun c240 => Zas (c240.drop 0) fun c241 r => cD c241 fun d => dInt .i64 d fun x244 => Zc ((0 : Int) ≤ x235 ∧ x235 < (aP.length : Int)) (ZaG aP (Int.toNat x235) fun c245 => Zas (c245.drop 0) fun c246 r => cD c246 fun d => dInt .i64 d fun x249 => let J0 := (if ((IntKind.wrap .i64 (x239 - x244)) : Int) < x230 then (IntKind.wrap .i64 (x239 - x244)) else x230); Zc ((0 : Int) ≤ x235 ∧ x235 < (aP.length : Int)) (Zc (Int.toNat x235 < aP.length) (L2 (IntKind.wrap .i64 (aT - J0), IntKind.wrap .i64 (aU + 1), aP.modify (Int.toNat x235) fun c => Zq c 0 [.d (.int .i64 (IntKind.wrap .i64 (x249 + J0)))]))))))))) else (L0 (aT, aQ, aS, aP))
noncomputable def Yr.m1 {β : Type} (k : Nat) (aO : Int) (aL aN aW : LD) (aM : Int) (aY : LC) (L0 : (Int × LD × LD × LC) → Option β) (K : LC → Option β) (L1 : (Int × LC) → Option β) (v : Int × LC) (F : (LD → LD → Int → LC → LC → (Int × Int × LC) → Option β)) : Option β :=
 match v with
 | (aV, bB) => bif (decide ((aV : Int) < aM)) then (atR aW aV [.n] fun x191 => (bif (decide ((x191 : Int) > 0)) then (Zc ((0 : Int) ≤ aV ∧ aV < (aY.length : Int)) (ZaG aY (Int.toNat aV) fun c192 => Zas (c192.drop 0) fun c193 r194 => cD c193 fun d195 => dInt .i64 d195 fun x196 => atR aN aV [.n] fun x200 => (bif (decide ((x196 : Int) < x200)) then (Zc (bB.length + ([[.d (.int .i64 aV)]] : LC).length ≤ ZN) (L1 (IntKind.wrap .i64 (aV + 1), bB ++ ([[.d (.int .i64 aV)]] : LC)))) else (L1 (IntKind.wrap .i64 (aV + 1), bB))))) else (L1 (IntKind.wrap .i64 (aV + 1), bB)))) else (bif (((bB.length : Int) : Int) == 0) then (K aY) else (Yq.f k aO aL (C.immRows bB) (fun y201 => F aL aN (y201.length : Int) bB y201 (aO, 0, aY))))
noncomputable def Yr.l1 {β : Type} (k : Nat) (aO : Int) (aL aN aW : LD) (aM : Int) (aY : LC) (L0 : (Int × LD × LD × LC) → Option β) (K : LC → Option β) (L1 : (Int × LC) → Option β) (v : Int × LC) : Option β := Yr.m1 k aO aL aN aW aM aY L0 K L1 v (fun aQ aS aK aX bA => Zo (Yr.l2 k aQ aS aK aX bA L0 K) k)
noncomputable def Yr.m0 {β : Type} (k : Nat) (K : LC → Option β) (L0 : (Int × LD × LD × LC) → Option β) (v : Int × LD × LD × LC) (F : (Int → LD → LD → LD → Int → LC → (Int × LC) → Option β)) : Option β :=
 match v with
 | (aD, aE, aF, aG) => bif (decide ((aD : Int) > 0)) then (F aD aE aF aE (aE.length : Int) aG (0, ([] : LC))) else (K aG)
noncomputable def Yr.l0 {β : Type} (k : Nat) (K : LC → Option β) (L0 : (Int × LD × LD × LC) → Option β) (v : Int × LD × LD × LC) : Option β := Yr.m0 k K L0 v (fun aO aL aN aW aM aY => Zo (Yr.l1 k aO aL aN aW aM aY L0 K) k)
noncomputable def Yr.m {β : Type} (k : Nat) (a0 : Int) (a1 a2 : LD) (K : LC → Option β) (F : ((Int × LD × LD × LC) → Option β)) : Option β :=
 YaA.f k a0 a1 a2 (fun y1 => bif (!y1) then (K ([] : LC)) else (Zc ((0 : Int) ≤ (a1.length : Int) ∧ (a1.length : Int) ≤ (ZN : Int) ∧ (a1.length : Int) ≤ (a1.length : Int) ∧ (a1.length : Int) ≤ (a1.length : Int)) (F (a0, a1, a2, List.replicate (Int.toNat (a1.length : Int)) ([.d (.int .i64 0)] : List C)))))
noncomputable def Yr.g {β : Type} (k : Nat) (a0 : Int) (a1 a2 : LD) (K : LC → Option β) : Option β := Yr.m k a0 a1 a2 K (Zo (Yr.l0 k K) k)
noncomputable def Yr.t (k : Nat) (a0 : Int) (a1 a2 : LD) : Option (LC) := Yr.g k a0 a1 a2 (fun z0 => some z0)
noncomputable def Yr.f {β : Type} (k : Nat) (a0 : Int) (a1 a2 : LD) (K : LC → Option β) : Option β := bd1 (Yr.t k a0 a1 a2) K
noncomputable def Yr.e (k : Nat) : Zk := ent [.d .n, .d .l, .d .l] [1] [.o] [77] false (Yr.t k)
noncomputable def Yr.p (k : Nat) : Pro := ⟨Try.prog, [(181, YaA.e k), (182, Yq.e k)], Zn [(4, kp [0, 1, 2, 7]), (7, kp [0, 1, 2, 7, 8, 25, 26, 27]), (14, kp [1, 2, 7, 8, 56, 57, 58] [(0, .dat false)])] false [], k⟩
noncomputable def Yr.d (k : Nat) (a0 : Int) (a1 a2 : LD) : Ex → St → Option (LC) := (Yr.p k).fin Try.f116 [.d (.int .i64 a0), .d (.sl a1), .d (.sl a2)] [1] [.o]
noncomputable def Yr.s0 (v : Int × LD × LD × LC) : St :=
 match v with
 | (aD, aE, aF, aG) => ZX 90 [(0, .d false (.int .i64 aD)), (1, .d false (.sl aE)), (2, .d false (.sl aF)), (7, .row 0)] [.row none true 77 aG]
noncomputable def Yr.c0 (k : Nat) (a0 : Int) (a1 a2 : LD) : Ex → St → Option (LC) := (Yr.p k).ct (Zt Try.f116) [1, 1, 1, 0, 0] (Yr.d k a0 a1 a2)
noncomputable def Yr.r0 (k : Nat) (a0 : Int) (a1 a2 : LD) (n : Nat) (v : Int × LD × LD × LC) : Option (LC) := (Yr.p k).lp (Zt Try.f116) 4 [1, 1, 1, 0, 0] (Yr.d k a0 a1 a2) n (Yr.s0 v)
noncomputable def Yr.s1 (aO : Int) (aL aN aW : LD) (aM : Int) (aY : LC) (v : Int × LC) : St :=
 match v with
 | (aV, bB) => ZX 90 [(0, .d false (.int .i64 aO)), (1, .d false (.sl aL)), (2, .d false (.sl aN)), (7, .row 0), (8, .row 1), (25, .d false (.sl aW)), (26, .d true (.int .i64 aM)), (27, .d true (.int .i64 aV))] [.row none true 77 aY, .row none true 77 bB]
noncomputable def Yr.r1 (k : Nat) (a0 : Int) (a1 a2 : LD) (aO : Int) (aL aN aW : LD) (aM : Int) (aY : LC) (L0 : St → Option (LC)) (n : Nat) (v : Int × LC) : Option (LC) := (Yr.p k).lp (codeAt [1, 1, 1, 0, 0, 0] (Zt Try.f116)) 7 [1, 0, 1, 0, 1, 0] (backK ((Yr.p k).h.H 4) L0 (Yr.c0 k a0 a1 a2)) n (Yr.s1 aO aL aN aW aM aY v)
noncomputable def Yr.s2 (aQ aS : LD) (aK : Int) (aX bA : LC) (v : Int × Int × LC) : St :=
 match v with
 | (aT, aU, aP) => ZX 90 [(0, .d false (.int .i64 aT)), (1, .d false (.sl aQ)), (2, .d false (.sl aS)), (7, .row 0), (8, .row 1), (56, .row 2), (57, .d true (.int .i64 aK)), (58, .d true (.int .i64 aU))] [.row none true 77 aP, .row none true 77 aX, .row none true 77 bA]
noncomputable def Yr.r2 (k : Nat) (a0 : Int) (a1 a2 aQ aS : LD) (aK : Int) (aX bA : LC) (L0 : St → Option (LC)) (n : Nat) (v : Int × Int × LC) : Option (LC) := (Yr.p k).lp (codeAt [1, 1, 1, 0, 0, 0] (Zt Try.f116)) 14 [1, 0, 1, 1, 1, 1, 0] (backK ((Yr.p k).h.H 4) L0 (Yr.c0 k a0 a1 a2)) n (Yr.s2 aQ aS aK aX bA v)
theorem Yr.l2_eq (k : Nat) (a0 : Int) (a1 a2 aQ aS : LD) (aK : Int) (aX bA : LC) (L0 : St → Option (LC)) : ∀ n v, Yr.r2 k a0 a1 a2 aQ aS aK aX bA L0 n v = Zo (Yr.l2 k aQ aS aK aX bA (fun v => L0 (Yr.s0 v)) (fun z0 => some z0)) n v :=
 Zm (Yr.s2 aQ aS aK aX bA) _ fun L2 v => by obtain ⟨aT, aU, aP⟩ := v; kernel_rfl
theorem Yr.l1_eq (k : Nat) (a0 : Int) (a1 a2 : LD) (aO : Int) (aL aN aW : LD) (aM : Int) (aY : LC) (L0 : St → Option (LC)) : ∀ n v, Yr.r1 k a0 a1 a2 aO aL aN aW aM aY L0 n v = Zo (Yr.l1 k aO aL aN aW aM aY (fun v => L0 (Yr.s0 v)) (fun z0 => some z0)) n v :=
 Zm (Yr.s1 aO aL aN aW aM aY) _ fun L1 v => by obtain ⟨aV, bB⟩ := v; exact Eq.trans (b := Yr.m1 k aO aL aN aW aM aY (fun v => L0 (Yr.s0 v)) (fun z0 => some z0) (fun v => L1 (Yr.s1 aO aL aN aW aM aY v)) (aV, bB) (fun aQ aS aK aX bA => Yr.r2 k a0 a1 a2 aQ aS aK aX bA L0 k)) (by kernel_rfl) (congrArg (Yr.m1 k aO aL aN aW aM aY (fun v => L0 (Yr.s0 v)) (fun z0 => some z0) (fun v => L1 (Yr.s1 aO aL aN aW aM aY v)) (aV, bB)) (funext fun aQ => funext fun aS => funext fun aK => funext fun aX => funext fun bA => funext fun v => Yr.l2_eq k a0 a1 a2 aQ aS aK aX bA L0 k v))
theorem Yr.l0_eq (k : Nat) (a0 : Int) (a1 a2 : LD) : ∀ n v, Yr.r0 k a0 a1 a2 n v = Zo (Yr.l0 k (fun z0 => some z0)) n v :=
 Zm (Yr.s0) _ fun L0 v => by obtain ⟨aD, aE, aF, aG⟩ := v; exact Eq.trans (b := Yr.m0 k (fun z0 => some z0) (fun v => L0 (Yr.s0 v)) (aD, aE, aF, aG) (fun aO aL aN aW aM aY => Yr.r1 k a0 a1 a2 aO aL aN aW aM aY L0 k)) (by kernel_rfl) (congrArg (Yr.m0 k (fun z0 => some z0) (fun v => L0 (Yr.s0 v)) (aD, aE, aF, aG)) (funext fun aO => funext fun aL => funext fun aN => funext fun aW => funext fun aM => funext fun aY => funext fun v => Yr.l1_eq k a0 a1 a2 aO aL aN aW aM aY L0 k v))
theorem Yr.ok (k : Nat) : Za Try.prog 116 (Yr.e k) := Zh (Yr.p k) mix tyok Try.func116 ⟨YaA.ok k, Yq.ok k⟩ (by kernel_rfl) (fun a0 a1 a2 => Eq.trans (b := Yr.m k a0 a1 a2 (fun z0 => some z0) (Yr.r0 k a0 a1 a2 k)) (by kernel_rfl) (congrArg (Yr.m k a0 a1 a2 (fun z0 => some z0)) (funext fun v => Yr.l0_eq k a0 a1 a2 k v) :))
noncomputable def YV.l0 {β : Type} (k : Nat) (aD aE : LD) (aF aI : Int) (aJ aR aZ : LD) (K : LC → Option β) (L0 : (Int × LC) → Option β) (v : Int × LC) : Option β :=
 match v with
 | (aG, bE) => bif (decide ((aG : Int) < aF)) then (atR aE aG [.s, .l, .l, .n] fun x254 x257 x260 x263 => (Yae.f k aI aJ aR aZ x254 x257 x260 x263 (fun y264 => bif y264 then (YU.f k aI aJ aR aZ x254 (fun y265 => Zc (bE.length + ([[.d (.int .i64 y265)]] : LC).length ≤ ZN) (L0 (IntKind.wrap .i64 (aG + 1), bE ++ ([[.d (.int .i64 y265)]] : LC))))) else (Zc (bE.length + ([[.d (.int .i64 0)]] : LC).length ≤ ZN) (L0 (IntKind.wrap .i64 (aG + 1), bE ++ ([[.d (.int .i64 0)]] : LC))))))) else (Yr.f k aI (C.immRows bE) aD (fun y266 => K y266))
noncomputable def YV.m {β : Type} (k : Nat) (aB : Int) (aC aA aH a1 a2 : LD) (K : LC → Option β) (F : (LD → LD → Int → Int → LD → LD → LD → (Int × LC) → Option β)) : Option β :=
 Yas.f k aB aC aA aH a1 a2 (fun y1 => bif (!y1) then (K ([] : LC)) else (F a2 a1 (a1.length : Int) aB aC aA aH (0, ([] : LC))))
noncomputable def YV.g {β : Type} (k : Nat) (aB : Int) (aC aA aH a1 a2 : LD) (K : LC → Option β) : Option β :=
 Yas.f k aB aC aA aH a1 a2 (fun y1 => bif (!y1) then (K ([] : LC)) else (Zo (YV.l0 k a2 a1 (a1.length : Int) aB aC aA aH K) k (0, ([] : LC))))
noncomputable def YV.t (k : Nat) (aB : Int) (aC aA aH a1 a2 : LD) : Option (LC) := YV.g k aB aC aA aH a1 a2 (fun z0 => some z0)
noncomputable def YV.f {β : Type} (k : Nat) (aB : Int) (aC aA aH a1 a2 : LD) (K : LC → Option β) : Option β := bd1 (YV.t k aB aC aA aH a1 a2) K
noncomputable def YV.e (k : Nat) : Zk := ent [.agg [.n, .l, .l, .l], .d .l, .d .l] [1] [.o] [77] false (YV.t k)
noncomputable def YV.p (k : Nat) : Pro := ⟨Try.prog, [(114, Yas.e k), (25, Yae.e k), (41, YU.e k), (116, Yr.e k)], Zn [(5, kp [2, 3, 7, 17, 18, 19])] false [], k⟩
noncomputable def YV.d (k : Nat) (aB : Int) (aC aA aH a1 a2 : LD) : Ex → St → Option (LC) := (YV.p k).fin Try.f40 [.agg [.int .i64 aB, .sl aC, .sl aA, .sl aH], .d (.sl a1), .d (.sl a2)] [1] [.o]
noncomputable def YV.s0 (aD aE : LD) (aF aI : Int) (aJ aR aZ : LD) (v : Int × LC) : St :=
 match v with
 | (aG, bE) => ZX 40 [(2, .d false (.sl aD)), (3, .bp 0 0), (7, .row 1), (17, .d false (.sl aE)), (18, .d true (.int .i64 aF)), (19, .d true (.int .i64 aG))] [.box none 44 [.d false (.int .i64 aI), .d false (.sl aJ), .d false (.sl aR), .d false (.sl aZ)], .row none true 77 bE]
noncomputable def YV.r0 (k : Nat) (aB : Int) (aC aA aH a1 a2 aD aE : LD) (aF aI : Int) (aJ aR aZ : LD) (n : Nat) (v : Int × LC) : Option (LC) := (YV.p k).lp (Zt Try.f40) 5 [1, 1, 1, 0, 1, 0] (YV.d k aB aC aA aH a1 a2) n (YV.s0 aD aE aF aI aJ aR aZ v)
theorem YV.l0_eq (k : Nat) (aB : Int) (aC aA aH a1 a2 aD aE : LD) (aF aI : Int) (aJ aR aZ : LD) : ∀ n v, YV.r0 k aB aC aA aH a1 a2 aD aE aF aI aJ aR aZ n v = Zo (YV.l0 k aD aE aF aI aJ aR aZ (fun z0 => some z0)) n v :=
 Zm (YV.s0 aD aE aF aI aJ aR aZ) _ fun L0 v => by obtain ⟨aG, bE⟩ := v; kernel_rfl
theorem YV.ok (k : Nat) : Za Try.prog 40 (YV.e k) := Zh (YV.p k) mix tyok Try.func40 ⟨Yas.ok k, Yae.ok k, YU.ok k, Yr.ok k⟩ (by kernel_rfl) (fun aB aC aA aH a1 a2 => Eq.trans (b := YV.m k aB aC aA aH a1 a2 (fun z0 => some z0) (fun aD aE aF aI aJ aR aZ => YV.r0 k aB aC aA aH a1 a2 aD aE aF aI aJ aR aZ k)) (by kernel_rfl) (congrArg (YV.m k aB aC aA aH a1 a2 (fun z0 => some z0)) (funext fun aD => funext fun aE => funext fun aF => funext fun aI => funext fun aJ => funext fun aR => funext fun aZ => funext fun v => YV.l0_eq k aB aC aA aH a1 a2 aD aE aF aI aJ aR aZ k v) :))
noncomputable def Yy.l2 {β : Type} (k : Nat) (aT aQ : LD) (aS aK aU : Int) (aX bL : LC) (L1 : (LD × LD × Int × Int × LC × LC) → Option β) (K : LC → Option β) (L2 : (Int × LC) → Option β) (v : Int × LC) : Option β :=
 match v with
 | (aP, bA) => bif (decide ((aP : Int) < aU)) then (Zc ((0 : Int) ≤ aP ∧ aP < (bL.length : Int)) (ZaG bL (Int.toNat aP) fun c396 => Zas (c396.drop 0) fun c397 r => cD c397 fun d => dInt .i64 d fun x400 => Zc ((0 : Int) ≤ aP ∧ aP < (bA.length : Int)) (ZaG bA (Int.toNat aP) fun c401 => Zas (c401.drop 0) fun c402 r => cD c402 fun d => dInt .i64 d fun x405 => Zc ((0 : Int) ≤ aP ∧ aP < (bA.length : Int)) (Zc (Int.toNat aP < bA.length) (L2 (IntKind.wrap .i64 (aP + 1), bA.modify (Int.toNat aP) fun c => Zq c 0 [.d (.int .i64 (IntKind.wrap .i64 (x405 - x400)))])))))) else (Zc (aX.length + ([[.own bL]] : LC).length ≤ ZN) (L1 (aT, aQ, aS, IntKind.wrap .i64 (aK + 1), aX ++ ([[.own bL]] : LC), bA)))
noncomputable def Yy.m1 {β : Type} (k : Nat) (K : LC → Option β) (L1 : (LD × LD × Int × Int × LC × LC) → Option β) (v : LD × LD × Int × Int × LC × LC) (F : (LD → LD → Int → Int → Int → LC → LC → (Int × LC) → Option β)) : Option β :=
 match v with
 | (aO, aL, aN, aW, aM, aV) => bif (decide ((aW : Int) < aN)) then (atR aL aW [.n, .l, .l, .l] fun x374 x377 x380 x383 => (Yas.f k x374 x377 x380 x383 aO (C.immRows aV) (fun y384 => bif (!y384) then (K ([] : LC)) else (YV.f k x374 x377 x380 x383 aO (C.immRows aV) (fun y385 => F aO aL aN aW (y385.length : Int) aM y385 (0, aV)))))) else (K aM)
noncomputable def Yy.l1 {β : Type} (k : Nat) (K : LC → Option β) (L1 : (LD × LD × Int × Int × LC × LC) → Option β) (v : LD × LD × Int × Int × LC × LC) : Option β := Yy.m1 k K L1 v (fun aT aQ aS aK aU aX bL => Zo (Yy.l2 k aT aQ aS aK aU aX bL L1 K) k)
noncomputable def Yy.m0 {β : Type} (k : Nat) (aD aE aF : LD) (aG : Int) (aJ : LC) (K : LC → Option β) (L0 : (Int × LC) → Option β) (v : Int × LC) (F : ((LD × LD × Int × Int × LC × LC) → Option β)) : Option β :=
 match v with
 | (aI, aR) => bif (decide ((aI : Int) < aG)) then (atR aF aI [.s, .l, .l, .n] fun x326 x329 x332 x335 => (Zc (aR.length + ([[.d (.int .i64 x335)]] : LC).length ≤ ZN) (L0 (IntKind.wrap .i64 (aI + 1), aR ++ ([[.d (.int .i64 x335)]] : LC))))) else (bif (decide (((aD.length : Int) : Int) > 40)) then (K ([] : LC)) else (F (aE, aD, (aD.length : Int), 0, aJ, aR)))
noncomputable def Yy.l0 {β : Type} (k : Nat) (aD aE aF : LD) (aG : Int) (aJ : LC) (K : LC → Option β) (L0 : (Int × LC) → Option β) (v : Int × LC) : Option β := Yy.m0 k aD aE aF aG aJ K L0 v (Zo (Yy.l1 k K) k)
noncomputable def Yy.m {β : Type} (k : Nat) (a0 a1 : LD) (K : LC → Option β) (F : (LD → LD → LD → Int → LC → (Int × LC) → Option β)) : Option β :=
 F a0 a1 a1 (a1.length : Int) ([] : LC) (0, ([] : LC))
noncomputable def Yy.g {β : Type} (k : Nat) (a0 a1 : LD) (K : LC → Option β) : Option β :=
 Zo (Yy.l0 k a0 a1 a1 (a1.length : Int) ([] : LC) K) k (0, ([] : LC))
noncomputable def Yy.t (k : Nat) (a0 a1 : LD) : Option (LC) := Yy.g k a0 a1 (fun z0 => some z0)
noncomputable def Yy.f {β : Type} (k : Nat) (a0 a1 : LD) (K : LC → Option β) : Option β := bd1 (Yy.t k a0 a1) K
noncomputable def Yy.e (k : Nat) : Zk := ent [.d .l, .d .l] [1] [.o] [75] false (Yy.t k)
noncomputable def Yy.p (k : Nat) : Pro := ⟨Try.prog, [(114, Yas.e k), (40, YV.e k)], Zn [(4, kp [0, 1, 5, 6, 16, 17, 18]), (11, kp [1, 5, 6, 31, 32, 33]), (17, kp [1, 5, 6, 11, 31, 32, 33, 46, 47, 48])] false [], k⟩
noncomputable def Yy.d (k : Nat) (a0 a1 : LD) : Ex → St → Option (LC) := (Yy.p k).fin Try.f38 [.d (.sl a0), .d (.sl a1)] [1] [.o]
noncomputable def Yy.s0 (aD aE aF : LD) (aG : Int) (aJ : LC) (v : Int × LC) : St :=
 match v with
 | (aI, aR) => ZX 67 [(0, .d false (.sl aD)), (1, .d false (.sl aE)), (5, .row 0), (6, .row 1), (16, .d false (.sl aF)), (17, .d true (.int .i64 aG)), (18, .d true (.int .i64 aI))] [.row none true 75 aJ, .row none true 77 aR]
noncomputable def Yy.r0 (k : Nat) (a0 a1 aD aE aF : LD) (aG : Int) (aJ : LC) (n : Nat) (v : Int × LC) : Option (LC) := (Yy.p k).lp (Zt Try.f38) 4 [1, 1, 1, 0, 1, 0] (Yy.d k a0 a1) n (Yy.s0 aD aE aF aG aJ v)
noncomputable def Yy.s1 (v : LD × LD × Int × Int × LC × LC) : St :=
 match v with
 | (aO, aL, aN, aW, aM, aV) => ZX 67 [(1, .d false (.sl aO)), (5, .row 0), (6, .row 1), (31, .d false (.sl aL)), (32, .d true (.int .i64 aN)), (33, .d true (.int .i64 aW))] [.row none true 75 aM, .row none true 77 aV]
noncomputable def Yy.c1 (k : Nat) (a0 a1 : LD) : Ex → St → Option (LC) := (Yy.p k).ct (Zt Try.f38) [1, 1, 1, 1, 1, 0, 1, 0] (Yy.d k a0 a1)
noncomputable def Yy.r1 (k : Nat) (a0 a1 : LD) (n : Nat) (v : LD × LD × Int × Int × LC × LC) : Option (LC) := (Yy.p k).lp (Zt Try.f38) 11 [1, 1, 1, 1, 1, 0, 1, 0] (Yy.d k a0 a1) n (Yy.s1 v)
noncomputable def Yy.s2 (aT aQ : LD) (aS aK aU : Int) (aX bL : LC) (v : Int × LC) : St :=
 match v with
 | (aP, bA) => ZX 67 [(1, .d false (.sl aT)), (5, .row 0), (6, .row 1), (11, .row 2), (31, .d false (.sl aQ)), (32, .d true (.int .i64 aS)), (33, .d true (.int .i64 aK)), (46, .row 2), (47, .d true (.int .i64 aU)), (48, .d true (.int .i64 aP))] [.row none true 75 aX, .row none true 77 bA, .row none true 77 bL]
noncomputable def Yy.r2 (k : Nat) (a0 a1 aT aQ : LD) (aS aK aU : Int) (aX bL : LC) (L1 : St → Option (LC)) (n : Nat) (v : Int × LC) : Option (LC) := (Yy.p k).lp (codeAt [1, 1, 1, 1, 1, 0, 1, 0, 0] (Zt Try.f38)) 17 [1, 1, 0, 0, 1, 1, 1, 0, 1, 0] (backK ((Yy.p k).h.H 11) L1 (Yy.c1 k a0 a1)) n (Yy.s2 aT aQ aS aK aU aX bL v)
theorem Yy.l2_eq (k : Nat) (a0 a1 aT aQ : LD) (aS aK aU : Int) (aX bL : LC) (L1 : St → Option (LC)) : ∀ n v, Yy.r2 k a0 a1 aT aQ aS aK aU aX bL L1 n v = Zo (Yy.l2 k aT aQ aS aK aU aX bL (fun v => L1 (Yy.s1 v)) (fun z0 => some z0)) n v :=
 Zm (Yy.s2 aT aQ aS aK aU aX bL) _ fun L2 v => by obtain ⟨aP, bA⟩ := v; kernel_rfl
theorem Yy.l1_eq (k : Nat) (a0 a1 : LD) : ∀ n v, Yy.r1 k a0 a1 n v = Zo (Yy.l1 k (fun z0 => some z0)) n v :=
 Zm (Yy.s1) _ fun L1 v => by obtain ⟨aO, aL, aN, aW, aM, aV⟩ := v; exact Eq.trans (b := Yy.m1 k (fun z0 => some z0) (fun v => L1 (Yy.s1 v)) (aO, aL, aN, aW, aM, aV) (fun aT aQ aS aK aU aX bL => Yy.r2 k a0 a1 aT aQ aS aK aU aX bL L1 k)) (by kernel_rfl) (congrArg (Yy.m1 k (fun z0 => some z0) (fun v => L1 (Yy.s1 v)) (aO, aL, aN, aW, aM, aV)) (funext fun aT => funext fun aQ => funext fun aS => funext fun aK => funext fun aU => funext fun aX => funext fun bL => funext fun v => Yy.l2_eq k a0 a1 aT aQ aS aK aU aX bL L1 k v))
theorem Yy.l0_eq (k : Nat) (a0 a1 aD aE aF : LD) (aG : Int) (aJ : LC) : ∀ n v, Yy.r0 k a0 a1 aD aE aF aG aJ n v = Zo (Yy.l0 k aD aE aF aG aJ (fun z0 => some z0)) n v :=
 Zm (Yy.s0 aD aE aF aG aJ) _ fun L0 v => by obtain ⟨aI, aR⟩ := v; exact Eq.trans (b := Yy.m0 k aD aE aF aG aJ (fun z0 => some z0) (fun v => L0 (Yy.s0 aD aE aF aG aJ v)) (aI, aR) (Yy.r1 k a0 a1 k)) (by kernel_rfl) (congrArg (Yy.m0 k aD aE aF aG aJ (fun z0 => some z0) (fun v => L0 (Yy.s0 aD aE aF aG aJ v)) (aI, aR)) (funext fun v => Yy.l1_eq k a0 a1 k v))
theorem Yy.ok (k : Nat) : Za Try.prog 38 (Yy.e k) := Zh (Yy.p k) mix tyok Try.func38 ⟨Yas.ok k, YV.ok k⟩ (by kernel_rfl) (fun a0 a1 => Eq.trans (b := Yy.m k a0 a1 (fun z0 => some z0) (fun aD aE aF aG aJ => Yy.r0 k a0 a1 aD aE aF aG aJ k)) (by kernel_rfl) (congrArg (Yy.m k a0 a1 (fun z0 => some z0)) (funext fun aD => funext fun aE => funext fun aF => funext fun aG => funext fun aJ => funext fun v => Yy.l0_eq k a0 a1 aD aE aF aG aJ k v) :))
noncomputable def Y2.l0 {β : Type} (k : Nat) (aD aF : Int) (aG : BA) (aI : LD) (K : Bool → Option β) (L0 : Int → Option β) (v : Int) : Option β :=
 match v with
 | aE => bif (decide ((aE : Int) < aD)) then (atR aI aE [.s] fun x20 => (Yn.f k x20 (fun y21 => bif (!y21) then (K false) else (bif (decide ((aE : Int) > 0)) then (atR aI (IntKind.wrap .i64 (aE - 1)) [.s] fun x25 => (atR aI aE [.s] fun x29 => (bif (!(ZbO x25 x29)) then (K false) else (L0 (IntKind.wrap .i64 (aE + 1)))))) else (L0 (IntKind.wrap .i64 (aE + 1))))))) else (Yn.f k aG (fun y30 => bif (!y30) then (K false) else (let J0 := (bif ((aF : Int) == 4) then (bif ((aF : Int) == 4) then (K ((aD : Int) == 0)) else (K false)) else (bif ((aF : Int) == 5) then (K ((aD : Int) == 0)) else (K false))); bif ((aF : Int) == 1) then (bif ((aF : Int) == 1) then (K ((aD : Int) == 1)) else (bif ((aF : Int) == 3) then (Y4.f k aD 1 6 (fun y31 => K y31)) else J0)) else (bif ((aF : Int) == 2) then (K ((aD : Int) == 1)) else (bif ((aF : Int) == 3) then (Y4.f k aD 1 6 (fun y32 => K y32)) else J0)))))
noncomputable def Y2.m {β : Type} (k : Nat) (aB : Int) (aC : BA) (aA : LD) (K : Bool → Option β) (F : (Int → Int → BA → LD → Int → Option β)) : Option β :=
 F (aA.length : Int) aB aC aA (0)
noncomputable def Y2.g {β : Type} (k : Nat) (aB : Int) (aC : BA) (aA : LD) (K : Bool → Option β) : Option β :=
 Zo (Y2.l0 k (aA.length : Int) aB aC aA K) k (0)
noncomputable def Y2.t (k : Nat) (aB : Int) (aC : BA) (aA : LD) : Option (Bool) := Y2.g k aB aC aA (fun z0 => some z0)
noncomputable def Y2.f {β : Type} (k : Nat) (aB : Int) (aC : BA) (aA : LD) (K : Bool → Option β) : Option β := bd1 (Y2.t k aB aC aA) K
noncomputable def Y2.e (k : Nat) : Zk := ent [.agg [.n, .s, .l]] [1] [.b] [4] false (Y2.t k)
noncomputable def Y2.p (k : Nat) : Pro := ⟨Try.prog, [(76, Yn.e k), (79, Y4.e k)], Zn [(3, kp [1, 3, 4])] false [], k⟩
noncomputable def Y2.d (k : Nat) (aB : Int) (aC : BA) (aA : LD) : Ex → St → Option (Bool) := (Y2.p k).fin Try.f162 [.agg [.int .i64 aB, .str aC, .sl aA]] [1] [.b]
noncomputable def Y2.s0 (aD aF : Int) (aG : BA) (aI : LD) (v : Int) : St :=
 match v with
 | aE => ZX 58 [(1, .bp 0 0), (3, .d true (.int .i64 aD)), (4, .d true (.int .i64 aE))] [.box none 135 [.d false (.int .i64 aF), .d false (.str aG), .d false (.sl aI)]]
noncomputable def Y2.r0 (k : Nat) (aB : Int) (aC : BA) (aA : LD) (aD aF : Int) (aG : BA) (aI : LD) (n : Nat) (v : Int) : Option (Bool) := (Y2.p k).lp (Zt Try.f162) 3 [1, 1, 0, 1, 0] (Y2.d k aB aC aA) n (Y2.s0 aD aF aG aI v)
theorem Y2.l0_eq (k : Nat) (aB : Int) (aC : BA) (aA : LD) (aD aF : Int) (aG : BA) (aI : LD) : ∀ n v, Y2.r0 k aB aC aA aD aF aG aI n v = Zo (Y2.l0 k aD aF aG aI (fun z0 => some z0)) n v :=
 Zm (Y2.s0 aD aF aG aI) _ fun L0 v => by kernel_rfl
theorem Y2.ok (k : Nat) : Za Try.prog 162 (Y2.e k) := Zh (Y2.p k) mix tyok Try.func162 ⟨Yn.ok k, Y4.ok k⟩ (by kernel_rfl) (fun aB aC aA => Eq.trans (b := Y2.m k aB aC aA (fun z0 => some z0) (fun aD aF aG aI => Y2.r0 k aB aC aA aD aF aG aI k)) (by kernel_rfl) (congrArg (Y2.m k aB aC aA (fun z0 => some z0)) (funext fun aD => funext fun aF => funext fun aG => funext fun aI => funext fun v => Y2.l0_eq k aB aC aA aD aF aG aI k v) :))
noncomputable def Ys.l0 {β : Type} (k : Nat) (aD : LD) (K : Bool → Option β) (L0 : Int → Option β) (v : Int) : Option β :=
 match v with
 | aE => bif (decide ((aE : Int) < (aD.length : Int))) then (atR aD aE [.n, .s, .l] fun x37 x40 x43 => (Y2.f k x37 x40 x43 (fun y44 => bif (!y44) then (K false) else (L0 (IntKind.wrap .i64 (aE + 1)))))) else (K (decide (((aD.length : Int) : Int) ≤ 8)))
noncomputable def Ys.m {β : Type} (k : Nat) (a0 : LD) (K : Bool → Option β) (F : (LD → Int → Option β)) : Option β :=
 F a0 (0)
noncomputable def Ys.g {β : Type} (k : Nat) (a0 : LD) (K : Bool → Option β) : Option β :=
 Zo (Ys.l0 k a0 K) k (0)
noncomputable def Ys.t (k : Nat) (a0 : LD) : Option (Bool) := Ys.g k a0 (fun z0 => some z0)
noncomputable def Ys.f {β : Type} (k : Nat) (a0 : LD) (K : Bool → Option β) : Option β := bd1 (Ys.t k a0) K
noncomputable def Ys.e (k : Nat) : Zk := ent [.d .l] [1] [.b] [4] false (Ys.t k)
noncomputable def Ys.p (k : Nat) : Pro := ⟨Try.prog, [(162, Y2.e k)], Zn [(2, kp [0, 3])] false [], k⟩
noncomputable def Ys.d (k : Nat) (a0 : LD) : Ex → St → Option (Bool) := (Ys.p k).fin Try.f91 [.d (.sl a0)] [1] [.b]
noncomputable def Ys.s0 (aD : LD) (v : Int) : St :=
 match v with
 | aE => ZX 19 [(0, .d false (.sl aD)), (3, .d true (.int .i64 aE))] []
noncomputable def Ys.r0 (k : Nat) (a0 aD : LD) (n : Nat) (v : Int) : Option (Bool) := (Ys.p k).lp (Zt Try.f91) 2 [1, 0, 1, 0] (Ys.d k a0) n (Ys.s0 aD v)
theorem Ys.l0_eq (k : Nat) (a0 aD : LD) : ∀ n v, Ys.r0 k a0 aD n v = Zo (Ys.l0 k aD (fun z0 => some z0)) n v :=
 Zm (Ys.s0 aD) _ fun L0 v => by kernel_rfl
theorem Ys.ok (k : Nat) : Za Try.prog 91 (Ys.e k) := Zh (Ys.p k) mix tyok Try.func91 (Y2.ok k) (by kernel_rfl) (fun a0 => Eq.trans (b := Ys.m k a0 (fun z0 => some z0) (fun aD => Ys.r0 k a0 aD k)) (by kernel_rfl) (congrArg (Ys.m k a0 (fun z0 => some z0)) (funext fun aD => funext fun v => Ys.l0_eq k a0 aD k v) :))
noncomputable def YQ.l0 {β : Type} (k : Nat) (aD : LD) (aE : Int) (K : Bool → Option β) (L0 : Int → Option β) (v : Int) : Option β :=
 match v with
 | aF => bif (decide ((aF : Int) < (aD.length : Int))) then (atR aD aF [.s] fun x17 => (Yn.f k x17 (fun y18 => bif (!y18) then (K false) else (bif (decide ((aF : Int) > 0)) then (atR aD (IntKind.wrap .i64 (aF - 1)) [.s] fun x22 => (atR aD aF [.s] fun x26 => (bif (!(ZbO x22 x26)) then (K false) else (L0 (IntKind.wrap .i64 (aF + 1)))))) else (L0 (IntKind.wrap .i64 (aF + 1))))))) else (K (decide (((aD.length : Int) : Int) ≤ aE)))
noncomputable def YQ.m {β : Type} (k : Nat) (a0 : LD) (a1 : Int) (K : Bool → Option β) (F : (LD → Int → Int → Option β)) : Option β :=
 F a0 a1 (0)
noncomputable def YQ.g {β : Type} (k : Nat) (a0 : LD) (a1 : Int) (K : Bool → Option β) : Option β :=
 Zo (YQ.l0 k a0 a1 K) k (0)
noncomputable def YQ.t (k : Nat) (a0 : LD) (a1 : Int) : Option (Bool) := YQ.g k a0 a1 (fun z0 => some z0)
noncomputable def YQ.f {β : Type} (k : Nat) (a0 : LD) (a1 : Int) (K : Bool → Option β) : Option β := bd1 (YQ.t k a0 a1) K
noncomputable def YQ.e (k : Nat) : Zk := ent [.d .l, .d .n] [1] [.b] [4] false (YQ.t k)
noncomputable def YQ.p (k : Nat) : Pro := ⟨Try.prog, [(76, Yn.e k)], Zn [(2, kp [0, 1, 5])] false [], k⟩
noncomputable def YQ.d (k : Nat) (a0 : LD) (a1 : Int) : Ex → St → Option (Bool) := (YQ.p k).fin Try.f92 [.d (.sl a0), .d (.int .i64 a1)] [1] [.b]
noncomputable def YQ.s0 (aD : LD) (aE v : Int) : St :=
 match v with
 | aF => ZX 38 [(0, .d false (.sl aD)), (1, .d false (.int .i64 aE)), (5, .d true (.int .i64 aF))] []
noncomputable def YQ.r0 (k : Nat) (a0 : LD) (a1 : Int) (aD : LD) (aE : Int) (n : Nat) (v : Int) : Option (Bool) := (YQ.p k).lp (Zt Try.f92) 2 [1, 0, 1, 0] (YQ.d k a0 a1) n (YQ.s0 aD aE v)
theorem YQ.l0_eq (k : Nat) (a0 : LD) (a1 : Int) (aD : LD) (aE : Int) : ∀ n v, YQ.r0 k a0 a1 aD aE n v = Zo (YQ.l0 k aD aE (fun z0 => some z0)) n v :=
 Zm (YQ.s0 aD aE) _ fun L0 v => by kernel_rfl
theorem YQ.ok (k : Nat) : Za Try.prog 92 (YQ.e k) := Zh (YQ.p k) mix tyok Try.func92 (Yn.ok k) (by kernel_rfl) (fun a0 a1 => Eq.trans (b := YQ.m k a0 a1 (fun z0 => some z0) (fun aD aE => YQ.r0 k a0 a1 aD aE k)) (by kernel_rfl) (congrArg (YQ.m k a0 a1 (fun z0 => some z0)) (funext fun aD => funext fun aE => funext fun v => YQ.l0_eq k a0 a1 aD aE k v) :))
noncomputable def YC.l0 {β : Type} (k : Nat) (aE : Int) (aF aG aI : LD) (K : Bool → Option β) (L0 : Int → Option β) (v : Int) : Option β :=
 match v with
 | aD => bif (decide ((aD : Int) < (aI.length : Int))) then (atR aI aD [.s, .n] fun x50 x53 => (Yn.f k x50 (fun y54 => bif (!y54) then (K false) else (atR aI aD [.s, .n] fun x58 x61 => (Y4.f k x61 0 1000 (fun y62 => bif (!y62) then (K false) else (bif (decide ((aD : Int) > 0)) then (atR aI (IntKind.wrap .i64 (aD - 1)) [.s, .n] fun x66 x69 => (atR aI aD [.s, .n] fun x73 x76 => (bif (!(ZbO x66 x73)) then (K false) else (L0 (IntKind.wrap .i64 (aD + 1)))))) else (L0 (IntKind.wrap .i64 (aD + 1)))))))))) else (Y4.f k aE 0 10000 (fun y77 => bif y77 then (Ys.f k aF (fun y78 => bif y78 then (YQ.f k aG 8 (fun y79 => bif y79 then (K (decide (((aI.length : Int) : Int) ≤ 12))) else (K false))) else (K false))) else (K false)))
noncomputable def YC.m {β : Type} (k : Nat) (aB : Int) (aC aA aH : LD) (K : Bool → Option β) (F : (Int → LD → LD → LD → Int → Option β)) : Option β :=
 F aB aC aA aH (0)
noncomputable def YC.g {β : Type} (k : Nat) (aB : Int) (aC aA aH : LD) (K : Bool → Option β) : Option β :=
 Zo (YC.l0 k aB aC aA aH K) k (0)
noncomputable def YC.t (k : Nat) (aB : Int) (aC aA aH : LD) : Option (Bool) := YC.g k aB aC aA aH (fun z0 => some z0)
noncomputable def YC.f {β : Type} (k : Nat) (aB : Int) (aC aA aH : LD) (K : Bool → Option β) : Option β := bd1 (YC.t k aB aC aA aH) K
noncomputable def YC.e (k : Nat) : Zk := ent [.agg [.n, .l, .l, .l]] [1] [.b] [4] false (YC.t k)
noncomputable def YC.p (k : Nat) : Pro := ⟨Try.prog, [(76, Yn.e k), (79, Y4.e k), (91, Ys.e k), (92, YQ.e k)], Zn [(2, kp [1, 3])] false [], k⟩
noncomputable def YC.d (k : Nat) (aB : Int) (aC aA aH : LD) : Ex → St → Option (Bool) := (YC.p k).fin Try.f28 [.agg [.int .i64 aB, .sl aC, .sl aA, .sl aH]] [1] [.b]
noncomputable def YC.s0 (aE : Int) (aF aG aI : LD) (v : Int) : St :=
 match v with
 | aD => ZX 68 [(1, .bp 0 0), (3, .d true (.int .i64 aD))] [.box none 44 [.d false (.int .i64 aE), .d false (.sl aF), .d false (.sl aG), .d false (.sl aI)]]
noncomputable def YC.r0 (k : Nat) (aB : Int) (aC aA aH : LD) (aE : Int) (aF aG aI : LD) (n : Nat) (v : Int) : Option (Bool) := (YC.p k).lp (Zt Try.f28) 2 [1, 0, 1, 0] (YC.d k aB aC aA aH) n (YC.s0 aE aF aG aI v)
theorem YC.l0_eq (k : Nat) (aB : Int) (aC aA aH : LD) (aE : Int) (aF aG aI : LD) : ∀ n v, YC.r0 k aB aC aA aH aE aF aG aI n v = Zo (YC.l0 k aE aF aG aI (fun z0 => some z0)) n v :=
 Zm (YC.s0 aE aF aG aI) _ fun L0 v => by kernel_rfl
theorem YC.ok (k : Nat) : Za Try.prog 28 (YC.e k) := Zh (YC.p k) mix tyok Try.func28 ⟨Yn.ok k, Y4.ok k, Ys.ok k, YQ.ok k⟩ (by kernel_rfl) (fun aB aC aA aH => Eq.trans (b := YC.m k aB aC aA aH (fun z0 => some z0) (fun aE aF aG aI => YC.r0 k aB aC aA aH aE aF aG aI k)) (by kernel_rfl) (congrArg (YC.m k aB aC aA aH (fun z0 => some z0)) (funext fun aE => funext fun aF => funext fun aG => funext fun aI => funext fun v => YC.l0_eq k aB aC aA aH aE aF aG aI k v) :))
noncomputable def YR.g {β : Type} (k : Nat) (aB : BA) (aC aA : LD) (aH : Int) (K : Bool → Option β) : Option β :=
 Yn.f k aB (fun y1 => bif y1 then (YA.f k aC (fun y2 => bif y2 then (YQ.f k aA 4 (fun y3 => bif y3 then (Y4.f k aH 0 10000 (fun y4 => K y4)) else (K false))) else (K false))) else (K false))
noncomputable def YR.t (k : Nat) (aB : BA) (aC aA : LD) (aH : Int) : Option (Bool) := YR.g k aB aC aA aH (fun z0 => some z0)
noncomputable def YR.f {β : Type} (k : Nat) (aB : BA) (aC aA : LD) (aH : Int) (K : Bool → Option β) : Option β := bd1 (YR.t k aB aC aA aH) K
noncomputable def YR.e (k : Nat) : Zk := ent [.agg [.s, .l, .l, .n]] [1] [.b] [4] false (YR.t k)
noncomputable def YR.p (k : Nat) : Pro := ⟨Try.prog, [(76, Yn.e k), (94, YA.e k), (92, YQ.e k), (79, Y4.e k)], Zn [] false [], k⟩
theorem YR.ok (k : Nat) : Za Try.prog 30 (YR.e k) := Zh (YR.p k) mix tyok Try.func30 ⟨Yn.ok k, YA.ok k, YQ.ok k, Y4.ok k⟩ (by kernel_rfl) (fun aB aC aA aH => by show _ = _; kernel_rfl)
noncomputable def YP.l0 {β : Type} (k : Nat) (aD : LD) (aE : BA) (K : Bool → Option β) (L0 : Int → Option β) (v : Int) : Option β :=
 match v with
 | aF => bif (decide ((aF : Int) < (aD.length : Int))) then (atR aD aF [.s] fun x8 => (bif (Zae x8 aE) then (K true) else (L0 (IntKind.wrap .i64 (aF + 1))))) else (K false)
noncomputable def YP.m {β : Type} (k : Nat) (a0 : LD) (a1 : BA) (K : Bool → Option β) (F : (LD → BA → Int → Option β)) : Option β :=
 F a0 a1 (0)
noncomputable def YP.g {β : Type} (k : Nat) (a0 : LD) (a1 : BA) (K : Bool → Option β) : Option β :=
 Zo (YP.l0 k a0 a1 K) k (0)
noncomputable def YP.t (k : Nat) (a0 : LD) (a1 : BA) : Option (Bool) := YP.g k a0 a1 (fun z0 => some z0)
noncomputable def YP.f {β : Type} (k : Nat) (a0 : LD) (a1 : BA) (K : Bool → Option β) : Option β := bd1 (YP.t k a0 a1) K
noncomputable def YP.e (k : Nat) : Zk := ent [.d .l, .d .s] [1] [.b] [4] false (YP.t k)
noncomputable def YP.p (k : Nat) : Pro := ⟨Try.prog, [], Zn [(2, kp [0, 1, 5])] false [], k⟩
noncomputable def YP.d (k : Nat) (a0 : LD) (a1 : BA) : Ex → St → Option (Bool) := (YP.p k).fin Try.f78 [.d (.sl a0), .d (.str a1)] [1] [.b]
noncomputable def YP.s0 (aD : LD) (aE : BA) (v : Int) : St :=
 match v with
 | aF => ZX 18 [(0, .d false (.sl aD)), (1, .d false (.str aE)), (5, .d true (.int .i64 aF))] []
noncomputable def YP.r0 (k : Nat) (a0 : LD) (a1 : BA) (aD : LD) (aE : BA) (n : Nat) (v : Int) : Option (Bool) := (YP.p k).lp (Zt Try.f78) 2 [1, 0, 1, 0] (YP.d k a0 a1) n (YP.s0 aD aE v)
theorem YP.l0_eq (k : Nat) (a0 : LD) (a1 : BA) (aD : LD) (aE : BA) : ∀ n v, YP.r0 k a0 a1 aD aE n v = Zo (YP.l0 k aD aE (fun z0 => some z0)) n v :=
 Zm (YP.s0 aD aE) _ fun L0 v => by kernel_rfl
theorem YP.ok (k : Nat) : Za Try.prog 78 (YP.e k) := Zh (YP.p k) mix tyok Try.func78 trivial (by kernel_rfl) (fun a0 a1 => Eq.trans (b := YP.m k a0 a1 (fun z0 => some z0) (fun aD aE => YP.r0 k a0 a1 aD aE k)) (by kernel_rfl) (congrArg (YP.m k a0 a1 (fun z0 => some z0)) (funext fun aD => funext fun aE => funext fun v => YP.l0_eq k a0 a1 aD aE k v) :))
noncomputable def Yal.g {β : Type} (k : Nat) (aB : Int) (aC : BA) (aA : LD) (a1 : BA) (a2 : Bool) (K : Bool → Option β) : Option β :=
 bif ((aB : Int) == 1) then (bif ((aB : Int) == 1) then (bif a2 then (YP.f k aA a1 (fun y9 => K y9)) else (K false)) else (bif ((aB : Int) == 2) then (bif (!a2) then (K true) else (YP.f k aA a1 (fun y10 => K (!y10)))) else (bif ((aB : Int) == 4) then (K a2) else (K (!a2))))) else (bif ((aB : Int) == 3) then (bif a2 then (YP.f k aA a1 (fun y11 => K y11)) else (K false)) else (bif ((aB : Int) == 2) then (bif (!a2) then (K true) else (YP.f k aA a1 (fun y12 => K (!y12)))) else (bif ((aB : Int) == 4) then (K a2) else (K (!a2)))))
noncomputable def Yal.t (k : Nat) (aB : Int) (aC : BA) (aA : LD) (a1 : BA) (a2 : Bool) : Option (Bool) := Yal.g k aB aC aA a1 a2 (fun z0 => some z0)
noncomputable def Yal.f {β : Type} (k : Nat) (aB : Int) (aC : BA) (aA : LD) (a1 : BA) (a2 : Bool) (K : Bool → Option β) : Option β := bd1 (Yal.t k aB aC aA a1 a2) K
noncomputable def Yal.e (k : Nat) : Zk := ent [.agg [.n, .s, .l], .d .s, .d .b] [1] [.b] [4] false (Yal.t k)
noncomputable def Yal.p (k : Nat) : Pro := ⟨Try.prog, [(78, YP.e k)], Zn [] false [], k⟩
theorem Yal.ok (k : Nat) : Za Try.prog 159 (Yal.e k) := Zh (Yal.p k) mix tyok Try.func159 (YP.ok k) (by kernel_rfl) (fun aB aC aA a1 a2 => by show _ = _; kernel_rfl)
noncomputable def YN.l0 {β : Type} (k : Nat) (aD aE : LD) (K : Bool → Option β) (L0 : Int → Option β) (v : Int) : Option β :=
 match v with
 | aF => bif (decide ((aF : Int) < (aD.length : Int))) then (atR aD aF [.n, .s, .l] fun x29 x32 x35 => (Yx.f k aE x32 (fun y36 y37 => atR aD aF [.n, .s, .l] fun x41 x44 x47 => (Yal.f k x41 x44 x47 y36 y37 (fun y48 => bif (!y48) then (K false) else (L0 (IntKind.wrap .i64 (aF + 1)))))))) else (K true)
noncomputable def YN.m {β : Type} (k : Nat) (a0 a1 : LD) (K : Bool → Option β) (F : (LD → LD → Int → Option β)) : Option β :=
 Ys.f k a0 (fun y1 => bif (!y1) then (K false) else (YA.f k a1 (fun y2 => bif (!y2) then (K false) else (F a0 a1 (0)))))
noncomputable def YN.g {β : Type} (k : Nat) (a0 a1 : LD) (K : Bool → Option β) : Option β :=
 Ys.f k a0 (fun y1 => bif (!y1) then (K false) else (YA.f k a1 (fun y2 => bif (!y2) then (K false) else (Zo (YN.l0 k a0 a1 K) k (0)))))
noncomputable def YN.t (k : Nat) (a0 a1 : LD) : Option (Bool) := YN.g k a0 a1 (fun z0 => some z0)
noncomputable def YN.f {β : Type} (k : Nat) (a0 a1 : LD) (K : Bool → Option β) : Option β := bd1 (YN.t k a0 a1) K
noncomputable def YN.e (k : Nat) : Zk := ent [.d .l, .d .l] [1] [.b] [4] false (YN.t k)
noncomputable def YN.p (k : Nat) : Pro := ⟨Try.prog, [(91, Ys.e k), (94, YA.e k), (158, Yx.e k), (159, Yal.e k)], Zn [(4, kp [0, 1, 5])] false [], k⟩
noncomputable def YN.d (k : Nat) (a0 a1 : LD) : Ex → St → Option (Bool) := (YN.p k).fin Try.f87 [.d (.sl a0), .d (.sl a1)] [1] [.b]
noncomputable def YN.s0 (aD aE : LD) (v : Int) : St :=
 match v with
 | aF => ZX 40 [(0, .d false (.sl aD)), (1, .d false (.sl aE)), (5, .d true (.int .i64 aF))] []
noncomputable def YN.r0 (k : Nat) (a0 a1 aD aE : LD) (n : Nat) (v : Int) : Option (Bool) := (YN.p k).lp (Zt Try.f87) 4 [1, 1, 0, 1, 0] (YN.d k a0 a1) n (YN.s0 aD aE v)
theorem YN.l0_eq (k : Nat) (a0 a1 aD aE : LD) : ∀ n v, YN.r0 k a0 a1 aD aE n v = Zo (YN.l0 k aD aE (fun z0 => some z0)) n v :=
 Zm (YN.s0 aD aE) _ fun L0 v => by kernel_rfl
theorem YN.ok (k : Nat) : Za Try.prog 87 (YN.e k) := Zh (YN.p k) mix tyok Try.func87 ⟨Ys.ok k, YA.ok k, Yx.ok k, Yal.ok k⟩ (by kernel_rfl) (fun a0 a1 => Eq.trans (b := YN.m k a0 a1 (fun z0 => some z0) (fun aD aE => YN.r0 k a0 a1 aD aE k)) (by kernel_rfl) (congrArg (YN.m k a0 a1 (fun z0 => some z0)) (funext fun aD => funext fun aE => funext fun v => YN.l0_eq k a0 a1 aD aE k v) :))
noncomputable def YJ.l0 {β : Type} (k : Nat) (aE : Int) (aF aG aI : LD) (aJ : BA) (aR aZ : LD) (bE : Int) (K : Bool → Option β) (L0 : Int → Option β) (v : Int) : Option β :=
 match v with
 | aD => bif (decide ((aD : Int) < (aZ.length : Int))) then (atR aZ aD [.s] fun x58 => (YP.f k aG x58 (fun y59 => bif (!y59) then (K false) else (L0 (IntKind.wrap .i64 (aD + 1)))))) else (K true)
noncomputable def YJ.m {β : Type} (k : Nat) (aB : Int) (aC aA aH : LD) (bF : BA) (bD bC : LD) (bG : Int) (K : Bool → Option β) (F : (Int → LD → LD → LD → BA → LD → LD → Int → Int → Option β)) : Option β :=
 YC.f k aB aC aA aH (fun y1 => bif (!y1) then (K false) else (YR.f k bF bD bC bG (fun y2 => bif (!y2) then (K false) else (YN.f k aC bD (fun y49 => bif (!y49) then (K false) else (F aB aC aA aH bF bD bC bG (0)))))))
noncomputable def YJ.g {β : Type} (k : Nat) (aB : Int) (aC aA aH : LD) (bF : BA) (bD bC : LD) (bG : Int) (K : Bool → Option β) : Option β := YJ.m k aB aC aA aH bF bD bC bG K (fun aE aF aG aI aJ aR aZ bE => Zo (YJ.l0 k aE aF aG aI aJ aR aZ bE K) k)
noncomputable def YJ.t (k : Nat) (aB : Int) (aC aA aH : LD) (bF : BA) (bD bC : LD) (bG : Int) : Option (Bool) := YJ.g k aB aC aA aH bF bD bC bG (fun z0 => some z0)
noncomputable def YJ.f {β : Type} (k : Nat) (aB : Int) (aC aA aH : LD) (bF : BA) (bD bC : LD) (bG : Int) (K : Bool → Option β) : Option β := bd1 (YJ.t k aB aC aA aH bF bD bC bG) K
noncomputable def YJ.e (k : Nat) : Zk := ent [.agg [.n, .l, .l, .l], .agg [.s, .l, .l, .n]] [1] [.b] [4] false (YJ.t k)
noncomputable def YJ.p (k : Nat) : Pro := ⟨Try.prog, [(28, YC.e k), (30, YR.e k), (87, YN.e k), (78, YP.e k)], Zn [(4, kp [2, 3, 5])] false [], k⟩
noncomputable def YJ.d (k : Nat) (aB : Int) (aC aA aH : LD) (bF : BA) (bD bC : LD) (bG : Int) : Ex → St → Option (Bool) := (YJ.p k).fin Try.f26 [.agg [.int .i64 aB, .sl aC, .sl aA, .sl aH], .agg [.str bF, .sl bD, .sl bC, .int .i64 bG]] [1] [.b]
noncomputable def YJ.s0 (aE : Int) (aF aG aI : LD) (aJ : BA) (aR aZ : LD) (bE v : Int) : St :=
 match v with
 | aD => ZX 38 [(2, .bp 0 0), (3, .bp 1 0), (5, .d true (.int .i64 aD))] [.box none 44 [.d false (.int .i64 aE), .d false (.sl aF), .d false (.sl aG), .d false (.sl aI)], .box none 47 [.d false (.str aJ), .d false (.sl aR), .d false (.sl aZ), .d false (.int .i64 bE)]]
noncomputable def YJ.r0 (k : Nat) (aB : Int) (aC aA aH : LD) (bF : BA) (bD bC : LD) (bG aE : Int) (aF aG aI : LD) (aJ : BA) (aR aZ : LD) (bE : Int) (n : Nat) (v : Int) : Option (Bool) := (YJ.p k).lp (Zt Try.f26) 4 [1, 1, 0, 1, 0] (YJ.d k aB aC aA aH bF bD bC bG) n (YJ.s0 aE aF aG aI aJ aR aZ bE v)
theorem YJ.l0_eq (k : Nat) (aB : Int) (aC aA aH : LD) (bF : BA) (bD bC : LD) (bG aE : Int) (aF aG aI : LD) (aJ : BA) (aR aZ : LD) (bE : Int) : ∀ n v, YJ.r0 k aB aC aA aH bF bD bC bG aE aF aG aI aJ aR aZ bE n v = Zo (YJ.l0 k aE aF aG aI aJ aR aZ bE (fun z0 => some z0)) n v :=
 Zm (YJ.s0 aE aF aG aI aJ aR aZ bE) _ fun L0 v => by kernel_rfl
theorem YJ.ok (k : Nat) : Za Try.prog 26 (YJ.e k) := Zh (YJ.p k) mix tyok Try.func26 ⟨YC.ok k, YR.ok k, YN.ok k, YP.ok k⟩ (by kernel_rfl) (fun aB aC aA aH bF bD bC bG => Eq.trans (b := YJ.m k aB aC aA aH bF bD bC bG (fun z0 => some z0) (fun aE aF aG aI aJ aR aZ bE => YJ.r0 k aB aC aA aH bF bD bC bG aE aF aG aI aJ aR aZ bE k)) (by kernel_rfl) (congrArg (YJ.m k aB aC aA aH bF bD bC bG (fun z0 => some z0)) (funext fun aE => funext fun aF => funext fun aG => funext fun aI => funext fun aJ => funext fun aR => funext fun aZ => funext fun bE => funext fun v => YJ.l0_eq k aB aC aA aH bF bD bC bG aE aF aG aI aJ aR aZ bE k v) :))
noncomputable def YE.l0 {β : Type} (k : Nat) (aD : BA) (aF : Int) (aG aI aJ : LD) (K L0 : Int → Option β) (v : Int) : Option β :=
 match v with
 | aE => bif (decide ((aE : Int) < (aJ.length : Int))) then (atR aJ aE [.s, .n] fun x18 x21 => (bif (Zae x18 aD) then (atR aJ aE [.s, .n] fun x25 x28 => (K x28)) else (L0 (IntKind.wrap .i64 (aE + 1))))) else (K 1)
noncomputable def YE.m {β : Type} (k : Nat) (aB : Int) (aC aA aH : LD) (a1 : BA) (K : Int → Option β) (F : (BA → Int → LD → LD → LD → Int → Option β)) : Option β :=
 F a1 aB aC aA aH (0)
noncomputable def YE.g {β : Type} (k : Nat) (aB : Int) (aC aA aH : LD) (a1 : BA) (K : Int → Option β) : Option β :=
 Zo (YE.l0 k a1 aB aC aA aH K) k (0)
noncomputable def YE.t (k : Nat) (aB : Int) (aC aA aH : LD) (a1 : BA) : Option (Int) := YE.g k aB aC aA aH a1 (fun z0 => some z0)
noncomputable def YE.f {β : Type} (k : Nat) (aB : Int) (aC aA aH : LD) (a1 : BA) (K : Int → Option β) : Option β := bd1 (YE.t k aB aC aA aH a1) K
noncomputable def YE.e (k : Nat) : Zk := ent [.agg [.n, .l, .l, .l], .d .s] [1] [.n] [3] false (YE.t k)
noncomputable def YE.p (k : Nat) : Pro := ⟨Try.prog, [], Zn [(2, kp [1, 2, 5])] false [], k⟩
noncomputable def YE.d (k : Nat) (aB : Int) (aC aA aH : LD) (a1 : BA) : Ex → St → Option (Int) := (YE.p k).fin Try.f179 [.agg [.int .i64 aB, .sl aC, .sl aA, .sl aH], .d (.str a1)] [1] [.n]
noncomputable def YE.s0 (aD : BA) (aF : Int) (aG aI aJ : LD) (v : Int) : St :=
 match v with
 | aE => ZX 27 [(1, .d false (.str aD)), (2, .bp 0 0), (5, .d true (.int .i64 aE))] [.box none 44 [.d false (.int .i64 aF), .d false (.sl aG), .d false (.sl aI), .d false (.sl aJ)]]
noncomputable def YE.r0 (k : Nat) (aB : Int) (aC aA aH : LD) (a1 aD : BA) (aF : Int) (aG aI aJ : LD) (n : Nat) (v : Int) : Option (Int) := (YE.p k).lp (Zt Try.f179) 2 [1, 0, 1, 0] (YE.d k aB aC aA aH a1) n (YE.s0 aD aF aG aI aJ v)
theorem YE.l0_eq (k : Nat) (aB : Int) (aC aA aH : LD) (a1 aD : BA) (aF : Int) (aG aI aJ : LD) : ∀ n v, YE.r0 k aB aC aA aH a1 aD aF aG aI aJ n v = Zo (YE.l0 k aD aF aG aI aJ (fun z0 => some z0)) n v :=
 Zm (YE.s0 aD aF aG aI aJ) _ fun L0 v => by kernel_rfl
theorem YE.ok (k : Nat) : Za Try.prog 179 (YE.e k) := Zh (YE.p k) mix tyok Try.func179 trivial (by kernel_rfl) (fun aB aC aA aH a1 => Eq.trans (b := YE.m k aB aC aA aH a1 (fun z0 => some z0) (fun aD aF aG aI aJ => YE.r0 k aB aC aA aH a1 aD aF aG aI aJ k)) (by kernel_rfl) (congrArg (YE.m k aB aC aA aH a1 (fun z0 => some z0)) (funext fun aD => funext fun aF => funext fun aG => funext fun aI => funext fun aJ => funext fun v => YE.l0_eq k aB aC aA aH a1 aD aF aG aI aJ k v) :))
noncomputable def Y8.l0 {β : Type} (k : Nat) (aD aE : LD) (K : Bool → Option β) (L0 : Int → Option β) (v : Int) : Option β :=
 match v with
 | aF => bif (decide ((aF : Int) < (aD.length : Int))) then (atR aD aF [.n] fun x15 => (Y4.f k x15 0 1000 (fun y16 => bif (!y16) then (K false) else (atR aE aF [.n] fun x20 => (Y4.f k x20 0 10000 (fun y21 => bif (!y21) then (K false) else (L0 (IntKind.wrap .i64 (aF + 1))))))))) else (K true)
noncomputable def Y8.m {β : Type} (k : Nat) (a0 : Int) (a1 a2 : LD) (K : Bool → Option β) (F : (LD → LD → Int → Option β)) : Option β :=
 Y4.f k a0 0 10000 (fun y1 => bif (!y1) then (K false) else (bif (decide (((a1.length : Int) : Int) > 64)) then (K false) else (bif (((a1.length : Int) : Int) != (a2.length : Int)) then (K false) else (F a1 a2 (0)))))
noncomputable def Y8.g {β : Type} (k : Nat) (a0 : Int) (a1 a2 : LD) (K : Bool → Option β) : Option β :=
 Y4.f k a0 0 10000 (fun y1 => bif (!y1) then (K false) else (bif (decide (((a1.length : Int) : Int) > 64)) then (K false) else (bif (((a1.length : Int) : Int) != (a2.length : Int)) then (K false) else (Zo (Y8.l0 k a1 a2 K) k (0)))))
noncomputable def Y8.t (k : Nat) (a0 : Int) (a1 a2 : LD) : Option (Bool) := Y8.g k a0 a1 a2 (fun z0 => some z0)
noncomputable def Y8.f {β : Type} (k : Nat) (a0 : Int) (a1 a2 : LD) (K : Bool → Option β) : Option β := bd1 (Y8.t k a0 a1 a2) K
noncomputable def Y8.e (k : Nat) : Zk := ent [.d .n, .d .l, .d .l] [1] [.b] [4] false (Y8.t k)
noncomputable def Y8.p (k : Nat) : Pro := ⟨Try.prog, [(79, Y4.e k)], Zn [(4, kp [1, 2, 7])] false [], k⟩
noncomputable def Y8.d (k : Nat) (a0 : Int) (a1 a2 : LD) : Ex → St → Option (Bool) := (Y8.p k).fin Try.f220 [.d (.int .i64 a0), .d (.sl a1), .d (.sl a2)] [1] [.b]
noncomputable def Y8.s0 (aD aE : LD) (v : Int) : St :=
 match v with
 | aF => ZX 43 [(1, .d false (.sl aD)), (2, .d false (.sl aE)), (7, .d true (.int .i64 aF))] []
noncomputable def Y8.r0 (k : Nat) (a0 : Int) (a1 a2 aD aE : LD) (n : Nat) (v : Int) : Option (Bool) := (Y8.p k).lp (Zt Try.f220) 4 [1, 1, 0, 1, 0] (Y8.d k a0 a1 a2) n (Y8.s0 aD aE v)
theorem Y8.l0_eq (k : Nat) (a0 : Int) (a1 a2 aD aE : LD) : ∀ n v, Y8.r0 k a0 a1 a2 aD aE n v = Zo (Y8.l0 k aD aE (fun z0 => some z0)) n v :=
 Zm (Y8.s0 aD aE) _ fun L0 v => by kernel_rfl
theorem Y8.ok (k : Nat) : Za Try.prog 220 (Y8.e k) := Zh (Y8.p k) mix tyok Try.func220 (Y4.ok k) (by kernel_rfl) (fun a0 a1 a2 => Eq.trans (b := Y8.m k a0 a1 a2 (fun z0 => some z0) (fun aD aE => Y8.r0 k a0 a1 a2 aD aE k)) (by kernel_rfl) (congrArg (Y8.m k a0 a1 a2 (fun z0 => some z0)) (funext fun aD => funext fun aE => funext fun v => Y8.l0_eq k a0 a1 a2 aD aE k v) :))
noncomputable def Yt.l2 {β : Type} (k : Nat) (aT aQ : LD) (aS : Int) (aP aX : LC) (L1 : (LD × LD × Int × LC × LC) → Option β) (K : LC → Option β) (L2 : (Int × Int) → Option β) (v : Int × Int) : Option β :=
 match v with
 | (aK, aU) => bif (decide ((aU : Int) < (aT.length : Int))) then (atR aQ aU [.b] fun x171 => (bif x171 then (bif (decide ((aK : Int) < 0)) then (L2 (aU, IntKind.wrap .i64 (aU + 1))) else (Zc ((0 : Int) ≤ aU ∧ aU < (aX.length : Int)) (ZaG aX (Int.toNat aU) fun c172 => Zas (c172.drop 0) fun c173 r => cD c173 fun d => dInt .i64 d fun x176 => Zc ((0 : Int) ≤ aK ∧ aK < (aX.length : Int)) (ZaG aX (Int.toNat aK) fun c177 => Zas (c177.drop 0) fun c178 r => cD c178 fun d => dInt .i64 d fun x181 => bif (decide ((x176 : Int) > x181)) then (L2 (aU, IntKind.wrap .i64 (aU + 1))) else (L2 (aK, IntKind.wrap .i64 (aU + 1))))))) else (L2 (aK, IntKind.wrap .i64 (aU + 1))))) else (Zc ((0 : Int) ≤ aK ∧ aK < (aP.length : Int)) (ZaG aP (Int.toNat aK) fun c182 => Zas (c182.drop 0) fun c183 r => cD c183 fun d => dInt .i64 d fun x186 => Zc ((0 : Int) ≤ aK ∧ aK < (aP.length : Int)) (Zc (Int.toNat aK < aP.length) (Zc ((0 : Int) ≤ aK ∧ aK < (aX.length : Int)) (Zc (Int.toNat aK < aX.length) (L1 (aT, aQ, IntKind.wrap .i64 (aS - 1), aP.modify (Int.toNat aK) fun c => Zq c 0 [.d (.int .i64 (IntKind.wrap .i64 (x186 + 1)))], aX.modify (Int.toNat aK) fun c => Zq c 0 [.d (.int .i64 (-1))])))))))
noncomputable def Yt.m1 {β : Type} (k : Nat) (K : LC → Option β) (L1 : (LD × LD × Int × LC × LC) → Option β) (v : LD × LD × Int × LC × LC) (F : (LD → LD → Int → LC → LC → (Int × Int) → Option β)) : Option β :=
 match v with
 | (aO, aL, aN, aW, aM) => bif (decide ((aN : Int) > 0)) then (F aO aL aN aW aM ((-1), 0)) else (K aW)
noncomputable def Yt.l1 {β : Type} (k : Nat) (K : LC → Option β) (L1 : (LD × LD × Int × LC × LC) → Option β) (v : LD × LD × Int × LC × LC) : Option β := Yt.m1 k K L1 v (fun aT aQ aS aP aX => Zo (Yt.l2 k aT aQ aS aP aX L1 K) k)
noncomputable def Yt.m0 {β : Type} (k : Nat) (aD : Int) (aE aF : LD) (aG : Int) (K : LC → Option β) (L0 : (Int × Int × LC × LC) → Option β) (v : Int × Int × LC × LC) (F : ((LD × LD × Int × LC × LC) → Option β)) : Option β :=
 match v with
 | (aI, aJ, aR, aZ) => bif (decide ((aJ : Int) < (aE.length : Int))) then (atR aF aJ [.b] fun x97 => (bif x97 then (atR aE aJ [.n] fun x101 => (Zc ((aG : Int) ≠ 0) (Zc ((0 : Int) ≤ aJ ∧ aJ < (aR.length : Int)) (Zc (Int.toNat aJ < aR.length) (atR aE aJ [.n] fun x105 => let J1 := (IntKind.wrap .i64 (Int.tdiv (IntKind.wrap .i64 (aD * x101)) aG)); let J0 := (aR.modify (Int.toNat aJ) fun c => Zq c 0 [.d (.int .i64 J1)]); (Zc ((aG : Int) ≠ 0) (Zc ((0 : Int) ≤ aJ ∧ aJ < (aZ.length : Int)) (Zc (Int.toNat aJ < aZ.length) (Zc ((0 : Int) ≤ aJ ∧ aJ < (J0.length : Int)) (ZaG J0 (Int.toNat aJ) fun c106 => Zas (c106.drop 0) fun c107 r108 => cD c107 fun d109 => dInt .i64 d109 fun x110 => L0 (IntKind.wrap .i64 (aI - x110), IntKind.wrap .i64 (aJ + 1), aR.modify (Int.toNat aJ) fun c => Zq c 0 [.d (.int .i64 J1)], aZ.modify (Int.toNat aJ) fun c => Zq c 0 [.d (.int .i64 (Int.tmod (IntKind.wrap .i64 (aD * x105)) aG))]))))))))))) else (L0 (aI, IntKind.wrap .i64 (aJ + 1), aR, aZ)))) else (F (aE, aF, aI, aR, aZ))
noncomputable def Yt.l0 {β : Type} (k : Nat) (aD : Int) (aE aF : LD) (aG : Int) (K : LC → Option β) (L0 : (Int × Int × LC × LC) → Option β) (v : Int × Int × LC × LC) : Option β := Yt.m0 k aD aE aF aG K L0 v (Zo (Yt.l1 k K) k)
noncomputable def Yt.m {β : Type} (k : Nat) (a0 : Int) (a1 a2 : LD) (a3 : Int) (K : LC → Option β) (F : (Int → LD → LD → Int → (Int × Int × LC × LC) → Option β)) : Option β :=
 let J0 := ((0 : Int) ≤ (a1.length : Int) ∧ (a1.length : Int) ≤ (ZN : Int) ∧ (a1.length : Int) ≤ (a1.length : Int) ∧ (a1.length : Int) ≤ (a1.length : Int)); Zc J0 (Zc J0 (F a0 a1 a2 a3 (a0, 0, List.replicate (Int.toNat (a1.length : Int)) ([.d (.int .i64 0)] : List C), List.replicate (Int.toNat (a1.length : Int)) ([.d (.int .i64 0)] : List C))))
noncomputable def Yt.g {β : Type} (k : Nat) (a0 : Int) (a1 a2 : LD) (a3 : Int) (K : LC → Option β) : Option β := Yt.m k a0 a1 a2 a3 K (fun aD aE aF aG => Zo (Yt.l0 k aD aE aF aG K) k)
noncomputable def Yt.t (k : Nat) (a0 : Int) (a1 a2 : LD) (a3 : Int) : Option (LC) := Yt.g k a0 a1 a2 a3 (fun z0 => some z0)
noncomputable def Yt.f {β : Type} (k : Nat) (a0 : Int) (a1 a2 : LD) (a3 : Int) (K : LC → Option β) : Option β := bd1 (Yt.t k a0 a1 a2 a3) K
noncomputable def Yt.e (k : Nat) : Zk := ent [.d .n, .d .l, .d .l, .d .n] [1] [.o] [77] false (Yt.t k)
noncomputable def Yt.p (k : Nat) : Pro := ⟨Try.prog, [], Zn [(5, kp [0, 1, 2, 3, 9, 10, 12] [(11, .dat false)]), (11, kp [1, 2, 9, 10] [(11, .dat false)]), (15, kp [1, 2, 9, 10, 11, 13, 14])] false [], k⟩
noncomputable def Yt.d (k : Nat) (a0 : Int) (a1 a2 : LD) (a3 : Int) : Ex → St → Option (LC) := (Yt.p k).fin Try.f221 [.d (.int .i64 a0), .d (.sl a1), .d (.sl a2), .d (.int .i64 a3)] [1] [.o]
noncomputable def Yt.s0 (aD : Int) (aE aF : LD) (aG : Int) (v : Int × Int × LC × LC) : St :=
 match v with
 | (aI, aJ, aR, aZ) => ZX 102 [(0, .d false (.int .i64 aD)), (1, .d false (.sl aE)), (2, .d false (.sl aF)), (3, .d false (.int .i64 aG)), (9, .row 0), (10, .row 1), (11, .d false (.int .i64 aI)), (12, .d true (.int .i64 aJ))] [.row none true 77 aR, .row none true 77 aZ]
noncomputable def Yt.r0 (k : Nat) (a0 : Int) (a1 a2 : LD) (a3 aD : Int) (aE aF : LD) (aG : Int) (n : Nat) (v : Int × Int × LC × LC) : Option (LC) := (Yt.p k).lp (Zt Try.f221) 5 [1, 1, 1, 1, 0, 1, 0] (Yt.d k a0 a1 a2 a3) n (Yt.s0 aD aE aF aG v)
noncomputable def Yt.s1 (v : LD × LD × Int × LC × LC) : St :=
 match v with
 | (aO, aL, aN, aW, aM) => ZX 102 [(1, .d false (.sl aO)), (2, .d false (.sl aL)), (9, .row 0), (10, .row 1), (11, .d false (.int .i64 aN))] [.row none true 77 aW, .row none true 77 aM]
noncomputable def Yt.c1 (k : Nat) (a0 : Int) (a1 a2 : LD) (a3 : Int) : Ex → St → Option (LC) := (Yt.p k).ct (Zt Try.f221) [1, 1, 1, 1, 1, 0, 0] (Yt.d k a0 a1 a2 a3)
noncomputable def Yt.r1 (k : Nat) (a0 : Int) (a1 a2 : LD) (a3 : Int) (n : Nat) (v : LD × LD × Int × LC × LC) : Option (LC) := (Yt.p k).lp (Zt Try.f221) 11 [1, 1, 1, 1, 1, 0, 0] (Yt.d k a0 a1 a2 a3) n (Yt.s1 v)
noncomputable def Yt.s2 (aT aQ : LD) (aS : Int) (aP aX : LC) (v : Int × Int) : St :=
 match v with
 | (aK, aU) => ZX 102 [(1, .d false (.sl aT)), (2, .d false (.sl aQ)), (9, .row 0), (10, .row 1), (11, .d false (.int .i64 aS)), (13, .d true (.int .i64 aK)), (14, .d true (.int .i64 aU))] [.row none true 77 aP, .row none true 77 aX]
noncomputable def Yt.r2 (k : Nat) (a0 : Int) (a1 a2 : LD) (a3 : Int) (aT aQ : LD) (aS : Int) (aP aX : LC) (L1 : St → Option (LC)) (n : Nat) (v : Int × Int) : Option (LC) := (Yt.p k).lp (codeAt [1, 1, 1, 1, 1, 0, 0, 0] (Zt Try.f221)) 15 [1, 0, 0, 1, 0, 1, 0] (backK ((Yt.p k).h.H 11) L1 (Yt.c1 k a0 a1 a2 a3)) n (Yt.s2 aT aQ aS aP aX v)
theorem Yt.l2_eq (k : Nat) (a0 : Int) (a1 a2 : LD) (a3 : Int) (aT aQ : LD) (aS : Int) (aP aX : LC) (L1 : St → Option (LC)) : ∀ n v, Yt.r2 k a0 a1 a2 a3 aT aQ aS aP aX L1 n v = Zo (Yt.l2 k aT aQ aS aP aX (fun v => L1 (Yt.s1 v)) (fun z0 => some z0)) n v :=
 Zm (Yt.s2 aT aQ aS aP aX) _ fun L2 v => by obtain ⟨aK, aU⟩ := v; kernel_rfl
theorem Yt.l1_eq (k : Nat) (a0 : Int) (a1 a2 : LD) (a3 : Int) : ∀ n v, Yt.r1 k a0 a1 a2 a3 n v = Zo (Yt.l1 k (fun z0 => some z0)) n v :=
 Zm (Yt.s1) _ fun L1 v => by obtain ⟨aO, aL, aN, aW, aM⟩ := v; exact Eq.trans (b := Yt.m1 k (fun z0 => some z0) (fun v => L1 (Yt.s1 v)) (aO, aL, aN, aW, aM) (fun aT aQ aS aP aX => Yt.r2 k a0 a1 a2 a3 aT aQ aS aP aX L1 k)) (by kernel_rfl) (congrArg (Yt.m1 k (fun z0 => some z0) (fun v => L1 (Yt.s1 v)) (aO, aL, aN, aW, aM)) (funext fun aT => funext fun aQ => funext fun aS => funext fun aP => funext fun aX => funext fun v => Yt.l2_eq k a0 a1 a2 a3 aT aQ aS aP aX L1 k v))
theorem Yt.l0_eq (k : Nat) (a0 : Int) (a1 a2 : LD) (a3 aD : Int) (aE aF : LD) (aG : Int) : ∀ n v, Yt.r0 k a0 a1 a2 a3 aD aE aF aG n v = Zo (Yt.l0 k aD aE aF aG (fun z0 => some z0)) n v :=
 Zm (Yt.s0 aD aE aF aG) _ fun L0 v => by obtain ⟨aI, aJ, aR, aZ⟩ := v; exact Eq.trans (b := Yt.m0 k aD aE aF aG (fun z0 => some z0) (fun v => L0 (Yt.s0 aD aE aF aG v)) (aI, aJ, aR, aZ) (Yt.r1 k a0 a1 a2 a3 k)) (by kernel_rfl) (congrArg (Yt.m0 k aD aE aF aG (fun z0 => some z0) (fun v => L0 (Yt.s0 aD aE aF aG v)) (aI, aJ, aR, aZ)) (funext fun v => Yt.l1_eq k a0 a1 a2 a3 k v))
theorem Yt.ok (k : Nat) : Za Try.prog 221 (Yt.e k) := Zh (Yt.p k) mix tyok Try.func221 trivial (by kernel_rfl) (fun a0 a1 a2 a3 => Eq.trans (b := Yt.m k a0 a1 a2 a3 (fun z0 => some z0) (fun aD aE aF aG => Yt.r0 k a0 a1 a2 a3 aD aE aF aG k)) (by kernel_rfl) (congrArg (Yt.m k a0 a1 a2 a3 (fun z0 => some z0)) (funext fun aD => funext fun aE => funext fun aF => funext fun aG => funext fun v => Yt.l0_eq k a0 a1 a2 a3 aD aE aF aG k v) :))
noncomputable def Yw.l2 {β : Type} (k : Nat) (aQ aS : LD) (L0 : (Int × LD × LD × LC) → Option β) (K : LC → Option β) (L2 : (Int × Int × LC × LC) → Option β) (v : Int × Int × LC × LC) : Option β :=
 match v with
 | (aT, aK, aU, aP) => bif (decide ((aK : Int) < (aQ.length : Int))) then (Zc ((0 : Int) ≤ aK ∧ aK < (aP.length : Int)) (ZaG aP (Int.toNat aK) fun c501 => Zas (c501.drop 0) fun c502 r => cD c502 fun d => dInt .i64 d fun x505 => atR aS aK [.n] fun x509 => (Zc ((0 : Int) ≤ aK ∧ aK < (aU.length : Int)) (ZaG aU (Int.toNat aK) fun c510 => Zas (c510.drop 0) fun c511 r => cD c511 fun d => dInt .i64 d fun x514 => bif (decide ((x505 : Int) > (IntKind.wrap .i64 (x509 - x514)))) then (atR aS aK [.n] fun x518 => (Zc ((0 : Int) ≤ aK ∧ aK < (aU.length : Int)) (ZaG aU (Int.toNat aK) fun c519 => Zas (c519.drop 0) fun c520 r => cD c520 fun d => dInt .i64 d fun x523 => Zc ((0 : Int) ≤ aK ∧ aK < (aP.length : Int)) (Zc (Int.toNat aK < aP.length) (Zc ((0 : Int) ≤ aK ∧ aK < (aU.length : Int)) (ZaG aU (Int.toNat aK) fun c524 => Zas (c524.drop 0) fun c525 r => cD c525 fun d => dInt .i64 d fun x528 => let J1 := (aP.modify (Int.toNat aK) fun c => Zq c 0 [.d (.int .i64 (IntKind.wrap .i64 (x518 - x523)))]); let J0 := ((0 : Int) ≤ aK ∧ aK < (J1.length : Int)); Zc J0 (ZaG J1 (Int.toNat aK) fun c529 => Zas (c529.drop 0) fun c530 r => cD c530 fun d => dInt .i64 d fun x533 => Zc ((0 : Int) ≤ aK ∧ aK < (aU.length : Int)) (Zc (Int.toNat aK < aU.length) (Zc J0 (ZaG J1 (Int.toNat aK) fun c534 => Zas (c534.drop 0) fun c535 r => cD c535 fun d => dInt .i64 d fun x538 => L2 (IntKind.wrap .i64 (aT - x538), IntKind.wrap .i64 (aK + 1), aU.modify (Int.toNat aK) fun c => Zq c 0 [.d (.int .i64 (IntKind.wrap .i64 (x528 + x533)))], aP.modify (Int.toNat aK) fun c => Zq c 0 [.d (.int .i64 (IntKind.wrap .i64 (x518 - x523)))]))))))))))) else (Zc ((0 : Int) ≤ aK ∧ aK < (aU.length : Int)) (ZaG aU (Int.toNat aK) fun c539 => Zas (c539.drop 0) fun c540 r => cD c540 fun d => dInt .i64 d fun x543 => Zc ((0 : Int) ≤ aK ∧ aK < (aP.length : Int)) (ZaG aP (Int.toNat aK) fun c544 => Zas (c544.drop 0) fun c545 r => cD c545 fun d => dInt .i64 d fun x548 => Zc ((0 : Int) ≤ aK ∧ aK < (aU.length : Int)) (Zc (Int.toNat aK < aU.length) (Zc ((0 : Int) ≤ aK ∧ aK < (aP.length : Int)) (ZaG aP (Int.toNat aK) fun c549 => Zas (c549.drop 0) fun c550 r => cD c550 fun d => dInt .i64 d fun x553 => L2 (IntKind.wrap .i64 (aT - x553), IntKind.wrap .i64 (aK + 1), aU.modify (Int.toNat aK) fun c => Zq c 0 [.d (.int .i64 (IntKind.wrap .i64 (x543 + x548)))], aP))))))))))) else (L0 (aT, aQ, aS, aU))
noncomputable def Yw.m1 {β : Type} (k : Nat) (aO : Int) (aL aN : LD) (aV : LC) (L0 : (Int × LD × LD × LC) → Option β) (K : LC → Option β) (L1 : (Int × Int × LC) → Option β) (v : Int × Int × LC) (F : (LD → LD → (Int × Int × LC × LC) → Option β)) : Option β :=
 match v with
 | (aW, aM, aY) => bif (decide ((aM : Int) < (aL.length : Int))) then (atR aL aM [.n] fun x419 => (bif (decide ((x419 : Int) > 0)) then (Zc ((0 : Int) ≤ aM ∧ aM < (aV.length : Int)) (ZaG aV (Int.toNat aM) fun c420 => Zas (c420.drop 0) fun c421 r422 => cD c421 fun d423 => dInt .i64 d423 fun x424 => atR aN aM [.n] fun x428 => let J0 := (aY.modify (Int.toNat aM) fun c => Zq c 0 [.d (.bool (decide ((x424 : Int) < x428)))]); (Zc ((0 : Int) ≤ aM ∧ aM < (aY.length : Int)) (Zc (Int.toNat aM < aY.length) (Zc ((0 : Int) ≤ aM ∧ aM < (J0.length : Int)) (ZaG J0 (Int.toNat aM) fun c429 => Zas (c429.drop 0) fun c430 r431 => cD c430 fun d432 => dBool d432 fun x433 => bif x433 then (atR aL aM [.n] fun x437 => (L1 (IntKind.wrap .i64 (aW + x437), IntKind.wrap .i64 (aM + 1), aY.modify (Int.toNat aM) fun c => Zq c 0 [.d (.bool (decide ((x424 : Int) < x428)))]))) else (L1 (aW, IntKind.wrap .i64 (aM + 1), aY.modify (Int.toNat aM) fun c => Zq c 0 [.d (.bool (decide ((x424 : Int) < x428)))])))))))) else (let J1 := (aY.modify (Int.toNat aM) fun c => Zq c 0 [.d (.bool false)]); Zc ((0 : Int) ≤ aM ∧ aM < (aY.length : Int)) (Zc (Int.toNat aM < aY.length) (Zc ((0 : Int) ≤ aM ∧ aM < (J1.length : Int)) (ZaG J1 (Int.toNat aM) fun c438 => Zas (c438.drop 0) fun c439 r440 => cD c439 fun d441 => dBool d441 fun x442 => bif x442 then (atR aL aM [.n] fun x446 => (L1 (IntKind.wrap .i64 (aW + x446), IntKind.wrap .i64 (aM + 1), aY.modify (Int.toNat aM) fun c => Zq c 0 [.d (.bool false)]))) else (L1 (aW, IntKind.wrap .i64 (aM + 1), aY.modify (Int.toNat aM) fun c => Zq c 0 [.d (.bool false)])))))))) else (bif ((aW : Int) == 0) then (K aV) else (Yt.f k aO aL (C.immRows aY) aW (fun y447 => F aL aN (aO, 0, aV, y447))))
noncomputable def Yw.l1 {β : Type} (k : Nat) (aO : Int) (aL aN : LD) (aV : LC) (L0 : (Int × LD × LD × LC) → Option β) (K : LC → Option β) (L1 : (Int × Int × LC) → Option β) (v : Int × Int × LC) : Option β := Yw.m1 k aO aL aN aV L0 K L1 v (fun aQ aS => Zo (Yw.l2 k aQ aS L0 K) k)
noncomputable def Yw.m0 {β : Type} (k : Nat) (K : LC → Option β) (L0 : (Int × LD × LD × LC) → Option β) (v : Int × LD × LD × LC) (F : (Int → LD → LD → LC → (Int × Int × LC) → Option β)) : Option β :=
 match v with
 | (aD, aE, aF, aG) => bif (decide ((aD : Int) > 0)) then (Zc ((0 : Int) ≤ (aE.length : Int) ∧ (aE.length : Int) ≤ (ZN : Int) ∧ (aE.length : Int) ≤ (aE.length : Int) ∧ (aE.length : Int) ≤ (aE.length : Int)) (F aD aE aF aG (0, 0, List.replicate (Int.toNat (aE.length : Int)) ([.d (.bool false)] : List C)))) else (K aG)
noncomputable def Yw.l0 {β : Type} (k : Nat) (K : LC → Option β) (L0 : (Int × LD × LD × LC) → Option β) (v : Int × LD × LD × LC) : Option β := Yw.m0 k K L0 v (fun aO aL aN aV => Zo (Yw.l1 k aO aL aN aV L0 K) k)
noncomputable def Yw.m {β : Type} (k : Nat) (a0 : Int) (a1 a2 : LD) (K : LC → Option β) (F : ((Int × LD × LD × LC) → Option β)) : Option β :=
 Y8.f k a0 a1 a2 (fun y1 => bif (!y1) then (K ([] : LC)) else (Zc ((0 : Int) ≤ (a1.length : Int) ∧ (a1.length : Int) ≤ (ZN : Int) ∧ (a1.length : Int) ≤ (a1.length : Int) ∧ (a1.length : Int) ≤ (a1.length : Int)) (F (a0, a1, a2, List.replicate (Int.toNat (a1.length : Int)) ([.d (.int .i64 0)] : List C)))))
noncomputable def Yw.g {β : Type} (k : Nat) (a0 : Int) (a1 a2 : LD) (K : LC → Option β) : Option β := Yw.m k a0 a1 a2 K (Zo (Yw.l0 k K) k)
noncomputable def Yw.t (k : Nat) (a0 : Int) (a1 a2 : LD) : Option (LC) := Yw.g k a0 a1 a2 (fun z0 => some z0)
noncomputable def Yw.f {β : Type} (k : Nat) (a0 : Int) (a1 a2 : LD) (K : LC → Option β) : Option β := bd1 (Yw.t k a0 a1 a2) K
noncomputable def Yw.e (k : Nat) : Zk := ent [.d .n, .d .l, .d .l] [1] [.o] [77] false (Yw.t k)
noncomputable def Yw.p (k : Nat) : Pro := ⟨Try.prog, [(220, Y8.e k), (221, Yt.e k)], Zn [(5, kp [0, 1, 2, 7]), (9, kp [0, 1, 2, 7, 8, 9, 10]), (17, kp [1, 2, 7, 11, 12] [(0, .dat false)])] false [], k⟩
noncomputable def Yw.d (k : Nat) (a0 : Int) (a1 a2 : LD) : Ex → St → Option (LC) := (Yw.p k).fin Try.f180 [.d (.int .i64 a0), .d (.sl a1), .d (.sl a2)] [1] [.o]
noncomputable def Yw.s0 (v : Int × LD × LD × LC) : St :=
 match v with
 | (aD, aE, aF, aG) => ZX 121 [(0, .d false (.int .i64 aD)), (1, .d false (.sl aE)), (2, .d false (.sl aF)), (7, .row 0)] [.row none true 77 aG]
noncomputable def Yw.c0 (k : Nat) (a0 : Int) (a1 a2 : LD) : Ex → St → Option (LC) := (Yw.p k).ct (Zt Try.f180) [1, 1, 1, 1, 0, 0] (Yw.d k a0 a1 a2)
noncomputable def Yw.r0 (k : Nat) (a0 : Int) (a1 a2 : LD) (n : Nat) (v : Int × LD × LD × LC) : Option (LC) := (Yw.p k).lp (Zt Try.f180) 5 [1, 1, 1, 1, 0, 0] (Yw.d k a0 a1 a2) n (Yw.s0 v)
noncomputable def Yw.s1 (aO : Int) (aL aN : LD) (aV : LC) (v : Int × Int × LC) : St :=
 match v with
 | (aW, aM, aY) => ZX 121 [(0, .d false (.int .i64 aO)), (1, .d false (.sl aL)), (2, .d false (.sl aN)), (7, .row 0), (8, .row 1), (9, .d true (.int .i64 aW)), (10, .d true (.int .i64 aM))] [.row none true 77 aV, .row none true 230 aY]
noncomputable def Yw.r1 (k : Nat) (a0 : Int) (a1 a2 : LD) (aO : Int) (aL aN : LD) (aV : LC) (L0 : St → Option (LC)) (n : Nat) (v : Int × Int × LC) : Option (LC) := (Yw.p k).lp (codeAt [1, 1, 1, 1, 0, 0, 0] (Zt Try.f180)) 9 [1, 0, 1, 1, 0, 1, 0] (backK ((Yw.p k).h.H 5) L0 (Yw.c0 k a0 a1 a2)) n (Yw.s1 aO aL aN aV v)
noncomputable def Yw.s2 (aQ aS : LD) (v : Int × Int × LC × LC) : St :=
 match v with
 | (aT, aK, aU, aP) => ZX 121 [(0, .d false (.int .i64 aT)), (1, .d false (.sl aQ)), (2, .d false (.sl aS)), (7, .row 0), (11, .row 1), (12, .d true (.int .i64 aK))] [.row none true 77 aU, .row none true 77 aP]
noncomputable def Yw.r2 (k : Nat) (a0 : Int) (a1 a2 aQ aS : LD) (L0 : St → Option (LC)) (n : Nat) (v : Int × Int × LC × LC) : Option (LC) := (Yw.p k).lp (codeAt [1, 1, 1, 1, 0, 0, 0] (Zt Try.f180)) 17 [1, 0, 1, 1, 1, 1, 1, 1, 0] (backK ((Yw.p k).h.H 5) L0 (Yw.c0 k a0 a1 a2)) n (Yw.s2 aQ aS v)
theorem Yw.l2_eq (k : Nat) (a0 : Int) (a1 a2 aQ aS : LD) (L0 : St → Option (LC)) : ∀ n v, Yw.r2 k a0 a1 a2 aQ aS L0 n v = Zo (Yw.l2 k aQ aS (fun v => L0 (Yw.s0 v)) (fun z0 => some z0)) n v :=
 Zm (Yw.s2 aQ aS) _ fun L2 v => by obtain ⟨aT, aK, aU, aP⟩ := v; kernel_rfl
theorem Yw.l1_eq (k : Nat) (a0 : Int) (a1 a2 : LD) (aO : Int) (aL aN : LD) (aV : LC) (L0 : St → Option (LC)) : ∀ n v, Yw.r1 k a0 a1 a2 aO aL aN aV L0 n v = Zo (Yw.l1 k aO aL aN aV (fun v => L0 (Yw.s0 v)) (fun z0 => some z0)) n v :=
 Zm (Yw.s1 aO aL aN aV) _ fun L1 v => by obtain ⟨aW, aM, aY⟩ := v; exact Eq.trans (b := Yw.m1 k aO aL aN aV (fun v => L0 (Yw.s0 v)) (fun z0 => some z0) (fun v => L1 (Yw.s1 aO aL aN aV v)) (aW, aM, aY) (fun aQ aS => Yw.r2 k a0 a1 a2 aQ aS L0 k)) (by kernel_rfl) (congrArg (Yw.m1 k aO aL aN aV (fun v => L0 (Yw.s0 v)) (fun z0 => some z0) (fun v => L1 (Yw.s1 aO aL aN aV v)) (aW, aM, aY)) (funext fun aQ => funext fun aS => funext fun v => Yw.l2_eq k a0 a1 a2 aQ aS L0 k v))
theorem Yw.l0_eq (k : Nat) (a0 : Int) (a1 a2 : LD) : ∀ n v, Yw.r0 k a0 a1 a2 n v = Zo (Yw.l0 k (fun z0 => some z0)) n v :=
 Zm (Yw.s0) _ fun L0 v => by obtain ⟨aD, aE, aF, aG⟩ := v; exact Eq.trans (b := Yw.m0 k (fun z0 => some z0) (fun v => L0 (Yw.s0 v)) (aD, aE, aF, aG) (fun aO aL aN aV => Yw.r1 k a0 a1 a2 aO aL aN aV L0 k)) (by kernel_rfl) (congrArg (Yw.m0 k (fun z0 => some z0) (fun v => L0 (Yw.s0 v)) (aD, aE, aF, aG)) (funext fun aO => funext fun aL => funext fun aN => funext fun aV => funext fun v => Yw.l1_eq k a0 a1 a2 aO aL aN aV L0 k v))
theorem Yw.ok (k : Nat) : Za Try.prog 180 (Yw.e k) := Zh (Yw.p k) mix tyok Try.func180 ⟨Y8.ok k, Yt.ok k⟩ (by kernel_rfl) (fun a0 a1 a2 => Eq.trans (b := Yw.m k a0 a1 a2 (fun z0 => some z0) (Yw.r0 k a0 a1 a2 k)) (by kernel_rfl) (congrArg (Yw.m k a0 a1 a2 (fun z0 => some z0)) (funext fun v => Yw.l0_eq k a0 a1 a2 k v) :))
noncomputable def Y0.l0 {β : Type} (k : Nat) (aD aE : LD) (aG : Int) (aI aJ aR : LD) (K : LC → Option β) (L0 : (Int × LC) → Option β) (v : Int × LC) : Option β :=
 match v with
 | (aF, aZ) => bif (decide ((aF : Int) < (aD.length : Int))) then (atR aD aF [.s, .l, .l, .n] fun x558 x561 x564 x567 => (YR.f k x558 x561 x564 x567 (fun y568 => bif (!y568) then (K ([] : LC)) else (atR aD aF [.s, .l, .l, .n] fun x572 x575 x578 x581 => (YJ.f k aG aI aJ aR x572 x575 x578 x581 (fun y582 => bif y582 then (atR aD aF [.s, .l, .l, .n] fun x586 x589 x592 x595 => (YE.f k aG aI aJ aR x586 (fun y596 => Zc (aZ.length + ([[.d (.int .i64 y596)]] : LC).length ≤ ZN) (L0 (IntKind.wrap .i64 (aF + 1), aZ ++ ([[.d (.int .i64 y596)]] : LC)))))) else (Zc (aZ.length + ([[.d (.int .i64 0)]] : LC).length ≤ ZN) (L0 (IntKind.wrap .i64 (aF + 1), aZ ++ ([[.d (.int .i64 0)]] : LC)))))))))) else (Yw.f k aG (C.immRows aZ) aE (fun y597 => K y597))
noncomputable def Y0.m {β : Type} (k : Nat) (aB : Int) (aC aA aH a1 a2 : LD) (K : LC → Option β) (F : (LD → LD → Int → LD → LD → LD → (Int × LC) → Option β)) : Option β :=
 YC.f k aB aC aA aH (fun y80 => bif (!y80) then (K ([] : LC)) else (bif (decide (((a1.length : Int) : Int) > 12)) then (K ([] : LC)) else (bif (((a2.length : Int) : Int) != (a1.length : Int)) then (K ([] : LC)) else (F a1 a2 aB aC aA aH (0, ([] : LC))))))
noncomputable def Y0.g {β : Type} (k : Nat) (aB : Int) (aC aA aH a1 a2 : LD) (K : LC → Option β) : Option β := Y0.m k aB aC aA aH a1 a2 K (fun aD aE aG aI aJ aR => Zo (Y0.l0 k aD aE aG aI aJ aR K) k)
noncomputable def Y0.t (k : Nat) (aB : Int) (aC aA aH a1 a2 : LD) : Option (LC) := Y0.g k aB aC aA aH a1 a2 (fun z0 => some z0)
noncomputable def Y0.f {β : Type} (k : Nat) (aB : Int) (aC aA aH a1 a2 : LD) (K : LC → Option β) : Option β := bd1 (Y0.t k aB aC aA aH a1 a2) K
noncomputable def Y0.e (k : Nat) : Zk := ent [.agg [.n, .l, .l, .l], .d .l, .d .l] [1] [.o] [77] false (Y0.t k)
noncomputable def Y0.p (k : Nat) : Pro := ⟨Try.prog, [(28, YC.e k), (30, YR.e k), (26, YJ.e k), (179, YE.e k), (180, Yw.e k)], Zn [(5, kp [1, 2, 3, 7, 8])] false [], k⟩
noncomputable def Y0.d (k : Nat) (aB : Int) (aC aA aH a1 a2 : LD) : Ex → St → Option (LC) := (Y0.p k).fin Try.f115 [.agg [.int .i64 aB, .sl aC, .sl aA, .sl aH], .d (.sl a1), .d (.sl a2)] [1] [.o]
noncomputable def Y0.s0 (aD aE : LD) (aG : Int) (aI aJ aR : LD) (v : Int × LC) : St :=
 match v with
 | (aF, aZ) => ZX 62 [(1, .d false (.sl aD)), (2, .d false (.sl aE)), (3, .bp 0 0), (7, .row 1), (8, .d true (.int .i64 aF))] [.box none 44 [.d false (.int .i64 aG), .d false (.sl aI), .d false (.sl aJ), .d false (.sl aR)], .row none true 77 aZ]
noncomputable def Y0.r0 (k : Nat) (aB : Int) (aC aA aH a1 a2 aD aE : LD) (aG : Int) (aI aJ aR : LD) (n : Nat) (v : Int × LC) : Option (LC) := (Y0.p k).lp (Zt Try.f115) 5 [1, 1, 1, 0, 1, 0] (Y0.d k aB aC aA aH a1 a2) n (Y0.s0 aD aE aG aI aJ aR v)
theorem Y0.l0_eq (k : Nat) (aB : Int) (aC aA aH a1 a2 aD aE : LD) (aG : Int) (aI aJ aR : LD) : ∀ n v, Y0.r0 k aB aC aA aH a1 a2 aD aE aG aI aJ aR n v = Zo (Y0.l0 k aD aE aG aI aJ aR (fun z0 => some z0)) n v :=
 Zm (Y0.s0 aD aE aG aI aJ aR) _ fun L0 v => by obtain ⟨aF, aZ⟩ := v; kernel_rfl
theorem Y0.ok (k : Nat) : Za Try.prog 115 (Y0.e k) := Zh (Y0.p k) mix tyok Try.func115 ⟨YC.ok k, YR.ok k, YJ.ok k, YE.ok k, Yw.ok k⟩ (by kernel_rfl) (fun aB aC aA aH a1 a2 => Eq.trans (b := Y0.m k aB aC aA aH a1 a2 (fun z0 => some z0) (fun aD aE aG aI aJ aR => Y0.r0 k aB aC aA aH a1 a2 aD aE aG aI aJ aR k)) (by kernel_rfl) (congrArg (Y0.m k aB aC aA aH a1 a2 (fun z0 => some z0)) (funext fun aD => funext fun aE => funext fun aG => funext fun aI => funext fun aJ => funext fun aR => funext fun v => Y0.l0_eq k aB aC aA aH a1 a2 aD aE aG aI aJ aR k v) :))
noncomputable def YI.l2 {β : Type} (k : Nat) (aT aQ : LD) (aS : Int) (aU aX : LC) (L1 : (LD × LD × Int × LC × LC) → Option β) (K : LC → Option β) (L2 : (Int × LC) → Option β) (v : Int × LC) : Option β :=
 match v with
 | (aK, aP) => bif (decide ((aK : Int) < (aX.length : Int))) then (Zc ((0 : Int) ≤ aK ∧ aK < (aP.length : Int)) (ZaG aP (Int.toNat aK) fun c780 => Zas (c780.drop 0) fun c781 r => cD c781 fun d => dInt .i64 d fun x784 => Zc ((0 : Int) ≤ aK ∧ aK < (aX.length : Int)) (ZaG aX (Int.toNat aK) fun c785 => Zas (c785.drop 0) fun c786 r => cD c786 fun d => dInt .i64 d fun x789 => Zc ((0 : Int) ≤ aK ∧ aK < (aP.length : Int)) (Zc (Int.toNat aK < aP.length) (L2 (IntKind.wrap .i64 (aK + 1), aP.modify (Int.toNat aK) fun c => Zq c 0 [.d (.int .i64 (IntKind.wrap .i64 (x784 - x789)))])))))) else (Zc (aU.length + ([[.own aX]] : LC).length ≤ ZN) (L1 (aT, aQ, IntKind.wrap .i64 (aS + 1), aU ++ ([[.own aX]] : LC), aP)))
noncomputable def YI.m1 {β : Type} (k : Nat) (K : LC → Option β) (L1 : (LD × LD × Int × LC × LC) → Option β) (v : LD × LD × Int × LC × LC) (F : (LD → LD → Int → LC → LC → (Int × LC) → Option β)) : Option β :=
 match v with
 | (aO, aL, aN, aW, aM) => bif (decide ((aN : Int) < (aO.length : Int))) then (atR aO aN [.n, .l, .l, .l] fun x745 x748 x751 x754 => (Y0.f k x745 x748 x751 x754 aL (C.immRows aM) (fun y755 => bif (decide (((aO.length : Int) : Int) > 40)) then (K ([] : LC)) else (atR aO aN [.n, .l, .l, .l] fun x759 x762 x765 x768 => (YC.f k x759 x762 x765 x768 (fun y769 => bif (!y769) then (K ([] : LC)) else (bif (((y755.length : Int) : Int) != (aL.length : Int)) then (K ([] : LC)) else (F aO aL aN aW y755 (0, aM))))))))) else (K aW)
noncomputable def YI.l1 {β : Type} (k : Nat) (K : LC → Option β) (L1 : (LD × LD × Int × LC × LC) → Option β) (v : LD × LD × Int × LC × LC) : Option β := YI.m1 k K L1 v (fun aT aQ aS aU aX => Zo (YI.l2 k aT aQ aS aU aX L1 K) k)
noncomputable def YI.m0 {β : Type} (k : Nat) (aD aE : LD) (aG : LC) (K : LC → Option β) (L0 : (Int × LC) → Option β) (v : Int × LC) (F : ((LD × LD × Int × LC × LC) → Option β)) : Option β :=
 match v with
 | (aF, aI) => bif (decide ((aF : Int) < (aE.length : Int))) then (atR aE aF [.s, .l, .l, .n] fun x684 x687 x690 x693 => (Zc (aI.length + ([[.d (.int .i64 x693)]] : LC).length ≤ ZN) (L0 (IntKind.wrap .i64 (aF + 1), aI ++ ([[.d (.int .i64 x693)]] : LC))))) else (F (aD, aE, 0, aG, aI))
noncomputable def YI.l0 {β : Type} (k : Nat) (aD aE : LD) (aG : LC) (K : LC → Option β) (L0 : (Int × LC) → Option β) (v : Int × LC) : Option β := YI.m0 k aD aE aG K L0 v (Zo (YI.l1 k K) k)
noncomputable def YI.m {β : Type} (k : Nat) (a0 a1 : LD) (K : LC → Option β) (F : (LD → LD → LC → (Int × LC) → Option β)) : Option β :=
 F a0 a1 ([] : LC) (0, ([] : LC))
noncomputable def YI.g {β : Type} (k : Nat) (a0 a1 : LD) (K : LC → Option β) : Option β :=
 Zo (YI.l0 k a0 a1 ([] : LC) K) k (0, ([] : LC))
noncomputable def YI.t (k : Nat) (a0 a1 : LD) : Option (LC) := YI.g k a0 a1 (fun z0 => some z0)
noncomputable def YI.f {β : Type} (k : Nat) (a0 a1 : LD) (K : LC → Option β) : Option β := bd1 (YI.t k a0 a1) K
noncomputable def YI.e (k : Nat) : Zk := ent [.d .l, .d .l] [1] [.o] [75] false (YI.t k)
noncomputable def YI.p (k : Nat) : Pro := ⟨Try.prog, [(115, Y0.e k), (28, YC.e k)], Zn [(4, kp [0, 1, 5, 6, 7]), (8, kp [0, 1, 5, 6, 8]), (14, kp [0, 1, 5, 6, 8, 9, 10])] false [], k⟩
noncomputable def YI.d (k : Nat) (a0 a1 : LD) : Ex → St → Option (LC) := (YI.p k).fin Try.f39 [.d (.sl a0), .d (.sl a1)] [1] [.o]
noncomputable def YI.s0 (aD aE : LD) (aG : LC) (v : Int × LC) : St :=
 match v with
 | (aF, aI) => ZX 82 [(0, .d false (.sl aD)), (1, .d false (.sl aE)), (5, .row 0), (6, .row 1), (7, .d true (.int .i64 aF))] [.row none true 75 aG, .row none true 77 aI]
noncomputable def YI.r0 (k : Nat) (a0 a1 aD aE : LD) (aG : LC) (n : Nat) (v : Int × LC) : Option (LC) := (YI.p k).lp (Zt Try.f39) 4 [1, 1, 1, 0, 1, 0] (YI.d k a0 a1) n (YI.s0 aD aE aG v)
noncomputable def YI.s1 (v : LD × LD × Int × LC × LC) : St :=
 match v with
 | (aO, aL, aN, aW, aM) => ZX 82 [(0, .d false (.sl aO)), (1, .d false (.sl aL)), (5, .row 0), (6, .row 1), (8, .d true (.int .i64 aN))] [.row none true 75 aW, .row none true 77 aM]
noncomputable def YI.c1 (k : Nat) (a0 a1 : LD) : Ex → St → Option (LC) := (YI.p k).ct (Zt Try.f39) [1, 1, 1, 1, 0, 1, 0] (YI.d k a0 a1)
noncomputable def YI.r1 (k : Nat) (a0 a1 : LD) (n : Nat) (v : LD × LD × Int × LC × LC) : Option (LC) := (YI.p k).lp (Zt Try.f39) 8 [1, 1, 1, 1, 0, 1, 0] (YI.d k a0 a1) n (YI.s1 v)
noncomputable def YI.s2 (aT aQ : LD) (aS : Int) (aU aX : LC) (v : Int × LC) : St :=
 match v with
 | (aK, aP) => ZX 82 [(0, .d false (.sl aT)), (1, .d false (.sl aQ)), (5, .row 0), (6, .row 1), (8, .d true (.int .i64 aS)), (9, .row 2), (10, .d true (.int .i64 aK))] [.row none true 75 aU, .row none true 77 aP, .row none true 77 aX]
noncomputable def YI.r2 (k : Nat) (a0 a1 aT aQ : LD) (aS : Int) (aU aX : LC) (L1 : St → Option (LC)) (n : Nat) (v : Int × LC) : Option (LC) := (YI.p k).lp (codeAt [1, 1, 1, 1, 0, 1, 0, 0] (Zt Try.f39)) 14 [1, 0, 0, 1, 1, 0, 1, 0] (backK ((YI.p k).h.H 8) L1 (YI.c1 k a0 a1)) n (YI.s2 aT aQ aS aU aX v)
theorem YI.l2_eq (k : Nat) (a0 a1 aT aQ : LD) (aS : Int) (aU aX : LC) (L1 : St → Option (LC)) : ∀ n v, YI.r2 k a0 a1 aT aQ aS aU aX L1 n v = Zo (YI.l2 k aT aQ aS aU aX (fun v => L1 (YI.s1 v)) (fun z0 => some z0)) n v :=
 Zm (YI.s2 aT aQ aS aU aX) _ fun L2 v => by obtain ⟨aK, aP⟩ := v; kernel_rfl
theorem YI.l1_eq (k : Nat) (a0 a1 : LD) : ∀ n v, YI.r1 k a0 a1 n v = Zo (YI.l1 k (fun z0 => some z0)) n v :=
 Zm (YI.s1) _ fun L1 v => by obtain ⟨aO, aL, aN, aW, aM⟩ := v; exact Eq.trans (b := YI.m1 k (fun z0 => some z0) (fun v => L1 (YI.s1 v)) (aO, aL, aN, aW, aM) (fun aT aQ aS aU aX => YI.r2 k a0 a1 aT aQ aS aU aX L1 k)) (by kernel_rfl) (congrArg (YI.m1 k (fun z0 => some z0) (fun v => L1 (YI.s1 v)) (aO, aL, aN, aW, aM)) (funext fun aT => funext fun aQ => funext fun aS => funext fun aU => funext fun aX => funext fun v => YI.l2_eq k a0 a1 aT aQ aS aU aX L1 k v))
theorem YI.l0_eq (k : Nat) (a0 a1 aD aE : LD) (aG : LC) : ∀ n v, YI.r0 k a0 a1 aD aE aG n v = Zo (YI.l0 k aD aE aG (fun z0 => some z0)) n v :=
 Zm (YI.s0 aD aE aG) _ fun L0 v => by obtain ⟨aF, aI⟩ := v; exact Eq.trans (b := YI.m0 k aD aE aG (fun z0 => some z0) (fun v => L0 (YI.s0 aD aE aG v)) (aF, aI) (YI.r1 k a0 a1 k)) (by kernel_rfl) (congrArg (YI.m0 k aD aE aG (fun z0 => some z0) (fun v => L0 (YI.s0 aD aE aG v)) (aF, aI)) (funext fun v => YI.l1_eq k a0 a1 k v))
theorem YI.ok (k : Nat) : Za Try.prog 39 (YI.e k) := Zh (YI.p k) mix tyok Try.func39 ⟨Y0.ok k, YC.ok k⟩ (by kernel_rfl) (fun a0 a1 => Eq.trans (b := YI.m k a0 a1 (fun z0 => some z0) (fun aD aE aG => YI.r0 k a0 a1 aD aE aG k)) (by kernel_rfl) (congrArg (YI.m k a0 a1 (fun z0 => some z0)) (funext fun aD => funext fun aE => funext fun aG => funext fun v => YI.l0_eq k a0 a1 aD aE aG k v) :))
noncomputable def Yu.l2 {β : Type} (k : Nat) (aT aQ aS : LD) (aK : Int) (bA : LC) (L0 : (LD × LD × LD × Int × LC) → Option β) (K : Bool → Option β) (L2 : (Int × Int × LC) → Option β) (v : Int × Int × LC) : Option β :=
 match v with
 | (aU, aP, aX) => atR aS aK [.l] fun x1355 => (bif (decide ((aP : Int) < (x1355.length : Int))) then (bif (decide ((aP : Int) ≥ (bA.length : Int))) then (K false) else (Zc ((0 : Int) ≤ aP ∧ aP < (bA.length : Int)) (ZaG bA (Int.toNat aP) fun c1356 => Zas (c1356.drop 0) fun c1357 r => cD c1357 fun d => dInt .i64 d fun x1360 => atR aS aK [.l] fun x1364 => (atR x1364 aP [.n] fun x1368 => (bif ((x1360 : Int) != x1368) then (K false) else (atR aS aK [.l] fun x1372 => (atR x1372 aP [.n] fun x1376 => (bif (decide ((x1376 : Int) > 0)) then (atR aT aK [.n, .l, .l, .l] fun x1380 x1383 x1386 x1389 => (atR aQ aP [.s, .l, .l, .n] fun x1393 x1396 x1399 x1402 => (Yae.f k x1380 x1383 x1386 x1389 x1393 x1396 x1399 x1402 (fun y1403 => bif (!y1403) then (K false) else (atR aT aK [.n, .l, .l, .l] fun x1407 x1410 x1413 x1416 => (atR aQ aP [.s, .l, .l, .n] fun x1420 x1423 x1426 x1429 => (YU.f k x1407 x1410 x1413 x1416 x1420 (fun y1430 => bif ((y1430 : Int) == 0) then (K false) else (atR aS aK [.l] fun x1434 => (atR x1434 aP [.n] fun x1438 => (Zc ((0 : Int) ≤ aP ∧ aP < (aX.length : Int)) (ZaG aX (Int.toNat aP) fun c1439 => Zas (c1439.drop 0) fun c1440 r => cD c1440 fun d => dInt .i64 d fun x1443 => atR aS aK [.l] fun x1447 => (atR x1447 aP [.n] fun x1451 => let J0 := (aX.modify (Int.toNat aP) fun c => Zq c 0 [.d (.int .i64 (IntKind.wrap .i64 (x1443 + x1451)))]); (Zc ((0 : Int) ≤ aP ∧ aP < (aX.length : Int)) (Zc (Int.toNat aP < aX.length) (Zc ((0 : Int) ≤ aP ∧ aP < (J0.length : Int)) (ZaG J0 (Int.toNat aP) fun c1452 => Zas (c1452.drop 0) fun c1453 r => cD c1453 fun d => dInt .i64 d fun x1456 => atR aQ aP [.s, .l, .l, .n] fun x1460 x1463 x1466 x1469 => (bif (decide ((x1456 : Int) > x1469)) then (K false) else (L2 (IntKind.wrap .i64 (aU + x1438), IntKind.wrap .i64 (aP + 1), aX.modify (Int.toNat aP) fun c => Zq c 0 [.d (.int .i64 (IntKind.wrap .i64 (x1443 + x1451)))])))))))))))))))))))) else (atR aS aK [.l] fun x1473 => (atR x1473 aP [.n] fun x1477 => (Zc ((0 : Int) ≤ aP ∧ aP < (aX.length : Int)) (ZaG aX (Int.toNat aP) fun c1478 => Zas (c1478.drop 0) fun c1479 r => cD c1479 fun d => dInt .i64 d fun x1482 => atR aS aK [.l] fun x1486 => (atR x1486 aP [.n] fun x1490 => let J1 := (aX.modify (Int.toNat aP) fun c => Zq c 0 [.d (.int .i64 (IntKind.wrap .i64 (x1482 + x1490)))]); (Zc ((0 : Int) ≤ aP ∧ aP < (aX.length : Int)) (Zc (Int.toNat aP < aX.length) (Zc ((0 : Int) ≤ aP ∧ aP < (J1.length : Int)) (ZaG J1 (Int.toNat aP) fun c1491 => Zas (c1491.drop 0) fun c1492 r => cD c1492 fun d => dInt .i64 d fun x1495 => atR aQ aP [.s, .l, .l, .n] fun x1499 x1502 x1505 x1508 => (bif (decide ((x1495 : Int) > x1508)) then (K false) else (L2 (IntKind.wrap .i64 (aU + x1477), IntKind.wrap .i64 (aP + 1), aX.modify (Int.toNat aP) fun c => Zq c 0 [.d (.int .i64 (IntKind.wrap .i64 (x1482 + x1490)))])))))))))))))))))))) else (atR aT aK [.n, .l, .l, .l] fun x1512 x1515 x1518 x1521 => (bif (decide ((aU : Int) > x1512)) then (K false) else (atR aS aK [.l] fun x1525 => (bif (((x1525.length : Int) : Int) != (aQ.length : Int)) then (K false) else (L0 (aT, aQ, aS, IntKind.wrap .i64 (aK + 1), aX)))))))
noncomputable def Yu.m1 {β : Type} (k : Nat) (aO aL aN : LD) (aW aM : Int) (aY : LC) (L0 : (LD × LD × LD × Int × LC) → Option β) (K : Bool → Option β) (L1 : (Int × LC) → Option β) (v : Int × LC) (F : (LD → LD → LD → Int → LC → (Int × Int × LC) → Option β)) : Option β :=
 match v with
 | (aV, bB) => bif (decide ((aV : Int) < (aL.length : Int))) then (atR aL aV [.s, .l, .l, .n] fun x1149 x1152 x1155 x1158 => (Zc ((0 : Int) ≤ aV ∧ aV < (aY.length : Int)) (ZaG aY (Int.toNat aV) fun c1159 => Zas (c1159.drop 0) fun c1160 r1161 => cD c1160 fun d1162 => dInt .i64 d1162 fun x1163 => Zc (bB.length + ([[.d (.int .i64 (IntKind.wrap .i64 (x1158 - x1163)))]] : LC).length ≤ ZN) (L1 (IntKind.wrap .i64 (aV + 1), bB ++ ([[.d (.int .i64 (IntKind.wrap .i64 (x1158 - x1163)))]] : LC)))))) else (atR aO aW [.n, .l, .l, .l] fun x1167 x1170 x1173 x1176 => (YV.f k x1167 x1170 x1173 x1176 aL (C.immRows bB) (fun y1177 => F aO aL aN aW y1177 (aM, 0, aY))))
noncomputable def Yu.l1 {β : Type} (k : Nat) (aO aL aN : LD) (aW aM : Int) (aY : LC) (L0 : (LD × LD × LD × Int × LC) → Option β) (K : Bool → Option β) (L1 : (Int × LC) → Option β) (v : Int × LC) : Option β := Yu.m1 k aO aL aN aW aM aY L0 K L1 v (fun aT aQ aS aK bA => Zo (Yu.l2 k aT aQ aS aK bA L0 K) k)
noncomputable def Yu.m0 {β : Type} (k : Nat) (K : Bool → Option β) (L0 : (LD × LD × LD × Int × LC) → Option β) (v : LD × LD × LD × Int × LC) (F : (LD → LD → LD → Int → Int → LC → (Int × LC) → Option β)) : Option β :=
 match v with
 | (aD, aE, aF, aG, aI) => bif (decide ((aG : Int) < (aF.length : Int))) then (F aD aE aF aG 0 aI (0, ([] : LC))) else (K true)
noncomputable def Yu.l0 {β : Type} (k : Nat) (K : Bool → Option β) (L0 : (LD × LD × LD × Int × LC) → Option β) (v : LD × LD × LD × Int × LC) : Option β := Yu.m0 k K L0 v (fun aO aL aN aW aM aY => Zo (Yu.l1 k aO aL aN aW aM aY L0 K) k)
noncomputable def Yu.m {β : Type} (k : Nat) (a0 : LD) (K : Bool → Option β) (F : ((LD × LD × LD × Int × LC) → Option β)) : Option β :=
 YaJ.f k a0 (fun y1 => bif y1 then (K true) else (YX.f k a0 (fun y2 y3 => Yy.f k (C.immRows y2) (C.immRows y3) (fun y4 => YI.f k (C.immRows y2) (C.immRows y3) (fun y5 => bif (((y4.length : Int) : Int) != (y5.length : Int)) then (K false) else (Zc ((0 : Int) ≤ (y3.length : Int) ∧ (y3.length : Int) ≤ (ZN : Int) ∧ (y3.length : Int) ≤ (y3.length : Int) ∧ (y3.length : Int) ≤ (y3.length : Int)) (F (C.immRows y2, C.immRows y3, C.immRows y4, 0, List.replicate (Int.toNat (y3.length : Int)) ([.d (.int .i64 0)] : List C)))))))))
noncomputable def Yu.g {β : Type} (k : Nat) (a0 : LD) (K : Bool → Option β) : Option β := Yu.m k a0 K (Zo (Yu.l0 k K) k)
noncomputable def Yu.t (k : Nat) (a0 : LD) : Option (Bool) := Yu.g k a0 (fun z0 => some z0)
noncomputable def Yu.e (k : Nat) : Zk := ent [.d .l] [1] [.b] [4] false (Yu.t k)
noncomputable def Yu.p (k : Nat) : Pro := ⟨Try.prog, [(11, YaJ.e k), (37, YX.e k), (38, Yy.e k), (39, YI.e k), (40, YV.e k), (25, Yae.e k), (41, YU.e k)], Zn [(9, kp [6, 7] [(3, .dat false), (4, .dat false), (5, .dat true)]), (14, kp [4, 5, 6, 7, 8, 9, 10] [(3, .dat false)]), (19, kp [3, 6, 7, 8, 11, 12] [(4, .dat false), (5, .dat true)])] false [], k⟩
noncomputable def Yu.d (k : Nat) (a0 : LD) : Ex → St → Option (Bool) := (Yu.p k).fin Try.f7 [.d (.sl a0)] [1] [.b]
noncomputable def Yu.s0 (v : LD × LD × LD × Int × LC) : St :=
 match v with
 | (aD, aE, aF, aG, aI) => ZX 179 [(3, .d false (.sl aD)), (4, .d false (.sl aE)), (5, .d true (.sl aF)), (6, .row 0), (7, .d true (.int .i64 aG))] [.row none true 77 aI]
noncomputable def Yu.c0 (k : Nat) (a0 : LD) : Ex → St → Option (Bool) := (Yu.p k).ct (Zt Try.f7) [1, 1, 1, 1, 1, 1, 0, 1, 0] (Yu.d k a0)
noncomputable def Yu.r0 (k : Nat) (a0 : LD) (n : Nat) (v : LD × LD × LD × Int × LC) : Option (Bool) := (Yu.p k).lp (Zt Try.f7) 9 [1, 1, 1, 1, 1, 1, 0, 1, 0] (Yu.d k a0) n (Yu.s0 v)
noncomputable def Yu.s1 (aO aL aN : LD) (aW aM : Int) (aY : LC) (v : Int × LC) : St :=
 match v with
 | (aV, bB) => ZX 179 [(3, .d false (.sl aO)), (4, .d false (.sl aL)), (5, .d true (.sl aN)), (6, .row 0), (7, .d true (.int .i64 aW)), (8, .d true (.int .i64 aM)), (9, .row 1), (10, .d true (.int .i64 aV))] [.row none true 77 aY, .row none true 77 bB]
noncomputable def Yu.r1 (k : Nat) (a0 aO aL aN : LD) (aW aM : Int) (aY : LC) (L0 : St → Option (Bool)) (n : Nat) (v : Int × LC) : Option (Bool) := (Yu.p k).lp (codeAt [1, 1, 1, 1, 1, 1, 0, 1, 0, 0] (Zt Try.f7)) 14 [1, 0, 0, 1, 1, 0, 1, 0] (backK ((Yu.p k).h.H 9) L0 (Yu.c0 k a0)) n (Yu.s1 aO aL aN aW aM aY v)
noncomputable def Yu.s2 (aT aQ aS : LD) (aK : Int) (bA : LC) (v : Int × Int × LC) : St :=
 match v with
 | (aU, aP, aX) => ZX 179 [(3, .d false (.sl aT)), (4, .d false (.sl aQ)), (5, .d true (.sl aS)), (6, .row 0), (7, .d true (.int .i64 aK)), (8, .d true (.int .i64 aU)), (11, .row 1), (12, .d true (.int .i64 aP))] [.row none true 77 aX, .row none true 77 bA]
noncomputable def Yu.r2 (k : Nat) (a0 aT aQ aS : LD) (aK : Int) (bA : LC) (L0 : St → Option (Bool)) (n : Nat) (v : Int × Int × LC) : Option (Bool) := (Yu.p k).lp (codeAt [1, 1, 1, 1, 1, 1, 0, 1, 0, 0] (Zt Try.f7)) 19 [1, 0, 0, 1, 1, 1, 1, 0, 1, 0] (backK ((Yu.p k).h.H 9) L0 (Yu.c0 k a0)) n (Yu.s2 aT aQ aS aK bA v)
theorem Yu.l2_eq (k : Nat) (a0 aT aQ aS : LD) (aK : Int) (bA : LC) (L0 : St → Option (Bool)) : ∀ n v, Yu.r2 k a0 aT aQ aS aK bA L0 n v = Zo (Yu.l2 k aT aQ aS aK bA (fun v => L0 (Yu.s0 v)) (fun z0 => some z0)) n v :=
 Zm (Yu.s2 aT aQ aS aK bA) _ fun L2 v => by obtain ⟨aU, aP, aX⟩ := v; kernel_rfl
theorem Yu.l1_eq (k : Nat) (a0 aO aL aN : LD) (aW aM : Int) (aY : LC) (L0 : St → Option (Bool)) : ∀ n v, Yu.r1 k a0 aO aL aN aW aM aY L0 n v = Zo (Yu.l1 k aO aL aN aW aM aY (fun v => L0 (Yu.s0 v)) (fun z0 => some z0)) n v :=
 Zm (Yu.s1 aO aL aN aW aM aY) _ fun L1 v => by obtain ⟨aV, bB⟩ := v; exact Eq.trans (b := Yu.m1 k aO aL aN aW aM aY (fun v => L0 (Yu.s0 v)) (fun z0 => some z0) (fun v => L1 (Yu.s1 aO aL aN aW aM aY v)) (aV, bB) (fun aT aQ aS aK bA => Yu.r2 k a0 aT aQ aS aK bA L0 k)) (by kernel_rfl) (congrArg (Yu.m1 k aO aL aN aW aM aY (fun v => L0 (Yu.s0 v)) (fun z0 => some z0) (fun v => L1 (Yu.s1 aO aL aN aW aM aY v)) (aV, bB)) (funext fun aT => funext fun aQ => funext fun aS => funext fun aK => funext fun bA => funext fun v => Yu.l2_eq k a0 aT aQ aS aK bA L0 k v))
theorem Yu.l0_eq (k : Nat) (a0 : LD) : ∀ n v, Yu.r0 k a0 n v = Zo (Yu.l0 k (fun z0 => some z0)) n v :=
 Zm (Yu.s0) _ fun L0 v => by obtain ⟨aD, aE, aF, aG, aI⟩ := v; exact Eq.trans (b := Yu.m0 k (fun z0 => some z0) (fun v => L0 (Yu.s0 v)) (aD, aE, aF, aG, aI) (fun aO aL aN aW aM aY => Yu.r1 k a0 aO aL aN aW aM aY L0 k)) (by kernel_rfl) (congrArg (Yu.m0 k (fun z0 => some z0) (fun v => L0 (Yu.s0 v)) (aD, aE, aF, aG, aI)) (funext fun aO => funext fun aL => funext fun aN => funext fun aW => funext fun aM => funext fun aY => funext fun v => Yu.l1_eq k a0 aO aL aN aW aM aY L0 k v))
theorem Yu.ok (k : Nat) : Za Try.prog 7 (Yu.e k) := Zh (Yu.p k) mix tyok Try.func7 ⟨YaJ.ok k, YX.ok k, Yy.ok k, YI.ok k, YV.ok k, Yae.ok k, YU.ok k⟩ (by kernel_rfl) (fun a0 => Eq.trans (b := Yu.m k a0 (fun z0 => some z0) (Yu.r0 k a0 k)) (by kernel_rfl) (congrArg (Yu.m k a0 (fun z0 => some z0)) (funext fun v => Yu.l0_eq k a0 k v) :))
end Go.Proofs.Ytpgplbalenfgfaa
