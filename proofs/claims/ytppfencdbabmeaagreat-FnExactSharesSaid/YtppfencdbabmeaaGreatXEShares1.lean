/- Printed: the functions that FnExactShares reaches, read by the evaluator, each with its contract. -/
import Derived.Test.YtppfencdbabmeaaGreatXEShares0
import Derived.KernelRfl
set_option linter.unusedVariables false
set_option linter.unusedSimpArgs false
namespace Go.Proofs.YtppfencdbabmeaaGreat
open Go Go.T Go.Proofs
noncomputable def Yb.l2 {β : Type} (k : Nat) (aX aO : Int) (aV aK : List (List D)) (aS aY : Int) (L1 : (Int × Int × (List (List D)) × (List (List D)) × Int × Int × (List (List C))) → Option β) (K : (List (List C)) → Option β) (L2 : (Int × Int × (List (List C))) → Option β) (v : Int × Int × (List (List C))) : Option β :=
  match v with
  | (bB, bE, v2_8) => bif (decide ((bE : Int) ≤ aX)) then (Ya.f k v2_8 bB (IntKind.wrap .i64 (bB + aY)) bE aO aV aK aS (fun y237 => Zc (y237.length = v2_8.length) (L2 (bE, IntKind.wrap .i64 (bE + (IntKind.wrap .i64 (2 * aY))), y237)))) else (bif (decide (((IntKind.wrap .i64 (bB + aY)) : Int) < aX)) then (Ya.f k v2_8 bB (IntKind.wrap .i64 (bB + aY)) aX aO aV aK aS (fun y238 => Zc (y238.length = v2_8.length) (L1 (aX, aO, aV, aK, aS, IntKind.wrap .i64 (aY * 2), y238)))) else (L1 (aX, aO, aV, aK, aS, IntKind.wrap .i64 (aY * 2), v2_8)))
noncomputable def Yb.m1 {β : Type} (k : Nat) (K : (List (List C)) → Option β) (L1 : (Int × Int × (List (List D)) × (List (List D)) × Int × Int × (List (List C))) → Option β) (v : Int × Int × (List (List D)) × (List (List D)) × Int × Int × (List (List C))) (F : (Int → Int → (List (List D)) → (List (List D)) → Int → Int → (Int × Int × (List (List C))) → Option β)) : Option β :=
  match v with
  | (aW, aM, aQ, bC, aP, aZ, bA) => bif (decide ((aZ : Int) < aW)) then (F aW aM aQ bC aP aZ (0, IntKind.wrap .i64 (2 * aZ), bA)) else (K bA)
noncomputable def Yb.l1 {β : Type} (k : Nat) (K : (List (List C)) → Option β) (L1 : (Int × Int × (List (List D)) × (List (List D)) × Int × Int × (List (List C))) → Option β) (v : Int × Int × (List (List D)) × (List (List D)) × Int × Int × (List (List C))) : Option β := Yb.m1 k K L1 v (fun aX aO aV aK aS aY => Zo (Yb.l2 k aX aO aV aK aS aY L1 K) k)
noncomputable def Yb.m0 {β : Type} (k : Nat) (aA aB : Int) (aF aH : List (List D)) (aI aJ : Int) (K : (List (List C)) → Option β) (L0 : (Int × Int × (List (List C))) → Option β) (v : Int × Int × (List (List C))) (F : ((Int × Int × (List (List D)) × (List (List D)) × Int × Int × (List (List C))) → Option β)) : Option β :=
  match v with
  | (aL, aT, bO) => bif (decide ((aT : Int) ≤ aA)) then (Yc.f k bO aL aT aB aF aH aI (fun y229 => Zc (y229.length = bO.length) (L0 (aT, IntKind.wrap .i64 (aT + aJ), y229)))) else (Yc.f k bO aL aA aB aF aH aI (fun y230 => Zc (y230.length = bO.length) (F (aA, aB, aF, aH, aI, aJ, y230))))
noncomputable def Yb.l0 {β : Type} (k : Nat) (aA aB : Int) (aF aH : List (List D)) (aI aJ : Int) (K : (List (List C)) → Option β) (L0 : (Int × Int × (List (List C))) → Option β) (v : Int × Int × (List (List C))) : Option β := Yb.m0 k aA aB aF aH aI aJ K L0 v (Zo (Yb.l1 k K) k)
noncomputable def Yb.m {β : Type} (k : Nat) (a0 : List (List C)) (a1 a2_0_0 : Int) (a2_1_0 a2_2_0 : List (List D)) (a2_3_0 : Int) (K : (List (List C)) → Option β) (F : (Int → Int → (List (List D)) → (List (List D)) → Int → Int → (Int × Int × (List (List C))) → Option β)) : Option β :=
  F a1 a2_0_0 a2_1_0 a2_2_0 a2_3_0 20 (0, 20, a0)
noncomputable def Yb.g {β : Type} (k : Nat) (a0 : List (List C)) (a1 a2_0_0 : Int) (a2_1_0 a2_2_0 : List (List D)) (a2_3_0 : Int) (K : (List (List C)) → Option β) : Option β :=
  Zo (Yb.l0 k a1 a2_0_0 a2_1_0 a2_2_0 a2_3_0 20 K) k (0, 20, a0)
noncomputable def Yb.t (k : Nat) (a0 : List (List C)) (a1 a2_0_0 : Int) (a2_1_0 a2_2_0 : List (List D)) (a2_3_0 : Int) : Option ((List (List C))) := Yb.g k a0 a1 a2_0_0 a2_1_0 a2_2_0 a2_3_0 (fun z0 => some z0)
noncomputable def Yb.f {β : Type} (k : Nat) (a0 : List (List C)) (a1 a2_0_0 : Int) (a2_1_0 a2_2_0 : List (List D)) (a2_3_0 : Int) (K : (List (List C)) → Option β) : Option β := bd1 (Yb.t k a0 a1 a2_0_0 a2_1_0 a2_2_0 a2_3_0) K
noncomputable def Yb.e (k : Nat) : Zk := ent [.own false 28 [.o], .d .n, .fn 220 [[.n], [.l], [.l], [.n]]] [] [.o] [] false (Yb.t k)
noncomputable def Yb.p (k : Nat) : Pro := ⟨Tryz.prog, [(275, Yc.e k), (276, Ya.e k)], Zn [(2, kp [0, 1, 2, 6, 7, 8]), (7, kp [0, 1, 2, 6]), (9, kp [0, 1, 2, 6, 7, 8])] false [], k⟩
noncomputable def Yb.d (k : Nat) (a0 : List (List C)) (a1 a2_0_0 : Int) (a2_1_0 a2_2_0 : List (List D)) (a2_3_0 : Int) : Ex → St → Option ((List (List C))) := (Yb.p k).fin Tryz.f254 [.own false [.own a0], .d (.int .i64 a1), .d (.fn 220 [[.int .i64 a2_0_0], [.sl a2_1_0], [.sl a2_2_0], [.int .i64 a2_3_0]])] [] [.o]
noncomputable def Yb.s0 (aA aB : Int) (aF aH : List (List D)) (aI aJ : Int) (v : Int × Int × (List (List C))) : St :=
  match v with
  | (aL, aT, bO) => ZX 63 [(0, .row 0), (1, .d false (.int .i64 aA)), (2, .d false (.fn 220 [[.int .i64 aB], [.sl aF], [.sl aH], [.int .i64 aI]])), (6, .d true (.int .i64 aJ)), (7, .d true (.int .i64 aL)), (8, .d true (.int .i64 aT))] [.row (some 0) false 28 bO]
noncomputable def Yb.r0 (k : Nat) (a0 : List (List C)) (a1 a2_0_0 : Int) (a2_1_0 a2_2_0 : List (List D)) (a2_3_0 aA aB : Int) (aF aH : List (List D)) (aI aJ : Int) (n : Nat) (v : Int × Int × (List (List C))) : Option ((List (List C))) := (Yb.p k).lp (Zt Tryz.f254) 2 [1, 1, 0, 0] (Yb.d k a0 a1 a2_0_0 a2_1_0 a2_2_0 a2_3_0) n (Yb.s0 aA aB aF aH aI aJ v)
noncomputable def Yb.s1 (v : Int × Int × (List (List D)) × (List (List D)) × Int × Int × (List (List C))) : St :=
  match v with
  | (aW, aM, aQ, bC, aP, aZ, bA) => ZX 63 [(0, .row 0), (1, .d false (.int .i64 aW)), (2, .d false (.fn 220 [[.int .i64 aM], [.sl aQ], [.sl bC], [.int .i64 aP]])), (6, .d true (.int .i64 aZ))] [.row (some 0) false 28 bA]
noncomputable def Yb.c1 (k : Nat) (a0 : List (List C)) (a1 a2_0_0 : Int) (a2_1_0 a2_2_0 : List (List D)) (a2_3_0 : Int) : Ex → St → Option ((List (List C))) := (Yb.p k).ct (Zt Tryz.f254) [1, 1, 1, 1, 0] (Yb.d k a0 a1 a2_0_0 a2_1_0 a2_2_0 a2_3_0)
noncomputable def Yb.r1 (k : Nat) (a0 : List (List C)) (a1 a2_0_0 : Int) (a2_1_0 a2_2_0 : List (List D)) (a2_3_0 : Int) (n : Nat) (v : Int × Int × (List (List D)) × (List (List D)) × Int × Int × (List (List C))) : Option ((List (List C))) := (Yb.p k).lp (Zt Tryz.f254) 7 [1, 1, 1, 1, 0] (Yb.d k a0 a1 a2_0_0 a2_1_0 a2_2_0 a2_3_0) n (Yb.s1 v)
noncomputable def Yb.s2 (aX aO : Int) (aV aK : List (List D)) (aS aY : Int) (v : Int × Int × (List (List C))) : St :=
  match v with
  | (bB, bE, v2_8) => ZX 63 [(0, .row 0), (1, .d false (.int .i64 aX)), (2, .d false (.fn 220 [[.int .i64 aO], [.sl aV], [.sl aK], [.int .i64 aS]])), (6, .d true (.int .i64 aY)), (7, .d true (.int .i64 bB)), (8, .d true (.int .i64 bE))] [.row (some 0) false 28 v2_8]
noncomputable def Yb.r2 (k : Nat) (a0 : List (List C)) (a1 a2_0_0 : Int) (a2_1_0 a2_2_0 : List (List D)) (a2_3_0 aX aO : Int) (aV aK : List (List D)) (aS aY : Int) (L1 : St → Option ((List (List C)))) (n : Nat) (v : Int × Int × (List (List C))) : Option ((List (List C))) := (Yb.p k).lp (codeAt [1, 1, 1, 1, 0, 0] (Zt Tryz.f254)) 9 [1, 0, 1, 0, 0] (backK ((Yb.p k).h.H 7) L1 (Yb.c1 k a0 a1 a2_0_0 a2_1_0 a2_2_0 a2_3_0)) n (Yb.s2 aX aO aV aK aS aY v)
theorem Yb.l2_eq (k : Nat) (a0 : List (List C)) (a1 a2_0_0 : Int) (a2_1_0 a2_2_0 : List (List D)) (a2_3_0 aX aO : Int) (aV aK : List (List D)) (aS aY : Int) (L1 : St → Option ((List (List C)))) : ∀ n v, Yb.r2 k a0 a1 a2_0_0 a2_1_0 a2_2_0 a2_3_0 aX aO aV aK aS aY L1 n v = Zo (Yb.l2 k aX aO aV aK aS aY (fun v => L1 (Yb.s1 v)) (fun z0 => some z0)) n v :=
  Zm (Yb.s2 aX aO aV aK aS aY) _ fun L2 v => by obtain ⟨bB, bE, v2_8⟩ := v; kernel_rfl
theorem Yb.l1_eq (k : Nat) (a0 : List (List C)) (a1 a2_0_0 : Int) (a2_1_0 a2_2_0 : List (List D)) (a2_3_0 : Int) : ∀ n v, Yb.r1 k a0 a1 a2_0_0 a2_1_0 a2_2_0 a2_3_0 n v = Zo (Yb.l1 k (fun z0 => some z0)) n v :=
  Zm (Yb.s1) _ fun L1 v => by obtain ⟨aW, aM, aQ, bC, aP, aZ, bA⟩ := v; exact Eq.trans (b := Yb.m1 k (fun z0 => some z0) (fun v => L1 (Yb.s1 v)) (aW, aM, aQ, bC, aP, aZ, bA) (fun aX aO aV aK aS aY => Yb.r2 k a0 a1 a2_0_0 a2_1_0 a2_2_0 a2_3_0 aX aO aV aK aS aY L1 k)) (by kernel_rfl) (congrArg (Yb.m1 k (fun z0 => some z0) (fun v => L1 (Yb.s1 v)) (aW, aM, aQ, bC, aP, aZ, bA)) (funext fun aX => funext fun aO => funext fun aV => funext fun aK => funext fun aS => funext fun aY => funext fun v => Yb.l2_eq k a0 a1 a2_0_0 a2_1_0 a2_2_0 a2_3_0 aX aO aV aK aS aY L1 k v))
theorem Yb.l0_eq (k : Nat) (a0 : List (List C)) (a1 a2_0_0 : Int) (a2_1_0 a2_2_0 : List (List D)) (a2_3_0 aA aB : Int) (aF aH : List (List D)) (aI aJ : Int) : ∀ n v, Yb.r0 k a0 a1 a2_0_0 a2_1_0 a2_2_0 a2_3_0 aA aB aF aH aI aJ n v = Zo (Yb.l0 k aA aB aF aH aI aJ (fun z0 => some z0)) n v :=
  Zm (Yb.s0 aA aB aF aH aI aJ) _ fun L0 v => by obtain ⟨aL, aT, bO⟩ := v; exact Eq.trans (b := Yb.m0 k aA aB aF aH aI aJ (fun z0 => some z0) (fun v => L0 (Yb.s0 aA aB aF aH aI aJ v)) (aL, aT, bO) (Yb.r1 k a0 a1 a2_0_0 a2_1_0 a2_2_0 a2_3_0 k)) (by kernel_rfl) (congrArg (Yb.m0 k aA aB aF aH aI aJ (fun z0 => some z0) (fun v => L0 (Yb.s0 aA aB aF aH aI aJ v)) (aL, aT, bO)) (funext fun v => Yb.l1_eq k a0 a1 a2_0_0 a2_1_0 a2_2_0 a2_3_0 k v))
theorem Yb.ok (k : Nat) : Za Tryz.prog 254 (Yb.e k) := Zh (Yb.p k) mix tyok Tryz.func254 ⟨Yc.ok k, Ya.ok k⟩ (by kernel_rfl) (fun a0 a1 a2_0_0 a2_1_0 a2_2_0 a2_3_0 => Eq.trans (b := Yb.m k a0 a1 a2_0_0 a2_1_0 a2_2_0 a2_3_0 (fun z0 => some z0) (fun aA aB aF aH aI aJ => Yb.r0 k a0 a1 a2_0_0 a2_1_0 a2_2_0 a2_3_0 aA aB aF aH aI aJ k)) (by kernel_rfl) (congrArg (Yb.m k a0 a1 a2_0_0 a2_1_0 a2_2_0 a2_3_0 (fun z0 => some z0)) (funext fun aA => funext fun aB => funext fun aF => funext fun aH => funext fun aI => funext fun aJ => funext fun v => Yb.l0_eq k a0 a1 a2_0_0 a2_1_0 a2_2_0 a2_3_0 aA aB aF aH aI aJ k v)))
noncomputable def Yy.g {β : Type} (k : Nat) (a0 : List (List C)) (a1_0_0 : Int) (a1_1_0 a1_2_0 : List (List D)) (a1_3_0 : Int) (K : (List (List C)) → Option β) : Option β :=
  Yb.f k a0 (a0.length : Int) a1_0_0 a1_1_0 a1_2_0 a1_3_0 (fun y239 => Zc (y239.length = a0.length) (K y239))
noncomputable def Yy.t (k : Nat) (a0 : List (List C)) (a1_0_0 : Int) (a1_1_0 a1_2_0 : List (List D)) (a1_3_0 : Int) : Option ((List (List C))) := Yy.g k a0 a1_0_0 a1_1_0 a1_2_0 a1_3_0 (fun z0 => some z0)
noncomputable def Yy.f {β : Type} (k : Nat) (a0 : List (List C)) (a1_0_0 : Int) (a1_1_0 a1_2_0 : List (List D)) (a1_3_0 : Int) (K : (List (List C)) → Option β) : Option β := bd1 (Yy.t k a0 a1_0_0 a1_1_0 a1_2_0 a1_3_0) K
noncomputable def Yy.e (k : Nat) : Zk := ent [.own false 28 [.o], .fn 220 [[.n], [.l], [.l], [.n]]] [] [.o] [] false (Yy.t k)
noncomputable def Yy.p (k : Nat) : Pro := ⟨Tryz.prog, [(254, Yb.e k)], Zn [] false [], k⟩
theorem Yy.ok (k : Nat) : Za Tryz.prog 219 (Yy.e k) := Zh (Yy.p k) mix tyok Tryz.func219 (Yb.ok k) (by kernel_rfl) (fun a0 a1_0_0 a1_1_0 a1_2_0 a1_3_0 => by show _ = _; kernel_rfl)
noncomputable def Yp.l3 {β : Type} (k : Nat) (bR : Int) (v3_3 : List (List C)) (K : (List (List C)) → Option β) (L3 : (Int × (List (List C))) → Option β) (v : Int × (List (List C))) : Option β :=
  match v with
  | (v3_1, v3_2) => bif (decide ((v3_1 : Int) < bR)) then (Zc ((0 : Int) ≤ v3_1 ∧ v3_1 < (v3_3.length : Int)) (ZaG v3_3 (Int.toNat v3_1) fun c442 => Zas (c442.drop 0) fun c443 r444 => cD c443 fun d445 => dInt .i64 d445 fun x446 => Zc ((0 : Int) ≤ x446 ∧ x446 < (v3_2.length : Int)) (ZaG v3_2 (Int.toNat x446) fun c447 => Zas (c447.drop 0) fun c448 r449 => cD c448 fun d450 => dInt .i64 d450 fun x451 => Zc ((0 : Int) ≤ x446 ∧ x446 < (v3_2.length : Int)) (Zc (Int.toNat x446 < v3_2.length) (L3 (IntKind.wrap .i64 (v3_1 + 1), v3_2.modify (Int.toNat x446) fun c => Zq c 0 [.d (.int .i64 (IntKind.wrap .i64 (x451 + 1)))])))))) else (K v3_2)
noncomputable def Yp.m2 {β : Type} (k : Nat) (aX aO aK : Int) (aS aY : List (List D)) (bB : Int) (bE : List (List C)) (K : (List (List C)) → Option β) (L2 : (Int × (List (List C))) → Option β) (v : Int × (List (List C))) (F : (Int → (List (List C)) → (Int × (List (List C))) → Option β)) : Option β :=
  match v with
  | (aV, v2_8) => bif (decide ((aV : Int) < aO)) then (Zc (v2_8.length + ([[.d (.int .i64 aV)]] : List (List C)).length ≤ ZN) (L2 (IntKind.wrap .i64 (aV + 1), v2_8 ++ ([[.d (.int .i64 aV)]] : List (List C))))) else (Yy.f k v2_8 aK aS aY bB (fun y431 => Zc (y431.length = v2_8.length ∧ flatC y431 = true) (Zc (0 ≤ (aX : Int) ∧ (aX : Int) ≤ (y431.length : Int)) (F ((y431.take (Int.toNat (aX : Int))).length : Int) (y431.take (Int.toNat (aX : Int))) (0, bE)))))
noncomputable def Yp.l2 {β : Type} (k : Nat) (aX aO aK : Int) (aS aY : List (List D)) (bB : Int) (bE : List (List C)) (K : (List (List C)) → Option β) (L2 : (Int × (List (List C))) → Option β) (v : Int × (List (List C))) : Option β := Yp.m2 k aX aO aK aS aY bB bE K L2 v (fun bR v3_3 => Zo (Yp.l3 k bR v3_3 K) k)
noncomputable def Yp.m1 {β : Type} (k : Nat) (aM : List (List D)) (aQ aP : Int) (aZ bA : List (List D)) (bF : Int) (K : (List (List C)) → Option β) (L1 : (Int × Int × (List (List C))) → Option β) (v : Int × Int × (List (List C))) (F : (Int → Int → Int → (List (List D)) → (List (List D)) → Int → (List (List C)) → (Int × (List (List C))) → Option β)) : Option β :=
  match v with
  | (aW, bC, v1_8) => bif (decide ((bC : Int) < aQ)) then (atR aM bC [.n] fun x401 => (atR aZ x401 [.n] fun x405 => let J0 := (IntKind.wrap .i64 (Int.tdiv (IntKind.wrap .i64 (aP * x405)) bF)); (Zc ((bF : Int) ≠ 0) (Zc (v1_8.length + ([[.d (.int .i64 J0)]] : List (List C)).length ≤ ZN) (atR aZ x401 [.n] fun x409 => (Zc ((bF : Int) ≠ 0) (L1 (IntKind.wrap .i64 (aW - (IntKind.wrap .i64 (Int.tdiv (IntKind.wrap .i64 (aP * x409)) bF))), IntKind.wrap .i64 (bC + 1), v1_8 ++ ([[.d (.int .i64 J0)]] : List (List C)))))))))) else (F aW (bA.length : Int) aP aZ bA bF v1_8 (0, ([] : List (List C))))
noncomputable def Yp.l1 {β : Type} (k : Nat) (aM : List (List D)) (aQ aP : Int) (aZ bA : List (List D)) (bF : Int) (K : (List (List C)) → Option β) (L1 : (Int × Int × (List (List C))) → Option β) (v : Int × Int × (List (List C))) : Option β := Yp.m1 k aM aQ aP aZ bA bF K L1 v (fun aX aO aK aS aY bB bE => Zo (Yp.l2 k aX aO aK aS aY bB bE K) k)
noncomputable def Yp.m0 {β : Type} (k : Nat) (aA : List (List D)) (aB aH : Int) (aI aJ : List (List D)) (K : (List (List C)) → Option β) (L0 : (Int × Int) → Option β) (v : Int × Int) (F : ((List (List D)) → Int → Int → (List (List D)) → (List (List D)) → Int → (Int × Int × (List (List C))) → Option β)) : Option β :=
  match v with
  | (aF, aL) => bif (decide ((aF : Int) < aB)) then (atR aA aF [.n] fun x339 => (atR aI x339 [.n] fun x343 => (L0 (IntKind.wrap .i64 (aF + 1), IntKind.wrap .i64 (aL + x343))))) else (F aJ (aJ.length : Int) aH aI aJ aL (aH, 0, ([] : List (List C))))
noncomputable def Yp.l0 {β : Type} (k : Nat) (aA : List (List D)) (aB aH : Int) (aI aJ : List (List D)) (K : (List (List C)) → Option β) (L0 : (Int × Int) → Option β) (v : Int × Int) : Option β := Yp.m0 k aA aB aH aI aJ K L0 v (fun aM aQ aP aZ bA bF => Zo (Yp.l1 k aM aQ aP aZ bA bF K) k)
noncomputable def Yp.m {β : Type} (k : Nat) (a0 : Int) (a1 a2 : List (List D)) (K : (List (List C)) → Option β) (F : ((List (List D)) → Int → Int → (List (List D)) → (List (List D)) → (Int × Int) → Option β)) : Option β :=
  F a2 (a2.length : Int) a0 a1 a2 (0, 0)
noncomputable def Yp.g {β : Type} (k : Nat) (a0 : Int) (a1 a2 : List (List D)) (K : (List (List C)) → Option β) : Option β :=
  Zo (Yp.l0 k a2 (a2.length : Int) a0 a1 a2 K) k (0, 0)
noncomputable def Yp.t (k : Nat) (a0 : Int) (a1 a2 : List (List D)) : Option ((List (List C))) := Yp.g k a0 a1 a2 (fun z0 => some z0)
noncomputable def Yp.f {β : Type} (k : Nat) (a0 : Int) (a1 a2 : List (List D)) (K : (List (List C)) → Option β) : Option β := bd1 (Yp.t k a0 a1 a2) K
noncomputable def Yp.e (k : Nat) : Zk := ent [.d .n, .d .l, .d .l] [1] [.o] [28] false (Yp.t k)
noncomputable def Yp.p (k : Nat) : Pro := ⟨Tryz.prog, [(219, Yy.e k)], Zn [(3, kp [3, 4, 5, 7, 18, 19, 20]), (10, kp [3, 4, 5, 7, 10, 33, 34, 35] [(11, .dat false)]), (17, kp [3, 4, 5, 7, 10, 11, 14, 63, 64]), (23, kp [10, 77, 78, 79])] false [], k⟩
noncomputable def Yp.d (k : Nat) (a0 : Int) (a1 a2 : List (List D)) : Ex → St → Option ((List (List C))) := (Yp.p k).fin Tryz.f153 [.d (.int .i64 a0), .d (.sl a1), .d (.sl a2)] [1] [.o]
noncomputable def Yp.s0 (aA : List (List D)) (aB aH : Int) (aI aJ : List (List D)) (v : Int × Int) : St :=
  match v with
  | (aF, aL) => ZX 91 [(3, .bp 0 0), (4, .bp 1 0), (5, .bp 2 0), (7, .bp 3 0), (18, .d false (.sl aA)), (19, .d true (.int .i64 aB)), (20, .d true (.int .i64 aF))] [.box none 3 [.d false (.int .i64 aH)], .box none 28 [.d false (.sl aI)], .box none 28 [.d false (.sl aJ)], .box none 3 [.d true (.int .i64 aL)]]
noncomputable def Yp.r0 (k : Nat) (a0 : Int) (a1 a2 aA : List (List D)) (aB aH : Int) (aI aJ : List (List D)) (n : Nat) (v : Int × Int) : Option ((List (List C))) := (Yp.p k).lp (Zt Tryz.f153) 3 [1, 1, 0, 1, 0] (Yp.d k a0 a1 a2) n (Yp.s0 aA aB aH aI aJ v)
noncomputable def Yp.s1 (aM : List (List D)) (aQ aP : Int) (aZ bA : List (List D)) (bF : Int) (v : Int × Int × (List (List C))) : St :=
  match v with
  | (aW, bC, v1_8) => ZX 91 [(3, .bp 0 0), (4, .bp 1 0), (5, .bp 2 0), (7, .bp 3 0), (10, .row 4), (11, .d false (.int .i64 aW)), (33, .d false (.sl aM)), (34, .d true (.int .i64 aQ)), (35, .d true (.int .i64 bC))] [.box none 3 [.d false (.int .i64 aP)], .box none 28 [.d false (.sl aZ)], .box none 28 [.d false (.sl bA)], .box none 3 [.d true (.int .i64 bF)], .row none true 28 v1_8]
noncomputable def Yp.r1 (k : Nat) (a0 : Int) (a1 a2 aM : List (List D)) (aQ aP : Int) (aZ bA : List (List D)) (bF : Int) (n : Nat) (v : Int × Int × (List (List C))) : Option ((List (List C))) := (Yp.p k).lp (Zt Tryz.f153) 10 [1, 1, 1, 1, 1, 0, 1, 0] (Yp.d k a0 a1 a2) n (Yp.s1 aM aQ aP aZ bA bF v)
noncomputable def Yp.s2 (aX aO aK : Int) (aS aY : List (List D)) (bB : Int) (bE : List (List C)) (v : Int × (List (List C))) : St :=
  match v with
  | (aV, v2_8) => ZX 91 [(3, .bp 0 0), (4, .bp 1 0), (5, .bp 2 0), (7, .bp 3 0), (10, .row 4), (11, .d false (.int .i64 aX)), (14, .row 5), (63, .d true (.int .i64 aO)), (64, .d true (.int .i64 aV))] [.box none 3 [.d false (.int .i64 aK)], .box none 28 [.d false (.sl aS)], .box none 28 [.d false (.sl aY)], .box none 3 [.d true (.int .i64 bB)], .row none true 28 bE, .row none true 28 v2_8]
noncomputable def Yp.r2 (k : Nat) (a0 : Int) (a1 a2 : List (List D)) (aX aO aK : Int) (aS aY : List (List D)) (bB : Int) (bE : List (List C)) (n : Nat) (v : Int × (List (List C))) : Option ((List (List C))) := (Yp.p k).lp (Zt Tryz.f153) 17 [1, 1, 1, 1, 1, 1, 1, 0, 1, 0] (Yp.d k a0 a1 a2) n (Yp.s2 aX aO aK aS aY bB bE v)
noncomputable def Yp.s3 (bR : Int) (v3_3 : List (List C)) (v : Int × (List (List C))) : St :=
  match v with
  | (v3_1, v3_2) => ZX 91 [(10, .row 0), (77, .row 1), (78, .d true (.int .i64 bR)), (79, .d true (.int .i64 v3_1))] [.row none true 28 v3_2, .row none true 28 v3_3]
noncomputable def Yp.r3 (k : Nat) (a0 : Int) (a1 a2 : List (List D)) (bR : Int) (v3_3 : List (List C)) (n : Nat) (v : Int × (List (List C))) : Option ((List (List C))) := (Yp.p k).lp (Zt Tryz.f153) 23 [1, 1, 1, 1, 1, 1, 1, 1, 1, 0, 1, 0] (Yp.d k a0 a1 a2) n (Yp.s3 bR v3_3 v)
theorem Yp.l3_eq (k : Nat) (a0 : Int) (a1 a2 : List (List D)) (bR : Int) (v3_3 : List (List C)) : ∀ n v, Yp.r3 k a0 a1 a2 bR v3_3 n v = Zo (Yp.l3 k bR v3_3 (fun z0 => some z0)) n v :=
  Zm (Yp.s3 bR v3_3) _ fun L3 v => by obtain ⟨v3_1, v3_2⟩ := v; kernel_rfl
theorem Yp.l2_eq (k : Nat) (a0 : Int) (a1 a2 : List (List D)) (aX aO aK : Int) (aS aY : List (List D)) (bB : Int) (bE : List (List C)) : ∀ n v, Yp.r2 k a0 a1 a2 aX aO aK aS aY bB bE n v = Zo (Yp.l2 k aX aO aK aS aY bB bE (fun z0 => some z0)) n v :=
  Zm (Yp.s2 aX aO aK aS aY bB bE) _ fun L2 v => by obtain ⟨aV, v2_8⟩ := v; exact Eq.trans (b := Yp.m2 k aX aO aK aS aY bB bE (fun z0 => some z0) (fun v => L2 (Yp.s2 aX aO aK aS aY bB bE v)) (aV, v2_8) (fun bR v3_3 => Yp.r3 k a0 a1 a2 bR v3_3 k)) (by kernel_rfl) (congrArg (Yp.m2 k aX aO aK aS aY bB bE (fun z0 => some z0) (fun v => L2 (Yp.s2 aX aO aK aS aY bB bE v)) (aV, v2_8)) (funext fun bR => funext fun v3_3 => funext fun v => Yp.l3_eq k a0 a1 a2 bR v3_3 k v))
theorem Yp.l1_eq (k : Nat) (a0 : Int) (a1 a2 aM : List (List D)) (aQ aP : Int) (aZ bA : List (List D)) (bF : Int) : ∀ n v, Yp.r1 k a0 a1 a2 aM aQ aP aZ bA bF n v = Zo (Yp.l1 k aM aQ aP aZ bA bF (fun z0 => some z0)) n v :=
  Zm (Yp.s1 aM aQ aP aZ bA bF) _ fun L1 v => by obtain ⟨aW, bC, v1_8⟩ := v; exact Eq.trans (b := Yp.m1 k aM aQ aP aZ bA bF (fun z0 => some z0) (fun v => L1 (Yp.s1 aM aQ aP aZ bA bF v)) (aW, bC, v1_8) (fun aX aO aK aS aY bB bE => Yp.r2 k a0 a1 a2 aX aO aK aS aY bB bE k)) (by kernel_rfl) (congrArg (Yp.m1 k aM aQ aP aZ bA bF (fun z0 => some z0) (fun v => L1 (Yp.s1 aM aQ aP aZ bA bF v)) (aW, bC, v1_8)) (funext fun aX => funext fun aO => funext fun aK => funext fun aS => funext fun aY => funext fun bB => funext fun bE => funext fun v => Yp.l2_eq k a0 a1 a2 aX aO aK aS aY bB bE k v))
theorem Yp.l0_eq (k : Nat) (a0 : Int) (a1 a2 aA : List (List D)) (aB aH : Int) (aI aJ : List (List D)) : ∀ n v, Yp.r0 k a0 a1 a2 aA aB aH aI aJ n v = Zo (Yp.l0 k aA aB aH aI aJ (fun z0 => some z0)) n v :=
  Zm (Yp.s0 aA aB aH aI aJ) _ fun L0 v => by obtain ⟨aF, aL⟩ := v; exact Eq.trans (b := Yp.m0 k aA aB aH aI aJ (fun z0 => some z0) (fun v => L0 (Yp.s0 aA aB aH aI aJ v)) (aF, aL) (fun aM aQ aP aZ bA bF => Yp.r1 k a0 a1 a2 aM aQ aP aZ bA bF k)) (by kernel_rfl) (congrArg (Yp.m0 k aA aB aH aI aJ (fun z0 => some z0) (fun v => L0 (Yp.s0 aA aB aH aI aJ v)) (aF, aL)) (funext fun aM => funext fun aQ => funext fun aP => funext fun aZ => funext fun bA => funext fun bF => funext fun v => Yp.l1_eq k a0 a1 a2 aM aQ aP aZ bA bF k v))
theorem Yp.ok (k : Nat) : Za Tryz.prog 153 (Yp.e k) := Zh (Yp.p k) mix tyok Tryz.func153 (Yy.ok k) (by kernel_rfl) (fun a0 a1 a2 => Eq.trans (b := Yp.m k a0 a1 a2 (fun z0 => some z0) (fun aA aB aH aI aJ => Yp.r0 k a0 a1 a2 aA aB aH aI aJ k)) (by kernel_rfl) (congrArg (Yp.m k a0 a1 a2 (fun z0 => some z0)) (funext fun aA => funext fun aB => funext fun aH => funext fun aI => funext fun aJ => funext fun v => Yp.l0_eq k a0 a1 a2 aA aB aH aI aJ k v)))
noncomputable def Yv.l2 {β : Type} (k : Nat) (aO aV : List (List D)) (aK : Int) (bB bE : List (List C)) (L0 : (Int × (List (List D)) × (List (List D)) × (List (List C))) → Option β) (K : (List (List C)) → Option β) (L2 : (Int × Int × (List (List C))) → Option β) (v : Int × Int × (List (List C))) : Option β :=
  match v with
  | (aX, aS, aY) => bif (decide ((aS : Int) < aK)) then (Zc ((0 : Int) ≤ aS ∧ aS < (bE.length : Int)) (ZaG bE (Int.toNat aS) fun c226 => Zas (c226.drop 0) fun c227 r228 => cD c227 fun d229 => dInt .i64 d229 fun x230 => Zc ((0 : Int) ≤ aS ∧ aS < (bB.length : Int)) (ZaG bB (Int.toNat aS) fun c231 => Zas (c231.drop 0) fun c232 r233 => cD c232 fun d234 => dInt .i64 d234 fun x235 => atR aV x235 [.n] fun x239 => (Zc ((0 : Int) ≤ x235 ∧ x235 < (aY.length : Int)) (ZaG aY (Int.toNat x235) fun c240 => Zas (c240.drop 0) fun c241 r242 => cD c241 fun d243 => dInt .i64 d243 fun x244 => Zc ((0 : Int) ≤ x235 ∧ x235 < (aY.length : Int)) (ZaG aY (Int.toNat x235) fun c245 => Zas (c245.drop 0) fun c246 r247 => cD c246 fun d248 => dInt .i64 d248 fun x249 => let J0 := (if ((IntKind.wrap .i64 (x239 - x244)) : Int) < x230 then (IntKind.wrap .i64 (x239 - x244)) else x230); Zc ((0 : Int) ≤ x235 ∧ x235 < (aY.length : Int)) (Zc (Int.toNat x235 < aY.length) (L2 (IntKind.wrap .i64 (aX - J0), IntKind.wrap .i64 (aS + 1), aY.modify (Int.toNat x235) fun c => Zq c 0 [.d (.int .i64 (IntKind.wrap .i64 (x249 + J0)))]))))))))) else (L0 (aX, aO, aV, aY))
noncomputable def Yv.m1 {β : Type} (k : Nat) (aW : Int) (aM aQ bC : List (List D)) (aP : Int) (bA : List (List C)) (L0 : (Int × (List (List D)) × (List (List D)) × (List (List C))) → Option β) (K : (List (List C)) → Option β) (L1 : (Int × (List (List C))) → Option β) (v : Int × (List (List C))) (F : ((List (List D)) → (List (List D)) → Int → (List (List C)) → (List (List C)) → (Int × Int × (List (List C))) → Option β)) : Option β :=
  match v with
  | (aZ, bF) => bif (decide ((aZ : Int) < aP)) then (atR bC aZ [.n] fun x191 => (bif (decide ((x191 : Int) > 0)) then (Zc ((0 : Int) ≤ aZ ∧ aZ < (bA.length : Int)) (ZaG bA (Int.toNat aZ) fun c192 => Zas (c192.drop 0) fun c193 r194 => cD c193 fun d195 => dInt .i64 d195 fun x196 => atR aQ aZ [.n] fun x200 => (bif (decide ((x196 : Int) < x200)) then (Zc (bF.length + ([[.d (.int .i64 aZ)]] : List (List C)).length ≤ ZN) (L1 (IntKind.wrap .i64 (aZ + 1), bF ++ ([[.d (.int .i64 aZ)]] : List (List C))))) else (L1 (IntKind.wrap .i64 (aZ + 1), bF))))) else (L1 (IntKind.wrap .i64 (aZ + 1), bF)))) else (bif (((bF.length : Int) : Int) == 0) then (K bA) else (Yp.f k aW aM (C.immRows bF) (fun y201 => F aM aQ (y201.length : Int) bF y201 (aW, 0, bA))))
noncomputable def Yv.l1 {β : Type} (k : Nat) (aW : Int) (aM aQ bC : List (List D)) (aP : Int) (bA : List (List C)) (L0 : (Int × (List (List D)) × (List (List D)) × (List (List C))) → Option β) (K : (List (List C)) → Option β) (L1 : (Int × (List (List C))) → Option β) (v : Int × (List (List C))) : Option β := Yv.m1 k aW aM aQ bC aP bA L0 K L1 v (fun aO aV aK bB bE => Zo (Yv.l2 k aO aV aK bB bE L0 K) k)
noncomputable def Yv.m0 {β : Type} (k : Nat) (K : (List (List C)) → Option β) (L0 : (Int × (List (List D)) × (List (List D)) × (List (List C))) → Option β) (v : Int × (List (List D)) × (List (List D)) × (List (List C))) (F : (Int → (List (List D)) → (List (List D)) → (List (List D)) → Int → (List (List C)) → (Int × (List (List C))) → Option β)) : Option β :=
  match v with
  | (aA, aB, aF, aH) => bif (decide ((aA : Int) > 0)) then (F aA aB aF aB (aB.length : Int) aH (0, ([] : List (List C)))) else (K aH)
noncomputable def Yv.l0 {β : Type} (k : Nat) (K : (List (List C)) → Option β) (L0 : (Int × (List (List D)) × (List (List D)) × (List (List C))) → Option β) (v : Int × (List (List D)) × (List (List D)) × (List (List C))) : Option β := Yv.m0 k K L0 v (fun aW aM aQ bC aP bA => Zo (Yv.l1 k aW aM aQ bC aP bA L0 K) k)
noncomputable def Yv.m {β : Type} (k : Nat) (a0 : Int) (a1 a2 : List (List D)) (K : (List (List C)) → Option β) (F : ((Int × (List (List D)) × (List (List D)) × (List (List C))) → Option β)) : Option β :=
  YaJ.f k a0 a1 a2 (fun y1 => bif (!y1) then (K ([] : List (List C))) else (Zc ((0 : Int) ≤ (a1.length : Int) ∧ (a1.length : Int) ≤ (ZN : Int) ∧ (a1.length : Int) ≤ (a1.length : Int) ∧ (a1.length : Int) ≤ (a1.length : Int)) (F (a0, a1, a2, List.replicate (Int.toNat (a1.length : Int)) ([.d (.int .i64 0)] : List C)))))
noncomputable def Yv.g {β : Type} (k : Nat) (a0 : Int) (a1 a2 : List (List D)) (K : (List (List C)) → Option β) : Option β := Yv.m k a0 a1 a2 K (Zo (Yv.l0 k K) k)
noncomputable def Yv.t (k : Nat) (a0 : Int) (a1 a2 : List (List D)) : Option ((List (List C))) := Yv.g k a0 a1 a2 (fun z0 => some z0)
noncomputable def Yv.f {β : Type} (k : Nat) (a0 : Int) (a1 a2 : List (List D)) (K : (List (List C)) → Option β) : Option β := bd1 (Yv.t k a0 a1 a2) K
noncomputable def Yv.e (k : Nat) : Zk := ent [.d .n, .d .l, .d .l] [1] [.o] [28] false (Yv.t k)
noncomputable def Yv.p (k : Nat) : Pro := ⟨Tryz.prog, [(152, YaJ.e k), (153, Yp.e k)], Zn [(4, kp [0, 1, 2, 7]), (7, kp [0, 1, 2, 7, 8, 25, 26, 27]), (14, kp [1, 2, 7, 8, 56, 57, 58] [(0, .dat false)])] false [], k⟩
noncomputable def Yv.d (k : Nat) (a0 : Int) (a1 a2 : List (List D)) : Ex → St → Option ((List (List C))) := (Yv.p k).fin Tryz.f72 [.d (.int .i64 a0), .d (.sl a1), .d (.sl a2)] [1] [.o]
noncomputable def Yv.s0 (v : Int × (List (List D)) × (List (List D)) × (List (List C))) : St :=
  match v with
  | (aA, aB, aF, aH) => ZX 90 [(0, .d false (.int .i64 aA)), (1, .d false (.sl aB)), (2, .d false (.sl aF)), (7, .row 0)] [.row none true 28 aH]
noncomputable def Yv.c0 (k : Nat) (a0 : Int) (a1 a2 : List (List D)) : Ex → St → Option ((List (List C))) := (Yv.p k).ct (Zt Tryz.f72) [1, 1, 1, 0, 0] (Yv.d k a0 a1 a2)
noncomputable def Yv.r0 (k : Nat) (a0 : Int) (a1 a2 : List (List D)) (n : Nat) (v : Int × (List (List D)) × (List (List D)) × (List (List C))) : Option ((List (List C))) := (Yv.p k).lp (Zt Tryz.f72) 4 [1, 1, 1, 0, 0] (Yv.d k a0 a1 a2) n (Yv.s0 v)
noncomputable def Yv.s1 (aW : Int) (aM aQ bC : List (List D)) (aP : Int) (bA : List (List C)) (v : Int × (List (List C))) : St :=
  match v with
  | (aZ, bF) => ZX 90 [(0, .d false (.int .i64 aW)), (1, .d false (.sl aM)), (2, .d false (.sl aQ)), (7, .row 0), (8, .row 1), (25, .d false (.sl bC)), (26, .d true (.int .i64 aP)), (27, .d true (.int .i64 aZ))] [.row none true 28 bA, .row none true 28 bF]
noncomputable def Yv.r1 (k : Nat) (a0 : Int) (a1 a2 : List (List D)) (aW : Int) (aM aQ bC : List (List D)) (aP : Int) (bA : List (List C)) (L0 : St → Option ((List (List C)))) (n : Nat) (v : Int × (List (List C))) : Option ((List (List C))) := (Yv.p k).lp (codeAt [1, 1, 1, 0, 0, 0] (Zt Tryz.f72)) 7 [1, 0, 1, 0, 1, 0] (backK ((Yv.p k).h.H 4) L0 (Yv.c0 k a0 a1 a2)) n (Yv.s1 aW aM aQ bC aP bA v)
noncomputable def Yv.s2 (aO aV : List (List D)) (aK : Int) (bB bE : List (List C)) (v : Int × Int × (List (List C))) : St :=
  match v with
  | (aX, aS, aY) => ZX 90 [(0, .d false (.int .i64 aX)), (1, .d false (.sl aO)), (2, .d false (.sl aV)), (7, .row 0), (8, .row 1), (56, .row 2), (57, .d true (.int .i64 aK)), (58, .d true (.int .i64 aS))] [.row none true 28 aY, .row none true 28 bB, .row none true 28 bE]
noncomputable def Yv.r2 (k : Nat) (a0 : Int) (a1 a2 aO aV : List (List D)) (aK : Int) (bB bE : List (List C)) (L0 : St → Option ((List (List C)))) (n : Nat) (v : Int × Int × (List (List C))) : Option ((List (List C))) := (Yv.p k).lp (codeAt [1, 1, 1, 0, 0, 0] (Zt Tryz.f72)) 14 [1, 0, 1, 1, 1, 1, 0] (backK ((Yv.p k).h.H 4) L0 (Yv.c0 k a0 a1 a2)) n (Yv.s2 aO aV aK bB bE v)
theorem Yv.l2_eq (k : Nat) (a0 : Int) (a1 a2 aO aV : List (List D)) (aK : Int) (bB bE : List (List C)) (L0 : St → Option ((List (List C)))) : ∀ n v, Yv.r2 k a0 a1 a2 aO aV aK bB bE L0 n v = Zo (Yv.l2 k aO aV aK bB bE (fun v => L0 (Yv.s0 v)) (fun z0 => some z0)) n v :=
  Zm (Yv.s2 aO aV aK bB bE) _ fun L2 v => by obtain ⟨aX, aS, aY⟩ := v; kernel_rfl
theorem Yv.l1_eq (k : Nat) (a0 : Int) (a1 a2 : List (List D)) (aW : Int) (aM aQ bC : List (List D)) (aP : Int) (bA : List (List C)) (L0 : St → Option ((List (List C)))) : ∀ n v, Yv.r1 k a0 a1 a2 aW aM aQ bC aP bA L0 n v = Zo (Yv.l1 k aW aM aQ bC aP bA (fun v => L0 (Yv.s0 v)) (fun z0 => some z0)) n v :=
  Zm (Yv.s1 aW aM aQ bC aP bA) _ fun L1 v => by obtain ⟨aZ, bF⟩ := v; exact Eq.trans (b := Yv.m1 k aW aM aQ bC aP bA (fun v => L0 (Yv.s0 v)) (fun z0 => some z0) (fun v => L1 (Yv.s1 aW aM aQ bC aP bA v)) (aZ, bF) (fun aO aV aK bB bE => Yv.r2 k a0 a1 a2 aO aV aK bB bE L0 k)) (by kernel_rfl) (congrArg (Yv.m1 k aW aM aQ bC aP bA (fun v => L0 (Yv.s0 v)) (fun z0 => some z0) (fun v => L1 (Yv.s1 aW aM aQ bC aP bA v)) (aZ, bF)) (funext fun aO => funext fun aV => funext fun aK => funext fun bB => funext fun bE => funext fun v => Yv.l2_eq k a0 a1 a2 aO aV aK bB bE L0 k v))
theorem Yv.l0_eq (k : Nat) (a0 : Int) (a1 a2 : List (List D)) : ∀ n v, Yv.r0 k a0 a1 a2 n v = Zo (Yv.l0 k (fun z0 => some z0)) n v :=
  Zm (Yv.s0) _ fun L0 v => by obtain ⟨aA, aB, aF, aH⟩ := v; exact Eq.trans (b := Yv.m0 k (fun z0 => some z0) (fun v => L0 (Yv.s0 v)) (aA, aB, aF, aH) (fun aW aM aQ bC aP bA => Yv.r1 k a0 a1 a2 aW aM aQ bC aP bA L0 k)) (by kernel_rfl) (congrArg (Yv.m0 k (fun z0 => some z0) (fun v => L0 (Yv.s0 v)) (aA, aB, aF, aH)) (funext fun aW => funext fun aM => funext fun aQ => funext fun bC => funext fun aP => funext fun bA => funext fun v => Yv.l1_eq k a0 a1 a2 aW aM aQ bC aP bA L0 k v))
theorem Yv.ok (k : Nat) : Za Tryz.prog 72 (Yv.e k) := Zh (Yv.p k) mix tyok Tryz.func72 ⟨YaJ.ok k, Yp.ok k⟩ (by kernel_rfl) (fun a0 a1 a2 => Eq.trans (b := Yv.m k a0 a1 a2 (fun z0 => some z0) (Yv.r0 k a0 a1 a2 k)) (by kernel_rfl) (congrArg (Yv.m k a0 a1 a2 (fun z0 => some z0)) (funext fun v => Yv.l0_eq k a0 a1 a2 k v)))
noncomputable def Y3.l0 {β : Type} (k : Nat) (aA aB : List (List D)) (aF aI : Int) (aJ aL aT : List (List D)) (K : (List (List C)) → Option β) (L0 : (Int × (List (List C))) → Option β) (v : Int × (List (List C))) : Option β :=
  match v with
  | (aH, bO) => bif (decide ((aH : Int) < aF)) then (atR aB aH [.s, .l, .l, .n] fun x254 x257 x260 x263 => (YaB.f k aI aJ aL aT x254 x257 x260 x263 (fun y264 => bif y264 then (Yab.f k aI aJ aL aT x254 (fun y265 => Zc (bO.length + ([[.d (.int .i64 y265)]] : List (List C)).length ≤ ZN) (L0 (IntKind.wrap .i64 (aH + 1), bO ++ ([[.d (.int .i64 y265)]] : List (List C)))))) else (Zc (bO.length + ([[.d (.int .i64 0)]] : List (List C)).length ≤ ZN) (L0 (IntKind.wrap .i64 (aH + 1), bO ++ ([[.d (.int .i64 0)]] : List (List C)))))))) else (Yv.f k aI (C.immRows bO) aA (fun y266 => K y266))
noncomputable def Y3.m {β : Type} (k : Nat) (aD : Int) (aC aE aG a1 a2 : List (List D)) (K : (List (List C)) → Option β) (F : ((List (List D)) → (List (List D)) → Int → Int → (List (List D)) → (List (List D)) → (List (List D)) → (Int × (List (List C))) → Option β)) : Option β :=
  YaI.f k aD aC aE aG a1 a2 (fun y73 => bif (!y73) then (K ([] : List (List C))) else (F a2 a1 (a1.length : Int) aD aC aE aG (0, ([] : List (List C)))))
noncomputable def Y3.g {β : Type} (k : Nat) (aD : Int) (aC aE aG a1 a2 : List (List D)) (K : (List (List C)) → Option β) : Option β :=
  YaI.f k aD aC aE aG a1 a2 (fun y73 => bif (!y73) then (K ([] : List (List C))) else (Zo (Y3.l0 k a2 a1 (a1.length : Int) aD aC aE aG K) k (0, ([] : List (List C)))))
noncomputable def Y3.t (k : Nat) (aD : Int) (aC aE aG a1 a2 : List (List D)) : Option ((List (List C))) := Y3.g k aD aC aE aG a1 a2 (fun z0 => some z0)
noncomputable def Y3.f {β : Type} (k : Nat) (aD : Int) (aC aE aG a1 a2 : List (List D)) (K : (List (List C)) → Option β) : Option β := bd1 (Y3.t k aD aC aE aG a1 a2) K
noncomputable def Y3.e (k : Nat) : Zk := ent [.agg [.n, .l, .l, .l], .d .l, .d .l] [1] [.o] [28] false (Y3.t k)
noncomputable def Y3.p (k : Nat) : Pro := ⟨Tryz.prog, [(69, YaI.e k), (70, YaB.e k), (71, Yab.e k), (72, Yv.e k)], Zn [(5, kp [2, 3, 7, 17, 18, 19])] false [], k⟩
noncomputable def Y3.d (k : Nat) (aD : Int) (aC aE aG a1 a2 : List (List D)) : Ex → St → Option ((List (List C))) := (Y3.p k).fin Tryz.f14 [.agg [.int .i64 aD, .sl aC, .sl aE, .sl aG], .d (.sl a1), .d (.sl a2)] [1] [.o]
noncomputable def Y3.s0 (aA aB : List (List D)) (aF aI : Int) (aJ aL aT : List (List D)) (v : Int × (List (List C))) : St :=
  match v with
  | (aH, bO) => ZX 40 [(2, .d false (.sl aA)), (3, .bp 0 0), (7, .row 1), (17, .d false (.sl aB)), (18, .d true (.int .i64 aF)), (19, .d true (.int .i64 aH))] [.box none 35 [.d false (.int .i64 aI), .d false (.sl aJ), .d false (.sl aL), .d false (.sl aT)], .row none true 28 bO]
noncomputable def Y3.r0 (k : Nat) (aD : Int) (aC aE aG a1 a2 aA aB : List (List D)) (aF aI : Int) (aJ aL aT : List (List D)) (n : Nat) (v : Int × (List (List C))) : Option ((List (List C))) := (Y3.p k).lp (Zt Tryz.f14) 5 [1, 1, 1, 0, 1, 0] (Y3.d k aD aC aE aG a1 a2) n (Y3.s0 aA aB aF aI aJ aL aT v)
theorem Y3.l0_eq (k : Nat) (aD : Int) (aC aE aG a1 a2 aA aB : List (List D)) (aF aI : Int) (aJ aL aT : List (List D)) : ∀ n v, Y3.r0 k aD aC aE aG a1 a2 aA aB aF aI aJ aL aT n v = Zo (Y3.l0 k aA aB aF aI aJ aL aT (fun z0 => some z0)) n v :=
  Zm (Y3.s0 aA aB aF aI aJ aL aT) _ fun L0 v => by obtain ⟨aH, bO⟩ := v; kernel_rfl
theorem Y3.ok (k : Nat) : Za Tryz.prog 14 (Y3.e k) := Zh (Y3.p k) mix tyok Tryz.func14 ⟨YaI.ok k, YaB.ok k, Yab.ok k, Yv.ok k⟩ (by kernel_rfl) (fun aD aC aE aG a1 a2 => Eq.trans (b := Y3.m k aD aC aE aG a1 a2 (fun z0 => some z0) (fun aA aB aF aI aJ aL aT => Y3.r0 k aD aC aE aG a1 a2 aA aB aF aI aJ aL aT k)) (by kernel_rfl) (congrArg (Y3.m k aD aC aE aG a1 a2 (fun z0 => some z0)) (funext fun aA => funext fun aB => funext fun aF => funext fun aI => funext fun aJ => funext fun aL => funext fun aT => funext fun v => Y3.l0_eq k aD aC aE aG a1 a2 aA aB aF aI aJ aL aT k v)))
noncomputable def Yad.l0 {β : Type} (k : Nat) (aA aB : List (List D)) (K : Bool → Option β) (L0 : Int → Option β) (v : Int) : Option β :=
  match v with
  | aF => bif (decide ((aF : Int) < (aA.length : Int))) then (atR aA aF [.n] fun x12 => (atR aB aF [.n] fun x16 => (bif ((x12 : Int) != x16) then (K false) else (L0 (IntKind.wrap .i64 (aF + 1)))))) else (K true)
noncomputable def Yad.m {β : Type} (k : Nat) (a0 a1 : List (List D)) (K : Bool → Option β) (F : ((List (List D)) → (List (List D)) → Int → Option β)) : Option β :=
  bif (((a0.length : Int) : Int) != (a1.length : Int)) then (K false) else (F a0 a1 (0))
noncomputable def Yad.g {β : Type} (k : Nat) (a0 a1 : List (List D)) (K : Bool → Option β) : Option β :=
  bif (((a0.length : Int) : Int) != (a1.length : Int)) then (K false) else (Zo (Yad.l0 k a0 a1 K) k (0))
noncomputable def Yad.t (k : Nat) (a0 a1 : List (List D)) : Option (Bool) := Yad.g k a0 a1 (fun z0 => some z0)
noncomputable def Yad.f {β : Type} (k : Nat) (a0 a1 : List (List D)) (K : Bool → Option β) : Option β := bd1 (Yad.t k a0 a1) K
noncomputable def Yad.e (k : Nat) : Zk := ent [.d .l, .d .l] [1] [.b] [4] false (Yad.t k)
noncomputable def Yad.p (k : Nat) : Pro := ⟨Tryz.prog, [], Zn [(4, kp [0, 1, 5])] false [], k⟩
noncomputable def Yad.d (k : Nat) (a0 a1 : List (List D)) : Ex → St → Option (Bool) := (Yad.p k).fin Tryz.f15 [.d (.sl a0), .d (.sl a1)] [1] [.b]
noncomputable def Yad.s0 (aA aB : List (List D)) (v : Int) : St :=
  match v with
  | aF => ZX 26 [(0, .d false (.sl aA)), (1, .d false (.sl aB)), (5, .d true (.int .i64 aF))] []
noncomputable def Yad.r0 (k : Nat) (a0 a1 aA aB : List (List D)) (n : Nat) (v : Int) : Option (Bool) := (Yad.p k).lp (Zt Tryz.f15) 4 [1, 1, 0, 1, 0] (Yad.d k a0 a1) n (Yad.s0 aA aB v)
theorem Yad.l0_eq (k : Nat) (a0 a1 aA aB : List (List D)) : ∀ n v, Yad.r0 k a0 a1 aA aB n v = Zo (Yad.l0 k aA aB (fun z0 => some z0)) n v :=
  Zm (Yad.s0 aA aB) _ fun L0 v => by kernel_rfl
theorem Yad.ok (k : Nat) : Za Tryz.prog 15 (Yad.e k) := Zh (Yad.p k) mix tyok Tryz.func15 trivial (by kernel_rfl) (fun a0 a1 => Eq.trans (b := Yad.m k a0 a1 (fun z0 => some z0) (fun aA aB => Yad.r0 k a0 a1 aA aB k)) (by kernel_rfl) (congrArg (Yad.m k a0 a1 (fun z0 => some z0)) (funext fun aA => funext fun aB => funext fun v => Yad.l0_eq k a0 a1 aA aB k v)))
noncomputable def YP.l0 {β : Type} (k : Nat) (aA aB : List (List D)) (K : Bool → Option β) (L0 : Int → Option β) (v : Int) : Option β :=
  match v with
  | aF => bif (decide ((aF : Int) < (aA.length : Int))) then (atR aA aF [.s] fun x12 => (atR aB aF [.s] fun x16 => (bif (!(Zae x12 x16)) then (K false) else (L0 (IntKind.wrap .i64 (aF + 1)))))) else (K true)
noncomputable def YP.m {β : Type} (k : Nat) (a0 a1 : List (List D)) (K : Bool → Option β) (F : ((List (List D)) → (List (List D)) → Int → Option β)) : Option β :=
  bif (((a0.length : Int) : Int) != (a1.length : Int)) then (K false) else (F a0 a1 (0))
noncomputable def YP.g {β : Type} (k : Nat) (a0 a1 : List (List D)) (K : Bool → Option β) : Option β :=
  bif (((a0.length : Int) : Int) != (a1.length : Int)) then (K false) else (Zo (YP.l0 k a0 a1 K) k (0))
noncomputable def YP.t (k : Nat) (a0 a1 : List (List D)) : Option (Bool) := YP.g k a0 a1 (fun z0 => some z0)
noncomputable def YP.f {β : Type} (k : Nat) (a0 a1 : List (List D)) (K : Bool → Option β) : Option β := bd1 (YP.t k a0 a1) K
noncomputable def YP.e (k : Nat) : Zk := ent [.d .l, .d .l] [1] [.b] [4] false (YP.t k)
noncomputable def YP.p (k : Nat) : Pro := ⟨Tryz.prog, [], Zn [(4, kp [0, 1, 5])] false [], k⟩
noncomputable def YP.d (k : Nat) (a0 a1 : List (List D)) : Ex → St → Option (Bool) := (YP.p k).fin Tryz.f74 [.d (.sl a0), .d (.sl a1)] [1] [.b]
noncomputable def YP.s0 (aA aB : List (List D)) (v : Int) : St :=
  match v with
  | aF => ZX 26 [(0, .d false (.sl aA)), (1, .d false (.sl aB)), (5, .d true (.int .i64 aF))] []
noncomputable def YP.r0 (k : Nat) (a0 a1 aA aB : List (List D)) (n : Nat) (v : Int) : Option (Bool) := (YP.p k).lp (Zt Tryz.f74) 4 [1, 1, 0, 1, 0] (YP.d k a0 a1) n (YP.s0 aA aB v)
theorem YP.l0_eq (k : Nat) (a0 a1 aA aB : List (List D)) : ∀ n v, YP.r0 k a0 a1 aA aB n v = Zo (YP.l0 k aA aB (fun z0 => some z0)) n v :=
  Zm (YP.s0 aA aB) _ fun L0 v => by kernel_rfl
theorem YP.ok (k : Nat) : Za Tryz.prog 74 (YP.e k) := Zh (YP.p k) mix tyok Tryz.func74 trivial (by kernel_rfl) (fun a0 a1 => Eq.trans (b := YP.m k a0 a1 (fun z0 => some z0) (fun aA aB => YP.r0 k a0 a1 aA aB k)) (by kernel_rfl) (congrArg (YP.m k a0 a1 (fun z0 => some z0)) (funext fun aA => funext fun aB => funext fun v => YP.l0_eq k a0 a1 aA aB k v)))
noncomputable def YaV.g {β : Type} (k : Nat) (aD : Int) (aC : ByteArray) (aE : List (List D)) (aR : Int) (aN : ByteArray) (aU : List (List D)) (K : Bool → Option β) : Option β :=
  bif ((aD : Int) != aR) then (K false) else (bif (!(Zae aC aN)) then (K false) else (YP.f k aE aU (fun y17 => bif (!y17) then (K false) else (K true))))
noncomputable def YaV.t (k : Nat) (aD : Int) (aC : ByteArray) (aE : List (List D)) (aR : Int) (aN : ByteArray) (aU : List (List D)) : Option (Bool) := YaV.g k aD aC aE aR aN aU (fun z0 => some z0)
noncomputable def YaV.f {β : Type} (k : Nat) (aD : Int) (aC : ByteArray) (aE : List (List D)) (aR : Int) (aN : ByteArray) (aU : List (List D)) (K : Bool → Option β) : Option β := bd1 (YaV.t k aD aC aE aR aN aU) K
noncomputable def YaV.e (k : Nat) : Zk := ent [.agg [.n, .s, .l], .agg [.n, .s, .l]] [1] [.b] [4] false (YaV.t k)
noncomputable def YaV.p (k : Nat) : Pro := ⟨Tryz.prog, [(74, YP.e k)], Zn [] false [], k⟩
theorem YaV.ok (k : Nat) : Za Tryz.prog 154 (YaV.e k) := Zh (YaV.p k) mix tyok Tryz.func154 (YP.ok k) (by kernel_rfl) (fun aD aC aE aR aN aU => by show _ = _; kernel_rfl)
noncomputable def Yah.l0 {β : Type} (k : Nat) (aA aB : List (List D)) (K : Bool → Option β) (L0 : Int → Option β) (v : Int) : Option β :=
  match v with
  | aF => bif (decide ((aF : Int) < (aA.length : Int))) then (atR aA aF [.n, .s, .l] fun x25 x28 x31 => (atR aB aF [.n, .s, .l] fun x35 x38 x41 => (YaV.f k x25 x28 x31 x35 x38 x41 (fun y42 => bif (!y42) then (K false) else (L0 (IntKind.wrap .i64 (aF + 1))))))) else (K true)
noncomputable def Yah.m {β : Type} (k : Nat) (a0 a1 : List (List D)) (K : Bool → Option β) (F : ((List (List D)) → (List (List D)) → Int → Option β)) : Option β :=
  bif (((a0.length : Int) : Int) != (a1.length : Int)) then (K false) else (F a0 a1 (0))
noncomputable def Yah.g {β : Type} (k : Nat) (a0 a1 : List (List D)) (K : Bool → Option β) : Option β :=
  bif (((a0.length : Int) : Int) != (a1.length : Int)) then (K false) else (Zo (Yah.l0 k a0 a1 K) k (0))
noncomputable def Yah.t (k : Nat) (a0 a1 : List (List D)) : Option (Bool) := Yah.g k a0 a1 (fun z0 => some z0)
noncomputable def Yah.f {β : Type} (k : Nat) (a0 a1 : List (List D)) (K : Bool → Option β) : Option β := bd1 (Yah.t k a0 a1) K
noncomputable def Yah.e (k : Nat) : Zk := ent [.d .l, .d .l] [1] [.b] [4] false (Yah.t k)
noncomputable def Yah.p (k : Nat) : Pro := ⟨Tryz.prog, [(154, YaV.e k)], Zn [(4, kp [0, 1, 5])] false [], k⟩
noncomputable def Yah.d (k : Nat) (a0 a1 : List (List D)) : Ex → St → Option (Bool) := (Yah.p k).fin Tryz.f73 [.d (.sl a0), .d (.sl a1)] [1] [.b]
noncomputable def Yah.s0 (aA aB : List (List D)) (v : Int) : St :=
  match v with
  | aF => ZX 27 [(0, .d false (.sl aA)), (1, .d false (.sl aB)), (5, .d true (.int .i64 aF))] []
noncomputable def Yah.r0 (k : Nat) (a0 a1 aA aB : List (List D)) (n : Nat) (v : Int) : Option (Bool) := (Yah.p k).lp (Zt Tryz.f73) 4 [1, 1, 0, 1, 0] (Yah.d k a0 a1) n (Yah.s0 aA aB v)
theorem Yah.l0_eq (k : Nat) (a0 a1 aA aB : List (List D)) : ∀ n v, Yah.r0 k a0 a1 aA aB n v = Zo (Yah.l0 k aA aB (fun z0 => some z0)) n v :=
  Zm (Yah.s0 aA aB) _ fun L0 v => by kernel_rfl
theorem Yah.ok (k : Nat) : Za Tryz.prog 73 (Yah.e k) := Zh (Yah.p k) mix tyok Tryz.func73 (YaV.ok k) (by kernel_rfl) (fun a0 a1 => Eq.trans (b := Yah.m k a0 a1 (fun z0 => some z0) (fun aA aB => Yah.r0 k a0 a1 aA aB k)) (by kernel_rfl) (congrArg (Yah.m k a0 a1 (fun z0 => some z0)) (funext fun aA => funext fun aB => funext fun v => Yah.l0_eq k a0 a1 aA aB k v)))
noncomputable def YaO.g {β : Type} (k : Nat) (aD : ByteArray) (aC : Int) (aR : ByteArray) (aN : Int) (K : Bool → Option β) : Option β :=
  bif (!(Zae aD aR)) then (K false) else (bif ((aC : Int) != aN) then (K false) else (K true))
noncomputable def YaO.t (k : Nat) (aD : ByteArray) (aC : Int) (aR : ByteArray) (aN : Int) : Option (Bool) := YaO.g k aD aC aR aN (fun z0 => some z0)
noncomputable def YaO.f {β : Type} (k : Nat) (aD : ByteArray) (aC : Int) (aR : ByteArray) (aN : Int) (K : Bool → Option β) : Option β := bd1 (YaO.t k aD aC aR aN) K
noncomputable def YaO.e (k : Nat) : Zk := ent [.agg [.s, .n], .agg [.s, .n]] [1] [.b] [4] false (YaO.t k)
noncomputable def YaO.p (k : Nat) : Pro := ⟨Tryz.prog, [], Zn [] false [], k⟩
theorem YaO.ok (k : Nat) : Za Tryz.prog 155 (YaO.e k) := Zh (YaO.p k) mix tyok Tryz.func155 trivial (by kernel_rfl) (fun aD aC aR aN => by show _ = _; kernel_rfl)
noncomputable def Y9.l0 {β : Type} (k : Nat) (aA aB : List (List D)) (K : Bool → Option β) (L0 : Int → Option β) (v : Int) : Option β :=
  match v with
  | aF => bif (decide ((aF : Int) < (aA.length : Int))) then (atR aA aF [.s, .n] fun x19 x22 => (atR aB aF [.s, .n] fun x26 x29 => (YaO.f k x19 x22 x26 x29 (fun y30 => bif (!y30) then (K false) else (L0 (IntKind.wrap .i64 (aF + 1))))))) else (K true)
noncomputable def Y9.m {β : Type} (k : Nat) (a0 a1 : List (List D)) (K : Bool → Option β) (F : ((List (List D)) → (List (List D)) → Int → Option β)) : Option β :=
  bif (((a0.length : Int) : Int) != (a1.length : Int)) then (K false) else (F a0 a1 (0))
noncomputable def Y9.g {β : Type} (k : Nat) (a0 a1 : List (List D)) (K : Bool → Option β) : Option β :=
  bif (((a0.length : Int) : Int) != (a1.length : Int)) then (K false) else (Zo (Y9.l0 k a0 a1 K) k (0))
noncomputable def Y9.t (k : Nat) (a0 a1 : List (List D)) : Option (Bool) := Y9.g k a0 a1 (fun z0 => some z0)
noncomputable def Y9.f {β : Type} (k : Nat) (a0 a1 : List (List D)) (K : Bool → Option β) : Option β := bd1 (Y9.t k a0 a1) K
noncomputable def Y9.e (k : Nat) : Zk := ent [.d .l, .d .l] [1] [.b] [4] false (Y9.t k)
noncomputable def Y9.p (k : Nat) : Pro := ⟨Tryz.prog, [(155, YaO.e k)], Zn [(4, kp [0, 1, 5])] false [], k⟩
noncomputable def Y9.d (k : Nat) (a0 a1 : List (List D)) : Ex → St → Option (Bool) := (Y9.p k).fin Tryz.f75 [.d (.sl a0), .d (.sl a1)] [1] [.b]
noncomputable def Y9.s0 (aA aB : List (List D)) (v : Int) : St :=
  match v with
  | aF => ZX 27 [(0, .d false (.sl aA)), (1, .d false (.sl aB)), (5, .d true (.int .i64 aF))] []
noncomputable def Y9.r0 (k : Nat) (a0 a1 aA aB : List (List D)) (n : Nat) (v : Int) : Option (Bool) := (Y9.p k).lp (Zt Tryz.f75) 4 [1, 1, 0, 1, 0] (Y9.d k a0 a1) n (Y9.s0 aA aB v)
theorem Y9.l0_eq (k : Nat) (a0 a1 aA aB : List (List D)) : ∀ n v, Y9.r0 k a0 a1 aA aB n v = Zo (Y9.l0 k aA aB (fun z0 => some z0)) n v :=
  Zm (Y9.s0 aA aB) _ fun L0 v => by kernel_rfl
theorem Y9.ok (k : Nat) : Za Tryz.prog 75 (Y9.e k) := Zh (Y9.p k) mix tyok Tryz.func75 (YaO.ok k) (by kernel_rfl) (fun a0 a1 => Eq.trans (b := Y9.m k a0 a1 (fun z0 => some z0) (fun aA aB => Y9.r0 k a0 a1 aA aB k)) (by kernel_rfl) (congrArg (Y9.m k a0 a1 (fun z0 => some z0)) (funext fun aA => funext fun aB => funext fun v => Y9.l0_eq k a0 a1 aA aB k v)))
noncomputable def YaU.g {β : Type} (k : Nat) (aD : Int) (aC aE aG : List (List D)) (aR : Int) (aN aU bD : List (List D)) (K : Bool → Option β) : Option β :=
  bif ((aD : Int) != aR) then (K false) else (Yah.f k aC aN (fun y43 => bif (!y43) then (K false) else (YP.f k aE aU (fun y44 => bif (!y44) then (K false) else (Y9.f k aG bD (fun y45 => bif (!y45) then (K false) else (K true)))))))
noncomputable def YaU.t (k : Nat) (aD : Int) (aC aE aG : List (List D)) (aR : Int) (aN aU bD : List (List D)) : Option (Bool) := YaU.g k aD aC aE aG aR aN aU bD (fun z0 => some z0)
noncomputable def YaU.f {β : Type} (k : Nat) (aD : Int) (aC aE aG : List (List D)) (aR : Int) (aN aU bD : List (List D)) (K : Bool → Option β) : Option β := bd1 (YaU.t k aD aC aE aG aR aN aU bD) K
noncomputable def YaU.e (k : Nat) : Zk := ent [.agg [.n, .l, .l, .l], .agg [.n, .l, .l, .l]] [1] [.b] [4] false (YaU.t k)
noncomputable def YaU.p (k : Nat) : Pro := ⟨Tryz.prog, [(73, Yah.e k), (74, YP.e k), (75, Y9.e k)], Zn [] false [], k⟩
theorem YaU.ok (k : Nat) : Za Tryz.prog 16 (YaU.e k) := Zh (YaU.p k) mix tyok Tryz.func16 ⟨Yah.ok k, YP.ok k, Y9.ok k⟩ (by kernel_rfl) (fun aD aC aE aG aR aN aU bD => by show _ = _; kernel_rfl)
noncomputable def YaP.g {β : Type} (k : Nat) (aD aC aR aN : ByteArray) (K : Bool → Option β) : Option β :=
  bif (!(Zae aD aR)) then (K false) else (bif (!(Zae aC aN)) then (K false) else (K true))
noncomputable def YaP.t (k : Nat) (aD aC aR aN : ByteArray) : Option (Bool) := YaP.g k aD aC aR aN (fun z0 => some z0)
noncomputable def YaP.f {β : Type} (k : Nat) (aD aC aR aN : ByteArray) (K : Bool → Option β) : Option β := bd1 (YaP.t k aD aC aR aN) K
noncomputable def YaP.e (k : Nat) : Zk := ent [.agg [.s, .s], .agg [.s, .s]] [1] [.b] [4] false (YaP.t k)
noncomputable def YaP.p (k : Nat) : Pro := ⟨Tryz.prog, [], Zn [] false [], k⟩
theorem YaP.ok (k : Nat) : Za Tryz.prog 221 (YaP.e k) := Zh (YaP.p k) mix tyok Tryz.func221 trivial (by kernel_rfl) (fun aD aC aR aN => by show _ = _; kernel_rfl)
noncomputable def Yaa.l0 {β : Type} (k : Nat) (aA aB : List (List D)) (K : Bool → Option β) (L0 : Int → Option β) (v : Int) : Option β :=
  match v with
  | aF => bif (decide ((aF : Int) < (aA.length : Int))) then (atR aA aF [.s, .s] fun x19 x22 => (atR aB aF [.s, .s] fun x26 x29 => (YaP.f k x19 x22 x26 x29 (fun y30 => bif (!y30) then (K false) else (L0 (IntKind.wrap .i64 (aF + 1))))))) else (K true)
noncomputable def Yaa.m {β : Type} (k : Nat) (a0 a1 : List (List D)) (K : Bool → Option β) (F : ((List (List D)) → (List (List D)) → Int → Option β)) : Option β :=
  bif (((a0.length : Int) : Int) != (a1.length : Int)) then (K false) else (F a0 a1 (0))
noncomputable def Yaa.g {β : Type} (k : Nat) (a0 a1 : List (List D)) (K : Bool → Option β) : Option β :=
  bif (((a0.length : Int) : Int) != (a1.length : Int)) then (K false) else (Zo (Yaa.l0 k a0 a1 K) k (0))
noncomputable def Yaa.t (k : Nat) (a0 a1 : List (List D)) : Option (Bool) := Yaa.g k a0 a1 (fun z0 => some z0)
noncomputable def Yaa.f {β : Type} (k : Nat) (a0 a1 : List (List D)) (K : Bool → Option β) : Option β := bd1 (Yaa.t k a0 a1) K
noncomputable def Yaa.e (k : Nat) : Zk := ent [.d .l, .d .l] [1] [.b] [4] false (Yaa.t k)
noncomputable def Yaa.p (k : Nat) : Pro := ⟨Tryz.prog, [(221, YaP.e k)], Zn [(4, kp [0, 1, 5])] false [], k⟩
noncomputable def Yaa.d (k : Nat) (a0 a1 : List (List D)) : Ex → St → Option (Bool) := (Yaa.p k).fin Tryz.f156 [.d (.sl a0), .d (.sl a1)] [1] [.b]
noncomputable def Yaa.s0 (aA aB : List (List D)) (v : Int) : St :=
  match v with
  | aF => ZX 27 [(0, .d false (.sl aA)), (1, .d false (.sl aB)), (5, .d true (.int .i64 aF))] []
noncomputable def Yaa.r0 (k : Nat) (a0 a1 aA aB : List (List D)) (n : Nat) (v : Int) : Option (Bool) := (Yaa.p k).lp (Zt Tryz.f156) 4 [1, 1, 0, 1, 0] (Yaa.d k a0 a1) n (Yaa.s0 aA aB v)
theorem Yaa.l0_eq (k : Nat) (a0 a1 aA aB : List (List D)) : ∀ n v, Yaa.r0 k a0 a1 aA aB n v = Zo (Yaa.l0 k aA aB (fun z0 => some z0)) n v :=
  Zm (Yaa.s0 aA aB) _ fun L0 v => by kernel_rfl
theorem Yaa.ok (k : Nat) : Za Tryz.prog 156 (Yaa.e k) := Zh (Yaa.p k) mix tyok Tryz.func156 (YaP.ok k) (by kernel_rfl) (fun a0 a1 => Eq.trans (b := Yaa.m k a0 a1 (fun z0 => some z0) (fun aA aB => Yaa.r0 k a0 a1 aA aB k)) (by kernel_rfl) (congrArg (Yaa.m k a0 a1 (fun z0 => some z0)) (funext fun aA => funext fun aB => funext fun v => Yaa.l0_eq k a0 a1 aA aB k v)))
noncomputable def YaF.g {β : Type} (k : Nat) (aD : ByteArray) (aC aE : List (List D)) (aG : Int) (aR : ByteArray) (aN aU : List (List D)) (bD : Int) (K : Bool → Option β) : Option β :=
  bif (!(Zae aD aR)) then (K false) else (Yaa.f k aC aN (fun y31 => bif (!y31) then (K false) else (YP.f k aE aU (fun y32 => bif (!y32) then (K false) else (bif ((aG : Int) != bD) then (K false) else (K true))))))
noncomputable def YaF.t (k : Nat) (aD : ByteArray) (aC aE : List (List D)) (aG : Int) (aR : ByteArray) (aN aU : List (List D)) (bD : Int) : Option (Bool) := YaF.g k aD aC aE aG aR aN aU bD (fun z0 => some z0)
noncomputable def YaF.f {β : Type} (k : Nat) (aD : ByteArray) (aC aE : List (List D)) (aG : Int) (aR : ByteArray) (aN aU : List (List D)) (bD : Int) (K : Bool → Option β) : Option β := bd1 (YaF.t k aD aC aE aG aR aN aU bD) K
noncomputable def YaF.e (k : Nat) : Zk := ent [.agg [.s, .l, .l, .n], .agg [.s, .l, .l, .n]] [1] [.b] [4] false (YaF.t k)
noncomputable def YaF.p (k : Nat) : Pro := ⟨Tryz.prog, [(156, Yaa.e k), (74, YP.e k)], Zn [] false [], k⟩
theorem YaF.ok (k : Nat) : Za Tryz.prog 76 (YaF.e k) := Zh (YaF.p k) mix tyok Tryz.func76 ⟨Yaa.ok k, YP.ok k⟩ (by kernel_rfl) (fun aD aC aE aG aR aN aU bD => by show _ = _; kernel_rfl)
noncomputable def YZ.l0 {β : Type} (k : Nat) (aA aB : List (List D)) (K : Bool → Option β) (L0 : Int → Option β) (v : Int) : Option β :=
  match v with
  | aF => bif (decide ((aF : Int) < (aA.length : Int))) then (atR aA aF [.s, .l, .l, .n] fun x37 x40 x43 x46 => (atR aB aF [.s, .l, .l, .n] fun x50 x53 x56 x59 => (YaF.f k x37 x40 x43 x46 x50 x53 x56 x59 (fun y60 => bif (!y60) then (K false) else (L0 (IntKind.wrap .i64 (aF + 1))))))) else (K true)
noncomputable def YZ.m {β : Type} (k : Nat) (a0 a1 : List (List D)) (K : Bool → Option β) (F : ((List (List D)) → (List (List D)) → Int → Option β)) : Option β :=
  bif (((a0.length : Int) : Int) != (a1.length : Int)) then (K false) else (F a0 a1 (0))
noncomputable def YZ.g {β : Type} (k : Nat) (a0 a1 : List (List D)) (K : Bool → Option β) : Option β :=
  bif (((a0.length : Int) : Int) != (a1.length : Int)) then (K false) else (Zo (YZ.l0 k a0 a1 K) k (0))
noncomputable def YZ.t (k : Nat) (a0 a1 : List (List D)) : Option (Bool) := YZ.g k a0 a1 (fun z0 => some z0)
noncomputable def YZ.f {β : Type} (k : Nat) (a0 a1 : List (List D)) (K : Bool → Option β) : Option β := bd1 (YZ.t k a0 a1) K
noncomputable def YZ.e (k : Nat) : Zk := ent [.d .l, .d .l] [1] [.b] [4] false (YZ.t k)
noncomputable def YZ.p (k : Nat) : Pro := ⟨Tryz.prog, [(76, YaF.e k)], Zn [(4, kp [0, 1, 5])] false [], k⟩
noncomputable def YZ.d (k : Nat) (a0 a1 : List (List D)) : Ex → St → Option (Bool) := (YZ.p k).fin Tryz.f17 [.d (.sl a0), .d (.sl a1)] [1] [.b]
noncomputable def YZ.s0 (aA aB : List (List D)) (v : Int) : St :=
  match v with
  | aF => ZX 27 [(0, .d false (.sl aA)), (1, .d false (.sl aB)), (5, .d true (.int .i64 aF))] []
noncomputable def YZ.r0 (k : Nat) (a0 a1 aA aB : List (List D)) (n : Nat) (v : Int) : Option (Bool) := (YZ.p k).lp (Zt Tryz.f17) 4 [1, 1, 0, 1, 0] (YZ.d k a0 a1) n (YZ.s0 aA aB v)
theorem YZ.l0_eq (k : Nat) (a0 a1 aA aB : List (List D)) : ∀ n v, YZ.r0 k a0 a1 aA aB n v = Zo (YZ.l0 k aA aB (fun z0 => some z0)) n v :=
  Zm (YZ.s0 aA aB) _ fun L0 v => by kernel_rfl
theorem YZ.ok (k : Nat) : Za Tryz.prog 17 (YZ.e k) := Zh (YZ.p k) mix tyok Tryz.func17 (YaF.ok k) (by kernel_rfl) (fun a0 a1 => Eq.trans (b := YZ.m k a0 a1 (fun z0 => some z0) (fun aA aB => YZ.r0 k a0 a1 aA aB k)) (by kernel_rfl) (congrArg (YZ.m k a0 a1 (fun z0 => some z0)) (funext fun aA => funext fun aB => funext fun v => YZ.l0_eq k a0 a1 aA aB k v)))
noncomputable def Ym.l0 {β : Type} (k : Nat) (K : ByteArray → Option β) (L0 : (Int × ByteArray) → Option β) (v : Int × ByteArray) : Option β :=
  match v with
  | (aA, aB) => bif (decide ((aA : Int) > 0)) then (let J0 := (⟨#[UInt8.ofNat (Int.toNat (IntKind.wrap .u8 (IntKind.wrap .i64 (48 + (Int.tmod aA 10)))))]⟩ : ByteArray); Zc ((10 : Int) ≠ 0) (Zc (((J0.size + aB.size : Nat) : Int) ≤ 9223372036854775807) (Zc ((10 : Int) ≠ 0) (L0 (IntKind.wrap .i64 (Int.tdiv aA 10), J0 ++ aB))))) else (Zc ((((⟨#[109]⟩ : ByteArray).size + aB.size : Nat) : Int) ≤ 9223372036854775807) (K ((⟨#[109]⟩ : ByteArray) ++ aB)))
noncomputable def Ym.m {β : Type} (k : Nat) (a0 : Int) (K : ByteArray → Option β) (F : ((Int × ByteArray) → Option β)) : Option β :=
  bif (decide ((a0 : Int) ≤ 0)) then (K (⟨#[109, 48]⟩ : ByteArray)) else (F (a0, (⟨#[]⟩ : ByteArray)))
noncomputable def Ym.g {β : Type} (k : Nat) (a0 : Int) (K : ByteArray → Option β) : Option β :=
  bif (decide ((a0 : Int) ≤ 0)) then (K (⟨#[109, 48]⟩ : ByteArray)) else (Zo (Ym.l0 k K) k (a0, (⟨#[]⟩ : ByteArray)))
noncomputable def Ym.t (k : Nat) (a0 : Int) : Option (ByteArray) := Ym.g k a0 (fun z0 => some z0)
noncomputable def Ym.f {β : Type} (k : Nat) (a0 : Int) (K : ByteArray → Option β) : Option β := bd1 (Ym.t k a0) K
noncomputable def Ym.e (k : Nat) : Zk := ent [.d .n] [1] [.s] [9] false (Ym.t k)
noncomputable def Ym.p (k : Nat) : Pro := ⟨Tryz.prog, [], Zn [(4, kp [3] [(0, .dat false)])] false [], k⟩
noncomputable def Ym.d (k : Nat) (a0 : Int) : Ex → St → Option (ByteArray) := (Ym.p k).fin Tryz.f80 [.d (.int .i64 a0)] [1] [.s]
noncomputable def Ym.s0 (v : Int × ByteArray) : St :=
  match v with
  | (aA, aB) => ZX 20 [(0, .d false (.int .i64 aA)), (3, .d true (.str aB))] []
noncomputable def Ym.r0 (k : Nat) (a0 : Int) (n : Nat) (v : Int × ByteArray) : Option (ByteArray) := (Ym.p k).lp (Zt Tryz.f80) 4 [1, 1, 1, 0, 0] (Ym.d k a0) n (Ym.s0 v)
theorem Ym.l0_eq (k : Nat) (a0 : Int) : ∀ n v, Ym.r0 k a0 n v = Zo (Ym.l0 k (fun z0 => some z0)) n v :=
  Zm (Ym.s0) _ fun L0 v => by obtain ⟨aA, aB⟩ := v; kernel_rfl
theorem Ym.ok (k : Nat) : Za Tryz.prog 80 (Ym.e k) := Zh (Ym.p k) mix tyok Tryz.func80 trivial (by kernel_rfl) (fun a0 => Eq.trans (b := Ym.m k a0 (fun z0 => some z0) (Ym.r0 k a0 k)) (by kernel_rfl) (congrArg (Ym.m k a0 (fun z0 => some z0)) (funext fun v => Ym.l0_eq k a0 k v)))
noncomputable def YD.l0 {β : Type} (k : Nat) (K : Int → (List (List C)) → Option β) (L0 : (Int × Int × (List (List C))) → Option β) (v : Int × Int × (List (List C))) : Option β :=
  match v with
  | (aA, aB, aF) => bif (decide ((aB : Int) < (aF.length : Int))) then (Ym.f k aA (fun y2 => Zc ((0 : Int) ≤ aB ∧ aB < (aF.length : Int)) (Zc (Int.toNat aB < aF.length) (L0 (IntKind.wrap .i64 (aA + 1), IntKind.wrap .i64 (aB + 1), aF.modify (Int.toNat aB) fun c => Zq c 0 [.d (.str y2)]))))) else (K aA aF)
noncomputable def YD.m {β : Type} (k : Nat) (a0 : List (List C)) (a1 : Int) (K : Int → (List (List C)) → Option β) (F : ((Int × Int × (List (List C))) → Option β)) : Option β :=
  F (a1, 0, a0)
noncomputable def YD.g {β : Type} (k : Nat) (a0 : List (List C)) (a1 : Int) (K : Int → (List (List C)) → Option β) : Option β :=
  Zo (YD.l0 k K) k (a1, 0, a0)
noncomputable def YD.t (k : Nat) (a0 : List (List C)) (a1 : Int) : Option (Int × (List (List C))) := YD.g k a0 a1 (fun z0 z1 => some (z0, z1))
noncomputable def YD.f {β : Type} (k : Nat) (a0 : List (List C)) (a1 : Int) (K : Int → (List (List C)) → Option β) : Option β := bd2 (YD.t k a0 a1) K
noncomputable def YD.e (k : Nat) : Zk := ent [.own false 23 [.o], .d .n] [1] [.n, .o] [3] false (YD.t k)
noncomputable def YD.p (k : Nat) : Pro := ⟨Tryz.prog, [(80, Ym.e k)], Zn [(2, kp [0, 5] [(1, .dat false)])] false [], k⟩
noncomputable def YD.d (k : Nat) (a0 : List (List C)) (a1 : Int) : Ex → St → Option (Int × (List (List C))) := (YD.p k).fin Tryz.f78 [.own false [.own a0], .d (.int .i64 a1)] [1] [.n, .o]
noncomputable def YD.s0 (v : Int × Int × (List (List C))) : St :=
  match v with
  | (aA, aB, aF) => ZX 20 [(0, .row 0), (1, .d false (.int .i64 aA)), (5, .d true (.int .i64 aB))] [.row (some 0) false 23 aF]
noncomputable def YD.r0 (k : Nat) (a0 : List (List C)) (a1 : Int) (n : Nat) (v : Int × Int × (List (List C))) : Option (Int × (List (List C))) := (YD.p k).lp (Zt Tryz.f78) 2 [1, 0, 1, 0] (YD.d k a0 a1) n (YD.s0 v)
theorem YD.l0_eq (k : Nat) (a0 : List (List C)) (a1 : Int) : ∀ n v, YD.r0 k a0 a1 n v = Zo (YD.l0 k (fun z0 z1 => some (z0, z1))) n v :=
  Zm (YD.s0) _ fun L0 v => by obtain ⟨aA, aB, aF⟩ := v; kernel_rfl
theorem YD.ok (k : Nat) : Za Tryz.prog 78 (YD.e k) := Zh (YD.p k) mix tyok Tryz.func78 (Ym.ok k) (by kernel_rfl) (fun a0 a1 => Eq.trans (b := YD.m k a0 a1 (fun z0 z1 => some (z0, z1)) (YD.r0 k a0 a1 k)) (by kernel_rfl) (congrArg (YD.m k a0 a1 (fun z0 z1 => some (z0, z1))) (funext fun v => YD.l0_eq k a0 a1 k v)))
noncomputable def YV.l0 {β : Type} (k : Nat) (K : Int → (List (List C)) → Option β) (L0 : (Int × Int × (List (List C))) → Option β) (v : Int × Int × (List (List C))) : Option β :=
  match v with
  | (aA, aB, aF) => bif (decide ((aB : Int) < (aF.length : Int))) then (Zc ((0 : Int) ≤ aB ∧ aB < (aF.length : Int)) (Zc (Int.toNat aB < aF.length) (Ym.f k (IntKind.wrap .i64 (aA + 1)) (fun y8 => let J1 := (aF.modify (Int.toNat aB) fun c => Zq c 0 [.d (.int .i64 aA)]); let J0 := (J1.modify (Int.toNat aB) fun c => Zq c 1 [.d (.str y8)]); Zc ((0 : Int) ≤ aB ∧ aB < (J1.length : Int)) (Zc (Int.toNat aB < J1.length) (Zc ((0 : Int) ≤ aB ∧ aB < (J0.length : Int)) (ZaG J0 (Int.toNat aB) fun c9 => Zas (c9.drop 2) fun c10 r11 => cOwn c10 fun y12 => YD.f k y12 (IntKind.wrap .i64 ((IntKind.wrap .i64 (aA + 1)) + 1)) (fun y13 y14 => L0 (y13, IntKind.wrap .i64 (aB + 1), J0.modify (Int.toNat aB) fun r => r.set 2 (.own y14)))))))))) else (K aA aF)
noncomputable def YV.m {β : Type} (k : Nat) (a0 : List (List C)) (a1 : Int) (K : Int → (List (List C)) → Option β) (F : ((Int × Int × (List (List C))) → Option β)) : Option β :=
  F (a1, 0, a0)
noncomputable def YV.g {β : Type} (k : Nat) (a0 : List (List C)) (a1 : Int) (K : Int → (List (List C)) → Option β) : Option β :=
  Zo (YV.l0 k K) k (a1, 0, a0)
noncomputable def YV.t (k : Nat) (a0 : List (List C)) (a1 : Int) : Option (Int × (List (List C))) := YV.g k a0 a1 (fun z0 z1 => some (z0, z1))
noncomputable def YV.f {β : Type} (k : Nat) (a0 : List (List C)) (a1 : Int) (K : Int → (List (List C)) → Option β) : Option β := bd2 (YV.t k a0 a1) K
noncomputable def YV.e (k : Nat) : Zk := ent [.own false 32 [.o], .d .n] [1] [.n, .o] [3] false (YV.t k)
noncomputable def YV.p (k : Nat) : Pro := ⟨Tryz.prog, [(80, Ym.e k), (78, YD.e k)], Zn [(2, kp [0, 5] [(1, .dat false)])] false [], k⟩
noncomputable def YV.d (k : Nat) (a0 : List (List C)) (a1 : Int) : Ex → St → Option (Int × (List (List C))) := (YV.p k).fin Tryz.f77 [.own false [.own a0], .d (.int .i64 a1)] [1] [.n, .o]
noncomputable def YV.s0 (v : Int × Int × (List (List C))) : St :=
  match v with
  | (aA, aB, aF) => ZX 35 [(0, .row 0), (1, .d false (.int .i64 aA)), (5, .d true (.int .i64 aB))] [.row (some 0) false 32 aF]
noncomputable def YV.r0 (k : Nat) (a0 : List (List C)) (a1 : Int) (n : Nat) (v : Int × Int × (List (List C))) : Option (Int × (List (List C))) := (YV.p k).lp (Zt Tryz.f77) 2 [1, 0, 1, 0] (YV.d k a0 a1) n (YV.s0 v)
theorem YV.l0_eq (k : Nat) (a0 : List (List C)) (a1 : Int) : ∀ n v, YV.r0 k a0 a1 n v = Zo (YV.l0 k (fun z0 z1 => some (z0, z1))) n v :=
  Zm (YV.s0) _ fun L0 v => by obtain ⟨aA, aB, aF⟩ := v; kernel_rfl
theorem YV.ok (k : Nat) : Za Tryz.prog 77 (YV.e k) := Zh (YV.p k) mix tyok Tryz.func77 ⟨Ym.ok k, YD.ok k⟩ (by kernel_rfl) (fun a0 a1 => Eq.trans (b := YV.m k a0 a1 (fun z0 z1 => some (z0, z1)) (YV.r0 k a0 a1 k)) (by kernel_rfl) (congrArg (YV.m k a0 a1 (fun z0 z1 => some (z0, z1))) (funext fun v => YV.l0_eq k a0 a1 k v)))
noncomputable def YS.l0 {β : Type} (k : Nat) (K : Int → (List (List C)) → Option β) (L0 : (Int × Int × (List (List C))) → Option β) (v : Int × Int × (List (List C))) : Option β :=
  match v with
  | (aA, aB, aF) => bif (decide ((aB : Int) < (aF.length : Int))) then (Ym.f k aA (fun y2 => let J0 := (aF.modify (Int.toNat aB) fun c => Zq c 0 [.d (.str y2)]); Zc ((0 : Int) ≤ aB ∧ aB < (aF.length : Int)) (Zc (Int.toNat aB < aF.length) (Zc ((0 : Int) ≤ aB ∧ aB < (J0.length : Int)) (Zc (Int.toNat aB < J0.length) (L0 (IntKind.wrap .i64 ((IntKind.wrap .i64 (aA + 1)) + 1), IntKind.wrap .i64 (aB + 1), J0.modify (Int.toNat aB) fun c => Zq c 1 [.d (.int .i64 (IntKind.wrap .i64 (aA + 1)))]))))))) else (K aA aF)
noncomputable def YS.m {β : Type} (k : Nat) (a0 : List (List C)) (a1 : Int) (K : Int → (List (List C)) → Option β) (F : ((Int × Int × (List (List C))) → Option β)) : Option β :=
  F (a1, 0, a0)
noncomputable def YS.g {β : Type} (k : Nat) (a0 : List (List C)) (a1 : Int) (K : Int → (List (List C)) → Option β) : Option β :=
  Zo (YS.l0 k K) k (a1, 0, a0)
noncomputable def YS.t (k : Nat) (a0 : List (List C)) (a1 : Int) : Option (Int × (List (List C))) := YS.g k a0 a1 (fun z0 z1 => some (z0, z1))
noncomputable def YS.f {β : Type} (k : Nat) (a0 : List (List C)) (a1 : Int) (K : Int → (List (List C)) → Option β) : Option β := bd2 (YS.t k a0 a1) K
noncomputable def YS.e (k : Nat) : Zk := ent [.own false 33 [.o], .d .n] [1] [.n, .o] [3] false (YS.t k)
noncomputable def YS.p (k : Nat) : Pro := ⟨Tryz.prog, [(80, Ym.e k)], Zn [(2, kp [0, 5] [(1, .dat false)])] false [], k⟩
noncomputable def YS.d (k : Nat) (a0 : List (List C)) (a1 : Int) : Ex → St → Option (Int × (List (List C))) := (YS.p k).fin Tryz.f79 [.own false [.own a0], .d (.int .i64 a1)] [1] [.n, .o]
noncomputable def YS.s0 (v : Int × Int × (List (List C))) : St :=
  match v with
  | (aA, aB, aF) => ZX 28 [(0, .row 0), (1, .d false (.int .i64 aA)), (5, .d true (.int .i64 aB))] [.row (some 0) false 33 aF]
noncomputable def YS.r0 (k : Nat) (a0 : List (List C)) (a1 : Int) (n : Nat) (v : Int × Int × (List (List C))) : Option (Int × (List (List C))) := (YS.p k).lp (Zt Tryz.f79) 2 [1, 0, 1, 0] (YS.d k a0 a1) n (YS.s0 v)
theorem YS.l0_eq (k : Nat) (a0 : List (List C)) (a1 : Int) : ∀ n v, YS.r0 k a0 a1 n v = Zo (YS.l0 k (fun z0 z1 => some (z0, z1))) n v :=
  Zm (YS.s0) _ fun L0 v => by obtain ⟨aA, aB, aF⟩ := v; kernel_rfl
theorem YS.ok (k : Nat) : Za Tryz.prog 79 (YS.e k) := Zh (YS.p k) mix tyok Tryz.func79 (Ym.ok k) (by kernel_rfl) (fun a0 a1 => Eq.trans (b := YS.m k a0 a1 (fun z0 z1 => some (z0, z1)) (YS.r0 k a0 a1 k)) (by kernel_rfl) (congrArg (YS.m k a0 a1 (fun z0 z1 => some (z0, z1))) (funext fun v => YS.l0_eq k a0 a1 k v)))
noncomputable def YaE.g {β : Type} (k : Nat) (aD : Int) (aC aE aG : List (List C)) (a1 : Int) (K : Int → (List (List C)) → (List (List C)) → (List (List C)) → Option β) : Option β :=
  YV.f k aC a1 (fun y15 y16 => Zc (y16.length = aC.length) (YD.f k aE y15 (fun y17 y18 => Zc (y18.length = aE.length) (YS.f k aG y17 (fun y19 y20 => Zc (y20.length = aG.length) (K y19 y16 y18 y20))))))
noncomputable def YaE.t (k : Nat) (aD : Int) (aC aE aG : List (List C)) (a1 : Int) : Option (Int × (List (List C)) × (List (List C)) × (List (List C))) := YaE.g k aD aC aE aG a1 (fun z0 z1 z2 z3 => some (z0, z1, z2, z3))
noncomputable def YaE.f {β : Type} (k : Nat) (aD : Int) (aC aE aG : List (List C)) (a1 : Int) (K : Int → (List (List C)) → (List (List C)) → (List (List C)) → Option β) : Option β := bd4 (YaE.t k aD aC aE aG a1) K
noncomputable def YaE.e (k : Nat) : Zk := ent [.own true 35 [.n, .o, .o, .o], .d .n] [1] [.n, .o, .o, .o] [3] false (YaE.t k)
noncomputable def YaE.p (k : Nat) : Pro := ⟨Tryz.prog, [(77, YV.e k), (78, YD.e k), (79, YS.e k)], Zn [] false [], k⟩
theorem YaE.ok (k : Nat) : Za Tryz.prog 18 (YaE.e k) := Zh (YaE.p k) mix tyok Tryz.func18 ⟨YV.ok k, YD.ok k, YS.ok k⟩ (by kernel_rfl) (fun aD aC aE aG a1 => by show _ = _; kernel_rfl)
noncomputable def YT.l0 {β : Type} (k : Nat) (K : Int → (List (List C)) → Option β) (L0 : (Int × Int × (List (List C))) → Option β) (v : Int × Int × (List (List C))) : Option β :=
  match v with
  | (aA, aB, aF) => bif (decide ((aB : Int) < (aF.length : Int))) then (Ym.f k aA (fun y3 => Zc ((0 : Int) ≤ aB ∧ aB < (aF.length : Int)) (Zc (Int.toNat aB < aF.length) (Ym.f k (IntKind.wrap .i64 (aA + 1)) (fun y4 => let J0 := (aF.modify (Int.toNat aB) fun c => Zq c 0 [.d (.str y3)]); Zc ((0 : Int) ≤ aB ∧ aB < (J0.length : Int)) (Zc (Int.toNat aB < J0.length) (L0 (IntKind.wrap .i64 ((IntKind.wrap .i64 (aA + 1)) + 1), IntKind.wrap .i64 (aB + 1), J0.modify (Int.toNat aB) fun c => Zq c 1 [.d (.str y4)])))))))) else (K aA aF)
noncomputable def YT.m {β : Type} (k : Nat) (a0 : List (List C)) (a1 : Int) (K : Int → (List (List C)) → Option β) (F : ((Int × Int × (List (List C))) → Option β)) : Option β :=
  F (a1, 0, a0)
noncomputable def YT.g {β : Type} (k : Nat) (a0 : List (List C)) (a1 : Int) (K : Int → (List (List C)) → Option β) : Option β :=
  Zo (YT.l0 k K) k (a1, 0, a0)
noncomputable def YT.t (k : Nat) (a0 : List (List C)) (a1 : Int) : Option (Int × (List (List C))) := YT.g k a0 a1 (fun z0 z1 => some (z0, z1))
noncomputable def YT.f {β : Type} (k : Nat) (a0 : List (List C)) (a1 : Int) (K : Int → (List (List C)) → Option β) : Option β := bd2 (YT.t k a0 a1) K
noncomputable def YT.e (k : Nat) : Zk := ent [.own false 116 [.o], .d .n] [1] [.n, .o] [3] false (YT.t k)
noncomputable def YT.p (k : Nat) : Pro := ⟨Tryz.prog, [(80, Ym.e k)], Zn [(2, kp [0, 5] [(1, .dat false)])] false [], k⟩
noncomputable def YT.d (k : Nat) (a0 : List (List C)) (a1 : Int) : Ex → St → Option (Int × (List (List C))) := (YT.p k).fin Tryz.f81 [.own false [.own a0], .d (.int .i64 a1)] [1] [.n, .o]
noncomputable def YT.s0 (v : Int × Int × (List (List C))) : St :=
  match v with
  | (aA, aB, aF) => ZX 29 [(0, .row 0), (1, .d false (.int .i64 aA)), (5, .d true (.int .i64 aB))] [.row (some 0) false 116 aF]
noncomputable def YT.r0 (k : Nat) (a0 : List (List C)) (a1 : Int) (n : Nat) (v : Int × Int × (List (List C))) : Option (Int × (List (List C))) := (YT.p k).lp (Zt Tryz.f81) 2 [1, 0, 1, 0] (YT.d k a0 a1) n (YT.s0 v)
theorem YT.l0_eq (k : Nat) (a0 : List (List C)) (a1 : Int) : ∀ n v, YT.r0 k a0 a1 n v = Zo (YT.l0 k (fun z0 z1 => some (z0, z1))) n v :=
  Zm (YT.s0) _ fun L0 v => by obtain ⟨aA, aB, aF⟩ := v; kernel_rfl
theorem YT.ok (k : Nat) : Za Tryz.prog 81 (YT.e k) := Zh (YT.p k) mix tyok Tryz.func81 (Ym.ok k) (by kernel_rfl) (fun a0 a1 => Eq.trans (b := YT.m k a0 a1 (fun z0 z1 => some (z0, z1)) (YT.r0 k a0 a1 k)) (by kernel_rfl) (congrArg (YT.m k a0 a1 (fun z0 z1 => some (z0, z1))) (funext fun v => YT.l0_eq k a0 a1 k v)))
noncomputable def YR.l0 {β : Type} (k : Nat) (K : Int → (List (List C)) → Option β) (L0 : (Int × Int × (List (List C))) → Option β) (v : Int × Int × (List (List C))) : Option β :=
  match v with
  | (aA, aB, aF) => bif (decide ((aB : Int) < (aF.length : Int))) then (Ym.f k aA (fun y14 => let J2 := (aF.modify (Int.toNat aB) fun c => Zq c 0 [.d (.str y14)]); Zc ((0 : Int) ≤ aB ∧ aB < (aF.length : Int)) (Zc (Int.toNat aB < aF.length) (Zc ((0 : Int) ≤ aB ∧ aB < (J2.length : Int)) (ZaG J2 (Int.toNat aB) fun c15 => Zas (c15.drop 1) fun c16 r17 => cOwn c16 fun y18 => YT.f k y18 (IntKind.wrap .i64 (aA + 1)) (fun y19 y20 => let J1 := (J2.modify (Int.toNat aB) fun r => r.set 1 (.own y20)); Zc ((0 : Int) ≤ aB ∧ aB < (J1.length : Int)) (ZaG J1 (Int.toNat aB) fun c21 => Zas (c21.drop 2) fun c22 r23 => cOwn c22 fun y24 => YD.f k y24 y19 (fun y25 y26 => let J0 := (J1.modify (Int.toNat aB) fun r => r.set 2 (.own y26)); Zc ((0 : Int) ≤ aB ∧ aB < (J0.length : Int)) (Zc (Int.toNat aB < J0.length) (L0 (IntKind.wrap .i64 (y25 + 1), IntKind.wrap .i64 (aB + 1), J0.modify (Int.toNat aB) fun c => Zq c 3 [.d (.int .i64 y25)]))))))))))) else (K aA aF)
noncomputable def YR.m {β : Type} (k : Nat) (a0 : List (List C)) (a1 : Int) (K : Int → (List (List C)) → Option β) (F : ((Int × Int × (List (List C))) → Option β)) : Option β :=
  F (a1, 0, a0)
noncomputable def YR.g {β : Type} (k : Nat) (a0 : List (List C)) (a1 : Int) (K : Int → (List (List C)) → Option β) : Option β :=
  Zo (YR.l0 k K) k (a1, 0, a0)
noncomputable def YR.t (k : Nat) (a0 : List (List C)) (a1 : Int) : Option (Int × (List (List C))) := YR.g k a0 a1 (fun z0 z1 => some (z0, z1))
noncomputable def YR.f {β : Type} (k : Nat) (a0 : List (List C)) (a1 : Int) (K : Int → (List (List C)) → Option β) : Option β := bd2 (YR.t k a0 a1) K
noncomputable def YR.e (k : Nat) : Zk := ent [.own false 37 [.o], .d .n] [1] [.n, .o] [3] false (YR.t k)
noncomputable def YR.p (k : Nat) : Pro := ⟨Tryz.prog, [(80, Ym.e k), (81, YT.e k), (78, YD.e k)], Zn [(2, kp [0, 5] [(1, .dat false)])] false [], k⟩
noncomputable def YR.d (k : Nat) (a0 : List (List C)) (a1 : Int) : Ex → St → Option (Int × (List (List C))) := (YR.p k).fin Tryz.f19 [.own false [.own a0], .d (.int .i64 a1)] [1] [.n, .o]
noncomputable def YR.s0 (v : Int × Int × (List (List C))) : St :=
  match v with
  | (aA, aB, aF) => ZX 42 [(0, .row 0), (1, .d false (.int .i64 aA)), (5, .d true (.int .i64 aB))] [.row (some 0) false 37 aF]
noncomputable def YR.r0 (k : Nat) (a0 : List (List C)) (a1 : Int) (n : Nat) (v : Int × Int × (List (List C))) : Option (Int × (List (List C))) := (YR.p k).lp (Zt Tryz.f19) 2 [1, 0, 1, 0] (YR.d k a0 a1) n (YR.s0 v)
theorem YR.l0_eq (k : Nat) (a0 : List (List C)) (a1 : Int) : ∀ n v, YR.r0 k a0 a1 n v = Zo (YR.l0 k (fun z0 z1 => some (z0, z1))) n v :=
  Zm (YR.s0) _ fun L0 v => by obtain ⟨aA, aB, aF⟩ := v; kernel_rfl
theorem YR.ok (k : Nat) : Za Tryz.prog 19 (YR.e k) := Zh (YR.p k) mix tyok Tryz.func19 ⟨Ym.ok k, YT.ok k, YD.ok k⟩ (by kernel_rfl) (fun a0 a1 => Eq.trans (b := YR.m k a0 a1 (fun z0 z1 => some (z0, z1)) (YR.r0 k a0 a1 k)) (by kernel_rfl) (congrArg (YR.m k a0 a1 (fun z0 z1 => some (z0, z1))) (funext fun v => YR.l0_eq k a0 a1 k v)))
noncomputable def YY.l0 {β : Type} (k : Nat) (K : Int → (List (List C)) → Option β) (L0 : (Int × Int × (List (List C))) → Option β) (v : Int × Int × (List (List C))) : Option β :=
  match v with
  | (aA, aB, aF) => bif (decide ((aB : Int) < (aF.length : Int))) then (Zc ((0 : Int) ≤ aB ∧ aB < (aF.length : Int)) (Zc (Int.toNat aB < aF.length) (L0 (IntKind.wrap .i64 (aA + 1), IntKind.wrap .i64 (aB + 1), aF.modify (Int.toNat aB) fun c => Zq c 0 [.d (.int .i64 aA)])))) else (K aA aF)
noncomputable def YY.m {β : Type} (k : Nat) (a0 : List (List C)) (a1 : Int) (K : Int → (List (List C)) → Option β) (F : ((Int × Int × (List (List C))) → Option β)) : Option β :=
  F (a1, 0, a0)
noncomputable def YY.g {β : Type} (k : Nat) (a0 : List (List C)) (a1 : Int) (K : Int → (List (List C)) → Option β) : Option β :=
  Zo (YY.l0 k K) k (a1, 0, a0)
noncomputable def YY.t (k : Nat) (a0 : List (List C)) (a1 : Int) : Option (Int × (List (List C))) := YY.g k a0 a1 (fun z0 z1 => some (z0, z1))
noncomputable def YY.f {β : Type} (k : Nat) (a0 : List (List C)) (a1 : Int) (K : Int → (List (List C)) → Option β) : Option β := bd2 (YY.t k a0 a1) K
noncomputable def YY.e (k : Nat) : Zk := ent [.own false 28 [.o], .d .n] [1] [.n, .o] [3] false (YY.t k)
noncomputable def YY.p (k : Nat) : Pro := ⟨Tryz.prog, [], Zn [(2, kp [0, 5] [(1, .dat false)])] false [], k⟩
noncomputable def YY.d (k : Nat) (a0 : List (List C)) (a1 : Int) : Ex → St → Option (Int × (List (List C))) := (YY.p k).fin Tryz.f20 [.own false [.own a0], .d (.int .i64 a1)] [1] [.n, .o]
noncomputable def YY.s0 (v : Int × Int × (List (List C))) : St :=
  match v with
  | (aA, aB, aF) => ZX 19 [(0, .row 0), (1, .d false (.int .i64 aA)), (5, .d true (.int .i64 aB))] [.row (some 0) false 28 aF]
noncomputable def YY.r0 (k : Nat) (a0 : List (List C)) (a1 : Int) (n : Nat) (v : Int × Int × (List (List C))) : Option (Int × (List (List C))) := (YY.p k).lp (Zt Tryz.f20) 2 [1, 0, 1, 0] (YY.d k a0 a1) n (YY.s0 v)
theorem YY.l0_eq (k : Nat) (a0 : List (List C)) (a1 : Int) : ∀ n v, YY.r0 k a0 a1 n v = Zo (YY.l0 k (fun z0 z1 => some (z0, z1))) n v :=
  Zm (YY.s0) _ fun L0 v => by obtain ⟨aA, aB, aF⟩ := v; kernel_rfl
theorem YY.ok (k : Nat) : Za Tryz.prog 20 (YY.e k) := Zh (YY.p k) mix tyok Tryz.func20 trivial (by kernel_rfl) (fun a0 a1 => Eq.trans (b := YY.m k a0 a1 (fun z0 z1 => some (z0, z1)) (YY.r0 k a0 a1 k)) (by kernel_rfl) (congrArg (YY.m k a0 a1 (fun z0 z1 => some (z0, z1))) (funext fun v => YY.l0_eq k a0 a1 k v)))
noncomputable def YU.l0 {β : Type} (k : Nat) (aA : List (List D)) (K : Int → Option β) (L0 : (Int × Int) → Option β) (v : Int × Int) : Option β :=
  match v with
  | (aB, aF) => bif (decide ((aF : Int) < (aA.length : Int))) then (atR aA aF [.n] fun x8 => (bif ((x8 : Int) != aB) then (K (-1)) else (L0 (IntKind.wrap .i64 (aB + 1), IntKind.wrap .i64 (aF + 1))))) else (K aB)
noncomputable def YU.m {β : Type} (k : Nat) (a0 : List (List D)) (a1 : Int) (K : Int → Option β) (F : ((List (List D)) → (Int × Int) → Option β)) : Option β :=
  F a0 (a1, 0)
noncomputable def YU.g {β : Type} (k : Nat) (a0 : List (List D)) (a1 : Int) (K : Int → Option β) : Option β :=
  Zo (YU.l0 k a0 K) k (a1, 0)
noncomputable def YU.t (k : Nat) (a0 : List (List D)) (a1 : Int) : Option (Int) := YU.g k a0 a1 (fun z0 => some z0)
noncomputable def YU.f {β : Type} (k : Nat) (a0 : List (List D)) (a1 : Int) (K : Int → Option β) : Option β := bd1 (YU.t k a0 a1) K
noncomputable def YU.e (k : Nat) : Zk := ent [.d .l, .d .n] [1] [.n] [3] false (YU.t k)
noncomputable def YU.p (k : Nat) : Pro := ⟨Tryz.prog, [], Zn [(2, kp [0, 5] [(1, .dat false)])] false [], k⟩
noncomputable def YU.d (k : Nat) (a0 : List (List D)) (a1 : Int) : Ex → St → Option (Int) := (YU.p k).fin Tryz.f21 [.d (.sl a0), .d (.int .i64 a1)] [1] [.n]
noncomputable def YU.s0 (aA : List (List D)) (v : Int × Int) : St :=
  match v with
  | (aB, aF) => ZX 21 [(0, .d false (.sl aA)), (1, .d false (.int .i64 aB)), (5, .d true (.int .i64 aF))] []
noncomputable def YU.r0 (k : Nat) (a0 : List (List D)) (a1 : Int) (aA : List (List D)) (n : Nat) (v : Int × Int) : Option (Int) := (YU.p k).lp (Zt Tryz.f21) 2 [1, 0, 1, 0] (YU.d k a0 a1) n (YU.s0 aA v)
theorem YU.l0_eq (k : Nat) (a0 : List (List D)) (a1 : Int) (aA : List (List D)) : ∀ n v, YU.r0 k a0 a1 aA n v = Zo (YU.l0 k aA (fun z0 => some z0)) n v :=
  Zm (YU.s0 aA) _ fun L0 v => by obtain ⟨aB, aF⟩ := v; kernel_rfl
theorem YU.ok (k : Nat) : Za Tryz.prog 21 (YU.e k) := Zh (YU.p k) mix tyok Tryz.func21 trivial (by kernel_rfl) (fun a0 a1 => Eq.trans (b := YU.m k a0 a1 (fun z0 => some z0) (fun aA => YU.r0 k a0 a1 aA k)) (by kernel_rfl) (congrArg (YU.m k a0 a1 (fun z0 => some z0)) (funext fun aA => funext fun v => YU.l0_eq k a0 a1 aA k v)))
noncomputable def YaH.g {β : Type} (k : Nat) (aD : Int) (aC aE aG a1 a2 : List (List D)) (K : Bool → Option β) : Option β :=
  bif (decide (((a2.length : Int) : Int) > 1048576)) then (K true) else (YaS.f k aD aC aE aG 1048576 (fun y26 => bif (decide ((y26 : Int) < 0)) then (K true) else (YX.f k a1 y26 (fun y34 => bif (decide ((y34 : Int) < 0)) then (K true) else (Yat.f k aD aC aE aG (fun y35 y36 y37 y38 => YL.f k a1 (fun y42 => Yac.f k a2 (fun y43 => Y2.f k y35 (C.immRows y36) (C.immRows y37) (C.immRows y38) (C.immRows y42) (C.immRows y43) (fun y598 => Yat.f k aD aC aE aG (fun y599 y600 y601 y602 => YL.f k a1 (fun y603 => Yac.f k a2 (fun y604 => Y3.f k y599 (C.immRows y600) (C.immRows y601) (C.immRows y602) (C.immRows y603) (C.immRows y604) (fun y605 => Yad.f k (C.immRows y605) (C.immRows y598) (fun y606 => bif (!y606) then (K false) else (Yat.f k aD aC aE aG (fun y607 y608 y609 y610 => YaU.f k y599 (C.immRows y600) (C.immRows y601) (C.immRows y602) y607 (C.immRows y608) (C.immRows y609) (C.immRows y610) (fun y611 => bif (!y611) then (K false) else (YL.f k a1 (fun y612 => YZ.f k (C.immRows y603) (C.immRows y612) (fun y613 => bif (!y613) then (K false) else (Yac.f k a2 (fun y614 => Yad.f k (C.immRows y604) (C.immRows y614) (fun y615 => bif (!y615) then (K false) else (YaE.f k y599 y600 y601 y602 1 (fun y616 y617 y618 y619 => Zc (y617.length = y600.length) (Zc (y618.length = y601.length) (Zc (y619.length = y602.length) (YR.f k y603 y616 (fun y620 y621 => Zc (y621.length = y603.length) (YY.f k y604 y620 (fun y622 y623 => Zc (y623.length = y604.length ∧ flatC y623 = true) (bif (decide ((y622 : Int) < 0)) then (K false) else (Yad.f k (C.immRows y605) (C.immRows y598) (fun y624 => bif (!y624) then (K false) else (YY.f k y605 1 (fun y625 y626 => Zc (y626.length = y605.length ∧ flatC y626 = true) (YU.f k (C.immRows y626) 1 (fun y627 => bif (decide ((y627 : Int) < 0)) then (K false) else (bif ((y627 : Int) != y625) then (K false) else (Yat.f k aD aC aE aG (fun y628 y629 y630 y631 => YL.f k a1 (fun y632 => Yac.f k a2 (fun y633 => Y3.f k y628 (C.immRows y629) (C.immRows y630) (C.immRows y631) (C.immRows y632) (C.immRows y633) (fun y634 => Yad.f k (C.immRows y634) (C.immRows y598) (fun y635 => bif (!y635) then (K false) else (YU.f k (C.immRows y626) 1 (fun y636 => bif (decide ((y636 : Int) < 0)) then (K false) else (bif ((y636 : Int) != y625) then (K false) else (K true)))))))))))))))))))))))))))))))))))))))))))))))))
noncomputable def YaH.t (k : Nat) (aD : Int) (aC aE aG a1 a2 : List (List D)) : Option (Bool) := YaH.g k aD aC aE aG a1 a2 (fun z0 => some z0)
noncomputable def YaH.e (k : Nat) : Zk := ent [.agg [.n, .l, .l, .l], .d .l, .d .l] [1] [.b] [4] false (YaH.t k)
noncomputable def YaH.p (k : Nat) : Pro := ⟨Tryz.prog, [(8, YaS.e k), (9, YX.e k), (11, Yat.e k), (12, YL.e k), (13, Yac.e k), (10, Y2.e k), (14, Y3.e k), (15, Yad.e k), (16, YaU.e k), (17, YZ.e k), (18, YaE.e k), (19, YR.e k), (20, YY.e k), (21, YU.e k)], Zn [] false [], k⟩
theorem YaH.ok (k : Nat) : Za Tryz.prog 3 (YaH.e k) := Zh (YaH.p k) mix tyok Tryz.func3 ⟨YaS.ok k, YX.ok k, Yat.ok k, YL.ok k, Yac.ok k, Y2.ok k, Y3.ok k, Yad.ok k, YaU.ok k, YZ.ok k, YaE.ok k, YR.ok k, YY.ok k, YU.ok k⟩ (by kernel_rfl) (fun aD aC aE aG a1 a2 => by show _ = _; kernel_rfl)
end Go.Proofs.YtppfencdbabmeaaGreat
