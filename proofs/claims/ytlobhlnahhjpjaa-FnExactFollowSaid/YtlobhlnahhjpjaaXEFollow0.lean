/- Printed: the functions that FnExactFollow reaches, read by the evaluator, each with its contract. -/
import Derived.Test.YtlobhlnahhjpjaaTIns
import Derived.Test.YtlobhlnahhjpjaaProg
import Derived.KernelRfl
set_option linter.unusedVariables false
set_option linter.unusedSimpArgs false
namespace Go.Proofs.Ytlobhlnahhjpjaa
open Go Go.T Go.Proofs
theorem mix : Try.prog.follows .mixedOrders = true := by kernel_rfl
theorem tyok : ZaI Try.prog := tyOk_of (by kernel_rfl)
noncomputable def YA.l0 {β : Type} (k : Nat) (aC : LD) (K : Int → Option β) (L0 : (Int × Int) → Option β) (v : Int × Int) : Option β :=
 match v with
 | (aD, aH) => bif (decide ((aH : Int) < (aC.length : Int))) then (atR aC aH [.s] fun x8 => (bif (decide (((IntKind.wrap .i64 (aD - (x8.size : Int))) : Int) < 0)) then (K (-1)) else (L0 (IntKind.wrap .i64 (aD - (x8.size : Int)), IntKind.wrap .i64 (aH + 1))))) else (K aD)
noncomputable def YA.m {β : Type} (k : Nat) (a0 : LD) (a1 : Int) (K : Int → Option β) (F : (LD → (Int × Int) → Option β)) : Option β :=
 bif (decide (((IntKind.wrap .i64 (a1 - (a0.length : Int))) : Int) < 0)) then (K (-1)) else (F a0 (IntKind.wrap .i64 (a1 - (a0.length : Int)), 0))
noncomputable def YA.g {β : Type} (k : Nat) (a0 : LD) (a1 : Int) (K : Int → Option β) : Option β :=
 bif (decide (((IntKind.wrap .i64 (a1 - (a0.length : Int))) : Int) < 0)) then (K (-1)) else (Zo (YA.l0 k a0 K) k (IntKind.wrap .i64 (a1 - (a0.length : Int)), 0))
noncomputable def YA.t (k : Nat) (a0 : LD) (a1 : Int) : Option (Int) := YA.g k a0 a1 (fun z0 => some z0)
noncomputable def YA.f {β : Type} (k : Nat) (a0 : LD) (a1 : Int) (K : Int → Option β) : Option β := bd1 (YA.t k a0 a1) K
noncomputable def YA.e (k : Nat) : Zk := ent [.d .l, .d .n] [1] [.n] [3] false (YA.t k)
noncomputable def YA.p (k : Nat) : Pro := ⟨Try.prog, [], Zn [(5, kp [0, 1, 5])] false [], k⟩
noncomputable def YA.d (k : Nat) (a0 : LD) (a1 : Int) : Ex → St → Option (Int) := (YA.p k).fin Try.f84 [.d (.sl a0), .d (.int .i64 a1)] [1] [.n]
noncomputable def YA.s0 (aC : LD) (v : Int × Int) : St :=
 match v with
 | (aD, aH) => ZX 28 [(0, .d false (.sl aC)), (1, .d true (.int .i64 aD)), (5, .d true (.int .i64 aH))] []
noncomputable def YA.r0 (k : Nat) (a0 : LD) (a1 : Int) (aC : LD) (n : Nat) (v : Int × Int) : Option (Int) := (YA.p k).lp (Zt Try.f84) 5 [1, 1, 1, 0, 1, 0] (YA.d k a0 a1) n (YA.s0 aC v)
theorem YA.l0_eq (k : Nat) (a0 : LD) (a1 : Int) (aC : LD) : ∀ n v, YA.r0 k a0 a1 aC n v = Zo (YA.l0 k aC (fun z0 => some z0)) n v :=
 Zm (YA.s0 aC) _ fun L0 v => by obtain ⟨aD, aH⟩ := v; kernel_rfl
theorem YA.ok (k : Nat) : Za Try.prog 84 (YA.e k) := Zh (YA.p k) mix tyok Try.func84 trivial (by kernel_rfl) (fun a0 a1 => Eq.trans (b := YA.m k a0 a1 (fun z0 => some z0) (fun aC => YA.r0 k a0 a1 aC k)) (by kernel_rfl) (congrArg (YA.m k a0 a1 (fun z0 => some z0)) (funext fun aC => funext fun v => YA.l0_eq k a0 a1 aC k v) :))
noncomputable def Yr.l0 {β : Type} (k : Nat) (r_laws_szValueS : LD → Int → (Int → Option β) → Option β) (r_laws_szValue : Int → BA → Int → LD → LD → Int → (Int → Option β) → Option β) (aC : LD) (K : Int → Option β) (L0 : (Int × Int) → Option β) (v : Int × Int) : Option β :=
 match v with
 | (aD, aH) => bif (decide ((aH : Int) < (aC.length : Int))) then (atR aC aH [.n, .s, .n, .l, .l] fun x21 x24 x27 x30 x33 => (r_laws_szValue x21 x24 x27 x30 x33 aD (fun y34 => bif (decide ((y34 : Int) < 0)) then (K (-1)) else (L0 (y34, IntKind.wrap .i64 (aH + 1)))))) else (K aD)
noncomputable def Yr.m {β : Type} (k : Nat) (r_laws_szValueS : LD → Int → (Int → Option β) → Option β) (r_laws_szValue : Int → BA → Int → LD → LD → Int → (Int → Option β) → Option β) (a0 : LD) (a1 : Int) (K : Int → Option β) (F : (LD → (Int × Int) → Option β)) : Option β :=
 bif (decide (((IntKind.wrap .i64 (a1 - (a0.length : Int))) : Int) < 0)) then (K (-1)) else (F a0 (IntKind.wrap .i64 (a1 - (a0.length : Int)), 0))
noncomputable def Yr.body {β : Type} (k : Nat) (r_laws_szValueS : LD → Int → (Int → Option β) → Option β) (r_laws_szValue : Int → BA → Int → LD → LD → Int → (Int → Option β) → Option β) (a0 : LD) (a1 : Int) (K : Int → Option β) : Option β :=
 bif (decide (((IntKind.wrap .i64 (a1 - (a0.length : Int))) : Int) < 0)) then (K (-1)) else (Zo (Yr.l0 k r_laws_szValueS r_laws_szValue a0 K) k (IntKind.wrap .i64 (a1 - (a0.length : Int)), 0))
noncomputable def YL.body {β : Type} (k : Nat) (r_laws_szValueS : LD → Int → (Int → Option β) → Option β) (r_laws_szValue : Int → BA → Int → LD → LD → Int → (Int → Option β) → Option β) (aB : Int) (aA : BA) (aG : Int) (aE aF : LD) (a1 : Int) (K : Int → Option β) : Option β :=
 bif (decide (((IntKind.wrap .i64 (a1 - (aA.size : Int))) : Int) < 0)) then (K (-1)) else (YA.f k aE (IntKind.wrap .i64 (a1 - (aA.size : Int))) (fun y1 => bif (decide ((y1 : Int) < 0)) then (K (-1)) else (r_laws_szValueS aF y1 (fun y35 => bif (decide ((y35 : Int) < 0)) then (K (-1)) else (K y35)))))
noncomputable def Yr.w {β : Type} (r : LD → Int → Option (Int)) (a0 : LD) (a1 : Int) (K : Int → Option β) : Option β := bd1 (r a0 a1) K
noncomputable def YL.w {β : Type} (r : Int → BA → Int → LD → LD → Int → Option (Int)) (aB : Int) (aA : BA) (aG : Int) (aE aF : LD) (a1 : Int) (K : Int → Option β) : Option β := bd1 (r aB aA aG aE aF a1) K
noncomputable def Yr.all : Nat → (LD → Int → Option (Int)) × (Int → BA → Int → LD → LD → Int → Option (Int))
 | 0 => (fun _ _ => none, fun _ _ _ _ _ _ => none)
 | k + 1 => (fun r => (fun a0 a1 => Yr.body k (Yr.w r.1) (YL.w r.2) a0 a1 (fun z0 => some z0), fun aB aA aG aE aF a1 => YL.body k (Yr.w r.1) (YL.w r.2) aB aA aG aE aF a1 (fun z0 => some z0))) (Yr.all k)
noncomputable def Yr.t (k : Nat) (a0 : LD) (a1 : Int) : Option (Int) := (Yr.all k).1 a0 a1
noncomputable def YL.t (k : Nat) (aB : Int) (aA : BA) (aG : Int) (aE aF : LD) (a1 : Int) : Option (Int) := (Yr.all k).2 aB aA aG aE aF a1
noncomputable def Yr.f {β : Type} (k : Nat) (a0 : LD) (a1 : Int) (K : Int → Option β) : Option β := Yr.w (Yr.t k) a0 a1 K
noncomputable def YL.f {β : Type} (k : Nat) (aB : Int) (aA : BA) (aG : Int) (aE aF : LD) (a1 : Int) (K : Int → Option β) : Option β := YL.w (YL.t k) aB aA aG aE aF a1 K
noncomputable def Yr.g {β : Type} (k : Nat) (a0 : LD) (a1 : Int) (K : Int → Option β) : Option β := Yr.body k (Yr.f k) (YL.f k) a0 a1 K
theorem Yr.t_succ (k : Nat) (a0 : LD) (a1 : Int) : Yr.t (k + 1) a0 a1 = Yr.g k a0 a1 (fun z0 => some z0) := rfl
noncomputable def YL.g {β : Type} (k : Nat) (aB : Int) (aA : BA) (aG : Int) (aE aF : LD) (a1 : Int) (K : Int → Option β) : Option β := YL.body k (Yr.f k) (YL.f k) aB aA aG aE aF a1 K
theorem YL.t_succ (k : Nat) (aB : Int) (aA : BA) (aG : Int) (aE aF : LD) (a1 : Int) : YL.t (k + 1) aB aA aG aE aF a1 = YL.g k aB aA aG aE aF a1 (fun z0 => some z0) := rfl
noncomputable def Yr.e (k : Nat) : Zk := ent [.d .l, .d .n] [1] [.n] [3] false (Yr.t k)
noncomputable def YL.e (k : Nat) : Zk := ent [.agg [.n, .s, .n, .l, .l], .d .n] [1] [.n] [3] false (YL.t k)
noncomputable def Yr.p (k : Nat) : Pro := ⟨Try.prog, [(79, YL.e k)], Zn [(5, kp [0, 1, 5])] false [], k⟩
noncomputable def Yr.d (k : Nat) (a0 : LD) (a1 : Int) : Ex → St → Option (Int) := (Yr.p k).fin Try.f98 [.d (.sl a0), .d (.int .i64 a1)] [1] [.n]
noncomputable def Yr.s0 (aC : LD) (v : Int × Int) : St :=
 match v with
 | (aD, aH) => ZX 27 [(0, .d false (.sl aC)), (1, .d true (.int .i64 aD)), (5, .d true (.int .i64 aH))] []
noncomputable def Yr.r0 (k : Nat) (a0 : LD) (a1 : Int) (aC : LD) (n : Nat) (v : Int × Int) : Option (Int) := (Yr.p k).lp (Zt Try.f98) 5 [1, 1, 1, 0, 1, 0] (Yr.d k a0 a1) n (Yr.s0 aC v)
theorem Yr.l0_eq (k : Nat) (a0 : LD) (a1 : Int) (aC : LD) : ∀ n v, Yr.r0 k a0 a1 aC n v = Zo (Yr.l0 k (Yr.f k) (YL.f k) aC (fun z0 => some z0)) n v :=
 Zm (Yr.s0 aC) _ fun L0 v => by obtain ⟨aD, aH⟩ := v; kernel_rfl
noncomputable def YL.p (k : Nat) : Pro := ⟨Try.prog, [(84, YA.e k), (98, Yr.e k)], Zn [] false [], k⟩
theorem Yr.oks (k : Nat) : Za Try.prog 98 (Yr.e k) ∧ Za Try.prog 79 (YL.e k) := by
 induction k with
 | zero => exact ⟨Z7 Try.func98 (by kernel_rfl) (fun _ _ => rfl),
  Z7 Try.func79 (by kernel_rfl) (fun _ _ _ _ _ _ => rfl)⟩
 | succ k ih => exact ⟨Zh (Yr.p k) mix tyok Try.func98 ih.2 (by kernel_rfl) (fun a0 a1 => Eq.trans (b := Yr.m k (Yr.f k) (YL.f k) a0 a1 (fun z0 => some z0) (fun aC => Yr.r0 k a0 a1 aC k)) (by kernel_rfl) ((congrArg (Yr.m k (Yr.f k) (YL.f k) a0 a1 (fun z0 => some z0)) (funext fun aC => funext fun v => Yr.l0_eq k a0 a1 aC k v)).trans (Yr.t_succ k a0 a1).symm)),
  Zh (YL.p k) mix tyok Try.func79 ⟨YA.ok k, ih.1⟩ (by kernel_rfl) (fun aB aA aG aE aF a1 => by show _ = _; kernel_rfl)⟩
theorem YL.ok (k : Nat) : Za Try.prog 79 (YL.e k) := (Yr.oks k).2
noncomputable def Yas.g {β : Type} (k : Nat) (aB : Int) (aA : BA) (aG aE aF : Int) (aV : Bool) (aO : LD) (aS : Int) (aK : BA) (aT : Int) (aL aP : LD) (aQ : Int) (aM : BA) (aU : Int) (aN aR : LD) (a1 : Int) (K : Int → Option β) : Option β :=
 bif (decide (((IntKind.wrap .i64 (a1 - (aA.size : Int))) : Int) < 0)) then (K (-1)) else (YA.f k aO (IntKind.wrap .i64 (a1 - (aA.size : Int))) (fun y9 => bif (decide ((y9 : Int) < 0)) then (K (-1)) else (YL.f k aS aK aT aL aP y9 (fun y36 => bif (decide ((y36 : Int) < 0)) then (K (-1)) else (YL.f k aQ aM aU aN aR y36 (fun y37 => bif (decide ((y37 : Int) < 0)) then (K (-1)) else (K y37)))))))
noncomputable def Yas.t (k : Nat) (aB : Int) (aA : BA) (aG aE aF : Int) (aV : Bool) (aO : LD) (aS : Int) (aK : BA) (aT : Int) (aL aP : LD) (aQ : Int) (aM : BA) (aU : Int) (aN aR : LD) (a1 : Int) : Option (Int) := Yas.g k aB aA aG aE aF aV aO aS aK aT aL aP aQ aM aU aN aR a1 (fun z0 => some z0)
noncomputable def Yas.f {β : Type} (k : Nat) (aB : Int) (aA : BA) (aG aE aF : Int) (aV : Bool) (aO : LD) (aS : Int) (aK : BA) (aT : Int) (aL aP : LD) (aQ : Int) (aM : BA) (aU : Int) (aN aR : LD) (a1 : Int) (K : Int → Option β) : Option β := bd1 (Yas.t k aB aA aG aE aF aV aO aS aK aT aL aP aQ aM aU aN aR a1) K
noncomputable def Yas.e (k : Nat) : Zk := ent [.agg [.n, .s, .n, .n, .n, .b, .l, .n, .s, .n, .l, .l, .n, .s, .n, .l, .l], .d .n] [1] [.n] [3] false (Yas.t k)
noncomputable def Yas.p (k : Nat) : Pro := ⟨Try.prog, [(84, YA.e k), (79, YL.e k)], Zn [] false [], k⟩
theorem Yas.ok (k : Nat) : Za Try.prog 63 (Yas.e k) := Zh (Yas.p k) mix tyok Try.func63 ⟨YA.ok k, YL.ok k⟩ (by kernel_rfl) (fun aB aA aG aE aF aV aO aS aK aT aL aP aQ aM aU aN aR a1 => by show _ = _; kernel_rfl)
noncomputable def YU.l0 {β : Type} (k : Nat) (aC : LD) (K : Int → Option β) (L0 : (Int × Int) → Option β) (v : Int × Int) : Option β :=
 match v with
 | (aD, aH) => bif (decide ((aH : Int) < (aC.length : Int))) then (atR aC aH [.n, .s, .n, .n, .n, .b, .l, .n, .s, .n, .l, .l, .n, .s, .n, .l, .l] fun x57 x60 x63 x66 x69 x72 x75 x78 x81 x84 x87 x90 x93 x96 x99 x102 x105 => (Yas.f k x57 x60 x63 x66 x69 x72 x75 x78 x81 x84 x87 x90 x93 x96 x99 x102 x105 aD (fun y106 => bif (decide ((y106 : Int) < 0)) then (K (-1)) else (L0 (y106, IntKind.wrap .i64 (aH + 1)))))) else (K aD)
noncomputable def YU.m {β : Type} (k : Nat) (a0 : LD) (a1 : Int) (K : Int → Option β) (F : (LD → (Int × Int) → Option β)) : Option β :=
 bif (decide (((IntKind.wrap .i64 (a1 - (a0.length : Int))) : Int) < 0)) then (K (-1)) else (F a0 (IntKind.wrap .i64 (a1 - (a0.length : Int)), 0))
noncomputable def YU.g {β : Type} (k : Nat) (a0 : LD) (a1 : Int) (K : Int → Option β) : Option β :=
 bif (decide (((IntKind.wrap .i64 (a1 - (a0.length : Int))) : Int) < 0)) then (K (-1)) else (Zo (YU.l0 k a0 K) k (IntKind.wrap .i64 (a1 - (a0.length : Int)), 0))
noncomputable def YU.t (k : Nat) (a0 : LD) (a1 : Int) : Option (Int) := YU.g k a0 a1 (fun z0 => some z0)
noncomputable def YU.f {β : Type} (k : Nat) (a0 : LD) (a1 : Int) (K : Int → Option β) : Option β := bd1 (YU.t k a0 a1) K
noncomputable def YU.e (k : Nat) : Zk := ent [.d .l, .d .n] [1] [.n] [3] false (YU.t k)
noncomputable def YU.p (k : Nat) : Pro := ⟨Try.prog, [(63, Yas.e k)], Zn [(5, kp [0, 1, 5])] false [], k⟩
noncomputable def YU.d (k : Nat) (a0 : LD) (a1 : Int) : Ex → St → Option (Int) := (YU.p k).fin Try.f39 [.d (.sl a0), .d (.int .i64 a1)] [1] [.n]
noncomputable def YU.s0 (aC : LD) (v : Int × Int) : St :=
 match v with
 | (aD, aH) => ZX 27 [(0, .d false (.sl aC)), (1, .d true (.int .i64 aD)), (5, .d true (.int .i64 aH))] []
noncomputable def YU.r0 (k : Nat) (a0 : LD) (a1 : Int) (aC : LD) (n : Nat) (v : Int × Int) : Option (Int) := (YU.p k).lp (Zt Try.f39) 5 [1, 1, 1, 0, 1, 0] (YU.d k a0 a1) n (YU.s0 aC v)
theorem YU.l0_eq (k : Nat) (a0 : LD) (a1 : Int) (aC : LD) : ∀ n v, YU.r0 k a0 a1 aC n v = Zo (YU.l0 k aC (fun z0 => some z0)) n v :=
 Zm (YU.s0 aC) _ fun L0 v => by obtain ⟨aD, aH⟩ := v; kernel_rfl
theorem YU.ok (k : Nat) : Za Try.prog 39 (YU.e k) := Zh (YU.p k) mix tyok Try.func39 (Yas.ok k) (by kernel_rfl) (fun a0 a1 => Eq.trans (b := YU.m k a0 a1 (fun z0 => some z0) (fun aC => YU.r0 k a0 a1 aC k)) (by kernel_rfl) (congrArg (YU.m k a0 a1 (fun z0 => some z0)) (funext fun aC => funext fun v => YU.l0_eq k a0 a1 aC k v) :))
noncomputable def Yal.g {β : Type} (k : Nat) (aB : Int) (aA : LD) (a1 : Int) (K : Int → Option β) : Option β :=
 YU.f k aA a1 (fun y107 => bif (decide ((y107 : Int) < 0)) then (K (-1)) else (K y107))
noncomputable def Yal.t (k : Nat) (aB : Int) (aA : LD) (a1 : Int) : Option (Int) := Yal.g k aB aA a1 (fun z0 => some z0)
noncomputable def Yal.f {β : Type} (k : Nat) (aB : Int) (aA : LD) (a1 : Int) (K : Int → Option β) : Option β := bd1 (Yal.t k aB aA a1) K
noncomputable def Yal.e (k : Nat) : Zk := ent [.agg [.n, .l], .d .n] [1] [.n] [3] false (Yal.t k)
noncomputable def Yal.p (k : Nat) : Pro := ⟨Try.prog, [(39, YU.e k)], Zn [] false [], k⟩
theorem Yal.ok (k : Nat) : Za Try.prog 14 (Yal.e k) := Zh (Yal.p k) mix tyok Try.func14 (YU.ok k) (by kernel_rfl) (fun aB aA a1 => by show _ = _; kernel_rfl)
noncomputable def Yam.g {β : Type} (k : Nat) (aB : Int) (aA : Bool) (aG : Int) (aE : BA) (aF aV aO : Int) (aS : Bool) (aK : LD) (aT : Int) (aL : BA) (aP : Int) (aQ aM : LD) (aU : Int) (aN : BA) (aR : Int) (bX bY : LD) (a1 : Int) (K : Int → Option β) : Option β :=
 Yas.f k aG aE aF aV aO aS aK aT aL aP aQ aM aU aN aR bX bY a1 (fun y1 => bif (decide ((y1 : Int) < 0)) then (K (-1)) else (K y1))
noncomputable def Yam.t (k : Nat) (aB : Int) (aA : Bool) (aG : Int) (aE : BA) (aF aV aO : Int) (aS : Bool) (aK : LD) (aT : Int) (aL : BA) (aP : Int) (aQ aM : LD) (aU : Int) (aN : BA) (aR : Int) (bX bY : LD) (a1 : Int) : Option (Int) := Yam.g k aB aA aG aE aF aV aO aS aK aT aL aP aQ aM aU aN aR bX bY a1 (fun z0 => some z0)
noncomputable def Yam.f {β : Type} (k : Nat) (aB : Int) (aA : Bool) (aG : Int) (aE : BA) (aF aV aO : Int) (aS : Bool) (aK : LD) (aT : Int) (aL : BA) (aP : Int) (aQ aM : LD) (aU : Int) (aN : BA) (aR : Int) (bX bY : LD) (a1 : Int) (K : Int → Option β) : Option β := bd1 (Yam.t k aB aA aG aE aF aV aO aS aK aT aL aP aQ aM aU aN aR bX bY a1) K
noncomputable def Yam.e (k : Nat) : Zk := ent [.agg [.n, .b, .n, .s, .n, .n, .n, .b, .l, .n, .s, .n, .l, .l, .n, .s, .n, .l, .l], .d .n] [1] [.n] [3] false (Yam.t k)
noncomputable def Yam.p (k : Nat) : Pro := ⟨Try.prog, [(63, Yas.e k)], Zn [] false [], k⟩
theorem Yam.ok (k : Nat) : Za Try.prog 40 (Yam.e k) := Zh (Yam.p k) mix tyok Try.func40 (Yas.ok k) (by kernel_rfl) (fun aB aA aG aE aF aV aO aS aK aT aL aP aQ aM aU aN aR bX bY a1 => by show _ = _; kernel_rfl)
noncomputable def YE.l0 {β : Type} (k : Nat) (aC : LD) (K : Int → Option β) (L0 : (Int × Int) → Option β) (v : Int × Int) : Option β :=
 match v with
 | (aD, aH) => bif (decide ((aH : Int) < (aC.length : Int))) then (atR aC aH [.n, .b, .n, .s, .n, .n, .n, .b, .l, .n, .s, .n, .l, .l, .n, .s, .n, .l, .l] fun x63 x66 x69 x72 x75 x78 x81 x84 x87 x90 x93 x96 x99 x102 x105 x108 x111 x114 x117 => (Yam.f k x63 x66 x69 x72 x75 x78 x81 x84 x87 x90 x93 x96 x99 x102 x105 x108 x111 x114 x117 aD (fun y118 => bif (decide ((y118 : Int) < 0)) then (K (-1)) else (L0 (y118, IntKind.wrap .i64 (aH + 1)))))) else (K aD)
noncomputable def YE.m {β : Type} (k : Nat) (a0 : LD) (a1 : Int) (K : Int → Option β) (F : (LD → (Int × Int) → Option β)) : Option β :=
 bif (decide (((IntKind.wrap .i64 (a1 - (a0.length : Int))) : Int) < 0)) then (K (-1)) else (F a0 (IntKind.wrap .i64 (a1 - (a0.length : Int)), 0))
noncomputable def YE.g {β : Type} (k : Nat) (a0 : LD) (a1 : Int) (K : Int → Option β) : Option β :=
 bif (decide (((IntKind.wrap .i64 (a1 - (a0.length : Int))) : Int) < 0)) then (K (-1)) else (Zo (YE.l0 k a0 K) k (IntKind.wrap .i64 (a1 - (a0.length : Int)), 0))
noncomputable def YE.t (k : Nat) (a0 : LD) (a1 : Int) : Option (Int) := YE.g k a0 a1 (fun z0 => some z0)
noncomputable def YE.f {β : Type} (k : Nat) (a0 : LD) (a1 : Int) (K : Int → Option β) : Option β := bd1 (YE.t k a0 a1) K
noncomputable def YE.e (k : Nat) : Zk := ent [.d .l, .d .n] [1] [.n] [3] false (YE.t k)
noncomputable def YE.p (k : Nat) : Pro := ⟨Try.prog, [(40, Yam.e k)], Zn [(5, kp [0, 1, 5])] false [], k⟩
noncomputable def YE.d (k : Nat) (a0 : LD) (a1 : Int) : Ex → St → Option (Int) := (YE.p k).fin Try.f15 [.d (.sl a0), .d (.int .i64 a1)] [1] [.n]
noncomputable def YE.s0 (aC : LD) (v : Int × Int) : St :=
 match v with
 | (aD, aH) => ZX 27 [(0, .d false (.sl aC)), (1, .d true (.int .i64 aD)), (5, .d true (.int .i64 aH))] []
noncomputable def YE.r0 (k : Nat) (a0 : LD) (a1 : Int) (aC : LD) (n : Nat) (v : Int × Int) : Option (Int) := (YE.p k).lp (Zt Try.f15) 5 [1, 1, 1, 0, 1, 0] (YE.d k a0 a1) n (YE.s0 aC v)
theorem YE.l0_eq (k : Nat) (a0 : LD) (a1 : Int) (aC : LD) : ∀ n v, YE.r0 k a0 a1 aC n v = Zo (YE.l0 k aC (fun z0 => some z0)) n v :=
 Zm (YE.s0 aC) _ fun L0 v => by obtain ⟨aD, aH⟩ := v; kernel_rfl
theorem YE.ok (k : Nat) : Za Try.prog 15 (YE.e k) := Zh (YE.p k) mix tyok Try.func15 (Yam.ok k) (by kernel_rfl) (fun a0 a1 => Eq.trans (b := YE.m k a0 a1 (fun z0 => some z0) (fun aC => YE.r0 k a0 a1 aC k)) (by kernel_rfl) (congrArg (YE.m k a0 a1 (fun z0 => some z0)) (funext fun aC => funext fun v => YE.l0_eq k a0 a1 aC k v) :))
noncomputable def Yz.l0 {β : Type} (k : Nat) (aC : LD) (K : LC → Option β) (L0 : (Int × LC) → Option β) (v : Int × LC) : Option β :=
 match v with
 | (aD, aH) => bif (decide ((aD : Int) < (aC.length : Int))) then (atR aC aD [.s] fun x8 => (Zc ((0 : Int) ≤ aD ∧ aD < (aH.length : Int)) (Zc (Int.toNat aD < aH.length) (L0 (IntKind.wrap .i64 (aD + 1), aH.modify (Int.toNat aD) fun c => Zq c 0 [.d (.str x8)]))))) else (K aH)
noncomputable def Yz.m {β : Type} (k : Nat) (a0 : LD) (K : LC → Option β) (F : (LD → (Int × LC) → Option β)) : Option β :=
 Zc ((0 : Int) ≤ (a0.length : Int) ∧ (a0.length : Int) ≤ (ZN : Int) ∧ (a0.length : Int) ≤ (a0.length : Int) ∧ (a0.length : Int) ≤ (a0.length : Int)) (F a0 (0, List.replicate (Int.toNat (a0.length : Int)) ([.d (.str (⟨#[]⟩ : BA))] : List C)))
noncomputable def Yz.g {β : Type} (k : Nat) (a0 : LD) (K : LC → Option β) : Option β :=
 Zc ((0 : Int) ≤ (a0.length : Int) ∧ (a0.length : Int) ≤ (ZN : Int) ∧ (a0.length : Int) ≤ (a0.length : Int) ∧ (a0.length : Int) ≤ (a0.length : Int)) (Zo (Yz.l0 k a0 K) k (0, List.replicate (Int.toNat (a0.length : Int)) ([.d (.str (⟨#[]⟩ : BA))] : List C)))
noncomputable def Yz.t (k : Nat) (a0 : LD) : Option (LC) := Yz.g k a0 (fun z0 => some z0)
noncomputable def Yz.f {β : Type} (k : Nat) (a0 : LD) (K : LC → Option β) : Option β := bd1 (Yz.t k a0) K
noncomputable def Yz.e (k : Nat) : Zk := ent [.d .l] [1] [.o] [59] false (Yz.t k)
noncomputable def Yz.p (k : Nat) : Pro := ⟨Try.prog, [], Zn [(3, kp [0, 3, 4])] false [], k⟩
noncomputable def Yz.d (k : Nat) (a0 : LD) : Ex → St → Option (LC) := (Yz.p k).fin Try.f87 [.d (.sl a0)] [1] [.o]
noncomputable def Yz.s0 (aC : LD) (v : Int × LC) : St :=
 match v with
 | (aD, aH) => ZX 22 [(0, .d false (.sl aC)), (3, .row 0), (4, .d true (.int .i64 aD))] [.row none true 59 aH]
noncomputable def Yz.r0 (k : Nat) (a0 aC : LD) (n : Nat) (v : Int × LC) : Option (LC) := (Yz.p k).lp (Zt Try.f87) 3 [1, 1, 0, 1, 0] (Yz.d k a0) n (Yz.s0 aC v)
theorem Yz.l0_eq (k : Nat) (a0 aC : LD) : ∀ n v, Yz.r0 k a0 aC n v = Zo (Yz.l0 k aC (fun z0 => some z0)) n v :=
 Zm (Yz.s0 aC) _ fun L0 v => by obtain ⟨aD, aH⟩ := v; kernel_rfl
theorem Yz.ok (k : Nat) : Za Try.prog 87 (Yz.e k) := Zh (Yz.p k) mix tyok Try.func87 trivial (by kernel_rfl) (fun a0 => Eq.trans (b := Yz.m k a0 (fun z0 => some z0) (fun aC => Yz.r0 k a0 aC k)) (by kernel_rfl) (congrArg (Yz.m k a0 (fun z0 => some z0)) (funext fun aC => funext fun v => Yz.l0_eq k a0 aC k v) :))
noncomputable def Yq.l0 {β : Type} (k : Nat) (r_laws_toValueS : LD → (LC → Option β) → Option β) (r_laws_toValue : Int → BA → Int → LD → LD → (Int → BA → Int → LC → LC → Option β) → Option β) (aC : LD) (K : LC → Option β) (L0 : (Int × LC) → Option β) (v : Int × LC) : Option β :=
 match v with
 | (aD, aH) => bif (decide ((aD : Int) < (aC.length : Int))) then (atR aC aD [.n, .s, .n, .l, .l] fun x25 x28 x31 x34 x37 => (r_laws_toValue x25 x28 x31 x34 x37 (fun y38 y39 y40 y41 y42 => Zc ((0 : Int) ≤ aD ∧ aD < (aH.length : Int)) (Zc (Int.toNat aD < aH.length) (L0 (IntKind.wrap .i64 (aD + 1), aH.modify (Int.toNat aD) fun c => Zq c 0 [.d (.int .i64 y38), .d (.str y39), .d (.int .i64 y40), .own y41, .own y42])))))) else (K aH)
noncomputable def Yq.m {β : Type} (k : Nat) (r_laws_toValueS : LD → (LC → Option β) → Option β) (r_laws_toValue : Int → BA → Int → LD → LD → (Int → BA → Int → LC → LC → Option β) → Option β) (a0 : LD) (K : LC → Option β) (F : (LD → (Int × LC) → Option β)) : Option β :=
 Zc ((0 : Int) ≤ (a0.length : Int) ∧ (a0.length : Int) ≤ (ZN : Int) ∧ (a0.length : Int) ≤ (a0.length : Int) ∧ (a0.length : Int) ≤ (a0.length : Int)) (F a0 (0, List.replicate (Int.toNat (a0.length : Int)) ([.d (.int .i64 0), .d (.str (⟨#[]⟩ : BA)), .d (.int .i64 0), .own ([] : LC), .own ([] : LC)] : List C)))
noncomputable def Yq.body {β : Type} (k : Nat) (r_laws_toValueS : LD → (LC → Option β) → Option β) (r_laws_toValue : Int → BA → Int → LD → LD → (Int → BA → Int → LC → LC → Option β) → Option β) (a0 : LD) (K : LC → Option β) : Option β := Yq.m k r_laws_toValueS r_laws_toValue a0 K (fun aC => Zo (Yq.l0 k r_laws_toValueS r_laws_toValue aC K) k)
noncomputable def YK.body {β : Type} (k : Nat) (r_laws_toValueS : LD → (LC → Option β) → Option β) (r_laws_toValue : Int → BA → Int → LD → LD → (Int → BA → Int → LC → LC → Option β) → Option β) (aB : Int) (aA : BA) (aG : Int) (aE aF : LD) (K : Int → BA → Int → LC → LC → Option β) : Option β :=
 Yz.f k aE (fun y1 => r_laws_toValueS aF (fun y43 => K aB aA aG y1 y43))
noncomputable def Yq.w {β : Type} (r : LD → Option (LC)) (a0 : LD) (K : LC → Option β) : Option β := bd1 (r a0) K
noncomputable def YK.w {β : Type} (r : Int → BA → Int → LD → LD → Option (Int × BA × Int × LC × LC)) (aB : Int) (aA : BA) (aG : Int) (aE aF : LD) (K : Int → BA → Int → LC → LC → Option β) : Option β := bd5 (r aB aA aG aE aF) K
noncomputable def Yq.all : Nat → (LD → Option (LC)) × (Int → BA → Int → LD → LD → Option (Int × BA × Int × LC × LC))
 | 0 => (fun _ => none, fun _ _ _ _ _ => none)
 | k + 1 => (fun r => (fun a0 => Yq.body k (Yq.w r.1) (YK.w r.2) a0 (fun z0 => some z0), fun aB aA aG aE aF => YK.body k (Yq.w r.1) (YK.w r.2) aB aA aG aE aF (fun z0 z1 z2 z3 z4 => some (z0, z1, z2, z3, z4)))) (Yq.all k)
noncomputable def Yq.t (k : Nat) (a0 : LD) : Option (LC) := (Yq.all k).1 a0
noncomputable def YK.t (k : Nat) (aB : Int) (aA : BA) (aG : Int) (aE aF : LD) : Option (Int × BA × Int × LC × LC) := (Yq.all k).2 aB aA aG aE aF
noncomputable def Yq.f {β : Type} (k : Nat) (a0 : LD) (K : LC → Option β) : Option β := Yq.w (Yq.t k) a0 K
noncomputable def YK.f {β : Type} (k : Nat) (aB : Int) (aA : BA) (aG : Int) (aE aF : LD) (K : Int → BA → Int → LC → LC → Option β) : Option β := YK.w (YK.t k) aB aA aG aE aF K
noncomputable def Yq.g {β : Type} (k : Nat) (a0 : LD) (K : LC → Option β) : Option β := Yq.body k (Yq.f k) (YK.f k) a0 K
theorem Yq.t_succ (k : Nat) (a0 : LD) : Yq.t (k + 1) a0 = Yq.g k a0 (fun z0 => some z0) := rfl
noncomputable def YK.g {β : Type} (k : Nat) (aB : Int) (aA : BA) (aG : Int) (aE aF : LD) (K : Int → BA → Int → LC → LC → Option β) : Option β := YK.body k (Yq.f k) (YK.f k) aB aA aG aE aF K
theorem YK.t_succ (k : Nat) (aB : Int) (aA : BA) (aG : Int) (aE aF : LD) : YK.t (k + 1) aB aA aG aE aF = YK.g k aB aA aG aE aF (fun z0 z1 z2 z3 z4 => some (z0, z1, z2, z3, z4)) := rfl
noncomputable def Yq.e (k : Nat) : Zk := ent [.d .l] [1] [.o] [60] false (Yq.t k)
noncomputable def YK.e (k : Nat) : Zk := ent [.agg [.n, .s, .n, .l, .l]] [5] [.n, .s, .n, .o, .o] [62] false (YK.t k)
noncomputable def Yq.p (k : Nat) : Pro := ⟨Try.prog, [(80, YK.e k)], Zn [(3, kp [0, 3, 4])] false [], k⟩
noncomputable def Yq.d (k : Nat) (a0 : LD) : Ex → St → Option (LC) := (Yq.p k).fin Try.f99 [.d (.sl a0)] [1] [.o]
noncomputable def Yq.s0 (aC : LD) (v : Int × LC) : St :=
 match v with
 | (aD, aH) => ZX 23 [(0, .d false (.sl aC)), (3, .row 0), (4, .d true (.int .i64 aD))] [.row none true 60 aH]
noncomputable def Yq.r0 (k : Nat) (a0 aC : LD) (n : Nat) (v : Int × LC) : Option (LC) := (Yq.p k).lp (Zt Try.f99) 3 [1, 1, 0, 1, 0] (Yq.d k a0) n (Yq.s0 aC v)
theorem Yq.l0_eq (k : Nat) (a0 aC : LD) : ∀ n v, Yq.r0 k a0 aC n v = Zo (Yq.l0 k (Yq.f k) (YK.f k) aC (fun z0 => some z0)) n v :=
 Zm (Yq.s0 aC) _ fun L0 v => by obtain ⟨aD, aH⟩ := v; kernel_rfl
noncomputable def YK.p (k : Nat) : Pro := ⟨Try.prog, [(87, Yz.e k), (99, Yq.e k)], Zn [] false [], k⟩
theorem Yq.oks (k : Nat) : Za Try.prog 99 (Yq.e k) ∧ Za Try.prog 80 (YK.e k) := by
 induction k with
 | zero => exact ⟨Z7 Try.func99 (by kernel_rfl) (fun _ => rfl),
  Z7 Try.func80 (by kernel_rfl) (fun _ _ _ _ _ => rfl)⟩
 | succ k ih => exact ⟨Zh (Yq.p k) mix tyok Try.func99 ih.2 (by kernel_rfl) (fun a0 => Eq.trans (b := Yq.m k (Yq.f k) (YK.f k) a0 (fun z0 => some z0) (fun aC => Yq.r0 k a0 aC k)) (by kernel_rfl) ((congrArg (Yq.m k (Yq.f k) (YK.f k) a0 (fun z0 => some z0)) (funext fun aC => funext fun v => Yq.l0_eq k a0 aC k v)).trans (Yq.t_succ k a0).symm)),
  Zh (YK.p k) mix tyok Try.func80 ⟨Yz.ok k, ih.1⟩ (by kernel_rfl) (fun aB aA aG aE aF => by show _ = _; kernel_rfl)⟩
theorem YK.ok (k : Nat) : Za Try.prog 80 (YK.e k) := (Yq.oks k).2
noncomputable def Yak.g {β : Type} (k : Nat) (aB : Int) (aA : BA) (aG aE aF : Int) (aV : Bool) (aO : LD) (aS : Int) (aK : BA) (aT : Int) (aL aP : LD) (aQ : Int) (aM : BA) (aU : Int) (aN aR : LD) (K : Int → BA → Int → Int → Int → Bool → LC → Int → BA → Int → LC → LC → Int → BA → Int → LC → LC → Option β) : Option β :=
 Yz.f k aO (fun y9 => YK.f k aS aK aT aL aP (fun y44 y45 y46 y47 y48 => YK.f k aQ aM aU aN aR (fun y49 y50 y51 y52 y53 => K aB aA aG aE aF aV y9 y44 y45 y46 y47 y48 y49 y50 y51 y52 y53)))
noncomputable def Yak.t (k : Nat) (aB : Int) (aA : BA) (aG aE aF : Int) (aV : Bool) (aO : LD) (aS : Int) (aK : BA) (aT : Int) (aL aP : LD) (aQ : Int) (aM : BA) (aU : Int) (aN aR : LD) : Option (Int × BA × Int × Int × Int × Bool × LC × Int × BA × Int × LC × LC × Int × BA × Int × LC × LC) := Yak.g k aB aA aG aE aF aV aO aS aK aT aL aP aQ aM aU aN aR (fun z0 z1 z2 z3 z4 z5 z6 z7 z8 z9 z10 z11 z12 z13 z14 z15 z16 => some (z0, z1, z2, z3, z4, z5, z6, z7, z8, z9, z10, z11, z12, z13, z14, z15, z16))
noncomputable def Yak.f {β : Type} (k : Nat) (aB : Int) (aA : BA) (aG aE aF : Int) (aV : Bool) (aO : LD) (aS : Int) (aK : BA) (aT : Int) (aL aP : LD) (aQ : Int) (aM : BA) (aU : Int) (aN aR : LD) (K : Int → BA → Int → Int → Int → Bool → LC → Int → BA → Int → LC → LC → Int → BA → Int → LC → LC → Option β) : Option β := match Yak.t k aB aA aG aE aF aV aO aS aK aT aL aP aQ aM aU aN aR with | some (z0, z1, z2, z3, z4, z5, z6, z7, z8, z9, z10, z11, z12, z13, z14, z15, z16) => K z0 z1 z2 z3 z4 z5 z6 z7 z8 z9 z10 z11 z12 z13 z14 z15 z16 | none => none
noncomputable def Yak.e (k : Nat) : Zk := ent [.agg [.n, .s, .n, .n, .n, .b, .l, .n, .s, .n, .l, .l, .n, .s, .n, .l, .l]] [17] [.n, .s, .n, .n, .n, .b, .o, .n, .s, .n, .o, .o, .n, .s, .n, .o, .o] [91] false (Yak.t k)
noncomputable def Yak.p (k : Nat) : Pro := ⟨Try.prog, [(87, Yz.e k), (80, YK.e k)], Zn [] false [], k⟩
theorem Yak.ok (k : Nat) : Za Try.prog 69 (Yak.e k) := Zh (Yak.p k) mix tyok Try.func69 ⟨Yz.ok k, YK.ok k⟩ (by kernel_rfl) (fun aB aA aG aE aF aV aO aS aK aT aL aP aQ aM aU aN aR => by show _ = _; kernel_rfl)
noncomputable def YT.l0 {β : Type} (k : Nat) (aC : LD) (K : LC → Option β) (L0 : (Int × LC) → Option β) (v : Int × LC) : Option β :=
 match v with
 | (aD, aH) => bif (decide ((aD : Int) < (aC.length : Int))) then (atR aC aD [.n, .s, .n, .n, .n, .b, .l, .n, .s, .n, .l, .l, .n, .s, .n, .l, .l] fun x74 x77 x80 x83 x86 x89 x92 x95 x98 x101 x104 x107 x110 x113 x116 x119 x122 => (Yak.f k x74 x77 x80 x83 x86 x89 x92 x95 x98 x101 x104 x107 x110 x113 x116 x119 x122 (fun y123 y124 y125 y126 y127 y128 y129 y130 y131 y132 y133 y134 y135 y136 y137 y138 y139 => Zc ((0 : Int) ≤ aD ∧ aD < (aH.length : Int)) (Zc (Int.toNat aD < aH.length) (L0 (IntKind.wrap .i64 (aD + 1), aH.modify (Int.toNat aD) fun c => Zq c 0 [.d (.int .i64 y123), .d (.str y124), .d (.int .i64 y125), .d (.int .i64 y126), .d (.int .i64 y127), .d (.bool y128), .own y129, .d (.int .i64 y130), .d (.str y131), .d (.int .i64 y132), .own y133, .own y134, .d (.int .i64 y135), .d (.str y136), .d (.int .i64 y137), .own y138, .own y139])))))) else (K aH)
noncomputable def YT.m {β : Type} (k : Nat) (a0 : LD) (K : LC → Option β) (F : (LD → (Int × LC) → Option β)) : Option β :=
 Zc ((0 : Int) ≤ (a0.length : Int) ∧ (a0.length : Int) ≤ (ZN : Int) ∧ (a0.length : Int) ≤ (a0.length : Int) ∧ (a0.length : Int) ≤ (a0.length : Int)) (F a0 (0, List.replicate (Int.toNat (a0.length : Int)) ([.d (.int .i64 0), .d (.str (⟨#[]⟩ : BA)), .d (.int .i64 0), .d (.int .i64 0), .d (.int .i64 0), .d (.bool false), .own ([] : LC), .d (.int .i64 0), .d (.str (⟨#[]⟩ : BA)), .d (.int .i64 0), .own ([] : LC), .own ([] : LC), .d (.int .i64 0), .d (.str (⟨#[]⟩ : BA)), .d (.int .i64 0), .own ([] : LC), .own ([] : LC)] : List C)))
noncomputable def YT.g {β : Type} (k : Nat) (a0 : LD) (K : LC → Option β) : Option β := YT.m k a0 K (fun aC => Zo (YT.l0 k aC K) k)
noncomputable def YT.t (k : Nat) (a0 : LD) : Option (LC) := YT.g k a0 (fun z0 => some z0)
noncomputable def YT.f {β : Type} (k : Nat) (a0 : LD) (K : LC → Option β) : Option β := bd1 (YT.t k a0) K
noncomputable def YT.e (k : Nat) : Zk := ent [.d .l] [1] [.o] [44] false (YT.t k)
noncomputable def YT.p (k : Nat) : Pro := ⟨Try.prog, [(69, Yak.e k)], Zn [(3, kp [0, 3, 4])] false [], k⟩
noncomputable def YT.d (k : Nat) (a0 : LD) : Ex → St → Option (LC) := (YT.p k).fin Try.f45 [.d (.sl a0)] [1] [.o]
noncomputable def YT.s0 (aC : LD) (v : Int × LC) : St :=
 match v with
 | (aD, aH) => ZX 23 [(0, .d false (.sl aC)), (3, .row 0), (4, .d true (.int .i64 aD))] [.row none true 44 aH]
noncomputable def YT.r0 (k : Nat) (a0 aC : LD) (n : Nat) (v : Int × LC) : Option (LC) := (YT.p k).lp (Zt Try.f45) 3 [1, 1, 0, 1, 0] (YT.d k a0) n (YT.s0 aC v)
theorem YT.l0_eq (k : Nat) (a0 aC : LD) : ∀ n v, YT.r0 k a0 aC n v = Zo (YT.l0 k aC (fun z0 => some z0)) n v :=
 Zm (YT.s0 aC) _ fun L0 v => by obtain ⟨aD, aH⟩ := v; kernel_rfl
theorem YT.ok (k : Nat) : Za Try.prog 45 (YT.e k) := Zh (YT.p k) mix tyok Try.func45 (Yak.ok k) (by kernel_rfl) (fun a0 => Eq.trans (b := YT.m k a0 (fun z0 => some z0) (fun aC => YT.r0 k a0 aC k)) (by kernel_rfl) (congrArg (YT.m k a0 (fun z0 => some z0)) (funext fun aC => funext fun v => YT.l0_eq k a0 aC k v) :))
noncomputable def Y5.g {β : Type} (k : Nat) (aB : Int) (aA : LD) (K : Int → LC → Option β) : Option β :=
 YT.f k aA (fun y140 => K aB y140)
noncomputable def Y5.t (k : Nat) (aB : Int) (aA : LD) : Option (Int × LC) := Y5.g k aB aA (fun z0 z1 => some (z0, z1))
noncomputable def Y5.f {β : Type} (k : Nat) (aB : Int) (aA : LD) (K : Int → LC → Option β) : Option β := bd2 (Y5.t k aB aA) K
noncomputable def Y5.e (k : Nat) : Zk := ent [.agg [.n, .l]] [2] [.n, .o] [46] false (Y5.t k)
noncomputable def Y5.p (k : Nat) : Pro := ⟨Try.prog, [(45, YT.e k)], Zn [] false [], k⟩
theorem Y5.ok (k : Nat) : Za Try.prog 17 (Y5.e k) := Zh (Y5.p k) mix tyok Try.func17 (YT.ok k) (by kernel_rfl) (fun aB aA => by show _ = _; kernel_rfl)
noncomputable def Yae.g {β : Type} (k : Nat) (aB : Int) (aA : Bool) (aG : Int) (aE : BA) (aF aV aO : Int) (aS : Bool) (aK : LD) (aT : Int) (aL : BA) (aP : Int) (aQ aM : LD) (aU : Int) (aN : BA) (aR : Int) (bX bY : LD) (K : Int → Bool → Int → BA → Int → Int → Int → Bool → LC → Int → BA → Int → LC → LC → Int → BA → Int → LC → LC → Option β) : Option β :=
 Yak.f k aG aE aF aV aO aS aK aT aL aP aQ aM aU aN aR bX bY (fun y1 y2 y3 y4 y5 y6 y7 y8 y9 y10 y11 y12 y13 y14 y15 y16 y17 => K aB aA y1 y2 y3 y4 y5 y6 y7 y8 y9 y10 y11 y12 y13 y14 y15 y16 y17)
noncomputable def Yae.t (k : Nat) (aB : Int) (aA : Bool) (aG : Int) (aE : BA) (aF aV aO : Int) (aS : Bool) (aK : LD) (aT : Int) (aL : BA) (aP : Int) (aQ aM : LD) (aU : Int) (aN : BA) (aR : Int) (bX bY : LD) : Option (Int × Bool × Int × BA × Int × Int × Int × Bool × LC × Int × BA × Int × LC × LC × Int × BA × Int × LC × LC) := Yae.g k aB aA aG aE aF aV aO aS aK aT aL aP aQ aM aU aN aR bX bY (fun z0 z1 z2 z3 z4 z5 z6 z7 z8 z9 z10 z11 z12 z13 z14 z15 z16 z17 z18 => some (z0, z1, z2, z3, z4, z5, z6, z7, z8, z9, z10, z11, z12, z13, z14, z15, z16, z17, z18))
noncomputable def Yae.f {β : Type} (k : Nat) (aB : Int) (aA : Bool) (aG : Int) (aE : BA) (aF aV aO : Int) (aS : Bool) (aK : LD) (aT : Int) (aL : BA) (aP : Int) (aQ aM : LD) (aU : Int) (aN : BA) (aR : Int) (bX bY : LD) (K : Int → Bool → Int → BA → Int → Int → Int → Bool → LC → Int → BA → Int → LC → LC → Int → BA → Int → LC → LC → Option β) : Option β := match Yae.t k aB aA aG aE aF aV aO aS aK aT aL aP aQ aM aU aN aR bX bY with | some (z0, z1, z2, z3, z4, z5, z6, z7, z8, z9, z10, z11, z12, z13, z14, z15, z16, z17, z18) => K z0 z1 z2 z3 z4 z5 z6 z7 z8 z9 z10 z11 z12 z13 z14 z15 z16 z17 z18 | none => none
noncomputable def Yae.e (k : Nat) : Zk := ent [.agg [.n, .b, .n, .s, .n, .n, .n, .b, .l, .n, .s, .n, .l, .l, .n, .s, .n, .l, .l]] [19] [.n, .b, .n, .s, .n, .n, .n, .b, .o, .n, .s, .n, .o, .o, .n, .s, .n, .o, .o] [93] false (Yae.t k)
noncomputable def Yae.p (k : Nat) : Pro := ⟨Try.prog, [(69, Yak.e k)], Zn [] false [], k⟩
theorem Yae.ok (k : Nat) : Za Try.prog 46 (Yae.e k) := Zh (Yae.p k) mix tyok Try.func46 (Yak.ok k) (by kernel_rfl) (fun aB aA aG aE aF aV aO aS aK aT aL aP aQ aM aU aN aR bX bY => by show _ = _; kernel_rfl)
noncomputable def Yv.l0 {β : Type} (k : Nat) (aC : LD) (K : LC → Option β) (L0 : (Int × LC) → Option β) (v : Int × LC) : Option β :=
 match v with
 | (aD, aH) => bif (decide ((aD : Int) < (aC.length : Int))) then (atR aC aD [.n, .b, .n, .s, .n, .n, .n, .b, .l, .n, .s, .n, .l, .l, .n, .s, .n, .l, .l] fun x81 x84 x87 x90 x93 x96 x99 x102 x105 x108 x111 x114 x117 x120 x123 x126 x129 x132 x135 => (Yae.f k x81 x84 x87 x90 x93 x96 x99 x102 x105 x108 x111 x114 x117 x120 x123 x126 x129 x132 x135 (fun y136 y137 y138 y139 y140 y141 y142 y143 y144 y145 y146 y147 y148 y149 y150 y151 y152 y153 y154 => Zc ((0 : Int) ≤ aD ∧ aD < (aH.length : Int)) (Zc (Int.toNat aD < aH.length) (L0 (IntKind.wrap .i64 (aD + 1), aH.modify (Int.toNat aD) fun c => Zq c 0 [.d (.int .i64 y136), .d (.bool y137), .d (.int .i64 y138), .d (.str y139), .d (.int .i64 y140), .d (.int .i64 y141), .d (.int .i64 y142), .d (.bool y143), .own y144, .d (.int .i64 y145), .d (.str y146), .d (.int .i64 y147), .own y148, .own y149, .d (.int .i64 y150), .d (.str y151), .d (.int .i64 y152), .own y153, .own y154])))))) else (K aH)
noncomputable def Yv.m {β : Type} (k : Nat) (a0 : LD) (K : LC → Option β) (F : (LD → (Int × LC) → Option β)) : Option β :=
 Zc ((0 : Int) ≤ (a0.length : Int) ∧ (a0.length : Int) ≤ (ZN : Int) ∧ (a0.length : Int) ≤ (a0.length : Int) ∧ (a0.length : Int) ≤ (a0.length : Int)) (F a0 (0, List.replicate (Int.toNat (a0.length : Int)) ([.d (.int .i64 0), .d (.bool false), .d (.int .i64 0), .d (.str (⟨#[]⟩ : BA)), .d (.int .i64 0), .d (.int .i64 0), .d (.int .i64 0), .d (.bool false), .own ([] : LC), .d (.int .i64 0), .d (.str (⟨#[]⟩ : BA)), .d (.int .i64 0), .own ([] : LC), .own ([] : LC), .d (.int .i64 0), .d (.str (⟨#[]⟩ : BA)), .d (.int .i64 0), .own ([] : LC), .own ([] : LC)] : List C)))
noncomputable def Yv.g {β : Type} (k : Nat) (a0 : LD) (K : LC → Option β) : Option β := Yv.m k a0 K (fun aC => Zo (Yv.l0 k aC K) k)
noncomputable def Yv.t (k : Nat) (a0 : LD) : Option (LC) := Yv.g k a0 (fun z0 => some z0)
noncomputable def Yv.f {β : Type} (k : Nat) (a0 : LD) (K : LC → Option β) : Option β := bd1 (Yv.t k a0) K
noncomputable def Yv.e (k : Nat) : Zk := ent [.d .l] [1] [.o] [50] false (Yv.t k)
noncomputable def Yv.p (k : Nat) : Pro := ⟨Try.prog, [(46, Yae.e k)], Zn [(3, kp [0, 3, 4])] false [], k⟩
noncomputable def Yv.d (k : Nat) (a0 : LD) : Ex → St → Option (LC) := (Yv.p k).fin Try.f18 [.d (.sl a0)] [1] [.o]
noncomputable def Yv.s0 (aC : LD) (v : Int × LC) : St :=
 match v with
 | (aD, aH) => ZX 23 [(0, .d false (.sl aC)), (3, .row 0), (4, .d true (.int .i64 aD))] [.row none true 50 aH]
noncomputable def Yv.r0 (k : Nat) (a0 aC : LD) (n : Nat) (v : Int × LC) : Option (LC) := (Yv.p k).lp (Zt Try.f18) 3 [1, 1, 0, 1, 0] (Yv.d k a0) n (Yv.s0 aC v)
theorem Yv.l0_eq (k : Nat) (a0 aC : LD) : ∀ n v, Yv.r0 k a0 aC n v = Zo (Yv.l0 k aC (fun z0 => some z0)) n v :=
 Zm (Yv.s0 aC) _ fun L0 v => by obtain ⟨aD, aH⟩ := v; kernel_rfl
theorem Yv.ok (k : Nat) : Za Try.prog 18 (Yv.e k) := Zh (Yv.p k) mix tyok Try.func18 (Yae.ok k) (by kernel_rfl) (fun a0 => Eq.trans (b := Yv.m k a0 (fun z0 => some z0) (fun aC => Yv.r0 k a0 aC k)) (by kernel_rfl) (congrArg (Yv.m k a0 (fun z0 => some z0)) (funext fun aC => funext fun v => Yv.l0_eq k a0 aC k v) :))
noncomputable def Yy.l0 {β : Type} (k : Nat) (r_spec_l4Copy : Int → BA → Int → LD → LD → (Int → BA → Int → LC → LC → Option β) → Option β) (aD : Int) (aH : BA) (aI : Int) (aJ aW : LD) (aZ : Int) (bD : BA) (bR bQ : Int) (bU : BA) (bT : Int) (bV : LC) (K : Int → BA → Int → LC → LC → Option β) (L0 : (Int × LC) → Option β) (v : Int × LC) : Option β :=
 match v with
 | (aC, bW) => bif (decide ((aC : Int) < (aW.length : Int))) then (atR aW aC [.n, .s, .n, .l, .l] fun x25 x28 x31 x34 x37 => (r_spec_l4Copy x25 x28 x31 x34 x37 (fun y38 y39 y40 y41 y42 => Zc (bW.length + ([[.d (.int .i64 y38), .d (.str y39), .d (.int .i64 y40), .own y41, .own y42]] : LC).length ≤ ZN) (L0 (IntKind.wrap .i64 (aC + 1), bW ++ ([[.d (.int .i64 y38), .d (.str y39), .d (.int .i64 y40), .own y41, .own y42]] : LC)))))) else (K bQ bU bT bV bW)
noncomputable def Yy.m {β : Type} (k : Nat) (r_spec_l4Copy : Int → BA → Int → LD → LD → (Int → BA → Int → LC → LC → Option β) → Option β) (aB : Int) (aA : BA) (aG : Int) (aE aF : LD) (K : Int → BA → Int → LC → LC → Option β) (F : (Int → BA → Int → LD → LD → Int → BA → Int → Int → BA → Int → LC → (Int × LC) → Option β)) : Option β :=
 Zc (ZaZ 1 aE) (Zc (([] : LC).length + (aE.map (·.map C.d)).length ≤ ZN) (F aB aA aG aE aF 0 (⟨#[]⟩ : BA) 0 aB aA aG (([] : LC) ++ (aE.map (·.map C.d))) (0, ([] : LC))))
noncomputable def Yy.body {β : Type} (k : Nat) (r_spec_l4Copy : Int → BA → Int → LD → LD → (Int → BA → Int → LC → LC → Option β) → Option β) (aB : Int) (aA : BA) (aG : Int) (aE aF : LD) (K : Int → BA → Int → LC → LC → Option β) : Option β :=
 Zc (ZaZ 1 aE) (Zc (([] : LC).length + (aE.map (·.map C.d)).length ≤ ZN) (Zo (Yy.l0 k r_spec_l4Copy aB aA aG aE aF 0 (⟨#[]⟩ : BA) 0 aB aA aG (([] : LC) ++ (aE.map (·.map C.d))) K) k (0, ([] : LC))))
noncomputable def Yy.w {β : Type} (r : Int → BA → Int → LD → LD → Option (Int × BA × Int × LC × LC)) (aB : Int) (aA : BA) (aG : Int) (aE aF : LD) (K : Int → BA → Int → LC → LC → Option β) : Option β := bd5 (r aB aA aG aE aF) K
noncomputable def Yy.all : Nat → (Int → BA → Int → LD → LD → Option (Int × BA × Int × LC × LC))
 | 0 => (fun _ _ _ _ _ => none)
 | k + 1 => (fun r => (fun aB aA aG aE aF => Yy.body k (Yy.w r) aB aA aG aE aF (fun z0 z1 z2 z3 z4 => some (z0, z1, z2, z3, z4)))) (Yy.all k)
noncomputable def Yy.t (k : Nat) (aB : Int) (aA : BA) (aG : Int) (aE aF : LD) : Option (Int × BA × Int × LC × LC) := (Yy.all k) aB aA aG aE aF
noncomputable def Yy.f {β : Type} (k : Nat) (aB : Int) (aA : BA) (aG : Int) (aE aF : LD) (K : Int → BA → Int → LC → LC → Option β) : Option β := Yy.w (Yy.t k) aB aA aG aE aF K
noncomputable def Yy.g {β : Type} (k : Nat) (aB : Int) (aA : BA) (aG : Int) (aE aF : LD) (K : Int → BA → Int → LC → LC → Option β) : Option β := Yy.body k (Yy.f k) aB aA aG aE aF K
theorem Yy.t_succ (k : Nat) (aB : Int) (aA : BA) (aG : Int) (aE aF : LD) : Yy.t (k + 1) aB aA aG aE aF = Yy.g k aB aA aG aE aF (fun z0 z1 z2 z3 z4 => some (z0, z1, z2, z3, z4)) := rfl
noncomputable def Yy.e (k : Nat) : Zk := ent [.agg [.n, .s, .n, .l, .l]] [5] [.n, .s, .n, .o, .o] [62] false (Yy.t k)
noncomputable def Yy.p (k : Nat) : Pro := ⟨Try.prog, [(86, Yy.e k)], Zn [(3, kp [1, 2, 3, 4] [] [(3, 4, .row true 60)])] false [], k⟩
noncomputable def Yy.d (k : Nat) (aB : Int) (aA : BA) (aG : Int) (aE aF : LD) : Ex → St → Option (Int × BA × Int × LC × LC) := (Yy.p k).fin Try.f86 [.agg [.int .i64 aB, .str aA, .int .i64 aG, .sl aE, .sl aF]] [5] [.n, .s, .n, .o, .o]
noncomputable def Yy.s0 (aD : Int) (aH : BA) (aI : Int) (aJ aW : LD) (aZ : Int) (bD : BA) (bR bQ : Int) (bU : BA) (bT : Int) (bV : LC) (v : Int × LC) : St :=
 match v with
 | (aC, bW) => ZX 35 [(1, .bp 0 0), (2, .bp 1 0), (3, .bp 2 0), (4, .d true (.int .i64 aC))] [.box none 62 [.d false (.int .i64 aD), .d false (.str aH), .d false (.int .i64 aI), .d false (.sl aJ), .d false (.sl aW)], .box none 62 [.d true (.int .i64 aZ), .d true (.str bD), .d true (.int .i64 bR), .nil, .nil], .box none 62 [.d false (.int .i64 bQ), .d false (.str bU), .d false (.int .i64 bT), .row 3, .row 4], .row none true 59 bV, .row none true 60 bW]
noncomputable def Yy.r0 (k : Nat) (aB : Int) (aA : BA) (aG : Int) (aE aF : LD) (aD : Int) (aH : BA) (aI : Int) (aJ aW : LD) (aZ : Int) (bD : BA) (bR bQ : Int) (bU : BA) (bT : Int) (bV : LC) (n : Nat) (v : Int × LC) : Option (Int × BA × Int × LC × LC) := (Yy.p k).lp (Zt Try.f86) 3 [1, 1, 0, 1, 0] (Yy.d k aB aA aG aE aF) n (Yy.s0 aD aH aI aJ aW aZ bD bR bQ bU bT bV v)
theorem Yy.l0_eq (k : Nat) (aB : Int) (aA : BA) (aG : Int) (aE aF : LD) (aD : Int) (aH : BA) (aI : Int) (aJ aW : LD) (aZ : Int) (bD : BA) (bR bQ : Int) (bU : BA) (bT : Int) (bV : LC) : ∀ n v, Yy.r0 k aB aA aG aE aF aD aH aI aJ aW aZ bD bR bQ bU bT bV n v = Zo (Yy.l0 k (Yy.f k) aD aH aI aJ aW aZ bD bR bQ bU bT bV (fun z0 z1 z2 z3 z4 => some (z0, z1, z2, z3, z4))) n v :=
 Zm (Yy.s0 aD aH aI aJ aW aZ bD bR bQ bU bT bV) _ fun L0 v => by obtain ⟨aC, bW⟩ := v; kernel_rfl
theorem Yy.oks (k : Nat) : Za Try.prog 86 (Yy.e k) := by
 induction k with
 | zero => exact Z7 Try.func86 (by kernel_rfl) (fun _ _ _ _ _ => rfl)
 | succ k ih => exact Zh (Yy.p k) mix tyok Try.func86 ih (by kernel_rfl) (fun aB aA aG aE aF => Eq.trans (b := Yy.m k (Yy.f k) aB aA aG aE aF (fun z0 z1 z2 z3 z4 => some (z0, z1, z2, z3, z4)) (fun aD aH aI aJ aW aZ bD bR bQ bU bT bV => Yy.r0 k aB aA aG aE aF aD aH aI aJ aW aZ bD bR bQ bU bT bV k)) (by kernel_rfl) ((congrArg (Yy.m k (Yy.f k) aB aA aG aE aF (fun z0 z1 z2 z3 z4 => some (z0, z1, z2, z3, z4))) (funext fun aD => funext fun aH => funext fun aI => funext fun aJ => funext fun aW => funext fun aZ => funext fun bD => funext fun bR => funext fun bQ => funext fun bU => funext fun bT => funext fun bV => funext fun v => Yy.l0_eq k aB aA aG aE aF aD aH aI aJ aW aZ bD bR bQ bU bT bV k v)).trans (Yy.t_succ k aB aA aG aE aF).symm))
theorem Yy.ok (k : Nat) : Za Try.prog 86 (Yy.e k) := (Yy.oks k)
noncomputable def Yar.g {β : Type} (k : Nat) (aB : Int) (aA : BA) (aG aE aF : Int) (aV : Bool) (aO : LD) (aS : Int) (aK : BA) (aT : Int) (aL aP : LD) (aQ : Int) (aM : BA) (aU : Int) (aN aR : LD) (K : Int → BA → Int → Int → Int → Bool → LC → Int → BA → Int → LC → LC → Int → BA → Int → LC → LC → Option β) : Option β :=
 Zc (ZaZ 1 aO) (Zc (([] : LC).length + (aO.map (·.map C.d)).length ≤ ZN) (Yy.f k aS aK aT aL aP (fun y43 y44 y45 y46 y47 => Yy.f k aQ aM aU aN aR (fun y48 y49 y50 y51 y52 => K aB aA aG aE aF aV (([] : LC) ++ (aO.map (·.map C.d))) y43 y44 y45 y46 y47 y48 y49 y50 y51 y52))))
noncomputable def Yar.t (k : Nat) (aB : Int) (aA : BA) (aG aE aF : Int) (aV : Bool) (aO : LD) (aS : Int) (aK : BA) (aT : Int) (aL aP : LD) (aQ : Int) (aM : BA) (aU : Int) (aN aR : LD) : Option (Int × BA × Int × Int × Int × Bool × LC × Int × BA × Int × LC × LC × Int × BA × Int × LC × LC) := Yar.g k aB aA aG aE aF aV aO aS aK aT aL aP aQ aM aU aN aR (fun z0 z1 z2 z3 z4 z5 z6 z7 z8 z9 z10 z11 z12 z13 z14 z15 z16 => some (z0, z1, z2, z3, z4, z5, z6, z7, z8, z9, z10, z11, z12, z13, z14, z15, z16))
noncomputable def Yar.f {β : Type} (k : Nat) (aB : Int) (aA : BA) (aG aE aF : Int) (aV : Bool) (aO : LD) (aS : Int) (aK : BA) (aT : Int) (aL aP : LD) (aQ : Int) (aM : BA) (aU : Int) (aN aR : LD) (K : Int → BA → Int → Int → Int → Bool → LC → Int → BA → Int → LC → LC → Int → BA → Int → LC → LC → Option β) : Option β := match Yar.t k aB aA aG aE aF aV aO aS aK aT aL aP aQ aM aU aN aR with | some (z0, z1, z2, z3, z4, z5, z6, z7, z8, z9, z10, z11, z12, z13, z14, z15, z16) => K z0 z1 z2 z3 z4 z5 z6 z7 z8 z9 z10 z11 z12 z13 z14 z15 z16 | none => none
noncomputable def Yar.e (k : Nat) : Zk := ent [.agg [.n, .s, .n, .n, .n, .b, .l, .n, .s, .n, .l, .l, .n, .s, .n, .l, .l]] [17] [.n, .s, .n, .n, .n, .b, .o, .n, .s, .n, .o, .o, .n, .s, .n, .o, .o] [91] false (Yar.t k)
noncomputable def Yar.p (k : Nat) : Pro := ⟨Try.prog, [(86, Yy.e k)], Zn [] false [], k⟩
theorem Yar.ok (k : Nat) : Za Try.prog 68 (Yar.e k) := Zh (Yar.p k) mix tyok Try.func68 (Yy.ok k) (by kernel_rfl) (fun aB aA aG aE aF aV aO aS aK aT aL aP aQ aM aU aN aR => by show _ = _; kernel_rfl)
noncomputable def YD.l0 {β : Type} (k : Nat) (aC : LD) (K : LC → Option β) (L0 : (Int × LC) → Option β) (v : Int × LC) : Option β :=
 match v with
 | (aD, aH) => bif (decide ((aD : Int) < (aC.length : Int))) then (atR aC aD [.n, .s, .n, .n, .n, .b, .l, .n, .s, .n, .l, .l, .n, .s, .n, .l, .l] fun x73 x76 x79 x82 x85 x88 x91 x94 x97 x100 x103 x106 x109 x112 x115 x118 x121 => (Yar.f k x73 x76 x79 x82 x85 x88 x91 x94 x97 x100 x103 x106 x109 x112 x115 x118 x121 (fun y122 y123 y124 y125 y126 y127 y128 y129 y130 y131 y132 y133 y134 y135 y136 y137 y138 => Zc (aH.length + ([[.d (.int .i64 y122), .d (.str y123), .d (.int .i64 y124), .d (.int .i64 y125), .d (.int .i64 y126), .d (.bool y127), .own y128, .d (.int .i64 y129), .d (.str y130), .d (.int .i64 y131), .own y132, .own y133, .d (.int .i64 y134), .d (.str y135), .d (.int .i64 y136), .own y137, .own y138]] : LC).length ≤ ZN) (L0 (IntKind.wrap .i64 (aD + 1), aH ++ ([[.d (.int .i64 y122), .d (.str y123), .d (.int .i64 y124), .d (.int .i64 y125), .d (.int .i64 y126), .d (.bool y127), .own y128, .d (.int .i64 y129), .d (.str y130), .d (.int .i64 y131), .own y132, .own y133, .d (.int .i64 y134), .d (.str y135), .d (.int .i64 y136), .own y137, .own y138]] : LC)))))) else (K aH)
noncomputable def YD.m {β : Type} (k : Nat) (a0 : LD) (K : LC → Option β) (F : (LD → (Int × LC) → Option β)) : Option β :=
 F a0 (0, ([] : LC))
noncomputable def YD.g {β : Type} (k : Nat) (a0 : LD) (K : LC → Option β) : Option β :=
 Zo (YD.l0 k a0 K) k (0, ([] : LC))
noncomputable def YD.t (k : Nat) (a0 : LD) : Option (LC) := YD.g k a0 (fun z0 => some z0)
noncomputable def YD.f {β : Type} (k : Nat) (a0 : LD) (K : LC → Option β) : Option β := bd1 (YD.t k a0) K
noncomputable def YD.e (k : Nat) : Zk := ent [.d .l] [1] [.o] [44] false (YD.t k)
noncomputable def YD.p (k : Nat) : Pro := ⟨Try.prog, [(68, Yar.e k)], Zn [(3, kp [0, 3, 4])] false [], k⟩
noncomputable def YD.d (k : Nat) (a0 : LD) : Ex → St → Option (LC) := (YD.p k).fin Try.f64 [.d (.sl a0)] [1] [.o]
noncomputable def YD.s0 (aC : LD) (v : Int × LC) : St :=
 match v with
 | (aD, aH) => ZX 21 [(0, .d false (.sl aC)), (3, .row 0), (4, .d true (.int .i64 aD))] [.row none true 44 aH]
noncomputable def YD.r0 (k : Nat) (a0 aC : LD) (n : Nat) (v : Int × LC) : Option (LC) := (YD.p k).lp (Zt Try.f64) 3 [1, 1, 0, 1, 0] (YD.d k a0) n (YD.s0 aC v)
theorem YD.l0_eq (k : Nat) (a0 aC : LD) : ∀ n v, YD.r0 k a0 aC n v = Zo (YD.l0 k aC (fun z0 => some z0)) n v :=
 Zm (YD.s0 aC) _ fun L0 v => by obtain ⟨aD, aH⟩ := v; kernel_rfl
theorem YD.ok (k : Nat) : Za Try.prog 64 (YD.e k) := Zh (YD.p k) mix tyok Try.func64 (Yar.ok k) (by kernel_rfl) (fun a0 => Eq.trans (b := YD.m k a0 (fun z0 => some z0) (fun aC => YD.r0 k a0 aC k)) (by kernel_rfl) (congrArg (YD.m k a0 (fun z0 => some z0)) (funext fun aC => funext fun v => YD.l0_eq k a0 aC k v) :))
noncomputable def Yaa.g {β : Type} (k : Nat) (aB : Int) (aA : LD) (K : Int → LC → Option β) : Option β :=
 YD.f k aA (fun y139 => K aB y139)
noncomputable def Yaa.t (k : Nat) (aB : Int) (aA : LD) : Option (Int × LC) := Yaa.g k aB aA (fun z0 z1 => some (z0, z1))
noncomputable def Yaa.f {β : Type} (k : Nat) (aB : Int) (aA : LD) (K : Int → LC → Option β) : Option β := bd2 (Yaa.t k aB aA) K
noncomputable def Yaa.e (k : Nat) : Zk := ent [.agg [.n, .l]] [2] [.n, .o] [46] false (Yaa.t k)
noncomputable def Yaa.p (k : Nat) : Pro := ⟨Try.prog, [(64, YD.e k)], Zn [] false [], k⟩
theorem Yaa.ok (k : Nat) : Za Try.prog 41 (Yaa.e k) := Zh (Yaa.p k) mix tyok Try.func41 (YD.ok k) (by kernel_rfl) (fun aB aA => by show _ = _; kernel_rfl)
noncomputable def YW.g {β : Type} (k : Nat) (a0 a1 a2 : Int) (K : Bool → Option β) : Option β :=
 bif (decide ((a0 : Int) ≥ a1)) then (K (decide ((a0 : Int) ≤ a2))) else (K false)
noncomputable def YW.t (k : Nat) (a0 a1 a2 : Int) : Option (Bool) := YW.g k a0 a1 a2 (fun z0 => some z0)
noncomputable def YW.f {β : Type} (k : Nat) (a0 a1 a2 : Int) (K : Bool → Option β) : Option β := bd1 (YW.t k a0 a1 a2) K
noncomputable def YW.e (k : Nat) : Zk := ent [.d .n, .d .n, .d .n] [1] [.b] [4] false (YW.t k)
noncomputable def YW.p (k : Nat) : Pro := ⟨Try.prog, [], Zn [] false [], k⟩
theorem YW.ok (k : Nat) : Za Try.prog 65 (YW.e k) := Zh (YW.p k) mix tyok Try.func65 trivial (by kernel_rfl) (fun a0 a1 a2 => by show _ = _; kernel_rfl)
noncomputable def Yn.l0 {β : Type} (k : Nat) (aC : BA) (K : Bool → Option β) (L0 : Int → Option β) (v : Int) : Option β :=
 match v with
 | aD => bif (decide ((aD : Int) < (aC.size : Int))) then (Za0 aC aD fun b9 => YW.f k (IntKind.wrap .i64 b9) 97 122 (fun y10 => bif (!y10) then (Za0 aC aD fun b11 => YW.f k (IntKind.wrap .i64 b11) 48 57 (fun y12 => bif (!y12) then (Za0 aC aD fun b13 => bif ((b13 : Int) != 45) then (K false) else (L0 (IntKind.wrap .i64 (aD + 1)))) else (L0 (IntKind.wrap .i64 (aD + 1))))) else (L0 (IntKind.wrap .i64 (aD + 1))))) else (YW.f k (aC.size : Int) 1 20 (fun y14 => bif y14 then (Za0 aC 0 fun b15 => bif ((b15 : Int) != 45) then (Za0 aC (IntKind.wrap .i64 ((aC.size : Int) - 1)) fun b16 => K ((b16 : Int) != 45)) else (K false)) else (K false)))
noncomputable def Yn.m {β : Type} (k : Nat) (a0 : BA) (K : Bool → Option β) (F : (BA → Int → Option β)) : Option β :=
 F a0 (0)
noncomputable def Yn.g {β : Type} (k : Nat) (a0 : BA) (K : Bool → Option β) : Option β :=
 Zo (Yn.l0 k a0 K) k (0)
noncomputable def Yn.t (k : Nat) (a0 : BA) : Option (Bool) := Yn.g k a0 (fun z0 => some z0)
noncomputable def Yn.f {β : Type} (k : Nat) (a0 : BA) (K : Bool → Option β) : Option β := bd1 (Yn.t k a0) K
noncomputable def Yn.e (k : Nat) : Zk := ent [.d .s] [1] [.b] [4] false (Yn.t k)
noncomputable def Yn.p (k : Nat) : Pro := ⟨Try.prog, [(65, YW.e k)], Zn [(2, kp [0, 3])] false [], k⟩
noncomputable def Yn.d (k : Nat) (a0 : BA) : Ex → St → Option (Bool) := (Yn.p k).fin Try.f102 [.d (.str a0)] [1] [.b]
noncomputable def Yn.s0 (aC : BA) (v : Int) : St :=
 match v with
 | aD => ZX 46 [(0, .d false (.str aC)), (3, .d true (.int .i64 aD))] []
noncomputable def Yn.r0 (k : Nat) (a0 aC : BA) (n : Nat) (v : Int) : Option (Bool) := (Yn.p k).lp (Zt Try.f102) 2 [1, 0, 1, 0] (Yn.d k a0) n (Yn.s0 aC v)
theorem Yn.l0_eq (k : Nat) (a0 aC : BA) : ∀ n v, Yn.r0 k a0 aC n v = Zo (Yn.l0 k aC (fun z0 => some z0)) n v :=
 Zm (Yn.s0 aC) _ fun L0 v => by kernel_rfl
theorem Yn.ok (k : Nat) : Za Try.prog 102 (Yn.e k) := Zh (Yn.p k) mix tyok Try.func102 (YW.ok k) (by kernel_rfl) (fun a0 => Eq.trans (b := Yn.m k a0 (fun z0 => some z0) (fun aC => Yn.r0 k a0 aC k)) (by kernel_rfl) (congrArg (Yn.m k a0 (fun z0 => some z0)) (funext fun aC => funext fun v => Yn.l0_eq k a0 aC k v) :))
noncomputable def Yw.l0 {β : Type} (k : Nat) (aC : LD) (K : Bool → Option β) (L0 : Int → Option β) (v : Int) : Option β :=
 match v with
 | aD => bif (decide ((aD : Int) < (aC.length : Int))) then (atR aC aD [.s] fun x17 => (Yn.f k x17 (fun y18 => bif (!y18) then (K false) else (bif (decide ((aD : Int) > 0)) then (atR aC (IntKind.wrap .i64 (aD - 1)) [.s] fun x22 => (atR aC aD [.s] fun x26 => (bif (!(ZbO x22 x26)) then (K false) else (L0 (IntKind.wrap .i64 (aD + 1)))))) else (L0 (IntKind.wrap .i64 (aD + 1))))))) else (K (decide (((aC.length : Int) : Int) ≤ 4)))
noncomputable def Yw.m {β : Type} (k : Nat) (a0 : LD) (K : Bool → Option β) (F : (LD → Int → Option β)) : Option β :=
 F a0 (0)
noncomputable def Yw.g {β : Type} (k : Nat) (a0 : LD) (K : Bool → Option β) : Option β :=
 Zo (Yw.l0 k a0 K) k (0)
noncomputable def Yw.t (k : Nat) (a0 : LD) : Option (Bool) := Yw.g k a0 (fun z0 => some z0)
noncomputable def Yw.f {β : Type} (k : Nat) (a0 : LD) (K : Bool → Option β) : Option β := bd1 (Yw.t k a0) K
noncomputable def Yw.e (k : Nat) : Zk := ent [.d .l] [1] [.b] [4] false (Yw.t k)
noncomputable def Yw.p (k : Nat) : Pro := ⟨Try.prog, [(102, Yn.e k)], Zn [(2, kp [0, 3])] false [], k⟩
noncomputable def Yw.d (k : Nat) (a0 : LD) : Ex → St → Option (Bool) := (Yw.p k).fin Try.f103 [.d (.sl a0)] [1] [.b]
noncomputable def Yw.s0 (aC : LD) (v : Int) : St :=
 match v with
 | aD => ZX 35 [(0, .d false (.sl aC)), (3, .d true (.int .i64 aD))] []
noncomputable def Yw.r0 (k : Nat) (a0 aC : LD) (n : Nat) (v : Int) : Option (Bool) := (Yw.p k).lp (Zt Try.f103) 2 [1, 0, 1, 0] (Yw.d k a0) n (Yw.s0 aC v)
theorem Yw.l0_eq (k : Nat) (a0 aC : LD) : ∀ n v, Yw.r0 k a0 aC n v = Zo (Yw.l0 k aC (fun z0 => some z0)) n v :=
 Zm (Yw.s0 aC) _ fun L0 v => by kernel_rfl
theorem Yw.ok (k : Nat) : Za Try.prog 103 (Yw.e k) := Zh (Yw.p k) mix tyok Try.func103 (Yn.ok k) (by kernel_rfl) (fun a0 => Eq.trans (b := Yw.m k a0 (fun z0 => some z0) (fun aC => Yw.r0 k a0 aC k)) (by kernel_rfl) (congrArg (Yw.m k a0 (fun z0 => some z0)) (funext fun aC => funext fun v => Yw.l0_eq k a0 aC k v) :))
noncomputable def Y3.l0 {β : Type} (k : Nat) (aC : BA) (K : Bool → Option β) (L0 : Int → Option β) (v : Int) : Option β :=
 match v with
 | aD => bif (decide ((aD : Int) < (aC.size : Int))) then (Za0 aC aD fun b3 => YW.f k (IntKind.wrap .i64 b3) 32 126 (fun y4 => bif (!y4) then (K false) else (L0 (IntKind.wrap .i64 (aD + 1))))) else (K (decide (((aC.size : Int) : Int) ≤ 100)))
noncomputable def Y3.m {β : Type} (k : Nat) (a0 : BA) (K : Bool → Option β) (F : (BA → Int → Option β)) : Option β :=
 F a0 (0)
noncomputable def Y3.g {β : Type} (k : Nat) (a0 : BA) (K : Bool → Option β) : Option β :=
 Zo (Y3.l0 k a0 K) k (0)
noncomputable def Y3.t (k : Nat) (a0 : BA) : Option (Bool) := Y3.g k a0 (fun z0 => some z0)
noncomputable def Y3.f {β : Type} (k : Nat) (a0 : BA) (K : Bool → Option β) : Option β := bd1 (Y3.t k a0) K
noncomputable def Y3.e (k : Nat) : Zk := ent [.d .s] [1] [.b] [4] false (Y3.t k)
noncomputable def Y3.p (k : Nat) : Pro := ⟨Try.prog, [(65, YW.e k)], Zn [(2, kp [0, 3])] false [], k⟩
noncomputable def Y3.d (k : Nat) (a0 : BA) : Ex → St → Option (Bool) := (Y3.p k).fin Try.f119 [.d (.str a0)] [1] [.b]
noncomputable def Y3.s0 (aC : BA) (v : Int) : St :=
 match v with
 | aD => ZX 19 [(0, .d false (.str aC)), (3, .d true (.int .i64 aD))] []
noncomputable def Y3.r0 (k : Nat) (a0 aC : BA) (n : Nat) (v : Int) : Option (Bool) := (Y3.p k).lp (Zt Try.f119) 2 [1, 0, 1, 0] (Y3.d k a0) n (Y3.s0 aC v)
theorem Y3.l0_eq (k : Nat) (a0 aC : BA) : ∀ n v, Y3.r0 k a0 aC n v = Zo (Y3.l0 k aC (fun z0 => some z0)) n v :=
 Zm (Y3.s0 aC) _ fun L0 v => by kernel_rfl
theorem Y3.ok (k : Nat) : Za Try.prog 119 (Y3.e k) := Zh (Y3.p k) mix tyok Try.func119 (YW.ok k) (by kernel_rfl) (fun a0 => Eq.trans (b := Y3.m k a0 (fun z0 => some z0) (fun aC => Y3.r0 k a0 aC k)) (by kernel_rfl) (congrArg (Y3.m k a0 (fun z0 => some z0)) (funext fun aC => funext fun v => Y3.l0_eq k a0 aC k v) :))
noncomputable def YY.l0 {β : Type} (k : Nat) (aD : Int) (aH : BA) (aI : Int) (aJ aW : LD) (K : Bool → Option β) (L0 : Int → Option β) (v : Int) : Option β :=
 match v with
 | aC => bif (decide ((aC : Int) < (aJ.length : Int))) then (atR aJ aC [.s] fun x17 => (Yn.f k x17 (fun y18 => bif (!y18) then (K false) else (bif (decide ((aC : Int) > 0)) then (atR aJ (IntKind.wrap .i64 (aC - 1)) [.s] fun x22 => (atR aJ aC [.s] fun x26 => (bif (!(ZbO x22 x26)) then (K false) else (L0 (IntKind.wrap .i64 (aC + 1)))))) else (L0 (IntKind.wrap .i64 (aC + 1))))))) else (K (((aJ.length : Int) : Int) == (aW.length : Int)))
noncomputable def YY.m {β : Type} (k : Nat) (aB : Int) (aA : BA) (aG : Int) (aE aF : LD) (K : Bool → Option β) (F : (Int → BA → Int → LD → LD → Int → Option β)) : Option β :=
 F aB aA aG aE aF (0)
noncomputable def YY.g {β : Type} (k : Nat) (aB : Int) (aA : BA) (aG : Int) (aE aF : LD) (K : Bool → Option β) : Option β :=
 Zo (YY.l0 k aB aA aG aE aF K) k (0)
noncomputable def YY.t (k : Nat) (aB : Int) (aA : BA) (aG : Int) (aE aF : LD) : Option (Bool) := YY.g k aB aA aG aE aF (fun z0 => some z0)
noncomputable def YY.f {β : Type} (k : Nat) (aB : Int) (aA : BA) (aG : Int) (aE aF : LD) (K : Bool → Option β) : Option β := bd1 (YY.t k aB aA aG aE aF) K
noncomputable def YY.e (k : Nat) : Zk := ent [.agg [.n, .s, .n, .l, .l]] [1] [.b] [4] false (YY.t k)
noncomputable def YY.p (k : Nat) : Pro := ⟨Try.prog, [(102, Yn.e k)], Zn [(2, kp [1, 3])] false [], k⟩
noncomputable def YY.d (k : Nat) (aB : Int) (aA : BA) (aG : Int) (aE aF : LD) : Ex → St → Option (Bool) := (YY.p k).fin Try.f120 [.agg [.int .i64 aB, .str aA, .int .i64 aG, .sl aE, .sl aF]] [1] [.b]
noncomputable def YY.s0 (aD : Int) (aH : BA) (aI : Int) (aJ aW : LD) (v : Int) : St :=
 match v with
 | aC => ZX 43 [(1, .bp 0 0), (3, .d true (.int .i64 aC))] [.box none 62 [.d false (.int .i64 aD), .d false (.str aH), .d false (.int .i64 aI), .d false (.sl aJ), .d false (.sl aW)]]
noncomputable def YY.r0 (k : Nat) (aB : Int) (aA : BA) (aG : Int) (aE aF : LD) (aD : Int) (aH : BA) (aI : Int) (aJ aW : LD) (n : Nat) (v : Int) : Option (Bool) := (YY.p k).lp (Zt Try.f120) 2 [1, 0, 1, 0] (YY.d k aB aA aG aE aF) n (YY.s0 aD aH aI aJ aW v)
theorem YY.l0_eq (k : Nat) (aB : Int) (aA : BA) (aG : Int) (aE aF : LD) (aD : Int) (aH : BA) (aI : Int) (aJ aW : LD) : ∀ n v, YY.r0 k aB aA aG aE aF aD aH aI aJ aW n v = Zo (YY.l0 k aD aH aI aJ aW (fun z0 => some z0)) n v :=
 Zm (YY.s0 aD aH aI aJ aW) _ fun L0 v => by kernel_rfl
theorem YY.ok (k : Nat) : Za Try.prog 120 (YY.e k) := Zh (YY.p k) mix tyok Try.func120 (Yn.ok k) (by kernel_rfl) (fun aB aA aG aE aF => Eq.trans (b := YY.m k aB aA aG aE aF (fun z0 => some z0) (fun aD aH aI aJ aW => YY.r0 k aB aA aG aE aF aD aH aI aJ aW k)) (by kernel_rfl) (congrArg (YY.m k aB aA aG aE aF (fun z0 => some z0)) (funext fun aD => funext fun aH => funext fun aI => funext fun aJ => funext fun aW => funext fun v => YY.l0_eq k aB aA aG aE aF aD aH aI aJ aW k v) :))
noncomputable def Yt.l0 {β : Type} (k : Nat) (r_spec_l4Look : Int → BA → Int → LD → LD → Int → (Int → Option β) → Option β) (aC aI : Int) (aJ : BA) (aW : Int) (aZ bD : LD) (K : Int → Option β) (L0 : (Int × Int) → Option β) (v : Int × Int) : Option β :=
 match v with
 | (aD, aH) => bif (decide ((aH : Int) < (bD.length : Int))) then (atR bD aH [.n, .s, .n, .l, .l] fun x32 x35 x38 x41 x44 => (r_spec_l4Look x32 x35 x38 x41 x44 (IntKind.wrap .i64 (aC - 1)) (fun y45 => bif ((y45 : Int) == 0) then (K 0) else (bif (decide (((IntKind.wrap .i64 (aD + y45)) : Int) > 300)) then (K 0) else (L0 (IntKind.wrap .i64 (aD + y45), IntKind.wrap .i64 (aH + 1))))))) else (let J1 := (bif (Zae aJ (⟨#[]⟩ : BA)) then (bif (!((aW : Int) == 0)) then (K 0) else (K aD)) else (K 0)); let J0 := (bif (((aZ.length : Int) : Int) == 0) then J1 else (K 0)); bif (((aZ.length : Int) : Int) == 0) then (bif ((aI : Int) == 1) then (bif (((bD.length : Int) : Int) == 0) then (bif ((aW : Int) == 0) then (Y3.f k aJ (fun y46 => bif (!y46) then (K 0) else (K aD))) else (K 0)) else (K 0)) else (bif ((aI : Int) == 2) then (bif (((bD.length : Int) : Int) == 0) then (bif (!(Zae aJ (⟨#[]⟩ : BA))) then (K 0) else (K aD)) else (K 0)) else (bif ((aI : Int) == 3) then (bif (((bD.length : Int) : Int) == 0) then (bif (Zae aJ (⟨#[]⟩ : BA)) then (YW.f k aW 0 1 (fun y47 => bif (!y47) then (K 0) else (K aD))) else (K 0)) else (K 0)) else (bif ((aI : Int) == 4) then J0 else (bif ((aI : Int) == 5) then (YY.f k aI aJ aW aZ bD (fun y48 => bif y48 then J1 else (K 0))) else (K 0)))))) else (bif ((aI : Int) == 1) then (K 0) else (bif ((aI : Int) == 2) then (K 0) else (bif ((aI : Int) == 3) then (K 0) else (bif ((aI : Int) == 4) then J0 else (bif ((aI : Int) == 5) then (YY.f k aI aJ aW aZ bD (fun y49 => bif y49 then J1 else (K 0))) else (K 0)))))))
noncomputable def Yt.m {β : Type} (k : Nat) (r_spec_l4Look : Int → BA → Int → LD → LD → Int → (Int → Option β) → Option β) (aB : Int) (aA : BA) (aG : Int) (aE aF : LD) (a1 : Int) (K : Int → Option β) (F : (Int → Int → BA → Int → LD → LD → (Int × Int) → Option β)) : Option β :=
 bif ((a1 : Int) == 0) then (K 0) else (F a1 aB aA aG aE aF (1, 0))
noncomputable def Yt.body {β : Type} (k : Nat) (r_spec_l4Look : Int → BA → Int → LD → LD → Int → (Int → Option β) → Option β) (aB : Int) (aA : BA) (aG : Int) (aE aF : LD) (a1 : Int) (K : Int → Option β) : Option β :=
 bif ((a1 : Int) == 0) then (K 0) else (Zo (Yt.l0 k r_spec_l4Look a1 aB aA aG aE aF K) k (1, 0))
noncomputable def Yt.w {β : Type} (r : Int → BA → Int → LD → LD → Int → Option (Int)) (aB : Int) (aA : BA) (aG : Int) (aE aF : LD) (a1 : Int) (K : Int → Option β) : Option β := bd1 (r aB aA aG aE aF a1) K
noncomputable def Yt.all : Nat → (Int → BA → Int → LD → LD → Int → Option (Int))
 | 0 => (fun _ _ _ _ _ _ => none)
 | k + 1 => (fun r => (fun aB aA aG aE aF a1 => Yt.body k (Yt.w r) aB aA aG aE aF a1 (fun z0 => some z0))) (Yt.all k)
noncomputable def Yt.t (k : Nat) (aB : Int) (aA : BA) (aG : Int) (aE aF : LD) (a1 : Int) : Option (Int) := (Yt.all k) aB aA aG aE aF a1
noncomputable def Yt.f {β : Type} (k : Nat) (aB : Int) (aA : BA) (aG : Int) (aE aF : LD) (a1 : Int) (K : Int → Option β) : Option β := Yt.w (Yt.t k) aB aA aG aE aF a1 K
noncomputable def Yt.g {β : Type} (k : Nat) (aB : Int) (aA : BA) (aG : Int) (aE aF : LD) (a1 : Int) (K : Int → Option β) : Option β := Yt.body k (Yt.f k) aB aA aG aE aF a1 K
theorem Yt.t_succ (k : Nat) (aB : Int) (aA : BA) (aG : Int) (aE aF : LD) (a1 : Int) : Yt.t (k + 1) aB aA aG aE aF a1 = Yt.g k aB aA aG aE aF a1 (fun z0 => some z0) := rfl
noncomputable def Yt.e (k : Nat) : Zk := ent [.agg [.n, .s, .n, .l, .l], .d .n] [1] [.n] [3] false (Yt.t k)
noncomputable def Yt.p (k : Nat) : Pro := ⟨Try.prog, [(115, Yt.e k), (119, Y3.e k), (65, YW.e k), (120, YY.e k)], Zn [(5, kp [1, 2, 5, 6])] false [], k⟩
noncomputable def Yt.d (k : Nat) (aB : Int) (aA : BA) (aG : Int) (aE aF : LD) (a1 : Int) : Ex → St → Option (Int) := (Yt.p k).fin Try.f115 [.agg [.int .i64 aB, .str aA, .int .i64 aG, .sl aE, .sl aF], .d (.int .i64 a1)] [1] [.n]
noncomputable def Yt.s0 (aC aI : Int) (aJ : BA) (aW : Int) (aZ bD : LD) (v : Int × Int) : St :=
 match v with
 | (aD, aH) => ZX 117 [(1, .d false (.int .i64 aC)), (2, .bp 0 0), (5, .d true (.int .i64 aD)), (6, .d true (.int .i64 aH))] [.box none 62 [.d false (.int .i64 aI), .d false (.str aJ), .d false (.int .i64 aW), .d false (.sl aZ), .d false (.sl bD)]]
noncomputable def Yt.r0 (k : Nat) (aB : Int) (aA : BA) (aG : Int) (aE aF : LD) (a1 aC aI : Int) (aJ : BA) (aW : Int) (aZ bD : LD) (n : Nat) (v : Int × Int) : Option (Int) := (Yt.p k).lp (Zt Try.f115) 5 [1, 1, 1, 0, 1, 0] (Yt.d k aB aA aG aE aF a1) n (Yt.s0 aC aI aJ aW aZ bD v)
theorem Yt.l0_eq (k : Nat) (aB : Int) (aA : BA) (aG : Int) (aE aF : LD) (a1 aC aI : Int) (aJ : BA) (aW : Int) (aZ bD : LD) : ∀ n v, Yt.r0 k aB aA aG aE aF a1 aC aI aJ aW aZ bD n v = Zo (Yt.l0 k (Yt.f k) aC aI aJ aW aZ bD (fun z0 => some z0)) n v :=
 Zm (Yt.s0 aC aI aJ aW aZ bD) _ fun L0 v => by obtain ⟨aD, aH⟩ := v; kernel_rfl
theorem Yt.oks (k : Nat) : Za Try.prog 115 (Yt.e k) := by
 induction k with
 | zero => exact Z7 Try.func115 (by kernel_rfl) (fun _ _ _ _ _ _ => rfl)
 | succ k ih => exact Zh (Yt.p k) mix tyok Try.func115 ⟨ih, Y3.ok k, YW.ok k, YY.ok k⟩ (by kernel_rfl) (fun aB aA aG aE aF a1 => Eq.trans (b := Yt.m k (Yt.f k) aB aA aG aE aF a1 (fun z0 => some z0) (fun aC aI aJ aW aZ bD => Yt.r0 k aB aA aG aE aF a1 aC aI aJ aW aZ bD k)) (by kernel_rfl) ((congrArg (Yt.m k (Yt.f k) aB aA aG aE aF a1 (fun z0 => some z0)) (funext fun aC => funext fun aI => funext fun aJ => funext fun aW => funext fun aZ => funext fun bD => funext fun v => Yt.l0_eq k aB aA aG aE aF a1 aC aI aJ aW aZ bD k v)).trans (Yt.t_succ k aB aA aG aE aF a1).symm))
theorem Yt.ok (k : Nat) : Za Try.prog 115 (Yt.e k) := (Yt.oks k)
noncomputable def YI.g {β : Type} (k : Nat) (aB : Int) (aA : BA) (aG : Int) (aE aF : LD) (K : Bool → Option β) : Option β :=
 Yt.f k aB aA aG aE aF 6 (fun y50 => K (decide ((y50 : Int) > 0)))
noncomputable def YI.t (k : Nat) (aB : Int) (aA : BA) (aG : Int) (aE aF : LD) : Option (Bool) := YI.g k aB aA aG aE aF (fun z0 => some z0)
noncomputable def YI.f {β : Type} (k : Nat) (aB : Int) (aA : BA) (aG : Int) (aE aF : LD) (K : Bool → Option β) : Option β := bd1 (YI.t k aB aA aG aE aF) K
noncomputable def YI.e (k : Nat) : Zk := ent [.agg [.n, .s, .n, .l, .l]] [1] [.b] [4] false (YI.t k)
noncomputable def YI.p (k : Nat) : Pro := ⟨Try.prog, [(115, Yt.e k)], Zn [] false [], k⟩
theorem YI.ok (k : Nat) : Za Try.prog 104 (YI.e k) := Zh (YI.p k) mix tyok Try.func104 (Yt.ok k) (by kernel_rfl) (fun aB aA aG aE aF => by show _ = _; kernel_rfl)
noncomputable def Yaz.g {β : Type} (k : Nat) (aB : Int) (aA : BA) (aG aE aF : Int) (aV : Bool) (aO : LD) (aS : Int) (aK : BA) (aT : Int) (aL aP : LD) (aQ : Int) (aM : BA) (aU : Int) (aN aR : LD) (a1 a2 : Int) (a3 : Bool) (K : Bool → Option β) : Option β :=
 YW.f k aB 1 3 (fun y1 => bif y1 then (Yn.f k aA (fun y17 => bif y17 then (YW.f k aG 1 (IntKind.wrap .i64 (a2 - 1)) (fun y18 => bif y18 then (YW.f k aE 1 a1 (fun y19 => bif y19 then (YW.f k aF 1 aE (fun y20 => bif y20 then (Yw.f k aO (fun y27 => bif y27 then (YI.f k aS aK aT aL aP (fun y51 => bif y51 then (YI.f k aQ aM aU aN aR (fun y52 => bif y52 then (bif a3 then (K true) else (bif (!aV) then (K true) else (K (decide (((aO.length : Int) : Int) > 0))))) else (K false))) else (K false))) else (K false))) else (K false))) else (K false))) else (K false))) else (K false))) else (K false))
noncomputable def Yaz.t (k : Nat) (aB : Int) (aA : BA) (aG aE aF : Int) (aV : Bool) (aO : LD) (aS : Int) (aK : BA) (aT : Int) (aL aP : LD) (aQ : Int) (aM : BA) (aU : Int) (aN aR : LD) (a1 a2 : Int) (a3 : Bool) : Option (Bool) := Yaz.g k aB aA aG aE aF aV aO aS aK aT aL aP aQ aM aU aN aR a1 a2 a3 (fun z0 => some z0)
noncomputable def Yaz.f {β : Type} (k : Nat) (aB : Int) (aA : BA) (aG aE aF : Int) (aV : Bool) (aO : LD) (aS : Int) (aK : BA) (aT : Int) (aL aP : LD) (aQ : Int) (aM : BA) (aU : Int) (aN aR : LD) (a1 a2 : Int) (a3 : Bool) (K : Bool → Option β) : Option β := bd1 (Yaz.t k aB aA aG aE aF aV aO aS aK aT aL aP aQ aM aU aN aR a1 a2 a3) K
noncomputable def Yaz.e (k : Nat) : Zk := ent [.agg [.n, .s, .n, .n, .n, .b, .l, .n, .s, .n, .l, .l, .n, .s, .n, .l, .l], .d .n, .d .n, .d .b] [1] [.b] [4] false (Yaz.t k)
noncomputable def Yaz.p (k : Nat) : Pro := ⟨Try.prog, [(65, YW.e k), (102, Yn.e k), (103, Yw.e k), (104, YI.e k)], Zn [] false [], k⟩
theorem Yaz.ok (k : Nat) : Za Try.prog 85 (Yaz.e k) := Zh (Yaz.p k) mix tyok Try.func85 ⟨YW.ok k, Yn.ok k, Yw.ok k, YI.ok k⟩ (by kernel_rfl) (fun aB aA aG aE aF aV aO aS aK aT aL aP aQ aM aU aN aR a1 a2 a3 => by show _ = _; kernel_rfl)
noncomputable def Yau.g {β : Type} (k : Nat) (aB : Int) (aA : BA) (aG aE aF : Int) (aV : Bool) (aO : LD) (aS : Int) (aK : BA) (aT : Int) (aL aP : LD) (aQ : Int) (aM : BA) (aU : Int) (aN aR : LD) (aX : Int) (aY : BA) (bA bB bC : Int) (bE : Bool) (bF : LD) (bG : Int) (bH : BA) (bI : Int) (bJ bK : LD) (bL : Int) (bM : BA) (bN : Int) (bO bP : LD) (K : Bool → Option β) : Option β :=
 bif (decide ((aB : Int) < aX)) then (K true) else (bif ((aB : Int) == aX) then (K (ZbO aA aY)) else (K false))
noncomputable def Yau.t (k : Nat) (aB : Int) (aA : BA) (aG aE aF : Int) (aV : Bool) (aO : LD) (aS : Int) (aK : BA) (aT : Int) (aL aP : LD) (aQ : Int) (aM : BA) (aU : Int) (aN aR : LD) (aX : Int) (aY : BA) (bA bB bC : Int) (bE : Bool) (bF : LD) (bG : Int) (bH : BA) (bI : Int) (bJ bK : LD) (bL : Int) (bM : BA) (bN : Int) (bO bP : LD) : Option (Bool) := Yau.g k aB aA aG aE aF aV aO aS aK aT aL aP aQ aM aU aN aR aX aY bA bB bC bE bF bG bH bI bJ bK bL bM bN bO bP (fun z0 => some z0)
noncomputable def Yau.f {β : Type} (k : Nat) (aB : Int) (aA : BA) (aG aE aF : Int) (aV : Bool) (aO : LD) (aS : Int) (aK : BA) (aT : Int) (aL aP : LD) (aQ : Int) (aM : BA) (aU : Int) (aN aR : LD) (aX : Int) (aY : BA) (bA bB bC : Int) (bE : Bool) (bF : LD) (bG : Int) (bH : BA) (bI : Int) (bJ bK : LD) (bL : Int) (bM : BA) (bN : Int) (bO bP : LD) (K : Bool → Option β) : Option β := bd1 (Yau.t k aB aA aG aE aF aV aO aS aK aT aL aP aQ aM aU aN aR aX aY bA bB bC bE bF bG bH bI bJ bK bL bM bN bO bP) K
noncomputable def Yau.e (k : Nat) : Zk := ent [.agg [.n, .s, .n, .n, .n, .b, .l, .n, .s, .n, .l, .l, .n, .s, .n, .l, .l], .agg [.n, .s, .n, .n, .n, .b, .l, .n, .s, .n, .l, .l, .n, .s, .n, .l, .l]] [1] [.b] [4] false (Yau.t k)
noncomputable def Yau.p (k : Nat) : Pro := ⟨Try.prog, [], Zn [] false [], k⟩
theorem Yau.ok (k : Nat) : Za Try.prog 67 (Yau.e k) := Zh (Yau.p k) mix tyok Try.func67 trivial (by kernel_rfl) (fun aB aA aG aE aF aV aO aS aK aT aL aP aQ aM aU aN aR aX aY bA bB bC bE bF bG bH bI bJ bK bL bM bN bO bP => by show _ = _; kernel_rfl)
noncomputable def Yk.l2 {β : Type} (k : Nat) (v2_0 : LD) (v2_1 v2_2 v2_3 : Int) (L0 : (LD × Int × Int × Int) → Option β) (K : Bool → Option β) (L2 : Int → Option β) (v : Int) : Option β :=
 match v with
 | v2_4 => bif (decide ((v2_4 : Int) < v2_3)) then (atR v2_0 v2_4 [.n, .s, .n, .n, .n, .b, .l, .n, .s, .n, .l, .l, .n, .s, .n, .l, .l] fun x1048 x1051 x1054 x1057 x1060 x1063 x1066 x1069 x1072 x1075 x1078 x1081 x1084 x1087 x1090 x1093 x1096 => (atR v2_0 v2_3 [.n, .s, .n, .n, .n, .b, .l, .n, .s, .n, .l, .l, .n, .s, .n, .l, .l] fun x1100 x1103 x1106 x1109 x1112 x1115 x1118 x1121 x1124 x1127 x1130 x1133 x1136 x1139 x1142 x1145 x1148 => (bif ((x1054 : Int) == x1106) then (K false) else (L2 (IntKind.wrap .i64 (v2_4 + 1)))))) else (L0 (v2_0, v2_1, v2_2, IntKind.wrap .i64 (v2_3 + 1)))
noncomputable def Yk.l1 {β : Type} (k : Nat) (v1_0 : LD) (v1_1 v1_2 v1_3 : Int) (L0 : (LD × Int × Int × Int) → Option β) (K : Bool → Option β) (L1 : Int → Option β) (v : Int) : Option β :=
 match v with
 | v1_4 => bif (decide ((v1_4 : Int) < v1_3)) then (atR v1_0 v1_4 [.n, .s, .n, .n, .n, .b, .l, .n, .s, .n, .l, .l, .n, .s, .n, .l, .l] fun x840 x843 x846 x849 x852 x855 x858 x861 x864 x867 x870 x873 x876 x879 x882 x885 x888 => (atR v1_0 v1_3 [.n, .s, .n, .n, .n, .b, .l, .n, .s, .n, .l, .l, .n, .s, .n, .l, .l] fun x892 x895 x898 x901 x904 x907 x910 x913 x916 x919 x922 x925 x928 x931 x934 x937 x940 => (bif ((x846 : Int) == x898) then (K false) else (L1 (IntKind.wrap .i64 (v1_4 + 1)))))) else (L0 (v1_0, v1_1, v1_2, IntKind.wrap .i64 (v1_3 + 1)))
noncomputable def Yk.m0 {β : Type} (k : Nat) (K : Bool → Option β) (L0 : (LD × Int × Int × Int) → Option β) (v : LD × Int × Int × Int) (F : (LD → Int → Int → Int → Int → Option β) × (LD → Int → Int → Int → Int → Option β)) : Option β :=
 match v with
 | (aC, aD, aH, aI) => bif (decide ((aI : Int) < (aC.length : Int))) then (atR aC aI [.n, .s, .n, .n, .n, .b, .l, .n, .s, .n, .l, .l, .n, .s, .n, .l, .l] fun x578 x581 x584 x587 x590 x593 x596 x599 x602 x605 x608 x611 x614 x617 x620 x623 x626 => (Yaz.f k x578 x581 x584 x587 x590 x593 x596 x599 x602 x605 x608 x611 x614 x617 x620 x623 x626 aD aH false (fun y627 => bif (!y627) then (K false) else (bif (decide ((aI : Int) > 0)) then (atR aC (IntKind.wrap .i64 (aI - 1)) [.n, .s, .n, .n, .n, .b, .l, .n, .s, .n, .l, .l, .n, .s, .n, .l, .l] fun x631 x634 x637 x640 x643 x646 x649 x652 x655 x658 x661 x664 x667 x670 x673 x676 x679 => (atR aC aI [.n, .s, .n, .n, .n, .b, .l, .n, .s, .n, .l, .l, .n, .s, .n, .l, .l] fun x683 x686 x689 x692 x695 x698 x701 x704 x707 x710 x713 x716 x719 x722 x725 x728 x731 => (Yau.f k x631 x634 x637 x640 x643 x646 x649 x652 x655 x658 x661 x664 x667 x670 x673 x676 x679 x683 x686 x689 x692 x695 x698 x701 x704 x707 x710 x713 x716 x719 x722 x725 x728 x731 (fun y732 => bif (!y732) then (K false) else (F.1 aC aD aH aI (0)))))) else (F.2 aC aD aH aI (0)))))) else (K (decide (((aC.length : Int) : Int) ≤ 60)))
noncomputable def Yk.l0 {β : Type} (k : Nat) (K : Bool → Option β) (L0 : (LD × Int × Int × Int) → Option β) (v : LD × Int × Int × Int) : Option β := Yk.m0 k K L0 v ((fun v1_0 v1_1 v1_2 v1_3 => Zo (Yk.l1 k v1_0 v1_1 v1_2 v1_3 L0 K) k), (fun v2_0 v2_1 v2_2 v2_3 => Zo (Yk.l2 k v2_0 v2_1 v2_2 v2_3 L0 K) k))
noncomputable def Yk.m {β : Type} (k : Nat) (a0 : LD) (a1 a2 : Int) (K : Bool → Option β) (F : ((LD × Int × Int × Int) → Option β)) : Option β :=
 F (a0, a1, a2, 0)
noncomputable def Yk.g {β : Type} (k : Nat) (a0 : LD) (a1 a2 : Int) (K : Bool → Option β) : Option β :=
 Zo (Yk.l0 k K) k (a0, a1, a2, 0)
noncomputable def Yk.t (k : Nat) (a0 : LD) (a1 a2 : Int) : Option (Bool) := Yk.g k a0 a1 a2 (fun z0 => some z0)
noncomputable def Yk.f {β : Type} (k : Nat) (a0 : LD) (a1 a2 : Int) (K : Bool → Option β) : Option β := bd1 (Yk.t k a0 a1 a2) K
noncomputable def Yk.e (k : Nat) : Zk := ent [.d .l, .d .n, .d .n] [1] [.b] [4] false (Yk.t k)
noncomputable def Yk.p (k : Nat) : Pro := ⟨Try.prog, [(85, Yaz.e k), (67, Yau.e k)], Zn [(2, kp [0, 1, 2, 7]), (7, kp [0, 1, 2, 7, 8])] false [], k⟩
noncomputable def Yk.d (k : Nat) (a0 : LD) (a1 a2 : Int) : Ex → St → Option (Bool) := (Yk.p k).fin Try.f66 [.d (.sl a0), .d (.int .i64 a1), .d (.int .i64 a2)] [1] [.b]
noncomputable def Yk.s0 (v : LD × Int × Int × Int) : St :=
 match v with
 | (aC, aD, aH, aI) => ZX 59 [(0, .d false (.sl aC)), (1, .d false (.int .i64 aD)), (2, .d false (.int .i64 aH)), (7, .d true (.int .i64 aI))] []
noncomputable def Yk.c0 (k : Nat) (a0 : LD) (a1 a2 : Int) : Ex → St → Option (Bool) := (Yk.p k).ct (Zt Try.f66) [1, 0, 1, 0] (Yk.d k a0 a1 a2)
noncomputable def Yk.r0 (k : Nat) (a0 : LD) (a1 a2 : Int) (n : Nat) (v : LD × Int × Int × Int) : Option (Bool) := (Yk.p k).lp (Zt Try.f66) 2 [1, 0, 1, 0] (Yk.d k a0 a1 a2) n (Yk.s0 v)
noncomputable def Yk.s1 (v1_0 : LD) (v1_1 v1_2 v1_3 v : Int) : St :=
 match v with
 | v1_4 => ZX 59 [(0, .d false (.sl v1_0)), (1, .d false (.int .i64 v1_1)), (2, .d false (.int .i64 v1_2)), (7, .d true (.int .i64 v1_3)), (8, .d true (.int .i64 v1_4))] []
noncomputable def Yk.r1 (k : Nat) (a0 : LD) (a1 a2 : Int) (v1_0 : LD) (v1_1 v1_2 v1_3 : Int) (L0 : St → Option (Bool)) (n : Nat) (v : Int) : Option (Bool) := (Yk.p k).lp (codeAt [1, 0, 1, 0, 0] (Zt Try.f66)) 7 [1, 0, 0, 1, 1, 0] (backK ((Yk.p k).h.H 2) L0 (Yk.c0 k a0 a1 a2)) n (Yk.s1 v1_0 v1_1 v1_2 v1_3 v)
noncomputable def Yk.s2 (v2_0 : LD) (v2_1 v2_2 v2_3 v : Int) : St :=
 match v with
 | v2_4 => ZX 59 [(0, .d false (.sl v2_0)), (1, .d false (.int .i64 v2_1)), (2, .d false (.int .i64 v2_2)), (7, .d true (.int .i64 v2_3)), (8, .d true (.int .i64 v2_4))] []
noncomputable def Yk.r2 (k : Nat) (a0 : LD) (a1 a2 : Int) (v2_0 : LD) (v2_1 v2_2 v2_3 : Int) (L0 : St → Option (Bool)) (n : Nat) (v : Int) : Option (Bool) := (Yk.p k).lp (codeAt [1, 0, 1, 0, 0] (Zt Try.f66)) 7 [1, 0, 0, 1, 1, 0] (backK ((Yk.p k).h.H 2) L0 (Yk.c0 k a0 a1 a2)) n (Yk.s2 v2_0 v2_1 v2_2 v2_3 v)
theorem Yk.l2_eq (k : Nat) (a0 : LD) (a1 a2 : Int) (v2_0 : LD) (v2_1 v2_2 v2_3 : Int) (L0 : St → Option (Bool)) : ∀ n v, Yk.r2 k a0 a1 a2 v2_0 v2_1 v2_2 v2_3 L0 n v = Zo (Yk.l2 k v2_0 v2_1 v2_2 v2_3 (fun v => L0 (Yk.s0 v)) (fun z0 => some z0)) n v :=
 Zm (Yk.s2 v2_0 v2_1 v2_2 v2_3) _ fun L2 v => by kernel_rfl
theorem Yk.l1_eq (k : Nat) (a0 : LD) (a1 a2 : Int) (v1_0 : LD) (v1_1 v1_2 v1_3 : Int) (L0 : St → Option (Bool)) : ∀ n v, Yk.r1 k a0 a1 a2 v1_0 v1_1 v1_2 v1_3 L0 n v = Zo (Yk.l1 k v1_0 v1_1 v1_2 v1_3 (fun v => L0 (Yk.s0 v)) (fun z0 => some z0)) n v :=
 Zm (Yk.s1 v1_0 v1_1 v1_2 v1_3) _ fun L1 v => by kernel_rfl
theorem Yk.l0_eq (k : Nat) (a0 : LD) (a1 a2 : Int) : ∀ n v, Yk.r0 k a0 a1 a2 n v = Zo (Yk.l0 k (fun z0 => some z0)) n v :=
 Zm (Yk.s0) _ fun L0 v => by obtain ⟨aC, aD, aH, aI⟩ := v; exact Eq.trans (b := Yk.m0 k (fun z0 => some z0) (fun v => L0 (Yk.s0 v)) (aC, aD, aH, aI) ((fun v1_0 v1_1 v1_2 v1_3 => Yk.r1 k a0 a1 a2 v1_0 v1_1 v1_2 v1_3 L0 k), (fun v2_0 v2_1 v2_2 v2_3 => Yk.r2 k a0 a1 a2 v2_0 v2_1 v2_2 v2_3 L0 k))) (by kernel_rfl) (congrArg (Yk.m0 k (fun z0 => some z0) (fun v => L0 (Yk.s0 v)) (aC, aD, aH, aI)) (pair_eq (funext fun v1_0 => funext fun v1_1 => funext fun v1_2 => funext fun v1_3 => funext fun v => Yk.l1_eq k a0 a1 a2 v1_0 v1_1 v1_2 v1_3 L0 k v) (funext fun v2_0 => funext fun v2_1 => funext fun v2_2 => funext fun v2_3 => funext fun v => Yk.l2_eq k a0 a1 a2 v2_0 v2_1 v2_2 v2_3 L0 k v)))
theorem Yk.ok (k : Nat) : Za Try.prog 66 (Yk.e k) := Zh (Yk.p k) mix tyok Try.func66 ⟨Yaz.ok k, Yau.ok k⟩ (by kernel_rfl) (fun a0 a1 a2 => Eq.trans (b := Yk.m k a0 a1 a2 (fun z0 => some z0) (Yk.r0 k a0 a1 a2 k)) (by kernel_rfl) (congrArg (Yk.m k a0 a1 a2 (fun z0 => some z0)) (funext fun v => Yk.l0_eq k a0 a1 a2 k v) :))
noncomputable def Yu.g {β : Type} (k : Nat) (aB : Int) (aA : LD) (K : Bool → Option β) : Option β :=
 YW.f k aB 0 1000000 (fun y1 => bif y1 then (Yk.f k aA aB 1000001 (fun y1149 => K y1149)) else (K false))
noncomputable def Yu.t (k : Nat) (aB : Int) (aA : LD) : Option (Bool) := Yu.g k aB aA (fun z0 => some z0)
noncomputable def Yu.f {β : Type} (k : Nat) (aB : Int) (aA : LD) (K : Bool → Option β) : Option β := bd1 (Yu.t k aB aA) K
noncomputable def Yu.e (k : Nat) : Zk := ent [.agg [.n, .l]] [1] [.b] [4] false (Yu.t k)
noncomputable def Yu.p (k : Nat) : Pro := ⟨Try.prog, [(65, YW.e k), (66, Yk.e k)], Zn [] false [], k⟩
theorem Yu.ok (k : Nat) : Za Try.prog 42 (Yu.e k) := Zh (Yu.p k) mix tyok Try.func42 ⟨YW.ok k, Yk.ok k⟩ (by kernel_rfl) (fun aB aA => by show _ = _; kernel_rfl)
noncomputable def Y2.l0 {β : Type} (k : Nat) (aC : LD) (aD : Int) (aH : BA) (K L0 : Int → Option β) (v : Int) : Option β :=
 match v with
 | aI => bif (decide ((aI : Int) < (aC.length : Int))) then (atR aC aI [.n, .s, .n, .n, .n, .b, .l, .n, .s, .n, .l, .l, .n, .s, .n, .l, .l] fun x108 x111 x114 x117 x120 x123 x126 x129 x132 x135 x138 x141 x144 x147 x150 x153 x156 => (bif ((x108 : Int) == aD) then (atR aC aI [.n, .s, .n, .n, .n, .b, .l, .n, .s, .n, .l, .l, .n, .s, .n, .l, .l] fun x160 x163 x166 x169 x172 x175 x178 x181 x184 x187 x190 x193 x196 x199 x202 x205 x208 => (bif (Zae x163 aH) then (K aI) else (L0 (IntKind.wrap .i64 (aI + 1))))) else (L0 (IntKind.wrap .i64 (aI + 1))))) else (K (-1))
noncomputable def Y2.m {β : Type} (k : Nat) (a0 : LD) (a1 : Int) (a2 : BA) (K : Int → Option β) (F : (LD → Int → BA → Int → Option β)) : Option β :=
 F a0 a1 a2 (0)
noncomputable def Y2.g {β : Type} (k : Nat) (a0 : LD) (a1 : Int) (a2 : BA) (K : Int → Option β) : Option β :=
 Zo (Y2.l0 k a0 a1 a2 K) k (0)
noncomputable def Y2.t (k : Nat) (a0 : LD) (a1 : Int) (a2 : BA) : Option (Int) := Y2.g k a0 a1 a2 (fun z0 => some z0)
noncomputable def Y2.f {β : Type} (k : Nat) (a0 : LD) (a1 : Int) (a2 : BA) (K : Int → Option β) : Option β := bd1 (Y2.t k a0 a1 a2) K
noncomputable def Y2.e (k : Nat) : Zk := ent [.d .l, .d .n, .d .s] [1] [.n] [3] false (Y2.t k)
noncomputable def Y2.p (k : Nat) : Pro := ⟨Try.prog, [], Zn [(2, kp [0, 1, 2, 7])] false [], k⟩
noncomputable def Y2.d (k : Nat) (a0 : LD) (a1 : Int) (a2 : BA) : Ex → St → Option (Int) := (Y2.p k).fin Try.f43 [.d (.sl a0), .d (.int .i64 a1), .d (.str a2)] [1] [.n]
noncomputable def Y2.s0 (aC : LD) (aD : Int) (aH : BA) (v : Int) : St :=
 match v with
 | aI => ZX 31 [(0, .d false (.sl aC)), (1, .d false (.int .i64 aD)), (2, .d false (.str aH)), (7, .d true (.int .i64 aI))] []
noncomputable def Y2.r0 (k : Nat) (a0 : LD) (a1 : Int) (a2 : BA) (aC : LD) (aD : Int) (aH : BA) (n : Nat) (v : Int) : Option (Int) := (Y2.p k).lp (Zt Try.f43) 2 [1, 0, 1, 0] (Y2.d k a0 a1 a2) n (Y2.s0 aC aD aH v)
theorem Y2.l0_eq (k : Nat) (a0 : LD) (a1 : Int) (a2 : BA) (aC : LD) (aD : Int) (aH : BA) : ∀ n v, Y2.r0 k a0 a1 a2 aC aD aH n v = Zo (Y2.l0 k aC aD aH (fun z0 => some z0)) n v :=
 Zm (Y2.s0 aC aD aH) _ fun L0 v => by kernel_rfl
theorem Y2.ok (k : Nat) : Za Try.prog 43 (Y2.e k) := Zh (Y2.p k) mix tyok Try.func43 trivial (by kernel_rfl) (fun a0 a1 a2 => Eq.trans (b := Y2.m k a0 a1 a2 (fun z0 => some z0) (fun aC aD aH => Y2.r0 k a0 a1 a2 aC aD aH k)) (by kernel_rfl) (congrArg (Y2.m k a0 a1 a2 (fun z0 => some z0)) (funext fun aC => funext fun aD => funext fun aH => funext fun v => Y2.l0_eq k a0 a1 a2 aC aD aH k v) :))
set_option maxRecDepth 100000 in
noncomputable def YX.l0 {β : Type} (k : Nat) (aC : LD) (aI : Int) (aJ : BA) (aW aZ bD : Int) (bR : Bool) (bQ : LD) (bU : Int) (bT : BA) (bV : Int) (bW bZ : LD) (cA : Int) (cC : BA) (cE : Int) (cF cG : LD) (K : LC → Option β) (L0 : (Bool × Int × LC) → Option β) (v : Bool × Int × LC) : Option β :=
 match v with
 | (aD, aH, cH) => bif (decide ((aH : Int) < (aC.length : Int))) then (bif (!aD) then (atR aC aH [.n, .s, .n, .n, .n, .b, .l, .n, .s, .n, .l, .l, .n, .s, .n, .l, .l] fun x715 x718 x721 x724 x727 x730 x733 x736 x739 x742 x745 x748 x751 x754 x757 x760 x763 => (Yau.f k x715 x718 x721 x724 x727 x730 x733 x736 x739 x742 x745 x748 x751 x754 x757 x760 x763 aI aJ aW aZ bD bR bQ bU bT bV bW bZ cA cC cE cF cG (fun y764 => bif (!y764) then (Yar.f k aI aJ aW aZ bD bR bQ bU bT bV bW bZ cA cC cE cF cG (fun y765 y766 y767 y768 y769 y770 y771 y772 y773 y774 y775 y776 y777 y778 y779 y780 y781 => Zc (cH.length + ([[.d (.int .i64 y765), .d (.str y766), .d (.int .i64 y767), .d (.int .i64 y768), .d (.int .i64 y769), .d (.bool y770), .own y771, .d (.int .i64 y772), .d (.str y773), .d (.int .i64 y774), .own y775, .own y776, .d (.int .i64 y777), .d (.str y778), .d (.int .i64 y779), .own y780, .own y781]] : LC).length ≤ ZN) (atR aC aH [.n, .s, .n, .n, .n, .b, .l, .n, .s, .n, .l, .l, .n, .s, .n, .l, .l] fun x785 x788 x791 x794 x797 x800 x803 x806 x809 x812 x815 x818 x821 x824 x827 x830 x833 => let J0 := (cH ++ ([[.d (.int .i64 y765), .d (.str y766), .d (.int .i64 y767), .d (.int .i64 y768), .d (.int .i64 y769), .d (.bool y770), .own y771, .d (.int .i64 y772), .d (.str y773), .d (.int .i64 y774), .own y775, .own y776, .d (.int .i64 y777), .d (.str y778), .d (.int .i64 y779), .own y780, .own y781]] : LC)); (bif ((x785 : Int) != aI) then (atR aC aH [.n, .s, .n, .n, .n, .b, .l, .n, .s, .n, .l, .l, .n, .s, .n, .l, .l] fun x837 x840 x843 x846 x849 x852 x855 x858 x861 x864 x867 x870 x873 x876 x879 x882 x885 => (Zc (J0.length + ([[.d (.int .i64 x837), .d (.str x840), .d (.int .i64 x843), .d (.int .i64 x846), .d (.int .i64 x849), .d (.bool x852), .d (.sl x855), .d (.int .i64 x858), .d (.str x861), .d (.int .i64 x864), .d (.sl x867), .d (.sl x870), .d (.int .i64 x873), .d (.str x876), .d (.int .i64 x879), .d (.sl x882), .d (.sl x885)]] : LC).length ≤ ZN) (L0 (true, IntKind.wrap .i64 (aH + 1), J0 ++ ([[.d (.int .i64 x837), .d (.str x840), .d (.int .i64 x843), .d (.int .i64 x846), .d (.int .i64 x849), .d (.bool x852), .d (.sl x855), .d (.int .i64 x858), .d (.str x861), .d (.int .i64 x864), .d (.sl x867), .d (.sl x870), .d (.int .i64 x873), .d (.str x876), .d (.int .i64 x879), .d (.sl x882), .d (.sl x885)]] : LC))))) else (atR aC aH [.n, .s, .n, .n, .n, .b, .l, .n, .s, .n, .l, .l, .n, .s, .n, .l, .l] fun x889 x892 x895 x898 x901 x904 x907 x910 x913 x916 x919 x922 x925 x928 x931 x934 x937 => (bif (!(Zae x892 aJ)) then (atR aC aH [.n, .s, .n, .n, .n, .b, .l, .n, .s, .n, .l, .l, .n, .s, .n, .l, .l] fun x941 x944 x947 x950 x953 x956 x959 x962 x965 x968 x971 x974 x977 x980 x983 x986 x989 => (Zc (J0.length + ([[.d (.int .i64 x941), .d (.str x944), .d (.int .i64 x947), .d (.int .i64 x950), .d (.int .i64 x953), .d (.bool x956), .d (.sl x959), .d (.int .i64 x962), .d (.str x965), .d (.int .i64 x968), .d (.sl x971), .d (.sl x974), .d (.int .i64 x977), .d (.str x980), .d (.int .i64 x983), .d (.sl x986), .d (.sl x989)]] : LC).length ≤ ZN) (L0 (true, IntKind.wrap .i64 (aH + 1), J0 ++ ([[.d (.int .i64 x941), .d (.str x944), .d (.int .i64 x947), .d (.int .i64 x950), .d (.int .i64 x953), .d (.bool x956), .d (.sl x959), .d (.int .i64 x962), .d (.str x965), .d (.int .i64 x968), .d (.sl x971), .d (.sl x974), .d (.int .i64 x977), .d (.str x980), .d (.int .i64 x983), .d (.sl x986), .d (.sl x989)]] : LC))))) else (L0 (true, IntKind.wrap .i64 (aH + 1), cH ++ ([[.d (.int .i64 y765), .d (.str y766), .d (.int .i64 y767), .d (.int .i64 y768), .d (.int .i64 y769), .d (.bool y770), .own y771, .d (.int .i64 y772), .d (.str y773), .d (.int .i64 y774), .own y775, .own y776, .d (.int .i64 y777), .d (.str y778), .d (.int .i64 y779), .own y780, .own y781]] : LC))))))))) else (atR aC aH [.n, .s, .n, .n, .n, .b, .l, .n, .s, .n, .l, .l, .n, .s, .n, .l, .l] fun x993 x996 x999 x1002 x1005 x1008 x1011 x1014 x1017 x1020 x1023 x1026 x1029 x1032 x1035 x1038 x1041 => (bif ((x993 : Int) != aI) then (atR aC aH [.n, .s, .n, .n, .n, .b, .l, .n, .s, .n, .l, .l, .n, .s, .n, .l, .l] fun x1045 x1048 x1051 x1054 x1057 x1060 x1063 x1066 x1069 x1072 x1075 x1078 x1081 x1084 x1087 x1090 x1093 => (Zc (cH.length + ([[.d (.int .i64 x1045), .d (.str x1048), .d (.int .i64 x1051), .d (.int .i64 x1054), .d (.int .i64 x1057), .d (.bool x1060), .d (.sl x1063), .d (.int .i64 x1066), .d (.str x1069), .d (.int .i64 x1072), .d (.sl x1075), .d (.sl x1078), .d (.int .i64 x1081), .d (.str x1084), .d (.int .i64 x1087), .d (.sl x1090), .d (.sl x1093)]] : LC).length ≤ ZN) (L0 (aD, IntKind.wrap .i64 (aH + 1), cH ++ ([[.d (.int .i64 x1045), .d (.str x1048), .d (.int .i64 x1051), .d (.int .i64 x1054), .d (.int .i64 x1057), .d (.bool x1060), .d (.sl x1063), .d (.int .i64 x1066), .d (.str x1069), .d (.int .i64 x1072), .d (.sl x1075), .d (.sl x1078), .d (.int .i64 x1081), .d (.str x1084), .d (.int .i64 x1087), .d (.sl x1090), .d (.sl x1093)]] : LC))))) else (atR aC aH [.n, .s, .n, .n, .n, .b, .l, .n, .s, .n, .l, .l, .n, .s, .n, .l, .l] fun x1097 x1100 x1103 x1106 x1109 x1112 x1115 x1118 x1121 x1124 x1127 x1130 x1133 x1136 x1139 x1142 x1145 => (bif (!(Zae x1100 aJ)) then (atR aC aH [.n, .s, .n, .n, .n, .b, .l, .n, .s, .n, .l, .l, .n, .s, .n, .l, .l] fun x1149 x1152 x1155 x1158 x1161 x1164 x1167 x1170 x1173 x1176 x1179 x1182 x1185 x1188 x1191 x1194 x1197 => (Zc (cH.length + ([[.d (.int .i64 x1149), .d (.str x1152), .d (.int .i64 x1155), .d (.int .i64 x1158), .d (.int .i64 x1161), .d (.bool x1164), .d (.sl x1167), .d (.int .i64 x1170), .d (.str x1173), .d (.int .i64 x1176), .d (.sl x1179), .d (.sl x1182), .d (.int .i64 x1185), .d (.str x1188), .d (.int .i64 x1191), .d (.sl x1194), .d (.sl x1197)]] : LC).length ≤ ZN) (L0 (aD, IntKind.wrap .i64 (aH + 1), cH ++ ([[.d (.int .i64 x1149), .d (.str x1152), .d (.int .i64 x1155), .d (.int .i64 x1158), .d (.int .i64 x1161), .d (.bool x1164), .d (.sl x1167), .d (.int .i64 x1170), .d (.str x1173), .d (.int .i64 x1176), .d (.sl x1179), .d (.sl x1182), .d (.int .i64 x1185), .d (.str x1188), .d (.int .i64 x1191), .d (.sl x1194), .d (.sl x1197)]] : LC))))) else (L0 (aD, IntKind.wrap .i64 (aH + 1), cH))))))))) else (atR aC aH [.n, .s, .n, .n, .n, .b, .l, .n, .s, .n, .l, .l, .n, .s, .n, .l, .l] fun x1201 x1204 x1207 x1210 x1213 x1216 x1219 x1222 x1225 x1228 x1231 x1234 x1237 x1240 x1243 x1246 x1249 => (bif ((x1201 : Int) != aI) then (atR aC aH [.n, .s, .n, .n, .n, .b, .l, .n, .s, .n, .l, .l, .n, .s, .n, .l, .l] fun x1253 x1256 x1259 x1262 x1265 x1268 x1271 x1274 x1277 x1280 x1283 x1286 x1289 x1292 x1295 x1298 x1301 => (Zc (cH.length + ([[.d (.int .i64 x1253), .d (.str x1256), .d (.int .i64 x1259), .d (.int .i64 x1262), .d (.int .i64 x1265), .d (.bool x1268), .d (.sl x1271), .d (.int .i64 x1274), .d (.str x1277), .d (.int .i64 x1280), .d (.sl x1283), .d (.sl x1286), .d (.int .i64 x1289), .d (.str x1292), .d (.int .i64 x1295), .d (.sl x1298), .d (.sl x1301)]] : LC).length ≤ ZN) (L0 (aD, IntKind.wrap .i64 (aH + 1), cH ++ ([[.d (.int .i64 x1253), .d (.str x1256), .d (.int .i64 x1259), .d (.int .i64 x1262), .d (.int .i64 x1265), .d (.bool x1268), .d (.sl x1271), .d (.int .i64 x1274), .d (.str x1277), .d (.int .i64 x1280), .d (.sl x1283), .d (.sl x1286), .d (.int .i64 x1289), .d (.str x1292), .d (.int .i64 x1295), .d (.sl x1298), .d (.sl x1301)]] : LC))))) else (atR aC aH [.n, .s, .n, .n, .n, .b, .l, .n, .s, .n, .l, .l, .n, .s, .n, .l, .l] fun x1305 x1308 x1311 x1314 x1317 x1320 x1323 x1326 x1329 x1332 x1335 x1338 x1341 x1344 x1347 x1350 x1353 => (bif (!(Zae x1308 aJ)) then (atR aC aH [.n, .s, .n, .n, .n, .b, .l, .n, .s, .n, .l, .l, .n, .s, .n, .l, .l] fun x1357 x1360 x1363 x1366 x1369 x1372 x1375 x1378 x1381 x1384 x1387 x1390 x1393 x1396 x1399 x1402 x1405 => (Zc (cH.length + ([[.d (.int .i64 x1357), .d (.str x1360), .d (.int .i64 x1363), .d (.int .i64 x1366), .d (.int .i64 x1369), .d (.bool x1372), .d (.sl x1375), .d (.int .i64 x1378), .d (.str x1381), .d (.int .i64 x1384), .d (.sl x1387), .d (.sl x1390), .d (.int .i64 x1393), .d (.str x1396), .d (.int .i64 x1399), .d (.sl x1402), .d (.sl x1405)]] : LC).length ≤ ZN) (L0 (aD, IntKind.wrap .i64 (aH + 1), cH ++ ([[.d (.int .i64 x1357), .d (.str x1360), .d (.int .i64 x1363), .d (.int .i64 x1366), .d (.int .i64 x1369), .d (.bool x1372), .d (.sl x1375), .d (.int .i64 x1378), .d (.str x1381), .d (.int .i64 x1384), .d (.sl x1387), .d (.sl x1390), .d (.int .i64 x1393), .d (.str x1396), .d (.int .i64 x1399), .d (.sl x1402), .d (.sl x1405)]] : LC))))) else (L0 (aD, IntKind.wrap .i64 (aH + 1), cH))))))) else (bif (!aD) then (Yar.f k aI aJ aW aZ bD bR bQ bU bT bV bW bZ cA cC cE cF cG (fun y1406 y1407 y1408 y1409 y1410 y1411 y1412 y1413 y1414 y1415 y1416 y1417 y1418 y1419 y1420 y1421 y1422 => Zc (cH.length + ([[.d (.int .i64 y1406), .d (.str y1407), .d (.int .i64 y1408), .d (.int .i64 y1409), .d (.int .i64 y1410), .d (.bool y1411), .own y1412, .d (.int .i64 y1413), .d (.str y1414), .d (.int .i64 y1415), .own y1416, .own y1417, .d (.int .i64 y1418), .d (.str y1419), .d (.int .i64 y1420), .own y1421, .own y1422]] : LC).length ≤ ZN) (K (cH ++ ([[.d (.int .i64 y1406), .d (.str y1407), .d (.int .i64 y1408), .d (.int .i64 y1409), .d (.int .i64 y1410), .d (.bool y1411), .own y1412, .d (.int .i64 y1413), .d (.str y1414), .d (.int .i64 y1415), .own y1416, .own y1417, .d (.int .i64 y1418), .d (.str y1419), .d (.int .i64 y1420), .own y1421, .own y1422]] : LC))))) else (K cH))
noncomputable def YX.m {β : Type} (k : Nat) (a0 : LD) (aX : Int) (aY : BA) (bA bB bC : Int) (bE : Bool) (bF : LD) (bG : Int) (bH : BA) (bI : Int) (bJ bK : LD) (bL : Int) (bM : BA) (bN : Int) (bO bP : LD) (K : LC → Option β) (F : (LD → Int → BA → Int → Int → Int → Bool → LD → Int → BA → Int → LD → LD → Int → BA → Int → LD → LD → (Bool × Int × LC) → Option β)) : Option β :=
 F a0 aX aY bA bB bC bE bF bG bH bI bJ bK bL bM bN bO bP (false, 0, ([] : LC))
noncomputable def YX.g {β : Type} (k : Nat) (a0 : LD) (aX : Int) (aY : BA) (bA bB bC : Int) (bE : Bool) (bF : LD) (bG : Int) (bH : BA) (bI : Int) (bJ bK : LD) (bL : Int) (bM : BA) (bN : Int) (bO bP : LD) (K : LC → Option β) : Option β :=
 Zo (YX.l0 k a0 aX aY bA bB bC bE bF bG bH bI bJ bK bL bM bN bO bP K) k (false, 0, ([] : LC))
noncomputable def YX.t (k : Nat) (a0 : LD) (aX : Int) (aY : BA) (bA bB bC : Int) (bE : Bool) (bF : LD) (bG : Int) (bH : BA) (bI : Int) (bJ bK : LD) (bL : Int) (bM : BA) (bN : Int) (bO bP : LD) : Option (LC) := YX.g k a0 aX aY bA bB bC bE bF bG bH bI bJ bK bL bM bN bO bP (fun z0 => some z0)
noncomputable def YX.f {β : Type} (k : Nat) (a0 : LD) (aX : Int) (aY : BA) (bA bB bC : Int) (bE : Bool) (bF : LD) (bG : Int) (bH : BA) (bI : Int) (bJ bK : LD) (bL : Int) (bM : BA) (bN : Int) (bO bP : LD) (K : LC → Option β) : Option β := bd1 (YX.t k a0 aX aY bA bB bC bE bF bG bH bI bJ bK bL bM bN bO bP) K
noncomputable def YX.e (k : Nat) : Zk := ent [.d .l, .agg [.n, .s, .n, .n, .n, .b, .l, .n, .s, .n, .l, .l, .n, .s, .n, .l, .l]] [1] [.o] [44] true (YX.t k)
noncomputable def YX.p (k : Nat) : Pro := ⟨Try.prog, [(67, Yau.e k), (68, Yar.e k)], Zn [(4, kp [0, 3, 6, 7] [(5, .row false 44)])] true [], k⟩
noncomputable def YX.d (k : Nat) (a0 : LD) (aX : Int) (aY : BA) (bA bB bC : Int) (bE : Bool) (bF : LD) (bG : Int) (bH : BA) (bI : Int) (bJ bK : LD) (bL : Int) (bM : BA) (bN : Int) (bO bP : LD) : Ex → St → Option (LC) := (YX.p k).fin Try.f44 [.d (.sl a0), .agg [.int .i64 aX, .str aY, .int .i64 bA, .int .i64 bB, .int .i64 bC, .bool bE, .sl bF, .int .i64 bG, .str bH, .int .i64 bI, .sl bJ, .sl bK, .int .i64 bL, .str bM, .int .i64 bN, .sl bO, .sl bP]] [1] [.o]
noncomputable def YX.s0 (aC : LD) (aI : Int) (aJ : BA) (aW aZ bD : Int) (bR : Bool) (bQ : LD) (bU : Int) (bT : BA) (bV : Int) (bW bZ : LD) (cA : Int) (cC : BA) (cE : Int) (cF cG : LD) (v : Bool × Int × LC) : St :=
 match v with
 | (aD, aH, cH) => ZX 64 [(0, .d false (.sl aC)), (3, .bp 0 0), (5, .row 1), (6, .d true (.bool aD)), (7, .d true (.int .i64 aH))] [.box none 91 [.d false (.int .i64 aI), .d false (.str aJ), .d false (.int .i64 aW), .d false (.int .i64 aZ), .d false (.int .i64 bD), .d false (.bool bR), .d false (.sl bQ), .d false (.int .i64 bU), .d false (.str bT), .d false (.int .i64 bV), .d false (.sl bW), .d false (.sl bZ), .d false (.int .i64 cA), .d false (.str cC), .d false (.int .i64 cE), .d false (.sl cF), .d false (.sl cG)], .row none false 44 cH]
noncomputable def YX.r0 (k : Nat) (a0 : LD) (aX : Int) (aY : BA) (bA bB bC : Int) (bE : Bool) (bF : LD) (bG : Int) (bH : BA) (bI : Int) (bJ bK : LD) (bL : Int) (bM : BA) (bN : Int) (bO bP aC : LD) (aI : Int) (aJ : BA) (aW aZ bD : Int) (bR : Bool) (bQ : LD) (bU : Int) (bT : BA) (bV : Int) (bW bZ : LD) (cA : Int) (cC : BA) (cE : Int) (cF cG : LD) (n : Nat) (v : Bool × Int × LC) : Option (LC) := (YX.p k).lp (Zt Try.f44) 4 [1, 1, 1, 0, 1, 0] (YX.d k a0 aX aY bA bB bC bE bF bG bH bI bJ bK bL bM bN bO bP) n (YX.s0 aC aI aJ aW aZ bD bR bQ bU bT bV bW bZ cA cC cE cF cG v)
theorem YX.l0_eq (k : Nat) (a0 : LD) (aX : Int) (aY : BA) (bA bB bC : Int) (bE : Bool) (bF : LD) (bG : Int) (bH : BA) (bI : Int) (bJ bK : LD) (bL : Int) (bM : BA) (bN : Int) (bO bP aC : LD) (aI : Int) (aJ : BA) (aW aZ bD : Int) (bR : Bool) (bQ : LD) (bU : Int) (bT : BA) (bV : Int) (bW bZ : LD) (cA : Int) (cC : BA) (cE : Int) (cF cG : LD) : ∀ n v, YX.r0 k a0 aX aY bA bB bC bE bF bG bH bI bJ bK bL bM bN bO bP aC aI aJ aW aZ bD bR bQ bU bT bV bW bZ cA cC cE cF cG n v = Zo (YX.l0 k aC aI aJ aW aZ bD bR bQ bU bT bV bW bZ cA cC cE cF cG (fun z0 => some z0)) n v :=
 Zm (YX.s0 aC aI aJ aW aZ bD bR bQ bU bT bV bW bZ cA cC cE cF cG) _ fun L0 v => by obtain ⟨aD, aH, cH⟩ := v; kernel_rfl
theorem YX.ok (k : Nat) : Za Try.prog 44 (YX.e k) := Zh (YX.p k) mix tyok Try.func44 ⟨Yau.ok k, Yar.ok k⟩ (by kernel_rfl) (fun a0 aX aY bA bB bC bE bF bG bH bI bJ bK bL bM bN bO bP => Eq.trans (b := YX.m k a0 aX aY bA bB bC bE bF bG bH bI bJ bK bL bM bN bO bP (fun z0 => some z0) (fun aC aI aJ aW aZ bD bR bQ bU bT bV bW bZ cA cC cE cF cG => YX.r0 k a0 aX aY bA bB bC bE bF bG bH bI bJ bK bL bM bN bO bP aC aI aJ aW aZ bD bR bQ bU bT bV bW bZ cA cC cE cF cG k)) (by kernel_rfl) (congrArg (YX.m k a0 aX aY bA bB bC bE bF bG bH bI bJ bK bL bM bN bO bP (fun z0 => some z0)) (funext fun aC => funext fun aI => funext fun aJ => funext fun aW => funext fun aZ => funext fun bD => funext fun bR => funext fun bQ => funext fun bU => funext fun bT => funext fun bV => funext fun bW => funext fun bZ => funext fun cA => funext fun cC => funext fun cE => funext fun cF => funext fun cG => funext fun v => YX.l0_eq k a0 aX aY bA bB bC bE bF bG bH bI bJ bK bL bM bN bO bP aC aI aJ aW aZ bD bR bQ bU bT bV bW bZ cA cC cE cF cG k v) :))
set_option maxRecDepth 100000 in
noncomputable def YS.l0 {β : Type} (k : Nat) (aC : LD) (aH : Int) (aI : LD) (aJ : Int) (K : Int → LD → Bool → Option β) (L0 : (Int × Int × LD) → Option β) (v : Int × Int × LD) : Option β :=
 match v with
 | (aD, aW, aZ) => bif (decide ((aD : Int) < (aC.length : Int))) then (atR aC aD [.n, .b, .n, .s, .n, .n, .n, .b, .l, .n, .s, .n, .l, .l, .n, .s, .n, .l, .l] fun x486 x489 x492 x495 x498 x501 x504 x507 x510 x513 x516 x519 x522 x525 x528 x531 x534 x537 x540 => (Y2.f k aZ x492 x495 (fun y541 => atR aC aD [.n, .b, .n, .s, .n, .n, .n, .b, .l, .n, .s, .n, .l, .l, .n, .s, .n, .l, .l] fun x545 x548 x551 x554 x557 x560 x563 x566 x569 x572 x575 x578 x581 x584 x587 x590 x593 x596 x599 => (bif ((x545 : Int) != (IntKind.wrap .i64 (aW + 1))) then (Yaa.f k aH aI (fun y600 y601 => K y600 (C.immRows y601) false)) else (atR aC aD [.n, .b, .n, .s, .n, .n, .n, .b, .l, .n, .s, .n, .l, .l, .n, .s, .n, .l, .l] fun x605 x608 x611 x614 x617 x620 x623 x626 x629 x632 x635 x638 x641 x644 x647 x650 x653 x656 x659 => let J7 := ((aZ.drop (Int.toNat (IntKind.wrap .i64 (y541 + 1) : Int))).take (Int.toNat (aZ.length : Int) - Int.toNat (IntKind.wrap .i64 (y541 + 1) : Int))); let J3 := (J7.map (·.map C.d)); let J12 := ((aZ.drop (Int.toNat (0 : Int))).take (Int.toNat (y541 : Int) - Int.toNat (0 : Int))); let J9 := (J12.map (·.map C.d)); let J8 := (([] : LC) ++ J9); let J0 := (J8.length + J3.length ≤ ZN); let J2 := (J8 ++ J3); let J1 := (C.immRows J2); let J4 := (0 ≤ (IntKind.wrap .i64 (y541 + 1) : Int) ∧ (IntKind.wrap .i64 (y541 + 1) : Int) ≤ (aZ.length : Int) ∧ (aZ.length : Int) ≤ (aZ.length : Int) ∧ rowsOk 17 aZ); let J5 := (rowsOk 17 J7); let J6 := (([] : LC).length + J9.length ≤ ZN); let J10 := (rowsOk 17 J12); let J11 := (0 ≤ (0 : Int) ∧ (0 : Int) ≤ (y541 : Int) ∧ (y541 : Int) ≤ (aZ.length : Int) ∧ rowsOk 17 aZ); (bif x608 then (bif (decide ((y541 : Int) < 0)) then (Yaa.f k aH aI (fun y660 y661 => K y660 (C.immRows y661) false)) else (atR aZ y541 [.n, .s, .n, .n, .n, .b, .l, .n, .s, .n, .l, .l, .n, .s, .n, .l, .l] fun x665 x668 x671 x674 x677 x680 x683 x686 x689 x692 x695 x698 x701 x704 x707 x710 x713 => (bif ((x671 : Int) != x498) then (Yaa.f k aH aI (fun y714 y715 => K y714 (C.immRows y715) false)) else (atR aC aD [.n, .b, .n, .s, .n, .n, .n, .b, .l, .n, .s, .n, .l, .l, .n, .s, .n, .l, .l] fun x719 x722 x725 x728 x731 x734 x737 x740 x743 x746 x749 x752 x755 x758 x761 x764 x767 x770 x773 => (atR aC aD [.n, .b, .n, .s, .n, .n, .n, .b, .l, .n, .s, .n, .l, .l, .n, .s, .n, .l, .l] fun x777 x780 x783 x786 x789 x792 x795 x798 x801 x804 x807 x810 x813 x816 x819 x822 x825 x828 x831 => (bif x780 then (Zc J11 (Zc J10 (Zc J6 (Zc J4 (Zc J5 (Zc J0 (Yu.f k x719 J1 (fun y832 => bif (!y832) then (Yaa.f k aH aI (fun y833 y834 => K y833 (C.immRows y834) false)) else (L0 (IntKind.wrap .i64 (aD + 1), x719, C.immRows J2)))))))))) else (YX.f k aZ x492 x495 x498 x501 x504 x507 x510 x513 x516 x519 x522 x525 x528 x531 x534 x537 x540 (fun y835 => Yu.f k x719 (C.immRows y835) (fun y836 => bif (!y836) then (Yaa.f k aH aI (fun y837 y838 => K y837 (C.immRows y838) false)) else (L0 (IntKind.wrap .i64 (aD + 1), x719, C.immRows y835))))))))))) else (atR aC aD [.n, .b, .n, .s, .n, .n, .n, .b, .l, .n, .s, .n, .l, .l, .n, .s, .n, .l, .l] fun x842 x845 x848 x851 x854 x857 x860 x863 x866 x869 x872 x875 x878 x881 x884 x887 x890 x893 x896 => (atR aC aD [.n, .b, .n, .s, .n, .n, .n, .b, .l, .n, .s, .n, .l, .l, .n, .s, .n, .l, .l] fun x900 x903 x906 x909 x912 x915 x918 x921 x924 x927 x930 x933 x936 x939 x942 x945 x948 x951 x954 => (bif x903 then (Zc J11 (Zc J10 (Zc J6 (Zc J4 (Zc J5 (Zc J0 (Yu.f k x842 J1 (fun y955 => bif (!y955) then (Yaa.f k aH aI (fun y956 y957 => K y956 (C.immRows y957) false)) else (L0 (IntKind.wrap .i64 (aD + 1), x842, C.immRows J2)))))))))) else (YX.f k aZ x492 x495 x498 x501 x504 x507 x510 x513 x516 x519 x522 x525 x528 x531 x534 x537 x540 (fun y958 => Yu.f k x842 (C.immRows y958) (fun y959 => bif (!y959) then (Yaa.f k aH aI (fun y960 y961 => K y960 (C.immRows y961) false)) else (L0 (IntKind.wrap .i64 (aD + 1), x842, C.immRows y958)))))))))))))) else (K aW aZ true)
noncomputable def YS.m {β : Type} (k : Nat) (aB : Int) (aA a1 : LD) (K : Int → LD → Bool → Option β) (F : (LD → Int → LD → Int → (Int × Int × LD) → Option β)) : Option β :=
 Yaa.f k aB aA (fun y1 y2 => Yu.f k aB aA (fun y3 => bif (!y3) then (K y1 (C.immRows y2) false) else (F a1 aB aA 0 (0, y1, C.immRows y2))))
noncomputable def YS.g {β : Type} (k : Nat) (aB : Int) (aA a1 : LD) (K : Int → LD → Bool → Option β) : Option β :=
 Yaa.f k aB aA (fun y1 y2 => Yu.f k aB aA (fun y3 => bif (!y3) then (K y1 (C.immRows y2) false) else (Zo (YS.l0 k a1 aB aA 0 K) k (0, y1, C.immRows y2))))
noncomputable def YS.t (k : Nat) (aB : Int) (aA a1 : LD) : Option (Int × LD × Bool) := YS.g k aB aA a1 (fun z0 z1 z2 => some (z0, z1, z2))
noncomputable def YS.f {β : Type} (k : Nat) (aB : Int) (aA a1 : LD) (K : Int → LD → Bool → Option β) : Option β := bd3 (YS.t k aB aA a1) K
noncomputable def YS.e (k : Nat) : Zk := ent [.agg [.n, .l], .d .l] [2, 1] [.n, .l, .b] [46, 4] true (YS.t k)
noncomputable def YS.p (k : Nat) : Pro := ⟨Try.prog, [(41, Yaa.e k), (42, Yu.e k), (43, Y2.e k), (44, YX.e k)], Zn [(5, kp [1, 2, 4, 6, 7] [] [(6, 0, .dat false), (6, 1, .dat false)])] true [[false, true], [false]], k⟩
noncomputable def YS.d (k : Nat) (aB : Int) (aA a1 : LD) : Ex → St → Option (Int × LD × Bool) := (YS.p k).fin Try.f16 [.agg [.int .i64 aB, .sl aA], .d (.sl a1)] [2, 1] [.n, .l, .b]
noncomputable def YS.s0 (aC : LD) (aH : Int) (aI : LD) (aJ : Int) (v : Int × Int × LD) : St :=
 match v with
 | (aD, aW, aZ) => ZX 102 [(1, .d false (.sl aC)), (2, .bp 0 0), (4, .bp 1 0), (6, .bp 2 0), (7, .d true (.int .i64 aD))] [.box none 46 [.d false (.int .i64 aH), .d false (.sl aI)], .box none 46 [.d true (.int .i64 aJ), .nil], .box none 46 [.d false (.int .i64 aW), .d false (.sl aZ)]]
noncomputable def YS.r0 (k : Nat) (aB : Int) (aA a1 aC : LD) (aH : Int) (aI : LD) (aJ : Int) (n : Nat) (v : Int × Int × LD) : Option (Int × LD × Bool) := (YS.p k).lp (Zt Try.f16) 5 [1, 1, 1, 0, 1, 0] (YS.d k aB aA a1) n (YS.s0 aC aH aI aJ v)
theorem YS.l0_eq (k : Nat) (aB : Int) (aA a1 aC : LD) (aH : Int) (aI : LD) (aJ : Int) : ∀ n v, YS.r0 k aB aA a1 aC aH aI aJ n v = Zo (YS.l0 k aC aH aI aJ (fun z0 z1 z2 => some (z0, z1, z2))) n v :=
 Zm (YS.s0 aC aH aI aJ) _ fun L0 v => by obtain ⟨aD, aW, aZ⟩ := v; kernel_rfl
theorem YS.ok (k : Nat) : Za Try.prog 16 (YS.e k) := Zh (YS.p k) mix tyok Try.func16 ⟨Yaa.ok k, Yu.ok k, Y2.ok k, YX.ok k⟩ (by kernel_rfl) (fun aB aA a1 => Eq.trans (b := YS.m k aB aA a1 (fun z0 z1 z2 => some (z0, z1, z2)) (fun aC aH aI aJ => YS.r0 k aB aA a1 aC aH aI aJ k)) (by kernel_rfl) (congrArg (YS.m k aB aA a1 (fun z0 z1 z2 => some (z0, z1, z2))) (funext fun aC => funext fun aH => funext fun aI => funext fun aJ => funext fun v => YS.l0_eq k aB aA a1 aC aH aI aJ k v) :))
noncomputable def Y9.g {β : Type} (k : Nat) (a0 a1 a2 : Int) (K : Bool → Option β) : Option β :=
 bif (decide ((a0 : Int) ≥ a1)) then (K (decide ((a0 : Int) ≤ a2))) else (K false)
noncomputable def Y9.t (k : Nat) (a0 a1 a2 : Int) : Option (Bool) := Y9.g k a0 a1 a2 (fun z0 => some z0)
noncomputable def Y9.f {β : Type} (k : Nat) (a0 a1 a2 : Int) (K : Bool → Option β) : Option β := bd1 (Y9.t k a0 a1 a2) K
noncomputable def Y9.e (k : Nat) : Zk := ent [.d .n, .d .n, .d .n] [1] [.b] [4] false (Y9.t k)
noncomputable def Y9.p (k : Nat) : Pro := ⟨Try.prog, [], Zn [] false [], k⟩
theorem Y9.ok (k : Nat) : Za Try.prog 70 (Y9.e k) := Zh (Y9.p k) mix tyok Try.func70 trivial (by kernel_rfl) (fun a0 a1 a2 => by show _ = _; kernel_rfl)
noncomputable def Yay.g {β : Type} (k : Nat) (a0 : Int) (K : Bool → Option β) : Option β :=
 Y9.f k a0 1 3 (fun y1 => K y1)
noncomputable def Yay.t (k : Nat) (a0 : Int) : Option (Bool) := Yay.g k a0 (fun z0 => some z0)
noncomputable def Yay.f {β : Type} (k : Nat) (a0 : Int) (K : Bool → Option β) : Option β := bd1 (Yay.t k a0) K
noncomputable def Yay.e (k : Nat) : Zk := ent [.d .n] [1] [.b] [4] false (Yay.t k)
noncomputable def Yay.p (k : Nat) : Pro := ⟨Try.prog, [(70, Y9.e k)], Zn [] false [], k⟩
theorem Yay.ok (k : Nat) : Za Try.prog 105 (Yay.e k) := Zh (Yay.p k) mix tyok Try.func105 (Y9.ok k) (by kernel_rfl) (fun a0 => by show _ = _; kernel_rfl)
noncomputable def YZ.l0 {β : Type} (k : Nat) (aC : BA) (aD : Int) (K : Bool → Option β) (L0 : Int → Option β) (v : Int) : Option β :=
 match v with
 | aH => bif (decide ((aH : Int) < aD)) then (Za0 aC aH fun b5 => let J1 := (bif ((b5 : Int) != 45) then (K false) else (L0 (IntKind.wrap .i64 (aH + 1)))); let J0 := (bif (decide ((b5 : Int) < 48)) then J1 else (bif (decide ((b5 : Int) > 57)) then J1 else (L0 (IntKind.wrap .i64 (aH + 1))))); bif (decide ((b5 : Int) < 97)) then J0 else (bif (decide ((b5 : Int) > 122)) then J0 else (L0 (IntKind.wrap .i64 (aH + 1))))) else (Y9.f k (aC.size : Int) 1 20 (fun y6 => bif y6 then (Za0 aC 0 fun b7 => bif ((b7 : Int) != 45) then (Za0 aC (IntKind.wrap .i64 ((aC.size : Int) - 1)) fun b8 => K ((b8 : Int) != 45)) else (K false)) else (K false)))
noncomputable def YZ.m {β : Type} (k : Nat) (a0 : BA) (K : Bool → Option β) (F : (BA → Int → Int → Option β)) : Option β :=
 F a0 (a0.size : Int) (0)
noncomputable def YZ.g {β : Type} (k : Nat) (a0 : BA) (K : Bool → Option β) : Option β :=
 Zo (YZ.l0 k a0 (a0.size : Int) K) k (0)
noncomputable def YZ.t (k : Nat) (a0 : BA) : Option (Bool) := YZ.g k a0 (fun z0 => some z0)
noncomputable def YZ.f {β : Type} (k : Nat) (a0 : BA) (K : Bool → Option β) : Option β := bd1 (YZ.t k a0) K
noncomputable def YZ.e (k : Nat) : Zk := ent [.d .s] [1] [.b] [4] false (YZ.t k)
noncomputable def YZ.p (k : Nat) : Pro := ⟨Try.prog, [(70, Y9.e k)], Zn [(2, kp [0, 6, 7])] false [], k⟩
noncomputable def YZ.d (k : Nat) (a0 : BA) : Ex → St → Option (Bool) := (YZ.p k).fin Try.f106 [.d (.str a0)] [1] [.b]
noncomputable def YZ.s0 (aC : BA) (aD v : Int) : St :=
 match v with
 | aH => ZX 48 [(0, .d false (.str aC)), (6, .d true (.int .i64 aD)), (7, .d true (.int .i64 aH))] []
noncomputable def YZ.r0 (k : Nat) (a0 aC : BA) (aD : Int) (n : Nat) (v : Int) : Option (Bool) := (YZ.p k).lp (Zt Try.f106) 2 [1, 0, 1, 0] (YZ.d k a0) n (YZ.s0 aC aD v)
theorem YZ.l0_eq (k : Nat) (a0 aC : BA) (aD : Int) : ∀ n v, YZ.r0 k a0 aC aD n v = Zo (YZ.l0 k aC aD (fun z0 => some z0)) n v :=
 Zm (YZ.s0 aC aD) _ fun L0 v => by kernel_rfl
theorem YZ.ok (k : Nat) : Za Try.prog 106 (YZ.e k) := Zh (YZ.p k) mix tyok Try.func106 (Y9.ok k) (by kernel_rfl) (fun a0 => Eq.trans (b := YZ.m k a0 (fun z0 => some z0) (fun aC aD => YZ.r0 k a0 aC aD k)) (by kernel_rfl) (congrArg (YZ.m k a0 (fun z0 => some z0)) (funext fun aC => funext fun aD => funext fun v => YZ.l0_eq k a0 aC aD k v) :))
noncomputable def YP.l0 {β : Type} (k : Nat) (aC : LD) (aD : Int) (aH : LD) (aI : Int) (K : Bool → Option β) (L0 : Int → Option β) (v : Int) : Option β :=
 match v with
 | aJ => bif (decide ((aJ : Int) < aI)) then (atR aH aJ [.s] fun x13 => (YZ.f k x13 (fun y14 => bif (!y14) then (K false) else (bif (decide ((aJ : Int) > 0)) then (atR aC (IntKind.wrap .i64 (aJ - 1)) [.s] fun x18 => (bif (!(ZbO x18 x13)) then (K false) else (L0 (IntKind.wrap .i64 (aJ + 1))))) else (L0 (IntKind.wrap .i64 (aJ + 1))))))) else (K (decide (((aC.length : Int) : Int) ≤ aD)))
noncomputable def YP.m {β : Type} (k : Nat) (a0 : LD) (a1 : Int) (K : Bool → Option β) (F : (LD → Int → LD → Int → Int → Option β)) : Option β :=
 F a0 a1 a0 (a0.length : Int) (0)
noncomputable def YP.g {β : Type} (k : Nat) (a0 : LD) (a1 : Int) (K : Bool → Option β) : Option β :=
 Zo (YP.l0 k a0 a1 a0 (a0.length : Int) K) k (0)
noncomputable def YP.t (k : Nat) (a0 : LD) (a1 : Int) : Option (Bool) := YP.g k a0 a1 (fun z0 => some z0)
noncomputable def YP.f {β : Type} (k : Nat) (a0 : LD) (a1 : Int) (K : Bool → Option β) : Option β := bd1 (YP.t k a0 a1) K
noncomputable def YP.e (k : Nat) : Zk := ent [.d .l, .d .n] [1] [.b] [4] false (YP.t k)
noncomputable def YP.p (k : Nat) : Pro := ⟨Try.prog, [(106, YZ.e k)], Zn [(2, kp [0, 1, 7, 8, 9])] false [], k⟩
noncomputable def YP.d (k : Nat) (a0 : LD) (a1 : Int) : Ex → St → Option (Bool) := (YP.p k).fin Try.f107 [.d (.sl a0), .d (.int .i64 a1)] [1] [.b]
noncomputable def YP.s0 (aC : LD) (aD : Int) (aH : LD) (aI v : Int) : St :=
 match v with
 | aJ => ZX 35 [(0, .d false (.sl aC)), (1, .d false (.int .i64 aD)), (7, .d false (.sl aH)), (8, .d true (.int .i64 aI)), (9, .d true (.int .i64 aJ))] []
noncomputable def YP.r0 (k : Nat) (a0 : LD) (a1 : Int) (aC : LD) (aD : Int) (aH : LD) (aI : Int) (n : Nat) (v : Int) : Option (Bool) := (YP.p k).lp (Zt Try.f107) 2 [1, 0, 1, 0] (YP.d k a0 a1) n (YP.s0 aC aD aH aI v)
theorem YP.l0_eq (k : Nat) (a0 : LD) (a1 : Int) (aC : LD) (aD : Int) (aH : LD) (aI : Int) : ∀ n v, YP.r0 k a0 a1 aC aD aH aI n v = Zo (YP.l0 k aC aD aH aI (fun z0 => some z0)) n v :=
 Zm (YP.s0 aC aD aH aI) _ fun L0 v => by kernel_rfl
theorem YP.ok (k : Nat) : Za Try.prog 107 (YP.e k) := Zh (YP.p k) mix tyok Try.func107 (YZ.ok k) (by kernel_rfl) (fun a0 a1 => Eq.trans (b := YP.m k a0 a1 (fun z0 => some z0) (fun aC aD aH aI => YP.r0 k a0 a1 aC aD aH aI k)) (by kernel_rfl) (congrArg (YP.m k a0 a1 (fun z0 => some z0)) (funext fun aC => funext fun aD => funext fun aH => funext fun aI => funext fun v => YP.l0_eq k a0 a1 aC aD aH aI k v) :))
noncomputable def YO.l0 {β : Type} (k : Nat) (aC aD aH : Bool) (aI aW : Int) (aZ : BA) (bD : Int) (bR bQ : LD) (K : Bool → Option β) (L0 : Int → Option β) (v : Int) : Option β :=
 match v with
 | aJ => bif (decide ((aJ : Int) < aI)) then (Za0 aZ aJ fun b3 => Y9.f k (IntKind.wrap .i64 b3) 32 126 (fun y4 => bif (!y4) then (K false) else (L0 (IntKind.wrap .i64 (aJ + 1))))) else (bif (decide (((aZ.size : Int) : Int) ≤ 100)) then (bif aC then (bif aD then (K aH) else (K false)) else (K false)) else (K false))
noncomputable def YO.m {β : Type} (k : Nat) (aB : Int) (aA : BA) (aG : Int) (aE aF : LD) (K : Bool → Option β) (F : (Bool → Bool → Bool → Int → Int → BA → Int → LD → LD → Int → Option β)) : Option β :=
 bif ((aB : Int) == 1) then (F ((aG : Int) == 0) (((aE.length : Int) : Int) == 0) (((aF.length : Int) : Int) == 0) (aA.size : Int) aB aA aG aE aF (0)) else (let J0 := (bif (((aE.length : Int) : Int) == 0) then (K (((aF.length : Int) : Int) == 0)) else (K false)); bif ((aB : Int) == 2) then (bif (Zae aA (⟨#[]⟩ : BA)) then J0 else (K false)) else (bif ((aB : Int) == 3) then (Y9.f k aG 0 1 (fun y5 => bif (Zae aA (⟨#[]⟩ : BA)) then (bif y5 then J0 else (K false)) else (K false))) else (bif ((aB : Int) == 4) then (bif (Zae aA (⟨#[]⟩ : BA)) then (bif ((aG : Int) == 0) then (bif (((aE.length : Int) : Int) == 0) then (K true) else (K false)) else (K false)) else (K false)) else (bif ((aB : Int) == 5) then (YP.f k aE 300 (fun y6 => bif y6 then (bif (Zae aA (⟨#[]⟩ : BA)) then (bif ((aG : Int) == 0) then (bif (((aE.length : Int) : Int) == (aF.length : Int)) then (K true) else (K false)) else (K false)) else (K false)) else (bif (Zae aA (⟨#[]⟩ : BA)) then (bif ((aG : Int) == 0) then (K false) else (K false)) else (K false)))) else (K false)))))
noncomputable def YO.g {β : Type} (k : Nat) (aB : Int) (aA : BA) (aG : Int) (aE aF : LD) (K : Bool → Option β) : Option β := YO.m k aB aA aG aE aF K (fun aC aD aH aI aW aZ bD bR bQ => Zo (YO.l0 k aC aD aH aI aW aZ bD bR bQ K) k)
noncomputable def YO.t (k : Nat) (aB : Int) (aA : BA) (aG : Int) (aE aF : LD) : Option (Bool) := YO.g k aB aA aG aE aF (fun z0 => some z0)
noncomputable def YO.f {β : Type} (k : Nat) (aB : Int) (aA : BA) (aG : Int) (aE aF : LD) (K : Bool → Option β) : Option β := bd1 (YO.t k aB aA aG aE aF) K
noncomputable def YO.e (k : Nat) : Zk := ent [.agg [.n, .s, .n, .l, .l]] [1] [.b] [4] false (YO.t k)
noncomputable def YO.p (k : Nat) : Pro := ⟨Try.prog, [(70, Y9.e k), (107, YP.e k)], Zn [(6, kp [1, 4, 5, 6, 28, 29])] false [], k⟩
noncomputable def YO.d (k : Nat) (aB : Int) (aA : BA) (aG : Int) (aE aF : LD) : Ex → St → Option (Bool) := (YO.p k).fin Try.f121 [.agg [.int .i64 aB, .str aA, .int .i64 aG, .sl aE, .sl aF]] [1] [.b]
noncomputable def YO.s0 (aC aD aH : Bool) (aI aW : Int) (aZ : BA) (bD : Int) (bR bQ : LD) (v : Int) : St :=
 match v with
 | aJ => ZX 77 [(1, .bp 0 0), (4, .d true (.bool aC)), (5, .d true (.bool aD)), (6, .d true (.bool aH)), (28, .d true (.int .i64 aI)), (29, .d true (.int .i64 aJ))] [.box none 62 [.d false (.int .i64 aW), .d false (.str aZ), .d false (.int .i64 bD), .d false (.sl bR), .d false (.sl bQ)]]
noncomputable def YO.r0 (k : Nat) (aB : Int) (aA : BA) (aG : Int) (aE aF : LD) (aC aD aH : Bool) (aI aW : Int) (aZ : BA) (bD : Int) (bR bQ : LD) (n : Nat) (v : Int) : Option (Bool) := (YO.p k).lp (Zt Try.f121) 6 [1, 1, 0, 1, 0, 1, 0, 0, 1, 0] (YO.d k aB aA aG aE aF) n (YO.s0 aC aD aH aI aW aZ bD bR bQ v)
theorem YO.l0_eq (k : Nat) (aB : Int) (aA : BA) (aG : Int) (aE aF : LD) (aC aD aH : Bool) (aI aW : Int) (aZ : BA) (bD : Int) (bR bQ : LD) : ∀ n v, YO.r0 k aB aA aG aE aF aC aD aH aI aW aZ bD bR bQ n v = Zo (YO.l0 k aC aD aH aI aW aZ bD bR bQ (fun z0 => some z0)) n v :=
 Zm (YO.s0 aC aD aH aI aW aZ bD bR bQ) _ fun L0 v => by kernel_rfl
theorem YO.ok (k : Nat) : Za Try.prog 121 (YO.e k) := Zh (YO.p k) mix tyok Try.func121 ⟨Y9.ok k, YP.ok k⟩ (by kernel_rfl) (fun aB aA aG aE aF => Eq.trans (b := YO.m k aB aA aG aE aF (fun z0 => some z0) (fun aC aD aH aI aW aZ bD bR bQ => YO.r0 k aB aA aG aE aF aC aD aH aI aW aZ bD bR bQ k)) (by kernel_rfl) (congrArg (YO.m k aB aA aG aE aF (fun z0 => some z0)) (funext fun aC => funext fun aD => funext fun aH => funext fun aI => funext fun aW => funext fun aZ => funext fun bD => funext fun bR => funext fun bQ => funext fun v => YO.l0_eq k aB aA aG aE aF aC aD aH aI aW aZ bD bR bQ k v) :))
noncomputable def Yp.l0 {β : Type} (k : Nat) (r_impl_measured : Int → BA → Int → LD → LD → Int → (Int → Option β) → Option β) (aC : Int) (aH : LD) (aI : Int) (K : Int → Option β) (L0 : (Int × Int) → Option β) (v : Int × Int) : Option β :=
 match v with
 | (aD, aJ) => bif (decide ((aJ : Int) < aI)) then (atR aH aJ [.n, .s, .n, .l, .l] fun x28 x31 x34 x37 x40 => (r_impl_measured x28 x31 x34 x37 x40 (IntKind.wrap .i64 (aC - 1)) (fun y41 => bif (decide (((IntKind.wrap .i64 (aD + y41)) : Int) > 300)) then (K 301) else (L0 (IntKind.wrap .i64 (aD + y41), IntKind.wrap .i64 (aJ + 1)))))) else (K aD)
noncomputable def Yp.m {β : Type} (k : Nat) (r_impl_measured : Int → BA → Int → LD → LD → Int → (Int → Option β) → Option β) (aB : Int) (aA : BA) (aG : Int) (aE aF : LD) (a1 : Int) (K : Int → Option β) (F : (Int → LD → Int → (Int × Int) → Option β)) : Option β :=
 bif ((a1 : Int) == 0) then (K 301) else (YO.f k aB aA aG aE aF (fun y7 => bif (!y7) then (K 301) else (F a1 aF (aF.length : Int) (1, 0))))
noncomputable def Yp.body {β : Type} (k : Nat) (r_impl_measured : Int → BA → Int → LD → LD → Int → (Int → Option β) → Option β) (aB : Int) (aA : BA) (aG : Int) (aE aF : LD) (a1 : Int) (K : Int → Option β) : Option β :=
 bif ((a1 : Int) == 0) then (K 301) else (YO.f k aB aA aG aE aF (fun y7 => bif (!y7) then (K 301) else (Zo (Yp.l0 k r_impl_measured a1 aF (aF.length : Int) K) k (1, 0))))
noncomputable def Yp.w {β : Type} (r : Int → BA → Int → LD → LD → Int → Option (Int)) (aB : Int) (aA : BA) (aG : Int) (aE aF : LD) (a1 : Int) (K : Int → Option β) : Option β := bd1 (r aB aA aG aE aF a1) K
noncomputable def Yp.all : Nat → (Int → BA → Int → LD → LD → Int → Option (Int))
 | 0 => (fun _ _ _ _ _ _ => none)
 | k + 1 => (fun r => (fun aB aA aG aE aF a1 => Yp.body k (Yp.w r) aB aA aG aE aF a1 (fun z0 => some z0))) (Yp.all k)
noncomputable def Yp.t (k : Nat) (aB : Int) (aA : BA) (aG : Int) (aE aF : LD) (a1 : Int) : Option (Int) := (Yp.all k) aB aA aG aE aF a1
noncomputable def Yp.f {β : Type} (k : Nat) (aB : Int) (aA : BA) (aG : Int) (aE aF : LD) (a1 : Int) (K : Int → Option β) : Option β := Yp.w (Yp.t k) aB aA aG aE aF a1 K
noncomputable def Yp.g {β : Type} (k : Nat) (aB : Int) (aA : BA) (aG : Int) (aE aF : LD) (a1 : Int) (K : Int → Option β) : Option β := Yp.body k (Yp.f k) aB aA aG aE aF a1 K
theorem Yp.t_succ (k : Nat) (aB : Int) (aA : BA) (aG : Int) (aE aF : LD) (a1 : Int) : Yp.t (k + 1) aB aA aG aE aF a1 = Yp.g k aB aA aG aE aF a1 (fun z0 => some z0) := rfl
noncomputable def Yp.e (k : Nat) : Zk := ent [.agg [.n, .s, .n, .l, .l], .d .n] [1] [.n] [3] false (Yp.t k)
noncomputable def Yp.p (k : Nat) : Pro := ⟨Try.prog, [(121, YO.e k), (116, Yp.e k)], Zn [(5, kp [1, 5, 16, 17, 18])] false [], k⟩
noncomputable def Yp.d (k : Nat) (aB : Int) (aA : BA) (aG : Int) (aE aF : LD) (a1 : Int) : Ex → St → Option (Int) := (Yp.p k).fin Try.f116 [.agg [.int .i64 aB, .str aA, .int .i64 aG, .sl aE, .sl aF], .d (.int .i64 a1)] [1] [.n]
noncomputable def Yp.s0 (aC : Int) (aH : LD) (aI : Int) (v : Int × Int) : St :=
 match v with
 | (aD, aJ) => ZX 32 [(1, .d false (.int .i64 aC)), (5, .d true (.int .i64 aD)), (16, .d false (.sl aH)), (17, .d true (.int .i64 aI)), (18, .d true (.int .i64 aJ))] []
noncomputable def Yp.r0 (k : Nat) (aB : Int) (aA : BA) (aG : Int) (aE aF : LD) (a1 aC : Int) (aH : LD) (aI : Int) (n : Nat) (v : Int × Int) : Option (Int) := (Yp.p k).lp (Zt Try.f116) 5 [1, 1, 1, 0, 1, 0] (Yp.d k aB aA aG aE aF a1) n (Yp.s0 aC aH aI v)
theorem Yp.l0_eq (k : Nat) (aB : Int) (aA : BA) (aG : Int) (aE aF : LD) (a1 aC : Int) (aH : LD) (aI : Int) : ∀ n v, Yp.r0 k aB aA aG aE aF a1 aC aH aI n v = Zo (Yp.l0 k (Yp.f k) aC aH aI (fun z0 => some z0)) n v :=
 Zm (Yp.s0 aC aH aI) _ fun L0 v => by obtain ⟨aD, aJ⟩ := v; kernel_rfl
theorem Yp.oks (k : Nat) : Za Try.prog 116 (Yp.e k) := by
 induction k with
 | zero => exact Z7 Try.func116 (by kernel_rfl) (fun _ _ _ _ _ _ => rfl)
 | succ k ih => exact Zh (Yp.p k) mix tyok Try.func116 ⟨YO.ok k, ih⟩ (by kernel_rfl) (fun aB aA aG aE aF a1 => Eq.trans (b := Yp.m k (Yp.f k) aB aA aG aE aF a1 (fun z0 => some z0) (fun aC aH aI => Yp.r0 k aB aA aG aE aF a1 aC aH aI k)) (by kernel_rfl) ((congrArg (Yp.m k (Yp.f k) aB aA aG aE aF a1 (fun z0 => some z0)) (funext fun aC => funext fun aH => funext fun aI => funext fun v => Yp.l0_eq k aB aA aG aE aF a1 aC aH aI k v)).trans (Yp.t_succ k aB aA aG aE aF a1).symm))
theorem Yp.ok (k : Nat) : Za Try.prog 116 (Yp.e k) := (Yp.oks k)
noncomputable def Yaj.g {β : Type} (k : Nat) (aB : Int) (aA : BA) (aG : Int) (aE aF : LD) (K : Bool → Option β) : Option β :=
 Yp.f k aB aA aG aE aF 6 (fun y42 => K (decide ((y42 : Int) ≤ 300)))
noncomputable def Yaj.t (k : Nat) (aB : Int) (aA : BA) (aG : Int) (aE aF : LD) : Option (Bool) := Yaj.g k aB aA aG aE aF (fun z0 => some z0)
noncomputable def Yaj.f {β : Type} (k : Nat) (aB : Int) (aA : BA) (aG : Int) (aE aF : LD) (K : Bool → Option β) : Option β := bd1 (Yaj.t k aB aA aG aE aF) K
noncomputable def Yaj.e (k : Nat) : Zk := ent [.agg [.n, .s, .n, .l, .l]] [1] [.b] [4] false (Yaj.t k)
noncomputable def Yaj.p (k : Nat) : Pro := ⟨Try.prog, [(116, Yp.e k)], Zn [] false [], k⟩
theorem Yaj.ok (k : Nat) : Za Try.prog 108 (Yaj.e k) := Zh (Yaj.p k) mix tyok Try.func108 (Yp.ok k) (by kernel_rfl) (fun aB aA aG aE aF => by show _ = _; kernel_rfl)
noncomputable def YaA.g {β : Type} (k : Nat) (aB : Int) (aA : BA) (aG aE aF : Int) (aV : Bool) (aO : LD) (aS : Int) (aK : BA) (aT : Int) (aL aP : LD) (aQ : Int) (aM : BA) (aU : Int) (aN aR : LD) (a1 a2 : Int) (a3 : Bool) (K : Bool → Option β) : Option β :=
 Yay.f k aB (fun y2 => bif y2 then (YZ.f k aA (fun y9 => bif y9 then (Y9.f k aG 1 a1 (fun y10 => bif y10 then (Y9.f k aE 1 a2 (fun y11 => bif y11 then (Y9.f k aF 1 aE (fun y12 => bif y12 then (YP.f k aO 4 (fun y19 => bif y19 then (bif a3 then (Yaj.f k aS aK aT aL aP (fun y43 => bif y43 then (Yaj.f k aQ aM aU aN aR (fun y44 => K y44)) else (K false))) else (bif (!aV) then (Yaj.f k aS aK aT aL aP (fun y45 => bif y45 then (Yaj.f k aQ aM aU aN aR (fun y46 => K y46)) else (K false))) else (bif (decide (((aO.length : Int) : Int) > 0)) then (Yaj.f k aS aK aT aL aP (fun y47 => bif y47 then (Yaj.f k aQ aM aU aN aR (fun y48 => K y48)) else (K false))) else (K false)))) else (K false))) else (K false))) else (K false))) else (K false))) else (K false))) else (K false))
noncomputable def YaA.t (k : Nat) (aB : Int) (aA : BA) (aG aE aF : Int) (aV : Bool) (aO : LD) (aS : Int) (aK : BA) (aT : Int) (aL aP : LD) (aQ : Int) (aM : BA) (aU : Int) (aN aR : LD) (a1 a2 : Int) (a3 : Bool) : Option (Bool) := YaA.g k aB aA aG aE aF aV aO aS aK aT aL aP aQ aM aU aN aR a1 a2 a3 (fun z0 => some z0)
noncomputable def YaA.f {β : Type} (k : Nat) (aB : Int) (aA : BA) (aG aE aF : Int) (aV : Bool) (aO : LD) (aS : Int) (aK : BA) (aT : Int) (aL aP : LD) (aQ : Int) (aM : BA) (aU : Int) (aN aR : LD) (a1 a2 : Int) (a3 : Bool) (K : Bool → Option β) : Option β := bd1 (YaA.t k aB aA aG aE aF aV aO aS aK aT aL aP aQ aM aU aN aR a1 a2 a3) K
noncomputable def YaA.e (k : Nat) : Zk := ent [.agg [.n, .s, .n, .n, .n, .b, .l, .n, .s, .n, .l, .l, .n, .s, .n, .l, .l], .d .n, .d .n, .d .b] [1] [.b] [4] false (YaA.t k)
noncomputable def YaA.p (k : Nat) : Pro := ⟨Try.prog, [(105, Yay.e k), (106, YZ.e k), (70, Y9.e k), (107, YP.e k), (108, Yaj.e k)], Zn [] false [], k⟩
theorem YaA.ok (k : Nat) : Za Try.prog 88 (YaA.e k) := Zh (YaA.p k) mix tyok Try.func88 ⟨Yay.ok k, YZ.ok k, Y9.ok k, YP.ok k, Yaj.ok k⟩ (by kernel_rfl) (fun aB aA aG aE aF aV aO aS aK aT aL aP aQ aM aU aN aR a1 a2 a3 => by show _ = _; kernel_rfl)
noncomputable def Yai.g {β : Type} (k : Nat) (a0 : Int) (K : Bool → Option β) : Option β :=
 K ((a0 : Int) != a0)
noncomputable def Yai.t (k : Nat) (a0 : Int) : Option (Bool) := Yai.g k a0 (fun z0 => some z0)
noncomputable def Yai.f {β : Type} (k : Nat) (a0 : Int) (K : Bool → Option β) : Option β := bd1 (Yai.t k a0) K
noncomputable def Yai.e (k : Nat) : Zk := ent [.d .n] [1] [.b] [4] false (Yai.t k)
noncomputable def Yai.p (k : Nat) : Pro := ⟨Try.prog, [], Zn [] false [], k⟩
theorem Yai.ok (k : Nat) : Za Try.prog 61 (Yai.e k) := Zh (Yai.p k) mix tyok Try.func61 trivial (by kernel_rfl) (fun a0 => by show _ = _; kernel_rfl)
noncomputable def Yac.g {β : Type} (k : Nat) (a0 a1 : Int) (K : Int → Option β) : Option β :=
 Yai.f k a0 (fun y1 => Yai.f k a1 (fun y2 => bif y1 then (bif y2 then (K 0) else (K (-1))) else (bif y2 then (K 1) else (bif (decide ((a0 : Int) < a1)) then (K (-1)) else (bif (decide ((a0 : Int) > a1)) then (K 1) else (K 0))))))
noncomputable def Yac.t (k : Nat) (a0 a1 : Int) : Option (Int) := Yac.g k a0 a1 (fun z0 => some z0)
noncomputable def Yac.f {β : Type} (k : Nat) (a0 a1 : Int) (K : Int → Option β) : Option β := bd1 (Yac.t k a0 a1) K
noncomputable def Yac.e (k : Nat) : Zk := ent [.d .n, .d .n] [1] [.n] [3] false (Yac.t k)
noncomputable def Yac.p (k : Nat) : Pro := ⟨Try.prog, [(61, Yai.e k)], Zn [] false [], k⟩
theorem Yac.ok (k : Nat) : Za Try.prog 33 (Yac.e k) := Zh (Yac.p k) mix tyok Try.func33 (Yai.ok k) (by kernel_rfl) (fun a0 a1 => by show _ = _; kernel_rfl)
noncomputable def Yaf.t (k : Nat) (a0 a1 : BA) : Option Int := some (cmpS a0 a1)
noncomputable def Yaf.f {β : Type} (k : Nat) (a0 a1 : BA) (K : Int → Option β) : Option β :=
 match Yaf.t k a0 a1 with
 | some z0 => K z0
 | none => none
noncomputable def Yaf.run (k : Nat) : {β : Type} → List A → (LC → List Out → Option β) → Option β := fun {β} l K =>
 match l with
 | [.d (.str a0), .d (.str a1)] => Yaf.f k a0 a1 (fun z0 => K [[.d (.int .i64 z0)]] [])
 | _ => none
noncomputable def Yaf.e (k : Nat) : Zk := { modes := [(.imm, 0), (.imm, 0)], rts := [3], al := false, run := Yaf.run k }
set_option maxHeartbeats 1000000 in
set_option maxRecDepth 100000 in
theorem Yaf.calls (a b : BA) (w : World) : Calls Try.prog 117 #[.string a, .string b] w fun e w' => e = .returned (.int .i64 (cmpS a b)) ∧ w' = w := by
 go_enter Try.func117, Try.ntmps117
 go_wp2
 rw [run_callFunc_extern Try.func122 (by kernel_rfl) (by kernel_rfl) (by kernel_rfl) (e := Extern.BytealgCompare.compare) (by kernel_rfl), Go.Lib.run_compareString]
 simp only [Result.andThen]
 rw [Oper.upon_value]
 go_wp2
 go_ret
 exact ⟨rfl, rfl⟩
theorem Yaf.ok (k : Nat) : Za Try.prog 117 (Yaf.e k) := strs_ok (t := 3) (g := cmpS) (run := fun {β} => Yaf.run k) (enter_of Try.func117 (by kernel_rfl)) (by kernel_rfl) (by kernel_rfl) Yaf.calls (fun β aa K r h => by
 unfold Yaf.run at h
 split at h
 ·exact ⟨_, _, rfl, h⟩
 ·cases h)
noncomputable def Yab.g {β : Type} (k : Nat) (a0 a1 : BA) (K : Int → Option β) : Option β :=
 Yaf.f k a0 a1 (fun y1 => K y1)
noncomputable def Yab.t (k : Nat) (a0 a1 : BA) : Option (Int) := Yab.g k a0 a1 (fun z0 => some z0)
noncomputable def Yab.f {β : Type} (k : Nat) (a0 a1 : BA) (K : Int → Option β) : Option β := bd1 (Yab.t k a0 a1) K
noncomputable def Yab.e (k : Nat) : Zk := ent [.d .s, .d .s] [1] [.n] [3] false (Yab.t k)
noncomputable def Yab.p (k : Nat) : Pro := ⟨Try.prog, [(117, Yaf.e k)], Zn [] false [], k⟩
theorem Yab.ok (k : Nat) : Za Try.prog 109 (Yab.e k) := Zh (Yab.p k) mix tyok Try.func109 (Yaf.ok k) (by kernel_rfl) (fun a0 a1 => by show _ = _; kernel_rfl)
noncomputable def Yag.g {β : Type} (k : Nat) (aB : Int) (aA : BA) (aG aE aF : Int) (aV : Bool) (aO : LD) (aS : Int) (aK : BA) (aT : Int) (aL aP : LD) (aQ : Int) (aM : BA) (aU : Int) (aN aR : LD) (aX : Int) (aY : BA) (bA bB bC : Int) (bE : Bool) (bF : LD) (bG : Int) (bH : BA) (bI : Int) (bJ bK : LD) (bL : Int) (bM : BA) (bN : Int) (bO bP : LD) (K : Int → Option β) : Option β :=
 Yac.f k aB aX (fun y3 => bif ((y3 : Int) != 0) then (K y3) else (Yab.f k aA aY (fun y4 => K y4)))
noncomputable def Yag.t (k : Nat) (aB : Int) (aA : BA) (aG aE aF : Int) (aV : Bool) (aO : LD) (aS : Int) (aK : BA) (aT : Int) (aL aP : LD) (aQ : Int) (aM : BA) (aU : Int) (aN aR : LD) (aX : Int) (aY : BA) (bA bB bC : Int) (bE : Bool) (bF : LD) (bG : Int) (bH : BA) (bI : Int) (bJ bK : LD) (bL : Int) (bM : BA) (bN : Int) (bO bP : LD) : Option (Int) := Yag.g k aB aA aG aE aF aV aO aS aK aT aL aP aQ aM aU aN aR aX aY bA bB bC bE bF bG bH bI bJ bK bL bM bN bO bP (fun z0 => some z0)
noncomputable def Yag.f {β : Type} (k : Nat) (aB : Int) (aA : BA) (aG aE aF : Int) (aV : Bool) (aO : LD) (aS : Int) (aK : BA) (aT : Int) (aL aP : LD) (aQ : Int) (aM : BA) (aU : Int) (aN aR : LD) (aX : Int) (aY : BA) (bA bB bC : Int) (bE : Bool) (bF : LD) (bG : Int) (bH : BA) (bI : Int) (bJ bK : LD) (bL : Int) (bM : BA) (bN : Int) (bO bP : LD) (K : Int → Option β) : Option β := bd1 (Yag.t k aB aA aG aE aF aV aO aS aK aT aL aP aQ aM aU aN aR aX aY bA bB bC bE bF bG bH bI bJ bK bL bM bN bO bP) K
noncomputable def Yag.e (k : Nat) : Zk := ent [.agg [.n, .s, .n, .n, .n, .b, .l, .n, .s, .n, .l, .l, .n, .s, .n, .l, .l], .agg [.n, .s, .n, .n, .n, .b, .l, .n, .s, .n, .l, .l, .n, .s, .n, .l, .l]] [1] [.n] [3] false (Yag.t k)
noncomputable def Yag.p (k : Nat) : Pro := ⟨Try.prog, [(33, Yac.e k), (109, Yab.e k)], Zn [] false [], k⟩
theorem Yag.ok (k : Nat) : Za Try.prog 89 (Yag.e k) := Zh (Yag.p k) mix tyok Try.func89 ⟨Yac.ok k, Yab.ok k⟩ (by kernel_rfl) (fun aB aA aG aE aF aV aO aS aK aT aL aP aQ aM aU aN aR aX aY bA bB bC bE bF bG bH bI bJ bK bL bM bN bO bP => by show _ = _; kernel_rfl)
noncomputable def Yaq.g {β : Type} (k : Nat) (aB : Int) (aA : BA) (aG aE aF : Int) (aV : Bool) (aO : LD) (aS : Int) (aK : BA) (aT : Int) (aL aP : LD) (aQ : Int) (aM : BA) (aU : Int) (aN aR : LD) (f0_0 : Int) (f0_1 : BA) (f0_2 f0_3 f0_4 : Int) (f0_5 : Bool) (f0_6 : LD) (f0_7 : Int) (f0_8 : BA) (f0_9 : Int) (f0_10 f0_11 : LD) (f0_12 : Int) (f0_13 : BA) (f0_14 : Int) (f0_15 f0_16 : LD) (K : Bool → Option β) : Option β :=
 K ((aG : Int) == f0_2)
noncomputable def Yaq.t (k : Nat) (aB : Int) (aA : BA) (aG aE aF : Int) (aV : Bool) (aO : LD) (aS : Int) (aK : BA) (aT : Int) (aL aP : LD) (aQ : Int) (aM : BA) (aU : Int) (aN aR : LD) (f0_0 : Int) (f0_1 : BA) (f0_2 f0_3 f0_4 : Int) (f0_5 : Bool) (f0_6 : LD) (f0_7 : Int) (f0_8 : BA) (f0_9 : Int) (f0_10 f0_11 : LD) (f0_12 : Int) (f0_13 : BA) (f0_14 : Int) (f0_15 f0_16 : LD) : Option (Bool) := Yaq.g k aB aA aG aE aF aV aO aS aK aT aL aP aQ aM aU aN aR f0_0 f0_1 f0_2 f0_3 f0_4 f0_5 f0_6 f0_7 f0_8 f0_9 f0_10 f0_11 f0_12 f0_13 f0_14 f0_15 f0_16 (fun z0 => some z0)
noncomputable def Yaq.f {β : Type} (k : Nat) (aB : Int) (aA : BA) (aG aE aF : Int) (aV : Bool) (aO : LD) (aS : Int) (aK : BA) (aT : Int) (aL aP : LD) (aQ : Int) (aM : BA) (aU : Int) (aN aR : LD) (f0_0 : Int) (f0_1 : BA) (f0_2 f0_3 f0_4 : Int) (f0_5 : Bool) (f0_6 : LD) (f0_7 : Int) (f0_8 : BA) (f0_9 : Int) (f0_10 f0_11 : LD) (f0_12 : Int) (f0_13 : BA) (f0_14 : Int) (f0_15 f0_16 : LD) (K : Bool → Option β) : Option β := bd1 (Yaq.t k aB aA aG aE aF aV aO aS aK aT aL aP aQ aM aU aN aR f0_0 f0_1 f0_2 f0_3 f0_4 f0_5 f0_6 f0_7 f0_8 f0_9 f0_10 f0_11 f0_12 f0_13 f0_14 f0_15 f0_16) K
noncomputable def Yaq.e (k : Nat) : Zk := ent [.agg [.n, .s, .n, .n, .n, .b, .l, .n, .s, .n, .l, .l, .n, .s, .n, .l, .l], .ip [.n, .s, .n, .n, .n, .b, .l, .n, .s, .n, .l, .l, .n, .s, .n, .l, .l]] [1] [.b] [4] false (Yaq.t k)
noncomputable def Yaq.p (k : Nat) : Pro := ⟨Try.prog, [], Zn [] false [], k⟩
theorem Yaq.ok (k : Nat) : Za Try.prog 91 (Yaq.e k) := Zh (Yaq.p k) mix tyok Try.func91 trivial (by kernel_rfl) (fun aB aA aG aE aF aV aO aS aK aT aL aP aQ aM aU aN aR f0_0 f0_1 f0_2 f0_3 f0_4 f0_5 f0_6 f0_7 f0_8 f0_9 f0_10 f0_11 f0_12 f0_13 f0_14 f0_15 f0_16 => by show _ = _; kernel_rfl)
noncomputable def Yd.l0 {β : Type} (k : Nat) (aC : LD) (aD : Int) (aH : BA) (aI aJ aW : Int) (aZ : Bool) (bD : LD) (bR : Int) (bQ : BA) (bU : Int) (bT bV : LD) (bW : Int) (bZ : BA) (cA : Int) (cC cE : LD) (cF : Int) (K L0 : Int → Option β) (v : Int) : Option β :=
 match v with
 | cG => bif (decide ((cG : Int) < cF)) then (atR aC cG [.n, .s, .n, .n, .n, .b, .l, .n, .s, .n, .l, .l, .n, .s, .n, .l, .l] fun x57 x60 x63 x66 x69 x72 x75 x78 x81 x84 x87 x90 x93 x96 x99 x102 x105 => (Yaq.f k x57 x60 x63 x66 x69 x72 x75 x78 x81 x84 x87 x90 x93 x96 x99 x102 x105 aD aH aI aJ aW aZ bD bR bQ bU bT bV bW bZ cA cC cE (fun y106 => bif y106 then (K cG) else (L0 (IntKind.wrap .i64 (cG + 1)))))) else (K (-1))
noncomputable def Yd.m {β : Type} (k : Nat) (a0 : LD) (a1_0_0 : Int) (a1_0_1 : BA) (a1_0_2 a1_0_3 a1_0_4 : Int) (a1_0_5 : Bool) (a1_0_6 : LD) (a1_0_7 : Int) (a1_0_8 : BA) (a1_0_9 : Int) (a1_0_10 a1_0_11 : LD) (a1_0_12 : Int) (a1_0_13 : BA) (a1_0_14 : Int) (a1_0_15 a1_0_16 : LD) (K : Int → Option β) (F : (LD → Int → BA → Int → Int → Int → Bool → LD → Int → BA → Int → LD → LD → Int → BA → Int → LD → LD → Int → Int → Option β)) : Option β :=
 F a0 a1_0_0 a1_0_1 a1_0_2 a1_0_3 a1_0_4 a1_0_5 a1_0_6 a1_0_7 a1_0_8 a1_0_9 a1_0_10 a1_0_11 a1_0_12 a1_0_13 a1_0_14 a1_0_15 a1_0_16 (a0.length : Int) (0)
noncomputable def Yd.g {β : Type} (k : Nat) (a0 : LD) (a1_0_0 : Int) (a1_0_1 : BA) (a1_0_2 a1_0_3 a1_0_4 : Int) (a1_0_5 : Bool) (a1_0_6 : LD) (a1_0_7 : Int) (a1_0_8 : BA) (a1_0_9 : Int) (a1_0_10 a1_0_11 : LD) (a1_0_12 : Int) (a1_0_13 : BA) (a1_0_14 : Int) (a1_0_15 a1_0_16 : LD) (K : Int → Option β) : Option β :=
 Zo (Yd.l0 k a0 a1_0_0 a1_0_1 a1_0_2 a1_0_3 a1_0_4 a1_0_5 a1_0_6 a1_0_7 a1_0_8 a1_0_9 a1_0_10 a1_0_11 a1_0_12 a1_0_13 a1_0_14 a1_0_15 a1_0_16 (a0.length : Int) K) k (0)
noncomputable def Yd.t (k : Nat) (a0 : LD) (a1_0_0 : Int) (a1_0_1 : BA) (a1_0_2 a1_0_3 a1_0_4 : Int) (a1_0_5 : Bool) (a1_0_6 : LD) (a1_0_7 : Int) (a1_0_8 : BA) (a1_0_9 : Int) (a1_0_10 a1_0_11 : LD) (a1_0_12 : Int) (a1_0_13 : BA) (a1_0_14 : Int) (a1_0_15 a1_0_16 : LD) : Option (Int) := Yd.g k a0 a1_0_0 a1_0_1 a1_0_2 a1_0_3 a1_0_4 a1_0_5 a1_0_6 a1_0_7 a1_0_8 a1_0_9 a1_0_10 a1_0_11 a1_0_12 a1_0_13 a1_0_14 a1_0_15 a1_0_16 (fun z0 => some z0)
noncomputable def Yd.f {β : Type} (k : Nat) (a0 : LD) (a1_0_0 : Int) (a1_0_1 : BA) (a1_0_2 a1_0_3 a1_0_4 : Int) (a1_0_5 : Bool) (a1_0_6 : LD) (a1_0_7 : Int) (a1_0_8 : BA) (a1_0_9 : Int) (a1_0_10 a1_0_11 : LD) (a1_0_12 : Int) (a1_0_13 : BA) (a1_0_14 : Int) (a1_0_15 a1_0_16 : LD) (K : Int → Option β) : Option β := bd1 (Yd.t k a0 a1_0_0 a1_0_1 a1_0_2 a1_0_3 a1_0_4 a1_0_5 a1_0_6 a1_0_7 a1_0_8 a1_0_9 a1_0_10 a1_0_11 a1_0_12 a1_0_13 a1_0_14 a1_0_15 a1_0_16) K
noncomputable def Yd.e (k : Nat) : Zk := ent [.d .l, .fn 91 [[.n, .s, .n, .n, .n, .b, .l, .n, .s, .n, .l, .l, .n, .s, .n, .l, .l]]] [1] [.n] [3] false (Yd.t k)
noncomputable def Yd.p (k : Nat) : Pro := ⟨Try.prog, [(91, Yaq.e k)], Zn [(2, kp [0, 1, 7, 8])] false [], k⟩
noncomputable def Yd.d (k : Nat) (a0 : LD) (a1_0_0 : Int) (a1_0_1 : BA) (a1_0_2 a1_0_3 a1_0_4 : Int) (a1_0_5 : Bool) (a1_0_6 : LD) (a1_0_7 : Int) (a1_0_8 : BA) (a1_0_9 : Int) (a1_0_10 a1_0_11 : LD) (a1_0_12 : Int) (a1_0_13 : BA) (a1_0_14 : Int) (a1_0_15 a1_0_16 : LD) : Ex → St → Option (Int) := (Yd.p k).fin Try.f95 [.d (.sl a0), .d (.fn 91 [[.int .i64 a1_0_0, .str a1_0_1, .int .i64 a1_0_2, .int .i64 a1_0_3, .int .i64 a1_0_4, .bool a1_0_5, .sl a1_0_6, .int .i64 a1_0_7, .str a1_0_8, .int .i64 a1_0_9, .sl a1_0_10, .sl a1_0_11, .int .i64 a1_0_12, .str a1_0_13, .int .i64 a1_0_14, .sl a1_0_15, .sl a1_0_16]])] [1] [.n]
noncomputable def Yd.s0 (aC : LD) (aD : Int) (aH : BA) (aI aJ aW : Int) (aZ : Bool) (bD : LD) (bR : Int) (bQ : BA) (bU : Int) (bT bV : LD) (bW : Int) (bZ : BA) (cA : Int) (cC cE : LD) (cF v : Int) : St :=
 match v with
 | cG => ZX 19 [(0, .d false (.sl aC)), (1, .d false (.fn 91 [[.int .i64 aD, .str aH, .int .i64 aI, .int .i64 aJ, .int .i64 aW, .bool aZ, .sl bD, .int .i64 bR, .str bQ, .int .i64 bU, .sl bT, .sl bV, .int .i64 bW, .str bZ, .int .i64 cA, .sl cC, .sl cE]])), (7, .d true (.int .i64 cF)), (8, .d true (.int .i64 cG))] []
noncomputable def Yd.r0 (k : Nat) (a0 : LD) (a1_0_0 : Int) (a1_0_1 : BA) (a1_0_2 a1_0_3 a1_0_4 : Int) (a1_0_5 : Bool) (a1_0_6 : LD) (a1_0_7 : Int) (a1_0_8 : BA) (a1_0_9 : Int) (a1_0_10 a1_0_11 : LD) (a1_0_12 : Int) (a1_0_13 : BA) (a1_0_14 : Int) (a1_0_15 a1_0_16 aC : LD) (aD : Int) (aH : BA) (aI aJ aW : Int) (aZ : Bool) (bD : LD) (bR : Int) (bQ : BA) (bU : Int) (bT bV : LD) (bW : Int) (bZ : BA) (cA : Int) (cC cE : LD) (cF : Int) (n : Nat) (v : Int) : Option (Int) := (Yd.p k).lp (Zt Try.f95) 2 [1, 0, 1, 0] (Yd.d k a0 a1_0_0 a1_0_1 a1_0_2 a1_0_3 a1_0_4 a1_0_5 a1_0_6 a1_0_7 a1_0_8 a1_0_9 a1_0_10 a1_0_11 a1_0_12 a1_0_13 a1_0_14 a1_0_15 a1_0_16) n (Yd.s0 aC aD aH aI aJ aW aZ bD bR bQ bU bT bV bW bZ cA cC cE cF v)
theorem Yd.l0_eq (k : Nat) (a0 : LD) (a1_0_0 : Int) (a1_0_1 : BA) (a1_0_2 a1_0_3 a1_0_4 : Int) (a1_0_5 : Bool) (a1_0_6 : LD) (a1_0_7 : Int) (a1_0_8 : BA) (a1_0_9 : Int) (a1_0_10 a1_0_11 : LD) (a1_0_12 : Int) (a1_0_13 : BA) (a1_0_14 : Int) (a1_0_15 a1_0_16 aC : LD) (aD : Int) (aH : BA) (aI aJ aW : Int) (aZ : Bool) (bD : LD) (bR : Int) (bQ : BA) (bU : Int) (bT bV : LD) (bW : Int) (bZ : BA) (cA : Int) (cC cE : LD) (cF : Int) : ∀ n v, Yd.r0 k a0 a1_0_0 a1_0_1 a1_0_2 a1_0_3 a1_0_4 a1_0_5 a1_0_6 a1_0_7 a1_0_8 a1_0_9 a1_0_10 a1_0_11 a1_0_12 a1_0_13 a1_0_14 a1_0_15 a1_0_16 aC aD aH aI aJ aW aZ bD bR bQ bU bT bV bW bZ cA cC cE cF n v = Zo (Yd.l0 k aC aD aH aI aJ aW aZ bD bR bQ bU bT bV bW bZ cA cC cE cF (fun z0 => some z0)) n v :=
 Zm (Yd.s0 aC aD aH aI aJ aW aZ bD bR bQ bU bT bV bW bZ cA cC cE cF) _ fun L0 v => by kernel_rfl
theorem Yd.ok (k : Nat) : Za Try.prog 95 (Yd.e k) := Zh (Yd.p k) mix tyok Try.func95 (Yaq.ok k) (by kernel_rfl) (fun a0 a1_0_0 a1_0_1 a1_0_2 a1_0_3 a1_0_4 a1_0_5 a1_0_6 a1_0_7 a1_0_8 a1_0_9 a1_0_10 a1_0_11 a1_0_12 a1_0_13 a1_0_14 a1_0_15 a1_0_16 => Eq.trans (b := Yd.m k a0 a1_0_0 a1_0_1 a1_0_2 a1_0_3 a1_0_4 a1_0_5 a1_0_6 a1_0_7 a1_0_8 a1_0_9 a1_0_10 a1_0_11 a1_0_12 a1_0_13 a1_0_14 a1_0_15 a1_0_16 (fun z0 => some z0) (fun aC aD aH aI aJ aW aZ bD bR bQ bU bT bV bW bZ cA cC cE cF => Yd.r0 k a0 a1_0_0 a1_0_1 a1_0_2 a1_0_3 a1_0_4 a1_0_5 a1_0_6 a1_0_7 a1_0_8 a1_0_9 a1_0_10 a1_0_11 a1_0_12 a1_0_13 a1_0_14 a1_0_15 a1_0_16 aC aD aH aI aJ aW aZ bD bR bQ bU bT bV bW bZ cA cC cE cF k)) (by kernel_rfl) (congrArg (Yd.m k a0 a1_0_0 a1_0_1 a1_0_2 a1_0_3 a1_0_4 a1_0_5 a1_0_6 a1_0_7 a1_0_8 a1_0_9 a1_0_10 a1_0_11 a1_0_12 a1_0_13 a1_0_14 a1_0_15 a1_0_16 (fun z0 => some z0)) (funext fun aC => funext fun aD => funext fun aH => funext fun aI => funext fun aJ => funext fun aW => funext fun aZ => funext fun bD => funext fun bR => funext fun bQ => funext fun bU => funext fun bT => funext fun bV => funext fun bW => funext fun bZ => funext fun cA => funext fun cC => funext fun cE => funext fun cF => funext fun v => Yd.l0_eq k a0 a1_0_0 a1_0_1 a1_0_2 a1_0_3 a1_0_4 a1_0_5 a1_0_6 a1_0_7 a1_0_8 a1_0_9 a1_0_10 a1_0_11 a1_0_12 a1_0_13 a1_0_14 a1_0_15 a1_0_16 aC aD aH aI aJ aW aZ bD bR bQ bU bT bV bW bZ cA cC cE cF k v) :))
noncomputable def Yi.g {β : Type} (k : Nat) (a0 : LD) (a1_0_0 : Int) (a1_0_1 : BA) (a1_0_2 a1_0_3 a1_0_4 : Int) (a1_0_5 : Bool) (a1_0_6 : LD) (a1_0_7 : Int) (a1_0_8 : BA) (a1_0_9 : Int) (a1_0_10 a1_0_11 : LD) (a1_0_12 : Int) (a1_0_13 : BA) (a1_0_14 : Int) (a1_0_15 a1_0_16 : LD) (K : Bool → Option β) : Option β :=
 Yd.f k a0 a1_0_0 a1_0_1 a1_0_2 a1_0_3 a1_0_4 a1_0_5 a1_0_6 a1_0_7 a1_0_8 a1_0_9 a1_0_10 a1_0_11 a1_0_12 a1_0_13 a1_0_14 a1_0_15 a1_0_16 (fun y107 => K (decide ((y107 : Int) ≥ 0)))
noncomputable def Yi.t (k : Nat) (a0 : LD) (a1_0_0 : Int) (a1_0_1 : BA) (a1_0_2 a1_0_3 a1_0_4 : Int) (a1_0_5 : Bool) (a1_0_6 : LD) (a1_0_7 : Int) (a1_0_8 : BA) (a1_0_9 : Int) (a1_0_10 a1_0_11 : LD) (a1_0_12 : Int) (a1_0_13 : BA) (a1_0_14 : Int) (a1_0_15 a1_0_16 : LD) : Option (Bool) := Yi.g k a0 a1_0_0 a1_0_1 a1_0_2 a1_0_3 a1_0_4 a1_0_5 a1_0_6 a1_0_7 a1_0_8 a1_0_9 a1_0_10 a1_0_11 a1_0_12 a1_0_13 a1_0_14 a1_0_15 a1_0_16 (fun z0 => some z0)
noncomputable def Yi.f {β : Type} (k : Nat) (a0 : LD) (a1_0_0 : Int) (a1_0_1 : BA) (a1_0_2 a1_0_3 a1_0_4 : Int) (a1_0_5 : Bool) (a1_0_6 : LD) (a1_0_7 : Int) (a1_0_8 : BA) (a1_0_9 : Int) (a1_0_10 a1_0_11 : LD) (a1_0_12 : Int) (a1_0_13 : BA) (a1_0_14 : Int) (a1_0_15 a1_0_16 : LD) (K : Bool → Option β) : Option β := bd1 (Yi.t k a0 a1_0_0 a1_0_1 a1_0_2 a1_0_3 a1_0_4 a1_0_5 a1_0_6 a1_0_7 a1_0_8 a1_0_9 a1_0_10 a1_0_11 a1_0_12 a1_0_13 a1_0_14 a1_0_15 a1_0_16) K
noncomputable def Yi.e (k : Nat) : Zk := ent [.d .l, .fn 91 [[.n, .s, .n, .n, .n, .b, .l, .n, .s, .n, .l, .l, .n, .s, .n, .l, .l]]] [1] [.b] [4] false (Yi.t k)
noncomputable def Yi.p (k : Nat) : Pro := ⟨Try.prog, [(95, Yd.e k)], Zn [] false [], k⟩
theorem Yi.ok (k : Nat) : Za Try.prog 90 (Yi.e k) := Zh (Yi.p k) mix tyok Try.func90 (Yd.ok k) (by kernel_rfl) (fun a0 a1_0_0 a1_0_1 a1_0_2 a1_0_3 a1_0_4 a1_0_5 a1_0_6 a1_0_7 a1_0_8 a1_0_9 a1_0_10 a1_0_11 a1_0_12 a1_0_13 a1_0_14 a1_0_15 a1_0_16 => by show _ = _; kernel_rfl)
noncomputable def Y4.l0 {β : Type} (k : Nat) (aC : LD) (aD aH : Int) (aI : LD) (aJ : Int) (K : Bool → Option β) (L0 : Int → Option β) (v : Int) : Option β :=
 match v with
 | aW => bif (decide ((aW : Int) < aJ)) then (atR aI aW [.n, .s, .n, .n, .n, .b, .l, .n, .s, .n, .l, .l, .n, .s, .n, .l, .l] fun x113 x116 x119 x122 x125 x128 x131 x134 x137 x140 x143 x146 x149 x152 x155 x158 x161 => (YaA.f k x113 x116 x119 x122 x125 x128 x131 x134 x137 x140 x143 x146 x149 x152 x155 x158 x161 aD aH false (fun y162 => bif (!y162) then (K false) else (let J0 := (0 ≤ (0 : Int) ∧ (0 : Int) ≤ (aW : Int) ∧ (aW : Int) ≤ (aC.length : Int) ∧ rowsOk 17 aC); let J1 := ((aC.drop (Int.toNat (0 : Int))).take (Int.toNat (aW : Int) - Int.toNat (0 : Int))); bif (decide ((aW : Int) > 0)) then (atR aC (IntKind.wrap .i64 (aW - 1)) [.n, .s, .n, .n, .n, .b, .l, .n, .s, .n, .l, .l, .n, .s, .n, .l, .l] fun x166 x169 x172 x175 x178 x181 x184 x187 x190 x193 x196 x199 x202 x205 x208 x211 x214 => (Yag.f k x166 x169 x172 x175 x178 x181 x184 x187 x190 x193 x196 x199 x202 x205 x208 x211 x214 x113 x116 x119 x122 x125 x128 x131 x134 x137 x140 x143 x146 x149 x152 x155 x158 x161 (fun y215 => bif (decide ((y215 : Int) ≥ 0)) then (K false) else (Zc J0 (Yi.f k J1 x113 x116 x119 x122 x125 x128 x131 x134 x137 x140 x143 x146 x149 x152 x155 x158 x161 (fun y216 => bif y216 then (K false) else (L0 (IntKind.wrap .i64 (aW + 1))))))))) else (Zc J0 (Yi.f k J1 x113 x116 x119 x122 x125 x128 x131 x134 x137 x140 x143 x146 x149 x152 x155 x158 x161 (fun y217 => bif y217 then (K false) else (L0 (IntKind.wrap .i64 (aW + 1)))))))))) else (K (decide (((aC.length : Int) : Int) ≤ 60)))
noncomputable def Y4.m {β : Type} (k : Nat) (a0 : LD) (a1 a2 : Int) (K : Bool → Option β) (F : (LD → Int → Int → LD → Int → Int → Option β)) : Option β :=
 F a0 a1 a2 a0 (a0.length : Int) (0)
noncomputable def Y4.g {β : Type} (k : Nat) (a0 : LD) (a1 a2 : Int) (K : Bool → Option β) : Option β :=
 Zo (Y4.l0 k a0 a1 a2 a0 (a0.length : Int) K) k (0)
noncomputable def Y4.t (k : Nat) (a0 : LD) (a1 a2 : Int) : Option (Bool) := Y4.g k a0 a1 a2 (fun z0 => some z0)
noncomputable def Y4.f {β : Type} (k : Nat) (a0 : LD) (a1 a2 : Int) (K : Bool → Option β) : Option β := bd1 (Y4.t k a0 a1 a2) K
noncomputable def Y4.e (k : Nat) : Zk := ent [.d .l, .d .n, .d .n] [1] [.b] [4] false (Y4.t k)
noncomputable def Y4.p (k : Nat) : Pro := ⟨Try.prog, [(88, YaA.e k), (89, Yag.e k), (90, Yi.e k)], Zn [(2, kp [0, 1, 2, 9, 10, 11])] false [], k⟩
noncomputable def Y4.d (k : Nat) (a0 : LD) (a1 a2 : Int) : Ex → St → Option (Bool) := (Y4.p k).fin Try.f71 [.d (.sl a0), .d (.int .i64 a1), .d (.int .i64 a2)] [1] [.b]
noncomputable def Y4.s0 (aC : LD) (aD aH : Int) (aI : LD) (aJ v : Int) : St :=
 match v with
 | aW => ZX 44 [(0, .d false (.sl aC)), (1, .d false (.int .i64 aD)), (2, .d false (.int .i64 aH)), (9, .d false (.sl aI)), (10, .d true (.int .i64 aJ)), (11, .d true (.int .i64 aW))] []
noncomputable def Y4.r0 (k : Nat) (a0 : LD) (a1 a2 : Int) (aC : LD) (aD aH : Int) (aI : LD) (aJ : Int) (n : Nat) (v : Int) : Option (Bool) := (Y4.p k).lp (Zt Try.f71) 2 [1, 0, 1, 0] (Y4.d k a0 a1 a2) n (Y4.s0 aC aD aH aI aJ v)
theorem Y4.l0_eq (k : Nat) (a0 : LD) (a1 a2 : Int) (aC : LD) (aD aH : Int) (aI : LD) (aJ : Int) : ∀ n v, Y4.r0 k a0 a1 a2 aC aD aH aI aJ n v = Zo (Y4.l0 k aC aD aH aI aJ (fun z0 => some z0)) n v :=
 Zm (Y4.s0 aC aD aH aI aJ) _ fun L0 v => by kernel_rfl
theorem Y4.ok (k : Nat) : Za Try.prog 71 (Y4.e k) := Zh (Y4.p k) mix tyok Try.func71 ⟨YaA.ok k, Yag.ok k, Yi.ok k⟩ (by kernel_rfl) (fun a0 a1 a2 => Eq.trans (b := Y4.m k a0 a1 a2 (fun z0 => some z0) (fun aC aD aH aI aJ => Y4.r0 k a0 a1 a2 aC aD aH aI aJ k)) (by kernel_rfl) (congrArg (Y4.m k a0 a1 a2 (fun z0 => some z0)) (funext fun aC => funext fun aD => funext fun aH => funext fun aI => funext fun aJ => funext fun v => Y4.l0_eq k a0 a1 a2 aC aD aH aI aJ k v) :))
noncomputable def Yah.g {β : Type} (k : Nat) (aB : Int) (aA : LD) (K : Bool → Option β) : Option β :=
 Y9.f k aB 0 1000000 (fun y1 => bif y1 then (Y4.f k aA 1000000 aB (fun y218 => K y218)) else (K false))
noncomputable def Yah.t (k : Nat) (aB : Int) (aA : LD) : Option (Bool) := Yah.g k aB aA (fun z0 => some z0)
noncomputable def Yah.f {β : Type} (k : Nat) (aB : Int) (aA : LD) (K : Bool → Option β) : Option β := bd1 (Yah.t k aB aA) K
noncomputable def Yah.e (k : Nat) : Zk := ent [.agg [.n, .l]] [1] [.b] [4] false (Yah.t k)
noncomputable def Yah.p (k : Nat) : Pro := ⟨Try.prog, [(70, Y9.e k), (71, Y4.e k)], Zn [] false [], k⟩
theorem Yah.ok (k : Nat) : Za Try.prog 47 (Yah.e k) := Zh (Yah.p k) mix tyok Try.func47 ⟨Y9.ok k, Y4.ok k⟩ (by kernel_rfl) (fun aB aA => by show _ = _; kernel_rfl)
noncomputable def YQ.g {β : Type} (k : Nat) (a0 : LD) (K : LC → Option β) : Option β :=
 let J0 := (Zc (ZaZ 1 a0) (Zc (([] : LC).length + (a0.map (·.map C.d)).length ≤ ZN) (K (([] : LC) ++ (a0.map (·.map C.d)))))); nilSl a0 (both (K ([] : LC)) J0) J0
noncomputable def YQ.t (k : Nat) (a0 : LD) : Option (LC) := YQ.g k a0 (fun z0 => some z0)
noncomputable def YQ.f {β : Type} (k : Nat) (a0 : LD) (K : LC → Option β) : Option β := bd1 (YQ.t k a0) K
noncomputable def YQ.e (k : Nat) : Zk := ent [.d .l] [1] [.o] [59] false (YQ.t k)
noncomputable def YQ.p (k : Nat) : Pro := ⟨Try.prog, [], Zn [] false [], k⟩
theorem YQ.ok (k : Nat) : Za Try.prog 110 (YQ.e k) := Zh (YQ.p k) mix tyok Try.func110 trivial (by kernel_rfl) (fun a0 => by show _ = _; kernel_rfl)
noncomputable def Ym.l0 {β : Type} (k : Nat) (r_impl_copyValue : Int → BA → Int → LD → LD → (Int → BA → Int → LC → LC → Option β) → Option β) (aC : LD) (aD aI : Int) (aJ : BA) (aW : Int) (aZ : LD) (bD : Int) (bR : BA) (bQ : Int) (bT : LC) (K : Int → BA → Int → LC → LC → Option β) (L0 : (Int × LC) → Option β) (v : Int × LC) : Option β :=
 match v with
 | (aH, bU) => bif (decide ((aH : Int) < aD)) then (atR aC aH [.n, .s, .n, .l, .l] fun x26 x29 x32 x35 x38 => (r_impl_copyValue x26 x29 x32 x35 x38 (fun y39 y40 y41 y42 y43 => Zc (bU.length + ([[.d (.int .i64 y39), .d (.str y40), .d (.int .i64 y41), .own y42, .own y43]] : LC).length ≤ ZN) (L0 (IntKind.wrap .i64 (aH + 1), bU ++ ([[.d (.int .i64 y39), .d (.str y40), .d (.int .i64 y41), .own y42, .own y43]] : LC)))))) else (K aI aJ aW bT bU)
noncomputable def Ym.m {β : Type} (k : Nat) (r_impl_copyValue : Int → BA → Int → LD → LD → (Int → BA → Int → LC → LC → Option β) → Option β) (aB : Int) (aA : BA) (aG : Int) (aE aF : LD) (K : Int → BA → Int → LC → LC → Option β) (F : (LD → Int → Int → BA → Int → LD → Int → BA → Int → LC → (Int × LC) → Option β)) : Option β :=
 YQ.f k aE (fun y1 => F aF (aF.length : Int) aB aA aG aF 0 (⟨#[]⟩ : BA) 0 y1 (0, ([] : LC)))
noncomputable def Ym.body {β : Type} (k : Nat) (r_impl_copyValue : Int → BA → Int → LD → LD → (Int → BA → Int → LC → LC → Option β) → Option β) (aB : Int) (aA : BA) (aG : Int) (aE aF : LD) (K : Int → BA → Int → LC → LC → Option β) : Option β :=
 YQ.f k aE (fun y1 => Zo (Ym.l0 k r_impl_copyValue aF (aF.length : Int) aB aA aG aF 0 (⟨#[]⟩ : BA) 0 y1 K) k (0, ([] : LC)))
noncomputable def Ym.w {β : Type} (r : Int → BA → Int → LD → LD → Option (Int × BA × Int × LC × LC)) (aB : Int) (aA : BA) (aG : Int) (aE aF : LD) (K : Int → BA → Int → LC → LC → Option β) : Option β := bd5 (r aB aA aG aE aF) K
noncomputable def Ym.all : Nat → (Int → BA → Int → LD → LD → Option (Int × BA × Int × LC × LC))
 | 0 => (fun _ _ _ _ _ => none)
 | k + 1 => (fun r => (fun aB aA aG aE aF => Ym.body k (Ym.w r) aB aA aG aE aF (fun z0 z1 z2 z3 z4 => some (z0, z1, z2, z3, z4)))) (Ym.all k)
noncomputable def Ym.t (k : Nat) (aB : Int) (aA : BA) (aG : Int) (aE aF : LD) : Option (Int × BA × Int × LC × LC) := (Ym.all k) aB aA aG aE aF
noncomputable def Ym.f {β : Type} (k : Nat) (aB : Int) (aA : BA) (aG : Int) (aE aF : LD) (K : Int → BA → Int → LC → LC → Option β) : Option β := Ym.w (Ym.t k) aB aA aG aE aF K
noncomputable def Ym.g {β : Type} (k : Nat) (aB : Int) (aA : BA) (aG : Int) (aE aF : LD) (K : Int → BA → Int → LC → LC → Option β) : Option β := Ym.body k (Ym.f k) aB aA aG aE aF K
theorem Ym.t_succ (k : Nat) (aB : Int) (aA : BA) (aG : Int) (aE aF : LD) : Ym.t (k + 1) aB aA aG aE aF = Ym.g k aB aA aG aE aF (fun z0 z1 z2 z3 z4 => some (z0, z1, z2, z3, z4)) := rfl
noncomputable def Ym.e (k : Nat) : Zk := ent [.agg [.n, .s, .n, .l, .l]] [5] [.n, .s, .n, .o, .o] [62] false (Ym.t k)
noncomputable def Ym.p (k : Nat) : Pro := ⟨Try.prog, [(110, YQ.e k), (111, Ym.e k)], Zn [(4, kp [1, 2, 3, 12, 13, 14])] false [], k⟩
noncomputable def Ym.d (k : Nat) (aB : Int) (aA : BA) (aG : Int) (aE aF : LD) : Ex → St → Option (Int × BA × Int × LC × LC) := (Ym.p k).fin Try.f111 [.agg [.int .i64 aB, .str aA, .int .i64 aG, .sl aE, .sl aF]] [5] [.n, .s, .n, .o, .o]
noncomputable def Ym.s0 (aC : LD) (aD aI : Int) (aJ : BA) (aW : Int) (aZ : LD) (bD : Int) (bR : BA) (bQ : Int) (bT : LC) (v : Int × LC) : St :=
 match v with
 | (aH, bU) => ZX 27 [(1, .bp 0 0), (2, .bp 1 0), (3, .row 2), (12, .d false (.sl aC)), (13, .d true (.int .i64 aD)), (14, .d true (.int .i64 aH))] [.box none 62 [.d false (.int .i64 aI), .d false (.str aJ), .d false (.int .i64 aW), .row 3, .d false (.sl aZ)], .box none 62 [.d true (.int .i64 bD), .d true (.str bR), .d true (.int .i64 bQ), .nil, .nil], .row none true 60 bU, .row none true 59 bT]
noncomputable def Ym.r0 (k : Nat) (aB : Int) (aA : BA) (aG : Int) (aE aF aC : LD) (aD aI : Int) (aJ : BA) (aW : Int) (aZ : LD) (bD : Int) (bR : BA) (bQ : Int) (bT : LC) (n : Nat) (v : Int × LC) : Option (Int × BA × Int × LC × LC) := (Ym.p k).lp (Zt Try.f111) 4 [1, 1, 1, 0, 1, 0] (Ym.d k aB aA aG aE aF) n (Ym.s0 aC aD aI aJ aW aZ bD bR bQ bT v)
theorem Ym.l0_eq (k : Nat) (aB : Int) (aA : BA) (aG : Int) (aE aF aC : LD) (aD aI : Int) (aJ : BA) (aW : Int) (aZ : LD) (bD : Int) (bR : BA) (bQ : Int) (bT : LC) : ∀ n v, Ym.r0 k aB aA aG aE aF aC aD aI aJ aW aZ bD bR bQ bT n v = Zo (Ym.l0 k (Ym.f k) aC aD aI aJ aW aZ bD bR bQ bT (fun z0 z1 z2 z3 z4 => some (z0, z1, z2, z3, z4))) n v :=
 Zm (Ym.s0 aC aD aI aJ aW aZ bD bR bQ bT) _ fun L0 v => by obtain ⟨aH, bU⟩ := v; kernel_rfl
theorem Ym.oks (k : Nat) : Za Try.prog 111 (Ym.e k) := by
 induction k with
 | zero => exact Z7 Try.func111 (by kernel_rfl) (fun _ _ _ _ _ => rfl)
 | succ k ih => exact Zh (Ym.p k) mix tyok Try.func111 ⟨YQ.ok k, ih⟩ (by kernel_rfl) (fun aB aA aG aE aF => Eq.trans (b := Ym.m k (Ym.f k) aB aA aG aE aF (fun z0 z1 z2 z3 z4 => some (z0, z1, z2, z3, z4)) (fun aC aD aI aJ aW aZ bD bR bQ bT => Ym.r0 k aB aA aG aE aF aC aD aI aJ aW aZ bD bR bQ bT k)) (by kernel_rfl) ((congrArg (Ym.m k (Ym.f k) aB aA aG aE aF (fun z0 z1 z2 z3 z4 => some (z0, z1, z2, z3, z4))) (funext fun aC => funext fun aD => funext fun aI => funext fun aJ => funext fun aW => funext fun aZ => funext fun bD => funext fun bR => funext fun bQ => funext fun bT => funext fun v => Ym.l0_eq k aB aA aG aE aF aC aD aI aJ aW aZ bD bR bQ bT k v)).trans (Ym.t_succ k aB aA aG aE aF).symm))
theorem Ym.ok (k : Nat) : Za Try.prog 111 (Ym.e k) := (Ym.oks k)
noncomputable def Yao.g {β : Type} (k : Nat) (aB : Int) (aA : BA) (aG aE aF : Int) (aV : Bool) (aO : LD) (aS : Int) (aK : BA) (aT : Int) (aL aP : LD) (aQ : Int) (aM : BA) (aU : Int) (aN aR : LD) (K : Int → BA → Int → Int → Int → Bool → LC → Int → BA → Int → LC → LC → Int → BA → Int → LC → LC → Option β) : Option β :=
 YQ.f k aO (fun y1 => Ym.f k aS aK aT aL aP (fun y44 y45 y46 y47 y48 => Ym.f k aQ aM aU aN aR (fun y49 y50 y51 y52 y53 => K aB aA aG aE aF aV y1 y44 y45 y46 y47 y48 y49 y50 y51 y52 y53)))
noncomputable def Yao.t (k : Nat) (aB : Int) (aA : BA) (aG aE aF : Int) (aV : Bool) (aO : LD) (aS : Int) (aK : BA) (aT : Int) (aL aP : LD) (aQ : Int) (aM : BA) (aU : Int) (aN aR : LD) : Option (Int × BA × Int × Int × Int × Bool × LC × Int × BA × Int × LC × LC × Int × BA × Int × LC × LC) := Yao.g k aB aA aG aE aF aV aO aS aK aT aL aP aQ aM aU aN aR (fun z0 z1 z2 z3 z4 z5 z6 z7 z8 z9 z10 z11 z12 z13 z14 z15 z16 => some (z0, z1, z2, z3, z4, z5, z6, z7, z8, z9, z10, z11, z12, z13, z14, z15, z16))
noncomputable def Yao.f {β : Type} (k : Nat) (aB : Int) (aA : BA) (aG aE aF : Int) (aV : Bool) (aO : LD) (aS : Int) (aK : BA) (aT : Int) (aL aP : LD) (aQ : Int) (aM : BA) (aU : Int) (aN aR : LD) (K : Int → BA → Int → Int → Int → Bool → LC → Int → BA → Int → LC → LC → Int → BA → Int → LC → LC → Option β) : Option β := match Yao.t k aB aA aG aE aF aV aO aS aK aT aL aP aQ aM aU aN aR with | some (z0, z1, z2, z3, z4, z5, z6, z7, z8, z9, z10, z11, z12, z13, z14, z15, z16) => K z0 z1 z2 z3 z4 z5 z6 z7 z8 z9 z10 z11 z12 z13 z14 z15 z16 | none => none
noncomputable def Yao.e (k : Nat) : Zk := ent [.agg [.n, .s, .n, .n, .n, .b, .l, .n, .s, .n, .l, .l, .n, .s, .n, .l, .l]] [17] [.n, .s, .n, .n, .n, .b, .o, .n, .s, .n, .o, .o, .n, .s, .n, .o, .o] [91] false (Yao.t k)
noncomputable def Yao.p (k : Nat) : Pro := ⟨Try.prog, [(110, YQ.e k), (111, Ym.e k)], Zn [] false [], k⟩
theorem Yao.ok (k : Nat) : Za Try.prog 92 (Yao.e k) := Zh (Yao.p k) mix tyok Try.func92 ⟨YQ.ok k, Ym.ok k⟩ (by kernel_rfl) (fun aB aA aG aE aF aV aO aS aK aT aL aP aQ aM aU aN aR => by show _ = _; kernel_rfl)
noncomputable def YN.l0 {β : Type} (k : Nat) (aC : LD) (aD : Int) (K : LC → Option β) (L0 : (Int × LC) → Option β) (v : Int × LC) : Option β :=
 match v with
 | (aH, aI) => bif (decide ((aH : Int) < aD)) then (atR aC aH [.n, .s, .n, .n, .n, .b, .l, .n, .s, .n, .l, .l, .n, .s, .n, .l, .l] fun x74 x77 x80 x83 x86 x89 x92 x95 x98 x101 x104 x107 x110 x113 x116 x119 x122 => (Yao.f k x74 x77 x80 x83 x86 x89 x92 x95 x98 x101 x104 x107 x110 x113 x116 x119 x122 (fun y123 y124 y125 y126 y127 y128 y129 y130 y131 y132 y133 y134 y135 y136 y137 y138 y139 => Zc (aI.length + ([[.d (.int .i64 y123), .d (.str y124), .d (.int .i64 y125), .d (.int .i64 y126), .d (.int .i64 y127), .d (.bool y128), .own y129, .d (.int .i64 y130), .d (.str y131), .d (.int .i64 y132), .own y133, .own y134, .d (.int .i64 y135), .d (.str y136), .d (.int .i64 y137), .own y138, .own y139]] : LC).length ≤ ZN) (L0 (IntKind.wrap .i64 (aH + 1), aI ++ ([[.d (.int .i64 y123), .d (.str y124), .d (.int .i64 y125), .d (.int .i64 y126), .d (.int .i64 y127), .d (.bool y128), .own y129, .d (.int .i64 y130), .d (.str y131), .d (.int .i64 y132), .own y133, .own y134, .d (.int .i64 y135), .d (.str y136), .d (.int .i64 y137), .own y138, .own y139]] : LC)))))) else (K aI)
noncomputable def YN.m {β : Type} (k : Nat) (a0 : LD) (K : LC → Option β) (F : (LD → Int → (Int × LC) → Option β)) : Option β :=
 F a0 (a0.length : Int) (0, ([] : LC))
noncomputable def YN.g {β : Type} (k : Nat) (a0 : LD) (K : LC → Option β) : Option β :=
 Zo (YN.l0 k a0 (a0.length : Int) K) k (0, ([] : LC))
noncomputable def YN.t (k : Nat) (a0 : LD) : Option (LC) := YN.g k a0 (fun z0 => some z0)
noncomputable def YN.f {β : Type} (k : Nat) (a0 : LD) (K : LC → Option β) : Option β := bd1 (YN.t k a0) K
noncomputable def YN.e (k : Nat) : Zk := ent [.d .l] [1] [.o] [44] false (YN.t k)
noncomputable def YN.p (k : Nat) : Pro := ⟨Try.prog, [(92, Yao.e k)], Zn [(3, kp [3, 7, 8, 9])] false [], k⟩
noncomputable def YN.d (k : Nat) (a0 : LD) : Ex → St → Option (LC) := (YN.p k).fin Try.f72 [.d (.sl a0)] [1] [.o]
noncomputable def YN.s0 (aC : LD) (aD : Int) (v : Int × LC) : St :=
 match v with
 | (aH, aI) => ZX 20 [(3, .row 0), (7, .d false (.sl aC)), (8, .d true (.int .i64 aD)), (9, .d true (.int .i64 aH))] [.row none true 44 aI]
noncomputable def YN.r0 (k : Nat) (a0 aC : LD) (aD : Int) (n : Nat) (v : Int × LC) : Option (LC) := (YN.p k).lp (Zt Try.f72) 3 [1, 1, 0, 1, 0] (YN.d k a0) n (YN.s0 aC aD v)
theorem YN.l0_eq (k : Nat) (a0 aC : LD) (aD : Int) : ∀ n v, YN.r0 k a0 aC aD n v = Zo (YN.l0 k aC aD (fun z0 => some z0)) n v :=
 Zm (YN.s0 aC aD) _ fun L0 v => by obtain ⟨aH, aI⟩ := v; kernel_rfl
theorem YN.ok (k : Nat) : Za Try.prog 72 (YN.e k) := Zh (YN.p k) mix tyok Try.func72 (Yao.ok k) (by kernel_rfl) (fun a0 => Eq.trans (b := YN.m k a0 (fun z0 => some z0) (fun aC aD => YN.r0 k a0 aC aD k)) (by kernel_rfl) (congrArg (YN.m k a0 (fun z0 => some z0)) (funext fun aC => funext fun aD => funext fun v => YN.l0_eq k a0 aC aD k v) :))
noncomputable def Y8.g {β : Type} (k : Nat) (aB : Int) (aA : LD) (K : Int → LC → Option β) : Option β :=
 YN.f k aA (fun y140 => K aB y140)
noncomputable def Y8.t (k : Nat) (aB : Int) (aA : LD) : Option (Int × LC) := Y8.g k aB aA (fun z0 z1 => some (z0, z1))
noncomputable def Y8.f {β : Type} (k : Nat) (aB : Int) (aA : LD) (K : Int → LC → Option β) : Option β := bd2 (Y8.t k aB aA) K
noncomputable def Y8.e (k : Nat) : Zk := ent [.agg [.n, .l]] [2] [.n, .o] [46] false (Y8.t k)
noncomputable def Y8.p (k : Nat) : Pro := ⟨Try.prog, [(72, YN.e k)], Zn [] false [], k⟩
theorem Y8.ok (k : Nat) : Za Try.prog 48 (Y8.e k) := Zh (Y8.p k) mix tyok Try.func48 (YN.ok k) (by kernel_rfl) (fun aB aA => by show _ = _; kernel_rfl)
noncomputable def Yc.l0 {β : Type} (k : Nat) (aC : LD) (aD aJ : Int) (aW : BA) (aZ bD bR : Int) (bQ : Bool) (bU : LD) (bT : Int) (bV : BA) (bW : Int) (bZ cA : LD) (cC : Int) (cE : BA) (cF : Int) (cG cH : LD) (K : Int → Bool → Option β) (L0 : (Int × Int) → Option β) (v : Int × Int) : Option β :=
 match v with
 | (aH, aI) => bif (decide ((aH : Int) < aI)) then (let J1 := (Int.fdiv (IntKind.wrap .u64 (IntKind.wrap .i64 (aH + aI))) (2 ^ (min (1 : Int).toNat 64))); let J0 := (IntKind.wrap .i64 J1); Zc ((0 : Int) ≤ 1) (Zbw aC J0 fun c107 => rdQ [.n, .s, .n, .n, .n, .b, .l, .n, .s, .n, .l, .l, .n, .s, .n, .l, .l] c107 fun x110 x113 x116 x119 x122 x125 x128 x131 x134 x137 x140 x143 x146 x149 x152 x155 x158 => (Yag.f k x110 x113 x116 x119 x122 x125 x128 x131 x134 x137 x140 x143 x146 x149 x152 x155 x158 aJ aW aZ bD bR bQ bU bT bV bW bZ cA cC cE cF cG cH (fun y159 => bif (decide ((y159 : Int) < 0)) then (L0 (IntKind.wrap .i64 (J0 + 1), aI)) else (L0 (aH, IntKind.wrap .i64 J1)))))) else (bif (decide ((aH : Int) < aD)) then (atR aC aH [.n, .s, .n, .n, .n, .b, .l, .n, .s, .n, .l, .l, .n, .s, .n, .l, .l] fun x163 x166 x169 x172 x175 x178 x181 x184 x187 x190 x193 x196 x199 x202 x205 x208 x211 => (Yag.f k x163 x166 x169 x172 x175 x178 x181 x184 x187 x190 x193 x196 x199 x202 x205 x208 x211 aJ aW aZ bD bR bQ bU bT bV bW bZ cA cC cE cF cG cH (fun y212 => K aH ((y212 : Int) == 0)))) else (K aH false))
noncomputable def Yc.m {β : Type} (k : Nat) (a0 : LD) (aX : Int) (aY : BA) (bA bB bC : Int) (bE : Bool) (bF : LD) (bG : Int) (bH : BA) (bI : Int) (bJ bK : LD) (bL : Int) (bM : BA) (bN : Int) (bO bP : LD) (K : Int → Bool → Option β) (F : (LD → Int → Int → BA → Int → Int → Int → Bool → LD → Int → BA → Int → LD → LD → Int → BA → Int → LD → LD → (Int × Int) → Option β)) : Option β :=
 F a0 (a0.length : Int) aX aY bA bB bC bE bF bG bH bI bJ bK bL bM bN bO bP (0, (a0.length : Int))
noncomputable def Yc.g {β : Type} (k : Nat) (a0 : LD) (aX : Int) (aY : BA) (bA bB bC : Int) (bE : Bool) (bF : LD) (bG : Int) (bH : BA) (bI : Int) (bJ bK : LD) (bL : Int) (bM : BA) (bN : Int) (bO bP : LD) (K : Int → Bool → Option β) : Option β :=
 Zo (Yc.l0 k a0 (a0.length : Int) aX aY bA bB bC bE bF bG bH bI bJ bK bL bM bN bO bP K) k (0, (a0.length : Int))
noncomputable def Yc.t (k : Nat) (a0 : LD) (aX : Int) (aY : BA) (bA bB bC : Int) (bE : Bool) (bF : LD) (bG : Int) (bH : BA) (bI : Int) (bJ bK : LD) (bL : Int) (bM : BA) (bN : Int) (bO bP : LD) : Option (Int × Bool) := Yc.g k a0 aX aY bA bB bC bE bF bG bH bI bJ bK bL bM bN bO bP (fun z0 z1 => some (z0, z1))
noncomputable def Yc.f {β : Type} (k : Nat) (a0 : LD) (aX : Int) (aY : BA) (bA bB bC : Int) (bE : Bool) (bF : LD) (bG : Int) (bH : BA) (bI : Int) (bJ bK : LD) (bL : Int) (bM : BA) (bN : Int) (bO bP : LD) (K : Int → Bool → Option β) : Option β := bd2 (Yc.t k a0 aX aY bA bB bC bE bF bG bH bI bJ bK bL bM bN bO bP) K
noncomputable def Yc.e (k : Nat) : Zk := ent [.d .l, .agg [.n, .s, .n, .n, .n, .b, .l, .n, .s, .n, .l, .l, .n, .s, .n, .l, .l], .fn 89 []] [1, 1] [.n, .b] [3, 4] false (Yc.t k)
noncomputable def Yc.p (k : Nat) : Pro := ⟨Try.prog, [(89, Yag.e k)], Zn [(3, kp [0, 2, 4, 8, 9, 10])] false [], k⟩
noncomputable def Yc.d (k : Nat) (a0 : LD) (aX : Int) (aY : BA) (bA bB bC : Int) (bE : Bool) (bF : LD) (bG : Int) (bH : BA) (bI : Int) (bJ bK : LD) (bL : Int) (bM : BA) (bN : Int) (bO bP : LD) : Ex → St → Option (Int × Bool) := (Yc.p k).fin Try.f93 [.d (.sl a0), .agg [.int .i64 aX, .str aY, .int .i64 bA, .int .i64 bB, .int .i64 bC, .bool bE, .sl bF, .int .i64 bG, .str bH, .int .i64 bI, .sl bJ, .sl bK, .int .i64 bL, .str bM, .int .i64 bN, .sl bO, .sl bP], .d (.fn 89 [])] [1, 1] [.n, .b]
noncomputable def Yc.s0 (aC : LD) (aD aJ : Int) (aW : BA) (aZ bD bR : Int) (bQ : Bool) (bU : LD) (bT : Int) (bV : BA) (bW : Int) (bZ cA : LD) (cC : Int) (cE : BA) (cF : Int) (cG cH : LD) (v : Int × Int) : St :=
 match v with
 | (aH, aI) => ZX 49 [(0, .d false (.sl aC)), (2, .d false (.fn 89 [])), (4, .bp 0 0), (8, .d true (.int .i64 aD)), (9, .d true (.int .i64 aH)), (10, .d true (.int .i64 aI))] [.box none 91 [.d false (.int .i64 aJ), .d false (.str aW), .d false (.int .i64 aZ), .d false (.int .i64 bD), .d false (.int .i64 bR), .d false (.bool bQ), .d false (.sl bU), .d false (.int .i64 bT), .d false (.str bV), .d false (.int .i64 bW), .d false (.sl bZ), .d false (.sl cA), .d false (.int .i64 cC), .d false (.str cE), .d false (.int .i64 cF), .d false (.sl cG), .d false (.sl cH)]]
noncomputable def Yc.r0 (k : Nat) (a0 : LD) (aX : Int) (aY : BA) (bA bB bC : Int) (bE : Bool) (bF : LD) (bG : Int) (bH : BA) (bI : Int) (bJ bK : LD) (bL : Int) (bM : BA) (bN : Int) (bO bP aC : LD) (aD aJ : Int) (aW : BA) (aZ bD bR : Int) (bQ : Bool) (bU : LD) (bT : Int) (bV : BA) (bW : Int) (bZ cA : LD) (cC : Int) (cE : BA) (cF : Int) (cG cH : LD) (n : Nat) (v : Int × Int) : Option (Int × Bool) := (Yc.p k).lp (Zt Try.f93) 3 [1, 1, 1, 0, 0] (Yc.d k a0 aX aY bA bB bC bE bF bG bH bI bJ bK bL bM bN bO bP) n (Yc.s0 aC aD aJ aW aZ bD bR bQ bU bT bV bW bZ cA cC cE cF cG cH v)
theorem Yc.l0_eq (k : Nat) (a0 : LD) (aX : Int) (aY : BA) (bA bB bC : Int) (bE : Bool) (bF : LD) (bG : Int) (bH : BA) (bI : Int) (bJ bK : LD) (bL : Int) (bM : BA) (bN : Int) (bO bP aC : LD) (aD aJ : Int) (aW : BA) (aZ bD bR : Int) (bQ : Bool) (bU : LD) (bT : Int) (bV : BA) (bW : Int) (bZ cA : LD) (cC : Int) (cE : BA) (cF : Int) (cG cH : LD) : ∀ n v, Yc.r0 k a0 aX aY bA bB bC bE bF bG bH bI bJ bK bL bM bN bO bP aC aD aJ aW aZ bD bR bQ bU bT bV bW bZ cA cC cE cF cG cH n v = Zo (Yc.l0 k aC aD aJ aW aZ bD bR bQ bU bT bV bW bZ cA cC cE cF cG cH (fun z0 z1 => some (z0, z1))) n v :=
 Zm (Yc.s0 aC aD aJ aW aZ bD bR bQ bU bT bV bW bZ cA cC cE cF cG cH) _ fun L0 v => by obtain ⟨aH, aI⟩ := v; kernel_rfl
theorem Yc.ok (k : Nat) : Za Try.prog 93 (Yc.e k) := Zh (Yc.p k) mix tyok Try.func93 (Yag.ok k) (by kernel_rfl) (fun a0 aX aY bA bB bC bE bF bG bH bI bJ bK bL bM bN bO bP => Eq.trans (b := Yc.m k a0 aX aY bA bB bC bE bF bG bH bI bJ bK bL bM bN bO bP (fun z0 z1 => some (z0, z1)) (fun aC aD aJ aW aZ bD bR bQ bU bT bV bW bZ cA cC cE cF cG cH => Yc.r0 k a0 aX aY bA bB bC bE bF bG bH bI bJ bK bL bM bN bO bP aC aD aJ aW aZ bD bR bQ bU bT bV bW bZ cA cC cE cF cG cH k)) (by kernel_rfl) (congrArg (Yc.m k a0 aX aY bA bB bC bE bF bG bH bI bJ bK bL bM bN bO bP (fun z0 z1 => some (z0, z1))) (funext fun aC => funext fun aD => funext fun aJ => funext fun aW => funext fun aZ => funext fun bD => funext fun bR => funext fun bQ => funext fun bU => funext fun bT => funext fun bV => funext fun bW => funext fun bZ => funext fun cA => funext fun cC => funext fun cE => funext fun cF => funext fun cG => funext fun cH => funext fun v => Yc.l0_eq k a0 aX aY bA bB bC bE bF bG bH bI bJ bK bL bM bN bO bP aC aD aJ aW aZ bD bR bQ bU bT bV bW bZ cA cC cE cF cG cH k v) :))
noncomputable def YC.t (k : Nat) (xs : LC) (i : Int) (ys : LC) : Option LC := Zc (0 ≤ i ∧ i ≤ (xs.length : Int) ∧ xs.length + ys.length ≤ ZN) (some (xs.take i.toNat ++ ys ++ xs.drop i.toNat))
noncomputable def YC.f {β : Type} (k : Nat) (xs : LC) (i : Int) (ys : LC) (K : LC → Option β) : Option β :=
 match YC.t k xs i ys with
 | some z0 => K z0
 | none => none
noncomputable def YC.run (k : Nat) : {β : Type} → List A → (LC → Option β) → Option β := fun {β} l K =>
 match l with
 | [.own false [.own xs], .d (.int .i64 i), .own false [.own ys]] => YC.f k xs i ys K
 | _ => none
noncomputable def YC.e (k : Nat) : Zk := { modes := [(.own, 0)], rts := [44], al := false, run := fun _ _ => none, lib := some ⟨[true, false, true], 44, YC.run k⟩ }
set_option maxHeartbeats 4000000 in
set_option maxRecDepth 1000000 in
theorem YC.raw0 (a : Option Addr) (n cap i : Nat) (a' : Option Addr) (cap' : Nat) (w : World) (hi : i ≤ n) (hn : n ≤ cap) : Calls Try.prog 94 #[.slice a n cap, .int .i64 i, .slice a' 0 cap'] w fun ex w' => ex = .returned (.slice a n cap) ∧ w' = w := by
 go_enter Try.func94, Try.ntmps94
 go_wp2
 all_goals (go_ret; exact ⟨rfl, rfl⟩)
set_option maxHeartbeats 4000000 in
set_option maxRecDepth 1000000 in
theorem YC.rawA (a : Option Addr) (n cap m vb vcap : Nat) (w W' : World) (R : Value) (hm : 0 < m) (hn : n ≤ cap) (hrun : ∀ ty, (Builtin.append_ #[44, 44] ty #[.slice a n cap, .slice (some ⟨vb, 0, none⟩) m vcap]).run Try.prog w = .ok R W') :
  Calls Try.prog 94 #[.slice a n cap, .int .i64 n, .slice (some ⟨vb, 0, none⟩) m vcap] w fun ex w' => ex = .returned R ∧ w' = W' := by
 have mixed : Try.prog.follows .mixedOrders = true := by kernel_rfl
 have hz1 : ¬ ((m : Int) = 0) := by omega
 go_enter Try.func94, Try.ntmps94
 cases a with
 | none =>
  go_wp2_with (at_builtin; refine Lib.wpList_append_run _ rfl _ _ _ _ rfl _ _ rfl rfl _ _ (hrun _) ?_)
  all_goals (go_ret; exact ⟨rfl, rfl⟩)
 | some a =>
  obtain ⟨ab, ao, asp⟩ := a
  go_wp2_with (at_builtin; refine Lib.wpList_append_run _ rfl _ _ _ _ rfl _ _ rfl rfl _ _ (hrun _) ?_)
  all_goals (go_ret; exact ⟨rfl, rfl⟩)
set_option maxHeartbeats 4000000 in
set_option maxRecDepth 1000000 in
theorem YC.rawB (b n cap i vb m vcap : Nat) (cd vs : List Value) (w : World) (hi : i < n) (hm : 0 < m) (hroom : n + m ≤ cap) (hnm : n + m ≤ 9223372036854775807)
  (hov : ∀ lb cb, (callFunc 112 #[.slice (some ⟨vb, 0, none⟩) m vcap, .slice (some ⟨b, (i + m) * 17, none⟩) lb cb]).run Try.prog w = .ok (.value (.bool false)) w)
  (hcp1 : ∀ ty dc sc, (Builtin.copy_ #[44, 44] ty #[.slice (some ⟨b, (i + m) * 17, none⟩) (n + m - (i + m)) dc, .slice (some ⟨b, i * 17, none⟩) (n + m - i) sc]).run Try.prog w.drew = .ok (goInt ((n - i : Nat) : Int)) (w.drew.setCells b ((i + m) * 17) cd))
  (hcp2 : ∀ ty dc, (Builtin.copy_ #[44, 44] ty #[.slice (some ⟨b, i * 17, none⟩) (n + m - i) dc, .slice (some ⟨vb, 0, none⟩) m vcap]).run Try.prog (w.drew.setCells b ((i + m) * 17) cd) = .ok (goInt m) ((w.drew.setCells b ((i + m) * 17) cd).setCells b (i * 17) vs)) :
  Calls Try.prog 94 #[.slice (some ⟨b, 0, none⟩) n cap, .int .i64 i, .slice (some ⟨vb, 0, none⟩) m vcap] w fun ex w' => ex = .returned (.slice (some ⟨b, 0, none⟩) (n + m) cap) ∧ w' = (w.drew.setCells b ((i + m) * 17) cd).setCells b (i * 17) vs := by
 have mixed : Try.prog.follows .mixedOrders = true := by kernel_rfl
 have hz1 : ¬ ((m : Int) = 0) := by omega
 have hz2 : ¬ ((i : Int) = (n : Int)) := by omega
 have hw1 : IntKind.i64.wrap ((i : Int) + (m : Int)) = (i : Int) + (m : Int) := by rw [IntKind.wrap_i64]; omega
 have hb1 : (0 : Int) ≤ (i : Int) + (m : Int) := by omega
 have hin : i ≤ n := by omega
 have htn : ((i : Int) + (m : Int)).toNat = i + m := by omega
 have hb2 : ¬ (cap = i + m) := by omega
 have hb3 : (i : Int) ≤ (n : Int) + (m : Int) := by omega
 have hb4 : ¬ (cap = i) := by omega
 obtain ⟨W1, hW1⟩ : ∃ W1, Hold (W1 = w.drew.setCells b ((i + m) * 17) cd) := ⟨_, ⟨rfl⟩⟩
 rw [← hW1.out] at hcp1 hcp2 ⊢
 go_enter Try.func94, Try.ntmps94
 go_wp2_with (simp only [hov])
 go_region_law_o (refine step_copy_run rfl _ _ 44 44 rfl _ _ (by simp [Act.eval, Act.put]) (by simp [Act.eval, Act.put]) (hcp1 _ _ _) ?_)
 go_wp2_with (at_builtin; refine wpList_copy_run _ rfl _ _ 44 44 rfl _ _ rfl rfl (hcp2 _ _) ?_)
 go_ret
 exact ⟨rfl, rfl⟩
set_option maxHeartbeats 4000000 in
set_option maxRecDepth 1000000 in
theorem YC.rawC (b n cap i vb m vcap G N : Nat) (cd vs : List Value) (w W1 : World) (hi : i < n) (hm : 0 < m) (hn : n ≤ cap) (hroom : cap < n + m) (hG : n + m ≤ G) (hG63 : G ≤ 9223372036854775807)
  (hrz : ∀ ty, (Builtin.append_ #[44, 3] ty #[.slice (some ⟨b, 0, none⟩) i cap, .int .i64 ((n : Int) + (m : Int) - (i : Int))]).run Try.prog w = .ok (.slice (some ⟨N, 0, none⟩) (n + m) G) W1)
  (hcpA : ∀ ty dc, (Builtin.copy_ #[44, 44] ty #[.slice (some ⟨N, i * 17, none⟩) (n + m - i) dc, .slice (some ⟨vb, 0, none⟩) m vcap]).run Try.prog W1 = .ok (goInt m) (W1.setCells N (i * 17) vs))
  (hcpB : ∀ ty dc sc, (Builtin.copy_ #[44, 44] ty #[.slice (some ⟨N, (i + m) * 17, none⟩) (n + m - (i + m)) dc, .slice (some ⟨b, i * 17, none⟩) (n - i) sc]).run Try.prog (W1.setCells N (i * 17) vs).drew = .ok (goInt ((n - i : Nat) : Int)) ((W1.setCells N (i * 17) vs).drew.setCells N ((i + m) * 17) cd)) :
  Calls Try.prog 94 #[.slice (some ⟨b, 0, none⟩) n cap, .int .i64 i, .slice (some ⟨vb, 0, none⟩) m vcap] w fun ex w' => ex = .returned (.slice (some ⟨N, 0, none⟩) (n + m) G) ∧ w' = (W1.setCells N (i * 17) vs).drew.setCells N ((i + m) * 17) cd := by
 have mixed : Try.prog.follows .mixedOrders = true := by kernel_rfl
 have hz1 : ¬ ((m : Int) = 0) := by omega
 have hz2 : ¬ ((i : Int) = (n : Int)) := by omega
 have hz3 : (cap : Int) < (n : Int) + (m : Int) := by omega
 have hGi : ¬ (G = i) := by omega
 have hGim : ¬ (G = i + m) := by omega
 have hci : ¬ (cap = i) := by omega
 have hw1 : IntKind.i64.wrap ((i : Int) + (m : Int)) = (i : Int) + (m : Int) := by rw [IntKind.wrap_i64]; omega
 have hb1 : (0 : Int) ≤ (i : Int) + (m : Int) := by omega
 have hin : i ≤ n := by omega
 have htn : ((i : Int) + (m : Int)).toNat = i + m := by omega
 have hb3 : (i : Int) ≤ (n : Int) := by omega
 obtain ⟨W2, hW2⟩ : ∃ W2, Hold (W2 = W1.setCells N (i * 17) vs) := ⟨_, ⟨rfl⟩⟩
 rw [← hW2.out] at hcpA hcpB ⊢
 go_enter Try.func94, Try.ntmps94
 go_wp2_with (first
  | (at_builtin; refine Lib.wpList_append_run _ rfl _ _ _ _ rfl _ _ rfl rfl _ _ (hrz _) ?_)
  | (at_builtin; refine wpList_copy_run _ rfl _ _ 44 44 rfl _ _ rfl rfl (hcpA _ _) ?_))
 go_region_law_o (refine step_copy_run rfl _ _ 44 44 rfl (.slice (some ⟨N, (i + m) * 17, none⟩) (n + m - (i + m)) (G - (i + m))) (.slice (some ⟨b, i * 17, none⟩) (n - i) (cap - i)) (by simp [Act.eval, Act.put]) (by simp [Act.eval, Act.put]) (hcpB _ _ _) ?_)
 go_wp2
 go_ret
 exact ⟨rfl, rfl⟩
theorem YC.raw : InsRaw Try.prog 94 17 := by
 obtain ⟨i0, z, hi, hz, hzs⟩ := Zbj (P := Try.prog) (t := 91) (by kernel_rfl)
 have hsz : i0.size = 17 := by
  have : Try.prog.cellsOf 91 = 17 := by kernel_rfl
  simpa [Program.cellsOf, hi] using this
 have hzc : z.cells.size = 17 := by
  have h1 : (ZaA Try.prog 91).length = 17 := by kernel_rfl
  rw [← h1]
  simpa using (Zay hzs).2.2.1.symm
 have hby : i0.bytes ≤ 1000 := by
  have : (Try.prog.info? 91).map (·.bytes) = some 240 := by kernel_rfl
  rw [hi] at this
  simp only [Option.map_some, Option.some.injEq] at this
  rw [this]
  decide
 exact InsRoads.raw (o := 112) (S := 44) (E := 91) (T := 4) ⟨YC.raw0, YC.rawA, YC.rawB, YC.rawC⟩ Try.underlying44 (by kernel_rfl) hi hz hsz (by decide) hzc hby (fun x y w h => by
  rw [run_callFunc_extern Try.func112 (by kernel_rfl) (by kernel_rfl) (by kernel_rfl) (e := Extern.SlicesOverlaps.overlaps #[44, 44] #[4]) (by kernel_rfl), h]
  rfl)
theorem YC.ok (k : Nat) : Za Try.prog 94 (YC.e k) := insert_ok tyok (ct := 44) (K := 17) (run := fun {β} => YC.run k) (by kernel_rfl) (enter_of Try.func94 (by kernel_rfl)) YC.raw (fun β aa K r h => by
 unfold YC.run at h
 split at h
 ·unfold YC.f YC.t at h
  split at h
  ·rename_i hz
   obtain ⟨hg, hz⟩ := ZD hz
   injection hz with hz
   subst hz
   exact ⟨_, _, _, rfl, hg, h⟩
  ·cases h
 ·cases h)
noncomputable def Yax.g {β : Type} (k : Nat) (a0 : LC) (aX : Int) (aY : BA) (bA bB bC : Int) (bE : Bool) (bF : LD) (bG : Int) (bH : BA) (bI : Int) (bJ bK : LD) (bL : Int) (bM : BA) (bN : Int) (bO bP : LD) (K : LC → Option β) : Option β :=
 Yc.f k (C.immRows a0) aX aY bA bB bC bE bF bG bH bI bJ bK bL bM bN bO bP (fun y213 y214 => bif y214 then (Yao.f k aX aY bA bB bC bE bF bG bH bI bJ bK bL bM bN bO bP (fun y215 y216 y217 y218 y219 y220 y221 y222 y223 y224 y225 y226 y227 y228 y229 y230 y231 => Zc ((0 : Int) ≤ y213 ∧ y213 < (a0.length : Int)) (Zc (Int.toNat y213 < a0.length) (K (a0.modify (Int.toNat y213) fun c => Zq c 0 [.d (.int .i64 y215), .d (.str y216), .d (.int .i64 y217), .d (.int .i64 y218), .d (.int .i64 y219), .d (.bool y220), .own y221, .d (.int .i64 y222), .d (.str y223), .d (.int .i64 y224), .own y225, .own y226, .d (.int .i64 y227), .d (.str y228), .d (.int .i64 y229), .own y230, .own y231]))))) else (Yao.f k aX aY bA bB bC bE bF bG bH bI bJ bK bL bM bN bO bP (fun y232 y233 y234 y235 y236 y237 y238 y239 y240 y241 y242 y243 y244 y245 y246 y247 y248 => YC.f k a0 y213 ([[.d (.int .i64 y232), .d (.str y233), .d (.int .i64 y234), .d (.int .i64 y235), .d (.int .i64 y236), .d (.bool y237), .own y238, .d (.int .i64 y239), .d (.str y240), .d (.int .i64 y241), .own y242, .own y243, .d (.int .i64 y244), .d (.str y245), .d (.int .i64 y246), .own y247, .own y248]] : LC) (fun y249 => K y249))))
noncomputable def Yax.t (k : Nat) (a0 : LC) (aX : Int) (aY : BA) (bA bB bC : Int) (bE : Bool) (bF : LD) (bG : Int) (bH : BA) (bI : Int) (bJ bK : LD) (bL : Int) (bM : BA) (bN : Int) (bO bP : LD) : Option (LC) := Yax.g k a0 aX aY bA bB bC bE bF bG bH bI bJ bK bL bM bN bO bP (fun z0 => some z0)
noncomputable def Yax.f {β : Type} (k : Nat) (a0 : LC) (aX : Int) (aY : BA) (bA bB bC : Int) (bE : Bool) (bF : LD) (bG : Int) (bH : BA) (bI : Int) (bJ bK : LD) (bL : Int) (bM : BA) (bN : Int) (bO bP : LD) (K : LC → Option β) : Option β := bd1 (Yax.t k a0 aX aY bA bB bC bE bF bG bH bI bJ bK bL bM bN bO bP) K
noncomputable def Yax.e (k : Nat) : Zk := ent [.own false 44 [.o], .agg [.n, .s, .n, .n, .n, .b, .l, .n, .s, .n, .l, .l, .n, .s, .n, .l, .l]] [1] [.o] [44] false (Yax.t k) true true
noncomputable def Yax.p (k : Nat) : Pro := ⟨Try.prog, [(93, Yc.e k), (92, Yao.e k), (94, YC.e k)], Zn [] false [] true, k⟩
theorem Yax.ok (k : Nat) : Za Try.prog 73 (Yax.e k) := Zh (Yax.p k) mix tyok Try.func73 ⟨Yc.ok k, Yao.ok k, YC.ok k⟩ (by kernel_rfl) (fun a0 aX aY bA bB bC bE bF bG bH bI bJ bK bL bM bN bO bP => by show _ = _; kernel_rfl)
noncomputable def Yav.g {β : Type} (k : Nat) (aB : Int) (aA : BA) (aG aE aF : Int) (aV : Bool) (aO : LD) (aS : Int) (aK : BA) (aT : Int) (aL aP : LD) (aQ : Int) (aM : BA) (aU : Int) (aN aR : LD) (f0_0 : Int) (f1_0 : BA) (K : Bool → Option β) : Option β :=
 bif ((aB : Int) == f0_0) then (K (Zae aA f1_0)) else (K false)
noncomputable def Yav.t (k : Nat) (aB : Int) (aA : BA) (aG aE aF : Int) (aV : Bool) (aO : LD) (aS : Int) (aK : BA) (aT : Int) (aL aP : LD) (aQ : Int) (aM : BA) (aU : Int) (aN aR : LD) (f0_0 : Int) (f1_0 : BA) : Option (Bool) := Yav.g k aB aA aG aE aF aV aO aS aK aT aL aP aQ aM aU aN aR f0_0 f1_0 (fun z0 => some z0)
noncomputable def Yav.f {β : Type} (k : Nat) (aB : Int) (aA : BA) (aG aE aF : Int) (aV : Bool) (aO : LD) (aS : Int) (aK : BA) (aT : Int) (aL aP : LD) (aQ : Int) (aM : BA) (aU : Int) (aN aR : LD) (f0_0 : Int) (f1_0 : BA) (K : Bool → Option β) : Option β := bd1 (Yav.t k aB aA aG aE aF aV aO aS aK aT aL aP aQ aM aU aN aR f0_0 f1_0) K
noncomputable def Yav.e (k : Nat) : Zk := ent [.agg [.n, .s, .n, .n, .n, .b, .l, .n, .s, .n, .l, .l, .n, .s, .n, .l, .l], .ip [.n], .ip [.s]] [1] [.b] [4] false (Yav.t k)
noncomputable def Yav.p (k : Nat) : Pro := ⟨Try.prog, [], Zn [] false [], k⟩
theorem Yav.ok (k : Nat) : Za Try.prog 96 (Yav.e k) := Zh (Yav.p k) mix tyok Try.func96 trivial (by kernel_rfl) (fun aB aA aG aE aF aV aO aS aK aT aL aP aQ aM aU aN aR f0_0 f1_0 => by show _ = _; kernel_rfl)
noncomputable def Ye.l0 {β : Type} (k : Nat) (aC : LD) (aD : Int) (aH : BA) (aI : Int) (K L0 : Int → Option β) (v : Int) : Option β :=
 match v with
 | aJ => bif (decide ((aJ : Int) < aI)) then (atR aC aJ [.n, .s, .n, .n, .n, .b, .l, .n, .s, .n, .l, .l, .n, .s, .n, .l, .l] fun x57 x60 x63 x66 x69 x72 x75 x78 x81 x84 x87 x90 x93 x96 x99 x102 x105 => (Yav.f k x57 x60 x63 x66 x69 x72 x75 x78 x81 x84 x87 x90 x93 x96 x99 x102 x105 aD aH (fun y106 => bif y106 then (K aJ) else (L0 (IntKind.wrap .i64 (aJ + 1)))))) else (K (-1))
noncomputable def Ye.m {β : Type} (k : Nat) (a0 : LD) (a1_0_0 : Int) (a1_1_0 : BA) (K : Int → Option β) (F : (LD → Int → BA → Int → Int → Option β)) : Option β :=
 F a0 a1_0_0 a1_1_0 (a0.length : Int) (0)
noncomputable def Ye.g {β : Type} (k : Nat) (a0 : LD) (a1_0_0 : Int) (a1_1_0 : BA) (K : Int → Option β) : Option β :=
 Zo (Ye.l0 k a0 a1_0_0 a1_1_0 (a0.length : Int) K) k (0)
noncomputable def Ye.t (k : Nat) (a0 : LD) (a1_0_0 : Int) (a1_1_0 : BA) : Option (Int) := Ye.g k a0 a1_0_0 a1_1_0 (fun z0 => some z0)
noncomputable def Ye.f {β : Type} (k : Nat) (a0 : LD) (a1_0_0 : Int) (a1_1_0 : BA) (K : Int → Option β) : Option β := bd1 (Ye.t k a0 a1_0_0 a1_1_0) K
noncomputable def Ye.e (k : Nat) : Zk := ent [.d .l, .fn 96 [[.n], [.s]]] [1] [.n] [3] false (Ye.t k)
noncomputable def Ye.p (k : Nat) : Pro := ⟨Try.prog, [(96, Yav.e k)], Zn [(2, kp [0, 1, 7, 8])] false [], k⟩
noncomputable def Ye.d (k : Nat) (a0 : LD) (a1_0_0 : Int) (a1_1_0 : BA) : Ex → St → Option (Int) := (Ye.p k).fin Try.f95 [.d (.sl a0), .d (.fn 96 [[.int .i64 a1_0_0], [.str a1_1_0]])] [1] [.n]
noncomputable def Ye.s0 (aC : LD) (aD : Int) (aH : BA) (aI v : Int) : St :=
 match v with
 | aJ => ZX 19 [(0, .d false (.sl aC)), (1, .d false (.fn 96 [[.int .i64 aD], [.str aH]])), (7, .d true (.int .i64 aI)), (8, .d true (.int .i64 aJ))] []
noncomputable def Ye.r0 (k : Nat) (a0 : LD) (a1_0_0 : Int) (a1_1_0 : BA) (aC : LD) (aD : Int) (aH : BA) (aI : Int) (n : Nat) (v : Int) : Option (Int) := (Ye.p k).lp (Zt Try.f95) 2 [1, 0, 1, 0] (Ye.d k a0 a1_0_0 a1_1_0) n (Ye.s0 aC aD aH aI v)
theorem Ye.l0_eq (k : Nat) (a0 : LD) (a1_0_0 : Int) (a1_1_0 : BA) (aC : LD) (aD : Int) (aH : BA) (aI : Int) : ∀ n v, Ye.r0 k a0 a1_0_0 a1_1_0 aC aD aH aI n v = Zo (Ye.l0 k aC aD aH aI (fun z0 => some z0)) n v :=
 Zm (Ye.s0 aC aD aH aI) _ fun L0 v => by kernel_rfl
theorem Ye.ok (k : Nat) : Za Try.prog 95 (Ye.e k) := Zh (Ye.p k) mix tyok Try.func95 (Yav.ok k) (by kernel_rfl) (fun a0 a1_0_0 a1_1_0 => Eq.trans (b := Ye.m k a0 a1_0_0 a1_1_0 (fun z0 => some z0) (fun aC aD aH aI => Ye.r0 k a0 a1_0_0 a1_1_0 aC aD aH aI k)) (by kernel_rfl) (congrArg (Ye.m k a0 a1_0_0 a1_1_0 (fun z0 => some z0)) (funext fun aC => funext fun aD => funext fun aH => funext fun aI => funext fun v => Ye.l0_eq k a0 a1_0_0 a1_1_0 aC aD aH aI k v) :))
noncomputable def YaB.g {β : Type} (k : Nat) (a0 : LD) (a1 : Int) (a2 : BA) (K : Int → Option β) : Option β :=
 Ye.f k a0 a1 a2 (fun y107 => K y107)
noncomputable def YaB.t (k : Nat) (a0 : LD) (a1 : Int) (a2 : BA) : Option (Int) := YaB.g k a0 a1 a2 (fun z0 => some z0)
noncomputable def YaB.f {β : Type} (k : Nat) (a0 : LD) (a1 : Int) (a2 : BA) (K : Int → Option β) : Option β := bd1 (YaB.t k a0 a1 a2) K
noncomputable def YaB.e (k : Nat) : Zk := ent [.d .l, .d .n, .d .s] [1] [.n] [3] false (YaB.t k)
noncomputable def YaB.p (k : Nat) : Pro := ⟨Try.prog, [(95, Ye.e k)], Zn [] false [], k⟩
theorem YaB.ok (k : Nat) : Za Try.prog 74 (YaB.e k) := Zh (YaB.p k) mix tyok Try.func74 (Ye.ok k) (by kernel_rfl) (fun a0 a1 a2 => by show _ = _; kernel_rfl)
noncomputable def YJ.t (k : Nat) (xs : LC) (i j : Int) : Option LC := Zc (0 ≤ i ∧ i ≤ j ∧ j ≤ (xs.length : Int)) (some (xs.take i.toNat ++ xs.drop j.toNat))
noncomputable def YJ.f {β : Type} (k : Nat) (xs : LC) (i j : Int) (K : LC → Option β) : Option β :=
 match YJ.t k xs i j with
 | some z0 => K z0
 | none => none
noncomputable def YJ.run (k : Nat) : {β : Type} → List A → (LC → Option β) → Option β := fun {β} l K =>
 match l with
 | [.own false [.own xs], .d (.int .i64 i), .d (.int .i64 j)] => YJ.f k xs i j K
 | _ => none
noncomputable def YJ.e (k : Nat) : Zk := { modes := [(.own, 0)], rts := [44], al := false, run := fun _ _ => none, lib := some ⟨[true, false, false], 44, YJ.run k⟩ }
set_option maxHeartbeats 4000000 in
set_option maxRecDepth 1000000 in
theorem YJ.raw0 (a : Option Addr) (n cap i : Nat) (w : World) (hi : i ≤ n) (hn : n ≤ cap) : Calls Try.prog 75 #[.slice a n cap, .int .i64 i, .int .i64 i] w fun ex w' => ex = .returned (.slice a n cap) ∧ w' = w := by
 go_enter Try.func75, Try.ntmps75
 go_wp2
 all_goals (go_ret; exact ⟨rfl, rfl⟩)
set_option maxHeartbeats 4000000 in
set_option maxRecDepth 1000000 in
theorem YJ.raw2 (b cap n i j : Nat) (c : Array Value) (e : TypeId) (w : World) (hb : w.heap[b]? = some (.cells c e (0, 0))) (hc : c.size = cap * 17) (hn : n ≤ cap) (hij : i < j) (hj : j ≤ n) (h1 : ∀ t, t < n * 17 → ∃ v, c[t]? = some v ∧ v.oneCell' = true) (i0 : TypeInfo) (z : Value) (hi : Try.prog.info? 91 = some i0) (hz : i0.zero = some z) (hs : i0.size = 17) (hzs : z.cells.size = 17) (hz1 : ∀ v ∈ z.cells.toList, v.oneCell' = true) :
  Calls Try.prog 75 #[.slice (some ⟨b, 0, none⟩) n cap, .int .i64 i, .int .i64 j] w fun ex w' => ex = .returned (.slice (some ⟨b, 0, none⟩) (n - (j - i)) cap) ∧ Only b w w' ∧ ∃ c', w'.heap[b]? = some (.cells c' e (0, 0)) ∧ c'.size = c.size ∧ (∀ t, t < i * 17 → c'[t]? = c[t]?) ∧ ∀ t, t < (n - j) * 17 → c'[i * 17 + t]? = c[j * 17 + t]? := by
 have mixed : Try.prog.follows .mixedOrders = true := by kernel_rfl
 have hb0 : w.drew.heap[b]? = some (.cells c e (0, 0)) := hb
 obtain ⟨A, news, hA, hlen, hsrc, hone, hget⟩ := tail_src hb0 hc hn hj h1
 obtain ⟨hb1, ho1⟩ := Zac news (i * 17) hb0
 obtain ⟨W1, hW1⟩ : ∃ W1, W1 = w.drew.setCells b (0 + i * 17) news := ⟨_, rfl⟩
 rw [Nat.zero_add] at hW1
 rw [← hW1] at hb1 ho1
 have hle : i * 17 + news.length ≤ c.size := by rw [hlen, hc]; omega
 have hcl : ∀ ty, (Builtin.clear_ #[44] ty #[.slice (some ⟨b, (i + (n - j)) * 17, none⟩) (n - (i + (n - j))) (cap - (i + (n - j)))]).run Try.prog W1 = .ok (.tuple #[]) (W1.setCells b ((i + (n - j)) * 17) (Builtin.zeroCells z.cells (n - (i + (n - j)))).toList) :=
  fun ty => run_clear_cells Try.underlying44 hi hz hz1 (by omega) (fun t ht => by rw [Zam hb1]; rw [hzs] at ht; rw [Array.getElem?_eq_getElem (by rw [Zaz, hc]; omega)]; rfl) (fun t ht => Zaw hb1 _)
 have hW : Hold (W1 = w.drew.setCells b (i * 17) news) := ⟨hW1⟩
 obtain ⟨hb2, ho2⟩ := Zac (Builtin.zeroCells z.cells (n - (i + (n - j)))).toList ((i + (n - j)) * 17) hb1
 have hfin : Hold (Only b w (W1.setCells b ((i + (n - j)) * 17) (Builtin.zeroCells z.cells (n - (i + (n - j)))).toList) ∧ ∃ c', (W1.setCells b ((i + (n - j)) * 17) (Builtin.zeroCells z.cells (n - (i + (n - j)))).toList).heap[b]? = some (.cells c' e (0, 0)) ∧ c'.size = c.size ∧ (∀ t, t < i * 17 → c'[t]? = c[t]?) ∧ ∀ t, t < (n - j) * 17 → c'[i * 17 + t]? = c[j * 17 + t]?) := by
  have hzl : (Builtin.zeroCells z.cells (n - (i + (n - j)))).toList.length = (n - (i + (n - j))) * 17 := by simp [Zap, hzs]
  refine ⟨((Only.drew b w).trans ho1).trans ho2, _, hb2, by rw [Zaz, Zaz], fun t ht => ?_, fun t ht => ?_⟩
  ·rw [Zaa _ _ _ _ (by rw [hzl, Zaz, hc]; omega), if_neg (by omega), Zaa _ _ _ _ hle, if_neg (by omega)]
  ·rw [Zaa _ _ _ _ (by rw [hzl, Zaz, hc]; omega), if_neg (by omega), Zaa _ _ _ _ hle, if_pos (by omega), Nat.add_sub_cancel_left, hget t ht]
 have hsp : ∀ t, t < news.length → (w.drew.cell? ⟨b, 0 + i * 17 + t, none⟩).isSome = true ∧ w.drew.frozen? ⟨b, 0 + i * 17 + t, none⟩ = false := fun t ht => ⟨by rw [Zam hb0, Array.getElem?_eq_getElem (by omega)]; rfl, Zaw hb0 _⟩
 generalize (Builtin.zeroCells z.cells (n - (i + (n - j)))).toList = zl at hcl hfin
 clear hb hb0 ho1 hb1 hb2 ho2 hget hW1 h1 hle hc hz1 hzs hz
 have hic : i ≤ cap := by omega
 have hjc : j ≤ cap := by omega
 go_enter Try.func75, Try.ntmps75
 go_wp2_with fail
 go_region_law_o (refine step_append_room rfl (.tmp 22) (.tmp 25) 44 rfl 91 i0 17 Try.underlying44 hi hs b 0 i cap (by simp [Act.eval, Act.put]) A (n - j) (cap - j) news (by simp [Act.eval, Act.put]) hlen hsrc hone (by omega) hsp ?_; rw [Nat.zero_add, ← hW.out])
 go_wp2
 go_ret
 refine ⟨?_, hfin.out⟩
 rw [show i + (n - j) = n - (j - i) from by omega]
 rfl
theorem YJ.raw : DelRaw Try.prog 75 17 := ⟨fun a n cap i w h1 h2 => YJ.raw0 a n cap i w h1 h2, fun b cap n i j c e w hb hc hn hij hj h1 => by
 obtain ⟨i0, z, hi, hz, hzs⟩ := Zbj (P := Try.prog) (t := 91) (by kernel_rfl)
 have hsz : i0.size = 17 := by
  have : Try.prog.cellsOf 91 = 17 := by kernel_rfl
  simpa [Program.cellsOf, hi] using this
 have hzc : z.cells.size = 17 := by
  have h1 : (ZaA Try.prog 91).length = 17 := by kernel_rfl
  rw [← h1]
  simpa using (Zay hzs).2.2.1.symm
 exact YJ.raw2 b cap n i j c e w hb hc hn hij hj h1 i0 z hi hz hsz hzc (Zay hzs).2.1⟩
theorem YJ.ok (k : Nat) : Za Try.prog 75 (YJ.e k) := delete_ok tyok (ct := 44) (K := 17) (run := fun {β} => YJ.run k) (by kernel_rfl) (enter_of Try.func75 (by kernel_rfl)) YJ.raw (fun β aa K r h => by
 unfold YJ.run at h
 split at h
 ·unfold YJ.f YJ.t at h
  split at h
  ·rename_i hz
   obtain ⟨hg, hz⟩ := ZD hz
   injection hz with hz
   subst hz
   exact ⟨_, _, _, rfl, hg, h⟩
  ·cases h
 ·cases h)
noncomputable def Y0.g {β : Type} (k : Nat) (aB : Int) (aA : LC) (aX : Int) (aY : Bool) (bA : Int) (bB : BA) (bC bE bF : Int) (bG : Bool) (bH : LD) (bI : Int) (bJ : BA) (bK : Int) (bL bM : LD) (bN : Int) (bO : BA) (bP : Int) (a1_17 a1_18 : LD) (K : Bool → Int → LC → Option β) : Option β :=
 bif ((aX : Int) != (IntKind.wrap .i64 (aB + 1))) then (K false aB aA) else (bif (!aY) then (Yax.f k aA bA bB bC bE bF bG bH bI bJ bK bL bM bN bO bP a1_17 a1_18 (fun y250 => K true (IntKind.wrap .i64 (aB + 1)) y250)) else (YaB.f k (C.immRows aA) bA bB (fun y251 => bif (decide ((y251 : Int) < 0)) then (K false (IntKind.wrap .i64 (aB + 1)) aA) else (Zc ((0 : Int) ≤ y251 ∧ y251 < (aA.length : Int)) (ZaG aA (Int.toNat y251) fun c252 => Zas (c252.drop 2) fun c253 r => cD c253 fun d => dInt .i64 d fun x256 => bif ((x256 : Int) != bC) then (K false (IntKind.wrap .i64 (aB + 1)) aA) else (YJ.f k aA y251 (IntKind.wrap .i64 (y251 + 1)) (fun y257 => K true (IntKind.wrap .i64 (aB + 1)) y257)))))))
noncomputable def Y0.t (k : Nat) (aB : Int) (aA : LC) (aX : Int) (aY : Bool) (bA : Int) (bB : BA) (bC bE bF : Int) (bG : Bool) (bH : LD) (bI : Int) (bJ : BA) (bK : Int) (bL bM : LD) (bN : Int) (bO : BA) (bP : Int) (a1_17 a1_18 : LD) : Option (Bool × Int × LC) := Y0.g k aB aA aX aY bA bB bC bE bF bG bH bI bJ bK bL bM bN bO bP a1_17 a1_18 (fun z0 z1 z2 => some (z0, z1, z2))
noncomputable def Y0.f {β : Type} (k : Nat) (aB : Int) (aA : LC) (aX : Int) (aY : Bool) (bA : Int) (bB : BA) (bC bE bF : Int) (bG : Bool) (bH : LD) (bI : Int) (bJ : BA) (bK : Int) (bL bM : LD) (bN : Int) (bO : BA) (bP : Int) (a1_17 a1_18 : LD) (K : Bool → Int → LC → Option β) : Option β := bd3 (Y0.t k aB aA aX aY bA bB bC bE bF bG bH bI bJ bK bL bM bN bO bP a1_17 a1_18) K
noncomputable def Y0.e (k : Nat) : Zk := ent [.box 46 [.n, .o], .agg [.n, .b, .n, .s, .n, .n, .n, .b, .l, .n, .s, .n, .l, .l, .n, .s, .n, .l, .l]] [1] [.b, .n, .o] [4] false (Y0.t k) false true
noncomputable def Y0.p (k : Nat) : Pro := ⟨Try.prog, [(73, Yax.e k), (74, YaB.e k), (75, YJ.e k)], Zn [] false [] true, k⟩
theorem Y0.ok (k : Nat) : Za Try.prog 49 (Y0.e k) := Zh (Y0.p k) mix tyok Try.func49 ⟨Yax.ok k, YaB.ok k, YJ.ok k⟩ (by kernel_rfl) (fun aB aA aX aY bA bB bC bE bF bG bH bI bJ bK bL bM bN bO bP a1_17 a1_18 => by show _ = _; kernel_rfl)
noncomputable def YR.l0 {β : Type} (k : Nat) (aC : LD) (aD aI : Int) (aJ : LD) (aW : Int) (K : Int → LC → Bool → Option β) (L0 : (Int × Int × LC) → Option β) (v : Int × Int × LC) : Option β :=
 match v with
 | (aH, aZ, bD) => bif (decide ((aH : Int) < aD)) then (atR aC aH [.n, .b, .n, .s, .n, .n, .n, .b, .l, .n, .s, .n, .l, .l, .n, .s, .n, .l, .l] fun x293 x296 x299 x302 x305 x308 x311 x314 x317 x320 x323 x326 x329 x332 x335 x338 x341 x344 x347 => (Y0.f k aZ bD x293 x296 x299 x302 x305 x308 x311 x314 x317 x320 x323 x326 x329 x332 x335 x338 x341 x344 x347 (fun y348 y349 y350 => bif (!y348) then (Y8.f k aI aJ (fun y351 y352 => K y351 y352 false)) else (Yah.f k y349 (C.immRows y350) (fun y353 => bif (!y353) then (Y8.f k aI aJ (fun y354 y355 => K y354 y355 false)) else (L0 (IntKind.wrap .i64 (aH + 1), y349, y350))))))) else (K aZ bD true)
noncomputable def YR.m {β : Type} (k : Nat) (aB : Int) (aA a1 : LD) (K : Int → LC → Bool → Option β) (F : (LD → Int → Int → LD → Int → (Int × Int × LC) → Option β)) : Option β :=
 Yah.f k aB aA (fun y219 => bif (!y219) then (Y8.f k aB aA (fun y220 y221 => K y220 y221 false)) else (Y8.f k aB aA (fun y222 y223 => F a1 (a1.length : Int) aB aA 0 (0, y222, y223))))
noncomputable def YR.g {β : Type} (k : Nat) (aB : Int) (aA a1 : LD) (K : Int → LC → Bool → Option β) : Option β :=
 Yah.f k aB aA (fun y219 => bif (!y219) then (Y8.f k aB aA (fun y220 y221 => K y220 y221 false)) else (Y8.f k aB aA (fun y222 y223 => Zo (YR.l0 k a1 (a1.length : Int) aB aA 0 K) k (0, y222, y223))))
noncomputable def YR.t (k : Nat) (aB : Int) (aA a1 : LD) : Option (Int × LC × Bool) := YR.g k aB aA a1 (fun z0 z1 z2 => some (z0, z1, z2))
noncomputable def YR.f {β : Type} (k : Nat) (aB : Int) (aA a1 : LD) (K : Int → LC → Bool → Option β) : Option β := bd3 (YR.t k aB aA a1) K
noncomputable def YR.e (k : Nat) : Zk := ent [.agg [.n, .l], .d .l] [2, 1] [.n, .o, .b] [46, 4] false (YR.t k)
noncomputable def YR.p (k : Nat) : Pro := ⟨Try.prog, [(47, Yah.e k), (48, Y8.e k), (49, Y0.e k)], Zn [(5, kp [2, 4, 6, 16, 17, 18])] false [], k⟩
noncomputable def YR.d (k : Nat) (aB : Int) (aA a1 : LD) : Ex → St → Option (Int × LC × Bool) := (YR.p k).fin Try.f19 [.agg [.int .i64 aB, .sl aA], .d (.sl a1)] [2, 1] [.n, .o, .b]
noncomputable def YR.s0 (aC : LD) (aD aI : Int) (aJ : LD) (aW : Int) (v : Int × Int × LC) : St :=
 match v with
 | (aH, aZ, bD) => ZX 34 [(2, .bp 0 0), (4, .bp 1 0), (6, .bp 2 0), (16, .d false (.sl aC)), (17, .d true (.int .i64 aD)), (18, .d true (.int .i64 aH))] [.box none 46 [.d false (.int .i64 aI), .d false (.sl aJ)], .box none 46 [.d true (.int .i64 aW), .nil], .box none 46 [.d true (.int .i64 aZ), .row 3], .row none true 44 bD]
noncomputable def YR.r0 (k : Nat) (aB : Int) (aA a1 aC : LD) (aD aI : Int) (aJ : LD) (aW : Int) (n : Nat) (v : Int × Int × LC) : Option (Int × LC × Bool) := (YR.p k).lp (Zt Try.f19) 5 [1, 1, 1, 0, 1, 0] (YR.d k aB aA a1) n (YR.s0 aC aD aI aJ aW v)
theorem YR.l0_eq (k : Nat) (aB : Int) (aA a1 aC : LD) (aD aI : Int) (aJ : LD) (aW : Int) : ∀ n v, YR.r0 k aB aA a1 aC aD aI aJ aW n v = Zo (YR.l0 k aC aD aI aJ aW (fun z0 z1 z2 => some (z0, z1, z2))) n v :=
 Zm (YR.s0 aC aD aI aJ aW) _ fun L0 v => by obtain ⟨aH, aZ, bD⟩ := v; kernel_rfl
theorem YR.ok (k : Nat) : Za Try.prog 19 (YR.e k) := Zh (YR.p k) mix tyok Try.func19 ⟨Yah.ok k, Y8.ok k, Y0.ok k⟩ (by kernel_rfl) (fun aB aA a1 => Eq.trans (b := YR.m k aB aA a1 (fun z0 z1 z2 => some (z0, z1, z2)) (fun aC aD aI aJ aW => YR.r0 k aB aA a1 aC aD aI aJ aW k)) (by kernel_rfl) (congrArg (YR.m k aB aA a1 (fun z0 z1 z2 => some (z0, z1, z2))) (funext fun aC => funext fun aD => funext fun aI => funext fun aJ => funext fun aW => funext fun v => YR.l0_eq k aB aA a1 aC aD aI aJ aW k v) :))
noncomputable def YB.l0 {β : Type} (k : Nat) (aC aD : LD) (K : Bool → Option β) (L0 : Int → Option β) (v : Int) : Option β :=
 match v with
 | aH => bif (decide ((aH : Int) < (aC.length : Int))) then (atR aC aH [.s] fun x12 => (atR aD aH [.s] fun x16 => (bif (!(Zae x12 x16)) then (K false) else (L0 (IntKind.wrap .i64 (aH + 1)))))) else (K true)
noncomputable def YB.m {β : Type} (k : Nat) (a0 a1 : LD) (K : Bool → Option β) (F : (LD → LD → Int → Option β)) : Option β :=
 bif (((a0.length : Int) : Int) != (a1.length : Int)) then (K false) else (F a0 a1 (0))
noncomputable def YB.g {β : Type} (k : Nat) (a0 a1 : LD) (K : Bool → Option β) : Option β :=
 bif (((a0.length : Int) : Int) != (a1.length : Int)) then (K false) else (Zo (YB.l0 k a0 a1 K) k (0))
noncomputable def YB.t (k : Nat) (a0 a1 : LD) : Option (Bool) := YB.g k a0 a1 (fun z0 => some z0)
noncomputable def YB.f {β : Type} (k : Nat) (a0 a1 : LD) (K : Bool → Option β) : Option β := bd1 (YB.t k a0 a1) K
noncomputable def YB.e (k : Nat) : Zk := ent [.d .l, .d .l] [1] [.b] [4] false (YB.t k)
noncomputable def YB.p (k : Nat) : Pro := ⟨Try.prog, [], Zn [(4, kp [0, 1, 5])] false [], k⟩
noncomputable def YB.d (k : Nat) (a0 a1 : LD) : Ex → St → Option (Bool) := (YB.p k).fin Try.f97 [.d (.sl a0), .d (.sl a1)] [1] [.b]
noncomputable def YB.s0 (aC aD : LD) (v : Int) : St :=
 match v with
 | aH => ZX 26 [(0, .d false (.sl aC)), (1, .d false (.sl aD)), (5, .d true (.int .i64 aH))] []
noncomputable def YB.r0 (k : Nat) (a0 a1 aC aD : LD) (n : Nat) (v : Int) : Option (Bool) := (YB.p k).lp (Zt Try.f97) 4 [1, 1, 0, 1, 0] (YB.d k a0 a1) n (YB.s0 aC aD v)
theorem YB.l0_eq (k : Nat) (a0 a1 aC aD : LD) : ∀ n v, YB.r0 k a0 a1 aC aD n v = Zo (YB.l0 k aC aD (fun z0 => some z0)) n v :=
 Zm (YB.s0 aC aD) _ fun L0 v => by kernel_rfl
theorem YB.ok (k : Nat) : Za Try.prog 97 (YB.e k) := Zh (YB.p k) mix tyok Try.func97 trivial (by kernel_rfl) (fun a0 a1 => Eq.trans (b := YB.m k a0 a1 (fun z0 => some z0) (fun aC aD => YB.r0 k a0 a1 aC aD k)) (by kernel_rfl) (congrArg (YB.m k a0 a1 (fun z0 => some z0)) (funext fun aC => funext fun aD => funext fun v => YB.l0_eq k a0 a1 aC aD k v) :))
noncomputable def Ys.l0 {β : Type} (k : Nat) (r_laws_eqValueS : LD → LD → (Bool → Option β) → Option β) (r_laws_eqValue : Int → BA → Int → LD → LD → Int → BA → Int → LD → LD → (Bool → Option β) → Option β) (aC aD : LD) (K : Bool → Option β) (L0 : Int → Option β) (v : Int) : Option β :=
 match v with
 | aH => bif (decide ((aH : Int) < (aC.length : Int))) then (atR aC aH [.n, .s, .n, .l, .l] fun x37 x40 x43 x46 x49 => (atR aD aH [.n, .s, .n, .l, .l] fun x53 x56 x59 x62 x65 => (r_laws_eqValue x37 x40 x43 x46 x49 x53 x56 x59 x62 x65 (fun y66 => bif (!y66) then (K false) else (L0 (IntKind.wrap .i64 (aH + 1))))))) else (K true)
noncomputable def Ys.m {β : Type} (k : Nat) (r_laws_eqValueS : LD → LD → (Bool → Option β) → Option β) (r_laws_eqValue : Int → BA → Int → LD → LD → Int → BA → Int → LD → LD → (Bool → Option β) → Option β) (a0 a1 : LD) (K : Bool → Option β) (F : (LD → LD → Int → Option β)) : Option β :=
 bif (((a0.length : Int) : Int) != (a1.length : Int)) then (K false) else (F a0 a1 (0))
noncomputable def Ys.body {β : Type} (k : Nat) (r_laws_eqValueS : LD → LD → (Bool → Option β) → Option β) (r_laws_eqValue : Int → BA → Int → LD → LD → Int → BA → Int → LD → LD → (Bool → Option β) → Option β) (a0 a1 : LD) (K : Bool → Option β) : Option β :=
 bif (((a0.length : Int) : Int) != (a1.length : Int)) then (K false) else (Zo (Ys.l0 k r_laws_eqValueS r_laws_eqValue a0 a1 K) k (0))
noncomputable def YM.body {β : Type} (k : Nat) (r_laws_eqValueS : LD → LD → (Bool → Option β) → Option β) (r_laws_eqValue : Int → BA → Int → LD → LD → Int → BA → Int → LD → LD → (Bool → Option β) → Option β) (aB : Int) (aA : BA) (aG : Int) (aE aF : LD) (aX : Int) (aY : BA) (bA : Int) (bB bC : LD) (K : Bool → Option β) : Option β :=
 bif ((aB : Int) != aX) then (K false) else (bif (!(Zae aA aY)) then (K false) else (bif ((aG : Int) != bA) then (K false) else (YB.f k aE bB (fun y1 => bif (!y1) then (K false) else (r_laws_eqValueS aF bC (fun y67 => bif (!y67) then (K false) else (K true)))))))
noncomputable def Ys.w {β : Type} (r : LD → LD → Option (Bool)) (a0 a1 : LD) (K : Bool → Option β) : Option β := bd1 (r a0 a1) K
noncomputable def YM.w {β : Type} (r : Int → BA → Int → LD → LD → Int → BA → Int → LD → LD → Option (Bool)) (aB : Int) (aA : BA) (aG : Int) (aE aF : LD) (aX : Int) (aY : BA) (bA : Int) (bB bC : LD) (K : Bool → Option β) : Option β := bd1 (r aB aA aG aE aF aX aY bA bB bC) K
noncomputable def Ys.all : Nat → (LD → LD → Option (Bool)) × (Int → BA → Int → LD → LD → Int → BA → Int → LD → LD → Option (Bool))
 | 0 => (fun _ _ => none, fun _ _ _ _ _ _ _ _ _ _ => none)
 | k + 1 => (fun r => (fun a0 a1 => Ys.body k (Ys.w r.1) (YM.w r.2) a0 a1 (fun z0 => some z0), fun aB aA aG aE aF aX aY bA bB bC => YM.body k (Ys.w r.1) (YM.w r.2) aB aA aG aE aF aX aY bA bB bC (fun z0 => some z0))) (Ys.all k)
noncomputable def Ys.t (k : Nat) (a0 a1 : LD) : Option (Bool) := (Ys.all k).1 a0 a1
noncomputable def YM.t (k : Nat) (aB : Int) (aA : BA) (aG : Int) (aE aF : LD) (aX : Int) (aY : BA) (bA : Int) (bB bC : LD) : Option (Bool) := (Ys.all k).2 aB aA aG aE aF aX aY bA bB bC
noncomputable def Ys.f {β : Type} (k : Nat) (a0 a1 : LD) (K : Bool → Option β) : Option β := Ys.w (Ys.t k) a0 a1 K
noncomputable def YM.f {β : Type} (k : Nat) (aB : Int) (aA : BA) (aG : Int) (aE aF : LD) (aX : Int) (aY : BA) (bA : Int) (bB bC : LD) (K : Bool → Option β) : Option β := YM.w (YM.t k) aB aA aG aE aF aX aY bA bB bC K
noncomputable def Ys.g {β : Type} (k : Nat) (a0 a1 : LD) (K : Bool → Option β) : Option β := Ys.body k (Ys.f k) (YM.f k) a0 a1 K
theorem Ys.t_succ (k : Nat) (a0 a1 : LD) : Ys.t (k + 1) a0 a1 = Ys.g k a0 a1 (fun z0 => some z0) := rfl
noncomputable def YM.g {β : Type} (k : Nat) (aB : Int) (aA : BA) (aG : Int) (aE aF : LD) (aX : Int) (aY : BA) (bA : Int) (bB bC : LD) (K : Bool → Option β) : Option β := YM.body k (Ys.f k) (YM.f k) aB aA aG aE aF aX aY bA bB bC K
theorem YM.t_succ (k : Nat) (aB : Int) (aA : BA) (aG : Int) (aE aF : LD) (aX : Int) (aY : BA) (bA : Int) (bB bC : LD) : YM.t (k + 1) aB aA aG aE aF aX aY bA bB bC = YM.g k aB aA aG aE aF aX aY bA bB bC (fun z0 => some z0) := rfl
noncomputable def Ys.e (k : Nat) : Zk := ent [.d .l, .d .l] [1] [.b] [4] false (Ys.t k)
noncomputable def YM.e (k : Nat) : Zk := ent [.agg [.n, .s, .n, .l, .l], .agg [.n, .s, .n, .l, .l]] [1] [.b] [4] false (YM.t k)
noncomputable def Ys.p (k : Nat) : Pro := ⟨Try.prog, [(83, YM.e k)], Zn [(4, kp [0, 1, 5])] false [], k⟩
noncomputable def Ys.d (k : Nat) (a0 a1 : LD) : Ex → St → Option (Bool) := (Ys.p k).fin Try.f101 [.d (.sl a0), .d (.sl a1)] [1] [.b]
noncomputable def Ys.s0 (aC aD : LD) (v : Int) : St :=
 match v with
 | aH => ZX 27 [(0, .d false (.sl aC)), (1, .d false (.sl aD)), (5, .d true (.int .i64 aH))] []
noncomputable def Ys.r0 (k : Nat) (a0 a1 aC aD : LD) (n : Nat) (v : Int) : Option (Bool) := (Ys.p k).lp (Zt Try.f101) 4 [1, 1, 0, 1, 0] (Ys.d k a0 a1) n (Ys.s0 aC aD v)
theorem Ys.l0_eq (k : Nat) (a0 a1 aC aD : LD) : ∀ n v, Ys.r0 k a0 a1 aC aD n v = Zo (Ys.l0 k (Ys.f k) (YM.f k) aC aD (fun z0 => some z0)) n v :=
 Zm (Ys.s0 aC aD) _ fun L0 v => by kernel_rfl
noncomputable def YM.p (k : Nat) : Pro := ⟨Try.prog, [(97, YB.e k), (101, Ys.e k)], Zn [] false [], k⟩
theorem Ys.oks (k : Nat) : Za Try.prog 101 (Ys.e k) ∧ Za Try.prog 83 (YM.e k) := by
 induction k with
 | zero => exact ⟨Z7 Try.func101 (by kernel_rfl) (fun _ _ => rfl),
  Z7 Try.func83 (by kernel_rfl) (fun _ _ _ _ _ _ _ _ _ _ => rfl)⟩
 | succ k ih => exact ⟨Zh (Ys.p k) mix tyok Try.func101 ih.2 (by kernel_rfl) (fun a0 a1 => Eq.trans (b := Ys.m k (Ys.f k) (YM.f k) a0 a1 (fun z0 => some z0) (fun aC aD => Ys.r0 k a0 a1 aC aD k)) (by kernel_rfl) ((congrArg (Ys.m k (Ys.f k) (YM.f k) a0 a1 (fun z0 => some z0)) (funext fun aC => funext fun aD => funext fun v => Ys.l0_eq k a0 a1 aC aD k v)).trans (Ys.t_succ k a0 a1).symm)),
  Zh (YM.p k) mix tyok Try.func83 ⟨YB.ok k, ih.1⟩ (by kernel_rfl) (fun aB aA aG aE aF aX aY bA bB bC => by show _ = _; kernel_rfl)⟩
theorem YM.ok (k : Nat) : Za Try.prog 83 (YM.e k) := (Ys.oks k).2
noncomputable def Yat.g {β : Type} (k : Nat) (aB : Int) (aA : BA) (aG aE aF : Int) (aV : Bool) (aO : LD) (aS : Int) (aK : BA) (aT : Int) (aL aP : LD) (aQ : Int) (aM : BA) (aU : Int) (aN aR : LD) (aX : Int) (aY : BA) (bA bB bC : Int) (bE : Bool) (bF : LD) (bG : Int) (bH : BA) (bI : Int) (bJ bK : LD) (bL : Int) (bM : BA) (bN : Int) (bO bP : LD) (K : Bool → Option β) : Option β :=
 bif ((aB : Int) != aX) then (K false) else (bif (!(Zae aA aY)) then (K false) else (bif ((aG : Int) != bA) then (K false) else (bif ((aE : Int) != bB) then (K false) else (bif ((aF : Int) != bC) then (K false) else (bif (!(aV == bE)) then (K false) else (YB.f k aO bF (fun y17 => bif (!y17) then (K false) else (YM.f k aS aK aT aL aP bG bH bI bJ bK (fun y68 => bif (!y68) then (K false) else (YM.f k aQ aM aU aN aR bL bM bN bO bP (fun y69 => bif (!y69) then (K false) else (K true))))))))))))
noncomputable def Yat.t (k : Nat) (aB : Int) (aA : BA) (aG aE aF : Int) (aV : Bool) (aO : LD) (aS : Int) (aK : BA) (aT : Int) (aL aP : LD) (aQ : Int) (aM : BA) (aU : Int) (aN aR : LD) (aX : Int) (aY : BA) (bA bB bC : Int) (bE : Bool) (bF : LD) (bG : Int) (bH : BA) (bI : Int) (bJ bK : LD) (bL : Int) (bM : BA) (bN : Int) (bO bP : LD) : Option (Bool) := Yat.g k aB aA aG aE aF aV aO aS aK aT aL aP aQ aM aU aN aR aX aY bA bB bC bE bF bG bH bI bJ bK bL bM bN bO bP (fun z0 => some z0)
noncomputable def Yat.f {β : Type} (k : Nat) (aB : Int) (aA : BA) (aG aE aF : Int) (aV : Bool) (aO : LD) (aS : Int) (aK : BA) (aT : Int) (aL aP : LD) (aQ : Int) (aM : BA) (aU : Int) (aN aR : LD) (aX : Int) (aY : BA) (bA bB bC : Int) (bE : Bool) (bF : LD) (bG : Int) (bH : BA) (bI : Int) (bJ bK : LD) (bL : Int) (bM : BA) (bN : Int) (bO bP : LD) (K : Bool → Option β) : Option β := bd1 (Yat.t k aB aA aG aE aF aV aO aS aK aT aL aP aQ aM aU aN aR aX aY bA bB bC bE bF bG bH bI bJ bK bL bM bN bO bP) K
noncomputable def Yat.e (k : Nat) : Zk := ent [.agg [.n, .s, .n, .n, .n, .b, .l, .n, .s, .n, .l, .l, .n, .s, .n, .l, .l], .agg [.n, .s, .n, .n, .n, .b, .l, .n, .s, .n, .l, .l, .n, .s, .n, .l, .l]] [1] [.b] [4] false (Yat.t k)
noncomputable def Yat.p (k : Nat) : Pro := ⟨Try.prog, [(97, YB.e k), (83, YM.e k)], Zn [] false [], k⟩
theorem Yat.ok (k : Nat) : Za Try.prog 76 (Yat.e k) := Zh (Yat.p k) mix tyok Try.func76 ⟨YB.ok k, YM.ok k⟩ (by kernel_rfl) (fun aB aA aG aE aF aV aO aS aK aT aL aP aQ aM aU aN aR aX aY bA bB bC bE bF bG bH bI bJ bK bL bM bN bO bP => by show _ = _; kernel_rfl)
noncomputable def YV.l0 {β : Type} (k : Nat) (aC aD : LD) (K : Bool → Option β) (L0 : Int → Option β) (v : Int) : Option β :=
 match v with
 | aH => bif (decide ((aH : Int) < (aC.length : Int))) then (atR aC aH [.n, .s, .n, .n, .n, .b, .l, .n, .s, .n, .l, .l, .n, .s, .n, .l, .l] fun x109 x112 x115 x118 x121 x124 x127 x130 x133 x136 x139 x142 x145 x148 x151 x154 x157 => (atR aD aH [.n, .s, .n, .n, .n, .b, .l, .n, .s, .n, .l, .l, .n, .s, .n, .l, .l] fun x161 x164 x167 x170 x173 x176 x179 x182 x185 x188 x191 x194 x197 x200 x203 x206 x209 => (Yat.f k x109 x112 x115 x118 x121 x124 x127 x130 x133 x136 x139 x142 x145 x148 x151 x154 x157 x161 x164 x167 x170 x173 x176 x179 x182 x185 x188 x191 x194 x197 x200 x203 x206 x209 (fun y210 => bif (!y210) then (K false) else (L0 (IntKind.wrap .i64 (aH + 1))))))) else (K true)
noncomputable def YV.m {β : Type} (k : Nat) (a0 a1 : LD) (K : Bool → Option β) (F : (LD → LD → Int → Option β)) : Option β :=
 bif (((a0.length : Int) : Int) != (a1.length : Int)) then (K false) else (F a0 a1 (0))
noncomputable def YV.g {β : Type} (k : Nat) (a0 a1 : LD) (K : Bool → Option β) : Option β :=
 bif (((a0.length : Int) : Int) != (a1.length : Int)) then (K false) else (Zo (YV.l0 k a0 a1 K) k (0))
noncomputable def YV.t (k : Nat) (a0 a1 : LD) : Option (Bool) := YV.g k a0 a1 (fun z0 => some z0)
noncomputable def YV.f {β : Type} (k : Nat) (a0 a1 : LD) (K : Bool → Option β) : Option β := bd1 (YV.t k a0 a1) K
noncomputable def YV.e (k : Nat) : Zk := ent [.d .l, .d .l] [1] [.b] [4] false (YV.t k)
noncomputable def YV.p (k : Nat) : Pro := ⟨Try.prog, [(76, Yat.e k)], Zn [(4, kp [0, 1, 5])] false [], k⟩
noncomputable def YV.d (k : Nat) (a0 a1 : LD) : Ex → St → Option (Bool) := (YV.p k).fin Try.f50 [.d (.sl a0), .d (.sl a1)] [1] [.b]
noncomputable def YV.s0 (aC aD : LD) (v : Int) : St :=
 match v with
 | aH => ZX 27 [(0, .d false (.sl aC)), (1, .d false (.sl aD)), (5, .d true (.int .i64 aH))] []
noncomputable def YV.r0 (k : Nat) (a0 a1 aC aD : LD) (n : Nat) (v : Int) : Option (Bool) := (YV.p k).lp (Zt Try.f50) 4 [1, 1, 0, 1, 0] (YV.d k a0 a1) n (YV.s0 aC aD v)
theorem YV.l0_eq (k : Nat) (a0 a1 aC aD : LD) : ∀ n v, YV.r0 k a0 a1 aC aD n v = Zo (YV.l0 k aC aD (fun z0 => some z0)) n v :=
 Zm (YV.s0 aC aD) _ fun L0 v => by kernel_rfl
theorem YV.ok (k : Nat) : Za Try.prog 50 (YV.e k) := Zh (YV.p k) mix tyok Try.func50 (Yat.ok k) (by kernel_rfl) (fun a0 a1 => Eq.trans (b := YV.m k a0 a1 (fun z0 => some z0) (fun aC aD => YV.r0 k a0 a1 aC aD k)) (by kernel_rfl) (congrArg (YV.m k a0 a1 (fun z0 => some z0)) (funext fun aC => funext fun aD => funext fun v => YV.l0_eq k a0 a1 aC aD k v) :))
noncomputable def Y6.g {β : Type} (k : Nat) (aB : Int) (aA : LD) (aX : Int) (aY : LD) (K : Bool → Option β) : Option β :=
 bif ((aB : Int) != aX) then (K false) else (YV.f k aA aY (fun y211 => bif (!y211) then (K false) else (K true)))
noncomputable def Y6.t (k : Nat) (aB : Int) (aA : LD) (aX : Int) (aY : LD) : Option (Bool) := Y6.g k aB aA aX aY (fun z0 => some z0)
noncomputable def Y6.f {β : Type} (k : Nat) (aB : Int) (aA : LD) (aX : Int) (aY : LD) (K : Bool → Option β) : Option β := bd1 (Y6.t k aB aA aX aY) K
noncomputable def Y6.e (k : Nat) : Zk := ent [.agg [.n, .l], .agg [.n, .l]] [1] [.b] [4] false (Y6.t k)
noncomputable def Y6.p (k : Nat) : Pro := ⟨Try.prog, [(50, YV.e k)], Zn [] false [], k⟩
theorem Y6.ok (k : Nat) : Za Try.prog 20 (Y6.e k) := Zh (Y6.p k) mix tyok Try.func20 (YV.ok k) (by kernel_rfl) (fun aB aA aX aY => by show _ = _; kernel_rfl)
end Go.Proofs.Ytlobhlnahhjpjaa
