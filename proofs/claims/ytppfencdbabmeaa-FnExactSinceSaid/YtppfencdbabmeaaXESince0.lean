/- Printed: the functions that FnExactSince reaches, read by the evaluator, each with its contract. -/
import Derived.Test.YtppfencdbabmeaaTIns
import Derived.Test.YtppfencdbabmeaaProg
import Derived.KernelRfl
set_option linter.unusedVariables false
set_option linter.unusedSimpArgs false
namespace Go.Proofs.Ytppfencdbabmeaa
open Go Go.T Go.Proofs
theorem mix : Try.prog.follows .mixedOrders = true := by kernel_rfl
theorem tyok : ZaI Try.prog := tyOk_of (by kernel_rfl)
noncomputable def YB.l0 {β : Type} (k : Nat) (aH : List (List D)) (K : Int → Option β) (L0 : (Int × Int) → Option β) (v : Int × Int) : Option β :=
  match v with
  | (aF, aJ) => bif (decide ((aJ : Int) < (aH.length : Int))) then (atR aH aJ [.s] fun x8 => (bif (decide (((IntKind.wrap .i64 (aF - (x8.size : Int))) : Int) < 0)) then (K (-1)) else (L0 (IntKind.wrap .i64 (aF - (x8.size : Int)), IntKind.wrap .i64 (aJ + 1))))) else (K aF)
noncomputable def YB.m {β : Type} (k : Nat) (a0 : List (List D)) (a1 : Int) (K : Int → Option β) (F : ((List (List D)) → (Int × Int) → Option β)) : Option β :=
  bif (decide (((IntKind.wrap .i64 (a1 - (a0.length : Int))) : Int) < 0)) then (K (-1)) else (F a0 (IntKind.wrap .i64 (a1 - (a0.length : Int)), 0))
noncomputable def YB.g {β : Type} (k : Nat) (a0 : List (List D)) (a1 : Int) (K : Int → Option β) : Option β :=
  bif (decide (((IntKind.wrap .i64 (a1 - (a0.length : Int))) : Int) < 0)) then (K (-1)) else (Zo (YB.l0 k a0 K) k (IntKind.wrap .i64 (a1 - (a0.length : Int)), 0))
noncomputable def YB.t (k : Nat) (a0 : List (List D)) (a1 : Int) : Option (Int) := YB.g k a0 a1 (fun z0 => some z0)
noncomputable def YB.f {β : Type} (k : Nat) (a0 : List (List D)) (a1 : Int) (K : Int → Option β) : Option β := bd1 (YB.t k a0 a1) K
noncomputable def YB.e (k : Nat) : Zk := ent [.d .l, .d .n] [1] [.n] [3] false (YB.t k)
noncomputable def YB.p (k : Nat) : Pro := ⟨Try.prog, [], Zn [(5, kp [0, 1, 5])] false [], k⟩
noncomputable def YB.d (k : Nat) (a0 : List (List D)) (a1 : Int) : Ex → St → Option (Int) := (YB.p k).fin Try.f178 [.d (.sl a0), .d (.int .i64 a1)] [1] [.n]
noncomputable def YB.s0 (aH : List (List D)) (v : Int × Int) : St :=
  match v with
  | (aF, aJ) => ZX 28 [(0, .d false (.sl aH)), (1, .d true (.int .i64 aF)), (5, .d true (.int .i64 aJ))] []
noncomputable def YB.r0 (k : Nat) (a0 : List (List D)) (a1 : Int) (aH : List (List D)) (n : Nat) (v : Int × Int) : Option (Int) := (YB.p k).lp (Zt Try.f178) 5 [1, 1, 1, 0, 1, 0] (YB.d k a0 a1) n (YB.s0 aH v)
theorem YB.l0_eq (k : Nat) (a0 : List (List D)) (a1 : Int) (aH : List (List D)) : ∀ n v, YB.r0 k a0 a1 aH n v = Zo (YB.l0 k aH (fun z0 => some z0)) n v :=
  Zm (YB.s0 aH) _ fun L0 v => by obtain ⟨aF, aJ⟩ := v; kernel_rfl
theorem YB.ok (k : Nat) : Za Try.prog 178 (YB.e k) := Zh (YB.p k) mix tyok Try.func178 trivial (by kernel_rfl) (fun a0 a1 => Eq.trans (b := YB.m k a0 a1 (fun z0 => some z0) (fun aH => YB.r0 k a0 a1 aH k)) (by kernel_rfl) (congrArg (YB.m k a0 a1 (fun z0 => some z0)) (funext fun aH => funext fun v => YB.l0_eq k a0 a1 aH k v)))
noncomputable def Yr.l0 {β : Type} (k : Nat) (r_laws_szValueS : (List (List D)) → Int → (Int → Option β) → Option β) (r_laws_szValue : Int → ByteArray → Int → (List (List D)) → (List (List D)) → Int → (Int → Option β) → Option β) (aH : List (List D)) (K : Int → Option β) (L0 : (Int × Int) → Option β) (v : Int × Int) : Option β :=
  match v with
  | (aF, aJ) => bif (decide ((aJ : Int) < (aH.length : Int))) then (atR aH aJ [.n, .s, .n, .l, .l] fun x21 x24 x27 x30 x33 => (r_laws_szValue x21 x24 x27 x30 x33 aF (fun y34 => bif (decide ((y34 : Int) < 0)) then (K (-1)) else (L0 (y34, IntKind.wrap .i64 (aJ + 1)))))) else (K aF)
noncomputable def Yr.m {β : Type} (k : Nat) (r_laws_szValueS : (List (List D)) → Int → (Int → Option β) → Option β) (r_laws_szValue : Int → ByteArray → Int → (List (List D)) → (List (List D)) → Int → (Int → Option β) → Option β) (a0 : List (List D)) (a1 : Int) (K : Int → Option β) (F : ((List (List D)) → (Int × Int) → Option β)) : Option β :=
  bif (decide (((IntKind.wrap .i64 (a1 - (a0.length : Int))) : Int) < 0)) then (K (-1)) else (F a0 (IntKind.wrap .i64 (a1 - (a0.length : Int)), 0))
noncomputable def Yr.body {β : Type} (k : Nat) (r_laws_szValueS : (List (List D)) → Int → (Int → Option β) → Option β) (r_laws_szValue : Int → ByteArray → Int → (List (List D)) → (List (List D)) → Int → (Int → Option β) → Option β) (a0 : List (List D)) (a1 : Int) (K : Int → Option β) : Option β :=
  bif (decide (((IntKind.wrap .i64 (a1 - (a0.length : Int))) : Int) < 0)) then (K (-1)) else (Zo (Yr.l0 k r_laws_szValueS r_laws_szValue a0 K) k (IntKind.wrap .i64 (a1 - (a0.length : Int)), 0))
noncomputable def YK.body {β : Type} (k : Nat) (r_laws_szValueS : (List (List D)) → Int → (Int → Option β) → Option β) (r_laws_szValue : Int → ByteArray → Int → (List (List D)) → (List (List D)) → Int → (Int → Option β) → Option β) (aC : Int) (aB : ByteArray) (aD : Int) (aA : List (List D)) (aI : List (List D)) (a1 : Int) (K : Int → Option β) : Option β :=
  bif (decide (((IntKind.wrap .i64 (a1 - (aB.size : Int))) : Int) < 0)) then (K (-1)) else (YB.f k aA (IntKind.wrap .i64 (a1 - (aB.size : Int))) (fun y1 => bif (decide ((y1 : Int) < 0)) then (K (-1)) else (r_laws_szValueS aI y1 (fun y35 => bif (decide ((y35 : Int) < 0)) then (K (-1)) else (K y35)))))
noncomputable def Yr.w {β : Type} (r : (List (List D)) → Int → Option (Int)) (a0 : List (List D)) (a1 : Int) (K : Int → Option β) : Option β := bd1 (r a0 a1) K
noncomputable def YK.w {β : Type} (r : Int → ByteArray → Int → (List (List D)) → (List (List D)) → Int → Option (Int)) (aC : Int) (aB : ByteArray) (aD : Int) (aA : List (List D)) (aI : List (List D)) (a1 : Int) (K : Int → Option β) : Option β := bd1 (r aC aB aD aA aI a1) K
noncomputable def Yr.all : Nat → ((List (List D)) → Int → Option (Int)) × (Int → ByteArray → Int → (List (List D)) → (List (List D)) → Int → Option (Int))
  | 0 => (fun _ _ => none, fun _ _ _ _ _ _ => none)
  | k + 1 => (fun r => (fun a0 a1 => Yr.body k (Yr.w r.1) (YK.w r.2) a0 a1 (fun z0 => some z0), fun aC aB aD aA aI a1 => YK.body k (Yr.w r.1) (YK.w r.2) aC aB aD aA aI a1 (fun z0 => some z0))) (Yr.all k)
noncomputable def Yr.t (k : Nat) (a0 : List (List D)) (a1 : Int) : Option (Int) := (Yr.all k).1 a0 a1
noncomputable def YK.t (k : Nat) (aC : Int) (aB : ByteArray) (aD : Int) (aA aI : List (List D)) (a1 : Int) : Option (Int) := (Yr.all k).2 aC aB aD aA aI a1
noncomputable def Yr.f {β : Type} (k : Nat) (a0 : List (List D)) (a1 : Int) (K : Int → Option β) : Option β := Yr.w (Yr.t k) a0 a1 K
noncomputable def YK.f {β : Type} (k : Nat) (aC : Int) (aB : ByteArray) (aD : Int) (aA aI : List (List D)) (a1 : Int) (K : Int → Option β) : Option β := YK.w (YK.t k) aC aB aD aA aI a1 K
noncomputable def Yr.g {β : Type} (k : Nat) (a0 : List (List D)) (a1 : Int) (K : Int → Option β) : Option β := Yr.body k (Yr.f k) (YK.f k) a0 a1 K
theorem Yr.t_succ (k : Nat) (a0 : List (List D)) (a1 : Int) : Yr.t (k + 1) a0 a1 = Yr.g k a0 a1 (fun z0 => some z0) := rfl
noncomputable def YK.g {β : Type} (k : Nat) (aC : Int) (aB : ByteArray) (aD : Int) (aA aI : List (List D)) (a1 : Int) (K : Int → Option β) : Option β := YK.body k (Yr.f k) (YK.f k) aC aB aD aA aI a1 K
theorem YK.t_succ (k : Nat) (aC : Int) (aB : ByteArray) (aD : Int) (aA aI : List (List D)) (a1 : Int) : YK.t (k + 1) aC aB aD aA aI a1 = YK.g k aC aB aD aA aI a1 (fun z0 => some z0) := rfl
noncomputable def Yr.e (k : Nat) : Zk := ent [.d .l, .d .n] [1] [.n] [3] false (Yr.t k)
noncomputable def YK.e (k : Nat) : Zk := ent [.agg [.n, .s, .n, .l, .l], .d .n] [1] [.n] [3] false (YK.t k)
noncomputable def Yr.p (k : Nat) : Pro := ⟨Try.prog, [(179, YK.e k)], Zn [(5, kp [0, 1, 5])] false [], k⟩
noncomputable def Yr.d (k : Nat) (a0 : List (List D)) (a1 : Int) : Ex → St → Option (Int) := (Yr.p k).fin Try.f204 [.d (.sl a0), .d (.int .i64 a1)] [1] [.n]
noncomputable def Yr.s0 (aH : List (List D)) (v : Int × Int) : St :=
  match v with
  | (aF, aJ) => ZX 27 [(0, .d false (.sl aH)), (1, .d true (.int .i64 aF)), (5, .d true (.int .i64 aJ))] []
noncomputable def Yr.r0 (k : Nat) (a0 : List (List D)) (a1 : Int) (aH : List (List D)) (n : Nat) (v : Int × Int) : Option (Int) := (Yr.p k).lp (Zt Try.f204) 5 [1, 1, 1, 0, 1, 0] (Yr.d k a0 a1) n (Yr.s0 aH v)
theorem Yr.l0_eq (k : Nat) (a0 : List (List D)) (a1 : Int) (aH : List (List D)) : ∀ n v, Yr.r0 k a0 a1 aH n v = Zo (Yr.l0 k (Yr.f k) (YK.f k) aH (fun z0 => some z0)) n v :=
  Zm (Yr.s0 aH) _ fun L0 v => by obtain ⟨aF, aJ⟩ := v; kernel_rfl
noncomputable def YK.p (k : Nat) : Pro := ⟨Try.prog, [(178, YB.e k), (204, Yr.e k)], Zn [] false [], k⟩
theorem Yr.oks (k : Nat) : Za Try.prog 204 (Yr.e k) ∧ Za Try.prog 179 (YK.e k) := by
  induction k with
  | zero => exact ⟨Z7 Try.func204 (by kernel_rfl) (fun _ _ => rfl),
    Z7 Try.func179 (by kernel_rfl) (fun _ _ _ _ _ _ => rfl)⟩
  | succ k ih => exact ⟨Zh (Yr.p k) mix tyok Try.func204 ih.2 (by kernel_rfl) (fun a0 a1 => Eq.trans (b := Yr.m k (Yr.f k) (YK.f k) a0 a1 (fun z0 => some z0) (fun aH => Yr.r0 k a0 a1 aH k)) (by kernel_rfl) ((congrArg (Yr.m k (Yr.f k) (YK.f k) a0 a1 (fun z0 => some z0)) (funext fun aH => funext fun v => Yr.l0_eq k a0 a1 aH k v)).trans (Yr.t_succ k a0 a1).symm)),
    Zh (YK.p k) mix tyok Try.func179 ⟨YB.ok k, ih.1⟩ (by kernel_rfl) (fun aC aB aD aA aI a1 => by show _ = _; kernel_rfl)⟩
theorem YK.ok (k : Nat) : Za Try.prog 179 (YK.e k) := (Yr.oks k).2
noncomputable def Yag.g {β : Type} (k : Nat) (aC : Int) (aB : ByteArray) (aD aA aI : Int) (aX : Bool) (aP : List (List D)) (aU : Int) (aL : ByteArray) (aV : Int) (aM aQ : List (List D)) (aT : Int) (aN : ByteArray) (aW : Int) (aO aR : List (List D)) (a1 : Int) (K : Int → Option β) : Option β :=
  bif (decide (((IntKind.wrap .i64 (a1 - (aB.size : Int))) : Int) < 0)) then (K (-1)) else (YB.f k aP (IntKind.wrap .i64 (a1 - (aB.size : Int))) (fun y9 => bif (decide ((y9 : Int) < 0)) then (K (-1)) else (YK.f k aU aL aV aM aQ y9 (fun y36 => bif (decide ((y36 : Int) < 0)) then (K (-1)) else (YK.f k aT aN aW aO aR y36 (fun y37 => bif (decide ((y37 : Int) < 0)) then (K (-1)) else (K y37)))))))
noncomputable def Yag.t (k : Nat) (aC : Int) (aB : ByteArray) (aD aA aI : Int) (aX : Bool) (aP : List (List D)) (aU : Int) (aL : ByteArray) (aV : Int) (aM aQ : List (List D)) (aT : Int) (aN : ByteArray) (aW : Int) (aO aR : List (List D)) (a1 : Int) : Option (Int) := Yag.g k aC aB aD aA aI aX aP aU aL aV aM aQ aT aN aW aO aR a1 (fun z0 => some z0)
noncomputable def Yag.f {β : Type} (k : Nat) (aC : Int) (aB : ByteArray) (aD aA aI : Int) (aX : Bool) (aP : List (List D)) (aU : Int) (aL : ByteArray) (aV : Int) (aM aQ : List (List D)) (aT : Int) (aN : ByteArray) (aW : Int) (aO aR : List (List D)) (a1 : Int) (K : Int → Option β) : Option β := bd1 (Yag.t k aC aB aD aA aI aX aP aU aL aV aM aQ aT aN aW aO aR a1) K
noncomputable def Yag.e (k : Nat) : Zk := ent [.agg [.n, .s, .n, .n, .n, .b, .l, .n, .s, .n, .l, .l, .n, .s, .n, .l, .l], .d .n] [1] [.n] [3] false (Yag.t k)
noncomputable def Yag.p (k : Nat) : Pro := ⟨Try.prog, [(178, YB.e k), (179, YK.e k)], Zn [] false [], k⟩
theorem Yag.ok (k : Nat) : Za Try.prog 132 (Yag.e k) := Zh (Yag.p k) mix tyok Try.func132 ⟨YB.ok k, YK.ok k⟩ (by kernel_rfl) (fun aC aB aD aA aI aX aP aU aL aV aM aQ aT aN aW aO aR a1 => by show _ = _; kernel_rfl)
noncomputable def YS.l0 {β : Type} (k : Nat) (aH : List (List D)) (K : Int → Option β) (L0 : (Int × Int) → Option β) (v : Int × Int) : Option β :=
  match v with
  | (aF, aJ) => bif (decide ((aJ : Int) < (aH.length : Int))) then (atR aH aJ [.n, .s, .n, .n, .n, .b, .l, .n, .s, .n, .l, .l, .n, .s, .n, .l, .l] fun x57 x60 x63 x66 x69 x72 x75 x78 x81 x84 x87 x90 x93 x96 x99 x102 x105 => (Yag.f k x57 x60 x63 x66 x69 x72 x75 x78 x81 x84 x87 x90 x93 x96 x99 x102 x105 aF (fun y106 => bif (decide ((y106 : Int) < 0)) then (K (-1)) else (L0 (y106, IntKind.wrap .i64 (aJ + 1)))))) else (K aF)
noncomputable def YS.m {β : Type} (k : Nat) (a0 : List (List D)) (a1 : Int) (K : Int → Option β) (F : ((List (List D)) → (Int × Int) → Option β)) : Option β :=
  bif (decide (((IntKind.wrap .i64 (a1 - (a0.length : Int))) : Int) < 0)) then (K (-1)) else (F a0 (IntKind.wrap .i64 (a1 - (a0.length : Int)), 0))
noncomputable def YS.g {β : Type} (k : Nat) (a0 : List (List D)) (a1 : Int) (K : Int → Option β) : Option β :=
  bif (decide (((IntKind.wrap .i64 (a1 - (a0.length : Int))) : Int) < 0)) then (K (-1)) else (Zo (YS.l0 k a0 K) k (IntKind.wrap .i64 (a1 - (a0.length : Int)), 0))
noncomputable def YS.t (k : Nat) (a0 : List (List D)) (a1 : Int) : Option (Int) := YS.g k a0 a1 (fun z0 => some z0)
noncomputable def YS.f {β : Type} (k : Nat) (a0 : List (List D)) (a1 : Int) (K : Int → Option β) : Option β := bd1 (YS.t k a0 a1) K
noncomputable def YS.e (k : Nat) : Zk := ent [.d .l, .d .n] [1] [.n] [3] false (YS.t k)
noncomputable def YS.p (k : Nat) : Pro := ⟨Try.prog, [(132, Yag.e k)], Zn [(5, kp [0, 1, 5])] false [], k⟩
noncomputable def YS.d (k : Nat) (a0 : List (List D)) (a1 : Int) : Ex → St → Option (Int) := (YS.p k).fin Try.f55 [.d (.sl a0), .d (.int .i64 a1)] [1] [.n]
noncomputable def YS.s0 (aH : List (List D)) (v : Int × Int) : St :=
  match v with
  | (aF, aJ) => ZX 27 [(0, .d false (.sl aH)), (1, .d true (.int .i64 aF)), (5, .d true (.int .i64 aJ))] []
noncomputable def YS.r0 (k : Nat) (a0 : List (List D)) (a1 : Int) (aH : List (List D)) (n : Nat) (v : Int × Int) : Option (Int) := (YS.p k).lp (Zt Try.f55) 5 [1, 1, 1, 0, 1, 0] (YS.d k a0 a1) n (YS.s0 aH v)
theorem YS.l0_eq (k : Nat) (a0 : List (List D)) (a1 : Int) (aH : List (List D)) : ∀ n v, YS.r0 k a0 a1 aH n v = Zo (YS.l0 k aH (fun z0 => some z0)) n v :=
  Zm (YS.s0 aH) _ fun L0 v => by obtain ⟨aF, aJ⟩ := v; kernel_rfl
theorem YS.ok (k : Nat) : Za Try.prog 55 (YS.e k) := Zh (YS.p k) mix tyok Try.func55 (Yag.ok k) (by kernel_rfl) (fun a0 a1 => Eq.trans (b := YS.m k a0 a1 (fun z0 => some z0) (fun aH => YS.r0 k a0 a1 aH k)) (by kernel_rfl) (congrArg (YS.m k a0 a1 (fun z0 => some z0)) (funext fun aH => funext fun v => YS.l0_eq k a0 a1 aH k v)))
noncomputable def Y9.g {β : Type} (k : Nat) (aC : Int) (aB : Bool) (aD : Int) (aA : ByteArray) (aI aX aP : Int) (aU : Bool) (aL : List (List D)) (aV : Int) (aM : ByteArray) (aQ : Int) (aT aN : List (List D)) (aW : Int) (aO : ByteArray) (aR : Int) (bH bI : List (List D)) (a1 : Int) (K : Int → Option β) : Option β :=
  Yag.f k aD aA aI aX aP aU aL aV aM aQ aT aN aW aO aR bH bI a1 (fun y1 => bif (decide ((y1 : Int) < 0)) then (K (-1)) else (K y1))
noncomputable def Y9.t (k : Nat) (aC : Int) (aB : Bool) (aD : Int) (aA : ByteArray) (aI aX aP : Int) (aU : Bool) (aL : List (List D)) (aV : Int) (aM : ByteArray) (aQ : Int) (aT aN : List (List D)) (aW : Int) (aO : ByteArray) (aR : Int) (bH bI : List (List D)) (a1 : Int) : Option (Int) := Y9.g k aC aB aD aA aI aX aP aU aL aV aM aQ aT aN aW aO aR bH bI a1 (fun z0 => some z0)
noncomputable def Y9.f {β : Type} (k : Nat) (aC : Int) (aB : Bool) (aD : Int) (aA : ByteArray) (aI aX aP : Int) (aU : Bool) (aL : List (List D)) (aV : Int) (aM : ByteArray) (aQ : Int) (aT aN : List (List D)) (aW : Int) (aO : ByteArray) (aR : Int) (bH bI : List (List D)) (a1 : Int) (K : Int → Option β) : Option β := bd1 (Y9.t k aC aB aD aA aI aX aP aU aL aV aM aQ aT aN aW aO aR bH bI a1) K
noncomputable def Y9.e (k : Nat) : Zk := ent [.agg [.n, .b, .n, .s, .n, .n, .n, .b, .l, .n, .s, .n, .l, .l, .n, .s, .n, .l, .l], .d .n] [1] [.n] [3] false (Y9.t k)
noncomputable def Y9.p (k : Nat) : Pro := ⟨Try.prog, [(132, Yag.e k)], Zn [] false [], k⟩
theorem Y9.ok (k : Nat) : Za Try.prog 102 (Y9.e k) := Zh (Y9.p k) mix tyok Try.func102 (Yag.ok k) (by kernel_rfl) (fun aC aB aD aA aI aX aP aU aL aV aM aQ aT aN aW aO aR bH bI a1 => by show _ = _; kernel_rfl)
noncomputable def YF.l0 {β : Type} (k : Nat) (aH : List (List D)) (K : Int → Option β) (L0 : (Int × Int) → Option β) (v : Int × Int) : Option β :=
  match v with
  | (aF, aJ) => bif (decide ((aJ : Int) < (aH.length : Int))) then (atR aH aJ [.n, .b, .n, .s, .n, .n, .n, .b, .l, .n, .s, .n, .l, .l, .n, .s, .n, .l, .l] fun x63 x66 x69 x72 x75 x78 x81 x84 x87 x90 x93 x96 x99 x102 x105 x108 x111 x114 x117 => (Y9.f k x63 x66 x69 x72 x75 x78 x81 x84 x87 x90 x93 x96 x99 x102 x105 x108 x111 x114 x117 aF (fun y118 => bif (decide ((y118 : Int) < 0)) then (K (-1)) else (L0 (y118, IntKind.wrap .i64 (aJ + 1)))))) else (K aF)
noncomputable def YF.m {β : Type} (k : Nat) (a0 : List (List D)) (a1 : Int) (K : Int → Option β) (F : ((List (List D)) → (Int × Int) → Option β)) : Option β :=
  bif (decide (((IntKind.wrap .i64 (a1 - (a0.length : Int))) : Int) < 0)) then (K (-1)) else (F a0 (IntKind.wrap .i64 (a1 - (a0.length : Int)), 0))
noncomputable def YF.g {β : Type} (k : Nat) (a0 : List (List D)) (a1 : Int) (K : Int → Option β) : Option β :=
  bif (decide (((IntKind.wrap .i64 (a1 - (a0.length : Int))) : Int) < 0)) then (K (-1)) else (Zo (YF.l0 k a0 K) k (IntKind.wrap .i64 (a1 - (a0.length : Int)), 0))
noncomputable def YF.t (k : Nat) (a0 : List (List D)) (a1 : Int) : Option (Int) := YF.g k a0 a1 (fun z0 => some z0)
noncomputable def YF.f {β : Type} (k : Nat) (a0 : List (List D)) (a1 : Int) (K : Int → Option β) : Option β := bd1 (YF.t k a0 a1) K
noncomputable def YF.e (k : Nat) : Zk := ent [.d .l, .d .n] [1] [.n] [3] false (YF.t k)
noncomputable def YF.p (k : Nat) : Pro := ⟨Try.prog, [(102, Y9.e k)], Zn [(5, kp [0, 1, 5])] false [], k⟩
noncomputable def YF.d (k : Nat) (a0 : List (List D)) (a1 : Int) : Ex → St → Option (Int) := (YF.p k).fin Try.f34 [.d (.sl a0), .d (.int .i64 a1)] [1] [.n]
noncomputable def YF.s0 (aH : List (List D)) (v : Int × Int) : St :=
  match v with
  | (aF, aJ) => ZX 27 [(0, .d false (.sl aH)), (1, .d true (.int .i64 aF)), (5, .d true (.int .i64 aJ))] []
noncomputable def YF.r0 (k : Nat) (a0 : List (List D)) (a1 : Int) (aH : List (List D)) (n : Nat) (v : Int × Int) : Option (Int) := (YF.p k).lp (Zt Try.f34) 5 [1, 1, 1, 0, 1, 0] (YF.d k a0 a1) n (YF.s0 aH v)
theorem YF.l0_eq (k : Nat) (a0 : List (List D)) (a1 : Int) (aH : List (List D)) : ∀ n v, YF.r0 k a0 a1 aH n v = Zo (YF.l0 k aH (fun z0 => some z0)) n v :=
  Zm (YF.s0 aH) _ fun L0 v => by obtain ⟨aF, aJ⟩ := v; kernel_rfl
theorem YF.ok (k : Nat) : Za Try.prog 34 (YF.e k) := Zh (YF.p k) mix tyok Try.func34 (Y9.ok k) (by kernel_rfl) (fun a0 a1 => Eq.trans (b := YF.m k a0 a1 (fun z0 => some z0) (fun aH => YF.r0 k a0 a1 aH k)) (by kernel_rfl) (congrArg (YF.m k a0 a1 (fun z0 => some z0)) (funext fun aH => funext fun v => YF.l0_eq k a0 a1 aH k v)))
noncomputable def Yal.g {β : Type} (k : Nat) (aC : List (List D)) (aB aD : Int) (aA : List (List D)) (a1 : Int) (K : Int → Option β) : Option β :=
  YS.f k aC a1 (fun y107 => bif (decide ((y107 : Int) < 0)) then (K (-1)) else (YF.f k aA y107 (fun y119 => bif (decide ((y119 : Int) < 0)) then (K (-1)) else (K y119))))
noncomputable def Yal.t (k : Nat) (aC : List (List D)) (aB aD : Int) (aA : List (List D)) (a1 : Int) : Option (Int) := Yal.g k aC aB aD aA a1 (fun z0 => some z0)
noncomputable def Yal.f {β : Type} (k : Nat) (aC : List (List D)) (aB aD : Int) (aA : List (List D)) (a1 : Int) (K : Int → Option β) : Option β := bd1 (Yal.t k aC aB aD aA a1) K
noncomputable def Yal.e (k : Nat) : Zk := ent [.agg [.l, .n, .n, .l], .d .n] [1] [.n] [3] false (Yal.t k)
noncomputable def Yal.p (k : Nat) : Pro := ⟨Try.prog, [(55, YS.e k), (34, YF.e k)], Zn [] false [], k⟩
theorem Yal.ok (k : Nat) : Za Try.prog 10 (Yal.e k) := Zh (Yal.p k) mix tyok Try.func10 ⟨YS.ok k, YF.ok k⟩ (by kernel_rfl) (fun aC aB aD aA a1 => by show _ = _; kernel_rfl)
noncomputable def YA.l0 {β : Type} (k : Nat) (aH : List (List D)) (K : (List (List C)) → Option β) (L0 : (Int × (List (List C))) → Option β) (v : Int × (List (List C))) : Option β :=
  match v with
  | (aF, aJ) => bif (decide ((aF : Int) < (aH.length : Int))) then (atR aH aF [.s] fun x8 => (Zc ((0 : Int) ≤ aF ∧ aF < (aJ.length : Int)) (Zc (Int.toNat aF < aJ.length) (L0 (IntKind.wrap .i64 (aF + 1), aJ.modify (Int.toNat aF) fun c => Zq c 0 [.d (.str x8)]))))) else (K aJ)
noncomputable def YA.m {β : Type} (k : Nat) (a0 : List (List D)) (K : (List (List C)) → Option β) (F : ((List (List D)) → (Int × (List (List C))) → Option β)) : Option β :=
  Zc ((0 : Int) ≤ (a0.length : Int) ∧ (a0.length : Int) ≤ (ZN : Int) ∧ (a0.length : Int) ≤ (a0.length : Int) ∧ (a0.length : Int) ≤ (a0.length : Int)) (F a0 (0, List.replicate (Int.toNat (a0.length : Int)) ([.d (.str (⟨#[]⟩ : ByteArray))] : List C)))
noncomputable def YA.g {β : Type} (k : Nat) (a0 : List (List D)) (K : (List (List C)) → Option β) : Option β :=
  Zc ((0 : Int) ≤ (a0.length : Int) ∧ (a0.length : Int) ≤ (ZN : Int) ∧ (a0.length : Int) ≤ (a0.length : Int) ∧ (a0.length : Int) ≤ (a0.length : Int)) (Zo (YA.l0 k a0 K) k (0, List.replicate (Int.toNat (a0.length : Int)) ([.d (.str (⟨#[]⟩ : ByteArray))] : List C)))
noncomputable def YA.t (k : Nat) (a0 : List (List D)) : Option ((List (List C))) := YA.g k a0 (fun z0 => some z0)
noncomputable def YA.f {β : Type} (k : Nat) (a0 : List (List D)) (K : (List (List C)) → Option β) : Option β := bd1 (YA.t k a0) K
noncomputable def YA.e (k : Nat) : Zk := ent [.d .l] [1] [.o] [74] false (YA.t k)
noncomputable def YA.p (k : Nat) : Pro := ⟨Try.prog, [], Zn [(3, kp [0, 3, 4])] false [], k⟩
noncomputable def YA.d (k : Nat) (a0 : List (List D)) : Ex → St → Option ((List (List C))) := (YA.p k).fin Try.f183 [.d (.sl a0)] [1] [.o]
noncomputable def YA.s0 (aH : List (List D)) (v : Int × (List (List C))) : St :=
  match v with
  | (aF, aJ) => ZX 22 [(0, .d false (.sl aH)), (3, .row 0), (4, .d true (.int .i64 aF))] [.row none true 74 aJ]
noncomputable def YA.r0 (k : Nat) (a0 aH : List (List D)) (n : Nat) (v : Int × (List (List C))) : Option ((List (List C))) := (YA.p k).lp (Zt Try.f183) 3 [1, 1, 0, 1, 0] (YA.d k a0) n (YA.s0 aH v)
theorem YA.l0_eq (k : Nat) (a0 aH : List (List D)) : ∀ n v, YA.r0 k a0 aH n v = Zo (YA.l0 k aH (fun z0 => some z0)) n v :=
  Zm (YA.s0 aH) _ fun L0 v => by obtain ⟨aF, aJ⟩ := v; kernel_rfl
theorem YA.ok (k : Nat) : Za Try.prog 183 (YA.e k) := Zh (YA.p k) mix tyok Try.func183 trivial (by kernel_rfl) (fun a0 => Eq.trans (b := YA.m k a0 (fun z0 => some z0) (fun aH => YA.r0 k a0 aH k)) (by kernel_rfl) (congrArg (YA.m k a0 (fun z0 => some z0)) (funext fun aH => funext fun v => YA.l0_eq k a0 aH k v)))
noncomputable def Yq.l0 {β : Type} (k : Nat) (r_laws_toValueS : (List (List D)) → ((List (List C)) → Option β) → Option β) (r_laws_toValue : Int → ByteArray → Int → (List (List D)) → (List (List D)) → (Int → ByteArray → Int → (List (List C)) → (List (List C)) → Option β) → Option β) (aH : List (List D)) (K : (List (List C)) → Option β) (L0 : (Int × (List (List C))) → Option β) (v : Int × (List (List C))) : Option β :=
  match v with
  | (aF, aJ) => bif (decide ((aF : Int) < (aH.length : Int))) then (atR aH aF [.n, .s, .n, .l, .l] fun x25 x28 x31 x34 x37 => (r_laws_toValue x25 x28 x31 x34 x37 (fun y38 y39 y40 y41 y42 => Zc ((0 : Int) ≤ aF ∧ aF < (aJ.length : Int)) (Zc (Int.toNat aF < aJ.length) (L0 (IntKind.wrap .i64 (aF + 1), aJ.modify (Int.toNat aF) fun c => Zq c 0 [.d (.int .i64 y38), .d (.str y39), .d (.int .i64 y40), .own y41, .own y42])))))) else (K aJ)
noncomputable def Yq.m {β : Type} (k : Nat) (r_laws_toValueS : (List (List D)) → ((List (List C)) → Option β) → Option β) (r_laws_toValue : Int → ByteArray → Int → (List (List D)) → (List (List D)) → (Int → ByteArray → Int → (List (List C)) → (List (List C)) → Option β) → Option β) (a0 : List (List D)) (K : (List (List C)) → Option β) (F : ((List (List D)) → (Int × (List (List C))) → Option β)) : Option β :=
  Zc ((0 : Int) ≤ (a0.length : Int) ∧ (a0.length : Int) ≤ (ZN : Int) ∧ (a0.length : Int) ≤ (a0.length : Int) ∧ (a0.length : Int) ≤ (a0.length : Int)) (F a0 (0, List.replicate (Int.toNat (a0.length : Int)) ([.d (.int .i64 0), .d (.str (⟨#[]⟩ : ByteArray)), .d (.int .i64 0), .own ([] : List (List C)), .own ([] : List (List C))] : List C)))
noncomputable def Yq.body {β : Type} (k : Nat) (r_laws_toValueS : (List (List D)) → ((List (List C)) → Option β) → Option β) (r_laws_toValue : Int → ByteArray → Int → (List (List D)) → (List (List D)) → (Int → ByteArray → Int → (List (List C)) → (List (List C)) → Option β) → Option β) (a0 : List (List D)) (K : (List (List C)) → Option β) : Option β := Yq.m k r_laws_toValueS r_laws_toValue a0 K (fun aH => Zo (Yq.l0 k r_laws_toValueS r_laws_toValue aH K) k)
noncomputable def YJ.body {β : Type} (k : Nat) (r_laws_toValueS : (List (List D)) → ((List (List C)) → Option β) → Option β) (r_laws_toValue : Int → ByteArray → Int → (List (List D)) → (List (List D)) → (Int → ByteArray → Int → (List (List C)) → (List (List C)) → Option β) → Option β) (aC : Int) (aB : ByteArray) (aD : Int) (aA : List (List D)) (aI : List (List D)) (K : Int → ByteArray → Int → (List (List C)) → (List (List C)) → Option β) : Option β :=
  YA.f k aA (fun y1 => r_laws_toValueS aI (fun y43 => K aC aB aD y1 y43))
noncomputable def Yq.w {β : Type} (r : (List (List D)) → Option ((List (List C)))) (a0 : List (List D)) (K : (List (List C)) → Option β) : Option β := bd1 (r a0) K
noncomputable def YJ.w {β : Type} (r : Int → ByteArray → Int → (List (List D)) → (List (List D)) → Option (Int × ByteArray × Int × (List (List C)) × (List (List C)))) (aC : Int) (aB : ByteArray) (aD : Int) (aA : List (List D)) (aI : List (List D)) (K : Int → ByteArray → Int → (List (List C)) → (List (List C)) → Option β) : Option β := bd5 (r aC aB aD aA aI) K
noncomputable def Yq.all : Nat → ((List (List D)) → Option ((List (List C)))) × (Int → ByteArray → Int → (List (List D)) → (List (List D)) → Option (Int × ByteArray × Int × (List (List C)) × (List (List C))))
  | 0 => (fun _ => none, fun _ _ _ _ _ => none)
  | k + 1 => (fun r => (fun a0 => Yq.body k (Yq.w r.1) (YJ.w r.2) a0 (fun z0 => some z0), fun aC aB aD aA aI => YJ.body k (Yq.w r.1) (YJ.w r.2) aC aB aD aA aI (fun z0 z1 z2 z3 z4 => some (z0, z1, z2, z3, z4)))) (Yq.all k)
noncomputable def Yq.t (k : Nat) (a0 : List (List D)) : Option ((List (List C))) := (Yq.all k).1 a0
noncomputable def YJ.t (k : Nat) (aC : Int) (aB : ByteArray) (aD : Int) (aA aI : List (List D)) : Option (Int × ByteArray × Int × (List (List C)) × (List (List C))) := (Yq.all k).2 aC aB aD aA aI
noncomputable def Yq.f {β : Type} (k : Nat) (a0 : List (List D)) (K : (List (List C)) → Option β) : Option β := Yq.w (Yq.t k) a0 K
noncomputable def YJ.f {β : Type} (k : Nat) (aC : Int) (aB : ByteArray) (aD : Int) (aA aI : List (List D)) (K : Int → ByteArray → Int → (List (List C)) → (List (List C)) → Option β) : Option β := YJ.w (YJ.t k) aC aB aD aA aI K
noncomputable def Yq.g {β : Type} (k : Nat) (a0 : List (List D)) (K : (List (List C)) → Option β) : Option β := Yq.body k (Yq.f k) (YJ.f k) a0 K
theorem Yq.t_succ (k : Nat) (a0 : List (List D)) : Yq.t (k + 1) a0 = Yq.g k a0 (fun z0 => some z0) := rfl
noncomputable def YJ.g {β : Type} (k : Nat) (aC : Int) (aB : ByteArray) (aD : Int) (aA aI : List (List D)) (K : Int → ByteArray → Int → (List (List C)) → (List (List C)) → Option β) : Option β := YJ.body k (Yq.f k) (YJ.f k) aC aB aD aA aI K
theorem YJ.t_succ (k : Nat) (aC : Int) (aB : ByteArray) (aD : Int) (aA aI : List (List D)) : YJ.t (k + 1) aC aB aD aA aI = YJ.g k aC aB aD aA aI (fun z0 z1 z2 z3 z4 => some (z0, z1, z2, z3, z4)) := rfl
noncomputable def Yq.e (k : Nat) : Zk := ent [.d .l] [1] [.o] [93] false (Yq.t k)
noncomputable def YJ.e (k : Nat) : Zk := ent [.agg [.n, .s, .n, .l, .l]] [5] [.n, .s, .n, .o, .o] [95] false (YJ.t k)
noncomputable def Yq.p (k : Nat) : Pro := ⟨Try.prog, [(184, YJ.e k)], Zn [(3, kp [0, 3, 4])] false [], k⟩
noncomputable def Yq.d (k : Nat) (a0 : List (List D)) : Ex → St → Option ((List (List C))) := (Yq.p k).fin Try.f206 [.d (.sl a0)] [1] [.o]
noncomputable def Yq.s0 (aH : List (List D)) (v : Int × (List (List C))) : St :=
  match v with
  | (aF, aJ) => ZX 23 [(0, .d false (.sl aH)), (3, .row 0), (4, .d true (.int .i64 aF))] [.row none true 93 aJ]
noncomputable def Yq.r0 (k : Nat) (a0 aH : List (List D)) (n : Nat) (v : Int × (List (List C))) : Option ((List (List C))) := (Yq.p k).lp (Zt Try.f206) 3 [1, 1, 0, 1, 0] (Yq.d k a0) n (Yq.s0 aH v)
theorem Yq.l0_eq (k : Nat) (a0 aH : List (List D)) : ∀ n v, Yq.r0 k a0 aH n v = Zo (Yq.l0 k (Yq.f k) (YJ.f k) aH (fun z0 => some z0)) n v :=
  Zm (Yq.s0 aH) _ fun L0 v => by obtain ⟨aF, aJ⟩ := v; kernel_rfl
noncomputable def YJ.p (k : Nat) : Pro := ⟨Try.prog, [(183, YA.e k), (206, Yq.e k)], Zn [] false [], k⟩
theorem Yq.oks (k : Nat) : Za Try.prog 206 (Yq.e k) ∧ Za Try.prog 184 (YJ.e k) := by
  induction k with
  | zero => exact ⟨Z7 Try.func206 (by kernel_rfl) (fun _ => rfl),
    Z7 Try.func184 (by kernel_rfl) (fun _ _ _ _ _ => rfl)⟩
  | succ k ih => exact ⟨Zh (Yq.p k) mix tyok Try.func206 ih.2 (by kernel_rfl) (fun a0 => Eq.trans (b := Yq.m k (Yq.f k) (YJ.f k) a0 (fun z0 => some z0) (fun aH => Yq.r0 k a0 aH k)) (by kernel_rfl) ((congrArg (Yq.m k (Yq.f k) (YJ.f k) a0 (fun z0 => some z0)) (funext fun aH => funext fun v => Yq.l0_eq k a0 aH k v)).trans (Yq.t_succ k a0).symm)),
    Zh (YJ.p k) mix tyok Try.func184 ⟨YA.ok k, ih.1⟩ (by kernel_rfl) (fun aC aB aD aA aI => by show _ = _; kernel_rfl)⟩
theorem YJ.ok (k : Nat) : Za Try.prog 184 (YJ.e k) := (Yq.oks k).2
noncomputable def Y8.g {β : Type} (k : Nat) (aC : Int) (aB : ByteArray) (aD aA aI : Int) (aX : Bool) (aP : List (List D)) (aU : Int) (aL : ByteArray) (aV : Int) (aM aQ : List (List D)) (aT : Int) (aN : ByteArray) (aW : Int) (aO aR : List (List D)) (K : Int → ByteArray → Int → Int → Int → Bool → (List (List C)) → Int → ByteArray → Int → (List (List C)) → (List (List C)) → Int → ByteArray → Int → (List (List C)) → (List (List C)) → Option β) : Option β :=
  YA.f k aP (fun y9 => YJ.f k aU aL aV aM aQ (fun y44 y45 y46 y47 y48 => YJ.f k aT aN aW aO aR (fun y49 y50 y51 y52 y53 => K aC aB aD aA aI aX y9 y44 y45 y46 y47 y48 y49 y50 y51 y52 y53)))
noncomputable def Y8.t (k : Nat) (aC : Int) (aB : ByteArray) (aD aA aI : Int) (aX : Bool) (aP : List (List D)) (aU : Int) (aL : ByteArray) (aV : Int) (aM aQ : List (List D)) (aT : Int) (aN : ByteArray) (aW : Int) (aO aR : List (List D)) : Option (Int × ByteArray × Int × Int × Int × Bool × (List (List C)) × Int × ByteArray × Int × (List (List C)) × (List (List C)) × Int × ByteArray × Int × (List (List C)) × (List (List C))) := Y8.g k aC aB aD aA aI aX aP aU aL aV aM aQ aT aN aW aO aR (fun z0 z1 z2 z3 z4 z5 z6 z7 z8 z9 z10 z11 z12 z13 z14 z15 z16 => some (z0, z1, z2, z3, z4, z5, z6, z7, z8, z9, z10, z11, z12, z13, z14, z15, z16))
noncomputable def Y8.f {β : Type} (k : Nat) (aC : Int) (aB : ByteArray) (aD aA aI : Int) (aX : Bool) (aP : List (List D)) (aU : Int) (aL : ByteArray) (aV : Int) (aM aQ : List (List D)) (aT : Int) (aN : ByteArray) (aW : Int) (aO aR : List (List D)) (K : Int → ByteArray → Int → Int → Int → Bool → (List (List C)) → Int → ByteArray → Int → (List (List C)) → (List (List C)) → Int → ByteArray → Int → (List (List C)) → (List (List C)) → Option β) : Option β := match Y8.t k aC aB aD aA aI aX aP aU aL aV aM aQ aT aN aW aO aR with | some (z0, z1, z2, z3, z4, z5, z6, z7, z8, z9, z10, z11, z12, z13, z14, z15, z16) => K z0 z1 z2 z3 z4 z5 z6 z7 z8 z9 z10 z11 z12 z13 z14 z15 z16 | none => none
noncomputable def Y8.e (k : Nat) : Zk := ent [.agg [.n, .s, .n, .n, .n, .b, .l, .n, .s, .n, .l, .l, .n, .s, .n, .l, .l]] [17] [.n, .s, .n, .n, .n, .b, .o, .n, .s, .n, .o, .o, .n, .s, .n, .o, .o] [97] false (Y8.t k)
noncomputable def Y8.p (k : Nat) : Pro := ⟨Try.prog, [(183, YA.e k), (184, YJ.e k)], Zn [] false [], k⟩
theorem Y8.ok (k : Nat) : Za Try.prog 136 (Y8.e k) := Zh (Y8.p k) mix tyok Try.func136 ⟨YA.ok k, YJ.ok k⟩ (by kernel_rfl) (fun aC aB aD aA aI aX aP aU aL aV aM aQ aT aN aW aO aR => by show _ = _; kernel_rfl)
noncomputable def YR.l0 {β : Type} (k : Nat) (aH : List (List D)) (K : (List (List C)) → Option β) (L0 : (Int × (List (List C))) → Option β) (v : Int × (List (List C))) : Option β :=
  match v with
  | (aF, aJ) => bif (decide ((aF : Int) < (aH.length : Int))) then (atR aH aF [.n, .s, .n, .n, .n, .b, .l, .n, .s, .n, .l, .l, .n, .s, .n, .l, .l] fun x74 x77 x80 x83 x86 x89 x92 x95 x98 x101 x104 x107 x110 x113 x116 x119 x122 => (Y8.f k x74 x77 x80 x83 x86 x89 x92 x95 x98 x101 x104 x107 x110 x113 x116 x119 x122 (fun y123 y124 y125 y126 y127 y128 y129 y130 y131 y132 y133 y134 y135 y136 y137 y138 y139 => Zc ((0 : Int) ≤ aF ∧ aF < (aJ.length : Int)) (Zc (Int.toNat aF < aJ.length) (L0 (IntKind.wrap .i64 (aF + 1), aJ.modify (Int.toNat aF) fun c => Zq c 0 [.d (.int .i64 y123), .d (.str y124), .d (.int .i64 y125), .d (.int .i64 y126), .d (.int .i64 y127), .d (.bool y128), .own y129, .d (.int .i64 y130), .d (.str y131), .d (.int .i64 y132), .own y133, .own y134, .d (.int .i64 y135), .d (.str y136), .d (.int .i64 y137), .own y138, .own y139])))))) else (K aJ)
noncomputable def YR.m {β : Type} (k : Nat) (a0 : List (List D)) (K : (List (List C)) → Option β) (F : ((List (List D)) → (Int × (List (List C))) → Option β)) : Option β :=
  Zc ((0 : Int) ≤ (a0.length : Int) ∧ (a0.length : Int) ≤ (ZN : Int) ∧ (a0.length : Int) ≤ (a0.length : Int) ∧ (a0.length : Int) ≤ (a0.length : Int)) (F a0 (0, List.replicate (Int.toNat (a0.length : Int)) ([.d (.int .i64 0), .d (.str (⟨#[]⟩ : ByteArray)), .d (.int .i64 0), .d (.int .i64 0), .d (.int .i64 0), .d (.bool false), .own ([] : List (List C)), .d (.int .i64 0), .d (.str (⟨#[]⟩ : ByteArray)), .d (.int .i64 0), .own ([] : List (List C)), .own ([] : List (List C)), .d (.int .i64 0), .d (.str (⟨#[]⟩ : ByteArray)), .d (.int .i64 0), .own ([] : List (List C)), .own ([] : List (List C))] : List C)))
noncomputable def YR.g {β : Type} (k : Nat) (a0 : List (List D)) (K : (List (List C)) → Option β) : Option β := YR.m k a0 K (fun aH => Zo (YR.l0 k aH K) k)
noncomputable def YR.t (k : Nat) (a0 : List (List D)) : Option ((List (List C))) := YR.g k a0 (fun z0 => some z0)
noncomputable def YR.f {β : Type} (k : Nat) (a0 : List (List D)) (K : (List (List C)) → Option β) : Option β := bd1 (YR.t k a0) K
noncomputable def YR.e (k : Nat) : Zk := ent [.d .l] [1] [.o] [30] false (YR.t k)
noncomputable def YR.p (k : Nat) : Pro := ⟨Try.prog, [(136, Y8.e k)], Zn [(3, kp [0, 3, 4])] false [], k⟩
noncomputable def YR.d (k : Nat) (a0 : List (List D)) : Ex → St → Option ((List (List C))) := (YR.p k).fin Try.f59 [.d (.sl a0)] [1] [.o]
noncomputable def YR.s0 (aH : List (List D)) (v : Int × (List (List C))) : St :=
  match v with
  | (aF, aJ) => ZX 23 [(0, .d false (.sl aH)), (3, .row 0), (4, .d true (.int .i64 aF))] [.row none true 30 aJ]
noncomputable def YR.r0 (k : Nat) (a0 aH : List (List D)) (n : Nat) (v : Int × (List (List C))) : Option ((List (List C))) := (YR.p k).lp (Zt Try.f59) 3 [1, 1, 0, 1, 0] (YR.d k a0) n (YR.s0 aH v)
theorem YR.l0_eq (k : Nat) (a0 aH : List (List D)) : ∀ n v, YR.r0 k a0 aH n v = Zo (YR.l0 k aH (fun z0 => some z0)) n v :=
  Zm (YR.s0 aH) _ fun L0 v => by obtain ⟨aF, aJ⟩ := v; kernel_rfl
theorem YR.ok (k : Nat) : Za Try.prog 59 (YR.e k) := Zh (YR.p k) mix tyok Try.func59 (Y8.ok k) (by kernel_rfl) (fun a0 => Eq.trans (b := YR.m k a0 (fun z0 => some z0) (fun aH => YR.r0 k a0 aH k)) (by kernel_rfl) (congrArg (YR.m k a0 (fun z0 => some z0)) (funext fun aH => funext fun v => YR.l0_eq k a0 aH k v)))
noncomputable def Y1.g {β : Type} (k : Nat) (aC : Int) (aB : Bool) (aD : Int) (aA : ByteArray) (aI aX aP : Int) (aU : Bool) (aL : List (List D)) (aV : Int) (aM : ByteArray) (aQ : Int) (aT aN : List (List D)) (aW : Int) (aO : ByteArray) (aR : Int) (bH bI : List (List D)) (K : Int → Bool → Int → ByteArray → Int → Int → Int → Bool → (List (List C)) → Int → ByteArray → Int → (List (List C)) → (List (List C)) → Int → ByteArray → Int → (List (List C)) → (List (List C)) → Option β) : Option β :=
  Y8.f k aD aA aI aX aP aU aL aV aM aQ aT aN aW aO aR bH bI (fun y1 y2 y3 y4 y5 y6 y7 y8 y9 y10 y11 y12 y13 y14 y15 y16 y17 => K aC aB y1 y2 y3 y4 y5 y6 y7 y8 y9 y10 y11 y12 y13 y14 y15 y16 y17)
noncomputable def Y1.t (k : Nat) (aC : Int) (aB : Bool) (aD : Int) (aA : ByteArray) (aI aX aP : Int) (aU : Bool) (aL : List (List D)) (aV : Int) (aM : ByteArray) (aQ : Int) (aT aN : List (List D)) (aW : Int) (aO : ByteArray) (aR : Int) (bH bI : List (List D)) : Option (Int × Bool × Int × ByteArray × Int × Int × Int × Bool × (List (List C)) × Int × ByteArray × Int × (List (List C)) × (List (List C)) × Int × ByteArray × Int × (List (List C)) × (List (List C))) := Y1.g k aC aB aD aA aI aX aP aU aL aV aM aQ aT aN aW aO aR bH bI (fun z0 z1 z2 z3 z4 z5 z6 z7 z8 z9 z10 z11 z12 z13 z14 z15 z16 z17 z18 => some (z0, z1, z2, z3, z4, z5, z6, z7, z8, z9, z10, z11, z12, z13, z14, z15, z16, z17, z18))
noncomputable def Y1.f {β : Type} (k : Nat) (aC : Int) (aB : Bool) (aD : Int) (aA : ByteArray) (aI aX aP : Int) (aU : Bool) (aL : List (List D)) (aV : Int) (aM : ByteArray) (aQ : Int) (aT aN : List (List D)) (aW : Int) (aO : ByteArray) (aR : Int) (bH bI : List (List D)) (K : Int → Bool → Int → ByteArray → Int → Int → Int → Bool → (List (List C)) → Int → ByteArray → Int → (List (List C)) → (List (List C)) → Int → ByteArray → Int → (List (List C)) → (List (List C)) → Option β) : Option β := match Y1.t k aC aB aD aA aI aX aP aU aL aV aM aQ aT aN aW aO aR bH bI with | some (z0, z1, z2, z3, z4, z5, z6, z7, z8, z9, z10, z11, z12, z13, z14, z15, z16, z17, z18) => K z0 z1 z2 z3 z4 z5 z6 z7 z8 z9 z10 z11 z12 z13 z14 z15 z16 z17 z18 | none => none
noncomputable def Y1.e (k : Nat) : Zk := ent [.agg [.n, .b, .n, .s, .n, .n, .n, .b, .l, .n, .s, .n, .l, .l, .n, .s, .n, .l, .l]] [19] [.n, .b, .n, .s, .n, .n, .n, .b, .o, .n, .s, .n, .o, .o, .n, .s, .n, .o, .o] [99] false (Y1.t k)
noncomputable def Y1.p (k : Nat) : Pro := ⟨Try.prog, [(136, Y8.e k)], Zn [] false [], k⟩
theorem Y1.ok (k : Nat) : Za Try.prog 107 (Y1.e k) := Zh (Y1.p k) mix tyok Try.func107 (Y8.ok k) (by kernel_rfl) (fun aC aB aD aA aI aX aP aU aL aV aM aQ aT aN aW aO aR bH bI => by show _ = _; kernel_rfl)
noncomputable def YE.l0 {β : Type} (k : Nat) (aH : List (List D)) (K : (List (List C)) → Option β) (L0 : (Int × (List (List C))) → Option β) (v : Int × (List (List C))) : Option β :=
  match v with
  | (aF, aJ) => bif (decide ((aF : Int) < (aH.length : Int))) then (atR aH aF [.n, .b, .n, .s, .n, .n, .n, .b, .l, .n, .s, .n, .l, .l, .n, .s, .n, .l, .l] fun x81 x84 x87 x90 x93 x96 x99 x102 x105 x108 x111 x114 x117 x120 x123 x126 x129 x132 x135 => (Y1.f k x81 x84 x87 x90 x93 x96 x99 x102 x105 x108 x111 x114 x117 x120 x123 x126 x129 x132 x135 (fun y136 y137 y138 y139 y140 y141 y142 y143 y144 y145 y146 y147 y148 y149 y150 y151 y152 y153 y154 => Zc ((0 : Int) ≤ aF ∧ aF < (aJ.length : Int)) (Zc (Int.toNat aF < aJ.length) (L0 (IntKind.wrap .i64 (aF + 1), aJ.modify (Int.toNat aF) fun c => Zq c 0 [.d (.int .i64 y136), .d (.bool y137), .d (.int .i64 y138), .d (.str y139), .d (.int .i64 y140), .d (.int .i64 y141), .d (.int .i64 y142), .d (.bool y143), .own y144, .d (.int .i64 y145), .d (.str y146), .d (.int .i64 y147), .own y148, .own y149, .d (.int .i64 y150), .d (.str y151), .d (.int .i64 y152), .own y153, .own y154])))))) else (K aJ)
noncomputable def YE.m {β : Type} (k : Nat) (a0 : List (List D)) (K : (List (List C)) → Option β) (F : ((List (List D)) → (Int × (List (List C))) → Option β)) : Option β :=
  Zc ((0 : Int) ≤ (a0.length : Int) ∧ (a0.length : Int) ≤ (ZN : Int) ∧ (a0.length : Int) ≤ (a0.length : Int) ∧ (a0.length : Int) ≤ (a0.length : Int)) (F a0 (0, List.replicate (Int.toNat (a0.length : Int)) ([.d (.int .i64 0), .d (.bool false), .d (.int .i64 0), .d (.str (⟨#[]⟩ : ByteArray)), .d (.int .i64 0), .d (.int .i64 0), .d (.int .i64 0), .d (.bool false), .own ([] : List (List C)), .d (.int .i64 0), .d (.str (⟨#[]⟩ : ByteArray)), .d (.int .i64 0), .own ([] : List (List C)), .own ([] : List (List C)), .d (.int .i64 0), .d (.str (⟨#[]⟩ : ByteArray)), .d (.int .i64 0), .own ([] : List (List C)), .own ([] : List (List C))] : List C)))
noncomputable def YE.g {β : Type} (k : Nat) (a0 : List (List D)) (K : (List (List C)) → Option β) : Option β := YE.m k a0 K (fun aH => Zo (YE.l0 k aH K) k)
noncomputable def YE.t (k : Nat) (a0 : List (List D)) : Option ((List (List C))) := YE.g k a0 (fun z0 => some z0)
noncomputable def YE.f {β : Type} (k : Nat) (a0 : List (List D)) (K : (List (List C)) → Option β) : Option β := bd1 (YE.t k a0) K
noncomputable def YE.e (k : Nat) : Zk := ent [.d .l] [1] [.o] [27] false (YE.t k)
noncomputable def YE.p (k : Nat) : Pro := ⟨Try.prog, [(107, Y1.e k)], Zn [(3, kp [0, 3, 4])] false [], k⟩
noncomputable def YE.d (k : Nat) (a0 : List (List D)) : Ex → St → Option ((List (List C))) := (YE.p k).fin Try.f37 [.d (.sl a0)] [1] [.o]
noncomputable def YE.s0 (aH : List (List D)) (v : Int × (List (List C))) : St :=
  match v with
  | (aF, aJ) => ZX 23 [(0, .d false (.sl aH)), (3, .row 0), (4, .d true (.int .i64 aF))] [.row none true 27 aJ]
noncomputable def YE.r0 (k : Nat) (a0 aH : List (List D)) (n : Nat) (v : Int × (List (List C))) : Option ((List (List C))) := (YE.p k).lp (Zt Try.f37) 3 [1, 1, 0, 1, 0] (YE.d k a0) n (YE.s0 aH v)
theorem YE.l0_eq (k : Nat) (a0 aH : List (List D)) : ∀ n v, YE.r0 k a0 aH n v = Zo (YE.l0 k aH (fun z0 => some z0)) n v :=
  Zm (YE.s0 aH) _ fun L0 v => by obtain ⟨aF, aJ⟩ := v; kernel_rfl
theorem YE.ok (k : Nat) : Za Try.prog 37 (YE.e k) := Zh (YE.p k) mix tyok Try.func37 (Y1.ok k) (by kernel_rfl) (fun a0 => Eq.trans (b := YE.m k a0 (fun z0 => some z0) (fun aH => YE.r0 k a0 aH k)) (by kernel_rfl) (congrArg (YE.m k a0 (fun z0 => some z0)) (funext fun aH => funext fun v => YE.l0_eq k a0 aH k v)))
noncomputable def Y3.g {β : Type} (k : Nat) (aC : List (List D)) (aB aD : Int) (aA : List (List D)) (K : (List (List C)) → Int → Int → (List (List C)) → Option β) : Option β :=
  YR.f k aC (fun y140 => YE.f k aA (fun y155 => K y140 aB aD y155))
noncomputable def Y3.t (k : Nat) (aC : List (List D)) (aB aD : Int) (aA : List (List D)) : Option ((List (List C)) × Int × Int × (List (List C))) := Y3.g k aC aB aD aA (fun z0 z1 z2 z3 => some (z0, z1, z2, z3))
noncomputable def Y3.f {β : Type} (k : Nat) (aC : List (List D)) (aB aD : Int) (aA : List (List D)) (K : (List (List C)) → Int → Int → (List (List C)) → Option β) : Option β := bd4 (Y3.t k aC aB aD aA) K
noncomputable def Y3.e (k : Nat) : Zk := ent [.agg [.l, .n, .n, .l]] [4] [.o, .n, .n, .o] [32] false (Y3.t k)
noncomputable def Y3.p (k : Nat) : Pro := ⟨Try.prog, [(59, YR.e k), (37, YE.e k)], Zn [] false [], k⟩
theorem Y3.ok (k : Nat) : Za Try.prog 12 (Y3.e k) := Zh (Y3.p k) mix tyok Try.func12 ⟨YR.ok k, YE.ok k⟩ (by kernel_rfl) (fun aC aB aD aA => by show _ = _; kernel_rfl)
noncomputable def YH.g {β : Type} (k : Nat) (a0 a1 a2 : Int) (K : Bool → Option β) : Option β :=
  bif (decide ((a0 : Int) ≥ a1)) then (K (decide ((a0 : Int) ≤ a2))) else (K false)
noncomputable def YH.t (k : Nat) (a0 a1 a2 : Int) : Option (Bool) := YH.g k a0 a1 a2 (fun z0 => some z0)
noncomputable def YH.f {β : Type} (k : Nat) (a0 a1 a2 : Int) (K : Bool → Option β) : Option β := bd1 (YH.t k a0 a1 a2) K
noncomputable def YH.e (k : Nat) : Zk := ent [.d .n, .d .n, .d .n] [1] [.b] [4] false (YH.t k)
noncomputable def YH.p (k : Nat) : Pro := ⟨Try.prog, [], Zn [] false [], k⟩
theorem YH.ok (k : Nat) : Za Try.prog 57 (YH.e k) := Zh (YH.p k) mix tyok Try.func57 trivial (by kernel_rfl) (fun a0 a1 a2 => by show _ = _; kernel_rfl)
noncomputable def Ym.l0 {β : Type} (k : Nat) (aH : ByteArray) (K : Bool → Option β) (L0 : Int → Option β) (v : Int) : Option β :=
  match v with
  | aF => bif (decide ((aF : Int) < (aH.size : Int))) then (Za0 aH aF fun b9 => YH.f k (IntKind.wrap .i64 b9) 97 122 (fun y10 => bif (!y10) then (Za0 aH aF fun b11 => YH.f k (IntKind.wrap .i64 b11) 48 57 (fun y12 => bif (!y12) then (Za0 aH aF fun b13 => bif ((b13 : Int) != 45) then (K false) else (L0 (IntKind.wrap .i64 (aF + 1)))) else (L0 (IntKind.wrap .i64 (aF + 1))))) else (L0 (IntKind.wrap .i64 (aF + 1))))) else (YH.f k (aH.size : Int) 1 20 (fun y14 => bif y14 then (Za0 aH 0 fun b15 => bif ((b15 : Int) != 45) then (Za0 aH (IntKind.wrap .i64 ((aH.size : Int) - 1)) fun b16 => K ((b16 : Int) != 45)) else (K false)) else (K false)))
noncomputable def Ym.m {β : Type} (k : Nat) (a0 : ByteArray) (K : Bool → Option β) (F : (ByteArray → Int → Option β)) : Option β :=
  F a0 (0)
noncomputable def Ym.g {β : Type} (k : Nat) (a0 : ByteArray) (K : Bool → Option β) : Option β :=
  Zo (Ym.l0 k a0 K) k (0)
noncomputable def Ym.t (k : Nat) (a0 : ByteArray) : Option (Bool) := Ym.g k a0 (fun z0 => some z0)
noncomputable def Ym.f {β : Type} (k : Nat) (a0 : ByteArray) (K : Bool → Option β) : Option β := bd1 (Ym.t k a0) K
noncomputable def Ym.e (k : Nat) : Zk := ent [.d .s] [1] [.b] [4] false (Ym.t k)
noncomputable def Ym.p (k : Nat) : Pro := ⟨Try.prog, [(57, YH.e k)], Zn [(2, kp [0, 3])] false [], k⟩
noncomputable def Ym.d (k : Nat) (a0 : ByteArray) : Ex → St → Option (Bool) := (Ym.p k).fin Try.f129 [.d (.str a0)] [1] [.b]
noncomputable def Ym.s0 (aH : ByteArray) (v : Int) : St :=
  match v with
  | aF => ZX 46 [(0, .d false (.str aH)), (3, .d true (.int .i64 aF))] []
noncomputable def Ym.r0 (k : Nat) (a0 aH : ByteArray) (n : Nat) (v : Int) : Option (Bool) := (Ym.p k).lp (Zt Try.f129) 2 [1, 0, 1, 0] (Ym.d k a0) n (Ym.s0 aH v)
theorem Ym.l0_eq (k : Nat) (a0 aH : ByteArray) : ∀ n v, Ym.r0 k a0 aH n v = Zo (Ym.l0 k aH (fun z0 => some z0)) n v :=
  Zm (Ym.s0 aH) _ fun L0 v => by kernel_rfl
theorem Ym.ok (k : Nat) : Za Try.prog 129 (Ym.e k) := Zh (Ym.p k) mix tyok Try.func129 (YH.ok k) (by kernel_rfl) (fun a0 => Eq.trans (b := Ym.m k a0 (fun z0 => some z0) (fun aH => Ym.r0 k a0 aH k)) (by kernel_rfl) (congrArg (Ym.m k a0 (fun z0 => some z0)) (funext fun aH => funext fun v => Ym.l0_eq k a0 aH k v)))
noncomputable def Yt.l0 {β : Type} (k : Nat) (aH : List (List D)) (K : Bool → Option β) (L0 : Int → Option β) (v : Int) : Option β :=
  match v with
  | aF => bif (decide ((aF : Int) < (aH.length : Int))) then (atR aH aF [.s] fun x17 => (Ym.f k x17 (fun y18 => bif (!y18) then (K false) else (bif (decide ((aF : Int) > 0)) then (atR aH (IntKind.wrap .i64 (aF - 1)) [.s] fun x22 => (atR aH aF [.s] fun x26 => (bif (!(ZbO x22 x26)) then (K false) else (L0 (IntKind.wrap .i64 (aF + 1)))))) else (L0 (IntKind.wrap .i64 (aF + 1))))))) else (K (decide (((aH.length : Int) : Int) ≤ 4)))
noncomputable def Yt.m {β : Type} (k : Nat) (a0 : List (List D)) (K : Bool → Option β) (F : ((List (List D)) → Int → Option β)) : Option β :=
  F a0 (0)
noncomputable def Yt.g {β : Type} (k : Nat) (a0 : List (List D)) (K : Bool → Option β) : Option β :=
  Zo (Yt.l0 k a0 K) k (0)
noncomputable def Yt.t (k : Nat) (a0 : List (List D)) : Option (Bool) := Yt.g k a0 (fun z0 => some z0)
noncomputable def Yt.f {β : Type} (k : Nat) (a0 : List (List D)) (K : Bool → Option β) : Option β := bd1 (Yt.t k a0) K
noncomputable def Yt.e (k : Nat) : Zk := ent [.d .l] [1] [.b] [4] false (Yt.t k)
noncomputable def Yt.p (k : Nat) : Pro := ⟨Try.prog, [(129, Ym.e k)], Zn [(2, kp [0, 3])] false [], k⟩
noncomputable def Yt.d (k : Nat) (a0 : List (List D)) : Ex → St → Option (Bool) := (Yt.p k).fin Try.f180 [.d (.sl a0)] [1] [.b]
noncomputable def Yt.s0 (aH : List (List D)) (v : Int) : St :=
  match v with
  | aF => ZX 35 [(0, .d false (.sl aH)), (3, .d true (.int .i64 aF))] []
noncomputable def Yt.r0 (k : Nat) (a0 aH : List (List D)) (n : Nat) (v : Int) : Option (Bool) := (Yt.p k).lp (Zt Try.f180) 2 [1, 0, 1, 0] (Yt.d k a0) n (Yt.s0 aH v)
theorem Yt.l0_eq (k : Nat) (a0 aH : List (List D)) : ∀ n v, Yt.r0 k a0 aH n v = Zo (Yt.l0 k aH (fun z0 => some z0)) n v :=
  Zm (Yt.s0 aH) _ fun L0 v => by kernel_rfl
theorem Yt.ok (k : Nat) : Za Try.prog 180 (Yt.e k) := Zh (Yt.p k) mix tyok Try.func180 (Ym.ok k) (by kernel_rfl) (fun a0 => Eq.trans (b := Yt.m k a0 (fun z0 => some z0) (fun aH => Yt.r0 k a0 aH k)) (by kernel_rfl) (congrArg (Yt.m k a0 (fun z0 => some z0)) (funext fun aH => funext fun v => Yt.l0_eq k a0 aH k v)))
noncomputable def YX.l0 {β : Type} (k : Nat) (aH : ByteArray) (K : Bool → Option β) (L0 : Int → Option β) (v : Int) : Option β :=
  match v with
  | aF => bif (decide ((aF : Int) < (aH.size : Int))) then (Za0 aH aF fun b3 => YH.f k (IntKind.wrap .i64 b3) 32 126 (fun y4 => bif (!y4) then (K false) else (L0 (IntKind.wrap .i64 (aF + 1))))) else (K (decide (((aH.size : Int) : Int) ≤ 100)))
noncomputable def YX.m {β : Type} (k : Nat) (a0 : ByteArray) (K : Bool → Option β) (F : (ByteArray → Int → Option β)) : Option β :=
  F a0 (0)
noncomputable def YX.g {β : Type} (k : Nat) (a0 : ByteArray) (K : Bool → Option β) : Option β :=
  Zo (YX.l0 k a0 K) k (0)
noncomputable def YX.t (k : Nat) (a0 : ByteArray) : Option (Bool) := YX.g k a0 (fun z0 => some z0)
noncomputable def YX.f {β : Type} (k : Nat) (a0 : ByteArray) (K : Bool → Option β) : Option β := bd1 (YX.t k a0) K
noncomputable def YX.e (k : Nat) : Zk := ent [.d .s] [1] [.b] [4] false (YX.t k)
noncomputable def YX.p (k : Nat) : Pro := ⟨Try.prog, [(57, YH.e k)], Zn [(2, kp [0, 3])] false [], k⟩
noncomputable def YX.d (k : Nat) (a0 : ByteArray) : Ex → St → Option (Bool) := (YX.p k).fin Try.f214 [.d (.str a0)] [1] [.b]
noncomputable def YX.s0 (aH : ByteArray) (v : Int) : St :=
  match v with
  | aF => ZX 19 [(0, .d false (.str aH)), (3, .d true (.int .i64 aF))] []
noncomputable def YX.r0 (k : Nat) (a0 aH : ByteArray) (n : Nat) (v : Int) : Option (Bool) := (YX.p k).lp (Zt Try.f214) 2 [1, 0, 1, 0] (YX.d k a0) n (YX.s0 aH v)
theorem YX.l0_eq (k : Nat) (a0 aH : ByteArray) : ∀ n v, YX.r0 k a0 aH n v = Zo (YX.l0 k aH (fun z0 => some z0)) n v :=
  Zm (YX.s0 aH) _ fun L0 v => by kernel_rfl
theorem YX.ok (k : Nat) : Za Try.prog 214 (YX.e k) := Zh (YX.p k) mix tyok Try.func214 (YH.ok k) (by kernel_rfl) (fun a0 => Eq.trans (b := YX.m k a0 (fun z0 => some z0) (fun aH => YX.r0 k a0 aH k)) (by kernel_rfl) (congrArg (YX.m k a0 (fun z0 => some z0)) (funext fun aH => funext fun v => YX.l0_eq k a0 aH k v)))
noncomputable def YU.l0 {β : Type} (k : Nat) (aF : Int) (aJ : ByteArray) (aK : Int) (aY aZ : List (List D)) (K : Bool → Option β) (L0 : Int → Option β) (v : Int) : Option β :=
  match v with
  | aH => bif (decide ((aH : Int) < (aY.length : Int))) then (atR aY aH [.s] fun x17 => (Ym.f k x17 (fun y18 => bif (!y18) then (K false) else (bif (decide ((aH : Int) > 0)) then (atR aY (IntKind.wrap .i64 (aH - 1)) [.s] fun x22 => (atR aY aH [.s] fun x26 => (bif (!(ZbO x22 x26)) then (K false) else (L0 (IntKind.wrap .i64 (aH + 1)))))) else (L0 (IntKind.wrap .i64 (aH + 1))))))) else (K (((aY.length : Int) : Int) == (aZ.length : Int)))
noncomputable def YU.m {β : Type} (k : Nat) (aC : Int) (aB : ByteArray) (aD : Int) (aA aI : List (List D)) (K : Bool → Option β) (F : (Int → ByteArray → Int → (List (List D)) → (List (List D)) → Int → Option β)) : Option β :=
  F aC aB aD aA aI (0)
noncomputable def YU.g {β : Type} (k : Nat) (aC : Int) (aB : ByteArray) (aD : Int) (aA aI : List (List D)) (K : Bool → Option β) : Option β :=
  Zo (YU.l0 k aC aB aD aA aI K) k (0)
noncomputable def YU.t (k : Nat) (aC : Int) (aB : ByteArray) (aD : Int) (aA aI : List (List D)) : Option (Bool) := YU.g k aC aB aD aA aI (fun z0 => some z0)
noncomputable def YU.f {β : Type} (k : Nat) (aC : Int) (aB : ByteArray) (aD : Int) (aA aI : List (List D)) (K : Bool → Option β) : Option β := bd1 (YU.t k aC aB aD aA aI) K
noncomputable def YU.e (k : Nat) : Zk := ent [.agg [.n, .s, .n, .l, .l]] [1] [.b] [4] false (YU.t k)
noncomputable def YU.p (k : Nat) : Pro := ⟨Try.prog, [(129, Ym.e k)], Zn [(2, kp [1, 3])] false [], k⟩
noncomputable def YU.d (k : Nat) (aC : Int) (aB : ByteArray) (aD : Int) (aA aI : List (List D)) : Ex → St → Option (Bool) := (YU.p k).fin Try.f215 [.agg [.int .i64 aC, .str aB, .int .i64 aD, .sl aA, .sl aI]] [1] [.b]
noncomputable def YU.s0 (aF : Int) (aJ : ByteArray) (aK : Int) (aY aZ : List (List D)) (v : Int) : St :=
  match v with
  | aH => ZX 43 [(1, .bp 0 0), (3, .d true (.int .i64 aH))] [.box none 95 [.d false (.int .i64 aF), .d false (.str aJ), .d false (.int .i64 aK), .d false (.sl aY), .d false (.sl aZ)]]
noncomputable def YU.r0 (k : Nat) (aC : Int) (aB : ByteArray) (aD : Int) (aA aI : List (List D)) (aF : Int) (aJ : ByteArray) (aK : Int) (aY aZ : List (List D)) (n : Nat) (v : Int) : Option (Bool) := (YU.p k).lp (Zt Try.f215) 2 [1, 0, 1, 0] (YU.d k aC aB aD aA aI) n (YU.s0 aF aJ aK aY aZ v)
theorem YU.l0_eq (k : Nat) (aC : Int) (aB : ByteArray) (aD : Int) (aA aI : List (List D)) (aF : Int) (aJ : ByteArray) (aK : Int) (aY aZ : List (List D)) : ∀ n v, YU.r0 k aC aB aD aA aI aF aJ aK aY aZ n v = Zo (YU.l0 k aF aJ aK aY aZ (fun z0 => some z0)) n v :=
  Zm (YU.s0 aF aJ aK aY aZ) _ fun L0 v => by kernel_rfl
theorem YU.ok (k : Nat) : Za Try.prog 215 (YU.e k) := Zh (YU.p k) mix tyok Try.func215 (Ym.ok k) (by kernel_rfl) (fun aC aB aD aA aI => Eq.trans (b := YU.m k aC aB aD aA aI (fun z0 => some z0) (fun aF aJ aK aY aZ => YU.r0 k aC aB aD aA aI aF aJ aK aY aZ k)) (by kernel_rfl) (congrArg (YU.m k aC aB aD aA aI (fun z0 => some z0)) (funext fun aF => funext fun aJ => funext fun aK => funext fun aY => funext fun aZ => funext fun v => YU.l0_eq k aC aB aD aA aI aF aJ aK aY aZ k v)))
noncomputable def Yw.l0 {β : Type} (k : Nat) (r_spec_l4Look : Int → ByteArray → Int → (List (List D)) → (List (List D)) → Int → (Int → Option β) → Option β) (aH : Int) (aK : Int) (aY : ByteArray) (aZ : Int) (bA : List (List D)) (bB : List (List D)) (K : Int → Option β) (L0 : (Int × Int) → Option β) (v : Int × Int) : Option β :=
  match v with
  | (aF, aJ) => bif (decide ((aJ : Int) < (bB.length : Int))) then (atR bB aJ [.n, .s, .n, .l, .l] fun x32 x35 x38 x41 x44 => (r_spec_l4Look x32 x35 x38 x41 x44 (IntKind.wrap .i64 (aH - 1)) (fun y45 => bif ((y45 : Int) == 0) then (K 0) else (bif (decide (((IntKind.wrap .i64 (aF + y45)) : Int) > 300)) then (K 0) else (L0 (IntKind.wrap .i64 (aF + y45), IntKind.wrap .i64 (aJ + 1))))))) else (let J1 := (bif (Zae aY (⟨#[]⟩ : ByteArray)) then (bif (!((aZ : Int) == 0)) then (K 0) else (K aF)) else (K 0)); let J0 := (bif (((bA.length : Int) : Int) == 0) then J1 else (K 0)); bif (((bA.length : Int) : Int) == 0) then (bif ((aK : Int) == 1) then (bif (((bB.length : Int) : Int) == 0) then (bif ((aZ : Int) == 0) then (YX.f k aY (fun y46 => bif (!y46) then (K 0) else (K aF))) else (K 0)) else (K 0)) else (bif ((aK : Int) == 2) then (bif (((bB.length : Int) : Int) == 0) then (bif (!(Zae aY (⟨#[]⟩ : ByteArray))) then (K 0) else (K aF)) else (K 0)) else (bif ((aK : Int) == 3) then (bif (((bB.length : Int) : Int) == 0) then (bif (Zae aY (⟨#[]⟩ : ByteArray)) then (YH.f k aZ 0 1 (fun y47 => bif (!y47) then (K 0) else (K aF))) else (K 0)) else (K 0)) else (bif ((aK : Int) == 4) then J0 else (bif ((aK : Int) == 5) then (YU.f k aK aY aZ bA bB (fun y48 => bif y48 then J1 else (K 0))) else (K 0)))))) else (bif ((aK : Int) == 1) then (K 0) else (bif ((aK : Int) == 2) then (K 0) else (bif ((aK : Int) == 3) then (K 0) else (bif ((aK : Int) == 4) then J0 else (bif ((aK : Int) == 5) then (YU.f k aK aY aZ bA bB (fun y49 => bif y49 then J1 else (K 0))) else (K 0)))))))
noncomputable def Yw.m {β : Type} (k : Nat) (r_spec_l4Look : Int → ByteArray → Int → (List (List D)) → (List (List D)) → Int → (Int → Option β) → Option β) (aC : Int) (aB : ByteArray) (aD : Int) (aA : List (List D)) (aI : List (List D)) (a1 : Int) (K : Int → Option β) (F : (Int → Int → ByteArray → Int → (List (List D)) → (List (List D)) → (Int × Int) → Option β)) : Option β :=
  bif ((a1 : Int) == 0) then (K 0) else (F a1 aC aB aD aA aI (1, 0))
noncomputable def Yw.body {β : Type} (k : Nat) (r_spec_l4Look : Int → ByteArray → Int → (List (List D)) → (List (List D)) → Int → (Int → Option β) → Option β) (aC : Int) (aB : ByteArray) (aD : Int) (aA : List (List D)) (aI : List (List D)) (a1 : Int) (K : Int → Option β) : Option β :=
  bif ((a1 : Int) == 0) then (K 0) else (Zo (Yw.l0 k r_spec_l4Look a1 aC aB aD aA aI K) k (1, 0))
noncomputable def Yw.w {β : Type} (r : Int → ByteArray → Int → (List (List D)) → (List (List D)) → Int → Option (Int)) (aC : Int) (aB : ByteArray) (aD : Int) (aA : List (List D)) (aI : List (List D)) (a1 : Int) (K : Int → Option β) : Option β := bd1 (r aC aB aD aA aI a1) K
noncomputable def Yw.all : Nat → (Int → ByteArray → Int → (List (List D)) → (List (List D)) → Int → Option (Int))
  | 0 => (fun _ _ _ _ _ _ => none)
  | k + 1 => (fun r => (fun aC aB aD aA aI a1 => Yw.body k (Yw.w r) aC aB aD aA aI a1 (fun z0 => some z0))) (Yw.all k)
noncomputable def Yw.t (k : Nat) (aC : Int) (aB : ByteArray) (aD : Int) (aA aI : List (List D)) (a1 : Int) : Option (Int) := (Yw.all k) aC aB aD aA aI a1
noncomputable def Yw.f {β : Type} (k : Nat) (aC : Int) (aB : ByteArray) (aD : Int) (aA aI : List (List D)) (a1 : Int) (K : Int → Option β) : Option β := Yw.w (Yw.t k) aC aB aD aA aI a1 K
noncomputable def Yw.g {β : Type} (k : Nat) (aC : Int) (aB : ByteArray) (aD : Int) (aA aI : List (List D)) (a1 : Int) (K : Int → Option β) : Option β := Yw.body k (Yw.f k) aC aB aD aA aI a1 K
theorem Yw.t_succ (k : Nat) (aC : Int) (aB : ByteArray) (aD : Int) (aA aI : List (List D)) (a1 : Int) : Yw.t (k + 1) aC aB aD aA aI a1 = Yw.g k aC aB aD aA aI a1 (fun z0 => some z0) := rfl
noncomputable def Yw.e (k : Nat) : Zk := ent [.agg [.n, .s, .n, .l, .l], .d .n] [1] [.n] [3] false (Yw.t k)
noncomputable def Yw.p (k : Nat) : Pro := ⟨Try.prog, [(205, Yw.e k), (214, YX.e k), (57, YH.e k), (215, YU.e k)], Zn [(5, kp [1, 2, 5, 6])] false [], k⟩
noncomputable def Yw.d (k : Nat) (aC : Int) (aB : ByteArray) (aD : Int) (aA aI : List (List D)) (a1 : Int) : Ex → St → Option (Int) := (Yw.p k).fin Try.f205 [.agg [.int .i64 aC, .str aB, .int .i64 aD, .sl aA, .sl aI], .d (.int .i64 a1)] [1] [.n]
noncomputable def Yw.s0 (aH aK : Int) (aY : ByteArray) (aZ : Int) (bA bB : List (List D)) (v : Int × Int) : St :=
  match v with
  | (aF, aJ) => ZX 117 [(1, .d false (.int .i64 aH)), (2, .bp 0 0), (5, .d true (.int .i64 aF)), (6, .d true (.int .i64 aJ))] [.box none 95 [.d false (.int .i64 aK), .d false (.str aY), .d false (.int .i64 aZ), .d false (.sl bA), .d false (.sl bB)]]
noncomputable def Yw.r0 (k : Nat) (aC : Int) (aB : ByteArray) (aD : Int) (aA aI : List (List D)) (a1 aH aK : Int) (aY : ByteArray) (aZ : Int) (bA bB : List (List D)) (n : Nat) (v : Int × Int) : Option (Int) := (Yw.p k).lp (Zt Try.f205) 5 [1, 1, 1, 0, 1, 0] (Yw.d k aC aB aD aA aI a1) n (Yw.s0 aH aK aY aZ bA bB v)
theorem Yw.l0_eq (k : Nat) (aC : Int) (aB : ByteArray) (aD : Int) (aA aI : List (List D)) (a1 aH aK : Int) (aY : ByteArray) (aZ : Int) (bA bB : List (List D)) : ∀ n v, Yw.r0 k aC aB aD aA aI a1 aH aK aY aZ bA bB n v = Zo (Yw.l0 k (Yw.f k) aH aK aY aZ bA bB (fun z0 => some z0)) n v :=
  Zm (Yw.s0 aH aK aY aZ bA bB) _ fun L0 v => by obtain ⟨aF, aJ⟩ := v; kernel_rfl
theorem Yw.oks (k : Nat) : Za Try.prog 205 (Yw.e k) := by
  induction k with
  | zero => exact Z7 Try.func205 (by kernel_rfl) (fun _ _ _ _ _ _ => rfl)
  | succ k ih => exact Zh (Yw.p k) mix tyok Try.func205 ⟨ih, YX.ok k, YH.ok k, YU.ok k⟩ (by kernel_rfl) (fun aC aB aD aA aI a1 => Eq.trans (b := Yw.m k (Yw.f k) aC aB aD aA aI a1 (fun z0 => some z0) (fun aH aK aY aZ bA bB => Yw.r0 k aC aB aD aA aI a1 aH aK aY aZ bA bB k)) (by kernel_rfl) ((congrArg (Yw.m k (Yw.f k) aC aB aD aA aI a1 (fun z0 => some z0)) (funext fun aH => funext fun aK => funext fun aY => funext fun aZ => funext fun bA => funext fun bB => funext fun v => Yw.l0_eq k aC aB aD aA aI a1 aH aK aY aZ bA bB k v)).trans (Yw.t_succ k aC aB aD aA aI a1).symm))
theorem Yw.ok (k : Nat) : Za Try.prog 205 (Yw.e k) := (Yw.oks k)
noncomputable def YD.g {β : Type} (k : Nat) (aC : Int) (aB : ByteArray) (aD : Int) (aA aI : List (List D)) (K : Bool → Option β) : Option β :=
  Yw.f k aC aB aD aA aI 6 (fun y50 => K (decide ((y50 : Int) > 0)))
noncomputable def YD.t (k : Nat) (aC : Int) (aB : ByteArray) (aD : Int) (aA aI : List (List D)) : Option (Bool) := YD.g k aC aB aD aA aI (fun z0 => some z0)
noncomputable def YD.f {β : Type} (k : Nat) (aC : Int) (aB : ByteArray) (aD : Int) (aA aI : List (List D)) (K : Bool → Option β) : Option β := bd1 (YD.t k aC aB aD aA aI) K
noncomputable def YD.e (k : Nat) : Zk := ent [.agg [.n, .s, .n, .l, .l]] [1] [.b] [4] false (YD.t k)
noncomputable def YD.p (k : Nat) : Pro := ⟨Try.prog, [(205, Yw.e k)], Zn [] false [], k⟩
theorem YD.ok (k : Nat) : Za Try.prog 181 (YD.e k) := Zh (YD.p k) mix tyok Try.func181 (Yw.ok k) (by kernel_rfl) (fun aC aB aD aA aI => by show _ = _; kernel_rfl)
noncomputable def Y4.g {β : Type} (k : Nat) (aC : Int) (aB : ByteArray) (aD aA aI : Int) (aX : Bool) (aP : List (List D)) (aU : Int) (aL : ByteArray) (aV : Int) (aM aQ : List (List D)) (aT : Int) (aN : ByteArray) (aW : Int) (aO aR : List (List D)) (a1 a2 : Int) (a3 : Bool) (K : Bool → Option β) : Option β :=
  YH.f k aC 1 3 (fun y1 => bif y1 then (Ym.f k aB (fun y17 => bif y17 then (YH.f k aD 1 (IntKind.wrap .i64 (a2 - 1)) (fun y18 => bif y18 then (YH.f k aA 1 a1 (fun y19 => bif y19 then (YH.f k aI 1 aA (fun y20 => bif y20 then (Yt.f k aP (fun y27 => bif y27 then (YD.f k aU aL aV aM aQ (fun y51 => bif y51 then (YD.f k aT aN aW aO aR (fun y52 => bif y52 then (bif a3 then (K true) else (bif (!aX) then (K true) else (K (decide (((aP.length : Int) : Int) > 0))))) else (K false))) else (K false))) else (K false))) else (K false))) else (K false))) else (K false))) else (K false))) else (K false))
noncomputable def Y4.t (k : Nat) (aC : Int) (aB : ByteArray) (aD aA aI : Int) (aX : Bool) (aP : List (List D)) (aU : Int) (aL : ByteArray) (aV : Int) (aM aQ : List (List D)) (aT : Int) (aN : ByteArray) (aW : Int) (aO aR : List (List D)) (a1 a2 : Int) (a3 : Bool) : Option (Bool) := Y4.g k aC aB aD aA aI aX aP aU aL aV aM aQ aT aN aW aO aR a1 a2 a3 (fun z0 => some z0)
noncomputable def Y4.f {β : Type} (k : Nat) (aC : Int) (aB : ByteArray) (aD aA aI : Int) (aX : Bool) (aP : List (List D)) (aU : Int) (aL : ByteArray) (aV : Int) (aM aQ : List (List D)) (aT : Int) (aN : ByteArray) (aW : Int) (aO aR : List (List D)) (a1 a2 : Int) (a3 : Bool) (K : Bool → Option β) : Option β := bd1 (Y4.t k aC aB aD aA aI aX aP aU aL aV aM aQ aT aN aW aO aR a1 a2 a3) K
noncomputable def Y4.e (k : Nat) : Zk := ent [.agg [.n, .s, .n, .n, .n, .b, .l, .n, .s, .n, .l, .l, .n, .s, .n, .l, .l], .d .n, .d .n, .d .b] [1] [.b] [4] false (Y4.t k)
noncomputable def Y4.p (k : Nat) : Pro := ⟨Try.prog, [(57, YH.e k), (129, Ym.e k), (180, Yt.e k), (181, YD.e k)], Zn [] false [], k⟩
theorem Y4.ok (k : Nat) : Za Try.prog 134 (Y4.e k) := Zh (Y4.p k) mix tyok Try.func134 ⟨YH.ok k, Ym.ok k, Yt.ok k, YD.ok k⟩ (by kernel_rfl) (fun aC aB aD aA aI aX aP aU aL aV aM aQ aT aN aW aO aR a1 a2 a3 => by show _ = _; kernel_rfl)
noncomputable def Yao.g {β : Type} (k : Nat) (aC : Int) (aB : ByteArray) (aD aA aI : Int) (aX : Bool) (aP : List (List D)) (aU : Int) (aL : ByteArray) (aV : Int) (aM aQ : List (List D)) (aT : Int) (aN : ByteArray) (aW : Int) (aO aR : List (List D)) (bC : Int) (bD : ByteArray) (bE bF bG : Int) (bM : Bool) (bN : List (List D)) (bO : Int) (bP : ByteArray) (bQ : Int) (bR bT : List (List D)) (bU : Int) (bV : ByteArray) (bW : Int) (bX bY : List (List D)) (K : Bool → Option β) : Option β :=
  bif (decide ((aC : Int) < bC)) then (K true) else (bif ((aC : Int) == bC) then (K (ZbO aB bD)) else (K false))
noncomputable def Yao.t (k : Nat) (aC : Int) (aB : ByteArray) (aD aA aI : Int) (aX : Bool) (aP : List (List D)) (aU : Int) (aL : ByteArray) (aV : Int) (aM aQ : List (List D)) (aT : Int) (aN : ByteArray) (aW : Int) (aO aR : List (List D)) (bC : Int) (bD : ByteArray) (bE bF bG : Int) (bM : Bool) (bN : List (List D)) (bO : Int) (bP : ByteArray) (bQ : Int) (bR bT : List (List D)) (bU : Int) (bV : ByteArray) (bW : Int) (bX bY : List (List D)) : Option (Bool) := Yao.g k aC aB aD aA aI aX aP aU aL aV aM aQ aT aN aW aO aR bC bD bE bF bG bM bN bO bP bQ bR bT bU bV bW bX bY (fun z0 => some z0)
noncomputable def Yao.f {β : Type} (k : Nat) (aC : Int) (aB : ByteArray) (aD aA aI : Int) (aX : Bool) (aP : List (List D)) (aU : Int) (aL : ByteArray) (aV : Int) (aM aQ : List (List D)) (aT : Int) (aN : ByteArray) (aW : Int) (aO aR : List (List D)) (bC : Int) (bD : ByteArray) (bE bF bG : Int) (bM : Bool) (bN : List (List D)) (bO : Int) (bP : ByteArray) (bQ : Int) (bR bT : List (List D)) (bU : Int) (bV : ByteArray) (bW : Int) (bX bY : List (List D)) (K : Bool → Option β) : Option β := bd1 (Yao.t k aC aB aD aA aI aX aP aU aL aV aM aQ aT aN aW aO aR bC bD bE bF bG bM bN bO bP bQ bR bT bU bV bW bX bY) K
noncomputable def Yao.e (k : Nat) : Zk := ent [.agg [.n, .s, .n, .n, .n, .b, .l, .n, .s, .n, .l, .l, .n, .s, .n, .l, .l], .agg [.n, .s, .n, .n, .n, .b, .l, .n, .s, .n, .l, .l, .n, .s, .n, .l, .l]] [1] [.b] [4] false (Yao.t k)
noncomputable def Yao.p (k : Nat) : Pro := ⟨Try.prog, [], Zn [] false [], k⟩
theorem Yao.ok (k : Nat) : Za Try.prog 162 (Yao.e k) := Zh (Yao.p k) mix tyok Try.func162 trivial (by kernel_rfl) (fun aC aB aD aA aI aX aP aU aL aV aM aQ aT aN aW aO aR bC bD bE bF bG bM bN bO bP bQ bR bT bU bV bW bX bY => by show _ = _; kernel_rfl)
noncomputable def Yk.l2 {β : Type} (k : Nat) (v2_0 : List (List D)) (v2_1 v2_2 v2_3 : Int) (L0 : ((List (List D)) × Int × Int × Int) → Option β) (K : Bool → Option β) (L2 : Int → Option β) (v : Int) : Option β :=
  match v with
  | v2_4 => bif (decide ((v2_4 : Int) < v2_3)) then (atR v2_0 v2_4 [.n, .s, .n, .n, .n, .b, .l, .n, .s, .n, .l, .l, .n, .s, .n, .l, .l] fun x1048 x1051 x1054 x1057 x1060 x1063 x1066 x1069 x1072 x1075 x1078 x1081 x1084 x1087 x1090 x1093 x1096 => (atR v2_0 v2_3 [.n, .s, .n, .n, .n, .b, .l, .n, .s, .n, .l, .l, .n, .s, .n, .l, .l] fun x1100 x1103 x1106 x1109 x1112 x1115 x1118 x1121 x1124 x1127 x1130 x1133 x1136 x1139 x1142 x1145 x1148 => (bif ((x1054 : Int) == x1106) then (K false) else (L2 (IntKind.wrap .i64 (v2_4 + 1)))))) else (L0 (v2_0, v2_1, v2_2, IntKind.wrap .i64 (v2_3 + 1)))
noncomputable def Yk.l1 {β : Type} (k : Nat) (v1_0 : List (List D)) (v1_1 v1_2 v1_3 : Int) (L0 : ((List (List D)) × Int × Int × Int) → Option β) (K : Bool → Option β) (L1 : Int → Option β) (v : Int) : Option β :=
  match v with
  | v1_4 => bif (decide ((v1_4 : Int) < v1_3)) then (atR v1_0 v1_4 [.n, .s, .n, .n, .n, .b, .l, .n, .s, .n, .l, .l, .n, .s, .n, .l, .l] fun x840 x843 x846 x849 x852 x855 x858 x861 x864 x867 x870 x873 x876 x879 x882 x885 x888 => (atR v1_0 v1_3 [.n, .s, .n, .n, .n, .b, .l, .n, .s, .n, .l, .l, .n, .s, .n, .l, .l] fun x892 x895 x898 x901 x904 x907 x910 x913 x916 x919 x922 x925 x928 x931 x934 x937 x940 => (bif ((x846 : Int) == x898) then (K false) else (L1 (IntKind.wrap .i64 (v1_4 + 1)))))) else (L0 (v1_0, v1_1, v1_2, IntKind.wrap .i64 (v1_3 + 1)))
noncomputable def Yk.m0 {β : Type} (k : Nat) (K : Bool → Option β) (L0 : ((List (List D)) × Int × Int × Int) → Option β) (v : (List (List D)) × Int × Int × Int) (F : ((List (List D)) → Int → Int → Int → Int → Option β) × ((List (List D)) → Int → Int → Int → Int → Option β)) : Option β :=
  match v with
  | (aH, aF, aJ, aK) => bif (decide ((aK : Int) < (aH.length : Int))) then (atR aH aK [.n, .s, .n, .n, .n, .b, .l, .n, .s, .n, .l, .l, .n, .s, .n, .l, .l] fun x578 x581 x584 x587 x590 x593 x596 x599 x602 x605 x608 x611 x614 x617 x620 x623 x626 => (Y4.f k x578 x581 x584 x587 x590 x593 x596 x599 x602 x605 x608 x611 x614 x617 x620 x623 x626 aF aJ false (fun y627 => bif (!y627) then (K false) else (bif (decide ((aK : Int) > 0)) then (atR aH (IntKind.wrap .i64 (aK - 1)) [.n, .s, .n, .n, .n, .b, .l, .n, .s, .n, .l, .l, .n, .s, .n, .l, .l] fun x631 x634 x637 x640 x643 x646 x649 x652 x655 x658 x661 x664 x667 x670 x673 x676 x679 => (atR aH aK [.n, .s, .n, .n, .n, .b, .l, .n, .s, .n, .l, .l, .n, .s, .n, .l, .l] fun x683 x686 x689 x692 x695 x698 x701 x704 x707 x710 x713 x716 x719 x722 x725 x728 x731 => (Yao.f k x631 x634 x637 x640 x643 x646 x649 x652 x655 x658 x661 x664 x667 x670 x673 x676 x679 x683 x686 x689 x692 x695 x698 x701 x704 x707 x710 x713 x716 x719 x722 x725 x728 x731 (fun y732 => bif (!y732) then (K false) else (F.1 aH aF aJ aK (0)))))) else (F.2 aH aF aJ aK (0)))))) else (K (decide (((aH.length : Int) : Int) ≤ 60)))
noncomputable def Yk.l0 {β : Type} (k : Nat) (K : Bool → Option β) (L0 : ((List (List D)) × Int × Int × Int) → Option β) (v : (List (List D)) × Int × Int × Int) : Option β := Yk.m0 k K L0 v ((fun v1_0 v1_1 v1_2 v1_3 => Zo (Yk.l1 k v1_0 v1_1 v1_2 v1_3 L0 K) k), (fun v2_0 v2_1 v2_2 v2_3 => Zo (Yk.l2 k v2_0 v2_1 v2_2 v2_3 L0 K) k))
noncomputable def Yk.m {β : Type} (k : Nat) (a0 : List (List D)) (a1 a2 : Int) (K : Bool → Option β) (F : (((List (List D)) × Int × Int × Int) → Option β)) : Option β :=
  F (a0, a1, a2, 0)
noncomputable def Yk.g {β : Type} (k : Nat) (a0 : List (List D)) (a1 a2 : Int) (K : Bool → Option β) : Option β :=
  Zo (Yk.l0 k K) k (a0, a1, a2, 0)
noncomputable def Yk.t (k : Nat) (a0 : List (List D)) (a1 a2 : Int) : Option (Bool) := Yk.g k a0 a1 a2 (fun z0 => some z0)
noncomputable def Yk.f {β : Type} (k : Nat) (a0 : List (List D)) (a1 a2 : Int) (K : Bool → Option β) : Option β := bd1 (Yk.t k a0 a1 a2) K
noncomputable def Yk.e (k : Nat) : Zk := ent [.d .l, .d .n, .d .n] [1] [.b] [4] false (Yk.t k)
noncomputable def Yk.p (k : Nat) : Pro := ⟨Try.prog, [(134, Y4.e k), (162, Yao.e k)], Zn [(2, kp [0, 1, 2, 7]), (7, kp [0, 1, 2, 7, 8])] false [], k⟩
noncomputable def Yk.d (k : Nat) (a0 : List (List D)) (a1 a2 : Int) : Ex → St → Option (Bool) := (Yk.p k).fin Try.f133 [.d (.sl a0), .d (.int .i64 a1), .d (.int .i64 a2)] [1] [.b]
noncomputable def Yk.s0 (v : (List (List D)) × Int × Int × Int) : St :=
  match v with
  | (aH, aF, aJ, aK) => ZX 59 [(0, .d false (.sl aH)), (1, .d false (.int .i64 aF)), (2, .d false (.int .i64 aJ)), (7, .d true (.int .i64 aK))] []
noncomputable def Yk.c0 (k : Nat) (a0 : List (List D)) (a1 a2 : Int) : Ex → St → Option (Bool) := (Yk.p k).ct (Zt Try.f133) [1, 0, 1, 0] (Yk.d k a0 a1 a2)
noncomputable def Yk.r0 (k : Nat) (a0 : List (List D)) (a1 a2 : Int) (n : Nat) (v : (List (List D)) × Int × Int × Int) : Option (Bool) := (Yk.p k).lp (Zt Try.f133) 2 [1, 0, 1, 0] (Yk.d k a0 a1 a2) n (Yk.s0 v)
noncomputable def Yk.s1 (v1_0 : List (List D)) (v1_1 v1_2 v1_3 v : Int) : St :=
  match v with
  | v1_4 => ZX 59 [(0, .d false (.sl v1_0)), (1, .d false (.int .i64 v1_1)), (2, .d false (.int .i64 v1_2)), (7, .d true (.int .i64 v1_3)), (8, .d true (.int .i64 v1_4))] []
noncomputable def Yk.r1 (k : Nat) (a0 : List (List D)) (a1 a2 : Int) (v1_0 : List (List D)) (v1_1 v1_2 v1_3 : Int) (L0 : St → Option (Bool)) (n : Nat) (v : Int) : Option (Bool) := (Yk.p k).lp (codeAt [1, 0, 1, 0, 0] (Zt Try.f133)) 7 [1, 0, 0, 1, 1, 0] (backK ((Yk.p k).h.H 2) L0 (Yk.c0 k a0 a1 a2)) n (Yk.s1 v1_0 v1_1 v1_2 v1_3 v)
noncomputable def Yk.s2 (v2_0 : List (List D)) (v2_1 v2_2 v2_3 v : Int) : St :=
  match v with
  | v2_4 => ZX 59 [(0, .d false (.sl v2_0)), (1, .d false (.int .i64 v2_1)), (2, .d false (.int .i64 v2_2)), (7, .d true (.int .i64 v2_3)), (8, .d true (.int .i64 v2_4))] []
noncomputable def Yk.r2 (k : Nat) (a0 : List (List D)) (a1 a2 : Int) (v2_0 : List (List D)) (v2_1 v2_2 v2_3 : Int) (L0 : St → Option (Bool)) (n : Nat) (v : Int) : Option (Bool) := (Yk.p k).lp (codeAt [1, 0, 1, 0, 0] (Zt Try.f133)) 7 [1, 0, 0, 1, 1, 0] (backK ((Yk.p k).h.H 2) L0 (Yk.c0 k a0 a1 a2)) n (Yk.s2 v2_0 v2_1 v2_2 v2_3 v)
theorem Yk.l2_eq (k : Nat) (a0 : List (List D)) (a1 a2 : Int) (v2_0 : List (List D)) (v2_1 v2_2 v2_3 : Int) (L0 : St → Option (Bool)) : ∀ n v, Yk.r2 k a0 a1 a2 v2_0 v2_1 v2_2 v2_3 L0 n v = Zo (Yk.l2 k v2_0 v2_1 v2_2 v2_3 (fun v => L0 (Yk.s0 v)) (fun z0 => some z0)) n v :=
  Zm (Yk.s2 v2_0 v2_1 v2_2 v2_3) _ fun L2 v => by kernel_rfl
theorem Yk.l1_eq (k : Nat) (a0 : List (List D)) (a1 a2 : Int) (v1_0 : List (List D)) (v1_1 v1_2 v1_3 : Int) (L0 : St → Option (Bool)) : ∀ n v, Yk.r1 k a0 a1 a2 v1_0 v1_1 v1_2 v1_3 L0 n v = Zo (Yk.l1 k v1_0 v1_1 v1_2 v1_3 (fun v => L0 (Yk.s0 v)) (fun z0 => some z0)) n v :=
  Zm (Yk.s1 v1_0 v1_1 v1_2 v1_3) _ fun L1 v => by kernel_rfl
theorem Yk.l0_eq (k : Nat) (a0 : List (List D)) (a1 a2 : Int) : ∀ n v, Yk.r0 k a0 a1 a2 n v = Zo (Yk.l0 k (fun z0 => some z0)) n v :=
  Zm (Yk.s0) _ fun L0 v => by obtain ⟨aH, aF, aJ, aK⟩ := v; exact Eq.trans (b := Yk.m0 k (fun z0 => some z0) (fun v => L0 (Yk.s0 v)) (aH, aF, aJ, aK) ((fun v1_0 v1_1 v1_2 v1_3 => Yk.r1 k a0 a1 a2 v1_0 v1_1 v1_2 v1_3 L0 k), (fun v2_0 v2_1 v2_2 v2_3 => Yk.r2 k a0 a1 a2 v2_0 v2_1 v2_2 v2_3 L0 k))) (by kernel_rfl) (congrArg (Yk.m0 k (fun z0 => some z0) (fun v => L0 (Yk.s0 v)) (aH, aF, aJ, aK)) (pair_eq (funext fun v1_0 => funext fun v1_1 => funext fun v1_2 => funext fun v1_3 => funext fun v => Yk.l1_eq k a0 a1 a2 v1_0 v1_1 v1_2 v1_3 L0 k v) (funext fun v2_0 => funext fun v2_1 => funext fun v2_2 => funext fun v2_3 => funext fun v => Yk.l2_eq k a0 a1 a2 v2_0 v2_1 v2_2 v2_3 L0 k v)))
theorem Yk.ok (k : Nat) : Za Try.prog 133 (Yk.e k) := Zh (Yk.p k) mix tyok Try.func133 ⟨Y4.ok k, Yao.ok k⟩ (by kernel_rfl) (fun a0 a1 a2 => Eq.trans (b := Yk.m k a0 a1 a2 (fun z0 => some z0) (Yk.r0 k a0 a1 a2 k)) (by kernel_rfl) (congrArg (Yk.m k a0 a1 a2 (fun z0 => some z0)) (funext fun v => Yk.l0_eq k a0 a1 a2 k v)))
noncomputable def Yy.l0 {β : Type} (k : Nat) (aF : List (List D)) (aJ aK : Int) (aY : List (List D)) (K : Bool → Option β) (L0 : Int → Option β) (v : Int) : Option β :=
  match v with
  | aH => bif (decide ((aH : Int) < (aY.length : Int))) then (atR aY aH [.n, .b, .n, .s, .n, .n, .n, .b, .l, .n, .s, .n, .l, .l, .n, .s, .n, .l, .l] fun x1270 x1273 x1276 x1279 x1282 x1285 x1288 x1291 x1294 x1297 x1300 x1303 x1306 x1309 x1312 x1315 x1318 x1321 x1324 => (Y4.f k x1276 x1279 x1282 x1285 x1288 x1291 x1294 x1297 x1300 x1303 x1306 x1309 x1312 x1315 x1318 x1321 x1324 aJ aK x1273 (fun y1325 => bif (!y1325) then (K false) else (bif ((x1285 : Int) != x1270) then (K false) else (bif (decide ((aH : Int) > 0)) then (atR aY (IntKind.wrap .i64 (aH - 1)) [.n, .b, .n, .s, .n, .n, .n, .b, .l, .n, .s, .n, .l, .l, .n, .s, .n, .l, .l] fun x1329 x1332 x1335 x1338 x1341 x1344 x1347 x1350 x1353 x1356 x1359 x1362 x1365 x1368 x1371 x1374 x1377 x1380 x1383 => (bif (decide ((x1329 : Int) ≥ x1270)) then (K false) else (L0 (IntKind.wrap .i64 (aH + 1))))) else (L0 (IntKind.wrap .i64 (aH + 1)))))))) else (K true)
noncomputable def Yy.m {β : Type} (k : Nat) (aC : List (List D)) (aB aD : Int) (aA : List (List D)) (K : Bool → Option β) (F : ((List (List D)) → Int → Int → (List (List D)) → Int → Option β)) : Option β :=
  YH.f k aB 0 1000000 (fun y1 => bif (!y1) then (K false) else (YH.f k aD 1 1000000 (fun y2 => bif (!y2) then (K false) else (bif (decide (((aA.length : Int) : Int) > 40)) then (K false) else (Yk.f k aC aB aD (fun y1149 => bif (!y1149) then (K false) else (F aC aB aD aA (0))))))))
noncomputable def Yy.g {β : Type} (k : Nat) (aC : List (List D)) (aB aD : Int) (aA : List (List D)) (K : Bool → Option β) : Option β := Yy.m k aC aB aD aA K (fun aF aJ aK aY => Zo (Yy.l0 k aF aJ aK aY K) k)
noncomputable def Yy.t (k : Nat) (aC : List (List D)) (aB aD : Int) (aA : List (List D)) : Option (Bool) := Yy.g k aC aB aD aA (fun z0 => some z0)
noncomputable def Yy.f {β : Type} (k : Nat) (aC : List (List D)) (aB aD : Int) (aA : List (List D)) (K : Bool → Option β) : Option β := bd1 (Yy.t k aC aB aD aA) K
noncomputable def Yy.e (k : Nat) : Zk := ent [.agg [.l, .n, .n, .l]] [1] [.b] [4] false (Yy.t k)
noncomputable def Yy.p (k : Nat) : Pro := ⟨Try.prog, [(57, YH.e k), (133, Yk.e k), (134, Y4.e k)], Zn [(4, kp [1, 3])] false [], k⟩
noncomputable def Yy.d (k : Nat) (aC : List (List D)) (aB aD : Int) (aA : List (List D)) : Ex → St → Option (Bool) := (Yy.p k).fin Try.f56 [.agg [.sl aC, .int .i64 aB, .int .i64 aD, .sl aA]] [1] [.b]
noncomputable def Yy.s0 (aF : List (List D)) (aJ aK : Int) (aY : List (List D)) (v : Int) : St :=
  match v with
  | aH => ZX 77 [(1, .bp 0 0), (3, .d true (.int .i64 aH))] [.box none 32 [.d false (.sl aF), .d false (.int .i64 aJ), .d false (.int .i64 aK), .d false (.sl aY)]]
noncomputable def Yy.r0 (k : Nat) (aC : List (List D)) (aB aD : Int) (aA aF : List (List D)) (aJ aK : Int) (aY : List (List D)) (n : Nat) (v : Int) : Option (Bool) := (Yy.p k).lp (Zt Try.f56) 4 [1, 1, 0, 1, 0] (Yy.d k aC aB aD aA) n (Yy.s0 aF aJ aK aY v)
theorem Yy.l0_eq (k : Nat) (aC : List (List D)) (aB aD : Int) (aA aF : List (List D)) (aJ aK : Int) (aY : List (List D)) : ∀ n v, Yy.r0 k aC aB aD aA aF aJ aK aY n v = Zo (Yy.l0 k aF aJ aK aY (fun z0 => some z0)) n v :=
  Zm (Yy.s0 aF aJ aK aY) _ fun L0 v => by kernel_rfl
theorem Yy.ok (k : Nat) : Za Try.prog 56 (Yy.e k) := Zh (Yy.p k) mix tyok Try.func56 ⟨YH.ok k, Yk.ok k, Y4.ok k⟩ (by kernel_rfl) (fun aC aB aD aA => Eq.trans (b := Yy.m k aC aB aD aA (fun z0 => some z0) (fun aF aJ aK aY => Yy.r0 k aC aB aD aA aF aJ aK aY k)) (by kernel_rfl) (congrArg (Yy.m k aC aB aD aA (fun z0 => some z0)) (funext fun aF => funext fun aJ => funext fun aK => funext fun aY => funext fun v => Yy.l0_eq k aC aB aD aA aF aJ aK aY k v)))
noncomputable def Yz.l0 {β : Type} (k : Nat) (r_spec_l4Copy : Int → ByteArray → Int → (List (List D)) → (List (List D)) → (Int → ByteArray → Int → (List (List C)) → (List (List C)) → Option β) → Option β) (aF : Int) (aJ : ByteArray) (aK : Int) (aY : List (List D)) (aZ : List (List D)) (bA : Int) (bB : ByteArray) (bK : Int) (bJ : Int) (bZ : ByteArray) (bL : Int) (v0_12 : List (List C)) (K : Int → ByteArray → Int → (List (List C)) → (List (List C)) → Option β) (L0 : (Int × (List (List C))) → Option β) (v : Int × (List (List C))) : Option β :=
  match v with
  | (aH, v0_13) => bif (decide ((aH : Int) < (aZ.length : Int))) then (atR aZ aH [.n, .s, .n, .l, .l] fun x25 x28 x31 x34 x37 => (r_spec_l4Copy x25 x28 x31 x34 x37 (fun y38 y39 y40 y41 y42 => Zc (v0_13.length + ([[.d (.int .i64 y38), .d (.str y39), .d (.int .i64 y40), .own y41, .own y42]] : List (List C)).length ≤ ZN) (L0 (IntKind.wrap .i64 (aH + 1), v0_13 ++ ([[.d (.int .i64 y38), .d (.str y39), .d (.int .i64 y40), .own y41, .own y42]] : List (List C))))))) else (K bJ bZ bL v0_12 v0_13)
noncomputable def Yz.m {β : Type} (k : Nat) (r_spec_l4Copy : Int → ByteArray → Int → (List (List D)) → (List (List D)) → (Int → ByteArray → Int → (List (List C)) → (List (List C)) → Option β) → Option β) (aC : Int) (aB : ByteArray) (aD : Int) (aA : List (List D)) (aI : List (List D)) (K : Int → ByteArray → Int → (List (List C)) → (List (List C)) → Option β) (F : (Int → ByteArray → Int → (List (List D)) → (List (List D)) → Int → ByteArray → Int → Int → ByteArray → Int → (List (List C)) → (Int × (List (List C))) → Option β)) : Option β :=
  Zc (ZaZ 1 aA) (Zc (([] : List (List C)).length + (aA.map (·.map C.d)).length ≤ ZN) (F aC aB aD aA aI 0 (⟨#[]⟩ : ByteArray) 0 aC aB aD (([] : List (List C)) ++ (aA.map (·.map C.d))) (0, ([] : List (List C)))))
noncomputable def Yz.body {β : Type} (k : Nat) (r_spec_l4Copy : Int → ByteArray → Int → (List (List D)) → (List (List D)) → (Int → ByteArray → Int → (List (List C)) → (List (List C)) → Option β) → Option β) (aC : Int) (aB : ByteArray) (aD : Int) (aA : List (List D)) (aI : List (List D)) (K : Int → ByteArray → Int → (List (List C)) → (List (List C)) → Option β) : Option β :=
  Zc (ZaZ 1 aA) (Zc (([] : List (List C)).length + (aA.map (·.map C.d)).length ≤ ZN) (Zo (Yz.l0 k r_spec_l4Copy aC aB aD aA aI 0 (⟨#[]⟩ : ByteArray) 0 aC aB aD (([] : List (List C)) ++ (aA.map (·.map C.d))) K) k (0, ([] : List (List C)))))
noncomputable def Yz.w {β : Type} (r : Int → ByteArray → Int → (List (List D)) → (List (List D)) → Option (Int × ByteArray × Int × (List (List C)) × (List (List C)))) (aC : Int) (aB : ByteArray) (aD : Int) (aA : List (List D)) (aI : List (List D)) (K : Int → ByteArray → Int → (List (List C)) → (List (List C)) → Option β) : Option β := bd5 (r aC aB aD aA aI) K
noncomputable def Yz.all : Nat → (Int → ByteArray → Int → (List (List D)) → (List (List D)) → Option (Int × ByteArray × Int × (List (List C)) × (List (List C))))
  | 0 => (fun _ _ _ _ _ => none)
  | k + 1 => (fun r => (fun aC aB aD aA aI => Yz.body k (Yz.w r) aC aB aD aA aI (fun z0 z1 z2 z3 z4 => some (z0, z1, z2, z3, z4)))) (Yz.all k)
noncomputable def Yz.t (k : Nat) (aC : Int) (aB : ByteArray) (aD : Int) (aA aI : List (List D)) : Option (Int × ByteArray × Int × (List (List C)) × (List (List C))) := (Yz.all k) aC aB aD aA aI
noncomputable def Yz.f {β : Type} (k : Nat) (aC : Int) (aB : ByteArray) (aD : Int) (aA aI : List (List D)) (K : Int → ByteArray → Int → (List (List C)) → (List (List C)) → Option β) : Option β := Yz.w (Yz.t k) aC aB aD aA aI K
noncomputable def Yz.g {β : Type} (k : Nat) (aC : Int) (aB : ByteArray) (aD : Int) (aA aI : List (List D)) (K : Int → ByteArray → Int → (List (List C)) → (List (List C)) → Option β) : Option β := Yz.body k (Yz.f k) aC aB aD aA aI K
theorem Yz.t_succ (k : Nat) (aC : Int) (aB : ByteArray) (aD : Int) (aA aI : List (List D)) : Yz.t (k + 1) aC aB aD aA aI = Yz.g k aC aB aD aA aI (fun z0 z1 z2 z3 z4 => some (z0, z1, z2, z3, z4)) := rfl
noncomputable def Yz.e (k : Nat) : Zk := ent [.agg [.n, .s, .n, .l, .l]] [5] [.n, .s, .n, .o, .o] [95] false (Yz.t k)
noncomputable def Yz.p (k : Nat) : Pro := ⟨Try.prog, [(182, Yz.e k)], Zn [(3, kp [1, 2, 3, 4] [] [(3, 4, .row true 93)])] false [], k⟩
noncomputable def Yz.d (k : Nat) (aC : Int) (aB : ByteArray) (aD : Int) (aA aI : List (List D)) : Ex → St → Option (Int × ByteArray × Int × (List (List C)) × (List (List C))) := (Yz.p k).fin Try.f182 [.agg [.int .i64 aC, .str aB, .int .i64 aD, .sl aA, .sl aI]] [5] [.n, .s, .n, .o, .o]
noncomputable def Yz.s0 (aF : Int) (aJ : ByteArray) (aK : Int) (aY aZ : List (List D)) (bA : Int) (bB : ByteArray) (bK bJ : Int) (bZ : ByteArray) (bL : Int) (v0_12 : List (List C)) (v : Int × (List (List C))) : St :=
  match v with
  | (aH, v0_13) => ZX 35 [(1, .bp 0 0), (2, .bp 1 0), (3, .bp 2 0), (4, .d true (.int .i64 aH))] [.box none 95 [.d false (.int .i64 aF), .d false (.str aJ), .d false (.int .i64 aK), .d false (.sl aY), .d false (.sl aZ)], .box none 95 [.d true (.int .i64 bA), .d true (.str bB), .d true (.int .i64 bK), .nil, .nil], .box none 95 [.d false (.int .i64 bJ), .d false (.str bZ), .d false (.int .i64 bL), .row 3, .row 4], .row none true 74 v0_12, .row none true 93 v0_13]
noncomputable def Yz.r0 (k : Nat) (aC : Int) (aB : ByteArray) (aD : Int) (aA aI : List (List D)) (aF : Int) (aJ : ByteArray) (aK : Int) (aY aZ : List (List D)) (bA : Int) (bB : ByteArray) (bK bJ : Int) (bZ : ByteArray) (bL : Int) (v0_12 : List (List C)) (n : Nat) (v : Int × (List (List C))) : Option (Int × ByteArray × Int × (List (List C)) × (List (List C))) := (Yz.p k).lp (Zt Try.f182) 3 [1, 1, 0, 1, 0] (Yz.d k aC aB aD aA aI) n (Yz.s0 aF aJ aK aY aZ bA bB bK bJ bZ bL v0_12 v)
theorem Yz.l0_eq (k : Nat) (aC : Int) (aB : ByteArray) (aD : Int) (aA aI : List (List D)) (aF : Int) (aJ : ByteArray) (aK : Int) (aY aZ : List (List D)) (bA : Int) (bB : ByteArray) (bK bJ : Int) (bZ : ByteArray) (bL : Int) (v0_12 : List (List C)) : ∀ n v, Yz.r0 k aC aB aD aA aI aF aJ aK aY aZ bA bB bK bJ bZ bL v0_12 n v = Zo (Yz.l0 k (Yz.f k) aF aJ aK aY aZ bA bB bK bJ bZ bL v0_12 (fun z0 z1 z2 z3 z4 => some (z0, z1, z2, z3, z4))) n v :=
  Zm (Yz.s0 aF aJ aK aY aZ bA bB bK bJ bZ bL v0_12) _ fun L0 v => by obtain ⟨aH, v0_13⟩ := v; kernel_rfl
theorem Yz.oks (k : Nat) : Za Try.prog 182 (Yz.e k) := by
  induction k with
  | zero => exact Z7 Try.func182 (by kernel_rfl) (fun _ _ _ _ _ => rfl)
  | succ k ih => exact Zh (Yz.p k) mix tyok Try.func182 ih (by kernel_rfl) (fun aC aB aD aA aI => Eq.trans (b := Yz.m k (Yz.f k) aC aB aD aA aI (fun z0 z1 z2 z3 z4 => some (z0, z1, z2, z3, z4)) (fun aF aJ aK aY aZ bA bB bK bJ bZ bL v0_12 => Yz.r0 k aC aB aD aA aI aF aJ aK aY aZ bA bB bK bJ bZ bL v0_12 k)) (by kernel_rfl) ((congrArg (Yz.m k (Yz.f k) aC aB aD aA aI (fun z0 z1 z2 z3 z4 => some (z0, z1, z2, z3, z4))) (funext fun aF => funext fun aJ => funext fun aK => funext fun aY => funext fun aZ => funext fun bA => funext fun bB => funext fun bK => funext fun bJ => funext fun bZ => funext fun bL => funext fun v0_12 => funext fun v => Yz.l0_eq k aC aB aD aA aI aF aJ aK aY aZ bA bB bK bJ bZ bL v0_12 k v)).trans (Yz.t_succ k aC aB aD aA aI).symm))
theorem Yz.ok (k : Nat) : Za Try.prog 182 (Yz.e k) := (Yz.oks k)
noncomputable def Yap.g {β : Type} (k : Nat) (aC : Int) (aB : ByteArray) (aD aA aI : Int) (aX : Bool) (aP : List (List D)) (aU : Int) (aL : ByteArray) (aV : Int) (aM aQ : List (List D)) (aT : Int) (aN : ByteArray) (aW : Int) (aO aR : List (List D)) (K : Int → ByteArray → Int → Int → Int → Bool → (List (List C)) → Int → ByteArray → Int → (List (List C)) → (List (List C)) → Int → ByteArray → Int → (List (List C)) → (List (List C)) → Option β) : Option β :=
  Zc (ZaZ 1 aP) (Zc (([] : List (List C)).length + (aP.map (·.map C.d)).length ≤ ZN) (Yz.f k aU aL aV aM aQ (fun y43 y44 y45 y46 y47 => Yz.f k aT aN aW aO aR (fun y48 y49 y50 y51 y52 => K aC aB aD aA aI aX (([] : List (List C)) ++ (aP.map (·.map C.d))) y43 y44 y45 y46 y47 y48 y49 y50 y51 y52))))
noncomputable def Yap.t (k : Nat) (aC : Int) (aB : ByteArray) (aD aA aI : Int) (aX : Bool) (aP : List (List D)) (aU : Int) (aL : ByteArray) (aV : Int) (aM aQ : List (List D)) (aT : Int) (aN : ByteArray) (aW : Int) (aO aR : List (List D)) : Option (Int × ByteArray × Int × Int × Int × Bool × (List (List C)) × Int × ByteArray × Int × (List (List C)) × (List (List C)) × Int × ByteArray × Int × (List (List C)) × (List (List C))) := Yap.g k aC aB aD aA aI aX aP aU aL aV aM aQ aT aN aW aO aR (fun z0 z1 z2 z3 z4 z5 z6 z7 z8 z9 z10 z11 z12 z13 z14 z15 z16 => some (z0, z1, z2, z3, z4, z5, z6, z7, z8, z9, z10, z11, z12, z13, z14, z15, z16))
noncomputable def Yap.f {β : Type} (k : Nat) (aC : Int) (aB : ByteArray) (aD aA aI : Int) (aX : Bool) (aP : List (List D)) (aU : Int) (aL : ByteArray) (aV : Int) (aM aQ : List (List D)) (aT : Int) (aN : ByteArray) (aW : Int) (aO aR : List (List D)) (K : Int → ByteArray → Int → Int → Int → Bool → (List (List C)) → Int → ByteArray → Int → (List (List C)) → (List (List C)) → Int → ByteArray → Int → (List (List C)) → (List (List C)) → Option β) : Option β := match Yap.t k aC aB aD aA aI aX aP aU aL aV aM aQ aT aN aW aO aR with | some (z0, z1, z2, z3, z4, z5, z6, z7, z8, z9, z10, z11, z12, z13, z14, z15, z16) => K z0 z1 z2 z3 z4 z5 z6 z7 z8 z9 z10 z11 z12 z13 z14 z15 z16 | none => none
noncomputable def Yap.e (k : Nat) : Zk := ent [.agg [.n, .s, .n, .n, .n, .b, .l, .n, .s, .n, .l, .l, .n, .s, .n, .l, .l]] [17] [.n, .s, .n, .n, .n, .b, .o, .n, .s, .n, .o, .o, .n, .s, .n, .o, .o] [97] false (Yap.t k)
noncomputable def Yap.p (k : Nat) : Pro := ⟨Try.prog, [(182, Yz.e k)], Zn [] false [], k⟩
theorem Yap.ok (k : Nat) : Za Try.prog 135 (Yap.e k) := Zh (Yap.p k) mix tyok Try.func135 (Yz.ok k) (by kernel_rfl) (fun aC aB aD aA aI aX aP aU aL aV aM aQ aT aN aW aO aR => by show _ = _; kernel_rfl)
noncomputable def YG.l0 {β : Type} (k : Nat) (aH : List (List D)) (K : (List (List C)) → Option β) (L0 : (Int × (List (List C))) → Option β) (v : Int × (List (List C))) : Option β :=
  match v with
  | (aF, aJ) => bif (decide ((aF : Int) < (aH.length : Int))) then (atR aH aF [.n, .b, .n, .s, .n, .n, .n, .b, .l, .n, .s, .n, .l, .l, .n, .s, .n, .l, .l] fun x195 x198 x201 x204 x207 x210 x213 x216 x219 x222 x225 x228 x231 x234 x237 x240 x243 x246 x249 => (atR aH aF [.n, .b, .n, .s, .n, .n, .n, .b, .l, .n, .s, .n, .l, .l, .n, .s, .n, .l, .l] fun x253 x256 x259 x262 x265 x268 x271 x274 x277 x280 x283 x286 x289 x292 x295 x298 x301 x304 x307 => (atR aH aF [.n, .b, .n, .s, .n, .n, .n, .b, .l, .n, .s, .n, .l, .l, .n, .s, .n, .l, .l] fun x311 x314 x317 x320 x323 x326 x329 x332 x335 x338 x341 x344 x347 x350 x353 x356 x359 x362 x365 => (Yap.f k x317 x320 x323 x326 x329 x332 x335 x338 x341 x344 x347 x350 x353 x356 x359 x362 x365 (fun y366 y367 y368 y369 y370 y371 y372 y373 y374 y375 y376 y377 y378 y379 y380 y381 y382 => Zc (aJ.length + ([[.d (.int .i64 x195), .d (.bool x256), .d (.int .i64 y366), .d (.str y367), .d (.int .i64 y368), .d (.int .i64 y369), .d (.int .i64 y370), .d (.bool y371), .own y372, .d (.int .i64 y373), .d (.str y374), .d (.int .i64 y375), .own y376, .own y377, .d (.int .i64 y378), .d (.str y379), .d (.int .i64 y380), .own y381, .own y382]] : List (List C)).length ≤ ZN) (L0 (IntKind.wrap .i64 (aF + 1), aJ ++ ([[.d (.int .i64 x195), .d (.bool x256), .d (.int .i64 y366), .d (.str y367), .d (.int .i64 y368), .d (.int .i64 y369), .d (.int .i64 y370), .d (.bool y371), .own y372, .d (.int .i64 y373), .d (.str y374), .d (.int .i64 y375), .own y376, .own y377, .d (.int .i64 y378), .d (.str y379), .d (.int .i64 y380), .own y381, .own y382]] : List (List C))))))))) else (K aJ)
noncomputable def YG.m {β : Type} (k : Nat) (a0 : List (List D)) (K : (List (List C)) → Option β) (F : ((List (List D)) → (Int × (List (List C))) → Option β)) : Option β :=
  F a0 (0, ([] : List (List C)))
noncomputable def YG.g {β : Type} (k : Nat) (a0 : List (List D)) (K : (List (List C)) → Option β) : Option β :=
  Zo (YG.l0 k a0 K) k (0, ([] : List (List C)))
noncomputable def YG.t (k : Nat) (a0 : List (List D)) : Option ((List (List C))) := YG.g k a0 (fun z0 => some z0)
noncomputable def YG.f {β : Type} (k : Nat) (a0 : List (List D)) (K : (List (List C)) → Option β) : Option β := bd1 (YG.t k a0) K
noncomputable def YG.e (k : Nat) : Zk := ent [.d .l] [1] [.o] [27] false (YG.t k)
noncomputable def YG.p (k : Nat) : Pro := ⟨Try.prog, [(135, Yap.e k)], Zn [(3, kp [0, 3, 4])] false [], k⟩
noncomputable def YG.d (k : Nat) (a0 : List (List D)) : Ex → St → Option ((List (List C))) := (YG.p k).fin Try.f58 [.d (.sl a0)] [1] [.o]
noncomputable def YG.s0 (aH : List (List D)) (v : Int × (List (List C))) : St :=
  match v with
  | (aF, aJ) => ZX 33 [(0, .d false (.sl aH)), (3, .row 0), (4, .d true (.int .i64 aF))] [.row none true 27 aJ]
noncomputable def YG.r0 (k : Nat) (a0 aH : List (List D)) (n : Nat) (v : Int × (List (List C))) : Option ((List (List C))) := (YG.p k).lp (Zt Try.f58) 3 [1, 1, 0, 1, 0] (YG.d k a0) n (YG.s0 aH v)
theorem YG.l0_eq (k : Nat) (a0 aH : List (List D)) : ∀ n v, YG.r0 k a0 aH n v = Zo (YG.l0 k aH (fun z0 => some z0)) n v :=
  Zm (YG.s0 aH) _ fun L0 v => by obtain ⟨aF, aJ⟩ := v; kernel_rfl
theorem YG.ok (k : Nat) : Za Try.prog 58 (YG.e k) := Zh (YG.p k) mix tyok Try.func58 (Yap.ok k) (by kernel_rfl) (fun a0 => Eq.trans (b := YG.m k a0 (fun z0 => some z0) (fun aH => YG.r0 k a0 aH k)) (by kernel_rfl) (congrArg (YG.m k a0 (fun z0 => some z0)) (funext fun aH => funext fun v => YG.l0_eq k a0 aH k v)))
noncomputable def Y0.l0 {β : Type} (k : Nat) (aH : Int) (aJ : List (List D)) (aK aY : Int) (aZ : List (List D)) (K : (List (List C)) → Bool → Option β) (L0 : (Int × (List (List C))) → Option β) (v : Int × (List (List C))) : Option β :=
  match v with
  | (aF, bA) => bif (decide ((aF : Int) < (aZ.length : Int))) then (atR aZ aF [.n, .b, .n, .s, .n, .n, .n, .b, .l, .n, .s, .n, .l, .l, .n, .s, .n, .l, .l] fun x387 x390 x393 x396 x399 x402 x405 x408 x411 x414 x417 x420 x423 x426 x429 x432 x435 x438 x441 => (bif (decide ((x387 : Int) > aH)) then (atR aZ aF [.n, .b, .n, .s, .n, .n, .n, .b, .l, .n, .s, .n, .l, .l, .n, .s, .n, .l, .l] fun x445 x448 x451 x454 x457 x460 x463 x466 x469 x472 x475 x478 x481 x484 x487 x490 x493 x496 x499 => (Zc (bA.length + ([[.d (.int .i64 x445), .d (.bool x448), .d (.int .i64 x451), .d (.str x454), .d (.int .i64 x457), .d (.int .i64 x460), .d (.int .i64 x463), .d (.bool x466), .d (.sl x469), .d (.int .i64 x472), .d (.str x475), .d (.int .i64 x478), .d (.sl x481), .d (.sl x484), .d (.int .i64 x487), .d (.str x490), .d (.int .i64 x493), .d (.sl x496), .d (.sl x499)]] : List (List C)).length ≤ ZN) (L0 (IntKind.wrap .i64 (aF + 1), bA ++ ([[.d (.int .i64 x445), .d (.bool x448), .d (.int .i64 x451), .d (.str x454), .d (.int .i64 x457), .d (.int .i64 x460), .d (.int .i64 x463), .d (.bool x466), .d (.sl x469), .d (.int .i64 x472), .d (.str x475), .d (.int .i64 x478), .d (.sl x481), .d (.sl x484), .d (.int .i64 x487), .d (.str x490), .d (.int .i64 x493), .d (.sl x496), .d (.sl x499)]] : List (List C)))))) else (L0 (IntKind.wrap .i64 (aF + 1), bA)))) else (bif (decide (((bA.length : Int) : Int) < (IntKind.wrap .i64 (aK - aH)))) then (K ([] : List (List C)) false) else (YG.f k (C.immRows bA) (fun y500 => K y500 true)))
noncomputable def Y0.m {β : Type} (k : Nat) (aC : List (List D)) (aB aD : Int) (aA : List (List D)) (a1 : Int) (K : (List (List C)) → Bool → Option β) (F : (Int → (List (List D)) → Int → Int → (List (List D)) → (Int × (List (List C))) → Option β)) : Option β :=
  Yy.f k aC aB aD aA (fun y1 => bif (!y1) then (K ([] : List (List C)) false) else (YH.f k a1 0 aB (fun y2 => bif (!y2) then (K ([] : List (List C)) false) else (F a1 aC aB aD aA (0, ([] : List (List C)))))))
noncomputable def Y0.g {β : Type} (k : Nat) (aC : List (List D)) (aB aD : Int) (aA : List (List D)) (a1 : Int) (K : (List (List C)) → Bool → Option β) : Option β :=
  Yy.f k aC aB aD aA (fun y1 => bif (!y1) then (K ([] : List (List C)) false) else (YH.f k a1 0 aB (fun y2 => bif (!y2) then (K ([] : List (List C)) false) else (Zo (Y0.l0 k a1 aC aB aD aA K) k (0, ([] : List (List C)))))))
noncomputable def Y0.t (k : Nat) (aC : List (List D)) (aB aD : Int) (aA : List (List D)) (a1 : Int) : Option ((List (List C)) × Bool) := Y0.g k aC aB aD aA a1 (fun z0 z1 => some (z0, z1))
noncomputable def Y0.f {β : Type} (k : Nat) (aC : List (List D)) (aB aD : Int) (aA : List (List D)) (a1 : Int) (K : (List (List C)) → Bool → Option β) : Option β := bd2 (Y0.t k aC aB aD aA a1) K
noncomputable def Y0.e (k : Nat) : Zk := ent [.agg [.l, .n, .n, .l], .d .n] [1, 1] [.o, .b] [27, 4] false (Y0.t k)
noncomputable def Y0.p (k : Nat) : Pro := ⟨Try.prog, [(56, Yy.e k), (57, YH.e k), (58, YG.e k)], Zn [(5, kp [1, 2, 7] [(6, .row false 27)])] false [], k⟩
noncomputable def Y0.d (k : Nat) (aC : List (List D)) (aB aD : Int) (aA : List (List D)) (a1 : Int) : Ex → St → Option ((List (List C)) × Bool) := (Y0.p k).fin Try.f11 [.agg [.sl aC, .int .i64 aB, .int .i64 aD, .sl aA], .d (.int .i64 a1)] [1, 1] [.o, .b]
noncomputable def Y0.s0 (aH : Int) (aJ : List (List D)) (aK aY : Int) (aZ : List (List D)) (v : Int × (List (List C))) : St :=
  match v with
  | (aF, bA) => ZX 53 [(1, .d false (.int .i64 aH)), (2, .bp 0 0), (6, .row 1), (7, .d true (.int .i64 aF))] [.box none 32 [.d false (.sl aJ), .d false (.int .i64 aK), .d false (.int .i64 aY), .d false (.sl aZ)], .row none false 27 bA]
noncomputable def Y0.r0 (k : Nat) (aC : List (List D)) (aB aD : Int) (aA : List (List D)) (a1 aH : Int) (aJ : List (List D)) (aK aY : Int) (aZ : List (List D)) (n : Nat) (v : Int × (List (List C))) : Option ((List (List C)) × Bool) := (Y0.p k).lp (Zt Try.f11) 5 [1, 1, 1, 0, 1, 0] (Y0.d k aC aB aD aA a1) n (Y0.s0 aH aJ aK aY aZ v)
theorem Y0.l0_eq (k : Nat) (aC : List (List D)) (aB aD : Int) (aA : List (List D)) (a1 aH : Int) (aJ : List (List D)) (aK aY : Int) (aZ : List (List D)) : ∀ n v, Y0.r0 k aC aB aD aA a1 aH aJ aK aY aZ n v = Zo (Y0.l0 k aH aJ aK aY aZ (fun z0 z1 => some (z0, z1))) n v :=
  Zm (Y0.s0 aH aJ aK aY aZ) _ fun L0 v => by obtain ⟨aF, bA⟩ := v; kernel_rfl
theorem Y0.ok (k : Nat) : Za Try.prog 11 (Y0.e k) := Zh (Y0.p k) mix tyok Try.func11 ⟨Yy.ok k, YH.ok k, YG.ok k⟩ (by kernel_rfl) (fun aC aB aD aA a1 => Eq.trans (b := Y0.m k aC aB aD aA a1 (fun z0 z1 => some (z0, z1)) (fun aH aJ aK aY aZ => Y0.r0 k aC aB aD aA a1 aH aJ aK aY aZ k)) (by kernel_rfl) (congrArg (Y0.m k aC aB aD aA a1 (fun z0 z1 => some (z0, z1))) (funext fun aH => funext fun aJ => funext fun aK => funext fun aY => funext fun aZ => funext fun v => Y0.l0_eq k aC aB aD aA a1 aH aJ aK aY aZ k v)))
noncomputable def YY.g {β : Type} (k : Nat) (a0 a1 a2 : Int) (K : Bool → Option β) : Option β :=
  bif (decide ((a0 : Int) ≥ a1)) then (K (decide ((a0 : Int) ≤ a2))) else (K false)
noncomputable def YY.t (k : Nat) (a0 a1 a2 : Int) : Option (Bool) := YY.g k a0 a1 a2 (fun z0 => some z0)
noncomputable def YY.f {β : Type} (k : Nat) (a0 a1 a2 : Int) (K : Bool → Option β) : Option β := bd1 (YY.t k a0 a1 a2) K
noncomputable def YY.e (k : Nat) : Zk := ent [.d .n, .d .n, .d .n] [1] [.b] [4] false (YY.t k)
noncomputable def YY.p (k : Nat) : Pro := ⟨Try.prog, [], Zn [] false [], k⟩
theorem YY.ok (k : Nat) : Za Try.prog 61 (YY.e k) := Zh (YY.p k) mix tyok Try.func61 trivial (by kernel_rfl) (fun a0 a1 a2 => by show _ = _; kernel_rfl)
noncomputable def Yaq.g {β : Type} (k : Nat) (a0 : Int) (K : Bool → Option β) : Option β :=
  YY.f k a0 1 3 (fun y1 => K y1)
noncomputable def Yaq.t (k : Nat) (a0 : Int) : Option (Bool) := Yaq.g k a0 (fun z0 => some z0)
noncomputable def Yaq.f {β : Type} (k : Nat) (a0 : Int) (K : Bool → Option β) : Option β := bd1 (Yaq.t k a0) K
noncomputable def Yaq.e (k : Nat) : Zk := ent [.d .n] [1] [.b] [4] false (Yaq.t k)
noncomputable def Yaq.p (k : Nat) : Pro := ⟨Try.prog, [(61, YY.e k)], Zn [] false [], k⟩
theorem Yaq.ok (k : Nat) : Za Try.prog 188 (Yaq.e k) := Zh (Yaq.p k) mix tyok Try.func188 (YY.ok k) (by kernel_rfl) (fun a0 => by show _ = _; kernel_rfl)
noncomputable def YV.l0 {β : Type} (k : Nat) (aH : ByteArray) (aF : Int) (K : Bool → Option β) (L0 : Int → Option β) (v : Int) : Option β :=
  match v with
  | aJ => bif (decide ((aJ : Int) < aF)) then (Za0 aH aJ fun b5 => let J1 := (bif ((b5 : Int) != 45) then (K false) else (L0 (IntKind.wrap .i64 (aJ + 1)))); let J0 := (bif (decide ((b5 : Int) < 48)) then J1 else (bif (decide ((b5 : Int) > 57)) then J1 else (L0 (IntKind.wrap .i64 (aJ + 1))))); bif (decide ((b5 : Int) < 97)) then J0 else (bif (decide ((b5 : Int) > 122)) then J0 else (L0 (IntKind.wrap .i64 (aJ + 1))))) else (YY.f k (aH.size : Int) 1 20 (fun y6 => bif y6 then (Za0 aH 0 fun b7 => bif ((b7 : Int) != 45) then (Za0 aH (IntKind.wrap .i64 ((aH.size : Int) - 1)) fun b8 => K ((b8 : Int) != 45)) else (K false)) else (K false)))
noncomputable def YV.m {β : Type} (k : Nat) (a0 : ByteArray) (K : Bool → Option β) (F : (ByteArray → Int → Int → Option β)) : Option β :=
  F a0 (a0.size : Int) (0)
noncomputable def YV.g {β : Type} (k : Nat) (a0 : ByteArray) (K : Bool → Option β) : Option β :=
  Zo (YV.l0 k a0 (a0.size : Int) K) k (0)
noncomputable def YV.t (k : Nat) (a0 : ByteArray) : Option (Bool) := YV.g k a0 (fun z0 => some z0)
noncomputable def YV.f {β : Type} (k : Nat) (a0 : ByteArray) (K : Bool → Option β) : Option β := bd1 (YV.t k a0) K
noncomputable def YV.e (k : Nat) : Zk := ent [.d .s] [1] [.b] [4] false (YV.t k)
noncomputable def YV.p (k : Nat) : Pro := ⟨Try.prog, [(61, YY.e k)], Zn [(2, kp [0, 6, 7])] false [], k⟩
noncomputable def YV.d (k : Nat) (a0 : ByteArray) : Ex → St → Option (Bool) := (YV.p k).fin Try.f126 [.d (.str a0)] [1] [.b]
noncomputable def YV.s0 (aH : ByteArray) (aF v : Int) : St :=
  match v with
  | aJ => ZX 48 [(0, .d false (.str aH)), (6, .d true (.int .i64 aF)), (7, .d true (.int .i64 aJ))] []
noncomputable def YV.r0 (k : Nat) (a0 aH : ByteArray) (aF : Int) (n : Nat) (v : Int) : Option (Bool) := (YV.p k).lp (Zt Try.f126) 2 [1, 0, 1, 0] (YV.d k a0) n (YV.s0 aH aF v)
theorem YV.l0_eq (k : Nat) (a0 aH : ByteArray) (aF : Int) : ∀ n v, YV.r0 k a0 aH aF n v = Zo (YV.l0 k aH aF (fun z0 => some z0)) n v :=
  Zm (YV.s0 aH aF) _ fun L0 v => by kernel_rfl
theorem YV.ok (k : Nat) : Za Try.prog 126 (YV.e k) := Zh (YV.p k) mix tyok Try.func126 (YY.ok k) (by kernel_rfl) (fun a0 => Eq.trans (b := YV.m k a0 (fun z0 => some z0) (fun aH aF => YV.r0 k a0 aH aF k)) (by kernel_rfl) (congrArg (YV.m k a0 (fun z0 => some z0)) (funext fun aH => funext fun aF => funext fun v => YV.l0_eq k a0 aH aF k v)))
noncomputable def YN.l0 {β : Type} (k : Nat) (aH : List (List D)) (aF : Int) (aJ : List (List D)) (aK : Int) (K : Bool → Option β) (L0 : Int → Option β) (v : Int) : Option β :=
  match v with
  | aY => bif (decide ((aY : Int) < aK)) then (atR aJ aY [.s] fun x13 => (YV.f k x13 (fun y14 => bif (!y14) then (K false) else (bif (decide ((aY : Int) > 0)) then (atR aH (IntKind.wrap .i64 (aY - 1)) [.s] fun x18 => (bif (!(ZbO x18 x13)) then (K false) else (L0 (IntKind.wrap .i64 (aY + 1))))) else (L0 (IntKind.wrap .i64 (aY + 1))))))) else (K (decide (((aH.length : Int) : Int) ≤ aF)))
noncomputable def YN.m {β : Type} (k : Nat) (a0 : List (List D)) (a1 : Int) (K : Bool → Option β) (F : ((List (List D)) → Int → (List (List D)) → Int → Int → Option β)) : Option β :=
  F a0 a1 a0 (a0.length : Int) (0)
noncomputable def YN.g {β : Type} (k : Nat) (a0 : List (List D)) (a1 : Int) (K : Bool → Option β) : Option β :=
  Zo (YN.l0 k a0 a1 a0 (a0.length : Int) K) k (0)
noncomputable def YN.t (k : Nat) (a0 : List (List D)) (a1 : Int) : Option (Bool) := YN.g k a0 a1 (fun z0 => some z0)
noncomputable def YN.f {β : Type} (k : Nat) (a0 : List (List D)) (a1 : Int) (K : Bool → Option β) : Option β := bd1 (YN.t k a0 a1) K
noncomputable def YN.e (k : Nat) : Zk := ent [.d .l, .d .n] [1] [.b] [4] false (YN.t k)
noncomputable def YN.p (k : Nat) : Pro := ⟨Try.prog, [(126, YV.e k)], Zn [(2, kp [0, 1, 7, 8, 9])] false [], k⟩
noncomputable def YN.d (k : Nat) (a0 : List (List D)) (a1 : Int) : Ex → St → Option (Bool) := (YN.p k).fin Try.f189 [.d (.sl a0), .d (.int .i64 a1)] [1] [.b]
noncomputable def YN.s0 (aH : List (List D)) (aF : Int) (aJ : List (List D)) (aK v : Int) : St :=
  match v with
  | aY => ZX 35 [(0, .d false (.sl aH)), (1, .d false (.int .i64 aF)), (7, .d false (.sl aJ)), (8, .d true (.int .i64 aK)), (9, .d true (.int .i64 aY))] []
noncomputable def YN.r0 (k : Nat) (a0 : List (List D)) (a1 : Int) (aH : List (List D)) (aF : Int) (aJ : List (List D)) (aK : Int) (n : Nat) (v : Int) : Option (Bool) := (YN.p k).lp (Zt Try.f189) 2 [1, 0, 1, 0] (YN.d k a0 a1) n (YN.s0 aH aF aJ aK v)
theorem YN.l0_eq (k : Nat) (a0 : List (List D)) (a1 : Int) (aH : List (List D)) (aF : Int) (aJ : List (List D)) (aK : Int) : ∀ n v, YN.r0 k a0 a1 aH aF aJ aK n v = Zo (YN.l0 k aH aF aJ aK (fun z0 => some z0)) n v :=
  Zm (YN.s0 aH aF aJ aK) _ fun L0 v => by kernel_rfl
theorem YN.ok (k : Nat) : Za Try.prog 189 (YN.e k) := Zh (YN.p k) mix tyok Try.func189 (YV.ok k) (by kernel_rfl) (fun a0 a1 => Eq.trans (b := YN.m k a0 a1 (fun z0 => some z0) (fun aH aF aJ aK => YN.r0 k a0 a1 aH aF aJ aK k)) (by kernel_rfl) (congrArg (YN.m k a0 a1 (fun z0 => some z0)) (funext fun aH => funext fun aF => funext fun aJ => funext fun aK => funext fun v => YN.l0_eq k a0 a1 aH aF aJ aK k v)))
noncomputable def YM.l0 {β : Type} (k : Nat) (aH aF aJ : Bool) (aK aZ : Int) (bA : ByteArray) (bB : Int) (bK bJ : List (List D)) (K : Bool → Option β) (L0 : Int → Option β) (v : Int) : Option β :=
  match v with
  | aY => bif (decide ((aY : Int) < aK)) then (Za0 bA aY fun b3 => YY.f k (IntKind.wrap .i64 b3) 32 126 (fun y4 => bif (!y4) then (K false) else (L0 (IntKind.wrap .i64 (aY + 1))))) else (bif (decide (((bA.size : Int) : Int) ≤ 100)) then (bif aH then (bif aF then (K aJ) else (K false)) else (K false)) else (K false))
noncomputable def YM.m {β : Type} (k : Nat) (aC : Int) (aB : ByteArray) (aD : Int) (aA aI : List (List D)) (K : Bool → Option β) (F : (Bool → Bool → Bool → Int → Int → ByteArray → Int → (List (List D)) → (List (List D)) → Int → Option β)) : Option β :=
  bif ((aC : Int) == 1) then (F ((aD : Int) == 0) (((aA.length : Int) : Int) == 0) (((aI.length : Int) : Int) == 0) (aB.size : Int) aC aB aD aA aI (0)) else (let J0 := (bif (((aA.length : Int) : Int) == 0) then (K (((aI.length : Int) : Int) == 0)) else (K false)); bif ((aC : Int) == 2) then (bif (Zae aB (⟨#[]⟩ : ByteArray)) then J0 else (K false)) else (bif ((aC : Int) == 3) then (YY.f k aD 0 1 (fun y5 => bif (Zae aB (⟨#[]⟩ : ByteArray)) then (bif y5 then J0 else (K false)) else (K false))) else (bif ((aC : Int) == 4) then (bif (Zae aB (⟨#[]⟩ : ByteArray)) then (bif ((aD : Int) == 0) then (bif (((aA.length : Int) : Int) == 0) then (K true) else (K false)) else (K false)) else (K false)) else (bif ((aC : Int) == 5) then (YN.f k aA 300 (fun y6 => bif y6 then (bif (Zae aB (⟨#[]⟩ : ByteArray)) then (bif ((aD : Int) == 0) then (bif (((aA.length : Int) : Int) == (aI.length : Int)) then (K true) else (K false)) else (K false)) else (K false)) else (bif (Zae aB (⟨#[]⟩ : ByteArray)) then (bif ((aD : Int) == 0) then (K false) else (K false)) else (K false)))) else (K false)))))
noncomputable def YM.g {β : Type} (k : Nat) (aC : Int) (aB : ByteArray) (aD : Int) (aA aI : List (List D)) (K : Bool → Option β) : Option β := YM.m k aC aB aD aA aI K (fun aH aF aJ aK aZ bA bB bK bJ => Zo (YM.l0 k aH aF aJ aK aZ bA bB bK bJ K) k)
noncomputable def YM.t (k : Nat) (aC : Int) (aB : ByteArray) (aD : Int) (aA aI : List (List D)) : Option (Bool) := YM.g k aC aB aD aA aI (fun z0 => some z0)
noncomputable def YM.f {β : Type} (k : Nat) (aC : Int) (aB : ByteArray) (aD : Int) (aA aI : List (List D)) (K : Bool → Option β) : Option β := bd1 (YM.t k aC aB aD aA aI) K
noncomputable def YM.e (k : Nat) : Zk := ent [.agg [.n, .s, .n, .l, .l]] [1] [.b] [4] false (YM.t k)
noncomputable def YM.p (k : Nat) : Pro := ⟨Try.prog, [(61, YY.e k), (189, YN.e k)], Zn [(6, kp [1, 4, 5, 6, 28, 29])] false [], k⟩
noncomputable def YM.d (k : Nat) (aC : Int) (aB : ByteArray) (aD : Int) (aA aI : List (List D)) : Ex → St → Option (Bool) := (YM.p k).fin Try.f217 [.agg [.int .i64 aC, .str aB, .int .i64 aD, .sl aA, .sl aI]] [1] [.b]
noncomputable def YM.s0 (aH aF aJ : Bool) (aK aZ : Int) (bA : ByteArray) (bB : Int) (bK bJ : List (List D)) (v : Int) : St :=
  match v with
  | aY => ZX 77 [(1, .bp 0 0), (4, .d true (.bool aH)), (5, .d true (.bool aF)), (6, .d true (.bool aJ)), (28, .d true (.int .i64 aK)), (29, .d true (.int .i64 aY))] [.box none 95 [.d false (.int .i64 aZ), .d false (.str bA), .d false (.int .i64 bB), .d false (.sl bK), .d false (.sl bJ)]]
noncomputable def YM.r0 (k : Nat) (aC : Int) (aB : ByteArray) (aD : Int) (aA aI : List (List D)) (aH aF aJ : Bool) (aK aZ : Int) (bA : ByteArray) (bB : Int) (bK bJ : List (List D)) (n : Nat) (v : Int) : Option (Bool) := (YM.p k).lp (Zt Try.f217) 6 [1, 1, 0, 1, 0, 1, 0, 0, 1, 0] (YM.d k aC aB aD aA aI) n (YM.s0 aH aF aJ aK aZ bA bB bK bJ v)
theorem YM.l0_eq (k : Nat) (aC : Int) (aB : ByteArray) (aD : Int) (aA aI : List (List D)) (aH aF aJ : Bool) (aK aZ : Int) (bA : ByteArray) (bB : Int) (bK bJ : List (List D)) : ∀ n v, YM.r0 k aC aB aD aA aI aH aF aJ aK aZ bA bB bK bJ n v = Zo (YM.l0 k aH aF aJ aK aZ bA bB bK bJ (fun z0 => some z0)) n v :=
  Zm (YM.s0 aH aF aJ aK aZ bA bB bK bJ) _ fun L0 v => by kernel_rfl
theorem YM.ok (k : Nat) : Za Try.prog 217 (YM.e k) := Zh (YM.p k) mix tyok Try.func217 ⟨YY.ok k, YN.ok k⟩ (by kernel_rfl) (fun aC aB aD aA aI => Eq.trans (b := YM.m k aC aB aD aA aI (fun z0 => some z0) (fun aH aF aJ aK aZ bA bB bK bJ => YM.r0 k aC aB aD aA aI aH aF aJ aK aZ bA bB bK bJ k)) (by kernel_rfl) (congrArg (YM.m k aC aB aD aA aI (fun z0 => some z0)) (funext fun aH => funext fun aF => funext fun aJ => funext fun aK => funext fun aZ => funext fun bA => funext fun bB => funext fun bK => funext fun bJ => funext fun v => YM.l0_eq k aC aB aD aA aI aH aF aJ aK aZ bA bB bK bJ k v)))
noncomputable def Yo.l0 {β : Type} (k : Nat) (r_impl_measured : Int → ByteArray → Int → (List (List D)) → (List (List D)) → Int → (Int → Option β) → Option β) (aH : Int) (aJ : List (List D)) (aK : Int) (K : Int → Option β) (L0 : (Int × Int) → Option β) (v : Int × Int) : Option β :=
  match v with
  | (aF, aY) => bif (decide ((aY : Int) < aK)) then (atR aJ aY [.n, .s, .n, .l, .l] fun x28 x31 x34 x37 x40 => (r_impl_measured x28 x31 x34 x37 x40 (IntKind.wrap .i64 (aH - 1)) (fun y41 => bif (decide (((IntKind.wrap .i64 (aF + y41)) : Int) > 300)) then (K 301) else (L0 (IntKind.wrap .i64 (aF + y41), IntKind.wrap .i64 (aY + 1)))))) else (K aF)
noncomputable def Yo.m {β : Type} (k : Nat) (r_impl_measured : Int → ByteArray → Int → (List (List D)) → (List (List D)) → Int → (Int → Option β) → Option β) (aC : Int) (aB : ByteArray) (aD : Int) (aA : List (List D)) (aI : List (List D)) (a1 : Int) (K : Int → Option β) (F : (Int → (List (List D)) → Int → (Int × Int) → Option β)) : Option β :=
  bif ((a1 : Int) == 0) then (K 301) else (YM.f k aC aB aD aA aI (fun y7 => bif (!y7) then (K 301) else (F a1 aI (aI.length : Int) (1, 0))))
noncomputable def Yo.body {β : Type} (k : Nat) (r_impl_measured : Int → ByteArray → Int → (List (List D)) → (List (List D)) → Int → (Int → Option β) → Option β) (aC : Int) (aB : ByteArray) (aD : Int) (aA : List (List D)) (aI : List (List D)) (a1 : Int) (K : Int → Option β) : Option β :=
  bif ((a1 : Int) == 0) then (K 301) else (YM.f k aC aB aD aA aI (fun y7 => bif (!y7) then (K 301) else (Zo (Yo.l0 k r_impl_measured a1 aI (aI.length : Int) K) k (1, 0))))
noncomputable def Yo.w {β : Type} (r : Int → ByteArray → Int → (List (List D)) → (List (List D)) → Int → Option (Int)) (aC : Int) (aB : ByteArray) (aD : Int) (aA : List (List D)) (aI : List (List D)) (a1 : Int) (K : Int → Option β) : Option β := bd1 (r aC aB aD aA aI a1) K
noncomputable def Yo.all : Nat → (Int → ByteArray → Int → (List (List D)) → (List (List D)) → Int → Option (Int))
  | 0 => (fun _ _ _ _ _ _ => none)
  | k + 1 => (fun r => (fun aC aB aD aA aI a1 => Yo.body k (Yo.w r) aC aB aD aA aI a1 (fun z0 => some z0))) (Yo.all k)
noncomputable def Yo.t (k : Nat) (aC : Int) (aB : ByteArray) (aD : Int) (aA aI : List (List D)) (a1 : Int) : Option (Int) := (Yo.all k) aC aB aD aA aI a1
noncomputable def Yo.f {β : Type} (k : Nat) (aC : Int) (aB : ByteArray) (aD : Int) (aA aI : List (List D)) (a1 : Int) (K : Int → Option β) : Option β := Yo.w (Yo.t k) aC aB aD aA aI a1 K
noncomputable def Yo.g {β : Type} (k : Nat) (aC : Int) (aB : ByteArray) (aD : Int) (aA aI : List (List D)) (a1 : Int) (K : Int → Option β) : Option β := Yo.body k (Yo.f k) aC aB aD aA aI a1 K
theorem Yo.t_succ (k : Nat) (aC : Int) (aB : ByteArray) (aD : Int) (aA aI : List (List D)) (a1 : Int) : Yo.t (k + 1) aC aB aD aA aI a1 = Yo.g k aC aB aD aA aI a1 (fun z0 => some z0) := rfl
noncomputable def Yo.e (k : Nat) : Zk := ent [.agg [.n, .s, .n, .l, .l], .d .n] [1] [.n] [3] false (Yo.t k)
noncomputable def Yo.p (k : Nat) : Pro := ⟨Try.prog, [(217, YM.e k), (208, Yo.e k)], Zn [(5, kp [1, 5, 16, 17, 18])] false [], k⟩
noncomputable def Yo.d (k : Nat) (aC : Int) (aB : ByteArray) (aD : Int) (aA aI : List (List D)) (a1 : Int) : Ex → St → Option (Int) := (Yo.p k).fin Try.f208 [.agg [.int .i64 aC, .str aB, .int .i64 aD, .sl aA, .sl aI], .d (.int .i64 a1)] [1] [.n]
noncomputable def Yo.s0 (aH : Int) (aJ : List (List D)) (aK : Int) (v : Int × Int) : St :=
  match v with
  | (aF, aY) => ZX 32 [(1, .d false (.int .i64 aH)), (5, .d true (.int .i64 aF)), (16, .d false (.sl aJ)), (17, .d true (.int .i64 aK)), (18, .d true (.int .i64 aY))] []
noncomputable def Yo.r0 (k : Nat) (aC : Int) (aB : ByteArray) (aD : Int) (aA aI : List (List D)) (a1 aH : Int) (aJ : List (List D)) (aK : Int) (n : Nat) (v : Int × Int) : Option (Int) := (Yo.p k).lp (Zt Try.f208) 5 [1, 1, 1, 0, 1, 0] (Yo.d k aC aB aD aA aI a1) n (Yo.s0 aH aJ aK v)
theorem Yo.l0_eq (k : Nat) (aC : Int) (aB : ByteArray) (aD : Int) (aA aI : List (List D)) (a1 aH : Int) (aJ : List (List D)) (aK : Int) : ∀ n v, Yo.r0 k aC aB aD aA aI a1 aH aJ aK n v = Zo (Yo.l0 k (Yo.f k) aH aJ aK (fun z0 => some z0)) n v :=
  Zm (Yo.s0 aH aJ aK) _ fun L0 v => by obtain ⟨aF, aY⟩ := v; kernel_rfl
theorem Yo.oks (k : Nat) : Za Try.prog 208 (Yo.e k) := by
  induction k with
  | zero => exact Z7 Try.func208 (by kernel_rfl) (fun _ _ _ _ _ _ => rfl)
  | succ k ih => exact Zh (Yo.p k) mix tyok Try.func208 ⟨YM.ok k, ih⟩ (by kernel_rfl) (fun aC aB aD aA aI a1 => Eq.trans (b := Yo.m k (Yo.f k) aC aB aD aA aI a1 (fun z0 => some z0) (fun aH aJ aK => Yo.r0 k aC aB aD aA aI a1 aH aJ aK k)) (by kernel_rfl) ((congrArg (Yo.m k (Yo.f k) aC aB aD aA aI a1 (fun z0 => some z0)) (funext fun aH => funext fun aJ => funext fun aK => funext fun v => Yo.l0_eq k aC aB aD aA aI a1 aH aJ aK k v)).trans (Yo.t_succ k aC aB aD aA aI a1).symm))
theorem Yo.ok (k : Nat) : Za Try.prog 208 (Yo.e k) := (Yo.oks k)
noncomputable def Y7.g {β : Type} (k : Nat) (aC : Int) (aB : ByteArray) (aD : Int) (aA aI : List (List D)) (K : Bool → Option β) : Option β :=
  Yo.f k aC aB aD aA aI 6 (fun y42 => K (decide ((y42 : Int) ≤ 300)))
noncomputable def Y7.t (k : Nat) (aC : Int) (aB : ByteArray) (aD : Int) (aA aI : List (List D)) : Option (Bool) := Y7.g k aC aB aD aA aI (fun z0 => some z0)
noncomputable def Y7.f {β : Type} (k : Nat) (aC : Int) (aB : ByteArray) (aD : Int) (aA aI : List (List D)) (K : Bool → Option β) : Option β := bd1 (Y7.t k aC aB aD aA aI) K
noncomputable def Y7.e (k : Nat) : Zk := ent [.agg [.n, .s, .n, .l, .l]] [1] [.b] [4] false (Y7.t k)
noncomputable def Y7.p (k : Nat) : Pro := ⟨Try.prog, [(208, Yo.e k)], Zn [] false [], k⟩
theorem Y7.ok (k : Nat) : Za Try.prog 190 (Y7.e k) := Zh (Y7.p k) mix tyok Try.func190 (Yo.ok k) (by kernel_rfl) (fun aC aB aD aA aI => by show _ = _; kernel_rfl)
noncomputable def Yan.g {β : Type} (k : Nat) (aC : Int) (aB : ByteArray) (aD aA aI : Int) (aX : Bool) (aP : List (List D)) (aU : Int) (aL : ByteArray) (aV : Int) (aM aQ : List (List D)) (aT : Int) (aN : ByteArray) (aW : Int) (aO aR : List (List D)) (a1 a2 : Int) (a3 : Bool) (K : Bool → Option β) : Option β :=
  Yaq.f k aC (fun y2 => bif y2 then (YV.f k aB (fun y9 => bif y9 then (YY.f k aD 1 a1 (fun y10 => bif y10 then (YY.f k aA 1 a2 (fun y11 => bif y11 then (YY.f k aI 1 aA (fun y12 => bif y12 then (YN.f k aP 4 (fun y19 => bif y19 then (bif a3 then (Y7.f k aU aL aV aM aQ (fun y43 => bif y43 then (Y7.f k aT aN aW aO aR (fun y44 => K y44)) else (K false))) else (bif (!aX) then (Y7.f k aU aL aV aM aQ (fun y45 => bif y45 then (Y7.f k aT aN aW aO aR (fun y46 => K y46)) else (K false))) else (bif (decide (((aP.length : Int) : Int) > 0)) then (Y7.f k aU aL aV aM aQ (fun y47 => bif y47 then (Y7.f k aT aN aW aO aR (fun y48 => K y48)) else (K false))) else (K false)))) else (K false))) else (K false))) else (K false))) else (K false))) else (K false))) else (K false))
noncomputable def Yan.t (k : Nat) (aC : Int) (aB : ByteArray) (aD aA aI : Int) (aX : Bool) (aP : List (List D)) (aU : Int) (aL : ByteArray) (aV : Int) (aM aQ : List (List D)) (aT : Int) (aN : ByteArray) (aW : Int) (aO aR : List (List D)) (a1 a2 : Int) (a3 : Bool) : Option (Bool) := Yan.g k aC aB aD aA aI aX aP aU aL aV aM aQ aT aN aW aO aR a1 a2 a3 (fun z0 => some z0)
noncomputable def Yan.f {β : Type} (k : Nat) (aC : Int) (aB : ByteArray) (aD aA aI : Int) (aX : Bool) (aP : List (List D)) (aU : Int) (aL : ByteArray) (aV : Int) (aM aQ : List (List D)) (aT : Int) (aN : ByteArray) (aW : Int) (aO aR : List (List D)) (a1 a2 : Int) (a3 : Bool) (K : Bool → Option β) : Option β := bd1 (Yan.t k aC aB aD aA aI aX aP aU aL aV aM aQ aT aN aW aO aR a1 a2 a3) K
noncomputable def Yan.e (k : Nat) : Zk := ent [.agg [.n, .s, .n, .n, .n, .b, .l, .n, .s, .n, .l, .l, .n, .s, .n, .l, .l], .d .n, .d .n, .d .b] [1] [.b] [4] false (Yan.t k)
noncomputable def Yan.p (k : Nat) : Pro := ⟨Try.prog, [(188, Yaq.e k), (126, YV.e k), (61, YY.e k), (189, YN.e k), (190, Y7.e k)], Zn [] false [], k⟩
theorem Yan.ok (k : Nat) : Za Try.prog 138 (Yan.e k) := Zh (Yan.p k) mix tyok Try.func138 ⟨Yaq.ok k, YV.ok k, YY.ok k, YN.ok k, Y7.ok k⟩ (by kernel_rfl) (fun aC aB aD aA aI aX aP aU aL aV aM aQ aT aN aW aO aR a1 a2 a3 => by show _ = _; kernel_rfl)
noncomputable def Yad.g {β : Type} (k : Nat) (a0 : Int) (K : Bool → Option β) : Option β :=
  K ((a0 : Int) != a0)
noncomputable def Yad.t (k : Nat) (a0 : Int) : Option (Bool) := Yad.g k a0 (fun z0 => some z0)
noncomputable def Yad.f {β : Type} (k : Nat) (a0 : Int) (K : Bool → Option β) : Option β := bd1 (Yad.t k a0) K
noncomputable def Yad.e (k : Nat) : Zk := ent [.d .n] [1] [.b] [4] false (Yad.t k)
noncomputable def Yad.p (k : Nat) : Pro := ⟨Try.prog, [], Zn [] false [], k⟩
theorem Yad.ok (k : Nat) : Za Try.prog 156 (Yad.e k) := Zh (Yad.p k) mix tyok Try.func156 trivial (by kernel_rfl) (fun a0 => by show _ = _; kernel_rfl)
noncomputable def Y6.g {β : Type} (k : Nat) (a0 a1 : Int) (K : Int → Option β) : Option β :=
  Yad.f k a0 (fun y1 => Yad.f k a1 (fun y2 => bif y1 then (bif y2 then (K 0) else (K (-1))) else (bif y2 then (K 1) else (bif (decide ((a0 : Int) < a1)) then (K (-1)) else (bif (decide ((a0 : Int) > a1)) then (K 1) else (K 0))))))
noncomputable def Y6.t (k : Nat) (a0 a1 : Int) : Option (Int) := Y6.g k a0 a1 (fun z0 => some z0)
noncomputable def Y6.f {β : Type} (k : Nat) (a0 a1 : Int) (K : Int → Option β) : Option β := bd1 (Y6.t k a0 a1) K
noncomputable def Y6.e (k : Nat) : Zk := ent [.d .n, .d .n] [1] [.n] [3] false (Y6.t k)
noncomputable def Y6.p (k : Nat) : Pro := ⟨Try.prog, [(156, Yad.e k)], Zn [] false [], k⟩
theorem Y6.ok (k : Nat) : Za Try.prog 91 (Y6.e k) := Zh (Y6.p k) mix tyok Try.func91 (Yad.ok k) (by kernel_rfl) (fun a0 a1 => by show _ = _; kernel_rfl)
noncomputable def Y2.t (k : Nat) (a0 a1 : ByteArray) : Option Int := some (cmpS a0 a1)
noncomputable def Y2.f {β : Type} (k : Nat) (a0 a1 : ByteArray) (K : Int → Option β) : Option β :=
  match Y2.t k a0 a1 with
  | some z0 => K z0
  | none => none
noncomputable def Y2.run (k : Nat) : {β : Type} → List A → (List (List C) → List Out → Option β) → Option β := fun {β} l K =>
  match l with
  | [.d (.str a0), .d (.str a1)] => Y2.f k a0 a1 (fun z0 => K [[.d (.int .i64 z0)]] [])
  | _ => none
noncomputable def Y2.e (k : Nat) : Zk := { modes := [(.imm, 0), (.imm, 0)], rts := [3], al := false, run := Y2.run k }
set_option maxHeartbeats 1000000 in
set_option maxRecDepth 100000 in
theorem Y2.calls (a b : ByteArray) (w : World) : Calls Try.prog 216 #[.string a, .string b] w fun e w' => e = .returned (.int .i64 (cmpS a b)) ∧ w' = w := by
  go_enter Try.func216, Try.ntmps216
  go_wp2
  rw [run_callFunc_extern Try.func220 (by kernel_rfl) (by kernel_rfl) (by kernel_rfl) (e := Extern.BytealgCompare.compare) (by kernel_rfl), Go.Lib.run_compareString]
  simp only [Result.andThen]
  rw [Oper.upon_value]
  go_wp2
  go_ret
  exact ⟨rfl, rfl⟩
theorem Y2.ok (k : Nat) : Za Try.prog 216 (Y2.e k) := strs_ok (t := 3) (g := cmpS) (run := fun {β} => Y2.run k) (enter_of Try.func216 (by kernel_rfl)) (by kernel_rfl) (by kernel_rfl) Y2.calls (fun β aa K r h => by
  unfold Y2.run at h
  split at h
  · exact ⟨_, _, rfl, h⟩
  · cases h)
noncomputable def Y5.g {β : Type} (k : Nat) (a0 a1 : ByteArray) (K : Int → Option β) : Option β :=
  Y2.f k a0 a1 (fun y1 => K y1)
noncomputable def Y5.t (k : Nat) (a0 a1 : ByteArray) : Option (Int) := Y5.g k a0 a1 (fun z0 => some z0)
noncomputable def Y5.f {β : Type} (k : Nat) (a0 a1 : ByteArray) (K : Int → Option β) : Option β := bd1 (Y5.t k a0 a1) K
noncomputable def Y5.e (k : Nat) : Zk := ent [.d .s, .d .s] [1] [.n] [3] false (Y5.t k)
noncomputable def Y5.p (k : Nat) : Pro := ⟨Try.prog, [(216, Y2.e k)], Zn [] false [], k⟩
theorem Y5.ok (k : Nat) : Za Try.prog 207 (Y5.e k) := Zh (Y5.p k) mix tyok Try.func207 (Y2.ok k) (by kernel_rfl) (fun a0 a1 => by show _ = _; kernel_rfl)
noncomputable def Yak.g {β : Type} (k : Nat) (aC : Int) (aB : ByteArray) (aD aA aI : Int) (aX : Bool) (aP : List (List D)) (aU : Int) (aL : ByteArray) (aV : Int) (aM aQ : List (List D)) (aT : Int) (aN : ByteArray) (aW : Int) (aO aR : List (List D)) (bC : Int) (bD : ByteArray) (bE bF bG : Int) (bM : Bool) (bN : List (List D)) (bO : Int) (bP : ByteArray) (bQ : Int) (bR bT : List (List D)) (bU : Int) (bV : ByteArray) (bW : Int) (bX bY : List (List D)) (K : Int → Option β) : Option β :=
  Y6.f k aC bC (fun y3 => bif ((y3 : Int) != 0) then (K y3) else (Y5.f k aB bD (fun y4 => K y4)))
noncomputable def Yak.t (k : Nat) (aC : Int) (aB : ByteArray) (aD aA aI : Int) (aX : Bool) (aP : List (List D)) (aU : Int) (aL : ByteArray) (aV : Int) (aM aQ : List (List D)) (aT : Int) (aN : ByteArray) (aW : Int) (aO aR : List (List D)) (bC : Int) (bD : ByteArray) (bE bF bG : Int) (bM : Bool) (bN : List (List D)) (bO : Int) (bP : ByteArray) (bQ : Int) (bR bT : List (List D)) (bU : Int) (bV : ByteArray) (bW : Int) (bX bY : List (List D)) : Option (Int) := Yak.g k aC aB aD aA aI aX aP aU aL aV aM aQ aT aN aW aO aR bC bD bE bF bG bM bN bO bP bQ bR bT bU bV bW bX bY (fun z0 => some z0)
noncomputable def Yak.f {β : Type} (k : Nat) (aC : Int) (aB : ByteArray) (aD aA aI : Int) (aX : Bool) (aP : List (List D)) (aU : Int) (aL : ByteArray) (aV : Int) (aM aQ : List (List D)) (aT : Int) (aN : ByteArray) (aW : Int) (aO aR : List (List D)) (bC : Int) (bD : ByteArray) (bE bF bG : Int) (bM : Bool) (bN : List (List D)) (bO : Int) (bP : ByteArray) (bQ : Int) (bR bT : List (List D)) (bU : Int) (bV : ByteArray) (bW : Int) (bX bY : List (List D)) (K : Int → Option β) : Option β := bd1 (Yak.t k aC aB aD aA aI aX aP aU aL aV aM aQ aT aN aW aO aR bC bD bE bF bG bM bN bO bP bQ bR bT bU bV bW bX bY) K
noncomputable def Yak.e (k : Nat) : Zk := ent [.agg [.n, .s, .n, .n, .n, .b, .l, .n, .s, .n, .l, .l, .n, .s, .n, .l, .l], .agg [.n, .s, .n, .n, .n, .b, .l, .n, .s, .n, .l, .l, .n, .s, .n, .l, .l]] [1] [.n] [3] false (Yak.t k)
noncomputable def Yak.p (k : Nat) : Pro := ⟨Try.prog, [(91, Y6.e k), (207, Y5.e k)], Zn [] false [], k⟩
theorem Yak.ok (k : Nat) : Za Try.prog 185 (Yak.e k) := Zh (Yak.p k) mix tyok Try.func185 ⟨Y6.ok k, Y5.ok k⟩ (by kernel_rfl) (fun aC aB aD aA aI aX aP aU aL aV aM aQ aT aN aW aO aR bC bD bE bF bG bM bN bO bP bQ bR bT bU bV bW bX bY => by show _ = _; kernel_rfl)
noncomputable def Yae.g {β : Type} (k : Nat) (aC : Int) (aB : ByteArray) (aD aA aI : Int) (aX : Bool) (aP : List (List D)) (aU : Int) (aL : ByteArray) (aV : Int) (aM aQ : List (List D)) (aT : Int) (aN : ByteArray) (aW : Int) (aO aR : List (List D)) (f0_0 : Int) (f0_1 : ByteArray) (f0_2 f0_3 f0_4 : Int) (f0_5 : Bool) (f0_6 : List (List D)) (f0_7 : Int) (f0_8 : ByteArray) (f0_9 : Int) (f0_10 f0_11 : List (List D)) (f0_12 : Int) (f0_13 : ByteArray) (f0_14 : Int) (f0_15 f0_16 : List (List D)) (K : Bool → Option β) : Option β :=
  K ((aD : Int) == f0_2)
noncomputable def Yae.t (k : Nat) (aC : Int) (aB : ByteArray) (aD aA aI : Int) (aX : Bool) (aP : List (List D)) (aU : Int) (aL : ByteArray) (aV : Int) (aM aQ : List (List D)) (aT : Int) (aN : ByteArray) (aW : Int) (aO aR : List (List D)) (f0_0 : Int) (f0_1 : ByteArray) (f0_2 f0_3 f0_4 : Int) (f0_5 : Bool) (f0_6 : List (List D)) (f0_7 : Int) (f0_8 : ByteArray) (f0_9 : Int) (f0_10 f0_11 : List (List D)) (f0_12 : Int) (f0_13 : ByteArray) (f0_14 : Int) (f0_15 f0_16 : List (List D)) : Option (Bool) := Yae.g k aC aB aD aA aI aX aP aU aL aV aM aQ aT aN aW aO aR f0_0 f0_1 f0_2 f0_3 f0_4 f0_5 f0_6 f0_7 f0_8 f0_9 f0_10 f0_11 f0_12 f0_13 f0_14 f0_15 f0_16 (fun z0 => some z0)
noncomputable def Yae.f {β : Type} (k : Nat) (aC : Int) (aB : ByteArray) (aD aA aI : Int) (aX : Bool) (aP : List (List D)) (aU : Int) (aL : ByteArray) (aV : Int) (aM aQ : List (List D)) (aT : Int) (aN : ByteArray) (aW : Int) (aO aR : List (List D)) (f0_0 : Int) (f0_1 : ByteArray) (f0_2 f0_3 f0_4 : Int) (f0_5 : Bool) (f0_6 : List (List D)) (f0_7 : Int) (f0_8 : ByteArray) (f0_9 : Int) (f0_10 f0_11 : List (List D)) (f0_12 : Int) (f0_13 : ByteArray) (f0_14 : Int) (f0_15 f0_16 : List (List D)) (K : Bool → Option β) : Option β := bd1 (Yae.t k aC aB aD aA aI aX aP aU aL aV aM aQ aT aN aW aO aR f0_0 f0_1 f0_2 f0_3 f0_4 f0_5 f0_6 f0_7 f0_8 f0_9 f0_10 f0_11 f0_12 f0_13 f0_14 f0_15 f0_16) K
noncomputable def Yae.e (k : Nat) : Zk := ent [.agg [.n, .s, .n, .n, .n, .b, .l, .n, .s, .n, .l, .l, .n, .s, .n, .l, .l], .ip [.n, .s, .n, .n, .n, .b, .l, .n, .s, .n, .l, .l, .n, .s, .n, .l, .l]] [1] [.b] [4] false (Yae.t k)
noncomputable def Yae.p (k : Nat) : Pro := ⟨Try.prog, [], Zn [] false [], k⟩
theorem Yae.ok (k : Nat) : Za Try.prog 187 (Yae.e k) := Zh (Yae.p k) mix tyok Try.func187 trivial (by kernel_rfl) (fun aC aB aD aA aI aX aP aU aL aV aM aQ aT aN aW aO aR f0_0 f0_1 f0_2 f0_3 f0_4 f0_5 f0_6 f0_7 f0_8 f0_9 f0_10 f0_11 f0_12 f0_13 f0_14 f0_15 f0_16 => by show _ = _; kernel_rfl)
noncomputable def Yc.l0 {β : Type} (k : Nat) (aH : List (List D)) (aF : Int) (aJ : ByteArray) (aK aY aZ : Int) (bA : Bool) (bB : List (List D)) (bK : Int) (bJ : ByteArray) (bZ : Int) (bL v0_12 : List (List D)) (v0_13 : Int) (v0_14 : ByteArray) (v0_15 : Int) (v0_16 v0_17 : List (List D)) (v0_18 : Int) (K L0 : Int → Option β) (v : Int) : Option β :=
  match v with
  | v0_19 => bif (decide ((v0_19 : Int) < v0_18)) then (atR aH v0_19 [.n, .s, .n, .n, .n, .b, .l, .n, .s, .n, .l, .l, .n, .s, .n, .l, .l] fun x57 x60 x63 x66 x69 x72 x75 x78 x81 x84 x87 x90 x93 x96 x99 x102 x105 => (Yae.f k x57 x60 x63 x66 x69 x72 x75 x78 x81 x84 x87 x90 x93 x96 x99 x102 x105 aF aJ aK aY aZ bA bB bK bJ bZ bL v0_12 v0_13 v0_14 v0_15 v0_16 v0_17 (fun y106 => bif y106 then (K v0_19) else (L0 (IntKind.wrap .i64 (v0_19 + 1)))))) else (K (-1))
noncomputable def Yc.m {β : Type} (k : Nat) (a0 : List (List D)) (a1_0_0 : Int) (a1_0_1 : ByteArray) (a1_0_2 a1_0_3 a1_0_4 : Int) (a1_0_5 : Bool) (a1_0_6 : List (List D)) (a1_0_7 : Int) (a1_0_8 : ByteArray) (a1_0_9 : Int) (a1_0_10 a1_0_11 : List (List D)) (a1_0_12 : Int) (a1_0_13 : ByteArray) (a1_0_14 : Int) (a1_0_15 a1_0_16 : List (List D)) (K : Int → Option β) (F : ((List (List D)) → Int → ByteArray → Int → Int → Int → Bool → (List (List D)) → Int → ByteArray → Int → (List (List D)) → (List (List D)) → Int → ByteArray → Int → (List (List D)) → (List (List D)) → Int → Int → Option β)) : Option β :=
  F a0 a1_0_0 a1_0_1 a1_0_2 a1_0_3 a1_0_4 a1_0_5 a1_0_6 a1_0_7 a1_0_8 a1_0_9 a1_0_10 a1_0_11 a1_0_12 a1_0_13 a1_0_14 a1_0_15 a1_0_16 (a0.length : Int) (0)
noncomputable def Yc.g {β : Type} (k : Nat) (a0 : List (List D)) (a1_0_0 : Int) (a1_0_1 : ByteArray) (a1_0_2 a1_0_3 a1_0_4 : Int) (a1_0_5 : Bool) (a1_0_6 : List (List D)) (a1_0_7 : Int) (a1_0_8 : ByteArray) (a1_0_9 : Int) (a1_0_10 a1_0_11 : List (List D)) (a1_0_12 : Int) (a1_0_13 : ByteArray) (a1_0_14 : Int) (a1_0_15 a1_0_16 : List (List D)) (K : Int → Option β) : Option β :=
  Zo (Yc.l0 k a0 a1_0_0 a1_0_1 a1_0_2 a1_0_3 a1_0_4 a1_0_5 a1_0_6 a1_0_7 a1_0_8 a1_0_9 a1_0_10 a1_0_11 a1_0_12 a1_0_13 a1_0_14 a1_0_15 a1_0_16 (a0.length : Int) K) k (0)
noncomputable def Yc.t (k : Nat) (a0 : List (List D)) (a1_0_0 : Int) (a1_0_1 : ByteArray) (a1_0_2 a1_0_3 a1_0_4 : Int) (a1_0_5 : Bool) (a1_0_6 : List (List D)) (a1_0_7 : Int) (a1_0_8 : ByteArray) (a1_0_9 : Int) (a1_0_10 a1_0_11 : List (List D)) (a1_0_12 : Int) (a1_0_13 : ByteArray) (a1_0_14 : Int) (a1_0_15 a1_0_16 : List (List D)) : Option (Int) := Yc.g k a0 a1_0_0 a1_0_1 a1_0_2 a1_0_3 a1_0_4 a1_0_5 a1_0_6 a1_0_7 a1_0_8 a1_0_9 a1_0_10 a1_0_11 a1_0_12 a1_0_13 a1_0_14 a1_0_15 a1_0_16 (fun z0 => some z0)
noncomputable def Yc.f {β : Type} (k : Nat) (a0 : List (List D)) (a1_0_0 : Int) (a1_0_1 : ByteArray) (a1_0_2 a1_0_3 a1_0_4 : Int) (a1_0_5 : Bool) (a1_0_6 : List (List D)) (a1_0_7 : Int) (a1_0_8 : ByteArray) (a1_0_9 : Int) (a1_0_10 a1_0_11 : List (List D)) (a1_0_12 : Int) (a1_0_13 : ByteArray) (a1_0_14 : Int) (a1_0_15 a1_0_16 : List (List D)) (K : Int → Option β) : Option β := bd1 (Yc.t k a0 a1_0_0 a1_0_1 a1_0_2 a1_0_3 a1_0_4 a1_0_5 a1_0_6 a1_0_7 a1_0_8 a1_0_9 a1_0_10 a1_0_11 a1_0_12 a1_0_13 a1_0_14 a1_0_15 a1_0_16) K
noncomputable def Yc.e (k : Nat) : Zk := ent [.d .l, .fn 187 [[.n, .s, .n, .n, .n, .b, .l, .n, .s, .n, .l, .l, .n, .s, .n, .l, .l]]] [1] [.n] [3] false (Yc.t k)
noncomputable def Yc.p (k : Nat) : Pro := ⟨Try.prog, [(187, Yae.e k)], Zn [(2, kp [0, 1, 7, 8])] false [], k⟩
noncomputable def Yc.d (k : Nat) (a0 : List (List D)) (a1_0_0 : Int) (a1_0_1 : ByteArray) (a1_0_2 a1_0_3 a1_0_4 : Int) (a1_0_5 : Bool) (a1_0_6 : List (List D)) (a1_0_7 : Int) (a1_0_8 : ByteArray) (a1_0_9 : Int) (a1_0_10 a1_0_11 : List (List D)) (a1_0_12 : Int) (a1_0_13 : ByteArray) (a1_0_14 : Int) (a1_0_15 a1_0_16 : List (List D)) : Ex → St → Option (Int) := (Yc.p k).fin Try.f199 [.d (.sl a0), .d (.fn 187 [[.int .i64 a1_0_0, .str a1_0_1, .int .i64 a1_0_2, .int .i64 a1_0_3, .int .i64 a1_0_4, .bool a1_0_5, .sl a1_0_6, .int .i64 a1_0_7, .str a1_0_8, .int .i64 a1_0_9, .sl a1_0_10, .sl a1_0_11, .int .i64 a1_0_12, .str a1_0_13, .int .i64 a1_0_14, .sl a1_0_15, .sl a1_0_16]])] [1] [.n]
noncomputable def Yc.s0 (aH : List (List D)) (aF : Int) (aJ : ByteArray) (aK aY aZ : Int) (bA : Bool) (bB : List (List D)) (bK : Int) (bJ : ByteArray) (bZ : Int) (bL v0_12 : List (List D)) (v0_13 : Int) (v0_14 : ByteArray) (v0_15 : Int) (v0_16 v0_17 : List (List D)) (v0_18 v : Int) : St :=
  match v with
  | v0_19 => ZX 19 [(0, .d false (.sl aH)), (1, .d false (.fn 187 [[.int .i64 aF, .str aJ, .int .i64 aK, .int .i64 aY, .int .i64 aZ, .bool bA, .sl bB, .int .i64 bK, .str bJ, .int .i64 bZ, .sl bL, .sl v0_12, .int .i64 v0_13, .str v0_14, .int .i64 v0_15, .sl v0_16, .sl v0_17]])), (7, .d true (.int .i64 v0_18)), (8, .d true (.int .i64 v0_19))] []
noncomputable def Yc.r0 (k : Nat) (a0 : List (List D)) (a1_0_0 : Int) (a1_0_1 : ByteArray) (a1_0_2 a1_0_3 a1_0_4 : Int) (a1_0_5 : Bool) (a1_0_6 : List (List D)) (a1_0_7 : Int) (a1_0_8 : ByteArray) (a1_0_9 : Int) (a1_0_10 a1_0_11 : List (List D)) (a1_0_12 : Int) (a1_0_13 : ByteArray) (a1_0_14 : Int) (a1_0_15 a1_0_16 aH : List (List D)) (aF : Int) (aJ : ByteArray) (aK aY aZ : Int) (bA : Bool) (bB : List (List D)) (bK : Int) (bJ : ByteArray) (bZ : Int) (bL v0_12 : List (List D)) (v0_13 : Int) (v0_14 : ByteArray) (v0_15 : Int) (v0_16 v0_17 : List (List D)) (v0_18 : Int) (n : Nat) (v : Int) : Option (Int) := (Yc.p k).lp (Zt Try.f199) 2 [1, 0, 1, 0] (Yc.d k a0 a1_0_0 a1_0_1 a1_0_2 a1_0_3 a1_0_4 a1_0_5 a1_0_6 a1_0_7 a1_0_8 a1_0_9 a1_0_10 a1_0_11 a1_0_12 a1_0_13 a1_0_14 a1_0_15 a1_0_16) n (Yc.s0 aH aF aJ aK aY aZ bA bB bK bJ bZ bL v0_12 v0_13 v0_14 v0_15 v0_16 v0_17 v0_18 v)
theorem Yc.l0_eq (k : Nat) (a0 : List (List D)) (a1_0_0 : Int) (a1_0_1 : ByteArray) (a1_0_2 a1_0_3 a1_0_4 : Int) (a1_0_5 : Bool) (a1_0_6 : List (List D)) (a1_0_7 : Int) (a1_0_8 : ByteArray) (a1_0_9 : Int) (a1_0_10 a1_0_11 : List (List D)) (a1_0_12 : Int) (a1_0_13 : ByteArray) (a1_0_14 : Int) (a1_0_15 a1_0_16 aH : List (List D)) (aF : Int) (aJ : ByteArray) (aK aY aZ : Int) (bA : Bool) (bB : List (List D)) (bK : Int) (bJ : ByteArray) (bZ : Int) (bL v0_12 : List (List D)) (v0_13 : Int) (v0_14 : ByteArray) (v0_15 : Int) (v0_16 v0_17 : List (List D)) (v0_18 : Int) : ∀ n v, Yc.r0 k a0 a1_0_0 a1_0_1 a1_0_2 a1_0_3 a1_0_4 a1_0_5 a1_0_6 a1_0_7 a1_0_8 a1_0_9 a1_0_10 a1_0_11 a1_0_12 a1_0_13 a1_0_14 a1_0_15 a1_0_16 aH aF aJ aK aY aZ bA bB bK bJ bZ bL v0_12 v0_13 v0_14 v0_15 v0_16 v0_17 v0_18 n v = Zo (Yc.l0 k aH aF aJ aK aY aZ bA bB bK bJ bZ bL v0_12 v0_13 v0_14 v0_15 v0_16 v0_17 v0_18 (fun z0 => some z0)) n v :=
  Zm (Yc.s0 aH aF aJ aK aY aZ bA bB bK bJ bZ bL v0_12 v0_13 v0_14 v0_15 v0_16 v0_17 v0_18) _ fun L0 v => by kernel_rfl
theorem Yc.ok (k : Nat) : Za Try.prog 199 (Yc.e k) := Zh (Yc.p k) mix tyok Try.func199 (Yae.ok k) (by kernel_rfl) (fun a0 a1_0_0 a1_0_1 a1_0_2 a1_0_3 a1_0_4 a1_0_5 a1_0_6 a1_0_7 a1_0_8 a1_0_9 a1_0_10 a1_0_11 a1_0_12 a1_0_13 a1_0_14 a1_0_15 a1_0_16 => Eq.trans (b := Yc.m k a0 a1_0_0 a1_0_1 a1_0_2 a1_0_3 a1_0_4 a1_0_5 a1_0_6 a1_0_7 a1_0_8 a1_0_9 a1_0_10 a1_0_11 a1_0_12 a1_0_13 a1_0_14 a1_0_15 a1_0_16 (fun z0 => some z0) (fun aH aF aJ aK aY aZ bA bB bK bJ bZ bL v0_12 v0_13 v0_14 v0_15 v0_16 v0_17 v0_18 => Yc.r0 k a0 a1_0_0 a1_0_1 a1_0_2 a1_0_3 a1_0_4 a1_0_5 a1_0_6 a1_0_7 a1_0_8 a1_0_9 a1_0_10 a1_0_11 a1_0_12 a1_0_13 a1_0_14 a1_0_15 a1_0_16 aH aF aJ aK aY aZ bA bB bK bJ bZ bL v0_12 v0_13 v0_14 v0_15 v0_16 v0_17 v0_18 k)) (by kernel_rfl) (congrArg (Yc.m k a0 a1_0_0 a1_0_1 a1_0_2 a1_0_3 a1_0_4 a1_0_5 a1_0_6 a1_0_7 a1_0_8 a1_0_9 a1_0_10 a1_0_11 a1_0_12 a1_0_13 a1_0_14 a1_0_15 a1_0_16 (fun z0 => some z0)) (funext fun aH => funext fun aF => funext fun aJ => funext fun aK => funext fun aY => funext fun aZ => funext fun bA => funext fun bB => funext fun bK => funext fun bJ => funext fun bZ => funext fun bL => funext fun v0_12 => funext fun v0_13 => funext fun v0_14 => funext fun v0_15 => funext fun v0_16 => funext fun v0_17 => funext fun v0_18 => funext fun v => Yc.l0_eq k a0 a1_0_0 a1_0_1 a1_0_2 a1_0_3 a1_0_4 a1_0_5 a1_0_6 a1_0_7 a1_0_8 a1_0_9 a1_0_10 a1_0_11 a1_0_12 a1_0_13 a1_0_14 a1_0_15 a1_0_16 aH aF aJ aK aY aZ bA bB bK bJ bZ bL v0_12 v0_13 v0_14 v0_15 v0_16 v0_17 v0_18 k v)))
noncomputable def Yi.g {β : Type} (k : Nat) (a0 : List (List D)) (a1_0_0 : Int) (a1_0_1 : ByteArray) (a1_0_2 a1_0_3 a1_0_4 : Int) (a1_0_5 : Bool) (a1_0_6 : List (List D)) (a1_0_7 : Int) (a1_0_8 : ByteArray) (a1_0_9 : Int) (a1_0_10 a1_0_11 : List (List D)) (a1_0_12 : Int) (a1_0_13 : ByteArray) (a1_0_14 : Int) (a1_0_15 a1_0_16 : List (List D)) (K : Bool → Option β) : Option β :=
  Yc.f k a0 a1_0_0 a1_0_1 a1_0_2 a1_0_3 a1_0_4 a1_0_5 a1_0_6 a1_0_7 a1_0_8 a1_0_9 a1_0_10 a1_0_11 a1_0_12 a1_0_13 a1_0_14 a1_0_15 a1_0_16 (fun y107 => K (decide ((y107 : Int) ≥ 0)))
noncomputable def Yi.t (k : Nat) (a0 : List (List D)) (a1_0_0 : Int) (a1_0_1 : ByteArray) (a1_0_2 a1_0_3 a1_0_4 : Int) (a1_0_5 : Bool) (a1_0_6 : List (List D)) (a1_0_7 : Int) (a1_0_8 : ByteArray) (a1_0_9 : Int) (a1_0_10 a1_0_11 : List (List D)) (a1_0_12 : Int) (a1_0_13 : ByteArray) (a1_0_14 : Int) (a1_0_15 a1_0_16 : List (List D)) : Option (Bool) := Yi.g k a0 a1_0_0 a1_0_1 a1_0_2 a1_0_3 a1_0_4 a1_0_5 a1_0_6 a1_0_7 a1_0_8 a1_0_9 a1_0_10 a1_0_11 a1_0_12 a1_0_13 a1_0_14 a1_0_15 a1_0_16 (fun z0 => some z0)
noncomputable def Yi.f {β : Type} (k : Nat) (a0 : List (List D)) (a1_0_0 : Int) (a1_0_1 : ByteArray) (a1_0_2 a1_0_3 a1_0_4 : Int) (a1_0_5 : Bool) (a1_0_6 : List (List D)) (a1_0_7 : Int) (a1_0_8 : ByteArray) (a1_0_9 : Int) (a1_0_10 a1_0_11 : List (List D)) (a1_0_12 : Int) (a1_0_13 : ByteArray) (a1_0_14 : Int) (a1_0_15 a1_0_16 : List (List D)) (K : Bool → Option β) : Option β := bd1 (Yi.t k a0 a1_0_0 a1_0_1 a1_0_2 a1_0_3 a1_0_4 a1_0_5 a1_0_6 a1_0_7 a1_0_8 a1_0_9 a1_0_10 a1_0_11 a1_0_12 a1_0_13 a1_0_14 a1_0_15 a1_0_16) K
noncomputable def Yi.e (k : Nat) : Zk := ent [.d .l, .fn 187 [[.n, .s, .n, .n, .n, .b, .l, .n, .s, .n, .l, .l, .n, .s, .n, .l, .l]]] [1] [.b] [4] false (Yi.t k)
noncomputable def Yi.p (k : Nat) : Pro := ⟨Try.prog, [(199, Yc.e k)], Zn [] false [], k⟩
theorem Yi.ok (k : Nat) : Za Try.prog 186 (Yi.e k) := Zh (Yi.p k) mix tyok Try.func186 (Yc.ok k) (by kernel_rfl) (fun a0 a1_0_0 a1_0_1 a1_0_2 a1_0_3 a1_0_4 a1_0_5 a1_0_6 a1_0_7 a1_0_8 a1_0_9 a1_0_10 a1_0_11 a1_0_12 a1_0_13 a1_0_14 a1_0_15 a1_0_16 => by show _ = _; kernel_rfl)
noncomputable def YZ.l0 {β : Type} (k : Nat) (aH : List (List D)) (aF aJ : Int) (aK : List (List D)) (aY : Int) (K : Bool → Option β) (L0 : Int → Option β) (v : Int) : Option β :=
  match v with
  | aZ => bif (decide ((aZ : Int) < aY)) then (atR aK aZ [.n, .s, .n, .n, .n, .b, .l, .n, .s, .n, .l, .l, .n, .s, .n, .l, .l] fun x113 x116 x119 x122 x125 x128 x131 x134 x137 x140 x143 x146 x149 x152 x155 x158 x161 => (Yan.f k x113 x116 x119 x122 x125 x128 x131 x134 x137 x140 x143 x146 x149 x152 x155 x158 x161 aF aJ false (fun y162 => bif (!y162) then (K false) else (let J0 := (0 ≤ (0 : Int) ∧ (0 : Int) ≤ (aZ : Int) ∧ (aZ : Int) ≤ (aH.length : Int) ∧ rowsOk 17 aH); let J1 := ((aH.drop (Int.toNat (0 : Int))).take (Int.toNat (aZ : Int) - Int.toNat (0 : Int))); bif (decide ((aZ : Int) > 0)) then (atR aH (IntKind.wrap .i64 (aZ - 1)) [.n, .s, .n, .n, .n, .b, .l, .n, .s, .n, .l, .l, .n, .s, .n, .l, .l] fun x166 x169 x172 x175 x178 x181 x184 x187 x190 x193 x196 x199 x202 x205 x208 x211 x214 => (Yak.f k x166 x169 x172 x175 x178 x181 x184 x187 x190 x193 x196 x199 x202 x205 x208 x211 x214 x113 x116 x119 x122 x125 x128 x131 x134 x137 x140 x143 x146 x149 x152 x155 x158 x161 (fun y215 => bif (decide ((y215 : Int) ≥ 0)) then (K false) else (Zc J0 (Yi.f k J1 x113 x116 x119 x122 x125 x128 x131 x134 x137 x140 x143 x146 x149 x152 x155 x158 x161 (fun y216 => bif y216 then (K false) else (L0 (IntKind.wrap .i64 (aZ + 1))))))))) else (Zc J0 (Yi.f k J1 x113 x116 x119 x122 x125 x128 x131 x134 x137 x140 x143 x146 x149 x152 x155 x158 x161 (fun y217 => bif y217 then (K false) else (L0 (IntKind.wrap .i64 (aZ + 1)))))))))) else (K (decide (((aH.length : Int) : Int) ≤ 60)))
noncomputable def YZ.m {β : Type} (k : Nat) (a0 : List (List D)) (a1 a2 : Int) (K : Bool → Option β) (F : ((List (List D)) → Int → Int → (List (List D)) → Int → Int → Option β)) : Option β :=
  F a0 a1 a2 a0 (a0.length : Int) (0)
noncomputable def YZ.g {β : Type} (k : Nat) (a0 : List (List D)) (a1 a2 : Int) (K : Bool → Option β) : Option β :=
  Zo (YZ.l0 k a0 a1 a2 a0 (a0.length : Int) K) k (0)
noncomputable def YZ.t (k : Nat) (a0 : List (List D)) (a1 a2 : Int) : Option (Bool) := YZ.g k a0 a1 a2 (fun z0 => some z0)
noncomputable def YZ.f {β : Type} (k : Nat) (a0 : List (List D)) (a1 a2 : Int) (K : Bool → Option β) : Option β := bd1 (YZ.t k a0 a1 a2) K
noncomputable def YZ.e (k : Nat) : Zk := ent [.d .l, .d .n, .d .n] [1] [.b] [4] false (YZ.t k)
noncomputable def YZ.p (k : Nat) : Pro := ⟨Try.prog, [(138, Yan.e k), (185, Yak.e k), (186, Yi.e k)], Zn [(2, kp [0, 1, 2, 9, 10, 11])] false [], k⟩
noncomputable def YZ.d (k : Nat) (a0 : List (List D)) (a1 a2 : Int) : Ex → St → Option (Bool) := (YZ.p k).fin Try.f137 [.d (.sl a0), .d (.int .i64 a1), .d (.int .i64 a2)] [1] [.b]
noncomputable def YZ.s0 (aH : List (List D)) (aF aJ : Int) (aK : List (List D)) (aY v : Int) : St :=
  match v with
  | aZ => ZX 44 [(0, .d false (.sl aH)), (1, .d false (.int .i64 aF)), (2, .d false (.int .i64 aJ)), (9, .d false (.sl aK)), (10, .d true (.int .i64 aY)), (11, .d true (.int .i64 aZ))] []
noncomputable def YZ.r0 (k : Nat) (a0 : List (List D)) (a1 a2 : Int) (aH : List (List D)) (aF aJ : Int) (aK : List (List D)) (aY : Int) (n : Nat) (v : Int) : Option (Bool) := (YZ.p k).lp (Zt Try.f137) 2 [1, 0, 1, 0] (YZ.d k a0 a1 a2) n (YZ.s0 aH aF aJ aK aY v)
theorem YZ.l0_eq (k : Nat) (a0 : List (List D)) (a1 a2 : Int) (aH : List (List D)) (aF aJ : Int) (aK : List (List D)) (aY : Int) : ∀ n v, YZ.r0 k a0 a1 a2 aH aF aJ aK aY n v = Zo (YZ.l0 k aH aF aJ aK aY (fun z0 => some z0)) n v :=
  Zm (YZ.s0 aH aF aJ aK aY) _ fun L0 v => by kernel_rfl
theorem YZ.ok (k : Nat) : Za Try.prog 137 (YZ.e k) := Zh (YZ.p k) mix tyok Try.func137 ⟨Yan.ok k, Yak.ok k, Yi.ok k⟩ (by kernel_rfl) (fun a0 a1 a2 => Eq.trans (b := YZ.m k a0 a1 a2 (fun z0 => some z0) (fun aH aF aJ aK aY => YZ.r0 k a0 a1 a2 aH aF aJ aK aY k)) (by kernel_rfl) (congrArg (YZ.m k a0 a1 a2 (fun z0 => some z0)) (funext fun aH => funext fun aF => funext fun aJ => funext fun aK => funext fun aY => funext fun v => YZ.l0_eq k a0 a1 a2 aH aF aJ aK aY k v)))
noncomputable def YP.l0 {β : Type} (k : Nat) (aH : List (List D)) (aF : Int) (aK : List (List D)) (aY aZ : Int) (bA : List (List D)) (K : Bool → Option β) (L0 : Int → Option β) (v : Int) : Option β :=
  match v with
  | aJ => bif (decide ((aJ : Int) < aF)) then (atR aH aJ [.n, .b, .n, .s, .n, .n, .n, .b, .l, .n, .s, .n, .l, .l, .n, .s, .n, .l, .l] fun x339 x342 x345 x348 x351 x354 x357 x360 x363 x366 x369 x372 x375 x378 x381 x384 x387 x390 x393 => (Yan.f k x345 x348 x351 x354 x357 x360 x363 x366 x369 x372 x375 x378 x381 x384 x387 x390 x393 (IntKind.wrap .i64 (aZ - 1)) aY x342 (fun y394 => bif (!y394) then (K false) else (bif ((x354 : Int) != x339) then (K false) else (bif (decide ((aJ : Int) > 0)) then (atR bA (IntKind.wrap .i64 (aJ - 1)) [.n, .b, .n, .s, .n, .n, .n, .b, .l, .n, .s, .n, .l, .l, .n, .s, .n, .l, .l] fun x398 x401 x404 x407 x410 x413 x416 x419 x422 x425 x428 x431 x434 x437 x440 x443 x446 x449 x452 => (bif (decide ((x398 : Int) ≥ x339)) then (K false) else (L0 (IntKind.wrap .i64 (aJ + 1))))) else (L0 (IntKind.wrap .i64 (aJ + 1)))))))) else (K true)
noncomputable def YP.m {β : Type} (k : Nat) (aC : List (List D)) (aB aD : Int) (aA : List (List D)) (K : Bool → Option β) (F : ((List (List D)) → Int → (List (List D)) → Int → Int → (List (List D)) → Int → Option β)) : Option β :=
  YY.f k aB 0 1000000 (fun y1 => bif (!y1) then (K false) else (YY.f k aD 1 1000000 (fun y2 => bif (!y2) then (K false) else (YZ.f k aC (IntKind.wrap .i64 (aD - 1)) aB (fun y218 => bif (!y218) then (K false) else (bif (decide (((aA.length : Int) : Int) > 40)) then (K false) else (F aA (aA.length : Int) aC aB aD aA (0))))))))
noncomputable def YP.g {β : Type} (k : Nat) (aC : List (List D)) (aB aD : Int) (aA : List (List D)) (K : Bool → Option β) : Option β := YP.m k aC aB aD aA K (fun aH aF aK aY aZ bA => Zo (YP.l0 k aH aF aK aY aZ bA K) k)
noncomputable def YP.t (k : Nat) (aC : List (List D)) (aB aD : Int) (aA : List (List D)) : Option (Bool) := YP.g k aC aB aD aA (fun z0 => some z0)
noncomputable def YP.f {β : Type} (k : Nat) (aC : List (List D)) (aB aD : Int) (aA : List (List D)) (K : Bool → Option β) : Option β := bd1 (YP.t k aC aB aD aA) K
noncomputable def YP.e (k : Nat) : Zk := ent [.agg [.l, .n, .n, .l]] [1] [.b] [4] false (YP.t k)
noncomputable def YP.p (k : Nat) : Pro := ⟨Try.prog, [(61, YY.e k), (137, YZ.e k), (138, Yan.e k)], Zn [(4, kp [1, 33, 34, 35])] false [], k⟩
noncomputable def YP.d (k : Nat) (aC : List (List D)) (aB aD : Int) (aA : List (List D)) : Ex → St → Option (Bool) := (YP.p k).fin Try.f60 [.agg [.sl aC, .int .i64 aB, .int .i64 aD, .sl aA]] [1] [.b]
noncomputable def YP.s0 (aH : List (List D)) (aF : Int) (aK : List (List D)) (aY aZ : Int) (bA : List (List D)) (v : Int) : St :=
  match v with
  | aJ => ZX 76 [(1, .bp 0 0), (33, .d false (.sl aH)), (34, .d true (.int .i64 aF)), (35, .d true (.int .i64 aJ))] [.box none 32 [.d false (.sl aK), .d false (.int .i64 aY), .d false (.int .i64 aZ), .d false (.sl bA)]]
noncomputable def YP.r0 (k : Nat) (aC : List (List D)) (aB aD : Int) (aA aH : List (List D)) (aF : Int) (aK : List (List D)) (aY aZ : Int) (bA : List (List D)) (n : Nat) (v : Int) : Option (Bool) := (YP.p k).lp (Zt Try.f60) 4 [1, 1, 0, 1, 0] (YP.d k aC aB aD aA) n (YP.s0 aH aF aK aY aZ bA v)
theorem YP.l0_eq (k : Nat) (aC : List (List D)) (aB aD : Int) (aA aH : List (List D)) (aF : Int) (aK : List (List D)) (aY aZ : Int) (bA : List (List D)) : ∀ n v, YP.r0 k aC aB aD aA aH aF aK aY aZ bA n v = Zo (YP.l0 k aH aF aK aY aZ bA (fun z0 => some z0)) n v :=
  Zm (YP.s0 aH aF aK aY aZ bA) _ fun L0 v => by kernel_rfl
theorem YP.ok (k : Nat) : Za Try.prog 60 (YP.e k) := Zh (YP.p k) mix tyok Try.func60 ⟨YY.ok k, YZ.ok k, Yan.ok k⟩ (by kernel_rfl) (fun aC aB aD aA => Eq.trans (b := YP.m k aC aB aD aA (fun z0 => some z0) (fun aH aF aK aY aZ bA => YP.r0 k aC aB aD aA aH aF aK aY aZ bA k)) (by kernel_rfl) (congrArg (YP.m k aC aB aD aA (fun z0 => some z0)) (funext fun aH => funext fun aF => funext fun aK => funext fun aY => funext fun aZ => funext fun bA => funext fun v => YP.l0_eq k aC aB aD aA aH aF aK aY aZ bA k v)))
noncomputable def YO.g {β : Type} (k : Nat) (a0 : List (List D)) (K : (List (List C)) → Option β) : Option β :=
  let J0 := (Zc (ZaZ 1 a0) (Zc (([] : List (List C)).length + (a0.map (·.map C.d)).length ≤ ZN) (K (([] : List (List C)) ++ (a0.map (·.map C.d)))))); nilSl a0 (both (K ([] : List (List C))) J0) J0
noncomputable def YO.t (k : Nat) (a0 : List (List D)) : Option ((List (List C))) := YO.g k a0 (fun z0 => some z0)
noncomputable def YO.f {β : Type} (k : Nat) (a0 : List (List D)) (K : (List (List C)) → Option β) : Option β := bd1 (YO.t k a0) K
noncomputable def YO.e (k : Nat) : Zk := ent [.d .l] [1] [.o] [74] false (YO.t k)
noncomputable def YO.p (k : Nat) : Pro := ⟨Try.prog, [], Zn [] false [], k⟩
theorem YO.ok (k : Nat) : Za Try.prog 172 (YO.e k) := Zh (YO.p k) mix tyok Try.func172 trivial (by kernel_rfl) (fun a0 => by show _ = _; kernel_rfl)
noncomputable def Yn.l0 {β : Type} (k : Nat) (r_impl_copyValue : Int → ByteArray → Int → (List (List D)) → (List (List D)) → (Int → ByteArray → Int → (List (List C)) → (List (List C)) → Option β) → Option β) (aH : List (List D)) (aF : Int) (aK : Int) (aY : ByteArray) (aZ : Int) (bA : List (List D)) (bB : Int) (bK : ByteArray) (bJ : Int) (bL : List (List C)) (K : Int → ByteArray → Int → (List (List C)) → (List (List C)) → Option β) (L0 : (Int × (List (List C))) → Option β) (v : Int × (List (List C))) : Option β :=
  match v with
  | (aJ, bZ) => bif (decide ((aJ : Int) < aF)) then (atR aH aJ [.n, .s, .n, .l, .l] fun x26 x29 x32 x35 x38 => (r_impl_copyValue x26 x29 x32 x35 x38 (fun y39 y40 y41 y42 y43 => Zc (bZ.length + ([[.d (.int .i64 y39), .d (.str y40), .d (.int .i64 y41), .own y42, .own y43]] : List (List C)).length ≤ ZN) (L0 (IntKind.wrap .i64 (aJ + 1), bZ ++ ([[.d (.int .i64 y39), .d (.str y40), .d (.int .i64 y41), .own y42, .own y43]] : List (List C))))))) else (K aK aY aZ bL bZ)
noncomputable def Yn.m {β : Type} (k : Nat) (r_impl_copyValue : Int → ByteArray → Int → (List (List D)) → (List (List D)) → (Int → ByteArray → Int → (List (List C)) → (List (List C)) → Option β) → Option β) (aC : Int) (aB : ByteArray) (aD : Int) (aA : List (List D)) (aI : List (List D)) (K : Int → ByteArray → Int → (List (List C)) → (List (List C)) → Option β) (F : ((List (List D)) → Int → Int → ByteArray → Int → (List (List D)) → Int → ByteArray → Int → (List (List C)) → (Int × (List (List C))) → Option β)) : Option β :=
  YO.f k aA (fun y1 => F aI (aI.length : Int) aC aB aD aI 0 (⟨#[]⟩ : ByteArray) 0 y1 (0, ([] : List (List C))))
noncomputable def Yn.body {β : Type} (k : Nat) (r_impl_copyValue : Int → ByteArray → Int → (List (List D)) → (List (List D)) → (Int → ByteArray → Int → (List (List C)) → (List (List C)) → Option β) → Option β) (aC : Int) (aB : ByteArray) (aD : Int) (aA : List (List D)) (aI : List (List D)) (K : Int → ByteArray → Int → (List (List C)) → (List (List C)) → Option β) : Option β :=
  YO.f k aA (fun y1 => Zo (Yn.l0 k r_impl_copyValue aI (aI.length : Int) aC aB aD aI 0 (⟨#[]⟩ : ByteArray) 0 y1 K) k (0, ([] : List (List C))))
noncomputable def Yn.w {β : Type} (r : Int → ByteArray → Int → (List (List D)) → (List (List D)) → Option (Int × ByteArray × Int × (List (List C)) × (List (List C)))) (aC : Int) (aB : ByteArray) (aD : Int) (aA : List (List D)) (aI : List (List D)) (K : Int → ByteArray → Int → (List (List C)) → (List (List C)) → Option β) : Option β := bd5 (r aC aB aD aA aI) K
noncomputable def Yn.all : Nat → (Int → ByteArray → Int → (List (List D)) → (List (List D)) → Option (Int × ByteArray × Int × (List (List C)) × (List (List C))))
  | 0 => (fun _ _ _ _ _ => none)
  | k + 1 => (fun r => (fun aC aB aD aA aI => Yn.body k (Yn.w r) aC aB aD aA aI (fun z0 z1 z2 z3 z4 => some (z0, z1, z2, z3, z4)))) (Yn.all k)
noncomputable def Yn.t (k : Nat) (aC : Int) (aB : ByteArray) (aD : Int) (aA aI : List (List D)) : Option (Int × ByteArray × Int × (List (List C)) × (List (List C))) := (Yn.all k) aC aB aD aA aI
noncomputable def Yn.f {β : Type} (k : Nat) (aC : Int) (aB : ByteArray) (aD : Int) (aA aI : List (List D)) (K : Int → ByteArray → Int → (List (List C)) → (List (List C)) → Option β) : Option β := Yn.w (Yn.t k) aC aB aD aA aI K
noncomputable def Yn.g {β : Type} (k : Nat) (aC : Int) (aB : ByteArray) (aD : Int) (aA aI : List (List D)) (K : Int → ByteArray → Int → (List (List C)) → (List (List C)) → Option β) : Option β := Yn.body k (Yn.f k) aC aB aD aA aI K
theorem Yn.t_succ (k : Nat) (aC : Int) (aB : ByteArray) (aD : Int) (aA aI : List (List D)) : Yn.t (k + 1) aC aB aD aA aI = Yn.g k aC aB aD aA aI (fun z0 z1 z2 z3 z4 => some (z0, z1, z2, z3, z4)) := rfl
noncomputable def Yn.e (k : Nat) : Zk := ent [.agg [.n, .s, .n, .l, .l]] [5] [.n, .s, .n, .o, .o] [95] false (Yn.t k)
noncomputable def Yn.p (k : Nat) : Pro := ⟨Try.prog, [(172, YO.e k), (191, Yn.e k)], Zn [(4, kp [1, 2, 3, 12, 13, 14])] false [], k⟩
noncomputable def Yn.d (k : Nat) (aC : Int) (aB : ByteArray) (aD : Int) (aA aI : List (List D)) : Ex → St → Option (Int × ByteArray × Int × (List (List C)) × (List (List C))) := (Yn.p k).fin Try.f191 [.agg [.int .i64 aC, .str aB, .int .i64 aD, .sl aA, .sl aI]] [5] [.n, .s, .n, .o, .o]
noncomputable def Yn.s0 (aH : List (List D)) (aF aK : Int) (aY : ByteArray) (aZ : Int) (bA : List (List D)) (bB : Int) (bK : ByteArray) (bJ : Int) (bL : List (List C)) (v : Int × (List (List C))) : St :=
  match v with
  | (aJ, bZ) => ZX 27 [(1, .bp 0 0), (2, .bp 1 0), (3, .row 2), (12, .d false (.sl aH)), (13, .d true (.int .i64 aF)), (14, .d true (.int .i64 aJ))] [.box none 95 [.d false (.int .i64 aK), .d false (.str aY), .d false (.int .i64 aZ), .row 3, .d false (.sl bA)], .box none 95 [.d true (.int .i64 bB), .d true (.str bK), .d true (.int .i64 bJ), .nil, .nil], .row none true 93 bZ, .row none true 74 bL]
noncomputable def Yn.r0 (k : Nat) (aC : Int) (aB : ByteArray) (aD : Int) (aA aI aH : List (List D)) (aF aK : Int) (aY : ByteArray) (aZ : Int) (bA : List (List D)) (bB : Int) (bK : ByteArray) (bJ : Int) (bL : List (List C)) (n : Nat) (v : Int × (List (List C))) : Option (Int × ByteArray × Int × (List (List C)) × (List (List C))) := (Yn.p k).lp (Zt Try.f191) 4 [1, 1, 1, 0, 1, 0] (Yn.d k aC aB aD aA aI) n (Yn.s0 aH aF aK aY aZ bA bB bK bJ bL v)
theorem Yn.l0_eq (k : Nat) (aC : Int) (aB : ByteArray) (aD : Int) (aA aI aH : List (List D)) (aF aK : Int) (aY : ByteArray) (aZ : Int) (bA : List (List D)) (bB : Int) (bK : ByteArray) (bJ : Int) (bL : List (List C)) : ∀ n v, Yn.r0 k aC aB aD aA aI aH aF aK aY aZ bA bB bK bJ bL n v = Zo (Yn.l0 k (Yn.f k) aH aF aK aY aZ bA bB bK bJ bL (fun z0 z1 z2 z3 z4 => some (z0, z1, z2, z3, z4))) n v :=
  Zm (Yn.s0 aH aF aK aY aZ bA bB bK bJ bL) _ fun L0 v => by obtain ⟨aJ, bZ⟩ := v; kernel_rfl
theorem Yn.oks (k : Nat) : Za Try.prog 191 (Yn.e k) := by
  induction k with
  | zero => exact Z7 Try.func191 (by kernel_rfl) (fun _ _ _ _ _ => rfl)
  | succ k ih => exact Zh (Yn.p k) mix tyok Try.func191 ⟨YO.ok k, ih⟩ (by kernel_rfl) (fun aC aB aD aA aI => Eq.trans (b := Yn.m k (Yn.f k) aC aB aD aA aI (fun z0 z1 z2 z3 z4 => some (z0, z1, z2, z3, z4)) (fun aH aF aK aY aZ bA bB bK bJ bL => Yn.r0 k aC aB aD aA aI aH aF aK aY aZ bA bB bK bJ bL k)) (by kernel_rfl) ((congrArg (Yn.m k (Yn.f k) aC aB aD aA aI (fun z0 z1 z2 z3 z4 => some (z0, z1, z2, z3, z4))) (funext fun aH => funext fun aF => funext fun aK => funext fun aY => funext fun aZ => funext fun bA => funext fun bB => funext fun bK => funext fun bJ => funext fun bL => funext fun v => Yn.l0_eq k aC aB aD aA aI aH aF aK aY aZ bA bB bK bJ bL k v)).trans (Yn.t_succ k aC aB aD aA aI).symm))
theorem Yn.ok (k : Nat) : Za Try.prog 191 (Yn.e k) := (Yn.oks k)
noncomputable def Yaj.g {β : Type} (k : Nat) (aC : Int) (aB : ByteArray) (aD aA aI : Int) (aX : Bool) (aP : List (List D)) (aU : Int) (aL : ByteArray) (aV : Int) (aM aQ : List (List D)) (aT : Int) (aN : ByteArray) (aW : Int) (aO aR : List (List D)) (K : Int → ByteArray → Int → Int → Int → Bool → (List (List C)) → Int → ByteArray → Int → (List (List C)) → (List (List C)) → Int → ByteArray → Int → (List (List C)) → (List (List C)) → Option β) : Option β :=
  YO.f k aP (fun y1 => Yn.f k aU aL aV aM aQ (fun y44 y45 y46 y47 y48 => Yn.f k aT aN aW aO aR (fun y49 y50 y51 y52 y53 => K aC aB aD aA aI aX y1 y44 y45 y46 y47 y48 y49 y50 y51 y52 y53)))
noncomputable def Yaj.t (k : Nat) (aC : Int) (aB : ByteArray) (aD aA aI : Int) (aX : Bool) (aP : List (List D)) (aU : Int) (aL : ByteArray) (aV : Int) (aM aQ : List (List D)) (aT : Int) (aN : ByteArray) (aW : Int) (aO aR : List (List D)) : Option (Int × ByteArray × Int × Int × Int × Bool × (List (List C)) × Int × ByteArray × Int × (List (List C)) × (List (List C)) × Int × ByteArray × Int × (List (List C)) × (List (List C))) := Yaj.g k aC aB aD aA aI aX aP aU aL aV aM aQ aT aN aW aO aR (fun z0 z1 z2 z3 z4 z5 z6 z7 z8 z9 z10 z11 z12 z13 z14 z15 z16 => some (z0, z1, z2, z3, z4, z5, z6, z7, z8, z9, z10, z11, z12, z13, z14, z15, z16))
noncomputable def Yaj.f {β : Type} (k : Nat) (aC : Int) (aB : ByteArray) (aD aA aI : Int) (aX : Bool) (aP : List (List D)) (aU : Int) (aL : ByteArray) (aV : Int) (aM aQ : List (List D)) (aT : Int) (aN : ByteArray) (aW : Int) (aO aR : List (List D)) (K : Int → ByteArray → Int → Int → Int → Bool → (List (List C)) → Int → ByteArray → Int → (List (List C)) → (List (List C)) → Int → ByteArray → Int → (List (List C)) → (List (List C)) → Option β) : Option β := match Yaj.t k aC aB aD aA aI aX aP aU aL aV aM aQ aT aN aW aO aR with | some (z0, z1, z2, z3, z4, z5, z6, z7, z8, z9, z10, z11, z12, z13, z14, z15, z16) => K z0 z1 z2 z3 z4 z5 z6 z7 z8 z9 z10 z11 z12 z13 z14 z15 z16 | none => none
noncomputable def Yaj.e (k : Nat) : Zk := ent [.agg [.n, .s, .n, .n, .n, .b, .l, .n, .s, .n, .l, .l, .n, .s, .n, .l, .l]] [17] [.n, .s, .n, .n, .n, .b, .o, .n, .s, .n, .o, .o, .n, .s, .n, .o, .o] [97] false (Yaj.t k)
noncomputable def Yaj.p (k : Nat) : Pro := ⟨Try.prog, [(172, YO.e k), (191, Yn.e k)], Zn [] false [], k⟩
theorem Yaj.ok (k : Nat) : Za Try.prog 140 (Yaj.e k) := Zh (Yaj.p k) mix tyok Try.func140 ⟨YO.ok k, Yn.ok k⟩ (by kernel_rfl) (fun aC aB aD aA aI aX aP aU aL aV aM aQ aT aN aW aO aR => by show _ = _; kernel_rfl)
noncomputable def YQ.l0 {β : Type} (k : Nat) (aH : List (List D)) (aF : Int) (K : (List (List C)) → Option β) (L0 : (Int × (List (List C))) → Option β) (v : Int × (List (List C))) : Option β :=
  match v with
  | (aJ, aK) => bif (decide ((aJ : Int) < aF)) then (atR aH aJ [.n, .b, .n, .s, .n, .n, .n, .b, .l, .n, .s, .n, .l, .l, .n, .s, .n, .l, .l] fun x79 x82 x85 x88 x91 x94 x97 x100 x103 x106 x109 x112 x115 x118 x121 x124 x127 x130 x133 => (Yaj.f k x85 x88 x91 x94 x97 x100 x103 x106 x109 x112 x115 x118 x121 x124 x127 x130 x133 (fun y134 y135 y136 y137 y138 y139 y140 y141 y142 y143 y144 y145 y146 y147 y148 y149 y150 => Zc (aK.length + ([[.d (.int .i64 x79), .d (.bool x82), .d (.int .i64 y134), .d (.str y135), .d (.int .i64 y136), .d (.int .i64 y137), .d (.int .i64 y138), .d (.bool y139), .own y140, .d (.int .i64 y141), .d (.str y142), .d (.int .i64 y143), .own y144, .own y145, .d (.int .i64 y146), .d (.str y147), .d (.int .i64 y148), .own y149, .own y150]] : List (List C)).length ≤ ZN) (L0 (IntKind.wrap .i64 (aJ + 1), aK ++ ([[.d (.int .i64 x79), .d (.bool x82), .d (.int .i64 y134), .d (.str y135), .d (.int .i64 y136), .d (.int .i64 y137), .d (.int .i64 y138), .d (.bool y139), .own y140, .d (.int .i64 y141), .d (.str y142), .d (.int .i64 y143), .own y144, .own y145, .d (.int .i64 y146), .d (.str y147), .d (.int .i64 y148), .own y149, .own y150]] : List (List C))))))) else (K aK)
noncomputable def YQ.m {β : Type} (k : Nat) (a0 : List (List D)) (K : (List (List C)) → Option β) (F : ((List (List D)) → Int → (Int × (List (List C))) → Option β)) : Option β :=
  F a0 (a0.length : Int) (0, ([] : List (List C)))
noncomputable def YQ.g {β : Type} (k : Nat) (a0 : List (List D)) (K : (List (List C)) → Option β) : Option β :=
  Zo (YQ.l0 k a0 (a0.length : Int) K) k (0, ([] : List (List C)))
noncomputable def YQ.t (k : Nat) (a0 : List (List D)) : Option ((List (List C))) := YQ.g k a0 (fun z0 => some z0)
noncomputable def YQ.f {β : Type} (k : Nat) (a0 : List (List D)) (K : (List (List C)) → Option β) : Option β := bd1 (YQ.t k a0) K
noncomputable def YQ.e (k : Nat) : Zk := ent [.d .l] [1] [.o] [27] false (YQ.t k)
noncomputable def YQ.p (k : Nat) : Pro := ⟨Try.prog, [(140, Yaj.e k)], Zn [(3, kp [3, 7, 8, 9])] false [], k⟩
noncomputable def YQ.d (k : Nat) (a0 : List (List D)) : Ex → St → Option ((List (List C))) := (YQ.p k).fin Try.f63 [.d (.sl a0)] [1] [.o]
noncomputable def YQ.s0 (aH : List (List D)) (aF : Int) (v : Int × (List (List C))) : St :=
  match v with
  | (aJ, aK) => ZX 26 [(3, .row 0), (7, .d false (.sl aH)), (8, .d true (.int .i64 aF)), (9, .d true (.int .i64 aJ))] [.row none true 27 aK]
noncomputable def YQ.r0 (k : Nat) (a0 aH : List (List D)) (aF : Int) (n : Nat) (v : Int × (List (List C))) : Option ((List (List C))) := (YQ.p k).lp (Zt Try.f63) 3 [1, 1, 0, 1, 0] (YQ.d k a0) n (YQ.s0 aH aF v)
theorem YQ.l0_eq (k : Nat) (a0 aH : List (List D)) (aF : Int) : ∀ n v, YQ.r0 k a0 aH aF n v = Zo (YQ.l0 k aH aF (fun z0 => some z0)) n v :=
  Zm (YQ.s0 aH aF) _ fun L0 v => by obtain ⟨aJ, aK⟩ := v; kernel_rfl
theorem YQ.ok (k : Nat) : Za Try.prog 63 (YQ.e k) := Zh (YQ.p k) mix tyok Try.func63 (Yaj.ok k) (by kernel_rfl) (fun a0 => Eq.trans (b := YQ.m k a0 (fun z0 => some z0) (fun aH aF => YQ.r0 k a0 aH aF k)) (by kernel_rfl) (congrArg (YQ.m k a0 (fun z0 => some z0)) (funext fun aH => funext fun aF => funext fun v => YQ.l0_eq k a0 aH aF k v)))
noncomputable def Yac.g {β : Type} (k : Nat) (aC : Int) (aB : Bool) (aD : Int) (aA : ByteArray) (aI aX aP : Int) (aU : Bool) (aL : List (List D)) (aV : Int) (aM : ByteArray) (aQ : Int) (aT aN : List (List D)) (aW : Int) (aO : ByteArray) (aR : Int) (bH bI : List (List D)) (f0_0 : Int) (K : Bool → Option β) : Option β :=
  K (decide ((aC : Int) ≤ f0_0))
noncomputable def Yac.t (k : Nat) (aC : Int) (aB : Bool) (aD : Int) (aA : ByteArray) (aI aX aP : Int) (aU : Bool) (aL : List (List D)) (aV : Int) (aM : ByteArray) (aQ : Int) (aT aN : List (List D)) (aW : Int) (aO : ByteArray) (aR : Int) (bH bI : List (List D)) (f0_0 : Int) : Option (Bool) := Yac.g k aC aB aD aA aI aX aP aU aL aV aM aQ aT aN aW aO aR bH bI f0_0 (fun z0 => some z0)
noncomputable def Yac.f {β : Type} (k : Nat) (aC : Int) (aB : Bool) (aD : Int) (aA : ByteArray) (aI aX aP : Int) (aU : Bool) (aL : List (List D)) (aV : Int) (aM : ByteArray) (aQ : Int) (aT aN : List (List D)) (aW : Int) (aO : ByteArray) (aR : Int) (bH bI : List (List D)) (f0_0 : Int) (K : Bool → Option β) : Option β := bd1 (Yac.t k aC aB aD aA aI aX aP aU aL aV aM aQ aT aN aW aO aR bH bI f0_0) K
noncomputable def Yac.e (k : Nat) : Zk := ent [.agg [.n, .b, .n, .s, .n, .n, .n, .b, .l, .n, .s, .n, .l, .l, .n, .s, .n, .l, .l], .ip [.n]] [1] [.b] [4] false (Yac.t k)
noncomputable def Yac.p (k : Nat) : Pro := ⟨Try.prog, [], Zn [] false [], k⟩
theorem Yac.ok (k : Nat) : Za Try.prog 64 (Yac.e k) := Zh (Yac.p k) mix tyok Try.func64 trivial (by kernel_rfl) (fun aC aB aD aA aI aX aP aU aL aV aM aQ aT aN aW aO aR bH bI f0_0 => by show _ = _; kernel_rfl)
noncomputable def Yd.l0 {β : Type} (k : Nat) (aH : List (List D)) (aF aJ : Int) (K L0 : Int → Option β) (v : Int) : Option β :=
  match v with
  | aK => bif (decide ((aK : Int) < aJ)) then (atR aH aK [.n, .b, .n, .s, .n, .n, .n, .b, .l, .n, .s, .n, .l, .l, .n, .s, .n, .l, .l] fun x63 x66 x69 x72 x75 x78 x81 x84 x87 x90 x93 x96 x99 x102 x105 x108 x111 x114 x117 => (Yac.f k x63 x66 x69 x72 x75 x78 x81 x84 x87 x90 x93 x96 x99 x102 x105 x108 x111 x114 x117 aF (fun y118 => bif y118 then (K aK) else (L0 (IntKind.wrap .i64 (aK + 1)))))) else (K (-1))
noncomputable def Yd.m {β : Type} (k : Nat) (a0 : List (List D)) (a1_0_0 : Int) (K : Int → Option β) (F : ((List (List D)) → Int → Int → Int → Option β)) : Option β :=
  F a0 a1_0_0 (a0.length : Int) (0)
noncomputable def Yd.g {β : Type} (k : Nat) (a0 : List (List D)) (a1_0_0 : Int) (K : Int → Option β) : Option β :=
  Zo (Yd.l0 k a0 a1_0_0 (a0.length : Int) K) k (0)
noncomputable def Yd.t (k : Nat) (a0 : List (List D)) (a1_0_0 : Int) : Option (Int) := Yd.g k a0 a1_0_0 (fun z0 => some z0)
noncomputable def Yd.e (k : Nat) : Zk := ent [.d .l, .fn 64 [[.n]]] [1] [.n] [3] false (Yd.t k)
noncomputable def Yd.p (k : Nat) : Pro := ⟨Try.prog, [(64, Yac.e k)], Zn [(2, kp [0, 1, 7, 8])] false [], k⟩
noncomputable def Yd.d (k : Nat) (a0 : List (List D)) (a1_0_0 : Int) : Ex → St → Option (Int) := (Yd.p k).fin Try.f139 [.d (.sl a0), .d (.fn 64 [[.int .i64 a1_0_0]])] [1] [.n]
noncomputable def Yd.s0 (aH : List (List D)) (aF aJ v : Int) : St :=
  match v with
  | aK => ZX 19 [(0, .d false (.sl aH)), (1, .d false (.fn 64 [[.int .i64 aF]])), (7, .d true (.int .i64 aJ)), (8, .d true (.int .i64 aK))] []
noncomputable def Yd.r0 (k : Nat) (a0 : List (List D)) (a1_0_0 : Int) (aH : List (List D)) (aF aJ : Int) (n : Nat) (v : Int) : Option (Int) := (Yd.p k).lp (Zt Try.f139) 2 [1, 0, 1, 0] (Yd.d k a0 a1_0_0) n (Yd.s0 aH aF aJ v)
theorem Yd.l0_eq (k : Nat) (a0 : List (List D)) (a1_0_0 : Int) (aH : List (List D)) (aF aJ : Int) : ∀ n v, Yd.r0 k a0 a1_0_0 aH aF aJ n v = Zo (Yd.l0 k aH aF aJ (fun z0 => some z0)) n v :=
  Zm (Yd.s0 aH aF aJ) _ fun L0 v => by kernel_rfl
theorem Yd.ok (k : Nat) : Za Try.prog 139 (Yd.e k) := Zh (Yd.p k) mix tyok Try.func139 (Yac.ok k) (by kernel_rfl) (fun a0 a1_0_0 => Eq.trans (b := Yd.m k a0 a1_0_0 (fun z0 => some z0) (fun aH aF aJ => Yd.r0 k a0 a1_0_0 aH aF aJ k)) (by kernel_rfl) (congrArg (Yd.m k a0 a1_0_0 (fun z0 => some z0)) (funext fun aH => funext fun aF => funext fun aJ => funext fun v => Yd.l0_eq k a0 a1_0_0 aH aF aJ k v)))
noncomputable def Yf.t (k : Nat) (xs : List (List C)) (c0_0 : Int) : Option (List (List C)) := delK (fun ds => Yd.t k ds c0_0) (fun s => match s with | [.int .i64 x0, .bool x1, .int .i64 x2, .str x3, .int .i64 x4, .int .i64 x5, .int .i64 x6, .bool x7, .sl x8, .int .i64 x9, .str x10, .int .i64 x11, .sl x12, .sl x13, .int .i64 x14, .str x15, .int .i64 x16, .sl x17, .sl x18] => Yac.t k x0 x1 x2 x3 x4 x5 x6 x7 x8 x9 x10 x11 x12 x13 x14 x15 x16 x17 x18 c0_0 | _ => none) xs
noncomputable def Yf.f {β : Type} (k : Nat) (xs : List (List C)) (c0_0 : Int) (K : (List (List C)) → Option β) : Option β :=
  match Yf.t k xs c0_0 with
  | some z0 => K z0
  | none => none
noncomputable def Yf.run (k : Nat) : {β : Type} → List A → ((List (List C)) → Option β) → Option β := fun {β} l K =>
  match l with
  | [.own false [.own xs], .d (.fn g [[.int .i64 c0_0]])] => bif g == 64 then Yf.f k xs c0_0 K else none
  | _ => none
noncomputable def Yf.e (k : Nat) : Zk := { modes := [(.own, 0)], rts := [27], al := false, run := fun _ _ => none, lib := some ⟨[true, false], 27, Yf.run k⟩ }
set_option maxHeartbeats 4000000 in
set_option maxRecDepth 1000000 in
theorem Yf.raw2 {P : Program} (mixed : P.follows .mixedOrders = true) (hf : P.funcs[62]? = some Try.f62) (eI : ∀ args w, (callFunc 139 args).run P w = .ok (.enter 139 args) w) (t0 : P.underlying 0 = some (.tuple #[])) (a0 : ∀ w, (isAgg 0).run P w = .ok false w) (z0 : ∀ w, (Go.sizeOf 0).run P w = .ok 1 w) (v0 : ∀ w, (zeroValue 0).run P w = .ok (.tuple #[]) w)
   (t3 : P.underlying 3 = some (.int .i64)) (a3 : ∀ w, (isAgg 3).run P w = .ok false w) (z3 : ∀ w, (Go.sizeOf 3).run P w = .ok 1 w) (v3 : ∀ w, (zeroValue 3).run P w = .ok (.int .i64 0) w) (t4 : P.underlying 4 = some .bool) (a4 : ∀ w, (isAgg 4).run P w = .ok false w) (z4 : ∀ w, (Go.sizeOf 4).run P w = .ok 1 w) (v4 : ∀ w, (zeroValue 4).run P w = .ok (.bool false) w)
   (tS : P.underlying 27 = some (.slice 99)) (aS : ∀ w, (isAgg 27).run P w = .ok false w) (zS : ∀ w, (Go.sizeOf 27).run P w = .ok 1 w) (vS : ∀ w, (zeroValue 27).run P w = .ok (.slice none 0 0) w) (tG : P.underlying 103 = some (.func #[99] #[4] false)) (aG : ∀ w, (isAgg 103).run P w = .ok false w) (zG : ∀ w, (Go.sizeOf 103).run P w = .ok 1 w) (vG : ∀ w, (zeroValue 103).run P w = .ok .nilFunc w)
   (K : Nat) (hK : 0 < K) (zc : Array Value) (aE : ∀ w, (isAgg 99).run P w = .ok true w) (zE : ∀ w, (Go.sizeOf 99).run P w = .ok K w) (vE : ∀ w, (zeroValue 99).run P w = .ok (.agg zc) w)
   (b cap n : Nat) (c : Array Value) (e : TypeId) (w : World) (g : Nat) (lb : Array Value) (p : Nat → Bool) (k0 : Nat) (hb : w.heap[b]? = some (.cells c e (0, 0))) (hc : c.size = cap * K) (hn : n ≤ cap) (hk0 : k0 < n) (hm : n ≤ 1099511627776)
   (h1 : ∀ t, t < n * K → ∃ v, c[t]? = some v ∧ v.oneCell' = true) (i0 : TypeInfo) (hi : P.info? 99 = some i0) (hz : i0.zero = some (.agg zc)) (hs : i0.size = K) (hzs : zc.size = K) (hz1 : ∀ v ∈ zc.toList, v.oneCell' = true)
   (eg : ∀ args w, (callFunc g args).run P w = .ok (.enter g args) w)
   (hIF : Calls P 139 #[.slice (some ⟨b, 0, none⟩) n cap, .func (.func g) #[] lb] w fun e w' => e = .returned (.int .i64 k0) ∧ Gs w w')
   (hpred : ∀ j, k0 < j → j < n → ∀ W, Gr b w W → ∀ vs : List Value, vs.length = K → (∀ t u, vs[t]? = some u → c[j * K + t]? = some u) → Calls P g (#[.agg vs.toArray] ++ lb) W fun e w' => e = .returned (.bool (p j)) ∧ Gs W w') :
    Calls P 62 #[.slice (some ⟨b, 0, none⟩) n cap, .func (.func g) #[] lb] w fun ex w' => ex = .returned (.slice (some ⟨b, 0, none⟩) (kpt p k0 n).length cap) ∧ Gr b w w' ∧ ∃ c' : Array Value, w'.heap[b]? = some (.cells c' e (0, 0)) ∧ c'.size = c.size ∧ ∀ m k : Nat, (kpt p k0 n)[m]? = some k → ∀ t, t < K → c'[m * K + t]? = c[k * K + t]? := by
  have hHC : Hold (∀ j, k0 < j → j < n → ∀ W, Gr b w W → ∀ vs : List Value, vs.length = K → (∀ t u, vs[t]? = some u → c[j * K + t]? = some u) → Calls P g (#[.agg vs.toArray] ++ lb) W fun e w' => e = .returned (.bool (p j)) ∧ Gs W w') := ⟨hpred⟩
  have hH1 : Hold (∀ t, t < n * K → ∃ v, c[t]? = some v ∧ v.oneCell' = true) := ⟨h1⟩
  have hHZ : Hold (i0.zero = some (.agg zc) ∧ i0.size = K ∧ zc.size = K ∧ (∀ v ∈ zc.toList, v.oneCell' = true) ∧ P.info? 99 = some i0) := ⟨hz, hs, hzs, hz1, hi⟩
  have hHB : Hold (w.heap[b]? = some (.cells c e (0, 0)) ∧ c.size = cap * K) := ⟨hb, hc⟩
  have hHK : Hold (0 < K) := ⟨hK⟩
  clear hpred h1 hz hs hzs hz1 hi hb hc hK
  have hne1 : ((k0 : Int) == -1) = false := beq_eq_false_iff_ne.2 (by omega)
  go_enter hf, Try.ntmps62
  go_wp2_with (go_at_fn 139; refine hIF.mono ?_; rintro e w' ⟨rfl, hg⟩)
  go_loopg [5, 6, 7] n (fun gg s5 s6 _ wr => ∃ (i j : Nat), s5 = .int .i64 i ∧ s6 = .int .i64 j ∧ j ≤ n ∧ n - j ≤ gg ∧ Hold (∃ ck : Array Value, DfK K b k0 c e p w wr i j ck))
  case atStart =>
    refine ⟨k0, k0 + 1, rfl, by go_num, by omega, by omega, ⟨c, by omega, hg.gr b, ?_, rfl, ?_, fun _ _ => rfl, fun m k hk => ?_⟩⟩
    · rw [hg.same b (by have := (Array.getElem?_eq_some_iff.mp hHB.out.1).1; exact this)]; exact hHB.out.1
    · unfold kpt; simp
    · unfold kpt at hk
      simp only [Nat.sub_self, List.range'_zero, List.filter_nil, List.append_nil] at hk
      have := List.getElem?_eq_some_iff.mp hk
      obtain ⟨q, hq⟩ := this
      rw [List.getElem_range] at hq
      rw [hq]
      exact fun _ _ => rfl
  case round =>
    obtain ⟨i, j, rfl, rfl, hjd, hgg, ⟨ck, hI⟩⟩ := hrel
    have hij : i < j ∧ k0 ≤ i := by have := kpt_le (p := p) hI.lt; rw [hI.len] at this; omega
    obtain ⟨hij, hki⟩ := hij
    by_cases hlt : j < n
    · have hltz : (j : Int) < (n : Int) := by omega
      obtain ⟨ul, ug, u1⟩ := Zcs hH1.out (i := j) (m := 1) (by omega)
      generalize (c.toList.drop (j * K)).take (1 * K) = us at ul ug u1
      rw [Nat.one_mul] at ul ug
      have ug' : ∀ t u, us[t]? = some u → c[j * K + t]? = some u := fun t u h => ((ug t u).mp h).2
      have hblt : b < wr.heap.size := (Array.getElem?_eq_some_iff.mp hI.at_).1
      have l1 : Sem.run P (loadCellsFrom ⟨b, j * K, none⟩ 0 K #[]) wr = .ok us.toArray wr := load_list P wr _ us K ul (fun t u ht => by
        rw [Addr.add_lit, Zam hI.at_, hI.high _ (by omega)]
        exact ug' t u ht)
      have hzc := hHZ.out.2.2.1
      obtain ⟨hN, hO⟩ := Zac us 0 (Zci wr (.cells zc 99))
      have s1 : Sem.run P (storeCells ⟨wr.heap.size, 0, none⟩ us 0) (wr.alloc (.cells zc 99)) = .ok () ((wr.alloc (.cells zc 99)).setCells wr.heap.size 0 us) := by
        have := run_storeCells_cells (P := P) wr.heap.size 0 us 0 (wr.alloc (.cells zc 99)) (fun t ht => by rw [Zam (Zci wr _), Array.getElem?_eq_getElem (by omega)]; rfl) (fun t ht => Zaw (Zci wr _) _) u1
        exact this
      have hG1 : Gs wr ((wr.alloc (.cells zc 99)).setCells wr.heap.size 0 us) := (gs_alloc wr _).trans_only hO (Nat.le_refl _)
      obtain ⟨W1, hW1⟩ : ∃ W1, Hold (W1 = (wr.alloc (.cells zc 99)).setCells wr.heap.size 0 us) := ⟨_, ⟨rfl⟩⟩
      rw [← hW1.out] at s1 hN hG1
      have l2 : ∀ w', Gs W1 w' → Sem.run P (loadCellsFrom ⟨wr.heap.size, 0, none⟩ 0 K #[]) w' = .ok us.toArray w' := fun w' hg2 => load_list P w' _ us K ul (fun t u ht => by
        have hlt1 := (Array.getElem?_eq_some_iff.mp hN).1
        have ht' : t < us.length := (List.getElem?_eq_some_iff.mp ht).1
        rw [Addr.add_lit, Zam ((hg2.same _ hlt1).trans hN), Zaa _ _ _ _ (by omega), if_pos (by omega)]
        simpa using ht)
      have l2' := l2 W1 (Gs.refl W1)
      have hcall := hHC.out j hI.lt hlt W1 (hI.gr.trans (hG1.gr b)) us ul ug'
      have hst : Hold (∀ (w' : World), Gs W1 w' → w'.heap[b]? = some (.cells ck e (0, 0)) ∧ Sem.run P (storeCells ⟨b, i * K, none⟩ us 0) w' = .ok () (w'.setCells b (i * K) us)) := ⟨fun w' hg2 => by
        have hb5 := (hg2.same b (Nat.lt_of_lt_of_le hblt hG1.size)).trans ((hG1.same b hblt).trans hI.at_)
        refine ⟨hb5, ?_⟩
        have hle : i * K + us.length ≤ ck.size := by
          rw [hI.size, hHB.out.2, ul, ← Nat.succ_mul]
          exact Nat.mul_le_mul_right K (by omega)
        have := run_storeCells_cells (P := P) b (i * K) us 0 w' (fun t ht => by rw [Nat.add_zero, Zam hb5, Array.getElem?_eq_getElem (by omega)]; rfl) (fun t ht => Zaw hb5 _) u1
        rwa [Nat.add_zero] at this⟩
      have l2H : Hold (∀ w', Gs W1 w' → Sem.run P (loadCellsFrom ⟨wr.heap.size, 0, none⟩ 0 K #[]) w' = .ok us.toArray w') := ⟨l2⟩
      have W2 : Hold (DfK K b k0 c e p w wr i j ck ∧ Gs wr W1 ∧ ∀ t, t < K → us[t]? = c[j * K + t]?) := ⟨hI, hG1, fun t ht => by
        obtain ⟨u, hu, _⟩ := hH1.out (j * K + t) (by
          have := Nat.mul_le_mul_right K (show j + 1 ≤ n from hlt)
          rw [Nat.succ_mul] at this
          omega)
        rw [hu]
        exact (ug t u).mpr ⟨by omega, hu⟩⟩
      clear hI hN hO hG1 ug ug' u1 l2 hzc
      cases hq : p j with
      | false =>
        rw [hq] at hcall
        clear hHC hH1 hHZ hIF
        go_wp2_with (go_at_fn g; refine hcall.mono ?_; rintro e w' ⟨rfl, hg2⟩; have l3 := l2H.out w' hg2; have s3 := (hst.out w' hg2).2)
        go_roundg (n - (j + 1))
        case measure => omega
        case rel =>
          obtain ⟨hI, hG1, hus⟩ := W2.out
          have hb5 := (hst.out w' hg2).1
          obtain ⟨hb3, ho3⟩ := Zac us (i * K) hb5
          have hle : i * K + us.length ≤ ck.size := by
            rw [hI.size, hHB.out.2, ul, ← Nat.succ_mul]
            exact Nat.mul_le_mul_right K (by omega)
          have hiK : i * K + K ≤ j * K := by
            rw [← Nat.succ_mul]
            exact Nat.mul_le_mul_right K hij
          have hjK : (j + 1) * K = j * K + K := Nat.succ_mul ..
          refine ⟨i + 1, j + 1, by go_num, by go_num, by omega, Nat.le_refl _, ⟨putA ck (i * K) us, ?_⟩⟩
          refine ⟨by have := hI.lt; omega, ((hI.gr.trans (hG1.gr b)).trans (hg2.gr b)).trans ho3.gr, hb3, by rw [Zaz]; exact hI.size, by rw [kpt_keep hI.lt hq, List.length_append, hI.len]; rfl, fun t ht => ?_, fun m k hk t ht => ?_⟩
          · rw [Zaa _ _ _ _ hle, if_neg (by omega)]
            exact hI.high t (by omega)
          · rw [kpt_keep hI.lt hq] at hk
            by_cases hm : m < i
            · have : m * K + K ≤ i * K := by
                rw [← Nat.succ_mul]
                exact Nat.mul_le_mul_right K hm
              rw [Zaa _ _ _ _ hle, if_neg (by omega)]
              exact hI.low m k (by rwa [List.getElem?_append_left (by rw [hI.len]; exact hm)] at hk) t ht
            · rw [List.getElem?_append_right (by rw [hI.len]; omega), hI.len] at hk
              have hm0 : m = i := by
                by_cases h : m - i = 0
                · omega
                · rw [List.getElem?_eq_none (by simp; omega)] at hk; cases hk
              subst hm0
              simp at hk
              subst hk
              rw [Zaa _ _ _ _ hle, if_pos (by omega), Nat.add_sub_cancel_left]
              exact hus t ht
      | true =>
        rw [hq] at hcall
        clear hHC hH1 hHZ hIF
        go_wp2_with (go_at_fn g; refine hcall.mono ?_; rintro e w' ⟨rfl, hg2⟩)
        go_roundg (n - (j + 1))
        case measure => omega
        case rel =>
          obtain ⟨hI, hG1, hus⟩ := W2.out
          have hb5 := (hst.out w' hg2).1
          have hjK : (j + 1) * K = j * K + K := Nat.succ_mul ..
          refine ⟨i, j + 1, rfl, by go_num, by omega, Nat.le_refl _, ⟨ck, ?_⟩⟩
          exact ⟨by have := hI.lt; omega, (hI.gr.trans (hG1.gr b)).trans (hg2.gr b), hb5, hI.size, by rw [kpt_skip hI.lt hq]; exact hI.len, fun t ht => hI.high t (by omega), by rw [kpt_skip hI.lt hq]; exact hI.low⟩
    · obtain rfl : j = n := by omega
      have hltz : ¬ (j : Int) < (j : Int) := by omega
      have hcs := hHB.out.2
      obtain ⟨hz, hs, hzs, hz1, hi⟩ := hHZ.out
      have hjc : i * K + (j - i) * K ≤ cap * K := by
        rw [← Nat.add_mul]
        exact Nat.mul_le_mul_right K (by omega)
      have hcl : ∀ ty, (Builtin.clear_ #[27] ty #[.slice (some ⟨b, i * K, none⟩) (j - i) (cap - i)]).run P wr = .ok (.tuple #[]) (wr.setCells b (i * K) (Builtin.zeroCells zc (j - i)).toList) :=
        fun ty => run_clear_cells tS hi hz hz1 (by omega) (fun t ht => by rw [Zam hI.at_]; change t < (j - i) * zc.size at ht; rw [hzs] at ht; rw [Array.getElem?_eq_getElem (by rw [hI.size, hcs]; omega)]; rfl) (fun t ht => Zaw hI.at_ _)
      obtain ⟨hb4, ho4⟩ := Zac (Builtin.zeroCells zc (j - i)).toList (i * K) hI.at_
      have hfin : Hold (Gr b w (wr.setCells b (i * K) (Builtin.zeroCells zc (j - i)).toList) ∧ ∃ c' : Array Value, (wr.setCells b (i * K) (Builtin.zeroCells zc (j - i)).toList).heap[b]? = some (.cells c' e (0, 0)) ∧ c'.size = c.size ∧ ∀ m k : Nat, (kpt p k0 j)[m]? = some k → ∀ t, t < K → c'[m * K + t]? = c[k * K + t]?) := by
        have hzl : (Builtin.zeroCells zc (j - i)).toList.length = (j - i) * K := by simp [Zap, hzs]
        refine ⟨hI.gr.trans ho4.gr, _, hb4, by rw [Zaz]; exact hI.size, fun m k hk t ht => ?_⟩
        have hmi : m < i := by rw [← hI.len]; exact (List.getElem?_eq_some_iff.mp hk).1
        have : m * K + K ≤ i * K := by
          rw [← Nat.succ_mul]
          exact Nat.mul_le_mul_right K hmi
        rw [Zaa _ _ _ _ (by rw [hzl, hI.size, hcs]; omega), if_neg (by omega)]
        exact hI.low m k hk t ht
      have hlen := hI.len
      generalize (Builtin.zeroCells zc (j - i)).toList = zl at hcl hfin
      clear hI hz hs hzs hz1 hi hb4 ho4 hcs hjc
      have hic : i ≤ cap := by omega
      go_wp2
      go_ret
      refine ⟨?_, hfin.out⟩
      first | rfl | (rw [hlen]; rfl)
set_option maxHeartbeats 4000000 in
set_option maxRecDepth 1000000 in
theorem Yf.raw0 (a : Option Addr) (n cap : Nat) (w : World) (g : Nat) (lb : Array Value) (hn : n ≤ cap) (hIF : Calls Try.prog 139 #[.slice a n cap, .func (.func g) #[] lb] w fun e w' => e = .returned (.int .i64 (-1)) ∧ Gs w w') : Calls Try.prog 62 #[.slice a n cap, .func (.func g) #[] lb] w fun ex w' => ex = .returned (.slice a n cap) ∧ Gs w w' := by
  go_enter Try.func62, Try.ntmps62
  go_wp2_with (go_at_call 139; refine hIF.mono ?_; rintro e w' ⟨rfl, hg⟩)
  go_ret
  exact ⟨rfl, hg⟩
theorem Yf.raw : DfRawK Try.prog 62 139 19 := ⟨fun a n cap w g lb hn h => Yf.raw0 a n cap w g lb hn h, fun b cap n c e w g lb p k0 h1 h2 h3 h4 h5 h6 h7 h8 h9 => by
  obtain ⟨i0, z, hi, hz, hzs⟩ := Zbj (P := Try.prog) (t := 99) (by kernel_rfl)
  have hsz : i0.size = 19 := by
    have : Try.prog.cellsOf 99 = 19 := by kernel_rfl
    simpa [Program.cellsOf, hi] using this
  have hzc : z.cells.size = 19 := by
    have h1 : (ZaA Try.prog 99).length = 19 := by kernel_rfl
    rw [← h1]
    simpa using (Zay hzs).2.2.1.symm
  have hzv : ∀ w, (zeroValue 99).run Try.prog w = .ok z w := fun w => by simp [zeroValue, typeInfo, hi, hz]
  obtain ⟨zc, rfl⟩ : ∃ zc, z = .agg zc := by
    have h := (hzv w).symm.trans (Try.zeroValue99 w)
    injection h with h
    exact ⟨_, h⟩
  exact Yf.raw2 (by kernel_rfl) Try.func62 (enters_of Try.func139 (by kernel_rfl) (c := Zt Try.f139) (by kernel_rfl)) Try.underlying0 Try.isAgg0 Try.sizeOf0 Try.zeroValue0 Try.underlying3 Try.isAgg3 Try.sizeOf3 Try.zeroValue3 Try.underlying4 Try.isAgg4 Try.sizeOf4 Try.zeroValue4
    Try.underlying27 Try.isAgg27 Try.sizeOf27 Try.zeroValue27 Try.underlying103 Try.isAgg103 Try.sizeOf103 Try.zeroValue103 19 (by decide) zc Try.isAgg99 Try.sizeOf99 hzv b cap n c e w g lb p k0 h1 h2 h3 h4 h5 h6 i0 hi hz hsz hzc (Zay hzs).2.1 h7 h8 h9⟩
theorem Yf.ok (k : Nat) : Za Try.prog 62 (Yf.e k) := delfuncK_ok tyok (ct := 27) (K := 19) (g := 64) (fi := 139) (run := fun {β} => Yf.run k) (by kernel_rfl) (by decide) (enter_of Try.func62 (by kernel_rfl)) Yf.raw (by kernel_rfl) (by kernel_rfl) (Yd.ok k) (Yac.ok k) (fun β aa K r h => by
  unfold Yf.run at h
  split at h
  · rename_i xs g c0_0
    cases hg : g == 64 with
    | false => rw [hg] at h; cases h
    | true =>
      rw [hg] at h
      obtain rfl := eq_of_beq hg
      simp only [cond_true] at h
      unfold Yf.f Yf.t at h
      split at h
      · rename_i z0 hz
        refine ⟨_, _, _, _, _, rfl, hz, h, rfl, rfl, rfl, rfl, fun ds z h => ?_, fun s q h => ?_⟩
        · exact (ent_run (Yd.e k) rfl (congrArg some h) rfl)
        · split at h
          · rename_i x0 x1 x2 x3 x4 x5 x6 x7 x8 x9 x10 x11 x12 x13 x14 x15 x16 x17 x18
            exact (ent_run (Yac.e k) rfl (congrArg some h) rfl)
          · cases h
      · cases h
  · cases h)
noncomputable def Yai.g {β : Type} (k : Nat) (aC : List (List D)) (aB aD : Int) (aA : List (List D)) (a1 : Int) (K : (List (List C)) → Bool → Option β) : Option β :=
  YP.f k aC aB aD aA (fun y453 => bif (!y453) then (K ([] : List (List C)) false) else (YY.f k a1 0 aB (fun y454 => bif (!y454) then (K ([] : List (List C)) false) else (YQ.f k aA (fun y455 => Yf.f k y455 a1 (fun y456 => bif (decide (((y456.length : Int) : Int) < (IntKind.wrap .i64 (aB - a1)))) then (K ([] : List (List C)) false) else (K y456 true)))))))
noncomputable def Yai.t (k : Nat) (aC : List (List D)) (aB aD : Int) (aA : List (List D)) (a1 : Int) : Option ((List (List C)) × Bool) := Yai.g k aC aB aD aA a1 (fun z0 z1 => some (z0, z1))
noncomputable def Yai.f {β : Type} (k : Nat) (aC : List (List D)) (aB aD : Int) (aA : List (List D)) (a1 : Int) (K : (List (List C)) → Bool → Option β) : Option β := bd2 (Yai.t k aC aB aD aA a1) K
noncomputable def Yai.e (k : Nat) : Zk := ent [.agg [.l, .n, .n, .l], .d .n] [1, 1] [.o, .b] [27, 4] false (Yai.t k)
noncomputable def Yai.p (k : Nat) : Pro := ⟨Try.prog, [(60, YP.e k), (61, YY.e k), (63, YQ.e k), (62, Yf.e k)], Zn [] false [], k⟩
theorem Yai.ok (k : Nat) : Za Try.prog 13 (Yai.e k) := Zh (Yai.p k) mix tyok Try.func13 ⟨YP.ok k, YY.ok k, YQ.ok k, Yf.ok k⟩ (by kernel_rfl) (fun aC aB aD aA a1 => by show _ = _; kernel_rfl)
noncomputable def YC.l0 {β : Type} (k : Nat) (aH aF : List (List D)) (K : Bool → Option β) (L0 : Int → Option β) (v : Int) : Option β :=
  match v with
  | aJ => bif (decide ((aJ : Int) < (aH.length : Int))) then (atR aH aJ [.s] fun x12 => (atR aF aJ [.s] fun x16 => (bif (!(Zae x12 x16)) then (K false) else (L0 (IntKind.wrap .i64 (aJ + 1)))))) else (K true)
noncomputable def YC.m {β : Type} (k : Nat) (a0 a1 : List (List D)) (K : Bool → Option β) (F : ((List (List D)) → (List (List D)) → Int → Option β)) : Option β :=
  bif (((a0.length : Int) : Int) != (a1.length : Int)) then (K false) else (F a0 a1 (0))
noncomputable def YC.g {β : Type} (k : Nat) (a0 a1 : List (List D)) (K : Bool → Option β) : Option β :=
  bif (((a0.length : Int) : Int) != (a1.length : Int)) then (K false) else (Zo (YC.l0 k a0 a1 K) k (0))
noncomputable def YC.t (k : Nat) (a0 a1 : List (List D)) : Option (Bool) := YC.g k a0 a1 (fun z0 => some z0)
noncomputable def YC.f {β : Type} (k : Nat) (a0 a1 : List (List D)) (K : Bool → Option β) : Option β := bd1 (YC.t k a0 a1) K
noncomputable def YC.e (k : Nat) : Zk := ent [.d .l, .d .l] [1] [.b] [4] false (YC.t k)
noncomputable def YC.p (k : Nat) : Pro := ⟨Try.prog, [], Zn [(4, kp [0, 1, 5])] false [], k⟩
noncomputable def YC.d (k : Nat) (a0 a1 : List (List D)) : Ex → St → Option (Bool) := (YC.p k).fin Try.f192 [.d (.sl a0), .d (.sl a1)] [1] [.b]
noncomputable def YC.s0 (aH aF : List (List D)) (v : Int) : St :=
  match v with
  | aJ => ZX 26 [(0, .d false (.sl aH)), (1, .d false (.sl aF)), (5, .d true (.int .i64 aJ))] []
noncomputable def YC.r0 (k : Nat) (a0 a1 aH aF : List (List D)) (n : Nat) (v : Int) : Option (Bool) := (YC.p k).lp (Zt Try.f192) 4 [1, 1, 0, 1, 0] (YC.d k a0 a1) n (YC.s0 aH aF v)
theorem YC.l0_eq (k : Nat) (a0 a1 aH aF : List (List D)) : ∀ n v, YC.r0 k a0 a1 aH aF n v = Zo (YC.l0 k aH aF (fun z0 => some z0)) n v :=
  Zm (YC.s0 aH aF) _ fun L0 v => by kernel_rfl
theorem YC.ok (k : Nat) : Za Try.prog 192 (YC.e k) := Zh (YC.p k) mix tyok Try.func192 trivial (by kernel_rfl) (fun a0 a1 => Eq.trans (b := YC.m k a0 a1 (fun z0 => some z0) (fun aH aF => YC.r0 k a0 a1 aH aF k)) (by kernel_rfl) (congrArg (YC.m k a0 a1 (fun z0 => some z0)) (funext fun aH => funext fun aF => funext fun v => YC.l0_eq k a0 a1 aH aF k v)))
noncomputable def Ys.l0 {β : Type} (k : Nat) (r_laws_eqValueS : (List (List D)) → (List (List D)) → (Bool → Option β) → Option β) (r_laws_eqValue : Int → ByteArray → Int → (List (List D)) → (List (List D)) → Int → ByteArray → Int → (List (List D)) → (List (List D)) → (Bool → Option β) → Option β) (aH : List (List D)) (aF : List (List D)) (K : Bool → Option β) (L0 : Int → Option β) (v : Int) : Option β :=
  match v with
  | aJ => bif (decide ((aJ : Int) < (aH.length : Int))) then (atR aH aJ [.n, .s, .n, .l, .l] fun x37 x40 x43 x46 x49 => (atR aF aJ [.n, .s, .n, .l, .l] fun x53 x56 x59 x62 x65 => (r_laws_eqValue x37 x40 x43 x46 x49 x53 x56 x59 x62 x65 (fun y66 => bif (!y66) then (K false) else (L0 (IntKind.wrap .i64 (aJ + 1))))))) else (K true)
noncomputable def Ys.m {β : Type} (k : Nat) (r_laws_eqValueS : (List (List D)) → (List (List D)) → (Bool → Option β) → Option β) (r_laws_eqValue : Int → ByteArray → Int → (List (List D)) → (List (List D)) → Int → ByteArray → Int → (List (List D)) → (List (List D)) → (Bool → Option β) → Option β) (a0 : List (List D)) (a1 : List (List D)) (K : Bool → Option β) (F : ((List (List D)) → (List (List D)) → Int → Option β)) : Option β :=
  bif (((a0.length : Int) : Int) != (a1.length : Int)) then (K false) else (F a0 a1 (0))
noncomputable def Ys.body {β : Type} (k : Nat) (r_laws_eqValueS : (List (List D)) → (List (List D)) → (Bool → Option β) → Option β) (r_laws_eqValue : Int → ByteArray → Int → (List (List D)) → (List (List D)) → Int → ByteArray → Int → (List (List D)) → (List (List D)) → (Bool → Option β) → Option β) (a0 : List (List D)) (a1 : List (List D)) (K : Bool → Option β) : Option β :=
  bif (((a0.length : Int) : Int) != (a1.length : Int)) then (K false) else (Zo (Ys.l0 k r_laws_eqValueS r_laws_eqValue a0 a1 K) k (0))
noncomputable def YL.body {β : Type} (k : Nat) (r_laws_eqValueS : (List (List D)) → (List (List D)) → (Bool → Option β) → Option β) (r_laws_eqValue : Int → ByteArray → Int → (List (List D)) → (List (List D)) → Int → ByteArray → Int → (List (List D)) → (List (List D)) → (Bool → Option β) → Option β) (aC : Int) (aB : ByteArray) (aD : Int) (aA : List (List D)) (aI : List (List D)) (bC : Int) (bD : ByteArray) (bE : Int) (bF : List (List D)) (bG : List (List D)) (K : Bool → Option β) : Option β :=
  bif ((aC : Int) != bC) then (K false) else (bif (!(Zae aB bD)) then (K false) else (bif ((aD : Int) != bE) then (K false) else (YC.f k aA bF (fun y1 => bif (!y1) then (K false) else (r_laws_eqValueS aI bG (fun y67 => bif (!y67) then (K false) else (K true)))))))
noncomputable def Ys.w {β : Type} (r : (List (List D)) → (List (List D)) → Option (Bool)) (a0 : List (List D)) (a1 : List (List D)) (K : Bool → Option β) : Option β := bd1 (r a0 a1) K
noncomputable def YL.w {β : Type} (r : Int → ByteArray → Int → (List (List D)) → (List (List D)) → Int → ByteArray → Int → (List (List D)) → (List (List D)) → Option (Bool)) (aC : Int) (aB : ByteArray) (aD : Int) (aA : List (List D)) (aI : List (List D)) (bC : Int) (bD : ByteArray) (bE : Int) (bF : List (List D)) (bG : List (List D)) (K : Bool → Option β) : Option β := bd1 (r aC aB aD aA aI bC bD bE bF bG) K
noncomputable def Ys.all : Nat → ((List (List D)) → (List (List D)) → Option (Bool)) × (Int → ByteArray → Int → (List (List D)) → (List (List D)) → Int → ByteArray → Int → (List (List D)) → (List (List D)) → Option (Bool))
  | 0 => (fun _ _ => none, fun _ _ _ _ _ _ _ _ _ _ => none)
  | k + 1 => (fun r => (fun a0 a1 => Ys.body k (Ys.w r.1) (YL.w r.2) a0 a1 (fun z0 => some z0), fun aC aB aD aA aI bC bD bE bF bG => YL.body k (Ys.w r.1) (YL.w r.2) aC aB aD aA aI bC bD bE bF bG (fun z0 => some z0))) (Ys.all k)
noncomputable def Ys.t (k : Nat) (a0 a1 : List (List D)) : Option (Bool) := (Ys.all k).1 a0 a1
noncomputable def YL.t (k : Nat) (aC : Int) (aB : ByteArray) (aD : Int) (aA aI : List (List D)) (bC : Int) (bD : ByteArray) (bE : Int) (bF bG : List (List D)) : Option (Bool) := (Ys.all k).2 aC aB aD aA aI bC bD bE bF bG
noncomputable def Ys.f {β : Type} (k : Nat) (a0 a1 : List (List D)) (K : Bool → Option β) : Option β := Ys.w (Ys.t k) a0 a1 K
noncomputable def YL.f {β : Type} (k : Nat) (aC : Int) (aB : ByteArray) (aD : Int) (aA aI : List (List D)) (bC : Int) (bD : ByteArray) (bE : Int) (bF bG : List (List D)) (K : Bool → Option β) : Option β := YL.w (YL.t k) aC aB aD aA aI bC bD bE bF bG K
noncomputable def Ys.g {β : Type} (k : Nat) (a0 a1 : List (List D)) (K : Bool → Option β) : Option β := Ys.body k (Ys.f k) (YL.f k) a0 a1 K
theorem Ys.t_succ (k : Nat) (a0 a1 : List (List D)) : Ys.t (k + 1) a0 a1 = Ys.g k a0 a1 (fun z0 => some z0) := rfl
noncomputable def YL.g {β : Type} (k : Nat) (aC : Int) (aB : ByteArray) (aD : Int) (aA aI : List (List D)) (bC : Int) (bD : ByteArray) (bE : Int) (bF bG : List (List D)) (K : Bool → Option β) : Option β := YL.body k (Ys.f k) (YL.f k) aC aB aD aA aI bC bD bE bF bG K
theorem YL.t_succ (k : Nat) (aC : Int) (aB : ByteArray) (aD : Int) (aA aI : List (List D)) (bC : Int) (bD : ByteArray) (bE : Int) (bF bG : List (List D)) : YL.t (k + 1) aC aB aD aA aI bC bD bE bF bG = YL.g k aC aB aD aA aI bC bD bE bF bG (fun z0 => some z0) := rfl
noncomputable def Ys.e (k : Nat) : Zk := ent [.d .l, .d .l] [1] [.b] [4] false (Ys.t k)
noncomputable def YL.e (k : Nat) : Zk := ent [.agg [.n, .s, .n, .l, .l], .agg [.n, .s, .n, .l, .l]] [1] [.b] [4] false (YL.t k)
noncomputable def Ys.p (k : Nat) : Pro := ⟨Try.prog, [(193, YL.e k)], Zn [(4, kp [0, 1, 5])] false [], k⟩
noncomputable def Ys.d (k : Nat) (a0 a1 : List (List D)) : Ex → St → Option (Bool) := (Ys.p k).fin Try.f209 [.d (.sl a0), .d (.sl a1)] [1] [.b]
noncomputable def Ys.s0 (aH aF : List (List D)) (v : Int) : St :=
  match v with
  | aJ => ZX 27 [(0, .d false (.sl aH)), (1, .d false (.sl aF)), (5, .d true (.int .i64 aJ))] []
noncomputable def Ys.r0 (k : Nat) (a0 a1 aH aF : List (List D)) (n : Nat) (v : Int) : Option (Bool) := (Ys.p k).lp (Zt Try.f209) 4 [1, 1, 0, 1, 0] (Ys.d k a0 a1) n (Ys.s0 aH aF v)
theorem Ys.l0_eq (k : Nat) (a0 a1 aH aF : List (List D)) : ∀ n v, Ys.r0 k a0 a1 aH aF n v = Zo (Ys.l0 k (Ys.f k) (YL.f k) aH aF (fun z0 => some z0)) n v :=
  Zm (Ys.s0 aH aF) _ fun L0 v => by kernel_rfl
noncomputable def YL.p (k : Nat) : Pro := ⟨Try.prog, [(192, YC.e k), (209, Ys.e k)], Zn [] false [], k⟩
theorem Ys.oks (k : Nat) : Za Try.prog 209 (Ys.e k) ∧ Za Try.prog 193 (YL.e k) := by
  induction k with
  | zero => exact ⟨Z7 Try.func209 (by kernel_rfl) (fun _ _ => rfl),
    Z7 Try.func193 (by kernel_rfl) (fun _ _ _ _ _ _ _ _ _ _ => rfl)⟩
  | succ k ih => exact ⟨Zh (Ys.p k) mix tyok Try.func209 ih.2 (by kernel_rfl) (fun a0 a1 => Eq.trans (b := Ys.m k (Ys.f k) (YL.f k) a0 a1 (fun z0 => some z0) (fun aH aF => Ys.r0 k a0 a1 aH aF k)) (by kernel_rfl) ((congrArg (Ys.m k (Ys.f k) (YL.f k) a0 a1 (fun z0 => some z0)) (funext fun aH => funext fun aF => funext fun v => Ys.l0_eq k a0 a1 aH aF k v)).trans (Ys.t_succ k a0 a1).symm)),
    Zh (YL.p k) mix tyok Try.func193 ⟨YC.ok k, ih.1⟩ (by kernel_rfl) (fun aC aB aD aA aI bC bD bE bF bG => by show _ = _; kernel_rfl)⟩
theorem YL.ok (k : Nat) : Za Try.prog 193 (YL.e k) := (Ys.oks k).2
noncomputable def Yah.g {β : Type} (k : Nat) (aC : Int) (aB : ByteArray) (aD aA aI : Int) (aX : Bool) (aP : List (List D)) (aU : Int) (aL : ByteArray) (aV : Int) (aM aQ : List (List D)) (aT : Int) (aN : ByteArray) (aW : Int) (aO aR : List (List D)) (bC : Int) (bD : ByteArray) (bE bF bG : Int) (bM : Bool) (bN : List (List D)) (bO : Int) (bP : ByteArray) (bQ : Int) (bR bT : List (List D)) (bU : Int) (bV : ByteArray) (bW : Int) (bX bY : List (List D)) (K : Bool → Option β) : Option β :=
  bif ((aC : Int) != bC) then (K false) else (bif (!(Zae aB bD)) then (K false) else (bif ((aD : Int) != bE) then (K false) else (bif ((aA : Int) != bF) then (K false) else (bif ((aI : Int) != bG) then (K false) else (bif (!(aX == bM)) then (K false) else (YC.f k aP bN (fun y17 => bif (!y17) then (K false) else (YL.f k aU aL aV aM aQ bO bP bQ bR bT (fun y68 => bif (!y68) then (K false) else (YL.f k aT aN aW aO aR bU bV bW bX bY (fun y69 => bif (!y69) then (K false) else (K true))))))))))))
noncomputable def Yah.t (k : Nat) (aC : Int) (aB : ByteArray) (aD aA aI : Int) (aX : Bool) (aP : List (List D)) (aU : Int) (aL : ByteArray) (aV : Int) (aM aQ : List (List D)) (aT : Int) (aN : ByteArray) (aW : Int) (aO aR : List (List D)) (bC : Int) (bD : ByteArray) (bE bF bG : Int) (bM : Bool) (bN : List (List D)) (bO : Int) (bP : ByteArray) (bQ : Int) (bR bT : List (List D)) (bU : Int) (bV : ByteArray) (bW : Int) (bX bY : List (List D)) : Option (Bool) := Yah.g k aC aB aD aA aI aX aP aU aL aV aM aQ aT aN aW aO aR bC bD bE bF bG bM bN bO bP bQ bR bT bU bV bW bX bY (fun z0 => some z0)
noncomputable def Yah.f {β : Type} (k : Nat) (aC : Int) (aB : ByteArray) (aD aA aI : Int) (aX : Bool) (aP : List (List D)) (aU : Int) (aL : ByteArray) (aV : Int) (aM aQ : List (List D)) (aT : Int) (aN : ByteArray) (aW : Int) (aO aR : List (List D)) (bC : Int) (bD : ByteArray) (bE bF bG : Int) (bM : Bool) (bN : List (List D)) (bO : Int) (bP : ByteArray) (bQ : Int) (bR bT : List (List D)) (bU : Int) (bV : ByteArray) (bW : Int) (bX bY : List (List D)) (K : Bool → Option β) : Option β := bd1 (Yah.t k aC aB aD aA aI aX aP aU aL aV aM aQ aT aN aW aO aR bC bD bE bF bG bM bN bO bP bQ bR bT bU bV bW bX bY) K
noncomputable def Yah.e (k : Nat) : Zk := ent [.agg [.n, .s, .n, .n, .n, .b, .l, .n, .s, .n, .l, .l, .n, .s, .n, .l, .l], .agg [.n, .s, .n, .n, .n, .b, .l, .n, .s, .n, .l, .l, .n, .s, .n, .l, .l]] [1] [.b] [4] false (Yah.t k)
noncomputable def Yah.p (k : Nat) : Pro := ⟨Try.prog, [(192, YC.e k), (193, YL.e k)], Zn [] false [], k⟩
theorem Yah.ok (k : Nat) : Za Try.prog 141 (Yah.e k) := Zh (Yah.p k) mix tyok Try.func141 ⟨YC.ok k, YL.ok k⟩ (by kernel_rfl) (fun aC aB aD aA aI aX aP aU aL aV aM aQ aT aN aW aO aR bC bD bE bF bG bM bN bO bP bQ bR bT bU bV bW bX bY => by show _ = _; kernel_rfl)
noncomputable def Yab.g {β : Type} (k : Nat) (aC : Int) (aB : Bool) (aD : Int) (aA : ByteArray) (aI aX aP : Int) (aU : Bool) (aL : List (List D)) (aV : Int) (aM : ByteArray) (aQ : Int) (aT aN : List (List D)) (aW : Int) (aO : ByteArray) (aR : Int) (bH bI : List (List D)) (bC : Int) (bD : Bool) (bE : Int) (bF : ByteArray) (bG bM bN : Int) (bO : Bool) (bP : List (List D)) (bQ : Int) (bR : ByteArray) (bT : Int) (bU bV : List (List D)) (bW : Int) (bX : ByteArray) (bY : Int) (a1_17 a1_18 : List (List D)) (K : Bool → Option β) : Option β :=
  bif ((aC : Int) != bC) then (K false) else (bif (!(aB == bD)) then (K false) else (Yah.f k aD aA aI aX aP aU aL aV aM aQ aT aN aW aO aR bH bI bE bF bG bM bN bO bP bQ bR bT bU bV bW bX bY a1_17 a1_18 (fun y70 => bif (!y70) then (K false) else (K true))))
noncomputable def Yab.t (k : Nat) (aC : Int) (aB : Bool) (aD : Int) (aA : ByteArray) (aI aX aP : Int) (aU : Bool) (aL : List (List D)) (aV : Int) (aM : ByteArray) (aQ : Int) (aT aN : List (List D)) (aW : Int) (aO : ByteArray) (aR : Int) (bH bI : List (List D)) (bC : Int) (bD : Bool) (bE : Int) (bF : ByteArray) (bG bM bN : Int) (bO : Bool) (bP : List (List D)) (bQ : Int) (bR : ByteArray) (bT : Int) (bU bV : List (List D)) (bW : Int) (bX : ByteArray) (bY : Int) (a1_17 a1_18 : List (List D)) : Option (Bool) := Yab.g k aC aB aD aA aI aX aP aU aL aV aM aQ aT aN aW aO aR bH bI bC bD bE bF bG bM bN bO bP bQ bR bT bU bV bW bX bY a1_17 a1_18 (fun z0 => some z0)
noncomputable def Yab.f {β : Type} (k : Nat) (aC : Int) (aB : Bool) (aD : Int) (aA : ByteArray) (aI aX aP : Int) (aU : Bool) (aL : List (List D)) (aV : Int) (aM : ByteArray) (aQ : Int) (aT aN : List (List D)) (aW : Int) (aO : ByteArray) (aR : Int) (bH bI : List (List D)) (bC : Int) (bD : Bool) (bE : Int) (bF : ByteArray) (bG bM bN : Int) (bO : Bool) (bP : List (List D)) (bQ : Int) (bR : ByteArray) (bT : Int) (bU bV : List (List D)) (bW : Int) (bX : ByteArray) (bY : Int) (a1_17 a1_18 : List (List D)) (K : Bool → Option β) : Option β := bd1 (Yab.t k aC aB aD aA aI aX aP aU aL aV aM aQ aT aN aW aO aR bH bI bC bD bE bF bG bM bN bO bP bQ bR bT bU bV bW bX bY a1_17 a1_18) K
noncomputable def Yab.e (k : Nat) : Zk := ent [.agg [.n, .b, .n, .s, .n, .n, .n, .b, .l, .n, .s, .n, .l, .l, .n, .s, .n, .l, .l], .agg [.n, .b, .n, .s, .n, .n, .n, .b, .l, .n, .s, .n, .l, .l, .n, .s, .n, .l, .l]] [1] [.b] [4] false (Yab.t k)
noncomputable def Yab.p (k : Nat) : Pro := ⟨Try.prog, [(141, Yah.e k)], Zn [] false [], k⟩
theorem Yab.ok (k : Nat) : Za Try.prog 65 (Yab.e k) := Zh (Yab.p k) mix tyok Try.func65 (Yah.ok k) (by kernel_rfl) (fun aC aB aD aA aI aX aP aU aL aV aM aQ aT aN aW aO aR bH bI bC bD bE bF bG bM bN bO bP bQ bR bT bU bV bW bX bY a1_17 a1_18 => by show _ = _; kernel_rfl)
noncomputable def Yx.l0 {β : Type} (k : Nat) (aH aF : List (List D)) (K : Bool → Option β) (L0 : Int → Option β) (v : Int) : Option β :=
  match v with
  | aJ => bif (decide ((aJ : Int) < (aH.length : Int))) then (atR aH aJ [.n, .b, .n, .s, .n, .n, .n, .b, .l, .n, .s, .n, .l, .l, .n, .s, .n, .l, .l] fun x121 x124 x127 x130 x133 x136 x139 x142 x145 x148 x151 x154 x157 x160 x163 x166 x169 x172 x175 => (atR aF aJ [.n, .b, .n, .s, .n, .n, .n, .b, .l, .n, .s, .n, .l, .l, .n, .s, .n, .l, .l] fun x179 x182 x185 x188 x191 x194 x197 x200 x203 x206 x209 x212 x215 x218 x221 x224 x227 x230 x233 => (Yab.f k x121 x124 x127 x130 x133 x136 x139 x142 x145 x148 x151 x154 x157 x160 x163 x166 x169 x172 x175 x179 x182 x185 x188 x191 x194 x197 x200 x203 x206 x209 x212 x215 x218 x221 x224 x227 x230 x233 (fun y234 => bif (!y234) then (K false) else (L0 (IntKind.wrap .i64 (aJ + 1))))))) else (K true)
noncomputable def Yx.m {β : Type} (k : Nat) (a0 a1 : List (List D)) (K : Bool → Option β) (F : ((List (List D)) → (List (List D)) → Int → Option β)) : Option β :=
  bif (((a0.length : Int) : Int) != (a1.length : Int)) then (K false) else (F a0 a1 (0))
noncomputable def Yx.g {β : Type} (k : Nat) (a0 a1 : List (List D)) (K : Bool → Option β) : Option β :=
  bif (((a0.length : Int) : Int) != (a1.length : Int)) then (K false) else (Zo (Yx.l0 k a0 a1 K) k (0))
noncomputable def Yx.t (k : Nat) (a0 a1 : List (List D)) : Option (Bool) := Yx.g k a0 a1 (fun z0 => some z0)
noncomputable def Yx.f {β : Type} (k : Nat) (a0 a1 : List (List D)) (K : Bool → Option β) : Option β := bd1 (Yx.t k a0 a1) K
noncomputable def Yx.e (k : Nat) : Zk := ent [.d .l, .d .l] [1] [.b] [4] false (Yx.t k)
noncomputable def Yx.p (k : Nat) : Pro := ⟨Try.prog, [(65, Yab.e k)], Zn [(4, kp [0, 1, 5])] false [], k⟩
noncomputable def Yx.d (k : Nat) (a0 a1 : List (List D)) : Ex → St → Option (Bool) := (Yx.p k).fin Try.f14 [.d (.sl a0), .d (.sl a1)] [1] [.b]
noncomputable def Yx.s0 (aH aF : List (List D)) (v : Int) : St :=
  match v with
  | aJ => ZX 27 [(0, .d false (.sl aH)), (1, .d false (.sl aF)), (5, .d true (.int .i64 aJ))] []
noncomputable def Yx.r0 (k : Nat) (a0 a1 aH aF : List (List D)) (n : Nat) (v : Int) : Option (Bool) := (Yx.p k).lp (Zt Try.f14) 4 [1, 1, 0, 1, 0] (Yx.d k a0 a1) n (Yx.s0 aH aF v)
theorem Yx.l0_eq (k : Nat) (a0 a1 aH aF : List (List D)) : ∀ n v, Yx.r0 k a0 a1 aH aF n v = Zo (Yx.l0 k aH aF (fun z0 => some z0)) n v :=
  Zm (Yx.s0 aH aF) _ fun L0 v => by kernel_rfl
theorem Yx.ok (k : Nat) : Za Try.prog 14 (Yx.e k) := Zh (Yx.p k) mix tyok Try.func14 (Yab.ok k) (by kernel_rfl) (fun a0 a1 => Eq.trans (b := Yx.m k a0 a1 (fun z0 => some z0) (fun aH aF => Yx.r0 k a0 a1 aH aF k)) (by kernel_rfl) (congrArg (Yx.m k a0 a1 (fun z0 => some z0)) (funext fun aH => funext fun aF => funext fun v => Yx.l0_eq k a0 a1 aH aF k v)))
noncomputable def YT.l0 {β : Type} (k : Nat) (aH aF : List (List D)) (K : Bool → Option β) (L0 : Int → Option β) (v : Int) : Option β :=
  match v with
  | aJ => bif (decide ((aJ : Int) < (aH.length : Int))) then (atR aH aJ [.n, .s, .n, .n, .n, .b, .l, .n, .s, .n, .l, .l, .n, .s, .n, .l, .l] fun x109 x112 x115 x118 x121 x124 x127 x130 x133 x136 x139 x142 x145 x148 x151 x154 x157 => (atR aF aJ [.n, .s, .n, .n, .n, .b, .l, .n, .s, .n, .l, .l, .n, .s, .n, .l, .l] fun x161 x164 x167 x170 x173 x176 x179 x182 x185 x188 x191 x194 x197 x200 x203 x206 x209 => (Yah.f k x109 x112 x115 x118 x121 x124 x127 x130 x133 x136 x139 x142 x145 x148 x151 x154 x157 x161 x164 x167 x170 x173 x176 x179 x182 x185 x188 x191 x194 x197 x200 x203 x206 x209 (fun y210 => bif (!y210) then (K false) else (L0 (IntKind.wrap .i64 (aJ + 1))))))) else (K true)
noncomputable def YT.m {β : Type} (k : Nat) (a0 a1 : List (List D)) (K : Bool → Option β) (F : ((List (List D)) → (List (List D)) → Int → Option β)) : Option β :=
  bif (((a0.length : Int) : Int) != (a1.length : Int)) then (K false) else (F a0 a1 (0))
noncomputable def YT.g {β : Type} (k : Nat) (a0 a1 : List (List D)) (K : Bool → Option β) : Option β :=
  bif (((a0.length : Int) : Int) != (a1.length : Int)) then (K false) else (Zo (YT.l0 k a0 a1 K) k (0))
noncomputable def YT.t (k : Nat) (a0 a1 : List (List D)) : Option (Bool) := YT.g k a0 a1 (fun z0 => some z0)
noncomputable def YT.f {β : Type} (k : Nat) (a0 a1 : List (List D)) (K : Bool → Option β) : Option β := bd1 (YT.t k a0 a1) K
noncomputable def YT.e (k : Nat) : Zk := ent [.d .l, .d .l] [1] [.b] [4] false (YT.t k)
noncomputable def YT.p (k : Nat) : Pro := ⟨Try.prog, [(141, Yah.e k)], Zn [(4, kp [0, 1, 5])] false [], k⟩
noncomputable def YT.d (k : Nat) (a0 a1 : List (List D)) : Ex → St → Option (Bool) := (YT.p k).fin Try.f66 [.d (.sl a0), .d (.sl a1)] [1] [.b]
noncomputable def YT.s0 (aH aF : List (List D)) (v : Int) : St :=
  match v with
  | aJ => ZX 27 [(0, .d false (.sl aH)), (1, .d false (.sl aF)), (5, .d true (.int .i64 aJ))] []
noncomputable def YT.r0 (k : Nat) (a0 a1 aH aF : List (List D)) (n : Nat) (v : Int) : Option (Bool) := (YT.p k).lp (Zt Try.f66) 4 [1, 1, 0, 1, 0] (YT.d k a0 a1) n (YT.s0 aH aF v)
theorem YT.l0_eq (k : Nat) (a0 a1 aH aF : List (List D)) : ∀ n v, YT.r0 k a0 a1 aH aF n v = Zo (YT.l0 k aH aF (fun z0 => some z0)) n v :=
  Zm (YT.s0 aH aF) _ fun L0 v => by kernel_rfl
theorem YT.ok (k : Nat) : Za Try.prog 66 (YT.e k) := Zh (YT.p k) mix tyok Try.func66 (Yah.ok k) (by kernel_rfl) (fun a0 a1 => Eq.trans (b := YT.m k a0 a1 (fun z0 => some z0) (fun aH aF => YT.r0 k a0 a1 aH aF k)) (by kernel_rfl) (congrArg (YT.m k a0 a1 (fun z0 => some z0)) (funext fun aH => funext fun aF => funext fun v => YT.l0_eq k a0 a1 aH aF k v)))
noncomputable def Yam.g {β : Type} (k : Nat) (aC : List (List D)) (aB aD : Int) (aA bC : List (List D)) (bD bE : Int) (bF : List (List D)) (K : Bool → Option β) : Option β :=
  YT.f k aC bC (fun y211 => bif (!y211) then (K false) else (bif ((aB : Int) != bD) then (K false) else (bif ((aD : Int) != bE) then (K false) else (Yx.f k aA bF (fun y212 => bif (!y212) then (K false) else (K true))))))
noncomputable def Yam.t (k : Nat) (aC : List (List D)) (aB aD : Int) (aA bC : List (List D)) (bD bE : Int) (bF : List (List D)) : Option (Bool) := Yam.g k aC aB aD aA bC bD bE bF (fun z0 => some z0)
noncomputable def Yam.f {β : Type} (k : Nat) (aC : List (List D)) (aB aD : Int) (aA bC : List (List D)) (bD bE : Int) (bF : List (List D)) (K : Bool → Option β) : Option β := bd1 (Yam.t k aC aB aD aA bC bD bE bF) K
noncomputable def Yam.e (k : Nat) : Zk := ent [.agg [.l, .n, .n, .l], .agg [.l, .n, .n, .l]] [1] [.b] [4] false (Yam.t k)
noncomputable def Yam.p (k : Nat) : Pro := ⟨Try.prog, [(66, YT.e k), (14, Yx.e k)], Zn [] false [], k⟩
theorem Yam.ok (k : Nat) : Za Try.prog 15 (Yam.e k) := Zh (Yam.p k) mix tyok Try.func15 ⟨YT.ok k, Yx.ok k⟩ (by kernel_rfl) (fun aC aB aD aA bC bD bE bF => by show _ = _; kernel_rfl)
noncomputable def Ye.l0 {β : Type} (k : Nat) (K : ByteArray → Option β) (L0 : (Int × ByteArray) → Option β) (v : Int × ByteArray) : Option β :=
  match v with
  | (aH, aF) => bif (decide ((aH : Int) > 0)) then (let J0 := (⟨#[UInt8.ofNat (Int.toNat (IntKind.wrap .u8 (IntKind.wrap .i64 (48 + (Int.tmod aH 10)))))]⟩ : ByteArray); Zc ((10 : Int) ≠ 0) (Zc (((J0.size + aF.size : Nat) : Int) ≤ 9223372036854775807) (Zc ((10 : Int) ≠ 0) (L0 (IntKind.wrap .i64 (Int.tdiv aH 10), J0 ++ aF))))) else (Zc ((((⟨#[109]⟩ : ByteArray).size + aF.size : Nat) : Int) ≤ 9223372036854775807) (K ((⟨#[109]⟩ : ByteArray) ++ aF)))
noncomputable def Ye.m {β : Type} (k : Nat) (a0 : Int) (K : ByteArray → Option β) (F : ((Int × ByteArray) → Option β)) : Option β :=
  bif (decide ((a0 : Int) ≤ 0)) then (K (⟨#[109, 48]⟩ : ByteArray)) else (F (a0, (⟨#[]⟩ : ByteArray)))
noncomputable def Ye.g {β : Type} (k : Nat) (a0 : Int) (K : ByteArray → Option β) : Option β :=
  bif (decide ((a0 : Int) ≤ 0)) then (K (⟨#[109, 48]⟩ : ByteArray)) else (Zo (Ye.l0 k K) k (a0, (⟨#[]⟩ : ByteArray)))
noncomputable def Ye.t (k : Nat) (a0 : Int) : Option (ByteArray) := Ye.g k a0 (fun z0 => some z0)
noncomputable def Ye.f {β : Type} (k : Nat) (a0 : Int) (K : ByteArray → Option β) : Option β := bd1 (Ye.t k a0) K
noncomputable def Ye.e (k : Nat) : Zk := ent [.d .n] [1] [.s] [9] false (Ye.t k)
noncomputable def Ye.p (k : Nat) : Pro := ⟨Try.prog, [], Zn [(4, kp [3] [(0, .dat false)])] false [], k⟩
noncomputable def Ye.d (k : Nat) (a0 : Int) : Ex → St → Option (ByteArray) := (Ye.p k).fin Try.f68 [.d (.int .i64 a0)] [1] [.s]
noncomputable def Ye.s0 (v : Int × ByteArray) : St :=
  match v with
  | (aH, aF) => ZX 20 [(0, .d false (.int .i64 aH)), (3, .d true (.str aF))] []
noncomputable def Ye.r0 (k : Nat) (a0 : Int) (n : Nat) (v : Int × ByteArray) : Option (ByteArray) := (Ye.p k).lp (Zt Try.f68) 4 [1, 1, 1, 0, 0] (Ye.d k a0) n (Ye.s0 v)
theorem Ye.l0_eq (k : Nat) (a0 : Int) : ∀ n v, Ye.r0 k a0 n v = Zo (Ye.l0 k (fun z0 => some z0)) n v :=
  Zm (Ye.s0) _ fun L0 v => by obtain ⟨aH, aF⟩ := v; kernel_rfl
theorem Ye.ok (k : Nat) : Za Try.prog 68 (Ye.e k) := Zh (Ye.p k) mix tyok Try.func68 trivial (by kernel_rfl) (fun a0 => Eq.trans (b := Ye.m k a0 (fun z0 => some z0) (Ye.r0 k a0 k)) (by kernel_rfl) (congrArg (Ye.m k a0 (fun z0 => some z0)) (funext fun v => Ye.l0_eq k a0 k v)))
noncomputable def Yj.l0 {β : Type} (k : Nat) (K : Int → (List (List C)) → Option β) (L0 : (Int × Int × (List (List C))) → Option β) (v : Int × Int × (List (List C))) : Option β :=
  match v with
  | (aH, aF, aJ) => bif (decide ((aF : Int) < (aJ.length : Int))) then (Ye.f k aH (fun y2 => Zc ((0 : Int) ≤ aF ∧ aF < (aJ.length : Int)) (Zc (Int.toNat aF < aJ.length) (L0 (IntKind.wrap .i64 (aH + 1), IntKind.wrap .i64 (aF + 1), aJ.modify (Int.toNat aF) fun c => Zq c 0 [.d (.str y2)]))))) else (K aH aJ)
noncomputable def Yj.m {β : Type} (k : Nat) (a0 : List (List C)) (a1 : Int) (K : Int → (List (List C)) → Option β) (F : ((Int × Int × (List (List C))) → Option β)) : Option β :=
  F (a1, 0, a0)
noncomputable def Yj.g {β : Type} (k : Nat) (a0 : List (List C)) (a1 : Int) (K : Int → (List (List C)) → Option β) : Option β :=
  Zo (Yj.l0 k K) k (a1, 0, a0)
noncomputable def Yj.t (k : Nat) (a0 : List (List C)) (a1 : Int) : Option (Int × (List (List C))) := Yj.g k a0 a1 (fun z0 z1 => some (z0, z1))
noncomputable def Yj.f {β : Type} (k : Nat) (a0 : List (List C)) (a1 : Int) (K : Int → (List (List C)) → Option β) : Option β := bd2 (Yj.t k a0 a1) K
noncomputable def Yj.e (k : Nat) : Zk := ent [.own false 74 [.o], .d .n] [1] [.n, .o] [3] false (Yj.t k)
noncomputable def Yj.p (k : Nat) : Pro := ⟨Try.prog, [(68, Ye.e k)], Zn [(2, kp [0, 5] [(1, .dat false)])] false [], k⟩
noncomputable def Yj.d (k : Nat) (a0 : List (List C)) (a1 : Int) : Ex → St → Option (Int × (List (List C))) := (Yj.p k).fin Try.f69 [.own false [.own a0], .d (.int .i64 a1)] [1] [.n, .o]
noncomputable def Yj.s0 (v : Int × Int × (List (List C))) : St :=
  match v with
  | (aH, aF, aJ) => ZX 20 [(0, .row 0), (1, .d false (.int .i64 aH)), (5, .d true (.int .i64 aF))] [.row (some 0) false 74 aJ]
noncomputable def Yj.r0 (k : Nat) (a0 : List (List C)) (a1 : Int) (n : Nat) (v : Int × Int × (List (List C))) : Option (Int × (List (List C))) := (Yj.p k).lp (Zt Try.f69) 2 [1, 0, 1, 0] (Yj.d k a0 a1) n (Yj.s0 v)
theorem Yj.l0_eq (k : Nat) (a0 : List (List C)) (a1 : Int) : ∀ n v, Yj.r0 k a0 a1 n v = Zo (Yj.l0 k (fun z0 z1 => some (z0, z1))) n v :=
  Zm (Yj.s0) _ fun L0 v => by obtain ⟨aH, aF, aJ⟩ := v; kernel_rfl
theorem Yj.ok (k : Nat) : Za Try.prog 69 (Yj.e k) := Zh (Yj.p k) mix tyok Try.func69 (Ye.ok k) (by kernel_rfl) (fun a0 a1 => Eq.trans (b := Yj.m k a0 a1 (fun z0 z1 => some (z0, z1)) (Yj.r0 k a0 a1 k)) (by kernel_rfl) (congrArg (Yj.m k a0 a1 (fun z0 z1 => some (z0, z1))) (funext fun v => Yj.l0_eq k a0 a1 k v)))
noncomputable def Yg.l0 {β : Type} (k : Nat) (r_laws_markValueS : (List (List C)) → Int → (Int → (List (List C)) → Option β) → Option β) (K : Int → (List (List C)) → Option β) (L0 : (Int × Int × (List (List C))) → Option β) (v : Int × Int × (List (List C))) : Option β :=
  match v with
  | (aH, aF, aJ) => bif (decide ((aF : Int) < (aJ.length : Int))) then (Zc ((0 : Int) ≤ aF ∧ aF < (aJ.length : Int)) (Zc (Int.toNat aF < aJ.length) (Ye.f k (IntKind.wrap .i64 (aH + 1)) (fun y14 => let J3 := (aJ.modify (Int.toNat aF) fun c => Zq c 0 [.d (.int .i64 aH)]); let J2 := (J3.modify (Int.toNat aF) fun c => Zq c 1 [.d (.str y14)]); let J1 := (J2.modify (Int.toNat aF) fun c => Zq c 2 [.d (.int .i64 (IntKind.wrap .i64 ((IntKind.wrap .i64 (aH + 1)) + 1)))]); Zc ((0 : Int) ≤ aF ∧ aF < (J3.length : Int)) (Zc (Int.toNat aF < J3.length) (Zc ((0 : Int) ≤ aF ∧ aF < (J2.length : Int)) (Zc (Int.toNat aF < J2.length) (Zc ((0 : Int) ≤ aF ∧ aF < (J1.length : Int)) (ZaG J1 (Int.toNat aF) fun c15 => Zas (c15.drop 3) fun c16 r17 => cOwn c16 fun y18 => Yj.f k y18 (IntKind.wrap .i64 ((IntKind.wrap .i64 ((IntKind.wrap .i64 (aH + 1)) + 1)) + 1)) (fun y19 y20 => let J0 := (J1.modify (Int.toNat aF) fun r => r.set 3 (.own y20)); Zc ((0 : Int) ≤ aF ∧ aF < (J0.length : Int)) (ZaG J0 (Int.toNat aF) fun c21 => Zas (c21.drop 4) fun c22 r23 => cOwn c22 fun y24 => r_laws_markValueS y24 y19 (fun y25 y26 => L0 (y25, IntKind.wrap .i64 (aF + 1), J0.modify (Int.toNat aF) fun r => r.set 4 (.own y26)))))))))))))) else (K aH aJ)
noncomputable def Yg.m {β : Type} (k : Nat) (r_laws_markValueS : (List (List C)) → Int → (Int → (List (List C)) → Option β) → Option β) (a0 : List (List C)) (a1 : Int) (K : Int → (List (List C)) → Option β) (F : ((Int × Int × (List (List C))) → Option β)) : Option β :=
  F (a1, 0, a0)
noncomputable def Yg.body {β : Type} (k : Nat) (r_laws_markValueS : (List (List C)) → Int → (Int → (List (List C)) → Option β) → Option β) (a0 : List (List C)) (a1 : Int) (K : Int → (List (List C)) → Option β) : Option β :=
  Zo (Yg.l0 k r_laws_markValueS K) k (a1, 0, a0)
noncomputable def Yg.w {β : Type} (r : (List (List C)) → Int → Option (Int × (List (List C)))) (a0 : List (List C)) (a1 : Int) (K : Int → (List (List C)) → Option β) : Option β := bd2 (r a0 a1) K
noncomputable def Yg.all : Nat → ((List (List C)) → Int → Option (Int × (List (List C))))
  | 0 => (fun _ _ => none)
  | k + 1 => (fun r => (fun a0 a1 => Yg.body k (Yg.w r) a0 a1 (fun z0 z1 => some (z0, z1)))) (Yg.all k)
noncomputable def Yg.t (k : Nat) (a0 : List (List C)) (a1 : Int) : Option (Int × (List (List C))) := (Yg.all k) a0 a1
noncomputable def Yg.f {β : Type} (k : Nat) (a0 : List (List C)) (a1 : Int) (K : Int → (List (List C)) → Option β) : Option β := Yg.w (Yg.t k) a0 a1 K
noncomputable def Yg.g {β : Type} (k : Nat) (a0 : List (List C)) (a1 : Int) (K : Int → (List (List C)) → Option β) : Option β := Yg.body k (Yg.f k) a0 a1 K
theorem Yg.t_succ (k : Nat) (a0 : List (List C)) (a1 : Int) : Yg.t (k + 1) a0 a1 = Yg.g k a0 a1 (fun z0 z1 => some (z0, z1)) := rfl
noncomputable def Yg.e (k : Nat) : Zk := ent [.own false 93 [.o], .d .n] [1] [.n, .o] [3] false (Yg.t k)
noncomputable def Yg.p (k : Nat) : Pro := ⟨Try.prog, [(68, Ye.e k), (69, Yj.e k), (70, Yg.e k)], Zn [(2, kp [0, 5] [(1, .dat false)])] false [], k⟩
noncomputable def Yg.d (k : Nat) (a0 : List (List C)) (a1 : Int) : Ex → St → Option (Int × (List (List C))) := (Yg.p k).fin Try.f70 [.own false [.own a0], .d (.int .i64 a1)] [1] [.n, .o]
noncomputable def Yg.s0 (v : Int × Int × (List (List C))) : St :=
  match v with
  | (aH, aF, aJ) => ZX 49 [(0, .row 0), (1, .d false (.int .i64 aH)), (5, .d true (.int .i64 aF))] [.row (some 0) false 93 aJ]
noncomputable def Yg.r0 (k : Nat) (a0 : List (List C)) (a1 : Int) (n : Nat) (v : Int × Int × (List (List C))) : Option (Int × (List (List C))) := (Yg.p k).lp (Zt Try.f70) 2 [1, 0, 1, 0] (Yg.d k a0 a1) n (Yg.s0 v)
theorem Yg.l0_eq (k : Nat) (a0 : List (List C)) (a1 : Int) : ∀ n v, Yg.r0 k a0 a1 n v = Zo (Yg.l0 k (Yg.f k) (fun z0 z1 => some (z0, z1))) n v :=
  Zm (Yg.s0) _ fun L0 v => by obtain ⟨aH, aF, aJ⟩ := v; kernel_rfl
theorem Yg.oks (k : Nat) : Za Try.prog 70 (Yg.e k) := by
  induction k with
  | zero => exact Z7 Try.func70 (by kernel_rfl) (fun _ _ => rfl)
  | succ k ih => exact Zh (Yg.p k) mix tyok Try.func70 ⟨Ye.ok k, Yj.ok k, ih⟩ (by kernel_rfl) (fun a0 a1 => Eq.trans (b := Yg.m k (Yg.f k) a0 a1 (fun z0 z1 => some (z0, z1)) (Yg.r0 k a0 a1 k)) (by kernel_rfl) ((congrArg (Yg.m k (Yg.f k) a0 a1 (fun z0 z1 => some (z0, z1))) (funext fun v => Yg.l0_eq k a0 a1 k v)).trans (Yg.t_succ k a0 a1).symm))
theorem Yg.ok (k : Nat) : Za Try.prog 70 (Yg.e k) := (Yg.oks k)
set_option maxRecDepth 100000 in
noncomputable def YI.l0 {β : Type} (k : Nat) (K : Int → (List (List C)) → Option β) (L0 : (Int × Int × (List (List C))) → Option β) (v : Int × Int × (List (List C))) : Option β :=
  match v with
  | (aH, aF, aJ) => bif (decide ((aF : Int) < (aJ.length : Int))) then (Zc ((0 : Int) ≤ aF ∧ aF < (aJ.length : Int)) (Zc (Int.toNat aF < aJ.length) (Ye.f k (IntKind.wrap .i64 (aH + 1)) (fun y34 => let J18 := (aJ.modify (Int.toNat aF) fun c => Zq c 0 [.d (.int .i64 aH)]); let J14 := (J18.modify (Int.toNat aF) fun c => Zq c 1 [.d (.str y34)]); let J13 := (J14.modify (Int.toNat aF) fun c => Zq c 2 [.d (.int .i64 (IntKind.wrap .i64 ((IntKind.wrap .i64 (aH + 1)) + 1)))]); let J17 := (IntKind.wrap .i64 ((IntKind.wrap .i64 ((IntKind.wrap .i64 (aH + 1)) + 1)) + 1)); let J12 := (J13.modify (Int.toNat aF) fun c => Zq c 3 [.d (.int .i64 J17)]); let J16 := (IntKind.wrap .i64 (J17 + 1)); let J11 := (J12.modify (Int.toNat aF) fun c => Zq c 4 [.d (.int .i64 J16)]); let J15 := (IntKind.wrap .i64 (J16 + 1)); let J10 := (J11.modify (Int.toNat aF) fun c => Zq c 5 [.d (.bool (((Int.tmod J15 3) : Int) == 0))]); Zc ((0 : Int) ≤ aF ∧ aF < (J18.length : Int)) (Zc (Int.toNat aF < J18.length) (Zc ((0 : Int) ≤ aF ∧ aF < (J14.length : Int)) (Zc (Int.toNat aF < J14.length) (Zc ((0 : Int) ≤ aF ∧ aF < (J13.length : Int)) (Zc (Int.toNat aF < J13.length) (Zc ((0 : Int) ≤ aF ∧ aF < (J12.length : Int)) (Zc (Int.toNat aF < J12.length) (Zc ((3 : Int) ≠ 0) (Zc ((0 : Int) ≤ aF ∧ aF < (J11.length : Int)) (Zc (Int.toNat aF < J11.length) (Zc ((0 : Int) ≤ aF ∧ aF < (J10.length : Int)) (ZaG J10 (Int.toNat aF) fun c35 => Zas (c35.drop 6) fun c36 r37 => cOwn c36 fun y38 => Yj.f k y38 (IntKind.wrap .i64 (J15 + 1)) (fun y39 y40 => let J9 := (J10.modify (Int.toNat aF) fun r => r.set 6 (.own y40)); Zc ((0 : Int) ≤ aF ∧ aF < (J9.length : Int)) (Zc (Int.toNat aF < J9.length) (Ye.f k (IntKind.wrap .i64 (y39 + 1)) (fun y41 => let J8 := (J9.modify (Int.toNat aF) fun c => Zq c 7 [.d (.int .i64 y39)]); let J7 := (J8.modify (Int.toNat aF) fun c => Zq c 8 [.d (.str y41)]); let J6 := (J7.modify (Int.toNat aF) fun c => Zq c 9 [.d (.int .i64 (IntKind.wrap .i64 ((IntKind.wrap .i64 (y39 + 1)) + 1)))]); Zc ((0 : Int) ≤ aF ∧ aF < (J8.length : Int)) (Zc (Int.toNat aF < J8.length) (Zc ((0 : Int) ≤ aF ∧ aF < (J7.length : Int)) (Zc (Int.toNat aF < J7.length) (Zc ((0 : Int) ≤ aF ∧ aF < (J6.length : Int)) (ZaG J6 (Int.toNat aF) fun c42 => Zas (c42.drop 10) fun c43 r44 => cOwn c43 fun y45 => Yj.f k y45 (IntKind.wrap .i64 ((IntKind.wrap .i64 ((IntKind.wrap .i64 (y39 + 1)) + 1)) + 1)) (fun y46 y47 => let J5 := (J6.modify (Int.toNat aF) fun r => r.set 10 (.own y47)); Zc ((0 : Int) ≤ aF ∧ aF < (J5.length : Int)) (ZaG J5 (Int.toNat aF) fun c48 => Zas (c48.drop 11) fun c49 r50 => cOwn c49 fun y51 => Yg.f k y51 y46 (fun y52 y53 => let J4 := (J5.modify (Int.toNat aF) fun r => r.set 11 (.own y53)); Zc ((0 : Int) ≤ aF ∧ aF < (J4.length : Int)) (Zc (Int.toNat aF < J4.length) (Ye.f k (IntKind.wrap .i64 (y52 + 1)) (fun y54 => let J3 := (J4.modify (Int.toNat aF) fun c => Zq c 12 [.d (.int .i64 y52)]); let J2 := (J3.modify (Int.toNat aF) fun c => Zq c 13 [.d (.str y54)]); let J1 := (J2.modify (Int.toNat aF) fun c => Zq c 14 [.d (.int .i64 (IntKind.wrap .i64 ((IntKind.wrap .i64 (y52 + 1)) + 1)))]); Zc ((0 : Int) ≤ aF ∧ aF < (J3.length : Int)) (Zc (Int.toNat aF < J3.length) (Zc ((0 : Int) ≤ aF ∧ aF < (J2.length : Int)) (Zc (Int.toNat aF < J2.length) (Zc ((0 : Int) ≤ aF ∧ aF < (J1.length : Int)) (ZaG J1 (Int.toNat aF) fun c55 => Zas (c55.drop 15) fun c56 r57 => cOwn c56 fun y58 => Yj.f k y58 (IntKind.wrap .i64 ((IntKind.wrap .i64 ((IntKind.wrap .i64 (y52 + 1)) + 1)) + 1)) (fun y59 y60 => let J0 := (J1.modify (Int.toNat aF) fun r => r.set 15 (.own y60)); Zc ((0 : Int) ≤ aF ∧ aF < (J0.length : Int)) (ZaG J0 (Int.toNat aF) fun c61 => Zas (c61.drop 16) fun c62 r63 => cOwn c62 fun y64 => Yg.f k y64 y59 (fun y65 y66 => L0 (y65, IntKind.wrap .i64 (aF + 1), J0.modify (Int.toNat aF) fun r => r.set 16 (.own y66))))))))))))))))))))))))))))))))))))))))) else (K aH aJ)
noncomputable def YI.m {β : Type} (k : Nat) (a0 : List (List C)) (a1 : Int) (K : Int → (List (List C)) → Option β) (F : ((Int × Int × (List (List C))) → Option β)) : Option β :=
  F (a1, 0, a0)
noncomputable def YI.g {β : Type} (k : Nat) (a0 : List (List C)) (a1 : Int) (K : Int → (List (List C)) → Option β) : Option β :=
  Zo (YI.l0 k K) k (a1, 0, a0)
noncomputable def YI.t (k : Nat) (a0 : List (List C)) (a1 : Int) : Option (Int × (List (List C))) := YI.g k a0 a1 (fun z0 z1 => some (z0, z1))
noncomputable def YI.f {β : Type} (k : Nat) (a0 : List (List C)) (a1 : Int) (K : Int → (List (List C)) → Option β) : Option β := bd2 (YI.t k a0 a1) K
noncomputable def YI.e (k : Nat) : Zk := ent [.own false 30 [.o], .d .n] [1] [.n, .o] [3] false (YI.t k)
noncomputable def YI.p (k : Nat) : Pro := ⟨Try.prog, [(68, Ye.e k), (69, Yj.e k), (70, Yg.e k)], Zn [(2, kp [0, 5] [(1, .dat false)])] false [], k⟩
noncomputable def YI.d (k : Nat) (a0 : List (List C)) (a1 : Int) : Ex → St → Option (Int × (List (List C))) := (YI.p k).fin Try.f67 [.own false [.own a0], .d (.int .i64 a1)] [1] [.n, .o]
noncomputable def YI.s0 (v : Int × Int × (List (List C))) : St :=
  match v with
  | (aH, aF, aJ) => ZX 147 [(0, .row 0), (1, .d false (.int .i64 aH)), (5, .d true (.int .i64 aF))] [.row (some 0) false 30 aJ]
noncomputable def YI.r0 (k : Nat) (a0 : List (List C)) (a1 : Int) (n : Nat) (v : Int × Int × (List (List C))) : Option (Int × (List (List C))) := (YI.p k).lp (Zt Try.f67) 2 [1, 0, 1, 0] (YI.d k a0 a1) n (YI.s0 v)
theorem YI.l0_eq (k : Nat) (a0 : List (List C)) (a1 : Int) : ∀ n v, YI.r0 k a0 a1 n v = Zo (YI.l0 k (fun z0 z1 => some (z0, z1))) n v :=
  Zm (YI.s0) _ fun L0 v => by obtain ⟨aH, aF, aJ⟩ := v; kernel_rfl
theorem YI.ok (k : Nat) : Za Try.prog 67 (YI.e k) := Zh (YI.p k) mix tyok Try.func67 ⟨Ye.ok k, Yj.ok k, Yg.ok k⟩ (by kernel_rfl) (fun a0 a1 => Eq.trans (b := YI.m k a0 a1 (fun z0 z1 => some (z0, z1)) (YI.r0 k a0 a1 k)) (by kernel_rfl) (congrArg (YI.m k a0 a1 (fun z0 z1 => some (z0, z1))) (funext fun v => YI.l0_eq k a0 a1 k v)))
set_option maxRecDepth 100000 in
noncomputable def Yu.l0 {β : Type} (k : Nat) (K : Int → (List (List C)) → Option β) (L0 : (Int × Int × (List (List C))) → Option β) (v : Int × Int × (List (List C))) : Option β :=
  match v with
  | (aH, aF, aJ) => bif (decide ((aF : Int) < (aJ.length : Int))) then (let J22 := (aJ.modify (Int.toNat aF) fun c => Zq c 0 [.d (.int .i64 aH)]); let J16 := (J22.modify (Int.toNat aF) fun c => Zq c 1 [.d (.bool (((Int.tmod (IntKind.wrap .i64 (aH + 1)) 3) : Int) == 0))]); let J21 := (IntKind.wrap .i64 ((IntKind.wrap .i64 ((IntKind.wrap .i64 (aH + 1)) + 1)) + 1)); Zc ((0 : Int) ≤ aF ∧ aF < (aJ.length : Int)) (Zc (Int.toNat aF < aJ.length) (Zc ((3 : Int) ≠ 0) (Zc ((0 : Int) ≤ aF ∧ aF < (J22.length : Int)) (Zc (Int.toNat aF < J22.length) (Zc ((0 : Int) ≤ aF ∧ aF < (J16.length : Int)) (Zc (Int.toNat aF < J16.length) (Ye.f k J21 (fun y34 => let J15 := (J16.modify (Int.toNat aF) fun c => Zq c 2 [.d (.int .i64 (IntKind.wrap .i64 ((IntKind.wrap .i64 (aH + 1)) + 1)))]); let J14 := (J15.modify (Int.toNat aF) fun c => Zq c 3 [.d (.str y34)]); let J20 := (IntKind.wrap .i64 (J21 + 1)); let J13 := (J14.modify (Int.toNat aF) fun c => Zq c 4 [.d (.int .i64 J20)]); let J19 := (IntKind.wrap .i64 (J20 + 1)); let J12 := (J13.modify (Int.toNat aF) fun c => Zq c 5 [.d (.int .i64 J19)]); let J18 := (IntKind.wrap .i64 (J19 + 1)); let J11 := (J12.modify (Int.toNat aF) fun c => Zq c 6 [.d (.int .i64 J18)]); let J17 := (IntKind.wrap .i64 (J18 + 1)); let J10 := (J11.modify (Int.toNat aF) fun c => Zq c 7 [.d (.bool (((Int.tmod J17 3) : Int) == 0))]); Zc ((0 : Int) ≤ aF ∧ aF < (J15.length : Int)) (Zc (Int.toNat aF < J15.length) (Zc ((0 : Int) ≤ aF ∧ aF < (J14.length : Int)) (Zc (Int.toNat aF < J14.length) (Zc ((0 : Int) ≤ aF ∧ aF < (J13.length : Int)) (Zc (Int.toNat aF < J13.length) (Zc ((0 : Int) ≤ aF ∧ aF < (J12.length : Int)) (Zc (Int.toNat aF < J12.length) (Zc ((3 : Int) ≠ 0) (Zc ((0 : Int) ≤ aF ∧ aF < (J11.length : Int)) (Zc (Int.toNat aF < J11.length) (Zc ((0 : Int) ≤ aF ∧ aF < (J10.length : Int)) (ZaG J10 (Int.toNat aF) fun c35 => Zas (c35.drop 8) fun c36 r37 => cOwn c36 fun y38 => Yj.f k y38 (IntKind.wrap .i64 (J17 + 1)) (fun y39 y40 => let J9 := (J10.modify (Int.toNat aF) fun r => r.set 8 (.own y40)); Zc ((0 : Int) ≤ aF ∧ aF < (J9.length : Int)) (Zc (Int.toNat aF < J9.length) (Ye.f k (IntKind.wrap .i64 (y39 + 1)) (fun y41 => let J8 := (J9.modify (Int.toNat aF) fun c => Zq c 9 [.d (.int .i64 y39)]); let J7 := (J8.modify (Int.toNat aF) fun c => Zq c 10 [.d (.str y41)]); let J6 := (J7.modify (Int.toNat aF) fun c => Zq c 11 [.d (.int .i64 (IntKind.wrap .i64 ((IntKind.wrap .i64 (y39 + 1)) + 1)))]); Zc ((0 : Int) ≤ aF ∧ aF < (J8.length : Int)) (Zc (Int.toNat aF < J8.length) (Zc ((0 : Int) ≤ aF ∧ aF < (J7.length : Int)) (Zc (Int.toNat aF < J7.length) (Zc ((0 : Int) ≤ aF ∧ aF < (J6.length : Int)) (ZaG J6 (Int.toNat aF) fun c42 => Zas (c42.drop 12) fun c43 r44 => cOwn c43 fun y45 => Yj.f k y45 (IntKind.wrap .i64 ((IntKind.wrap .i64 ((IntKind.wrap .i64 (y39 + 1)) + 1)) + 1)) (fun y46 y47 => let J5 := (J6.modify (Int.toNat aF) fun r => r.set 12 (.own y47)); Zc ((0 : Int) ≤ aF ∧ aF < (J5.length : Int)) (ZaG J5 (Int.toNat aF) fun c48 => Zas (c48.drop 13) fun c49 r50 => cOwn c49 fun y51 => Yg.f k y51 y46 (fun y52 y53 => let J4 := (J5.modify (Int.toNat aF) fun r => r.set 13 (.own y53)); Zc ((0 : Int) ≤ aF ∧ aF < (J4.length : Int)) (Zc (Int.toNat aF < J4.length) (Ye.f k (IntKind.wrap .i64 (y52 + 1)) (fun y54 => let J3 := (J4.modify (Int.toNat aF) fun c => Zq c 14 [.d (.int .i64 y52)]); let J2 := (J3.modify (Int.toNat aF) fun c => Zq c 15 [.d (.str y54)]); let J1 := (J2.modify (Int.toNat aF) fun c => Zq c 16 [.d (.int .i64 (IntKind.wrap .i64 ((IntKind.wrap .i64 (y52 + 1)) + 1)))]); Zc ((0 : Int) ≤ aF ∧ aF < (J3.length : Int)) (Zc (Int.toNat aF < J3.length) (Zc ((0 : Int) ≤ aF ∧ aF < (J2.length : Int)) (Zc (Int.toNat aF < J2.length) (Zc ((0 : Int) ≤ aF ∧ aF < (J1.length : Int)) (ZaG J1 (Int.toNat aF) fun c55 => Zas (c55.drop 17) fun c56 r57 => cOwn c56 fun y58 => Yj.f k y58 (IntKind.wrap .i64 ((IntKind.wrap .i64 ((IntKind.wrap .i64 (y52 + 1)) + 1)) + 1)) (fun y59 y60 => let J0 := (J1.modify (Int.toNat aF) fun r => r.set 17 (.own y60)); Zc ((0 : Int) ≤ aF ∧ aF < (J0.length : Int)) (ZaG J0 (Int.toNat aF) fun c61 => Zas (c61.drop 18) fun c62 r63 => cOwn c62 fun y64 => Yg.f k y64 y59 (fun y65 y66 => L0 (y65, IntKind.wrap .i64 (aF + 1), J0.modify (Int.toNat aF) fun r => r.set 18 (.own y66)))))))))))))))))))))))))))))))))))))))))))))) else (K aH aJ)
noncomputable def Yu.m {β : Type} (k : Nat) (a0 : List (List C)) (a1 : Int) (K : Int → (List (List C)) → Option β) (F : ((Int × Int × (List (List C))) → Option β)) : Option β :=
  F (a1, 0, a0)
noncomputable def Yu.g {β : Type} (k : Nat) (a0 : List (List C)) (a1 : Int) (K : Int → (List (List C)) → Option β) : Option β :=
  Zo (Yu.l0 k K) k (a1, 0, a0)
noncomputable def Yu.t (k : Nat) (a0 : List (List C)) (a1 : Int) : Option (Int × (List (List C))) := Yu.g k a0 a1 (fun z0 z1 => some (z0, z1))
noncomputable def Yu.f {β : Type} (k : Nat) (a0 : List (List C)) (a1 : Int) (K : Int → (List (List C)) → Option β) : Option β := bd2 (Yu.t k a0 a1) K
noncomputable def Yu.e (k : Nat) : Zk := ent [.own false 27 [.o], .d .n] [1] [.n, .o] [3] false (Yu.t k)
noncomputable def Yu.p (k : Nat) : Pro := ⟨Try.prog, [(68, Ye.e k), (69, Yj.e k), (70, Yg.e k)], Zn [(2, kp [0, 5] [(1, .dat false)])] false [], k⟩
noncomputable def Yu.d (k : Nat) (a0 : List (List C)) (a1 : Int) : Ex → St → Option (Int × (List (List C))) := (Yu.p k).fin Try.f17 [.own false [.own a0], .d (.int .i64 a1)] [1] [.n, .o]
noncomputable def Yu.s0 (v : Int × Int × (List (List C))) : St :=
  match v with
  | (aH, aF, aJ) => ZX 180 [(0, .row 0), (1, .d false (.int .i64 aH)), (5, .d true (.int .i64 aF))] [.row (some 0) false 27 aJ]
noncomputable def Yu.r0 (k : Nat) (a0 : List (List C)) (a1 : Int) (n : Nat) (v : Int × Int × (List (List C))) : Option (Int × (List (List C))) := (Yu.p k).lp (Zt Try.f17) 2 [1, 0, 1, 0] (Yu.d k a0 a1) n (Yu.s0 v)
theorem Yu.l0_eq (k : Nat) (a0 : List (List C)) (a1 : Int) : ∀ n v, Yu.r0 k a0 a1 n v = Zo (Yu.l0 k (fun z0 z1 => some (z0, z1))) n v :=
  Zm (Yu.s0) _ fun L0 v => by obtain ⟨aH, aF, aJ⟩ := v; kernel_rfl
theorem Yu.ok (k : Nat) : Za Try.prog 17 (Yu.e k) := Zh (Yu.p k) mix tyok Try.func17 ⟨Ye.ok k, Yj.ok k, Yg.ok k⟩ (by kernel_rfl) (fun a0 a1 => Eq.trans (b := Yu.m k a0 a1 (fun z0 z1 => some (z0, z1)) (Yu.r0 k a0 a1 k)) (by kernel_rfl) (congrArg (Yu.m k a0 a1 (fun z0 z1 => some (z0, z1))) (funext fun v => Yu.l0_eq k a0 a1 k v)))
noncomputable def Yaa.g {β : Type} (k : Nat) (aC : List (List C)) (aB aD : Int) (aA : List (List C)) (a1 : Int) (K : Int → (List (List C)) → (List (List C)) → Option β) : Option β :=
  YI.f k aC a1 (fun y67 y68 => Zc (y68.length = aC.length) (Yu.f k aA y67 (fun y69 y70 => Zc (y70.length = aA.length) (K y69 y68 y70))))
noncomputable def Yaa.t (k : Nat) (aC : List (List C)) (aB aD : Int) (aA : List (List C)) (a1 : Int) : Option (Int × (List (List C)) × (List (List C))) := Yaa.g k aC aB aD aA a1 (fun z0 z1 z2 => some (z0, z1, z2))
noncomputable def Yaa.f {β : Type} (k : Nat) (aC : List (List C)) (aB aD : Int) (aA : List (List C)) (a1 : Int) (K : Int → (List (List C)) → (List (List C)) → Option β) : Option β := bd3 (Yaa.t k aC aB aD aA a1) K
noncomputable def Yaa.e (k : Nat) : Zk := ent [.own true 32 [.o, .n, .n, .o], .d .n] [1] [.n, .o, .o] [3] false (Yaa.t k)
noncomputable def Yaa.p (k : Nat) : Pro := ⟨Try.prog, [(67, YI.e k), (17, Yu.e k)], Zn [] false [], k⟩
theorem Yaa.ok (k : Nat) : Za Try.prog 16 (Yaa.e k) := Zh (Yaa.p k) mix tyok Try.func16 ⟨YI.ok k, Yu.ok k⟩ (by kernel_rfl) (fun aC aB aD aA a1 => by show _ = _; kernel_rfl)
noncomputable def Yl.l0 {β : Type} (k : Nat) (aH : List (List D)) (K : Int → Option β) (L0 : (Int × Int) → Option β) (v : Int × Int) : Option β :=
  match v with
  | (aF, aJ) => bif (decide ((aJ : Int) < (aH.length : Int))) then (atR aH aJ [.s] fun x9 => (Ye.f k aF (fun y10 => bif (!(Zae x9 y10)) then (K (-1)) else (L0 (IntKind.wrap .i64 (aF + 1), IntKind.wrap .i64 (aJ + 1)))))) else (K aF)
noncomputable def Yl.m {β : Type} (k : Nat) (a0 : List (List D)) (a1 : Int) (K : Int → Option β) (F : ((List (List D)) → (Int × Int) → Option β)) : Option β :=
  F a0 (a1, 0)
noncomputable def Yl.g {β : Type} (k : Nat) (a0 : List (List D)) (a1 : Int) (K : Int → Option β) : Option β :=
  Zo (Yl.l0 k a0 K) k (a1, 0)
noncomputable def Yl.t (k : Nat) (a0 : List (List D)) (a1 : Int) : Option (Int) := Yl.g k a0 a1 (fun z0 => some z0)
noncomputable def Yl.f {β : Type} (k : Nat) (a0 : List (List D)) (a1 : Int) (K : Int → Option β) : Option β := bd1 (Yl.t k a0 a1) K
noncomputable def Yl.e (k : Nat) : Zk := ent [.d .l, .d .n] [1] [.n] [3] false (Yl.t k)
noncomputable def Yl.p (k : Nat) : Pro := ⟨Try.prog, [(68, Ye.e k)], Zn [(2, kp [0, 5] [(1, .dat false)])] false [], k⟩
noncomputable def Yl.d (k : Nat) (a0 : List (List D)) (a1 : Int) : Ex → St → Option (Int) := (Yl.p k).fin Try.f71 [.d (.sl a0), .d (.int .i64 a1)] [1] [.n]
noncomputable def Yl.s0 (aH : List (List D)) (v : Int × Int) : St :=
  match v with
  | (aF, aJ) => ZX 22 [(0, .d false (.sl aH)), (1, .d false (.int .i64 aF)), (5, .d true (.int .i64 aJ))] []
noncomputable def Yl.r0 (k : Nat) (a0 : List (List D)) (a1 : Int) (aH : List (List D)) (n : Nat) (v : Int × Int) : Option (Int) := (Yl.p k).lp (Zt Try.f71) 2 [1, 0, 1, 0] (Yl.d k a0 a1) n (Yl.s0 aH v)
theorem Yl.l0_eq (k : Nat) (a0 : List (List D)) (a1 : Int) (aH : List (List D)) : ∀ n v, Yl.r0 k a0 a1 aH n v = Zo (Yl.l0 k aH (fun z0 => some z0)) n v :=
  Zm (Yl.s0 aH) _ fun L0 v => by obtain ⟨aF, aJ⟩ := v; kernel_rfl
theorem Yl.ok (k : Nat) : Za Try.prog 71 (Yl.e k) := Zh (Yl.p k) mix tyok Try.func71 (Ye.ok k) (by kernel_rfl) (fun a0 a1 => Eq.trans (b := Yl.m k a0 a1 (fun z0 => some z0) (fun aH => Yl.r0 k a0 a1 aH k)) (by kernel_rfl) (congrArg (Yl.m k a0 a1 (fun z0 => some z0)) (funext fun aH => funext fun v => Yl.l0_eq k a0 a1 aH k v)))
end Go.Proofs.Ytppfencdbabmeaa
