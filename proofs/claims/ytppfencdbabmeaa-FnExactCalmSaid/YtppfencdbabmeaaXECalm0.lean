/- Printed: the functions that FnExactCalm reaches, read by the evaluator, each with its contract. -/
import Derived.Test.YtppfencdbabmeaaTIns
import Derived.Test.YtppfencdbabmeaaProg
import Derived.KernelRfl
set_option linter.unusedVariables false
set_option linter.unusedSimpArgs false
namespace Go.Proofs.Ytppfencdbabmeaa
open Go Go.T Go.Proofs
theorem mix : Try.prog.follows .mixedOrders = true := by kernel_rfl
theorem tyok : ZaI Try.prog := tyOk_of (by kernel_rfl)
noncomputable def Yu.l0 {β : Type} (k : Nat) (aH : List (List D)) (K : Int → Option β) (L0 : (Int × Int) → Option β) (v : Int × Int) : Option β :=
  match v with
  | (aI, aJ) => bif (decide ((aJ : Int) < (aH.length : Int))) then (atR aH aJ [.s] fun x8 => (bif (decide (((IntKind.wrap .i64 (aI - (x8.size : Int))) : Int) < 0)) then (K (-1)) else (L0 (IntKind.wrap .i64 (aI - (x8.size : Int)), IntKind.wrap .i64 (aJ + 1))))) else (K aI)
noncomputable def Yu.m {β : Type} (k : Nat) (a0 : List (List D)) (a1 : Int) (K : Int → Option β) (F : ((List (List D)) → (Int × Int) → Option β)) : Option β :=
  bif (decide (((IntKind.wrap .i64 (a1 - (a0.length : Int))) : Int) < 0)) then (K (-1)) else (F a0 (IntKind.wrap .i64 (a1 - (a0.length : Int)), 0))
noncomputable def Yu.g {β : Type} (k : Nat) (a0 : List (List D)) (a1 : Int) (K : Int → Option β) : Option β :=
  bif (decide (((IntKind.wrap .i64 (a1 - (a0.length : Int))) : Int) < 0)) then (K (-1)) else (Zo (Yu.l0 k a0 K) k (IntKind.wrap .i64 (a1 - (a0.length : Int)), 0))
noncomputable def Yu.t (k : Nat) (a0 : List (List D)) (a1 : Int) : Option (Int) := Yu.g k a0 a1 (fun z0 => some z0)
noncomputable def Yu.f {β : Type} (k : Nat) (a0 : List (List D)) (a1 : Int) (K : Int → Option β) : Option β := bd1 (Yu.t k a0 a1) K
noncomputable def Yu.e (k : Nat) : Zk := ent [.d .l, .d .n] [1] [.n] [3] false (Yu.t k)
noncomputable def Yu.p (k : Nat) : Pro := ⟨Try.prog, [], Zn [(5, kp [0, 1, 5])] false [], k⟩
noncomputable def Yu.d (k : Nat) (a0 : List (List D)) (a1 : Int) : Ex → St → Option (Int) := (Yu.p k).fin Try.f178 [.d (.sl a0), .d (.int .i64 a1)] [1] [.n]
noncomputable def Yu.s0 (aH : List (List D)) (v : Int × Int) : St :=
  match v with
  | (aI, aJ) => ZX 28 [(0, .d false (.sl aH)), (1, .d true (.int .i64 aI)), (5, .d true (.int .i64 aJ))] []
noncomputable def Yu.r0 (k : Nat) (a0 : List (List D)) (a1 : Int) (aH : List (List D)) (n : Nat) (v : Int × Int) : Option (Int) := (Yu.p k).lp (Zt Try.f178) 5 [1, 1, 1, 0, 1, 0] (Yu.d k a0 a1) n (Yu.s0 aH v)
theorem Yu.l0_eq (k : Nat) (a0 : List (List D)) (a1 : Int) (aH : List (List D)) : ∀ n v, Yu.r0 k a0 a1 aH n v = Zo (Yu.l0 k aH (fun z0 => some z0)) n v :=
  Zm (Yu.s0 aH) _ fun L0 v => by obtain ⟨aI, aJ⟩ := v; kernel_rfl
theorem Yu.ok (k : Nat) : Za Try.prog 178 (Yu.e k) := Zh (Yu.p k) mix tyok Try.func178 trivial (by kernel_rfl) (fun a0 a1 => Eq.trans (b := Yu.m k a0 a1 (fun z0 => some z0) (fun aH => Yu.r0 k a0 a1 aH k)) (by kernel_rfl) (congrArg (Yu.m k a0 a1 (fun z0 => some z0)) (funext fun aH => funext fun v => Yu.l0_eq k a0 a1 aH k v)))
noncomputable def Yn.l0 {β : Type} (k : Nat) (r_laws_szValueS : (List (List D)) → Int → (Int → Option β) → Option β) (r_laws_szValue : Int → ByteArray → Int → (List (List D)) → (List (List D)) → Int → (Int → Option β) → Option β) (aH : List (List D)) (K : Int → Option β) (L0 : (Int × Int) → Option β) (v : Int × Int) : Option β :=
  match v with
  | (aI, aJ) => bif (decide ((aJ : Int) < (aH.length : Int))) then (atR aH aJ [.n, .s, .n, .l, .l] fun x21 x24 x27 x30 x33 => (r_laws_szValue x21 x24 x27 x30 x33 aI (fun y34 => bif (decide ((y34 : Int) < 0)) then (K (-1)) else (L0 (y34, IntKind.wrap .i64 (aJ + 1)))))) else (K aI)
noncomputable def Yn.m {β : Type} (k : Nat) (r_laws_szValueS : (List (List D)) → Int → (Int → Option β) → Option β) (r_laws_szValue : Int → ByteArray → Int → (List (List D)) → (List (List D)) → Int → (Int → Option β) → Option β) (a0 : List (List D)) (a1 : Int) (K : Int → Option β) (F : ((List (List D)) → (Int × Int) → Option β)) : Option β :=
  bif (decide (((IntKind.wrap .i64 (a1 - (a0.length : Int))) : Int) < 0)) then (K (-1)) else (F a0 (IntKind.wrap .i64 (a1 - (a0.length : Int)), 0))
noncomputable def Yn.body {β : Type} (k : Nat) (r_laws_szValueS : (List (List D)) → Int → (Int → Option β) → Option β) (r_laws_szValue : Int → ByteArray → Int → (List (List D)) → (List (List D)) → Int → (Int → Option β) → Option β) (a0 : List (List D)) (a1 : Int) (K : Int → Option β) : Option β :=
  bif (decide (((IntKind.wrap .i64 (a1 - (a0.length : Int))) : Int) < 0)) then (K (-1)) else (Zo (Yn.l0 k r_laws_szValueS r_laws_szValue a0 K) k (IntKind.wrap .i64 (a1 - (a0.length : Int)), 0))
noncomputable def YE.body {β : Type} (k : Nat) (r_laws_szValueS : (List (List D)) → Int → (Int → Option β) → Option β) (r_laws_szValue : Int → ByteArray → Int → (List (List D)) → (List (List D)) → Int → (Int → Option β) → Option β) (aA : Int) (aB : ByteArray) (aF : Int) (aD : List (List D)) (aC : List (List D)) (a1 : Int) (K : Int → Option β) : Option β :=
  bif (decide (((IntKind.wrap .i64 (a1 - (aB.size : Int))) : Int) < 0)) then (K (-1)) else (Yu.f k aD (IntKind.wrap .i64 (a1 - (aB.size : Int))) (fun y9 => bif (decide ((y9 : Int) < 0)) then (K (-1)) else (r_laws_szValueS aC y9 (fun y35 => bif (decide ((y35 : Int) < 0)) then (K (-1)) else (K y35)))))
noncomputable def Yn.w {β : Type} (r : (List (List D)) → Int → Option (Int)) (a0 : List (List D)) (a1 : Int) (K : Int → Option β) : Option β := bd1 (r a0 a1) K
noncomputable def YE.w {β : Type} (r : Int → ByteArray → Int → (List (List D)) → (List (List D)) → Int → Option (Int)) (aA : Int) (aB : ByteArray) (aF : Int) (aD : List (List D)) (aC : List (List D)) (a1 : Int) (K : Int → Option β) : Option β := bd1 (r aA aB aF aD aC a1) K
noncomputable def Yn.all : Nat → ((List (List D)) → Int → Option (Int)) × (Int → ByteArray → Int → (List (List D)) → (List (List D)) → Int → Option (Int))
  | 0 => (fun _ _ => none, fun _ _ _ _ _ _ => none)
  | k + 1 => (fun r => (fun a0 a1 => Yn.body k (Yn.w r.1) (YE.w r.2) a0 a1 (fun z0 => some z0), fun aA aB aF aD aC a1 => YE.body k (Yn.w r.1) (YE.w r.2) aA aB aF aD aC a1 (fun z0 => some z0))) (Yn.all k)
noncomputable def Yn.t (k : Nat) (a0 : List (List D)) (a1 : Int) : Option (Int) := (Yn.all k).1 a0 a1
noncomputable def YE.t (k : Nat) (aA : Int) (aB : ByteArray) (aF : Int) (aD aC : List (List D)) (a1 : Int) : Option (Int) := (Yn.all k).2 aA aB aF aD aC a1
noncomputable def Yn.f {β : Type} (k : Nat) (a0 : List (List D)) (a1 : Int) (K : Int → Option β) : Option β := Yn.w (Yn.t k) a0 a1 K
noncomputable def YE.f {β : Type} (k : Nat) (aA : Int) (aB : ByteArray) (aF : Int) (aD aC : List (List D)) (a1 : Int) (K : Int → Option β) : Option β := YE.w (YE.t k) aA aB aF aD aC a1 K
noncomputable def Yn.g {β : Type} (k : Nat) (a0 : List (List D)) (a1 : Int) (K : Int → Option β) : Option β := Yn.body k (Yn.f k) (YE.f k) a0 a1 K
theorem Yn.t_succ (k : Nat) (a0 : List (List D)) (a1 : Int) : Yn.t (k + 1) a0 a1 = Yn.g k a0 a1 (fun z0 => some z0) := rfl
noncomputable def YE.g {β : Type} (k : Nat) (aA : Int) (aB : ByteArray) (aF : Int) (aD aC : List (List D)) (a1 : Int) (K : Int → Option β) : Option β := YE.body k (Yn.f k) (YE.f k) aA aB aF aD aC a1 K
theorem YE.t_succ (k : Nat) (aA : Int) (aB : ByteArray) (aF : Int) (aD aC : List (List D)) (a1 : Int) : YE.t (k + 1) aA aB aF aD aC a1 = YE.g k aA aB aF aD aC a1 (fun z0 => some z0) := rfl
noncomputable def Yn.e (k : Nat) : Zk := ent [.d .l, .d .n] [1] [.n] [3] false (Yn.t k)
noncomputable def YE.e (k : Nat) : Zk := ent [.agg [.n, .s, .n, .l, .l], .d .n] [1] [.n] [3] false (YE.t k)
noncomputable def Yn.p (k : Nat) : Pro := ⟨Try.prog, [(179, YE.e k)], Zn [(5, kp [0, 1, 5])] false [], k⟩
noncomputable def Yn.d (k : Nat) (a0 : List (List D)) (a1 : Int) : Ex → St → Option (Int) := (Yn.p k).fin Try.f204 [.d (.sl a0), .d (.int .i64 a1)] [1] [.n]
noncomputable def Yn.s0 (aH : List (List D)) (v : Int × Int) : St :=
  match v with
  | (aI, aJ) => ZX 27 [(0, .d false (.sl aH)), (1, .d true (.int .i64 aI)), (5, .d true (.int .i64 aJ))] []
noncomputable def Yn.r0 (k : Nat) (a0 : List (List D)) (a1 : Int) (aH : List (List D)) (n : Nat) (v : Int × Int) : Option (Int) := (Yn.p k).lp (Zt Try.f204) 5 [1, 1, 1, 0, 1, 0] (Yn.d k a0 a1) n (Yn.s0 aH v)
theorem Yn.l0_eq (k : Nat) (a0 : List (List D)) (a1 : Int) (aH : List (List D)) : ∀ n v, Yn.r0 k a0 a1 aH n v = Zo (Yn.l0 k (Yn.f k) (YE.f k) aH (fun z0 => some z0)) n v :=
  Zm (Yn.s0 aH) _ fun L0 v => by obtain ⟨aI, aJ⟩ := v; kernel_rfl
noncomputable def YE.p (k : Nat) : Pro := ⟨Try.prog, [(178, Yu.e k), (204, Yn.e k)], Zn [] false [], k⟩
theorem Yn.oks (k : Nat) : Za Try.prog 204 (Yn.e k) ∧ Za Try.prog 179 (YE.e k) := by
  induction k with
  | zero => exact ⟨Z7 Try.func204 (by kernel_rfl) (fun _ _ => rfl),
    Z7 Try.func179 (by kernel_rfl) (fun _ _ _ _ _ _ => rfl)⟩
  | succ k ih => exact ⟨Zh (Yn.p k) mix tyok Try.func204 ih.2 (by kernel_rfl) (fun a0 a1 => Eq.trans (b := Yn.m k (Yn.f k) (YE.f k) a0 a1 (fun z0 => some z0) (fun aH => Yn.r0 k a0 a1 aH k)) (by kernel_rfl) ((congrArg (Yn.m k (Yn.f k) (YE.f k) a0 a1 (fun z0 => some z0)) (funext fun aH => funext fun v => Yn.l0_eq k a0 a1 aH k v)).trans (Yn.t_succ k a0 a1).symm)),
    Zh (YE.p k) mix tyok Try.func179 ⟨Yu.ok k, ih.1⟩ (by kernel_rfl) (fun aA aB aF aD aC a1 => by show _ = _; kernel_rfl)⟩
theorem YE.ok (k : Nat) : Za Try.prog 179 (YE.e k) := (Yn.oks k).2
noncomputable def Yae.g {β : Type} (k : Nat) (aA aB aF : Int) (aD : ByteArray) (aC : Int) (aX aY : List (List D)) (a1 : Int) (K : Int → Option β) : Option β :=
  YE.f k aF aD aC aX aY a1 (fun y36 => bif (decide ((y36 : Int) < 0)) then (K (-1)) else (K y36))
noncomputable def Yae.t (k : Nat) (aA aB aF : Int) (aD : ByteArray) (aC : Int) (aX aY : List (List D)) (a1 : Int) : Option (Int) := Yae.g k aA aB aF aD aC aX aY a1 (fun z0 => some z0)
noncomputable def Yae.f {β : Type} (k : Nat) (aA aB aF : Int) (aD : ByteArray) (aC : Int) (aX aY : List (List D)) (a1 : Int) (K : Int → Option β) : Option β := bd1 (Yae.t k aA aB aF aD aC aX aY a1) K
noncomputable def Yae.e (k : Nat) : Zk := ent [.agg [.n, .n, .n, .s, .n, .l, .l], .d .n] [1] [.n] [3] false (Yae.t k)
noncomputable def Yae.p (k : Nat) : Pro := ⟨Try.prog, [(179, YE.e k)], Zn [] false [], k⟩
theorem Yae.ok (k : Nat) : Za Try.prog 142 (Yae.e k) := Zh (Yae.p k) mix tyok Try.func142 (YE.ok k) (by kernel_rfl) (fun aA aB aF aD aC aX aY a1 => by show _ = _; kernel_rfl)
noncomputable def YG.l0 {β : Type} (k : Nat) (aH : List (List D)) (K : Int → Option β) (L0 : (Int × Int) → Option β) (v : Int × Int) : Option β :=
  match v with
  | (aI, aJ) => bif (decide ((aJ : Int) < (aH.length : Int))) then (atR aH aJ [.n, .n, .n, .s, .n, .l, .l] fun x41 x44 x47 x50 x53 x56 x59 => (Yae.f k x41 x44 x47 x50 x53 x56 x59 aI (fun y60 => bif (decide ((y60 : Int) < 0)) then (K (-1)) else (L0 (y60, IntKind.wrap .i64 (aJ + 1)))))) else (K aI)
noncomputable def YG.m {β : Type} (k : Nat) (a0 : List (List D)) (a1 : Int) (K : Int → Option β) (F : ((List (List D)) → (Int × Int) → Option β)) : Option β :=
  bif (decide (((IntKind.wrap .i64 (a1 - (a0.length : Int))) : Int) < 0)) then (K (-1)) else (F a0 (IntKind.wrap .i64 (a1 - (a0.length : Int)), 0))
noncomputable def YG.g {β : Type} (k : Nat) (a0 : List (List D)) (a1 : Int) (K : Int → Option β) : Option β :=
  bif (decide (((IntKind.wrap .i64 (a1 - (a0.length : Int))) : Int) < 0)) then (K (-1)) else (Zo (YG.l0 k a0 K) k (IntKind.wrap .i64 (a1 - (a0.length : Int)), 0))
noncomputable def YG.t (k : Nat) (a0 : List (List D)) (a1 : Int) : Option (Int) := YG.g k a0 a1 (fun z0 => some z0)
noncomputable def YG.f {β : Type} (k : Nat) (a0 : List (List D)) (a1 : Int) (K : Int → Option β) : Option β := bd1 (YG.t k a0 a1) K
noncomputable def YG.e (k : Nat) : Zk := ent [.d .l, .d .n] [1] [.n] [3] false (YG.t k)
noncomputable def YG.p (k : Nat) : Pro := ⟨Try.prog, [(142, Yae.e k)], Zn [(5, kp [0, 1, 5])] false [], k⟩
noncomputable def YG.d (k : Nat) (a0 : List (List D)) (a1 : Int) : Ex → St → Option (Int) := (YG.p k).fin Try.f73 [.d (.sl a0), .d (.int .i64 a1)] [1] [.n]
noncomputable def YG.s0 (aH : List (List D)) (v : Int × Int) : St :=
  match v with
  | (aI, aJ) => ZX 27 [(0, .d false (.sl aH)), (1, .d true (.int .i64 aI)), (5, .d true (.int .i64 aJ))] []
noncomputable def YG.r0 (k : Nat) (a0 : List (List D)) (a1 : Int) (aH : List (List D)) (n : Nat) (v : Int × Int) : Option (Int) := (YG.p k).lp (Zt Try.f73) 5 [1, 1, 1, 0, 1, 0] (YG.d k a0 a1) n (YG.s0 aH v)
theorem YG.l0_eq (k : Nat) (a0 : List (List D)) (a1 : Int) (aH : List (List D)) : ∀ n v, YG.r0 k a0 a1 aH n v = Zo (YG.l0 k aH (fun z0 => some z0)) n v :=
  Zm (YG.s0 aH) _ fun L0 v => by obtain ⟨aI, aJ⟩ := v; kernel_rfl
theorem YG.ok (k : Nat) : Za Try.prog 73 (YG.e k) := Zh (YG.p k) mix tyok Try.func73 (Yae.ok k) (by kernel_rfl) (fun a0 a1 => Eq.trans (b := YG.m k a0 a1 (fun z0 => some z0) (fun aH => YG.r0 k a0 a1 aH k)) (by kernel_rfl) (congrArg (YG.m k a0 a1 (fun z0 => some z0)) (funext fun aH => funext fun v => YG.l0_eq k a0 a1 aH k v)))
noncomputable def Yaf.g {β : Type} (k : Nat) (a0 : List (List D)) (a1 : Int) (K : Int → Option β) : Option β :=
  bif (decide (((IntKind.wrap .i64 (a1 - (a0.length : Int))) : Int) < 0)) then (K (-1)) else (K (IntKind.wrap .i64 (a1 - (a0.length : Int))))
noncomputable def Yaf.t (k : Nat) (a0 : List (List D)) (a1 : Int) : Option (Int) := Yaf.g k a0 a1 (fun z0 => some z0)
noncomputable def Yaf.f {β : Type} (k : Nat) (a0 : List (List D)) (a1 : Int) (K : Int → Option β) : Option β := bd1 (Yaf.t k a0 a1) K
noncomputable def Yaf.e (k : Nat) : Zk := ent [.d .l, .d .n] [1] [.n] [3] false (Yaf.t k)
noncomputable def Yaf.p (k : Nat) : Pro := ⟨Try.prog, [], Zn [] false [], k⟩
theorem Yaf.ok (k : Nat) : Za Try.prog 74 (Yaf.e k) := Zh (Yaf.p k) mix tyok Try.func74 trivial (by kernel_rfl) (fun a0 a1 => by show _ = _; kernel_rfl)
noncomputable def Yag.g {β : Type} (k : Nat) (aA : ByteArray) (aB aF : Int) (aD aC : List (List D)) (a1 : Int) (K : Int → Option β) : Option β :=
  bif (decide (((IntKind.wrap .i64 (a1 - (aA.size : Int))) : Int) < 0)) then (K (-1)) else (YG.f k aD (IntKind.wrap .i64 (a1 - (aA.size : Int))) (fun y61 => bif (decide ((y61 : Int) < 0)) then (K (-1)) else (Yaf.f k aC y61 (fun y62 => bif (decide ((y62 : Int) < 0)) then (K (-1)) else (K y62)))))
noncomputable def Yag.t (k : Nat) (aA : ByteArray) (aB aF : Int) (aD aC : List (List D)) (a1 : Int) : Option (Int) := Yag.g k aA aB aF aD aC a1 (fun z0 => some z0)
noncomputable def Yag.f {β : Type} (k : Nat) (aA : ByteArray) (aB aF : Int) (aD aC : List (List D)) (a1 : Int) (K : Int → Option β) : Option β := bd1 (Yag.t k aA aB aF aD aC a1) K
noncomputable def Yag.e (k : Nat) : Zk := ent [.agg [.s, .n, .n, .l, .l], .d .n] [1] [.n] [3] false (Yag.t k)
noncomputable def Yag.p (k : Nat) : Pro := ⟨Try.prog, [(73, YG.e k), (74, Yaf.e k)], Zn [] false [], k⟩
theorem Yag.ok (k : Nat) : Za Try.prog 19 (Yag.e k) := Zh (Yag.p k) mix tyok Try.func19 ⟨YG.ok k, Yaf.ok k⟩ (by kernel_rfl) (fun aA aB aF aD aC a1 => by show _ = _; kernel_rfl)
noncomputable def Yt.l0 {β : Type} (k : Nat) (aH : List (List D)) (K : (List (List C)) → Option β) (L0 : (Int × (List (List C))) → Option β) (v : Int × (List (List C))) : Option β :=
  match v with
  | (aI, aJ) => bif (decide ((aI : Int) < (aH.length : Int))) then (atR aH aI [.s] fun x8 => (Zc ((0 : Int) ≤ aI ∧ aI < (aJ.length : Int)) (Zc (Int.toNat aI < aJ.length) (L0 (IntKind.wrap .i64 (aI + 1), aJ.modify (Int.toNat aI) fun c => Zq c 0 [.d (.str x8)]))))) else (K aJ)
noncomputable def Yt.m {β : Type} (k : Nat) (a0 : List (List D)) (K : (List (List C)) → Option β) (F : ((List (List D)) → (Int × (List (List C))) → Option β)) : Option β :=
  Zc ((0 : Int) ≤ (a0.length : Int) ∧ (a0.length : Int) ≤ (ZN : Int) ∧ (a0.length : Int) ≤ (a0.length : Int) ∧ (a0.length : Int) ≤ (a0.length : Int)) (F a0 (0, List.replicate (Int.toNat (a0.length : Int)) ([.d (.str (⟨#[]⟩ : ByteArray))] : List C)))
noncomputable def Yt.g {β : Type} (k : Nat) (a0 : List (List D)) (K : (List (List C)) → Option β) : Option β :=
  Zc ((0 : Int) ≤ (a0.length : Int) ∧ (a0.length : Int) ≤ (ZN : Int) ∧ (a0.length : Int) ≤ (a0.length : Int) ∧ (a0.length : Int) ≤ (a0.length : Int)) (Zo (Yt.l0 k a0 K) k (0, List.replicate (Int.toNat (a0.length : Int)) ([.d (.str (⟨#[]⟩ : ByteArray))] : List C)))
noncomputable def Yt.t (k : Nat) (a0 : List (List D)) : Option ((List (List C))) := Yt.g k a0 (fun z0 => some z0)
noncomputable def Yt.f {β : Type} (k : Nat) (a0 : List (List D)) (K : (List (List C)) → Option β) : Option β := bd1 (Yt.t k a0) K
noncomputable def Yt.e (k : Nat) : Zk := ent [.d .l] [1] [.o] [74] false (Yt.t k)
noncomputable def Yt.p (k : Nat) : Pro := ⟨Try.prog, [], Zn [(3, kp [0, 3, 4])] false [], k⟩
noncomputable def Yt.d (k : Nat) (a0 : List (List D)) : Ex → St → Option ((List (List C))) := (Yt.p k).fin Try.f183 [.d (.sl a0)] [1] [.o]
noncomputable def Yt.s0 (aH : List (List D)) (v : Int × (List (List C))) : St :=
  match v with
  | (aI, aJ) => ZX 22 [(0, .d false (.sl aH)), (3, .row 0), (4, .d true (.int .i64 aI))] [.row none true 74 aJ]
noncomputable def Yt.r0 (k : Nat) (a0 aH : List (List D)) (n : Nat) (v : Int × (List (List C))) : Option ((List (List C))) := (Yt.p k).lp (Zt Try.f183) 3 [1, 1, 0, 1, 0] (Yt.d k a0) n (Yt.s0 aH v)
theorem Yt.l0_eq (k : Nat) (a0 aH : List (List D)) : ∀ n v, Yt.r0 k a0 aH n v = Zo (Yt.l0 k aH (fun z0 => some z0)) n v :=
  Zm (Yt.s0 aH) _ fun L0 v => by obtain ⟨aI, aJ⟩ := v; kernel_rfl
theorem Yt.ok (k : Nat) : Za Try.prog 183 (Yt.e k) := Zh (Yt.p k) mix tyok Try.func183 trivial (by kernel_rfl) (fun a0 => Eq.trans (b := Yt.m k a0 (fun z0 => some z0) (fun aH => Yt.r0 k a0 aH k)) (by kernel_rfl) (congrArg (Yt.m k a0 (fun z0 => some z0)) (funext fun aH => funext fun v => Yt.l0_eq k a0 aH k v)))
noncomputable def Yl.l0 {β : Type} (k : Nat) (r_laws_toValueS : (List (List D)) → ((List (List C)) → Option β) → Option β) (r_laws_toValue : Int → ByteArray → Int → (List (List D)) → (List (List D)) → (Int → ByteArray → Int → (List (List C)) → (List (List C)) → Option β) → Option β) (aH : List (List D)) (K : (List (List C)) → Option β) (L0 : (Int × (List (List C))) → Option β) (v : Int × (List (List C))) : Option β :=
  match v with
  | (aI, aJ) => bif (decide ((aI : Int) < (aH.length : Int))) then (atR aH aI [.n, .s, .n, .l, .l] fun x25 x28 x31 x34 x37 => (r_laws_toValue x25 x28 x31 x34 x37 (fun y38 y39 y40 y41 y42 => Zc ((0 : Int) ≤ aI ∧ aI < (aJ.length : Int)) (Zc (Int.toNat aI < aJ.length) (L0 (IntKind.wrap .i64 (aI + 1), aJ.modify (Int.toNat aI) fun c => Zq c 0 [.d (.int .i64 y38), .d (.str y39), .d (.int .i64 y40), .own y41, .own y42])))))) else (K aJ)
noncomputable def Yl.m {β : Type} (k : Nat) (r_laws_toValueS : (List (List D)) → ((List (List C)) → Option β) → Option β) (r_laws_toValue : Int → ByteArray → Int → (List (List D)) → (List (List D)) → (Int → ByteArray → Int → (List (List C)) → (List (List C)) → Option β) → Option β) (a0 : List (List D)) (K : (List (List C)) → Option β) (F : ((List (List D)) → (Int × (List (List C))) → Option β)) : Option β :=
  Zc ((0 : Int) ≤ (a0.length : Int) ∧ (a0.length : Int) ≤ (ZN : Int) ∧ (a0.length : Int) ≤ (a0.length : Int) ∧ (a0.length : Int) ≤ (a0.length : Int)) (F a0 (0, List.replicate (Int.toNat (a0.length : Int)) ([.d (.int .i64 0), .d (.str (⟨#[]⟩ : ByteArray)), .d (.int .i64 0), .own ([] : List (List C)), .own ([] : List (List C))] : List C)))
noncomputable def Yl.body {β : Type} (k : Nat) (r_laws_toValueS : (List (List D)) → ((List (List C)) → Option β) → Option β) (r_laws_toValue : Int → ByteArray → Int → (List (List D)) → (List (List D)) → (Int → ByteArray → Int → (List (List C)) → (List (List C)) → Option β) → Option β) (a0 : List (List D)) (K : (List (List C)) → Option β) : Option β := Yl.m k r_laws_toValueS r_laws_toValue a0 K (fun aH => Zo (Yl.l0 k r_laws_toValueS r_laws_toValue aH K) k)
noncomputable def YD.body {β : Type} (k : Nat) (r_laws_toValueS : (List (List D)) → ((List (List C)) → Option β) → Option β) (r_laws_toValue : Int → ByteArray → Int → (List (List D)) → (List (List D)) → (Int → ByteArray → Int → (List (List C)) → (List (List C)) → Option β) → Option β) (aA : Int) (aB : ByteArray) (aF : Int) (aD : List (List D)) (aC : List (List D)) (K : Int → ByteArray → Int → (List (List C)) → (List (List C)) → Option β) : Option β :=
  Yt.f k aD (fun y9 => r_laws_toValueS aC (fun y43 => K aA aB aF y9 y43))
noncomputable def Yl.w {β : Type} (r : (List (List D)) → Option ((List (List C)))) (a0 : List (List D)) (K : (List (List C)) → Option β) : Option β := bd1 (r a0) K
noncomputable def YD.w {β : Type} (r : Int → ByteArray → Int → (List (List D)) → (List (List D)) → Option (Int × ByteArray × Int × (List (List C)) × (List (List C)))) (aA : Int) (aB : ByteArray) (aF : Int) (aD : List (List D)) (aC : List (List D)) (K : Int → ByteArray → Int → (List (List C)) → (List (List C)) → Option β) : Option β := bd5 (r aA aB aF aD aC) K
noncomputable def Yl.all : Nat → ((List (List D)) → Option ((List (List C)))) × (Int → ByteArray → Int → (List (List D)) → (List (List D)) → Option (Int × ByteArray × Int × (List (List C)) × (List (List C))))
  | 0 => (fun _ => none, fun _ _ _ _ _ => none)
  | k + 1 => (fun r => (fun a0 => Yl.body k (Yl.w r.1) (YD.w r.2) a0 (fun z0 => some z0), fun aA aB aF aD aC => YD.body k (Yl.w r.1) (YD.w r.2) aA aB aF aD aC (fun z0 z1 z2 z3 z4 => some (z0, z1, z2, z3, z4)))) (Yl.all k)
noncomputable def Yl.t (k : Nat) (a0 : List (List D)) : Option ((List (List C))) := (Yl.all k).1 a0
noncomputable def YD.t (k : Nat) (aA : Int) (aB : ByteArray) (aF : Int) (aD aC : List (List D)) : Option (Int × ByteArray × Int × (List (List C)) × (List (List C))) := (Yl.all k).2 aA aB aF aD aC
noncomputable def Yl.f {β : Type} (k : Nat) (a0 : List (List D)) (K : (List (List C)) → Option β) : Option β := Yl.w (Yl.t k) a0 K
noncomputable def YD.f {β : Type} (k : Nat) (aA : Int) (aB : ByteArray) (aF : Int) (aD aC : List (List D)) (K : Int → ByteArray → Int → (List (List C)) → (List (List C)) → Option β) : Option β := YD.w (YD.t k) aA aB aF aD aC K
noncomputable def Yl.g {β : Type} (k : Nat) (a0 : List (List D)) (K : (List (List C)) → Option β) : Option β := Yl.body k (Yl.f k) (YD.f k) a0 K
theorem Yl.t_succ (k : Nat) (a0 : List (List D)) : Yl.t (k + 1) a0 = Yl.g k a0 (fun z0 => some z0) := rfl
noncomputable def YD.g {β : Type} (k : Nat) (aA : Int) (aB : ByteArray) (aF : Int) (aD aC : List (List D)) (K : Int → ByteArray → Int → (List (List C)) → (List (List C)) → Option β) : Option β := YD.body k (Yl.f k) (YD.f k) aA aB aF aD aC K
theorem YD.t_succ (k : Nat) (aA : Int) (aB : ByteArray) (aF : Int) (aD aC : List (List D)) : YD.t (k + 1) aA aB aF aD aC = YD.g k aA aB aF aD aC (fun z0 z1 z2 z3 z4 => some (z0, z1, z2, z3, z4)) := rfl
noncomputable def Yl.e (k : Nat) : Zk := ent [.d .l] [1] [.o] [93] false (Yl.t k)
noncomputable def YD.e (k : Nat) : Zk := ent [.agg [.n, .s, .n, .l, .l]] [5] [.n, .s, .n, .o, .o] [95] false (YD.t k)
noncomputable def Yl.p (k : Nat) : Pro := ⟨Try.prog, [(184, YD.e k)], Zn [(3, kp [0, 3, 4])] false [], k⟩
noncomputable def Yl.d (k : Nat) (a0 : List (List D)) : Ex → St → Option ((List (List C))) := (Yl.p k).fin Try.f206 [.d (.sl a0)] [1] [.o]
noncomputable def Yl.s0 (aH : List (List D)) (v : Int × (List (List C))) : St :=
  match v with
  | (aI, aJ) => ZX 23 [(0, .d false (.sl aH)), (3, .row 0), (4, .d true (.int .i64 aI))] [.row none true 93 aJ]
noncomputable def Yl.r0 (k : Nat) (a0 aH : List (List D)) (n : Nat) (v : Int × (List (List C))) : Option ((List (List C))) := (Yl.p k).lp (Zt Try.f206) 3 [1, 1, 0, 1, 0] (Yl.d k a0) n (Yl.s0 aH v)
theorem Yl.l0_eq (k : Nat) (a0 aH : List (List D)) : ∀ n v, Yl.r0 k a0 aH n v = Zo (Yl.l0 k (Yl.f k) (YD.f k) aH (fun z0 => some z0)) n v :=
  Zm (Yl.s0 aH) _ fun L0 v => by obtain ⟨aI, aJ⟩ := v; kernel_rfl
noncomputable def YD.p (k : Nat) : Pro := ⟨Try.prog, [(183, Yt.e k), (206, Yl.e k)], Zn [] false [], k⟩
theorem Yl.oks (k : Nat) : Za Try.prog 206 (Yl.e k) ∧ Za Try.prog 184 (YD.e k) := by
  induction k with
  | zero => exact ⟨Z7 Try.func206 (by kernel_rfl) (fun _ => rfl),
    Z7 Try.func184 (by kernel_rfl) (fun _ _ _ _ _ => rfl)⟩
  | succ k ih => exact ⟨Zh (Yl.p k) mix tyok Try.func206 ih.2 (by kernel_rfl) (fun a0 => Eq.trans (b := Yl.m k (Yl.f k) (YD.f k) a0 (fun z0 => some z0) (fun aH => Yl.r0 k a0 aH k)) (by kernel_rfl) ((congrArg (Yl.m k (Yl.f k) (YD.f k) a0 (fun z0 => some z0)) (funext fun aH => funext fun v => Yl.l0_eq k a0 aH k v)).trans (Yl.t_succ k a0).symm)),
    Zh (YD.p k) mix tyok Try.func184 ⟨Yt.ok k, ih.1⟩ (by kernel_rfl) (fun aA aB aF aD aC => by show _ = _; kernel_rfl)⟩
theorem YD.ok (k : Nat) : Za Try.prog 184 (YD.e k) := (Yl.oks k).2
noncomputable def Y6.g {β : Type} (k : Nat) (aA aB aF : Int) (aD : ByteArray) (aC : Int) (aX aY : List (List D)) (K : Int → Int → Int → ByteArray → Int → (List (List C)) → (List (List C)) → Option β) : Option β :=
  YD.f k aF aD aC aX aY (fun y44 y45 y46 y47 y48 => K aA aB y44 y45 y46 y47 y48)
noncomputable def Y6.t (k : Nat) (aA aB aF : Int) (aD : ByteArray) (aC : Int) (aX aY : List (List D)) : Option (Int × Int × Int × ByteArray × Int × (List (List C)) × (List (List C))) := Y6.g k aA aB aF aD aC aX aY (fun z0 z1 z2 z3 z4 z5 z6 => some (z0, z1, z2, z3, z4, z5, z6))
noncomputable def Y6.f {β : Type} (k : Nat) (aA aB aF : Int) (aD : ByteArray) (aC : Int) (aX aY : List (List D)) (K : Int → Int → Int → ByteArray → Int → (List (List C)) → (List (List C)) → Option β) : Option β := match Y6.t k aA aB aF aD aC aX aY with | some (z0, z1, z2, z3, z4, z5, z6) => K z0 z1 z2 z3 z4 z5 z6 | none => none
noncomputable def Y6.e (k : Nat) : Zk := ent [.agg [.n, .n, .n, .s, .n, .l, .l]] [7] [.n, .n, .n, .s, .n, .o, .o] [121] false (Y6.t k)
noncomputable def Y6.p (k : Nat) : Pro := ⟨Try.prog, [(184, YD.e k)], Zn [] false [], k⟩
theorem Y6.ok (k : Nat) : Za Try.prog 147 (Y6.e k) := Zh (Y6.p k) mix tyok Try.func147 (YD.ok k) (by kernel_rfl) (fun aA aB aF aD aC aX aY => by show _ = _; kernel_rfl)
noncomputable def YB.l0 {β : Type} (k : Nat) (aH : List (List D)) (K : (List (List C)) → Option β) (L0 : (Int × (List (List C))) → Option β) (v : Int × (List (List C))) : Option β :=
  match v with
  | (aI, aJ) => bif (decide ((aI : Int) < (aH.length : Int))) then (atR aH aI [.n, .n, .n, .s, .n, .l, .l] fun x59 x62 x65 x68 x71 x74 x77 => (Y6.f k x59 x62 x65 x68 x71 x74 x77 (fun y78 y79 y80 y81 y82 y83 y84 => Zc ((0 : Int) ≤ aI ∧ aI < (aJ.length : Int)) (Zc (Int.toNat aI < aJ.length) (L0 (IntKind.wrap .i64 (aI + 1), aJ.modify (Int.toNat aI) fun c => Zq c 0 [.d (.int .i64 y78), .d (.int .i64 y79), .d (.int .i64 y80), .d (.str y81), .d (.int .i64 y82), .own y83, .own y84])))))) else (K aJ)
noncomputable def YB.m {β : Type} (k : Nat) (a0 : List (List D)) (K : (List (List C)) → Option β) (F : ((List (List D)) → (Int × (List (List C))) → Option β)) : Option β :=
  Zc ((0 : Int) ≤ (a0.length : Int) ∧ (a0.length : Int) ≤ (ZN : Int) ∧ (a0.length : Int) ≤ (a0.length : Int) ∧ (a0.length : Int) ≤ (a0.length : Int)) (F a0 (0, List.replicate (Int.toNat (a0.length : Int)) ([.d (.int .i64 0), .d (.int .i64 0), .d (.int .i64 0), .d (.str (⟨#[]⟩ : ByteArray)), .d (.int .i64 0), .own ([] : List (List C)), .own ([] : List (List C))] : List C)))
noncomputable def YB.g {β : Type} (k : Nat) (a0 : List (List D)) (K : (List (List C)) → Option β) : Option β := YB.m k a0 K (fun aH => Zo (YB.l0 k aH K) k)
noncomputable def YB.t (k : Nat) (a0 : List (List D)) : Option ((List (List C))) := YB.g k a0 (fun z0 => some z0)
noncomputable def YB.f {β : Type} (k : Nat) (a0 : List (List D)) (K : (List (List C)) → Option β) : Option β := bd1 (YB.t k a0) K
noncomputable def YB.e (k : Nat) : Zk := ent [.d .l] [1] [.o] [44] false (YB.t k)
noncomputable def YB.p (k : Nat) : Pro := ⟨Try.prog, [(147, Y6.e k)], Zn [(3, kp [0, 3, 4])] false [], k⟩
noncomputable def YB.d (k : Nat) (a0 : List (List D)) : Ex → St → Option ((List (List C))) := (YB.p k).fin Try.f81 [.d (.sl a0)] [1] [.o]
noncomputable def YB.s0 (aH : List (List D)) (v : Int × (List (List C))) : St :=
  match v with
  | (aI, aJ) => ZX 23 [(0, .d false (.sl aH)), (3, .row 0), (4, .d true (.int .i64 aI))] [.row none true 44 aJ]
noncomputable def YB.r0 (k : Nat) (a0 aH : List (List D)) (n : Nat) (v : Int × (List (List C))) : Option ((List (List C))) := (YB.p k).lp (Zt Try.f81) 3 [1, 1, 0, 1, 0] (YB.d k a0) n (YB.s0 aH v)
theorem YB.l0_eq (k : Nat) (a0 aH : List (List D)) : ∀ n v, YB.r0 k a0 aH n v = Zo (YB.l0 k aH (fun z0 => some z0)) n v :=
  Zm (YB.s0 aH) _ fun L0 v => by obtain ⟨aI, aJ⟩ := v; kernel_rfl
theorem YB.ok (k : Nat) : Za Try.prog 81 (YB.e k) := Zh (YB.p k) mix tyok Try.func81 (Y6.ok k) (by kernel_rfl) (fun a0 => Eq.trans (b := YB.m k a0 (fun z0 => some z0) (fun aH => YB.r0 k a0 aH k)) (by kernel_rfl) (congrArg (YB.m k a0 (fun z0 => some z0)) (funext fun aH => funext fun v => YB.l0_eq k a0 aH k v)))
noncomputable def Yak.g {β : Type} (k : Nat) (aA aB : Int) (K : Int → Int → Option β) : Option β :=
  K aA aB
noncomputable def Yak.t (k : Nat) (aA aB : Int) : Option (Int × Int) := Yak.g k aA aB (fun z0 z1 => some (z0, z1))
noncomputable def Yak.f {β : Type} (k : Nat) (aA aB : Int) (K : Int → Int → Option β) : Option β := bd2 (Yak.t k aA aB) K
noncomputable def Yak.e (k : Nat) : Zk := ent [.agg [.n, .n]] [2] [.n, .n] [116] false (Yak.t k)
noncomputable def Yak.p (k : Nat) : Pro := ⟨Try.prog, [], Zn [] false [], k⟩
theorem Yak.ok (k : Nat) : Za Try.prog 148 (Yak.e k) := Zh (Yak.p k) mix tyok Try.func148 trivial (by kernel_rfl) (fun aA aB => by show _ = _; kernel_rfl)
noncomputable def YO.l0 {β : Type} (k : Nat) (aH : List (List D)) (K : (List (List C)) → Option β) (L0 : (Int × (List (List C))) → Option β) (v : Int × (List (List C))) : Option β :=
  match v with
  | (aI, aJ) => bif (decide ((aI : Int) < (aH.length : Int))) then (atR aH aI [.n, .n] fun x13 x16 => (Yak.f k x13 x16 (fun y17 y18 => Zc ((0 : Int) ≤ aI ∧ aI < (aJ.length : Int)) (Zc (Int.toNat aI < aJ.length) (L0 (IntKind.wrap .i64 (aI + 1), aJ.modify (Int.toNat aI) fun c => Zq c 0 [.d (.int .i64 y17), .d (.int .i64 y18)])))))) else (K aJ)
noncomputable def YO.m {β : Type} (k : Nat) (a0 : List (List D)) (K : (List (List C)) → Option β) (F : ((List (List D)) → (Int × (List (List C))) → Option β)) : Option β :=
  Zc ((0 : Int) ≤ (a0.length : Int) ∧ (a0.length : Int) ≤ (ZN : Int) ∧ (a0.length : Int) ≤ (a0.length : Int) ∧ (a0.length : Int) ≤ (a0.length : Int)) (F a0 (0, List.replicate (Int.toNat (a0.length : Int)) ([.d (.int .i64 0), .d (.int .i64 0)] : List C)))
noncomputable def YO.g {β : Type} (k : Nat) (a0 : List (List D)) (K : (List (List C)) → Option β) : Option β :=
  Zc ((0 : Int) ≤ (a0.length : Int) ∧ (a0.length : Int) ≤ (ZN : Int) ∧ (a0.length : Int) ≤ (a0.length : Int) ∧ (a0.length : Int) ≤ (a0.length : Int)) (Zo (YO.l0 k a0 K) k (0, List.replicate (Int.toNat (a0.length : Int)) ([.d (.int .i64 0), .d (.int .i64 0)] : List C)))
noncomputable def YO.t (k : Nat) (a0 : List (List D)) : Option ((List (List C))) := YO.g k a0 (fun z0 => some z0)
noncomputable def YO.f {β : Type} (k : Nat) (a0 : List (List D)) (K : (List (List C)) → Option β) : Option β := bd1 (YO.t k a0) K
noncomputable def YO.e (k : Nat) : Zk := ent [.d .l] [1] [.o] [45] false (YO.t k)
noncomputable def YO.p (k : Nat) : Pro := ⟨Try.prog, [(148, Yak.e k)], Zn [(3, kp [0, 3, 4])] false [], k⟩
noncomputable def YO.d (k : Nat) (a0 : List (List D)) : Ex → St → Option ((List (List C))) := (YO.p k).fin Try.f82 [.d (.sl a0)] [1] [.o]
noncomputable def YO.s0 (aH : List (List D)) (v : Int × (List (List C))) : St :=
  match v with
  | (aI, aJ) => ZX 23 [(0, .d false (.sl aH)), (3, .row 0), (4, .d true (.int .i64 aI))] [.row none true 45 aJ]
noncomputable def YO.r0 (k : Nat) (a0 aH : List (List D)) (n : Nat) (v : Int × (List (List C))) : Option ((List (List C))) := (YO.p k).lp (Zt Try.f82) 3 [1, 1, 0, 1, 0] (YO.d k a0) n (YO.s0 aH v)
theorem YO.l0_eq (k : Nat) (a0 aH : List (List D)) : ∀ n v, YO.r0 k a0 aH n v = Zo (YO.l0 k aH (fun z0 => some z0)) n v :=
  Zm (YO.s0 aH) _ fun L0 v => by obtain ⟨aI, aJ⟩ := v; kernel_rfl
theorem YO.ok (k : Nat) : Za Try.prog 82 (YO.e k) := Zh (YO.p k) mix tyok Try.func82 (Yak.ok k) (by kernel_rfl) (fun a0 => Eq.trans (b := YO.m k a0 (fun z0 => some z0) (fun aH => YO.r0 k a0 aH k)) (by kernel_rfl) (congrArg (YO.m k a0 (fun z0 => some z0)) (funext fun aH => funext fun v => YO.l0_eq k a0 aH k v)))
noncomputable def Y4.g {β : Type} (k : Nat) (aA : ByteArray) (aB aF : Int) (aD aC : List (List D)) (K : ByteArray → Int → Int → (List (List C)) → (List (List C)) → Option β) : Option β :=
  YB.f k aD (fun y85 => YO.f k aC (fun y86 => K aA aB aF y85 y86))
noncomputable def Y4.t (k : Nat) (aA : ByteArray) (aB aF : Int) (aD aC : List (List D)) : Option (ByteArray × Int × Int × (List (List C)) × (List (List C))) := Y4.g k aA aB aF aD aC (fun z0 z1 z2 z3 z4 => some (z0, z1, z2, z3, z4))
noncomputable def Y4.f {β : Type} (k : Nat) (aA : ByteArray) (aB aF : Int) (aD aC : List (List D)) (K : ByteArray → Int → Int → (List (List C)) → (List (List C)) → Option β) : Option β := bd5 (Y4.t k aA aB aF aD aC) K
noncomputable def Y4.e (k : Nat) : Zk := ent [.agg [.s, .n, .n, .l, .l]] [5] [.s, .n, .n, .o, .o] [47] false (Y4.t k)
noncomputable def Y4.p (k : Nat) : Pro := ⟨Try.prog, [(81, YB.e k), (82, YO.e k)], Zn [] false [], k⟩
theorem Y4.ok (k : Nat) : Za Try.prog 21 (Y4.e k) := Zh (Y4.p k) mix tyok Try.func21 ⟨YB.ok k, YO.ok k⟩ (by kernel_rfl) (fun aA aB aF aD aC => by show _ = _; kernel_rfl)
noncomputable def Yr.l0 {β : Type} (k : Nat) (r_spec_l4Copy : Int → ByteArray → Int → (List (List D)) → (List (List D)) → (Int → ByteArray → Int → (List (List C)) → (List (List C)) → Option β) → Option β) (aI : Int) (aJ : ByteArray) (aK : Int) (aL : List (List D)) (aM : List (List D)) (aN : Int) (aO : ByteArray) (aQ : Int) (aP : Int) (aT : ByteArray) (aR : Int) (aU : List (List C)) (K : Int → ByteArray → Int → (List (List C)) → (List (List C)) → Option β) (L0 : (Int × (List (List C))) → Option β) (v : Int × (List (List C))) : Option β :=
  match v with
  | (aH, aZ) => bif (decide ((aH : Int) < (aM.length : Int))) then (atR aM aH [.n, .s, .n, .l, .l] fun x25 x28 x31 x34 x37 => (r_spec_l4Copy x25 x28 x31 x34 x37 (fun y38 y39 y40 y41 y42 => Zc (aZ.length + ([[.d (.int .i64 y38), .d (.str y39), .d (.int .i64 y40), .own y41, .own y42]] : List (List C)).length ≤ ZN) (L0 (IntKind.wrap .i64 (aH + 1), aZ ++ ([[.d (.int .i64 y38), .d (.str y39), .d (.int .i64 y40), .own y41, .own y42]] : List (List C))))))) else (K aP aT aR aU aZ)
noncomputable def Yr.m {β : Type} (k : Nat) (r_spec_l4Copy : Int → ByteArray → Int → (List (List D)) → (List (List D)) → (Int → ByteArray → Int → (List (List C)) → (List (List C)) → Option β) → Option β) (aA : Int) (aB : ByteArray) (aF : Int) (aD : List (List D)) (aC : List (List D)) (K : Int → ByteArray → Int → (List (List C)) → (List (List C)) → Option β) (F : (Int → ByteArray → Int → (List (List D)) → (List (List D)) → Int → ByteArray → Int → Int → ByteArray → Int → (List (List C)) → (Int × (List (List C))) → Option β)) : Option β :=
  Zc (ZaZ 1 aD) (Zc (([] : List (List C)).length + (aD.map (·.map C.d)).length ≤ ZN) (F aA aB aF aD aC 0 (⟨#[]⟩ : ByteArray) 0 aA aB aF (([] : List (List C)) ++ (aD.map (·.map C.d))) (0, ([] : List (List C)))))
noncomputable def Yr.body {β : Type} (k : Nat) (r_spec_l4Copy : Int → ByteArray → Int → (List (List D)) → (List (List D)) → (Int → ByteArray → Int → (List (List C)) → (List (List C)) → Option β) → Option β) (aA : Int) (aB : ByteArray) (aF : Int) (aD : List (List D)) (aC : List (List D)) (K : Int → ByteArray → Int → (List (List C)) → (List (List C)) → Option β) : Option β :=
  Zc (ZaZ 1 aD) (Zc (([] : List (List C)).length + (aD.map (·.map C.d)).length ≤ ZN) (Zo (Yr.l0 k r_spec_l4Copy aA aB aF aD aC 0 (⟨#[]⟩ : ByteArray) 0 aA aB aF (([] : List (List C)) ++ (aD.map (·.map C.d))) K) k (0, ([] : List (List C)))))
noncomputable def Yr.w {β : Type} (r : Int → ByteArray → Int → (List (List D)) → (List (List D)) → Option (Int × ByteArray × Int × (List (List C)) × (List (List C)))) (aA : Int) (aB : ByteArray) (aF : Int) (aD : List (List D)) (aC : List (List D)) (K : Int → ByteArray → Int → (List (List C)) → (List (List C)) → Option β) : Option β := bd5 (r aA aB aF aD aC) K
noncomputable def Yr.all : Nat → (Int → ByteArray → Int → (List (List D)) → (List (List D)) → Option (Int × ByteArray × Int × (List (List C)) × (List (List C))))
  | 0 => (fun _ _ _ _ _ => none)
  | k + 1 => (fun r => (fun aA aB aF aD aC => Yr.body k (Yr.w r) aA aB aF aD aC (fun z0 z1 z2 z3 z4 => some (z0, z1, z2, z3, z4)))) (Yr.all k)
noncomputable def Yr.t (k : Nat) (aA : Int) (aB : ByteArray) (aF : Int) (aD aC : List (List D)) : Option (Int × ByteArray × Int × (List (List C)) × (List (List C))) := (Yr.all k) aA aB aF aD aC
noncomputable def Yr.f {β : Type} (k : Nat) (aA : Int) (aB : ByteArray) (aF : Int) (aD aC : List (List D)) (K : Int → ByteArray → Int → (List (List C)) → (List (List C)) → Option β) : Option β := Yr.w (Yr.t k) aA aB aF aD aC K
noncomputable def Yr.g {β : Type} (k : Nat) (aA : Int) (aB : ByteArray) (aF : Int) (aD aC : List (List D)) (K : Int → ByteArray → Int → (List (List C)) → (List (List C)) → Option β) : Option β := Yr.body k (Yr.f k) aA aB aF aD aC K
theorem Yr.t_succ (k : Nat) (aA : Int) (aB : ByteArray) (aF : Int) (aD aC : List (List D)) : Yr.t (k + 1) aA aB aF aD aC = Yr.g k aA aB aF aD aC (fun z0 z1 z2 z3 z4 => some (z0, z1, z2, z3, z4)) := rfl
noncomputable def Yr.e (k : Nat) : Zk := ent [.agg [.n, .s, .n, .l, .l]] [5] [.n, .s, .n, .o, .o] [95] false (Yr.t k)
noncomputable def Yr.p (k : Nat) : Pro := ⟨Try.prog, [(182, Yr.e k)], Zn [(3, kp [1, 2, 3, 4] [] [(3, 4, .row true 93)])] false [], k⟩
noncomputable def Yr.d (k : Nat) (aA : Int) (aB : ByteArray) (aF : Int) (aD aC : List (List D)) : Ex → St → Option (Int × ByteArray × Int × (List (List C)) × (List (List C))) := (Yr.p k).fin Try.f182 [.agg [.int .i64 aA, .str aB, .int .i64 aF, .sl aD, .sl aC]] [5] [.n, .s, .n, .o, .o]
noncomputable def Yr.s0 (aI : Int) (aJ : ByteArray) (aK : Int) (aL aM : List (List D)) (aN : Int) (aO : ByteArray) (aQ aP : Int) (aT : ByteArray) (aR : Int) (aU : List (List C)) (v : Int × (List (List C))) : St :=
  match v with
  | (aH, aZ) => ZX 35 [(1, .bp 0 0), (2, .bp 1 0), (3, .bp 2 0), (4, .d true (.int .i64 aH))] [.box none 95 [.d false (.int .i64 aI), .d false (.str aJ), .d false (.int .i64 aK), .d false (.sl aL), .d false (.sl aM)], .box none 95 [.d true (.int .i64 aN), .d true (.str aO), .d true (.int .i64 aQ), .nil, .nil], .box none 95 [.d false (.int .i64 aP), .d false (.str aT), .d false (.int .i64 aR), .row 3, .row 4], .row none true 74 aU, .row none true 93 aZ]
noncomputable def Yr.r0 (k : Nat) (aA : Int) (aB : ByteArray) (aF : Int) (aD aC : List (List D)) (aI : Int) (aJ : ByteArray) (aK : Int) (aL aM : List (List D)) (aN : Int) (aO : ByteArray) (aQ aP : Int) (aT : ByteArray) (aR : Int) (aU : List (List C)) (n : Nat) (v : Int × (List (List C))) : Option (Int × ByteArray × Int × (List (List C)) × (List (List C))) := (Yr.p k).lp (Zt Try.f182) 3 [1, 1, 0, 1, 0] (Yr.d k aA aB aF aD aC) n (Yr.s0 aI aJ aK aL aM aN aO aQ aP aT aR aU v)
theorem Yr.l0_eq (k : Nat) (aA : Int) (aB : ByteArray) (aF : Int) (aD aC : List (List D)) (aI : Int) (aJ : ByteArray) (aK : Int) (aL aM : List (List D)) (aN : Int) (aO : ByteArray) (aQ aP : Int) (aT : ByteArray) (aR : Int) (aU : List (List C)) : ∀ n v, Yr.r0 k aA aB aF aD aC aI aJ aK aL aM aN aO aQ aP aT aR aU n v = Zo (Yr.l0 k (Yr.f k) aI aJ aK aL aM aN aO aQ aP aT aR aU (fun z0 z1 z2 z3 z4 => some (z0, z1, z2, z3, z4))) n v :=
  Zm (Yr.s0 aI aJ aK aL aM aN aO aQ aP aT aR aU) _ fun L0 v => by obtain ⟨aH, aZ⟩ := v; kernel_rfl
theorem Yr.oks (k : Nat) : Za Try.prog 182 (Yr.e k) := by
  induction k with
  | zero => exact Z7 Try.func182 (by kernel_rfl) (fun _ _ _ _ _ => rfl)
  | succ k ih => exact Zh (Yr.p k) mix tyok Try.func182 ih (by kernel_rfl) (fun aA aB aF aD aC => Eq.trans (b := Yr.m k (Yr.f k) aA aB aF aD aC (fun z0 z1 z2 z3 z4 => some (z0, z1, z2, z3, z4)) (fun aI aJ aK aL aM aN aO aQ aP aT aR aU => Yr.r0 k aA aB aF aD aC aI aJ aK aL aM aN aO aQ aP aT aR aU k)) (by kernel_rfl) ((congrArg (Yr.m k (Yr.f k) aA aB aF aD aC (fun z0 z1 z2 z3 z4 => some (z0, z1, z2, z3, z4))) (funext fun aI => funext fun aJ => funext fun aK => funext fun aL => funext fun aM => funext fun aN => funext fun aO => funext fun aQ => funext fun aP => funext fun aT => funext fun aR => funext fun aU => funext fun v => Yr.l0_eq k aA aB aF aD aC aI aJ aK aL aM aN aO aQ aP aT aR aU k v)).trans (Yr.t_succ k aA aB aF aD aC).symm))
theorem Yr.ok (k : Nat) : Za Try.prog 182 (Yr.e k) := (Yr.oks k)
noncomputable def YA.l0 {β : Type} (k : Nat) (aH : List (List D)) (K : (List (List C)) → Option β) (L0 : (Int × (List (List C))) → Option β) (v : Int × (List (List C))) : Option β :=
  match v with
  | (aI, aJ) => bif (decide ((aI : Int) < (aH.length : Int))) then (atR aH aI [.n, .n, .n, .s, .n, .l, .l] fun x75 x78 x81 x84 x87 x90 x93 => (atR aH aI [.n, .n, .n, .s, .n, .l, .l] fun x97 x100 x103 x106 x109 x112 x115 => (atR aH aI [.n, .n, .n, .s, .n, .l, .l] fun x119 x122 x125 x128 x131 x134 x137 => (Yr.f k x125 x128 x131 x134 x137 (fun y138 y139 y140 y141 y142 => Zc (aJ.length + ([[.d (.int .i64 x75), .d (.int .i64 x100), .d (.int .i64 y138), .d (.str y139), .d (.int .i64 y140), .own y141, .own y142]] : List (List C)).length ≤ ZN) (L0 (IntKind.wrap .i64 (aI + 1), aJ ++ ([[.d (.int .i64 x75), .d (.int .i64 x100), .d (.int .i64 y138), .d (.str y139), .d (.int .i64 y140), .own y141, .own y142]] : List (List C))))))))) else (K aJ)
noncomputable def YA.m {β : Type} (k : Nat) (a0 : List (List D)) (K : (List (List C)) → Option β) (F : ((List (List D)) → (Int × (List (List C))) → Option β)) : Option β :=
  F a0 (0, ([] : List (List C)))
noncomputable def YA.g {β : Type} (k : Nat) (a0 : List (List D)) (K : (List (List C)) → Option β) : Option β :=
  Zo (YA.l0 k a0 K) k (0, ([] : List (List C)))
noncomputable def YA.t (k : Nat) (a0 : List (List D)) : Option ((List (List C))) := YA.g k a0 (fun z0 => some z0)
noncomputable def YA.f {β : Type} (k : Nat) (a0 : List (List D)) (K : (List (List C)) → Option β) : Option β := bd1 (YA.t k a0) K
noncomputable def YA.e (k : Nat) : Zk := ent [.d .l] [1] [.o] [44] false (YA.t k)
noncomputable def YA.p (k : Nat) : Pro := ⟨Try.prog, [(182, Yr.e k)], Zn [(3, kp [0, 3, 4])] false [], k⟩
noncomputable def YA.d (k : Nat) (a0 : List (List D)) : Ex → St → Option ((List (List C))) := (YA.p k).fin Try.f143 [.d (.sl a0)] [1] [.o]
noncomputable def YA.s0 (aH : List (List D)) (v : Int × (List (List C))) : St :=
  match v with
  | (aI, aJ) => ZX 33 [(0, .d false (.sl aH)), (3, .row 0), (4, .d true (.int .i64 aI))] [.row none true 44 aJ]
noncomputable def YA.r0 (k : Nat) (a0 aH : List (List D)) (n : Nat) (v : Int × (List (List C))) : Option ((List (List C))) := (YA.p k).lp (Zt Try.f143) 3 [1, 1, 0, 1, 0] (YA.d k a0) n (YA.s0 aH v)
theorem YA.l0_eq (k : Nat) (a0 aH : List (List D)) : ∀ n v, YA.r0 k a0 aH n v = Zo (YA.l0 k aH (fun z0 => some z0)) n v :=
  Zm (YA.s0 aH) _ fun L0 v => by obtain ⟨aI, aJ⟩ := v; kernel_rfl
theorem YA.ok (k : Nat) : Za Try.prog 143 (YA.e k) := Zh (YA.p k) mix tyok Try.func143 (Yr.ok k) (by kernel_rfl) (fun a0 => Eq.trans (b := YA.m k a0 (fun z0 => some z0) (fun aH => YA.r0 k a0 aH k)) (by kernel_rfl) (congrArg (YA.m k a0 (fun z0 => some z0)) (funext fun aH => funext fun v => YA.l0_eq k a0 aH k v)))
noncomputable def Yac.g {β : Type} (k : Nat) (aA : ByteArray) (aB aF : Int) (aD aC : List (List D)) (K : ByteArray → Int → Int → (List (List C)) → (List (List C)) → Option β) : Option β :=
  YA.f k aD (fun y143 => Zc (ZaZ 2 aC) (Zc (([] : List (List C)).length + (aC.map (·.map C.d)).length ≤ ZN) (K aA aB aF y143 (([] : List (List C)) ++ (aC.map (·.map C.d))))))
noncomputable def Yac.t (k : Nat) (aA : ByteArray) (aB aF : Int) (aD aC : List (List D)) : Option (ByteArray × Int × Int × (List (List C)) × (List (List C))) := Yac.g k aA aB aF aD aC (fun z0 z1 z2 z3 z4 => some (z0, z1, z2, z3, z4))
noncomputable def Yac.f {β : Type} (k : Nat) (aA : ByteArray) (aB aF : Int) (aD aC : List (List D)) (K : ByteArray → Int → Int → (List (List C)) → (List (List C)) → Option β) : Option β := bd5 (Yac.t k aA aB aF aD aC) K
noncomputable def Yac.e (k : Nat) : Zk := ent [.agg [.s, .n, .n, .l, .l]] [5] [.s, .n, .n, .o, .o] [47] false (Yac.t k)
noncomputable def Yac.p (k : Nat) : Pro := ⟨Try.prog, [(143, YA.e k)], Zn [] false [], k⟩
theorem Yac.ok (k : Nat) : Za Try.prog 75 (Yac.e k) := Zh (Yac.p k) mix tyok Try.func75 (YA.ok k) (by kernel_rfl) (fun aA aB aF aD aC => by show _ = _; kernel_rfl)
noncomputable def Yy.g {β : Type} (k : Nat) (a0 a1 a2 : Int) (K : Bool → Option β) : Option β :=
  bif (decide ((a0 : Int) ≥ a1)) then (K (decide ((a0 : Int) ≤ a2))) else (K false)
noncomputable def Yy.t (k : Nat) (a0 a1 a2 : Int) : Option (Bool) := Yy.g k a0 a1 a2 (fun z0 => some z0)
noncomputable def Yy.f {β : Type} (k : Nat) (a0 a1 a2 : Int) (K : Bool → Option β) : Option β := bd1 (Yy.t k a0 a1 a2) K
noncomputable def Yy.e (k : Nat) : Zk := ent [.d .n, .d .n, .d .n] [1] [.b] [4] false (Yy.t k)
noncomputable def Yy.p (k : Nat) : Pro := ⟨Try.prog, [], Zn [] false [], k⟩
theorem Yy.ok (k : Nat) : Za Try.prog 57 (Yy.e k) := Zh (Yy.p k) mix tyok Try.func57 trivial (by kernel_rfl) (fun a0 a1 a2 => by show _ = _; kernel_rfl)
noncomputable def Yk.l0 {β : Type} (k : Nat) (aH : ByteArray) (K : Bool → Option β) (L0 : Int → Option β) (v : Int) : Option β :=
  match v with
  | aI => bif (decide ((aI : Int) < (aH.size : Int))) then (Za0 aH aI fun b9 => Yy.f k (IntKind.wrap .i64 b9) 97 122 (fun y10 => bif (!y10) then (Za0 aH aI fun b11 => Yy.f k (IntKind.wrap .i64 b11) 48 57 (fun y12 => bif (!y12) then (Za0 aH aI fun b13 => bif ((b13 : Int) != 45) then (K false) else (L0 (IntKind.wrap .i64 (aI + 1)))) else (L0 (IntKind.wrap .i64 (aI + 1))))) else (L0 (IntKind.wrap .i64 (aI + 1))))) else (Yy.f k (aH.size : Int) 1 20 (fun y14 => bif y14 then (Za0 aH 0 fun b15 => bif ((b15 : Int) != 45) then (Za0 aH (IntKind.wrap .i64 ((aH.size : Int) - 1)) fun b16 => K ((b16 : Int) != 45)) else (K false)) else (K false)))
noncomputable def Yk.m {β : Type} (k : Nat) (a0 : ByteArray) (K : Bool → Option β) (F : (ByteArray → Int → Option β)) : Option β :=
  F a0 (0)
noncomputable def Yk.g {β : Type} (k : Nat) (a0 : ByteArray) (K : Bool → Option β) : Option β :=
  Zo (Yk.l0 k a0 K) k (0)
noncomputable def Yk.t (k : Nat) (a0 : ByteArray) : Option (Bool) := Yk.g k a0 (fun z0 => some z0)
noncomputable def Yk.f {β : Type} (k : Nat) (a0 : ByteArray) (K : Bool → Option β) : Option β := bd1 (Yk.t k a0) K
noncomputable def Yk.e (k : Nat) : Zk := ent [.d .s] [1] [.b] [4] false (Yk.t k)
noncomputable def Yk.p (k : Nat) : Pro := ⟨Try.prog, [(57, Yy.e k)], Zn [(2, kp [0, 3])] false [], k⟩
noncomputable def Yk.d (k : Nat) (a0 : ByteArray) : Ex → St → Option (Bool) := (Yk.p k).fin Try.f129 [.d (.str a0)] [1] [.b]
noncomputable def Yk.s0 (aH : ByteArray) (v : Int) : St :=
  match v with
  | aI => ZX 46 [(0, .d false (.str aH)), (3, .d true (.int .i64 aI))] []
noncomputable def Yk.r0 (k : Nat) (a0 aH : ByteArray) (n : Nat) (v : Int) : Option (Bool) := (Yk.p k).lp (Zt Try.f129) 2 [1, 0, 1, 0] (Yk.d k a0) n (Yk.s0 aH v)
theorem Yk.l0_eq (k : Nat) (a0 aH : ByteArray) : ∀ n v, Yk.r0 k a0 aH n v = Zo (Yk.l0 k aH (fun z0 => some z0)) n v :=
  Zm (Yk.s0 aH) _ fun L0 v => by kernel_rfl
theorem Yk.ok (k : Nat) : Za Try.prog 129 (Yk.e k) := Zh (Yk.p k) mix tyok Try.func129 (Yy.ok k) (by kernel_rfl) (fun a0 => Eq.trans (b := Yk.m k a0 (fun z0 => some z0) (fun aH => Yk.r0 k a0 aH k)) (by kernel_rfl) (congrArg (Yk.m k a0 (fun z0 => some z0)) (funext fun aH => funext fun v => Yk.l0_eq k a0 aH k v)))
noncomputable def YT.l0 {β : Type} (k : Nat) (aH : ByteArray) (K : Bool → Option β) (L0 : Int → Option β) (v : Int) : Option β :=
  match v with
  | aI => bif (decide ((aI : Int) < (aH.size : Int))) then (Za0 aH aI fun b3 => Yy.f k (IntKind.wrap .i64 b3) 32 126 (fun y4 => bif (!y4) then (K false) else (L0 (IntKind.wrap .i64 (aI + 1))))) else (K (decide (((aH.size : Int) : Int) ≤ 100)))
noncomputable def YT.m {β : Type} (k : Nat) (a0 : ByteArray) (K : Bool → Option β) (F : (ByteArray → Int → Option β)) : Option β :=
  F a0 (0)
noncomputable def YT.g {β : Type} (k : Nat) (a0 : ByteArray) (K : Bool → Option β) : Option β :=
  Zo (YT.l0 k a0 K) k (0)
noncomputable def YT.t (k : Nat) (a0 : ByteArray) : Option (Bool) := YT.g k a0 (fun z0 => some z0)
noncomputable def YT.f {β : Type} (k : Nat) (a0 : ByteArray) (K : Bool → Option β) : Option β := bd1 (YT.t k a0) K
noncomputable def YT.e (k : Nat) : Zk := ent [.d .s] [1] [.b] [4] false (YT.t k)
noncomputable def YT.p (k : Nat) : Pro := ⟨Try.prog, [(57, Yy.e k)], Zn [(2, kp [0, 3])] false [], k⟩
noncomputable def YT.d (k : Nat) (a0 : ByteArray) : Ex → St → Option (Bool) := (YT.p k).fin Try.f214 [.d (.str a0)] [1] [.b]
noncomputable def YT.s0 (aH : ByteArray) (v : Int) : St :=
  match v with
  | aI => ZX 19 [(0, .d false (.str aH)), (3, .d true (.int .i64 aI))] []
noncomputable def YT.r0 (k : Nat) (a0 aH : ByteArray) (n : Nat) (v : Int) : Option (Bool) := (YT.p k).lp (Zt Try.f214) 2 [1, 0, 1, 0] (YT.d k a0) n (YT.s0 aH v)
theorem YT.l0_eq (k : Nat) (a0 aH : ByteArray) : ∀ n v, YT.r0 k a0 aH n v = Zo (YT.l0 k aH (fun z0 => some z0)) n v :=
  Zm (YT.s0 aH) _ fun L0 v => by kernel_rfl
theorem YT.ok (k : Nat) : Za Try.prog 214 (YT.e k) := Zh (YT.p k) mix tyok Try.func214 (Yy.ok k) (by kernel_rfl) (fun a0 => Eq.trans (b := YT.m k a0 (fun z0 => some z0) (fun aH => YT.r0 k a0 aH k)) (by kernel_rfl) (congrArg (YT.m k a0 (fun z0 => some z0)) (funext fun aH => funext fun v => YT.l0_eq k a0 aH k v)))
noncomputable def YR.l0 {β : Type} (k : Nat) (aI : Int) (aJ : ByteArray) (aK : Int) (aL aM : List (List D)) (K : Bool → Option β) (L0 : Int → Option β) (v : Int) : Option β :=
  match v with
  | aH => bif (decide ((aH : Int) < (aL.length : Int))) then (atR aL aH [.s] fun x17 => (Yk.f k x17 (fun y18 => bif (!y18) then (K false) else (bif (decide ((aH : Int) > 0)) then (atR aL (IntKind.wrap .i64 (aH - 1)) [.s] fun x22 => (atR aL aH [.s] fun x26 => (bif (!(ZbO x22 x26)) then (K false) else (L0 (IntKind.wrap .i64 (aH + 1)))))) else (L0 (IntKind.wrap .i64 (aH + 1))))))) else (K (((aL.length : Int) : Int) == (aM.length : Int)))
noncomputable def YR.m {β : Type} (k : Nat) (aA : Int) (aB : ByteArray) (aF : Int) (aD aC : List (List D)) (K : Bool → Option β) (F : (Int → ByteArray → Int → (List (List D)) → (List (List D)) → Int → Option β)) : Option β :=
  F aA aB aF aD aC (0)
noncomputable def YR.g {β : Type} (k : Nat) (aA : Int) (aB : ByteArray) (aF : Int) (aD aC : List (List D)) (K : Bool → Option β) : Option β :=
  Zo (YR.l0 k aA aB aF aD aC K) k (0)
noncomputable def YR.t (k : Nat) (aA : Int) (aB : ByteArray) (aF : Int) (aD aC : List (List D)) : Option (Bool) := YR.g k aA aB aF aD aC (fun z0 => some z0)
noncomputable def YR.f {β : Type} (k : Nat) (aA : Int) (aB : ByteArray) (aF : Int) (aD aC : List (List D)) (K : Bool → Option β) : Option β := bd1 (YR.t k aA aB aF aD aC) K
noncomputable def YR.e (k : Nat) : Zk := ent [.agg [.n, .s, .n, .l, .l]] [1] [.b] [4] false (YR.t k)
noncomputable def YR.p (k : Nat) : Pro := ⟨Try.prog, [(129, Yk.e k)], Zn [(2, kp [1, 3])] false [], k⟩
noncomputable def YR.d (k : Nat) (aA : Int) (aB : ByteArray) (aF : Int) (aD aC : List (List D)) : Ex → St → Option (Bool) := (YR.p k).fin Try.f215 [.agg [.int .i64 aA, .str aB, .int .i64 aF, .sl aD, .sl aC]] [1] [.b]
noncomputable def YR.s0 (aI : Int) (aJ : ByteArray) (aK : Int) (aL aM : List (List D)) (v : Int) : St :=
  match v with
  | aH => ZX 43 [(1, .bp 0 0), (3, .d true (.int .i64 aH))] [.box none 95 [.d false (.int .i64 aI), .d false (.str aJ), .d false (.int .i64 aK), .d false (.sl aL), .d false (.sl aM)]]
noncomputable def YR.r0 (k : Nat) (aA : Int) (aB : ByteArray) (aF : Int) (aD aC : List (List D)) (aI : Int) (aJ : ByteArray) (aK : Int) (aL aM : List (List D)) (n : Nat) (v : Int) : Option (Bool) := (YR.p k).lp (Zt Try.f215) 2 [1, 0, 1, 0] (YR.d k aA aB aF aD aC) n (YR.s0 aI aJ aK aL aM v)
theorem YR.l0_eq (k : Nat) (aA : Int) (aB : ByteArray) (aF : Int) (aD aC : List (List D)) (aI : Int) (aJ : ByteArray) (aK : Int) (aL aM : List (List D)) : ∀ n v, YR.r0 k aA aB aF aD aC aI aJ aK aL aM n v = Zo (YR.l0 k aI aJ aK aL aM (fun z0 => some z0)) n v :=
  Zm (YR.s0 aI aJ aK aL aM) _ fun L0 v => by kernel_rfl
theorem YR.ok (k : Nat) : Za Try.prog 215 (YR.e k) := Zh (YR.p k) mix tyok Try.func215 (Yk.ok k) (by kernel_rfl) (fun aA aB aF aD aC => Eq.trans (b := YR.m k aA aB aF aD aC (fun z0 => some z0) (fun aI aJ aK aL aM => YR.r0 k aA aB aF aD aC aI aJ aK aL aM k)) (by kernel_rfl) (congrArg (YR.m k aA aB aF aD aC (fun z0 => some z0)) (funext fun aI => funext fun aJ => funext fun aK => funext fun aL => funext fun aM => funext fun v => YR.l0_eq k aA aB aF aD aC aI aJ aK aL aM k v)))
noncomputable def Yp.l0 {β : Type} (k : Nat) (r_spec_l4Look : Int → ByteArray → Int → (List (List D)) → (List (List D)) → Int → (Int → Option β) → Option β) (aH : Int) (aK : Int) (aL : ByteArray) (aM : Int) (aN : List (List D)) (aO : List (List D)) (K : Int → Option β) (L0 : (Int × Int) → Option β) (v : Int × Int) : Option β :=
  match v with
  | (aI, aJ) => bif (decide ((aJ : Int) < (aO.length : Int))) then (atR aO aJ [.n, .s, .n, .l, .l] fun x32 x35 x38 x41 x44 => (r_spec_l4Look x32 x35 x38 x41 x44 (IntKind.wrap .i64 (aH - 1)) (fun y45 => bif ((y45 : Int) == 0) then (K 0) else (bif (decide (((IntKind.wrap .i64 (aI + y45)) : Int) > 300)) then (K 0) else (L0 (IntKind.wrap .i64 (aI + y45), IntKind.wrap .i64 (aJ + 1))))))) else (let J1 := (bif (Zae aL (⟨#[]⟩ : ByteArray)) then (bif (!((aM : Int) == 0)) then (K 0) else (K aI)) else (K 0)); let J0 := (bif (((aN.length : Int) : Int) == 0) then J1 else (K 0)); bif (((aN.length : Int) : Int) == 0) then (bif ((aK : Int) == 1) then (bif (((aO.length : Int) : Int) == 0) then (bif ((aM : Int) == 0) then (YT.f k aL (fun y46 => bif (!y46) then (K 0) else (K aI))) else (K 0)) else (K 0)) else (bif ((aK : Int) == 2) then (bif (((aO.length : Int) : Int) == 0) then (bif (!(Zae aL (⟨#[]⟩ : ByteArray))) then (K 0) else (K aI)) else (K 0)) else (bif ((aK : Int) == 3) then (bif (((aO.length : Int) : Int) == 0) then (bif (Zae aL (⟨#[]⟩ : ByteArray)) then (Yy.f k aM 0 1 (fun y47 => bif (!y47) then (K 0) else (K aI))) else (K 0)) else (K 0)) else (bif ((aK : Int) == 4) then J0 else (bif ((aK : Int) == 5) then (YR.f k aK aL aM aN aO (fun y48 => bif y48 then J1 else (K 0))) else (K 0)))))) else (bif ((aK : Int) == 1) then (K 0) else (bif ((aK : Int) == 2) then (K 0) else (bif ((aK : Int) == 3) then (K 0) else (bif ((aK : Int) == 4) then J0 else (bif ((aK : Int) == 5) then (YR.f k aK aL aM aN aO (fun y49 => bif y49 then J1 else (K 0))) else (K 0)))))))
noncomputable def Yp.m {β : Type} (k : Nat) (r_spec_l4Look : Int → ByteArray → Int → (List (List D)) → (List (List D)) → Int → (Int → Option β) → Option β) (aA : Int) (aB : ByteArray) (aF : Int) (aD : List (List D)) (aC : List (List D)) (a1 : Int) (K : Int → Option β) (F : (Int → Int → ByteArray → Int → (List (List D)) → (List (List D)) → (Int × Int) → Option β)) : Option β :=
  bif ((a1 : Int) == 0) then (K 0) else (F a1 aA aB aF aD aC (1, 0))
noncomputable def Yp.body {β : Type} (k : Nat) (r_spec_l4Look : Int → ByteArray → Int → (List (List D)) → (List (List D)) → Int → (Int → Option β) → Option β) (aA : Int) (aB : ByteArray) (aF : Int) (aD : List (List D)) (aC : List (List D)) (a1 : Int) (K : Int → Option β) : Option β :=
  bif ((a1 : Int) == 0) then (K 0) else (Zo (Yp.l0 k r_spec_l4Look a1 aA aB aF aD aC K) k (1, 0))
noncomputable def Yp.w {β : Type} (r : Int → ByteArray → Int → (List (List D)) → (List (List D)) → Int → Option (Int)) (aA : Int) (aB : ByteArray) (aF : Int) (aD : List (List D)) (aC : List (List D)) (a1 : Int) (K : Int → Option β) : Option β := bd1 (r aA aB aF aD aC a1) K
noncomputable def Yp.all : Nat → (Int → ByteArray → Int → (List (List D)) → (List (List D)) → Int → Option (Int))
  | 0 => (fun _ _ _ _ _ _ => none)
  | k + 1 => (fun r => (fun aA aB aF aD aC a1 => Yp.body k (Yp.w r) aA aB aF aD aC a1 (fun z0 => some z0))) (Yp.all k)
noncomputable def Yp.t (k : Nat) (aA : Int) (aB : ByteArray) (aF : Int) (aD aC : List (List D)) (a1 : Int) : Option (Int) := (Yp.all k) aA aB aF aD aC a1
noncomputable def Yp.f {β : Type} (k : Nat) (aA : Int) (aB : ByteArray) (aF : Int) (aD aC : List (List D)) (a1 : Int) (K : Int → Option β) : Option β := Yp.w (Yp.t k) aA aB aF aD aC a1 K
noncomputable def Yp.g {β : Type} (k : Nat) (aA : Int) (aB : ByteArray) (aF : Int) (aD aC : List (List D)) (a1 : Int) (K : Int → Option β) : Option β := Yp.body k (Yp.f k) aA aB aF aD aC a1 K
theorem Yp.t_succ (k : Nat) (aA : Int) (aB : ByteArray) (aF : Int) (aD aC : List (List D)) (a1 : Int) : Yp.t (k + 1) aA aB aF aD aC a1 = Yp.g k aA aB aF aD aC a1 (fun z0 => some z0) := rfl
noncomputable def Yp.e (k : Nat) : Zk := ent [.agg [.n, .s, .n, .l, .l], .d .n] [1] [.n] [3] false (Yp.t k)
noncomputable def Yp.p (k : Nat) : Pro := ⟨Try.prog, [(205, Yp.e k), (214, YT.e k), (57, Yy.e k), (215, YR.e k)], Zn [(5, kp [1, 2, 5, 6])] false [], k⟩
noncomputable def Yp.d (k : Nat) (aA : Int) (aB : ByteArray) (aF : Int) (aD aC : List (List D)) (a1 : Int) : Ex → St → Option (Int) := (Yp.p k).fin Try.f205 [.agg [.int .i64 aA, .str aB, .int .i64 aF, .sl aD, .sl aC], .d (.int .i64 a1)] [1] [.n]
noncomputable def Yp.s0 (aH aK : Int) (aL : ByteArray) (aM : Int) (aN aO : List (List D)) (v : Int × Int) : St :=
  match v with
  | (aI, aJ) => ZX 117 [(1, .d false (.int .i64 aH)), (2, .bp 0 0), (5, .d true (.int .i64 aI)), (6, .d true (.int .i64 aJ))] [.box none 95 [.d false (.int .i64 aK), .d false (.str aL), .d false (.int .i64 aM), .d false (.sl aN), .d false (.sl aO)]]
noncomputable def Yp.r0 (k : Nat) (aA : Int) (aB : ByteArray) (aF : Int) (aD aC : List (List D)) (a1 aH aK : Int) (aL : ByteArray) (aM : Int) (aN aO : List (List D)) (n : Nat) (v : Int × Int) : Option (Int) := (Yp.p k).lp (Zt Try.f205) 5 [1, 1, 1, 0, 1, 0] (Yp.d k aA aB aF aD aC a1) n (Yp.s0 aH aK aL aM aN aO v)
theorem Yp.l0_eq (k : Nat) (aA : Int) (aB : ByteArray) (aF : Int) (aD aC : List (List D)) (a1 aH aK : Int) (aL : ByteArray) (aM : Int) (aN aO : List (List D)) : ∀ n v, Yp.r0 k aA aB aF aD aC a1 aH aK aL aM aN aO n v = Zo (Yp.l0 k (Yp.f k) aH aK aL aM aN aO (fun z0 => some z0)) n v :=
  Zm (Yp.s0 aH aK aL aM aN aO) _ fun L0 v => by obtain ⟨aI, aJ⟩ := v; kernel_rfl
theorem Yp.oks (k : Nat) : Za Try.prog 205 (Yp.e k) := by
  induction k with
  | zero => exact Z7 Try.func205 (by kernel_rfl) (fun _ _ _ _ _ _ => rfl)
  | succ k ih => exact Zh (Yp.p k) mix tyok Try.func205 ⟨ih, YT.ok k, Yy.ok k, YR.ok k⟩ (by kernel_rfl) (fun aA aB aF aD aC a1 => Eq.trans (b := Yp.m k (Yp.f k) aA aB aF aD aC a1 (fun z0 => some z0) (fun aH aK aL aM aN aO => Yp.r0 k aA aB aF aD aC a1 aH aK aL aM aN aO k)) (by kernel_rfl) ((congrArg (Yp.m k (Yp.f k) aA aB aF aD aC a1 (fun z0 => some z0)) (funext fun aH => funext fun aK => funext fun aL => funext fun aM => funext fun aN => funext fun aO => funext fun v => Yp.l0_eq k aA aB aF aD aC a1 aH aK aL aM aN aO k v)).trans (Yp.t_succ k aA aB aF aD aC a1).symm))
theorem Yp.ok (k : Nat) : Za Try.prog 205 (Yp.e k) := (Yp.oks k)
noncomputable def Y0.g {β : Type} (k : Nat) (aA : Int) (aB : ByteArray) (aF : Int) (aD aC : List (List D)) (K : Bool → Option β) : Option β :=
  Yp.f k aA aB aF aD aC 6 (fun y50 => K (decide ((y50 : Int) > 0)))
noncomputable def Y0.t (k : Nat) (aA : Int) (aB : ByteArray) (aF : Int) (aD aC : List (List D)) : Option (Bool) := Y0.g k aA aB aF aD aC (fun z0 => some z0)
noncomputable def Y0.f {β : Type} (k : Nat) (aA : Int) (aB : ByteArray) (aF : Int) (aD aC : List (List D)) (K : Bool → Option β) : Option β := bd1 (Y0.t k aA aB aF aD aC) K
noncomputable def Y0.e (k : Nat) : Zk := ent [.agg [.n, .s, .n, .l, .l]] [1] [.b] [4] false (Y0.t k)
noncomputable def Y0.p (k : Nat) : Pro := ⟨Try.prog, [(205, Yp.e k)], Zn [] false [], k⟩
theorem Y0.ok (k : Nat) : Za Try.prog 181 (Y0.e k) := Zh (Y0.p k) mix tyok Try.func181 (Yp.ok k) (by kernel_rfl) (fun aA aB aF aD aC => by show _ = _; kernel_rfl)
noncomputable def Yh.l0 {β : Type} (k : Nat) (aH : List (List D)) (K : Bool → Option β) (L0 : Int → Option β) (v : Int) : Option β :=
  match v with
  | aI => bif (decide ((aI : Int) < (aH.length : Int))) then (atR aH aI [.n, .n, .n, .s, .n, .l, .l] fun x77 x80 x83 x86 x89 x92 x95 => (Yy.f k x77 1 1000000 (fun y96 => bif (!y96) then (K false) else (Yy.f k x80 1 10000 (fun y97 => bif (!y97) then (K false) else (Y0.f k x83 x86 x89 x92 x95 (fun y98 => bif (!y98) then (K false) else (bif (decide ((aI : Int) > 0)) then (atR aH (IntKind.wrap .i64 (aI - 1)) [.n, .n, .n, .s, .n, .l, .l] fun x102 x105 x108 x111 x114 x117 x120 => (bif (decide ((x102 : Int) ≥ x77)) then (K false) else (L0 (IntKind.wrap .i64 (aI + 1))))) else (L0 (IntKind.wrap .i64 (aI + 1))))))))))) else (K (decide (((aH.length : Int) : Int) ≤ 40)))
noncomputable def Yh.m {β : Type} (k : Nat) (a0 : List (List D)) (K : Bool → Option β) (F : ((List (List D)) → Int → Option β)) : Option β :=
  F a0 (0)
noncomputable def Yh.g {β : Type} (k : Nat) (a0 : List (List D)) (K : Bool → Option β) : Option β :=
  Zo (Yh.l0 k a0 K) k (0)
noncomputable def Yh.t (k : Nat) (a0 : List (List D)) : Option (Bool) := Yh.g k a0 (fun z0 => some z0)
noncomputable def Yh.f {β : Type} (k : Nat) (a0 : List (List D)) (K : Bool → Option β) : Option β := bd1 (Yh.t k a0) K
noncomputable def Yh.e (k : Nat) : Zk := ent [.d .l] [1] [.b] [4] false (Yh.t k)
noncomputable def Yh.p (k : Nat) : Pro := ⟨Try.prog, [(57, Yy.e k), (181, Y0.e k)], Zn [(2, kp [0, 3])] false [], k⟩
noncomputable def Yh.d (k : Nat) (a0 : List (List D)) : Ex → St → Option (Bool) := (Yh.p k).fin Try.f144 [.d (.sl a0)] [1] [.b]
noncomputable def Yh.s0 (aH : List (List D)) (v : Int) : St :=
  match v with
  | aI => ZX 49 [(0, .d false (.sl aH)), (3, .d true (.int .i64 aI))] []
noncomputable def Yh.r0 (k : Nat) (a0 aH : List (List D)) (n : Nat) (v : Int) : Option (Bool) := (Yh.p k).lp (Zt Try.f144) 2 [1, 0, 1, 0] (Yh.d k a0) n (Yh.s0 aH v)
theorem Yh.l0_eq (k : Nat) (a0 aH : List (List D)) : ∀ n v, Yh.r0 k a0 aH n v = Zo (Yh.l0 k aH (fun z0 => some z0)) n v :=
  Zm (Yh.s0 aH) _ fun L0 v => by kernel_rfl
theorem Yh.ok (k : Nat) : Za Try.prog 144 (Yh.e k) := Zh (Yh.p k) mix tyok Try.func144 ⟨Yy.ok k, Y0.ok k⟩ (by kernel_rfl) (fun a0 => Eq.trans (b := Yh.m k a0 (fun z0 => some z0) (fun aH => Yh.r0 k a0 aH k)) (by kernel_rfl) (congrArg (Yh.m k a0 (fun z0 => some z0)) (funext fun aH => funext fun v => Yh.l0_eq k a0 aH k v)))
noncomputable def Ys.l0 {β : Type} (k : Nat) (aH : List (List D)) (aI : Int) (K : Bool → Option β) (L0 : Int → Option β) (v : Int) : Option β :=
  match v with
  | aJ => bif (decide ((aJ : Int) < (aH.length : Int))) then (atR aH aJ [.n, .n] fun x34 x37 => (Yy.f k x34 1 1000000 (fun y38 => bif (!y38) then (K false) else (atR aH aJ [.n, .n] fun x42 x45 => (Yy.f k x45 aI 10000 (fun y46 => bif (!y46) then (K false) else (bif (decide ((aJ : Int) > 0)) then (atR aH (IntKind.wrap .i64 (aJ - 1)) [.n, .n] fun x50 x53 => (atR aH aJ [.n, .n] fun x57 x60 => (bif (decide ((x50 : Int) ≥ x57)) then (K false) else (L0 (IntKind.wrap .i64 (aJ + 1)))))) else (L0 (IntKind.wrap .i64 (aJ + 1)))))))))) else (K (decide (((aH.length : Int) : Int) ≤ 80)))
noncomputable def Ys.m {β : Type} (k : Nat) (a0 : List (List D)) (a1 : Int) (K : Bool → Option β) (F : ((List (List D)) → Int → Int → Option β)) : Option β :=
  F a0 a1 (0)
noncomputable def Ys.g {β : Type} (k : Nat) (a0 : List (List D)) (a1 : Int) (K : Bool → Option β) : Option β :=
  Zo (Ys.l0 k a0 a1 K) k (0)
noncomputable def Ys.t (k : Nat) (a0 : List (List D)) (a1 : Int) : Option (Bool) := Ys.g k a0 a1 (fun z0 => some z0)
noncomputable def Ys.f {β : Type} (k : Nat) (a0 : List (List D)) (a1 : Int) (K : Bool → Option β) : Option β := bd1 (Ys.t k a0 a1) K
noncomputable def Ys.e (k : Nat) : Zk := ent [.d .l, .d .n] [1] [.b] [4] false (Ys.t k)
noncomputable def Ys.p (k : Nat) : Pro := ⟨Try.prog, [(57, Yy.e k)], Zn [(2, kp [0, 1, 5])] false [], k⟩
noncomputable def Ys.d (k : Nat) (a0 : List (List D)) (a1 : Int) : Ex → St → Option (Bool) := (Ys.p k).fin Try.f145 [.d (.sl a0), .d (.int .i64 a1)] [1] [.b]
noncomputable def Ys.s0 (aH : List (List D)) (aI v : Int) : St :=
  match v with
  | aJ => ZX 50 [(0, .d false (.sl aH)), (1, .d false (.int .i64 aI)), (5, .d true (.int .i64 aJ))] []
noncomputable def Ys.r0 (k : Nat) (a0 : List (List D)) (a1 : Int) (aH : List (List D)) (aI : Int) (n : Nat) (v : Int) : Option (Bool) := (Ys.p k).lp (Zt Try.f145) 2 [1, 0, 1, 0] (Ys.d k a0 a1) n (Ys.s0 aH aI v)
theorem Ys.l0_eq (k : Nat) (a0 : List (List D)) (a1 : Int) (aH : List (List D)) (aI : Int) : ∀ n v, Ys.r0 k a0 a1 aH aI n v = Zo (Ys.l0 k aH aI (fun z0 => some z0)) n v :=
  Zm (Ys.s0 aH aI) _ fun L0 v => by kernel_rfl
theorem Ys.ok (k : Nat) : Za Try.prog 145 (Ys.e k) := Zh (Ys.p k) mix tyok Try.func145 (Yy.ok k) (by kernel_rfl) (fun a0 a1 => Eq.trans (b := Ys.m k a0 a1 (fun z0 => some z0) (fun aH aI => Ys.r0 k a0 a1 aH aI k)) (by kernel_rfl) (congrArg (Ys.m k a0 a1 (fun z0 => some z0)) (funext fun aH => funext fun aI => funext fun v => Ys.l0_eq k a0 a1 aH aI k v)))
noncomputable def Yi.l0 {β : Type} (k : Nat) (aH : List (List D)) (K : Int → Option β) (L0 : (Int × Int) → Option β) (v : Int × Int) : Option β :=
  match v with
  | (aI, aJ) => bif (decide ((aJ : Int) < (aH.length : Int))) then (atR aH aJ [.n, .n] fun x11 x14 => (L0 (IntKind.wrap .i64 (aI + x14), IntKind.wrap .i64 (aJ + 1)))) else (K aI)
noncomputable def Yi.m {β : Type} (k : Nat) (a0 : List (List D)) (K : Int → Option β) (F : ((List (List D)) → (Int × Int) → Option β)) : Option β :=
  F a0 (0, 0)
noncomputable def Yi.g {β : Type} (k : Nat) (a0 : List (List D)) (K : Int → Option β) : Option β :=
  Zo (Yi.l0 k a0 K) k (0, 0)
noncomputable def Yi.t (k : Nat) (a0 : List (List D)) : Option (Int) := Yi.g k a0 (fun z0 => some z0)
noncomputable def Yi.f {β : Type} (k : Nat) (a0 : List (List D)) (K : Int → Option β) : Option β := bd1 (Yi.t k a0) K
noncomputable def Yi.e (k : Nat) : Zk := ent [.d .l] [1] [.n] [3] false (Yi.t k)
noncomputable def Yi.p (k : Nat) : Pro := ⟨Try.prog, [], Zn [(3, kp [0, 3, 4])] false [], k⟩
noncomputable def Yi.d (k : Nat) (a0 : List (List D)) : Ex → St → Option (Int) := (Yi.p k).fin Try.f79 [.d (.sl a0)] [1] [.n]
noncomputable def Yi.s0 (aH : List (List D)) (v : Int × Int) : St :=
  match v with
  | (aI, aJ) => ZX 19 [(0, .d false (.sl aH)), (3, .d true (.int .i64 aI)), (4, .d true (.int .i64 aJ))] []
noncomputable def Yi.r0 (k : Nat) (a0 aH : List (List D)) (n : Nat) (v : Int × Int) : Option (Int) := (Yi.p k).lp (Zt Try.f79) 3 [1, 1, 0, 1, 0] (Yi.d k a0) n (Yi.s0 aH v)
theorem Yi.l0_eq (k : Nat) (a0 aH : List (List D)) : ∀ n v, Yi.r0 k a0 aH n v = Zo (Yi.l0 k aH (fun z0 => some z0)) n v :=
  Zm (Yi.s0 aH) _ fun L0 v => by obtain ⟨aI, aJ⟩ := v; kernel_rfl
theorem Yi.ok (k : Nat) : Za Try.prog 79 (Yi.e k) := Zh (Yi.p k) mix tyok Try.func79 trivial (by kernel_rfl) (fun a0 => Eq.trans (b := Yi.m k a0 (fun z0 => some z0) (fun aH => Yi.r0 k a0 aH k)) (by kernel_rfl) (congrArg (Yi.m k a0 (fun z0 => some z0)) (funext fun aH => funext fun v => Yi.l0_eq k a0 aH k v)))
noncomputable def YK.g {β : Type} (k : Nat) (aA : ByteArray) (aB aF : Int) (aD aC : List (List D)) (K : Bool → Option β) : Option β :=
  Yk.f k aA (fun y17 => bif y17 then (Yy.f k aB 0 10000 (fun y18 => bif y18 then (Yy.f k aF 0 1000000 (fun y19 => bif y19 then (Yh.f k aD (fun y121 => bif y121 then (Ys.f k aC 1 (fun y122 => bif y122 then (Yi.f k aC (fun y123 => K (decide ((y123 : Int) ≤ aB)))) else (K false))) else (K false))) else (K false))) else (K false))) else (K false))
noncomputable def YK.t (k : Nat) (aA : ByteArray) (aB aF : Int) (aD aC : List (List D)) : Option (Bool) := YK.g k aA aB aF aD aC (fun z0 => some z0)
noncomputable def YK.f {β : Type} (k : Nat) (aA : ByteArray) (aB aF : Int) (aD aC : List (List D)) (K : Bool → Option β) : Option β := bd1 (YK.t k aA aB aF aD aC) K
noncomputable def YK.e (k : Nat) : Zk := ent [.agg [.s, .n, .n, .l, .l]] [1] [.b] [4] false (YK.t k)
noncomputable def YK.p (k : Nat) : Pro := ⟨Try.prog, [(129, Yk.e k), (57, Yy.e k), (144, Yh.e k), (145, Ys.e k), (79, Yi.e k)], Zn [] false [], k⟩
theorem YK.ok (k : Nat) : Za Try.prog 76 (YK.e k) := Zh (YK.p k) mix tyok Try.func76 ⟨Yk.ok k, Yy.ok k, Yh.ok k, Ys.ok k, Yi.ok k⟩ (by kernel_rfl) (fun aA aB aF aD aC => by show _ = _; kernel_rfl)
noncomputable def Ym.l0 {β : Type} (k : Nat) (aH : Int) (aJ : ByteArray) (aK aL : Int) (aM aN : List (List D)) (K L0 : Int → Option β) (v : Int) : Option β :=
  match v with
  | aI => bif (decide ((aI : Int) < (aM.length : Int))) then (atR aM aI [.n, .n, .n, .s, .n, .l, .l] fun x48 x51 x54 x57 x60 x63 x66 => (bif ((x48 : Int) == aH) then (atR aM aI [.n, .n, .n, .s, .n, .l, .l] fun x70 x73 x76 x79 x82 x85 x88 => (K x73)) else (L0 (IntKind.wrap .i64 (aI + 1))))) else (K 0)
noncomputable def Ym.m {β : Type} (k : Nat) (aA : ByteArray) (aB aF : Int) (aD aC : List (List D)) (a1 : Int) (K : Int → Option β) (F : (Int → ByteArray → Int → Int → (List (List D)) → (List (List D)) → Int → Option β)) : Option β :=
  F a1 aA aB aF aD aC (0)
noncomputable def Ym.g {β : Type} (k : Nat) (aA : ByteArray) (aB aF : Int) (aD aC : List (List D)) (a1 : Int) (K : Int → Option β) : Option β :=
  Zo (Ym.l0 k a1 aA aB aF aD aC K) k (0)
noncomputable def Ym.t (k : Nat) (aA : ByteArray) (aB aF : Int) (aD aC : List (List D)) (a1 : Int) : Option (Int) := Ym.g k aA aB aF aD aC a1 (fun z0 => some z0)
noncomputable def Ym.f {β : Type} (k : Nat) (aA : ByteArray) (aB aF : Int) (aD aC : List (List D)) (a1 : Int) (K : Int → Option β) : Option β := bd1 (Ym.t k aA aB aF aD aC a1) K
noncomputable def Ym.e (k : Nat) : Zk := ent [.agg [.s, .n, .n, .l, .l], .d .n] [1] [.n] [3] false (Ym.t k)
noncomputable def Ym.p (k : Nat) : Pro := ⟨Try.prog, [], Zn [(2, kp [1, 2, 5])] false [], k⟩
noncomputable def Ym.d (k : Nat) (aA : ByteArray) (aB aF : Int) (aD aC : List (List D)) (a1 : Int) : Ex → St → Option (Int) := (Ym.p k).fin Try.f146 [.agg [.str aA, .int .i64 aB, .int .i64 aF, .sl aD, .sl aC], .d (.int .i64 a1)] [1] [.n]
noncomputable def Ym.s0 (aH : Int) (aJ : ByteArray) (aK aL : Int) (aM aN : List (List D)) (v : Int) : St :=
  match v with
  | aI => ZX 27 [(1, .d false (.int .i64 aH)), (2, .bp 0 0), (5, .d true (.int .i64 aI))] [.box none 47 [.d false (.str aJ), .d false (.int .i64 aK), .d false (.int .i64 aL), .d false (.sl aM), .d false (.sl aN)]]
noncomputable def Ym.r0 (k : Nat) (aA : ByteArray) (aB aF : Int) (aD aC : List (List D)) (a1 aH : Int) (aJ : ByteArray) (aK aL : Int) (aM aN : List (List D)) (n : Nat) (v : Int) : Option (Int) := (Ym.p k).lp (Zt Try.f146) 2 [1, 0, 1, 0] (Ym.d k aA aB aF aD aC a1) n (Ym.s0 aH aJ aK aL aM aN v)
theorem Ym.l0_eq (k : Nat) (aA : ByteArray) (aB aF : Int) (aD aC : List (List D)) (a1 aH : Int) (aJ : ByteArray) (aK aL : Int) (aM aN : List (List D)) : ∀ n v, Ym.r0 k aA aB aF aD aC a1 aH aJ aK aL aM aN n v = Zo (Ym.l0 k aH aJ aK aL aM aN (fun z0 => some z0)) n v :=
  Zm (Ym.s0 aH aJ aK aL aM aN) _ fun L0 v => by kernel_rfl
theorem Ym.ok (k : Nat) : Za Try.prog 146 (Ym.e k) := Zh (Ym.p k) mix tyok Try.func146 trivial (by kernel_rfl) (fun aA aB aF aD aC a1 => Eq.trans (b := Ym.m k aA aB aF aD aC a1 (fun z0 => some z0) (fun aH aJ aK aL aM aN => Ym.r0 k aA aB aF aD aC a1 aH aJ aK aL aM aN k)) (by kernel_rfl) (congrArg (Ym.m k aA aB aF aD aC a1 (fun z0 => some z0)) (funext fun aH => funext fun aJ => funext fun aK => funext fun aL => funext fun aM => funext fun aN => funext fun v => Ym.l0_eq k aA aB aF aD aC a1 aH aJ aK aL aM aN k v)))
noncomputable def YL.l0 {β : Type} (k : Nat) (aI : ByteArray) (aJ aK : Int) (aL aM : List (List D)) (K L0 : Int → Option β) (v : Int) : Option β :=
  match v with
  | aH => bif (decide ((aH : Int) < (aM.length : Int))) then (atR aM aH [.n, .n] fun x93 x96 => (atR aM aH [.n, .n] fun x100 x103 => (Ym.f k aI aJ aK aL aM x100 (fun y104 => bif (decide ((x96 : Int) > y104)) then (K aH) else (L0 (IntKind.wrap .i64 (aH + 1))))))) else (K (-1))
noncomputable def YL.m {β : Type} (k : Nat) (aA : ByteArray) (aB aF : Int) (aD aC : List (List D)) (K : Int → Option β) (F : (ByteArray → Int → Int → (List (List D)) → (List (List D)) → Int → Option β)) : Option β :=
  F aA aB aF aD aC (0)
noncomputable def YL.g {β : Type} (k : Nat) (aA : ByteArray) (aB aF : Int) (aD aC : List (List D)) (K : Int → Option β) : Option β :=
  Zo (YL.l0 k aA aB aF aD aC K) k (0)
noncomputable def YL.t (k : Nat) (aA : ByteArray) (aB aF : Int) (aD aC : List (List D)) : Option (Int) := YL.g k aA aB aF aD aC (fun z0 => some z0)
noncomputable def YL.f {β : Type} (k : Nat) (aA : ByteArray) (aB aF : Int) (aD aC : List (List D)) (K : Int → Option β) : Option β := bd1 (YL.t k aA aB aF aD aC) K
noncomputable def YL.e (k : Nat) : Zk := ent [.agg [.s, .n, .n, .l, .l]] [1] [.n] [3] false (YL.t k)
noncomputable def YL.p (k : Nat) : Pro := ⟨Try.prog, [(146, Ym.e k)], Zn [(2, kp [1, 3])] false [], k⟩
noncomputable def YL.d (k : Nat) (aA : ByteArray) (aB aF : Int) (aD aC : List (List D)) : Ex → St → Option (Int) := (YL.p k).fin Try.f77 [.agg [.str aA, .int .i64 aB, .int .i64 aF, .sl aD, .sl aC]] [1] [.n]
noncomputable def YL.s0 (aI : ByteArray) (aJ aK : Int) (aL aM : List (List D)) (v : Int) : St :=
  match v with
  | aH => ZX 27 [(1, .bp 0 0), (3, .d true (.int .i64 aH))] [.box none 47 [.d false (.str aI), .d false (.int .i64 aJ), .d false (.int .i64 aK), .d false (.sl aL), .d false (.sl aM)]]
noncomputable def YL.r0 (k : Nat) (aA : ByteArray) (aB aF : Int) (aD aC : List (List D)) (aI : ByteArray) (aJ aK : Int) (aL aM : List (List D)) (n : Nat) (v : Int) : Option (Int) := (YL.p k).lp (Zt Try.f77) 2 [1, 0, 1, 0] (YL.d k aA aB aF aD aC) n (YL.s0 aI aJ aK aL aM v)
theorem YL.l0_eq (k : Nat) (aA : ByteArray) (aB aF : Int) (aD aC : List (List D)) (aI : ByteArray) (aJ aK : Int) (aL aM : List (List D)) : ∀ n v, YL.r0 k aA aB aF aD aC aI aJ aK aL aM n v = Zo (YL.l0 k aI aJ aK aL aM (fun z0 => some z0)) n v :=
  Zm (YL.s0 aI aJ aK aL aM) _ fun L0 v => by kernel_rfl
theorem YL.ok (k : Nat) : Za Try.prog 77 (YL.e k) := Zh (YL.p k) mix tyok Try.func77 (Ym.ok k) (by kernel_rfl) (fun aA aB aF aD aC => Eq.trans (b := YL.m k aA aB aF aD aC (fun z0 => some z0) (fun aI aJ aK aL aM => YL.r0 k aA aB aF aD aC aI aJ aK aL aM k)) (by kernel_rfl) (congrArg (YL.m k aA aB aF aD aC (fun z0 => some z0)) (funext fun aI => funext fun aJ => funext fun aK => funext fun aL => funext fun aM => funext fun v => YL.l0_eq k aA aB aF aD aC aI aJ aK aL aM k v)))
noncomputable def YU.l0 {β : Type} (k : Nat) (aH : List (List D)) (aI aJ : Int) (K : (List (List C)) → Option β) (L0 : (Bool × Int × (List (List C))) → Option β) (v : Bool × Int × (List (List C))) : Option β :=
  match v with
  | (aK, aL, aM) => let J0 := (aM.length + ([[.d (.int .i64 aI), .d (.int .i64 aJ)]] : List (List C)).length ≤ ZN); let J1 := (aM ++ ([[.d (.int .i64 aI), .d (.int .i64 aJ)]] : List (List C))); bif (decide ((aL : Int) < (aH.length : Int))) then (bif (!aK) then (atR aH aL [.n, .n] fun x53 x56 => (bif (decide ((x53 : Int) ≥ aI)) then (Zc J0 (atR aH aL [.n, .n] fun x60 x63 => (bif ((x60 : Int) != aI) then (atR aH aL [.n, .n] fun x67 x70 => (Zc (J1.length + ([[.d (.int .i64 x67), .d (.int .i64 x70)]] : List (List C)).length ≤ ZN) (L0 (true, IntKind.wrap .i64 (aL + 1), J1 ++ ([[.d (.int .i64 x67), .d (.int .i64 x70)]] : List (List C)))))) else (L0 (true, IntKind.wrap .i64 (aL + 1), aM ++ ([[.d (.int .i64 aI), .d (.int .i64 aJ)]] : List (List C))))))) else (atR aH aL [.n, .n] fun x74 x77 => (bif ((x74 : Int) != aI) then (atR aH aL [.n, .n] fun x81 x84 => (Zc (aM.length + ([[.d (.int .i64 x81), .d (.int .i64 x84)]] : List (List C)).length ≤ ZN) (L0 (aK, IntKind.wrap .i64 (aL + 1), aM ++ ([[.d (.int .i64 x81), .d (.int .i64 x84)]] : List (List C)))))) else (L0 (aK, IntKind.wrap .i64 (aL + 1), aM)))))) else (atR aH aL [.n, .n] fun x88 x91 => (bif ((x88 : Int) != aI) then (atR aH aL [.n, .n] fun x95 x98 => (Zc (aM.length + ([[.d (.int .i64 x95), .d (.int .i64 x98)]] : List (List C)).length ≤ ZN) (L0 (aK, IntKind.wrap .i64 (aL + 1), aM ++ ([[.d (.int .i64 x95), .d (.int .i64 x98)]] : List (List C)))))) else (L0 (aK, IntKind.wrap .i64 (aL + 1), aM))))) else (bif (!aK) then (Zc J0 (K J1)) else (K aM))
noncomputable def YU.m {β : Type} (k : Nat) (a0 : List (List D)) (a1 a2 : Int) (K : (List (List C)) → Option β) (F : ((List (List D)) → Int → Int → (Bool × Int × (List (List C))) → Option β)) : Option β :=
  F a0 a1 a2 (((a2 : Int) == 0), 0, ([] : List (List C)))
noncomputable def YU.g {β : Type} (k : Nat) (a0 : List (List D)) (a1 a2 : Int) (K : (List (List C)) → Option β) : Option β :=
  Zo (YU.l0 k a0 a1 a2 K) k (((a2 : Int) == 0), 0, ([] : List (List C)))
noncomputable def YU.t (k : Nat) (a0 : List (List D)) (a1 a2 : Int) : Option ((List (List C))) := YU.g k a0 a1 a2 (fun z0 => some z0)
noncomputable def YU.f {β : Type} (k : Nat) (a0 : List (List D)) (a1 a2 : Int) (K : (List (List C)) → Option β) : Option β := bd1 (YU.t k a0 a1 a2) K
noncomputable def YU.e (k : Nat) : Zk := ent [.d .l, .d .n, .d .n] [1] [.o] [45] false (YU.t k)
noncomputable def YU.p (k : Nat) : Pro := ⟨Try.prog, [], Zn [(4, kp [0, 1, 2, 7, 8, 9])] false [], k⟩
noncomputable def YU.d (k : Nat) (a0 : List (List D)) (a1 a2 : Int) : Ex → St → Option ((List (List C))) := (YU.p k).fin Try.f78 [.d (.sl a0), .d (.int .i64 a1), .d (.int .i64 a2)] [1] [.o]
noncomputable def YU.s0 (aH : List (List D)) (aI aJ : Int) (v : Bool × Int × (List (List C))) : St :=
  match v with
  | (aK, aL, aM) => ZX 59 [(0, .d false (.sl aH)), (1, .d false (.int .i64 aI)), (2, .d false (.int .i64 aJ)), (7, .row 0), (8, .d true (.bool aK)), (9, .d true (.int .i64 aL))] [.row none true 45 aM]
noncomputable def YU.r0 (k : Nat) (a0 : List (List D)) (a1 a2 : Int) (aH : List (List D)) (aI aJ : Int) (n : Nat) (v : Bool × Int × (List (List C))) : Option ((List (List C))) := (YU.p k).lp (Zt Try.f78) 4 [1, 1, 1, 0, 1, 0] (YU.d k a0 a1 a2) n (YU.s0 aH aI aJ v)
theorem YU.l0_eq (k : Nat) (a0 : List (List D)) (a1 a2 : Int) (aH : List (List D)) (aI aJ : Int) : ∀ n v, YU.r0 k a0 a1 a2 aH aI aJ n v = Zo (YU.l0 k aH aI aJ (fun z0 => some z0)) n v :=
  Zm (YU.s0 aH aI aJ) _ fun L0 v => by obtain ⟨aK, aL, aM⟩ := v; kernel_rfl
theorem YU.ok (k : Nat) : Za Try.prog 78 (YU.e k) := Zh (YU.p k) mix tyok Try.func78 trivial (by kernel_rfl) (fun a0 a1 a2 => Eq.trans (b := YU.m k a0 a1 a2 (fun z0 => some z0) (fun aH aI aJ => YU.r0 k a0 a1 a2 aH aI aJ k)) (by kernel_rfl) (congrArg (YU.m k a0 a1 a2 (fun z0 => some z0)) (funext fun aH => funext fun aI => funext fun aJ => funext fun v => YU.l0_eq k a0 a1 a2 aH aI aJ k v)))
noncomputable def YW.l0 {β : Type} (k : Nat) (aH : List (List D)) (aI : Int) (K : Int → Bool → Option β) (L0 : Int → Option β) (v : Int) : Option β :=
  match v with
  | aJ => bif (decide ((aJ : Int) < (aH.length : Int))) then (atR aH aJ [.n, .n] fun x18 x21 => (bif ((x18 : Int) == aI) then (atR aH aJ [.n, .n] fun x25 x28 => (K x28 true)) else (L0 (IntKind.wrap .i64 (aJ + 1))))) else (K 0 false)
noncomputable def YW.m {β : Type} (k : Nat) (a0 : List (List D)) (a1 : Int) (K : Int → Bool → Option β) (F : ((List (List D)) → Int → Int → Option β)) : Option β :=
  F a0 a1 (0)
noncomputable def YW.g {β : Type} (k : Nat) (a0 : List (List D)) (a1 : Int) (K : Int → Bool → Option β) : Option β :=
  Zo (YW.l0 k a0 a1 K) k (0)
noncomputable def YW.t (k : Nat) (a0 : List (List D)) (a1 : Int) : Option (Int × Bool) := YW.g k a0 a1 (fun z0 z1 => some (z0, z1))
noncomputable def YW.f {β : Type} (k : Nat) (a0 : List (List D)) (a1 : Int) (K : Int → Bool → Option β) : Option β := bd2 (YW.t k a0 a1) K
noncomputable def YW.e (k : Nat) : Zk := ent [.d .l, .d .n] [1, 1] [.n, .b] [3, 4] false (YW.t k)
noncomputable def YW.p (k : Nat) : Pro := ⟨Try.prog, [], Zn [(2, kp [0, 1, 6])] false [], k⟩
noncomputable def YW.d (k : Nat) (a0 : List (List D)) (a1 : Int) : Ex → St → Option (Int × Bool) := (YW.p k).fin Try.f80 [.d (.sl a0), .d (.int .i64 a1)] [1, 1] [.n, .b]
noncomputable def YW.s0 (aH : List (List D)) (aI v : Int) : St :=
  match v with
  | aJ => ZX 25 [(0, .d false (.sl aH)), (1, .d false (.int .i64 aI)), (6, .d true (.int .i64 aJ))] []
noncomputable def YW.r0 (k : Nat) (a0 : List (List D)) (a1 : Int) (aH : List (List D)) (aI : Int) (n : Nat) (v : Int) : Option (Int × Bool) := (YW.p k).lp (Zt Try.f80) 2 [1, 0, 1, 0] (YW.d k a0 a1) n (YW.s0 aH aI v)
theorem YW.l0_eq (k : Nat) (a0 : List (List D)) (a1 : Int) (aH : List (List D)) (aI : Int) : ∀ n v, YW.r0 k a0 a1 aH aI n v = Zo (YW.l0 k aH aI (fun z0 z1 => some (z0, z1))) n v :=
  Zm (YW.s0 aH aI) _ fun L0 v => by kernel_rfl
theorem YW.ok (k : Nat) : Za Try.prog 80 (YW.e k) := Zh (YW.p k) mix tyok Try.func80 trivial (by kernel_rfl) (fun a0 a1 => Eq.trans (b := YW.m k a0 a1 (fun z0 z1 => some (z0, z1)) (fun aH aI => YW.r0 k a0 a1 aH aI k)) (by kernel_rfl) (congrArg (YW.m k a0 a1 (fun z0 z1 => some (z0, z1))) (funext fun aH => funext fun aI => funext fun v => YW.l0_eq k a0 a1 aH aI k v)))
noncomputable def Y1.l0 {β : Type} (k : Nat) (aI : ByteArray) (aJ aK : Int) (aL aM : List (List D)) (aN : ByteArray) (aO aQ : Int) (aP : ByteArray) (aT aR : Int) (aU aZ : List (List C)) (K : ByteArray → Int → Int → (List (List C)) → (List (List C)) → Int → Int → Option β) (L0 : Int → Option β) (v : Int) : Option β :=
  match v with
  | aH => bif (decide ((aH : Int) < (aL.length : Int))) then (Yi.f k aM (fun y265 => bif (decide ((y265 : Int) < aJ)) then (atR aL aH [.n, .n, .n, .s, .n, .l, .l] fun x269 x272 x275 x278 x281 x284 x287 => (YW.f k aM x269 (fun y288 y289 => atR aL aH [.n, .n, .n, .s, .n, .l, .l] fun x293 x296 x299 x302 x305 x308 x311 => (bif (decide ((y288 : Int) < x296)) then (atR aL aH [.n, .n, .n, .s, .n, .l, .l] fun x315 x318 x321 x324 x327 x330 x333 => (YU.f k aM x315 (IntKind.wrap .i64 (y288 + 1)) (fun y334 => atR aL aH [.n, .n, .n, .s, .n, .l, .l] fun x338 x341 x344 x347 x350 x353 x356 => (K aP aT aR aU y334 x338 1)))) else (L0 (IntKind.wrap .i64 (aH + 1))))))) else (K aP aT aR aU aZ 0 0))) else (K aP aT aR aU aZ 0 0)
noncomputable def Y1.m {β : Type} (k : Nat) (aA : ByteArray) (aB aF : Int) (aD aC : List (List D)) (K : ByteArray → Int → Int → (List (List C)) → (List (List C)) → Int → Int → Option β) (F : (ByteArray → Int → Int → (List (List D)) → (List (List D)) → ByteArray → Int → Int → ByteArray → Int → Int → (List (List C)) → (List (List C)) → Int → Option β)) : Option β :=
  Yac.f k aA aB aF aD aC (fun y144 y145 y146 y147 y148 => YK.f k aA aB aF aD aC (fun y149 => bif (!y149) then (K y144 y145 y146 y147 y148 0 0) else (YL.f k aA aB aF aD aC (fun y150 => bif (decide ((y150 : Int) ≥ 0)) then (atR aC y150 [.n, .n] fun x154 x157 => (atR aC y150 [.n, .n] fun x161 x164 => (YU.f k aC x154 (IntKind.wrap .i64 (x164 - 1)) (fun y165 => atR aC y150 [.n, .n] fun x169 x172 => (K y144 y145 y146 y147 y165 x169 (-1)))))) else (F aA aB aF aD aC (⟨#[]⟩ : ByteArray) 0 0 y144 y145 y146 y147 y148 (0))))))
noncomputable def Y1.g {β : Type} (k : Nat) (aA : ByteArray) (aB aF : Int) (aD aC : List (List D)) (K : ByteArray → Int → Int → (List (List C)) → (List (List C)) → Int → Int → Option β) : Option β := Y1.m k aA aB aF aD aC K (fun aI aJ aK aL aM aN aO aQ aP aT aR aU aZ => Zo (Y1.l0 k aI aJ aK aL aM aN aO aQ aP aT aR aU aZ K) k)
noncomputable def Y1.t (k : Nat) (aA : ByteArray) (aB aF : Int) (aD aC : List (List D)) : Option (ByteArray × Int × Int × (List (List C)) × (List (List C)) × Int × Int) := Y1.g k aA aB aF aD aC (fun z0 z1 z2 z3 z4 z5 z6 => some (z0, z1, z2, z3, z4, z5, z6))
noncomputable def Y1.f {β : Type} (k : Nat) (aA : ByteArray) (aB aF : Int) (aD aC : List (List D)) (K : ByteArray → Int → Int → (List (List C)) → (List (List C)) → Int → Int → Option β) : Option β := match Y1.t k aA aB aF aD aC with | some (z0, z1, z2, z3, z4, z5, z6) => K z0 z1 z2 z3 z4 z5 z6 | none => none
noncomputable def Y1.e (k : Nat) : Zk := ent [.agg [.s, .n, .n, .l, .l]] [5, 1, 1] [.s, .n, .n, .o, .o, .n, .n] [47, 3, 3] false (Y1.t k)
noncomputable def Y1.p (k : Nat) : Pro := ⟨Try.prog, [(75, Yac.e k), (76, YK.e k), (77, YL.e k), (78, YU.e k), (79, Yi.e k), (80, YW.e k)], Zn [(9, kp [1, 2, 5, 7])] false [], k⟩
noncomputable def Y1.d (k : Nat) (aA : ByteArray) (aB aF : Int) (aD aC : List (List D)) : Ex → St → Option (ByteArray × Int × Int × (List (List C)) × (List (List C)) × Int × Int) := (Y1.p k).fin Try.f20 [.agg [.str aA, .int .i64 aB, .int .i64 aF, .sl aD, .sl aC]] [5, 1, 1] [.s, .n, .n, .o, .o, .n, .n]
noncomputable def Y1.s0 (aI : ByteArray) (aJ aK : Int) (aL aM : List (List D)) (aN : ByteArray) (aO aQ : Int) (aP : ByteArray) (aT aR : Int) (aU aZ : List (List C)) (v : Int) : St :=
  match v with
  | aH => ZX 99 [(1, .bp 0 0), (2, .bp 1 0), (5, .bp 2 0), (7, .d true (.int .i64 aH))] [.box none 47 [.d false (.str aI), .d false (.int .i64 aJ), .d false (.int .i64 aK), .d false (.sl aL), .d false (.sl aM)], .box none 47 [.d true (.str aN), .d true (.int .i64 aO), .d true (.int .i64 aQ), .nil, .nil], .box none 47 [.d true (.str aP), .d true (.int .i64 aT), .d true (.int .i64 aR), .row 3, .row 4], .row none true 44 aU, .row none true 45 aZ]
noncomputable def Y1.r0 (k : Nat) (aA : ByteArray) (aB aF : Int) (aD aC : List (List D)) (aI : ByteArray) (aJ aK : Int) (aL aM : List (List D)) (aN : ByteArray) (aO aQ : Int) (aP : ByteArray) (aT aR : Int) (aU aZ : List (List C)) (n : Nat) (v : Int) : Option (ByteArray × Int × Int × (List (List C)) × (List (List C)) × Int × Int) := (Y1.p k).lp (Zt Try.f20) 9 [1, 1, 1, 1, 0, 1, 0] (Y1.d k aA aB aF aD aC) n (Y1.s0 aI aJ aK aL aM aN aO aQ aP aT aR aU aZ v)
theorem Y1.l0_eq (k : Nat) (aA : ByteArray) (aB aF : Int) (aD aC : List (List D)) (aI : ByteArray) (aJ aK : Int) (aL aM : List (List D)) (aN : ByteArray) (aO aQ : Int) (aP : ByteArray) (aT aR : Int) (aU aZ : List (List C)) : ∀ n v, Y1.r0 k aA aB aF aD aC aI aJ aK aL aM aN aO aQ aP aT aR aU aZ n v = Zo (Y1.l0 k aI aJ aK aL aM aN aO aQ aP aT aR aU aZ (fun z0 z1 z2 z3 z4 z5 z6 => some (z0, z1, z2, z3, z4, z5, z6))) n v :=
  Zm (Y1.s0 aI aJ aK aL aM aN aO aQ aP aT aR aU aZ) _ fun L0 v => by kernel_rfl
theorem Y1.ok (k : Nat) : Za Try.prog 20 (Y1.e k) := Zh (Y1.p k) mix tyok Try.func20 ⟨Yac.ok k, YK.ok k, YL.ok k, YU.ok k, Yi.ok k, YW.ok k⟩ (by kernel_rfl) (fun aA aB aF aD aC => Eq.trans (b := Y1.m k aA aB aF aD aC (fun z0 z1 z2 z3 z4 z5 z6 => some (z0, z1, z2, z3, z4, z5, z6)) (fun aI aJ aK aL aM aN aO aQ aP aT aR aU aZ => Y1.r0 k aA aB aF aD aC aI aJ aK aL aM aN aO aQ aP aT aR aU aZ k)) (by kernel_rfl) (congrArg (Y1.m k aA aB aF aD aC (fun z0 z1 z2 z3 z4 z5 z6 => some (z0, z1, z2, z3, z4, z5, z6))) (funext fun aI => funext fun aJ => funext fun aK => funext fun aL => funext fun aM => funext fun aN => funext fun aO => funext fun aQ => funext fun aP => funext fun aT => funext fun aR => funext fun aU => funext fun aZ => funext fun v => Y1.l0_eq k aA aB aF aD aC aI aJ aK aL aM aN aO aQ aP aT aR aU aZ k v)))
noncomputable def Yam.g {β : Type} (k : Nat) (aA : ByteArray) (aB aF : Int) (aD aC : List (List D)) (K : Bool → Option β) : Option β :=
  Y1.f k aA aB aF aD aC (fun y357 y358 y359 y360 y361 y362 y363 => K ((y363 : Int) == 0))
noncomputable def Yam.t (k : Nat) (aA : ByteArray) (aB aF : Int) (aD aC : List (List D)) : Option (Bool) := Yam.g k aA aB aF aD aC (fun z0 => some z0)
noncomputable def Yam.f {β : Type} (k : Nat) (aA : ByteArray) (aB aF : Int) (aD aC : List (List D)) (K : Bool → Option β) : Option β := bd1 (Yam.t k aA aB aF aD aC) K
noncomputable def Yam.e (k : Nat) : Zk := ent [.agg [.s, .n, .n, .l, .l]] [1] [.b] [4] false (Yam.t k)
noncomputable def Yam.p (k : Nat) : Pro := ⟨Try.prog, [(20, Y1.e k)], Zn [] false [], k⟩
theorem Yam.ok (k : Nat) : Za Try.prog 26 (Yam.e k) := Zh (Yam.p k) mix tyok Try.func26 (Y1.ok k) (by kernel_rfl) (fun aA aB aF aD aC => by show _ = _; kernel_rfl)
noncomputable def YQ.g {β : Type} (k : Nat) (a0 : List (List D)) (K : (List (List C)) → Option β) : Option β :=
  let J0 := (Zc (ZaZ 1 a0) (Zc (([] : List (List C)).length + (a0.map (·.map C.d)).length ≤ ZN) (K (([] : List (List C)) ++ (a0.map (·.map C.d)))))); nilSl a0 (both (K ([] : List (List C))) J0) J0
noncomputable def YQ.t (k : Nat) (a0 : List (List D)) : Option ((List (List C))) := YQ.g k a0 (fun z0 => some z0)
noncomputable def YQ.f {β : Type} (k : Nat) (a0 : List (List D)) (K : (List (List C)) → Option β) : Option β := bd1 (YQ.t k a0) K
noncomputable def YQ.e (k : Nat) : Zk := ent [.d .l] [1] [.o] [74] false (YQ.t k)
noncomputable def YQ.p (k : Nat) : Pro := ⟨Try.prog, [], Zn [] false [], k⟩
theorem YQ.ok (k : Nat) : Za Try.prog 172 (YQ.e k) := Zh (YQ.p k) mix tyok Try.func172 trivial (by kernel_rfl) (fun a0 => by show _ = _; kernel_rfl)
noncomputable def Yg.l0 {β : Type} (k : Nat) (r_impl_copyValue : Int → ByteArray → Int → (List (List D)) → (List (List D)) → (Int → ByteArray → Int → (List (List C)) → (List (List C)) → Option β) → Option β) (aH : List (List D)) (aI : Int) (aK : Int) (aL : ByteArray) (aM : Int) (aN : List (List D)) (aO : Int) (aQ : ByteArray) (aP : Int) (aR : List (List C)) (K : Int → ByteArray → Int → (List (List C)) → (List (List C)) → Option β) (L0 : (Int × (List (List C))) → Option β) (v : Int × (List (List C))) : Option β :=
  match v with
  | (aJ, aT) => bif (decide ((aJ : Int) < aI)) then (atR aH aJ [.n, .s, .n, .l, .l] fun x26 x29 x32 x35 x38 => (r_impl_copyValue x26 x29 x32 x35 x38 (fun y39 y40 y41 y42 y43 => Zc (aT.length + ([[.d (.int .i64 y39), .d (.str y40), .d (.int .i64 y41), .own y42, .own y43]] : List (List C)).length ≤ ZN) (L0 (IntKind.wrap .i64 (aJ + 1), aT ++ ([[.d (.int .i64 y39), .d (.str y40), .d (.int .i64 y41), .own y42, .own y43]] : List (List C))))))) else (K aK aL aM aR aT)
noncomputable def Yg.m {β : Type} (k : Nat) (r_impl_copyValue : Int → ByteArray → Int → (List (List D)) → (List (List D)) → (Int → ByteArray → Int → (List (List C)) → (List (List C)) → Option β) → Option β) (aA : Int) (aB : ByteArray) (aF : Int) (aD : List (List D)) (aC : List (List D)) (K : Int → ByteArray → Int → (List (List C)) → (List (List C)) → Option β) (F : ((List (List D)) → Int → Int → ByteArray → Int → (List (List D)) → Int → ByteArray → Int → (List (List C)) → (Int × (List (List C))) → Option β)) : Option β :=
  YQ.f k aD (fun y1 => F aC (aC.length : Int) aA aB aF aC 0 (⟨#[]⟩ : ByteArray) 0 y1 (0, ([] : List (List C))))
noncomputable def Yg.body {β : Type} (k : Nat) (r_impl_copyValue : Int → ByteArray → Int → (List (List D)) → (List (List D)) → (Int → ByteArray → Int → (List (List C)) → (List (List C)) → Option β) → Option β) (aA : Int) (aB : ByteArray) (aF : Int) (aD : List (List D)) (aC : List (List D)) (K : Int → ByteArray → Int → (List (List C)) → (List (List C)) → Option β) : Option β :=
  YQ.f k aD (fun y1 => Zo (Yg.l0 k r_impl_copyValue aC (aC.length : Int) aA aB aF aC 0 (⟨#[]⟩ : ByteArray) 0 y1 K) k (0, ([] : List (List C))))
noncomputable def Yg.w {β : Type} (r : Int → ByteArray → Int → (List (List D)) → (List (List D)) → Option (Int × ByteArray × Int × (List (List C)) × (List (List C)))) (aA : Int) (aB : ByteArray) (aF : Int) (aD : List (List D)) (aC : List (List D)) (K : Int → ByteArray → Int → (List (List C)) → (List (List C)) → Option β) : Option β := bd5 (r aA aB aF aD aC) K
noncomputable def Yg.all : Nat → (Int → ByteArray → Int → (List (List D)) → (List (List D)) → Option (Int × ByteArray × Int × (List (List C)) × (List (List C))))
  | 0 => (fun _ _ _ _ _ => none)
  | k + 1 => (fun r => (fun aA aB aF aD aC => Yg.body k (Yg.w r) aA aB aF aD aC (fun z0 z1 z2 z3 z4 => some (z0, z1, z2, z3, z4)))) (Yg.all k)
noncomputable def Yg.t (k : Nat) (aA : Int) (aB : ByteArray) (aF : Int) (aD aC : List (List D)) : Option (Int × ByteArray × Int × (List (List C)) × (List (List C))) := (Yg.all k) aA aB aF aD aC
noncomputable def Yg.f {β : Type} (k : Nat) (aA : Int) (aB : ByteArray) (aF : Int) (aD aC : List (List D)) (K : Int → ByteArray → Int → (List (List C)) → (List (List C)) → Option β) : Option β := Yg.w (Yg.t k) aA aB aF aD aC K
noncomputable def Yg.g {β : Type} (k : Nat) (aA : Int) (aB : ByteArray) (aF : Int) (aD aC : List (List D)) (K : Int → ByteArray → Int → (List (List C)) → (List (List C)) → Option β) : Option β := Yg.body k (Yg.f k) aA aB aF aD aC K
theorem Yg.t_succ (k : Nat) (aA : Int) (aB : ByteArray) (aF : Int) (aD aC : List (List D)) : Yg.t (k + 1) aA aB aF aD aC = Yg.g k aA aB aF aD aC (fun z0 z1 z2 z3 z4 => some (z0, z1, z2, z3, z4)) := rfl
noncomputable def Yg.e (k : Nat) : Zk := ent [.agg [.n, .s, .n, .l, .l]] [5] [.n, .s, .n, .o, .o] [95] false (Yg.t k)
noncomputable def Yg.p (k : Nat) : Pro := ⟨Try.prog, [(172, YQ.e k), (191, Yg.e k)], Zn [(4, kp [1, 2, 3, 12, 13, 14])] false [], k⟩
noncomputable def Yg.d (k : Nat) (aA : Int) (aB : ByteArray) (aF : Int) (aD aC : List (List D)) : Ex → St → Option (Int × ByteArray × Int × (List (List C)) × (List (List C))) := (Yg.p k).fin Try.f191 [.agg [.int .i64 aA, .str aB, .int .i64 aF, .sl aD, .sl aC]] [5] [.n, .s, .n, .o, .o]
noncomputable def Yg.s0 (aH : List (List D)) (aI aK : Int) (aL : ByteArray) (aM : Int) (aN : List (List D)) (aO : Int) (aQ : ByteArray) (aP : Int) (aR : List (List C)) (v : Int × (List (List C))) : St :=
  match v with
  | (aJ, aT) => ZX 27 [(1, .bp 0 0), (2, .bp 1 0), (3, .row 2), (12, .d false (.sl aH)), (13, .d true (.int .i64 aI)), (14, .d true (.int .i64 aJ))] [.box none 95 [.d false (.int .i64 aK), .d false (.str aL), .d false (.int .i64 aM), .row 3, .d false (.sl aN)], .box none 95 [.d true (.int .i64 aO), .d true (.str aQ), .d true (.int .i64 aP), .nil, .nil], .row none true 93 aT, .row none true 74 aR]
noncomputable def Yg.r0 (k : Nat) (aA : Int) (aB : ByteArray) (aF : Int) (aD aC aH : List (List D)) (aI aK : Int) (aL : ByteArray) (aM : Int) (aN : List (List D)) (aO : Int) (aQ : ByteArray) (aP : Int) (aR : List (List C)) (n : Nat) (v : Int × (List (List C))) : Option (Int × ByteArray × Int × (List (List C)) × (List (List C))) := (Yg.p k).lp (Zt Try.f191) 4 [1, 1, 1, 0, 1, 0] (Yg.d k aA aB aF aD aC) n (Yg.s0 aH aI aK aL aM aN aO aQ aP aR v)
theorem Yg.l0_eq (k : Nat) (aA : Int) (aB : ByteArray) (aF : Int) (aD aC aH : List (List D)) (aI aK : Int) (aL : ByteArray) (aM : Int) (aN : List (List D)) (aO : Int) (aQ : ByteArray) (aP : Int) (aR : List (List C)) : ∀ n v, Yg.r0 k aA aB aF aD aC aH aI aK aL aM aN aO aQ aP aR n v = Zo (Yg.l0 k (Yg.f k) aH aI aK aL aM aN aO aQ aP aR (fun z0 z1 z2 z3 z4 => some (z0, z1, z2, z3, z4))) n v :=
  Zm (Yg.s0 aH aI aK aL aM aN aO aQ aP aR) _ fun L0 v => by obtain ⟨aJ, aT⟩ := v; kernel_rfl
theorem Yg.oks (k : Nat) : Za Try.prog 191 (Yg.e k) := by
  induction k with
  | zero => exact Z7 Try.func191 (by kernel_rfl) (fun _ _ _ _ _ => rfl)
  | succ k ih => exact Zh (Yg.p k) mix tyok Try.func191 ⟨YQ.ok k, ih⟩ (by kernel_rfl) (fun aA aB aF aD aC => Eq.trans (b := Yg.m k (Yg.f k) aA aB aF aD aC (fun z0 z1 z2 z3 z4 => some (z0, z1, z2, z3, z4)) (fun aH aI aK aL aM aN aO aQ aP aR => Yg.r0 k aA aB aF aD aC aH aI aK aL aM aN aO aQ aP aR k)) (by kernel_rfl) ((congrArg (Yg.m k (Yg.f k) aA aB aF aD aC (fun z0 z1 z2 z3 z4 => some (z0, z1, z2, z3, z4))) (funext fun aH => funext fun aI => funext fun aK => funext fun aL => funext fun aM => funext fun aN => funext fun aO => funext fun aQ => funext fun aP => funext fun aR => funext fun v => Yg.l0_eq k aA aB aF aD aC aH aI aK aL aM aN aO aQ aP aR k v)).trans (Yg.t_succ k aA aB aF aD aC).symm))
theorem Yg.ok (k : Nat) : Za Try.prog 191 (Yg.e k) := (Yg.oks k)
noncomputable def Yw.l0 {β : Type} (k : Nat) (aH : List (List D)) (aI : Int) (K : (List (List C)) → Option β) (L0 : (Int × (List (List C))) → Option β) (v : Int × (List (List C))) : Option β :=
  match v with
  | (aJ, aK) => bif (decide ((aJ : Int) < aI)) then (atR aH aJ [.n, .n, .n, .s, .n, .l, .l] fun x52 x55 x58 x61 x64 x67 x70 => (Yg.f k x58 x61 x64 x67 x70 (fun y71 y72 y73 y74 y75 => Zc (aK.length + ([[.d (.int .i64 x52), .d (.int .i64 x55), .d (.int .i64 y71), .d (.str y72), .d (.int .i64 y73), .own y74, .own y75]] : List (List C)).length ≤ ZN) (L0 (IntKind.wrap .i64 (aJ + 1), aK ++ ([[.d (.int .i64 x52), .d (.int .i64 x55), .d (.int .i64 y71), .d (.str y72), .d (.int .i64 y73), .own y74, .own y75]] : List (List C))))))) else (K aK)
noncomputable def Yw.m {β : Type} (k : Nat) (a0 : List (List D)) (K : (List (List C)) → Option β) (F : ((List (List D)) → Int → (Int × (List (List C))) → Option β)) : Option β :=
  F a0 (a0.length : Int) (0, ([] : List (List C)))
noncomputable def Yw.g {β : Type} (k : Nat) (a0 : List (List D)) (K : (List (List C)) → Option β) : Option β :=
  Zo (Yw.l0 k a0 (a0.length : Int) K) k (0, ([] : List (List C)))
noncomputable def Yw.t (k : Nat) (a0 : List (List D)) : Option ((List (List C))) := Yw.g k a0 (fun z0 => some z0)
noncomputable def Yw.f {β : Type} (k : Nat) (a0 : List (List D)) (K : (List (List C)) → Option β) : Option β := bd1 (Yw.t k a0) K
noncomputable def Yw.e (k : Nat) : Zk := ent [.d .l] [1] [.o] [44] false (Yw.t k)
noncomputable def Yw.p (k : Nat) : Pro := ⟨Try.prog, [(191, Yg.e k)], Zn [(3, kp [3, 7, 8, 9])] false [], k⟩
noncomputable def Yw.d (k : Nat) (a0 : List (List D)) : Ex → St → Option ((List (List C))) := (Yw.p k).fin Try.f149 [.d (.sl a0)] [1] [.o]
noncomputable def Yw.s0 (aH : List (List D)) (aI : Int) (v : Int × (List (List C))) : St :=
  match v with
  | (aJ, aK) => ZX 26 [(3, .row 0), (7, .d false (.sl aH)), (8, .d true (.int .i64 aI)), (9, .d true (.int .i64 aJ))] [.row none true 44 aK]
noncomputable def Yw.r0 (k : Nat) (a0 aH : List (List D)) (aI : Int) (n : Nat) (v : Int × (List (List C))) : Option ((List (List C))) := (Yw.p k).lp (Zt Try.f149) 3 [1, 1, 0, 1, 0] (Yw.d k a0) n (Yw.s0 aH aI v)
theorem Yw.l0_eq (k : Nat) (a0 aH : List (List D)) (aI : Int) : ∀ n v, Yw.r0 k a0 aH aI n v = Zo (Yw.l0 k aH aI (fun z0 => some z0)) n v :=
  Zm (Yw.s0 aH aI) _ fun L0 v => by obtain ⟨aJ, aK⟩ := v; kernel_rfl
theorem Yw.ok (k : Nat) : Za Try.prog 149 (Yw.e k) := Zh (Yw.p k) mix tyok Try.func149 (Yg.ok k) (by kernel_rfl) (fun a0 => Eq.trans (b := Yw.m k a0 (fun z0 => some z0) (fun aH aI => Yw.r0 k a0 aH aI k)) (by kernel_rfl) (congrArg (Yw.m k a0 (fun z0 => some z0)) (funext fun aH => funext fun aI => funext fun v => Yw.l0_eq k a0 aH aI k v)))
noncomputable def YN.g {β : Type} (k : Nat) (a0 : List (List D)) (K : (List (List C)) → Option β) : Option β :=
  let J0 := (Zc (ZaZ 2 a0) (Zc (([] : List (List C)).length + (a0.map (·.map C.d)).length ≤ ZN) (K (([] : List (List C)) ++ (a0.map (·.map C.d)))))); nilSl a0 (both (K ([] : List (List C))) J0) J0
noncomputable def YN.t (k : Nat) (a0 : List (List D)) : Option ((List (List C))) := YN.g k a0 (fun z0 => some z0)
noncomputable def YN.f {β : Type} (k : Nat) (a0 : List (List D)) (K : (List (List C)) → Option β) : Option β := bd1 (YN.t k a0) K
noncomputable def YN.e (k : Nat) : Zk := ent [.d .l] [1] [.o] [45] false (YN.t k)
noncomputable def YN.p (k : Nat) : Pro := ⟨Try.prog, [], Zn [] false [], k⟩
theorem YN.ok (k : Nat) : Za Try.prog 96 (YN.e k) := Zh (YN.p k) mix tyok Try.func96 trivial (by kernel_rfl) (fun a0 => by show _ = _; kernel_rfl)
noncomputable def Y8.g {β : Type} (k : Nat) (aA : ByteArray) (aB aF : Int) (aD aC : List (List D)) (K : ByteArray → Int → Int → (List (List C)) → (List (List C)) → Option β) : Option β :=
  Yw.f k aD (fun y76 => YN.f k aC (fun y77 => K aA aB aF y76 y77))
noncomputable def Y8.t (k : Nat) (aA : ByteArray) (aB aF : Int) (aD aC : List (List D)) : Option (ByteArray × Int × Int × (List (List C)) × (List (List C))) := Y8.g k aA aB aF aD aC (fun z0 z1 z2 z3 z4 => some (z0, z1, z2, z3, z4))
noncomputable def Y8.f {β : Type} (k : Nat) (aA : ByteArray) (aB aF : Int) (aD aC : List (List D)) (K : ByteArray → Int → Int → (List (List C)) → (List (List C)) → Option β) : Option β := bd5 (Y8.t k aA aB aF aD aC) K
noncomputable def Y8.e (k : Nat) : Zk := ent [.agg [.s, .n, .n, .l, .l]] [5] [.s, .n, .n, .o, .o] [47] false (Y8.t k)
noncomputable def Y8.p (k : Nat) : Pro := ⟨Try.prog, [(149, Yw.e k), (96, YN.e k)], Zn [] false [], k⟩
theorem Y8.ok (k : Nat) : Za Try.prog 83 (Y8.e k) := Zh (Y8.p k) mix tyok Try.func83 ⟨Yw.ok k, YN.ok k⟩ (by kernel_rfl) (fun aA aB aF aD aC => by show _ = _; kernel_rfl)
noncomputable def YX.g {β : Type} (k : Nat) (a0 a1 a2 : Int) (K : Bool → Option β) : Option β :=
  bif (decide ((a0 : Int) ≥ a1)) then (K (decide ((a0 : Int) ≤ a2))) else (K false)
noncomputable def YX.t (k : Nat) (a0 a1 a2 : Int) : Option (Bool) := YX.g k a0 a1 a2 (fun z0 => some z0)
noncomputable def YX.f {β : Type} (k : Nat) (a0 a1 a2 : Int) (K : Bool → Option β) : Option β := bd1 (YX.t k a0 a1 a2) K
noncomputable def YX.e (k : Nat) : Zk := ent [.d .n, .d .n, .d .n] [1] [.b] [4] false (YX.t k)
noncomputable def YX.p (k : Nat) : Pro := ⟨Try.prog, [], Zn [] false [], k⟩
theorem YX.ok (k : Nat) : Za Try.prog 61 (YX.e k) := Zh (YX.p k) mix tyok Try.func61 trivial (by kernel_rfl) (fun a0 a1 a2 => by show _ = _; kernel_rfl)
noncomputable def YS.l0 {β : Type} (k : Nat) (aH : ByteArray) (aI : Int) (K : Bool → Option β) (L0 : Int → Option β) (v : Int) : Option β :=
  match v with
  | aJ => bif (decide ((aJ : Int) < aI)) then (Za0 aH aJ fun b5 => let J1 := (bif ((b5 : Int) != 45) then (K false) else (L0 (IntKind.wrap .i64 (aJ + 1)))); let J0 := (bif (decide ((b5 : Int) < 48)) then J1 else (bif (decide ((b5 : Int) > 57)) then J1 else (L0 (IntKind.wrap .i64 (aJ + 1))))); bif (decide ((b5 : Int) < 97)) then J0 else (bif (decide ((b5 : Int) > 122)) then J0 else (L0 (IntKind.wrap .i64 (aJ + 1))))) else (YX.f k (aH.size : Int) 1 20 (fun y6 => bif y6 then (Za0 aH 0 fun b7 => bif ((b7 : Int) != 45) then (Za0 aH (IntKind.wrap .i64 ((aH.size : Int) - 1)) fun b8 => K ((b8 : Int) != 45)) else (K false)) else (K false)))
noncomputable def YS.m {β : Type} (k : Nat) (a0 : ByteArray) (K : Bool → Option β) (F : (ByteArray → Int → Int → Option β)) : Option β :=
  F a0 (a0.size : Int) (0)
noncomputable def YS.g {β : Type} (k : Nat) (a0 : ByteArray) (K : Bool → Option β) : Option β :=
  Zo (YS.l0 k a0 (a0.size : Int) K) k (0)
noncomputable def YS.t (k : Nat) (a0 : ByteArray) : Option (Bool) := YS.g k a0 (fun z0 => some z0)
noncomputable def YS.f {β : Type} (k : Nat) (a0 : ByteArray) (K : Bool → Option β) : Option β := bd1 (YS.t k a0) K
noncomputable def YS.e (k : Nat) : Zk := ent [.d .s] [1] [.b] [4] false (YS.t k)
noncomputable def YS.p (k : Nat) : Pro := ⟨Try.prog, [(61, YX.e k)], Zn [(2, kp [0, 6, 7])] false [], k⟩
noncomputable def YS.d (k : Nat) (a0 : ByteArray) : Ex → St → Option (Bool) := (YS.p k).fin Try.f126 [.d (.str a0)] [1] [.b]
noncomputable def YS.s0 (aH : ByteArray) (aI v : Int) : St :=
  match v with
  | aJ => ZX 48 [(0, .d false (.str aH)), (6, .d true (.int .i64 aI)), (7, .d true (.int .i64 aJ))] []
noncomputable def YS.r0 (k : Nat) (a0 aH : ByteArray) (aI : Int) (n : Nat) (v : Int) : Option (Bool) := (YS.p k).lp (Zt Try.f126) 2 [1, 0, 1, 0] (YS.d k a0) n (YS.s0 aH aI v)
theorem YS.l0_eq (k : Nat) (a0 aH : ByteArray) (aI : Int) : ∀ n v, YS.r0 k a0 aH aI n v = Zo (YS.l0 k aH aI (fun z0 => some z0)) n v :=
  Zm (YS.s0 aH aI) _ fun L0 v => by kernel_rfl
theorem YS.ok (k : Nat) : Za Try.prog 126 (YS.e k) := Zh (YS.p k) mix tyok Try.func126 (YX.ok k) (by kernel_rfl) (fun a0 => Eq.trans (b := YS.m k a0 (fun z0 => some z0) (fun aH aI => YS.r0 k a0 aH aI k)) (by kernel_rfl) (congrArg (YS.m k a0 (fun z0 => some z0)) (funext fun aH => funext fun aI => funext fun v => YS.l0_eq k a0 aH aI k v)))
noncomputable def Y2.g {β : Type} (k : Nat) (a0 : Int) (K : Bool → Option β) : Option β :=
  YX.f k a0 0 10000 (fun y1 => K y1)
noncomputable def Y2.t (k : Nat) (a0 : Int) : Option (Bool) := Y2.g k a0 (fun z0 => some z0)
noncomputable def Y2.f {β : Type} (k : Nat) (a0 : Int) (K : Bool → Option β) : Option β := bd1 (Y2.t k a0) K
noncomputable def Y2.e (k : Nat) : Zk := ent [.d .n] [1] [.b] [4] false (Y2.t k)
noncomputable def Y2.p (k : Nat) : Pro := ⟨Try.prog, [(61, YX.e k)], Zn [] false [], k⟩
theorem Y2.ok (k : Nat) : Za Try.prog 150 (Y2.e k) := Zh (Y2.p k) mix tyok Try.func150 (YX.ok k) (by kernel_rfl) (fun a0 => by show _ = _; kernel_rfl)
noncomputable def YM.l0 {β : Type} (k : Nat) (aH : List (List D)) (aI : Int) (aJ : List (List D)) (aK : Int) (K : Bool → Option β) (L0 : Int → Option β) (v : Int) : Option β :=
  match v with
  | aL => bif (decide ((aL : Int) < aK)) then (atR aJ aL [.s] fun x13 => (YS.f k x13 (fun y14 => bif (!y14) then (K false) else (bif (decide ((aL : Int) > 0)) then (atR aH (IntKind.wrap .i64 (aL - 1)) [.s] fun x18 => (bif (!(ZbO x18 x13)) then (K false) else (L0 (IntKind.wrap .i64 (aL + 1))))) else (L0 (IntKind.wrap .i64 (aL + 1))))))) else (K (decide (((aH.length : Int) : Int) ≤ aI)))
noncomputable def YM.m {β : Type} (k : Nat) (a0 : List (List D)) (a1 : Int) (K : Bool → Option β) (F : ((List (List D)) → Int → (List (List D)) → Int → Int → Option β)) : Option β :=
  F a0 a1 a0 (a0.length : Int) (0)
noncomputable def YM.g {β : Type} (k : Nat) (a0 : List (List D)) (a1 : Int) (K : Bool → Option β) : Option β :=
  Zo (YM.l0 k a0 a1 a0 (a0.length : Int) K) k (0)
noncomputable def YM.t (k : Nat) (a0 : List (List D)) (a1 : Int) : Option (Bool) := YM.g k a0 a1 (fun z0 => some z0)
noncomputable def YM.f {β : Type} (k : Nat) (a0 : List (List D)) (a1 : Int) (K : Bool → Option β) : Option β := bd1 (YM.t k a0 a1) K
noncomputable def YM.e (k : Nat) : Zk := ent [.d .l, .d .n] [1] [.b] [4] false (YM.t k)
noncomputable def YM.p (k : Nat) : Pro := ⟨Try.prog, [(126, YS.e k)], Zn [(2, kp [0, 1, 7, 8, 9])] false [], k⟩
noncomputable def YM.d (k : Nat) (a0 : List (List D)) (a1 : Int) : Ex → St → Option (Bool) := (YM.p k).fin Try.f189 [.d (.sl a0), .d (.int .i64 a1)] [1] [.b]
noncomputable def YM.s0 (aH : List (List D)) (aI : Int) (aJ : List (List D)) (aK v : Int) : St :=
  match v with
  | aL => ZX 35 [(0, .d false (.sl aH)), (1, .d false (.int .i64 aI)), (7, .d false (.sl aJ)), (8, .d true (.int .i64 aK)), (9, .d true (.int .i64 aL))] []
noncomputable def YM.r0 (k : Nat) (a0 : List (List D)) (a1 : Int) (aH : List (List D)) (aI : Int) (aJ : List (List D)) (aK : Int) (n : Nat) (v : Int) : Option (Bool) := (YM.p k).lp (Zt Try.f189) 2 [1, 0, 1, 0] (YM.d k a0 a1) n (YM.s0 aH aI aJ aK v)
theorem YM.l0_eq (k : Nat) (a0 : List (List D)) (a1 : Int) (aH : List (List D)) (aI : Int) (aJ : List (List D)) (aK : Int) : ∀ n v, YM.r0 k a0 a1 aH aI aJ aK n v = Zo (YM.l0 k aH aI aJ aK (fun z0 => some z0)) n v :=
  Zm (YM.s0 aH aI aJ aK) _ fun L0 v => by kernel_rfl
theorem YM.ok (k : Nat) : Za Try.prog 189 (YM.e k) := Zh (YM.p k) mix tyok Try.func189 (YS.ok k) (by kernel_rfl) (fun a0 a1 => Eq.trans (b := YM.m k a0 a1 (fun z0 => some z0) (fun aH aI aJ aK => YM.r0 k a0 a1 aH aI aJ aK k)) (by kernel_rfl) (congrArg (YM.m k a0 a1 (fun z0 => some z0)) (funext fun aH => funext fun aI => funext fun aJ => funext fun aK => funext fun v => YM.l0_eq k a0 a1 aH aI aJ aK k v)))
noncomputable def YC.l0 {β : Type} (k : Nat) (aH aI aJ : Bool) (aK aM : Int) (aN : ByteArray) (aO : Int) (aQ aP : List (List D)) (K : Bool → Option β) (L0 : Int → Option β) (v : Int) : Option β :=
  match v with
  | aL => bif (decide ((aL : Int) < aK)) then (Za0 aN aL fun b3 => YX.f k (IntKind.wrap .i64 b3) 32 126 (fun y4 => bif (!y4) then (K false) else (L0 (IntKind.wrap .i64 (aL + 1))))) else (bif (decide (((aN.size : Int) : Int) ≤ 100)) then (bif aH then (bif aI then (K aJ) else (K false)) else (K false)) else (K false))
noncomputable def YC.m {β : Type} (k : Nat) (aA : Int) (aB : ByteArray) (aF : Int) (aD aC : List (List D)) (K : Bool → Option β) (F : (Bool → Bool → Bool → Int → Int → ByteArray → Int → (List (List D)) → (List (List D)) → Int → Option β)) : Option β :=
  bif ((aA : Int) == 1) then (F ((aF : Int) == 0) (((aD.length : Int) : Int) == 0) (((aC.length : Int) : Int) == 0) (aB.size : Int) aA aB aF aD aC (0)) else (let J0 := (bif (((aD.length : Int) : Int) == 0) then (K (((aC.length : Int) : Int) == 0)) else (K false)); bif ((aA : Int) == 2) then (bif (Zae aB (⟨#[]⟩ : ByteArray)) then J0 else (K false)) else (bif ((aA : Int) == 3) then (YX.f k aF 0 1 (fun y5 => bif (Zae aB (⟨#[]⟩ : ByteArray)) then (bif y5 then J0 else (K false)) else (K false))) else (bif ((aA : Int) == 4) then (bif (Zae aB (⟨#[]⟩ : ByteArray)) then (bif ((aF : Int) == 0) then (bif (((aD.length : Int) : Int) == 0) then (K true) else (K false)) else (K false)) else (K false)) else (bif ((aA : Int) == 5) then (YM.f k aD 300 (fun y19 => bif y19 then (bif (Zae aB (⟨#[]⟩ : ByteArray)) then (bif ((aF : Int) == 0) then (bif (((aD.length : Int) : Int) == (aC.length : Int)) then (K true) else (K false)) else (K false)) else (K false)) else (bif (Zae aB (⟨#[]⟩ : ByteArray)) then (bif ((aF : Int) == 0) then (K false) else (K false)) else (K false)))) else (K false)))))
noncomputable def YC.g {β : Type} (k : Nat) (aA : Int) (aB : ByteArray) (aF : Int) (aD aC : List (List D)) (K : Bool → Option β) : Option β := YC.m k aA aB aF aD aC K (fun aH aI aJ aK aM aN aO aQ aP => Zo (YC.l0 k aH aI aJ aK aM aN aO aQ aP K) k)
noncomputable def YC.t (k : Nat) (aA : Int) (aB : ByteArray) (aF : Int) (aD aC : List (List D)) : Option (Bool) := YC.g k aA aB aF aD aC (fun z0 => some z0)
noncomputable def YC.f {β : Type} (k : Nat) (aA : Int) (aB : ByteArray) (aF : Int) (aD aC : List (List D)) (K : Bool → Option β) : Option β := bd1 (YC.t k aA aB aF aD aC) K
noncomputable def YC.e (k : Nat) : Zk := ent [.agg [.n, .s, .n, .l, .l]] [1] [.b] [4] false (YC.t k)
noncomputable def YC.p (k : Nat) : Pro := ⟨Try.prog, [(61, YX.e k), (189, YM.e k)], Zn [(6, kp [1, 4, 5, 6, 28, 29])] false [], k⟩
noncomputable def YC.d (k : Nat) (aA : Int) (aB : ByteArray) (aF : Int) (aD aC : List (List D)) : Ex → St → Option (Bool) := (YC.p k).fin Try.f217 [.agg [.int .i64 aA, .str aB, .int .i64 aF, .sl aD, .sl aC]] [1] [.b]
noncomputable def YC.s0 (aH aI aJ : Bool) (aK aM : Int) (aN : ByteArray) (aO : Int) (aQ aP : List (List D)) (v : Int) : St :=
  match v with
  | aL => ZX 77 [(1, .bp 0 0), (4, .d true (.bool aH)), (5, .d true (.bool aI)), (6, .d true (.bool aJ)), (28, .d true (.int .i64 aK)), (29, .d true (.int .i64 aL))] [.box none 95 [.d false (.int .i64 aM), .d false (.str aN), .d false (.int .i64 aO), .d false (.sl aQ), .d false (.sl aP)]]
noncomputable def YC.r0 (k : Nat) (aA : Int) (aB : ByteArray) (aF : Int) (aD aC : List (List D)) (aH aI aJ : Bool) (aK aM : Int) (aN : ByteArray) (aO : Int) (aQ aP : List (List D)) (n : Nat) (v : Int) : Option (Bool) := (YC.p k).lp (Zt Try.f217) 6 [1, 1, 0, 1, 0, 1, 0, 0, 1, 0] (YC.d k aA aB aF aD aC) n (YC.s0 aH aI aJ aK aM aN aO aQ aP v)
theorem YC.l0_eq (k : Nat) (aA : Int) (aB : ByteArray) (aF : Int) (aD aC : List (List D)) (aH aI aJ : Bool) (aK aM : Int) (aN : ByteArray) (aO : Int) (aQ aP : List (List D)) : ∀ n v, YC.r0 k aA aB aF aD aC aH aI aJ aK aM aN aO aQ aP n v = Zo (YC.l0 k aH aI aJ aK aM aN aO aQ aP (fun z0 => some z0)) n v :=
  Zm (YC.s0 aH aI aJ aK aM aN aO aQ aP) _ fun L0 v => by kernel_rfl
theorem YC.ok (k : Nat) : Za Try.prog 217 (YC.e k) := Zh (YC.p k) mix tyok Try.func217 ⟨YX.ok k, YM.ok k⟩ (by kernel_rfl) (fun aA aB aF aD aC => Eq.trans (b := YC.m k aA aB aF aD aC (fun z0 => some z0) (fun aH aI aJ aK aM aN aO aQ aP => YC.r0 k aA aB aF aD aC aH aI aJ aK aM aN aO aQ aP k)) (by kernel_rfl) (congrArg (YC.m k aA aB aF aD aC (fun z0 => some z0)) (funext fun aH => funext fun aI => funext fun aJ => funext fun aK => funext fun aM => funext fun aN => funext fun aO => funext fun aQ => funext fun aP => funext fun v => YC.l0_eq k aA aB aF aD aC aH aI aJ aK aM aN aO aQ aP k v)))
noncomputable def Yj.l0 {β : Type} (k : Nat) (r_impl_measured : Int → ByteArray → Int → (List (List D)) → (List (List D)) → Int → (Int → Option β) → Option β) (aH : Int) (aJ : List (List D)) (aK : Int) (K : Int → Option β) (L0 : (Int × Int) → Option β) (v : Int × Int) : Option β :=
  match v with
  | (aI, aL) => bif (decide ((aL : Int) < aK)) then (atR aJ aL [.n, .s, .n, .l, .l] fun x41 x44 x47 x50 x53 => (r_impl_measured x41 x44 x47 x50 x53 (IntKind.wrap .i64 (aH - 1)) (fun y54 => bif (decide (((IntKind.wrap .i64 (aI + y54)) : Int) > 300)) then (K 301) else (L0 (IntKind.wrap .i64 (aI + y54), IntKind.wrap .i64 (aL + 1)))))) else (K aI)
noncomputable def Yj.m {β : Type} (k : Nat) (r_impl_measured : Int → ByteArray → Int → (List (List D)) → (List (List D)) → Int → (Int → Option β) → Option β) (aA : Int) (aB : ByteArray) (aF : Int) (aD : List (List D)) (aC : List (List D)) (a1 : Int) (K : Int → Option β) (F : (Int → (List (List D)) → Int → (Int × Int) → Option β)) : Option β :=
  bif ((a1 : Int) == 0) then (K 301) else (YC.f k aA aB aF aD aC (fun y20 => bif (!y20) then (K 301) else (F a1 aC (aC.length : Int) (1, 0))))
noncomputable def Yj.body {β : Type} (k : Nat) (r_impl_measured : Int → ByteArray → Int → (List (List D)) → (List (List D)) → Int → (Int → Option β) → Option β) (aA : Int) (aB : ByteArray) (aF : Int) (aD : List (List D)) (aC : List (List D)) (a1 : Int) (K : Int → Option β) : Option β :=
  bif ((a1 : Int) == 0) then (K 301) else (YC.f k aA aB aF aD aC (fun y20 => bif (!y20) then (K 301) else (Zo (Yj.l0 k r_impl_measured a1 aC (aC.length : Int) K) k (1, 0))))
noncomputable def Yj.w {β : Type} (r : Int → ByteArray → Int → (List (List D)) → (List (List D)) → Int → Option (Int)) (aA : Int) (aB : ByteArray) (aF : Int) (aD : List (List D)) (aC : List (List D)) (a1 : Int) (K : Int → Option β) : Option β := bd1 (r aA aB aF aD aC a1) K
noncomputable def Yj.all : Nat → (Int → ByteArray → Int → (List (List D)) → (List (List D)) → Int → Option (Int))
  | 0 => (fun _ _ _ _ _ _ => none)
  | k + 1 => (fun r => (fun aA aB aF aD aC a1 => Yj.body k (Yj.w r) aA aB aF aD aC a1 (fun z0 => some z0))) (Yj.all k)
noncomputable def Yj.t (k : Nat) (aA : Int) (aB : ByteArray) (aF : Int) (aD aC : List (List D)) (a1 : Int) : Option (Int) := (Yj.all k) aA aB aF aD aC a1
noncomputable def Yj.f {β : Type} (k : Nat) (aA : Int) (aB : ByteArray) (aF : Int) (aD aC : List (List D)) (a1 : Int) (K : Int → Option β) : Option β := Yj.w (Yj.t k) aA aB aF aD aC a1 K
noncomputable def Yj.g {β : Type} (k : Nat) (aA : Int) (aB : ByteArray) (aF : Int) (aD aC : List (List D)) (a1 : Int) (K : Int → Option β) : Option β := Yj.body k (Yj.f k) aA aB aF aD aC a1 K
theorem Yj.t_succ (k : Nat) (aA : Int) (aB : ByteArray) (aF : Int) (aD aC : List (List D)) (a1 : Int) : Yj.t (k + 1) aA aB aF aD aC a1 = Yj.g k aA aB aF aD aC a1 (fun z0 => some z0) := rfl
noncomputable def Yj.e (k : Nat) : Zk := ent [.agg [.n, .s, .n, .l, .l], .d .n] [1] [.n] [3] false (Yj.t k)
noncomputable def Yj.p (k : Nat) : Pro := ⟨Try.prog, [(217, YC.e k), (208, Yj.e k)], Zn [(5, kp [1, 5, 16, 17, 18])] false [], k⟩
noncomputable def Yj.d (k : Nat) (aA : Int) (aB : ByteArray) (aF : Int) (aD aC : List (List D)) (a1 : Int) : Ex → St → Option (Int) := (Yj.p k).fin Try.f208 [.agg [.int .i64 aA, .str aB, .int .i64 aF, .sl aD, .sl aC], .d (.int .i64 a1)] [1] [.n]
noncomputable def Yj.s0 (aH : Int) (aJ : List (List D)) (aK : Int) (v : Int × Int) : St :=
  match v with
  | (aI, aL) => ZX 32 [(1, .d false (.int .i64 aH)), (5, .d true (.int .i64 aI)), (16, .d false (.sl aJ)), (17, .d true (.int .i64 aK)), (18, .d true (.int .i64 aL))] []
noncomputable def Yj.r0 (k : Nat) (aA : Int) (aB : ByteArray) (aF : Int) (aD aC : List (List D)) (a1 aH : Int) (aJ : List (List D)) (aK : Int) (n : Nat) (v : Int × Int) : Option (Int) := (Yj.p k).lp (Zt Try.f208) 5 [1, 1, 1, 0, 1, 0] (Yj.d k aA aB aF aD aC a1) n (Yj.s0 aH aJ aK v)
theorem Yj.l0_eq (k : Nat) (aA : Int) (aB : ByteArray) (aF : Int) (aD aC : List (List D)) (a1 aH : Int) (aJ : List (List D)) (aK : Int) : ∀ n v, Yj.r0 k aA aB aF aD aC a1 aH aJ aK n v = Zo (Yj.l0 k (Yj.f k) aH aJ aK (fun z0 => some z0)) n v :=
  Zm (Yj.s0 aH aJ aK) _ fun L0 v => by obtain ⟨aI, aL⟩ := v; kernel_rfl
theorem Yj.oks (k : Nat) : Za Try.prog 208 (Yj.e k) := by
  induction k with
  | zero => exact Z7 Try.func208 (by kernel_rfl) (fun _ _ _ _ _ _ => rfl)
  | succ k ih => exact Zh (Yj.p k) mix tyok Try.func208 ⟨YC.ok k, ih⟩ (by kernel_rfl) (fun aA aB aF aD aC a1 => Eq.trans (b := Yj.m k (Yj.f k) aA aB aF aD aC a1 (fun z0 => some z0) (fun aH aJ aK => Yj.r0 k aA aB aF aD aC a1 aH aJ aK k)) (by kernel_rfl) ((congrArg (Yj.m k (Yj.f k) aA aB aF aD aC a1 (fun z0 => some z0)) (funext fun aH => funext fun aJ => funext fun aK => funext fun v => Yj.l0_eq k aA aB aF aD aC a1 aH aJ aK k v)).trans (Yj.t_succ k aA aB aF aD aC a1).symm))
theorem Yj.ok (k : Nat) : Za Try.prog 208 (Yj.e k) := (Yj.oks k)
noncomputable def Yad.g {β : Type} (k : Nat) (aA : Int) (aB : ByteArray) (aF : Int) (aD aC : List (List D)) (K : Bool → Option β) : Option β :=
  Yj.f k aA aB aF aD aC 6 (fun y55 => K (decide ((y55 : Int) ≤ 300)))
noncomputable def Yad.t (k : Nat) (aA : Int) (aB : ByteArray) (aF : Int) (aD aC : List (List D)) : Option (Bool) := Yad.g k aA aB aF aD aC (fun z0 => some z0)
noncomputable def Yad.f {β : Type} (k : Nat) (aA : Int) (aB : ByteArray) (aF : Int) (aD aC : List (List D)) (K : Bool → Option β) : Option β := bd1 (Yad.t k aA aB aF aD aC) K
noncomputable def Yad.e (k : Nat) : Zk := ent [.agg [.n, .s, .n, .l, .l]] [1] [.b] [4] false (Yad.t k)
noncomputable def Yad.p (k : Nat) : Pro := ⟨Try.prog, [(208, Yj.e k)], Zn [] false [], k⟩
theorem Yad.ok (k : Nat) : Za Try.prog 190 (Yad.e k) := Zh (Yad.p k) mix tyok Try.func190 (Yj.ok k) (by kernel_rfl) (fun aA aB aF aD aC => by show _ = _; kernel_rfl)
noncomputable def YI.l0 {β : Type} (k : Nat) (aH aI : List (List D)) (aJ : Int) (K : Bool → Option β) (L0 : Int → Option β) (v : Int) : Option β :=
  match v with
  | aK => bif (decide ((aK : Int) < aJ)) then (atR aI aK [.n, .n, .n, .s, .n, .l, .l] fun x82 x85 x88 x91 x94 x97 x100 => (YX.f k x82 1 1000000 (fun y101 => bif (!y101) then (K false) else (YX.f k x85 1 10000 (fun y102 => bif (!y102) then (K false) else (Yad.f k x88 x91 x94 x97 x100 (fun y103 => bif (!y103) then (K false) else (bif (decide ((aK : Int) > 0)) then (atR aH (IntKind.wrap .i64 (aK - 1)) [.n, .n, .n, .s, .n, .l, .l] fun x107 x110 x113 x116 x119 x122 x125 => (bif (decide ((x107 : Int) ≥ x82)) then (K false) else (L0 (IntKind.wrap .i64 (aK + 1))))) else (L0 (IntKind.wrap .i64 (aK + 1))))))))))) else (K (decide (((aH.length : Int) : Int) ≤ 40)))
noncomputable def YI.m {β : Type} (k : Nat) (a0 : List (List D)) (K : Bool → Option β) (F : ((List (List D)) → (List (List D)) → Int → Int → Option β)) : Option β :=
  F a0 a0 (a0.length : Int) (0)
noncomputable def YI.g {β : Type} (k : Nat) (a0 : List (List D)) (K : Bool → Option β) : Option β :=
  Zo (YI.l0 k a0 a0 (a0.length : Int) K) k (0)
noncomputable def YI.t (k : Nat) (a0 : List (List D)) : Option (Bool) := YI.g k a0 (fun z0 => some z0)
noncomputable def YI.f {β : Type} (k : Nat) (a0 : List (List D)) (K : Bool → Option β) : Option β := bd1 (YI.t k a0) K
noncomputable def YI.e (k : Nat) : Zk := ent [.d .l] [1] [.b] [4] false (YI.t k)
noncomputable def YI.p (k : Nat) : Pro := ⟨Try.prog, [(61, YX.e k), (190, Yad.e k)], Zn [(2, kp [0, 5, 6, 7])] false [], k⟩
noncomputable def YI.d (k : Nat) (a0 : List (List D)) : Ex → St → Option (Bool) := (YI.p k).fin Try.f151 [.d (.sl a0)] [1] [.b]
noncomputable def YI.s0 (aH aI : List (List D)) (aJ v : Int) : St :=
  match v with
  | aK => ZX 47 [(0, .d false (.sl aH)), (5, .d false (.sl aI)), (6, .d true (.int .i64 aJ)), (7, .d true (.int .i64 aK))] []
noncomputable def YI.r0 (k : Nat) (a0 aH aI : List (List D)) (aJ : Int) (n : Nat) (v : Int) : Option (Bool) := (YI.p k).lp (Zt Try.f151) 2 [1, 0, 1, 0] (YI.d k a0) n (YI.s0 aH aI aJ v)
theorem YI.l0_eq (k : Nat) (a0 aH aI : List (List D)) (aJ : Int) : ∀ n v, YI.r0 k a0 aH aI aJ n v = Zo (YI.l0 k aH aI aJ (fun z0 => some z0)) n v :=
  Zm (YI.s0 aH aI aJ) _ fun L0 v => by kernel_rfl
theorem YI.ok (k : Nat) : Za Try.prog 151 (YI.e k) := Zh (YI.p k) mix tyok Try.func151 ⟨YX.ok k, Yad.ok k⟩ (by kernel_rfl) (fun a0 => Eq.trans (b := YI.m k a0 (fun z0 => some z0) (fun aH aI aJ => YI.r0 k a0 aH aI aJ k)) (by kernel_rfl) (congrArg (YI.m k a0 (fun z0 => some z0)) (funext fun aH => funext fun aI => funext fun aJ => funext fun v => YI.l0_eq k a0 aH aI aJ k v)))
noncomputable def YV.l0 {β : Type} (k : Nat) (aH aI : List (List D)) (aJ : Int) (K : Bool → Option β) (L0 : Int → Option β) (v : Int) : Option β :=
  match v with
  | aK => bif (decide ((aK : Int) < aJ)) then (atR aI aK [.n, .n] fun x20 x23 => (YX.f k x20 1 1000000 (fun y24 => bif (!y24) then (K false) else (Y2.f k x23 (fun y25 => bif (!y25) then (K false) else (bif (decide ((aK : Int) > 0)) then (atR aH (IntKind.wrap .i64 (aK - 1)) [.n, .n] fun x29 x32 => (bif (decide ((x29 : Int) ≥ x20)) then (K false) else (L0 (IntKind.wrap .i64 (aK + 1))))) else (L0 (IntKind.wrap .i64 (aK + 1))))))))) else (K (decide (((aH.length : Int) : Int) ≤ 80)))
noncomputable def YV.m {β : Type} (k : Nat) (a0 : List (List D)) (K : Bool → Option β) (F : ((List (List D)) → (List (List D)) → Int → Int → Option β)) : Option β :=
  F a0 a0 (a0.length : Int) (0)
noncomputable def YV.g {β : Type} (k : Nat) (a0 : List (List D)) (K : Bool → Option β) : Option β :=
  Zo (YV.l0 k a0 a0 (a0.length : Int) K) k (0)
noncomputable def YV.t (k : Nat) (a0 : List (List D)) : Option (Bool) := YV.g k a0 (fun z0 => some z0)
noncomputable def YV.f {β : Type} (k : Nat) (a0 : List (List D)) (K : Bool → Option β) : Option β := bd1 (YV.t k a0) K
noncomputable def YV.e (k : Nat) : Zk := ent [.d .l] [1] [.b] [4] false (YV.t k)
noncomputable def YV.p (k : Nat) : Pro := ⟨Try.prog, [(61, YX.e k), (150, Y2.e k)], Zn [(2, kp [0, 5, 6, 7])] false [], k⟩
noncomputable def YV.d (k : Nat) (a0 : List (List D)) : Ex → St → Option (Bool) := (YV.p k).fin Try.f152 [.d (.sl a0)] [1] [.b]
noncomputable def YV.s0 (aH aI : List (List D)) (aJ v : Int) : St :=
  match v with
  | aK => ZX 41 [(0, .d false (.sl aH)), (5, .d false (.sl aI)), (6, .d true (.int .i64 aJ)), (7, .d true (.int .i64 aK))] []
noncomputable def YV.r0 (k : Nat) (a0 aH aI : List (List D)) (aJ : Int) (n : Nat) (v : Int) : Option (Bool) := (YV.p k).lp (Zt Try.f152) 2 [1, 0, 1, 0] (YV.d k a0) n (YV.s0 aH aI aJ v)
theorem YV.l0_eq (k : Nat) (a0 aH aI : List (List D)) (aJ : Int) : ∀ n v, YV.r0 k a0 aH aI aJ n v = Zo (YV.l0 k aH aI aJ (fun z0 => some z0)) n v :=
  Zm (YV.s0 aH aI aJ) _ fun L0 v => by kernel_rfl
theorem YV.ok (k : Nat) : Za Try.prog 152 (YV.e k) := Zh (YV.p k) mix tyok Try.func152 ⟨YX.ok k, Y2.ok k⟩ (by kernel_rfl) (fun a0 => Eq.trans (b := YV.m k a0 (fun z0 => some z0) (fun aH aI aJ => YV.r0 k a0 aH aI aJ k)) (by kernel_rfl) (congrArg (YV.m k a0 (fun z0 => some z0)) (funext fun aH => funext fun aI => funext fun aJ => funext fun v => YV.l0_eq k a0 aH aI aJ k v)))
noncomputable def Y9.g {β : Type} (k : Nat) (aA aB : Int) (K : Bool → Option β) : Option β :=
  K ((aB : Int) == 0)
noncomputable def Y9.t (k : Nat) (aA aB : Int) : Option (Bool) := Y9.g k aA aB (fun z0 => some z0)
noncomputable def Y9.f {β : Type} (k : Nat) (aA aB : Int) (K : Bool → Option β) : Option β := bd1 (Y9.t k aA aB) K
noncomputable def Y9.e (k : Nat) : Zk := ent [.agg [.n, .n]] [1] [.b] [4] false (Y9.t k)
noncomputable def Y9.p (k : Nat) : Pro := ⟨Try.prog, [], Zn [] false [], k⟩
theorem Y9.ok (k : Nat) : Za Try.prog 154 (Y9.e k) := Zh (Y9.p k) mix tyok Try.func154 trivial (by kernel_rfl) (fun aA aB => by show _ = _; kernel_rfl)
noncomputable def Yb.l0 {β : Type} (k : Nat) (aH : List (List D)) (aI : Int) (K L0 : Int → Option β) (v : Int) : Option β :=
  match v with
  | aJ => bif (decide ((aJ : Int) < aI)) then (atR aH aJ [.n, .n] fun x12 x15 => (Y9.f k x12 x15 (fun y16 => bif y16 then (K aJ) else (L0 (IntKind.wrap .i64 (aJ + 1)))))) else (K (-1))
noncomputable def Yb.m {β : Type} (k : Nat) (a0 : List (List D)) (K : Int → Option β) (F : ((List (List D)) → Int → Int → Option β)) : Option β :=
  F a0 (a0.length : Int) (0)
noncomputable def Yb.g {β : Type} (k : Nat) (a0 : List (List D)) (K : Int → Option β) : Option β :=
  Zo (Yb.l0 k a0 (a0.length : Int) K) k (0)
noncomputable def Yb.t (k : Nat) (a0 : List (List D)) : Option (Int) := Yb.g k a0 (fun z0 => some z0)
noncomputable def Yb.f {β : Type} (k : Nat) (a0 : List (List D)) (K : Int → Option β) : Option β := bd1 (Yb.t k a0) K
noncomputable def Yb.e (k : Nat) : Zk := ent [.d .l, .fn 154 []] [1] [.n] [3] false (Yb.t k)
noncomputable def Yb.p (k : Nat) : Pro := ⟨Try.prog, [(154, Y9.e k)], Zn [(2, kp [0, 1, 7, 8])] false [], k⟩
noncomputable def Yb.d (k : Nat) (a0 : List (List D)) : Ex → St → Option (Int) := (Yb.p k).fin Try.f155 [.d (.sl a0), .d (.fn 154 [])] [1] [.n]
noncomputable def Yb.s0 (aH : List (List D)) (aI v : Int) : St :=
  match v with
  | aJ => ZX 19 [(0, .d false (.sl aH)), (1, .d false (.fn 154 [])), (7, .d true (.int .i64 aI)), (8, .d true (.int .i64 aJ))] []
noncomputable def Yb.r0 (k : Nat) (a0 aH : List (List D)) (aI : Int) (n : Nat) (v : Int) : Option (Int) := (Yb.p k).lp (Zt Try.f155) 2 [1, 0, 1, 0] (Yb.d k a0) n (Yb.s0 aH aI v)
theorem Yb.l0_eq (k : Nat) (a0 aH : List (List D)) (aI : Int) : ∀ n v, Yb.r0 k a0 aH aI n v = Zo (Yb.l0 k aH aI (fun z0 => some z0)) n v :=
  Zm (Yb.s0 aH aI) _ fun L0 v => by kernel_rfl
theorem Yb.ok (k : Nat) : Za Try.prog 155 (Yb.e k) := Zh (Yb.p k) mix tyok Try.func155 (Y9.ok k) (by kernel_rfl) (fun a0 => Eq.trans (b := Yb.m k a0 (fun z0 => some z0) (fun aH aI => Yb.r0 k a0 aH aI k)) (by kernel_rfl) (congrArg (Yb.m k a0 (fun z0 => some z0)) (funext fun aH => funext fun aI => funext fun v => Yb.l0_eq k a0 aH aI k v)))
noncomputable def Yf.g {β : Type} (k : Nat) (a0 : List (List D)) (K : Bool → Option β) : Option β :=
  Yb.f k a0 (fun y17 => K (decide ((y17 : Int) ≥ 0)))
noncomputable def Yf.t (k : Nat) (a0 : List (List D)) : Option (Bool) := Yf.g k a0 (fun z0 => some z0)
noncomputable def Yf.f {β : Type} (k : Nat) (a0 : List (List D)) (K : Bool → Option β) : Option β := bd1 (Yf.t k a0) K
noncomputable def Yf.e (k : Nat) : Zk := ent [.d .l, .fn 154 []] [1] [.b] [4] false (Yf.t k)
noncomputable def Yf.p (k : Nat) : Pro := ⟨Try.prog, [(155, Yb.e k)], Zn [] false [], k⟩
theorem Yf.ok (k : Nat) : Za Try.prog 153 (Yf.e k) := Zh (Yf.p k) mix tyok Try.func153 (Yb.ok k) (by kernel_rfl) (fun a0 => by show _ = _; kernel_rfl)
noncomputable def Yx.l0 {β : Type} (k : Nat) (aI : List (List D)) (aJ : Int) (K : Int → Option β) (L0 : (Int × Int) → Option β) (v : Int × Int) : Option β :=
  match v with
  | (aH, aK) => bif (decide ((aK : Int) < aJ)) then (atR aI aK [.n, .n] fun x11 x14 => (L0 (IntKind.wrap .i64 (aH + x14), IntKind.wrap .i64 (aK + 1)))) else (K aH)
noncomputable def Yx.m {β : Type} (k : Nat) (aA : ByteArray) (aB aF : Int) (aD aC : List (List D)) (K : Int → Option β) (F : ((List (List D)) → Int → (Int × Int) → Option β)) : Option β :=
  F aC (aC.length : Int) (0, 0)
noncomputable def Yx.g {β : Type} (k : Nat) (aA : ByteArray) (aB aF : Int) (aD aC : List (List D)) (K : Int → Option β) : Option β :=
  Zo (Yx.l0 k aC (aC.length : Int) K) k (0, 0)
noncomputable def Yx.t (k : Nat) (aA : ByteArray) (aB aF : Int) (aD aC : List (List D)) : Option (Int) := Yx.g k aA aB aF aD aC (fun z0 => some z0)
noncomputable def Yx.f {β : Type} (k : Nat) (aA : ByteArray) (aB aF : Int) (aD aC : List (List D)) (K : Int → Option β) : Option β := bd1 (Yx.t k aA aB aF aD aC) K
noncomputable def Yx.e (k : Nat) : Zk := ent [.agg [.s, .n, .n, .l, .l]] [1] [.n] [3] false (Yx.t k)
noncomputable def Yx.p (k : Nat) : Pro := ⟨Try.prog, [], Zn [(3, kp [3, 7, 8, 9])] false [], k⟩
noncomputable def Yx.d (k : Nat) (aA : ByteArray) (aB aF : Int) (aD aC : List (List D)) : Ex → St → Option (Int) := (Yx.p k).fin Try.f88 [.agg [.str aA, .int .i64 aB, .int .i64 aF, .sl aD, .sl aC]] [1] [.n]
noncomputable def Yx.s0 (aI : List (List D)) (aJ : Int) (v : Int × Int) : St :=
  match v with
  | (aH, aK) => ZX 19 [(3, .d true (.int .i64 aH)), (7, .d false (.sl aI)), (8, .d true (.int .i64 aJ)), (9, .d true (.int .i64 aK))] []
noncomputable def Yx.r0 (k : Nat) (aA : ByteArray) (aB aF : Int) (aD aC aI : List (List D)) (aJ : Int) (n : Nat) (v : Int × Int) : Option (Int) := (Yx.p k).lp (Zt Try.f88) 3 [1, 1, 0, 1, 0] (Yx.d k aA aB aF aD aC) n (Yx.s0 aI aJ v)
theorem Yx.l0_eq (k : Nat) (aA : ByteArray) (aB aF : Int) (aD aC aI : List (List D)) (aJ : Int) : ∀ n v, Yx.r0 k aA aB aF aD aC aI aJ n v = Zo (Yx.l0 k aI aJ (fun z0 => some z0)) n v :=
  Zm (Yx.s0 aI aJ) _ fun L0 v => by obtain ⟨aH, aK⟩ := v; kernel_rfl
theorem Yx.ok (k : Nat) : Za Try.prog 88 (Yx.e k) := Zh (Yx.p k) mix tyok Try.func88 trivial (by kernel_rfl) (fun aA aB aF aD aC => Eq.trans (b := Yx.m k aA aB aF aD aC (fun z0 => some z0) (fun aI aJ => Yx.r0 k aA aB aF aD aC aI aJ k)) (by kernel_rfl) (congrArg (Yx.m k aA aB aF aD aC (fun z0 => some z0)) (funext fun aI => funext fun aJ => funext fun v => Yx.l0_eq k aA aB aF aD aC aI aJ k v)))
noncomputable def Yaa.g {β : Type} (k : Nat) (aA : ByteArray) (aB aF : Int) (aD aC : List (List D)) (K : Bool → Option β) : Option β :=
  YS.f k aA (fun y9 => bif y9 then (Y2.f k aB (fun y10 => bif y10 then (YX.f k aF 0 1000000 (fun y11 => bif y11 then (YI.f k aD (fun y126 => bif y126 then (YV.f k aC (fun y127 => bif y127 then (Yf.f k aC (fun y128 => bif (!y128) then (Yx.f k aA aB aF aD aC (fun y129 => K (decide ((y129 : Int) ≤ aB)))) else (K false))) else (K false))) else (K false))) else (K false))) else (K false))) else (K false))
noncomputable def Yaa.t (k : Nat) (aA : ByteArray) (aB aF : Int) (aD aC : List (List D)) : Option (Bool) := Yaa.g k aA aB aF aD aC (fun z0 => some z0)
noncomputable def Yaa.f {β : Type} (k : Nat) (aA : ByteArray) (aB aF : Int) (aD aC : List (List D)) (K : Bool → Option β) : Option β := bd1 (Yaa.t k aA aB aF aD aC) K
noncomputable def Yaa.e (k : Nat) : Zk := ent [.agg [.s, .n, .n, .l, .l]] [1] [.b] [4] false (Yaa.t k)
noncomputable def Yaa.p (k : Nat) : Pro := ⟨Try.prog, [(126, YS.e k), (150, Y2.e k), (61, YX.e k), (151, YI.e k), (152, YV.e k), (153, Yf.e k), (88, Yx.e k)], Zn [] false [], k⟩
theorem Yaa.ok (k : Nat) : Za Try.prog 84 (Yaa.e k) := Zh (Yaa.p k) mix tyok Try.func84 ⟨YS.ok k, Y2.ok k, YX.ok k, YI.ok k, YV.ok k, Yf.ok k, Yx.ok k⟩ (by kernel_rfl) (fun aA aB aF aD aC => by show _ = _; kernel_rfl)
noncomputable def YZ.l0 {β : Type} (k : Nat) (aH : Int) (aI : List (List D)) (aJ : Int) (K L0 : Int → Option β) (v : Int) : Option β :=
  match v with
  | aK => bif (decide ((aK : Int) < aJ)) then (atR aI aK [.n, .n, .n, .s, .n, .l, .l] fun x26 x29 x32 x35 x38 x41 x44 => (bif ((x26 : Int) == aH) then (K x29) else (L0 (IntKind.wrap .i64 (aK + 1))))) else (K 0)
noncomputable def YZ.m {β : Type} (k : Nat) (aA : ByteArray) (aB aF : Int) (aD aC : List (List D)) (a1 : Int) (K : Int → Option β) (F : (Int → (List (List D)) → Int → Int → Option β)) : Option β :=
  F a1 aD (aD.length : Int) (0)
noncomputable def YZ.g {β : Type} (k : Nat) (aA : ByteArray) (aB aF : Int) (aD aC : List (List D)) (a1 : Int) (K : Int → Option β) : Option β :=
  Zo (YZ.l0 k a1 aD (aD.length : Int) K) k (0)
noncomputable def YZ.t (k : Nat) (aA : ByteArray) (aB aF : Int) (aD aC : List (List D)) (a1 : Int) : Option (Int) := YZ.g k aA aB aF aD aC a1 (fun z0 => some z0)
noncomputable def YZ.f {β : Type} (k : Nat) (aA : ByteArray) (aB aF : Int) (aD aC : List (List D)) (a1 : Int) (K : Int → Option β) : Option β := bd1 (YZ.t k aA aB aF aD aC a1) K
noncomputable def YZ.e (k : Nat) : Zk := ent [.agg [.s, .n, .n, .l, .l], .d .n] [1] [.n] [3] false (YZ.t k)
noncomputable def YZ.p (k : Nat) : Pro := ⟨Try.prog, [], Zn [(2, kp [1, 8, 9, 10])] false [], k⟩
noncomputable def YZ.d (k : Nat) (aA : ByteArray) (aB aF : Int) (aD aC : List (List D)) (a1 : Int) : Ex → St → Option (Int) := (YZ.p k).fin Try.f85 [.agg [.str aA, .int .i64 aB, .int .i64 aF, .sl aD, .sl aC], .d (.int .i64 a1)] [1] [.n]
noncomputable def YZ.s0 (aH : Int) (aI : List (List D)) (aJ v : Int) : St :=
  match v with
  | aK => ZX 21 [(1, .d false (.int .i64 aH)), (8, .d false (.sl aI)), (9, .d true (.int .i64 aJ)), (10, .d true (.int .i64 aK))] []
noncomputable def YZ.r0 (k : Nat) (aA : ByteArray) (aB aF : Int) (aD aC : List (List D)) (a1 aH : Int) (aI : List (List D)) (aJ : Int) (n : Nat) (v : Int) : Option (Int) := (YZ.p k).lp (Zt Try.f85) 2 [1, 0, 1, 0] (YZ.d k aA aB aF aD aC a1) n (YZ.s0 aH aI aJ v)
theorem YZ.l0_eq (k : Nat) (aA : ByteArray) (aB aF : Int) (aD aC : List (List D)) (a1 aH : Int) (aI : List (List D)) (aJ : Int) : ∀ n v, YZ.r0 k aA aB aF aD aC a1 aH aI aJ n v = Zo (YZ.l0 k aH aI aJ (fun z0 => some z0)) n v :=
  Zm (YZ.s0 aH aI aJ) _ fun L0 v => by kernel_rfl
theorem YZ.ok (k : Nat) : Za Try.prog 85 (YZ.e k) := Zh (YZ.p k) mix tyok Try.func85 trivial (by kernel_rfl) (fun aA aB aF aD aC a1 => Eq.trans (b := YZ.m k aA aB aF aD aC a1 (fun z0 => some z0) (fun aH aI aJ => YZ.r0 k aA aB aF aD aC a1 aH aI aJ k)) (by kernel_rfl) (congrArg (YZ.m k aA aB aF aD aC a1 (fun z0 => some z0)) (funext fun aH => funext fun aI => funext fun aJ => funext fun v => YZ.l0_eq k aA aB aF aD aC a1 aH aI aJ k v)))
noncomputable def Y7.g {β : Type} (k : Nat) (aA aB : Int) (K : Bool → Option β) : Option β :=
  K ((aB : Int) == 0)
noncomputable def Y7.t (k : Nat) (aA aB : Int) : Option (Bool) := Y7.g k aA aB (fun z0 => some z0)
noncomputable def Y7.f {β : Type} (k : Nat) (aA aB : Int) (K : Bool → Option β) : Option β := bd1 (Y7.t k aA aB) K
noncomputable def Y7.e (k : Nat) : Zk := ent [.agg [.n, .n]] [1] [.b] [4] false (Y7.t k)
noncomputable def Y7.p (k : Nat) : Pro := ⟨Try.prog, [], Zn [] false [], k⟩
theorem Y7.ok (k : Nat) : Za Try.prog 87 (Y7.e k) := Zh (Y7.p k) mix tyok Try.func87 trivial (by kernel_rfl) (fun aA aB => by show _ = _; kernel_rfl)
noncomputable def Yd.l0 {β : Type} (k : Nat) (aH : List (List D)) (aI : Int) (K L0 : Int → Option β) (v : Int) : Option β :=
  match v with
  | aJ => bif (decide ((aJ : Int) < aI)) then (atR aH aJ [.n, .n] fun x12 x15 => (Y7.f k x12 x15 (fun y16 => bif y16 then (K aJ) else (L0 (IntKind.wrap .i64 (aJ + 1)))))) else (K (-1))
noncomputable def Yd.m {β : Type} (k : Nat) (a0 : List (List D)) (K : Int → Option β) (F : ((List (List D)) → Int → Int → Option β)) : Option β :=
  F a0 (a0.length : Int) (0)
noncomputable def Yd.g {β : Type} (k : Nat) (a0 : List (List D)) (K : Int → Option β) : Option β :=
  Zo (Yd.l0 k a0 (a0.length : Int) K) k (0)
noncomputable def Yd.t (k : Nat) (a0 : List (List D)) : Option (Int) := Yd.g k a0 (fun z0 => some z0)
noncomputable def Yd.e (k : Nat) : Zk := ent [.d .l, .fn 87 []] [1] [.n] [3] false (Yd.t k)
noncomputable def Yd.p (k : Nat) : Pro := ⟨Try.prog, [(87, Y7.e k)], Zn [(2, kp [0, 1, 7, 8])] false [], k⟩
noncomputable def Yd.d (k : Nat) (a0 : List (List D)) : Ex → St → Option (Int) := (Yd.p k).fin Try.f155 [.d (.sl a0), .d (.fn 87 [])] [1] [.n]
noncomputable def Yd.s0 (aH : List (List D)) (aI v : Int) : St :=
  match v with
  | aJ => ZX 19 [(0, .d false (.sl aH)), (1, .d false (.fn 87 [])), (7, .d true (.int .i64 aI)), (8, .d true (.int .i64 aJ))] []
noncomputable def Yd.r0 (k : Nat) (a0 aH : List (List D)) (aI : Int) (n : Nat) (v : Int) : Option (Int) := (Yd.p k).lp (Zt Try.f155) 2 [1, 0, 1, 0] (Yd.d k a0) n (Yd.s0 aH aI v)
theorem Yd.l0_eq (k : Nat) (a0 aH : List (List D)) (aI : Int) : ∀ n v, Yd.r0 k a0 aH aI n v = Zo (Yd.l0 k aH aI (fun z0 => some z0)) n v :=
  Zm (Yd.s0 aH aI) _ fun L0 v => by kernel_rfl
theorem Yd.ok (k : Nat) : Za Try.prog 155 (Yd.e k) := Zh (Yd.p k) mix tyok Try.func155 (Y7.ok k) (by kernel_rfl) (fun a0 => Eq.trans (b := Yd.m k a0 (fun z0 => some z0) (fun aH aI => Yd.r0 k a0 aH aI k)) (by kernel_rfl) (congrArg (Yd.m k a0 (fun z0 => some z0)) (funext fun aH => funext fun aI => funext fun v => Yd.l0_eq k a0 aH aI k v)))
noncomputable def Ye.t (k : Nat) (xs : List (List C)) : Option (List (List C)) := delK (fun ds => Yd.t k ds) (fun s => match s with | [.int .i64 x0, .int .i64 x1] => Y7.t k x0 x1 | _ => none) xs
noncomputable def Ye.f {β : Type} (k : Nat) (xs : List (List C)) (K : (List (List C)) → Option β) : Option β :=
  match Ye.t k xs with
  | some z0 => K z0
  | none => none
noncomputable def Ye.run (k : Nat) : {β : Type} → List A → ((List (List C)) → Option β) → Option β := fun {β} l K =>
  match l with
  | [.own false [.own xs], .d (.fn g [])] => bif g == 87 then Ye.f k xs K else none
  | _ => none
noncomputable def Ye.e (k : Nat) : Zk := { modes := [(.own, 0)], rts := [45], al := false, run := fun _ _ => none, lib := some ⟨[true, false], 45, Ye.run k⟩ }
set_option maxHeartbeats 4000000 in
set_option maxRecDepth 1000000 in
theorem Ye.raw2 {P : Program} (mixed : P.follows .mixedOrders = true) (hf : P.funcs[86]? = some Try.f86) (eI : ∀ args w, (callFunc 155 args).run P w = .ok (.enter 155 args) w) (t0 : P.underlying 0 = some (.tuple #[])) (a0 : ∀ w, (isAgg 0).run P w = .ok false w) (z0 : ∀ w, (Go.sizeOf 0).run P w = .ok 1 w) (v0 : ∀ w, (zeroValue 0).run P w = .ok (.tuple #[]) w)
   (t3 : P.underlying 3 = some (.int .i64)) (a3 : ∀ w, (isAgg 3).run P w = .ok false w) (z3 : ∀ w, (Go.sizeOf 3).run P w = .ok 1 w) (v3 : ∀ w, (zeroValue 3).run P w = .ok (.int .i64 0) w) (t4 : P.underlying 4 = some .bool) (a4 : ∀ w, (isAgg 4).run P w = .ok false w) (z4 : ∀ w, (Go.sizeOf 4).run P w = .ok 1 w) (v4 : ∀ w, (zeroValue 4).run P w = .ok (.bool false) w)
   (tS : P.underlying 45 = some (.slice 116)) (aS : ∀ w, (isAgg 45).run P w = .ok false w) (zS : ∀ w, (Go.sizeOf 45).run P w = .ok 1 w) (vS : ∀ w, (zeroValue 45).run P w = .ok (.slice none 0 0) w) (tG : P.underlying 125 = some (.func #[116] #[4] false)) (aG : ∀ w, (isAgg 125).run P w = .ok false w) (zG : ∀ w, (Go.sizeOf 125).run P w = .ok 1 w) (vG : ∀ w, (zeroValue 125).run P w = .ok .nilFunc w)
   (K : Nat) (hK : 0 < K) (zc : Array Value) (aE : ∀ w, (isAgg 116).run P w = .ok true w) (zE : ∀ w, (Go.sizeOf 116).run P w = .ok K w) (vE : ∀ w, (zeroValue 116).run P w = .ok (.agg zc) w)
   (b cap n : Nat) (c : Array Value) (e : TypeId) (w : World) (g : Nat) (lb : Array Value) (p : Nat → Bool) (k0 : Nat) (hb : w.heap[b]? = some (.cells c e (0, 0))) (hc : c.size = cap * K) (hn : n ≤ cap) (hk0 : k0 < n) (hm : n ≤ 1099511627776)
   (h1 : ∀ t, t < n * K → ∃ v, c[t]? = some v ∧ v.oneCell' = true) (i0 : TypeInfo) (hi : P.info? 116 = some i0) (hz : i0.zero = some (.agg zc)) (hs : i0.size = K) (hzs : zc.size = K) (hz1 : ∀ v ∈ zc.toList, v.oneCell' = true)
   (eg : ∀ args w, (callFunc g args).run P w = .ok (.enter g args) w)
   (hIF : Calls P 155 #[.slice (some ⟨b, 0, none⟩) n cap, .func (.func g) #[] lb] w fun e w' => e = .returned (.int .i64 k0) ∧ Gs w w')
   (hpred : ∀ j, k0 < j → j < n → ∀ W, Gr b w W → ∀ vs : List Value, vs.length = K → (∀ t u, vs[t]? = some u → c[j * K + t]? = some u) → Calls P g (#[.agg vs.toArray] ++ lb) W fun e w' => e = .returned (.bool (p j)) ∧ Gs W w') :
    Calls P 86 #[.slice (some ⟨b, 0, none⟩) n cap, .func (.func g) #[] lb] w fun ex w' => ex = .returned (.slice (some ⟨b, 0, none⟩) (kpt p k0 n).length cap) ∧ Gr b w w' ∧ ∃ c' : Array Value, w'.heap[b]? = some (.cells c' e (0, 0)) ∧ c'.size = c.size ∧ ∀ m k : Nat, (kpt p k0 n)[m]? = some k → ∀ t, t < K → c'[m * K + t]? = c[k * K + t]? := by
  have hHC : Hold (∀ j, k0 < j → j < n → ∀ W, Gr b w W → ∀ vs : List Value, vs.length = K → (∀ t u, vs[t]? = some u → c[j * K + t]? = some u) → Calls P g (#[.agg vs.toArray] ++ lb) W fun e w' => e = .returned (.bool (p j)) ∧ Gs W w') := ⟨hpred⟩
  have hH1 : Hold (∀ t, t < n * K → ∃ v, c[t]? = some v ∧ v.oneCell' = true) := ⟨h1⟩
  have hHZ : Hold (i0.zero = some (.agg zc) ∧ i0.size = K ∧ zc.size = K ∧ (∀ v ∈ zc.toList, v.oneCell' = true) ∧ P.info? 116 = some i0) := ⟨hz, hs, hzs, hz1, hi⟩
  have hHB : Hold (w.heap[b]? = some (.cells c e (0, 0)) ∧ c.size = cap * K) := ⟨hb, hc⟩
  have hHK : Hold (0 < K) := ⟨hK⟩
  clear hpred h1 hz hs hzs hz1 hi hb hc hK
  have hne1 : ((k0 : Int) == -1) = false := beq_eq_false_iff_ne.2 (by omega)
  go_enter hf, Try.ntmps86
  go_wp2_with (go_at_fn 155; refine hIF.mono ?_; rintro e w' ⟨rfl, hg⟩)
  go_loopg [5, 6, 7] n (fun gg s5 s6 _ wr => ∃ (i j : Nat), s5 = .int .i64 i ∧ s6 = .int .i64 j ∧ j ≤ n ∧ n - j ≤ gg ∧ Hold (∃ ck : Array Value, DfK K b k0 c e p w wr i j ck))
  case atStart =>
    refine ⟨k0, k0 + 1, rfl, by go_num, by omega, by omega, ⟨c, by omega, hg.gr b, ?_, rfl, ?_, fun _ _ => rfl, fun m k hk => ?_⟩⟩
    · rw [hg.same b (by have := (Array.getElem?_eq_some_iff.mp hHB.out.1).1; exact this)]; exact hHB.out.1
    · unfold kpt; simp
    · unfold kpt at hk
      simp only [Nat.sub_self, List.range'_zero, List.filter_nil, List.append_nil] at hk
      have := List.getElem?_eq_some_iff.mp hk
      obtain ⟨q, hq⟩ := this
      rw [List.getElem_range] at hq
      rw [hq]
      exact fun _ _ => rfl
  case round =>
    obtain ⟨i, j, rfl, rfl, hjd, hgg, ⟨ck, hI⟩⟩ := hrel
    have hij : i < j ∧ k0 ≤ i := by have := kpt_le (p := p) hI.lt; rw [hI.len] at this; omega
    obtain ⟨hij, hki⟩ := hij
    by_cases hlt : j < n
    · have hltz : (j : Int) < (n : Int) := by omega
      obtain ⟨ul, ug, u1⟩ := Zcs hH1.out (i := j) (m := 1) (by omega)
      generalize (c.toList.drop (j * K)).take (1 * K) = us at ul ug u1
      rw [Nat.one_mul] at ul ug
      have ug' : ∀ t u, us[t]? = some u → c[j * K + t]? = some u := fun t u h => ((ug t u).mp h).2
      have hblt : b < wr.heap.size := (Array.getElem?_eq_some_iff.mp hI.at_).1
      have l1 : Sem.run P (loadCellsFrom ⟨b, j * K, none⟩ 0 K #[]) wr = .ok us.toArray wr := load_list P wr _ us K ul (fun t u ht => by
        rw [Addr.add_lit, Zam hI.at_, hI.high _ (by omega)]
        exact ug' t u ht)
      have hzc := hHZ.out.2.2.1
      obtain ⟨hN, hO⟩ := Zac us 0 (Zci wr (.cells zc 116))
      have s1 : Sem.run P (storeCells ⟨wr.heap.size, 0, none⟩ us 0) (wr.alloc (.cells zc 116)) = .ok () ((wr.alloc (.cells zc 116)).setCells wr.heap.size 0 us) := by
        have := run_storeCells_cells (P := P) wr.heap.size 0 us 0 (wr.alloc (.cells zc 116)) (fun t ht => by rw [Zam (Zci wr _), Array.getElem?_eq_getElem (by omega)]; rfl) (fun t ht => Zaw (Zci wr _) _) u1
        exact this
      have hG1 : Gs wr ((wr.alloc (.cells zc 116)).setCells wr.heap.size 0 us) := (gs_alloc wr _).trans_only hO (Nat.le_refl _)
      obtain ⟨W1, hW1⟩ : ∃ W1, Hold (W1 = (wr.alloc (.cells zc 116)).setCells wr.heap.size 0 us) := ⟨_, ⟨rfl⟩⟩
      rw [← hW1.out] at s1 hN hG1
      have l2 : ∀ w', Gs W1 w' → Sem.run P (loadCellsFrom ⟨wr.heap.size, 0, none⟩ 0 K #[]) w' = .ok us.toArray w' := fun w' hg2 => load_list P w' _ us K ul (fun t u ht => by
        have hlt1 := (Array.getElem?_eq_some_iff.mp hN).1
        have ht' : t < us.length := (List.getElem?_eq_some_iff.mp ht).1
        rw [Addr.add_lit, Zam ((hg2.same _ hlt1).trans hN), Zaa _ _ _ _ (by omega), if_pos (by omega)]
        simpa using ht)
      have l2' := l2 W1 (Gs.refl W1)
      have hcall := hHC.out j hI.lt hlt W1 (hI.gr.trans (hG1.gr b)) us ul ug'
      have hst : Hold (∀ (w' : World), Gs W1 w' → w'.heap[b]? = some (.cells ck e (0, 0)) ∧ Sem.run P (storeCells ⟨b, i * K, none⟩ us 0) w' = .ok () (w'.setCells b (i * K) us)) := ⟨fun w' hg2 => by
        have hb5 := (hg2.same b (Nat.lt_of_lt_of_le hblt hG1.size)).trans ((hG1.same b hblt).trans hI.at_)
        refine ⟨hb5, ?_⟩
        have hle : i * K + us.length ≤ ck.size := by
          rw [hI.size, hHB.out.2, ul, ← Nat.succ_mul]
          exact Nat.mul_le_mul_right K (by omega)
        have := run_storeCells_cells (P := P) b (i * K) us 0 w' (fun t ht => by rw [Nat.add_zero, Zam hb5, Array.getElem?_eq_getElem (by omega)]; rfl) (fun t ht => Zaw hb5 _) u1
        rwa [Nat.add_zero] at this⟩
      have l2H : Hold (∀ w', Gs W1 w' → Sem.run P (loadCellsFrom ⟨wr.heap.size, 0, none⟩ 0 K #[]) w' = .ok us.toArray w') := ⟨l2⟩
      have W2 : Hold (DfK K b k0 c e p w wr i j ck ∧ Gs wr W1 ∧ ∀ t, t < K → us[t]? = c[j * K + t]?) := ⟨hI, hG1, fun t ht => by
        obtain ⟨u, hu, _⟩ := hH1.out (j * K + t) (by
          have := Nat.mul_le_mul_right K (show j + 1 ≤ n from hlt)
          rw [Nat.succ_mul] at this
          omega)
        rw [hu]
        exact (ug t u).mpr ⟨by omega, hu⟩⟩
      clear hI hN hO hG1 ug ug' u1 l2 hzc
      cases hq : p j with
      | false =>
        rw [hq] at hcall
        clear hHC hH1 hHZ hIF
        go_wp2_with (go_at_fn g; refine hcall.mono ?_; rintro e w' ⟨rfl, hg2⟩; have l3 := l2H.out w' hg2; have s3 := (hst.out w' hg2).2)
        go_roundg (n - (j + 1))
        case measure => omega
        case rel =>
          obtain ⟨hI, hG1, hus⟩ := W2.out
          have hb5 := (hst.out w' hg2).1
          obtain ⟨hb3, ho3⟩ := Zac us (i * K) hb5
          have hle : i * K + us.length ≤ ck.size := by
            rw [hI.size, hHB.out.2, ul, ← Nat.succ_mul]
            exact Nat.mul_le_mul_right K (by omega)
          have hiK : i * K + K ≤ j * K := by
            rw [← Nat.succ_mul]
            exact Nat.mul_le_mul_right K hij
          have hjK : (j + 1) * K = j * K + K := Nat.succ_mul ..
          refine ⟨i + 1, j + 1, by go_num, by go_num, by omega, Nat.le_refl _, ⟨putA ck (i * K) us, ?_⟩⟩
          refine ⟨by have := hI.lt; omega, ((hI.gr.trans (hG1.gr b)).trans (hg2.gr b)).trans ho3.gr, hb3, by rw [Zaz]; exact hI.size, by rw [kpt_keep hI.lt hq, List.length_append, hI.len]; rfl, fun t ht => ?_, fun m k hk t ht => ?_⟩
          · rw [Zaa _ _ _ _ hle, if_neg (by omega)]
            exact hI.high t (by omega)
          · rw [kpt_keep hI.lt hq] at hk
            by_cases hm : m < i
            · have : m * K + K ≤ i * K := by
                rw [← Nat.succ_mul]
                exact Nat.mul_le_mul_right K hm
              rw [Zaa _ _ _ _ hle, if_neg (by omega)]
              exact hI.low m k (by rwa [List.getElem?_append_left (by rw [hI.len]; exact hm)] at hk) t ht
            · rw [List.getElem?_append_right (by rw [hI.len]; omega), hI.len] at hk
              have hm0 : m = i := by
                by_cases h : m - i = 0
                · omega
                · rw [List.getElem?_eq_none (by simp; omega)] at hk; cases hk
              subst hm0
              simp at hk
              subst hk
              rw [Zaa _ _ _ _ hle, if_pos (by omega), Nat.add_sub_cancel_left]
              exact hus t ht
      | true =>
        rw [hq] at hcall
        clear hHC hH1 hHZ hIF
        go_wp2_with (go_at_fn g; refine hcall.mono ?_; rintro e w' ⟨rfl, hg2⟩)
        go_roundg (n - (j + 1))
        case measure => omega
        case rel =>
          obtain ⟨hI, hG1, hus⟩ := W2.out
          have hb5 := (hst.out w' hg2).1
          have hjK : (j + 1) * K = j * K + K := Nat.succ_mul ..
          refine ⟨i, j + 1, rfl, by go_num, by omega, Nat.le_refl _, ⟨ck, ?_⟩⟩
          exact ⟨by have := hI.lt; omega, (hI.gr.trans (hG1.gr b)).trans (hg2.gr b), hb5, hI.size, by rw [kpt_skip hI.lt hq]; exact hI.len, fun t ht => hI.high t (by omega), by rw [kpt_skip hI.lt hq]; exact hI.low⟩
    · obtain rfl : j = n := by omega
      have hltz : ¬ (j : Int) < (j : Int) := by omega
      have hcs := hHB.out.2
      obtain ⟨hz, hs, hzs, hz1, hi⟩ := hHZ.out
      have hjc : i * K + (j - i) * K ≤ cap * K := by
        rw [← Nat.add_mul]
        exact Nat.mul_le_mul_right K (by omega)
      have hcl : ∀ ty, (Builtin.clear_ #[45] ty #[.slice (some ⟨b, i * K, none⟩) (j - i) (cap - i)]).run P wr = .ok (.tuple #[]) (wr.setCells b (i * K) (Builtin.zeroCells zc (j - i)).toList) :=
        fun ty => run_clear_cells tS hi hz hz1 (by omega) (fun t ht => by rw [Zam hI.at_]; change t < (j - i) * zc.size at ht; rw [hzs] at ht; rw [Array.getElem?_eq_getElem (by rw [hI.size, hcs]; omega)]; rfl) (fun t ht => Zaw hI.at_ _)
      obtain ⟨hb4, ho4⟩ := Zac (Builtin.zeroCells zc (j - i)).toList (i * K) hI.at_
      have hfin : Hold (Gr b w (wr.setCells b (i * K) (Builtin.zeroCells zc (j - i)).toList) ∧ ∃ c' : Array Value, (wr.setCells b (i * K) (Builtin.zeroCells zc (j - i)).toList).heap[b]? = some (.cells c' e (0, 0)) ∧ c'.size = c.size ∧ ∀ m k : Nat, (kpt p k0 j)[m]? = some k → ∀ t, t < K → c'[m * K + t]? = c[k * K + t]?) := by
        have hzl : (Builtin.zeroCells zc (j - i)).toList.length = (j - i) * K := by simp [Zap, hzs]
        refine ⟨hI.gr.trans ho4.gr, _, hb4, by rw [Zaz]; exact hI.size, fun m k hk t ht => ?_⟩
        have hmi : m < i := by rw [← hI.len]; exact (List.getElem?_eq_some_iff.mp hk).1
        have : m * K + K ≤ i * K := by
          rw [← Nat.succ_mul]
          exact Nat.mul_le_mul_right K hmi
        rw [Zaa _ _ _ _ (by rw [hzl, hI.size, hcs]; omega), if_neg (by omega)]
        exact hI.low m k hk t ht
      have hlen := hI.len
      generalize (Builtin.zeroCells zc (j - i)).toList = zl at hcl hfin
      clear hI hz hs hzs hz1 hi hb4 ho4 hcs hjc
      have hic : i ≤ cap := by omega
      go_wp2
      go_ret
      refine ⟨?_, hfin.out⟩
      first | rfl | (rw [hlen]; rfl)
set_option maxHeartbeats 4000000 in
set_option maxRecDepth 1000000 in
theorem Ye.raw0 (a : Option Addr) (n cap : Nat) (w : World) (g : Nat) (lb : Array Value) (hn : n ≤ cap) (hIF : Calls Try.prog 155 #[.slice a n cap, .func (.func g) #[] lb] w fun e w' => e = .returned (.int .i64 (-1)) ∧ Gs w w') : Calls Try.prog 86 #[.slice a n cap, .func (.func g) #[] lb] w fun ex w' => ex = .returned (.slice a n cap) ∧ Gs w w' := by
  go_enter Try.func86, Try.ntmps86
  go_wp2_with (go_at_call 155; refine hIF.mono ?_; rintro e w' ⟨rfl, hg⟩)
  go_ret
  exact ⟨rfl, hg⟩
theorem Ye.raw : DfRawK Try.prog 86 155 2 := ⟨fun a n cap w g lb hn h => Ye.raw0 a n cap w g lb hn h, fun b cap n c e w g lb p k0 h1 h2 h3 h4 h5 h6 h7 h8 h9 => by
  obtain ⟨i0, z, hi, hz, hzs⟩ := Zbj (P := Try.prog) (t := 116) (by kernel_rfl)
  have hsz : i0.size = 2 := by
    have : Try.prog.cellsOf 116 = 2 := by kernel_rfl
    simpa [Program.cellsOf, hi] using this
  have hzc : z.cells.size = 2 := by
    have h1 : (ZaA Try.prog 116).length = 2 := by kernel_rfl
    rw [← h1]
    simpa using (Zay hzs).2.2.1.symm
  have hzv : ∀ w, (zeroValue 116).run Try.prog w = .ok z w := fun w => by simp [zeroValue, typeInfo, hi, hz]
  obtain ⟨zc, rfl⟩ : ∃ zc, z = .agg zc := by
    have h := (hzv w).symm.trans (Try.zeroValue116 w)
    injection h with h
    exact ⟨_, h⟩
  exact Ye.raw2 (by kernel_rfl) Try.func86 (enters_of Try.func155 (by kernel_rfl) (c := Zt Try.f155) (by kernel_rfl)) Try.underlying0 Try.isAgg0 Try.sizeOf0 Try.zeroValue0 Try.underlying3 Try.isAgg3 Try.sizeOf3 Try.zeroValue3 Try.underlying4 Try.isAgg4 Try.sizeOf4 Try.zeroValue4
    Try.underlying45 Try.isAgg45 Try.sizeOf45 Try.zeroValue45 Try.underlying125 Try.isAgg125 Try.sizeOf125 Try.zeroValue125 2 (by decide) zc Try.isAgg116 Try.sizeOf116 hzv b cap n c e w g lb p k0 h1 h2 h3 h4 h5 h6 i0 hi hz hsz hzc (Zay hzs).2.1 h7 h8 h9⟩
theorem Ye.ok (k : Nat) : Za Try.prog 86 (Ye.e k) := delfuncK_ok tyok (ct := 45) (K := 2) (g := 87) (fi := 155) (run := fun {β} => Ye.run k) (by kernel_rfl) (by decide) (enter_of Try.func86 (by kernel_rfl)) Ye.raw (by kernel_rfl) (by kernel_rfl) (Yd.ok k) (Y7.ok k) (fun β aa K r h => by
  unfold Ye.run at h
  split at h
  · rename_i xs g
    cases hg : g == 87 with
    | false => rw [hg] at h; cases h
    | true =>
      rw [hg] at h
      obtain rfl := eq_of_beq hg
      simp only [cond_true] at h
      unfold Ye.f Ye.t at h
      split at h
      · rename_i z0 hz
        refine ⟨_, _, _, _, _, rfl, hz, h, rfl, rfl, rfl, rfl, fun ds z h => ?_, fun s q h => ?_⟩
        · exact (ent_run (Yd.e k) rfl (congrArg some h) rfl)
        · split at h
          · rename_i x0 x1
            exact (ent_run (Y7.e k) rfl (congrArg some h) rfl)
          · cases h
      · cases h
  · cases h)
noncomputable def Y5.g {β : Type} (k : Nat) (a0 : Int) (K : Bool → Option β) : Option β :=
  K ((a0 : Int) != a0)
noncomputable def Y5.t (k : Nat) (a0 : Int) : Option (Bool) := Y5.g k a0 (fun z0 => some z0)
noncomputable def Y5.f {β : Type} (k : Nat) (a0 : Int) (K : Bool → Option β) : Option β := bd1 (Y5.t k a0) K
noncomputable def Y5.e (k : Nat) : Zk := ent [.d .n] [1] [.b] [4] false (Y5.t k)
noncomputable def Y5.p (k : Nat) : Pro := ⟨Try.prog, [], Zn [] false [], k⟩
theorem Y5.ok (k : Nat) : Za Try.prog 156 (Y5.e k) := Zh (Y5.p k) mix tyok Try.func156 trivial (by kernel_rfl) (fun a0 => by show _ = _; kernel_rfl)
noncomputable def Y3.g {β : Type} (k : Nat) (a0 a1 : Int) (K : Int → Option β) : Option β :=
  Y5.f k a0 (fun y1 => Y5.f k a1 (fun y2 => bif y1 then (bif y2 then (K 0) else (K (-1))) else (bif y2 then (K 1) else (bif (decide ((a0 : Int) < a1)) then (K (-1)) else (bif (decide ((a0 : Int) > a1)) then (K 1) else (K 0))))))
noncomputable def Y3.t (k : Nat) (a0 a1 : Int) : Option (Int) := Y3.g k a0 a1 (fun z0 => some z0)
noncomputable def Y3.f {β : Type} (k : Nat) (a0 a1 : Int) (K : Int → Option β) : Option β := bd1 (Y3.t k a0 a1) K
noncomputable def Y3.e (k : Nat) : Zk := ent [.d .n, .d .n] [1] [.n] [3] false (Y3.t k)
noncomputable def Y3.p (k : Nat) : Pro := ⟨Try.prog, [(156, Y5.e k)], Zn [] false [], k⟩
theorem Y3.ok (k : Nat) : Za Try.prog 91 (Y3.e k) := Zh (Y3.p k) mix tyok Try.func91 (Y5.ok k) (by kernel_rfl) (fun a0 a1 => by show _ = _; kernel_rfl)
noncomputable def Yaj.g {β : Type} (k : Nat) (aA aB a1 : Int) (K : Int → Option β) : Option β :=
  Y3.f k aA a1 (fun y3 => K y3)
noncomputable def Yaj.t (k : Nat) (aA aB a1 : Int) : Option (Int) := Yaj.g k aA aB a1 (fun z0 => some z0)
noncomputable def Yaj.f {β : Type} (k : Nat) (aA aB a1 : Int) (K : Int → Option β) : Option β := bd1 (Yaj.t k aA aB a1) K
noncomputable def Yaj.e (k : Nat) : Zk := ent [.agg [.n, .n], .d .n] [1] [.n] [3] false (Yaj.t k)
noncomputable def Yaj.p (k : Nat) : Pro := ⟨Try.prog, [(91, Y3.e k)], Zn [] false [], k⟩
theorem Yaj.ok (k : Nat) : Za Try.prog 90 (Yaj.e k) := Zh (Yaj.p k) mix tyok Try.func90 (Y3.ok k) (by kernel_rfl) (fun aA aB a1 => by show _ = _; kernel_rfl)
noncomputable def Ya.l0 {β : Type} (k : Nat) (aH : List (List D)) (aI aJ : Int) (K : Int → Bool → Option β) (L0 : (Int × Int) → Option β) (v : Int × Int) : Option β :=
  match v with
  | (aK, aL) => bif (decide ((aK : Int) < aL)) then (let J1 := (Int.fdiv (IntKind.wrap .u64 (IntKind.wrap .i64 (aK + aL))) (2 ^ (min (1 : Int).toNat 64))); let J0 := (IntKind.wrap .i64 J1); Zc ((0 : Int) ≤ 1) (Zbw aH J0 fun c17 => rdQ [.n, .n] c17 fun x20 x23 => (Yaj.f k x20 x23 aI (fun y24 => bif (decide ((y24 : Int) < 0)) then (L0 (IntKind.wrap .i64 (J0 + 1), aL)) else (L0 (aK, IntKind.wrap .i64 J1)))))) else (bif (decide ((aK : Int) < aJ)) then (atR aH aK [.n, .n] fun x28 x31 => (Yaj.f k x28 x31 aI (fun y32 => K aK ((y32 : Int) == 0)))) else (K aK false))
noncomputable def Ya.m {β : Type} (k : Nat) (a0 : List (List D)) (a1 : Int) (K : Int → Bool → Option β) (F : ((List (List D)) → Int → Int → (Int × Int) → Option β)) : Option β :=
  F a0 a1 (a0.length : Int) (0, (a0.length : Int))
noncomputable def Ya.g {β : Type} (k : Nat) (a0 : List (List D)) (a1 : Int) (K : Int → Bool → Option β) : Option β :=
  Zo (Ya.l0 k a0 a1 (a0.length : Int) K) k (0, (a0.length : Int))
noncomputable def Ya.t (k : Nat) (a0 : List (List D)) (a1 : Int) : Option (Int × Bool) := Ya.g k a0 a1 (fun z0 z1 => some (z0, z1))
noncomputable def Ya.f {β : Type} (k : Nat) (a0 : List (List D)) (a1 : Int) (K : Int → Bool → Option β) : Option β := bd2 (Ya.t k a0 a1) K
noncomputable def Ya.e (k : Nat) : Zk := ent [.d .l, .d .n, .fn 90 []] [1, 1] [.n, .b] [3, 4] false (Ya.t k)
noncomputable def Ya.p (k : Nat) : Pro := ⟨Try.prog, [(90, Yaj.e k)], Zn [(3, kp [0, 1, 2, 8, 9, 10])] false [], k⟩
noncomputable def Ya.d (k : Nat) (a0 : List (List D)) (a1 : Int) : Ex → St → Option (Int × Bool) := (Ya.p k).fin Try.f89 [.d (.sl a0), .d (.int .i64 a1), .d (.fn 90 [])] [1, 1] [.n, .b]
noncomputable def Ya.s0 (aH : List (List D)) (aI aJ : Int) (v : Int × Int) : St :=
  match v with
  | (aK, aL) => ZX 49 [(0, .d false (.sl aH)), (1, .d false (.int .i64 aI)), (2, .d false (.fn 90 [])), (8, .d true (.int .i64 aJ)), (9, .d true (.int .i64 aK)), (10, .d true (.int .i64 aL))] []
noncomputable def Ya.r0 (k : Nat) (a0 : List (List D)) (a1 : Int) (aH : List (List D)) (aI aJ : Int) (n : Nat) (v : Int × Int) : Option (Int × Bool) := (Ya.p k).lp (Zt Try.f89) 3 [1, 1, 1, 0, 0] (Ya.d k a0 a1) n (Ya.s0 aH aI aJ v)
theorem Ya.l0_eq (k : Nat) (a0 : List (List D)) (a1 : Int) (aH : List (List D)) (aI aJ : Int) : ∀ n v, Ya.r0 k a0 a1 aH aI aJ n v = Zo (Ya.l0 k aH aI aJ (fun z0 z1 => some (z0, z1))) n v :=
  Zm (Ya.s0 aH aI aJ) _ fun L0 v => by obtain ⟨aK, aL⟩ := v; kernel_rfl
theorem Ya.ok (k : Nat) : Za Try.prog 89 (Ya.e k) := Zh (Ya.p k) mix tyok Try.func89 (Yaj.ok k) (by kernel_rfl) (fun a0 a1 => Eq.trans (b := Ya.m k a0 a1 (fun z0 z1 => some (z0, z1)) (fun aH aI aJ => Ya.r0 k a0 a1 aH aI aJ k)) (by kernel_rfl) (congrArg (Ya.m k a0 a1 (fun z0 z1 => some (z0, z1))) (funext fun aH => funext fun aI => funext fun aJ => funext fun v => Ya.l0_eq k a0 a1 aH aI aJ k v)))
noncomputable def Yq.t (k : Nat) (xs : List (List C)) (i : Int) (ys : List (List C)) : Option (List (List C)) := Zc (0 ≤ i ∧ i ≤ (xs.length : Int) ∧ xs.length + ys.length ≤ ZN) (some (xs.take i.toNat ++ ys ++ xs.drop i.toNat))
noncomputable def Yq.f {β : Type} (k : Nat) (xs : List (List C)) (i : Int) (ys : List (List C)) (K : (List (List C)) → Option β) : Option β :=
  match Yq.t k xs i ys with
  | some z0 => K z0
  | none => none
noncomputable def Yq.run (k : Nat) : {β : Type} → List A → ((List (List C)) → Option β) → Option β := fun {β} l K =>
  match l with
  | [.own false [.own xs], .d (.int .i64 i), .own false [.own ys]] => Yq.f k xs i ys K
  | _ => none
noncomputable def Yq.e (k : Nat) : Zk := { modes := [(.own, 0)], rts := [45], al := false, run := fun _ _ => none, lib := some ⟨[true, false, true], 45, Yq.run k⟩ }
set_option maxHeartbeats 4000000 in
set_option maxRecDepth 1000000 in
theorem Yq.raw0 (a : Option Addr) (n cap i : Nat) (a' : Option Addr) (cap' : Nat) (w : World) (hi : i ≤ n) (hn : n ≤ cap) : Calls Try.prog 92 #[.slice a n cap, .int .i64 i, .slice a' 0 cap'] w fun ex w' => ex = .returned (.slice a n cap) ∧ w' = w := by
  go_enter Try.func92, Try.ntmps92
  go_wp2
  all_goals (go_ret; exact ⟨rfl, rfl⟩)
set_option maxHeartbeats 4000000 in
set_option maxRecDepth 1000000 in
theorem Yq.rawA (a : Option Addr) (n cap m vb vcap : Nat) (w W' : World) (R : Value) (hm : 0 < m) (hn : n ≤ cap) (hrun : ∀ ty, (Builtin.append_ #[45, 45] ty #[.slice a n cap, .slice (some ⟨vb, 0, none⟩) m vcap]).run Try.prog w = .ok R W') :
    Calls Try.prog 92 #[.slice a n cap, .int .i64 n, .slice (some ⟨vb, 0, none⟩) m vcap] w fun ex w' => ex = .returned R ∧ w' = W' := by
  have mixed : Try.prog.follows .mixedOrders = true := by kernel_rfl
  have hz1 : ¬ ((m : Int) = 0) := by omega
  go_enter Try.func92, Try.ntmps92
  cases a with
  | none =>
    go_wp2_with (at_builtin; refine Lib.wpList_append_run _ rfl _ _ _ _ rfl _ _ rfl rfl _ _ (hrun _) ?_)
    all_goals (go_ret; exact ⟨rfl, rfl⟩)
  | some a =>
    obtain ⟨ab, ao, asp⟩ := a
    go_wp2_with (at_builtin; refine Lib.wpList_append_run _ rfl _ _ _ _ rfl _ _ rfl rfl _ _ (hrun _) ?_)
    all_goals (go_ret; exact ⟨rfl, rfl⟩)
set_option maxHeartbeats 4000000 in
set_option maxRecDepth 1000000 in
theorem Yq.rawB (b n cap i vb m vcap : Nat) (cd vs : List Value) (w : World) (hi : i < n) (hm : 0 < m) (hroom : n + m ≤ cap) (hnm : n + m ≤ 9223372036854775807)
    (hov : ∀ lb cb, (callFunc 157 #[.slice (some ⟨vb, 0, none⟩) m vcap, .slice (some ⟨b, (i + m) * 2, none⟩) lb cb]).run Try.prog w = .ok (.value (.bool false)) w)
    (hcp1 : ∀ ty dc sc, (Builtin.copy_ #[45, 45] ty #[.slice (some ⟨b, (i + m) * 2, none⟩) (n + m - (i + m)) dc, .slice (some ⟨b, i * 2, none⟩) (n + m - i) sc]).run Try.prog w.drew = .ok (goInt ((n - i : Nat) : Int)) (w.drew.setCells b ((i + m) * 2) cd))
    (hcp2 : ∀ ty dc, (Builtin.copy_ #[45, 45] ty #[.slice (some ⟨b, i * 2, none⟩) (n + m - i) dc, .slice (some ⟨vb, 0, none⟩) m vcap]).run Try.prog (w.drew.setCells b ((i + m) * 2) cd) = .ok (goInt m) ((w.drew.setCells b ((i + m) * 2) cd).setCells b (i * 2) vs)) :
    Calls Try.prog 92 #[.slice (some ⟨b, 0, none⟩) n cap, .int .i64 i, .slice (some ⟨vb, 0, none⟩) m vcap] w fun ex w' => ex = .returned (.slice (some ⟨b, 0, none⟩) (n + m) cap) ∧ w' = (w.drew.setCells b ((i + m) * 2) cd).setCells b (i * 2) vs := by
  have mixed : Try.prog.follows .mixedOrders = true := by kernel_rfl
  have hz1 : ¬ ((m : Int) = 0) := by omega
  have hz2 : ¬ ((i : Int) = (n : Int)) := by omega
  have hw1 : IntKind.i64.wrap ((i : Int) + (m : Int)) = (i : Int) + (m : Int) := by rw [IntKind.wrap_i64]; omega
  have hb1 : (0 : Int) ≤ (i : Int) + (m : Int) := by omega
  have hin : i ≤ n := by omega
  have htn : ((i : Int) + (m : Int)).toNat = i + m := by omega
  have hb2 : ¬ (cap = i + m) := by omega
  have hb3 : (i : Int) ≤ (n : Int) + (m : Int) := by omega
  have hb4 : ¬ (cap = i) := by omega
  obtain ⟨W1, hW1⟩ : ∃ W1, Hold (W1 = w.drew.setCells b ((i + m) * 2) cd) := ⟨_, ⟨rfl⟩⟩
  rw [← hW1.out] at hcp1 hcp2 ⊢
  go_enter Try.func92, Try.ntmps92
  go_wp2_with (simp only [hov])
  go_region_law_o (refine step_copy_run rfl _ _ 45 45 rfl _ _ (by simp [Act.eval, Act.put]) (by simp [Act.eval, Act.put]) (hcp1 _ _ _) ?_)
  go_wp2_with (at_builtin; refine wpList_copy_run _ rfl _ _ 45 45 rfl _ _ rfl rfl (hcp2 _ _) ?_)
  go_ret
  exact ⟨rfl, rfl⟩
set_option maxHeartbeats 4000000 in
set_option maxRecDepth 1000000 in
theorem Yq.rawC (b n cap i vb m vcap G N : Nat) (cd vs : List Value) (w W1 : World) (hi : i < n) (hm : 0 < m) (hn : n ≤ cap) (hroom : cap < n + m) (hG : n + m ≤ G) (hG63 : G ≤ 9223372036854775807)
    (hrz : ∀ ty, (Builtin.append_ #[45, 3] ty #[.slice (some ⟨b, 0, none⟩) i cap, .int .i64 ((n : Int) + (m : Int) - (i : Int))]).run Try.prog w = .ok (.slice (some ⟨N, 0, none⟩) (n + m) G) W1)
    (hcpA : ∀ ty dc, (Builtin.copy_ #[45, 45] ty #[.slice (some ⟨N, i * 2, none⟩) (n + m - i) dc, .slice (some ⟨vb, 0, none⟩) m vcap]).run Try.prog W1 = .ok (goInt m) (W1.setCells N (i * 2) vs))
    (hcpB : ∀ ty dc sc, (Builtin.copy_ #[45, 45] ty #[.slice (some ⟨N, (i + m) * 2, none⟩) (n + m - (i + m)) dc, .slice (some ⟨b, i * 2, none⟩) (n - i) sc]).run Try.prog (W1.setCells N (i * 2) vs).drew = .ok (goInt ((n - i : Nat) : Int)) ((W1.setCells N (i * 2) vs).drew.setCells N ((i + m) * 2) cd)) :
    Calls Try.prog 92 #[.slice (some ⟨b, 0, none⟩) n cap, .int .i64 i, .slice (some ⟨vb, 0, none⟩) m vcap] w fun ex w' => ex = .returned (.slice (some ⟨N, 0, none⟩) (n + m) G) ∧ w' = (W1.setCells N (i * 2) vs).drew.setCells N ((i + m) * 2) cd := by
  have mixed : Try.prog.follows .mixedOrders = true := by kernel_rfl
  have hz1 : ¬ ((m : Int) = 0) := by omega
  have hz2 : ¬ ((i : Int) = (n : Int)) := by omega
  have hz3 : (cap : Int) < (n : Int) + (m : Int) := by omega
  have hGi : ¬ (G = i) := by omega
  have hGim : ¬ (G = i + m) := by omega
  have hci : ¬ (cap = i) := by omega
  have hw1 : IntKind.i64.wrap ((i : Int) + (m : Int)) = (i : Int) + (m : Int) := by rw [IntKind.wrap_i64]; omega
  have hb1 : (0 : Int) ≤ (i : Int) + (m : Int) := by omega
  have hin : i ≤ n := by omega
  have htn : ((i : Int) + (m : Int)).toNat = i + m := by omega
  have hb3 : (i : Int) ≤ (n : Int) := by omega
  obtain ⟨W2, hW2⟩ : ∃ W2, Hold (W2 = W1.setCells N (i * 2) vs) := ⟨_, ⟨rfl⟩⟩
  rw [← hW2.out] at hcpA hcpB ⊢
  go_enter Try.func92, Try.ntmps92
  go_wp2_with (first
    | (at_builtin; refine Lib.wpList_append_run _ rfl _ _ _ _ rfl _ _ rfl rfl _ _ (hrz _) ?_)
    | (at_builtin; refine wpList_copy_run _ rfl _ _ 45 45 rfl _ _ rfl rfl (hcpA _ _) ?_))
  go_region_law_o (refine step_copy_run rfl _ _ 45 45 rfl (.slice (some ⟨N, (i + m) * 2, none⟩) (n + m - (i + m)) (G - (i + m))) (.slice (some ⟨b, i * 2, none⟩) (n - i) (cap - i)) (by simp [Act.eval, Act.put]) (by simp [Act.eval, Act.put]) (hcpB _ _ _) ?_)
  go_wp2
  go_ret
  exact ⟨rfl, rfl⟩
theorem Yq.raw : InsRaw Try.prog 92 2 := by
  obtain ⟨i0, z, hi, hz, hzs⟩ := Zbj (P := Try.prog) (t := 116) (by kernel_rfl)
  have hsz : i0.size = 2 := by
    have : Try.prog.cellsOf 116 = 2 := by kernel_rfl
    simpa [Program.cellsOf, hi] using this
  have hzc : z.cells.size = 2 := by
    have h1 : (ZaA Try.prog 116).length = 2 := by kernel_rfl
    rw [← h1]
    simpa using (Zay hzs).2.2.1.symm
  have hby : i0.bytes ≤ 1000 := by
    have : (Try.prog.info? 116).map (·.bytes) = some 16 := by kernel_rfl
    rw [hi] at this
    simp only [Option.map_some, Option.some.injEq] at this
    rw [this]
    decide
  exact InsRoads.raw (o := 157) (S := 45) (E := 116) (T := 4) ⟨Yq.raw0, Yq.rawA, Yq.rawB, Yq.rawC⟩ Try.underlying45 (by kernel_rfl) hi hz hsz (by decide) hzc hby (fun x y w h => by
    rw [run_callFunc_extern Try.func157 (by kernel_rfl) (by kernel_rfl) (by kernel_rfl) (e := Extern.SlicesOverlaps.overlaps #[45, 45] #[4]) (by kernel_rfl), h]
    rfl)
theorem Yq.ok (k : Nat) : Za Try.prog 92 (Yq.e k) := insert_ok tyok (ct := 45) (K := 2) (run := fun {β} => Yq.run k) (by kernel_rfl) (enter_of Try.func92 (by kernel_rfl)) Yq.raw (fun β aa K r h => by
  unfold Yq.run at h
  split at h
  · unfold Yq.f Yq.t at h
    split at h
    · rename_i hz
      obtain ⟨hg, hz⟩ := ZD hz
      injection hz with hz
      subst hz
      exact ⟨_, _, _, rfl, hg, h⟩
    · cases h
  · cases h)
noncomputable def Yz.l1 {β : Type} (k : Nat) (v1_0 : List (List D)) (v1_1 : Int) (v1_3 : ByteArray) (v1_4 v1_5 : Int) (v1_6 v1_7 : List (List D)) (v1_8 : ByteArray) (v1_9 v1_10 : Int) (v1_11 : ByteArray) (v1_12 v1_13 : Int) (v1_14 v1_15 : List (List C)) (K : ByteArray → Int → Int → (List (List C)) → (List (List C)) → Int → Int → Option β) (L1 : Int → Option β) (v : Int) : Option β :=
  match v with
  | v1_2 => bif (decide ((v1_2 : Int) < v1_1)) then (atR v1_0 v1_2 [.n, .n, .n, .s, .n, .l, .l] fun x275 x278 x281 x284 x287 x290 x293 => (Ya.f k v1_7 x275 (fun y294 y295 => bif (!y295) then (Yq.f k v1_15 y294 ([[.d (.int .i64 x275), .d (.int .i64 1)]] : List (List C)) (fun y296 => K v1_11 v1_12 v1_13 v1_14 y296 x275 1)) else (atR v1_7 y294 [.n, .n] fun x300 x303 => (bif (decide ((x303 : Int) < x278)) then (Zc ((0 : Int) ≤ y294 ∧ y294 < (v1_15.length : Int)) (ZaG v1_15 (Int.toNat y294) fun c304 => Zas (c304.drop 1) fun c305 r306 => cD c305 fun d307 => dInt .i64 d307 fun x308 => Zc ((0 : Int) ≤ y294 ∧ y294 < (v1_15.length : Int)) (Zc (Int.toNat y294 < v1_15.length) (K v1_11 v1_12 v1_13 v1_14 (v1_15.modify (Int.toNat y294) fun c => Zq c 1 [.d (.int .i64 (IntKind.wrap .i64 (x308 + 1)))]) x275 1)))) else (L1 (IntKind.wrap .i64 (v1_2 + 1)))))))) else (K v1_11 v1_12 v1_13 v1_14 v1_15 0 0)
noncomputable def Yz.m0 {β : Type} (k : Nat) (aH : List (List D)) (aI : Int) (aK : ByteArray) (aL aM : Int) (aN aO : List (List D)) (aQ : ByteArray) (aP aT : Int) (aR : ByteArray) (aU aZ : Int) (v0_14 v0_15 : List (List C)) (K : ByteArray → Int → Int → (List (List C)) → (List (List C)) → Int → Int → Option β) (L0 : Int → Option β) (v : Int) (F : ((List (List D)) → Int → ByteArray → Int → Int → (List (List D)) → (List (List D)) → ByteArray → Int → Int → ByteArray → Int → Int → (List (List C)) → (List (List C)) → Int → Option β)) : Option β :=
  match v with
  | aJ => bif (decide ((aJ : Int) < aI)) then (atR aH aJ [.n, .n] fun x223 x226 => (YZ.f k aK aL aM aN aO x223 (fun y227 => bif (decide ((x226 : Int) > y227)) then (Zc ((0 : Int) ≤ aJ ∧ aJ < (v0_15.length : Int)) (ZaG v0_15 (Int.toNat aJ) fun c228 => Zas (c228.drop 1) fun c229 r230 => cD c229 fun d231 => dInt .i64 d231 fun x232 => Zc ((0 : Int) ≤ aJ ∧ aJ < (v0_15.length : Int)) (Zc (Int.toNat aJ < v0_15.length) (Ye.f k (v0_15.modify (Int.toNat aJ) fun c => Zq c 1 [.d (.int .i64 (IntKind.wrap .i64 (x232 - 1)))]) (fun y233 => K aR aU aZ v0_14 y233 x223 (-1)))))) else (L0 (IntKind.wrap .i64 (aJ + 1)))))) else (Yx.f k aK aL aM aN aO (fun y234 => bif (decide ((y234 : Int) ≥ aL)) then (K aR aU aZ v0_14 v0_15 0 0) else (F aN (aN.length : Int) aK aL aM aN aO aQ aP aT aR aU aZ v0_14 v0_15 (0))))
noncomputable def Yz.l0 {β : Type} (k : Nat) (aH : List (List D)) (aI : Int) (aK : ByteArray) (aL aM : Int) (aN aO : List (List D)) (aQ : ByteArray) (aP aT : Int) (aR : ByteArray) (aU aZ : Int) (v0_14 v0_15 : List (List C)) (K : ByteArray → Int → Int → (List (List C)) → (List (List C)) → Int → Int → Option β) (L0 : Int → Option β) (v : Int) : Option β := Yz.m0 k aH aI aK aL aM aN aO aQ aP aT aR aU aZ v0_14 v0_15 K L0 v (fun v1_0 v1_1 v1_3 v1_4 v1_5 v1_6 v1_7 v1_8 v1_9 v1_10 v1_11 v1_12 v1_13 v1_14 v1_15 => Zo (Yz.l1 k v1_0 v1_1 v1_3 v1_4 v1_5 v1_6 v1_7 v1_8 v1_9 v1_10 v1_11 v1_12 v1_13 v1_14 v1_15 K) k)
noncomputable def Yz.m {β : Type} (k : Nat) (aA : ByteArray) (aB aF : Int) (aD aC : List (List D)) (K : ByteArray → Int → Int → (List (List C)) → (List (List C)) → Int → Int → Option β) (F : ((List (List D)) → Int → ByteArray → Int → Int → (List (List D)) → (List (List D)) → ByteArray → Int → Int → ByteArray → Int → Int → (List (List C)) → (List (List C)) → Int → Option β)) : Option β :=
  Y8.f k aA aB aF aD aC (fun y78 y79 y80 y81 y82 => Yaa.f k aA aB aF aD aC (fun y130 => bif (!y130) then (K y78 y79 y80 y81 y82 0 0) else (F aC (aC.length : Int) aA aB aF aD aC (⟨#[]⟩ : ByteArray) 0 0 y78 y79 y80 y81 y82 (0))))
noncomputable def Yz.g {β : Type} (k : Nat) (aA : ByteArray) (aB aF : Int) (aD aC : List (List D)) (K : ByteArray → Int → Int → (List (List C)) → (List (List C)) → Int → Int → Option β) : Option β := Yz.m k aA aB aF aD aC K (fun aH aI aK aL aM aN aO aQ aP aT aR aU aZ v0_14 v0_15 => Zo (Yz.l0 k aH aI aK aL aM aN aO aQ aP aT aR aU aZ v0_14 v0_15 K) k)
noncomputable def Yz.t (k : Nat) (aA : ByteArray) (aB aF : Int) (aD aC : List (List D)) : Option (ByteArray × Int × Int × (List (List C)) × (List (List C)) × Int × Int) := Yz.g k aA aB aF aD aC (fun z0 z1 z2 z3 z4 z5 z6 => some (z0, z1, z2, z3, z4, z5, z6))
noncomputable def Yz.f {β : Type} (k : Nat) (aA : ByteArray) (aB aF : Int) (aD aC : List (List D)) (K : ByteArray → Int → Int → (List (List C)) → (List (List C)) → Int → Int → Option β) : Option β := match Yz.t k aA aB aF aD aC with | some (z0, z1, z2, z3, z4, z5, z6) => K z0 z1 z2 z3 z4 z5 z6 | none => none
noncomputable def Yz.e (k : Nat) : Zk := ent [.agg [.s, .n, .n, .l, .l]] [5, 1, 1] [.s, .n, .n, .o, .o, .n, .n] [47, 3, 3] false (Yz.t k)
noncomputable def Yz.p (k : Nat) : Pro := ⟨Try.prog, [(83, Y8.e k), (84, Yaa.e k), (85, YZ.e k), (86, Ye.e k), (88, Yx.e k), (89, Ya.e k), (92, Yq.e k)], Zn [(5, kp [1, 2, 5, 19, 20, 21]), (15, kp [1, 2, 5, 57, 58, 59])] false [], k⟩
noncomputable def Yz.d (k : Nat) (aA : ByteArray) (aB aF : Int) (aD aC : List (List D)) : Ex → St → Option (ByteArray × Int × Int × (List (List C)) × (List (List C)) × Int × Int) := (Yz.p k).fin Try.f22 [.agg [.str aA, .int .i64 aB, .int .i64 aF, .sl aD, .sl aC]] [5, 1, 1] [.s, .n, .n, .o, .o, .n, .n]
noncomputable def Yz.s0 (aH : List (List D)) (aI : Int) (aK : ByteArray) (aL aM : Int) (aN aO : List (List D)) (aQ : ByteArray) (aP aT : Int) (aR : ByteArray) (aU aZ : Int) (v0_14 v0_15 : List (List C)) (v : Int) : St :=
  match v with
  | aJ => ZX 108 [(1, .bp 0 0), (2, .bp 1 0), (5, .bp 2 0), (19, .d false (.sl aH)), (20, .d true (.int .i64 aI)), (21, .d true (.int .i64 aJ))] [.box none 47 [.d false (.str aK), .d false (.int .i64 aL), .d false (.int .i64 aM), .d false (.sl aN), .d false (.sl aO)], .box none 47 [.d true (.str aQ), .d true (.int .i64 aP), .d true (.int .i64 aT), .nil, .nil], .box none 47 [.d true (.str aR), .d true (.int .i64 aU), .d true (.int .i64 aZ), .row 3, .row 4], .row none true 44 v0_14, .row none true 45 v0_15]
noncomputable def Yz.r0 (k : Nat) (aA : ByteArray) (aB aF : Int) (aD aC aH : List (List D)) (aI : Int) (aK : ByteArray) (aL aM : Int) (aN aO : List (List D)) (aQ : ByteArray) (aP aT : Int) (aR : ByteArray) (aU aZ : Int) (v0_14 v0_15 : List (List C)) (n : Nat) (v : Int) : Option (ByteArray × Int × Int × (List (List C)) × (List (List C)) × Int × Int) := (Yz.p k).lp (Zt Try.f22) 5 [1, 1, 1, 0, 1, 0] (Yz.d k aA aB aF aD aC) n (Yz.s0 aH aI aK aL aM aN aO aQ aP aT aR aU aZ v0_14 v0_15 v)
noncomputable def Yz.s1 (v1_0 : List (List D)) (v1_1 : Int) (v1_3 : ByteArray) (v1_4 v1_5 : Int) (v1_6 v1_7 : List (List D)) (v1_8 : ByteArray) (v1_9 v1_10 : Int) (v1_11 : ByteArray) (v1_12 v1_13 : Int) (v1_14 v1_15 : List (List C)) (v : Int) : St :=
  match v with
  | v1_2 => ZX 108 [(1, .bp 0 0), (2, .bp 1 0), (5, .bp 2 0), (57, .d false (.sl v1_0)), (58, .d true (.int .i64 v1_1)), (59, .d true (.int .i64 v1_2))] [.box none 47 [.d false (.str v1_3), .d false (.int .i64 v1_4), .d false (.int .i64 v1_5), .d false (.sl v1_6), .d false (.sl v1_7)], .box none 47 [.d true (.str v1_8), .d true (.int .i64 v1_9), .d true (.int .i64 v1_10), .nil, .nil], .box none 47 [.d true (.str v1_11), .d true (.int .i64 v1_12), .d true (.int .i64 v1_13), .row 3, .row 4], .row none true 44 v1_14, .row none true 45 v1_15]
noncomputable def Yz.r1 (k : Nat) (aA : ByteArray) (aB aF : Int) (aD aC v1_0 : List (List D)) (v1_1 : Int) (v1_3 : ByteArray) (v1_4 v1_5 : Int) (v1_6 v1_7 : List (List D)) (v1_8 : ByteArray) (v1_9 v1_10 : Int) (v1_11 : ByteArray) (v1_12 v1_13 : Int) (v1_14 v1_15 : List (List C)) (n : Nat) (v : Int) : Option (ByteArray × Int × Int × (List (List C)) × (List (List C)) × Int × Int) := (Yz.p k).lp (Zt Try.f22) 15 [1, 1, 1, 1, 1, 0, 1, 0] (Yz.d k aA aB aF aD aC) n (Yz.s1 v1_0 v1_1 v1_3 v1_4 v1_5 v1_6 v1_7 v1_8 v1_9 v1_10 v1_11 v1_12 v1_13 v1_14 v1_15 v)
theorem Yz.l1_eq (k : Nat) (aA : ByteArray) (aB aF : Int) (aD aC v1_0 : List (List D)) (v1_1 : Int) (v1_3 : ByteArray) (v1_4 v1_5 : Int) (v1_6 v1_7 : List (List D)) (v1_8 : ByteArray) (v1_9 v1_10 : Int) (v1_11 : ByteArray) (v1_12 v1_13 : Int) (v1_14 v1_15 : List (List C)) : ∀ n v, Yz.r1 k aA aB aF aD aC v1_0 v1_1 v1_3 v1_4 v1_5 v1_6 v1_7 v1_8 v1_9 v1_10 v1_11 v1_12 v1_13 v1_14 v1_15 n v = Zo (Yz.l1 k v1_0 v1_1 v1_3 v1_4 v1_5 v1_6 v1_7 v1_8 v1_9 v1_10 v1_11 v1_12 v1_13 v1_14 v1_15 (fun z0 z1 z2 z3 z4 z5 z6 => some (z0, z1, z2, z3, z4, z5, z6))) n v :=
  Zm (Yz.s1 v1_0 v1_1 v1_3 v1_4 v1_5 v1_6 v1_7 v1_8 v1_9 v1_10 v1_11 v1_12 v1_13 v1_14 v1_15) _ fun L1 v => by kernel_rfl
theorem Yz.l0_eq (k : Nat) (aA : ByteArray) (aB aF : Int) (aD aC aH : List (List D)) (aI : Int) (aK : ByteArray) (aL aM : Int) (aN aO : List (List D)) (aQ : ByteArray) (aP aT : Int) (aR : ByteArray) (aU aZ : Int) (v0_14 v0_15 : List (List C)) : ∀ n v, Yz.r0 k aA aB aF aD aC aH aI aK aL aM aN aO aQ aP aT aR aU aZ v0_14 v0_15 n v = Zo (Yz.l0 k aH aI aK aL aM aN aO aQ aP aT aR aU aZ v0_14 v0_15 (fun z0 z1 z2 z3 z4 z5 z6 => some (z0, z1, z2, z3, z4, z5, z6))) n v :=
  Zm (Yz.s0 aH aI aK aL aM aN aO aQ aP aT aR aU aZ v0_14 v0_15) _ fun L0 v => by exact Eq.trans (b := Yz.m0 k aH aI aK aL aM aN aO aQ aP aT aR aU aZ v0_14 v0_15 (fun z0 z1 z2 z3 z4 z5 z6 => some (z0, z1, z2, z3, z4, z5, z6)) (fun v => L0 (Yz.s0 aH aI aK aL aM aN aO aQ aP aT aR aU aZ v0_14 v0_15 v)) v (fun v1_0 v1_1 v1_3 v1_4 v1_5 v1_6 v1_7 v1_8 v1_9 v1_10 v1_11 v1_12 v1_13 v1_14 v1_15 => Yz.r1 k aA aB aF aD aC v1_0 v1_1 v1_3 v1_4 v1_5 v1_6 v1_7 v1_8 v1_9 v1_10 v1_11 v1_12 v1_13 v1_14 v1_15 k)) (by kernel_rfl) (congrArg (Yz.m0 k aH aI aK aL aM aN aO aQ aP aT aR aU aZ v0_14 v0_15 (fun z0 z1 z2 z3 z4 z5 z6 => some (z0, z1, z2, z3, z4, z5, z6)) (fun v => L0 (Yz.s0 aH aI aK aL aM aN aO aQ aP aT aR aU aZ v0_14 v0_15 v)) v) (funext fun v1_0 => funext fun v1_1 => funext fun v1_3 => funext fun v1_4 => funext fun v1_5 => funext fun v1_6 => funext fun v1_7 => funext fun v1_8 => funext fun v1_9 => funext fun v1_10 => funext fun v1_11 => funext fun v1_12 => funext fun v1_13 => funext fun v1_14 => funext fun v1_15 => funext fun v => Yz.l1_eq k aA aB aF aD aC v1_0 v1_1 v1_3 v1_4 v1_5 v1_6 v1_7 v1_8 v1_9 v1_10 v1_11 v1_12 v1_13 v1_14 v1_15 k v))
theorem Yz.ok (k : Nat) : Za Try.prog 22 (Yz.e k) := Zh (Yz.p k) mix tyok Try.func22 ⟨Y8.ok k, Yaa.ok k, YZ.ok k, Ye.ok k, Yx.ok k, Ya.ok k, Yq.ok k⟩ (by kernel_rfl) (fun aA aB aF aD aC => Eq.trans (b := Yz.m k aA aB aF aD aC (fun z0 z1 z2 z3 z4 z5 z6 => some (z0, z1, z2, z3, z4, z5, z6)) (fun aH aI aK aL aM aN aO aQ aP aT aR aU aZ v0_14 v0_15 => Yz.r0 k aA aB aF aD aC aH aI aK aL aM aN aO aQ aP aT aR aU aZ v0_14 v0_15 k)) (by kernel_rfl) (congrArg (Yz.m k aA aB aF aD aC (fun z0 z1 z2 z3 z4 z5 z6 => some (z0, z1, z2, z3, z4, z5, z6))) (funext fun aH => funext fun aI => funext fun aK => funext fun aL => funext fun aM => funext fun aN => funext fun aO => funext fun aQ => funext fun aP => funext fun aT => funext fun aR => funext fun aU => funext fun aZ => funext fun v0_14 => funext fun v0_15 => funext fun v => Yz.l0_eq k aA aB aF aD aC aH aI aK aL aM aN aO aQ aP aT aR aU aZ v0_14 v0_15 k v)))
noncomputable def Yan.g {β : Type} (k : Nat) (aA : ByteArray) (aB aF : Int) (aD aC : List (List D)) (K : Bool → Option β) : Option β :=
  Yz.f k aA aB aF aD aC (fun y309 y310 y311 y312 y313 y314 y315 => K ((y315 : Int) == 0))
noncomputable def Yan.t (k : Nat) (aA : ByteArray) (aB aF : Int) (aD aC : List (List D)) : Option (Bool) := Yan.g k aA aB aF aD aC (fun z0 => some z0)
noncomputable def Yan.f {β : Type} (k : Nat) (aA : ByteArray) (aB aF : Int) (aD aC : List (List D)) (K : Bool → Option β) : Option β := bd1 (Yan.t k aA aB aF aD aC) K
noncomputable def Yan.e (k : Nat) : Zk := ent [.agg [.s, .n, .n, .l, .l]] [1] [.b] [4] false (Yan.t k)
noncomputable def Yan.p (k : Nat) : Pro := ⟨Try.prog, [(22, Yz.e k)], Zn [] false [], k⟩
theorem Yan.ok (k : Nat) : Za Try.prog 27 (Yan.e k) := Zh (Yan.p k) mix tyok Try.func27 (Yz.ok k) (by kernel_rfl) (fun aA aB aF aD aC => by show _ = _; kernel_rfl)
noncomputable def Yv.l0 {β : Type} (k : Nat) (aH aI : List (List D)) (K : Bool → Option β) (L0 : Int → Option β) (v : Int) : Option β :=
  match v with
  | aJ => bif (decide ((aJ : Int) < (aH.length : Int))) then (atR aH aJ [.s] fun x12 => (atR aI aJ [.s] fun x16 => (bif (!(Zae x12 x16)) then (K false) else (L0 (IntKind.wrap .i64 (aJ + 1)))))) else (K true)
noncomputable def Yv.m {β : Type} (k : Nat) (a0 a1 : List (List D)) (K : Bool → Option β) (F : ((List (List D)) → (List (List D)) → Int → Option β)) : Option β :=
  bif (((a0.length : Int) : Int) != (a1.length : Int)) then (K false) else (F a0 a1 (0))
noncomputable def Yv.g {β : Type} (k : Nat) (a0 a1 : List (List D)) (K : Bool → Option β) : Option β :=
  bif (((a0.length : Int) : Int) != (a1.length : Int)) then (K false) else (Zo (Yv.l0 k a0 a1 K) k (0))
noncomputable def Yv.t (k : Nat) (a0 a1 : List (List D)) : Option (Bool) := Yv.g k a0 a1 (fun z0 => some z0)
noncomputable def Yv.f {β : Type} (k : Nat) (a0 a1 : List (List D)) (K : Bool → Option β) : Option β := bd1 (Yv.t k a0 a1) K
noncomputable def Yv.e (k : Nat) : Zk := ent [.d .l, .d .l] [1] [.b] [4] false (Yv.t k)
noncomputable def Yv.p (k : Nat) : Pro := ⟨Try.prog, [], Zn [(4, kp [0, 1, 5])] false [], k⟩
noncomputable def Yv.d (k : Nat) (a0 a1 : List (List D)) : Ex → St → Option (Bool) := (Yv.p k).fin Try.f192 [.d (.sl a0), .d (.sl a1)] [1] [.b]
noncomputable def Yv.s0 (aH aI : List (List D)) (v : Int) : St :=
  match v with
  | aJ => ZX 26 [(0, .d false (.sl aH)), (1, .d false (.sl aI)), (5, .d true (.int .i64 aJ))] []
noncomputable def Yv.r0 (k : Nat) (a0 a1 aH aI : List (List D)) (n : Nat) (v : Int) : Option (Bool) := (Yv.p k).lp (Zt Try.f192) 4 [1, 1, 0, 1, 0] (Yv.d k a0 a1) n (Yv.s0 aH aI v)
theorem Yv.l0_eq (k : Nat) (a0 a1 aH aI : List (List D)) : ∀ n v, Yv.r0 k a0 a1 aH aI n v = Zo (Yv.l0 k aH aI (fun z0 => some z0)) n v :=
  Zm (Yv.s0 aH aI) _ fun L0 v => by kernel_rfl
theorem Yv.ok (k : Nat) : Za Try.prog 192 (Yv.e k) := Zh (Yv.p k) mix tyok Try.func192 trivial (by kernel_rfl) (fun a0 a1 => Eq.trans (b := Yv.m k a0 a1 (fun z0 => some z0) (fun aH aI => Yv.r0 k a0 a1 aH aI k)) (by kernel_rfl) (congrArg (Yv.m k a0 a1 (fun z0 => some z0)) (funext fun aH => funext fun aI => funext fun v => Yv.l0_eq k a0 a1 aH aI k v)))
noncomputable def Yo.l0 {β : Type} (k : Nat) (r_laws_eqValueS : (List (List D)) → (List (List D)) → (Bool → Option β) → Option β) (r_laws_eqValue : Int → ByteArray → Int → (List (List D)) → (List (List D)) → Int → ByteArray → Int → (List (List D)) → (List (List D)) → (Bool → Option β) → Option β) (aH : List (List D)) (aI : List (List D)) (K : Bool → Option β) (L0 : Int → Option β) (v : Int) : Option β :=
  match v with
  | aJ => bif (decide ((aJ : Int) < (aH.length : Int))) then (atR aH aJ [.n, .s, .n, .l, .l] fun x37 x40 x43 x46 x49 => (atR aI aJ [.n, .s, .n, .l, .l] fun x53 x56 x59 x62 x65 => (r_laws_eqValue x37 x40 x43 x46 x49 x53 x56 x59 x62 x65 (fun y66 => bif (!y66) then (K false) else (L0 (IntKind.wrap .i64 (aJ + 1))))))) else (K true)
noncomputable def Yo.m {β : Type} (k : Nat) (r_laws_eqValueS : (List (List D)) → (List (List D)) → (Bool → Option β) → Option β) (r_laws_eqValue : Int → ByteArray → Int → (List (List D)) → (List (List D)) → Int → ByteArray → Int → (List (List D)) → (List (List D)) → (Bool → Option β) → Option β) (a0 : List (List D)) (a1 : List (List D)) (K : Bool → Option β) (F : ((List (List D)) → (List (List D)) → Int → Option β)) : Option β :=
  bif (((a0.length : Int) : Int) != (a1.length : Int)) then (K false) else (F a0 a1 (0))
noncomputable def Yo.body {β : Type} (k : Nat) (r_laws_eqValueS : (List (List D)) → (List (List D)) → (Bool → Option β) → Option β) (r_laws_eqValue : Int → ByteArray → Int → (List (List D)) → (List (List D)) → Int → ByteArray → Int → (List (List D)) → (List (List D)) → (Bool → Option β) → Option β) (a0 : List (List D)) (a1 : List (List D)) (K : Bool → Option β) : Option β :=
  bif (((a0.length : Int) : Int) != (a1.length : Int)) then (K false) else (Zo (Yo.l0 k r_laws_eqValueS r_laws_eqValue a0 a1 K) k (0))
noncomputable def YF.body {β : Type} (k : Nat) (r_laws_eqValueS : (List (List D)) → (List (List D)) → (Bool → Option β) → Option β) (r_laws_eqValue : Int → ByteArray → Int → (List (List D)) → (List (List D)) → Int → ByteArray → Int → (List (List D)) → (List (List D)) → (Bool → Option β) → Option β) (aA : Int) (aB : ByteArray) (aF : Int) (aD : List (List D)) (aC : List (List D)) (aV : Int) (aW : ByteArray) (bA : Int) (bB : List (List D)) (bC : List (List D)) (K : Bool → Option β) : Option β :=
  bif ((aA : Int) != aV) then (K false) else (bif (!(Zae aB aW)) then (K false) else (bif ((aF : Int) != bA) then (K false) else (Yv.f k aD bB (fun y17 => bif (!y17) then (K false) else (r_laws_eqValueS aC bC (fun y67 => bif (!y67) then (K false) else (K true)))))))
noncomputable def Yo.w {β : Type} (r : (List (List D)) → (List (List D)) → Option (Bool)) (a0 : List (List D)) (a1 : List (List D)) (K : Bool → Option β) : Option β := bd1 (r a0 a1) K
noncomputable def YF.w {β : Type} (r : Int → ByteArray → Int → (List (List D)) → (List (List D)) → Int → ByteArray → Int → (List (List D)) → (List (List D)) → Option (Bool)) (aA : Int) (aB : ByteArray) (aF : Int) (aD : List (List D)) (aC : List (List D)) (aV : Int) (aW : ByteArray) (bA : Int) (bB : List (List D)) (bC : List (List D)) (K : Bool → Option β) : Option β := bd1 (r aA aB aF aD aC aV aW bA bB bC) K
noncomputable def Yo.all : Nat → ((List (List D)) → (List (List D)) → Option (Bool)) × (Int → ByteArray → Int → (List (List D)) → (List (List D)) → Int → ByteArray → Int → (List (List D)) → (List (List D)) → Option (Bool))
  | 0 => (fun _ _ => none, fun _ _ _ _ _ _ _ _ _ _ => none)
  | k + 1 => (fun r => (fun a0 a1 => Yo.body k (Yo.w r.1) (YF.w r.2) a0 a1 (fun z0 => some z0), fun aA aB aF aD aC aV aW bA bB bC => YF.body k (Yo.w r.1) (YF.w r.2) aA aB aF aD aC aV aW bA bB bC (fun z0 => some z0))) (Yo.all k)
noncomputable def Yo.t (k : Nat) (a0 a1 : List (List D)) : Option (Bool) := (Yo.all k).1 a0 a1
noncomputable def YF.t (k : Nat) (aA : Int) (aB : ByteArray) (aF : Int) (aD aC : List (List D)) (aV : Int) (aW : ByteArray) (bA : Int) (bB bC : List (List D)) : Option (Bool) := (Yo.all k).2 aA aB aF aD aC aV aW bA bB bC
noncomputable def Yo.f {β : Type} (k : Nat) (a0 a1 : List (List D)) (K : Bool → Option β) : Option β := Yo.w (Yo.t k) a0 a1 K
noncomputable def YF.f {β : Type} (k : Nat) (aA : Int) (aB : ByteArray) (aF : Int) (aD aC : List (List D)) (aV : Int) (aW : ByteArray) (bA : Int) (bB bC : List (List D)) (K : Bool → Option β) : Option β := YF.w (YF.t k) aA aB aF aD aC aV aW bA bB bC K
noncomputable def Yo.g {β : Type} (k : Nat) (a0 a1 : List (List D)) (K : Bool → Option β) : Option β := Yo.body k (Yo.f k) (YF.f k) a0 a1 K
theorem Yo.t_succ (k : Nat) (a0 a1 : List (List D)) : Yo.t (k + 1) a0 a1 = Yo.g k a0 a1 (fun z0 => some z0) := rfl
noncomputable def YF.g {β : Type} (k : Nat) (aA : Int) (aB : ByteArray) (aF : Int) (aD aC : List (List D)) (aV : Int) (aW : ByteArray) (bA : Int) (bB bC : List (List D)) (K : Bool → Option β) : Option β := YF.body k (Yo.f k) (YF.f k) aA aB aF aD aC aV aW bA bB bC K
theorem YF.t_succ (k : Nat) (aA : Int) (aB : ByteArray) (aF : Int) (aD aC : List (List D)) (aV : Int) (aW : ByteArray) (bA : Int) (bB bC : List (List D)) : YF.t (k + 1) aA aB aF aD aC aV aW bA bB bC = YF.g k aA aB aF aD aC aV aW bA bB bC (fun z0 => some z0) := rfl
noncomputable def Yo.e (k : Nat) : Zk := ent [.d .l, .d .l] [1] [.b] [4] false (Yo.t k)
noncomputable def YF.e (k : Nat) : Zk := ent [.agg [.n, .s, .n, .l, .l], .agg [.n, .s, .n, .l, .l]] [1] [.b] [4] false (YF.t k)
noncomputable def Yo.p (k : Nat) : Pro := ⟨Try.prog, [(193, YF.e k)], Zn [(4, kp [0, 1, 5])] false [], k⟩
noncomputable def Yo.d (k : Nat) (a0 a1 : List (List D)) : Ex → St → Option (Bool) := (Yo.p k).fin Try.f209 [.d (.sl a0), .d (.sl a1)] [1] [.b]
noncomputable def Yo.s0 (aH aI : List (List D)) (v : Int) : St :=
  match v with
  | aJ => ZX 27 [(0, .d false (.sl aH)), (1, .d false (.sl aI)), (5, .d true (.int .i64 aJ))] []
noncomputable def Yo.r0 (k : Nat) (a0 a1 aH aI : List (List D)) (n : Nat) (v : Int) : Option (Bool) := (Yo.p k).lp (Zt Try.f209) 4 [1, 1, 0, 1, 0] (Yo.d k a0 a1) n (Yo.s0 aH aI v)
theorem Yo.l0_eq (k : Nat) (a0 a1 aH aI : List (List D)) : ∀ n v, Yo.r0 k a0 a1 aH aI n v = Zo (Yo.l0 k (Yo.f k) (YF.f k) aH aI (fun z0 => some z0)) n v :=
  Zm (Yo.s0 aH aI) _ fun L0 v => by kernel_rfl
noncomputable def YF.p (k : Nat) : Pro := ⟨Try.prog, [(192, Yv.e k), (209, Yo.e k)], Zn [] false [], k⟩
theorem Yo.oks (k : Nat) : Za Try.prog 209 (Yo.e k) ∧ Za Try.prog 193 (YF.e k) := by
  induction k with
  | zero => exact ⟨Z7 Try.func209 (by kernel_rfl) (fun _ _ => rfl),
    Z7 Try.func193 (by kernel_rfl) (fun _ _ _ _ _ _ _ _ _ _ => rfl)⟩
  | succ k ih => exact ⟨Zh (Yo.p k) mix tyok Try.func209 ih.2 (by kernel_rfl) (fun a0 a1 => Eq.trans (b := Yo.m k (Yo.f k) (YF.f k) a0 a1 (fun z0 => some z0) (fun aH aI => Yo.r0 k a0 a1 aH aI k)) (by kernel_rfl) ((congrArg (Yo.m k (Yo.f k) (YF.f k) a0 a1 (fun z0 => some z0)) (funext fun aH => funext fun aI => funext fun v => Yo.l0_eq k a0 a1 aH aI k v)).trans (Yo.t_succ k a0 a1).symm)),
    Zh (YF.p k) mix tyok Try.func193 ⟨Yv.ok k, ih.1⟩ (by kernel_rfl) (fun aA aB aF aD aC aV aW bA bB bC => by show _ = _; kernel_rfl)⟩
theorem YF.ok (k : Nat) : Za Try.prog 193 (YF.e k) := (Yo.oks k).2
noncomputable def Yah.g {β : Type} (k : Nat) (aA aB aF : Int) (aD : ByteArray) (aC : Int) (aX aY : List (List D)) (aV aW bA : Int) (bB : ByteArray) (bC : Int) (a1_5 a1_6 : List (List D)) (K : Bool → Option β) : Option β :=
  bif ((aA : Int) != aV) then (K false) else (bif ((aB : Int) != aW) then (K false) else (YF.f k aF aD aC aX aY bA bB bC a1_5 a1_6 (fun y68 => bif (!y68) then (K false) else (K true))))
noncomputable def Yah.t (k : Nat) (aA aB aF : Int) (aD : ByteArray) (aC : Int) (aX aY : List (List D)) (aV aW bA : Int) (bB : ByteArray) (bC : Int) (a1_5 a1_6 : List (List D)) : Option (Bool) := Yah.g k aA aB aF aD aC aX aY aV aW bA bB bC a1_5 a1_6 (fun z0 => some z0)
noncomputable def Yah.f {β : Type} (k : Nat) (aA aB aF : Int) (aD : ByteArray) (aC : Int) (aX aY : List (List D)) (aV aW bA : Int) (bB : ByteArray) (bC : Int) (a1_5 a1_6 : List (List D)) (K : Bool → Option β) : Option β := bd1 (Yah.t k aA aB aF aD aC aX aY aV aW bA bB bC a1_5 a1_6) K
noncomputable def Yah.e (k : Nat) : Zk := ent [.agg [.n, .n, .n, .s, .n, .l, .l], .agg [.n, .n, .n, .s, .n, .l, .l]] [1] [.b] [4] false (Yah.t k)
noncomputable def Yah.p (k : Nat) : Pro := ⟨Try.prog, [(193, YF.e k)], Zn [] false [], k⟩
theorem Yah.ok (k : Nat) : Za Try.prog 159 (Yah.e k) := Zh (Yah.p k) mix tyok Try.func159 (YF.ok k) (by kernel_rfl) (fun aA aB aF aD aC aX aY aV aW bA bB bC a1_5 a1_6 => by show _ = _; kernel_rfl)
noncomputable def YH.l0 {β : Type} (k : Nat) (aH aI : List (List D)) (K : Bool → Option β) (L0 : Int → Option β) (v : Int) : Option β :=
  match v with
  | aJ => bif (decide ((aJ : Int) < (aH.length : Int))) then (atR aH aJ [.n, .n, .n, .s, .n, .l, .l] fun x73 x76 x79 x82 x85 x88 x91 => (atR aI aJ [.n, .n, .n, .s, .n, .l, .l] fun x95 x98 x101 x104 x107 x110 x113 => (Yah.f k x73 x76 x79 x82 x85 x88 x91 x95 x98 x101 x104 x107 x110 x113 (fun y114 => bif (!y114) then (K false) else (L0 (IntKind.wrap .i64 (aJ + 1))))))) else (K true)
noncomputable def YH.m {β : Type} (k : Nat) (a0 a1 : List (List D)) (K : Bool → Option β) (F : ((List (List D)) → (List (List D)) → Int → Option β)) : Option β :=
  bif (((a0.length : Int) : Int) != (a1.length : Int)) then (K false) else (F a0 a1 (0))
noncomputable def YH.g {β : Type} (k : Nat) (a0 a1 : List (List D)) (K : Bool → Option β) : Option β :=
  bif (((a0.length : Int) : Int) != (a1.length : Int)) then (K false) else (Zo (YH.l0 k a0 a1 K) k (0))
noncomputable def YH.t (k : Nat) (a0 a1 : List (List D)) : Option (Bool) := YH.g k a0 a1 (fun z0 => some z0)
noncomputable def YH.f {β : Type} (k : Nat) (a0 a1 : List (List D)) (K : Bool → Option β) : Option β := bd1 (YH.t k a0 a1) K
noncomputable def YH.e (k : Nat) : Zk := ent [.d .l, .d .l] [1] [.b] [4] false (YH.t k)
noncomputable def YH.p (k : Nat) : Pro := ⟨Try.prog, [(159, Yah.e k)], Zn [(4, kp [0, 1, 5])] false [], k⟩
noncomputable def YH.d (k : Nat) (a0 a1 : List (List D)) : Ex → St → Option (Bool) := (YH.p k).fin Try.f93 [.d (.sl a0), .d (.sl a1)] [1] [.b]
noncomputable def YH.s0 (aH aI : List (List D)) (v : Int) : St :=
  match v with
  | aJ => ZX 27 [(0, .d false (.sl aH)), (1, .d false (.sl aI)), (5, .d true (.int .i64 aJ))] []
noncomputable def YH.r0 (k : Nat) (a0 a1 aH aI : List (List D)) (n : Nat) (v : Int) : Option (Bool) := (YH.p k).lp (Zt Try.f93) 4 [1, 1, 0, 1, 0] (YH.d k a0 a1) n (YH.s0 aH aI v)
theorem YH.l0_eq (k : Nat) (a0 a1 aH aI : List (List D)) : ∀ n v, YH.r0 k a0 a1 aH aI n v = Zo (YH.l0 k aH aI (fun z0 => some z0)) n v :=
  Zm (YH.s0 aH aI) _ fun L0 v => by kernel_rfl
theorem YH.ok (k : Nat) : Za Try.prog 93 (YH.e k) := Zh (YH.p k) mix tyok Try.func93 (Yah.ok k) (by kernel_rfl) (fun a0 a1 => Eq.trans (b := YH.m k a0 a1 (fun z0 => some z0) (fun aH aI => YH.r0 k a0 a1 aH aI k)) (by kernel_rfl) (congrArg (YH.m k a0 a1 (fun z0 => some z0)) (funext fun aH => funext fun aI => funext fun v => YH.l0_eq k a0 a1 aH aI k v)))
noncomputable def Yal.g {β : Type} (k : Nat) (aA aB aV aW : Int) (K : Bool → Option β) : Option β :=
  bif ((aA : Int) != aV) then (K false) else (bif ((aB : Int) != aW) then (K false) else (K true))
noncomputable def Yal.t (k : Nat) (aA aB aV aW : Int) : Option (Bool) := Yal.g k aA aB aV aW (fun z0 => some z0)
noncomputable def Yal.f {β : Type} (k : Nat) (aA aB aV aW : Int) (K : Bool → Option β) : Option β := bd1 (Yal.t k aA aB aV aW) K
noncomputable def Yal.e (k : Nat) : Zk := ent [.agg [.n, .n], .agg [.n, .n]] [1] [.b] [4] false (Yal.t k)
noncomputable def Yal.p (k : Nat) : Pro := ⟨Try.prog, [], Zn [] false [], k⟩
theorem Yal.ok (k : Nat) : Za Try.prog 101 (Yal.e k) := Zh (Yal.p k) mix tyok Try.func101 trivial (by kernel_rfl) (fun aA aB aV aW => by show _ = _; kernel_rfl)
noncomputable def YP.l0 {β : Type} (k : Nat) (aH aI : List (List D)) (K : Bool → Option β) (L0 : Int → Option β) (v : Int) : Option β :=
  match v with
  | aJ => bif (decide ((aJ : Int) < (aH.length : Int))) then (atR aH aJ [.n, .n] fun x19 x22 => (atR aI aJ [.n, .n] fun x26 x29 => (Yal.f k x19 x22 x26 x29 (fun y30 => bif (!y30) then (K false) else (L0 (IntKind.wrap .i64 (aJ + 1))))))) else (K true)
noncomputable def YP.m {β : Type} (k : Nat) (a0 a1 : List (List D)) (K : Bool → Option β) (F : ((List (List D)) → (List (List D)) → Int → Option β)) : Option β :=
  bif (((a0.length : Int) : Int) != (a1.length : Int)) then (K false) else (F a0 a1 (0))
noncomputable def YP.g {β : Type} (k : Nat) (a0 a1 : List (List D)) (K : Bool → Option β) : Option β :=
  bif (((a0.length : Int) : Int) != (a1.length : Int)) then (K false) else (Zo (YP.l0 k a0 a1 K) k (0))
noncomputable def YP.t (k : Nat) (a0 a1 : List (List D)) : Option (Bool) := YP.g k a0 a1 (fun z0 => some z0)
noncomputable def YP.f {β : Type} (k : Nat) (a0 a1 : List (List D)) (K : Bool → Option β) : Option β := bd1 (YP.t k a0 a1) K
noncomputable def YP.e (k : Nat) : Zk := ent [.d .l, .d .l] [1] [.b] [4] false (YP.t k)
noncomputable def YP.p (k : Nat) : Pro := ⟨Try.prog, [(101, Yal.e k)], Zn [(4, kp [0, 1, 5])] false [], k⟩
noncomputable def YP.d (k : Nat) (a0 a1 : List (List D)) : Ex → St → Option (Bool) := (YP.p k).fin Try.f30 [.d (.sl a0), .d (.sl a1)] [1] [.b]
noncomputable def YP.s0 (aH aI : List (List D)) (v : Int) : St :=
  match v with
  | aJ => ZX 27 [(0, .d false (.sl aH)), (1, .d false (.sl aI)), (5, .d true (.int .i64 aJ))] []
noncomputable def YP.r0 (k : Nat) (a0 a1 aH aI : List (List D)) (n : Nat) (v : Int) : Option (Bool) := (YP.p k).lp (Zt Try.f30) 4 [1, 1, 0, 1, 0] (YP.d k a0 a1) n (YP.s0 aH aI v)
theorem YP.l0_eq (k : Nat) (a0 a1 aH aI : List (List D)) : ∀ n v, YP.r0 k a0 a1 aH aI n v = Zo (YP.l0 k aH aI (fun z0 => some z0)) n v :=
  Zm (YP.s0 aH aI) _ fun L0 v => by kernel_rfl
theorem YP.ok (k : Nat) : Za Try.prog 30 (YP.e k) := Zh (YP.p k) mix tyok Try.func30 (Yal.ok k) (by kernel_rfl) (fun a0 a1 => Eq.trans (b := YP.m k a0 a1 (fun z0 => some z0) (fun aH aI => YP.r0 k a0 a1 aH aI k)) (by kernel_rfl) (congrArg (YP.m k a0 a1 (fun z0 => some z0)) (funext fun aH => funext fun aI => funext fun v => YP.l0_eq k a0 a1 aH aI k v)))
noncomputable def Yai.g {β : Type} (k : Nat) (aA : ByteArray) (aB aF : Int) (aD aC : List (List D)) (aV : ByteArray) (aW bA : Int) (bB bC : List (List D)) (K : Bool → Option β) : Option β :=
  bif (!(Zae aA aV)) then (K false) else (bif ((aB : Int) != aW) then (K false) else (bif ((aF : Int) != bA) then (K false) else (YH.f k aD bB (fun y115 => bif (!y115) then (K false) else (YP.f k aC bC (fun y116 => bif (!y116) then (K false) else (K true)))))))
noncomputable def Yai.t (k : Nat) (aA : ByteArray) (aB aF : Int) (aD aC : List (List D)) (aV : ByteArray) (aW bA : Int) (bB bC : List (List D)) : Option (Bool) := Yai.g k aA aB aF aD aC aV aW bA bB bC (fun z0 => some z0)
noncomputable def Yai.f {β : Type} (k : Nat) (aA : ByteArray) (aB aF : Int) (aD aC : List (List D)) (aV : ByteArray) (aW bA : Int) (bB bC : List (List D)) (K : Bool → Option β) : Option β := bd1 (Yai.t k aA aB aF aD aC aV aW bA bB bC) K
noncomputable def Yai.e (k : Nat) : Zk := ent [.agg [.s, .n, .n, .l, .l], .agg [.s, .n, .n, .l, .l]] [1] [.b] [4] false (Yai.t k)
noncomputable def Yai.p (k : Nat) : Pro := ⟨Try.prog, [(93, YH.e k), (30, YP.e k)], Zn [] false [], k⟩
theorem Yai.ok (k : Nat) : Za Try.prog 23 (Yai.e k) := Zh (Yai.p k) mix tyok Try.func23 ⟨YH.ok k, YP.ok k⟩ (by kernel_rfl) (fun aA aB aF aD aC aV aW bA bB bC => by show _ = _; kernel_rfl)
noncomputable def Yab.g {β : Type} (k : Nat) (aA : ByteArray) (aB aF : Int) (aD aC : List (List D)) (K : Bool → Option β) : Option β :=
  Yag.f k aA aB aF aD aC 1048576 (fun y63 => bif (decide ((y63 : Int) < 0)) then (K true) else (Y4.f k aA aB aF aD aC (fun y87 y88 y89 y90 y91 => Yam.f k y87 y88 y89 (C.immRows y90) (C.immRows y91) (fun y364 => Y4.f k aA aB aF aD aC (fun y365 y366 y367 y368 y369 => Yan.f k y365 y366 y367 (C.immRows y368) (C.immRows y369) (fun y370 => bif (!(y370 == y364)) then (K false) else (Y4.f k aA aB aF aD aC (fun y371 y372 y373 y374 y375 => Yai.f k y365 y366 y367 (C.immRows y368) (C.immRows y369) y371 y372 y373 (C.immRows y374) (C.immRows y375) (fun y376 => bif (!y376) then (K false) else (K true))))))))))
noncomputable def Yab.t (k : Nat) (aA : ByteArray) (aB aF : Int) (aD aC : List (List D)) : Option (Bool) := Yab.g k aA aB aF aD aC (fun z0 => some z0)
noncomputable def Yab.e (k : Nat) : Zk := ent [.agg [.s, .n, .n, .l, .l]] [1] [.b] [4] false (Yab.t k)
noncomputable def Yab.p (k : Nat) : Pro := ⟨Try.prog, [(19, Yag.e k), (21, Y4.e k), (26, Yam.e k), (27, Yan.e k), (23, Yai.e k)], Zn [] false [], k⟩
theorem Yab.ok (k : Nat) : Za Try.prog 5 (Yab.e k) := Zh (Yab.p k) mix tyok Try.func5 ⟨Yag.ok k, Y4.ok k, Yam.ok k, Yan.ok k, Yai.ok k⟩ (by kernel_rfl) (fun aA aB aF aD aC => by show _ = _; kernel_rfl)
end Go.Proofs.Ytppfencdbabmeaa
