/- Printed: the functions that FnExactTell reaches, read by the evaluator, each with its contract. -/
import Derived.Test.YtlobhlnahhjpjaaTIns
import Derived.Test.YtlobhlnahhjpjaaProg
import Derived.KernelRfl
set_option linter.unusedVariables false
set_option linter.unusedSimpArgs false
namespace Go.Proofs.Ytlobhlnahhjpjaa
open Go Go.T Go.Proofs
theorem mix : Try.prog.follows .mixedOrders = true := by kernel_rfl
theorem tyok : Zar Try.prog := tyOk_of (by kernel_rfl)
noncomputable def Yt.l0 {β : Type} (k : Nat) (aA : List (List D)) (K : Int → Option β) (L0 : (Int × Int) → Option β) (v : Int × Int) : Option β :=
  match v with
  | (aB, aJ) => bif (decide ((aJ : Int) < (aA.length : Int))) then (atR aA aJ [.s] fun x8 => (bif (decide (((IntKind.wrap .i64 (aB - (x8.size : Int))) : Int) < 0)) then (K (-1)) else (L0 (IntKind.wrap .i64 (aB - (x8.size : Int)), IntKind.wrap .i64 (aJ + 1))))) else (K aB)
noncomputable def Yt.m {β : Type} (k : Nat) (a0 : List (List D)) (a1 : Int) (K : Int → Option β) (F : ((List (List D)) → (Int × Int) → Option β)) : Option β :=
  bif (decide (((IntKind.wrap .i64 (a1 - (a0.length : Int))) : Int) < 0)) then (K (-1)) else (F a0 (IntKind.wrap .i64 (a1 - (a0.length : Int)), 0))
noncomputable def Yt.g {β : Type} (k : Nat) (a0 : List (List D)) (a1 : Int) (K : Int → Option β) : Option β :=
  bif (decide (((IntKind.wrap .i64 (a1 - (a0.length : Int))) : Int) < 0)) then (K (-1)) else (ZA (Yt.l0 k a0 K) k (IntKind.wrap .i64 (a1 - (a0.length : Int)), 0))
noncomputable def Yt.t (k : Nat) (a0 : List (List D)) (a1 : Int) : Option (Int) := Yt.g k a0 a1 (fun z0 => some z0)
noncomputable def Yt.f {β : Type} (k : Nat) (a0 : List (List D)) (a1 : Int) (K : Int → Option β) : Option β := bd1 (Yt.t k a0 a1) K
noncomputable def Yt.e (k : Nat) : Zj := ent [.d .l, .d .n] [1] [.n] [3] false (Yt.t k)
noncomputable def Yt.p (k : Nat) : Pro := ⟨Try.prog, [], Zv [(5, kp [0, 1, 5])] false [], k⟩
noncomputable def Yt.d (k : Nat) (a0 : List (List D)) (a1 : Int) : Ex → St → Option (Int) := (Yt.p k).fin Try.f84 [.d (.sl a0), .d (.int .i64 a1)] [1] [.n]
noncomputable def Yt.s0 (aA : List (List D)) (v : Int × Int) : St :=
  match v with
  | (aB, aJ) => ZaA 28 [(0, .d false (.sl aA)), (1, .d true (.int .i64 aB)), (5, .d true (.int .i64 aJ))] []
noncomputable def Yt.r0 (k : Nat) (a0 : List (List D)) (a1 : Int) (aA : List (List D)) (n : Nat) (v : Int × Int) : Option (Int) := (Yt.p k).lp (ZI Try.f84) 5 [1, 1, 1, 0, 1, 0] (Yt.d k a0 a1) n (Yt.s0 aA v)
theorem Yt.l0_eq (k : Nat) (a0 : List (List D)) (a1 : Int) (aA : List (List D)) : ∀ n v, Yt.r0 k a0 a1 aA n v = ZA (Yt.l0 k aA (fun z0 => some z0)) n v :=
  Zz (Yt.s0 aA) _ fun L0 v => by obtain ⟨aB, aJ⟩ := v; kernel_rfl
theorem Yt.ok (k : Nat) : Zf Try.prog 84 (Yt.e k) := Zk (Yt.p k) mix tyok Try.func84 trivial (by kernel_rfl) (fun a0 a1 => Eq.trans (b := Yt.m k a0 a1 (fun z0 => some z0) (fun aA => Yt.r0 k a0 a1 aA k)) (by kernel_rfl) (congrArg (Yt.m k a0 a1 (fun z0 => some z0)) (funext fun aA => funext fun v => Yt.l0_eq k a0 a1 aA k v) :))
noncomputable def Yl.l0 {β : Type} (k : Nat) (r_laws_szValueS : (List (List D)) → Int → (Int → Option β) → Option β) (r_laws_szValue : Int → ByteArray → Int → (List (List D)) → (List (List D)) → Int → (Int → Option β) → Option β) (aA : List (List D)) (K : Int → Option β) (L0 : (Int × Int) → Option β) (v : Int × Int) : Option β :=
  match v with
  | (aB, aJ) => bif (decide ((aJ : Int) < (aA.length : Int))) then (atR aA aJ [.n, .s, .n, .l, .l] fun x21 x24 x27 x30 x33 => (r_laws_szValue x21 x24 x27 x30 x33 aB (fun y34 => bif (decide ((y34 : Int) < 0)) then (K (-1)) else (L0 (y34, IntKind.wrap .i64 (aJ + 1)))))) else (K aB)
noncomputable def Yl.m {β : Type} (k : Nat) (r_laws_szValueS : (List (List D)) → Int → (Int → Option β) → Option β) (r_laws_szValue : Int → ByteArray → Int → (List (List D)) → (List (List D)) → Int → (Int → Option β) → Option β) (a0 : List (List D)) (a1 : Int) (K : Int → Option β) (F : ((List (List D)) → (Int × Int) → Option β)) : Option β :=
  bif (decide (((IntKind.wrap .i64 (a1 - (a0.length : Int))) : Int) < 0)) then (K (-1)) else (F a0 (IntKind.wrap .i64 (a1 - (a0.length : Int)), 0))
noncomputable def Yl.body {β : Type} (k : Nat) (r_laws_szValueS : (List (List D)) → Int → (Int → Option β) → Option β) (r_laws_szValue : Int → ByteArray → Int → (List (List D)) → (List (List D)) → Int → (Int → Option β) → Option β) (a0 : List (List D)) (a1 : Int) (K : Int → Option β) : Option β :=
  bif (decide (((IntKind.wrap .i64 (a1 - (a0.length : Int))) : Int) < 0)) then (K (-1)) else (ZA (Yl.l0 k r_laws_szValueS r_laws_szValue a0 K) k (IntKind.wrap .i64 (a1 - (a0.length : Int)), 0))
noncomputable def Yy.body {β : Type} (k : Nat) (r_laws_szValueS : (List (List D)) → Int → (Int → Option β) → Option β) (r_laws_szValue : Int → ByteArray → Int → (List (List D)) → (List (List D)) → Int → (Int → Option β) → Option β) (aC : Int) (aD : ByteArray) (aI : Int) (aF : List (List D)) (aH : List (List D)) (a1 : Int) (K : Int → Option β) : Option β :=
  bif (decide (((IntKind.wrap .i64 (a1 - (aD.size : Int))) : Int) < 0)) then (K (-1)) else (Yt.f k aF (IntKind.wrap .i64 (a1 - (aD.size : Int))) (fun y9 => bif (decide ((y9 : Int) < 0)) then (K (-1)) else (r_laws_szValueS aH y9 (fun y35 => bif (decide ((y35 : Int) < 0)) then (K (-1)) else (K y35)))))
noncomputable def Yl.w {β : Type} (r : (List (List D)) → Int → Option (Int)) (a0 : List (List D)) (a1 : Int) (K : Int → Option β) : Option β := bd1 (r a0 a1) K
noncomputable def Yy.w {β : Type} (r : Int → ByteArray → Int → (List (List D)) → (List (List D)) → Int → Option (Int)) (aC : Int) (aD : ByteArray) (aI : Int) (aF : List (List D)) (aH : List (List D)) (a1 : Int) (K : Int → Option β) : Option β := bd1 (r aC aD aI aF aH a1) K
noncomputable def Yl.all : Nat → ((List (List D)) → Int → Option (Int)) × (Int → ByteArray → Int → (List (List D)) → (List (List D)) → Int → Option (Int))
  | 0 => (fun _ _ => none, fun _ _ _ _ _ _ => none)
  | k + 1 => (fun r => (fun a0 a1 => Yl.body k (Yl.w r.1) (Yy.w r.2) a0 a1 (fun z0 => some z0), fun aC aD aI aF aH a1 => Yy.body k (Yl.w r.1) (Yy.w r.2) aC aD aI aF aH a1 (fun z0 => some z0))) (Yl.all k)
noncomputable def Yl.t (k : Nat) (a0 : List (List D)) (a1 : Int) : Option (Int) := (Yl.all k).1 a0 a1
noncomputable def Yy.t (k : Nat) (aC : Int) (aD : ByteArray) (aI : Int) (aF aH : List (List D)) (a1 : Int) : Option (Int) := (Yl.all k).2 aC aD aI aF aH a1
noncomputable def Yl.f {β : Type} (k : Nat) (a0 : List (List D)) (a1 : Int) (K : Int → Option β) : Option β := Yl.w (Yl.t k) a0 a1 K
noncomputable def Yy.f {β : Type} (k : Nat) (aC : Int) (aD : ByteArray) (aI : Int) (aF aH : List (List D)) (a1 : Int) (K : Int → Option β) : Option β := Yy.w (Yy.t k) aC aD aI aF aH a1 K
noncomputable def Yl.g {β : Type} (k : Nat) (a0 : List (List D)) (a1 : Int) (K : Int → Option β) : Option β := Yl.body k (Yl.f k) (Yy.f k) a0 a1 K
theorem Yl.t_succ (k : Nat) (a0 : List (List D)) (a1 : Int) : Yl.t (k + 1) a0 a1 = Yl.g k a0 a1 (fun z0 => some z0) := rfl
noncomputable def Yy.g {β : Type} (k : Nat) (aC : Int) (aD : ByteArray) (aI : Int) (aF aH : List (List D)) (a1 : Int) (K : Int → Option β) : Option β := Yy.body k (Yl.f k) (Yy.f k) aC aD aI aF aH a1 K
theorem Yy.t_succ (k : Nat) (aC : Int) (aD : ByteArray) (aI : Int) (aF aH : List (List D)) (a1 : Int) : Yy.t (k + 1) aC aD aI aF aH a1 = Yy.g k aC aD aI aF aH a1 (fun z0 => some z0) := rfl
noncomputable def Yl.e (k : Nat) : Zj := ent [.d .l, .d .n] [1] [.n] [3] false (Yl.t k)
noncomputable def Yy.e (k : Nat) : Zj := ent [.agg [.n, .s, .n, .l, .l], .d .n] [1] [.n] [3] false (Yy.t k)
noncomputable def Yl.p (k : Nat) : Pro := ⟨Try.prog, [(79, Yy.e k)], Zv [(5, kp [0, 1, 5])] false [], k⟩
noncomputable def Yl.d (k : Nat) (a0 : List (List D)) (a1 : Int) : Ex → St → Option (Int) := (Yl.p k).fin Try.f98 [.d (.sl a0), .d (.int .i64 a1)] [1] [.n]
noncomputable def Yl.s0 (aA : List (List D)) (v : Int × Int) : St :=
  match v with
  | (aB, aJ) => ZaA 27 [(0, .d false (.sl aA)), (1, .d true (.int .i64 aB)), (5, .d true (.int .i64 aJ))] []
noncomputable def Yl.r0 (k : Nat) (a0 : List (List D)) (a1 : Int) (aA : List (List D)) (n : Nat) (v : Int × Int) : Option (Int) := (Yl.p k).lp (ZI Try.f98) 5 [1, 1, 1, 0, 1, 0] (Yl.d k a0 a1) n (Yl.s0 aA v)
theorem Yl.l0_eq (k : Nat) (a0 : List (List D)) (a1 : Int) (aA : List (List D)) : ∀ n v, Yl.r0 k a0 a1 aA n v = ZA (Yl.l0 k (Yl.f k) (Yy.f k) aA (fun z0 => some z0)) n v :=
  Zz (Yl.s0 aA) _ fun L0 v => by obtain ⟨aB, aJ⟩ := v; kernel_rfl
noncomputable def Yy.p (k : Nat) : Pro := ⟨Try.prog, [(84, Yt.e k), (98, Yl.e k)], Zv [] false [], k⟩
theorem Yl.oks (k : Nat) : Zf Try.prog 98 (Yl.e k) ∧ Zf Try.prog 79 (Yy.e k) := by
  induction k with
  | zero => exact ⟨Zba Try.func98 (by kernel_rfl) (fun _ _ => rfl),
    Zba Try.func79 (by kernel_rfl) (fun _ _ _ _ _ _ => rfl)⟩
  | succ k ih => exact ⟨Zk (Yl.p k) mix tyok Try.func98 ih.2 (by kernel_rfl) (fun a0 a1 => Eq.trans (b := Yl.m k (Yl.f k) (Yy.f k) a0 a1 (fun z0 => some z0) (fun aA => Yl.r0 k a0 a1 aA k)) (by kernel_rfl) ((congrArg (Yl.m k (Yl.f k) (Yy.f k) a0 a1 (fun z0 => some z0)) (funext fun aA => funext fun v => Yl.l0_eq k a0 a1 aA k v)).trans (Yl.t_succ k a0 a1).symm)),
    Zk (Yy.p k) mix tyok Try.func79 ⟨Yt.ok k, ih.1⟩ (by kernel_rfl) (fun aC aD aI aF aH a1 => by show _ = _; kernel_rfl)⟩
theorem Yy.ok (k : Nat) : Zf Try.prog 79 (Yy.e k) := (Yl.oks k).2
noncomputable def YO.g {β : Type} (k : Nat) (aC aD aI : Int) (aF : ByteArray) (aH : Int) (aU aV : List (List D)) (a1 : Int) (K : Int → Option β) : Option β :=
  Yy.f k aI aF aH aU aV a1 (fun y36 => bif (decide ((y36 : Int) < 0)) then (K (-1)) else (K y36))
noncomputable def YO.t (k : Nat) (aC aD aI : Int) (aF : ByteArray) (aH : Int) (aU aV : List (List D)) (a1 : Int) : Option (Int) := YO.g k aC aD aI aF aH aU aV a1 (fun z0 => some z0)
noncomputable def YO.f {β : Type} (k : Nat) (aC aD aI : Int) (aF : ByteArray) (aH : Int) (aU aV : List (List D)) (a1 : Int) (K : Int → Option β) : Option β := bd1 (YO.t k aC aD aI aF aH aU aV a1) K
noncomputable def YO.e (k : Nat) : Zj := ent [.agg [.n, .n, .n, .s, .n, .l, .l], .d .n] [1] [.n] [3] false (YO.t k)
noncomputable def YO.p (k : Nat) : Pro := ⟨Try.prog, [(79, Yy.e k)], Zv [] false [], k⟩
theorem YO.ok (k : Nat) : Zf Try.prog 57 (YO.e k) := Zk (YO.p k) mix tyok Try.func57 (Yy.ok k) (by kernel_rfl) (fun aC aD aI aF aH aU aV a1 => by show _ = _; kernel_rfl)
noncomputable def YA.l0 {β : Type} (k : Nat) (aA : List (List D)) (K : Int → Option β) (L0 : (Int × Int) → Option β) (v : Int × Int) : Option β :=
  match v with
  | (aB, aJ) => bif (decide ((aJ : Int) < (aA.length : Int))) then (atR aA aJ [.n, .n, .n, .s, .n, .l, .l] fun x41 x44 x47 x50 x53 x56 x59 => (YO.f k x41 x44 x47 x50 x53 x56 x59 aB (fun y60 => bif (decide ((y60 : Int) < 0)) then (K (-1)) else (L0 (y60, IntKind.wrap .i64 (aJ + 1)))))) else (K aB)
noncomputable def YA.m {β : Type} (k : Nat) (a0 : List (List D)) (a1 : Int) (K : Int → Option β) (F : ((List (List D)) → (Int × Int) → Option β)) : Option β :=
  bif (decide (((IntKind.wrap .i64 (a1 - (a0.length : Int))) : Int) < 0)) then (K (-1)) else (F a0 (IntKind.wrap .i64 (a1 - (a0.length : Int)), 0))
noncomputable def YA.g {β : Type} (k : Nat) (a0 : List (List D)) (a1 : Int) (K : Int → Option β) : Option β :=
  bif (decide (((IntKind.wrap .i64 (a1 - (a0.length : Int))) : Int) < 0)) then (K (-1)) else (ZA (YA.l0 k a0 K) k (IntKind.wrap .i64 (a1 - (a0.length : Int)), 0))
noncomputable def YA.t (k : Nat) (a0 : List (List D)) (a1 : Int) : Option (Int) := YA.g k a0 a1 (fun z0 => some z0)
noncomputable def YA.f {β : Type} (k : Nat) (a0 : List (List D)) (a1 : Int) (K : Int → Option β) : Option β := bd1 (YA.t k a0 a1) K
noncomputable def YA.e (k : Nat) : Zj := ent [.d .l, .d .n] [1] [.n] [3] false (YA.t k)
noncomputable def YA.p (k : Nat) : Pro := ⟨Try.prog, [(57, YO.e k)], Zv [(5, kp [0, 1, 5])] false [], k⟩
noncomputable def YA.d (k : Nat) (a0 : List (List D)) (a1 : Int) : Ex → St → Option (Int) := (YA.p k).fin Try.f25 [.d (.sl a0), .d (.int .i64 a1)] [1] [.n]
noncomputable def YA.s0 (aA : List (List D)) (v : Int × Int) : St :=
  match v with
  | (aB, aJ) => ZaA 27 [(0, .d false (.sl aA)), (1, .d true (.int .i64 aB)), (5, .d true (.int .i64 aJ))] []
noncomputable def YA.r0 (k : Nat) (a0 : List (List D)) (a1 : Int) (aA : List (List D)) (n : Nat) (v : Int × Int) : Option (Int) := (YA.p k).lp (ZI Try.f25) 5 [1, 1, 1, 0, 1, 0] (YA.d k a0 a1) n (YA.s0 aA v)
theorem YA.l0_eq (k : Nat) (a0 : List (List D)) (a1 : Int) (aA : List (List D)) : ∀ n v, YA.r0 k a0 a1 aA n v = ZA (YA.l0 k aA (fun z0 => some z0)) n v :=
  Zz (YA.s0 aA) _ fun L0 v => by obtain ⟨aB, aJ⟩ := v; kernel_rfl
theorem YA.ok (k : Nat) : Zf Try.prog 25 (YA.e k) := Zk (YA.p k) mix tyok Try.func25 (YO.ok k) (by kernel_rfl) (fun a0 a1 => Eq.trans (b := YA.m k a0 a1 (fun z0 => some z0) (fun aA => YA.r0 k a0 a1 aA k)) (by kernel_rfl) (congrArg (YA.m k a0 a1 (fun z0 => some z0)) (funext fun aA => funext fun v => YA.l0_eq k a0 a1 aA k v) :))
noncomputable def YP.g {β : Type} (k : Nat) (a0 : List (List D)) (a1 : Int) (K : Int → Option β) : Option β :=
  bif (decide (((IntKind.wrap .i64 (a1 - (a0.length : Int))) : Int) < 0)) then (K (-1)) else (K (IntKind.wrap .i64 (a1 - (a0.length : Int))))
noncomputable def YP.t (k : Nat) (a0 : List (List D)) (a1 : Int) : Option (Int) := YP.g k a0 a1 (fun z0 => some z0)
noncomputable def YP.f {β : Type} (k : Nat) (a0 : List (List D)) (a1 : Int) (K : Int → Option β) : Option β := bd1 (YP.t k a0 a1) K
noncomputable def YP.e (k : Nat) : Zj := ent [.d .l, .d .n] [1] [.n] [3] false (YP.t k)
noncomputable def YP.p (k : Nat) : Pro := ⟨Try.prog, [], Zv [] false [], k⟩
theorem YP.ok (k : Nat) : Zf Try.prog 26 (YP.e k) := Zk (YP.p k) mix tyok Try.func26 trivial (by kernel_rfl) (fun a0 a1 => by show _ = _; kernel_rfl)
noncomputable def YQ.g {β : Type} (k : Nat) (aC : ByteArray) (aD aI : Int) (aF aH : List (List D)) (a1 : Int) (K : Int → Option β) : Option β :=
  bif (decide (((IntKind.wrap .i64 (a1 - (aC.size : Int))) : Int) < 0)) then (K (-1)) else (YA.f k aF (IntKind.wrap .i64 (a1 - (aC.size : Int))) (fun y61 => bif (decide ((y61 : Int) < 0)) then (K (-1)) else (YP.f k aH y61 (fun y62 => bif (decide ((y62 : Int) < 0)) then (K (-1)) else (K y62)))))
noncomputable def YQ.t (k : Nat) (aC : ByteArray) (aD aI : Int) (aF aH : List (List D)) (a1 : Int) : Option (Int) := YQ.g k aC aD aI aF aH a1 (fun z0 => some z0)
noncomputable def YQ.f {β : Type} (k : Nat) (aC : ByteArray) (aD aI : Int) (aF aH : List (List D)) (a1 : Int) (K : Int → Option β) : Option β := bd1 (YQ.t k aC aD aI aF aH a1) K
noncomputable def YQ.e (k : Nat) : Zj := ent [.agg [.s, .n, .n, .l, .l], .d .n] [1] [.n] [3] false (YQ.t k)
noncomputable def YQ.p (k : Nat) : Pro := ⟨Try.prog, [(25, YA.e k), (26, YP.e k)], Zv [] false [], k⟩
theorem YQ.ok (k : Nat) : Zf Try.prog 5 (YQ.e k) := Zk (YQ.p k) mix tyok Try.func5 ⟨YA.ok k, YP.ok k⟩ (by kernel_rfl) (fun aC aD aI aF aH a1 => by show _ = _; kernel_rfl)
noncomputable def Ys.l0 {β : Type} (k : Nat) (aA : List (List D)) (K : (List (List C)) → Option β) (L0 : (Int × (List (List C))) → Option β) (v : Int × (List (List C))) : Option β :=
  match v with
  | (aB, aJ) => bif (decide ((aB : Int) < (aA.length : Int))) then (atR aA aB [.s] fun x8 => (Zd ((0 : Int) ≤ aB ∧ aB < (aJ.length : Int)) (Zd (Int.toNat aB < aJ.length) (L0 (IntKind.wrap .i64 (aB + 1), aJ.modify (Int.toNat aB) fun c => Zs c 0 [.d (.str x8)]))))) else (K aJ)
noncomputable def Ys.m {β : Type} (k : Nat) (a0 : List (List D)) (K : (List (List C)) → Option β) (F : ((List (List D)) → (Int × (List (List C))) → Option β)) : Option β :=
  Zd ((0 : Int) ≤ (a0.length : Int) ∧ (a0.length : Int) ≤ (Z8 : Int) ∧ (a0.length : Int) ≤ (a0.length : Int) ∧ (a0.length : Int) ≤ (a0.length : Int)) (F a0 (0, List.replicate (Int.toNat (a0.length : Int)) ([.d (.str (⟨#[]⟩ : ByteArray))] : List C)))
noncomputable def Ys.g {β : Type} (k : Nat) (a0 : List (List D)) (K : (List (List C)) → Option β) : Option β :=
  Zd ((0 : Int) ≤ (a0.length : Int) ∧ (a0.length : Int) ≤ (Z8 : Int) ∧ (a0.length : Int) ≤ (a0.length : Int) ∧ (a0.length : Int) ≤ (a0.length : Int)) (ZA (Ys.l0 k a0 K) k (0, List.replicate (Int.toNat (a0.length : Int)) ([.d (.str (⟨#[]⟩ : ByteArray))] : List C)))
noncomputable def Ys.t (k : Nat) (a0 : List (List D)) : Option ((List (List C))) := Ys.g k a0 (fun z0 => some z0)
noncomputable def Ys.f {β : Type} (k : Nat) (a0 : List (List D)) (K : (List (List C)) → Option β) : Option β := bd1 (Ys.t k a0) K
noncomputable def Ys.e (k : Nat) : Zj := ent [.d .l] [1] [.o] [59] false (Ys.t k)
noncomputable def Ys.p (k : Nat) : Pro := ⟨Try.prog, [], Zv [(3, kp [0, 3, 4])] false [], k⟩
noncomputable def Ys.d (k : Nat) (a0 : List (List D)) : Ex → St → Option ((List (List C))) := (Ys.p k).fin Try.f87 [.d (.sl a0)] [1] [.o]
noncomputable def Ys.s0 (aA : List (List D)) (v : Int × (List (List C))) : St :=
  match v with
  | (aB, aJ) => ZaA 22 [(0, .d false (.sl aA)), (3, .row 0), (4, .d true (.int .i64 aB))] [.row none true 59 aJ]
noncomputable def Ys.r0 (k : Nat) (a0 aA : List (List D)) (n : Nat) (v : Int × (List (List C))) : Option ((List (List C))) := (Ys.p k).lp (ZI Try.f87) 3 [1, 1, 0, 1, 0] (Ys.d k a0) n (Ys.s0 aA v)
theorem Ys.l0_eq (k : Nat) (a0 aA : List (List D)) : ∀ n v, Ys.r0 k a0 aA n v = ZA (Ys.l0 k aA (fun z0 => some z0)) n v :=
  Zz (Ys.s0 aA) _ fun L0 v => by obtain ⟨aB, aJ⟩ := v; kernel_rfl
theorem Ys.ok (k : Nat) : Zf Try.prog 87 (Ys.e k) := Zk (Ys.p k) mix tyok Try.func87 trivial (by kernel_rfl) (fun a0 => Eq.trans (b := Ys.m k a0 (fun z0 => some z0) (fun aA => Ys.r0 k a0 aA k)) (by kernel_rfl) (congrArg (Ys.m k a0 (fun z0 => some z0)) (funext fun aA => funext fun v => Ys.l0_eq k a0 aA k v) :))
noncomputable def Yk.l0 {β : Type} (k : Nat) (r_laws_toValueS : (List (List D)) → ((List (List C)) → Option β) → Option β) (r_laws_toValue : Int → ByteArray → Int → (List (List D)) → (List (List D)) → (Int → ByteArray → Int → (List (List C)) → (List (List C)) → Option β) → Option β) (aA : List (List D)) (K : (List (List C)) → Option β) (L0 : (Int × (List (List C))) → Option β) (v : Int × (List (List C))) : Option β :=
  match v with
  | (aB, aJ) => bif (decide ((aB : Int) < (aA.length : Int))) then (atR aA aB [.n, .s, .n, .l, .l] fun x25 x28 x31 x34 x37 => (r_laws_toValue x25 x28 x31 x34 x37 (fun y38 y39 y40 y41 y42 => Zd ((0 : Int) ≤ aB ∧ aB < (aJ.length : Int)) (Zd (Int.toNat aB < aJ.length) (L0 (IntKind.wrap .i64 (aB + 1), aJ.modify (Int.toNat aB) fun c => Zs c 0 [.d (.int .i64 y38), .d (.str y39), .d (.int .i64 y40), .own y41, .own y42])))))) else (K aJ)
noncomputable def Yk.m {β : Type} (k : Nat) (r_laws_toValueS : (List (List D)) → ((List (List C)) → Option β) → Option β) (r_laws_toValue : Int → ByteArray → Int → (List (List D)) → (List (List D)) → (Int → ByteArray → Int → (List (List C)) → (List (List C)) → Option β) → Option β) (a0 : List (List D)) (K : (List (List C)) → Option β) (F : ((List (List D)) → (Int × (List (List C))) → Option β)) : Option β :=
  Zd ((0 : Int) ≤ (a0.length : Int) ∧ (a0.length : Int) ≤ (Z8 : Int) ∧ (a0.length : Int) ≤ (a0.length : Int) ∧ (a0.length : Int) ≤ (a0.length : Int)) (F a0 (0, List.replicate (Int.toNat (a0.length : Int)) ([.d (.int .i64 0), .d (.str (⟨#[]⟩ : ByteArray)), .d (.int .i64 0), .own ([] : List (List C)), .own ([] : List (List C))] : List C)))
noncomputable def Yk.body {β : Type} (k : Nat) (r_laws_toValueS : (List (List D)) → ((List (List C)) → Option β) → Option β) (r_laws_toValue : Int → ByteArray → Int → (List (List D)) → (List (List D)) → (Int → ByteArray → Int → (List (List C)) → (List (List C)) → Option β) → Option β) (a0 : List (List D)) (K : (List (List C)) → Option β) : Option β := Yk.m k r_laws_toValueS r_laws_toValue a0 K (fun aA => ZA (Yk.l0 k r_laws_toValueS r_laws_toValue aA K) k)
noncomputable def Yx.body {β : Type} (k : Nat) (r_laws_toValueS : (List (List D)) → ((List (List C)) → Option β) → Option β) (r_laws_toValue : Int → ByteArray → Int → (List (List D)) → (List (List D)) → (Int → ByteArray → Int → (List (List C)) → (List (List C)) → Option β) → Option β) (aC : Int) (aD : ByteArray) (aI : Int) (aF : List (List D)) (aH : List (List D)) (K : Int → ByteArray → Int → (List (List C)) → (List (List C)) → Option β) : Option β :=
  Ys.f k aF (fun y9 => r_laws_toValueS aH (fun y43 => K aC aD aI y9 y43))
noncomputable def Yk.w {β : Type} (r : (List (List D)) → Option ((List (List C)))) (a0 : List (List D)) (K : (List (List C)) → Option β) : Option β := bd1 (r a0) K
noncomputable def Yx.w {β : Type} (r : Int → ByteArray → Int → (List (List D)) → (List (List D)) → Option (Int × ByteArray × Int × (List (List C)) × (List (List C)))) (aC : Int) (aD : ByteArray) (aI : Int) (aF : List (List D)) (aH : List (List D)) (K : Int → ByteArray → Int → (List (List C)) → (List (List C)) → Option β) : Option β := bd5 (r aC aD aI aF aH) K
noncomputable def Yk.all : Nat → ((List (List D)) → Option ((List (List C)))) × (Int → ByteArray → Int → (List (List D)) → (List (List D)) → Option (Int × ByteArray × Int × (List (List C)) × (List (List C))))
  | 0 => (fun _ => none, fun _ _ _ _ _ => none)
  | k + 1 => (fun r => (fun a0 => Yk.body k (Yk.w r.1) (Yx.w r.2) a0 (fun z0 => some z0), fun aC aD aI aF aH => Yx.body k (Yk.w r.1) (Yx.w r.2) aC aD aI aF aH (fun z0 z1 z2 z3 z4 => some (z0, z1, z2, z3, z4)))) (Yk.all k)
noncomputable def Yk.t (k : Nat) (a0 : List (List D)) : Option ((List (List C))) := (Yk.all k).1 a0
noncomputable def Yx.t (k : Nat) (aC : Int) (aD : ByteArray) (aI : Int) (aF aH : List (List D)) : Option (Int × ByteArray × Int × (List (List C)) × (List (List C))) := (Yk.all k).2 aC aD aI aF aH
noncomputable def Yk.f {β : Type} (k : Nat) (a0 : List (List D)) (K : (List (List C)) → Option β) : Option β := Yk.w (Yk.t k) a0 K
noncomputable def Yx.f {β : Type} (k : Nat) (aC : Int) (aD : ByteArray) (aI : Int) (aF aH : List (List D)) (K : Int → ByteArray → Int → (List (List C)) → (List (List C)) → Option β) : Option β := Yx.w (Yx.t k) aC aD aI aF aH K
noncomputable def Yk.g {β : Type} (k : Nat) (a0 : List (List D)) (K : (List (List C)) → Option β) : Option β := Yk.body k (Yk.f k) (Yx.f k) a0 K
theorem Yk.t_succ (k : Nat) (a0 : List (List D)) : Yk.t (k + 1) a0 = Yk.g k a0 (fun z0 => some z0) := rfl
noncomputable def Yx.g {β : Type} (k : Nat) (aC : Int) (aD : ByteArray) (aI : Int) (aF aH : List (List D)) (K : Int → ByteArray → Int → (List (List C)) → (List (List C)) → Option β) : Option β := Yx.body k (Yk.f k) (Yx.f k) aC aD aI aF aH K
theorem Yx.t_succ (k : Nat) (aC : Int) (aD : ByteArray) (aI : Int) (aF aH : List (List D)) : Yx.t (k + 1) aC aD aI aF aH = Yx.g k aC aD aI aF aH (fun z0 z1 z2 z3 z4 => some (z0, z1, z2, z3, z4)) := rfl
noncomputable def Yk.e (k : Nat) : Zj := ent [.d .l] [1] [.o] [60] false (Yk.t k)
noncomputable def Yx.e (k : Nat) : Zj := ent [.agg [.n, .s, .n, .l, .l]] [5] [.n, .s, .n, .o, .o] [62] false (Yx.t k)
noncomputable def Yk.p (k : Nat) : Pro := ⟨Try.prog, [(80, Yx.e k)], Zv [(3, kp [0, 3, 4])] false [], k⟩
noncomputable def Yk.d (k : Nat) (a0 : List (List D)) : Ex → St → Option ((List (List C))) := (Yk.p k).fin Try.f99 [.d (.sl a0)] [1] [.o]
noncomputable def Yk.s0 (aA : List (List D)) (v : Int × (List (List C))) : St :=
  match v with
  | (aB, aJ) => ZaA 23 [(0, .d false (.sl aA)), (3, .row 0), (4, .d true (.int .i64 aB))] [.row none true 60 aJ]
noncomputable def Yk.r0 (k : Nat) (a0 aA : List (List D)) (n : Nat) (v : Int × (List (List C))) : Option ((List (List C))) := (Yk.p k).lp (ZI Try.f99) 3 [1, 1, 0, 1, 0] (Yk.d k a0) n (Yk.s0 aA v)
theorem Yk.l0_eq (k : Nat) (a0 aA : List (List D)) : ∀ n v, Yk.r0 k a0 aA n v = ZA (Yk.l0 k (Yk.f k) (Yx.f k) aA (fun z0 => some z0)) n v :=
  Zz (Yk.s0 aA) _ fun L0 v => by obtain ⟨aB, aJ⟩ := v; kernel_rfl
noncomputable def Yx.p (k : Nat) : Pro := ⟨Try.prog, [(87, Ys.e k), (99, Yk.e k)], Zv [] false [], k⟩
theorem Yk.oks (k : Nat) : Zf Try.prog 99 (Yk.e k) ∧ Zf Try.prog 80 (Yx.e k) := by
  induction k with
  | zero => exact ⟨Zba Try.func99 (by kernel_rfl) (fun _ => rfl),
    Zba Try.func80 (by kernel_rfl) (fun _ _ _ _ _ => rfl)⟩
  | succ k ih => exact ⟨Zk (Yk.p k) mix tyok Try.func99 ih.2 (by kernel_rfl) (fun a0 => Eq.trans (b := Yk.m k (Yk.f k) (Yx.f k) a0 (fun z0 => some z0) (fun aA => Yk.r0 k a0 aA k)) (by kernel_rfl) ((congrArg (Yk.m k (Yk.f k) (Yx.f k) a0 (fun z0 => some z0)) (funext fun aA => funext fun v => Yk.l0_eq k a0 aA k v)).trans (Yk.t_succ k a0).symm)),
    Zk (Yx.p k) mix tyok Try.func80 ⟨Ys.ok k, ih.1⟩ (by kernel_rfl) (fun aC aD aI aF aH => by show _ = _; kernel_rfl)⟩
theorem Yx.ok (k : Nat) : Zf Try.prog 80 (Yx.e k) := (Yk.oks k).2
noncomputable def YK.g {β : Type} (k : Nat) (aC aD aI : Int) (aF : ByteArray) (aH : Int) (aU aV : List (List D)) (K : Int → Int → Int → ByteArray → Int → (List (List C)) → (List (List C)) → Option β) : Option β :=
  Yx.f k aI aF aH aU aV (fun y44 y45 y46 y47 y48 => K aC aD y44 y45 y46 y47 y48)
noncomputable def YK.t (k : Nat) (aC aD aI : Int) (aF : ByteArray) (aH : Int) (aU aV : List (List D)) : Option (Int × Int × Int × ByteArray × Int × (List (List C)) × (List (List C))) := YK.g k aC aD aI aF aH aU aV (fun z0 z1 z2 z3 z4 z5 z6 => some (z0, z1, z2, z3, z4, z5, z6))
noncomputable def YK.f {β : Type} (k : Nat) (aC aD aI : Int) (aF : ByteArray) (aH : Int) (aU aV : List (List D)) (K : Int → Int → Int → ByteArray → Int → (List (List C)) → (List (List C)) → Option β) : Option β := match YK.t k aC aD aI aF aH aU aV with | some (z0, z1, z2, z3, z4, z5, z6) => K z0 z1 z2 z3 z4 z5 z6 | none => none
noncomputable def YK.e (k : Nat) : Zj := ent [.agg [.n, .n, .n, .s, .n, .l, .l]] [7] [.n, .n, .n, .s, .n, .o, .o] [64] false (YK.t k)
noncomputable def YK.p (k : Nat) : Pro := ⟨Try.prog, [(80, Yx.e k)], Zv [] false [], k⟩
theorem YK.ok (k : Nat) : Zf Try.prog 58 (YK.e k) := Zk (YK.p k) mix tyok Try.func58 (Yx.ok k) (by kernel_rfl) (fun aC aD aI aF aH aU aV => by show _ = _; kernel_rfl)
noncomputable def Yw.l0 {β : Type} (k : Nat) (aA : List (List D)) (K : (List (List C)) → Option β) (L0 : (Int × (List (List C))) → Option β) (v : Int × (List (List C))) : Option β :=
  match v with
  | (aB, aJ) => bif (decide ((aB : Int) < (aA.length : Int))) then (atR aA aB [.n, .n, .n, .s, .n, .l, .l] fun x59 x62 x65 x68 x71 x74 x77 => (YK.f k x59 x62 x65 x68 x71 x74 x77 (fun y78 y79 y80 y81 y82 y83 y84 => Zd ((0 : Int) ≤ aB ∧ aB < (aJ.length : Int)) (Zd (Int.toNat aB < aJ.length) (L0 (IntKind.wrap .i64 (aB + 1), aJ.modify (Int.toNat aB) fun c => Zs c 0 [.d (.int .i64 y78), .d (.int .i64 y79), .d (.int .i64 y80), .d (.str y81), .d (.int .i64 y82), .own y83, .own y84])))))) else (K aJ)
noncomputable def Yw.m {β : Type} (k : Nat) (a0 : List (List D)) (K : (List (List C)) → Option β) (F : ((List (List D)) → (Int × (List (List C))) → Option β)) : Option β :=
  Zd ((0 : Int) ≤ (a0.length : Int) ∧ (a0.length : Int) ≤ (Z8 : Int) ∧ (a0.length : Int) ≤ (a0.length : Int) ∧ (a0.length : Int) ≤ (a0.length : Int)) (F a0 (0, List.replicate (Int.toNat (a0.length : Int)) ([.d (.int .i64 0), .d (.int .i64 0), .d (.int .i64 0), .d (.str (⟨#[]⟩ : ByteArray)), .d (.int .i64 0), .own ([] : List (List C)), .own ([] : List (List C))] : List C)))
noncomputable def Yw.g {β : Type} (k : Nat) (a0 : List (List D)) (K : (List (List C)) → Option β) : Option β := Yw.m k a0 K (fun aA => ZA (Yw.l0 k aA K) k)
noncomputable def Yw.t (k : Nat) (a0 : List (List D)) : Option ((List (List C))) := Yw.g k a0 (fun z0 => some z0)
noncomputable def Yw.f {β : Type} (k : Nat) (a0 : List (List D)) (K : (List (List C)) → Option β) : Option β := bd1 (Yw.t k a0) K
noncomputable def Yw.e (k : Nat) : Zj := ent [.d .l] [1] [.o] [29] false (Yw.t k)
noncomputable def Yw.p (k : Nat) : Pro := ⟨Try.prog, [(58, YK.e k)], Zv [(3, kp [0, 3, 4])] false [], k⟩
noncomputable def Yw.d (k : Nat) (a0 : List (List D)) : Ex → St → Option ((List (List C))) := (Yw.p k).fin Try.f28 [.d (.sl a0)] [1] [.o]
noncomputable def Yw.s0 (aA : List (List D)) (v : Int × (List (List C))) : St :=
  match v with
  | (aB, aJ) => ZaA 23 [(0, .d false (.sl aA)), (3, .row 0), (4, .d true (.int .i64 aB))] [.row none true 29 aJ]
noncomputable def Yw.r0 (k : Nat) (a0 aA : List (List D)) (n : Nat) (v : Int × (List (List C))) : Option ((List (List C))) := (Yw.p k).lp (ZI Try.f28) 3 [1, 1, 0, 1, 0] (Yw.d k a0) n (Yw.s0 aA v)
theorem Yw.l0_eq (k : Nat) (a0 aA : List (List D)) : ∀ n v, Yw.r0 k a0 aA n v = ZA (Yw.l0 k aA (fun z0 => some z0)) n v :=
  Zz (Yw.s0 aA) _ fun L0 v => by obtain ⟨aB, aJ⟩ := v; kernel_rfl
theorem Yw.ok (k : Nat) : Zf Try.prog 28 (Yw.e k) := Zk (Yw.p k) mix tyok Try.func28 (YK.ok k) (by kernel_rfl) (fun a0 => Eq.trans (b := Yw.m k a0 (fun z0 => some z0) (fun aA => Yw.r0 k a0 aA k)) (by kernel_rfl) (congrArg (Yw.m k a0 (fun z0 => some z0)) (funext fun aA => funext fun v => Yw.l0_eq k a0 aA k v) :))
noncomputable def YV.g {β : Type} (k : Nat) (aC aD : Int) (K : Int → Int → Option β) : Option β :=
  K aC aD
noncomputable def YV.t (k : Nat) (aC aD : Int) : Option (Int × Int) := YV.g k aC aD (fun z0 z1 => some (z0, z1))
noncomputable def YV.f {β : Type} (k : Nat) (aC aD : Int) (K : Int → Int → Option β) : Option β := bd2 (YV.t k aC aD) K
noncomputable def YV.e (k : Nat) : Zj := ent [.agg [.n, .n]] [2] [.n, .n] [66] false (YV.t k)
noncomputable def YV.p (k : Nat) : Pro := ⟨Try.prog, [], Zv [] false [], k⟩
theorem YV.ok (k : Nat) : Zf Try.prog 59 (YV.e k) := Zk (YV.p k) mix tyok Try.func59 trivial (by kernel_rfl) (fun aC aD => by show _ = _; kernel_rfl)
noncomputable def YD.l0 {β : Type} (k : Nat) (aA : List (List D)) (K : (List (List C)) → Option β) (L0 : (Int × (List (List C))) → Option β) (v : Int × (List (List C))) : Option β :=
  match v with
  | (aB, aJ) => bif (decide ((aB : Int) < (aA.length : Int))) then (atR aA aB [.n, .n] fun x13 x16 => (YV.f k x13 x16 (fun y17 y18 => Zd ((0 : Int) ≤ aB ∧ aB < (aJ.length : Int)) (Zd (Int.toNat aB < aJ.length) (L0 (IntKind.wrap .i64 (aB + 1), aJ.modify (Int.toNat aB) fun c => Zs c 0 [.d (.int .i64 y17), .d (.int .i64 y18)])))))) else (K aJ)
noncomputable def YD.m {β : Type} (k : Nat) (a0 : List (List D)) (K : (List (List C)) → Option β) (F : ((List (List D)) → (Int × (List (List C))) → Option β)) : Option β :=
  Zd ((0 : Int) ≤ (a0.length : Int) ∧ (a0.length : Int) ≤ (Z8 : Int) ∧ (a0.length : Int) ≤ (a0.length : Int) ∧ (a0.length : Int) ≤ (a0.length : Int)) (F a0 (0, List.replicate (Int.toNat (a0.length : Int)) ([.d (.int .i64 0), .d (.int .i64 0)] : List C)))
noncomputable def YD.g {β : Type} (k : Nat) (a0 : List (List D)) (K : (List (List C)) → Option β) : Option β :=
  Zd ((0 : Int) ≤ (a0.length : Int) ∧ (a0.length : Int) ≤ (Z8 : Int) ∧ (a0.length : Int) ≤ (a0.length : Int) ∧ (a0.length : Int) ≤ (a0.length : Int)) (ZA (YD.l0 k a0 K) k (0, List.replicate (Int.toNat (a0.length : Int)) ([.d (.int .i64 0), .d (.int .i64 0)] : List C)))
noncomputable def YD.t (k : Nat) (a0 : List (List D)) : Option ((List (List C))) := YD.g k a0 (fun z0 => some z0)
noncomputable def YD.f {β : Type} (k : Nat) (a0 : List (List D)) (K : (List (List C)) → Option β) : Option β := bd1 (YD.t k a0) K
noncomputable def YD.e (k : Nat) : Zj := ent [.d .l] [1] [.o] [27] false (YD.t k)
noncomputable def YD.p (k : Nat) : Pro := ⟨Try.prog, [(59, YV.e k)], Zv [(3, kp [0, 3, 4])] false [], k⟩
noncomputable def YD.d (k : Nat) (a0 : List (List D)) : Ex → St → Option ((List (List C))) := (YD.p k).fin Try.f29 [.d (.sl a0)] [1] [.o]
noncomputable def YD.s0 (aA : List (List D)) (v : Int × (List (List C))) : St :=
  match v with
  | (aB, aJ) => ZaA 23 [(0, .d false (.sl aA)), (3, .row 0), (4, .d true (.int .i64 aB))] [.row none true 27 aJ]
noncomputable def YD.r0 (k : Nat) (a0 aA : List (List D)) (n : Nat) (v : Int × (List (List C))) : Option ((List (List C))) := (YD.p k).lp (ZI Try.f29) 3 [1, 1, 0, 1, 0] (YD.d k a0) n (YD.s0 aA v)
theorem YD.l0_eq (k : Nat) (a0 aA : List (List D)) : ∀ n v, YD.r0 k a0 aA n v = ZA (YD.l0 k aA (fun z0 => some z0)) n v :=
  Zz (YD.s0 aA) _ fun L0 v => by obtain ⟨aB, aJ⟩ := v; kernel_rfl
theorem YD.ok (k : Nat) : Zf Try.prog 29 (YD.e k) := Zk (YD.p k) mix tyok Try.func29 (YV.ok k) (by kernel_rfl) (fun a0 => Eq.trans (b := YD.m k a0 (fun z0 => some z0) (fun aA => YD.r0 k a0 aA k)) (by kernel_rfl) (congrArg (YD.m k a0 (fun z0 => some z0)) (funext fun aA => funext fun v => YD.l0_eq k a0 aA k v) :))
noncomputable def YI.g {β : Type} (k : Nat) (aC : ByteArray) (aD aI : Int) (aF aH : List (List D)) (K : ByteArray → Int → Int → (List (List C)) → (List (List C)) → Option β) : Option β :=
  Yw.f k aF (fun y85 => YD.f k aH (fun y86 => K aC aD aI y85 y86))
noncomputable def YI.t (k : Nat) (aC : ByteArray) (aD aI : Int) (aF aH : List (List D)) : Option (ByteArray × Int × Int × (List (List C)) × (List (List C))) := YI.g k aC aD aI aF aH (fun z0 z1 z2 z3 z4 => some (z0, z1, z2, z3, z4))
noncomputable def YI.f {β : Type} (k : Nat) (aC : ByteArray) (aD aI : Int) (aF aH : List (List D)) (K : ByteArray → Int → Int → (List (List C)) → (List (List C)) → Option β) : Option β := bd5 (YI.t k aC aD aI aF aH) K
noncomputable def YI.e (k : Nat) : Zj := ent [.agg [.s, .n, .n, .l, .l]] [5] [.s, .n, .n, .o, .o] [31] false (YI.t k)
noncomputable def YI.p (k : Nat) : Pro := ⟨Try.prog, [(28, Yw.e k), (29, YD.e k)], Zv [] false [], k⟩
theorem YI.ok (k : Nat) : Zf Try.prog 7 (YI.e k) := Zk (YI.p k) mix tyok Try.func7 ⟨Yw.ok k, YD.ok k⟩ (by kernel_rfl) (fun aC aD aI aF aH => by show _ = _; kernel_rfl)
noncomputable def YE.l0 {β : Type} (k : Nat) (aA : List (List D)) (aB : Int) (K : Int → Bool → Option β) (L0 : Int → Option β) (v : Int) : Option β :=
  match v with
  | aJ => bif (decide ((aJ : Int) < (aA.length : Int))) then (atR aA aJ [.n, .n] fun x18 x21 => (bif ((x18 : Int) == aB) then (atR aA aJ [.n, .n] fun x25 x28 => (K x28 true)) else (L0 (IntKind.wrap .i64 (aJ + 1))))) else (K 0 false)
noncomputable def YE.m {β : Type} (k : Nat) (a0 : List (List D)) (a1 : Int) (K : Int → Bool → Option β) (F : ((List (List D)) → Int → Int → Option β)) : Option β :=
  F a0 a1 (0)
noncomputable def YE.g {β : Type} (k : Nat) (a0 : List (List D)) (a1 : Int) (K : Int → Bool → Option β) : Option β :=
  ZA (YE.l0 k a0 a1 K) k (0)
noncomputable def YE.t (k : Nat) (a0 : List (List D)) (a1 : Int) : Option (Int × Bool) := YE.g k a0 a1 (fun z0 z1 => some (z0, z1))
noncomputable def YE.f {β : Type} (k : Nat) (a0 : List (List D)) (a1 : Int) (K : Int → Bool → Option β) : Option β := bd2 (YE.t k a0 a1) K
noncomputable def YE.e (k : Nat) : Zj := ent [.d .l, .d .n] [1, 1] [.n, .b] [3, 4] false (YE.t k)
noncomputable def YE.p (k : Nat) : Pro := ⟨Try.prog, [], Zv [(2, kp [0, 1, 6])] false [], k⟩
noncomputable def YE.d (k : Nat) (a0 : List (List D)) (a1 : Int) : Ex → St → Option (Int × Bool) := (YE.p k).fin Try.f27 [.d (.sl a0), .d (.int .i64 a1)] [1, 1] [.n, .b]
noncomputable def YE.s0 (aA : List (List D)) (aB v : Int) : St :=
  match v with
  | aJ => ZaA 25 [(0, .d false (.sl aA)), (1, .d false (.int .i64 aB)), (6, .d true (.int .i64 aJ))] []
noncomputable def YE.r0 (k : Nat) (a0 : List (List D)) (a1 : Int) (aA : List (List D)) (aB : Int) (n : Nat) (v : Int) : Option (Int × Bool) := (YE.p k).lp (ZI Try.f27) 2 [1, 0, 1, 0] (YE.d k a0 a1) n (YE.s0 aA aB v)
theorem YE.l0_eq (k : Nat) (a0 : List (List D)) (a1 : Int) (aA : List (List D)) (aB : Int) : ∀ n v, YE.r0 k a0 a1 aA aB n v = ZA (YE.l0 k aA aB (fun z0 z1 => some (z0, z1))) n v :=
  Zz (YE.s0 aA aB) _ fun L0 v => by kernel_rfl
theorem YE.ok (k : Nat) : Zf Try.prog 27 (YE.e k) := Zk (YE.p k) mix tyok Try.func27 trivial (by kernel_rfl) (fun a0 a1 => Eq.trans (b := YE.m k a0 a1 (fun z0 z1 => some (z0, z1)) (fun aA aB => YE.r0 k a0 a1 aA aB k)) (by kernel_rfl) (congrArg (YE.m k a0 a1 (fun z0 z1 => some (z0, z1))) (funext fun aA => funext fun aB => funext fun v => YE.l0_eq k a0 a1 aA aB k v) :))
noncomputable def Yo.l2 {β : Type} (k : Nat) (aN : Int) (aQ : List (List C)) (v2_4 v2_5 : Int) (L1 : (Int × (List (List C)) × (List (List C))) → Option β) (K : (List (List C)) → Option β) (L2 : (Int × (List (List C))) → Option β) (v : Int × (List (List C))) : Option β :=
  match v with
  | (aT, bK) => let J0 := (Zd ((0 : Int) ≤ aT ∧ aT < (bK.length : Int)) (Zd (Int.toNat aT < bK.length) (L1 (IntKind.wrap .i64 (aN + 1), bK.modify (Int.toNat aT) fun c => Zs c 0 [.d (.int .i64 v2_4), .d (.int .i64 v2_5)], aQ)))); bif (decide ((aT : Int) > 0)) then (let J1 := ((0 : Int) ≤ (IntKind.wrap .i64 (aT - 1)) ∧ (IntKind.wrap .i64 (aT - 1)) < (bK.length : Int)); Zd J1 (ZaR bK (Int.toNat (IntKind.wrap .i64 (aT - 1))) fun c208 => ZaJ (c208.drop 0) fun c209 r210 => cD c209 fun d211 => dInt .i64 d211 fun x212 => bif (decide ((x212 : Int) > v2_4)) then (Zd J1 (ZaR bK (Int.toNat (IntKind.wrap .i64 (aT - 1))) fun c213 => ZaJ (c213.drop 0) fun c214 r215 => cD c214 fun d216 => dInt .i64 d216 fun x217 => ZaJ r215 fun c218 r219 => cD c218 fun d220 => dInt .i64 d220 fun x221 => Zd ((0 : Int) ≤ aT ∧ aT < (bK.length : Int)) (Zd (Int.toNat aT < bK.length) (L2 (IntKind.wrap .i64 (aT - 1), bK.modify (Int.toNat aT) fun c => Zs c 0 [.d (.int .i64 x217), .d (.int .i64 x221)]))))) else J0)) else J0
noncomputable def Yo.m1 {β : Type} (k : Nat) (K : (List (List C)) → Option β) (L1 : (Int × (List (List C)) × (List (List C))) → Option β) (v : Int × (List (List C)) × (List (List C))) (F : (Int → (List (List C)) → Int → Int → (Int × (List (List C))) → Option β)) : Option β :=
  match v with
  | (aP, aO, aR) => bif (decide ((aP : Int) < (aR.length : Int))) then (Zd ((0 : Int) ≤ aP ∧ aP < (aR.length : Int)) (ZaR aR (Int.toNat aP) fun c178 => ZaJ (c178.drop 0) fun c179 r180 => cD c179 fun d181 => dInt .i64 d181 fun x182 => YE.f k (C.immRows aO) x182 (fun y183 y184 => bif y184 then (L1 (IntKind.wrap .i64 (aP + 1), aO, aR)) else (Zd ((0 : Int) ≤ aP ∧ aP < (aR.length : Int)) (ZaR aR (Int.toNat aP) fun c185 => ZaJ (c185.drop 0) fun c186 r187 => cD c186 fun d188 => dInt .i64 d188 fun x189 => ZaJ r187 fun c190 r191 => cD c190 fun d192 => dInt .i64 d192 fun x193 => Zd (aO.length + ([[.d (.int .i64 x189), .d (.int .i64 x193)]] : List (List C)).length ≤ Z8) (F aP aR x189 x193 ((aO.length : Int), aO ++ ([[.d (.int .i64 x189), .d (.int .i64 x193)]] : List (List C))))))))) else (K aO)
noncomputable def Yo.l1 {β : Type} (k : Nat) (K : (List (List C)) → Option β) (L1 : (Int × (List (List C)) × (List (List C))) → Option β) (v : Int × (List (List C)) × (List (List C))) : Option β := Yo.m1 k K L1 v (fun aN aQ v2_4 v2_5 => ZA (Yo.l2 k aN aQ v2_4 v2_5 L1 K) k)
noncomputable def Yo.m0 {β : Type} (k : Nat) (aB : ByteArray) (aJ aK : Int) (bA v0_5 : List (List D)) (v0_6 : List (List C)) (K : (List (List C)) → Option β) (L0 : (Int × (List (List C))) → Option β) (v : Int × (List (List C))) (F : ((Int × (List (List C)) × (List (List C))) → Option β)) : Option β :=
  match v with
  | (aA, v0_7) => bif (decide ((aA : Int) < (bA.length : Int))) then (atR bA aA [.n, .n, .n, .s, .n, .l, .l] fun x115 x118 x121 x124 x127 x130 x133 => (Zd (v0_7.length + ([[.d (.int .i64 x115), .d (.int .i64 0)]] : List (List C)).length ≤ Z8) (L0 (IntKind.wrap .i64 (aA + 1), v0_7 ++ ([[.d (.int .i64 x115), .d (.int .i64 0)]] : List (List C)))))) else (F (0, v0_6, v0_7))
noncomputable def Yo.l0 {β : Type} (k : Nat) (aB : ByteArray) (aJ aK : Int) (bA v0_5 : List (List D)) (v0_6 : List (List C)) (K : (List (List C)) → Option β) (L0 : (Int × (List (List C))) → Option β) (v : Int × (List (List C))) : Option β := Yo.m0 k aB aJ aK bA v0_5 v0_6 K L0 v (ZA (Yo.l1 k K) k)
noncomputable def Yo.m {β : Type} (k : Nat) (aC : ByteArray) (aD aI : Int) (aF aH : List (List D)) (K : (List (List C)) → Option β) (F : (ByteArray → Int → Int → (List (List D)) → (List (List D)) → (List (List C)) → (Int × (List (List C))) → Option β)) : Option β :=
  Zd (Zcg 2 aH) (Zd (([] : List (List C)).length + (aH.map (·.map C.d)).length ≤ Z8) (F aC aD aI aF aH ([] : List (List C)) (0, ([] : List (List C)) ++ (aH.map (·.map C.d)))))
noncomputable def Yo.g {β : Type} (k : Nat) (aC : ByteArray) (aD aI : Int) (aF aH : List (List D)) (K : (List (List C)) → Option β) : Option β :=
  Zd (Zcg 2 aH) (Zd (([] : List (List C)).length + (aH.map (·.map C.d)).length ≤ Z8) (ZA (Yo.l0 k aC aD aI aF aH ([] : List (List C)) K) k (0, ([] : List (List C)) ++ (aH.map (·.map C.d)))))
noncomputable def Yo.t (k : Nat) (aC : ByteArray) (aD aI : Int) (aF aH : List (List D)) : Option ((List (List C))) := Yo.g k aC aD aI aF aH (fun z0 => some z0)
noncomputable def Yo.f {β : Type} (k : Nat) (aC : ByteArray) (aD aI : Int) (aF aH : List (List D)) (K : (List (List C)) → Option β) : Option β := bd1 (Yo.t k aC aD aI aF aH) K
noncomputable def Yo.e (k : Nat) : Zj := ent [.agg [.s, .n, .n, .l, .l]] [1] [.o] [27] false (Yo.t k)
noncomputable def Yo.p (k : Nat) : Pro := ⟨Try.prog, [(27, YE.e k)], Zv [(4, kp [1, 3, 4, 5]), (8, kp [3, 4, 6]), (15, kp [3, 4, 6, 9, 10])] false [], k⟩
noncomputable def Yo.d (k : Nat) (aC : ByteArray) (aD aI : Int) (aF aH : List (List D)) : Ex → St → Option ((List (List C))) := (Yo.p k).fin Try.f6 [.agg [.str aC, .int .i64 aD, .int .i64 aI, .sl aF, .sl aH]] [1] [.o]
noncomputable def Yo.s0 (aB : ByteArray) (aJ aK : Int) (bA v0_5 : List (List D)) (v0_6 : List (List C)) (v : Int × (List (List C))) : St :=
  match v with
  | (aA, v0_7) => ZaA 88 [(1, .bp 0 0), (3, .row 1), (4, .row 2), (5, .d true (.int .i64 aA))] [.box none 31 [.d false (.str aB), .d false (.int .i64 aJ), .d false (.int .i64 aK), .d false (.sl bA), .d false (.sl v0_5)], .row none true 27 v0_6, .row none true 27 v0_7]
noncomputable def Yo.r0 (k : Nat) (aC : ByteArray) (aD aI : Int) (aF aH : List (List D)) (aB : ByteArray) (aJ aK : Int) (bA v0_5 : List (List D)) (v0_6 : List (List C)) (n : Nat) (v : Int × (List (List C))) : Option ((List (List C))) := (Yo.p k).lp (ZI Try.f6) 4 [1, 1, 1, 0, 1, 0] (Yo.d k aC aD aI aF aH) n (Yo.s0 aB aJ aK bA v0_5 v0_6 v)
noncomputable def Yo.s1 (v : Int × (List (List C)) × (List (List C))) : St :=
  match v with
  | (aP, aO, aR) => ZaA 88 [(3, .row 0), (4, .row 1), (6, .d true (.int .i64 aP))] [.row none true 27 aO, .row none true 27 aR]
noncomputable def Yo.c1 (k : Nat) (aC : ByteArray) (aD aI : Int) (aF aH : List (List D)) : Ex → St → Option ((List (List C))) := (Yo.p k).ct (ZI Try.f6) [1, 1, 1, 1, 0, 1, 0] (Yo.d k aC aD aI aF aH)
noncomputable def Yo.r1 (k : Nat) (aC : ByteArray) (aD aI : Int) (aF aH : List (List D)) (n : Nat) (v : Int × (List (List C)) × (List (List C))) : Option ((List (List C))) := (Yo.p k).lp (ZI Try.f6) 8 [1, 1, 1, 1, 0, 1, 0] (Yo.d k aC aD aI aF aH) n (Yo.s1 v)
noncomputable def Yo.s2 (aN : Int) (aQ : List (List C)) (v2_4 v2_5 : Int) (v : Int × (List (List C))) : St :=
  match v with
  | (aT, bK) => ZaA 88 [(3, .row 0), (4, .row 1), (6, .d true (.int .i64 aN)), (9, .d true (.int .i64 aT)), (10, .bp 2 0)] [.row none true 27 bK, .row none true 27 aQ, .box none 66 [.d true (.int .i64 v2_4), .d true (.int .i64 v2_5)]]
noncomputable def Yo.r2 (k : Nat) (aC : ByteArray) (aD aI : Int) (aF aH : List (List D)) (aN : Int) (aQ : List (List C)) (v2_4 v2_5 : Int) (L1 : St → Option ((List (List C)))) (n : Nat) (v : Int × (List (List C))) : Option ((List (List C))) := (Yo.p k).lp (codeAt [1, 1, 1, 1, 0, 1, 0, 0] (ZI Try.f6)) 15 [1, 0, 0, 1, 1, 1, 1, 1, 0, 0] (backK ((Yo.p k).h.H 8) L1 (Yo.c1 k aC aD aI aF aH)) n (Yo.s2 aN aQ v2_4 v2_5 v)
theorem Yo.l2_eq (k : Nat) (aC : ByteArray) (aD aI : Int) (aF aH : List (List D)) (aN : Int) (aQ : List (List C)) (v2_4 v2_5 : Int) (L1 : St → Option ((List (List C)))) : ∀ n v, Yo.r2 k aC aD aI aF aH aN aQ v2_4 v2_5 L1 n v = ZA (Yo.l2 k aN aQ v2_4 v2_5 (fun v => L1 (Yo.s1 v)) (fun z0 => some z0)) n v :=
  Zz (Yo.s2 aN aQ v2_4 v2_5) _ fun L2 v => by obtain ⟨aT, bK⟩ := v; kernel_rfl
theorem Yo.l1_eq (k : Nat) (aC : ByteArray) (aD aI : Int) (aF aH : List (List D)) : ∀ n v, Yo.r1 k aC aD aI aF aH n v = ZA (Yo.l1 k (fun z0 => some z0)) n v :=
  Zz (Yo.s1) _ fun L1 v => by obtain ⟨aP, aO, aR⟩ := v; exact Eq.trans (b := Yo.m1 k (fun z0 => some z0) (fun v => L1 (Yo.s1 v)) (aP, aO, aR) (fun aN aQ v2_4 v2_5 => Yo.r2 k aC aD aI aF aH aN aQ v2_4 v2_5 L1 k)) (by kernel_rfl) (congrArg (Yo.m1 k (fun z0 => some z0) (fun v => L1 (Yo.s1 v)) (aP, aO, aR)) (funext fun aN => funext fun aQ => funext fun v2_4 => funext fun v2_5 => funext fun v => Yo.l2_eq k aC aD aI aF aH aN aQ v2_4 v2_5 L1 k v))
theorem Yo.l0_eq (k : Nat) (aC : ByteArray) (aD aI : Int) (aF aH : List (List D)) (aB : ByteArray) (aJ aK : Int) (bA v0_5 : List (List D)) (v0_6 : List (List C)) : ∀ n v, Yo.r0 k aC aD aI aF aH aB aJ aK bA v0_5 v0_6 n v = ZA (Yo.l0 k aB aJ aK bA v0_5 v0_6 (fun z0 => some z0)) n v :=
  Zz (Yo.s0 aB aJ aK bA v0_5 v0_6) _ fun L0 v => by obtain ⟨aA, v0_7⟩ := v; exact Eq.trans (b := Yo.m0 k aB aJ aK bA v0_5 v0_6 (fun z0 => some z0) (fun v => L0 (Yo.s0 aB aJ aK bA v0_5 v0_6 v)) (aA, v0_7) (Yo.r1 k aC aD aI aF aH k)) (by kernel_rfl) (congrArg (Yo.m0 k aB aJ aK bA v0_5 v0_6 (fun z0 => some z0) (fun v => L0 (Yo.s0 aB aJ aK bA v0_5 v0_6 v)) (aA, v0_7)) (funext fun v => Yo.l1_eq k aC aD aI aF aH k v))
theorem Yo.ok (k : Nat) : Zf Try.prog 6 (Yo.e k) := Zk (Yo.p k) mix tyok Try.func6 (YE.ok k) (by kernel_rfl) (fun aC aD aI aF aH => Eq.trans (b := Yo.m k aC aD aI aF aH (fun z0 => some z0) (fun aB aJ aK bA v0_5 v0_6 => Yo.r0 k aC aD aI aF aH aB aJ aK bA v0_5 v0_6 k)) (by kernel_rfl) (congrArg (Yo.m k aC aD aI aF aH (fun z0 => some z0)) (funext fun aB => funext fun aJ => funext fun aK => funext fun bA => funext fun v0_5 => funext fun v0_6 => funext fun v => Yo.l0_eq k aC aD aI aF aH aB aJ aK bA v0_5 v0_6 k v) :))
noncomputable def YC.g {β : Type} (k : Nat) (a0 : List (List D)) (K : (List (List C)) → Option β) : Option β :=
  let J0 := (Zd (Zcg 2 a0) (Zd (([] : List (List C)).length + (a0.map (·.map C.d)).length ≤ Z8) (K (([] : List (List C)) ++ (a0.map (·.map C.d)))))); nilSl a0 (both (K ([] : List (List C))) J0) J0
noncomputable def YC.t (k : Nat) (a0 : List (List D)) : Option ((List (List C))) := YC.g k a0 (fun z0 => some z0)
noncomputable def YC.f {β : Type} (k : Nat) (a0 : List (List D)) (K : (List (List C)) → Option β) : Option β := bd1 (YC.t k a0) K
noncomputable def YC.e (k : Nat) : Zj := ent [.d .l] [1] [.o] [27] false (YC.t k)
noncomputable def YC.p (k : Nat) : Pro := ⟨Try.prog, [], Zv [] false [], k⟩
theorem YC.ok (k : Nat) : Zf Try.prog 30 (YC.e k) := Zk (YC.p k) mix tyok Try.func30 trivial (by kernel_rfl) (fun a0 => by show _ = _; kernel_rfl)
noncomputable def YT.g {β : Type} (k : Nat) (a0 : Int) (K : Bool → Option β) : Option β :=
  K ((a0 : Int) != a0)
noncomputable def YT.t (k : Nat) (a0 : Int) : Option (Bool) := YT.g k a0 (fun z0 => some z0)
noncomputable def YT.f {β : Type} (k : Nat) (a0 : Int) (K : Bool → Option β) : Option β := bd1 (YT.t k a0) K
noncomputable def YT.e (k : Nat) : Zj := ent [.d .n] [1] [.b] [4] false (YT.t k)
noncomputable def YT.p (k : Nat) : Pro := ⟨Try.prog, [], Zv [] false [], k⟩
theorem YT.ok (k : Nat) : Zf Try.prog 61 (YT.e k) := Zk (YT.p k) mix tyok Try.func61 trivial (by kernel_rfl) (fun a0 => by show _ = _; kernel_rfl)
noncomputable def YN.g {β : Type} (k : Nat) (a0 a1 : Int) (K : Int → Option β) : Option β :=
  YT.f k a0 (fun y1 => YT.f k a1 (fun y2 => bif y1 then (bif y2 then (K 0) else (K (-1))) else (bif y2 then (K 1) else (bif (decide ((a0 : Int) < a1)) then (K (-1)) else (bif (decide ((a0 : Int) > a1)) then (K 1) else (K 0))))))
noncomputable def YN.t (k : Nat) (a0 a1 : Int) : Option (Int) := YN.g k a0 a1 (fun z0 => some z0)
noncomputable def YN.f {β : Type} (k : Nat) (a0 a1 : Int) (K : Int → Option β) : Option β := bd1 (YN.t k a0 a1) K
noncomputable def YN.e (k : Nat) : Zj := ent [.d .n, .d .n] [1] [.n] [3] false (YN.t k)
noncomputable def YN.p (k : Nat) : Pro := ⟨Try.prog, [(61, YT.e k)], Zv [] false [], k⟩
theorem YN.ok (k : Nat) : Zf Try.prog 33 (YN.e k) := Zk (YN.p k) mix tyok Try.func33 (YT.ok k) (by kernel_rfl) (fun a0 a1 => by show _ = _; kernel_rfl)
noncomputable def YL.g {β : Type} (k : Nat) (aC aD aL aM : Int) (K : Int → Option β) : Option β :=
  YN.f k aC aL (fun y3 => K y3)
noncomputable def YL.t (k : Nat) (aC aD aL aM : Int) : Option (Int) := YL.g k aC aD aL aM (fun z0 => some z0)
noncomputable def YL.f {β : Type} (k : Nat) (aC aD aL aM : Int) (K : Int → Option β) : Option β := bd1 (YL.t k aC aD aL aM) K
noncomputable def YL.e (k : Nat) : Zj := ent [.agg [.n, .n], .agg [.n, .n]] [1] [.n] [3] false (YL.t k)
noncomputable def YL.p (k : Nat) : Pro := ⟨Try.prog, [(33, YN.e k)], Zv [] false [], k⟩
theorem YL.ok (k : Nat) : Zf Try.prog 32 (YL.e k) := Zk (YL.p k) mix tyok Try.func32 (YN.ok k) (by kernel_rfl) (fun aC aD aL aM => by show _ = _; kernel_rfl)
noncomputable def Yc.l1 {β : Type} (k : Nat) (aP aO aR : Int) (L0 : (Int × Int × Int × (List (List C))) → Option β) (K : (List (List C)) → Option β) (L1 : (Int × (List (List C))) → Option β) (v : Int × (List (List C))) : Option β :=
  match v with
  | (v1_3, v1_4) => bif (decide ((v1_3 : Int) > aP)) then (Zd ((0 : Int) ≤ v1_3 ∧ v1_3 < (v1_4.length : Int)) (ZaR v1_4 (Int.toNat v1_3) fun c112 => ZaJ (c112.drop 0) fun c113 r114 => cD c113 fun d115 => dInt .i64 d115 fun x116 => ZaJ r114 fun c117 r118 => cD c117 fun d119 => dInt .i64 d119 fun x120 => let J0 := ((0 : Int) ≤ (IntKind.wrap .i64 (v1_3 - 1)) ∧ (IntKind.wrap .i64 (v1_3 - 1)) < (v1_4.length : Int)); Zd J0 (ZaR v1_4 (Int.toNat (IntKind.wrap .i64 (v1_3 - 1))) fun c121 => ZaJ (c121.drop 0) fun c122 r123 => cD c122 fun d124 => dInt .i64 d124 fun x125 => ZaJ r123 fun c126 r127 => cD c126 fun d128 => dInt .i64 d128 fun x129 => YL.f k x116 x120 x125 x129 (fun y130 => bif (decide ((y130 : Int) < 0)) then (Zd J0 (ZaR v1_4 (Int.toNat (IntKind.wrap .i64 (v1_3 - 1))) fun c131 => ZaJ (c131.drop 0) fun c132 r133 => cD c132 fun d134 => dInt .i64 d134 fun x135 => ZaJ r133 fun c136 r137 => cD c136 fun d138 => dInt .i64 d138 fun x139 => Zd ((0 : Int) ≤ v1_3 ∧ v1_3 < (v1_4.length : Int)) (ZaR v1_4 (Int.toNat v1_3) fun c140 => ZaJ (c140.drop 0) fun c141 r142 => cD c141 fun d143 => dInt .i64 d143 fun x144 => ZaJ r142 fun c145 r146 => cD c145 fun d147 => dInt .i64 d147 fun x148 => let J1 := (v1_4.modify (Int.toNat v1_3) fun c => Zs c 0 [.d (.int .i64 x135), .d (.int .i64 x139)]); Zd ((0 : Int) ≤ v1_3 ∧ v1_3 < (v1_4.length : Int)) (Zd (Int.toNat v1_3 < v1_4.length) (Zd ((0 : Int) ≤ (IntKind.wrap .i64 (v1_3 - 1)) ∧ (IntKind.wrap .i64 (v1_3 - 1)) < (J1.length : Int)) (Zd (Int.toNat (IntKind.wrap .i64 (v1_3 - 1)) < J1.length) (L1 (IntKind.wrap .i64 (v1_3 - 1), J1.modify (Int.toNat (IntKind.wrap .i64 (v1_3 - 1))) fun c => Zs c 0 [.d (.int .i64 x144), .d (.int .i64 x148)])))))))) else (L0 (aP, aO, IntKind.wrap .i64 (aR + 1), v1_4)))))) else (L0 (aP, aO, IntKind.wrap .i64 (aR + 1), v1_4))
noncomputable def Yc.m0 {β : Type} (k : Nat) (K : (List (List C)) → Option β) (L0 : (Int × Int × Int × (List (List C))) → Option β) (v : Int × Int × Int × (List (List C))) (F : (Int → Int → Int → (Int × (List (List C))) → Option β)) : Option β :=
  match v with
  | (aA, aB, aJ, aK) => bif (decide ((aJ : Int) < aB)) then (F aA aB aJ (aJ, aK)) else (K aK)
noncomputable def Yc.l0 {β : Type} (k : Nat) (K : (List (List C)) → Option β) (L0 : (Int × Int × Int × (List (List C))) → Option β) (v : Int × Int × Int × (List (List C))) : Option β := Yc.m0 k K L0 v (fun aP aO aR => ZA (Yc.l1 k aP aO aR L0 K) k)
noncomputable def Yc.m {β : Type} (k : Nat) (a0 : List (List C)) (a1 a2 : Int) (K : (List (List C)) → Option β) (F : ((Int × Int × Int × (List (List C))) → Option β)) : Option β :=
  F (a1, a2, IntKind.wrap .i64 (a1 + 1), a0)
noncomputable def Yc.g {β : Type} (k : Nat) (a0 : List (List C)) (a1 a2 : Int) (K : (List (List C)) → Option β) : Option β :=
  ZA (Yc.l0 k K) k (a1, a2, IntKind.wrap .i64 (a1 + 1), a0)
noncomputable def Yc.t (k : Nat) (a0 : List (List C)) (a1 a2 : Int) : Option ((List (List C))) := Yc.g k a0 a1 a2 (fun z0 => some z0)
noncomputable def Yc.f {β : Type} (k : Nat) (a0 : List (List C)) (a1 a2 : Int) (K : (List (List C)) → Option β) : Option β := bd1 (Yc.t k a0 a1 a2) K
noncomputable def Yc.e (k : Nat) : Zj := ent [.own false 27 [.o], .d .n, .d .n, .fn 32 []] [] [.o] [] false (Yc.t k)
noncomputable def Yc.p (k : Nat) : Pro := ⟨Try.prog, [(32, YL.e k)], Zv [(1, kp [0, 1, 2, 3, 8]), (4, kp [0, 1, 2, 3, 8, 9])] false [], k⟩
noncomputable def Yc.d (k : Nat) (a0 : List (List C)) (a1 a2 : Int) : Ex → St → Option ((List (List C))) := (Yc.p k).fin Try.f81 [.own false [.own a0], .d (.int .i64 a1), .d (.int .i64 a2), .d (.fn 32 [])] [] [.o]
noncomputable def Yc.s0 (v : Int × Int × Int × (List (List C))) : St :=
  match v with
  | (aA, aB, aJ, aK) => ZaA 53 [(0, .row 0), (1, .d false (.int .i64 aA)), (2, .d false (.int .i64 aB)), (3, .d false (.fn 32 [])), (8, .d true (.int .i64 aJ))] [.row (some 0) false 27 aK]
noncomputable def Yc.c0 (k : Nat) (a0 : List (List C)) (a1 a2 : Int) : Ex → St → Option ((List (List C))) := (Yc.p k).ct (ZI Try.f81) [1, 0] (Yc.d k a0 a1 a2)
noncomputable def Yc.r0 (k : Nat) (a0 : List (List C)) (a1 a2 : Int) (n : Nat) (v : Int × Int × Int × (List (List C))) : Option ((List (List C))) := (Yc.p k).lp (ZI Try.f81) 1 [1, 0] (Yc.d k a0 a1 a2) n (Yc.s0 v)
noncomputable def Yc.s1 (aP aO aR : Int) (v : Int × (List (List C))) : St :=
  match v with
  | (v1_3, v1_4) => ZaA 53 [(0, .row 0), (1, .d false (.int .i64 aP)), (2, .d false (.int .i64 aO)), (3, .d false (.fn 32 [])), (8, .d true (.int .i64 aR)), (9, .d true (.int .i64 v1_3))] [.row (some 0) false 27 v1_4]
noncomputable def Yc.r1 (k : Nat) (a0 : List (List C)) (a1 a2 aP aO aR : Int) (L0 : St → Option ((List (List C)))) (n : Nat) (v : Int × (List (List C))) : Option ((List (List C))) := (Yc.p k).lp (codeAt [1, 0, 0] (ZI Try.f81)) 4 [1, 0, 0, 1, 0] (backK ((Yc.p k).h.H 1) L0 (Yc.c0 k a0 a1 a2)) n (Yc.s1 aP aO aR v)
theorem Yc.l1_eq (k : Nat) (a0 : List (List C)) (a1 a2 aP aO aR : Int) (L0 : St → Option ((List (List C)))) : ∀ n v, Yc.r1 k a0 a1 a2 aP aO aR L0 n v = ZA (Yc.l1 k aP aO aR (fun v => L0 (Yc.s0 v)) (fun z0 => some z0)) n v :=
  Zz (Yc.s1 aP aO aR) _ fun L1 v => by obtain ⟨v1_3, v1_4⟩ := v; kernel_rfl
theorem Yc.l0_eq (k : Nat) (a0 : List (List C)) (a1 a2 : Int) : ∀ n v, Yc.r0 k a0 a1 a2 n v = ZA (Yc.l0 k (fun z0 => some z0)) n v :=
  Zz (Yc.s0) _ fun L0 v => by obtain ⟨aA, aB, aJ, aK⟩ := v; exact Eq.trans (b := Yc.m0 k (fun z0 => some z0) (fun v => L0 (Yc.s0 v)) (aA, aB, aJ, aK) (fun aP aO aR => Yc.r1 k a0 a1 a2 aP aO aR L0 k)) (by kernel_rfl) (congrArg (Yc.m0 k (fun z0 => some z0) (fun v => L0 (Yc.s0 v)) (aA, aB, aJ, aK)) (funext fun aP => funext fun aO => funext fun aR => funext fun v => Yc.l1_eq k a0 a1 a2 aP aO aR L0 k v))
theorem Yc.ok (k : Nat) : Zf Try.prog 81 (Yc.e k) := Zk (Yc.p k) mix tyok Try.func81 (YL.ok k) (by kernel_rfl) (fun a0 a1 a2 => Eq.trans (b := Yc.m k a0 a1 a2 (fun z0 => some z0) (Yc.r0 k a0 a1 a2 k)) (by kernel_rfl) (congrArg (Yc.m k a0 a1 a2 (fun z0 => some z0)) (funext fun v => Yc.l0_eq k a0 a1 a2 k v) :))
noncomputable def Yd.l0 {β : Type} (k : Nat) (aA aB aJ : Int) (K : (List (List C)) → Option β) (L0 : (Int × (List (List C))) → Option β) (v : Int × (List (List C))) : Option β :=
  match v with
  | (aK, bA) => bif (decide ((aK : Int) < aJ)) then (Zd ((0 : Int) ≤ (IntKind.wrap .i64 (aB + aK)) ∧ (IntKind.wrap .i64 (aB + aK)) < (bA.length : Int)) (ZaR bA (Int.toNat (IntKind.wrap .i64 (aB + aK))) fun c19 => ZaJ (c19.drop 0) fun c20 r21 => cD c20 fun d22 => dInt .i64 d22 fun x23 => ZaJ r21 fun c24 r25 => cD c24 fun d26 => dInt .i64 d26 fun x27 => let J1 := ((0 : Int) ≤ (IntKind.wrap .i64 (aA + aK)) ∧ (IntKind.wrap .i64 (aA + aK)) < (bA.length : Int)); Zd J1 (ZaR bA (Int.toNat (IntKind.wrap .i64 (aA + aK))) fun c28 => ZaJ (c28.drop 0) fun c29 r30 => cD c29 fun d31 => dInt .i64 d31 fun x32 => ZaJ r30 fun c33 r34 => cD c33 fun d35 => dInt .i64 d35 fun x36 => let J0 := (bA.modify (Int.toNat (IntKind.wrap .i64 (aA + aK))) fun c => Zs c 0 [.d (.int .i64 x23), .d (.int .i64 x27)]); Zd J1 (Zd (Int.toNat (IntKind.wrap .i64 (aA + aK)) < bA.length) (Zd ((0 : Int) ≤ (IntKind.wrap .i64 (aB + aK)) ∧ (IntKind.wrap .i64 (aB + aK)) < (J0.length : Int)) (Zd (Int.toNat (IntKind.wrap .i64 (aB + aK)) < J0.length) (L0 (IntKind.wrap .i64 (aK + 1), J0.modify (Int.toNat (IntKind.wrap .i64 (aB + aK))) fun c => Zs c 0 [.d (.int .i64 x32), .d (.int .i64 x36)])))))))) else (K bA)
noncomputable def Yd.m {β : Type} (k : Nat) (a0 : List (List C)) (a1 a2 a3 : Int) (K : (List (List C)) → Option β) (F : (Int → Int → Int → (Int × (List (List C))) → Option β)) : Option β :=
  F a1 a2 a3 (0, a0)
noncomputable def Yd.g {β : Type} (k : Nat) (a0 : List (List C)) (a1 a2 a3 : Int) (K : (List (List C)) → Option β) : Option β :=
  ZA (Yd.l0 k a1 a2 a3 K) k (0, a0)
noncomputable def Yd.t (k : Nat) (a0 : List (List C)) (a1 a2 a3 : Int) : Option ((List (List C))) := Yd.g k a0 a1 a2 a3 (fun z0 => some z0)
noncomputable def Yd.f {β : Type} (k : Nat) (a0 : List (List C)) (a1 a2 a3 : Int) (K : (List (List C)) → Option β) : Option β := bd1 (Yd.t k a0 a1 a2 a3) K
noncomputable def Yd.e (k : Nat) : Zj := ent [.own false 27 [.o], .d .n, .d .n, .d .n, .fn 32 []] [] [.o] [] false (Yd.t k)
noncomputable def Yd.p (k : Nat) : Pro := ⟨Try.prog, [], Zv [(1, kp [0, 1, 2, 3, 10])] false [], k⟩
noncomputable def Yd.d (k : Nat) (a0 : List (List C)) (a1 a2 a3 : Int) : Ex → St → Option ((List (List C))) := (Yd.p k).fin Try.f114 [.own false [.own a0], .d (.int .i64 a1), .d (.int .i64 a2), .d (.int .i64 a3), .d (.fn 32 [])] [] [.o]
noncomputable def Yd.s0 (aA aB aJ : Int) (v : Int × (List (List C))) : St :=
  match v with
  | (aK, bA) => ZaA 38 [(0, .row 0), (1, .d false (.int .i64 aA)), (2, .d false (.int .i64 aB)), (3, .d false (.int .i64 aJ)), (10, .d true (.int .i64 aK))] [.row (some 0) false 27 bA]
noncomputable def Yd.r0 (k : Nat) (a0 : List (List C)) (a1 a2 a3 aA aB aJ : Int) (n : Nat) (v : Int × (List (List C))) : Option ((List (List C))) := (Yd.p k).lp (ZI Try.f114) 1 [1, 0] (Yd.d k a0 a1 a2 a3) n (Yd.s0 aA aB aJ v)
theorem Yd.l0_eq (k : Nat) (a0 : List (List C)) (a1 a2 a3 aA aB aJ : Int) : ∀ n v, Yd.r0 k a0 a1 a2 a3 aA aB aJ n v = ZA (Yd.l0 k aA aB aJ (fun z0 => some z0)) n v :=
  Zz (Yd.s0 aA aB aJ) _ fun L0 v => by obtain ⟨aK, bA⟩ := v; kernel_rfl
theorem Yd.ok (k : Nat) : Zf Try.prog 114 (Yd.e k) := Zk (Yd.p k) mix tyok Try.func114 trivial (by kernel_rfl) (fun a0 a1 a2 a3 => Eq.trans (b := Yd.m k a0 a1 a2 a3 (fun z0 => some z0) (fun aA aB aJ => Yd.r0 k a0 a1 a2 a3 aA aB aJ k)) (by kernel_rfl) (congrArg (Yd.m k a0 a1 a2 a3 (fun z0 => some z0)) (funext fun aA => funext fun aB => funext fun aJ => funext fun v => Yd.l0_eq k a0 a1 a2 a3 aA aB aJ k v) :))
noncomputable def Ye.l0 {β : Type} (k : Nat) (aA : Int) (K : (List (List C)) → Option β) (L0 : (Int × Int × (List (List C))) → Option β) (v : Int × Int × (List (List C))) : Option β :=
  match v with
  | (aB, aJ, aK) => bif ((aB : Int) != aJ) then (bif (decide ((aB : Int) > aJ)) then (Yd.f k aK (IntKind.wrap .i64 (aA - aB)) aA aJ (fun y40 => Zd (y40.length = aK.length) (L0 (IntKind.wrap .i64 (aB - aJ), aJ, y40)))) else (Yd.f k aK (IntKind.wrap .i64 (aA - aB)) (IntKind.wrap .i64 ((IntKind.wrap .i64 (aA + aJ)) - aB)) aB (fun y41 => Zd (y41.length = aK.length) (L0 (aB, IntKind.wrap .i64 (aJ - aB), y41))))) else (Yd.f k aK (IntKind.wrap .i64 (aA - aB)) aA aB (fun y42 => Zd (y42.length = aK.length) (K y42)))
noncomputable def Ye.m {β : Type} (k : Nat) (a0 : List (List C)) (a1 a2 a3 : Int) (K : (List (List C)) → Option β) (F : (Int → (Int × Int × (List (List C))) → Option β)) : Option β :=
  F a2 (IntKind.wrap .i64 (a2 - a1), IntKind.wrap .i64 (a3 - a2), a0)
noncomputable def Ye.g {β : Type} (k : Nat) (a0 : List (List C)) (a1 a2 a3 : Int) (K : (List (List C)) → Option β) : Option β :=
  ZA (Ye.l0 k a2 K) k (IntKind.wrap .i64 (a2 - a1), IntKind.wrap .i64 (a3 - a2), a0)
noncomputable def Ye.t (k : Nat) (a0 : List (List C)) (a1 a2 a3 : Int) : Option ((List (List C))) := Ye.g k a0 a1 a2 a3 (fun z0 => some z0)
noncomputable def Ye.f {β : Type} (k : Nat) (a0 : List (List C)) (a1 a2 a3 : Int) (K : (List (List C)) → Option β) : Option β := bd1 (Ye.t k a0 a1 a2 a3) K
noncomputable def Ye.e (k : Nat) : Zj := ent [.own false 27 [.o], .d .n, .d .n, .d .n, .fn 32 []] [] [.o] [] false (Ye.t k)
noncomputable def Ye.p (k : Nat) : Pro := ⟨Try.prog, [(114, Yd.e k)], Zv [(2, kp [0, 2, 4, 10, 11])] false [], k⟩
noncomputable def Ye.d (k : Nat) (a0 : List (List C)) (a1 a2 a3 : Int) : Ex → St → Option ((List (List C))) := (Ye.p k).fin Try.f100 [.own false [.own a0], .d (.int .i64 a1), .d (.int .i64 a2), .d (.int .i64 a3), .d (.fn 32 [])] [] [.o]
noncomputable def Ye.s0 (aA : Int) (v : Int × Int × (List (List C))) : St :=
  match v with
  | (aB, aJ, aK) => ZaA 58 [(0, .row 0), (2, .d false (.int .i64 aA)), (4, .d false (.fn 32 [])), (10, .d true (.int .i64 aB)), (11, .d true (.int .i64 aJ))] [.row (some 0) false 27 aK]
noncomputable def Ye.r0 (k : Nat) (a0 : List (List C)) (a1 a2 a3 aA : Int) (n : Nat) (v : Int × Int × (List (List C))) : Option ((List (List C))) := (Ye.p k).lp (ZI Try.f100) 2 [1, 1, 0, 0] (Ye.d k a0 a1 a2 a3) n (Ye.s0 aA v)
theorem Ye.l0_eq (k : Nat) (a0 : List (List C)) (a1 a2 a3 aA : Int) : ∀ n v, Ye.r0 k a0 a1 a2 a3 aA n v = ZA (Ye.l0 k aA (fun z0 => some z0)) n v :=
  Zz (Ye.s0 aA) _ fun L0 v => by obtain ⟨aB, aJ, aK⟩ := v; kernel_rfl
theorem Ye.ok (k : Nat) : Zf Try.prog 100 (Ye.e k) := Zk (Ye.p k) mix tyok Try.func100 (Yd.ok k) (by kernel_rfl) (fun a0 a1 a2 a3 => Eq.trans (b := Ye.m k a0 a1 a2 a3 (fun z0 => some z0) (fun aA => Ye.r0 k a0 a1 a2 a3 aA k)) (by kernel_rfl) (congrArg (Ye.m k a0 a1 a2 a3 (fun z0 => some z0)) (funext fun aA => funext fun v => Ye.l0_eq k a0 a1 a2 a3 aA k v) :))
set_option maxRecDepth 100000 in
noncomputable def Ya.l5 {β : Type} (k : Nat) (r_slices_symMergeCmpFunc_impl_Run__impl_Tell_1 : (List (List C)) → Int → Int → Int → ((List (List C)) → Option β) → Option β) (v5_0 : Int) (v5_1 : Int) (bI : Int) (bG : Int) (aY : Int) (v5_7 : Int) (bE : List (List C)) (K : (List (List C)) → Option β) (L5 : (Int × Int) → Option β) (v : Int × Int) : Option β :=
  match v with
  | (aW, v5_6) => bif (decide ((aW : Int) < v5_6)) then (let J2 := (Int.fdiv (IntKind.wrap .u64 (IntKind.wrap .i64 (aW + v5_6))) (2 ^ (min (1 : Int).toNat 64))); let J1 := (IntKind.wrap .i64 J2); let J0 := (IntKind.wrap .i64 (v5_7 - J1)); Zd ((0 : Int) ≤ 1) (Zd ((0 : Int) ≤ J0 ∧ J0 < (bE.length : Int)) (ZaR bE (Int.toNat J0) fun c317 => ZaJ (c317.drop 0) fun c318 r319 => cD c318 fun d320 => dInt .i64 d320 fun x321 => ZaJ r319 fun c322 r323 => cD c322 fun d324 => dInt .i64 d324 fun x325 => Zd ((0 : Int) ≤ J1 ∧ J1 < (bE.length : Int)) (ZaR bE (Int.toNat J1) fun c326 => ZaJ (c326.drop 0) fun c327 r328 => cD c327 fun d329 => dInt .i64 d329 fun x330 => ZaJ r328 fun c331 r332 => cD c331 fun d333 => dInt .i64 d333 fun x334 => YL.f k x321 x325 x330 x334 (fun y335 => bif (!(decide ((y335 : Int) < 0))) then (L5 (IntKind.wrap .i64 (J1 + 1), v5_6)) else (L5 (aW, IntKind.wrap .i64 J2))))))) else (bif (decide ((aW : Int) < v5_1)) then (bif (decide ((v5_1 : Int) < (IntKind.wrap .i64 (aY - aW)))) then (Ye.f k bE aW v5_1 (IntKind.wrap .i64 (aY - aW)) (fun y336 => Zd (y336.length = bE.length) (bif (decide ((v5_0 : Int) < aW)) then (bif (decide ((aW : Int) < bG)) then (r_slices_symMergeCmpFunc_impl_Run__impl_Tell_1 y336 v5_0 aW bG (fun y337 => Zd (y337.length = y336.length) (bif (decide ((bG : Int) < (IntKind.wrap .i64 (aY - aW)))) then (bif (decide (((IntKind.wrap .i64 (aY - aW)) : Int) < bI)) then (r_slices_symMergeCmpFunc_impl_Run__impl_Tell_1 y337 bG (IntKind.wrap .i64 (aY - aW)) bI (fun y338 => Zd (y338.length = y337.length) (K y338))) else (K y337)) else (K y337)))) else (bif (decide ((bG : Int) < (IntKind.wrap .i64 (aY - aW)))) then (bif (decide (((IntKind.wrap .i64 (aY - aW)) : Int) < bI)) then (r_slices_symMergeCmpFunc_impl_Run__impl_Tell_1 y336 bG (IntKind.wrap .i64 (aY - aW)) bI (fun y339 => Zd (y339.length = y336.length) (K y339))) else (K y336)) else (K y336))) else (bif (decide ((bG : Int) < (IntKind.wrap .i64 (aY - aW)))) then (bif (decide (((IntKind.wrap .i64 (aY - aW)) : Int) < bI)) then (r_slices_symMergeCmpFunc_impl_Run__impl_Tell_1 y336 bG (IntKind.wrap .i64 (aY - aW)) bI (fun y340 => Zd (y340.length = y336.length) (K y340))) else (K y336)) else (K y336))))) else (bif (decide ((v5_0 : Int) < aW)) then (bif (decide ((aW : Int) < bG)) then (r_slices_symMergeCmpFunc_impl_Run__impl_Tell_1 bE v5_0 aW bG (fun y341 => Zd (y341.length = bE.length) (bif (decide ((bG : Int) < (IntKind.wrap .i64 (aY - aW)))) then (bif (decide (((IntKind.wrap .i64 (aY - aW)) : Int) < bI)) then (r_slices_symMergeCmpFunc_impl_Run__impl_Tell_1 y341 bG (IntKind.wrap .i64 (aY - aW)) bI (fun y342 => Zd (y342.length = y341.length) (K y342))) else (K y341)) else (K y341)))) else (bif (decide ((bG : Int) < (IntKind.wrap .i64 (aY - aW)))) then (bif (decide (((IntKind.wrap .i64 (aY - aW)) : Int) < bI)) then (r_slices_symMergeCmpFunc_impl_Run__impl_Tell_1 bE bG (IntKind.wrap .i64 (aY - aW)) bI (fun y343 => Zd (y343.length = bE.length) (K y343))) else (K bE)) else (K bE))) else (bif (decide ((bG : Int) < (IntKind.wrap .i64 (aY - aW)))) then (bif (decide (((IntKind.wrap .i64 (aY - aW)) : Int) < bI)) then (r_slices_symMergeCmpFunc_impl_Run__impl_Tell_1 bE bG (IntKind.wrap .i64 (aY - aW)) bI (fun y344 => Zd (y344.length = bE.length) (K y344))) else (K bE)) else (K bE)))) else (bif (decide ((v5_0 : Int) < aW)) then (bif (decide ((aW : Int) < bG)) then (r_slices_symMergeCmpFunc_impl_Run__impl_Tell_1 bE v5_0 aW bG (fun y345 => Zd (y345.length = bE.length) (bif (decide ((bG : Int) < (IntKind.wrap .i64 (aY - aW)))) then (bif (decide (((IntKind.wrap .i64 (aY - aW)) : Int) < bI)) then (r_slices_symMergeCmpFunc_impl_Run__impl_Tell_1 y345 bG (IntKind.wrap .i64 (aY - aW)) bI (fun y346 => Zd (y346.length = y345.length) (K y346))) else (K y345)) else (K y345)))) else (bif (decide ((bG : Int) < (IntKind.wrap .i64 (aY - aW)))) then (bif (decide (((IntKind.wrap .i64 (aY - aW)) : Int) < bI)) then (r_slices_symMergeCmpFunc_impl_Run__impl_Tell_1 bE bG (IntKind.wrap .i64 (aY - aW)) bI (fun y347 => Zd (y347.length = bE.length) (K y347))) else (K bE)) else (K bE))) else (bif (decide ((bG : Int) < (IntKind.wrap .i64 (aY - aW)))) then (bif (decide (((IntKind.wrap .i64 (aY - aW)) : Int) < bI)) then (r_slices_symMergeCmpFunc_impl_Run__impl_Tell_1 bE bG (IntKind.wrap .i64 (aY - aW)) bI (fun y348 => Zd (y348.length = bE.length) (K y348))) else (K bE)) else (K bE))))
set_option maxRecDepth 100000 in
noncomputable def Ya.l4 {β : Type} (k : Nat) (r_slices_symMergeCmpFunc_impl_Run__impl_Tell_1 : (List (List C)) → Int → Int → Int → ((List (List C)) → Option β) → Option β) (v4_0 : Int) (v4_1 : Int) (bJ : Int) (bH : Int) (aZ : Int) (v4_7 : Int) (bF : List (List C)) (K : (List (List C)) → Option β) (L4 : (Int × Int) → Option β) (v : Int × Int) : Option β :=
  match v with
  | (aX, v4_6) => bif (decide ((aX : Int) < v4_6)) then (let J2 := (Int.fdiv (IntKind.wrap .u64 (IntKind.wrap .i64 (aX + v4_6))) (2 ^ (min (1 : Int).toNat 64))); let J1 := (IntKind.wrap .i64 J2); let J0 := (IntKind.wrap .i64 (v4_7 - J1)); Zd ((0 : Int) ≤ 1) (Zd ((0 : Int) ≤ J0 ∧ J0 < (bF.length : Int)) (ZaR bF (Int.toNat J0) fun c253 => ZaJ (c253.drop 0) fun c254 r255 => cD c254 fun d256 => dInt .i64 d256 fun x257 => ZaJ r255 fun c258 r259 => cD c258 fun d260 => dInt .i64 d260 fun x261 => Zd ((0 : Int) ≤ J1 ∧ J1 < (bF.length : Int)) (ZaR bF (Int.toNat J1) fun c262 => ZaJ (c262.drop 0) fun c263 r264 => cD c263 fun d265 => dInt .i64 d265 fun x266 => ZaJ r264 fun c267 r268 => cD c267 fun d269 => dInt .i64 d269 fun x270 => YL.f k x257 x261 x266 x270 (fun y271 => bif (!(decide ((y271 : Int) < 0))) then (L4 (IntKind.wrap .i64 (J1 + 1), v4_6)) else (L4 (aX, IntKind.wrap .i64 J2))))))) else (bif (decide ((aX : Int) < v4_1)) then (bif (decide ((v4_1 : Int) < (IntKind.wrap .i64 (aZ - aX)))) then (Ye.f k bF aX v4_1 (IntKind.wrap .i64 (aZ - aX)) (fun y272 => Zd (y272.length = bF.length) (bif (decide ((v4_0 : Int) < aX)) then (bif (decide ((aX : Int) < bH)) then (r_slices_symMergeCmpFunc_impl_Run__impl_Tell_1 y272 v4_0 aX bH (fun y273 => Zd (y273.length = y272.length) (bif (decide ((bH : Int) < (IntKind.wrap .i64 (aZ - aX)))) then (bif (decide (((IntKind.wrap .i64 (aZ - aX)) : Int) < bJ)) then (r_slices_symMergeCmpFunc_impl_Run__impl_Tell_1 y273 bH (IntKind.wrap .i64 (aZ - aX)) bJ (fun y274 => Zd (y274.length = y273.length) (K y274))) else (K y273)) else (K y273)))) else (bif (decide ((bH : Int) < (IntKind.wrap .i64 (aZ - aX)))) then (bif (decide (((IntKind.wrap .i64 (aZ - aX)) : Int) < bJ)) then (r_slices_symMergeCmpFunc_impl_Run__impl_Tell_1 y272 bH (IntKind.wrap .i64 (aZ - aX)) bJ (fun y275 => Zd (y275.length = y272.length) (K y275))) else (K y272)) else (K y272))) else (bif (decide ((bH : Int) < (IntKind.wrap .i64 (aZ - aX)))) then (bif (decide (((IntKind.wrap .i64 (aZ - aX)) : Int) < bJ)) then (r_slices_symMergeCmpFunc_impl_Run__impl_Tell_1 y272 bH (IntKind.wrap .i64 (aZ - aX)) bJ (fun y276 => Zd (y276.length = y272.length) (K y276))) else (K y272)) else (K y272))))) else (bif (decide ((v4_0 : Int) < aX)) then (bif (decide ((aX : Int) < bH)) then (r_slices_symMergeCmpFunc_impl_Run__impl_Tell_1 bF v4_0 aX bH (fun y277 => Zd (y277.length = bF.length) (bif (decide ((bH : Int) < (IntKind.wrap .i64 (aZ - aX)))) then (bif (decide (((IntKind.wrap .i64 (aZ - aX)) : Int) < bJ)) then (r_slices_symMergeCmpFunc_impl_Run__impl_Tell_1 y277 bH (IntKind.wrap .i64 (aZ - aX)) bJ (fun y278 => Zd (y278.length = y277.length) (K y278))) else (K y277)) else (K y277)))) else (bif (decide ((bH : Int) < (IntKind.wrap .i64 (aZ - aX)))) then (bif (decide (((IntKind.wrap .i64 (aZ - aX)) : Int) < bJ)) then (r_slices_symMergeCmpFunc_impl_Run__impl_Tell_1 bF bH (IntKind.wrap .i64 (aZ - aX)) bJ (fun y279 => Zd (y279.length = bF.length) (K y279))) else (K bF)) else (K bF))) else (bif (decide ((bH : Int) < (IntKind.wrap .i64 (aZ - aX)))) then (bif (decide (((IntKind.wrap .i64 (aZ - aX)) : Int) < bJ)) then (r_slices_symMergeCmpFunc_impl_Run__impl_Tell_1 bF bH (IntKind.wrap .i64 (aZ - aX)) bJ (fun y280 => Zd (y280.length = bF.length) (K y280))) else (K bF)) else (K bF)))) else (bif (decide ((v4_0 : Int) < aX)) then (bif (decide ((aX : Int) < bH)) then (r_slices_symMergeCmpFunc_impl_Run__impl_Tell_1 bF v4_0 aX bH (fun y281 => Zd (y281.length = bF.length) (bif (decide ((bH : Int) < (IntKind.wrap .i64 (aZ - aX)))) then (bif (decide (((IntKind.wrap .i64 (aZ - aX)) : Int) < bJ)) then (r_slices_symMergeCmpFunc_impl_Run__impl_Tell_1 y281 bH (IntKind.wrap .i64 (aZ - aX)) bJ (fun y282 => Zd (y282.length = y281.length) (K y282))) else (K y281)) else (K y281)))) else (bif (decide ((bH : Int) < (IntKind.wrap .i64 (aZ - aX)))) then (bif (decide (((IntKind.wrap .i64 (aZ - aX)) : Int) < bJ)) then (r_slices_symMergeCmpFunc_impl_Run__impl_Tell_1 bF bH (IntKind.wrap .i64 (aZ - aX)) bJ (fun y283 => Zd (y283.length = bF.length) (K y283))) else (K bF)) else (K bF))) else (bif (decide ((bH : Int) < (IntKind.wrap .i64 (aZ - aX)))) then (bif (decide (((IntKind.wrap .i64 (aZ - aX)) : Int) < bJ)) then (r_slices_symMergeCmpFunc_impl_Run__impl_Tell_1 bF bH (IntKind.wrap .i64 (aZ - aX)) bJ (fun y284 => Zd (y284.length = bF.length) (K y284))) else (K bF)) else (K bF))))
noncomputable def Ya.l3 {β : Type} (k : Nat) (r_slices_symMergeCmpFunc_impl_Run__impl_Tell_1 : (List (List C)) → Int → Int → Int → ((List (List C)) → Option β) → Option β) (v3_0 : Int) (K : (List (List C)) → Option β) (L3 : (Int × (List (List C))) → Option β) (v : Int × (List (List C))) : Option β :=
  match v with
  | (v3_1, v3_2) => bif (decide ((v3_1 : Int) > v3_0)) then (Zd ((0 : Int) ≤ (IntKind.wrap .i64 (v3_1 - 1)) ∧ (IntKind.wrap .i64 (v3_1 - 1)) < (v3_2.length : Int)) (ZaR v3_2 (Int.toNat (IntKind.wrap .i64 (v3_1 - 1))) fun c203 => ZaJ (c203.drop 0) fun c204 r205 => cD c204 fun d206 => dInt .i64 d206 fun x207 => ZaJ r205 fun c208 r209 => cD c208 fun d210 => dInt .i64 d210 fun x211 => Zd ((0 : Int) ≤ v3_1 ∧ v3_1 < (v3_2.length : Int)) (ZaR v3_2 (Int.toNat v3_1) fun c212 => ZaJ (c212.drop 0) fun c213 r214 => cD c213 fun d215 => dInt .i64 d215 fun x216 => ZaJ r214 fun c217 r218 => cD c217 fun d219 => dInt .i64 d219 fun x220 => let J0 := (v3_2.modify (Int.toNat v3_1) fun c => Zs c 0 [.d (.int .i64 x207), .d (.int .i64 x211)]); Zd ((0 : Int) ≤ v3_1 ∧ v3_1 < (v3_2.length : Int)) (Zd (Int.toNat v3_1 < v3_2.length) (Zd ((0 : Int) ≤ (IntKind.wrap .i64 (v3_1 - 1)) ∧ (IntKind.wrap .i64 (v3_1 - 1)) < (J0.length : Int)) (Zd (Int.toNat (IntKind.wrap .i64 (v3_1 - 1)) < J0.length) (L3 (IntKind.wrap .i64 (v3_1 - 1), J0.modify (Int.toNat (IntKind.wrap .i64 (v3_1 - 1))) fun c => Zs c 0 [.d (.int .i64 x216), .d (.int .i64 x220)])))))))) else (K v3_2)
noncomputable def Ya.m2 {β : Type} (k : Nat) (r_slices_symMergeCmpFunc_impl_Run__impl_Tell_1 : (List (List C)) → Int → Int → Int → ((List (List C)) → Option β) → Option β) (aN : Int) (aQ : List (List C)) (K : (List (List C)) → Option β) (L2 : (Int × Int) → Option β) (v : Int × Int) (F : (Int → (Int × (List (List C))) → Option β)) : Option β :=
  match v with
  | (aT, bK) => bif (decide ((aT : Int) < bK)) then (Zd ((0 : Int) ≤ 1) (Zd ((0 : Int) ≤ aN ∧ aN < (aQ.length : Int)) (ZaR aQ (Int.toNat aN) fun c166 => ZaJ (c166.drop 0) fun c167 r168 => cD c167 fun d169 => dInt .i64 d169 fun x170 => ZaJ r168 fun c171 r172 => cD c171 fun d173 => dInt .i64 d173 fun x174 => let J1 := (Int.fdiv (IntKind.wrap .u64 (IntKind.wrap .i64 (aT + bK))) (2 ^ (min (1 : Int).toNat 64))); let J0 := (IntKind.wrap .i64 J1); Zd ((0 : Int) ≤ J0 ∧ J0 < (aQ.length : Int)) (ZaR aQ (Int.toNat J0) fun c175 => ZaJ (c175.drop 0) fun c176 r177 => cD c176 fun d178 => dInt .i64 d178 fun x179 => ZaJ r177 fun c180 r181 => cD c180 fun d182 => dInt .i64 d182 fun x183 => YL.f k x170 x174 x179 x183 (fun y184 => bif (!(decide ((y184 : Int) < 0))) then (L2 (IntKind.wrap .i64 (J0 + 1), bK)) else (L2 (aT, IntKind.wrap .i64 J1))))))) else (F aT (aN, aQ))
noncomputable def Ya.l2 {β : Type} (k : Nat) (r_slices_symMergeCmpFunc_impl_Run__impl_Tell_1 : (List (List C)) → Int → Int → Int → ((List (List C)) → Option β) → Option β) (aN : Int) (aQ : List (List C)) (K : (List (List C)) → Option β) (L2 : (Int × Int) → Option β) (v : Int × Int) : Option β := Ya.m2 k r_slices_symMergeCmpFunc_impl_Run__impl_Tell_1 aN aQ K L2 v (fun v3_0 => ZA (Ya.l3 k r_slices_symMergeCmpFunc_impl_Run__impl_Tell_1 v3_0 K) k)
noncomputable def Ya.l1 {β : Type} (k : Nat) (r_slices_symMergeCmpFunc_impl_Run__impl_Tell_1 : (List (List C)) → Int → Int → Int → ((List (List C)) → Option β) → Option β) (aP : Int) (K : (List (List C)) → Option β) (L1 : (Int × (List (List C))) → Option β) (v : Int × (List (List C))) : Option β :=
  match v with
  | (aO, aR) => bif (decide ((aO : Int) < (IntKind.wrap .i64 (aP - 1)))) then (Zd ((0 : Int) ≤ (IntKind.wrap .i64 (aO + 1)) ∧ (IntKind.wrap .i64 (aO + 1)) < (aR.length : Int)) (ZaR aR (Int.toNat (IntKind.wrap .i64 (aO + 1))) fun c93 => ZaJ (c93.drop 0) fun c94 r95 => cD c94 fun d96 => dInt .i64 d96 fun x97 => ZaJ r95 fun c98 r99 => cD c98 fun d100 => dInt .i64 d100 fun x101 => Zd ((0 : Int) ≤ aO ∧ aO < (aR.length : Int)) (ZaR aR (Int.toNat aO) fun c102 => ZaJ (c102.drop 0) fun c103 r104 => cD c103 fun d105 => dInt .i64 d105 fun x106 => ZaJ r104 fun c107 r108 => cD c107 fun d109 => dInt .i64 d109 fun x110 => let J0 := (aR.modify (Int.toNat aO) fun c => Zs c 0 [.d (.int .i64 x97), .d (.int .i64 x101)]); Zd ((0 : Int) ≤ aO ∧ aO < (aR.length : Int)) (Zd (Int.toNat aO < aR.length) (Zd ((0 : Int) ≤ (IntKind.wrap .i64 (aO + 1)) ∧ (IntKind.wrap .i64 (aO + 1)) < (J0.length : Int)) (Zd (Int.toNat (IntKind.wrap .i64 (aO + 1)) < J0.length) (L1 (IntKind.wrap .i64 (aO + 1), J0.modify (Int.toNat (IntKind.wrap .i64 (aO + 1))) fun c => Zs c 0 [.d (.int .i64 x106), .d (.int .i64 x110)])))))))) else (K aR)
noncomputable def Ya.m0 {β : Type} (k : Nat) (r_slices_symMergeCmpFunc_impl_Run__impl_Tell_1 : (List (List C)) → Int → Int → Int → ((List (List C)) → Option β) → Option β) (aA : Int) (aK : List (List C)) (K : (List (List C)) → Option β) (L0 : (Int × Int) → Option β) (v : Int × Int) (F : (Int → (Int × (List (List C))) → Option β)) : Option β :=
  match v with
  | (aB, aJ) => bif (decide ((aB : Int) < aJ)) then (let J1 := (Int.fdiv (IntKind.wrap .u64 (IntKind.wrap .i64 (aB + aJ))) (2 ^ (min (1 : Int).toNat 64))); let J0 := (IntKind.wrap .i64 J1); Zd ((0 : Int) ≤ 1) (Zd ((0 : Int) ≤ J0 ∧ J0 < (aK.length : Int)) (ZaR aK (Int.toNat J0) fun c56 => ZaJ (c56.drop 0) fun c57 r58 => cD c57 fun d59 => dInt .i64 d59 fun x60 => ZaJ r58 fun c61 r62 => cD c61 fun d63 => dInt .i64 d63 fun x64 => Zd ((0 : Int) ≤ aA ∧ aA < (aK.length : Int)) (ZaR aK (Int.toNat aA) fun c65 => ZaJ (c65.drop 0) fun c66 r67 => cD c66 fun d68 => dInt .i64 d68 fun x69 => ZaJ r67 fun c70 r71 => cD c70 fun d72 => dInt .i64 d72 fun x73 => YL.f k x60 x64 x69 x73 (fun y74 => bif (decide ((y74 : Int) < 0)) then (L0 (IntKind.wrap .i64 (J0 + 1), aJ)) else (L0 (aB, IntKind.wrap .i64 J1))))))) else (F aB (aA, aK))
noncomputable def Ya.l0 {β : Type} (k : Nat) (r_slices_symMergeCmpFunc_impl_Run__impl_Tell_1 : (List (List C)) → Int → Int → Int → ((List (List C)) → Option β) → Option β) (aA : Int) (aK : List (List C)) (K : (List (List C)) → Option β) (L0 : (Int × Int) → Option β) (v : Int × Int) : Option β := Ya.m0 k r_slices_symMergeCmpFunc_impl_Run__impl_Tell_1 aA aK K L0 v (fun aP => ZA (Ya.l1 k r_slices_symMergeCmpFunc_impl_Run__impl_Tell_1 aP K) k)
noncomputable def Ya.m {β : Type} (k : Nat) (r_slices_symMergeCmpFunc_impl_Run__impl_Tell_1 : (List (List C)) → Int → Int → Int → ((List (List C)) → Option β) → Option β) (a0 : List (List C)) (a1 : Int) (a2 : Int) (a3 : Int) (K : (List (List C)) → Option β) (F : (Int → (List (List C)) → (Int × Int) → Option β) × (Int → (List (List C)) → (Int × Int) → Option β) × (Int → Int → Int → Int → Int → Int → (List (List C)) → (Int × Int) → Option β) × (Int → Int → Int → Int → Int → Int → (List (List C)) → (Int × Int) → Option β)) : Option β :=
  bif (((IntKind.wrap .i64 (a2 - a1)) : Int) == 1) then (F.1 a1 a0 (a2, a3)) else (bif (((IntKind.wrap .i64 (a3 - a2)) : Int) == 1) then (F.2.1 a2 a0 (a1, a2)) else (let J3 := (Int.fdiv (IntKind.wrap .u64 (IntKind.wrap .i64 (a1 + a3))) (2 ^ (min (1 : Int).toNat 64))); let J2 := (IntKind.wrap .i64 J3); let J1 := (IntKind.wrap .i64 (J2 + a2)); let J0 := (IntKind.wrap .i64 (J1 - 1)); Zd ((0 : Int) ≤ 1) (bif (decide ((a2 : Int) > J2)) then (F.2.2.1 a1 a2 a3 J2 J1 J0 a0 (IntKind.wrap .i64 (J1 - a3), IntKind.wrap .i64 J3)) else (F.2.2.2 a1 a2 a3 J2 J1 J0 a0 (a1, a2)))))
noncomputable def Ya.body {β : Type} (k : Nat) (r_slices_symMergeCmpFunc_impl_Run__impl_Tell_1 : (List (List C)) → Int → Int → Int → ((List (List C)) → Option β) → Option β) (a0 : List (List C)) (a1 : Int) (a2 : Int) (a3 : Int) (K : (List (List C)) → Option β) : Option β := Ya.m k r_slices_symMergeCmpFunc_impl_Run__impl_Tell_1 a0 a1 a2 a3 K ((fun aA aK => ZA (Ya.l0 k r_slices_symMergeCmpFunc_impl_Run__impl_Tell_1 aA aK K) k), (fun aN aQ => ZA (Ya.l2 k r_slices_symMergeCmpFunc_impl_Run__impl_Tell_1 aN aQ K) k), (fun v4_0 v4_1 bJ bH aZ v4_7 bF => ZA (Ya.l4 k r_slices_symMergeCmpFunc_impl_Run__impl_Tell_1 v4_0 v4_1 bJ bH aZ v4_7 bF K) k), (fun v5_0 v5_1 bI bG aY v5_7 bE => ZA (Ya.l5 k r_slices_symMergeCmpFunc_impl_Run__impl_Tell_1 v5_0 v5_1 bI bG aY v5_7 bE K) k))
noncomputable def Ya.w {β : Type} (r : (List (List C)) → Int → Int → Int → Option ((List (List C)))) (a0 : List (List C)) (a1 : Int) (a2 : Int) (a3 : Int) (K : (List (List C)) → Option β) : Option β := bd1 (r a0 a1 a2 a3) K
noncomputable def Ya.all : Nat → ((List (List C)) → Int → Int → Int → Option ((List (List C))))
  | 0 => (fun _ _ _ _ => none)
  | k + 1 => (fun r => (fun a0 a1 a2 a3 => Ya.body k (Ya.w r) a0 a1 a2 a3 (fun z0 => some z0))) (Ya.all k)
noncomputable def Ya.t (k : Nat) (a0 : List (List C)) (a1 a2 a3 : Int) : Option ((List (List C))) := (Ya.all k) a0 a1 a2 a3
noncomputable def Ya.f {β : Type} (k : Nat) (a0 : List (List C)) (a1 a2 a3 : Int) (K : (List (List C)) → Option β) : Option β := Ya.w (Ya.t k) a0 a1 a2 a3 K
noncomputable def Ya.g {β : Type} (k : Nat) (a0 : List (List C)) (a1 a2 a3 : Int) (K : (List (List C)) → Option β) : Option β := Ya.body k (Ya.f k) a0 a1 a2 a3 K
theorem Ya.t_succ (k : Nat) (a0 : List (List C)) (a1 a2 a3 : Int) : Ya.t (k + 1) a0 a1 a2 a3 = Ya.g k a0 a1 a2 a3 (fun z0 => some z0) := rfl
noncomputable def Ya.e (k : Nat) : Zj := ent [.own false 27 [.o], .d .n, .d .n, .d .n, .fn 32 []] [] [.o] [] false (Ya.t k)
noncomputable def Ya.p (k : Nat) : Pro := ⟨Try.prog, [(32, YL.e k), (100, Ye.e k), (82, Ya.e k)], Zv [(3, kp [0, 1, 4] [(10, .dat false), (11, .dat false)]), (9, kp [0, 10] [(13, .dat false)]), (15, kp [0, 2, 4] [(14, .dat false), (15, .dat false)]), (21, kp [0, 14] [(17, .dat false)]), (33, kp [0, 1, 2, 3, 4, 18, 19, 22] [(20, .dat false), (21, .dat false)])] false [], k⟩
noncomputable def Ya.d (k : Nat) (a0 : List (List C)) (a1 a2 a3 : Int) : Ex → St → Option ((List (List C))) := (Ya.p k).fin Try.f82 [.own false [.own a0], .d (.int .i64 a1), .d (.int .i64 a2), .d (.int .i64 a3), .d (.fn 32 [])] [] [.o]
noncomputable def Ya.s0 (aA : Int) (aK : List (List C)) (v : Int × Int) : St :=
  match v with
  | (aB, aJ) => ZaA 220 [(0, .row 0), (1, .d false (.int .i64 aA)), (4, .d false (.fn 32 [])), (10, .d false (.int .i64 aB)), (11, .d false (.int .i64 aJ))] [.row (some 0) false 27 aK]
noncomputable def Ya.r0 (k : Nat) (a0 : List (List C)) (a1 a2 a3 aA : Int) (aK : List (List C)) (n : Nat) (v : Int × Int) : Option ((List (List C))) := (Ya.p k).lp (ZI Try.f82) 3 [0, 1, 0, 1, 1, 0, 0] (Ya.d k a0 a1 a2 a3) n (Ya.s0 aA aK v)
noncomputable def Ya.s1 (aP : Int) (v : Int × (List (List C))) : St :=
  match v with
  | (aO, aR) => ZaA 220 [(0, .row 0), (10, .d false (.int .i64 aP)), (13, .d false (.int .i64 aO))] [.row (some 0) false 27 aR]
noncomputable def Ya.r1 (k : Nat) (a0 : List (List C)) (a1 a2 a3 aP : Int) (n : Nat) (v : Int × (List (List C))) : Option ((List (List C))) := (Ya.p k).lp (ZI Try.f82) 9 [0, 1, 0, 1, 1, 1, 0, 1, 0] (Ya.d k a0 a1 a2 a3) n (Ya.s1 aP v)
noncomputable def Ya.s2 (aN : Int) (aQ : List (List C)) (v : Int × Int) : St :=
  match v with
  | (aT, bK) => ZaA 220 [(0, .row 0), (2, .d false (.int .i64 aN)), (4, .d false (.fn 32 [])), (14, .d false (.int .i64 aT)), (15, .d false (.int .i64 bK))] [.row (some 0) false 27 aQ]
noncomputable def Ya.r2 (k : Nat) (a0 : List (List C)) (a1 a2 a3 aN : Int) (aQ : List (List C)) (n : Nat) (v : Int × Int) : Option ((List (List C))) := (Ya.p k).lp (ZI Try.f82) 15 [1, 0, 1, 0, 1, 1, 0, 0] (Ya.d k a0 a1 a2 a3) n (Ya.s2 aN aQ v)
noncomputable def Ya.s3 (v3_0 : Int) (v : Int × (List (List C))) : St :=
  match v with
  | (v3_1, v3_2) => ZaA 220 [(0, .row 0), (14, .d false (.int .i64 v3_0)), (17, .d false (.int .i64 v3_1))] [.row (some 0) false 27 v3_2]
noncomputable def Ya.r3 (k : Nat) (a0 : List (List C)) (a1 a2 a3 v3_0 : Int) (n : Nat) (v : Int × (List (List C))) : Option ((List (List C))) := (Ya.p k).lp (ZI Try.f82) 21 [1, 0, 1, 0, 1, 1, 1, 0, 1, 0] (Ya.d k a0 a1 a2 a3) n (Ya.s3 v3_0 v)
noncomputable def Ya.s4 (v4_0 v4_1 bJ bH aZ v4_7 : Int) (bF : List (List C)) (v : Int × Int) : St :=
  match v with
  | (aX, v4_6) => ZaA 220 [(0, .row 0), (1, .d false (.int .i64 v4_0)), (2, .d false (.int .i64 v4_1)), (3, .d false (.int .i64 bJ)), (4, .d false (.fn 32 [])), (18, .d true (.int .i64 bH)), (19, .d true (.int .i64 aZ)), (20, .d false (.int .i64 aX)), (21, .d false (.int .i64 v4_6)), (22, .d true (.int .i64 v4_7))] [.row (some 0) false 27 bF]
noncomputable def Ya.r4 (k : Nat) (a0 : List (List C)) (a1 a2 a3 v4_0 v4_1 bJ bH aZ v4_7 : Int) (bF : List (List C)) (n : Nat) (v : Int × Int) : Option ((List (List C))) := (Ya.p k).lp (ZI Try.f82) 33 [1, 1, 1, 1, 1, 1, 1, 0, 0] (Ya.d k a0 a1 a2 a3) n (Ya.s4 v4_0 v4_1 bJ bH aZ v4_7 bF v)
noncomputable def Ya.s5 (v5_0 v5_1 bI bG aY v5_7 : Int) (bE : List (List C)) (v : Int × Int) : St :=
  match v with
  | (aW, v5_6) => ZaA 220 [(0, .row 0), (1, .d false (.int .i64 v5_0)), (2, .d false (.int .i64 v5_1)), (3, .d false (.int .i64 bI)), (4, .d false (.fn 32 [])), (18, .d true (.int .i64 bG)), (19, .d true (.int .i64 aY)), (20, .d false (.int .i64 aW)), (21, .d false (.int .i64 v5_6)), (22, .d true (.int .i64 v5_7))] [.row (some 0) false 27 bE]
noncomputable def Ya.r5 (k : Nat) (a0 : List (List C)) (a1 a2 a3 v5_0 v5_1 bI bG aY v5_7 : Int) (bE : List (List C)) (n : Nat) (v : Int × Int) : Option ((List (List C))) := (Ya.p k).lp (ZI Try.f82) 33 [1, 1, 1, 1, 1, 1, 1, 0, 0] (Ya.d k a0 a1 a2 a3) n (Ya.s5 v5_0 v5_1 bI bG aY v5_7 bE v)
theorem Ya.l5_eq (k : Nat) (a0 : List (List C)) (a1 a2 a3 v5_0 v5_1 bI bG aY v5_7 : Int) (bE : List (List C)) : ∀ n v, Ya.r5 k a0 a1 a2 a3 v5_0 v5_1 bI bG aY v5_7 bE n v = ZA (Ya.l5 k (Ya.f k) v5_0 v5_1 bI bG aY v5_7 bE (fun z0 => some z0)) n v :=
  Zz (Ya.s5 v5_0 v5_1 bI bG aY v5_7 bE) _ fun L5 v => by obtain ⟨aW, v5_6⟩ := v; kernel_rfl
theorem Ya.l4_eq (k : Nat) (a0 : List (List C)) (a1 a2 a3 v4_0 v4_1 bJ bH aZ v4_7 : Int) (bF : List (List C)) : ∀ n v, Ya.r4 k a0 a1 a2 a3 v4_0 v4_1 bJ bH aZ v4_7 bF n v = ZA (Ya.l4 k (Ya.f k) v4_0 v4_1 bJ bH aZ v4_7 bF (fun z0 => some z0)) n v :=
  Zz (Ya.s4 v4_0 v4_1 bJ bH aZ v4_7 bF) _ fun L4 v => by obtain ⟨aX, v4_6⟩ := v; kernel_rfl
theorem Ya.l3_eq (k : Nat) (a0 : List (List C)) (a1 a2 a3 v3_0 : Int) : ∀ n v, Ya.r3 k a0 a1 a2 a3 v3_0 n v = ZA (Ya.l3 k (Ya.f k) v3_0 (fun z0 => some z0)) n v :=
  Zz (Ya.s3 v3_0) _ fun L3 v => by obtain ⟨v3_1, v3_2⟩ := v; kernel_rfl
theorem Ya.l2_eq (k : Nat) (a0 : List (List C)) (a1 a2 a3 aN : Int) (aQ : List (List C)) : ∀ n v, Ya.r2 k a0 a1 a2 a3 aN aQ n v = ZA (Ya.l2 k (Ya.f k) aN aQ (fun z0 => some z0)) n v :=
  Zz (Ya.s2 aN aQ) _ fun L2 v => by obtain ⟨aT, bK⟩ := v; exact Eq.trans (b := Ya.m2 k (Ya.f k) aN aQ (fun z0 => some z0) (fun v => L2 (Ya.s2 aN aQ v)) (aT, bK) (fun v3_0 => Ya.r3 k a0 a1 a2 a3 v3_0 k)) (by kernel_rfl) (congrArg (Ya.m2 k (Ya.f k) aN aQ (fun z0 => some z0) (fun v => L2 (Ya.s2 aN aQ v)) (aT, bK)) (funext fun v3_0 => funext fun v => Ya.l3_eq k a0 a1 a2 a3 v3_0 k v))
theorem Ya.l1_eq (k : Nat) (a0 : List (List C)) (a1 a2 a3 aP : Int) : ∀ n v, Ya.r1 k a0 a1 a2 a3 aP n v = ZA (Ya.l1 k (Ya.f k) aP (fun z0 => some z0)) n v :=
  Zz (Ya.s1 aP) _ fun L1 v => by obtain ⟨aO, aR⟩ := v; kernel_rfl
theorem Ya.l0_eq (k : Nat) (a0 : List (List C)) (a1 a2 a3 aA : Int) (aK : List (List C)) : ∀ n v, Ya.r0 k a0 a1 a2 a3 aA aK n v = ZA (Ya.l0 k (Ya.f k) aA aK (fun z0 => some z0)) n v :=
  Zz (Ya.s0 aA aK) _ fun L0 v => by obtain ⟨aB, aJ⟩ := v; exact Eq.trans (b := Ya.m0 k (Ya.f k) aA aK (fun z0 => some z0) (fun v => L0 (Ya.s0 aA aK v)) (aB, aJ) (fun aP => Ya.r1 k a0 a1 a2 a3 aP k)) (by kernel_rfl) (congrArg (Ya.m0 k (Ya.f k) aA aK (fun z0 => some z0) (fun v => L0 (Ya.s0 aA aK v)) (aB, aJ)) (funext fun aP => funext fun v => Ya.l1_eq k a0 a1 a2 a3 aP k v))
theorem Ya.oks (k : Nat) : Zf Try.prog 82 (Ya.e k) := by
  induction k with
  | zero => exact Zba Try.func82 (by kernel_rfl) (fun _ _ _ _ => rfl)
  | succ k ih => exact Zk (Ya.p k) mix tyok Try.func82 ⟨YL.ok k, Ye.ok k, ih⟩ (by kernel_rfl) (fun a0 a1 a2 a3 => Eq.trans (b := Ya.m k (Ya.f k) a0 a1 a2 a3 (fun z0 => some z0) ((fun aA aK => Ya.r0 k a0 a1 a2 a3 aA aK k), (fun aN aQ => Ya.r2 k a0 a1 a2 a3 aN aQ k), (fun v4_0 v4_1 bJ bH aZ v4_7 bF => Ya.r4 k a0 a1 a2 a3 v4_0 v4_1 bJ bH aZ v4_7 bF k), (fun v5_0 v5_1 bI bG aY v5_7 bE => Ya.r5 k a0 a1 a2 a3 v5_0 v5_1 bI bG aY v5_7 bE k))) (by kernel_rfl) ((congrArg (Ya.m k (Ya.f k) a0 a1 a2 a3 (fun z0 => some z0)) (pair_eq (funext fun aA => funext fun aK => funext fun v => Ya.l0_eq k a0 a1 a2 a3 aA aK k v) (pair_eq (funext fun aN => funext fun aQ => funext fun v => Ya.l2_eq k a0 a1 a2 a3 aN aQ k v) (pair_eq (funext fun v4_0 => funext fun v4_1 => funext fun bJ => funext fun bH => funext fun aZ => funext fun v4_7 => funext fun bF => funext fun v => Ya.l4_eq k a0 a1 a2 a3 v4_0 v4_1 bJ bH aZ v4_7 bF k v) (funext fun v5_0 => funext fun v5_1 => funext fun bI => funext fun bG => funext fun aY => funext fun v5_7 => funext fun bE => funext fun v => Ya.l5_eq k a0 a1 a2 a3 v5_0 v5_1 bI bG aY v5_7 bE k v))))).trans (Ya.t_succ k a0 a1 a2 a3).symm))
theorem Ya.ok (k : Nat) : Zf Try.prog 82 (Ya.e k) := (Ya.oks k)
noncomputable def Yb.l2 {β : Type} (k : Nat) (aN aT : Int) (L1 : (Int × Int × (List (List C))) → Option β) (K : (List (List C)) → Option β) (L2 : (Int × Int × (List (List C))) → Option β) (v : Int × Int × (List (List C))) : Option β :=
  match v with
  | (bK, aQ, v2_4) => bif (decide ((aQ : Int) ≤ aN)) then (Ya.f k v2_4 bK (IntKind.wrap .i64 (bK + aT)) aQ (fun y365 => Zd (y365.length = v2_4.length) (L2 (aQ, IntKind.wrap .i64 (aQ + (IntKind.wrap .i64 (2 * aT))), y365)))) else (bif (decide (((IntKind.wrap .i64 (bK + aT)) : Int) < aN)) then (Ya.f k v2_4 bK (IntKind.wrap .i64 (bK + aT)) aN (fun y366 => Zd (y366.length = v2_4.length) (L1 (aN, IntKind.wrap .i64 (aT * 2), y366)))) else (L1 (aN, IntKind.wrap .i64 (aT * 2), v2_4)))
noncomputable def Yb.m1 {β : Type} (k : Nat) (K : (List (List C)) → Option β) (L1 : (Int × Int × (List (List C))) → Option β) (v : Int × Int × (List (List C))) (F : (Int → Int → (Int × Int × (List (List C))) → Option β)) : Option β :=
  match v with
  | (aP, aO, aR) => bif (decide ((aO : Int) < aP)) then (F aP aO (0, IntKind.wrap .i64 (2 * aO), aR)) else (K aR)
noncomputable def Yb.l1 {β : Type} (k : Nat) (K : (List (List C)) → Option β) (L1 : (Int × Int × (List (List C))) → Option β) (v : Int × Int × (List (List C))) : Option β := Yb.m1 k K L1 v (fun aN aT => ZA (Yb.l2 k aN aT L1 K) k)
noncomputable def Yb.m0 {β : Type} (k : Nat) (aA aB : Int) (K : (List (List C)) → Option β) (L0 : (Int × Int × (List (List C))) → Option β) (v : Int × Int × (List (List C))) (F : ((Int × Int × (List (List C))) → Option β)) : Option β :=
  match v with
  | (aJ, aK, bA) => bif (decide ((aK : Int) ≤ aA)) then (Yc.f k bA aJ aK (fun y357 => Zd (y357.length = bA.length) (L0 (aK, IntKind.wrap .i64 (aK + aB), y357)))) else (Yc.f k bA aJ aA (fun y358 => Zd (y358.length = bA.length) (F (aA, aB, y358))))
noncomputable def Yb.l0 {β : Type} (k : Nat) (aA aB : Int) (K : (List (List C)) → Option β) (L0 : (Int × Int × (List (List C))) → Option β) (v : Int × Int × (List (List C))) : Option β := Yb.m0 k aA aB K L0 v (ZA (Yb.l1 k K) k)
noncomputable def Yb.m {β : Type} (k : Nat) (a0 : List (List C)) (a1 : Int) (K : (List (List C)) → Option β) (F : (Int → Int → (Int × Int × (List (List C))) → Option β)) : Option β :=
  F a1 20 (0, 20, a0)
noncomputable def Yb.g {β : Type} (k : Nat) (a0 : List (List C)) (a1 : Int) (K : (List (List C)) → Option β) : Option β :=
  ZA (Yb.l0 k a1 20 K) k (0, 20, a0)
noncomputable def Yb.t (k : Nat) (a0 : List (List C)) (a1 : Int) : Option ((List (List C))) := Yb.g k a0 a1 (fun z0 => some z0)
noncomputable def Yb.f {β : Type} (k : Nat) (a0 : List (List C)) (a1 : Int) (K : (List (List C)) → Option β) : Option β := bd1 (Yb.t k a0 a1) K
noncomputable def Yb.e (k : Nat) : Zj := ent [.own false 27 [.o], .d .n, .fn 32 []] [] [.o] [] false (Yb.t k)
noncomputable def Yb.p (k : Nat) : Pro := ⟨Try.prog, [(81, Yc.e k), (82, Ya.e k)], Zv [(2, kp [0, 1, 2, 6, 7, 8]), (7, kp [0, 1, 2, 6]), (9, kp [0, 1, 2, 6, 7, 8])] false [], k⟩
noncomputable def Yb.d (k : Nat) (a0 : List (List C)) (a1 : Int) : Ex → St → Option ((List (List C))) := (Yb.p k).fin Try.f60 [.own false [.own a0], .d (.int .i64 a1), .d (.fn 32 [])] [] [.o]
noncomputable def Yb.s0 (aA aB : Int) (v : Int × Int × (List (List C))) : St :=
  match v with
  | (aJ, aK, bA) => ZaA 63 [(0, .row 0), (1, .d false (.int .i64 aA)), (2, .d false (.fn 32 [])), (6, .d true (.int .i64 aB)), (7, .d true (.int .i64 aJ)), (8, .d true (.int .i64 aK))] [.row (some 0) false 27 bA]
noncomputable def Yb.r0 (k : Nat) (a0 : List (List C)) (a1 aA aB : Int) (n : Nat) (v : Int × Int × (List (List C))) : Option ((List (List C))) := (Yb.p k).lp (ZI Try.f60) 2 [1, 1, 0, 0] (Yb.d k a0 a1) n (Yb.s0 aA aB v)
noncomputable def Yb.s1 (v : Int × Int × (List (List C))) : St :=
  match v with
  | (aP, aO, aR) => ZaA 63 [(0, .row 0), (1, .d false (.int .i64 aP)), (2, .d false (.fn 32 [])), (6, .d true (.int .i64 aO))] [.row (some 0) false 27 aR]
noncomputable def Yb.c1 (k : Nat) (a0 : List (List C)) (a1 : Int) : Ex → St → Option ((List (List C))) := (Yb.p k).ct (ZI Try.f60) [1, 1, 1, 1, 0] (Yb.d k a0 a1)
noncomputable def Yb.r1 (k : Nat) (a0 : List (List C)) (a1 : Int) (n : Nat) (v : Int × Int × (List (List C))) : Option ((List (List C))) := (Yb.p k).lp (ZI Try.f60) 7 [1, 1, 1, 1, 0] (Yb.d k a0 a1) n (Yb.s1 v)
noncomputable def Yb.s2 (aN aT : Int) (v : Int × Int × (List (List C))) : St :=
  match v with
  | (bK, aQ, v2_4) => ZaA 63 [(0, .row 0), (1, .d false (.int .i64 aN)), (2, .d false (.fn 32 [])), (6, .d true (.int .i64 aT)), (7, .d true (.int .i64 bK)), (8, .d true (.int .i64 aQ))] [.row (some 0) false 27 v2_4]
noncomputable def Yb.r2 (k : Nat) (a0 : List (List C)) (a1 aN aT : Int) (L1 : St → Option ((List (List C)))) (n : Nat) (v : Int × Int × (List (List C))) : Option ((List (List C))) := (Yb.p k).lp (codeAt [1, 1, 1, 1, 0, 0] (ZI Try.f60)) 9 [1, 0, 1, 0, 0] (backK ((Yb.p k).h.H 7) L1 (Yb.c1 k a0 a1)) n (Yb.s2 aN aT v)
theorem Yb.l2_eq (k : Nat) (a0 : List (List C)) (a1 aN aT : Int) (L1 : St → Option ((List (List C)))) : ∀ n v, Yb.r2 k a0 a1 aN aT L1 n v = ZA (Yb.l2 k aN aT (fun v => L1 (Yb.s1 v)) (fun z0 => some z0)) n v :=
  Zz (Yb.s2 aN aT) _ fun L2 v => by obtain ⟨bK, aQ, v2_4⟩ := v; kernel_rfl
theorem Yb.l1_eq (k : Nat) (a0 : List (List C)) (a1 : Int) : ∀ n v, Yb.r1 k a0 a1 n v = ZA (Yb.l1 k (fun z0 => some z0)) n v :=
  Zz (Yb.s1) _ fun L1 v => by obtain ⟨aP, aO, aR⟩ := v; exact Eq.trans (b := Yb.m1 k (fun z0 => some z0) (fun v => L1 (Yb.s1 v)) (aP, aO, aR) (fun aN aT => Yb.r2 k a0 a1 aN aT L1 k)) (by kernel_rfl) (congrArg (Yb.m1 k (fun z0 => some z0) (fun v => L1 (Yb.s1 v)) (aP, aO, aR)) (funext fun aN => funext fun aT => funext fun v => Yb.l2_eq k a0 a1 aN aT L1 k v))
theorem Yb.l0_eq (k : Nat) (a0 : List (List C)) (a1 aA aB : Int) : ∀ n v, Yb.r0 k a0 a1 aA aB n v = ZA (Yb.l0 k aA aB (fun z0 => some z0)) n v :=
  Zz (Yb.s0 aA aB) _ fun L0 v => by obtain ⟨aJ, aK, bA⟩ := v; exact Eq.trans (b := Yb.m0 k aA aB (fun z0 => some z0) (fun v => L0 (Yb.s0 aA aB v)) (aJ, aK, bA) (Yb.r1 k a0 a1 k)) (by kernel_rfl) (congrArg (Yb.m0 k aA aB (fun z0 => some z0) (fun v => L0 (Yb.s0 aA aB v)) (aJ, aK, bA)) (funext fun v => Yb.l1_eq k a0 a1 k v))
theorem Yb.ok (k : Nat) : Zf Try.prog 60 (Yb.e k) := Zk (Yb.p k) mix tyok Try.func60 ⟨Yc.ok k, Ya.ok k⟩ (by kernel_rfl) (fun a0 a1 => Eq.trans (b := Yb.m k a0 a1 (fun z0 => some z0) (fun aA aB => Yb.r0 k a0 a1 aA aB k)) (by kernel_rfl) (congrArg (Yb.m k a0 a1 (fun z0 => some z0)) (funext fun aA => funext fun aB => funext fun v => Yb.l0_eq k a0 a1 aA aB k v) :))
noncomputable def Yh.g {β : Type} (k : Nat) (a0 : List (List C)) (K : (List (List C)) → Option β) : Option β :=
  Yb.f k a0 (a0.length : Int) (fun y367 => Zd (y367.length = a0.length) (K y367))
noncomputable def Yh.t (k : Nat) (a0 : List (List C)) : Option ((List (List C))) := Yh.g k a0 (fun z0 => some z0)
noncomputable def Yh.f {β : Type} (k : Nat) (a0 : List (List C)) (K : (List (List C)) → Option β) : Option β := bd1 (Yh.t k a0) K
noncomputable def Yh.e (k : Nat) : Zj := ent [.own false 27 [.o], .fn 32 []] [] [.o] [] false (Yh.t k)
noncomputable def Yh.p (k : Nat) : Pro := ⟨Try.prog, [(60, Yb.e k)], Zv [] false [], k⟩
theorem Yh.ok (k : Nat) : Zf Try.prog 31 (Yh.e k) := Zk (Yh.p k) mix tyok Try.func31 (Yb.ok k) (by kernel_rfl) (fun a0 => by show _ = _; kernel_rfl)
noncomputable def YZ.g {β : Type} (k : Nat) (aC aD aL aM : Int) (K : Bool → Option β) : Option β :=
  K ((aC : Int) == aL)
noncomputable def YZ.t (k : Nat) (aC aD aL aM : Int) : Option (Bool) := YZ.g k aC aD aL aM (fun z0 => some z0)
noncomputable def YZ.e (k : Nat) : Zj := ent [.agg [.n, .n], .agg [.n, .n]] [1] [.b] [4] false (YZ.t k)
noncomputable def YZ.p (k : Nat) : Pro := ⟨Try.prog, [], Zv [] false [], k⟩
theorem YZ.ok (k : Nat) : Zf Try.prog 35 (YZ.e k) := Zk (YZ.p k) mix tyok Try.func35 trivial (by kernel_rfl) (fun aC aD aL aM => by show _ = _; kernel_rfl)
noncomputable def Yf.t (k : Nat) (xs : List (List C)) : Option (List (List C)) := compK (fun s u => match s, u with | [.int .i64 x0, .int .i64 x1], [.int .i64 y0, .int .i64 y1] => YZ.t k x0 x1 y0 y1 | _, _ => none) xs
noncomputable def Yf.f {β : Type} (k : Nat) (xs : List (List C)) (K : (List (List C)) → Option β) : Option β :=
  match Yf.t k xs with
  | some z0 => K z0
  | none => none
noncomputable def Yf.run (k : Nat) : {β : Type} → List A → ((List (List C)) → Option β) → Option β := fun {β} l K =>
  match l with
  | [.own false [.own xs], .d (.fn g [])] => bif g == 35 then Yf.f k xs K else none
  | _ => none
noncomputable def Yf.e (k : Nat) : Zj := { modes := [(.own, 0)], rts := [27], al := false, run := fun _ _ => none, lib := some ⟨[true, false], 27, Yf.run k⟩ }
set_option maxHeartbeats 8000000 in
set_option maxRecDepth 1000000 in
theorem Yf.raw2 {P : Program} (mixed : P.follows .mixedOrders = true) (hf : P.funcs[34]? = some Try.f34) (t0 : P.underlying 0 = some (.tuple #[])) (a0 : ∀ w, (isAgg 0).run P w = .ok false w) (z0 : ∀ w, (Go.sizeOf 0).run P w = .ok 1 w) (v0 : ∀ w, (zeroValue 0).run P w = .ok (.tuple #[]) w)
   (t3 : P.underlying 3 = some (.int .i64)) (a3 : ∀ w, (isAgg 3).run P w = .ok false w) (z3 : ∀ w, (Go.sizeOf 3).run P w = .ok 1 w) (v3 : ∀ w, (zeroValue 3).run P w = .ok (.int .i64 0) w) (t4 : P.underlying 4 = some .bool) (a4 : ∀ w, (isAgg 4).run P w = .ok false w) (z4 : ∀ w, (Go.sizeOf 4).run P w = .ok 1 w) (v4 : ∀ w, (zeroValue 4).run P w = .ok (.bool false) w)
   (tS : P.underlying 27 = some (.slice 66)) (aS : ∀ w, (isAgg 27).run P w = .ok false w) (zS : ∀ w, (Go.sizeOf 27).run P w = .ok 1 w) (vS : ∀ w, (zeroValue 27).run P w = .ok (.slice none 0 0) w) (tG : P.underlying 76 = some (.func #[66, 66] #[4] false)) (aG : ∀ w, (isAgg 76).run P w = .ok false w) (zG : ∀ w, (Go.sizeOf 76).run P w = .ok 1 w) (vG : ∀ w, (zeroValue 76).run P w = .ok .nilFunc w)
   (K : Nat) (hK : 0 < K) (zc : Array Value) (aE : ∀ w, (isAgg 66).run P w = .ok true w) (zE : ∀ w, (Go.sizeOf 66).run P w = .ok K w) (vE : ∀ w, (zeroValue 66).run P w = .ok (.agg zc) w)
   (b cap n : Nat) (c : Array Value) (e : TypeId) (w : World) (g : Nat) (lb : Array Value) (p : Nat → Bool) (hb : w.heap[b]? = some (.cells c e (0, 0))) (hc : c.size = cap * K) (hn : n ≤ cap) (hn2 : 2 ≤ n) (hm : n ≤ 1099511627776) (hp0 : p 0 = false)
   (h1 : ∀ t, t < n * K → ∃ v, c[t]? = some v ∧ v.oneCell' = true) (i0 : TypeInfo) (hi : P.info? 66 = some i0) (hz : i0.zero = some (.agg zc)) (hs : i0.size = K) (hzs : zc.size = K) (hz1 : ∀ v ∈ zc.toList, v.oneCell' = true)
   (eg : ∀ args w, (callFunc g args).run P w = .ok (.enter g args) w)
   (hpred : ∀ j, j + 1 < n → ∀ W, Gr b w W → ∀ us vs : List Value, us.length = K → vs.length = K → (∀ t u, us[t]? = some u → c[(j + 1) * K + t]? = some u) → (∀ t u, vs[t]? = some u → c[j * K + t]? = some u) → Calls P g (#[.agg us.toArray, .agg vs.toArray] ++ lb) W fun e w' => e = .returned (.bool (p (j + 1))) ∧ Gs W w') :
    Calls P 34 #[.slice (some ⟨b, 0, none⟩) n cap, .func (.func g) #[] lb] w fun ex w' => ex = .returned (.slice (some ⟨b, 0, none⟩) (cpt p n).length cap) ∧ Gr b w w' ∧ ∃ c' : Array Value, w'.heap[b]? = some (.cells c' e (0, 0)) ∧ c'.size = c.size ∧ ∀ m k : Nat, (cpt p n)[m]? = some k → ∀ t, t < K → c'[m * K + t]? = c[k * K + t]? := by
  have hHC : Hold (∀ j, j + 1 < n → ∀ W, Gr b w W → ∀ us vs : List Value, us.length = K → vs.length = K → (∀ t u, us[t]? = some u → c[(j + 1) * K + t]? = some u) → (∀ t u, vs[t]? = some u → c[j * K + t]? = some u) → Calls P g (#[.agg us.toArray, .agg vs.toArray] ++ lb) W fun e w' => e = .returned (.bool (p (j + 1))) ∧ Gs W w') := ⟨hpred⟩
  have hH1 : Hold (∀ t, t < n * K → ∃ v, c[t]? = some v ∧ v.oneCell' = true) := ⟨h1⟩
  have hHZ : Hold (i0.zero = some (.agg zc) ∧ i0.size = K ∧ zc.size = K ∧ (∀ v ∈ zc.toList, v.oneCell' = true) ∧ P.info? 66 = some i0) := ⟨hz, hs, hzs, hz1, hi⟩
  have hHB : Hold (w.heap[b]? = some (.cells c e (0, 0)) ∧ c.size = cap * K ∧ p 0 = false) := ⟨hb, hc, hp0⟩
  have hHK : Hold (0 < K) := ⟨hK⟩
  have hHn : Hold (2 ≤ n) := ⟨hn2⟩
  have hn3 : ¬ (n : Int) < 2 := by omega
  clear hpred h1 hz hs hzs hz1 hi hb hc hK hp0 hn2
  go_enter hf, Try.ntmps34
  go_wp2
  go_loopg [5] n (fun gg s5 wr => ∃ k : Nat, s5 = .int .i64 k ∧ k ≤ n ∧ n - k ≤ gg ∧ Hold (1 ≤ k ∧ Gs w wr ∧ ∀ j, j < k → p j = false))
  case atStart =>
    have := hHn.out
    exact ⟨1, rfl, by omega, by omega, ⟨by omega, ⟨Nat.le_refl _, rfl, rfl, rfl, fun _ _ => rfl⟩, fun j hj => by rw [show j = 0 from by omega]; exact hHB.out.2.2⟩⟩
  case round =>
    obtain ⟨k, rfl, hkn, hgg, hI0⟩ := hrel
    by_cases hlt : k < n
    · have hk1 := hI0.out.1
      have hG := hI0.out.2.1
      obtain ⟨k1, rfl⟩ : ∃ k1, k = k1 + 1 := ⟨k - 1, by omega⟩
      have hltz : ((k1 + 1 : Nat) : Int) < (n : Int) := by omega
      have hbr : wr.heap[b]? = some (.cells c e (0, 0)) := by
        rw [hG.same b (Array.getElem?_eq_some_iff.mp hHB.out.1).1]; exact hHB.out.1
      obtain ⟨ul, ug, u1⟩ := cut_cells hH1.out (i := k1 + 1) (m := 1) (by omega)
      generalize (c.toList.drop ((k1 + 1) * K)).take (1 * K) = us at ul ug u1
      obtain ⟨vl, vg, v1⟩ := cut_cells hH1.out (i := k1) (m := 1) (by omega)
      generalize (c.toList.drop (k1 * K)).take (1 * K) = vs at vl vg v1
      rw [Nat.one_mul] at ul ug vl vg
      have ug' : ∀ t u, us[t]? = some u → c[(k1 + 1) * K + t]? = some u := fun t u h => ((ug t u).mp h).2
      have vg' : ∀ t u, vs[t]? = some u → c[k1 * K + t]? = some u := fun t u h => ((vg t u).mp h).2
      have l1 : ∀ s : GsBy wr, Sem.run P (loadCellsFrom ⟨b, (k1 + 1) * K, none⟩ 0 K #[]) s.to = .ok us.toArray s.to := fun s => load_list P s.to _ us K ul (fun t u ht => by
        rw [Addr.add_lit, Zat ((s.ok.same b (Array.getElem?_eq_some_iff.mp hbr).1).trans hbr)]
        exact ug' t u ht)
      have l2 : ∀ s : GsBy wr, Sem.run P (loadCellsFrom ⟨b, k1 * K, none⟩ 0 K #[]) s.to = .ok vs.toArray s.to := fun s => load_list P s.to _ vs K vl (fun t u ht => by
        rw [Addr.add_lit, Zat ((s.ok.same b (Array.getElem?_eq_some_iff.mp hbr).1).trans hbr)]
        exact vg' t u ht)
      have hcall : ∀ s : GsBy wr, Calls P g (#[.agg us.toArray, .agg vs.toArray] ++ lb) s.to fun e w' => e = .returned (.bool (p (k1 + 1))) ∧ Gs s.to w' := fun s => hHC.out k1 hlt s.to ((hG.trans s.ok).gr b) us vs ul vl ug' vg'
      have hwp : IntKind.i64.wrap (k1 : Int) = (k1 : Int) := by rw [Z9 (by omega) (by omega)]
      have jz : (k1 : Int) + 1 < (n : Int) := by omega
      have jz1 : (k1 : Int) < (n : Int) := by omega
      have p0 : (0 : Int) ≤ (k1 : Int) + 1 := by omega
      have e0 : ((k1 : Int) + 1).toNat = k1 + 1 := by omega
      have W2 : Hold (Gs w wr ∧ us.length = K ∧ ∀ j, j < k1 + 1 → p j = false) := ⟨hG, ul, hI0.out.2.2⟩
      clear ug vg ug' vg' v1 hbr u1 hG hI0 hHn
      cases hq : p (k1 + 1) with
      | false =>
        rw [hq] at hcall
        go_wp2
        refine wp_region_gs (by assumption) (by kernel_rfl) ?_
        repeat (quiet_step (first | (go_at_fn g; refine calls_gs _ (hcall _))))
        refine wpQuiet_nil ?_
        intro _ hw'
        obtain ⟨sq, hw''⟩ := hw'
        subst hw''
        clear l1 l2 hcall
        go_wp2
        go_roundg (n - (k1 + 2))
        case measure => omega
        case rel =>
          obtain ⟨hG, -, hall⟩ := W2.out
          exact ⟨k1 + 2, by go_num, by omega, by omega, ⟨by omega, hG.trans sq.ok, fun j hj => by
            by_cases h : j = k1 + 1
            · rw [h]; exact hq
            · exact hall j (by omega)⟩⟩
      | true =>
        rw [hq] at hcall
        go_wp2
        refine wp_region_gs (by assumption) (by kernel_rfl) ?_
        repeat (quiet_step (first | (go_at_fn g; refine calls_gs _ (hcall _))))
        refine wpQuiet_nil ?_
        intro _ hw'
        obtain ⟨sq, hw''⟩ := hw'
        subst hw''
        clear l1 l2 hcall
        have HW1 : Hold (Gs w sq.to) := ⟨W2.out.1.trans sq.ok⟩
        have HQ : Hold (p (k1 + 1) = true ∧ ∀ j, j < k1 + 1 → p j = false) := ⟨hq, W2.out.2.2⟩
        clear W2 hq jz jz1 p0 e0 hwp ul vl
        go_wp2
        go_loopg [5, 7] n (fun gg s5 s7 w2 => ∃ i j : Nat, s5 = .int .i64 i ∧ s7 = .int .i64 ((j + 1 : Nat) : Int) ∧ k1 + 2 + j ≤ n ∧ n - (k1 + 2 + j) ≤ gg ∧ Hold (∃ ck : Array Value, DfK K b (k1 + 1) c e p w w2 i (k1 + 2 + j) ck ∧ ∀ t, (k1 + 1 + j) * K ≤ t → ck[t]? = c[t]?))
        case atStart =>
          refine ⟨k1 + 1, 0, by go_num, by go_num, by omega, by omega, ⟨c, ⟨by omega, HW1.out.gr b, ?_, rfl, ?_, fun _ _ => rfl, fun m k hk => ?_⟩, fun _ _ => rfl⟩⟩
          · rw [HW1.out.same b (Array.getElem?_eq_some_iff.mp hHB.out.1).1]; exact hHB.out.1
          · unfold kpt; simp
          · unfold kpt at hk
            simp only [Nat.sub_self, List.range'_zero, List.filter_nil, List.append_nil] at hk
            have := List.getElem?_eq_some_iff.mp hk
            obtain ⟨q, hq⟩ := this
            rw [List.getElem_range] at hq
            rw [hq]
            exact fun _ _ => rfl
        case round =>
          obtain ⟨i, j, rfl, rfl, hjn, hgg2, hI⟩ := hrel
          by_cases hlt2 : k1 + 2 + j < n
          · obtain ⟨ck, hD, hhi⟩ := hI.out
            have hbr := hD.at_
            obtain ⟨ul, ug, u1⟩ := cut_cells hH1.out (i := k1 + 2 + j) (m := 1) (by omega)
            generalize (c.toList.drop ((k1 + 2 + j) * K)).take (1 * K) = us at ul ug u1
            obtain ⟨vl, vg, v1⟩ := cut_cells hH1.out (i := k1 + 1 + j) (m := 1) (by omega)
            generalize (c.toList.drop ((k1 + 1 + j) * K)).take (1 * K) = vs at vl vg v1
            rw [Nat.one_mul] at ul ug vl vg
            have ug' : ∀ t u, us[t]? = some u → c[(k1 + 2 + j) * K + t]? = some u := fun t u h => ((ug t u).mp h).2
            have vg' : ∀ t u, vs[t]? = some u → c[(k1 + 1 + j) * K + t]? = some u := fun t u h => ((vg t u).mp h).2
            have eu : (k1 + 1) * K + (j + 1) * K = (k1 + 2 + j) * K := by rw [← Nat.add_mul]; congr 1; omega
            have ev : (k1 + 1) * K + j * K = (k1 + 1 + j) * K := by rw [← Nat.add_mul]
            have euv : (k1 + 1 + j) * K ≤ (k1 + 2 + j) * K := Nat.mul_le_mul_right K (by omega)
            have l1 : ∀ s : GsBy wr, Sem.run P (loadCellsFrom ⟨b, (k1 + 1) * K + (j + 1) * K, none⟩ 0 K #[]) s.to = .ok us.toArray s.to := fun s => load_list P s.to _ us K ul (fun t u ht => by
              rw [Addr.add_lit, Zat ((s.ok.same b (Array.getElem?_eq_some_iff.mp hbr).1).trans hbr), eu, hhi _ (by omega)]
              exact ug' t u ht)
            have l2 : ∀ s : GsBy wr, Sem.run P (loadCellsFrom ⟨b, (k1 + 1) * K + j * K, none⟩ 0 K #[]) s.to = .ok vs.toArray s.to := fun s => load_list P s.to _ vs K vl (fun t u ht => by
              rw [Addr.add_lit, Zat ((s.ok.same b (Array.getElem?_eq_some_iff.mp hbr).1).trans hbr), ev, hhi _ (by omega)]
              exact vg' t u ht)
            have hcall : ∀ s : GsBy wr, Calls P g (#[.agg us.toArray, .agg vs.toArray] ++ lb) s.to fun e w' => e = .returned (.bool (p (k1 + 2 + j))) ∧ Gs s.to w' := fun s => by
              have := hHC.out (k1 + 1 + j) (by omega) s.to (hD.gr.trans (s.ok.gr b)) us vs ul vl (fun t u h => by rw [show k1 + 1 + j + 1 = k1 + 2 + j from by omega]; exact ug' t u h) vg'
              rwa [show k1 + 1 + j + 1 = k1 + 2 + j from by omega] at this
            have hil : i < k1 + 2 + j ∧ k1 + 1 ≤ i := by have := kpt_le (p := p) hD.lt; rw [hD.len] at this; omega
            have hst : Hold (∀ (s : GsBy wr), s.to.heap[b]? = some (.cells ck e (0, 0)) ∧ Sem.run P (storeCells ⟨b, i * K, none⟩ us 0) s.to = .ok () (s.to.setCells b (i * K) us)) := ⟨fun s => by
              have hb5 := (s.ok.same b (Array.getElem?_eq_some_iff.mp hbr).1).trans hbr
              refine ⟨hb5, ?_⟩
              have hle : i * K + us.length ≤ ck.size := by
                rw [hD.size, hHB.out.2.1, ul, ← Nat.succ_mul]
                exact Nat.mul_le_mul_right K (by omega)
              have := run_storeCells_cells (P := P) b (i * K) us 0 s.to (fun t ht => by rw [Nat.add_zero, Zat hb5, Array.getElem?_eq_getElem (by omega)]; rfl) (fun t ht => Zax hb5 _) u1
              rwa [Nat.add_zero] at this⟩
            have W3 : Hold (us.length = K ∧ ∀ t, t < K → us[t]? = c[(k1 + 2 + j) * K + t]?) := ⟨ul, fun t ht => by
              obtain ⟨u, hu, _⟩ := hH1.out ((k1 + 2 + j) * K + t) (by
                have := Nat.mul_le_mul_right K (show k1 + 2 + j + 1 ≤ n from hlt2)
                rw [Nat.succ_mul] at this
                omega)
              rw [hu]
              exact (ug t u).mpr ⟨by omega, hu⟩⟩
            have hD2 : Hold (DfK K b (k1 + 1) c e p w wr i (k1 + 2 + j) ck ∧ ∀ t, (k1 + 1 + j) * K ≤ t → ck[t]? = c[t]?) := ⟨hD, hhi⟩
            have hil2 : Hold (i < k1 + 2 + j ∧ k1 + 1 ≤ i) := ⟨hil⟩
            clear hD hhi hbr ug vg ug' vg' u1 v1 eu ev euv hil hI hHC hH1 hHZ
            have hwp : IntKind.i64.wrap (j : Int) = (j : Int) := by rw [Z9 (by omega) (by omega)]
            have hjiN : (j : Int) + 1 < ((n - (k1 + 1) : Nat) : Int) := by omega
            have jz1N : (j : Int) < ((n - (k1 + 1) : Nat) : Int) := by omega
            have p0 : (0 : Int) ≤ (j : Int) + 1 := by omega
            have e0 : ((j : Int) + 1).toNat = j + 1 := by omega
            cases hq2 : p (k1 + 2 + j) with
            | true =>
              rw [hq2] at hcall
              go_wp2
              refine wp_region_gs (by assumption) (by kernel_rfl) ?_
              repeat (quiet_step (first | (go_at_fn g; refine calls_gs _ (hcall _))))
              refine wpQuiet_nil ?_
              intro _ hw'
              obtain ⟨sq2, hw''⟩ := hw'
              subst hw''
              clear l1 l2 hcall
              go_wp2
              go_roundg (n - (k1 + 3 + j))
              case measure => omega
              case rel =>
                obtain ⟨hD, hhi⟩ := hD2.out
                have hsz := Nat.mul_le_mul_right K (show k1 + 1 + j ≤ k1 + 1 + (j + 1) by omega)
                refine ⟨i, j + 1, rfl, by go_num, by omega, by omega, ⟨ck, ?_, fun t ht => hhi t (by omega)⟩⟩
                have hjK : (k1 + 2 + j + 1) * K = (k1 + 2 + j) * K + K := Nat.succ_mul ..
                exact ⟨by omega, hD.gr.trans (sq2.ok.gr b), (hst.out sq2).1, hD.size, by rw [show k1 + 2 + (j + 1) = k1 + 2 + j + 1 from by omega, kpt_skip hD.lt hq2]; exact hD.len, fun t ht => hD.high t (by rw [show k1 + 2 + (j + 1) = k1 + 2 + j + 1 from by omega] at ht; omega), by rw [show k1 + 2 + (j + 1) = k1 + 2 + j + 1 from by omega, kpt_skip hD.lt hq2]; exact hD.low⟩
            | false =>
              rw [hq2] at hcall
              have hin : (i : Int) < (n : Int) := by have := hil2.out; omega
              go_wp2
              refine wp_region_gs (by assumption) (by kernel_rfl) ?_
              repeat (quiet_step (first | (go_at_fn g; refine calls_gs _ (hcall _))))
              refine wpQuiet_nil ?_
              intro _ hw'
              obtain ⟨sq2, hw''⟩ := hw'
              subst hw''
              have l3 := l1 sq2
              have s3 := (hst.out sq2).2
              clear l1 l2 hcall
              go_wp2
              go_roundg (n - (k1 + 3 + j))
              case measure => omega
              case rel =>
                obtain ⟨hD, hhi⟩ := hD2.out
                obtain ⟨hul, hus⟩ := W3.out
                obtain ⟨hb3, ho3⟩ := Zaa us (i * K) (hst.out sq2).1
                have hij := hil2.out.1
                have hle : i * K + us.length ≤ ck.size := by
                  rw [hD.size, hHB.out.2.1, hul, ← Nat.succ_mul]
                  exact Nat.mul_le_mul_right K (by omega)
                have hiK : i * K + K ≤ (k1 + 2 + j) * K := by
                  rw [← Nat.succ_mul]
                  exact Nat.mul_le_mul_right K hij
                have hjK : (k1 + 2 + j + 1) * K = (k1 + 2 + j) * K + K := Nat.succ_mul ..
                refine ⟨i + 1, j + 1, by go_num, by go_num, by omega, by omega, ⟨putA ck (i * K) us, ?_, fun t ht => ?_⟩⟩
                · rw [show k1 + 2 + (j + 1) = k1 + 2 + j + 1 from by omega]
                  refine ⟨by have := hD.lt; omega, (hD.gr.trans (sq2.ok.gr b)).trans ho3.gr, hb3, by rw [Zab]; exact hD.size, by rw [kpt_keep hD.lt hq2, List.length_append, hD.len]; rfl, fun t ht => ?_, fun m k hk t ht => ?_⟩
                  · rw [Z6 _ _ _ _ hle, if_neg (by omega)]
                    exact hD.high t (by omega)
                  · rw [kpt_keep hD.lt hq2] at hk
                    by_cases hm : m < i
                    · have : m * K + K ≤ i * K := by
                        rw [← Nat.succ_mul]
                        exact Nat.mul_le_mul_right K hm
                      rw [Z6 _ _ _ _ hle, if_neg (by omega)]
                      exact hD.low m k (by rwa [List.getElem?_append_left (by rw [hD.len]; exact hm)] at hk) t ht
                    · rw [List.getElem?_append_right (by rw [hD.len]; omega), hD.len] at hk
                      have hm0 : m = i := by
                        by_cases h : m - i = 0
                        · omega
                        · rw [List.getElem?_eq_none (by simp; omega)] at hk; cases hk
                      subst hm0
                      simp at hk
                      subst hk
                      rw [Z6 _ _ _ _ hle, if_pos (by omega), Nat.add_sub_cancel_left]
                      exact hus t ht
                · rw [show k1 + 1 + (j + 1) = k1 + 2 + j from by omega] at ht
                  rw [Z6 _ _ _ _ hle, if_neg (by omega)]
                  exact hD.high t ht
          · obtain ⟨ck, hD, hhi⟩ := hI.out
            have hcs := hHB.out.2.1
            obtain ⟨hz, hs, hzs, hz1, hi⟩ := hHZ.out
            have hjn2 : n = k1 + 2 + j := by omega
            have hil : i < k1 + 2 + j ∧ k1 + 1 ≤ i := by have := kpt_le (p := p) hD.lt; rw [hD.len] at this; omega
            have hjc : i * K + (n - i) * K ≤ cap * K := by
              rw [← Nat.add_mul]
              exact Nat.mul_le_mul_right K (by omega)
            have hcl : ∀ ty, (Builtin.clear_ #[27] ty #[.slice (some ⟨b, i * K, none⟩) (n - i) (cap - i)]).run P wr = .ok (.tuple #[]) (wr.setCells b (i * K) (Builtin.zeroCells zc (n - i)).toList) :=
              fun ty => run_clear_cells tS hi hz hz1 (by omega) (fun t ht => by rw [Zat hD.at_]; change t < (n - i) * zc.size at ht; rw [hzs] at ht; rw [Array.getElem?_eq_getElem (by rw [hD.size, hcs]; omega)]; rfl) (fun t ht => Zax hD.at_ _)
            obtain ⟨hb4, ho4⟩ := Zaa (Builtin.zeroCells zc (n - i)).toList (i * K) hD.at_
            have hck : cpt p n = kpt p (k1 + 1) n := cpt_kpt (by omega) HQ.out.2 HQ.out.1
            have hfin : Hold (i = (cpt p n).length ∧ Gr b w (wr.setCells b (i * K) (Builtin.zeroCells zc (n - i)).toList) ∧ ∃ c' : Array Value, (wr.setCells b (i * K) (Builtin.zeroCells zc (n - i)).toList).heap[b]? = some (.cells c' e (0, 0)) ∧ c'.size = c.size ∧ ∀ m k : Nat, (cpt p n)[m]? = some k → ∀ t, t < K → c'[m * K + t]? = c[k * K + t]?) := by
              have hzl : (Builtin.zeroCells zc (n - i)).toList.length = (n - i) * K := by simp [Zaj, hzs]
              have hlen : i = (cpt p n).length := by rw [hck, hjn2]; exact hD.len.symm
              refine ⟨hlen, hD.gr.trans ho4.gr, _, hb4, by rw [Zab]; exact hD.size, fun m k hk t ht => ?_⟩
              have hmi : m < i := by rw [hlen]; exact (List.getElem?_eq_some_iff.mp hk).1
              have : m * K + K ≤ i * K := by
                rw [← Nat.succ_mul]
                exact Nat.mul_le_mul_right K hmi
              rw [Z6 _ _ _ _ (by rw [hzl, hD.size, hcs]; omega), if_neg (by omega)]
              exact hD.low m k (by rw [hck, hjn2] at hk; exact hk) t ht
            generalize (Builtin.zeroCells zc (n - i)).toList = zl at hcl hfin
            have hic : i < cap := by omega
            have hne : ¬ cap = i := by omega
            have hin0 : i < n := by omega
            have hin : (i : Int) ≤ (n : Int) := by omega
            have hji : ¬ (j : Int) + 1 < ((n - (k1 + 1) : Nat) : Int) := by omega
            clear hD hhi hcs hz hs hzs hz1 hi hb4 ho4 hck hjc hI hHC hH1 hHZ hjn2 hil
            go_wp2
            go_ret
            refine ⟨?_, hfin.out.2⟩
            rw [← hfin.out.1]
            rfl
    · obtain rfl : k = n := by omega
      have hltz : ¬ (k : Int) < (k : Int) := by omega
      obtain ⟨-, hG, hall⟩ := hI0.out
      have hfin : Hold (k = (cpt p k).length ∧ Gr b w wr ∧ ∃ c' : Array Value, wr.heap[b]? = some (.cells c' e (0, 0)) ∧ c'.size = c.size ∧ ∀ m q : Nat, (cpt p k)[m]? = some q → ∀ t, t < K → c'[m * K + t]? = c[q * K + t]?) := by
        rw [cpt_all hall]
        refine ⟨by simp, hG.gr b, c, by rw [hG.same b (Array.getElem?_eq_some_iff.mp hHB.out.1).1]; exact hHB.out.1, rfl, fun m q hk t ht => ?_⟩
        obtain ⟨hq1, hq2⟩ := List.getElem?_eq_some_iff.mp hk
        simp at hq2
        rw [hq2]
      clear hG hall hI0 hHC hH1 hHZ hHn
      go_wp2
      go_ret
      refine ⟨?_, hfin.out.2⟩
      rw [← hfin.out.1]
      rfl
set_option maxHeartbeats 4000000 in
set_option maxRecDepth 1000000 in
theorem Yf.raw0 (a : Option Addr) (n cap : Nat) (w : World) (g : Nat) (lb : Array Value) (h1 : n ≤ 1) (hn : n ≤ cap) : Calls Try.prog 34 #[.slice a n cap, .func (.func g) #[] lb] w fun ex w' => ex = .returned (.slice a n cap) ∧ Gs w w' := by
  have h2 : (n : Int) < 2 := by omega
  go_enter Try.func34, Try.ntmps34
  go_wp2
  go_ret
  exact ⟨rfl, Gs.refl _⟩
theorem Yf.raw : CpRaw Try.prog 34 2 := ⟨fun a n cap w g lb h1 hn => Yf.raw0 a n cap w g lb h1 hn, fun b cap n c e w g lb p h1 h2 h3 h4 h5 h6 h7 h8 h9 => by
  obtain ⟨i0, z, hi, hz, hzs⟩ := Zbr (P := Try.prog) (t := 66) (by kernel_rfl)
  have hsz : i0.size = 2 := by
    have : Try.prog.cellsOf 66 = 2 := by kernel_rfl
    simpa [Program.cellsOf, hi] using this
  have hzc : z.cells.size = 2 := by
    have h1 : (ZaM Try.prog 66).length = 2 := by kernel_rfl
    rw [← h1]
    simpa using (Zaq hzs).2.2.1.symm
  have hzv : ∀ w, (zeroValue 66).run Try.prog w = .ok z w := fun w => by simp [zeroValue, typeInfo, hi, hz]
  obtain ⟨zc, rfl⟩ : ∃ zc, z = .agg zc := by
    have h := (hzv w).symm.trans (Try.zeroValue66 w)
    injection h with h
    exact ⟨_, h⟩
  exact Yf.raw2 (by kernel_rfl) Try.func34 Try.underlying0 Try.isAgg0 Try.sizeOf0 Try.zeroValue0 Try.underlying3 Try.isAgg3 Try.sizeOf3 Try.zeroValue3 Try.underlying4 Try.isAgg4 Try.sizeOf4 Try.zeroValue4
    Try.underlying27 Try.isAgg27 Try.sizeOf27 Try.zeroValue27 Try.underlying76 Try.isAgg76 Try.sizeOf76 Try.zeroValue76 2 (by decide) zc Try.isAgg66 Try.sizeOf66 hzv b cap n c e w g lb p h1 h2 h3 h4 h5 h6 h7 i0 hi hz hsz hzc (Zaq hzs).2.1 h8 h9⟩
theorem Yf.ok (k : Nat) : Zf Try.prog 34 (Yf.e k) := compactK_ok tyok (ct := 27) (K := 2) (g := 35) (run := fun {β} => Yf.run k) (by kernel_rfl) (by decide) (enter_of Try.func34 (by kernel_rfl)) Yf.raw (by kernel_rfl) (YZ.ok k) (fun β aa K r h => by
  unfold Yf.run at h
  split at h
  · rename_i xs g
    cases hg : g == 35 with
    | false => rw [hg] at h; cases h
    | true =>
      rw [hg] at h
      obtain rfl := eq_of_beq hg
      simp only [cond_true] at h
      unfold Yf.f Yf.t at h
      split at h
      · rename_i z0 hz
        refine ⟨_, _, _, _, rfl, hz, h, rfl, rfl, fun s u q h => ?_⟩
        split at h
        · rename_i x0 x1 y0 y1
          exact (ent_run (YZ.e k) rfl (congrArg some h) rfl)
        · cases h
      · cases h
  · cases h)
noncomputable def YF.l0 {β : Type} (k : Nat) (aA : List (List D)) (aB : Int) (K : (List (List C)) → Option β) (L0 : (Int × (List (List C))) → Option β) (v : Int × (List (List C))) : Option β :=
  match v with
  | (aJ, aK) => bif (decide ((aJ : Int) < aB)) then (atR aA aJ [.n, .n, .n, .s, .n, .l, .l] fun x373 x376 x379 x382 x385 x388 x391 => (Zd (aK.length + ([[.d (.int .i64 x373), .d (.int .i64 0)]] : List (List C)).length ≤ Z8) (L0 (IntKind.wrap .i64 (aJ + 1), aK ++ ([[.d (.int .i64 x373), .d (.int .i64 0)]] : List (List C)))))) else (Yh.f k aK (fun y392 => Zd (y392.length = aK.length ∧ flatC y392 = true) (Yf.f k y392 (fun y393 => K y393))))
noncomputable def YF.m {β : Type} (k : Nat) (aC : ByteArray) (aD aI : Int) (aF aH : List (List D)) (K : (List (List C)) → Option β) (F : ((List (List D)) → Int → (Int × (List (List C))) → Option β)) : Option β :=
  YC.f k aH (fun y1 => F aF (aF.length : Int) (0, y1))
noncomputable def YF.g {β : Type} (k : Nat) (aC : ByteArray) (aD aI : Int) (aF aH : List (List D)) (K : (List (List C)) → Option β) : Option β :=
  YC.f k aH (fun y1 => ZA (YF.l0 k aF (aF.length : Int) K) k (0, y1))
noncomputable def YF.t (k : Nat) (aC : ByteArray) (aD aI : Int) (aF aH : List (List D)) : Option ((List (List C))) := YF.g k aC aD aI aF aH (fun z0 => some z0)
noncomputable def YF.f {β : Type} (k : Nat) (aC : ByteArray) (aD aI : Int) (aF aH : List (List D)) (K : (List (List C)) → Option β) : Option β := bd1 (YF.t k aC aD aI aF aH) K
noncomputable def YF.e (k : Nat) : Zj := ent [.agg [.s, .n, .n, .l, .l]] [1] [.o] [27] false (YF.t k)
noncomputable def YF.p (k : Nat) : Pro := ⟨Try.prog, [(30, YC.e k), (31, Yh.e k), (34, Yf.e k)], Zv [(3, kp [3, 10, 11, 12])] false [], k⟩
noncomputable def YF.d (k : Nat) (aC : ByteArray) (aD aI : Int) (aF aH : List (List D)) : Ex → St → Option ((List (List C))) := (YF.p k).fin Try.f8 [.agg [.str aC, .int .i64 aD, .int .i64 aI, .sl aF, .sl aH]] [1] [.o]
noncomputable def YF.s0 (aA : List (List D)) (aB : Int) (v : Int × (List (List C))) : St :=
  match v with
  | (aJ, aK) => ZaA 27 [(3, .row 0), (10, .d false (.sl aA)), (11, .d true (.int .i64 aB)), (12, .d true (.int .i64 aJ))] [.row none true 27 aK]
noncomputable def YF.r0 (k : Nat) (aC : ByteArray) (aD aI : Int) (aF aH aA : List (List D)) (aB : Int) (n : Nat) (v : Int × (List (List C))) : Option ((List (List C))) := (YF.p k).lp (ZI Try.f8) 3 [1, 1, 0, 1, 0] (YF.d k aC aD aI aF aH) n (YF.s0 aA aB v)
theorem YF.l0_eq (k : Nat) (aC : ByteArray) (aD aI : Int) (aF aH aA : List (List D)) (aB : Int) : ∀ n v, YF.r0 k aC aD aI aF aH aA aB n v = ZA (YF.l0 k aA aB (fun z0 => some z0)) n v :=
  Zz (YF.s0 aA aB) _ fun L0 v => by obtain ⟨aJ, aK⟩ := v; kernel_rfl
theorem YF.ok (k : Nat) : Zf Try.prog 8 (YF.e k) := Zk (YF.p k) mix tyok Try.func8 ⟨YC.ok k, Yh.ok k, Yf.ok k⟩ (by kernel_rfl) (fun aC aD aI aF aH => Eq.trans (b := YF.m k aC aD aI aF aH (fun z0 => some z0) (fun aA aB => YF.r0 k aC aD aI aF aH aA aB k)) (by kernel_rfl) (congrArg (YF.m k aC aD aI aF aH (fun z0 => some z0)) (funext fun aA => funext fun aB => funext fun v => YF.l0_eq k aC aD aI aF aH aA aB k v) :))
noncomputable def YW.g {β : Type} (k : Nat) (aC aD aL aM : Int) (K : Bool → Option β) : Option β :=
  bif ((aC : Int) != aL) then (K false) else (bif ((aD : Int) != aM) then (K false) else (K true))
noncomputable def YW.t (k : Nat) (aC aD aL aM : Int) : Option (Bool) := YW.g k aC aD aL aM (fun z0 => some z0)
noncomputable def YW.f {β : Type} (k : Nat) (aC aD aL aM : Int) (K : Bool → Option β) : Option β := bd1 (YW.t k aC aD aL aM) K
noncomputable def YW.e (k : Nat) : Zj := ent [.agg [.n, .n], .agg [.n, .n]] [1] [.b] [4] false (YW.t k)
noncomputable def YW.p (k : Nat) : Pro := ⟨Try.prog, [], Zv [] false [], k⟩
theorem YW.ok (k : Nat) : Zf Try.prog 36 (YW.e k) := Zk (YW.p k) mix tyok Try.func36 trivial (by kernel_rfl) (fun aC aD aL aM => by show _ = _; kernel_rfl)
noncomputable def Yv.l0 {β : Type} (k : Nat) (aA aB : List (List D)) (K : Bool → Option β) (L0 : Int → Option β) (v : Int) : Option β :=
  match v with
  | aJ => bif (decide ((aJ : Int) < (aA.length : Int))) then (atR aA aJ [.n, .n] fun x19 x22 => (atR aB aJ [.n, .n] fun x26 x29 => (YW.f k x19 x22 x26 x29 (fun y30 => bif (!y30) then (K false) else (L0 (IntKind.wrap .i64 (aJ + 1))))))) else (K true)
noncomputable def Yv.m {β : Type} (k : Nat) (a0 a1 : List (List D)) (K : Bool → Option β) (F : ((List (List D)) → (List (List D)) → Int → Option β)) : Option β :=
  bif (((a0.length : Int) : Int) != (a1.length : Int)) then (K false) else (F a0 a1 (0))
noncomputable def Yv.g {β : Type} (k : Nat) (a0 a1 : List (List D)) (K : Bool → Option β) : Option β :=
  bif (((a0.length : Int) : Int) != (a1.length : Int)) then (K false) else (ZA (Yv.l0 k a0 a1 K) k (0))
noncomputable def Yv.t (k : Nat) (a0 a1 : List (List D)) : Option (Bool) := Yv.g k a0 a1 (fun z0 => some z0)
noncomputable def Yv.f {β : Type} (k : Nat) (a0 a1 : List (List D)) (K : Bool → Option β) : Option β := bd1 (Yv.t k a0 a1) K
noncomputable def Yv.e (k : Nat) : Zj := ent [.d .l, .d .l] [1] [.b] [4] false (Yv.t k)
noncomputable def Yv.p (k : Nat) : Pro := ⟨Try.prog, [(36, YW.e k)], Zv [(4, kp [0, 1, 5])] false [], k⟩
noncomputable def Yv.d (k : Nat) (a0 a1 : List (List D)) : Ex → St → Option (Bool) := (Yv.p k).fin Try.f9 [.d (.sl a0), .d (.sl a1)] [1] [.b]
noncomputable def Yv.s0 (aA aB : List (List D)) (v : Int) : St :=
  match v with
  | aJ => ZaA 27 [(0, .d false (.sl aA)), (1, .d false (.sl aB)), (5, .d true (.int .i64 aJ))] []
noncomputable def Yv.r0 (k : Nat) (a0 a1 aA aB : List (List D)) (n : Nat) (v : Int) : Option (Bool) := (Yv.p k).lp (ZI Try.f9) 4 [1, 1, 0, 1, 0] (Yv.d k a0 a1) n (Yv.s0 aA aB v)
theorem Yv.l0_eq (k : Nat) (a0 a1 aA aB : List (List D)) : ∀ n v, Yv.r0 k a0 a1 aA aB n v = ZA (Yv.l0 k aA aB (fun z0 => some z0)) n v :=
  Zz (Yv.s0 aA aB) _ fun L0 v => by kernel_rfl
theorem Yv.ok (k : Nat) : Zf Try.prog 9 (Yv.e k) := Zk (Yv.p k) mix tyok Try.func9 (YW.ok k) (by kernel_rfl) (fun a0 a1 => Eq.trans (b := Yv.m k a0 a1 (fun z0 => some z0) (fun aA aB => Yv.r0 k a0 a1 aA aB k)) (by kernel_rfl) (congrArg (Yv.m k a0 a1 (fun z0 => some z0)) (funext fun aA => funext fun aB => funext fun v => Yv.l0_eq k a0 a1 aA aB k v) :))
noncomputable def Yu.l0 {β : Type} (k : Nat) (aA aB : List (List D)) (K : Bool → Option β) (L0 : Int → Option β) (v : Int) : Option β :=
  match v with
  | aJ => bif (decide ((aJ : Int) < (aA.length : Int))) then (atR aA aJ [.s] fun x12 => (atR aB aJ [.s] fun x16 => (bif (!(Zae x12 x16)) then (K false) else (L0 (IntKind.wrap .i64 (aJ + 1)))))) else (K true)
noncomputable def Yu.m {β : Type} (k : Nat) (a0 a1 : List (List D)) (K : Bool → Option β) (F : ((List (List D)) → (List (List D)) → Int → Option β)) : Option β :=
  bif (((a0.length : Int) : Int) != (a1.length : Int)) then (K false) else (F a0 a1 (0))
noncomputable def Yu.g {β : Type} (k : Nat) (a0 a1 : List (List D)) (K : Bool → Option β) : Option β :=
  bif (((a0.length : Int) : Int) != (a1.length : Int)) then (K false) else (ZA (Yu.l0 k a0 a1 K) k (0))
noncomputable def Yu.t (k : Nat) (a0 a1 : List (List D)) : Option (Bool) := Yu.g k a0 a1 (fun z0 => some z0)
noncomputable def Yu.f {β : Type} (k : Nat) (a0 a1 : List (List D)) (K : Bool → Option β) : Option β := bd1 (Yu.t k a0 a1) K
noncomputable def Yu.e (k : Nat) : Zj := ent [.d .l, .d .l] [1] [.b] [4] false (Yu.t k)
noncomputable def Yu.p (k : Nat) : Pro := ⟨Try.prog, [], Zv [(4, kp [0, 1, 5])] false [], k⟩
noncomputable def Yu.d (k : Nat) (a0 a1 : List (List D)) : Ex → St → Option (Bool) := (Yu.p k).fin Try.f97 [.d (.sl a0), .d (.sl a1)] [1] [.b]
noncomputable def Yu.s0 (aA aB : List (List D)) (v : Int) : St :=
  match v with
  | aJ => ZaA 26 [(0, .d false (.sl aA)), (1, .d false (.sl aB)), (5, .d true (.int .i64 aJ))] []
noncomputable def Yu.r0 (k : Nat) (a0 a1 aA aB : List (List D)) (n : Nat) (v : Int) : Option (Bool) := (Yu.p k).lp (ZI Try.f97) 4 [1, 1, 0, 1, 0] (Yu.d k a0 a1) n (Yu.s0 aA aB v)
theorem Yu.l0_eq (k : Nat) (a0 a1 aA aB : List (List D)) : ∀ n v, Yu.r0 k a0 a1 aA aB n v = ZA (Yu.l0 k aA aB (fun z0 => some z0)) n v :=
  Zz (Yu.s0 aA aB) _ fun L0 v => by kernel_rfl
theorem Yu.ok (k : Nat) : Zf Try.prog 97 (Yu.e k) := Zk (Yu.p k) mix tyok Try.func97 trivial (by kernel_rfl) (fun a0 a1 => Eq.trans (b := Yu.m k a0 a1 (fun z0 => some z0) (fun aA aB => Yu.r0 k a0 a1 aA aB k)) (by kernel_rfl) (congrArg (Yu.m k a0 a1 (fun z0 => some z0)) (funext fun aA => funext fun aB => funext fun v => Yu.l0_eq k a0 a1 aA aB k v) :))
noncomputable def Ym.l0 {β : Type} (k : Nat) (r_laws_eqValueS : (List (List D)) → (List (List D)) → (Bool → Option β) → Option β) (r_laws_eqValue : Int → ByteArray → Int → (List (List D)) → (List (List D)) → Int → ByteArray → Int → (List (List D)) → (List (List D)) → (Bool → Option β) → Option β) (aA : List (List D)) (aB : List (List D)) (K : Bool → Option β) (L0 : Int → Option β) (v : Int) : Option β :=
  match v with
  | aJ => bif (decide ((aJ : Int) < (aA.length : Int))) then (atR aA aJ [.n, .s, .n, .l, .l] fun x37 x40 x43 x46 x49 => (atR aB aJ [.n, .s, .n, .l, .l] fun x53 x56 x59 x62 x65 => (r_laws_eqValue x37 x40 x43 x46 x49 x53 x56 x59 x62 x65 (fun y66 => bif (!y66) then (K false) else (L0 (IntKind.wrap .i64 (aJ + 1))))))) else (K true)
noncomputable def Ym.m {β : Type} (k : Nat) (r_laws_eqValueS : (List (List D)) → (List (List D)) → (Bool → Option β) → Option β) (r_laws_eqValue : Int → ByteArray → Int → (List (List D)) → (List (List D)) → Int → ByteArray → Int → (List (List D)) → (List (List D)) → (Bool → Option β) → Option β) (a0 : List (List D)) (a1 : List (List D)) (K : Bool → Option β) (F : ((List (List D)) → (List (List D)) → Int → Option β)) : Option β :=
  bif (((a0.length : Int) : Int) != (a1.length : Int)) then (K false) else (F a0 a1 (0))
noncomputable def Ym.body {β : Type} (k : Nat) (r_laws_eqValueS : (List (List D)) → (List (List D)) → (Bool → Option β) → Option β) (r_laws_eqValue : Int → ByteArray → Int → (List (List D)) → (List (List D)) → Int → ByteArray → Int → (List (List D)) → (List (List D)) → (Bool → Option β) → Option β) (a0 : List (List D)) (a1 : List (List D)) (K : Bool → Option β) : Option β :=
  bif (((a0.length : Int) : Int) != (a1.length : Int)) then (K false) else (ZA (Ym.l0 k r_laws_eqValueS r_laws_eqValue a0 a1 K) k (0))
noncomputable def Yz.body {β : Type} (k : Nat) (r_laws_eqValueS : (List (List D)) → (List (List D)) → (Bool → Option β) → Option β) (r_laws_eqValue : Int → ByteArray → Int → (List (List D)) → (List (List D)) → Int → ByteArray → Int → (List (List D)) → (List (List D)) → (Bool → Option β) → Option β) (aC : Int) (aD : ByteArray) (aI : Int) (aF : List (List D)) (aH : List (List D)) (aL : Int) (aM : ByteArray) (bB : Int) (bC : List (List D)) (bD : List (List D)) (K : Bool → Option β) : Option β :=
  bif ((aC : Int) != aL) then (K false) else (bif (!(Zae aD aM)) then (K false) else (bif ((aI : Int) != bB) then (K false) else (Yu.f k aF bC (fun y17 => bif (!y17) then (K false) else (r_laws_eqValueS aH bD (fun y67 => bif (!y67) then (K false) else (K true)))))))
noncomputable def Ym.w {β : Type} (r : (List (List D)) → (List (List D)) → Option (Bool)) (a0 : List (List D)) (a1 : List (List D)) (K : Bool → Option β) : Option β := bd1 (r a0 a1) K
noncomputable def Yz.w {β : Type} (r : Int → ByteArray → Int → (List (List D)) → (List (List D)) → Int → ByteArray → Int → (List (List D)) → (List (List D)) → Option (Bool)) (aC : Int) (aD : ByteArray) (aI : Int) (aF : List (List D)) (aH : List (List D)) (aL : Int) (aM : ByteArray) (bB : Int) (bC : List (List D)) (bD : List (List D)) (K : Bool → Option β) : Option β := bd1 (r aC aD aI aF aH aL aM bB bC bD) K
noncomputable def Ym.all : Nat → ((List (List D)) → (List (List D)) → Option (Bool)) × (Int → ByteArray → Int → (List (List D)) → (List (List D)) → Int → ByteArray → Int → (List (List D)) → (List (List D)) → Option (Bool))
  | 0 => (fun _ _ => none, fun _ _ _ _ _ _ _ _ _ _ => none)
  | k + 1 => (fun r => (fun a0 a1 => Ym.body k (Ym.w r.1) (Yz.w r.2) a0 a1 (fun z0 => some z0), fun aC aD aI aF aH aL aM bB bC bD => Yz.body k (Ym.w r.1) (Yz.w r.2) aC aD aI aF aH aL aM bB bC bD (fun z0 => some z0))) (Ym.all k)
noncomputable def Ym.t (k : Nat) (a0 a1 : List (List D)) : Option (Bool) := (Ym.all k).1 a0 a1
noncomputable def Yz.t (k : Nat) (aC : Int) (aD : ByteArray) (aI : Int) (aF aH : List (List D)) (aL : Int) (aM : ByteArray) (bB : Int) (bC bD : List (List D)) : Option (Bool) := (Ym.all k).2 aC aD aI aF aH aL aM bB bC bD
noncomputable def Ym.f {β : Type} (k : Nat) (a0 a1 : List (List D)) (K : Bool → Option β) : Option β := Ym.w (Ym.t k) a0 a1 K
noncomputable def Yz.f {β : Type} (k : Nat) (aC : Int) (aD : ByteArray) (aI : Int) (aF aH : List (List D)) (aL : Int) (aM : ByteArray) (bB : Int) (bC bD : List (List D)) (K : Bool → Option β) : Option β := Yz.w (Yz.t k) aC aD aI aF aH aL aM bB bC bD K
noncomputable def Ym.g {β : Type} (k : Nat) (a0 a1 : List (List D)) (K : Bool → Option β) : Option β := Ym.body k (Ym.f k) (Yz.f k) a0 a1 K
theorem Ym.t_succ (k : Nat) (a0 a1 : List (List D)) : Ym.t (k + 1) a0 a1 = Ym.g k a0 a1 (fun z0 => some z0) := rfl
noncomputable def Yz.g {β : Type} (k : Nat) (aC : Int) (aD : ByteArray) (aI : Int) (aF aH : List (List D)) (aL : Int) (aM : ByteArray) (bB : Int) (bC bD : List (List D)) (K : Bool → Option β) : Option β := Yz.body k (Ym.f k) (Yz.f k) aC aD aI aF aH aL aM bB bC bD K
theorem Yz.t_succ (k : Nat) (aC : Int) (aD : ByteArray) (aI : Int) (aF aH : List (List D)) (aL : Int) (aM : ByteArray) (bB : Int) (bC bD : List (List D)) : Yz.t (k + 1) aC aD aI aF aH aL aM bB bC bD = Yz.g k aC aD aI aF aH aL aM bB bC bD (fun z0 => some z0) := rfl
noncomputable def Ym.e (k : Nat) : Zj := ent [.d .l, .d .l] [1] [.b] [4] false (Ym.t k)
noncomputable def Yz.e (k : Nat) : Zj := ent [.agg [.n, .s, .n, .l, .l], .agg [.n, .s, .n, .l, .l]] [1] [.b] [4] false (Yz.t k)
noncomputable def Ym.p (k : Nat) : Pro := ⟨Try.prog, [(83, Yz.e k)], Zv [(4, kp [0, 1, 5])] false [], k⟩
noncomputable def Ym.d (k : Nat) (a0 a1 : List (List D)) : Ex → St → Option (Bool) := (Ym.p k).fin Try.f101 [.d (.sl a0), .d (.sl a1)] [1] [.b]
noncomputable def Ym.s0 (aA aB : List (List D)) (v : Int) : St :=
  match v with
  | aJ => ZaA 27 [(0, .d false (.sl aA)), (1, .d false (.sl aB)), (5, .d true (.int .i64 aJ))] []
noncomputable def Ym.r0 (k : Nat) (a0 a1 aA aB : List (List D)) (n : Nat) (v : Int) : Option (Bool) := (Ym.p k).lp (ZI Try.f101) 4 [1, 1, 0, 1, 0] (Ym.d k a0 a1) n (Ym.s0 aA aB v)
theorem Ym.l0_eq (k : Nat) (a0 a1 aA aB : List (List D)) : ∀ n v, Ym.r0 k a0 a1 aA aB n v = ZA (Ym.l0 k (Ym.f k) (Yz.f k) aA aB (fun z0 => some z0)) n v :=
  Zz (Ym.s0 aA aB) _ fun L0 v => by kernel_rfl
noncomputable def Yz.p (k : Nat) : Pro := ⟨Try.prog, [(97, Yu.e k), (101, Ym.e k)], Zv [] false [], k⟩
theorem Ym.oks (k : Nat) : Zf Try.prog 101 (Ym.e k) ∧ Zf Try.prog 83 (Yz.e k) := by
  induction k with
  | zero => exact ⟨Zba Try.func101 (by kernel_rfl) (fun _ _ => rfl),
    Zba Try.func83 (by kernel_rfl) (fun _ _ _ _ _ _ _ _ _ _ => rfl)⟩
  | succ k ih => exact ⟨Zk (Ym.p k) mix tyok Try.func101 ih.2 (by kernel_rfl) (fun a0 a1 => Eq.trans (b := Ym.m k (Ym.f k) (Yz.f k) a0 a1 (fun z0 => some z0) (fun aA aB => Ym.r0 k a0 a1 aA aB k)) (by kernel_rfl) ((congrArg (Ym.m k (Ym.f k) (Yz.f k) a0 a1 (fun z0 => some z0)) (funext fun aA => funext fun aB => funext fun v => Ym.l0_eq k a0 a1 aA aB k v)).trans (Ym.t_succ k a0 a1).symm)),
    Zk (Yz.p k) mix tyok Try.func83 ⟨Yu.ok k, ih.1⟩ (by kernel_rfl) (fun aC aD aI aF aH aL aM bB bC bD => by show _ = _; kernel_rfl)⟩
theorem Yz.ok (k : Nat) : Zf Try.prog 83 (Yz.e k) := (Ym.oks k).2
noncomputable def YR.g {β : Type} (k : Nat) (aC aD aI : Int) (aF : ByteArray) (aH : Int) (aU aV : List (List D)) (aL aM bB : Int) (bC : ByteArray) (bD : Int) (a1_5 a1_6 : List (List D)) (K : Bool → Option β) : Option β :=
  bif ((aC : Int) != aL) then (K false) else (bif ((aD : Int) != aM) then (K false) else (Yz.f k aI aF aH aU aV bB bC bD a1_5 a1_6 (fun y68 => bif (!y68) then (K false) else (K true))))
noncomputable def YR.t (k : Nat) (aC aD aI : Int) (aF : ByteArray) (aH : Int) (aU aV : List (List D)) (aL aM bB : Int) (bC : ByteArray) (bD : Int) (a1_5 a1_6 : List (List D)) : Option (Bool) := YR.g k aC aD aI aF aH aU aV aL aM bB bC bD a1_5 a1_6 (fun z0 => some z0)
noncomputable def YR.f {β : Type} (k : Nat) (aC aD aI : Int) (aF : ByteArray) (aH : Int) (aU aV : List (List D)) (aL aM bB : Int) (bC : ByteArray) (bD : Int) (a1_5 a1_6 : List (List D)) (K : Bool → Option β) : Option β := bd1 (YR.t k aC aD aI aF aH aU aV aL aM bB bC bD a1_5 a1_6) K
noncomputable def YR.e (k : Nat) : Zj := ent [.agg [.n, .n, .n, .s, .n, .l, .l], .agg [.n, .n, .n, .s, .n, .l, .l]] [1] [.b] [4] false (YR.t k)
noncomputable def YR.p (k : Nat) : Pro := ⟨Try.prog, [(83, Yz.e k)], Zv [] false [], k⟩
theorem YR.ok (k : Nat) : Zf Try.prog 62 (YR.e k) := Zk (YR.p k) mix tyok Try.func62 (Yz.ok k) (by kernel_rfl) (fun aC aD aI aF aH aU aV aL aM bB bC bD a1_5 a1_6 => by show _ = _; kernel_rfl)
noncomputable def YB.l0 {β : Type} (k : Nat) (aA aB : List (List D)) (K : Bool → Option β) (L0 : Int → Option β) (v : Int) : Option β :=
  match v with
  | aJ => bif (decide ((aJ : Int) < (aA.length : Int))) then (atR aA aJ [.n, .n, .n, .s, .n, .l, .l] fun x73 x76 x79 x82 x85 x88 x91 => (atR aB aJ [.n, .n, .n, .s, .n, .l, .l] fun x95 x98 x101 x104 x107 x110 x113 => (YR.f k x73 x76 x79 x82 x85 x88 x91 x95 x98 x101 x104 x107 x110 x113 (fun y114 => bif (!y114) then (K false) else (L0 (IntKind.wrap .i64 (aJ + 1))))))) else (K true)
noncomputable def YB.m {β : Type} (k : Nat) (a0 a1 : List (List D)) (K : Bool → Option β) (F : ((List (List D)) → (List (List D)) → Int → Option β)) : Option β :=
  bif (((a0.length : Int) : Int) != (a1.length : Int)) then (K false) else (F a0 a1 (0))
noncomputable def YB.g {β : Type} (k : Nat) (a0 a1 : List (List D)) (K : Bool → Option β) : Option β :=
  bif (((a0.length : Int) : Int) != (a1.length : Int)) then (K false) else (ZA (YB.l0 k a0 a1 K) k (0))
noncomputable def YB.t (k : Nat) (a0 a1 : List (List D)) : Option (Bool) := YB.g k a0 a1 (fun z0 => some z0)
noncomputable def YB.f {β : Type} (k : Nat) (a0 a1 : List (List D)) (K : Bool → Option β) : Option β := bd1 (YB.t k a0 a1) K
noncomputable def YB.e (k : Nat) : Zj := ent [.d .l, .d .l] [1] [.b] [4] false (YB.t k)
noncomputable def YB.p (k : Nat) : Pro := ⟨Try.prog, [(62, YR.e k)], Zv [(4, kp [0, 1, 5])] false [], k⟩
noncomputable def YB.d (k : Nat) (a0 a1 : List (List D)) : Ex → St → Option (Bool) := (YB.p k).fin Try.f37 [.d (.sl a0), .d (.sl a1)] [1] [.b]
noncomputable def YB.s0 (aA aB : List (List D)) (v : Int) : St :=
  match v with
  | aJ => ZaA 27 [(0, .d false (.sl aA)), (1, .d false (.sl aB)), (5, .d true (.int .i64 aJ))] []
noncomputable def YB.r0 (k : Nat) (a0 a1 aA aB : List (List D)) (n : Nat) (v : Int) : Option (Bool) := (YB.p k).lp (ZI Try.f37) 4 [1, 1, 0, 1, 0] (YB.d k a0 a1) n (YB.s0 aA aB v)
theorem YB.l0_eq (k : Nat) (a0 a1 aA aB : List (List D)) : ∀ n v, YB.r0 k a0 a1 aA aB n v = ZA (YB.l0 k aA aB (fun z0 => some z0)) n v :=
  Zz (YB.s0 aA aB) _ fun L0 v => by kernel_rfl
theorem YB.ok (k : Nat) : Zf Try.prog 37 (YB.e k) := Zk (YB.p k) mix tyok Try.func37 (YR.ok k) (by kernel_rfl) (fun a0 a1 => Eq.trans (b := YB.m k a0 a1 (fun z0 => some z0) (fun aA aB => YB.r0 k a0 a1 aA aB k)) (by kernel_rfl) (congrArg (YB.m k a0 a1 (fun z0 => some z0)) (funext fun aA => funext fun aB => funext fun v => YB.l0_eq k a0 a1 aA aB k v) :))
noncomputable def YS.g {β : Type} (k : Nat) (aC : ByteArray) (aD aI : Int) (aF aH : List (List D)) (aL : ByteArray) (aM bB : Int) (bC bD : List (List D)) (K : Bool → Option β) : Option β :=
  bif (!(Zae aC aL)) then (K false) else (bif ((aD : Int) != aM) then (K false) else (bif ((aI : Int) != bB) then (K false) else (YB.f k aF bC (fun y115 => bif (!y115) then (K false) else (Yv.f k aH bD (fun y116 => bif (!y116) then (K false) else (K true)))))))
noncomputable def YS.t (k : Nat) (aC : ByteArray) (aD aI : Int) (aF aH : List (List D)) (aL : ByteArray) (aM bB : Int) (bC bD : List (List D)) : Option (Bool) := YS.g k aC aD aI aF aH aL aM bB bC bD (fun z0 => some z0)
noncomputable def YS.f {β : Type} (k : Nat) (aC : ByteArray) (aD aI : Int) (aF aH : List (List D)) (aL : ByteArray) (aM bB : Int) (bC bD : List (List D)) (K : Bool → Option β) : Option β := bd1 (YS.t k aC aD aI aF aH aL aM bB bC bD) K
noncomputable def YS.e (k : Nat) : Zj := ent [.agg [.s, .n, .n, .l, .l], .agg [.s, .n, .n, .l, .l]] [1] [.b] [4] false (YS.t k)
noncomputable def YS.p (k : Nat) : Pro := ⟨Try.prog, [(37, YB.e k), (9, Yv.e k)], Zv [] false [], k⟩
theorem YS.ok (k : Nat) : Zf Try.prog 10 (YS.e k) := Zk (YS.p k) mix tyok Try.func10 ⟨YB.ok k, Yv.ok k⟩ (by kernel_rfl) (fun aC aD aI aF aH aL aM bB bC bD => by show _ = _; kernel_rfl)
noncomputable def Yi.l0 {β : Type} (k : Nat) (K : ByteArray → Option β) (L0 : (Int × ByteArray) → Option β) (v : Int × ByteArray) : Option β :=
  match v with
  | (aA, aB) => bif (decide ((aA : Int) > 0)) then (let J0 := (⟨#[UInt8.ofNat (Int.toNat (IntKind.wrap .u8 (IntKind.wrap .i64 (48 + (Int.tmod aA 10)))))]⟩ : ByteArray); Zd ((10 : Int) ≠ 0) (Zd (((J0.size + aB.size : Nat) : Int) ≤ 9223372036854775807) (Zd ((10 : Int) ≠ 0) (L0 (IntKind.wrap .i64 (Int.tdiv aA 10), J0 ++ aB))))) else (Zd ((((⟨#[109]⟩ : ByteArray).size + aB.size : Nat) : Int) ≤ 9223372036854775807) (K ((⟨#[109]⟩ : ByteArray) ++ aB)))
noncomputable def Yi.m {β : Type} (k : Nat) (a0 : Int) (K : ByteArray → Option β) (F : ((Int × ByteArray) → Option β)) : Option β :=
  bif (decide ((a0 : Int) ≤ 0)) then (K (⟨#[109, 48]⟩ : ByteArray)) else (F (a0, (⟨#[]⟩ : ByteArray)))
noncomputable def Yi.g {β : Type} (k : Nat) (a0 : Int) (K : ByteArray → Option β) : Option β :=
  bif (decide ((a0 : Int) ≤ 0)) then (K (⟨#[109, 48]⟩ : ByteArray)) else (ZA (Yi.l0 k K) k (a0, (⟨#[]⟩ : ByteArray)))
noncomputable def Yi.t (k : Nat) (a0 : Int) : Option (ByteArray) := Yi.g k a0 (fun z0 => some z0)
noncomputable def Yi.f {β : Type} (k : Nat) (a0 : Int) (K : ByteArray → Option β) : Option β := bd1 (Yi.t k a0) K
noncomputable def Yi.e (k : Nat) : Zj := ent [.d .n] [1] [.s] [9] false (Yi.t k)
noncomputable def Yi.p (k : Nat) : Pro := ⟨Try.prog, [], Zv [(4, kp [3] [(0, .dat false)])] false [], k⟩
noncomputable def Yi.d (k : Nat) (a0 : Int) : Ex → St → Option (ByteArray) := (Yi.p k).fin Try.f53 [.d (.int .i64 a0)] [1] [.s]
noncomputable def Yi.s0 (v : Int × ByteArray) : St :=
  match v with
  | (aA, aB) => ZaA 20 [(0, .d false (.int .i64 aA)), (3, .d true (.str aB))] []
noncomputable def Yi.r0 (k : Nat) (a0 : Int) (n : Nat) (v : Int × ByteArray) : Option (ByteArray) := (Yi.p k).lp (ZI Try.f53) 4 [1, 1, 1, 0, 0] (Yi.d k a0) n (Yi.s0 v)
theorem Yi.l0_eq (k : Nat) (a0 : Int) : ∀ n v, Yi.r0 k a0 n v = ZA (Yi.l0 k (fun z0 => some z0)) n v :=
  Zz (Yi.s0) _ fun L0 v => by obtain ⟨aA, aB⟩ := v; kernel_rfl
theorem Yi.ok (k : Nat) : Zf Try.prog 53 (Yi.e k) := Zk (Yi.p k) mix tyok Try.func53 trivial (by kernel_rfl) (fun a0 => Eq.trans (b := Yi.m k a0 (fun z0 => some z0) (Yi.r0 k a0 k)) (by kernel_rfl) (congrArg (Yi.m k a0 (fun z0 => some z0)) (funext fun v => Yi.l0_eq k a0 k v) :))
noncomputable def Yn.l0 {β : Type} (k : Nat) (K : Int → (List (List C)) → Option β) (L0 : (Int × Int × (List (List C))) → Option β) (v : Int × Int × (List (List C))) : Option β :=
  match v with
  | (aA, aB, aJ) => bif (decide ((aB : Int) < (aJ.length : Int))) then (Yi.f k aA (fun y2 => Zd ((0 : Int) ≤ aB ∧ aB < (aJ.length : Int)) (Zd (Int.toNat aB < aJ.length) (L0 (IntKind.wrap .i64 (aA + 1), IntKind.wrap .i64 (aB + 1), aJ.modify (Int.toNat aB) fun c => Zs c 0 [.d (.str y2)]))))) else (K aA aJ)
noncomputable def Yn.m {β : Type} (k : Nat) (a0 : List (List C)) (a1 : Int) (K : Int → (List (List C)) → Option β) (F : ((Int × Int × (List (List C))) → Option β)) : Option β :=
  F (a1, 0, a0)
noncomputable def Yn.g {β : Type} (k : Nat) (a0 : List (List C)) (a1 : Int) (K : Int → (List (List C)) → Option β) : Option β :=
  ZA (Yn.l0 k K) k (a1, 0, a0)
noncomputable def Yn.t (k : Nat) (a0 : List (List C)) (a1 : Int) : Option (Int × (List (List C))) := Yn.g k a0 a1 (fun z0 z1 => some (z0, z1))
noncomputable def Yn.f {β : Type} (k : Nat) (a0 : List (List C)) (a1 : Int) (K : Int → (List (List C)) → Option β) : Option β := bd2 (Yn.t k a0 a1) K
noncomputable def Yn.e (k : Nat) : Zj := ent [.own false 59 [.o], .d .n] [1] [.n, .o] [3] false (Yn.t k)
noncomputable def Yn.p (k : Nat) : Pro := ⟨Try.prog, [(53, Yi.e k)], Zv [(2, kp [0, 5] [(1, .dat false)])] false [], k⟩
noncomputable def Yn.d (k : Nat) (a0 : List (List C)) (a1 : Int) : Ex → St → Option (Int × (List (List C))) := (Yn.p k).fin Try.f54 [.own false [.own a0], .d (.int .i64 a1)] [1] [.n, .o]
noncomputable def Yn.s0 (v : Int × Int × (List (List C))) : St :=
  match v with
  | (aA, aB, aJ) => ZaA 20 [(0, .row 0), (1, .d false (.int .i64 aA)), (5, .d true (.int .i64 aB))] [.row (some 0) false 59 aJ]
noncomputable def Yn.r0 (k : Nat) (a0 : List (List C)) (a1 : Int) (n : Nat) (v : Int × Int × (List (List C))) : Option (Int × (List (List C))) := (Yn.p k).lp (ZI Try.f54) 2 [1, 0, 1, 0] (Yn.d k a0 a1) n (Yn.s0 v)
theorem Yn.l0_eq (k : Nat) (a0 : List (List C)) (a1 : Int) : ∀ n v, Yn.r0 k a0 a1 n v = ZA (Yn.l0 k (fun z0 z1 => some (z0, z1))) n v :=
  Zz (Yn.s0) _ fun L0 v => by obtain ⟨aA, aB, aJ⟩ := v; kernel_rfl
theorem Yn.ok (k : Nat) : Zf Try.prog 54 (Yn.e k) := Zk (Yn.p k) mix tyok Try.func54 (Yi.ok k) (by kernel_rfl) (fun a0 a1 => Eq.trans (b := Yn.m k a0 a1 (fun z0 z1 => some (z0, z1)) (Yn.r0 k a0 a1 k)) (by kernel_rfl) (congrArg (Yn.m k a0 a1 (fun z0 z1 => some (z0, z1))) (funext fun v => Yn.l0_eq k a0 a1 k v) :))
noncomputable def Yg.l0 {β : Type} (k : Nat) (r_laws_markValueS : (List (List C)) → Int → (Int → (List (List C)) → Option β) → Option β) (K : Int → (List (List C)) → Option β) (L0 : (Int × Int × (List (List C))) → Option β) (v : Int × Int × (List (List C))) : Option β :=
  match v with
  | (aA, aB, aJ) => bif (decide ((aB : Int) < (aJ.length : Int))) then (Zd ((0 : Int) ≤ aB ∧ aB < (aJ.length : Int)) (Zd (Int.toNat aB < aJ.length) (Yi.f k (IntKind.wrap .i64 (aA + 1)) (fun y14 => let J3 := (aJ.modify (Int.toNat aB) fun c => Zs c 0 [.d (.int .i64 aA)]); let J2 := (J3.modify (Int.toNat aB) fun c => Zs c 1 [.d (.str y14)]); let J1 := (J2.modify (Int.toNat aB) fun c => Zs c 2 [.d (.int .i64 (IntKind.wrap .i64 ((IntKind.wrap .i64 (aA + 1)) + 1)))]); Zd ((0 : Int) ≤ aB ∧ aB < (J3.length : Int)) (Zd (Int.toNat aB < J3.length) (Zd ((0 : Int) ≤ aB ∧ aB < (J2.length : Int)) (Zd (Int.toNat aB < J2.length) (Zd ((0 : Int) ≤ aB ∧ aB < (J1.length : Int)) (ZaR J1 (Int.toNat aB) fun c15 => ZaJ (c15.drop 3) fun c16 r17 => cOwn c16 fun y18 => Yn.f k y18 (IntKind.wrap .i64 ((IntKind.wrap .i64 ((IntKind.wrap .i64 (aA + 1)) + 1)) + 1)) (fun y19 y20 => let J0 := (J1.modify (Int.toNat aB) fun r => r.set 3 (.own y20)); Zd ((0 : Int) ≤ aB ∧ aB < (J0.length : Int)) (ZaR J0 (Int.toNat aB) fun c21 => ZaJ (c21.drop 4) fun c22 r23 => cOwn c22 fun y24 => r_laws_markValueS y24 y19 (fun y25 y26 => L0 (y25, IntKind.wrap .i64 (aB + 1), J0.modify (Int.toNat aB) fun r => r.set 4 (.own y26)))))))))))))) else (K aA aJ)
noncomputable def Yg.m {β : Type} (k : Nat) (r_laws_markValueS : (List (List C)) → Int → (Int → (List (List C)) → Option β) → Option β) (a0 : List (List C)) (a1 : Int) (K : Int → (List (List C)) → Option β) (F : ((Int × Int × (List (List C))) → Option β)) : Option β :=
  F (a1, 0, a0)
noncomputable def Yg.body {β : Type} (k : Nat) (r_laws_markValueS : (List (List C)) → Int → (Int → (List (List C)) → Option β) → Option β) (a0 : List (List C)) (a1 : Int) (K : Int → (List (List C)) → Option β) : Option β :=
  ZA (Yg.l0 k r_laws_markValueS K) k (a1, 0, a0)
noncomputable def Yg.w {β : Type} (r : (List (List C)) → Int → Option (Int × (List (List C)))) (a0 : List (List C)) (a1 : Int) (K : Int → (List (List C)) → Option β) : Option β := bd2 (r a0 a1) K
noncomputable def Yg.all : Nat → ((List (List C)) → Int → Option (Int × (List (List C))))
  | 0 => (fun _ _ => none)
  | k + 1 => (fun r => (fun a0 a1 => Yg.body k (Yg.w r) a0 a1 (fun z0 z1 => some (z0, z1)))) (Yg.all k)
noncomputable def Yg.t (k : Nat) (a0 : List (List C)) (a1 : Int) : Option (Int × (List (List C))) := (Yg.all k) a0 a1
noncomputable def Yg.f {β : Type} (k : Nat) (a0 : List (List C)) (a1 : Int) (K : Int → (List (List C)) → Option β) : Option β := Yg.w (Yg.t k) a0 a1 K
noncomputable def Yg.g {β : Type} (k : Nat) (a0 : List (List C)) (a1 : Int) (K : Int → (List (List C)) → Option β) : Option β := Yg.body k (Yg.f k) a0 a1 K
theorem Yg.t_succ (k : Nat) (a0 : List (List C)) (a1 : Int) : Yg.t (k + 1) a0 a1 = Yg.g k a0 a1 (fun z0 z1 => some (z0, z1)) := rfl
noncomputable def Yg.e (k : Nat) : Zj := ent [.own false 60 [.o], .d .n] [1] [.n, .o] [3] false (Yg.t k)
noncomputable def Yg.p (k : Nat) : Pro := ⟨Try.prog, [(53, Yi.e k), (54, Yn.e k), (55, Yg.e k)], Zv [(2, kp [0, 5] [(1, .dat false)])] false [], k⟩
noncomputable def Yg.d (k : Nat) (a0 : List (List C)) (a1 : Int) : Ex → St → Option (Int × (List (List C))) := (Yg.p k).fin Try.f55 [.own false [.own a0], .d (.int .i64 a1)] [1] [.n, .o]
noncomputable def Yg.s0 (v : Int × Int × (List (List C))) : St :=
  match v with
  | (aA, aB, aJ) => ZaA 49 [(0, .row 0), (1, .d false (.int .i64 aA)), (5, .d true (.int .i64 aB))] [.row (some 0) false 60 aJ]
noncomputable def Yg.r0 (k : Nat) (a0 : List (List C)) (a1 : Int) (n : Nat) (v : Int × Int × (List (List C))) : Option (Int × (List (List C))) := (Yg.p k).lp (ZI Try.f55) 2 [1, 0, 1, 0] (Yg.d k a0 a1) n (Yg.s0 v)
theorem Yg.l0_eq (k : Nat) (a0 : List (List C)) (a1 : Int) : ∀ n v, Yg.r0 k a0 a1 n v = ZA (Yg.l0 k (Yg.f k) (fun z0 z1 => some (z0, z1))) n v :=
  Zz (Yg.s0) _ fun L0 v => by obtain ⟨aA, aB, aJ⟩ := v; kernel_rfl
theorem Yg.oks (k : Nat) : Zf Try.prog 55 (Yg.e k) := by
  induction k with
  | zero => exact Zba Try.func55 (by kernel_rfl) (fun _ _ => rfl)
  | succ k ih => exact Zk (Yg.p k) mix tyok Try.func55 ⟨Yi.ok k, Yn.ok k, ih⟩ (by kernel_rfl) (fun a0 a1 => Eq.trans (b := Yg.m k (Yg.f k) a0 a1 (fun z0 z1 => some (z0, z1)) (Yg.r0 k a0 a1 k)) (by kernel_rfl) ((congrArg (Yg.m k (Yg.f k) a0 a1 (fun z0 z1 => some (z0, z1))) (funext fun v => Yg.l0_eq k a0 a1 k v)).trans (Yg.t_succ k a0 a1).symm))
theorem Yg.ok (k : Nat) : Zf Try.prog 55 (Yg.e k) := (Yg.oks k)
noncomputable def Yr.l0 {β : Type} (k : Nat) (K : Int → (List (List C)) → Option β) (L0 : (Int × Int × (List (List C))) → Option β) (v : Int × Int × (List (List C))) : Option β :=
  match v with
  | (aA, aB, aJ) => bif (decide ((aB : Int) < (aJ.length : Int))) then (let J7 := (aJ.modify (Int.toNat aB) fun c => Zs c 0 [.d (.int .i64 aA)]); let J4 := (J7.modify (Int.toNat aB) fun c => Zs c 1 [.d (.int .i64 (IntKind.wrap .i64 (aA + 1)))]); let J6 := (IntKind.wrap .i64 ((IntKind.wrap .i64 ((IntKind.wrap .i64 (aA + 1)) + 1)) + 1)); Zd ((0 : Int) ≤ aB ∧ aB < (aJ.length : Int)) (Zd (Int.toNat aB < aJ.length) (Zd ((0 : Int) ≤ aB ∧ aB < (J7.length : Int)) (Zd (Int.toNat aB < J7.length) (Zd ((0 : Int) ≤ aB ∧ aB < (J4.length : Int)) (Zd (Int.toNat aB < J4.length) (Yi.f k J6 (fun y14 => let J3 := (J4.modify (Int.toNat aB) fun c => Zs c 2 [.d (.int .i64 (IntKind.wrap .i64 ((IntKind.wrap .i64 (aA + 1)) + 1)))]); let J2 := (J3.modify (Int.toNat aB) fun c => Zs c 3 [.d (.str y14)]); let J5 := (IntKind.wrap .i64 (J6 + 1)); let J1 := (J2.modify (Int.toNat aB) fun c => Zs c 4 [.d (.int .i64 J5)]); Zd ((0 : Int) ≤ aB ∧ aB < (J3.length : Int)) (Zd (Int.toNat aB < J3.length) (Zd ((0 : Int) ≤ aB ∧ aB < (J2.length : Int)) (Zd (Int.toNat aB < J2.length) (Zd ((0 : Int) ≤ aB ∧ aB < (J1.length : Int)) (ZaR J1 (Int.toNat aB) fun c15 => ZaJ (c15.drop 5) fun c16 r17 => cOwn c16 fun y18 => Yn.f k y18 (IntKind.wrap .i64 (J5 + 1)) (fun y19 y20 => let J0 := (J1.modify (Int.toNat aB) fun r => r.set 5 (.own y20)); Zd ((0 : Int) ≤ aB ∧ aB < (J0.length : Int)) (ZaR J0 (Int.toNat aB) fun c21 => ZaJ (c21.drop 6) fun c22 r23 => cOwn c22 fun y24 => Yg.f k y24 y19 (fun y25 y26 => L0 (y25, IntKind.wrap .i64 (aB + 1), J0.modify (Int.toNat aB) fun r => r.set 6 (.own y26)))))))))))))))))) else (K aA aJ)
noncomputable def Yr.m {β : Type} (k : Nat) (a0 : List (List C)) (a1 : Int) (K : Int → (List (List C)) → Option β) (F : ((Int × Int × (List (List C))) → Option β)) : Option β :=
  F (a1, 0, a0)
noncomputable def Yr.g {β : Type} (k : Nat) (a0 : List (List C)) (a1 : Int) (K : Int → (List (List C)) → Option β) : Option β :=
  ZA (Yr.l0 k K) k (a1, 0, a0)
noncomputable def Yr.t (k : Nat) (a0 : List (List C)) (a1 : Int) : Option (Int × (List (List C))) := Yr.g k a0 a1 (fun z0 z1 => some (z0, z1))
noncomputable def Yr.f {β : Type} (k : Nat) (a0 : List (List C)) (a1 : Int) (K : Int → (List (List C)) → Option β) : Option β := bd2 (Yr.t k a0 a1) K
noncomputable def Yr.e (k : Nat) : Zj := ent [.own false 29 [.o], .d .n] [1] [.n, .o] [3] false (Yr.t k)
noncomputable def Yr.p (k : Nat) : Pro := ⟨Try.prog, [(53, Yi.e k), (54, Yn.e k), (55, Yg.e k)], Zv [(2, kp [0, 5] [(1, .dat false)])] false [], k⟩
noncomputable def Yr.d (k : Nat) (a0 : List (List C)) (a1 : Int) : Ex → St → Option (Int × (List (List C))) := (Yr.p k).fin Try.f38 [.own false [.own a0], .d (.int .i64 a1)] [1] [.n, .o]
noncomputable def Yr.s0 (v : Int × Int × (List (List C))) : St :=
  match v with
  | (aA, aB, aJ) => ZaA 68 [(0, .row 0), (1, .d false (.int .i64 aA)), (5, .d true (.int .i64 aB))] [.row (some 0) false 29 aJ]
noncomputable def Yr.r0 (k : Nat) (a0 : List (List C)) (a1 : Int) (n : Nat) (v : Int × Int × (List (List C))) : Option (Int × (List (List C))) := (Yr.p k).lp (ZI Try.f38) 2 [1, 0, 1, 0] (Yr.d k a0 a1) n (Yr.s0 v)
theorem Yr.l0_eq (k : Nat) (a0 : List (List C)) (a1 : Int) : ∀ n v, Yr.r0 k a0 a1 n v = ZA (Yr.l0 k (fun z0 z1 => some (z0, z1))) n v :=
  Zz (Yr.s0) _ fun L0 v => by obtain ⟨aA, aB, aJ⟩ := v; kernel_rfl
theorem Yr.ok (k : Nat) : Zf Try.prog 38 (Yr.e k) := Zk (Yr.p k) mix tyok Try.func38 ⟨Yi.ok k, Yn.ok k, Yg.ok k⟩ (by kernel_rfl) (fun a0 a1 => Eq.trans (b := Yr.m k a0 a1 (fun z0 z1 => some (z0, z1)) (Yr.r0 k a0 a1 k)) (by kernel_rfl) (congrArg (Yr.m k a0 a1 (fun z0 z1 => some (z0, z1))) (funext fun v => Yr.l0_eq k a0 a1 k v) :))
noncomputable def Yp.l0 {β : Type} (k : Nat) (K : Int → (List (List C)) → Option β) (L0 : (Int × Int × (List (List C))) → Option β) (v : Int × Int × (List (List C))) : Option β :=
  match v with
  | (aA, aB, aJ) => bif (decide ((aB : Int) < (aJ.length : Int))) then (let J0 := (aJ.modify (Int.toNat aB) fun c => Zs c 0 [.d (.int .i64 aA)]); Zd ((0 : Int) ≤ aB ∧ aB < (aJ.length : Int)) (Zd (Int.toNat aB < aJ.length) (Zd ((0 : Int) ≤ aB ∧ aB < (J0.length : Int)) (Zd (Int.toNat aB < J0.length) (L0 (IntKind.wrap .i64 ((IntKind.wrap .i64 (aA + 1)) + 1), IntKind.wrap .i64 (aB + 1), J0.modify (Int.toNat aB) fun c => Zs c 1 [.d (.int .i64 (IntKind.wrap .i64 (aA + 1)))])))))) else (K aA aJ)
noncomputable def Yp.m {β : Type} (k : Nat) (a0 : List (List C)) (a1 : Int) (K : Int → (List (List C)) → Option β) (F : ((Int × Int × (List (List C))) → Option β)) : Option β :=
  F (a1, 0, a0)
noncomputable def Yp.g {β : Type} (k : Nat) (a0 : List (List C)) (a1 : Int) (K : Int → (List (List C)) → Option β) : Option β :=
  ZA (Yp.l0 k K) k (a1, 0, a0)
noncomputable def Yp.t (k : Nat) (a0 : List (List C)) (a1 : Int) : Option (Int × (List (List C))) := Yp.g k a0 a1 (fun z0 z1 => some (z0, z1))
noncomputable def Yp.f {β : Type} (k : Nat) (a0 : List (List C)) (a1 : Int) (K : Int → (List (List C)) → Option β) : Option β := bd2 (Yp.t k a0 a1) K
noncomputable def Yp.e (k : Nat) : Zj := ent [.own false 27 [.o], .d .n] [1] [.n, .o] [3] false (Yp.t k)
noncomputable def Yp.p (k : Nat) : Pro := ⟨Try.prog, [], Zv [(2, kp [0, 5] [(1, .dat false)])] false [], k⟩
noncomputable def Yp.d (k : Nat) (a0 : List (List C)) (a1 : Int) : Ex → St → Option (Int × (List (List C))) := (Yp.p k).fin Try.f12 [.own false [.own a0], .d (.int .i64 a1)] [1] [.n, .o]
noncomputable def Yp.s0 (v : Int × Int × (List (List C))) : St :=
  match v with
  | (aA, aB, aJ) => ZaA 27 [(0, .row 0), (1, .d false (.int .i64 aA)), (5, .d true (.int .i64 aB))] [.row (some 0) false 27 aJ]
noncomputable def Yp.r0 (k : Nat) (a0 : List (List C)) (a1 : Int) (n : Nat) (v : Int × Int × (List (List C))) : Option (Int × (List (List C))) := (Yp.p k).lp (ZI Try.f12) 2 [1, 0, 1, 0] (Yp.d k a0 a1) n (Yp.s0 v)
theorem Yp.l0_eq (k : Nat) (a0 : List (List C)) (a1 : Int) : ∀ n v, Yp.r0 k a0 a1 n v = ZA (Yp.l0 k (fun z0 z1 => some (z0, z1))) n v :=
  Zz (Yp.s0) _ fun L0 v => by obtain ⟨aA, aB, aJ⟩ := v; kernel_rfl
theorem Yp.ok (k : Nat) : Zf Try.prog 12 (Yp.e k) := Zk (Yp.p k) mix tyok Try.func12 trivial (by kernel_rfl) (fun a0 a1 => Eq.trans (b := Yp.m k a0 a1 (fun z0 z1 => some (z0, z1)) (Yp.r0 k a0 a1 k)) (by kernel_rfl) (congrArg (Yp.m k a0 a1 (fun z0 z1 => some (z0, z1))) (funext fun v => Yp.l0_eq k a0 a1 k v) :))
noncomputable def YJ.g {β : Type} (k : Nat) (aC : ByteArray) (aD aI : Int) (aF aH : List (List C)) (a1 : Int) (K : Int → (List (List C)) → (List (List C)) → Option β) : Option β :=
  Yr.f k aF a1 (fun y27 y28 => Zd (y28.length = aF.length) (Yp.f k aH y27 (fun y29 y30 => Zd (y30.length = aH.length) (K y29 y28 y30))))
noncomputable def YJ.t (k : Nat) (aC : ByteArray) (aD aI : Int) (aF aH : List (List C)) (a1 : Int) : Option (Int × (List (List C)) × (List (List C))) := YJ.g k aC aD aI aF aH a1 (fun z0 z1 z2 => some (z0, z1, z2))
noncomputable def YJ.f {β : Type} (k : Nat) (aC : ByteArray) (aD aI : Int) (aF aH : List (List C)) (a1 : Int) (K : Int → (List (List C)) → (List (List C)) → Option β) : Option β := bd3 (YJ.t k aC aD aI aF aH a1) K
noncomputable def YJ.e (k : Nat) : Zj := ent [.own true 31 [.s, .n, .n, .o, .o], .d .n] [1] [.n, .o, .o] [3] false (YJ.t k)
noncomputable def YJ.p (k : Nat) : Pro := ⟨Try.prog, [(38, Yr.e k), (12, Yp.e k)], Zv [] false [], k⟩
theorem YJ.ok (k : Nat) : Zf Try.prog 11 (YJ.e k) := Zk (YJ.p k) mix tyok Try.func11 ⟨Yr.ok k, Yp.ok k⟩ (by kernel_rfl) (fun aC aD aI aF aH a1 => by show _ = _; kernel_rfl)
noncomputable def Yq.l0 {β : Type} (k : Nat) (aA : List (List D)) (K : Int → Option β) (L0 : (Int × Int) → Option β) (v : Int × Int) : Option β :=
  match v with
  | (aB, aJ) => bif (decide ((aJ : Int) < (aA.length : Int))) then (atR aA aJ [.n, .n] fun x18 x21 => (bif ((x18 : Int) != aB) then (K (-1)) else (atR aA aJ [.n, .n] fun x25 x28 => (bif ((x28 : Int) != (IntKind.wrap .i64 (aB + 1))) then (K (-1)) else (L0 (IntKind.wrap .i64 ((IntKind.wrap .i64 (aB + 1)) + 1), IntKind.wrap .i64 (aJ + 1))))))) else (K aB)
noncomputable def Yq.m {β : Type} (k : Nat) (a0 : List (List D)) (a1 : Int) (K : Int → Option β) (F : ((List (List D)) → (Int × Int) → Option β)) : Option β :=
  F a0 (a1, 0)
noncomputable def Yq.g {β : Type} (k : Nat) (a0 : List (List D)) (a1 : Int) (K : Int → Option β) : Option β :=
  ZA (Yq.l0 k a0 K) k (a1, 0)
noncomputable def Yq.t (k : Nat) (a0 : List (List D)) (a1 : Int) : Option (Int) := Yq.g k a0 a1 (fun z0 => some z0)
noncomputable def Yq.f {β : Type} (k : Nat) (a0 : List (List D)) (a1 : Int) (K : Int → Option β) : Option β := bd1 (Yq.t k a0 a1) K
noncomputable def Yq.e (k : Nat) : Zj := ent [.d .l, .d .n] [1] [.n] [3] false (Yq.t k)
noncomputable def Yq.p (k : Nat) : Pro := ⟨Try.prog, [], Zv [(2, kp [0, 5] [(1, .dat false)])] false [], k⟩
noncomputable def Yq.d (k : Nat) (a0 : List (List D)) (a1 : Int) : Ex → St → Option (Int) := (Yq.p k).fin Try.f13 [.d (.sl a0), .d (.int .i64 a1)] [1] [.n]
noncomputable def Yq.s0 (aA : List (List D)) (v : Int × Int) : St :=
  match v with
  | (aB, aJ) => ZaA 31 [(0, .d false (.sl aA)), (1, .d false (.int .i64 aB)), (5, .d true (.int .i64 aJ))] []
noncomputable def Yq.r0 (k : Nat) (a0 : List (List D)) (a1 : Int) (aA : List (List D)) (n : Nat) (v : Int × Int) : Option (Int) := (Yq.p k).lp (ZI Try.f13) 2 [1, 0, 1, 0] (Yq.d k a0 a1) n (Yq.s0 aA v)
theorem Yq.l0_eq (k : Nat) (a0 : List (List D)) (a1 : Int) (aA : List (List D)) : ∀ n v, Yq.r0 k a0 a1 aA n v = ZA (Yq.l0 k aA (fun z0 => some z0)) n v :=
  Zz (Yq.s0 aA) _ fun L0 v => by obtain ⟨aB, aJ⟩ := v; kernel_rfl
theorem Yq.ok (k : Nat) : Zf Try.prog 13 (Yq.e k) := Zk (Yq.p k) mix tyok Try.func13 trivial (by kernel_rfl) (fun a0 a1 => Eq.trans (b := Yq.m k a0 a1 (fun z0 => some z0) (fun aA => Yq.r0 k a0 a1 aA k)) (by kernel_rfl) (congrArg (Yq.m k a0 a1 (fun z0 => some z0)) (funext fun aA => funext fun v => Yq.l0_eq k a0 a1 aA k v) :))
noncomputable def YM.g {β : Type} (k : Nat) (aC : ByteArray) (aD aI : Int) (aF aH : List (List D)) (K : Bool → Option β) : Option β :=
  YQ.f k aC aD aI aF aH 1048576 (fun y63 => bif (decide ((y63 : Int) < 0)) then (K true) else (YI.f k aC aD aI aF aH (fun y87 y88 y89 y90 y91 => Yo.f k y87 y88 y89 (C.immRows y90) (C.immRows y91) (fun y222 => YI.f k aC aD aI aF aH (fun y223 y224 y225 y226 y227 => YF.f k y223 y224 y225 (C.immRows y226) (C.immRows y227) (fun y394 => Yv.f k (C.immRows y394) (C.immRows y222) (fun y395 => bif (!y395) then (K false) else (YI.f k aC aD aI aF aH (fun y396 y397 y398 y399 y400 => YS.f k y223 y224 y225 (C.immRows y226) (C.immRows y227) y396 y397 y398 (C.immRows y399) (C.immRows y400) (fun y401 => bif (!y401) then (K false) else (YJ.f k y223 y224 y225 y226 y227 1 (fun y402 y403 y404 => Zd (y403.length = y226.length) (Zd (y404.length = y227.length) (bif (decide ((y402 : Int) < 0)) then (K false) else (Yv.f k (C.immRows y394) (C.immRows y222) (fun y405 => bif (!y405) then (K false) else (Yp.f k y394 1 (fun y406 y407 => Zd (y407.length = y394.length ∧ flatC y407 = true) (Yq.f k (C.immRows y407) 1 (fun y408 => bif (decide ((y408 : Int) < 0)) then (K false) else (bif ((y408 : Int) != y406) then (K false) else (YI.f k aC aD aI aF aH (fun y409 y410 y411 y412 y413 => YF.f k y409 y410 y411 (C.immRows y412) (C.immRows y413) (fun y414 => Yv.f k (C.immRows y414) (C.immRows y222) (fun y415 => bif (!y415) then (K false) else (Yq.f k (C.immRows y407) 1 (fun y416 => bif (decide ((y416 : Int) < 0)) then (K false) else (bif ((y416 : Int) != y406) then (K false) else (K true)))))))))))))))))))))))))))))
noncomputable def YM.t (k : Nat) (aC : ByteArray) (aD aI : Int) (aF aH : List (List D)) : Option (Bool) := YM.g k aC aD aI aF aH (fun z0 => some z0)
noncomputable def YM.e (k : Nat) : Zj := ent [.agg [.s, .n, .n, .l, .l]] [1] [.b] [4] false (YM.t k)
noncomputable def YM.p (k : Nat) : Pro := ⟨Try.prog, [(5, YQ.e k), (7, YI.e k), (6, Yo.e k), (8, YF.e k), (9, Yv.e k), (10, YS.e k), (11, YJ.e k), (12, Yp.e k), (13, Yq.e k)], Zv [] false [], k⟩
theorem YM.ok (k : Nat) : Zf Try.prog 3 (YM.e k) := Zk (YM.p k) mix tyok Try.func3 ⟨YQ.ok k, YI.ok k, Yo.ok k, YF.ok k, Yv.ok k, YS.ok k, YJ.ok k, Yp.ok k, Yq.ok k⟩ (by kernel_rfl) (fun aC aD aI aF aH => by show _ = _; kernel_rfl)
end Go.Proofs.Ytlobhlnahhjpjaa
