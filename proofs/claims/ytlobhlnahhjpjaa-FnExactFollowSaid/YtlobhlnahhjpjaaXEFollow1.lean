/- Printed: the functions that FnExactFollow reaches, read by the evaluator, each with its contract. -/
import Derived.Test.YtlobhlnahhjpjaaXEFollow0
import Derived.KernelRfl
set_option linter.unusedVariables false
set_option linter.unusedSimpArgs false
namespace Go.Proofs.Ytlobhlnahhjpjaa
open Go Go.T Go.Proofs
noncomputable def Yan.g {β : Type} (k : Nat) (aB : Int) (aA : Bool) (aG : Int) (aE : BA) (aF aV aO : Int) (aS : Bool) (aK : LD) (aT : Int) (aL : BA) (aP : Int) (aQ aM : LD) (aU : Int) (aN : BA) (aR : Int) (bX bY : LD) (aX : Int) (aY : Bool) (bA : Int) (bB : BA) (bC bE bF : Int) (bG : Bool) (bH : LD) (bI : Int) (bJ : BA) (bK : Int) (bL bM : LD) (bN : Int) (bO : BA) (bP : Int) (a1_17 a1_18 : LD) (K : Bool → Option β) : Option β :=
 bif ((aB : Int) != aX) then (K false) else (bif (!(aA == aY)) then (K false) else (Yat.f k aG aE aF aV aO aS aK aT aL aP aQ aM aU aN aR bX bY bA bB bC bE bF bG bH bI bJ bK bL bM bN bO bP a1_17 a1_18 (fun y1 => bif (!y1) then (K false) else (K true))))
noncomputable def Yan.t (k : Nat) (aB : Int) (aA : Bool) (aG : Int) (aE : BA) (aF aV aO : Int) (aS : Bool) (aK : LD) (aT : Int) (aL : BA) (aP : Int) (aQ aM : LD) (aU : Int) (aN : BA) (aR : Int) (bX bY : LD) (aX : Int) (aY : Bool) (bA : Int) (bB : BA) (bC bE bF : Int) (bG : Bool) (bH : LD) (bI : Int) (bJ : BA) (bK : Int) (bL bM : LD) (bN : Int) (bO : BA) (bP : Int) (a1_17 a1_18 : LD) : Option (Bool) := Yan.g k aB aA aG aE aF aV aO aS aK aT aL aP aQ aM aU aN aR bX bY aX aY bA bB bC bE bF bG bH bI bJ bK bL bM bN bO bP a1_17 a1_18 (fun z0 => some z0)
noncomputable def Yan.f {β : Type} (k : Nat) (aB : Int) (aA : Bool) (aG : Int) (aE : BA) (aF aV aO : Int) (aS : Bool) (aK : LD) (aT : Int) (aL : BA) (aP : Int) (aQ aM : LD) (aU : Int) (aN : BA) (aR : Int) (bX bY : LD) (aX : Int) (aY : Bool) (bA : Int) (bB : BA) (bC bE bF : Int) (bG : Bool) (bH : LD) (bI : Int) (bJ : BA) (bK : Int) (bL bM : LD) (bN : Int) (bO : BA) (bP : Int) (a1_17 a1_18 : LD) (K : Bool → Option β) : Option β := bd1 (Yan.t k aB aA aG aE aF aV aO aS aK aT aL aP aQ aM aU aN aR bX bY aX aY bA bB bC bE bF bG bH bI bJ bK bL bM bN bO bP a1_17 a1_18) K
noncomputable def Yan.e (k : Nat) : Zk := ent [.agg [.n, .b, .n, .s, .n, .n, .n, .b, .l, .n, .s, .n, .l, .l, .n, .s, .n, .l, .l], .agg [.n, .b, .n, .s, .n, .n, .n, .b, .l, .n, .s, .n, .l, .l, .n, .s, .n, .l, .l]] [1] [.b] [4] false (Yan.t k)
noncomputable def Yan.p (k : Nat) : Pro := ⟨Try.prog, [(76, Yat.e k)], Zn [] false [], k⟩
theorem Yan.ok (k : Nat) : Za Try.prog 51 (Yan.e k) := Zh (Yan.p k) mix tyok Try.func51 (Yat.ok k) (by kernel_rfl) (fun aB aA aG aE aF aV aO aS aK aT aL aP aQ aM aU aN aR bX bY aX aY bA bB bC bE bF bG bH bI bJ bK bL bM bN bO bP a1_17 a1_18 => by show _ = _; kernel_rfl)
noncomputable def YG.l0 {β : Type} (k : Nat) (aC aD : LD) (K : Bool → Option β) (L0 : Int → Option β) (v : Int) : Option β :=
 match v with
 | aH => bif (decide ((aH : Int) < (aC.length : Int))) then (atR aC aH [.n, .b, .n, .s, .n, .n, .n, .b, .l, .n, .s, .n, .l, .l, .n, .s, .n, .l, .l] fun x121 x124 x127 x130 x133 x136 x139 x142 x145 x148 x151 x154 x157 x160 x163 x166 x169 x172 x175 => (atR aD aH [.n, .b, .n, .s, .n, .n, .n, .b, .l, .n, .s, .n, .l, .l, .n, .s, .n, .l, .l] fun x179 x182 x185 x188 x191 x194 x197 x200 x203 x206 x209 x212 x215 x218 x221 x224 x227 x230 x233 => (Yan.f k x121 x124 x127 x130 x133 x136 x139 x142 x145 x148 x151 x154 x157 x160 x163 x166 x169 x172 x175 x179 x182 x185 x188 x191 x194 x197 x200 x203 x206 x209 x212 x215 x218 x221 x224 x227 x230 x233 (fun y234 => bif (!y234) then (K false) else (L0 (IntKind.wrap .i64 (aH + 1))))))) else (K true)
noncomputable def YG.m {β : Type} (k : Nat) (a0 a1 : LD) (K : Bool → Option β) (F : (LD → LD → Int → Option β)) : Option β :=
 bif (((a0.length : Int) : Int) != (a1.length : Int)) then (K false) else (F a0 a1 (0))
noncomputable def YG.g {β : Type} (k : Nat) (a0 a1 : LD) (K : Bool → Option β) : Option β :=
 bif (((a0.length : Int) : Int) != (a1.length : Int)) then (K false) else (Zo (YG.l0 k a0 a1 K) k (0))
noncomputable def YG.t (k : Nat) (a0 a1 : LD) : Option (Bool) := YG.g k a0 a1 (fun z0 => some z0)
noncomputable def YG.f {β : Type} (k : Nat) (a0 a1 : LD) (K : Bool → Option β) : Option β := bd1 (YG.t k a0 a1) K
noncomputable def YG.e (k : Nat) : Zk := ent [.d .l, .d .l] [1] [.b] [4] false (YG.t k)
noncomputable def YG.p (k : Nat) : Pro := ⟨Try.prog, [(51, Yan.e k)], Zn [(4, kp [0, 1, 5])] false [], k⟩
noncomputable def YG.d (k : Nat) (a0 a1 : LD) : Ex → St → Option (Bool) := (YG.p k).fin Try.f21 [.d (.sl a0), .d (.sl a1)] [1] [.b]
noncomputable def YG.s0 (aC aD : LD) (v : Int) : St :=
 match v with
 | aH => ZX 27 [(0, .d false (.sl aC)), (1, .d false (.sl aD)), (5, .d true (.int .i64 aH))] []
noncomputable def YG.r0 (k : Nat) (a0 a1 aC aD : LD) (n : Nat) (v : Int) : Option (Bool) := (YG.p k).lp (Zt Try.f21) 4 [1, 1, 0, 1, 0] (YG.d k a0 a1) n (YG.s0 aC aD v)
theorem YG.l0_eq (k : Nat) (a0 a1 aC aD : LD) : ∀ n v, YG.r0 k a0 a1 aC aD n v = Zo (YG.l0 k aC aD (fun z0 => some z0)) n v :=
 Zm (YG.s0 aC aD) _ fun L0 v => by kernel_rfl
theorem YG.ok (k : Nat) : Za Try.prog 21 (YG.e k) := Zh (YG.p k) mix tyok Try.func21 (Yan.ok k) (by kernel_rfl) (fun a0 a1 => Eq.trans (b := YG.m k a0 a1 (fun z0 => some z0) (fun aC aD => YG.r0 k a0 a1 aC aD k)) (by kernel_rfl) (congrArg (YG.m k a0 a1 (fun z0 => some z0)) (funext fun aC => funext fun aD => funext fun v => YG.l0_eq k a0 a1 aC aD k v) :))
noncomputable def Yf.l0 {β : Type} (k : Nat) (K : BA → Option β) (L0 : (Int × BA) → Option β) (v : Int × BA) : Option β :=
 match v with
 | (aC, aD) => bif (decide ((aC : Int) > 0)) then (let J0 := (⟨#[UInt8.ofNat (Int.toNat (IntKind.wrap .u8 (IntKind.wrap .i64 (48 + (Int.tmod aC 10)))))]⟩ : BA); Zc ((10 : Int) ≠ 0) (Zc (((J0.size + aD.size : Nat) : Int) ≤ 9223372036854775807) (Zc ((10 : Int) ≠ 0) (L0 (IntKind.wrap .i64 (Int.tdiv aC 10), J0 ++ aD))))) else (Zc ((((⟨#[109]⟩ : BA).size + aD.size : Nat) : Int) ≤ 9223372036854775807) (K ((⟨#[109]⟩ : BA) ++ aD)))
noncomputable def Yf.m {β : Type} (k : Nat) (a0 : Int) (K : BA → Option β) (F : ((Int × BA) → Option β)) : Option β :=
 bif (decide ((a0 : Int) ≤ 0)) then (K (⟨#[109, 48]⟩ : BA)) else (F (a0, (⟨#[]⟩ : BA)))
noncomputable def Yf.g {β : Type} (k : Nat) (a0 : Int) (K : BA → Option β) : Option β :=
 bif (decide ((a0 : Int) ≤ 0)) then (K (⟨#[109, 48]⟩ : BA)) else (Zo (Yf.l0 k K) k (a0, (⟨#[]⟩ : BA)))
noncomputable def Yf.t (k : Nat) (a0 : Int) : Option (BA) := Yf.g k a0 (fun z0 => some z0)
noncomputable def Yf.f {β : Type} (k : Nat) (a0 : Int) (K : BA → Option β) : Option β := bd1 (Yf.t k a0) K
noncomputable def Yf.e (k : Nat) : Zk := ent [.d .n] [1] [.s] [9] false (Yf.t k)
noncomputable def Yf.p (k : Nat) : Pro := ⟨Try.prog, [], Zn [(4, kp [3] [(0, .dat false)])] false [], k⟩
noncomputable def Yf.d (k : Nat) (a0 : Int) : Ex → St → Option (BA) := (Yf.p k).fin Try.f53 [.d (.int .i64 a0)] [1] [.s]
noncomputable def Yf.s0 (v : Int × BA) : St :=
 match v with
 | (aC, aD) => ZX 20 [(0, .d false (.int .i64 aC)), (3, .d true (.str aD))] []
noncomputable def Yf.r0 (k : Nat) (a0 : Int) (n : Nat) (v : Int × BA) : Option (BA) := (Yf.p k).lp (Zt Try.f53) 4 [1, 1, 1, 0, 0] (Yf.d k a0) n (Yf.s0 v)
theorem Yf.l0_eq (k : Nat) (a0 : Int) : ∀ n v, Yf.r0 k a0 n v = Zo (Yf.l0 k (fun z0 => some z0)) n v :=
 Zm (Yf.s0) _ fun L0 v => by obtain ⟨aC, aD⟩ := v; kernel_rfl
theorem Yf.ok (k : Nat) : Za Try.prog 53 (Yf.e k) := Zh (Yf.p k) mix tyok Try.func53 trivial (by kernel_rfl) (fun a0 => Eq.trans (b := Yf.m k a0 (fun z0 => some z0) (Yf.r0 k a0 k)) (by kernel_rfl) (congrArg (Yf.m k a0 (fun z0 => some z0)) (funext fun v => Yf.l0_eq k a0 k v) :))
noncomputable def Yj.l0 {β : Type} (k : Nat) (K : Int → LC → Option β) (L0 : (Int × Int × LC) → Option β) (v : Int × Int × LC) : Option β :=
 match v with
 | (aC, aD, aH) => bif (decide ((aD : Int) < (aH.length : Int))) then (Yf.f k aC (fun y2 => Zc ((0 : Int) ≤ aD ∧ aD < (aH.length : Int)) (Zc (Int.toNat aD < aH.length) (L0 (IntKind.wrap .i64 (aC + 1), IntKind.wrap .i64 (aD + 1), aH.modify (Int.toNat aD) fun c => Zq c 0 [.d (.str y2)]))))) else (K aC aH)
noncomputable def Yj.m {β : Type} (k : Nat) (a0 : LC) (a1 : Int) (K : Int → LC → Option β) (F : ((Int × Int × LC) → Option β)) : Option β :=
 F (a1, 0, a0)
noncomputable def Yj.g {β : Type} (k : Nat) (a0 : LC) (a1 : Int) (K : Int → LC → Option β) : Option β :=
 Zo (Yj.l0 k K) k (a1, 0, a0)
noncomputable def Yj.t (k : Nat) (a0 : LC) (a1 : Int) : Option (Int × LC) := Yj.g k a0 a1 (fun z0 z1 => some (z0, z1))
noncomputable def Yj.f {β : Type} (k : Nat) (a0 : LC) (a1 : Int) (K : Int → LC → Option β) : Option β := bd2 (Yj.t k a0 a1) K
noncomputable def Yj.e (k : Nat) : Zk := ent [.own false 59 [.o], .d .n] [1] [.n, .o] [3] false (Yj.t k)
noncomputable def Yj.p (k : Nat) : Pro := ⟨Try.prog, [(53, Yf.e k)], Zn [(2, kp [0, 5] [(1, .dat false)])] false [], k⟩
noncomputable def Yj.d (k : Nat) (a0 : LC) (a1 : Int) : Ex → St → Option (Int × LC) := (Yj.p k).fin Try.f54 [.own false [.own a0], .d (.int .i64 a1)] [1] [.n, .o]
noncomputable def Yj.s0 (v : Int × Int × LC) : St :=
 match v with
 | (aC, aD, aH) => ZX 20 [(0, .row 0), (1, .d false (.int .i64 aC)), (5, .d true (.int .i64 aD))] [.row (some 0) false 59 aH]
noncomputable def Yj.r0 (k : Nat) (a0 : LC) (a1 : Int) (n : Nat) (v : Int × Int × LC) : Option (Int × LC) := (Yj.p k).lp (Zt Try.f54) 2 [1, 0, 1, 0] (Yj.d k a0 a1) n (Yj.s0 v)
theorem Yj.l0_eq (k : Nat) (a0 : LC) (a1 : Int) : ∀ n v, Yj.r0 k a0 a1 n v = Zo (Yj.l0 k (fun z0 z1 => some (z0, z1))) n v :=
 Zm (Yj.s0) _ fun L0 v => by obtain ⟨aC, aD, aH⟩ := v; kernel_rfl
theorem Yj.ok (k : Nat) : Za Try.prog 54 (Yj.e k) := Zh (Yj.p k) mix tyok Try.func54 (Yf.ok k) (by kernel_rfl) (fun a0 a1 => Eq.trans (b := Yj.m k a0 a1 (fun z0 z1 => some (z0, z1)) (Yj.r0 k a0 a1 k)) (by kernel_rfl) (congrArg (Yj.m k a0 a1 (fun z0 z1 => some (z0, z1))) (funext fun v => Yj.l0_eq k a0 a1 k v) :))
noncomputable def Yg.l0 {β : Type} (k : Nat) (r_laws_markValueS : LC → Int → (Int → LC → Option β) → Option β) (K : Int → LC → Option β) (L0 : (Int × Int × LC) → Option β) (v : Int × Int × LC) : Option β :=
 match v with
 | (aC, aD, aH) => bif (decide ((aD : Int) < (aH.length : Int))) then (Zc ((0 : Int) ≤ aD ∧ aD < (aH.length : Int)) (Zc (Int.toNat aD < aH.length) (Yf.f k (IntKind.wrap .i64 (aC + 1)) (fun y14 => let J3 := (aH.modify (Int.toNat aD) fun c => Zq c 0 [.d (.int .i64 aC)]); let J2 := (J3.modify (Int.toNat aD) fun c => Zq c 1 [.d (.str y14)]); let J1 := (J2.modify (Int.toNat aD) fun c => Zq c 2 [.d (.int .i64 (IntKind.wrap .i64 ((IntKind.wrap .i64 (aC + 1)) + 1)))]); Zc ((0 : Int) ≤ aD ∧ aD < (J3.length : Int)) (Zc (Int.toNat aD < J3.length) (Zc ((0 : Int) ≤ aD ∧ aD < (J2.length : Int)) (Zc (Int.toNat aD < J2.length) (Zc ((0 : Int) ≤ aD ∧ aD < (J1.length : Int)) (ZaG J1 (Int.toNat aD) fun c15 => Zas (c15.drop 3) fun c16 r17 => cOwn c16 fun y18 => Yj.f k y18 (IntKind.wrap .i64 ((IntKind.wrap .i64 ((IntKind.wrap .i64 (aC + 1)) + 1)) + 1)) (fun y19 y20 => let J0 := (J1.modify (Int.toNat aD) fun r => r.set 3 (.own y20)); Zc ((0 : Int) ≤ aD ∧ aD < (J0.length : Int)) (ZaG J0 (Int.toNat aD) fun c21 => Zas (c21.drop 4) fun c22 r23 => cOwn c22 fun y24 => r_laws_markValueS y24 y19 (fun y25 y26 => L0 (y25, IntKind.wrap .i64 (aD + 1), J0.modify (Int.toNat aD) fun r => r.set 4 (.own y26)))))))))))))) else (K aC aH)
noncomputable def Yg.m {β : Type} (k : Nat) (r_laws_markValueS : LC → Int → (Int → LC → Option β) → Option β) (a0 : LC) (a1 : Int) (K : Int → LC → Option β) (F : ((Int × Int × LC) → Option β)) : Option β :=
 F (a1, 0, a0)
noncomputable def Yg.body {β : Type} (k : Nat) (r_laws_markValueS : LC → Int → (Int → LC → Option β) → Option β) (a0 : LC) (a1 : Int) (K : Int → LC → Option β) : Option β :=
 Zo (Yg.l0 k r_laws_markValueS K) k (a1, 0, a0)
noncomputable def Yg.w {β : Type} (r : LC → Int → Option (Int × LC)) (a0 : LC) (a1 : Int) (K : Int → LC → Option β) : Option β := bd2 (r a0 a1) K
noncomputable def Yg.all : Nat → (LC → Int → Option (Int × LC))
 | 0 => (fun _ _ => none)
 | k + 1 => (fun r => (fun a0 a1 => Yg.body k (Yg.w r) a0 a1 (fun z0 z1 => some (z0, z1)))) (Yg.all k)
noncomputable def Yg.t (k : Nat) (a0 : LC) (a1 : Int) : Option (Int × LC) := (Yg.all k) a0 a1
noncomputable def Yg.f {β : Type} (k : Nat) (a0 : LC) (a1 : Int) (K : Int → LC → Option β) : Option β := Yg.w (Yg.t k) a0 a1 K
noncomputable def Yg.g {β : Type} (k : Nat) (a0 : LC) (a1 : Int) (K : Int → LC → Option β) : Option β := Yg.body k (Yg.f k) a0 a1 K
theorem Yg.t_succ (k : Nat) (a0 : LC) (a1 : Int) : Yg.t (k + 1) a0 a1 = Yg.g k a0 a1 (fun z0 z1 => some (z0, z1)) := rfl
noncomputable def Yg.e (k : Nat) : Zk := ent [.own false 60 [.o], .d .n] [1] [.n, .o] [3] false (Yg.t k)
noncomputable def Yg.p (k : Nat) : Pro := ⟨Try.prog, [(53, Yf.e k), (54, Yj.e k), (55, Yg.e k)], Zn [(2, kp [0, 5] [(1, .dat false)])] false [], k⟩
noncomputable def Yg.d (k : Nat) (a0 : LC) (a1 : Int) : Ex → St → Option (Int × LC) := (Yg.p k).fin Try.f55 [.own false [.own a0], .d (.int .i64 a1)] [1] [.n, .o]
noncomputable def Yg.s0 (v : Int × Int × LC) : St :=
 match v with
 | (aC, aD, aH) => ZX 49 [(0, .row 0), (1, .d false (.int .i64 aC)), (5, .d true (.int .i64 aD))] [.row (some 0) false 60 aH]
noncomputable def Yg.r0 (k : Nat) (a0 : LC) (a1 : Int) (n : Nat) (v : Int × Int × LC) : Option (Int × LC) := (Yg.p k).lp (Zt Try.f55) 2 [1, 0, 1, 0] (Yg.d k a0 a1) n (Yg.s0 v)
theorem Yg.l0_eq (k : Nat) (a0 : LC) (a1 : Int) : ∀ n v, Yg.r0 k a0 a1 n v = Zo (Yg.l0 k (Yg.f k) (fun z0 z1 => some (z0, z1))) n v :=
 Zm (Yg.s0) _ fun L0 v => by obtain ⟨aC, aD, aH⟩ := v; kernel_rfl
theorem Yg.oks (k : Nat) : Za Try.prog 55 (Yg.e k) := by
 induction k with
 | zero => exact Z7 Try.func55 (by kernel_rfl) (fun _ _ => rfl)
 | succ k ih => exact Zh (Yg.p k) mix tyok Try.func55 ⟨Yf.ok k, Yj.ok k, ih⟩ (by kernel_rfl) (fun a0 a1 => Eq.trans (b := Yg.m k (Yg.f k) a0 a1 (fun z0 z1 => some (z0, z1)) (Yg.r0 k a0 a1 k)) (by kernel_rfl) ((congrArg (Yg.m k (Yg.f k) a0 a1 (fun z0 z1 => some (z0, z1))) (funext fun v => Yg.l0_eq k a0 a1 k v)).trans (Yg.t_succ k a0 a1).symm))
theorem Yg.ok (k : Nat) : Za Try.prog 55 (Yg.e k) := (Yg.oks k)
set_option maxRecDepth 100000 in
noncomputable def YH.l0 {β : Type} (k : Nat) (K : Int → LC → Option β) (L0 : (Int × Int × LC) → Option β) (v : Int × Int × LC) : Option β :=
 match v with
 | (aC, aD, aH) => bif (decide ((aD : Int) < (aH.length : Int))) then (Zc ((0 : Int) ≤ aD ∧ aD < (aH.length : Int)) (Zc (Int.toNat aD < aH.length) (Yf.f k (IntKind.wrap .i64 (aC + 1)) (fun y34 => let J18 := (aH.modify (Int.toNat aD) fun c => Zq c 0 [.d (.int .i64 aC)]); let J14 := (J18.modify (Int.toNat aD) fun c => Zq c 1 [.d (.str y34)]); let J13 := (J14.modify (Int.toNat aD) fun c => Zq c 2 [.d (.int .i64 (IntKind.wrap .i64 ((IntKind.wrap .i64 (aC + 1)) + 1)))]); let J17 := (IntKind.wrap .i64 ((IntKind.wrap .i64 ((IntKind.wrap .i64 (aC + 1)) + 1)) + 1)); let J12 := (J13.modify (Int.toNat aD) fun c => Zq c 3 [.d (.int .i64 J17)]); let J16 := (IntKind.wrap .i64 (J17 + 1)); let J11 := (J12.modify (Int.toNat aD) fun c => Zq c 4 [.d (.int .i64 J16)]); let J15 := (IntKind.wrap .i64 (J16 + 1)); let J10 := (J11.modify (Int.toNat aD) fun c => Zq c 5 [.d (.bool (((Int.tmod J15 3) : Int) == 0))]); Zc ((0 : Int) ≤ aD ∧ aD < (J18.length : Int)) (Zc (Int.toNat aD < J18.length) (Zc ((0 : Int) ≤ aD ∧ aD < (J14.length : Int)) (Zc (Int.toNat aD < J14.length) (Zc ((0 : Int) ≤ aD ∧ aD < (J13.length : Int)) (Zc (Int.toNat aD < J13.length) (Zc ((0 : Int) ≤ aD ∧ aD < (J12.length : Int)) (Zc (Int.toNat aD < J12.length) (Zc ((3 : Int) ≠ 0) (Zc ((0 : Int) ≤ aD ∧ aD < (J11.length : Int)) (Zc (Int.toNat aD < J11.length) (Zc ((0 : Int) ≤ aD ∧ aD < (J10.length : Int)) (ZaG J10 (Int.toNat aD) fun c35 => Zas (c35.drop 6) fun c36 r37 => cOwn c36 fun y38 => Yj.f k y38 (IntKind.wrap .i64 (J15 + 1)) (fun y39 y40 => let J9 := (J10.modify (Int.toNat aD) fun r => r.set 6 (.own y40)); Zc ((0 : Int) ≤ aD ∧ aD < (J9.length : Int)) (Zc (Int.toNat aD < J9.length) (Yf.f k (IntKind.wrap .i64 (y39 + 1)) (fun y41 => let J8 := (J9.modify (Int.toNat aD) fun c => Zq c 7 [.d (.int .i64 y39)]); let J7 := (J8.modify (Int.toNat aD) fun c => Zq c 8 [.d (.str y41)]); let J6 := (J7.modify (Int.toNat aD) fun c => Zq c 9 [.d (.int .i64 (IntKind.wrap .i64 ((IntKind.wrap .i64 (y39 + 1)) + 1)))]); Zc ((0 : Int) ≤ aD ∧ aD < (J8.length : Int)) (Zc (Int.toNat aD < J8.length) (Zc ((0 : Int) ≤ aD ∧ aD < (J7.length : Int)) (Zc (Int.toNat aD < J7.length) (Zc ((0 : Int) ≤ aD ∧ aD < (J6.length : Int)) (ZaG J6 (Int.toNat aD) fun c42 => Zas (c42.drop 10) fun c43 r44 => cOwn c43 fun y45 => Yj.f k y45 (IntKind.wrap .i64 ((IntKind.wrap .i64 ((IntKind.wrap .i64 (y39 + 1)) + 1)) + 1)) (fun y46 y47 => let J5 := (J6.modify (Int.toNat aD) fun r => r.set 10 (.own y47)); Zc ((0 : Int) ≤ aD ∧ aD < (J5.length : Int)) (ZaG J5 (Int.toNat aD) fun c48 => Zas (c48.drop 11) fun c49 r50 => cOwn c49 fun y51 => Yg.f k y51 y46 (fun y52 y53 => let J4 := (J5.modify (Int.toNat aD) fun r => r.set 11 (.own y53)); Zc ((0 : Int) ≤ aD ∧ aD < (J4.length : Int)) (Zc (Int.toNat aD < J4.length) (Yf.f k (IntKind.wrap .i64 (y52 + 1)) (fun y54 => let J3 := (J4.modify (Int.toNat aD) fun c => Zq c 12 [.d (.int .i64 y52)]); let J2 := (J3.modify (Int.toNat aD) fun c => Zq c 13 [.d (.str y54)]); let J1 := (J2.modify (Int.toNat aD) fun c => Zq c 14 [.d (.int .i64 (IntKind.wrap .i64 ((IntKind.wrap .i64 (y52 + 1)) + 1)))]); Zc ((0 : Int) ≤ aD ∧ aD < (J3.length : Int)) (Zc (Int.toNat aD < J3.length) (Zc ((0 : Int) ≤ aD ∧ aD < (J2.length : Int)) (Zc (Int.toNat aD < J2.length) (Zc ((0 : Int) ≤ aD ∧ aD < (J1.length : Int)) (ZaG J1 (Int.toNat aD) fun c55 => Zas (c55.drop 15) fun c56 r57 => cOwn c56 fun y58 => Yj.f k y58 (IntKind.wrap .i64 ((IntKind.wrap .i64 ((IntKind.wrap .i64 (y52 + 1)) + 1)) + 1)) (fun y59 y60 => let J0 := (J1.modify (Int.toNat aD) fun r => r.set 15 (.own y60)); Zc ((0 : Int) ≤ aD ∧ aD < (J0.length : Int)) (ZaG J0 (Int.toNat aD) fun c61 => Zas (c61.drop 16) fun c62 r63 => cOwn c62 fun y64 => Yg.f k y64 y59 (fun y65 y66 => L0 (y65, IntKind.wrap .i64 (aD + 1), J0.modify (Int.toNat aD) fun r => r.set 16 (.own y66))))))))))))))))))))))))))))))))))))))))) else (K aC aH)
noncomputable def YH.m {β : Type} (k : Nat) (a0 : LC) (a1 : Int) (K : Int → LC → Option β) (F : ((Int × Int × LC) → Option β)) : Option β :=
 F (a1, 0, a0)
noncomputable def YH.g {β : Type} (k : Nat) (a0 : LC) (a1 : Int) (K : Int → LC → Option β) : Option β :=
 Zo (YH.l0 k K) k (a1, 0, a0)
noncomputable def YH.t (k : Nat) (a0 : LC) (a1 : Int) : Option (Int × LC) := YH.g k a0 a1 (fun z0 z1 => some (z0, z1))
noncomputable def YH.f {β : Type} (k : Nat) (a0 : LC) (a1 : Int) (K : Int → LC → Option β) : Option β := bd2 (YH.t k a0 a1) K
noncomputable def YH.e (k : Nat) : Zk := ent [.own false 44 [.o], .d .n] [1] [.n, .o] [3] false (YH.t k)
noncomputable def YH.p (k : Nat) : Pro := ⟨Try.prog, [(53, Yf.e k), (54, Yj.e k), (55, Yg.e k)], Zn [(2, kp [0, 5] [(1, .dat false)])] false [], k⟩
noncomputable def YH.d (k : Nat) (a0 : LC) (a1 : Int) : Ex → St → Option (Int × LC) := (YH.p k).fin Try.f52 [.own false [.own a0], .d (.int .i64 a1)] [1] [.n, .o]
noncomputable def YH.s0 (v : Int × Int × LC) : St :=
 match v with
 | (aC, aD, aH) => ZX 147 [(0, .row 0), (1, .d false (.int .i64 aC)), (5, .d true (.int .i64 aD))] [.row (some 0) false 44 aH]
noncomputable def YH.r0 (k : Nat) (a0 : LC) (a1 : Int) (n : Nat) (v : Int × Int × LC) : Option (Int × LC) := (YH.p k).lp (Zt Try.f52) 2 [1, 0, 1, 0] (YH.d k a0 a1) n (YH.s0 v)
theorem YH.l0_eq (k : Nat) (a0 : LC) (a1 : Int) : ∀ n v, YH.r0 k a0 a1 n v = Zo (YH.l0 k (fun z0 z1 => some (z0, z1))) n v :=
 Zm (YH.s0) _ fun L0 v => by obtain ⟨aC, aD, aH⟩ := v; kernel_rfl
theorem YH.ok (k : Nat) : Za Try.prog 52 (YH.e k) := Zh (YH.p k) mix tyok Try.func52 ⟨Yf.ok k, Yj.ok k, Yg.ok k⟩ (by kernel_rfl) (fun a0 a1 => Eq.trans (b := YH.m k a0 a1 (fun z0 z1 => some (z0, z1)) (YH.r0 k a0 a1 k)) (by kernel_rfl) (congrArg (YH.m k a0 a1 (fun z0 z1 => some (z0, z1))) (funext fun v => YH.l0_eq k a0 a1 k v) :))
noncomputable def Y7.g {β : Type} (k : Nat) (aB : Int) (aA : LC) (a1 : Int) (K : Int → LC → Option β) : Option β :=
 YH.f k aA a1 (fun y67 y68 => Zc (y68.length = aA.length) (K y67 y68))
noncomputable def Y7.t (k : Nat) (aB : Int) (aA : LC) (a1 : Int) : Option (Int × LC) := Y7.g k aB aA a1 (fun z0 z1 => some (z0, z1))
noncomputable def Y7.f {β : Type} (k : Nat) (aB : Int) (aA : LC) (a1 : Int) (K : Int → LC → Option β) : Option β := bd2 (Y7.t k aB aA a1) K
noncomputable def Y7.e (k : Nat) : Zk := ent [.own true 46 [.n, .o], .d .n] [1] [.n, .o] [3] false (Y7.t k)
noncomputable def Y7.p (k : Nat) : Pro := ⟨Try.prog, [(52, YH.e k)], Zn [] false [], k⟩
theorem Y7.ok (k : Nat) : Za Try.prog 22 (Y7.e k) := Zh (Y7.p k) mix tyok Try.func22 (YH.ok k) (by kernel_rfl) (fun aB aA a1 => by show _ = _; kernel_rfl)
set_option maxRecDepth 100000 in
noncomputable def Yx.l0 {β : Type} (k : Nat) (K : Int → LC → Option β) (L0 : (Int × Int × LC) → Option β) (v : Int × Int × LC) : Option β :=
 match v with
 | (aC, aD, aH) => bif (decide ((aD : Int) < (aH.length : Int))) then (let J22 := (aH.modify (Int.toNat aD) fun c => Zq c 0 [.d (.int .i64 aC)]); let J16 := (J22.modify (Int.toNat aD) fun c => Zq c 1 [.d (.bool (((Int.tmod (IntKind.wrap .i64 (aC + 1)) 3) : Int) == 0))]); let J21 := (IntKind.wrap .i64 ((IntKind.wrap .i64 ((IntKind.wrap .i64 (aC + 1)) + 1)) + 1)); Zc ((0 : Int) ≤ aD ∧ aD < (aH.length : Int)) (Zc (Int.toNat aD < aH.length) (Zc ((3 : Int) ≠ 0) (Zc ((0 : Int) ≤ aD ∧ aD < (J22.length : Int)) (Zc (Int.toNat aD < J22.length) (Zc ((0 : Int) ≤ aD ∧ aD < (J16.length : Int)) (Zc (Int.toNat aD < J16.length) (Yf.f k J21 (fun y34 => let J15 := (J16.modify (Int.toNat aD) fun c => Zq c 2 [.d (.int .i64 (IntKind.wrap .i64 ((IntKind.wrap .i64 (aC + 1)) + 1)))]); let J14 := (J15.modify (Int.toNat aD) fun c => Zq c 3 [.d (.str y34)]); let J20 := (IntKind.wrap .i64 (J21 + 1)); let J13 := (J14.modify (Int.toNat aD) fun c => Zq c 4 [.d (.int .i64 J20)]); let J19 := (IntKind.wrap .i64 (J20 + 1)); let J12 := (J13.modify (Int.toNat aD) fun c => Zq c 5 [.d (.int .i64 J19)]); let J18 := (IntKind.wrap .i64 (J19 + 1)); let J11 := (J12.modify (Int.toNat aD) fun c => Zq c 6 [.d (.int .i64 J18)]); let J17 := (IntKind.wrap .i64 (J18 + 1)); let J10 := (J11.modify (Int.toNat aD) fun c => Zq c 7 [.d (.bool (((Int.tmod J17 3) : Int) == 0))]); Zc ((0 : Int) ≤ aD ∧ aD < (J15.length : Int)) (Zc (Int.toNat aD < J15.length) (Zc ((0 : Int) ≤ aD ∧ aD < (J14.length : Int)) (Zc (Int.toNat aD < J14.length) (Zc ((0 : Int) ≤ aD ∧ aD < (J13.length : Int)) (Zc (Int.toNat aD < J13.length) (Zc ((0 : Int) ≤ aD ∧ aD < (J12.length : Int)) (Zc (Int.toNat aD < J12.length) (Zc ((3 : Int) ≠ 0) (Zc ((0 : Int) ≤ aD ∧ aD < (J11.length : Int)) (Zc (Int.toNat aD < J11.length) (Zc ((0 : Int) ≤ aD ∧ aD < (J10.length : Int)) (ZaG J10 (Int.toNat aD) fun c35 => Zas (c35.drop 8) fun c36 r37 => cOwn c36 fun y38 => Yj.f k y38 (IntKind.wrap .i64 (J17 + 1)) (fun y39 y40 => let J9 := (J10.modify (Int.toNat aD) fun r => r.set 8 (.own y40)); Zc ((0 : Int) ≤ aD ∧ aD < (J9.length : Int)) (Zc (Int.toNat aD < J9.length) (Yf.f k (IntKind.wrap .i64 (y39 + 1)) (fun y41 => let J8 := (J9.modify (Int.toNat aD) fun c => Zq c 9 [.d (.int .i64 y39)]); let J7 := (J8.modify (Int.toNat aD) fun c => Zq c 10 [.d (.str y41)]); let J6 := (J7.modify (Int.toNat aD) fun c => Zq c 11 [.d (.int .i64 (IntKind.wrap .i64 ((IntKind.wrap .i64 (y39 + 1)) + 1)))]); Zc ((0 : Int) ≤ aD ∧ aD < (J8.length : Int)) (Zc (Int.toNat aD < J8.length) (Zc ((0 : Int) ≤ aD ∧ aD < (J7.length : Int)) (Zc (Int.toNat aD < J7.length) (Zc ((0 : Int) ≤ aD ∧ aD < (J6.length : Int)) (ZaG J6 (Int.toNat aD) fun c42 => Zas (c42.drop 12) fun c43 r44 => cOwn c43 fun y45 => Yj.f k y45 (IntKind.wrap .i64 ((IntKind.wrap .i64 ((IntKind.wrap .i64 (y39 + 1)) + 1)) + 1)) (fun y46 y47 => let J5 := (J6.modify (Int.toNat aD) fun r => r.set 12 (.own y47)); Zc ((0 : Int) ≤ aD ∧ aD < (J5.length : Int)) (ZaG J5 (Int.toNat aD) fun c48 => Zas (c48.drop 13) fun c49 r50 => cOwn c49 fun y51 => Yg.f k y51 y46 (fun y52 y53 => let J4 := (J5.modify (Int.toNat aD) fun r => r.set 13 (.own y53)); Zc ((0 : Int) ≤ aD ∧ aD < (J4.length : Int)) (Zc (Int.toNat aD < J4.length) (Yf.f k (IntKind.wrap .i64 (y52 + 1)) (fun y54 => let J3 := (J4.modify (Int.toNat aD) fun c => Zq c 14 [.d (.int .i64 y52)]); let J2 := (J3.modify (Int.toNat aD) fun c => Zq c 15 [.d (.str y54)]); let J1 := (J2.modify (Int.toNat aD) fun c => Zq c 16 [.d (.int .i64 (IntKind.wrap .i64 ((IntKind.wrap .i64 (y52 + 1)) + 1)))]); Zc ((0 : Int) ≤ aD ∧ aD < (J3.length : Int)) (Zc (Int.toNat aD < J3.length) (Zc ((0 : Int) ≤ aD ∧ aD < (J2.length : Int)) (Zc (Int.toNat aD < J2.length) (Zc ((0 : Int) ≤ aD ∧ aD < (J1.length : Int)) (ZaG J1 (Int.toNat aD) fun c55 => Zas (c55.drop 17) fun c56 r57 => cOwn c56 fun y58 => Yj.f k y58 (IntKind.wrap .i64 ((IntKind.wrap .i64 ((IntKind.wrap .i64 (y52 + 1)) + 1)) + 1)) (fun y59 y60 => let J0 := (J1.modify (Int.toNat aD) fun r => r.set 17 (.own y60)); Zc ((0 : Int) ≤ aD ∧ aD < (J0.length : Int)) (ZaG J0 (Int.toNat aD) fun c61 => Zas (c61.drop 18) fun c62 r63 => cOwn c62 fun y64 => Yg.f k y64 y59 (fun y65 y66 => L0 (y65, IntKind.wrap .i64 (aD + 1), J0.modify (Int.toNat aD) fun r => r.set 18 (.own y66)))))))))))))))))))))))))))))))))))))))))))))) else (K aC aH)
noncomputable def Yx.m {β : Type} (k : Nat) (a0 : LC) (a1 : Int) (K : Int → LC → Option β) (F : ((Int × Int × LC) → Option β)) : Option β :=
 F (a1, 0, a0)
noncomputable def Yx.g {β : Type} (k : Nat) (a0 : LC) (a1 : Int) (K : Int → LC → Option β) : Option β :=
 Zo (Yx.l0 k K) k (a1, 0, a0)
noncomputable def Yx.t (k : Nat) (a0 : LC) (a1 : Int) : Option (Int × LC) := Yx.g k a0 a1 (fun z0 z1 => some (z0, z1))
noncomputable def Yx.f {β : Type} (k : Nat) (a0 : LC) (a1 : Int) (K : Int → LC → Option β) : Option β := bd2 (Yx.t k a0 a1) K
noncomputable def Yx.e (k : Nat) : Zk := ent [.own false 50 [.o], .d .n] [1] [.n, .o] [3] false (Yx.t k)
noncomputable def Yx.p (k : Nat) : Pro := ⟨Try.prog, [(53, Yf.e k), (54, Yj.e k), (55, Yg.e k)], Zn [(2, kp [0, 5] [(1, .dat false)])] false [], k⟩
noncomputable def Yx.d (k : Nat) (a0 : LC) (a1 : Int) : Ex → St → Option (Int × LC) := (Yx.p k).fin Try.f23 [.own false [.own a0], .d (.int .i64 a1)] [1] [.n, .o]
noncomputable def Yx.s0 (v : Int × Int × LC) : St :=
 match v with
 | (aC, aD, aH) => ZX 180 [(0, .row 0), (1, .d false (.int .i64 aC)), (5, .d true (.int .i64 aD))] [.row (some 0) false 50 aH]
noncomputable def Yx.r0 (k : Nat) (a0 : LC) (a1 : Int) (n : Nat) (v : Int × Int × LC) : Option (Int × LC) := (Yx.p k).lp (Zt Try.f23) 2 [1, 0, 1, 0] (Yx.d k a0 a1) n (Yx.s0 v)
theorem Yx.l0_eq (k : Nat) (a0 : LC) (a1 : Int) : ∀ n v, Yx.r0 k a0 a1 n v = Zo (Yx.l0 k (fun z0 z1 => some (z0, z1))) n v :=
 Zm (Yx.s0) _ fun L0 v => by obtain ⟨aC, aD, aH⟩ := v; kernel_rfl
theorem Yx.ok (k : Nat) : Za Try.prog 23 (Yx.e k) := Zh (Yx.p k) mix tyok Try.func23 ⟨Yf.ok k, Yj.ok k, Yg.ok k⟩ (by kernel_rfl) (fun a0 a1 => Eq.trans (b := Yx.m k a0 a1 (fun z0 z1 => some (z0, z1)) (Yx.r0 k a0 a1 k)) (by kernel_rfl) (congrArg (Yx.m k a0 a1 (fun z0 z1 => some (z0, z1))) (funext fun v => Yx.l0_eq k a0 a1 k v) :))
noncomputable def Yl.l0 {β : Type} (k : Nat) (aC : LD) (K : Int → Option β) (L0 : (Int × Int) → Option β) (v : Int × Int) : Option β :=
 match v with
 | (aD, aH) => bif (decide ((aH : Int) < (aC.length : Int))) then (atR aC aH [.s] fun x9 => (Yf.f k aD (fun y10 => bif (!(Zae x9 y10)) then (K (-1)) else (L0 (IntKind.wrap .i64 (aD + 1), IntKind.wrap .i64 (aH + 1)))))) else (K aD)
noncomputable def Yl.m {β : Type} (k : Nat) (a0 : LD) (a1 : Int) (K : Int → Option β) (F : (LD → (Int × Int) → Option β)) : Option β :=
 F a0 (a1, 0)
noncomputable def Yl.g {β : Type} (k : Nat) (a0 : LD) (a1 : Int) (K : Int → Option β) : Option β :=
 Zo (Yl.l0 k a0 K) k (a1, 0)
noncomputable def Yl.t (k : Nat) (a0 : LD) (a1 : Int) : Option (Int) := Yl.g k a0 a1 (fun z0 => some z0)
noncomputable def Yl.f {β : Type} (k : Nat) (a0 : LD) (a1 : Int) (K : Int → Option β) : Option β := bd1 (Yl.t k a0 a1) K
noncomputable def Yl.e (k : Nat) : Zk := ent [.d .l, .d .n] [1] [.n] [3] false (Yl.t k)
noncomputable def Yl.p (k : Nat) : Pro := ⟨Try.prog, [(53, Yf.e k)], Zn [(2, kp [0, 5] [(1, .dat false)])] false [], k⟩
noncomputable def Yl.d (k : Nat) (a0 : LD) (a1 : Int) : Ex → St → Option (Int) := (Yl.p k).fin Try.f77 [.d (.sl a0), .d (.int .i64 a1)] [1] [.n]
noncomputable def Yl.s0 (aC : LD) (v : Int × Int) : St :=
 match v with
 | (aD, aH) => ZX 22 [(0, .d false (.sl aC)), (1, .d false (.int .i64 aD)), (5, .d true (.int .i64 aH))] []
noncomputable def Yl.r0 (k : Nat) (a0 : LD) (a1 : Int) (aC : LD) (n : Nat) (v : Int × Int) : Option (Int) := (Yl.p k).lp (Zt Try.f77) 2 [1, 0, 1, 0] (Yl.d k a0 a1) n (Yl.s0 aC v)
theorem Yl.l0_eq (k : Nat) (a0 : LD) (a1 : Int) (aC : LD) : ∀ n v, Yl.r0 k a0 a1 aC n v = Zo (Yl.l0 k aC (fun z0 => some z0)) n v :=
 Zm (Yl.s0 aC) _ fun L0 v => by obtain ⟨aD, aH⟩ := v; kernel_rfl
theorem Yl.ok (k : Nat) : Za Try.prog 77 (Yl.e k) := Zh (Yl.p k) mix tyok Try.func77 (Yf.ok k) (by kernel_rfl) (fun a0 a1 => Eq.trans (b := Yl.m k a0 a1 (fun z0 => some z0) (fun aC => Yl.r0 k a0 a1 aC k)) (by kernel_rfl) (congrArg (Yl.m k a0 a1 (fun z0 => some z0)) (funext fun aC => funext fun v => Yl.l0_eq k a0 a1 aC k v) :))
noncomputable def Yh.l0 {β : Type} (k : Nat) (r_laws_heldValueS : LD → Int → (Int → Option β) → Option β) (aC : LD) (K : Int → Option β) (L0 : (Int × Int) → Option β) (v : Int × Int) : Option β :=
 match v with
 | (aD, aH) => bif (decide ((aH : Int) < (aC.length : Int))) then (atR aC aH [.n, .s, .n, .l, .l] fun x87 x90 x93 x96 x99 => (bif ((x87 : Int) != aD) then (K (-1)) else (atR aC aH [.n, .s, .n, .l, .l] fun x103 x106 x109 x112 x115 => (Yf.f k (IntKind.wrap .i64 (aD + 1)) (fun y116 => bif (!(Zae x106 y116)) then (K (-1)) else (atR aC aH [.n, .s, .n, .l, .l] fun x120 x123 x126 x129 x132 => (bif ((x126 : Int) != (IntKind.wrap .i64 ((IntKind.wrap .i64 (aD + 1)) + 1))) then (K (-1)) else (atR aC aH [.n, .s, .n, .l, .l] fun x136 x139 x142 x145 x148 => (Yl.f k x145 (IntKind.wrap .i64 ((IntKind.wrap .i64 ((IntKind.wrap .i64 (aD + 1)) + 1)) + 1)) (fun y149 => bif (decide ((y149 : Int) < 0)) then (K (-1)) else (atR aC aH [.n, .s, .n, .l, .l] fun x153 x156 x159 x162 x165 => (r_laws_heldValueS x165 y149 (fun y166 => bif (decide ((y166 : Int) < 0)) then (K (-1)) else (L0 (y166, IntKind.wrap .i64 (aH + 1)))))))))))))))) else (K aD)
noncomputable def Yh.m {β : Type} (k : Nat) (r_laws_heldValueS : LD → Int → (Int → Option β) → Option β) (a0 : LD) (a1 : Int) (K : Int → Option β) (F : (LD → (Int × Int) → Option β)) : Option β :=
 F a0 (a1, 0)
noncomputable def Yh.body {β : Type} (k : Nat) (r_laws_heldValueS : LD → Int → (Int → Option β) → Option β) (a0 : LD) (a1 : Int) (K : Int → Option β) : Option β :=
 Zo (Yh.l0 k r_laws_heldValueS a0 K) k (a1, 0)
noncomputable def Yh.w {β : Type} (r : LD → Int → Option (Int)) (a0 : LD) (a1 : Int) (K : Int → Option β) : Option β := bd1 (r a0 a1) K
noncomputable def Yh.all : Nat → (LD → Int → Option (Int))
 | 0 => (fun _ _ => none)
 | k + 1 => (fun r => (fun a0 a1 => Yh.body k (Yh.w r) a0 a1 (fun z0 => some z0))) (Yh.all k)
noncomputable def Yh.t (k : Nat) (a0 : LD) (a1 : Int) : Option (Int) := (Yh.all k) a0 a1
noncomputable def Yh.f {β : Type} (k : Nat) (a0 : LD) (a1 : Int) (K : Int → Option β) : Option β := Yh.w (Yh.t k) a0 a1 K
noncomputable def Yh.g {β : Type} (k : Nat) (a0 : LD) (a1 : Int) (K : Int → Option β) : Option β := Yh.body k (Yh.f k) a0 a1 K
theorem Yh.t_succ (k : Nat) (a0 : LD) (a1 : Int) : Yh.t (k + 1) a0 a1 = Yh.g k a0 a1 (fun z0 => some z0) := rfl
noncomputable def Yh.e (k : Nat) : Zk := ent [.d .l, .d .n] [1] [.n] [3] false (Yh.t k)
noncomputable def Yh.p (k : Nat) : Pro := ⟨Try.prog, [(53, Yf.e k), (77, Yl.e k), (78, Yh.e k)], Zn [(2, kp [0, 5] [(1, .dat false)])] false [], k⟩
noncomputable def Yh.d (k : Nat) (a0 : LD) (a1 : Int) : Ex → St → Option (Int) := (Yh.p k).fin Try.f78 [.d (.sl a0), .d (.int .i64 a1)] [1] [.n]
noncomputable def Yh.s0 (aC : LD) (v : Int × Int) : St :=
 match v with
 | (aD, aH) => ZX 59 [(0, .d false (.sl aC)), (1, .d false (.int .i64 aD)), (5, .d true (.int .i64 aH))] []
noncomputable def Yh.r0 (k : Nat) (a0 : LD) (a1 : Int) (aC : LD) (n : Nat) (v : Int × Int) : Option (Int) := (Yh.p k).lp (Zt Try.f78) 2 [1, 0, 1, 0] (Yh.d k a0 a1) n (Yh.s0 aC v)
theorem Yh.l0_eq (k : Nat) (a0 : LD) (a1 : Int) (aC : LD) : ∀ n v, Yh.r0 k a0 a1 aC n v = Zo (Yh.l0 k (Yh.f k) aC (fun z0 => some z0)) n v :=
 Zm (Yh.s0 aC) _ fun L0 v => by obtain ⟨aD, aH⟩ := v; kernel_rfl
theorem Yh.oks (k : Nat) : Za Try.prog 78 (Yh.e k) := by
 induction k with
 | zero => exact Z7 Try.func78 (by kernel_rfl) (fun _ _ => rfl)
 | succ k ih => exact Zh (Yh.p k) mix tyok Try.func78 ⟨Yf.ok k, Yl.ok k, ih⟩ (by kernel_rfl) (fun a0 a1 => Eq.trans (b := Yh.m k (Yh.f k) a0 a1 (fun z0 => some z0) (fun aC => Yh.r0 k a0 a1 aC k)) (by kernel_rfl) ((congrArg (Yh.m k (Yh.f k) a0 a1 (fun z0 => some z0)) (funext fun aC => funext fun v => Yh.l0_eq k a0 a1 aC k v)).trans (Yh.t_succ k a0 a1).symm))
theorem Yh.ok (k : Nat) : Za Try.prog 78 (Yh.e k) := (Yh.oks k)
set_option maxRecDepth 100000 in
noncomputable def YF.l0 {β : Type} (k : Nat) (aC : LD) (K : Int → Option β) (L0 : (Int × Int) → Option β) (v : Int × Int) : Option β :=
 match v with
 | (aD, aH) => bif (decide ((aH : Int) < (aC.length : Int))) then (atR aC aH [.n, .s, .n, .n, .n, .b, .l, .n, .s, .n, .l, .l, .n, .s, .n, .l, .l] fun x896 x899 x902 x905 x908 x911 x914 x917 x920 x923 x926 x929 x932 x935 x938 x941 x944 => (bif ((x896 : Int) != aD) then (K (-1)) else (atR aC aH [.n, .s, .n, .n, .n, .b, .l, .n, .s, .n, .l, .l, .n, .s, .n, .l, .l] fun x948 x951 x954 x957 x960 x963 x966 x969 x972 x975 x978 x981 x984 x987 x990 x993 x996 => (Yf.f k (IntKind.wrap .i64 (aD + 1)) (fun y997 => bif (!(Zae x951 y997)) then (K (-1)) else (atR aC aH [.n, .s, .n, .n, .n, .b, .l, .n, .s, .n, .l, .l, .n, .s, .n, .l, .l] fun x1001 x1004 x1007 x1010 x1013 x1016 x1019 x1022 x1025 x1028 x1031 x1034 x1037 x1040 x1043 x1046 x1049 => (bif ((x1007 : Int) != (IntKind.wrap .i64 ((IntKind.wrap .i64 (aD + 1)) + 1))) then (K (-1)) else (atR aC aH [.n, .s, .n, .n, .n, .b, .l, .n, .s, .n, .l, .l, .n, .s, .n, .l, .l] fun x1053 x1056 x1059 x1062 x1065 x1068 x1071 x1074 x1077 x1080 x1083 x1086 x1089 x1092 x1095 x1098 x1101 => let J2 := (IntKind.wrap .i64 ((IntKind.wrap .i64 ((IntKind.wrap .i64 (aD + 1)) + 1)) + 1)); (bif ((x1062 : Int) != J2) then (K (-1)) else (atR aC aH [.n, .s, .n, .n, .n, .b, .l, .n, .s, .n, .l, .l, .n, .s, .n, .l, .l] fun x1105 x1108 x1111 x1114 x1117 x1120 x1123 x1126 x1129 x1132 x1135 x1138 x1141 x1144 x1147 x1150 x1153 => let J1 := (IntKind.wrap .i64 (J2 + 1)); (bif ((x1117 : Int) != J1) then (K (-1)) else (atR aC aH [.n, .s, .n, .n, .n, .b, .l, .n, .s, .n, .l, .l, .n, .s, .n, .l, .l] fun x1157 x1160 x1163 x1166 x1169 x1172 x1175 x1178 x1181 x1184 x1187 x1190 x1193 x1196 x1199 x1202 x1205 => let J0 := (IntKind.wrap .i64 (J1 + 1)); (Zc ((3 : Int) ≠ 0) (bif (!(x1172 == (((Int.tmod J0 3) : Int) == 0))) then (K (-1)) else (atR aC aH [.n, .s, .n, .n, .n, .b, .l, .n, .s, .n, .l, .l, .n, .s, .n, .l, .l] fun x1209 x1212 x1215 x1218 x1221 x1224 x1227 x1230 x1233 x1236 x1239 x1242 x1245 x1248 x1251 x1254 x1257 => (Yl.f k x1227 (IntKind.wrap .i64 (J0 + 1)) (fun y1258 => bif (decide ((y1258 : Int) < 0)) then (K (-1)) else (atR aC aH [.n, .s, .n, .n, .n, .b, .l, .n, .s, .n, .l, .l, .n, .s, .n, .l, .l] fun x1262 x1265 x1268 x1271 x1274 x1277 x1280 x1283 x1286 x1289 x1292 x1295 x1298 x1301 x1304 x1307 x1310 => (bif ((x1283 : Int) != y1258) then (K (-1)) else (atR aC aH [.n, .s, .n, .n, .n, .b, .l, .n, .s, .n, .l, .l, .n, .s, .n, .l, .l] fun x1314 x1317 x1320 x1323 x1326 x1329 x1332 x1335 x1338 x1341 x1344 x1347 x1350 x1353 x1356 x1359 x1362 => (Yf.f k (IntKind.wrap .i64 (y1258 + 1)) (fun y1363 => bif (!(Zae x1338 y1363)) then (K (-1)) else (atR aC aH [.n, .s, .n, .n, .n, .b, .l, .n, .s, .n, .l, .l, .n, .s, .n, .l, .l] fun x1367 x1370 x1373 x1376 x1379 x1382 x1385 x1388 x1391 x1394 x1397 x1400 x1403 x1406 x1409 x1412 x1415 => (bif ((x1394 : Int) != (IntKind.wrap .i64 ((IntKind.wrap .i64 (y1258 + 1)) + 1))) then (K (-1)) else (atR aC aH [.n, .s, .n, .n, .n, .b, .l, .n, .s, .n, .l, .l, .n, .s, .n, .l, .l] fun x1419 x1422 x1425 x1428 x1431 x1434 x1437 x1440 x1443 x1446 x1449 x1452 x1455 x1458 x1461 x1464 x1467 => (Yl.f k x1449 (IntKind.wrap .i64 ((IntKind.wrap .i64 ((IntKind.wrap .i64 (y1258 + 1)) + 1)) + 1)) (fun y1468 => bif (decide ((y1468 : Int) < 0)) then (K (-1)) else (atR aC aH [.n, .s, .n, .n, .n, .b, .l, .n, .s, .n, .l, .l, .n, .s, .n, .l, .l] fun x1472 x1475 x1478 x1481 x1484 x1487 x1490 x1493 x1496 x1499 x1502 x1505 x1508 x1511 x1514 x1517 x1520 => (Yh.f k x1505 y1468 (fun y1521 => bif (decide ((y1521 : Int) < 0)) then (K (-1)) else (atR aC aH [.n, .s, .n, .n, .n, .b, .l, .n, .s, .n, .l, .l, .n, .s, .n, .l, .l] fun x1525 x1528 x1531 x1534 x1537 x1540 x1543 x1546 x1549 x1552 x1555 x1558 x1561 x1564 x1567 x1570 x1573 => (bif ((x1561 : Int) != y1521) then (K (-1)) else (atR aC aH [.n, .s, .n, .n, .n, .b, .l, .n, .s, .n, .l, .l, .n, .s, .n, .l, .l] fun x1577 x1580 x1583 x1586 x1589 x1592 x1595 x1598 x1601 x1604 x1607 x1610 x1613 x1616 x1619 x1622 x1625 => (Yf.f k (IntKind.wrap .i64 (y1521 + 1)) (fun y1626 => bif (!(Zae x1616 y1626)) then (K (-1)) else (atR aC aH [.n, .s, .n, .n, .n, .b, .l, .n, .s, .n, .l, .l, .n, .s, .n, .l, .l] fun x1630 x1633 x1636 x1639 x1642 x1645 x1648 x1651 x1654 x1657 x1660 x1663 x1666 x1669 x1672 x1675 x1678 => (bif ((x1672 : Int) != (IntKind.wrap .i64 ((IntKind.wrap .i64 (y1521 + 1)) + 1))) then (K (-1)) else (atR aC aH [.n, .s, .n, .n, .n, .b, .l, .n, .s, .n, .l, .l, .n, .s, .n, .l, .l] fun x1682 x1685 x1688 x1691 x1694 x1697 x1700 x1703 x1706 x1709 x1712 x1715 x1718 x1721 x1724 x1727 x1730 => (Yl.f k x1727 (IntKind.wrap .i64 ((IntKind.wrap .i64 ((IntKind.wrap .i64 (y1521 + 1)) + 1)) + 1)) (fun y1731 => bif (decide ((y1731 : Int) < 0)) then (K (-1)) else (atR aC aH [.n, .s, .n, .n, .n, .b, .l, .n, .s, .n, .l, .l, .n, .s, .n, .l, .l] fun x1735 x1738 x1741 x1744 x1747 x1750 x1753 x1756 x1759 x1762 x1765 x1768 x1771 x1774 x1777 x1780 x1783 => (Yh.f k x1783 y1731 (fun y1784 => bif (decide ((y1784 : Int) < 0)) then (K (-1)) else (L0 (y1784, IntKind.wrap .i64 (aH + 1)))))))))))))))))))))))))))))))))))))))))))))) else (K aD)
noncomputable def YF.m {β : Type} (k : Nat) (a0 : LD) (a1 : Int) (K : Int → Option β) (F : (LD → (Int × Int) → Option β)) : Option β :=
 F a0 (a1, 0)
noncomputable def YF.g {β : Type} (k : Nat) (a0 : LD) (a1 : Int) (K : Int → Option β) : Option β :=
 Zo (YF.l0 k a0 K) k (a1, 0)
noncomputable def YF.t (k : Nat) (a0 : LD) (a1 : Int) : Option (Int) := YF.g k a0 a1 (fun z0 => some z0)
noncomputable def YF.f {β : Type} (k : Nat) (a0 : LD) (a1 : Int) (K : Int → Option β) : Option β := bd1 (YF.t k a0 a1) K
noncomputable def YF.e (k : Nat) : Zk := ent [.d .l, .d .n] [1] [.n] [3] false (YF.t k)
noncomputable def YF.p (k : Nat) : Pro := ⟨Try.prog, [(53, Yf.e k), (77, Yl.e k), (78, Yh.e k)], Zn [(2, kp [0, 5] [(1, .dat false)])] false [], k⟩
noncomputable def YF.d (k : Nat) (a0 : LD) (a1 : Int) : Ex → St → Option (Int) := (YF.p k).fin Try.f56 [.d (.sl a0), .d (.int .i64 a1)] [1] [.n]
noncomputable def YF.s0 (aC : LD) (v : Int × Int) : St :=
 match v with
 | (aD, aH) => ZX 181 [(0, .d false (.sl aC)), (1, .d false (.int .i64 aD)), (5, .d true (.int .i64 aH))] []
noncomputable def YF.r0 (k : Nat) (a0 : LD) (a1 : Int) (aC : LD) (n : Nat) (v : Int × Int) : Option (Int) := (YF.p k).lp (Zt Try.f56) 2 [1, 0, 1, 0] (YF.d k a0 a1) n (YF.s0 aC v)
theorem YF.l0_eq (k : Nat) (a0 : LD) (a1 : Int) (aC : LD) : ∀ n v, YF.r0 k a0 a1 aC n v = Zo (YF.l0 k aC (fun z0 => some z0)) n v :=
 Zm (YF.s0 aC) _ fun L0 v => by obtain ⟨aD, aH⟩ := v; kernel_rfl
theorem YF.ok (k : Nat) : Za Try.prog 56 (YF.e k) := Zh (YF.p k) mix tyok Try.func56 ⟨Yf.ok k, Yl.ok k, Yh.ok k⟩ (by kernel_rfl) (fun a0 a1 => Eq.trans (b := YF.m k a0 a1 (fun z0 => some z0) (fun aC => YF.r0 k a0 a1 aC k)) (by kernel_rfl) (congrArg (YF.m k a0 a1 (fun z0 => some z0)) (funext fun aC => funext fun v => YF.l0_eq k a0 a1 aC k v) :))
noncomputable def Yad.g {β : Type} (k : Nat) (aB : Int) (aA : LD) (a1 : Int) (K : Int → Option β) : Option β :=
 YF.f k aA a1 (fun y1785 => bif (decide ((y1785 : Int) < 0)) then (K (-1)) else (K y1785))
noncomputable def Yad.t (k : Nat) (aB : Int) (aA : LD) (a1 : Int) : Option (Int) := Yad.g k aB aA a1 (fun z0 => some z0)
noncomputable def Yad.f {β : Type} (k : Nat) (aB : Int) (aA : LD) (a1 : Int) (K : Int → Option β) : Option β := bd1 (Yad.t k aB aA a1) K
noncomputable def Yad.e (k : Nat) : Zk := ent [.agg [.n, .l], .d .n] [1] [.n] [3] false (Yad.t k)
noncomputable def Yad.p (k : Nat) : Pro := ⟨Try.prog, [(56, YF.e k)], Zn [] false [], k⟩
theorem Yad.ok (k : Nat) : Za Try.prog 24 (Yad.e k) := Zh (Yad.p k) mix tyok Try.func24 (YF.ok k) (by kernel_rfl) (fun aB aA a1 => by show _ = _; kernel_rfl)
noncomputable def Yap.g {β : Type} (k : Nat) (aB : Int) (aA a1 : LD) (K : Bool → Option β) : Option β :=
 Yal.f k aB aA 1048576 (fun y108 => bif (decide ((y108 : Int) < 0)) then (K true) else (YE.f k a1 y108 (fun y119 => bif (decide ((y119 : Int) < 0)) then (K true) else (Y5.f k aB aA (fun y141 y142 => Yv.f k a1 (fun y155 => YS.f k y141 (C.immRows y142) (C.immRows y155) (fun y962 y963 y964 => Y5.f k aB aA (fun y965 y966 => Yv.f k a1 (fun y967 => YR.f k y965 (C.immRows y966) (C.immRows y967) (fun y968 y969 y970 => Y6.f k y968 (C.immRows y969) y962 y963 (fun y971 => bif (!y971) then (K false) else (bif (!(y970 == y964)) then (K false) else (Y5.f k aB aA (fun y972 y973 => Y6.f k y965 (C.immRows y966) y972 (C.immRows y973) (fun y974 => bif (!y974) then (K false) else (Yv.f k a1 (fun y975 => YG.f k (C.immRows y967) (C.immRows y975) (fun y976 => bif (!y976) then (K false) else (Y7.f k y965 y966 1 (fun y977 y978 => Zc (y978.length = y966.length) (Yx.f k y967 y977 (fun y979 y980 => Zc (y980.length = y967.length) (bif (decide ((y979 : Int) < 0)) then (K false) else (Y6.f k y968 (C.immRows y969) y962 y963 (fun y981 => bif (!y981) then (K false) else (bif (!(y970 == y964)) then (K false) else (Y7.f k y968 y969 1 (fun y982 y983 => Zc (y983.length = y969.length) (Yad.f k y968 (C.immRows y983) 1 (fun y1786 => bif (decide ((y1786 : Int) < 0)) then (K false) else (bif ((y1786 : Int) != y982) then (K false) else (Y5.f k aB aA (fun y1787 y1788 => Yv.f k a1 (fun y1789 => YR.f k y1787 (C.immRows y1788) (C.immRows y1789) (fun y1790 y1791 y1792 => Y6.f k y1790 (C.immRows y1791) y962 y963 (fun y1793 => bif (!y1793) then (K false) else (bif (!(y1792 == y964)) then (K false) else (Yad.f k y968 (C.immRows y983) 1 (fun y1794 => bif (decide ((y1794 : Int) < 0)) then (K false) else (bif ((y1794 : Int) != y982) then (K false) else (K true)))))))))))))))))))))))))))))))))))))))))
noncomputable def Yap.t (k : Nat) (aB : Int) (aA a1 : LD) : Option (Bool) := Yap.g k aB aA a1 (fun z0 => some z0)
noncomputable def Yap.e (k : Nat) : Zk := ent [.agg [.n, .l], .d .l] [1] [.b] [4] false (Yap.t k)
noncomputable def Yap.p (k : Nat) : Pro := ⟨Try.prog, [(14, Yal.e k), (15, YE.e k), (17, Y5.e k), (18, Yv.e k), (16, YS.e k), (19, YR.e k), (20, Y6.e k), (21, YG.e k), (22, Y7.e k), (23, Yx.e k), (24, Yad.e k)], Zn [] false [], k⟩
theorem Yap.ok (k : Nat) : Za Try.prog 4 (Yap.e k) := Zh (Yap.p k) mix tyok Try.func4 ⟨Yal.ok k, YE.ok k, Y5.ok k, Yv.ok k, YS.ok k, YR.ok k, Y6.ok k, YG.ok k, Y7.ok k, Yx.ok k, Yad.ok k⟩ (by kernel_rfl) (fun aB aA a1 => by show _ = _; kernel_rfl)
end Go.Proofs.Ytlobhlnahhjpjaa
