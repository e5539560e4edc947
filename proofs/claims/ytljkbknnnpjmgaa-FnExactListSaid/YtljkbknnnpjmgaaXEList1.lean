/- Printed: the functions that FnExactList reaches, read by the evaluator, each with its contract. -/
import Derived.Test.YtljkbknnnpjmgaaXEList0
import Derived.KernelRfl
set_option linter.unusedVariables false
set_option linter.unusedSimpArgs false
namespace Go.Proofs.Ytljkbknnnpjmgaa
open Go Go.T Go.Proofs
noncomputable def YB.l0 {β : Type} (k : Nat) (aF aC aH : Bool) (aW bB : Int) (bQ : BA) (bR : Int) (bU bT : LD) (K : Bool → Option β) (L0 : Int → Option β) (v : Int) : Option β :=
 match v with
 | bA => bif (decide ((bA : Int) < aW)) then (atStr bQ bA fun b3 => Y2.f k (IntKind.wrap .i64 b3) 32 126 (fun y4 => bif (!y4) then (K false) else (L0 (IntKind.wrap .i64 (bA + 1))))) else (bif (decide (((bQ.size : Int) : Int) ≤ 100)) then (bif aF then (bif aC then (K aH) else (K false)) else (K false)) else (K false))
noncomputable def YB.g {β : Type} (k : Nat) (aB : Int) (aA : BA) (aE : Int) (aD aG : LD) (K : Bool → Option β) : Option β :=
 bif ((aB : Int) == 1) then (Z4 (YB.l0 k ((aE : Int) == 0) (((aD.length : Int) : Int) == 0) (((aG.length : Int) : Int) == 0) (aA.size : Int) aB aA aE aD aG K) k (0)) else (bif ((aB : Int) == 2) then (bif (strEq aA (⟨#[]⟩ : BA)) then (bif (((aD.length : Int) : Int) == 0) then (K (((aG.length : Int) : Int) == 0)) else (K false)) else (K false)) else (bif ((aB : Int) == 3) then (Y2.f k aE 0 1 (fun y5 => bif (strEq aA (⟨#[]⟩ : BA)) then (bif y5 then (bif (((aD.length : Int) : Int) == 0) then (K (((aG.length : Int) : Int) == 0)) else (K false)) else (K false)) else (K false))) else (bif ((aB : Int) == 4) then (bif (strEq aA (⟨#[]⟩ : BA)) then (bif ((aE : Int) == 0) then (bif (((aD.length : Int) : Int) == 0) then (K true) else (K false)) else (K false)) else (K false)) else (bif ((aB : Int) == 5) then (YL.f k aD 300 (fun y6 => bif y6 then (bif (strEq aA (⟨#[]⟩ : BA)) then (bif ((aE : Int) == 0) then (bif (((aD.length : Int) : Int) == (aG.length : Int)) then (K true) else (K false)) else (K false)) else (K false)) else (bif (strEq aA (⟨#[]⟩ : BA)) then (bif ((aE : Int) == 0) then (K false) else (K false)) else (K false)))) else (K false)))))
noncomputable def YB.t (k : Nat) (aB : Int) (aA : BA) (aE : Int) (aD aG : LD) : Option (Bool) := YB.g k aB aA aE aD aG (fun z0 => some z0)
noncomputable def YB.f {β : Type} (k : Nat) (aB : Int) (aA : BA) (aE : Int) (aD aG : LD) (K : Bool → Option β) : Option β :=
 match YB.t k aB aA aE aD aG with
 | some z0 => K z0
 | none => none
noncomputable def YB.as (aB : Int) (aA : BA) (aE : Int) (aD aG : LD) : List A := [.agg [.int .i64 aB, .str aA, .int .i64 aE, .sl aD, .sl aG]]
noncomputable def YB.kt {β : Type} (aB : Int) (aA : BA) (aE : Int) (aD aG : LD) (K0 : LC → List Out → Option β) : Bool → Option β := fun z0 => K0 [[.d (.bool z0)]] []
noncomputable def YB.e (k : Nat) : ZQ := { modes := [(.imm, 0)], rts := [4], al := false, run := fun {β} l K => match l with | [.agg [.int .i64 aB, .str aA, .int .i64 aE, .sl aD, .sl aG]] => YB.f k aB aA aE aD aG (YB.kt aB aA aE aD aG K) | _ => none }
noncomputable def YB.E (k : Nat) : Env := fun g => bif g == 126 then some (Y2.e k) else bif g == 229 then some (YL.e k) else none
noncomputable def YB.h : ZY := ⟨fun n => bif n == 6 then ⟨[(1, .asis), (4, .asis), (5, .asis), (6, .asis), (28, .asis), (29, .asis)], []⟩ else ⟨[], []⟩, fun _ => none, false, []⟩
noncomputable def YB.s0 (aF aC aH : Bool) (aW bB : Int) (bQ : BA) (bR : Int) (bU bT : LD) (v : Int) : St :=
 match v with
 | bA => ⟨[.any, .bp 0 0, .any, .any, .d true (.bool aF), .d true (.bool aC), .d true (.bool aH), .any, .any, .any, .any, .any, .any, .any, .any, .any, .any, .any, .any, .any, .any, .any, .any, .any, .any, .any, .any, .any, .d true (.int .i64 aW), .d true (.int .i64 bA), .any, .any, .any, .any, .any, .any, .any, .any, .any, .any, .any, .any, .any, .any, .any, .any, .any, .any, .any, .any, .any, .any, .any, .any, .any, .any, .any, .any, .any, .any, .any, .any, .any, .any, .any, .any, .any, .any, .any, .any, .any, .any, .any, .any, .any, .any, .any], [.box none 151 [.d false (.int .i64 bB), .d false (.str bQ), .d false (.int .i64 bR), .d false (.sl bU), .d false (.sl bT)]]⟩
noncomputable def YB.b0 {β : Type} (k : Nat) : St → (Ex → St → Option β) → Option β := fun s K => den Try.prog (YB.E k) YB.h.H YB.h.J k (Zad [1, 1, 0, 1, 0, 1, 0, 0, 1, 0, 0] (Zl Try.f249)) s K
noncomputable def YB.c0 {β : Type} (k : Nat) (aB : Int) (aA : BA) (aE : Int) (aD aG : LD) (K0 : LC → List Out → Option β) : Ex → St → Option β := Zae Try.prog (YB.E k) YB.h k [1, 1, 0, 1, 0, 1, 0, 0, 1, 0] (Zl Try.f249) (Zak Try.prog Try.f249 YB.h (YB.as aB aA aE aD aG) K0)
theorem YB.l0_eq {β : Type} (k : Nat) (aB : Int) (aA : BA) (aE : Int) (aD aG : LD) (K0 : LC → List Out → Option β) (aF aC aH : Bool) (aW bB : Int) (bQ : BA) (bR : Int) (bU bT : LD) : ∀ (kk : Nat) (v : Int), Zx (YB.b0 k) (YB.h.H 6) kk (YB.s0 aF aC aH aW bB bQ bR bU bT v) (YB.c0 k aB aA aE aD aG K0) = Z4 (YB.l0 k aF aC aH aW bB bQ bR bU bT (YB.kt aB aA aE aD aG K0)) kk v :=
 Z9 (YB.s0 aF aC aH aW bB bQ bR bU bT) _ (fun L0 v => by kernel_rfl)
noncomputable def YB.m {β : Type} (k : Nat) (aB : Int) (aA : BA) (aE : Int) (aD aG : LD) (K0 : LC → List Out → Option β) (F : (Bool → Bool → Bool → Int → Int → BA → Int → LD → LD → Int → Option β)) : Option β :=
 bif ((aB : Int) == 1) then ((F) ((aE : Int) == 0) (((aD.length : Int) : Int) == 0) (((aG.length : Int) : Int) == 0) (aA.size : Int) aB aA aE aD aG (0)) else (bif ((aB : Int) == 2) then (bif (strEq aA (⟨#[]⟩ : BA)) then (bif (((aD.length : Int) : Int) == 0) then ((YB.kt aB aA aE aD aG K0) (((aG.length : Int) : Int) == 0)) else ((YB.kt aB aA aE aD aG K0) false)) else ((YB.kt aB aA aE aD aG K0) false)) else (bif ((aB : Int) == 3) then (Y2.f k aE 0 1 (fun y5 => bif (strEq aA (⟨#[]⟩ : BA)) then (bif y5 then (bif (((aD.length : Int) : Int) == 0) then ((YB.kt aB aA aE aD aG K0) (((aG.length : Int) : Int) == 0)) else ((YB.kt aB aA aE aD aG K0) false)) else ((YB.kt aB aA aE aD aG K0) false)) else ((YB.kt aB aA aE aD aG K0) false))) else (bif ((aB : Int) == 4) then (bif (strEq aA (⟨#[]⟩ : BA)) then (bif ((aE : Int) == 0) then (bif (((aD.length : Int) : Int) == 0) then ((YB.kt aB aA aE aD aG K0) true) else ((YB.kt aB aA aE aD aG K0) false)) else ((YB.kt aB aA aE aD aG K0) false)) else ((YB.kt aB aA aE aD aG K0) false)) else (bif ((aB : Int) == 5) then (YL.f k aD 300 (fun y6 => bif y6 then (bif (strEq aA (⟨#[]⟩ : BA)) then (bif ((aE : Int) == 0) then (bif (((aD.length : Int) : Int) == (aG.length : Int)) then ((YB.kt aB aA aE aD aG K0) true) else ((YB.kt aB aA aE aD aG K0) false)) else ((YB.kt aB aA aE aD aG K0) false)) else ((YB.kt aB aA aE aD aG K0) false)) else (bif (strEq aA (⟨#[]⟩ : BA)) then (bif ((aE : Int) == 0) then ((YB.kt aB aA aE aD aG K0) false) else ((YB.kt aB aA aE aD aG K0) false)) else ((YB.kt aB aA aE aD aG K0) false)))) else ((YB.kt aB aA aE aD aG K0) false)))))
theorem YB.f_eq {β : Type} (k : Nat) (aB : Int) (aA : BA) (aE : Int) (aD aG : LD) (K0 : LC → List Out → Option β) : ZJ Try.prog (YB.E k) YB.h k Try.f249 (YB.as aB aA aE aD aG) K0 = YB.g k aB aA aE aD aG (YB.kt aB aA aE aD aG K0) := Eq.trans (b := (YB.m k aB aA aE aD aG K0) (fun (aF : Bool) (aC : Bool) (aH : Bool) (aW : Int) (bB : Int) (bQ : BA) (bR : Int) (bU : LD) (bT : LD) (v : Int) => Zx (YB.b0 k) (YB.h.H 6) k (YB.s0 aF aC aH aW bB bQ bR bU bT v) (YB.c0 k aB aA aE aD aG K0))) (by kernel_rfl) (Eq.trans (congrArg (YB.m k aB aA aE aD aG K0) (funext fun aF => funext fun aC => funext fun aH => funext fun aW => funext fun bB => funext fun bQ => funext fun bR => funext fun bU => funext fun bT => funext fun v => YB.l0_eq k aB aA aE aD aG K0 aF aC aH aW bB bQ bR bU bT k v)) (by kernel_rfl))
noncomputable def YB.dec (rs : LC) (os : List Out) : Option (Bool) := Zd rs fun c1 r2 => Zd c1 fun x3 l4 => cD x3 fun d5 => ZaF d5 fun w0 => Ze l4 <| Ze r2 <| Ze os (some w0)
theorem YB.kt_dec (aB : Int) (aA : BA) (aE : Int) (aD aG : LD) : YB.kt aB aA aE aD aG YB.dec = (fun z0 => some z0) := by kernel_rfl
theorem YB.inj (aB : Int) (aA : BA) (aE : Int) (aD aG : LD) {rs : LC} {os : List Out} {z0 : Bool} (h : YB.dec rs os = some z0) (ho : Zo (YB.as aB aA aE aD aG) os) : rs = [[.d (.bool z0)]] ∧ os = [] := by
 unfold YB.dec at h
 obtain ⟨c1, r2, rfl, h1⟩ := Zb h
 obtain ⟨x3, l4, rfl, h2⟩ := Zb h1
 obtain ⟨d5, rfl, h3⟩ := Zt h2
 obtain ⟨w0, rfl, h4⟩ := Z0 h3
 obtain ⟨rfl, h5⟩ := Zc h4
 obtain ⟨rfl, h6⟩ := Zc h5
 obtain ⟨rfl, h7⟩ := Zc h6
 obtain rfl := Option.some.inj h7
 exact ⟨rfl, rfl⟩
theorem YB.ok (k : Nat) : Zv Try.prog 249 (YB.e k) := by
 refine Zu mix tyok (fn := Try.f249) (c := Zl Try.f249) Try.func249 (by kernel_rfl) (h := YB.h) (k := k) (E := YB.E k) (Zk (Y2.ok k) (Zk (YL.ok k) Zz)) (by kernel_rfl) (by kernel_rfl) rfl (Zq Try.func249 (by kernel_rfl)) ?_
 intro β l K r hr
 simp only [YB.e] at hr
 split at hr
 case h_2 => cases hr
 unfold YB.f at hr
 split at hr
 case h_2 => cases hr
 rename_i hz
 exact ⟨_, _, hr, _, YB.dec, _, (YB.f_eq k _ _ _ _ _ YB.dec).trans (by rw [YB.kt_dec]; exact hz), fun rs os h ho => YB.inj _ _ _ _ _ h ho⟩
noncomputable def Yn.l0 {β : Type} (k : Nat) (r_impl_measured : Int → BA → Int → LD → LD → Int → (Int → Option β) → Option β) (aF : Int) (aH : LD) (aW : Int) (K : Int → Option β) (L0 : (Int × Int) → Option β) (v : Int × Int) : Option β :=
 match v with
 | (aC, bA) => bif (decide ((bA : Int) < aW)) then (ZX aH bA fun c25 => Zd c25 fun d r => ZM .i64 d fun x28 => Zd r fun d r => Zan d fun x31 => Zd r fun d r => ZM .i64 d fun x34 => Zd r fun d r => dSl d fun x37 => Zd r fun d r => dSl d fun x40 => Ze r (r_impl_measured x28 x31 x34 x37 x40 (IntKind.wrap .i64 (aF - 1)) (fun y41 => bif (decide (((IntKind.wrap .i64 (aC + y41)) : Int) > 300)) then (K 301) else (L0 (IntKind.wrap .i64 (aC + y41), IntKind.wrap .i64 (bA + 1)))))) else (K aC)
noncomputable def Yn.body {β : Type} (k : Nat) (r_impl_measured : Int → BA → Int → LD → LD → Int → (Int → Option β) → Option β) (aB : Int) (aA : BA) (aE : Int) (aD aG : LD) (a1 : Int) (K : Int → Option β) : Option β :=
 bif ((a1 : Int) == 0) then (K 301) else (YB.f k aB aA aE aD aG (fun y7 => bif (!y7) then (K 301) else (Z4 (Yn.l0 k r_impl_measured a1 aG (aG.length : Int) K) k (1, 0))))
noncomputable def Yn.w {β : Type} (r : Int → BA → Int → LD → LD → Int → Option (Int)) (aB : Int) (aA : BA) (aE : Int) (aD aG : LD) (a1 : Int) (K : Int → Option β) : Option β :=
 match r aB aA aE aD aG a1 with
 | some z0 => K z0
 | none => none
noncomputable def Yn.all : Nat → (Int → BA → Int → LD → LD → Int → Option (Int))
 | 0 => (fun _ _ _ _ _ _ => none)
 | k + 1 => (fun r => (fun aB aA aE aD aG a1 => Yn.body k (Yn.w r) aB aA aE aD aG a1 (fun z0 => some z0))) (Yn.all k)
noncomputable def Yn.t (k : Nat) (aB : Int) (aA : BA) (aE : Int) (aD aG : LD) (a1 : Int) : Option (Int) := (Yn.all k) aB aA aE aD aG a1
noncomputable def Yn.f {β : Type} (k : Nat) (aB : Int) (aA : BA) (aE : Int) (aD aG : LD) (a1 : Int) (K : Int → Option β) : Option β := Yn.w (Yn.t k) aB aA aE aD aG a1 K
noncomputable def Yn.g {β : Type} (k : Nat) (aB : Int) (aA : BA) (aE : Int) (aD aG : LD) (a1 : Int) (K : Int → Option β) : Option β := Yn.body k (Yn.f k) aB aA aE aD aG a1 K
theorem Yn.t_zero (aB : Int) (aA : BA) (aE : Int) (aD aG : LD) (a1 : Int) : Yn.t 0 aB aA aE aD aG a1 = none := rfl
theorem Yn.t_succ (k : Nat) (aB : Int) (aA : BA) (aE : Int) (aD aG : LD) (a1 : Int) : Yn.t (k + 1) aB aA aE aD aG a1 = Yn.g k aB aA aE aD aG a1 (fun z0 => some z0) := rfl
noncomputable def Yn.as (aB : Int) (aA : BA) (aE : Int) (aD aG : LD) (a1 : Int) : List A := [.agg [.int .i64 aB, .str aA, .int .i64 aE, .sl aD, .sl aG], .d (.int .i64 a1)]
noncomputable def Yn.kt {β : Type} (aB : Int) (aA : BA) (aE : Int) (aD aG : LD) (a1 : Int) (K0 : LC → List Out → Option β) : Int → Option β := fun z0 => K0 [[.d (.int .i64 z0)]] []
noncomputable def Yn.e (k : Nat) : ZQ := { modes := [(.imm, 0), (.imm, 0)], rts := [3], al := false, run := fun {β} l K => match l with | [.agg [.int .i64 aB, .str aA, .int .i64 aE, .sl aD, .sl aG], .d (.int .i64 a1)] => Yn.f k aB aA aE aD aG a1 (Yn.kt aB aA aE aD aG a1 K) | _ => none }
noncomputable def Yn.E (k : Nat) : Env := fun g => bif g == 249 then some (YB.e k) else bif g == 225 then some (Yn.e k) else none
noncomputable def Yn.h : ZY := ⟨fun n => bif n == 5 then ⟨[(1, .asis), (5, .asis), (16, .asis), (17, .asis), (18, .asis)], []⟩ else ⟨[], []⟩, fun _ => none, false, []⟩
noncomputable def Yn.s0 (aF : Int) (aH : LD) (aW : Int) (v : Int × Int) : St :=
 match v with
 | (aC, bA) => ⟨[.any, .d false (.int .i64 aF), .any, .any, .any, .d true (.int .i64 aC), .any, .any, .any, .any, .any, .any, .any, .any, .any, .any, .d false (.sl aH), .d true (.int .i64 aW), .d true (.int .i64 bA), .any, .any, .any, .any, .any, .any, .any, .any, .any, .any, .any, .any, .any], []⟩
noncomputable def Yn.b0 {β : Type} (k : Nat) : St → (Ex → St → Option β) → Option β := fun s K => den Try.prog (Yn.E k) Yn.h.H Yn.h.J k (Zad [1, 1, 1, 0, 1, 0, 0] (Zl Try.f225)) s K
noncomputable def Yn.c0 {β : Type} (k : Nat) (aB : Int) (aA : BA) (aE : Int) (aD aG : LD) (a1 : Int) (K0 : LC → List Out → Option β) : Ex → St → Option β := Zae Try.prog (Yn.E k) Yn.h k [1, 1, 1, 0, 1, 0] (Zl Try.f225) (Zak Try.prog Try.f225 Yn.h (Yn.as aB aA aE aD aG a1) K0)
theorem Yn.l0_eq {β : Type} (k : Nat) (aB : Int) (aA : BA) (aE : Int) (aD aG : LD) (a1 : Int) (K0 : LC → List Out → Option β) (aF : Int) (aH : LD) (aW : Int) : ∀ (kk : Nat) (v : Int × Int), Zx (Yn.b0 k) (Yn.h.H 5) kk (Yn.s0 aF aH aW v) (Yn.c0 k aB aA aE aD aG a1 K0) = Z4 (Yn.l0 k (Yn.f k) aF aH aW (Yn.kt aB aA aE aD aG a1 K0)) kk v :=
 Z9 (Yn.s0 aF aH aW) _ (fun L0 v => by obtain ⟨aC, bA⟩ := v; kernel_rfl)
noncomputable def Yn.m {β : Type} (k : Nat) (aB : Int) (aA : BA) (aE : Int) (aD aG : LD) (a1 : Int) (K0 : LC → List Out → Option β) (F : (Int → LD → Int → (Int × Int) → Option β)) : Option β :=
 bif ((a1 : Int) == 0) then ((Yn.kt aB aA aE aD aG a1 K0) 301) else (YB.f k aB aA aE aD aG (fun y7 => bif (!y7) then ((Yn.kt aB aA aE aD aG a1 K0) 301) else ((F) a1 aG (aG.length : Int) (1, 0))))
theorem Yn.f_eq {β : Type} (k : Nat) (aB : Int) (aA : BA) (aE : Int) (aD aG : LD) (a1 : Int) (K0 : LC → List Out → Option β) : ZJ Try.prog (Yn.E k) Yn.h k Try.f225 (Yn.as aB aA aE aD aG a1) K0 = Yn.g k aB aA aE aD aG a1 (Yn.kt aB aA aE aD aG a1 K0) := Eq.trans (b := (Yn.m k aB aA aE aD aG a1 K0) (fun (aF : Int) (aH : LD) (aW : Int) (v : Int × Int) => Zx (Yn.b0 k) (Yn.h.H 5) k (Yn.s0 aF aH aW v) (Yn.c0 k aB aA aE aD aG a1 K0))) (by kernel_rfl) (Eq.trans (congrArg (Yn.m k aB aA aE aD aG a1 K0) (funext fun aF => funext fun aH => funext fun aW => funext fun v => Yn.l0_eq k aB aA aE aD aG a1 K0 aF aH aW k v)) (by kernel_rfl))
noncomputable def Yn.dec (rs : LC) (os : List Out) : Option (Int) := Zd rs fun c1 r2 => Zd c1 fun x3 l4 => cD x3 fun d5 => ZM .i64 d5 fun w0 => Ze l4 <| Ze r2 <| Ze os (some w0)
theorem Yn.kt_dec (aB : Int) (aA : BA) (aE : Int) (aD aG : LD) (a1 : Int) : Yn.kt aB aA aE aD aG a1 Yn.dec = (fun z0 => some z0) := by kernel_rfl
theorem Yn.inj (aB : Int) (aA : BA) (aE : Int) (aD aG : LD) (a1 : Int) {rs : LC} {os : List Out} {z0 : Int} (h : Yn.dec rs os = some z0) (ho : Zo (Yn.as aB aA aE aD aG a1) os) : rs = [[.d (.int .i64 z0)]] ∧ os = [] := by
 unfold Yn.dec at h
 obtain ⟨c1, r2, rfl, h1⟩ := Zb h
 obtain ⟨x3, l4, rfl, h2⟩ := Zb h1
 obtain ⟨d5, rfl, h3⟩ := Zt h2
 obtain ⟨w0, rfl, h4⟩ := ZA h3
 obtain ⟨rfl, h5⟩ := Zc h4
 obtain ⟨rfl, h6⟩ := Zc h5
 obtain ⟨rfl, h7⟩ := Zc h6
 obtain rfl := Option.some.inj h7
 exact ⟨rfl, rfl⟩
theorem Yn.oks (k : Nat) : Zv Try.prog 225 (Yn.e k) := by
 induction k with
 | zero =>
  refine ?_
  ·exact Zb1 (Zq Try.func225 (by kernel_rfl)) fun β l K r h => by
    simp only [Yn.e] at h
    split at h
    ·unfold Yn.f at h
     unfold Yn.w at h
     rw [Yn.t_zero] at h
     cases h
    ·cases h
 | succ k ih =>
  refine ?_
  ·refine Zu mix tyok (fn := Try.f225) (c := Zl Try.f225) Try.func225 (by kernel_rfl) (h := Yn.h) (k := k) (E := Yn.E k) (Zk (YB.ok k) (Zk ih Zz)) (by kernel_rfl) (by kernel_rfl) rfl (Zq Try.func225 (by kernel_rfl)) ?_
   intro β l K r hr
   simp only [Yn.e] at hr
   split at hr
   case h_2 => cases hr
   unfold Yn.f at hr
   unfold Yn.w at hr
   split at hr
   case h_2 => cases hr
   rename_i hz
   exact ⟨_, _, hr, _, Yn.dec, _, (Yn.f_eq k _ _ _ _ _ _ Yn.dec).trans (by rw [Yn.kt_dec]; exact hz), fun rs os h ho => Yn.inj _ _ _ _ _ _ h ho⟩
theorem Yn.ok (k : Nat) : Zv Try.prog 225 (Yn.e k) := (Yn.oks k)
noncomputable def Y8.g {β : Type} (k : Nat) (aB : Int) (aA : BA) (aE : Int) (aD aG : LD) (K : Bool → Option β) : Option β :=
 Yn.f k aB aA aE aD aG 6 (fun y42 => K (decide ((y42 : Int) ≤ 300)))
noncomputable def Y8.t (k : Nat) (aB : Int) (aA : BA) (aE : Int) (aD aG : LD) : Option (Bool) := Y8.g k aB aA aE aD aG (fun z0 => some z0)
noncomputable def Y8.f {β : Type} (k : Nat) (aB : Int) (aA : BA) (aE : Int) (aD aG : LD) (K : Bool → Option β) : Option β :=
 match Y8.t k aB aA aE aD aG with
 | some z0 => K z0
 | none => none
noncomputable def Y8.as (aB : Int) (aA : BA) (aE : Int) (aD aG : LD) : List A := [.agg [.int .i64 aB, .str aA, .int .i64 aE, .sl aD, .sl aG]]
noncomputable def Y8.kt {β : Type} (aB : Int) (aA : BA) (aE : Int) (aD aG : LD) (K0 : LC → List Out → Option β) : Bool → Option β := fun z0 => K0 [[.d (.bool z0)]] []
noncomputable def Y8.e (k : Nat) : ZQ := { modes := [(.imm, 0)], rts := [4], al := false, run := fun {β} l K => match l with | [.agg [.int .i64 aB, .str aA, .int .i64 aE, .sl aD, .sl aG]] => Y8.f k aB aA aE aD aG (Y8.kt aB aA aE aD aG K) | _ => none }
noncomputable def Y8.E (k : Nat) : Env := fun g => bif g == 225 then some (Yn.e k) else none
noncomputable def Y8.h : ZY := ⟨fun n => ⟨[], []⟩, fun _ => none, false, []⟩
theorem Y8.f_eq {β : Type} (k : Nat) (aB : Int) (aA : BA) (aE : Int) (aD aG : LD) (K0 : LC → List Out → Option β) : ZJ Try.prog (Y8.E k) Y8.h k Try.f188 (Y8.as aB aA aE aD aG) K0 = Y8.g k aB aA aE aD aG (Y8.kt aB aA aE aD aG K0) := by kernel_rfl
noncomputable def Y8.dec (rs : LC) (os : List Out) : Option (Bool) := Zd rs fun c1 r2 => Zd c1 fun x3 l4 => cD x3 fun d5 => ZaF d5 fun w0 => Ze l4 <| Ze r2 <| Ze os (some w0)
theorem Y8.kt_dec (aB : Int) (aA : BA) (aE : Int) (aD aG : LD) : Y8.kt aB aA aE aD aG Y8.dec = (fun z0 => some z0) := by kernel_rfl
theorem Y8.inj (aB : Int) (aA : BA) (aE : Int) (aD aG : LD) {rs : LC} {os : List Out} {z0 : Bool} (h : Y8.dec rs os = some z0) (ho : Zo (Y8.as aB aA aE aD aG) os) : rs = [[.d (.bool z0)]] ∧ os = [] := by
 unfold Y8.dec at h
 obtain ⟨c1, r2, rfl, h1⟩ := Zb h
 obtain ⟨x3, l4, rfl, h2⟩ := Zb h1
 obtain ⟨d5, rfl, h3⟩ := Zt h2
 obtain ⟨w0, rfl, h4⟩ := Z0 h3
 obtain ⟨rfl, h5⟩ := Zc h4
 obtain ⟨rfl, h6⟩ := Zc h5
 obtain ⟨rfl, h7⟩ := Zc h6
 obtain rfl := Option.some.inj h7
 exact ⟨rfl, rfl⟩
theorem Y8.ok (k : Nat) : Zv Try.prog 188 (Y8.e k) := by
 refine Zu mix tyok (fn := Try.f188) (c := Zl Try.f188) Try.func188 (by kernel_rfl) (h := Y8.h) (k := k) (E := Y8.E k) (Zk (Yn.ok k) Zz) (by kernel_rfl) (by kernel_rfl) rfl (Zq Try.func188 (by kernel_rfl)) ?_
 intro β l K r hr
 simp only [Y8.e] at hr
 split at hr
 case h_2 => cases hr
 unfold Y8.f at hr
 split at hr
 case h_2 => cases hr
 rename_i hz
 exact ⟨_, _, hr, _, Y8.dec, _, (Y8.f_eq k _ _ _ _ _ Y8.dec).trans (by rw [Y8.kt_dec]; exact hz), fun rs os h ho => Y8.inj _ _ _ _ _ h ho⟩
noncomputable def Yam.g {β : Type} (k : Nat) (aB : Int) (aA : BA) (aE aD aG : Int) (aT : Bool) (aM : LD) (aQ : Int) (aI : BA) (aR : Int) (aJ aN : LD) (aP : Int) (aK : BA) (aS : Int) (aL aO : LD) (a1 a2 : Int) (a3 : Bool) (K : Bool → Option β) : Option β :=
 Yal.f k aB (fun y2 => bif y2 then (YV.f k aA (fun y9 => bif y9 then (Y2.f k aE 1 a1 (fun y10 => bif y10 then (Y2.f k aD 1 a2 (fun y11 => bif y11 then (Y2.f k aG 1 aD (fun y12 => bif y12 then (YL.f k aM 4 (fun y19 => bif y19 then (bif a3 then (Y8.f k aQ aI aR aJ aN (fun y43 => bif y43 then (Y8.f k aP aK aS aL aO (fun y44 => K y44)) else (K false))) else (bif (!aT) then (Y8.f k aQ aI aR aJ aN (fun y45 => bif y45 then (Y8.f k aP aK aS aL aO (fun y46 => K y46)) else (K false))) else (bif (decide (((aM.length : Int) : Int) > 0)) then (Y8.f k aQ aI aR aJ aN (fun y47 => bif y47 then (Y8.f k aP aK aS aL aO (fun y48 => K y48)) else (K false))) else (K false)))) else (K false))) else (K false))) else (K false))) else (K false))) else (K false))) else (K false))
noncomputable def Yam.t (k : Nat) (aB : Int) (aA : BA) (aE aD aG : Int) (aT : Bool) (aM : LD) (aQ : Int) (aI : BA) (aR : Int) (aJ aN : LD) (aP : Int) (aK : BA) (aS : Int) (aL aO : LD) (a1 a2 : Int) (a3 : Bool) : Option (Bool) := Yam.g k aB aA aE aD aG aT aM aQ aI aR aJ aN aP aK aS aL aO a1 a2 a3 (fun z0 => some z0)
noncomputable def Yam.f {β : Type} (k : Nat) (aB : Int) (aA : BA) (aE aD aG : Int) (aT : Bool) (aM : LD) (aQ : Int) (aI : BA) (aR : Int) (aJ aN : LD) (aP : Int) (aK : BA) (aS : Int) (aL aO : LD) (a1 a2 : Int) (a3 : Bool) (K : Bool → Option β) : Option β :=
 match Yam.t k aB aA aE aD aG aT aM aQ aI aR aJ aN aP aK aS aL aO a1 a2 a3 with
 | some z0 => K z0
 | none => none
noncomputable def Yam.as (aB : Int) (aA : BA) (aE aD aG : Int) (aT : Bool) (aM : LD) (aQ : Int) (aI : BA) (aR : Int) (aJ aN : LD) (aP : Int) (aK : BA) (aS : Int) (aL aO : LD) (a1 a2 : Int) (a3 : Bool) : List A := [.agg [.int .i64 aB, .str aA, .int .i64 aE, .int .i64 aD, .int .i64 aG, .bool aT, .sl aM, .int .i64 aQ, .str aI, .int .i64 aR, .sl aJ, .sl aN, .int .i64 aP, .str aK, .int .i64 aS, .sl aL, .sl aO], .d (.int .i64 a1), .d (.int .i64 a2), .d (.bool a3)]
noncomputable def Yam.kt {β : Type} (aB : Int) (aA : BA) (aE aD aG : Int) (aT : Bool) (aM : LD) (aQ : Int) (aI : BA) (aR : Int) (aJ aN : LD) (aP : Int) (aK : BA) (aS : Int) (aL aO : LD) (a1 a2 : Int) (a3 : Bool) (K0 : LC → List Out → Option β) : Bool → Option β := fun z0 => K0 [[.d (.bool z0)]] []
noncomputable def Yam.e (k : Nat) : ZQ := { modes := [(.imm, 0), (.imm, 0), (.imm, 0), (.imm, 0)], rts := [4], al := false, run := fun {β} l K => match l with | [.agg [.int .i64 aB, .str aA, .int .i64 aE, .int .i64 aD, .int .i64 aG, .bool aT, .sl aM, .int .i64 aQ, .str aI, .int .i64 aR, .sl aJ, .sl aN, .int .i64 aP, .str aK, .int .i64 aS, .sl aL, .sl aO], .d (.int .i64 a1), .d (.int .i64 a2), .d (.bool a3)] => Yam.f k aB aA aE aD aG aT aM aQ aI aR aJ aN aP aK aS aL aO a1 a2 a3 (Yam.kt aB aA aE aD aG aT aM aQ aI aR aJ aN aP aK aS aL aO a1 a2 a3 K) | _ => none }
noncomputable def Yam.E (k : Nat) : Env := fun g => bif g == 228 then some (Yal.e k) else bif g == 97 then some (YV.e k) else bif g == 126 then some (Y2.e k) else bif g == 229 then some (YL.e k) else bif g == 188 then some (Y8.e k) else none
noncomputable def Yam.h : ZY := ⟨fun n => ⟨[], []⟩, fun _ => none, false, []⟩
theorem Yam.f_eq {β : Type} (k : Nat) (aB : Int) (aA : BA) (aE aD aG : Int) (aT : Bool) (aM : LD) (aQ : Int) (aI : BA) (aR : Int) (aJ aN : LD) (aP : Int) (aK : BA) (aS : Int) (aL aO : LD) (a1 a2 : Int) (a3 : Bool) (K0 : LC → List Out → Option β) : ZJ Try.prog (Yam.E k) Yam.h k Try.f196 (Yam.as aB aA aE aD aG aT aM aQ aI aR aJ aN aP aK aS aL aO a1 a2 a3) K0 = Yam.g k aB aA aE aD aG aT aM aQ aI aR aJ aN aP aK aS aL aO a1 a2 a3 (Yam.kt aB aA aE aD aG aT aM aQ aI aR aJ aN aP aK aS aL aO a1 a2 a3 K0) := by kernel_rfl
noncomputable def Yam.dec (rs : LC) (os : List Out) : Option (Bool) := Zd rs fun c1 r2 => Zd c1 fun x3 l4 => cD x3 fun d5 => ZaF d5 fun w0 => Ze l4 <| Ze r2 <| Ze os (some w0)
theorem Yam.kt_dec (aB : Int) (aA : BA) (aE aD aG : Int) (aT : Bool) (aM : LD) (aQ : Int) (aI : BA) (aR : Int) (aJ aN : LD) (aP : Int) (aK : BA) (aS : Int) (aL aO : LD) (a1 a2 : Int) (a3 : Bool) : Yam.kt aB aA aE aD aG aT aM aQ aI aR aJ aN aP aK aS aL aO a1 a2 a3 Yam.dec = (fun z0 => some z0) := by kernel_rfl
theorem Yam.inj (aB : Int) (aA : BA) (aE aD aG : Int) (aT : Bool) (aM : LD) (aQ : Int) (aI : BA) (aR : Int) (aJ aN : LD) (aP : Int) (aK : BA) (aS : Int) (aL aO : LD) (a1 a2 : Int) (a3 : Bool) {rs : LC} {os : List Out} {z0 : Bool} (h : Yam.dec rs os = some z0) (ho : Zo (Yam.as aB aA aE aD aG aT aM aQ aI aR aJ aN aP aK aS aL aO a1 a2 a3) os) : rs = [[.d (.bool z0)]] ∧ os = [] := by
 unfold Yam.dec at h
 obtain ⟨c1, r2, rfl, h1⟩ := Zb h
 obtain ⟨x3, l4, rfl, h2⟩ := Zb h1
 obtain ⟨d5, rfl, h3⟩ := Zt h2
 obtain ⟨w0, rfl, h4⟩ := Z0 h3
 obtain ⟨rfl, h5⟩ := Zc h4
 obtain ⟨rfl, h6⟩ := Zc h5
 obtain ⟨rfl, h7⟩ := Zc h6
 obtain rfl := Option.some.inj h7
 exact ⟨rfl, rfl⟩
theorem Yam.ok (k : Nat) : Zv Try.prog 196 (Yam.e k) := by
 refine Zu mix tyok (fn := Try.f196) (c := Zl Try.f196) Try.func196 (by kernel_rfl) (h := Yam.h) (k := k) (E := Yam.E k) (Zk (Yal.ok k) (Zk (YV.ok k) (Zk (Y2.ok k) (Zk (YL.ok k) (Zk (Y8.ok k) Zz))))) (by kernel_rfl) (by kernel_rfl) rfl (Zq Try.func196 (by kernel_rfl)) ?_
 intro β l K r hr
 simp only [Yam.e] at hr
 split at hr
 case h_2 => cases hr
 unfold Yam.f at hr
 split at hr
 case h_2 => cases hr
 rename_i hz
 exact ⟨_, _, hr, _, Yam.dec, _, (Yam.f_eq k _ _ _ _ _ _ _ _ _ _ _ _ _ _ _ _ _ _ _ _ Yam.dec).trans (by rw [Yam.kt_dec]; exact hz), fun rs os h ho => Yam.inj _ _ _ _ _ _ _ _ _ _ _ _ _ _ _ _ _ _ _ _ h ho⟩
noncomputable def Y9.g {β : Type} (k : Nat) (a0 : Int) (K : Bool → Option β) : Option β :=
 K ((a0 : Int) != a0)
noncomputable def Y9.t (k : Nat) (a0 : Int) : Option (Bool) := Y9.g k a0 (fun z0 => some z0)
noncomputable def Y9.f {β : Type} (k : Nat) (a0 : Int) (K : Bool → Option β) : Option β :=
 match Y9.t k a0 with
 | some z0 => K z0
 | none => none
noncomputable def Y9.as (a0 : Int) : List A := [.d (.int .i64 a0)]
noncomputable def Y9.kt {β : Type} (a0 : Int) (K0 : LC → List Out → Option β) : Bool → Option β := fun z0 => K0 [[.d (.bool z0)]] []
noncomputable def Y9.e (k : Nat) : ZQ := { modes := [(.imm, 0)], rts := [4], al := false, run := fun {β} l K => match l with | [.d (.int .i64 a0)] => Y9.f k a0 (Y9.kt a0 K) | _ => none }
noncomputable def Y9.E (k : Nat) : Env := fun g => none
noncomputable def Y9.h : ZY := ⟨fun n => ⟨[], []⟩, fun _ => none, false, []⟩
theorem Y9.f_eq {β : Type} (k : Nat) (a0 : Int) (K0 : LC → List Out → Option β) : ZJ Try.prog (Y9.E k) Y9.h k Try.f207 (Y9.as a0) K0 = Y9.g k a0 (Y9.kt a0 K0) := by kernel_rfl
noncomputable def Y9.dec (rs : LC) (os : List Out) : Option (Bool) := Zd rs fun c1 r2 => Zd c1 fun x3 l4 => cD x3 fun d5 => ZaF d5 fun w0 => Ze l4 <| Ze r2 <| Ze os (some w0)
theorem Y9.kt_dec (a0 : Int) : Y9.kt a0 Y9.dec = (fun z0 => some z0) := by kernel_rfl
theorem Y9.inj (a0 : Int) {rs : LC} {os : List Out} {z0 : Bool} (h : Y9.dec rs os = some z0) (ho : Zo (Y9.as a0) os) : rs = [[.d (.bool z0)]] ∧ os = [] := by
 unfold Y9.dec at h
 obtain ⟨c1, r2, rfl, h1⟩ := Zb h
 obtain ⟨x3, l4, rfl, h2⟩ := Zb h1
 obtain ⟨d5, rfl, h3⟩ := Zt h2
 obtain ⟨w0, rfl, h4⟩ := Z0 h3
 obtain ⟨rfl, h5⟩ := Zc h4
 obtain ⟨rfl, h6⟩ := Zc h5
 obtain ⟨rfl, h7⟩ := Zc h6
 obtain rfl := Option.some.inj h7
 exact ⟨rfl, rfl⟩
theorem Y9.ok (k : Nat) : Zv Try.prog 207 (Y9.e k) := by
 refine Zu mix tyok (fn := Try.f207) (c := Zl Try.f207) Try.func207 (by kernel_rfl) (h := Y9.h) (k := k) (E := Y9.E k) Zz (by kernel_rfl) (by kernel_rfl) rfl (Zq Try.func207 (by kernel_rfl)) ?_
 intro β l K r hr
 simp only [Y9.e] at hr
 split at hr
 case h_2 => cases hr
 unfold Y9.f at hr
 split at hr
 case h_2 => cases hr
 rename_i hz
 exact ⟨_, _, hr, _, Y9.dec, _, (Y9.f_eq k _ Y9.dec).trans (by rw [Y9.kt_dec]; exact hz), fun rs os h ho => Y9.inj _ h ho⟩
noncomputable def Y1.g {β : Type} (k : Nat) (a0 a1 : Int) (K : Int → Option β) : Option β :=
 Y9.f k a0 (fun y1 => Y9.f k a1 (fun y2 => bif y1 then (bif y2 then (K 0) else (K (-1))) else (bif y2 then (K 1) else (bif (decide ((a0 : Int) < a1)) then (K (-1)) else (bif (decide ((a0 : Int) > a1)) then (K 1) else (K 0))))))
noncomputable def Y1.t (k : Nat) (a0 a1 : Int) : Option (Int) := Y1.g k a0 a1 (fun z0 => some z0)
noncomputable def Y1.f {β : Type} (k : Nat) (a0 a1 : Int) (K : Int → Option β) : Option β :=
 match Y1.t k a0 a1 with
 | some z0 => K z0
 | none => none
noncomputable def Y1.as (a0 a1 : Int) : List A := [.d (.int .i64 a0), .d (.int .i64 a1)]
noncomputable def Y1.kt {β : Type} (a0 a1 : Int) (K0 : LC → List Out → Option β) : Int → Option β := fun z0 => K0 [[.d (.int .i64 z0)]] []
noncomputable def Y1.e (k : Nat) : ZQ := { modes := [(.imm, 0), (.imm, 0)], rts := [3], al := false, run := fun {β} l K => match l with | [.d (.int .i64 a0), .d (.int .i64 a1)] => Y1.f k a0 a1 (Y1.kt a0 a1 K) | _ => none }
noncomputable def Y1.E (k : Nat) : Env := fun g => bif g == 207 then some (Y9.e k) else none
noncomputable def Y1.h : ZY := ⟨fun n => ⟨[], []⟩, fun _ => none, false, []⟩
theorem Y1.f_eq {β : Type} (k : Nat) (a0 a1 : Int) (K0 : LC → List Out → Option β) : ZJ Try.prog (Y1.E k) Y1.h k Try.f147 (Y1.as a0 a1) K0 = Y1.g k a0 a1 (Y1.kt a0 a1 K0) := by kernel_rfl
noncomputable def Y1.dec (rs : LC) (os : List Out) : Option (Int) := Zd rs fun c1 r2 => Zd c1 fun x3 l4 => cD x3 fun d5 => ZM .i64 d5 fun w0 => Ze l4 <| Ze r2 <| Ze os (some w0)
theorem Y1.kt_dec (a0 a1 : Int) : Y1.kt a0 a1 Y1.dec = (fun z0 => some z0) := by kernel_rfl
theorem Y1.inj (a0 a1 : Int) {rs : LC} {os : List Out} {z0 : Int} (h : Y1.dec rs os = some z0) (ho : Zo (Y1.as a0 a1) os) : rs = [[.d (.int .i64 z0)]] ∧ os = [] := by
 unfold Y1.dec at h
 obtain ⟨c1, r2, rfl, h1⟩ := Zb h
 obtain ⟨x3, l4, rfl, h2⟩ := Zb h1
 obtain ⟨d5, rfl, h3⟩ := Zt h2
 obtain ⟨w0, rfl, h4⟩ := ZA h3
 obtain ⟨rfl, h5⟩ := Zc h4
 obtain ⟨rfl, h6⟩ := Zc h5
 obtain ⟨rfl, h7⟩ := Zc h6
 obtain rfl := Option.some.inj h7
 exact ⟨rfl, rfl⟩
theorem Y1.ok (k : Nat) : Zv Try.prog 147 (Y1.e k) := by
 refine Zu mix tyok (fn := Try.f147) (c := Zl Try.f147) Try.func147 (by kernel_rfl) (h := Y1.h) (k := k) (E := Y1.E k) (Zk (Y9.ok k) Zz) (by kernel_rfl) (by kernel_rfl) rfl (Zq Try.func147 (by kernel_rfl)) ?_
 intro β l K r hr
 simp only [Y1.e] at hr
 split at hr
 case h_2 => cases hr
 unfold Y1.f at hr
 split at hr
 case h_2 => cases hr
 rename_i hz
 exact ⟨_, _, hr, _, Y1.dec, _, (Y1.f_eq k _ _ Y1.dec).trans (by rw [Y1.kt_dec]; exact hz), fun rs os h ho => Y1.inj _ _ h ho⟩
noncomputable def Yaq.t (k : Nat) (a0 a1 : BA) : Option Int := some (cmpS a0 a1)
noncomputable def Yaq.f {β : Type} (k : Nat) (a0 a1 : BA) (K : Int → Option β) : Option β :=
 match Yaq.t k a0 a1 with
 | some z0 => K z0
 | none => none
noncomputable def Yaq.run (k : Nat) : {β : Type} → List A → (LC → List Out → Option β) → Option β := fun {β} l K =>
 match l with
 | [.d (.str a0), .d (.str a1)] => Yaq.f k a0 a1 (fun z0 => K [[.d (.int .i64 z0)]] [])
 | _ => none
noncomputable def Yaq.e (k : Nat) : ZQ := { modes := [(.imm, 0), (.imm, 0)], rts := [3], al := false, run := Yaq.run k }
set_option maxHeartbeats 1000000 in
set_option maxRecDepth 100000 in
theorem Yaq.calls (a b : BA) (w : World) : Calls Try.prog 250 #[.string a, .string b] w fun e w' => e = .returned (.int .i64 (cmpS a b)) ∧ w' = w := by
 go_enter Try.func250, Try.ntmps250
 go_wp2
 rw [run_callFunc_extern Try.func265 (by kernel_rfl) (by kernel_rfl) (by kernel_rfl) (e := Extern.BytealgCompare.compare) (by kernel_rfl), Go.Lib.run_compareString]
 simp only [Result.andThen]
 rw [Oper.upon_value]
 go_wp2
 go_ret
 exact ⟨rfl, rfl⟩
theorem Yaq.ok (k : Nat) : Zv Try.prog 250 (Yaq.e k) := strs_ok (t := 3) (g := cmpS) (run := fun {β} => Yaq.run k) (Zq Try.func250 (by kernel_rfl)) (by kernel_rfl) (by kernel_rfl) Yaq.calls (fun β aa K r h => by
 unfold Yaq.run at h
 split at h
 ·exact ⟨_, _, rfl, h⟩
 ·cases h)
noncomputable def Y0.g {β : Type} (k : Nat) (a0 a1 : BA) (K : Int → Option β) : Option β :=
 Yaq.f k a0 a1 (fun y1 => K y1)
noncomputable def Y0.t (k : Nat) (a0 a1 : BA) : Option (Int) := Y0.g k a0 a1 (fun z0 => some z0)
noncomputable def Y0.f {β : Type} (k : Nat) (a0 a1 : BA) (K : Int → Option β) : Option β :=
 match Y0.t k a0 a1 with
 | some z0 => K z0
 | none => none
noncomputable def Y0.as (a0 a1 : BA) : List A := [.d (.str a0), .d (.str a1)]
noncomputable def Y0.kt {β : Type} (a0 a1 : BA) (K0 : LC → List Out → Option β) : Int → Option β := fun z0 => K0 [[.d (.int .i64 z0)]] []
noncomputable def Y0.e (k : Nat) : ZQ := { modes := [(.imm, 0), (.imm, 0)], rts := [3], al := false, run := fun {β} l K => match l with | [.d (.str a0), .d (.str a1)] => Y0.f k a0 a1 (Y0.kt a0 a1 K) | _ => none }
noncomputable def Y0.E (k : Nat) : Env := fun g => bif g == 250 then some (Yaq.e k) else none
noncomputable def Y0.h : ZY := ⟨fun n => ⟨[], []⟩, fun _ => none, false, []⟩
theorem Y0.f_eq {β : Type} (k : Nat) (a0 a1 : BA) (K0 : LC → List Out → Option β) : ZJ Try.prog (Y0.E k) Y0.h k Try.f230 (Y0.as a0 a1) K0 = Y0.g k a0 a1 (Y0.kt a0 a1 K0) := by kernel_rfl
noncomputable def Y0.dec (rs : LC) (os : List Out) : Option (Int) := Zd rs fun c1 r2 => Zd c1 fun x3 l4 => cD x3 fun d5 => ZM .i64 d5 fun w0 => Ze l4 <| Ze r2 <| Ze os (some w0)
theorem Y0.kt_dec (a0 a1 : BA) : Y0.kt a0 a1 Y0.dec = (fun z0 => some z0) := by kernel_rfl
theorem Y0.inj (a0 a1 : BA) {rs : LC} {os : List Out} {z0 : Int} (h : Y0.dec rs os = some z0) (ho : Zo (Y0.as a0 a1) os) : rs = [[.d (.int .i64 z0)]] ∧ os = [] := by
 unfold Y0.dec at h
 obtain ⟨c1, r2, rfl, h1⟩ := Zb h
 obtain ⟨x3, l4, rfl, h2⟩ := Zb h1
 obtain ⟨d5, rfl, h3⟩ := Zt h2
 obtain ⟨w0, rfl, h4⟩ := ZA h3
 obtain ⟨rfl, h5⟩ := Zc h4
 obtain ⟨rfl, h6⟩ := Zc h5
 obtain ⟨rfl, h7⟩ := Zc h6
 obtain rfl := Option.some.inj h7
 exact ⟨rfl, rfl⟩
theorem Y0.ok (k : Nat) : Zv Try.prog 230 (Y0.e k) := by
 refine Zu mix tyok (fn := Try.f230) (c := Zl Try.f230) Try.func230 (by kernel_rfl) (h := Y0.h) (k := k) (E := Y0.E k) (Zk (Yaq.ok k) Zz) (by kernel_rfl) (by kernel_rfl) rfl (Zq Try.func230 (by kernel_rfl)) ?_
 intro β l K r hr
 simp only [Y0.e] at hr
 split at hr
 case h_2 => cases hr
 unfold Y0.f at hr
 split at hr
 case h_2 => cases hr
 rename_i hz
 exact ⟨_, _, hr, _, Y0.dec, _, (Y0.f_eq k _ _ Y0.dec).trans (by rw [Y0.kt_dec]; exact hz), fun rs os h ho => Y0.inj _ _ h ho⟩
noncomputable def Yaf.g {β : Type} (k : Nat) (aB : Int) (aA : BA) (aE aD aG : Int) (aT : Bool) (aM : LD) (aQ : Int) (aI : BA) (aR : Int) (aJ aN : LD) (aP : Int) (aK : BA) (aS : Int) (aL aO : LD) (aU : Int) (aV : BA) (aX aY aZ : Int) (bC : Bool) (bD : LD) (bE : Int) (bF : BA) (bG : Int) (bH bI : LD) (bJ : Int) (bK : BA) (bL : Int) (bM bN : LD) (K : Int → Option β) : Option β :=
 Y1.f k aB aU (fun y3 => bif ((y3 : Int) != 0) then (K y3) else (Y0.f k aA aV (fun y4 => K y4)))
noncomputable def Yaf.t (k : Nat) (aB : Int) (aA : BA) (aE aD aG : Int) (aT : Bool) (aM : LD) (aQ : Int) (aI : BA) (aR : Int) (aJ aN : LD) (aP : Int) (aK : BA) (aS : Int) (aL aO : LD) (aU : Int) (aV : BA) (aX aY aZ : Int) (bC : Bool) (bD : LD) (bE : Int) (bF : BA) (bG : Int) (bH bI : LD) (bJ : Int) (bK : BA) (bL : Int) (bM bN : LD) : Option (Int) := Yaf.g k aB aA aE aD aG aT aM aQ aI aR aJ aN aP aK aS aL aO aU aV aX aY aZ bC bD bE bF bG bH bI bJ bK bL bM bN (fun z0 => some z0)
noncomputable def Yaf.f {β : Type} (k : Nat) (aB : Int) (aA : BA) (aE aD aG : Int) (aT : Bool) (aM : LD) (aQ : Int) (aI : BA) (aR : Int) (aJ aN : LD) (aP : Int) (aK : BA) (aS : Int) (aL aO : LD) (aU : Int) (aV : BA) (aX aY aZ : Int) (bC : Bool) (bD : LD) (bE : Int) (bF : BA) (bG : Int) (bH bI : LD) (bJ : Int) (bK : BA) (bL : Int) (bM bN : LD) (K : Int → Option β) : Option β :=
 match Yaf.t k aB aA aE aD aG aT aM aQ aI aR aJ aN aP aK aS aL aO aU aV aX aY aZ bC bD bE bF bG bH bI bJ bK bL bM bN with
 | some z0 => K z0
 | none => none
noncomputable def Yaf.as (aB : Int) (aA : BA) (aE aD aG : Int) (aT : Bool) (aM : LD) (aQ : Int) (aI : BA) (aR : Int) (aJ aN : LD) (aP : Int) (aK : BA) (aS : Int) (aL aO : LD) (aU : Int) (aV : BA) (aX aY aZ : Int) (bC : Bool) (bD : LD) (bE : Int) (bF : BA) (bG : Int) (bH bI : LD) (bJ : Int) (bK : BA) (bL : Int) (bM bN : LD) : List A := [.agg [.int .i64 aB, .str aA, .int .i64 aE, .int .i64 aD, .int .i64 aG, .bool aT, .sl aM, .int .i64 aQ, .str aI, .int .i64 aR, .sl aJ, .sl aN, .int .i64 aP, .str aK, .int .i64 aS, .sl aL, .sl aO], .agg [.int .i64 aU, .str aV, .int .i64 aX, .int .i64 aY, .int .i64 aZ, .bool bC, .sl bD, .int .i64 bE, .str bF, .int .i64 bG, .sl bH, .sl bI, .int .i64 bJ, .str bK, .int .i64 bL, .sl bM, .sl bN]]
noncomputable def Yaf.kt {β : Type} (aB : Int) (aA : BA) (aE aD aG : Int) (aT : Bool) (aM : LD) (aQ : Int) (aI : BA) (aR : Int) (aJ aN : LD) (aP : Int) (aK : BA) (aS : Int) (aL aO : LD) (aU : Int) (aV : BA) (aX aY aZ : Int) (bC : Bool) (bD : LD) (bE : Int) (bF : BA) (bG : Int) (bH bI : LD) (bJ : Int) (bK : BA) (bL : Int) (bM bN : LD) (K0 : LC → List Out → Option β) : Int → Option β := fun z0 => K0 [[.d (.int .i64 z0)]] []
noncomputable def Yaf.e (k : Nat) : ZQ := { modes := [(.imm, 0), (.imm, 0)], rts := [3], al := false, run := fun {β} l K => match l with | [.agg [.int .i64 aB, .str aA, .int .i64 aE, .int .i64 aD, .int .i64 aG, .bool aT, .sl aM, .int .i64 aQ, .str aI, .int .i64 aR, .sl aJ, .sl aN, .int .i64 aP, .str aK, .int .i64 aS, .sl aL, .sl aO], .agg [.int .i64 aU, .str aV, .int .i64 aX, .int .i64 aY, .int .i64 aZ, .bool bC, .sl bD, .int .i64 bE, .str bF, .int .i64 bG, .sl bH, .sl bI, .int .i64 bJ, .str bK, .int .i64 bL, .sl bM, .sl bN]] => Yaf.f k aB aA aE aD aG aT aM aQ aI aR aJ aN aP aK aS aL aO aU aV aX aY aZ bC bD bE bF bG bH bI bJ bK bL bM bN (Yaf.kt aB aA aE aD aG aT aM aQ aI aR aJ aN aP aK aS aL aO aU aV aX aY aZ bC bD bE bF bG bH bI bJ bK bL bM bN K) | _ => none }
noncomputable def Yaf.E (k : Nat) : Env := fun g => bif g == 147 then some (Y1.e k) else bif g == 230 then some (Y0.e k) else none
noncomputable def Yaf.h : ZY := ⟨fun n => ⟨[], []⟩, fun _ => none, false, []⟩
theorem Yaf.f_eq {β : Type} (k : Nat) (aB : Int) (aA : BA) (aE aD aG : Int) (aT : Bool) (aM : LD) (aQ : Int) (aI : BA) (aR : Int) (aJ aN : LD) (aP : Int) (aK : BA) (aS : Int) (aL aO : LD) (aU : Int) (aV : BA) (aX aY aZ : Int) (bC : Bool) (bD : LD) (bE : Int) (bF : BA) (bG : Int) (bH bI : LD) (bJ : Int) (bK : BA) (bL : Int) (bM bN : LD) (K0 : LC → List Out → Option β) : ZJ Try.prog (Yaf.E k) Yaf.h k Try.f197 (Yaf.as aB aA aE aD aG aT aM aQ aI aR aJ aN aP aK aS aL aO aU aV aX aY aZ bC bD bE bF bG bH bI bJ bK bL bM bN) K0 = Yaf.g k aB aA aE aD aG aT aM aQ aI aR aJ aN aP aK aS aL aO aU aV aX aY aZ bC bD bE bF bG bH bI bJ bK bL bM bN (Yaf.kt aB aA aE aD aG aT aM aQ aI aR aJ aN aP aK aS aL aO aU aV aX aY aZ bC bD bE bF bG bH bI bJ bK bL bM bN K0) := by kernel_rfl
noncomputable def Yaf.dec (rs : LC) (os : List Out) : Option (Int) := Zd rs fun c1 r2 => Zd c1 fun x3 l4 => cD x3 fun d5 => ZM .i64 d5 fun w0 => Ze l4 <| Ze r2 <| Ze os (some w0)
theorem Yaf.kt_dec (aB : Int) (aA : BA) (aE aD aG : Int) (aT : Bool) (aM : LD) (aQ : Int) (aI : BA) (aR : Int) (aJ aN : LD) (aP : Int) (aK : BA) (aS : Int) (aL aO : LD) (aU : Int) (aV : BA) (aX aY aZ : Int) (bC : Bool) (bD : LD) (bE : Int) (bF : BA) (bG : Int) (bH bI : LD) (bJ : Int) (bK : BA) (bL : Int) (bM bN : LD) : Yaf.kt aB aA aE aD aG aT aM aQ aI aR aJ aN aP aK aS aL aO aU aV aX aY aZ bC bD bE bF bG bH bI bJ bK bL bM bN Yaf.dec = (fun z0 => some z0) := by kernel_rfl
theorem Yaf.inj (aB : Int) (aA : BA) (aE aD aG : Int) (aT : Bool) (aM : LD) (aQ : Int) (aI : BA) (aR : Int) (aJ aN : LD) (aP : Int) (aK : BA) (aS : Int) (aL aO : LD) (aU : Int) (aV : BA) (aX aY aZ : Int) (bC : Bool) (bD : LD) (bE : Int) (bF : BA) (bG : Int) (bH bI : LD) (bJ : Int) (bK : BA) (bL : Int) (bM bN : LD) {rs : LC} {os : List Out} {z0 : Int} (h : Yaf.dec rs os = some z0) (ho : Zo (Yaf.as aB aA aE aD aG aT aM aQ aI aR aJ aN aP aK aS aL aO aU aV aX aY aZ bC bD bE bF bG bH bI bJ bK bL bM bN) os) : rs = [[.d (.int .i64 z0)]] ∧ os = [] := by
 unfold Yaf.dec at h
 obtain ⟨c1, r2, rfl, h1⟩ := Zb h
 obtain ⟨x3, l4, rfl, h2⟩ := Zb h1
 obtain ⟨d5, rfl, h3⟩ := Zt h2
 obtain ⟨w0, rfl, h4⟩ := ZA h3
 obtain ⟨rfl, h5⟩ := Zc h4
 obtain ⟨rfl, h6⟩ := Zc h5
 obtain ⟨rfl, h7⟩ := Zc h6
 obtain rfl := Option.some.inj h7
 exact ⟨rfl, rfl⟩
theorem Yaf.ok (k : Nat) : Zv Try.prog 197 (Yaf.e k) := by
 refine Zu mix tyok (fn := Try.f197) (c := Zl Try.f197) Try.func197 (by kernel_rfl) (h := Yaf.h) (k := k) (E := Yaf.E k) (Zk (Y1.ok k) (Zk (Y0.ok k) Zz)) (by kernel_rfl) (by kernel_rfl) rfl (Zq Try.func197 (by kernel_rfl)) ?_
 intro β l K r hr
 simp only [Yaf.e] at hr
 split at hr
 case h_2 => cases hr
 unfold Yaf.f at hr
 split at hr
 case h_2 => cases hr
 rename_i hz
 exact ⟨_, _, hr, _, Yaf.dec, _, (Yaf.f_eq k _ _ _ _ _ _ _ _ _ _ _ _ _ _ _ _ _ _ _ _ _ _ _ _ _ _ _ _ _ _ _ _ _ _ Yaf.dec).trans (by rw [Yaf.kt_dec]; exact hz), fun rs os h ho => Yaf.inj _ _ _ _ _ _ _ _ _ _ _ _ _ _ _ _ _ _ _ _ _ _ _ _ _ _ _ _ _ _ _ _ _ _ h ho⟩
noncomputable def Yaa.g {β : Type} (k : Nat) (aB : Int) (aA : BA) (aE aD aG : Int) (aT : Bool) (aM : LD) (aQ : Int) (aI : BA) (aR : Int) (aJ aN : LD) (aP : Int) (aK : BA) (aS : Int) (aL aO : LD) (f0_0 : Int) (f0_1 : BA) (f0_2 f0_3 f0_4 : Int) (f0_5 : Bool) (f0_6 : LD) (f0_7 : Int) (f0_8 : BA) (f0_9 : Int) (f0_10 f0_11 : LD) (f0_12 : Int) (f0_13 : BA) (f0_14 : Int) (f0_15 f0_16 : LD) (K : Bool → Option β) : Option β :=
 K ((aE : Int) == f0_2)
noncomputable def Yaa.t (k : Nat) (aB : Int) (aA : BA) (aE aD aG : Int) (aT : Bool) (aM : LD) (aQ : Int) (aI : BA) (aR : Int) (aJ aN : LD) (aP : Int) (aK : BA) (aS : Int) (aL aO : LD) (f0_0 : Int) (f0_1 : BA) (f0_2 f0_3 f0_4 : Int) (f0_5 : Bool) (f0_6 : LD) (f0_7 : Int) (f0_8 : BA) (f0_9 : Int) (f0_10 f0_11 : LD) (f0_12 : Int) (f0_13 : BA) (f0_14 : Int) (f0_15 f0_16 : LD) : Option (Bool) := Yaa.g k aB aA aE aD aG aT aM aQ aI aR aJ aN aP aK aS aL aO f0_0 f0_1 f0_2 f0_3 f0_4 f0_5 f0_6 f0_7 f0_8 f0_9 f0_10 f0_11 f0_12 f0_13 f0_14 f0_15 f0_16 (fun z0 => some z0)
noncomputable def Yaa.f {β : Type} (k : Nat) (aB : Int) (aA : BA) (aE aD aG : Int) (aT : Bool) (aM : LD) (aQ : Int) (aI : BA) (aR : Int) (aJ aN : LD) (aP : Int) (aK : BA) (aS : Int) (aL aO : LD) (f0_0 : Int) (f0_1 : BA) (f0_2 f0_3 f0_4 : Int) (f0_5 : Bool) (f0_6 : LD) (f0_7 : Int) (f0_8 : BA) (f0_9 : Int) (f0_10 f0_11 : LD) (f0_12 : Int) (f0_13 : BA) (f0_14 : Int) (f0_15 f0_16 : LD) (K : Bool → Option β) : Option β :=
 match Yaa.t k aB aA aE aD aG aT aM aQ aI aR aJ aN aP aK aS aL aO f0_0 f0_1 f0_2 f0_3 f0_4 f0_5 f0_6 f0_7 f0_8 f0_9 f0_10 f0_11 f0_12 f0_13 f0_14 f0_15 f0_16 with
 | some z0 => K z0
 | none => none
noncomputable def Yaa.as (aB : Int) (aA : BA) (aE aD aG : Int) (aT : Bool) (aM : LD) (aQ : Int) (aI : BA) (aR : Int) (aJ aN : LD) (aP : Int) (aK : BA) (aS : Int) (aL aO : LD) (f0_0 : Int) (f0_1 : BA) (f0_2 f0_3 f0_4 : Int) (f0_5 : Bool) (f0_6 : LD) (f0_7 : Int) (f0_8 : BA) (f0_9 : Int) (f0_10 f0_11 : LD) (f0_12 : Int) (f0_13 : BA) (f0_14 : Int) (f0_15 f0_16 : LD) : List A := [.agg [.int .i64 aB, .str aA, .int .i64 aE, .int .i64 aD, .int .i64 aG, .bool aT, .sl aM, .int .i64 aQ, .str aI, .int .i64 aR, .sl aJ, .sl aN, .int .i64 aP, .str aK, .int .i64 aS, .sl aL, .sl aO], .ip [.int .i64 f0_0, .str f0_1, .int .i64 f0_2, .int .i64 f0_3, .int .i64 f0_4, .bool f0_5, .sl f0_6, .int .i64 f0_7, .str f0_8, .int .i64 f0_9, .sl f0_10, .sl f0_11, .int .i64 f0_12, .str f0_13, .int .i64 f0_14, .sl f0_15, .sl f0_16]]
noncomputable def Yaa.kt {β : Type} (aB : Int) (aA : BA) (aE aD aG : Int) (aT : Bool) (aM : LD) (aQ : Int) (aI : BA) (aR : Int) (aJ aN : LD) (aP : Int) (aK : BA) (aS : Int) (aL aO : LD) (f0_0 : Int) (f0_1 : BA) (f0_2 f0_3 f0_4 : Int) (f0_5 : Bool) (f0_6 : LD) (f0_7 : Int) (f0_8 : BA) (f0_9 : Int) (f0_10 f0_11 : LD) (f0_12 : Int) (f0_13 : BA) (f0_14 : Int) (f0_15 f0_16 : LD) (K0 : LC → List Out → Option β) : Bool → Option β := fun z0 => K0 [[.d (.bool z0)]] []
noncomputable def Yaa.e (k : Nat) : ZQ := { modes := [(.imm, 0), (.imm, 0)], rts := [4], al := false, run := fun {β} l K => match l with | [.agg [.int .i64 aB, .str aA, .int .i64 aE, .int .i64 aD, .int .i64 aG, .bool aT, .sl aM, .int .i64 aQ, .str aI, .int .i64 aR, .sl aJ, .sl aN, .int .i64 aP, .str aK, .int .i64 aS, .sl aL, .sl aO], .ip [.int .i64 f0_0, .str f0_1, .int .i64 f0_2, .int .i64 f0_3, .int .i64 f0_4, .bool f0_5, .sl f0_6, .int .i64 f0_7, .str f0_8, .int .i64 f0_9, .sl f0_10, .sl f0_11, .int .i64 f0_12, .str f0_13, .int .i64 f0_14, .sl f0_15, .sl f0_16]] => Yaa.f k aB aA aE aD aG aT aM aQ aI aR aJ aN aP aK aS aL aO f0_0 f0_1 f0_2 f0_3 f0_4 f0_5 f0_6 f0_7 f0_8 f0_9 f0_10 f0_11 f0_12 f0_13 f0_14 f0_15 f0_16 (Yaa.kt aB aA aE aD aG aT aM aQ aI aR aJ aN aP aK aS aL aO f0_0 f0_1 f0_2 f0_3 f0_4 f0_5 f0_6 f0_7 f0_8 f0_9 f0_10 f0_11 f0_12 f0_13 f0_14 f0_15 f0_16 K) | _ => none }
noncomputable def Yaa.E (k : Nat) : Env := fun g => none
noncomputable def Yaa.h : ZY := ⟨fun n => ⟨[], []⟩, fun _ => none, false, []⟩
theorem Yaa.f_eq {β : Type} (k : Nat) (aB : Int) (aA : BA) (aE aD aG : Int) (aT : Bool) (aM : LD) (aQ : Int) (aI : BA) (aR : Int) (aJ aN : LD) (aP : Int) (aK : BA) (aS : Int) (aL aO : LD) (f0_0 : Int) (f0_1 : BA) (f0_2 f0_3 f0_4 : Int) (f0_5 : Bool) (f0_6 : LD) (f0_7 : Int) (f0_8 : BA) (f0_9 : Int) (f0_10 f0_11 : LD) (f0_12 : Int) (f0_13 : BA) (f0_14 : Int) (f0_15 f0_16 : LD) (K0 : LC → List Out → Option β) : ZJ Try.prog (Yaa.E k) Yaa.h k Try.f199 (Yaa.as aB aA aE aD aG aT aM aQ aI aR aJ aN aP aK aS aL aO f0_0 f0_1 f0_2 f0_3 f0_4 f0_5 f0_6 f0_7 f0_8 f0_9 f0_10 f0_11 f0_12 f0_13 f0_14 f0_15 f0_16) K0 = Yaa.g k aB aA aE aD aG aT aM aQ aI aR aJ aN aP aK aS aL aO f0_0 f0_1 f0_2 f0_3 f0_4 f0_5 f0_6 f0_7 f0_8 f0_9 f0_10 f0_11 f0_12 f0_13 f0_14 f0_15 f0_16 (Yaa.kt aB aA aE aD aG aT aM aQ aI aR aJ aN aP aK aS aL aO f0_0 f0_1 f0_2 f0_3 f0_4 f0_5 f0_6 f0_7 f0_8 f0_9 f0_10 f0_11 f0_12 f0_13 f0_14 f0_15 f0_16 K0) := by kernel_rfl
noncomputable def Yaa.dec (rs : LC) (os : List Out) : Option (Bool) := Zd rs fun c1 r2 => Zd c1 fun x3 l4 => cD x3 fun d5 => ZaF d5 fun w0 => Ze l4 <| Ze r2 <| Ze os (some w0)
theorem Yaa.kt_dec (aB : Int) (aA : BA) (aE aD aG : Int) (aT : Bool) (aM : LD) (aQ : Int) (aI : BA) (aR : Int) (aJ aN : LD) (aP : Int) (aK : BA) (aS : Int) (aL aO : LD) (f0_0 : Int) (f0_1 : BA) (f0_2 f0_3 f0_4 : Int) (f0_5 : Bool) (f0_6 : LD) (f0_7 : Int) (f0_8 : BA) (f0_9 : Int) (f0_10 f0_11 : LD) (f0_12 : Int) (f0_13 : BA) (f0_14 : Int) (f0_15 f0_16 : LD) : Yaa.kt aB aA aE aD aG aT aM aQ aI aR aJ aN aP aK aS aL aO f0_0 f0_1 f0_2 f0_3 f0_4 f0_5 f0_6 f0_7 f0_8 f0_9 f0_10 f0_11 f0_12 f0_13 f0_14 f0_15 f0_16 Yaa.dec = (fun z0 => some z0) := by kernel_rfl
theorem Yaa.inj (aB : Int) (aA : BA) (aE aD aG : Int) (aT : Bool) (aM : LD) (aQ : Int) (aI : BA) (aR : Int) (aJ aN : LD) (aP : Int) (aK : BA) (aS : Int) (aL aO : LD) (f0_0 : Int) (f0_1 : BA) (f0_2 f0_3 f0_4 : Int) (f0_5 : Bool) (f0_6 : LD) (f0_7 : Int) (f0_8 : BA) (f0_9 : Int) (f0_10 f0_11 : LD) (f0_12 : Int) (f0_13 : BA) (f0_14 : Int) (f0_15 f0_16 : LD) {rs : LC} {os : List Out} {z0 : Bool} (h : Yaa.dec rs os = some z0) (ho : Zo (Yaa.as aB aA aE aD aG aT aM aQ aI aR aJ aN aP aK aS aL aO f0_0 f0_1 f0_2 f0_3 f0_4 f0_5 f0_6 f0_7 f0_8 f0_9 f0_10 f0_11 f0_12 f0_13 f0_14 f0_15 f0_16) os) : rs = [[.d (.bool z0)]] ∧ os = [] := by
 unfold Yaa.dec at h
 obtain ⟨c1, r2, rfl, h1⟩ := Zb h
 obtain ⟨x3, l4, rfl, h2⟩ := Zb h1
 obtain ⟨d5, rfl, h3⟩ := Zt h2
 obtain ⟨w0, rfl, h4⟩ := Z0 h3
 obtain ⟨rfl, h5⟩ := Zc h4
 obtain ⟨rfl, h6⟩ := Zc h5
 obtain ⟨rfl, h7⟩ := Zc h6
 obtain rfl := Option.some.inj h7
 exact ⟨rfl, rfl⟩
theorem Yaa.ok (k : Nat) : Zv Try.prog 199 (Yaa.e k) := by
 refine Zu mix tyok (fn := Try.f199) (c := Zl Try.f199) Try.func199 (by kernel_rfl) (h := Yaa.h) (k := k) (E := Yaa.E k) Zz (by kernel_rfl) (by kernel_rfl) rfl (Zq Try.func199 (by kernel_rfl)) ?_
 intro β l K r hr
 simp only [Yaa.e] at hr
 split at hr
 case h_2 => cases hr
 unfold Yaa.f at hr
 split at hr
 case h_2 => cases hr
 rename_i hz
 exact ⟨_, _, hr, _, Yaa.dec, _, (Yaa.f_eq k _ _ _ _ _ _ _ _ _ _ _ _ _ _ _ _ _ _ _ _ _ _ _ _ _ _ _ _ _ _ _ _ _ _ Yaa.dec).trans (by rw [Yaa.kt_dec]; exact hz), fun rs os h ho => Yaa.inj _ _ _ _ _ _ _ _ _ _ _ _ _ _ _ _ _ _ _ _ _ _ _ _ _ _ _ _ _ _ _ _ _ _ h ho⟩
noncomputable def Ya.l0 {β : Type} (k : Nat) (aF : LD) (aC : Int) (aH : BA) (aW bA bB : Int) (bQ : Bool) (bR : LD) (bU : Int) (bT : BA) (bW : Int) (bV v0_12 : LD) (v0_13 : Int) (v0_14 : BA) (v0_15 : Int) (v0_16 v0_17 : LD) (v0_18 : Int) (K L0 : Int → Option β) (v : Int) : Option β :=
 match v with
 | v0_19 => bif (decide ((v0_19 : Int) < v0_18)) then (ZX aF v0_19 fun c54 => Zd c54 fun d r => ZM .i64 d fun x57 => Zd r fun d r => Zan d fun x60 => Zd r fun d r => ZM .i64 d fun x63 => Zd r fun d r => ZM .i64 d fun x66 => Zd r fun d r => ZM .i64 d fun x69 => Zd r fun d r => ZaF d fun x72 => Zd r fun d r => dSl d fun x75 => Zd r fun d r => ZM .i64 d fun x78 => Zd r fun d r => Zan d fun x81 => Zd r fun d r => ZM .i64 d fun x84 => Zd r fun d r => dSl d fun x87 => Zd r fun d r => dSl d fun x90 => Zd r fun d r => ZM .i64 d fun x93 => Zd r fun d r => Zan d fun x96 => Zd r fun d r => ZM .i64 d fun x99 => Zd r fun d r => dSl d fun x102 => Zd r fun d r => dSl d fun x105 => Ze r (Yaa.f k x57 x60 x63 x66 x69 x72 x75 x78 x81 x84 x87 x90 x93 x96 x99 x102 x105 aC aH aW bA bB bQ bR bU bT bW bV v0_12 v0_13 v0_14 v0_15 v0_16 v0_17 (fun y106 => bif y106 then (K v0_19) else (L0 (IntKind.wrap .i64 (v0_19 + 1)))))) else (K (-1))
noncomputable def Ya.g {β : Type} (k : Nat) (a0 : LD) (a1_0_0 : Int) (a1_0_1 : BA) (a1_0_2 a1_0_3 a1_0_4 : Int) (a1_0_5 : Bool) (a1_0_6 : LD) (a1_0_7 : Int) (a1_0_8 : BA) (a1_0_9 : Int) (a1_0_10 a1_0_11 : LD) (a1_0_12 : Int) (a1_0_13 : BA) (a1_0_14 : Int) (a1_0_15 a1_0_16 : LD) (K : Int → Option β) : Option β :=
 Z4 (Ya.l0 k a0 a1_0_0 a1_0_1 a1_0_2 a1_0_3 a1_0_4 a1_0_5 a1_0_6 a1_0_7 a1_0_8 a1_0_9 a1_0_10 a1_0_11 a1_0_12 a1_0_13 a1_0_14 a1_0_15 a1_0_16 (a0.length : Int) K) k (0)
noncomputable def Ya.t (k : Nat) (a0 : LD) (a1_0_0 : Int) (a1_0_1 : BA) (a1_0_2 a1_0_3 a1_0_4 : Int) (a1_0_5 : Bool) (a1_0_6 : LD) (a1_0_7 : Int) (a1_0_8 : BA) (a1_0_9 : Int) (a1_0_10 a1_0_11 : LD) (a1_0_12 : Int) (a1_0_13 : BA) (a1_0_14 : Int) (a1_0_15 a1_0_16 : LD) : Option (Int) := Ya.g k a0 a1_0_0 a1_0_1 a1_0_2 a1_0_3 a1_0_4 a1_0_5 a1_0_6 a1_0_7 a1_0_8 a1_0_9 a1_0_10 a1_0_11 a1_0_12 a1_0_13 a1_0_14 a1_0_15 a1_0_16 (fun z0 => some z0)
noncomputable def Ya.f {β : Type} (k : Nat) (a0 : LD) (a1_0_0 : Int) (a1_0_1 : BA) (a1_0_2 a1_0_3 a1_0_4 : Int) (a1_0_5 : Bool) (a1_0_6 : LD) (a1_0_7 : Int) (a1_0_8 : BA) (a1_0_9 : Int) (a1_0_10 a1_0_11 : LD) (a1_0_12 : Int) (a1_0_13 : BA) (a1_0_14 : Int) (a1_0_15 a1_0_16 : LD) (K : Int → Option β) : Option β :=
 match Ya.t k a0 a1_0_0 a1_0_1 a1_0_2 a1_0_3 a1_0_4 a1_0_5 a1_0_6 a1_0_7 a1_0_8 a1_0_9 a1_0_10 a1_0_11 a1_0_12 a1_0_13 a1_0_14 a1_0_15 a1_0_16 with
 | some z0 => K z0
 | none => none
noncomputable def Ya.as (a0 : LD) (a1_0_0 : Int) (a1_0_1 : BA) (a1_0_2 a1_0_3 a1_0_4 : Int) (a1_0_5 : Bool) (a1_0_6 : LD) (a1_0_7 : Int) (a1_0_8 : BA) (a1_0_9 : Int) (a1_0_10 a1_0_11 : LD) (a1_0_12 : Int) (a1_0_13 : BA) (a1_0_14 : Int) (a1_0_15 a1_0_16 : LD) : List A := [.d (.sl a0), .d (.fn 199 [[.int .i64 a1_0_0, .str a1_0_1, .int .i64 a1_0_2, .int .i64 a1_0_3, .int .i64 a1_0_4, .bool a1_0_5, .sl a1_0_6, .int .i64 a1_0_7, .str a1_0_8, .int .i64 a1_0_9, .sl a1_0_10, .sl a1_0_11, .int .i64 a1_0_12, .str a1_0_13, .int .i64 a1_0_14, .sl a1_0_15, .sl a1_0_16]])]
noncomputable def Ya.kt {β : Type} (a0 : LD) (a1_0_0 : Int) (a1_0_1 : BA) (a1_0_2 a1_0_3 a1_0_4 : Int) (a1_0_5 : Bool) (a1_0_6 : LD) (a1_0_7 : Int) (a1_0_8 : BA) (a1_0_9 : Int) (a1_0_10 a1_0_11 : LD) (a1_0_12 : Int) (a1_0_13 : BA) (a1_0_14 : Int) (a1_0_15 a1_0_16 : LD) (K0 : LC → List Out → Option β) : Int → Option β := fun z0 => K0 [[.d (.int .i64 z0)]] []
noncomputable def Ya.e (k : Nat) : ZQ := { modes := [(.imm, 0), (.imm, 0)], rts := [3], al := false, run := fun {β} l K => match l with | [.d (.sl a0), .d (.fn 199 [[.int .i64 a1_0_0, .str a1_0_1, .int .i64 a1_0_2, .int .i64 a1_0_3, .int .i64 a1_0_4, .bool a1_0_5, .sl a1_0_6, .int .i64 a1_0_7, .str a1_0_8, .int .i64 a1_0_9, .sl a1_0_10, .sl a1_0_11, .int .i64 a1_0_12, .str a1_0_13, .int .i64 a1_0_14, .sl a1_0_15, .sl a1_0_16]])] => Ya.f k a0 a1_0_0 a1_0_1 a1_0_2 a1_0_3 a1_0_4 a1_0_5 a1_0_6 a1_0_7 a1_0_8 a1_0_9 a1_0_10 a1_0_11 a1_0_12 a1_0_13 a1_0_14 a1_0_15 a1_0_16 (Ya.kt a0 a1_0_0 a1_0_1 a1_0_2 a1_0_3 a1_0_4 a1_0_5 a1_0_6 a1_0_7 a1_0_8 a1_0_9 a1_0_10 a1_0_11 a1_0_12 a1_0_13 a1_0_14 a1_0_15 a1_0_16 K) | _ => none }
noncomputable def Ya.E (k : Nat) : Env := fun g => bif g == 199 then some (Yaa.e k) else none
noncomputable def Ya.h : ZY := ⟨fun n => bif n == 2 then ⟨[(0, .asis), (1, .asis), (7, .asis), (8, .asis)], []⟩ else ⟨[], []⟩, fun _ => none, false, []⟩
noncomputable def Ya.s0 (aF : LD) (aC : Int) (aH : BA) (aW bA bB : Int) (bQ : Bool) (bR : LD) (bU : Int) (bT : BA) (bW : Int) (bV v0_12 : LD) (v0_13 : Int) (v0_14 : BA) (v0_15 : Int) (v0_16 v0_17 : LD) (v0_18 v : Int) : St :=
 match v with
 | v0_19 => ⟨[.d false (.sl aF), .d false (.fn 199 [[.int .i64 aC, .str aH, .int .i64 aW, .int .i64 bA, .int .i64 bB, .bool bQ, .sl bR, .int .i64 bU, .str bT, .int .i64 bW, .sl bV, .sl v0_12, .int .i64 v0_13, .str v0_14, .int .i64 v0_15, .sl v0_16, .sl v0_17]]), .any, .any, .any, .any, .any, .d true (.int .i64 v0_18), .d true (.int .i64 v0_19), .any, .any, .any, .any, .any, .any, .any, .any, .any, .any], []⟩
noncomputable def Ya.b0 {β : Type} (k : Nat) : St → (Ex → St → Option β) → Option β := fun s K => den Try.prog (Ya.E k) Ya.h.H Ya.h.J k (Zad [1, 0, 1, 0, 0] (Zl Try.f231)) s K
noncomputable def Ya.c0 {β : Type} (k : Nat) (a0 : LD) (a1_0_0 : Int) (a1_0_1 : BA) (a1_0_2 a1_0_3 a1_0_4 : Int) (a1_0_5 : Bool) (a1_0_6 : LD) (a1_0_7 : Int) (a1_0_8 : BA) (a1_0_9 : Int) (a1_0_10 a1_0_11 : LD) (a1_0_12 : Int) (a1_0_13 : BA) (a1_0_14 : Int) (a1_0_15 a1_0_16 : LD) (K0 : LC → List Out → Option β) : Ex → St → Option β := Zae Try.prog (Ya.E k) Ya.h k [1, 0, 1, 0] (Zl Try.f231) (Zak Try.prog Try.f231 Ya.h (Ya.as a0 a1_0_0 a1_0_1 a1_0_2 a1_0_3 a1_0_4 a1_0_5 a1_0_6 a1_0_7 a1_0_8 a1_0_9 a1_0_10 a1_0_11 a1_0_12 a1_0_13 a1_0_14 a1_0_15 a1_0_16) K0)
theorem Ya.l0_eq {β : Type} (k : Nat) (a0 : LD) (a1_0_0 : Int) (a1_0_1 : BA) (a1_0_2 a1_0_3 a1_0_4 : Int) (a1_0_5 : Bool) (a1_0_6 : LD) (a1_0_7 : Int) (a1_0_8 : BA) (a1_0_9 : Int) (a1_0_10 a1_0_11 : LD) (a1_0_12 : Int) (a1_0_13 : BA) (a1_0_14 : Int) (a1_0_15 a1_0_16 : LD) (K0 : LC → List Out → Option β) (aF : LD) (aC : Int) (aH : BA) (aW bA bB : Int) (bQ : Bool) (bR : LD) (bU : Int) (bT : BA) (bW : Int) (bV v0_12 : LD) (v0_13 : Int) (v0_14 : BA) (v0_15 : Int) (v0_16 v0_17 : LD) (v0_18 : Int) : ∀ (kk : Nat) (v : Int), Zx (Ya.b0 k) (Ya.h.H 2) kk (Ya.s0 aF aC aH aW bA bB bQ bR bU bT bW bV v0_12 v0_13 v0_14 v0_15 v0_16 v0_17 v0_18 v) (Ya.c0 k a0 a1_0_0 a1_0_1 a1_0_2 a1_0_3 a1_0_4 a1_0_5 a1_0_6 a1_0_7 a1_0_8 a1_0_9 a1_0_10 a1_0_11 a1_0_12 a1_0_13 a1_0_14 a1_0_15 a1_0_16 K0) = Z4 (Ya.l0 k aF aC aH aW bA bB bQ bR bU bT bW bV v0_12 v0_13 v0_14 v0_15 v0_16 v0_17 v0_18 (Ya.kt a0 a1_0_0 a1_0_1 a1_0_2 a1_0_3 a1_0_4 a1_0_5 a1_0_6 a1_0_7 a1_0_8 a1_0_9 a1_0_10 a1_0_11 a1_0_12 a1_0_13 a1_0_14 a1_0_15 a1_0_16 K0)) kk v :=
 Z9 (Ya.s0 aF aC aH aW bA bB bQ bR bU bT bW bV v0_12 v0_13 v0_14 v0_15 v0_16 v0_17 v0_18) _ (fun L0 v => by kernel_rfl)
noncomputable def Ya.m {β : Type} (k : Nat) (a0 : LD) (a1_0_0 : Int) (a1_0_1 : BA) (a1_0_2 a1_0_3 a1_0_4 : Int) (a1_0_5 : Bool) (a1_0_6 : LD) (a1_0_7 : Int) (a1_0_8 : BA) (a1_0_9 : Int) (a1_0_10 a1_0_11 : LD) (a1_0_12 : Int) (a1_0_13 : BA) (a1_0_14 : Int) (a1_0_15 a1_0_16 : LD) (K0 : LC → List Out → Option β) (F : (LD → Int → BA → Int → Int → Int → Bool → LD → Int → BA → Int → LD → LD → Int → BA → Int → LD → LD → Int → Int → Option β)) : Option β :=
 (F) a0 a1_0_0 a1_0_1 a1_0_2 a1_0_3 a1_0_4 a1_0_5 a1_0_6 a1_0_7 a1_0_8 a1_0_9 a1_0_10 a1_0_11 a1_0_12 a1_0_13 a1_0_14 a1_0_15 a1_0_16 (a0.length : Int) (0)
theorem Ya.f_eq {β : Type} (k : Nat) (a0 : LD) (a1_0_0 : Int) (a1_0_1 : BA) (a1_0_2 a1_0_3 a1_0_4 : Int) (a1_0_5 : Bool) (a1_0_6 : LD) (a1_0_7 : Int) (a1_0_8 : BA) (a1_0_9 : Int) (a1_0_10 a1_0_11 : LD) (a1_0_12 : Int) (a1_0_13 : BA) (a1_0_14 : Int) (a1_0_15 a1_0_16 : LD) (K0 : LC → List Out → Option β) : ZJ Try.prog (Ya.E k) Ya.h k Try.f231 (Ya.as a0 a1_0_0 a1_0_1 a1_0_2 a1_0_3 a1_0_4 a1_0_5 a1_0_6 a1_0_7 a1_0_8 a1_0_9 a1_0_10 a1_0_11 a1_0_12 a1_0_13 a1_0_14 a1_0_15 a1_0_16) K0 = Ya.g k a0 a1_0_0 a1_0_1 a1_0_2 a1_0_3 a1_0_4 a1_0_5 a1_0_6 a1_0_7 a1_0_8 a1_0_9 a1_0_10 a1_0_11 a1_0_12 a1_0_13 a1_0_14 a1_0_15 a1_0_16 (Ya.kt a0 a1_0_0 a1_0_1 a1_0_2 a1_0_3 a1_0_4 a1_0_5 a1_0_6 a1_0_7 a1_0_8 a1_0_9 a1_0_10 a1_0_11 a1_0_12 a1_0_13 a1_0_14 a1_0_15 a1_0_16 K0) := Eq.trans (b := (Ya.m k a0 a1_0_0 a1_0_1 a1_0_2 a1_0_3 a1_0_4 a1_0_5 a1_0_6 a1_0_7 a1_0_8 a1_0_9 a1_0_10 a1_0_11 a1_0_12 a1_0_13 a1_0_14 a1_0_15 a1_0_16 K0) (fun (aF : LD) (aC : Int) (aH : BA) (aW : Int) (bA : Int) (bB : Int) (bQ : Bool) (bR : LD) (bU : Int) (bT : BA) (bW : Int) (bV : LD) (v0_12 : LD) (v0_13 : Int) (v0_14 : BA) (v0_15 : Int) (v0_16 : LD) (v0_17 : LD) (v0_18 : Int) (v : Int) => Zx (Ya.b0 k) (Ya.h.H 2) k (Ya.s0 aF aC aH aW bA bB bQ bR bU bT bW bV v0_12 v0_13 v0_14 v0_15 v0_16 v0_17 v0_18 v) (Ya.c0 k a0 a1_0_0 a1_0_1 a1_0_2 a1_0_3 a1_0_4 a1_0_5 a1_0_6 a1_0_7 a1_0_8 a1_0_9 a1_0_10 a1_0_11 a1_0_12 a1_0_13 a1_0_14 a1_0_15 a1_0_16 K0))) (by kernel_rfl) (Eq.trans (congrArg (Ya.m k a0 a1_0_0 a1_0_1 a1_0_2 a1_0_3 a1_0_4 a1_0_5 a1_0_6 a1_0_7 a1_0_8 a1_0_9 a1_0_10 a1_0_11 a1_0_12 a1_0_13 a1_0_14 a1_0_15 a1_0_16 K0) (funext fun aF => funext fun aC => funext fun aH => funext fun aW => funext fun bA => funext fun bB => funext fun bQ => funext fun bR => funext fun bU => funext fun bT => funext fun bW => funext fun bV => funext fun v0_12 => funext fun v0_13 => funext fun v0_14 => funext fun v0_15 => funext fun v0_16 => funext fun v0_17 => funext fun v0_18 => funext fun v => Ya.l0_eq k a0 a1_0_0 a1_0_1 a1_0_2 a1_0_3 a1_0_4 a1_0_5 a1_0_6 a1_0_7 a1_0_8 a1_0_9 a1_0_10 a1_0_11 a1_0_12 a1_0_13 a1_0_14 a1_0_15 a1_0_16 K0 aF aC aH aW bA bB bQ bR bU bT bW bV v0_12 v0_13 v0_14 v0_15 v0_16 v0_17 v0_18 k v)) (by kernel_rfl))
noncomputable def Ya.dec (rs : LC) (os : List Out) : Option (Int) := Zd rs fun c1 r2 => Zd c1 fun x3 l4 => cD x3 fun d5 => ZM .i64 d5 fun w0 => Ze l4 <| Ze r2 <| Ze os (some w0)
theorem Ya.kt_dec (a0 : LD) (a1_0_0 : Int) (a1_0_1 : BA) (a1_0_2 a1_0_3 a1_0_4 : Int) (a1_0_5 : Bool) (a1_0_6 : LD) (a1_0_7 : Int) (a1_0_8 : BA) (a1_0_9 : Int) (a1_0_10 a1_0_11 : LD) (a1_0_12 : Int) (a1_0_13 : BA) (a1_0_14 : Int) (a1_0_15 a1_0_16 : LD) : Ya.kt a0 a1_0_0 a1_0_1 a1_0_2 a1_0_3 a1_0_4 a1_0_5 a1_0_6 a1_0_7 a1_0_8 a1_0_9 a1_0_10 a1_0_11 a1_0_12 a1_0_13 a1_0_14 a1_0_15 a1_0_16 Ya.dec = (fun z0 => some z0) := by kernel_rfl
theorem Ya.inj (a0 : LD) (a1_0_0 : Int) (a1_0_1 : BA) (a1_0_2 a1_0_3 a1_0_4 : Int) (a1_0_5 : Bool) (a1_0_6 : LD) (a1_0_7 : Int) (a1_0_8 : BA) (a1_0_9 : Int) (a1_0_10 a1_0_11 : LD) (a1_0_12 : Int) (a1_0_13 : BA) (a1_0_14 : Int) (a1_0_15 a1_0_16 : LD) {rs : LC} {os : List Out} {z0 : Int} (h : Ya.dec rs os = some z0) (ho : Zo (Ya.as a0 a1_0_0 a1_0_1 a1_0_2 a1_0_3 a1_0_4 a1_0_5 a1_0_6 a1_0_7 a1_0_8 a1_0_9 a1_0_10 a1_0_11 a1_0_12 a1_0_13 a1_0_14 a1_0_15 a1_0_16) os) : rs = [[.d (.int .i64 z0)]] ∧ os = [] := by
 unfold Ya.dec at h
 obtain ⟨c1, r2, rfl, h1⟩ := Zb h
 obtain ⟨x3, l4, rfl, h2⟩ := Zb h1
 obtain ⟨d5, rfl, h3⟩ := Zt h2
 obtain ⟨w0, rfl, h4⟩ := ZA h3
 obtain ⟨rfl, h5⟩ := Zc h4
 obtain ⟨rfl, h6⟩ := Zc h5
 obtain ⟨rfl, h7⟩ := Zc h6
 obtain rfl := Option.some.inj h7
 exact ⟨rfl, rfl⟩
theorem Ya.ok (k : Nat) : Zv Try.prog 231 (Ya.e k) := by
 refine Zu mix tyok (fn := Try.f231) (c := Zl Try.f231) Try.func231 (by kernel_rfl) (h := Ya.h) (k := k) (E := Ya.E k) (Zk (Yaa.ok k) Zz) (by kernel_rfl) (by kernel_rfl) rfl (Zq Try.func231 (by kernel_rfl)) ?_
 intro β l K r hr
 simp only [Ya.e] at hr
 split at hr
 case h_2 => cases hr
 unfold Ya.f at hr
 split at hr
 case h_2 => cases hr
 rename_i hz
 exact ⟨_, _, hr, _, Ya.dec, _, (Ya.f_eq k _ _ _ _ _ _ _ _ _ _ _ _ _ _ _ _ _ _ Ya.dec).trans (by rw [Ya.kt_dec]; exact hz), fun rs os h ho => Ya.inj _ _ _ _ _ _ _ _ _ _ _ _ _ _ _ _ _ _ h ho⟩
noncomputable def Yd.g {β : Type} (k : Nat) (a0 : LD) (a1_0_0 : Int) (a1_0_1 : BA) (a1_0_2 a1_0_3 a1_0_4 : Int) (a1_0_5 : Bool) (a1_0_6 : LD) (a1_0_7 : Int) (a1_0_8 : BA) (a1_0_9 : Int) (a1_0_10 a1_0_11 : LD) (a1_0_12 : Int) (a1_0_13 : BA) (a1_0_14 : Int) (a1_0_15 a1_0_16 : LD) (K : Bool → Option β) : Option β :=
 Ya.f k a0 a1_0_0 a1_0_1 a1_0_2 a1_0_3 a1_0_4 a1_0_5 a1_0_6 a1_0_7 a1_0_8 a1_0_9 a1_0_10 a1_0_11 a1_0_12 a1_0_13 a1_0_14 a1_0_15 a1_0_16 (fun y107 => K (decide ((y107 : Int) ≥ 0)))
noncomputable def Yd.t (k : Nat) (a0 : LD) (a1_0_0 : Int) (a1_0_1 : BA) (a1_0_2 a1_0_3 a1_0_4 : Int) (a1_0_5 : Bool) (a1_0_6 : LD) (a1_0_7 : Int) (a1_0_8 : BA) (a1_0_9 : Int) (a1_0_10 a1_0_11 : LD) (a1_0_12 : Int) (a1_0_13 : BA) (a1_0_14 : Int) (a1_0_15 a1_0_16 : LD) : Option (Bool) := Yd.g k a0 a1_0_0 a1_0_1 a1_0_2 a1_0_3 a1_0_4 a1_0_5 a1_0_6 a1_0_7 a1_0_8 a1_0_9 a1_0_10 a1_0_11 a1_0_12 a1_0_13 a1_0_14 a1_0_15 a1_0_16 (fun z0 => some z0)
noncomputable def Yd.f {β : Type} (k : Nat) (a0 : LD) (a1_0_0 : Int) (a1_0_1 : BA) (a1_0_2 a1_0_3 a1_0_4 : Int) (a1_0_5 : Bool) (a1_0_6 : LD) (a1_0_7 : Int) (a1_0_8 : BA) (a1_0_9 : Int) (a1_0_10 a1_0_11 : LD) (a1_0_12 : Int) (a1_0_13 : BA) (a1_0_14 : Int) (a1_0_15 a1_0_16 : LD) (K : Bool → Option β) : Option β :=
 match Yd.t k a0 a1_0_0 a1_0_1 a1_0_2 a1_0_3 a1_0_4 a1_0_5 a1_0_6 a1_0_7 a1_0_8 a1_0_9 a1_0_10 a1_0_11 a1_0_12 a1_0_13 a1_0_14 a1_0_15 a1_0_16 with
 | some z0 => K z0
 | none => none
noncomputable def Yd.as (a0 : LD) (a1_0_0 : Int) (a1_0_1 : BA) (a1_0_2 a1_0_3 a1_0_4 : Int) (a1_0_5 : Bool) (a1_0_6 : LD) (a1_0_7 : Int) (a1_0_8 : BA) (a1_0_9 : Int) (a1_0_10 a1_0_11 : LD) (a1_0_12 : Int) (a1_0_13 : BA) (a1_0_14 : Int) (a1_0_15 a1_0_16 : LD) : List A := [.d (.sl a0), .d (.fn 199 [[.int .i64 a1_0_0, .str a1_0_1, .int .i64 a1_0_2, .int .i64 a1_0_3, .int .i64 a1_0_4, .bool a1_0_5, .sl a1_0_6, .int .i64 a1_0_7, .str a1_0_8, .int .i64 a1_0_9, .sl a1_0_10, .sl a1_0_11, .int .i64 a1_0_12, .str a1_0_13, .int .i64 a1_0_14, .sl a1_0_15, .sl a1_0_16]])]
noncomputable def Yd.kt {β : Type} (a0 : LD) (a1_0_0 : Int) (a1_0_1 : BA) (a1_0_2 a1_0_3 a1_0_4 : Int) (a1_0_5 : Bool) (a1_0_6 : LD) (a1_0_7 : Int) (a1_0_8 : BA) (a1_0_9 : Int) (a1_0_10 a1_0_11 : LD) (a1_0_12 : Int) (a1_0_13 : BA) (a1_0_14 : Int) (a1_0_15 a1_0_16 : LD) (K0 : LC → List Out → Option β) : Bool → Option β := fun z0 => K0 [[.d (.bool z0)]] []
noncomputable def Yd.e (k : Nat) : ZQ := { modes := [(.imm, 0), (.imm, 0)], rts := [4], al := false, run := fun {β} l K => match l with | [.d (.sl a0), .d (.fn 199 [[.int .i64 a1_0_0, .str a1_0_1, .int .i64 a1_0_2, .int .i64 a1_0_3, .int .i64 a1_0_4, .bool a1_0_5, .sl a1_0_6, .int .i64 a1_0_7, .str a1_0_8, .int .i64 a1_0_9, .sl a1_0_10, .sl a1_0_11, .int .i64 a1_0_12, .str a1_0_13, .int .i64 a1_0_14, .sl a1_0_15, .sl a1_0_16]])] => Yd.f k a0 a1_0_0 a1_0_1 a1_0_2 a1_0_3 a1_0_4 a1_0_5 a1_0_6 a1_0_7 a1_0_8 a1_0_9 a1_0_10 a1_0_11 a1_0_12 a1_0_13 a1_0_14 a1_0_15 a1_0_16 (Yd.kt a0 a1_0_0 a1_0_1 a1_0_2 a1_0_3 a1_0_4 a1_0_5 a1_0_6 a1_0_7 a1_0_8 a1_0_9 a1_0_10 a1_0_11 a1_0_12 a1_0_13 a1_0_14 a1_0_15 a1_0_16 K) | _ => none }
noncomputable def Yd.E (k : Nat) : Env := fun g => bif g == 231 then some (Ya.e k) else none
noncomputable def Yd.h : ZY := ⟨fun n => ⟨[], []⟩, fun _ => none, false, []⟩
theorem Yd.f_eq {β : Type} (k : Nat) (a0 : LD) (a1_0_0 : Int) (a1_0_1 : BA) (a1_0_2 a1_0_3 a1_0_4 : Int) (a1_0_5 : Bool) (a1_0_6 : LD) (a1_0_7 : Int) (a1_0_8 : BA) (a1_0_9 : Int) (a1_0_10 a1_0_11 : LD) (a1_0_12 : Int) (a1_0_13 : BA) (a1_0_14 : Int) (a1_0_15 a1_0_16 : LD) (K0 : LC → List Out → Option β) : ZJ Try.prog (Yd.E k) Yd.h k Try.f198 (Yd.as a0 a1_0_0 a1_0_1 a1_0_2 a1_0_3 a1_0_4 a1_0_5 a1_0_6 a1_0_7 a1_0_8 a1_0_9 a1_0_10 a1_0_11 a1_0_12 a1_0_13 a1_0_14 a1_0_15 a1_0_16) K0 = Yd.g k a0 a1_0_0 a1_0_1 a1_0_2 a1_0_3 a1_0_4 a1_0_5 a1_0_6 a1_0_7 a1_0_8 a1_0_9 a1_0_10 a1_0_11 a1_0_12 a1_0_13 a1_0_14 a1_0_15 a1_0_16 (Yd.kt a0 a1_0_0 a1_0_1 a1_0_2 a1_0_3 a1_0_4 a1_0_5 a1_0_6 a1_0_7 a1_0_8 a1_0_9 a1_0_10 a1_0_11 a1_0_12 a1_0_13 a1_0_14 a1_0_15 a1_0_16 K0) := by kernel_rfl
noncomputable def Yd.dec (rs : LC) (os : List Out) : Option (Bool) := Zd rs fun c1 r2 => Zd c1 fun x3 l4 => cD x3 fun d5 => ZaF d5 fun w0 => Ze l4 <| Ze r2 <| Ze os (some w0)
theorem Yd.kt_dec (a0 : LD) (a1_0_0 : Int) (a1_0_1 : BA) (a1_0_2 a1_0_3 a1_0_4 : Int) (a1_0_5 : Bool) (a1_0_6 : LD) (a1_0_7 : Int) (a1_0_8 : BA) (a1_0_9 : Int) (a1_0_10 a1_0_11 : LD) (a1_0_12 : Int) (a1_0_13 : BA) (a1_0_14 : Int) (a1_0_15 a1_0_16 : LD) : Yd.kt a0 a1_0_0 a1_0_1 a1_0_2 a1_0_3 a1_0_4 a1_0_5 a1_0_6 a1_0_7 a1_0_8 a1_0_9 a1_0_10 a1_0_11 a1_0_12 a1_0_13 a1_0_14 a1_0_15 a1_0_16 Yd.dec = (fun z0 => some z0) := by kernel_rfl
theorem Yd.inj (a0 : LD) (a1_0_0 : Int) (a1_0_1 : BA) (a1_0_2 a1_0_3 a1_0_4 : Int) (a1_0_5 : Bool) (a1_0_6 : LD) (a1_0_7 : Int) (a1_0_8 : BA) (a1_0_9 : Int) (a1_0_10 a1_0_11 : LD) (a1_0_12 : Int) (a1_0_13 : BA) (a1_0_14 : Int) (a1_0_15 a1_0_16 : LD) {rs : LC} {os : List Out} {z0 : Bool} (h : Yd.dec rs os = some z0) (ho : Zo (Yd.as a0 a1_0_0 a1_0_1 a1_0_2 a1_0_3 a1_0_4 a1_0_5 a1_0_6 a1_0_7 a1_0_8 a1_0_9 a1_0_10 a1_0_11 a1_0_12 a1_0_13 a1_0_14 a1_0_15 a1_0_16) os) : rs = [[.d (.bool z0)]] ∧ os = [] := by
 unfold Yd.dec at h
 obtain ⟨c1, r2, rfl, h1⟩ := Zb h
 obtain ⟨x3, l4, rfl, h2⟩ := Zb h1
 obtain ⟨d5, rfl, h3⟩ := Zt h2
 obtain ⟨w0, rfl, h4⟩ := Z0 h3
 obtain ⟨rfl, h5⟩ := Zc h4
 obtain ⟨rfl, h6⟩ := Zc h5
 obtain ⟨rfl, h7⟩ := Zc h6
 obtain rfl := Option.some.inj h7
 exact ⟨rfl, rfl⟩
theorem Yd.ok (k : Nat) : Zv Try.prog 198 (Yd.e k) := by
 refine Zu mix tyok (fn := Try.f198) (c := Zl Try.f198) Try.func198 (by kernel_rfl) (h := Yd.h) (k := k) (E := Yd.E k) (Zk (Ya.ok k) Zz) (by kernel_rfl) (by kernel_rfl) rfl (Zq Try.func198 (by kernel_rfl)) ?_
 intro β l K r hr
 simp only [Yd.e] at hr
 split at hr
 case h_2 => cases hr
 unfold Yd.f at hr
 split at hr
 case h_2 => cases hr
 rename_i hz
 exact ⟨_, _, hr, _, Yd.dec, _, (Yd.f_eq k _ _ _ _ _ _ _ _ _ _ _ _ _ _ _ _ _ _ Yd.dec).trans (by rw [Yd.kt_dec]; exact hz), fun rs os h ho => Yd.inj _ _ _ _ _ _ _ _ _ _ _ _ _ _ _ _ _ _ h ho⟩
noncomputable def YU.l0 {β : Type} (k : Nat) (aF : LD) (aC aH : Int) (aW : LD) (bA : Int) (K : Bool → Option β) (L0 : Int → Option β) (v : Int) : Option β :=
 match v with
 | bB => bif (decide ((bB : Int) < bA)) then (ZX aW bB fun c110 => Zd c110 fun d r => ZM .i64 d fun x113 => Zd r fun d r => Zan d fun x116 => Zd r fun d r => ZM .i64 d fun x119 => Zd r fun d r => ZM .i64 d fun x122 => Zd r fun d r => ZM .i64 d fun x125 => Zd r fun d r => ZaF d fun x128 => Zd r fun d r => dSl d fun x131 => Zd r fun d r => ZM .i64 d fun x134 => Zd r fun d r => Zan d fun x137 => Zd r fun d r => ZM .i64 d fun x140 => Zd r fun d r => dSl d fun x143 => Zd r fun d r => dSl d fun x146 => Zd r fun d r => ZM .i64 d fun x149 => Zd r fun d r => Zan d fun x152 => Zd r fun d r => ZM .i64 d fun x155 => Zd r fun d r => dSl d fun x158 => Zd r fun d r => dSl d fun x161 => Ze r (Yam.f k x113 x116 x119 x122 x125 x128 x131 x134 x137 x140 x143 x146 x149 x152 x155 x158 x161 aC aH false (fun y162 => bif (!y162) then (K false) else (bif (decide ((bB : Int) > 0)) then (ZX aF (IntKind.wrap .i64 (bB - 1)) fun c163 => Zd c163 fun d r => ZM .i64 d fun x166 => Zd r fun d r => Zan d fun x169 => Zd r fun d r => ZM .i64 d fun x172 => Zd r fun d r => ZM .i64 d fun x175 => Zd r fun d r => ZM .i64 d fun x178 => Zd r fun d r => ZaF d fun x181 => Zd r fun d r => dSl d fun x184 => Zd r fun d r => ZM .i64 d fun x187 => Zd r fun d r => Zan d fun x190 => Zd r fun d r => ZM .i64 d fun x193 => Zd r fun d r => dSl d fun x196 => Zd r fun d r => dSl d fun x199 => Zd r fun d r => ZM .i64 d fun x202 => Zd r fun d r => Zan d fun x205 => Zd r fun d r => ZM .i64 d fun x208 => Zd r fun d r => dSl d fun x211 => Zd r fun d r => dSl d fun x214 => Ze r (Yaf.f k x166 x169 x172 x175 x178 x181 x184 x187 x190 x193 x196 x199 x202 x205 x208 x211 x214 x113 x116 x119 x122 x125 x128 x131 x134 x137 x140 x143 x146 x149 x152 x155 x158 x161 (fun y215 => bif (decide ((y215 : Int) ≥ 0)) then (K false) else (ZH (0 ≤ (0 : Int) ∧ (0 : Int) ≤ (bB : Int) ∧ (bB : Int) ≤ (aF.length : Int) ∧ rowsOk 17 aF) (Yd.f k ((aF.drop (Int.toNat (0 : Int))).take (Int.toNat (bB : Int) - Int.toNat (0 : Int))) x113 x116 x119 x122 x125 x128 x131 x134 x137 x140 x143 x146 x149 x152 x155 x158 x161 (fun y216 => bif y216 then (K false) else (L0 (IntKind.wrap .i64 (bB + 1))))))))) else (ZH (0 ≤ (0 : Int) ∧ (0 : Int) ≤ (bB : Int) ∧ (bB : Int) ≤ (aF.length : Int) ∧ rowsOk 17 aF) (Yd.f k ((aF.drop (Int.toNat (0 : Int))).take (Int.toNat (bB : Int) - Int.toNat (0 : Int))) x113 x116 x119 x122 x125 x128 x131 x134 x137 x140 x143 x146 x149 x152 x155 x158 x161 (fun y217 => bif y217 then (K false) else (L0 (IntKind.wrap .i64 (bB + 1)))))))))) else (K (decide (((aF.length : Int) : Int) ≤ 60)))
noncomputable def YU.g {β : Type} (k : Nat) (a0 : LD) (a1 a2 : Int) (K : Bool → Option β) : Option β :=
 Z4 (YU.l0 k a0 a1 a2 a0 (a0.length : Int) K) k (0)
noncomputable def YU.t (k : Nat) (a0 : LD) (a1 a2 : Int) : Option (Bool) := YU.g k a0 a1 a2 (fun z0 => some z0)
noncomputable def YU.f {β : Type} (k : Nat) (a0 : LD) (a1 a2 : Int) (K : Bool → Option β) : Option β :=
 match YU.t k a0 a1 a2 with
 | some z0 => K z0
 | none => none
noncomputable def YU.as (a0 : LD) (a1 a2 : Int) : List A := [.d (.sl a0), .d (.int .i64 a1), .d (.int .i64 a2)]
noncomputable def YU.kt {β : Type} (a0 : LD) (a1 a2 : Int) (K0 : LC → List Out → Option β) : Bool → Option β := fun z0 => K0 [[.d (.bool z0)]] []
noncomputable def YU.e (k : Nat) : ZQ := { modes := [(.imm, 0), (.imm, 0), (.imm, 0)], rts := [4], al := false, run := fun {β} l K => match l with | [.d (.sl a0), .d (.int .i64 a1), .d (.int .i64 a2)] => YU.f k a0 a1 a2 (YU.kt a0 a1 a2 K) | _ => none }
noncomputable def YU.E (k : Nat) : Env := fun g => bif g == 196 then some (Yam.e k) else bif g == 197 then some (Yaf.e k) else bif g == 198 then some (Yd.e k) else none
noncomputable def YU.h : ZY := ⟨fun n => bif n == 2 then ⟨[(0, .asis), (1, .asis), (2, .asis), (9, .asis), (10, .asis), (11, .asis)], []⟩ else ⟨[], []⟩, fun _ => none, false, []⟩
noncomputable def YU.s0 (aF : LD) (aC aH : Int) (aW : LD) (bA v : Int) : St :=
 match v with
 | bB => ⟨[.d false (.sl aF), .d false (.int .i64 aC), .d false (.int .i64 aH), .any, .any, .any, .any, .any, .any, .d false (.sl aW), .d true (.int .i64 bA), .d true (.int .i64 bB), .any, .any, .any, .any, .any, .any, .any, .any, .any, .any, .any, .any, .any, .any, .any, .any, .any, .any, .any, .any, .any, .any, .any, .any, .any, .any, .any, .any, .any, .any, .any, .any], []⟩
noncomputable def YU.b0 {β : Type} (k : Nat) : St → (Ex → St → Option β) → Option β := fun s K => den Try.prog (YU.E k) YU.h.H YU.h.J k (Zad [1, 0, 1, 0, 0] (Zl Try.f127)) s K
noncomputable def YU.c0 {β : Type} (k : Nat) (a0 : LD) (a1 a2 : Int) (K0 : LC → List Out → Option β) : Ex → St → Option β := Zae Try.prog (YU.E k) YU.h k [1, 0, 1, 0] (Zl Try.f127) (Zak Try.prog Try.f127 YU.h (YU.as a0 a1 a2) K0)
theorem YU.l0_eq {β : Type} (k : Nat) (a0 : LD) (a1 a2 : Int) (K0 : LC → List Out → Option β) (aF : LD) (aC aH : Int) (aW : LD) (bA : Int) : ∀ (kk : Nat) (v : Int), Zx (YU.b0 k) (YU.h.H 2) kk (YU.s0 aF aC aH aW bA v) (YU.c0 k a0 a1 a2 K0) = Z4 (YU.l0 k aF aC aH aW bA (YU.kt a0 a1 a2 K0)) kk v :=
 Z9 (YU.s0 aF aC aH aW bA) _ (fun L0 v => by kernel_rfl)
noncomputable def YU.m {β : Type} (k : Nat) (a0 : LD) (a1 a2 : Int) (K0 : LC → List Out → Option β) (F : (LD → Int → Int → LD → Int → Int → Option β)) : Option β :=
 (F) a0 a1 a2 a0 (a0.length : Int) (0)
theorem YU.f_eq {β : Type} (k : Nat) (a0 : LD) (a1 a2 : Int) (K0 : LC → List Out → Option β) : ZJ Try.prog (YU.E k) YU.h k Try.f127 (YU.as a0 a1 a2) K0 = YU.g k a0 a1 a2 (YU.kt a0 a1 a2 K0) := Eq.trans (b := (YU.m k a0 a1 a2 K0) (fun (aF : LD) (aC : Int) (aH : Int) (aW : LD) (bA : Int) (v : Int) => Zx (YU.b0 k) (YU.h.H 2) k (YU.s0 aF aC aH aW bA v) (YU.c0 k a0 a1 a2 K0))) (by kernel_rfl) (Eq.trans (congrArg (YU.m k a0 a1 a2 K0) (funext fun aF => funext fun aC => funext fun aH => funext fun aW => funext fun bA => funext fun v => YU.l0_eq k a0 a1 a2 K0 aF aC aH aW bA k v)) (by kernel_rfl))
noncomputable def YU.dec (rs : LC) (os : List Out) : Option (Bool) := Zd rs fun c1 r2 => Zd c1 fun x3 l4 => cD x3 fun d5 => ZaF d5 fun w0 => Ze l4 <| Ze r2 <| Ze os (some w0)
theorem YU.kt_dec (a0 : LD) (a1 a2 : Int) : YU.kt a0 a1 a2 YU.dec = (fun z0 => some z0) := by kernel_rfl
theorem YU.inj (a0 : LD) (a1 a2 : Int) {rs : LC} {os : List Out} {z0 : Bool} (h : YU.dec rs os = some z0) (ho : Zo (YU.as a0 a1 a2) os) : rs = [[.d (.bool z0)]] ∧ os = [] := by
 unfold YU.dec at h
 obtain ⟨c1, r2, rfl, h1⟩ := Zb h
 obtain ⟨x3, l4, rfl, h2⟩ := Zb h1
 obtain ⟨d5, rfl, h3⟩ := Zt h2
 obtain ⟨w0, rfl, h4⟩ := Z0 h3
 obtain ⟨rfl, h5⟩ := Zc h4
 obtain ⟨rfl, h6⟩ := Zc h5
 obtain ⟨rfl, h7⟩ := Zc h6
 obtain rfl := Option.some.inj h7
 exact ⟨rfl, rfl⟩
theorem YU.ok (k : Nat) : Zv Try.prog 127 (YU.e k) := by
 refine Zu mix tyok (fn := Try.f127) (c := Zl Try.f127) Try.func127 (by kernel_rfl) (h := YU.h) (k := k) (E := YU.E k) (Zk (Yam.ok k) (Zk (Yaf.ok k) (Zk (Yd.ok k) Zz))) (by kernel_rfl) (by kernel_rfl) rfl (Zq Try.func127 (by kernel_rfl)) ?_
 intro β l K r hr
 simp only [YU.e] at hr
 split at hr
 case h_2 => cases hr
 unfold YU.f at hr
 split at hr
 case h_2 => cases hr
 rename_i hz
 exact ⟨_, _, hr, _, YU.dec, _, (YU.f_eq k _ _ _ YU.dec).trans (by rw [YU.kt_dec]; exact hz), fun rs os h ho => YU.inj _ _ _ h ho⟩
noncomputable def YO.l0 {β : Type} (k : Nat) (aF : LD) (aC : Int) (aW : LD) (bA bB : Int) (bQ : LD) (K : Bool → Option β) (L0 : Int → Option β) (v : Int) : Option β :=
 match v with
 | aH => bif (decide ((aH : Int) < aC)) then (ZX aF aH fun c336 => Zd c336 fun d r => ZM .i64 d fun x339 => Zd r fun d r => ZaF d fun x342 => Zd r fun d r => ZM .i64 d fun x345 => Zd r fun d r => Zan d fun x348 => Zd r fun d r => ZM .i64 d fun x351 => Zd r fun d r => ZM .i64 d fun x354 => Zd r fun d r => ZM .i64 d fun x357 => Zd r fun d r => ZaF d fun x360 => Zd r fun d r => dSl d fun x363 => Zd r fun d r => ZM .i64 d fun x366 => Zd r fun d r => Zan d fun x369 => Zd r fun d r => ZM .i64 d fun x372 => Zd r fun d r => dSl d fun x375 => Zd r fun d r => dSl d fun x378 => Zd r fun d r => ZM .i64 d fun x381 => Zd r fun d r => Zan d fun x384 => Zd r fun d r => ZM .i64 d fun x387 => Zd r fun d r => dSl d fun x390 => Zd r fun d r => dSl d fun x393 => Ze r (Yam.f k x345 x348 x351 x354 x357 x360 x363 x366 x369 x372 x375 x378 x381 x384 x387 x390 x393 (IntKind.wrap .i64 (bB - 1)) bA x342 (fun y394 => bif (!y394) then (K false) else (bif ((x354 : Int) != x339) then (K false) else (bif (decide ((aH : Int) > 0)) then (ZX bQ (IntKind.wrap .i64 (aH - 1)) fun c395 => Zd c395 fun d r => ZM .i64 d fun x398 => Zd r fun d r => ZaF d fun x401 => Zd r fun d r => ZM .i64 d fun x404 => Zd r fun d r => Zan d fun x407 => Zd r fun d r => ZM .i64 d fun x410 => Zd r fun d r => ZM .i64 d fun x413 => Zd r fun d r => ZM .i64 d fun x416 => Zd r fun d r => ZaF d fun x419 => Zd r fun d r => dSl d fun x422 => Zd r fun d r => ZM .i64 d fun x425 => Zd r fun d r => Zan d fun x428 => Zd r fun d r => ZM .i64 d fun x431 => Zd r fun d r => dSl d fun x434 => Zd r fun d r => dSl d fun x437 => Zd r fun d r => ZM .i64 d fun x440 => Zd r fun d r => Zan d fun x443 => Zd r fun d r => ZM .i64 d fun x446 => Zd r fun d r => dSl d fun x449 => Zd r fun d r => dSl d fun x452 => Ze r (bif (decide ((x398 : Int) ≥ x339)) then (K false) else (L0 (IntKind.wrap .i64 (aH + 1))))) else (L0 (IntKind.wrap .i64 (aH + 1)))))))) else (K true)
noncomputable def YO.g {β : Type} (k : Nat) (aB : LD) (aA aE : Int) (aD : LD) (K : Bool → Option β) : Option β :=
 Y2.f k aA 0 1000000 (fun y1 => bif (!y1) then (K false) else (Y2.f k aE 1 1000000 (fun y2 => bif (!y2) then (K false) else (YU.f k aB (IntKind.wrap .i64 (aE - 1)) aA (fun y218 => bif (!y218) then (K false) else (bif (decide (((aD.length : Int) : Int) > 40)) then (K false) else (Z4 (YO.l0 k aD (aD.length : Int) aB aA aE aD K) k (0))))))))
noncomputable def YO.t (k : Nat) (aB : LD) (aA aE : Int) (aD : LD) : Option (Bool) := YO.g k aB aA aE aD (fun z0 => some z0)
noncomputable def YO.f {β : Type} (k : Nat) (aB : LD) (aA aE : Int) (aD : LD) (K : Bool → Option β) : Option β :=
 match YO.t k aB aA aE aD with
 | some z0 => K z0
 | none => none
noncomputable def YO.as (aB : LD) (aA aE : Int) (aD : LD) : List A := [.agg [.sl aB, .int .i64 aA, .int .i64 aE, .sl aD]]
noncomputable def YO.kt {β : Type} (aB : LD) (aA aE : Int) (aD : LD) (K0 : LC → List Out → Option β) : Bool → Option β := fun z0 => K0 [[.d (.bool z0)]] []
noncomputable def YO.e (k : Nat) : ZQ := { modes := [(.imm, 0)], rts := [4], al := false, run := fun {β} l K => match l with | [.agg [.sl aB, .int .i64 aA, .int .i64 aE, .sl aD]] => YO.f k aB aA aE aD (YO.kt aB aA aE aD K) | _ => none }
noncomputable def YO.E (k : Nat) : Env := fun g => bif g == 126 then some (Y2.e k) else bif g == 127 then some (YU.e k) else bif g == 196 then some (Yam.e k) else none
noncomputable def YO.h : ZY := ⟨fun n => bif n == 4 then ⟨[(1, .asis), (33, .asis), (34, .asis), (35, .asis)], []⟩ else ⟨[], []⟩, fun _ => none, false, []⟩
noncomputable def YO.s0 (aF : LD) (aC : Int) (aW : LD) (bA bB : Int) (bQ : LD) (v : Int) : St :=
 match v with
 | aH => ⟨[.any, .bp 0 0, .any, .any, .any, .any, .any, .any, .any, .any, .any, .any, .any, .any, .any, .any, .any, .any, .any, .any, .any, .any, .any, .any, .any, .any, .any, .any, .any, .any, .any, .any, .any, .d false (.sl aF), .d true (.int .i64 aC), .d true (.int .i64 aH), .any, .any, .any, .any, .any, .any, .any, .any, .any, .any, .any, .any, .any, .any, .any, .any, .any, .any, .any, .any, .any, .any, .any, .any, .any, .any, .any, .any, .any, .any, .any, .any, .any, .any, .any, .any, .any, .any, .any, .any], [.box none 95 [.d false (.sl aW), .d false (.int .i64 bA), .d false (.int .i64 bB), .d false (.sl bQ)]]⟩
noncomputable def YO.b0 {β : Type} (k : Nat) : St → (Ex → St → Option β) → Option β := fun s K => den Try.prog (YO.E k) YO.h.H YO.h.J k (Zad [1, 1, 0, 1, 0, 0] (Zl Try.f133)) s K
noncomputable def YO.c0 {β : Type} (k : Nat) (aB : LD) (aA aE : Int) (aD : LD) (K0 : LC → List Out → Option β) : Ex → St → Option β := Zae Try.prog (YO.E k) YO.h k [1, 1, 0, 1, 0] (Zl Try.f133) (Zak Try.prog Try.f133 YO.h (YO.as aB aA aE aD) K0)
theorem YO.l0_eq {β : Type} (k : Nat) (aB : LD) (aA aE : Int) (aD : LD) (K0 : LC → List Out → Option β) (aF : LD) (aC : Int) (aW : LD) (bA bB : Int) (bQ : LD) : ∀ (kk : Nat) (v : Int), Zx (YO.b0 k) (YO.h.H 4) kk (YO.s0 aF aC aW bA bB bQ v) (YO.c0 k aB aA aE aD K0) = Z4 (YO.l0 k aF aC aW bA bB bQ (YO.kt aB aA aE aD K0)) kk v :=
 Z9 (YO.s0 aF aC aW bA bB bQ) _ (fun L0 v => by kernel_rfl)
noncomputable def YO.m {β : Type} (k : Nat) (aB : LD) (aA aE : Int) (aD : LD) (K0 : LC → List Out → Option β) (F : (LD → Int → LD → Int → Int → LD → Int → Option β)) : Option β :=
 Y2.f k aA 0 1000000 (fun y1 => bif (!y1) then ((YO.kt aB aA aE aD K0) false) else (Y2.f k aE 1 1000000 (fun y2 => bif (!y2) then ((YO.kt aB aA aE aD K0) false) else (YU.f k aB (IntKind.wrap .i64 (aE - 1)) aA (fun y218 => bif (!y218) then ((YO.kt aB aA aE aD K0) false) else (bif (decide (((aD.length : Int) : Int) > 40)) then ((YO.kt aB aA aE aD K0) false) else ((F) aD (aD.length : Int) aB aA aE aD (0))))))))
theorem YO.f_eq {β : Type} (k : Nat) (aB : LD) (aA aE : Int) (aD : LD) (K0 : LC → List Out → Option β) : ZJ Try.prog (YO.E k) YO.h k Try.f133 (YO.as aB aA aE aD) K0 = YO.g k aB aA aE aD (YO.kt aB aA aE aD K0) := Eq.trans (b := (YO.m k aB aA aE aD K0) (fun (aF : LD) (aC : Int) (aW : LD) (bA : Int) (bB : Int) (bQ : LD) (v : Int) => Zx (YO.b0 k) (YO.h.H 4) k (YO.s0 aF aC aW bA bB bQ v) (YO.c0 k aB aA aE aD K0))) (by kernel_rfl) (Eq.trans (congrArg (YO.m k aB aA aE aD K0) (funext fun aF => funext fun aC => funext fun aW => funext fun bA => funext fun bB => funext fun bQ => funext fun v => YO.l0_eq k aB aA aE aD K0 aF aC aW bA bB bQ k v)) (by kernel_rfl))
noncomputable def YO.dec (rs : LC) (os : List Out) : Option (Bool) := Zd rs fun c1 r2 => Zd c1 fun x3 l4 => cD x3 fun d5 => ZaF d5 fun w0 => Ze l4 <| Ze r2 <| Ze os (some w0)
theorem YO.kt_dec (aB : LD) (aA aE : Int) (aD : LD) : YO.kt aB aA aE aD YO.dec = (fun z0 => some z0) := by kernel_rfl
theorem YO.inj (aB : LD) (aA aE : Int) (aD : LD) {rs : LC} {os : List Out} {z0 : Bool} (h : YO.dec rs os = some z0) (ho : Zo (YO.as aB aA aE aD) os) : rs = [[.d (.bool z0)]] ∧ os = [] := by
 unfold YO.dec at h
 obtain ⟨c1, r2, rfl, h1⟩ := Zb h
 obtain ⟨x3, l4, rfl, h2⟩ := Zb h1
 obtain ⟨d5, rfl, h3⟩ := Zt h2
 obtain ⟨w0, rfl, h4⟩ := Z0 h3
 obtain ⟨rfl, h5⟩ := Zc h4
 obtain ⟨rfl, h6⟩ := Zc h5
 obtain ⟨rfl, h7⟩ := Zc h6
 obtain rfl := Option.some.inj h7
 exact ⟨rfl, rfl⟩
theorem YO.ok (k : Nat) : Zv Try.prog 133 (YO.e k) := by
 refine Zu mix tyok (fn := Try.f133) (c := Zl Try.f133) Try.func133 (by kernel_rfl) (h := YO.h) (k := k) (E := YO.E k) (Zk (Y2.ok k) (Zk (YU.ok k) (Zk (Yam.ok k) Zz))) (by kernel_rfl) (by kernel_rfl) rfl (Zq Try.func133 (by kernel_rfl)) ?_
 intro β l K r hr
 simp only [YO.e] at hr
 split at hr
 case h_2 => cases hr
 unfold YO.f at hr
 split at hr
 case h_2 => cases hr
 rename_i hz
 exact ⟨_, _, hr, _, YO.dec, _, (YO.f_eq k _ _ _ _ YO.dec).trans (by rw [YO.kt_dec]; exact hz), fun rs os h ho => YO.inj _ _ _ _ h ho⟩
noncomputable def YF.g {β : Type} (k : Nat) (a0 : LD) (K : LC → Option β) : Option β :=
 nilSl a0 (both (K ([] : LC)) (ZH (Zcm 1 a0) (ZH (([] : LC).length + (a0.map (·.map C.d)).length ≤ Z6) (K (([] : LC) ++ (a0.map (·.map C.d))))))) (ZH (Zcm 1 a0) (ZH (([] : LC).length + (a0.map (·.map C.d)).length ≤ Z6) (K (([] : LC) ++ (a0.map (·.map C.d))))))
noncomputable def YF.t (k : Nat) (a0 : LD) : Option (LC) := YF.g k a0 (fun z0 => some z0)
noncomputable def YF.f {β : Type} (k : Nat) (a0 : LD) (K : LC → Option β) : Option β :=
 match YF.t k a0 with
 | some z0 => K z0
 | none => none
noncomputable def YF.as (a0 : LD) : List A := [.d (.sl a0)]
noncomputable def YF.kt {β : Type} (a0 : LD) (K0 : LC → List Out → Option β) : LC → Option β := fun z0 => K0 [[.own z0]] []
noncomputable def YF.e (k : Nat) : ZQ := { modes := [(.imm, 0)], rts := [25], al := false, run := fun {β} l K => match l with | [.d (.sl a0)] => YF.f k a0 (YF.kt a0 K) | _ => none }
noncomputable def YF.E (k : Nat) : Env := fun g => none
noncomputable def YF.h : ZY := ⟨fun n => ⟨[], []⟩, fun _ => none, false, []⟩
theorem YF.f_eq {β : Type} (k : Nat) (a0 : LD) (K0 : LC → List Out → Option β) : ZJ Try.prog (YF.E k) YF.h k Try.f173 (YF.as a0) K0 = YF.g k a0 (YF.kt a0 K0) := by kernel_rfl
noncomputable def YF.dec (rs : LC) (os : List Out) : Option (LC) := Zd rs fun c1 r2 => Zd c1 fun x3 l4 => ZaU x3 fun w0 => Ze l4 <| Ze r2 <| Ze os (some w0)
theorem YF.kt_dec (a0 : LD) : YF.kt a0 YF.dec = (fun z0 => some z0) := by kernel_rfl
theorem YF.inj (a0 : LD) {rs : LC} {os : List Out} {z0 : LC} (h : YF.dec rs os = some z0) (ho : Zo (YF.as a0) os) : rs = [[.own z0]] ∧ os = [] := by
 unfold YF.dec at h
 obtain ⟨c1, r2, rfl, h1⟩ := Zb h
 obtain ⟨x3, l4, rfl, h2⟩ := Zb h1
 obtain ⟨w0, rfl, h3⟩ := ZN h2
 obtain ⟨rfl, h4⟩ := Zc h3
 obtain ⟨rfl, h5⟩ := Zc h4
 obtain ⟨rfl, h6⟩ := Zc h5
 obtain rfl := Option.some.inj h6
 exact ⟨rfl, rfl⟩
theorem YF.ok (k : Nat) : Zv Try.prog 173 (YF.e k) := by
 refine Zu mix tyok (fn := Try.f173) (c := Zl Try.f173) Try.func173 (by kernel_rfl) (h := YF.h) (k := k) (E := YF.E k) Zz (by kernel_rfl) (by kernel_rfl) rfl (Zq Try.func173 (by kernel_rfl)) ?_
 intro β l K r hr
 simp only [YF.e] at hr
 split at hr
 case h_2 => cases hr
 unfold YF.f at hr
 split at hr
 case h_2 => cases hr
 rename_i hz
 exact ⟨_, _, hr, _, YF.dec, _, (YF.f_eq k _ YF.dec).trans (by rw [YF.kt_dec]; exact hz), fun rs os h ho => YF.inj _ h ho⟩
noncomputable def Yk.l0 {β : Type} (k : Nat) (r_impl_copyValue : Int → BA → Int → LD → LD → (Int → BA → Int → LC → LC → Option β) → Option β) (aF : LD) (aC aW : Int) (bA : BA) (bB : Int) (bQ : LD) (bR : Int) (bU : BA) (bT : Int) (bV : LC) (K : Int → BA → Int → LC → LC → Option β) (L0 : (Int × LC) → Option β) (v : Int × LC) : Option β :=
 match v with
 | (aH, bW) => bif (decide ((aH : Int) < aC)) then (ZX aF aH fun c23 => Zd c23 fun d r => ZM .i64 d fun x26 => Zd r fun d r => Zan d fun x29 => Zd r fun d r => ZM .i64 d fun x32 => Zd r fun d r => dSl d fun x35 => Zd r fun d r => dSl d fun x38 => Ze r (r_impl_copyValue x26 x29 x32 x35 x38 (fun y39 y40 y41 y42 y43 => ZH (bW.length + ([[.d (.int .i64 y39), .d (.str y40), .d (.int .i64 y41), .own y42, .own y43]] : LC).length ≤ Z6) (L0 (IntKind.wrap .i64 (aH + 1), bW ++ ([[.d (.int .i64 y39), .d (.str y40), .d (.int .i64 y41), .own y42, .own y43]] : LC)))))) else (K aW bA bB bV bW)
noncomputable def Yk.body {β : Type} (k : Nat) (r_impl_copyValue : Int → BA → Int → LD → LD → (Int → BA → Int → LC → LC → Option β) → Option β) (aB : Int) (aA : BA) (aE : Int) (aD aG : LD) (K : Int → BA → Int → LC → LC → Option β) : Option β :=
 YF.f k aD (fun y1 => Z4 (Yk.l0 k r_impl_copyValue aG (aG.length : Int) aB aA aE aG 0 (⟨#[]⟩ : BA) 0 y1 K) k (0, ([] : LC)))
noncomputable def Yk.w {β : Type} (r : Int → BA → Int → LD → LD → Option (Int × BA × Int × LC × LC)) (aB : Int) (aA : BA) (aE : Int) (aD aG : LD) (K : Int → BA → Int → LC → LC → Option β) : Option β :=
 match r aB aA aE aD aG with
 | some (z0, z1, z2, z3, z4) => K z0 z1 z2 z3 z4
 | none => none
noncomputable def Yk.all : Nat → (Int → BA → Int → LD → LD → Option (Int × BA × Int × LC × LC))
 | 0 => (fun _ _ _ _ _ => none)
 | k + 1 => (fun r => (fun aB aA aE aD aG => Yk.body k (Yk.w r) aB aA aE aD aG (fun z0 z1 z2 z3 z4 => some (z0, z1, z2, z3, z4)))) (Yk.all k)
noncomputable def Yk.t (k : Nat) (aB : Int) (aA : BA) (aE : Int) (aD aG : LD) : Option (Int × BA × Int × LC × LC) := (Yk.all k) aB aA aE aD aG
noncomputable def Yk.f {β : Type} (k : Nat) (aB : Int) (aA : BA) (aE : Int) (aD aG : LD) (K : Int → BA → Int → LC → LC → Option β) : Option β := Yk.w (Yk.t k) aB aA aE aD aG K
noncomputable def Yk.g {β : Type} (k : Nat) (aB : Int) (aA : BA) (aE : Int) (aD aG : LD) (K : Int → BA → Int → LC → LC → Option β) : Option β := Yk.body k (Yk.f k) aB aA aE aD aG K
theorem Yk.t_zero (aB : Int) (aA : BA) (aE : Int) (aD aG : LD) : Yk.t 0 aB aA aE aD aG = none := rfl
theorem Yk.t_succ (k : Nat) (aB : Int) (aA : BA) (aE : Int) (aD aG : LD) : Yk.t (k + 1) aB aA aE aD aG = Yk.g k aB aA aE aD aG (fun z0 z1 z2 z3 z4 => some (z0, z1, z2, z3, z4)) := rfl
noncomputable def Yk.as (aB : Int) (aA : BA) (aE : Int) (aD aG : LD) : List A := [.agg [.int .i64 aB, .str aA, .int .i64 aE, .sl aD, .sl aG]]
noncomputable def Yk.kt {β : Type} (aB : Int) (aA : BA) (aE : Int) (aD aG : LD) (K0 : LC → List Out → Option β) : Int → BA → Int → LC → LC → Option β := fun z0 z1 z2 z3 z4 => K0 [[.d (.int .i64 z0), .d (.str z1), .d (.int .i64 z2), .own z3, .own z4]] []
noncomputable def Yk.e (k : Nat) : ZQ := { modes := [(.imm, 0)], rts := [151], al := false, run := fun {β} l K => match l with | [.agg [.int .i64 aB, .str aA, .int .i64 aE, .sl aD, .sl aG]] => Yk.f k aB aA aE aD aG (Yk.kt aB aA aE aD aG K) | _ => none }
noncomputable def Yk.E (k : Nat) : Env := fun g => bif g == 173 then some (YF.e k) else bif g == 189 then some (Yk.e k) else none
noncomputable def Yk.h : ZY := ⟨fun n => bif n == 4 then ⟨[(1, .asis), (2, .asis), (3, .asis), (12, .asis), (13, .asis), (14, .asis)], []⟩ else ⟨[], []⟩, fun _ => none, false, []⟩
noncomputable def Yk.s0 (aF : LD) (aC aW : Int) (bA : BA) (bB : Int) (bQ : LD) (bR : Int) (bU : BA) (bT : Int) (bV : LC) (v : Int × LC) : St :=
 match v with
 | (aH, bW) => ⟨[.any, .bp 0 0, .bp 1 0, .row 2, .any, .any, .any, .any, .any, .any, .any, .any, .d false (.sl aF), .d true (.int .i64 aC), .d true (.int .i64 aH), .any, .any, .any, .any, .any, .any, .any, .any, .any, .any, .any, .any], [.box none 151 [.d false (.int .i64 aW), .d false (.str bA), .d false (.int .i64 bB), .row 3, .d false (.sl bQ)], .box none 151 [.d true (.int .i64 bR), .d true (.str bU), .d true (.int .i64 bT), .nil, .nil], .row none true 149 bW, .row none true 25 bV]⟩
noncomputable def Yk.b0 {β : Type} (k : Nat) : St → (Ex → St → Option β) → Option β := fun s K => den Try.prog (Yk.E k) Yk.h.H Yk.h.J k (Zad [1, 1, 1, 0, 1, 0, 0] (Zl Try.f189)) s K
noncomputable def Yk.c0 {β : Type} (k : Nat) (aB : Int) (aA : BA) (aE : Int) (aD aG : LD) (K0 : LC → List Out → Option β) : Ex → St → Option β := Zae Try.prog (Yk.E k) Yk.h k [1, 1, 1, 0, 1, 0] (Zl Try.f189) (Zak Try.prog Try.f189 Yk.h (Yk.as aB aA aE aD aG) K0)
theorem Yk.l0_eq {β : Type} (k : Nat) (aB : Int) (aA : BA) (aE : Int) (aD aG : LD) (K0 : LC → List Out → Option β) (aF : LD) (aC aW : Int) (bA : BA) (bB : Int) (bQ : LD) (bR : Int) (bU : BA) (bT : Int) (bV : LC) : ∀ (kk : Nat) (v : Int × LC), Zx (Yk.b0 k) (Yk.h.H 4) kk (Yk.s0 aF aC aW bA bB bQ bR bU bT bV v) (Yk.c0 k aB aA aE aD aG K0) = Z4 (Yk.l0 k (Yk.f k) aF aC aW bA bB bQ bR bU bT bV (Yk.kt aB aA aE aD aG K0)) kk v :=
 Z9 (Yk.s0 aF aC aW bA bB bQ bR bU bT bV) _ (fun L0 v => by obtain ⟨aH, bW⟩ := v; kernel_rfl)
noncomputable def Yk.m {β : Type} (k : Nat) (aB : Int) (aA : BA) (aE : Int) (aD aG : LD) (K0 : LC → List Out → Option β) (F : (LD → Int → Int → BA → Int → LD → Int → BA → Int → LC → (Int × LC) → Option β)) : Option β :=
 YF.f k aD (fun y1 => (F) aG (aG.length : Int) aB aA aE aG 0 (⟨#[]⟩ : BA) 0 y1 (0, ([] : LC)))
theorem Yk.f_eq {β : Type} (k : Nat) (aB : Int) (aA : BA) (aE : Int) (aD aG : LD) (K0 : LC → List Out → Option β) : ZJ Try.prog (Yk.E k) Yk.h k Try.f189 (Yk.as aB aA aE aD aG) K0 = Yk.g k aB aA aE aD aG (Yk.kt aB aA aE aD aG K0) := Eq.trans (b := (Yk.m k aB aA aE aD aG K0) (fun (aF : LD) (aC : Int) (aW : Int) (bA : BA) (bB : Int) (bQ : LD) (bR : Int) (bU : BA) (bT : Int) (bV : LC) (v : Int × LC) => Zx (Yk.b0 k) (Yk.h.H 4) k (Yk.s0 aF aC aW bA bB bQ bR bU bT bV v) (Yk.c0 k aB aA aE aD aG K0))) (by kernel_rfl) (Eq.trans (congrArg (Yk.m k aB aA aE aD aG K0) (funext fun aF => funext fun aC => funext fun aW => funext fun bA => funext fun bB => funext fun bQ => funext fun bR => funext fun bU => funext fun bT => funext fun bV => funext fun v => Yk.l0_eq k aB aA aE aD aG K0 aF aC aW bA bB bQ bR bU bT bV k v)) (by kernel_rfl))
noncomputable def Yk.dec (rs : LC) (os : List Out) : Option (Int × BA × Int × LC × LC) := Zd rs fun c1 r2 => Zd c1 fun x3 l4 => cD x3 fun d5 => ZM .i64 d5 fun w0 => Zd l4 fun x6 l7 => cD x6 fun d8 => Zan d8 fun w1 => Zd l7 fun x9 l10 => cD x9 fun d11 => ZM .i64 d11 fun w2 => Zd l10 fun x12 l13 => ZaU x12 fun w3 => Zd l13 fun x14 l15 => ZaU x14 fun w4 => Ze l15 <| Ze r2 <| Ze os (some (w0, w1, w2, w3, w4))
theorem Yk.kt_dec (aB : Int) (aA : BA) (aE : Int) (aD aG : LD) : Yk.kt aB aA aE aD aG Yk.dec = (fun z0 z1 z2 z3 z4 => some (z0, z1, z2, z3, z4)) := by kernel_rfl
theorem Yk.inj (aB : Int) (aA : BA) (aE : Int) (aD aG : LD) {rs : LC} {os : List Out} {z0 : Int} {z1 : BA} {z2 : Int} {z3 z4 : LC} (h : Yk.dec rs os = some (z0, z1, z2, z3, z4)) (ho : Zo (Yk.as aB aA aE aD aG) os) : rs = [[.d (.int .i64 z0), .d (.str z1), .d (.int .i64 z2), .own z3, .own z4]] ∧ os = [] := by
 unfold Yk.dec at h
 obtain ⟨c1, r2, rfl, h1⟩ := Zb h
 obtain ⟨x3, l4, rfl, h2⟩ := Zb h1
 obtain ⟨d5, rfl, h3⟩ := Zt h2
 obtain ⟨w0, rfl, h4⟩ := ZA h3
 obtain ⟨x6, l7, rfl, h5⟩ := Zb h4
 obtain ⟨d8, rfl, h6⟩ := Zt h5
 obtain ⟨w1, rfl, h7⟩ := ZaL h6
 obtain ⟨x9, l10, rfl, h8⟩ := Zb h7
 obtain ⟨d11, rfl, h9⟩ := Zt h8
 obtain ⟨w2, rfl, h10⟩ := ZA h9
 obtain ⟨x12, l13, rfl, h11⟩ := Zb h10
 obtain ⟨w3, rfl, h12⟩ := ZN h11
 obtain ⟨x14, l15, rfl, h13⟩ := Zb h12
 obtain ⟨w4, rfl, h14⟩ := ZN h13
 obtain ⟨rfl, h15⟩ := Zc h14
 obtain ⟨rfl, h16⟩ := Zc h15
 obtain ⟨rfl, h17⟩ := Zc h16
 simp only [Option.some.injEq, Prod.mk.injEq] at h17
 obtain ⟨rfl, rfl, rfl, rfl, rfl⟩ := h17
 exact ⟨rfl, rfl⟩
theorem Yk.oks (k : Nat) : Zv Try.prog 189 (Yk.e k) := by
 induction k with
 | zero =>
  refine ?_
  ·exact Zb1 (Zq Try.func189 (by kernel_rfl)) fun β l K r h => by
    simp only [Yk.e] at h
    split at h
    ·unfold Yk.f at h
     unfold Yk.w at h
     rw [Yk.t_zero] at h
     cases h
    ·cases h
 | succ k ih =>
  refine ?_
  ·refine Zu mix tyok (fn := Try.f189) (c := Zl Try.f189) Try.func189 (by kernel_rfl) (h := Yk.h) (k := k) (E := Yk.E k) (Zk (YF.ok k) (Zk ih Zz)) (by kernel_rfl) (by kernel_rfl) rfl (Zq Try.func189 (by kernel_rfl)) ?_
   intro β l K r hr
   simp only [Yk.e] at hr
   split at hr
   case h_2 => cases hr
   unfold Yk.f at hr
   unfold Yk.w at hr
   split at hr
   case h_2 => cases hr
   rename_i hz
   exact ⟨_, _, hr, _, Yk.dec, _, (Yk.f_eq k _ _ _ _ _ Yk.dec).trans (by rw [Yk.kt_dec]; exact hz), fun rs os h ho => Yk.inj _ _ _ _ _ h ho⟩
theorem Yk.ok (k : Nat) : Zv Try.prog 189 (Yk.e k) := (Yk.oks k)
noncomputable def Yae.g {β : Type} (k : Nat) (aB : Int) (aA : BA) (aE aD aG : Int) (aT : Bool) (aM : LD) (aQ : Int) (aI : BA) (aR : Int) (aJ aN : LD) (aP : Int) (aK : BA) (aS : Int) (aL aO : LD) (K : Int → BA → Int → Int → Int → Bool → LC → Int → BA → Int → LC → LC → Int → BA → Int → LC → LC → Option β) : Option β :=
 YF.f k aM (fun y1 => Yk.f k aQ aI aR aJ aN (fun y44 y45 y46 y47 y48 => Yk.f k aP aK aS aL aO (fun y49 y50 y51 y52 y53 => K aB aA aE aD aG aT y1 y44 y45 y46 y47 y48 y49 y50 y51 y52 y53)))
noncomputable def Yae.t (k : Nat) (aB : Int) (aA : BA) (aE aD aG : Int) (aT : Bool) (aM : LD) (aQ : Int) (aI : BA) (aR : Int) (aJ aN : LD) (aP : Int) (aK : BA) (aS : Int) (aL aO : LD) : Option (Int × BA × Int × Int × Int × Bool × LC × Int × BA × Int × LC × LC × Int × BA × Int × LC × LC) := Yae.g k aB aA aE aD aG aT aM aQ aI aR aJ aN aP aK aS aL aO (fun z0 z1 z2 z3 z4 z5 z6 z7 z8 z9 z10 z11 z12 z13 z14 z15 z16 => some (z0, z1, z2, z3, z4, z5, z6, z7, z8, z9, z10, z11, z12, z13, z14, z15, z16))
noncomputable def Yae.f {β : Type} (k : Nat) (aB : Int) (aA : BA) (aE aD aG : Int) (aT : Bool) (aM : LD) (aQ : Int) (aI : BA) (aR : Int) (aJ aN : LD) (aP : Int) (aK : BA) (aS : Int) (aL aO : LD) (K : Int → BA → Int → Int → Int → Bool → LC → Int → BA → Int → LC → LC → Int → BA → Int → LC → LC → Option β) : Option β :=
 match Yae.t k aB aA aE aD aG aT aM aQ aI aR aJ aN aP aK aS aL aO with
 | some (z0, z1, z2, z3, z4, z5, z6, z7, z8, z9, z10, z11, z12, z13, z14, z15, z16) => K z0 z1 z2 z3 z4 z5 z6 z7 z8 z9 z10 z11 z12 z13 z14 z15 z16
 | none => none
noncomputable def Yae.as (aB : Int) (aA : BA) (aE aD aG : Int) (aT : Bool) (aM : LD) (aQ : Int) (aI : BA) (aR : Int) (aJ aN : LD) (aP : Int) (aK : BA) (aS : Int) (aL aO : LD) : List A := [.agg [.int .i64 aB, .str aA, .int .i64 aE, .int .i64 aD, .int .i64 aG, .bool aT, .sl aM, .int .i64 aQ, .str aI, .int .i64 aR, .sl aJ, .sl aN, .int .i64 aP, .str aK, .int .i64 aS, .sl aL, .sl aO]]
noncomputable def Yae.kt {β : Type} (aB : Int) (aA : BA) (aE aD aG : Int) (aT : Bool) (aM : LD) (aQ : Int) (aI : BA) (aR : Int) (aJ aN : LD) (aP : Int) (aK : BA) (aS : Int) (aL aO : LD) (K0 : LC → List Out → Option β) : Int → BA → Int → Int → Int → Bool → LC → Int → BA → Int → LC → LC → Int → BA → Int → LC → LC → Option β := fun z0 z1 z2 z3 z4 z5 z6 z7 z8 z9 z10 z11 z12 z13 z14 z15 z16 => K0 [[.d (.int .i64 z0), .d (.str z1), .d (.int .i64 z2), .d (.int .i64 z3), .d (.int .i64 z4), .d (.bool z5), .own z6, .d (.int .i64 z7), .d (.str z8), .d (.int .i64 z9), .own z10, .own z11, .d (.int .i64 z12), .d (.str z13), .d (.int .i64 z14), .own z15, .own z16]] []
noncomputable def Yae.e (k : Nat) : ZQ := { modes := [(.imm, 0)], rts := [174], al := false, run := fun {β} l K => match l with | [.agg [.int .i64 aB, .str aA, .int .i64 aE, .int .i64 aD, .int .i64 aG, .bool aT, .sl aM, .int .i64 aQ, .str aI, .int .i64 aR, .sl aJ, .sl aN, .int .i64 aP, .str aK, .int .i64 aS, .sl aL, .sl aO]] => Yae.f k aB aA aE aD aG aT aM aQ aI aR aJ aN aP aK aS aL aO (Yae.kt aB aA aE aD aG aT aM aQ aI aR aJ aN aP aK aS aL aO K) | _ => none }
noncomputable def Yae.E (k : Nat) : Env := fun g => bif g == 173 then some (YF.e k) else bif g == 189 then some (Yk.e k) else none
noncomputable def Yae.h : ZY := ⟨fun n => ⟨[], []⟩, fun _ => none, false, []⟩
theorem Yae.f_eq {β : Type} (k : Nat) (aB : Int) (aA : BA) (aE aD aG : Int) (aT : Bool) (aM : LD) (aQ : Int) (aI : BA) (aR : Int) (aJ aN : LD) (aP : Int) (aK : BA) (aS : Int) (aL aO : LD) (K0 : LC → List Out → Option β) : ZJ Try.prog (Yae.E k) Yae.h k Try.f204 (Yae.as aB aA aE aD aG aT aM aQ aI aR aJ aN aP aK aS aL aO) K0 = Yae.g k aB aA aE aD aG aT aM aQ aI aR aJ aN aP aK aS aL aO (Yae.kt aB aA aE aD aG aT aM aQ aI aR aJ aN aP aK aS aL aO K0) := by kernel_rfl
noncomputable def Yae.dec (rs : LC) (os : List Out) : Option (Int × BA × Int × Int × Int × Bool × LC × Int × BA × Int × LC × LC × Int × BA × Int × LC × LC) := Zd rs fun c1 r2 => Zd c1 fun x3 l4 => cD x3 fun d5 => ZM .i64 d5 fun w0 => Zd l4 fun x6 l7 => cD x6 fun d8 => Zan d8 fun w1 => Zd l7 fun x9 l10 => cD x9 fun d11 => ZM .i64 d11 fun w2 => Zd l10 fun x12 l13 => cD x12 fun d14 => ZM .i64 d14 fun w3 => Zd l13 fun x15 l16 => cD x15 fun d17 => ZM .i64 d17 fun w4 => Zd l16 fun x18 l19 => cD x18 fun d20 => ZaF d20 fun w5 => Zd l19 fun x21 l22 => ZaU x21 fun w6 => Zd l22 fun x23 l24 => cD x23 fun d25 => ZM .i64 d25 fun w7 => Zd l24 fun x26 l27 => cD x26 fun d28 => Zan d28 fun w8 => Zd l27 fun x29 l30 => cD x29 fun d31 => ZM .i64 d31 fun w9 => Zd l30 fun x32 l33 => ZaU x32 fun w10 => Zd l33 fun x34 l35 => ZaU x34 fun w11 => Zd l35 fun x36 l37 => cD x36 fun d38 => ZM .i64 d38 fun w12 => Zd l37 fun x39 l40 => cD x39 fun d41 => Zan d41 fun w13 => Zd l40 fun x42 l43 => cD x42 fun d44 => ZM .i64 d44 fun w14 => Zd l43 fun x45 l46 => ZaU x45 fun w15 => Zd l46 fun x47 l48 => ZaU x47 fun w16 => Ze l48 <| Ze r2 <| Ze os (some (w0, w1, w2, w3, w4, w5, w6, w7, w8, w9, w10, w11, w12, w13, w14, w15, w16))
theorem Yae.kt_dec (aB : Int) (aA : BA) (aE aD aG : Int) (aT : Bool) (aM : LD) (aQ : Int) (aI : BA) (aR : Int) (aJ aN : LD) (aP : Int) (aK : BA) (aS : Int) (aL aO : LD) : Yae.kt aB aA aE aD aG aT aM aQ aI aR aJ aN aP aK aS aL aO Yae.dec = (fun z0 z1 z2 z3 z4 z5 z6 z7 z8 z9 z10 z11 z12 z13 z14 z15 z16 => some (z0, z1, z2, z3, z4, z5, z6, z7, z8, z9, z10, z11, z12, z13, z14, z15, z16)) := by kernel_rfl
theorem Yae.inj (aB : Int) (aA : BA) (aE aD aG : Int) (aT : Bool) (aM : LD) (aQ : Int) (aI : BA) (aR : Int) (aJ aN : LD) (aP : Int) (aK : BA) (aS : Int) (aL aO : LD) {rs : LC} {os : List Out} {z0 : Int} {z1 : BA} {z2 z3 z4 : Int} {z5 : Bool} {z6 : LC} {z7 : Int} {z8 : BA} {z9 : Int} {z10 z11 : LC} {z12 : Int} {z13 : BA} {z14 : Int} {z15 z16 : LC} (h : Yae.dec rs os = some (z0, z1, z2, z3, z4, z5, z6, z7, z8, z9, z10, z11, z12, z13, z14, z15, z16)) (ho : Zo (Yae.as aB aA aE aD aG aT aM aQ aI aR aJ aN aP aK aS aL aO) os) : rs = [[.d (.int .i64 z0), .d (.str z1), .d (.int .i64 z2), .d (.int .i64 z3), .d (.int .i64 z4), .d (.bool z5), .own z6, .d (.int .i64 z7), .d (.str z8), .d (.int .i64 z9), .own z10, .own z11, .d (.int .i64 z12), .d (.str z13), .d (.int .i64 z14), .own z15, .own z16]] ∧ os = [] := by
 unfold Yae.dec at h
 obtain ⟨c1, r2, rfl, h1⟩ := Zb h
 obtain ⟨x3, l4, rfl, h2⟩ := Zb h1
 obtain ⟨d5, rfl, h3⟩ := Zt h2
 obtain ⟨w0, rfl, h4⟩ := ZA h3
 obtain ⟨x6, l7, rfl, h5⟩ := Zb h4
 obtain ⟨d8, rfl, h6⟩ := Zt h5
 obtain ⟨w1, rfl, h7⟩ := ZaL h6
 obtain ⟨x9, l10, rfl, h8⟩ := Zb h7
 obtain ⟨d11, rfl, h9⟩ := Zt h8
 obtain ⟨w2, rfl, h10⟩ := ZA h9
 obtain ⟨x12, l13, rfl, h11⟩ := Zb h10
 obtain ⟨d14, rfl, h12⟩ := Zt h11
 obtain ⟨w3, rfl, h13⟩ := ZA h12
 obtain ⟨x15, l16, rfl, h14⟩ := Zb h13
 obtain ⟨d17, rfl, h15⟩ := Zt h14
 obtain ⟨w4, rfl, h16⟩ := ZA h15
 obtain ⟨x18, l19, rfl, h17⟩ := Zb h16
 obtain ⟨d20, rfl, h18⟩ := Zt h17
 obtain ⟨w5, rfl, h19⟩ := Z0 h18
 obtain ⟨x21, l22, rfl, h20⟩ := Zb h19
 obtain ⟨w6, rfl, h21⟩ := ZN h20
 obtain ⟨x23, l24, rfl, h22⟩ := Zb h21
 obtain ⟨d25, rfl, h23⟩ := Zt h22
 obtain ⟨w7, rfl, h24⟩ := ZA h23
 obtain ⟨x26, l27, rfl, h25⟩ := Zb h24
 obtain ⟨d28, rfl, h26⟩ := Zt h25
 obtain ⟨w8, rfl, h27⟩ := ZaL h26
 obtain ⟨x29, l30, rfl, h28⟩ := Zb h27
 obtain ⟨d31, rfl, h29⟩ := Zt h28
 obtain ⟨w9, rfl, h30⟩ := ZA h29
 obtain ⟨x32, l33, rfl, h31⟩ := Zb h30
 obtain ⟨w10, rfl, h32⟩ := ZN h31
 obtain ⟨x34, l35, rfl, h33⟩ := Zb h32
 obtain ⟨w11, rfl, h34⟩ := ZN h33
 obtain ⟨x36, l37, rfl, h35⟩ := Zb h34
 obtain ⟨d38, rfl, h36⟩ := Zt h35
 obtain ⟨w12, rfl, h37⟩ := ZA h36
 obtain ⟨x39, l40, rfl, h38⟩ := Zb h37
 obtain ⟨d41, rfl, h39⟩ := Zt h38
 obtain ⟨w13, rfl, h40⟩ := ZaL h39
 obtain ⟨x42, l43, rfl, h41⟩ := Zb h40
 obtain ⟨d44, rfl, h42⟩ := Zt h41
 obtain ⟨w14, rfl, h43⟩ := ZA h42
 obtain ⟨x45, l46, rfl, h44⟩ := Zb h43
 obtain ⟨w15, rfl, h45⟩ := ZN h44
 obtain ⟨x47, l48, rfl, h46⟩ := Zb h45
 obtain ⟨w16, rfl, h47⟩ := ZN h46
 obtain ⟨rfl, h48⟩ := Zc h47
 obtain ⟨rfl, h49⟩ := Zc h48
 obtain ⟨rfl, h50⟩ := Zc h49
 simp only [Option.some.injEq, Prod.mk.injEq] at h50
 obtain ⟨rfl, rfl, rfl, rfl, rfl, rfl, rfl, rfl, rfl, rfl, rfl, rfl, rfl, rfl, rfl, rfl, rfl⟩ := h50
 exact ⟨rfl, rfl⟩
theorem Yae.ok (k : Nat) : Zv Try.prog 204 (Yae.e k) := by
 refine Zu mix tyok (fn := Try.f204) (c := Zl Try.f204) Try.func204 (by kernel_rfl) (h := Yae.h) (k := k) (E := Yae.E k) (Zk (YF.ok k) (Zk (Yk.ok k) Zz)) (by kernel_rfl) (by kernel_rfl) rfl (Zq Try.func204 (by kernel_rfl)) ?_
 intro β l K r hr
 simp only [Yae.e] at hr
 split at hr
 case h_2 => cases hr
 unfold Yae.f at hr
 split at hr
 case h_2 => cases hr
 rename_i hz
 exact ⟨_, _, hr, _, Yae.dec, _, (Yae.f_eq k _ _ _ _ _ _ _ _ _ _ _ _ _ _ _ _ _ Yae.dec).trans (by rw [Yae.kt_dec]; exact hz), fun rs os h ho => Yae.inj _ _ _ _ _ _ _ _ _ _ _ _ _ _ _ _ _ h ho⟩
noncomputable def YG.l0 {β : Type} (k : Nat) (aF : LD) (aC : Int) (K : LC → Option β) (L0 : (Int × LC) → Option β) (v : Int × LC) : Option β :=
 match v with
 | (aH, aW) => bif (decide ((aH : Int) < aC)) then (ZX aF aH fun c71 => Zd c71 fun d r => ZM .i64 d fun x74 => Zd r fun d r => Zan d fun x77 => Zd r fun d r => ZM .i64 d fun x80 => Zd r fun d r => ZM .i64 d fun x83 => Zd r fun d r => ZM .i64 d fun x86 => Zd r fun d r => ZaF d fun x89 => Zd r fun d r => dSl d fun x92 => Zd r fun d r => ZM .i64 d fun x95 => Zd r fun d r => Zan d fun x98 => Zd r fun d r => ZM .i64 d fun x101 => Zd r fun d r => dSl d fun x104 => Zd r fun d r => dSl d fun x107 => Zd r fun d r => ZM .i64 d fun x110 => Zd r fun d r => Zan d fun x113 => Zd r fun d r => ZM .i64 d fun x116 => Zd r fun d r => dSl d fun x119 => Zd r fun d r => dSl d fun x122 => Ze r (Yae.f k x74 x77 x80 x83 x86 x89 x92 x95 x98 x101 x104 x107 x110 x113 x116 x119 x122 (fun y123 y124 y125 y126 y127 y128 y129 y130 y131 y132 y133 y134 y135 y136 y137 y138 y139 => ZH (aW.length + ([[.d (.int .i64 y123), .d (.str y124), .d (.int .i64 y125), .d (.int .i64 y126), .d (.int .i64 y127), .d (.bool y128), .own y129, .d (.int .i64 y130), .d (.str y131), .d (.int .i64 y132), .own y133, .own y134, .d (.int .i64 y135), .d (.str y136), .d (.int .i64 y137), .own y138, .own y139]] : LC).length ≤ Z6) (L0 (IntKind.wrap .i64 (aH + 1), aW ++ ([[.d (.int .i64 y123), .d (.str y124), .d (.int .i64 y125), .d (.int .i64 y126), .d (.int .i64 y127), .d (.bool y128), .own y129, .d (.int .i64 y130), .d (.str y131), .d (.int .i64 y132), .own y133, .own y134, .d (.int .i64 y135), .d (.str y136), .d (.int .i64 y137), .own y138, .own y139]] : LC)))))) else (K aW)
noncomputable def YG.g {β : Type} (k : Nat) (a0 : LD) (K : LC → Option β) : Option β :=
 Z4 (YG.l0 k a0 (a0.length : Int) K) k (0, ([] : LC))
noncomputable def YG.t (k : Nat) (a0 : LD) : Option (LC) := YG.g k a0 (fun z0 => some z0)
noncomputable def YG.f {β : Type} (k : Nat) (a0 : LD) (K : LC → Option β) : Option β :=
 match YG.t k a0 with
 | some z0 => K z0
 | none => none
noncomputable def YG.as (a0 : LD) : List A := [.d (.sl a0)]
noncomputable def YG.kt {β : Type} (a0 : LD) (K0 : LC → List Out → Option β) : LC → Option β := fun z0 => K0 [[.own z0]] []
noncomputable def YG.e (k : Nat) : ZQ := { modes := [(.imm, 0)], rts := [82], al := false, run := fun {β} l K => match l with | [.d (.sl a0)] => YG.f k a0 (YG.kt a0 K) | _ => none }
noncomputable def YG.E (k : Nat) : Env := fun g => bif g == 204 then some (Yae.e k) else none
noncomputable def YG.h : ZY := ⟨fun n => bif n == 3 then ⟨[(3, .asis), (7, .asis), (8, .asis), (9, .asis)], []⟩ else ⟨[], []⟩, fun _ => none, false, []⟩
noncomputable def YG.s0 (aF : LD) (aC : Int) (v : Int × LC) : St :=
 match v with
 | (aH, aW) => ⟨[.any, .any, .any, .row 0, .any, .any, .any, .d false (.sl aF), .d true (.int .i64 aC), .d true (.int .i64 aH), .any, .any, .any, .any, .any, .any, .any, .any, .any, .any], [.row none true 82 aW]⟩
noncomputable def YG.b0 {β : Type} (k : Nat) : St → (Ex → St → Option β) → Option β := fun s K => den Try.prog (YG.E k) YG.h.H YG.h.J k (Zad [1, 1, 0, 1, 0, 0] (Zl Try.f134)) s K
noncomputable def YG.c0 {β : Type} (k : Nat) (a0 : LD) (K0 : LC → List Out → Option β) : Ex → St → Option β := Zae Try.prog (YG.E k) YG.h k [1, 1, 0, 1, 0] (Zl Try.f134) (Zak Try.prog Try.f134 YG.h (YG.as a0) K0)
theorem YG.l0_eq {β : Type} (k : Nat) (a0 : LD) (K0 : LC → List Out → Option β) (aF : LD) (aC : Int) : ∀ (kk : Nat) (v : Int × LC), Zx (YG.b0 k) (YG.h.H 3) kk (YG.s0 aF aC v) (YG.c0 k a0 K0) = Z4 (YG.l0 k aF aC (YG.kt a0 K0)) kk v :=
 Z9 (YG.s0 aF aC) _ (fun L0 v => by obtain ⟨aH, aW⟩ := v; kernel_rfl)
noncomputable def YG.m {β : Type} (k : Nat) (a0 : LD) (K0 : LC → List Out → Option β) (F : (LD → Int → (Int × LC) → Option β)) : Option β :=
 (F) a0 (a0.length : Int) (0, ([] : LC))
theorem YG.f_eq {β : Type} (k : Nat) (a0 : LD) (K0 : LC → List Out → Option β) : ZJ Try.prog (YG.E k) YG.h k Try.f134 (YG.as a0) K0 = YG.g k a0 (YG.kt a0 K0) := Eq.trans (b := (YG.m k a0 K0) (fun (aF : LD) (aC : Int) (v : Int × LC) => Zx (YG.b0 k) (YG.h.H 3) k (YG.s0 aF aC v) (YG.c0 k a0 K0))) (by kernel_rfl) (Eq.trans (congrArg (YG.m k a0 K0) (funext fun aF => funext fun aC => funext fun v => YG.l0_eq k a0 K0 aF aC k v)) (by kernel_rfl))
noncomputable def YG.dec (rs : LC) (os : List Out) : Option (LC) := Zd rs fun c1 r2 => Zd c1 fun x3 l4 => ZaU x3 fun w0 => Ze l4 <| Ze r2 <| Ze os (some w0)
theorem YG.kt_dec (a0 : LD) : YG.kt a0 YG.dec = (fun z0 => some z0) := by kernel_rfl
theorem YG.inj (a0 : LD) {rs : LC} {os : List Out} {z0 : LC} (h : YG.dec rs os = some z0) (ho : Zo (YG.as a0) os) : rs = [[.own z0]] ∧ os = [] := by
 unfold YG.dec at h
 obtain ⟨c1, r2, rfl, h1⟩ := Zb h
 obtain ⟨x3, l4, rfl, h2⟩ := Zb h1
 obtain ⟨w0, rfl, h3⟩ := ZN h2
 obtain ⟨rfl, h4⟩ := Zc h3
 obtain ⟨rfl, h5⟩ := Zc h4
 obtain ⟨rfl, h6⟩ := Zc h5
 obtain rfl := Option.some.inj h6
 exact ⟨rfl, rfl⟩
theorem YG.ok (k : Nat) : Zv Try.prog 134 (YG.e k) := by
 refine Zu mix tyok (fn := Try.f134) (c := Zl Try.f134) Try.func134 (by kernel_rfl) (h := YG.h) (k := k) (E := YG.E k) (Zk (Yae.ok k) Zz) (by kernel_rfl) (by kernel_rfl) rfl (Zq Try.func134 (by kernel_rfl)) ?_
 intro β l K r hr
 simp only [YG.e] at hr
 split at hr
 case h_2 => cases hr
 unfold YG.f at hr
 split at hr
 case h_2 => cases hr
 rename_i hz
 exact ⟨_, _, hr, _, YG.dec, _, (YG.f_eq k _ YG.dec).trans (by rw [YG.kt_dec]; exact hz), fun rs os h ho => YG.inj _ h ho⟩
noncomputable def Yan.g {β : Type} (k : Nat) (aB : LD) (aA aE : Int) (aD : LD) (K : Int → LC → Option β) : Option β :=
 YO.f k aB aA aE aD (fun y453 => bif (!y453) then (K 0 ([] : LC)) else (YG.f k aB (fun y454 => K aA y454)))
noncomputable def Yan.t (k : Nat) (aB : LD) (aA aE : Int) (aD : LD) : Option (Int × LC) := Yan.g k aB aA aE aD (fun z0 z1 => some (z0, z1))
noncomputable def Yan.f {β : Type} (k : Nat) (aB : LD) (aA aE : Int) (aD : LD) (K : Int → LC → Option β) : Option β :=
 match Yan.t k aB aA aE aD with
 | some (z0, z1) => K z0 z1
 | none => none
noncomputable def Yan.as (aB : LD) (aA aE : Int) (aD : LD) : List A := [.agg [.sl aB, .int .i64 aA, .int .i64 aE, .sl aD]]
noncomputable def Yan.kt {β : Type} (aB : LD) (aA aE : Int) (aD : LD) (K0 : LC → List Out → Option β) : Int → LC → Option β := fun z0 z1 => K0 [[.d (.int .i64 z0), .own z1]] []
noncomputable def Yan.e (k : Nat) : ZQ := { modes := [(.imm, 0)], rts := [84], al := false, run := fun {β} l K => match l with | [.agg [.sl aB, .int .i64 aA, .int .i64 aE, .sl aD]] => Yan.f k aB aA aE aD (Yan.kt aB aA aE aD K) | _ => none }
noncomputable def Yan.E (k : Nat) : Env := fun g => bif g == 133 then some (YO.e k) else bif g == 134 then some (YG.e k) else none
noncomputable def Yan.h : ZY := ⟨fun n => ⟨[], []⟩, fun _ => none, false, []⟩
theorem Yan.f_eq {β : Type} (k : Nat) (aB : LD) (aA aE : Int) (aD : LD) (K0 : LC → List Out → Option β) : ZJ Try.prog (Yan.E k) Yan.h k Try.f52 (Yan.as aB aA aE aD) K0 = Yan.g k aB aA aE aD (Yan.kt aB aA aE aD K0) := by kernel_rfl
noncomputable def Yan.dec (rs : LC) (os : List Out) : Option (Int × LC) := Zd rs fun c1 r2 => Zd c1 fun x3 l4 => cD x3 fun d5 => ZM .i64 d5 fun w0 => Zd l4 fun x6 l7 => ZaU x6 fun w1 => Ze l7 <| Ze r2 <| Ze os (some (w0, w1))
theorem Yan.kt_dec (aB : LD) (aA aE : Int) (aD : LD) : Yan.kt aB aA aE aD Yan.dec = (fun z0 z1 => some (z0, z1)) := by kernel_rfl
theorem Yan.inj (aB : LD) (aA aE : Int) (aD : LD) {rs : LC} {os : List Out} {z0 : Int} {z1 : LC} (h : Yan.dec rs os = some (z0, z1)) (ho : Zo (Yan.as aB aA aE aD) os) : rs = [[.d (.int .i64 z0), .own z1]] ∧ os = [] := by
 unfold Yan.dec at h
 obtain ⟨c1, r2, rfl, h1⟩ := Zb h
 obtain ⟨x3, l4, rfl, h2⟩ := Zb h1
 obtain ⟨d5, rfl, h3⟩ := Zt h2
 obtain ⟨w0, rfl, h4⟩ := ZA h3
 obtain ⟨x6, l7, rfl, h5⟩ := Zb h4
 obtain ⟨w1, rfl, h6⟩ := ZN h5
 obtain ⟨rfl, h7⟩ := Zc h6
 obtain ⟨rfl, h8⟩ := Zc h7
 obtain ⟨rfl, h9⟩ := Zc h8
 simp only [Option.some.injEq, Prod.mk.injEq] at h9
 obtain ⟨rfl, rfl⟩ := h9
 exact ⟨rfl, rfl⟩
theorem Yan.ok (k : Nat) : Zv Try.prog 52 (Yan.e k) := by
 refine Zu mix tyok (fn := Try.f52) (c := Zl Try.f52) Try.func52 (by kernel_rfl) (h := Yan.h) (k := k) (E := Yan.E k) (Zk (YO.ok k) (Zk (YG.ok k) Zz)) (by kernel_rfl) (by kernel_rfl) rfl (Zq Try.func52 (by kernel_rfl)) ?_
 intro β l K r hr
 simp only [Yan.e] at hr
 split at hr
 case h_2 => cases hr
 unfold Yan.f at hr
 split at hr
 case h_2 => cases hr
 rename_i hz
 exact ⟨_, _, hr, _, Yan.dec, _, (Yan.f_eq k _ _ _ _ Yan.dec).trans (by rw [Yan.kt_dec]; exact hz), fun rs os h ho => Yan.inj _ _ _ _ h ho⟩
noncomputable def Ys.l0 {β : Type} (k : Nat) (aF aC : LD) (K : Bool → Option β) (L0 : Int → Option β) (v : Int) : Option β :=
 match v with
 | aH => bif (decide ((aH : Int) < (aF.length : Int))) then (ZX aF aH fun c9 => Zd c9 fun d r => Zan d fun x12 => Ze r (ZX aC aH fun c13 => Zd c13 fun d r => Zan d fun x16 => Ze r (bif (!(strEq x12 x16)) then (K false) else (L0 (IntKind.wrap .i64 (aH + 1)))))) else (K true)
noncomputable def Ys.g {β : Type} (k : Nat) (a0 a1 : LD) (K : Bool → Option β) : Option β :=
 bif (((a0.length : Int) : Int) != (a1.length : Int)) then (K false) else (Z4 (Ys.l0 k a0 a1 K) k (0))
noncomputable def Ys.t (k : Nat) (a0 a1 : LD) : Option (Bool) := Ys.g k a0 a1 (fun z0 => some z0)
noncomputable def Ys.f {β : Type} (k : Nat) (a0 a1 : LD) (K : Bool → Option β) : Option β :=
 match Ys.t k a0 a1 with
 | some z0 => K z0
 | none => none
noncomputable def Ys.as (a0 a1 : LD) : List A := [.d (.sl a0), .d (.sl a1)]
noncomputable def Ys.kt {β : Type} (a0 a1 : LD) (K0 : LC → List Out → Option β) : Bool → Option β := fun z0 => K0 [[.d (.bool z0)]] []
noncomputable def Ys.e (k : Nat) : ZQ := { modes := [(.imm, 0), (.imm, 0)], rts := [4], al := false, run := fun {β} l K => match l with | [.d (.sl a0), .d (.sl a1)] => Ys.f k a0 a1 (Ys.kt a0 a1 K) | _ => none }
noncomputable def Ys.E (k : Nat) : Env := fun g => none
noncomputable def Ys.h : ZY := ⟨fun n => bif n == 4 then ⟨[(0, .asis), (1, .asis), (5, .asis)], []⟩ else ⟨[], []⟩, fun _ => none, false, []⟩
noncomputable def Ys.s0 (aF aC : LD) (v : Int) : St :=
 match v with
 | aH => ⟨[.d false (.sl aF), .d false (.sl aC), .any, .any, .any, .d true (.int .i64 aH), .any, .any, .any, .any, .any, .any, .any, .any, .any, .any, .any, .any, .any, .any, .any, .any, .any, .any, .any, .any], []⟩
noncomputable def Ys.b0 {β : Type} (k : Nat) : St → (Ex → St → Option β) → Option β := fun s K => den Try.prog (Ys.E k) Ys.h.H Ys.h.J k (Zad [1, 1, 0, 1, 0, 0] (Zl Try.f82)) s K
noncomputable def Ys.c0 {β : Type} (k : Nat) (a0 a1 : LD) (K0 : LC → List Out → Option β) : Ex → St → Option β := Zae Try.prog (Ys.E k) Ys.h k [1, 1, 0, 1, 0] (Zl Try.f82) (Zak Try.prog Try.f82 Ys.h (Ys.as a0 a1) K0)
theorem Ys.l0_eq {β : Type} (k : Nat) (a0 a1 : LD) (K0 : LC → List Out → Option β) (aF aC : LD) : ∀ (kk : Nat) (v : Int), Zx (Ys.b0 k) (Ys.h.H 4) kk (Ys.s0 aF aC v) (Ys.c0 k a0 a1 K0) = Z4 (Ys.l0 k aF aC (Ys.kt a0 a1 K0)) kk v :=
 Z9 (Ys.s0 aF aC) _ (fun L0 v => by kernel_rfl)
noncomputable def Ys.m {β : Type} (k : Nat) (a0 a1 : LD) (K0 : LC → List Out → Option β) (F : (LD → LD → Int → Option β)) : Option β :=
 bif (((a0.length : Int) : Int) != (a1.length : Int)) then ((Ys.kt a0 a1 K0) false) else ((F) a0 a1 (0))
theorem Ys.f_eq {β : Type} (k : Nat) (a0 a1 : LD) (K0 : LC → List Out → Option β) : ZJ Try.prog (Ys.E k) Ys.h k Try.f82 (Ys.as a0 a1) K0 = Ys.g k a0 a1 (Ys.kt a0 a1 K0) := Eq.trans (b := (Ys.m k a0 a1 K0) (fun (aF : LD) (aC : LD) (v : Int) => Zx (Ys.b0 k) (Ys.h.H 4) k (Ys.s0 aF aC v) (Ys.c0 k a0 a1 K0))) (by kernel_rfl) (Eq.trans (congrArg (Ys.m k a0 a1 K0) (funext fun aF => funext fun aC => funext fun v => Ys.l0_eq k a0 a1 K0 aF aC k v)) (by kernel_rfl))
noncomputable def Ys.dec (rs : LC) (os : List Out) : Option (Bool) := Zd rs fun c1 r2 => Zd c1 fun x3 l4 => cD x3 fun d5 => ZaF d5 fun w0 => Ze l4 <| Ze r2 <| Ze os (some w0)
theorem Ys.kt_dec (a0 a1 : LD) : Ys.kt a0 a1 Ys.dec = (fun z0 => some z0) := by kernel_rfl
theorem Ys.inj (a0 a1 : LD) {rs : LC} {os : List Out} {z0 : Bool} (h : Ys.dec rs os = some z0) (ho : Zo (Ys.as a0 a1) os) : rs = [[.d (.bool z0)]] ∧ os = [] := by
 unfold Ys.dec at h
 obtain ⟨c1, r2, rfl, h1⟩ := Zb h
 obtain ⟨x3, l4, rfl, h2⟩ := Zb h1
 obtain ⟨d5, rfl, h3⟩ := Zt h2
 obtain ⟨w0, rfl, h4⟩ := Z0 h3
 obtain ⟨rfl, h5⟩ := Zc h4
 obtain ⟨rfl, h6⟩ := Zc h5
 obtain ⟨rfl, h7⟩ := Zc h6
 obtain rfl := Option.some.inj h7
 exact ⟨rfl, rfl⟩
theorem Ys.ok (k : Nat) : Zv Try.prog 82 (Ys.e k) := by
 refine Zu mix tyok (fn := Try.f82) (c := Zl Try.f82) Try.func82 (by kernel_rfl) (h := Ys.h) (k := k) (E := Ys.E k) Zz (by kernel_rfl) (by kernel_rfl) rfl (Zq Try.func82 (by kernel_rfl)) ?_
 intro β l K r hr
 simp only [Ys.e] at hr
 split at hr
 case h_2 => cases hr
 unfold Ys.f at hr
 split at hr
 case h_2 => cases hr
 rename_i hz
 exact ⟨_, _, hr, _, Ys.dec, _, (Ys.f_eq k _ _ Ys.dec).trans (by rw [Ys.kt_dec]; exact hz), fun rs os h ho => Ys.inj _ _ h ho⟩
noncomputable def Ym.l0 {β : Type} (k : Nat) (r_laws_eqValueS : LD → LD → (Bool → Option β) → Option β) (r_laws_eqValue : Int → BA → Int → LD → LD → Int → BA → Int → LD → LD → (Bool → Option β) → Option β) (aF aC : LD) (K : Bool → Option β) (L0 : Int → Option β) (v : Int) : Option β :=
 match v with
 | aH => bif (decide ((aH : Int) < (aF.length : Int))) then (ZX aF aH fun c34 => Zd c34 fun d r => ZM .i64 d fun x37 => Zd r fun d r => Zan d fun x40 => Zd r fun d r => ZM .i64 d fun x43 => Zd r fun d r => dSl d fun x46 => Zd r fun d r => dSl d fun x49 => Ze r (ZX aC aH fun c50 => Zd c50 fun d r => ZM .i64 d fun x53 => Zd r fun d r => Zan d fun x56 => Zd r fun d r => ZM .i64 d fun x59 => Zd r fun d r => dSl d fun x62 => Zd r fun d r => dSl d fun x65 => Ze r (r_laws_eqValue x37 x40 x43 x46 x49 x53 x56 x59 x62 x65 (fun y66 => bif (!y66) then (K false) else (L0 (IntKind.wrap .i64 (aH + 1))))))) else (K true)
noncomputable def Ym.body {β : Type} (k : Nat) (r_laws_eqValueS : LD → LD → (Bool → Option β) → Option β) (r_laws_eqValue : Int → BA → Int → LD → LD → Int → BA → Int → LD → LD → (Bool → Option β) → Option β) (a0 a1 : LD) (K : Bool → Option β) : Option β :=
 bif (((a0.length : Int) : Int) != (a1.length : Int)) then (K false) else (Z4 (Ym.l0 k r_laws_eqValueS r_laws_eqValue a0 a1 K) k (0))
noncomputable def YJ.body {β : Type} (k : Nat) (r_laws_eqValueS : LD → LD → (Bool → Option β) → Option β) (r_laws_eqValue : Int → BA → Int → LD → LD → Int → BA → Int → LD → LD → (Bool → Option β) → Option β) (aB : Int) (aA : BA) (aE : Int) (aD aG : LD) (aU : Int) (aV : BA) (aX : Int) (aY aZ : LD) (K : Bool → Option β) : Option β :=
 bif ((aB : Int) != aU) then (K false) else (bif (!(strEq aA aV)) then (K false) else (bif ((aE : Int) != aX) then (K false) else (Ys.f k aD aY (fun y1 => bif (!y1) then (K false) else (r_laws_eqValueS aG aZ (fun y67 => bif (!y67) then (K false) else (K true)))))))
noncomputable def Ym.w {β : Type} (r : LD → LD → Option (Bool)) (a0 a1 : LD) (K : Bool → Option β) : Option β :=
 match r a0 a1 with
 | some z0 => K z0
 | none => none
noncomputable def YJ.w {β : Type} (r : Int → BA → Int → LD → LD → Int → BA → Int → LD → LD → Option (Bool)) (aB : Int) (aA : BA) (aE : Int) (aD aG : LD) (aU : Int) (aV : BA) (aX : Int) (aY aZ : LD) (K : Bool → Option β) : Option β :=
 match r aB aA aE aD aG aU aV aX aY aZ with
 | some z0 => K z0
 | none => none
noncomputable def Ym.all : Nat → (LD → LD → Option (Bool)) × (Int → BA → Int → LD → LD → Int → BA → Int → LD → LD → Option (Bool))
 | 0 => (fun _ _ => none, fun _ _ _ _ _ _ _ _ _ _ => none)
 | k + 1 => (fun r => (fun a0 a1 => Ym.body k (Ym.w r.1) (YJ.w r.2) a0 a1 (fun z0 => some z0), fun aB aA aE aD aG aU aV aX aY aZ => YJ.body k (Ym.w r.1) (YJ.w r.2) aB aA aE aD aG aU aV aX aY aZ (fun z0 => some z0))) (Ym.all k)
noncomputable def Ym.t (k : Nat) (a0 a1 : LD) : Option (Bool) := (Ym.all k).1 a0 a1
noncomputable def YJ.t (k : Nat) (aB : Int) (aA : BA) (aE : Int) (aD aG : LD) (aU : Int) (aV : BA) (aX : Int) (aY aZ : LD) : Option (Bool) := (Ym.all k).2 aB aA aE aD aG aU aV aX aY aZ
noncomputable def Ym.f {β : Type} (k : Nat) (a0 a1 : LD) (K : Bool → Option β) : Option β := Ym.w (Ym.t k) a0 a1 K
noncomputable def YJ.f {β : Type} (k : Nat) (aB : Int) (aA : BA) (aE : Int) (aD aG : LD) (aU : Int) (aV : BA) (aX : Int) (aY aZ : LD) (K : Bool → Option β) : Option β := YJ.w (YJ.t k) aB aA aE aD aG aU aV aX aY aZ K
noncomputable def Ym.g {β : Type} (k : Nat) (a0 a1 : LD) (K : Bool → Option β) : Option β := Ym.body k (Ym.f k) (YJ.f k) a0 a1 K
theorem Ym.t_zero (a0 a1 : LD) : Ym.t 0 a0 a1 = none := rfl
theorem Ym.t_succ (k : Nat) (a0 a1 : LD) : Ym.t (k + 1) a0 a1 = Ym.g k a0 a1 (fun z0 => some z0) := rfl
noncomputable def YJ.g {β : Type} (k : Nat) (aB : Int) (aA : BA) (aE : Int) (aD aG : LD) (aU : Int) (aV : BA) (aX : Int) (aY aZ : LD) (K : Bool → Option β) : Option β := YJ.body k (Ym.f k) (YJ.f k) aB aA aE aD aG aU aV aX aY aZ K
theorem YJ.t_zero (aB : Int) (aA : BA) (aE : Int) (aD aG : LD) (aU : Int) (aV : BA) (aX : Int) (aY aZ : LD) : YJ.t 0 aB aA aE aD aG aU aV aX aY aZ = none := rfl
theorem YJ.t_succ (k : Nat) (aB : Int) (aA : BA) (aE : Int) (aD aG : LD) (aU : Int) (aV : BA) (aX : Int) (aY aZ : LD) : YJ.t (k + 1) aB aA aE aD aG aU aV aX aY aZ = YJ.g k aB aA aE aD aG aU aV aX aY aZ (fun z0 => some z0) := rfl
noncomputable def Ym.as (a0 a1 : LD) : List A := [.d (.sl a0), .d (.sl a1)]
noncomputable def Ym.kt {β : Type} (a0 a1 : LD) (K0 : LC → List Out → Option β) : Bool → Option β := fun z0 => K0 [[.d (.bool z0)]] []
noncomputable def Ym.e (k : Nat) : ZQ := { modes := [(.imm, 0), (.imm, 0)], rts := [4], al := false, run := fun {β} l K => match l with | [.d (.sl a0), .d (.sl a1)] => Ym.f k a0 a1 (Ym.kt a0 a1 K) | _ => none }
noncomputable def YJ.as (aB : Int) (aA : BA) (aE : Int) (aD aG : LD) (aU : Int) (aV : BA) (aX : Int) (aY aZ : LD) : List A := [.agg [.int .i64 aB, .str aA, .int .i64 aE, .sl aD, .sl aG], .agg [.int .i64 aU, .str aV, .int .i64 aX, .sl aY, .sl aZ]]
noncomputable def YJ.kt {β : Type} (aB : Int) (aA : BA) (aE : Int) (aD aG : LD) (aU : Int) (aV : BA) (aX : Int) (aY aZ : LD) (K0 : LC → List Out → Option β) : Bool → Option β := fun z0 => K0 [[.d (.bool z0)]] []
noncomputable def YJ.e (k : Nat) : ZQ := { modes := [(.imm, 0), (.imm, 0)], rts := [4], al := false, run := fun {β} l K => match l with | [.agg [.int .i64 aB, .str aA, .int .i64 aE, .sl aD, .sl aG], .agg [.int .i64 aU, .str aV, .int .i64 aX, .sl aY, .sl aZ]] => YJ.f k aB aA aE aD aG aU aV aX aY aZ (YJ.kt aB aA aE aD aG aU aV aX aY aZ K) | _ => none }
noncomputable def Ym.E (k : Nat) : Env := fun g => bif g == 190 then some (YJ.e k) else none
noncomputable def Ym.h : ZY := ⟨fun n => bif n == 4 then ⟨[(0, .asis), (1, .asis), (5, .asis)], []⟩ else ⟨[], []⟩, fun _ => none, false, []⟩
noncomputable def Ym.s0 (aF aC : LD) (v : Int) : St :=
 match v with
 | aH => ⟨[.d false (.sl aF), .d false (.sl aC), .any, .any, .any, .d true (.int .i64 aH), .any, .any, .any, .any, .any, .any, .any, .any, .any, .any, .any, .any, .any, .any, .any, .any, .any, .any, .any, .any, .any], []⟩
noncomputable def Ym.b0 {β : Type} (k : Nat) : St → (Ex → St → Option β) → Option β := fun s K => den Try.prog (Ym.E k) Ym.h.H Ym.h.J k (Zad [1, 1, 0, 1, 0, 0] (Zl Try.f226)) s K
noncomputable def Ym.c0 {β : Type} (k : Nat) (a0 a1 : LD) (K0 : LC → List Out → Option β) : Ex → St → Option β := Zae Try.prog (Ym.E k) Ym.h k [1, 1, 0, 1, 0] (Zl Try.f226) (Zak Try.prog Try.f226 Ym.h (Ym.as a0 a1) K0)
theorem Ym.l0_eq {β : Type} (k : Nat) (a0 a1 : LD) (K0 : LC → List Out → Option β) (aF aC : LD) : ∀ (kk : Nat) (v : Int), Zx (Ym.b0 k) (Ym.h.H 4) kk (Ym.s0 aF aC v) (Ym.c0 k a0 a1 K0) = Z4 (Ym.l0 k (Ym.f k) (YJ.f k) aF aC (Ym.kt a0 a1 K0)) kk v :=
 Z9 (Ym.s0 aF aC) _ (fun L0 v => by kernel_rfl)
noncomputable def Ym.m {β : Type} (k : Nat) (a0 a1 : LD) (K0 : LC → List Out → Option β) (F : (LD → LD → Int → Option β)) : Option β :=
 bif (((a0.length : Int) : Int) != (a1.length : Int)) then ((Ym.kt a0 a1 K0) false) else ((F) a0 a1 (0))
theorem Ym.f_eq {β : Type} (k : Nat) (a0 a1 : LD) (K0 : LC → List Out → Option β) : ZJ Try.prog (Ym.E k) Ym.h k Try.f226 (Ym.as a0 a1) K0 = Ym.g k a0 a1 (Ym.kt a0 a1 K0) := Eq.trans (b := (Ym.m k a0 a1 K0) (fun (aF : LD) (aC : LD) (v : Int) => Zx (Ym.b0 k) (Ym.h.H 4) k (Ym.s0 aF aC v) (Ym.c0 k a0 a1 K0))) (by kernel_rfl) (Eq.trans (congrArg (Ym.m k a0 a1 K0) (funext fun aF => funext fun aC => funext fun v => Ym.l0_eq k a0 a1 K0 aF aC k v)) (by kernel_rfl))
noncomputable def YJ.E (k : Nat) : Env := fun g => bif g == 82 then some (Ys.e k) else bif g == 226 then some (Ym.e k) else none
noncomputable def YJ.h : ZY := ⟨fun n => ⟨[], []⟩, fun _ => none, false, []⟩
theorem YJ.f_eq {β : Type} (k : Nat) (aB : Int) (aA : BA) (aE : Int) (aD aG : LD) (aU : Int) (aV : BA) (aX : Int) (aY aZ : LD) (K0 : LC → List Out → Option β) : ZJ Try.prog (YJ.E k) YJ.h k Try.f190 (YJ.as aB aA aE aD aG aU aV aX aY aZ) K0 = YJ.g k aB aA aE aD aG aU aV aX aY aZ (YJ.kt aB aA aE aD aG aU aV aX aY aZ K0) := by kernel_rfl
noncomputable def Ym.dec (rs : LC) (os : List Out) : Option (Bool) := Zd rs fun c1 r2 => Zd c1 fun x3 l4 => cD x3 fun d5 => ZaF d5 fun w0 => Ze l4 <| Ze r2 <| Ze os (some w0)
theorem Ym.kt_dec (a0 a1 : LD) : Ym.kt a0 a1 Ym.dec = (fun z0 => some z0) := by kernel_rfl
theorem Ym.inj (a0 a1 : LD) {rs : LC} {os : List Out} {z0 : Bool} (h : Ym.dec rs os = some z0) (ho : Zo (Ym.as a0 a1) os) : rs = [[.d (.bool z0)]] ∧ os = [] := by
 unfold Ym.dec at h
 obtain ⟨c1, r2, rfl, h1⟩ := Zb h
 obtain ⟨x3, l4, rfl, h2⟩ := Zb h1
 obtain ⟨d5, rfl, h3⟩ := Zt h2
 obtain ⟨w0, rfl, h4⟩ := Z0 h3
 obtain ⟨rfl, h5⟩ := Zc h4
 obtain ⟨rfl, h6⟩ := Zc h5
 obtain ⟨rfl, h7⟩ := Zc h6
 obtain rfl := Option.some.inj h7
 exact ⟨rfl, rfl⟩
noncomputable def YJ.dec (rs : LC) (os : List Out) : Option (Bool) := Zd rs fun c1 r2 => Zd c1 fun x3 l4 => cD x3 fun d5 => ZaF d5 fun w0 => Ze l4 <| Ze r2 <| Ze os (some w0)
theorem YJ.kt_dec (aB : Int) (aA : BA) (aE : Int) (aD aG : LD) (aU : Int) (aV : BA) (aX : Int) (aY aZ : LD) : YJ.kt aB aA aE aD aG aU aV aX aY aZ YJ.dec = (fun z0 => some z0) := by kernel_rfl
theorem YJ.inj (aB : Int) (aA : BA) (aE : Int) (aD aG : LD) (aU : Int) (aV : BA) (aX : Int) (aY aZ : LD) {rs : LC} {os : List Out} {z0 : Bool} (h : YJ.dec rs os = some z0) (ho : Zo (YJ.as aB aA aE aD aG aU aV aX aY aZ) os) : rs = [[.d (.bool z0)]] ∧ os = [] := by
 unfold YJ.dec at h
 obtain ⟨c1, r2, rfl, h1⟩ := Zb h
 obtain ⟨x3, l4, rfl, h2⟩ := Zb h1
 obtain ⟨d5, rfl, h3⟩ := Zt h2
 obtain ⟨w0, rfl, h4⟩ := Z0 h3
 obtain ⟨rfl, h5⟩ := Zc h4
 obtain ⟨rfl, h6⟩ := Zc h5
 obtain ⟨rfl, h7⟩ := Zc h6
 obtain rfl := Option.some.inj h7
 exact ⟨rfl, rfl⟩
theorem Ym.oks (k : Nat) : Zv Try.prog 226 (Ym.e k) ∧ Zv Try.prog 190 (YJ.e k) := by
 induction k with
 | zero =>
  refine ⟨?_, ?_⟩
  ·exact Zb1 (Zq Try.func226 (by kernel_rfl)) fun β l K r h => by
    simp only [Ym.e] at h
    split at h
    ·unfold Ym.f at h
     unfold Ym.w at h
     rw [Ym.t_zero] at h
     cases h
    ·cases h
  ·exact Zb1 (Zq Try.func190 (by kernel_rfl)) fun β l K r h => by
    simp only [YJ.e] at h
    split at h
    ·unfold YJ.f at h
     unfold YJ.w at h
     rw [YJ.t_zero] at h
     cases h
    ·cases h
 | succ k ih =>
  refine ⟨?_, ?_⟩
  ·refine Zu mix tyok (fn := Try.f226) (c := Zl Try.f226) Try.func226 (by kernel_rfl) (h := Ym.h) (k := k) (E := Ym.E k) (Zk ih.2 Zz) (by kernel_rfl) (by kernel_rfl) rfl (Zq Try.func226 (by kernel_rfl)) ?_
   intro β l K r hr
   simp only [Ym.e] at hr
   split at hr
   case h_2 => cases hr
   unfold Ym.f at hr
   unfold Ym.w at hr
   split at hr
   case h_2 => cases hr
   rename_i hz
   exact ⟨_, _, hr, _, Ym.dec, _, (Ym.f_eq k _ _ Ym.dec).trans (by rw [Ym.kt_dec]; exact hz), fun rs os h ho => Ym.inj _ _ h ho⟩
  ·refine Zu mix tyok (fn := Try.f190) (c := Zl Try.f190) Try.func190 (by kernel_rfl) (h := YJ.h) (k := k) (E := YJ.E k) (Zk (Ys.ok k) (Zk ih.1 Zz)) (by kernel_rfl) (by kernel_rfl) rfl (Zq Try.func190 (by kernel_rfl)) ?_
   intro β l K r hr
   simp only [YJ.e] at hr
   split at hr
   case h_2 => cases hr
   unfold YJ.f at hr
   unfold YJ.w at hr
   split at hr
   case h_2 => cases hr
   rename_i hz
   exact ⟨_, _, hr, _, YJ.dec, _, (YJ.f_eq k _ _ _ _ _ _ _ _ _ _ YJ.dec).trans (by rw [YJ.kt_dec]; exact hz), fun rs os h ho => YJ.inj _ _ _ _ _ _ _ _ _ _ h ho⟩
theorem YJ.ok (k : Nat) : Zv Try.prog 190 (YJ.e k) := (Ym.oks k).2
noncomputable def Yai.g {β : Type} (k : Nat) (aB : Int) (aA : BA) (aE aD aG : Int) (aT : Bool) (aM : LD) (aQ : Int) (aI : BA) (aR : Int) (aJ aN : LD) (aP : Int) (aK : BA) (aS : Int) (aL aO : LD) (aU : Int) (aV : BA) (aX aY aZ : Int) (bC : Bool) (bD : LD) (bE : Int) (bF : BA) (bG : Int) (bH bI : LD) (bJ : Int) (bK : BA) (bL : Int) (bM bN : LD) (K : Bool → Option β) : Option β :=
 bif ((aB : Int) != aU) then (K false) else (bif (!(strEq aA aV)) then (K false) else (bif ((aE : Int) != aX) then (K false) else (bif ((aD : Int) != aY) then (K false) else (bif ((aG : Int) != aZ) then (K false) else (bif (!(aT == bC)) then (K false) else (Ys.f k aM bD (fun y17 => bif (!y17) then (K false) else (YJ.f k aQ aI aR aJ aN bE bF bG bH bI (fun y68 => bif (!y68) then (K false) else (YJ.f k aP aK aS aL aO bJ bK bL bM bN (fun y69 => bif (!y69) then (K false) else (K true))))))))))))
noncomputable def Yai.t (k : Nat) (aB : Int) (aA : BA) (aE aD aG : Int) (aT : Bool) (aM : LD) (aQ : Int) (aI : BA) (aR : Int) (aJ aN : LD) (aP : Int) (aK : BA) (aS : Int) (aL aO : LD) (aU : Int) (aV : BA) (aX aY aZ : Int) (bC : Bool) (bD : LD) (bE : Int) (bF : BA) (bG : Int) (bH bI : LD) (bJ : Int) (bK : BA) (bL : Int) (bM bN : LD) : Option (Bool) := Yai.g k aB aA aE aD aG aT aM aQ aI aR aJ aN aP aK aS aL aO aU aV aX aY aZ bC bD bE bF bG bH bI bJ bK bL bM bN (fun z0 => some z0)
noncomputable def Yai.f {β : Type} (k : Nat) (aB : Int) (aA : BA) (aE aD aG : Int) (aT : Bool) (aM : LD) (aQ : Int) (aI : BA) (aR : Int) (aJ aN : LD) (aP : Int) (aK : BA) (aS : Int) (aL aO : LD) (aU : Int) (aV : BA) (aX aY aZ : Int) (bC : Bool) (bD : LD) (bE : Int) (bF : BA) (bG : Int) (bH bI : LD) (bJ : Int) (bK : BA) (bL : Int) (bM bN : LD) (K : Bool → Option β) : Option β :=
 match Yai.t k aB aA aE aD aG aT aM aQ aI aR aJ aN aP aK aS aL aO aU aV aX aY aZ bC bD bE bF bG bH bI bJ bK bL bM bN with
 | some z0 => K z0
 | none => none
noncomputable def Yai.as (aB : Int) (aA : BA) (aE aD aG : Int) (aT : Bool) (aM : LD) (aQ : Int) (aI : BA) (aR : Int) (aJ aN : LD) (aP : Int) (aK : BA) (aS : Int) (aL aO : LD) (aU : Int) (aV : BA) (aX aY aZ : Int) (bC : Bool) (bD : LD) (bE : Int) (bF : BA) (bG : Int) (bH bI : LD) (bJ : Int) (bK : BA) (bL : Int) (bM bN : LD) : List A := [.agg [.int .i64 aB, .str aA, .int .i64 aE, .int .i64 aD, .int .i64 aG, .bool aT, .sl aM, .int .i64 aQ, .str aI, .int .i64 aR, .sl aJ, .sl aN, .int .i64 aP, .str aK, .int .i64 aS, .sl aL, .sl aO], .agg [.int .i64 aU, .str aV, .int .i64 aX, .int .i64 aY, .int .i64 aZ, .bool bC, .sl bD, .int .i64 bE, .str bF, .int .i64 bG, .sl bH, .sl bI, .int .i64 bJ, .str bK, .int .i64 bL, .sl bM, .sl bN]]
noncomputable def Yai.kt {β : Type} (aB : Int) (aA : BA) (aE aD aG : Int) (aT : Bool) (aM : LD) (aQ : Int) (aI : BA) (aR : Int) (aJ aN : LD) (aP : Int) (aK : BA) (aS : Int) (aL aO : LD) (aU : Int) (aV : BA) (aX aY aZ : Int) (bC : Bool) (bD : LD) (bE : Int) (bF : BA) (bG : Int) (bH bI : LD) (bJ : Int) (bK : BA) (bL : Int) (bM bN : LD) (K0 : LC → List Out → Option β) : Bool → Option β := fun z0 => K0 [[.d (.bool z0)]] []
noncomputable def Yai.e (k : Nat) : ZQ := { modes := [(.imm, 0), (.imm, 0)], rts := [4], al := false, run := fun {β} l K => match l with | [.agg [.int .i64 aB, .str aA, .int .i64 aE, .int .i64 aD, .int .i64 aG, .bool aT, .sl aM, .int .i64 aQ, .str aI, .int .i64 aR, .sl aJ, .sl aN, .int .i64 aP, .str aK, .int .i64 aS, .sl aL, .sl aO], .agg [.int .i64 aU, .str aV, .int .i64 aX, .int .i64 aY, .int .i64 aZ, .bool bC, .sl bD, .int .i64 bE, .str bF, .int .i64 bG, .sl bH, .sl bI, .int .i64 bJ, .str bK, .int .i64 bL, .sl bM, .sl bN]] => Yai.f k aB aA aE aD aG aT aM aQ aI aR aJ aN aP aK aS aL aO aU aV aX aY aZ bC bD bE bF bG bH bI bJ bK bL bM bN (Yai.kt aB aA aE aD aG aT aM aQ aI aR aJ aN aP aK aS aL aO aU aV aX aY aZ bC bD bE bF bG bH bI bJ bK bL bM bN K) | _ => none }
noncomputable def Yai.E (k : Nat) : Env := fun g => bif g == 82 then some (Ys.e k) else bif g == 190 then some (YJ.e k) else none
noncomputable def Yai.h : ZY := ⟨fun n => ⟨[], []⟩, fun _ => none, false, []⟩
theorem Yai.f_eq {β : Type} (k : Nat) (aB : Int) (aA : BA) (aE aD aG : Int) (aT : Bool) (aM : LD) (aQ : Int) (aI : BA) (aR : Int) (aJ aN : LD) (aP : Int) (aK : BA) (aS : Int) (aL aO : LD) (aU : Int) (aV : BA) (aX aY aZ : Int) (bC : Bool) (bD : LD) (bE : Int) (bF : BA) (bG : Int) (bH bI : LD) (bJ : Int) (bK : BA) (bL : Int) (bM bN : LD) (K0 : LC → List Out → Option β) : ZJ Try.prog (Yai.E k) Yai.h k Try.f200 (Yai.as aB aA aE aD aG aT aM aQ aI aR aJ aN aP aK aS aL aO aU aV aX aY aZ bC bD bE bF bG bH bI bJ bK bL bM bN) K0 = Yai.g k aB aA aE aD aG aT aM aQ aI aR aJ aN aP aK aS aL aO aU aV aX aY aZ bC bD bE bF bG bH bI bJ bK bL bM bN (Yai.kt aB aA aE aD aG aT aM aQ aI aR aJ aN aP aK aS aL aO aU aV aX aY aZ bC bD bE bF bG bH bI bJ bK bL bM bN K0) := by kernel_rfl
noncomputable def Yai.dec (rs : LC) (os : List Out) : Option (Bool) := Zd rs fun c1 r2 => Zd c1 fun x3 l4 => cD x3 fun d5 => ZaF d5 fun w0 => Ze l4 <| Ze r2 <| Ze os (some w0)
theorem Yai.kt_dec (aB : Int) (aA : BA) (aE aD aG : Int) (aT : Bool) (aM : LD) (aQ : Int) (aI : BA) (aR : Int) (aJ aN : LD) (aP : Int) (aK : BA) (aS : Int) (aL aO : LD) (aU : Int) (aV : BA) (aX aY aZ : Int) (bC : Bool) (bD : LD) (bE : Int) (bF : BA) (bG : Int) (bH bI : LD) (bJ : Int) (bK : BA) (bL : Int) (bM bN : LD) : Yai.kt aB aA aE aD aG aT aM aQ aI aR aJ aN aP aK aS aL aO aU aV aX aY aZ bC bD bE bF bG bH bI bJ bK bL bM bN Yai.dec = (fun z0 => some z0) := by kernel_rfl
theorem Yai.inj (aB : Int) (aA : BA) (aE aD aG : Int) (aT : Bool) (aM : LD) (aQ : Int) (aI : BA) (aR : Int) (aJ aN : LD) (aP : Int) (aK : BA) (aS : Int) (aL aO : LD) (aU : Int) (aV : BA) (aX aY aZ : Int) (bC : Bool) (bD : LD) (bE : Int) (bF : BA) (bG : Int) (bH bI : LD) (bJ : Int) (bK : BA) (bL : Int) (bM bN : LD) {rs : LC} {os : List Out} {z0 : Bool} (h : Yai.dec rs os = some z0) (ho : Zo (Yai.as aB aA aE aD aG aT aM aQ aI aR aJ aN aP aK aS aL aO aU aV aX aY aZ bC bD bE bF bG bH bI bJ bK bL bM bN) os) : rs = [[.d (.bool z0)]] ∧ os = [] := by
 unfold Yai.dec at h
 obtain ⟨c1, r2, rfl, h1⟩ := Zb h
 obtain ⟨x3, l4, rfl, h2⟩ := Zb h1
 obtain ⟨d5, rfl, h3⟩ := Zt h2
 obtain ⟨w0, rfl, h4⟩ := Z0 h3
 obtain ⟨rfl, h5⟩ := Zc h4
 obtain ⟨rfl, h6⟩ := Zc h5
 obtain ⟨rfl, h7⟩ := Zc h6
 obtain rfl := Option.some.inj h7
 exact ⟨rfl, rfl⟩
theorem Yai.ok (k : Nat) : Zv Try.prog 200 (Yai.e k) := by
 refine Zu mix tyok (fn := Try.f200) (c := Zl Try.f200) Try.func200 (by kernel_rfl) (h := Yai.h) (k := k) (E := Yai.E k) (Zk (Ys.ok k) (Zk (YJ.ok k) Zz)) (by kernel_rfl) (by kernel_rfl) rfl (Zq Try.func200 (by kernel_rfl)) ?_
 intro β l K r hr
 simp only [Yai.e] at hr
 split at hr
 case h_2 => cases hr
 unfold Yai.f at hr
 split at hr
 case h_2 => cases hr
 rename_i hz
 exact ⟨_, _, hr, _, Yai.dec, _, (Yai.f_eq k _ _ _ _ _ _ _ _ _ _ _ _ _ _ _ _ _ _ _ _ _ _ _ _ _ _ _ _ _ _ _ _ _ _ Yai.dec).trans (by rw [Yai.kt_dec]; exact hz), fun rs os h ho => Yai.inj _ _ _ _ _ _ _ _ _ _ _ _ _ _ _ _ _ _ _ _ _ _ _ _ _ _ _ _ _ _ _ _ _ _ h ho⟩
noncomputable def YM.l0 {β : Type} (k : Nat) (aF aC : LD) (K : Bool → Option β) (L0 : Int → Option β) (v : Int) : Option β :=
 match v with
 | aH => bif (decide ((aH : Int) < (aF.length : Int))) then (ZX aF aH fun c106 => Zd c106 fun d r => ZM .i64 d fun x109 => Zd r fun d r => Zan d fun x112 => Zd r fun d r => ZM .i64 d fun x115 => Zd r fun d r => ZM .i64 d fun x118 => Zd r fun d r => ZM .i64 d fun x121 => Zd r fun d r => ZaF d fun x124 => Zd r fun d r => dSl d fun x127 => Zd r fun d r => ZM .i64 d fun x130 => Zd r fun d r => Zan d fun x133 => Zd r fun d r => ZM .i64 d fun x136 => Zd r fun d r => dSl d fun x139 => Zd r fun d r => dSl d fun x142 => Zd r fun d r => ZM .i64 d fun x145 => Zd r fun d r => Zan d fun x148 => Zd r fun d r => ZM .i64 d fun x151 => Zd r fun d r => dSl d fun x154 => Zd r fun d r => dSl d fun x157 => Ze r (ZX aC aH fun c158 => Zd c158 fun d r => ZM .i64 d fun x161 => Zd r fun d r => Zan d fun x164 => Zd r fun d r => ZM .i64 d fun x167 => Zd r fun d r => ZM .i64 d fun x170 => Zd r fun d r => ZM .i64 d fun x173 => Zd r fun d r => ZaF d fun x176 => Zd r fun d r => dSl d fun x179 => Zd r fun d r => ZM .i64 d fun x182 => Zd r fun d r => Zan d fun x185 => Zd r fun d r => ZM .i64 d fun x188 => Zd r fun d r => dSl d fun x191 => Zd r fun d r => dSl d fun x194 => Zd r fun d r => ZM .i64 d fun x197 => Zd r fun d r => Zan d fun x200 => Zd r fun d r => ZM .i64 d fun x203 => Zd r fun d r => dSl d fun x206 => Zd r fun d r => dSl d fun x209 => Ze r (Yai.f k x109 x112 x115 x118 x121 x124 x127 x130 x133 x136 x139 x142 x145 x148 x151 x154 x157 x161 x164 x167 x170 x173 x176 x179 x182 x185 x188 x191 x194 x197 x200 x203 x206 x209 (fun y210 => bif (!y210) then (K false) else (L0 (IntKind.wrap .i64 (aH + 1))))))) else (K true)
noncomputable def YM.g {β : Type} (k : Nat) (a0 a1 : LD) (K : Bool → Option β) : Option β :=
 bif (((a0.length : Int) : Int) != (a1.length : Int)) then (K false) else (Z4 (YM.l0 k a0 a1 K) k (0))
noncomputable def YM.t (k : Nat) (a0 a1 : LD) : Option (Bool) := YM.g k a0 a1 (fun z0 => some z0)
noncomputable def YM.f {β : Type} (k : Nat) (a0 a1 : LD) (K : Bool → Option β) : Option β :=
 match YM.t k a0 a1 with
 | some z0 => K z0
 | none => none
noncomputable def YM.as (a0 a1 : LD) : List A := [.d (.sl a0), .d (.sl a1)]
noncomputable def YM.kt {β : Type} (a0 a1 : LD) (K0 : LC → List Out → Option β) : Bool → Option β := fun z0 => K0 [[.d (.bool z0)]] []
noncomputable def YM.e (k : Nat) : ZQ := { modes := [(.imm, 0), (.imm, 0)], rts := [4], al := false, run := fun {β} l K => match l with | [.d (.sl a0), .d (.sl a1)] => YM.f k a0 a1 (YM.kt a0 a1 K) | _ => none }
noncomputable def YM.E (k : Nat) : Env := fun g => bif g == 200 then some (Yai.e k) else none
noncomputable def YM.h : ZY := ⟨fun n => bif n == 4 then ⟨[(0, .asis), (1, .asis), (5, .asis)], []⟩ else ⟨[], []⟩, fun _ => none, false, []⟩
noncomputable def YM.s0 (aF aC : LD) (v : Int) : St :=
 match v with
 | aH => ⟨[.d false (.sl aF), .d false (.sl aC), .any, .any, .any, .d true (.int .i64 aH), .any, .any, .any, .any, .any, .any, .any, .any, .any, .any, .any, .any, .any, .any, .any, .any, .any, .any, .any, .any, .any], []⟩
noncomputable def YM.b0 {β : Type} (k : Nat) : St → (Ex → St → Option β) → Option β := fun s K => den Try.prog (YM.E k) YM.h.H YM.h.J k (Zad [1, 1, 0, 1, 0, 0] (Zl Try.f128)) s K
noncomputable def YM.c0 {β : Type} (k : Nat) (a0 a1 : LD) (K0 : LC → List Out → Option β) : Ex → St → Option β := Zae Try.prog (YM.E k) YM.h k [1, 1, 0, 1, 0] (Zl Try.f128) (Zak Try.prog Try.f128 YM.h (YM.as a0 a1) K0)
theorem YM.l0_eq {β : Type} (k : Nat) (a0 a1 : LD) (K0 : LC → List Out → Option β) (aF aC : LD) : ∀ (kk : Nat) (v : Int), Zx (YM.b0 k) (YM.h.H 4) kk (YM.s0 aF aC v) (YM.c0 k a0 a1 K0) = Z4 (YM.l0 k aF aC (YM.kt a0 a1 K0)) kk v :=
 Z9 (YM.s0 aF aC) _ (fun L0 v => by kernel_rfl)
noncomputable def YM.m {β : Type} (k : Nat) (a0 a1 : LD) (K0 : LC → List Out → Option β) (F : (LD → LD → Int → Option β)) : Option β :=
 bif (((a0.length : Int) : Int) != (a1.length : Int)) then ((YM.kt a0 a1 K0) false) else ((F) a0 a1 (0))
theorem YM.f_eq {β : Type} (k : Nat) (a0 a1 : LD) (K0 : LC → List Out → Option β) : ZJ Try.prog (YM.E k) YM.h k Try.f128 (YM.as a0 a1) K0 = YM.g k a0 a1 (YM.kt a0 a1 K0) := Eq.trans (b := (YM.m k a0 a1 K0) (fun (aF : LD) (aC : LD) (v : Int) => Zx (YM.b0 k) (YM.h.H 4) k (YM.s0 aF aC v) (YM.c0 k a0 a1 K0))) (by kernel_rfl) (Eq.trans (congrArg (YM.m k a0 a1 K0) (funext fun aF => funext fun aC => funext fun v => YM.l0_eq k a0 a1 K0 aF aC k v)) (by kernel_rfl))
noncomputable def YM.dec (rs : LC) (os : List Out) : Option (Bool) := Zd rs fun c1 r2 => Zd c1 fun x3 l4 => cD x3 fun d5 => ZaF d5 fun w0 => Ze l4 <| Ze r2 <| Ze os (some w0)
theorem YM.kt_dec (a0 a1 : LD) : YM.kt a0 a1 YM.dec = (fun z0 => some z0) := by kernel_rfl
theorem YM.inj (a0 a1 : LD) {rs : LC} {os : List Out} {z0 : Bool} (h : YM.dec rs os = some z0) (ho : Zo (YM.as a0 a1) os) : rs = [[.d (.bool z0)]] ∧ os = [] := by
 unfold YM.dec at h
 obtain ⟨c1, r2, rfl, h1⟩ := Zb h
 obtain ⟨x3, l4, rfl, h2⟩ := Zb h1
 obtain ⟨d5, rfl, h3⟩ := Zt h2
 obtain ⟨w0, rfl, h4⟩ := Z0 h3
 obtain ⟨rfl, h5⟩ := Zc h4
 obtain ⟨rfl, h6⟩ := Zc h5
 obtain ⟨rfl, h7⟩ := Zc h6
 obtain rfl := Option.some.inj h7
 exact ⟨rfl, rfl⟩
theorem YM.ok (k : Nat) : Zv Try.prog 128 (YM.e k) := by
 refine Zu mix tyok (fn := Try.f128) (c := Zl Try.f128) Try.func128 (by kernel_rfl) (h := YM.h) (k := k) (E := YM.E k) (Zk (Yai.ok k) Zz) (by kernel_rfl) (by kernel_rfl) rfl (Zq Try.func128 (by kernel_rfl)) ?_
 intro β l K r hr
 simp only [YM.e] at hr
 split at hr
 case h_2 => cases hr
 unfold YM.f at hr
 split at hr
 case h_2 => cases hr
 rename_i hz
 exact ⟨_, _, hr, _, YM.dec, _, (YM.f_eq k _ _ YM.dec).trans (by rw [YM.kt_dec]; exact hz), fun rs os h ho => YM.inj _ _ h ho⟩
noncomputable def YZ.g {β : Type} (k : Nat) (aB : Int) (aA : LD) (aU : Int) (aV : LD) (K : Bool → Option β) : Option β :=
 bif ((aB : Int) != aU) then (K false) else (YM.f k aA aV (fun y211 => bif (!y211) then (K false) else (K true)))
noncomputable def YZ.t (k : Nat) (aB : Int) (aA : LD) (aU : Int) (aV : LD) : Option (Bool) := YZ.g k aB aA aU aV (fun z0 => some z0)
noncomputable def YZ.f {β : Type} (k : Nat) (aB : Int) (aA : LD) (aU : Int) (aV : LD) (K : Bool → Option β) : Option β :=
 match YZ.t k aB aA aU aV with
 | some z0 => K z0
 | none => none
noncomputable def YZ.as (aB : Int) (aA : LD) (aU : Int) (aV : LD) : List A := [.agg [.int .i64 aB, .sl aA], .agg [.int .i64 aU, .sl aV]]
noncomputable def YZ.kt {β : Type} (aB : Int) (aA : LD) (aU : Int) (aV : LD) (K0 : LC → List Out → Option β) : Bool → Option β := fun z0 => K0 [[.d (.bool z0)]] []
noncomputable def YZ.e (k : Nat) : ZQ := { modes := [(.imm, 0), (.imm, 0)], rts := [4], al := false, run := fun {β} l K => match l with | [.agg [.int .i64 aB, .sl aA], .agg [.int .i64 aU, .sl aV]] => YZ.f k aB aA aU aV (YZ.kt aB aA aU aV K) | _ => none }
noncomputable def YZ.E (k : Nat) : Env := fun g => bif g == 128 then some (YM.e k) else none
noncomputable def YZ.h : ZY := ⟨fun n => ⟨[], []⟩, fun _ => none, false, []⟩
theorem YZ.f_eq {β : Type} (k : Nat) (aB : Int) (aA : LD) (aU : Int) (aV : LD) (K0 : LC → List Out → Option β) : ZJ Try.prog (YZ.E k) YZ.h k Try.f48 (YZ.as aB aA aU aV) K0 = YZ.g k aB aA aU aV (YZ.kt aB aA aU aV K0) := by kernel_rfl
noncomputable def YZ.dec (rs : LC) (os : List Out) : Option (Bool) := Zd rs fun c1 r2 => Zd c1 fun x3 l4 => cD x3 fun d5 => ZaF d5 fun w0 => Ze l4 <| Ze r2 <| Ze os (some w0)
theorem YZ.kt_dec (aB : Int) (aA : LD) (aU : Int) (aV : LD) : YZ.kt aB aA aU aV YZ.dec = (fun z0 => some z0) := by kernel_rfl
theorem YZ.inj (aB : Int) (aA : LD) (aU : Int) (aV : LD) {rs : LC} {os : List Out} {z0 : Bool} (h : YZ.dec rs os = some z0) (ho : Zo (YZ.as aB aA aU aV) os) : rs = [[.d (.bool z0)]] ∧ os = [] := by
 unfold YZ.dec at h
 obtain ⟨c1, r2, rfl, h1⟩ := Zb h
 obtain ⟨x3, l4, rfl, h2⟩ := Zb h1
 obtain ⟨d5, rfl, h3⟩ := Zt h2
 obtain ⟨w0, rfl, h4⟩ := Z0 h3
 obtain ⟨rfl, h5⟩ := Zc h4
 obtain ⟨rfl, h6⟩ := Zc h5
 obtain ⟨rfl, h7⟩ := Zc h6
 obtain rfl := Option.some.inj h7
 exact ⟨rfl, rfl⟩
theorem YZ.ok (k : Nat) : Zv Try.prog 48 (YZ.e k) := by
 refine Zu mix tyok (fn := Try.f48) (c := Zl Try.f48) Try.func48 (by kernel_rfl) (h := YZ.h) (k := k) (E := YZ.E k) (Zk (YM.ok k) Zz) (by kernel_rfl) (by kernel_rfl) rfl (Zq Try.func48 (by kernel_rfl)) ?_
 intro β l K r hr
 simp only [YZ.e] at hr
 split at hr
 case h_2 => cases hr
 unfold YZ.f at hr
 split at hr
 case h_2 => cases hr
 rename_i hz
 exact ⟨_, _, hr, _, YZ.dec, _, (YZ.f_eq k _ _ _ _ YZ.dec).trans (by rw [YZ.kt_dec]; exact hz), fun rs os h ho => YZ.inj _ _ _ _ h ho⟩
noncomputable def Y6.g {β : Type} (k : Nat) (aB : Int) (aA : Bool) (aE : Int) (aD : BA) (aG aT aM : Int) (aQ : Bool) (aI : LD) (aR : Int) (aJ : BA) (aN : Int) (aP aK : LD) (aS : Int) (aL : BA) (aO : Int) (bO bP : LD) (aU : Int) (aV : Bool) (aX : Int) (aY : BA) (aZ bC bD : Int) (bE : Bool) (bF : LD) (bG : Int) (bH : BA) (bI : Int) (bJ bK : LD) (bL : Int) (bM : BA) (bN : Int) (a1_17 a1_18 : LD) (K : Bool → Option β) : Option β :=
 bif ((aB : Int) != aU) then (K false) else (bif (!(aA == aV)) then (K false) else (Yai.f k aE aD aG aT aM aQ aI aR aJ aN aP aK aS aL aO bO bP aX aY aZ bC bD bE bF bG bH bI bJ bK bL bM bN a1_17 a1_18 (fun y1 => bif (!y1) then (K false) else (K true))))
noncomputable def Y6.t (k : Nat) (aB : Int) (aA : Bool) (aE : Int) (aD : BA) (aG aT aM : Int) (aQ : Bool) (aI : LD) (aR : Int) (aJ : BA) (aN : Int) (aP aK : LD) (aS : Int) (aL : BA) (aO : Int) (bO bP : LD) (aU : Int) (aV : Bool) (aX : Int) (aY : BA) (aZ bC bD : Int) (bE : Bool) (bF : LD) (bG : Int) (bH : BA) (bI : Int) (bJ bK : LD) (bL : Int) (bM : BA) (bN : Int) (a1_17 a1_18 : LD) : Option (Bool) := Y6.g k aB aA aE aD aG aT aM aQ aI aR aJ aN aP aK aS aL aO bO bP aU aV aX aY aZ bC bD bE bF bG bH bI bJ bK bL bM bN a1_17 a1_18 (fun z0 => some z0)
noncomputable def Y6.f {β : Type} (k : Nat) (aB : Int) (aA : Bool) (aE : Int) (aD : BA) (aG aT aM : Int) (aQ : Bool) (aI : LD) (aR : Int) (aJ : BA) (aN : Int) (aP aK : LD) (aS : Int) (aL : BA) (aO : Int) (bO bP : LD) (aU : Int) (aV : Bool) (aX : Int) (aY : BA) (aZ bC bD : Int) (bE : Bool) (bF : LD) (bG : Int) (bH : BA) (bI : Int) (bJ bK : LD) (bL : Int) (bM : BA) (bN : Int) (a1_17 a1_18 : LD) (K : Bool → Option β) : Option β :=
 match Y6.t k aB aA aE aD aG aT aM aQ aI aR aJ aN aP aK aS aL aO bO bP aU aV aX aY aZ bC bD bE bF bG bH bI bJ bK bL bM bN a1_17 a1_18 with
 | some z0 => K z0
 | none => none
noncomputable def Y6.as (aB : Int) (aA : Bool) (aE : Int) (aD : BA) (aG aT aM : Int) (aQ : Bool) (aI : LD) (aR : Int) (aJ : BA) (aN : Int) (aP aK : LD) (aS : Int) (aL : BA) (aO : Int) (bO bP : LD) (aU : Int) (aV : Bool) (aX : Int) (aY : BA) (aZ bC bD : Int) (bE : Bool) (bF : LD) (bG : Int) (bH : BA) (bI : Int) (bJ bK : LD) (bL : Int) (bM : BA) (bN : Int) (a1_17 a1_18 : LD) : List A := [.agg [.int .i64 aB, .bool aA, .int .i64 aE, .str aD, .int .i64 aG, .int .i64 aT, .int .i64 aM, .bool aQ, .sl aI, .int .i64 aR, .str aJ, .int .i64 aN, .sl aP, .sl aK, .int .i64 aS, .str aL, .int .i64 aO, .sl bO, .sl bP], .agg [.int .i64 aU, .bool aV, .int .i64 aX, .str aY, .int .i64 aZ, .int .i64 bC, .int .i64 bD, .bool bE, .sl bF, .int .i64 bG, .str bH, .int .i64 bI, .sl bJ, .sl bK, .int .i64 bL, .str bM, .int .i64 bN, .sl a1_17, .sl a1_18]]
noncomputable def Y6.kt {β : Type} (aB : Int) (aA : Bool) (aE : Int) (aD : BA) (aG aT aM : Int) (aQ : Bool) (aI : LD) (aR : Int) (aJ : BA) (aN : Int) (aP aK : LD) (aS : Int) (aL : BA) (aO : Int) (bO bP : LD) (aU : Int) (aV : Bool) (aX : Int) (aY : BA) (aZ bC bD : Int) (bE : Bool) (bF : LD) (bG : Int) (bH : BA) (bI : Int) (bJ bK : LD) (bL : Int) (bM : BA) (bN : Int) (a1_17 a1_18 : LD) (K0 : LC → List Out → Option β) : Bool → Option β := fun z0 => K0 [[.d (.bool z0)]] []
noncomputable def Y6.e (k : Nat) : ZQ := { modes := [(.imm, 0), (.imm, 0)], rts := [4], al := false, run := fun {β} l K => match l with | [.agg [.int .i64 aB, .bool aA, .int .i64 aE, .str aD, .int .i64 aG, .int .i64 aT, .int .i64 aM, .bool aQ, .sl aI, .int .i64 aR, .str aJ, .int .i64 aN, .sl aP, .sl aK, .int .i64 aS, .str aL, .int .i64 aO, .sl bO, .sl bP], .agg [.int .i64 aU, .bool aV, .int .i64 aX, .str aY, .int .i64 aZ, .int .i64 bC, .int .i64 bD, .bool bE, .sl bF, .int .i64 bG, .str bH, .int .i64 bI, .sl bJ, .sl bK, .int .i64 bL, .str bM, .int .i64 bN, .sl a1_17, .sl a1_18]] => Y6.f k aB aA aE aD aG aT aM aQ aI aR aJ aN aP aK aS aL aO bO bP aU aV aX aY aZ bC bD bE bF bG bH bI bJ bK bL bM bN a1_17 a1_18 (Y6.kt aB aA aE aD aG aT aM aQ aI aR aJ aN aP aK aS aL aO bO bP aU aV aX aY aZ bC bD bE bF bG bH bI bJ bK bL bM bN a1_17 a1_18 K) | _ => none }
noncomputable def Y6.E (k : Nat) : Env := fun g => bif g == 200 then some (Yai.e k) else none
noncomputable def Y6.h : ZY := ⟨fun n => ⟨[], []⟩, fun _ => none, false, []⟩
theorem Y6.f_eq {β : Type} (k : Nat) (aB : Int) (aA : Bool) (aE : Int) (aD : BA) (aG aT aM : Int) (aQ : Bool) (aI : LD) (aR : Int) (aJ : BA) (aN : Int) (aP aK : LD) (aS : Int) (aL : BA) (aO : Int) (bO bP : LD) (aU : Int) (aV : Bool) (aX : Int) (aY : BA) (aZ bC bD : Int) (bE : Bool) (bF : LD) (bG : Int) (bH : BA) (bI : Int) (bJ bK : LD) (bL : Int) (bM : BA) (bN : Int) (a1_17 a1_18 : LD) (K0 : LC → List Out → Option β) : ZJ Try.prog (Y6.E k) Y6.h k Try.f141 (Y6.as aB aA aE aD aG aT aM aQ aI aR aJ aN aP aK aS aL aO bO bP aU aV aX aY aZ bC bD bE bF bG bH bI bJ bK bL bM bN a1_17 a1_18) K0 = Y6.g k aB aA aE aD aG aT aM aQ aI aR aJ aN aP aK aS aL aO bO bP aU aV aX aY aZ bC bD bE bF bG bH bI bJ bK bL bM bN a1_17 a1_18 (Y6.kt aB aA aE aD aG aT aM aQ aI aR aJ aN aP aK aS aL aO bO bP aU aV aX aY aZ bC bD bE bF bG bH bI bJ bK bL bM bN a1_17 a1_18 K0) := by kernel_rfl
noncomputable def Y6.dec (rs : LC) (os : List Out) : Option (Bool) := Zd rs fun c1 r2 => Zd c1 fun x3 l4 => cD x3 fun d5 => ZaF d5 fun w0 => Ze l4 <| Ze r2 <| Ze os (some w0)
theorem Y6.kt_dec (aB : Int) (aA : Bool) (aE : Int) (aD : BA) (aG aT aM : Int) (aQ : Bool) (aI : LD) (aR : Int) (aJ : BA) (aN : Int) (aP aK : LD) (aS : Int) (aL : BA) (aO : Int) (bO bP : LD) (aU : Int) (aV : Bool) (aX : Int) (aY : BA) (aZ bC bD : Int) (bE : Bool) (bF : LD) (bG : Int) (bH : BA) (bI : Int) (bJ bK : LD) (bL : Int) (bM : BA) (bN : Int) (a1_17 a1_18 : LD) : Y6.kt aB aA aE aD aG aT aM aQ aI aR aJ aN aP aK aS aL aO bO bP aU aV aX aY aZ bC bD bE bF bG bH bI bJ bK bL bM bN a1_17 a1_18 Y6.dec = (fun z0 => some z0) := by kernel_rfl
theorem Y6.inj (aB : Int) (aA : Bool) (aE : Int) (aD : BA) (aG aT aM : Int) (aQ : Bool) (aI : LD) (aR : Int) (aJ : BA) (aN : Int) (aP aK : LD) (aS : Int) (aL : BA) (aO : Int) (bO bP : LD) (aU : Int) (aV : Bool) (aX : Int) (aY : BA) (aZ bC bD : Int) (bE : Bool) (bF : LD) (bG : Int) (bH : BA) (bI : Int) (bJ bK : LD) (bL : Int) (bM : BA) (bN : Int) (a1_17 a1_18 : LD) {rs : LC} {os : List Out} {z0 : Bool} (h : Y6.dec rs os = some z0) (ho : Zo (Y6.as aB aA aE aD aG aT aM aQ aI aR aJ aN aP aK aS aL aO bO bP aU aV aX aY aZ bC bD bE bF bG bH bI bJ bK bL bM bN a1_17 a1_18) os) : rs = [[.d (.bool z0)]] ∧ os = [] := by
 unfold Y6.dec at h
 obtain ⟨c1, r2, rfl, h1⟩ := Zb h
 obtain ⟨x3, l4, rfl, h2⟩ := Zb h1
 obtain ⟨d5, rfl, h3⟩ := Zt h2
 obtain ⟨w0, rfl, h4⟩ := Z0 h3
 obtain ⟨rfl, h5⟩ := Zc h4
 obtain ⟨rfl, h6⟩ := Zc h5
 obtain ⟨rfl, h7⟩ := Zc h6
 obtain rfl := Option.some.inj h7
 exact ⟨rfl, rfl⟩
theorem Y6.ok (k : Nat) : Zv Try.prog 141 (Y6.e k) := by
 refine Zu mix tyok (fn := Try.f141) (c := Zl Try.f141) Try.func141 (by kernel_rfl) (h := Y6.h) (k := k) (E := Y6.E k) (Zk (Yai.ok k) Zz) (by kernel_rfl) (by kernel_rfl) rfl (Zq Try.func141 (by kernel_rfl)) ?_
 intro β l K r hr
 simp only [Y6.e] at hr
 split at hr
 case h_2 => cases hr
 unfold Y6.f at hr
 split at hr
 case h_2 => cases hr
 rename_i hz
 exact ⟨_, _, hr, _, Y6.dec, _, (Y6.f_eq k _ _ _ _ _ _ _ _ _ _ _ _ _ _ _ _ _ _ _ _ _ _ _ _ _ _ _ _ _ _ _ _ _ _ _ _ _ _ Y6.dec).trans (by rw [Y6.kt_dec]; exact hz), fun rs os h ho => Y6.inj _ _ _ _ _ _ _ _ _ _ _ _ _ _ _ _ _ _ _ _ _ _ _ _ _ _ _ _ _ _ _ _ _ _ _ _ _ _ h ho⟩
noncomputable def Yx.l0 {β : Type} (k : Nat) (aF aC : LD) (K : Bool → Option β) (L0 : Int → Option β) (v : Int) : Option β :=
 match v with
 | aH => bif (decide ((aH : Int) < (aF.length : Int))) then (ZX aF aH fun c118 => Zd c118 fun d r => ZM .i64 d fun x121 => Zd r fun d r => ZaF d fun x124 => Zd r fun d r => ZM .i64 d fun x127 => Zd r fun d r => Zan d fun x130 => Zd r fun d r => ZM .i64 d fun x133 => Zd r fun d r => ZM .i64 d fun x136 => Zd r fun d r => ZM .i64 d fun x139 => Zd r fun d r => ZaF d fun x142 => Zd r fun d r => dSl d fun x145 => Zd r fun d r => ZM .i64 d fun x148 => Zd r fun d r => Zan d fun x151 => Zd r fun d r => ZM .i64 d fun x154 => Zd r fun d r => dSl d fun x157 => Zd r fun d r => dSl d fun x160 => Zd r fun d r => ZM .i64 d fun x163 => Zd r fun d r => Zan d fun x166 => Zd r fun d r => ZM .i64 d fun x169 => Zd r fun d r => dSl d fun x172 => Zd r fun d r => dSl d fun x175 => Ze r (ZX aC aH fun c176 => Zd c176 fun d r => ZM .i64 d fun x179 => Zd r fun d r => ZaF d fun x182 => Zd r fun d r => ZM .i64 d fun x185 => Zd r fun d r => Zan d fun x188 => Zd r fun d r => ZM .i64 d fun x191 => Zd r fun d r => ZM .i64 d fun x194 => Zd r fun d r => ZM .i64 d fun x197 => Zd r fun d r => ZaF d fun x200 => Zd r fun d r => dSl d fun x203 => Zd r fun d r => ZM .i64 d fun x206 => Zd r fun d r => Zan d fun x209 => Zd r fun d r => ZM .i64 d fun x212 => Zd r fun d r => dSl d fun x215 => Zd r fun d r => dSl d fun x218 => Zd r fun d r => ZM .i64 d fun x221 => Zd r fun d r => Zan d fun x224 => Zd r fun d r => ZM .i64 d fun x227 => Zd r fun d r => dSl d fun x230 => Zd r fun d r => dSl d fun x233 => Ze r (Y6.f k x121 x124 x127 x130 x133 x136 x139 x142 x145 x148 x151 x154 x157 x160 x163 x166 x169 x172 x175 x179 x182 x185 x188 x191 x194 x197 x200 x203 x206 x209 x212 x215 x218 x221 x224 x227 x230 x233 (fun y234 => bif (!y234) then (K false) else (L0 (IntKind.wrap .i64 (aH + 1))))))) else (K true)
noncomputable def Yx.g {β : Type} (k : Nat) (a0 a1 : LD) (K : Bool → Option β) : Option β :=
 bif (((a0.length : Int) : Int) != (a1.length : Int)) then (K false) else (Z4 (Yx.l0 k a0 a1 K) k (0))
noncomputable def Yx.t (k : Nat) (a0 a1 : LD) : Option (Bool) := Yx.g k a0 a1 (fun z0 => some z0)
noncomputable def Yx.f {β : Type} (k : Nat) (a0 a1 : LD) (K : Bool → Option β) : Option β :=
 match Yx.t k a0 a1 with
 | some z0 => K z0
 | none => none
noncomputable def Yx.as (a0 a1 : LD) : List A := [.d (.sl a0), .d (.sl a1)]
noncomputable def Yx.kt {β : Type} (a0 a1 : LD) (K0 : LC → List Out → Option β) : Bool → Option β := fun z0 => K0 [[.d (.bool z0)]] []
noncomputable def Yx.e (k : Nat) : ZQ := { modes := [(.imm, 0), (.imm, 0)], rts := [4], al := false, run := fun {β} l K => match l with | [.d (.sl a0), .d (.sl a1)] => Yx.f k a0 a1 (Yx.kt a0 a1 K) | _ => none }
noncomputable def Yx.E (k : Nat) : Env := fun g => bif g == 141 then some (Y6.e k) else none
noncomputable def Yx.h : ZY := ⟨fun n => bif n == 4 then ⟨[(0, .asis), (1, .asis), (5, .asis)], []⟩ else ⟨[], []⟩, fun _ => none, false, []⟩
noncomputable def Yx.s0 (aF aC : LD) (v : Int) : St :=
 match v with
 | aH => ⟨[.d false (.sl aF), .d false (.sl aC), .any, .any, .any, .d true (.int .i64 aH), .any, .any, .any, .any, .any, .any, .any, .any, .any, .any, .any, .any, .any, .any, .any, .any, .any, .any, .any, .any, .any], []⟩
noncomputable def Yx.b0 {β : Type} (k : Nat) : St → (Ex → St → Option β) → Option β := fun s K => den Try.prog (Yx.E k) Yx.h.H Yx.h.J k (Zad [1, 1, 0, 1, 0, 0] (Zl Try.f59)) s K
noncomputable def Yx.c0 {β : Type} (k : Nat) (a0 a1 : LD) (K0 : LC → List Out → Option β) : Ex → St → Option β := Zae Try.prog (Yx.E k) Yx.h k [1, 1, 0, 1, 0] (Zl Try.f59) (Zak Try.prog Try.f59 Yx.h (Yx.as a0 a1) K0)
theorem Yx.l0_eq {β : Type} (k : Nat) (a0 a1 : LD) (K0 : LC → List Out → Option β) (aF aC : LD) : ∀ (kk : Nat) (v : Int), Zx (Yx.b0 k) (Yx.h.H 4) kk (Yx.s0 aF aC v) (Yx.c0 k a0 a1 K0) = Z4 (Yx.l0 k aF aC (Yx.kt a0 a1 K0)) kk v :=
 Z9 (Yx.s0 aF aC) _ (fun L0 v => by kernel_rfl)
noncomputable def Yx.m {β : Type} (k : Nat) (a0 a1 : LD) (K0 : LC → List Out → Option β) (F : (LD → LD → Int → Option β)) : Option β :=
 bif (((a0.length : Int) : Int) != (a1.length : Int)) then ((Yx.kt a0 a1 K0) false) else ((F) a0 a1 (0))
theorem Yx.f_eq {β : Type} (k : Nat) (a0 a1 : LD) (K0 : LC → List Out → Option β) : ZJ Try.prog (Yx.E k) Yx.h k Try.f59 (Yx.as a0 a1) K0 = Yx.g k a0 a1 (Yx.kt a0 a1 K0) := Eq.trans (b := (Yx.m k a0 a1 K0) (fun (aF : LD) (aC : LD) (v : Int) => Zx (Yx.b0 k) (Yx.h.H 4) k (Yx.s0 aF aC v) (Yx.c0 k a0 a1 K0))) (by kernel_rfl) (Eq.trans (congrArg (Yx.m k a0 a1 K0) (funext fun aF => funext fun aC => funext fun v => Yx.l0_eq k a0 a1 K0 aF aC k v)) (by kernel_rfl))
noncomputable def Yx.dec (rs : LC) (os : List Out) : Option (Bool) := Zd rs fun c1 r2 => Zd c1 fun x3 l4 => cD x3 fun d5 => ZaF d5 fun w0 => Ze l4 <| Ze r2 <| Ze os (some w0)
theorem Yx.kt_dec (a0 a1 : LD) : Yx.kt a0 a1 Yx.dec = (fun z0 => some z0) := by kernel_rfl
theorem Yx.inj (a0 a1 : LD) {rs : LC} {os : List Out} {z0 : Bool} (h : Yx.dec rs os = some z0) (ho : Zo (Yx.as a0 a1) os) : rs = [[.d (.bool z0)]] ∧ os = [] := by
 unfold Yx.dec at h
 obtain ⟨c1, r2, rfl, h1⟩ := Zb h
 obtain ⟨x3, l4, rfl, h2⟩ := Zb h1
 obtain ⟨d5, rfl, h3⟩ := Zt h2
 obtain ⟨w0, rfl, h4⟩ := Z0 h3
 obtain ⟨rfl, h5⟩ := Zc h4
 obtain ⟨rfl, h6⟩ := Zc h5
 obtain ⟨rfl, h7⟩ := Zc h6
 obtain rfl := Option.some.inj h7
 exact ⟨rfl, rfl⟩
theorem Yx.ok (k : Nat) : Zv Try.prog 59 (Yx.e k) := by
 refine Zu mix tyok (fn := Try.f59) (c := Zl Try.f59) Try.func59 (by kernel_rfl) (h := Yx.h) (k := k) (E := Yx.E k) (Zk (Y6.ok k) Zz) (by kernel_rfl) (by kernel_rfl) rfl (Zq Try.func59 (by kernel_rfl)) ?_
 intro β l K r hr
 simp only [Yx.e] at hr
 split at hr
 case h_2 => cases hr
 unfold Yx.f at hr
 split at hr
 case h_2 => cases hr
 rename_i hz
 exact ⟨_, _, hr, _, Yx.dec, _, (Yx.f_eq k _ _ Yx.dec).trans (by rw [Yx.kt_dec]; exact hz), fun rs os h ho => Yx.inj _ _ h ho⟩
noncomputable def Yad.g {β : Type} (k : Nat) (aB : LD) (aA aE : Int) (aD aU : LD) (aV aX : Int) (aY : LD) (K : Bool → Option β) : Option β :=
 YM.f k aB aU (fun y1 => bif (!y1) then (K false) else (bif ((aA : Int) != aV) then (K false) else (bif ((aE : Int) != aX) then (K false) else (Yx.f k aD aY (fun y235 => bif (!y235) then (K false) else (K true))))))
noncomputable def Yad.t (k : Nat) (aB : LD) (aA aE : Int) (aD aU : LD) (aV aX : Int) (aY : LD) : Option (Bool) := Yad.g k aB aA aE aD aU aV aX aY (fun z0 => some z0)
noncomputable def Yad.f {β : Type} (k : Nat) (aB : LD) (aA aE : Int) (aD aU : LD) (aV aX : Int) (aY : LD) (K : Bool → Option β) : Option β :=
 match Yad.t k aB aA aE aD aU aV aX aY with
 | some z0 => K z0
 | none => none
noncomputable def Yad.as (aB : LD) (aA aE : Int) (aD aU : LD) (aV aX : Int) (aY : LD) : List A := [.agg [.sl aB, .int .i64 aA, .int .i64 aE, .sl aD], .agg [.sl aU, .int .i64 aV, .int .i64 aX, .sl aY]]
noncomputable def Yad.kt {β : Type} (aB : LD) (aA aE : Int) (aD aU : LD) (aV aX : Int) (aY : LD) (K0 : LC → List Out → Option β) : Bool → Option β := fun z0 => K0 [[.d (.bool z0)]] []
noncomputable def Yad.e (k : Nat) : ZQ := { modes := [(.imm, 0), (.imm, 0)], rts := [4], al := false, run := fun {β} l K => match l with | [.agg [.sl aB, .int .i64 aA, .int .i64 aE, .sl aD], .agg [.sl aU, .int .i64 aV, .int .i64 aX, .sl aY]] => Yad.f k aB aA aE aD aU aV aX aY (Yad.kt aB aA aE aD aU aV aX aY K) | _ => none }
noncomputable def Yad.E (k : Nat) : Env := fun g => bif g == 128 then some (YM.e k) else bif g == 59 then some (Yx.e k) else none
noncomputable def Yad.h : ZY := ⟨fun n => ⟨[], []⟩, fun _ => none, false, []⟩
theorem Yad.f_eq {β : Type} (k : Nat) (aB : LD) (aA aE : Int) (aD aU : LD) (aV aX : Int) (aY : LD) (K0 : LC → List Out → Option β) : ZJ Try.prog (Yad.E k) Yad.h k Try.f53 (Yad.as aB aA aE aD aU aV aX aY) K0 = Yad.g k aB aA aE aD aU aV aX aY (Yad.kt aB aA aE aD aU aV aX aY K0) := by kernel_rfl
noncomputable def Yad.dec (rs : LC) (os : List Out) : Option (Bool) := Zd rs fun c1 r2 => Zd c1 fun x3 l4 => cD x3 fun d5 => ZaF d5 fun w0 => Ze l4 <| Ze r2 <| Ze os (some w0)
theorem Yad.kt_dec (aB : LD) (aA aE : Int) (aD aU : LD) (aV aX : Int) (aY : LD) : Yad.kt aB aA aE aD aU aV aX aY Yad.dec = (fun z0 => some z0) := by kernel_rfl
theorem Yad.inj (aB : LD) (aA aE : Int) (aD aU : LD) (aV aX : Int) (aY : LD) {rs : LC} {os : List Out} {z0 : Bool} (h : Yad.dec rs os = some z0) (ho : Zo (Yad.as aB aA aE aD aU aV aX aY) os) : rs = [[.d (.bool z0)]] ∧ os = [] := by
 unfold Yad.dec at h
 obtain ⟨c1, r2, rfl, h1⟩ := Zb h
 obtain ⟨x3, l4, rfl, h2⟩ := Zb h1
 obtain ⟨d5, rfl, h3⟩ := Zt h2
 obtain ⟨w0, rfl, h4⟩ := Z0 h3
 obtain ⟨rfl, h5⟩ := Zc h4
 obtain ⟨rfl, h6⟩ := Zc h5
 obtain ⟨rfl, h7⟩ := Zc h6
 obtain rfl := Option.some.inj h7
 exact ⟨rfl, rfl⟩
theorem Yad.ok (k : Nat) : Zv Try.prog 53 (Yad.e k) := by
 refine Zu mix tyok (fn := Try.f53) (c := Zl Try.f53) Try.func53 (by kernel_rfl) (h := Yad.h) (k := k) (E := Yad.E k) (Zk (YM.ok k) (Zk (Yx.ok k) Zz)) (by kernel_rfl) (by kernel_rfl) rfl (Zq Try.func53 (by kernel_rfl)) ?_
 intro β l K r hr
 simp only [Yad.e] at hr
 split at hr
 case h_2 => cases hr
 unfold Yad.f at hr
 split at hr
 case h_2 => cases hr
 rename_i hz
 exact ⟨_, _, hr, _, Yad.dec, _, (Yad.f_eq k _ _ _ _ _ _ _ _ Yad.dec).trans (by rw [Yad.kt_dec]; exact hz), fun rs os h ho => Yad.inj _ _ _ _ _ _ _ _ h ho⟩
noncomputable def Ye.l0 {β : Type} (k : Nat) (K : BA → Option β) (L0 : (Int × BA) → Option β) (v : Int × BA) : Option β :=
 match v with
 | (aF, aC) => bif (decide ((aF : Int) > 0)) then (ZH ((10 : Int) ≠ 0) (ZH ((((⟨#[UInt8.ofNat (Int.toNat (IntKind.wrap .u8 (IntKind.wrap .i64 (48 + (Int.tmod aF 10)))))]⟩ : BA).size + aC.size : Nat) : Int) ≤ 9223372036854775807) (ZH ((10 : Int) ≠ 0) (L0 (IntKind.wrap .i64 (Int.tdiv aF 10), (⟨#[UInt8.ofNat (Int.toNat (IntKind.wrap .u8 (IntKind.wrap .i64 (48 + (Int.tmod aF 10)))))]⟩ : BA) ++ aC))))) else (ZH ((((⟨#[109]⟩ : BA).size + aC.size : Nat) : Int) ≤ 9223372036854775807) (K ((⟨#[109]⟩ : BA) ++ aC)))
noncomputable def Ye.g {β : Type} (k : Nat) (a0 : Int) (K : BA → Option β) : Option β :=
 bif (decide ((a0 : Int) ≤ 0)) then (K (⟨#[109, 48]⟩ : BA)) else (Z4 (Ye.l0 k K) k (a0, (⟨#[]⟩ : BA)))
noncomputable def Ye.t (k : Nat) (a0 : Int) : Option (BA) := Ye.g k a0 (fun z0 => some z0)
noncomputable def Ye.f {β : Type} (k : Nat) (a0 : Int) (K : BA → Option β) : Option β :=
 match Ye.t k a0 with
 | some z0 => K z0
 | none => none
noncomputable def Ye.as (a0 : Int) : List A := [.d (.int .i64 a0)]
noncomputable def Ye.kt {β : Type} (a0 : Int) (K0 : LC → List Out → Option β) : BA → Option β := fun z0 => K0 [[.d (.str z0)]] []
noncomputable def Ye.e (k : Nat) : ZQ := { modes := [(.imm, 0)], rts := [9], al := false, run := fun {β} l K => match l with | [.d (.int .i64 a0)] => Ye.f k a0 (Ye.kt a0 K) | _ => none }
noncomputable def Ye.E (k : Nat) : Env := fun g => none
noncomputable def Ye.h : ZY := ⟨fun n => bif n == 4 then ⟨[(0, .dat false), (3, .asis)], []⟩ else ⟨[], []⟩, fun _ => none, false, []⟩
noncomputable def Ye.s0 (v : Int × BA) : St :=
 match v with
 | (aF, aC) => ⟨[.d false (.int .i64 aF), .any, .any, .d true (.str aC), .any, .any, .any, .any, .any, .any, .any, .any, .any, .any, .any, .any, .any, .any, .any, .any], []⟩
noncomputable def Ye.b0 {β : Type} (k : Nat) : St → (Ex → St → Option β) → Option β := fun s K => den Try.prog (Ye.E k) Ye.h.H Ye.h.J k (Zad [1, 1, 1, 0, 0, 0] (Zl Try.f113)) s K
noncomputable def Ye.c0 {β : Type} (k : Nat) (a0 : Int) (K0 : LC → List Out → Option β) : Ex → St → Option β := Zae Try.prog (Ye.E k) Ye.h k [1, 1, 1, 0, 0] (Zl Try.f113) (Zak Try.prog Try.f113 Ye.h (Ye.as a0) K0)
theorem Ye.l0_eq {β : Type} (k : Nat) (a0 : Int) (K0 : LC → List Out → Option β) : ∀ (kk : Nat) (v : Int × BA), Zx (Ye.b0 k) (Ye.h.H 4) kk (Ye.s0 v) (Ye.c0 k a0 K0) = Z4 (Ye.l0 k (Ye.kt a0 K0)) kk v :=
 Z9 (Ye.s0) _ (fun L0 v => by obtain ⟨aF, aC⟩ := v; kernel_rfl)
noncomputable def Ye.m {β : Type} (k : Nat) (a0 : Int) (K0 : LC → List Out → Option β) (F : ((Int × BA) → Option β)) : Option β :=
 bif (decide ((a0 : Int) ≤ 0)) then ((Ye.kt a0 K0) (⟨#[109, 48]⟩ : BA)) else ((F) (a0, (⟨#[]⟩ : BA)))
theorem Ye.f_eq {β : Type} (k : Nat) (a0 : Int) (K0 : LC → List Out → Option β) : ZJ Try.prog (Ye.E k) Ye.h k Try.f113 (Ye.as a0) K0 = Ye.g k a0 (Ye.kt a0 K0) := Eq.trans (b := (Ye.m k a0 K0) (fun (v : Int × BA) => Zx (Ye.b0 k) (Ye.h.H 4) k (Ye.s0 v) (Ye.c0 k a0 K0))) (by kernel_rfl) (Eq.trans (congrArg (Ye.m k a0 K0) (funext fun v => Ye.l0_eq k a0 K0 k v)) (by kernel_rfl))
noncomputable def Ye.dec (rs : LC) (os : List Out) : Option (BA) := Zd rs fun c1 r2 => Zd c1 fun x3 l4 => cD x3 fun d5 => Zan d5 fun w0 => Ze l4 <| Ze r2 <| Ze os (some w0)
theorem Ye.kt_dec (a0 : Int) : Ye.kt a0 Ye.dec = (fun z0 => some z0) := by kernel_rfl
theorem Ye.inj (a0 : Int) {rs : LC} {os : List Out} {z0 : BA} (h : Ye.dec rs os = some z0) (ho : Zo (Ye.as a0) os) : rs = [[.d (.str z0)]] ∧ os = [] := by
 unfold Ye.dec at h
 obtain ⟨c1, r2, rfl, h1⟩ := Zb h
 obtain ⟨x3, l4, rfl, h2⟩ := Zb h1
 obtain ⟨d5, rfl, h3⟩ := Zt h2
 obtain ⟨w0, rfl, h4⟩ := ZaL h3
 obtain ⟨rfl, h5⟩ := Zc h4
 obtain ⟨rfl, h6⟩ := Zc h5
 obtain ⟨rfl, h7⟩ := Zc h6
 obtain rfl := Option.some.inj h7
 exact ⟨rfl, rfl⟩
theorem Ye.ok (k : Nat) : Zv Try.prog 113 (Ye.e k) := by
 refine Zu mix tyok (fn := Try.f113) (c := Zl Try.f113) Try.func113 (by kernel_rfl) (h := Ye.h) (k := k) (E := Ye.E k) Zz (by kernel_rfl) (by kernel_rfl) rfl (Zq Try.func113 (by kernel_rfl)) ?_
 intro β l K r hr
 simp only [Ye.e] at hr
 split at hr
 case h_2 => cases hr
 unfold Ye.f at hr
 split at hr
 case h_2 => cases hr
 rename_i hz
 exact ⟨_, _, hr, _, Ye.dec, _, (Ye.f_eq k _ Ye.dec).trans (by rw [Ye.kt_dec]; exact hz), fun rs os h ho => Ye.inj _ h ho⟩
noncomputable def Yh.l0 {β : Type} (k : Nat) (K : Int → LC → Option β) (L0 : (Int × Int × LC) → Option β) (v : Int × Int × LC) : Option β :=
 match v with
 | (aF, aC, aH) => bif (decide ((aC : Int) < (aH.length : Int))) then (Ye.f k aF (fun y2 => ZH ((0 : Int) ≤ aC ∧ aC < (aH.length : Int)) (ZH (Int.toNat aC < aH.length) (L0 (IntKind.wrap .i64 (aF + 1), IntKind.wrap .i64 (aC + 1), aH.modify (Int.toNat aC) fun c => Z1 c 0 [.d (.str y2)]))))) else (K aF aH)
noncomputable def Yh.g {β : Type} (k : Nat) (a0 : LC) (a1 : Int) (K : Int → LC → Option β) : Option β :=
 Z4 (Yh.l0 k K) k (a1, 0, a0)
noncomputable def Yh.t (k : Nat) (a0 : LC) (a1 : Int) : Option (Int × LC) := Yh.g k a0 a1 (fun z0 z1 => some (z0, z1))
noncomputable def Yh.f {β : Type} (k : Nat) (a0 : LC) (a1 : Int) (K : Int → LC → Option β) : Option β :=
 match Yh.t k a0 a1 with
 | some (z0, z1) => K z0 z1
 | none => none
noncomputable def Yh.as (a0 : LC) (a1 : Int) : List A := [.own false [.own a0], .d (.int .i64 a1)]
noncomputable def Yh.kt {β : Type} (a0 : LC) (a1 : Int) (K0 : LC → List Out → Option β) : Int → LC → Option β := fun z0 z1 => K0 [[.d (.int .i64 z0)]] [.own [.own z1]]
noncomputable def Yh.e (k : Nat) : ZQ := { modes := [(.own, 25), (.imm, 0)], rts := [3], al := false, run := fun {β} l K => match l with | [.own false [.own a0], .d (.int .i64 a1)] => Yh.f k a0 a1 (Yh.kt a0 a1 K) | _ => none }
noncomputable def Yh.E (k : Nat) : Env := fun g => bif g == 113 then some (Ye.e k) else none
noncomputable def Yh.h : ZY := ⟨fun n => bif n == 2 then ⟨[(0, .asis), (1, .dat false), (5, .asis)], []⟩ else ⟨[], []⟩, fun _ => none, false, []⟩
noncomputable def Yh.s0 (v : Int × Int × LC) : St :=
 match v with
 | (aF, aC, aH) => ⟨[.row 0, .d false (.int .i64 aF), .any, .any, .any, .d true (.int .i64 aC), .any, .any, .any, .any, .any, .any, .any, .any, .any, .any, .any, .any, .any, .any], [.row (some 0) false 25 aH]⟩
noncomputable def Yh.b0 {β : Type} (k : Nat) : St → (Ex → St → Option β) → Option β := fun s K => den Try.prog (Yh.E k) Yh.h.H Yh.h.J k (Zad [1, 0, 1, 0, 0] (Zl Try.f91)) s K
noncomputable def Yh.c0 {β : Type} (k : Nat) (a0 : LC) (a1 : Int) (K0 : LC → List Out → Option β) : Ex → St → Option β := Zae Try.prog (Yh.E k) Yh.h k [1, 0, 1, 0] (Zl Try.f91) (Zak Try.prog Try.f91 Yh.h (Yh.as a0 a1) K0)
theorem Yh.l0_eq {β : Type} (k : Nat) (a0 : LC) (a1 : Int) (K0 : LC → List Out → Option β) : ∀ (kk : Nat) (v : Int × Int × LC), Zx (Yh.b0 k) (Yh.h.H 2) kk (Yh.s0 v) (Yh.c0 k a0 a1 K0) = Z4 (Yh.l0 k (Yh.kt a0 a1 K0)) kk v :=
 Z9 (Yh.s0) _ (fun L0 v => by obtain ⟨aF, aC, aH⟩ := v; kernel_rfl)
noncomputable def Yh.m {β : Type} (k : Nat) (a0 : LC) (a1 : Int) (K0 : LC → List Out → Option β) (F : ((Int × Int × LC) → Option β)) : Option β :=
 (F) (a1, 0, a0)
theorem Yh.f_eq {β : Type} (k : Nat) (a0 : LC) (a1 : Int) (K0 : LC → List Out → Option β) : ZJ Try.prog (Yh.E k) Yh.h k Try.f91 (Yh.as a0 a1) K0 = Yh.g k a0 a1 (Yh.kt a0 a1 K0) := Eq.trans (b := (Yh.m k a0 a1 K0) (fun (v : Int × Int × LC) => Zx (Yh.b0 k) (Yh.h.H 2) k (Yh.s0 v) (Yh.c0 k a0 a1 K0))) (by kernel_rfl) (Eq.trans (congrArg (Yh.m k a0 a1 K0) (funext fun v => Yh.l0_eq k a0 a1 K0 k v)) (by kernel_rfl))
noncomputable def Yh.dec (rs : LC) (os : List Out) : Option (Int × LC) := Zd rs fun c1 r2 => Zd c1 fun x3 l4 => cD x3 fun d5 => ZM .i64 d5 fun w0 => Ze l4 <| Ze r2 <| Zd os fun o6 u7 => outOwn o6 fun c8 => Zd c8 fun x9 l10 => ZaU x9 fun w1 => Ze l10 <| Ze u7 (some (w0, w1))
theorem Yh.kt_dec (a0 : LC) (a1 : Int) : Yh.kt a0 a1 Yh.dec = (fun z0 z1 => some (z0, z1)) := by kernel_rfl
theorem Yh.inj (a0 : LC) (a1 : Int) {rs : LC} {os : List Out} {z0 : Int} {z1 : LC} (h : Yh.dec rs os = some (z0, z1)) (ho : Zo (Yh.as a0 a1) os) : rs = [[.d (.int .i64 z0)]] ∧ os = [.own [.own z1]] := by
 unfold Yh.dec at h
 obtain ⟨c1, r2, rfl, h1⟩ := Zb h
 obtain ⟨x3, l4, rfl, h2⟩ := Zb h1
 obtain ⟨d5, rfl, h3⟩ := Zt h2
 obtain ⟨w0, rfl, h4⟩ := ZA h3
 obtain ⟨rfl, h5⟩ := Zc h4
 obtain ⟨rfl, h6⟩ := Zc h5
 obtain ⟨o6, u7, rfl, h7⟩ := Zb h6
 obtain ⟨c8, rfl, h8⟩ := outOwn_some h7
 obtain ⟨x9, l10, rfl, h9⟩ := Zb h8
 obtain ⟨w1, rfl, h10⟩ := ZN h9
 obtain ⟨rfl, h11⟩ := Zc h10
 obtain ⟨rfl, h12⟩ := Zc h11
 simp only [Option.some.injEq, Prod.mk.injEq] at h12
 obtain ⟨rfl, rfl⟩ := h12
 exact ⟨rfl, rfl⟩
theorem Yh.ok (k : Nat) : Zv Try.prog 91 (Yh.e k) := by
 refine Zu mix tyok (fn := Try.f91) (c := Zl Try.f91) Try.func91 (by kernel_rfl) (h := Yh.h) (k := k) (E := Yh.E k) (Zk (Ye.ok k) Zz) (by kernel_rfl) (by kernel_rfl) rfl (Zq Try.func91 (by kernel_rfl)) ?_
 intro β l K r hr
 simp only [Yh.e] at hr
 split at hr
 case h_2 => cases hr
 unfold Yh.f at hr
 split at hr
 case h_2 => cases hr
 rename_i hz
 exact ⟨_, _, hr, _, Yh.dec, _, (Yh.f_eq k _ _ Yh.dec).trans (by rw [Yh.kt_dec]; exact hz), fun rs os h ho => Yh.inj _ _ h ho⟩
noncomputable def Yf.l0 {β : Type} (k : Nat) (r_laws_markValueS : LC → Int → (Int → LC → Option β) → Option β) (K : Int → LC → Option β) (L0 : (Int × Int × LC) → Option β) (v : Int × Int × LC) : Option β :=
 match v with
 | (aF, aC, aH) => bif (decide ((aC : Int) < (aH.length : Int))) then (ZH ((0 : Int) ≤ aC ∧ aC < (aH.length : Int)) (ZH (Int.toNat aC < aH.length) (Ye.f k (IntKind.wrap .i64 (aF + 1)) (fun y14 => ZH ((0 : Int) ≤ aC ∧ aC < ((aH.modify (Int.toNat aC) fun c => Z1 c 0 [.d (.int .i64 aF)]).length : Int)) (ZH (Int.toNat aC < (aH.modify (Int.toNat aC) fun c => Z1 c 0 [.d (.int .i64 aF)]).length) (ZH ((0 : Int) ≤ aC ∧ aC < (((aH.modify (Int.toNat aC) fun c => Z1 c 0 [.d (.int .i64 aF)]).modify (Int.toNat aC) fun c => Z1 c 1 [.d (.str y14)]).length : Int)) (ZH (Int.toNat aC < ((aH.modify (Int.toNat aC) fun c => Z1 c 0 [.d (.int .i64 aF)]).modify (Int.toNat aC) fun c => Z1 c 1 [.d (.str y14)]).length) (ZH ((0 : Int) ≤ aC ∧ aC < ((((aH.modify (Int.toNat aC) fun c => Z1 c 0 [.d (.int .i64 aF)]).modify (Int.toNat aC) fun c => Z1 c 1 [.d (.str y14)]).modify (Int.toNat aC) fun c => Z1 c 2 [.d (.int .i64 (IntKind.wrap .i64 ((IntKind.wrap .i64 (aF + 1)) + 1)))]).length : Int)) (atNat (((aH.modify (Int.toNat aC) fun c => Z1 c 0 [.d (.int .i64 aF)]).modify (Int.toNat aC) fun c => Z1 c 1 [.d (.str y14)]).modify (Int.toNat aC) fun c => Z1 c 2 [.d (.int .i64 (IntKind.wrap .i64 ((IntKind.wrap .i64 (aF + 1)) + 1)))]) (Int.toNat aC) fun c15 => Zd (c15.drop 3) fun c16 r17 => ZaU c16 fun y18 => Yh.f k y18 (IntKind.wrap .i64 ((IntKind.wrap .i64 ((IntKind.wrap .i64 (aF + 1)) + 1)) + 1)) (fun y19 y20 => ZH ((0 : Int) ≤ aC ∧ aC < (((((aH.modify (Int.toNat aC) fun c => Z1 c 0 [.d (.int .i64 aF)]).modify (Int.toNat aC) fun c => Z1 c 1 [.d (.str y14)]).modify (Int.toNat aC) fun c => Z1 c 2 [.d (.int .i64 (IntKind.wrap .i64 ((IntKind.wrap .i64 (aF + 1)) + 1)))]).modify (Int.toNat aC) fun r => r.set 3 (.own y20)).length : Int)) (atNat ((((aH.modify (Int.toNat aC) fun c => Z1 c 0 [.d (.int .i64 aF)]).modify (Int.toNat aC) fun c => Z1 c 1 [.d (.str y14)]).modify (Int.toNat aC) fun c => Z1 c 2 [.d (.int .i64 (IntKind.wrap .i64 ((IntKind.wrap .i64 (aF + 1)) + 1)))]).modify (Int.toNat aC) fun r => r.set 3 (.own y20)) (Int.toNat aC) fun c21 => Zd (c21.drop 4) fun c22 r23 => ZaU c22 fun y24 => r_laws_markValueS y24 y19 (fun y25 y26 => L0 (y25, IntKind.wrap .i64 (aC + 1), ((((aH.modify (Int.toNat aC) fun c => Z1 c 0 [.d (.int .i64 aF)]).modify (Int.toNat aC) fun c => Z1 c 1 [.d (.str y14)]).modify (Int.toNat aC) fun c => Z1 c 2 [.d (.int .i64 (IntKind.wrap .i64 ((IntKind.wrap .i64 (aF + 1)) + 1)))]).modify (Int.toNat aC) fun r => r.set 3 (.own y20)).modify (Int.toNat aC) fun r => r.set 4 (.own y26)))))))))))))) else (K aF aH)
noncomputable def Yf.body {β : Type} (k : Nat) (r_laws_markValueS : LC → Int → (Int → LC → Option β) → Option β) (a0 : LC) (a1 : Int) (K : Int → LC → Option β) : Option β :=
 Z4 (Yf.l0 k r_laws_markValueS K) k (a1, 0, a0)
noncomputable def Yf.w {β : Type} (r : LC → Int → Option (Int × LC)) (a0 : LC) (a1 : Int) (K : Int → LC → Option β) : Option β :=
 match r a0 a1 with
 | some (z0, z1) => K z0 z1
 | none => none
noncomputable def Yf.all : Nat → (LC → Int → Option (Int × LC))
 | 0 => (fun _ _ => none)
 | k + 1 => (fun r => (fun a0 a1 => Yf.body k (Yf.w r) a0 a1 (fun z0 z1 => some (z0, z1)))) (Yf.all k)
noncomputable def Yf.t (k : Nat) (a0 : LC) (a1 : Int) : Option (Int × LC) := (Yf.all k) a0 a1
noncomputable def Yf.f {β : Type} (k : Nat) (a0 : LC) (a1 : Int) (K : Int → LC → Option β) : Option β := Yf.w (Yf.t k) a0 a1 K
noncomputable def Yf.g {β : Type} (k : Nat) (a0 : LC) (a1 : Int) (K : Int → LC → Option β) : Option β := Yf.body k (Yf.f k) a0 a1 K
theorem Yf.t_zero (a0 : LC) (a1 : Int) : Yf.t 0 a0 a1 = none := rfl
theorem Yf.t_succ (k : Nat) (a0 : LC) (a1 : Int) : Yf.t (k + 1) a0 a1 = Yf.g k a0 a1 (fun z0 z1 => some (z0, z1)) := rfl
noncomputable def Yf.as (a0 : LC) (a1 : Int) : List A := [.own false [.own a0], .d (.int .i64 a1)]
noncomputable def Yf.kt {β : Type} (a0 : LC) (a1 : Int) (K0 : LC → List Out → Option β) : Int → LC → Option β := fun z0 z1 => K0 [[.d (.int .i64 z0)]] [.own [.own z1]]
noncomputable def Yf.e (k : Nat) : ZQ := { modes := [(.own, 149), (.imm, 0)], rts := [3], al := false, run := fun {β} l K => match l with | [.own false [.own a0], .d (.int .i64 a1)] => Yf.f k a0 a1 (Yf.kt a0 a1 K) | _ => none }
noncomputable def Yf.E (k : Nat) : Env := fun g => bif g == 113 then some (Ye.e k) else bif g == 91 then some (Yh.e k) else bif g == 114 then some (Yf.e k) else none
noncomputable def Yf.h : ZY := ⟨fun n => bif n == 2 then ⟨[(0, .asis), (1, .dat false), (5, .asis)], []⟩ else ⟨[], []⟩, fun _ => none, false, []⟩
noncomputable def Yf.s0 (v : Int × Int × LC) : St :=
 match v with
 | (aF, aC, aH) => ⟨[.row 0, .d false (.int .i64 aF), .any, .any, .any, .d true (.int .i64 aC), .any, .any, .any, .any, .any, .any, .any, .any, .any, .any, .any, .any, .any, .any, .any, .any, .any, .any, .any, .any, .any, .any, .any, .any, .any, .any, .any, .any, .any, .any, .any, .any, .any, .any, .any, .any, .any, .any, .any, .any, .any, .any, .any], [.row (some 0) false 149 aH]⟩
noncomputable def Yf.b0 {β : Type} (k : Nat) : St → (Ex → St → Option β) → Option β := fun s K => den Try.prog (Yf.E k) Yf.h.H Yf.h.J k (Zad [1, 0, 1, 0, 0] (Zl Try.f114)) s K
noncomputable def Yf.c0 {β : Type} (k : Nat) (a0 : LC) (a1 : Int) (K0 : LC → List Out → Option β) : Ex → St → Option β := Zae Try.prog (Yf.E k) Yf.h k [1, 0, 1, 0] (Zl Try.f114) (Zak Try.prog Try.f114 Yf.h (Yf.as a0 a1) K0)
theorem Yf.l0_eq {β : Type} (k : Nat) (a0 : LC) (a1 : Int) (K0 : LC → List Out → Option β) : ∀ (kk : Nat) (v : Int × Int × LC), Zx (Yf.b0 k) (Yf.h.H 2) kk (Yf.s0 v) (Yf.c0 k a0 a1 K0) = Z4 (Yf.l0 k (Yf.f k) (Yf.kt a0 a1 K0)) kk v :=
 Z9 (Yf.s0) _ (fun L0 v => by obtain ⟨aF, aC, aH⟩ := v; kernel_rfl)
noncomputable def Yf.m {β : Type} (k : Nat) (a0 : LC) (a1 : Int) (K0 : LC → List Out → Option β) (F : ((Int × Int × LC) → Option β)) : Option β :=
 (F) (a1, 0, a0)
theorem Yf.f_eq {β : Type} (k : Nat) (a0 : LC) (a1 : Int) (K0 : LC → List Out → Option β) : ZJ Try.prog (Yf.E k) Yf.h k Try.f114 (Yf.as a0 a1) K0 = Yf.g k a0 a1 (Yf.kt a0 a1 K0) := Eq.trans (b := (Yf.m k a0 a1 K0) (fun (v : Int × Int × LC) => Zx (Yf.b0 k) (Yf.h.H 2) k (Yf.s0 v) (Yf.c0 k a0 a1 K0))) (by kernel_rfl) (Eq.trans (congrArg (Yf.m k a0 a1 K0) (funext fun v => Yf.l0_eq k a0 a1 K0 k v)) (by kernel_rfl))
noncomputable def Yf.dec (rs : LC) (os : List Out) : Option (Int × LC) := Zd rs fun c1 r2 => Zd c1 fun x3 l4 => cD x3 fun d5 => ZM .i64 d5 fun w0 => Ze l4 <| Ze r2 <| Zd os fun o6 u7 => outOwn o6 fun c8 => Zd c8 fun x9 l10 => ZaU x9 fun w1 => Ze l10 <| Ze u7 (some (w0, w1))
theorem Yf.kt_dec (a0 : LC) (a1 : Int) : Yf.kt a0 a1 Yf.dec = (fun z0 z1 => some (z0, z1)) := by kernel_rfl
theorem Yf.inj (a0 : LC) (a1 : Int) {rs : LC} {os : List Out} {z0 : Int} {z1 : LC} (h : Yf.dec rs os = some (z0, z1)) (ho : Zo (Yf.as a0 a1) os) : rs = [[.d (.int .i64 z0)]] ∧ os = [.own [.own z1]] := by
 unfold Yf.dec at h
 obtain ⟨c1, r2, rfl, h1⟩ := Zb h
 obtain ⟨x3, l4, rfl, h2⟩ := Zb h1
 obtain ⟨d5, rfl, h3⟩ := Zt h2
 obtain ⟨w0, rfl, h4⟩ := ZA h3
 obtain ⟨rfl, h5⟩ := Zc h4
 obtain ⟨rfl, h6⟩ := Zc h5
 obtain ⟨o6, u7, rfl, h7⟩ := Zb h6
 obtain ⟨c8, rfl, h8⟩ := outOwn_some h7
 obtain ⟨x9, l10, rfl, h9⟩ := Zb h8
 obtain ⟨w1, rfl, h10⟩ := ZN h9
 obtain ⟨rfl, h11⟩ := Zc h10
 obtain ⟨rfl, h12⟩ := Zc h11
 simp only [Option.some.injEq, Prod.mk.injEq] at h12
 obtain ⟨rfl, rfl⟩ := h12
 exact ⟨rfl, rfl⟩
theorem Yf.oks (k : Nat) : Zv Try.prog 114 (Yf.e k) := by
 induction k with
 | zero =>
  refine ?_
  ·exact Zb1 (Zq Try.func114 (by kernel_rfl)) fun β l K r h => by
    simp only [Yf.e] at h
    split at h
    ·unfold Yf.f at h
     unfold Yf.w at h
     rw [Yf.t_zero] at h
     cases h
    ·cases h
 | succ k ih =>
  refine ?_
  ·refine Zu mix tyok (fn := Try.f114) (c := Zl Try.f114) Try.func114 (by kernel_rfl) (h := Yf.h) (k := k) (E := Yf.E k) (Zk (Ye.ok k) (Zk (Yh.ok k) (Zk ih Zz))) (by kernel_rfl) (by kernel_rfl) rfl (Zq Try.func114 (by kernel_rfl)) ?_
   intro β l K r hr
   simp only [Yf.e] at hr
   split at hr
   case h_2 => cases hr
   unfold Yf.f at hr
   unfold Yf.w at hr
   split at hr
   case h_2 => cases hr
   rename_i hz
   exact ⟨_, _, hr, _, Yf.dec, _, (Yf.f_eq k _ _ Yf.dec).trans (by rw [Yf.kt_dec]; exact hz), fun rs os h ho => Yf.inj _ _ h ho⟩
theorem Yf.ok (k : Nat) : Zv Try.prog 114 (Yf.e k) := (Yf.oks k)
end Go.Proofs.Ytljkbknnnpjmgaa
