/- Printed: the functions that FnExactList reaches, read by the evaluator, each with its contract. -/
import Derived.Test.YtljkbknnnpjmgaaTLibs
import Derived.Test.YtljkbknnnpjmgaaProg
import Derived.KernelRfl
set_option linter.unusedVariables false
set_option linter.unusedSimpArgs false
namespace Go.Proofs.Ytljkbknnnpjmgaa
open Go Go.T Go.Proofs
theorem mix : Try.prog.follows .mixedOrders = true := by kernel_rfl
theorem tyok : ZaV Try.prog := tyOk_of (by kernel_rfl)
noncomputable def Yr.l0 {β : Type} (k : Nat) (aF : LD) (K : Int → Option β) (L0 : (Int × Int) → Option β) (v : Int × Int) : Option β :=
 match v with
 | (aC, aH) => bif (decide ((aH : Int) < (aF.length : Int))) then (ZX aF aH fun c5 => Zd c5 fun d r => Zan d fun x8 => Ze r (bif (decide (((IntKind.wrap .i64 (aC - (x8.size : Int))) : Int) < 0)) then (K (-1)) else (L0 (IntKind.wrap .i64 (aC - (x8.size : Int)), IntKind.wrap .i64 (aH + 1))))) else (K aC)
noncomputable def Yr.g {β : Type} (k : Nat) (a0 : LD) (a1 : Int) (K : Int → Option β) : Option β :=
 bif (decide (((IntKind.wrap .i64 (a1 - (a0.length : Int))) : Int) < 0)) then (K (-1)) else (Z4 (Yr.l0 k a0 K) k (IntKind.wrap .i64 (a1 - (a0.length : Int)), 0))
noncomputable def Yr.t (k : Nat) (a0 : LD) (a1 : Int) : Option (Int) := Yr.g k a0 a1 (fun z0 => some z0)
noncomputable def Yr.f {β : Type} (k : Nat) (a0 : LD) (a1 : Int) (K : Int → Option β) : Option β :=
 match Yr.t k a0 a1 with
 | some z0 => K z0
 | none => none
noncomputable def Yr.as (a0 : LD) (a1 : Int) : List A := [.d (.sl a0), .d (.int .i64 a1)]
noncomputable def Yr.kt {β : Type} (a0 : LD) (a1 : Int) (K0 : LC → List Out → Option β) : Int → Option β := fun z0 => K0 [[.d (.int .i64 z0)]] []
noncomputable def Yr.e (k : Nat) : ZQ := { modes := [(.imm, 0), (.imm, 0)], rts := [3], al := false, run := fun {β} l K => match l with | [.d (.sl a0), .d (.int .i64 a1)] => Yr.f k a0 a1 (Yr.kt a0 a1 K) | _ => none }
noncomputable def Yr.E (k : Nat) : Env := fun g => none
noncomputable def Yr.h : ZY := ⟨fun n => bif n == 5 then ⟨[(0, .asis), (1, .asis), (5, .asis)], []⟩ else ⟨[], []⟩, fun _ => none, false, []⟩
noncomputable def Yr.s0 (aF : LD) (v : Int × Int) : St :=
 match v with
 | (aC, aH) => ⟨[.d false (.sl aF), .d true (.int .i64 aC), .any, .any, .any, .d true (.int .i64 aH), .any, .any, .any, .any, .any, .any, .any, .any, .any, .any, .any, .any, .any, .any, .any, .any, .any, .any, .any, .any, .any, .any], []⟩
noncomputable def Yr.b0 {β : Type} (k : Nat) : St → (Ex → St → Option β) → Option β := fun s K => den Try.prog (Yr.E k) Yr.h.H Yr.h.J k (Zad [1, 1, 1, 0, 1, 0, 0] (Zl Try.f74)) s K
noncomputable def Yr.c0 {β : Type} (k : Nat) (a0 : LD) (a1 : Int) (K0 : LC → List Out → Option β) : Ex → St → Option β := Zae Try.prog (Yr.E k) Yr.h k [1, 1, 1, 0, 1, 0] (Zl Try.f74) (Zak Try.prog Try.f74 Yr.h (Yr.as a0 a1) K0)
theorem Yr.l0_eq {β : Type} (k : Nat) (a0 : LD) (a1 : Int) (K0 : LC → List Out → Option β) (aF : LD) : ∀ (kk : Nat) (v : Int × Int), Zx (Yr.b0 k) (Yr.h.H 5) kk (Yr.s0 aF v) (Yr.c0 k a0 a1 K0) = Z4 (Yr.l0 k aF (Yr.kt a0 a1 K0)) kk v :=
 Z9 (Yr.s0 aF) _ (fun L0 v => by obtain ⟨aC, aH⟩ := v; kernel_rfl)
noncomputable def Yr.m {β : Type} (k : Nat) (a0 : LD) (a1 : Int) (K0 : LC → List Out → Option β) (F : (LD → (Int × Int) → Option β)) : Option β :=
 bif (decide (((IntKind.wrap .i64 (a1 - (a0.length : Int))) : Int) < 0)) then ((Yr.kt a0 a1 K0) (-1)) else ((F) a0 (IntKind.wrap .i64 (a1 - (a0.length : Int)), 0))
theorem Yr.f_eq {β : Type} (k : Nat) (a0 : LD) (a1 : Int) (K0 : LC → List Out → Option β) : ZJ Try.prog (Yr.E k) Yr.h k Try.f74 (Yr.as a0 a1) K0 = Yr.g k a0 a1 (Yr.kt a0 a1 K0) := Eq.trans (b := (Yr.m k a0 a1 K0) (fun (aF : LD) (v : Int × Int) => Zx (Yr.b0 k) (Yr.h.H 5) k (Yr.s0 aF v) (Yr.c0 k a0 a1 K0))) (by kernel_rfl) (Eq.trans (congrArg (Yr.m k a0 a1 K0) (funext fun aF => funext fun v => Yr.l0_eq k a0 a1 K0 aF k v)) (by kernel_rfl))
noncomputable def Yr.dec (rs : LC) (os : List Out) : Option (Int) := Zd rs fun c1 r2 => Zd c1 fun x3 l4 => cD x3 fun d5 => ZM .i64 d5 fun w0 => Ze l4 <| Ze r2 <| Ze os (some w0)
theorem Yr.kt_dec (a0 : LD) (a1 : Int) : Yr.kt a0 a1 Yr.dec = (fun z0 => some z0) := by kernel_rfl
theorem Yr.inj (a0 : LD) (a1 : Int) {rs : LC} {os : List Out} {z0 : Int} (h : Yr.dec rs os = some z0) (ho : Zo (Yr.as a0 a1) os) : rs = [[.d (.int .i64 z0)]] ∧ os = [] := by
 unfold Yr.dec at h
 obtain ⟨c1, r2, rfl, h1⟩ := Zb h
 obtain ⟨x3, l4, rfl, h2⟩ := Zb h1
 obtain ⟨d5, rfl, h3⟩ := Zt h2
 obtain ⟨w0, rfl, h4⟩ := ZA h3
 obtain ⟨rfl, h5⟩ := Zc h4
 obtain ⟨rfl, h6⟩ := Zc h5
 obtain ⟨rfl, h7⟩ := Zc h6
 obtain rfl := Option.some.inj h7
 exact ⟨rfl, rfl⟩
theorem Yr.ok (k : Nat) : Zv Try.prog 74 (Yr.e k) := by
 refine Zu mix tyok (fn := Try.f74) (c := Zl Try.f74) Try.func74 (by kernel_rfl) (h := Yr.h) (k := k) (E := Yr.E k) Zz (by kernel_rfl) (by kernel_rfl) rfl (Zq Try.func74 (by kernel_rfl)) ?_
 intro β l K r hr
 simp only [Yr.e] at hr
 split at hr
 case h_2 => cases hr
 unfold Yr.f at hr
 split at hr
 case h_2 => cases hr
 rename_i hz
 exact ⟨_, _, hr, _, Yr.dec, _, (Yr.f_eq k _ _ Yr.dec).trans (by rw [Yr.kt_dec]; exact hz), fun rs os h ho => Yr.inj _ _ h ho⟩
noncomputable def Yl.l0 {β : Type} (k : Nat) (r_laws_szValueS : LD → Int → (Int → Option β) → Option β) (r_laws_szValue : Int → BA → Int → LD → LD → Int → (Int → Option β) → Option β) (aF : LD) (K : Int → Option β) (L0 : (Int × Int) → Option β) (v : Int × Int) : Option β :=
 match v with
 | (aC, aH) => bif (decide ((aH : Int) < (aF.length : Int))) then (ZX aF aH fun c18 => Zd c18 fun d r => ZM .i64 d fun x21 => Zd r fun d r => Zan d fun x24 => Zd r fun d r => ZM .i64 d fun x27 => Zd r fun d r => dSl d fun x30 => Zd r fun d r => dSl d fun x33 => Ze r (r_laws_szValue x21 x24 x27 x30 x33 aC (fun y34 => bif (decide ((y34 : Int) < 0)) then (K (-1)) else (L0 (y34, IntKind.wrap .i64 (aH + 1)))))) else (K aC)
noncomputable def Yl.body {β : Type} (k : Nat) (r_laws_szValueS : LD → Int → (Int → Option β) → Option β) (r_laws_szValue : Int → BA → Int → LD → LD → Int → (Int → Option β) → Option β) (a0 : LD) (a1 : Int) (K : Int → Option β) : Option β :=
 bif (decide (((IntKind.wrap .i64 (a1 - (a0.length : Int))) : Int) < 0)) then (K (-1)) else (Z4 (Yl.l0 k r_laws_szValueS r_laws_szValue a0 K) k (IntKind.wrap .i64 (a1 - (a0.length : Int)), 0))
noncomputable def YI.body {β : Type} (k : Nat) (r_laws_szValueS : LD → Int → (Int → Option β) → Option β) (r_laws_szValue : Int → BA → Int → LD → LD → Int → (Int → Option β) → Option β) (aB : Int) (aA : BA) (aE : Int) (aD aG : LD) (a1 : Int) (K : Int → Option β) : Option β :=
 bif (decide (((IntKind.wrap .i64 (a1 - (aA.size : Int))) : Int) < 0)) then (K (-1)) else (Yr.f k aD (IntKind.wrap .i64 (a1 - (aA.size : Int))) (fun y1 => bif (decide ((y1 : Int) < 0)) then (K (-1)) else (r_laws_szValueS aG y1 (fun y35 => bif (decide ((y35 : Int) < 0)) then (K (-1)) else (K y35)))))
noncomputable def Yl.w {β : Type} (r : LD → Int → Option (Int)) (a0 : LD) (a1 : Int) (K : Int → Option β) : Option β :=
 match r a0 a1 with
 | some z0 => K z0
 | none => none
noncomputable def YI.w {β : Type} (r : Int → BA → Int → LD → LD → Int → Option (Int)) (aB : Int) (aA : BA) (aE : Int) (aD aG : LD) (a1 : Int) (K : Int → Option β) : Option β :=
 match r aB aA aE aD aG a1 with
 | some z0 => K z0
 | none => none
noncomputable def Yl.all : Nat → (LD → Int → Option (Int)) × (Int → BA → Int → LD → LD → Int → Option (Int))
 | 0 => (fun _ _ => none, fun _ _ _ _ _ _ => none)
 | k + 1 => (fun r => (fun a0 a1 => Yl.body k (Yl.w r.1) (YI.w r.2) a0 a1 (fun z0 => some z0), fun aB aA aE aD aG a1 => YI.body k (Yl.w r.1) (YI.w r.2) aB aA aE aD aG a1 (fun z0 => some z0))) (Yl.all k)
noncomputable def Yl.t (k : Nat) (a0 : LD) (a1 : Int) : Option (Int) := (Yl.all k).1 a0 a1
noncomputable def YI.t (k : Nat) (aB : Int) (aA : BA) (aE : Int) (aD aG : LD) (a1 : Int) : Option (Int) := (Yl.all k).2 aB aA aE aD aG a1
noncomputable def Yl.f {β : Type} (k : Nat) (a0 : LD) (a1 : Int) (K : Int → Option β) : Option β := Yl.w (Yl.t k) a0 a1 K
noncomputable def YI.f {β : Type} (k : Nat) (aB : Int) (aA : BA) (aE : Int) (aD aG : LD) (a1 : Int) (K : Int → Option β) : Option β := YI.w (YI.t k) aB aA aE aD aG a1 K
noncomputable def Yl.g {β : Type} (k : Nat) (a0 : LD) (a1 : Int) (K : Int → Option β) : Option β := Yl.body k (Yl.f k) (YI.f k) a0 a1 K
theorem Yl.t_zero (a0 : LD) (a1 : Int) : Yl.t 0 a0 a1 = none := rfl
theorem Yl.t_succ (k : Nat) (a0 : LD) (a1 : Int) : Yl.t (k + 1) a0 a1 = Yl.g k a0 a1 (fun z0 => some z0) := rfl
noncomputable def YI.g {β : Type} (k : Nat) (aB : Int) (aA : BA) (aE : Int) (aD aG : LD) (a1 : Int) (K : Int → Option β) : Option β := YI.body k (Yl.f k) (YI.f k) aB aA aE aD aG a1 K
theorem YI.t_zero (aB : Int) (aA : BA) (aE : Int) (aD aG : LD) (a1 : Int) : YI.t 0 aB aA aE aD aG a1 = none := rfl
theorem YI.t_succ (k : Nat) (aB : Int) (aA : BA) (aE : Int) (aD aG : LD) (a1 : Int) : YI.t (k + 1) aB aA aE aD aG a1 = YI.g k aB aA aE aD aG a1 (fun z0 => some z0) := rfl
noncomputable def Yl.as (a0 : LD) (a1 : Int) : List A := [.d (.sl a0), .d (.int .i64 a1)]
noncomputable def Yl.kt {β : Type} (a0 : LD) (a1 : Int) (K0 : LC → List Out → Option β) : Int → Option β := fun z0 => K0 [[.d (.int .i64 z0)]] []
noncomputable def Yl.e (k : Nat) : ZQ := { modes := [(.imm, 0), (.imm, 0)], rts := [3], al := false, run := fun {β} l K => match l with | [.d (.sl a0), .d (.int .i64 a1)] => Yl.f k a0 a1 (Yl.kt a0 a1 K) | _ => none }
noncomputable def YI.as (aB : Int) (aA : BA) (aE : Int) (aD aG : LD) (a1 : Int) : List A := [.agg [.int .i64 aB, .str aA, .int .i64 aE, .sl aD, .sl aG], .d (.int .i64 a1)]
noncomputable def YI.kt {β : Type} (aB : Int) (aA : BA) (aE : Int) (aD aG : LD) (a1 : Int) (K0 : LC → List Out → Option β) : Int → Option β := fun z0 => K0 [[.d (.int .i64 z0)]] []
noncomputable def YI.e (k : Nat) : ZQ := { modes := [(.imm, 0), (.imm, 0)], rts := [3], al := false, run := fun {β} l K => match l with | [.agg [.int .i64 aB, .str aA, .int .i64 aE, .sl aD, .sl aG], .d (.int .i64 a1)] => YI.f k aB aA aE aD aG a1 (YI.kt aB aA aE aD aG a1 K) | _ => none }
noncomputable def Yl.E (k : Nat) : Env := fun g => bif g == 178 then some (YI.e k) else none
noncomputable def Yl.h : ZY := ⟨fun n => bif n == 5 then ⟨[(0, .asis), (1, .asis), (5, .asis)], []⟩ else ⟨[], []⟩, fun _ => none, false, []⟩
noncomputable def Yl.s0 (aF : LD) (v : Int × Int) : St :=
 match v with
 | (aC, aH) => ⟨[.d false (.sl aF), .d true (.int .i64 aC), .any, .any, .any, .d true (.int .i64 aH), .any, .any, .any, .any, .any, .any, .any, .any, .any, .any, .any, .any, .any, .any, .any, .any, .any, .any, .any, .any, .any], []⟩
noncomputable def Yl.b0 {β : Type} (k : Nat) : St → (Ex → St → Option β) → Option β := fun s K => den Try.prog (Yl.E k) Yl.h.H Yl.h.J k (Zad [1, 1, 1, 0, 1, 0, 0] (Zl Try.f222)) s K
noncomputable def Yl.c0 {β : Type} (k : Nat) (a0 : LD) (a1 : Int) (K0 : LC → List Out → Option β) : Ex → St → Option β := Zae Try.prog (Yl.E k) Yl.h k [1, 1, 1, 0, 1, 0] (Zl Try.f222) (Zak Try.prog Try.f222 Yl.h (Yl.as a0 a1) K0)
theorem Yl.l0_eq {β : Type} (k : Nat) (a0 : LD) (a1 : Int) (K0 : LC → List Out → Option β) (aF : LD) : ∀ (kk : Nat) (v : Int × Int), Zx (Yl.b0 k) (Yl.h.H 5) kk (Yl.s0 aF v) (Yl.c0 k a0 a1 K0) = Z4 (Yl.l0 k (Yl.f k) (YI.f k) aF (Yl.kt a0 a1 K0)) kk v :=
 Z9 (Yl.s0 aF) _ (fun L0 v => by obtain ⟨aC, aH⟩ := v; kernel_rfl)
noncomputable def Yl.m {β : Type} (k : Nat) (a0 : LD) (a1 : Int) (K0 : LC → List Out → Option β) (F : (LD → (Int × Int) → Option β)) : Option β :=
 bif (decide (((IntKind.wrap .i64 (a1 - (a0.length : Int))) : Int) < 0)) then ((Yl.kt a0 a1 K0) (-1)) else ((F) a0 (IntKind.wrap .i64 (a1 - (a0.length : Int)), 0))
theorem Yl.f_eq {β : Type} (k : Nat) (a0 : LD) (a1 : Int) (K0 : LC → List Out → Option β) : ZJ Try.prog (Yl.E k) Yl.h k Try.f222 (Yl.as a0 a1) K0 = Yl.g k a0 a1 (Yl.kt a0 a1 K0) := Eq.trans (b := (Yl.m k a0 a1 K0) (fun (aF : LD) (v : Int × Int) => Zx (Yl.b0 k) (Yl.h.H 5) k (Yl.s0 aF v) (Yl.c0 k a0 a1 K0))) (by kernel_rfl) (Eq.trans (congrArg (Yl.m k a0 a1 K0) (funext fun aF => funext fun v => Yl.l0_eq k a0 a1 K0 aF k v)) (by kernel_rfl))
noncomputable def YI.E (k : Nat) : Env := fun g => bif g == 74 then some (Yr.e k) else bif g == 222 then some (Yl.e k) else none
noncomputable def YI.h : ZY := ⟨fun n => ⟨[], []⟩, fun _ => none, false, []⟩
theorem YI.f_eq {β : Type} (k : Nat) (aB : Int) (aA : BA) (aE : Int) (aD aG : LD) (a1 : Int) (K0 : LC → List Out → Option β) : ZJ Try.prog (YI.E k) YI.h k Try.f178 (YI.as aB aA aE aD aG a1) K0 = YI.g k aB aA aE aD aG a1 (YI.kt aB aA aE aD aG a1 K0) := by kernel_rfl
noncomputable def Yl.dec (rs : LC) (os : List Out) : Option (Int) := Zd rs fun c1 r2 => Zd c1 fun x3 l4 => cD x3 fun d5 => ZM .i64 d5 fun w0 => Ze l4 <| Ze r2 <| Ze os (some w0)
theorem Yl.kt_dec (a0 : LD) (a1 : Int) : Yl.kt a0 a1 Yl.dec = (fun z0 => some z0) := by kernel_rfl
theorem Yl.inj (a0 : LD) (a1 : Int) {rs : LC} {os : List Out} {z0 : Int} (h : Yl.dec rs os = some z0) (ho : Zo (Yl.as a0 a1) os) : rs = [[.d (.int .i64 z0)]] ∧ os = [] := by
 unfold Yl.dec at h
 obtain ⟨c1, r2, rfl, h1⟩ := Zb h
 obtain ⟨x3, l4, rfl, h2⟩ := Zb h1
 obtain ⟨d5, rfl, h3⟩ := Zt h2
 obtain ⟨w0, rfl, h4⟩ := ZA h3
 obtain ⟨rfl, h5⟩ := Zc h4
 obtain ⟨rfl, h6⟩ := Zc h5
 obtain ⟨rfl, h7⟩ := Zc h6
 obtain rfl := Option.some.inj h7
 exact ⟨rfl, rfl⟩
noncomputable def YI.dec (rs : LC) (os : List Out) : Option (Int) := Zd rs fun c1 r2 => Zd c1 fun x3 l4 => cD x3 fun d5 => ZM .i64 d5 fun w0 => Ze l4 <| Ze r2 <| Ze os (some w0)
theorem YI.kt_dec (aB : Int) (aA : BA) (aE : Int) (aD aG : LD) (a1 : Int) : YI.kt aB aA aE aD aG a1 YI.dec = (fun z0 => some z0) := by kernel_rfl
theorem YI.inj (aB : Int) (aA : BA) (aE : Int) (aD aG : LD) (a1 : Int) {rs : LC} {os : List Out} {z0 : Int} (h : YI.dec rs os = some z0) (ho : Zo (YI.as aB aA aE aD aG a1) os) : rs = [[.d (.int .i64 z0)]] ∧ os = [] := by
 unfold YI.dec at h
 obtain ⟨c1, r2, rfl, h1⟩ := Zb h
 obtain ⟨x3, l4, rfl, h2⟩ := Zb h1
 obtain ⟨d5, rfl, h3⟩ := Zt h2
 obtain ⟨w0, rfl, h4⟩ := ZA h3
 obtain ⟨rfl, h5⟩ := Zc h4
 obtain ⟨rfl, h6⟩ := Zc h5
 obtain ⟨rfl, h7⟩ := Zc h6
 obtain rfl := Option.some.inj h7
 exact ⟨rfl, rfl⟩
theorem Yl.oks (k : Nat) : Zv Try.prog 222 (Yl.e k) ∧ Zv Try.prog 178 (YI.e k) := by
 induction k with
 | zero =>
  refine ⟨?_, ?_⟩
  ·exact Zb1 (Zq Try.func222 (by kernel_rfl)) fun β l K r h => by
    simp only [Yl.e] at h
    split at h
    ·unfold Yl.f at h
     unfold Yl.w at h
     rw [Yl.t_zero] at h
     cases h
    ·cases h
  ·exact Zb1 (Zq Try.func178 (by kernel_rfl)) fun β l K r h => by
    simp only [YI.e] at h
    split at h
    ·unfold YI.f at h
     unfold YI.w at h
     rw [YI.t_zero] at h
     cases h
    ·cases h
 | succ k ih =>
  refine ⟨?_, ?_⟩
  ·refine Zu mix tyok (fn := Try.f222) (c := Zl Try.f222) Try.func222 (by kernel_rfl) (h := Yl.h) (k := k) (E := Yl.E k) (Zk ih.2 Zz) (by kernel_rfl) (by kernel_rfl) rfl (Zq Try.func222 (by kernel_rfl)) ?_
   intro β l K r hr
   simp only [Yl.e] at hr
   split at hr
   case h_2 => cases hr
   unfold Yl.f at hr
   unfold Yl.w at hr
   split at hr
   case h_2 => cases hr
   rename_i hz
   exact ⟨_, _, hr, _, Yl.dec, _, (Yl.f_eq k _ _ Yl.dec).trans (by rw [Yl.kt_dec]; exact hz), fun rs os h ho => Yl.inj _ _ h ho⟩
  ·refine Zu mix tyok (fn := Try.f178) (c := Zl Try.f178) Try.func178 (by kernel_rfl) (h := YI.h) (k := k) (E := YI.E k) (Zk (Yr.ok k) (Zk ih.1 Zz)) (by kernel_rfl) (by kernel_rfl) rfl (Zq Try.func178 (by kernel_rfl)) ?_
   intro β l K r hr
   simp only [YI.e] at hr
   split at hr
   case h_2 => cases hr
   unfold YI.f at hr
   unfold YI.w at hr
   split at hr
   case h_2 => cases hr
   rename_i hz
   exact ⟨_, _, hr, _, YI.dec, _, (YI.f_eq k _ _ _ _ _ _ YI.dec).trans (by rw [YI.kt_dec]; exact hz), fun rs os h ho => YI.inj _ _ _ _ _ _ h ho⟩
theorem YI.ok (k : Nat) : Zv Try.prog 178 (YI.e k) := (Yl.oks k).2
noncomputable def Yah.g {β : Type} (k : Nat) (aB : Int) (aA : BA) (aE aD aG : Int) (aT : Bool) (aM : LD) (aQ : Int) (aI : BA) (aR : Int) (aJ aN : LD) (aP : Int) (aK : BA) (aS : Int) (aL aO : LD) (a1 : Int) (K : Int → Option β) : Option β :=
 bif (decide (((IntKind.wrap .i64 (a1 - (aA.size : Int))) : Int) < 0)) then (K (-1)) else (Yr.f k aM (IntKind.wrap .i64 (a1 - (aA.size : Int))) (fun y9 => bif (decide ((y9 : Int) < 0)) then (K (-1)) else (YI.f k aQ aI aR aJ aN y9 (fun y36 => bif (decide ((y36 : Int) < 0)) then (K (-1)) else (YI.f k aP aK aS aL aO y36 (fun y37 => bif (decide ((y37 : Int) < 0)) then (K (-1)) else (K y37)))))))
noncomputable def Yah.t (k : Nat) (aB : Int) (aA : BA) (aE aD aG : Int) (aT : Bool) (aM : LD) (aQ : Int) (aI : BA) (aR : Int) (aJ aN : LD) (aP : Int) (aK : BA) (aS : Int) (aL aO : LD) (a1 : Int) : Option (Int) := Yah.g k aB aA aE aD aG aT aM aQ aI aR aJ aN aP aK aS aL aO a1 (fun z0 => some z0)
noncomputable def Yah.f {β : Type} (k : Nat) (aB : Int) (aA : BA) (aE aD aG : Int) (aT : Bool) (aM : LD) (aQ : Int) (aI : BA) (aR : Int) (aJ aN : LD) (aP : Int) (aK : BA) (aS : Int) (aL aO : LD) (a1 : Int) (K : Int → Option β) : Option β :=
 match Yah.t k aB aA aE aD aG aT aM aQ aI aR aJ aN aP aK aS aL aO a1 with
 | some z0 => K z0
 | none => none
noncomputable def Yah.as (aB : Int) (aA : BA) (aE aD aG : Int) (aT : Bool) (aM : LD) (aQ : Int) (aI : BA) (aR : Int) (aJ aN : LD) (aP : Int) (aK : BA) (aS : Int) (aL aO : LD) (a1 : Int) : List A := [.agg [.int .i64 aB, .str aA, .int .i64 aE, .int .i64 aD, .int .i64 aG, .bool aT, .sl aM, .int .i64 aQ, .str aI, .int .i64 aR, .sl aJ, .sl aN, .int .i64 aP, .str aK, .int .i64 aS, .sl aL, .sl aO], .d (.int .i64 a1)]
noncomputable def Yah.kt {β : Type} (aB : Int) (aA : BA) (aE aD aG : Int) (aT : Bool) (aM : LD) (aQ : Int) (aI : BA) (aR : Int) (aJ aN : LD) (aP : Int) (aK : BA) (aS : Int) (aL aO : LD) (a1 : Int) (K0 : LC → List Out → Option β) : Int → Option β := fun z0 => K0 [[.d (.int .i64 z0)]] []
noncomputable def Yah.e (k : Nat) : ZQ := { modes := [(.imm, 0), (.imm, 0)], rts := [3], al := false, run := fun {β} l K => match l with | [.agg [.int .i64 aB, .str aA, .int .i64 aE, .int .i64 aD, .int .i64 aG, .bool aT, .sl aM, .int .i64 aQ, .str aI, .int .i64 aR, .sl aJ, .sl aN, .int .i64 aP, .str aK, .int .i64 aS, .sl aL, .sl aO], .d (.int .i64 a1)] => Yah.f k aB aA aE aD aG aT aM aQ aI aR aJ aN aP aK aS aL aO a1 (Yah.kt aB aA aE aD aG aT aM aQ aI aR aJ aN aP aK aS aL aO a1 K) | _ => none }
noncomputable def Yah.E (k : Nat) : Env := fun g => bif g == 74 then some (Yr.e k) else bif g == 178 then some (YI.e k) else none
noncomputable def Yah.h : ZY := ⟨fun n => ⟨[], []⟩, fun _ => none, false, []⟩
theorem Yah.f_eq {β : Type} (k : Nat) (aB : Int) (aA : BA) (aE aD aG : Int) (aT : Bool) (aM : LD) (aQ : Int) (aI : BA) (aR : Int) (aJ aN : LD) (aP : Int) (aK : BA) (aS : Int) (aL aO : LD) (a1 : Int) (K0 : LC → List Out → Option β) : ZJ Try.prog (Yah.E k) Yah.h k Try.f192 (Yah.as aB aA aE aD aG aT aM aQ aI aR aJ aN aP aK aS aL aO a1) K0 = Yah.g k aB aA aE aD aG aT aM aQ aI aR aJ aN aP aK aS aL aO a1 (Yah.kt aB aA aE aD aG aT aM aQ aI aR aJ aN aP aK aS aL aO a1 K0) := by kernel_rfl
noncomputable def Yah.dec (rs : LC) (os : List Out) : Option (Int) := Zd rs fun c1 r2 => Zd c1 fun x3 l4 => cD x3 fun d5 => ZM .i64 d5 fun w0 => Ze l4 <| Ze r2 <| Ze os (some w0)
theorem Yah.kt_dec (aB : Int) (aA : BA) (aE aD aG : Int) (aT : Bool) (aM : LD) (aQ : Int) (aI : BA) (aR : Int) (aJ aN : LD) (aP : Int) (aK : BA) (aS : Int) (aL aO : LD) (a1 : Int) : Yah.kt aB aA aE aD aG aT aM aQ aI aR aJ aN aP aK aS aL aO a1 Yah.dec = (fun z0 => some z0) := by kernel_rfl
theorem Yah.inj (aB : Int) (aA : BA) (aE aD aG : Int) (aT : Bool) (aM : LD) (aQ : Int) (aI : BA) (aR : Int) (aJ aN : LD) (aP : Int) (aK : BA) (aS : Int) (aL aO : LD) (a1 : Int) {rs : LC} {os : List Out} {z0 : Int} (h : Yah.dec rs os = some z0) (ho : Zo (Yah.as aB aA aE aD aG aT aM aQ aI aR aJ aN aP aK aS aL aO a1) os) : rs = [[.d (.int .i64 z0)]] ∧ os = [] := by
 unfold Yah.dec at h
 obtain ⟨c1, r2, rfl, h1⟩ := Zb h
 obtain ⟨x3, l4, rfl, h2⟩ := Zb h1
 obtain ⟨d5, rfl, h3⟩ := Zt h2
 obtain ⟨w0, rfl, h4⟩ := ZA h3
 obtain ⟨rfl, h5⟩ := Zc h4
 obtain ⟨rfl, h6⟩ := Zc h5
 obtain ⟨rfl, h7⟩ := Zc h6
 obtain rfl := Option.some.inj h7
 exact ⟨rfl, rfl⟩
theorem Yah.ok (k : Nat) : Zv Try.prog 192 (Yah.e k) := by
 refine Zu mix tyok (fn := Try.f192) (c := Zl Try.f192) Try.func192 (by kernel_rfl) (h := Yah.h) (k := k) (E := Yah.E k) (Zk (Yr.ok k) (Zk (YI.ok k) Zz)) (by kernel_rfl) (by kernel_rfl) rfl (Zq Try.func192 (by kernel_rfl)) ?_
 intro β l K r hr
 simp only [Yah.e] at hr
 split at hr
 case h_2 => cases hr
 unfold Yah.f at hr
 split at hr
 case h_2 => cases hr
 rename_i hz
 exact ⟨_, _, hr, _, Yah.dec, _, (Yah.f_eq k _ _ _ _ _ _ _ _ _ _ _ _ _ _ _ _ _ _ Yah.dec).trans (by rw [Yah.kt_dec]; exact hz), fun rs os h ho => Yah.inj _ _ _ _ _ _ _ _ _ _ _ _ _ _ _ _ _ _ h ho⟩
noncomputable def YN.l0 {β : Type} (k : Nat) (aF : LD) (K : Int → Option β) (L0 : (Int × Int) → Option β) (v : Int × Int) : Option β :=
 match v with
 | (aC, aH) => bif (decide ((aH : Int) < (aF.length : Int))) then (ZX aF aH fun c54 => Zd c54 fun d r => ZM .i64 d fun x57 => Zd r fun d r => Zan d fun x60 => Zd r fun d r => ZM .i64 d fun x63 => Zd r fun d r => ZM .i64 d fun x66 => Zd r fun d r => ZM .i64 d fun x69 => Zd r fun d r => ZaF d fun x72 => Zd r fun d r => dSl d fun x75 => Zd r fun d r => ZM .i64 d fun x78 => Zd r fun d r => Zan d fun x81 => Zd r fun d r => ZM .i64 d fun x84 => Zd r fun d r => dSl d fun x87 => Zd r fun d r => dSl d fun x90 => Zd r fun d r => ZM .i64 d fun x93 => Zd r fun d r => Zan d fun x96 => Zd r fun d r => ZM .i64 d fun x99 => Zd r fun d r => dSl d fun x102 => Zd r fun d r => dSl d fun x105 => Ze r (Yah.f k x57 x60 x63 x66 x69 x72 x75 x78 x81 x84 x87 x90 x93 x96 x99 x102 x105 aC (fun y106 => bif (decide ((y106 : Int) < 0)) then (K (-1)) else (L0 (y106, IntKind.wrap .i64 (aH + 1)))))) else (K aC)
noncomputable def YN.g {β : Type} (k : Nat) (a0 : LD) (a1 : Int) (K : Int → Option β) : Option β :=
 bif (decide (((IntKind.wrap .i64 (a1 - (a0.length : Int))) : Int) < 0)) then (K (-1)) else (Z4 (YN.l0 k a0 K) k (IntKind.wrap .i64 (a1 - (a0.length : Int)), 0))
noncomputable def YN.t (k : Nat) (a0 : LD) (a1 : Int) : Option (Int) := YN.g k a0 a1 (fun z0 => some z0)
noncomputable def YN.f {β : Type} (k : Nat) (a0 : LD) (a1 : Int) (K : Int → Option β) : Option β :=
 match YN.t k a0 a1 with
 | some z0 => K z0
 | none => none
noncomputable def YN.as (a0 : LD) (a1 : Int) : List A := [.d (.sl a0), .d (.int .i64 a1)]
noncomputable def YN.kt {β : Type} (a0 : LD) (a1 : Int) (K0 : LC → List Out → Option β) : Int → Option β := fun z0 => K0 [[.d (.int .i64 z0)]] []
noncomputable def YN.e (k : Nat) : ZQ := { modes := [(.imm, 0), (.imm, 0)], rts := [3], al := false, run := fun {β} l K => match l with | [.d (.sl a0), .d (.int .i64 a1)] => YN.f k a0 a1 (YN.kt a0 a1 K) | _ => none }
noncomputable def YN.E (k : Nat) : Env := fun g => bif g == 192 then some (Yah.e k) else none
noncomputable def YN.h : ZY := ⟨fun n => bif n == 5 then ⟨[(0, .asis), (1, .asis), (5, .asis)], []⟩ else ⟨[], []⟩, fun _ => none, false, []⟩
noncomputable def YN.s0 (aF : LD) (v : Int × Int) : St :=
 match v with
 | (aC, aH) => ⟨[.d false (.sl aF), .d true (.int .i64 aC), .any, .any, .any, .d true (.int .i64 aH), .any, .any, .any, .any, .any, .any, .any, .any, .any, .any, .any, .any, .any, .any, .any, .any, .any, .any, .any, .any, .any], []⟩
noncomputable def YN.b0 {β : Type} (k : Nat) : St → (Ex → St → Option β) → Option β := fun s K => den Try.prog (YN.E k) YN.h.H YN.h.J k (Zad [1, 1, 1, 0, 1, 0, 0] (Zl Try.f122)) s K
noncomputable def YN.c0 {β : Type} (k : Nat) (a0 : LD) (a1 : Int) (K0 : LC → List Out → Option β) : Ex → St → Option β := Zae Try.prog (YN.E k) YN.h k [1, 1, 1, 0, 1, 0] (Zl Try.f122) (Zak Try.prog Try.f122 YN.h (YN.as a0 a1) K0)
theorem YN.l0_eq {β : Type} (k : Nat) (a0 : LD) (a1 : Int) (K0 : LC → List Out → Option β) (aF : LD) : ∀ (kk : Nat) (v : Int × Int), Zx (YN.b0 k) (YN.h.H 5) kk (YN.s0 aF v) (YN.c0 k a0 a1 K0) = Z4 (YN.l0 k aF (YN.kt a0 a1 K0)) kk v :=
 Z9 (YN.s0 aF) _ (fun L0 v => by obtain ⟨aC, aH⟩ := v; kernel_rfl)
noncomputable def YN.m {β : Type} (k : Nat) (a0 : LD) (a1 : Int) (K0 : LC → List Out → Option β) (F : (LD → (Int × Int) → Option β)) : Option β :=
 bif (decide (((IntKind.wrap .i64 (a1 - (a0.length : Int))) : Int) < 0)) then ((YN.kt a0 a1 K0) (-1)) else ((F) a0 (IntKind.wrap .i64 (a1 - (a0.length : Int)), 0))
theorem YN.f_eq {β : Type} (k : Nat) (a0 : LD) (a1 : Int) (K0 : LC → List Out → Option β) : ZJ Try.prog (YN.E k) YN.h k Try.f122 (YN.as a0 a1) K0 = YN.g k a0 a1 (YN.kt a0 a1 K0) := Eq.trans (b := (YN.m k a0 a1 K0) (fun (aF : LD) (v : Int × Int) => Zx (YN.b0 k) (YN.h.H 5) k (YN.s0 aF v) (YN.c0 k a0 a1 K0))) (by kernel_rfl) (Eq.trans (congrArg (YN.m k a0 a1 K0) (funext fun aF => funext fun v => YN.l0_eq k a0 a1 K0 aF k v)) (by kernel_rfl))
noncomputable def YN.dec (rs : LC) (os : List Out) : Option (Int) := Zd rs fun c1 r2 => Zd c1 fun x3 l4 => cD x3 fun d5 => ZM .i64 d5 fun w0 => Ze l4 <| Ze r2 <| Ze os (some w0)
theorem YN.kt_dec (a0 : LD) (a1 : Int) : YN.kt a0 a1 YN.dec = (fun z0 => some z0) := by kernel_rfl
theorem YN.inj (a0 : LD) (a1 : Int) {rs : LC} {os : List Out} {z0 : Int} (h : YN.dec rs os = some z0) (ho : Zo (YN.as a0 a1) os) : rs = [[.d (.int .i64 z0)]] ∧ os = [] := by
 unfold YN.dec at h
 obtain ⟨c1, r2, rfl, h1⟩ := Zb h
 obtain ⟨x3, l4, rfl, h2⟩ := Zb h1
 obtain ⟨d5, rfl, h3⟩ := Zt h2
 obtain ⟨w0, rfl, h4⟩ := ZA h3
 obtain ⟨rfl, h5⟩ := Zc h4
 obtain ⟨rfl, h6⟩ := Zc h5
 obtain ⟨rfl, h7⟩ := Zc h6
 obtain rfl := Option.some.inj h7
 exact ⟨rfl, rfl⟩
theorem YN.ok (k : Nat) : Zv Try.prog 122 (YN.e k) := by
 refine Zu mix tyok (fn := Try.f122) (c := Zl Try.f122) Try.func122 (by kernel_rfl) (h := YN.h) (k := k) (E := YN.E k) (Zk (Yah.ok k) Zz) (by kernel_rfl) (by kernel_rfl) rfl (Zq Try.func122 (by kernel_rfl)) ?_
 intro β l K r hr
 simp only [YN.e] at hr
 split at hr
 case h_2 => cases hr
 unfold YN.f at hr
 split at hr
 case h_2 => cases hr
 rename_i hz
 exact ⟨_, _, hr, _, YN.dec, _, (YN.f_eq k _ _ YN.dec).trans (by rw [YN.kt_dec]; exact hz), fun rs os h ho => YN.inj _ _ h ho⟩
noncomputable def Y5.g {β : Type} (k : Nat) (aB : Int) (aA : Bool) (aE : Int) (aD : BA) (aG aT aM : Int) (aQ : Bool) (aI : LD) (aR : Int) (aJ : BA) (aN : Int) (aP aK : LD) (aS : Int) (aL : BA) (aO : Int) (bO bP : LD) (a1 : Int) (K : Int → Option β) : Option β :=
 Yah.f k aE aD aG aT aM aQ aI aR aJ aN aP aK aS aL aO bO bP a1 (fun y1 => bif (decide ((y1 : Int) < 0)) then (K (-1)) else (K y1))
noncomputable def Y5.t (k : Nat) (aB : Int) (aA : Bool) (aE : Int) (aD : BA) (aG aT aM : Int) (aQ : Bool) (aI : LD) (aR : Int) (aJ : BA) (aN : Int) (aP aK : LD) (aS : Int) (aL : BA) (aO : Int) (bO bP : LD) (a1 : Int) : Option (Int) := Y5.g k aB aA aE aD aG aT aM aQ aI aR aJ aN aP aK aS aL aO bO bP a1 (fun z0 => some z0)
noncomputable def Y5.f {β : Type} (k : Nat) (aB : Int) (aA : Bool) (aE : Int) (aD : BA) (aG aT aM : Int) (aQ : Bool) (aI : LD) (aR : Int) (aJ : BA) (aN : Int) (aP aK : LD) (aS : Int) (aL : BA) (aO : Int) (bO bP : LD) (a1 : Int) (K : Int → Option β) : Option β :=
 match Y5.t k aB aA aE aD aG aT aM aQ aI aR aJ aN aP aK aS aL aO bO bP a1 with
 | some z0 => K z0
 | none => none
noncomputable def Y5.as (aB : Int) (aA : Bool) (aE : Int) (aD : BA) (aG aT aM : Int) (aQ : Bool) (aI : LD) (aR : Int) (aJ : BA) (aN : Int) (aP aK : LD) (aS : Int) (aL : BA) (aO : Int) (bO bP : LD) (a1 : Int) : List A := [.agg [.int .i64 aB, .bool aA, .int .i64 aE, .str aD, .int .i64 aG, .int .i64 aT, .int .i64 aM, .bool aQ, .sl aI, .int .i64 aR, .str aJ, .int .i64 aN, .sl aP, .sl aK, .int .i64 aS, .str aL, .int .i64 aO, .sl bO, .sl bP], .d (.int .i64 a1)]
noncomputable def Y5.kt {β : Type} (aB : Int) (aA : Bool) (aE : Int) (aD : BA) (aG aT aM : Int) (aQ : Bool) (aI : LD) (aR : Int) (aJ : BA) (aN : Int) (aP aK : LD) (aS : Int) (aL : BA) (aO : Int) (bO bP : LD) (a1 : Int) (K0 : LC → List Out → Option β) : Int → Option β := fun z0 => K0 [[.d (.int .i64 z0)]] []
noncomputable def Y5.e (k : Nat) : ZQ := { modes := [(.imm, 0), (.imm, 0)], rts := [3], al := false, run := fun {β} l K => match l with | [.agg [.int .i64 aB, .bool aA, .int .i64 aE, .str aD, .int .i64 aG, .int .i64 aT, .int .i64 aM, .bool aQ, .sl aI, .int .i64 aR, .str aJ, .int .i64 aN, .sl aP, .sl aK, .int .i64 aS, .str aL, .int .i64 aO, .sl bO, .sl bP], .d (.int .i64 a1)] => Y5.f k aB aA aE aD aG aT aM aQ aI aR aJ aN aP aK aS aL aO bO bP a1 (Y5.kt aB aA aE aD aG aT aM aQ aI aR aJ aN aP aK aS aL aO bO bP a1 K) | _ => none }
noncomputable def Y5.E (k : Nat) : Env := fun g => bif g == 192 then some (Yah.e k) else none
noncomputable def Y5.h : ZY := ⟨fun n => ⟨[], []⟩, fun _ => none, false, []⟩
theorem Y5.f_eq {β : Type} (k : Nat) (aB : Int) (aA : Bool) (aE : Int) (aD : BA) (aG aT aM : Int) (aQ : Bool) (aI : LD) (aR : Int) (aJ : BA) (aN : Int) (aP aK : LD) (aS : Int) (aL : BA) (aO : Int) (bO bP : LD) (a1 : Int) (K0 : LC → List Out → Option β) : ZJ Try.prog (Y5.E k) Y5.h k Try.f201 (Y5.as aB aA aE aD aG aT aM aQ aI aR aJ aN aP aK aS aL aO bO bP a1) K0 = Y5.g k aB aA aE aD aG aT aM aQ aI aR aJ aN aP aK aS aL aO bO bP a1 (Y5.kt aB aA aE aD aG aT aM aQ aI aR aJ aN aP aK aS aL aO bO bP a1 K0) := by kernel_rfl
noncomputable def Y5.dec (rs : LC) (os : List Out) : Option (Int) := Zd rs fun c1 r2 => Zd c1 fun x3 l4 => cD x3 fun d5 => ZM .i64 d5 fun w0 => Ze l4 <| Ze r2 <| Ze os (some w0)
theorem Y5.kt_dec (aB : Int) (aA : Bool) (aE : Int) (aD : BA) (aG aT aM : Int) (aQ : Bool) (aI : LD) (aR : Int) (aJ : BA) (aN : Int) (aP aK : LD) (aS : Int) (aL : BA) (aO : Int) (bO bP : LD) (a1 : Int) : Y5.kt aB aA aE aD aG aT aM aQ aI aR aJ aN aP aK aS aL aO bO bP a1 Y5.dec = (fun z0 => some z0) := by kernel_rfl
theorem Y5.inj (aB : Int) (aA : Bool) (aE : Int) (aD : BA) (aG aT aM : Int) (aQ : Bool) (aI : LD) (aR : Int) (aJ : BA) (aN : Int) (aP aK : LD) (aS : Int) (aL : BA) (aO : Int) (bO bP : LD) (a1 : Int) {rs : LC} {os : List Out} {z0 : Int} (h : Y5.dec rs os = some z0) (ho : Zo (Y5.as aB aA aE aD aG aT aM aQ aI aR aJ aN aP aK aS aL aO bO bP a1) os) : rs = [[.d (.int .i64 z0)]] ∧ os = [] := by
 unfold Y5.dec at h
 obtain ⟨c1, r2, rfl, h1⟩ := Zb h
 obtain ⟨x3, l4, rfl, h2⟩ := Zb h1
 obtain ⟨d5, rfl, h3⟩ := Zt h2
 obtain ⟨w0, rfl, h4⟩ := ZA h3
 obtain ⟨rfl, h5⟩ := Zc h4
 obtain ⟨rfl, h6⟩ := Zc h5
 obtain ⟨rfl, h7⟩ := Zc h6
 obtain rfl := Option.some.inj h7
 exact ⟨rfl, rfl⟩
theorem Y5.ok (k : Nat) : Zv Try.prog 201 (Y5.e k) := by
 refine Zu mix tyok (fn := Try.f201) (c := Zl Try.f201) Try.func201 (by kernel_rfl) (h := Y5.h) (k := k) (E := Y5.E k) (Zk (Yah.ok k) Zz) (by kernel_rfl) (by kernel_rfl) rfl (Zq Try.func201 (by kernel_rfl)) ?_
 intro β l K r hr
 simp only [Y5.e] at hr
 split at hr
 case h_2 => cases hr
 unfold Y5.f at hr
 split at hr
 case h_2 => cases hr
 rename_i hz
 exact ⟨_, _, hr, _, Y5.dec, _, (Y5.f_eq k _ _ _ _ _ _ _ _ _ _ _ _ _ _ _ _ _ _ _ _ Y5.dec).trans (by rw [Y5.kt_dec]; exact hz), fun rs os h ho => Y5.inj _ _ _ _ _ _ _ _ _ _ _ _ _ _ _ _ _ _ _ _ h ho⟩
noncomputable def Yw.l0 {β : Type} (k : Nat) (aF : LD) (K : Int → Option β) (L0 : (Int × Int) → Option β) (v : Int × Int) : Option β :=
 match v with
 | (aC, aH) => bif (decide ((aH : Int) < (aF.length : Int))) then (ZX aF aH fun c60 => Zd c60 fun d r => ZM .i64 d fun x63 => Zd r fun d r => ZaF d fun x66 => Zd r fun d r => ZM .i64 d fun x69 => Zd r fun d r => Zan d fun x72 => Zd r fun d r => ZM .i64 d fun x75 => Zd r fun d r => ZM .i64 d fun x78 => Zd r fun d r => ZM .i64 d fun x81 => Zd r fun d r => ZaF d fun x84 => Zd r fun d r => dSl d fun x87 => Zd r fun d r => ZM .i64 d fun x90 => Zd r fun d r => Zan d fun x93 => Zd r fun d r => ZM .i64 d fun x96 => Zd r fun d r => dSl d fun x99 => Zd r fun d r => dSl d fun x102 => Zd r fun d r => ZM .i64 d fun x105 => Zd r fun d r => Zan d fun x108 => Zd r fun d r => ZM .i64 d fun x111 => Zd r fun d r => dSl d fun x114 => Zd r fun d r => dSl d fun x117 => Ze r (Y5.f k x63 x66 x69 x72 x75 x78 x81 x84 x87 x90 x93 x96 x99 x102 x105 x108 x111 x114 x117 aC (fun y118 => bif (decide ((y118 : Int) < 0)) then (K (-1)) else (L0 (y118, IntKind.wrap .i64 (aH + 1)))))) else (K aC)
noncomputable def Yw.g {β : Type} (k : Nat) (a0 : LD) (a1 : Int) (K : Int → Option β) : Option β :=
 bif (decide (((IntKind.wrap .i64 (a1 - (a0.length : Int))) : Int) < 0)) then (K (-1)) else (Z4 (Yw.l0 k a0 K) k (IntKind.wrap .i64 (a1 - (a0.length : Int)), 0))
noncomputable def Yw.t (k : Nat) (a0 : LD) (a1 : Int) : Option (Int) := Yw.g k a0 a1 (fun z0 => some z0)
noncomputable def Yw.f {β : Type} (k : Nat) (a0 : LD) (a1 : Int) (K : Int → Option β) : Option β :=
 match Yw.t k a0 a1 with
 | some z0 => K z0
 | none => none
noncomputable def Yw.as (a0 : LD) (a1 : Int) : List A := [.d (.sl a0), .d (.int .i64 a1)]
noncomputable def Yw.kt {β : Type} (a0 : LD) (a1 : Int) (K0 : LC → List Out → Option β) : Int → Option β := fun z0 => K0 [[.d (.int .i64 z0)]] []
noncomputable def Yw.e (k : Nat) : ZQ := { modes := [(.imm, 0), (.imm, 0)], rts := [3], al := false, run := fun {β} l K => match l with | [.d (.sl a0), .d (.int .i64 a1)] => Yw.f k a0 a1 (Yw.kt a0 a1 K) | _ => none }
noncomputable def Yw.E (k : Nat) : Env := fun g => bif g == 201 then some (Y5.e k) else none
noncomputable def Yw.h : ZY := ⟨fun n => bif n == 5 then ⟨[(0, .asis), (1, .asis), (5, .asis)], []⟩ else ⟨[], []⟩, fun _ => none, false, []⟩
noncomputable def Yw.s0 (aF : LD) (v : Int × Int) : St :=
 match v with
 | (aC, aH) => ⟨[.d false (.sl aF), .d true (.int .i64 aC), .any, .any, .any, .d true (.int .i64 aH), .any, .any, .any, .any, .any, .any, .any, .any, .any, .any, .any, .any, .any, .any, .any, .any, .any, .any, .any, .any, .any], []⟩
noncomputable def Yw.b0 {β : Type} (k : Nat) : St → (Ex → St → Option β) → Option β := fun s K => den Try.prog (Yw.E k) Yw.h.H Yw.h.J k (Zad [1, 1, 1, 0, 1, 0, 0] (Zl Try.f129)) s K
noncomputable def Yw.c0 {β : Type} (k : Nat) (a0 : LD) (a1 : Int) (K0 : LC → List Out → Option β) : Ex → St → Option β := Zae Try.prog (Yw.E k) Yw.h k [1, 1, 1, 0, 1, 0] (Zl Try.f129) (Zak Try.prog Try.f129 Yw.h (Yw.as a0 a1) K0)
theorem Yw.l0_eq {β : Type} (k : Nat) (a0 : LD) (a1 : Int) (K0 : LC → List Out → Option β) (aF : LD) : ∀ (kk : Nat) (v : Int × Int), Zx (Yw.b0 k) (Yw.h.H 5) kk (Yw.s0 aF v) (Yw.c0 k a0 a1 K0) = Z4 (Yw.l0 k aF (Yw.kt a0 a1 K0)) kk v :=
 Z9 (Yw.s0 aF) _ (fun L0 v => by obtain ⟨aC, aH⟩ := v; kernel_rfl)
noncomputable def Yw.m {β : Type} (k : Nat) (a0 : LD) (a1 : Int) (K0 : LC → List Out → Option β) (F : (LD → (Int × Int) → Option β)) : Option β :=
 bif (decide (((IntKind.wrap .i64 (a1 - (a0.length : Int))) : Int) < 0)) then ((Yw.kt a0 a1 K0) (-1)) else ((F) a0 (IntKind.wrap .i64 (a1 - (a0.length : Int)), 0))
theorem Yw.f_eq {β : Type} (k : Nat) (a0 : LD) (a1 : Int) (K0 : LC → List Out → Option β) : ZJ Try.prog (Yw.E k) Yw.h k Try.f129 (Yw.as a0 a1) K0 = Yw.g k a0 a1 (Yw.kt a0 a1 K0) := Eq.trans (b := (Yw.m k a0 a1 K0) (fun (aF : LD) (v : Int × Int) => Zx (Yw.b0 k) (Yw.h.H 5) k (Yw.s0 aF v) (Yw.c0 k a0 a1 K0))) (by kernel_rfl) (Eq.trans (congrArg (Yw.m k a0 a1 K0) (funext fun aF => funext fun v => Yw.l0_eq k a0 a1 K0 aF k v)) (by kernel_rfl))
noncomputable def Yw.dec (rs : LC) (os : List Out) : Option (Int) := Zd rs fun c1 r2 => Zd c1 fun x3 l4 => cD x3 fun d5 => ZM .i64 d5 fun w0 => Ze l4 <| Ze r2 <| Ze os (some w0)
theorem Yw.kt_dec (a0 : LD) (a1 : Int) : Yw.kt a0 a1 Yw.dec = (fun z0 => some z0) := by kernel_rfl
theorem Yw.inj (a0 : LD) (a1 : Int) {rs : LC} {os : List Out} {z0 : Int} (h : Yw.dec rs os = some z0) (ho : Zo (Yw.as a0 a1) os) : rs = [[.d (.int .i64 z0)]] ∧ os = [] := by
 unfold Yw.dec at h
 obtain ⟨c1, r2, rfl, h1⟩ := Zb h
 obtain ⟨x3, l4, rfl, h2⟩ := Zb h1
 obtain ⟨d5, rfl, h3⟩ := Zt h2
 obtain ⟨w0, rfl, h4⟩ := ZA h3
 obtain ⟨rfl, h5⟩ := Zc h4
 obtain ⟨rfl, h6⟩ := Zc h5
 obtain ⟨rfl, h7⟩ := Zc h6
 obtain rfl := Option.some.inj h7
 exact ⟨rfl, rfl⟩
theorem Yw.ok (k : Nat) : Zv Try.prog 129 (Yw.e k) := by
 refine Zu mix tyok (fn := Try.f129) (c := Zl Try.f129) Try.func129 (by kernel_rfl) (h := Yw.h) (k := k) (E := Yw.E k) (Zk (Y5.ok k) Zz) (by kernel_rfl) (by kernel_rfl) rfl (Zq Try.func129 (by kernel_rfl)) ?_
 intro β l K r hr
 simp only [Yw.e] at hr
 split at hr
 case h_2 => cases hr
 unfold Yw.f at hr
 split at hr
 case h_2 => cases hr
 rename_i hz
 exact ⟨_, _, hr, _, Yw.dec, _, (Yw.f_eq k _ _ Yw.dec).trans (by rw [Yw.kt_dec]; exact hz), fun rs os h ho => Yw.inj _ _ h ho⟩
noncomputable def Yac.g {β : Type} (k : Nat) (aB : LD) (aA aE : Int) (aD : LD) (a1 : Int) (K : Int → Option β) : Option β :=
 YN.f k aB a1 (fun y107 => bif (decide ((y107 : Int) < 0)) then (K (-1)) else (Yw.f k aD y107 (fun y119 => bif (decide ((y119 : Int) < 0)) then (K (-1)) else (K y119))))
noncomputable def Yac.t (k : Nat) (aB : LD) (aA aE : Int) (aD : LD) (a1 : Int) : Option (Int) := Yac.g k aB aA aE aD a1 (fun z0 => some z0)
noncomputable def Yac.f {β : Type} (k : Nat) (aB : LD) (aA aE : Int) (aD : LD) (a1 : Int) (K : Int → Option β) : Option β :=
 match Yac.t k aB aA aE aD a1 with
 | some z0 => K z0
 | none => none
noncomputable def Yac.as (aB : LD) (aA aE : Int) (aD : LD) (a1 : Int) : List A := [.agg [.sl aB, .int .i64 aA, .int .i64 aE, .sl aD], .d (.int .i64 a1)]
noncomputable def Yac.kt {β : Type} (aB : LD) (aA aE : Int) (aD : LD) (a1 : Int) (K0 : LC → List Out → Option β) : Int → Option β := fun z0 => K0 [[.d (.int .i64 z0)]] []
noncomputable def Yac.e (k : Nat) : ZQ := { modes := [(.imm, 0), (.imm, 0)], rts := [3], al := false, run := fun {β} l K => match l with | [.agg [.sl aB, .int .i64 aA, .int .i64 aE, .sl aD], .d (.int .i64 a1)] => Yac.f k aB aA aE aD a1 (Yac.kt aB aA aE aD a1 K) | _ => none }
noncomputable def Yac.E (k : Nat) : Env := fun g => bif g == 122 then some (YN.e k) else bif g == 129 then some (Yw.e k) else none
noncomputable def Yac.h : ZY := ⟨fun n => ⟨[], []⟩, fun _ => none, false, []⟩
theorem Yac.f_eq {β : Type} (k : Nat) (aB : LD) (aA aE : Int) (aD : LD) (a1 : Int) (K0 : LC → List Out → Option β) : ZJ Try.prog (Yac.E k) Yac.h k Try.f49 (Yac.as aB aA aE aD a1) K0 = Yac.g k aB aA aE aD a1 (Yac.kt aB aA aE aD a1 K0) := by kernel_rfl
noncomputable def Yac.dec (rs : LC) (os : List Out) : Option (Int) := Zd rs fun c1 r2 => Zd c1 fun x3 l4 => cD x3 fun d5 => ZM .i64 d5 fun w0 => Ze l4 <| Ze r2 <| Ze os (some w0)
theorem Yac.kt_dec (aB : LD) (aA aE : Int) (aD : LD) (a1 : Int) : Yac.kt aB aA aE aD a1 Yac.dec = (fun z0 => some z0) := by kernel_rfl
theorem Yac.inj (aB : LD) (aA aE : Int) (aD : LD) (a1 : Int) {rs : LC} {os : List Out} {z0 : Int} (h : Yac.dec rs os = some z0) (ho : Zo (Yac.as aB aA aE aD a1) os) : rs = [[.d (.int .i64 z0)]] ∧ os = [] := by
 unfold Yac.dec at h
 obtain ⟨c1, r2, rfl, h1⟩ := Zb h
 obtain ⟨x3, l4, rfl, h2⟩ := Zb h1
 obtain ⟨d5, rfl, h3⟩ := Zt h2
 obtain ⟨w0, rfl, h4⟩ := ZA h3
 obtain ⟨rfl, h5⟩ := Zc h4
 obtain ⟨rfl, h6⟩ := Zc h5
 obtain ⟨rfl, h7⟩ := Zc h6
 obtain rfl := Option.some.inj h7
 exact ⟨rfl, rfl⟩
theorem Yac.ok (k : Nat) : Zv Try.prog 49 (Yac.e k) := by
 refine Zu mix tyok (fn := Try.f49) (c := Zl Try.f49) Try.func49 (by kernel_rfl) (h := Yac.h) (k := k) (E := Yac.E k) (Zk (YN.ok k) (Zk (Yw.ok k) Zz)) (by kernel_rfl) (by kernel_rfl) rfl (Zq Try.func49 (by kernel_rfl)) ?_
 intro β l K r hr
 simp only [Yac.e] at hr
 split at hr
 case h_2 => cases hr
 unfold Yac.f at hr
 split at hr
 case h_2 => cases hr
 rename_i hz
 exact ⟨_, _, hr, _, Yac.dec, _, (Yac.f_eq k _ _ _ _ _ Yac.dec).trans (by rw [Yac.kt_dec]; exact hz), fun rs os h ho => Yac.inj _ _ _ _ _ h ho⟩
noncomputable def Yt.l0 {β : Type} (k : Nat) (aF : LD) (K : LC → Option β) (L0 : (Int × LC) → Option β) (v : Int × LC) : Option β :=
 match v with
 | (aC, aH) => bif (decide ((aC : Int) < (aF.length : Int))) then (ZX aF aC fun c5 => Zd c5 fun d r => Zan d fun x8 => Ze r (ZH ((0 : Int) ≤ aC ∧ aC < (aH.length : Int)) (ZH (Int.toNat aC < aH.length) (L0 (IntKind.wrap .i64 (aC + 1), aH.modify (Int.toNat aC) fun c => Z1 c 0 [.d (.str x8)]))))) else (K aH)
noncomputable def Yt.g {β : Type} (k : Nat) (a0 : LD) (K : LC → Option β) : Option β :=
 ZH ((0 : Int) ≤ (a0.length : Int) ∧ (a0.length : Int) ≤ (Z6 : Int) ∧ (a0.length : Int) ≤ (a0.length : Int) ∧ (a0.length : Int) ≤ (a0.length : Int)) (Z4 (Yt.l0 k a0 K) k (0, List.replicate (Int.toNat (a0.length : Int)) ([.d (.str (⟨#[]⟩ : BA))] : List C)))
noncomputable def Yt.t (k : Nat) (a0 : LD) : Option (LC) := Yt.g k a0 (fun z0 => some z0)
noncomputable def Yt.f {β : Type} (k : Nat) (a0 : LD) (K : LC → Option β) : Option β :=
 match Yt.t k a0 with
 | some z0 => K z0
 | none => none
noncomputable def Yt.as (a0 : LD) : List A := [.d (.sl a0)]
noncomputable def Yt.kt {β : Type} (a0 : LD) (K0 : LC → List Out → Option β) : LC → Option β := fun z0 => K0 [[.own z0]] []
noncomputable def Yt.e (k : Nat) : ZQ := { modes := [(.imm, 0)], rts := [25], al := false, run := fun {β} l K => match l with | [.d (.sl a0)] => Yt.f k a0 (Yt.kt a0 K) | _ => none }
noncomputable def Yt.E (k : Nat) : Env := fun g => none
noncomputable def Yt.h : ZY := ⟨fun n => bif n == 3 then ⟨[(0, .asis), (3, .asis), (4, .asis)], []⟩ else ⟨[], []⟩, fun _ => none, false, []⟩
noncomputable def Yt.s0 (aF : LD) (v : Int × LC) : St :=
 match v with
 | (aC, aH) => ⟨[.d false (.sl aF), .any, .any, .row 0, .d true (.int .i64 aC), .any, .any, .any, .any, .any, .any, .any, .any, .any, .any, .any, .any, .any, .any, .any, .any, .any], [.row none true 25 aH]⟩
noncomputable def Yt.b0 {β : Type} (k : Nat) : St → (Ex → St → Option β) → Option β := fun s K => den Try.prog (Yt.E k) Yt.h.H Yt.h.J k (Zad [1, 1, 0, 1, 0, 0] (Zl Try.f78)) s K
noncomputable def Yt.c0 {β : Type} (k : Nat) (a0 : LD) (K0 : LC → List Out → Option β) : Ex → St → Option β := Zae Try.prog (Yt.E k) Yt.h k [1, 1, 0, 1, 0] (Zl Try.f78) (Zak Try.prog Try.f78 Yt.h (Yt.as a0) K0)
theorem Yt.l0_eq {β : Type} (k : Nat) (a0 : LD) (K0 : LC → List Out → Option β) (aF : LD) : ∀ (kk : Nat) (v : Int × LC), Zx (Yt.b0 k) (Yt.h.H 3) kk (Yt.s0 aF v) (Yt.c0 k a0 K0) = Z4 (Yt.l0 k aF (Yt.kt a0 K0)) kk v :=
 Z9 (Yt.s0 aF) _ (fun L0 v => by obtain ⟨aC, aH⟩ := v; kernel_rfl)
noncomputable def Yt.m {β : Type} (k : Nat) (a0 : LD) (K0 : LC → List Out → Option β) (F : (LD → (Int × LC) → Option β)) : Option β :=
 ZH ((0 : Int) ≤ (a0.length : Int) ∧ (a0.length : Int) ≤ (Z6 : Int) ∧ (a0.length : Int) ≤ (a0.length : Int) ∧ (a0.length : Int) ≤ (a0.length : Int)) ((F) a0 (0, List.replicate (Int.toNat (a0.length : Int)) ([.d (.str (⟨#[]⟩ : BA))] : List C)))
theorem Yt.f_eq {β : Type} (k : Nat) (a0 : LD) (K0 : LC → List Out → Option β) : ZJ Try.prog (Yt.E k) Yt.h k Try.f78 (Yt.as a0) K0 = Yt.g k a0 (Yt.kt a0 K0) := Eq.trans (b := (Yt.m k a0 K0) (fun (aF : LD) (v : Int × LC) => Zx (Yt.b0 k) (Yt.h.H 3) k (Yt.s0 aF v) (Yt.c0 k a0 K0))) (by kernel_rfl) (Eq.trans (congrArg (Yt.m k a0 K0) (funext fun aF => funext fun v => Yt.l0_eq k a0 K0 aF k v)) (by kernel_rfl))
noncomputable def Yt.dec (rs : LC) (os : List Out) : Option (LC) := Zd rs fun c1 r2 => Zd c1 fun x3 l4 => ZaU x3 fun w0 => Ze l4 <| Ze r2 <| Ze os (some w0)
theorem Yt.kt_dec (a0 : LD) : Yt.kt a0 Yt.dec = (fun z0 => some z0) := by kernel_rfl
theorem Yt.inj (a0 : LD) {rs : LC} {os : List Out} {z0 : LC} (h : Yt.dec rs os = some z0) (ho : Zo (Yt.as a0) os) : rs = [[.own z0]] ∧ os = [] := by
 unfold Yt.dec at h
 obtain ⟨c1, r2, rfl, h1⟩ := Zb h
 obtain ⟨x3, l4, rfl, h2⟩ := Zb h1
 obtain ⟨w0, rfl, h3⟩ := ZN h2
 obtain ⟨rfl, h4⟩ := Zc h3
 obtain ⟨rfl, h5⟩ := Zc h4
 obtain ⟨rfl, h6⟩ := Zc h5
 obtain rfl := Option.some.inj h6
 exact ⟨rfl, rfl⟩
theorem Yt.ok (k : Nat) : Zv Try.prog 78 (Yt.e k) := by
 refine Zu mix tyok (fn := Try.f78) (c := Zl Try.f78) Try.func78 (by kernel_rfl) (h := Yt.h) (k := k) (E := Yt.E k) Zz (by kernel_rfl) (by kernel_rfl) rfl (Zq Try.func78 (by kernel_rfl)) ?_
 intro β l K r hr
 simp only [Yt.e] at hr
 split at hr
 case h_2 => cases hr
 unfold Yt.f at hr
 split at hr
 case h_2 => cases hr
 rename_i hz
 exact ⟨_, _, hr, _, Yt.dec, _, (Yt.f_eq k _ Yt.dec).trans (by rw [Yt.kt_dec]; exact hz), fun rs os h ho => Yt.inj _ h ho⟩
noncomputable def Yo.l0 {β : Type} (k : Nat) (r_laws_toValueS : LD → (LC → Option β) → Option β) (r_laws_toValue : Int → BA → Int → LD → LD → (Int → BA → Int → LC → LC → Option β) → Option β) (aF : LD) (K : LC → Option β) (L0 : (Int × LC) → Option β) (v : Int × LC) : Option β :=
 match v with
 | (aC, aH) => bif (decide ((aC : Int) < (aF.length : Int))) then (ZX aF aC fun c22 => Zd c22 fun d r => ZM .i64 d fun x25 => Zd r fun d r => Zan d fun x28 => Zd r fun d r => ZM .i64 d fun x31 => Zd r fun d r => dSl d fun x34 => Zd r fun d r => dSl d fun x37 => Ze r (r_laws_toValue x25 x28 x31 x34 x37 (fun y38 y39 y40 y41 y42 => ZH ((0 : Int) ≤ aC ∧ aC < (aH.length : Int)) (ZH (Int.toNat aC < aH.length) (L0 (IntKind.wrap .i64 (aC + 1), aH.modify (Int.toNat aC) fun c => Z1 c 0 [.d (.int .i64 y38), .d (.str y39), .d (.int .i64 y40), .own y41, .own y42])))))) else (K aH)
noncomputable def Yo.body {β : Type} (k : Nat) (r_laws_toValueS : LD → (LC → Option β) → Option β) (r_laws_toValue : Int → BA → Int → LD → LD → (Int → BA → Int → LC → LC → Option β) → Option β) (a0 : LD) (K : LC → Option β) : Option β :=
 ZH ((0 : Int) ≤ (a0.length : Int) ∧ (a0.length : Int) ≤ (Z6 : Int) ∧ (a0.length : Int) ≤ (a0.length : Int) ∧ (a0.length : Int) ≤ (a0.length : Int)) (Z4 (Yo.l0 k r_laws_toValueS r_laws_toValue a0 K) k (0, List.replicate (Int.toNat (a0.length : Int)) ([.d (.int .i64 0), .d (.str (⟨#[]⟩ : BA)), .d (.int .i64 0), .own ([] : LC), .own ([] : LC)] : List C)))
noncomputable def YH.body {β : Type} (k : Nat) (r_laws_toValueS : LD → (LC → Option β) → Option β) (r_laws_toValue : Int → BA → Int → LD → LD → (Int → BA → Int → LC → LC → Option β) → Option β) (aB : Int) (aA : BA) (aE : Int) (aD aG : LD) (K : Int → BA → Int → LC → LC → Option β) : Option β :=
 Yt.f k aD (fun y1 => r_laws_toValueS aG (fun y43 => K aB aA aE y1 y43))
noncomputable def Yo.w {β : Type} (r : LD → Option (LC)) (a0 : LD) (K : LC → Option β) : Option β :=
 match r a0 with
 | some z0 => K z0
 | none => none
noncomputable def YH.w {β : Type} (r : Int → BA → Int → LD → LD → Option (Int × BA × Int × LC × LC)) (aB : Int) (aA : BA) (aE : Int) (aD aG : LD) (K : Int → BA → Int → LC → LC → Option β) : Option β :=
 match r aB aA aE aD aG with
 | some (z0, z1, z2, z3, z4) => K z0 z1 z2 z3 z4
 | none => none
noncomputable def Yo.all : Nat → (LD → Option (LC)) × (Int → BA → Int → LD → LD → Option (Int × BA × Int × LC × LC))
 | 0 => (fun _ => none, fun _ _ _ _ _ => none)
 | k + 1 => (fun r => (fun a0 => Yo.body k (Yo.w r.1) (YH.w r.2) a0 (fun z0 => some z0), fun aB aA aE aD aG => YH.body k (Yo.w r.1) (YH.w r.2) aB aA aE aD aG (fun z0 z1 z2 z3 z4 => some (z0, z1, z2, z3, z4)))) (Yo.all k)
noncomputable def Yo.t (k : Nat) (a0 : LD) : Option (LC) := (Yo.all k).1 a0
noncomputable def YH.t (k : Nat) (aB : Int) (aA : BA) (aE : Int) (aD aG : LD) : Option (Int × BA × Int × LC × LC) := (Yo.all k).2 aB aA aE aD aG
noncomputable def Yo.f {β : Type} (k : Nat) (a0 : LD) (K : LC → Option β) : Option β := Yo.w (Yo.t k) a0 K
noncomputable def YH.f {β : Type} (k : Nat) (aB : Int) (aA : BA) (aE : Int) (aD aG : LD) (K : Int → BA → Int → LC → LC → Option β) : Option β := YH.w (YH.t k) aB aA aE aD aG K
noncomputable def Yo.g {β : Type} (k : Nat) (a0 : LD) (K : LC → Option β) : Option β := Yo.body k (Yo.f k) (YH.f k) a0 K
theorem Yo.t_zero (a0 : LD) : Yo.t 0 a0 = none := rfl
theorem Yo.t_succ (k : Nat) (a0 : LD) : Yo.t (k + 1) a0 = Yo.g k a0 (fun z0 => some z0) := rfl
noncomputable def YH.g {β : Type} (k : Nat) (aB : Int) (aA : BA) (aE : Int) (aD aG : LD) (K : Int → BA → Int → LC → LC → Option β) : Option β := YH.body k (Yo.f k) (YH.f k) aB aA aE aD aG K
theorem YH.t_zero (aB : Int) (aA : BA) (aE : Int) (aD aG : LD) : YH.t 0 aB aA aE aD aG = none := rfl
theorem YH.t_succ (k : Nat) (aB : Int) (aA : BA) (aE : Int) (aD aG : LD) : YH.t (k + 1) aB aA aE aD aG = YH.g k aB aA aE aD aG (fun z0 z1 z2 z3 z4 => some (z0, z1, z2, z3, z4)) := rfl
noncomputable def Yo.as (a0 : LD) : List A := [.d (.sl a0)]
noncomputable def Yo.kt {β : Type} (a0 : LD) (K0 : LC → List Out → Option β) : LC → Option β := fun z0 => K0 [[.own z0]] []
noncomputable def Yo.e (k : Nat) : ZQ := { modes := [(.imm, 0)], rts := [149], al := false, run := fun {β} l K => match l with | [.d (.sl a0)] => Yo.f k a0 (Yo.kt a0 K) | _ => none }
noncomputable def YH.as (aB : Int) (aA : BA) (aE : Int) (aD aG : LD) : List A := [.agg [.int .i64 aB, .str aA, .int .i64 aE, .sl aD, .sl aG]]
noncomputable def YH.kt {β : Type} (aB : Int) (aA : BA) (aE : Int) (aD aG : LD) (K0 : LC → List Out → Option β) : Int → BA → Int → LC → LC → Option β := fun z0 z1 z2 z3 z4 => K0 [[.d (.int .i64 z0), .d (.str z1), .d (.int .i64 z2), .own z3, .own z4]] []
noncomputable def YH.e (k : Nat) : ZQ := { modes := [(.imm, 0)], rts := [151], al := false, run := fun {β} l K => match l with | [.agg [.int .i64 aB, .str aA, .int .i64 aE, .sl aD, .sl aG]] => YH.f k aB aA aE aD aG (YH.kt aB aA aE aD aG K) | _ => none }
noncomputable def Yo.E (k : Nat) : Env := fun g => bif g == 183 then some (YH.e k) else none
noncomputable def Yo.h : ZY := ⟨fun n => bif n == 3 then ⟨[(0, .asis), (3, .asis), (4, .asis)], []⟩ else ⟨[], []⟩, fun _ => none, false, []⟩
noncomputable def Yo.s0 (aF : LD) (v : Int × LC) : St :=
 match v with
 | (aC, aH) => ⟨[.d false (.sl aF), .any, .any, .row 0, .d true (.int .i64 aC), .any, .any, .any, .any, .any, .any, .any, .any, .any, .any, .any, .any, .any, .any, .any, .any, .any, .any], [.row none true 149 aH]⟩
noncomputable def Yo.b0 {β : Type} (k : Nat) : St → (Ex → St → Option β) → Option β := fun s K => den Try.prog (Yo.E k) Yo.h.H Yo.h.J k (Zad [1, 1, 0, 1, 0, 0] (Zl Try.f224)) s K
noncomputable def Yo.c0 {β : Type} (k : Nat) (a0 : LD) (K0 : LC → List Out → Option β) : Ex → St → Option β := Zae Try.prog (Yo.E k) Yo.h k [1, 1, 0, 1, 0] (Zl Try.f224) (Zak Try.prog Try.f224 Yo.h (Yo.as a0) K0)
theorem Yo.l0_eq {β : Type} (k : Nat) (a0 : LD) (K0 : LC → List Out → Option β) (aF : LD) : ∀ (kk : Nat) (v : Int × LC), Zx (Yo.b0 k) (Yo.h.H 3) kk (Yo.s0 aF v) (Yo.c0 k a0 K0) = Z4 (Yo.l0 k (Yo.f k) (YH.f k) aF (Yo.kt a0 K0)) kk v :=
 Z9 (Yo.s0 aF) _ (fun L0 v => by obtain ⟨aC, aH⟩ := v; kernel_rfl)
noncomputable def Yo.m {β : Type} (k : Nat) (a0 : LD) (K0 : LC → List Out → Option β) (F : (LD → (Int × LC) → Option β)) : Option β :=
 ZH ((0 : Int) ≤ (a0.length : Int) ∧ (a0.length : Int) ≤ (Z6 : Int) ∧ (a0.length : Int) ≤ (a0.length : Int) ∧ (a0.length : Int) ≤ (a0.length : Int)) ((F) a0 (0, List.replicate (Int.toNat (a0.length : Int)) ([.d (.int .i64 0), .d (.str (⟨#[]⟩ : BA)), .d (.int .i64 0), .own ([] : LC), .own ([] : LC)] : List C)))
theorem Yo.f_eq {β : Type} (k : Nat) (a0 : LD) (K0 : LC → List Out → Option β) : ZJ Try.prog (Yo.E k) Yo.h k Try.f224 (Yo.as a0) K0 = Yo.g k a0 (Yo.kt a0 K0) := Eq.trans (b := (Yo.m k a0 K0) (fun (aF : LD) (v : Int × LC) => Zx (Yo.b0 k) (Yo.h.H 3) k (Yo.s0 aF v) (Yo.c0 k a0 K0))) (by kernel_rfl) (Eq.trans (congrArg (Yo.m k a0 K0) (funext fun aF => funext fun v => Yo.l0_eq k a0 K0 aF k v)) (by kernel_rfl))
noncomputable def YH.E (k : Nat) : Env := fun g => bif g == 78 then some (Yt.e k) else bif g == 224 then some (Yo.e k) else none
noncomputable def YH.h : ZY := ⟨fun n => ⟨[], []⟩, fun _ => none, false, []⟩
theorem YH.f_eq {β : Type} (k : Nat) (aB : Int) (aA : BA) (aE : Int) (aD aG : LD) (K0 : LC → List Out → Option β) : ZJ Try.prog (YH.E k) YH.h k Try.f183 (YH.as aB aA aE aD aG) K0 = YH.g k aB aA aE aD aG (YH.kt aB aA aE aD aG K0) := by kernel_rfl
noncomputable def Yo.dec (rs : LC) (os : List Out) : Option (LC) := Zd rs fun c1 r2 => Zd c1 fun x3 l4 => ZaU x3 fun w0 => Ze l4 <| Ze r2 <| Ze os (some w0)
theorem Yo.kt_dec (a0 : LD) : Yo.kt a0 Yo.dec = (fun z0 => some z0) := by kernel_rfl
theorem Yo.inj (a0 : LD) {rs : LC} {os : List Out} {z0 : LC} (h : Yo.dec rs os = some z0) (ho : Zo (Yo.as a0) os) : rs = [[.own z0]] ∧ os = [] := by
 unfold Yo.dec at h
 obtain ⟨c1, r2, rfl, h1⟩ := Zb h
 obtain ⟨x3, l4, rfl, h2⟩ := Zb h1
 obtain ⟨w0, rfl, h3⟩ := ZN h2
 obtain ⟨rfl, h4⟩ := Zc h3
 obtain ⟨rfl, h5⟩ := Zc h4
 obtain ⟨rfl, h6⟩ := Zc h5
 obtain rfl := Option.some.inj h6
 exact ⟨rfl, rfl⟩
noncomputable def YH.dec (rs : LC) (os : List Out) : Option (Int × BA × Int × LC × LC) := Zd rs fun c1 r2 => Zd c1 fun x3 l4 => cD x3 fun d5 => ZM .i64 d5 fun w0 => Zd l4 fun x6 l7 => cD x6 fun d8 => Zan d8 fun w1 => Zd l7 fun x9 l10 => cD x9 fun d11 => ZM .i64 d11 fun w2 => Zd l10 fun x12 l13 => ZaU x12 fun w3 => Zd l13 fun x14 l15 => ZaU x14 fun w4 => Ze l15 <| Ze r2 <| Ze os (some (w0, w1, w2, w3, w4))
theorem YH.kt_dec (aB : Int) (aA : BA) (aE : Int) (aD aG : LD) : YH.kt aB aA aE aD aG YH.dec = (fun z0 z1 z2 z3 z4 => some (z0, z1, z2, z3, z4)) := by kernel_rfl
theorem YH.inj (aB : Int) (aA : BA) (aE : Int) (aD aG : LD) {rs : LC} {os : List Out} {z0 : Int} {z1 : BA} {z2 : Int} {z3 z4 : LC} (h : YH.dec rs os = some (z0, z1, z2, z3, z4)) (ho : Zo (YH.as aB aA aE aD aG) os) : rs = [[.d (.int .i64 z0), .d (.str z1), .d (.int .i64 z2), .own z3, .own z4]] ∧ os = [] := by
 unfold YH.dec at h
 obtain ⟨c1, r2, rfl, h1⟩ := Zb h
 obtain ⟨x3, l4, rfl, h2⟩ := Zb h1
 obtain ⟨d5, rfl, h3⟩ := Zt h2
 obtain ⟨w0, rfl, h4⟩ := ZA h3
 obtain ⟨x6, l7, rfl, h5⟩ := Zb h4
 obtain ⟨d8, rfl, h6⟩ := Zt h5
 obtain ⟨w1, rfl, h7⟩ := ZaL h6
 obtain ⟨x9, l10, rfl, h8⟩ := Zb h7
 obtain ⟨d11, rfl, h9⟩ := Zt h8
 obtain ⟨w2, rfl, h10⟩ := ZA h9
 obtain ⟨x12, l13, rfl, h11⟩ := Zb h10
 obtain ⟨w3, rfl, h12⟩ := ZN h11
 obtain ⟨x14, l15, rfl, h13⟩ := Zb h12
 obtain ⟨w4, rfl, h14⟩ := ZN h13
 obtain ⟨rfl, h15⟩ := Zc h14
 obtain ⟨rfl, h16⟩ := Zc h15
 obtain ⟨rfl, h17⟩ := Zc h16
 simp only [Option.some.injEq, Prod.mk.injEq] at h17
 obtain ⟨rfl, rfl, rfl, rfl, rfl⟩ := h17
 exact ⟨rfl, rfl⟩
theorem Yo.oks (k : Nat) : Zv Try.prog 224 (Yo.e k) ∧ Zv Try.prog 183 (YH.e k) := by
 induction k with
 | zero =>
  refine ⟨?_, ?_⟩
  ·exact Zb1 (Zq Try.func224 (by kernel_rfl)) fun β l K r h => by
    simp only [Yo.e] at h
    split at h
    ·unfold Yo.f at h
     unfold Yo.w at h
     rw [Yo.t_zero] at h
     cases h
    ·cases h
  ·exact Zb1 (Zq Try.func183 (by kernel_rfl)) fun β l K r h => by
    simp only [YH.e] at h
    split at h
    ·unfold YH.f at h
     unfold YH.w at h
     rw [YH.t_zero] at h
     cases h
    ·cases h
 | succ k ih =>
  refine ⟨?_, ?_⟩
  ·refine Zu mix tyok (fn := Try.f224) (c := Zl Try.f224) Try.func224 (by kernel_rfl) (h := Yo.h) (k := k) (E := Yo.E k) (Zk ih.2 Zz) (by kernel_rfl) (by kernel_rfl) rfl (Zq Try.func224 (by kernel_rfl)) ?_
   intro β l K r hr
   simp only [Yo.e] at hr
   split at hr
   case h_2 => cases hr
   unfold Yo.f at hr
   unfold Yo.w at hr
   split at hr
   case h_2 => cases hr
   rename_i hz
   exact ⟨_, _, hr, _, Yo.dec, _, (Yo.f_eq k _ Yo.dec).trans (by rw [Yo.kt_dec]; exact hz), fun rs os h ho => Yo.inj _ h ho⟩
  ·refine Zu mix tyok (fn := Try.f183) (c := Zl Try.f183) Try.func183 (by kernel_rfl) (h := YH.h) (k := k) (E := YH.E k) (Zk (Yt.ok k) (Zk ih.1 Zz)) (by kernel_rfl) (by kernel_rfl) rfl (Zq Try.func183 (by kernel_rfl)) ?_
   intro β l K r hr
   simp only [YH.e] at hr
   split at hr
   case h_2 => cases hr
   unfold YH.f at hr
   unfold YH.w at hr
   split at hr
   case h_2 => cases hr
   rename_i hz
   exact ⟨_, _, hr, _, YH.dec, _, (YH.f_eq k _ _ _ _ _ YH.dec).trans (by rw [YH.kt_dec]; exact hz), fun rs os h ho => YH.inj _ _ _ _ _ h ho⟩
theorem YH.ok (k : Nat) : Zv Try.prog 183 (YH.e k) := (Yo.oks k).2
noncomputable def Yag.g {β : Type} (k : Nat) (aB : Int) (aA : BA) (aE aD aG : Int) (aT : Bool) (aM : LD) (aQ : Int) (aI : BA) (aR : Int) (aJ aN : LD) (aP : Int) (aK : BA) (aS : Int) (aL aO : LD) (K : Int → BA → Int → Int → Int → Bool → LC → Int → BA → Int → LC → LC → Int → BA → Int → LC → LC → Option β) : Option β :=
 Yt.f k aM (fun y9 => YH.f k aQ aI aR aJ aN (fun y44 y45 y46 y47 y48 => YH.f k aP aK aS aL aO (fun y49 y50 y51 y52 y53 => K aB aA aE aD aG aT y9 y44 y45 y46 y47 y48 y49 y50 y51 y52 y53)))
noncomputable def Yag.t (k : Nat) (aB : Int) (aA : BA) (aE aD aG : Int) (aT : Bool) (aM : LD) (aQ : Int) (aI : BA) (aR : Int) (aJ aN : LD) (aP : Int) (aK : BA) (aS : Int) (aL aO : LD) : Option (Int × BA × Int × Int × Int × Bool × LC × Int × BA × Int × LC × LC × Int × BA × Int × LC × LC) := Yag.g k aB aA aE aD aG aT aM aQ aI aR aJ aN aP aK aS aL aO (fun z0 z1 z2 z3 z4 z5 z6 z7 z8 z9 z10 z11 z12 z13 z14 z15 z16 => some (z0, z1, z2, z3, z4, z5, z6, z7, z8, z9, z10, z11, z12, z13, z14, z15, z16))
noncomputable def Yag.f {β : Type} (k : Nat) (aB : Int) (aA : BA) (aE aD aG : Int) (aT : Bool) (aM : LD) (aQ : Int) (aI : BA) (aR : Int) (aJ aN : LD) (aP : Int) (aK : BA) (aS : Int) (aL aO : LD) (K : Int → BA → Int → Int → Int → Bool → LC → Int → BA → Int → LC → LC → Int → BA → Int → LC → LC → Option β) : Option β :=
 match Yag.t k aB aA aE aD aG aT aM aQ aI aR aJ aN aP aK aS aL aO with
 | some (z0, z1, z2, z3, z4, z5, z6, z7, z8, z9, z10, z11, z12, z13, z14, z15, z16) => K z0 z1 z2 z3 z4 z5 z6 z7 z8 z9 z10 z11 z12 z13 z14 z15 z16
 | none => none
noncomputable def Yag.as (aB : Int) (aA : BA) (aE aD aG : Int) (aT : Bool) (aM : LD) (aQ : Int) (aI : BA) (aR : Int) (aJ aN : LD) (aP : Int) (aK : BA) (aS : Int) (aL aO : LD) : List A := [.agg [.int .i64 aB, .str aA, .int .i64 aE, .int .i64 aD, .int .i64 aG, .bool aT, .sl aM, .int .i64 aQ, .str aI, .int .i64 aR, .sl aJ, .sl aN, .int .i64 aP, .str aK, .int .i64 aS, .sl aL, .sl aO]]
noncomputable def Yag.kt {β : Type} (aB : Int) (aA : BA) (aE aD aG : Int) (aT : Bool) (aM : LD) (aQ : Int) (aI : BA) (aR : Int) (aJ aN : LD) (aP : Int) (aK : BA) (aS : Int) (aL aO : LD) (K0 : LC → List Out → Option β) : Int → BA → Int → Int → Int → Bool → LC → Int → BA → Int → LC → LC → Int → BA → Int → LC → LC → Option β := fun z0 z1 z2 z3 z4 z5 z6 z7 z8 z9 z10 z11 z12 z13 z14 z15 z16 => K0 [[.d (.int .i64 z0), .d (.str z1), .d (.int .i64 z2), .d (.int .i64 z3), .d (.int .i64 z4), .d (.bool z5), .own z6, .d (.int .i64 z7), .d (.str z8), .d (.int .i64 z9), .own z10, .own z11, .d (.int .i64 z12), .d (.str z13), .d (.int .i64 z14), .own z15, .own z16]] []
noncomputable def Yag.e (k : Nat) : ZQ := { modes := [(.imm, 0)], rts := [174], al := false, run := fun {β} l K => match l with | [.agg [.int .i64 aB, .str aA, .int .i64 aE, .int .i64 aD, .int .i64 aG, .bool aT, .sl aM, .int .i64 aQ, .str aI, .int .i64 aR, .sl aJ, .sl aN, .int .i64 aP, .str aK, .int .i64 aS, .sl aL, .sl aO]] => Yag.f k aB aA aE aD aG aT aM aQ aI aR aJ aN aP aK aS aL aO (Yag.kt aB aA aE aD aG aT aM aQ aI aR aJ aN aP aK aS aL aO K) | _ => none }
noncomputable def Yag.E (k : Nat) : Env := fun g => bif g == 78 then some (Yt.e k) else bif g == 183 then some (YH.e k) else none
noncomputable def Yag.h : ZY := ⟨fun n => ⟨[], []⟩, fun _ => none, false, []⟩
theorem Yag.f_eq {β : Type} (k : Nat) (aB : Int) (aA : BA) (aE aD aG : Int) (aT : Bool) (aM : LD) (aQ : Int) (aI : BA) (aR : Int) (aJ aN : LD) (aP : Int) (aK : BA) (aS : Int) (aL aO : LD) (K0 : LC → List Out → Option β) : ZJ Try.prog (Yag.E k) Yag.h k Try.f195 (Yag.as aB aA aE aD aG aT aM aQ aI aR aJ aN aP aK aS aL aO) K0 = Yag.g k aB aA aE aD aG aT aM aQ aI aR aJ aN aP aK aS aL aO (Yag.kt aB aA aE aD aG aT aM aQ aI aR aJ aN aP aK aS aL aO K0) := by kernel_rfl
noncomputable def Yag.dec (rs : LC) (os : List Out) : Option (Int × BA × Int × Int × Int × Bool × LC × Int × BA × Int × LC × LC × Int × BA × Int × LC × LC) := Zd rs fun c1 r2 => Zd c1 fun x3 l4 => cD x3 fun d5 => ZM .i64 d5 fun w0 => Zd l4 fun x6 l7 => cD x6 fun d8 => Zan d8 fun w1 => Zd l7 fun x9 l10 => cD x9 fun d11 => ZM .i64 d11 fun w2 => Zd l10 fun x12 l13 => cD x12 fun d14 => ZM .i64 d14 fun w3 => Zd l13 fun x15 l16 => cD x15 fun d17 => ZM .i64 d17 fun w4 => Zd l16 fun x18 l19 => cD x18 fun d20 => ZaF d20 fun w5 => Zd l19 fun x21 l22 => ZaU x21 fun w6 => Zd l22 fun x23 l24 => cD x23 fun d25 => ZM .i64 d25 fun w7 => Zd l24 fun x26 l27 => cD x26 fun d28 => Zan d28 fun w8 => Zd l27 fun x29 l30 => cD x29 fun d31 => ZM .i64 d31 fun w9 => Zd l30 fun x32 l33 => ZaU x32 fun w10 => Zd l33 fun x34 l35 => ZaU x34 fun w11 => Zd l35 fun x36 l37 => cD x36 fun d38 => ZM .i64 d38 fun w12 => Zd l37 fun x39 l40 => cD x39 fun d41 => Zan d41 fun w13 => Zd l40 fun x42 l43 => cD x42 fun d44 => ZM .i64 d44 fun w14 => Zd l43 fun x45 l46 => ZaU x45 fun w15 => Zd l46 fun x47 l48 => ZaU x47 fun w16 => Ze l48 <| Ze r2 <| Ze os (some (w0, w1, w2, w3, w4, w5, w6, w7, w8, w9, w10, w11, w12, w13, w14, w15, w16))
theorem Yag.kt_dec (aB : Int) (aA : BA) (aE aD aG : Int) (aT : Bool) (aM : LD) (aQ : Int) (aI : BA) (aR : Int) (aJ aN : LD) (aP : Int) (aK : BA) (aS : Int) (aL aO : LD) : Yag.kt aB aA aE aD aG aT aM aQ aI aR aJ aN aP aK aS aL aO Yag.dec = (fun z0 z1 z2 z3 z4 z5 z6 z7 z8 z9 z10 z11 z12 z13 z14 z15 z16 => some (z0, z1, z2, z3, z4, z5, z6, z7, z8, z9, z10, z11, z12, z13, z14, z15, z16)) := by kernel_rfl
theorem Yag.inj (aB : Int) (aA : BA) (aE aD aG : Int) (aT : Bool) (aM : LD) (aQ : Int) (aI : BA) (aR : Int) (aJ aN : LD) (aP : Int) (aK : BA) (aS : Int) (aL aO : LD) {rs : LC} {os : List Out} {z0 : Int} {z1 : BA} {z2 z3 z4 : Int} {z5 : Bool} {z6 : LC} {z7 : Int} {z8 : BA} {z9 : Int} {z10 z11 : LC} {z12 : Int} {z13 : BA} {z14 : Int} {z15 z16 : LC} (h : Yag.dec rs os = some (z0, z1, z2, z3, z4, z5, z6, z7, z8, z9, z10, z11, z12, z13, z14, z15, z16)) (ho : Zo (Yag.as aB aA aE aD aG aT aM aQ aI aR aJ aN aP aK aS aL aO) os) : rs = [[.d (.int .i64 z0), .d (.str z1), .d (.int .i64 z2), .d (.int .i64 z3), .d (.int .i64 z4), .d (.bool z5), .own z6, .d (.int .i64 z7), .d (.str z8), .d (.int .i64 z9), .own z10, .own z11, .d (.int .i64 z12), .d (.str z13), .d (.int .i64 z14), .own z15, .own z16]] ∧ os = [] := by
 unfold Yag.dec at h
 obtain ⟨c1, r2, rfl, h1⟩ := Zb h
 obtain ⟨x3, l4, rfl, h2⟩ := Zb h1
 obtain ⟨d5, rfl, h3⟩ := Zt h2
 obtain ⟨w0, rfl, h4⟩ := ZA h3
 obtain ⟨x6, l7, rfl, h5⟩ := Zb h4
 obtain ⟨d8, rfl, h6⟩ := Zt h5
 obtain ⟨w1, rfl, h7⟩ := ZaL h6
 obtain ⟨x9, l10, rfl, h8⟩ := Zb h7
 obtain ⟨d11, rfl, h9⟩ := Zt h8
 obtain ⟨w2, rfl, h10⟩ := ZA h9
 obtain ⟨x12, l13, rfl, h11⟩ := Zb h10
 obtain ⟨d14, rfl, h12⟩ := Zt h11
 obtain ⟨w3, rfl, h13⟩ := ZA h12
 obtain ⟨x15, l16, rfl, h14⟩ := Zb h13
 obtain ⟨d17, rfl, h15⟩ := Zt h14
 obtain ⟨w4, rfl, h16⟩ := ZA h15
 obtain ⟨x18, l19, rfl, h17⟩ := Zb h16
 obtain ⟨d20, rfl, h18⟩ := Zt h17
 obtain ⟨w5, rfl, h19⟩ := Z0 h18
 obtain ⟨x21, l22, rfl, h20⟩ := Zb h19
 obtain ⟨w6, rfl, h21⟩ := ZN h20
 obtain ⟨x23, l24, rfl, h22⟩ := Zb h21
 obtain ⟨d25, rfl, h23⟩ := Zt h22
 obtain ⟨w7, rfl, h24⟩ := ZA h23
 obtain ⟨x26, l27, rfl, h25⟩ := Zb h24
 obtain ⟨d28, rfl, h26⟩ := Zt h25
 obtain ⟨w8, rfl, h27⟩ := ZaL h26
 obtain ⟨x29, l30, rfl, h28⟩ := Zb h27
 obtain ⟨d31, rfl, h29⟩ := Zt h28
 obtain ⟨w9, rfl, h30⟩ := ZA h29
 obtain ⟨x32, l33, rfl, h31⟩ := Zb h30
 obtain ⟨w10, rfl, h32⟩ := ZN h31
 obtain ⟨x34, l35, rfl, h33⟩ := Zb h32
 obtain ⟨w11, rfl, h34⟩ := ZN h33
 obtain ⟨x36, l37, rfl, h35⟩ := Zb h34
 obtain ⟨d38, rfl, h36⟩ := Zt h35
 obtain ⟨w12, rfl, h37⟩ := ZA h36
 obtain ⟨x39, l40, rfl, h38⟩ := Zb h37
 obtain ⟨d41, rfl, h39⟩ := Zt h38
 obtain ⟨w13, rfl, h40⟩ := ZaL h39
 obtain ⟨x42, l43, rfl, h41⟩ := Zb h40
 obtain ⟨d44, rfl, h42⟩ := Zt h41
 obtain ⟨w14, rfl, h43⟩ := ZA h42
 obtain ⟨x45, l46, rfl, h44⟩ := Zb h43
 obtain ⟨w15, rfl, h45⟩ := ZN h44
 obtain ⟨x47, l48, rfl, h46⟩ := Zb h45
 obtain ⟨w16, rfl, h47⟩ := ZN h46
 obtain ⟨rfl, h48⟩ := Zc h47
 obtain ⟨rfl, h49⟩ := Zc h48
 obtain ⟨rfl, h50⟩ := Zc h49
 simp only [Option.some.injEq, Prod.mk.injEq] at h50
 obtain ⟨rfl, rfl, rfl, rfl, rfl, rfl, rfl, rfl, rfl, rfl, rfl, rfl, rfl, rfl, rfl, rfl, rfl⟩ := h50
 exact ⟨rfl, rfl⟩
theorem Yag.ok (k : Nat) : Zv Try.prog 195 (Yag.e k) := by
 refine Zu mix tyok (fn := Try.f195) (c := Zl Try.f195) Try.func195 (by kernel_rfl) (h := Yag.h) (k := k) (E := Yag.E k) (Zk (Yt.ok k) (Zk (YH.ok k) Zz)) (by kernel_rfl) (by kernel_rfl) rfl (Zq Try.func195 (by kernel_rfl)) ?_
 intro β l K r hr
 simp only [Yag.e] at hr
 split at hr
 case h_2 => cases hr
 unfold Yag.f at hr
 split at hr
 case h_2 => cases hr
 rename_i hz
 exact ⟨_, _, hr, _, Yag.dec, _, (Yag.f_eq k _ _ _ _ _ _ _ _ _ _ _ _ _ _ _ _ _ Yag.dec).trans (by rw [Yag.kt_dec]; exact hz), fun rs os h ho => Yag.inj _ _ _ _ _ _ _ _ _ _ _ _ _ _ _ _ _ h ho⟩
noncomputable def YP.l0 {β : Type} (k : Nat) (aF : LD) (K : LC → Option β) (L0 : (Int × LC) → Option β) (v : Int × LC) : Option β :=
 match v with
 | (aC, aH) => bif (decide ((aC : Int) < (aF.length : Int))) then (ZX aF aC fun c71 => Zd c71 fun d r => ZM .i64 d fun x74 => Zd r fun d r => Zan d fun x77 => Zd r fun d r => ZM .i64 d fun x80 => Zd r fun d r => ZM .i64 d fun x83 => Zd r fun d r => ZM .i64 d fun x86 => Zd r fun d r => ZaF d fun x89 => Zd r fun d r => dSl d fun x92 => Zd r fun d r => ZM .i64 d fun x95 => Zd r fun d r => Zan d fun x98 => Zd r fun d r => ZM .i64 d fun x101 => Zd r fun d r => dSl d fun x104 => Zd r fun d r => dSl d fun x107 => Zd r fun d r => ZM .i64 d fun x110 => Zd r fun d r => Zan d fun x113 => Zd r fun d r => ZM .i64 d fun x116 => Zd r fun d r => dSl d fun x119 => Zd r fun d r => dSl d fun x122 => Ze r (Yag.f k x74 x77 x80 x83 x86 x89 x92 x95 x98 x101 x104 x107 x110 x113 x116 x119 x122 (fun y123 y124 y125 y126 y127 y128 y129 y130 y131 y132 y133 y134 y135 y136 y137 y138 y139 => ZH ((0 : Int) ≤ aC ∧ aC < (aH.length : Int)) (ZH (Int.toNat aC < aH.length) (L0 (IntKind.wrap .i64 (aC + 1), aH.modify (Int.toNat aC) fun c => Z1 c 0 [.d (.int .i64 y123), .d (.str y124), .d (.int .i64 y125), .d (.int .i64 y126), .d (.int .i64 y127), .d (.bool y128), .own y129, .d (.int .i64 y130), .d (.str y131), .d (.int .i64 y132), .own y133, .own y134, .d (.int .i64 y135), .d (.str y136), .d (.int .i64 y137), .own y138, .own y139])))))) else (K aH)
noncomputable def YP.g {β : Type} (k : Nat) (a0 : LD) (K : LC → Option β) : Option β :=
 ZH ((0 : Int) ≤ (a0.length : Int) ∧ (a0.length : Int) ≤ (Z6 : Int) ∧ (a0.length : Int) ≤ (a0.length : Int) ∧ (a0.length : Int) ≤ (a0.length : Int)) (Z4 (YP.l0 k a0 K) k (0, List.replicate (Int.toNat (a0.length : Int)) ([.d (.int .i64 0), .d (.str (⟨#[]⟩ : BA)), .d (.int .i64 0), .d (.int .i64 0), .d (.int .i64 0), .d (.bool false), .own ([] : LC), .d (.int .i64 0), .d (.str (⟨#[]⟩ : BA)), .d (.int .i64 0), .own ([] : LC), .own ([] : LC), .d (.int .i64 0), .d (.str (⟨#[]⟩ : BA)), .d (.int .i64 0), .own ([] : LC), .own ([] : LC)] : List C)))
noncomputable def YP.t (k : Nat) (a0 : LD) : Option (LC) := YP.g k a0 (fun z0 => some z0)
noncomputable def YP.f {β : Type} (k : Nat) (a0 : LD) (K : LC → Option β) : Option β :=
 match YP.t k a0 with
 | some z0 => K z0
 | none => none
noncomputable def YP.as (a0 : LD) : List A := [.d (.sl a0)]
noncomputable def YP.kt {β : Type} (a0 : LD) (K0 : LC → List Out → Option β) : LC → Option β := fun z0 => K0 [[.own z0]] []
noncomputable def YP.e (k : Nat) : ZQ := { modes := [(.imm, 0)], rts := [82], al := false, run := fun {β} l K => match l with | [.d (.sl a0)] => YP.f k a0 (YP.kt a0 K) | _ => none }
noncomputable def YP.E (k : Nat) : Env := fun g => bif g == 195 then some (Yag.e k) else none
noncomputable def YP.h : ZY := ⟨fun n => bif n == 3 then ⟨[(0, .asis), (3, .asis), (4, .asis)], []⟩ else ⟨[], []⟩, fun _ => none, false, []⟩
noncomputable def YP.s0 (aF : LD) (v : Int × LC) : St :=
 match v with
 | (aC, aH) => ⟨[.d false (.sl aF), .any, .any, .row 0, .d true (.int .i64 aC), .any, .any, .any, .any, .any, .any, .any, .any, .any, .any, .any, .any, .any, .any, .any, .any, .any, .any], [.row none true 82 aH]⟩
noncomputable def YP.b0 {β : Type} (k : Nat) : St → (Ex → St → Option β) → Option β := fun s K => den Try.prog (YP.E k) YP.h.H YP.h.J k (Zad [1, 1, 0, 1, 0, 0] (Zl Try.f125)) s K
noncomputable def YP.c0 {β : Type} (k : Nat) (a0 : LD) (K0 : LC → List Out → Option β) : Ex → St → Option β := Zae Try.prog (YP.E k) YP.h k [1, 1, 0, 1, 0] (Zl Try.f125) (Zak Try.prog Try.f125 YP.h (YP.as a0) K0)
theorem YP.l0_eq {β : Type} (k : Nat) (a0 : LD) (K0 : LC → List Out → Option β) (aF : LD) : ∀ (kk : Nat) (v : Int × LC), Zx (YP.b0 k) (YP.h.H 3) kk (YP.s0 aF v) (YP.c0 k a0 K0) = Z4 (YP.l0 k aF (YP.kt a0 K0)) kk v :=
 Z9 (YP.s0 aF) _ (fun L0 v => by obtain ⟨aC, aH⟩ := v; kernel_rfl)
noncomputable def YP.m {β : Type} (k : Nat) (a0 : LD) (K0 : LC → List Out → Option β) (F : (LD → (Int × LC) → Option β)) : Option β :=
 ZH ((0 : Int) ≤ (a0.length : Int) ∧ (a0.length : Int) ≤ (Z6 : Int) ∧ (a0.length : Int) ≤ (a0.length : Int) ∧ (a0.length : Int) ≤ (a0.length : Int)) ((F) a0 (0, List.replicate (Int.toNat (a0.length : Int)) ([.d (.int .i64 0), .d (.str (⟨#[]⟩ : BA)), .d (.int .i64 0), .d (.int .i64 0), .d (.int .i64 0), .d (.bool false), .own ([] : LC), .d (.int .i64 0), .d (.str (⟨#[]⟩ : BA)), .d (.int .i64 0), .own ([] : LC), .own ([] : LC), .d (.int .i64 0), .d (.str (⟨#[]⟩ : BA)), .d (.int .i64 0), .own ([] : LC), .own ([] : LC)] : List C)))
theorem YP.f_eq {β : Type} (k : Nat) (a0 : LD) (K0 : LC → List Out → Option β) : ZJ Try.prog (YP.E k) YP.h k Try.f125 (YP.as a0) K0 = YP.g k a0 (YP.kt a0 K0) := Eq.trans (b := (YP.m k a0 K0) (fun (aF : LD) (v : Int × LC) => Zx (YP.b0 k) (YP.h.H 3) k (YP.s0 aF v) (YP.c0 k a0 K0))) (by kernel_rfl) (Eq.trans (congrArg (YP.m k a0 K0) (funext fun aF => funext fun v => YP.l0_eq k a0 K0 aF k v)) (by kernel_rfl))
noncomputable def YP.dec (rs : LC) (os : List Out) : Option (LC) := Zd rs fun c1 r2 => Zd c1 fun x3 l4 => ZaU x3 fun w0 => Ze l4 <| Ze r2 <| Ze os (some w0)
theorem YP.kt_dec (a0 : LD) : YP.kt a0 YP.dec = (fun z0 => some z0) := by kernel_rfl
theorem YP.inj (a0 : LD) {rs : LC} {os : List Out} {z0 : LC} (h : YP.dec rs os = some z0) (ho : Zo (YP.as a0) os) : rs = [[.own z0]] ∧ os = [] := by
 unfold YP.dec at h
 obtain ⟨c1, r2, rfl, h1⟩ := Zb h
 obtain ⟨x3, l4, rfl, h2⟩ := Zb h1
 obtain ⟨w0, rfl, h3⟩ := ZN h2
 obtain ⟨rfl, h4⟩ := Zc h3
 obtain ⟨rfl, h5⟩ := Zc h4
 obtain ⟨rfl, h6⟩ := Zc h5
 obtain rfl := Option.some.inj h6
 exact ⟨rfl, rfl⟩
theorem YP.ok (k : Nat) : Zv Try.prog 125 (YP.e k) := by
 refine Zu mix tyok (fn := Try.f125) (c := Zl Try.f125) Try.func125 (by kernel_rfl) (h := YP.h) (k := k) (E := YP.E k) (Zk (Yag.ok k) Zz) (by kernel_rfl) (by kernel_rfl) rfl (Zq Try.func125 (by kernel_rfl)) ?_
 intro β l K r hr
 simp only [YP.e] at hr
 split at hr
 case h_2 => cases hr
 unfold YP.f at hr
 split at hr
 case h_2 => cases hr
 rename_i hz
 exact ⟨_, _, hr, _, YP.dec, _, (YP.f_eq k _ YP.dec).trans (by rw [YP.kt_dec]; exact hz), fun rs os h ho => YP.inj _ h ho⟩
noncomputable def Y4.g {β : Type} (k : Nat) (aB : Int) (aA : Bool) (aE : Int) (aD : BA) (aG aT aM : Int) (aQ : Bool) (aI : LD) (aR : Int) (aJ : BA) (aN : Int) (aP aK : LD) (aS : Int) (aL : BA) (aO : Int) (bO bP : LD) (K : Int → Bool → Int → BA → Int → Int → Int → Bool → LC → Int → BA → Int → LC → LC → Int → BA → Int → LC → LC → Option β) : Option β :=
 Yag.f k aE aD aG aT aM aQ aI aR aJ aN aP aK aS aL aO bO bP (fun y1 y2 y3 y4 y5 y6 y7 y8 y9 y10 y11 y12 y13 y14 y15 y16 y17 => K aB aA y1 y2 y3 y4 y5 y6 y7 y8 y9 y10 y11 y12 y13 y14 y15 y16 y17)
noncomputable def Y4.t (k : Nat) (aB : Int) (aA : Bool) (aE : Int) (aD : BA) (aG aT aM : Int) (aQ : Bool) (aI : LD) (aR : Int) (aJ : BA) (aN : Int) (aP aK : LD) (aS : Int) (aL : BA) (aO : Int) (bO bP : LD) : Option (Int × Bool × Int × BA × Int × Int × Int × Bool × LC × Int × BA × Int × LC × LC × Int × BA × Int × LC × LC) := Y4.g k aB aA aE aD aG aT aM aQ aI aR aJ aN aP aK aS aL aO bO bP (fun z0 z1 z2 z3 z4 z5 z6 z7 z8 z9 z10 z11 z12 z13 z14 z15 z16 z17 z18 => some (z0, z1, z2, z3, z4, z5, z6, z7, z8, z9, z10, z11, z12, z13, z14, z15, z16, z17, z18))
noncomputable def Y4.f {β : Type} (k : Nat) (aB : Int) (aA : Bool) (aE : Int) (aD : BA) (aG aT aM : Int) (aQ : Bool) (aI : LD) (aR : Int) (aJ : BA) (aN : Int) (aP aK : LD) (aS : Int) (aL : BA) (aO : Int) (bO bP : LD) (K : Int → Bool → Int → BA → Int → Int → Int → Bool → LC → Int → BA → Int → LC → LC → Int → BA → Int → LC → LC → Option β) : Option β :=
 match Y4.t k aB aA aE aD aG aT aM aQ aI aR aJ aN aP aK aS aL aO bO bP with
 | some (z0, z1, z2, z3, z4, z5, z6, z7, z8, z9, z10, z11, z12, z13, z14, z15, z16, z17, z18) => K z0 z1 z2 z3 z4 z5 z6 z7 z8 z9 z10 z11 z12 z13 z14 z15 z16 z17 z18
 | none => none
noncomputable def Y4.as (aB : Int) (aA : Bool) (aE : Int) (aD : BA) (aG aT aM : Int) (aQ : Bool) (aI : LD) (aR : Int) (aJ : BA) (aN : Int) (aP aK : LD) (aS : Int) (aL : BA) (aO : Int) (bO bP : LD) : List A := [.agg [.int .i64 aB, .bool aA, .int .i64 aE, .str aD, .int .i64 aG, .int .i64 aT, .int .i64 aM, .bool aQ, .sl aI, .int .i64 aR, .str aJ, .int .i64 aN, .sl aP, .sl aK, .int .i64 aS, .str aL, .int .i64 aO, .sl bO, .sl bP]]
noncomputable def Y4.kt {β : Type} (aB : Int) (aA : Bool) (aE : Int) (aD : BA) (aG aT aM : Int) (aQ : Bool) (aI : LD) (aR : Int) (aJ : BA) (aN : Int) (aP aK : LD) (aS : Int) (aL : BA) (aO : Int) (bO bP : LD) (K0 : LC → List Out → Option β) : Int → Bool → Int → BA → Int → Int → Int → Bool → LC → Int → BA → Int → LC → LC → Int → BA → Int → LC → LC → Option β := fun z0 z1 z2 z3 z4 z5 z6 z7 z8 z9 z10 z11 z12 z13 z14 z15 z16 z17 z18 => K0 [[.d (.int .i64 z0), .d (.bool z1), .d (.int .i64 z2), .d (.str z3), .d (.int .i64 z4), .d (.int .i64 z5), .d (.int .i64 z6), .d (.bool z7), .own z8, .d (.int .i64 z9), .d (.str z10), .d (.int .i64 z11), .own z12, .own z13, .d (.int .i64 z14), .d (.str z15), .d (.int .i64 z16), .own z17, .own z18]] []
noncomputable def Y4.e (k : Nat) : ZQ := { modes := [(.imm, 0)], rts := [176], al := false, run := fun {β} l K => match l with | [.agg [.int .i64 aB, .bool aA, .int .i64 aE, .str aD, .int .i64 aG, .int .i64 aT, .int .i64 aM, .bool aQ, .sl aI, .int .i64 aR, .str aJ, .int .i64 aN, .sl aP, .sl aK, .int .i64 aS, .str aL, .int .i64 aO, .sl bO, .sl bP]] => Y4.f k aB aA aE aD aG aT aM aQ aI aR aJ aN aP aK aS aL aO bO bP (Y4.kt aB aA aE aD aG aT aM aQ aI aR aJ aN aP aK aS aL aO bO bP K) | _ => none }
noncomputable def Y4.E (k : Nat) : Env := fun g => bif g == 195 then some (Yag.e k) else none
noncomputable def Y4.h : ZY := ⟨fun n => ⟨[], []⟩, fun _ => none, false, []⟩
theorem Y4.f_eq {β : Type} (k : Nat) (aB : Int) (aA : Bool) (aE : Int) (aD : BA) (aG aT aM : Int) (aQ : Bool) (aI : LD) (aR : Int) (aJ : BA) (aN : Int) (aP aK : LD) (aS : Int) (aL : BA) (aO : Int) (bO bP : LD) (K0 : LC → List Out → Option β) : ZJ Try.prog (Y4.E k) Y4.h k Try.f203 (Y4.as aB aA aE aD aG aT aM aQ aI aR aJ aN aP aK aS aL aO bO bP) K0 = Y4.g k aB aA aE aD aG aT aM aQ aI aR aJ aN aP aK aS aL aO bO bP (Y4.kt aB aA aE aD aG aT aM aQ aI aR aJ aN aP aK aS aL aO bO bP K0) := by kernel_rfl
noncomputable def Y4.dec (rs : LC) (os : List Out) : Option (Int × Bool × Int × BA × Int × Int × Int × Bool × LC × Int × BA × Int × LC × LC × Int × BA × Int × LC × LC) := Zd rs fun c1 r2 => Zd c1 fun x3 l4 => cD x3 fun d5 => ZM .i64 d5 fun w0 => Zd l4 fun x6 l7 => cD x6 fun d8 => ZaF d8 fun w1 => Zd l7 fun x9 l10 => cD x9 fun d11 => ZM .i64 d11 fun w2 => Zd l10 fun x12 l13 => cD x12 fun d14 => Zan d14 fun w3 => Zd l13 fun x15 l16 => cD x15 fun d17 => ZM .i64 d17 fun w4 => Zd l16 fun x18 l19 => cD x18 fun d20 => ZM .i64 d20 fun w5 => Zd l19 fun x21 l22 => cD x21 fun d23 => ZM .i64 d23 fun w6 => Zd l22 fun x24 l25 => cD x24 fun d26 => ZaF d26 fun w7 => Zd l25 fun x27 l28 => ZaU x27 fun w8 => Zd l28 fun x29 l30 => cD x29 fun d31 => ZM .i64 d31 fun w9 => Zd l30 fun x32 l33 => cD x32 fun d34 => Zan d34 fun w10 => Zd l33 fun x35 l36 => cD x35 fun d37 => ZM .i64 d37 fun w11 => Zd l36 fun x38 l39 => ZaU x38 fun w12 => Zd l39 fun x40 l41 => ZaU x40 fun w13 => Zd l41 fun x42 l43 => cD x42 fun d44 => ZM .i64 d44 fun w14 => Zd l43 fun x45 l46 => cD x45 fun d47 => Zan d47 fun w15 => Zd l46 fun x48 l49 => cD x48 fun d50 => ZM .i64 d50 fun w16 => Zd l49 fun x51 l52 => ZaU x51 fun w17 => Zd l52 fun x53 l54 => ZaU x53 fun w18 => Ze l54 <| Ze r2 <| Ze os (some (w0, w1, w2, w3, w4, w5, w6, w7, w8, w9, w10, w11, w12, w13, w14, w15, w16, w17, w18))
theorem Y4.kt_dec (aB : Int) (aA : Bool) (aE : Int) (aD : BA) (aG aT aM : Int) (aQ : Bool) (aI : LD) (aR : Int) (aJ : BA) (aN : Int) (aP aK : LD) (aS : Int) (aL : BA) (aO : Int) (bO bP : LD) : Y4.kt aB aA aE aD aG aT aM aQ aI aR aJ aN aP aK aS aL aO bO bP Y4.dec = (fun z0 z1 z2 z3 z4 z5 z6 z7 z8 z9 z10 z11 z12 z13 z14 z15 z16 z17 z18 => some (z0, z1, z2, z3, z4, z5, z6, z7, z8, z9, z10, z11, z12, z13, z14, z15, z16, z17, z18)) := by kernel_rfl
theorem Y4.inj (aB : Int) (aA : Bool) (aE : Int) (aD : BA) (aG aT aM : Int) (aQ : Bool) (aI : LD) (aR : Int) (aJ : BA) (aN : Int) (aP aK : LD) (aS : Int) (aL : BA) (aO : Int) (bO bP : LD) {rs : LC} {os : List Out} {z0 : Int} {z1 : Bool} {z2 : Int} {z3 : BA} {z4 z5 z6 : Int} {z7 : Bool} {z8 : LC} {z9 : Int} {z10 : BA} {z11 : Int} {z12 z13 : LC} {z14 : Int} {z15 : BA} {z16 : Int} {z17 z18 : LC} (h : Y4.dec rs os = some (z0, z1, z2, z3, z4, z5, z6, z7, z8, z9, z10, z11, z12, z13, z14, z15, z16, z17, z18)) (ho : Zo (Y4.as aB aA aE aD aG aT aM aQ aI aR aJ aN aP aK aS aL aO bO bP) os) : rs = [[.d (.int .i64 z0), .d (.bool z1), .d (.int .i64 z2), .d (.str z3), .d (.int .i64 z4), .d (.int .i64 z5), .d (.int .i64 z6), .d (.bool z7), .own z8, .d (.int .i64 z9), .d (.str z10), .d (.int .i64 z11), .own z12, .own z13, .d (.int .i64 z14), .d (.str z15), .d (.int .i64 z16), .own z17, .own z18]] ∧ os = [] := by
 unfold Y4.dec at h
 obtain ⟨c1, r2, rfl, h1⟩ := Zb h
 obtain ⟨x3, l4, rfl, h2⟩ := Zb h1
 obtain ⟨d5, rfl, h3⟩ := Zt h2
 obtain ⟨w0, rfl, h4⟩ := ZA h3
 obtain ⟨x6, l7, rfl, h5⟩ := Zb h4
 obtain ⟨d8, rfl, h6⟩ := Zt h5
 obtain ⟨w1, rfl, h7⟩ := Z0 h6
 obtain ⟨x9, l10, rfl, h8⟩ := Zb h7
 obtain ⟨d11, rfl, h9⟩ := Zt h8
 obtain ⟨w2, rfl, h10⟩ := ZA h9
 obtain ⟨x12, l13, rfl, h11⟩ := Zb h10
 obtain ⟨d14, rfl, h12⟩ := Zt h11
 obtain ⟨w3, rfl, h13⟩ := ZaL h12
 obtain ⟨x15, l16, rfl, h14⟩ := Zb h13
 obtain ⟨d17, rfl, h15⟩ := Zt h14
 obtain ⟨w4, rfl, h16⟩ := ZA h15
 obtain ⟨x18, l19, rfl, h17⟩ := Zb h16
 obtain ⟨d20, rfl, h18⟩ := Zt h17
 obtain ⟨w5, rfl, h19⟩ := ZA h18
 obtain ⟨x21, l22, rfl, h20⟩ := Zb h19
 obtain ⟨d23, rfl, h21⟩ := Zt h20
 obtain ⟨w6, rfl, h22⟩ := ZA h21
 obtain ⟨x24, l25, rfl, h23⟩ := Zb h22
 obtain ⟨d26, rfl, h24⟩ := Zt h23
 obtain ⟨w7, rfl, h25⟩ := Z0 h24
 obtain ⟨x27, l28, rfl, h26⟩ := Zb h25
 obtain ⟨w8, rfl, h27⟩ := ZN h26
 obtain ⟨x29, l30, rfl, h28⟩ := Zb h27
 obtain ⟨d31, rfl, h29⟩ := Zt h28
 obtain ⟨w9, rfl, h30⟩ := ZA h29
 obtain ⟨x32, l33, rfl, h31⟩ := Zb h30
 obtain ⟨d34, rfl, h32⟩ := Zt h31
 obtain ⟨w10, rfl, h33⟩ := ZaL h32
 obtain ⟨x35, l36, rfl, h34⟩ := Zb h33
 obtain ⟨d37, rfl, h35⟩ := Zt h34
 obtain ⟨w11, rfl, h36⟩ := ZA h35
 obtain ⟨x38, l39, rfl, h37⟩ := Zb h36
 obtain ⟨w12, rfl, h38⟩ := ZN h37
 obtain ⟨x40, l41, rfl, h39⟩ := Zb h38
 obtain ⟨w13, rfl, h40⟩ := ZN h39
 obtain ⟨x42, l43, rfl, h41⟩ := Zb h40
 obtain ⟨d44, rfl, h42⟩ := Zt h41
 obtain ⟨w14, rfl, h43⟩ := ZA h42
 obtain ⟨x45, l46, rfl, h44⟩ := Zb h43
 obtain ⟨d47, rfl, h45⟩ := Zt h44
 obtain ⟨w15, rfl, h46⟩ := ZaL h45
 obtain ⟨x48, l49, rfl, h47⟩ := Zb h46
 obtain ⟨d50, rfl, h48⟩ := Zt h47
 obtain ⟨w16, rfl, h49⟩ := ZA h48
 obtain ⟨x51, l52, rfl, h50⟩ := Zb h49
 obtain ⟨w17, rfl, h51⟩ := ZN h50
 obtain ⟨x53, l54, rfl, h52⟩ := Zb h51
 obtain ⟨w18, rfl, h53⟩ := ZN h52
 obtain ⟨rfl, h54⟩ := Zc h53
 obtain ⟨rfl, h55⟩ := Zc h54
 obtain ⟨rfl, h56⟩ := Zc h55
 simp only [Option.some.injEq, Prod.mk.injEq] at h56
 obtain ⟨rfl, rfl, rfl, rfl, rfl, rfl, rfl, rfl, rfl, rfl, rfl, rfl, rfl, rfl, rfl, rfl, rfl, rfl, rfl⟩ := h56
 exact ⟨rfl, rfl⟩
theorem Y4.ok (k : Nat) : Zv Try.prog 203 (Y4.e k) := by
 refine Zu mix tyok (fn := Try.f203) (c := Zl Try.f203) Try.func203 (by kernel_rfl) (h := Y4.h) (k := k) (E := Y4.E k) (Zk (Yag.ok k) Zz) (by kernel_rfl) (by kernel_rfl) rfl (Zq Try.func203 (by kernel_rfl)) ?_
 intro β l K r hr
 simp only [Y4.e] at hr
 split at hr
 case h_2 => cases hr
 unfold Y4.f at hr
 split at hr
 case h_2 => cases hr
 rename_i hz
 exact ⟨_, _, hr, _, Y4.dec, _, (Y4.f_eq k _ _ _ _ _ _ _ _ _ _ _ _ _ _ _ _ _ _ _ Y4.dec).trans (by rw [Y4.kt_dec]; exact hz), fun rs os h ho => Y4.inj _ _ _ _ _ _ _ _ _ _ _ _ _ _ _ _ _ _ _ h ho⟩
noncomputable def Yz.l0 {β : Type} (k : Nat) (aF : LD) (K : LC → Option β) (L0 : (Int × LC) → Option β) (v : Int × LC) : Option β :=
 match v with
 | (aC, aH) => bif (decide ((aC : Int) < (aF.length : Int))) then (ZX aF aC fun c78 => Zd c78 fun d r => ZM .i64 d fun x81 => Zd r fun d r => ZaF d fun x84 => Zd r fun d r => ZM .i64 d fun x87 => Zd r fun d r => Zan d fun x90 => Zd r fun d r => ZM .i64 d fun x93 => Zd r fun d r => ZM .i64 d fun x96 => Zd r fun d r => ZM .i64 d fun x99 => Zd r fun d r => ZaF d fun x102 => Zd r fun d r => dSl d fun x105 => Zd r fun d r => ZM .i64 d fun x108 => Zd r fun d r => Zan d fun x111 => Zd r fun d r => ZM .i64 d fun x114 => Zd r fun d r => dSl d fun x117 => Zd r fun d r => dSl d fun x120 => Zd r fun d r => ZM .i64 d fun x123 => Zd r fun d r => Zan d fun x126 => Zd r fun d r => ZM .i64 d fun x129 => Zd r fun d r => dSl d fun x132 => Zd r fun d r => dSl d fun x135 => Ze r (Y4.f k x81 x84 x87 x90 x93 x96 x99 x102 x105 x108 x111 x114 x117 x120 x123 x126 x129 x132 x135 (fun y136 y137 y138 y139 y140 y141 y142 y143 y144 y145 y146 y147 y148 y149 y150 y151 y152 y153 y154 => ZH ((0 : Int) ≤ aC ∧ aC < (aH.length : Int)) (ZH (Int.toNat aC < aH.length) (L0 (IntKind.wrap .i64 (aC + 1), aH.modify (Int.toNat aC) fun c => Z1 c 0 [.d (.int .i64 y136), .d (.bool y137), .d (.int .i64 y138), .d (.str y139), .d (.int .i64 y140), .d (.int .i64 y141), .d (.int .i64 y142), .d (.bool y143), .own y144, .d (.int .i64 y145), .d (.str y146), .d (.int .i64 y147), .own y148, .own y149, .d (.int .i64 y150), .d (.str y151), .d (.int .i64 y152), .own y153, .own y154])))))) else (K aH)
noncomputable def Yz.g {β : Type} (k : Nat) (a0 : LD) (K : LC → Option β) : Option β :=
 ZH ((0 : Int) ≤ (a0.length : Int) ∧ (a0.length : Int) ≤ (Z6 : Int) ∧ (a0.length : Int) ≤ (a0.length : Int) ∧ (a0.length : Int) ≤ (a0.length : Int)) (Z4 (Yz.l0 k a0 K) k (0, List.replicate (Int.toNat (a0.length : Int)) ([.d (.int .i64 0), .d (.bool false), .d (.int .i64 0), .d (.str (⟨#[]⟩ : BA)), .d (.int .i64 0), .d (.int .i64 0), .d (.int .i64 0), .d (.bool false), .own ([] : LC), .d (.int .i64 0), .d (.str (⟨#[]⟩ : BA)), .d (.int .i64 0), .own ([] : LC), .own ([] : LC), .d (.int .i64 0), .d (.str (⟨#[]⟩ : BA)), .d (.int .i64 0), .own ([] : LC), .own ([] : LC)] : List C)))
noncomputable def Yz.t (k : Nat) (a0 : LD) : Option (LC) := Yz.g k a0 (fun z0 => some z0)
noncomputable def Yz.f {β : Type} (k : Nat) (a0 : LD) (K : LC → Option β) : Option β :=
 match Yz.t k a0 with
 | some z0 => K z0
 | none => none
noncomputable def Yz.as (a0 : LD) : List A := [.d (.sl a0)]
noncomputable def Yz.kt {β : Type} (a0 : LD) (K0 : LC → List Out → Option β) : LC → Option β := fun z0 => K0 [[.own z0]] []
noncomputable def Yz.e (k : Nat) : ZQ := { modes := [(.imm, 0)], rts := [93], al := false, run := fun {β} l K => match l with | [.d (.sl a0)] => Yz.f k a0 (Yz.kt a0 K) | _ => none }
noncomputable def Yz.E (k : Nat) : Env := fun g => bif g == 203 then some (Y4.e k) else none
noncomputable def Yz.h : ZY := ⟨fun n => bif n == 3 then ⟨[(0, .asis), (3, .asis), (4, .asis)], []⟩ else ⟨[], []⟩, fun _ => none, false, []⟩
noncomputable def Yz.s0 (aF : LD) (v : Int × LC) : St :=
 match v with
 | (aC, aH) => ⟨[.d false (.sl aF), .any, .any, .row 0, .d true (.int .i64 aC), .any, .any, .any, .any, .any, .any, .any, .any, .any, .any, .any, .any, .any, .any, .any, .any, .any, .any], [.row none true 93 aH]⟩
noncomputable def Yz.b0 {β : Type} (k : Nat) : St → (Ex → St → Option β) → Option β := fun s K => den Try.prog (Yz.E k) Yz.h.H Yz.h.J k (Zad [1, 1, 0, 1, 0, 0] (Zl Try.f132)) s K
noncomputable def Yz.c0 {β : Type} (k : Nat) (a0 : LD) (K0 : LC → List Out → Option β) : Ex → St → Option β := Zae Try.prog (Yz.E k) Yz.h k [1, 1, 0, 1, 0] (Zl Try.f132) (Zak Try.prog Try.f132 Yz.h (Yz.as a0) K0)
theorem Yz.l0_eq {β : Type} (k : Nat) (a0 : LD) (K0 : LC → List Out → Option β) (aF : LD) : ∀ (kk : Nat) (v : Int × LC), Zx (Yz.b0 k) (Yz.h.H 3) kk (Yz.s0 aF v) (Yz.c0 k a0 K0) = Z4 (Yz.l0 k aF (Yz.kt a0 K0)) kk v :=
 Z9 (Yz.s0 aF) _ (fun L0 v => by obtain ⟨aC, aH⟩ := v; kernel_rfl)
noncomputable def Yz.m {β : Type} (k : Nat) (a0 : LD) (K0 : LC → List Out → Option β) (F : (LD → (Int × LC) → Option β)) : Option β :=
 ZH ((0 : Int) ≤ (a0.length : Int) ∧ (a0.length : Int) ≤ (Z6 : Int) ∧ (a0.length : Int) ≤ (a0.length : Int) ∧ (a0.length : Int) ≤ (a0.length : Int)) ((F) a0 (0, List.replicate (Int.toNat (a0.length : Int)) ([.d (.int .i64 0), .d (.bool false), .d (.int .i64 0), .d (.str (⟨#[]⟩ : BA)), .d (.int .i64 0), .d (.int .i64 0), .d (.int .i64 0), .d (.bool false), .own ([] : LC), .d (.int .i64 0), .d (.str (⟨#[]⟩ : BA)), .d (.int .i64 0), .own ([] : LC), .own ([] : LC), .d (.int .i64 0), .d (.str (⟨#[]⟩ : BA)), .d (.int .i64 0), .own ([] : LC), .own ([] : LC)] : List C)))
theorem Yz.f_eq {β : Type} (k : Nat) (a0 : LD) (K0 : LC → List Out → Option β) : ZJ Try.prog (Yz.E k) Yz.h k Try.f132 (Yz.as a0) K0 = Yz.g k a0 (Yz.kt a0 K0) := Eq.trans (b := (Yz.m k a0 K0) (fun (aF : LD) (v : Int × LC) => Zx (Yz.b0 k) (Yz.h.H 3) k (Yz.s0 aF v) (Yz.c0 k a0 K0))) (by kernel_rfl) (Eq.trans (congrArg (Yz.m k a0 K0) (funext fun aF => funext fun v => Yz.l0_eq k a0 K0 aF k v)) (by kernel_rfl))
noncomputable def Yz.dec (rs : LC) (os : List Out) : Option (LC) := Zd rs fun c1 r2 => Zd c1 fun x3 l4 => ZaU x3 fun w0 => Ze l4 <| Ze r2 <| Ze os (some w0)
theorem Yz.kt_dec (a0 : LD) : Yz.kt a0 Yz.dec = (fun z0 => some z0) := by kernel_rfl
theorem Yz.inj (a0 : LD) {rs : LC} {os : List Out} {z0 : LC} (h : Yz.dec rs os = some z0) (ho : Zo (Yz.as a0) os) : rs = [[.own z0]] ∧ os = [] := by
 unfold Yz.dec at h
 obtain ⟨c1, r2, rfl, h1⟩ := Zb h
 obtain ⟨x3, l4, rfl, h2⟩ := Zb h1
 obtain ⟨w0, rfl, h3⟩ := ZN h2
 obtain ⟨rfl, h4⟩ := Zc h3
 obtain ⟨rfl, h5⟩ := Zc h4
 obtain ⟨rfl, h6⟩ := Zc h5
 obtain rfl := Option.some.inj h6
 exact ⟨rfl, rfl⟩
theorem Yz.ok (k : Nat) : Zv Try.prog 132 (Yz.e k) := by
 refine Zu mix tyok (fn := Try.f132) (c := Zl Try.f132) Try.func132 (by kernel_rfl) (h := Yz.h) (k := k) (E := Yz.E k) (Zk (Y4.ok k) Zz) (by kernel_rfl) (by kernel_rfl) rfl (Zq Try.func132 (by kernel_rfl)) ?_
 intro β l K r hr
 simp only [Yz.e] at hr
 split at hr
 case h_2 => cases hr
 unfold Yz.f at hr
 split at hr
 case h_2 => cases hr
 rename_i hz
 exact ⟨_, _, hr, _, Yz.dec, _, (Yz.f_eq k _ Yz.dec).trans (by rw [Yz.kt_dec]; exact hz), fun rs os h ho => Yz.inj _ h ho⟩
noncomputable def Y7.g {β : Type} (k : Nat) (aB : LD) (aA aE : Int) (aD : LD) (K : LC → Int → Int → LC → Option β) : Option β :=
 YP.f k aB (fun y140 => Yz.f k aD (fun y155 => K y140 aA aE y155))
noncomputable def Y7.t (k : Nat) (aB : LD) (aA aE : Int) (aD : LD) : Option (LC × Int × Int × LC) := Y7.g k aB aA aE aD (fun z0 z1 z2 z3 => some (z0, z1, z2, z3))
noncomputable def Y7.f {β : Type} (k : Nat) (aB : LD) (aA aE : Int) (aD : LD) (K : LC → Int → Int → LC → Option β) : Option β :=
 match Y7.t k aB aA aE aD with
 | some (z0, z1, z2, z3) => K z0 z1 z2 z3
 | none => none
noncomputable def Y7.as (aB : LD) (aA aE : Int) (aD : LD) : List A := [.agg [.sl aB, .int .i64 aA, .int .i64 aE, .sl aD]]
noncomputable def Y7.kt {β : Type} (aB : LD) (aA aE : Int) (aD : LD) (K0 : LC → List Out → Option β) : LC → Int → Int → LC → Option β := fun z0 z1 z2 z3 => K0 [[.own z0, .d (.int .i64 z1), .d (.int .i64 z2), .own z3]] []
noncomputable def Y7.e (k : Nat) : ZQ := { modes := [(.imm, 0)], rts := [95], al := false, run := fun {β} l K => match l with | [.agg [.sl aB, .int .i64 aA, .int .i64 aE, .sl aD]] => Y7.f k aB aA aE aD (Y7.kt aB aA aE aD K) | _ => none }
noncomputable def Y7.E (k : Nat) : Env := fun g => bif g == 125 then some (YP.e k) else bif g == 132 then some (Yz.e k) else none
noncomputable def Y7.h : ZY := ⟨fun n => ⟨[], []⟩, fun _ => none, false, []⟩
theorem Y7.f_eq {β : Type} (k : Nat) (aB : LD) (aA aE : Int) (aD : LD) (K0 : LC → List Out → Option β) : ZJ Try.prog (Y7.E k) Y7.h k Try.f51 (Y7.as aB aA aE aD) K0 = Y7.g k aB aA aE aD (Y7.kt aB aA aE aD K0) := by kernel_rfl
noncomputable def Y7.dec (rs : LC) (os : List Out) : Option (LC × Int × Int × LC) := Zd rs fun c1 r2 => Zd c1 fun x3 l4 => ZaU x3 fun w0 => Zd l4 fun x5 l6 => cD x5 fun d7 => ZM .i64 d7 fun w1 => Zd l6 fun x8 l9 => cD x8 fun d10 => ZM .i64 d10 fun w2 => Zd l9 fun x11 l12 => ZaU x11 fun w3 => Ze l12 <| Ze r2 <| Ze os (some (w0, w1, w2, w3))
theorem Y7.kt_dec (aB : LD) (aA aE : Int) (aD : LD) : Y7.kt aB aA aE aD Y7.dec = (fun z0 z1 z2 z3 => some (z0, z1, z2, z3)) := by kernel_rfl
theorem Y7.inj (aB : LD) (aA aE : Int) (aD : LD) {rs : LC} {os : List Out} {z0 : LC} {z1 z2 : Int} {z3 : LC} (h : Y7.dec rs os = some (z0, z1, z2, z3)) (ho : Zo (Y7.as aB aA aE aD) os) : rs = [[.own z0, .d (.int .i64 z1), .d (.int .i64 z2), .own z3]] ∧ os = [] := by
 unfold Y7.dec at h
 obtain ⟨c1, r2, rfl, h1⟩ := Zb h
 obtain ⟨x3, l4, rfl, h2⟩ := Zb h1
 obtain ⟨w0, rfl, h3⟩ := ZN h2
 obtain ⟨x5, l6, rfl, h4⟩ := Zb h3
 obtain ⟨d7, rfl, h5⟩ := Zt h4
 obtain ⟨w1, rfl, h6⟩ := ZA h5
 obtain ⟨x8, l9, rfl, h7⟩ := Zb h6
 obtain ⟨d10, rfl, h8⟩ := Zt h7
 obtain ⟨w2, rfl, h9⟩ := ZA h8
 obtain ⟨x11, l12, rfl, h10⟩ := Zb h9
 obtain ⟨w3, rfl, h11⟩ := ZN h10
 obtain ⟨rfl, h12⟩ := Zc h11
 obtain ⟨rfl, h13⟩ := Zc h12
 obtain ⟨rfl, h14⟩ := Zc h13
 simp only [Option.some.injEq, Prod.mk.injEq] at h14
 obtain ⟨rfl, rfl, rfl, rfl⟩ := h14
 exact ⟨rfl, rfl⟩
theorem Y7.ok (k : Nat) : Zv Try.prog 51 (Y7.e k) := by
 refine Zu mix tyok (fn := Try.f51) (c := Zl Try.f51) Try.func51 (by kernel_rfl) (h := Y7.h) (k := k) (E := Y7.E k) (Zk (YP.ok k) (Zk (Yz.ok k) Zz)) (by kernel_rfl) (by kernel_rfl) rfl (Zq Try.func51 (by kernel_rfl)) ?_
 intro β l K r hr
 simp only [Y7.e] at hr
 split at hr
 case h_2 => cases hr
 unfold Y7.f at hr
 split at hr
 case h_2 => cases hr
 rename_i hz
 exact ⟨_, _, hr, _, Y7.dec, _, (Y7.f_eq k _ _ _ _ Y7.dec).trans (by rw [Y7.kt_dec]; exact hz), fun rs os h ho => Y7.inj _ _ _ _ h ho⟩
noncomputable def YY.g {β : Type} (k : Nat) (a0 a1 a2 : Int) (K : Bool → Option β) : Option β :=
 bif (decide ((a0 : Int) ≥ a1)) then (K (decide ((a0 : Int) ≤ a2))) else (K false)
noncomputable def YY.t (k : Nat) (a0 a1 a2 : Int) : Option (Bool) := YY.g k a0 a1 a2 (fun z0 => some z0)
noncomputable def YY.f {β : Type} (k : Nat) (a0 a1 a2 : Int) (K : Bool → Option β) : Option β :=
 match YY.t k a0 a1 a2 with
 | some z0 => K z0
 | none => none
noncomputable def YY.as (a0 a1 a2 : Int) : List A := [.d (.int .i64 a0), .d (.int .i64 a1), .d (.int .i64 a2)]
noncomputable def YY.kt {β : Type} (a0 a1 a2 : Int) (K0 : LC → List Out → Option β) : Bool → Option β := fun z0 => K0 [[.d (.bool z0)]] []
noncomputable def YY.e (k : Nat) : ZQ := { modes := [(.imm, 0), (.imm, 0), (.imm, 0)], rts := [4], al := false, run := fun {β} l K => match l with | [.d (.int .i64 a0), .d (.int .i64 a1), .d (.int .i64 a2)] => YY.f k a0 a1 a2 (YY.kt a0 a1 a2 K) | _ => none }
noncomputable def YY.E (k : Nat) : Env := fun g => none
noncomputable def YY.h : ZY := ⟨fun n => ⟨[], []⟩, fun _ => none, false, []⟩
theorem YY.f_eq {β : Type} (k : Nat) (a0 a1 a2 : Int) (K0 : LC → List Out → Option β) : ZJ Try.prog (YY.E k) YY.h k Try.f123 (YY.as a0 a1 a2) K0 = YY.g k a0 a1 a2 (YY.kt a0 a1 a2 K0) := by kernel_rfl
noncomputable def YY.dec (rs : LC) (os : List Out) : Option (Bool) := Zd rs fun c1 r2 => Zd c1 fun x3 l4 => cD x3 fun d5 => ZaF d5 fun w0 => Ze l4 <| Ze r2 <| Ze os (some w0)
theorem YY.kt_dec (a0 a1 a2 : Int) : YY.kt a0 a1 a2 YY.dec = (fun z0 => some z0) := by kernel_rfl
theorem YY.inj (a0 a1 a2 : Int) {rs : LC} {os : List Out} {z0 : Bool} (h : YY.dec rs os = some z0) (ho : Zo (YY.as a0 a1 a2) os) : rs = [[.d (.bool z0)]] ∧ os = [] := by
 unfold YY.dec at h
 obtain ⟨c1, r2, rfl, h1⟩ := Zb h
 obtain ⟨x3, l4, rfl, h2⟩ := Zb h1
 obtain ⟨d5, rfl, h3⟩ := Zt h2
 obtain ⟨w0, rfl, h4⟩ := Z0 h3
 obtain ⟨rfl, h5⟩ := Zc h4
 obtain ⟨rfl, h6⟩ := Zc h5
 obtain ⟨rfl, h7⟩ := Zc h6
 obtain rfl := Option.some.inj h7
 exact ⟨rfl, rfl⟩
theorem YY.ok (k : Nat) : Zv Try.prog 123 (YY.e k) := by
 refine Zu mix tyok (fn := Try.f123) (c := Zl Try.f123) Try.func123 (by kernel_rfl) (h := YY.h) (k := k) (E := YY.E k) Zz (by kernel_rfl) (by kernel_rfl) rfl (Zq Try.func123 (by kernel_rfl)) ?_
 intro β l K r hr
 simp only [YY.e] at hr
 split at hr
 case h_2 => cases hr
 unfold YY.f at hr
 split at hr
 case h_2 => cases hr
 rename_i hz
 exact ⟨_, _, hr, _, YY.dec, _, (YY.f_eq k _ _ _ YY.dec).trans (by rw [YY.kt_dec]; exact hz), fun rs os h ho => YY.inj _ _ _ h ho⟩
noncomputable def Yq.l0 {β : Type} (k : Nat) (aF : BA) (K : Bool → Option β) (L0 : Int → Option β) (v : Int) : Option β :=
 match v with
 | aC => bif (decide ((aC : Int) < (aF.size : Int))) then (atStr aF aC fun b9 => YY.f k (IntKind.wrap .i64 b9) 97 122 (fun y10 => bif (!y10) then (atStr aF aC fun b11 => YY.f k (IntKind.wrap .i64 b11) 48 57 (fun y12 => bif (!y12) then (atStr aF aC fun b13 => bif ((b13 : Int) != 45) then (K false) else (L0 (IntKind.wrap .i64 (aC + 1)))) else (L0 (IntKind.wrap .i64 (aC + 1))))) else (L0 (IntKind.wrap .i64 (aC + 1))))) else (YY.f k (aF.size : Int) 1 20 (fun y14 => bif y14 then (atStr aF 0 fun b15 => bif ((b15 : Int) != 45) then (atStr aF (IntKind.wrap .i64 ((aF.size : Int) - 1)) fun b16 => K ((b16 : Int) != 45)) else (K false)) else (K false)))
noncomputable def Yq.g {β : Type} (k : Nat) (a0 : BA) (K : Bool → Option β) : Option β :=
 Z4 (Yq.l0 k a0 K) k (0)
noncomputable def Yq.t (k : Nat) (a0 : BA) : Option (Bool) := Yq.g k a0 (fun z0 => some z0)
noncomputable def Yq.f {β : Type} (k : Nat) (a0 : BA) (K : Bool → Option β) : Option β :=
 match Yq.t k a0 with
 | some z0 => K z0
 | none => none
noncomputable def Yq.as (a0 : BA) : List A := [.d (.str a0)]
noncomputable def Yq.kt {β : Type} (a0 : BA) (K0 : LC → List Out → Option β) : Bool → Option β := fun z0 => K0 [[.d (.bool z0)]] []
noncomputable def Yq.e (k : Nat) : ZQ := { modes := [(.imm, 0)], rts := [4], al := false, run := fun {β} l K => match l with | [.d (.str a0)] => Yq.f k a0 (Yq.kt a0 K) | _ => none }
noncomputable def Yq.E (k : Nat) : Env := fun g => bif g == 123 then some (YY.e k) else none
noncomputable def Yq.h : ZY := ⟨fun n => bif n == 2 then ⟨[(0, .asis), (3, .asis)], []⟩ else ⟨[], []⟩, fun _ => none, false, []⟩
noncomputable def Yq.s0 (aF : BA) (v : Int) : St :=
 match v with
 | aC => ⟨[.d false (.str aF), .any, .any, .d true (.int .i64 aC), .any, .any, .any, .any, .any, .any, .any, .any, .any, .any, .any, .any, .any, .any, .any, .any, .any, .any, .any, .any, .any, .any, .any, .any, .any, .any, .any, .any, .any, .any, .any, .any, .any, .any, .any, .any, .any, .any, .any, .any, .any, .any], []⟩
noncomputable def Yq.b0 {β : Type} (k : Nat) : St → (Ex → St → Option β) → Option β := fun s K => den Try.prog (Yq.E k) Yq.h.H Yq.h.J k (Zad [1, 0, 1, 0, 0] (Zl Try.f94)) s K
noncomputable def Yq.c0 {β : Type} (k : Nat) (a0 : BA) (K0 : LC → List Out → Option β) : Ex → St → Option β := Zae Try.prog (Yq.E k) Yq.h k [1, 0, 1, 0] (Zl Try.f94) (Zak Try.prog Try.f94 Yq.h (Yq.as a0) K0)
theorem Yq.l0_eq {β : Type} (k : Nat) (a0 : BA) (K0 : LC → List Out → Option β) (aF : BA) : ∀ (kk : Nat) (v : Int), Zx (Yq.b0 k) (Yq.h.H 2) kk (Yq.s0 aF v) (Yq.c0 k a0 K0) = Z4 (Yq.l0 k aF (Yq.kt a0 K0)) kk v :=
 Z9 (Yq.s0 aF) _ (fun L0 v => by kernel_rfl)
noncomputable def Yq.m {β : Type} (k : Nat) (a0 : BA) (K0 : LC → List Out → Option β) (F : (BA → Int → Option β)) : Option β :=
 (F) a0 (0)
theorem Yq.f_eq {β : Type} (k : Nat) (a0 : BA) (K0 : LC → List Out → Option β) : ZJ Try.prog (Yq.E k) Yq.h k Try.f94 (Yq.as a0) K0 = Yq.g k a0 (Yq.kt a0 K0) := Eq.trans (b := (Yq.m k a0 K0) (fun (aF : BA) (v : Int) => Zx (Yq.b0 k) (Yq.h.H 2) k (Yq.s0 aF v) (Yq.c0 k a0 K0))) (by kernel_rfl) (Eq.trans (congrArg (Yq.m k a0 K0) (funext fun aF => funext fun v => Yq.l0_eq k a0 K0 aF k v)) (by kernel_rfl))
noncomputable def Yq.dec (rs : LC) (os : List Out) : Option (Bool) := Zd rs fun c1 r2 => Zd c1 fun x3 l4 => cD x3 fun d5 => ZaF d5 fun w0 => Ze l4 <| Ze r2 <| Ze os (some w0)
theorem Yq.kt_dec (a0 : BA) : Yq.kt a0 Yq.dec = (fun z0 => some z0) := by kernel_rfl
theorem Yq.inj (a0 : BA) {rs : LC} {os : List Out} {z0 : Bool} (h : Yq.dec rs os = some z0) (ho : Zo (Yq.as a0) os) : rs = [[.d (.bool z0)]] ∧ os = [] := by
 unfold Yq.dec at h
 obtain ⟨c1, r2, rfl, h1⟩ := Zb h
 obtain ⟨x3, l4, rfl, h2⟩ := Zb h1
 obtain ⟨d5, rfl, h3⟩ := Zt h2
 obtain ⟨w0, rfl, h4⟩ := Z0 h3
 obtain ⟨rfl, h5⟩ := Zc h4
 obtain ⟨rfl, h6⟩ := Zc h5
 obtain ⟨rfl, h7⟩ := Zc h6
 obtain rfl := Option.some.inj h7
 exact ⟨rfl, rfl⟩
theorem Yq.ok (k : Nat) : Zv Try.prog 94 (Yq.e k) := by
 refine Zu mix tyok (fn := Try.f94) (c := Zl Try.f94) Try.func94 (by kernel_rfl) (h := Yq.h) (k := k) (E := Yq.E k) (Zk (YY.ok k) Zz) (by kernel_rfl) (by kernel_rfl) rfl (Zq Try.func94 (by kernel_rfl)) ?_
 intro β l K r hr
 simp only [Yq.e] at hr
 split at hr
 case h_2 => cases hr
 unfold Yq.f at hr
 split at hr
 case h_2 => cases hr
 rename_i hz
 exact ⟨_, _, hr, _, Yq.dec, _, (Yq.f_eq k _ Yq.dec).trans (by rw [Yq.kt_dec]; exact hz), fun rs os h ho => Yq.inj _ h ho⟩
noncomputable def Yu.l0 {β : Type} (k : Nat) (aF : LD) (K : Bool → Option β) (L0 : Int → Option β) (v : Int) : Option β :=
 match v with
 | aC => bif (decide ((aC : Int) < (aF.length : Int))) then (ZX aF aC fun c14 => Zd c14 fun d r => Zan d fun x17 => Ze r (Yq.f k x17 (fun y18 => bif (!y18) then (K false) else (bif (decide ((aC : Int) > 0)) then (ZX aF (IntKind.wrap .i64 (aC - 1)) fun c19 => Zd c19 fun d r => Zan d fun x22 => Ze r (ZX aF aC fun c23 => Zd c23 fun d r => Zan d fun x26 => Ze r (bif (!(strLt x22 x26)) then (K false) else (L0 (IntKind.wrap .i64 (aC + 1)))))) else (L0 (IntKind.wrap .i64 (aC + 1))))))) else (K (decide (((aF.length : Int) : Int) ≤ 4)))
noncomputable def Yu.g {β : Type} (k : Nat) (a0 : LD) (K : Bool → Option β) : Option β :=
 Z4 (Yu.l0 k a0 K) k (0)
noncomputable def Yu.t (k : Nat) (a0 : LD) : Option (Bool) := Yu.g k a0 (fun z0 => some z0)
noncomputable def Yu.f {β : Type} (k : Nat) (a0 : LD) (K : Bool → Option β) : Option β :=
 match Yu.t k a0 with
 | some z0 => K z0
 | none => none
noncomputable def Yu.as (a0 : LD) : List A := [.d (.sl a0)]
noncomputable def Yu.kt {β : Type} (a0 : LD) (K0 : LC → List Out → Option β) : Bool → Option β := fun z0 => K0 [[.d (.bool z0)]] []
noncomputable def Yu.e (k : Nat) : ZQ := { modes := [(.imm, 0)], rts := [4], al := false, run := fun {β} l K => match l with | [.d (.sl a0)] => Yu.f k a0 (Yu.kt a0 K) | _ => none }
noncomputable def Yu.E (k : Nat) : Env := fun g => bif g == 94 then some (Yq.e k) else none
noncomputable def Yu.h : ZY := ⟨fun n => bif n == 2 then ⟨[(0, .asis), (3, .asis)], []⟩ else ⟨[], []⟩, fun _ => none, false, []⟩
noncomputable def Yu.s0 (aF : LD) (v : Int) : St :=
 match v with
 | aC => ⟨[.d false (.sl aF), .any, .any, .d true (.int .i64 aC), .any, .any, .any, .any, .any, .any, .any, .any, .any, .any, .any, .any, .any, .any, .any, .any, .any, .any, .any, .any, .any, .any, .any, .any, .any, .any, .any, .any, .any, .any, .any], []⟩
noncomputable def Yu.b0 {β : Type} (k : Nat) : St → (Ex → St → Option β) → Option β := fun s K => den Try.prog (Yu.E k) Yu.h.H Yu.h.J k (Zad [1, 0, 1, 0, 0] (Zl Try.f227)) s K
noncomputable def Yu.c0 {β : Type} (k : Nat) (a0 : LD) (K0 : LC → List Out → Option β) : Ex → St → Option β := Zae Try.prog (Yu.E k) Yu.h k [1, 0, 1, 0] (Zl Try.f227) (Zak Try.prog Try.f227 Yu.h (Yu.as a0) K0)
theorem Yu.l0_eq {β : Type} (k : Nat) (a0 : LD) (K0 : LC → List Out → Option β) (aF : LD) : ∀ (kk : Nat) (v : Int), Zx (Yu.b0 k) (Yu.h.H 2) kk (Yu.s0 aF v) (Yu.c0 k a0 K0) = Z4 (Yu.l0 k aF (Yu.kt a0 K0)) kk v :=
 Z9 (Yu.s0 aF) _ (fun L0 v => by kernel_rfl)
noncomputable def Yu.m {β : Type} (k : Nat) (a0 : LD) (K0 : LC → List Out → Option β) (F : (LD → Int → Option β)) : Option β :=
 (F) a0 (0)
theorem Yu.f_eq {β : Type} (k : Nat) (a0 : LD) (K0 : LC → List Out → Option β) : ZJ Try.prog (Yu.E k) Yu.h k Try.f227 (Yu.as a0) K0 = Yu.g k a0 (Yu.kt a0 K0) := Eq.trans (b := (Yu.m k a0 K0) (fun (aF : LD) (v : Int) => Zx (Yu.b0 k) (Yu.h.H 2) k (Yu.s0 aF v) (Yu.c0 k a0 K0))) (by kernel_rfl) (Eq.trans (congrArg (Yu.m k a0 K0) (funext fun aF => funext fun v => Yu.l0_eq k a0 K0 aF k v)) (by kernel_rfl))
noncomputable def Yu.dec (rs : LC) (os : List Out) : Option (Bool) := Zd rs fun c1 r2 => Zd c1 fun x3 l4 => cD x3 fun d5 => ZaF d5 fun w0 => Ze l4 <| Ze r2 <| Ze os (some w0)
theorem Yu.kt_dec (a0 : LD) : Yu.kt a0 Yu.dec = (fun z0 => some z0) := by kernel_rfl
theorem Yu.inj (a0 : LD) {rs : LC} {os : List Out} {z0 : Bool} (h : Yu.dec rs os = some z0) (ho : Zo (Yu.as a0) os) : rs = [[.d (.bool z0)]] ∧ os = [] := by
 unfold Yu.dec at h
 obtain ⟨c1, r2, rfl, h1⟩ := Zb h
 obtain ⟨x3, l4, rfl, h2⟩ := Zb h1
 obtain ⟨d5, rfl, h3⟩ := Zt h2
 obtain ⟨w0, rfl, h4⟩ := Z0 h3
 obtain ⟨rfl, h5⟩ := Zc h4
 obtain ⟨rfl, h6⟩ := Zc h5
 obtain ⟨rfl, h7⟩ := Zc h6
 obtain rfl := Option.some.inj h7
 exact ⟨rfl, rfl⟩
theorem Yu.ok (k : Nat) : Zv Try.prog 227 (Yu.e k) := by
 refine Zu mix tyok (fn := Try.f227) (c := Zl Try.f227) Try.func227 (by kernel_rfl) (h := Yu.h) (k := k) (E := Yu.E k) (Zk (Yq.ok k) Zz) (by kernel_rfl) (by kernel_rfl) rfl (Zq Try.func227 (by kernel_rfl)) ?_
 intro β l K r hr
 simp only [Yu.e] at hr
 split at hr
 case h_2 => cases hr
 unfold Yu.f at hr
 split at hr
 case h_2 => cases hr
 rename_i hz
 exact ⟨_, _, hr, _, Yu.dec, _, (Yu.f_eq k _ Yu.dec).trans (by rw [Yu.kt_dec]; exact hz), fun rs os h ho => Yu.inj _ h ho⟩
noncomputable def YW.l0 {β : Type} (k : Nat) (aF : BA) (K : Bool → Option β) (L0 : Int → Option β) (v : Int) : Option β :=
 match v with
 | aC => bif (decide ((aC : Int) < (aF.size : Int))) then (atStr aF aC fun b3 => YY.f k (IntKind.wrap .i64 b3) 32 126 (fun y4 => bif (!y4) then (K false) else (L0 (IntKind.wrap .i64 (aC + 1))))) else (K (decide (((aF.size : Int) : Int) ≤ 100)))
noncomputable def YW.g {β : Type} (k : Nat) (a0 : BA) (K : Bool → Option β) : Option β :=
 Z4 (YW.l0 k a0 K) k (0)
noncomputable def YW.t (k : Nat) (a0 : BA) : Option (Bool) := YW.g k a0 (fun z0 => some z0)
noncomputable def YW.f {β : Type} (k : Nat) (a0 : BA) (K : Bool → Option β) : Option β :=
 match YW.t k a0 with
 | some z0 => K z0
 | none => none
noncomputable def YW.as (a0 : BA) : List A := [.d (.str a0)]
noncomputable def YW.kt {β : Type} (a0 : BA) (K0 : LC → List Out → Option β) : Bool → Option β := fun z0 => K0 [[.d (.bool z0)]] []
noncomputable def YW.e (k : Nat) : ZQ := { modes := [(.imm, 0)], rts := [4], al := false, run := fun {β} l K => match l with | [.d (.str a0)] => YW.f k a0 (YW.kt a0 K) | _ => none }
noncomputable def YW.E (k : Nat) : Env := fun g => bif g == 123 then some (YY.e k) else none
noncomputable def YW.h : ZY := ⟨fun n => bif n == 2 then ⟨[(0, .asis), (3, .asis)], []⟩ else ⟨[], []⟩, fun _ => none, false, []⟩
noncomputable def YW.s0 (aF : BA) (v : Int) : St :=
 match v with
 | aC => ⟨[.d false (.str aF), .any, .any, .d true (.int .i64 aC), .any, .any, .any, .any, .any, .any, .any, .any, .any, .any, .any, .any, .any, .any, .any], []⟩
noncomputable def YW.b0 {β : Type} (k : Nat) : St → (Ex → St → Option β) → Option β := fun s K => den Try.prog (YW.E k) YW.h.H YW.h.J k (Zad [1, 0, 1, 0, 0] (Zl Try.f247)) s K
noncomputable def YW.c0 {β : Type} (k : Nat) (a0 : BA) (K0 : LC → List Out → Option β) : Ex → St → Option β := Zae Try.prog (YW.E k) YW.h k [1, 0, 1, 0] (Zl Try.f247) (Zak Try.prog Try.f247 YW.h (YW.as a0) K0)
theorem YW.l0_eq {β : Type} (k : Nat) (a0 : BA) (K0 : LC → List Out → Option β) (aF : BA) : ∀ (kk : Nat) (v : Int), Zx (YW.b0 k) (YW.h.H 2) kk (YW.s0 aF v) (YW.c0 k a0 K0) = Z4 (YW.l0 k aF (YW.kt a0 K0)) kk v :=
 Z9 (YW.s0 aF) _ (fun L0 v => by kernel_rfl)
noncomputable def YW.m {β : Type} (k : Nat) (a0 : BA) (K0 : LC → List Out → Option β) (F : (BA → Int → Option β)) : Option β :=
 (F) a0 (0)
theorem YW.f_eq {β : Type} (k : Nat) (a0 : BA) (K0 : LC → List Out → Option β) : ZJ Try.prog (YW.E k) YW.h k Try.f247 (YW.as a0) K0 = YW.g k a0 (YW.kt a0 K0) := Eq.trans (b := (YW.m k a0 K0) (fun (aF : BA) (v : Int) => Zx (YW.b0 k) (YW.h.H 2) k (YW.s0 aF v) (YW.c0 k a0 K0))) (by kernel_rfl) (Eq.trans (congrArg (YW.m k a0 K0) (funext fun aF => funext fun v => YW.l0_eq k a0 K0 aF k v)) (by kernel_rfl))
noncomputable def YW.dec (rs : LC) (os : List Out) : Option (Bool) := Zd rs fun c1 r2 => Zd c1 fun x3 l4 => cD x3 fun d5 => ZaF d5 fun w0 => Ze l4 <| Ze r2 <| Ze os (some w0)
theorem YW.kt_dec (a0 : BA) : YW.kt a0 YW.dec = (fun z0 => some z0) := by kernel_rfl
theorem YW.inj (a0 : BA) {rs : LC} {os : List Out} {z0 : Bool} (h : YW.dec rs os = some z0) (ho : Zo (YW.as a0) os) : rs = [[.d (.bool z0)]] ∧ os = [] := by
 unfold YW.dec at h
 obtain ⟨c1, r2, rfl, h1⟩ := Zb h
 obtain ⟨x3, l4, rfl, h2⟩ := Zb h1
 obtain ⟨d5, rfl, h3⟩ := Zt h2
 obtain ⟨w0, rfl, h4⟩ := Z0 h3
 obtain ⟨rfl, h5⟩ := Zc h4
 obtain ⟨rfl, h6⟩ := Zc h5
 obtain ⟨rfl, h7⟩ := Zc h6
 obtain rfl := Option.some.inj h7
 exact ⟨rfl, rfl⟩
theorem YW.ok (k : Nat) : Zv Try.prog 247 (YW.e k) := by
 refine Zu mix tyok (fn := Try.f247) (c := Zl Try.f247) Try.func247 (by kernel_rfl) (h := YW.h) (k := k) (E := YW.E k) (Zk (YY.ok k) Zz) (by kernel_rfl) (by kernel_rfl) rfl (Zq Try.func247 (by kernel_rfl)) ?_
 intro β l K r hr
 simp only [YW.e] at hr
 split at hr
 case h_2 => cases hr
 unfold YW.f at hr
 split at hr
 case h_2 => cases hr
 rename_i hz
 exact ⟨_, _, hr, _, YW.dec, _, (YW.f_eq k _ YW.dec).trans (by rw [YW.kt_dec]; exact hz), fun rs os h ho => YW.inj _ h ho⟩
noncomputable def YT.l0 {β : Type} (k : Nat) (aC : Int) (aH : BA) (aW : Int) (bA bB : LD) (K : Bool → Option β) (L0 : Int → Option β) (v : Int) : Option β :=
 match v with
 | aF => bif (decide ((aF : Int) < (bA.length : Int))) then (ZX bA aF fun c14 => Zd c14 fun d r => Zan d fun x17 => Ze r (Yq.f k x17 (fun y18 => bif (!y18) then (K false) else (bif (decide ((aF : Int) > 0)) then (ZX bA (IntKind.wrap .i64 (aF - 1)) fun c19 => Zd c19 fun d r => Zan d fun x22 => Ze r (ZX bA aF fun c23 => Zd c23 fun d r => Zan d fun x26 => Ze r (bif (!(strLt x22 x26)) then (K false) else (L0 (IntKind.wrap .i64 (aF + 1)))))) else (L0 (IntKind.wrap .i64 (aF + 1))))))) else (K (((bA.length : Int) : Int) == (bB.length : Int)))
noncomputable def YT.g {β : Type} (k : Nat) (aB : Int) (aA : BA) (aE : Int) (aD aG : LD) (K : Bool → Option β) : Option β :=
 Z4 (YT.l0 k aB aA aE aD aG K) k (0)
noncomputable def YT.t (k : Nat) (aB : Int) (aA : BA) (aE : Int) (aD aG : LD) : Option (Bool) := YT.g k aB aA aE aD aG (fun z0 => some z0)
noncomputable def YT.f {β : Type} (k : Nat) (aB : Int) (aA : BA) (aE : Int) (aD aG : LD) (K : Bool → Option β) : Option β :=
 match YT.t k aB aA aE aD aG with
 | some z0 => K z0
 | none => none
noncomputable def YT.as (aB : Int) (aA : BA) (aE : Int) (aD aG : LD) : List A := [.agg [.int .i64 aB, .str aA, .int .i64 aE, .sl aD, .sl aG]]
noncomputable def YT.kt {β : Type} (aB : Int) (aA : BA) (aE : Int) (aD aG : LD) (K0 : LC → List Out → Option β) : Bool → Option β := fun z0 => K0 [[.d (.bool z0)]] []
noncomputable def YT.e (k : Nat) : ZQ := { modes := [(.imm, 0)], rts := [4], al := false, run := fun {β} l K => match l with | [.agg [.int .i64 aB, .str aA, .int .i64 aE, .sl aD, .sl aG]] => YT.f k aB aA aE aD aG (YT.kt aB aA aE aD aG K) | _ => none }
noncomputable def YT.E (k : Nat) : Env := fun g => bif g == 94 then some (Yq.e k) else none
noncomputable def YT.h : ZY := ⟨fun n => bif n == 2 then ⟨[(1, .asis), (3, .asis)], []⟩ else ⟨[], []⟩, fun _ => none, false, []⟩
noncomputable def YT.s0 (aC : Int) (aH : BA) (aW : Int) (bA bB : LD) (v : Int) : St :=
 match v with
 | aF => ⟨[.any, .bp 0 0, .any, .d true (.int .i64 aF), .any, .any, .any, .any, .any, .any, .any, .any, .any, .any, .any, .any, .any, .any, .any, .any, .any, .any, .any, .any, .any, .any, .any, .any, .any, .any, .any, .any, .any, .any, .any, .any, .any, .any, .any, .any, .any, .any, .any], [.box none 151 [.d false (.int .i64 aC), .d false (.str aH), .d false (.int .i64 aW), .d false (.sl bA), .d false (.sl bB)]]⟩
noncomputable def YT.b0 {β : Type} (k : Nat) : St → (Ex → St → Option β) → Option β := fun s K => den Try.prog (YT.E k) YT.h.H YT.h.J k (Zad [1, 0, 1, 0, 0] (Zl Try.f248)) s K
noncomputable def YT.c0 {β : Type} (k : Nat) (aB : Int) (aA : BA) (aE : Int) (aD aG : LD) (K0 : LC → List Out → Option β) : Ex → St → Option β := Zae Try.prog (YT.E k) YT.h k [1, 0, 1, 0] (Zl Try.f248) (Zak Try.prog Try.f248 YT.h (YT.as aB aA aE aD aG) K0)
theorem YT.l0_eq {β : Type} (k : Nat) (aB : Int) (aA : BA) (aE : Int) (aD aG : LD) (K0 : LC → List Out → Option β) (aC : Int) (aH : BA) (aW : Int) (bA bB : LD) : ∀ (kk : Nat) (v : Int), Zx (YT.b0 k) (YT.h.H 2) kk (YT.s0 aC aH aW bA bB v) (YT.c0 k aB aA aE aD aG K0) = Z4 (YT.l0 k aC aH aW bA bB (YT.kt aB aA aE aD aG K0)) kk v :=
 Z9 (YT.s0 aC aH aW bA bB) _ (fun L0 v => by kernel_rfl)
noncomputable def YT.m {β : Type} (k : Nat) (aB : Int) (aA : BA) (aE : Int) (aD aG : LD) (K0 : LC → List Out → Option β) (F : (Int → BA → Int → LD → LD → Int → Option β)) : Option β :=
 (F) aB aA aE aD aG (0)
theorem YT.f_eq {β : Type} (k : Nat) (aB : Int) (aA : BA) (aE : Int) (aD aG : LD) (K0 : LC → List Out → Option β) : ZJ Try.prog (YT.E k) YT.h k Try.f248 (YT.as aB aA aE aD aG) K0 = YT.g k aB aA aE aD aG (YT.kt aB aA aE aD aG K0) := Eq.trans (b := (YT.m k aB aA aE aD aG K0) (fun (aC : Int) (aH : BA) (aW : Int) (bA : LD) (bB : LD) (v : Int) => Zx (YT.b0 k) (YT.h.H 2) k (YT.s0 aC aH aW bA bB v) (YT.c0 k aB aA aE aD aG K0))) (by kernel_rfl) (Eq.trans (congrArg (YT.m k aB aA aE aD aG K0) (funext fun aC => funext fun aH => funext fun aW => funext fun bA => funext fun bB => funext fun v => YT.l0_eq k aB aA aE aD aG K0 aC aH aW bA bB k v)) (by kernel_rfl))
noncomputable def YT.dec (rs : LC) (os : List Out) : Option (Bool) := Zd rs fun c1 r2 => Zd c1 fun x3 l4 => cD x3 fun d5 => ZaF d5 fun w0 => Ze l4 <| Ze r2 <| Ze os (some w0)
theorem YT.kt_dec (aB : Int) (aA : BA) (aE : Int) (aD aG : LD) : YT.kt aB aA aE aD aG YT.dec = (fun z0 => some z0) := by kernel_rfl
theorem YT.inj (aB : Int) (aA : BA) (aE : Int) (aD aG : LD) {rs : LC} {os : List Out} {z0 : Bool} (h : YT.dec rs os = some z0) (ho : Zo (YT.as aB aA aE aD aG) os) : rs = [[.d (.bool z0)]] ∧ os = [] := by
 unfold YT.dec at h
 obtain ⟨c1, r2, rfl, h1⟩ := Zb h
 obtain ⟨x3, l4, rfl, h2⟩ := Zb h1
 obtain ⟨d5, rfl, h3⟩ := Zt h2
 obtain ⟨w0, rfl, h4⟩ := Z0 h3
 obtain ⟨rfl, h5⟩ := Zc h4
 obtain ⟨rfl, h6⟩ := Zc h5
 obtain ⟨rfl, h7⟩ := Zc h6
 obtain rfl := Option.some.inj h7
 exact ⟨rfl, rfl⟩
theorem YT.ok (k : Nat) : Zv Try.prog 248 (YT.e k) := by
 refine Zu mix tyok (fn := Try.f248) (c := Zl Try.f248) Try.func248 (by kernel_rfl) (h := YT.h) (k := k) (E := YT.E k) (Zk (Yq.ok k) Zz) (by kernel_rfl) (by kernel_rfl) rfl (Zq Try.func248 (by kernel_rfl)) ?_
 intro β l K r hr
 simp only [YT.e] at hr
 split at hr
 case h_2 => cases hr
 unfold YT.f at hr
 split at hr
 case h_2 => cases hr
 rename_i hz
 exact ⟨_, _, hr, _, YT.dec, _, (YT.f_eq k _ _ _ _ _ YT.dec).trans (by rw [YT.kt_dec]; exact hz), fun rs os h ho => YT.inj _ _ _ _ _ h ho⟩
noncomputable def Yv.l0 {β : Type} (k : Nat) (r_spec_l4Look : Int → BA → Int → LD → LD → Int → (Int → Option β) → Option β) (aF aW : Int) (bA : BA) (bB : Int) (bQ bR : LD) (K : Int → Option β) (L0 : (Int × Int) → Option β) (v : Int × Int) : Option β :=
 match v with
 | (aC, aH) => bif (decide ((aH : Int) < (bR.length : Int))) then (ZX bR aH fun c29 => Zd c29 fun d r => ZM .i64 d fun x32 => Zd r fun d r => Zan d fun x35 => Zd r fun d r => ZM .i64 d fun x38 => Zd r fun d r => dSl d fun x41 => Zd r fun d r => dSl d fun x44 => Ze r (r_spec_l4Look x32 x35 x38 x41 x44 (IntKind.wrap .i64 (aF - 1)) (fun y45 => bif ((y45 : Int) == 0) then (K 0) else (bif (decide (((IntKind.wrap .i64 (aC + y45)) : Int) > 300)) then (K 0) else (L0 (IntKind.wrap .i64 (aC + y45), IntKind.wrap .i64 (aH + 1))))))) else (bif (((bQ.length : Int) : Int) == 0) then (bif ((aW : Int) == 1) then (bif (((bR.length : Int) : Int) == 0) then (bif ((bB : Int) == 0) then (YW.f k bA (fun y46 => bif (!y46) then (K 0) else (K aC))) else (K 0)) else (K 0)) else (bif ((aW : Int) == 2) then (bif (((bR.length : Int) : Int) == 0) then (bif (!(strEq bA (⟨#[]⟩ : BA))) then (K 0) else (K aC)) else (K 0)) else (bif ((aW : Int) == 3) then (bif (((bR.length : Int) : Int) == 0) then (bif (strEq bA (⟨#[]⟩ : BA)) then (YY.f k bB 0 1 (fun y47 => bif (!y47) then (K 0) else (K aC))) else (K 0)) else (K 0)) else (bif ((aW : Int) == 4) then (bif (((bQ.length : Int) : Int) == 0) then (bif (strEq bA (⟨#[]⟩ : BA)) then (bif (!((bB : Int) == 0)) then (K 0) else (K aC)) else (K 0)) else (K 0)) else (bif ((aW : Int) == 5) then (YT.f k aW bA bB bQ bR (fun y48 => bif y48 then (bif (strEq bA (⟨#[]⟩ : BA)) then (bif (!((bB : Int) == 0)) then (K 0) else (K aC)) else (K 0)) else (K 0))) else (K 0)))))) else (bif ((aW : Int) == 1) then (K 0) else (bif ((aW : Int) == 2) then (K 0) else (bif ((aW : Int) == 3) then (K 0) else (bif ((aW : Int) == 4) then (bif (((bQ.length : Int) : Int) == 0) then (bif (strEq bA (⟨#[]⟩ : BA)) then (bif (!((bB : Int) == 0)) then (K 0) else (K aC)) else (K 0)) else (K 0)) else (bif ((aW : Int) == 5) then (YT.f k aW bA bB bQ bR (fun y49 => bif y49 then (bif (strEq bA (⟨#[]⟩ : BA)) then (bif (!((bB : Int) == 0)) then (K 0) else (K aC)) else (K 0)) else (K 0))) else (K 0)))))))
noncomputable def Yv.body {β : Type} (k : Nat) (r_spec_l4Look : Int → BA → Int → LD → LD → Int → (Int → Option β) → Option β) (aB : Int) (aA : BA) (aE : Int) (aD aG : LD) (a1 : Int) (K : Int → Option β) : Option β :=
 bif ((a1 : Int) == 0) then (K 0) else (Z4 (Yv.l0 k r_spec_l4Look a1 aB aA aE aD aG K) k (1, 0))
noncomputable def Yv.w {β : Type} (r : Int → BA → Int → LD → LD → Int → Option (Int)) (aB : Int) (aA : BA) (aE : Int) (aD aG : LD) (a1 : Int) (K : Int → Option β) : Option β :=
 match r aB aA aE aD aG a1 with
 | some z0 => K z0
 | none => none
noncomputable def Yv.all : Nat → (Int → BA → Int → LD → LD → Int → Option (Int))
 | 0 => (fun _ _ _ _ _ _ => none)
 | k + 1 => (fun r => (fun aB aA aE aD aG a1 => Yv.body k (Yv.w r) aB aA aE aD aG a1 (fun z0 => some z0))) (Yv.all k)
noncomputable def Yv.t (k : Nat) (aB : Int) (aA : BA) (aE : Int) (aD aG : LD) (a1 : Int) : Option (Int) := (Yv.all k) aB aA aE aD aG a1
noncomputable def Yv.f {β : Type} (k : Nat) (aB : Int) (aA : BA) (aE : Int) (aD aG : LD) (a1 : Int) (K : Int → Option β) : Option β := Yv.w (Yv.t k) aB aA aE aD aG a1 K
noncomputable def Yv.g {β : Type} (k : Nat) (aB : Int) (aA : BA) (aE : Int) (aD aG : LD) (a1 : Int) (K : Int → Option β) : Option β := Yv.body k (Yv.f k) aB aA aE aD aG a1 K
theorem Yv.t_zero (aB : Int) (aA : BA) (aE : Int) (aD aG : LD) (a1 : Int) : Yv.t 0 aB aA aE aD aG a1 = none := rfl
theorem Yv.t_succ (k : Nat) (aB : Int) (aA : BA) (aE : Int) (aD aG : LD) (a1 : Int) : Yv.t (k + 1) aB aA aE aD aG a1 = Yv.g k aB aA aE aD aG a1 (fun z0 => some z0) := rfl
noncomputable def Yv.as (aB : Int) (aA : BA) (aE : Int) (aD aG : LD) (a1 : Int) : List A := [.agg [.int .i64 aB, .str aA, .int .i64 aE, .sl aD, .sl aG], .d (.int .i64 a1)]
noncomputable def Yv.kt {β : Type} (aB : Int) (aA : BA) (aE : Int) (aD aG : LD) (a1 : Int) (K0 : LC → List Out → Option β) : Int → Option β := fun z0 => K0 [[.d (.int .i64 z0)]] []
noncomputable def Yv.e (k : Nat) : ZQ := { modes := [(.imm, 0), (.imm, 0)], rts := [3], al := false, run := fun {β} l K => match l with | [.agg [.int .i64 aB, .str aA, .int .i64 aE, .sl aD, .sl aG], .d (.int .i64 a1)] => Yv.f k aB aA aE aD aG a1 (Yv.kt aB aA aE aD aG a1 K) | _ => none }
noncomputable def Yv.E (k : Nat) : Env := fun g => bif g == 223 then some (Yv.e k) else bif g == 247 then some (YW.e k) else bif g == 123 then some (YY.e k) else bif g == 248 then some (YT.e k) else none
noncomputable def Yv.h : ZY := ⟨fun n => bif n == 5 then ⟨[(1, .asis), (2, .asis), (5, .asis), (6, .asis)], []⟩ else ⟨[], []⟩, fun _ => none, false, []⟩
noncomputable def Yv.s0 (aF aW : Int) (bA : BA) (bB : Int) (bQ bR : LD) (v : Int × Int) : St :=
 match v with
 | (aC, aH) => ⟨[.any, .d false (.int .i64 aF), .bp 0 0, .any, .any, .d true (.int .i64 aC), .d true (.int .i64 aH), .any, .any, .any, .any, .any, .any, .any, .any, .any, .any, .any, .any, .any, .any, .any, .any, .any, .any, .any, .any, .any, .any, .any, .any, .any, .any, .any, .any, .any, .any, .any, .any, .any, .any, .any, .any, .any, .any, .any, .any, .any, .any, .any, .any, .any, .any, .any, .any, .any, .any, .any, .any, .any, .any, .any, .any, .any, .any, .any, .any, .any, .any, .any, .any, .any, .any, .any, .any, .any, .any, .any, .any, .any, .any, .any, .any, .any, .any, .any, .any, .any, .any, .any, .any, .any, .any, .any, .any, .any, .any, .any, .any, .any, .any, .any, .any, .any, .any, .any, .any, .any, .any, .any, .any, .any, .any, .any, .any, .any, .any], [.box none 151 [.d false (.int .i64 aW), .d false (.str bA), .d false (.int .i64 bB), .d false (.sl bQ), .d false (.sl bR)]]⟩
noncomputable def Yv.b0 {β : Type} (k : Nat) : St → (Ex → St → Option β) → Option β := fun s K => den Try.prog (Yv.E k) Yv.h.H Yv.h.J k (Zad [1, 1, 1, 0, 1, 0, 0] (Zl Try.f223)) s K
noncomputable def Yv.c0 {β : Type} (k : Nat) (aB : Int) (aA : BA) (aE : Int) (aD aG : LD) (a1 : Int) (K0 : LC → List Out → Option β) : Ex → St → Option β := Zae Try.prog (Yv.E k) Yv.h k [1, 1, 1, 0, 1, 0] (Zl Try.f223) (Zak Try.prog Try.f223 Yv.h (Yv.as aB aA aE aD aG a1) K0)
theorem Yv.l0_eq {β : Type} (k : Nat) (aB : Int) (aA : BA) (aE : Int) (aD aG : LD) (a1 : Int) (K0 : LC → List Out → Option β) (aF aW : Int) (bA : BA) (bB : Int) (bQ bR : LD) : ∀ (kk : Nat) (v : Int × Int), Zx (Yv.b0 k) (Yv.h.H 5) kk (Yv.s0 aF aW bA bB bQ bR v) (Yv.c0 k aB aA aE aD aG a1 K0) = Z4 (Yv.l0 k (Yv.f k) aF aW bA bB bQ bR (Yv.kt aB aA aE aD aG a1 K0)) kk v :=
 Z9 (Yv.s0 aF aW bA bB bQ bR) _ (fun L0 v => by obtain ⟨aC, aH⟩ := v; kernel_rfl)
noncomputable def Yv.m {β : Type} (k : Nat) (aB : Int) (aA : BA) (aE : Int) (aD aG : LD) (a1 : Int) (K0 : LC → List Out → Option β) (F : (Int → Int → BA → Int → LD → LD → (Int × Int) → Option β)) : Option β :=
 bif ((a1 : Int) == 0) then ((Yv.kt aB aA aE aD aG a1 K0) 0) else ((F) a1 aB aA aE aD aG (1, 0))
theorem Yv.f_eq {β : Type} (k : Nat) (aB : Int) (aA : BA) (aE : Int) (aD aG : LD) (a1 : Int) (K0 : LC → List Out → Option β) : ZJ Try.prog (Yv.E k) Yv.h k Try.f223 (Yv.as aB aA aE aD aG a1) K0 = Yv.g k aB aA aE aD aG a1 (Yv.kt aB aA aE aD aG a1 K0) := Eq.trans (b := (Yv.m k aB aA aE aD aG a1 K0) (fun (aF : Int) (aW : Int) (bA : BA) (bB : Int) (bQ : LD) (bR : LD) (v : Int × Int) => Zx (Yv.b0 k) (Yv.h.H 5) k (Yv.s0 aF aW bA bB bQ bR v) (Yv.c0 k aB aA aE aD aG a1 K0))) (by kernel_rfl) (Eq.trans (congrArg (Yv.m k aB aA aE aD aG a1 K0) (funext fun aF => funext fun aW => funext fun bA => funext fun bB => funext fun bQ => funext fun bR => funext fun v => Yv.l0_eq k aB aA aE aD aG a1 K0 aF aW bA bB bQ bR k v)) (by kernel_rfl))
noncomputable def Yv.dec (rs : LC) (os : List Out) : Option (Int) := Zd rs fun c1 r2 => Zd c1 fun x3 l4 => cD x3 fun d5 => ZM .i64 d5 fun w0 => Ze l4 <| Ze r2 <| Ze os (some w0)
theorem Yv.kt_dec (aB : Int) (aA : BA) (aE : Int) (aD aG : LD) (a1 : Int) : Yv.kt aB aA aE aD aG a1 Yv.dec = (fun z0 => some z0) := by kernel_rfl
theorem Yv.inj (aB : Int) (aA : BA) (aE : Int) (aD aG : LD) (a1 : Int) {rs : LC} {os : List Out} {z0 : Int} (h : Yv.dec rs os = some z0) (ho : Zo (Yv.as aB aA aE aD aG a1) os) : rs = [[.d (.int .i64 z0)]] ∧ os = [] := by
 unfold Yv.dec at h
 obtain ⟨c1, r2, rfl, h1⟩ := Zb h
 obtain ⟨x3, l4, rfl, h2⟩ := Zb h1
 obtain ⟨d5, rfl, h3⟩ := Zt h2
 obtain ⟨w0, rfl, h4⟩ := ZA h3
 obtain ⟨rfl, h5⟩ := Zc h4
 obtain ⟨rfl, h6⟩ := Zc h5
 obtain ⟨rfl, h7⟩ := Zc h6
 obtain rfl := Option.some.inj h7
 exact ⟨rfl, rfl⟩
theorem Yv.oks (k : Nat) : Zv Try.prog 223 (Yv.e k) := by
 induction k with
 | zero =>
  refine ?_
  ·exact Zb1 (Zq Try.func223 (by kernel_rfl)) fun β l K r h => by
    simp only [Yv.e] at h
    split at h
    ·unfold Yv.f at h
     unfold Yv.w at h
     rw [Yv.t_zero] at h
     cases h
    ·cases h
 | succ k ih =>
  refine ?_
  ·refine Zu mix tyok (fn := Try.f223) (c := Zl Try.f223) Try.func223 (by kernel_rfl) (h := Yv.h) (k := k) (E := Yv.E k) (Zk ih (Zk (YW.ok k) (Zk (YY.ok k) (Zk (YT.ok k) Zz)))) (by kernel_rfl) (by kernel_rfl) rfl (Zq Try.func223 (by kernel_rfl)) ?_
   intro β l K r hr
   simp only [Yv.e] at hr
   split at hr
   case h_2 => cases hr
   unfold Yv.f at hr
   unfold Yv.w at hr
   split at hr
   case h_2 => cases hr
   rename_i hz
   exact ⟨_, _, hr, _, Yv.dec, _, (Yv.f_eq k _ _ _ _ _ _ Yv.dec).trans (by rw [Yv.kt_dec]; exact hz), fun rs os h ho => Yv.inj _ _ _ _ _ _ h ho⟩
theorem Yv.ok (k : Nat) : Zv Try.prog 223 (Yv.e k) := (Yv.oks k)
noncomputable def YK.g {β : Type} (k : Nat) (aB : Int) (aA : BA) (aE : Int) (aD aG : LD) (K : Bool → Option β) : Option β :=
 Yv.f k aB aA aE aD aG 6 (fun y50 => K (decide ((y50 : Int) > 0)))
noncomputable def YK.t (k : Nat) (aB : Int) (aA : BA) (aE : Int) (aD aG : LD) : Option (Bool) := YK.g k aB aA aE aD aG (fun z0 => some z0)
noncomputable def YK.f {β : Type} (k : Nat) (aB : Int) (aA : BA) (aE : Int) (aD aG : LD) (K : Bool → Option β) : Option β :=
 match YK.t k aB aA aE aD aG with
 | some z0 => K z0
 | none => none
noncomputable def YK.as (aB : Int) (aA : BA) (aE : Int) (aD aG : LD) : List A := [.agg [.int .i64 aB, .str aA, .int .i64 aE, .sl aD, .sl aG]]
noncomputable def YK.kt {β : Type} (aB : Int) (aA : BA) (aE : Int) (aD aG : LD) (K0 : LC → List Out → Option β) : Bool → Option β := fun z0 => K0 [[.d (.bool z0)]] []
noncomputable def YK.e (k : Nat) : ZQ := { modes := [(.imm, 0)], rts := [4], al := false, run := fun {β} l K => match l with | [.agg [.int .i64 aB, .str aA, .int .i64 aE, .sl aD, .sl aG]] => YK.f k aB aA aE aD aG (YK.kt aB aA aE aD aG K) | _ => none }
noncomputable def YK.E (k : Nat) : Env := fun g => bif g == 223 then some (Yv.e k) else none
noncomputable def YK.h : ZY := ⟨fun n => ⟨[], []⟩, fun _ => none, false, []⟩
theorem YK.f_eq {β : Type} (k : Nat) (aB : Int) (aA : BA) (aE : Int) (aD aG : LD) (K0 : LC → List Out → Option β) : ZJ Try.prog (YK.E k) YK.h k Try.f180 (YK.as aB aA aE aD aG) K0 = YK.g k aB aA aE aD aG (YK.kt aB aA aE aD aG K0) := by kernel_rfl
noncomputable def YK.dec (rs : LC) (os : List Out) : Option (Bool) := Zd rs fun c1 r2 => Zd c1 fun x3 l4 => cD x3 fun d5 => ZaF d5 fun w0 => Ze l4 <| Ze r2 <| Ze os (some w0)
theorem YK.kt_dec (aB : Int) (aA : BA) (aE : Int) (aD aG : LD) : YK.kt aB aA aE aD aG YK.dec = (fun z0 => some z0) := by kernel_rfl
theorem YK.inj (aB : Int) (aA : BA) (aE : Int) (aD aG : LD) {rs : LC} {os : List Out} {z0 : Bool} (h : YK.dec rs os = some z0) (ho : Zo (YK.as aB aA aE aD aG) os) : rs = [[.d (.bool z0)]] ∧ os = [] := by
 unfold YK.dec at h
 obtain ⟨c1, r2, rfl, h1⟩ := Zb h
 obtain ⟨x3, l4, rfl, h2⟩ := Zb h1
 obtain ⟨d5, rfl, h3⟩ := Zt h2
 obtain ⟨w0, rfl, h4⟩ := Z0 h3
 obtain ⟨rfl, h5⟩ := Zc h4
 obtain ⟨rfl, h6⟩ := Zc h5
 obtain ⟨rfl, h7⟩ := Zc h6
 obtain rfl := Option.some.inj h7
 exact ⟨rfl, rfl⟩
theorem YK.ok (k : Nat) : Zv Try.prog 180 (YK.e k) := by
 refine Zu mix tyok (fn := Try.f180) (c := Zl Try.f180) Try.func180 (by kernel_rfl) (h := YK.h) (k := k) (E := YK.E k) (Zk (Yv.ok k) Zz) (by kernel_rfl) (by kernel_rfl) rfl (Zq Try.func180 (by kernel_rfl)) ?_
 intro β l K r hr
 simp only [YK.e] at hr
 split at hr
 case h_2 => cases hr
 unfold YK.f at hr
 split at hr
 case h_2 => cases hr
 rename_i hz
 exact ⟨_, _, hr, _, YK.dec, _, (YK.f_eq k _ _ _ _ _ YK.dec).trans (by rw [YK.kt_dec]; exact hz), fun rs os h ho => YK.inj _ _ _ _ _ h ho⟩
noncomputable def Yab.g {β : Type} (k : Nat) (aB : Int) (aA : BA) (aE aD aG : Int) (aT : Bool) (aM : LD) (aQ : Int) (aI : BA) (aR : Int) (aJ aN : LD) (aP : Int) (aK : BA) (aS : Int) (aL aO : LD) (a1 a2 : Int) (a3 : Bool) (K : Bool → Option β) : Option β :=
 YY.f k aB 1 3 (fun y1 => bif y1 then (Yq.f k aA (fun y17 => bif y17 then (YY.f k aE 1 (IntKind.wrap .i64 (a2 - 1)) (fun y18 => bif y18 then (YY.f k aD 1 a1 (fun y19 => bif y19 then (YY.f k aG 1 aD (fun y20 => bif y20 then (Yu.f k aM (fun y27 => bif y27 then (YK.f k aQ aI aR aJ aN (fun y51 => bif y51 then (YK.f k aP aK aS aL aO (fun y52 => bif y52 then (bif a3 then (K true) else (bif (!aT) then (K true) else (K (decide (((aM.length : Int) : Int) > 0))))) else (K false))) else (K false))) else (K false))) else (K false))) else (K false))) else (K false))) else (K false))) else (K false))
noncomputable def Yab.t (k : Nat) (aB : Int) (aA : BA) (aE aD aG : Int) (aT : Bool) (aM : LD) (aQ : Int) (aI : BA) (aR : Int) (aJ aN : LD) (aP : Int) (aK : BA) (aS : Int) (aL aO : LD) (a1 a2 : Int) (a3 : Bool) : Option (Bool) := Yab.g k aB aA aE aD aG aT aM aQ aI aR aJ aN aP aK aS aL aO a1 a2 a3 (fun z0 => some z0)
noncomputable def Yab.f {β : Type} (k : Nat) (aB : Int) (aA : BA) (aE aD aG : Int) (aT : Bool) (aM : LD) (aQ : Int) (aI : BA) (aR : Int) (aJ aN : LD) (aP : Int) (aK : BA) (aS : Int) (aL aO : LD) (a1 a2 : Int) (a3 : Bool) (K : Bool → Option β) : Option β :=
 match Yab.t k aB aA aE aD aG aT aM aQ aI aR aJ aN aP aK aS aL aO a1 a2 a3 with
 | some z0 => K z0
 | none => none
noncomputable def Yab.as (aB : Int) (aA : BA) (aE aD aG : Int) (aT : Bool) (aM : LD) (aQ : Int) (aI : BA) (aR : Int) (aJ aN : LD) (aP : Int) (aK : BA) (aS : Int) (aL aO : LD) (a1 a2 : Int) (a3 : Bool) : List A := [.agg [.int .i64 aB, .str aA, .int .i64 aE, .int .i64 aD, .int .i64 aG, .bool aT, .sl aM, .int .i64 aQ, .str aI, .int .i64 aR, .sl aJ, .sl aN, .int .i64 aP, .str aK, .int .i64 aS, .sl aL, .sl aO], .d (.int .i64 a1), .d (.int .i64 a2), .d (.bool a3)]
noncomputable def Yab.kt {β : Type} (aB : Int) (aA : BA) (aE aD aG : Int) (aT : Bool) (aM : LD) (aQ : Int) (aI : BA) (aR : Int) (aJ aN : LD) (aP : Int) (aK : BA) (aS : Int) (aL aO : LD) (a1 a2 : Int) (a3 : Bool) (K0 : LC → List Out → Option β) : Bool → Option β := fun z0 => K0 [[.d (.bool z0)]] []
noncomputable def Yab.e (k : Nat) : ZQ := { modes := [(.imm, 0), (.imm, 0), (.imm, 0), (.imm, 0)], rts := [4], al := false, run := fun {β} l K => match l with | [.agg [.int .i64 aB, .str aA, .int .i64 aE, .int .i64 aD, .int .i64 aG, .bool aT, .sl aM, .int .i64 aQ, .str aI, .int .i64 aR, .sl aJ, .sl aN, .int .i64 aP, .str aK, .int .i64 aS, .sl aL, .sl aO], .d (.int .i64 a1), .d (.int .i64 a2), .d (.bool a3)] => Yab.f k aB aA aE aD aG aT aM aQ aI aR aJ aN aP aK aS aL aO a1 a2 a3 (Yab.kt aB aA aE aD aG aT aM aQ aI aR aJ aN aP aK aS aL aO a1 a2 a3 K) | _ => none }
noncomputable def Yab.E (k : Nat) : Env := fun g => bif g == 123 then some (YY.e k) else bif g == 94 then some (Yq.e k) else bif g == 227 then some (Yu.e k) else bif g == 180 then some (YK.e k) else none
noncomputable def Yab.h : ZY := ⟨fun n => ⟨[], []⟩, fun _ => none, false, []⟩
theorem Yab.f_eq {β : Type} (k : Nat) (aB : Int) (aA : BA) (aE aD aG : Int) (aT : Bool) (aM : LD) (aQ : Int) (aI : BA) (aR : Int) (aJ aN : LD) (aP : Int) (aK : BA) (aS : Int) (aL aO : LD) (a1 a2 : Int) (a3 : Bool) (K0 : LC → List Out → Option β) : ZJ Try.prog (Yab.E k) Yab.h k Try.f193 (Yab.as aB aA aE aD aG aT aM aQ aI aR aJ aN aP aK aS aL aO a1 a2 a3) K0 = Yab.g k aB aA aE aD aG aT aM aQ aI aR aJ aN aP aK aS aL aO a1 a2 a3 (Yab.kt aB aA aE aD aG aT aM aQ aI aR aJ aN aP aK aS aL aO a1 a2 a3 K0) := by kernel_rfl
noncomputable def Yab.dec (rs : LC) (os : List Out) : Option (Bool) := Zd rs fun c1 r2 => Zd c1 fun x3 l4 => cD x3 fun d5 => ZaF d5 fun w0 => Ze l4 <| Ze r2 <| Ze os (some w0)
theorem Yab.kt_dec (aB : Int) (aA : BA) (aE aD aG : Int) (aT : Bool) (aM : LD) (aQ : Int) (aI : BA) (aR : Int) (aJ aN : LD) (aP : Int) (aK : BA) (aS : Int) (aL aO : LD) (a1 a2 : Int) (a3 : Bool) : Yab.kt aB aA aE aD aG aT aM aQ aI aR aJ aN aP aK aS aL aO a1 a2 a3 Yab.dec = (fun z0 => some z0) := by kernel_rfl
theorem Yab.inj (aB : Int) (aA : BA) (aE aD aG : Int) (aT : Bool) (aM : LD) (aQ : Int) (aI : BA) (aR : Int) (aJ aN : LD) (aP : Int) (aK : BA) (aS : Int) (aL aO : LD) (a1 a2 : Int) (a3 : Bool) {rs : LC} {os : List Out} {z0 : Bool} (h : Yab.dec rs os = some z0) (ho : Zo (Yab.as aB aA aE aD aG aT aM aQ aI aR aJ aN aP aK aS aL aO a1 a2 a3) os) : rs = [[.d (.bool z0)]] ∧ os = [] := by
 unfold Yab.dec at h
 obtain ⟨c1, r2, rfl, h1⟩ := Zb h
 obtain ⟨x3, l4, rfl, h2⟩ := Zb h1
 obtain ⟨d5, rfl, h3⟩ := Zt h2
 obtain ⟨w0, rfl, h4⟩ := Z0 h3
 obtain ⟨rfl, h5⟩ := Zc h4
 obtain ⟨rfl, h6⟩ := Zc h5
 obtain ⟨rfl, h7⟩ := Zc h6
 obtain rfl := Option.some.inj h7
 exact ⟨rfl, rfl⟩
theorem Yab.ok (k : Nat) : Zv Try.prog 193 (Yab.e k) := by
 refine Zu mix tyok (fn := Try.f193) (c := Zl Try.f193) Try.func193 (by kernel_rfl) (h := Yab.h) (k := k) (E := Yab.E k) (Zk (YY.ok k) (Zk (Yq.ok k) (Zk (Yu.ok k) (Zk (YK.ok k) Zz)))) (by kernel_rfl) (by kernel_rfl) rfl (Zq Try.func193 (by kernel_rfl)) ?_
 intro β l K r hr
 simp only [Yab.e] at hr
 split at hr
 case h_2 => cases hr
 unfold Yab.f at hr
 split at hr
 case h_2 => cases hr
 rename_i hz
 exact ⟨_, _, hr, _, Yab.dec, _, (Yab.f_eq k _ _ _ _ _ _ _ _ _ _ _ _ _ _ _ _ _ _ _ _ Yab.dec).trans (by rw [Yab.kt_dec]; exact hz), fun rs os h ho => Yab.inj _ _ _ _ _ _ _ _ _ _ _ _ _ _ _ _ _ _ _ _ h ho⟩
noncomputable def Yaj.g {β : Type} (k : Nat) (aB : Int) (aA : BA) (aE aD aG : Int) (aT : Bool) (aM : LD) (aQ : Int) (aI : BA) (aR : Int) (aJ aN : LD) (aP : Int) (aK : BA) (aS : Int) (aL aO : LD) (aU : Int) (aV : BA) (aX aY aZ : Int) (bC : Bool) (bD : LD) (bE : Int) (bF : BA) (bG : Int) (bH bI : LD) (bJ : Int) (bK : BA) (bL : Int) (bM bN : LD) (K : Bool → Option β) : Option β :=
 bif (decide ((aB : Int) < aU)) then (K true) else (bif ((aB : Int) == aU) then (K (strLt aA aV)) else (K false))
noncomputable def Yaj.t (k : Nat) (aB : Int) (aA : BA) (aE aD aG : Int) (aT : Bool) (aM : LD) (aQ : Int) (aI : BA) (aR : Int) (aJ aN : LD) (aP : Int) (aK : BA) (aS : Int) (aL aO : LD) (aU : Int) (aV : BA) (aX aY aZ : Int) (bC : Bool) (bD : LD) (bE : Int) (bF : BA) (bG : Int) (bH bI : LD) (bJ : Int) (bK : BA) (bL : Int) (bM bN : LD) : Option (Bool) := Yaj.g k aB aA aE aD aG aT aM aQ aI aR aJ aN aP aK aS aL aO aU aV aX aY aZ bC bD bE bF bG bH bI bJ bK bL bM bN (fun z0 => some z0)
noncomputable def Yaj.f {β : Type} (k : Nat) (aB : Int) (aA : BA) (aE aD aG : Int) (aT : Bool) (aM : LD) (aQ : Int) (aI : BA) (aR : Int) (aJ aN : LD) (aP : Int) (aK : BA) (aS : Int) (aL aO : LD) (aU : Int) (aV : BA) (aX aY aZ : Int) (bC : Bool) (bD : LD) (bE : Int) (bF : BA) (bG : Int) (bH bI : LD) (bJ : Int) (bK : BA) (bL : Int) (bM bN : LD) (K : Bool → Option β) : Option β :=
 match Yaj.t k aB aA aE aD aG aT aM aQ aI aR aJ aN aP aK aS aL aO aU aV aX aY aZ bC bD bE bF bG bH bI bJ bK bL bM bN with
 | some z0 => K z0
 | none => none
noncomputable def Yaj.as (aB : Int) (aA : BA) (aE aD aG : Int) (aT : Bool) (aM : LD) (aQ : Int) (aI : BA) (aR : Int) (aJ aN : LD) (aP : Int) (aK : BA) (aS : Int) (aL aO : LD) (aU : Int) (aV : BA) (aX aY aZ : Int) (bC : Bool) (bD : LD) (bE : Int) (bF : BA) (bG : Int) (bH bI : LD) (bJ : Int) (bK : BA) (bL : Int) (bM bN : LD) : List A := [.agg [.int .i64 aB, .str aA, .int .i64 aE, .int .i64 aD, .int .i64 aG, .bool aT, .sl aM, .int .i64 aQ, .str aI, .int .i64 aR, .sl aJ, .sl aN, .int .i64 aP, .str aK, .int .i64 aS, .sl aL, .sl aO], .agg [.int .i64 aU, .str aV, .int .i64 aX, .int .i64 aY, .int .i64 aZ, .bool bC, .sl bD, .int .i64 bE, .str bF, .int .i64 bG, .sl bH, .sl bI, .int .i64 bJ, .str bK, .int .i64 bL, .sl bM, .sl bN]]
noncomputable def Yaj.kt {β : Type} (aB : Int) (aA : BA) (aE aD aG : Int) (aT : Bool) (aM : LD) (aQ : Int) (aI : BA) (aR : Int) (aJ aN : LD) (aP : Int) (aK : BA) (aS : Int) (aL aO : LD) (aU : Int) (aV : BA) (aX aY aZ : Int) (bC : Bool) (bD : LD) (bE : Int) (bF : BA) (bG : Int) (bH bI : LD) (bJ : Int) (bK : BA) (bL : Int) (bM bN : LD) (K0 : LC → List Out → Option β) : Bool → Option β := fun z0 => K0 [[.d (.bool z0)]] []
noncomputable def Yaj.e (k : Nat) : ZQ := { modes := [(.imm, 0), (.imm, 0)], rts := [4], al := false, run := fun {β} l K => match l with | [.agg [.int .i64 aB, .str aA, .int .i64 aE, .int .i64 aD, .int .i64 aG, .bool aT, .sl aM, .int .i64 aQ, .str aI, .int .i64 aR, .sl aJ, .sl aN, .int .i64 aP, .str aK, .int .i64 aS, .sl aL, .sl aO], .agg [.int .i64 aU, .str aV, .int .i64 aX, .int .i64 aY, .int .i64 aZ, .bool bC, .sl bD, .int .i64 bE, .str bF, .int .i64 bG, .sl bH, .sl bI, .int .i64 bJ, .str bK, .int .i64 bL, .sl bM, .sl bN]] => Yaj.f k aB aA aE aD aG aT aM aQ aI aR aJ aN aP aK aS aL aO aU aV aX aY aZ bC bD bE bF bG bH bI bJ bK bL bM bN (Yaj.kt aB aA aE aD aG aT aM aQ aI aR aJ aN aP aK aS aL aO aU aV aX aY aZ bC bD bE bF bG bH bI bJ bK bL bM bN K) | _ => none }
noncomputable def Yaj.E (k : Nat) : Env := fun g => none
noncomputable def Yaj.h : ZY := ⟨fun n => ⟨[], []⟩, fun _ => none, false, []⟩
theorem Yaj.f_eq {β : Type} (k : Nat) (aB : Int) (aA : BA) (aE aD aG : Int) (aT : Bool) (aM : LD) (aQ : Int) (aI : BA) (aR : Int) (aJ aN : LD) (aP : Int) (aK : BA) (aS : Int) (aL aO : LD) (aU : Int) (aV : BA) (aX aY aZ : Int) (bC : Bool) (bD : LD) (bE : Int) (bF : BA) (bG : Int) (bH bI : LD) (bJ : Int) (bK : BA) (bL : Int) (bM bN : LD) (K0 : LC → List Out → Option β) : ZJ Try.prog (Yaj.E k) Yaj.h k Try.f194 (Yaj.as aB aA aE aD aG aT aM aQ aI aR aJ aN aP aK aS aL aO aU aV aX aY aZ bC bD bE bF bG bH bI bJ bK bL bM bN) K0 = Yaj.g k aB aA aE aD aG aT aM aQ aI aR aJ aN aP aK aS aL aO aU aV aX aY aZ bC bD bE bF bG bH bI bJ bK bL bM bN (Yaj.kt aB aA aE aD aG aT aM aQ aI aR aJ aN aP aK aS aL aO aU aV aX aY aZ bC bD bE bF bG bH bI bJ bK bL bM bN K0) := by kernel_rfl
noncomputable def Yaj.dec (rs : LC) (os : List Out) : Option (Bool) := Zd rs fun c1 r2 => Zd c1 fun x3 l4 => cD x3 fun d5 => ZaF d5 fun w0 => Ze l4 <| Ze r2 <| Ze os (some w0)
theorem Yaj.kt_dec (aB : Int) (aA : BA) (aE aD aG : Int) (aT : Bool) (aM : LD) (aQ : Int) (aI : BA) (aR : Int) (aJ aN : LD) (aP : Int) (aK : BA) (aS : Int) (aL aO : LD) (aU : Int) (aV : BA) (aX aY aZ : Int) (bC : Bool) (bD : LD) (bE : Int) (bF : BA) (bG : Int) (bH bI : LD) (bJ : Int) (bK : BA) (bL : Int) (bM bN : LD) : Yaj.kt aB aA aE aD aG aT aM aQ aI aR aJ aN aP aK aS aL aO aU aV aX aY aZ bC bD bE bF bG bH bI bJ bK bL bM bN Yaj.dec = (fun z0 => some z0) := by kernel_rfl
theorem Yaj.inj (aB : Int) (aA : BA) (aE aD aG : Int) (aT : Bool) (aM : LD) (aQ : Int) (aI : BA) (aR : Int) (aJ aN : LD) (aP : Int) (aK : BA) (aS : Int) (aL aO : LD) (aU : Int) (aV : BA) (aX aY aZ : Int) (bC : Bool) (bD : LD) (bE : Int) (bF : BA) (bG : Int) (bH bI : LD) (bJ : Int) (bK : BA) (bL : Int) (bM bN : LD) {rs : LC} {os : List Out} {z0 : Bool} (h : Yaj.dec rs os = some z0) (ho : Zo (Yaj.as aB aA aE aD aG aT aM aQ aI aR aJ aN aP aK aS aL aO aU aV aX aY aZ bC bD bE bF bG bH bI bJ bK bL bM bN) os) : rs = [[.d (.bool z0)]] ∧ os = [] := by
 unfold Yaj.dec at h
 obtain ⟨c1, r2, rfl, h1⟩ := Zb h
 obtain ⟨x3, l4, rfl, h2⟩ := Zb h1
 obtain ⟨d5, rfl, h3⟩ := Zt h2
 obtain ⟨w0, rfl, h4⟩ := Z0 h3
 obtain ⟨rfl, h5⟩ := Zc h4
 obtain ⟨rfl, h6⟩ := Zc h5
 obtain ⟨rfl, h7⟩ := Zc h6
 obtain rfl := Option.some.inj h7
 exact ⟨rfl, rfl⟩
theorem Yaj.ok (k : Nat) : Zv Try.prog 194 (Yaj.e k) := by
 refine Zu mix tyok (fn := Try.f194) (c := Zl Try.f194) Try.func194 (by kernel_rfl) (h := Yaj.h) (k := k) (E := Yaj.E k) Zz (by kernel_rfl) (by kernel_rfl) rfl (Zq Try.func194 (by kernel_rfl)) ?_
 intro β l K r hr
 simp only [Yaj.e] at hr
 split at hr
 case h_2 => cases hr
 unfold Yaj.f at hr
 split at hr
 case h_2 => cases hr
 rename_i hz
 exact ⟨_, _, hr, _, Yaj.dec, _, (Yaj.f_eq k _ _ _ _ _ _ _ _ _ _ _ _ _ _ _ _ _ _ _ _ _ _ _ _ _ _ _ _ _ _ _ _ _ _ Yaj.dec).trans (by rw [Yaj.kt_dec]; exact hz), fun rs os h ho => Yaj.inj _ _ _ _ _ _ _ _ _ _ _ _ _ _ _ _ _ _ _ _ _ _ _ _ _ _ _ _ _ _ _ _ _ _ h ho⟩
noncomputable def Yi.l2 {β : Type} (k : Nat) (v2_0 : LD) (v2_1 v2_2 v2_3 : Int) (L0 : (LD × Int × Int × Int) → Option β) (K : Bool → Option β) (L2 : Int → Option β) (v : Int) : Option β :=
 match v with
 | v2_4 => bif (decide ((v2_4 : Int) < v2_3)) then (ZX v2_0 v2_4 fun c1045 => Zd c1045 fun d r => ZM .i64 d fun x1048 => Zd r fun d r => Zan d fun x1051 => Zd r fun d r => ZM .i64 d fun x1054 => Zd r fun d r => ZM .i64 d fun x1057 => Zd r fun d r => ZM .i64 d fun x1060 => Zd r fun d r => ZaF d fun x1063 => Zd r fun d r => dSl d fun x1066 => Zd r fun d r => ZM .i64 d fun x1069 => Zd r fun d r => Zan d fun x1072 => Zd r fun d r => ZM .i64 d fun x1075 => Zd r fun d r => dSl d fun x1078 => Zd r fun d r => dSl d fun x1081 => Zd r fun d r => ZM .i64 d fun x1084 => Zd r fun d r => Zan d fun x1087 => Zd r fun d r => ZM .i64 d fun x1090 => Zd r fun d r => dSl d fun x1093 => Zd r fun d r => dSl d fun x1096 => Ze r (ZX v2_0 v2_3 fun c1097 => Zd c1097 fun d r => ZM .i64 d fun x1100 => Zd r fun d r => Zan d fun x1103 => Zd r fun d r => ZM .i64 d fun x1106 => Zd r fun d r => ZM .i64 d fun x1109 => Zd r fun d r => ZM .i64 d fun x1112 => Zd r fun d r => ZaF d fun x1115 => Zd r fun d r => dSl d fun x1118 => Zd r fun d r => ZM .i64 d fun x1121 => Zd r fun d r => Zan d fun x1124 => Zd r fun d r => ZM .i64 d fun x1127 => Zd r fun d r => dSl d fun x1130 => Zd r fun d r => dSl d fun x1133 => Zd r fun d r => ZM .i64 d fun x1136 => Zd r fun d r => Zan d fun x1139 => Zd r fun d r => ZM .i64 d fun x1142 => Zd r fun d r => dSl d fun x1145 => Zd r fun d r => dSl d fun x1148 => Ze r (bif ((x1054 : Int) == x1106) then (K false) else (L2 (IntKind.wrap .i64 (v2_4 + 1)))))) else (L0 (v2_0, v2_1, v2_2, IntKind.wrap .i64 (v2_3 + 1)))
noncomputable def Yi.l1 {β : Type} (k : Nat) (v1_0 : LD) (v1_1 v1_2 v1_3 : Int) (L0 : (LD × Int × Int × Int) → Option β) (K : Bool → Option β) (L1 : Int → Option β) (v : Int) : Option β :=
 match v with
 | v1_4 => bif (decide ((v1_4 : Int) < v1_3)) then (ZX v1_0 v1_4 fun c837 => Zd c837 fun d r => ZM .i64 d fun x840 => Zd r fun d r => Zan d fun x843 => Zd r fun d r => ZM .i64 d fun x846 => Zd r fun d r => ZM .i64 d fun x849 => Zd r fun d r => ZM .i64 d fun x852 => Zd r fun d r => ZaF d fun x855 => Zd r fun d r => dSl d fun x858 => Zd r fun d r => ZM .i64 d fun x861 => Zd r fun d r => Zan d fun x864 => Zd r fun d r => ZM .i64 d fun x867 => Zd r fun d r => dSl d fun x870 => Zd r fun d r => dSl d fun x873 => Zd r fun d r => ZM .i64 d fun x876 => Zd r fun d r => Zan d fun x879 => Zd r fun d r => ZM .i64 d fun x882 => Zd r fun d r => dSl d fun x885 => Zd r fun d r => dSl d fun x888 => Ze r (ZX v1_0 v1_3 fun c889 => Zd c889 fun d r => ZM .i64 d fun x892 => Zd r fun d r => Zan d fun x895 => Zd r fun d r => ZM .i64 d fun x898 => Zd r fun d r => ZM .i64 d fun x901 => Zd r fun d r => ZM .i64 d fun x904 => Zd r fun d r => ZaF d fun x907 => Zd r fun d r => dSl d fun x910 => Zd r fun d r => ZM .i64 d fun x913 => Zd r fun d r => Zan d fun x916 => Zd r fun d r => ZM .i64 d fun x919 => Zd r fun d r => dSl d fun x922 => Zd r fun d r => dSl d fun x925 => Zd r fun d r => ZM .i64 d fun x928 => Zd r fun d r => Zan d fun x931 => Zd r fun d r => ZM .i64 d fun x934 => Zd r fun d r => dSl d fun x937 => Zd r fun d r => dSl d fun x940 => Ze r (bif ((x846 : Int) == x898) then (K false) else (L1 (IntKind.wrap .i64 (v1_4 + 1)))))) else (L0 (v1_0, v1_1, v1_2, IntKind.wrap .i64 (v1_3 + 1)))
set_option maxRecDepth 100000 in
noncomputable def Yi.l0 {β : Type} (k : Nat) (K : Bool → Option β) (L0 : (LD × Int × Int × Int) → Option β) (v : LD × Int × Int × Int) : Option β :=
 match v with
 | (aF, aC, aH, aW) => bif (decide ((aW : Int) < (aF.length : Int))) then (ZX aF aW fun c575 => Zd c575 fun d r => ZM .i64 d fun x578 => Zd r fun d r => Zan d fun x581 => Zd r fun d r => ZM .i64 d fun x584 => Zd r fun d r => ZM .i64 d fun x587 => Zd r fun d r => ZM .i64 d fun x590 => Zd r fun d r => ZaF d fun x593 => Zd r fun d r => dSl d fun x596 => Zd r fun d r => ZM .i64 d fun x599 => Zd r fun d r => Zan d fun x602 => Zd r fun d r => ZM .i64 d fun x605 => Zd r fun d r => dSl d fun x608 => Zd r fun d r => dSl d fun x611 => Zd r fun d r => ZM .i64 d fun x614 => Zd r fun d r => Zan d fun x617 => Zd r fun d r => ZM .i64 d fun x620 => Zd r fun d r => dSl d fun x623 => Zd r fun d r => dSl d fun x626 => Ze r (Yab.f k x578 x581 x584 x587 x590 x593 x596 x599 x602 x605 x608 x611 x614 x617 x620 x623 x626 aC aH false (fun y627 => bif (!y627) then (K false) else (bif (decide ((aW : Int) > 0)) then (ZX aF (IntKind.wrap .i64 (aW - 1)) fun c628 => Zd c628 fun d r => ZM .i64 d fun x631 => Zd r fun d r => Zan d fun x634 => Zd r fun d r => ZM .i64 d fun x637 => Zd r fun d r => ZM .i64 d fun x640 => Zd r fun d r => ZM .i64 d fun x643 => Zd r fun d r => ZaF d fun x646 => Zd r fun d r => dSl d fun x649 => Zd r fun d r => ZM .i64 d fun x652 => Zd r fun d r => Zan d fun x655 => Zd r fun d r => ZM .i64 d fun x658 => Zd r fun d r => dSl d fun x661 => Zd r fun d r => dSl d fun x664 => Zd r fun d r => ZM .i64 d fun x667 => Zd r fun d r => Zan d fun x670 => Zd r fun d r => ZM .i64 d fun x673 => Zd r fun d r => dSl d fun x676 => Zd r fun d r => dSl d fun x679 => Ze r (ZX aF aW fun c680 => Zd c680 fun d r => ZM .i64 d fun x683 => Zd r fun d r => Zan d fun x686 => Zd r fun d r => ZM .i64 d fun x689 => Zd r fun d r => ZM .i64 d fun x692 => Zd r fun d r => ZM .i64 d fun x695 => Zd r fun d r => ZaF d fun x698 => Zd r fun d r => dSl d fun x701 => Zd r fun d r => ZM .i64 d fun x704 => Zd r fun d r => Zan d fun x707 => Zd r fun d r => ZM .i64 d fun x710 => Zd r fun d r => dSl d fun x713 => Zd r fun d r => dSl d fun x716 => Zd r fun d r => ZM .i64 d fun x719 => Zd r fun d r => Zan d fun x722 => Zd r fun d r => ZM .i64 d fun x725 => Zd r fun d r => dSl d fun x728 => Zd r fun d r => dSl d fun x731 => Ze r (Yaj.f k x631 x634 x637 x640 x643 x646 x649 x652 x655 x658 x661 x664 x667 x670 x673 x676 x679 x683 x686 x689 x692 x695 x698 x701 x704 x707 x710 x713 x716 x719 x722 x725 x728 x731 (fun y732 => bif (!y732) then (K false) else (Z4 (Yi.l1 k aF aC aH aW L0 K) k (0)))))) else (Z4 (Yi.l2 k aF aC aH aW L0 K) k (0)))))) else (K (decide (((aF.length : Int) : Int) ≤ 60)))
noncomputable def Yi.g {β : Type} (k : Nat) (a0 : LD) (a1 a2 : Int) (K : Bool → Option β) : Option β :=
 Z4 (Yi.l0 k K) k (a0, a1, a2, 0)
noncomputable def Yi.t (k : Nat) (a0 : LD) (a1 a2 : Int) : Option (Bool) := Yi.g k a0 a1 a2 (fun z0 => some z0)
noncomputable def Yi.f {β : Type} (k : Nat) (a0 : LD) (a1 a2 : Int) (K : Bool → Option β) : Option β :=
 match Yi.t k a0 a1 a2 with
 | some z0 => K z0
 | none => none
noncomputable def Yi.as (a0 : LD) (a1 a2 : Int) : List A := [.d (.sl a0), .d (.int .i64 a1), .d (.int .i64 a2)]
noncomputable def Yi.kt {β : Type} (a0 : LD) (a1 a2 : Int) (K0 : LC → List Out → Option β) : Bool → Option β := fun z0 => K0 [[.d (.bool z0)]] []
noncomputable def Yi.e (k : Nat) : ZQ := { modes := [(.imm, 0), (.imm, 0), (.imm, 0)], rts := [4], al := false, run := fun {β} l K => match l with | [.d (.sl a0), .d (.int .i64 a1), .d (.int .i64 a2)] => Yi.f k a0 a1 a2 (Yi.kt a0 a1 a2 K) | _ => none }
noncomputable def Yi.E (k : Nat) : Env := fun g => bif g == 193 then some (Yab.e k) else bif g == 194 then some (Yaj.e k) else none
noncomputable def Yi.h : ZY := ⟨fun n => bif n == 7 then ⟨[(0, .asis), (1, .asis), (2, .asis), (7, .asis), (8, .asis)], []⟩ else bif n == 2 then ⟨[(0, .asis), (1, .asis), (2, .asis), (7, .asis)], []⟩ else ⟨[], []⟩, fun _ => none, false, []⟩
noncomputable def Yi.s0 (v : LD × Int × Int × Int) : St :=
 match v with
 | (aF, aC, aH, aW) => ⟨[.d false (.sl aF), .d false (.int .i64 aC), .d false (.int .i64 aH), .any, .any, .any, .any, .d true (.int .i64 aW), .any, .any, .any, .any, .any, .any, .any, .any, .any, .any, .any, .any, .any, .any, .any, .any, .any, .any, .any, .any, .any, .any, .any, .any, .any, .any, .any, .any, .any, .any, .any, .any, .any, .any, .any, .any, .any, .any, .any, .any, .any, .any, .any, .any, .any, .any, .any, .any, .any, .any, .any], []⟩
noncomputable def Yi.b0 {β : Type} (k : Nat) : St → (Ex → St → Option β) → Option β := fun s K => den Try.prog (Yi.E k) Yi.h.H Yi.h.J k (Zad [1, 0, 1, 0, 0] (Zl Try.f124)) s K
noncomputable def Yi.c0 {β : Type} (k : Nat) (a0 : LD) (a1 a2 : Int) (K0 : LC → List Out → Option β) : Ex → St → Option β := Zae Try.prog (Yi.E k) Yi.h k [1, 0, 1, 0] (Zl Try.f124) (Zak Try.prog Try.f124 Yi.h (Yi.as a0 a1 a2) K0)
noncomputable def Yi.s1 (v1_0 : LD) (v1_1 v1_2 v1_3 v : Int) : St :=
 match v with
 | v1_4 => ⟨[.d false (.sl v1_0), .d false (.int .i64 v1_1), .d false (.int .i64 v1_2), .any, .any, .any, .any, .d true (.int .i64 v1_3), .d true (.int .i64 v1_4), .any, .any, .any, .any, .any, .any, .any, .any, .any, .any, .any, .any, .any, .any, .any, .any, .any, .any, .any, .any, .any, .any, .any, .any, .any, .any, .any, .any, .any, .any, .any, .any, .any, .any, .any, .any, .any, .any, .any, .any, .any, .any, .any, .any, .any, .any, .any, .any, .any, .any], []⟩
noncomputable def Yi.b1 {β : Type} (k : Nat) : St → (Ex → St → Option β) → Option β := fun s K => den Try.prog (Yi.E k) Yi.h.H Yi.h.J k (Zad [1, 0, 1, 0, 0, 1, 0, 0, 1, 1, 0, 0] (Zl Try.f124)) s K
noncomputable def Yi.c1 {β : Type} (k : Nat) (a0 : LD) (a1 a2 : Int) (K0 : LC → List Out → Option β) (L0 : St → Option β) : Ex → St → Option β := Zae Try.prog (Yi.E k) Yi.h k [1, 0, 0, 1, 1, 0] (Zad [1, 0, 1, 0, 0] (Zl Try.f124)) (backK (Yi.h.H 2) L0 (Yi.c0 k a0 a1 a2 K0))
noncomputable def Yi.s2 (v2_0 : LD) (v2_1 v2_2 v2_3 v : Int) : St :=
 match v with
 | v2_4 => ⟨[.d false (.sl v2_0), .d false (.int .i64 v2_1), .d false (.int .i64 v2_2), .any, .any, .any, .any, .d true (.int .i64 v2_3), .d true (.int .i64 v2_4), .any, .any, .any, .any, .any, .any, .any, .any, .any, .any, .any, .any, .any, .any, .any, .any, .any, .any, .any, .any, .any, .any, .any, .any, .any, .any, .any, .any, .any, .any, .any, .any, .any, .any, .any, .any, .any, .any, .any, .any, .any, .any, .any, .any, .any, .any, .any, .any, .any, .any], []⟩
noncomputable def Yi.b2 {β : Type} (k : Nat) : St → (Ex → St → Option β) → Option β := fun s K => den Try.prog (Yi.E k) Yi.h.H Yi.h.J k (Zad [1, 0, 1, 0, 0, 1, 0, 0, 1, 1, 0, 0] (Zl Try.f124)) s K
noncomputable def Yi.c2 {β : Type} (k : Nat) (a0 : LD) (a1 a2 : Int) (K0 : LC → List Out → Option β) (L0 : St → Option β) : Ex → St → Option β := Zae Try.prog (Yi.E k) Yi.h k [1, 0, 0, 1, 1, 0] (Zad [1, 0, 1, 0, 0] (Zl Try.f124)) (backK (Yi.h.H 2) L0 (Yi.c0 k a0 a1 a2 K0))
theorem Yi.l2_eq {β : Type} (k : Nat) (a0 : LD) (a1 a2 : Int) (K0 : LC → List Out → Option β) (v2_0 : LD) (v2_1 v2_2 v2_3 : Int) (L0 : St → Option β) : ∀ (kk : Nat) (v : Int), Zx (Yi.b2 k) (Yi.h.H 7) kk (Yi.s2 v2_0 v2_1 v2_2 v2_3 v) (Yi.c2 k a0 a1 a2 K0 L0) = Z4 (Yi.l2 k v2_0 v2_1 v2_2 v2_3 (fun v => L0 (Yi.s0 v)) (Yi.kt a0 a1 a2 K0)) kk v :=
 Z9 (Yi.s2 v2_0 v2_1 v2_2 v2_3) _ (fun L2 v => by kernel_rfl)
theorem Yi.l1_eq {β : Type} (k : Nat) (a0 : LD) (a1 a2 : Int) (K0 : LC → List Out → Option β) (v1_0 : LD) (v1_1 v1_2 v1_3 : Int) (L0 : St → Option β) : ∀ (kk : Nat) (v : Int), Zx (Yi.b1 k) (Yi.h.H 7) kk (Yi.s1 v1_0 v1_1 v1_2 v1_3 v) (Yi.c1 k a0 a1 a2 K0 L0) = Z4 (Yi.l1 k v1_0 v1_1 v1_2 v1_3 (fun v => L0 (Yi.s0 v)) (Yi.kt a0 a1 a2 K0)) kk v :=
 Z9 (Yi.s1 v1_0 v1_1 v1_2 v1_3) _ (fun L1 v => by kernel_rfl)
set_option maxRecDepth 100000 in
noncomputable def Yi.m0 {β : Type} (k : Nat) (a0 : LD) (a1 a2 : Int) (K0 : LC → List Out → Option β) (L0 : St → Option β) (v : LD × Int × Int × Int) (F : (LD → Int → Int → Int → Int → Option β) × (LD → Int → Int → Int → Int → Option β)) : Option β :=
 match v with | (aF, aC, aH, aW) => bif (decide ((aW : Int) < (aF.length : Int))) then (ZX aF aW fun c575 => Zd c575 fun d576 r577 => ZM .i64 d576 fun x578 => Zd r577 fun d579 r580 => Zan d579 fun x581 => Zd r580 fun d582 r583 => ZM .i64 d582 fun x584 => Zd r583 fun d585 r586 => ZM .i64 d585 fun x587 => Zd r586 fun d588 r589 => ZM .i64 d588 fun x590 => Zd r589 fun d591 r592 => ZaF d591 fun x593 => Zd r592 fun d594 r595 => dSl d594 fun x596 => Zd r595 fun d597 r598 => ZM .i64 d597 fun x599 => Zd r598 fun d600 r601 => Zan d600 fun x602 => Zd r601 fun d603 r604 => ZM .i64 d603 fun x605 => Zd r604 fun d606 r607 => dSl d606 fun x608 => Zd r607 fun d609 r610 => dSl d609 fun x611 => Zd r610 fun d612 r613 => ZM .i64 d612 fun x614 => Zd r613 fun d615 r616 => Zan d615 fun x617 => Zd r616 fun d618 r619 => ZM .i64 d618 fun x620 => Zd r619 fun d621 r622 => dSl d621 fun x623 => Zd r622 fun d624 r625 => dSl d624 fun x626 => Ze r625 (Yab.f k x578 x581 x584 x587 x590 x593 x596 x599 x602 x605 x608 x611 x614 x617 x620 x623 x626 aC aH false (fun y627 => bif (!y627) then ((Yi.kt a0 a1 a2 K0) false) else (bif (decide ((aW : Int) > 0)) then (ZX aF (IntKind.wrap .i64 (aW - 1)) fun c628 => Zd c628 fun d629 r630 => ZM .i64 d629 fun x631 => Zd r630 fun d632 r633 => Zan d632 fun x634 => Zd r633 fun d635 r636 => ZM .i64 d635 fun x637 => Zd r636 fun d638 r639 => ZM .i64 d638 fun x640 => Zd r639 fun d641 r642 => ZM .i64 d641 fun x643 => Zd r642 fun d644 r645 => ZaF d644 fun x646 => Zd r645 fun d647 r648 => dSl d647 fun x649 => Zd r648 fun d650 r651 => ZM .i64 d650 fun x652 => Zd r651 fun d653 r654 => Zan d653 fun x655 => Zd r654 fun d656 r657 => ZM .i64 d656 fun x658 => Zd r657 fun d659 r660 => dSl d659 fun x661 => Zd r660 fun d662 r663 => dSl d662 fun x664 => Zd r663 fun d665 r666 => ZM .i64 d665 fun x667 => Zd r666 fun d668 r669 => Zan d668 fun x670 => Zd r669 fun d671 r672 => ZM .i64 d671 fun x673 => Zd r672 fun d674 r675 => dSl d674 fun x676 => Zd r675 fun d677 r678 => dSl d677 fun x679 => Ze r678 (ZX aF aW fun c680 => Zd c680 fun d681 r682 => ZM .i64 d681 fun x683 => Zd r682 fun d684 r685 => Zan d684 fun x686 => Zd r685 fun d687 r688 => ZM .i64 d687 fun x689 => Zd r688 fun d690 r691 => ZM .i64 d690 fun x692 => Zd r691 fun d693 r694 => ZM .i64 d693 fun x695 => Zd r694 fun d696 r697 => ZaF d696 fun x698 => Zd r697 fun d699 r700 => dSl d699 fun x701 => Zd r700 fun d702 r703 => ZM .i64 d702 fun x704 => Zd r703 fun d705 r706 => Zan d705 fun x707 => Zd r706 fun d708 r709 => ZM .i64 d708 fun x710 => Zd r709 fun d711 r712 => dSl d711 fun x713 => Zd r712 fun d714 r715 => dSl d714 fun x716 => Zd r715 fun d717 r718 => ZM .i64 d717 fun x719 => Zd r718 fun d720 r721 => Zan d720 fun x722 => Zd r721 fun d723 r724 => ZM .i64 d723 fun x725 => Zd r724 fun d726 r727 => dSl d726 fun x728 => Zd r727 fun d729 r730 => dSl d729 fun x731 => Ze r730 (Yaj.f k x631 x634 x637 x640 x643 x646 x649 x652 x655 x658 x661 x664 x667 x670 x673 x676 x679 x683 x686 x689 x692 x695 x698 x701 x704 x707 x710 x713 x716 x719 x722 x725 x728 x731 (fun y732 => bif (!y732) then ((Yi.kt a0 a1 a2 K0) false) else ((F.1) aF aC aH aW (0)))))) else ((F.2) aF aC aH aW (0)))))) else ((Yi.kt a0 a1 a2 K0) (decide (((aF.length : Int) : Int) ≤ 60)))
theorem Yi.l0_eq {β : Type} (k : Nat) (a0 : LD) (a1 a2 : Int) (K0 : LC → List Out → Option β) : ∀ (kk : Nat) (v : LD × Int × Int × Int), Zx (Yi.b0 k) (Yi.h.H 2) kk (Yi.s0 v) (Yi.c0 k a0 a1 a2 K0) = Z4 (Yi.l0 k (Yi.kt a0 a1 a2 K0)) kk v :=
 Z9 (Yi.s0) _ (fun L0 v => by obtain ⟨aF, aC, aH, aW⟩ := v; exact Eq.trans (b := (Yi.m0 k a0 a1 a2 K0 L0 (aF, aC, aH, aW)) ((fun (v1_0 : LD) (v1_1 : Int) (v1_2 : Int) (v1_3 : Int) (v : Int) => Zx (Yi.b1 k) (Yi.h.H 7) k (Yi.s1 v1_0 v1_1 v1_2 v1_3 v) (Yi.c1 k a0 a1 a2 K0 L0)), (fun (v2_0 : LD) (v2_1 : Int) (v2_2 : Int) (v2_3 : Int) (v : Int) => Zx (Yi.b2 k) (Yi.h.H 7) k (Yi.s2 v2_0 v2_1 v2_2 v2_3 v) (Yi.c2 k a0 a1 a2 K0 L0)))) (by kernel_rfl) (Eq.trans (congrArg (Yi.m0 k a0 a1 a2 K0 L0 (aF, aC, aH, aW)) (pair_eq (funext fun v1_0 => funext fun v1_1 => funext fun v1_2 => funext fun v1_3 => funext fun v => Yi.l1_eq k a0 a1 a2 K0 v1_0 v1_1 v1_2 v1_3 L0 k v) (funext fun v2_0 => funext fun v2_1 => funext fun v2_2 => funext fun v2_3 => funext fun v => Yi.l2_eq k a0 a1 a2 K0 v2_0 v2_1 v2_2 v2_3 L0 k v))) (by kernel_rfl)))
noncomputable def Yi.m {β : Type} (k : Nat) (a0 : LD) (a1 a2 : Int) (K0 : LC → List Out → Option β) (F : ((LD × Int × Int × Int) → Option β)) : Option β :=
 (F) (a0, a1, a2, 0)
theorem Yi.f_eq {β : Type} (k : Nat) (a0 : LD) (a1 a2 : Int) (K0 : LC → List Out → Option β) : ZJ Try.prog (Yi.E k) Yi.h k Try.f124 (Yi.as a0 a1 a2) K0 = Yi.g k a0 a1 a2 (Yi.kt a0 a1 a2 K0) := Eq.trans (b := (Yi.m k a0 a1 a2 K0) (fun (v : LD × Int × Int × Int) => Zx (Yi.b0 k) (Yi.h.H 2) k (Yi.s0 v) (Yi.c0 k a0 a1 a2 K0))) (by kernel_rfl) (Eq.trans (congrArg (Yi.m k a0 a1 a2 K0) (funext fun v => Yi.l0_eq k a0 a1 a2 K0 k v)) (by kernel_rfl))
noncomputable def Yi.dec (rs : LC) (os : List Out) : Option (Bool) := Zd rs fun c1 r2 => Zd c1 fun x3 l4 => cD x3 fun d5 => ZaF d5 fun w0 => Ze l4 <| Ze r2 <| Ze os (some w0)
theorem Yi.kt_dec (a0 : LD) (a1 a2 : Int) : Yi.kt a0 a1 a2 Yi.dec = (fun z0 => some z0) := by kernel_rfl
theorem Yi.inj (a0 : LD) (a1 a2 : Int) {rs : LC} {os : List Out} {z0 : Bool} (h : Yi.dec rs os = some z0) (ho : Zo (Yi.as a0 a1 a2) os) : rs = [[.d (.bool z0)]] ∧ os = [] := by
 unfold Yi.dec at h
 obtain ⟨c1, r2, rfl, h1⟩ := Zb h
 obtain ⟨x3, l4, rfl, h2⟩ := Zb h1
 obtain ⟨d5, rfl, h3⟩ := Zt h2
 obtain ⟨w0, rfl, h4⟩ := Z0 h3
 obtain ⟨rfl, h5⟩ := Zc h4
 obtain ⟨rfl, h6⟩ := Zc h5
 obtain ⟨rfl, h7⟩ := Zc h6
 obtain rfl := Option.some.inj h7
 exact ⟨rfl, rfl⟩
theorem Yi.ok (k : Nat) : Zv Try.prog 124 (Yi.e k) := by
 refine Zu mix tyok (fn := Try.f124) (c := Zl Try.f124) Try.func124 (by kernel_rfl) (h := Yi.h) (k := k) (E := Yi.E k) (Zk (Yab.ok k) (Zk (Yaj.ok k) Zz)) (by kernel_rfl) (by kernel_rfl) rfl (Zq Try.func124 (by kernel_rfl)) ?_
 intro β l K r hr
 simp only [Yi.e] at hr
 split at hr
 case h_2 => cases hr
 unfold Yi.f at hr
 split at hr
 case h_2 => cases hr
 rename_i hz
 exact ⟨_, _, hr, _, Yi.dec, _, (Yi.f_eq k _ _ _ Yi.dec).trans (by rw [Yi.kt_dec]; exact hz), fun rs os h ho => Yi.inj _ _ _ h ho⟩
noncomputable def YD.l0 {β : Type} (k : Nat) (aC : LD) (aH aW : Int) (bA : LD) (K : Bool → Option β) (L0 : Int → Option β) (v : Int) : Option β :=
 match v with
 | aF => bif (decide ((aF : Int) < (bA.length : Int))) then (ZX bA aF fun c1267 => Zd c1267 fun d r => ZM .i64 d fun x1270 => Zd r fun d r => ZaF d fun x1273 => Zd r fun d r => ZM .i64 d fun x1276 => Zd r fun d r => Zan d fun x1279 => Zd r fun d r => ZM .i64 d fun x1282 => Zd r fun d r => ZM .i64 d fun x1285 => Zd r fun d r => ZM .i64 d fun x1288 => Zd r fun d r => ZaF d fun x1291 => Zd r fun d r => dSl d fun x1294 => Zd r fun d r => ZM .i64 d fun x1297 => Zd r fun d r => Zan d fun x1300 => Zd r fun d r => ZM .i64 d fun x1303 => Zd r fun d r => dSl d fun x1306 => Zd r fun d r => dSl d fun x1309 => Zd r fun d r => ZM .i64 d fun x1312 => Zd r fun d r => Zan d fun x1315 => Zd r fun d r => ZM .i64 d fun x1318 => Zd r fun d r => dSl d fun x1321 => Zd r fun d r => dSl d fun x1324 => Ze r (Yab.f k x1276 x1279 x1282 x1285 x1288 x1291 x1294 x1297 x1300 x1303 x1306 x1309 x1312 x1315 x1318 x1321 x1324 aH aW x1273 (fun y1325 => bif (!y1325) then (K false) else (bif ((x1285 : Int) != x1270) then (K false) else (bif (decide ((aF : Int) > 0)) then (ZX bA (IntKind.wrap .i64 (aF - 1)) fun c1326 => Zd c1326 fun d r => ZM .i64 d fun x1329 => Zd r fun d r => ZaF d fun x1332 => Zd r fun d r => ZM .i64 d fun x1335 => Zd r fun d r => Zan d fun x1338 => Zd r fun d r => ZM .i64 d fun x1341 => Zd r fun d r => ZM .i64 d fun x1344 => Zd r fun d r => ZM .i64 d fun x1347 => Zd r fun d r => ZaF d fun x1350 => Zd r fun d r => dSl d fun x1353 => Zd r fun d r => ZM .i64 d fun x1356 => Zd r fun d r => Zan d fun x1359 => Zd r fun d r => ZM .i64 d fun x1362 => Zd r fun d r => dSl d fun x1365 => Zd r fun d r => dSl d fun x1368 => Zd r fun d r => ZM .i64 d fun x1371 => Zd r fun d r => Zan d fun x1374 => Zd r fun d r => ZM .i64 d fun x1377 => Zd r fun d r => dSl d fun x1380 => Zd r fun d r => dSl d fun x1383 => Ze r (bif (decide ((x1329 : Int) ≥ x1270)) then (K false) else (L0 (IntKind.wrap .i64 (aF + 1))))) else (L0 (IntKind.wrap .i64 (aF + 1)))))))) else (K true)
noncomputable def YD.g {β : Type} (k : Nat) (aB : LD) (aA aE : Int) (aD : LD) (K : Bool → Option β) : Option β :=
 YY.f k aA 0 1000000 (fun y1 => bif (!y1) then (K false) else (YY.f k aE 1 1000000 (fun y2 => bif (!y2) then (K false) else (bif (decide (((aD.length : Int) : Int) > 40)) then (K false) else (Yi.f k aB aA aE (fun y1149 => bif (!y1149) then (K false) else (Z4 (YD.l0 k aB aA aE aD K) k (0))))))))
noncomputable def YD.t (k : Nat) (aB : LD) (aA aE : Int) (aD : LD) : Option (Bool) := YD.g k aB aA aE aD (fun z0 => some z0)
noncomputable def YD.f {β : Type} (k : Nat) (aB : LD) (aA aE : Int) (aD : LD) (K : Bool → Option β) : Option β :=
 match YD.t k aB aA aE aD with
 | some z0 => K z0
 | none => none
noncomputable def YD.as (aB : LD) (aA aE : Int) (aD : LD) : List A := [.agg [.sl aB, .int .i64 aA, .int .i64 aE, .sl aD]]
noncomputable def YD.kt {β : Type} (aB : LD) (aA aE : Int) (aD : LD) (K0 : LC → List Out → Option β) : Bool → Option β := fun z0 => K0 [[.d (.bool z0)]] []
noncomputable def YD.e (k : Nat) : ZQ := { modes := [(.imm, 0)], rts := [4], al := false, run := fun {β} l K => match l with | [.agg [.sl aB, .int .i64 aA, .int .i64 aE, .sl aD]] => YD.f k aB aA aE aD (YD.kt aB aA aE aD K) | _ => none }
noncomputable def YD.E (k : Nat) : Env := fun g => bif g == 123 then some (YY.e k) else bif g == 124 then some (Yi.e k) else bif g == 193 then some (Yab.e k) else none
noncomputable def YD.h : ZY := ⟨fun n => bif n == 4 then ⟨[(1, .asis), (3, .asis)], []⟩ else ⟨[], []⟩, fun _ => none, false, []⟩
noncomputable def YD.s0 (aC : LD) (aH aW : Int) (bA : LD) (v : Int) : St :=
 match v with
 | aF => ⟨[.any, .bp 0 0, .any, .d true (.int .i64 aF), .any, .any, .any, .any, .any, .any, .any, .any, .any, .any, .any, .any, .any, .any, .any, .any, .any, .any, .any, .any, .any, .any, .any, .any, .any, .any, .any, .any, .any, .any, .any, .any, .any, .any, .any, .any, .any, .any, .any, .any, .any, .any, .any, .any, .any, .any, .any, .any, .any, .any, .any, .any, .any, .any, .any, .any, .any, .any, .any, .any, .any, .any, .any, .any, .any, .any, .any, .any, .any, .any, .any, .any, .any], [.box none 95 [.d false (.sl aC), .d false (.int .i64 aH), .d false (.int .i64 aW), .d false (.sl bA)]]⟩
noncomputable def YD.b0 {β : Type} (k : Nat) : St → (Ex → St → Option β) → Option β := fun s K => den Try.prog (YD.E k) YD.h.H YD.h.J k (Zad [1, 1, 0, 1, 0, 0] (Zl Try.f130)) s K
noncomputable def YD.c0 {β : Type} (k : Nat) (aB : LD) (aA aE : Int) (aD : LD) (K0 : LC → List Out → Option β) : Ex → St → Option β := Zae Try.prog (YD.E k) YD.h k [1, 1, 0, 1, 0] (Zl Try.f130) (Zak Try.prog Try.f130 YD.h (YD.as aB aA aE aD) K0)
theorem YD.l0_eq {β : Type} (k : Nat) (aB : LD) (aA aE : Int) (aD : LD) (K0 : LC → List Out → Option β) (aC : LD) (aH aW : Int) (bA : LD) : ∀ (kk : Nat) (v : Int), Zx (YD.b0 k) (YD.h.H 4) kk (YD.s0 aC aH aW bA v) (YD.c0 k aB aA aE aD K0) = Z4 (YD.l0 k aC aH aW bA (YD.kt aB aA aE aD K0)) kk v :=
 Z9 (YD.s0 aC aH aW bA) _ (fun L0 v => by kernel_rfl)
noncomputable def YD.m {β : Type} (k : Nat) (aB : LD) (aA aE : Int) (aD : LD) (K0 : LC → List Out → Option β) (F : (LD → Int → Int → LD → Int → Option β)) : Option β :=
 YY.f k aA 0 1000000 (fun y1 => bif (!y1) then ((YD.kt aB aA aE aD K0) false) else (YY.f k aE 1 1000000 (fun y2 => bif (!y2) then ((YD.kt aB aA aE aD K0) false) else (bif (decide (((aD.length : Int) : Int) > 40)) then ((YD.kt aB aA aE aD K0) false) else (Yi.f k aB aA aE (fun y1149 => bif (!y1149) then ((YD.kt aB aA aE aD K0) false) else ((F) aB aA aE aD (0))))))))
theorem YD.f_eq {β : Type} (k : Nat) (aB : LD) (aA aE : Int) (aD : LD) (K0 : LC → List Out → Option β) : ZJ Try.prog (YD.E k) YD.h k Try.f130 (YD.as aB aA aE aD) K0 = YD.g k aB aA aE aD (YD.kt aB aA aE aD K0) := Eq.trans (b := (YD.m k aB aA aE aD K0) (fun (aC : LD) (aH : Int) (aW : Int) (bA : LD) (v : Int) => Zx (YD.b0 k) (YD.h.H 4) k (YD.s0 aC aH aW bA v) (YD.c0 k aB aA aE aD K0))) (by kernel_rfl) (Eq.trans (congrArg (YD.m k aB aA aE aD K0) (funext fun aC => funext fun aH => funext fun aW => funext fun bA => funext fun v => YD.l0_eq k aB aA aE aD K0 aC aH aW bA k v)) (by kernel_rfl))
noncomputable def YD.dec (rs : LC) (os : List Out) : Option (Bool) := Zd rs fun c1 r2 => Zd c1 fun x3 l4 => cD x3 fun d5 => ZaF d5 fun w0 => Ze l4 <| Ze r2 <| Ze os (some w0)
theorem YD.kt_dec (aB : LD) (aA aE : Int) (aD : LD) : YD.kt aB aA aE aD YD.dec = (fun z0 => some z0) := by kernel_rfl
theorem YD.inj (aB : LD) (aA aE : Int) (aD : LD) {rs : LC} {os : List Out} {z0 : Bool} (h : YD.dec rs os = some z0) (ho : Zo (YD.as aB aA aE aD) os) : rs = [[.d (.bool z0)]] ∧ os = [] := by
 unfold YD.dec at h
 obtain ⟨c1, r2, rfl, h1⟩ := Zb h
 obtain ⟨x3, l4, rfl, h2⟩ := Zb h1
 obtain ⟨d5, rfl, h3⟩ := Zt h2
 obtain ⟨w0, rfl, h4⟩ := Z0 h3
 obtain ⟨rfl, h5⟩ := Zc h4
 obtain ⟨rfl, h6⟩ := Zc h5
 obtain ⟨rfl, h7⟩ := Zc h6
 obtain rfl := Option.some.inj h7
 exact ⟨rfl, rfl⟩
theorem YD.ok (k : Nat) : Zv Try.prog 130 (YD.e k) := by
 refine Zu mix tyok (fn := Try.f130) (c := Zl Try.f130) Try.func130 (by kernel_rfl) (h := YD.h) (k := k) (E := YD.E k) (Zk (YY.ok k) (Zk (Yi.ok k) (Zk (Yab.ok k) Zz))) (by kernel_rfl) (by kernel_rfl) rfl (Zq Try.func130 (by kernel_rfl)) ?_
 intro β l K r hr
 simp only [YD.e] at hr
 split at hr
 case h_2 => cases hr
 unfold YD.f at hr
 split at hr
 case h_2 => cases hr
 rename_i hz
 exact ⟨_, _, hr, _, YD.dec, _, (YD.f_eq k _ _ _ _ YD.dec).trans (by rw [YD.kt_dec]; exact hz), fun rs os h ho => YD.inj _ _ _ _ h ho⟩
noncomputable def YC.l0 {β : Type} (k : Nat) (r_spec_l4Copy : Int → BA → Int → LD → LD → (Int → BA → Int → LC → LC → Option β) → Option β) (aC : Int) (aH : BA) (aW : Int) (bA bB : LD) (bQ : Int) (bR : BA) (bU bT : Int) (bW : BA) (bV : Int) (v0_12 : LC) (K : Int → BA → Int → LC → LC → Option β) (L0 : (Int × LC) → Option β) (v : Int × LC) : Option β :=
 match v with
 | (aF, v0_13) => bif (decide ((aF : Int) < (bB.length : Int))) then (ZX bB aF fun c22 => Zd c22 fun d r => ZM .i64 d fun x25 => Zd r fun d r => Zan d fun x28 => Zd r fun d r => ZM .i64 d fun x31 => Zd r fun d r => dSl d fun x34 => Zd r fun d r => dSl d fun x37 => Ze r (r_spec_l4Copy x25 x28 x31 x34 x37 (fun y38 y39 y40 y41 y42 => ZH (v0_13.length + ([[.d (.int .i64 y38), .d (.str y39), .d (.int .i64 y40), .own y41, .own y42]] : LC).length ≤ Z6) (L0 (IntKind.wrap .i64 (aF + 1), v0_13 ++ ([[.d (.int .i64 y38), .d (.str y39), .d (.int .i64 y40), .own y41, .own y42]] : LC)))))) else (K bT bW bV v0_12 v0_13)
noncomputable def YC.body {β : Type} (k : Nat) (r_spec_l4Copy : Int → BA → Int → LD → LD → (Int → BA → Int → LC → LC → Option β) → Option β) (aB : Int) (aA : BA) (aE : Int) (aD aG : LD) (K : Int → BA → Int → LC → LC → Option β) : Option β :=
 ZH (Zcm 1 aD) (ZH (([] : LC).length + (aD.map (·.map C.d)).length ≤ Z6) (Z4 (YC.l0 k r_spec_l4Copy aB aA aE aD aG 0 (⟨#[]⟩ : BA) 0 aB aA aE (([] : LC) ++ (aD.map (·.map C.d))) K) k (0, ([] : LC))))
noncomputable def YC.w {β : Type} (r : Int → BA → Int → LD → LD → Option (Int × BA × Int × LC × LC)) (aB : Int) (aA : BA) (aE : Int) (aD aG : LD) (K : Int → BA → Int → LC → LC → Option β) : Option β :=
 match r aB aA aE aD aG with
 | some (z0, z1, z2, z3, z4) => K z0 z1 z2 z3 z4
 | none => none
noncomputable def YC.all : Nat → (Int → BA → Int → LD → LD → Option (Int × BA × Int × LC × LC))
 | 0 => (fun _ _ _ _ _ => none)
 | k + 1 => (fun r => (fun aB aA aE aD aG => YC.body k (YC.w r) aB aA aE aD aG (fun z0 z1 z2 z3 z4 => some (z0, z1, z2, z3, z4)))) (YC.all k)
noncomputable def YC.t (k : Nat) (aB : Int) (aA : BA) (aE : Int) (aD aG : LD) : Option (Int × BA × Int × LC × LC) := (YC.all k) aB aA aE aD aG
noncomputable def YC.f {β : Type} (k : Nat) (aB : Int) (aA : BA) (aE : Int) (aD aG : LD) (K : Int → BA → Int → LC → LC → Option β) : Option β := YC.w (YC.t k) aB aA aE aD aG K
noncomputable def YC.g {β : Type} (k : Nat) (aB : Int) (aA : BA) (aE : Int) (aD aG : LD) (K : Int → BA → Int → LC → LC → Option β) : Option β := YC.body k (YC.f k) aB aA aE aD aG K
theorem YC.t_zero (aB : Int) (aA : BA) (aE : Int) (aD aG : LD) : YC.t 0 aB aA aE aD aG = none := rfl
theorem YC.t_succ (k : Nat) (aB : Int) (aA : BA) (aE : Int) (aD aG : LD) : YC.t (k + 1) aB aA aE aD aG = YC.g k aB aA aE aD aG (fun z0 z1 z2 z3 z4 => some (z0, z1, z2, z3, z4)) := rfl
noncomputable def YC.as (aB : Int) (aA : BA) (aE : Int) (aD aG : LD) : List A := [.agg [.int .i64 aB, .str aA, .int .i64 aE, .sl aD, .sl aG]]
noncomputable def YC.kt {β : Type} (aB : Int) (aA : BA) (aE : Int) (aD aG : LD) (K0 : LC → List Out → Option β) : Int → BA → Int → LC → LC → Option β := fun z0 z1 z2 z3 z4 => K0 [[.d (.int .i64 z0), .d (.str z1), .d (.int .i64 z2), .own z3, .own z4]] []
noncomputable def YC.e (k : Nat) : ZQ := { modes := [(.imm, 0)], rts := [151], al := false, run := fun {β} l K => match l with | [.agg [.int .i64 aB, .str aA, .int .i64 aE, .sl aD, .sl aG]] => YC.f k aB aA aE aD aG (YC.kt aB aA aE aD aG K) | _ => none }
noncomputable def YC.E (k : Nat) : Env := fun g => bif g == 181 then some (YC.e k) else none
noncomputable def YC.h : ZY := ⟨fun n => bif n == 3 then ⟨[(1, .asis), (2, .asis), (3, .asis), (4, .asis)], [(3, 4, .row true 149)]⟩ else ⟨[], []⟩, fun _ => none, false, []⟩
noncomputable def YC.s0 (aC : Int) (aH : BA) (aW : Int) (bA bB : LD) (bQ : Int) (bR : BA) (bU bT : Int) (bW : BA) (bV : Int) (v0_12 : LC) (v : Int × LC) : St :=
 match v with
 | (aF, v0_13) => ⟨[.any, .bp 0 0, .bp 1 0, .bp 2 0, .d true (.int .i64 aF), .any, .any, .any, .any, .any, .any, .any, .any, .any, .any, .any, .any, .any, .any, .any, .any, .any, .any, .any, .any, .any, .any, .any, .any, .any, .any, .any, .any, .any, .any], [.box none 151 [.d false (.int .i64 aC), .d false (.str aH), .d false (.int .i64 aW), .d false (.sl bA), .d false (.sl bB)], .box none 151 [.d true (.int .i64 bQ), .d true (.str bR), .d true (.int .i64 bU), .nil, .nil], .box none 151 [.d false (.int .i64 bT), .d false (.str bW), .d false (.int .i64 bV), .row 3, .row 4], .row none true 25 v0_12, .row none true 149 v0_13]⟩
noncomputable def YC.b0 {β : Type} (k : Nat) : St → (Ex → St → Option β) → Option β := fun s K => den Try.prog (YC.E k) YC.h.H YC.h.J k (Zad [1, 1, 0, 1, 0, 0] (Zl Try.f181)) s K
noncomputable def YC.c0 {β : Type} (k : Nat) (aB : Int) (aA : BA) (aE : Int) (aD aG : LD) (K0 : LC → List Out → Option β) : Ex → St → Option β := Zae Try.prog (YC.E k) YC.h k [1, 1, 0, 1, 0] (Zl Try.f181) (Zak Try.prog Try.f181 YC.h (YC.as aB aA aE aD aG) K0)
theorem YC.l0_eq {β : Type} (k : Nat) (aB : Int) (aA : BA) (aE : Int) (aD aG : LD) (K0 : LC → List Out → Option β) (aC : Int) (aH : BA) (aW : Int) (bA bB : LD) (bQ : Int) (bR : BA) (bU bT : Int) (bW : BA) (bV : Int) (v0_12 : LC) : ∀ (kk : Nat) (v : Int × LC), Zx (YC.b0 k) (YC.h.H 3) kk (YC.s0 aC aH aW bA bB bQ bR bU bT bW bV v0_12 v) (YC.c0 k aB aA aE aD aG K0) = Z4 (YC.l0 k (YC.f k) aC aH aW bA bB bQ bR bU bT bW bV v0_12 (YC.kt aB aA aE aD aG K0)) kk v :=
 Z9 (YC.s0 aC aH aW bA bB bQ bR bU bT bW bV v0_12) _ (fun L0 v => by obtain ⟨aF, v0_13⟩ := v; kernel_rfl)
noncomputable def YC.m {β : Type} (k : Nat) (aB : Int) (aA : BA) (aE : Int) (aD aG : LD) (K0 : LC → List Out → Option β) (F : (Int → BA → Int → LD → LD → Int → BA → Int → Int → BA → Int → LC → (Int × LC) → Option β)) : Option β :=
 ZH (Zcm 1 aD) (ZH (([] : LC).length + (aD.map (·.map C.d)).length ≤ Z6) ((F) aB aA aE aD aG 0 (⟨#[]⟩ : BA) 0 aB aA aE (([] : LC) ++ (aD.map (·.map C.d))) (0, ([] : LC))))
theorem YC.f_eq {β : Type} (k : Nat) (aB : Int) (aA : BA) (aE : Int) (aD aG : LD) (K0 : LC → List Out → Option β) : ZJ Try.prog (YC.E k) YC.h k Try.f181 (YC.as aB aA aE aD aG) K0 = YC.g k aB aA aE aD aG (YC.kt aB aA aE aD aG K0) := Eq.trans (b := (YC.m k aB aA aE aD aG K0) (fun (aC : Int) (aH : BA) (aW : Int) (bA : LD) (bB : LD) (bQ : Int) (bR : BA) (bU : Int) (bT : Int) (bW : BA) (bV : Int) (v0_12 : LC) (v : Int × LC) => Zx (YC.b0 k) (YC.h.H 3) k (YC.s0 aC aH aW bA bB bQ bR bU bT bW bV v0_12 v) (YC.c0 k aB aA aE aD aG K0))) (by kernel_rfl) (Eq.trans (congrArg (YC.m k aB aA aE aD aG K0) (funext fun aC => funext fun aH => funext fun aW => funext fun bA => funext fun bB => funext fun bQ => funext fun bR => funext fun bU => funext fun bT => funext fun bW => funext fun bV => funext fun v0_12 => funext fun v => YC.l0_eq k aB aA aE aD aG K0 aC aH aW bA bB bQ bR bU bT bW bV v0_12 k v)) (by kernel_rfl))
noncomputable def YC.dec (rs : LC) (os : List Out) : Option (Int × BA × Int × LC × LC) := Zd rs fun c1 r2 => Zd c1 fun x3 l4 => cD x3 fun d5 => ZM .i64 d5 fun w0 => Zd l4 fun x6 l7 => cD x6 fun d8 => Zan d8 fun w1 => Zd l7 fun x9 l10 => cD x9 fun d11 => ZM .i64 d11 fun w2 => Zd l10 fun x12 l13 => ZaU x12 fun w3 => Zd l13 fun x14 l15 => ZaU x14 fun w4 => Ze l15 <| Ze r2 <| Ze os (some (w0, w1, w2, w3, w4))
theorem YC.kt_dec (aB : Int) (aA : BA) (aE : Int) (aD aG : LD) : YC.kt aB aA aE aD aG YC.dec = (fun z0 z1 z2 z3 z4 => some (z0, z1, z2, z3, z4)) := by kernel_rfl
theorem YC.inj (aB : Int) (aA : BA) (aE : Int) (aD aG : LD) {rs : LC} {os : List Out} {z0 : Int} {z1 : BA} {z2 : Int} {z3 z4 : LC} (h : YC.dec rs os = some (z0, z1, z2, z3, z4)) (ho : Zo (YC.as aB aA aE aD aG) os) : rs = [[.d (.int .i64 z0), .d (.str z1), .d (.int .i64 z2), .own z3, .own z4]] ∧ os = [] := by
 unfold YC.dec at h
 obtain ⟨c1, r2, rfl, h1⟩ := Zb h
 obtain ⟨x3, l4, rfl, h2⟩ := Zb h1
 obtain ⟨d5, rfl, h3⟩ := Zt h2
 obtain ⟨w0, rfl, h4⟩ := ZA h3
 obtain ⟨x6, l7, rfl, h5⟩ := Zb h4
 obtain ⟨d8, rfl, h6⟩ := Zt h5
 obtain ⟨w1, rfl, h7⟩ := ZaL h6
 obtain ⟨x9, l10, rfl, h8⟩ := Zb h7
 obtain ⟨d11, rfl, h9⟩ := Zt h8
 obtain ⟨w2, rfl, h10⟩ := ZA h9
 obtain ⟨x12, l13, rfl, h11⟩ := Zb h10
 obtain ⟨w3, rfl, h12⟩ := ZN h11
 obtain ⟨x14, l15, rfl, h13⟩ := Zb h12
 obtain ⟨w4, rfl, h14⟩ := ZN h13
 obtain ⟨rfl, h15⟩ := Zc h14
 obtain ⟨rfl, h16⟩ := Zc h15
 obtain ⟨rfl, h17⟩ := Zc h16
 simp only [Option.some.injEq, Prod.mk.injEq] at h17
 obtain ⟨rfl, rfl, rfl, rfl, rfl⟩ := h17
 exact ⟨rfl, rfl⟩
theorem YC.oks (k : Nat) : Zv Try.prog 181 (YC.e k) := by
 induction k with
 | zero =>
  refine ?_
  ·exact Zb1 (Zq Try.func181 (by kernel_rfl)) fun β l K r h => by
    simp only [YC.e] at h
    split at h
    ·unfold YC.f at h
     unfold YC.w at h
     rw [YC.t_zero] at h
     cases h
    ·cases h
 | succ k ih =>
  refine ?_
  ·refine Zu mix tyok (fn := Try.f181) (c := Zl Try.f181) Try.func181 (by kernel_rfl) (h := YC.h) (k := k) (E := YC.E k) (Zk ih Zz) (by kernel_rfl) (by kernel_rfl) rfl (Zq Try.func181 (by kernel_rfl)) ?_
   intro β l K r hr
   simp only [YC.e] at hr
   split at hr
   case h_2 => cases hr
   unfold YC.f at hr
   unfold YC.w at hr
   split at hr
   case h_2 => cases hr
   rename_i hz
   exact ⟨_, _, hr, _, YC.dec, _, (YC.f_eq k _ _ _ _ _ YC.dec).trans (by rw [YC.kt_dec]; exact hz), fun rs os h ho => YC.inj _ _ _ _ _ h ho⟩
theorem YC.ok (k : Nat) : Zv Try.prog 181 (YC.e k) := (YC.oks k)
noncomputable def Yak.g {β : Type} (k : Nat) (aB : Int) (aA : BA) (aE aD aG : Int) (aT : Bool) (aM : LD) (aQ : Int) (aI : BA) (aR : Int) (aJ aN : LD) (aP : Int) (aK : BA) (aS : Int) (aL aO : LD) (K : Int → BA → Int → Int → Int → Bool → LC → Int → BA → Int → LC → LC → Int → BA → Int → LC → LC → Option β) : Option β :=
 ZH (Zcm 1 aM) (ZH (([] : LC).length + (aM.map (·.map C.d)).length ≤ Z6) (YC.f k aQ aI aR aJ aN (fun y43 y44 y45 y46 y47 => YC.f k aP aK aS aL aO (fun y48 y49 y50 y51 y52 => K aB aA aE aD aG aT (([] : LC) ++ (aM.map (·.map C.d))) y43 y44 y45 y46 y47 y48 y49 y50 y51 y52))))
noncomputable def Yak.t (k : Nat) (aB : Int) (aA : BA) (aE aD aG : Int) (aT : Bool) (aM : LD) (aQ : Int) (aI : BA) (aR : Int) (aJ aN : LD) (aP : Int) (aK : BA) (aS : Int) (aL aO : LD) : Option (Int × BA × Int × Int × Int × Bool × LC × Int × BA × Int × LC × LC × Int × BA × Int × LC × LC) := Yak.g k aB aA aE aD aG aT aM aQ aI aR aJ aN aP aK aS aL aO (fun z0 z1 z2 z3 z4 z5 z6 z7 z8 z9 z10 z11 z12 z13 z14 z15 z16 => some (z0, z1, z2, z3, z4, z5, z6, z7, z8, z9, z10, z11, z12, z13, z14, z15, z16))
noncomputable def Yak.f {β : Type} (k : Nat) (aB : Int) (aA : BA) (aE aD aG : Int) (aT : Bool) (aM : LD) (aQ : Int) (aI : BA) (aR : Int) (aJ aN : LD) (aP : Int) (aK : BA) (aS : Int) (aL aO : LD) (K : Int → BA → Int → Int → Int → Bool → LC → Int → BA → Int → LC → LC → Int → BA → Int → LC → LC → Option β) : Option β :=
 match Yak.t k aB aA aE aD aG aT aM aQ aI aR aJ aN aP aK aS aL aO with
 | some (z0, z1, z2, z3, z4, z5, z6, z7, z8, z9, z10, z11, z12, z13, z14, z15, z16) => K z0 z1 z2 z3 z4 z5 z6 z7 z8 z9 z10 z11 z12 z13 z14 z15 z16
 | none => none
noncomputable def Yak.as (aB : Int) (aA : BA) (aE aD aG : Int) (aT : Bool) (aM : LD) (aQ : Int) (aI : BA) (aR : Int) (aJ aN : LD) (aP : Int) (aK : BA) (aS : Int) (aL aO : LD) : List A := [.agg [.int .i64 aB, .str aA, .int .i64 aE, .int .i64 aD, .int .i64 aG, .bool aT, .sl aM, .int .i64 aQ, .str aI, .int .i64 aR, .sl aJ, .sl aN, .int .i64 aP, .str aK, .int .i64 aS, .sl aL, .sl aO]]
noncomputable def Yak.kt {β : Type} (aB : Int) (aA : BA) (aE aD aG : Int) (aT : Bool) (aM : LD) (aQ : Int) (aI : BA) (aR : Int) (aJ aN : LD) (aP : Int) (aK : BA) (aS : Int) (aL aO : LD) (K0 : LC → List Out → Option β) : Int → BA → Int → Int → Int → Bool → LC → Int → BA → Int → LC → LC → Int → BA → Int → LC → LC → Option β := fun z0 z1 z2 z3 z4 z5 z6 z7 z8 z9 z10 z11 z12 z13 z14 z15 z16 => K0 [[.d (.int .i64 z0), .d (.str z1), .d (.int .i64 z2), .d (.int .i64 z3), .d (.int .i64 z4), .d (.bool z5), .own z6, .d (.int .i64 z7), .d (.str z8), .d (.int .i64 z9), .own z10, .own z11, .d (.int .i64 z12), .d (.str z13), .d (.int .i64 z14), .own z15, .own z16]] []
noncomputable def Yak.e (k : Nat) : ZQ := { modes := [(.imm, 0)], rts := [174], al := false, run := fun {β} l K => match l with | [.agg [.int .i64 aB, .str aA, .int .i64 aE, .int .i64 aD, .int .i64 aG, .bool aT, .sl aM, .int .i64 aQ, .str aI, .int .i64 aR, .sl aJ, .sl aN, .int .i64 aP, .str aK, .int .i64 aS, .sl aL, .sl aO]] => Yak.f k aB aA aE aD aG aT aM aQ aI aR aJ aN aP aK aS aL aO (Yak.kt aB aA aE aD aG aT aM aQ aI aR aJ aN aP aK aS aL aO K) | _ => none }
noncomputable def Yak.E (k : Nat) : Env := fun g => bif g == 181 then some (YC.e k) else none
noncomputable def Yak.h : ZY := ⟨fun n => ⟨[], []⟩, fun _ => none, false, []⟩
theorem Yak.f_eq {β : Type} (k : Nat) (aB : Int) (aA : BA) (aE aD aG : Int) (aT : Bool) (aM : LD) (aQ : Int) (aI : BA) (aR : Int) (aJ aN : LD) (aP : Int) (aK : BA) (aS : Int) (aL aO : LD) (K0 : LC → List Out → Option β) : ZJ Try.prog (Yak.E k) Yak.h k Try.f202 (Yak.as aB aA aE aD aG aT aM aQ aI aR aJ aN aP aK aS aL aO) K0 = Yak.g k aB aA aE aD aG aT aM aQ aI aR aJ aN aP aK aS aL aO (Yak.kt aB aA aE aD aG aT aM aQ aI aR aJ aN aP aK aS aL aO K0) := by kernel_rfl
noncomputable def Yak.dec (rs : LC) (os : List Out) : Option (Int × BA × Int × Int × Int × Bool × LC × Int × BA × Int × LC × LC × Int × BA × Int × LC × LC) := Zd rs fun c1 r2 => Zd c1 fun x3 l4 => cD x3 fun d5 => ZM .i64 d5 fun w0 => Zd l4 fun x6 l7 => cD x6 fun d8 => Zan d8 fun w1 => Zd l7 fun x9 l10 => cD x9 fun d11 => ZM .i64 d11 fun w2 => Zd l10 fun x12 l13 => cD x12 fun d14 => ZM .i64 d14 fun w3 => Zd l13 fun x15 l16 => cD x15 fun d17 => ZM .i64 d17 fun w4 => Zd l16 fun x18 l19 => cD x18 fun d20 => ZaF d20 fun w5 => Zd l19 fun x21 l22 => ZaU x21 fun w6 => Zd l22 fun x23 l24 => cD x23 fun d25 => ZM .i64 d25 fun w7 => Zd l24 fun x26 l27 => cD x26 fun d28 => Zan d28 fun w8 => Zd l27 fun x29 l30 => cD x29 fun d31 => ZM .i64 d31 fun w9 => Zd l30 fun x32 l33 => ZaU x32 fun w10 => Zd l33 fun x34 l35 => ZaU x34 fun w11 => Zd l35 fun x36 l37 => cD x36 fun d38 => ZM .i64 d38 fun w12 => Zd l37 fun x39 l40 => cD x39 fun d41 => Zan d41 fun w13 => Zd l40 fun x42 l43 => cD x42 fun d44 => ZM .i64 d44 fun w14 => Zd l43 fun x45 l46 => ZaU x45 fun w15 => Zd l46 fun x47 l48 => ZaU x47 fun w16 => Ze l48 <| Ze r2 <| Ze os (some (w0, w1, w2, w3, w4, w5, w6, w7, w8, w9, w10, w11, w12, w13, w14, w15, w16))
theorem Yak.kt_dec (aB : Int) (aA : BA) (aE aD aG : Int) (aT : Bool) (aM : LD) (aQ : Int) (aI : BA) (aR : Int) (aJ aN : LD) (aP : Int) (aK : BA) (aS : Int) (aL aO : LD) : Yak.kt aB aA aE aD aG aT aM aQ aI aR aJ aN aP aK aS aL aO Yak.dec = (fun z0 z1 z2 z3 z4 z5 z6 z7 z8 z9 z10 z11 z12 z13 z14 z15 z16 => some (z0, z1, z2, z3, z4, z5, z6, z7, z8, z9, z10, z11, z12, z13, z14, z15, z16)) := by kernel_rfl
theorem Yak.inj (aB : Int) (aA : BA) (aE aD aG : Int) (aT : Bool) (aM : LD) (aQ : Int) (aI : BA) (aR : Int) (aJ aN : LD) (aP : Int) (aK : BA) (aS : Int) (aL aO : LD) {rs : LC} {os : List Out} {z0 : Int} {z1 : BA} {z2 z3 z4 : Int} {z5 : Bool} {z6 : LC} {z7 : Int} {z8 : BA} {z9 : Int} {z10 z11 : LC} {z12 : Int} {z13 : BA} {z14 : Int} {z15 z16 : LC} (h : Yak.dec rs os = some (z0, z1, z2, z3, z4, z5, z6, z7, z8, z9, z10, z11, z12, z13, z14, z15, z16)) (ho : Zo (Yak.as aB aA aE aD aG aT aM aQ aI aR aJ aN aP aK aS aL aO) os) : rs = [[.d (.int .i64 z0), .d (.str z1), .d (.int .i64 z2), .d (.int .i64 z3), .d (.int .i64 z4), .d (.bool z5), .own z6, .d (.int .i64 z7), .d (.str z8), .d (.int .i64 z9), .own z10, .own z11, .d (.int .i64 z12), .d (.str z13), .d (.int .i64 z14), .own z15, .own z16]] ∧ os = [] := by
 unfold Yak.dec at h
 obtain ⟨c1, r2, rfl, h1⟩ := Zb h
 obtain ⟨x3, l4, rfl, h2⟩ := Zb h1
 obtain ⟨d5, rfl, h3⟩ := Zt h2
 obtain ⟨w0, rfl, h4⟩ := ZA h3
 obtain ⟨x6, l7, rfl, h5⟩ := Zb h4
 obtain ⟨d8, rfl, h6⟩ := Zt h5
 obtain ⟨w1, rfl, h7⟩ := ZaL h6
 obtain ⟨x9, l10, rfl, h8⟩ := Zb h7
 obtain ⟨d11, rfl, h9⟩ := Zt h8
 obtain ⟨w2, rfl, h10⟩ := ZA h9
 obtain ⟨x12, l13, rfl, h11⟩ := Zb h10
 obtain ⟨d14, rfl, h12⟩ := Zt h11
 obtain ⟨w3, rfl, h13⟩ := ZA h12
 obtain ⟨x15, l16, rfl, h14⟩ := Zb h13
 obtain ⟨d17, rfl, h15⟩ := Zt h14
 obtain ⟨w4, rfl, h16⟩ := ZA h15
 obtain ⟨x18, l19, rfl, h17⟩ := Zb h16
 obtain ⟨d20, rfl, h18⟩ := Zt h17
 obtain ⟨w5, rfl, h19⟩ := Z0 h18
 obtain ⟨x21, l22, rfl, h20⟩ := Zb h19
 obtain ⟨w6, rfl, h21⟩ := ZN h20
 obtain ⟨x23, l24, rfl, h22⟩ := Zb h21
 obtain ⟨d25, rfl, h23⟩ := Zt h22
 obtain ⟨w7, rfl, h24⟩ := ZA h23
 obtain ⟨x26, l27, rfl, h25⟩ := Zb h24
 obtain ⟨d28, rfl, h26⟩ := Zt h25
 obtain ⟨w8, rfl, h27⟩ := ZaL h26
 obtain ⟨x29, l30, rfl, h28⟩ := Zb h27
 obtain ⟨d31, rfl, h29⟩ := Zt h28
 obtain ⟨w9, rfl, h30⟩ := ZA h29
 obtain ⟨x32, l33, rfl, h31⟩ := Zb h30
 obtain ⟨w10, rfl, h32⟩ := ZN h31
 obtain ⟨x34, l35, rfl, h33⟩ := Zb h32
 obtain ⟨w11, rfl, h34⟩ := ZN h33
 obtain ⟨x36, l37, rfl, h35⟩ := Zb h34
 obtain ⟨d38, rfl, h36⟩ := Zt h35
 obtain ⟨w12, rfl, h37⟩ := ZA h36
 obtain ⟨x39, l40, rfl, h38⟩ := Zb h37
 obtain ⟨d41, rfl, h39⟩ := Zt h38
 obtain ⟨w13, rfl, h40⟩ := ZaL h39
 obtain ⟨x42, l43, rfl, h41⟩ := Zb h40
 obtain ⟨d44, rfl, h42⟩ := Zt h41
 obtain ⟨w14, rfl, h43⟩ := ZA h42
 obtain ⟨x45, l46, rfl, h44⟩ := Zb h43
 obtain ⟨w15, rfl, h45⟩ := ZN h44
 obtain ⟨x47, l48, rfl, h46⟩ := Zb h45
 obtain ⟨w16, rfl, h47⟩ := ZN h46
 obtain ⟨rfl, h48⟩ := Zc h47
 obtain ⟨rfl, h49⟩ := Zc h48
 obtain ⟨rfl, h50⟩ := Zc h49
 simp only [Option.some.injEq, Prod.mk.injEq] at h50
 obtain ⟨rfl, rfl, rfl, rfl, rfl, rfl, rfl, rfl, rfl, rfl, rfl, rfl, rfl, rfl, rfl, rfl, rfl⟩ := h50
 exact ⟨rfl, rfl⟩
theorem Yak.ok (k : Nat) : Zv Try.prog 202 (Yak.e k) := by
 refine Zu mix tyok (fn := Try.f202) (c := Zl Try.f202) Try.func202 (by kernel_rfl) (h := Yak.h) (k := k) (E := Yak.E k) (Zk (YC.ok k) Zz) (by kernel_rfl) (by kernel_rfl) rfl (Zq Try.func202 (by kernel_rfl)) ?_
 intro β l K r hr
 simp only [Yak.e] at hr
 split at hr
 case h_2 => cases hr
 unfold Yak.f at hr
 split at hr
 case h_2 => cases hr
 rename_i hz
 exact ⟨_, _, hr, _, Yak.dec, _, (Yak.f_eq k _ _ _ _ _ _ _ _ _ _ _ _ _ _ _ _ _ Yak.dec).trans (by rw [Yak.kt_dec]; exact hz), fun rs os h ho => Yak.inj _ _ _ _ _ _ _ _ _ _ _ _ _ _ _ _ _ h ho⟩
noncomputable def Yy.l0 {β : Type} (k : Nat) (aF : LD) (K : LC → Option β) (L0 : (Int × LC) → Option β) (v : Int × LC) : Option β :=
 match v with
 | (aC, aH) => bif (decide ((aC : Int) < (aF.length : Int))) then (ZX aF aC fun c70 => Zd c70 fun d r => ZM .i64 d fun x73 => Zd r fun d r => Zan d fun x76 => Zd r fun d r => ZM .i64 d fun x79 => Zd r fun d r => ZM .i64 d fun x82 => Zd r fun d r => ZM .i64 d fun x85 => Zd r fun d r => ZaF d fun x88 => Zd r fun d r => dSl d fun x91 => Zd r fun d r => ZM .i64 d fun x94 => Zd r fun d r => Zan d fun x97 => Zd r fun d r => ZM .i64 d fun x100 => Zd r fun d r => dSl d fun x103 => Zd r fun d r => dSl d fun x106 => Zd r fun d r => ZM .i64 d fun x109 => Zd r fun d r => Zan d fun x112 => Zd r fun d r => ZM .i64 d fun x115 => Zd r fun d r => dSl d fun x118 => Zd r fun d r => dSl d fun x121 => Ze r (Yak.f k x73 x76 x79 x82 x85 x88 x91 x94 x97 x100 x103 x106 x109 x112 x115 x118 x121 (fun y122 y123 y124 y125 y126 y127 y128 y129 y130 y131 y132 y133 y134 y135 y136 y137 y138 => ZH (aH.length + ([[.d (.int .i64 y122), .d (.str y123), .d (.int .i64 y124), .d (.int .i64 y125), .d (.int .i64 y126), .d (.bool y127), .own y128, .d (.int .i64 y129), .d (.str y130), .d (.int .i64 y131), .own y132, .own y133, .d (.int .i64 y134), .d (.str y135), .d (.int .i64 y136), .own y137, .own y138]] : LC).length ≤ Z6) (L0 (IntKind.wrap .i64 (aC + 1), aH ++ ([[.d (.int .i64 y122), .d (.str y123), .d (.int .i64 y124), .d (.int .i64 y125), .d (.int .i64 y126), .d (.bool y127), .own y128, .d (.int .i64 y129), .d (.str y130), .d (.int .i64 y131), .own y132, .own y133, .d (.int .i64 y134), .d (.str y135), .d (.int .i64 y136), .own y137, .own y138]] : LC)))))) else (K aH)
noncomputable def Yy.g {β : Type} (k : Nat) (a0 : LD) (K : LC → Option β) : Option β :=
 Z4 (Yy.l0 k a0 K) k (0, ([] : LC))
noncomputable def Yy.t (k : Nat) (a0 : LD) : Option (LC) := Yy.g k a0 (fun z0 => some z0)
noncomputable def Yy.f {β : Type} (k : Nat) (a0 : LD) (K : LC → Option β) : Option β :=
 match Yy.t k a0 with
 | some z0 => K z0
 | none => none
noncomputable def Yy.as (a0 : LD) : List A := [.d (.sl a0)]
noncomputable def Yy.kt {β : Type} (a0 : LD) (K0 : LC → List Out → Option β) : LC → Option β := fun z0 => K0 [[.own z0]] []
noncomputable def Yy.e (k : Nat) : ZQ := { modes := [(.imm, 0)], rts := [82], al := false, run := fun {β} l K => match l with | [.d (.sl a0)] => Yy.f k a0 (Yy.kt a0 K) | _ => none }
noncomputable def Yy.E (k : Nat) : Env := fun g => bif g == 202 then some (Yak.e k) else none
noncomputable def Yy.h : ZY := ⟨fun n => bif n == 3 then ⟨[(0, .asis), (3, .asis), (4, .asis)], []⟩ else ⟨[], []⟩, fun _ => none, false, []⟩
noncomputable def Yy.s0 (aF : LD) (v : Int × LC) : St :=
 match v with
 | (aC, aH) => ⟨[.d false (.sl aF), .any, .any, .row 0, .d true (.int .i64 aC), .any, .any, .any, .any, .any, .any, .any, .any, .any, .any, .any, .any, .any, .any, .any, .any], [.row none true 82 aH]⟩
noncomputable def Yy.b0 {β : Type} (k : Nat) : St → (Ex → St → Option β) → Option β := fun s K => den Try.prog (Yy.E k) Yy.h.H Yy.h.J k (Zad [1, 1, 0, 1, 0, 0] (Zl Try.f131)) s K
noncomputable def Yy.c0 {β : Type} (k : Nat) (a0 : LD) (K0 : LC → List Out → Option β) : Ex → St → Option β := Zae Try.prog (Yy.E k) Yy.h k [1, 1, 0, 1, 0] (Zl Try.f131) (Zak Try.prog Try.f131 Yy.h (Yy.as a0) K0)
theorem Yy.l0_eq {β : Type} (k : Nat) (a0 : LD) (K0 : LC → List Out → Option β) (aF : LD) : ∀ (kk : Nat) (v : Int × LC), Zx (Yy.b0 k) (Yy.h.H 3) kk (Yy.s0 aF v) (Yy.c0 k a0 K0) = Z4 (Yy.l0 k aF (Yy.kt a0 K0)) kk v :=
 Z9 (Yy.s0 aF) _ (fun L0 v => by obtain ⟨aC, aH⟩ := v; kernel_rfl)
noncomputable def Yy.m {β : Type} (k : Nat) (a0 : LD) (K0 : LC → List Out → Option β) (F : (LD → (Int × LC) → Option β)) : Option β :=
 (F) a0 (0, ([] : LC))
theorem Yy.f_eq {β : Type} (k : Nat) (a0 : LD) (K0 : LC → List Out → Option β) : ZJ Try.prog (Yy.E k) Yy.h k Try.f131 (Yy.as a0) K0 = Yy.g k a0 (Yy.kt a0 K0) := Eq.trans (b := (Yy.m k a0 K0) (fun (aF : LD) (v : Int × LC) => Zx (Yy.b0 k) (Yy.h.H 3) k (Yy.s0 aF v) (Yy.c0 k a0 K0))) (by kernel_rfl) (Eq.trans (congrArg (Yy.m k a0 K0) (funext fun aF => funext fun v => Yy.l0_eq k a0 K0 aF k v)) (by kernel_rfl))
noncomputable def Yy.dec (rs : LC) (os : List Out) : Option (LC) := Zd rs fun c1 r2 => Zd c1 fun x3 l4 => ZaU x3 fun w0 => Ze l4 <| Ze r2 <| Ze os (some w0)
theorem Yy.kt_dec (a0 : LD) : Yy.kt a0 Yy.dec = (fun z0 => some z0) := by kernel_rfl
theorem Yy.inj (a0 : LD) {rs : LC} {os : List Out} {z0 : LC} (h : Yy.dec rs os = some z0) (ho : Zo (Yy.as a0) os) : rs = [[.own z0]] ∧ os = [] := by
 unfold Yy.dec at h
 obtain ⟨c1, r2, rfl, h1⟩ := Zb h
 obtain ⟨x3, l4, rfl, h2⟩ := Zb h1
 obtain ⟨w0, rfl, h3⟩ := ZN h2
 obtain ⟨rfl, h4⟩ := Zc h3
 obtain ⟨rfl, h5⟩ := Zc h4
 obtain ⟨rfl, h6⟩ := Zc h5
 obtain rfl := Option.some.inj h6
 exact ⟨rfl, rfl⟩
theorem Yy.ok (k : Nat) : Zv Try.prog 131 (Yy.e k) := by
 refine Zu mix tyok (fn := Try.f131) (c := Zl Try.f131) Try.func131 (by kernel_rfl) (h := Yy.h) (k := k) (E := Yy.E k) (Zk (Yak.ok k) Zz) (by kernel_rfl) (by kernel_rfl) rfl (Zq Try.func131 (by kernel_rfl)) ?_
 intro β l K r hr
 simp only [Yy.e] at hr
 split at hr
 case h_2 => cases hr
 unfold Yy.f at hr
 split at hr
 case h_2 => cases hr
 rename_i hz
 exact ⟨_, _, hr, _, Yy.dec, _, (Yy.f_eq k _ Yy.dec).trans (by rw [Yy.kt_dec]; exact hz), fun rs os h ho => Yy.inj _ h ho⟩
noncomputable def Yao.g {β : Type} (k : Nat) (aB : LD) (aA aE : Int) (aD : LD) (K : Int → LC → Option β) : Option β :=
 YD.f k aB aA aE aD (fun y1384 => bif (!y1384) then (K 0 ([] : LC)) else (Yy.f k aB (fun y1385 => K aA y1385)))
noncomputable def Yao.t (k : Nat) (aB : LD) (aA aE : Int) (aD : LD) : Option (Int × LC) := Yao.g k aB aA aE aD (fun z0 z1 => some (z0, z1))
noncomputable def Yao.f {β : Type} (k : Nat) (aB : LD) (aA aE : Int) (aD : LD) (K : Int → LC → Option β) : Option β :=
 match Yao.t k aB aA aE aD with
 | some (z0, z1) => K z0 z1
 | none => none
noncomputable def Yao.as (aB : LD) (aA aE : Int) (aD : LD) : List A := [.agg [.sl aB, .int .i64 aA, .int .i64 aE, .sl aD]]
noncomputable def Yao.kt {β : Type} (aB : LD) (aA aE : Int) (aD : LD) (K0 : LC → List Out → Option β) : Int → LC → Option β := fun z0 z1 => K0 [[.d (.int .i64 z0), .own z1]] []
noncomputable def Yao.e (k : Nat) : ZQ := { modes := [(.imm, 0)], rts := [84], al := false, run := fun {β} l K => match l with | [.agg [.sl aB, .int .i64 aA, .int .i64 aE, .sl aD]] => Yao.f k aB aA aE aD (Yao.kt aB aA aE aD K) | _ => none }
noncomputable def Yao.E (k : Nat) : Env := fun g => bif g == 130 then some (YD.e k) else bif g == 131 then some (Yy.e k) else none
noncomputable def Yao.h : ZY := ⟨fun n => ⟨[], []⟩, fun _ => none, false, []⟩
theorem Yao.f_eq {β : Type} (k : Nat) (aB : LD) (aA aE : Int) (aD : LD) (K0 : LC → List Out → Option β) : ZJ Try.prog (Yao.E k) Yao.h k Try.f50 (Yao.as aB aA aE aD) K0 = Yao.g k aB aA aE aD (Yao.kt aB aA aE aD K0) := by kernel_rfl
noncomputable def Yao.dec (rs : LC) (os : List Out) : Option (Int × LC) := Zd rs fun c1 r2 => Zd c1 fun x3 l4 => cD x3 fun d5 => ZM .i64 d5 fun w0 => Zd l4 fun x6 l7 => ZaU x6 fun w1 => Ze l7 <| Ze r2 <| Ze os (some (w0, w1))
theorem Yao.kt_dec (aB : LD) (aA aE : Int) (aD : LD) : Yao.kt aB aA aE aD Yao.dec = (fun z0 z1 => some (z0, z1)) := by kernel_rfl
theorem Yao.inj (aB : LD) (aA aE : Int) (aD : LD) {rs : LC} {os : List Out} {z0 : Int} {z1 : LC} (h : Yao.dec rs os = some (z0, z1)) (ho : Zo (Yao.as aB aA aE aD) os) : rs = [[.d (.int .i64 z0), .own z1]] ∧ os = [] := by
 unfold Yao.dec at h
 obtain ⟨c1, r2, rfl, h1⟩ := Zb h
 obtain ⟨x3, l4, rfl, h2⟩ := Zb h1
 obtain ⟨d5, rfl, h3⟩ := Zt h2
 obtain ⟨w0, rfl, h4⟩ := ZA h3
 obtain ⟨x6, l7, rfl, h5⟩ := Zb h4
 obtain ⟨w1, rfl, h6⟩ := ZN h5
 obtain ⟨rfl, h7⟩ := Zc h6
 obtain ⟨rfl, h8⟩ := Zc h7
 obtain ⟨rfl, h9⟩ := Zc h8
 simp only [Option.some.injEq, Prod.mk.injEq] at h9
 obtain ⟨rfl, rfl⟩ := h9
 exact ⟨rfl, rfl⟩
theorem Yao.ok (k : Nat) : Zv Try.prog 50 (Yao.e k) := by
 refine Zu mix tyok (fn := Try.f50) (c := Zl Try.f50) Try.func50 (by kernel_rfl) (h := Yao.h) (k := k) (E := Yao.E k) (Zk (YD.ok k) (Zk (Yy.ok k) Zz)) (by kernel_rfl) (by kernel_rfl) rfl (Zq Try.func50 (by kernel_rfl)) ?_
 intro β l K r hr
 simp only [Yao.e] at hr
 split at hr
 case h_2 => cases hr
 unfold Yao.f at hr
 split at hr
 case h_2 => cases hr
 rename_i hz
 exact ⟨_, _, hr, _, Yao.dec, _, (Yao.f_eq k _ _ _ _ Yao.dec).trans (by rw [Yao.kt_dec]; exact hz), fun rs os h ho => Yao.inj _ _ _ _ h ho⟩
noncomputable def Y2.g {β : Type} (k : Nat) (a0 a1 a2 : Int) (K : Bool → Option β) : Option β :=
 bif (decide ((a0 : Int) ≥ a1)) then (K (decide ((a0 : Int) ≤ a2))) else (K false)
noncomputable def Y2.t (k : Nat) (a0 a1 a2 : Int) : Option (Bool) := Y2.g k a0 a1 a2 (fun z0 => some z0)
noncomputable def Y2.f {β : Type} (k : Nat) (a0 a1 a2 : Int) (K : Bool → Option β) : Option β :=
 match Y2.t k a0 a1 a2 with
 | some z0 => K z0
 | none => none
noncomputable def Y2.as (a0 a1 a2 : Int) : List A := [.d (.int .i64 a0), .d (.int .i64 a1), .d (.int .i64 a2)]
noncomputable def Y2.kt {β : Type} (a0 a1 a2 : Int) (K0 : LC → List Out → Option β) : Bool → Option β := fun z0 => K0 [[.d (.bool z0)]] []
noncomputable def Y2.e (k : Nat) : ZQ := { modes := [(.imm, 0), (.imm, 0), (.imm, 0)], rts := [4], al := false, run := fun {β} l K => match l with | [.d (.int .i64 a0), .d (.int .i64 a1), .d (.int .i64 a2)] => Y2.f k a0 a1 a2 (Y2.kt a0 a1 a2 K) | _ => none }
noncomputable def Y2.E (k : Nat) : Env := fun g => none
noncomputable def Y2.h : ZY := ⟨fun n => ⟨[], []⟩, fun _ => none, false, []⟩
theorem Y2.f_eq {β : Type} (k : Nat) (a0 a1 a2 : Int) (K0 : LC → List Out → Option β) : ZJ Try.prog (Y2.E k) Y2.h k Try.f126 (Y2.as a0 a1 a2) K0 = Y2.g k a0 a1 a2 (Y2.kt a0 a1 a2 K0) := by kernel_rfl
noncomputable def Y2.dec (rs : LC) (os : List Out) : Option (Bool) := Zd rs fun c1 r2 => Zd c1 fun x3 l4 => cD x3 fun d5 => ZaF d5 fun w0 => Ze l4 <| Ze r2 <| Ze os (some w0)
theorem Y2.kt_dec (a0 a1 a2 : Int) : Y2.kt a0 a1 a2 Y2.dec = (fun z0 => some z0) := by kernel_rfl
theorem Y2.inj (a0 a1 a2 : Int) {rs : LC} {os : List Out} {z0 : Bool} (h : Y2.dec rs os = some z0) (ho : Zo (Y2.as a0 a1 a2) os) : rs = [[.d (.bool z0)]] ∧ os = [] := by
 unfold Y2.dec at h
 obtain ⟨c1, r2, rfl, h1⟩ := Zb h
 obtain ⟨x3, l4, rfl, h2⟩ := Zb h1
 obtain ⟨d5, rfl, h3⟩ := Zt h2
 obtain ⟨w0, rfl, h4⟩ := Z0 h3
 obtain ⟨rfl, h5⟩ := Zc h4
 obtain ⟨rfl, h6⟩ := Zc h5
 obtain ⟨rfl, h7⟩ := Zc h6
 obtain rfl := Option.some.inj h7
 exact ⟨rfl, rfl⟩
theorem Y2.ok (k : Nat) : Zv Try.prog 126 (Y2.e k) := by
 refine Zu mix tyok (fn := Try.f126) (c := Zl Try.f126) Try.func126 (by kernel_rfl) (h := Y2.h) (k := k) (E := Y2.E k) Zz (by kernel_rfl) (by kernel_rfl) rfl (Zq Try.func126 (by kernel_rfl)) ?_
 intro β l K r hr
 simp only [Y2.e] at hr
 split at hr
 case h_2 => cases hr
 unfold Y2.f at hr
 split at hr
 case h_2 => cases hr
 rename_i hz
 exact ⟨_, _, hr, _, Y2.dec, _, (Y2.f_eq k _ _ _ Y2.dec).trans (by rw [Y2.kt_dec]; exact hz), fun rs os h ho => Y2.inj _ _ _ h ho⟩
noncomputable def Yal.g {β : Type} (k : Nat) (a0 : Int) (K : Bool → Option β) : Option β :=
 Y2.f k a0 1 3 (fun y1 => K y1)
noncomputable def Yal.t (k : Nat) (a0 : Int) : Option (Bool) := Yal.g k a0 (fun z0 => some z0)
noncomputable def Yal.f {β : Type} (k : Nat) (a0 : Int) (K : Bool → Option β) : Option β :=
 match Yal.t k a0 with
 | some z0 => K z0
 | none => none
noncomputable def Yal.as (a0 : Int) : List A := [.d (.int .i64 a0)]
noncomputable def Yal.kt {β : Type} (a0 : Int) (K0 : LC → List Out → Option β) : Bool → Option β := fun z0 => K0 [[.d (.bool z0)]] []
noncomputable def Yal.e (k : Nat) : ZQ := { modes := [(.imm, 0)], rts := [4], al := false, run := fun {β} l K => match l with | [.d (.int .i64 a0)] => Yal.f k a0 (Yal.kt a0 K) | _ => none }
noncomputable def Yal.E (k : Nat) : Env := fun g => bif g == 126 then some (Y2.e k) else none
noncomputable def Yal.h : ZY := ⟨fun n => ⟨[], []⟩, fun _ => none, false, []⟩
theorem Yal.f_eq {β : Type} (k : Nat) (a0 : Int) (K0 : LC → List Out → Option β) : ZJ Try.prog (Yal.E k) Yal.h k Try.f228 (Yal.as a0) K0 = Yal.g k a0 (Yal.kt a0 K0) := by kernel_rfl
noncomputable def Yal.dec (rs : LC) (os : List Out) : Option (Bool) := Zd rs fun c1 r2 => Zd c1 fun x3 l4 => cD x3 fun d5 => ZaF d5 fun w0 => Ze l4 <| Ze r2 <| Ze os (some w0)
theorem Yal.kt_dec (a0 : Int) : Yal.kt a0 Yal.dec = (fun z0 => some z0) := by kernel_rfl
theorem Yal.inj (a0 : Int) {rs : LC} {os : List Out} {z0 : Bool} (h : Yal.dec rs os = some z0) (ho : Zo (Yal.as a0) os) : rs = [[.d (.bool z0)]] ∧ os = [] := by
 unfold Yal.dec at h
 obtain ⟨c1, r2, rfl, h1⟩ := Zb h
 obtain ⟨x3, l4, rfl, h2⟩ := Zb h1
 obtain ⟨d5, rfl, h3⟩ := Zt h2
 obtain ⟨w0, rfl, h4⟩ := Z0 h3
 obtain ⟨rfl, h5⟩ := Zc h4
 obtain ⟨rfl, h6⟩ := Zc h5
 obtain ⟨rfl, h7⟩ := Zc h6
 obtain rfl := Option.some.inj h7
 exact ⟨rfl, rfl⟩
theorem Yal.ok (k : Nat) : Zv Try.prog 228 (Yal.e k) := by
 refine Zu mix tyok (fn := Try.f228) (c := Zl Try.f228) Try.func228 (by kernel_rfl) (h := Yal.h) (k := k) (E := Yal.E k) (Zk (Y2.ok k) Zz) (by kernel_rfl) (by kernel_rfl) rfl (Zq Try.func228 (by kernel_rfl)) ?_
 intro β l K r hr
 simp only [Yal.e] at hr
 split at hr
 case h_2 => cases hr
 unfold Yal.f at hr
 split at hr
 case h_2 => cases hr
 rename_i hz
 exact ⟨_, _, hr, _, Yal.dec, _, (Yal.f_eq k _ Yal.dec).trans (by rw [Yal.kt_dec]; exact hz), fun rs os h ho => Yal.inj _ h ho⟩
noncomputable def YV.l0 {β : Type} (k : Nat) (aF : BA) (aC : Int) (K : Bool → Option β) (L0 : Int → Option β) (v : Int) : Option β :=
 match v with
 | aH => bif (decide ((aH : Int) < aC)) then (atStr aF aH fun b5 => bif (decide ((b5 : Int) < 97)) then (bif (decide ((b5 : Int) < 48)) then (bif ((b5 : Int) != 45) then (K false) else (L0 (IntKind.wrap .i64 (aH + 1)))) else (bif (decide ((b5 : Int) > 57)) then (bif ((b5 : Int) != 45) then (K false) else (L0 (IntKind.wrap .i64 (aH + 1)))) else (L0 (IntKind.wrap .i64 (aH + 1))))) else (bif (decide ((b5 : Int) > 122)) then (bif (decide ((b5 : Int) < 48)) then (bif ((b5 : Int) != 45) then (K false) else (L0 (IntKind.wrap .i64 (aH + 1)))) else (bif (decide ((b5 : Int) > 57)) then (bif ((b5 : Int) != 45) then (K false) else (L0 (IntKind.wrap .i64 (aH + 1)))) else (L0 (IntKind.wrap .i64 (aH + 1))))) else (L0 (IntKind.wrap .i64 (aH + 1))))) else (Y2.f k (aF.size : Int) 1 20 (fun y6 => bif y6 then (atStr aF 0 fun b7 => bif ((b7 : Int) != 45) then (atStr aF (IntKind.wrap .i64 ((aF.size : Int) - 1)) fun b8 => K ((b8 : Int) != 45)) else (K false)) else (K false)))
noncomputable def YV.g {β : Type} (k : Nat) (a0 : BA) (K : Bool → Option β) : Option β :=
 Z4 (YV.l0 k a0 (a0.size : Int) K) k (0)
noncomputable def YV.t (k : Nat) (a0 : BA) : Option (Bool) := YV.g k a0 (fun z0 => some z0)
noncomputable def YV.f {β : Type} (k : Nat) (a0 : BA) (K : Bool → Option β) : Option β :=
 match YV.t k a0 with
 | some z0 => K z0
 | none => none
noncomputable def YV.as (a0 : BA) : List A := [.d (.str a0)]
noncomputable def YV.kt {β : Type} (a0 : BA) (K0 : LC → List Out → Option β) : Bool → Option β := fun z0 => K0 [[.d (.bool z0)]] []
noncomputable def YV.e (k : Nat) : ZQ := { modes := [(.imm, 0)], rts := [4], al := false, run := fun {β} l K => match l with | [.d (.str a0)] => YV.f k a0 (YV.kt a0 K) | _ => none }
noncomputable def YV.E (k : Nat) : Env := fun g => bif g == 126 then some (Y2.e k) else none
noncomputable def YV.h : ZY := ⟨fun n => bif n == 2 then ⟨[(0, .asis), (6, .asis), (7, .asis)], []⟩ else ⟨[], []⟩, fun _ => none, false, []⟩
noncomputable def YV.s0 (aF : BA) (aC v : Int) : St :=
 match v with
 | aH => ⟨[.d false (.str aF), .any, .any, .any, .any, .any, .d true (.int .i64 aC), .d true (.int .i64 aH), .any, .any, .any, .any, .any, .any, .any, .any, .any, .any, .any, .any, .any, .any, .any, .any, .any, .any, .any, .any, .any, .any, .any, .any, .any, .any, .any, .any, .any, .any, .any, .any, .any, .any, .any, .any, .any, .any, .any, .any], []⟩
noncomputable def YV.b0 {β : Type} (k : Nat) : St → (Ex → St → Option β) → Option β := fun s K => den Try.prog (YV.E k) YV.h.H YV.h.J k (Zad [1, 0, 1, 0, 0] (Zl Try.f97)) s K
noncomputable def YV.c0 {β : Type} (k : Nat) (a0 : BA) (K0 : LC → List Out → Option β) : Ex → St → Option β := Zae Try.prog (YV.E k) YV.h k [1, 0, 1, 0] (Zl Try.f97) (Zak Try.prog Try.f97 YV.h (YV.as a0) K0)
theorem YV.l0_eq {β : Type} (k : Nat) (a0 : BA) (K0 : LC → List Out → Option β) (aF : BA) (aC : Int) : ∀ (kk : Nat) (v : Int), Zx (YV.b0 k) (YV.h.H 2) kk (YV.s0 aF aC v) (YV.c0 k a0 K0) = Z4 (YV.l0 k aF aC (YV.kt a0 K0)) kk v :=
 Z9 (YV.s0 aF aC) _ (fun L0 v => by kernel_rfl)
noncomputable def YV.m {β : Type} (k : Nat) (a0 : BA) (K0 : LC → List Out → Option β) (F : (BA → Int → Int → Option β)) : Option β :=
 (F) a0 (a0.size : Int) (0)
theorem YV.f_eq {β : Type} (k : Nat) (a0 : BA) (K0 : LC → List Out → Option β) : ZJ Try.prog (YV.E k) YV.h k Try.f97 (YV.as a0) K0 = YV.g k a0 (YV.kt a0 K0) := Eq.trans (b := (YV.m k a0 K0) (fun (aF : BA) (aC : Int) (v : Int) => Zx (YV.b0 k) (YV.h.H 2) k (YV.s0 aF aC v) (YV.c0 k a0 K0))) (by kernel_rfl) (Eq.trans (congrArg (YV.m k a0 K0) (funext fun aF => funext fun aC => funext fun v => YV.l0_eq k a0 K0 aF aC k v)) (by kernel_rfl))
noncomputable def YV.dec (rs : LC) (os : List Out) : Option (Bool) := Zd rs fun c1 r2 => Zd c1 fun x3 l4 => cD x3 fun d5 => ZaF d5 fun w0 => Ze l4 <| Ze r2 <| Ze os (some w0)
theorem YV.kt_dec (a0 : BA) : YV.kt a0 YV.dec = (fun z0 => some z0) := by kernel_rfl
theorem YV.inj (a0 : BA) {rs : LC} {os : List Out} {z0 : Bool} (h : YV.dec rs os = some z0) (ho : Zo (YV.as a0) os) : rs = [[.d (.bool z0)]] ∧ os = [] := by
 unfold YV.dec at h
 obtain ⟨c1, r2, rfl, h1⟩ := Zb h
 obtain ⟨x3, l4, rfl, h2⟩ := Zb h1
 obtain ⟨d5, rfl, h3⟩ := Zt h2
 obtain ⟨w0, rfl, h4⟩ := Z0 h3
 obtain ⟨rfl, h5⟩ := Zc h4
 obtain ⟨rfl, h6⟩ := Zc h5
 obtain ⟨rfl, h7⟩ := Zc h6
 obtain rfl := Option.some.inj h7
 exact ⟨rfl, rfl⟩
theorem YV.ok (k : Nat) : Zv Try.prog 97 (YV.e k) := by
 refine Zu mix tyok (fn := Try.f97) (c := Zl Try.f97) Try.func97 (by kernel_rfl) (h := YV.h) (k := k) (E := YV.E k) (Zk (Y2.ok k) Zz) (by kernel_rfl) (by kernel_rfl) rfl (Zq Try.func97 (by kernel_rfl)) ?_
 intro β l K r hr
 simp only [YV.e] at hr
 split at hr
 case h_2 => cases hr
 unfold YV.f at hr
 split at hr
 case h_2 => cases hr
 rename_i hz
 exact ⟨_, _, hr, _, YV.dec, _, (YV.f_eq k _ YV.dec).trans (by rw [YV.kt_dec]; exact hz), fun rs os h ho => YV.inj _ h ho⟩
noncomputable def YL.l0 {β : Type} (k : Nat) (aF : LD) (aC : Int) (aH : LD) (aW : Int) (K : Bool → Option β) (L0 : Int → Option β) (v : Int) : Option β :=
 match v with
 | bA => bif (decide ((bA : Int) < aW)) then (ZX aH bA fun c10 => Zd c10 fun d r => Zan d fun x13 => Ze r (YV.f k x13 (fun y14 => bif (!y14) then (K false) else (bif (decide ((bA : Int) > 0)) then (ZX aF (IntKind.wrap .i64 (bA - 1)) fun c15 => Zd c15 fun d r => Zan d fun x18 => Ze r (bif (!(strLt x18 x13)) then (K false) else (L0 (IntKind.wrap .i64 (bA + 1))))) else (L0 (IntKind.wrap .i64 (bA + 1))))))) else (K (decide (((aF.length : Int) : Int) ≤ aC)))
noncomputable def YL.g {β : Type} (k : Nat) (a0 : LD) (a1 : Int) (K : Bool → Option β) : Option β :=
 Z4 (YL.l0 k a0 a1 a0 (a0.length : Int) K) k (0)
noncomputable def YL.t (k : Nat) (a0 : LD) (a1 : Int) : Option (Bool) := YL.g k a0 a1 (fun z0 => some z0)
noncomputable def YL.f {β : Type} (k : Nat) (a0 : LD) (a1 : Int) (K : Bool → Option β) : Option β :=
 match YL.t k a0 a1 with
 | some z0 => K z0
 | none => none
noncomputable def YL.as (a0 : LD) (a1 : Int) : List A := [.d (.sl a0), .d (.int .i64 a1)]
noncomputable def YL.kt {β : Type} (a0 : LD) (a1 : Int) (K0 : LC → List Out → Option β) : Bool → Option β := fun z0 => K0 [[.d (.bool z0)]] []
noncomputable def YL.e (k : Nat) : ZQ := { modes := [(.imm, 0), (.imm, 0)], rts := [4], al := false, run := fun {β} l K => match l with | [.d (.sl a0), .d (.int .i64 a1)] => YL.f k a0 a1 (YL.kt a0 a1 K) | _ => none }
noncomputable def YL.E (k : Nat) : Env := fun g => bif g == 97 then some (YV.e k) else none
noncomputable def YL.h : ZY := ⟨fun n => bif n == 2 then ⟨[(0, .asis), (1, .asis), (7, .asis), (8, .asis), (9, .asis)], []⟩ else ⟨[], []⟩, fun _ => none, false, []⟩
noncomputable def YL.s0 (aF : LD) (aC : Int) (aH : LD) (aW v : Int) : St :=
 match v with
 | bA => ⟨[.d false (.sl aF), .d false (.int .i64 aC), .any, .any, .any, .any, .any, .d false (.sl aH), .d true (.int .i64 aW), .d true (.int .i64 bA), .any, .any, .any, .any, .any, .any, .any, .any, .any, .any, .any, .any, .any, .any, .any, .any, .any, .any, .any, .any, .any, .any, .any, .any, .any], []⟩
noncomputable def YL.b0 {β : Type} (k : Nat) : St → (Ex → St → Option β) → Option β := fun s K => den Try.prog (YL.E k) YL.h.H YL.h.J k (Zad [1, 0, 1, 0, 0] (Zl Try.f229)) s K
noncomputable def YL.c0 {β : Type} (k : Nat) (a0 : LD) (a1 : Int) (K0 : LC → List Out → Option β) : Ex → St → Option β := Zae Try.prog (YL.E k) YL.h k [1, 0, 1, 0] (Zl Try.f229) (Zak Try.prog Try.f229 YL.h (YL.as a0 a1) K0)
theorem YL.l0_eq {β : Type} (k : Nat) (a0 : LD) (a1 : Int) (K0 : LC → List Out → Option β) (aF : LD) (aC : Int) (aH : LD) (aW : Int) : ∀ (kk : Nat) (v : Int), Zx (YL.b0 k) (YL.h.H 2) kk (YL.s0 aF aC aH aW v) (YL.c0 k a0 a1 K0) = Z4 (YL.l0 k aF aC aH aW (YL.kt a0 a1 K0)) kk v :=
 Z9 (YL.s0 aF aC aH aW) _ (fun L0 v => by kernel_rfl)
noncomputable def YL.m {β : Type} (k : Nat) (a0 : LD) (a1 : Int) (K0 : LC → List Out → Option β) (F : (LD → Int → LD → Int → Int → Option β)) : Option β :=
 (F) a0 a1 a0 (a0.length : Int) (0)
theorem YL.f_eq {β : Type} (k : Nat) (a0 : LD) (a1 : Int) (K0 : LC → List Out → Option β) : ZJ Try.prog (YL.E k) YL.h k Try.f229 (YL.as a0 a1) K0 = YL.g k a0 a1 (YL.kt a0 a1 K0) := Eq.trans (b := (YL.m k a0 a1 K0) (fun (aF : LD) (aC : Int) (aH : LD) (aW : Int) (v : Int) => Zx (YL.b0 k) (YL.h.H 2) k (YL.s0 aF aC aH aW v) (YL.c0 k a0 a1 K0))) (by kernel_rfl) (Eq.trans (congrArg (YL.m k a0 a1 K0) (funext fun aF => funext fun aC => funext fun aH => funext fun aW => funext fun v => YL.l0_eq k a0 a1 K0 aF aC aH aW k v)) (by kernel_rfl))
noncomputable def YL.dec (rs : LC) (os : List Out) : Option (Bool) := Zd rs fun c1 r2 => Zd c1 fun x3 l4 => cD x3 fun d5 => ZaF d5 fun w0 => Ze l4 <| Ze r2 <| Ze os (some w0)
theorem YL.kt_dec (a0 : LD) (a1 : Int) : YL.kt a0 a1 YL.dec = (fun z0 => some z0) := by kernel_rfl
theorem YL.inj (a0 : LD) (a1 : Int) {rs : LC} {os : List Out} {z0 : Bool} (h : YL.dec rs os = some z0) (ho : Zo (YL.as a0 a1) os) : rs = [[.d (.bool z0)]] ∧ os = [] := by
 unfold YL.dec at h
 obtain ⟨c1, r2, rfl, h1⟩ := Zb h
 obtain ⟨x3, l4, rfl, h2⟩ := Zb h1
 obtain ⟨d5, rfl, h3⟩ := Zt h2
 obtain ⟨w0, rfl, h4⟩ := Z0 h3
 obtain ⟨rfl, h5⟩ := Zc h4
 obtain ⟨rfl, h6⟩ := Zc h5
 obtain ⟨rfl, h7⟩ := Zc h6
 obtain rfl := Option.some.inj h7
 exact ⟨rfl, rfl⟩
theorem YL.ok (k : Nat) : Zv Try.prog 229 (YL.e k) := by
 refine Zu mix tyok (fn := Try.f229) (c := Zl Try.f229) Try.func229 (by kernel_rfl) (h := YL.h) (k := k) (E := YL.E k) (Zk (YV.ok k) Zz) (by kernel_rfl) (by kernel_rfl) rfl (Zq Try.func229 (by kernel_rfl)) ?_
 intro β l K r hr
 simp only [YL.e] at hr
 split at hr
 case h_2 => cases hr
 unfold YL.f at hr
 split at hr
 case h_2 => cases hr
 rename_i hz
 exact ⟨_, _, hr, _, YL.dec, _, (YL.f_eq k _ _ YL.dec).trans (by rw [YL.kt_dec]; exact hz), fun rs os h ho => YL.inj _ _ h ho⟩
end Go.Proofs.Ytljkbknnnpjmgaa
