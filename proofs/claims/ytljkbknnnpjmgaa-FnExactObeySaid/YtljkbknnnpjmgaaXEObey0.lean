/- Printed: the functions that FnExactObey reaches, read by the evaluator, each with its contract. -/
import Derived.Test.YtljkbknnnpjmgaaTLibs
import Derived.Test.YtljkbknnnpjmgaaProg
import Derived.KernelRfl
set_option linter.unusedVariables false
set_option linter.unusedSimpArgs false
namespace Go.Proofs.Ytljkbknnnpjmgaa
open Go Go.T Go.Proofs
theorem mix : Try.prog.follows .mixedOrders = true := by kernel_rfl
theorem tyok : ZaV Try.prog := tyOk_of (by kernel_rfl)
noncomputable def laws_szStringS.l0 {β : Type} (k : Nat) (v0_0 : List (List D)) (K : Int → Option β) (L0 : (Int × Int) → Option β) (v : Int × Int) : Option β :=
  match v with
  | (v0_1, v0_2) => bif (decide ((v0_2 : Int) < (v0_0.length : Int))) then (ZX v0_0 v0_2 fun c5 => Zd c5 fun d6 r7 => Zan d6 fun x8 => Ze r7 (bif (decide (((IntKind.wrap .i64 (v0_1 - (x8.size : Int))) : Int) < 0)) then (K (-1)) else (L0 (IntKind.wrap .i64 (v0_1 - (x8.size : Int)), IntKind.wrap .i64 (v0_2 + 1))))) else (K v0_1)
noncomputable def laws_szStringS.g {β : Type} (k : Nat) (a0 : List (List D)) (a1 : Int) (K : Int → Option β) : Option β :=
  bif (decide (((IntKind.wrap .i64 (a1 - (a0.length : Int))) : Int) < 0)) then (K (-1)) else (Z4 (laws_szStringS.l0 k a0 K) k (IntKind.wrap .i64 (a1 - (a0.length : Int)), 0))
noncomputable def laws_szStringS.t (k : Nat) (a0 : List (List D)) (a1 : Int) : Option (Int) := laws_szStringS.g k a0 a1 (fun z0 => some z0)
noncomputable def laws_szStringS.f {β : Type} (k : Nat) (a0 : List (List D)) (a1 : Int) (K : Int → Option β) : Option β :=
  match laws_szStringS.t k a0 a1 with
  | some z0 => K z0
  | none => none
noncomputable def laws_szStringS.as (a0 : List (List D)) (a1 : Int) : List A := [.d (.sl a0), .d (.int .i64 a1)]
noncomputable def laws_szStringS.kt {β : Type} (a0 : List (List D)) (a1 : Int) (K0 : List (List C) → List Out → Option β) : Int → Option β := fun z0 => K0 [[.d (.int .i64 z0)]] []
noncomputable def laws_szStringS.e (k : Nat) : ZQ := { modes := [(.imm, 0), (.imm, 0)], rts := [3], al := false, run := fun {β} l K => match l with | [.d (.sl a0), .d (.int .i64 a1)] => laws_szStringS.f k a0 a1 (laws_szStringS.kt a0 a1 K) | _ => none }
noncomputable def laws_szStringS.E (k : Nat) : Env := fun g => none
noncomputable def laws_szStringS.h : ZY := ⟨fun n => bif n == 5 then ⟨[(0, .asis), (1, .asis), (5, .asis)], []⟩ else ⟨[], []⟩, fun _ => none, false, []⟩
noncomputable def laws_szStringS.s0 (v0_0 : List (List D)) (v : Int × Int) : St :=
  match v with
  | (v0_1, v0_2) => ⟨[.d false (.sl v0_0), .d true (.int .i64 v0_1), .any, .any, .any, .d true (.int .i64 v0_2), .any, .any, .any, .any, .any, .any, .any, .any, .any, .any, .any, .any, .any, .any, .any, .any, .any, .any, .any, .any, .any, .any], []⟩
noncomputable def laws_szStringS.b0 {β : Type} (k : Nat) : St → (Ex → St → Option β) → Option β := fun s K => den Try.prog (laws_szStringS.E k) laws_szStringS.h.H laws_szStringS.h.J k (Zad [1, 1, 1, 0, 1, 0, 0] (Zl Try.f74)) s K
noncomputable def laws_szStringS.c0 {β : Type} (k : Nat) (a0 : List (List D)) (a1 : Int) (K0 : List (List C) → List Out → Option β) : Ex → St → Option β := Zae Try.prog (laws_szStringS.E k) laws_szStringS.h k [1, 1, 1, 0, 1, 0] (Zl Try.f74) (Zak Try.prog Try.f74 laws_szStringS.h (laws_szStringS.as a0 a1) K0)
theorem laws_szStringS.l0_eq {β : Type} (k : Nat) (a0 : List (List D)) (a1 : Int) (K0 : List (List C) → List Out → Option β) (v0_0 : List (List D)) : ∀ (kk : Nat) (v : Int × Int), Zx (laws_szStringS.b0 k) (laws_szStringS.h.H 5) kk (laws_szStringS.s0 v0_0 v) (laws_szStringS.c0 k a0 a1 K0) = Z4 (laws_szStringS.l0 k v0_0 (laws_szStringS.kt a0 a1 K0)) kk v :=
  Z9 (laws_szStringS.s0 v0_0) _ (fun L0 v => by obtain ⟨v0_1, v0_2⟩ := v; kernel_rfl)
noncomputable def laws_szStringS.m {β : Type} (k : Nat) (a0 : List (List D)) (a1 : Int) (K0 : List (List C) → List Out → Option β) (F : ((List (List D)) → (Int × Int) → Option β)) : Option β :=
  bif (decide (((IntKind.wrap .i64 (a1 - (a0.length : Int))) : Int) < 0)) then ((laws_szStringS.kt a0 a1 K0) (-1)) else ((F) a0 (IntKind.wrap .i64 (a1 - (a0.length : Int)), 0))
theorem laws_szStringS.f_eq {β : Type} (k : Nat) (a0 : List (List D)) (a1 : Int) (K0 : List (List C) → List Out → Option β) : ZJ Try.prog (laws_szStringS.E k) laws_szStringS.h k Try.f74 (laws_szStringS.as a0 a1) K0 = laws_szStringS.g k a0 a1 (laws_szStringS.kt a0 a1 K0) := Eq.trans (b := (laws_szStringS.m k a0 a1 K0) (fun (v0_0 : List (List D)) (v : Int × Int) => Zx (laws_szStringS.b0 k) (laws_szStringS.h.H 5) k (laws_szStringS.s0 v0_0 v) (laws_szStringS.c0 k a0 a1 K0))) (by kernel_rfl) (Eq.trans (congrArg (laws_szStringS.m k a0 a1 K0) (funext fun v0_0 => funext fun v => laws_szStringS.l0_eq k a0 a1 K0 v0_0 k v)) (by kernel_rfl))
noncomputable def laws_szStringS.dec (rs : List (List C)) (os : List Out) : Option (Int) := Zd rs fun c1 r2 => Zd c1 fun x3 l4 => cD x3 fun d5 => ZM .i64 d5 fun w0 => Ze l4 <| Ze r2 <| Ze os (some w0)
theorem laws_szStringS.kt_dec (a0 : List (List D)) (a1 : Int) : laws_szStringS.kt a0 a1 laws_szStringS.dec = (fun z0 => some z0) := by kernel_rfl
theorem laws_szStringS.inj (a0 : List (List D)) (a1 : Int) {rs : List (List C)} {os : List Out} {z0 : Int} (h : laws_szStringS.dec rs os = some z0) (ho : Zo (laws_szStringS.as a0 a1) os) : rs = [[.d (.int .i64 z0)]] ∧ os = [] := by
  unfold laws_szStringS.dec at h
  obtain ⟨c1, r2, rfl, h1⟩ := Zb h
  obtain ⟨x3, l4, rfl, h2⟩ := Zb h1
  obtain ⟨d5, rfl, h3⟩ := Zt h2
  obtain ⟨w0, rfl, h4⟩ := ZA h3
  obtain ⟨rfl, h5⟩ := Zc h4
  obtain ⟨rfl, h6⟩ := Zc h5
  obtain ⟨rfl, h7⟩ := Zc h6
  obtain rfl := Option.some.inj h7
  exact ⟨rfl, rfl⟩
theorem laws_szStringS.ok (k : Nat) : Zv Try.prog 74 (laws_szStringS.e k) := by
  refine Zu mix tyok (fn := Try.f74) (c := Zl Try.f74) Try.func74 (by kernel_rfl) (h := laws_szStringS.h) (k := k) (E := laws_szStringS.E k) Zz (by kernel_rfl) (by kernel_rfl) rfl (Zq Try.func74 (by kernel_rfl)) ?_
  intro β l K r hr
  simp only [laws_szStringS.e] at hr
  split at hr
  case h_2 => cases hr
  unfold laws_szStringS.f at hr
  split at hr
  case h_2 => cases hr
  rename_i hz
  exact ⟨_, _, hr, _, laws_szStringS.dec, _, (laws_szStringS.f_eq k _ _ laws_szStringS.dec).trans (by rw [laws_szStringS.kt_dec]; exact hz), fun rs os h ho => laws_szStringS.inj _ _ h ho⟩
noncomputable def laws_szValueS.l0 {β : Type} (k : Nat) (r_laws_szValueS : (List (List D)) → Int → (Int → Option β) → Option β) (r_laws_szValue : Int → ByteArray → Int → (List (List D)) → (List (List D)) → Int → (Int → Option β) → Option β) (v0_0 : List (List D)) (K : Int → Option β) (L0 : (Int × Int) → Option β) (v : Int × Int) : Option β :=
  match v with
  | (v0_1, v0_2) => bif (decide ((v0_2 : Int) < (v0_0.length : Int))) then (ZX v0_0 v0_2 fun c18 => Zd c18 fun d19 r20 => ZM .i64 d19 fun x21 => Zd r20 fun d22 r23 => Zan d22 fun x24 => Zd r23 fun d25 r26 => ZM .i64 d25 fun x27 => Zd r26 fun d28 r29 => dSl d28 fun x30 => Zd r29 fun d31 r32 => dSl d31 fun x33 => Ze r32 (r_laws_szValue x21 x24 x27 x30 x33 v0_1 (fun y34 => bif (decide ((y34 : Int) < 0)) then (K (-1)) else (L0 (y34, IntKind.wrap .i64 (v0_2 + 1)))))) else (K v0_1)
noncomputable def laws_szValueS.body {β : Type} (k : Nat) (r_laws_szValueS : (List (List D)) → Int → (Int → Option β) → Option β) (r_laws_szValue : Int → ByteArray → Int → (List (List D)) → (List (List D)) → Int → (Int → Option β) → Option β) (a0 : List (List D)) (a1 : Int) (K : Int → Option β) : Option β :=
  bif (decide (((IntKind.wrap .i64 (a1 - (a0.length : Int))) : Int) < 0)) then (K (-1)) else (Z4 (laws_szValueS.l0 k r_laws_szValueS r_laws_szValue a0 K) k (IntKind.wrap .i64 (a1 - (a0.length : Int)), 0))
noncomputable def laws_szValue.body {β : Type} (k : Nat) (r_laws_szValueS : (List (List D)) → Int → (Int → Option β) → Option β) (r_laws_szValue : Int → ByteArray → Int → (List (List D)) → (List (List D)) → Int → (Int → Option β) → Option β) (a0_0 : Int) (a0_1 : ByteArray) (a0_2 : Int) (a0_3 : List (List D)) (a0_4 : List (List D)) (a1 : Int) (K : Int → Option β) : Option β :=
  bif (decide (((IntKind.wrap .i64 (a1 - (a0_1.size : Int))) : Int) < 0)) then (K (-1)) else (laws_szStringS.f k a0_3 (IntKind.wrap .i64 (a1 - (a0_1.size : Int))) (fun y9 => bif (decide ((y9 : Int) < 0)) then (K (-1)) else (r_laws_szValueS a0_4 y9 (fun y35 => bif (decide ((y35 : Int) < 0)) then (K (-1)) else (K y35)))))
noncomputable def laws_szValueS.w {β : Type} (r : (List (List D)) → Int → Option (Int)) (a0 : List (List D)) (a1 : Int) (K : Int → Option β) : Option β :=
  match r a0 a1 with
  | some z0 => K z0
  | none => none
noncomputable def laws_szValue.w {β : Type} (r : Int → ByteArray → Int → (List (List D)) → (List (List D)) → Int → Option (Int)) (a0_0 : Int) (a0_1 : ByteArray) (a0_2 : Int) (a0_3 : List (List D)) (a0_4 : List (List D)) (a1 : Int) (K : Int → Option β) : Option β :=
  match r a0_0 a0_1 a0_2 a0_3 a0_4 a1 with
  | some z0 => K z0
  | none => none
noncomputable def laws_szValueS.all : Nat → ((List (List D)) → Int → Option (Int)) × (Int → ByteArray → Int → (List (List D)) → (List (List D)) → Int → Option (Int))
  | 0 => (fun _ _ => none, fun _ _ _ _ _ _ => none)
  | k + 1 => (fun r => (fun a0 a1 => laws_szValueS.body k (laws_szValueS.w r.1) (laws_szValue.w r.2) a0 a1 (fun z0 => some z0), fun a0_0 a0_1 a0_2 a0_3 a0_4 a1 => laws_szValue.body k (laws_szValueS.w r.1) (laws_szValue.w r.2) a0_0 a0_1 a0_2 a0_3 a0_4 a1 (fun z0 => some z0))) (laws_szValueS.all k)
noncomputable def laws_szValueS.t (k : Nat) (a0 : List (List D)) (a1 : Int) : Option (Int) := (laws_szValueS.all k).1 a0 a1
noncomputable def laws_szValue.t (k : Nat) (a0_0 : Int) (a0_1 : ByteArray) (a0_2 : Int) (a0_3 : List (List D)) (a0_4 : List (List D)) (a1 : Int) : Option (Int) := (laws_szValueS.all k).2 a0_0 a0_1 a0_2 a0_3 a0_4 a1
noncomputable def laws_szValueS.f {β : Type} (k : Nat) (a0 : List (List D)) (a1 : Int) (K : Int → Option β) : Option β := laws_szValueS.w (laws_szValueS.t k) a0 a1 K
noncomputable def laws_szValue.f {β : Type} (k : Nat) (a0_0 : Int) (a0_1 : ByteArray) (a0_2 : Int) (a0_3 : List (List D)) (a0_4 : List (List D)) (a1 : Int) (K : Int → Option β) : Option β := laws_szValue.w (laws_szValue.t k) a0_0 a0_1 a0_2 a0_3 a0_4 a1 K
noncomputable def laws_szValueS.g {β : Type} (k : Nat) (a0 : List (List D)) (a1 : Int) (K : Int → Option β) : Option β := laws_szValueS.body k (laws_szValueS.f k) (laws_szValue.f k) a0 a1 K
theorem laws_szValueS.t_zero (a0 : List (List D)) (a1 : Int) : laws_szValueS.t 0 a0 a1 = none := rfl
theorem laws_szValueS.t_succ (k : Nat) (a0 : List (List D)) (a1 : Int) : laws_szValueS.t (k + 1) a0 a1 = laws_szValueS.g k a0 a1 (fun z0 => some z0) := rfl
noncomputable def laws_szValue.g {β : Type} (k : Nat) (a0_0 : Int) (a0_1 : ByteArray) (a0_2 : Int) (a0_3 : List (List D)) (a0_4 : List (List D)) (a1 : Int) (K : Int → Option β) : Option β := laws_szValue.body k (laws_szValueS.f k) (laws_szValue.f k) a0_0 a0_1 a0_2 a0_3 a0_4 a1 K
theorem laws_szValue.t_zero (a0_0 : Int) (a0_1 : ByteArray) (a0_2 : Int) (a0_3 : List (List D)) (a0_4 : List (List D)) (a1 : Int) : laws_szValue.t 0 a0_0 a0_1 a0_2 a0_3 a0_4 a1 = none := rfl
theorem laws_szValue.t_succ (k : Nat) (a0_0 : Int) (a0_1 : ByteArray) (a0_2 : Int) (a0_3 : List (List D)) (a0_4 : List (List D)) (a1 : Int) : laws_szValue.t (k + 1) a0_0 a0_1 a0_2 a0_3 a0_4 a1 = laws_szValue.g k a0_0 a0_1 a0_2 a0_3 a0_4 a1 (fun z0 => some z0) := rfl
noncomputable def laws_szValueS.as (a0 : List (List D)) (a1 : Int) : List A := [.d (.sl a0), .d (.int .i64 a1)]
noncomputable def laws_szValueS.kt {β : Type} (a0 : List (List D)) (a1 : Int) (K0 : List (List C) → List Out → Option β) : Int → Option β := fun z0 => K0 [[.d (.int .i64 z0)]] []
noncomputable def laws_szValueS.e (k : Nat) : ZQ := { modes := [(.imm, 0), (.imm, 0)], rts := [3], al := false, run := fun {β} l K => match l with | [.d (.sl a0), .d (.int .i64 a1)] => laws_szValueS.f k a0 a1 (laws_szValueS.kt a0 a1 K) | _ => none }
noncomputable def laws_szValue.as (a0_0 : Int) (a0_1 : ByteArray) (a0_2 : Int) (a0_3 : List (List D)) (a0_4 : List (List D)) (a1 : Int) : List A := [.agg [.int .i64 a0_0, .str a0_1, .int .i64 a0_2, .sl a0_3, .sl a0_4], .d (.int .i64 a1)]
noncomputable def laws_szValue.kt {β : Type} (a0_0 : Int) (a0_1 : ByteArray) (a0_2 : Int) (a0_3 : List (List D)) (a0_4 : List (List D)) (a1 : Int) (K0 : List (List C) → List Out → Option β) : Int → Option β := fun z0 => K0 [[.d (.int .i64 z0)]] []
noncomputable def laws_szValue.e (k : Nat) : ZQ := { modes := [(.imm, 0), (.imm, 0)], rts := [3], al := false, run := fun {β} l K => match l with | [.agg [.int .i64 a0_0, .str a0_1, .int .i64 a0_2, .sl a0_3, .sl a0_4], .d (.int .i64 a1)] => laws_szValue.f k a0_0 a0_1 a0_2 a0_3 a0_4 a1 (laws_szValue.kt a0_0 a0_1 a0_2 a0_3 a0_4 a1 K) | _ => none }
noncomputable def laws_szValueS.E (k : Nat) : Env := fun g => bif g == 178 then some (laws_szValue.e k) else none
noncomputable def laws_szValueS.h : ZY := ⟨fun n => bif n == 5 then ⟨[(0, .asis), (1, .asis), (5, .asis)], []⟩ else ⟨[], []⟩, fun _ => none, false, []⟩
noncomputable def laws_szValueS.s0 (v0_0 : List (List D)) (v : Int × Int) : St :=
  match v with
  | (v0_1, v0_2) => ⟨[.d false (.sl v0_0), .d true (.int .i64 v0_1), .any, .any, .any, .d true (.int .i64 v0_2), .any, .any, .any, .any, .any, .any, .any, .any, .any, .any, .any, .any, .any, .any, .any, .any, .any, .any, .any, .any, .any], []⟩
noncomputable def laws_szValueS.b0 {β : Type} (k : Nat) : St → (Ex → St → Option β) → Option β := fun s K => den Try.prog (laws_szValueS.E k) laws_szValueS.h.H laws_szValueS.h.J k (Zad [1, 1, 1, 0, 1, 0, 0] (Zl Try.f222)) s K
noncomputable def laws_szValueS.c0 {β : Type} (k : Nat) (a0 : List (List D)) (a1 : Int) (K0 : List (List C) → List Out → Option β) : Ex → St → Option β := Zae Try.prog (laws_szValueS.E k) laws_szValueS.h k [1, 1, 1, 0, 1, 0] (Zl Try.f222) (Zak Try.prog Try.f222 laws_szValueS.h (laws_szValueS.as a0 a1) K0)
theorem laws_szValueS.l0_eq {β : Type} (k : Nat) (a0 : List (List D)) (a1 : Int) (K0 : List (List C) → List Out → Option β) (v0_0 : List (List D)) : ∀ (kk : Nat) (v : Int × Int), Zx (laws_szValueS.b0 k) (laws_szValueS.h.H 5) kk (laws_szValueS.s0 v0_0 v) (laws_szValueS.c0 k a0 a1 K0) = Z4 (laws_szValueS.l0 k (laws_szValueS.f k) (laws_szValue.f k) v0_0 (laws_szValueS.kt a0 a1 K0)) kk v :=
  Z9 (laws_szValueS.s0 v0_0) _ (fun L0 v => by obtain ⟨v0_1, v0_2⟩ := v; kernel_rfl)
noncomputable def laws_szValueS.m {β : Type} (k : Nat) (a0 : List (List D)) (a1 : Int) (K0 : List (List C) → List Out → Option β) (F : ((List (List D)) → (Int × Int) → Option β)) : Option β :=
  bif (decide (((IntKind.wrap .i64 (a1 - (a0.length : Int))) : Int) < 0)) then ((laws_szValueS.kt a0 a1 K0) (-1)) else ((F) a0 (IntKind.wrap .i64 (a1 - (a0.length : Int)), 0))
theorem laws_szValueS.f_eq {β : Type} (k : Nat) (a0 : List (List D)) (a1 : Int) (K0 : List (List C) → List Out → Option β) : ZJ Try.prog (laws_szValueS.E k) laws_szValueS.h k Try.f222 (laws_szValueS.as a0 a1) K0 = laws_szValueS.g k a0 a1 (laws_szValueS.kt a0 a1 K0) := Eq.trans (b := (laws_szValueS.m k a0 a1 K0) (fun (v0_0 : List (List D)) (v : Int × Int) => Zx (laws_szValueS.b0 k) (laws_szValueS.h.H 5) k (laws_szValueS.s0 v0_0 v) (laws_szValueS.c0 k a0 a1 K0))) (by kernel_rfl) (Eq.trans (congrArg (laws_szValueS.m k a0 a1 K0) (funext fun v0_0 => funext fun v => laws_szValueS.l0_eq k a0 a1 K0 v0_0 k v)) (by kernel_rfl))
noncomputable def laws_szValue.E (k : Nat) : Env := fun g => bif g == 74 then some (laws_szStringS.e k) else bif g == 222 then some (laws_szValueS.e k) else none
noncomputable def laws_szValue.h : ZY := ⟨fun n => ⟨[], []⟩, fun _ => none, false, []⟩
theorem laws_szValue.f_eq {β : Type} (k : Nat) (a0_0 : Int) (a0_1 : ByteArray) (a0_2 : Int) (a0_3 : List (List D)) (a0_4 : List (List D)) (a1 : Int) (K0 : List (List C) → List Out → Option β) : ZJ Try.prog (laws_szValue.E k) laws_szValue.h k Try.f178 (laws_szValue.as a0_0 a0_1 a0_2 a0_3 a0_4 a1) K0 = laws_szValue.g k a0_0 a0_1 a0_2 a0_3 a0_4 a1 (laws_szValue.kt a0_0 a0_1 a0_2 a0_3 a0_4 a1 K0) := by kernel_rfl
noncomputable def laws_szValueS.dec (rs : List (List C)) (os : List Out) : Option (Int) := Zd rs fun c1 r2 => Zd c1 fun x3 l4 => cD x3 fun d5 => ZM .i64 d5 fun w0 => Ze l4 <| Ze r2 <| Ze os (some w0)
theorem laws_szValueS.kt_dec (a0 : List (List D)) (a1 : Int) : laws_szValueS.kt a0 a1 laws_szValueS.dec = (fun z0 => some z0) := by kernel_rfl
theorem laws_szValueS.inj (a0 : List (List D)) (a1 : Int) {rs : List (List C)} {os : List Out} {z0 : Int} (h : laws_szValueS.dec rs os = some z0) (ho : Zo (laws_szValueS.as a0 a1) os) : rs = [[.d (.int .i64 z0)]] ∧ os = [] := by
  unfold laws_szValueS.dec at h
  obtain ⟨c1, r2, rfl, h1⟩ := Zb h
  obtain ⟨x3, l4, rfl, h2⟩ := Zb h1
  obtain ⟨d5, rfl, h3⟩ := Zt h2
  obtain ⟨w0, rfl, h4⟩ := ZA h3
  obtain ⟨rfl, h5⟩ := Zc h4
  obtain ⟨rfl, h6⟩ := Zc h5
  obtain ⟨rfl, h7⟩ := Zc h6
  obtain rfl := Option.some.inj h7
  exact ⟨rfl, rfl⟩
noncomputable def laws_szValue.dec (rs : List (List C)) (os : List Out) : Option (Int) := Zd rs fun c1 r2 => Zd c1 fun x3 l4 => cD x3 fun d5 => ZM .i64 d5 fun w0 => Ze l4 <| Ze r2 <| Ze os (some w0)
theorem laws_szValue.kt_dec (a0_0 : Int) (a0_1 : ByteArray) (a0_2 : Int) (a0_3 : List (List D)) (a0_4 : List (List D)) (a1 : Int) : laws_szValue.kt a0_0 a0_1 a0_2 a0_3 a0_4 a1 laws_szValue.dec = (fun z0 => some z0) := by kernel_rfl
theorem laws_szValue.inj (a0_0 : Int) (a0_1 : ByteArray) (a0_2 : Int) (a0_3 : List (List D)) (a0_4 : List (List D)) (a1 : Int) {rs : List (List C)} {os : List Out} {z0 : Int} (h : laws_szValue.dec rs os = some z0) (ho : Zo (laws_szValue.as a0_0 a0_1 a0_2 a0_3 a0_4 a1) os) : rs = [[.d (.int .i64 z0)]] ∧ os = [] := by
  unfold laws_szValue.dec at h
  obtain ⟨c1, r2, rfl, h1⟩ := Zb h
  obtain ⟨x3, l4, rfl, h2⟩ := Zb h1
  obtain ⟨d5, rfl, h3⟩ := Zt h2
  obtain ⟨w0, rfl, h4⟩ := ZA h3
  obtain ⟨rfl, h5⟩ := Zc h4
  obtain ⟨rfl, h6⟩ := Zc h5
  obtain ⟨rfl, h7⟩ := Zc h6
  obtain rfl := Option.some.inj h7
  exact ⟨rfl, rfl⟩
theorem laws_szValueS.oks (k : Nat) : Zv Try.prog 222 (laws_szValueS.e k) ∧ Zv Try.prog 178 (laws_szValue.e k) := by
  induction k with
  | zero =>
    refine ⟨?_, ?_⟩
    · exact Zb1 (Zq Try.func222 (by kernel_rfl)) fun β l K r h => by
        simp only [laws_szValueS.e] at h
        split at h
        · unfold laws_szValueS.f at h
          unfold laws_szValueS.w at h
          rw [laws_szValueS.t_zero] at h
          cases h
        · cases h
    · exact Zb1 (Zq Try.func178 (by kernel_rfl)) fun β l K r h => by
        simp only [laws_szValue.e] at h
        split at h
        · unfold laws_szValue.f at h
          unfold laws_szValue.w at h
          rw [laws_szValue.t_zero] at h
          cases h
        · cases h
  | succ k ih =>
    refine ⟨?_, ?_⟩
    · refine Zu mix tyok (fn := Try.f222) (c := Zl Try.f222) Try.func222 (by kernel_rfl) (h := laws_szValueS.h) (k := k) (E := laws_szValueS.E k) (Zk ih.2 Zz) (by kernel_rfl) (by kernel_rfl) rfl (Zq Try.func222 (by kernel_rfl)) ?_
      intro β l K r hr
      simp only [laws_szValueS.e] at hr
      split at hr
      case h_2 => cases hr
      unfold laws_szValueS.f at hr
      unfold laws_szValueS.w at hr
      split at hr
      case h_2 => cases hr
      rename_i hz
      exact ⟨_, _, hr, _, laws_szValueS.dec, _, (laws_szValueS.f_eq k _ _ laws_szValueS.dec).trans (by rw [laws_szValueS.kt_dec]; exact hz), fun rs os h ho => laws_szValueS.inj _ _ h ho⟩
    · refine Zu mix tyok (fn := Try.f178) (c := Zl Try.f178) Try.func178 (by kernel_rfl) (h := laws_szValue.h) (k := k) (E := laws_szValue.E k) (Zk (laws_szStringS.ok k) (Zk ih.1 Zz)) (by kernel_rfl) (by kernel_rfl) rfl (Zq Try.func178 (by kernel_rfl)) ?_
      intro β l K r hr
      simp only [laws_szValue.e] at hr
      split at hr
      case h_2 => cases hr
      unfold laws_szValue.f at hr
      unfold laws_szValue.w at hr
      split at hr
      case h_2 => cases hr
      rename_i hz
      exact ⟨_, _, hr, _, laws_szValue.dec, _, (laws_szValue.f_eq k _ _ _ _ _ _ laws_szValue.dec).trans (by rw [laws_szValue.kt_dec]; exact hz), fun rs os h ho => laws_szValue.inj _ _ _ _ _ _ h ho⟩
theorem laws_szValueS.ok (k : Nat) : Zv Try.prog 222 (laws_szValueS.e k) := (laws_szValueS.oks k).1
theorem laws_szValue.ok (k : Nat) : Zv Try.prog 178 (laws_szValue.e k) := (laws_szValueS.oks k).2
noncomputable def laws_szWork.g {β : Type} (k : Nat) (a0_0 : Int) (a0_1 : Int) (a0_2 : Int) (a0_3 : ByteArray) (a0_4 : Int) (a0_5 : List (List D)) (a0_6 : List (List D)) (a1 : Int) (K : Int → Option β) : Option β :=
  laws_szValue.f k a0_2 a0_3 a0_4 a0_5 a0_6 a1 (fun y36 => bif (decide ((y36 : Int) < 0)) then (K (-1)) else (K y36))
noncomputable def laws_szWork.t (k : Nat) (a0_0 : Int) (a0_1 : Int) (a0_2 : Int) (a0_3 : ByteArray) (a0_4 : Int) (a0_5 : List (List D)) (a0_6 : List (List D)) (a1 : Int) : Option (Int) := laws_szWork.g k a0_0 a0_1 a0_2 a0_3 a0_4 a0_5 a0_6 a1 (fun z0 => some z0)
noncomputable def laws_szWork.f {β : Type} (k : Nat) (a0_0 : Int) (a0_1 : Int) (a0_2 : Int) (a0_3 : ByteArray) (a0_4 : Int) (a0_5 : List (List D)) (a0_6 : List (List D)) (a1 : Int) (K : Int → Option β) : Option β :=
  match laws_szWork.t k a0_0 a0_1 a0_2 a0_3 a0_4 a0_5 a0_6 a1 with
  | some z0 => K z0
  | none => none
noncomputable def laws_szWork.as (a0_0 : Int) (a0_1 : Int) (a0_2 : Int) (a0_3 : ByteArray) (a0_4 : Int) (a0_5 : List (List D)) (a0_6 : List (List D)) (a1 : Int) : List A := [.agg [.int .i64 a0_0, .int .i64 a0_1, .int .i64 a0_2, .str a0_3, .int .i64 a0_4, .sl a0_5, .sl a0_6], .d (.int .i64 a1)]
noncomputable def laws_szWork.kt {β : Type} (a0_0 : Int) (a0_1 : Int) (a0_2 : Int) (a0_3 : ByteArray) (a0_4 : Int) (a0_5 : List (List D)) (a0_6 : List (List D)) (a1 : Int) (K0 : List (List C) → List Out → Option β) : Int → Option β := fun z0 => K0 [[.d (.int .i64 z0)]] []
noncomputable def laws_szWork.e (k : Nat) : ZQ := { modes := [(.imm, 0), (.imm, 0)], rts := [3], al := false, run := fun {β} l K => match l with | [.agg [.int .i64 a0_0, .int .i64 a0_1, .int .i64 a0_2, .str a0_3, .int .i64 a0_4, .sl a0_5, .sl a0_6], .d (.int .i64 a1)] => laws_szWork.f k a0_0 a0_1 a0_2 a0_3 a0_4 a0_5 a0_6 a1 (laws_szWork.kt a0_0 a0_1 a0_2 a0_3 a0_4 a0_5 a0_6 a1 K) | _ => none }
noncomputable def laws_szWork.E (k : Nat) : Env := fun g => bif g == 178 then some (laws_szValue.e k) else none
noncomputable def laws_szWork.h : ZY := ⟨fun n => ⟨[], []⟩, fun _ => none, false, []⟩
theorem laws_szWork.f_eq {β : Type} (k : Nat) (a0_0 : Int) (a0_1 : Int) (a0_2 : Int) (a0_3 : ByteArray) (a0_4 : Int) (a0_5 : List (List D)) (a0_6 : List (List D)) (a1 : Int) (K0 : List (List C) → List Out → Option β) : ZJ Try.prog (laws_szWork.E k) laws_szWork.h k Try.f101 (laws_szWork.as a0_0 a0_1 a0_2 a0_3 a0_4 a0_5 a0_6 a1) K0 = laws_szWork.g k a0_0 a0_1 a0_2 a0_3 a0_4 a0_5 a0_6 a1 (laws_szWork.kt a0_0 a0_1 a0_2 a0_3 a0_4 a0_5 a0_6 a1 K0) := by kernel_rfl
noncomputable def laws_szWork.dec (rs : List (List C)) (os : List Out) : Option (Int) := Zd rs fun c1 r2 => Zd c1 fun x3 l4 => cD x3 fun d5 => ZM .i64 d5 fun w0 => Ze l4 <| Ze r2 <| Ze os (some w0)
theorem laws_szWork.kt_dec (a0_0 : Int) (a0_1 : Int) (a0_2 : Int) (a0_3 : ByteArray) (a0_4 : Int) (a0_5 : List (List D)) (a0_6 : List (List D)) (a1 : Int) : laws_szWork.kt a0_0 a0_1 a0_2 a0_3 a0_4 a0_5 a0_6 a1 laws_szWork.dec = (fun z0 => some z0) := by kernel_rfl
theorem laws_szWork.inj (a0_0 : Int) (a0_1 : Int) (a0_2 : Int) (a0_3 : ByteArray) (a0_4 : Int) (a0_5 : List (List D)) (a0_6 : List (List D)) (a1 : Int) {rs : List (List C)} {os : List Out} {z0 : Int} (h : laws_szWork.dec rs os = some z0) (ho : Zo (laws_szWork.as a0_0 a0_1 a0_2 a0_3 a0_4 a0_5 a0_6 a1) os) : rs = [[.d (.int .i64 z0)]] ∧ os = [] := by
  unfold laws_szWork.dec at h
  obtain ⟨c1, r2, rfl, h1⟩ := Zb h
  obtain ⟨x3, l4, rfl, h2⟩ := Zb h1
  obtain ⟨d5, rfl, h3⟩ := Zt h2
  obtain ⟨w0, rfl, h4⟩ := ZA h3
  obtain ⟨rfl, h5⟩ := Zc h4
  obtain ⟨rfl, h6⟩ := Zc h5
  obtain ⟨rfl, h7⟩ := Zc h6
  obtain rfl := Option.some.inj h7
  exact ⟨rfl, rfl⟩
theorem laws_szWork.ok (k : Nat) : Zv Try.prog 101 (laws_szWork.e k) := by
  refine Zu mix tyok (fn := Try.f101) (c := Zl Try.f101) Try.func101 (by kernel_rfl) (h := laws_szWork.h) (k := k) (E := laws_szWork.E k) (Zk (laws_szValue.ok k) Zz) (by kernel_rfl) (by kernel_rfl) rfl (Zq Try.func101 (by kernel_rfl)) ?_
  intro β l K r hr
  simp only [laws_szWork.e] at hr
  split at hr
  case h_2 => cases hr
  unfold laws_szWork.f at hr
  split at hr
  case h_2 => cases hr
  rename_i hz
  exact ⟨_, _, hr, _, laws_szWork.dec, _, (laws_szWork.f_eq k _ _ _ _ _ _ _ _ laws_szWork.dec).trans (by rw [laws_szWork.kt_dec]; exact hz), fun rs os h ho => laws_szWork.inj _ _ _ _ _ _ _ _ h ho⟩
noncomputable def laws_szWorkS.l0 {β : Type} (k : Nat) (v0_0 : List (List D)) (K : Int → Option β) (L0 : (Int × Int) → Option β) (v : Int × Int) : Option β :=
  match v with
  | (v0_1, v0_2) => bif (decide ((v0_2 : Int) < (v0_0.length : Int))) then (ZX v0_0 v0_2 fun c38 => Zd c38 fun d39 r40 => ZM .i64 d39 fun x41 => Zd r40 fun d42 r43 => ZM .i64 d42 fun x44 => Zd r43 fun d45 r46 => ZM .i64 d45 fun x47 => Zd r46 fun d48 r49 => Zan d48 fun x50 => Zd r49 fun d51 r52 => ZM .i64 d51 fun x53 => Zd r52 fun d54 r55 => dSl d54 fun x56 => Zd r55 fun d57 r58 => dSl d57 fun x59 => Ze r58 (laws_szWork.f k x41 x44 x47 x50 x53 x56 x59 v0_1 (fun y60 => bif (decide ((y60 : Int) < 0)) then (K (-1)) else (L0 (y60, IntKind.wrap .i64 (v0_2 + 1)))))) else (K v0_1)
noncomputable def laws_szWorkS.g {β : Type} (k : Nat) (a0 : List (List D)) (a1 : Int) (K : Int → Option β) : Option β :=
  bif (decide (((IntKind.wrap .i64 (a1 - (a0.length : Int))) : Int) < 0)) then (K (-1)) else (Z4 (laws_szWorkS.l0 k a0 K) k (IntKind.wrap .i64 (a1 - (a0.length : Int)), 0))
noncomputable def laws_szWorkS.t (k : Nat) (a0 : List (List D)) (a1 : Int) : Option (Int) := laws_szWorkS.g k a0 a1 (fun z0 => some z0)
noncomputable def laws_szWorkS.f {β : Type} (k : Nat) (a0 : List (List D)) (a1 : Int) (K : Int → Option β) : Option β :=
  match laws_szWorkS.t k a0 a1 with
  | some z0 => K z0
  | none => none
noncomputable def laws_szWorkS.as (a0 : List (List D)) (a1 : Int) : List A := [.d (.sl a0), .d (.int .i64 a1)]
noncomputable def laws_szWorkS.kt {β : Type} (a0 : List (List D)) (a1 : Int) (K0 : List (List C) → List Out → Option β) : Int → Option β := fun z0 => K0 [[.d (.int .i64 z0)]] []
noncomputable def laws_szWorkS.e (k : Nat) : ZQ := { modes := [(.imm, 0), (.imm, 0)], rts := [3], al := false, run := fun {β} l K => match l with | [.d (.sl a0), .d (.int .i64 a1)] => laws_szWorkS.f k a0 a1 (laws_szWorkS.kt a0 a1 K) | _ => none }
noncomputable def laws_szWorkS.E (k : Nat) : Env := fun g => bif g == 101 then some (laws_szWork.e k) else none
noncomputable def laws_szWorkS.h : ZY := ⟨fun n => bif n == 5 then ⟨[(0, .asis), (1, .asis), (5, .asis)], []⟩ else ⟨[], []⟩, fun _ => none, false, []⟩
noncomputable def laws_szWorkS.s0 (v0_0 : List (List D)) (v : Int × Int) : St :=
  match v with
  | (v0_1, v0_2) => ⟨[.d false (.sl v0_0), .d true (.int .i64 v0_1), .any, .any, .any, .d true (.int .i64 v0_2), .any, .any, .any, .any, .any, .any, .any, .any, .any, .any, .any, .any, .any, .any, .any, .any, .any, .any, .any, .any, .any], []⟩
noncomputable def laws_szWorkS.b0 {β : Type} (k : Nat) : St → (Ex → St → Option β) → Option β := fun s K => den Try.prog (laws_szWorkS.E k) laws_szWorkS.h.H laws_szWorkS.h.J k (Zad [1, 1, 1, 0, 1, 0, 0] (Zl Try.f30)) s K
noncomputable def laws_szWorkS.c0 {β : Type} (k : Nat) (a0 : List (List D)) (a1 : Int) (K0 : List (List C) → List Out → Option β) : Ex → St → Option β := Zae Try.prog (laws_szWorkS.E k) laws_szWorkS.h k [1, 1, 1, 0, 1, 0] (Zl Try.f30) (Zak Try.prog Try.f30 laws_szWorkS.h (laws_szWorkS.as a0 a1) K0)
theorem laws_szWorkS.l0_eq {β : Type} (k : Nat) (a0 : List (List D)) (a1 : Int) (K0 : List (List C) → List Out → Option β) (v0_0 : List (List D)) : ∀ (kk : Nat) (v : Int × Int), Zx (laws_szWorkS.b0 k) (laws_szWorkS.h.H 5) kk (laws_szWorkS.s0 v0_0 v) (laws_szWorkS.c0 k a0 a1 K0) = Z4 (laws_szWorkS.l0 k v0_0 (laws_szWorkS.kt a0 a1 K0)) kk v :=
  Z9 (laws_szWorkS.s0 v0_0) _ (fun L0 v => by obtain ⟨v0_1, v0_2⟩ := v; kernel_rfl)
noncomputable def laws_szWorkS.m {β : Type} (k : Nat) (a0 : List (List D)) (a1 : Int) (K0 : List (List C) → List Out → Option β) (F : ((List (List D)) → (Int × Int) → Option β)) : Option β :=
  bif (decide (((IntKind.wrap .i64 (a1 - (a0.length : Int))) : Int) < 0)) then ((laws_szWorkS.kt a0 a1 K0) (-1)) else ((F) a0 (IntKind.wrap .i64 (a1 - (a0.length : Int)), 0))
theorem laws_szWorkS.f_eq {β : Type} (k : Nat) (a0 : List (List D)) (a1 : Int) (K0 : List (List C) → List Out → Option β) : ZJ Try.prog (laws_szWorkS.E k) laws_szWorkS.h k Try.f30 (laws_szWorkS.as a0 a1) K0 = laws_szWorkS.g k a0 a1 (laws_szWorkS.kt a0 a1 K0) := Eq.trans (b := (laws_szWorkS.m k a0 a1 K0) (fun (v0_0 : List (List D)) (v : Int × Int) => Zx (laws_szWorkS.b0 k) (laws_szWorkS.h.H 5) k (laws_szWorkS.s0 v0_0 v) (laws_szWorkS.c0 k a0 a1 K0))) (by kernel_rfl) (Eq.trans (congrArg (laws_szWorkS.m k a0 a1 K0) (funext fun v0_0 => funext fun v => laws_szWorkS.l0_eq k a0 a1 K0 v0_0 k v)) (by kernel_rfl))
noncomputable def laws_szWorkS.dec (rs : List (List C)) (os : List Out) : Option (Int) := Zd rs fun c1 r2 => Zd c1 fun x3 l4 => cD x3 fun d5 => ZM .i64 d5 fun w0 => Ze l4 <| Ze r2 <| Ze os (some w0)
theorem laws_szWorkS.kt_dec (a0 : List (List D)) (a1 : Int) : laws_szWorkS.kt a0 a1 laws_szWorkS.dec = (fun z0 => some z0) := by kernel_rfl
theorem laws_szWorkS.inj (a0 : List (List D)) (a1 : Int) {rs : List (List C)} {os : List Out} {z0 : Int} (h : laws_szWorkS.dec rs os = some z0) (ho : Zo (laws_szWorkS.as a0 a1) os) : rs = [[.d (.int .i64 z0)]] ∧ os = [] := by
  unfold laws_szWorkS.dec at h
  obtain ⟨c1, r2, rfl, h1⟩ := Zb h
  obtain ⟨x3, l4, rfl, h2⟩ := Zb h1
  obtain ⟨d5, rfl, h3⟩ := Zt h2
  obtain ⟨w0, rfl, h4⟩ := ZA h3
  obtain ⟨rfl, h5⟩ := Zc h4
  obtain ⟨rfl, h6⟩ := Zc h5
  obtain ⟨rfl, h7⟩ := Zc h6
  obtain rfl := Option.some.inj h7
  exact ⟨rfl, rfl⟩
theorem laws_szWorkS.ok (k : Nat) : Zv Try.prog 30 (laws_szWorkS.e k) := by
  refine Zu mix tyok (fn := Try.f30) (c := Zl Try.f30) Try.func30 (by kernel_rfl) (h := laws_szWorkS.h) (k := k) (E := laws_szWorkS.E k) (Zk (laws_szWork.ok k) Zz) (by kernel_rfl) (by kernel_rfl) rfl (Zq Try.func30 (by kernel_rfl)) ?_
  intro β l K r hr
  simp only [laws_szWorkS.e] at hr
  split at hr
  case h_2 => cases hr
  unfold laws_szWorkS.f at hr
  split at hr
  case h_2 => cases hr
  rename_i hz
  exact ⟨_, _, hr, _, laws_szWorkS.dec, _, (laws_szWorkS.f_eq k _ _ laws_szWorkS.dec).trans (by rw [laws_szWorkS.kt_dec]; exact hz), fun rs os h ho => laws_szWorkS.inj _ _ h ho⟩
noncomputable def laws_szRunS.g {β : Type} (k : Nat) (a0 : List (List D)) (a1 : Int) (K : Int → Option β) : Option β :=
  bif (decide (((IntKind.wrap .i64 (a1 - (a0.length : Int))) : Int) < 0)) then (K (-1)) else (K (IntKind.wrap .i64 (a1 - (a0.length : Int))))
noncomputable def laws_szRunS.t (k : Nat) (a0 : List (List D)) (a1 : Int) : Option (Int) := laws_szRunS.g k a0 a1 (fun z0 => some z0)
noncomputable def laws_szRunS.f {β : Type} (k : Nat) (a0 : List (List D)) (a1 : Int) (K : Int → Option β) : Option β :=
  match laws_szRunS.t k a0 a1 with
  | some z0 => K z0
  | none => none
noncomputable def laws_szRunS.as (a0 : List (List D)) (a1 : Int) : List A := [.d (.sl a0), .d (.int .i64 a1)]
noncomputable def laws_szRunS.kt {β : Type} (a0 : List (List D)) (a1 : Int) (K0 : List (List C) → List Out → Option β) : Int → Option β := fun z0 => K0 [[.d (.int .i64 z0)]] []
noncomputable def laws_szRunS.e (k : Nat) : ZQ := { modes := [(.imm, 0), (.imm, 0)], rts := [3], al := false, run := fun {β} l K => match l with | [.d (.sl a0), .d (.int .i64 a1)] => laws_szRunS.f k a0 a1 (laws_szRunS.kt a0 a1 K) | _ => none }
noncomputable def laws_szRunS.E (k : Nat) : Env := fun g => none
noncomputable def laws_szRunS.h : ZY := ⟨fun n => ⟨[], []⟩, fun _ => none, false, []⟩
theorem laws_szRunS.f_eq {β : Type} (k : Nat) (a0 : List (List D)) (a1 : Int) (K0 : List (List C) → List Out → Option β) : ZJ Try.prog (laws_szRunS.E k) laws_szRunS.h k Try.f100 (laws_szRunS.as a0 a1) K0 = laws_szRunS.g k a0 a1 (laws_szRunS.kt a0 a1 K0) := by kernel_rfl
noncomputable def laws_szRunS.dec (rs : List (List C)) (os : List Out) : Option (Int) := Zd rs fun c1 r2 => Zd c1 fun x3 l4 => cD x3 fun d5 => ZM .i64 d5 fun w0 => Ze l4 <| Ze r2 <| Ze os (some w0)
theorem laws_szRunS.kt_dec (a0 : List (List D)) (a1 : Int) : laws_szRunS.kt a0 a1 laws_szRunS.dec = (fun z0 => some z0) := by kernel_rfl
theorem laws_szRunS.inj (a0 : List (List D)) (a1 : Int) {rs : List (List C)} {os : List Out} {z0 : Int} (h : laws_szRunS.dec rs os = some z0) (ho : Zo (laws_szRunS.as a0 a1) os) : rs = [[.d (.int .i64 z0)]] ∧ os = [] := by
  unfold laws_szRunS.dec at h
  obtain ⟨c1, r2, rfl, h1⟩ := Zb h
  obtain ⟨x3, l4, rfl, h2⟩ := Zb h1
  obtain ⟨d5, rfl, h3⟩ := Zt h2
  obtain ⟨w0, rfl, h4⟩ := ZA h3
  obtain ⟨rfl, h5⟩ := Zc h4
  obtain ⟨rfl, h6⟩ := Zc h5
  obtain ⟨rfl, h7⟩ := Zc h6
  obtain rfl := Option.some.inj h7
  exact ⟨rfl, rfl⟩
theorem laws_szRunS.ok (k : Nat) : Zv Try.prog 100 (laws_szRunS.e k) := by
  refine Zu mix tyok (fn := Try.f100) (c := Zl Try.f100) Try.func100 (by kernel_rfl) (h := laws_szRunS.h) (k := k) (E := laws_szRunS.E k) Zz (by kernel_rfl) (by kernel_rfl) rfl (Zq Try.func100 (by kernel_rfl)) ?_
  intro β l K r hr
  simp only [laws_szRunS.e] at hr
  split at hr
  case h_2 => cases hr
  unfold laws_szRunS.f at hr
  split at hr
  case h_2 => cases hr
  rename_i hz
  exact ⟨_, _, hr, _, laws_szRunS.dec, _, (laws_szRunS.f_eq k _ _ laws_szRunS.dec).trans (by rw [laws_szRunS.kt_dec]; exact hz), fun rs os h ho => laws_szRunS.inj _ _ h ho⟩
noncomputable def laws_szIsle.g {β : Type} (k : Nat) (a0_0 : ByteArray) (a0_1 : Int) (a0_2 : Int) (a0_3 : List (List D)) (a0_4 : List (List D)) (a1 : Int) (K : Int → Option β) : Option β :=
  bif (decide (((IntKind.wrap .i64 (a1 - (a0_0.size : Int))) : Int) < 0)) then (K (-1)) else (laws_szWorkS.f k a0_3 (IntKind.wrap .i64 (a1 - (a0_0.size : Int))) (fun y61 => bif (decide ((y61 : Int) < 0)) then (K (-1)) else (laws_szRunS.f k a0_4 y61 (fun y62 => bif (decide ((y62 : Int) < 0)) then (K (-1)) else (K y62)))))
noncomputable def laws_szIsle.t (k : Nat) (a0_0 : ByteArray) (a0_1 : Int) (a0_2 : Int) (a0_3 : List (List D)) (a0_4 : List (List D)) (a1 : Int) : Option (Int) := laws_szIsle.g k a0_0 a0_1 a0_2 a0_3 a0_4 a1 (fun z0 => some z0)
noncomputable def laws_szIsle.f {β : Type} (k : Nat) (a0_0 : ByteArray) (a0_1 : Int) (a0_2 : Int) (a0_3 : List (List D)) (a0_4 : List (List D)) (a1 : Int) (K : Int → Option β) : Option β :=
  match laws_szIsle.t k a0_0 a0_1 a0_2 a0_3 a0_4 a1 with
  | some z0 => K z0
  | none => none
noncomputable def laws_szIsle.as (a0_0 : ByteArray) (a0_1 : Int) (a0_2 : Int) (a0_3 : List (List D)) (a0_4 : List (List D)) (a1 : Int) : List A := [.agg [.str a0_0, .int .i64 a0_1, .int .i64 a0_2, .sl a0_3, .sl a0_4], .d (.int .i64 a1)]
noncomputable def laws_szIsle.kt {β : Type} (a0_0 : ByteArray) (a0_1 : Int) (a0_2 : Int) (a0_3 : List (List D)) (a0_4 : List (List D)) (a1 : Int) (K0 : List (List C) → List Out → Option β) : Int → Option β := fun z0 => K0 [[.d (.int .i64 z0)]] []
noncomputable def laws_szIsle.e (k : Nat) : ZQ := { modes := [(.imm, 0), (.imm, 0)], rts := [3], al := false, run := fun {β} l K => match l with | [.agg [.str a0_0, .int .i64 a0_1, .int .i64 a0_2, .sl a0_3, .sl a0_4], .d (.int .i64 a1)] => laws_szIsle.f k a0_0 a0_1 a0_2 a0_3 a0_4 a1 (laws_szIsle.kt a0_0 a0_1 a0_2 a0_3 a0_4 a1 K) | _ => none }
noncomputable def laws_szIsle.E (k : Nat) : Env := fun g => bif g == 30 then some (laws_szWorkS.e k) else bif g == 100 then some (laws_szRunS.e k) else none
noncomputable def laws_szIsle.h : ZY := ⟨fun n => ⟨[], []⟩, fun _ => none, false, []⟩
theorem laws_szIsle.f_eq {β : Type} (k : Nat) (a0_0 : ByteArray) (a0_1 : Int) (a0_2 : Int) (a0_3 : List (List D)) (a0_4 : List (List D)) (a1 : Int) (K0 : List (List C) → List Out → Option β) : ZJ Try.prog (laws_szIsle.E k) laws_szIsle.h k Try.f29 (laws_szIsle.as a0_0 a0_1 a0_2 a0_3 a0_4 a1) K0 = laws_szIsle.g k a0_0 a0_1 a0_2 a0_3 a0_4 a1 (laws_szIsle.kt a0_0 a0_1 a0_2 a0_3 a0_4 a1 K0) := by kernel_rfl
noncomputable def laws_szIsle.dec (rs : List (List C)) (os : List Out) : Option (Int) := Zd rs fun c1 r2 => Zd c1 fun x3 l4 => cD x3 fun d5 => ZM .i64 d5 fun w0 => Ze l4 <| Ze r2 <| Ze os (some w0)
theorem laws_szIsle.kt_dec (a0_0 : ByteArray) (a0_1 : Int) (a0_2 : Int) (a0_3 : List (List D)) (a0_4 : List (List D)) (a1 : Int) : laws_szIsle.kt a0_0 a0_1 a0_2 a0_3 a0_4 a1 laws_szIsle.dec = (fun z0 => some z0) := by kernel_rfl
theorem laws_szIsle.inj (a0_0 : ByteArray) (a0_1 : Int) (a0_2 : Int) (a0_3 : List (List D)) (a0_4 : List (List D)) (a1 : Int) {rs : List (List C)} {os : List Out} {z0 : Int} (h : laws_szIsle.dec rs os = some z0) (ho : Zo (laws_szIsle.as a0_0 a0_1 a0_2 a0_3 a0_4 a1) os) : rs = [[.d (.int .i64 z0)]] ∧ os = [] := by
  unfold laws_szIsle.dec at h
  obtain ⟨c1, r2, rfl, h1⟩ := Zb h
  obtain ⟨x3, l4, rfl, h2⟩ := Zb h1
  obtain ⟨d5, rfl, h3⟩ := Zt h2
  obtain ⟨w0, rfl, h4⟩ := ZA h3
  obtain ⟨rfl, h5⟩ := Zc h4
  obtain ⟨rfl, h6⟩ := Zc h5
  obtain ⟨rfl, h7⟩ := Zc h6
  obtain rfl := Option.some.inj h7
  exact ⟨rfl, rfl⟩
theorem laws_szIsle.ok (k : Nat) : Zv Try.prog 29 (laws_szIsle.e k) := by
  refine Zu mix tyok (fn := Try.f29) (c := Zl Try.f29) Try.func29 (by kernel_rfl) (h := laws_szIsle.h) (k := k) (E := laws_szIsle.E k) (Zk (laws_szWorkS.ok k) (Zk (laws_szRunS.ok k) Zz)) (by kernel_rfl) (by kernel_rfl) rfl (Zq Try.func29 (by kernel_rfl)) ?_
  intro β l K r hr
  simp only [laws_szIsle.e] at hr
  split at hr
  case h_2 => cases hr
  unfold laws_szIsle.f at hr
  split at hr
  case h_2 => cases hr
  rename_i hz
  exact ⟨_, _, hr, _, laws_szIsle.dec, _, (laws_szIsle.f_eq k _ _ _ _ _ _ laws_szIsle.dec).trans (by rw [laws_szIsle.kt_dec]; exact hz), fun rs os h ho => laws_szIsle.inj _ _ _ _ _ _ h ho⟩
noncomputable def laws_toStringS.l0 {β : Type} (k : Nat) (v0_0 : List (List D)) (K : (List (List C)) → Option β) (L0 : (Int × (List (List C))) → Option β) (v : Int × (List (List C))) : Option β :=
  match v with
  | (v0_1, v0_2) => bif (decide ((v0_1 : Int) < (v0_0.length : Int))) then (ZX v0_0 v0_1 fun c5 => Zd c5 fun d6 r7 => Zan d6 fun x8 => Ze r7 (ZH ((0 : Int) ≤ v0_1 ∧ v0_1 < (v0_2.length : Int)) (ZH (Int.toNat v0_1 < v0_2.length) (L0 (IntKind.wrap .i64 (v0_1 + 1), v0_2.modify (Int.toNat v0_1) fun c => Z1 c 0 [.d (.str x8)]))))) else (K v0_2)
noncomputable def laws_toStringS.g {β : Type} (k : Nat) (a0 : List (List D)) (K : (List (List C)) → Option β) : Option β :=
  ZH ((0 : Int) ≤ (a0.length : Int) ∧ (a0.length : Int) ≤ (Z6 : Int) ∧ (a0.length : Int) ≤ (a0.length : Int) ∧ (a0.length : Int) ≤ (a0.length : Int)) (Z4 (laws_toStringS.l0 k a0 K) k (0, List.replicate (Int.toNat (a0.length : Int)) ([.d (.str (⟨#[]⟩ : ByteArray))] : List C)))
noncomputable def laws_toStringS.t (k : Nat) (a0 : List (List D)) : Option ((List (List C))) := laws_toStringS.g k a0 (fun z0 => some z0)
noncomputable def laws_toStringS.f {β : Type} (k : Nat) (a0 : List (List D)) (K : (List (List C)) → Option β) : Option β :=
  match laws_toStringS.t k a0 with
  | some z0 => K z0
  | none => none
noncomputable def laws_toStringS.as (a0 : List (List D)) : List A := [.d (.sl a0)]
noncomputable def laws_toStringS.kt {β : Type} (a0 : List (List D)) (K0 : List (List C) → List Out → Option β) : (List (List C)) → Option β := fun z0 => K0 [[.own z0]] []
noncomputable def laws_toStringS.e (k : Nat) : ZQ := { modes := [(.imm, 0)], rts := [25], al := false, run := fun {β} l K => match l with | [.d (.sl a0)] => laws_toStringS.f k a0 (laws_toStringS.kt a0 K) | _ => none }
noncomputable def laws_toStringS.E (k : Nat) : Env := fun g => none
noncomputable def laws_toStringS.h : ZY := ⟨fun n => bif n == 3 then ⟨[(0, .asis), (3, .asis), (4, .asis)], []⟩ else ⟨[], []⟩, fun _ => none, false, []⟩
noncomputable def laws_toStringS.s0 (v0_0 : List (List D)) (v : Int × (List (List C))) : St :=
  match v with
  | (v0_1, v0_2) => ⟨[.d false (.sl v0_0), .any, .any, .row 0, .d true (.int .i64 v0_1), .any, .any, .any, .any, .any, .any, .any, .any, .any, .any, .any, .any, .any, .any, .any, .any, .any], [.row none true 25 v0_2]⟩
noncomputable def laws_toStringS.b0 {β : Type} (k : Nat) : St → (Ex → St → Option β) → Option β := fun s K => den Try.prog (laws_toStringS.E k) laws_toStringS.h.H laws_toStringS.h.J k (Zad [1, 1, 0, 1, 0, 0] (Zl Try.f78)) s K
noncomputable def laws_toStringS.c0 {β : Type} (k : Nat) (a0 : List (List D)) (K0 : List (List C) → List Out → Option β) : Ex → St → Option β := Zae Try.prog (laws_toStringS.E k) laws_toStringS.h k [1, 1, 0, 1, 0] (Zl Try.f78) (Zak Try.prog Try.f78 laws_toStringS.h (laws_toStringS.as a0) K0)
theorem laws_toStringS.l0_eq {β : Type} (k : Nat) (a0 : List (List D)) (K0 : List (List C) → List Out → Option β) (v0_0 : List (List D)) : ∀ (kk : Nat) (v : Int × (List (List C))), Zx (laws_toStringS.b0 k) (laws_toStringS.h.H 3) kk (laws_toStringS.s0 v0_0 v) (laws_toStringS.c0 k a0 K0) = Z4 (laws_toStringS.l0 k v0_0 (laws_toStringS.kt a0 K0)) kk v :=
  Z9 (laws_toStringS.s0 v0_0) _ (fun L0 v => by obtain ⟨v0_1, v0_2⟩ := v; kernel_rfl)
noncomputable def laws_toStringS.m {β : Type} (k : Nat) (a0 : List (List D)) (K0 : List (List C) → List Out → Option β) (F : ((List (List D)) → (Int × (List (List C))) → Option β)) : Option β :=
  ZH ((0 : Int) ≤ (a0.length : Int) ∧ (a0.length : Int) ≤ (Z6 : Int) ∧ (a0.length : Int) ≤ (a0.length : Int) ∧ (a0.length : Int) ≤ (a0.length : Int)) ((F) a0 (0, List.replicate (Int.toNat (a0.length : Int)) ([.d (.str (⟨#[]⟩ : ByteArray))] : List C)))
theorem laws_toStringS.f_eq {β : Type} (k : Nat) (a0 : List (List D)) (K0 : List (List C) → List Out → Option β) : ZJ Try.prog (laws_toStringS.E k) laws_toStringS.h k Try.f78 (laws_toStringS.as a0) K0 = laws_toStringS.g k a0 (laws_toStringS.kt a0 K0) := Eq.trans (b := (laws_toStringS.m k a0 K0) (fun (v0_0 : List (List D)) (v : Int × (List (List C))) => Zx (laws_toStringS.b0 k) (laws_toStringS.h.H 3) k (laws_toStringS.s0 v0_0 v) (laws_toStringS.c0 k a0 K0))) (by kernel_rfl) (Eq.trans (congrArg (laws_toStringS.m k a0 K0) (funext fun v0_0 => funext fun v => laws_toStringS.l0_eq k a0 K0 v0_0 k v)) (by kernel_rfl))
noncomputable def laws_toStringS.dec (rs : List (List C)) (os : List Out) : Option ((List (List C))) := Zd rs fun c1 r2 => Zd c1 fun x3 l4 => ZaU x3 fun w0 => Ze l4 <| Ze r2 <| Ze os (some w0)
theorem laws_toStringS.kt_dec (a0 : List (List D)) : laws_toStringS.kt a0 laws_toStringS.dec = (fun z0 => some z0) := by kernel_rfl
theorem laws_toStringS.inj (a0 : List (List D)) {rs : List (List C)} {os : List Out} {z0 : List (List C)} (h : laws_toStringS.dec rs os = some z0) (ho : Zo (laws_toStringS.as a0) os) : rs = [[.own z0]] ∧ os = [] := by
  unfold laws_toStringS.dec at h
  obtain ⟨c1, r2, rfl, h1⟩ := Zb h
  obtain ⟨x3, l4, rfl, h2⟩ := Zb h1
  obtain ⟨w0, rfl, h3⟩ := ZN h2
  obtain ⟨rfl, h4⟩ := Zc h3
  obtain ⟨rfl, h5⟩ := Zc h4
  obtain ⟨rfl, h6⟩ := Zc h5
  obtain rfl := Option.some.inj h6
  exact ⟨rfl, rfl⟩
theorem laws_toStringS.ok (k : Nat) : Zv Try.prog 78 (laws_toStringS.e k) := by
  refine Zu mix tyok (fn := Try.f78) (c := Zl Try.f78) Try.func78 (by kernel_rfl) (h := laws_toStringS.h) (k := k) (E := laws_toStringS.E k) Zz (by kernel_rfl) (by kernel_rfl) rfl (Zq Try.func78 (by kernel_rfl)) ?_
  intro β l K r hr
  simp only [laws_toStringS.e] at hr
  split at hr
  case h_2 => cases hr
  unfold laws_toStringS.f at hr
  split at hr
  case h_2 => cases hr
  rename_i hz
  exact ⟨_, _, hr, _, laws_toStringS.dec, _, (laws_toStringS.f_eq k _ laws_toStringS.dec).trans (by rw [laws_toStringS.kt_dec]; exact hz), fun rs os h ho => laws_toStringS.inj _ h ho⟩
noncomputable def laws_toValueS.l0 {β : Type} (k : Nat) (r_laws_toValueS : (List (List D)) → ((List (List C)) → Option β) → Option β) (r_laws_toValue : Int → ByteArray → Int → (List (List D)) → (List (List D)) → (Int → ByteArray → Int → (List (List C)) → (List (List C)) → Option β) → Option β) (v0_0 : List (List D)) (K : (List (List C)) → Option β) (L0 : (Int × (List (List C))) → Option β) (v : Int × (List (List C))) : Option β :=
  match v with
  | (v0_1, v0_2) => bif (decide ((v0_1 : Int) < (v0_0.length : Int))) then (ZX v0_0 v0_1 fun c22 => Zd c22 fun d23 r24 => ZM .i64 d23 fun x25 => Zd r24 fun d26 r27 => Zan d26 fun x28 => Zd r27 fun d29 r30 => ZM .i64 d29 fun x31 => Zd r30 fun d32 r33 => dSl d32 fun x34 => Zd r33 fun d35 r36 => dSl d35 fun x37 => Ze r36 (r_laws_toValue x25 x28 x31 x34 x37 (fun y38 y39 y40 y41 y42 => ZH ((0 : Int) ≤ v0_1 ∧ v0_1 < (v0_2.length : Int)) (ZH (Int.toNat v0_1 < v0_2.length) (L0 (IntKind.wrap .i64 (v0_1 + 1), v0_2.modify (Int.toNat v0_1) fun c => Z1 c 0 [.d (.int .i64 y38), .d (.str y39), .d (.int .i64 y40), .own y41, .own y42])))))) else (K v0_2)
noncomputable def laws_toValueS.body {β : Type} (k : Nat) (r_laws_toValueS : (List (List D)) → ((List (List C)) → Option β) → Option β) (r_laws_toValue : Int → ByteArray → Int → (List (List D)) → (List (List D)) → (Int → ByteArray → Int → (List (List C)) → (List (List C)) → Option β) → Option β) (a0 : List (List D)) (K : (List (List C)) → Option β) : Option β :=
  ZH ((0 : Int) ≤ (a0.length : Int) ∧ (a0.length : Int) ≤ (Z6 : Int) ∧ (a0.length : Int) ≤ (a0.length : Int) ∧ (a0.length : Int) ≤ (a0.length : Int)) (Z4 (laws_toValueS.l0 k r_laws_toValueS r_laws_toValue a0 K) k (0, List.replicate (Int.toNat (a0.length : Int)) ([.d (.int .i64 0), .d (.str (⟨#[]⟩ : ByteArray)), .d (.int .i64 0), .own ([] : List (List C)), .own ([] : List (List C))] : List C)))
noncomputable def laws_toValue.body {β : Type} (k : Nat) (r_laws_toValueS : (List (List D)) → ((List (List C)) → Option β) → Option β) (r_laws_toValue : Int → ByteArray → Int → (List (List D)) → (List (List D)) → (Int → ByteArray → Int → (List (List C)) → (List (List C)) → Option β) → Option β) (a0_0 : Int) (a0_1 : ByteArray) (a0_2 : Int) (a0_3 : List (List D)) (a0_4 : List (List D)) (K : Int → ByteArray → Int → (List (List C)) → (List (List C)) → Option β) : Option β :=
  laws_toStringS.f k a0_3 (fun y9 => r_laws_toValueS a0_4 (fun y43 => K a0_0 a0_1 a0_2 y9 y43))
noncomputable def laws_toValueS.w {β : Type} (r : (List (List D)) → Option ((List (List C)))) (a0 : List (List D)) (K : (List (List C)) → Option β) : Option β :=
  match r a0 with
  | some z0 => K z0
  | none => none
noncomputable def laws_toValue.w {β : Type} (r : Int → ByteArray → Int → (List (List D)) → (List (List D)) → Option (Int × ByteArray × Int × (List (List C)) × (List (List C)))) (a0_0 : Int) (a0_1 : ByteArray) (a0_2 : Int) (a0_3 : List (List D)) (a0_4 : List (List D)) (K : Int → ByteArray → Int → (List (List C)) → (List (List C)) → Option β) : Option β :=
  match r a0_0 a0_1 a0_2 a0_3 a0_4 with
  | some (z0, z1, z2, z3, z4) => K z0 z1 z2 z3 z4
  | none => none
noncomputable def laws_toValueS.all : Nat → ((List (List D)) → Option ((List (List C)))) × (Int → ByteArray → Int → (List (List D)) → (List (List D)) → Option (Int × ByteArray × Int × (List (List C)) × (List (List C))))
  | 0 => (fun _ => none, fun _ _ _ _ _ => none)
  | k + 1 => (fun r => (fun a0 => laws_toValueS.body k (laws_toValueS.w r.1) (laws_toValue.w r.2) a0 (fun z0 => some z0), fun a0_0 a0_1 a0_2 a0_3 a0_4 => laws_toValue.body k (laws_toValueS.w r.1) (laws_toValue.w r.2) a0_0 a0_1 a0_2 a0_3 a0_4 (fun z0 z1 z2 z3 z4 => some (z0, z1, z2, z3, z4)))) (laws_toValueS.all k)
noncomputable def laws_toValueS.t (k : Nat) (a0 : List (List D)) : Option ((List (List C))) := (laws_toValueS.all k).1 a0
noncomputable def laws_toValue.t (k : Nat) (a0_0 : Int) (a0_1 : ByteArray) (a0_2 : Int) (a0_3 : List (List D)) (a0_4 : List (List D)) : Option (Int × ByteArray × Int × (List (List C)) × (List (List C))) := (laws_toValueS.all k).2 a0_0 a0_1 a0_2 a0_3 a0_4
noncomputable def laws_toValueS.f {β : Type} (k : Nat) (a0 : List (List D)) (K : (List (List C)) → Option β) : Option β := laws_toValueS.w (laws_toValueS.t k) a0 K
noncomputable def laws_toValue.f {β : Type} (k : Nat) (a0_0 : Int) (a0_1 : ByteArray) (a0_2 : Int) (a0_3 : List (List D)) (a0_4 : List (List D)) (K : Int → ByteArray → Int → (List (List C)) → (List (List C)) → Option β) : Option β := laws_toValue.w (laws_toValue.t k) a0_0 a0_1 a0_2 a0_3 a0_4 K
noncomputable def laws_toValueS.g {β : Type} (k : Nat) (a0 : List (List D)) (K : (List (List C)) → Option β) : Option β := laws_toValueS.body k (laws_toValueS.f k) (laws_toValue.f k) a0 K
theorem laws_toValueS.t_zero (a0 : List (List D)) : laws_toValueS.t 0 a0 = none := rfl
theorem laws_toValueS.t_succ (k : Nat) (a0 : List (List D)) : laws_toValueS.t (k + 1) a0 = laws_toValueS.g k a0 (fun z0 => some z0) := rfl
noncomputable def laws_toValue.g {β : Type} (k : Nat) (a0_0 : Int) (a0_1 : ByteArray) (a0_2 : Int) (a0_3 : List (List D)) (a0_4 : List (List D)) (K : Int → ByteArray → Int → (List (List C)) → (List (List C)) → Option β) : Option β := laws_toValue.body k (laws_toValueS.f k) (laws_toValue.f k) a0_0 a0_1 a0_2 a0_3 a0_4 K
theorem laws_toValue.t_zero (a0_0 : Int) (a0_1 : ByteArray) (a0_2 : Int) (a0_3 : List (List D)) (a0_4 : List (List D)) : laws_toValue.t 0 a0_0 a0_1 a0_2 a0_3 a0_4 = none := rfl
theorem laws_toValue.t_succ (k : Nat) (a0_0 : Int) (a0_1 : ByteArray) (a0_2 : Int) (a0_3 : List (List D)) (a0_4 : List (List D)) : laws_toValue.t (k + 1) a0_0 a0_1 a0_2 a0_3 a0_4 = laws_toValue.g k a0_0 a0_1 a0_2 a0_3 a0_4 (fun z0 z1 z2 z3 z4 => some (z0, z1, z2, z3, z4)) := rfl
noncomputable def laws_toValueS.as (a0 : List (List D)) : List A := [.d (.sl a0)]
noncomputable def laws_toValueS.kt {β : Type} (a0 : List (List D)) (K0 : List (List C) → List Out → Option β) : (List (List C)) → Option β := fun z0 => K0 [[.own z0]] []
noncomputable def laws_toValueS.e (k : Nat) : ZQ := { modes := [(.imm, 0)], rts := [149], al := false, run := fun {β} l K => match l with | [.d (.sl a0)] => laws_toValueS.f k a0 (laws_toValueS.kt a0 K) | _ => none }
noncomputable def laws_toValue.as (a0_0 : Int) (a0_1 : ByteArray) (a0_2 : Int) (a0_3 : List (List D)) (a0_4 : List (List D)) : List A := [.agg [.int .i64 a0_0, .str a0_1, .int .i64 a0_2, .sl a0_3, .sl a0_4]]
noncomputable def laws_toValue.kt {β : Type} (a0_0 : Int) (a0_1 : ByteArray) (a0_2 : Int) (a0_3 : List (List D)) (a0_4 : List (List D)) (K0 : List (List C) → List Out → Option β) : Int → ByteArray → Int → (List (List C)) → (List (List C)) → Option β := fun z0 z1 z2 z3 z4 => K0 [[.d (.int .i64 z0), .d (.str z1), .d (.int .i64 z2), .own z3, .own z4]] []
noncomputable def laws_toValue.e (k : Nat) : ZQ := { modes := [(.imm, 0)], rts := [151], al := false, run := fun {β} l K => match l with | [.agg [.int .i64 a0_0, .str a0_1, .int .i64 a0_2, .sl a0_3, .sl a0_4]] => laws_toValue.f k a0_0 a0_1 a0_2 a0_3 a0_4 (laws_toValue.kt a0_0 a0_1 a0_2 a0_3 a0_4 K) | _ => none }
noncomputable def laws_toValueS.E (k : Nat) : Env := fun g => bif g == 183 then some (laws_toValue.e k) else none
noncomputable def laws_toValueS.h : ZY := ⟨fun n => bif n == 3 then ⟨[(0, .asis), (3, .asis), (4, .asis)], []⟩ else ⟨[], []⟩, fun _ => none, false, []⟩
noncomputable def laws_toValueS.s0 (v0_0 : List (List D)) (v : Int × (List (List C))) : St :=
  match v with
  | (v0_1, v0_2) => ⟨[.d false (.sl v0_0), .any, .any, .row 0, .d true (.int .i64 v0_1), .any, .any, .any, .any, .any, .any, .any, .any, .any, .any, .any, .any, .any, .any, .any, .any, .any, .any], [.row none true 149 v0_2]⟩
noncomputable def laws_toValueS.b0 {β : Type} (k : Nat) : St → (Ex → St → Option β) → Option β := fun s K => den Try.prog (laws_toValueS.E k) laws_toValueS.h.H laws_toValueS.h.J k (Zad [1, 1, 0, 1, 0, 0] (Zl Try.f224)) s K
noncomputable def laws_toValueS.c0 {β : Type} (k : Nat) (a0 : List (List D)) (K0 : List (List C) → List Out → Option β) : Ex → St → Option β := Zae Try.prog (laws_toValueS.E k) laws_toValueS.h k [1, 1, 0, 1, 0] (Zl Try.f224) (Zak Try.prog Try.f224 laws_toValueS.h (laws_toValueS.as a0) K0)
theorem laws_toValueS.l0_eq {β : Type} (k : Nat) (a0 : List (List D)) (K0 : List (List C) → List Out → Option β) (v0_0 : List (List D)) : ∀ (kk : Nat) (v : Int × (List (List C))), Zx (laws_toValueS.b0 k) (laws_toValueS.h.H 3) kk (laws_toValueS.s0 v0_0 v) (laws_toValueS.c0 k a0 K0) = Z4 (laws_toValueS.l0 k (laws_toValueS.f k) (laws_toValue.f k) v0_0 (laws_toValueS.kt a0 K0)) kk v :=
  Z9 (laws_toValueS.s0 v0_0) _ (fun L0 v => by obtain ⟨v0_1, v0_2⟩ := v; kernel_rfl)
noncomputable def laws_toValueS.m {β : Type} (k : Nat) (a0 : List (List D)) (K0 : List (List C) → List Out → Option β) (F : ((List (List D)) → (Int × (List (List C))) → Option β)) : Option β :=
  ZH ((0 : Int) ≤ (a0.length : Int) ∧ (a0.length : Int) ≤ (Z6 : Int) ∧ (a0.length : Int) ≤ (a0.length : Int) ∧ (a0.length : Int) ≤ (a0.length : Int)) ((F) a0 (0, List.replicate (Int.toNat (a0.length : Int)) ([.d (.int .i64 0), .d (.str (⟨#[]⟩ : ByteArray)), .d (.int .i64 0), .own ([] : List (List C)), .own ([] : List (List C))] : List C)))
theorem laws_toValueS.f_eq {β : Type} (k : Nat) (a0 : List (List D)) (K0 : List (List C) → List Out → Option β) : ZJ Try.prog (laws_toValueS.E k) laws_toValueS.h k Try.f224 (laws_toValueS.as a0) K0 = laws_toValueS.g k a0 (laws_toValueS.kt a0 K0) := Eq.trans (b := (laws_toValueS.m k a0 K0) (fun (v0_0 : List (List D)) (v : Int × (List (List C))) => Zx (laws_toValueS.b0 k) (laws_toValueS.h.H 3) k (laws_toValueS.s0 v0_0 v) (laws_toValueS.c0 k a0 K0))) (by kernel_rfl) (Eq.trans (congrArg (laws_toValueS.m k a0 K0) (funext fun v0_0 => funext fun v => laws_toValueS.l0_eq k a0 K0 v0_0 k v)) (by kernel_rfl))
noncomputable def laws_toValue.E (k : Nat) : Env := fun g => bif g == 78 then some (laws_toStringS.e k) else bif g == 224 then some (laws_toValueS.e k) else none
noncomputable def laws_toValue.h : ZY := ⟨fun n => ⟨[], []⟩, fun _ => none, false, []⟩
theorem laws_toValue.f_eq {β : Type} (k : Nat) (a0_0 : Int) (a0_1 : ByteArray) (a0_2 : Int) (a0_3 : List (List D)) (a0_4 : List (List D)) (K0 : List (List C) → List Out → Option β) : ZJ Try.prog (laws_toValue.E k) laws_toValue.h k Try.f183 (laws_toValue.as a0_0 a0_1 a0_2 a0_3 a0_4) K0 = laws_toValue.g k a0_0 a0_1 a0_2 a0_3 a0_4 (laws_toValue.kt a0_0 a0_1 a0_2 a0_3 a0_4 K0) := by kernel_rfl
noncomputable def laws_toValueS.dec (rs : List (List C)) (os : List Out) : Option ((List (List C))) := Zd rs fun c1 r2 => Zd c1 fun x3 l4 => ZaU x3 fun w0 => Ze l4 <| Ze r2 <| Ze os (some w0)
theorem laws_toValueS.kt_dec (a0 : List (List D)) : laws_toValueS.kt a0 laws_toValueS.dec = (fun z0 => some z0) := by kernel_rfl
theorem laws_toValueS.inj (a0 : List (List D)) {rs : List (List C)} {os : List Out} {z0 : List (List C)} (h : laws_toValueS.dec rs os = some z0) (ho : Zo (laws_toValueS.as a0) os) : rs = [[.own z0]] ∧ os = [] := by
  unfold laws_toValueS.dec at h
  obtain ⟨c1, r2, rfl, h1⟩ := Zb h
  obtain ⟨x3, l4, rfl, h2⟩ := Zb h1
  obtain ⟨w0, rfl, h3⟩ := ZN h2
  obtain ⟨rfl, h4⟩ := Zc h3
  obtain ⟨rfl, h5⟩ := Zc h4
  obtain ⟨rfl, h6⟩ := Zc h5
  obtain rfl := Option.some.inj h6
  exact ⟨rfl, rfl⟩
noncomputable def laws_toValue.dec (rs : List (List C)) (os : List Out) : Option (Int × ByteArray × Int × (List (List C)) × (List (List C))) := Zd rs fun c1 r2 => Zd c1 fun x3 l4 => cD x3 fun d5 => ZM .i64 d5 fun w0 => Zd l4 fun x6 l7 => cD x6 fun d8 => Zan d8 fun w1 => Zd l7 fun x9 l10 => cD x9 fun d11 => ZM .i64 d11 fun w2 => Zd l10 fun x12 l13 => ZaU x12 fun w3 => Zd l13 fun x14 l15 => ZaU x14 fun w4 => Ze l15 <| Ze r2 <| Ze os (some (w0, w1, w2, w3, w4))
theorem laws_toValue.kt_dec (a0_0 : Int) (a0_1 : ByteArray) (a0_2 : Int) (a0_3 : List (List D)) (a0_4 : List (List D)) : laws_toValue.kt a0_0 a0_1 a0_2 a0_3 a0_4 laws_toValue.dec = (fun z0 z1 z2 z3 z4 => some (z0, z1, z2, z3, z4)) := by kernel_rfl
theorem laws_toValue.inj (a0_0 : Int) (a0_1 : ByteArray) (a0_2 : Int) (a0_3 : List (List D)) (a0_4 : List (List D)) {rs : List (List C)} {os : List Out} {z0 : Int} {z1 : ByteArray} {z2 : Int} {z3 : List (List C)} {z4 : List (List C)} (h : laws_toValue.dec rs os = some (z0, z1, z2, z3, z4)) (ho : Zo (laws_toValue.as a0_0 a0_1 a0_2 a0_3 a0_4) os) : rs = [[.d (.int .i64 z0), .d (.str z1), .d (.int .i64 z2), .own z3, .own z4]] ∧ os = [] := by
  unfold laws_toValue.dec at h
  obtain ⟨c1, r2, rfl, h1⟩ := Zb h
  obtain ⟨x3, l4, rfl, h2⟩ := Zb h1
  obtain ⟨d5, rfl, h3⟩ := Zt h2
  obtain ⟨w0, rfl, h4⟩ := ZA h3
  obtain ⟨x6, l7, rfl, h5⟩ := Zb h4
  obtain ⟨d8, rfl, h6⟩ := Zt h5
  obtain ⟨w1, rfl, h7⟩ := ZaL h6
  obtain ⟨x9, l10, rfl, h8⟩ := Zb h7
  obtain ⟨d11, rfl, h9⟩ := Zt h8
  obtain ⟨w2, rfl, h10⟩ := ZA h9
  obtain ⟨x12, l13, rfl, h11⟩ := Zb h10
  obtain ⟨w3, rfl, h12⟩ := ZN h11
  obtain ⟨x14, l15, rfl, h13⟩ := Zb h12
  obtain ⟨w4, rfl, h14⟩ := ZN h13
  obtain ⟨rfl, h15⟩ := Zc h14
  obtain ⟨rfl, h16⟩ := Zc h15
  obtain ⟨rfl, h17⟩ := Zc h16
  simp only [Option.some.injEq, Prod.mk.injEq] at h17
  obtain ⟨rfl, rfl, rfl, rfl, rfl⟩ := h17
  exact ⟨rfl, rfl⟩
theorem laws_toValueS.oks (k : Nat) : Zv Try.prog 224 (laws_toValueS.e k) ∧ Zv Try.prog 183 (laws_toValue.e k) := by
  induction k with
  | zero =>
    refine ⟨?_, ?_⟩
    · exact Zb1 (Zq Try.func224 (by kernel_rfl)) fun β l K r h => by
        simp only [laws_toValueS.e] at h
        split at h
        · unfold laws_toValueS.f at h
          unfold laws_toValueS.w at h
          rw [laws_toValueS.t_zero] at h
          cases h
        · cases h
    · exact Zb1 (Zq Try.func183 (by kernel_rfl)) fun β l K r h => by
        simp only [laws_toValue.e] at h
        split at h
        · unfold laws_toValue.f at h
          unfold laws_toValue.w at h
          rw [laws_toValue.t_zero] at h
          cases h
        · cases h
  | succ k ih =>
    refine ⟨?_, ?_⟩
    · refine Zu mix tyok (fn := Try.f224) (c := Zl Try.f224) Try.func224 (by kernel_rfl) (h := laws_toValueS.h) (k := k) (E := laws_toValueS.E k) (Zk ih.2 Zz) (by kernel_rfl) (by kernel_rfl) rfl (Zq Try.func224 (by kernel_rfl)) ?_
      intro β l K r hr
      simp only [laws_toValueS.e] at hr
      split at hr
      case h_2 => cases hr
      unfold laws_toValueS.f at hr
      unfold laws_toValueS.w at hr
      split at hr
      case h_2 => cases hr
      rename_i hz
      exact ⟨_, _, hr, _, laws_toValueS.dec, _, (laws_toValueS.f_eq k _ laws_toValueS.dec).trans (by rw [laws_toValueS.kt_dec]; exact hz), fun rs os h ho => laws_toValueS.inj _ h ho⟩
    · refine Zu mix tyok (fn := Try.f183) (c := Zl Try.f183) Try.func183 (by kernel_rfl) (h := laws_toValue.h) (k := k) (E := laws_toValue.E k) (Zk (laws_toStringS.ok k) (Zk ih.1 Zz)) (by kernel_rfl) (by kernel_rfl) rfl (Zq Try.func183 (by kernel_rfl)) ?_
      intro β l K r hr
      simp only [laws_toValue.e] at hr
      split at hr
      case h_2 => cases hr
      unfold laws_toValue.f at hr
      unfold laws_toValue.w at hr
      split at hr
      case h_2 => cases hr
      rename_i hz
      exact ⟨_, _, hr, _, laws_toValue.dec, _, (laws_toValue.f_eq k _ _ _ _ _ laws_toValue.dec).trans (by rw [laws_toValue.kt_dec]; exact hz), fun rs os h ho => laws_toValue.inj _ _ _ _ _ h ho⟩
theorem laws_toValueS.ok (k : Nat) : Zv Try.prog 224 (laws_toValueS.e k) := (laws_toValueS.oks k).1
theorem laws_toValue.ok (k : Nat) : Zv Try.prog 183 (laws_toValue.e k) := (laws_toValueS.oks k).2
noncomputable def laws_toWork.g {β : Type} (k : Nat) (a0_0 : Int) (a0_1 : Int) (a0_2 : Int) (a0_3 : ByteArray) (a0_4 : Int) (a0_5 : List (List D)) (a0_6 : List (List D)) (K : Int → Int → Int → ByteArray → Int → (List (List C)) → (List (List C)) → Option β) : Option β :=
  laws_toValue.f k a0_2 a0_3 a0_4 a0_5 a0_6 (fun y44 y45 y46 y47 y48 => K a0_0 a0_1 y44 y45 y46 y47 y48)
noncomputable def laws_toWork.t (k : Nat) (a0_0 : Int) (a0_1 : Int) (a0_2 : Int) (a0_3 : ByteArray) (a0_4 : Int) (a0_5 : List (List D)) (a0_6 : List (List D)) : Option (Int × Int × Int × ByteArray × Int × (List (List C)) × (List (List C))) := laws_toWork.g k a0_0 a0_1 a0_2 a0_3 a0_4 a0_5 a0_6 (fun z0 z1 z2 z3 z4 z5 z6 => some (z0, z1, z2, z3, z4, z5, z6))
noncomputable def laws_toWork.f {β : Type} (k : Nat) (a0_0 : Int) (a0_1 : Int) (a0_2 : Int) (a0_3 : ByteArray) (a0_4 : Int) (a0_5 : List (List D)) (a0_6 : List (List D)) (K : Int → Int → Int → ByteArray → Int → (List (List C)) → (List (List C)) → Option β) : Option β :=
  match laws_toWork.t k a0_0 a0_1 a0_2 a0_3 a0_4 a0_5 a0_6 with
  | some (z0, z1, z2, z3, z4, z5, z6) => K z0 z1 z2 z3 z4 z5 z6
  | none => none
noncomputable def laws_toWork.as (a0_0 : Int) (a0_1 : Int) (a0_2 : Int) (a0_3 : ByteArray) (a0_4 : Int) (a0_5 : List (List D)) (a0_6 : List (List D)) : List A := [.agg [.int .i64 a0_0, .int .i64 a0_1, .int .i64 a0_2, .str a0_3, .int .i64 a0_4, .sl a0_5, .sl a0_6]]
noncomputable def laws_toWork.kt {β : Type} (a0_0 : Int) (a0_1 : Int) (a0_2 : Int) (a0_3 : ByteArray) (a0_4 : Int) (a0_5 : List (List D)) (a0_6 : List (List D)) (K0 : List (List C) → List Out → Option β) : Int → Int → Int → ByteArray → Int → (List (List C)) → (List (List C)) → Option β := fun z0 z1 z2 z3 z4 z5 z6 => K0 [[.d (.int .i64 z0), .d (.int .i64 z1), .d (.int .i64 z2), .d (.str z3), .d (.int .i64 z4), .own z5, .own z6]] []
noncomputable def laws_toWork.e (k : Nat) : ZQ := { modes := [(.imm, 0)], rts := [153], al := false, run := fun {β} l K => match l with | [.agg [.int .i64 a0_0, .int .i64 a0_1, .int .i64 a0_2, .str a0_3, .int .i64 a0_4, .sl a0_5, .sl a0_6]] => laws_toWork.f k a0_0 a0_1 a0_2 a0_3 a0_4 a0_5 a0_6 (laws_toWork.kt a0_0 a0_1 a0_2 a0_3 a0_4 a0_5 a0_6 K) | _ => none }
noncomputable def laws_toWork.E (k : Nat) : Env := fun g => bif g == 183 then some (laws_toValue.e k) else none
noncomputable def laws_toWork.h : ZY := ⟨fun n => ⟨[], []⟩, fun _ => none, false, []⟩
theorem laws_toWork.f_eq {β : Type} (k : Nat) (a0_0 : Int) (a0_1 : Int) (a0_2 : Int) (a0_3 : ByteArray) (a0_4 : Int) (a0_5 : List (List D)) (a0_6 : List (List D)) (K0 : List (List C) → List Out → Option β) : ZJ Try.prog (laws_toWork.E k) laws_toWork.h k Try.f107 (laws_toWork.as a0_0 a0_1 a0_2 a0_3 a0_4 a0_5 a0_6) K0 = laws_toWork.g k a0_0 a0_1 a0_2 a0_3 a0_4 a0_5 a0_6 (laws_toWork.kt a0_0 a0_1 a0_2 a0_3 a0_4 a0_5 a0_6 K0) := by kernel_rfl
noncomputable def laws_toWork.dec (rs : List (List C)) (os : List Out) : Option (Int × Int × Int × ByteArray × Int × (List (List C)) × (List (List C))) := Zd rs fun c1 r2 => Zd c1 fun x3 l4 => cD x3 fun d5 => ZM .i64 d5 fun w0 => Zd l4 fun x6 l7 => cD x6 fun d8 => ZM .i64 d8 fun w1 => Zd l7 fun x9 l10 => cD x9 fun d11 => ZM .i64 d11 fun w2 => Zd l10 fun x12 l13 => cD x12 fun d14 => Zan d14 fun w3 => Zd l13 fun x15 l16 => cD x15 fun d17 => ZM .i64 d17 fun w4 => Zd l16 fun x18 l19 => ZaU x18 fun w5 => Zd l19 fun x20 l21 => ZaU x20 fun w6 => Ze l21 <| Ze r2 <| Ze os (some (w0, w1, w2, w3, w4, w5, w6))
theorem laws_toWork.kt_dec (a0_0 : Int) (a0_1 : Int) (a0_2 : Int) (a0_3 : ByteArray) (a0_4 : Int) (a0_5 : List (List D)) (a0_6 : List (List D)) : laws_toWork.kt a0_0 a0_1 a0_2 a0_3 a0_4 a0_5 a0_6 laws_toWork.dec = (fun z0 z1 z2 z3 z4 z5 z6 => some (z0, z1, z2, z3, z4, z5, z6)) := by kernel_rfl
theorem laws_toWork.inj (a0_0 : Int) (a0_1 : Int) (a0_2 : Int) (a0_3 : ByteArray) (a0_4 : Int) (a0_5 : List (List D)) (a0_6 : List (List D)) {rs : List (List C)} {os : List Out} {z0 : Int} {z1 : Int} {z2 : Int} {z3 : ByteArray} {z4 : Int} {z5 : List (List C)} {z6 : List (List C)} (h : laws_toWork.dec rs os = some (z0, z1, z2, z3, z4, z5, z6)) (ho : Zo (laws_toWork.as a0_0 a0_1 a0_2 a0_3 a0_4 a0_5 a0_6) os) : rs = [[.d (.int .i64 z0), .d (.int .i64 z1), .d (.int .i64 z2), .d (.str z3), .d (.int .i64 z4), .own z5, .own z6]] ∧ os = [] := by
  unfold laws_toWork.dec at h
  obtain ⟨c1, r2, rfl, h1⟩ := Zb h
  obtain ⟨x3, l4, rfl, h2⟩ := Zb h1
  obtain ⟨d5, rfl, h3⟩ := Zt h2
  obtain ⟨w0, rfl, h4⟩ := ZA h3
  obtain ⟨x6, l7, rfl, h5⟩ := Zb h4
  obtain ⟨d8, rfl, h6⟩ := Zt h5
  obtain ⟨w1, rfl, h7⟩ := ZA h6
  obtain ⟨x9, l10, rfl, h8⟩ := Zb h7
  obtain ⟨d11, rfl, h9⟩ := Zt h8
  obtain ⟨w2, rfl, h10⟩ := ZA h9
  obtain ⟨x12, l13, rfl, h11⟩ := Zb h10
  obtain ⟨d14, rfl, h12⟩ := Zt h11
  obtain ⟨w3, rfl, h13⟩ := ZaL h12
  obtain ⟨x15, l16, rfl, h14⟩ := Zb h13
  obtain ⟨d17, rfl, h15⟩ := Zt h14
  obtain ⟨w4, rfl, h16⟩ := ZA h15
  obtain ⟨x18, l19, rfl, h17⟩ := Zb h16
  obtain ⟨w5, rfl, h18⟩ := ZN h17
  obtain ⟨x20, l21, rfl, h19⟩ := Zb h18
  obtain ⟨w6, rfl, h20⟩ := ZN h19
  obtain ⟨rfl, h21⟩ := Zc h20
  obtain ⟨rfl, h22⟩ := Zc h21
  obtain ⟨rfl, h23⟩ := Zc h22
  simp only [Option.some.injEq, Prod.mk.injEq] at h23
  obtain ⟨rfl, rfl, rfl, rfl, rfl, rfl, rfl⟩ := h23
  exact ⟨rfl, rfl⟩
theorem laws_toWork.ok (k : Nat) : Zv Try.prog 107 (laws_toWork.e k) := by
  refine Zu mix tyok (fn := Try.f107) (c := Zl Try.f107) Try.func107 (by kernel_rfl) (h := laws_toWork.h) (k := k) (E := laws_toWork.E k) (Zk (laws_toValue.ok k) Zz) (by kernel_rfl) (by kernel_rfl) rfl (Zq Try.func107 (by kernel_rfl)) ?_
  intro β l K r hr
  simp only [laws_toWork.e] at hr
  split at hr
  case h_2 => cases hr
  unfold laws_toWork.f at hr
  split at hr
  case h_2 => cases hr
  rename_i hz
  exact ⟨_, _, hr, _, laws_toWork.dec, _, (laws_toWork.f_eq k _ _ _ _ _ _ _ laws_toWork.dec).trans (by rw [laws_toWork.kt_dec]; exact hz), fun rs os h ho => laws_toWork.inj _ _ _ _ _ _ _ h ho⟩
noncomputable def laws_toWorkS.l0 {β : Type} (k : Nat) (v0_0 : List (List D)) (K : (List (List C)) → Option β) (L0 : (Int × (List (List C))) → Option β) (v : Int × (List (List C))) : Option β :=
  match v with
  | (v0_1, v0_2) => bif (decide ((v0_1 : Int) < (v0_0.length : Int))) then (ZX v0_0 v0_1 fun c56 => Zd c56 fun d57 r58 => ZM .i64 d57 fun x59 => Zd r58 fun d60 r61 => ZM .i64 d60 fun x62 => Zd r61 fun d63 r64 => ZM .i64 d63 fun x65 => Zd r64 fun d66 r67 => Zan d66 fun x68 => Zd r67 fun d69 r70 => ZM .i64 d69 fun x71 => Zd r70 fun d72 r73 => dSl d72 fun x74 => Zd r73 fun d75 r76 => dSl d75 fun x77 => Ze r76 (laws_toWork.f k x59 x62 x65 x68 x71 x74 x77 (fun y78 y79 y80 y81 y82 y83 y84 => ZH ((0 : Int) ≤ v0_1 ∧ v0_1 < (v0_2.length : Int)) (ZH (Int.toNat v0_1 < v0_2.length) (L0 (IntKind.wrap .i64 (v0_1 + 1), v0_2.modify (Int.toNat v0_1) fun c => Z1 c 0 [.d (.int .i64 y78), .d (.int .i64 y79), .d (.int .i64 y80), .d (.str y81), .d (.int .i64 y82), .own y83, .own y84])))))) else (K v0_2)
noncomputable def laws_toWorkS.g {β : Type} (k : Nat) (a0 : List (List D)) (K : (List (List C)) → Option β) : Option β :=
  ZH ((0 : Int) ≤ (a0.length : Int) ∧ (a0.length : Int) ≤ (Z6 : Int) ∧ (a0.length : Int) ≤ (a0.length : Int) ∧ (a0.length : Int) ≤ (a0.length : Int)) (Z4 (laws_toWorkS.l0 k a0 K) k (0, List.replicate (Int.toNat (a0.length : Int)) ([.d (.int .i64 0), .d (.int .i64 0), .d (.int .i64 0), .d (.str (⟨#[]⟩ : ByteArray)), .d (.int .i64 0), .own ([] : List (List C)), .own ([] : List (List C))] : List C)))
noncomputable def laws_toWorkS.t (k : Nat) (a0 : List (List D)) : Option ((List (List C))) := laws_toWorkS.g k a0 (fun z0 => some z0)
noncomputable def laws_toWorkS.f {β : Type} (k : Nat) (a0 : List (List D)) (K : (List (List C)) → Option β) : Option β :=
  match laws_toWorkS.t k a0 with
  | some z0 => K z0
  | none => none
noncomputable def laws_toWorkS.as (a0 : List (List D)) : List A := [.d (.sl a0)]
noncomputable def laws_toWorkS.kt {β : Type} (a0 : List (List D)) (K0 : List (List C) → List Out → Option β) : (List (List C)) → Option β := fun z0 => K0 [[.own z0]] []
noncomputable def laws_toWorkS.e (k : Nat) : ZQ := { modes := [(.imm, 0)], rts := [59], al := false, run := fun {β} l K => match l with | [.d (.sl a0)] => laws_toWorkS.f k a0 (laws_toWorkS.kt a0 K) | _ => none }
noncomputable def laws_toWorkS.E (k : Nat) : Env := fun g => bif g == 107 then some (laws_toWork.e k) else none
noncomputable def laws_toWorkS.h : ZY := ⟨fun n => bif n == 3 then ⟨[(0, .asis), (3, .asis), (4, .asis)], []⟩ else ⟨[], []⟩, fun _ => none, false, []⟩
noncomputable def laws_toWorkS.s0 (v0_0 : List (List D)) (v : Int × (List (List C))) : St :=
  match v with
  | (v0_1, v0_2) => ⟨[.d false (.sl v0_0), .any, .any, .row 0, .d true (.int .i64 v0_1), .any, .any, .any, .any, .any, .any, .any, .any, .any, .any, .any, .any, .any, .any, .any, .any, .any, .any], [.row none true 59 v0_2]⟩
noncomputable def laws_toWorkS.b0 {β : Type} (k : Nat) : St → (Ex → St → Option β) → Option β := fun s K => den Try.prog (laws_toWorkS.E k) laws_toWorkS.h.H laws_toWorkS.h.J k (Zad [1, 1, 0, 1, 0, 0] (Zl Try.f33)) s K
noncomputable def laws_toWorkS.c0 {β : Type} (k : Nat) (a0 : List (List D)) (K0 : List (List C) → List Out → Option β) : Ex → St → Option β := Zae Try.prog (laws_toWorkS.E k) laws_toWorkS.h k [1, 1, 0, 1, 0] (Zl Try.f33) (Zak Try.prog Try.f33 laws_toWorkS.h (laws_toWorkS.as a0) K0)
theorem laws_toWorkS.l0_eq {β : Type} (k : Nat) (a0 : List (List D)) (K0 : List (List C) → List Out → Option β) (v0_0 : List (List D)) : ∀ (kk : Nat) (v : Int × (List (List C))), Zx (laws_toWorkS.b0 k) (laws_toWorkS.h.H 3) kk (laws_toWorkS.s0 v0_0 v) (laws_toWorkS.c0 k a0 K0) = Z4 (laws_toWorkS.l0 k v0_0 (laws_toWorkS.kt a0 K0)) kk v :=
  Z9 (laws_toWorkS.s0 v0_0) _ (fun L0 v => by obtain ⟨v0_1, v0_2⟩ := v; kernel_rfl)
noncomputable def laws_toWorkS.m {β : Type} (k : Nat) (a0 : List (List D)) (K0 : List (List C) → List Out → Option β) (F : ((List (List D)) → (Int × (List (List C))) → Option β)) : Option β :=
  ZH ((0 : Int) ≤ (a0.length : Int) ∧ (a0.length : Int) ≤ (Z6 : Int) ∧ (a0.length : Int) ≤ (a0.length : Int) ∧ (a0.length : Int) ≤ (a0.length : Int)) ((F) a0 (0, List.replicate (Int.toNat (a0.length : Int)) ([.d (.int .i64 0), .d (.int .i64 0), .d (.int .i64 0), .d (.str (⟨#[]⟩ : ByteArray)), .d (.int .i64 0), .own ([] : List (List C)), .own ([] : List (List C))] : List C)))
theorem laws_toWorkS.f_eq {β : Type} (k : Nat) (a0 : List (List D)) (K0 : List (List C) → List Out → Option β) : ZJ Try.prog (laws_toWorkS.E k) laws_toWorkS.h k Try.f33 (laws_toWorkS.as a0) K0 = laws_toWorkS.g k a0 (laws_toWorkS.kt a0 K0) := Eq.trans (b := (laws_toWorkS.m k a0 K0) (fun (v0_0 : List (List D)) (v : Int × (List (List C))) => Zx (laws_toWorkS.b0 k) (laws_toWorkS.h.H 3) k (laws_toWorkS.s0 v0_0 v) (laws_toWorkS.c0 k a0 K0))) (by kernel_rfl) (Eq.trans (congrArg (laws_toWorkS.m k a0 K0) (funext fun v0_0 => funext fun v => laws_toWorkS.l0_eq k a0 K0 v0_0 k v)) (by kernel_rfl))
noncomputable def laws_toWorkS.dec (rs : List (List C)) (os : List Out) : Option ((List (List C))) := Zd rs fun c1 r2 => Zd c1 fun x3 l4 => ZaU x3 fun w0 => Ze l4 <| Ze r2 <| Ze os (some w0)
theorem laws_toWorkS.kt_dec (a0 : List (List D)) : laws_toWorkS.kt a0 laws_toWorkS.dec = (fun z0 => some z0) := by kernel_rfl
theorem laws_toWorkS.inj (a0 : List (List D)) {rs : List (List C)} {os : List Out} {z0 : List (List C)} (h : laws_toWorkS.dec rs os = some z0) (ho : Zo (laws_toWorkS.as a0) os) : rs = [[.own z0]] ∧ os = [] := by
  unfold laws_toWorkS.dec at h
  obtain ⟨c1, r2, rfl, h1⟩ := Zb h
  obtain ⟨x3, l4, rfl, h2⟩ := Zb h1
  obtain ⟨w0, rfl, h3⟩ := ZN h2
  obtain ⟨rfl, h4⟩ := Zc h3
  obtain ⟨rfl, h5⟩ := Zc h4
  obtain ⟨rfl, h6⟩ := Zc h5
  obtain rfl := Option.some.inj h6
  exact ⟨rfl, rfl⟩
theorem laws_toWorkS.ok (k : Nat) : Zv Try.prog 33 (laws_toWorkS.e k) := by
  refine Zu mix tyok (fn := Try.f33) (c := Zl Try.f33) Try.func33 (by kernel_rfl) (h := laws_toWorkS.h) (k := k) (E := laws_toWorkS.E k) (Zk (laws_toWork.ok k) Zz) (by kernel_rfl) (by kernel_rfl) rfl (Zq Try.func33 (by kernel_rfl)) ?_
  intro β l K r hr
  simp only [laws_toWorkS.e] at hr
  split at hr
  case h_2 => cases hr
  unfold laws_toWorkS.f at hr
  split at hr
  case h_2 => cases hr
  rename_i hz
  exact ⟨_, _, hr, _, laws_toWorkS.dec, _, (laws_toWorkS.f_eq k _ laws_toWorkS.dec).trans (by rw [laws_toWorkS.kt_dec]; exact hz), fun rs os h ho => laws_toWorkS.inj _ h ho⟩
noncomputable def laws_toRun.g {β : Type} (k : Nat) (a0_0 : Int) (a0_1 : Int) (K : Int → Int → Option β) : Option β :=
  K a0_0 a0_1
noncomputable def laws_toRun.t (k : Nat) (a0_0 : Int) (a0_1 : Int) : Option (Int × Int) := laws_toRun.g k a0_0 a0_1 (fun z0 z1 => some (z0, z1))
noncomputable def laws_toRun.f {β : Type} (k : Nat) (a0_0 : Int) (a0_1 : Int) (K : Int → Int → Option β) : Option β :=
  match laws_toRun.t k a0_0 a0_1 with
  | some (z0, z1) => K z0 z1
  | none => none
noncomputable def laws_toRun.as (a0_0 : Int) (a0_1 : Int) : List A := [.agg [.int .i64 a0_0, .int .i64 a0_1]]
noncomputable def laws_toRun.kt {β : Type} (a0_0 : Int) (a0_1 : Int) (K0 : List (List C) → List Out → Option β) : Int → Int → Option β := fun z0 z1 => K0 [[.d (.int .i64 z0), .d (.int .i64 z1)]] []
noncomputable def laws_toRun.e (k : Nat) : ZQ := { modes := [(.imm, 0)], rts := [182], al := false, run := fun {β} l K => match l with | [.agg [.int .i64 a0_0, .int .i64 a0_1]] => laws_toRun.f k a0_0 a0_1 (laws_toRun.kt a0_0 a0_1 K) | _ => none }
noncomputable def laws_toRun.E (k : Nat) : Env := fun g => none
noncomputable def laws_toRun.h : ZY := ⟨fun n => ⟨[], []⟩, fun _ => none, false, []⟩
theorem laws_toRun.f_eq {β : Type} (k : Nat) (a0_0 : Int) (a0_1 : Int) (K0 : List (List C) → List Out → Option β) : ZJ Try.prog (laws_toRun.E k) laws_toRun.h k Try.f182 (laws_toRun.as a0_0 a0_1) K0 = laws_toRun.g k a0_0 a0_1 (laws_toRun.kt a0_0 a0_1 K0) := by kernel_rfl
noncomputable def laws_toRun.dec (rs : List (List C)) (os : List Out) : Option (Int × Int) := Zd rs fun c1 r2 => Zd c1 fun x3 l4 => cD x3 fun d5 => ZM .i64 d5 fun w0 => Zd l4 fun x6 l7 => cD x6 fun d8 => ZM .i64 d8 fun w1 => Ze l7 <| Ze r2 <| Ze os (some (w0, w1))
theorem laws_toRun.kt_dec (a0_0 : Int) (a0_1 : Int) : laws_toRun.kt a0_0 a0_1 laws_toRun.dec = (fun z0 z1 => some (z0, z1)) := by kernel_rfl
theorem laws_toRun.inj (a0_0 : Int) (a0_1 : Int) {rs : List (List C)} {os : List Out} {z0 : Int} {z1 : Int} (h : laws_toRun.dec rs os = some (z0, z1)) (ho : Zo (laws_toRun.as a0_0 a0_1) os) : rs = [[.d (.int .i64 z0), .d (.int .i64 z1)]] ∧ os = [] := by
  unfold laws_toRun.dec at h
  obtain ⟨c1, r2, rfl, h1⟩ := Zb h
  obtain ⟨x3, l4, rfl, h2⟩ := Zb h1
  obtain ⟨d5, rfl, h3⟩ := Zt h2
  obtain ⟨w0, rfl, h4⟩ := ZA h3
  obtain ⟨x6, l7, rfl, h5⟩ := Zb h4
  obtain ⟨d8, rfl, h6⟩ := Zt h5
  obtain ⟨w1, rfl, h7⟩ := ZA h6
  obtain ⟨rfl, h8⟩ := Zc h7
  obtain ⟨rfl, h9⟩ := Zc h8
  obtain ⟨rfl, h10⟩ := Zc h9
  simp only [Option.some.injEq, Prod.mk.injEq] at h10
  obtain ⟨rfl, rfl⟩ := h10
  exact ⟨rfl, rfl⟩
theorem laws_toRun.ok (k : Nat) : Zv Try.prog 182 (laws_toRun.e k) := by
  refine Zu mix tyok (fn := Try.f182) (c := Zl Try.f182) Try.func182 (by kernel_rfl) (h := laws_toRun.h) (k := k) (E := laws_toRun.E k) Zz (by kernel_rfl) (by kernel_rfl) rfl (Zq Try.func182 (by kernel_rfl)) ?_
  intro β l K r hr
  simp only [laws_toRun.e] at hr
  split at hr
  case h_2 => cases hr
  unfold laws_toRun.f at hr
  split at hr
  case h_2 => cases hr
  rename_i hz
  exact ⟨_, _, hr, _, laws_toRun.dec, _, (laws_toRun.f_eq k _ _ laws_toRun.dec).trans (by rw [laws_toRun.kt_dec]; exact hz), fun rs os h ho => laws_toRun.inj _ _ h ho⟩
noncomputable def laws_toRunS.l0 {β : Type} (k : Nat) (v0_0 : List (List D)) (K : (List (List C)) → Option β) (L0 : (Int × (List (List C))) → Option β) (v : Int × (List (List C))) : Option β :=
  match v with
  | (v0_1, v0_2) => bif (decide ((v0_1 : Int) < (v0_0.length : Int))) then (ZX v0_0 v0_1 fun c10 => Zd c10 fun d11 r12 => ZM .i64 d11 fun x13 => Zd r12 fun d14 r15 => ZM .i64 d14 fun x16 => Ze r15 (laws_toRun.f k x13 x16 (fun y17 y18 => ZH ((0 : Int) ≤ v0_1 ∧ v0_1 < (v0_2.length : Int)) (ZH (Int.toNat v0_1 < v0_2.length) (L0 (IntKind.wrap .i64 (v0_1 + 1), v0_2.modify (Int.toNat v0_1) fun c => Z1 c 0 [.d (.int .i64 y17), .d (.int .i64 y18)])))))) else (K v0_2)
noncomputable def laws_toRunS.g {β : Type} (k : Nat) (a0 : List (List D)) (K : (List (List C)) → Option β) : Option β :=
  ZH ((0 : Int) ≤ (a0.length : Int) ∧ (a0.length : Int) ≤ (Z6 : Int) ∧ (a0.length : Int) ≤ (a0.length : Int) ∧ (a0.length : Int) ≤ (a0.length : Int)) (Z4 (laws_toRunS.l0 k a0 K) k (0, List.replicate (Int.toNat (a0.length : Int)) ([.d (.int .i64 0), .d (.int .i64 0)] : List C)))
noncomputable def laws_toRunS.t (k : Nat) (a0 : List (List D)) : Option ((List (List C))) := laws_toRunS.g k a0 (fun z0 => some z0)
noncomputable def laws_toRunS.f {β : Type} (k : Nat) (a0 : List (List D)) (K : (List (List C)) → Option β) : Option β :=
  match laws_toRunS.t k a0 with
  | some z0 => K z0
  | none => none
noncomputable def laws_toRunS.as (a0 : List (List D)) : List A := [.d (.sl a0)]
noncomputable def laws_toRunS.kt {β : Type} (a0 : List (List D)) (K0 : List (List C) → List Out → Option β) : (List (List C)) → Option β := fun z0 => K0 [[.own z0]] []
noncomputable def laws_toRunS.e (k : Nat) : ZQ := { modes := [(.imm, 0)], rts := [60], al := false, run := fun {β} l K => match l with | [.d (.sl a0)] => laws_toRunS.f k a0 (laws_toRunS.kt a0 K) | _ => none }
noncomputable def laws_toRunS.E (k : Nat) : Env := fun g => bif g == 182 then some (laws_toRun.e k) else none
noncomputable def laws_toRunS.h : ZY := ⟨fun n => bif n == 3 then ⟨[(0, .asis), (3, .asis), (4, .asis)], []⟩ else ⟨[], []⟩, fun _ => none, false, []⟩
noncomputable def laws_toRunS.s0 (v0_0 : List (List D)) (v : Int × (List (List C))) : St :=
  match v with
  | (v0_1, v0_2) => ⟨[.d false (.sl v0_0), .any, .any, .row 0, .d true (.int .i64 v0_1), .any, .any, .any, .any, .any, .any, .any, .any, .any, .any, .any, .any, .any, .any, .any, .any, .any, .any], [.row none true 60 v0_2]⟩
noncomputable def laws_toRunS.b0 {β : Type} (k : Nat) : St → (Ex → St → Option β) → Option β := fun s K => den Try.prog (laws_toRunS.E k) laws_toRunS.h.H laws_toRunS.h.J k (Zad [1, 1, 0, 1, 0, 0] (Zl Try.f106)) s K
noncomputable def laws_toRunS.c0 {β : Type} (k : Nat) (a0 : List (List D)) (K0 : List (List C) → List Out → Option β) : Ex → St → Option β := Zae Try.prog (laws_toRunS.E k) laws_toRunS.h k [1, 1, 0, 1, 0] (Zl Try.f106) (Zak Try.prog Try.f106 laws_toRunS.h (laws_toRunS.as a0) K0)
theorem laws_toRunS.l0_eq {β : Type} (k : Nat) (a0 : List (List D)) (K0 : List (List C) → List Out → Option β) (v0_0 : List (List D)) : ∀ (kk : Nat) (v : Int × (List (List C))), Zx (laws_toRunS.b0 k) (laws_toRunS.h.H 3) kk (laws_toRunS.s0 v0_0 v) (laws_toRunS.c0 k a0 K0) = Z4 (laws_toRunS.l0 k v0_0 (laws_toRunS.kt a0 K0)) kk v :=
  Z9 (laws_toRunS.s0 v0_0) _ (fun L0 v => by obtain ⟨v0_1, v0_2⟩ := v; kernel_rfl)
noncomputable def laws_toRunS.m {β : Type} (k : Nat) (a0 : List (List D)) (K0 : List (List C) → List Out → Option β) (F : ((List (List D)) → (Int × (List (List C))) → Option β)) : Option β :=
  ZH ((0 : Int) ≤ (a0.length : Int) ∧ (a0.length : Int) ≤ (Z6 : Int) ∧ (a0.length : Int) ≤ (a0.length : Int) ∧ (a0.length : Int) ≤ (a0.length : Int)) ((F) a0 (0, List.replicate (Int.toNat (a0.length : Int)) ([.d (.int .i64 0), .d (.int .i64 0)] : List C)))
theorem laws_toRunS.f_eq {β : Type} (k : Nat) (a0 : List (List D)) (K0 : List (List C) → List Out → Option β) : ZJ Try.prog (laws_toRunS.E k) laws_toRunS.h k Try.f106 (laws_toRunS.as a0) K0 = laws_toRunS.g k a0 (laws_toRunS.kt a0 K0) := Eq.trans (b := (laws_toRunS.m k a0 K0) (fun (v0_0 : List (List D)) (v : Int × (List (List C))) => Zx (laws_toRunS.b0 k) (laws_toRunS.h.H 3) k (laws_toRunS.s0 v0_0 v) (laws_toRunS.c0 k a0 K0))) (by kernel_rfl) (Eq.trans (congrArg (laws_toRunS.m k a0 K0) (funext fun v0_0 => funext fun v => laws_toRunS.l0_eq k a0 K0 v0_0 k v)) (by kernel_rfl))
noncomputable def laws_toRunS.dec (rs : List (List C)) (os : List Out) : Option ((List (List C))) := Zd rs fun c1 r2 => Zd c1 fun x3 l4 => ZaU x3 fun w0 => Ze l4 <| Ze r2 <| Ze os (some w0)
theorem laws_toRunS.kt_dec (a0 : List (List D)) : laws_toRunS.kt a0 laws_toRunS.dec = (fun z0 => some z0) := by kernel_rfl
theorem laws_toRunS.inj (a0 : List (List D)) {rs : List (List C)} {os : List Out} {z0 : List (List C)} (h : laws_toRunS.dec rs os = some z0) (ho : Zo (laws_toRunS.as a0) os) : rs = [[.own z0]] ∧ os = [] := by
  unfold laws_toRunS.dec at h
  obtain ⟨c1, r2, rfl, h1⟩ := Zb h
  obtain ⟨x3, l4, rfl, h2⟩ := Zb h1
  obtain ⟨w0, rfl, h3⟩ := ZN h2
  obtain ⟨rfl, h4⟩ := Zc h3
  obtain ⟨rfl, h5⟩ := Zc h4
  obtain ⟨rfl, h6⟩ := Zc h5
  obtain rfl := Option.some.inj h6
  exact ⟨rfl, rfl⟩
theorem laws_toRunS.ok (k : Nat) : Zv Try.prog 106 (laws_toRunS.e k) := by
  refine Zu mix tyok (fn := Try.f106) (c := Zl Try.f106) Try.func106 (by kernel_rfl) (h := laws_toRunS.h) (k := k) (E := laws_toRunS.E k) (Zk (laws_toRun.ok k) Zz) (by kernel_rfl) (by kernel_rfl) rfl (Zq Try.func106 (by kernel_rfl)) ?_
  intro β l K r hr
  simp only [laws_toRunS.e] at hr
  split at hr
  case h_2 => cases hr
  unfold laws_toRunS.f at hr
  split at hr
  case h_2 => cases hr
  rename_i hz
  exact ⟨_, _, hr, _, laws_toRunS.dec, _, (laws_toRunS.f_eq k _ laws_toRunS.dec).trans (by rw [laws_toRunS.kt_dec]; exact hz), fun rs os h ho => laws_toRunS.inj _ h ho⟩
noncomputable def laws_toIsle.g {β : Type} (k : Nat) (a0_0 : ByteArray) (a0_1 : Int) (a0_2 : Int) (a0_3 : List (List D)) (a0_4 : List (List D)) (K : ByteArray → Int → Int → (List (List C)) → (List (List C)) → Option β) : Option β :=
  laws_toWorkS.f k a0_3 (fun y85 => laws_toRunS.f k a0_4 (fun y86 => K a0_0 a0_1 a0_2 y85 y86))
noncomputable def laws_toIsle.t (k : Nat) (a0_0 : ByteArray) (a0_1 : Int) (a0_2 : Int) (a0_3 : List (List D)) (a0_4 : List (List D)) : Option (ByteArray × Int × Int × (List (List C)) × (List (List C))) := laws_toIsle.g k a0_0 a0_1 a0_2 a0_3 a0_4 (fun z0 z1 z2 z3 z4 => some (z0, z1, z2, z3, z4))
noncomputable def laws_toIsle.f {β : Type} (k : Nat) (a0_0 : ByteArray) (a0_1 : Int) (a0_2 : Int) (a0_3 : List (List D)) (a0_4 : List (List D)) (K : ByteArray → Int → Int → (List (List C)) → (List (List C)) → Option β) : Option β :=
  match laws_toIsle.t k a0_0 a0_1 a0_2 a0_3 a0_4 with
  | some (z0, z1, z2, z3, z4) => K z0 z1 z2 z3 z4
  | none => none
noncomputable def laws_toIsle.as (a0_0 : ByteArray) (a0_1 : Int) (a0_2 : Int) (a0_3 : List (List D)) (a0_4 : List (List D)) : List A := [.agg [.str a0_0, .int .i64 a0_1, .int .i64 a0_2, .sl a0_3, .sl a0_4]]
noncomputable def laws_toIsle.kt {β : Type} (a0_0 : ByteArray) (a0_1 : Int) (a0_2 : Int) (a0_3 : List (List D)) (a0_4 : List (List D)) (K0 : List (List C) → List Out → Option β) : ByteArray → Int → Int → (List (List C)) → (List (List C)) → Option β := fun z0 z1 z2 z3 z4 => K0 [[.d (.str z0), .d (.int .i64 z1), .d (.int .i64 z2), .own z3, .own z4]] []
noncomputable def laws_toIsle.e (k : Nat) : ZQ := { modes := [(.imm, 0)], rts := [62], al := false, run := fun {β} l K => match l with | [.agg [.str a0_0, .int .i64 a0_1, .int .i64 a0_2, .sl a0_3, .sl a0_4]] => laws_toIsle.f k a0_0 a0_1 a0_2 a0_3 a0_4 (laws_toIsle.kt a0_0 a0_1 a0_2 a0_3 a0_4 K) | _ => none }
noncomputable def laws_toIsle.E (k : Nat) : Env := fun g => bif g == 33 then some (laws_toWorkS.e k) else bif g == 106 then some (laws_toRunS.e k) else none
noncomputable def laws_toIsle.h : ZY := ⟨fun n => ⟨[], []⟩, fun _ => none, false, []⟩
theorem laws_toIsle.f_eq {β : Type} (k : Nat) (a0_0 : ByteArray) (a0_1 : Int) (a0_2 : Int) (a0_3 : List (List D)) (a0_4 : List (List D)) (K0 : List (List C) → List Out → Option β) : ZJ Try.prog (laws_toIsle.E k) laws_toIsle.h k Try.f32 (laws_toIsle.as a0_0 a0_1 a0_2 a0_3 a0_4) K0 = laws_toIsle.g k a0_0 a0_1 a0_2 a0_3 a0_4 (laws_toIsle.kt a0_0 a0_1 a0_2 a0_3 a0_4 K0) := by kernel_rfl
noncomputable def laws_toIsle.dec (rs : List (List C)) (os : List Out) : Option (ByteArray × Int × Int × (List (List C)) × (List (List C))) := Zd rs fun c1 r2 => Zd c1 fun x3 l4 => cD x3 fun d5 => Zan d5 fun w0 => Zd l4 fun x6 l7 => cD x6 fun d8 => ZM .i64 d8 fun w1 => Zd l7 fun x9 l10 => cD x9 fun d11 => ZM .i64 d11 fun w2 => Zd l10 fun x12 l13 => ZaU x12 fun w3 => Zd l13 fun x14 l15 => ZaU x14 fun w4 => Ze l15 <| Ze r2 <| Ze os (some (w0, w1, w2, w3, w4))
theorem laws_toIsle.kt_dec (a0_0 : ByteArray) (a0_1 : Int) (a0_2 : Int) (a0_3 : List (List D)) (a0_4 : List (List D)) : laws_toIsle.kt a0_0 a0_1 a0_2 a0_3 a0_4 laws_toIsle.dec = (fun z0 z1 z2 z3 z4 => some (z0, z1, z2, z3, z4)) := by kernel_rfl
theorem laws_toIsle.inj (a0_0 : ByteArray) (a0_1 : Int) (a0_2 : Int) (a0_3 : List (List D)) (a0_4 : List (List D)) {rs : List (List C)} {os : List Out} {z0 : ByteArray} {z1 : Int} {z2 : Int} {z3 : List (List C)} {z4 : List (List C)} (h : laws_toIsle.dec rs os = some (z0, z1, z2, z3, z4)) (ho : Zo (laws_toIsle.as a0_0 a0_1 a0_2 a0_3 a0_4) os) : rs = [[.d (.str z0), .d (.int .i64 z1), .d (.int .i64 z2), .own z3, .own z4]] ∧ os = [] := by
  unfold laws_toIsle.dec at h
  obtain ⟨c1, r2, rfl, h1⟩ := Zb h
  obtain ⟨x3, l4, rfl, h2⟩ := Zb h1
  obtain ⟨d5, rfl, h3⟩ := Zt h2
  obtain ⟨w0, rfl, h4⟩ := ZaL h3
  obtain ⟨x6, l7, rfl, h5⟩ := Zb h4
  obtain ⟨d8, rfl, h6⟩ := Zt h5
  obtain ⟨w1, rfl, h7⟩ := ZA h6
  obtain ⟨x9, l10, rfl, h8⟩ := Zb h7
  obtain ⟨d11, rfl, h9⟩ := Zt h8
  obtain ⟨w2, rfl, h10⟩ := ZA h9
  obtain ⟨x12, l13, rfl, h11⟩ := Zb h10
  obtain ⟨w3, rfl, h12⟩ := ZN h11
  obtain ⟨x14, l15, rfl, h13⟩ := Zb h12
  obtain ⟨w4, rfl, h14⟩ := ZN h13
  obtain ⟨rfl, h15⟩ := Zc h14
  obtain ⟨rfl, h16⟩ := Zc h15
  obtain ⟨rfl, h17⟩ := Zc h16
  simp only [Option.some.injEq, Prod.mk.injEq] at h17
  obtain ⟨rfl, rfl, rfl, rfl, rfl⟩ := h17
  exact ⟨rfl, rfl⟩
theorem laws_toIsle.ok (k : Nat) : Zv Try.prog 32 (laws_toIsle.e k) := by
  refine Zu mix tyok (fn := Try.f32) (c := Zl Try.f32) Try.func32 (by kernel_rfl) (h := laws_toIsle.h) (k := k) (E := laws_toIsle.E k) (Zk (laws_toWorkS.ok k) (Zk (laws_toRunS.ok k) Zz)) (by kernel_rfl) (by kernel_rfl) rfl (Zq Try.func32 (by kernel_rfl)) ?_
  intro β l K r hr
  simp only [laws_toIsle.e] at hr
  split at hr
  case h_2 => cases hr
  unfold laws_toIsle.f at hr
  split at hr
  case h_2 => cases hr
  rename_i hz
  exact ⟨_, _, hr, _, laws_toIsle.dec, _, (laws_toIsle.f_eq k _ _ _ _ _ laws_toIsle.dec).trans (by rw [laws_toIsle.kt_dec]; exact hz), fun rs os h ho => laws_toIsle.inj _ _ _ _ _ h ho⟩
noncomputable def spec_l4Copy.l0 {β : Type} (k : Nat) (r_spec_l4Copy : Int → ByteArray → Int → (List (List D)) → (List (List D)) → (Int → ByteArray → Int → (List (List C)) → (List (List C)) → Option β) → Option β) (v0_1 : Int) (v0_2 : ByteArray) (v0_3 : Int) (v0_4 : List (List D)) (v0_5 : List (List D)) (v0_6 : Int) (v0_7 : ByteArray) (v0_8 : Int) (v0_9 : Int) (v0_10 : ByteArray) (v0_11 : Int) (v0_12 : List (List C)) (K : Int → ByteArray → Int → (List (List C)) → (List (List C)) → Option β) (L0 : (Int × (List (List C))) → Option β) (v : Int × (List (List C))) : Option β :=
  match v with
  | (v0_0, v0_13) => bif (decide ((v0_0 : Int) < (v0_5.length : Int))) then (ZX v0_5 v0_0 fun c22 => Zd c22 fun d23 r24 => ZM .i64 d23 fun x25 => Zd r24 fun d26 r27 => Zan d26 fun x28 => Zd r27 fun d29 r30 => ZM .i64 d29 fun x31 => Zd r30 fun d32 r33 => dSl d32 fun x34 => Zd r33 fun d35 r36 => dSl d35 fun x37 => Ze r36 (r_spec_l4Copy x25 x28 x31 x34 x37 (fun y38 y39 y40 y41 y42 => ZH (v0_13.length + ([[.d (.int .i64 y38), .d (.str y39), .d (.int .i64 y40), .own y41, .own y42]] : List (List C)).length ≤ Z6) (L0 (IntKind.wrap .i64 (v0_0 + 1), v0_13 ++ ([[.d (.int .i64 y38), .d (.str y39), .d (.int .i64 y40), .own y41, .own y42]] : List (List C))))))) else (K v0_9 v0_10 v0_11 v0_12 v0_13)
noncomputable def spec_l4Copy.body {β : Type} (k : Nat) (r_spec_l4Copy : Int → ByteArray → Int → (List (List D)) → (List (List D)) → (Int → ByteArray → Int → (List (List C)) → (List (List C)) → Option β) → Option β) (a0_0 : Int) (a0_1 : ByteArray) (a0_2 : Int) (a0_3 : List (List D)) (a0_4 : List (List D)) (K : Int → ByteArray → Int → (List (List C)) → (List (List C)) → Option β) : Option β :=
  ZH (Zcm 1 a0_3) (ZH (([] : List (List C)).length + (a0_3.map (·.map C.d)).length ≤ Z6) (Z4 (spec_l4Copy.l0 k r_spec_l4Copy a0_0 a0_1 a0_2 a0_3 a0_4 0 (⟨#[]⟩ : ByteArray) 0 a0_0 a0_1 a0_2 (([] : List (List C)) ++ (a0_3.map (·.map C.d))) K) k (0, ([] : List (List C)))))
noncomputable def spec_l4Copy.w {β : Type} (r : Int → ByteArray → Int → (List (List D)) → (List (List D)) → Option (Int × ByteArray × Int × (List (List C)) × (List (List C)))) (a0_0 : Int) (a0_1 : ByteArray) (a0_2 : Int) (a0_3 : List (List D)) (a0_4 : List (List D)) (K : Int → ByteArray → Int → (List (List C)) → (List (List C)) → Option β) : Option β :=
  match r a0_0 a0_1 a0_2 a0_3 a0_4 with
  | some (z0, z1, z2, z3, z4) => K z0 z1 z2 z3 z4
  | none => none
noncomputable def spec_l4Copy.all : Nat → (Int → ByteArray → Int → (List (List D)) → (List (List D)) → Option (Int × ByteArray × Int × (List (List C)) × (List (List C))))
  | 0 => (fun _ _ _ _ _ => none)
  | k + 1 => (fun r => (fun a0_0 a0_1 a0_2 a0_3 a0_4 => spec_l4Copy.body k (spec_l4Copy.w r) a0_0 a0_1 a0_2 a0_3 a0_4 (fun z0 z1 z2 z3 z4 => some (z0, z1, z2, z3, z4)))) (spec_l4Copy.all k)
noncomputable def spec_l4Copy.t (k : Nat) (a0_0 : Int) (a0_1 : ByteArray) (a0_2 : Int) (a0_3 : List (List D)) (a0_4 : List (List D)) : Option (Int × ByteArray × Int × (List (List C)) × (List (List C))) := (spec_l4Copy.all k) a0_0 a0_1 a0_2 a0_3 a0_4
noncomputable def spec_l4Copy.f {β : Type} (k : Nat) (a0_0 : Int) (a0_1 : ByteArray) (a0_2 : Int) (a0_3 : List (List D)) (a0_4 : List (List D)) (K : Int → ByteArray → Int → (List (List C)) → (List (List C)) → Option β) : Option β := spec_l4Copy.w (spec_l4Copy.t k) a0_0 a0_1 a0_2 a0_3 a0_4 K
noncomputable def spec_l4Copy.g {β : Type} (k : Nat) (a0_0 : Int) (a0_1 : ByteArray) (a0_2 : Int) (a0_3 : List (List D)) (a0_4 : List (List D)) (K : Int → ByteArray → Int → (List (List C)) → (List (List C)) → Option β) : Option β := spec_l4Copy.body k (spec_l4Copy.f k) a0_0 a0_1 a0_2 a0_3 a0_4 K
theorem spec_l4Copy.t_zero (a0_0 : Int) (a0_1 : ByteArray) (a0_2 : Int) (a0_3 : List (List D)) (a0_4 : List (List D)) : spec_l4Copy.t 0 a0_0 a0_1 a0_2 a0_3 a0_4 = none := rfl
theorem spec_l4Copy.t_succ (k : Nat) (a0_0 : Int) (a0_1 : ByteArray) (a0_2 : Int) (a0_3 : List (List D)) (a0_4 : List (List D)) : spec_l4Copy.t (k + 1) a0_0 a0_1 a0_2 a0_3 a0_4 = spec_l4Copy.g k a0_0 a0_1 a0_2 a0_3 a0_4 (fun z0 z1 z2 z3 z4 => some (z0, z1, z2, z3, z4)) := rfl
noncomputable def spec_l4Copy.as (a0_0 : Int) (a0_1 : ByteArray) (a0_2 : Int) (a0_3 : List (List D)) (a0_4 : List (List D)) : List A := [.agg [.int .i64 a0_0, .str a0_1, .int .i64 a0_2, .sl a0_3, .sl a0_4]]
noncomputable def spec_l4Copy.kt {β : Type} (a0_0 : Int) (a0_1 : ByteArray) (a0_2 : Int) (a0_3 : List (List D)) (a0_4 : List (List D)) (K0 : List (List C) → List Out → Option β) : Int → ByteArray → Int → (List (List C)) → (List (List C)) → Option β := fun z0 z1 z2 z3 z4 => K0 [[.d (.int .i64 z0), .d (.str z1), .d (.int .i64 z2), .own z3, .own z4]] []
noncomputable def spec_l4Copy.e (k : Nat) : ZQ := { modes := [(.imm, 0)], rts := [151], al := false, run := fun {β} l K => match l with | [.agg [.int .i64 a0_0, .str a0_1, .int .i64 a0_2, .sl a0_3, .sl a0_4]] => spec_l4Copy.f k a0_0 a0_1 a0_2 a0_3 a0_4 (spec_l4Copy.kt a0_0 a0_1 a0_2 a0_3 a0_4 K) | _ => none }
noncomputable def spec_l4Copy.E (k : Nat) : Env := fun g => bif g == 181 then some (spec_l4Copy.e k) else none
noncomputable def spec_l4Copy.h : ZY := ⟨fun n => bif n == 3 then ⟨[(1, .asis), (2, .asis), (3, .asis), (4, .asis)], [(3, 4, .row true 149)]⟩ else ⟨[], []⟩, fun _ => none, false, []⟩
noncomputable def spec_l4Copy.s0 (v0_1 : Int) (v0_2 : ByteArray) (v0_3 : Int) (v0_4 : List (List D)) (v0_5 : List (List D)) (v0_6 : Int) (v0_7 : ByteArray) (v0_8 : Int) (v0_9 : Int) (v0_10 : ByteArray) (v0_11 : Int) (v0_12 : List (List C)) (v : Int × (List (List C))) : St :=
  match v with
  | (v0_0, v0_13) => ⟨[.any, .bp 0 0, .bp 1 0, .bp 2 0, .d true (.int .i64 v0_0), .any, .any, .any, .any, .any, .any, .any, .any, .any, .any, .any, .any, .any, .any, .any, .any, .any, .any, .any, .any, .any, .any, .any, .any, .any, .any, .any, .any, .any, .any], [.box none 151 [.d false (.int .i64 v0_1), .d false (.str v0_2), .d false (.int .i64 v0_3), .d false (.sl v0_4), .d false (.sl v0_5)], .box none 151 [.d true (.int .i64 v0_6), .d true (.str v0_7), .d true (.int .i64 v0_8), .nil, .nil], .box none 151 [.d false (.int .i64 v0_9), .d false (.str v0_10), .d false (.int .i64 v0_11), .row 3, .row 4], .row none true 25 v0_12, .row none true 149 v0_13]⟩
noncomputable def spec_l4Copy.b0 {β : Type} (k : Nat) : St → (Ex → St → Option β) → Option β := fun s K => den Try.prog (spec_l4Copy.E k) spec_l4Copy.h.H spec_l4Copy.h.J k (Zad [1, 1, 0, 1, 0, 0] (Zl Try.f181)) s K
noncomputable def spec_l4Copy.c0 {β : Type} (k : Nat) (a0_0 : Int) (a0_1 : ByteArray) (a0_2 : Int) (a0_3 : List (List D)) (a0_4 : List (List D)) (K0 : List (List C) → List Out → Option β) : Ex → St → Option β := Zae Try.prog (spec_l4Copy.E k) spec_l4Copy.h k [1, 1, 0, 1, 0] (Zl Try.f181) (Zak Try.prog Try.f181 spec_l4Copy.h (spec_l4Copy.as a0_0 a0_1 a0_2 a0_3 a0_4) K0)
theorem spec_l4Copy.l0_eq {β : Type} (k : Nat) (a0_0 : Int) (a0_1 : ByteArray) (a0_2 : Int) (a0_3 : List (List D)) (a0_4 : List (List D)) (K0 : List (List C) → List Out → Option β) (v0_1 : Int) (v0_2 : ByteArray) (v0_3 : Int) (v0_4 : List (List D)) (v0_5 : List (List D)) (v0_6 : Int) (v0_7 : ByteArray) (v0_8 : Int) (v0_9 : Int) (v0_10 : ByteArray) (v0_11 : Int) (v0_12 : List (List C)) : ∀ (kk : Nat) (v : Int × (List (List C))), Zx (spec_l4Copy.b0 k) (spec_l4Copy.h.H 3) kk (spec_l4Copy.s0 v0_1 v0_2 v0_3 v0_4 v0_5 v0_6 v0_7 v0_8 v0_9 v0_10 v0_11 v0_12 v) (spec_l4Copy.c0 k a0_0 a0_1 a0_2 a0_3 a0_4 K0) = Z4 (spec_l4Copy.l0 k (spec_l4Copy.f k) v0_1 v0_2 v0_3 v0_4 v0_5 v0_6 v0_7 v0_8 v0_9 v0_10 v0_11 v0_12 (spec_l4Copy.kt a0_0 a0_1 a0_2 a0_3 a0_4 K0)) kk v :=
  Z9 (spec_l4Copy.s0 v0_1 v0_2 v0_3 v0_4 v0_5 v0_6 v0_7 v0_8 v0_9 v0_10 v0_11 v0_12) _ (fun L0 v => by obtain ⟨v0_0, v0_13⟩ := v; kernel_rfl)
noncomputable def spec_l4Copy.m {β : Type} (k : Nat) (a0_0 : Int) (a0_1 : ByteArray) (a0_2 : Int) (a0_3 : List (List D)) (a0_4 : List (List D)) (K0 : List (List C) → List Out → Option β) (F : (Int → ByteArray → Int → (List (List D)) → (List (List D)) → Int → ByteArray → Int → Int → ByteArray → Int → (List (List C)) → (Int × (List (List C))) → Option β)) : Option β :=
  ZH (Zcm 1 a0_3) (ZH (([] : List (List C)).length + (a0_3.map (·.map C.d)).length ≤ Z6) ((F) a0_0 a0_1 a0_2 a0_3 a0_4 0 (⟨#[]⟩ : ByteArray) 0 a0_0 a0_1 a0_2 (([] : List (List C)) ++ (a0_3.map (·.map C.d))) (0, ([] : List (List C)))))
theorem spec_l4Copy.f_eq {β : Type} (k : Nat) (a0_0 : Int) (a0_1 : ByteArray) (a0_2 : Int) (a0_3 : List (List D)) (a0_4 : List (List D)) (K0 : List (List C) → List Out → Option β) : ZJ Try.prog (spec_l4Copy.E k) spec_l4Copy.h k Try.f181 (spec_l4Copy.as a0_0 a0_1 a0_2 a0_3 a0_4) K0 = spec_l4Copy.g k a0_0 a0_1 a0_2 a0_3 a0_4 (spec_l4Copy.kt a0_0 a0_1 a0_2 a0_3 a0_4 K0) := Eq.trans (b := (spec_l4Copy.m k a0_0 a0_1 a0_2 a0_3 a0_4 K0) (fun (v0_1 : Int) (v0_2 : ByteArray) (v0_3 : Int) (v0_4 : List (List D)) (v0_5 : List (List D)) (v0_6 : Int) (v0_7 : ByteArray) (v0_8 : Int) (v0_9 : Int) (v0_10 : ByteArray) (v0_11 : Int) (v0_12 : List (List C)) (v : Int × (List (List C))) => Zx (spec_l4Copy.b0 k) (spec_l4Copy.h.H 3) k (spec_l4Copy.s0 v0_1 v0_2 v0_3 v0_4 v0_5 v0_6 v0_7 v0_8 v0_9 v0_10 v0_11 v0_12 v) (spec_l4Copy.c0 k a0_0 a0_1 a0_2 a0_3 a0_4 K0))) (by kernel_rfl) (Eq.trans (congrArg (spec_l4Copy.m k a0_0 a0_1 a0_2 a0_3 a0_4 K0) (funext fun v0_1 => funext fun v0_2 => funext fun v0_3 => funext fun v0_4 => funext fun v0_5 => funext fun v0_6 => funext fun v0_7 => funext fun v0_8 => funext fun v0_9 => funext fun v0_10 => funext fun v0_11 => funext fun v0_12 => funext fun v => spec_l4Copy.l0_eq k a0_0 a0_1 a0_2 a0_3 a0_4 K0 v0_1 v0_2 v0_3 v0_4 v0_5 v0_6 v0_7 v0_8 v0_9 v0_10 v0_11 v0_12 k v)) (by kernel_rfl))
noncomputable def spec_l4Copy.dec (rs : List (List C)) (os : List Out) : Option (Int × ByteArray × Int × (List (List C)) × (List (List C))) := Zd rs fun c1 r2 => Zd c1 fun x3 l4 => cD x3 fun d5 => ZM .i64 d5 fun w0 => Zd l4 fun x6 l7 => cD x6 fun d8 => Zan d8 fun w1 => Zd l7 fun x9 l10 => cD x9 fun d11 => ZM .i64 d11 fun w2 => Zd l10 fun x12 l13 => ZaU x12 fun w3 => Zd l13 fun x14 l15 => ZaU x14 fun w4 => Ze l15 <| Ze r2 <| Ze os (some (w0, w1, w2, w3, w4))
theorem spec_l4Copy.kt_dec (a0_0 : Int) (a0_1 : ByteArray) (a0_2 : Int) (a0_3 : List (List D)) (a0_4 : List (List D)) : spec_l4Copy.kt a0_0 a0_1 a0_2 a0_3 a0_4 spec_l4Copy.dec = (fun z0 z1 z2 z3 z4 => some (z0, z1, z2, z3, z4)) := by kernel_rfl
theorem spec_l4Copy.inj (a0_0 : Int) (a0_1 : ByteArray) (a0_2 : Int) (a0_3 : List (List D)) (a0_4 : List (List D)) {rs : List (List C)} {os : List Out} {z0 : Int} {z1 : ByteArray} {z2 : Int} {z3 : List (List C)} {z4 : List (List C)} (h : spec_l4Copy.dec rs os = some (z0, z1, z2, z3, z4)) (ho : Zo (spec_l4Copy.as a0_0 a0_1 a0_2 a0_3 a0_4) os) : rs = [[.d (.int .i64 z0), .d (.str z1), .d (.int .i64 z2), .own z3, .own z4]] ∧ os = [] := by
  unfold spec_l4Copy.dec at h
  obtain ⟨c1, r2, rfl, h1⟩ := Zb h
  obtain ⟨x3, l4, rfl, h2⟩ := Zb h1
  obtain ⟨d5, rfl, h3⟩ := Zt h2
  obtain ⟨w0, rfl, h4⟩ := ZA h3
  obtain ⟨x6, l7, rfl, h5⟩ := Zb h4
  obtain ⟨d8, rfl, h6⟩ := Zt h5
  obtain ⟨w1, rfl, h7⟩ := ZaL h6
  obtain ⟨x9, l10, rfl, h8⟩ := Zb h7
  obtain ⟨d11, rfl, h9⟩ := Zt h8
  obtain ⟨w2, rfl, h10⟩ := ZA h9
  obtain ⟨x12, l13, rfl, h11⟩ := Zb h10
  obtain ⟨w3, rfl, h12⟩ := ZN h11
  obtain ⟨x14, l15, rfl, h13⟩ := Zb h12
  obtain ⟨w4, rfl, h14⟩ := ZN h13
  obtain ⟨rfl, h15⟩ := Zc h14
  obtain ⟨rfl, h16⟩ := Zc h15
  obtain ⟨rfl, h17⟩ := Zc h16
  simp only [Option.some.injEq, Prod.mk.injEq] at h17
  obtain ⟨rfl, rfl, rfl, rfl, rfl⟩ := h17
  exact ⟨rfl, rfl⟩
theorem spec_l4Copy.oks (k : Nat) : Zv Try.prog 181 (spec_l4Copy.e k) := by
  induction k with
  | zero =>
    refine ?_
    · exact Zb1 (Zq Try.func181 (by kernel_rfl)) fun β l K r h => by
        simp only [spec_l4Copy.e] at h
        split at h
        · unfold spec_l4Copy.f at h
          unfold spec_l4Copy.w at h
          rw [spec_l4Copy.t_zero] at h
          cases h
        · cases h
  | succ k ih =>
    refine ?_
    · refine Zu mix tyok (fn := Try.f181) (c := Zl Try.f181) Try.func181 (by kernel_rfl) (h := spec_l4Copy.h) (k := k) (E := spec_l4Copy.E k) (Zk ih Zz) (by kernel_rfl) (by kernel_rfl) rfl (Zq Try.func181 (by kernel_rfl)) ?_
      intro β l K r hr
      simp only [spec_l4Copy.e] at hr
      split at hr
      case h_2 => cases hr
      unfold spec_l4Copy.f at hr
      unfold spec_l4Copy.w at hr
      split at hr
      case h_2 => cases hr
      rename_i hz
      exact ⟨_, _, hr, _, spec_l4Copy.dec, _, (spec_l4Copy.f_eq k _ _ _ _ _ spec_l4Copy.dec).trans (by rw [spec_l4Copy.kt_dec]; exact hz), fun rs os h ho => spec_l4Copy.inj _ _ _ _ _ h ho⟩
theorem spec_l4Copy.ok (k : Nat) : Zv Try.prog 181 (spec_l4Copy.e k) := (spec_l4Copy.oks k)
noncomputable def spec_l12Works.l0 {β : Type} (k : Nat) (v0_0 : List (List D)) (K : (List (List C)) → Option β) (L0 : (Int × (List (List C))) → Option β) (v : Int × (List (List C))) : Option β :=
  match v with
  | (v0_1, v0_2) => bif (decide ((v0_1 : Int) < (v0_0.length : Int))) then (ZX v0_0 v0_1 fun c72 => Zd c72 fun d73 r74 => ZM .i64 d73 fun x75 => Zd r74 fun d76 r77 => ZM .i64 d76 fun x78 => Zd r77 fun d79 r80 => ZM .i64 d79 fun x81 => Zd r80 fun d82 r83 => Zan d82 fun x84 => Zd r83 fun d85 r86 => ZM .i64 d85 fun x87 => Zd r86 fun d88 r89 => dSl d88 fun x90 => Zd r89 fun d91 r92 => dSl d91 fun x93 => Ze r92 (ZX v0_0 v0_1 fun c94 => Zd c94 fun d95 r96 => ZM .i64 d95 fun x97 => Zd r96 fun d98 r99 => ZM .i64 d98 fun x100 => Zd r99 fun d101 r102 => ZM .i64 d101 fun x103 => Zd r102 fun d104 r105 => Zan d104 fun x106 => Zd r105 fun d107 r108 => ZM .i64 d107 fun x109 => Zd r108 fun d110 r111 => dSl d110 fun x112 => Zd r111 fun d113 r114 => dSl d113 fun x115 => Ze r114 (ZX v0_0 v0_1 fun c116 => Zd c116 fun d117 r118 => ZM .i64 d117 fun x119 => Zd r118 fun d120 r121 => ZM .i64 d120 fun x122 => Zd r121 fun d123 r124 => ZM .i64 d123 fun x125 => Zd r124 fun d126 r127 => Zan d126 fun x128 => Zd r127 fun d129 r130 => ZM .i64 d129 fun x131 => Zd r130 fun d132 r133 => dSl d132 fun x134 => Zd r133 fun d135 r136 => dSl d135 fun x137 => Ze r136 (spec_l4Copy.f k x125 x128 x131 x134 x137 (fun y138 y139 y140 y141 y142 => ZH (v0_2.length + ([[.d (.int .i64 x75), .d (.int .i64 x100), .d (.int .i64 y138), .d (.str y139), .d (.int .i64 y140), .own y141, .own y142]] : List (List C)).length ≤ Z6) (L0 (IntKind.wrap .i64 (v0_1 + 1), v0_2 ++ ([[.d (.int .i64 x75), .d (.int .i64 x100), .d (.int .i64 y138), .d (.str y139), .d (.int .i64 y140), .own y141, .own y142]] : List (List C))))))))) else (K v0_2)
noncomputable def spec_l12Works.g {β : Type} (k : Nat) (a0 : List (List D)) (K : (List (List C)) → Option β) : Option β :=
  Z4 (spec_l12Works.l0 k a0 K) k (0, ([] : List (List C)))
noncomputable def spec_l12Works.t (k : Nat) (a0 : List (List D)) : Option ((List (List C))) := spec_l12Works.g k a0 (fun z0 => some z0)
noncomputable def spec_l12Works.f {β : Type} (k : Nat) (a0 : List (List D)) (K : (List (List C)) → Option β) : Option β :=
  match spec_l12Works.t k a0 with
  | some z0 => K z0
  | none => none
noncomputable def spec_l12Works.as (a0 : List (List D)) : List A := [.d (.sl a0)]
noncomputable def spec_l12Works.kt {β : Type} (a0 : List (List D)) (K0 : List (List C) → List Out → Option β) : (List (List C)) → Option β := fun z0 => K0 [[.own z0]] []
noncomputable def spec_l12Works.e (k : Nat) : ZQ := { modes := [(.imm, 0)], rts := [59], al := false, run := fun {β} l K => match l with | [.d (.sl a0)] => spec_l12Works.f k a0 (spec_l12Works.kt a0 K) | _ => none }
noncomputable def spec_l12Works.E (k : Nat) : Env := fun g => bif g == 181 then some (spec_l4Copy.e k) else none
noncomputable def spec_l12Works.h : ZY := ⟨fun n => bif n == 3 then ⟨[(0, .asis), (3, .asis), (4, .asis)], []⟩ else ⟨[], []⟩, fun _ => none, false, []⟩
noncomputable def spec_l12Works.s0 (v0_0 : List (List D)) (v : Int × (List (List C))) : St :=
  match v with
  | (v0_1, v0_2) => ⟨[.d false (.sl v0_0), .any, .any, .row 0, .d true (.int .i64 v0_1), .any, .any, .any, .any, .any, .any, .any, .any, .any, .any, .any, .any, .any, .any, .any, .any, .any, .any, .any, .any, .any, .any, .any, .any, .any, .any, .any, .any], [.row none true 59 v0_2]⟩
noncomputable def spec_l12Works.b0 {β : Type} (k : Nat) : St → (Ex → St → Option β) → Option β := fun s K => den Try.prog (spec_l12Works.E k) spec_l12Works.h.H spec_l12Works.h.J k (Zad [1, 1, 0, 1, 0, 0] (Zl Try.f105)) s K
noncomputable def spec_l12Works.c0 {β : Type} (k : Nat) (a0 : List (List D)) (K0 : List (List C) → List Out → Option β) : Ex → St → Option β := Zae Try.prog (spec_l12Works.E k) spec_l12Works.h k [1, 1, 0, 1, 0] (Zl Try.f105) (Zak Try.prog Try.f105 spec_l12Works.h (spec_l12Works.as a0) K0)
theorem spec_l12Works.l0_eq {β : Type} (k : Nat) (a0 : List (List D)) (K0 : List (List C) → List Out → Option β) (v0_0 : List (List D)) : ∀ (kk : Nat) (v : Int × (List (List C))), Zx (spec_l12Works.b0 k) (spec_l12Works.h.H 3) kk (spec_l12Works.s0 v0_0 v) (spec_l12Works.c0 k a0 K0) = Z4 (spec_l12Works.l0 k v0_0 (spec_l12Works.kt a0 K0)) kk v :=
  Z9 (spec_l12Works.s0 v0_0) _ (fun L0 v => by obtain ⟨v0_1, v0_2⟩ := v; kernel_rfl)
noncomputable def spec_l12Works.m {β : Type} (k : Nat) (a0 : List (List D)) (K0 : List (List C) → List Out → Option β) (F : ((List (List D)) → (Int × (List (List C))) → Option β)) : Option β :=
  (F) a0 (0, ([] : List (List C)))
theorem spec_l12Works.f_eq {β : Type} (k : Nat) (a0 : List (List D)) (K0 : List (List C) → List Out → Option β) : ZJ Try.prog (spec_l12Works.E k) spec_l12Works.h k Try.f105 (spec_l12Works.as a0) K0 = spec_l12Works.g k a0 (spec_l12Works.kt a0 K0) := Eq.trans (b := (spec_l12Works.m k a0 K0) (fun (v0_0 : List (List D)) (v : Int × (List (List C))) => Zx (spec_l12Works.b0 k) (spec_l12Works.h.H 3) k (spec_l12Works.s0 v0_0 v) (spec_l12Works.c0 k a0 K0))) (by kernel_rfl) (Eq.trans (congrArg (spec_l12Works.m k a0 K0) (funext fun v0_0 => funext fun v => spec_l12Works.l0_eq k a0 K0 v0_0 k v)) (by kernel_rfl))
noncomputable def spec_l12Works.dec (rs : List (List C)) (os : List Out) : Option ((List (List C))) := Zd rs fun c1 r2 => Zd c1 fun x3 l4 => ZaU x3 fun w0 => Ze l4 <| Ze r2 <| Ze os (some w0)
theorem spec_l12Works.kt_dec (a0 : List (List D)) : spec_l12Works.kt a0 spec_l12Works.dec = (fun z0 => some z0) := by kernel_rfl
theorem spec_l12Works.inj (a0 : List (List D)) {rs : List (List C)} {os : List Out} {z0 : List (List C)} (h : spec_l12Works.dec rs os = some z0) (ho : Zo (spec_l12Works.as a0) os) : rs = [[.own z0]] ∧ os = [] := by
  unfold spec_l12Works.dec at h
  obtain ⟨c1, r2, rfl, h1⟩ := Zb h
  obtain ⟨x3, l4, rfl, h2⟩ := Zb h1
  obtain ⟨w0, rfl, h3⟩ := ZN h2
  obtain ⟨rfl, h4⟩ := Zc h3
  obtain ⟨rfl, h5⟩ := Zc h4
  obtain ⟨rfl, h6⟩ := Zc h5
  obtain rfl := Option.some.inj h6
  exact ⟨rfl, rfl⟩
theorem spec_l12Works.ok (k : Nat) : Zv Try.prog 105 (spec_l12Works.e k) := by
  refine Zu mix tyok (fn := Try.f105) (c := Zl Try.f105) Try.func105 (by kernel_rfl) (h := spec_l12Works.h) (k := k) (E := spec_l12Works.E k) (Zk (spec_l4Copy.ok k) Zz) (by kernel_rfl) (by kernel_rfl) rfl (Zq Try.func105 (by kernel_rfl)) ?_
  intro β l K r hr
  simp only [spec_l12Works.e] at hr
  split at hr
  case h_2 => cases hr
  unfold spec_l12Works.f at hr
  split at hr
  case h_2 => cases hr
  rename_i hz
  exact ⟨_, _, hr, _, spec_l12Works.dec, _, (spec_l12Works.f_eq k _ spec_l12Works.dec).trans (by rw [spec_l12Works.kt_dec]; exact hz), fun rs os h ho => spec_l12Works.inj _ h ho⟩
noncomputable def spec_l13Copy.g {β : Type} (k : Nat) (a0_0 : ByteArray) (a0_1 : Int) (a0_2 : Int) (a0_3 : List (List D)) (a0_4 : List (List D)) (K : ByteArray → Int → Int → (List (List C)) → (List (List C)) → Option β) : Option β :=
  spec_l12Works.f k a0_3 (fun y143 => ZH (Zcm 2 a0_4) (ZH (([] : List (List C)).length + (a0_4.map (·.map C.d)).length ≤ Z6) (K a0_0 a0_1 a0_2 y143 (([] : List (List C)) ++ (a0_4.map (·.map C.d))))))
noncomputable def spec_l13Copy.t (k : Nat) (a0_0 : ByteArray) (a0_1 : Int) (a0_2 : Int) (a0_3 : List (List D)) (a0_4 : List (List D)) : Option (ByteArray × Int × Int × (List (List C)) × (List (List C))) := spec_l13Copy.g k a0_0 a0_1 a0_2 a0_3 a0_4 (fun z0 z1 z2 z3 z4 => some (z0, z1, z2, z3, z4))
noncomputable def spec_l13Copy.f {β : Type} (k : Nat) (a0_0 : ByteArray) (a0_1 : Int) (a0_2 : Int) (a0_3 : List (List D)) (a0_4 : List (List D)) (K : ByteArray → Int → Int → (List (List C)) → (List (List C)) → Option β) : Option β :=
  match spec_l13Copy.t k a0_0 a0_1 a0_2 a0_3 a0_4 with
  | some (z0, z1, z2, z3, z4) => K z0 z1 z2 z3 z4
  | none => none
noncomputable def spec_l13Copy.as (a0_0 : ByteArray) (a0_1 : Int) (a0_2 : Int) (a0_3 : List (List D)) (a0_4 : List (List D)) : List A := [.agg [.str a0_0, .int .i64 a0_1, .int .i64 a0_2, .sl a0_3, .sl a0_4]]
noncomputable def spec_l13Copy.kt {β : Type} (a0_0 : ByteArray) (a0_1 : Int) (a0_2 : Int) (a0_3 : List (List D)) (a0_4 : List (List D)) (K0 : List (List C) → List Out → Option β) : ByteArray → Int → Int → (List (List C)) → (List (List C)) → Option β := fun z0 z1 z2 z3 z4 => K0 [[.d (.str z0), .d (.int .i64 z1), .d (.int .i64 z2), .own z3, .own z4]] []
noncomputable def spec_l13Copy.e (k : Nat) : ZQ := { modes := [(.imm, 0)], rts := [62], al := false, run := fun {β} l K => match l with | [.agg [.str a0_0, .int .i64 a0_1, .int .i64 a0_2, .sl a0_3, .sl a0_4]] => spec_l13Copy.f k a0_0 a0_1 a0_2 a0_3 a0_4 (spec_l13Copy.kt a0_0 a0_1 a0_2 a0_3 a0_4 K) | _ => none }
noncomputable def spec_l13Copy.E (k : Nat) : Env := fun g => bif g == 105 then some (spec_l12Works.e k) else none
noncomputable def spec_l13Copy.h : ZY := ⟨fun n => ⟨[], []⟩, fun _ => none, false, []⟩
theorem spec_l13Copy.f_eq {β : Type} (k : Nat) (a0_0 : ByteArray) (a0_1 : Int) (a0_2 : Int) (a0_3 : List (List D)) (a0_4 : List (List D)) (K0 : List (List C) → List Out → Option β) : ZJ Try.prog (spec_l13Copy.E k) spec_l13Copy.h k Try.f102 (spec_l13Copy.as a0_0 a0_1 a0_2 a0_3 a0_4) K0 = spec_l13Copy.g k a0_0 a0_1 a0_2 a0_3 a0_4 (spec_l13Copy.kt a0_0 a0_1 a0_2 a0_3 a0_4 K0) := by kernel_rfl
noncomputable def spec_l13Copy.dec (rs : List (List C)) (os : List Out) : Option (ByteArray × Int × Int × (List (List C)) × (List (List C))) := Zd rs fun c1 r2 => Zd c1 fun x3 l4 => cD x3 fun d5 => Zan d5 fun w0 => Zd l4 fun x6 l7 => cD x6 fun d8 => ZM .i64 d8 fun w1 => Zd l7 fun x9 l10 => cD x9 fun d11 => ZM .i64 d11 fun w2 => Zd l10 fun x12 l13 => ZaU x12 fun w3 => Zd l13 fun x14 l15 => ZaU x14 fun w4 => Ze l15 <| Ze r2 <| Ze os (some (w0, w1, w2, w3, w4))
theorem spec_l13Copy.kt_dec (a0_0 : ByteArray) (a0_1 : Int) (a0_2 : Int) (a0_3 : List (List D)) (a0_4 : List (List D)) : spec_l13Copy.kt a0_0 a0_1 a0_2 a0_3 a0_4 spec_l13Copy.dec = (fun z0 z1 z2 z3 z4 => some (z0, z1, z2, z3, z4)) := by kernel_rfl
theorem spec_l13Copy.inj (a0_0 : ByteArray) (a0_1 : Int) (a0_2 : Int) (a0_3 : List (List D)) (a0_4 : List (List D)) {rs : List (List C)} {os : List Out} {z0 : ByteArray} {z1 : Int} {z2 : Int} {z3 : List (List C)} {z4 : List (List C)} (h : spec_l13Copy.dec rs os = some (z0, z1, z2, z3, z4)) (ho : Zo (spec_l13Copy.as a0_0 a0_1 a0_2 a0_3 a0_4) os) : rs = [[.d (.str z0), .d (.int .i64 z1), .d (.int .i64 z2), .own z3, .own z4]] ∧ os = [] := by
  unfold spec_l13Copy.dec at h
  obtain ⟨c1, r2, rfl, h1⟩ := Zb h
  obtain ⟨x3, l4, rfl, h2⟩ := Zb h1
  obtain ⟨d5, rfl, h3⟩ := Zt h2
  obtain ⟨w0, rfl, h4⟩ := ZaL h3
  obtain ⟨x6, l7, rfl, h5⟩ := Zb h4
  obtain ⟨d8, rfl, h6⟩ := Zt h5
  obtain ⟨w1, rfl, h7⟩ := ZA h6
  obtain ⟨x9, l10, rfl, h8⟩ := Zb h7
  obtain ⟨d11, rfl, h9⟩ := Zt h8
  obtain ⟨w2, rfl, h10⟩ := ZA h9
  obtain ⟨x12, l13, rfl, h11⟩ := Zb h10
  obtain ⟨w3, rfl, h12⟩ := ZN h11
  obtain ⟨x14, l15, rfl, h13⟩ := Zb h12
  obtain ⟨w4, rfl, h14⟩ := ZN h13
  obtain ⟨rfl, h15⟩ := Zc h14
  obtain ⟨rfl, h16⟩ := Zc h15
  obtain ⟨rfl, h17⟩ := Zc h16
  simp only [Option.some.injEq, Prod.mk.injEq] at h17
  obtain ⟨rfl, rfl, rfl, rfl, rfl⟩ := h17
  exact ⟨rfl, rfl⟩
theorem spec_l13Copy.ok (k : Nat) : Zv Try.prog 102 (spec_l13Copy.e k) := by
  refine Zu mix tyok (fn := Try.f102) (c := Zl Try.f102) Try.func102 (by kernel_rfl) (h := spec_l13Copy.h) (k := k) (E := spec_l13Copy.E k) (Zk (spec_l12Works.ok k) Zz) (by kernel_rfl) (by kernel_rfl) rfl (Zq Try.func102 (by kernel_rfl)) ?_
  intro β l K r hr
  simp only [spec_l13Copy.e] at hr
  split at hr
  case h_2 => cases hr
  unfold spec_l13Copy.f at hr
  split at hr
  case h_2 => cases hr
  rename_i hz
  exact ⟨_, _, hr, _, spec_l13Copy.dec, _, (spec_l13Copy.f_eq k _ _ _ _ _ spec_l13Copy.dec).trans (by rw [spec_l13Copy.kt_dec]; exact hz), fun rs os h ho => spec_l13Copy.inj _ _ _ _ _ h ho⟩
noncomputable def spec_l1In.g {β : Type} (k : Nat) (a0 : Int) (a1 : Int) (a2 : Int) (K : Bool → Option β) : Option β :=
  bif (decide ((a0 : Int) ≥ a1)) then (K (decide ((a0 : Int) ≤ a2))) else (K false)
noncomputable def spec_l1In.t (k : Nat) (a0 : Int) (a1 : Int) (a2 : Int) : Option (Bool) := spec_l1In.g k a0 a1 a2 (fun z0 => some z0)
noncomputable def spec_l1In.f {β : Type} (k : Nat) (a0 : Int) (a1 : Int) (a2 : Int) (K : Bool → Option β) : Option β :=
  match spec_l1In.t k a0 a1 a2 with
  | some z0 => K z0
  | none => none
noncomputable def spec_l1In.as (a0 : Int) (a1 : Int) (a2 : Int) : List A := [.d (.int .i64 a0), .d (.int .i64 a1), .d (.int .i64 a2)]
noncomputable def spec_l1In.kt {β : Type} (a0 : Int) (a1 : Int) (a2 : Int) (K0 : List (List C) → List Out → Option β) : Bool → Option β := fun z0 => K0 [[.d (.bool z0)]] []
noncomputable def spec_l1In.e (k : Nat) : ZQ := { modes := [(.imm, 0), (.imm, 0), (.imm, 0)], rts := [4], al := false, run := fun {β} l K => match l with | [.d (.int .i64 a0), .d (.int .i64 a1), .d (.int .i64 a2)] => spec_l1In.f k a0 a1 a2 (spec_l1In.kt a0 a1 a2 K) | _ => none }
noncomputable def spec_l1In.E (k : Nat) : Env := fun g => none
noncomputable def spec_l1In.h : ZY := ⟨fun n => ⟨[], []⟩, fun _ => none, false, []⟩
theorem spec_l1In.f_eq {β : Type} (k : Nat) (a0 : Int) (a1 : Int) (a2 : Int) (K0 : List (List C) → List Out → Option β) : ZJ Try.prog (spec_l1In.E k) spec_l1In.h k Try.f123 (spec_l1In.as a0 a1 a2) K0 = spec_l1In.g k a0 a1 a2 (spec_l1In.kt a0 a1 a2 K0) := by kernel_rfl
noncomputable def spec_l1In.dec (rs : List (List C)) (os : List Out) : Option (Bool) := Zd rs fun c1 r2 => Zd c1 fun x3 l4 => cD x3 fun d5 => ZaF d5 fun w0 => Ze l4 <| Ze r2 <| Ze os (some w0)
theorem spec_l1In.kt_dec (a0 : Int) (a1 : Int) (a2 : Int) : spec_l1In.kt a0 a1 a2 spec_l1In.dec = (fun z0 => some z0) := by kernel_rfl
theorem spec_l1In.inj (a0 : Int) (a1 : Int) (a2 : Int) {rs : List (List C)} {os : List Out} {z0 : Bool} (h : spec_l1In.dec rs os = some z0) (ho : Zo (spec_l1In.as a0 a1 a2) os) : rs = [[.d (.bool z0)]] ∧ os = [] := by
  unfold spec_l1In.dec at h
  obtain ⟨c1, r2, rfl, h1⟩ := Zb h
  obtain ⟨x3, l4, rfl, h2⟩ := Zb h1
  obtain ⟨d5, rfl, h3⟩ := Zt h2
  obtain ⟨w0, rfl, h4⟩ := Z0 h3
  obtain ⟨rfl, h5⟩ := Zc h4
  obtain ⟨rfl, h6⟩ := Zc h5
  obtain ⟨rfl, h7⟩ := Zc h6
  obtain rfl := Option.some.inj h7
  exact ⟨rfl, rfl⟩
theorem spec_l1In.ok (k : Nat) : Zv Try.prog 123 (spec_l1In.e k) := by
  refine Zu mix tyok (fn := Try.f123) (c := Zl Try.f123) Try.func123 (by kernel_rfl) (h := spec_l1In.h) (k := k) (E := spec_l1In.E k) Zz (by kernel_rfl) (by kernel_rfl) rfl (Zq Try.func123 (by kernel_rfl)) ?_
  intro β l K r hr
  simp only [spec_l1In.e] at hr
  split at hr
  case h_2 => cases hr
  unfold spec_l1In.f at hr
  split at hr
  case h_2 => cases hr
  rename_i hz
  exact ⟨_, _, hr, _, spec_l1In.dec, _, (spec_l1In.f_eq k _ _ _ spec_l1In.dec).trans (by rw [spec_l1In.kt_dec]; exact hz), fun rs os h ho => spec_l1In.inj _ _ _ h ho⟩
noncomputable def spec_NameOk.l0 {β : Type} (k : Nat) (v0_0 : ByteArray) (K : Bool → Option β) (L0 : Int → Option β) (v : Int) : Option β :=
  match v with
  | v0_1 => bif (decide ((v0_1 : Int) < (v0_0.size : Int))) then (atStr v0_0 v0_1 fun b9 => spec_l1In.f k (IntKind.wrap .i64 b9) 97 122 (fun y10 => bif (!y10) then (atStr v0_0 v0_1 fun b11 => spec_l1In.f k (IntKind.wrap .i64 b11) 48 57 (fun y12 => bif (!y12) then (atStr v0_0 v0_1 fun b13 => bif ((b13 : Int) != 45) then (K false) else (L0 (IntKind.wrap .i64 (v0_1 + 1)))) else (L0 (IntKind.wrap .i64 (v0_1 + 1))))) else (L0 (IntKind.wrap .i64 (v0_1 + 1))))) else (spec_l1In.f k (v0_0.size : Int) 1 20 (fun y14 => bif y14 then (atStr v0_0 0 fun b15 => bif ((b15 : Int) != 45) then (atStr v0_0 (IntKind.wrap .i64 ((v0_0.size : Int) - 1)) fun b16 => K ((b16 : Int) != 45)) else (K false)) else (K false)))
noncomputable def spec_NameOk.g {β : Type} (k : Nat) (a0 : ByteArray) (K : Bool → Option β) : Option β :=
  Z4 (spec_NameOk.l0 k a0 K) k (0)
noncomputable def spec_NameOk.t (k : Nat) (a0 : ByteArray) : Option (Bool) := spec_NameOk.g k a0 (fun z0 => some z0)
noncomputable def spec_NameOk.f {β : Type} (k : Nat) (a0 : ByteArray) (K : Bool → Option β) : Option β :=
  match spec_NameOk.t k a0 with
  | some z0 => K z0
  | none => none
noncomputable def spec_NameOk.as (a0 : ByteArray) : List A := [.d (.str a0)]
noncomputable def spec_NameOk.kt {β : Type} (a0 : ByteArray) (K0 : List (List C) → List Out → Option β) : Bool → Option β := fun z0 => K0 [[.d (.bool z0)]] []
noncomputable def spec_NameOk.e (k : Nat) : ZQ := { modes := [(.imm, 0)], rts := [4], al := false, run := fun {β} l K => match l with | [.d (.str a0)] => spec_NameOk.f k a0 (spec_NameOk.kt a0 K) | _ => none }
noncomputable def spec_NameOk.E (k : Nat) : Env := fun g => bif g == 123 then some (spec_l1In.e k) else none
noncomputable def spec_NameOk.h : ZY := ⟨fun n => bif n == 2 then ⟨[(0, .asis), (3, .asis)], []⟩ else ⟨[], []⟩, fun _ => none, false, []⟩
noncomputable def spec_NameOk.s0 (v0_0 : ByteArray) (v : Int) : St :=
  match v with
  | v0_1 => ⟨[.d false (.str v0_0), .any, .any, .d true (.int .i64 v0_1), .any, .any, .any, .any, .any, .any, .any, .any, .any, .any, .any, .any, .any, .any, .any, .any, .any, .any, .any, .any, .any, .any, .any, .any, .any, .any, .any, .any, .any, .any, .any, .any, .any, .any, .any, .any, .any, .any, .any, .any, .any, .any], []⟩
noncomputable def spec_NameOk.b0 {β : Type} (k : Nat) : St → (Ex → St → Option β) → Option β := fun s K => den Try.prog (spec_NameOk.E k) spec_NameOk.h.H spec_NameOk.h.J k (Zad [1, 0, 1, 0, 0] (Zl Try.f94)) s K
noncomputable def spec_NameOk.c0 {β : Type} (k : Nat) (a0 : ByteArray) (K0 : List (List C) → List Out → Option β) : Ex → St → Option β := Zae Try.prog (spec_NameOk.E k) spec_NameOk.h k [1, 0, 1, 0] (Zl Try.f94) (Zak Try.prog Try.f94 spec_NameOk.h (spec_NameOk.as a0) K0)
theorem spec_NameOk.l0_eq {β : Type} (k : Nat) (a0 : ByteArray) (K0 : List (List C) → List Out → Option β) (v0_0 : ByteArray) : ∀ (kk : Nat) (v : Int), Zx (spec_NameOk.b0 k) (spec_NameOk.h.H 2) kk (spec_NameOk.s0 v0_0 v) (spec_NameOk.c0 k a0 K0) = Z4 (spec_NameOk.l0 k v0_0 (spec_NameOk.kt a0 K0)) kk v :=
  Z9 (spec_NameOk.s0 v0_0) _ (fun L0 v => by kernel_rfl)
noncomputable def spec_NameOk.m {β : Type} (k : Nat) (a0 : ByteArray) (K0 : List (List C) → List Out → Option β) (F : (ByteArray → Int → Option β)) : Option β :=
  (F) a0 (0)
theorem spec_NameOk.f_eq {β : Type} (k : Nat) (a0 : ByteArray) (K0 : List (List C) → List Out → Option β) : ZJ Try.prog (spec_NameOk.E k) spec_NameOk.h k Try.f94 (spec_NameOk.as a0) K0 = spec_NameOk.g k a0 (spec_NameOk.kt a0 K0) := Eq.trans (b := (spec_NameOk.m k a0 K0) (fun (v0_0 : ByteArray) (v : Int) => Zx (spec_NameOk.b0 k) (spec_NameOk.h.H 2) k (spec_NameOk.s0 v0_0 v) (spec_NameOk.c0 k a0 K0))) (by kernel_rfl) (Eq.trans (congrArg (spec_NameOk.m k a0 K0) (funext fun v0_0 => funext fun v => spec_NameOk.l0_eq k a0 K0 v0_0 k v)) (by kernel_rfl))
noncomputable def spec_NameOk.dec (rs : List (List C)) (os : List Out) : Option (Bool) := Zd rs fun c1 r2 => Zd c1 fun x3 l4 => cD x3 fun d5 => ZaF d5 fun w0 => Ze l4 <| Ze r2 <| Ze os (some w0)
theorem spec_NameOk.kt_dec (a0 : ByteArray) : spec_NameOk.kt a0 spec_NameOk.dec = (fun z0 => some z0) := by kernel_rfl
theorem spec_NameOk.inj (a0 : ByteArray) {rs : List (List C)} {os : List Out} {z0 : Bool} (h : spec_NameOk.dec rs os = some z0) (ho : Zo (spec_NameOk.as a0) os) : rs = [[.d (.bool z0)]] ∧ os = [] := by
  unfold spec_NameOk.dec at h
  obtain ⟨c1, r2, rfl, h1⟩ := Zb h
  obtain ⟨x3, l4, rfl, h2⟩ := Zb h1
  obtain ⟨d5, rfl, h3⟩ := Zt h2
  obtain ⟨w0, rfl, h4⟩ := Z0 h3
  obtain ⟨rfl, h5⟩ := Zc h4
  obtain ⟨rfl, h6⟩ := Zc h5
  obtain ⟨rfl, h7⟩ := Zc h6
  obtain rfl := Option.some.inj h7
  exact ⟨rfl, rfl⟩
theorem spec_NameOk.ok (k : Nat) : Zv Try.prog 94 (spec_NameOk.e k) := by
  refine Zu mix tyok (fn := Try.f94) (c := Zl Try.f94) Try.func94 (by kernel_rfl) (h := spec_NameOk.h) (k := k) (E := spec_NameOk.E k) (Zk (spec_l1In.ok k) Zz) (by kernel_rfl) (by kernel_rfl) rfl (Zq Try.func94 (by kernel_rfl)) ?_
  intro β l K r hr
  simp only [spec_NameOk.e] at hr
  split at hr
  case h_2 => cases hr
  unfold spec_NameOk.f at hr
  split at hr
  case h_2 => cases hr
  rename_i hz
  exact ⟨_, _, hr, _, spec_NameOk.dec, _, (spec_NameOk.f_eq k _ spec_NameOk.dec).trans (by rw [spec_NameOk.kt_dec]; exact hz), fun rs os h ho => spec_NameOk.inj _ h ho⟩
noncomputable def spec_l4Text.l0 {β : Type} (k : Nat) (v0_0 : ByteArray) (K : Bool → Option β) (L0 : Int → Option β) (v : Int) : Option β :=
  match v with
  | v0_1 => bif (decide ((v0_1 : Int) < (v0_0.size : Int))) then (atStr v0_0 v0_1 fun b3 => spec_l1In.f k (IntKind.wrap .i64 b3) 32 126 (fun y4 => bif (!y4) then (K false) else (L0 (IntKind.wrap .i64 (v0_1 + 1))))) else (K (decide (((v0_0.size : Int) : Int) ≤ 100)))
noncomputable def spec_l4Text.g {β : Type} (k : Nat) (a0 : ByteArray) (K : Bool → Option β) : Option β :=
  Z4 (spec_l4Text.l0 k a0 K) k (0)
noncomputable def spec_l4Text.t (k : Nat) (a0 : ByteArray) : Option (Bool) := spec_l4Text.g k a0 (fun z0 => some z0)
noncomputable def spec_l4Text.f {β : Type} (k : Nat) (a0 : ByteArray) (K : Bool → Option β) : Option β :=
  match spec_l4Text.t k a0 with
  | some z0 => K z0
  | none => none
noncomputable def spec_l4Text.as (a0 : ByteArray) : List A := [.d (.str a0)]
noncomputable def spec_l4Text.kt {β : Type} (a0 : ByteArray) (K0 : List (List C) → List Out → Option β) : Bool → Option β := fun z0 => K0 [[.d (.bool z0)]] []
noncomputable def spec_l4Text.e (k : Nat) : ZQ := { modes := [(.imm, 0)], rts := [4], al := false, run := fun {β} l K => match l with | [.d (.str a0)] => spec_l4Text.f k a0 (spec_l4Text.kt a0 K) | _ => none }
noncomputable def spec_l4Text.E (k : Nat) : Env := fun g => bif g == 123 then some (spec_l1In.e k) else none
noncomputable def spec_l4Text.h : ZY := ⟨fun n => bif n == 2 then ⟨[(0, .asis), (3, .asis)], []⟩ else ⟨[], []⟩, fun _ => none, false, []⟩
noncomputable def spec_l4Text.s0 (v0_0 : ByteArray) (v : Int) : St :=
  match v with
  | v0_1 => ⟨[.d false (.str v0_0), .any, .any, .d true (.int .i64 v0_1), .any, .any, .any, .any, .any, .any, .any, .any, .any, .any, .any, .any, .any, .any, .any], []⟩
noncomputable def spec_l4Text.b0 {β : Type} (k : Nat) : St → (Ex → St → Option β) → Option β := fun s K => den Try.prog (spec_l4Text.E k) spec_l4Text.h.H spec_l4Text.h.J k (Zad [1, 0, 1, 0, 0] (Zl Try.f247)) s K
noncomputable def spec_l4Text.c0 {β : Type} (k : Nat) (a0 : ByteArray) (K0 : List (List C) → List Out → Option β) : Ex → St → Option β := Zae Try.prog (spec_l4Text.E k) spec_l4Text.h k [1, 0, 1, 0] (Zl Try.f247) (Zak Try.prog Try.f247 spec_l4Text.h (spec_l4Text.as a0) K0)
theorem spec_l4Text.l0_eq {β : Type} (k : Nat) (a0 : ByteArray) (K0 : List (List C) → List Out → Option β) (v0_0 : ByteArray) : ∀ (kk : Nat) (v : Int), Zx (spec_l4Text.b0 k) (spec_l4Text.h.H 2) kk (spec_l4Text.s0 v0_0 v) (spec_l4Text.c0 k a0 K0) = Z4 (spec_l4Text.l0 k v0_0 (spec_l4Text.kt a0 K0)) kk v :=
  Z9 (spec_l4Text.s0 v0_0) _ (fun L0 v => by kernel_rfl)
noncomputable def spec_l4Text.m {β : Type} (k : Nat) (a0 : ByteArray) (K0 : List (List C) → List Out → Option β) (F : (ByteArray → Int → Option β)) : Option β :=
  (F) a0 (0)
theorem spec_l4Text.f_eq {β : Type} (k : Nat) (a0 : ByteArray) (K0 : List (List C) → List Out → Option β) : ZJ Try.prog (spec_l4Text.E k) spec_l4Text.h k Try.f247 (spec_l4Text.as a0) K0 = spec_l4Text.g k a0 (spec_l4Text.kt a0 K0) := Eq.trans (b := (spec_l4Text.m k a0 K0) (fun (v0_0 : ByteArray) (v : Int) => Zx (spec_l4Text.b0 k) (spec_l4Text.h.H 2) k (spec_l4Text.s0 v0_0 v) (spec_l4Text.c0 k a0 K0))) (by kernel_rfl) (Eq.trans (congrArg (spec_l4Text.m k a0 K0) (funext fun v0_0 => funext fun v => spec_l4Text.l0_eq k a0 K0 v0_0 k v)) (by kernel_rfl))
noncomputable def spec_l4Text.dec (rs : List (List C)) (os : List Out) : Option (Bool) := Zd rs fun c1 r2 => Zd c1 fun x3 l4 => cD x3 fun d5 => ZaF d5 fun w0 => Ze l4 <| Ze r2 <| Ze os (some w0)
theorem spec_l4Text.kt_dec (a0 : ByteArray) : spec_l4Text.kt a0 spec_l4Text.dec = (fun z0 => some z0) := by kernel_rfl
theorem spec_l4Text.inj (a0 : ByteArray) {rs : List (List C)} {os : List Out} {z0 : Bool} (h : spec_l4Text.dec rs os = some z0) (ho : Zo (spec_l4Text.as a0) os) : rs = [[.d (.bool z0)]] ∧ os = [] := by
  unfold spec_l4Text.dec at h
  obtain ⟨c1, r2, rfl, h1⟩ := Zb h
  obtain ⟨x3, l4, rfl, h2⟩ := Zb h1
  obtain ⟨d5, rfl, h3⟩ := Zt h2
  obtain ⟨w0, rfl, h4⟩ := Z0 h3
  obtain ⟨rfl, h5⟩ := Zc h4
  obtain ⟨rfl, h6⟩ := Zc h5
  obtain ⟨rfl, h7⟩ := Zc h6
  obtain rfl := Option.some.inj h7
  exact ⟨rfl, rfl⟩
theorem spec_l4Text.ok (k : Nat) : Zv Try.prog 247 (spec_l4Text.e k) := by
  refine Zu mix tyok (fn := Try.f247) (c := Zl Try.f247) Try.func247 (by kernel_rfl) (h := spec_l4Text.h) (k := k) (E := spec_l4Text.E k) (Zk (spec_l1In.ok k) Zz) (by kernel_rfl) (by kernel_rfl) rfl (Zq Try.func247 (by kernel_rfl)) ?_
  intro β l K r hr
  simp only [spec_l4Text.e] at hr
  split at hr
  case h_2 => cases hr
  unfold spec_l4Text.f at hr
  split at hr
  case h_2 => cases hr
  rename_i hz
  exact ⟨_, _, hr, _, spec_l4Text.dec, _, (spec_l4Text.f_eq k _ spec_l4Text.dec).trans (by rw [spec_l4Text.kt_dec]; exact hz), fun rs os h ho => spec_l4Text.inj _ h ho⟩
noncomputable def spec_l4Keys.l0 {β : Type} (k : Nat) (v0_1 : Int) (v0_2 : ByteArray) (v0_3 : Int) (v0_4 : List (List D)) (v0_5 : List (List D)) (K : Bool → Option β) (L0 : Int → Option β) (v : Int) : Option β :=
  match v with
  | v0_0 => bif (decide ((v0_0 : Int) < (v0_4.length : Int))) then (ZX v0_4 v0_0 fun c14 => Zd c14 fun d15 r16 => Zan d15 fun x17 => Ze r16 (spec_NameOk.f k x17 (fun y18 => bif (!y18) then (K false) else (bif (decide ((v0_0 : Int) > 0)) then (ZX v0_4 (IntKind.wrap .i64 (v0_0 - 1)) fun c19 => Zd c19 fun d20 r21 => Zan d20 fun x22 => Ze r21 (ZX v0_4 v0_0 fun c23 => Zd c23 fun d24 r25 => Zan d24 fun x26 => Ze r25 (bif (!(strLt x22 x26)) then (K false) else (L0 (IntKind.wrap .i64 (v0_0 + 1)))))) else (L0 (IntKind.wrap .i64 (v0_0 + 1))))))) else (K (((v0_4.length : Int) : Int) == (v0_5.length : Int)))
noncomputable def spec_l4Keys.g {β : Type} (k : Nat) (a0_0 : Int) (a0_1 : ByteArray) (a0_2 : Int) (a0_3 : List (List D)) (a0_4 : List (List D)) (K : Bool → Option β) : Option β :=
  Z4 (spec_l4Keys.l0 k a0_0 a0_1 a0_2 a0_3 a0_4 K) k (0)
noncomputable def spec_l4Keys.t (k : Nat) (a0_0 : Int) (a0_1 : ByteArray) (a0_2 : Int) (a0_3 : List (List D)) (a0_4 : List (List D)) : Option (Bool) := spec_l4Keys.g k a0_0 a0_1 a0_2 a0_3 a0_4 (fun z0 => some z0)
noncomputable def spec_l4Keys.f {β : Type} (k : Nat) (a0_0 : Int) (a0_1 : ByteArray) (a0_2 : Int) (a0_3 : List (List D)) (a0_4 : List (List D)) (K : Bool → Option β) : Option β :=
  match spec_l4Keys.t k a0_0 a0_1 a0_2 a0_3 a0_4 with
  | some z0 => K z0
  | none => none
noncomputable def spec_l4Keys.as (a0_0 : Int) (a0_1 : ByteArray) (a0_2 : Int) (a0_3 : List (List D)) (a0_4 : List (List D)) : List A := [.agg [.int .i64 a0_0, .str a0_1, .int .i64 a0_2, .sl a0_3, .sl a0_4]]
noncomputable def spec_l4Keys.kt {β : Type} (a0_0 : Int) (a0_1 : ByteArray) (a0_2 : Int) (a0_3 : List (List D)) (a0_4 : List (List D)) (K0 : List (List C) → List Out → Option β) : Bool → Option β := fun z0 => K0 [[.d (.bool z0)]] []
noncomputable def spec_l4Keys.e (k : Nat) : ZQ := { modes := [(.imm, 0)], rts := [4], al := false, run := fun {β} l K => match l with | [.agg [.int .i64 a0_0, .str a0_1, .int .i64 a0_2, .sl a0_3, .sl a0_4]] => spec_l4Keys.f k a0_0 a0_1 a0_2 a0_3 a0_4 (spec_l4Keys.kt a0_0 a0_1 a0_2 a0_3 a0_4 K) | _ => none }
noncomputable def spec_l4Keys.E (k : Nat) : Env := fun g => bif g == 94 then some (spec_NameOk.e k) else none
noncomputable def spec_l4Keys.h : ZY := ⟨fun n => bif n == 2 then ⟨[(1, .asis), (3, .asis)], []⟩ else ⟨[], []⟩, fun _ => none, false, []⟩
noncomputable def spec_l4Keys.s0 (v0_1 : Int) (v0_2 : ByteArray) (v0_3 : Int) (v0_4 : List (List D)) (v0_5 : List (List D)) (v : Int) : St :=
  match v with
  | v0_0 => ⟨[.any, .bp 0 0, .any, .d true (.int .i64 v0_0), .any, .any, .any, .any, .any, .any, .any, .any, .any, .any, .any, .any, .any, .any, .any, .any, .any, .any, .any, .any, .any, .any, .any, .any, .any, .any, .any, .any, .any, .any, .any, .any, .any, .any, .any, .any, .any, .any, .any], [.box none 151 [.d false (.int .i64 v0_1), .d false (.str v0_2), .d false (.int .i64 v0_3), .d false (.sl v0_4), .d false (.sl v0_5)]]⟩
noncomputable def spec_l4Keys.b0 {β : Type} (k : Nat) : St → (Ex → St → Option β) → Option β := fun s K => den Try.prog (spec_l4Keys.E k) spec_l4Keys.h.H spec_l4Keys.h.J k (Zad [1, 0, 1, 0, 0] (Zl Try.f248)) s K
noncomputable def spec_l4Keys.c0 {β : Type} (k : Nat) (a0_0 : Int) (a0_1 : ByteArray) (a0_2 : Int) (a0_3 : List (List D)) (a0_4 : List (List D)) (K0 : List (List C) → List Out → Option β) : Ex → St → Option β := Zae Try.prog (spec_l4Keys.E k) spec_l4Keys.h k [1, 0, 1, 0] (Zl Try.f248) (Zak Try.prog Try.f248 spec_l4Keys.h (spec_l4Keys.as a0_0 a0_1 a0_2 a0_3 a0_4) K0)
theorem spec_l4Keys.l0_eq {β : Type} (k : Nat) (a0_0 : Int) (a0_1 : ByteArray) (a0_2 : Int) (a0_3 : List (List D)) (a0_4 : List (List D)) (K0 : List (List C) → List Out → Option β) (v0_1 : Int) (v0_2 : ByteArray) (v0_3 : Int) (v0_4 : List (List D)) (v0_5 : List (List D)) : ∀ (kk : Nat) (v : Int), Zx (spec_l4Keys.b0 k) (spec_l4Keys.h.H 2) kk (spec_l4Keys.s0 v0_1 v0_2 v0_3 v0_4 v0_5 v) (spec_l4Keys.c0 k a0_0 a0_1 a0_2 a0_3 a0_4 K0) = Z4 (spec_l4Keys.l0 k v0_1 v0_2 v0_3 v0_4 v0_5 (spec_l4Keys.kt a0_0 a0_1 a0_2 a0_3 a0_4 K0)) kk v :=
  Z9 (spec_l4Keys.s0 v0_1 v0_2 v0_3 v0_4 v0_5) _ (fun L0 v => by kernel_rfl)
noncomputable def spec_l4Keys.m {β : Type} (k : Nat) (a0_0 : Int) (a0_1 : ByteArray) (a0_2 : Int) (a0_3 : List (List D)) (a0_4 : List (List D)) (K0 : List (List C) → List Out → Option β) (F : (Int → ByteArray → Int → (List (List D)) → (List (List D)) → Int → Option β)) : Option β :=
  (F) a0_0 a0_1 a0_2 a0_3 a0_4 (0)
theorem spec_l4Keys.f_eq {β : Type} (k : Nat) (a0_0 : Int) (a0_1 : ByteArray) (a0_2 : Int) (a0_3 : List (List D)) (a0_4 : List (List D)) (K0 : List (List C) → List Out → Option β) : ZJ Try.prog (spec_l4Keys.E k) spec_l4Keys.h k Try.f248 (spec_l4Keys.as a0_0 a0_1 a0_2 a0_3 a0_4) K0 = spec_l4Keys.g k a0_0 a0_1 a0_2 a0_3 a0_4 (spec_l4Keys.kt a0_0 a0_1 a0_2 a0_3 a0_4 K0) := Eq.trans (b := (spec_l4Keys.m k a0_0 a0_1 a0_2 a0_3 a0_4 K0) (fun (v0_1 : Int) (v0_2 : ByteArray) (v0_3 : Int) (v0_4 : List (List D)) (v0_5 : List (List D)) (v : Int) => Zx (spec_l4Keys.b0 k) (spec_l4Keys.h.H 2) k (spec_l4Keys.s0 v0_1 v0_2 v0_3 v0_4 v0_5 v) (spec_l4Keys.c0 k a0_0 a0_1 a0_2 a0_3 a0_4 K0))) (by kernel_rfl) (Eq.trans (congrArg (spec_l4Keys.m k a0_0 a0_1 a0_2 a0_3 a0_4 K0) (funext fun v0_1 => funext fun v0_2 => funext fun v0_3 => funext fun v0_4 => funext fun v0_5 => funext fun v => spec_l4Keys.l0_eq k a0_0 a0_1 a0_2 a0_3 a0_4 K0 v0_1 v0_2 v0_3 v0_4 v0_5 k v)) (by kernel_rfl))
noncomputable def spec_l4Keys.dec (rs : List (List C)) (os : List Out) : Option (Bool) := Zd rs fun c1 r2 => Zd c1 fun x3 l4 => cD x3 fun d5 => ZaF d5 fun w0 => Ze l4 <| Ze r2 <| Ze os (some w0)
theorem spec_l4Keys.kt_dec (a0_0 : Int) (a0_1 : ByteArray) (a0_2 : Int) (a0_3 : List (List D)) (a0_4 : List (List D)) : spec_l4Keys.kt a0_0 a0_1 a0_2 a0_3 a0_4 spec_l4Keys.dec = (fun z0 => some z0) := by kernel_rfl
theorem spec_l4Keys.inj (a0_0 : Int) (a0_1 : ByteArray) (a0_2 : Int) (a0_3 : List (List D)) (a0_4 : List (List D)) {rs : List (List C)} {os : List Out} {z0 : Bool} (h : spec_l4Keys.dec rs os = some z0) (ho : Zo (spec_l4Keys.as a0_0 a0_1 a0_2 a0_3 a0_4) os) : rs = [[.d (.bool z0)]] ∧ os = [] := by
  unfold spec_l4Keys.dec at h
  obtain ⟨c1, r2, rfl, h1⟩ := Zb h
  obtain ⟨x3, l4, rfl, h2⟩ := Zb h1
  obtain ⟨d5, rfl, h3⟩ := Zt h2
  obtain ⟨w0, rfl, h4⟩ := Z0 h3
  obtain ⟨rfl, h5⟩ := Zc h4
  obtain ⟨rfl, h6⟩ := Zc h5
  obtain ⟨rfl, h7⟩ := Zc h6
  obtain rfl := Option.some.inj h7
  exact ⟨rfl, rfl⟩
theorem spec_l4Keys.ok (k : Nat) : Zv Try.prog 248 (spec_l4Keys.e k) := by
  refine Zu mix tyok (fn := Try.f248) (c := Zl Try.f248) Try.func248 (by kernel_rfl) (h := spec_l4Keys.h) (k := k) (E := spec_l4Keys.E k) (Zk (spec_NameOk.ok k) Zz) (by kernel_rfl) (by kernel_rfl) rfl (Zq Try.func248 (by kernel_rfl)) ?_
  intro β l K r hr
  simp only [spec_l4Keys.e] at hr
  split at hr
  case h_2 => cases hr
  unfold spec_l4Keys.f at hr
  split at hr
  case h_2 => cases hr
  rename_i hz
  exact ⟨_, _, hr, _, spec_l4Keys.dec, _, (spec_l4Keys.f_eq k _ _ _ _ _ spec_l4Keys.dec).trans (by rw [spec_l4Keys.kt_dec]; exact hz), fun rs os h ho => spec_l4Keys.inj _ _ _ _ _ h ho⟩
noncomputable def spec_l4Look.l0 {β : Type} (k : Nat) (r_spec_l4Look : Int → ByteArray → Int → (List (List D)) → (List (List D)) → Int → (Int → Option β) → Option β) (v0_0 : Int) (v0_3 : Int) (v0_4 : ByteArray) (v0_5 : Int) (v0_6 : List (List D)) (v0_7 : List (List D)) (K : Int → Option β) (L0 : (Int × Int) → Option β) (v : Int × Int) : Option β :=
  match v with
  | (v0_1, v0_2) => bif (decide ((v0_2 : Int) < (v0_7.length : Int))) then (ZX v0_7 v0_2 fun c29 => Zd c29 fun d30 r31 => ZM .i64 d30 fun x32 => Zd r31 fun d33 r34 => Zan d33 fun x35 => Zd r34 fun d36 r37 => ZM .i64 d36 fun x38 => Zd r37 fun d39 r40 => dSl d39 fun x41 => Zd r40 fun d42 r43 => dSl d42 fun x44 => Ze r43 (r_spec_l4Look x32 x35 x38 x41 x44 (IntKind.wrap .i64 (v0_0 - 1)) (fun y45 => bif ((y45 : Int) == 0) then (K 0) else (bif (decide (((IntKind.wrap .i64 (v0_1 + y45)) : Int) > 300)) then (K 0) else (L0 (IntKind.wrap .i64 (v0_1 + y45), IntKind.wrap .i64 (v0_2 + 1))))))) else (bif (((v0_6.length : Int) : Int) == 0) then (bif ((v0_3 : Int) == 1) then (bif (((v0_7.length : Int) : Int) == 0) then (bif ((v0_5 : Int) == 0) then (spec_l4Text.f k v0_4 (fun y46 => bif (!y46) then (K 0) else (K v0_1))) else (K 0)) else (K 0)) else (bif ((v0_3 : Int) == 2) then (bif (((v0_7.length : Int) : Int) == 0) then (bif (!(strEq v0_4 (⟨#[]⟩ : ByteArray))) then (K 0) else (K v0_1)) else (K 0)) else (bif ((v0_3 : Int) == 3) then (bif (((v0_7.length : Int) : Int) == 0) then (bif (strEq v0_4 (⟨#[]⟩ : ByteArray)) then (spec_l1In.f k v0_5 0 1 (fun y47 => bif (!y47) then (K 0) else (K v0_1))) else (K 0)) else (K 0)) else (bif ((v0_3 : Int) == 4) then (bif (((v0_6.length : Int) : Int) == 0) then (bif (strEq v0_4 (⟨#[]⟩ : ByteArray)) then (bif (!((v0_5 : Int) == 0)) then (K 0) else (K v0_1)) else (K 0)) else (K 0)) else (bif ((v0_3 : Int) == 5) then (spec_l4Keys.f k v0_3 v0_4 v0_5 v0_6 v0_7 (fun y48 => bif y48 then (bif (strEq v0_4 (⟨#[]⟩ : ByteArray)) then (bif (!((v0_5 : Int) == 0)) then (K 0) else (K v0_1)) else (K 0)) else (K 0))) else (K 0)))))) else (bif ((v0_3 : Int) == 1) then (K 0) else (bif ((v0_3 : Int) == 2) then (K 0) else (bif ((v0_3 : Int) == 3) then (K 0) else (bif ((v0_3 : Int) == 4) then (bif (((v0_6.length : Int) : Int) == 0) then (bif (strEq v0_4 (⟨#[]⟩ : ByteArray)) then (bif (!((v0_5 : Int) == 0)) then (K 0) else (K v0_1)) else (K 0)) else (K 0)) else (bif ((v0_3 : Int) == 5) then (spec_l4Keys.f k v0_3 v0_4 v0_5 v0_6 v0_7 (fun y49 => bif y49 then (bif (strEq v0_4 (⟨#[]⟩ : ByteArray)) then (bif (!((v0_5 : Int) == 0)) then (K 0) else (K v0_1)) else (K 0)) else (K 0))) else (K 0)))))))
noncomputable def spec_l4Look.body {β : Type} (k : Nat) (r_spec_l4Look : Int → ByteArray → Int → (List (List D)) → (List (List D)) → Int → (Int → Option β) → Option β) (a0_0 : Int) (a0_1 : ByteArray) (a0_2 : Int) (a0_3 : List (List D)) (a0_4 : List (List D)) (a1 : Int) (K : Int → Option β) : Option β :=
  bif ((a1 : Int) == 0) then (K 0) else (Z4 (spec_l4Look.l0 k r_spec_l4Look a1 a0_0 a0_1 a0_2 a0_3 a0_4 K) k (1, 0))
noncomputable def spec_l4Look.w {β : Type} (r : Int → ByteArray → Int → (List (List D)) → (List (List D)) → Int → Option (Int)) (a0_0 : Int) (a0_1 : ByteArray) (a0_2 : Int) (a0_3 : List (List D)) (a0_4 : List (List D)) (a1 : Int) (K : Int → Option β) : Option β :=
  match r a0_0 a0_1 a0_2 a0_3 a0_4 a1 with
  | some z0 => K z0
  | none => none
noncomputable def spec_l4Look.all : Nat → (Int → ByteArray → Int → (List (List D)) → (List (List D)) → Int → Option (Int))
  | 0 => (fun _ _ _ _ _ _ => none)
  | k + 1 => (fun r => (fun a0_0 a0_1 a0_2 a0_3 a0_4 a1 => spec_l4Look.body k (spec_l4Look.w r) a0_0 a0_1 a0_2 a0_3 a0_4 a1 (fun z0 => some z0))) (spec_l4Look.all k)
noncomputable def spec_l4Look.t (k : Nat) (a0_0 : Int) (a0_1 : ByteArray) (a0_2 : Int) (a0_3 : List (List D)) (a0_4 : List (List D)) (a1 : Int) : Option (Int) := (spec_l4Look.all k) a0_0 a0_1 a0_2 a0_3 a0_4 a1
noncomputable def spec_l4Look.f {β : Type} (k : Nat) (a0_0 : Int) (a0_1 : ByteArray) (a0_2 : Int) (a0_3 : List (List D)) (a0_4 : List (List D)) (a1 : Int) (K : Int → Option β) : Option β := spec_l4Look.w (spec_l4Look.t k) a0_0 a0_1 a0_2 a0_3 a0_4 a1 K
noncomputable def spec_l4Look.g {β : Type} (k : Nat) (a0_0 : Int) (a0_1 : ByteArray) (a0_2 : Int) (a0_3 : List (List D)) (a0_4 : List (List D)) (a1 : Int) (K : Int → Option β) : Option β := spec_l4Look.body k (spec_l4Look.f k) a0_0 a0_1 a0_2 a0_3 a0_4 a1 K
theorem spec_l4Look.t_zero (a0_0 : Int) (a0_1 : ByteArray) (a0_2 : Int) (a0_3 : List (List D)) (a0_4 : List (List D)) (a1 : Int) : spec_l4Look.t 0 a0_0 a0_1 a0_2 a0_3 a0_4 a1 = none := rfl
theorem spec_l4Look.t_succ (k : Nat) (a0_0 : Int) (a0_1 : ByteArray) (a0_2 : Int) (a0_3 : List (List D)) (a0_4 : List (List D)) (a1 : Int) : spec_l4Look.t (k + 1) a0_0 a0_1 a0_2 a0_3 a0_4 a1 = spec_l4Look.g k a0_0 a0_1 a0_2 a0_3 a0_4 a1 (fun z0 => some z0) := rfl
noncomputable def spec_l4Look.as (a0_0 : Int) (a0_1 : ByteArray) (a0_2 : Int) (a0_3 : List (List D)) (a0_4 : List (List D)) (a1 : Int) : List A := [.agg [.int .i64 a0_0, .str a0_1, .int .i64 a0_2, .sl a0_3, .sl a0_4], .d (.int .i64 a1)]
noncomputable def spec_l4Look.kt {β : Type} (a0_0 : Int) (a0_1 : ByteArray) (a0_2 : Int) (a0_3 : List (List D)) (a0_4 : List (List D)) (a1 : Int) (K0 : List (List C) → List Out → Option β) : Int → Option β := fun z0 => K0 [[.d (.int .i64 z0)]] []
noncomputable def spec_l4Look.e (k : Nat) : ZQ := { modes := [(.imm, 0), (.imm, 0)], rts := [3], al := false, run := fun {β} l K => match l with | [.agg [.int .i64 a0_0, .str a0_1, .int .i64 a0_2, .sl a0_3, .sl a0_4], .d (.int .i64 a1)] => spec_l4Look.f k a0_0 a0_1 a0_2 a0_3 a0_4 a1 (spec_l4Look.kt a0_0 a0_1 a0_2 a0_3 a0_4 a1 K) | _ => none }
noncomputable def spec_l4Look.E (k : Nat) : Env := fun g => bif g == 223 then some (spec_l4Look.e k) else bif g == 247 then some (spec_l4Text.e k) else bif g == 123 then some (spec_l1In.e k) else bif g == 248 then some (spec_l4Keys.e k) else none
noncomputable def spec_l4Look.h : ZY := ⟨fun n => bif n == 5 then ⟨[(1, .asis), (2, .asis), (5, .asis), (6, .asis)], []⟩ else ⟨[], []⟩, fun _ => none, false, []⟩
noncomputable def spec_l4Look.s0 (v0_0 : Int) (v0_3 : Int) (v0_4 : ByteArray) (v0_5 : Int) (v0_6 : List (List D)) (v0_7 : List (List D)) (v : Int × Int) : St :=
  match v with
  | (v0_1, v0_2) => ⟨[.any, .d false (.int .i64 v0_0), .bp 0 0, .any, .any, .d true (.int .i64 v0_1), .d true (.int .i64 v0_2), .any, .any, .any, .any, .any, .any, .any, .any, .any, .any, .any, .any, .any, .any, .any, .any, .any, .any, .any, .any, .any, .any, .any, .any, .any, .any, .any, .any, .any, .any, .any, .any, .any, .any, .any, .any, .any, .any, .any, .any, .any, .any, .any, .any, .any, .any, .any, .any, .any, .any, .any, .any, .any, .any, .any, .any, .any, .any, .any, .any, .any, .any, .any, .any, .any, .any, .any, .any, .any, .any, .any, .any, .any, .any, .any, .any, .any, .any, .any, .any, .any, .any, .any, .any, .any, .any, .any, .any, .any, .any, .any, .any, .any, .any, .any, .any, .any, .any, .any, .any, .any, .any, .any, .any, .any, .any, .any, .any, .any, .any], [.box none 151 [.d false (.int .i64 v0_3), .d false (.str v0_4), .d false (.int .i64 v0_5), .d false (.sl v0_6), .d false (.sl v0_7)]]⟩
noncomputable def spec_l4Look.b0 {β : Type} (k : Nat) : St → (Ex → St → Option β) → Option β := fun s K => den Try.prog (spec_l4Look.E k) spec_l4Look.h.H spec_l4Look.h.J k (Zad [1, 1, 1, 0, 1, 0, 0] (Zl Try.f223)) s K
noncomputable def spec_l4Look.c0 {β : Type} (k : Nat) (a0_0 : Int) (a0_1 : ByteArray) (a0_2 : Int) (a0_3 : List (List D)) (a0_4 : List (List D)) (a1 : Int) (K0 : List (List C) → List Out → Option β) : Ex → St → Option β := Zae Try.prog (spec_l4Look.E k) spec_l4Look.h k [1, 1, 1, 0, 1, 0] (Zl Try.f223) (Zak Try.prog Try.f223 spec_l4Look.h (spec_l4Look.as a0_0 a0_1 a0_2 a0_3 a0_4 a1) K0)
theorem spec_l4Look.l0_eq {β : Type} (k : Nat) (a0_0 : Int) (a0_1 : ByteArray) (a0_2 : Int) (a0_3 : List (List D)) (a0_4 : List (List D)) (a1 : Int) (K0 : List (List C) → List Out → Option β) (v0_0 : Int) (v0_3 : Int) (v0_4 : ByteArray) (v0_5 : Int) (v0_6 : List (List D)) (v0_7 : List (List D)) : ∀ (kk : Nat) (v : Int × Int), Zx (spec_l4Look.b0 k) (spec_l4Look.h.H 5) kk (spec_l4Look.s0 v0_0 v0_3 v0_4 v0_5 v0_6 v0_7 v) (spec_l4Look.c0 k a0_0 a0_1 a0_2 a0_3 a0_4 a1 K0) = Z4 (spec_l4Look.l0 k (spec_l4Look.f k) v0_0 v0_3 v0_4 v0_5 v0_6 v0_7 (spec_l4Look.kt a0_0 a0_1 a0_2 a0_3 a0_4 a1 K0)) kk v :=
  Z9 (spec_l4Look.s0 v0_0 v0_3 v0_4 v0_5 v0_6 v0_7) _ (fun L0 v => by obtain ⟨v0_1, v0_2⟩ := v; kernel_rfl)
noncomputable def spec_l4Look.m {β : Type} (k : Nat) (a0_0 : Int) (a0_1 : ByteArray) (a0_2 : Int) (a0_3 : List (List D)) (a0_4 : List (List D)) (a1 : Int) (K0 : List (List C) → List Out → Option β) (F : (Int → Int → ByteArray → Int → (List (List D)) → (List (List D)) → (Int × Int) → Option β)) : Option β :=
  bif ((a1 : Int) == 0) then ((spec_l4Look.kt a0_0 a0_1 a0_2 a0_3 a0_4 a1 K0) 0) else ((F) a1 a0_0 a0_1 a0_2 a0_3 a0_4 (1, 0))
theorem spec_l4Look.f_eq {β : Type} (k : Nat) (a0_0 : Int) (a0_1 : ByteArray) (a0_2 : Int) (a0_3 : List (List D)) (a0_4 : List (List D)) (a1 : Int) (K0 : List (List C) → List Out → Option β) : ZJ Try.prog (spec_l4Look.E k) spec_l4Look.h k Try.f223 (spec_l4Look.as a0_0 a0_1 a0_2 a0_3 a0_4 a1) K0 = spec_l4Look.g k a0_0 a0_1 a0_2 a0_3 a0_4 a1 (spec_l4Look.kt a0_0 a0_1 a0_2 a0_3 a0_4 a1 K0) := Eq.trans (b := (spec_l4Look.m k a0_0 a0_1 a0_2 a0_3 a0_4 a1 K0) (fun (v0_0 : Int) (v0_3 : Int) (v0_4 : ByteArray) (v0_5 : Int) (v0_6 : List (List D)) (v0_7 : List (List D)) (v : Int × Int) => Zx (spec_l4Look.b0 k) (spec_l4Look.h.H 5) k (spec_l4Look.s0 v0_0 v0_3 v0_4 v0_5 v0_6 v0_7 v) (spec_l4Look.c0 k a0_0 a0_1 a0_2 a0_3 a0_4 a1 K0))) (by kernel_rfl) (Eq.trans (congrArg (spec_l4Look.m k a0_0 a0_1 a0_2 a0_3 a0_4 a1 K0) (funext fun v0_0 => funext fun v0_3 => funext fun v0_4 => funext fun v0_5 => funext fun v0_6 => funext fun v0_7 => funext fun v => spec_l4Look.l0_eq k a0_0 a0_1 a0_2 a0_3 a0_4 a1 K0 v0_0 v0_3 v0_4 v0_5 v0_6 v0_7 k v)) (by kernel_rfl))
noncomputable def spec_l4Look.dec (rs : List (List C)) (os : List Out) : Option (Int) := Zd rs fun c1 r2 => Zd c1 fun x3 l4 => cD x3 fun d5 => ZM .i64 d5 fun w0 => Ze l4 <| Ze r2 <| Ze os (some w0)
theorem spec_l4Look.kt_dec (a0_0 : Int) (a0_1 : ByteArray) (a0_2 : Int) (a0_3 : List (List D)) (a0_4 : List (List D)) (a1 : Int) : spec_l4Look.kt a0_0 a0_1 a0_2 a0_3 a0_4 a1 spec_l4Look.dec = (fun z0 => some z0) := by kernel_rfl
theorem spec_l4Look.inj (a0_0 : Int) (a0_1 : ByteArray) (a0_2 : Int) (a0_3 : List (List D)) (a0_4 : List (List D)) (a1 : Int) {rs : List (List C)} {os : List Out} {z0 : Int} (h : spec_l4Look.dec rs os = some z0) (ho : Zo (spec_l4Look.as a0_0 a0_1 a0_2 a0_3 a0_4 a1) os) : rs = [[.d (.int .i64 z0)]] ∧ os = [] := by
  unfold spec_l4Look.dec at h
  obtain ⟨c1, r2, rfl, h1⟩ := Zb h
  obtain ⟨x3, l4, rfl, h2⟩ := Zb h1
  obtain ⟨d5, rfl, h3⟩ := Zt h2
  obtain ⟨w0, rfl, h4⟩ := ZA h3
  obtain ⟨rfl, h5⟩ := Zc h4
  obtain ⟨rfl, h6⟩ := Zc h5
  obtain ⟨rfl, h7⟩ := Zc h6
  obtain rfl := Option.some.inj h7
  exact ⟨rfl, rfl⟩
theorem spec_l4Look.oks (k : Nat) : Zv Try.prog 223 (spec_l4Look.e k) := by
  induction k with
  | zero =>
    refine ?_
    · exact Zb1 (Zq Try.func223 (by kernel_rfl)) fun β l K r h => by
        simp only [spec_l4Look.e] at h
        split at h
        · unfold spec_l4Look.f at h
          unfold spec_l4Look.w at h
          rw [spec_l4Look.t_zero] at h
          cases h
        · cases h
  | succ k ih =>
    refine ?_
    · refine Zu mix tyok (fn := Try.f223) (c := Zl Try.f223) Try.func223 (by kernel_rfl) (h := spec_l4Look.h) (k := k) (E := spec_l4Look.E k) (Zk ih (Zk (spec_l4Text.ok k) (Zk (spec_l1In.ok k) (Zk (spec_l4Keys.ok k) Zz)))) (by kernel_rfl) (by kernel_rfl) rfl (Zq Try.func223 (by kernel_rfl)) ?_
      intro β l K r hr
      simp only [spec_l4Look.e] at hr
      split at hr
      case h_2 => cases hr
      unfold spec_l4Look.f at hr
      unfold spec_l4Look.w at hr
      split at hr
      case h_2 => cases hr
      rename_i hz
      exact ⟨_, _, hr, _, spec_l4Look.dec, _, (spec_l4Look.f_eq k _ _ _ _ _ _ spec_l4Look.dec).trans (by rw [spec_l4Look.kt_dec]; exact hz), fun rs os h ho => spec_l4Look.inj _ _ _ _ _ _ h ho⟩
theorem spec_l4Look.ok (k : Nat) : Zv Try.prog 223 (spec_l4Look.e k) := (spec_l4Look.oks k)
noncomputable def spec_ValueOk.g {β : Type} (k : Nat) (a0_0 : Int) (a0_1 : ByteArray) (a0_2 : Int) (a0_3 : List (List D)) (a0_4 : List (List D)) (K : Bool → Option β) : Option β :=
  spec_l4Look.f k a0_0 a0_1 a0_2 a0_3 a0_4 6 (fun y50 => K (decide ((y50 : Int) > 0)))
noncomputable def spec_ValueOk.t (k : Nat) (a0_0 : Int) (a0_1 : ByteArray) (a0_2 : Int) (a0_3 : List (List D)) (a0_4 : List (List D)) : Option (Bool) := spec_ValueOk.g k a0_0 a0_1 a0_2 a0_3 a0_4 (fun z0 => some z0)
noncomputable def spec_ValueOk.f {β : Type} (k : Nat) (a0_0 : Int) (a0_1 : ByteArray) (a0_2 : Int) (a0_3 : List (List D)) (a0_4 : List (List D)) (K : Bool → Option β) : Option β :=
  match spec_ValueOk.t k a0_0 a0_1 a0_2 a0_3 a0_4 with
  | some z0 => K z0
  | none => none
noncomputable def spec_ValueOk.as (a0_0 : Int) (a0_1 : ByteArray) (a0_2 : Int) (a0_3 : List (List D)) (a0_4 : List (List D)) : List A := [.agg [.int .i64 a0_0, .str a0_1, .int .i64 a0_2, .sl a0_3, .sl a0_4]]
noncomputable def spec_ValueOk.kt {β : Type} (a0_0 : Int) (a0_1 : ByteArray) (a0_2 : Int) (a0_3 : List (List D)) (a0_4 : List (List D)) (K0 : List (List C) → List Out → Option β) : Bool → Option β := fun z0 => K0 [[.d (.bool z0)]] []
noncomputable def spec_ValueOk.e (k : Nat) : ZQ := { modes := [(.imm, 0)], rts := [4], al := false, run := fun {β} l K => match l with | [.agg [.int .i64 a0_0, .str a0_1, .int .i64 a0_2, .sl a0_3, .sl a0_4]] => spec_ValueOk.f k a0_0 a0_1 a0_2 a0_3 a0_4 (spec_ValueOk.kt a0_0 a0_1 a0_2 a0_3 a0_4 K) | _ => none }
noncomputable def spec_ValueOk.E (k : Nat) : Env := fun g => bif g == 223 then some (spec_l4Look.e k) else none
noncomputable def spec_ValueOk.h : ZY := ⟨fun n => ⟨[], []⟩, fun _ => none, false, []⟩
theorem spec_ValueOk.f_eq {β : Type} (k : Nat) (a0_0 : Int) (a0_1 : ByteArray) (a0_2 : Int) (a0_3 : List (List D)) (a0_4 : List (List D)) (K0 : List (List C) → List Out → Option β) : ZJ Try.prog (spec_ValueOk.E k) spec_ValueOk.h k Try.f180 (spec_ValueOk.as a0_0 a0_1 a0_2 a0_3 a0_4) K0 = spec_ValueOk.g k a0_0 a0_1 a0_2 a0_3 a0_4 (spec_ValueOk.kt a0_0 a0_1 a0_2 a0_3 a0_4 K0) := by kernel_rfl
noncomputable def spec_ValueOk.dec (rs : List (List C)) (os : List Out) : Option (Bool) := Zd rs fun c1 r2 => Zd c1 fun x3 l4 => cD x3 fun d5 => ZaF d5 fun w0 => Ze l4 <| Ze r2 <| Ze os (some w0)
theorem spec_ValueOk.kt_dec (a0_0 : Int) (a0_1 : ByteArray) (a0_2 : Int) (a0_3 : List (List D)) (a0_4 : List (List D)) : spec_ValueOk.kt a0_0 a0_1 a0_2 a0_3 a0_4 spec_ValueOk.dec = (fun z0 => some z0) := by kernel_rfl
theorem spec_ValueOk.inj (a0_0 : Int) (a0_1 : ByteArray) (a0_2 : Int) (a0_3 : List (List D)) (a0_4 : List (List D)) {rs : List (List C)} {os : List Out} {z0 : Bool} (h : spec_ValueOk.dec rs os = some z0) (ho : Zo (spec_ValueOk.as a0_0 a0_1 a0_2 a0_3 a0_4) os) : rs = [[.d (.bool z0)]] ∧ os = [] := by
  unfold spec_ValueOk.dec at h
  obtain ⟨c1, r2, rfl, h1⟩ := Zb h
  obtain ⟨x3, l4, rfl, h2⟩ := Zb h1
  obtain ⟨d5, rfl, h3⟩ := Zt h2
  obtain ⟨w0, rfl, h4⟩ := Z0 h3
  obtain ⟨rfl, h5⟩ := Zc h4
  obtain ⟨rfl, h6⟩ := Zc h5
  obtain ⟨rfl, h7⟩ := Zc h6
  obtain rfl := Option.some.inj h7
  exact ⟨rfl, rfl⟩
theorem spec_ValueOk.ok (k : Nat) : Zv Try.prog 180 (spec_ValueOk.e k) := by
  refine Zu mix tyok (fn := Try.f180) (c := Zl Try.f180) Try.func180 (by kernel_rfl) (h := spec_ValueOk.h) (k := k) (E := spec_ValueOk.E k) (Zk (spec_l4Look.ok k) Zz) (by kernel_rfl) (by kernel_rfl) rfl (Zq Try.func180 (by kernel_rfl)) ?_
  intro β l K r hr
  simp only [spec_ValueOk.e] at hr
  split at hr
  case h_2 => cases hr
  unfold spec_ValueOk.f at hr
  split at hr
  case h_2 => cases hr
  rename_i hz
  exact ⟨_, _, hr, _, spec_ValueOk.dec, _, (spec_ValueOk.f_eq k _ _ _ _ _ spec_ValueOk.dec).trans (by rw [spec_ValueOk.kt_dec]; exact hz), fun rs os h ho => spec_ValueOk.inj _ _ _ _ _ h ho⟩
noncomputable def spec_WorksOk.l0 {β : Type} (k : Nat) (v0_0 : List (List D)) (K : Bool → Option β) (L0 : Int → Option β) (v : Int) : Option β :=
  match v with
  | v0_1 => bif (decide ((v0_1 : Int) < (v0_0.length : Int))) then (ZX v0_0 v0_1 fun c74 => Zd c74 fun d75 r76 => ZM .i64 d75 fun x77 => Zd r76 fun d78 r79 => ZM .i64 d78 fun x80 => Zd r79 fun d81 r82 => ZM .i64 d81 fun x83 => Zd r82 fun d84 r85 => Zan d84 fun x86 => Zd r85 fun d87 r88 => ZM .i64 d87 fun x89 => Zd r88 fun d90 r91 => dSl d90 fun x92 => Zd r91 fun d93 r94 => dSl d93 fun x95 => Ze r94 (spec_l1In.f k x77 1 1000000 (fun y96 => bif (!y96) then (K false) else (spec_l1In.f k x80 1 10000 (fun y97 => bif (!y97) then (K false) else (spec_ValueOk.f k x83 x86 x89 x92 x95 (fun y98 => bif (!y98) then (K false) else (bif (decide ((v0_1 : Int) > 0)) then (ZX v0_0 (IntKind.wrap .i64 (v0_1 - 1)) fun c99 => Zd c99 fun d100 r101 => ZM .i64 d100 fun x102 => Zd r101 fun d103 r104 => ZM .i64 d103 fun x105 => Zd r104 fun d106 r107 => ZM .i64 d106 fun x108 => Zd r107 fun d109 r110 => Zan d109 fun x111 => Zd r110 fun d112 r113 => ZM .i64 d112 fun x114 => Zd r113 fun d115 r116 => dSl d115 fun x117 => Zd r116 fun d118 r119 => dSl d118 fun x120 => Ze r119 (bif (decide ((x102 : Int) ≥ x77)) then (K false) else (L0 (IntKind.wrap .i64 (v0_1 + 1))))) else (L0 (IntKind.wrap .i64 (v0_1 + 1))))))))))) else (K (decide (((v0_0.length : Int) : Int) ≤ 40)))
noncomputable def spec_WorksOk.g {β : Type} (k : Nat) (a0 : List (List D)) (K : Bool → Option β) : Option β :=
  Z4 (spec_WorksOk.l0 k a0 K) k (0)
noncomputable def spec_WorksOk.t (k : Nat) (a0 : List (List D)) : Option (Bool) := spec_WorksOk.g k a0 (fun z0 => some z0)
noncomputable def spec_WorksOk.f {β : Type} (k : Nat) (a0 : List (List D)) (K : Bool → Option β) : Option β :=
  match spec_WorksOk.t k a0 with
  | some z0 => K z0
  | none => none
noncomputable def spec_WorksOk.as (a0 : List (List D)) : List A := [.d (.sl a0)]
noncomputable def spec_WorksOk.kt {β : Type} (a0 : List (List D)) (K0 : List (List C) → List Out → Option β) : Bool → Option β := fun z0 => K0 [[.d (.bool z0)]] []
noncomputable def spec_WorksOk.e (k : Nat) : ZQ := { modes := [(.imm, 0)], rts := [4], al := false, run := fun {β} l K => match l with | [.d (.sl a0)] => spec_WorksOk.f k a0 (spec_WorksOk.kt a0 K) | _ => none }
noncomputable def spec_WorksOk.E (k : Nat) : Env := fun g => bif g == 123 then some (spec_l1In.e k) else bif g == 180 then some (spec_ValueOk.e k) else none
noncomputable def spec_WorksOk.h : ZY := ⟨fun n => bif n == 2 then ⟨[(0, .asis), (3, .asis)], []⟩ else ⟨[], []⟩, fun _ => none, false, []⟩
noncomputable def spec_WorksOk.s0 (v0_0 : List (List D)) (v : Int) : St :=
  match v with
  | v0_1 => ⟨[.d false (.sl v0_0), .any, .any, .d true (.int .i64 v0_1), .any, .any, .any, .any, .any, .any, .any, .any, .any, .any, .any, .any, .any, .any, .any, .any, .any, .any, .any, .any, .any, .any, .any, .any, .any, .any, .any, .any, .any, .any, .any, .any, .any, .any, .any, .any, .any, .any, .any, .any, .any, .any, .any, .any, .any], []⟩
noncomputable def spec_WorksOk.b0 {β : Type} (k : Nat) : St → (Ex → St → Option β) → Option β := fun s K => den Try.prog (spec_WorksOk.E k) spec_WorksOk.h.H spec_WorksOk.h.J k (Zad [1, 0, 1, 0, 0] (Zl Try.f104)) s K
noncomputable def spec_WorksOk.c0 {β : Type} (k : Nat) (a0 : List (List D)) (K0 : List (List C) → List Out → Option β) : Ex → St → Option β := Zae Try.prog (spec_WorksOk.E k) spec_WorksOk.h k [1, 0, 1, 0] (Zl Try.f104) (Zak Try.prog Try.f104 spec_WorksOk.h (spec_WorksOk.as a0) K0)
theorem spec_WorksOk.l0_eq {β : Type} (k : Nat) (a0 : List (List D)) (K0 : List (List C) → List Out → Option β) (v0_0 : List (List D)) : ∀ (kk : Nat) (v : Int), Zx (spec_WorksOk.b0 k) (spec_WorksOk.h.H 2) kk (spec_WorksOk.s0 v0_0 v) (spec_WorksOk.c0 k a0 K0) = Z4 (spec_WorksOk.l0 k v0_0 (spec_WorksOk.kt a0 K0)) kk v :=
  Z9 (spec_WorksOk.s0 v0_0) _ (fun L0 v => by kernel_rfl)
noncomputable def spec_WorksOk.m {β : Type} (k : Nat) (a0 : List (List D)) (K0 : List (List C) → List Out → Option β) (F : ((List (List D)) → Int → Option β)) : Option β :=
  (F) a0 (0)
theorem spec_WorksOk.f_eq {β : Type} (k : Nat) (a0 : List (List D)) (K0 : List (List C) → List Out → Option β) : ZJ Try.prog (spec_WorksOk.E k) spec_WorksOk.h k Try.f104 (spec_WorksOk.as a0) K0 = spec_WorksOk.g k a0 (spec_WorksOk.kt a0 K0) := Eq.trans (b := (spec_WorksOk.m k a0 K0) (fun (v0_0 : List (List D)) (v : Int) => Zx (spec_WorksOk.b0 k) (spec_WorksOk.h.H 2) k (spec_WorksOk.s0 v0_0 v) (spec_WorksOk.c0 k a0 K0))) (by kernel_rfl) (Eq.trans (congrArg (spec_WorksOk.m k a0 K0) (funext fun v0_0 => funext fun v => spec_WorksOk.l0_eq k a0 K0 v0_0 k v)) (by kernel_rfl))
noncomputable def spec_WorksOk.dec (rs : List (List C)) (os : List Out) : Option (Bool) := Zd rs fun c1 r2 => Zd c1 fun x3 l4 => cD x3 fun d5 => ZaF d5 fun w0 => Ze l4 <| Ze r2 <| Ze os (some w0)
theorem spec_WorksOk.kt_dec (a0 : List (List D)) : spec_WorksOk.kt a0 spec_WorksOk.dec = (fun z0 => some z0) := by kernel_rfl
theorem spec_WorksOk.inj (a0 : List (List D)) {rs : List (List C)} {os : List Out} {z0 : Bool} (h : spec_WorksOk.dec rs os = some z0) (ho : Zo (spec_WorksOk.as a0) os) : rs = [[.d (.bool z0)]] ∧ os = [] := by
  unfold spec_WorksOk.dec at h
  obtain ⟨c1, r2, rfl, h1⟩ := Zb h
  obtain ⟨x3, l4, rfl, h2⟩ := Zb h1
  obtain ⟨d5, rfl, h3⟩ := Zt h2
  obtain ⟨w0, rfl, h4⟩ := Z0 h3
  obtain ⟨rfl, h5⟩ := Zc h4
  obtain ⟨rfl, h6⟩ := Zc h5
  obtain ⟨rfl, h7⟩ := Zc h6
  obtain rfl := Option.some.inj h7
  exact ⟨rfl, rfl⟩
theorem spec_WorksOk.ok (k : Nat) : Zv Try.prog 104 (spec_WorksOk.e k) := by
  refine Zu mix tyok (fn := Try.f104) (c := Zl Try.f104) Try.func104 (by kernel_rfl) (h := spec_WorksOk.h) (k := k) (E := spec_WorksOk.E k) (Zk (spec_l1In.ok k) (Zk (spec_ValueOk.ok k) Zz)) (by kernel_rfl) (by kernel_rfl) rfl (Zq Try.func104 (by kernel_rfl)) ?_
  intro β l K r hr
  simp only [spec_WorksOk.e] at hr
  split at hr
  case h_2 => cases hr
  unfold spec_WorksOk.f at hr
  split at hr
  case h_2 => cases hr
  rename_i hz
  exact ⟨_, _, hr, _, spec_WorksOk.dec, _, (spec_WorksOk.f_eq k _ spec_WorksOk.dec).trans (by rw [spec_WorksOk.kt_dec]; exact hz), fun rs os h ho => spec_WorksOk.inj _ h ho⟩
noncomputable def spec_l11Runs.l0 {β : Type} (k : Nat) (v0_0 : List (List D)) (v0_1 : Int) (K : Bool → Option β) (L0 : Int → Option β) (v : Int) : Option β :=
  match v with
  | v0_2 => bif (decide ((v0_2 : Int) < (v0_0.length : Int))) then (ZX v0_0 v0_2 fun c31 => Zd c31 fun d32 r33 => ZM .i64 d32 fun x34 => Zd r33 fun d35 r36 => ZM .i64 d35 fun x37 => Ze r36 (spec_l1In.f k x34 1 1000000 (fun y38 => bif (!y38) then (K false) else (ZX v0_0 v0_2 fun c39 => Zd c39 fun d40 r41 => ZM .i64 d40 fun x42 => Zd r41 fun d43 r44 => ZM .i64 d43 fun x45 => Ze r44 (spec_l1In.f k x45 v0_1 10000 (fun y46 => bif (!y46) then (K false) else (bif (decide ((v0_2 : Int) > 0)) then (ZX v0_0 (IntKind.wrap .i64 (v0_2 - 1)) fun c47 => Zd c47 fun d48 r49 => ZM .i64 d48 fun x50 => Zd r49 fun d51 r52 => ZM .i64 d51 fun x53 => Ze r52 (ZX v0_0 v0_2 fun c54 => Zd c54 fun d55 r56 => ZM .i64 d55 fun x57 => Zd r56 fun d58 r59 => ZM .i64 d58 fun x60 => Ze r59 (bif (decide ((x50 : Int) ≥ x57)) then (K false) else (L0 (IntKind.wrap .i64 (v0_2 + 1)))))) else (L0 (IntKind.wrap .i64 (v0_2 + 1)))))))))) else (K (decide (((v0_0.length : Int) : Int) ≤ 80)))
noncomputable def spec_l11Runs.g {β : Type} (k : Nat) (a0 : List (List D)) (a1 : Int) (K : Bool → Option β) : Option β :=
  Z4 (spec_l11Runs.l0 k a0 a1 K) k (0)
noncomputable def spec_l11Runs.t (k : Nat) (a0 : List (List D)) (a1 : Int) : Option (Bool) := spec_l11Runs.g k a0 a1 (fun z0 => some z0)
noncomputable def spec_l11Runs.f {β : Type} (k : Nat) (a0 : List (List D)) (a1 : Int) (K : Bool → Option β) : Option β :=
  match spec_l11Runs.t k a0 a1 with
  | some z0 => K z0
  | none => none
noncomputable def spec_l11Runs.as (a0 : List (List D)) (a1 : Int) : List A := [.d (.sl a0), .d (.int .i64 a1)]
noncomputable def spec_l11Runs.kt {β : Type} (a0 : List (List D)) (a1 : Int) (K0 : List (List C) → List Out → Option β) : Bool → Option β := fun z0 => K0 [[.d (.bool z0)]] []
noncomputable def spec_l11Runs.e (k : Nat) : ZQ := { modes := [(.imm, 0), (.imm, 0)], rts := [4], al := false, run := fun {β} l K => match l with | [.d (.sl a0), .d (.int .i64 a1)] => spec_l11Runs.f k a0 a1 (spec_l11Runs.kt a0 a1 K) | _ => none }
noncomputable def spec_l11Runs.E (k : Nat) : Env := fun g => bif g == 123 then some (spec_l1In.e k) else none
noncomputable def spec_l11Runs.h : ZY := ⟨fun n => bif n == 2 then ⟨[(0, .asis), (1, .asis), (5, .asis)], []⟩ else ⟨[], []⟩, fun _ => none, false, []⟩
noncomputable def spec_l11Runs.s0 (v0_0 : List (List D)) (v0_1 : Int) (v : Int) : St :=
  match v with
  | v0_2 => ⟨[.d false (.sl v0_0), .d false (.int .i64 v0_1), .any, .any, .any, .d true (.int .i64 v0_2), .any, .any, .any, .any, .any, .any, .any, .any, .any, .any, .any, .any, .any, .any, .any, .any, .any, .any, .any, .any, .any, .any, .any, .any, .any, .any, .any, .any, .any, .any, .any, .any, .any, .any, .any, .any, .any, .any, .any, .any, .any, .any, .any, .any], []⟩
noncomputable def spec_l11Runs.b0 {β : Type} (k : Nat) : St → (Ex → St → Option β) → Option β := fun s K => den Try.prog (spec_l11Runs.E k) spec_l11Runs.h.H spec_l11Runs.h.J k (Zad [1, 0, 1, 0, 0] (Zl Try.f179)) s K
noncomputable def spec_l11Runs.c0 {β : Type} (k : Nat) (a0 : List (List D)) (a1 : Int) (K0 : List (List C) → List Out → Option β) : Ex → St → Option β := Zae Try.prog (spec_l11Runs.E k) spec_l11Runs.h k [1, 0, 1, 0] (Zl Try.f179) (Zak Try.prog Try.f179 spec_l11Runs.h (spec_l11Runs.as a0 a1) K0)
theorem spec_l11Runs.l0_eq {β : Type} (k : Nat) (a0 : List (List D)) (a1 : Int) (K0 : List (List C) → List Out → Option β) (v0_0 : List (List D)) (v0_1 : Int) : ∀ (kk : Nat) (v : Int), Zx (spec_l11Runs.b0 k) (spec_l11Runs.h.H 2) kk (spec_l11Runs.s0 v0_0 v0_1 v) (spec_l11Runs.c0 k a0 a1 K0) = Z4 (spec_l11Runs.l0 k v0_0 v0_1 (spec_l11Runs.kt a0 a1 K0)) kk v :=
  Z9 (spec_l11Runs.s0 v0_0 v0_1) _ (fun L0 v => by kernel_rfl)
noncomputable def spec_l11Runs.m {β : Type} (k : Nat) (a0 : List (List D)) (a1 : Int) (K0 : List (List C) → List Out → Option β) (F : ((List (List D)) → Int → Int → Option β)) : Option β :=
  (F) a0 a1 (0)
theorem spec_l11Runs.f_eq {β : Type} (k : Nat) (a0 : List (List D)) (a1 : Int) (K0 : List (List C) → List Out → Option β) : ZJ Try.prog (spec_l11Runs.E k) spec_l11Runs.h k Try.f179 (spec_l11Runs.as a0 a1) K0 = spec_l11Runs.g k a0 a1 (spec_l11Runs.kt a0 a1 K0) := Eq.trans (b := (spec_l11Runs.m k a0 a1 K0) (fun (v0_0 : List (List D)) (v0_1 : Int) (v : Int) => Zx (spec_l11Runs.b0 k) (spec_l11Runs.h.H 2) k (spec_l11Runs.s0 v0_0 v0_1 v) (spec_l11Runs.c0 k a0 a1 K0))) (by kernel_rfl) (Eq.trans (congrArg (spec_l11Runs.m k a0 a1 K0) (funext fun v0_0 => funext fun v0_1 => funext fun v => spec_l11Runs.l0_eq k a0 a1 K0 v0_0 v0_1 k v)) (by kernel_rfl))
noncomputable def spec_l11Runs.dec (rs : List (List C)) (os : List Out) : Option (Bool) := Zd rs fun c1 r2 => Zd c1 fun x3 l4 => cD x3 fun d5 => ZaF d5 fun w0 => Ze l4 <| Ze r2 <| Ze os (some w0)
theorem spec_l11Runs.kt_dec (a0 : List (List D)) (a1 : Int) : spec_l11Runs.kt a0 a1 spec_l11Runs.dec = (fun z0 => some z0) := by kernel_rfl
theorem spec_l11Runs.inj (a0 : List (List D)) (a1 : Int) {rs : List (List C)} {os : List Out} {z0 : Bool} (h : spec_l11Runs.dec rs os = some z0) (ho : Zo (spec_l11Runs.as a0 a1) os) : rs = [[.d (.bool z0)]] ∧ os = [] := by
  unfold spec_l11Runs.dec at h
  obtain ⟨c1, r2, rfl, h1⟩ := Zb h
  obtain ⟨x3, l4, rfl, h2⟩ := Zb h1
  obtain ⟨d5, rfl, h3⟩ := Zt h2
  obtain ⟨w0, rfl, h4⟩ := Z0 h3
  obtain ⟨rfl, h5⟩ := Zc h4
  obtain ⟨rfl, h6⟩ := Zc h5
  obtain ⟨rfl, h7⟩ := Zc h6
  obtain rfl := Option.some.inj h7
  exact ⟨rfl, rfl⟩
theorem spec_l11Runs.ok (k : Nat) : Zv Try.prog 179 (spec_l11Runs.e k) := by
  refine Zu mix tyok (fn := Try.f179) (c := Zl Try.f179) Try.func179 (by kernel_rfl) (h := spec_l11Runs.h) (k := k) (E := spec_l11Runs.E k) (Zk (spec_l1In.ok k) Zz) (by kernel_rfl) (by kernel_rfl) rfl (Zq Try.func179 (by kernel_rfl)) ?_
  intro β l K r hr
  simp only [spec_l11Runs.e] at hr
  split at hr
  case h_2 => cases hr
  unfold spec_l11Runs.f at hr
  split at hr
  case h_2 => cases hr
  rename_i hz
  exact ⟨_, _, hr, _, spec_l11Runs.dec, _, (spec_l11Runs.f_eq k _ _ spec_l11Runs.dec).trans (by rw [spec_l11Runs.kt_dec]; exact hz), fun rs os h ho => spec_l11Runs.inj _ _ h ho⟩
noncomputable def spec_l13Sum.l0 {β : Type} (k : Nat) (v0_0 : List (List D)) (K : Int → Option β) (L0 : (Int × Int) → Option β) (v : Int × Int) : Option β :=
  match v with
  | (v0_1, v0_2) => bif (decide ((v0_2 : Int) < (v0_0.length : Int))) then (ZX v0_0 v0_2 fun c8 => Zd c8 fun d9 r10 => ZM .i64 d9 fun x11 => Zd r10 fun d12 r13 => ZM .i64 d12 fun x14 => Ze r13 (L0 (IntKind.wrap .i64 (v0_1 + x14), IntKind.wrap .i64 (v0_2 + 1)))) else (K v0_1)
noncomputable def spec_l13Sum.g {β : Type} (k : Nat) (a0 : List (List D)) (K : Int → Option β) : Option β :=
  Z4 (spec_l13Sum.l0 k a0 K) k (0, 0)
noncomputable def spec_l13Sum.t (k : Nat) (a0 : List (List D)) : Option (Int) := spec_l13Sum.g k a0 (fun z0 => some z0)
noncomputable def spec_l13Sum.f {β : Type} (k : Nat) (a0 : List (List D)) (K : Int → Option β) : Option β :=
  match spec_l13Sum.t k a0 with
  | some z0 => K z0
  | none => none
noncomputable def spec_l13Sum.as (a0 : List (List D)) : List A := [.d (.sl a0)]
noncomputable def spec_l13Sum.kt {β : Type} (a0 : List (List D)) (K0 : List (List C) → List Out → Option β) : Int → Option β := fun z0 => K0 [[.d (.int .i64 z0)]] []
noncomputable def spec_l13Sum.e (k : Nat) : ZQ := { modes := [(.imm, 0)], rts := [3], al := false, run := fun {β} l K => match l with | [.d (.sl a0)] => spec_l13Sum.f k a0 (spec_l13Sum.kt a0 K) | _ => none }
noncomputable def spec_l13Sum.E (k : Nat) : Env := fun g => none
noncomputable def spec_l13Sum.h : ZY := ⟨fun n => bif n == 3 then ⟨[(0, .asis), (3, .asis), (4, .asis)], []⟩ else ⟨[], []⟩, fun _ => none, false, []⟩
noncomputable def spec_l13Sum.s0 (v0_0 : List (List D)) (v : Int × Int) : St :=
  match v with
  | (v0_1, v0_2) => ⟨[.d false (.sl v0_0), .any, .any, .d true (.int .i64 v0_1), .d true (.int .i64 v0_2), .any, .any, .any, .any, .any, .any, .any, .any, .any, .any, .any, .any, .any, .any], []⟩
noncomputable def spec_l13Sum.b0 {β : Type} (k : Nat) : St → (Ex → St → Option β) → Option β := fun s K => den Try.prog (spec_l13Sum.E k) spec_l13Sum.h.H spec_l13Sum.h.J k (Zad [1, 1, 0, 1, 0, 0] (Zl Try.f153)) s K
noncomputable def spec_l13Sum.c0 {β : Type} (k : Nat) (a0 : List (List D)) (K0 : List (List C) → List Out → Option β) : Ex → St → Option β := Zae Try.prog (spec_l13Sum.E k) spec_l13Sum.h k [1, 1, 0, 1, 0] (Zl Try.f153) (Zak Try.prog Try.f153 spec_l13Sum.h (spec_l13Sum.as a0) K0)
theorem spec_l13Sum.l0_eq {β : Type} (k : Nat) (a0 : List (List D)) (K0 : List (List C) → List Out → Option β) (v0_0 : List (List D)) : ∀ (kk : Nat) (v : Int × Int), Zx (spec_l13Sum.b0 k) (spec_l13Sum.h.H 3) kk (spec_l13Sum.s0 v0_0 v) (spec_l13Sum.c0 k a0 K0) = Z4 (spec_l13Sum.l0 k v0_0 (spec_l13Sum.kt a0 K0)) kk v :=
  Z9 (spec_l13Sum.s0 v0_0) _ (fun L0 v => by obtain ⟨v0_1, v0_2⟩ := v; kernel_rfl)
noncomputable def spec_l13Sum.m {β : Type} (k : Nat) (a0 : List (List D)) (K0 : List (List C) → List Out → Option β) (F : ((List (List D)) → (Int × Int) → Option β)) : Option β :=
  (F) a0 (0, 0)
theorem spec_l13Sum.f_eq {β : Type} (k : Nat) (a0 : List (List D)) (K0 : List (List C) → List Out → Option β) : ZJ Try.prog (spec_l13Sum.E k) spec_l13Sum.h k Try.f153 (spec_l13Sum.as a0) K0 = spec_l13Sum.g k a0 (spec_l13Sum.kt a0 K0) := Eq.trans (b := (spec_l13Sum.m k a0 K0) (fun (v0_0 : List (List D)) (v : Int × Int) => Zx (spec_l13Sum.b0 k) (spec_l13Sum.h.H 3) k (spec_l13Sum.s0 v0_0 v) (spec_l13Sum.c0 k a0 K0))) (by kernel_rfl) (Eq.trans (congrArg (spec_l13Sum.m k a0 K0) (funext fun v0_0 => funext fun v => spec_l13Sum.l0_eq k a0 K0 v0_0 k v)) (by kernel_rfl))
noncomputable def spec_l13Sum.dec (rs : List (List C)) (os : List Out) : Option (Int) := Zd rs fun c1 r2 => Zd c1 fun x3 l4 => cD x3 fun d5 => ZM .i64 d5 fun w0 => Ze l4 <| Ze r2 <| Ze os (some w0)
theorem spec_l13Sum.kt_dec (a0 : List (List D)) : spec_l13Sum.kt a0 spec_l13Sum.dec = (fun z0 => some z0) := by kernel_rfl
theorem spec_l13Sum.inj (a0 : List (List D)) {rs : List (List C)} {os : List Out} {z0 : Int} (h : spec_l13Sum.dec rs os = some z0) (ho : Zo (spec_l13Sum.as a0) os) : rs = [[.d (.int .i64 z0)]] ∧ os = [] := by
  unfold spec_l13Sum.dec at h
  obtain ⟨c1, r2, rfl, h1⟩ := Zb h
  obtain ⟨x3, l4, rfl, h2⟩ := Zb h1
  obtain ⟨d5, rfl, h3⟩ := Zt h2
  obtain ⟨w0, rfl, h4⟩ := ZA h3
  obtain ⟨rfl, h5⟩ := Zc h4
  obtain ⟨rfl, h6⟩ := Zc h5
  obtain ⟨rfl, h7⟩ := Zc h6
  obtain rfl := Option.some.inj h7
  exact ⟨rfl, rfl⟩
theorem spec_l13Sum.ok (k : Nat) : Zv Try.prog 153 (spec_l13Sum.e k) := by
  refine Zu mix tyok (fn := Try.f153) (c := Zl Try.f153) Try.func153 (by kernel_rfl) (h := spec_l13Sum.h) (k := k) (E := spec_l13Sum.E k) Zz (by kernel_rfl) (by kernel_rfl) rfl (Zq Try.func153 (by kernel_rfl)) ?_
  intro β l K r hr
  simp only [spec_l13Sum.e] at hr
  split at hr
  case h_2 => cases hr
  unfold spec_l13Sum.f at hr
  split at hr
  case h_2 => cases hr
  rename_i hz
  exact ⟨_, _, hr, _, spec_l13Sum.dec, _, (spec_l13Sum.f_eq k _ spec_l13Sum.dec).trans (by rw [spec_l13Sum.kt_dec]; exact hz), fun rs os h ho => spec_l13Sum.inj _ h ho⟩
noncomputable def spec_IsleOk.g {β : Type} (k : Nat) (a0_0 : ByteArray) (a0_1 : Int) (a0_2 : Int) (a0_3 : List (List D)) (a0_4 : List (List D)) (K : Bool → Option β) : Option β :=
  spec_NameOk.f k a0_0 (fun y17 => bif y17 then (spec_l1In.f k a0_1 0 10000 (fun y18 => bif y18 then (spec_l1In.f k a0_2 0 1000000 (fun y19 => bif y19 then (spec_WorksOk.f k a0_3 (fun y121 => bif y121 then (spec_l11Runs.f k a0_4 1 (fun y122 => bif y122 then (spec_l13Sum.f k a0_4 (fun y123 => K (decide ((y123 : Int) ≤ a0_1)))) else (K false))) else (K false))) else (K false))) else (K false))) else (K false))
noncomputable def spec_IsleOk.t (k : Nat) (a0_0 : ByteArray) (a0_1 : Int) (a0_2 : Int) (a0_3 : List (List D)) (a0_4 : List (List D)) : Option (Bool) := spec_IsleOk.g k a0_0 a0_1 a0_2 a0_3 a0_4 (fun z0 => some z0)
noncomputable def spec_IsleOk.f {β : Type} (k : Nat) (a0_0 : ByteArray) (a0_1 : Int) (a0_2 : Int) (a0_3 : List (List D)) (a0_4 : List (List D)) (K : Bool → Option β) : Option β :=
  match spec_IsleOk.t k a0_0 a0_1 a0_2 a0_3 a0_4 with
  | some z0 => K z0
  | none => none
noncomputable def spec_IsleOk.as (a0_0 : ByteArray) (a0_1 : Int) (a0_2 : Int) (a0_3 : List (List D)) (a0_4 : List (List D)) : List A := [.agg [.str a0_0, .int .i64 a0_1, .int .i64 a0_2, .sl a0_3, .sl a0_4]]
noncomputable def spec_IsleOk.kt {β : Type} (a0_0 : ByteArray) (a0_1 : Int) (a0_2 : Int) (a0_3 : List (List D)) (a0_4 : List (List D)) (K0 : List (List C) → List Out → Option β) : Bool → Option β := fun z0 => K0 [[.d (.bool z0)]] []
noncomputable def spec_IsleOk.e (k : Nat) : ZQ := { modes := [(.imm, 0)], rts := [4], al := false, run := fun {β} l K => match l with | [.agg [.str a0_0, .int .i64 a0_1, .int .i64 a0_2, .sl a0_3, .sl a0_4]] => spec_IsleOk.f k a0_0 a0_1 a0_2 a0_3 a0_4 (spec_IsleOk.kt a0_0 a0_1 a0_2 a0_3 a0_4 K) | _ => none }
noncomputable def spec_IsleOk.E (k : Nat) : Env := fun g => bif g == 94 then some (spec_NameOk.e k) else bif g == 123 then some (spec_l1In.e k) else bif g == 104 then some (spec_WorksOk.e k) else bif g == 179 then some (spec_l11Runs.e k) else bif g == 153 then some (spec_l13Sum.e k) else none
noncomputable def spec_IsleOk.h : ZY := ⟨fun n => ⟨[], []⟩, fun _ => none, false, []⟩
theorem spec_IsleOk.f_eq {β : Type} (k : Nat) (a0_0 : ByteArray) (a0_1 : Int) (a0_2 : Int) (a0_3 : List (List D)) (a0_4 : List (List D)) (K0 : List (List C) → List Out → Option β) : ZJ Try.prog (spec_IsleOk.E k) spec_IsleOk.h k Try.f103 (spec_IsleOk.as a0_0 a0_1 a0_2 a0_3 a0_4) K0 = spec_IsleOk.g k a0_0 a0_1 a0_2 a0_3 a0_4 (spec_IsleOk.kt a0_0 a0_1 a0_2 a0_3 a0_4 K0) := by kernel_rfl
noncomputable def spec_IsleOk.dec (rs : List (List C)) (os : List Out) : Option (Bool) := Zd rs fun c1 r2 => Zd c1 fun x3 l4 => cD x3 fun d5 => ZaF d5 fun w0 => Ze l4 <| Ze r2 <| Ze os (some w0)
theorem spec_IsleOk.kt_dec (a0_0 : ByteArray) (a0_1 : Int) (a0_2 : Int) (a0_3 : List (List D)) (a0_4 : List (List D)) : spec_IsleOk.kt a0_0 a0_1 a0_2 a0_3 a0_4 spec_IsleOk.dec = (fun z0 => some z0) := by kernel_rfl
theorem spec_IsleOk.inj (a0_0 : ByteArray) (a0_1 : Int) (a0_2 : Int) (a0_3 : List (List D)) (a0_4 : List (List D)) {rs : List (List C)} {os : List Out} {z0 : Bool} (h : spec_IsleOk.dec rs os = some z0) (ho : Zo (spec_IsleOk.as a0_0 a0_1 a0_2 a0_3 a0_4) os) : rs = [[.d (.bool z0)]] ∧ os = [] := by
  unfold spec_IsleOk.dec at h
  obtain ⟨c1, r2, rfl, h1⟩ := Zb h
  obtain ⟨x3, l4, rfl, h2⟩ := Zb h1
  obtain ⟨d5, rfl, h3⟩ := Zt h2
  obtain ⟨w0, rfl, h4⟩ := Z0 h3
  obtain ⟨rfl, h5⟩ := Zc h4
  obtain ⟨rfl, h6⟩ := Zc h5
  obtain ⟨rfl, h7⟩ := Zc h6
  obtain rfl := Option.some.inj h7
  exact ⟨rfl, rfl⟩
theorem spec_IsleOk.ok (k : Nat) : Zv Try.prog 103 (spec_IsleOk.e k) := by
  refine Zu mix tyok (fn := Try.f103) (c := Zl Try.f103) Try.func103 (by kernel_rfl) (h := spec_IsleOk.h) (k := k) (E := spec_IsleOk.E k) (Zk (spec_NameOk.ok k) (Zk (spec_l1In.ok k) (Zk (spec_WorksOk.ok k) (Zk (spec_l11Runs.ok k) (Zk (spec_l13Sum.ok k) Zz))))) (by kernel_rfl) (by kernel_rfl) rfl (Zq Try.func103 (by kernel_rfl)) ?_
  intro β l K r hr
  simp only [spec_IsleOk.e] at hr
  split at hr
  case h_2 => cases hr
  unfold spec_IsleOk.f at hr
  split at hr
  case h_2 => cases hr
  rename_i hz
  exact ⟨_, _, hr, _, spec_IsleOk.dec, _, (spec_IsleOk.f_eq k _ _ _ _ _ spec_IsleOk.dec).trans (by rw [spec_IsleOk.kt_dec]; exact hz), fun rs os h ho => spec_IsleOk.inj _ _ _ _ _ h ho⟩
noncomputable def spec_Obey.g {β : Type} (k : Nat) (a0_0 : ByteArray) (a0_1 : Int) (a0_2 : Int) (a0_3 : List (List D)) (a0_4 : List (List D)) (a1 : Int) (a2 : List (List D)) (K : ByteArray → Int → Int → (List (List C)) → (List (List C)) → Bool → Option β) : Option β :=
  spec_l13Copy.f k a0_0 a0_1 a0_2 a0_3 a0_4 (fun y144 y145 y146 y147 y148 => spec_IsleOk.f k a0_0 a0_1 a0_2 a0_3 a0_4 (fun y149 => bif (!y149) then (K y144 y145 y146 y147 y148 false) else (spec_WorksOk.f k a2 (fun y150 => bif (!y150) then (K y144 y145 y146 y147 y148 false) else (bif (decide ((a1 : Int) ≤ a0_2)) then (K y144 y145 y146 y147 y148 false) else (bif (decide ((a1 : Int) > 1000000)) then (K y144 y145 y146 y147 y148 false) else (spec_l12Works.f k a2 (fun y151 => K y144 y145 a1 y151 y148 true))))))))
noncomputable def spec_Obey.t (k : Nat) (a0_0 : ByteArray) (a0_1 : Int) (a0_2 : Int) (a0_3 : List (List D)) (a0_4 : List (List D)) (a1 : Int) (a2 : List (List D)) : Option (ByteArray × Int × Int × (List (List C)) × (List (List C)) × Bool) := spec_Obey.g k a0_0 a0_1 a0_2 a0_3 a0_4 a1 a2 (fun z0 z1 z2 z3 z4 z5 => some (z0, z1, z2, z3, z4, z5))
noncomputable def spec_Obey.f {β : Type} (k : Nat) (a0_0 : ByteArray) (a0_1 : Int) (a0_2 : Int) (a0_3 : List (List D)) (a0_4 : List (List D)) (a1 : Int) (a2 : List (List D)) (K : ByteArray → Int → Int → (List (List C)) → (List (List C)) → Bool → Option β) : Option β :=
  match spec_Obey.t k a0_0 a0_1 a0_2 a0_3 a0_4 a1 a2 with
  | some (z0, z1, z2, z3, z4, z5) => K z0 z1 z2 z3 z4 z5
  | none => none
noncomputable def spec_Obey.as (a0_0 : ByteArray) (a0_1 : Int) (a0_2 : Int) (a0_3 : List (List D)) (a0_4 : List (List D)) (a1 : Int) (a2 : List (List D)) : List A := [.agg [.str a0_0, .int .i64 a0_1, .int .i64 a0_2, .sl a0_3, .sl a0_4], .d (.int .i64 a1), .d (.sl a2)]
noncomputable def spec_Obey.kt {β : Type} (a0_0 : ByteArray) (a0_1 : Int) (a0_2 : Int) (a0_3 : List (List D)) (a0_4 : List (List D)) (a1 : Int) (a2 : List (List D)) (K0 : List (List C) → List Out → Option β) : ByteArray → Int → Int → (List (List C)) → (List (List C)) → Bool → Option β := fun z0 z1 z2 z3 z4 z5 => K0 [[.d (.str z0), .d (.int .i64 z1), .d (.int .i64 z2), .own z3, .own z4], [.d (.bool z5)]] []
noncomputable def spec_Obey.e (k : Nat) : ZQ := { modes := [(.imm, 0), (.imm, 0), (.imm, 0)], rts := [62, 4], al := false, run := fun {β} l K => match l with | [.agg [.str a0_0, .int .i64 a0_1, .int .i64 a0_2, .sl a0_3, .sl a0_4], .d (.int .i64 a1), .d (.sl a2)] => spec_Obey.f k a0_0 a0_1 a0_2 a0_3 a0_4 a1 a2 (spec_Obey.kt a0_0 a0_1 a0_2 a0_3 a0_4 a1 a2 K) | _ => none }
noncomputable def spec_Obey.E (k : Nat) : Env := fun g => bif g == 102 then some (spec_l13Copy.e k) else bif g == 103 then some (spec_IsleOk.e k) else bif g == 104 then some (spec_WorksOk.e k) else bif g == 105 then some (spec_l12Works.e k) else none
noncomputable def spec_Obey.h : ZY := ⟨fun n => ⟨[], []⟩, fun _ => none, false, []⟩
theorem spec_Obey.f_eq {β : Type} (k : Nat) (a0_0 : ByteArray) (a0_1 : Int) (a0_2 : Int) (a0_3 : List (List D)) (a0_4 : List (List D)) (a1 : Int) (a2 : List (List D)) (K0 : List (List C) → List Out → Option β) : ZJ Try.prog (spec_Obey.E k) spec_Obey.h k Try.f31 (spec_Obey.as a0_0 a0_1 a0_2 a0_3 a0_4 a1 a2) K0 = spec_Obey.g k a0_0 a0_1 a0_2 a0_3 a0_4 a1 a2 (spec_Obey.kt a0_0 a0_1 a0_2 a0_3 a0_4 a1 a2 K0) := by kernel_rfl
noncomputable def spec_Obey.dec (rs : List (List C)) (os : List Out) : Option (ByteArray × Int × Int × (List (List C)) × (List (List C)) × Bool) := Zd rs fun c1 r2 => Zd c1 fun x3 l4 => cD x3 fun d5 => Zan d5 fun w0 => Zd l4 fun x6 l7 => cD x6 fun d8 => ZM .i64 d8 fun w1 => Zd l7 fun x9 l10 => cD x9 fun d11 => ZM .i64 d11 fun w2 => Zd l10 fun x12 l13 => ZaU x12 fun w3 => Zd l13 fun x14 l15 => ZaU x14 fun w4 => Ze l15 <| Zd r2 fun c16 r17 => Zd c16 fun x18 l19 => cD x18 fun d20 => ZaF d20 fun w5 => Ze l19 <| Ze r17 <| Ze os (some (w0, w1, w2, w3, w4, w5))
theorem spec_Obey.kt_dec (a0_0 : ByteArray) (a0_1 : Int) (a0_2 : Int) (a0_3 : List (List D)) (a0_4 : List (List D)) (a1 : Int) (a2 : List (List D)) : spec_Obey.kt a0_0 a0_1 a0_2 a0_3 a0_4 a1 a2 spec_Obey.dec = (fun z0 z1 z2 z3 z4 z5 => some (z0, z1, z2, z3, z4, z5)) := by kernel_rfl
theorem spec_Obey.inj (a0_0 : ByteArray) (a0_1 : Int) (a0_2 : Int) (a0_3 : List (List D)) (a0_4 : List (List D)) (a1 : Int) (a2 : List (List D)) {rs : List (List C)} {os : List Out} {z0 : ByteArray} {z1 : Int} {z2 : Int} {z3 : List (List C)} {z4 : List (List C)} {z5 : Bool} (h : spec_Obey.dec rs os = some (z0, z1, z2, z3, z4, z5)) (ho : Zo (spec_Obey.as a0_0 a0_1 a0_2 a0_3 a0_4 a1 a2) os) : rs = [[.d (.str z0), .d (.int .i64 z1), .d (.int .i64 z2), .own z3, .own z4], [.d (.bool z5)]] ∧ os = [] := by
  unfold spec_Obey.dec at h
  obtain ⟨c1, r2, rfl, h1⟩ := Zb h
  obtain ⟨x3, l4, rfl, h2⟩ := Zb h1
  obtain ⟨d5, rfl, h3⟩ := Zt h2
  obtain ⟨w0, rfl, h4⟩ := ZaL h3
  obtain ⟨x6, l7, rfl, h5⟩ := Zb h4
  obtain ⟨d8, rfl, h6⟩ := Zt h5
  obtain ⟨w1, rfl, h7⟩ := ZA h6
  obtain ⟨x9, l10, rfl, h8⟩ := Zb h7
  obtain ⟨d11, rfl, h9⟩ := Zt h8
  obtain ⟨w2, rfl, h10⟩ := ZA h9
  obtain ⟨x12, l13, rfl, h11⟩ := Zb h10
  obtain ⟨w3, rfl, h12⟩ := ZN h11
  obtain ⟨x14, l15, rfl, h13⟩ := Zb h12
  obtain ⟨w4, rfl, h14⟩ := ZN h13
  obtain ⟨rfl, h15⟩ := Zc h14
  obtain ⟨c16, r17, rfl, h16⟩ := Zb h15
  obtain ⟨x18, l19, rfl, h17⟩ := Zb h16
  obtain ⟨d20, rfl, h18⟩ := Zt h17
  obtain ⟨w5, rfl, h19⟩ := Z0 h18
  obtain ⟨rfl, h20⟩ := Zc h19
  obtain ⟨rfl, h21⟩ := Zc h20
  obtain ⟨rfl, h22⟩ := Zc h21
  simp only [Option.some.injEq, Prod.mk.injEq] at h22
  obtain ⟨rfl, rfl, rfl, rfl, rfl, rfl⟩ := h22
  exact ⟨rfl, rfl⟩
theorem spec_Obey.ok (k : Nat) : Zv Try.prog 31 (spec_Obey.e k) := by
  refine Zu mix tyok (fn := Try.f31) (c := Zl Try.f31) Try.func31 (by kernel_rfl) (h := spec_Obey.h) (k := k) (E := spec_Obey.E k) (Zk (spec_l13Copy.ok k) (Zk (spec_IsleOk.ok k) (Zk (spec_WorksOk.ok k) (Zk (spec_l12Works.ok k) Zz)))) (by kernel_rfl) (by kernel_rfl) rfl (Zq Try.func31 (by kernel_rfl)) ?_
  intro β l K r hr
  simp only [spec_Obey.e] at hr
  split at hr
  case h_2 => cases hr
  unfold spec_Obey.f at hr
  split at hr
  case h_2 => cases hr
  rename_i hz
  exact ⟨_, _, hr, _, spec_Obey.dec, _, (spec_Obey.f_eq k _ _ _ _ _ _ _ spec_Obey.dec).trans (by rw [spec_Obey.kt_dec]; exact hz), fun rs os h ho => spec_Obey.inj _ _ _ _ _ _ _ h ho⟩
noncomputable def slices_Clone_string.g {β : Type} (k : Nat) (a0 : List (List D)) (K : (List (List C)) → Option β) : Option β :=
  nilSl a0 (both (K ([] : List (List C))) (ZH (Zcm 1 a0) (ZH (([] : List (List C)).length + (a0.map (·.map C.d)).length ≤ Z6) (K (([] : List (List C)) ++ (a0.map (·.map C.d))))))) (ZH (Zcm 1 a0) (ZH (([] : List (List C)).length + (a0.map (·.map C.d)).length ≤ Z6) (K (([] : List (List C)) ++ (a0.map (·.map C.d))))))
noncomputable def slices_Clone_string.t (k : Nat) (a0 : List (List D)) : Option ((List (List C))) := slices_Clone_string.g k a0 (fun z0 => some z0)
noncomputable def slices_Clone_string.f {β : Type} (k : Nat) (a0 : List (List D)) (K : (List (List C)) → Option β) : Option β :=
  match slices_Clone_string.t k a0 with
  | some z0 => K z0
  | none => none
noncomputable def slices_Clone_string.as (a0 : List (List D)) : List A := [.d (.sl a0)]
noncomputable def slices_Clone_string.kt {β : Type} (a0 : List (List D)) (K0 : List (List C) → List Out → Option β) : (List (List C)) → Option β := fun z0 => K0 [[.own z0]] []
noncomputable def slices_Clone_string.e (k : Nat) : ZQ := { modes := [(.imm, 0)], rts := [25], al := false, run := fun {β} l K => match l with | [.d (.sl a0)] => slices_Clone_string.f k a0 (slices_Clone_string.kt a0 K) | _ => none }
noncomputable def slices_Clone_string.E (k : Nat) : Env := fun g => none
noncomputable def slices_Clone_string.h : ZY := ⟨fun n => ⟨[], []⟩, fun _ => none, false, []⟩
theorem slices_Clone_string.f_eq {β : Type} (k : Nat) (a0 : List (List D)) (K0 : List (List C) → List Out → Option β) : ZJ Try.prog (slices_Clone_string.E k) slices_Clone_string.h k Try.f173 (slices_Clone_string.as a0) K0 = slices_Clone_string.g k a0 (slices_Clone_string.kt a0 K0) := by kernel_rfl
noncomputable def slices_Clone_string.dec (rs : List (List C)) (os : List Out) : Option ((List (List C))) := Zd rs fun c1 r2 => Zd c1 fun x3 l4 => ZaU x3 fun w0 => Ze l4 <| Ze r2 <| Ze os (some w0)
theorem slices_Clone_string.kt_dec (a0 : List (List D)) : slices_Clone_string.kt a0 slices_Clone_string.dec = (fun z0 => some z0) := by kernel_rfl
theorem slices_Clone_string.inj (a0 : List (List D)) {rs : List (List C)} {os : List Out} {z0 : List (List C)} (h : slices_Clone_string.dec rs os = some z0) (ho : Zo (slices_Clone_string.as a0) os) : rs = [[.own z0]] ∧ os = [] := by
  unfold slices_Clone_string.dec at h
  obtain ⟨c1, r2, rfl, h1⟩ := Zb h
  obtain ⟨x3, l4, rfl, h2⟩ := Zb h1
  obtain ⟨w0, rfl, h3⟩ := ZN h2
  obtain ⟨rfl, h4⟩ := Zc h3
  obtain ⟨rfl, h5⟩ := Zc h4
  obtain ⟨rfl, h6⟩ := Zc h5
  obtain rfl := Option.some.inj h6
  exact ⟨rfl, rfl⟩
theorem slices_Clone_string.ok (k : Nat) : Zv Try.prog 173 (slices_Clone_string.e k) := by
  refine Zu mix tyok (fn := Try.f173) (c := Zl Try.f173) Try.func173 (by kernel_rfl) (h := slices_Clone_string.h) (k := k) (E := slices_Clone_string.E k) Zz (by kernel_rfl) (by kernel_rfl) rfl (Zq Try.func173 (by kernel_rfl)) ?_
  intro β l K r hr
  simp only [slices_Clone_string.e] at hr
  split at hr
  case h_2 => cases hr
  unfold slices_Clone_string.f at hr
  split at hr
  case h_2 => cases hr
  rename_i hz
  exact ⟨_, _, hr, _, slices_Clone_string.dec, _, (slices_Clone_string.f_eq k _ slices_Clone_string.dec).trans (by rw [slices_Clone_string.kt_dec]; exact hz), fun rs os h ho => slices_Clone_string.inj _ h ho⟩
noncomputable def impl_copyValue.l0 {β : Type} (k : Nat) (r_impl_copyValue : Int → ByteArray → Int → (List (List D)) → (List (List D)) → (Int → ByteArray → Int → (List (List C)) → (List (List C)) → Option β) → Option β) (v0_0 : List (List D)) (v0_1 : Int) (v0_3 : Int) (v0_4 : ByteArray) (v0_5 : Int) (v0_6 : List (List D)) (v0_7 : Int) (v0_8 : ByteArray) (v0_9 : Int) (v0_11 : List (List C)) (K : Int → ByteArray → Int → (List (List C)) → (List (List C)) → Option β) (L0 : (Int × (List (List C))) → Option β) (v : Int × (List (List C))) : Option β :=
  match v with
  | (v0_2, v0_10) => bif (decide ((v0_2 : Int) < v0_1)) then (ZX v0_0 v0_2 fun c23 => Zd c23 fun d24 r25 => ZM .i64 d24 fun x26 => Zd r25 fun d27 r28 => Zan d27 fun x29 => Zd r28 fun d30 r31 => ZM .i64 d30 fun x32 => Zd r31 fun d33 r34 => dSl d33 fun x35 => Zd r34 fun d36 r37 => dSl d36 fun x38 => Ze r37 (r_impl_copyValue x26 x29 x32 x35 x38 (fun y39 y40 y41 y42 y43 => ZH (v0_10.length + ([[.d (.int .i64 y39), .d (.str y40), .d (.int .i64 y41), .own y42, .own y43]] : List (List C)).length ≤ Z6) (L0 (IntKind.wrap .i64 (v0_2 + 1), v0_10 ++ ([[.d (.int .i64 y39), .d (.str y40), .d (.int .i64 y41), .own y42, .own y43]] : List (List C))))))) else (K v0_3 v0_4 v0_5 v0_11 v0_10)
noncomputable def impl_copyValue.body {β : Type} (k : Nat) (r_impl_copyValue : Int → ByteArray → Int → (List (List D)) → (List (List D)) → (Int → ByteArray → Int → (List (List C)) → (List (List C)) → Option β) → Option β) (a0_0 : Int) (a0_1 : ByteArray) (a0_2 : Int) (a0_3 : List (List D)) (a0_4 : List (List D)) (K : Int → ByteArray → Int → (List (List C)) → (List (List C)) → Option β) : Option β :=
  slices_Clone_string.f k a0_3 (fun y1 => Z4 (impl_copyValue.l0 k r_impl_copyValue a0_4 (a0_4.length : Int) a0_0 a0_1 a0_2 a0_4 0 (⟨#[]⟩ : ByteArray) 0 y1 K) k (0, ([] : List (List C))))
noncomputable def impl_copyValue.w {β : Type} (r : Int → ByteArray → Int → (List (List D)) → (List (List D)) → Option (Int × ByteArray × Int × (List (List C)) × (List (List C)))) (a0_0 : Int) (a0_1 : ByteArray) (a0_2 : Int) (a0_3 : List (List D)) (a0_4 : List (List D)) (K : Int → ByteArray → Int → (List (List C)) → (List (List C)) → Option β) : Option β :=
  match r a0_0 a0_1 a0_2 a0_3 a0_4 with
  | some (z0, z1, z2, z3, z4) => K z0 z1 z2 z3 z4
  | none => none
noncomputable def impl_copyValue.all : Nat → (Int → ByteArray → Int → (List (List D)) → (List (List D)) → Option (Int × ByteArray × Int × (List (List C)) × (List (List C))))
  | 0 => (fun _ _ _ _ _ => none)
  | k + 1 => (fun r => (fun a0_0 a0_1 a0_2 a0_3 a0_4 => impl_copyValue.body k (impl_copyValue.w r) a0_0 a0_1 a0_2 a0_3 a0_4 (fun z0 z1 z2 z3 z4 => some (z0, z1, z2, z3, z4)))) (impl_copyValue.all k)
noncomputable def impl_copyValue.t (k : Nat) (a0_0 : Int) (a0_1 : ByteArray) (a0_2 : Int) (a0_3 : List (List D)) (a0_4 : List (List D)) : Option (Int × ByteArray × Int × (List (List C)) × (List (List C))) := (impl_copyValue.all k) a0_0 a0_1 a0_2 a0_3 a0_4
noncomputable def impl_copyValue.f {β : Type} (k : Nat) (a0_0 : Int) (a0_1 : ByteArray) (a0_2 : Int) (a0_3 : List (List D)) (a0_4 : List (List D)) (K : Int → ByteArray → Int → (List (List C)) → (List (List C)) → Option β) : Option β := impl_copyValue.w (impl_copyValue.t k) a0_0 a0_1 a0_2 a0_3 a0_4 K
noncomputable def impl_copyValue.g {β : Type} (k : Nat) (a0_0 : Int) (a0_1 : ByteArray) (a0_2 : Int) (a0_3 : List (List D)) (a0_4 : List (List D)) (K : Int → ByteArray → Int → (List (List C)) → (List (List C)) → Option β) : Option β := impl_copyValue.body k (impl_copyValue.f k) a0_0 a0_1 a0_2 a0_3 a0_4 K
theorem impl_copyValue.t_zero (a0_0 : Int) (a0_1 : ByteArray) (a0_2 : Int) (a0_3 : List (List D)) (a0_4 : List (List D)) : impl_copyValue.t 0 a0_0 a0_1 a0_2 a0_3 a0_4 = none := rfl
theorem impl_copyValue.t_succ (k : Nat) (a0_0 : Int) (a0_1 : ByteArray) (a0_2 : Int) (a0_3 : List (List D)) (a0_4 : List (List D)) : impl_copyValue.t (k + 1) a0_0 a0_1 a0_2 a0_3 a0_4 = impl_copyValue.g k a0_0 a0_1 a0_2 a0_3 a0_4 (fun z0 z1 z2 z3 z4 => some (z0, z1, z2, z3, z4)) := rfl
noncomputable def impl_copyValue.as (a0_0 : Int) (a0_1 : ByteArray) (a0_2 : Int) (a0_3 : List (List D)) (a0_4 : List (List D)) : List A := [.agg [.int .i64 a0_0, .str a0_1, .int .i64 a0_2, .sl a0_3, .sl a0_4]]
noncomputable def impl_copyValue.kt {β : Type} (a0_0 : Int) (a0_1 : ByteArray) (a0_2 : Int) (a0_3 : List (List D)) (a0_4 : List (List D)) (K0 : List (List C) → List Out → Option β) : Int → ByteArray → Int → (List (List C)) → (List (List C)) → Option β := fun z0 z1 z2 z3 z4 => K0 [[.d (.int .i64 z0), .d (.str z1), .d (.int .i64 z2), .own z3, .own z4]] []
noncomputable def impl_copyValue.e (k : Nat) : ZQ := { modes := [(.imm, 0)], rts := [151], al := false, run := fun {β} l K => match l with | [.agg [.int .i64 a0_0, .str a0_1, .int .i64 a0_2, .sl a0_3, .sl a0_4]] => impl_copyValue.f k a0_0 a0_1 a0_2 a0_3 a0_4 (impl_copyValue.kt a0_0 a0_1 a0_2 a0_3 a0_4 K) | _ => none }
noncomputable def impl_copyValue.E (k : Nat) : Env := fun g => bif g == 173 then some (slices_Clone_string.e k) else bif g == 189 then some (impl_copyValue.e k) else none
noncomputable def impl_copyValue.h : ZY := ⟨fun n => bif n == 4 then ⟨[(1, .asis), (2, .asis), (3, .asis), (12, .asis), (13, .asis), (14, .asis)], []⟩ else ⟨[], []⟩, fun _ => none, false, []⟩
noncomputable def impl_copyValue.s0 (v0_0 : List (List D)) (v0_1 : Int) (v0_3 : Int) (v0_4 : ByteArray) (v0_5 : Int) (v0_6 : List (List D)) (v0_7 : Int) (v0_8 : ByteArray) (v0_9 : Int) (v0_11 : List (List C)) (v : Int × (List (List C))) : St :=
  match v with
  | (v0_2, v0_10) => ⟨[.any, .bp 0 0, .bp 1 0, .row 2, .any, .any, .any, .any, .any, .any, .any, .any, .d false (.sl v0_0), .d true (.int .i64 v0_1), .d true (.int .i64 v0_2), .any, .any, .any, .any, .any, .any, .any, .any, .any, .any, .any, .any], [.box none 151 [.d false (.int .i64 v0_3), .d false (.str v0_4), .d false (.int .i64 v0_5), .row 3, .d false (.sl v0_6)], .box none 151 [.d true (.int .i64 v0_7), .d true (.str v0_8), .d true (.int .i64 v0_9), .nil, .nil], .row none true 149 v0_10, .row none true 25 v0_11]⟩
noncomputable def impl_copyValue.b0 {β : Type} (k : Nat) : St → (Ex → St → Option β) → Option β := fun s K => den Try.prog (impl_copyValue.E k) impl_copyValue.h.H impl_copyValue.h.J k (Zad [1, 1, 1, 0, 1, 0, 0] (Zl Try.f189)) s K
noncomputable def impl_copyValue.c0 {β : Type} (k : Nat) (a0_0 : Int) (a0_1 : ByteArray) (a0_2 : Int) (a0_3 : List (List D)) (a0_4 : List (List D)) (K0 : List (List C) → List Out → Option β) : Ex → St → Option β := Zae Try.prog (impl_copyValue.E k) impl_copyValue.h k [1, 1, 1, 0, 1, 0] (Zl Try.f189) (Zak Try.prog Try.f189 impl_copyValue.h (impl_copyValue.as a0_0 a0_1 a0_2 a0_3 a0_4) K0)
theorem impl_copyValue.l0_eq {β : Type} (k : Nat) (a0_0 : Int) (a0_1 : ByteArray) (a0_2 : Int) (a0_3 : List (List D)) (a0_4 : List (List D)) (K0 : List (List C) → List Out → Option β) (v0_0 : List (List D)) (v0_1 : Int) (v0_3 : Int) (v0_4 : ByteArray) (v0_5 : Int) (v0_6 : List (List D)) (v0_7 : Int) (v0_8 : ByteArray) (v0_9 : Int) (v0_11 : List (List C)) : ∀ (kk : Nat) (v : Int × (List (List C))), Zx (impl_copyValue.b0 k) (impl_copyValue.h.H 4) kk (impl_copyValue.s0 v0_0 v0_1 v0_3 v0_4 v0_5 v0_6 v0_7 v0_8 v0_9 v0_11 v) (impl_copyValue.c0 k a0_0 a0_1 a0_2 a0_3 a0_4 K0) = Z4 (impl_copyValue.l0 k (impl_copyValue.f k) v0_0 v0_1 v0_3 v0_4 v0_5 v0_6 v0_7 v0_8 v0_9 v0_11 (impl_copyValue.kt a0_0 a0_1 a0_2 a0_3 a0_4 K0)) kk v :=
  Z9 (impl_copyValue.s0 v0_0 v0_1 v0_3 v0_4 v0_5 v0_6 v0_7 v0_8 v0_9 v0_11) _ (fun L0 v => by obtain ⟨v0_2, v0_10⟩ := v; kernel_rfl)
noncomputable def impl_copyValue.m {β : Type} (k : Nat) (a0_0 : Int) (a0_1 : ByteArray) (a0_2 : Int) (a0_3 : List (List D)) (a0_4 : List (List D)) (K0 : List (List C) → List Out → Option β) (F : ((List (List D)) → Int → Int → ByteArray → Int → (List (List D)) → Int → ByteArray → Int → (List (List C)) → (Int × (List (List C))) → Option β)) : Option β :=
  slices_Clone_string.f k a0_3 (fun y1 => (F) a0_4 (a0_4.length : Int) a0_0 a0_1 a0_2 a0_4 0 (⟨#[]⟩ : ByteArray) 0 y1 (0, ([] : List (List C))))
theorem impl_copyValue.f_eq {β : Type} (k : Nat) (a0_0 : Int) (a0_1 : ByteArray) (a0_2 : Int) (a0_3 : List (List D)) (a0_4 : List (List D)) (K0 : List (List C) → List Out → Option β) : ZJ Try.prog (impl_copyValue.E k) impl_copyValue.h k Try.f189 (impl_copyValue.as a0_0 a0_1 a0_2 a0_3 a0_4) K0 = impl_copyValue.g k a0_0 a0_1 a0_2 a0_3 a0_4 (impl_copyValue.kt a0_0 a0_1 a0_2 a0_3 a0_4 K0) := Eq.trans (b := (impl_copyValue.m k a0_0 a0_1 a0_2 a0_3 a0_4 K0) (fun (v0_0 : List (List D)) (v0_1 : Int) (v0_3 : Int) (v0_4 : ByteArray) (v0_5 : Int) (v0_6 : List (List D)) (v0_7 : Int) (v0_8 : ByteArray) (v0_9 : Int) (v0_11 : List (List C)) (v : Int × (List (List C))) => Zx (impl_copyValue.b0 k) (impl_copyValue.h.H 4) k (impl_copyValue.s0 v0_0 v0_1 v0_3 v0_4 v0_5 v0_6 v0_7 v0_8 v0_9 v0_11 v) (impl_copyValue.c0 k a0_0 a0_1 a0_2 a0_3 a0_4 K0))) (by kernel_rfl) (Eq.trans (congrArg (impl_copyValue.m k a0_0 a0_1 a0_2 a0_3 a0_4 K0) (funext fun v0_0 => funext fun v0_1 => funext fun v0_3 => funext fun v0_4 => funext fun v0_5 => funext fun v0_6 => funext fun v0_7 => funext fun v0_8 => funext fun v0_9 => funext fun v0_11 => funext fun v => impl_copyValue.l0_eq k a0_0 a0_1 a0_2 a0_3 a0_4 K0 v0_0 v0_1 v0_3 v0_4 v0_5 v0_6 v0_7 v0_8 v0_9 v0_11 k v)) (by kernel_rfl))
noncomputable def impl_copyValue.dec (rs : List (List C)) (os : List Out) : Option (Int × ByteArray × Int × (List (List C)) × (List (List C))) := Zd rs fun c1 r2 => Zd c1 fun x3 l4 => cD x3 fun d5 => ZM .i64 d5 fun w0 => Zd l4 fun x6 l7 => cD x6 fun d8 => Zan d8 fun w1 => Zd l7 fun x9 l10 => cD x9 fun d11 => ZM .i64 d11 fun w2 => Zd l10 fun x12 l13 => ZaU x12 fun w3 => Zd l13 fun x14 l15 => ZaU x14 fun w4 => Ze l15 <| Ze r2 <| Ze os (some (w0, w1, w2, w3, w4))
theorem impl_copyValue.kt_dec (a0_0 : Int) (a0_1 : ByteArray) (a0_2 : Int) (a0_3 : List (List D)) (a0_4 : List (List D)) : impl_copyValue.kt a0_0 a0_1 a0_2 a0_3 a0_4 impl_copyValue.dec = (fun z0 z1 z2 z3 z4 => some (z0, z1, z2, z3, z4)) := by kernel_rfl
theorem impl_copyValue.inj (a0_0 : Int) (a0_1 : ByteArray) (a0_2 : Int) (a0_3 : List (List D)) (a0_4 : List (List D)) {rs : List (List C)} {os : List Out} {z0 : Int} {z1 : ByteArray} {z2 : Int} {z3 : List (List C)} {z4 : List (List C)} (h : impl_copyValue.dec rs os = some (z0, z1, z2, z3, z4)) (ho : Zo (impl_copyValue.as a0_0 a0_1 a0_2 a0_3 a0_4) os) : rs = [[.d (.int .i64 z0), .d (.str z1), .d (.int .i64 z2), .own z3, .own z4]] ∧ os = [] := by
  unfold impl_copyValue.dec at h
  obtain ⟨c1, r2, rfl, h1⟩ := Zb h
  obtain ⟨x3, l4, rfl, h2⟩ := Zb h1
  obtain ⟨d5, rfl, h3⟩ := Zt h2
  obtain ⟨w0, rfl, h4⟩ := ZA h3
  obtain ⟨x6, l7, rfl, h5⟩ := Zb h4
  obtain ⟨d8, rfl, h6⟩ := Zt h5
  obtain ⟨w1, rfl, h7⟩ := ZaL h6
  obtain ⟨x9, l10, rfl, h8⟩ := Zb h7
  obtain ⟨d11, rfl, h9⟩ := Zt h8
  obtain ⟨w2, rfl, h10⟩ := ZA h9
  obtain ⟨x12, l13, rfl, h11⟩ := Zb h10
  obtain ⟨w3, rfl, h12⟩ := ZN h11
  obtain ⟨x14, l15, rfl, h13⟩ := Zb h12
  obtain ⟨w4, rfl, h14⟩ := ZN h13
  obtain ⟨rfl, h15⟩ := Zc h14
  obtain ⟨rfl, h16⟩ := Zc h15
  obtain ⟨rfl, h17⟩ := Zc h16
  simp only [Option.some.injEq, Prod.mk.injEq] at h17
  obtain ⟨rfl, rfl, rfl, rfl, rfl⟩ := h17
  exact ⟨rfl, rfl⟩
theorem impl_copyValue.oks (k : Nat) : Zv Try.prog 189 (impl_copyValue.e k) := by
  induction k with
  | zero =>
    refine ?_
    · exact Zb1 (Zq Try.func189 (by kernel_rfl)) fun β l K r h => by
        simp only [impl_copyValue.e] at h
        split at h
        · unfold impl_copyValue.f at h
          unfold impl_copyValue.w at h
          rw [impl_copyValue.t_zero] at h
          cases h
        · cases h
  | succ k ih =>
    refine ?_
    · refine Zu mix tyok (fn := Try.f189) (c := Zl Try.f189) Try.func189 (by kernel_rfl) (h := impl_copyValue.h) (k := k) (E := impl_copyValue.E k) (Zk (slices_Clone_string.ok k) (Zk ih Zz)) (by kernel_rfl) (by kernel_rfl) rfl (Zq Try.func189 (by kernel_rfl)) ?_
      intro β l K r hr
      simp only [impl_copyValue.e] at hr
      split at hr
      case h_2 => cases hr
      unfold impl_copyValue.f at hr
      unfold impl_copyValue.w at hr
      split at hr
      case h_2 => cases hr
      rename_i hz
      exact ⟨_, _, hr, _, impl_copyValue.dec, _, (impl_copyValue.f_eq k _ _ _ _ _ impl_copyValue.dec).trans (by rw [impl_copyValue.kt_dec]; exact hz), fun rs os h ho => impl_copyValue.inj _ _ _ _ _ h ho⟩
theorem impl_copyValue.ok (k : Nat) : Zv Try.prog 189 (impl_copyValue.e k) := (impl_copyValue.oks k)
noncomputable def impl_copyWorks.l0 {β : Type} (k : Nat) (v0_0 : List (List D)) (v0_1 : Int) (K : (List (List C)) → Option β) (L0 : (Int × (List (List C))) → Option β) (v : Int × (List (List C))) : Option β :=
  match v with
  | (v0_2, v0_3) => bif (decide ((v0_2 : Int) < v0_1)) then (ZX v0_0 v0_2 fun c49 => Zd c49 fun d50 r51 => ZM .i64 d50 fun x52 => Zd r51 fun d53 r54 => ZM .i64 d53 fun x55 => Zd r54 fun d56 r57 => ZM .i64 d56 fun x58 => Zd r57 fun d59 r60 => Zan d59 fun x61 => Zd r60 fun d62 r63 => ZM .i64 d62 fun x64 => Zd r63 fun d65 r66 => dSl d65 fun x67 => Zd r66 fun d68 r69 => dSl d68 fun x70 => Ze r69 (impl_copyValue.f k x58 x61 x64 x67 x70 (fun y71 y72 y73 y74 y75 => ZH (v0_3.length + ([[.d (.int .i64 x52), .d (.int .i64 x55), .d (.int .i64 y71), .d (.str y72), .d (.int .i64 y73), .own y74, .own y75]] : List (List C)).length ≤ Z6) (L0 (IntKind.wrap .i64 (v0_2 + 1), v0_3 ++ ([[.d (.int .i64 x52), .d (.int .i64 x55), .d (.int .i64 y71), .d (.str y72), .d (.int .i64 y73), .own y74, .own y75]] : List (List C))))))) else (K v0_3)
noncomputable def impl_copyWorks.g {β : Type} (k : Nat) (a0 : List (List D)) (K : (List (List C)) → Option β) : Option β :=
  Z4 (impl_copyWorks.l0 k a0 (a0.length : Int) K) k (0, ([] : List (List C)))
noncomputable def impl_copyWorks.t (k : Nat) (a0 : List (List D)) : Option ((List (List C))) := impl_copyWorks.g k a0 (fun z0 => some z0)
noncomputable def impl_copyWorks.f {β : Type} (k : Nat) (a0 : List (List D)) (K : (List (List C)) → Option β) : Option β :=
  match impl_copyWorks.t k a0 with
  | some z0 => K z0
  | none => none
noncomputable def impl_copyWorks.as (a0 : List (List D)) : List A := [.d (.sl a0)]
noncomputable def impl_copyWorks.kt {β : Type} (a0 : List (List D)) (K0 : List (List C) → List Out → Option β) : (List (List C)) → Option β := fun z0 => K0 [[.own z0]] []
noncomputable def impl_copyWorks.e (k : Nat) : ZQ := { modes := [(.imm, 0)], rts := [59], al := false, run := fun {β} l K => match l with | [.d (.sl a0)] => impl_copyWorks.f k a0 (impl_copyWorks.kt a0 K) | _ => none }
noncomputable def impl_copyWorks.E (k : Nat) : Env := fun g => bif g == 189 then some (impl_copyValue.e k) else none
noncomputable def impl_copyWorks.h : ZY := ⟨fun n => bif n == 3 then ⟨[(3, .asis), (7, .asis), (8, .asis), (9, .asis)], []⟩ else ⟨[], []⟩, fun _ => none, false, []⟩
noncomputable def impl_copyWorks.s0 (v0_0 : List (List D)) (v0_1 : Int) (v : Int × (List (List C))) : St :=
  match v with
  | (v0_2, v0_3) => ⟨[.any, .any, .any, .row 0, .any, .any, .any, .d false (.sl v0_0), .d true (.int .i64 v0_1), .d true (.int .i64 v0_2), .any, .any, .any, .any, .any, .any, .any, .any, .any, .any, .any, .any, .any, .any, .any, .any], [.row none true 59 v0_3]⟩
noncomputable def impl_copyWorks.b0 {β : Type} (k : Nat) : St → (Ex → St → Option β) → Option β := fun s K => den Try.prog (impl_copyWorks.E k) impl_copyWorks.h.H impl_copyWorks.h.J k (Zad [1, 1, 0, 1, 0, 0] (Zl Try.f111)) s K
noncomputable def impl_copyWorks.c0 {β : Type} (k : Nat) (a0 : List (List D)) (K0 : List (List C) → List Out → Option β) : Ex → St → Option β := Zae Try.prog (impl_copyWorks.E k) impl_copyWorks.h k [1, 1, 0, 1, 0] (Zl Try.f111) (Zak Try.prog Try.f111 impl_copyWorks.h (impl_copyWorks.as a0) K0)
theorem impl_copyWorks.l0_eq {β : Type} (k : Nat) (a0 : List (List D)) (K0 : List (List C) → List Out → Option β) (v0_0 : List (List D)) (v0_1 : Int) : ∀ (kk : Nat) (v : Int × (List (List C))), Zx (impl_copyWorks.b0 k) (impl_copyWorks.h.H 3) kk (impl_copyWorks.s0 v0_0 v0_1 v) (impl_copyWorks.c0 k a0 K0) = Z4 (impl_copyWorks.l0 k v0_0 v0_1 (impl_copyWorks.kt a0 K0)) kk v :=
  Z9 (impl_copyWorks.s0 v0_0 v0_1) _ (fun L0 v => by obtain ⟨v0_2, v0_3⟩ := v; kernel_rfl)
noncomputable def impl_copyWorks.m {β : Type} (k : Nat) (a0 : List (List D)) (K0 : List (List C) → List Out → Option β) (F : ((List (List D)) → Int → (Int × (List (List C))) → Option β)) : Option β :=
  (F) a0 (a0.length : Int) (0, ([] : List (List C)))
theorem impl_copyWorks.f_eq {β : Type} (k : Nat) (a0 : List (List D)) (K0 : List (List C) → List Out → Option β) : ZJ Try.prog (impl_copyWorks.E k) impl_copyWorks.h k Try.f111 (impl_copyWorks.as a0) K0 = impl_copyWorks.g k a0 (impl_copyWorks.kt a0 K0) := Eq.trans (b := (impl_copyWorks.m k a0 K0) (fun (v0_0 : List (List D)) (v0_1 : Int) (v : Int × (List (List C))) => Zx (impl_copyWorks.b0 k) (impl_copyWorks.h.H 3) k (impl_copyWorks.s0 v0_0 v0_1 v) (impl_copyWorks.c0 k a0 K0))) (by kernel_rfl) (Eq.trans (congrArg (impl_copyWorks.m k a0 K0) (funext fun v0_0 => funext fun v0_1 => funext fun v => impl_copyWorks.l0_eq k a0 K0 v0_0 v0_1 k v)) (by kernel_rfl))
noncomputable def impl_copyWorks.dec (rs : List (List C)) (os : List Out) : Option ((List (List C))) := Zd rs fun c1 r2 => Zd c1 fun x3 l4 => ZaU x3 fun w0 => Ze l4 <| Ze r2 <| Ze os (some w0)
theorem impl_copyWorks.kt_dec (a0 : List (List D)) : impl_copyWorks.kt a0 impl_copyWorks.dec = (fun z0 => some z0) := by kernel_rfl
theorem impl_copyWorks.inj (a0 : List (List D)) {rs : List (List C)} {os : List Out} {z0 : List (List C)} (h : impl_copyWorks.dec rs os = some z0) (ho : Zo (impl_copyWorks.as a0) os) : rs = [[.own z0]] ∧ os = [] := by
  unfold impl_copyWorks.dec at h
  obtain ⟨c1, r2, rfl, h1⟩ := Zb h
  obtain ⟨x3, l4, rfl, h2⟩ := Zb h1
  obtain ⟨w0, rfl, h3⟩ := ZN h2
  obtain ⟨rfl, h4⟩ := Zc h3
  obtain ⟨rfl, h5⟩ := Zc h4
  obtain ⟨rfl, h6⟩ := Zc h5
  obtain rfl := Option.some.inj h6
  exact ⟨rfl, rfl⟩
theorem impl_copyWorks.ok (k : Nat) : Zv Try.prog 111 (impl_copyWorks.e k) := by
  refine Zu mix tyok (fn := Try.f111) (c := Zl Try.f111) Try.func111 (by kernel_rfl) (h := impl_copyWorks.h) (k := k) (E := impl_copyWorks.E k) (Zk (impl_copyValue.ok k) Zz) (by kernel_rfl) (by kernel_rfl) rfl (Zq Try.func111 (by kernel_rfl)) ?_
  intro β l K r hr
  simp only [impl_copyWorks.e] at hr
  split at hr
  case h_2 => cases hr
  unfold impl_copyWorks.f at hr
  split at hr
  case h_2 => cases hr
  rename_i hz
  exact ⟨_, _, hr, _, impl_copyWorks.dec, _, (impl_copyWorks.f_eq k _ impl_copyWorks.dec).trans (by rw [impl_copyWorks.kt_dec]; exact hz), fun rs os h ho => impl_copyWorks.inj _ h ho⟩
noncomputable def slices_Clone_impl_Run.g {β : Type} (k : Nat) (a0 : List (List D)) (K : (List (List C)) → Option β) : Option β :=
  nilSl a0 (both (K ([] : List (List C))) (ZH (Zcm 2 a0) (ZH (([] : List (List C)).length + (a0.map (·.map C.d)).length ≤ Z6) (K (([] : List (List C)) ++ (a0.map (·.map C.d))))))) (ZH (Zcm 2 a0) (ZH (([] : List (List C)).length + (a0.map (·.map C.d)).length ≤ Z6) (K (([] : List (List C)) ++ (a0.map (·.map C.d))))))
noncomputable def slices_Clone_impl_Run.t (k : Nat) (a0 : List (List D)) : Option ((List (List C))) := slices_Clone_impl_Run.g k a0 (fun z0 => some z0)
noncomputable def slices_Clone_impl_Run.f {β : Type} (k : Nat) (a0 : List (List D)) (K : (List (List C)) → Option β) : Option β :=
  match slices_Clone_impl_Run.t k a0 with
  | some z0 => K z0
  | none => none
noncomputable def slices_Clone_impl_Run.as (a0 : List (List D)) : List A := [.d (.sl a0)]
noncomputable def slices_Clone_impl_Run.kt {β : Type} (a0 : List (List D)) (K0 : List (List C) → List Out → Option β) : (List (List C)) → Option β := fun z0 => K0 [[.own z0]] []
noncomputable def slices_Clone_impl_Run.e (k : Nat) : ZQ := { modes := [(.imm, 0)], rts := [60], al := false, run := fun {β} l K => match l with | [.d (.sl a0)] => slices_Clone_impl_Run.f k a0 (slices_Clone_impl_Run.kt a0 K) | _ => none }
noncomputable def slices_Clone_impl_Run.E (k : Nat) : Env := fun g => none
noncomputable def slices_Clone_impl_Run.h : ZY := ⟨fun n => ⟨[], []⟩, fun _ => none, false, []⟩
theorem slices_Clone_impl_Run.f_eq {β : Type} (k : Nat) (a0 : List (List D)) (K0 : List (List C) → List Out → Option β) : ZJ Try.prog (slices_Clone_impl_Run.E k) slices_Clone_impl_Run.h k Try.f144 (slices_Clone_impl_Run.as a0) K0 = slices_Clone_impl_Run.g k a0 (slices_Clone_impl_Run.kt a0 K0) := by kernel_rfl
noncomputable def slices_Clone_impl_Run.dec (rs : List (List C)) (os : List Out) : Option ((List (List C))) := Zd rs fun c1 r2 => Zd c1 fun x3 l4 => ZaU x3 fun w0 => Ze l4 <| Ze r2 <| Ze os (some w0)
theorem slices_Clone_impl_Run.kt_dec (a0 : List (List D)) : slices_Clone_impl_Run.kt a0 slices_Clone_impl_Run.dec = (fun z0 => some z0) := by kernel_rfl
theorem slices_Clone_impl_Run.inj (a0 : List (List D)) {rs : List (List C)} {os : List Out} {z0 : List (List C)} (h : slices_Clone_impl_Run.dec rs os = some z0) (ho : Zo (slices_Clone_impl_Run.as a0) os) : rs = [[.own z0]] ∧ os = [] := by
  unfold slices_Clone_impl_Run.dec at h
  obtain ⟨c1, r2, rfl, h1⟩ := Zb h
  obtain ⟨x3, l4, rfl, h2⟩ := Zb h1
  obtain ⟨w0, rfl, h3⟩ := ZN h2
  obtain ⟨rfl, h4⟩ := Zc h3
  obtain ⟨rfl, h5⟩ := Zc h4
  obtain ⟨rfl, h6⟩ := Zc h5
  obtain rfl := Option.some.inj h6
  exact ⟨rfl, rfl⟩
theorem slices_Clone_impl_Run.ok (k : Nat) : Zv Try.prog 144 (slices_Clone_impl_Run.e k) := by
  refine Zu mix tyok (fn := Try.f144) (c := Zl Try.f144) Try.func144 (by kernel_rfl) (h := slices_Clone_impl_Run.h) (k := k) (E := slices_Clone_impl_Run.E k) Zz (by kernel_rfl) (by kernel_rfl) rfl (Zq Try.func144 (by kernel_rfl)) ?_
  intro β l K r hr
  simp only [slices_Clone_impl_Run.e] at hr
  split at hr
  case h_2 => cases hr
  unfold slices_Clone_impl_Run.f at hr
  split at hr
  case h_2 => cases hr
  rename_i hz
  exact ⟨_, _, hr, _, slices_Clone_impl_Run.dec, _, (slices_Clone_impl_Run.f_eq k _ slices_Clone_impl_Run.dec).trans (by rw [slices_Clone_impl_Run.kt_dec]; exact hz), fun rs os h ho => slices_Clone_impl_Run.inj _ h ho⟩
noncomputable def impl_copyIsle.g {β : Type} (k : Nat) (a0_0 : ByteArray) (a0_1 : Int) (a0_2 : Int) (a0_3 : List (List D)) (a0_4 : List (List D)) (K : ByteArray → Int → Int → (List (List C)) → (List (List C)) → Option β) : Option β :=
  impl_copyWorks.f k a0_3 (fun y76 => slices_Clone_impl_Run.f k a0_4 (fun y77 => K a0_0 a0_1 a0_2 y76 y77))
noncomputable def impl_copyIsle.t (k : Nat) (a0_0 : ByteArray) (a0_1 : Int) (a0_2 : Int) (a0_3 : List (List D)) (a0_4 : List (List D)) : Option (ByteArray × Int × Int × (List (List C)) × (List (List C))) := impl_copyIsle.g k a0_0 a0_1 a0_2 a0_3 a0_4 (fun z0 z1 z2 z3 z4 => some (z0, z1, z2, z3, z4))
noncomputable def impl_copyIsle.f {β : Type} (k : Nat) (a0_0 : ByteArray) (a0_1 : Int) (a0_2 : Int) (a0_3 : List (List D)) (a0_4 : List (List D)) (K : ByteArray → Int → Int → (List (List C)) → (List (List C)) → Option β) : Option β :=
  match impl_copyIsle.t k a0_0 a0_1 a0_2 a0_3 a0_4 with
  | some (z0, z1, z2, z3, z4) => K z0 z1 z2 z3 z4
  | none => none
noncomputable def impl_copyIsle.as (a0_0 : ByteArray) (a0_1 : Int) (a0_2 : Int) (a0_3 : List (List D)) (a0_4 : List (List D)) : List A := [.agg [.str a0_0, .int .i64 a0_1, .int .i64 a0_2, .sl a0_3, .sl a0_4]]
noncomputable def impl_copyIsle.kt {β : Type} (a0_0 : ByteArray) (a0_1 : Int) (a0_2 : Int) (a0_3 : List (List D)) (a0_4 : List (List D)) (K0 : List (List C) → List Out → Option β) : ByteArray → Int → Int → (List (List C)) → (List (List C)) → Option β := fun z0 z1 z2 z3 z4 => K0 [[.d (.str z0), .d (.int .i64 z1), .d (.int .i64 z2), .own z3, .own z4]] []
noncomputable def impl_copyIsle.e (k : Nat) : ZQ := { modes := [(.imm, 0)], rts := [62], al := false, run := fun {β} l K => match l with | [.agg [.str a0_0, .int .i64 a0_1, .int .i64 a0_2, .sl a0_3, .sl a0_4]] => impl_copyIsle.f k a0_0 a0_1 a0_2 a0_3 a0_4 (impl_copyIsle.kt a0_0 a0_1 a0_2 a0_3 a0_4 K) | _ => none }
noncomputable def impl_copyIsle.E (k : Nat) : Env := fun g => bif g == 111 then some (impl_copyWorks.e k) else bif g == 144 then some (slices_Clone_impl_Run.e k) else none
noncomputable def impl_copyIsle.h : ZY := ⟨fun n => ⟨[], []⟩, fun _ => none, false, []⟩
theorem impl_copyIsle.f_eq {β : Type} (k : Nat) (a0_0 : ByteArray) (a0_1 : Int) (a0_2 : Int) (a0_3 : List (List D)) (a0_4 : List (List D)) (K0 : List (List C) → List Out → Option β) : ZJ Try.prog (impl_copyIsle.E k) impl_copyIsle.h k Try.f108 (impl_copyIsle.as a0_0 a0_1 a0_2 a0_3 a0_4) K0 = impl_copyIsle.g k a0_0 a0_1 a0_2 a0_3 a0_4 (impl_copyIsle.kt a0_0 a0_1 a0_2 a0_3 a0_4 K0) := by kernel_rfl
noncomputable def impl_copyIsle.dec (rs : List (List C)) (os : List Out) : Option (ByteArray × Int × Int × (List (List C)) × (List (List C))) := Zd rs fun c1 r2 => Zd c1 fun x3 l4 => cD x3 fun d5 => Zan d5 fun w0 => Zd l4 fun x6 l7 => cD x6 fun d8 => ZM .i64 d8 fun w1 => Zd l7 fun x9 l10 => cD x9 fun d11 => ZM .i64 d11 fun w2 => Zd l10 fun x12 l13 => ZaU x12 fun w3 => Zd l13 fun x14 l15 => ZaU x14 fun w4 => Ze l15 <| Ze r2 <| Ze os (some (w0, w1, w2, w3, w4))
theorem impl_copyIsle.kt_dec (a0_0 : ByteArray) (a0_1 : Int) (a0_2 : Int) (a0_3 : List (List D)) (a0_4 : List (List D)) : impl_copyIsle.kt a0_0 a0_1 a0_2 a0_3 a0_4 impl_copyIsle.dec = (fun z0 z1 z2 z3 z4 => some (z0, z1, z2, z3, z4)) := by kernel_rfl
theorem impl_copyIsle.inj (a0_0 : ByteArray) (a0_1 : Int) (a0_2 : Int) (a0_3 : List (List D)) (a0_4 : List (List D)) {rs : List (List C)} {os : List Out} {z0 : ByteArray} {z1 : Int} {z2 : Int} {z3 : List (List C)} {z4 : List (List C)} (h : impl_copyIsle.dec rs os = some (z0, z1, z2, z3, z4)) (ho : Zo (impl_copyIsle.as a0_0 a0_1 a0_2 a0_3 a0_4) os) : rs = [[.d (.str z0), .d (.int .i64 z1), .d (.int .i64 z2), .own z3, .own z4]] ∧ os = [] := by
  unfold impl_copyIsle.dec at h
  obtain ⟨c1, r2, rfl, h1⟩ := Zb h
  obtain ⟨x3, l4, rfl, h2⟩ := Zb h1
  obtain ⟨d5, rfl, h3⟩ := Zt h2
  obtain ⟨w0, rfl, h4⟩ := ZaL h3
  obtain ⟨x6, l7, rfl, h5⟩ := Zb h4
  obtain ⟨d8, rfl, h6⟩ := Zt h5
  obtain ⟨w1, rfl, h7⟩ := ZA h6
  obtain ⟨x9, l10, rfl, h8⟩ := Zb h7
  obtain ⟨d11, rfl, h9⟩ := Zt h8
  obtain ⟨w2, rfl, h10⟩ := ZA h9
  obtain ⟨x12, l13, rfl, h11⟩ := Zb h10
  obtain ⟨w3, rfl, h12⟩ := ZN h11
  obtain ⟨x14, l15, rfl, h13⟩ := Zb h12
  obtain ⟨w4, rfl, h14⟩ := ZN h13
  obtain ⟨rfl, h15⟩ := Zc h14
  obtain ⟨rfl, h16⟩ := Zc h15
  obtain ⟨rfl, h17⟩ := Zc h16
  simp only [Option.some.injEq, Prod.mk.injEq] at h17
  obtain ⟨rfl, rfl, rfl, rfl, rfl⟩ := h17
  exact ⟨rfl, rfl⟩
theorem impl_copyIsle.ok (k : Nat) : Zv Try.prog 108 (impl_copyIsle.e k) := by
  refine Zu mix tyok (fn := Try.f108) (c := Zl Try.f108) Try.func108 (by kernel_rfl) (h := impl_copyIsle.h) (k := k) (E := impl_copyIsle.E k) (Zk (impl_copyWorks.ok k) (Zk (slices_Clone_impl_Run.ok k) Zz)) (by kernel_rfl) (by kernel_rfl) rfl (Zq Try.func108 (by kernel_rfl)) ?_
  intro β l K r hr
  simp only [impl_copyIsle.e] at hr
  split at hr
  case h_2 => cases hr
  unfold impl_copyIsle.f at hr
  split at hr
  case h_2 => cases hr
  rename_i hz
  exact ⟨_, _, hr, _, impl_copyIsle.dec, _, (impl_copyIsle.f_eq k _ _ _ _ _ impl_copyIsle.dec).trans (by rw [impl_copyIsle.kt_dec]; exact hz), fun rs os h ho => impl_copyIsle.inj _ _ _ _ _ h ho⟩
noncomputable def impl_within.g {β : Type} (k : Nat) (a0 : Int) (a1 : Int) (a2 : Int) (K : Bool → Option β) : Option β :=
  bif (decide ((a0 : Int) ≥ a1)) then (K (decide ((a0 : Int) ≤ a2))) else (K false)
noncomputable def impl_within.t (k : Nat) (a0 : Int) (a1 : Int) (a2 : Int) : Option (Bool) := impl_within.g k a0 a1 a2 (fun z0 => some z0)
noncomputable def impl_within.f {β : Type} (k : Nat) (a0 : Int) (a1 : Int) (a2 : Int) (K : Bool → Option β) : Option β :=
  match impl_within.t k a0 a1 a2 with
  | some z0 => K z0
  | none => none
noncomputable def impl_within.as (a0 : Int) (a1 : Int) (a2 : Int) : List A := [.d (.int .i64 a0), .d (.int .i64 a1), .d (.int .i64 a2)]
noncomputable def impl_within.kt {β : Type} (a0 : Int) (a1 : Int) (a2 : Int) (K0 : List (List C) → List Out → Option β) : Bool → Option β := fun z0 => K0 [[.d (.bool z0)]] []
noncomputable def impl_within.e (k : Nat) : ZQ := { modes := [(.imm, 0), (.imm, 0), (.imm, 0)], rts := [4], al := false, run := fun {β} l K => match l with | [.d (.int .i64 a0), .d (.int .i64 a1), .d (.int .i64 a2)] => impl_within.f k a0 a1 a2 (impl_within.kt a0 a1 a2 K) | _ => none }
noncomputable def impl_within.E (k : Nat) : Env := fun g => none
noncomputable def impl_within.h : ZY := ⟨fun n => ⟨[], []⟩, fun _ => none, false, []⟩
theorem impl_within.f_eq {β : Type} (k : Nat) (a0 : Int) (a1 : Int) (a2 : Int) (K0 : List (List C) → List Out → Option β) : ZJ Try.prog (impl_within.E k) impl_within.h k Try.f126 (impl_within.as a0 a1 a2) K0 = impl_within.g k a0 a1 a2 (impl_within.kt a0 a1 a2 K0) := by kernel_rfl
noncomputable def impl_within.dec (rs : List (List C)) (os : List Out) : Option (Bool) := Zd rs fun c1 r2 => Zd c1 fun x3 l4 => cD x3 fun d5 => ZaF d5 fun w0 => Ze l4 <| Ze r2 <| Ze os (some w0)
theorem impl_within.kt_dec (a0 : Int) (a1 : Int) (a2 : Int) : impl_within.kt a0 a1 a2 impl_within.dec = (fun z0 => some z0) := by kernel_rfl
theorem impl_within.inj (a0 : Int) (a1 : Int) (a2 : Int) {rs : List (List C)} {os : List Out} {z0 : Bool} (h : impl_within.dec rs os = some z0) (ho : Zo (impl_within.as a0 a1 a2) os) : rs = [[.d (.bool z0)]] ∧ os = [] := by
  unfold impl_within.dec at h
  obtain ⟨c1, r2, rfl, h1⟩ := Zb h
  obtain ⟨x3, l4, rfl, h2⟩ := Zb h1
  obtain ⟨d5, rfl, h3⟩ := Zt h2
  obtain ⟨w0, rfl, h4⟩ := Z0 h3
  obtain ⟨rfl, h5⟩ := Zc h4
  obtain ⟨rfl, h6⟩ := Zc h5
  obtain ⟨rfl, h7⟩ := Zc h6
  obtain rfl := Option.some.inj h7
  exact ⟨rfl, rfl⟩
theorem impl_within.ok (k : Nat) : Zv Try.prog 126 (impl_within.e k) := by
  refine Zu mix tyok (fn := Try.f126) (c := Zl Try.f126) Try.func126 (by kernel_rfl) (h := impl_within.h) (k := k) (E := impl_within.E k) Zz (by kernel_rfl) (by kernel_rfl) rfl (Zq Try.func126 (by kernel_rfl)) ?_
  intro β l K r hr
  simp only [impl_within.e] at hr
  split at hr
  case h_2 => cases hr
  unfold impl_within.f at hr
  split at hr
  case h_2 => cases hr
  rename_i hz
  exact ⟨_, _, hr, _, impl_within.dec, _, (impl_within.f_eq k _ _ _ impl_within.dec).trans (by rw [impl_within.kt_dec]; exact hz), fun rs os h ho => impl_within.inj _ _ _ h ho⟩
noncomputable def impl_NameOk.l0 {β : Type} (k : Nat) (v0_0 : ByteArray) (v0_1 : Int) (K : Bool → Option β) (L0 : Int → Option β) (v : Int) : Option β :=
  match v with
  | v0_2 => bif (decide ((v0_2 : Int) < v0_1)) then (atStr v0_0 v0_2 fun b5 => bif (decide ((b5 : Int) < 97)) then (bif (decide ((b5 : Int) < 48)) then (bif ((b5 : Int) != 45) then (K false) else (L0 (IntKind.wrap .i64 (v0_2 + 1)))) else (bif (decide ((b5 : Int) > 57)) then (bif ((b5 : Int) != 45) then (K false) else (L0 (IntKind.wrap .i64 (v0_2 + 1)))) else (L0 (IntKind.wrap .i64 (v0_2 + 1))))) else (bif (decide ((b5 : Int) > 122)) then (bif (decide ((b5 : Int) < 48)) then (bif ((b5 : Int) != 45) then (K false) else (L0 (IntKind.wrap .i64 (v0_2 + 1)))) else (bif (decide ((b5 : Int) > 57)) then (bif ((b5 : Int) != 45) then (K false) else (L0 (IntKind.wrap .i64 (v0_2 + 1)))) else (L0 (IntKind.wrap .i64 (v0_2 + 1))))) else (L0 (IntKind.wrap .i64 (v0_2 + 1))))) else (impl_within.f k (v0_0.size : Int) 1 20 (fun y6 => bif y6 then (atStr v0_0 0 fun b7 => bif ((b7 : Int) != 45) then (atStr v0_0 (IntKind.wrap .i64 ((v0_0.size : Int) - 1)) fun b8 => K ((b8 : Int) != 45)) else (K false)) else (K false)))
noncomputable def impl_NameOk.g {β : Type} (k : Nat) (a0 : ByteArray) (K : Bool → Option β) : Option β :=
  Z4 (impl_NameOk.l0 k a0 (a0.size : Int) K) k (0)
noncomputable def impl_NameOk.t (k : Nat) (a0 : ByteArray) : Option (Bool) := impl_NameOk.g k a0 (fun z0 => some z0)
noncomputable def impl_NameOk.f {β : Type} (k : Nat) (a0 : ByteArray) (K : Bool → Option β) : Option β :=
  match impl_NameOk.t k a0 with
  | some z0 => K z0
  | none => none
noncomputable def impl_NameOk.as (a0 : ByteArray) : List A := [.d (.str a0)]
noncomputable def impl_NameOk.kt {β : Type} (a0 : ByteArray) (K0 : List (List C) → List Out → Option β) : Bool → Option β := fun z0 => K0 [[.d (.bool z0)]] []
noncomputable def impl_NameOk.e (k : Nat) : ZQ := { modes := [(.imm, 0)], rts := [4], al := false, run := fun {β} l K => match l with | [.d (.str a0)] => impl_NameOk.f k a0 (impl_NameOk.kt a0 K) | _ => none }
noncomputable def impl_NameOk.E (k : Nat) : Env := fun g => bif g == 126 then some (impl_within.e k) else none
noncomputable def impl_NameOk.h : ZY := ⟨fun n => bif n == 2 then ⟨[(0, .asis), (6, .asis), (7, .asis)], []⟩ else ⟨[], []⟩, fun _ => none, false, []⟩
noncomputable def impl_NameOk.s0 (v0_0 : ByteArray) (v0_1 : Int) (v : Int) : St :=
  match v with
  | v0_2 => ⟨[.d false (.str v0_0), .any, .any, .any, .any, .any, .d true (.int .i64 v0_1), .d true (.int .i64 v0_2), .any, .any, .any, .any, .any, .any, .any, .any, .any, .any, .any, .any, .any, .any, .any, .any, .any, .any, .any, .any, .any, .any, .any, .any, .any, .any, .any, .any, .any, .any, .any, .any, .any, .any, .any, .any, .any, .any, .any, .any], []⟩
noncomputable def impl_NameOk.b0 {β : Type} (k : Nat) : St → (Ex → St → Option β) → Option β := fun s K => den Try.prog (impl_NameOk.E k) impl_NameOk.h.H impl_NameOk.h.J k (Zad [1, 0, 1, 0, 0] (Zl Try.f97)) s K
noncomputable def impl_NameOk.c0 {β : Type} (k : Nat) (a0 : ByteArray) (K0 : List (List C) → List Out → Option β) : Ex → St → Option β := Zae Try.prog (impl_NameOk.E k) impl_NameOk.h k [1, 0, 1, 0] (Zl Try.f97) (Zak Try.prog Try.f97 impl_NameOk.h (impl_NameOk.as a0) K0)
theorem impl_NameOk.l0_eq {β : Type} (k : Nat) (a0 : ByteArray) (K0 : List (List C) → List Out → Option β) (v0_0 : ByteArray) (v0_1 : Int) : ∀ (kk : Nat) (v : Int), Zx (impl_NameOk.b0 k) (impl_NameOk.h.H 2) kk (impl_NameOk.s0 v0_0 v0_1 v) (impl_NameOk.c0 k a0 K0) = Z4 (impl_NameOk.l0 k v0_0 v0_1 (impl_NameOk.kt a0 K0)) kk v :=
  Z9 (impl_NameOk.s0 v0_0 v0_1) _ (fun L0 v => by kernel_rfl)
noncomputable def impl_NameOk.m {β : Type} (k : Nat) (a0 : ByteArray) (K0 : List (List C) → List Out → Option β) (F : (ByteArray → Int → Int → Option β)) : Option β :=
  (F) a0 (a0.size : Int) (0)
theorem impl_NameOk.f_eq {β : Type} (k : Nat) (a0 : ByteArray) (K0 : List (List C) → List Out → Option β) : ZJ Try.prog (impl_NameOk.E k) impl_NameOk.h k Try.f97 (impl_NameOk.as a0) K0 = impl_NameOk.g k a0 (impl_NameOk.kt a0 K0) := Eq.trans (b := (impl_NameOk.m k a0 K0) (fun (v0_0 : ByteArray) (v0_1 : Int) (v : Int) => Zx (impl_NameOk.b0 k) (impl_NameOk.h.H 2) k (impl_NameOk.s0 v0_0 v0_1 v) (impl_NameOk.c0 k a0 K0))) (by kernel_rfl) (Eq.trans (congrArg (impl_NameOk.m k a0 K0) (funext fun v0_0 => funext fun v0_1 => funext fun v => impl_NameOk.l0_eq k a0 K0 v0_0 v0_1 k v)) (by kernel_rfl))
noncomputable def impl_NameOk.dec (rs : List (List C)) (os : List Out) : Option (Bool) := Zd rs fun c1 r2 => Zd c1 fun x3 l4 => cD x3 fun d5 => ZaF d5 fun w0 => Ze l4 <| Ze r2 <| Ze os (some w0)
theorem impl_NameOk.kt_dec (a0 : ByteArray) : impl_NameOk.kt a0 impl_NameOk.dec = (fun z0 => some z0) := by kernel_rfl
theorem impl_NameOk.inj (a0 : ByteArray) {rs : List (List C)} {os : List Out} {z0 : Bool} (h : impl_NameOk.dec rs os = some z0) (ho : Zo (impl_NameOk.as a0) os) : rs = [[.d (.bool z0)]] ∧ os = [] := by
  unfold impl_NameOk.dec at h
  obtain ⟨c1, r2, rfl, h1⟩ := Zb h
  obtain ⟨x3, l4, rfl, h2⟩ := Zb h1
  obtain ⟨d5, rfl, h3⟩ := Zt h2
  obtain ⟨w0, rfl, h4⟩ := Z0 h3
  obtain ⟨rfl, h5⟩ := Zc h4
  obtain ⟨rfl, h6⟩ := Zc h5
  obtain ⟨rfl, h7⟩ := Zc h6
  obtain rfl := Option.some.inj h7
  exact ⟨rfl, rfl⟩
theorem impl_NameOk.ok (k : Nat) : Zv Try.prog 97 (impl_NameOk.e k) := by
  refine Zu mix tyok (fn := Try.f97) (c := Zl Try.f97) Try.func97 (by kernel_rfl) (h := impl_NameOk.h) (k := k) (E := impl_NameOk.E k) (Zk (impl_within.ok k) Zz) (by kernel_rfl) (by kernel_rfl) rfl (Zq Try.func97 (by kernel_rfl)) ?_
  intro β l K r hr
  simp only [impl_NameOk.e] at hr
  split at hr
  case h_2 => cases hr
  unfold impl_NameOk.f at hr
  split at hr
  case h_2 => cases hr
  rename_i hz
  exact ⟨_, _, hr, _, impl_NameOk.dec, _, (impl_NameOk.f_eq k _ impl_NameOk.dec).trans (by rw [impl_NameOk.kt_dec]; exact hz), fun rs os h ho => impl_NameOk.inj _ h ho⟩
noncomputable def impl_isCopies.g {β : Type} (k : Nat) (a0 : Int) (K : Bool → Option β) : Option β :=
  impl_within.f k a0 0 10000 (fun y1 => K y1)
noncomputable def impl_isCopies.t (k : Nat) (a0 : Int) : Option (Bool) := impl_isCopies.g k a0 (fun z0 => some z0)
noncomputable def impl_isCopies.f {β : Type} (k : Nat) (a0 : Int) (K : Bool → Option β) : Option β :=
  match impl_isCopies.t k a0 with
  | some z0 => K z0
  | none => none
noncomputable def impl_isCopies.as (a0 : Int) : List A := [.d (.int .i64 a0)]
noncomputable def impl_isCopies.kt {β : Type} (a0 : Int) (K0 : List (List C) → List Out → Option β) : Bool → Option β := fun z0 => K0 [[.d (.bool z0)]] []
noncomputable def impl_isCopies.e (k : Nat) : ZQ := { modes := [(.imm, 0)], rts := [4], al := false, run := fun {β} l K => match l with | [.d (.int .i64 a0)] => impl_isCopies.f k a0 (impl_isCopies.kt a0 K) | _ => none }
noncomputable def impl_isCopies.E (k : Nat) : Env := fun g => bif g == 126 then some (impl_within.e k) else none
noncomputable def impl_isCopies.h : ZY := ⟨fun n => ⟨[], []⟩, fun _ => none, false, []⟩
theorem impl_isCopies.f_eq {β : Type} (k : Nat) (a0 : Int) (K0 : List (List C) → List Out → Option β) : ZJ Try.prog (impl_isCopies.E k) impl_isCopies.h k Try.f184 (impl_isCopies.as a0) K0 = impl_isCopies.g k a0 (impl_isCopies.kt a0 K0) := by kernel_rfl
noncomputable def impl_isCopies.dec (rs : List (List C)) (os : List Out) : Option (Bool) := Zd rs fun c1 r2 => Zd c1 fun x3 l4 => cD x3 fun d5 => ZaF d5 fun w0 => Ze l4 <| Ze r2 <| Ze os (some w0)
theorem impl_isCopies.kt_dec (a0 : Int) : impl_isCopies.kt a0 impl_isCopies.dec = (fun z0 => some z0) := by kernel_rfl
theorem impl_isCopies.inj (a0 : Int) {rs : List (List C)} {os : List Out} {z0 : Bool} (h : impl_isCopies.dec rs os = some z0) (ho : Zo (impl_isCopies.as a0) os) : rs = [[.d (.bool z0)]] ∧ os = [] := by
  unfold impl_isCopies.dec at h
  obtain ⟨c1, r2, rfl, h1⟩ := Zb h
  obtain ⟨x3, l4, rfl, h2⟩ := Zb h1
  obtain ⟨d5, rfl, h3⟩ := Zt h2
  obtain ⟨w0, rfl, h4⟩ := Z0 h3
  obtain ⟨rfl, h5⟩ := Zc h4
  obtain ⟨rfl, h6⟩ := Zc h5
  obtain ⟨rfl, h7⟩ := Zc h6
  obtain rfl := Option.some.inj h7
  exact ⟨rfl, rfl⟩
theorem impl_isCopies.ok (k : Nat) : Zv Try.prog 184 (impl_isCopies.e k) := by
  refine Zu mix tyok (fn := Try.f184) (c := Zl Try.f184) Try.func184 (by kernel_rfl) (h := impl_isCopies.h) (k := k) (E := impl_isCopies.E k) (Zk (impl_within.ok k) Zz) (by kernel_rfl) (by kernel_rfl) rfl (Zq Try.func184 (by kernel_rfl)) ?_
  intro β l K r hr
  simp only [impl_isCopies.e] at hr
  split at hr
  case h_2 => cases hr
  unfold impl_isCopies.f at hr
  split at hr
  case h_2 => cases hr
  rename_i hz
  exact ⟨_, _, hr, _, impl_isCopies.dec, _, (impl_isCopies.f_eq k _ impl_isCopies.dec).trans (by rw [impl_isCopies.kt_dec]; exact hz), fun rs os h ho => impl_isCopies.inj _ h ho⟩
noncomputable def impl_namesOk.l0 {β : Type} (k : Nat) (v0_0 : List (List D)) (v0_1 : Int) (v0_2 : List (List D)) (v0_3 : Int) (K : Bool → Option β) (L0 : Int → Option β) (v : Int) : Option β :=
  match v with
  | v0_4 => bif (decide ((v0_4 : Int) < v0_3)) then (ZX v0_2 v0_4 fun c10 => Zd c10 fun d11 r12 => Zan d11 fun x13 => Ze r12 (impl_NameOk.f k x13 (fun y14 => bif (!y14) then (K false) else (bif (decide ((v0_4 : Int) > 0)) then (ZX v0_0 (IntKind.wrap .i64 (v0_4 - 1)) fun c15 => Zd c15 fun d16 r17 => Zan d16 fun x18 => Ze r17 (bif (!(strLt x18 x13)) then (K false) else (L0 (IntKind.wrap .i64 (v0_4 + 1))))) else (L0 (IntKind.wrap .i64 (v0_4 + 1))))))) else (K (decide (((v0_0.length : Int) : Int) ≤ v0_1)))
noncomputable def impl_namesOk.g {β : Type} (k : Nat) (a0 : List (List D)) (a1 : Int) (K : Bool → Option β) : Option β :=
  Z4 (impl_namesOk.l0 k a0 a1 a0 (a0.length : Int) K) k (0)
noncomputable def impl_namesOk.t (k : Nat) (a0 : List (List D)) (a1 : Int) : Option (Bool) := impl_namesOk.g k a0 a1 (fun z0 => some z0)
noncomputable def impl_namesOk.f {β : Type} (k : Nat) (a0 : List (List D)) (a1 : Int) (K : Bool → Option β) : Option β :=
  match impl_namesOk.t k a0 a1 with
  | some z0 => K z0
  | none => none
noncomputable def impl_namesOk.as (a0 : List (List D)) (a1 : Int) : List A := [.d (.sl a0), .d (.int .i64 a1)]
noncomputable def impl_namesOk.kt {β : Type} (a0 : List (List D)) (a1 : Int) (K0 : List (List C) → List Out → Option β) : Bool → Option β := fun z0 => K0 [[.d (.bool z0)]] []
noncomputable def impl_namesOk.e (k : Nat) : ZQ := { modes := [(.imm, 0), (.imm, 0)], rts := [4], al := false, run := fun {β} l K => match l with | [.d (.sl a0), .d (.int .i64 a1)] => impl_namesOk.f k a0 a1 (impl_namesOk.kt a0 a1 K) | _ => none }
noncomputable def impl_namesOk.E (k : Nat) : Env := fun g => bif g == 97 then some (impl_NameOk.e k) else none
noncomputable def impl_namesOk.h : ZY := ⟨fun n => bif n == 2 then ⟨[(0, .asis), (1, .asis), (7, .asis), (8, .asis), (9, .asis)], []⟩ else ⟨[], []⟩, fun _ => none, false, []⟩
noncomputable def impl_namesOk.s0 (v0_0 : List (List D)) (v0_1 : Int) (v0_2 : List (List D)) (v0_3 : Int) (v : Int) : St :=
  match v with
  | v0_4 => ⟨[.d false (.sl v0_0), .d false (.int .i64 v0_1), .any, .any, .any, .any, .any, .d false (.sl v0_2), .d true (.int .i64 v0_3), .d true (.int .i64 v0_4), .any, .any, .any, .any, .any, .any, .any, .any, .any, .any, .any, .any, .any, .any, .any, .any, .any, .any, .any, .any, .any, .any, .any, .any, .any], []⟩
noncomputable def impl_namesOk.b0 {β : Type} (k : Nat) : St → (Ex → St → Option β) → Option β := fun s K => den Try.prog (impl_namesOk.E k) impl_namesOk.h.H impl_namesOk.h.J k (Zad [1, 0, 1, 0, 0] (Zl Try.f229)) s K
noncomputable def impl_namesOk.c0 {β : Type} (k : Nat) (a0 : List (List D)) (a1 : Int) (K0 : List (List C) → List Out → Option β) : Ex → St → Option β := Zae Try.prog (impl_namesOk.E k) impl_namesOk.h k [1, 0, 1, 0] (Zl Try.f229) (Zak Try.prog Try.f229 impl_namesOk.h (impl_namesOk.as a0 a1) K0)
theorem impl_namesOk.l0_eq {β : Type} (k : Nat) (a0 : List (List D)) (a1 : Int) (K0 : List (List C) → List Out → Option β) (v0_0 : List (List D)) (v0_1 : Int) (v0_2 : List (List D)) (v0_3 : Int) : ∀ (kk : Nat) (v : Int), Zx (impl_namesOk.b0 k) (impl_namesOk.h.H 2) kk (impl_namesOk.s0 v0_0 v0_1 v0_2 v0_3 v) (impl_namesOk.c0 k a0 a1 K0) = Z4 (impl_namesOk.l0 k v0_0 v0_1 v0_2 v0_3 (impl_namesOk.kt a0 a1 K0)) kk v :=
  Z9 (impl_namesOk.s0 v0_0 v0_1 v0_2 v0_3) _ (fun L0 v => by kernel_rfl)
noncomputable def impl_namesOk.m {β : Type} (k : Nat) (a0 : List (List D)) (a1 : Int) (K0 : List (List C) → List Out → Option β) (F : ((List (List D)) → Int → (List (List D)) → Int → Int → Option β)) : Option β :=
  (F) a0 a1 a0 (a0.length : Int) (0)
theorem impl_namesOk.f_eq {β : Type} (k : Nat) (a0 : List (List D)) (a1 : Int) (K0 : List (List C) → List Out → Option β) : ZJ Try.prog (impl_namesOk.E k) impl_namesOk.h k Try.f229 (impl_namesOk.as a0 a1) K0 = impl_namesOk.g k a0 a1 (impl_namesOk.kt a0 a1 K0) := Eq.trans (b := (impl_namesOk.m k a0 a1 K0) (fun (v0_0 : List (List D)) (v0_1 : Int) (v0_2 : List (List D)) (v0_3 : Int) (v : Int) => Zx (impl_namesOk.b0 k) (impl_namesOk.h.H 2) k (impl_namesOk.s0 v0_0 v0_1 v0_2 v0_3 v) (impl_namesOk.c0 k a0 a1 K0))) (by kernel_rfl) (Eq.trans (congrArg (impl_namesOk.m k a0 a1 K0) (funext fun v0_0 => funext fun v0_1 => funext fun v0_2 => funext fun v0_3 => funext fun v => impl_namesOk.l0_eq k a0 a1 K0 v0_0 v0_1 v0_2 v0_3 k v)) (by kernel_rfl))
noncomputable def impl_namesOk.dec (rs : List (List C)) (os : List Out) : Option (Bool) := Zd rs fun c1 r2 => Zd c1 fun x3 l4 => cD x3 fun d5 => ZaF d5 fun w0 => Ze l4 <| Ze r2 <| Ze os (some w0)
theorem impl_namesOk.kt_dec (a0 : List (List D)) (a1 : Int) : impl_namesOk.kt a0 a1 impl_namesOk.dec = (fun z0 => some z0) := by kernel_rfl
theorem impl_namesOk.inj (a0 : List (List D)) (a1 : Int) {rs : List (List C)} {os : List Out} {z0 : Bool} (h : impl_namesOk.dec rs os = some z0) (ho : Zo (impl_namesOk.as a0 a1) os) : rs = [[.d (.bool z0)]] ∧ os = [] := by
  unfold impl_namesOk.dec at h
  obtain ⟨c1, r2, rfl, h1⟩ := Zb h
  obtain ⟨x3, l4, rfl, h2⟩ := Zb h1
  obtain ⟨d5, rfl, h3⟩ := Zt h2
  obtain ⟨w0, rfl, h4⟩ := Z0 h3
  obtain ⟨rfl, h5⟩ := Zc h4
  obtain ⟨rfl, h6⟩ := Zc h5
  obtain ⟨rfl, h7⟩ := Zc h6
  obtain rfl := Option.some.inj h7
  exact ⟨rfl, rfl⟩
theorem impl_namesOk.ok (k : Nat) : Zv Try.prog 229 (impl_namesOk.e k) := by
  refine Zu mix tyok (fn := Try.f229) (c := Zl Try.f229) Try.func229 (by kernel_rfl) (h := impl_namesOk.h) (k := k) (E := impl_namesOk.E k) (Zk (impl_NameOk.ok k) Zz) (by kernel_rfl) (by kernel_rfl) rfl (Zq Try.func229 (by kernel_rfl)) ?_
  intro β l K r hr
  simp only [impl_namesOk.e] at hr
  split at hr
  case h_2 => cases hr
  unfold impl_namesOk.f at hr
  split at hr
  case h_2 => cases hr
  rename_i hz
  exact ⟨_, _, hr, _, impl_namesOk.dec, _, (impl_namesOk.f_eq k _ _ impl_namesOk.dec).trans (by rw [impl_namesOk.kt_dec]; exact hz), fun rs os h ho => impl_namesOk.inj _ _ h ho⟩
noncomputable def impl_shapeOk.l0 {β : Type} (k : Nat) (v0_0 : Bool) (v0_1 : Bool) (v0_2 : Bool) (v0_3 : Int) (v0_5 : Int) (v0_6 : ByteArray) (v0_7 : Int) (v0_8 : List (List D)) (v0_9 : List (List D)) (K : Bool → Option β) (L0 : Int → Option β) (v : Int) : Option β :=
  match v with
  | v0_4 => bif (decide ((v0_4 : Int) < v0_3)) then (atStr v0_6 v0_4 fun b3 => impl_within.f k (IntKind.wrap .i64 b3) 32 126 (fun y4 => bif (!y4) then (K false) else (L0 (IntKind.wrap .i64 (v0_4 + 1))))) else (bif (decide (((v0_6.size : Int) : Int) ≤ 100)) then (bif v0_0 then (bif v0_1 then (K v0_2) else (K false)) else (K false)) else (K false))
noncomputable def impl_shapeOk.g {β : Type} (k : Nat) (a0_0 : Int) (a0_1 : ByteArray) (a0_2 : Int) (a0_3 : List (List D)) (a0_4 : List (List D)) (K : Bool → Option β) : Option β :=
  bif ((a0_0 : Int) == 1) then (Z4 (impl_shapeOk.l0 k ((a0_2 : Int) == 0) (((a0_3.length : Int) : Int) == 0) (((a0_4.length : Int) : Int) == 0) (a0_1.size : Int) a0_0 a0_1 a0_2 a0_3 a0_4 K) k (0)) else (bif ((a0_0 : Int) == 2) then (bif (strEq a0_1 (⟨#[]⟩ : ByteArray)) then (bif (((a0_3.length : Int) : Int) == 0) then (K (((a0_4.length : Int) : Int) == 0)) else (K false)) else (K false)) else (bif ((a0_0 : Int) == 3) then (impl_within.f k a0_2 0 1 (fun y5 => bif (strEq a0_1 (⟨#[]⟩ : ByteArray)) then (bif y5 then (bif (((a0_3.length : Int) : Int) == 0) then (K (((a0_4.length : Int) : Int) == 0)) else (K false)) else (K false)) else (K false))) else (bif ((a0_0 : Int) == 4) then (bif (strEq a0_1 (⟨#[]⟩ : ByteArray)) then (bif ((a0_2 : Int) == 0) then (bif (((a0_3.length : Int) : Int) == 0) then (K true) else (K false)) else (K false)) else (K false)) else (bif ((a0_0 : Int) == 5) then (impl_namesOk.f k a0_3 300 (fun y19 => bif y19 then (bif (strEq a0_1 (⟨#[]⟩ : ByteArray)) then (bif ((a0_2 : Int) == 0) then (bif (((a0_3.length : Int) : Int) == (a0_4.length : Int)) then (K true) else (K false)) else (K false)) else (K false)) else (bif (strEq a0_1 (⟨#[]⟩ : ByteArray)) then (bif ((a0_2 : Int) == 0) then (K false) else (K false)) else (K false)))) else (K false)))))
noncomputable def impl_shapeOk.t (k : Nat) (a0_0 : Int) (a0_1 : ByteArray) (a0_2 : Int) (a0_3 : List (List D)) (a0_4 : List (List D)) : Option (Bool) := impl_shapeOk.g k a0_0 a0_1 a0_2 a0_3 a0_4 (fun z0 => some z0)
noncomputable def impl_shapeOk.f {β : Type} (k : Nat) (a0_0 : Int) (a0_1 : ByteArray) (a0_2 : Int) (a0_3 : List (List D)) (a0_4 : List (List D)) (K : Bool → Option β) : Option β :=
  match impl_shapeOk.t k a0_0 a0_1 a0_2 a0_3 a0_4 with
  | some z0 => K z0
  | none => none
noncomputable def impl_shapeOk.as (a0_0 : Int) (a0_1 : ByteArray) (a0_2 : Int) (a0_3 : List (List D)) (a0_4 : List (List D)) : List A := [.agg [.int .i64 a0_0, .str a0_1, .int .i64 a0_2, .sl a0_3, .sl a0_4]]
noncomputable def impl_shapeOk.kt {β : Type} (a0_0 : Int) (a0_1 : ByteArray) (a0_2 : Int) (a0_3 : List (List D)) (a0_4 : List (List D)) (K0 : List (List C) → List Out → Option β) : Bool → Option β := fun z0 => K0 [[.d (.bool z0)]] []
noncomputable def impl_shapeOk.e (k : Nat) : ZQ := { modes := [(.imm, 0)], rts := [4], al := false, run := fun {β} l K => match l with | [.agg [.int .i64 a0_0, .str a0_1, .int .i64 a0_2, .sl a0_3, .sl a0_4]] => impl_shapeOk.f k a0_0 a0_1 a0_2 a0_3 a0_4 (impl_shapeOk.kt a0_0 a0_1 a0_2 a0_3 a0_4 K) | _ => none }
noncomputable def impl_shapeOk.E (k : Nat) : Env := fun g => bif g == 126 then some (impl_within.e k) else bif g == 229 then some (impl_namesOk.e k) else none
noncomputable def impl_shapeOk.h : ZY := ⟨fun n => bif n == 6 then ⟨[(1, .asis), (4, .asis), (5, .asis), (6, .asis), (28, .asis), (29, .asis)], []⟩ else ⟨[], []⟩, fun _ => none, false, []⟩
noncomputable def impl_shapeOk.s0 (v0_0 : Bool) (v0_1 : Bool) (v0_2 : Bool) (v0_3 : Int) (v0_5 : Int) (v0_6 : ByteArray) (v0_7 : Int) (v0_8 : List (List D)) (v0_9 : List (List D)) (v : Int) : St :=
  match v with
  | v0_4 => ⟨[.any, .bp 0 0, .any, .any, .d true (.bool v0_0), .d true (.bool v0_1), .d true (.bool v0_2), .any, .any, .any, .any, .any, .any, .any, .any, .any, .any, .any, .any, .any, .any, .any, .any, .any, .any, .any, .any, .any, .d true (.int .i64 v0_3), .d true (.int .i64 v0_4), .any, .any, .any, .any, .any, .any, .any, .any, .any, .any, .any, .any, .any, .any, .any, .any, .any, .any, .any, .any, .any, .any, .any, .any, .any, .any, .any, .any, .any, .any, .any, .any, .any, .any, .any, .any, .any, .any, .any, .any, .any, .any, .any, .any, .any, .any, .any], [.box none 151 [.d false (.int .i64 v0_5), .d false (.str v0_6), .d false (.int .i64 v0_7), .d false (.sl v0_8), .d false (.sl v0_9)]]⟩
noncomputable def impl_shapeOk.b0 {β : Type} (k : Nat) : St → (Ex → St → Option β) → Option β := fun s K => den Try.prog (impl_shapeOk.E k) impl_shapeOk.h.H impl_shapeOk.h.J k (Zad [1, 1, 0, 1, 0, 1, 0, 0, 1, 0, 0] (Zl Try.f249)) s K
noncomputable def impl_shapeOk.c0 {β : Type} (k : Nat) (a0_0 : Int) (a0_1 : ByteArray) (a0_2 : Int) (a0_3 : List (List D)) (a0_4 : List (List D)) (K0 : List (List C) → List Out → Option β) : Ex → St → Option β := Zae Try.prog (impl_shapeOk.E k) impl_shapeOk.h k [1, 1, 0, 1, 0, 1, 0, 0, 1, 0] (Zl Try.f249) (Zak Try.prog Try.f249 impl_shapeOk.h (impl_shapeOk.as a0_0 a0_1 a0_2 a0_3 a0_4) K0)
theorem impl_shapeOk.l0_eq {β : Type} (k : Nat) (a0_0 : Int) (a0_1 : ByteArray) (a0_2 : Int) (a0_3 : List (List D)) (a0_4 : List (List D)) (K0 : List (List C) → List Out → Option β) (v0_0 : Bool) (v0_1 : Bool) (v0_2 : Bool) (v0_3 : Int) (v0_5 : Int) (v0_6 : ByteArray) (v0_7 : Int) (v0_8 : List (List D)) (v0_9 : List (List D)) : ∀ (kk : Nat) (v : Int), Zx (impl_shapeOk.b0 k) (impl_shapeOk.h.H 6) kk (impl_shapeOk.s0 v0_0 v0_1 v0_2 v0_3 v0_5 v0_6 v0_7 v0_8 v0_9 v) (impl_shapeOk.c0 k a0_0 a0_1 a0_2 a0_3 a0_4 K0) = Z4 (impl_shapeOk.l0 k v0_0 v0_1 v0_2 v0_3 v0_5 v0_6 v0_7 v0_8 v0_9 (impl_shapeOk.kt a0_0 a0_1 a0_2 a0_3 a0_4 K0)) kk v :=
  Z9 (impl_shapeOk.s0 v0_0 v0_1 v0_2 v0_3 v0_5 v0_6 v0_7 v0_8 v0_9) _ (fun L0 v => by kernel_rfl)
noncomputable def impl_shapeOk.m {β : Type} (k : Nat) (a0_0 : Int) (a0_1 : ByteArray) (a0_2 : Int) (a0_3 : List (List D)) (a0_4 : List (List D)) (K0 : List (List C) → List Out → Option β) (F : (Bool → Bool → Bool → Int → Int → ByteArray → Int → (List (List D)) → (List (List D)) → Int → Option β)) : Option β :=
  bif ((a0_0 : Int) == 1) then ((F) ((a0_2 : Int) == 0) (((a0_3.length : Int) : Int) == 0) (((a0_4.length : Int) : Int) == 0) (a0_1.size : Int) a0_0 a0_1 a0_2 a0_3 a0_4 (0)) else (bif ((a0_0 : Int) == 2) then (bif (strEq a0_1 (⟨#[]⟩ : ByteArray)) then (bif (((a0_3.length : Int) : Int) == 0) then ((impl_shapeOk.kt a0_0 a0_1 a0_2 a0_3 a0_4 K0) (((a0_4.length : Int) : Int) == 0)) else ((impl_shapeOk.kt a0_0 a0_1 a0_2 a0_3 a0_4 K0) false)) else ((impl_shapeOk.kt a0_0 a0_1 a0_2 a0_3 a0_4 K0) false)) else (bif ((a0_0 : Int) == 3) then (impl_within.f k a0_2 0 1 (fun y5 => bif (strEq a0_1 (⟨#[]⟩ : ByteArray)) then (bif y5 then (bif (((a0_3.length : Int) : Int) == 0) then ((impl_shapeOk.kt a0_0 a0_1 a0_2 a0_3 a0_4 K0) (((a0_4.length : Int) : Int) == 0)) else ((impl_shapeOk.kt a0_0 a0_1 a0_2 a0_3 a0_4 K0) false)) else ((impl_shapeOk.kt a0_0 a0_1 a0_2 a0_3 a0_4 K0) false)) else ((impl_shapeOk.kt a0_0 a0_1 a0_2 a0_3 a0_4 K0) false))) else (bif ((a0_0 : Int) == 4) then (bif (strEq a0_1 (⟨#[]⟩ : ByteArray)) then (bif ((a0_2 : Int) == 0) then (bif (((a0_3.length : Int) : Int) == 0) then ((impl_shapeOk.kt a0_0 a0_1 a0_2 a0_3 a0_4 K0) true) else ((impl_shapeOk.kt a0_0 a0_1 a0_2 a0_3 a0_4 K0) false)) else ((impl_shapeOk.kt a0_0 a0_1 a0_2 a0_3 a0_4 K0) false)) else ((impl_shapeOk.kt a0_0 a0_1 a0_2 a0_3 a0_4 K0) false)) else (bif ((a0_0 : Int) == 5) then (impl_namesOk.f k a0_3 300 (fun y19 => bif y19 then (bif (strEq a0_1 (⟨#[]⟩ : ByteArray)) then (bif ((a0_2 : Int) == 0) then (bif (((a0_3.length : Int) : Int) == (a0_4.length : Int)) then ((impl_shapeOk.kt a0_0 a0_1 a0_2 a0_3 a0_4 K0) true) else ((impl_shapeOk.kt a0_0 a0_1 a0_2 a0_3 a0_4 K0) false)) else ((impl_shapeOk.kt a0_0 a0_1 a0_2 a0_3 a0_4 K0) false)) else ((impl_shapeOk.kt a0_0 a0_1 a0_2 a0_3 a0_4 K0) false)) else (bif (strEq a0_1 (⟨#[]⟩ : ByteArray)) then (bif ((a0_2 : Int) == 0) then ((impl_shapeOk.kt a0_0 a0_1 a0_2 a0_3 a0_4 K0) false) else ((impl_shapeOk.kt a0_0 a0_1 a0_2 a0_3 a0_4 K0) false)) else ((impl_shapeOk.kt a0_0 a0_1 a0_2 a0_3 a0_4 K0) false)))) else ((impl_shapeOk.kt a0_0 a0_1 a0_2 a0_3 a0_4 K0) false)))))
theorem impl_shapeOk.f_eq {β : Type} (k : Nat) (a0_0 : Int) (a0_1 : ByteArray) (a0_2 : Int) (a0_3 : List (List D)) (a0_4 : List (List D)) (K0 : List (List C) → List Out → Option β) : ZJ Try.prog (impl_shapeOk.E k) impl_shapeOk.h k Try.f249 (impl_shapeOk.as a0_0 a0_1 a0_2 a0_3 a0_4) K0 = impl_shapeOk.g k a0_0 a0_1 a0_2 a0_3 a0_4 (impl_shapeOk.kt a0_0 a0_1 a0_2 a0_3 a0_4 K0) := Eq.trans (b := (impl_shapeOk.m k a0_0 a0_1 a0_2 a0_3 a0_4 K0) (fun (v0_0 : Bool) (v0_1 : Bool) (v0_2 : Bool) (v0_3 : Int) (v0_5 : Int) (v0_6 : ByteArray) (v0_7 : Int) (v0_8 : List (List D)) (v0_9 : List (List D)) (v : Int) => Zx (impl_shapeOk.b0 k) (impl_shapeOk.h.H 6) k (impl_shapeOk.s0 v0_0 v0_1 v0_2 v0_3 v0_5 v0_6 v0_7 v0_8 v0_9 v) (impl_shapeOk.c0 k a0_0 a0_1 a0_2 a0_3 a0_4 K0))) (by kernel_rfl) (Eq.trans (congrArg (impl_shapeOk.m k a0_0 a0_1 a0_2 a0_3 a0_4 K0) (funext fun v0_0 => funext fun v0_1 => funext fun v0_2 => funext fun v0_3 => funext fun v0_5 => funext fun v0_6 => funext fun v0_7 => funext fun v0_8 => funext fun v0_9 => funext fun v => impl_shapeOk.l0_eq k a0_0 a0_1 a0_2 a0_3 a0_4 K0 v0_0 v0_1 v0_2 v0_3 v0_5 v0_6 v0_7 v0_8 v0_9 k v)) (by kernel_rfl))
noncomputable def impl_shapeOk.dec (rs : List (List C)) (os : List Out) : Option (Bool) := Zd rs fun c1 r2 => Zd c1 fun x3 l4 => cD x3 fun d5 => ZaF d5 fun w0 => Ze l4 <| Ze r2 <| Ze os (some w0)
theorem impl_shapeOk.kt_dec (a0_0 : Int) (a0_1 : ByteArray) (a0_2 : Int) (a0_3 : List (List D)) (a0_4 : List (List D)) : impl_shapeOk.kt a0_0 a0_1 a0_2 a0_3 a0_4 impl_shapeOk.dec = (fun z0 => some z0) := by kernel_rfl
theorem impl_shapeOk.inj (a0_0 : Int) (a0_1 : ByteArray) (a0_2 : Int) (a0_3 : List (List D)) (a0_4 : List (List D)) {rs : List (List C)} {os : List Out} {z0 : Bool} (h : impl_shapeOk.dec rs os = some z0) (ho : Zo (impl_shapeOk.as a0_0 a0_1 a0_2 a0_3 a0_4) os) : rs = [[.d (.bool z0)]] ∧ os = [] := by
  unfold impl_shapeOk.dec at h
  obtain ⟨c1, r2, rfl, h1⟩ := Zb h
  obtain ⟨x3, l4, rfl, h2⟩ := Zb h1
  obtain ⟨d5, rfl, h3⟩ := Zt h2
  obtain ⟨w0, rfl, h4⟩ := Z0 h3
  obtain ⟨rfl, h5⟩ := Zc h4
  obtain ⟨rfl, h6⟩ := Zc h5
  obtain ⟨rfl, h7⟩ := Zc h6
  obtain rfl := Option.some.inj h7
  exact ⟨rfl, rfl⟩
theorem impl_shapeOk.ok (k : Nat) : Zv Try.prog 249 (impl_shapeOk.e k) := by
  refine Zu mix tyok (fn := Try.f249) (c := Zl Try.f249) Try.func249 (by kernel_rfl) (h := impl_shapeOk.h) (k := k) (E := impl_shapeOk.E k) (Zk (impl_within.ok k) (Zk (impl_namesOk.ok k) Zz)) (by kernel_rfl) (by kernel_rfl) rfl (Zq Try.func249 (by kernel_rfl)) ?_
  intro β l K r hr
  simp only [impl_shapeOk.e] at hr
  split at hr
  case h_2 => cases hr
  unfold impl_shapeOk.f at hr
  split at hr
  case h_2 => cases hr
  rename_i hz
  exact ⟨_, _, hr, _, impl_shapeOk.dec, _, (impl_shapeOk.f_eq k _ _ _ _ _ impl_shapeOk.dec).trans (by rw [impl_shapeOk.kt_dec]; exact hz), fun rs os h ho => impl_shapeOk.inj _ _ _ _ _ h ho⟩
noncomputable def impl_measured.l0 {β : Type} (k : Nat) (r_impl_measured : Int → ByteArray → Int → (List (List D)) → (List (List D)) → Int → (Int → Option β) → Option β) (v0_0 : Int) (v0_2 : List (List D)) (v0_3 : Int) (K : Int → Option β) (L0 : (Int × Int) → Option β) (v : Int × Int) : Option β :=
  match v with
  | (v0_1, v0_4) => bif (decide ((v0_4 : Int) < v0_3)) then (ZX v0_2 v0_4 fun c38 => Zd c38 fun d39 r40 => ZM .i64 d39 fun x41 => Zd r40 fun d42 r43 => Zan d42 fun x44 => Zd r43 fun d45 r46 => ZM .i64 d45 fun x47 => Zd r46 fun d48 r49 => dSl d48 fun x50 => Zd r49 fun d51 r52 => dSl d51 fun x53 => Ze r52 (r_impl_measured x41 x44 x47 x50 x53 (IntKind.wrap .i64 (v0_0 - 1)) (fun y54 => bif (decide (((IntKind.wrap .i64 (v0_1 + y54)) : Int) > 300)) then (K 301) else (L0 (IntKind.wrap .i64 (v0_1 + y54), IntKind.wrap .i64 (v0_4 + 1)))))) else (K v0_1)
noncomputable def impl_measured.body {β : Type} (k : Nat) (r_impl_measured : Int → ByteArray → Int → (List (List D)) → (List (List D)) → Int → (Int → Option β) → Option β) (a0_0 : Int) (a0_1 : ByteArray) (a0_2 : Int) (a0_3 : List (List D)) (a0_4 : List (List D)) (a1 : Int) (K : Int → Option β) : Option β :=
  bif ((a1 : Int) == 0) then (K 301) else (impl_shapeOk.f k a0_0 a0_1 a0_2 a0_3 a0_4 (fun y20 => bif (!y20) then (K 301) else (Z4 (impl_measured.l0 k r_impl_measured a1 a0_4 (a0_4.length : Int) K) k (1, 0))))
noncomputable def impl_measured.w {β : Type} (r : Int → ByteArray → Int → (List (List D)) → (List (List D)) → Int → Option (Int)) (a0_0 : Int) (a0_1 : ByteArray) (a0_2 : Int) (a0_3 : List (List D)) (a0_4 : List (List D)) (a1 : Int) (K : Int → Option β) : Option β :=
  match r a0_0 a0_1 a0_2 a0_3 a0_4 a1 with
  | some z0 => K z0
  | none => none
noncomputable def impl_measured.all : Nat → (Int → ByteArray → Int → (List (List D)) → (List (List D)) → Int → Option (Int))
  | 0 => (fun _ _ _ _ _ _ => none)
  | k + 1 => (fun r => (fun a0_0 a0_1 a0_2 a0_3 a0_4 a1 => impl_measured.body k (impl_measured.w r) a0_0 a0_1 a0_2 a0_3 a0_4 a1 (fun z0 => some z0))) (impl_measured.all k)
noncomputable def impl_measured.t (k : Nat) (a0_0 : Int) (a0_1 : ByteArray) (a0_2 : Int) (a0_3 : List (List D)) (a0_4 : List (List D)) (a1 : Int) : Option (Int) := (impl_measured.all k) a0_0 a0_1 a0_2 a0_3 a0_4 a1
noncomputable def impl_measured.f {β : Type} (k : Nat) (a0_0 : Int) (a0_1 : ByteArray) (a0_2 : Int) (a0_3 : List (List D)) (a0_4 : List (List D)) (a1 : Int) (K : Int → Option β) : Option β := impl_measured.w (impl_measured.t k) a0_0 a0_1 a0_2 a0_3 a0_4 a1 K
noncomputable def impl_measured.g {β : Type} (k : Nat) (a0_0 : Int) (a0_1 : ByteArray) (a0_2 : Int) (a0_3 : List (List D)) (a0_4 : List (List D)) (a1 : Int) (K : Int → Option β) : Option β := impl_measured.body k (impl_measured.f k) a0_0 a0_1 a0_2 a0_3 a0_4 a1 K
theorem impl_measured.t_zero (a0_0 : Int) (a0_1 : ByteArray) (a0_2 : Int) (a0_3 : List (List D)) (a0_4 : List (List D)) (a1 : Int) : impl_measured.t 0 a0_0 a0_1 a0_2 a0_3 a0_4 a1 = none := rfl
theorem impl_measured.t_succ (k : Nat) (a0_0 : Int) (a0_1 : ByteArray) (a0_2 : Int) (a0_3 : List (List D)) (a0_4 : List (List D)) (a1 : Int) : impl_measured.t (k + 1) a0_0 a0_1 a0_2 a0_3 a0_4 a1 = impl_measured.g k a0_0 a0_1 a0_2 a0_3 a0_4 a1 (fun z0 => some z0) := rfl
noncomputable def impl_measured.as (a0_0 : Int) (a0_1 : ByteArray) (a0_2 : Int) (a0_3 : List (List D)) (a0_4 : List (List D)) (a1 : Int) : List A := [.agg [.int .i64 a0_0, .str a0_1, .int .i64 a0_2, .sl a0_3, .sl a0_4], .d (.int .i64 a1)]
noncomputable def impl_measured.kt {β : Type} (a0_0 : Int) (a0_1 : ByteArray) (a0_2 : Int) (a0_3 : List (List D)) (a0_4 : List (List D)) (a1 : Int) (K0 : List (List C) → List Out → Option β) : Int → Option β := fun z0 => K0 [[.d (.int .i64 z0)]] []
noncomputable def impl_measured.e (k : Nat) : ZQ := { modes := [(.imm, 0), (.imm, 0)], rts := [3], al := false, run := fun {β} l K => match l with | [.agg [.int .i64 a0_0, .str a0_1, .int .i64 a0_2, .sl a0_3, .sl a0_4], .d (.int .i64 a1)] => impl_measured.f k a0_0 a0_1 a0_2 a0_3 a0_4 a1 (impl_measured.kt a0_0 a0_1 a0_2 a0_3 a0_4 a1 K) | _ => none }
noncomputable def impl_measured.E (k : Nat) : Env := fun g => bif g == 249 then some (impl_shapeOk.e k) else bif g == 225 then some (impl_measured.e k) else none
noncomputable def impl_measured.h : ZY := ⟨fun n => bif n == 5 then ⟨[(1, .asis), (5, .asis), (16, .asis), (17, .asis), (18, .asis)], []⟩ else ⟨[], []⟩, fun _ => none, false, []⟩
noncomputable def impl_measured.s0 (v0_0 : Int) (v0_2 : List (List D)) (v0_3 : Int) (v : Int × Int) : St :=
  match v with
  | (v0_1, v0_4) => ⟨[.any, .d false (.int .i64 v0_0), .any, .any, .any, .d true (.int .i64 v0_1), .any, .any, .any, .any, .any, .any, .any, .any, .any, .any, .d false (.sl v0_2), .d true (.int .i64 v0_3), .d true (.int .i64 v0_4), .any, .any, .any, .any, .any, .any, .any, .any, .any, .any, .any, .any, .any], []⟩
noncomputable def impl_measured.b0 {β : Type} (k : Nat) : St → (Ex → St → Option β) → Option β := fun s K => den Try.prog (impl_measured.E k) impl_measured.h.H impl_measured.h.J k (Zad [1, 1, 1, 0, 1, 0, 0] (Zl Try.f225)) s K
noncomputable def impl_measured.c0 {β : Type} (k : Nat) (a0_0 : Int) (a0_1 : ByteArray) (a0_2 : Int) (a0_3 : List (List D)) (a0_4 : List (List D)) (a1 : Int) (K0 : List (List C) → List Out → Option β) : Ex → St → Option β := Zae Try.prog (impl_measured.E k) impl_measured.h k [1, 1, 1, 0, 1, 0] (Zl Try.f225) (Zak Try.prog Try.f225 impl_measured.h (impl_measured.as a0_0 a0_1 a0_2 a0_3 a0_4 a1) K0)
theorem impl_measured.l0_eq {β : Type} (k : Nat) (a0_0 : Int) (a0_1 : ByteArray) (a0_2 : Int) (a0_3 : List (List D)) (a0_4 : List (List D)) (a1 : Int) (K0 : List (List C) → List Out → Option β) (v0_0 : Int) (v0_2 : List (List D)) (v0_3 : Int) : ∀ (kk : Nat) (v : Int × Int), Zx (impl_measured.b0 k) (impl_measured.h.H 5) kk (impl_measured.s0 v0_0 v0_2 v0_3 v) (impl_measured.c0 k a0_0 a0_1 a0_2 a0_3 a0_4 a1 K0) = Z4 (impl_measured.l0 k (impl_measured.f k) v0_0 v0_2 v0_3 (impl_measured.kt a0_0 a0_1 a0_2 a0_3 a0_4 a1 K0)) kk v :=
  Z9 (impl_measured.s0 v0_0 v0_2 v0_3) _ (fun L0 v => by obtain ⟨v0_1, v0_4⟩ := v; kernel_rfl)
noncomputable def impl_measured.m {β : Type} (k : Nat) (a0_0 : Int) (a0_1 : ByteArray) (a0_2 : Int) (a0_3 : List (List D)) (a0_4 : List (List D)) (a1 : Int) (K0 : List (List C) → List Out → Option β) (F : (Int → (List (List D)) → Int → (Int × Int) → Option β)) : Option β :=
  bif ((a1 : Int) == 0) then ((impl_measured.kt a0_0 a0_1 a0_2 a0_3 a0_4 a1 K0) 301) else (impl_shapeOk.f k a0_0 a0_1 a0_2 a0_3 a0_4 (fun y20 => bif (!y20) then ((impl_measured.kt a0_0 a0_1 a0_2 a0_3 a0_4 a1 K0) 301) else ((F) a1 a0_4 (a0_4.length : Int) (1, 0))))
theorem impl_measured.f_eq {β : Type} (k : Nat) (a0_0 : Int) (a0_1 : ByteArray) (a0_2 : Int) (a0_3 : List (List D)) (a0_4 : List (List D)) (a1 : Int) (K0 : List (List C) → List Out → Option β) : ZJ Try.prog (impl_measured.E k) impl_measured.h k Try.f225 (impl_measured.as a0_0 a0_1 a0_2 a0_3 a0_4 a1) K0 = impl_measured.g k a0_0 a0_1 a0_2 a0_3 a0_4 a1 (impl_measured.kt a0_0 a0_1 a0_2 a0_3 a0_4 a1 K0) := Eq.trans (b := (impl_measured.m k a0_0 a0_1 a0_2 a0_3 a0_4 a1 K0) (fun (v0_0 : Int) (v0_2 : List (List D)) (v0_3 : Int) (v : Int × Int) => Zx (impl_measured.b0 k) (impl_measured.h.H 5) k (impl_measured.s0 v0_0 v0_2 v0_3 v) (impl_measured.c0 k a0_0 a0_1 a0_2 a0_3 a0_4 a1 K0))) (by kernel_rfl) (Eq.trans (congrArg (impl_measured.m k a0_0 a0_1 a0_2 a0_3 a0_4 a1 K0) (funext fun v0_0 => funext fun v0_2 => funext fun v0_3 => funext fun v => impl_measured.l0_eq k a0_0 a0_1 a0_2 a0_3 a0_4 a1 K0 v0_0 v0_2 v0_3 k v)) (by kernel_rfl))
noncomputable def impl_measured.dec (rs : List (List C)) (os : List Out) : Option (Int) := Zd rs fun c1 r2 => Zd c1 fun x3 l4 => cD x3 fun d5 => ZM .i64 d5 fun w0 => Ze l4 <| Ze r2 <| Ze os (some w0)
theorem impl_measured.kt_dec (a0_0 : Int) (a0_1 : ByteArray) (a0_2 : Int) (a0_3 : List (List D)) (a0_4 : List (List D)) (a1 : Int) : impl_measured.kt a0_0 a0_1 a0_2 a0_3 a0_4 a1 impl_measured.dec = (fun z0 => some z0) := by kernel_rfl
theorem impl_measured.inj (a0_0 : Int) (a0_1 : ByteArray) (a0_2 : Int) (a0_3 : List (List D)) (a0_4 : List (List D)) (a1 : Int) {rs : List (List C)} {os : List Out} {z0 : Int} (h : impl_measured.dec rs os = some z0) (ho : Zo (impl_measured.as a0_0 a0_1 a0_2 a0_3 a0_4 a1) os) : rs = [[.d (.int .i64 z0)]] ∧ os = [] := by
  unfold impl_measured.dec at h
  obtain ⟨c1, r2, rfl, h1⟩ := Zb h
  obtain ⟨x3, l4, rfl, h2⟩ := Zb h1
  obtain ⟨d5, rfl, h3⟩ := Zt h2
  obtain ⟨w0, rfl, h4⟩ := ZA h3
  obtain ⟨rfl, h5⟩ := Zc h4
  obtain ⟨rfl, h6⟩ := Zc h5
  obtain ⟨rfl, h7⟩ := Zc h6
  obtain rfl := Option.some.inj h7
  exact ⟨rfl, rfl⟩
theorem impl_measured.oks (k : Nat) : Zv Try.prog 225 (impl_measured.e k) := by
  induction k with
  | zero =>
    refine ?_
    · exact Zb1 (Zq Try.func225 (by kernel_rfl)) fun β l K r h => by
        simp only [impl_measured.e] at h
        split at h
        · unfold impl_measured.f at h
          unfold impl_measured.w at h
          rw [impl_measured.t_zero] at h
          cases h
        · cases h
  | succ k ih =>
    refine ?_
    · refine Zu mix tyok (fn := Try.f225) (c := Zl Try.f225) Try.func225 (by kernel_rfl) (h := impl_measured.h) (k := k) (E := impl_measured.E k) (Zk (impl_shapeOk.ok k) (Zk ih Zz)) (by kernel_rfl) (by kernel_rfl) rfl (Zq Try.func225 (by kernel_rfl)) ?_
      intro β l K r hr
      simp only [impl_measured.e] at hr
      split at hr
      case h_2 => cases hr
      unfold impl_measured.f at hr
      unfold impl_measured.w at hr
      split at hr
      case h_2 => cases hr
      rename_i hz
      exact ⟨_, _, hr, _, impl_measured.dec, _, (impl_measured.f_eq k _ _ _ _ _ _ impl_measured.dec).trans (by rw [impl_measured.kt_dec]; exact hz), fun rs os h ho => impl_measured.inj _ _ _ _ _ _ h ho⟩
theorem impl_measured.ok (k : Nat) : Zv Try.prog 225 (impl_measured.e k) := (impl_measured.oks k)
noncomputable def impl_ValueOk.g {β : Type} (k : Nat) (a0_0 : Int) (a0_1 : ByteArray) (a0_2 : Int) (a0_3 : List (List D)) (a0_4 : List (List D)) (K : Bool → Option β) : Option β :=
  impl_measured.f k a0_0 a0_1 a0_2 a0_3 a0_4 6 (fun y55 => K (decide ((y55 : Int) ≤ 300)))
noncomputable def impl_ValueOk.t (k : Nat) (a0_0 : Int) (a0_1 : ByteArray) (a0_2 : Int) (a0_3 : List (List D)) (a0_4 : List (List D)) : Option (Bool) := impl_ValueOk.g k a0_0 a0_1 a0_2 a0_3 a0_4 (fun z0 => some z0)
noncomputable def impl_ValueOk.f {β : Type} (k : Nat) (a0_0 : Int) (a0_1 : ByteArray) (a0_2 : Int) (a0_3 : List (List D)) (a0_4 : List (List D)) (K : Bool → Option β) : Option β :=
  match impl_ValueOk.t k a0_0 a0_1 a0_2 a0_3 a0_4 with
  | some z0 => K z0
  | none => none
noncomputable def impl_ValueOk.as (a0_0 : Int) (a0_1 : ByteArray) (a0_2 : Int) (a0_3 : List (List D)) (a0_4 : List (List D)) : List A := [.agg [.int .i64 a0_0, .str a0_1, .int .i64 a0_2, .sl a0_3, .sl a0_4]]
noncomputable def impl_ValueOk.kt {β : Type} (a0_0 : Int) (a0_1 : ByteArray) (a0_2 : Int) (a0_3 : List (List D)) (a0_4 : List (List D)) (K0 : List (List C) → List Out → Option β) : Bool → Option β := fun z0 => K0 [[.d (.bool z0)]] []
noncomputable def impl_ValueOk.e (k : Nat) : ZQ := { modes := [(.imm, 0)], rts := [4], al := false, run := fun {β} l K => match l with | [.agg [.int .i64 a0_0, .str a0_1, .int .i64 a0_2, .sl a0_3, .sl a0_4]] => impl_ValueOk.f k a0_0 a0_1 a0_2 a0_3 a0_4 (impl_ValueOk.kt a0_0 a0_1 a0_2 a0_3 a0_4 K) | _ => none }
noncomputable def impl_ValueOk.E (k : Nat) : Env := fun g => bif g == 225 then some (impl_measured.e k) else none
noncomputable def impl_ValueOk.h : ZY := ⟨fun n => ⟨[], []⟩, fun _ => none, false, []⟩
theorem impl_ValueOk.f_eq {β : Type} (k : Nat) (a0_0 : Int) (a0_1 : ByteArray) (a0_2 : Int) (a0_3 : List (List D)) (a0_4 : List (List D)) (K0 : List (List C) → List Out → Option β) : ZJ Try.prog (impl_ValueOk.E k) impl_ValueOk.h k Try.f188 (impl_ValueOk.as a0_0 a0_1 a0_2 a0_3 a0_4) K0 = impl_ValueOk.g k a0_0 a0_1 a0_2 a0_3 a0_4 (impl_ValueOk.kt a0_0 a0_1 a0_2 a0_3 a0_4 K0) := by kernel_rfl
noncomputable def impl_ValueOk.dec (rs : List (List C)) (os : List Out) : Option (Bool) := Zd rs fun c1 r2 => Zd c1 fun x3 l4 => cD x3 fun d5 => ZaF d5 fun w0 => Ze l4 <| Ze r2 <| Ze os (some w0)
theorem impl_ValueOk.kt_dec (a0_0 : Int) (a0_1 : ByteArray) (a0_2 : Int) (a0_3 : List (List D)) (a0_4 : List (List D)) : impl_ValueOk.kt a0_0 a0_1 a0_2 a0_3 a0_4 impl_ValueOk.dec = (fun z0 => some z0) := by kernel_rfl
theorem impl_ValueOk.inj (a0_0 : Int) (a0_1 : ByteArray) (a0_2 : Int) (a0_3 : List (List D)) (a0_4 : List (List D)) {rs : List (List C)} {os : List Out} {z0 : Bool} (h : impl_ValueOk.dec rs os = some z0) (ho : Zo (impl_ValueOk.as a0_0 a0_1 a0_2 a0_3 a0_4) os) : rs = [[.d (.bool z0)]] ∧ os = [] := by
  unfold impl_ValueOk.dec at h
  obtain ⟨c1, r2, rfl, h1⟩ := Zb h
  obtain ⟨x3, l4, rfl, h2⟩ := Zb h1
  obtain ⟨d5, rfl, h3⟩ := Zt h2
  obtain ⟨w0, rfl, h4⟩ := Z0 h3
  obtain ⟨rfl, h5⟩ := Zc h4
  obtain ⟨rfl, h6⟩ := Zc h5
  obtain ⟨rfl, h7⟩ := Zc h6
  obtain rfl := Option.some.inj h7
  exact ⟨rfl, rfl⟩
theorem impl_ValueOk.ok (k : Nat) : Zv Try.prog 188 (impl_ValueOk.e k) := by
  refine Zu mix tyok (fn := Try.f188) (c := Zl Try.f188) Try.func188 (by kernel_rfl) (h := impl_ValueOk.h) (k := k) (E := impl_ValueOk.E k) (Zk (impl_measured.ok k) Zz) (by kernel_rfl) (by kernel_rfl) rfl (Zq Try.func188 (by kernel_rfl)) ?_
  intro β l K r hr
  simp only [impl_ValueOk.e] at hr
  split at hr
  case h_2 => cases hr
  unfold impl_ValueOk.f at hr
  split at hr
  case h_2 => cases hr
  rename_i hz
  exact ⟨_, _, hr, _, impl_ValueOk.dec, _, (impl_ValueOk.f_eq k _ _ _ _ _ impl_ValueOk.dec).trans (by rw [impl_ValueOk.kt_dec]; exact hz), fun rs os h ho => impl_ValueOk.inj _ _ _ _ _ h ho⟩
noncomputable def impl_WorksOk.l0 {β : Type} (k : Nat) (v0_0 : List (List D)) (v0_1 : List (List D)) (v0_2 : Int) (K : Bool → Option β) (L0 : Int → Option β) (v : Int) : Option β :=
  match v with
  | v0_3 => bif (decide ((v0_3 : Int) < v0_2)) then (ZX v0_1 v0_3 fun c79 => Zd c79 fun d80 r81 => ZM .i64 d80 fun x82 => Zd r81 fun d83 r84 => ZM .i64 d83 fun x85 => Zd r84 fun d86 r87 => ZM .i64 d86 fun x88 => Zd r87 fun d89 r90 => Zan d89 fun x91 => Zd r90 fun d92 r93 => ZM .i64 d92 fun x94 => Zd r93 fun d95 r96 => dSl d95 fun x97 => Zd r96 fun d98 r99 => dSl d98 fun x100 => Ze r99 (impl_within.f k x82 1 1000000 (fun y101 => bif (!y101) then (K false) else (impl_within.f k x85 1 10000 (fun y102 => bif (!y102) then (K false) else (impl_ValueOk.f k x88 x91 x94 x97 x100 (fun y103 => bif (!y103) then (K false) else (bif (decide ((v0_3 : Int) > 0)) then (ZX v0_0 (IntKind.wrap .i64 (v0_3 - 1)) fun c104 => Zd c104 fun d105 r106 => ZM .i64 d105 fun x107 => Zd r106 fun d108 r109 => ZM .i64 d108 fun x110 => Zd r109 fun d111 r112 => ZM .i64 d111 fun x113 => Zd r112 fun d114 r115 => Zan d114 fun x116 => Zd r115 fun d117 r118 => ZM .i64 d117 fun x119 => Zd r118 fun d120 r121 => dSl d120 fun x122 => Zd r121 fun d123 r124 => dSl d123 fun x125 => Ze r124 (bif (decide ((x107 : Int) ≥ x82)) then (K false) else (L0 (IntKind.wrap .i64 (v0_3 + 1))))) else (L0 (IntKind.wrap .i64 (v0_3 + 1))))))))))) else (K (decide (((v0_0.length : Int) : Int) ≤ 40)))
noncomputable def impl_WorksOk.g {β : Type} (k : Nat) (a0 : List (List D)) (K : Bool → Option β) : Option β :=
  Z4 (impl_WorksOk.l0 k a0 a0 (a0.length : Int) K) k (0)
noncomputable def impl_WorksOk.t (k : Nat) (a0 : List (List D)) : Option (Bool) := impl_WorksOk.g k a0 (fun z0 => some z0)
noncomputable def impl_WorksOk.f {β : Type} (k : Nat) (a0 : List (List D)) (K : Bool → Option β) : Option β :=
  match impl_WorksOk.t k a0 with
  | some z0 => K z0
  | none => none
noncomputable def impl_WorksOk.as (a0 : List (List D)) : List A := [.d (.sl a0)]
noncomputable def impl_WorksOk.kt {β : Type} (a0 : List (List D)) (K0 : List (List C) → List Out → Option β) : Bool → Option β := fun z0 => K0 [[.d (.bool z0)]] []
noncomputable def impl_WorksOk.e (k : Nat) : ZQ := { modes := [(.imm, 0)], rts := [4], al := false, run := fun {β} l K => match l with | [.d (.sl a0)] => impl_WorksOk.f k a0 (impl_WorksOk.kt a0 K) | _ => none }
noncomputable def impl_WorksOk.E (k : Nat) : Env := fun g => bif g == 126 then some (impl_within.e k) else bif g == 188 then some (impl_ValueOk.e k) else none
noncomputable def impl_WorksOk.h : ZY := ⟨fun n => bif n == 2 then ⟨[(0, .asis), (5, .asis), (6, .asis), (7, .asis)], []⟩ else ⟨[], []⟩, fun _ => none, false, []⟩
noncomputable def impl_WorksOk.s0 (v0_0 : List (List D)) (v0_1 : List (List D)) (v0_2 : Int) (v : Int) : St :=
  match v with
  | v0_3 => ⟨[.d false (.sl v0_0), .any, .any, .any, .any, .d false (.sl v0_1), .d true (.int .i64 v0_2), .d true (.int .i64 v0_3), .any, .any, .any, .any, .any, .any, .any, .any, .any, .any, .any, .any, .any, .any, .any, .any, .any, .any, .any, .any, .any, .any, .any, .any, .any, .any, .any, .any, .any, .any, .any, .any, .any, .any, .any, .any, .any, .any, .any], []⟩
noncomputable def impl_WorksOk.b0 {β : Type} (k : Nat) : St → (Ex → St → Option β) → Option β := fun s K => den Try.prog (impl_WorksOk.E k) impl_WorksOk.h.H impl_WorksOk.h.J k (Zad [1, 0, 1, 0, 0] (Zl Try.f110)) s K
noncomputable def impl_WorksOk.c0 {β : Type} (k : Nat) (a0 : List (List D)) (K0 : List (List C) → List Out → Option β) : Ex → St → Option β := Zae Try.prog (impl_WorksOk.E k) impl_WorksOk.h k [1, 0, 1, 0] (Zl Try.f110) (Zak Try.prog Try.f110 impl_WorksOk.h (impl_WorksOk.as a0) K0)
theorem impl_WorksOk.l0_eq {β : Type} (k : Nat) (a0 : List (List D)) (K0 : List (List C) → List Out → Option β) (v0_0 : List (List D)) (v0_1 : List (List D)) (v0_2 : Int) : ∀ (kk : Nat) (v : Int), Zx (impl_WorksOk.b0 k) (impl_WorksOk.h.H 2) kk (impl_WorksOk.s0 v0_0 v0_1 v0_2 v) (impl_WorksOk.c0 k a0 K0) = Z4 (impl_WorksOk.l0 k v0_0 v0_1 v0_2 (impl_WorksOk.kt a0 K0)) kk v :=
  Z9 (impl_WorksOk.s0 v0_0 v0_1 v0_2) _ (fun L0 v => by kernel_rfl)
noncomputable def impl_WorksOk.m {β : Type} (k : Nat) (a0 : List (List D)) (K0 : List (List C) → List Out → Option β) (F : ((List (List D)) → (List (List D)) → Int → Int → Option β)) : Option β :=
  (F) a0 a0 (a0.length : Int) (0)
theorem impl_WorksOk.f_eq {β : Type} (k : Nat) (a0 : List (List D)) (K0 : List (List C) → List Out → Option β) : ZJ Try.prog (impl_WorksOk.E k) impl_WorksOk.h k Try.f110 (impl_WorksOk.as a0) K0 = impl_WorksOk.g k a0 (impl_WorksOk.kt a0 K0) := Eq.trans (b := (impl_WorksOk.m k a0 K0) (fun (v0_0 : List (List D)) (v0_1 : List (List D)) (v0_2 : Int) (v : Int) => Zx (impl_WorksOk.b0 k) (impl_WorksOk.h.H 2) k (impl_WorksOk.s0 v0_0 v0_1 v0_2 v) (impl_WorksOk.c0 k a0 K0))) (by kernel_rfl) (Eq.trans (congrArg (impl_WorksOk.m k a0 K0) (funext fun v0_0 => funext fun v0_1 => funext fun v0_2 => funext fun v => impl_WorksOk.l0_eq k a0 K0 v0_0 v0_1 v0_2 k v)) (by kernel_rfl))
noncomputable def impl_WorksOk.dec (rs : List (List C)) (os : List Out) : Option (Bool) := Zd rs fun c1 r2 => Zd c1 fun x3 l4 => cD x3 fun d5 => ZaF d5 fun w0 => Ze l4 <| Ze r2 <| Ze os (some w0)
theorem impl_WorksOk.kt_dec (a0 : List (List D)) : impl_WorksOk.kt a0 impl_WorksOk.dec = (fun z0 => some z0) := by kernel_rfl
theorem impl_WorksOk.inj (a0 : List (List D)) {rs : List (List C)} {os : List Out} {z0 : Bool} (h : impl_WorksOk.dec rs os = some z0) (ho : Zo (impl_WorksOk.as a0) os) : rs = [[.d (.bool z0)]] ∧ os = [] := by
  unfold impl_WorksOk.dec at h
  obtain ⟨c1, r2, rfl, h1⟩ := Zb h
  obtain ⟨x3, l4, rfl, h2⟩ := Zb h1
  obtain ⟨d5, rfl, h3⟩ := Zt h2
  obtain ⟨w0, rfl, h4⟩ := Z0 h3
  obtain ⟨rfl, h5⟩ := Zc h4
  obtain ⟨rfl, h6⟩ := Zc h5
  obtain ⟨rfl, h7⟩ := Zc h6
  obtain rfl := Option.some.inj h7
  exact ⟨rfl, rfl⟩
theorem impl_WorksOk.ok (k : Nat) : Zv Try.prog 110 (impl_WorksOk.e k) := by
  refine Zu mix tyok (fn := Try.f110) (c := Zl Try.f110) Try.func110 (by kernel_rfl) (h := impl_WorksOk.h) (k := k) (E := impl_WorksOk.E k) (Zk (impl_within.ok k) (Zk (impl_ValueOk.ok k) Zz)) (by kernel_rfl) (by kernel_rfl) rfl (Zq Try.func110 (by kernel_rfl)) ?_
  intro β l K r hr
  simp only [impl_WorksOk.e] at hr
  split at hr
  case h_2 => cases hr
  unfold impl_WorksOk.f at hr
  split at hr
  case h_2 => cases hr
  rename_i hz
  exact ⟨_, _, hr, _, impl_WorksOk.dec, _, (impl_WorksOk.f_eq k _ impl_WorksOk.dec).trans (by rw [impl_WorksOk.kt_dec]; exact hz), fun rs os h ho => impl_WorksOk.inj _ h ho⟩
noncomputable def impl_runsOk.l0 {β : Type} (k : Nat) (v0_0 : List (List D)) (v0_1 : List (List D)) (v0_2 : Int) (K : Bool → Option β) (L0 : Int → Option β) (v : Int) : Option β :=
  match v with
  | v0_3 => bif (decide ((v0_3 : Int) < v0_2)) then (ZX v0_1 v0_3 fun c17 => Zd c17 fun d18 r19 => ZM .i64 d18 fun x20 => Zd r19 fun d21 r22 => ZM .i64 d21 fun x23 => Ze r22 (impl_within.f k x20 1 1000000 (fun y24 => bif (!y24) then (K false) else (impl_isCopies.f k x23 (fun y25 => bif (!y25) then (K false) else (bif (decide ((v0_3 : Int) > 0)) then (ZX v0_0 (IntKind.wrap .i64 (v0_3 - 1)) fun c26 => Zd c26 fun d27 r28 => ZM .i64 d27 fun x29 => Zd r28 fun d30 r31 => ZM .i64 d30 fun x32 => Ze r31 (bif (decide ((x29 : Int) ≥ x20)) then (K false) else (L0 (IntKind.wrap .i64 (v0_3 + 1))))) else (L0 (IntKind.wrap .i64 (v0_3 + 1))))))))) else (K (decide (((v0_0.length : Int) : Int) ≤ 80)))
noncomputable def impl_runsOk.g {β : Type} (k : Nat) (a0 : List (List D)) (K : Bool → Option β) : Option β :=
  Z4 (impl_runsOk.l0 k a0 a0 (a0.length : Int) K) k (0)
noncomputable def impl_runsOk.t (k : Nat) (a0 : List (List D)) : Option (Bool) := impl_runsOk.g k a0 (fun z0 => some z0)
noncomputable def impl_runsOk.f {β : Type} (k : Nat) (a0 : List (List D)) (K : Bool → Option β) : Option β :=
  match impl_runsOk.t k a0 with
  | some z0 => K z0
  | none => none
noncomputable def impl_runsOk.as (a0 : List (List D)) : List A := [.d (.sl a0)]
noncomputable def impl_runsOk.kt {β : Type} (a0 : List (List D)) (K0 : List (List C) → List Out → Option β) : Bool → Option β := fun z0 => K0 [[.d (.bool z0)]] []
noncomputable def impl_runsOk.e (k : Nat) : ZQ := { modes := [(.imm, 0)], rts := [4], al := false, run := fun {β} l K => match l with | [.d (.sl a0)] => impl_runsOk.f k a0 (impl_runsOk.kt a0 K) | _ => none }
noncomputable def impl_runsOk.E (k : Nat) : Env := fun g => bif g == 126 then some (impl_within.e k) else bif g == 184 then some (impl_isCopies.e k) else none
noncomputable def impl_runsOk.h : ZY := ⟨fun n => bif n == 2 then ⟨[(0, .asis), (5, .asis), (6, .asis), (7, .asis)], []⟩ else ⟨[], []⟩, fun _ => none, false, []⟩
noncomputable def impl_runsOk.s0 (v0_0 : List (List D)) (v0_1 : List (List D)) (v0_2 : Int) (v : Int) : St :=
  match v with
  | v0_3 => ⟨[.d false (.sl v0_0), .any, .any, .any, .any, .d false (.sl v0_1), .d true (.int .i64 v0_2), .d true (.int .i64 v0_3), .any, .any, .any, .any, .any, .any, .any, .any, .any, .any, .any, .any, .any, .any, .any, .any, .any, .any, .any, .any, .any, .any, .any, .any, .any, .any, .any, .any, .any, .any, .any, .any, .any], []⟩
noncomputable def impl_runsOk.b0 {β : Type} (k : Nat) : St → (Ex → St → Option β) → Option β := fun s K => den Try.prog (impl_runsOk.E k) impl_runsOk.h.H impl_runsOk.h.J k (Zad [1, 0, 1, 0, 0] (Zl Try.f185)) s K
noncomputable def impl_runsOk.c0 {β : Type} (k : Nat) (a0 : List (List D)) (K0 : List (List C) → List Out → Option β) : Ex → St → Option β := Zae Try.prog (impl_runsOk.E k) impl_runsOk.h k [1, 0, 1, 0] (Zl Try.f185) (Zak Try.prog Try.f185 impl_runsOk.h (impl_runsOk.as a0) K0)
theorem impl_runsOk.l0_eq {β : Type} (k : Nat) (a0 : List (List D)) (K0 : List (List C) → List Out → Option β) (v0_0 : List (List D)) (v0_1 : List (List D)) (v0_2 : Int) : ∀ (kk : Nat) (v : Int), Zx (impl_runsOk.b0 k) (impl_runsOk.h.H 2) kk (impl_runsOk.s0 v0_0 v0_1 v0_2 v) (impl_runsOk.c0 k a0 K0) = Z4 (impl_runsOk.l0 k v0_0 v0_1 v0_2 (impl_runsOk.kt a0 K0)) kk v :=
  Z9 (impl_runsOk.s0 v0_0 v0_1 v0_2) _ (fun L0 v => by kernel_rfl)
noncomputable def impl_runsOk.m {β : Type} (k : Nat) (a0 : List (List D)) (K0 : List (List C) → List Out → Option β) (F : ((List (List D)) → (List (List D)) → Int → Int → Option β)) : Option β :=
  (F) a0 a0 (a0.length : Int) (0)
theorem impl_runsOk.f_eq {β : Type} (k : Nat) (a0 : List (List D)) (K0 : List (List C) → List Out → Option β) : ZJ Try.prog (impl_runsOk.E k) impl_runsOk.h k Try.f185 (impl_runsOk.as a0) K0 = impl_runsOk.g k a0 (impl_runsOk.kt a0 K0) := Eq.trans (b := (impl_runsOk.m k a0 K0) (fun (v0_0 : List (List D)) (v0_1 : List (List D)) (v0_2 : Int) (v : Int) => Zx (impl_runsOk.b0 k) (impl_runsOk.h.H 2) k (impl_runsOk.s0 v0_0 v0_1 v0_2 v) (impl_runsOk.c0 k a0 K0))) (by kernel_rfl) (Eq.trans (congrArg (impl_runsOk.m k a0 K0) (funext fun v0_0 => funext fun v0_1 => funext fun v0_2 => funext fun v => impl_runsOk.l0_eq k a0 K0 v0_0 v0_1 v0_2 k v)) (by kernel_rfl))
noncomputable def impl_runsOk.dec (rs : List (List C)) (os : List Out) : Option (Bool) := Zd rs fun c1 r2 => Zd c1 fun x3 l4 => cD x3 fun d5 => ZaF d5 fun w0 => Ze l4 <| Ze r2 <| Ze os (some w0)
theorem impl_runsOk.kt_dec (a0 : List (List D)) : impl_runsOk.kt a0 impl_runsOk.dec = (fun z0 => some z0) := by kernel_rfl
theorem impl_runsOk.inj (a0 : List (List D)) {rs : List (List C)} {os : List Out} {z0 : Bool} (h : impl_runsOk.dec rs os = some z0) (ho : Zo (impl_runsOk.as a0) os) : rs = [[.d (.bool z0)]] ∧ os = [] := by
  unfold impl_runsOk.dec at h
  obtain ⟨c1, r2, rfl, h1⟩ := Zb h
  obtain ⟨x3, l4, rfl, h2⟩ := Zb h1
  obtain ⟨d5, rfl, h3⟩ := Zt h2
  obtain ⟨w0, rfl, h4⟩ := Z0 h3
  obtain ⟨rfl, h5⟩ := Zc h4
  obtain ⟨rfl, h6⟩ := Zc h5
  obtain ⟨rfl, h7⟩ := Zc h6
  obtain rfl := Option.some.inj h7
  exact ⟨rfl, rfl⟩
theorem impl_runsOk.ok (k : Nat) : Zv Try.prog 185 (impl_runsOk.e k) := by
  refine Zu mix tyok (fn := Try.f185) (c := Zl Try.f185) Try.func185 (by kernel_rfl) (h := impl_runsOk.h) (k := k) (E := impl_runsOk.E k) (Zk (impl_within.ok k) (Zk (impl_isCopies.ok k) Zz)) (by kernel_rfl) (by kernel_rfl) rfl (Zq Try.func185 (by kernel_rfl)) ?_
  intro β l K r hr
  simp only [impl_runsOk.e] at hr
  split at hr
  case h_2 => cases hr
  unfold impl_runsOk.f at hr
  split at hr
  case h_2 => cases hr
  rename_i hz
  exact ⟨_, _, hr, _, impl_runsOk.dec, _, (impl_runsOk.f_eq k _ impl_runsOk.dec).trans (by rw [impl_runsOk.kt_dec]; exact hz), fun rs os h ho => impl_runsOk.inj _ h ho⟩
end Go.Proofs.Ytljkbknnnpjmgaa
