/- Printed: the functions that FnExactMirrorOk reaches, read by the evaluator, each with its contract. -/
import Derived.Test.YtljkbknnnpjmgaaTLibs
import Derived.Test.YtljkbknnnpjmgaaProg
import Derived.KernelRfl
set_option linter.unusedVariables false
set_option linter.unusedSimpArgs false
namespace Go.Proofs.Ytljkbknnnpjmgaa
open Go Go.T Go.Proofs
theorem mix : Try.prog.follows .mixedOrders = true := by kernel_rfl
theorem tyok : ZaV Try.prog := tyOk_of (by kernel_rfl)
noncomputable def laws_szStringS.l0 {β : Type} (k : Nat) (v0_0 : List (List D)) (K : Int → Option β) (L0 : (Int × Int) → Option β) (v : Int × Int) : Option β :=
  match v with
  | (v0_1, v0_2) => bif (decide ((v0_2 : Int) < (v0_0.length : Int))) then (ZX v0_0 v0_2 fun c5 => Zd c5 fun d6 r7 => Zan d6 fun x8 => Ze r7 (bif (decide (((IntKind.wrap .i64 (v0_1 - (x8.size : Int))) : Int) < 0)) then (K (-1)) else (L0 (IntKind.wrap .i64 (v0_1 - (x8.size : Int)), IntKind.wrap .i64 (v0_2 + 1))))) else (K v0_1)
noncomputable def laws_szStringS.g {β : Type} (k : Nat) (a0 : List (List D)) (a1 : Int) (K : Int → Option β) : Option β :=
  bif (decide (((IntKind.wrap .i64 (a1 - (a0.length : Int))) : Int) < 0)) then (K (-1)) else (Z4 (laws_szStringS.l0 k a0 K) k (IntKind.wrap .i64 (a1 - (a0.length : Int)), 0))
noncomputable def laws_szStringS.t (k : Nat) (a0 : List (List D)) (a1 : Int) : Option (Int) := laws_szStringS.g k a0 a1 (fun z0 => some z0)
noncomputable def laws_szStringS.f {β : Type} (k : Nat) (a0 : List (List D)) (a1 : Int) (K : Int → Option β) : Option β :=
  match laws_szStringS.t k a0 a1 with
  | some z0 => K z0
  | none => none
noncomputable def laws_szStringS.as (a0 : List (List D)) (a1 : Int) : List A := [.d (.sl a0), .d (.int .i64 a1)]
noncomputable def laws_szStringS.kt {β : Type} (a0 : List (List D)) (a1 : Int) (K0 : List (List C) → List Out → Option β) : Int → Option β := fun z0 => K0 [[.d (.int .i64 z0)]] []
noncomputable def laws_szStringS.e (k : Nat) : ZQ := { modes := [(.imm, 0), (.imm, 0)], rts := [3], al := false, run := fun {β} l K => match l with | [.d (.sl a0), .d (.int .i64 a1)] => laws_szStringS.f k a0 a1 (laws_szStringS.kt a0 a1 K) | _ => none }
noncomputable def laws_szStringS.E (k : Nat) : Env := fun g => none
noncomputable def laws_szStringS.h : ZY := ⟨fun n => bif n == 5 then ⟨[(0, .asis), (1, .asis), (5, .asis)], []⟩ else ⟨[], []⟩, fun _ => none, false, []⟩
noncomputable def laws_szStringS.s0 (v0_0 : List (List D)) (v : Int × Int) : St :=
  match v with
  | (v0_1, v0_2) => ⟨[.d false (.sl v0_0), .d true (.int .i64 v0_1), .any, .any, .any, .d true (.int .i64 v0_2), .any, .any, .any, .any, .any, .any, .any, .any, .any, .any, .any, .any, .any, .any, .any, .any, .any, .any, .any, .any, .any, .any], []⟩
noncomputable def laws_szStringS.b0 {β : Type} (k : Nat) : St → (Ex → St → Option β) → Option β := fun s K => den Try.prog (laws_szStringS.E k) laws_szStringS.h.H laws_szStringS.h.J k (Zad [1, 1, 1, 0, 1, 0, 0] (Zl Try.f74)) s K
noncomputable def laws_szStringS.c0 {β : Type} (k : Nat) (a0 : List (List D)) (a1 : Int) (K0 : List (List C) → List Out → Option β) : Ex → St → Option β := Zae Try.prog (laws_szStringS.E k) laws_szStringS.h k [1, 1, 1, 0, 1, 0] (Zl Try.f74) (Zak Try.prog Try.f74 laws_szStringS.h (laws_szStringS.as a0 a1) K0)
theorem laws_szStringS.l0_eq {β : Type} (k : Nat) (a0 : List (List D)) (a1 : Int) (K0 : List (List C) → List Out → Option β) (v0_0 : List (List D)) : ∀ (kk : Nat) (v : Int × Int), Zx (laws_szStringS.b0 k) (laws_szStringS.h.H 5) kk (laws_szStringS.s0 v0_0 v) (laws_szStringS.c0 k a0 a1 K0) = Z4 (laws_szStringS.l0 k v0_0 (laws_szStringS.kt a0 a1 K0)) kk v :=
  Z9 (laws_szStringS.s0 v0_0) _ (fun L0 v => by obtain ⟨v0_1, v0_2⟩ := v; kernel_rfl)
noncomputable def laws_szStringS.m {β : Type} (k : Nat) (a0 : List (List D)) (a1 : Int) (K0 : List (List C) → List Out → Option β) (F : ((List (List D)) → (Int × Int) → Option β)) : Option β :=
  bif (decide (((IntKind.wrap .i64 (a1 - (a0.length : Int))) : Int) < 0)) then ((laws_szStringS.kt a0 a1 K0) (-1)) else ((F) a0 (IntKind.wrap .i64 (a1 - (a0.length : Int)), 0))
theorem laws_szStringS.f_eq {β : Type} (k : Nat) (a0 : List (List D)) (a1 : Int) (K0 : List (List C) → List Out → Option β) : ZJ Try.prog (laws_szStringS.E k) laws_szStringS.h k Try.f74 (laws_szStringS.as a0 a1) K0 = laws_szStringS.g k a0 a1 (laws_szStringS.kt a0 a1 K0) := Eq.trans (b := (laws_szStringS.m k a0 a1 K0) (fun (v0_0 : List (List D)) (v : Int × Int) => Zx (laws_szStringS.b0 k) (laws_szStringS.h.H 5) k (laws_szStringS.s0 v0_0 v) (laws_szStringS.c0 k a0 a1 K0))) (by kernel_rfl) (Eq.trans (congrArg (laws_szStringS.m k a0 a1 K0) (funext fun v0_0 => funext fun v => laws_szStringS.l0_eq k a0 a1 K0 v0_0 k v)) (by kernel_rfl))
noncomputable def laws_szStringS.dec (rs : List (List C)) (os : List Out) : Option (Int) := Zd rs fun c1 r2 => Zd c1 fun x3 l4 => cD x3 fun d5 => ZM .i64 d5 fun w0 => Ze l4 <| Ze r2 <| Ze os (some w0)
theorem laws_szStringS.kt_dec (a0 : List (List D)) (a1 : Int) : laws_szStringS.kt a0 a1 laws_szStringS.dec = (fun z0 => some z0) := by kernel_rfl
theorem laws_szStringS.inj (a0 : List (List D)) (a1 : Int) {rs : List (List C)} {os : List Out} {z0 : Int} (h : laws_szStringS.dec rs os = some z0) (ho : Zo (laws_szStringS.as a0 a1) os) : rs = [[.d (.int .i64 z0)]] ∧ os = [] := by
  unfold laws_szStringS.dec at h
  obtain ⟨c1, r2, rfl, h1⟩ := Zb h
  obtain ⟨x3, l4, rfl, h2⟩ := Zb h1
  obtain ⟨d5, rfl, h3⟩ := Zt h2
  obtain ⟨w0, rfl, h4⟩ := ZA h3
  obtain ⟨rfl, h5⟩ := Zc h4
  obtain ⟨rfl, h6⟩ := Zc h5
  obtain ⟨rfl, h7⟩ := Zc h6
  obtain rfl := Option.some.inj h7
  exact ⟨rfl, rfl⟩
theorem laws_szStringS.ok (k : Nat) : Zv Try.prog 74 (laws_szStringS.e k) := by
  refine Zu mix tyok (fn := Try.f74) (c := Zl Try.f74) Try.func74 (by kernel_rfl) (h := laws_szStringS.h) (k := k) (E := laws_szStringS.E k) Zz (by kernel_rfl) (by kernel_rfl) rfl (Zq Try.func74 (by kernel_rfl)) ?_
  intro β l K r hr
  simp only [laws_szStringS.e] at hr
  split at hr
  case h_2 => cases hr
  unfold laws_szStringS.f at hr
  split at hr
  case h_2 => cases hr
  rename_i hz
  exact ⟨_, _, hr, _, laws_szStringS.dec, _, (laws_szStringS.f_eq k _ _ laws_szStringS.dec).trans (by rw [laws_szStringS.kt_dec]; exact hz), fun rs os h ho => laws_szStringS.inj _ _ h ho⟩
noncomputable def laws_szValueS.l0 {β : Type} (k : Nat) (r_laws_szValueS : (List (List D)) → Int → (Int → Option β) → Option β) (r_laws_szValue : Int → ByteArray → Int → (List (List D)) → (List (List D)) → Int → (Int → Option β) → Option β) (v0_0 : List (List D)) (K : Int → Option β) (L0 : (Int × Int) → Option β) (v : Int × Int) : Option β :=
  match v with
  | (v0_1, v0_2) => bif (decide ((v0_2 : Int) < (v0_0.length : Int))) then (ZX v0_0 v0_2 fun c18 => Zd c18 fun d19 r20 => ZM .i64 d19 fun x21 => Zd r20 fun d22 r23 => Zan d22 fun x24 => Zd r23 fun d25 r26 => ZM .i64 d25 fun x27 => Zd r26 fun d28 r29 => dSl d28 fun x30 => Zd r29 fun d31 r32 => dSl d31 fun x33 => Ze r32 (r_laws_szValue x21 x24 x27 x30 x33 v0_1 (fun y34 => bif (decide ((y34 : Int) < 0)) then (K (-1)) else (L0 (y34, IntKind.wrap .i64 (v0_2 + 1)))))) else (K v0_1)
noncomputable def laws_szValueS.body {β : Type} (k : Nat) (r_laws_szValueS : (List (List D)) → Int → (Int → Option β) → Option β) (r_laws_szValue : Int → ByteArray → Int → (List (List D)) → (List (List D)) → Int → (Int → Option β) → Option β) (a0 : List (List D)) (a1 : Int) (K : Int → Option β) : Option β :=
  bif (decide (((IntKind.wrap .i64 (a1 - (a0.length : Int))) : Int) < 0)) then (K (-1)) else (Z4 (laws_szValueS.l0 k r_laws_szValueS r_laws_szValue a0 K) k (IntKind.wrap .i64 (a1 - (a0.length : Int)), 0))
noncomputable def laws_szValue.body {β : Type} (k : Nat) (r_laws_szValueS : (List (List D)) → Int → (Int → Option β) → Option β) (r_laws_szValue : Int → ByteArray → Int → (List (List D)) → (List (List D)) → Int → (Int → Option β) → Option β) (a0_0 : Int) (a0_1 : ByteArray) (a0_2 : Int) (a0_3 : List (List D)) (a0_4 : List (List D)) (a1 : Int) (K : Int → Option β) : Option β :=
  bif (decide (((IntKind.wrap .i64 (a1 - (a0_1.size : Int))) : Int) < 0)) then (K (-1)) else (laws_szStringS.f k a0_3 (IntKind.wrap .i64 (a1 - (a0_1.size : Int))) (fun y1 => bif (decide ((y1 : Int) < 0)) then (K (-1)) else (r_laws_szValueS a0_4 y1 (fun y35 => bif (decide ((y35 : Int) < 0)) then (K (-1)) else (K y35)))))
noncomputable def laws_szValueS.w {β : Type} (r : (List (List D)) → Int → Option (Int)) (a0 : List (List D)) (a1 : Int) (K : Int → Option β) : Option β :=
  match r a0 a1 with
  | some z0 => K z0
  | none => none
noncomputable def laws_szValue.w {β : Type} (r : Int → ByteArray → Int → (List (List D)) → (List (List D)) → Int → Option (Int)) (a0_0 : Int) (a0_1 : ByteArray) (a0_2 : Int) (a0_3 : List (List D)) (a0_4 : List (List D)) (a1 : Int) (K : Int → Option β) : Option β :=
  match r a0_0 a0_1 a0_2 a0_3 a0_4 a1 with
  | some z0 => K z0
  | none => none
noncomputable def laws_szValueS.all : Nat → ((List (List D)) → Int → Option (Int)) × (Int → ByteArray → Int → (List (List D)) → (List (List D)) → Int → Option (Int))
  | 0 => (fun _ _ => none, fun _ _ _ _ _ _ => none)
  | k + 1 => (fun r => (fun a0 a1 => laws_szValueS.body k (laws_szValueS.w r.1) (laws_szValue.w r.2) a0 a1 (fun z0 => some z0), fun a0_0 a0_1 a0_2 a0_3 a0_4 a1 => laws_szValue.body k (laws_szValueS.w r.1) (laws_szValue.w r.2) a0_0 a0_1 a0_2 a0_3 a0_4 a1 (fun z0 => some z0))) (laws_szValueS.all k)
noncomputable def laws_szValueS.t (k : Nat) (a0 : List (List D)) (a1 : Int) : Option (Int) := (laws_szValueS.all k).1 a0 a1
noncomputable def laws_szValue.t (k : Nat) (a0_0 : Int) (a0_1 : ByteArray) (a0_2 : Int) (a0_3 : List (List D)) (a0_4 : List (List D)) (a1 : Int) : Option (Int) := (laws_szValueS.all k).2 a0_0 a0_1 a0_2 a0_3 a0_4 a1
noncomputable def laws_szValueS.f {β : Type} (k : Nat) (a0 : List (List D)) (a1 : Int) (K : Int → Option β) : Option β := laws_szValueS.w (laws_szValueS.t k) a0 a1 K
noncomputable def laws_szValue.f {β : Type} (k : Nat) (a0_0 : Int) (a0_1 : ByteArray) (a0_2 : Int) (a0_3 : List (List D)) (a0_4 : List (List D)) (a1 : Int) (K : Int → Option β) : Option β := laws_szValue.w (laws_szValue.t k) a0_0 a0_1 a0_2 a0_3 a0_4 a1 K
noncomputable def laws_szValueS.g {β : Type} (k : Nat) (a0 : List (List D)) (a1 : Int) (K : Int → Option β) : Option β := laws_szValueS.body k (laws_szValueS.f k) (laws_szValue.f k) a0 a1 K
theorem laws_szValueS.t_zero (a0 : List (List D)) (a1 : Int) : laws_szValueS.t 0 a0 a1 = none := rfl
theorem laws_szValueS.t_succ (k : Nat) (a0 : List (List D)) (a1 : Int) : laws_szValueS.t (k + 1) a0 a1 = laws_szValueS.g k a0 a1 (fun z0 => some z0) := rfl
noncomputable def laws_szValue.g {β : Type} (k : Nat) (a0_0 : Int) (a0_1 : ByteArray) (a0_2 : Int) (a0_3 : List (List D)) (a0_4 : List (List D)) (a1 : Int) (K : Int → Option β) : Option β := laws_szValue.body k (laws_szValueS.f k) (laws_szValue.f k) a0_0 a0_1 a0_2 a0_3 a0_4 a1 K
theorem laws_szValue.t_zero (a0_0 : Int) (a0_1 : ByteArray) (a0_2 : Int) (a0_3 : List (List D)) (a0_4 : List (List D)) (a1 : Int) : laws_szValue.t 0 a0_0 a0_1 a0_2 a0_3 a0_4 a1 = none := rfl
theorem laws_szValue.t_succ (k : Nat) (a0_0 : Int) (a0_1 : ByteArray) (a0_2 : Int) (a0_3 : List (List D)) (a0_4 : List (List D)) (a1 : Int) : laws_szValue.t (k + 1) a0_0 a0_1 a0_2 a0_3 a0_4 a1 = laws_szValue.g k a0_0 a0_1 a0_2 a0_3 a0_4 a1 (fun z0 => some z0) := rfl
noncomputable def laws_szValueS.as (a0 : List (List D)) (a1 : Int) : List A := [.d (.sl a0), .d (.int .i64 a1)]
noncomputable def laws_szValueS.kt {β : Type} (a0 : List (List D)) (a1 : Int) (K0 : List (List C) → List Out → Option β) : Int → Option β := fun z0 => K0 [[.d (.int .i64 z0)]] []
noncomputable def laws_szValueS.e (k : Nat) : ZQ := { modes := [(.imm, 0), (.imm, 0)], rts := [3], al := false, run := fun {β} l K => match l with | [.d (.sl a0), .d (.int .i64 a1)] => laws_szValueS.f k a0 a1 (laws_szValueS.kt a0 a1 K) | _ => none }
noncomputable def laws_szValue.as (a0_0 : Int) (a0_1 : ByteArray) (a0_2 : Int) (a0_3 : List (List D)) (a0_4 : List (List D)) (a1 : Int) : List A := [.agg [.int .i64 a0_0, .str a0_1, .int .i64 a0_2, .sl a0_3, .sl a0_4], .d (.int .i64 a1)]
noncomputable def laws_szValue.kt {β : Type} (a0_0 : Int) (a0_1 : ByteArray) (a0_2 : Int) (a0_3 : List (List D)) (a0_4 : List (List D)) (a1 : Int) (K0 : List (List C) → List Out → Option β) : Int → Option β := fun z0 => K0 [[.d (.int .i64 z0)]] []
noncomputable def laws_szValue.e (k : Nat) : ZQ := { modes := [(.imm, 0), (.imm, 0)], rts := [3], al := false, run := fun {β} l K => match l with | [.agg [.int .i64 a0_0, .str a0_1, .int .i64 a0_2, .sl a0_3, .sl a0_4], .d (.int .i64 a1)] => laws_szValue.f k a0_0 a0_1 a0_2 a0_3 a0_4 a1 (laws_szValue.kt a0_0 a0_1 a0_2 a0_3 a0_4 a1 K) | _ => none }
noncomputable def laws_szValueS.E (k : Nat) : Env := fun g => bif g == 178 then some (laws_szValue.e k) else none
noncomputable def laws_szValueS.h : ZY := ⟨fun n => bif n == 5 then ⟨[(0, .asis), (1, .asis), (5, .asis)], []⟩ else ⟨[], []⟩, fun _ => none, false, []⟩
noncomputable def laws_szValueS.s0 (v0_0 : List (List D)) (v : Int × Int) : St :=
  match v with
  | (v0_1, v0_2) => ⟨[.d false (.sl v0_0), .d true (.int .i64 v0_1), .any, .any, .any, .d true (.int .i64 v0_2), .any, .any, .any, .any, .any, .any, .any, .any, .any, .any, .any, .any, .any, .any, .any, .any, .any, .any, .any, .any, .any], []⟩
noncomputable def laws_szValueS.b0 {β : Type} (k : Nat) : St → (Ex → St → Option β) → Option β := fun s K => den Try.prog (laws_szValueS.E k) laws_szValueS.h.H laws_szValueS.h.J k (Zad [1, 1, 1, 0, 1, 0, 0] (Zl Try.f222)) s K
noncomputable def laws_szValueS.c0 {β : Type} (k : Nat) (a0 : List (List D)) (a1 : Int) (K0 : List (List C) → List Out → Option β) : Ex → St → Option β := Zae Try.prog (laws_szValueS.E k) laws_szValueS.h k [1, 1, 1, 0, 1, 0] (Zl Try.f222) (Zak Try.prog Try.f222 laws_szValueS.h (laws_szValueS.as a0 a1) K0)
theorem laws_szValueS.l0_eq {β : Type} (k : Nat) (a0 : List (List D)) (a1 : Int) (K0 : List (List C) → List Out → Option β) (v0_0 : List (List D)) : ∀ (kk : Nat) (v : Int × Int), Zx (laws_szValueS.b0 k) (laws_szValueS.h.H 5) kk (laws_szValueS.s0 v0_0 v) (laws_szValueS.c0 k a0 a1 K0) = Z4 (laws_szValueS.l0 k (laws_szValueS.f k) (laws_szValue.f k) v0_0 (laws_szValueS.kt a0 a1 K0)) kk v :=
  Z9 (laws_szValueS.s0 v0_0) _ (fun L0 v => by obtain ⟨v0_1, v0_2⟩ := v; kernel_rfl)
noncomputable def laws_szValueS.m {β : Type} (k : Nat) (a0 : List (List D)) (a1 : Int) (K0 : List (List C) → List Out → Option β) (F : ((List (List D)) → (Int × Int) → Option β)) : Option β :=
  bif (decide (((IntKind.wrap .i64 (a1 - (a0.length : Int))) : Int) < 0)) then ((laws_szValueS.kt a0 a1 K0) (-1)) else ((F) a0 (IntKind.wrap .i64 (a1 - (a0.length : Int)), 0))
theorem laws_szValueS.f_eq {β : Type} (k : Nat) (a0 : List (List D)) (a1 : Int) (K0 : List (List C) → List Out → Option β) : ZJ Try.prog (laws_szValueS.E k) laws_szValueS.h k Try.f222 (laws_szValueS.as a0 a1) K0 = laws_szValueS.g k a0 a1 (laws_szValueS.kt a0 a1 K0) := Eq.trans (b := (laws_szValueS.m k a0 a1 K0) (fun (v0_0 : List (List D)) (v : Int × Int) => Zx (laws_szValueS.b0 k) (laws_szValueS.h.H 5) k (laws_szValueS.s0 v0_0 v) (laws_szValueS.c0 k a0 a1 K0))) (by kernel_rfl) (Eq.trans (congrArg (laws_szValueS.m k a0 a1 K0) (funext fun v0_0 => funext fun v => laws_szValueS.l0_eq k a0 a1 K0 v0_0 k v)) (by kernel_rfl))
noncomputable def laws_szValue.E (k : Nat) : Env := fun g => bif g == 74 then some (laws_szStringS.e k) else bif g == 222 then some (laws_szValueS.e k) else none
noncomputable def laws_szValue.h : ZY := ⟨fun n => ⟨[], []⟩, fun _ => none, false, []⟩
theorem laws_szValue.f_eq {β : Type} (k : Nat) (a0_0 : Int) (a0_1 : ByteArray) (a0_2 : Int) (a0_3 : List (List D)) (a0_4 : List (List D)) (a1 : Int) (K0 : List (List C) → List Out → Option β) : ZJ Try.prog (laws_szValue.E k) laws_szValue.h k Try.f178 (laws_szValue.as a0_0 a0_1 a0_2 a0_3 a0_4 a1) K0 = laws_szValue.g k a0_0 a0_1 a0_2 a0_3 a0_4 a1 (laws_szValue.kt a0_0 a0_1 a0_2 a0_3 a0_4 a1 K0) := by kernel_rfl
noncomputable def laws_szValueS.dec (rs : List (List C)) (os : List Out) : Option (Int) := Zd rs fun c1 r2 => Zd c1 fun x3 l4 => cD x3 fun d5 => ZM .i64 d5 fun w0 => Ze l4 <| Ze r2 <| Ze os (some w0)
theorem laws_szValueS.kt_dec (a0 : List (List D)) (a1 : Int) : laws_szValueS.kt a0 a1 laws_szValueS.dec = (fun z0 => some z0) := by kernel_rfl
theorem laws_szValueS.inj (a0 : List (List D)) (a1 : Int) {rs : List (List C)} {os : List Out} {z0 : Int} (h : laws_szValueS.dec rs os = some z0) (ho : Zo (laws_szValueS.as a0 a1) os) : rs = [[.d (.int .i64 z0)]] ∧ os = [] := by
  unfold laws_szValueS.dec at h
  obtain ⟨c1, r2, rfl, h1⟩ := Zb h
  obtain ⟨x3, l4, rfl, h2⟩ := Zb h1
  obtain ⟨d5, rfl, h3⟩ := Zt h2
  obtain ⟨w0, rfl, h4⟩ := ZA h3
  obtain ⟨rfl, h5⟩ := Zc h4
  obtain ⟨rfl, h6⟩ := Zc h5
  obtain ⟨rfl, h7⟩ := Zc h6
  obtain rfl := Option.some.inj h7
  exact ⟨rfl, rfl⟩
noncomputable def laws_szValue.dec (rs : List (List C)) (os : List Out) : Option (Int) := Zd rs fun c1 r2 => Zd c1 fun x3 l4 => cD x3 fun d5 => ZM .i64 d5 fun w0 => Ze l4 <| Ze r2 <| Ze os (some w0)
theorem laws_szValue.kt_dec (a0_0 : Int) (a0_1 : ByteArray) (a0_2 : Int) (a0_3 : List (List D)) (a0_4 : List (List D)) (a1 : Int) : laws_szValue.kt a0_0 a0_1 a0_2 a0_3 a0_4 a1 laws_szValue.dec = (fun z0 => some z0) := by kernel_rfl
theorem laws_szValue.inj (a0_0 : Int) (a0_1 : ByteArray) (a0_2 : Int) (a0_3 : List (List D)) (a0_4 : List (List D)) (a1 : Int) {rs : List (List C)} {os : List Out} {z0 : Int} (h : laws_szValue.dec rs os = some z0) (ho : Zo (laws_szValue.as a0_0 a0_1 a0_2 a0_3 a0_4 a1) os) : rs = [[.d (.int .i64 z0)]] ∧ os = [] := by
  unfold laws_szValue.dec at h
  obtain ⟨c1, r2, rfl, h1⟩ := Zb h
  obtain ⟨x3, l4, rfl, h2⟩ := Zb h1
  obtain ⟨d5, rfl, h3⟩ := Zt h2
  obtain ⟨w0, rfl, h4⟩ := ZA h3
  obtain ⟨rfl, h5⟩ := Zc h4
  obtain ⟨rfl, h6⟩ := Zc h5
  obtain ⟨rfl, h7⟩ := Zc h6
  obtain rfl := Option.some.inj h7
  exact ⟨rfl, rfl⟩
theorem laws_szValueS.oks (k : Nat) : Zv Try.prog 222 (laws_szValueS.e k) ∧ Zv Try.prog 178 (laws_szValue.e k) := by
  induction k with
  | zero =>
    refine ⟨?_, ?_⟩
    · exact Zb1 (Zq Try.func222 (by kernel_rfl)) fun β l K r h => by
        simp only [laws_szValueS.e] at h
        split at h
        · unfold laws_szValueS.f at h
          unfold laws_szValueS.w at h
          rw [laws_szValueS.t_zero] at h
          cases h
        · cases h
    · exact Zb1 (Zq Try.func178 (by kernel_rfl)) fun β l K r h => by
        simp only [laws_szValue.e] at h
        split at h
        · unfold laws_szValue.f at h
          unfold laws_szValue.w at h
          rw [laws_szValue.t_zero] at h
          cases h
        · cases h
  | succ k ih =>
    refine ⟨?_, ?_⟩
    · refine Zu mix tyok (fn := Try.f222) (c := Zl Try.f222) Try.func222 (by kernel_rfl) (h := laws_szValueS.h) (k := k) (E := laws_szValueS.E k) (Zk ih.2 Zz) (by kernel_rfl) (by kernel_rfl) rfl (Zq Try.func222 (by kernel_rfl)) ?_
      intro β l K r hr
      simp only [laws_szValueS.e] at hr
      split at hr
      case h_2 => cases hr
      unfold laws_szValueS.f at hr
      unfold laws_szValueS.w at hr
      split at hr
      case h_2 => cases hr
      rename_i hz
      exact ⟨_, _, hr, _, laws_szValueS.dec, _, (laws_szValueS.f_eq k _ _ laws_szValueS.dec).trans (by rw [laws_szValueS.kt_dec]; exact hz), fun rs os h ho => laws_szValueS.inj _ _ h ho⟩
    · refine Zu mix tyok (fn := Try.f178) (c := Zl Try.f178) Try.func178 (by kernel_rfl) (h := laws_szValue.h) (k := k) (E := laws_szValue.E k) (Zk (laws_szStringS.ok k) (Zk ih.1 Zz)) (by kernel_rfl) (by kernel_rfl) rfl (Zq Try.func178 (by kernel_rfl)) ?_
      intro β l K r hr
      simp only [laws_szValue.e] at hr
      split at hr
      case h_2 => cases hr
      unfold laws_szValue.f at hr
      unfold laws_szValue.w at hr
      split at hr
      case h_2 => cases hr
      rename_i hz
      exact ⟨_, _, hr, _, laws_szValue.dec, _, (laws_szValue.f_eq k _ _ _ _ _ _ laws_szValue.dec).trans (by rw [laws_szValue.kt_dec]; exact hz), fun rs os h ho => laws_szValue.inj _ _ _ _ _ _ h ho⟩
theorem laws_szValueS.ok (k : Nat) : Zv Try.prog 222 (laws_szValueS.e k) := (laws_szValueS.oks k).1
theorem laws_szValue.ok (k : Nat) : Zv Try.prog 178 (laws_szValue.e k) := (laws_szValueS.oks k).2
noncomputable def laws_szObj.g {β : Type} (k : Nat) (a0_0 : Int) (a0_1 : ByteArray) (a0_2 : Int) (a0_3 : Int) (a0_4 : Int) (a0_5 : Bool) (a0_6 : List (List D)) (a0_7 : Int) (a0_8 : ByteArray) (a0_9 : Int) (a0_10 : List (List D)) (a0_11 : List (List D)) (a0_12 : Int) (a0_13 : ByteArray) (a0_14 : Int) (a0_15 : List (List D)) (a0_16 : List (List D)) (a1 : Int) (K : Int → Option β) : Option β :=
  bif (decide (((IntKind.wrap .i64 (a1 - (a0_1.size : Int))) : Int) < 0)) then (K (-1)) else (laws_szStringS.f k a0_6 (IntKind.wrap .i64 (a1 - (a0_1.size : Int))) (fun y9 => bif (decide ((y9 : Int) < 0)) then (K (-1)) else (laws_szValue.f k a0_7 a0_8 a0_9 a0_10 a0_11 y9 (fun y36 => bif (decide ((y36 : Int) < 0)) then (K (-1)) else (laws_szValue.f k a0_12 a0_13 a0_14 a0_15 a0_16 y36 (fun y37 => bif (decide ((y37 : Int) < 0)) then (K (-1)) else (K y37)))))))
noncomputable def laws_szObj.t (k : Nat) (a0_0 : Int) (a0_1 : ByteArray) (a0_2 : Int) (a0_3 : Int) (a0_4 : Int) (a0_5 : Bool) (a0_6 : List (List D)) (a0_7 : Int) (a0_8 : ByteArray) (a0_9 : Int) (a0_10 : List (List D)) (a0_11 : List (List D)) (a0_12 : Int) (a0_13 : ByteArray) (a0_14 : Int) (a0_15 : List (List D)) (a0_16 : List (List D)) (a1 : Int) : Option (Int) := laws_szObj.g k a0_0 a0_1 a0_2 a0_3 a0_4 a0_5 a0_6 a0_7 a0_8 a0_9 a0_10 a0_11 a0_12 a0_13 a0_14 a0_15 a0_16 a1 (fun z0 => some z0)
noncomputable def laws_szObj.f {β : Type} (k : Nat) (a0_0 : Int) (a0_1 : ByteArray) (a0_2 : Int) (a0_3 : Int) (a0_4 : Int) (a0_5 : Bool) (a0_6 : List (List D)) (a0_7 : Int) (a0_8 : ByteArray) (a0_9 : Int) (a0_10 : List (List D)) (a0_11 : List (List D)) (a0_12 : Int) (a0_13 : ByteArray) (a0_14 : Int) (a0_15 : List (List D)) (a0_16 : List (List D)) (a1 : Int) (K : Int → Option β) : Option β :=
  match laws_szObj.t k a0_0 a0_1 a0_2 a0_3 a0_4 a0_5 a0_6 a0_7 a0_8 a0_9 a0_10 a0_11 a0_12 a0_13 a0_14 a0_15 a0_16 a1 with
  | some z0 => K z0
  | none => none
noncomputable def laws_szObj.as (a0_0 : Int) (a0_1 : ByteArray) (a0_2 : Int) (a0_3 : Int) (a0_4 : Int) (a0_5 : Bool) (a0_6 : List (List D)) (a0_7 : Int) (a0_8 : ByteArray) (a0_9 : Int) (a0_10 : List (List D)) (a0_11 : List (List D)) (a0_12 : Int) (a0_13 : ByteArray) (a0_14 : Int) (a0_15 : List (List D)) (a0_16 : List (List D)) (a1 : Int) : List A := [.agg [.int .i64 a0_0, .str a0_1, .int .i64 a0_2, .int .i64 a0_3, .int .i64 a0_4, .bool a0_5, .sl a0_6, .int .i64 a0_7, .str a0_8, .int .i64 a0_9, .sl a0_10, .sl a0_11, .int .i64 a0_12, .str a0_13, .int .i64 a0_14, .sl a0_15, .sl a0_16], .d (.int .i64 a1)]
noncomputable def laws_szObj.kt {β : Type} (a0_0 : Int) (a0_1 : ByteArray) (a0_2 : Int) (a0_3 : Int) (a0_4 : Int) (a0_5 : Bool) (a0_6 : List (List D)) (a0_7 : Int) (a0_8 : ByteArray) (a0_9 : Int) (a0_10 : List (List D)) (a0_11 : List (List D)) (a0_12 : Int) (a0_13 : ByteArray) (a0_14 : Int) (a0_15 : List (List D)) (a0_16 : List (List D)) (a1 : Int) (K0 : List (List C) → List Out → Option β) : Int → Option β := fun z0 => K0 [[.d (.int .i64 z0)]] []
noncomputable def laws_szObj.e (k : Nat) : ZQ := { modes := [(.imm, 0), (.imm, 0)], rts := [3], al := false, run := fun {β} l K => match l with | [.agg [.int .i64 a0_0, .str a0_1, .int .i64 a0_2, .int .i64 a0_3, .int .i64 a0_4, .bool a0_5, .sl a0_6, .int .i64 a0_7, .str a0_8, .int .i64 a0_9, .sl a0_10, .sl a0_11, .int .i64 a0_12, .str a0_13, .int .i64 a0_14, .sl a0_15, .sl a0_16], .d (.int .i64 a1)] => laws_szObj.f k a0_0 a0_1 a0_2 a0_3 a0_4 a0_5 a0_6 a0_7 a0_8 a0_9 a0_10 a0_11 a0_12 a0_13 a0_14 a0_15 a0_16 a1 (laws_szObj.kt a0_0 a0_1 a0_2 a0_3 a0_4 a0_5 a0_6 a0_7 a0_8 a0_9 a0_10 a0_11 a0_12 a0_13 a0_14 a0_15 a0_16 a1 K) | _ => none }
noncomputable def laws_szObj.E (k : Nat) : Env := fun g => bif g == 74 then some (laws_szStringS.e k) else bif g == 178 then some (laws_szValue.e k) else none
noncomputable def laws_szObj.h : ZY := ⟨fun n => ⟨[], []⟩, fun _ => none, false, []⟩
theorem laws_szObj.f_eq {β : Type} (k : Nat) (a0_0 : Int) (a0_1 : ByteArray) (a0_2 : Int) (a0_3 : Int) (a0_4 : Int) (a0_5 : Bool) (a0_6 : List (List D)) (a0_7 : Int) (a0_8 : ByteArray) (a0_9 : Int) (a0_10 : List (List D)) (a0_11 : List (List D)) (a0_12 : Int) (a0_13 : ByteArray) (a0_14 : Int) (a0_15 : List (List D)) (a0_16 : List (List D)) (a1 : Int) (K0 : List (List C) → List Out → Option β) : ZJ Try.prog (laws_szObj.E k) laws_szObj.h k Try.f192 (laws_szObj.as a0_0 a0_1 a0_2 a0_3 a0_4 a0_5 a0_6 a0_7 a0_8 a0_9 a0_10 a0_11 a0_12 a0_13 a0_14 a0_15 a0_16 a1) K0 = laws_szObj.g k a0_0 a0_1 a0_2 a0_3 a0_4 a0_5 a0_6 a0_7 a0_8 a0_9 a0_10 a0_11 a0_12 a0_13 a0_14 a0_15 a0_16 a1 (laws_szObj.kt a0_0 a0_1 a0_2 a0_3 a0_4 a0_5 a0_6 a0_7 a0_8 a0_9 a0_10 a0_11 a0_12 a0_13 a0_14 a0_15 a0_16 a1 K0) := by kernel_rfl
noncomputable def laws_szObj.dec (rs : List (List C)) (os : List Out) : Option (Int) := Zd rs fun c1 r2 => Zd c1 fun x3 l4 => cD x3 fun d5 => ZM .i64 d5 fun w0 => Ze l4 <| Ze r2 <| Ze os (some w0)
theorem laws_szObj.kt_dec (a0_0 : Int) (a0_1 : ByteArray) (a0_2 : Int) (a0_3 : Int) (a0_4 : Int) (a0_5 : Bool) (a0_6 : List (List D)) (a0_7 : Int) (a0_8 : ByteArray) (a0_9 : Int) (a0_10 : List (List D)) (a0_11 : List (List D)) (a0_12 : Int) (a0_13 : ByteArray) (a0_14 : Int) (a0_15 : List (List D)) (a0_16 : List (List D)) (a1 : Int) : laws_szObj.kt a0_0 a0_1 a0_2 a0_3 a0_4 a0_5 a0_6 a0_7 a0_8 a0_9 a0_10 a0_11 a0_12 a0_13 a0_14 a0_15 a0_16 a1 laws_szObj.dec = (fun z0 => some z0) := by kernel_rfl
theorem laws_szObj.inj (a0_0 : Int) (a0_1 : ByteArray) (a0_2 : Int) (a0_3 : Int) (a0_4 : Int) (a0_5 : Bool) (a0_6 : List (List D)) (a0_7 : Int) (a0_8 : ByteArray) (a0_9 : Int) (a0_10 : List (List D)) (a0_11 : List (List D)) (a0_12 : Int) (a0_13 : ByteArray) (a0_14 : Int) (a0_15 : List (List D)) (a0_16 : List (List D)) (a1 : Int) {rs : List (List C)} {os : List Out} {z0 : Int} (h : laws_szObj.dec rs os = some z0) (ho : Zo (laws_szObj.as a0_0 a0_1 a0_2 a0_3 a0_4 a0_5 a0_6 a0_7 a0_8 a0_9 a0_10 a0_11 a0_12 a0_13 a0_14 a0_15 a0_16 a1) os) : rs = [[.d (.int .i64 z0)]] ∧ os = [] := by
  unfold laws_szObj.dec at h
  obtain ⟨c1, r2, rfl, h1⟩ := Zb h
  obtain ⟨x3, l4, rfl, h2⟩ := Zb h1
  obtain ⟨d5, rfl, h3⟩ := Zt h2
  obtain ⟨w0, rfl, h4⟩ := ZA h3
  obtain ⟨rfl, h5⟩ := Zc h4
  obtain ⟨rfl, h6⟩ := Zc h5
  obtain ⟨rfl, h7⟩ := Zc h6
  obtain rfl := Option.some.inj h7
  exact ⟨rfl, rfl⟩
theorem laws_szObj.ok (k : Nat) : Zv Try.prog 192 (laws_szObj.e k) := by
  refine Zu mix tyok (fn := Try.f192) (c := Zl Try.f192) Try.func192 (by kernel_rfl) (h := laws_szObj.h) (k := k) (E := laws_szObj.E k) (Zk (laws_szStringS.ok k) (Zk (laws_szValue.ok k) Zz)) (by kernel_rfl) (by kernel_rfl) rfl (Zq Try.func192 (by kernel_rfl)) ?_
  intro β l K r hr
  simp only [laws_szObj.e] at hr
  split at hr
  case h_2 => cases hr
  unfold laws_szObj.f at hr
  split at hr
  case h_2 => cases hr
  rename_i hz
  exact ⟨_, _, hr, _, laws_szObj.dec, _, (laws_szObj.f_eq k _ _ _ _ _ _ _ _ _ _ _ _ _ _ _ _ _ _ laws_szObj.dec).trans (by rw [laws_szObj.kt_dec]; exact hz), fun rs os h ho => laws_szObj.inj _ _ _ _ _ _ _ _ _ _ _ _ _ _ _ _ _ _ h ho⟩
noncomputable def laws_szObjS.l0 {β : Type} (k : Nat) (v0_0 : List (List D)) (K : Int → Option β) (L0 : (Int × Int) → Option β) (v : Int × Int) : Option β :=
  match v with
  | (v0_1, v0_2) => bif (decide ((v0_2 : Int) < (v0_0.length : Int))) then (ZX v0_0 v0_2 fun c54 => Zd c54 fun d55 r56 => ZM .i64 d55 fun x57 => Zd r56 fun d58 r59 => Zan d58 fun x60 => Zd r59 fun d61 r62 => ZM .i64 d61 fun x63 => Zd r62 fun d64 r65 => ZM .i64 d64 fun x66 => Zd r65 fun d67 r68 => ZM .i64 d67 fun x69 => Zd r68 fun d70 r71 => ZaF d70 fun x72 => Zd r71 fun d73 r74 => dSl d73 fun x75 => Zd r74 fun d76 r77 => ZM .i64 d76 fun x78 => Zd r77 fun d79 r80 => Zan d79 fun x81 => Zd r80 fun d82 r83 => ZM .i64 d82 fun x84 => Zd r83 fun d85 r86 => dSl d85 fun x87 => Zd r86 fun d88 r89 => dSl d88 fun x90 => Zd r89 fun d91 r92 => ZM .i64 d91 fun x93 => Zd r92 fun d94 r95 => Zan d94 fun x96 => Zd r95 fun d97 r98 => ZM .i64 d97 fun x99 => Zd r98 fun d100 r101 => dSl d100 fun x102 => Zd r101 fun d103 r104 => dSl d103 fun x105 => Ze r104 (laws_szObj.f k x57 x60 x63 x66 x69 x72 x75 x78 x81 x84 x87 x90 x93 x96 x99 x102 x105 v0_1 (fun y106 => bif (decide ((y106 : Int) < 0)) then (K (-1)) else (L0 (y106, IntKind.wrap .i64 (v0_2 + 1)))))) else (K v0_1)
noncomputable def laws_szObjS.g {β : Type} (k : Nat) (a0 : List (List D)) (a1 : Int) (K : Int → Option β) : Option β :=
  bif (decide (((IntKind.wrap .i64 (a1 - (a0.length : Int))) : Int) < 0)) then (K (-1)) else (Z4 (laws_szObjS.l0 k a0 K) k (IntKind.wrap .i64 (a1 - (a0.length : Int)), 0))
noncomputable def laws_szObjS.t (k : Nat) (a0 : List (List D)) (a1 : Int) : Option (Int) := laws_szObjS.g k a0 a1 (fun z0 => some z0)
noncomputable def laws_szObjS.f {β : Type} (k : Nat) (a0 : List (List D)) (a1 : Int) (K : Int → Option β) : Option β :=
  match laws_szObjS.t k a0 a1 with
  | some z0 => K z0
  | none => none
noncomputable def laws_szObjS.as (a0 : List (List D)) (a1 : Int) : List A := [.d (.sl a0), .d (.int .i64 a1)]
noncomputable def laws_szObjS.kt {β : Type} (a0 : List (List D)) (a1 : Int) (K0 : List (List C) → List Out → Option β) : Int → Option β := fun z0 => K0 [[.d (.int .i64 z0)]] []
noncomputable def laws_szObjS.e (k : Nat) : ZQ := { modes := [(.imm, 0), (.imm, 0)], rts := [3], al := false, run := fun {β} l K => match l with | [.d (.sl a0), .d (.int .i64 a1)] => laws_szObjS.f k a0 a1 (laws_szObjS.kt a0 a1 K) | _ => none }
noncomputable def laws_szObjS.E (k : Nat) : Env := fun g => bif g == 192 then some (laws_szObj.e k) else none
noncomputable def laws_szObjS.h : ZY := ⟨fun n => bif n == 5 then ⟨[(0, .asis), (1, .asis), (5, .asis)], []⟩ else ⟨[], []⟩, fun _ => none, false, []⟩
noncomputable def laws_szObjS.s0 (v0_0 : List (List D)) (v : Int × Int) : St :=
  match v with
  | (v0_1, v0_2) => ⟨[.d false (.sl v0_0), .d true (.int .i64 v0_1), .any, .any, .any, .d true (.int .i64 v0_2), .any, .any, .any, .any, .any, .any, .any, .any, .any, .any, .any, .any, .any, .any, .any, .any, .any, .any, .any, .any, .any], []⟩
noncomputable def laws_szObjS.b0 {β : Type} (k : Nat) : St → (Ex → St → Option β) → Option β := fun s K => den Try.prog (laws_szObjS.E k) laws_szObjS.h.H laws_szObjS.h.J k (Zad [1, 1, 1, 0, 1, 0, 0] (Zl Try.f122)) s K
noncomputable def laws_szObjS.c0 {β : Type} (k : Nat) (a0 : List (List D)) (a1 : Int) (K0 : List (List C) → List Out → Option β) : Ex → St → Option β := Zae Try.prog (laws_szObjS.E k) laws_szObjS.h k [1, 1, 1, 0, 1, 0] (Zl Try.f122) (Zak Try.prog Try.f122 laws_szObjS.h (laws_szObjS.as a0 a1) K0)
theorem laws_szObjS.l0_eq {β : Type} (k : Nat) (a0 : List (List D)) (a1 : Int) (K0 : List (List C) → List Out → Option β) (v0_0 : List (List D)) : ∀ (kk : Nat) (v : Int × Int), Zx (laws_szObjS.b0 k) (laws_szObjS.h.H 5) kk (laws_szObjS.s0 v0_0 v) (laws_szObjS.c0 k a0 a1 K0) = Z4 (laws_szObjS.l0 k v0_0 (laws_szObjS.kt a0 a1 K0)) kk v :=
  Z9 (laws_szObjS.s0 v0_0) _ (fun L0 v => by obtain ⟨v0_1, v0_2⟩ := v; kernel_rfl)
noncomputable def laws_szObjS.m {β : Type} (k : Nat) (a0 : List (List D)) (a1 : Int) (K0 : List (List C) → List Out → Option β) (F : ((List (List D)) → (Int × Int) → Option β)) : Option β :=
  bif (decide (((IntKind.wrap .i64 (a1 - (a0.length : Int))) : Int) < 0)) then ((laws_szObjS.kt a0 a1 K0) (-1)) else ((F) a0 (IntKind.wrap .i64 (a1 - (a0.length : Int)), 0))
theorem laws_szObjS.f_eq {β : Type} (k : Nat) (a0 : List (List D)) (a1 : Int) (K0 : List (List C) → List Out → Option β) : ZJ Try.prog (laws_szObjS.E k) laws_szObjS.h k Try.f122 (laws_szObjS.as a0 a1) K0 = laws_szObjS.g k a0 a1 (laws_szObjS.kt a0 a1 K0) := Eq.trans (b := (laws_szObjS.m k a0 a1 K0) (fun (v0_0 : List (List D)) (v : Int × Int) => Zx (laws_szObjS.b0 k) (laws_szObjS.h.H 5) k (laws_szObjS.s0 v0_0 v) (laws_szObjS.c0 k a0 a1 K0))) (by kernel_rfl) (Eq.trans (congrArg (laws_szObjS.m k a0 a1 K0) (funext fun v0_0 => funext fun v => laws_szObjS.l0_eq k a0 a1 K0 v0_0 k v)) (by kernel_rfl))
noncomputable def laws_szObjS.dec (rs : List (List C)) (os : List Out) : Option (Int) := Zd rs fun c1 r2 => Zd c1 fun x3 l4 => cD x3 fun d5 => ZM .i64 d5 fun w0 => Ze l4 <| Ze r2 <| Ze os (some w0)
theorem laws_szObjS.kt_dec (a0 : List (List D)) (a1 : Int) : laws_szObjS.kt a0 a1 laws_szObjS.dec = (fun z0 => some z0) := by kernel_rfl
theorem laws_szObjS.inj (a0 : List (List D)) (a1 : Int) {rs : List (List C)} {os : List Out} {z0 : Int} (h : laws_szObjS.dec rs os = some z0) (ho : Zo (laws_szObjS.as a0 a1) os) : rs = [[.d (.int .i64 z0)]] ∧ os = [] := by
  unfold laws_szObjS.dec at h
  obtain ⟨c1, r2, rfl, h1⟩ := Zb h
  obtain ⟨x3, l4, rfl, h2⟩ := Zb h1
  obtain ⟨d5, rfl, h3⟩ := Zt h2
  obtain ⟨w0, rfl, h4⟩ := ZA h3
  obtain ⟨rfl, h5⟩ := Zc h4
  obtain ⟨rfl, h6⟩ := Zc h5
  obtain ⟨rfl, h7⟩ := Zc h6
  obtain rfl := Option.some.inj h7
  exact ⟨rfl, rfl⟩
theorem laws_szObjS.ok (k : Nat) : Zv Try.prog 122 (laws_szObjS.e k) := by
  refine Zu mix tyok (fn := Try.f122) (c := Zl Try.f122) Try.func122 (by kernel_rfl) (h := laws_szObjS.h) (k := k) (E := laws_szObjS.E k) (Zk (laws_szObj.ok k) Zz) (by kernel_rfl) (by kernel_rfl) rfl (Zq Try.func122 (by kernel_rfl)) ?_
  intro β l K r hr
  simp only [laws_szObjS.e] at hr
  split at hr
  case h_2 => cases hr
  unfold laws_szObjS.f at hr
  split at hr
  case h_2 => cases hr
  rename_i hz
  exact ⟨_, _, hr, _, laws_szObjS.dec, _, (laws_szObjS.f_eq k _ _ laws_szObjS.dec).trans (by rw [laws_szObjS.kt_dec]; exact hz), fun rs os h ho => laws_szObjS.inj _ _ h ho⟩
noncomputable def laws_szMirror.g {β : Type} (k : Nat) (a0_0 : Int) (a0_1 : List (List D)) (a1 : Int) (K : Int → Option β) : Option β :=
  laws_szObjS.f k a0_1 a1 (fun y107 => bif (decide ((y107 : Int) < 0)) then (K (-1)) else (K y107))
noncomputable def laws_szMirror.t (k : Nat) (a0_0 : Int) (a0_1 : List (List D)) (a1 : Int) : Option (Int) := laws_szMirror.g k a0_0 a0_1 a1 (fun z0 => some z0)
noncomputable def laws_szMirror.f {β : Type} (k : Nat) (a0_0 : Int) (a0_1 : List (List D)) (a1 : Int) (K : Int → Option β) : Option β :=
  match laws_szMirror.t k a0_0 a0_1 a1 with
  | some z0 => K z0
  | none => none
noncomputable def laws_szMirror.as (a0_0 : Int) (a0_1 : List (List D)) (a1 : Int) : List A := [.agg [.int .i64 a0_0, .sl a0_1], .d (.int .i64 a1)]
noncomputable def laws_szMirror.kt {β : Type} (a0_0 : Int) (a0_1 : List (List D)) (a1 : Int) (K0 : List (List C) → List Out → Option β) : Int → Option β := fun z0 => K0 [[.d (.int .i64 z0)]] []
noncomputable def laws_szMirror.e (k : Nat) : ZQ := { modes := [(.imm, 0), (.imm, 0)], rts := [3], al := false, run := fun {β} l K => match l with | [.agg [.int .i64 a0_0, .sl a0_1], .d (.int .i64 a1)] => laws_szMirror.f k a0_0 a0_1 a1 (laws_szMirror.kt a0_0 a0_1 a1 K) | _ => none }
noncomputable def laws_szMirror.E (k : Nat) : Env := fun g => bif g == 122 then some (laws_szObjS.e k) else none
noncomputable def laws_szMirror.h : ZY := ⟨fun n => ⟨[], []⟩, fun _ => none, false, []⟩
theorem laws_szMirror.f_eq {β : Type} (k : Nat) (a0_0 : Int) (a0_1 : List (List D)) (a1 : Int) (K0 : List (List C) → List Out → Option β) : ZJ Try.prog (laws_szMirror.E k) laws_szMirror.h k Try.f44 (laws_szMirror.as a0_0 a0_1 a1) K0 = laws_szMirror.g k a0_0 a0_1 a1 (laws_szMirror.kt a0_0 a0_1 a1 K0) := by kernel_rfl
noncomputable def laws_szMirror.dec (rs : List (List C)) (os : List Out) : Option (Int) := Zd rs fun c1 r2 => Zd c1 fun x3 l4 => cD x3 fun d5 => ZM .i64 d5 fun w0 => Ze l4 <| Ze r2 <| Ze os (some w0)
theorem laws_szMirror.kt_dec (a0_0 : Int) (a0_1 : List (List D)) (a1 : Int) : laws_szMirror.kt a0_0 a0_1 a1 laws_szMirror.dec = (fun z0 => some z0) := by kernel_rfl
theorem laws_szMirror.inj (a0_0 : Int) (a0_1 : List (List D)) (a1 : Int) {rs : List (List C)} {os : List Out} {z0 : Int} (h : laws_szMirror.dec rs os = some z0) (ho : Zo (laws_szMirror.as a0_0 a0_1 a1) os) : rs = [[.d (.int .i64 z0)]] ∧ os = [] := by
  unfold laws_szMirror.dec at h
  obtain ⟨c1, r2, rfl, h1⟩ := Zb h
  obtain ⟨x3, l4, rfl, h2⟩ := Zb h1
  obtain ⟨d5, rfl, h3⟩ := Zt h2
  obtain ⟨w0, rfl, h4⟩ := ZA h3
  obtain ⟨rfl, h5⟩ := Zc h4
  obtain ⟨rfl, h6⟩ := Zc h5
  obtain ⟨rfl, h7⟩ := Zc h6
  obtain rfl := Option.some.inj h7
  exact ⟨rfl, rfl⟩
theorem laws_szMirror.ok (k : Nat) : Zv Try.prog 44 (laws_szMirror.e k) := by
  refine Zu mix tyok (fn := Try.f44) (c := Zl Try.f44) Try.func44 (by kernel_rfl) (h := laws_szMirror.h) (k := k) (E := laws_szMirror.E k) (Zk (laws_szObjS.ok k) Zz) (by kernel_rfl) (by kernel_rfl) rfl (Zq Try.func44 (by kernel_rfl)) ?_
  intro β l K r hr
  simp only [laws_szMirror.e] at hr
  split at hr
  case h_2 => cases hr
  unfold laws_szMirror.f at hr
  split at hr
  case h_2 => cases hr
  rename_i hz
  exact ⟨_, _, hr, _, laws_szMirror.dec, _, (laws_szMirror.f_eq k _ _ _ laws_szMirror.dec).trans (by rw [laws_szMirror.kt_dec]; exact hz), fun rs os h ho => laws_szMirror.inj _ _ _ h ho⟩
noncomputable def laws_toStringS.l0 {β : Type} (k : Nat) (v0_0 : List (List D)) (K : (List (List C)) → Option β) (L0 : (Int × (List (List C))) → Option β) (v : Int × (List (List C))) : Option β :=
  match v with
  | (v0_1, v0_2) => bif (decide ((v0_1 : Int) < (v0_0.length : Int))) then (ZX v0_0 v0_1 fun c5 => Zd c5 fun d6 r7 => Zan d6 fun x8 => Ze r7 (ZH ((0 : Int) ≤ v0_1 ∧ v0_1 < (v0_2.length : Int)) (ZH (Int.toNat v0_1 < v0_2.length) (L0 (IntKind.wrap .i64 (v0_1 + 1), v0_2.modify (Int.toNat v0_1) fun c => Z1 c 0 [.d (.str x8)]))))) else (K v0_2)
noncomputable def laws_toStringS.g {β : Type} (k : Nat) (a0 : List (List D)) (K : (List (List C)) → Option β) : Option β :=
  ZH ((0 : Int) ≤ (a0.length : Int) ∧ (a0.length : Int) ≤ (Z6 : Int) ∧ (a0.length : Int) ≤ (a0.length : Int) ∧ (a0.length : Int) ≤ (a0.length : Int)) (Z4 (laws_toStringS.l0 k a0 K) k (0, List.replicate (Int.toNat (a0.length : Int)) ([.d (.str (⟨#[]⟩ : ByteArray))] : List C)))
noncomputable def laws_toStringS.t (k : Nat) (a0 : List (List D)) : Option ((List (List C))) := laws_toStringS.g k a0 (fun z0 => some z0)
noncomputable def laws_toStringS.f {β : Type} (k : Nat) (a0 : List (List D)) (K : (List (List C)) → Option β) : Option β :=
  match laws_toStringS.t k a0 with
  | some z0 => K z0
  | none => none
noncomputable def laws_toStringS.as (a0 : List (List D)) : List A := [.d (.sl a0)]
noncomputable def laws_toStringS.kt {β : Type} (a0 : List (List D)) (K0 : List (List C) → List Out → Option β) : (List (List C)) → Option β := fun z0 => K0 [[.own z0]] []
noncomputable def laws_toStringS.e (k : Nat) : ZQ := { modes := [(.imm, 0)], rts := [25], al := false, run := fun {β} l K => match l with | [.d (.sl a0)] => laws_toStringS.f k a0 (laws_toStringS.kt a0 K) | _ => none }
noncomputable def laws_toStringS.E (k : Nat) : Env := fun g => none
noncomputable def laws_toStringS.h : ZY := ⟨fun n => bif n == 3 then ⟨[(0, .asis), (3, .asis), (4, .asis)], []⟩ else ⟨[], []⟩, fun _ => none, false, []⟩
noncomputable def laws_toStringS.s0 (v0_0 : List (List D)) (v : Int × (List (List C))) : St :=
  match v with
  | (v0_1, v0_2) => ⟨[.d false (.sl v0_0), .any, .any, .row 0, .d true (.int .i64 v0_1), .any, .any, .any, .any, .any, .any, .any, .any, .any, .any, .any, .any, .any, .any, .any, .any, .any], [.row none true 25 v0_2]⟩
noncomputable def laws_toStringS.b0 {β : Type} (k : Nat) : St → (Ex → St → Option β) → Option β := fun s K => den Try.prog (laws_toStringS.E k) laws_toStringS.h.H laws_toStringS.h.J k (Zad [1, 1, 0, 1, 0, 0] (Zl Try.f78)) s K
noncomputable def laws_toStringS.c0 {β : Type} (k : Nat) (a0 : List (List D)) (K0 : List (List C) → List Out → Option β) : Ex → St → Option β := Zae Try.prog (laws_toStringS.E k) laws_toStringS.h k [1, 1, 0, 1, 0] (Zl Try.f78) (Zak Try.prog Try.f78 laws_toStringS.h (laws_toStringS.as a0) K0)
theorem laws_toStringS.l0_eq {β : Type} (k : Nat) (a0 : List (List D)) (K0 : List (List C) → List Out → Option β) (v0_0 : List (List D)) : ∀ (kk : Nat) (v : Int × (List (List C))), Zx (laws_toStringS.b0 k) (laws_toStringS.h.H 3) kk (laws_toStringS.s0 v0_0 v) (laws_toStringS.c0 k a0 K0) = Z4 (laws_toStringS.l0 k v0_0 (laws_toStringS.kt a0 K0)) kk v :=
  Z9 (laws_toStringS.s0 v0_0) _ (fun L0 v => by obtain ⟨v0_1, v0_2⟩ := v; kernel_rfl)
noncomputable def laws_toStringS.m {β : Type} (k : Nat) (a0 : List (List D)) (K0 : List (List C) → List Out → Option β) (F : ((List (List D)) → (Int × (List (List C))) → Option β)) : Option β :=
  ZH ((0 : Int) ≤ (a0.length : Int) ∧ (a0.length : Int) ≤ (Z6 : Int) ∧ (a0.length : Int) ≤ (a0.length : Int) ∧ (a0.length : Int) ≤ (a0.length : Int)) ((F) a0 (0, List.replicate (Int.toNat (a0.length : Int)) ([.d (.str (⟨#[]⟩ : ByteArray))] : List C)))
theorem laws_toStringS.f_eq {β : Type} (k : Nat) (a0 : List (List D)) (K0 : List (List C) → List Out → Option β) : ZJ Try.prog (laws_toStringS.E k) laws_toStringS.h k Try.f78 (laws_toStringS.as a0) K0 = laws_toStringS.g k a0 (laws_toStringS.kt a0 K0) := Eq.trans (b := (laws_toStringS.m k a0 K0) (fun (v0_0 : List (List D)) (v : Int × (List (List C))) => Zx (laws_toStringS.b0 k) (laws_toStringS.h.H 3) k (laws_toStringS.s0 v0_0 v) (laws_toStringS.c0 k a0 K0))) (by kernel_rfl) (Eq.trans (congrArg (laws_toStringS.m k a0 K0) (funext fun v0_0 => funext fun v => laws_toStringS.l0_eq k a0 K0 v0_0 k v)) (by kernel_rfl))
noncomputable def laws_toStringS.dec (rs : List (List C)) (os : List Out) : Option ((List (List C))) := Zd rs fun c1 r2 => Zd c1 fun x3 l4 => ZaU x3 fun w0 => Ze l4 <| Ze r2 <| Ze os (some w0)
theorem laws_toStringS.kt_dec (a0 : List (List D)) : laws_toStringS.kt a0 laws_toStringS.dec = (fun z0 => some z0) := by kernel_rfl
theorem laws_toStringS.inj (a0 : List (List D)) {rs : List (List C)} {os : List Out} {z0 : List (List C)} (h : laws_toStringS.dec rs os = some z0) (ho : Zo (laws_toStringS.as a0) os) : rs = [[.own z0]] ∧ os = [] := by
  unfold laws_toStringS.dec at h
  obtain ⟨c1, r2, rfl, h1⟩ := Zb h
  obtain ⟨x3, l4, rfl, h2⟩ := Zb h1
  obtain ⟨w0, rfl, h3⟩ := ZN h2
  obtain ⟨rfl, h4⟩ := Zc h3
  obtain ⟨rfl, h5⟩ := Zc h4
  obtain ⟨rfl, h6⟩ := Zc h5
  obtain rfl := Option.some.inj h6
  exact ⟨rfl, rfl⟩
theorem laws_toStringS.ok (k : Nat) : Zv Try.prog 78 (laws_toStringS.e k) := by
  refine Zu mix tyok (fn := Try.f78) (c := Zl Try.f78) Try.func78 (by kernel_rfl) (h := laws_toStringS.h) (k := k) (E := laws_toStringS.E k) Zz (by kernel_rfl) (by kernel_rfl) rfl (Zq Try.func78 (by kernel_rfl)) ?_
  intro β l K r hr
  simp only [laws_toStringS.e] at hr
  split at hr
  case h_2 => cases hr
  unfold laws_toStringS.f at hr
  split at hr
  case h_2 => cases hr
  rename_i hz
  exact ⟨_, _, hr, _, laws_toStringS.dec, _, (laws_toStringS.f_eq k _ laws_toStringS.dec).trans (by rw [laws_toStringS.kt_dec]; exact hz), fun rs os h ho => laws_toStringS.inj _ h ho⟩
noncomputable def laws_toValueS.l0 {β : Type} (k : Nat) (r_laws_toValueS : (List (List D)) → ((List (List C)) → Option β) → Option β) (r_laws_toValue : Int → ByteArray → Int → (List (List D)) → (List (List D)) → (Int → ByteArray → Int → (List (List C)) → (List (List C)) → Option β) → Option β) (v0_0 : List (List D)) (K : (List (List C)) → Option β) (L0 : (Int × (List (List C))) → Option β) (v : Int × (List (List C))) : Option β :=
  match v with
  | (v0_1, v0_2) => bif (decide ((v0_1 : Int) < (v0_0.length : Int))) then (ZX v0_0 v0_1 fun c22 => Zd c22 fun d23 r24 => ZM .i64 d23 fun x25 => Zd r24 fun d26 r27 => Zan d26 fun x28 => Zd r27 fun d29 r30 => ZM .i64 d29 fun x31 => Zd r30 fun d32 r33 => dSl d32 fun x34 => Zd r33 fun d35 r36 => dSl d35 fun x37 => Ze r36 (r_laws_toValue x25 x28 x31 x34 x37 (fun y38 y39 y40 y41 y42 => ZH ((0 : Int) ≤ v0_1 ∧ v0_1 < (v0_2.length : Int)) (ZH (Int.toNat v0_1 < v0_2.length) (L0 (IntKind.wrap .i64 (v0_1 + 1), v0_2.modify (Int.toNat v0_1) fun c => Z1 c 0 [.d (.int .i64 y38), .d (.str y39), .d (.int .i64 y40), .own y41, .own y42])))))) else (K v0_2)
noncomputable def laws_toValueS.body {β : Type} (k : Nat) (r_laws_toValueS : (List (List D)) → ((List (List C)) → Option β) → Option β) (r_laws_toValue : Int → ByteArray → Int → (List (List D)) → (List (List D)) → (Int → ByteArray → Int → (List (List C)) → (List (List C)) → Option β) → Option β) (a0 : List (List D)) (K : (List (List C)) → Option β) : Option β :=
  ZH ((0 : Int) ≤ (a0.length : Int) ∧ (a0.length : Int) ≤ (Z6 : Int) ∧ (a0.length : Int) ≤ (a0.length : Int) ∧ (a0.length : Int) ≤ (a0.length : Int)) (Z4 (laws_toValueS.l0 k r_laws_toValueS r_laws_toValue a0 K) k (0, List.replicate (Int.toNat (a0.length : Int)) ([.d (.int .i64 0), .d (.str (⟨#[]⟩ : ByteArray)), .d (.int .i64 0), .own ([] : List (List C)), .own ([] : List (List C))] : List C)))
noncomputable def laws_toValue.body {β : Type} (k : Nat) (r_laws_toValueS : (List (List D)) → ((List (List C)) → Option β) → Option β) (r_laws_toValue : Int → ByteArray → Int → (List (List D)) → (List (List D)) → (Int → ByteArray → Int → (List (List C)) → (List (List C)) → Option β) → Option β) (a0_0 : Int) (a0_1 : ByteArray) (a0_2 : Int) (a0_3 : List (List D)) (a0_4 : List (List D)) (K : Int → ByteArray → Int → (List (List C)) → (List (List C)) → Option β) : Option β :=
  laws_toStringS.f k a0_3 (fun y1 => r_laws_toValueS a0_4 (fun y43 => K a0_0 a0_1 a0_2 y1 y43))
noncomputable def laws_toValueS.w {β : Type} (r : (List (List D)) → Option ((List (List C)))) (a0 : List (List D)) (K : (List (List C)) → Option β) : Option β :=
  match r a0 with
  | some z0 => K z0
  | none => none
noncomputable def laws_toValue.w {β : Type} (r : Int → ByteArray → Int → (List (List D)) → (List (List D)) → Option (Int × ByteArray × Int × (List (List C)) × (List (List C)))) (a0_0 : Int) (a0_1 : ByteArray) (a0_2 : Int) (a0_3 : List (List D)) (a0_4 : List (List D)) (K : Int → ByteArray → Int → (List (List C)) → (List (List C)) → Option β) : Option β :=
  match r a0_0 a0_1 a0_2 a0_3 a0_4 with
  | some (z0, z1, z2, z3, z4) => K z0 z1 z2 z3 z4
  | none => none
noncomputable def laws_toValueS.all : Nat → ((List (List D)) → Option ((List (List C)))) × (Int → ByteArray → Int → (List (List D)) → (List (List D)) → Option (Int × ByteArray × Int × (List (List C)) × (List (List C))))
  | 0 => (fun _ => none, fun _ _ _ _ _ => none)
  | k + 1 => (fun r => (fun a0 => laws_toValueS.body k (laws_toValueS.w r.1) (laws_toValue.w r.2) a0 (fun z0 => some z0), fun a0_0 a0_1 a0_2 a0_3 a0_4 => laws_toValue.body k (laws_toValueS.w r.1) (laws_toValue.w r.2) a0_0 a0_1 a0_2 a0_3 a0_4 (fun z0 z1 z2 z3 z4 => some (z0, z1, z2, z3, z4)))) (laws_toValueS.all k)
noncomputable def laws_toValueS.t (k : Nat) (a0 : List (List D)) : Option ((List (List C))) := (laws_toValueS.all k).1 a0
noncomputable def laws_toValue.t (k : Nat) (a0_0 : Int) (a0_1 : ByteArray) (a0_2 : Int) (a0_3 : List (List D)) (a0_4 : List (List D)) : Option (Int × ByteArray × Int × (List (List C)) × (List (List C))) := (laws_toValueS.all k).2 a0_0 a0_1 a0_2 a0_3 a0_4
noncomputable def laws_toValueS.f {β : Type} (k : Nat) (a0 : List (List D)) (K : (List (List C)) → Option β) : Option β := laws_toValueS.w (laws_toValueS.t k) a0 K
noncomputable def laws_toValue.f {β : Type} (k : Nat) (a0_0 : Int) (a0_1 : ByteArray) (a0_2 : Int) (a0_3 : List (List D)) (a0_4 : List (List D)) (K : Int → ByteArray → Int → (List (List C)) → (List (List C)) → Option β) : Option β := laws_toValue.w (laws_toValue.t k) a0_0 a0_1 a0_2 a0_3 a0_4 K
noncomputable def laws_toValueS.g {β : Type} (k : Nat) (a0 : List (List D)) (K : (List (List C)) → Option β) : Option β := laws_toValueS.body k (laws_toValueS.f k) (laws_toValue.f k) a0 K
theorem laws_toValueS.t_zero (a0 : List (List D)) : laws_toValueS.t 0 a0 = none := rfl
theorem laws_toValueS.t_succ (k : Nat) (a0 : List (List D)) : laws_toValueS.t (k + 1) a0 = laws_toValueS.g k a0 (fun z0 => some z0) := rfl
noncomputable def laws_toValue.g {β : Type} (k : Nat) (a0_0 : Int) (a0_1 : ByteArray) (a0_2 : Int) (a0_3 : List (List D)) (a0_4 : List (List D)) (K : Int → ByteArray → Int → (List (List C)) → (List (List C)) → Option β) : Option β := laws_toValue.body k (laws_toValueS.f k) (laws_toValue.f k) a0_0 a0_1 a0_2 a0_3 a0_4 K
theorem laws_toValue.t_zero (a0_0 : Int) (a0_1 : ByteArray) (a0_2 : Int) (a0_3 : List (List D)) (a0_4 : List (List D)) : laws_toValue.t 0 a0_0 a0_1 a0_2 a0_3 a0_4 = none := rfl
theorem laws_toValue.t_succ (k : Nat) (a0_0 : Int) (a0_1 : ByteArray) (a0_2 : Int) (a0_3 : List (List D)) (a0_4 : List (List D)) : laws_toValue.t (k + 1) a0_0 a0_1 a0_2 a0_3 a0_4 = laws_toValue.g k a0_0 a0_1 a0_2 a0_3 a0_4 (fun z0 z1 z2 z3 z4 => some (z0, z1, z2, z3, z4)) := rfl
noncomputable def laws_toValueS.as (a0 : List (List D)) : List A := [.d (.sl a0)]
noncomputable def laws_toValueS.kt {β : Type} (a0 : List (List D)) (K0 : List (List C) → List Out → Option β) : (List (List C)) → Option β := fun z0 => K0 [[.own z0]] []
noncomputable def laws_toValueS.e (k : Nat) : ZQ := { modes := [(.imm, 0)], rts := [149], al := false, run := fun {β} l K => match l with | [.d (.sl a0)] => laws_toValueS.f k a0 (laws_toValueS.kt a0 K) | _ => none }
noncomputable def laws_toValue.as (a0_0 : Int) (a0_1 : ByteArray) (a0_2 : Int) (a0_3 : List (List D)) (a0_4 : List (List D)) : List A := [.agg [.int .i64 a0_0, .str a0_1, .int .i64 a0_2, .sl a0_3, .sl a0_4]]
noncomputable def laws_toValue.kt {β : Type} (a0_0 : Int) (a0_1 : ByteArray) (a0_2 : Int) (a0_3 : List (List D)) (a0_4 : List (List D)) (K0 : List (List C) → List Out → Option β) : Int → ByteArray → Int → (List (List C)) → (List (List C)) → Option β := fun z0 z1 z2 z3 z4 => K0 [[.d (.int .i64 z0), .d (.str z1), .d (.int .i64 z2), .own z3, .own z4]] []
noncomputable def laws_toValue.e (k : Nat) : ZQ := { modes := [(.imm, 0)], rts := [151], al := false, run := fun {β} l K => match l with | [.agg [.int .i64 a0_0, .str a0_1, .int .i64 a0_2, .sl a0_3, .sl a0_4]] => laws_toValue.f k a0_0 a0_1 a0_2 a0_3 a0_4 (laws_toValue.kt a0_0 a0_1 a0_2 a0_3 a0_4 K) | _ => none }
noncomputable def laws_toValueS.E (k : Nat) : Env := fun g => bif g == 183 then some (laws_toValue.e k) else none
noncomputable def laws_toValueS.h : ZY := ⟨fun n => bif n == 3 then ⟨[(0, .asis), (3, .asis), (4, .asis)], []⟩ else ⟨[], []⟩, fun _ => none, false, []⟩
noncomputable def laws_toValueS.s0 (v0_0 : List (List D)) (v : Int × (List (List C))) : St :=
  match v with
  | (v0_1, v0_2) => ⟨[.d false (.sl v0_0), .any, .any, .row 0, .d true (.int .i64 v0_1), .any, .any, .any, .any, .any, .any, .any, .any, .any, .any, .any, .any, .any, .any, .any, .any, .any, .any], [.row none true 149 v0_2]⟩
noncomputable def laws_toValueS.b0 {β : Type} (k : Nat) : St → (Ex → St → Option β) → Option β := fun s K => den Try.prog (laws_toValueS.E k) laws_toValueS.h.H laws_toValueS.h.J k (Zad [1, 1, 0, 1, 0, 0] (Zl Try.f224)) s K
noncomputable def laws_toValueS.c0 {β : Type} (k : Nat) (a0 : List (List D)) (K0 : List (List C) → List Out → Option β) : Ex → St → Option β := Zae Try.prog (laws_toValueS.E k) laws_toValueS.h k [1, 1, 0, 1, 0] (Zl Try.f224) (Zak Try.prog Try.f224 laws_toValueS.h (laws_toValueS.as a0) K0)
theorem laws_toValueS.l0_eq {β : Type} (k : Nat) (a0 : List (List D)) (K0 : List (List C) → List Out → Option β) (v0_0 : List (List D)) : ∀ (kk : Nat) (v : Int × (List (List C))), Zx (laws_toValueS.b0 k) (laws_toValueS.h.H 3) kk (laws_toValueS.s0 v0_0 v) (laws_toValueS.c0 k a0 K0) = Z4 (laws_toValueS.l0 k (laws_toValueS.f k) (laws_toValue.f k) v0_0 (laws_toValueS.kt a0 K0)) kk v :=
  Z9 (laws_toValueS.s0 v0_0) _ (fun L0 v => by obtain ⟨v0_1, v0_2⟩ := v; kernel_rfl)
noncomputable def laws_toValueS.m {β : Type} (k : Nat) (a0 : List (List D)) (K0 : List (List C) → List Out → Option β) (F : ((List (List D)) → (Int × (List (List C))) → Option β)) : Option β :=
  ZH ((0 : Int) ≤ (a0.length : Int) ∧ (a0.length : Int) ≤ (Z6 : Int) ∧ (a0.length : Int) ≤ (a0.length : Int) ∧ (a0.length : Int) ≤ (a0.length : Int)) ((F) a0 (0, List.replicate (Int.toNat (a0.length : Int)) ([.d (.int .i64 0), .d (.str (⟨#[]⟩ : ByteArray)), .d (.int .i64 0), .own ([] : List (List C)), .own ([] : List (List C))] : List C)))
theorem laws_toValueS.f_eq {β : Type} (k : Nat) (a0 : List (List D)) (K0 : List (List C) → List Out → Option β) : ZJ Try.prog (laws_toValueS.E k) laws_toValueS.h k Try.f224 (laws_toValueS.as a0) K0 = laws_toValueS.g k a0 (laws_toValueS.kt a0 K0) := Eq.trans (b := (laws_toValueS.m k a0 K0) (fun (v0_0 : List (List D)) (v : Int × (List (List C))) => Zx (laws_toValueS.b0 k) (laws_toValueS.h.H 3) k (laws_toValueS.s0 v0_0 v) (laws_toValueS.c0 k a0 K0))) (by kernel_rfl) (Eq.trans (congrArg (laws_toValueS.m k a0 K0) (funext fun v0_0 => funext fun v => laws_toValueS.l0_eq k a0 K0 v0_0 k v)) (by kernel_rfl))
noncomputable def laws_toValue.E (k : Nat) : Env := fun g => bif g == 78 then some (laws_toStringS.e k) else bif g == 224 then some (laws_toValueS.e k) else none
noncomputable def laws_toValue.h : ZY := ⟨fun n => ⟨[], []⟩, fun _ => none, false, []⟩
theorem laws_toValue.f_eq {β : Type} (k : Nat) (a0_0 : Int) (a0_1 : ByteArray) (a0_2 : Int) (a0_3 : List (List D)) (a0_4 : List (List D)) (K0 : List (List C) → List Out → Option β) : ZJ Try.prog (laws_toValue.E k) laws_toValue.h k Try.f183 (laws_toValue.as a0_0 a0_1 a0_2 a0_3 a0_4) K0 = laws_toValue.g k a0_0 a0_1 a0_2 a0_3 a0_4 (laws_toValue.kt a0_0 a0_1 a0_2 a0_3 a0_4 K0) := by kernel_rfl
noncomputable def laws_toValueS.dec (rs : List (List C)) (os : List Out) : Option ((List (List C))) := Zd rs fun c1 r2 => Zd c1 fun x3 l4 => ZaU x3 fun w0 => Ze l4 <| Ze r2 <| Ze os (some w0)
theorem laws_toValueS.kt_dec (a0 : List (List D)) : laws_toValueS.kt a0 laws_toValueS.dec = (fun z0 => some z0) := by kernel_rfl
theorem laws_toValueS.inj (a0 : List (List D)) {rs : List (List C)} {os : List Out} {z0 : List (List C)} (h : laws_toValueS.dec rs os = some z0) (ho : Zo (laws_toValueS.as a0) os) : rs = [[.own z0]] ∧ os = [] := by
  unfold laws_toValueS.dec at h
  obtain ⟨c1, r2, rfl, h1⟩ := Zb h
  obtain ⟨x3, l4, rfl, h2⟩ := Zb h1
  obtain ⟨w0, rfl, h3⟩ := ZN h2
  obtain ⟨rfl, h4⟩ := Zc h3
  obtain ⟨rfl, h5⟩ := Zc h4
  obtain ⟨rfl, h6⟩ := Zc h5
  obtain rfl := Option.some.inj h6
  exact ⟨rfl, rfl⟩
noncomputable def laws_toValue.dec (rs : List (List C)) (os : List Out) : Option (Int × ByteArray × Int × (List (List C)) × (List (List C))) := Zd rs fun c1 r2 => Zd c1 fun x3 l4 => cD x3 fun d5 => ZM .i64 d5 fun w0 => Zd l4 fun x6 l7 => cD x6 fun d8 => Zan d8 fun w1 => Zd l7 fun x9 l10 => cD x9 fun d11 => ZM .i64 d11 fun w2 => Zd l10 fun x12 l13 => ZaU x12 fun w3 => Zd l13 fun x14 l15 => ZaU x14 fun w4 => Ze l15 <| Ze r2 <| Ze os (some (w0, w1, w2, w3, w4))
theorem laws_toValue.kt_dec (a0_0 : Int) (a0_1 : ByteArray) (a0_2 : Int) (a0_3 : List (List D)) (a0_4 : List (List D)) : laws_toValue.kt a0_0 a0_1 a0_2 a0_3 a0_4 laws_toValue.dec = (fun z0 z1 z2 z3 z4 => some (z0, z1, z2, z3, z4)) := by kernel_rfl
theorem laws_toValue.inj (a0_0 : Int) (a0_1 : ByteArray) (a0_2 : Int) (a0_3 : List (List D)) (a0_4 : List (List D)) {rs : List (List C)} {os : List Out} {z0 : Int} {z1 : ByteArray} {z2 : Int} {z3 : List (List C)} {z4 : List (List C)} (h : laws_toValue.dec rs os = some (z0, z1, z2, z3, z4)) (ho : Zo (laws_toValue.as a0_0 a0_1 a0_2 a0_3 a0_4) os) : rs = [[.d (.int .i64 z0), .d (.str z1), .d (.int .i64 z2), .own z3, .own z4]] ∧ os = [] := by
  unfold laws_toValue.dec at h
  obtain ⟨c1, r2, rfl, h1⟩ := Zb h
  obtain ⟨x3, l4, rfl, h2⟩ := Zb h1
  obtain ⟨d5, rfl, h3⟩ := Zt h2
  obtain ⟨w0, rfl, h4⟩ := ZA h3
  obtain ⟨x6, l7, rfl, h5⟩ := Zb h4
  obtain ⟨d8, rfl, h6⟩ := Zt h5
  obtain ⟨w1, rfl, h7⟩ := ZaL h6
  obtain ⟨x9, l10, rfl, h8⟩ := Zb h7
  obtain ⟨d11, rfl, h9⟩ := Zt h8
  obtain ⟨w2, rfl, h10⟩ := ZA h9
  obtain ⟨x12, l13, rfl, h11⟩ := Zb h10
  obtain ⟨w3, rfl, h12⟩ := ZN h11
  obtain ⟨x14, l15, rfl, h13⟩ := Zb h12
  obtain ⟨w4, rfl, h14⟩ := ZN h13
  obtain ⟨rfl, h15⟩ := Zc h14
  obtain ⟨rfl, h16⟩ := Zc h15
  obtain ⟨rfl, h17⟩ := Zc h16
  simp only [Option.some.injEq, Prod.mk.injEq] at h17
  obtain ⟨rfl, rfl, rfl, rfl, rfl⟩ := h17
  exact ⟨rfl, rfl⟩
theorem laws_toValueS.oks (k : Nat) : Zv Try.prog 224 (laws_toValueS.e k) ∧ Zv Try.prog 183 (laws_toValue.e k) := by
  induction k with
  | zero =>
    refine ⟨?_, ?_⟩
    · exact Zb1 (Zq Try.func224 (by kernel_rfl)) fun β l K r h => by
        simp only [laws_toValueS.e] at h
        split at h
        · unfold laws_toValueS.f at h
          unfold laws_toValueS.w at h
          rw [laws_toValueS.t_zero] at h
          cases h
        · cases h
    · exact Zb1 (Zq Try.func183 (by kernel_rfl)) fun β l K r h => by
        simp only [laws_toValue.e] at h
        split at h
        · unfold laws_toValue.f at h
          unfold laws_toValue.w at h
          rw [laws_toValue.t_zero] at h
          cases h
        · cases h
  | succ k ih =>
    refine ⟨?_, ?_⟩
    · refine Zu mix tyok (fn := Try.f224) (c := Zl Try.f224) Try.func224 (by kernel_rfl) (h := laws_toValueS.h) (k := k) (E := laws_toValueS.E k) (Zk ih.2 Zz) (by kernel_rfl) (by kernel_rfl) rfl (Zq Try.func224 (by kernel_rfl)) ?_
      intro β l K r hr
      simp only [laws_toValueS.e] at hr
      split at hr
      case h_2 => cases hr
      unfold laws_toValueS.f at hr
      unfold laws_toValueS.w at hr
      split at hr
      case h_2 => cases hr
      rename_i hz
      exact ⟨_, _, hr, _, laws_toValueS.dec, _, (laws_toValueS.f_eq k _ laws_toValueS.dec).trans (by rw [laws_toValueS.kt_dec]; exact hz), fun rs os h ho => laws_toValueS.inj _ h ho⟩
    · refine Zu mix tyok (fn := Try.f183) (c := Zl Try.f183) Try.func183 (by kernel_rfl) (h := laws_toValue.h) (k := k) (E := laws_toValue.E k) (Zk (laws_toStringS.ok k) (Zk ih.1 Zz)) (by kernel_rfl) (by kernel_rfl) rfl (Zq Try.func183 (by kernel_rfl)) ?_
      intro β l K r hr
      simp only [laws_toValue.e] at hr
      split at hr
      case h_2 => cases hr
      unfold laws_toValue.f at hr
      unfold laws_toValue.w at hr
      split at hr
      case h_2 => cases hr
      rename_i hz
      exact ⟨_, _, hr, _, laws_toValue.dec, _, (laws_toValue.f_eq k _ _ _ _ _ laws_toValue.dec).trans (by rw [laws_toValue.kt_dec]; exact hz), fun rs os h ho => laws_toValue.inj _ _ _ _ _ h ho⟩
theorem laws_toValueS.ok (k : Nat) : Zv Try.prog 224 (laws_toValueS.e k) := (laws_toValueS.oks k).1
theorem laws_toValue.ok (k : Nat) : Zv Try.prog 183 (laws_toValue.e k) := (laws_toValueS.oks k).2
noncomputable def laws_toObj.g {β : Type} (k : Nat) (a0_0 : Int) (a0_1 : ByteArray) (a0_2 : Int) (a0_3 : Int) (a0_4 : Int) (a0_5 : Bool) (a0_6 : List (List D)) (a0_7 : Int) (a0_8 : ByteArray) (a0_9 : Int) (a0_10 : List (List D)) (a0_11 : List (List D)) (a0_12 : Int) (a0_13 : ByteArray) (a0_14 : Int) (a0_15 : List (List D)) (a0_16 : List (List D)) (K : Int → ByteArray → Int → Int → Int → Bool → (List (List C)) → Int → ByteArray → Int → (List (List C)) → (List (List C)) → Int → ByteArray → Int → (List (List C)) → (List (List C)) → Option β) : Option β :=
  laws_toStringS.f k a0_6 (fun y9 => laws_toValue.f k a0_7 a0_8 a0_9 a0_10 a0_11 (fun y44 y45 y46 y47 y48 => laws_toValue.f k a0_12 a0_13 a0_14 a0_15 a0_16 (fun y49 y50 y51 y52 y53 => K a0_0 a0_1 a0_2 a0_3 a0_4 a0_5 y9 y44 y45 y46 y47 y48 y49 y50 y51 y52 y53)))
noncomputable def laws_toObj.t (k : Nat) (a0_0 : Int) (a0_1 : ByteArray) (a0_2 : Int) (a0_3 : Int) (a0_4 : Int) (a0_5 : Bool) (a0_6 : List (List D)) (a0_7 : Int) (a0_8 : ByteArray) (a0_9 : Int) (a0_10 : List (List D)) (a0_11 : List (List D)) (a0_12 : Int) (a0_13 : ByteArray) (a0_14 : Int) (a0_15 : List (List D)) (a0_16 : List (List D)) : Option (Int × ByteArray × Int × Int × Int × Bool × (List (List C)) × Int × ByteArray × Int × (List (List C)) × (List (List C)) × Int × ByteArray × Int × (List (List C)) × (List (List C))) := laws_toObj.g k a0_0 a0_1 a0_2 a0_3 a0_4 a0_5 a0_6 a0_7 a0_8 a0_9 a0_10 a0_11 a0_12 a0_13 a0_14 a0_15 a0_16 (fun z0 z1 z2 z3 z4 z5 z6 z7 z8 z9 z10 z11 z12 z13 z14 z15 z16 => some (z0, z1, z2, z3, z4, z5, z6, z7, z8, z9, z10, z11, z12, z13, z14, z15, z16))
noncomputable def laws_toObj.f {β : Type} (k : Nat) (a0_0 : Int) (a0_1 : ByteArray) (a0_2 : Int) (a0_3 : Int) (a0_4 : Int) (a0_5 : Bool) (a0_6 : List (List D)) (a0_7 : Int) (a0_8 : ByteArray) (a0_9 : Int) (a0_10 : List (List D)) (a0_11 : List (List D)) (a0_12 : Int) (a0_13 : ByteArray) (a0_14 : Int) (a0_15 : List (List D)) (a0_16 : List (List D)) (K : Int → ByteArray → Int → Int → Int → Bool → (List (List C)) → Int → ByteArray → Int → (List (List C)) → (List (List C)) → Int → ByteArray → Int → (List (List C)) → (List (List C)) → Option β) : Option β :=
  match laws_toObj.t k a0_0 a0_1 a0_2 a0_3 a0_4 a0_5 a0_6 a0_7 a0_8 a0_9 a0_10 a0_11 a0_12 a0_13 a0_14 a0_15 a0_16 with
  | some (z0, z1, z2, z3, z4, z5, z6, z7, z8, z9, z10, z11, z12, z13, z14, z15, z16) => K z0 z1 z2 z3 z4 z5 z6 z7 z8 z9 z10 z11 z12 z13 z14 z15 z16
  | none => none
noncomputable def laws_toObj.as (a0_0 : Int) (a0_1 : ByteArray) (a0_2 : Int) (a0_3 : Int) (a0_4 : Int) (a0_5 : Bool) (a0_6 : List (List D)) (a0_7 : Int) (a0_8 : ByteArray) (a0_9 : Int) (a0_10 : List (List D)) (a0_11 : List (List D)) (a0_12 : Int) (a0_13 : ByteArray) (a0_14 : Int) (a0_15 : List (List D)) (a0_16 : List (List D)) : List A := [.agg [.int .i64 a0_0, .str a0_1, .int .i64 a0_2, .int .i64 a0_3, .int .i64 a0_4, .bool a0_5, .sl a0_6, .int .i64 a0_7, .str a0_8, .int .i64 a0_9, .sl a0_10, .sl a0_11, .int .i64 a0_12, .str a0_13, .int .i64 a0_14, .sl a0_15, .sl a0_16]]
noncomputable def laws_toObj.kt {β : Type} (a0_0 : Int) (a0_1 : ByteArray) (a0_2 : Int) (a0_3 : Int) (a0_4 : Int) (a0_5 : Bool) (a0_6 : List (List D)) (a0_7 : Int) (a0_8 : ByteArray) (a0_9 : Int) (a0_10 : List (List D)) (a0_11 : List (List D)) (a0_12 : Int) (a0_13 : ByteArray) (a0_14 : Int) (a0_15 : List (List D)) (a0_16 : List (List D)) (K0 : List (List C) → List Out → Option β) : Int → ByteArray → Int → Int → Int → Bool → (List (List C)) → Int → ByteArray → Int → (List (List C)) → (List (List C)) → Int → ByteArray → Int → (List (List C)) → (List (List C)) → Option β := fun z0 z1 z2 z3 z4 z5 z6 z7 z8 z9 z10 z11 z12 z13 z14 z15 z16 => K0 [[.d (.int .i64 z0), .d (.str z1), .d (.int .i64 z2), .d (.int .i64 z3), .d (.int .i64 z4), .d (.bool z5), .own z6, .d (.int .i64 z7), .d (.str z8), .d (.int .i64 z9), .own z10, .own z11, .d (.int .i64 z12), .d (.str z13), .d (.int .i64 z14), .own z15, .own z16]] []
noncomputable def laws_toObj.e (k : Nat) : ZQ := { modes := [(.imm, 0)], rts := [174], al := false, run := fun {β} l K => match l with | [.agg [.int .i64 a0_0, .str a0_1, .int .i64 a0_2, .int .i64 a0_3, .int .i64 a0_4, .bool a0_5, .sl a0_6, .int .i64 a0_7, .str a0_8, .int .i64 a0_9, .sl a0_10, .sl a0_11, .int .i64 a0_12, .str a0_13, .int .i64 a0_14, .sl a0_15, .sl a0_16]] => laws_toObj.f k a0_0 a0_1 a0_2 a0_3 a0_4 a0_5 a0_6 a0_7 a0_8 a0_9 a0_10 a0_11 a0_12 a0_13 a0_14 a0_15 a0_16 (laws_toObj.kt a0_0 a0_1 a0_2 a0_3 a0_4 a0_5 a0_6 a0_7 a0_8 a0_9 a0_10 a0_11 a0_12 a0_13 a0_14 a0_15 a0_16 K) | _ => none }
noncomputable def laws_toObj.E (k : Nat) : Env := fun g => bif g == 78 then some (laws_toStringS.e k) else bif g == 183 then some (laws_toValue.e k) else none
noncomputable def laws_toObj.h : ZY := ⟨fun n => ⟨[], []⟩, fun _ => none, false, []⟩
theorem laws_toObj.f_eq {β : Type} (k : Nat) (a0_0 : Int) (a0_1 : ByteArray) (a0_2 : Int) (a0_3 : Int) (a0_4 : Int) (a0_5 : Bool) (a0_6 : List (List D)) (a0_7 : Int) (a0_8 : ByteArray) (a0_9 : Int) (a0_10 : List (List D)) (a0_11 : List (List D)) (a0_12 : Int) (a0_13 : ByteArray) (a0_14 : Int) (a0_15 : List (List D)) (a0_16 : List (List D)) (K0 : List (List C) → List Out → Option β) : ZJ Try.prog (laws_toObj.E k) laws_toObj.h k Try.f195 (laws_toObj.as a0_0 a0_1 a0_2 a0_3 a0_4 a0_5 a0_6 a0_7 a0_8 a0_9 a0_10 a0_11 a0_12 a0_13 a0_14 a0_15 a0_16) K0 = laws_toObj.g k a0_0 a0_1 a0_2 a0_3 a0_4 a0_5 a0_6 a0_7 a0_8 a0_9 a0_10 a0_11 a0_12 a0_13 a0_14 a0_15 a0_16 (laws_toObj.kt a0_0 a0_1 a0_2 a0_3 a0_4 a0_5 a0_6 a0_7 a0_8 a0_9 a0_10 a0_11 a0_12 a0_13 a0_14 a0_15 a0_16 K0) := by kernel_rfl
noncomputable def laws_toObj.dec (rs : List (List C)) (os : List Out) : Option (Int × ByteArray × Int × Int × Int × Bool × (List (List C)) × Int × ByteArray × Int × (List (List C)) × (List (List C)) × Int × ByteArray × Int × (List (List C)) × (List (List C))) := Zd rs fun c1 r2 => Zd c1 fun x3 l4 => cD x3 fun d5 => ZM .i64 d5 fun w0 => Zd l4 fun x6 l7 => cD x6 fun d8 => Zan d8 fun w1 => Zd l7 fun x9 l10 => cD x9 fun d11 => ZM .i64 d11 fun w2 => Zd l10 fun x12 l13 => cD x12 fun d14 => ZM .i64 d14 fun w3 => Zd l13 fun x15 l16 => cD x15 fun d17 => ZM .i64 d17 fun w4 => Zd l16 fun x18 l19 => cD x18 fun d20 => ZaF d20 fun w5 => Zd l19 fun x21 l22 => ZaU x21 fun w6 => Zd l22 fun x23 l24 => cD x23 fun d25 => ZM .i64 d25 fun w7 => Zd l24 fun x26 l27 => cD x26 fun d28 => Zan d28 fun w8 => Zd l27 fun x29 l30 => cD x29 fun d31 => ZM .i64 d31 fun w9 => Zd l30 fun x32 l33 => ZaU x32 fun w10 => Zd l33 fun x34 l35 => ZaU x34 fun w11 => Zd l35 fun x36 l37 => cD x36 fun d38 => ZM .i64 d38 fun w12 => Zd l37 fun x39 l40 => cD x39 fun d41 => Zan d41 fun w13 => Zd l40 fun x42 l43 => cD x42 fun d44 => ZM .i64 d44 fun w14 => Zd l43 fun x45 l46 => ZaU x45 fun w15 => Zd l46 fun x47 l48 => ZaU x47 fun w16 => Ze l48 <| Ze r2 <| Ze os (some (w0, w1, w2, w3, w4, w5, w6, w7, w8, w9, w10, w11, w12, w13, w14, w15, w16))
theorem laws_toObj.kt_dec (a0_0 : Int) (a0_1 : ByteArray) (a0_2 : Int) (a0_3 : Int) (a0_4 : Int) (a0_5 : Bool) (a0_6 : List (List D)) (a0_7 : Int) (a0_8 : ByteArray) (a0_9 : Int) (a0_10 : List (List D)) (a0_11 : List (List D)) (a0_12 : Int) (a0_13 : ByteArray) (a0_14 : Int) (a0_15 : List (List D)) (a0_16 : List (List D)) : laws_toObj.kt a0_0 a0_1 a0_2 a0_3 a0_4 a0_5 a0_6 a0_7 a0_8 a0_9 a0_10 a0_11 a0_12 a0_13 a0_14 a0_15 a0_16 laws_toObj.dec = (fun z0 z1 z2 z3 z4 z5 z6 z7 z8 z9 z10 z11 z12 z13 z14 z15 z16 => some (z0, z1, z2, z3, z4, z5, z6, z7, z8, z9, z10, z11, z12, z13, z14, z15, z16)) := by kernel_rfl
theorem laws_toObj.inj (a0_0 : Int) (a0_1 : ByteArray) (a0_2 : Int) (a0_3 : Int) (a0_4 : Int) (a0_5 : Bool) (a0_6 : List (List D)) (a0_7 : Int) (a0_8 : ByteArray) (a0_9 : Int) (a0_10 : List (List D)) (a0_11 : List (List D)) (a0_12 : Int) (a0_13 : ByteArray) (a0_14 : Int) (a0_15 : List (List D)) (a0_16 : List (List D)) {rs : List (List C)} {os : List Out} {z0 : Int} {z1 : ByteArray} {z2 : Int} {z3 : Int} {z4 : Int} {z5 : Bool} {z6 : List (List C)} {z7 : Int} {z8 : ByteArray} {z9 : Int} {z10 : List (List C)} {z11 : List (List C)} {z12 : Int} {z13 : ByteArray} {z14 : Int} {z15 : List (List C)} {z16 : List (List C)} (h : laws_toObj.dec rs os = some (z0, z1, z2, z3, z4, z5, z6, z7, z8, z9, z10, z11, z12, z13, z14, z15, z16)) (ho : Zo (laws_toObj.as a0_0 a0_1 a0_2 a0_3 a0_4 a0_5 a0_6 a0_7 a0_8 a0_9 a0_10 a0_11 a0_12 a0_13 a0_14 a0_15 a0_16) os) : rs = [[.d (.int .i64 z0), .d (.str z1), .d (.int .i64 z2), .d (.int .i64 z3), .d (.int .i64 z4), .d (.bool z5), .own z6, .d (.int .i64 z7), .d (.str z8), .d (.int .i64 z9), .own z10, .own z11, .d (.int .i64 z12), .d (.str z13), .d (.int .i64 z14), .own z15, .own z16]] ∧ os = [] := by
  unfold laws_toObj.dec at h
  obtain ⟨c1, r2, rfl, h1⟩ := Zb h
  obtain ⟨x3, l4, rfl, h2⟩ := Zb h1
  obtain ⟨d5, rfl, h3⟩ := Zt h2
  obtain ⟨w0, rfl, h4⟩ := ZA h3
  obtain ⟨x6, l7, rfl, h5⟩ := Zb h4
  obtain ⟨d8, rfl, h6⟩ := Zt h5
  obtain ⟨w1, rfl, h7⟩ := ZaL h6
  obtain ⟨x9, l10, rfl, h8⟩ := Zb h7
  obtain ⟨d11, rfl, h9⟩ := Zt h8
  obtain ⟨w2, rfl, h10⟩ := ZA h9
  obtain ⟨x12, l13, rfl, h11⟩ := Zb h10
  obtain ⟨d14, rfl, h12⟩ := Zt h11
  obtain ⟨w3, rfl, h13⟩ := ZA h12
  obtain ⟨x15, l16, rfl, h14⟩ := Zb h13
  obtain ⟨d17, rfl, h15⟩ := Zt h14
  obtain ⟨w4, rfl, h16⟩ := ZA h15
  obtain ⟨x18, l19, rfl, h17⟩ := Zb h16
  obtain ⟨d20, rfl, h18⟩ := Zt h17
  obtain ⟨w5, rfl, h19⟩ := Z0 h18
  obtain ⟨x21, l22, rfl, h20⟩ := Zb h19
  obtain ⟨w6, rfl, h21⟩ := ZN h20
  obtain ⟨x23, l24, rfl, h22⟩ := Zb h21
  obtain ⟨d25, rfl, h23⟩ := Zt h22
  obtain ⟨w7, rfl, h24⟩ := ZA h23
  obtain ⟨x26, l27, rfl, h25⟩ := Zb h24
  obtain ⟨d28, rfl, h26⟩ := Zt h25
  obtain ⟨w8, rfl, h27⟩ := ZaL h26
  obtain ⟨x29, l30, rfl, h28⟩ := Zb h27
  obtain ⟨d31, rfl, h29⟩ := Zt h28
  obtain ⟨w9, rfl, h30⟩ := ZA h29
  obtain ⟨x32, l33, rfl, h31⟩ := Zb h30
  obtain ⟨w10, rfl, h32⟩ := ZN h31
  obtain ⟨x34, l35, rfl, h33⟩ := Zb h32
  obtain ⟨w11, rfl, h34⟩ := ZN h33
  obtain ⟨x36, l37, rfl, h35⟩ := Zb h34
  obtain ⟨d38, rfl, h36⟩ := Zt h35
  obtain ⟨w12, rfl, h37⟩ := ZA h36
  obtain ⟨x39, l40, rfl, h38⟩ := Zb h37
  obtain ⟨d41, rfl, h39⟩ := Zt h38
  obtain ⟨w13, rfl, h40⟩ := ZaL h39
  obtain ⟨x42, l43, rfl, h41⟩ := Zb h40
  obtain ⟨d44, rfl, h42⟩ := Zt h41
  obtain ⟨w14, rfl, h43⟩ := ZA h42
  obtain ⟨x45, l46, rfl, h44⟩ := Zb h43
  obtain ⟨w15, rfl, h45⟩ := ZN h44
  obtain ⟨x47, l48, rfl, h46⟩ := Zb h45
  obtain ⟨w16, rfl, h47⟩ := ZN h46
  obtain ⟨rfl, h48⟩ := Zc h47
  obtain ⟨rfl, h49⟩ := Zc h48
  obtain ⟨rfl, h50⟩ := Zc h49
  simp only [Option.some.injEq, Prod.mk.injEq] at h50
  obtain ⟨rfl, rfl, rfl, rfl, rfl, rfl, rfl, rfl, rfl, rfl, rfl, rfl, rfl, rfl, rfl, rfl, rfl⟩ := h50
  exact ⟨rfl, rfl⟩
theorem laws_toObj.ok (k : Nat) : Zv Try.prog 195 (laws_toObj.e k) := by
  refine Zu mix tyok (fn := Try.f195) (c := Zl Try.f195) Try.func195 (by kernel_rfl) (h := laws_toObj.h) (k := k) (E := laws_toObj.E k) (Zk (laws_toStringS.ok k) (Zk (laws_toValue.ok k) Zz)) (by kernel_rfl) (by kernel_rfl) rfl (Zq Try.func195 (by kernel_rfl)) ?_
  intro β l K r hr
  simp only [laws_toObj.e] at hr
  split at hr
  case h_2 => cases hr
  unfold laws_toObj.f at hr
  split at hr
  case h_2 => cases hr
  rename_i hz
  exact ⟨_, _, hr, _, laws_toObj.dec, _, (laws_toObj.f_eq k _ _ _ _ _ _ _ _ _ _ _ _ _ _ _ _ _ laws_toObj.dec).trans (by rw [laws_toObj.kt_dec]; exact hz), fun rs os h ho => laws_toObj.inj _ _ _ _ _ _ _ _ _ _ _ _ _ _ _ _ _ h ho⟩
noncomputable def laws_toObjS.l0 {β : Type} (k : Nat) (v0_0 : List (List D)) (K : (List (List C)) → Option β) (L0 : (Int × (List (List C))) → Option β) (v : Int × (List (List C))) : Option β :=
  match v with
  | (v0_1, v0_2) => bif (decide ((v0_1 : Int) < (v0_0.length : Int))) then (ZX v0_0 v0_1 fun c71 => Zd c71 fun d72 r73 => ZM .i64 d72 fun x74 => Zd r73 fun d75 r76 => Zan d75 fun x77 => Zd r76 fun d78 r79 => ZM .i64 d78 fun x80 => Zd r79 fun d81 r82 => ZM .i64 d81 fun x83 => Zd r82 fun d84 r85 => ZM .i64 d84 fun x86 => Zd r85 fun d87 r88 => ZaF d87 fun x89 => Zd r88 fun d90 r91 => dSl d90 fun x92 => Zd r91 fun d93 r94 => ZM .i64 d93 fun x95 => Zd r94 fun d96 r97 => Zan d96 fun x98 => Zd r97 fun d99 r100 => ZM .i64 d99 fun x101 => Zd r100 fun d102 r103 => dSl d102 fun x104 => Zd r103 fun d105 r106 => dSl d105 fun x107 => Zd r106 fun d108 r109 => ZM .i64 d108 fun x110 => Zd r109 fun d111 r112 => Zan d111 fun x113 => Zd r112 fun d114 r115 => ZM .i64 d114 fun x116 => Zd r115 fun d117 r118 => dSl d117 fun x119 => Zd r118 fun d120 r121 => dSl d120 fun x122 => Ze r121 (laws_toObj.f k x74 x77 x80 x83 x86 x89 x92 x95 x98 x101 x104 x107 x110 x113 x116 x119 x122 (fun y123 y124 y125 y126 y127 y128 y129 y130 y131 y132 y133 y134 y135 y136 y137 y138 y139 => ZH ((0 : Int) ≤ v0_1 ∧ v0_1 < (v0_2.length : Int)) (ZH (Int.toNat v0_1 < v0_2.length) (L0 (IntKind.wrap .i64 (v0_1 + 1), v0_2.modify (Int.toNat v0_1) fun c => Z1 c 0 [.d (.int .i64 y123), .d (.str y124), .d (.int .i64 y125), .d (.int .i64 y126), .d (.int .i64 y127), .d (.bool y128), .own y129, .d (.int .i64 y130), .d (.str y131), .d (.int .i64 y132), .own y133, .own y134, .d (.int .i64 y135), .d (.str y136), .d (.int .i64 y137), .own y138, .own y139])))))) else (K v0_2)
noncomputable def laws_toObjS.g {β : Type} (k : Nat) (a0 : List (List D)) (K : (List (List C)) → Option β) : Option β :=
  ZH ((0 : Int) ≤ (a0.length : Int) ∧ (a0.length : Int) ≤ (Z6 : Int) ∧ (a0.length : Int) ≤ (a0.length : Int) ∧ (a0.length : Int) ≤ (a0.length : Int)) (Z4 (laws_toObjS.l0 k a0 K) k (0, List.replicate (Int.toNat (a0.length : Int)) ([.d (.int .i64 0), .d (.str (⟨#[]⟩ : ByteArray)), .d (.int .i64 0), .d (.int .i64 0), .d (.int .i64 0), .d (.bool false), .own ([] : List (List C)), .d (.int .i64 0), .d (.str (⟨#[]⟩ : ByteArray)), .d (.int .i64 0), .own ([] : List (List C)), .own ([] : List (List C)), .d (.int .i64 0), .d (.str (⟨#[]⟩ : ByteArray)), .d (.int .i64 0), .own ([] : List (List C)), .own ([] : List (List C))] : List C)))
noncomputable def laws_toObjS.t (k : Nat) (a0 : List (List D)) : Option ((List (List C))) := laws_toObjS.g k a0 (fun z0 => some z0)
noncomputable def laws_toObjS.f {β : Type} (k : Nat) (a0 : List (List D)) (K : (List (List C)) → Option β) : Option β :=
  match laws_toObjS.t k a0 with
  | some z0 => K z0
  | none => none
noncomputable def laws_toObjS.as (a0 : List (List D)) : List A := [.d (.sl a0)]
noncomputable def laws_toObjS.kt {β : Type} (a0 : List (List D)) (K0 : List (List C) → List Out → Option β) : (List (List C)) → Option β := fun z0 => K0 [[.own z0]] []
noncomputable def laws_toObjS.e (k : Nat) : ZQ := { modes := [(.imm, 0)], rts := [82], al := false, run := fun {β} l K => match l with | [.d (.sl a0)] => laws_toObjS.f k a0 (laws_toObjS.kt a0 K) | _ => none }
noncomputable def laws_toObjS.E (k : Nat) : Env := fun g => bif g == 195 then some (laws_toObj.e k) else none
noncomputable def laws_toObjS.h : ZY := ⟨fun n => bif n == 3 then ⟨[(0, .asis), (3, .asis), (4, .asis)], []⟩ else ⟨[], []⟩, fun _ => none, false, []⟩
noncomputable def laws_toObjS.s0 (v0_0 : List (List D)) (v : Int × (List (List C))) : St :=
  match v with
  | (v0_1, v0_2) => ⟨[.d false (.sl v0_0), .any, .any, .row 0, .d true (.int .i64 v0_1), .any, .any, .any, .any, .any, .any, .any, .any, .any, .any, .any, .any, .any, .any, .any, .any, .any, .any], [.row none true 82 v0_2]⟩
noncomputable def laws_toObjS.b0 {β : Type} (k : Nat) : St → (Ex → St → Option β) → Option β := fun s K => den Try.prog (laws_toObjS.E k) laws_toObjS.h.H laws_toObjS.h.J k (Zad [1, 1, 0, 1, 0, 0] (Zl Try.f125)) s K
noncomputable def laws_toObjS.c0 {β : Type} (k : Nat) (a0 : List (List D)) (K0 : List (List C) → List Out → Option β) : Ex → St → Option β := Zae Try.prog (laws_toObjS.E k) laws_toObjS.h k [1, 1, 0, 1, 0] (Zl Try.f125) (Zak Try.prog Try.f125 laws_toObjS.h (laws_toObjS.as a0) K0)
theorem laws_toObjS.l0_eq {β : Type} (k : Nat) (a0 : List (List D)) (K0 : List (List C) → List Out → Option β) (v0_0 : List (List D)) : ∀ (kk : Nat) (v : Int × (List (List C))), Zx (laws_toObjS.b0 k) (laws_toObjS.h.H 3) kk (laws_toObjS.s0 v0_0 v) (laws_toObjS.c0 k a0 K0) = Z4 (laws_toObjS.l0 k v0_0 (laws_toObjS.kt a0 K0)) kk v :=
  Z9 (laws_toObjS.s0 v0_0) _ (fun L0 v => by obtain ⟨v0_1, v0_2⟩ := v; kernel_rfl)
noncomputable def laws_toObjS.m {β : Type} (k : Nat) (a0 : List (List D)) (K0 : List (List C) → List Out → Option β) (F : ((List (List D)) → (Int × (List (List C))) → Option β)) : Option β :=
  ZH ((0 : Int) ≤ (a0.length : Int) ∧ (a0.length : Int) ≤ (Z6 : Int) ∧ (a0.length : Int) ≤ (a0.length : Int) ∧ (a0.length : Int) ≤ (a0.length : Int)) ((F) a0 (0, List.replicate (Int.toNat (a0.length : Int)) ([.d (.int .i64 0), .d (.str (⟨#[]⟩ : ByteArray)), .d (.int .i64 0), .d (.int .i64 0), .d (.int .i64 0), .d (.bool false), .own ([] : List (List C)), .d (.int .i64 0), .d (.str (⟨#[]⟩ : ByteArray)), .d (.int .i64 0), .own ([] : List (List C)), .own ([] : List (List C)), .d (.int .i64 0), .d (.str (⟨#[]⟩ : ByteArray)), .d (.int .i64 0), .own ([] : List (List C)), .own ([] : List (List C))] : List C)))
theorem laws_toObjS.f_eq {β : Type} (k : Nat) (a0 : List (List D)) (K0 : List (List C) → List Out → Option β) : ZJ Try.prog (laws_toObjS.E k) laws_toObjS.h k Try.f125 (laws_toObjS.as a0) K0 = laws_toObjS.g k a0 (laws_toObjS.kt a0 K0) := Eq.trans (b := (laws_toObjS.m k a0 K0) (fun (v0_0 : List (List D)) (v : Int × (List (List C))) => Zx (laws_toObjS.b0 k) (laws_toObjS.h.H 3) k (laws_toObjS.s0 v0_0 v) (laws_toObjS.c0 k a0 K0))) (by kernel_rfl) (Eq.trans (congrArg (laws_toObjS.m k a0 K0) (funext fun v0_0 => funext fun v => laws_toObjS.l0_eq k a0 K0 v0_0 k v)) (by kernel_rfl))
noncomputable def laws_toObjS.dec (rs : List (List C)) (os : List Out) : Option ((List (List C))) := Zd rs fun c1 r2 => Zd c1 fun x3 l4 => ZaU x3 fun w0 => Ze l4 <| Ze r2 <| Ze os (some w0)
theorem laws_toObjS.kt_dec (a0 : List (List D)) : laws_toObjS.kt a0 laws_toObjS.dec = (fun z0 => some z0) := by kernel_rfl
theorem laws_toObjS.inj (a0 : List (List D)) {rs : List (List C)} {os : List Out} {z0 : List (List C)} (h : laws_toObjS.dec rs os = some z0) (ho : Zo (laws_toObjS.as a0) os) : rs = [[.own z0]] ∧ os = [] := by
  unfold laws_toObjS.dec at h
  obtain ⟨c1, r2, rfl, h1⟩ := Zb h
  obtain ⟨x3, l4, rfl, h2⟩ := Zb h1
  obtain ⟨w0, rfl, h3⟩ := ZN h2
  obtain ⟨rfl, h4⟩ := Zc h3
  obtain ⟨rfl, h5⟩ := Zc h4
  obtain ⟨rfl, h6⟩ := Zc h5
  obtain rfl := Option.some.inj h6
  exact ⟨rfl, rfl⟩
theorem laws_toObjS.ok (k : Nat) : Zv Try.prog 125 (laws_toObjS.e k) := by
  refine Zu mix tyok (fn := Try.f125) (c := Zl Try.f125) Try.func125 (by kernel_rfl) (h := laws_toObjS.h) (k := k) (E := laws_toObjS.E k) (Zk (laws_toObj.ok k) Zz) (by kernel_rfl) (by kernel_rfl) rfl (Zq Try.func125 (by kernel_rfl)) ?_
  intro β l K r hr
  simp only [laws_toObjS.e] at hr
  split at hr
  case h_2 => cases hr
  unfold laws_toObjS.f at hr
  split at hr
  case h_2 => cases hr
  rename_i hz
  exact ⟨_, _, hr, _, laws_toObjS.dec, _, (laws_toObjS.f_eq k _ laws_toObjS.dec).trans (by rw [laws_toObjS.kt_dec]; exact hz), fun rs os h ho => laws_toObjS.inj _ h ho⟩
noncomputable def laws_toMirror.g {β : Type} (k : Nat) (a0_0 : Int) (a0_1 : List (List D)) (K : Int → (List (List C)) → Option β) : Option β :=
  laws_toObjS.f k a0_1 (fun y140 => K a0_0 y140)
noncomputable def laws_toMirror.t (k : Nat) (a0_0 : Int) (a0_1 : List (List D)) : Option (Int × (List (List C))) := laws_toMirror.g k a0_0 a0_1 (fun z0 z1 => some (z0, z1))
noncomputable def laws_toMirror.f {β : Type} (k : Nat) (a0_0 : Int) (a0_1 : List (List D)) (K : Int → (List (List C)) → Option β) : Option β :=
  match laws_toMirror.t k a0_0 a0_1 with
  | some (z0, z1) => K z0 z1
  | none => none
noncomputable def laws_toMirror.as (a0_0 : Int) (a0_1 : List (List D)) : List A := [.agg [.int .i64 a0_0, .sl a0_1]]
noncomputable def laws_toMirror.kt {β : Type} (a0_0 : Int) (a0_1 : List (List D)) (K0 : List (List C) → List Out → Option β) : Int → (List (List C)) → Option β := fun z0 z1 => K0 [[.d (.int .i64 z0), .own z1]] []
noncomputable def laws_toMirror.e (k : Nat) : ZQ := { modes := [(.imm, 0)], rts := [84], al := false, run := fun {β} l K => match l with | [.agg [.int .i64 a0_0, .sl a0_1]] => laws_toMirror.f k a0_0 a0_1 (laws_toMirror.kt a0_0 a0_1 K) | _ => none }
noncomputable def laws_toMirror.E (k : Nat) : Env := fun g => bif g == 125 then some (laws_toObjS.e k) else none
noncomputable def laws_toMirror.h : ZY := ⟨fun n => ⟨[], []⟩, fun _ => none, false, []⟩
theorem laws_toMirror.f_eq {β : Type} (k : Nat) (a0_0 : Int) (a0_1 : List (List D)) (K0 : List (List C) → List Out → Option β) : ZJ Try.prog (laws_toMirror.E k) laws_toMirror.h k Try.f46 (laws_toMirror.as a0_0 a0_1) K0 = laws_toMirror.g k a0_0 a0_1 (laws_toMirror.kt a0_0 a0_1 K0) := by kernel_rfl
noncomputable def laws_toMirror.dec (rs : List (List C)) (os : List Out) : Option (Int × (List (List C))) := Zd rs fun c1 r2 => Zd c1 fun x3 l4 => cD x3 fun d5 => ZM .i64 d5 fun w0 => Zd l4 fun x6 l7 => ZaU x6 fun w1 => Ze l7 <| Ze r2 <| Ze os (some (w0, w1))
theorem laws_toMirror.kt_dec (a0_0 : Int) (a0_1 : List (List D)) : laws_toMirror.kt a0_0 a0_1 laws_toMirror.dec = (fun z0 z1 => some (z0, z1)) := by kernel_rfl
theorem laws_toMirror.inj (a0_0 : Int) (a0_1 : List (List D)) {rs : List (List C)} {os : List Out} {z0 : Int} {z1 : List (List C)} (h : laws_toMirror.dec rs os = some (z0, z1)) (ho : Zo (laws_toMirror.as a0_0 a0_1) os) : rs = [[.d (.int .i64 z0), .own z1]] ∧ os = [] := by
  unfold laws_toMirror.dec at h
  obtain ⟨c1, r2, rfl, h1⟩ := Zb h
  obtain ⟨x3, l4, rfl, h2⟩ := Zb h1
  obtain ⟨d5, rfl, h3⟩ := Zt h2
  obtain ⟨w0, rfl, h4⟩ := ZA h3
  obtain ⟨x6, l7, rfl, h5⟩ := Zb h4
  obtain ⟨w1, rfl, h6⟩ := ZN h5
  obtain ⟨rfl, h7⟩ := Zc h6
  obtain ⟨rfl, h8⟩ := Zc h7
  obtain ⟨rfl, h9⟩ := Zc h8
  simp only [Option.some.injEq, Prod.mk.injEq] at h9
  obtain ⟨rfl, rfl⟩ := h9
  exact ⟨rfl, rfl⟩
theorem laws_toMirror.ok (k : Nat) : Zv Try.prog 46 (laws_toMirror.e k) := by
  refine Zu mix tyok (fn := Try.f46) (c := Zl Try.f46) Try.func46 (by kernel_rfl) (h := laws_toMirror.h) (k := k) (E := laws_toMirror.E k) (Zk (laws_toObjS.ok k) Zz) (by kernel_rfl) (by kernel_rfl) rfl (Zq Try.func46 (by kernel_rfl)) ?_
  intro β l K r hr
  simp only [laws_toMirror.e] at hr
  split at hr
  case h_2 => cases hr
  unfold laws_toMirror.f at hr
  split at hr
  case h_2 => cases hr
  rename_i hz
  exact ⟨_, _, hr, _, laws_toMirror.dec, _, (laws_toMirror.f_eq k _ _ laws_toMirror.dec).trans (by rw [laws_toMirror.kt_dec]; exact hz), fun rs os h ho => laws_toMirror.inj _ _ h ho⟩
noncomputable def spec_l1In.g {β : Type} (k : Nat) (a0 : Int) (a1 : Int) (a2 : Int) (K : Bool → Option β) : Option β :=
  bif (decide ((a0 : Int) ≥ a1)) then (K (decide ((a0 : Int) ≤ a2))) else (K false)
noncomputable def spec_l1In.t (k : Nat) (a0 : Int) (a1 : Int) (a2 : Int) : Option (Bool) := spec_l1In.g k a0 a1 a2 (fun z0 => some z0)
noncomputable def spec_l1In.f {β : Type} (k : Nat) (a0 : Int) (a1 : Int) (a2 : Int) (K : Bool → Option β) : Option β :=
  match spec_l1In.t k a0 a1 a2 with
  | some z0 => K z0
  | none => none
noncomputable def spec_l1In.as (a0 : Int) (a1 : Int) (a2 : Int) : List A := [.d (.int .i64 a0), .d (.int .i64 a1), .d (.int .i64 a2)]
noncomputable def spec_l1In.kt {β : Type} (a0 : Int) (a1 : Int) (a2 : Int) (K0 : List (List C) → List Out → Option β) : Bool → Option β := fun z0 => K0 [[.d (.bool z0)]] []
noncomputable def spec_l1In.e (k : Nat) : ZQ := { modes := [(.imm, 0), (.imm, 0), (.imm, 0)], rts := [4], al := false, run := fun {β} l K => match l with | [.d (.int .i64 a0), .d (.int .i64 a1), .d (.int .i64 a2)] => spec_l1In.f k a0 a1 a2 (spec_l1In.kt a0 a1 a2 K) | _ => none }
noncomputable def spec_l1In.E (k : Nat) : Env := fun g => none
noncomputable def spec_l1In.h : ZY := ⟨fun n => ⟨[], []⟩, fun _ => none, false, []⟩
theorem spec_l1In.f_eq {β : Type} (k : Nat) (a0 : Int) (a1 : Int) (a2 : Int) (K0 : List (List C) → List Out → Option β) : ZJ Try.prog (spec_l1In.E k) spec_l1In.h k Try.f123 (spec_l1In.as a0 a1 a2) K0 = spec_l1In.g k a0 a1 a2 (spec_l1In.kt a0 a1 a2 K0) := by kernel_rfl
noncomputable def spec_l1In.dec (rs : List (List C)) (os : List Out) : Option (Bool) := Zd rs fun c1 r2 => Zd c1 fun x3 l4 => cD x3 fun d5 => ZaF d5 fun w0 => Ze l4 <| Ze r2 <| Ze os (some w0)
theorem spec_l1In.kt_dec (a0 : Int) (a1 : Int) (a2 : Int) : spec_l1In.kt a0 a1 a2 spec_l1In.dec = (fun z0 => some z0) := by kernel_rfl
theorem spec_l1In.inj (a0 : Int) (a1 : Int) (a2 : Int) {rs : List (List C)} {os : List Out} {z0 : Bool} (h : spec_l1In.dec rs os = some z0) (ho : Zo (spec_l1In.as a0 a1 a2) os) : rs = [[.d (.bool z0)]] ∧ os = [] := by
  unfold spec_l1In.dec at h
  obtain ⟨c1, r2, rfl, h1⟩ := Zb h
  obtain ⟨x3, l4, rfl, h2⟩ := Zb h1
  obtain ⟨d5, rfl, h3⟩ := Zt h2
  obtain ⟨w0, rfl, h4⟩ := Z0 h3
  obtain ⟨rfl, h5⟩ := Zc h4
  obtain ⟨rfl, h6⟩ := Zc h5
  obtain ⟨rfl, h7⟩ := Zc h6
  obtain rfl := Option.some.inj h7
  exact ⟨rfl, rfl⟩
theorem spec_l1In.ok (k : Nat) : Zv Try.prog 123 (spec_l1In.e k) := by
  refine Zu mix tyok (fn := Try.f123) (c := Zl Try.f123) Try.func123 (by kernel_rfl) (h := spec_l1In.h) (k := k) (E := spec_l1In.E k) Zz (by kernel_rfl) (by kernel_rfl) rfl (Zq Try.func123 (by kernel_rfl)) ?_
  intro β l K r hr
  simp only [spec_l1In.e] at hr
  split at hr
  case h_2 => cases hr
  unfold spec_l1In.f at hr
  split at hr
  case h_2 => cases hr
  rename_i hz
  exact ⟨_, _, hr, _, spec_l1In.dec, _, (spec_l1In.f_eq k _ _ _ spec_l1In.dec).trans (by rw [spec_l1In.kt_dec]; exact hz), fun rs os h ho => spec_l1In.inj _ _ _ h ho⟩
noncomputable def spec_NameOk.l0 {β : Type} (k : Nat) (v0_0 : ByteArray) (K : Bool → Option β) (L0 : Int → Option β) (v : Int) : Option β :=
  match v with
  | v0_1 => bif (decide ((v0_1 : Int) < (v0_0.size : Int))) then (atStr v0_0 v0_1 fun b9 => spec_l1In.f k (IntKind.wrap .i64 b9) 97 122 (fun y10 => bif (!y10) then (atStr v0_0 v0_1 fun b11 => spec_l1In.f k (IntKind.wrap .i64 b11) 48 57 (fun y12 => bif (!y12) then (atStr v0_0 v0_1 fun b13 => bif ((b13 : Int) != 45) then (K false) else (L0 (IntKind.wrap .i64 (v0_1 + 1)))) else (L0 (IntKind.wrap .i64 (v0_1 + 1))))) else (L0 (IntKind.wrap .i64 (v0_1 + 1))))) else (spec_l1In.f k (v0_0.size : Int) 1 20 (fun y14 => bif y14 then (atStr v0_0 0 fun b15 => bif ((b15 : Int) != 45) then (atStr v0_0 (IntKind.wrap .i64 ((v0_0.size : Int) - 1)) fun b16 => K ((b16 : Int) != 45)) else (K false)) else (K false)))
noncomputable def spec_NameOk.g {β : Type} (k : Nat) (a0 : ByteArray) (K : Bool → Option β) : Option β :=
  Z4 (spec_NameOk.l0 k a0 K) k (0)
noncomputable def spec_NameOk.t (k : Nat) (a0 : ByteArray) : Option (Bool) := spec_NameOk.g k a0 (fun z0 => some z0)
noncomputable def spec_NameOk.f {β : Type} (k : Nat) (a0 : ByteArray) (K : Bool → Option β) : Option β :=
  match spec_NameOk.t k a0 with
  | some z0 => K z0
  | none => none
noncomputable def spec_NameOk.as (a0 : ByteArray) : List A := [.d (.str a0)]
noncomputable def spec_NameOk.kt {β : Type} (a0 : ByteArray) (K0 : List (List C) → List Out → Option β) : Bool → Option β := fun z0 => K0 [[.d (.bool z0)]] []
noncomputable def spec_NameOk.e (k : Nat) : ZQ := { modes := [(.imm, 0)], rts := [4], al := false, run := fun {β} l K => match l with | [.d (.str a0)] => spec_NameOk.f k a0 (spec_NameOk.kt a0 K) | _ => none }
noncomputable def spec_NameOk.E (k : Nat) : Env := fun g => bif g == 123 then some (spec_l1In.e k) else none
noncomputable def spec_NameOk.h : ZY := ⟨fun n => bif n == 2 then ⟨[(0, .asis), (3, .asis)], []⟩ else ⟨[], []⟩, fun _ => none, false, []⟩
noncomputable def spec_NameOk.s0 (v0_0 : ByteArray) (v : Int) : St :=
  match v with
  | v0_1 => ⟨[.d false (.str v0_0), .any, .any, .d true (.int .i64 v0_1), .any, .any, .any, .any, .any, .any, .any, .any, .any, .any, .any, .any, .any, .any, .any, .any, .any, .any, .any, .any, .any, .any, .any, .any, .any, .any, .any, .any, .any, .any, .any, .any, .any, .any, .any, .any, .any, .any, .any, .any, .any, .any], []⟩
noncomputable def spec_NameOk.b0 {β : Type} (k : Nat) : St → (Ex → St → Option β) → Option β := fun s K => den Try.prog (spec_NameOk.E k) spec_NameOk.h.H spec_NameOk.h.J k (Zad [1, 0, 1, 0, 0] (Zl Try.f94)) s K
noncomputable def spec_NameOk.c0 {β : Type} (k : Nat) (a0 : ByteArray) (K0 : List (List C) → List Out → Option β) : Ex → St → Option β := Zae Try.prog (spec_NameOk.E k) spec_NameOk.h k [1, 0, 1, 0] (Zl Try.f94) (Zak Try.prog Try.f94 spec_NameOk.h (spec_NameOk.as a0) K0)
theorem spec_NameOk.l0_eq {β : Type} (k : Nat) (a0 : ByteArray) (K0 : List (List C) → List Out → Option β) (v0_0 : ByteArray) : ∀ (kk : Nat) (v : Int), Zx (spec_NameOk.b0 k) (spec_NameOk.h.H 2) kk (spec_NameOk.s0 v0_0 v) (spec_NameOk.c0 k a0 K0) = Z4 (spec_NameOk.l0 k v0_0 (spec_NameOk.kt a0 K0)) kk v :=
  Z9 (spec_NameOk.s0 v0_0) _ (fun L0 v => by kernel_rfl)
noncomputable def spec_NameOk.m {β : Type} (k : Nat) (a0 : ByteArray) (K0 : List (List C) → List Out → Option β) (F : (ByteArray → Int → Option β)) : Option β :=
  (F) a0 (0)
theorem spec_NameOk.f_eq {β : Type} (k : Nat) (a0 : ByteArray) (K0 : List (List C) → List Out → Option β) : ZJ Try.prog (spec_NameOk.E k) spec_NameOk.h k Try.f94 (spec_NameOk.as a0) K0 = spec_NameOk.g k a0 (spec_NameOk.kt a0 K0) := Eq.trans (b := (spec_NameOk.m k a0 K0) (fun (v0_0 : ByteArray) (v : Int) => Zx (spec_NameOk.b0 k) (spec_NameOk.h.H 2) k (spec_NameOk.s0 v0_0 v) (spec_NameOk.c0 k a0 K0))) (by kernel_rfl) (Eq.trans (congrArg (spec_NameOk.m k a0 K0) (funext fun v0_0 => funext fun v => spec_NameOk.l0_eq k a0 K0 v0_0 k v)) (by kernel_rfl))
noncomputable def spec_NameOk.dec (rs : List (List C)) (os : List Out) : Option (Bool) := Zd rs fun c1 r2 => Zd c1 fun x3 l4 => cD x3 fun d5 => ZaF d5 fun w0 => Ze l4 <| Ze r2 <| Ze os (some w0)
theorem spec_NameOk.kt_dec (a0 : ByteArray) : spec_NameOk.kt a0 spec_NameOk.dec = (fun z0 => some z0) := by kernel_rfl
theorem spec_NameOk.inj (a0 : ByteArray) {rs : List (List C)} {os : List Out} {z0 : Bool} (h : spec_NameOk.dec rs os = some z0) (ho : Zo (spec_NameOk.as a0) os) : rs = [[.d (.bool z0)]] ∧ os = [] := by
  unfold spec_NameOk.dec at h
  obtain ⟨c1, r2, rfl, h1⟩ := Zb h
  obtain ⟨x3, l4, rfl, h2⟩ := Zb h1
  obtain ⟨d5, rfl, h3⟩ := Zt h2
  obtain ⟨w0, rfl, h4⟩ := Z0 h3
  obtain ⟨rfl, h5⟩ := Zc h4
  obtain ⟨rfl, h6⟩ := Zc h5
  obtain ⟨rfl, h7⟩ := Zc h6
  obtain rfl := Option.some.inj h7
  exact ⟨rfl, rfl⟩
theorem spec_NameOk.ok (k : Nat) : Zv Try.prog 94 (spec_NameOk.e k) := by
  refine Zu mix tyok (fn := Try.f94) (c := Zl Try.f94) Try.func94 (by kernel_rfl) (h := spec_NameOk.h) (k := k) (E := spec_NameOk.E k) (Zk (spec_l1In.ok k) Zz) (by kernel_rfl) (by kernel_rfl) rfl (Zq Try.func94 (by kernel_rfl)) ?_
  intro β l K r hr
  simp only [spec_NameOk.e] at hr
  split at hr
  case h_2 => cases hr
  unfold spec_NameOk.f at hr
  split at hr
  case h_2 => cases hr
  rename_i hz
  exact ⟨_, _, hr, _, spec_NameOk.dec, _, (spec_NameOk.f_eq k _ spec_NameOk.dec).trans (by rw [spec_NameOk.kt_dec]; exact hz), fun rs os h ho => spec_NameOk.inj _ h ho⟩
noncomputable def spec_l7Waits.l0 {β : Type} (k : Nat) (v0_0 : List (List D)) (K : Bool → Option β) (L0 : Int → Option β) (v : Int) : Option β :=
  match v with
  | v0_1 => bif (decide ((v0_1 : Int) < (v0_0.length : Int))) then (ZX v0_0 v0_1 fun c14 => Zd c14 fun d15 r16 => Zan d15 fun x17 => Ze r16 (spec_NameOk.f k x17 (fun y18 => bif (!y18) then (K false) else (bif (decide ((v0_1 : Int) > 0)) then (ZX v0_0 (IntKind.wrap .i64 (v0_1 - 1)) fun c19 => Zd c19 fun d20 r21 => Zan d20 fun x22 => Ze r21 (ZX v0_0 v0_1 fun c23 => Zd c23 fun d24 r25 => Zan d24 fun x26 => Ze r25 (bif (!(strLt x22 x26)) then (K false) else (L0 (IntKind.wrap .i64 (v0_1 + 1)))))) else (L0 (IntKind.wrap .i64 (v0_1 + 1))))))) else (K (decide (((v0_0.length : Int) : Int) ≤ 4)))
noncomputable def spec_l7Waits.g {β : Type} (k : Nat) (a0 : List (List D)) (K : Bool → Option β) : Option β :=
  Z4 (spec_l7Waits.l0 k a0 K) k (0)
noncomputable def spec_l7Waits.t (k : Nat) (a0 : List (List D)) : Option (Bool) := spec_l7Waits.g k a0 (fun z0 => some z0)
noncomputable def spec_l7Waits.f {β : Type} (k : Nat) (a0 : List (List D)) (K : Bool → Option β) : Option β :=
  match spec_l7Waits.t k a0 with
  | some z0 => K z0
  | none => none
noncomputable def spec_l7Waits.as (a0 : List (List D)) : List A := [.d (.sl a0)]
noncomputable def spec_l7Waits.kt {β : Type} (a0 : List (List D)) (K0 : List (List C) → List Out → Option β) : Bool → Option β := fun z0 => K0 [[.d (.bool z0)]] []
noncomputable def spec_l7Waits.e (k : Nat) : ZQ := { modes := [(.imm, 0)], rts := [4], al := false, run := fun {β} l K => match l with | [.d (.sl a0)] => spec_l7Waits.f k a0 (spec_l7Waits.kt a0 K) | _ => none }
noncomputable def spec_l7Waits.E (k : Nat) : Env := fun g => bif g == 94 then some (spec_NameOk.e k) else none
noncomputable def spec_l7Waits.h : ZY := ⟨fun n => bif n == 2 then ⟨[(0, .asis), (3, .asis)], []⟩ else ⟨[], []⟩, fun _ => none, false, []⟩
noncomputable def spec_l7Waits.s0 (v0_0 : List (List D)) (v : Int) : St :=
  match v with
  | v0_1 => ⟨[.d false (.sl v0_0), .any, .any, .d true (.int .i64 v0_1), .any, .any, .any, .any, .any, .any, .any, .any, .any, .any, .any, .any, .any, .any, .any, .any, .any, .any, .any, .any, .any, .any, .any, .any, .any, .any, .any, .any, .any, .any, .any], []⟩
noncomputable def spec_l7Waits.b0 {β : Type} (k : Nat) : St → (Ex → St → Option β) → Option β := fun s K => den Try.prog (spec_l7Waits.E k) spec_l7Waits.h.H spec_l7Waits.h.J k (Zad [1, 0, 1, 0, 0] (Zl Try.f227)) s K
noncomputable def spec_l7Waits.c0 {β : Type} (k : Nat) (a0 : List (List D)) (K0 : List (List C) → List Out → Option β) : Ex → St → Option β := Zae Try.prog (spec_l7Waits.E k) spec_l7Waits.h k [1, 0, 1, 0] (Zl Try.f227) (Zak Try.prog Try.f227 spec_l7Waits.h (spec_l7Waits.as a0) K0)
theorem spec_l7Waits.l0_eq {β : Type} (k : Nat) (a0 : List (List D)) (K0 : List (List C) → List Out → Option β) (v0_0 : List (List D)) : ∀ (kk : Nat) (v : Int), Zx (spec_l7Waits.b0 k) (spec_l7Waits.h.H 2) kk (spec_l7Waits.s0 v0_0 v) (spec_l7Waits.c0 k a0 K0) = Z4 (spec_l7Waits.l0 k v0_0 (spec_l7Waits.kt a0 K0)) kk v :=
  Z9 (spec_l7Waits.s0 v0_0) _ (fun L0 v => by kernel_rfl)
noncomputable def spec_l7Waits.m {β : Type} (k : Nat) (a0 : List (List D)) (K0 : List (List C) → List Out → Option β) (F : ((List (List D)) → Int → Option β)) : Option β :=
  (F) a0 (0)
theorem spec_l7Waits.f_eq {β : Type} (k : Nat) (a0 : List (List D)) (K0 : List (List C) → List Out → Option β) : ZJ Try.prog (spec_l7Waits.E k) spec_l7Waits.h k Try.f227 (spec_l7Waits.as a0) K0 = spec_l7Waits.g k a0 (spec_l7Waits.kt a0 K0) := Eq.trans (b := (spec_l7Waits.m k a0 K0) (fun (v0_0 : List (List D)) (v : Int) => Zx (spec_l7Waits.b0 k) (spec_l7Waits.h.H 2) k (spec_l7Waits.s0 v0_0 v) (spec_l7Waits.c0 k a0 K0))) (by kernel_rfl) (Eq.trans (congrArg (spec_l7Waits.m k a0 K0) (funext fun v0_0 => funext fun v => spec_l7Waits.l0_eq k a0 K0 v0_0 k v)) (by kernel_rfl))
noncomputable def spec_l7Waits.dec (rs : List (List C)) (os : List Out) : Option (Bool) := Zd rs fun c1 r2 => Zd c1 fun x3 l4 => cD x3 fun d5 => ZaF d5 fun w0 => Ze l4 <| Ze r2 <| Ze os (some w0)
theorem spec_l7Waits.kt_dec (a0 : List (List D)) : spec_l7Waits.kt a0 spec_l7Waits.dec = (fun z0 => some z0) := by kernel_rfl
theorem spec_l7Waits.inj (a0 : List (List D)) {rs : List (List C)} {os : List Out} {z0 : Bool} (h : spec_l7Waits.dec rs os = some z0) (ho : Zo (spec_l7Waits.as a0) os) : rs = [[.d (.bool z0)]] ∧ os = [] := by
  unfold spec_l7Waits.dec at h
  obtain ⟨c1, r2, rfl, h1⟩ := Zb h
  obtain ⟨x3, l4, rfl, h2⟩ := Zb h1
  obtain ⟨d5, rfl, h3⟩ := Zt h2
  obtain ⟨w0, rfl, h4⟩ := Z0 h3
  obtain ⟨rfl, h5⟩ := Zc h4
  obtain ⟨rfl, h6⟩ := Zc h5
  obtain ⟨rfl, h7⟩ := Zc h6
  obtain rfl := Option.some.inj h7
  exact ⟨rfl, rfl⟩
theorem spec_l7Waits.ok (k : Nat) : Zv Try.prog 227 (spec_l7Waits.e k) := by
  refine Zu mix tyok (fn := Try.f227) (c := Zl Try.f227) Try.func227 (by kernel_rfl) (h := spec_l7Waits.h) (k := k) (E := spec_l7Waits.E k) (Zk (spec_NameOk.ok k) Zz) (by kernel_rfl) (by kernel_rfl) rfl (Zq Try.func227 (by kernel_rfl)) ?_
  intro β l K r hr
  simp only [spec_l7Waits.e] at hr
  split at hr
  case h_2 => cases hr
  unfold spec_l7Waits.f at hr
  split at hr
  case h_2 => cases hr
  rename_i hz
  exact ⟨_, _, hr, _, spec_l7Waits.dec, _, (spec_l7Waits.f_eq k _ spec_l7Waits.dec).trans (by rw [spec_l7Waits.kt_dec]; exact hz), fun rs os h ho => spec_l7Waits.inj _ h ho⟩
noncomputable def spec_l4Text.l0 {β : Type} (k : Nat) (v0_0 : ByteArray) (K : Bool → Option β) (L0 : Int → Option β) (v : Int) : Option β :=
  match v with
  | v0_1 => bif (decide ((v0_1 : Int) < (v0_0.size : Int))) then (atStr v0_0 v0_1 fun b3 => spec_l1In.f k (IntKind.wrap .i64 b3) 32 126 (fun y4 => bif (!y4) then (K false) else (L0 (IntKind.wrap .i64 (v0_1 + 1))))) else (K (decide (((v0_0.size : Int) : Int) ≤ 100)))
noncomputable def spec_l4Text.g {β : Type} (k : Nat) (a0 : ByteArray) (K : Bool → Option β) : Option β :=
  Z4 (spec_l4Text.l0 k a0 K) k (0)
noncomputable def spec_l4Text.t (k : Nat) (a0 : ByteArray) : Option (Bool) := spec_l4Text.g k a0 (fun z0 => some z0)
noncomputable def spec_l4Text.f {β : Type} (k : Nat) (a0 : ByteArray) (K : Bool → Option β) : Option β :=
  match spec_l4Text.t k a0 with
  | some z0 => K z0
  | none => none
noncomputable def spec_l4Text.as (a0 : ByteArray) : List A := [.d (.str a0)]
noncomputable def spec_l4Text.kt {β : Type} (a0 : ByteArray) (K0 : List (List C) → List Out → Option β) : Bool → Option β := fun z0 => K0 [[.d (.bool z0)]] []
noncomputable def spec_l4Text.e (k : Nat) : ZQ := { modes := [(.imm, 0)], rts := [4], al := false, run := fun {β} l K => match l with | [.d (.str a0)] => spec_l4Text.f k a0 (spec_l4Text.kt a0 K) | _ => none }
noncomputable def spec_l4Text.E (k : Nat) : Env := fun g => bif g == 123 then some (spec_l1In.e k) else none
noncomputable def spec_l4Text.h : ZY := ⟨fun n => bif n == 2 then ⟨[(0, .asis), (3, .asis)], []⟩ else ⟨[], []⟩, fun _ => none, false, []⟩
noncomputable def spec_l4Text.s0 (v0_0 : ByteArray) (v : Int) : St :=
  match v with
  | v0_1 => ⟨[.d false (.str v0_0), .any, .any, .d true (.int .i64 v0_1), .any, .any, .any, .any, .any, .any, .any, .any, .any, .any, .any, .any, .any, .any, .any], []⟩
noncomputable def spec_l4Text.b0 {β : Type} (k : Nat) : St → (Ex → St → Option β) → Option β := fun s K => den Try.prog (spec_l4Text.E k) spec_l4Text.h.H spec_l4Text.h.J k (Zad [1, 0, 1, 0, 0] (Zl Try.f247)) s K
noncomputable def spec_l4Text.c0 {β : Type} (k : Nat) (a0 : ByteArray) (K0 : List (List C) → List Out → Option β) : Ex → St → Option β := Zae Try.prog (spec_l4Text.E k) spec_l4Text.h k [1, 0, 1, 0] (Zl Try.f247) (Zak Try.prog Try.f247 spec_l4Text.h (spec_l4Text.as a0) K0)
theorem spec_l4Text.l0_eq {β : Type} (k : Nat) (a0 : ByteArray) (K0 : List (List C) → List Out → Option β) (v0_0 : ByteArray) : ∀ (kk : Nat) (v : Int), Zx (spec_l4Text.b0 k) (spec_l4Text.h.H 2) kk (spec_l4Text.s0 v0_0 v) (spec_l4Text.c0 k a0 K0) = Z4 (spec_l4Text.l0 k v0_0 (spec_l4Text.kt a0 K0)) kk v :=
  Z9 (spec_l4Text.s0 v0_0) _ (fun L0 v => by kernel_rfl)
noncomputable def spec_l4Text.m {β : Type} (k : Nat) (a0 : ByteArray) (K0 : List (List C) → List Out → Option β) (F : (ByteArray → Int → Option β)) : Option β :=
  (F) a0 (0)
theorem spec_l4Text.f_eq {β : Type} (k : Nat) (a0 : ByteArray) (K0 : List (List C) → List Out → Option β) : ZJ Try.prog (spec_l4Text.E k) spec_l4Text.h k Try.f247 (spec_l4Text.as a0) K0 = spec_l4Text.g k a0 (spec_l4Text.kt a0 K0) := Eq.trans (b := (spec_l4Text.m k a0 K0) (fun (v0_0 : ByteArray) (v : Int) => Zx (spec_l4Text.b0 k) (spec_l4Text.h.H 2) k (spec_l4Text.s0 v0_0 v) (spec_l4Text.c0 k a0 K0))) (by kernel_rfl) (Eq.trans (congrArg (spec_l4Text.m k a0 K0) (funext fun v0_0 => funext fun v => spec_l4Text.l0_eq k a0 K0 v0_0 k v)) (by kernel_rfl))
noncomputable def spec_l4Text.dec (rs : List (List C)) (os : List Out) : Option (Bool) := Zd rs fun c1 r2 => Zd c1 fun x3 l4 => cD x3 fun d5 => ZaF d5 fun w0 => Ze l4 <| Ze r2 <| Ze os (some w0)
theorem spec_l4Text.kt_dec (a0 : ByteArray) : spec_l4Text.kt a0 spec_l4Text.dec = (fun z0 => some z0) := by kernel_rfl
theorem spec_l4Text.inj (a0 : ByteArray) {rs : List (List C)} {os : List Out} {z0 : Bool} (h : spec_l4Text.dec rs os = some z0) (ho : Zo (spec_l4Text.as a0) os) : rs = [[.d (.bool z0)]] ∧ os = [] := by
  unfold spec_l4Text.dec at h
  obtain ⟨c1, r2, rfl, h1⟩ := Zb h
  obtain ⟨x3, l4, rfl, h2⟩ := Zb h1
  obtain ⟨d5, rfl, h3⟩ := Zt h2
  obtain ⟨w0, rfl, h4⟩ := Z0 h3
  obtain ⟨rfl, h5⟩ := Zc h4
  obtain ⟨rfl, h6⟩ := Zc h5
  obtain ⟨rfl, h7⟩ := Zc h6
  obtain rfl := Option.some.inj h7
  exact ⟨rfl, rfl⟩
theorem spec_l4Text.ok (k : Nat) : Zv Try.prog 247 (spec_l4Text.e k) := by
  refine Zu mix tyok (fn := Try.f247) (c := Zl Try.f247) Try.func247 (by kernel_rfl) (h := spec_l4Text.h) (k := k) (E := spec_l4Text.E k) (Zk (spec_l1In.ok k) Zz) (by kernel_rfl) (by kernel_rfl) rfl (Zq Try.func247 (by kernel_rfl)) ?_
  intro β l K r hr
  simp only [spec_l4Text.e] at hr
  split at hr
  case h_2 => cases hr
  unfold spec_l4Text.f at hr
  split at hr
  case h_2 => cases hr
  rename_i hz
  exact ⟨_, _, hr, _, spec_l4Text.dec, _, (spec_l4Text.f_eq k _ spec_l4Text.dec).trans (by rw [spec_l4Text.kt_dec]; exact hz), fun rs os h ho => spec_l4Text.inj _ h ho⟩
noncomputable def spec_l4Keys.l0 {β : Type} (k : Nat) (v0_1 : Int) (v0_2 : ByteArray) (v0_3 : Int) (v0_4 : List (List D)) (v0_5 : List (List D)) (K : Bool → Option β) (L0 : Int → Option β) (v : Int) : Option β :=
  match v with
  | v0_0 => bif (decide ((v0_0 : Int) < (v0_4.length : Int))) then (ZX v0_4 v0_0 fun c14 => Zd c14 fun d15 r16 => Zan d15 fun x17 => Ze r16 (spec_NameOk.f k x17 (fun y18 => bif (!y18) then (K false) else (bif (decide ((v0_0 : Int) > 0)) then (ZX v0_4 (IntKind.wrap .i64 (v0_0 - 1)) fun c19 => Zd c19 fun d20 r21 => Zan d20 fun x22 => Ze r21 (ZX v0_4 v0_0 fun c23 => Zd c23 fun d24 r25 => Zan d24 fun x26 => Ze r25 (bif (!(strLt x22 x26)) then (K false) else (L0 (IntKind.wrap .i64 (v0_0 + 1)))))) else (L0 (IntKind.wrap .i64 (v0_0 + 1))))))) else (K (((v0_4.length : Int) : Int) == (v0_5.length : Int)))
noncomputable def spec_l4Keys.g {β : Type} (k : Nat) (a0_0 : Int) (a0_1 : ByteArray) (a0_2 : Int) (a0_3 : List (List D)) (a0_4 : List (List D)) (K : Bool → Option β) : Option β :=
  Z4 (spec_l4Keys.l0 k a0_0 a0_1 a0_2 a0_3 a0_4 K) k (0)
noncomputable def spec_l4Keys.t (k : Nat) (a0_0 : Int) (a0_1 : ByteArray) (a0_2 : Int) (a0_3 : List (List D)) (a0_4 : List (List D)) : Option (Bool) := spec_l4Keys.g k a0_0 a0_1 a0_2 a0_3 a0_4 (fun z0 => some z0)
noncomputable def spec_l4Keys.f {β : Type} (k : Nat) (a0_0 : Int) (a0_1 : ByteArray) (a0_2 : Int) (a0_3 : List (List D)) (a0_4 : List (List D)) (K : Bool → Option β) : Option β :=
  match spec_l4Keys.t k a0_0 a0_1 a0_2 a0_3 a0_4 with
  | some z0 => K z0
  | none => none
noncomputable def spec_l4Keys.as (a0_0 : Int) (a0_1 : ByteArray) (a0_2 : Int) (a0_3 : List (List D)) (a0_4 : List (List D)) : List A := [.agg [.int .i64 a0_0, .str a0_1, .int .i64 a0_2, .sl a0_3, .sl a0_4]]
noncomputable def spec_l4Keys.kt {β : Type} (a0_0 : Int) (a0_1 : ByteArray) (a0_2 : Int) (a0_3 : List (List D)) (a0_4 : List (List D)) (K0 : List (List C) → List Out → Option β) : Bool → Option β := fun z0 => K0 [[.d (.bool z0)]] []
noncomputable def spec_l4Keys.e (k : Nat) : ZQ := { modes := [(.imm, 0)], rts := [4], al := false, run := fun {β} l K => match l with | [.agg [.int .i64 a0_0, .str a0_1, .int .i64 a0_2, .sl a0_3, .sl a0_4]] => spec_l4Keys.f k a0_0 a0_1 a0_2 a0_3 a0_4 (spec_l4Keys.kt a0_0 a0_1 a0_2 a0_3 a0_4 K) | _ => none }
noncomputable def spec_l4Keys.E (k : Nat) : Env := fun g => bif g == 94 then some (spec_NameOk.e k) else none
noncomputable def spec_l4Keys.h : ZY := ⟨fun n => bif n == 2 then ⟨[(1, .asis), (3, .asis)], []⟩ else ⟨[], []⟩, fun _ => none, false, []⟩
noncomputable def spec_l4Keys.s0 (v0_1 : Int) (v0_2 : ByteArray) (v0_3 : Int) (v0_4 : List (List D)) (v0_5 : List (List D)) (v : Int) : St :=
  match v with
  | v0_0 => ⟨[.any, .bp 0 0, .any, .d true (.int .i64 v0_0), .any, .any, .any, .any, .any, .any, .any, .any, .any, .any, .any, .any, .any, .any, .any, .any, .any, .any, .any, .any, .any, .any, .any, .any, .any, .any, .any, .any, .any, .any, .any, .any, .any, .any, .any, .any, .any, .any, .any], [.box none 151 [.d false (.int .i64 v0_1), .d false (.str v0_2), .d false (.int .i64 v0_3), .d false (.sl v0_4), .d false (.sl v0_5)]]⟩
noncomputable def spec_l4Keys.b0 {β : Type} (k : Nat) : St → (Ex → St → Option β) → Option β := fun s K => den Try.prog (spec_l4Keys.E k) spec_l4Keys.h.H spec_l4Keys.h.J k (Zad [1, 0, 1, 0, 0] (Zl Try.f248)) s K
noncomputable def spec_l4Keys.c0 {β : Type} (k : Nat) (a0_0 : Int) (a0_1 : ByteArray) (a0_2 : Int) (a0_3 : List (List D)) (a0_4 : List (List D)) (K0 : List (List C) → List Out → Option β) : Ex → St → Option β := Zae Try.prog (spec_l4Keys.E k) spec_l4Keys.h k [1, 0, 1, 0] (Zl Try.f248) (Zak Try.prog Try.f248 spec_l4Keys.h (spec_l4Keys.as a0_0 a0_1 a0_2 a0_3 a0_4) K0)
theorem spec_l4Keys.l0_eq {β : Type} (k : Nat) (a0_0 : Int) (a0_1 : ByteArray) (a0_2 : Int) (a0_3 : List (List D)) (a0_4 : List (List D)) (K0 : List (List C) → List Out → Option β) (v0_1 : Int) (v0_2 : ByteArray) (v0_3 : Int) (v0_4 : List (List D)) (v0_5 : List (List D)) : ∀ (kk : Nat) (v : Int), Zx (spec_l4Keys.b0 k) (spec_l4Keys.h.H 2) kk (spec_l4Keys.s0 v0_1 v0_2 v0_3 v0_4 v0_5 v) (spec_l4Keys.c0 k a0_0 a0_1 a0_2 a0_3 a0_4 K0) = Z4 (spec_l4Keys.l0 k v0_1 v0_2 v0_3 v0_4 v0_5 (spec_l4Keys.kt a0_0 a0_1 a0_2 a0_3 a0_4 K0)) kk v :=
  Z9 (spec_l4Keys.s0 v0_1 v0_2 v0_3 v0_4 v0_5) _ (fun L0 v => by kernel_rfl)
noncomputable def spec_l4Keys.m {β : Type} (k : Nat) (a0_0 : Int) (a0_1 : ByteArray) (a0_2 : Int) (a0_3 : List (List D)) (a0_4 : List (List D)) (K0 : List (List C) → List Out → Option β) (F : (Int → ByteArray → Int → (List (List D)) → (List (List D)) → Int → Option β)) : Option β :=
  (F) a0_0 a0_1 a0_2 a0_3 a0_4 (0)
theorem spec_l4Keys.f_eq {β : Type} (k : Nat) (a0_0 : Int) (a0_1 : ByteArray) (a0_2 : Int) (a0_3 : List (List D)) (a0_4 : List (List D)) (K0 : List (List C) → List Out → Option β) : ZJ Try.prog (spec_l4Keys.E k) spec_l4Keys.h k Try.f248 (spec_l4Keys.as a0_0 a0_1 a0_2 a0_3 a0_4) K0 = spec_l4Keys.g k a0_0 a0_1 a0_2 a0_3 a0_4 (spec_l4Keys.kt a0_0 a0_1 a0_2 a0_3 a0_4 K0) := Eq.trans (b := (spec_l4Keys.m k a0_0 a0_1 a0_2 a0_3 a0_4 K0) (fun (v0_1 : Int) (v0_2 : ByteArray) (v0_3 : Int) (v0_4 : List (List D)) (v0_5 : List (List D)) (v : Int) => Zx (spec_l4Keys.b0 k) (spec_l4Keys.h.H 2) k (spec_l4Keys.s0 v0_1 v0_2 v0_3 v0_4 v0_5 v) (spec_l4Keys.c0 k a0_0 a0_1 a0_2 a0_3 a0_4 K0))) (by kernel_rfl) (Eq.trans (congrArg (spec_l4Keys.m k a0_0 a0_1 a0_2 a0_3 a0_4 K0) (funext fun v0_1 => funext fun v0_2 => funext fun v0_3 => funext fun v0_4 => funext fun v0_5 => funext fun v => spec_l4Keys.l0_eq k a0_0 a0_1 a0_2 a0_3 a0_4 K0 v0_1 v0_2 v0_3 v0_4 v0_5 k v)) (by kernel_rfl))
noncomputable def spec_l4Keys.dec (rs : List (List C)) (os : List Out) : Option (Bool) := Zd rs fun c1 r2 => Zd c1 fun x3 l4 => cD x3 fun d5 => ZaF d5 fun w0 => Ze l4 <| Ze r2 <| Ze os (some w0)
theorem spec_l4Keys.kt_dec (a0_0 : Int) (a0_1 : ByteArray) (a0_2 : Int) (a0_3 : List (List D)) (a0_4 : List (List D)) : spec_l4Keys.kt a0_0 a0_1 a0_2 a0_3 a0_4 spec_l4Keys.dec = (fun z0 => some z0) := by kernel_rfl
theorem spec_l4Keys.inj (a0_0 : Int) (a0_1 : ByteArray) (a0_2 : Int) (a0_3 : List (List D)) (a0_4 : List (List D)) {rs : List (List C)} {os : List Out} {z0 : Bool} (h : spec_l4Keys.dec rs os = some z0) (ho : Zo (spec_l4Keys.as a0_0 a0_1 a0_2 a0_3 a0_4) os) : rs = [[.d (.bool z0)]] ∧ os = [] := by
  unfold spec_l4Keys.dec at h
  obtain ⟨c1, r2, rfl, h1⟩ := Zb h
  obtain ⟨x3, l4, rfl, h2⟩ := Zb h1
  obtain ⟨d5, rfl, h3⟩ := Zt h2
  obtain ⟨w0, rfl, h4⟩ := Z0 h3
  obtain ⟨rfl, h5⟩ := Zc h4
  obtain ⟨rfl, h6⟩ := Zc h5
  obtain ⟨rfl, h7⟩ := Zc h6
  obtain rfl := Option.some.inj h7
  exact ⟨rfl, rfl⟩
theorem spec_l4Keys.ok (k : Nat) : Zv Try.prog 248 (spec_l4Keys.e k) := by
  refine Zu mix tyok (fn := Try.f248) (c := Zl Try.f248) Try.func248 (by kernel_rfl) (h := spec_l4Keys.h) (k := k) (E := spec_l4Keys.E k) (Zk (spec_NameOk.ok k) Zz) (by kernel_rfl) (by kernel_rfl) rfl (Zq Try.func248 (by kernel_rfl)) ?_
  intro β l K r hr
  simp only [spec_l4Keys.e] at hr
  split at hr
  case h_2 => cases hr
  unfold spec_l4Keys.f at hr
  split at hr
  case h_2 => cases hr
  rename_i hz
  exact ⟨_, _, hr, _, spec_l4Keys.dec, _, (spec_l4Keys.f_eq k _ _ _ _ _ spec_l4Keys.dec).trans (by rw [spec_l4Keys.kt_dec]; exact hz), fun rs os h ho => spec_l4Keys.inj _ _ _ _ _ h ho⟩
noncomputable def spec_l4Look.l0 {β : Type} (k : Nat) (r_spec_l4Look : Int → ByteArray → Int → (List (List D)) → (List (List D)) → Int → (Int → Option β) → Option β) (v0_0 : Int) (v0_3 : Int) (v0_4 : ByteArray) (v0_5 : Int) (v0_6 : List (List D)) (v0_7 : List (List D)) (K : Int → Option β) (L0 : (Int × Int) → Option β) (v : Int × Int) : Option β :=
  match v with
  | (v0_1, v0_2) => bif (decide ((v0_2 : Int) < (v0_7.length : Int))) then (ZX v0_7 v0_2 fun c29 => Zd c29 fun d30 r31 => ZM .i64 d30 fun x32 => Zd r31 fun d33 r34 => Zan d33 fun x35 => Zd r34 fun d36 r37 => ZM .i64 d36 fun x38 => Zd r37 fun d39 r40 => dSl d39 fun x41 => Zd r40 fun d42 r43 => dSl d42 fun x44 => Ze r43 (r_spec_l4Look x32 x35 x38 x41 x44 (IntKind.wrap .i64 (v0_0 - 1)) (fun y45 => bif ((y45 : Int) == 0) then (K 0) else (bif (decide (((IntKind.wrap .i64 (v0_1 + y45)) : Int) > 300)) then (K 0) else (L0 (IntKind.wrap .i64 (v0_1 + y45), IntKind.wrap .i64 (v0_2 + 1))))))) else (bif (((v0_6.length : Int) : Int) == 0) then (bif ((v0_3 : Int) == 1) then (bif (((v0_7.length : Int) : Int) == 0) then (bif ((v0_5 : Int) == 0) then (spec_l4Text.f k v0_4 (fun y46 => bif (!y46) then (K 0) else (K v0_1))) else (K 0)) else (K 0)) else (bif ((v0_3 : Int) == 2) then (bif (((v0_7.length : Int) : Int) == 0) then (bif (!(strEq v0_4 (⟨#[]⟩ : ByteArray))) then (K 0) else (K v0_1)) else (K 0)) else (bif ((v0_3 : Int) == 3) then (bif (((v0_7.length : Int) : Int) == 0) then (bif (strEq v0_4 (⟨#[]⟩ : ByteArray)) then (spec_l1In.f k v0_5 0 1 (fun y47 => bif (!y47) then (K 0) else (K v0_1))) else (K 0)) else (K 0)) else (bif ((v0_3 : Int) == 4) then (bif (((v0_6.length : Int) : Int) == 0) then (bif (strEq v0_4 (⟨#[]⟩ : ByteArray)) then (bif (!((v0_5 : Int) == 0)) then (K 0) else (K v0_1)) else (K 0)) else (K 0)) else (bif ((v0_3 : Int) == 5) then (spec_l4Keys.f k v0_3 v0_4 v0_5 v0_6 v0_7 (fun y48 => bif y48 then (bif (strEq v0_4 (⟨#[]⟩ : ByteArray)) then (bif (!((v0_5 : Int) == 0)) then (K 0) else (K v0_1)) else (K 0)) else (K 0))) else (K 0)))))) else (bif ((v0_3 : Int) == 1) then (K 0) else (bif ((v0_3 : Int) == 2) then (K 0) else (bif ((v0_3 : Int) == 3) then (K 0) else (bif ((v0_3 : Int) == 4) then (bif (((v0_6.length : Int) : Int) == 0) then (bif (strEq v0_4 (⟨#[]⟩ : ByteArray)) then (bif (!((v0_5 : Int) == 0)) then (K 0) else (K v0_1)) else (K 0)) else (K 0)) else (bif ((v0_3 : Int) == 5) then (spec_l4Keys.f k v0_3 v0_4 v0_5 v0_6 v0_7 (fun y49 => bif y49 then (bif (strEq v0_4 (⟨#[]⟩ : ByteArray)) then (bif (!((v0_5 : Int) == 0)) then (K 0) else (K v0_1)) else (K 0)) else (K 0))) else (K 0)))))))
noncomputable def spec_l4Look.body {β : Type} (k : Nat) (r_spec_l4Look : Int → ByteArray → Int → (List (List D)) → (List (List D)) → Int → (Int → Option β) → Option β) (a0_0 : Int) (a0_1 : ByteArray) (a0_2 : Int) (a0_3 : List (List D)) (a0_4 : List (List D)) (a1 : Int) (K : Int → Option β) : Option β :=
  bif ((a1 : Int) == 0) then (K 0) else (Z4 (spec_l4Look.l0 k r_spec_l4Look a1 a0_0 a0_1 a0_2 a0_3 a0_4 K) k (1, 0))
noncomputable def spec_l4Look.w {β : Type} (r : Int → ByteArray → Int → (List (List D)) → (List (List D)) → Int → Option (Int)) (a0_0 : Int) (a0_1 : ByteArray) (a0_2 : Int) (a0_3 : List (List D)) (a0_4 : List (List D)) (a1 : Int) (K : Int → Option β) : Option β :=
  match r a0_0 a0_1 a0_2 a0_3 a0_4 a1 with
  | some z0 => K z0
  | none => none
noncomputable def spec_l4Look.all : Nat → (Int → ByteArray → Int → (List (List D)) → (List (List D)) → Int → Option (Int))
  | 0 => (fun _ _ _ _ _ _ => none)
  | k + 1 => (fun r => (fun a0_0 a0_1 a0_2 a0_3 a0_4 a1 => spec_l4Look.body k (spec_l4Look.w r) a0_0 a0_1 a0_2 a0_3 a0_4 a1 (fun z0 => some z0))) (spec_l4Look.all k)
noncomputable def spec_l4Look.t (k : Nat) (a0_0 : Int) (a0_1 : ByteArray) (a0_2 : Int) (a0_3 : List (List D)) (a0_4 : List (List D)) (a1 : Int) : Option (Int) := (spec_l4Look.all k) a0_0 a0_1 a0_2 a0_3 a0_4 a1
noncomputable def spec_l4Look.f {β : Type} (k : Nat) (a0_0 : Int) (a0_1 : ByteArray) (a0_2 : Int) (a0_3 : List (List D)) (a0_4 : List (List D)) (a1 : Int) (K : Int → Option β) : Option β := spec_l4Look.w (spec_l4Look.t k) a0_0 a0_1 a0_2 a0_3 a0_4 a1 K
noncomputable def spec_l4Look.g {β : Type} (k : Nat) (a0_0 : Int) (a0_1 : ByteArray) (a0_2 : Int) (a0_3 : List (List D)) (a0_4 : List (List D)) (a1 : Int) (K : Int → Option β) : Option β := spec_l4Look.body k (spec_l4Look.f k) a0_0 a0_1 a0_2 a0_3 a0_4 a1 K
theorem spec_l4Look.t_zero (a0_0 : Int) (a0_1 : ByteArray) (a0_2 : Int) (a0_3 : List (List D)) (a0_4 : List (List D)) (a1 : Int) : spec_l4Look.t 0 a0_0 a0_1 a0_2 a0_3 a0_4 a1 = none := rfl
theorem spec_l4Look.t_succ (k : Nat) (a0_0 : Int) (a0_1 : ByteArray) (a0_2 : Int) (a0_3 : List (List D)) (a0_4 : List (List D)) (a1 : Int) : spec_l4Look.t (k + 1) a0_0 a0_1 a0_2 a0_3 a0_4 a1 = spec_l4Look.g k a0_0 a0_1 a0_2 a0_3 a0_4 a1 (fun z0 => some z0) := rfl
noncomputable def spec_l4Look.as (a0_0 : Int) (a0_1 : ByteArray) (a0_2 : Int) (a0_3 : List (List D)) (a0_4 : List (List D)) (a1 : Int) : List A := [.agg [.int .i64 a0_0, .str a0_1, .int .i64 a0_2, .sl a0_3, .sl a0_4], .d (.int .i64 a1)]
noncomputable def spec_l4Look.kt {β : Type} (a0_0 : Int) (a0_1 : ByteArray) (a0_2 : Int) (a0_3 : List (List D)) (a0_4 : List (List D)) (a1 : Int) (K0 : List (List C) → List Out → Option β) : Int → Option β := fun z0 => K0 [[.d (.int .i64 z0)]] []
noncomputable def spec_l4Look.e (k : Nat) : ZQ := { modes := [(.imm, 0), (.imm, 0)], rts := [3], al := false, run := fun {β} l K => match l with | [.agg [.int .i64 a0_0, .str a0_1, .int .i64 a0_2, .sl a0_3, .sl a0_4], .d (.int .i64 a1)] => spec_l4Look.f k a0_0 a0_1 a0_2 a0_3 a0_4 a1 (spec_l4Look.kt a0_0 a0_1 a0_2 a0_3 a0_4 a1 K) | _ => none }
noncomputable def spec_l4Look.E (k : Nat) : Env := fun g => bif g == 223 then some (spec_l4Look.e k) else bif g == 247 then some (spec_l4Text.e k) else bif g == 123 then some (spec_l1In.e k) else bif g == 248 then some (spec_l4Keys.e k) else none
noncomputable def spec_l4Look.h : ZY := ⟨fun n => bif n == 5 then ⟨[(1, .asis), (2, .asis), (5, .asis), (6, .asis)], []⟩ else ⟨[], []⟩, fun _ => none, false, []⟩
noncomputable def spec_l4Look.s0 (v0_0 : Int) (v0_3 : Int) (v0_4 : ByteArray) (v0_5 : Int) (v0_6 : List (List D)) (v0_7 : List (List D)) (v : Int × Int) : St :=
  match v with
  | (v0_1, v0_2) => ⟨[.any, .d false (.int .i64 v0_0), .bp 0 0, .any, .any, .d true (.int .i64 v0_1), .d true (.int .i64 v0_2), .any, .any, .any, .any, .any, .any, .any, .any, .any, .any, .any, .any, .any, .any, .any, .any, .any, .any, .any, .any, .any, .any, .any, .any, .any, .any, .any, .any, .any, .any, .any, .any, .any, .any, .any, .any, .any, .any, .any, .any, .any, .any, .any, .any, .any, .any, .any, .any, .any, .any, .any, .any, .any, .any, .any, .any, .any, .any, .any, .any, .any, .any, .any, .any, .any, .any, .any, .any, .any, .any, .any, .any, .any, .any, .any, .any, .any, .any, .any, .any, .any, .any, .any, .any, .any, .any, .any, .any, .any, .any, .any, .any, .any, .any, .any, .any, .any, .any, .any, .any, .any, .any, .any, .any, .any, .any, .any, .any, .any, .any], [.box none 151 [.d false (.int .i64 v0_3), .d false (.str v0_4), .d false (.int .i64 v0_5), .d false (.sl v0_6), .d false (.sl v0_7)]]⟩
noncomputable def spec_l4Look.b0 {β : Type} (k : Nat) : St → (Ex → St → Option β) → Option β := fun s K => den Try.prog (spec_l4Look.E k) spec_l4Look.h.H spec_l4Look.h.J k (Zad [1, 1, 1, 0, 1, 0, 0] (Zl Try.f223)) s K
noncomputable def spec_l4Look.c0 {β : Type} (k : Nat) (a0_0 : Int) (a0_1 : ByteArray) (a0_2 : Int) (a0_3 : List (List D)) (a0_4 : List (List D)) (a1 : Int) (K0 : List (List C) → List Out → Option β) : Ex → St → Option β := Zae Try.prog (spec_l4Look.E k) spec_l4Look.h k [1, 1, 1, 0, 1, 0] (Zl Try.f223) (Zak Try.prog Try.f223 spec_l4Look.h (spec_l4Look.as a0_0 a0_1 a0_2 a0_3 a0_4 a1) K0)
theorem spec_l4Look.l0_eq {β : Type} (k : Nat) (a0_0 : Int) (a0_1 : ByteArray) (a0_2 : Int) (a0_3 : List (List D)) (a0_4 : List (List D)) (a1 : Int) (K0 : List (List C) → List Out → Option β) (v0_0 : Int) (v0_3 : Int) (v0_4 : ByteArray) (v0_5 : Int) (v0_6 : List (List D)) (v0_7 : List (List D)) : ∀ (kk : Nat) (v : Int × Int), Zx (spec_l4Look.b0 k) (spec_l4Look.h.H 5) kk (spec_l4Look.s0 v0_0 v0_3 v0_4 v0_5 v0_6 v0_7 v) (spec_l4Look.c0 k a0_0 a0_1 a0_2 a0_3 a0_4 a1 K0) = Z4 (spec_l4Look.l0 k (spec_l4Look.f k) v0_0 v0_3 v0_4 v0_5 v0_6 v0_7 (spec_l4Look.kt a0_0 a0_1 a0_2 a0_3 a0_4 a1 K0)) kk v :=
  Z9 (spec_l4Look.s0 v0_0 v0_3 v0_4 v0_5 v0_6 v0_7) _ (fun L0 v => by obtain ⟨v0_1, v0_2⟩ := v; kernel_rfl)
noncomputable def spec_l4Look.m {β : Type} (k : Nat) (a0_0 : Int) (a0_1 : ByteArray) (a0_2 : Int) (a0_3 : List (List D)) (a0_4 : List (List D)) (a1 : Int) (K0 : List (List C) → List Out → Option β) (F : (Int → Int → ByteArray → Int → (List (List D)) → (List (List D)) → (Int × Int) → Option β)) : Option β :=
  bif ((a1 : Int) == 0) then ((spec_l4Look.kt a0_0 a0_1 a0_2 a0_3 a0_4 a1 K0) 0) else ((F) a1 a0_0 a0_1 a0_2 a0_3 a0_4 (1, 0))
theorem spec_l4Look.f_eq {β : Type} (k : Nat) (a0_0 : Int) (a0_1 : ByteArray) (a0_2 : Int) (a0_3 : List (List D)) (a0_4 : List (List D)) (a1 : Int) (K0 : List (List C) → List Out → Option β) : ZJ Try.prog (spec_l4Look.E k) spec_l4Look.h k Try.f223 (spec_l4Look.as a0_0 a0_1 a0_2 a0_3 a0_4 a1) K0 = spec_l4Look.g k a0_0 a0_1 a0_2 a0_3 a0_4 a1 (spec_l4Look.kt a0_0 a0_1 a0_2 a0_3 a0_4 a1 K0) := Eq.trans (b := (spec_l4Look.m k a0_0 a0_1 a0_2 a0_3 a0_4 a1 K0) (fun (v0_0 : Int) (v0_3 : Int) (v0_4 : ByteArray) (v0_5 : Int) (v0_6 : List (List D)) (v0_7 : List (List D)) (v : Int × Int) => Zx (spec_l4Look.b0 k) (spec_l4Look.h.H 5) k (spec_l4Look.s0 v0_0 v0_3 v0_4 v0_5 v0_6 v0_7 v) (spec_l4Look.c0 k a0_0 a0_1 a0_2 a0_3 a0_4 a1 K0))) (by kernel_rfl) (Eq.trans (congrArg (spec_l4Look.m k a0_0 a0_1 a0_2 a0_3 a0_4 a1 K0) (funext fun v0_0 => funext fun v0_3 => funext fun v0_4 => funext fun v0_5 => funext fun v0_6 => funext fun v0_7 => funext fun v => spec_l4Look.l0_eq k a0_0 a0_1 a0_2 a0_3 a0_4 a1 K0 v0_0 v0_3 v0_4 v0_5 v0_6 v0_7 k v)) (by kernel_rfl))
noncomputable def spec_l4Look.dec (rs : List (List C)) (os : List Out) : Option (Int) := Zd rs fun c1 r2 => Zd c1 fun x3 l4 => cD x3 fun d5 => ZM .i64 d5 fun w0 => Ze l4 <| Ze r2 <| Ze os (some w0)
theorem spec_l4Look.kt_dec (a0_0 : Int) (a0_1 : ByteArray) (a0_2 : Int) (a0_3 : List (List D)) (a0_4 : List (List D)) (a1 : Int) : spec_l4Look.kt a0_0 a0_1 a0_2 a0_3 a0_4 a1 spec_l4Look.dec = (fun z0 => some z0) := by kernel_rfl
theorem spec_l4Look.inj (a0_0 : Int) (a0_1 : ByteArray) (a0_2 : Int) (a0_3 : List (List D)) (a0_4 : List (List D)) (a1 : Int) {rs : List (List C)} {os : List Out} {z0 : Int} (h : spec_l4Look.dec rs os = some z0) (ho : Zo (spec_l4Look.as a0_0 a0_1 a0_2 a0_3 a0_4 a1) os) : rs = [[.d (.int .i64 z0)]] ∧ os = [] := by
  unfold spec_l4Look.dec at h
  obtain ⟨c1, r2, rfl, h1⟩ := Zb h
  obtain ⟨x3, l4, rfl, h2⟩ := Zb h1
  obtain ⟨d5, rfl, h3⟩ := Zt h2
  obtain ⟨w0, rfl, h4⟩ := ZA h3
  obtain ⟨rfl, h5⟩ := Zc h4
  obtain ⟨rfl, h6⟩ := Zc h5
  obtain ⟨rfl, h7⟩ := Zc h6
  obtain rfl := Option.some.inj h7
  exact ⟨rfl, rfl⟩
theorem spec_l4Look.oks (k : Nat) : Zv Try.prog 223 (spec_l4Look.e k) := by
  induction k with
  | zero =>
    refine ?_
    · exact Zb1 (Zq Try.func223 (by kernel_rfl)) fun β l K r h => by
        simp only [spec_l4Look.e] at h
        split at h
        · unfold spec_l4Look.f at h
          unfold spec_l4Look.w at h
          rw [spec_l4Look.t_zero] at h
          cases h
        · cases h
  | succ k ih =>
    refine ?_
    · refine Zu mix tyok (fn := Try.f223) (c := Zl Try.f223) Try.func223 (by kernel_rfl) (h := spec_l4Look.h) (k := k) (E := spec_l4Look.E k) (Zk ih (Zk (spec_l4Text.ok k) (Zk (spec_l1In.ok k) (Zk (spec_l4Keys.ok k) Zz)))) (by kernel_rfl) (by kernel_rfl) rfl (Zq Try.func223 (by kernel_rfl)) ?_
      intro β l K r hr
      simp only [spec_l4Look.e] at hr
      split at hr
      case h_2 => cases hr
      unfold spec_l4Look.f at hr
      unfold spec_l4Look.w at hr
      split at hr
      case h_2 => cases hr
      rename_i hz
      exact ⟨_, _, hr, _, spec_l4Look.dec, _, (spec_l4Look.f_eq k _ _ _ _ _ _ spec_l4Look.dec).trans (by rw [spec_l4Look.kt_dec]; exact hz), fun rs os h ho => spec_l4Look.inj _ _ _ _ _ _ h ho⟩
theorem spec_l4Look.ok (k : Nat) : Zv Try.prog 223 (spec_l4Look.e k) := (spec_l4Look.oks k)
noncomputable def spec_ValueOk.g {β : Type} (k : Nat) (a0_0 : Int) (a0_1 : ByteArray) (a0_2 : Int) (a0_3 : List (List D)) (a0_4 : List (List D)) (K : Bool → Option β) : Option β :=
  spec_l4Look.f k a0_0 a0_1 a0_2 a0_3 a0_4 6 (fun y50 => K (decide ((y50 : Int) > 0)))
noncomputable def spec_ValueOk.t (k : Nat) (a0_0 : Int) (a0_1 : ByteArray) (a0_2 : Int) (a0_3 : List (List D)) (a0_4 : List (List D)) : Option (Bool) := spec_ValueOk.g k a0_0 a0_1 a0_2 a0_3 a0_4 (fun z0 => some z0)
noncomputable def spec_ValueOk.f {β : Type} (k : Nat) (a0_0 : Int) (a0_1 : ByteArray) (a0_2 : Int) (a0_3 : List (List D)) (a0_4 : List (List D)) (K : Bool → Option β) : Option β :=
  match spec_ValueOk.t k a0_0 a0_1 a0_2 a0_3 a0_4 with
  | some z0 => K z0
  | none => none
noncomputable def spec_ValueOk.as (a0_0 : Int) (a0_1 : ByteArray) (a0_2 : Int) (a0_3 : List (List D)) (a0_4 : List (List D)) : List A := [.agg [.int .i64 a0_0, .str a0_1, .int .i64 a0_2, .sl a0_3, .sl a0_4]]
noncomputable def spec_ValueOk.kt {β : Type} (a0_0 : Int) (a0_1 : ByteArray) (a0_2 : Int) (a0_3 : List (List D)) (a0_4 : List (List D)) (K0 : List (List C) → List Out → Option β) : Bool → Option β := fun z0 => K0 [[.d (.bool z0)]] []
noncomputable def spec_ValueOk.e (k : Nat) : ZQ := { modes := [(.imm, 0)], rts := [4], al := false, run := fun {β} l K => match l with | [.agg [.int .i64 a0_0, .str a0_1, .int .i64 a0_2, .sl a0_3, .sl a0_4]] => spec_ValueOk.f k a0_0 a0_1 a0_2 a0_3 a0_4 (spec_ValueOk.kt a0_0 a0_1 a0_2 a0_3 a0_4 K) | _ => none }
noncomputable def spec_ValueOk.E (k : Nat) : Env := fun g => bif g == 223 then some (spec_l4Look.e k) else none
noncomputable def spec_ValueOk.h : ZY := ⟨fun n => ⟨[], []⟩, fun _ => none, false, []⟩
theorem spec_ValueOk.f_eq {β : Type} (k : Nat) (a0_0 : Int) (a0_1 : ByteArray) (a0_2 : Int) (a0_3 : List (List D)) (a0_4 : List (List D)) (K0 : List (List C) → List Out → Option β) : ZJ Try.prog (spec_ValueOk.E k) spec_ValueOk.h k Try.f180 (spec_ValueOk.as a0_0 a0_1 a0_2 a0_3 a0_4) K0 = spec_ValueOk.g k a0_0 a0_1 a0_2 a0_3 a0_4 (spec_ValueOk.kt a0_0 a0_1 a0_2 a0_3 a0_4 K0) := by kernel_rfl
noncomputable def spec_ValueOk.dec (rs : List (List C)) (os : List Out) : Option (Bool) := Zd rs fun c1 r2 => Zd c1 fun x3 l4 => cD x3 fun d5 => ZaF d5 fun w0 => Ze l4 <| Ze r2 <| Ze os (some w0)
theorem spec_ValueOk.kt_dec (a0_0 : Int) (a0_1 : ByteArray) (a0_2 : Int) (a0_3 : List (List D)) (a0_4 : List (List D)) : spec_ValueOk.kt a0_0 a0_1 a0_2 a0_3 a0_4 spec_ValueOk.dec = (fun z0 => some z0) := by kernel_rfl
theorem spec_ValueOk.inj (a0_0 : Int) (a0_1 : ByteArray) (a0_2 : Int) (a0_3 : List (List D)) (a0_4 : List (List D)) {rs : List (List C)} {os : List Out} {z0 : Bool} (h : spec_ValueOk.dec rs os = some z0) (ho : Zo (spec_ValueOk.as a0_0 a0_1 a0_2 a0_3 a0_4) os) : rs = [[.d (.bool z0)]] ∧ os = [] := by
  unfold spec_ValueOk.dec at h
  obtain ⟨c1, r2, rfl, h1⟩ := Zb h
  obtain ⟨x3, l4, rfl, h2⟩ := Zb h1
  obtain ⟨d5, rfl, h3⟩ := Zt h2
  obtain ⟨w0, rfl, h4⟩ := Z0 h3
  obtain ⟨rfl, h5⟩ := Zc h4
  obtain ⟨rfl, h6⟩ := Zc h5
  obtain ⟨rfl, h7⟩ := Zc h6
  obtain rfl := Option.some.inj h7
  exact ⟨rfl, rfl⟩
theorem spec_ValueOk.ok (k : Nat) : Zv Try.prog 180 (spec_ValueOk.e k) := by
  refine Zu mix tyok (fn := Try.f180) (c := Zl Try.f180) Try.func180 (by kernel_rfl) (h := spec_ValueOk.h) (k := k) (E := spec_ValueOk.E k) (Zk (spec_l4Look.ok k) Zz) (by kernel_rfl) (by kernel_rfl) rfl (Zq Try.func180 (by kernel_rfl)) ?_
  intro β l K r hr
  simp only [spec_ValueOk.e] at hr
  split at hr
  case h_2 => cases hr
  unfold spec_ValueOk.f at hr
  split at hr
  case h_2 => cases hr
  rename_i hz
  exact ⟨_, _, hr, _, spec_ValueOk.dec, _, (spec_ValueOk.f_eq k _ _ _ _ _ spec_ValueOk.dec).trans (by rw [spec_ValueOk.kt_dec]; exact hz), fun rs os h ho => spec_ValueOk.inj _ _ _ _ _ h ho⟩
noncomputable def spec_l7Obj.g {β : Type} (k : Nat) (a0_0 : Int) (a0_1 : ByteArray) (a0_2 : Int) (a0_3 : Int) (a0_4 : Int) (a0_5 : Bool) (a0_6 : List (List D)) (a0_7 : Int) (a0_8 : ByteArray) (a0_9 : Int) (a0_10 : List (List D)) (a0_11 : List (List D)) (a0_12 : Int) (a0_13 : ByteArray) (a0_14 : Int) (a0_15 : List (List D)) (a0_16 : List (List D)) (a1 : Int) (a2 : Int) (a3 : Bool) (K : Bool → Option β) : Option β :=
  spec_l1In.f k a0_0 1 3 (fun y1 => bif y1 then (spec_NameOk.f k a0_1 (fun y17 => bif y17 then (spec_l1In.f k a0_2 1 (IntKind.wrap .i64 (a2 - 1)) (fun y18 => bif y18 then (spec_l1In.f k a0_3 1 a1 (fun y19 => bif y19 then (spec_l1In.f k a0_4 1 a0_3 (fun y20 => bif y20 then (spec_l7Waits.f k a0_6 (fun y27 => bif y27 then (spec_ValueOk.f k a0_7 a0_8 a0_9 a0_10 a0_11 (fun y51 => bif y51 then (spec_ValueOk.f k a0_12 a0_13 a0_14 a0_15 a0_16 (fun y52 => bif y52 then (bif a3 then (K true) else (bif (!a0_5) then (K true) else (K (decide (((a0_6.length : Int) : Int) > 0))))) else (K false))) else (K false))) else (K false))) else (K false))) else (K false))) else (K false))) else (K false))) else (K false))
noncomputable def spec_l7Obj.t (k : Nat) (a0_0 : Int) (a0_1 : ByteArray) (a0_2 : Int) (a0_3 : Int) (a0_4 : Int) (a0_5 : Bool) (a0_6 : List (List D)) (a0_7 : Int) (a0_8 : ByteArray) (a0_9 : Int) (a0_10 : List (List D)) (a0_11 : List (List D)) (a0_12 : Int) (a0_13 : ByteArray) (a0_14 : Int) (a0_15 : List (List D)) (a0_16 : List (List D)) (a1 : Int) (a2 : Int) (a3 : Bool) : Option (Bool) := spec_l7Obj.g k a0_0 a0_1 a0_2 a0_3 a0_4 a0_5 a0_6 a0_7 a0_8 a0_9 a0_10 a0_11 a0_12 a0_13 a0_14 a0_15 a0_16 a1 a2 a3 (fun z0 => some z0)
noncomputable def spec_l7Obj.f {β : Type} (k : Nat) (a0_0 : Int) (a0_1 : ByteArray) (a0_2 : Int) (a0_3 : Int) (a0_4 : Int) (a0_5 : Bool) (a0_6 : List (List D)) (a0_7 : Int) (a0_8 : ByteArray) (a0_9 : Int) (a0_10 : List (List D)) (a0_11 : List (List D)) (a0_12 : Int) (a0_13 : ByteArray) (a0_14 : Int) (a0_15 : List (List D)) (a0_16 : List (List D)) (a1 : Int) (a2 : Int) (a3 : Bool) (K : Bool → Option β) : Option β :=
  match spec_l7Obj.t k a0_0 a0_1 a0_2 a0_3 a0_4 a0_5 a0_6 a0_7 a0_8 a0_9 a0_10 a0_11 a0_12 a0_13 a0_14 a0_15 a0_16 a1 a2 a3 with
  | some z0 => K z0
  | none => none
noncomputable def spec_l7Obj.as (a0_0 : Int) (a0_1 : ByteArray) (a0_2 : Int) (a0_3 : Int) (a0_4 : Int) (a0_5 : Bool) (a0_6 : List (List D)) (a0_7 : Int) (a0_8 : ByteArray) (a0_9 : Int) (a0_10 : List (List D)) (a0_11 : List (List D)) (a0_12 : Int) (a0_13 : ByteArray) (a0_14 : Int) (a0_15 : List (List D)) (a0_16 : List (List D)) (a1 : Int) (a2 : Int) (a3 : Bool) : List A := [.agg [.int .i64 a0_0, .str a0_1, .int .i64 a0_2, .int .i64 a0_3, .int .i64 a0_4, .bool a0_5, .sl a0_6, .int .i64 a0_7, .str a0_8, .int .i64 a0_9, .sl a0_10, .sl a0_11, .int .i64 a0_12, .str a0_13, .int .i64 a0_14, .sl a0_15, .sl a0_16], .d (.int .i64 a1), .d (.int .i64 a2), .d (.bool a3)]
noncomputable def spec_l7Obj.kt {β : Type} (a0_0 : Int) (a0_1 : ByteArray) (a0_2 : Int) (a0_3 : Int) (a0_4 : Int) (a0_5 : Bool) (a0_6 : List (List D)) (a0_7 : Int) (a0_8 : ByteArray) (a0_9 : Int) (a0_10 : List (List D)) (a0_11 : List (List D)) (a0_12 : Int) (a0_13 : ByteArray) (a0_14 : Int) (a0_15 : List (List D)) (a0_16 : List (List D)) (a1 : Int) (a2 : Int) (a3 : Bool) (K0 : List (List C) → List Out → Option β) : Bool → Option β := fun z0 => K0 [[.d (.bool z0)]] []
noncomputable def spec_l7Obj.e (k : Nat) : ZQ := { modes := [(.imm, 0), (.imm, 0), (.imm, 0), (.imm, 0)], rts := [4], al := false, run := fun {β} l K => match l with | [.agg [.int .i64 a0_0, .str a0_1, .int .i64 a0_2, .int .i64 a0_3, .int .i64 a0_4, .bool a0_5, .sl a0_6, .int .i64 a0_7, .str a0_8, .int .i64 a0_9, .sl a0_10, .sl a0_11, .int .i64 a0_12, .str a0_13, .int .i64 a0_14, .sl a0_15, .sl a0_16], .d (.int .i64 a1), .d (.int .i64 a2), .d (.bool a3)] => spec_l7Obj.f k a0_0 a0_1 a0_2 a0_3 a0_4 a0_5 a0_6 a0_7 a0_8 a0_9 a0_10 a0_11 a0_12 a0_13 a0_14 a0_15 a0_16 a1 a2 a3 (spec_l7Obj.kt a0_0 a0_1 a0_2 a0_3 a0_4 a0_5 a0_6 a0_7 a0_8 a0_9 a0_10 a0_11 a0_12 a0_13 a0_14 a0_15 a0_16 a1 a2 a3 K) | _ => none }
noncomputable def spec_l7Obj.E (k : Nat) : Env := fun g => bif g == 123 then some (spec_l1In.e k) else bif g == 94 then some (spec_NameOk.e k) else bif g == 227 then some (spec_l7Waits.e k) else bif g == 180 then some (spec_ValueOk.e k) else none
noncomputable def spec_l7Obj.h : ZY := ⟨fun n => ⟨[], []⟩, fun _ => none, false, []⟩
theorem spec_l7Obj.f_eq {β : Type} (k : Nat) (a0_0 : Int) (a0_1 : ByteArray) (a0_2 : Int) (a0_3 : Int) (a0_4 : Int) (a0_5 : Bool) (a0_6 : List (List D)) (a0_7 : Int) (a0_8 : ByteArray) (a0_9 : Int) (a0_10 : List (List D)) (a0_11 : List (List D)) (a0_12 : Int) (a0_13 : ByteArray) (a0_14 : Int) (a0_15 : List (List D)) (a0_16 : List (List D)) (a1 : Int) (a2 : Int) (a3 : Bool) (K0 : List (List C) → List Out → Option β) : ZJ Try.prog (spec_l7Obj.E k) spec_l7Obj.h k Try.f193 (spec_l7Obj.as a0_0 a0_1 a0_2 a0_3 a0_4 a0_5 a0_6 a0_7 a0_8 a0_9 a0_10 a0_11 a0_12 a0_13 a0_14 a0_15 a0_16 a1 a2 a3) K0 = spec_l7Obj.g k a0_0 a0_1 a0_2 a0_3 a0_4 a0_5 a0_6 a0_7 a0_8 a0_9 a0_10 a0_11 a0_12 a0_13 a0_14 a0_15 a0_16 a1 a2 a3 (spec_l7Obj.kt a0_0 a0_1 a0_2 a0_3 a0_4 a0_5 a0_6 a0_7 a0_8 a0_9 a0_10 a0_11 a0_12 a0_13 a0_14 a0_15 a0_16 a1 a2 a3 K0) := by kernel_rfl
noncomputable def spec_l7Obj.dec (rs : List (List C)) (os : List Out) : Option (Bool) := Zd rs fun c1 r2 => Zd c1 fun x3 l4 => cD x3 fun d5 => ZaF d5 fun w0 => Ze l4 <| Ze r2 <| Ze os (some w0)
theorem spec_l7Obj.kt_dec (a0_0 : Int) (a0_1 : ByteArray) (a0_2 : Int) (a0_3 : Int) (a0_4 : Int) (a0_5 : Bool) (a0_6 : List (List D)) (a0_7 : Int) (a0_8 : ByteArray) (a0_9 : Int) (a0_10 : List (List D)) (a0_11 : List (List D)) (a0_12 : Int) (a0_13 : ByteArray) (a0_14 : Int) (a0_15 : List (List D)) (a0_16 : List (List D)) (a1 : Int) (a2 : Int) (a3 : Bool) : spec_l7Obj.kt a0_0 a0_1 a0_2 a0_3 a0_4 a0_5 a0_6 a0_7 a0_8 a0_9 a0_10 a0_11 a0_12 a0_13 a0_14 a0_15 a0_16 a1 a2 a3 spec_l7Obj.dec = (fun z0 => some z0) := by kernel_rfl
theorem spec_l7Obj.inj (a0_0 : Int) (a0_1 : ByteArray) (a0_2 : Int) (a0_3 : Int) (a0_4 : Int) (a0_5 : Bool) (a0_6 : List (List D)) (a0_7 : Int) (a0_8 : ByteArray) (a0_9 : Int) (a0_10 : List (List D)) (a0_11 : List (List D)) (a0_12 : Int) (a0_13 : ByteArray) (a0_14 : Int) (a0_15 : List (List D)) (a0_16 : List (List D)) (a1 : Int) (a2 : Int) (a3 : Bool) {rs : List (List C)} {os : List Out} {z0 : Bool} (h : spec_l7Obj.dec rs os = some z0) (ho : Zo (spec_l7Obj.as a0_0 a0_1 a0_2 a0_3 a0_4 a0_5 a0_6 a0_7 a0_8 a0_9 a0_10 a0_11 a0_12 a0_13 a0_14 a0_15 a0_16 a1 a2 a3) os) : rs = [[.d (.bool z0)]] ∧ os = [] := by
  unfold spec_l7Obj.dec at h
  obtain ⟨c1, r2, rfl, h1⟩ := Zb h
  obtain ⟨x3, l4, rfl, h2⟩ := Zb h1
  obtain ⟨d5, rfl, h3⟩ := Zt h2
  obtain ⟨w0, rfl, h4⟩ := Z0 h3
  obtain ⟨rfl, h5⟩ := Zc h4
  obtain ⟨rfl, h6⟩ := Zc h5
  obtain ⟨rfl, h7⟩ := Zc h6
  obtain rfl := Option.some.inj h7
  exact ⟨rfl, rfl⟩
theorem spec_l7Obj.ok (k : Nat) : Zv Try.prog 193 (spec_l7Obj.e k) := by
  refine Zu mix tyok (fn := Try.f193) (c := Zl Try.f193) Try.func193 (by kernel_rfl) (h := spec_l7Obj.h) (k := k) (E := spec_l7Obj.E k) (Zk (spec_l1In.ok k) (Zk (spec_NameOk.ok k) (Zk (spec_l7Waits.ok k) (Zk (spec_ValueOk.ok k) Zz)))) (by kernel_rfl) (by kernel_rfl) rfl (Zq Try.func193 (by kernel_rfl)) ?_
  intro β l K r hr
  simp only [spec_l7Obj.e] at hr
  split at hr
  case h_2 => cases hr
  unfold spec_l7Obj.f at hr
  split at hr
  case h_2 => cases hr
  rename_i hz
  exact ⟨_, _, hr, _, spec_l7Obj.dec, _, (spec_l7Obj.f_eq k _ _ _ _ _ _ _ _ _ _ _ _ _ _ _ _ _ _ _ _ spec_l7Obj.dec).trans (by rw [spec_l7Obj.kt_dec]; exact hz), fun rs os h ho => spec_l7Obj.inj _ _ _ _ _ _ _ _ _ _ _ _ _ _ _ _ _ _ _ _ h ho⟩
noncomputable def spec_l7Less.g {β : Type} (k : Nat) (a0_0 : Int) (a0_1 : ByteArray) (a0_2 : Int) (a0_3 : Int) (a0_4 : Int) (a0_5 : Bool) (a0_6 : List (List D)) (a0_7 : Int) (a0_8 : ByteArray) (a0_9 : Int) (a0_10 : List (List D)) (a0_11 : List (List D)) (a0_12 : Int) (a0_13 : ByteArray) (a0_14 : Int) (a0_15 : List (List D)) (a0_16 : List (List D)) (a1_0 : Int) (a1_1 : ByteArray) (a1_2 : Int) (a1_3 : Int) (a1_4 : Int) (a1_5 : Bool) (a1_6 : List (List D)) (a1_7 : Int) (a1_8 : ByteArray) (a1_9 : Int) (a1_10 : List (List D)) (a1_11 : List (List D)) (a1_12 : Int) (a1_13 : ByteArray) (a1_14 : Int) (a1_15 : List (List D)) (a1_16 : List (List D)) (K : Bool → Option β) : Option β :=
  bif (decide ((a0_0 : Int) < a1_0)) then (K true) else (bif ((a0_0 : Int) == a1_0) then (K (strLt a0_1 a1_1)) else (K false))
noncomputable def spec_l7Less.t (k : Nat) (a0_0 : Int) (a0_1 : ByteArray) (a0_2 : Int) (a0_3 : Int) (a0_4 : Int) (a0_5 : Bool) (a0_6 : List (List D)) (a0_7 : Int) (a0_8 : ByteArray) (a0_9 : Int) (a0_10 : List (List D)) (a0_11 : List (List D)) (a0_12 : Int) (a0_13 : ByteArray) (a0_14 : Int) (a0_15 : List (List D)) (a0_16 : List (List D)) (a1_0 : Int) (a1_1 : ByteArray) (a1_2 : Int) (a1_3 : Int) (a1_4 : Int) (a1_5 : Bool) (a1_6 : List (List D)) (a1_7 : Int) (a1_8 : ByteArray) (a1_9 : Int) (a1_10 : List (List D)) (a1_11 : List (List D)) (a1_12 : Int) (a1_13 : ByteArray) (a1_14 : Int) (a1_15 : List (List D)) (a1_16 : List (List D)) : Option (Bool) := spec_l7Less.g k a0_0 a0_1 a0_2 a0_3 a0_4 a0_5 a0_6 a0_7 a0_8 a0_9 a0_10 a0_11 a0_12 a0_13 a0_14 a0_15 a0_16 a1_0 a1_1 a1_2 a1_3 a1_4 a1_5 a1_6 a1_7 a1_8 a1_9 a1_10 a1_11 a1_12 a1_13 a1_14 a1_15 a1_16 (fun z0 => some z0)
noncomputable def spec_l7Less.f {β : Type} (k : Nat) (a0_0 : Int) (a0_1 : ByteArray) (a0_2 : Int) (a0_3 : Int) (a0_4 : Int) (a0_5 : Bool) (a0_6 : List (List D)) (a0_7 : Int) (a0_8 : ByteArray) (a0_9 : Int) (a0_10 : List (List D)) (a0_11 : List (List D)) (a0_12 : Int) (a0_13 : ByteArray) (a0_14 : Int) (a0_15 : List (List D)) (a0_16 : List (List D)) (a1_0 : Int) (a1_1 : ByteArray) (a1_2 : Int) (a1_3 : Int) (a1_4 : Int) (a1_5 : Bool) (a1_6 : List (List D)) (a1_7 : Int) (a1_8 : ByteArray) (a1_9 : Int) (a1_10 : List (List D)) (a1_11 : List (List D)) (a1_12 : Int) (a1_13 : ByteArray) (a1_14 : Int) (a1_15 : List (List D)) (a1_16 : List (List D)) (K : Bool → Option β) : Option β :=
  match spec_l7Less.t k a0_0 a0_1 a0_2 a0_3 a0_4 a0_5 a0_6 a0_7 a0_8 a0_9 a0_10 a0_11 a0_12 a0_13 a0_14 a0_15 a0_16 a1_0 a1_1 a1_2 a1_3 a1_4 a1_5 a1_6 a1_7 a1_8 a1_9 a1_10 a1_11 a1_12 a1_13 a1_14 a1_15 a1_16 with
  | some z0 => K z0
  | none => none
noncomputable def spec_l7Less.as (a0_0 : Int) (a0_1 : ByteArray) (a0_2 : Int) (a0_3 : Int) (a0_4 : Int) (a0_5 : Bool) (a0_6 : List (List D)) (a0_7 : Int) (a0_8 : ByteArray) (a0_9 : Int) (a0_10 : List (List D)) (a0_11 : List (List D)) (a0_12 : Int) (a0_13 : ByteArray) (a0_14 : Int) (a0_15 : List (List D)) (a0_16 : List (List D)) (a1_0 : Int) (a1_1 : ByteArray) (a1_2 : Int) (a1_3 : Int) (a1_4 : Int) (a1_5 : Bool) (a1_6 : List (List D)) (a1_7 : Int) (a1_8 : ByteArray) (a1_9 : Int) (a1_10 : List (List D)) (a1_11 : List (List D)) (a1_12 : Int) (a1_13 : ByteArray) (a1_14 : Int) (a1_15 : List (List D)) (a1_16 : List (List D)) : List A := [.agg [.int .i64 a0_0, .str a0_1, .int .i64 a0_2, .int .i64 a0_3, .int .i64 a0_4, .bool a0_5, .sl a0_6, .int .i64 a0_7, .str a0_8, .int .i64 a0_9, .sl a0_10, .sl a0_11, .int .i64 a0_12, .str a0_13, .int .i64 a0_14, .sl a0_15, .sl a0_16], .agg [.int .i64 a1_0, .str a1_1, .int .i64 a1_2, .int .i64 a1_3, .int .i64 a1_4, .bool a1_5, .sl a1_6, .int .i64 a1_7, .str a1_8, .int .i64 a1_9, .sl a1_10, .sl a1_11, .int .i64 a1_12, .str a1_13, .int .i64 a1_14, .sl a1_15, .sl a1_16]]
noncomputable def spec_l7Less.kt {β : Type} (a0_0 : Int) (a0_1 : ByteArray) (a0_2 : Int) (a0_3 : Int) (a0_4 : Int) (a0_5 : Bool) (a0_6 : List (List D)) (a0_7 : Int) (a0_8 : ByteArray) (a0_9 : Int) (a0_10 : List (List D)) (a0_11 : List (List D)) (a0_12 : Int) (a0_13 : ByteArray) (a0_14 : Int) (a0_15 : List (List D)) (a0_16 : List (List D)) (a1_0 : Int) (a1_1 : ByteArray) (a1_2 : Int) (a1_3 : Int) (a1_4 : Int) (a1_5 : Bool) (a1_6 : List (List D)) (a1_7 : Int) (a1_8 : ByteArray) (a1_9 : Int) (a1_10 : List (List D)) (a1_11 : List (List D)) (a1_12 : Int) (a1_13 : ByteArray) (a1_14 : Int) (a1_15 : List (List D)) (a1_16 : List (List D)) (K0 : List (List C) → List Out → Option β) : Bool → Option β := fun z0 => K0 [[.d (.bool z0)]] []
noncomputable def spec_l7Less.e (k : Nat) : ZQ := { modes := [(.imm, 0), (.imm, 0)], rts := [4], al := false, run := fun {β} l K => match l with | [.agg [.int .i64 a0_0, .str a0_1, .int .i64 a0_2, .int .i64 a0_3, .int .i64 a0_4, .bool a0_5, .sl a0_6, .int .i64 a0_7, .str a0_8, .int .i64 a0_9, .sl a0_10, .sl a0_11, .int .i64 a0_12, .str a0_13, .int .i64 a0_14, .sl a0_15, .sl a0_16], .agg [.int .i64 a1_0, .str a1_1, .int .i64 a1_2, .int .i64 a1_3, .int .i64 a1_4, .bool a1_5, .sl a1_6, .int .i64 a1_7, .str a1_8, .int .i64 a1_9, .sl a1_10, .sl a1_11, .int .i64 a1_12, .str a1_13, .int .i64 a1_14, .sl a1_15, .sl a1_16]] => spec_l7Less.f k a0_0 a0_1 a0_2 a0_3 a0_4 a0_5 a0_6 a0_7 a0_8 a0_9 a0_10 a0_11 a0_12 a0_13 a0_14 a0_15 a0_16 a1_0 a1_1 a1_2 a1_3 a1_4 a1_5 a1_6 a1_7 a1_8 a1_9 a1_10 a1_11 a1_12 a1_13 a1_14 a1_15 a1_16 (spec_l7Less.kt a0_0 a0_1 a0_2 a0_3 a0_4 a0_5 a0_6 a0_7 a0_8 a0_9 a0_10 a0_11 a0_12 a0_13 a0_14 a0_15 a0_16 a1_0 a1_1 a1_2 a1_3 a1_4 a1_5 a1_6 a1_7 a1_8 a1_9 a1_10 a1_11 a1_12 a1_13 a1_14 a1_15 a1_16 K) | _ => none }
noncomputable def spec_l7Less.E (k : Nat) : Env := fun g => none
noncomputable def spec_l7Less.h : ZY := ⟨fun n => ⟨[], []⟩, fun _ => none, false, []⟩
theorem spec_l7Less.f_eq {β : Type} (k : Nat) (a0_0 : Int) (a0_1 : ByteArray) (a0_2 : Int) (a0_3 : Int) (a0_4 : Int) (a0_5 : Bool) (a0_6 : List (List D)) (a0_7 : Int) (a0_8 : ByteArray) (a0_9 : Int) (a0_10 : List (List D)) (a0_11 : List (List D)) (a0_12 : Int) (a0_13 : ByteArray) (a0_14 : Int) (a0_15 : List (List D)) (a0_16 : List (List D)) (a1_0 : Int) (a1_1 : ByteArray) (a1_2 : Int) (a1_3 : Int) (a1_4 : Int) (a1_5 : Bool) (a1_6 : List (List D)) (a1_7 : Int) (a1_8 : ByteArray) (a1_9 : Int) (a1_10 : List (List D)) (a1_11 : List (List D)) (a1_12 : Int) (a1_13 : ByteArray) (a1_14 : Int) (a1_15 : List (List D)) (a1_16 : List (List D)) (K0 : List (List C) → List Out → Option β) : ZJ Try.prog (spec_l7Less.E k) spec_l7Less.h k Try.f194 (spec_l7Less.as a0_0 a0_1 a0_2 a0_3 a0_4 a0_5 a0_6 a0_7 a0_8 a0_9 a0_10 a0_11 a0_12 a0_13 a0_14 a0_15 a0_16 a1_0 a1_1 a1_2 a1_3 a1_4 a1_5 a1_6 a1_7 a1_8 a1_9 a1_10 a1_11 a1_12 a1_13 a1_14 a1_15 a1_16) K0 = spec_l7Less.g k a0_0 a0_1 a0_2 a0_3 a0_4 a0_5 a0_6 a0_7 a0_8 a0_9 a0_10 a0_11 a0_12 a0_13 a0_14 a0_15 a0_16 a1_0 a1_1 a1_2 a1_3 a1_4 a1_5 a1_6 a1_7 a1_8 a1_9 a1_10 a1_11 a1_12 a1_13 a1_14 a1_15 a1_16 (spec_l7Less.kt a0_0 a0_1 a0_2 a0_3 a0_4 a0_5 a0_6 a0_7 a0_8 a0_9 a0_10 a0_11 a0_12 a0_13 a0_14 a0_15 a0_16 a1_0 a1_1 a1_2 a1_3 a1_4 a1_5 a1_6 a1_7 a1_8 a1_9 a1_10 a1_11 a1_12 a1_13 a1_14 a1_15 a1_16 K0) := by kernel_rfl
noncomputable def spec_l7Less.dec (rs : List (List C)) (os : List Out) : Option (Bool) := Zd rs fun c1 r2 => Zd c1 fun x3 l4 => cD x3 fun d5 => ZaF d5 fun w0 => Ze l4 <| Ze r2 <| Ze os (some w0)
theorem spec_l7Less.kt_dec (a0_0 : Int) (a0_1 : ByteArray) (a0_2 : Int) (a0_3 : Int) (a0_4 : Int) (a0_5 : Bool) (a0_6 : List (List D)) (a0_7 : Int) (a0_8 : ByteArray) (a0_9 : Int) (a0_10 : List (List D)) (a0_11 : List (List D)) (a0_12 : Int) (a0_13 : ByteArray) (a0_14 : Int) (a0_15 : List (List D)) (a0_16 : List (List D)) (a1_0 : Int) (a1_1 : ByteArray) (a1_2 : Int) (a1_3 : Int) (a1_4 : Int) (a1_5 : Bool) (a1_6 : List (List D)) (a1_7 : Int) (a1_8 : ByteArray) (a1_9 : Int) (a1_10 : List (List D)) (a1_11 : List (List D)) (a1_12 : Int) (a1_13 : ByteArray) (a1_14 : Int) (a1_15 : List (List D)) (a1_16 : List (List D)) : spec_l7Less.kt a0_0 a0_1 a0_2 a0_3 a0_4 a0_5 a0_6 a0_7 a0_8 a0_9 a0_10 a0_11 a0_12 a0_13 a0_14 a0_15 a0_16 a1_0 a1_1 a1_2 a1_3 a1_4 a1_5 a1_6 a1_7 a1_8 a1_9 a1_10 a1_11 a1_12 a1_13 a1_14 a1_15 a1_16 spec_l7Less.dec = (fun z0 => some z0) := by kernel_rfl
theorem spec_l7Less.inj (a0_0 : Int) (a0_1 : ByteArray) (a0_2 : Int) (a0_3 : Int) (a0_4 : Int) (a0_5 : Bool) (a0_6 : List (List D)) (a0_7 : Int) (a0_8 : ByteArray) (a0_9 : Int) (a0_10 : List (List D)) (a0_11 : List (List D)) (a0_12 : Int) (a0_13 : ByteArray) (a0_14 : Int) (a0_15 : List (List D)) (a0_16 : List (List D)) (a1_0 : Int) (a1_1 : ByteArray) (a1_2 : Int) (a1_3 : Int) (a1_4 : Int) (a1_5 : Bool) (a1_6 : List (List D)) (a1_7 : Int) (a1_8 : ByteArray) (a1_9 : Int) (a1_10 : List (List D)) (a1_11 : List (List D)) (a1_12 : Int) (a1_13 : ByteArray) (a1_14 : Int) (a1_15 : List (List D)) (a1_16 : List (List D)) {rs : List (List C)} {os : List Out} {z0 : Bool} (h : spec_l7Less.dec rs os = some z0) (ho : Zo (spec_l7Less.as a0_0 a0_1 a0_2 a0_3 a0_4 a0_5 a0_6 a0_7 a0_8 a0_9 a0_10 a0_11 a0_12 a0_13 a0_14 a0_15 a0_16 a1_0 a1_1 a1_2 a1_3 a1_4 a1_5 a1_6 a1_7 a1_8 a1_9 a1_10 a1_11 a1_12 a1_13 a1_14 a1_15 a1_16) os) : rs = [[.d (.bool z0)]] ∧ os = [] := by
  unfold spec_l7Less.dec at h
  obtain ⟨c1, r2, rfl, h1⟩ := Zb h
  obtain ⟨x3, l4, rfl, h2⟩ := Zb h1
  obtain ⟨d5, rfl, h3⟩ := Zt h2
  obtain ⟨w0, rfl, h4⟩ := Z0 h3
  obtain ⟨rfl, h5⟩ := Zc h4
  obtain ⟨rfl, h6⟩ := Zc h5
  obtain ⟨rfl, h7⟩ := Zc h6
  obtain rfl := Option.some.inj h7
  exact ⟨rfl, rfl⟩
theorem spec_l7Less.ok (k : Nat) : Zv Try.prog 194 (spec_l7Less.e k) := by
  refine Zu mix tyok (fn := Try.f194) (c := Zl Try.f194) Try.func194 (by kernel_rfl) (h := spec_l7Less.h) (k := k) (E := spec_l7Less.E k) Zz (by kernel_rfl) (by kernel_rfl) rfl (Zq Try.func194 (by kernel_rfl)) ?_
  intro β l K r hr
  simp only [spec_l7Less.e] at hr
  split at hr
  case h_2 => cases hr
  unfold spec_l7Less.f at hr
  split at hr
  case h_2 => cases hr
  rename_i hz
  exact ⟨_, _, hr, _, spec_l7Less.dec, _, (spec_l7Less.f_eq k _ _ _ _ _ _ _ _ _ _ _ _ _ _ _ _ _ _ _ _ _ _ _ _ _ _ _ _ _ _ _ _ _ _ spec_l7Less.dec).trans (by rw [spec_l7Less.kt_dec]; exact hz), fun rs os h ho => spec_l7Less.inj _ _ _ _ _ _ _ _ _ _ _ _ _ _ _ _ _ _ _ _ _ _ _ _ _ _ _ _ _ _ _ _ _ _ h ho⟩
noncomputable def spec_l7Objs.l2 {β : Type} (k : Nat) (v2_0 : List (List D)) (v2_1 : Int) (v2_2 : Int) (v2_3 : Int) (L0 : ((List (List D)) × Int × Int × Int) → Option β) (K : Bool → Option β) (L2 : Int → Option β) (v : Int) : Option β :=
  match v with
  | v2_4 => bif (decide ((v2_4 : Int) < v2_3)) then (ZX v2_0 v2_4 fun c1045 => Zd c1045 fun d1046 r1047 => ZM .i64 d1046 fun x1048 => Zd r1047 fun d1049 r1050 => Zan d1049 fun x1051 => Zd r1050 fun d1052 r1053 => ZM .i64 d1052 fun x1054 => Zd r1053 fun d1055 r1056 => ZM .i64 d1055 fun x1057 => Zd r1056 fun d1058 r1059 => ZM .i64 d1058 fun x1060 => Zd r1059 fun d1061 r1062 => ZaF d1061 fun x1063 => Zd r1062 fun d1064 r1065 => dSl d1064 fun x1066 => Zd r1065 fun d1067 r1068 => ZM .i64 d1067 fun x1069 => Zd r1068 fun d1070 r1071 => Zan d1070 fun x1072 => Zd r1071 fun d1073 r1074 => ZM .i64 d1073 fun x1075 => Zd r1074 fun d1076 r1077 => dSl d1076 fun x1078 => Zd r1077 fun d1079 r1080 => dSl d1079 fun x1081 => Zd r1080 fun d1082 r1083 => ZM .i64 d1082 fun x1084 => Zd r1083 fun d1085 r1086 => Zan d1085 fun x1087 => Zd r1086 fun d1088 r1089 => ZM .i64 d1088 fun x1090 => Zd r1089 fun d1091 r1092 => dSl d1091 fun x1093 => Zd r1092 fun d1094 r1095 => dSl d1094 fun x1096 => Ze r1095 (ZX v2_0 v2_3 fun c1097 => Zd c1097 fun d1098 r1099 => ZM .i64 d1098 fun x1100 => Zd r1099 fun d1101 r1102 => Zan d1101 fun x1103 => Zd r1102 fun d1104 r1105 => ZM .i64 d1104 fun x1106 => Zd r1105 fun d1107 r1108 => ZM .i64 d1107 fun x1109 => Zd r1108 fun d1110 r1111 => ZM .i64 d1110 fun x1112 => Zd r1111 fun d1113 r1114 => ZaF d1113 fun x1115 => Zd r1114 fun d1116 r1117 => dSl d1116 fun x1118 => Zd r1117 fun d1119 r1120 => ZM .i64 d1119 fun x1121 => Zd r1120 fun d1122 r1123 => Zan d1122 fun x1124 => Zd r1123 fun d1125 r1126 => ZM .i64 d1125 fun x1127 => Zd r1126 fun d1128 r1129 => dSl d1128 fun x1130 => Zd r1129 fun d1131 r1132 => dSl d1131 fun x1133 => Zd r1132 fun d1134 r1135 => ZM .i64 d1134 fun x1136 => Zd r1135 fun d1137 r1138 => Zan d1137 fun x1139 => Zd r1138 fun d1140 r1141 => ZM .i64 d1140 fun x1142 => Zd r1141 fun d1143 r1144 => dSl d1143 fun x1145 => Zd r1144 fun d1146 r1147 => dSl d1146 fun x1148 => Ze r1147 (bif ((x1054 : Int) == x1106) then (K false) else (L2 (IntKind.wrap .i64 (v2_4 + 1)))))) else (L0 (v2_0, v2_1, v2_2, IntKind.wrap .i64 (v2_3 + 1)))
noncomputable def spec_l7Objs.l1 {β : Type} (k : Nat) (v1_0 : List (List D)) (v1_1 : Int) (v1_2 : Int) (v1_3 : Int) (L0 : ((List (List D)) × Int × Int × Int) → Option β) (K : Bool → Option β) (L1 : Int → Option β) (v : Int) : Option β :=
  match v with
  | v1_4 => bif (decide ((v1_4 : Int) < v1_3)) then (ZX v1_0 v1_4 fun c837 => Zd c837 fun d838 r839 => ZM .i64 d838 fun x840 => Zd r839 fun d841 r842 => Zan d841 fun x843 => Zd r842 fun d844 r845 => ZM .i64 d844 fun x846 => Zd r845 fun d847 r848 => ZM .i64 d847 fun x849 => Zd r848 fun d850 r851 => ZM .i64 d850 fun x852 => Zd r851 fun d853 r854 => ZaF d853 fun x855 => Zd r854 fun d856 r857 => dSl d856 fun x858 => Zd r857 fun d859 r860 => ZM .i64 d859 fun x861 => Zd r860 fun d862 r863 => Zan d862 fun x864 => Zd r863 fun d865 r866 => ZM .i64 d865 fun x867 => Zd r866 fun d868 r869 => dSl d868 fun x870 => Zd r869 fun d871 r872 => dSl d871 fun x873 => Zd r872 fun d874 r875 => ZM .i64 d874 fun x876 => Zd r875 fun d877 r878 => Zan d877 fun x879 => Zd r878 fun d880 r881 => ZM .i64 d880 fun x882 => Zd r881 fun d883 r884 => dSl d883 fun x885 => Zd r884 fun d886 r887 => dSl d886 fun x888 => Ze r887 (ZX v1_0 v1_3 fun c889 => Zd c889 fun d890 r891 => ZM .i64 d890 fun x892 => Zd r891 fun d893 r894 => Zan d893 fun x895 => Zd r894 fun d896 r897 => ZM .i64 d896 fun x898 => Zd r897 fun d899 r900 => ZM .i64 d899 fun x901 => Zd r900 fun d902 r903 => ZM .i64 d902 fun x904 => Zd r903 fun d905 r906 => ZaF d905 fun x907 => Zd r906 fun d908 r909 => dSl d908 fun x910 => Zd r909 fun d911 r912 => ZM .i64 d911 fun x913 => Zd r912 fun d914 r915 => Zan d914 fun x916 => Zd r915 fun d917 r918 => ZM .i64 d917 fun x919 => Zd r918 fun d920 r921 => dSl d920 fun x922 => Zd r921 fun d923 r924 => dSl d923 fun x925 => Zd r924 fun d926 r927 => ZM .i64 d926 fun x928 => Zd r927 fun d929 r930 => Zan d929 fun x931 => Zd r930 fun d932 r933 => ZM .i64 d932 fun x934 => Zd r933 fun d935 r936 => dSl d935 fun x937 => Zd r936 fun d938 r939 => dSl d938 fun x940 => Ze r939 (bif ((x846 : Int) == x898) then (K false) else (L1 (IntKind.wrap .i64 (v1_4 + 1)))))) else (L0 (v1_0, v1_1, v1_2, IntKind.wrap .i64 (v1_3 + 1)))
set_option maxRecDepth 100000 in
noncomputable def spec_l7Objs.l0 {β : Type} (k : Nat) (K : Bool → Option β) (L0 : ((List (List D)) × Int × Int × Int) → Option β) (v : (List (List D)) × Int × Int × Int) : Option β :=
  match v with
  | (v0_0, v0_1, v0_2, v0_3) => bif (decide ((v0_3 : Int) < (v0_0.length : Int))) then (ZX v0_0 v0_3 fun c575 => Zd c575 fun d576 r577 => ZM .i64 d576 fun x578 => Zd r577 fun d579 r580 => Zan d579 fun x581 => Zd r580 fun d582 r583 => ZM .i64 d582 fun x584 => Zd r583 fun d585 r586 => ZM .i64 d585 fun x587 => Zd r586 fun d588 r589 => ZM .i64 d588 fun x590 => Zd r589 fun d591 r592 => ZaF d591 fun x593 => Zd r592 fun d594 r595 => dSl d594 fun x596 => Zd r595 fun d597 r598 => ZM .i64 d597 fun x599 => Zd r598 fun d600 r601 => Zan d600 fun x602 => Zd r601 fun d603 r604 => ZM .i64 d603 fun x605 => Zd r604 fun d606 r607 => dSl d606 fun x608 => Zd r607 fun d609 r610 => dSl d609 fun x611 => Zd r610 fun d612 r613 => ZM .i64 d612 fun x614 => Zd r613 fun d615 r616 => Zan d615 fun x617 => Zd r616 fun d618 r619 => ZM .i64 d618 fun x620 => Zd r619 fun d621 r622 => dSl d621 fun x623 => Zd r622 fun d624 r625 => dSl d624 fun x626 => Ze r625 (spec_l7Obj.f k x578 x581 x584 x587 x590 x593 x596 x599 x602 x605 x608 x611 x614 x617 x620 x623 x626 v0_1 v0_2 false (fun y627 => bif (!y627) then (K false) else (bif (decide ((v0_3 : Int) > 0)) then (ZX v0_0 (IntKind.wrap .i64 (v0_3 - 1)) fun c628 => Zd c628 fun d629 r630 => ZM .i64 d629 fun x631 => Zd r630 fun d632 r633 => Zan d632 fun x634 => Zd r633 fun d635 r636 => ZM .i64 d635 fun x637 => Zd r636 fun d638 r639 => ZM .i64 d638 fun x640 => Zd r639 fun d641 r642 => ZM .i64 d641 fun x643 => Zd r642 fun d644 r645 => ZaF d644 fun x646 => Zd r645 fun d647 r648 => dSl d647 fun x649 => Zd r648 fun d650 r651 => ZM .i64 d650 fun x652 => Zd r651 fun d653 r654 => Zan d653 fun x655 => Zd r654 fun d656 r657 => ZM .i64 d656 fun x658 => Zd r657 fun d659 r660 => dSl d659 fun x661 => Zd r660 fun d662 r663 => dSl d662 fun x664 => Zd r663 fun d665 r666 => ZM .i64 d665 fun x667 => Zd r666 fun d668 r669 => Zan d668 fun x670 => Zd r669 fun d671 r672 => ZM .i64 d671 fun x673 => Zd r672 fun d674 r675 => dSl d674 fun x676 => Zd r675 fun d677 r678 => dSl d677 fun x679 => Ze r678 (ZX v0_0 v0_3 fun c680 => Zd c680 fun d681 r682 => ZM .i64 d681 fun x683 => Zd r682 fun d684 r685 => Zan d684 fun x686 => Zd r685 fun d687 r688 => ZM .i64 d687 fun x689 => Zd r688 fun d690 r691 => ZM .i64 d690 fun x692 => Zd r691 fun d693 r694 => ZM .i64 d693 fun x695 => Zd r694 fun d696 r697 => ZaF d696 fun x698 => Zd r697 fun d699 r700 => dSl d699 fun x701 => Zd r700 fun d702 r703 => ZM .i64 d702 fun x704 => Zd r703 fun d705 r706 => Zan d705 fun x707 => Zd r706 fun d708 r709 => ZM .i64 d708 fun x710 => Zd r709 fun d711 r712 => dSl d711 fun x713 => Zd r712 fun d714 r715 => dSl d714 fun x716 => Zd r715 fun d717 r718 => ZM .i64 d717 fun x719 => Zd r718 fun d720 r721 => Zan d720 fun x722 => Zd r721 fun d723 r724 => ZM .i64 d723 fun x725 => Zd r724 fun d726 r727 => dSl d726 fun x728 => Zd r727 fun d729 r730 => dSl d729 fun x731 => Ze r730 (spec_l7Less.f k x631 x634 x637 x640 x643 x646 x649 x652 x655 x658 x661 x664 x667 x670 x673 x676 x679 x683 x686 x689 x692 x695 x698 x701 x704 x707 x710 x713 x716 x719 x722 x725 x728 x731 (fun y732 => bif (!y732) then (K false) else (Z4 (spec_l7Objs.l1 k v0_0 v0_1 v0_2 v0_3 L0 K) k (0)))))) else (Z4 (spec_l7Objs.l2 k v0_0 v0_1 v0_2 v0_3 L0 K) k (0)))))) else (K (decide (((v0_0.length : Int) : Int) ≤ 60)))
noncomputable def spec_l7Objs.g {β : Type} (k : Nat) (a0 : List (List D)) (a1 : Int) (a2 : Int) (K : Bool → Option β) : Option β :=
  Z4 (spec_l7Objs.l0 k K) k (a0, a1, a2, 0)
noncomputable def spec_l7Objs.t (k : Nat) (a0 : List (List D)) (a1 : Int) (a2 : Int) : Option (Bool) := spec_l7Objs.g k a0 a1 a2 (fun z0 => some z0)
noncomputable def spec_l7Objs.f {β : Type} (k : Nat) (a0 : List (List D)) (a1 : Int) (a2 : Int) (K : Bool → Option β) : Option β :=
  match spec_l7Objs.t k a0 a1 a2 with
  | some z0 => K z0
  | none => none
noncomputable def spec_l7Objs.as (a0 : List (List D)) (a1 : Int) (a2 : Int) : List A := [.d (.sl a0), .d (.int .i64 a1), .d (.int .i64 a2)]
noncomputable def spec_l7Objs.kt {β : Type} (a0 : List (List D)) (a1 : Int) (a2 : Int) (K0 : List (List C) → List Out → Option β) : Bool → Option β := fun z0 => K0 [[.d (.bool z0)]] []
noncomputable def spec_l7Objs.e (k : Nat) : ZQ := { modes := [(.imm, 0), (.imm, 0), (.imm, 0)], rts := [4], al := false, run := fun {β} l K => match l with | [.d (.sl a0), .d (.int .i64 a1), .d (.int .i64 a2)] => spec_l7Objs.f k a0 a1 a2 (spec_l7Objs.kt a0 a1 a2 K) | _ => none }
noncomputable def spec_l7Objs.E (k : Nat) : Env := fun g => bif g == 193 then some (spec_l7Obj.e k) else bif g == 194 then some (spec_l7Less.e k) else none
noncomputable def spec_l7Objs.h : ZY := ⟨fun n => bif n == 7 then ⟨[(0, .asis), (1, .asis), (2, .asis), (7, .asis), (8, .asis)], []⟩ else bif n == 2 then ⟨[(0, .asis), (1, .asis), (2, .asis), (7, .asis)], []⟩ else ⟨[], []⟩, fun _ => none, false, []⟩
noncomputable def spec_l7Objs.s0 (v : (List (List D)) × Int × Int × Int) : St :=
  match v with
  | (v0_0, v0_1, v0_2, v0_3) => ⟨[.d false (.sl v0_0), .d false (.int .i64 v0_1), .d false (.int .i64 v0_2), .any, .any, .any, .any, .d true (.int .i64 v0_3), .any, .any, .any, .any, .any, .any, .any, .any, .any, .any, .any, .any, .any, .any, .any, .any, .any, .any, .any, .any, .any, .any, .any, .any, .any, .any, .any, .any, .any, .any, .any, .any, .any, .any, .any, .any, .any, .any, .any, .any, .any, .any, .any, .any, .any, .any, .any, .any, .any, .any, .any], []⟩
noncomputable def spec_l7Objs.b0 {β : Type} (k : Nat) : St → (Ex → St → Option β) → Option β := fun s K => den Try.prog (spec_l7Objs.E k) spec_l7Objs.h.H spec_l7Objs.h.J k (Zad [1, 0, 1, 0, 0] (Zl Try.f124)) s K
noncomputable def spec_l7Objs.c0 {β : Type} (k : Nat) (a0 : List (List D)) (a1 : Int) (a2 : Int) (K0 : List (List C) → List Out → Option β) : Ex → St → Option β := Zae Try.prog (spec_l7Objs.E k) spec_l7Objs.h k [1, 0, 1, 0] (Zl Try.f124) (Zak Try.prog Try.f124 spec_l7Objs.h (spec_l7Objs.as a0 a1 a2) K0)
noncomputable def spec_l7Objs.s1 (v1_0 : List (List D)) (v1_1 : Int) (v1_2 : Int) (v1_3 : Int) (v : Int) : St :=
  match v with
  | v1_4 => ⟨[.d false (.sl v1_0), .d false (.int .i64 v1_1), .d false (.int .i64 v1_2), .any, .any, .any, .any, .d true (.int .i64 v1_3), .d true (.int .i64 v1_4), .any, .any, .any, .any, .any, .any, .any, .any, .any, .any, .any, .any, .any, .any, .any, .any, .any, .any, .any, .any, .any, .any, .any, .any, .any, .any, .any, .any, .any, .any, .any, .any, .any, .any, .any, .any, .any, .any, .any, .any, .any, .any, .any, .any, .any, .any, .any, .any, .any, .any], []⟩
noncomputable def spec_l7Objs.b1 {β : Type} (k : Nat) : St → (Ex → St → Option β) → Option β := fun s K => den Try.prog (spec_l7Objs.E k) spec_l7Objs.h.H spec_l7Objs.h.J k (Zad [1, 0, 1, 0, 0, 1, 0, 0, 1, 1, 0, 0] (Zl Try.f124)) s K
noncomputable def spec_l7Objs.c1 {β : Type} (k : Nat) (a0 : List (List D)) (a1 : Int) (a2 : Int) (K0 : List (List C) → List Out → Option β) (L0 : St → Option β) : Ex → St → Option β := Zae Try.prog (spec_l7Objs.E k) spec_l7Objs.h k [1, 0, 0, 1, 1, 0] (Zad [1, 0, 1, 0, 0] (Zl Try.f124)) (backK (spec_l7Objs.h.H 2) L0 (spec_l7Objs.c0 k a0 a1 a2 K0))
noncomputable def spec_l7Objs.s2 (v2_0 : List (List D)) (v2_1 : Int) (v2_2 : Int) (v2_3 : Int) (v : Int) : St :=
  match v with
  | v2_4 => ⟨[.d false (.sl v2_0), .d false (.int .i64 v2_1), .d false (.int .i64 v2_2), .any, .any, .any, .any, .d true (.int .i64 v2_3), .d true (.int .i64 v2_4), .any, .any, .any, .any, .any, .any, .any, .any, .any, .any, .any, .any, .any, .any, .any, .any, .any, .any, .any, .any, .any, .any, .any, .any, .any, .any, .any, .any, .any, .any, .any, .any, .any, .any, .any, .any, .any, .any, .any, .any, .any, .any, .any, .any, .any, .any, .any, .any, .any, .any], []⟩
noncomputable def spec_l7Objs.b2 {β : Type} (k : Nat) : St → (Ex → St → Option β) → Option β := fun s K => den Try.prog (spec_l7Objs.E k) spec_l7Objs.h.H spec_l7Objs.h.J k (Zad [1, 0, 1, 0, 0, 1, 0, 0, 1, 1, 0, 0] (Zl Try.f124)) s K
noncomputable def spec_l7Objs.c2 {β : Type} (k : Nat) (a0 : List (List D)) (a1 : Int) (a2 : Int) (K0 : List (List C) → List Out → Option β) (L0 : St → Option β) : Ex → St → Option β := Zae Try.prog (spec_l7Objs.E k) spec_l7Objs.h k [1, 0, 0, 1, 1, 0] (Zad [1, 0, 1, 0, 0] (Zl Try.f124)) (backK (spec_l7Objs.h.H 2) L0 (spec_l7Objs.c0 k a0 a1 a2 K0))
theorem spec_l7Objs.l2_eq {β : Type} (k : Nat) (a0 : List (List D)) (a1 : Int) (a2 : Int) (K0 : List (List C) → List Out → Option β) (v2_0 : List (List D)) (v2_1 : Int) (v2_2 : Int) (v2_3 : Int) (L0 : St → Option β) : ∀ (kk : Nat) (v : Int), Zx (spec_l7Objs.b2 k) (spec_l7Objs.h.H 7) kk (spec_l7Objs.s2 v2_0 v2_1 v2_2 v2_3 v) (spec_l7Objs.c2 k a0 a1 a2 K0 L0) = Z4 (spec_l7Objs.l2 k v2_0 v2_1 v2_2 v2_3 (fun v => L0 (spec_l7Objs.s0 v)) (spec_l7Objs.kt a0 a1 a2 K0)) kk v :=
  Z9 (spec_l7Objs.s2 v2_0 v2_1 v2_2 v2_3) _ (fun L2 v => by kernel_rfl)
theorem spec_l7Objs.l1_eq {β : Type} (k : Nat) (a0 : List (List D)) (a1 : Int) (a2 : Int) (K0 : List (List C) → List Out → Option β) (v1_0 : List (List D)) (v1_1 : Int) (v1_2 : Int) (v1_3 : Int) (L0 : St → Option β) : ∀ (kk : Nat) (v : Int), Zx (spec_l7Objs.b1 k) (spec_l7Objs.h.H 7) kk (spec_l7Objs.s1 v1_0 v1_1 v1_2 v1_3 v) (spec_l7Objs.c1 k a0 a1 a2 K0 L0) = Z4 (spec_l7Objs.l1 k v1_0 v1_1 v1_2 v1_3 (fun v => L0 (spec_l7Objs.s0 v)) (spec_l7Objs.kt a0 a1 a2 K0)) kk v :=
  Z9 (spec_l7Objs.s1 v1_0 v1_1 v1_2 v1_3) _ (fun L1 v => by kernel_rfl)
set_option maxRecDepth 100000 in
noncomputable def spec_l7Objs.m0 {β : Type} (k : Nat) (a0 : List (List D)) (a1 : Int) (a2 : Int) (K0 : List (List C) → List Out → Option β) (L0 : St → Option β) (v : (List (List D)) × Int × Int × Int) (F : ((List (List D)) → Int → Int → Int → Int → Option β) × ((List (List D)) → Int → Int → Int → Int → Option β)) : Option β :=
  match v with | (v0_0, v0_1, v0_2, v0_3) => bif (decide ((v0_3 : Int) < (v0_0.length : Int))) then (ZX v0_0 v0_3 fun c575 => Zd c575 fun d576 r577 => ZM .i64 d576 fun x578 => Zd r577 fun d579 r580 => Zan d579 fun x581 => Zd r580 fun d582 r583 => ZM .i64 d582 fun x584 => Zd r583 fun d585 r586 => ZM .i64 d585 fun x587 => Zd r586 fun d588 r589 => ZM .i64 d588 fun x590 => Zd r589 fun d591 r592 => ZaF d591 fun x593 => Zd r592 fun d594 r595 => dSl d594 fun x596 => Zd r595 fun d597 r598 => ZM .i64 d597 fun x599 => Zd r598 fun d600 r601 => Zan d600 fun x602 => Zd r601 fun d603 r604 => ZM .i64 d603 fun x605 => Zd r604 fun d606 r607 => dSl d606 fun x608 => Zd r607 fun d609 r610 => dSl d609 fun x611 => Zd r610 fun d612 r613 => ZM .i64 d612 fun x614 => Zd r613 fun d615 r616 => Zan d615 fun x617 => Zd r616 fun d618 r619 => ZM .i64 d618 fun x620 => Zd r619 fun d621 r622 => dSl d621 fun x623 => Zd r622 fun d624 r625 => dSl d624 fun x626 => Ze r625 (spec_l7Obj.f k x578 x581 x584 x587 x590 x593 x596 x599 x602 x605 x608 x611 x614 x617 x620 x623 x626 v0_1 v0_2 false (fun y627 => bif (!y627) then ((spec_l7Objs.kt a0 a1 a2 K0) false) else (bif (decide ((v0_3 : Int) > 0)) then (ZX v0_0 (IntKind.wrap .i64 (v0_3 - 1)) fun c628 => Zd c628 fun d629 r630 => ZM .i64 d629 fun x631 => Zd r630 fun d632 r633 => Zan d632 fun x634 => Zd r633 fun d635 r636 => ZM .i64 d635 fun x637 => Zd r636 fun d638 r639 => ZM .i64 d638 fun x640 => Zd r639 fun d641 r642 => ZM .i64 d641 fun x643 => Zd r642 fun d644 r645 => ZaF d644 fun x646 => Zd r645 fun d647 r648 => dSl d647 fun x649 => Zd r648 fun d650 r651 => ZM .i64 d650 fun x652 => Zd r651 fun d653 r654 => Zan d653 fun x655 => Zd r654 fun d656 r657 => ZM .i64 d656 fun x658 => Zd r657 fun d659 r660 => dSl d659 fun x661 => Zd r660 fun d662 r663 => dSl d662 fun x664 => Zd r663 fun d665 r666 => ZM .i64 d665 fun x667 => Zd r666 fun d668 r669 => Zan d668 fun x670 => Zd r669 fun d671 r672 => ZM .i64 d671 fun x673 => Zd r672 fun d674 r675 => dSl d674 fun x676 => Zd r675 fun d677 r678 => dSl d677 fun x679 => Ze r678 (ZX v0_0 v0_3 fun c680 => Zd c680 fun d681 r682 => ZM .i64 d681 fun x683 => Zd r682 fun d684 r685 => Zan d684 fun x686 => Zd r685 fun d687 r688 => ZM .i64 d687 fun x689 => Zd r688 fun d690 r691 => ZM .i64 d690 fun x692 => Zd r691 fun d693 r694 => ZM .i64 d693 fun x695 => Zd r694 fun d696 r697 => ZaF d696 fun x698 => Zd r697 fun d699 r700 => dSl d699 fun x701 => Zd r700 fun d702 r703 => ZM .i64 d702 fun x704 => Zd r703 fun d705 r706 => Zan d705 fun x707 => Zd r706 fun d708 r709 => ZM .i64 d708 fun x710 => Zd r709 fun d711 r712 => dSl d711 fun x713 => Zd r712 fun d714 r715 => dSl d714 fun x716 => Zd r715 fun d717 r718 => ZM .i64 d717 fun x719 => Zd r718 fun d720 r721 => Zan d720 fun x722 => Zd r721 fun d723 r724 => ZM .i64 d723 fun x725 => Zd r724 fun d726 r727 => dSl d726 fun x728 => Zd r727 fun d729 r730 => dSl d729 fun x731 => Ze r730 (spec_l7Less.f k x631 x634 x637 x640 x643 x646 x649 x652 x655 x658 x661 x664 x667 x670 x673 x676 x679 x683 x686 x689 x692 x695 x698 x701 x704 x707 x710 x713 x716 x719 x722 x725 x728 x731 (fun y732 => bif (!y732) then ((spec_l7Objs.kt a0 a1 a2 K0) false) else ((F.1) v0_0 v0_1 v0_2 v0_3 (0)))))) else ((F.2) v0_0 v0_1 v0_2 v0_3 (0)))))) else ((spec_l7Objs.kt a0 a1 a2 K0) (decide (((v0_0.length : Int) : Int) ≤ 60)))
theorem spec_l7Objs.l0_eq {β : Type} (k : Nat) (a0 : List (List D)) (a1 : Int) (a2 : Int) (K0 : List (List C) → List Out → Option β) : ∀ (kk : Nat) (v : (List (List D)) × Int × Int × Int), Zx (spec_l7Objs.b0 k) (spec_l7Objs.h.H 2) kk (spec_l7Objs.s0 v) (spec_l7Objs.c0 k a0 a1 a2 K0) = Z4 (spec_l7Objs.l0 k (spec_l7Objs.kt a0 a1 a2 K0)) kk v :=
  Z9 (spec_l7Objs.s0) _ (fun L0 v => by obtain ⟨v0_0, v0_1, v0_2, v0_3⟩ := v; exact Eq.trans (b := (spec_l7Objs.m0 k a0 a1 a2 K0 L0 (v0_0, v0_1, v0_2, v0_3)) ((fun (v1_0 : List (List D)) (v1_1 : Int) (v1_2 : Int) (v1_3 : Int) (v : Int) => Zx (spec_l7Objs.b1 k) (spec_l7Objs.h.H 7) k (spec_l7Objs.s1 v1_0 v1_1 v1_2 v1_3 v) (spec_l7Objs.c1 k a0 a1 a2 K0 L0)), (fun (v2_0 : List (List D)) (v2_1 : Int) (v2_2 : Int) (v2_3 : Int) (v : Int) => Zx (spec_l7Objs.b2 k) (spec_l7Objs.h.H 7) k (spec_l7Objs.s2 v2_0 v2_1 v2_2 v2_3 v) (spec_l7Objs.c2 k a0 a1 a2 K0 L0)))) (by kernel_rfl) (Eq.trans (congrArg (spec_l7Objs.m0 k a0 a1 a2 K0 L0 (v0_0, v0_1, v0_2, v0_3)) (pair_eq (funext fun v1_0 => funext fun v1_1 => funext fun v1_2 => funext fun v1_3 => funext fun v => spec_l7Objs.l1_eq k a0 a1 a2 K0 v1_0 v1_1 v1_2 v1_3 L0 k v) (funext fun v2_0 => funext fun v2_1 => funext fun v2_2 => funext fun v2_3 => funext fun v => spec_l7Objs.l2_eq k a0 a1 a2 K0 v2_0 v2_1 v2_2 v2_3 L0 k v))) (by kernel_rfl)))
noncomputable def spec_l7Objs.m {β : Type} (k : Nat) (a0 : List (List D)) (a1 : Int) (a2 : Int) (K0 : List (List C) → List Out → Option β) (F : (((List (List D)) × Int × Int × Int) → Option β)) : Option β :=
  (F) (a0, a1, a2, 0)
theorem spec_l7Objs.f_eq {β : Type} (k : Nat) (a0 : List (List D)) (a1 : Int) (a2 : Int) (K0 : List (List C) → List Out → Option β) : ZJ Try.prog (spec_l7Objs.E k) spec_l7Objs.h k Try.f124 (spec_l7Objs.as a0 a1 a2) K0 = spec_l7Objs.g k a0 a1 a2 (spec_l7Objs.kt a0 a1 a2 K0) := Eq.trans (b := (spec_l7Objs.m k a0 a1 a2 K0) (fun (v : (List (List D)) × Int × Int × Int) => Zx (spec_l7Objs.b0 k) (spec_l7Objs.h.H 2) k (spec_l7Objs.s0 v) (spec_l7Objs.c0 k a0 a1 a2 K0))) (by kernel_rfl) (Eq.trans (congrArg (spec_l7Objs.m k a0 a1 a2 K0) (funext fun v => spec_l7Objs.l0_eq k a0 a1 a2 K0 k v)) (by kernel_rfl))
noncomputable def spec_l7Objs.dec (rs : List (List C)) (os : List Out) : Option (Bool) := Zd rs fun c1 r2 => Zd c1 fun x3 l4 => cD x3 fun d5 => ZaF d5 fun w0 => Ze l4 <| Ze r2 <| Ze os (some w0)
theorem spec_l7Objs.kt_dec (a0 : List (List D)) (a1 : Int) (a2 : Int) : spec_l7Objs.kt a0 a1 a2 spec_l7Objs.dec = (fun z0 => some z0) := by kernel_rfl
theorem spec_l7Objs.inj (a0 : List (List D)) (a1 : Int) (a2 : Int) {rs : List (List C)} {os : List Out} {z0 : Bool} (h : spec_l7Objs.dec rs os = some z0) (ho : Zo (spec_l7Objs.as a0 a1 a2) os) : rs = [[.d (.bool z0)]] ∧ os = [] := by
  unfold spec_l7Objs.dec at h
  obtain ⟨c1, r2, rfl, h1⟩ := Zb h
  obtain ⟨x3, l4, rfl, h2⟩ := Zb h1
  obtain ⟨d5, rfl, h3⟩ := Zt h2
  obtain ⟨w0, rfl, h4⟩ := Z0 h3
  obtain ⟨rfl, h5⟩ := Zc h4
  obtain ⟨rfl, h6⟩ := Zc h5
  obtain ⟨rfl, h7⟩ := Zc h6
  obtain rfl := Option.some.inj h7
  exact ⟨rfl, rfl⟩
theorem spec_l7Objs.ok (k : Nat) : Zv Try.prog 124 (spec_l7Objs.e k) := by
  refine Zu mix tyok (fn := Try.f124) (c := Zl Try.f124) Try.func124 (by kernel_rfl) (h := spec_l7Objs.h) (k := k) (E := spec_l7Objs.E k) (Zk (spec_l7Obj.ok k) (Zk (spec_l7Less.ok k) Zz)) (by kernel_rfl) (by kernel_rfl) rfl (Zq Try.func124 (by kernel_rfl)) ?_
  intro β l K r hr
  simp only [spec_l7Objs.e] at hr
  split at hr
  case h_2 => cases hr
  unfold spec_l7Objs.f at hr
  split at hr
  case h_2 => cases hr
  rename_i hz
  exact ⟨_, _, hr, _, spec_l7Objs.dec, _, (spec_l7Objs.f_eq k _ _ _ spec_l7Objs.dec).trans (by rw [spec_l7Objs.kt_dec]; exact hz), fun rs os h ho => spec_l7Objs.inj _ _ _ h ho⟩
noncomputable def spec_MirrorOk.g {β : Type} (k : Nat) (a0_0 : Int) (a0_1 : List (List D)) (K : Bool → Option β) : Option β :=
  spec_l1In.f k a0_0 0 1000000 (fun y1 => bif y1 then (spec_l7Objs.f k a0_1 a0_0 1000001 (fun y1149 => K y1149)) else (K false))
noncomputable def spec_MirrorOk.t (k : Nat) (a0_0 : Int) (a0_1 : List (List D)) : Option (Bool) := spec_MirrorOk.g k a0_0 a0_1 (fun z0 => some z0)
noncomputable def spec_MirrorOk.f {β : Type} (k : Nat) (a0_0 : Int) (a0_1 : List (List D)) (K : Bool → Option β) : Option β :=
  match spec_MirrorOk.t k a0_0 a0_1 with
  | some z0 => K z0
  | none => none
noncomputable def spec_MirrorOk.as (a0_0 : Int) (a0_1 : List (List D)) : List A := [.agg [.int .i64 a0_0, .sl a0_1]]
noncomputable def spec_MirrorOk.kt {β : Type} (a0_0 : Int) (a0_1 : List (List D)) (K0 : List (List C) → List Out → Option β) : Bool → Option β := fun z0 => K0 [[.d (.bool z0)]] []
noncomputable def spec_MirrorOk.e (k : Nat) : ZQ := { modes := [(.imm, 0)], rts := [4], al := false, run := fun {β} l K => match l with | [.agg [.int .i64 a0_0, .sl a0_1]] => spec_MirrorOk.f k a0_0 a0_1 (spec_MirrorOk.kt a0_0 a0_1 K) | _ => none }
noncomputable def spec_MirrorOk.E (k : Nat) : Env := fun g => bif g == 123 then some (spec_l1In.e k) else bif g == 124 then some (spec_l7Objs.e k) else none
noncomputable def spec_MirrorOk.h : ZY := ⟨fun n => ⟨[], []⟩, fun _ => none, false, []⟩
theorem spec_MirrorOk.f_eq {β : Type} (k : Nat) (a0_0 : Int) (a0_1 : List (List D)) (K0 : List (List C) → List Out → Option β) : ZJ Try.prog (spec_MirrorOk.E k) spec_MirrorOk.h k Try.f45 (spec_MirrorOk.as a0_0 a0_1) K0 = spec_MirrorOk.g k a0_0 a0_1 (spec_MirrorOk.kt a0_0 a0_1 K0) := by kernel_rfl
noncomputable def spec_MirrorOk.dec (rs : List (List C)) (os : List Out) : Option (Bool) := Zd rs fun c1 r2 => Zd c1 fun x3 l4 => cD x3 fun d5 => ZaF d5 fun w0 => Ze l4 <| Ze r2 <| Ze os (some w0)
theorem spec_MirrorOk.kt_dec (a0_0 : Int) (a0_1 : List (List D)) : spec_MirrorOk.kt a0_0 a0_1 spec_MirrorOk.dec = (fun z0 => some z0) := by kernel_rfl
theorem spec_MirrorOk.inj (a0_0 : Int) (a0_1 : List (List D)) {rs : List (List C)} {os : List Out} {z0 : Bool} (h : spec_MirrorOk.dec rs os = some z0) (ho : Zo (spec_MirrorOk.as a0_0 a0_1) os) : rs = [[.d (.bool z0)]] ∧ os = [] := by
  unfold spec_MirrorOk.dec at h
  obtain ⟨c1, r2, rfl, h1⟩ := Zb h
  obtain ⟨x3, l4, rfl, h2⟩ := Zb h1
  obtain ⟨d5, rfl, h3⟩ := Zt h2
  obtain ⟨w0, rfl, h4⟩ := Z0 h3
  obtain ⟨rfl, h5⟩ := Zc h4
  obtain ⟨rfl, h6⟩ := Zc h5
  obtain ⟨rfl, h7⟩ := Zc h6
  obtain rfl := Option.some.inj h7
  exact ⟨rfl, rfl⟩
theorem spec_MirrorOk.ok (k : Nat) : Zv Try.prog 45 (spec_MirrorOk.e k) := by
  refine Zu mix tyok (fn := Try.f45) (c := Zl Try.f45) Try.func45 (by kernel_rfl) (h := spec_MirrorOk.h) (k := k) (E := spec_MirrorOk.E k) (Zk (spec_l1In.ok k) (Zk (spec_l7Objs.ok k) Zz)) (by kernel_rfl) (by kernel_rfl) rfl (Zq Try.func45 (by kernel_rfl)) ?_
  intro β l K r hr
  simp only [spec_MirrorOk.e] at hr
  split at hr
  case h_2 => cases hr
  unfold spec_MirrorOk.f at hr
  split at hr
  case h_2 => cases hr
  rename_i hz
  exact ⟨_, _, hr, _, spec_MirrorOk.dec, _, (spec_MirrorOk.f_eq k _ _ spec_MirrorOk.dec).trans (by rw [spec_MirrorOk.kt_dec]; exact hz), fun rs os h ho => spec_MirrorOk.inj _ _ h ho⟩
noncomputable def impl_within.g {β : Type} (k : Nat) (a0 : Int) (a1 : Int) (a2 : Int) (K : Bool → Option β) : Option β :=
  bif (decide ((a0 : Int) ≥ a1)) then (K (decide ((a0 : Int) ≤ a2))) else (K false)
noncomputable def impl_within.t (k : Nat) (a0 : Int) (a1 : Int) (a2 : Int) : Option (Bool) := impl_within.g k a0 a1 a2 (fun z0 => some z0)
noncomputable def impl_within.f {β : Type} (k : Nat) (a0 : Int) (a1 : Int) (a2 : Int) (K : Bool → Option β) : Option β :=
  match impl_within.t k a0 a1 a2 with
  | some z0 => K z0
  | none => none
noncomputable def impl_within.as (a0 : Int) (a1 : Int) (a2 : Int) : List A := [.d (.int .i64 a0), .d (.int .i64 a1), .d (.int .i64 a2)]
noncomputable def impl_within.kt {β : Type} (a0 : Int) (a1 : Int) (a2 : Int) (K0 : List (List C) → List Out → Option β) : Bool → Option β := fun z0 => K0 [[.d (.bool z0)]] []
noncomputable def impl_within.e (k : Nat) : ZQ := { modes := [(.imm, 0), (.imm, 0), (.imm, 0)], rts := [4], al := false, run := fun {β} l K => match l with | [.d (.int .i64 a0), .d (.int .i64 a1), .d (.int .i64 a2)] => impl_within.f k a0 a1 a2 (impl_within.kt a0 a1 a2 K) | _ => none }
noncomputable def impl_within.E (k : Nat) : Env := fun g => none
noncomputable def impl_within.h : ZY := ⟨fun n => ⟨[], []⟩, fun _ => none, false, []⟩
theorem impl_within.f_eq {β : Type} (k : Nat) (a0 : Int) (a1 : Int) (a2 : Int) (K0 : List (List C) → List Out → Option β) : ZJ Try.prog (impl_within.E k) impl_within.h k Try.f126 (impl_within.as a0 a1 a2) K0 = impl_within.g k a0 a1 a2 (impl_within.kt a0 a1 a2 K0) := by kernel_rfl
noncomputable def impl_within.dec (rs : List (List C)) (os : List Out) : Option (Bool) := Zd rs fun c1 r2 => Zd c1 fun x3 l4 => cD x3 fun d5 => ZaF d5 fun w0 => Ze l4 <| Ze r2 <| Ze os (some w0)
theorem impl_within.kt_dec (a0 : Int) (a1 : Int) (a2 : Int) : impl_within.kt a0 a1 a2 impl_within.dec = (fun z0 => some z0) := by kernel_rfl
theorem impl_within.inj (a0 : Int) (a1 : Int) (a2 : Int) {rs : List (List C)} {os : List Out} {z0 : Bool} (h : impl_within.dec rs os = some z0) (ho : Zo (impl_within.as a0 a1 a2) os) : rs = [[.d (.bool z0)]] ∧ os = [] := by
  unfold impl_within.dec at h
  obtain ⟨c1, r2, rfl, h1⟩ := Zb h
  obtain ⟨x3, l4, rfl, h2⟩ := Zb h1
  obtain ⟨d5, rfl, h3⟩ := Zt h2
  obtain ⟨w0, rfl, h4⟩ := Z0 h3
  obtain ⟨rfl, h5⟩ := Zc h4
  obtain ⟨rfl, h6⟩ := Zc h5
  obtain ⟨rfl, h7⟩ := Zc h6
  obtain rfl := Option.some.inj h7
  exact ⟨rfl, rfl⟩
theorem impl_within.ok (k : Nat) : Zv Try.prog 126 (impl_within.e k) := by
  refine Zu mix tyok (fn := Try.f126) (c := Zl Try.f126) Try.func126 (by kernel_rfl) (h := impl_within.h) (k := k) (E := impl_within.E k) Zz (by kernel_rfl) (by kernel_rfl) rfl (Zq Try.func126 (by kernel_rfl)) ?_
  intro β l K r hr
  simp only [impl_within.e] at hr
  split at hr
  case h_2 => cases hr
  unfold impl_within.f at hr
  split at hr
  case h_2 => cases hr
  rename_i hz
  exact ⟨_, _, hr, _, impl_within.dec, _, (impl_within.f_eq k _ _ _ impl_within.dec).trans (by rw [impl_within.kt_dec]; exact hz), fun rs os h ho => impl_within.inj _ _ _ h ho⟩
noncomputable def impl_isKind.g {β : Type} (k : Nat) (a0 : Int) (K : Bool → Option β) : Option β :=
  impl_within.f k a0 1 3 (fun y1 => K y1)
noncomputable def impl_isKind.t (k : Nat) (a0 : Int) : Option (Bool) := impl_isKind.g k a0 (fun z0 => some z0)
noncomputable def impl_isKind.f {β : Type} (k : Nat) (a0 : Int) (K : Bool → Option β) : Option β :=
  match impl_isKind.t k a0 with
  | some z0 => K z0
  | none => none
noncomputable def impl_isKind.as (a0 : Int) : List A := [.d (.int .i64 a0)]
noncomputable def impl_isKind.kt {β : Type} (a0 : Int) (K0 : List (List C) → List Out → Option β) : Bool → Option β := fun z0 => K0 [[.d (.bool z0)]] []
noncomputable def impl_isKind.e (k : Nat) : ZQ := { modes := [(.imm, 0)], rts := [4], al := false, run := fun {β} l K => match l with | [.d (.int .i64 a0)] => impl_isKind.f k a0 (impl_isKind.kt a0 K) | _ => none }
noncomputable def impl_isKind.E (k : Nat) : Env := fun g => bif g == 126 then some (impl_within.e k) else none
noncomputable def impl_isKind.h : ZY := ⟨fun n => ⟨[], []⟩, fun _ => none, false, []⟩
theorem impl_isKind.f_eq {β : Type} (k : Nat) (a0 : Int) (K0 : List (List C) → List Out → Option β) : ZJ Try.prog (impl_isKind.E k) impl_isKind.h k Try.f228 (impl_isKind.as a0) K0 = impl_isKind.g k a0 (impl_isKind.kt a0 K0) := by kernel_rfl
noncomputable def impl_isKind.dec (rs : List (List C)) (os : List Out) : Option (Bool) := Zd rs fun c1 r2 => Zd c1 fun x3 l4 => cD x3 fun d5 => ZaF d5 fun w0 => Ze l4 <| Ze r2 <| Ze os (some w0)
theorem impl_isKind.kt_dec (a0 : Int) : impl_isKind.kt a0 impl_isKind.dec = (fun z0 => some z0) := by kernel_rfl
theorem impl_isKind.inj (a0 : Int) {rs : List (List C)} {os : List Out} {z0 : Bool} (h : impl_isKind.dec rs os = some z0) (ho : Zo (impl_isKind.as a0) os) : rs = [[.d (.bool z0)]] ∧ os = [] := by
  unfold impl_isKind.dec at h
  obtain ⟨c1, r2, rfl, h1⟩ := Zb h
  obtain ⟨x3, l4, rfl, h2⟩ := Zb h1
  obtain ⟨d5, rfl, h3⟩ := Zt h2
  obtain ⟨w0, rfl, h4⟩ := Z0 h3
  obtain ⟨rfl, h5⟩ := Zc h4
  obtain ⟨rfl, h6⟩ := Zc h5
  obtain ⟨rfl, h7⟩ := Zc h6
  obtain rfl := Option.some.inj h7
  exact ⟨rfl, rfl⟩
theorem impl_isKind.ok (k : Nat) : Zv Try.prog 228 (impl_isKind.e k) := by
  refine Zu mix tyok (fn := Try.f228) (c := Zl Try.f228) Try.func228 (by kernel_rfl) (h := impl_isKind.h) (k := k) (E := impl_isKind.E k) (Zk (impl_within.ok k) Zz) (by kernel_rfl) (by kernel_rfl) rfl (Zq Try.func228 (by kernel_rfl)) ?_
  intro β l K r hr
  simp only [impl_isKind.e] at hr
  split at hr
  case h_2 => cases hr
  unfold impl_isKind.f at hr
  split at hr
  case h_2 => cases hr
  rename_i hz
  exact ⟨_, _, hr, _, impl_isKind.dec, _, (impl_isKind.f_eq k _ impl_isKind.dec).trans (by rw [impl_isKind.kt_dec]; exact hz), fun rs os h ho => impl_isKind.inj _ h ho⟩
noncomputable def impl_NameOk.l0 {β : Type} (k : Nat) (v0_0 : ByteArray) (v0_1 : Int) (K : Bool → Option β) (L0 : Int → Option β) (v : Int) : Option β :=
  match v with
  | v0_2 => bif (decide ((v0_2 : Int) < v0_1)) then (atStr v0_0 v0_2 fun b5 => bif (decide ((b5 : Int) < 97)) then (bif (decide ((b5 : Int) < 48)) then (bif ((b5 : Int) != 45) then (K false) else (L0 (IntKind.wrap .i64 (v0_2 + 1)))) else (bif (decide ((b5 : Int) > 57)) then (bif ((b5 : Int) != 45) then (K false) else (L0 (IntKind.wrap .i64 (v0_2 + 1)))) else (L0 (IntKind.wrap .i64 (v0_2 + 1))))) else (bif (decide ((b5 : Int) > 122)) then (bif (decide ((b5 : Int) < 48)) then (bif ((b5 : Int) != 45) then (K false) else (L0 (IntKind.wrap .i64 (v0_2 + 1)))) else (bif (decide ((b5 : Int) > 57)) then (bif ((b5 : Int) != 45) then (K false) else (L0 (IntKind.wrap .i64 (v0_2 + 1)))) else (L0 (IntKind.wrap .i64 (v0_2 + 1))))) else (L0 (IntKind.wrap .i64 (v0_2 + 1))))) else (impl_within.f k (v0_0.size : Int) 1 20 (fun y6 => bif y6 then (atStr v0_0 0 fun b7 => bif ((b7 : Int) != 45) then (atStr v0_0 (IntKind.wrap .i64 ((v0_0.size : Int) - 1)) fun b8 => K ((b8 : Int) != 45)) else (K false)) else (K false)))
noncomputable def impl_NameOk.g {β : Type} (k : Nat) (a0 : ByteArray) (K : Bool → Option β) : Option β :=
  Z4 (impl_NameOk.l0 k a0 (a0.size : Int) K) k (0)
noncomputable def impl_NameOk.t (k : Nat) (a0 : ByteArray) : Option (Bool) := impl_NameOk.g k a0 (fun z0 => some z0)
noncomputable def impl_NameOk.f {β : Type} (k : Nat) (a0 : ByteArray) (K : Bool → Option β) : Option β :=
  match impl_NameOk.t k a0 with
  | some z0 => K z0
  | none => none
noncomputable def impl_NameOk.as (a0 : ByteArray) : List A := [.d (.str a0)]
noncomputable def impl_NameOk.kt {β : Type} (a0 : ByteArray) (K0 : List (List C) → List Out → Option β) : Bool → Option β := fun z0 => K0 [[.d (.bool z0)]] []
noncomputable def impl_NameOk.e (k : Nat) : ZQ := { modes := [(.imm, 0)], rts := [4], al := false, run := fun {β} l K => match l with | [.d (.str a0)] => impl_NameOk.f k a0 (impl_NameOk.kt a0 K) | _ => none }
noncomputable def impl_NameOk.E (k : Nat) : Env := fun g => bif g == 126 then some (impl_within.e k) else none
noncomputable def impl_NameOk.h : ZY := ⟨fun n => bif n == 2 then ⟨[(0, .asis), (6, .asis), (7, .asis)], []⟩ else ⟨[], []⟩, fun _ => none, false, []⟩
noncomputable def impl_NameOk.s0 (v0_0 : ByteArray) (v0_1 : Int) (v : Int) : St :=
  match v with
  | v0_2 => ⟨[.d false (.str v0_0), .any, .any, .any, .any, .any, .d true (.int .i64 v0_1), .d true (.int .i64 v0_2), .any, .any, .any, .any, .any, .any, .any, .any, .any, .any, .any, .any, .any, .any, .any, .any, .any, .any, .any, .any, .any, .any, .any, .any, .any, .any, .any, .any, .any, .any, .any, .any, .any, .any, .any, .any, .any, .any, .any, .any], []⟩
noncomputable def impl_NameOk.b0 {β : Type} (k : Nat) : St → (Ex → St → Option β) → Option β := fun s K => den Try.prog (impl_NameOk.E k) impl_NameOk.h.H impl_NameOk.h.J k (Zad [1, 0, 1, 0, 0] (Zl Try.f97)) s K
noncomputable def impl_NameOk.c0 {β : Type} (k : Nat) (a0 : ByteArray) (K0 : List (List C) → List Out → Option β) : Ex → St → Option β := Zae Try.prog (impl_NameOk.E k) impl_NameOk.h k [1, 0, 1, 0] (Zl Try.f97) (Zak Try.prog Try.f97 impl_NameOk.h (impl_NameOk.as a0) K0)
theorem impl_NameOk.l0_eq {β : Type} (k : Nat) (a0 : ByteArray) (K0 : List (List C) → List Out → Option β) (v0_0 : ByteArray) (v0_1 : Int) : ∀ (kk : Nat) (v : Int), Zx (impl_NameOk.b0 k) (impl_NameOk.h.H 2) kk (impl_NameOk.s0 v0_0 v0_1 v) (impl_NameOk.c0 k a0 K0) = Z4 (impl_NameOk.l0 k v0_0 v0_1 (impl_NameOk.kt a0 K0)) kk v :=
  Z9 (impl_NameOk.s0 v0_0 v0_1) _ (fun L0 v => by kernel_rfl)
noncomputable def impl_NameOk.m {β : Type} (k : Nat) (a0 : ByteArray) (K0 : List (List C) → List Out → Option β) (F : (ByteArray → Int → Int → Option β)) : Option β :=
  (F) a0 (a0.size : Int) (0)
theorem impl_NameOk.f_eq {β : Type} (k : Nat) (a0 : ByteArray) (K0 : List (List C) → List Out → Option β) : ZJ Try.prog (impl_NameOk.E k) impl_NameOk.h k Try.f97 (impl_NameOk.as a0) K0 = impl_NameOk.g k a0 (impl_NameOk.kt a0 K0) := Eq.trans (b := (impl_NameOk.m k a0 K0) (fun (v0_0 : ByteArray) (v0_1 : Int) (v : Int) => Zx (impl_NameOk.b0 k) (impl_NameOk.h.H 2) k (impl_NameOk.s0 v0_0 v0_1 v) (impl_NameOk.c0 k a0 K0))) (by kernel_rfl) (Eq.trans (congrArg (impl_NameOk.m k a0 K0) (funext fun v0_0 => funext fun v0_1 => funext fun v => impl_NameOk.l0_eq k a0 K0 v0_0 v0_1 k v)) (by kernel_rfl))
noncomputable def impl_NameOk.dec (rs : List (List C)) (os : List Out) : Option (Bool) := Zd rs fun c1 r2 => Zd c1 fun x3 l4 => cD x3 fun d5 => ZaF d5 fun w0 => Ze l4 <| Ze r2 <| Ze os (some w0)
theorem impl_NameOk.kt_dec (a0 : ByteArray) : impl_NameOk.kt a0 impl_NameOk.dec = (fun z0 => some z0) := by kernel_rfl
theorem impl_NameOk.inj (a0 : ByteArray) {rs : List (List C)} {os : List Out} {z0 : Bool} (h : impl_NameOk.dec rs os = some z0) (ho : Zo (impl_NameOk.as a0) os) : rs = [[.d (.bool z0)]] ∧ os = [] := by
  unfold impl_NameOk.dec at h
  obtain ⟨c1, r2, rfl, h1⟩ := Zb h
  obtain ⟨x3, l4, rfl, h2⟩ := Zb h1
  obtain ⟨d5, rfl, h3⟩ := Zt h2
  obtain ⟨w0, rfl, h4⟩ := Z0 h3
  obtain ⟨rfl, h5⟩ := Zc h4
  obtain ⟨rfl, h6⟩ := Zc h5
  obtain ⟨rfl, h7⟩ := Zc h6
  obtain rfl := Option.some.inj h7
  exact ⟨rfl, rfl⟩
theorem impl_NameOk.ok (k : Nat) : Zv Try.prog 97 (impl_NameOk.e k) := by
  refine Zu mix tyok (fn := Try.f97) (c := Zl Try.f97) Try.func97 (by kernel_rfl) (h := impl_NameOk.h) (k := k) (E := impl_NameOk.E k) (Zk (impl_within.ok k) Zz) (by kernel_rfl) (by kernel_rfl) rfl (Zq Try.func97 (by kernel_rfl)) ?_
  intro β l K r hr
  simp only [impl_NameOk.e] at hr
  split at hr
  case h_2 => cases hr
  unfold impl_NameOk.f at hr
  split at hr
  case h_2 => cases hr
  rename_i hz
  exact ⟨_, _, hr, _, impl_NameOk.dec, _, (impl_NameOk.f_eq k _ impl_NameOk.dec).trans (by rw [impl_NameOk.kt_dec]; exact hz), fun rs os h ho => impl_NameOk.inj _ h ho⟩
noncomputable def impl_namesOk.l0 {β : Type} (k : Nat) (v0_0 : List (List D)) (v0_1 : Int) (v0_2 : List (List D)) (v0_3 : Int) (K : Bool → Option β) (L0 : Int → Option β) (v : Int) : Option β :=
  match v with
  | v0_4 => bif (decide ((v0_4 : Int) < v0_3)) then (ZX v0_2 v0_4 fun c10 => Zd c10 fun d11 r12 => Zan d11 fun x13 => Ze r12 (impl_NameOk.f k x13 (fun y14 => bif (!y14) then (K false) else (bif (decide ((v0_4 : Int) > 0)) then (ZX v0_0 (IntKind.wrap .i64 (v0_4 - 1)) fun c15 => Zd c15 fun d16 r17 => Zan d16 fun x18 => Ze r17 (bif (!(strLt x18 x13)) then (K false) else (L0 (IntKind.wrap .i64 (v0_4 + 1))))) else (L0 (IntKind.wrap .i64 (v0_4 + 1))))))) else (K (decide (((v0_0.length : Int) : Int) ≤ v0_1)))
noncomputable def impl_namesOk.g {β : Type} (k : Nat) (a0 : List (List D)) (a1 : Int) (K : Bool → Option β) : Option β :=
  Z4 (impl_namesOk.l0 k a0 a1 a0 (a0.length : Int) K) k (0)
noncomputable def impl_namesOk.t (k : Nat) (a0 : List (List D)) (a1 : Int) : Option (Bool) := impl_namesOk.g k a0 a1 (fun z0 => some z0)
noncomputable def impl_namesOk.f {β : Type} (k : Nat) (a0 : List (List D)) (a1 : Int) (K : Bool → Option β) : Option β :=
  match impl_namesOk.t k a0 a1 with
  | some z0 => K z0
  | none => none
noncomputable def impl_namesOk.as (a0 : List (List D)) (a1 : Int) : List A := [.d (.sl a0), .d (.int .i64 a1)]
noncomputable def impl_namesOk.kt {β : Type} (a0 : List (List D)) (a1 : Int) (K0 : List (List C) → List Out → Option β) : Bool → Option β := fun z0 => K0 [[.d (.bool z0)]] []
noncomputable def impl_namesOk.e (k : Nat) : ZQ := { modes := [(.imm, 0), (.imm, 0)], rts := [4], al := false, run := fun {β} l K => match l with | [.d (.sl a0), .d (.int .i64 a1)] => impl_namesOk.f k a0 a1 (impl_namesOk.kt a0 a1 K) | _ => none }
noncomputable def impl_namesOk.E (k : Nat) : Env := fun g => bif g == 97 then some (impl_NameOk.e k) else none
noncomputable def impl_namesOk.h : ZY := ⟨fun n => bif n == 2 then ⟨[(0, .asis), (1, .asis), (7, .asis), (8, .asis), (9, .asis)], []⟩ else ⟨[], []⟩, fun _ => none, false, []⟩
noncomputable def impl_namesOk.s0 (v0_0 : List (List D)) (v0_1 : Int) (v0_2 : List (List D)) (v0_3 : Int) (v : Int) : St :=
  match v with
  | v0_4 => ⟨[.d false (.sl v0_0), .d false (.int .i64 v0_1), .any, .any, .any, .any, .any, .d false (.sl v0_2), .d true (.int .i64 v0_3), .d true (.int .i64 v0_4), .any, .any, .any, .any, .any, .any, .any, .any, .any, .any, .any, .any, .any, .any, .any, .any, .any, .any, .any, .any, .any, .any, .any, .any, .any], []⟩
noncomputable def impl_namesOk.b0 {β : Type} (k : Nat) : St → (Ex → St → Option β) → Option β := fun s K => den Try.prog (impl_namesOk.E k) impl_namesOk.h.H impl_namesOk.h.J k (Zad [1, 0, 1, 0, 0] (Zl Try.f229)) s K
noncomputable def impl_namesOk.c0 {β : Type} (k : Nat) (a0 : List (List D)) (a1 : Int) (K0 : List (List C) → List Out → Option β) : Ex → St → Option β := Zae Try.prog (impl_namesOk.E k) impl_namesOk.h k [1, 0, 1, 0] (Zl Try.f229) (Zak Try.prog Try.f229 impl_namesOk.h (impl_namesOk.as a0 a1) K0)
theorem impl_namesOk.l0_eq {β : Type} (k : Nat) (a0 : List (List D)) (a1 : Int) (K0 : List (List C) → List Out → Option β) (v0_0 : List (List D)) (v0_1 : Int) (v0_2 : List (List D)) (v0_3 : Int) : ∀ (kk : Nat) (v : Int), Zx (impl_namesOk.b0 k) (impl_namesOk.h.H 2) kk (impl_namesOk.s0 v0_0 v0_1 v0_2 v0_3 v) (impl_namesOk.c0 k a0 a1 K0) = Z4 (impl_namesOk.l0 k v0_0 v0_1 v0_2 v0_3 (impl_namesOk.kt a0 a1 K0)) kk v :=
  Z9 (impl_namesOk.s0 v0_0 v0_1 v0_2 v0_3) _ (fun L0 v => by kernel_rfl)
noncomputable def impl_namesOk.m {β : Type} (k : Nat) (a0 : List (List D)) (a1 : Int) (K0 : List (List C) → List Out → Option β) (F : ((List (List D)) → Int → (List (List D)) → Int → Int → Option β)) : Option β :=
  (F) a0 a1 a0 (a0.length : Int) (0)
theorem impl_namesOk.f_eq {β : Type} (k : Nat) (a0 : List (List D)) (a1 : Int) (K0 : List (List C) → List Out → Option β) : ZJ Try.prog (impl_namesOk.E k) impl_namesOk.h k Try.f229 (impl_namesOk.as a0 a1) K0 = impl_namesOk.g k a0 a1 (impl_namesOk.kt a0 a1 K0) := Eq.trans (b := (impl_namesOk.m k a0 a1 K0) (fun (v0_0 : List (List D)) (v0_1 : Int) (v0_2 : List (List D)) (v0_3 : Int) (v : Int) => Zx (impl_namesOk.b0 k) (impl_namesOk.h.H 2) k (impl_namesOk.s0 v0_0 v0_1 v0_2 v0_3 v) (impl_namesOk.c0 k a0 a1 K0))) (by kernel_rfl) (Eq.trans (congrArg (impl_namesOk.m k a0 a1 K0) (funext fun v0_0 => funext fun v0_1 => funext fun v0_2 => funext fun v0_3 => funext fun v => impl_namesOk.l0_eq k a0 a1 K0 v0_0 v0_1 v0_2 v0_3 k v)) (by kernel_rfl))
noncomputable def impl_namesOk.dec (rs : List (List C)) (os : List Out) : Option (Bool) := Zd rs fun c1 r2 => Zd c1 fun x3 l4 => cD x3 fun d5 => ZaF d5 fun w0 => Ze l4 <| Ze r2 <| Ze os (some w0)
theorem impl_namesOk.kt_dec (a0 : List (List D)) (a1 : Int) : impl_namesOk.kt a0 a1 impl_namesOk.dec = (fun z0 => some z0) := by kernel_rfl
theorem impl_namesOk.inj (a0 : List (List D)) (a1 : Int) {rs : List (List C)} {os : List Out} {z0 : Bool} (h : impl_namesOk.dec rs os = some z0) (ho : Zo (impl_namesOk.as a0 a1) os) : rs = [[.d (.bool z0)]] ∧ os = [] := by
  unfold impl_namesOk.dec at h
  obtain ⟨c1, r2, rfl, h1⟩ := Zb h
  obtain ⟨x3, l4, rfl, h2⟩ := Zb h1
  obtain ⟨d5, rfl, h3⟩ := Zt h2
  obtain ⟨w0, rfl, h4⟩ := Z0 h3
  obtain ⟨rfl, h5⟩ := Zc h4
  obtain ⟨rfl, h6⟩ := Zc h5
  obtain ⟨rfl, h7⟩ := Zc h6
  obtain rfl := Option.some.inj h7
  exact ⟨rfl, rfl⟩
theorem impl_namesOk.ok (k : Nat) : Zv Try.prog 229 (impl_namesOk.e k) := by
  refine Zu mix tyok (fn := Try.f229) (c := Zl Try.f229) Try.func229 (by kernel_rfl) (h := impl_namesOk.h) (k := k) (E := impl_namesOk.E k) (Zk (impl_NameOk.ok k) Zz) (by kernel_rfl) (by kernel_rfl) rfl (Zq Try.func229 (by kernel_rfl)) ?_
  intro β l K r hr
  simp only [impl_namesOk.e] at hr
  split at hr
  case h_2 => cases hr
  unfold impl_namesOk.f at hr
  split at hr
  case h_2 => cases hr
  rename_i hz
  exact ⟨_, _, hr, _, impl_namesOk.dec, _, (impl_namesOk.f_eq k _ _ impl_namesOk.dec).trans (by rw [impl_namesOk.kt_dec]; exact hz), fun rs os h ho => impl_namesOk.inj _ _ h ho⟩
noncomputable def impl_shapeOk.l0 {β : Type} (k : Nat) (v0_0 : Bool) (v0_1 : Bool) (v0_2 : Bool) (v0_3 : Int) (v0_5 : Int) (v0_6 : ByteArray) (v0_7 : Int) (v0_8 : List (List D)) (v0_9 : List (List D)) (K : Bool → Option β) (L0 : Int → Option β) (v : Int) : Option β :=
  match v with
  | v0_4 => bif (decide ((v0_4 : Int) < v0_3)) then (atStr v0_6 v0_4 fun b3 => impl_within.f k (IntKind.wrap .i64 b3) 32 126 (fun y4 => bif (!y4) then (K false) else (L0 (IntKind.wrap .i64 (v0_4 + 1))))) else (bif (decide (((v0_6.size : Int) : Int) ≤ 100)) then (bif v0_0 then (bif v0_1 then (K v0_2) else (K false)) else (K false)) else (K false))
noncomputable def impl_shapeOk.g {β : Type} (k : Nat) (a0_0 : Int) (a0_1 : ByteArray) (a0_2 : Int) (a0_3 : List (List D)) (a0_4 : List (List D)) (K : Bool → Option β) : Option β :=
  bif ((a0_0 : Int) == 1) then (Z4 (impl_shapeOk.l0 k ((a0_2 : Int) == 0) (((a0_3.length : Int) : Int) == 0) (((a0_4.length : Int) : Int) == 0) (a0_1.size : Int) a0_0 a0_1 a0_2 a0_3 a0_4 K) k (0)) else (bif ((a0_0 : Int) == 2) then (bif (strEq a0_1 (⟨#[]⟩ : ByteArray)) then (bif (((a0_3.length : Int) : Int) == 0) then (K (((a0_4.length : Int) : Int) == 0)) else (K false)) else (K false)) else (bif ((a0_0 : Int) == 3) then (impl_within.f k a0_2 0 1 (fun y5 => bif (strEq a0_1 (⟨#[]⟩ : ByteArray)) then (bif y5 then (bif (((a0_3.length : Int) : Int) == 0) then (K (((a0_4.length : Int) : Int) == 0)) else (K false)) else (K false)) else (K false))) else (bif ((a0_0 : Int) == 4) then (bif (strEq a0_1 (⟨#[]⟩ : ByteArray)) then (bif ((a0_2 : Int) == 0) then (bif (((a0_3.length : Int) : Int) == 0) then (K true) else (K false)) else (K false)) else (K false)) else (bif ((a0_0 : Int) == 5) then (impl_namesOk.f k a0_3 300 (fun y6 => bif y6 then (bif (strEq a0_1 (⟨#[]⟩ : ByteArray)) then (bif ((a0_2 : Int) == 0) then (bif (((a0_3.length : Int) : Int) == (a0_4.length : Int)) then (K true) else (K false)) else (K false)) else (K false)) else (bif (strEq a0_1 (⟨#[]⟩ : ByteArray)) then (bif ((a0_2 : Int) == 0) then (K false) else (K false)) else (K false)))) else (K false)))))
noncomputable def impl_shapeOk.t (k : Nat) (a0_0 : Int) (a0_1 : ByteArray) (a0_2 : Int) (a0_3 : List (List D)) (a0_4 : List (List D)) : Option (Bool) := impl_shapeOk.g k a0_0 a0_1 a0_2 a0_3 a0_4 (fun z0 => some z0)
noncomputable def impl_shapeOk.f {β : Type} (k : Nat) (a0_0 : Int) (a0_1 : ByteArray) (a0_2 : Int) (a0_3 : List (List D)) (a0_4 : List (List D)) (K : Bool → Option β) : Option β :=
  match impl_shapeOk.t k a0_0 a0_1 a0_2 a0_3 a0_4 with
  | some z0 => K z0
  | none => none
noncomputable def impl_shapeOk.as (a0_0 : Int) (a0_1 : ByteArray) (a0_2 : Int) (a0_3 : List (List D)) (a0_4 : List (List D)) : List A := [.agg [.int .i64 a0_0, .str a0_1, .int .i64 a0_2, .sl a0_3, .sl a0_4]]
noncomputable def impl_shapeOk.kt {β : Type} (a0_0 : Int) (a0_1 : ByteArray) (a0_2 : Int) (a0_3 : List (List D)) (a0_4 : List (List D)) (K0 : List (List C) → List Out → Option β) : Bool → Option β := fun z0 => K0 [[.d (.bool z0)]] []
noncomputable def impl_shapeOk.e (k : Nat) : ZQ := { modes := [(.imm, 0)], rts := [4], al := false, run := fun {β} l K => match l with | [.agg [.int .i64 a0_0, .str a0_1, .int .i64 a0_2, .sl a0_3, .sl a0_4]] => impl_shapeOk.f k a0_0 a0_1 a0_2 a0_3 a0_4 (impl_shapeOk.kt a0_0 a0_1 a0_2 a0_3 a0_4 K) | _ => none }
noncomputable def impl_shapeOk.E (k : Nat) : Env := fun g => bif g == 126 then some (impl_within.e k) else bif g == 229 then some (impl_namesOk.e k) else none
noncomputable def impl_shapeOk.h : ZY := ⟨fun n => bif n == 6 then ⟨[(1, .asis), (4, .asis), (5, .asis), (6, .asis), (28, .asis), (29, .asis)], []⟩ else ⟨[], []⟩, fun _ => none, false, []⟩
noncomputable def impl_shapeOk.s0 (v0_0 : Bool) (v0_1 : Bool) (v0_2 : Bool) (v0_3 : Int) (v0_5 : Int) (v0_6 : ByteArray) (v0_7 : Int) (v0_8 : List (List D)) (v0_9 : List (List D)) (v : Int) : St :=
  match v with
  | v0_4 => ⟨[.any, .bp 0 0, .any, .any, .d true (.bool v0_0), .d true (.bool v0_1), .d true (.bool v0_2), .any, .any, .any, .any, .any, .any, .any, .any, .any, .any, .any, .any, .any, .any, .any, .any, .any, .any, .any, .any, .any, .d true (.int .i64 v0_3), .d true (.int .i64 v0_4), .any, .any, .any, .any, .any, .any, .any, .any, .any, .any, .any, .any, .any, .any, .any, .any, .any, .any, .any, .any, .any, .any, .any, .any, .any, .any, .any, .any, .any, .any, .any, .any, .any, .any, .any, .any, .any, .any, .any, .any, .any, .any, .any, .any, .any, .any, .any], [.box none 151 [.d false (.int .i64 v0_5), .d false (.str v0_6), .d false (.int .i64 v0_7), .d false (.sl v0_8), .d false (.sl v0_9)]]⟩
noncomputable def impl_shapeOk.b0 {β : Type} (k : Nat) : St → (Ex → St → Option β) → Option β := fun s K => den Try.prog (impl_shapeOk.E k) impl_shapeOk.h.H impl_shapeOk.h.J k (Zad [1, 1, 0, 1, 0, 1, 0, 0, 1, 0, 0] (Zl Try.f249)) s K
noncomputable def impl_shapeOk.c0 {β : Type} (k : Nat) (a0_0 : Int) (a0_1 : ByteArray) (a0_2 : Int) (a0_3 : List (List D)) (a0_4 : List (List D)) (K0 : List (List C) → List Out → Option β) : Ex → St → Option β := Zae Try.prog (impl_shapeOk.E k) impl_shapeOk.h k [1, 1, 0, 1, 0, 1, 0, 0, 1, 0] (Zl Try.f249) (Zak Try.prog Try.f249 impl_shapeOk.h (impl_shapeOk.as a0_0 a0_1 a0_2 a0_3 a0_4) K0)
theorem impl_shapeOk.l0_eq {β : Type} (k : Nat) (a0_0 : Int) (a0_1 : ByteArray) (a0_2 : Int) (a0_3 : List (List D)) (a0_4 : List (List D)) (K0 : List (List C) → List Out → Option β) (v0_0 : Bool) (v0_1 : Bool) (v0_2 : Bool) (v0_3 : Int) (v0_5 : Int) (v0_6 : ByteArray) (v0_7 : Int) (v0_8 : List (List D)) (v0_9 : List (List D)) : ∀ (kk : Nat) (v : Int), Zx (impl_shapeOk.b0 k) (impl_shapeOk.h.H 6) kk (impl_shapeOk.s0 v0_0 v0_1 v0_2 v0_3 v0_5 v0_6 v0_7 v0_8 v0_9 v) (impl_shapeOk.c0 k a0_0 a0_1 a0_2 a0_3 a0_4 K0) = Z4 (impl_shapeOk.l0 k v0_0 v0_1 v0_2 v0_3 v0_5 v0_6 v0_7 v0_8 v0_9 (impl_shapeOk.kt a0_0 a0_1 a0_2 a0_3 a0_4 K0)) kk v :=
  Z9 (impl_shapeOk.s0 v0_0 v0_1 v0_2 v0_3 v0_5 v0_6 v0_7 v0_8 v0_9) _ (fun L0 v => by kernel_rfl)
noncomputable def impl_shapeOk.m {β : Type} (k : Nat) (a0_0 : Int) (a0_1 : ByteArray) (a0_2 : Int) (a0_3 : List (List D)) (a0_4 : List (List D)) (K0 : List (List C) → List Out → Option β) (F : (Bool → Bool → Bool → Int → Int → ByteArray → Int → (List (List D)) → (List (List D)) → Int → Option β)) : Option β :=
  bif ((a0_0 : Int) == 1) then ((F) ((a0_2 : Int) == 0) (((a0_3.length : Int) : Int) == 0) (((a0_4.length : Int) : Int) == 0) (a0_1.size : Int) a0_0 a0_1 a0_2 a0_3 a0_4 (0)) else (bif ((a0_0 : Int) == 2) then (bif (strEq a0_1 (⟨#[]⟩ : ByteArray)) then (bif (((a0_3.length : Int) : Int) == 0) then ((impl_shapeOk.kt a0_0 a0_1 a0_2 a0_3 a0_4 K0) (((a0_4.length : Int) : Int) == 0)) else ((impl_shapeOk.kt a0_0 a0_1 a0_2 a0_3 a0_4 K0) false)) else ((impl_shapeOk.kt a0_0 a0_1 a0_2 a0_3 a0_4 K0) false)) else (bif ((a0_0 : Int) == 3) then (impl_within.f k a0_2 0 1 (fun y5 => bif (strEq a0_1 (⟨#[]⟩ : ByteArray)) then (bif y5 then (bif (((a0_3.length : Int) : Int) == 0) then ((impl_shapeOk.kt a0_0 a0_1 a0_2 a0_3 a0_4 K0) (((a0_4.length : Int) : Int) == 0)) else ((impl_shapeOk.kt a0_0 a0_1 a0_2 a0_3 a0_4 K0) false)) else ((impl_shapeOk.kt a0_0 a0_1 a0_2 a0_3 a0_4 K0) false)) else ((impl_shapeOk.kt a0_0 a0_1 a0_2 a0_3 a0_4 K0) false))) else (bif ((a0_0 : Int) == 4) then (bif (strEq a0_1 (⟨#[]⟩ : ByteArray)) then (bif ((a0_2 : Int) == 0) then (bif (((a0_3.length : Int) : Int) == 0) then ((impl_shapeOk.kt a0_0 a0_1 a0_2 a0_3 a0_4 K0) true) else ((impl_shapeOk.kt a0_0 a0_1 a0_2 a0_3 a0_4 K0) false)) else ((impl_shapeOk.kt a0_0 a0_1 a0_2 a0_3 a0_4 K0) false)) else ((impl_shapeOk.kt a0_0 a0_1 a0_2 a0_3 a0_4 K0) false)) else (bif ((a0_0 : Int) == 5) then (impl_namesOk.f k a0_3 300 (fun y6 => bif y6 then (bif (strEq a0_1 (⟨#[]⟩ : ByteArray)) then (bif ((a0_2 : Int) == 0) then (bif (((a0_3.length : Int) : Int) == (a0_4.length : Int)) then ((impl_shapeOk.kt a0_0 a0_1 a0_2 a0_3 a0_4 K0) true) else ((impl_shapeOk.kt a0_0 a0_1 a0_2 a0_3 a0_4 K0) false)) else ((impl_shapeOk.kt a0_0 a0_1 a0_2 a0_3 a0_4 K0) false)) else ((impl_shapeOk.kt a0_0 a0_1 a0_2 a0_3 a0_4 K0) false)) else (bif (strEq a0_1 (⟨#[]⟩ : ByteArray)) then (bif ((a0_2 : Int) == 0) then ((impl_shapeOk.kt a0_0 a0_1 a0_2 a0_3 a0_4 K0) false) else ((impl_shapeOk.kt a0_0 a0_1 a0_2 a0_3 a0_4 K0) false)) else ((impl_shapeOk.kt a0_0 a0_1 a0_2 a0_3 a0_4 K0) false)))) else ((impl_shapeOk.kt a0_0 a0_1 a0_2 a0_3 a0_4 K0) false)))))
theorem impl_shapeOk.f_eq {β : Type} (k : Nat) (a0_0 : Int) (a0_1 : ByteArray) (a0_2 : Int) (a0_3 : List (List D)) (a0_4 : List (List D)) (K0 : List (List C) → List Out → Option β) : ZJ Try.prog (impl_shapeOk.E k) impl_shapeOk.h k Try.f249 (impl_shapeOk.as a0_0 a0_1 a0_2 a0_3 a0_4) K0 = impl_shapeOk.g k a0_0 a0_1 a0_2 a0_3 a0_4 (impl_shapeOk.kt a0_0 a0_1 a0_2 a0_3 a0_4 K0) := Eq.trans (b := (impl_shapeOk.m k a0_0 a0_1 a0_2 a0_3 a0_4 K0) (fun (v0_0 : Bool) (v0_1 : Bool) (v0_2 : Bool) (v0_3 : Int) (v0_5 : Int) (v0_6 : ByteArray) (v0_7 : Int) (v0_8 : List (List D)) (v0_9 : List (List D)) (v : Int) => Zx (impl_shapeOk.b0 k) (impl_shapeOk.h.H 6) k (impl_shapeOk.s0 v0_0 v0_1 v0_2 v0_3 v0_5 v0_6 v0_7 v0_8 v0_9 v) (impl_shapeOk.c0 k a0_0 a0_1 a0_2 a0_3 a0_4 K0))) (by kernel_rfl) (Eq.trans (congrArg (impl_shapeOk.m k a0_0 a0_1 a0_2 a0_3 a0_4 K0) (funext fun v0_0 => funext fun v0_1 => funext fun v0_2 => funext fun v0_3 => funext fun v0_5 => funext fun v0_6 => funext fun v0_7 => funext fun v0_8 => funext fun v0_9 => funext fun v => impl_shapeOk.l0_eq k a0_0 a0_1 a0_2 a0_3 a0_4 K0 v0_0 v0_1 v0_2 v0_3 v0_5 v0_6 v0_7 v0_8 v0_9 k v)) (by kernel_rfl))
noncomputable def impl_shapeOk.dec (rs : List (List C)) (os : List Out) : Option (Bool) := Zd rs fun c1 r2 => Zd c1 fun x3 l4 => cD x3 fun d5 => ZaF d5 fun w0 => Ze l4 <| Ze r2 <| Ze os (some w0)
theorem impl_shapeOk.kt_dec (a0_0 : Int) (a0_1 : ByteArray) (a0_2 : Int) (a0_3 : List (List D)) (a0_4 : List (List D)) : impl_shapeOk.kt a0_0 a0_1 a0_2 a0_3 a0_4 impl_shapeOk.dec = (fun z0 => some z0) := by kernel_rfl
theorem impl_shapeOk.inj (a0_0 : Int) (a0_1 : ByteArray) (a0_2 : Int) (a0_3 : List (List D)) (a0_4 : List (List D)) {rs : List (List C)} {os : List Out} {z0 : Bool} (h : impl_shapeOk.dec rs os = some z0) (ho : Zo (impl_shapeOk.as a0_0 a0_1 a0_2 a0_3 a0_4) os) : rs = [[.d (.bool z0)]] ∧ os = [] := by
  unfold impl_shapeOk.dec at h
  obtain ⟨c1, r2, rfl, h1⟩ := Zb h
  obtain ⟨x3, l4, rfl, h2⟩ := Zb h1
  obtain ⟨d5, rfl, h3⟩ := Zt h2
  obtain ⟨w0, rfl, h4⟩ := Z0 h3
  obtain ⟨rfl, h5⟩ := Zc h4
  obtain ⟨rfl, h6⟩ := Zc h5
  obtain ⟨rfl, h7⟩ := Zc h6
  obtain rfl := Option.some.inj h7
  exact ⟨rfl, rfl⟩
theorem impl_shapeOk.ok (k : Nat) : Zv Try.prog 249 (impl_shapeOk.e k) := by
  refine Zu mix tyok (fn := Try.f249) (c := Zl Try.f249) Try.func249 (by kernel_rfl) (h := impl_shapeOk.h) (k := k) (E := impl_shapeOk.E k) (Zk (impl_within.ok k) (Zk (impl_namesOk.ok k) Zz)) (by kernel_rfl) (by kernel_rfl) rfl (Zq Try.func249 (by kernel_rfl)) ?_
  intro β l K r hr
  simp only [impl_shapeOk.e] at hr
  split at hr
  case h_2 => cases hr
  unfold impl_shapeOk.f at hr
  split at hr
  case h_2 => cases hr
  rename_i hz
  exact ⟨_, _, hr, _, impl_shapeOk.dec, _, (impl_shapeOk.f_eq k _ _ _ _ _ impl_shapeOk.dec).trans (by rw [impl_shapeOk.kt_dec]; exact hz), fun rs os h ho => impl_shapeOk.inj _ _ _ _ _ h ho⟩
noncomputable def impl_measured.l0 {β : Type} (k : Nat) (r_impl_measured : Int → ByteArray → Int → (List (List D)) → (List (List D)) → Int → (Int → Option β) → Option β) (v0_0 : Int) (v0_2 : List (List D)) (v0_3 : Int) (K : Int → Option β) (L0 : (Int × Int) → Option β) (v : Int × Int) : Option β :=
  match v with
  | (v0_1, v0_4) => bif (decide ((v0_4 : Int) < v0_3)) then (ZX v0_2 v0_4 fun c25 => Zd c25 fun d26 r27 => ZM .i64 d26 fun x28 => Zd r27 fun d29 r30 => Zan d29 fun x31 => Zd r30 fun d32 r33 => ZM .i64 d32 fun x34 => Zd r33 fun d35 r36 => dSl d35 fun x37 => Zd r36 fun d38 r39 => dSl d38 fun x40 => Ze r39 (r_impl_measured x28 x31 x34 x37 x40 (IntKind.wrap .i64 (v0_0 - 1)) (fun y41 => bif (decide (((IntKind.wrap .i64 (v0_1 + y41)) : Int) > 300)) then (K 301) else (L0 (IntKind.wrap .i64 (v0_1 + y41), IntKind.wrap .i64 (v0_4 + 1)))))) else (K v0_1)
noncomputable def impl_measured.body {β : Type} (k : Nat) (r_impl_measured : Int → ByteArray → Int → (List (List D)) → (List (List D)) → Int → (Int → Option β) → Option β) (a0_0 : Int) (a0_1 : ByteArray) (a0_2 : Int) (a0_3 : List (List D)) (a0_4 : List (List D)) (a1 : Int) (K : Int → Option β) : Option β :=
  bif ((a1 : Int) == 0) then (K 301) else (impl_shapeOk.f k a0_0 a0_1 a0_2 a0_3 a0_4 (fun y7 => bif (!y7) then (K 301) else (Z4 (impl_measured.l0 k r_impl_measured a1 a0_4 (a0_4.length : Int) K) k (1, 0))))
noncomputable def impl_measured.w {β : Type} (r : Int → ByteArray → Int → (List (List D)) → (List (List D)) → Int → Option (Int)) (a0_0 : Int) (a0_1 : ByteArray) (a0_2 : Int) (a0_3 : List (List D)) (a0_4 : List (List D)) (a1 : Int) (K : Int → Option β) : Option β :=
  match r a0_0 a0_1 a0_2 a0_3 a0_4 a1 with
  | some z0 => K z0
  | none => none
noncomputable def impl_measured.all : Nat → (Int → ByteArray → Int → (List (List D)) → (List (List D)) → Int → Option (Int))
  | 0 => (fun _ _ _ _ _ _ => none)
  | k + 1 => (fun r => (fun a0_0 a0_1 a0_2 a0_3 a0_4 a1 => impl_measured.body k (impl_measured.w r) a0_0 a0_1 a0_2 a0_3 a0_4 a1 (fun z0 => some z0))) (impl_measured.all k)
noncomputable def impl_measured.t (k : Nat) (a0_0 : Int) (a0_1 : ByteArray) (a0_2 : Int) (a0_3 : List (List D)) (a0_4 : List (List D)) (a1 : Int) : Option (Int) := (impl_measured.all k) a0_0 a0_1 a0_2 a0_3 a0_4 a1
noncomputable def impl_measured.f {β : Type} (k : Nat) (a0_0 : Int) (a0_1 : ByteArray) (a0_2 : Int) (a0_3 : List (List D)) (a0_4 : List (List D)) (a1 : Int) (K : Int → Option β) : Option β := impl_measured.w (impl_measured.t k) a0_0 a0_1 a0_2 a0_3 a0_4 a1 K
noncomputable def impl_measured.g {β : Type} (k : Nat) (a0_0 : Int) (a0_1 : ByteArray) (a0_2 : Int) (a0_3 : List (List D)) (a0_4 : List (List D)) (a1 : Int) (K : Int → Option β) : Option β := impl_measured.body k (impl_measured.f k) a0_0 a0_1 a0_2 a0_3 a0_4 a1 K
theorem impl_measured.t_zero (a0_0 : Int) (a0_1 : ByteArray) (a0_2 : Int) (a0_3 : List (List D)) (a0_4 : List (List D)) (a1 : Int) : impl_measured.t 0 a0_0 a0_1 a0_2 a0_3 a0_4 a1 = none := rfl
theorem impl_measured.t_succ (k : Nat) (a0_0 : Int) (a0_1 : ByteArray) (a0_2 : Int) (a0_3 : List (List D)) (a0_4 : List (List D)) (a1 : Int) : impl_measured.t (k + 1) a0_0 a0_1 a0_2 a0_3 a0_4 a1 = impl_measured.g k a0_0 a0_1 a0_2 a0_3 a0_4 a1 (fun z0 => some z0) := rfl
noncomputable def impl_measured.as (a0_0 : Int) (a0_1 : ByteArray) (a0_2 : Int) (a0_3 : List (List D)) (a0_4 : List (List D)) (a1 : Int) : List A := [.agg [.int .i64 a0_0, .str a0_1, .int .i64 a0_2, .sl a0_3, .sl a0_4], .d (.int .i64 a1)]
noncomputable def impl_measured.kt {β : Type} (a0_0 : Int) (a0_1 : ByteArray) (a0_2 : Int) (a0_3 : List (List D)) (a0_4 : List (List D)) (a1 : Int) (K0 : List (List C) → List Out → Option β) : Int → Option β := fun z0 => K0 [[.d (.int .i64 z0)]] []
noncomputable def impl_measured.e (k : Nat) : ZQ := { modes := [(.imm, 0), (.imm, 0)], rts := [3], al := false, run := fun {β} l K => match l with | [.agg [.int .i64 a0_0, .str a0_1, .int .i64 a0_2, .sl a0_3, .sl a0_4], .d (.int .i64 a1)] => impl_measured.f k a0_0 a0_1 a0_2 a0_3 a0_4 a1 (impl_measured.kt a0_0 a0_1 a0_2 a0_3 a0_4 a1 K) | _ => none }
noncomputable def impl_measured.E (k : Nat) : Env := fun g => bif g == 249 then some (impl_shapeOk.e k) else bif g == 225 then some (impl_measured.e k) else none
noncomputable def impl_measured.h : ZY := ⟨fun n => bif n == 5 then ⟨[(1, .asis), (5, .asis), (16, .asis), (17, .asis), (18, .asis)], []⟩ else ⟨[], []⟩, fun _ => none, false, []⟩
noncomputable def impl_measured.s0 (v0_0 : Int) (v0_2 : List (List D)) (v0_3 : Int) (v : Int × Int) : St :=
  match v with
  | (v0_1, v0_4) => ⟨[.any, .d false (.int .i64 v0_0), .any, .any, .any, .d true (.int .i64 v0_1), .any, .any, .any, .any, .any, .any, .any, .any, .any, .any, .d false (.sl v0_2), .d true (.int .i64 v0_3), .d true (.int .i64 v0_4), .any, .any, .any, .any, .any, .any, .any, .any, .any, .any, .any, .any, .any], []⟩
noncomputable def impl_measured.b0 {β : Type} (k : Nat) : St → (Ex → St → Option β) → Option β := fun s K => den Try.prog (impl_measured.E k) impl_measured.h.H impl_measured.h.J k (Zad [1, 1, 1, 0, 1, 0, 0] (Zl Try.f225)) s K
noncomputable def impl_measured.c0 {β : Type} (k : Nat) (a0_0 : Int) (a0_1 : ByteArray) (a0_2 : Int) (a0_3 : List (List D)) (a0_4 : List (List D)) (a1 : Int) (K0 : List (List C) → List Out → Option β) : Ex → St → Option β := Zae Try.prog (impl_measured.E k) impl_measured.h k [1, 1, 1, 0, 1, 0] (Zl Try.f225) (Zak Try.prog Try.f225 impl_measured.h (impl_measured.as a0_0 a0_1 a0_2 a0_3 a0_4 a1) K0)
theorem impl_measured.l0_eq {β : Type} (k : Nat) (a0_0 : Int) (a0_1 : ByteArray) (a0_2 : Int) (a0_3 : List (List D)) (a0_4 : List (List D)) (a1 : Int) (K0 : List (List C) → List Out → Option β) (v0_0 : Int) (v0_2 : List (List D)) (v0_3 : Int) : ∀ (kk : Nat) (v : Int × Int), Zx (impl_measured.b0 k) (impl_measured.h.H 5) kk (impl_measured.s0 v0_0 v0_2 v0_3 v) (impl_measured.c0 k a0_0 a0_1 a0_2 a0_3 a0_4 a1 K0) = Z4 (impl_measured.l0 k (impl_measured.f k) v0_0 v0_2 v0_3 (impl_measured.kt a0_0 a0_1 a0_2 a0_3 a0_4 a1 K0)) kk v :=
  Z9 (impl_measured.s0 v0_0 v0_2 v0_3) _ (fun L0 v => by obtain ⟨v0_1, v0_4⟩ := v; kernel_rfl)
noncomputable def impl_measured.m {β : Type} (k : Nat) (a0_0 : Int) (a0_1 : ByteArray) (a0_2 : Int) (a0_3 : List (List D)) (a0_4 : List (List D)) (a1 : Int) (K0 : List (List C) → List Out → Option β) (F : (Int → (List (List D)) → Int → (Int × Int) → Option β)) : Option β :=
  bif ((a1 : Int) == 0) then ((impl_measured.kt a0_0 a0_1 a0_2 a0_3 a0_4 a1 K0) 301) else (impl_shapeOk.f k a0_0 a0_1 a0_2 a0_3 a0_4 (fun y7 => bif (!y7) then ((impl_measured.kt a0_0 a0_1 a0_2 a0_3 a0_4 a1 K0) 301) else ((F) a1 a0_4 (a0_4.length : Int) (1, 0))))
theorem impl_measured.f_eq {β : Type} (k : Nat) (a0_0 : Int) (a0_1 : ByteArray) (a0_2 : Int) (a0_3 : List (List D)) (a0_4 : List (List D)) (a1 : Int) (K0 : List (List C) → List Out → Option β) : ZJ Try.prog (impl_measured.E k) impl_measured.h k Try.f225 (impl_measured.as a0_0 a0_1 a0_2 a0_3 a0_4 a1) K0 = impl_measured.g k a0_0 a0_1 a0_2 a0_3 a0_4 a1 (impl_measured.kt a0_0 a0_1 a0_2 a0_3 a0_4 a1 K0) := Eq.trans (b := (impl_measured.m k a0_0 a0_1 a0_2 a0_3 a0_4 a1 K0) (fun (v0_0 : Int) (v0_2 : List (List D)) (v0_3 : Int) (v : Int × Int) => Zx (impl_measured.b0 k) (impl_measured.h.H 5) k (impl_measured.s0 v0_0 v0_2 v0_3 v) (impl_measured.c0 k a0_0 a0_1 a0_2 a0_3 a0_4 a1 K0))) (by kernel_rfl) (Eq.trans (congrArg (impl_measured.m k a0_0 a0_1 a0_2 a0_3 a0_4 a1 K0) (funext fun v0_0 => funext fun v0_2 => funext fun v0_3 => funext fun v => impl_measured.l0_eq k a0_0 a0_1 a0_2 a0_3 a0_4 a1 K0 v0_0 v0_2 v0_3 k v)) (by kernel_rfl))
noncomputable def impl_measured.dec (rs : List (List C)) (os : List Out) : Option (Int) := Zd rs fun c1 r2 => Zd c1 fun x3 l4 => cD x3 fun d5 => ZM .i64 d5 fun w0 => Ze l4 <| Ze r2 <| Ze os (some w0)
theorem impl_measured.kt_dec (a0_0 : Int) (a0_1 : ByteArray) (a0_2 : Int) (a0_3 : List (List D)) (a0_4 : List (List D)) (a1 : Int) : impl_measured.kt a0_0 a0_1 a0_2 a0_3 a0_4 a1 impl_measured.dec = (fun z0 => some z0) := by kernel_rfl
theorem impl_measured.inj (a0_0 : Int) (a0_1 : ByteArray) (a0_2 : Int) (a0_3 : List (List D)) (a0_4 : List (List D)) (a1 : Int) {rs : List (List C)} {os : List Out} {z0 : Int} (h : impl_measured.dec rs os = some z0) (ho : Zo (impl_measured.as a0_0 a0_1 a0_2 a0_3 a0_4 a1) os) : rs = [[.d (.int .i64 z0)]] ∧ os = [] := by
  unfold impl_measured.dec at h
  obtain ⟨c1, r2, rfl, h1⟩ := Zb h
  obtain ⟨x3, l4, rfl, h2⟩ := Zb h1
  obtain ⟨d5, rfl, h3⟩ := Zt h2
  obtain ⟨w0, rfl, h4⟩ := ZA h3
  obtain ⟨rfl, h5⟩ := Zc h4
  obtain ⟨rfl, h6⟩ := Zc h5
  obtain ⟨rfl, h7⟩ := Zc h6
  obtain rfl := Option.some.inj h7
  exact ⟨rfl, rfl⟩
theorem impl_measured.oks (k : Nat) : Zv Try.prog 225 (impl_measured.e k) := by
  induction k with
  | zero =>
    refine ?_
    · exact Zb1 (Zq Try.func225 (by kernel_rfl)) fun β l K r h => by
        simp only [impl_measured.e] at h
        split at h
        · unfold impl_measured.f at h
          unfold impl_measured.w at h
          rw [impl_measured.t_zero] at h
          cases h
        · cases h
  | succ k ih =>
    refine ?_
    · refine Zu mix tyok (fn := Try.f225) (c := Zl Try.f225) Try.func225 (by kernel_rfl) (h := impl_measured.h) (k := k) (E := impl_measured.E k) (Zk (impl_shapeOk.ok k) (Zk ih Zz)) (by kernel_rfl) (by kernel_rfl) rfl (Zq Try.func225 (by kernel_rfl)) ?_
      intro β l K r hr
      simp only [impl_measured.e] at hr
      split at hr
      case h_2 => cases hr
      unfold impl_measured.f at hr
      unfold impl_measured.w at hr
      split at hr
      case h_2 => cases hr
      rename_i hz
      exact ⟨_, _, hr, _, impl_measured.dec, _, (impl_measured.f_eq k _ _ _ _ _ _ impl_measured.dec).trans (by rw [impl_measured.kt_dec]; exact hz), fun rs os h ho => impl_measured.inj _ _ _ _ _ _ h ho⟩
theorem impl_measured.ok (k : Nat) : Zv Try.prog 225 (impl_measured.e k) := (impl_measured.oks k)
noncomputable def impl_ValueOk.g {β : Type} (k : Nat) (a0_0 : Int) (a0_1 : ByteArray) (a0_2 : Int) (a0_3 : List (List D)) (a0_4 : List (List D)) (K : Bool → Option β) : Option β :=
  impl_measured.f k a0_0 a0_1 a0_2 a0_3 a0_4 6 (fun y42 => K (decide ((y42 : Int) ≤ 300)))
noncomputable def impl_ValueOk.t (k : Nat) (a0_0 : Int) (a0_1 : ByteArray) (a0_2 : Int) (a0_3 : List (List D)) (a0_4 : List (List D)) : Option (Bool) := impl_ValueOk.g k a0_0 a0_1 a0_2 a0_3 a0_4 (fun z0 => some z0)
noncomputable def impl_ValueOk.f {β : Type} (k : Nat) (a0_0 : Int) (a0_1 : ByteArray) (a0_2 : Int) (a0_3 : List (List D)) (a0_4 : List (List D)) (K : Bool → Option β) : Option β :=
  match impl_ValueOk.t k a0_0 a0_1 a0_2 a0_3 a0_4 with
  | some z0 => K z0
  | none => none
noncomputable def impl_ValueOk.as (a0_0 : Int) (a0_1 : ByteArray) (a0_2 : Int) (a0_3 : List (List D)) (a0_4 : List (List D)) : List A := [.agg [.int .i64 a0_0, .str a0_1, .int .i64 a0_2, .sl a0_3, .sl a0_4]]
noncomputable def impl_ValueOk.kt {β : Type} (a0_0 : Int) (a0_1 : ByteArray) (a0_2 : Int) (a0_3 : List (List D)) (a0_4 : List (List D)) (K0 : List (List C) → List Out → Option β) : Bool → Option β := fun z0 => K0 [[.d (.bool z0)]] []
noncomputable def impl_ValueOk.e (k : Nat) : ZQ := { modes := [(.imm, 0)], rts := [4], al := false, run := fun {β} l K => match l with | [.agg [.int .i64 a0_0, .str a0_1, .int .i64 a0_2, .sl a0_3, .sl a0_4]] => impl_ValueOk.f k a0_0 a0_1 a0_2 a0_3 a0_4 (impl_ValueOk.kt a0_0 a0_1 a0_2 a0_3 a0_4 K) | _ => none }
noncomputable def impl_ValueOk.E (k : Nat) : Env := fun g => bif g == 225 then some (impl_measured.e k) else none
noncomputable def impl_ValueOk.h : ZY := ⟨fun n => ⟨[], []⟩, fun _ => none, false, []⟩
theorem impl_ValueOk.f_eq {β : Type} (k : Nat) (a0_0 : Int) (a0_1 : ByteArray) (a0_2 : Int) (a0_3 : List (List D)) (a0_4 : List (List D)) (K0 : List (List C) → List Out → Option β) : ZJ Try.prog (impl_ValueOk.E k) impl_ValueOk.h k Try.f188 (impl_ValueOk.as a0_0 a0_1 a0_2 a0_3 a0_4) K0 = impl_ValueOk.g k a0_0 a0_1 a0_2 a0_3 a0_4 (impl_ValueOk.kt a0_0 a0_1 a0_2 a0_3 a0_4 K0) := by kernel_rfl
noncomputable def impl_ValueOk.dec (rs : List (List C)) (os : List Out) : Option (Bool) := Zd rs fun c1 r2 => Zd c1 fun x3 l4 => cD x3 fun d5 => ZaF d5 fun w0 => Ze l4 <| Ze r2 <| Ze os (some w0)
theorem impl_ValueOk.kt_dec (a0_0 : Int) (a0_1 : ByteArray) (a0_2 : Int) (a0_3 : List (List D)) (a0_4 : List (List D)) : impl_ValueOk.kt a0_0 a0_1 a0_2 a0_3 a0_4 impl_ValueOk.dec = (fun z0 => some z0) := by kernel_rfl
theorem impl_ValueOk.inj (a0_0 : Int) (a0_1 : ByteArray) (a0_2 : Int) (a0_3 : List (List D)) (a0_4 : List (List D)) {rs : List (List C)} {os : List Out} {z0 : Bool} (h : impl_ValueOk.dec rs os = some z0) (ho : Zo (impl_ValueOk.as a0_0 a0_1 a0_2 a0_3 a0_4) os) : rs = [[.d (.bool z0)]] ∧ os = [] := by
  unfold impl_ValueOk.dec at h
  obtain ⟨c1, r2, rfl, h1⟩ := Zb h
  obtain ⟨x3, l4, rfl, h2⟩ := Zb h1
  obtain ⟨d5, rfl, h3⟩ := Zt h2
  obtain ⟨w0, rfl, h4⟩ := Z0 h3
  obtain ⟨rfl, h5⟩ := Zc h4
  obtain ⟨rfl, h6⟩ := Zc h5
  obtain ⟨rfl, h7⟩ := Zc h6
  obtain rfl := Option.some.inj h7
  exact ⟨rfl, rfl⟩
theorem impl_ValueOk.ok (k : Nat) : Zv Try.prog 188 (impl_ValueOk.e k) := by
  refine Zu mix tyok (fn := Try.f188) (c := Zl Try.f188) Try.func188 (by kernel_rfl) (h := impl_ValueOk.h) (k := k) (E := impl_ValueOk.E k) (Zk (impl_measured.ok k) Zz) (by kernel_rfl) (by kernel_rfl) rfl (Zq Try.func188 (by kernel_rfl)) ?_
  intro β l K r hr
  simp only [impl_ValueOk.e] at hr
  split at hr
  case h_2 => cases hr
  unfold impl_ValueOk.f at hr
  split at hr
  case h_2 => cases hr
  rename_i hz
  exact ⟨_, _, hr, _, impl_ValueOk.dec, _, (impl_ValueOk.f_eq k _ _ _ _ _ impl_ValueOk.dec).trans (by rw [impl_ValueOk.kt_dec]; exact hz), fun rs os h ho => impl_ValueOk.inj _ _ _ _ _ h ho⟩
noncomputable def impl_objOk.g {β : Type} (k : Nat) (a0_0 : Int) (a0_1 : ByteArray) (a0_2 : Int) (a0_3 : Int) (a0_4 : Int) (a0_5 : Bool) (a0_6 : List (List D)) (a0_7 : Int) (a0_8 : ByteArray) (a0_9 : Int) (a0_10 : List (List D)) (a0_11 : List (List D)) (a0_12 : Int) (a0_13 : ByteArray) (a0_14 : Int) (a0_15 : List (List D)) (a0_16 : List (List D)) (a1 : Int) (a2 : Int) (a3 : Bool) (K : Bool → Option β) : Option β :=
  impl_isKind.f k a0_0 (fun y2 => bif y2 then (impl_NameOk.f k a0_1 (fun y9 => bif y9 then (impl_within.f k a0_2 1 a1 (fun y10 => bif y10 then (impl_within.f k a0_3 1 a2 (fun y11 => bif y11 then (impl_within.f k a0_4 1 a0_3 (fun y12 => bif y12 then (impl_namesOk.f k a0_6 4 (fun y19 => bif y19 then (bif a3 then (impl_ValueOk.f k a0_7 a0_8 a0_9 a0_10 a0_11 (fun y43 => bif y43 then (impl_ValueOk.f k a0_12 a0_13 a0_14 a0_15 a0_16 (fun y44 => K y44)) else (K false))) else (bif (!a0_5) then (impl_ValueOk.f k a0_7 a0_8 a0_9 a0_10 a0_11 (fun y45 => bif y45 then (impl_ValueOk.f k a0_12 a0_13 a0_14 a0_15 a0_16 (fun y46 => K y46)) else (K false))) else (bif (decide (((a0_6.length : Int) : Int) > 0)) then (impl_ValueOk.f k a0_7 a0_8 a0_9 a0_10 a0_11 (fun y47 => bif y47 then (impl_ValueOk.f k a0_12 a0_13 a0_14 a0_15 a0_16 (fun y48 => K y48)) else (K false))) else (K false)))) else (K false))) else (K false))) else (K false))) else (K false))) else (K false))) else (K false))
noncomputable def impl_objOk.t (k : Nat) (a0_0 : Int) (a0_1 : ByteArray) (a0_2 : Int) (a0_3 : Int) (a0_4 : Int) (a0_5 : Bool) (a0_6 : List (List D)) (a0_7 : Int) (a0_8 : ByteArray) (a0_9 : Int) (a0_10 : List (List D)) (a0_11 : List (List D)) (a0_12 : Int) (a0_13 : ByteArray) (a0_14 : Int) (a0_15 : List (List D)) (a0_16 : List (List D)) (a1 : Int) (a2 : Int) (a3 : Bool) : Option (Bool) := impl_objOk.g k a0_0 a0_1 a0_2 a0_3 a0_4 a0_5 a0_6 a0_7 a0_8 a0_9 a0_10 a0_11 a0_12 a0_13 a0_14 a0_15 a0_16 a1 a2 a3 (fun z0 => some z0)
noncomputable def impl_objOk.f {β : Type} (k : Nat) (a0_0 : Int) (a0_1 : ByteArray) (a0_2 : Int) (a0_3 : Int) (a0_4 : Int) (a0_5 : Bool) (a0_6 : List (List D)) (a0_7 : Int) (a0_8 : ByteArray) (a0_9 : Int) (a0_10 : List (List D)) (a0_11 : List (List D)) (a0_12 : Int) (a0_13 : ByteArray) (a0_14 : Int) (a0_15 : List (List D)) (a0_16 : List (List D)) (a1 : Int) (a2 : Int) (a3 : Bool) (K : Bool → Option β) : Option β :=
  match impl_objOk.t k a0_0 a0_1 a0_2 a0_3 a0_4 a0_5 a0_6 a0_7 a0_8 a0_9 a0_10 a0_11 a0_12 a0_13 a0_14 a0_15 a0_16 a1 a2 a3 with
  | some z0 => K z0
  | none => none
noncomputable def impl_objOk.as (a0_0 : Int) (a0_1 : ByteArray) (a0_2 : Int) (a0_3 : Int) (a0_4 : Int) (a0_5 : Bool) (a0_6 : List (List D)) (a0_7 : Int) (a0_8 : ByteArray) (a0_9 : Int) (a0_10 : List (List D)) (a0_11 : List (List D)) (a0_12 : Int) (a0_13 : ByteArray) (a0_14 : Int) (a0_15 : List (List D)) (a0_16 : List (List D)) (a1 : Int) (a2 : Int) (a3 : Bool) : List A := [.agg [.int .i64 a0_0, .str a0_1, .int .i64 a0_2, .int .i64 a0_3, .int .i64 a0_4, .bool a0_5, .sl a0_6, .int .i64 a0_7, .str a0_8, .int .i64 a0_9, .sl a0_10, .sl a0_11, .int .i64 a0_12, .str a0_13, .int .i64 a0_14, .sl a0_15, .sl a0_16], .d (.int .i64 a1), .d (.int .i64 a2), .d (.bool a3)]
noncomputable def impl_objOk.kt {β : Type} (a0_0 : Int) (a0_1 : ByteArray) (a0_2 : Int) (a0_3 : Int) (a0_4 : Int) (a0_5 : Bool) (a0_6 : List (List D)) (a0_7 : Int) (a0_8 : ByteArray) (a0_9 : Int) (a0_10 : List (List D)) (a0_11 : List (List D)) (a0_12 : Int) (a0_13 : ByteArray) (a0_14 : Int) (a0_15 : List (List D)) (a0_16 : List (List D)) (a1 : Int) (a2 : Int) (a3 : Bool) (K0 : List (List C) → List Out → Option β) : Bool → Option β := fun z0 => K0 [[.d (.bool z0)]] []
noncomputable def impl_objOk.e (k : Nat) : ZQ := { modes := [(.imm, 0), (.imm, 0), (.imm, 0), (.imm, 0)], rts := [4], al := false, run := fun {β} l K => match l with | [.agg [.int .i64 a0_0, .str a0_1, .int .i64 a0_2, .int .i64 a0_3, .int .i64 a0_4, .bool a0_5, .sl a0_6, .int .i64 a0_7, .str a0_8, .int .i64 a0_9, .sl a0_10, .sl a0_11, .int .i64 a0_12, .str a0_13, .int .i64 a0_14, .sl a0_15, .sl a0_16], .d (.int .i64 a1), .d (.int .i64 a2), .d (.bool a3)] => impl_objOk.f k a0_0 a0_1 a0_2 a0_3 a0_4 a0_5 a0_6 a0_7 a0_8 a0_9 a0_10 a0_11 a0_12 a0_13 a0_14 a0_15 a0_16 a1 a2 a3 (impl_objOk.kt a0_0 a0_1 a0_2 a0_3 a0_4 a0_5 a0_6 a0_7 a0_8 a0_9 a0_10 a0_11 a0_12 a0_13 a0_14 a0_15 a0_16 a1 a2 a3 K) | _ => none }
noncomputable def impl_objOk.E (k : Nat) : Env := fun g => bif g == 228 then some (impl_isKind.e k) else bif g == 97 then some (impl_NameOk.e k) else bif g == 126 then some (impl_within.e k) else bif g == 229 then some (impl_namesOk.e k) else bif g == 188 then some (impl_ValueOk.e k) else none
noncomputable def impl_objOk.h : ZY := ⟨fun n => ⟨[], []⟩, fun _ => none, false, []⟩
theorem impl_objOk.f_eq {β : Type} (k : Nat) (a0_0 : Int) (a0_1 : ByteArray) (a0_2 : Int) (a0_3 : Int) (a0_4 : Int) (a0_5 : Bool) (a0_6 : List (List D)) (a0_7 : Int) (a0_8 : ByteArray) (a0_9 : Int) (a0_10 : List (List D)) (a0_11 : List (List D)) (a0_12 : Int) (a0_13 : ByteArray) (a0_14 : Int) (a0_15 : List (List D)) (a0_16 : List (List D)) (a1 : Int) (a2 : Int) (a3 : Bool) (K0 : List (List C) → List Out → Option β) : ZJ Try.prog (impl_objOk.E k) impl_objOk.h k Try.f196 (impl_objOk.as a0_0 a0_1 a0_2 a0_3 a0_4 a0_5 a0_6 a0_7 a0_8 a0_9 a0_10 a0_11 a0_12 a0_13 a0_14 a0_15 a0_16 a1 a2 a3) K0 = impl_objOk.g k a0_0 a0_1 a0_2 a0_3 a0_4 a0_5 a0_6 a0_7 a0_8 a0_9 a0_10 a0_11 a0_12 a0_13 a0_14 a0_15 a0_16 a1 a2 a3 (impl_objOk.kt a0_0 a0_1 a0_2 a0_3 a0_4 a0_5 a0_6 a0_7 a0_8 a0_9 a0_10 a0_11 a0_12 a0_13 a0_14 a0_15 a0_16 a1 a2 a3 K0) := by kernel_rfl
noncomputable def impl_objOk.dec (rs : List (List C)) (os : List Out) : Option (Bool) := Zd rs fun c1 r2 => Zd c1 fun x3 l4 => cD x3 fun d5 => ZaF d5 fun w0 => Ze l4 <| Ze r2 <| Ze os (some w0)
theorem impl_objOk.kt_dec (a0_0 : Int) (a0_1 : ByteArray) (a0_2 : Int) (a0_3 : Int) (a0_4 : Int) (a0_5 : Bool) (a0_6 : List (List D)) (a0_7 : Int) (a0_8 : ByteArray) (a0_9 : Int) (a0_10 : List (List D)) (a0_11 : List (List D)) (a0_12 : Int) (a0_13 : ByteArray) (a0_14 : Int) (a0_15 : List (List D)) (a0_16 : List (List D)) (a1 : Int) (a2 : Int) (a3 : Bool) : impl_objOk.kt a0_0 a0_1 a0_2 a0_3 a0_4 a0_5 a0_6 a0_7 a0_8 a0_9 a0_10 a0_11 a0_12 a0_13 a0_14 a0_15 a0_16 a1 a2 a3 impl_objOk.dec = (fun z0 => some z0) := by kernel_rfl
theorem impl_objOk.inj (a0_0 : Int) (a0_1 : ByteArray) (a0_2 : Int) (a0_3 : Int) (a0_4 : Int) (a0_5 : Bool) (a0_6 : List (List D)) (a0_7 : Int) (a0_8 : ByteArray) (a0_9 : Int) (a0_10 : List (List D)) (a0_11 : List (List D)) (a0_12 : Int) (a0_13 : ByteArray) (a0_14 : Int) (a0_15 : List (List D)) (a0_16 : List (List D)) (a1 : Int) (a2 : Int) (a3 : Bool) {rs : List (List C)} {os : List Out} {z0 : Bool} (h : impl_objOk.dec rs os = some z0) (ho : Zo (impl_objOk.as a0_0 a0_1 a0_2 a0_3 a0_4 a0_5 a0_6 a0_7 a0_8 a0_9 a0_10 a0_11 a0_12 a0_13 a0_14 a0_15 a0_16 a1 a2 a3) os) : rs = [[.d (.bool z0)]] ∧ os = [] := by
  unfold impl_objOk.dec at h
  obtain ⟨c1, r2, rfl, h1⟩ := Zb h
  obtain ⟨x3, l4, rfl, h2⟩ := Zb h1
  obtain ⟨d5, rfl, h3⟩ := Zt h2
  obtain ⟨w0, rfl, h4⟩ := Z0 h3
  obtain ⟨rfl, h5⟩ := Zc h4
  obtain ⟨rfl, h6⟩ := Zc h5
  obtain ⟨rfl, h7⟩ := Zc h6
  obtain rfl := Option.some.inj h7
  exact ⟨rfl, rfl⟩
theorem impl_objOk.ok (k : Nat) : Zv Try.prog 196 (impl_objOk.e k) := by
  refine Zu mix tyok (fn := Try.f196) (c := Zl Try.f196) Try.func196 (by kernel_rfl) (h := impl_objOk.h) (k := k) (E := impl_objOk.E k) (Zk (impl_isKind.ok k) (Zk (impl_NameOk.ok k) (Zk (impl_within.ok k) (Zk (impl_namesOk.ok k) (Zk (impl_ValueOk.ok k) Zz))))) (by kernel_rfl) (by kernel_rfl) rfl (Zq Try.func196 (by kernel_rfl)) ?_
  intro β l K r hr
  simp only [impl_objOk.e] at hr
  split at hr
  case h_2 => cases hr
  unfold impl_objOk.f at hr
  split at hr
  case h_2 => cases hr
  rename_i hz
  exact ⟨_, _, hr, _, impl_objOk.dec, _, (impl_objOk.f_eq k _ _ _ _ _ _ _ _ _ _ _ _ _ _ _ _ _ _ _ _ impl_objOk.dec).trans (by rw [impl_objOk.kt_dec]; exact hz), fun rs os h ho => impl_objOk.inj _ _ _ _ _ _ _ _ _ _ _ _ _ _ _ _ _ _ _ _ h ho⟩
noncomputable def cmp_isNaN_int.g {β : Type} (k : Nat) (a0 : Int) (K : Bool → Option β) : Option β :=
  K ((a0 : Int) != a0)
noncomputable def cmp_isNaN_int.t (k : Nat) (a0 : Int) : Option (Bool) := cmp_isNaN_int.g k a0 (fun z0 => some z0)
noncomputable def cmp_isNaN_int.f {β : Type} (k : Nat) (a0 : Int) (K : Bool → Option β) : Option β :=
  match cmp_isNaN_int.t k a0 with
  | some z0 => K z0
  | none => none
noncomputable def cmp_isNaN_int.as (a0 : Int) : List A := [.d (.int .i64 a0)]
noncomputable def cmp_isNaN_int.kt {β : Type} (a0 : Int) (K0 : List (List C) → List Out → Option β) : Bool → Option β := fun z0 => K0 [[.d (.bool z0)]] []
noncomputable def cmp_isNaN_int.e (k : Nat) : ZQ := { modes := [(.imm, 0)], rts := [4], al := false, run := fun {β} l K => match l with | [.d (.int .i64 a0)] => cmp_isNaN_int.f k a0 (cmp_isNaN_int.kt a0 K) | _ => none }
noncomputable def cmp_isNaN_int.E (k : Nat) : Env := fun g => none
noncomputable def cmp_isNaN_int.h : ZY := ⟨fun n => ⟨[], []⟩, fun _ => none, false, []⟩
theorem cmp_isNaN_int.f_eq {β : Type} (k : Nat) (a0 : Int) (K0 : List (List C) → List Out → Option β) : ZJ Try.prog (cmp_isNaN_int.E k) cmp_isNaN_int.h k Try.f207 (cmp_isNaN_int.as a0) K0 = cmp_isNaN_int.g k a0 (cmp_isNaN_int.kt a0 K0) := by kernel_rfl
noncomputable def cmp_isNaN_int.dec (rs : List (List C)) (os : List Out) : Option (Bool) := Zd rs fun c1 r2 => Zd c1 fun x3 l4 => cD x3 fun d5 => ZaF d5 fun w0 => Ze l4 <| Ze r2 <| Ze os (some w0)
theorem cmp_isNaN_int.kt_dec (a0 : Int) : cmp_isNaN_int.kt a0 cmp_isNaN_int.dec = (fun z0 => some z0) := by kernel_rfl
theorem cmp_isNaN_int.inj (a0 : Int) {rs : List (List C)} {os : List Out} {z0 : Bool} (h : cmp_isNaN_int.dec rs os = some z0) (ho : Zo (cmp_isNaN_int.as a0) os) : rs = [[.d (.bool z0)]] ∧ os = [] := by
  unfold cmp_isNaN_int.dec at h
  obtain ⟨c1, r2, rfl, h1⟩ := Zb h
  obtain ⟨x3, l4, rfl, h2⟩ := Zb h1
  obtain ⟨d5, rfl, h3⟩ := Zt h2
  obtain ⟨w0, rfl, h4⟩ := Z0 h3
  obtain ⟨rfl, h5⟩ := Zc h4
  obtain ⟨rfl, h6⟩ := Zc h5
  obtain ⟨rfl, h7⟩ := Zc h6
  obtain rfl := Option.some.inj h7
  exact ⟨rfl, rfl⟩
theorem cmp_isNaN_int.ok (k : Nat) : Zv Try.prog 207 (cmp_isNaN_int.e k) := by
  refine Zu mix tyok (fn := Try.f207) (c := Zl Try.f207) Try.func207 (by kernel_rfl) (h := cmp_isNaN_int.h) (k := k) (E := cmp_isNaN_int.E k) Zz (by kernel_rfl) (by kernel_rfl) rfl (Zq Try.func207 (by kernel_rfl)) ?_
  intro β l K r hr
  simp only [cmp_isNaN_int.e] at hr
  split at hr
  case h_2 => cases hr
  unfold cmp_isNaN_int.f at hr
  split at hr
  case h_2 => cases hr
  rename_i hz
  exact ⟨_, _, hr, _, cmp_isNaN_int.dec, _, (cmp_isNaN_int.f_eq k _ cmp_isNaN_int.dec).trans (by rw [cmp_isNaN_int.kt_dec]; exact hz), fun rs os h ho => cmp_isNaN_int.inj _ h ho⟩
noncomputable def cmp_Compare_int.g {β : Type} (k : Nat) (a0 : Int) (a1 : Int) (K : Int → Option β) : Option β :=
  cmp_isNaN_int.f k a0 (fun y1 => cmp_isNaN_int.f k a1 (fun y2 => bif y1 then (bif y2 then (K 0) else (K (-1))) else (bif y2 then (K 1) else (bif (decide ((a0 : Int) < a1)) then (K (-1)) else (bif (decide ((a0 : Int) > a1)) then (K 1) else (K 0))))))
noncomputable def cmp_Compare_int.t (k : Nat) (a0 : Int) (a1 : Int) : Option (Int) := cmp_Compare_int.g k a0 a1 (fun z0 => some z0)
noncomputable def cmp_Compare_int.f {β : Type} (k : Nat) (a0 : Int) (a1 : Int) (K : Int → Option β) : Option β :=
  match cmp_Compare_int.t k a0 a1 with
  | some z0 => K z0
  | none => none
noncomputable def cmp_Compare_int.as (a0 : Int) (a1 : Int) : List A := [.d (.int .i64 a0), .d (.int .i64 a1)]
noncomputable def cmp_Compare_int.kt {β : Type} (a0 : Int) (a1 : Int) (K0 : List (List C) → List Out → Option β) : Int → Option β := fun z0 => K0 [[.d (.int .i64 z0)]] []
noncomputable def cmp_Compare_int.e (k : Nat) : ZQ := { modes := [(.imm, 0), (.imm, 0)], rts := [3], al := false, run := fun {β} l K => match l with | [.d (.int .i64 a0), .d (.int .i64 a1)] => cmp_Compare_int.f k a0 a1 (cmp_Compare_int.kt a0 a1 K) | _ => none }
noncomputable def cmp_Compare_int.E (k : Nat) : Env := fun g => bif g == 207 then some (cmp_isNaN_int.e k) else none
noncomputable def cmp_Compare_int.h : ZY := ⟨fun n => ⟨[], []⟩, fun _ => none, false, []⟩
theorem cmp_Compare_int.f_eq {β : Type} (k : Nat) (a0 : Int) (a1 : Int) (K0 : List (List C) → List Out → Option β) : ZJ Try.prog (cmp_Compare_int.E k) cmp_Compare_int.h k Try.f147 (cmp_Compare_int.as a0 a1) K0 = cmp_Compare_int.g k a0 a1 (cmp_Compare_int.kt a0 a1 K0) := by kernel_rfl
noncomputable def cmp_Compare_int.dec (rs : List (List C)) (os : List Out) : Option (Int) := Zd rs fun c1 r2 => Zd c1 fun x3 l4 => cD x3 fun d5 => ZM .i64 d5 fun w0 => Ze l4 <| Ze r2 <| Ze os (some w0)
theorem cmp_Compare_int.kt_dec (a0 : Int) (a1 : Int) : cmp_Compare_int.kt a0 a1 cmp_Compare_int.dec = (fun z0 => some z0) := by kernel_rfl
theorem cmp_Compare_int.inj (a0 : Int) (a1 : Int) {rs : List (List C)} {os : List Out} {z0 : Int} (h : cmp_Compare_int.dec rs os = some z0) (ho : Zo (cmp_Compare_int.as a0 a1) os) : rs = [[.d (.int .i64 z0)]] ∧ os = [] := by
  unfold cmp_Compare_int.dec at h
  obtain ⟨c1, r2, rfl, h1⟩ := Zb h
  obtain ⟨x3, l4, rfl, h2⟩ := Zb h1
  obtain ⟨d5, rfl, h3⟩ := Zt h2
  obtain ⟨w0, rfl, h4⟩ := ZA h3
  obtain ⟨rfl, h5⟩ := Zc h4
  obtain ⟨rfl, h6⟩ := Zc h5
  obtain ⟨rfl, h7⟩ := Zc h6
  obtain rfl := Option.some.inj h7
  exact ⟨rfl, rfl⟩
theorem cmp_Compare_int.ok (k : Nat) : Zv Try.prog 147 (cmp_Compare_int.e k) := by
  refine Zu mix tyok (fn := Try.f147) (c := Zl Try.f147) Try.func147 (by kernel_rfl) (h := cmp_Compare_int.h) (k := k) (E := cmp_Compare_int.E k) (Zk (cmp_isNaN_int.ok k) Zz) (by kernel_rfl) (by kernel_rfl) rfl (Zq Try.func147 (by kernel_rfl)) ?_
  intro β l K r hr
  simp only [cmp_Compare_int.e] at hr
  split at hr
  case h_2 => cases hr
  unfold cmp_Compare_int.f at hr
  split at hr
  case h_2 => cases hr
  rename_i hz
  exact ⟨_, _, hr, _, cmp_Compare_int.dec, _, (cmp_Compare_int.f_eq k _ _ cmp_Compare_int.dec).trans (by rw [cmp_Compare_int.kt_dec]; exact hz), fun rs os h ho => cmp_Compare_int.inj _ _ h ho⟩
noncomputable def bytealg_CompareString.t (k : Nat) (a0 a1 : ByteArray) : Option Int := some (cmpS a0 a1)
noncomputable def bytealg_CompareString.f {β : Type} (k : Nat) (a0 a1 : ByteArray) (K : Int → Option β) : Option β :=
  match bytealg_CompareString.t k a0 a1 with
  | some z0 => K z0
  | none => none
noncomputable def bytealg_CompareString.run (k : Nat) : {β : Type} → List A → (List (List C) → List Out → Option β) → Option β := fun {β} l K =>
  match l with
  | [.d (.str a0), .d (.str a1)] => bytealg_CompareString.f k a0 a1 (fun z0 => K [[.d (.int .i64 z0)]] [])
  | _ => none
noncomputable def bytealg_CompareString.e (k : Nat) : ZQ := { modes := [(.imm, 0), (.imm, 0)], rts := [3], al := false, run := bytealg_CompareString.run k }
set_option maxHeartbeats 1000000 in
set_option maxRecDepth 100000 in
theorem bytealg_CompareString.calls (a b : ByteArray) (w : World) : Calls Try.prog 250 #[.string a, .string b] w fun e w' => e = .returned (.int .i64 (cmpS a b)) ∧ w' = w := by
  go_enter Try.func250, Try.ntmps250
  go_wp2
  rw [run_callFunc_extern Try.func265 (by kernel_rfl) (by kernel_rfl) (by kernel_rfl) (e := Extern.BytealgCompare.compare) (by kernel_rfl), Go.Lib.run_compareString]
  simp only [Result.andThen]
  rw [Oper.upon_value]
  go_wp2
  go_ret
  exact ⟨rfl, rfl⟩
theorem bytealg_CompareString.ok (k : Nat) : Zv Try.prog 250 (bytealg_CompareString.e k) := strs_ok (t := 3) (g := cmpS) (run := fun {β} => bytealg_CompareString.run k) (Zq Try.func250 (by kernel_rfl)) (by kernel_rfl) (by kernel_rfl) bytealg_CompareString.calls (fun β aa K r h => by
  unfold bytealg_CompareString.run at h
  split at h
  · exact ⟨_, _, rfl, h⟩
  · cases h)
noncomputable def strings_Compare.g {β : Type} (k : Nat) (a0 : ByteArray) (a1 : ByteArray) (K : Int → Option β) : Option β :=
  bytealg_CompareString.f k a0 a1 (fun y1 => K y1)
noncomputable def strings_Compare.t (k : Nat) (a0 : ByteArray) (a1 : ByteArray) : Option (Int) := strings_Compare.g k a0 a1 (fun z0 => some z0)
noncomputable def strings_Compare.f {β : Type} (k : Nat) (a0 : ByteArray) (a1 : ByteArray) (K : Int → Option β) : Option β :=
  match strings_Compare.t k a0 a1 with
  | some z0 => K z0
  | none => none
noncomputable def strings_Compare.as (a0 : ByteArray) (a1 : ByteArray) : List A := [.d (.str a0), .d (.str a1)]
noncomputable def strings_Compare.kt {β : Type} (a0 : ByteArray) (a1 : ByteArray) (K0 : List (List C) → List Out → Option β) : Int → Option β := fun z0 => K0 [[.d (.int .i64 z0)]] []
noncomputable def strings_Compare.e (k : Nat) : ZQ := { modes := [(.imm, 0), (.imm, 0)], rts := [3], al := false, run := fun {β} l K => match l with | [.d (.str a0), .d (.str a1)] => strings_Compare.f k a0 a1 (strings_Compare.kt a0 a1 K) | _ => none }
noncomputable def strings_Compare.E (k : Nat) : Env := fun g => bif g == 250 then some (bytealg_CompareString.e k) else none
noncomputable def strings_Compare.h : ZY := ⟨fun n => ⟨[], []⟩, fun _ => none, false, []⟩
theorem strings_Compare.f_eq {β : Type} (k : Nat) (a0 : ByteArray) (a1 : ByteArray) (K0 : List (List C) → List Out → Option β) : ZJ Try.prog (strings_Compare.E k) strings_Compare.h k Try.f230 (strings_Compare.as a0 a1) K0 = strings_Compare.g k a0 a1 (strings_Compare.kt a0 a1 K0) := by kernel_rfl
noncomputable def strings_Compare.dec (rs : List (List C)) (os : List Out) : Option (Int) := Zd rs fun c1 r2 => Zd c1 fun x3 l4 => cD x3 fun d5 => ZM .i64 d5 fun w0 => Ze l4 <| Ze r2 <| Ze os (some w0)
theorem strings_Compare.kt_dec (a0 : ByteArray) (a1 : ByteArray) : strings_Compare.kt a0 a1 strings_Compare.dec = (fun z0 => some z0) := by kernel_rfl
theorem strings_Compare.inj (a0 : ByteArray) (a1 : ByteArray) {rs : List (List C)} {os : List Out} {z0 : Int} (h : strings_Compare.dec rs os = some z0) (ho : Zo (strings_Compare.as a0 a1) os) : rs = [[.d (.int .i64 z0)]] ∧ os = [] := by
  unfold strings_Compare.dec at h
  obtain ⟨c1, r2, rfl, h1⟩ := Zb h
  obtain ⟨x3, l4, rfl, h2⟩ := Zb h1
  obtain ⟨d5, rfl, h3⟩ := Zt h2
  obtain ⟨w0, rfl, h4⟩ := ZA h3
  obtain ⟨rfl, h5⟩ := Zc h4
  obtain ⟨rfl, h6⟩ := Zc h5
  obtain ⟨rfl, h7⟩ := Zc h6
  obtain rfl := Option.some.inj h7
  exact ⟨rfl, rfl⟩
theorem strings_Compare.ok (k : Nat) : Zv Try.prog 230 (strings_Compare.e k) := by
  refine Zu mix tyok (fn := Try.f230) (c := Zl Try.f230) Try.func230 (by kernel_rfl) (h := strings_Compare.h) (k := k) (E := strings_Compare.E k) (Zk (bytealg_CompareString.ok k) Zz) (by kernel_rfl) (by kernel_rfl) rfl (Zq Try.func230 (by kernel_rfl)) ?_
  intro β l K r hr
  simp only [strings_Compare.e] at hr
  split at hr
  case h_2 => cases hr
  unfold strings_Compare.f at hr
  split at hr
  case h_2 => cases hr
  rename_i hz
  exact ⟨_, _, hr, _, strings_Compare.dec, _, (strings_Compare.f_eq k _ _ strings_Compare.dec).trans (by rw [strings_Compare.kt_dec]; exact hz), fun rs os h ho => strings_Compare.inj _ _ h ho⟩
noncomputable def impl_cmpObjs.g {β : Type} (k : Nat) (a0_0 : Int) (a0_1 : ByteArray) (a0_2 : Int) (a0_3 : Int) (a0_4 : Int) (a0_5 : Bool) (a0_6 : List (List D)) (a0_7 : Int) (a0_8 : ByteArray) (a0_9 : Int) (a0_10 : List (List D)) (a0_11 : List (List D)) (a0_12 : Int) (a0_13 : ByteArray) (a0_14 : Int) (a0_15 : List (List D)) (a0_16 : List (List D)) (a1_0 : Int) (a1_1 : ByteArray) (a1_2 : Int) (a1_3 : Int) (a1_4 : Int) (a1_5 : Bool) (a1_6 : List (List D)) (a1_7 : Int) (a1_8 : ByteArray) (a1_9 : Int) (a1_10 : List (List D)) (a1_11 : List (List D)) (a1_12 : Int) (a1_13 : ByteArray) (a1_14 : Int) (a1_15 : List (List D)) (a1_16 : List (List D)) (K : Int → Option β) : Option β :=
  cmp_Compare_int.f k a0_0 a1_0 (fun y3 => bif ((y3 : Int) != 0) then (K y3) else (strings_Compare.f k a0_1 a1_1 (fun y4 => K y4)))
noncomputable def impl_cmpObjs.t (k : Nat) (a0_0 : Int) (a0_1 : ByteArray) (a0_2 : Int) (a0_3 : Int) (a0_4 : Int) (a0_5 : Bool) (a0_6 : List (List D)) (a0_7 : Int) (a0_8 : ByteArray) (a0_9 : Int) (a0_10 : List (List D)) (a0_11 : List (List D)) (a0_12 : Int) (a0_13 : ByteArray) (a0_14 : Int) (a0_15 : List (List D)) (a0_16 : List (List D)) (a1_0 : Int) (a1_1 : ByteArray) (a1_2 : Int) (a1_3 : Int) (a1_4 : Int) (a1_5 : Bool) (a1_6 : List (List D)) (a1_7 : Int) (a1_8 : ByteArray) (a1_9 : Int) (a1_10 : List (List D)) (a1_11 : List (List D)) (a1_12 : Int) (a1_13 : ByteArray) (a1_14 : Int) (a1_15 : List (List D)) (a1_16 : List (List D)) : Option (Int) := impl_cmpObjs.g k a0_0 a0_1 a0_2 a0_3 a0_4 a0_5 a0_6 a0_7 a0_8 a0_9 a0_10 a0_11 a0_12 a0_13 a0_14 a0_15 a0_16 a1_0 a1_1 a1_2 a1_3 a1_4 a1_5 a1_6 a1_7 a1_8 a1_9 a1_10 a1_11 a1_12 a1_13 a1_14 a1_15 a1_16 (fun z0 => some z0)
noncomputable def impl_cmpObjs.f {β : Type} (k : Nat) (a0_0 : Int) (a0_1 : ByteArray) (a0_2 : Int) (a0_3 : Int) (a0_4 : Int) (a0_5 : Bool) (a0_6 : List (List D)) (a0_7 : Int) (a0_8 : ByteArray) (a0_9 : Int) (a0_10 : List (List D)) (a0_11 : List (List D)) (a0_12 : Int) (a0_13 : ByteArray) (a0_14 : Int) (a0_15 : List (List D)) (a0_16 : List (List D)) (a1_0 : Int) (a1_1 : ByteArray) (a1_2 : Int) (a1_3 : Int) (a1_4 : Int) (a1_5 : Bool) (a1_6 : List (List D)) (a1_7 : Int) (a1_8 : ByteArray) (a1_9 : Int) (a1_10 : List (List D)) (a1_11 : List (List D)) (a1_12 : Int) (a1_13 : ByteArray) (a1_14 : Int) (a1_15 : List (List D)) (a1_16 : List (List D)) (K : Int → Option β) : Option β :=
  match impl_cmpObjs.t k a0_0 a0_1 a0_2 a0_3 a0_4 a0_5 a0_6 a0_7 a0_8 a0_9 a0_10 a0_11 a0_12 a0_13 a0_14 a0_15 a0_16 a1_0 a1_1 a1_2 a1_3 a1_4 a1_5 a1_6 a1_7 a1_8 a1_9 a1_10 a1_11 a1_12 a1_13 a1_14 a1_15 a1_16 with
  | some z0 => K z0
  | none => none
noncomputable def impl_cmpObjs.as (a0_0 : Int) (a0_1 : ByteArray) (a0_2 : Int) (a0_3 : Int) (a0_4 : Int) (a0_5 : Bool) (a0_6 : List (List D)) (a0_7 : Int) (a0_8 : ByteArray) (a0_9 : Int) (a0_10 : List (List D)) (a0_11 : List (List D)) (a0_12 : Int) (a0_13 : ByteArray) (a0_14 : Int) (a0_15 : List (List D)) (a0_16 : List (List D)) (a1_0 : Int) (a1_1 : ByteArray) (a1_2 : Int) (a1_3 : Int) (a1_4 : Int) (a1_5 : Bool) (a1_6 : List (List D)) (a1_7 : Int) (a1_8 : ByteArray) (a1_9 : Int) (a1_10 : List (List D)) (a1_11 : List (List D)) (a1_12 : Int) (a1_13 : ByteArray) (a1_14 : Int) (a1_15 : List (List D)) (a1_16 : List (List D)) : List A := [.agg [.int .i64 a0_0, .str a0_1, .int .i64 a0_2, .int .i64 a0_3, .int .i64 a0_4, .bool a0_5, .sl a0_6, .int .i64 a0_7, .str a0_8, .int .i64 a0_9, .sl a0_10, .sl a0_11, .int .i64 a0_12, .str a0_13, .int .i64 a0_14, .sl a0_15, .sl a0_16], .agg [.int .i64 a1_0, .str a1_1, .int .i64 a1_2, .int .i64 a1_3, .int .i64 a1_4, .bool a1_5, .sl a1_6, .int .i64 a1_7, .str a1_8, .int .i64 a1_9, .sl a1_10, .sl a1_11, .int .i64 a1_12, .str a1_13, .int .i64 a1_14, .sl a1_15, .sl a1_16]]
noncomputable def impl_cmpObjs.kt {β : Type} (a0_0 : Int) (a0_1 : ByteArray) (a0_2 : Int) (a0_3 : Int) (a0_4 : Int) (a0_5 : Bool) (a0_6 : List (List D)) (a0_7 : Int) (a0_8 : ByteArray) (a0_9 : Int) (a0_10 : List (List D)) (a0_11 : List (List D)) (a0_12 : Int) (a0_13 : ByteArray) (a0_14 : Int) (a0_15 : List (List D)) (a0_16 : List (List D)) (a1_0 : Int) (a1_1 : ByteArray) (a1_2 : Int) (a1_3 : Int) (a1_4 : Int) (a1_5 : Bool) (a1_6 : List (List D)) (a1_7 : Int) (a1_8 : ByteArray) (a1_9 : Int) (a1_10 : List (List D)) (a1_11 : List (List D)) (a1_12 : Int) (a1_13 : ByteArray) (a1_14 : Int) (a1_15 : List (List D)) (a1_16 : List (List D)) (K0 : List (List C) → List Out → Option β) : Int → Option β := fun z0 => K0 [[.d (.int .i64 z0)]] []
noncomputable def impl_cmpObjs.e (k : Nat) : ZQ := { modes := [(.imm, 0), (.imm, 0)], rts := [3], al := false, run := fun {β} l K => match l with | [.agg [.int .i64 a0_0, .str a0_1, .int .i64 a0_2, .int .i64 a0_3, .int .i64 a0_4, .bool a0_5, .sl a0_6, .int .i64 a0_7, .str a0_8, .int .i64 a0_9, .sl a0_10, .sl a0_11, .int .i64 a0_12, .str a0_13, .int .i64 a0_14, .sl a0_15, .sl a0_16], .agg [.int .i64 a1_0, .str a1_1, .int .i64 a1_2, .int .i64 a1_3, .int .i64 a1_4, .bool a1_5, .sl a1_6, .int .i64 a1_7, .str a1_8, .int .i64 a1_9, .sl a1_10, .sl a1_11, .int .i64 a1_12, .str a1_13, .int .i64 a1_14, .sl a1_15, .sl a1_16]] => impl_cmpObjs.f k a0_0 a0_1 a0_2 a0_3 a0_4 a0_5 a0_6 a0_7 a0_8 a0_9 a0_10 a0_11 a0_12 a0_13 a0_14 a0_15 a0_16 a1_0 a1_1 a1_2 a1_3 a1_4 a1_5 a1_6 a1_7 a1_8 a1_9 a1_10 a1_11 a1_12 a1_13 a1_14 a1_15 a1_16 (impl_cmpObjs.kt a0_0 a0_1 a0_2 a0_3 a0_4 a0_5 a0_6 a0_7 a0_8 a0_9 a0_10 a0_11 a0_12 a0_13 a0_14 a0_15 a0_16 a1_0 a1_1 a1_2 a1_3 a1_4 a1_5 a1_6 a1_7 a1_8 a1_9 a1_10 a1_11 a1_12 a1_13 a1_14 a1_15 a1_16 K) | _ => none }
noncomputable def impl_cmpObjs.E (k : Nat) : Env := fun g => bif g == 147 then some (cmp_Compare_int.e k) else bif g == 230 then some (strings_Compare.e k) else none
noncomputable def impl_cmpObjs.h : ZY := ⟨fun n => ⟨[], []⟩, fun _ => none, false, []⟩
theorem impl_cmpObjs.f_eq {β : Type} (k : Nat) (a0_0 : Int) (a0_1 : ByteArray) (a0_2 : Int) (a0_3 : Int) (a0_4 : Int) (a0_5 : Bool) (a0_6 : List (List D)) (a0_7 : Int) (a0_8 : ByteArray) (a0_9 : Int) (a0_10 : List (List D)) (a0_11 : List (List D)) (a0_12 : Int) (a0_13 : ByteArray) (a0_14 : Int) (a0_15 : List (List D)) (a0_16 : List (List D)) (a1_0 : Int) (a1_1 : ByteArray) (a1_2 : Int) (a1_3 : Int) (a1_4 : Int) (a1_5 : Bool) (a1_6 : List (List D)) (a1_7 : Int) (a1_8 : ByteArray) (a1_9 : Int) (a1_10 : List (List D)) (a1_11 : List (List D)) (a1_12 : Int) (a1_13 : ByteArray) (a1_14 : Int) (a1_15 : List (List D)) (a1_16 : List (List D)) (K0 : List (List C) → List Out → Option β) : ZJ Try.prog (impl_cmpObjs.E k) impl_cmpObjs.h k Try.f197 (impl_cmpObjs.as a0_0 a0_1 a0_2 a0_3 a0_4 a0_5 a0_6 a0_7 a0_8 a0_9 a0_10 a0_11 a0_12 a0_13 a0_14 a0_15 a0_16 a1_0 a1_1 a1_2 a1_3 a1_4 a1_5 a1_6 a1_7 a1_8 a1_9 a1_10 a1_11 a1_12 a1_13 a1_14 a1_15 a1_16) K0 = impl_cmpObjs.g k a0_0 a0_1 a0_2 a0_3 a0_4 a0_5 a0_6 a0_7 a0_8 a0_9 a0_10 a0_11 a0_12 a0_13 a0_14 a0_15 a0_16 a1_0 a1_1 a1_2 a1_3 a1_4 a1_5 a1_6 a1_7 a1_8 a1_9 a1_10 a1_11 a1_12 a1_13 a1_14 a1_15 a1_16 (impl_cmpObjs.kt a0_0 a0_1 a0_2 a0_3 a0_4 a0_5 a0_6 a0_7 a0_8 a0_9 a0_10 a0_11 a0_12 a0_13 a0_14 a0_15 a0_16 a1_0 a1_1 a1_2 a1_3 a1_4 a1_5 a1_6 a1_7 a1_8 a1_9 a1_10 a1_11 a1_12 a1_13 a1_14 a1_15 a1_16 K0) := by kernel_rfl
noncomputable def impl_cmpObjs.dec (rs : List (List C)) (os : List Out) : Option (Int) := Zd rs fun c1 r2 => Zd c1 fun x3 l4 => cD x3 fun d5 => ZM .i64 d5 fun w0 => Ze l4 <| Ze r2 <| Ze os (some w0)
theorem impl_cmpObjs.kt_dec (a0_0 : Int) (a0_1 : ByteArray) (a0_2 : Int) (a0_3 : Int) (a0_4 : Int) (a0_5 : Bool) (a0_6 : List (List D)) (a0_7 : Int) (a0_8 : ByteArray) (a0_9 : Int) (a0_10 : List (List D)) (a0_11 : List (List D)) (a0_12 : Int) (a0_13 : ByteArray) (a0_14 : Int) (a0_15 : List (List D)) (a0_16 : List (List D)) (a1_0 : Int) (a1_1 : ByteArray) (a1_2 : Int) (a1_3 : Int) (a1_4 : Int) (a1_5 : Bool) (a1_6 : List (List D)) (a1_7 : Int) (a1_8 : ByteArray) (a1_9 : Int) (a1_10 : List (List D)) (a1_11 : List (List D)) (a1_12 : Int) (a1_13 : ByteArray) (a1_14 : Int) (a1_15 : List (List D)) (a1_16 : List (List D)) : impl_cmpObjs.kt a0_0 a0_1 a0_2 a0_3 a0_4 a0_5 a0_6 a0_7 a0_8 a0_9 a0_10 a0_11 a0_12 a0_13 a0_14 a0_15 a0_16 a1_0 a1_1 a1_2 a1_3 a1_4 a1_5 a1_6 a1_7 a1_8 a1_9 a1_10 a1_11 a1_12 a1_13 a1_14 a1_15 a1_16 impl_cmpObjs.dec = (fun z0 => some z0) := by kernel_rfl
theorem impl_cmpObjs.inj (a0_0 : Int) (a0_1 : ByteArray) (a0_2 : Int) (a0_3 : Int) (a0_4 : Int) (a0_5 : Bool) (a0_6 : List (List D)) (a0_7 : Int) (a0_8 : ByteArray) (a0_9 : Int) (a0_10 : List (List D)) (a0_11 : List (List D)) (a0_12 : Int) (a0_13 : ByteArray) (a0_14 : Int) (a0_15 : List (List D)) (a0_16 : List (List D)) (a1_0 : Int) (a1_1 : ByteArray) (a1_2 : Int) (a1_3 : Int) (a1_4 : Int) (a1_5 : Bool) (a1_6 : List (List D)) (a1_7 : Int) (a1_8 : ByteArray) (a1_9 : Int) (a1_10 : List (List D)) (a1_11 : List (List D)) (a1_12 : Int) (a1_13 : ByteArray) (a1_14 : Int) (a1_15 : List (List D)) (a1_16 : List (List D)) {rs : List (List C)} {os : List Out} {z0 : Int} (h : impl_cmpObjs.dec rs os = some z0) (ho : Zo (impl_cmpObjs.as a0_0 a0_1 a0_2 a0_3 a0_4 a0_5 a0_6 a0_7 a0_8 a0_9 a0_10 a0_11 a0_12 a0_13 a0_14 a0_15 a0_16 a1_0 a1_1 a1_2 a1_3 a1_4 a1_5 a1_6 a1_7 a1_8 a1_9 a1_10 a1_11 a1_12 a1_13 a1_14 a1_15 a1_16) os) : rs = [[.d (.int .i64 z0)]] ∧ os = [] := by
  unfold impl_cmpObjs.dec at h
  obtain ⟨c1, r2, rfl, h1⟩ := Zb h
  obtain ⟨x3, l4, rfl, h2⟩ := Zb h1
  obtain ⟨d5, rfl, h3⟩ := Zt h2
  obtain ⟨w0, rfl, h4⟩ := ZA h3
  obtain ⟨rfl, h5⟩ := Zc h4
  obtain ⟨rfl, h6⟩ := Zc h5
  obtain ⟨rfl, h7⟩ := Zc h6
  obtain rfl := Option.some.inj h7
  exact ⟨rfl, rfl⟩
theorem impl_cmpObjs.ok (k : Nat) : Zv Try.prog 197 (impl_cmpObjs.e k) := by
  refine Zu mix tyok (fn := Try.f197) (c := Zl Try.f197) Try.func197 (by kernel_rfl) (h := impl_cmpObjs.h) (k := k) (E := impl_cmpObjs.E k) (Zk (cmp_Compare_int.ok k) (Zk (strings_Compare.ok k) Zz)) (by kernel_rfl) (by kernel_rfl) rfl (Zq Try.func197 (by kernel_rfl)) ?_
  intro β l K r hr
  simp only [impl_cmpObjs.e] at hr
  split at hr
  case h_2 => cases hr
  unfold impl_cmpObjs.f at hr
  split at hr
  case h_2 => cases hr
  rename_i hz
  exact ⟨_, _, hr, _, impl_cmpObjs.dec, _, (impl_cmpObjs.f_eq k _ _ _ _ _ _ _ _ _ _ _ _ _ _ _ _ _ _ _ _ _ _ _ _ _ _ _ _ _ _ _ _ _ _ impl_cmpObjs.dec).trans (by rw [impl_cmpObjs.kt_dec]; exact hz), fun rs os h ho => impl_cmpObjs.inj _ _ _ _ _ _ _ _ _ _ _ _ _ _ _ _ _ _ _ _ _ _ _ _ _ _ _ _ _ _ _ _ _ _ h ho⟩
noncomputable def impl_objsOk_1.g {β : Type} (k : Nat) (a0_0 : Int) (a0_1 : ByteArray) (a0_2 : Int) (a0_3 : Int) (a0_4 : Int) (a0_5 : Bool) (a0_6 : List (List D)) (a0_7 : Int) (a0_8 : ByteArray) (a0_9 : Int) (a0_10 : List (List D)) (a0_11 : List (List D)) (a0_12 : Int) (a0_13 : ByteArray) (a0_14 : Int) (a0_15 : List (List D)) (a0_16 : List (List D)) (f0_0 : Int) (f0_1 : ByteArray) (f0_2 : Int) (f0_3 : Int) (f0_4 : Int) (f0_5 : Bool) (f0_6 : List (List D)) (f0_7 : Int) (f0_8 : ByteArray) (f0_9 : Int) (f0_10 : List (List D)) (f0_11 : List (List D)) (f0_12 : Int) (f0_13 : ByteArray) (f0_14 : Int) (f0_15 : List (List D)) (f0_16 : List (List D)) (K : Bool → Option β) : Option β :=
  K ((a0_2 : Int) == f0_2)
noncomputable def impl_objsOk_1.t (k : Nat) (a0_0 : Int) (a0_1 : ByteArray) (a0_2 : Int) (a0_3 : Int) (a0_4 : Int) (a0_5 : Bool) (a0_6 : List (List D)) (a0_7 : Int) (a0_8 : ByteArray) (a0_9 : Int) (a0_10 : List (List D)) (a0_11 : List (List D)) (a0_12 : Int) (a0_13 : ByteArray) (a0_14 : Int) (a0_15 : List (List D)) (a0_16 : List (List D)) (f0_0 : Int) (f0_1 : ByteArray) (f0_2 : Int) (f0_3 : Int) (f0_4 : Int) (f0_5 : Bool) (f0_6 : List (List D)) (f0_7 : Int) (f0_8 : ByteArray) (f0_9 : Int) (f0_10 : List (List D)) (f0_11 : List (List D)) (f0_12 : Int) (f0_13 : ByteArray) (f0_14 : Int) (f0_15 : List (List D)) (f0_16 : List (List D)) : Option (Bool) := impl_objsOk_1.g k a0_0 a0_1 a0_2 a0_3 a0_4 a0_5 a0_6 a0_7 a0_8 a0_9 a0_10 a0_11 a0_12 a0_13 a0_14 a0_15 a0_16 f0_0 f0_1 f0_2 f0_3 f0_4 f0_5 f0_6 f0_7 f0_8 f0_9 f0_10 f0_11 f0_12 f0_13 f0_14 f0_15 f0_16 (fun z0 => some z0)
noncomputable def impl_objsOk_1.f {β : Type} (k : Nat) (a0_0 : Int) (a0_1 : ByteArray) (a0_2 : Int) (a0_3 : Int) (a0_4 : Int) (a0_5 : Bool) (a0_6 : List (List D)) (a0_7 : Int) (a0_8 : ByteArray) (a0_9 : Int) (a0_10 : List (List D)) (a0_11 : List (List D)) (a0_12 : Int) (a0_13 : ByteArray) (a0_14 : Int) (a0_15 : List (List D)) (a0_16 : List (List D)) (f0_0 : Int) (f0_1 : ByteArray) (f0_2 : Int) (f0_3 : Int) (f0_4 : Int) (f0_5 : Bool) (f0_6 : List (List D)) (f0_7 : Int) (f0_8 : ByteArray) (f0_9 : Int) (f0_10 : List (List D)) (f0_11 : List (List D)) (f0_12 : Int) (f0_13 : ByteArray) (f0_14 : Int) (f0_15 : List (List D)) (f0_16 : List (List D)) (K : Bool → Option β) : Option β :=
  match impl_objsOk_1.t k a0_0 a0_1 a0_2 a0_3 a0_4 a0_5 a0_6 a0_7 a0_8 a0_9 a0_10 a0_11 a0_12 a0_13 a0_14 a0_15 a0_16 f0_0 f0_1 f0_2 f0_3 f0_4 f0_5 f0_6 f0_7 f0_8 f0_9 f0_10 f0_11 f0_12 f0_13 f0_14 f0_15 f0_16 with
  | some z0 => K z0
  | none => none
noncomputable def impl_objsOk_1.as (a0_0 : Int) (a0_1 : ByteArray) (a0_2 : Int) (a0_3 : Int) (a0_4 : Int) (a0_5 : Bool) (a0_6 : List (List D)) (a0_7 : Int) (a0_8 : ByteArray) (a0_9 : Int) (a0_10 : List (List D)) (a0_11 : List (List D)) (a0_12 : Int) (a0_13 : ByteArray) (a0_14 : Int) (a0_15 : List (List D)) (a0_16 : List (List D)) (f0_0 : Int) (f0_1 : ByteArray) (f0_2 : Int) (f0_3 : Int) (f0_4 : Int) (f0_5 : Bool) (f0_6 : List (List D)) (f0_7 : Int) (f0_8 : ByteArray) (f0_9 : Int) (f0_10 : List (List D)) (f0_11 : List (List D)) (f0_12 : Int) (f0_13 : ByteArray) (f0_14 : Int) (f0_15 : List (List D)) (f0_16 : List (List D)) : List A := [.agg [.int .i64 a0_0, .str a0_1, .int .i64 a0_2, .int .i64 a0_3, .int .i64 a0_4, .bool a0_5, .sl a0_6, .int .i64 a0_7, .str a0_8, .int .i64 a0_9, .sl a0_10, .sl a0_11, .int .i64 a0_12, .str a0_13, .int .i64 a0_14, .sl a0_15, .sl a0_16], .ip [.int .i64 f0_0, .str f0_1, .int .i64 f0_2, .int .i64 f0_3, .int .i64 f0_4, .bool f0_5, .sl f0_6, .int .i64 f0_7, .str f0_8, .int .i64 f0_9, .sl f0_10, .sl f0_11, .int .i64 f0_12, .str f0_13, .int .i64 f0_14, .sl f0_15, .sl f0_16]]
noncomputable def impl_objsOk_1.kt {β : Type} (a0_0 : Int) (a0_1 : ByteArray) (a0_2 : Int) (a0_3 : Int) (a0_4 : Int) (a0_5 : Bool) (a0_6 : List (List D)) (a0_7 : Int) (a0_8 : ByteArray) (a0_9 : Int) (a0_10 : List (List D)) (a0_11 : List (List D)) (a0_12 : Int) (a0_13 : ByteArray) (a0_14 : Int) (a0_15 : List (List D)) (a0_16 : List (List D)) (f0_0 : Int) (f0_1 : ByteArray) (f0_2 : Int) (f0_3 : Int) (f0_4 : Int) (f0_5 : Bool) (f0_6 : List (List D)) (f0_7 : Int) (f0_8 : ByteArray) (f0_9 : Int) (f0_10 : List (List D)) (f0_11 : List (List D)) (f0_12 : Int) (f0_13 : ByteArray) (f0_14 : Int) (f0_15 : List (List D)) (f0_16 : List (List D)) (K0 : List (List C) → List Out → Option β) : Bool → Option β := fun z0 => K0 [[.d (.bool z0)]] []
noncomputable def impl_objsOk_1.e (k : Nat) : ZQ := { modes := [(.imm, 0), (.imm, 0)], rts := [4], al := false, run := fun {β} l K => match l with | [.agg [.int .i64 a0_0, .str a0_1, .int .i64 a0_2, .int .i64 a0_3, .int .i64 a0_4, .bool a0_5, .sl a0_6, .int .i64 a0_7, .str a0_8, .int .i64 a0_9, .sl a0_10, .sl a0_11, .int .i64 a0_12, .str a0_13, .int .i64 a0_14, .sl a0_15, .sl a0_16], .ip [.int .i64 f0_0, .str f0_1, .int .i64 f0_2, .int .i64 f0_3, .int .i64 f0_4, .bool f0_5, .sl f0_6, .int .i64 f0_7, .str f0_8, .int .i64 f0_9, .sl f0_10, .sl f0_11, .int .i64 f0_12, .str f0_13, .int .i64 f0_14, .sl f0_15, .sl f0_16]] => impl_objsOk_1.f k a0_0 a0_1 a0_2 a0_3 a0_4 a0_5 a0_6 a0_7 a0_8 a0_9 a0_10 a0_11 a0_12 a0_13 a0_14 a0_15 a0_16 f0_0 f0_1 f0_2 f0_3 f0_4 f0_5 f0_6 f0_7 f0_8 f0_9 f0_10 f0_11 f0_12 f0_13 f0_14 f0_15 f0_16 (impl_objsOk_1.kt a0_0 a0_1 a0_2 a0_3 a0_4 a0_5 a0_6 a0_7 a0_8 a0_9 a0_10 a0_11 a0_12 a0_13 a0_14 a0_15 a0_16 f0_0 f0_1 f0_2 f0_3 f0_4 f0_5 f0_6 f0_7 f0_8 f0_9 f0_10 f0_11 f0_12 f0_13 f0_14 f0_15 f0_16 K) | _ => none }
noncomputable def impl_objsOk_1.E (k : Nat) : Env := fun g => none
noncomputable def impl_objsOk_1.h : ZY := ⟨fun n => ⟨[], []⟩, fun _ => none, false, []⟩
theorem impl_objsOk_1.f_eq {β : Type} (k : Nat) (a0_0 : Int) (a0_1 : ByteArray) (a0_2 : Int) (a0_3 : Int) (a0_4 : Int) (a0_5 : Bool) (a0_6 : List (List D)) (a0_7 : Int) (a0_8 : ByteArray) (a0_9 : Int) (a0_10 : List (List D)) (a0_11 : List (List D)) (a0_12 : Int) (a0_13 : ByteArray) (a0_14 : Int) (a0_15 : List (List D)) (a0_16 : List (List D)) (f0_0 : Int) (f0_1 : ByteArray) (f0_2 : Int) (f0_3 : Int) (f0_4 : Int) (f0_5 : Bool) (f0_6 : List (List D)) (f0_7 : Int) (f0_8 : ByteArray) (f0_9 : Int) (f0_10 : List (List D)) (f0_11 : List (List D)) (f0_12 : Int) (f0_13 : ByteArray) (f0_14 : Int) (f0_15 : List (List D)) (f0_16 : List (List D)) (K0 : List (List C) → List Out → Option β) : ZJ Try.prog (impl_objsOk_1.E k) impl_objsOk_1.h k Try.f199 (impl_objsOk_1.as a0_0 a0_1 a0_2 a0_3 a0_4 a0_5 a0_6 a0_7 a0_8 a0_9 a0_10 a0_11 a0_12 a0_13 a0_14 a0_15 a0_16 f0_0 f0_1 f0_2 f0_3 f0_4 f0_5 f0_6 f0_7 f0_8 f0_9 f0_10 f0_11 f0_12 f0_13 f0_14 f0_15 f0_16) K0 = impl_objsOk_1.g k a0_0 a0_1 a0_2 a0_3 a0_4 a0_5 a0_6 a0_7 a0_8 a0_9 a0_10 a0_11 a0_12 a0_13 a0_14 a0_15 a0_16 f0_0 f0_1 f0_2 f0_3 f0_4 f0_5 f0_6 f0_7 f0_8 f0_9 f0_10 f0_11 f0_12 f0_13 f0_14 f0_15 f0_16 (impl_objsOk_1.kt a0_0 a0_1 a0_2 a0_3 a0_4 a0_5 a0_6 a0_7 a0_8 a0_9 a0_10 a0_11 a0_12 a0_13 a0_14 a0_15 a0_16 f0_0 f0_1 f0_2 f0_3 f0_4 f0_5 f0_6 f0_7 f0_8 f0_9 f0_10 f0_11 f0_12 f0_13 f0_14 f0_15 f0_16 K0) := by kernel_rfl
noncomputable def impl_objsOk_1.dec (rs : List (List C)) (os : List Out) : Option (Bool) := Zd rs fun c1 r2 => Zd c1 fun x3 l4 => cD x3 fun d5 => ZaF d5 fun w0 => Ze l4 <| Ze r2 <| Ze os (some w0)
theorem impl_objsOk_1.kt_dec (a0_0 : Int) (a0_1 : ByteArray) (a0_2 : Int) (a0_3 : Int) (a0_4 : Int) (a0_5 : Bool) (a0_6 : List (List D)) (a0_7 : Int) (a0_8 : ByteArray) (a0_9 : Int) (a0_10 : List (List D)) (a0_11 : List (List D)) (a0_12 : Int) (a0_13 : ByteArray) (a0_14 : Int) (a0_15 : List (List D)) (a0_16 : List (List D)) (f0_0 : Int) (f0_1 : ByteArray) (f0_2 : Int) (f0_3 : Int) (f0_4 : Int) (f0_5 : Bool) (f0_6 : List (List D)) (f0_7 : Int) (f0_8 : ByteArray) (f0_9 : Int) (f0_10 : List (List D)) (f0_11 : List (List D)) (f0_12 : Int) (f0_13 : ByteArray) (f0_14 : Int) (f0_15 : List (List D)) (f0_16 : List (List D)) : impl_objsOk_1.kt a0_0 a0_1 a0_2 a0_3 a0_4 a0_5 a0_6 a0_7 a0_8 a0_9 a0_10 a0_11 a0_12 a0_13 a0_14 a0_15 a0_16 f0_0 f0_1 f0_2 f0_3 f0_4 f0_5 f0_6 f0_7 f0_8 f0_9 f0_10 f0_11 f0_12 f0_13 f0_14 f0_15 f0_16 impl_objsOk_1.dec = (fun z0 => some z0) := by kernel_rfl
theorem impl_objsOk_1.inj (a0_0 : Int) (a0_1 : ByteArray) (a0_2 : Int) (a0_3 : Int) (a0_4 : Int) (a0_5 : Bool) (a0_6 : List (List D)) (a0_7 : Int) (a0_8 : ByteArray) (a0_9 : Int) (a0_10 : List (List D)) (a0_11 : List (List D)) (a0_12 : Int) (a0_13 : ByteArray) (a0_14 : Int) (a0_15 : List (List D)) (a0_16 : List (List D)) (f0_0 : Int) (f0_1 : ByteArray) (f0_2 : Int) (f0_3 : Int) (f0_4 : Int) (f0_5 : Bool) (f0_6 : List (List D)) (f0_7 : Int) (f0_8 : ByteArray) (f0_9 : Int) (f0_10 : List (List D)) (f0_11 : List (List D)) (f0_12 : Int) (f0_13 : ByteArray) (f0_14 : Int) (f0_15 : List (List D)) (f0_16 : List (List D)) {rs : List (List C)} {os : List Out} {z0 : Bool} (h : impl_objsOk_1.dec rs os = some z0) (ho : Zo (impl_objsOk_1.as a0_0 a0_1 a0_2 a0_3 a0_4 a0_5 a0_6 a0_7 a0_8 a0_9 a0_10 a0_11 a0_12 a0_13 a0_14 a0_15 a0_16 f0_0 f0_1 f0_2 f0_3 f0_4 f0_5 f0_6 f0_7 f0_8 f0_9 f0_10 f0_11 f0_12 f0_13 f0_14 f0_15 f0_16) os) : rs = [[.d (.bool z0)]] ∧ os = [] := by
  unfold impl_objsOk_1.dec at h
  obtain ⟨c1, r2, rfl, h1⟩ := Zb h
  obtain ⟨x3, l4, rfl, h2⟩ := Zb h1
  obtain ⟨d5, rfl, h3⟩ := Zt h2
  obtain ⟨w0, rfl, h4⟩ := Z0 h3
  obtain ⟨rfl, h5⟩ := Zc h4
  obtain ⟨rfl, h6⟩ := Zc h5
  obtain ⟨rfl, h7⟩ := Zc h6
  obtain rfl := Option.some.inj h7
  exact ⟨rfl, rfl⟩
theorem impl_objsOk_1.ok (k : Nat) : Zv Try.prog 199 (impl_objsOk_1.e k) := by
  refine Zu mix tyok (fn := Try.f199) (c := Zl Try.f199) Try.func199 (by kernel_rfl) (h := impl_objsOk_1.h) (k := k) (E := impl_objsOk_1.E k) Zz (by kernel_rfl) (by kernel_rfl) rfl (Zq Try.func199 (by kernel_rfl)) ?_
  intro β l K r hr
  simp only [impl_objsOk_1.e] at hr
  split at hr
  case h_2 => cases hr
  unfold impl_objsOk_1.f at hr
  split at hr
  case h_2 => cases hr
  rename_i hz
  exact ⟨_, _, hr, _, impl_objsOk_1.dec, _, (impl_objsOk_1.f_eq k _ _ _ _ _ _ _ _ _ _ _ _ _ _ _ _ _ _ _ _ _ _ _ _ _ _ _ _ _ _ _ _ _ _ impl_objsOk_1.dec).trans (by rw [impl_objsOk_1.kt_dec]; exact hz), fun rs os h ho => impl_objsOk_1.inj _ _ _ _ _ _ _ _ _ _ _ _ _ _ _ _ _ _ _ _ _ _ _ _ _ _ _ _ _ _ _ _ _ _ h ho⟩
noncomputable def slices_IndexFunc_impl_Obj__impl_objsOk_1.l0 {β : Type} (k : Nat) (v0_0 : List (List D)) (v0_1 : Int) (v0_2 : ByteArray) (v0_3 : Int) (v0_4 : Int) (v0_5 : Int) (v0_6 : Bool) (v0_7 : List (List D)) (v0_8 : Int) (v0_9 : ByteArray) (v0_10 : Int) (v0_11 : List (List D)) (v0_12 : List (List D)) (v0_13 : Int) (v0_14 : ByteArray) (v0_15 : Int) (v0_16 : List (List D)) (v0_17 : List (List D)) (v0_18 : Int) (K : Int → Option β) (L0 : Int → Option β) (v : Int) : Option β :=
  match v with
  | v0_19 => bif (decide ((v0_19 : Int) < v0_18)) then (ZX v0_0 v0_19 fun c54 => Zd c54 fun d55 r56 => ZM .i64 d55 fun x57 => Zd r56 fun d58 r59 => Zan d58 fun x60 => Zd r59 fun d61 r62 => ZM .i64 d61 fun x63 => Zd r62 fun d64 r65 => ZM .i64 d64 fun x66 => Zd r65 fun d67 r68 => ZM .i64 d67 fun x69 => Zd r68 fun d70 r71 => ZaF d70 fun x72 => Zd r71 fun d73 r74 => dSl d73 fun x75 => Zd r74 fun d76 r77 => ZM .i64 d76 fun x78 => Zd r77 fun d79 r80 => Zan d79 fun x81 => Zd r80 fun d82 r83 => ZM .i64 d82 fun x84 => Zd r83 fun d85 r86 => dSl d85 fun x87 => Zd r86 fun d88 r89 => dSl d88 fun x90 => Zd r89 fun d91 r92 => ZM .i64 d91 fun x93 => Zd r92 fun d94 r95 => Zan d94 fun x96 => Zd r95 fun d97 r98 => ZM .i64 d97 fun x99 => Zd r98 fun d100 r101 => dSl d100 fun x102 => Zd r101 fun d103 r104 => dSl d103 fun x105 => Ze r104 (impl_objsOk_1.f k x57 x60 x63 x66 x69 x72 x75 x78 x81 x84 x87 x90 x93 x96 x99 x102 x105 v0_1 v0_2 v0_3 v0_4 v0_5 v0_6 v0_7 v0_8 v0_9 v0_10 v0_11 v0_12 v0_13 v0_14 v0_15 v0_16 v0_17 (fun y106 => bif y106 then (K v0_19) else (L0 (IntKind.wrap .i64 (v0_19 + 1)))))) else (K (-1))
noncomputable def slices_IndexFunc_impl_Obj__impl_objsOk_1.g {β : Type} (k : Nat) (a0 : List (List D)) (a1_0_0 : Int) (a1_0_1 : ByteArray) (a1_0_2 : Int) (a1_0_3 : Int) (a1_0_4 : Int) (a1_0_5 : Bool) (a1_0_6 : List (List D)) (a1_0_7 : Int) (a1_0_8 : ByteArray) (a1_0_9 : Int) (a1_0_10 : List (List D)) (a1_0_11 : List (List D)) (a1_0_12 : Int) (a1_0_13 : ByteArray) (a1_0_14 : Int) (a1_0_15 : List (List D)) (a1_0_16 : List (List D)) (K : Int → Option β) : Option β :=
  Z4 (slices_IndexFunc_impl_Obj__impl_objsOk_1.l0 k a0 a1_0_0 a1_0_1 a1_0_2 a1_0_3 a1_0_4 a1_0_5 a1_0_6 a1_0_7 a1_0_8 a1_0_9 a1_0_10 a1_0_11 a1_0_12 a1_0_13 a1_0_14 a1_0_15 a1_0_16 (a0.length : Int) K) k (0)
noncomputable def slices_IndexFunc_impl_Obj__impl_objsOk_1.t (k : Nat) (a0 : List (List D)) (a1_0_0 : Int) (a1_0_1 : ByteArray) (a1_0_2 : Int) (a1_0_3 : Int) (a1_0_4 : Int) (a1_0_5 : Bool) (a1_0_6 : List (List D)) (a1_0_7 : Int) (a1_0_8 : ByteArray) (a1_0_9 : Int) (a1_0_10 : List (List D)) (a1_0_11 : List (List D)) (a1_0_12 : Int) (a1_0_13 : ByteArray) (a1_0_14 : Int) (a1_0_15 : List (List D)) (a1_0_16 : List (List D)) : Option (Int) := slices_IndexFunc_impl_Obj__impl_objsOk_1.g k a0 a1_0_0 a1_0_1 a1_0_2 a1_0_3 a1_0_4 a1_0_5 a1_0_6 a1_0_7 a1_0_8 a1_0_9 a1_0_10 a1_0_11 a1_0_12 a1_0_13 a1_0_14 a1_0_15 a1_0_16 (fun z0 => some z0)
noncomputable def slices_IndexFunc_impl_Obj__impl_objsOk_1.f {β : Type} (k : Nat) (a0 : List (List D)) (a1_0_0 : Int) (a1_0_1 : ByteArray) (a1_0_2 : Int) (a1_0_3 : Int) (a1_0_4 : Int) (a1_0_5 : Bool) (a1_0_6 : List (List D)) (a1_0_7 : Int) (a1_0_8 : ByteArray) (a1_0_9 : Int) (a1_0_10 : List (List D)) (a1_0_11 : List (List D)) (a1_0_12 : Int) (a1_0_13 : ByteArray) (a1_0_14 : Int) (a1_0_15 : List (List D)) (a1_0_16 : List (List D)) (K : Int → Option β) : Option β :=
  match slices_IndexFunc_impl_Obj__impl_objsOk_1.t k a0 a1_0_0 a1_0_1 a1_0_2 a1_0_3 a1_0_4 a1_0_5 a1_0_6 a1_0_7 a1_0_8 a1_0_9 a1_0_10 a1_0_11 a1_0_12 a1_0_13 a1_0_14 a1_0_15 a1_0_16 with
  | some z0 => K z0
  | none => none
noncomputable def slices_IndexFunc_impl_Obj__impl_objsOk_1.as (a0 : List (List D)) (a1_0_0 : Int) (a1_0_1 : ByteArray) (a1_0_2 : Int) (a1_0_3 : Int) (a1_0_4 : Int) (a1_0_5 : Bool) (a1_0_6 : List (List D)) (a1_0_7 : Int) (a1_0_8 : ByteArray) (a1_0_9 : Int) (a1_0_10 : List (List D)) (a1_0_11 : List (List D)) (a1_0_12 : Int) (a1_0_13 : ByteArray) (a1_0_14 : Int) (a1_0_15 : List (List D)) (a1_0_16 : List (List D)) : List A := [.d (.sl a0), .d (.fn 199 [[.int .i64 a1_0_0, .str a1_0_1, .int .i64 a1_0_2, .int .i64 a1_0_3, .int .i64 a1_0_4, .bool a1_0_5, .sl a1_0_6, .int .i64 a1_0_7, .str a1_0_8, .int .i64 a1_0_9, .sl a1_0_10, .sl a1_0_11, .int .i64 a1_0_12, .str a1_0_13, .int .i64 a1_0_14, .sl a1_0_15, .sl a1_0_16]])]
noncomputable def slices_IndexFunc_impl_Obj__impl_objsOk_1.kt {β : Type} (a0 : List (List D)) (a1_0_0 : Int) (a1_0_1 : ByteArray) (a1_0_2 : Int) (a1_0_3 : Int) (a1_0_4 : Int) (a1_0_5 : Bool) (a1_0_6 : List (List D)) (a1_0_7 : Int) (a1_0_8 : ByteArray) (a1_0_9 : Int) (a1_0_10 : List (List D)) (a1_0_11 : List (List D)) (a1_0_12 : Int) (a1_0_13 : ByteArray) (a1_0_14 : Int) (a1_0_15 : List (List D)) (a1_0_16 : List (List D)) (K0 : List (List C) → List Out → Option β) : Int → Option β := fun z0 => K0 [[.d (.int .i64 z0)]] []
noncomputable def slices_IndexFunc_impl_Obj__impl_objsOk_1.e (k : Nat) : ZQ := { modes := [(.imm, 0), (.imm, 0)], rts := [3], al := false, run := fun {β} l K => match l with | [.d (.sl a0), .d (.fn 199 [[.int .i64 a1_0_0, .str a1_0_1, .int .i64 a1_0_2, .int .i64 a1_0_3, .int .i64 a1_0_4, .bool a1_0_5, .sl a1_0_6, .int .i64 a1_0_7, .str a1_0_8, .int .i64 a1_0_9, .sl a1_0_10, .sl a1_0_11, .int .i64 a1_0_12, .str a1_0_13, .int .i64 a1_0_14, .sl a1_0_15, .sl a1_0_16]])] => slices_IndexFunc_impl_Obj__impl_objsOk_1.f k a0 a1_0_0 a1_0_1 a1_0_2 a1_0_3 a1_0_4 a1_0_5 a1_0_6 a1_0_7 a1_0_8 a1_0_9 a1_0_10 a1_0_11 a1_0_12 a1_0_13 a1_0_14 a1_0_15 a1_0_16 (slices_IndexFunc_impl_Obj__impl_objsOk_1.kt a0 a1_0_0 a1_0_1 a1_0_2 a1_0_3 a1_0_4 a1_0_5 a1_0_6 a1_0_7 a1_0_8 a1_0_9 a1_0_10 a1_0_11 a1_0_12 a1_0_13 a1_0_14 a1_0_15 a1_0_16 K) | _ => none }
noncomputable def slices_IndexFunc_impl_Obj__impl_objsOk_1.E (k : Nat) : Env := fun g => bif g == 199 then some (impl_objsOk_1.e k) else none
noncomputable def slices_IndexFunc_impl_Obj__impl_objsOk_1.h : ZY := ⟨fun n => bif n == 2 then ⟨[(0, .asis), (1, .asis), (7, .asis), (8, .asis)], []⟩ else ⟨[], []⟩, fun _ => none, false, []⟩
noncomputable def slices_IndexFunc_impl_Obj__impl_objsOk_1.s0 (v0_0 : List (List D)) (v0_1 : Int) (v0_2 : ByteArray) (v0_3 : Int) (v0_4 : Int) (v0_5 : Int) (v0_6 : Bool) (v0_7 : List (List D)) (v0_8 : Int) (v0_9 : ByteArray) (v0_10 : Int) (v0_11 : List (List D)) (v0_12 : List (List D)) (v0_13 : Int) (v0_14 : ByteArray) (v0_15 : Int) (v0_16 : List (List D)) (v0_17 : List (List D)) (v0_18 : Int) (v : Int) : St :=
  match v with
  | v0_19 => ⟨[.d false (.sl v0_0), .d false (.fn 199 [[.int .i64 v0_1, .str v0_2, .int .i64 v0_3, .int .i64 v0_4, .int .i64 v0_5, .bool v0_6, .sl v0_7, .int .i64 v0_8, .str v0_9, .int .i64 v0_10, .sl v0_11, .sl v0_12, .int .i64 v0_13, .str v0_14, .int .i64 v0_15, .sl v0_16, .sl v0_17]]), .any, .any, .any, .any, .any, .d true (.int .i64 v0_18), .d true (.int .i64 v0_19), .any, .any, .any, .any, .any, .any, .any, .any, .any, .any], []⟩
noncomputable def slices_IndexFunc_impl_Obj__impl_objsOk_1.b0 {β : Type} (k : Nat) : St → (Ex → St → Option β) → Option β := fun s K => den Try.prog (slices_IndexFunc_impl_Obj__impl_objsOk_1.E k) slices_IndexFunc_impl_Obj__impl_objsOk_1.h.H slices_IndexFunc_impl_Obj__impl_objsOk_1.h.J k (Zad [1, 0, 1, 0, 0] (Zl Try.f231)) s K
noncomputable def slices_IndexFunc_impl_Obj__impl_objsOk_1.c0 {β : Type} (k : Nat) (a0 : List (List D)) (a1_0_0 : Int) (a1_0_1 : ByteArray) (a1_0_2 : Int) (a1_0_3 : Int) (a1_0_4 : Int) (a1_0_5 : Bool) (a1_0_6 : List (List D)) (a1_0_7 : Int) (a1_0_8 : ByteArray) (a1_0_9 : Int) (a1_0_10 : List (List D)) (a1_0_11 : List (List D)) (a1_0_12 : Int) (a1_0_13 : ByteArray) (a1_0_14 : Int) (a1_0_15 : List (List D)) (a1_0_16 : List (List D)) (K0 : List (List C) → List Out → Option β) : Ex → St → Option β := Zae Try.prog (slices_IndexFunc_impl_Obj__impl_objsOk_1.E k) slices_IndexFunc_impl_Obj__impl_objsOk_1.h k [1, 0, 1, 0] (Zl Try.f231) (Zak Try.prog Try.f231 slices_IndexFunc_impl_Obj__impl_objsOk_1.h (slices_IndexFunc_impl_Obj__impl_objsOk_1.as a0 a1_0_0 a1_0_1 a1_0_2 a1_0_3 a1_0_4 a1_0_5 a1_0_6 a1_0_7 a1_0_8 a1_0_9 a1_0_10 a1_0_11 a1_0_12 a1_0_13 a1_0_14 a1_0_15 a1_0_16) K0)
theorem slices_IndexFunc_impl_Obj__impl_objsOk_1.l0_eq {β : Type} (k : Nat) (a0 : List (List D)) (a1_0_0 : Int) (a1_0_1 : ByteArray) (a1_0_2 : Int) (a1_0_3 : Int) (a1_0_4 : Int) (a1_0_5 : Bool) (a1_0_6 : List (List D)) (a1_0_7 : Int) (a1_0_8 : ByteArray) (a1_0_9 : Int) (a1_0_10 : List (List D)) (a1_0_11 : List (List D)) (a1_0_12 : Int) (a1_0_13 : ByteArray) (a1_0_14 : Int) (a1_0_15 : List (List D)) (a1_0_16 : List (List D)) (K0 : List (List C) → List Out → Option β) (v0_0 : List (List D)) (v0_1 : Int) (v0_2 : ByteArray) (v0_3 : Int) (v0_4 : Int) (v0_5 : Int) (v0_6 : Bool) (v0_7 : List (List D)) (v0_8 : Int) (v0_9 : ByteArray) (v0_10 : Int) (v0_11 : List (List D)) (v0_12 : List (List D)) (v0_13 : Int) (v0_14 : ByteArray) (v0_15 : Int) (v0_16 : List (List D)) (v0_17 : List (List D)) (v0_18 : Int) : ∀ (kk : Nat) (v : Int), Zx (slices_IndexFunc_impl_Obj__impl_objsOk_1.b0 k) (slices_IndexFunc_impl_Obj__impl_objsOk_1.h.H 2) kk (slices_IndexFunc_impl_Obj__impl_objsOk_1.s0 v0_0 v0_1 v0_2 v0_3 v0_4 v0_5 v0_6 v0_7 v0_8 v0_9 v0_10 v0_11 v0_12 v0_13 v0_14 v0_15 v0_16 v0_17 v0_18 v) (slices_IndexFunc_impl_Obj__impl_objsOk_1.c0 k a0 a1_0_0 a1_0_1 a1_0_2 a1_0_3 a1_0_4 a1_0_5 a1_0_6 a1_0_7 a1_0_8 a1_0_9 a1_0_10 a1_0_11 a1_0_12 a1_0_13 a1_0_14 a1_0_15 a1_0_16 K0) = Z4 (slices_IndexFunc_impl_Obj__impl_objsOk_1.l0 k v0_0 v0_1 v0_2 v0_3 v0_4 v0_5 v0_6 v0_7 v0_8 v0_9 v0_10 v0_11 v0_12 v0_13 v0_14 v0_15 v0_16 v0_17 v0_18 (slices_IndexFunc_impl_Obj__impl_objsOk_1.kt a0 a1_0_0 a1_0_1 a1_0_2 a1_0_3 a1_0_4 a1_0_5 a1_0_6 a1_0_7 a1_0_8 a1_0_9 a1_0_10 a1_0_11 a1_0_12 a1_0_13 a1_0_14 a1_0_15 a1_0_16 K0)) kk v :=
  Z9 (slices_IndexFunc_impl_Obj__impl_objsOk_1.s0 v0_0 v0_1 v0_2 v0_3 v0_4 v0_5 v0_6 v0_7 v0_8 v0_9 v0_10 v0_11 v0_12 v0_13 v0_14 v0_15 v0_16 v0_17 v0_18) _ (fun L0 v => by kernel_rfl)
noncomputable def slices_IndexFunc_impl_Obj__impl_objsOk_1.m {β : Type} (k : Nat) (a0 : List (List D)) (a1_0_0 : Int) (a1_0_1 : ByteArray) (a1_0_2 : Int) (a1_0_3 : Int) (a1_0_4 : Int) (a1_0_5 : Bool) (a1_0_6 : List (List D)) (a1_0_7 : Int) (a1_0_8 : ByteArray) (a1_0_9 : Int) (a1_0_10 : List (List D)) (a1_0_11 : List (List D)) (a1_0_12 : Int) (a1_0_13 : ByteArray) (a1_0_14 : Int) (a1_0_15 : List (List D)) (a1_0_16 : List (List D)) (K0 : List (List C) → List Out → Option β) (F : ((List (List D)) → Int → ByteArray → Int → Int → Int → Bool → (List (List D)) → Int → ByteArray → Int → (List (List D)) → (List (List D)) → Int → ByteArray → Int → (List (List D)) → (List (List D)) → Int → Int → Option β)) : Option β :=
  (F) a0 a1_0_0 a1_0_1 a1_0_2 a1_0_3 a1_0_4 a1_0_5 a1_0_6 a1_0_7 a1_0_8 a1_0_9 a1_0_10 a1_0_11 a1_0_12 a1_0_13 a1_0_14 a1_0_15 a1_0_16 (a0.length : Int) (0)
theorem slices_IndexFunc_impl_Obj__impl_objsOk_1.f_eq {β : Type} (k : Nat) (a0 : List (List D)) (a1_0_0 : Int) (a1_0_1 : ByteArray) (a1_0_2 : Int) (a1_0_3 : Int) (a1_0_4 : Int) (a1_0_5 : Bool) (a1_0_6 : List (List D)) (a1_0_7 : Int) (a1_0_8 : ByteArray) (a1_0_9 : Int) (a1_0_10 : List (List D)) (a1_0_11 : List (List D)) (a1_0_12 : Int) (a1_0_13 : ByteArray) (a1_0_14 : Int) (a1_0_15 : List (List D)) (a1_0_16 : List (List D)) (K0 : List (List C) → List Out → Option β) : ZJ Try.prog (slices_IndexFunc_impl_Obj__impl_objsOk_1.E k) slices_IndexFunc_impl_Obj__impl_objsOk_1.h k Try.f231 (slices_IndexFunc_impl_Obj__impl_objsOk_1.as a0 a1_0_0 a1_0_1 a1_0_2 a1_0_3 a1_0_4 a1_0_5 a1_0_6 a1_0_7 a1_0_8 a1_0_9 a1_0_10 a1_0_11 a1_0_12 a1_0_13 a1_0_14 a1_0_15 a1_0_16) K0 = slices_IndexFunc_impl_Obj__impl_objsOk_1.g k a0 a1_0_0 a1_0_1 a1_0_2 a1_0_3 a1_0_4 a1_0_5 a1_0_6 a1_0_7 a1_0_8 a1_0_9 a1_0_10 a1_0_11 a1_0_12 a1_0_13 a1_0_14 a1_0_15 a1_0_16 (slices_IndexFunc_impl_Obj__impl_objsOk_1.kt a0 a1_0_0 a1_0_1 a1_0_2 a1_0_3 a1_0_4 a1_0_5 a1_0_6 a1_0_7 a1_0_8 a1_0_9 a1_0_10 a1_0_11 a1_0_12 a1_0_13 a1_0_14 a1_0_15 a1_0_16 K0) := Eq.trans (b := (slices_IndexFunc_impl_Obj__impl_objsOk_1.m k a0 a1_0_0 a1_0_1 a1_0_2 a1_0_3 a1_0_4 a1_0_5 a1_0_6 a1_0_7 a1_0_8 a1_0_9 a1_0_10 a1_0_11 a1_0_12 a1_0_13 a1_0_14 a1_0_15 a1_0_16 K0) (fun (v0_0 : List (List D)) (v0_1 : Int) (v0_2 : ByteArray) (v0_3 : Int) (v0_4 : Int) (v0_5 : Int) (v0_6 : Bool) (v0_7 : List (List D)) (v0_8 : Int) (v0_9 : ByteArray) (v0_10 : Int) (v0_11 : List (List D)) (v0_12 : List (List D)) (v0_13 : Int) (v0_14 : ByteArray) (v0_15 : Int) (v0_16 : List (List D)) (v0_17 : List (List D)) (v0_18 : Int) (v : Int) => Zx (slices_IndexFunc_impl_Obj__impl_objsOk_1.b0 k) (slices_IndexFunc_impl_Obj__impl_objsOk_1.h.H 2) k (slices_IndexFunc_impl_Obj__impl_objsOk_1.s0 v0_0 v0_1 v0_2 v0_3 v0_4 v0_5 v0_6 v0_7 v0_8 v0_9 v0_10 v0_11 v0_12 v0_13 v0_14 v0_15 v0_16 v0_17 v0_18 v) (slices_IndexFunc_impl_Obj__impl_objsOk_1.c0 k a0 a1_0_0 a1_0_1 a1_0_2 a1_0_3 a1_0_4 a1_0_5 a1_0_6 a1_0_7 a1_0_8 a1_0_9 a1_0_10 a1_0_11 a1_0_12 a1_0_13 a1_0_14 a1_0_15 a1_0_16 K0))) (by kernel_rfl) (Eq.trans (congrArg (slices_IndexFunc_impl_Obj__impl_objsOk_1.m k a0 a1_0_0 a1_0_1 a1_0_2 a1_0_3 a1_0_4 a1_0_5 a1_0_6 a1_0_7 a1_0_8 a1_0_9 a1_0_10 a1_0_11 a1_0_12 a1_0_13 a1_0_14 a1_0_15 a1_0_16 K0) (funext fun v0_0 => funext fun v0_1 => funext fun v0_2 => funext fun v0_3 => funext fun v0_4 => funext fun v0_5 => funext fun v0_6 => funext fun v0_7 => funext fun v0_8 => funext fun v0_9 => funext fun v0_10 => funext fun v0_11 => funext fun v0_12 => funext fun v0_13 => funext fun v0_14 => funext fun v0_15 => funext fun v0_16 => funext fun v0_17 => funext fun v0_18 => funext fun v => slices_IndexFunc_impl_Obj__impl_objsOk_1.l0_eq k a0 a1_0_0 a1_0_1 a1_0_2 a1_0_3 a1_0_4 a1_0_5 a1_0_6 a1_0_7 a1_0_8 a1_0_9 a1_0_10 a1_0_11 a1_0_12 a1_0_13 a1_0_14 a1_0_15 a1_0_16 K0 v0_0 v0_1 v0_2 v0_3 v0_4 v0_5 v0_6 v0_7 v0_8 v0_9 v0_10 v0_11 v0_12 v0_13 v0_14 v0_15 v0_16 v0_17 v0_18 k v)) (by kernel_rfl))
noncomputable def slices_IndexFunc_impl_Obj__impl_objsOk_1.dec (rs : List (List C)) (os : List Out) : Option (Int) := Zd rs fun c1 r2 => Zd c1 fun x3 l4 => cD x3 fun d5 => ZM .i64 d5 fun w0 => Ze l4 <| Ze r2 <| Ze os (some w0)
theorem slices_IndexFunc_impl_Obj__impl_objsOk_1.kt_dec (a0 : List (List D)) (a1_0_0 : Int) (a1_0_1 : ByteArray) (a1_0_2 : Int) (a1_0_3 : Int) (a1_0_4 : Int) (a1_0_5 : Bool) (a1_0_6 : List (List D)) (a1_0_7 : Int) (a1_0_8 : ByteArray) (a1_0_9 : Int) (a1_0_10 : List (List D)) (a1_0_11 : List (List D)) (a1_0_12 : Int) (a1_0_13 : ByteArray) (a1_0_14 : Int) (a1_0_15 : List (List D)) (a1_0_16 : List (List D)) : slices_IndexFunc_impl_Obj__impl_objsOk_1.kt a0 a1_0_0 a1_0_1 a1_0_2 a1_0_3 a1_0_4 a1_0_5 a1_0_6 a1_0_7 a1_0_8 a1_0_9 a1_0_10 a1_0_11 a1_0_12 a1_0_13 a1_0_14 a1_0_15 a1_0_16 slices_IndexFunc_impl_Obj__impl_objsOk_1.dec = (fun z0 => some z0) := by kernel_rfl
theorem slices_IndexFunc_impl_Obj__impl_objsOk_1.inj (a0 : List (List D)) (a1_0_0 : Int) (a1_0_1 : ByteArray) (a1_0_2 : Int) (a1_0_3 : Int) (a1_0_4 : Int) (a1_0_5 : Bool) (a1_0_6 : List (List D)) (a1_0_7 : Int) (a1_0_8 : ByteArray) (a1_0_9 : Int) (a1_0_10 : List (List D)) (a1_0_11 : List (List D)) (a1_0_12 : Int) (a1_0_13 : ByteArray) (a1_0_14 : Int) (a1_0_15 : List (List D)) (a1_0_16 : List (List D)) {rs : List (List C)} {os : List Out} {z0 : Int} (h : slices_IndexFunc_impl_Obj__impl_objsOk_1.dec rs os = some z0) (ho : Zo (slices_IndexFunc_impl_Obj__impl_objsOk_1.as a0 a1_0_0 a1_0_1 a1_0_2 a1_0_3 a1_0_4 a1_0_5 a1_0_6 a1_0_7 a1_0_8 a1_0_9 a1_0_10 a1_0_11 a1_0_12 a1_0_13 a1_0_14 a1_0_15 a1_0_16) os) : rs = [[.d (.int .i64 z0)]] ∧ os = [] := by
  unfold slices_IndexFunc_impl_Obj__impl_objsOk_1.dec at h
  obtain ⟨c1, r2, rfl, h1⟩ := Zb h
  obtain ⟨x3, l4, rfl, h2⟩ := Zb h1
  obtain ⟨d5, rfl, h3⟩ := Zt h2
  obtain ⟨w0, rfl, h4⟩ := ZA h3
  obtain ⟨rfl, h5⟩ := Zc h4
  obtain ⟨rfl, h6⟩ := Zc h5
  obtain ⟨rfl, h7⟩ := Zc h6
  obtain rfl := Option.some.inj h7
  exact ⟨rfl, rfl⟩
theorem slices_IndexFunc_impl_Obj__impl_objsOk_1.ok (k : Nat) : Zv Try.prog 231 (slices_IndexFunc_impl_Obj__impl_objsOk_1.e k) := by
  refine Zu mix tyok (fn := Try.f231) (c := Zl Try.f231) Try.func231 (by kernel_rfl) (h := slices_IndexFunc_impl_Obj__impl_objsOk_1.h) (k := k) (E := slices_IndexFunc_impl_Obj__impl_objsOk_1.E k) (Zk (impl_objsOk_1.ok k) Zz) (by kernel_rfl) (by kernel_rfl) rfl (Zq Try.func231 (by kernel_rfl)) ?_
  intro β l K r hr
  simp only [slices_IndexFunc_impl_Obj__impl_objsOk_1.e] at hr
  split at hr
  case h_2 => cases hr
  unfold slices_IndexFunc_impl_Obj__impl_objsOk_1.f at hr
  split at hr
  case h_2 => cases hr
  rename_i hz
  exact ⟨_, _, hr, _, slices_IndexFunc_impl_Obj__impl_objsOk_1.dec, _, (slices_IndexFunc_impl_Obj__impl_objsOk_1.f_eq k _ _ _ _ _ _ _ _ _ _ _ _ _ _ _ _ _ _ slices_IndexFunc_impl_Obj__impl_objsOk_1.dec).trans (by rw [slices_IndexFunc_impl_Obj__impl_objsOk_1.kt_dec]; exact hz), fun rs os h ho => slices_IndexFunc_impl_Obj__impl_objsOk_1.inj _ _ _ _ _ _ _ _ _ _ _ _ _ _ _ _ _ _ h ho⟩
end Go.Proofs.Ytljkbknnnpjmgaa
