/- Printed: the functions that FnExactRunning reaches, read by the evaluator, each with its contract. -/
import Derived.Test.YtljkbknnnpjmgaaTLibs
import Derived.Test.YtljkbknnnpjmgaaProg
import Derived.KernelRfl
set_option linter.unusedVariables false
set_option linter.unusedSimpArgs false
namespace Go.Proofs.Ytljkbknnnpjmgaa
open Go Go.T Go.Proofs
theorem mix : Try.prog.follows .mixedOrders = true := by kernel_rfl
theorem tyok : ZaV Try.prog := tyOk_of (by kernel_rfl)
noncomputable def laws_szStringS.l0 {β : Type} (k : Nat) (v0_0 : List (List D)) (K : Int → Option β) (L0 : (Int × Int) → Option β) (v : Int × Int) : Option β :=
  match v with
  | (v0_1, v0_2) => bif (decide ((v0_2 : Int) < (v0_0.length : Int))) then (ZX v0_0 v0_2 fun c5 => Zd c5 fun d6 r7 => Zan d6 fun x8 => Ze r7 (bif (decide (((IntKind.wrap .i64 (v0_1 - (x8.size : Int))) : Int) < 0)) then (K (-1)) else (L0 (IntKind.wrap .i64 (v0_1 - (x8.size : Int)), IntKind.wrap .i64 (v0_2 + 1))))) else (K v0_1)
noncomputable def laws_szStringS.g {β : Type} (k : Nat) (a0 : List (List D)) (a1 : Int) (K : Int → Option β) : Option β :=
  bif (decide (((IntKind.wrap .i64 (a1 - (a0.length : Int))) : Int) < 0)) then (K (-1)) else (Z4 (laws_szStringS.l0 k a0 K) k (IntKind.wrap .i64 (a1 - (a0.length : Int)), 0))
noncomputable def laws_szStringS.t (k : Nat) (a0 : List (List D)) (a1 : Int) : Option (Int) := laws_szStringS.g k a0 a1 (fun z0 => some z0)
noncomputable def laws_szStringS.f {β : Type} (k : Nat) (a0 : List (List D)) (a1 : Int) (K : Int → Option β) : Option β :=
  match laws_szStringS.t k a0 a1 with
  | some z0 => K z0
  | none => none
noncomputable def laws_szStringS.as (a0 : List (List D)) (a1 : Int) : List A := [.d (.sl a0), .d (.int .i64 a1)]
noncomputable def laws_szStringS.kt {β : Type} (a0 : List (List D)) (a1 : Int) (K0 : List (List C) → List Out → Option β) : Int → Option β := fun z0 => K0 [[.d (.int .i64 z0)]] []
noncomputable def laws_szStringS.e (k : Nat) : ZQ := { modes := [(.imm, 0), (.imm, 0)], rts := [3], al := false, run := fun {β} l K => match l with | [.d (.sl a0), .d (.int .i64 a1)] => laws_szStringS.f k a0 a1 (laws_szStringS.kt a0 a1 K) | _ => none }
noncomputable def laws_szStringS.E (k : Nat) : Env := fun g => none
noncomputable def laws_szStringS.h : ZY := ⟨fun n => bif n == 5 then ⟨[(0, .asis), (1, .asis), (5, .asis)], []⟩ else ⟨[], []⟩, fun _ => none, false, []⟩
noncomputable def laws_szStringS.s0 (v0_0 : List (List D)) (v : Int × Int) : St :=
  match v with
  | (v0_1, v0_2) => ⟨[.d false (.sl v0_0), .d true (.int .i64 v0_1), .any, .any, .any, .d true (.int .i64 v0_2), .any, .any, .any, .any, .any, .any, .any, .any, .any, .any, .any, .any, .any, .any, .any, .any, .any, .any, .any, .any, .any, .any], []⟩
noncomputable def laws_szStringS.b0 {β : Type} (k : Nat) : St → (Ex → St → Option β) → Option β := fun s K => den Try.prog (laws_szStringS.E k) laws_szStringS.h.H laws_szStringS.h.J k (Zad [1, 1, 1, 0, 1, 0, 0] (Zl Try.f74)) s K
noncomputable def laws_szStringS.c0 {β : Type} (k : Nat) (a0 : List (List D)) (a1 : Int) (K0 : List (List C) → List Out → Option β) : Ex → St → Option β := Zae Try.prog (laws_szStringS.E k) laws_szStringS.h k [1, 1, 1, 0, 1, 0] (Zl Try.f74) (Zak Try.prog Try.f74 laws_szStringS.h (laws_szStringS.as a0 a1) K0)
theorem laws_szStringS.l0_eq {β : Type} (k : Nat) (a0 : List (List D)) (a1 : Int) (K0 : List (List C) → List Out → Option β) (v0_0 : List (List D)) : ∀ (kk : Nat) (v : Int × Int), Zx (laws_szStringS.b0 k) (laws_szStringS.h.H 5) kk (laws_szStringS.s0 v0_0 v) (laws_szStringS.c0 k a0 a1 K0) = Z4 (laws_szStringS.l0 k v0_0 (laws_szStringS.kt a0 a1 K0)) kk v :=
  Z9 (laws_szStringS.s0 v0_0) _ (fun L0 v => by obtain ⟨v0_1, v0_2⟩ := v; kernel_rfl)
noncomputable def laws_szStringS.m {β : Type} (k : Nat) (a0 : List (List D)) (a1 : Int) (K0 : List (List C) → List Out → Option β) (F : ((List (List D)) → (Int × Int) → Option β)) : Option β :=
  bif (decide (((IntKind.wrap .i64 (a1 - (a0.length : Int))) : Int) < 0)) then ((laws_szStringS.kt a0 a1 K0) (-1)) else ((F) a0 (IntKind.wrap .i64 (a1 - (a0.length : Int)), 0))
theorem laws_szStringS.f_eq {β : Type} (k : Nat) (a0 : List (List D)) (a1 : Int) (K0 : List (List C) → List Out → Option β) : ZJ Try.prog (laws_szStringS.E k) laws_szStringS.h k Try.f74 (laws_szStringS.as a0 a1) K0 = laws_szStringS.g k a0 a1 (laws_szStringS.kt a0 a1 K0) := Eq.trans (b := (laws_szStringS.m k a0 a1 K0) (fun (v0_0 : List (List D)) (v : Int × Int) => Zx (laws_szStringS.b0 k) (laws_szStringS.h.H 5) k (laws_szStringS.s0 v0_0 v) (laws_szStringS.c0 k a0 a1 K0))) (by kernel_rfl) (Eq.trans (congrArg (laws_szStringS.m k a0 a1 K0) (funext fun v0_0 => funext fun v => laws_szStringS.l0_eq k a0 a1 K0 v0_0 k v)) (by kernel_rfl))
noncomputable def laws_szStringS.dec (rs : List (List C)) (os : List Out) : Option (Int) := Zd rs fun c1 r2 => Zd c1 fun x3 l4 => cD x3 fun d5 => ZM .i64 d5 fun w0 => Ze l4 <| Ze r2 <| Ze os (some w0)
theorem laws_szStringS.kt_dec (a0 : List (List D)) (a1 : Int) : laws_szStringS.kt a0 a1 laws_szStringS.dec = (fun z0 => some z0) := by kernel_rfl
theorem laws_szStringS.inj (a0 : List (List D)) (a1 : Int) {rs : List (List C)} {os : List Out} {z0 : Int} (h : laws_szStringS.dec rs os = some z0) (ho : Zo (laws_szStringS.as a0 a1) os) : rs = [[.d (.int .i64 z0)]] ∧ os = [] := by
  unfold laws_szStringS.dec at h
  obtain ⟨c1, r2, rfl, h1⟩ := Zb h
  obtain ⟨x3, l4, rfl, h2⟩ := Zb h1
  obtain ⟨d5, rfl, h3⟩ := Zt h2
  obtain ⟨w0, rfl, h4⟩ := ZA h3
  obtain ⟨rfl, h5⟩ := Zc h4
  obtain ⟨rfl, h6⟩ := Zc h5
  obtain ⟨rfl, h7⟩ := Zc h6
  obtain rfl := Option.some.inj h7
  exact ⟨rfl, rfl⟩
theorem laws_szStringS.ok (k : Nat) : Zv Try.prog 74 (laws_szStringS.e k) := by
  refine Zu mix tyok (fn := Try.f74) (c := Zl Try.f74) Try.func74 (by kernel_rfl) (h := laws_szStringS.h) (k := k) (E := laws_szStringS.E k) Zz (by kernel_rfl) (by kernel_rfl) rfl (Zq Try.func74 (by kernel_rfl)) ?_
  intro β l K r hr
  simp only [laws_szStringS.e] at hr
  split at hr
  case h_2 => cases hr
  unfold laws_szStringS.f at hr
  split at hr
  case h_2 => cases hr
  rename_i hz
  exact ⟨_, _, hr, _, laws_szStringS.dec, _, (laws_szStringS.f_eq k _ _ laws_szStringS.dec).trans (by rw [laws_szStringS.kt_dec]; exact hz), fun rs os h ho => laws_szStringS.inj _ _ h ho⟩
noncomputable def laws_szTerm.g {β : Type} (k : Nat) (a0_0 : Int) (a0_1 : ByteArray) (a0_2 : List (List D)) (a1 : Int) (K : Int → Option β) : Option β :=
  bif (decide (((IntKind.wrap .i64 (a1 - (a0_1.size : Int))) : Int) < 0)) then (K (-1)) else (laws_szStringS.f k a0_2 (IntKind.wrap .i64 (a1 - (a0_1.size : Int))) (fun y9 => bif (decide ((y9 : Int) < 0)) then (K (-1)) else (K y9)))
noncomputable def laws_szTerm.t (k : Nat) (a0_0 : Int) (a0_1 : ByteArray) (a0_2 : List (List D)) (a1 : Int) : Option (Int) := laws_szTerm.g k a0_0 a0_1 a0_2 a1 (fun z0 => some z0)
noncomputable def laws_szTerm.f {β : Type} (k : Nat) (a0_0 : Int) (a0_1 : ByteArray) (a0_2 : List (List D)) (a1 : Int) (K : Int → Option β) : Option β :=
  match laws_szTerm.t k a0_0 a0_1 a0_2 a1 with
  | some z0 => K z0
  | none => none
noncomputable def laws_szTerm.as (a0_0 : Int) (a0_1 : ByteArray) (a0_2 : List (List D)) (a1 : Int) : List A := [.agg [.int .i64 a0_0, .str a0_1, .sl a0_2], .d (.int .i64 a1)]
noncomputable def laws_szTerm.kt {β : Type} (a0_0 : Int) (a0_1 : ByteArray) (a0_2 : List (List D)) (a1 : Int) (K0 : List (List C) → List Out → Option β) : Int → Option β := fun z0 => K0 [[.d (.int .i64 z0)]] []
noncomputable def laws_szTerm.e (k : Nat) : ZQ := { modes := [(.imm, 0), (.imm, 0)], rts := [3], al := false, run := fun {β} l K => match l with | [.agg [.int .i64 a0_0, .str a0_1, .sl a0_2], .d (.int .i64 a1)] => laws_szTerm.f k a0_0 a0_1 a0_2 a1 (laws_szTerm.kt a0_0 a0_1 a0_2 a1 K) | _ => none }
noncomputable def laws_szTerm.E (k : Nat) : Env := fun g => bif g == 74 then some (laws_szStringS.e k) else none
noncomputable def laws_szTerm.h : ZY := ⟨fun n => ⟨[], []⟩, fun _ => none, false, []⟩
theorem laws_szTerm.f_eq {β : Type} (k : Nat) (a0_0 : Int) (a0_1 : ByteArray) (a0_2 : List (List D)) (a1 : Int) (K0 : List (List C) → List Out → Option β) : ZJ Try.prog (laws_szTerm.E k) laws_szTerm.h k Try.f253 (laws_szTerm.as a0_0 a0_1 a0_2 a1) K0 = laws_szTerm.g k a0_0 a0_1 a0_2 a1 (laws_szTerm.kt a0_0 a0_1 a0_2 a1 K0) := by kernel_rfl
noncomputable def laws_szTerm.dec (rs : List (List C)) (os : List Out) : Option (Int) := Zd rs fun c1 r2 => Zd c1 fun x3 l4 => cD x3 fun d5 => ZM .i64 d5 fun w0 => Ze l4 <| Ze r2 <| Ze os (some w0)
theorem laws_szTerm.kt_dec (a0_0 : Int) (a0_1 : ByteArray) (a0_2 : List (List D)) (a1 : Int) : laws_szTerm.kt a0_0 a0_1 a0_2 a1 laws_szTerm.dec = (fun z0 => some z0) := by kernel_rfl
theorem laws_szTerm.inj (a0_0 : Int) (a0_1 : ByteArray) (a0_2 : List (List D)) (a1 : Int) {rs : List (List C)} {os : List Out} {z0 : Int} (h : laws_szTerm.dec rs os = some z0) (ho : Zo (laws_szTerm.as a0_0 a0_1 a0_2 a1) os) : rs = [[.d (.int .i64 z0)]] ∧ os = [] := by
  unfold laws_szTerm.dec at h
  obtain ⟨c1, r2, rfl, h1⟩ := Zb h
  obtain ⟨x3, l4, rfl, h2⟩ := Zb h1
  obtain ⟨d5, rfl, h3⟩ := Zt h2
  obtain ⟨w0, rfl, h4⟩ := ZA h3
  obtain ⟨rfl, h5⟩ := Zc h4
  obtain ⟨rfl, h6⟩ := Zc h5
  obtain ⟨rfl, h7⟩ := Zc h6
  obtain rfl := Option.some.inj h7
  exact ⟨rfl, rfl⟩
theorem laws_szTerm.ok (k : Nat) : Zv Try.prog 253 (laws_szTerm.e k) := by
  refine Zu mix tyok (fn := Try.f253) (c := Zl Try.f253) Try.func253 (by kernel_rfl) (h := laws_szTerm.h) (k := k) (E := laws_szTerm.E k) (Zk (laws_szStringS.ok k) Zz) (by kernel_rfl) (by kernel_rfl) rfl (Zq Try.func253 (by kernel_rfl)) ?_
  intro β l K r hr
  simp only [laws_szTerm.e] at hr
  split at hr
  case h_2 => cases hr
  unfold laws_szTerm.f at hr
  split at hr
  case h_2 => cases hr
  rename_i hz
  exact ⟨_, _, hr, _, laws_szTerm.dec, _, (laws_szTerm.f_eq k _ _ _ _ laws_szTerm.dec).trans (by rw [laws_szTerm.kt_dec]; exact hz), fun rs os h ho => laws_szTerm.inj _ _ _ _ h ho⟩
noncomputable def laws_szTermS.l0 {β : Type} (k : Nat) (v0_0 : List (List D)) (K : Int → Option β) (L0 : (Int × Int) → Option β) (v : Int × Int) : Option β :=
  match v with
  | (v0_1, v0_2) => bif (decide ((v0_2 : Int) < (v0_0.length : Int))) then (ZX v0_0 v0_2 fun c12 => Zd c12 fun d13 r14 => ZM .i64 d13 fun x15 => Zd r14 fun d16 r17 => Zan d16 fun x18 => Zd r17 fun d19 r20 => dSl d19 fun x21 => Ze r20 (laws_szTerm.f k x15 x18 x21 v0_1 (fun y22 => bif (decide ((y22 : Int) < 0)) then (K (-1)) else (L0 (y22, IntKind.wrap .i64 (v0_2 + 1)))))) else (K v0_1)
noncomputable def laws_szTermS.g {β : Type} (k : Nat) (a0 : List (List D)) (a1 : Int) (K : Int → Option β) : Option β :=
  bif (decide (((IntKind.wrap .i64 (a1 - (a0.length : Int))) : Int) < 0)) then (K (-1)) else (Z4 (laws_szTermS.l0 k a0 K) k (IntKind.wrap .i64 (a1 - (a0.length : Int)), 0))
noncomputable def laws_szTermS.t (k : Nat) (a0 : List (List D)) (a1 : Int) : Option (Int) := laws_szTermS.g k a0 a1 (fun z0 => some z0)
noncomputable def laws_szTermS.f {β : Type} (k : Nat) (a0 : List (List D)) (a1 : Int) (K : Int → Option β) : Option β :=
  match laws_szTermS.t k a0 a1 with
  | some z0 => K z0
  | none => none
noncomputable def laws_szTermS.as (a0 : List (List D)) (a1 : Int) : List A := [.d (.sl a0), .d (.int .i64 a1)]
noncomputable def laws_szTermS.kt {β : Type} (a0 : List (List D)) (a1 : Int) (K0 : List (List C) → List Out → Option β) : Int → Option β := fun z0 => K0 [[.d (.int .i64 z0)]] []
noncomputable def laws_szTermS.e (k : Nat) : ZQ := { modes := [(.imm, 0), (.imm, 0)], rts := [3], al := false, run := fun {β} l K => match l with | [.d (.sl a0), .d (.int .i64 a1)] => laws_szTermS.f k a0 a1 (laws_szTermS.kt a0 a1 K) | _ => none }
noncomputable def laws_szTermS.E (k : Nat) : Env := fun g => bif g == 253 then some (laws_szTerm.e k) else none
noncomputable def laws_szTermS.h : ZY := ⟨fun n => bif n == 5 then ⟨[(0, .asis), (1, .asis), (5, .asis)], []⟩ else ⟨[], []⟩, fun _ => none, false, []⟩
noncomputable def laws_szTermS.s0 (v0_0 : List (List D)) (v : Int × Int) : St :=
  match v with
  | (v0_1, v0_2) => ⟨[.d false (.sl v0_0), .d true (.int .i64 v0_1), .any, .any, .any, .d true (.int .i64 v0_2), .any, .any, .any, .any, .any, .any, .any, .any, .any, .any, .any, .any, .any, .any, .any, .any, .any, .any, .any, .any, .any], []⟩
noncomputable def laws_szTermS.b0 {β : Type} (k : Nat) : St → (Ex → St → Option β) → Option β := fun s K => den Try.prog (laws_szTermS.E k) laws_szTermS.h.H laws_szTermS.h.J k (Zad [1, 1, 1, 0, 1, 0, 0] (Zl Try.f235)) s K
noncomputable def laws_szTermS.c0 {β : Type} (k : Nat) (a0 : List (List D)) (a1 : Int) (K0 : List (List C) → List Out → Option β) : Ex → St → Option β := Zae Try.prog (laws_szTermS.E k) laws_szTermS.h k [1, 1, 1, 0, 1, 0] (Zl Try.f235) (Zak Try.prog Try.f235 laws_szTermS.h (laws_szTermS.as a0 a1) K0)
theorem laws_szTermS.l0_eq {β : Type} (k : Nat) (a0 : List (List D)) (a1 : Int) (K0 : List (List C) → List Out → Option β) (v0_0 : List (List D)) : ∀ (kk : Nat) (v : Int × Int), Zx (laws_szTermS.b0 k) (laws_szTermS.h.H 5) kk (laws_szTermS.s0 v0_0 v) (laws_szTermS.c0 k a0 a1 K0) = Z4 (laws_szTermS.l0 k v0_0 (laws_szTermS.kt a0 a1 K0)) kk v :=
  Z9 (laws_szTermS.s0 v0_0) _ (fun L0 v => by obtain ⟨v0_1, v0_2⟩ := v; kernel_rfl)
noncomputable def laws_szTermS.m {β : Type} (k : Nat) (a0 : List (List D)) (a1 : Int) (K0 : List (List C) → List Out → Option β) (F : ((List (List D)) → (Int × Int) → Option β)) : Option β :=
  bif (decide (((IntKind.wrap .i64 (a1 - (a0.length : Int))) : Int) < 0)) then ((laws_szTermS.kt a0 a1 K0) (-1)) else ((F) a0 (IntKind.wrap .i64 (a1 - (a0.length : Int)), 0))
theorem laws_szTermS.f_eq {β : Type} (k : Nat) (a0 : List (List D)) (a1 : Int) (K0 : List (List C) → List Out → Option β) : ZJ Try.prog (laws_szTermS.E k) laws_szTermS.h k Try.f235 (laws_szTermS.as a0 a1) K0 = laws_szTermS.g k a0 a1 (laws_szTermS.kt a0 a1 K0) := Eq.trans (b := (laws_szTermS.m k a0 a1 K0) (fun (v0_0 : List (List D)) (v : Int × Int) => Zx (laws_szTermS.b0 k) (laws_szTermS.h.H 5) k (laws_szTermS.s0 v0_0 v) (laws_szTermS.c0 k a0 a1 K0))) (by kernel_rfl) (Eq.trans (congrArg (laws_szTermS.m k a0 a1 K0) (funext fun v0_0 => funext fun v => laws_szTermS.l0_eq k a0 a1 K0 v0_0 k v)) (by kernel_rfl))
noncomputable def laws_szTermS.dec (rs : List (List C)) (os : List Out) : Option (Int) := Zd rs fun c1 r2 => Zd c1 fun x3 l4 => cD x3 fun d5 => ZM .i64 d5 fun w0 => Ze l4 <| Ze r2 <| Ze os (some w0)
theorem laws_szTermS.kt_dec (a0 : List (List D)) (a1 : Int) : laws_szTermS.kt a0 a1 laws_szTermS.dec = (fun z0 => some z0) := by kernel_rfl
theorem laws_szTermS.inj (a0 : List (List D)) (a1 : Int) {rs : List (List C)} {os : List Out} {z0 : Int} (h : laws_szTermS.dec rs os = some z0) (ho : Zo (laws_szTermS.as a0 a1) os) : rs = [[.d (.int .i64 z0)]] ∧ os = [] := by
  unfold laws_szTermS.dec at h
  obtain ⟨c1, r2, rfl, h1⟩ := Zb h
  obtain ⟨x3, l4, rfl, h2⟩ := Zb h1
  obtain ⟨d5, rfl, h3⟩ := Zt h2
  obtain ⟨w0, rfl, h4⟩ := ZA h3
  obtain ⟨rfl, h5⟩ := Zc h4
  obtain ⟨rfl, h6⟩ := Zc h5
  obtain ⟨rfl, h7⟩ := Zc h6
  obtain rfl := Option.some.inj h7
  exact ⟨rfl, rfl⟩
theorem laws_szTermS.ok (k : Nat) : Zv Try.prog 235 (laws_szTermS.e k) := by
  refine Zu mix tyok (fn := Try.f235) (c := Zl Try.f235) Try.func235 (by kernel_rfl) (h := laws_szTermS.h) (k := k) (E := laws_szTermS.E k) (Zk (laws_szTerm.ok k) Zz) (by kernel_rfl) (by kernel_rfl) rfl (Zq Try.func235 (by kernel_rfl)) ?_
  intro β l K r hr
  simp only [laws_szTermS.e] at hr
  split at hr
  case h_2 => cases hr
  unfold laws_szTermS.f at hr
  split at hr
  case h_2 => cases hr
  rename_i hz
  exact ⟨_, _, hr, _, laws_szTermS.dec, _, (laws_szTermS.f_eq k _ _ laws_szTermS.dec).trans (by rw [laws_szTermS.kt_dec]; exact hz), fun rs os h ho => laws_szTermS.inj _ _ h ho⟩
noncomputable def laws_szWeigh.g {β : Type} (k : Nat) (a0_0 : ByteArray) (a0_1 : Int) (a1 : Int) (K : Int → Option β) : Option β :=
  bif (decide (((IntKind.wrap .i64 (a1 - (a0_0.size : Int))) : Int) < 0)) then (K (-1)) else (K (IntKind.wrap .i64 (a1 - (a0_0.size : Int))))
noncomputable def laws_szWeigh.t (k : Nat) (a0_0 : ByteArray) (a0_1 : Int) (a1 : Int) : Option (Int) := laws_szWeigh.g k a0_0 a0_1 a1 (fun z0 => some z0)
noncomputable def laws_szWeigh.f {β : Type} (k : Nat) (a0_0 : ByteArray) (a0_1 : Int) (a1 : Int) (K : Int → Option β) : Option β :=
  match laws_szWeigh.t k a0_0 a0_1 a1 with
  | some z0 => K z0
  | none => none
noncomputable def laws_szWeigh.as (a0_0 : ByteArray) (a0_1 : Int) (a1 : Int) : List A := [.agg [.str a0_0, .int .i64 a0_1], .d (.int .i64 a1)]
noncomputable def laws_szWeigh.kt {β : Type} (a0_0 : ByteArray) (a0_1 : Int) (a1 : Int) (K0 : List (List C) → List Out → Option β) : Int → Option β := fun z0 => K0 [[.d (.int .i64 z0)]] []
noncomputable def laws_szWeigh.e (k : Nat) : ZQ := { modes := [(.imm, 0), (.imm, 0)], rts := [3], al := false, run := fun {β} l K => match l with | [.agg [.str a0_0, .int .i64 a0_1], .d (.int .i64 a1)] => laws_szWeigh.f k a0_0 a0_1 a1 (laws_szWeigh.kt a0_0 a0_1 a1 K) | _ => none }
noncomputable def laws_szWeigh.E (k : Nat) : Env := fun g => none
noncomputable def laws_szWeigh.h : ZY := ⟨fun n => ⟨[], []⟩, fun _ => none, false, []⟩
theorem laws_szWeigh.f_eq {β : Type} (k : Nat) (a0_0 : ByteArray) (a0_1 : Int) (a1 : Int) (K0 : List (List C) → List Out → Option β) : ZJ Try.prog (laws_szWeigh.E k) laws_szWeigh.h k Try.f254 (laws_szWeigh.as a0_0 a0_1 a1) K0 = laws_szWeigh.g k a0_0 a0_1 a1 (laws_szWeigh.kt a0_0 a0_1 a1 K0) := by kernel_rfl
noncomputable def laws_szWeigh.dec (rs : List (List C)) (os : List Out) : Option (Int) := Zd rs fun c1 r2 => Zd c1 fun x3 l4 => cD x3 fun d5 => ZM .i64 d5 fun w0 => Ze l4 <| Ze r2 <| Ze os (some w0)
theorem laws_szWeigh.kt_dec (a0_0 : ByteArray) (a0_1 : Int) (a1 : Int) : laws_szWeigh.kt a0_0 a0_1 a1 laws_szWeigh.dec = (fun z0 => some z0) := by kernel_rfl
theorem laws_szWeigh.inj (a0_0 : ByteArray) (a0_1 : Int) (a1 : Int) {rs : List (List C)} {os : List Out} {z0 : Int} (h : laws_szWeigh.dec rs os = some z0) (ho : Zo (laws_szWeigh.as a0_0 a0_1 a1) os) : rs = [[.d (.int .i64 z0)]] ∧ os = [] := by
  unfold laws_szWeigh.dec at h
  obtain ⟨c1, r2, rfl, h1⟩ := Zb h
  obtain ⟨x3, l4, rfl, h2⟩ := Zb h1
  obtain ⟨d5, rfl, h3⟩ := Zt h2
  obtain ⟨w0, rfl, h4⟩ := ZA h3
  obtain ⟨rfl, h5⟩ := Zc h4
  obtain ⟨rfl, h6⟩ := Zc h5
  obtain ⟨rfl, h7⟩ := Zc h6
  obtain rfl := Option.some.inj h7
  exact ⟨rfl, rfl⟩
theorem laws_szWeigh.ok (k : Nat) : Zv Try.prog 254 (laws_szWeigh.e k) := by
  refine Zu mix tyok (fn := Try.f254) (c := Zl Try.f254) Try.func254 (by kernel_rfl) (h := laws_szWeigh.h) (k := k) (E := laws_szWeigh.E k) Zz (by kernel_rfl) (by kernel_rfl) rfl (Zq Try.func254 (by kernel_rfl)) ?_
  intro β l K r hr
  simp only [laws_szWeigh.e] at hr
  split at hr
  case h_2 => cases hr
  unfold laws_szWeigh.f at hr
  split at hr
  case h_2 => cases hr
  rename_i hz
  exact ⟨_, _, hr, _, laws_szWeigh.dec, _, (laws_szWeigh.f_eq k _ _ _ laws_szWeigh.dec).trans (by rw [laws_szWeigh.kt_dec]; exact hz), fun rs os h ho => laws_szWeigh.inj _ _ _ h ho⟩
noncomputable def laws_szWeighS.l0 {β : Type} (k : Nat) (v0_0 : List (List D)) (K : Int → Option β) (L0 : (Int × Int) → Option β) (v : Int × Int) : Option β :=
  match v with
  | (v0_1, v0_2) => bif (decide ((v0_2 : Int) < (v0_0.length : Int))) then (ZX v0_0 v0_2 fun c9 => Zd c9 fun d10 r11 => Zan d10 fun x12 => Zd r11 fun d13 r14 => ZM .i64 d13 fun x15 => Ze r14 (laws_szWeigh.f k x12 x15 v0_1 (fun y16 => bif (decide ((y16 : Int) < 0)) then (K (-1)) else (L0 (y16, IntKind.wrap .i64 (v0_2 + 1)))))) else (K v0_1)
noncomputable def laws_szWeighS.g {β : Type} (k : Nat) (a0 : List (List D)) (a1 : Int) (K : Int → Option β) : Option β :=
  bif (decide (((IntKind.wrap .i64 (a1 - (a0.length : Int))) : Int) < 0)) then (K (-1)) else (Z4 (laws_szWeighS.l0 k a0 K) k (IntKind.wrap .i64 (a1 - (a0.length : Int)), 0))
noncomputable def laws_szWeighS.t (k : Nat) (a0 : List (List D)) (a1 : Int) : Option (Int) := laws_szWeighS.g k a0 a1 (fun z0 => some z0)
noncomputable def laws_szWeighS.f {β : Type} (k : Nat) (a0 : List (List D)) (a1 : Int) (K : Int → Option β) : Option β :=
  match laws_szWeighS.t k a0 a1 with
  | some z0 => K z0
  | none => none
noncomputable def laws_szWeighS.as (a0 : List (List D)) (a1 : Int) : List A := [.d (.sl a0), .d (.int .i64 a1)]
noncomputable def laws_szWeighS.kt {β : Type} (a0 : List (List D)) (a1 : Int) (K0 : List (List C) → List Out → Option β) : Int → Option β := fun z0 => K0 [[.d (.int .i64 z0)]] []
noncomputable def laws_szWeighS.e (k : Nat) : ZQ := { modes := [(.imm, 0), (.imm, 0)], rts := [3], al := false, run := fun {β} l K => match l with | [.d (.sl a0), .d (.int .i64 a1)] => laws_szWeighS.f k a0 a1 (laws_szWeighS.kt a0 a1 K) | _ => none }
noncomputable def laws_szWeighS.E (k : Nat) : Env := fun g => bif g == 254 then some (laws_szWeigh.e k) else none
noncomputable def laws_szWeighS.h : ZY := ⟨fun n => bif n == 5 then ⟨[(0, .asis), (1, .asis), (5, .asis)], []⟩ else ⟨[], []⟩, fun _ => none, false, []⟩
noncomputable def laws_szWeighS.s0 (v0_0 : List (List D)) (v : Int × Int) : St :=
  match v with
  | (v0_1, v0_2) => ⟨[.d false (.sl v0_0), .d true (.int .i64 v0_1), .any, .any, .any, .d true (.int .i64 v0_2), .any, .any, .any, .any, .any, .any, .any, .any, .any, .any, .any, .any, .any, .any, .any, .any, .any, .any, .any, .any, .any], []⟩
noncomputable def laws_szWeighS.b0 {β : Type} (k : Nat) : St → (Ex → St → Option β) → Option β := fun s K => den Try.prog (laws_szWeighS.E k) laws_szWeighS.h.H laws_szWeighS.h.J k (Zad [1, 1, 1, 0, 1, 0, 0] (Zl Try.f236)) s K
noncomputable def laws_szWeighS.c0 {β : Type} (k : Nat) (a0 : List (List D)) (a1 : Int) (K0 : List (List C) → List Out → Option β) : Ex → St → Option β := Zae Try.prog (laws_szWeighS.E k) laws_szWeighS.h k [1, 1, 1, 0, 1, 0] (Zl Try.f236) (Zak Try.prog Try.f236 laws_szWeighS.h (laws_szWeighS.as a0 a1) K0)
theorem laws_szWeighS.l0_eq {β : Type} (k : Nat) (a0 : List (List D)) (a1 : Int) (K0 : List (List C) → List Out → Option β) (v0_0 : List (List D)) : ∀ (kk : Nat) (v : Int × Int), Zx (laws_szWeighS.b0 k) (laws_szWeighS.h.H 5) kk (laws_szWeighS.s0 v0_0 v) (laws_szWeighS.c0 k a0 a1 K0) = Z4 (laws_szWeighS.l0 k v0_0 (laws_szWeighS.kt a0 a1 K0)) kk v :=
  Z9 (laws_szWeighS.s0 v0_0) _ (fun L0 v => by obtain ⟨v0_1, v0_2⟩ := v; kernel_rfl)
noncomputable def laws_szWeighS.m {β : Type} (k : Nat) (a0 : List (List D)) (a1 : Int) (K0 : List (List C) → List Out → Option β) (F : ((List (List D)) → (Int × Int) → Option β)) : Option β :=
  bif (decide (((IntKind.wrap .i64 (a1 - (a0.length : Int))) : Int) < 0)) then ((laws_szWeighS.kt a0 a1 K0) (-1)) else ((F) a0 (IntKind.wrap .i64 (a1 - (a0.length : Int)), 0))
theorem laws_szWeighS.f_eq {β : Type} (k : Nat) (a0 : List (List D)) (a1 : Int) (K0 : List (List C) → List Out → Option β) : ZJ Try.prog (laws_szWeighS.E k) laws_szWeighS.h k Try.f236 (laws_szWeighS.as a0 a1) K0 = laws_szWeighS.g k a0 a1 (laws_szWeighS.kt a0 a1 K0) := Eq.trans (b := (laws_szWeighS.m k a0 a1 K0) (fun (v0_0 : List (List D)) (v : Int × Int) => Zx (laws_szWeighS.b0 k) (laws_szWeighS.h.H 5) k (laws_szWeighS.s0 v0_0 v) (laws_szWeighS.c0 k a0 a1 K0))) (by kernel_rfl) (Eq.trans (congrArg (laws_szWeighS.m k a0 a1 K0) (funext fun v0_0 => funext fun v => laws_szWeighS.l0_eq k a0 a1 K0 v0_0 k v)) (by kernel_rfl))
noncomputable def laws_szWeighS.dec (rs : List (List C)) (os : List Out) : Option (Int) := Zd rs fun c1 r2 => Zd c1 fun x3 l4 => cD x3 fun d5 => ZM .i64 d5 fun w0 => Ze l4 <| Ze r2 <| Ze os (some w0)
theorem laws_szWeighS.kt_dec (a0 : List (List D)) (a1 : Int) : laws_szWeighS.kt a0 a1 laws_szWeighS.dec = (fun z0 => some z0) := by kernel_rfl
theorem laws_szWeighS.inj (a0 : List (List D)) (a1 : Int) {rs : List (List C)} {os : List Out} {z0 : Int} (h : laws_szWeighS.dec rs os = some z0) (ho : Zo (laws_szWeighS.as a0 a1) os) : rs = [[.d (.int .i64 z0)]] ∧ os = [] := by
  unfold laws_szWeighS.dec at h
  obtain ⟨c1, r2, rfl, h1⟩ := Zb h
  obtain ⟨x3, l4, rfl, h2⟩ := Zb h1
  obtain ⟨d5, rfl, h3⟩ := Zt h2
  obtain ⟨w0, rfl, h4⟩ := ZA h3
  obtain ⟨rfl, h5⟩ := Zc h4
  obtain ⟨rfl, h6⟩ := Zc h5
  obtain ⟨rfl, h7⟩ := Zc h6
  obtain rfl := Option.some.inj h7
  exact ⟨rfl, rfl⟩
theorem laws_szWeighS.ok (k : Nat) : Zv Try.prog 236 (laws_szWeighS.e k) := by
  refine Zu mix tyok (fn := Try.f236) (c := Zl Try.f236) Try.func236 (by kernel_rfl) (h := laws_szWeighS.h) (k := k) (E := laws_szWeighS.E k) (Zk (laws_szWeigh.ok k) Zz) (by kernel_rfl) (by kernel_rfl) rfl (Zq Try.func236 (by kernel_rfl)) ?_
  intro β l K r hr
  simp only [laws_szWeighS.e] at hr
  split at hr
  case h_2 => cases hr
  unfold laws_szWeighS.f at hr
  split at hr
  case h_2 => cases hr
  rename_i hz
  exact ⟨_, _, hr, _, laws_szWeighS.dec, _, (laws_szWeighS.f_eq k _ _ laws_szWeighS.dec).trans (by rw [laws_szWeighS.kt_dec]; exact hz), fun rs os h ho => laws_szWeighS.inj _ _ h ho⟩
noncomputable def laws_szWant.g {β : Type} (k : Nat) (a0_0 : Int) (a0_1 : List (List D)) (a0_2 : List (List D)) (a0_3 : List (List D)) (a1 : Int) (K : Int → Option β) : Option β :=
  laws_szTermS.f k a0_1 a1 (fun y23 => bif (decide ((y23 : Int) < 0)) then (K (-1)) else (laws_szStringS.f k a0_2 y23 (fun y24 => bif (decide ((y24 : Int) < 0)) then (K (-1)) else (laws_szWeighS.f k a0_3 y24 (fun y25 => bif (decide ((y25 : Int) < 0)) then (K (-1)) else (K y25))))))
noncomputable def laws_szWant.t (k : Nat) (a0_0 : Int) (a0_1 : List (List D)) (a0_2 : List (List D)) (a0_3 : List (List D)) (a1 : Int) : Option (Int) := laws_szWant.g k a0_0 a0_1 a0_2 a0_3 a1 (fun z0 => some z0)
noncomputable def laws_szWant.f {β : Type} (k : Nat) (a0_0 : Int) (a0_1 : List (List D)) (a0_2 : List (List D)) (a0_3 : List (List D)) (a1 : Int) (K : Int → Option β) : Option β :=
  match laws_szWant.t k a0_0 a0_1 a0_2 a0_3 a1 with
  | some z0 => K z0
  | none => none
noncomputable def laws_szWant.as (a0_0 : Int) (a0_1 : List (List D)) (a0_2 : List (List D)) (a0_3 : List (List D)) (a1 : Int) : List A := [.agg [.int .i64 a0_0, .sl a0_1, .sl a0_2, .sl a0_3], .d (.int .i64 a1)]
noncomputable def laws_szWant.kt {β : Type} (a0_0 : Int) (a0_1 : List (List D)) (a0_2 : List (List D)) (a0_3 : List (List D)) (a1 : Int) (K0 : List (List C) → List Out → Option β) : Int → Option β := fun z0 => K0 [[.d (.int .i64 z0)]] []
noncomputable def laws_szWant.e (k : Nat) : ZQ := { modes := [(.imm, 0), (.imm, 0)], rts := [3], al := false, run := fun {β} l K => match l with | [.agg [.int .i64 a0_0, .sl a0_1, .sl a0_2, .sl a0_3], .d (.int .i64 a1)] => laws_szWant.f k a0_0 a0_1 a0_2 a0_3 a1 (laws_szWant.kt a0_0 a0_1 a0_2 a0_3 a1 K) | _ => none }
noncomputable def laws_szWant.E (k : Nat) : Env := fun g => bif g == 235 then some (laws_szTermS.e k) else bif g == 74 then some (laws_szStringS.e k) else bif g == 236 then some (laws_szWeighS.e k) else none
noncomputable def laws_szWant.h : ZY := ⟨fun n => ⟨[], []⟩, fun _ => none, false, []⟩
theorem laws_szWant.f_eq {β : Type} (k : Nat) (a0_0 : Int) (a0_1 : List (List D)) (a0_2 : List (List D)) (a0_3 : List (List D)) (a1 : Int) (K0 : List (List C) → List Out → Option β) : ZJ Try.prog (laws_szWant.E k) laws_szWant.h k Try.f212 (laws_szWant.as a0_0 a0_1 a0_2 a0_3 a1) K0 = laws_szWant.g k a0_0 a0_1 a0_2 a0_3 a1 (laws_szWant.kt a0_0 a0_1 a0_2 a0_3 a1 K0) := by kernel_rfl
noncomputable def laws_szWant.dec (rs : List (List C)) (os : List Out) : Option (Int) := Zd rs fun c1 r2 => Zd c1 fun x3 l4 => cD x3 fun d5 => ZM .i64 d5 fun w0 => Ze l4 <| Ze r2 <| Ze os (some w0)
theorem laws_szWant.kt_dec (a0_0 : Int) (a0_1 : List (List D)) (a0_2 : List (List D)) (a0_3 : List (List D)) (a1 : Int) : laws_szWant.kt a0_0 a0_1 a0_2 a0_3 a1 laws_szWant.dec = (fun z0 => some z0) := by kernel_rfl
theorem laws_szWant.inj (a0_0 : Int) (a0_1 : List (List D)) (a0_2 : List (List D)) (a0_3 : List (List D)) (a1 : Int) {rs : List (List C)} {os : List Out} {z0 : Int} (h : laws_szWant.dec rs os = some z0) (ho : Zo (laws_szWant.as a0_0 a0_1 a0_2 a0_3 a1) os) : rs = [[.d (.int .i64 z0)]] ∧ os = [] := by
  unfold laws_szWant.dec at h
  obtain ⟨c1, r2, rfl, h1⟩ := Zb h
  obtain ⟨x3, l4, rfl, h2⟩ := Zb h1
  obtain ⟨d5, rfl, h3⟩ := Zt h2
  obtain ⟨w0, rfl, h4⟩ := ZA h3
  obtain ⟨rfl, h5⟩ := Zc h4
  obtain ⟨rfl, h6⟩ := Zc h5
  obtain ⟨rfl, h7⟩ := Zc h6
  obtain rfl := Option.some.inj h7
  exact ⟨rfl, rfl⟩
theorem laws_szWant.ok (k : Nat) : Zv Try.prog 212 (laws_szWant.e k) := by
  refine Zu mix tyok (fn := Try.f212) (c := Zl Try.f212) Try.func212 (by kernel_rfl) (h := laws_szWant.h) (k := k) (E := laws_szWant.E k) (Zk (laws_szTermS.ok k) (Zk (laws_szStringS.ok k) (Zk (laws_szWeighS.ok k) Zz))) (by kernel_rfl) (by kernel_rfl) rfl (Zq Try.func212 (by kernel_rfl)) ?_
  intro β l K r hr
  simp only [laws_szWant.e] at hr
  split at hr
  case h_2 => cases hr
  unfold laws_szWant.f at hr
  split at hr
  case h_2 => cases hr
  rename_i hz
  exact ⟨_, _, hr, _, laws_szWant.dec, _, (laws_szWant.f_eq k _ _ _ _ _ laws_szWant.dec).trans (by rw [laws_szWant.kt_dec]; exact hz), fun rs os h ho => laws_szWant.inj _ _ _ _ _ h ho⟩
noncomputable def laws_szValueS.l0 {β : Type} (k : Nat) (r_laws_szValueS : (List (List D)) → Int → (Int → Option β) → Option β) (r_laws_szValue : Int → ByteArray → Int → (List (List D)) → (List (List D)) → Int → (Int → Option β) → Option β) (v0_0 : List (List D)) (K : Int → Option β) (L0 : (Int × Int) → Option β) (v : Int × Int) : Option β :=
  match v with
  | (v0_1, v0_2) => bif (decide ((v0_2 : Int) < (v0_0.length : Int))) then (ZX v0_0 v0_2 fun c18 => Zd c18 fun d19 r20 => ZM .i64 d19 fun x21 => Zd r20 fun d22 r23 => Zan d22 fun x24 => Zd r23 fun d25 r26 => ZM .i64 d25 fun x27 => Zd r26 fun d28 r29 => dSl d28 fun x30 => Zd r29 fun d31 r32 => dSl d31 fun x33 => Ze r32 (r_laws_szValue x21 x24 x27 x30 x33 v0_1 (fun y34 => bif (decide ((y34 : Int) < 0)) then (K (-1)) else (L0 (y34, IntKind.wrap .i64 (v0_2 + 1)))))) else (K v0_1)
noncomputable def laws_szValueS.body {β : Type} (k : Nat) (r_laws_szValueS : (List (List D)) → Int → (Int → Option β) → Option β) (r_laws_szValue : Int → ByteArray → Int → (List (List D)) → (List (List D)) → Int → (Int → Option β) → Option β) (a0 : List (List D)) (a1 : Int) (K : Int → Option β) : Option β :=
  bif (decide (((IntKind.wrap .i64 (a1 - (a0.length : Int))) : Int) < 0)) then (K (-1)) else (Z4 (laws_szValueS.l0 k r_laws_szValueS r_laws_szValue a0 K) k (IntKind.wrap .i64 (a1 - (a0.length : Int)), 0))
noncomputable def laws_szValue.body {β : Type} (k : Nat) (r_laws_szValueS : (List (List D)) → Int → (Int → Option β) → Option β) (r_laws_szValue : Int → ByteArray → Int → (List (List D)) → (List (List D)) → Int → (Int → Option β) → Option β) (a0_0 : Int) (a0_1 : ByteArray) (a0_2 : Int) (a0_3 : List (List D)) (a0_4 : List (List D)) (a1 : Int) (K : Int → Option β) : Option β :=
  bif (decide (((IntKind.wrap .i64 (a1 - (a0_1.size : Int))) : Int) < 0)) then (K (-1)) else (laws_szStringS.f k a0_3 (IntKind.wrap .i64 (a1 - (a0_1.size : Int))) (fun y1 => bif (decide ((y1 : Int) < 0)) then (K (-1)) else (r_laws_szValueS a0_4 y1 (fun y35 => bif (decide ((y35 : Int) < 0)) then (K (-1)) else (K y35)))))
noncomputable def laws_szValueS.w {β : Type} (r : (List (List D)) → Int → Option (Int)) (a0 : List (List D)) (a1 : Int) (K : Int → Option β) : Option β :=
  match r a0 a1 with
  | some z0 => K z0
  | none => none
noncomputable def laws_szValue.w {β : Type} (r : Int → ByteArray → Int → (List (List D)) → (List (List D)) → Int → Option (Int)) (a0_0 : Int) (a0_1 : ByteArray) (a0_2 : Int) (a0_3 : List (List D)) (a0_4 : List (List D)) (a1 : Int) (K : Int → Option β) : Option β :=
  match r a0_0 a0_1 a0_2 a0_3 a0_4 a1 with
  | some z0 => K z0
  | none => none
noncomputable def laws_szValueS.all : Nat → ((List (List D)) → Int → Option (Int)) × (Int → ByteArray → Int → (List (List D)) → (List (List D)) → Int → Option (Int))
  | 0 => (fun _ _ => none, fun _ _ _ _ _ _ => none)
  | k + 1 => (fun r => (fun a0 a1 => laws_szValueS.body k (laws_szValueS.w r.1) (laws_szValue.w r.2) a0 a1 (fun z0 => some z0), fun a0_0 a0_1 a0_2 a0_3 a0_4 a1 => laws_szValue.body k (laws_szValueS.w r.1) (laws_szValue.w r.2) a0_0 a0_1 a0_2 a0_3 a0_4 a1 (fun z0 => some z0))) (laws_szValueS.all k)
noncomputable def laws_szValueS.t (k : Nat) (a0 : List (List D)) (a1 : Int) : Option (Int) := (laws_szValueS.all k).1 a0 a1
noncomputable def laws_szValue.t (k : Nat) (a0_0 : Int) (a0_1 : ByteArray) (a0_2 : Int) (a0_3 : List (List D)) (a0_4 : List (List D)) (a1 : Int) : Option (Int) := (laws_szValueS.all k).2 a0_0 a0_1 a0_2 a0_3 a0_4 a1
noncomputable def laws_szValueS.f {β : Type} (k : Nat) (a0 : List (List D)) (a1 : Int) (K : Int → Option β) : Option β := laws_szValueS.w (laws_szValueS.t k) a0 a1 K
noncomputable def laws_szValue.f {β : Type} (k : Nat) (a0_0 : Int) (a0_1 : ByteArray) (a0_2 : Int) (a0_3 : List (List D)) (a0_4 : List (List D)) (a1 : Int) (K : Int → Option β) : Option β := laws_szValue.w (laws_szValue.t k) a0_0 a0_1 a0_2 a0_3 a0_4 a1 K
noncomputable def laws_szValueS.g {β : Type} (k : Nat) (a0 : List (List D)) (a1 : Int) (K : Int → Option β) : Option β := laws_szValueS.body k (laws_szValueS.f k) (laws_szValue.f k) a0 a1 K
theorem laws_szValueS.t_zero (a0 : List (List D)) (a1 : Int) : laws_szValueS.t 0 a0 a1 = none := rfl
theorem laws_szValueS.t_succ (k : Nat) (a0 : List (List D)) (a1 : Int) : laws_szValueS.t (k + 1) a0 a1 = laws_szValueS.g k a0 a1 (fun z0 => some z0) := rfl
noncomputable def laws_szValue.g {β : Type} (k : Nat) (a0_0 : Int) (a0_1 : ByteArray) (a0_2 : Int) (a0_3 : List (List D)) (a0_4 : List (List D)) (a1 : Int) (K : Int → Option β) : Option β := laws_szValue.body k (laws_szValueS.f k) (laws_szValue.f k) a0_0 a0_1 a0_2 a0_3 a0_4 a1 K
theorem laws_szValue.t_zero (a0_0 : Int) (a0_1 : ByteArray) (a0_2 : Int) (a0_3 : List (List D)) (a0_4 : List (List D)) (a1 : Int) : laws_szValue.t 0 a0_0 a0_1 a0_2 a0_3 a0_4 a1 = none := rfl
theorem laws_szValue.t_succ (k : Nat) (a0_0 : Int) (a0_1 : ByteArray) (a0_2 : Int) (a0_3 : List (List D)) (a0_4 : List (List D)) (a1 : Int) : laws_szValue.t (k + 1) a0_0 a0_1 a0_2 a0_3 a0_4 a1 = laws_szValue.g k a0_0 a0_1 a0_2 a0_3 a0_4 a1 (fun z0 => some z0) := rfl
noncomputable def laws_szValueS.as (a0 : List (List D)) (a1 : Int) : List A := [.d (.sl a0), .d (.int .i64 a1)]
noncomputable def laws_szValueS.kt {β : Type} (a0 : List (List D)) (a1 : Int) (K0 : List (List C) → List Out → Option β) : Int → Option β := fun z0 => K0 [[.d (.int .i64 z0)]] []
noncomputable def laws_szValueS.e (k : Nat) : ZQ := { modes := [(.imm, 0), (.imm, 0)], rts := [3], al := false, run := fun {β} l K => match l with | [.d (.sl a0), .d (.int .i64 a1)] => laws_szValueS.f k a0 a1 (laws_szValueS.kt a0 a1 K) | _ => none }
noncomputable def laws_szValue.as (a0_0 : Int) (a0_1 : ByteArray) (a0_2 : Int) (a0_3 : List (List D)) (a0_4 : List (List D)) (a1 : Int) : List A := [.agg [.int .i64 a0_0, .str a0_1, .int .i64 a0_2, .sl a0_3, .sl a0_4], .d (.int .i64 a1)]
noncomputable def laws_szValue.kt {β : Type} (a0_0 : Int) (a0_1 : ByteArray) (a0_2 : Int) (a0_3 : List (List D)) (a0_4 : List (List D)) (a1 : Int) (K0 : List (List C) → List Out → Option β) : Int → Option β := fun z0 => K0 [[.d (.int .i64 z0)]] []
noncomputable def laws_szValue.e (k : Nat) : ZQ := { modes := [(.imm, 0), (.imm, 0)], rts := [3], al := false, run := fun {β} l K => match l with | [.agg [.int .i64 a0_0, .str a0_1, .int .i64 a0_2, .sl a0_3, .sl a0_4], .d (.int .i64 a1)] => laws_szValue.f k a0_0 a0_1 a0_2 a0_3 a0_4 a1 (laws_szValue.kt a0_0 a0_1 a0_2 a0_3 a0_4 a1 K) | _ => none }
noncomputable def laws_szValueS.E (k : Nat) : Env := fun g => bif g == 178 then some (laws_szValue.e k) else none
noncomputable def laws_szValueS.h : ZY := ⟨fun n => bif n == 5 then ⟨[(0, .asis), (1, .asis), (5, .asis)], []⟩ else ⟨[], []⟩, fun _ => none, false, []⟩
noncomputable def laws_szValueS.s0 (v0_0 : List (List D)) (v : Int × Int) : St :=
  match v with
  | (v0_1, v0_2) => ⟨[.d false (.sl v0_0), .d true (.int .i64 v0_1), .any, .any, .any, .d true (.int .i64 v0_2), .any, .any, .any, .any, .any, .any, .any, .any, .any, .any, .any, .any, .any, .any, .any, .any, .any, .any, .any, .any, .any], []⟩
noncomputable def laws_szValueS.b0 {β : Type} (k : Nat) : St → (Ex → St → Option β) → Option β := fun s K => den Try.prog (laws_szValueS.E k) laws_szValueS.h.H laws_szValueS.h.J k (Zad [1, 1, 1, 0, 1, 0, 0] (Zl Try.f222)) s K
noncomputable def laws_szValueS.c0 {β : Type} (k : Nat) (a0 : List (List D)) (a1 : Int) (K0 : List (List C) → List Out → Option β) : Ex → St → Option β := Zae Try.prog (laws_szValueS.E k) laws_szValueS.h k [1, 1, 1, 0, 1, 0] (Zl Try.f222) (Zak Try.prog Try.f222 laws_szValueS.h (laws_szValueS.as a0 a1) K0)
theorem laws_szValueS.l0_eq {β : Type} (k : Nat) (a0 : List (List D)) (a1 : Int) (K0 : List (List C) → List Out → Option β) (v0_0 : List (List D)) : ∀ (kk : Nat) (v : Int × Int), Zx (laws_szValueS.b0 k) (laws_szValueS.h.H 5) kk (laws_szValueS.s0 v0_0 v) (laws_szValueS.c0 k a0 a1 K0) = Z4 (laws_szValueS.l0 k (laws_szValueS.f k) (laws_szValue.f k) v0_0 (laws_szValueS.kt a0 a1 K0)) kk v :=
  Z9 (laws_szValueS.s0 v0_0) _ (fun L0 v => by obtain ⟨v0_1, v0_2⟩ := v; kernel_rfl)
noncomputable def laws_szValueS.m {β : Type} (k : Nat) (a0 : List (List D)) (a1 : Int) (K0 : List (List C) → List Out → Option β) (F : ((List (List D)) → (Int × Int) → Option β)) : Option β :=
  bif (decide (((IntKind.wrap .i64 (a1 - (a0.length : Int))) : Int) < 0)) then ((laws_szValueS.kt a0 a1 K0) (-1)) else ((F) a0 (IntKind.wrap .i64 (a1 - (a0.length : Int)), 0))
theorem laws_szValueS.f_eq {β : Type} (k : Nat) (a0 : List (List D)) (a1 : Int) (K0 : List (List C) → List Out → Option β) : ZJ Try.prog (laws_szValueS.E k) laws_szValueS.h k Try.f222 (laws_szValueS.as a0 a1) K0 = laws_szValueS.g k a0 a1 (laws_szValueS.kt a0 a1 K0) := Eq.trans (b := (laws_szValueS.m k a0 a1 K0) (fun (v0_0 : List (List D)) (v : Int × Int) => Zx (laws_szValueS.b0 k) (laws_szValueS.h.H 5) k (laws_szValueS.s0 v0_0 v) (laws_szValueS.c0 k a0 a1 K0))) (by kernel_rfl) (Eq.trans (congrArg (laws_szValueS.m k a0 a1 K0) (funext fun v0_0 => funext fun v => laws_szValueS.l0_eq k a0 a1 K0 v0_0 k v)) (by kernel_rfl))
noncomputable def laws_szValue.E (k : Nat) : Env := fun g => bif g == 74 then some (laws_szStringS.e k) else bif g == 222 then some (laws_szValueS.e k) else none
noncomputable def laws_szValue.h : ZY := ⟨fun n => ⟨[], []⟩, fun _ => none, false, []⟩
theorem laws_szValue.f_eq {β : Type} (k : Nat) (a0_0 : Int) (a0_1 : ByteArray) (a0_2 : Int) (a0_3 : List (List D)) (a0_4 : List (List D)) (a1 : Int) (K0 : List (List C) → List Out → Option β) : ZJ Try.prog (laws_szValue.E k) laws_szValue.h k Try.f178 (laws_szValue.as a0_0 a0_1 a0_2 a0_3 a0_4 a1) K0 = laws_szValue.g k a0_0 a0_1 a0_2 a0_3 a0_4 a1 (laws_szValue.kt a0_0 a0_1 a0_2 a0_3 a0_4 a1 K0) := by kernel_rfl
noncomputable def laws_szValueS.dec (rs : List (List C)) (os : List Out) : Option (Int) := Zd rs fun c1 r2 => Zd c1 fun x3 l4 => cD x3 fun d5 => ZM .i64 d5 fun w0 => Ze l4 <| Ze r2 <| Ze os (some w0)
theorem laws_szValueS.kt_dec (a0 : List (List D)) (a1 : Int) : laws_szValueS.kt a0 a1 laws_szValueS.dec = (fun z0 => some z0) := by kernel_rfl
theorem laws_szValueS.inj (a0 : List (List D)) (a1 : Int) {rs : List (List C)} {os : List Out} {z0 : Int} (h : laws_szValueS.dec rs os = some z0) (ho : Zo (laws_szValueS.as a0 a1) os) : rs = [[.d (.int .i64 z0)]] ∧ os = [] := by
  unfold laws_szValueS.dec at h
  obtain ⟨c1, r2, rfl, h1⟩ := Zb h
  obtain ⟨x3, l4, rfl, h2⟩ := Zb h1
  obtain ⟨d5, rfl, h3⟩ := Zt h2
  obtain ⟨w0, rfl, h4⟩ := ZA h3
  obtain ⟨rfl, h5⟩ := Zc h4
  obtain ⟨rfl, h6⟩ := Zc h5
  obtain ⟨rfl, h7⟩ := Zc h6
  obtain rfl := Option.some.inj h7
  exact ⟨rfl, rfl⟩
noncomputable def laws_szValue.dec (rs : List (List C)) (os : List Out) : Option (Int) := Zd rs fun c1 r2 => Zd c1 fun x3 l4 => cD x3 fun d5 => ZM .i64 d5 fun w0 => Ze l4 <| Ze r2 <| Ze os (some w0)
theorem laws_szValue.kt_dec (a0_0 : Int) (a0_1 : ByteArray) (a0_2 : Int) (a0_3 : List (List D)) (a0_4 : List (List D)) (a1 : Int) : laws_szValue.kt a0_0 a0_1 a0_2 a0_3 a0_4 a1 laws_szValue.dec = (fun z0 => some z0) := by kernel_rfl
theorem laws_szValue.inj (a0_0 : Int) (a0_1 : ByteArray) (a0_2 : Int) (a0_3 : List (List D)) (a0_4 : List (List D)) (a1 : Int) {rs : List (List C)} {os : List Out} {z0 : Int} (h : laws_szValue.dec rs os = some z0) (ho : Zo (laws_szValue.as a0_0 a0_1 a0_2 a0_3 a0_4 a1) os) : rs = [[.d (.int .i64 z0)]] ∧ os = [] := by
  unfold laws_szValue.dec at h
  obtain ⟨c1, r2, rfl, h1⟩ := Zb h
  obtain ⟨x3, l4, rfl, h2⟩ := Zb h1
  obtain ⟨d5, rfl, h3⟩ := Zt h2
  obtain ⟨w0, rfl, h4⟩ := ZA h3
  obtain ⟨rfl, h5⟩ := Zc h4
  obtain ⟨rfl, h6⟩ := Zc h5
  obtain ⟨rfl, h7⟩ := Zc h6
  obtain rfl := Option.some.inj h7
  exact ⟨rfl, rfl⟩
theorem laws_szValueS.oks (k : Nat) : Zv Try.prog 222 (laws_szValueS.e k) ∧ Zv Try.prog 178 (laws_szValue.e k) := by
  induction k with
  | zero =>
    refine ⟨?_, ?_⟩
    · exact Zb1 (Zq Try.func222 (by kernel_rfl)) fun β l K r h => by
        simp only [laws_szValueS.e] at h
        split at h
        · unfold laws_szValueS.f at h
          unfold laws_szValueS.w at h
          rw [laws_szValueS.t_zero] at h
          cases h
        · cases h
    · exact Zb1 (Zq Try.func178 (by kernel_rfl)) fun β l K r h => by
        simp only [laws_szValue.e] at h
        split at h
        · unfold laws_szValue.f at h
          unfold laws_szValue.w at h
          rw [laws_szValue.t_zero] at h
          cases h
        · cases h
  | succ k ih =>
    refine ⟨?_, ?_⟩
    · refine Zu mix tyok (fn := Try.f222) (c := Zl Try.f222) Try.func222 (by kernel_rfl) (h := laws_szValueS.h) (k := k) (E := laws_szValueS.E k) (Zk ih.2 Zz) (by kernel_rfl) (by kernel_rfl) rfl (Zq Try.func222 (by kernel_rfl)) ?_
      intro β l K r hr
      simp only [laws_szValueS.e] at hr
      split at hr
      case h_2 => cases hr
      unfold laws_szValueS.f at hr
      unfold laws_szValueS.w at hr
      split at hr
      case h_2 => cases hr
      rename_i hz
      exact ⟨_, _, hr, _, laws_szValueS.dec, _, (laws_szValueS.f_eq k _ _ laws_szValueS.dec).trans (by rw [laws_szValueS.kt_dec]; exact hz), fun rs os h ho => laws_szValueS.inj _ _ h ho⟩
    · refine Zu mix tyok (fn := Try.f178) (c := Zl Try.f178) Try.func178 (by kernel_rfl) (h := laws_szValue.h) (k := k) (E := laws_szValue.E k) (Zk (laws_szStringS.ok k) (Zk ih.1 Zz)) (by kernel_rfl) (by kernel_rfl) rfl (Zq Try.func178 (by kernel_rfl)) ?_
      intro β l K r hr
      simp only [laws_szValue.e] at hr
      split at hr
      case h_2 => cases hr
      unfold laws_szValue.f at hr
      unfold laws_szValue.w at hr
      split at hr
      case h_2 => cases hr
      rename_i hz
      exact ⟨_, _, hr, _, laws_szValue.dec, _, (laws_szValue.f_eq k _ _ _ _ _ _ laws_szValue.dec).trans (by rw [laws_szValue.kt_dec]; exact hz), fun rs os h ho => laws_szValue.inj _ _ _ _ _ _ h ho⟩
theorem laws_szValueS.ok (k : Nat) : Zv Try.prog 222 (laws_szValueS.e k) := (laws_szValueS.oks k).1
theorem laws_szValue.ok (k : Nat) : Zv Try.prog 178 (laws_szValue.e k) := (laws_szValueS.oks k).2
noncomputable def laws_szOp.g {β : Type} (k : Nat) (a0_0 : Int) (a0_1 : List (List D)) (a0_2 : Int) (a0_3 : ByteArray) (a0_4 : Int) (a0_5 : List (List D)) (a0_6 : List (List D)) (a1 : Int) (K : Int → Option β) : Option β :=
  laws_szStringS.f k a0_1 a1 (fun y1 => bif (decide ((y1 : Int) < 0)) then (K (-1)) else (laws_szValue.f k a0_2 a0_3 a0_4 a0_5 a0_6 y1 (fun y2 => bif (decide ((y2 : Int) < 0)) then (K (-1)) else (K y2))))
noncomputable def laws_szOp.t (k : Nat) (a0_0 : Int) (a0_1 : List (List D)) (a0_2 : Int) (a0_3 : ByteArray) (a0_4 : Int) (a0_5 : List (List D)) (a0_6 : List (List D)) (a1 : Int) : Option (Int) := laws_szOp.g k a0_0 a0_1 a0_2 a0_3 a0_4 a0_5 a0_6 a1 (fun z0 => some z0)
noncomputable def laws_szOp.f {β : Type} (k : Nat) (a0_0 : Int) (a0_1 : List (List D)) (a0_2 : Int) (a0_3 : ByteArray) (a0_4 : Int) (a0_5 : List (List D)) (a0_6 : List (List D)) (a1 : Int) (K : Int → Option β) : Option β :=
  match laws_szOp.t k a0_0 a0_1 a0_2 a0_3 a0_4 a0_5 a0_6 a1 with
  | some z0 => K z0
  | none => none
noncomputable def laws_szOp.as (a0_0 : Int) (a0_1 : List (List D)) (a0_2 : Int) (a0_3 : ByteArray) (a0_4 : Int) (a0_5 : List (List D)) (a0_6 : List (List D)) (a1 : Int) : List A := [.agg [.int .i64 a0_0, .sl a0_1, .int .i64 a0_2, .str a0_3, .int .i64 a0_4, .sl a0_5, .sl a0_6], .d (.int .i64 a1)]
noncomputable def laws_szOp.kt {β : Type} (a0_0 : Int) (a0_1 : List (List D)) (a0_2 : Int) (a0_3 : ByteArray) (a0_4 : Int) (a0_5 : List (List D)) (a0_6 : List (List D)) (a1 : Int) (K0 : List (List C) → List Out → Option β) : Int → Option β := fun z0 => K0 [[.d (.int .i64 z0)]] []
noncomputable def laws_szOp.e (k : Nat) : ZQ := { modes := [(.imm, 0), (.imm, 0)], rts := [3], al := false, run := fun {β} l K => match l with | [.agg [.int .i64 a0_0, .sl a0_1, .int .i64 a0_2, .str a0_3, .int .i64 a0_4, .sl a0_5, .sl a0_6], .d (.int .i64 a1)] => laws_szOp.f k a0_0 a0_1 a0_2 a0_3 a0_4 a0_5 a0_6 a1 (laws_szOp.kt a0_0 a0_1 a0_2 a0_3 a0_4 a0_5 a0_6 a1 K) | _ => none }
noncomputable def laws_szOp.E (k : Nat) : Env := fun g => bif g == 74 then some (laws_szStringS.e k) else bif g == 178 then some (laws_szValue.e k) else none
noncomputable def laws_szOp.h : ZY := ⟨fun n => ⟨[], []⟩, fun _ => none, false, []⟩
theorem laws_szOp.f_eq {β : Type} (k : Nat) (a0_0 : Int) (a0_1 : List (List D)) (a0_2 : Int) (a0_3 : ByteArray) (a0_4 : Int) (a0_5 : List (List D)) (a0_6 : List (List D)) (a1 : Int) (K0 : List (List C) → List Out → Option β) : ZJ Try.prog (laws_szOp.E k) laws_szOp.h k Try.f267 (laws_szOp.as a0_0 a0_1 a0_2 a0_3 a0_4 a0_5 a0_6 a1) K0 = laws_szOp.g k a0_0 a0_1 a0_2 a0_3 a0_4 a0_5 a0_6 a1 (laws_szOp.kt a0_0 a0_1 a0_2 a0_3 a0_4 a0_5 a0_6 a1 K0) := by kernel_rfl
noncomputable def laws_szOp.dec (rs : List (List C)) (os : List Out) : Option (Int) := Zd rs fun c1 r2 => Zd c1 fun x3 l4 => cD x3 fun d5 => ZM .i64 d5 fun w0 => Ze l4 <| Ze r2 <| Ze os (some w0)
theorem laws_szOp.kt_dec (a0_0 : Int) (a0_1 : List (List D)) (a0_2 : Int) (a0_3 : ByteArray) (a0_4 : Int) (a0_5 : List (List D)) (a0_6 : List (List D)) (a1 : Int) : laws_szOp.kt a0_0 a0_1 a0_2 a0_3 a0_4 a0_5 a0_6 a1 laws_szOp.dec = (fun z0 => some z0) := by kernel_rfl
theorem laws_szOp.inj (a0_0 : Int) (a0_1 : List (List D)) (a0_2 : Int) (a0_3 : ByteArray) (a0_4 : Int) (a0_5 : List (List D)) (a0_6 : List (List D)) (a1 : Int) {rs : List (List C)} {os : List Out} {z0 : Int} (h : laws_szOp.dec rs os = some z0) (ho : Zo (laws_szOp.as a0_0 a0_1 a0_2 a0_3 a0_4 a0_5 a0_6 a1) os) : rs = [[.d (.int .i64 z0)]] ∧ os = [] := by
  unfold laws_szOp.dec at h
  obtain ⟨c1, r2, rfl, h1⟩ := Zb h
  obtain ⟨x3, l4, rfl, h2⟩ := Zb h1
  obtain ⟨d5, rfl, h3⟩ := Zt h2
  obtain ⟨w0, rfl, h4⟩ := ZA h3
  obtain ⟨rfl, h5⟩ := Zc h4
  obtain ⟨rfl, h6⟩ := Zc h5
  obtain ⟨rfl, h7⟩ := Zc h6
  obtain rfl := Option.some.inj h7
  exact ⟨rfl, rfl⟩
theorem laws_szOp.ok (k : Nat) : Zv Try.prog 267 (laws_szOp.e k) := by
  refine Zu mix tyok (fn := Try.f267) (c := Zl Try.f267) Try.func267 (by kernel_rfl) (h := laws_szOp.h) (k := k) (E := laws_szOp.E k) (Zk (laws_szStringS.ok k) (Zk (laws_szValue.ok k) Zz)) (by kernel_rfl) (by kernel_rfl) rfl (Zq Try.func267 (by kernel_rfl)) ?_
  intro β l K r hr
  simp only [laws_szOp.e] at hr
  split at hr
  case h_2 => cases hr
  unfold laws_szOp.f at hr
  split at hr
  case h_2 => cases hr
  rename_i hz
  exact ⟨_, _, hr, _, laws_szOp.dec, _, (laws_szOp.f_eq k _ _ _ _ _ _ _ _ laws_szOp.dec).trans (by rw [laws_szOp.kt_dec]; exact hz), fun rs os h ho => laws_szOp.inj _ _ _ _ _ _ _ _ h ho⟩
noncomputable def laws_szOpS.l0 {β : Type} (k : Nat) (v0_0 : List (List D)) (K : Int → Option β) (L0 : (Int × Int) → Option β) (v : Int × Int) : Option β :=
  match v with
  | (v0_1, v0_2) => bif (decide ((v0_2 : Int) < (v0_0.length : Int))) then (ZX v0_0 v0_2 fun c24 => Zd c24 fun d25 r26 => ZM .i64 d25 fun x27 => Zd r26 fun d28 r29 => dSl d28 fun x30 => Zd r29 fun d31 r32 => ZM .i64 d31 fun x33 => Zd r32 fun d34 r35 => Zan d34 fun x36 => Zd r35 fun d37 r38 => ZM .i64 d37 fun x39 => Zd r38 fun d40 r41 => dSl d40 fun x42 => Zd r41 fun d43 r44 => dSl d43 fun x45 => Ze r44 (laws_szOp.f k x27 x30 x33 x36 x39 x42 x45 v0_1 (fun y46 => bif (decide ((y46 : Int) < 0)) then (K (-1)) else (L0 (y46, IntKind.wrap .i64 (v0_2 + 1)))))) else (K v0_1)
noncomputable def laws_szOpS.g {β : Type} (k : Nat) (a0 : List (List D)) (a1 : Int) (K : Int → Option β) : Option β :=
  bif (decide (((IntKind.wrap .i64 (a1 - (a0.length : Int))) : Int) < 0)) then (K (-1)) else (Z4 (laws_szOpS.l0 k a0 K) k (IntKind.wrap .i64 (a1 - (a0.length : Int)), 0))
noncomputable def laws_szOpS.t (k : Nat) (a0 : List (List D)) (a1 : Int) : Option (Int) := laws_szOpS.g k a0 a1 (fun z0 => some z0)
noncomputable def laws_szOpS.f {β : Type} (k : Nat) (a0 : List (List D)) (a1 : Int) (K : Int → Option β) : Option β :=
  match laws_szOpS.t k a0 a1 with
  | some z0 => K z0
  | none => none
noncomputable def laws_szOpS.as (a0 : List (List D)) (a1 : Int) : List A := [.d (.sl a0), .d (.int .i64 a1)]
noncomputable def laws_szOpS.kt {β : Type} (a0 : List (List D)) (a1 : Int) (K0 : List (List C) → List Out → Option β) : Int → Option β := fun z0 => K0 [[.d (.int .i64 z0)]] []
noncomputable def laws_szOpS.e (k : Nat) : ZQ := { modes := [(.imm, 0), (.imm, 0)], rts := [3], al := false, run := fun {β} l K => match l with | [.d (.sl a0), .d (.int .i64 a1)] => laws_szOpS.f k a0 a1 (laws_szOpS.kt a0 a1 K) | _ => none }
noncomputable def laws_szOpS.E (k : Nat) : Env := fun g => bif g == 267 then some (laws_szOp.e k) else none
noncomputable def laws_szOpS.h : ZY := ⟨fun n => bif n == 5 then ⟨[(0, .asis), (1, .asis), (5, .asis)], []⟩ else ⟨[], []⟩, fun _ => none, false, []⟩
noncomputable def laws_szOpS.s0 (v0_0 : List (List D)) (v : Int × Int) : St :=
  match v with
  | (v0_1, v0_2) => ⟨[.d false (.sl v0_0), .d true (.int .i64 v0_1), .any, .any, .any, .d true (.int .i64 v0_2), .any, .any, .any, .any, .any, .any, .any, .any, .any, .any, .any, .any, .any, .any, .any, .any, .any, .any, .any, .any, .any], []⟩
noncomputable def laws_szOpS.b0 {β : Type} (k : Nat) : St → (Ex → St → Option β) → Option β := fun s K => den Try.prog (laws_szOpS.E k) laws_szOpS.h.H laws_szOpS.h.J k (Zad [1, 1, 1, 0, 1, 0, 0] (Zl Try.f255)) s K
noncomputable def laws_szOpS.c0 {β : Type} (k : Nat) (a0 : List (List D)) (a1 : Int) (K0 : List (List C) → List Out → Option β) : Ex → St → Option β := Zae Try.prog (laws_szOpS.E k) laws_szOpS.h k [1, 1, 1, 0, 1, 0] (Zl Try.f255) (Zak Try.prog Try.f255 laws_szOpS.h (laws_szOpS.as a0 a1) K0)
theorem laws_szOpS.l0_eq {β : Type} (k : Nat) (a0 : List (List D)) (a1 : Int) (K0 : List (List C) → List Out → Option β) (v0_0 : List (List D)) : ∀ (kk : Nat) (v : Int × Int), Zx (laws_szOpS.b0 k) (laws_szOpS.h.H 5) kk (laws_szOpS.s0 v0_0 v) (laws_szOpS.c0 k a0 a1 K0) = Z4 (laws_szOpS.l0 k v0_0 (laws_szOpS.kt a0 a1 K0)) kk v :=
  Z9 (laws_szOpS.s0 v0_0) _ (fun L0 v => by obtain ⟨v0_1, v0_2⟩ := v; kernel_rfl)
noncomputable def laws_szOpS.m {β : Type} (k : Nat) (a0 : List (List D)) (a1 : Int) (K0 : List (List C) → List Out → Option β) (F : ((List (List D)) → (Int × Int) → Option β)) : Option β :=
  bif (decide (((IntKind.wrap .i64 (a1 - (a0.length : Int))) : Int) < 0)) then ((laws_szOpS.kt a0 a1 K0) (-1)) else ((F) a0 (IntKind.wrap .i64 (a1 - (a0.length : Int)), 0))
theorem laws_szOpS.f_eq {β : Type} (k : Nat) (a0 : List (List D)) (a1 : Int) (K0 : List (List C) → List Out → Option β) : ZJ Try.prog (laws_szOpS.E k) laws_szOpS.h k Try.f255 (laws_szOpS.as a0 a1) K0 = laws_szOpS.g k a0 a1 (laws_szOpS.kt a0 a1 K0) := Eq.trans (b := (laws_szOpS.m k a0 a1 K0) (fun (v0_0 : List (List D)) (v : Int × Int) => Zx (laws_szOpS.b0 k) (laws_szOpS.h.H 5) k (laws_szOpS.s0 v0_0 v) (laws_szOpS.c0 k a0 a1 K0))) (by kernel_rfl) (Eq.trans (congrArg (laws_szOpS.m k a0 a1 K0) (funext fun v0_0 => funext fun v => laws_szOpS.l0_eq k a0 a1 K0 v0_0 k v)) (by kernel_rfl))
noncomputable def laws_szOpS.dec (rs : List (List C)) (os : List Out) : Option (Int) := Zd rs fun c1 r2 => Zd c1 fun x3 l4 => cD x3 fun d5 => ZM .i64 d5 fun w0 => Ze l4 <| Ze r2 <| Ze os (some w0)
theorem laws_szOpS.kt_dec (a0 : List (List D)) (a1 : Int) : laws_szOpS.kt a0 a1 laws_szOpS.dec = (fun z0 => some z0) := by kernel_rfl
theorem laws_szOpS.inj (a0 : List (List D)) (a1 : Int) {rs : List (List C)} {os : List Out} {z0 : Int} (h : laws_szOpS.dec rs os = some z0) (ho : Zo (laws_szOpS.as a0 a1) os) : rs = [[.d (.int .i64 z0)]] ∧ os = [] := by
  unfold laws_szOpS.dec at h
  obtain ⟨c1, r2, rfl, h1⟩ := Zb h
  obtain ⟨x3, l4, rfl, h2⟩ := Zb h1
  obtain ⟨d5, rfl, h3⟩ := Zt h2
  obtain ⟨w0, rfl, h4⟩ := ZA h3
  obtain ⟨rfl, h5⟩ := Zc h4
  obtain ⟨rfl, h6⟩ := Zc h5
  obtain ⟨rfl, h7⟩ := Zc h6
  obtain rfl := Option.some.inj h7
  exact ⟨rfl, rfl⟩
theorem laws_szOpS.ok (k : Nat) : Zv Try.prog 255 (laws_szOpS.e k) := by
  refine Zu mix tyok (fn := Try.f255) (c := Zl Try.f255) Try.func255 (by kernel_rfl) (h := laws_szOpS.h) (k := k) (E := laws_szOpS.E k) (Zk (laws_szOp.ok k) Zz) (by kernel_rfl) (by kernel_rfl) rfl (Zq Try.func255 (by kernel_rfl)) ?_
  intro β l K r hr
  simp only [laws_szOpS.e] at hr
  split at hr
  case h_2 => cases hr
  unfold laws_szOpS.f at hr
  split at hr
  case h_2 => cases hr
  rename_i hz
  exact ⟨_, _, hr, _, laws_szOpS.dec, _, (laws_szOpS.f_eq k _ _ laws_szOpS.dec).trans (by rw [laws_szOpS.kt_dec]; exact hz), fun rs os h ho => laws_szOpS.inj _ _ h ho⟩
noncomputable def laws_szOver.g {β : Type} (k : Nat) (a0_0 : ByteArray) (a0_1 : List (List D)) (a1 : Int) (K : Int → Option β) : Option β :=
  bif (decide (((IntKind.wrap .i64 (a1 - (a0_0.size : Int))) : Int) < 0)) then (K (-1)) else (laws_szOpS.f k a0_1 (IntKind.wrap .i64 (a1 - (a0_0.size : Int))) (fun y47 => bif (decide ((y47 : Int) < 0)) then (K (-1)) else (K y47)))
noncomputable def laws_szOver.t (k : Nat) (a0_0 : ByteArray) (a0_1 : List (List D)) (a1 : Int) : Option (Int) := laws_szOver.g k a0_0 a0_1 a1 (fun z0 => some z0)
noncomputable def laws_szOver.f {β : Type} (k : Nat) (a0_0 : ByteArray) (a0_1 : List (List D)) (a1 : Int) (K : Int → Option β) : Option β :=
  match laws_szOver.t k a0_0 a0_1 a1 with
  | some z0 => K z0
  | none => none
noncomputable def laws_szOver.as (a0_0 : ByteArray) (a0_1 : List (List D)) (a1 : Int) : List A := [.agg [.str a0_0, .sl a0_1], .d (.int .i64 a1)]
noncomputable def laws_szOver.kt {β : Type} (a0_0 : ByteArray) (a0_1 : List (List D)) (a1 : Int) (K0 : List (List C) → List Out → Option β) : Int → Option β := fun z0 => K0 [[.d (.int .i64 z0)]] []
noncomputable def laws_szOver.e (k : Nat) : ZQ := { modes := [(.imm, 0), (.imm, 0)], rts := [3], al := false, run := fun {β} l K => match l with | [.agg [.str a0_0, .sl a0_1], .d (.int .i64 a1)] => laws_szOver.f k a0_0 a0_1 a1 (laws_szOver.kt a0_0 a0_1 a1 K) | _ => none }
noncomputable def laws_szOver.E (k : Nat) : Env := fun g => bif g == 255 then some (laws_szOpS.e k) else none
noncomputable def laws_szOver.h : ZY := ⟨fun n => ⟨[], []⟩, fun _ => none, false, []⟩
theorem laws_szOver.f_eq {β : Type} (k : Nat) (a0_0 : ByteArray) (a0_1 : List (List D)) (a1 : Int) (K0 : List (List C) → List Out → Option β) : ZJ Try.prog (laws_szOver.E k) laws_szOver.h k Try.f237 (laws_szOver.as a0_0 a0_1 a1) K0 = laws_szOver.g k a0_0 a0_1 a1 (laws_szOver.kt a0_0 a0_1 a1 K0) := by kernel_rfl
noncomputable def laws_szOver.dec (rs : List (List C)) (os : List Out) : Option (Int) := Zd rs fun c1 r2 => Zd c1 fun x3 l4 => cD x3 fun d5 => ZM .i64 d5 fun w0 => Ze l4 <| Ze r2 <| Ze os (some w0)
theorem laws_szOver.kt_dec (a0_0 : ByteArray) (a0_1 : List (List D)) (a1 : Int) : laws_szOver.kt a0_0 a0_1 a1 laws_szOver.dec = (fun z0 => some z0) := by kernel_rfl
theorem laws_szOver.inj (a0_0 : ByteArray) (a0_1 : List (List D)) (a1 : Int) {rs : List (List C)} {os : List Out} {z0 : Int} (h : laws_szOver.dec rs os = some z0) (ho : Zo (laws_szOver.as a0_0 a0_1 a1) os) : rs = [[.d (.int .i64 z0)]] ∧ os = [] := by
  unfold laws_szOver.dec at h
  obtain ⟨c1, r2, rfl, h1⟩ := Zb h
  obtain ⟨x3, l4, rfl, h2⟩ := Zb h1
  obtain ⟨d5, rfl, h3⟩ := Zt h2
  obtain ⟨w0, rfl, h4⟩ := ZA h3
  obtain ⟨rfl, h5⟩ := Zc h4
  obtain ⟨rfl, h6⟩ := Zc h5
  obtain ⟨rfl, h7⟩ := Zc h6
  obtain rfl := Option.some.inj h7
  exact ⟨rfl, rfl⟩
theorem laws_szOver.ok (k : Nat) : Zv Try.prog 237 (laws_szOver.e k) := by
  refine Zu mix tyok (fn := Try.f237) (c := Zl Try.f237) Try.func237 (by kernel_rfl) (h := laws_szOver.h) (k := k) (E := laws_szOver.E k) (Zk (laws_szOpS.ok k) Zz) (by kernel_rfl) (by kernel_rfl) rfl (Zq Try.func237 (by kernel_rfl)) ?_
  intro β l K r hr
  simp only [laws_szOver.e] at hr
  split at hr
  case h_2 => cases hr
  unfold laws_szOver.f at hr
  split at hr
  case h_2 => cases hr
  rename_i hz
  exact ⟨_, _, hr, _, laws_szOver.dec, _, (laws_szOver.f_eq k _ _ _ laws_szOver.dec).trans (by rw [laws_szOver.kt_dec]; exact hz), fun rs os h ho => laws_szOver.inj _ _ _ h ho⟩
noncomputable def laws_szOverS.l0 {β : Type} (k : Nat) (v0_0 : List (List D)) (K : Int → Option β) (L0 : (Int × Int) → Option β) (v : Int × Int) : Option β :=
  match v with
  | (v0_1, v0_2) => bif (decide ((v0_2 : Int) < (v0_0.length : Int))) then (ZX v0_0 v0_2 fun c49 => Zd c49 fun d50 r51 => Zan d50 fun x52 => Zd r51 fun d53 r54 => dSl d53 fun x55 => Ze r54 (laws_szOver.f k x52 x55 v0_1 (fun y56 => bif (decide ((y56 : Int) < 0)) then (K (-1)) else (L0 (y56, IntKind.wrap .i64 (v0_2 + 1)))))) else (K v0_1)
noncomputable def laws_szOverS.g {β : Type} (k : Nat) (a0 : List (List D)) (a1 : Int) (K : Int → Option β) : Option β :=
  bif (decide (((IntKind.wrap .i64 (a1 - (a0.length : Int))) : Int) < 0)) then (K (-1)) else (Z4 (laws_szOverS.l0 k a0 K) k (IntKind.wrap .i64 (a1 - (a0.length : Int)), 0))
noncomputable def laws_szOverS.t (k : Nat) (a0 : List (List D)) (a1 : Int) : Option (Int) := laws_szOverS.g k a0 a1 (fun z0 => some z0)
noncomputable def laws_szOverS.f {β : Type} (k : Nat) (a0 : List (List D)) (a1 : Int) (K : Int → Option β) : Option β :=
  match laws_szOverS.t k a0 a1 with
  | some z0 => K z0
  | none => none
noncomputable def laws_szOverS.as (a0 : List (List D)) (a1 : Int) : List A := [.d (.sl a0), .d (.int .i64 a1)]
noncomputable def laws_szOverS.kt {β : Type} (a0 : List (List D)) (a1 : Int) (K0 : List (List C) → List Out → Option β) : Int → Option β := fun z0 => K0 [[.d (.int .i64 z0)]] []
noncomputable def laws_szOverS.e (k : Nat) : ZQ := { modes := [(.imm, 0), (.imm, 0)], rts := [3], al := false, run := fun {β} l K => match l with | [.d (.sl a0), .d (.int .i64 a1)] => laws_szOverS.f k a0 a1 (laws_szOverS.kt a0 a1 K) | _ => none }
noncomputable def laws_szOverS.E (k : Nat) : Env := fun g => bif g == 237 then some (laws_szOver.e k) else none
noncomputable def laws_szOverS.h : ZY := ⟨fun n => bif n == 5 then ⟨[(0, .asis), (1, .asis), (5, .asis)], []⟩ else ⟨[], []⟩, fun _ => none, false, []⟩
noncomputable def laws_szOverS.s0 (v0_0 : List (List D)) (v : Int × Int) : St :=
  match v with
  | (v0_1, v0_2) => ⟨[.d false (.sl v0_0), .d true (.int .i64 v0_1), .any, .any, .any, .d true (.int .i64 v0_2), .any, .any, .any, .any, .any, .any, .any, .any, .any, .any, .any, .any, .any, .any, .any, .any, .any, .any, .any, .any, .any], []⟩
noncomputable def laws_szOverS.b0 {β : Type} (k : Nat) : St → (Ex → St → Option β) → Option β := fun s K => den Try.prog (laws_szOverS.E k) laws_szOverS.h.H laws_szOverS.h.J k (Zad [1, 1, 1, 0, 1, 0, 0] (Zl Try.f213)) s K
noncomputable def laws_szOverS.c0 {β : Type} (k : Nat) (a0 : List (List D)) (a1 : Int) (K0 : List (List C) → List Out → Option β) : Ex → St → Option β := Zae Try.prog (laws_szOverS.E k) laws_szOverS.h k [1, 1, 1, 0, 1, 0] (Zl Try.f213) (Zak Try.prog Try.f213 laws_szOverS.h (laws_szOverS.as a0 a1) K0)
theorem laws_szOverS.l0_eq {β : Type} (k : Nat) (a0 : List (List D)) (a1 : Int) (K0 : List (List C) → List Out → Option β) (v0_0 : List (List D)) : ∀ (kk : Nat) (v : Int × Int), Zx (laws_szOverS.b0 k) (laws_szOverS.h.H 5) kk (laws_szOverS.s0 v0_0 v) (laws_szOverS.c0 k a0 a1 K0) = Z4 (laws_szOverS.l0 k v0_0 (laws_szOverS.kt a0 a1 K0)) kk v :=
  Z9 (laws_szOverS.s0 v0_0) _ (fun L0 v => by obtain ⟨v0_1, v0_2⟩ := v; kernel_rfl)
noncomputable def laws_szOverS.m {β : Type} (k : Nat) (a0 : List (List D)) (a1 : Int) (K0 : List (List C) → List Out → Option β) (F : ((List (List D)) → (Int × Int) → Option β)) : Option β :=
  bif (decide (((IntKind.wrap .i64 (a1 - (a0.length : Int))) : Int) < 0)) then ((laws_szOverS.kt a0 a1 K0) (-1)) else ((F) a0 (IntKind.wrap .i64 (a1 - (a0.length : Int)), 0))
theorem laws_szOverS.f_eq {β : Type} (k : Nat) (a0 : List (List D)) (a1 : Int) (K0 : List (List C) → List Out → Option β) : ZJ Try.prog (laws_szOverS.E k) laws_szOverS.h k Try.f213 (laws_szOverS.as a0 a1) K0 = laws_szOverS.g k a0 a1 (laws_szOverS.kt a0 a1 K0) := Eq.trans (b := (laws_szOverS.m k a0 a1 K0) (fun (v0_0 : List (List D)) (v : Int × Int) => Zx (laws_szOverS.b0 k) (laws_szOverS.h.H 5) k (laws_szOverS.s0 v0_0 v) (laws_szOverS.c0 k a0 a1 K0))) (by kernel_rfl) (Eq.trans (congrArg (laws_szOverS.m k a0 a1 K0) (funext fun v0_0 => funext fun v => laws_szOverS.l0_eq k a0 a1 K0 v0_0 k v)) (by kernel_rfl))
noncomputable def laws_szOverS.dec (rs : List (List C)) (os : List Out) : Option (Int) := Zd rs fun c1 r2 => Zd c1 fun x3 l4 => cD x3 fun d5 => ZM .i64 d5 fun w0 => Ze l4 <| Ze r2 <| Ze os (some w0)
theorem laws_szOverS.kt_dec (a0 : List (List D)) (a1 : Int) : laws_szOverS.kt a0 a1 laws_szOverS.dec = (fun z0 => some z0) := by kernel_rfl
theorem laws_szOverS.inj (a0 : List (List D)) (a1 : Int) {rs : List (List C)} {os : List Out} {z0 : Int} (h : laws_szOverS.dec rs os = some z0) (ho : Zo (laws_szOverS.as a0 a1) os) : rs = [[.d (.int .i64 z0)]] ∧ os = [] := by
  unfold laws_szOverS.dec at h
  obtain ⟨c1, r2, rfl, h1⟩ := Zb h
  obtain ⟨x3, l4, rfl, h2⟩ := Zb h1
  obtain ⟨d5, rfl, h3⟩ := Zt h2
  obtain ⟨w0, rfl, h4⟩ := ZA h3
  obtain ⟨rfl, h5⟩ := Zc h4
  obtain ⟨rfl, h6⟩ := Zc h5
  obtain ⟨rfl, h7⟩ := Zc h6
  obtain rfl := Option.some.inj h7
  exact ⟨rfl, rfl⟩
theorem laws_szOverS.ok (k : Nat) : Zv Try.prog 213 (laws_szOverS.e k) := by
  refine Zu mix tyok (fn := Try.f213) (c := Zl Try.f213) Try.func213 (by kernel_rfl) (h := laws_szOverS.h) (k := k) (E := laws_szOverS.E k) (Zk (laws_szOver.ok k) Zz) (by kernel_rfl) (by kernel_rfl) rfl (Zq Try.func213 (by kernel_rfl)) ?_
  intro β l K r hr
  simp only [laws_szOverS.e] at hr
  split at hr
  case h_2 => cases hr
  unfold laws_szOverS.f at hr
  split at hr
  case h_2 => cases hr
  rename_i hz
  exact ⟨_, _, hr, _, laws_szOverS.dec, _, (laws_szOverS.f_eq k _ _ laws_szOverS.dec).trans (by rw [laws_szOverS.kt_dec]; exact hz), fun rs os h ho => laws_szOverS.inj _ _ h ho⟩
noncomputable def laws_szJob.g {β : Type} (k : Nat) (a0_0 : Int) (a0_1 : ByteArray) (a0_2 : Int) (a0_3 : List (List D)) (a0_4 : List (List D)) (a0_5 : List (List D)) (a0_6 : Int) (a0_7 : ByteArray) (a0_8 : Int) (a0_9 : List (List D)) (a0_10 : List (List D)) (a0_11 : List (List D)) (a0_12 : Bool) (a1 : Int) (K : Int → Option β) : Option β :=
  bif (decide (((IntKind.wrap .i64 (a1 - (a0_1.size : Int))) : Int) < 0)) then (K (-1)) else (laws_szWant.f k a0_2 a0_3 a0_4 a0_5 (IntKind.wrap .i64 (a1 - (a0_1.size : Int))) (fun y26 => bif (decide ((y26 : Int) < 0)) then (K (-1)) else (laws_szValue.f k a0_6 a0_7 a0_8 a0_9 a0_10 y26 (fun y36 => bif (decide ((y36 : Int) < 0)) then (K (-1)) else (laws_szOverS.f k a0_11 y36 (fun y57 => bif (decide ((y57 : Int) < 0)) then (K (-1)) else (K y57)))))))
noncomputable def laws_szJob.t (k : Nat) (a0_0 : Int) (a0_1 : ByteArray) (a0_2 : Int) (a0_3 : List (List D)) (a0_4 : List (List D)) (a0_5 : List (List D)) (a0_6 : Int) (a0_7 : ByteArray) (a0_8 : Int) (a0_9 : List (List D)) (a0_10 : List (List D)) (a0_11 : List (List D)) (a0_12 : Bool) (a1 : Int) : Option (Int) := laws_szJob.g k a0_0 a0_1 a0_2 a0_3 a0_4 a0_5 a0_6 a0_7 a0_8 a0_9 a0_10 a0_11 a0_12 a1 (fun z0 => some z0)
noncomputable def laws_szJob.f {β : Type} (k : Nat) (a0_0 : Int) (a0_1 : ByteArray) (a0_2 : Int) (a0_3 : List (List D)) (a0_4 : List (List D)) (a0_5 : List (List D)) (a0_6 : Int) (a0_7 : ByteArray) (a0_8 : Int) (a0_9 : List (List D)) (a0_10 : List (List D)) (a0_11 : List (List D)) (a0_12 : Bool) (a1 : Int) (K : Int → Option β) : Option β :=
  match laws_szJob.t k a0_0 a0_1 a0_2 a0_3 a0_4 a0_5 a0_6 a0_7 a0_8 a0_9 a0_10 a0_11 a0_12 a1 with
  | some z0 => K z0
  | none => none
noncomputable def laws_szJob.as (a0_0 : Int) (a0_1 : ByteArray) (a0_2 : Int) (a0_3 : List (List D)) (a0_4 : List (List D)) (a0_5 : List (List D)) (a0_6 : Int) (a0_7 : ByteArray) (a0_8 : Int) (a0_9 : List (List D)) (a0_10 : List (List D)) (a0_11 : List (List D)) (a0_12 : Bool) (a1 : Int) : List A := [.agg [.int .i64 a0_0, .str a0_1, .int .i64 a0_2, .sl a0_3, .sl a0_4, .sl a0_5, .int .i64 a0_6, .str a0_7, .int .i64 a0_8, .sl a0_9, .sl a0_10, .sl a0_11, .bool a0_12], .d (.int .i64 a1)]
noncomputable def laws_szJob.kt {β : Type} (a0_0 : Int) (a0_1 : ByteArray) (a0_2 : Int) (a0_3 : List (List D)) (a0_4 : List (List D)) (a0_5 : List (List D)) (a0_6 : Int) (a0_7 : ByteArray) (a0_8 : Int) (a0_9 : List (List D)) (a0_10 : List (List D)) (a0_11 : List (List D)) (a0_12 : Bool) (a1 : Int) (K0 : List (List C) → List Out → Option β) : Int → Option β := fun z0 => K0 [[.d (.int .i64 z0)]] []
noncomputable def laws_szJob.e (k : Nat) : ZQ := { modes := [(.imm, 0), (.imm, 0)], rts := [3], al := false, run := fun {β} l K => match l with | [.agg [.int .i64 a0_0, .str a0_1, .int .i64 a0_2, .sl a0_3, .sl a0_4, .sl a0_5, .int .i64 a0_6, .str a0_7, .int .i64 a0_8, .sl a0_9, .sl a0_10, .sl a0_11, .bool a0_12], .d (.int .i64 a1)] => laws_szJob.f k a0_0 a0_1 a0_2 a0_3 a0_4 a0_5 a0_6 a0_7 a0_8 a0_9 a0_10 a0_11 a0_12 a1 (laws_szJob.kt a0_0 a0_1 a0_2 a0_3 a0_4 a0_5 a0_6 a0_7 a0_8 a0_9 a0_10 a0_11 a0_12 a1 K) | _ => none }
noncomputable def laws_szJob.E (k : Nat) : Env := fun g => bif g == 212 then some (laws_szWant.e k) else bif g == 178 then some (laws_szValue.e k) else bif g == 213 then some (laws_szOverS.e k) else none
noncomputable def laws_szJob.h : ZY := ⟨fun n => ⟨[], []⟩, fun _ => none, false, []⟩
theorem laws_szJob.f_eq {β : Type} (k : Nat) (a0_0 : Int) (a0_1 : ByteArray) (a0_2 : Int) (a0_3 : List (List D)) (a0_4 : List (List D)) (a0_5 : List (List D)) (a0_6 : Int) (a0_7 : ByteArray) (a0_8 : Int) (a0_9 : List (List D)) (a0_10 : List (List D)) (a0_11 : List (List D)) (a0_12 : Bool) (a1 : Int) (K0 : List (List C) → List Out → Option β) : ZJ Try.prog (laws_szJob.E k) laws_szJob.h k Try.f161 (laws_szJob.as a0_0 a0_1 a0_2 a0_3 a0_4 a0_5 a0_6 a0_7 a0_8 a0_9 a0_10 a0_11 a0_12 a1) K0 = laws_szJob.g k a0_0 a0_1 a0_2 a0_3 a0_4 a0_5 a0_6 a0_7 a0_8 a0_9 a0_10 a0_11 a0_12 a1 (laws_szJob.kt a0_0 a0_1 a0_2 a0_3 a0_4 a0_5 a0_6 a0_7 a0_8 a0_9 a0_10 a0_11 a0_12 a1 K0) := by kernel_rfl
noncomputable def laws_szJob.dec (rs : List (List C)) (os : List Out) : Option (Int) := Zd rs fun c1 r2 => Zd c1 fun x3 l4 => cD x3 fun d5 => ZM .i64 d5 fun w0 => Ze l4 <| Ze r2 <| Ze os (some w0)
theorem laws_szJob.kt_dec (a0_0 : Int) (a0_1 : ByteArray) (a0_2 : Int) (a0_3 : List (List D)) (a0_4 : List (List D)) (a0_5 : List (List D)) (a0_6 : Int) (a0_7 : ByteArray) (a0_8 : Int) (a0_9 : List (List D)) (a0_10 : List (List D)) (a0_11 : List (List D)) (a0_12 : Bool) (a1 : Int) : laws_szJob.kt a0_0 a0_1 a0_2 a0_3 a0_4 a0_5 a0_6 a0_7 a0_8 a0_9 a0_10 a0_11 a0_12 a1 laws_szJob.dec = (fun z0 => some z0) := by kernel_rfl
theorem laws_szJob.inj (a0_0 : Int) (a0_1 : ByteArray) (a0_2 : Int) (a0_3 : List (List D)) (a0_4 : List (List D)) (a0_5 : List (List D)) (a0_6 : Int) (a0_7 : ByteArray) (a0_8 : Int) (a0_9 : List (List D)) (a0_10 : List (List D)) (a0_11 : List (List D)) (a0_12 : Bool) (a1 : Int) {rs : List (List C)} {os : List Out} {z0 : Int} (h : laws_szJob.dec rs os = some z0) (ho : Zo (laws_szJob.as a0_0 a0_1 a0_2 a0_3 a0_4 a0_5 a0_6 a0_7 a0_8 a0_9 a0_10 a0_11 a0_12 a1) os) : rs = [[.d (.int .i64 z0)]] ∧ os = [] := by
  unfold laws_szJob.dec at h
  obtain ⟨c1, r2, rfl, h1⟩ := Zb h
  obtain ⟨x3, l4, rfl, h2⟩ := Zb h1
  obtain ⟨d5, rfl, h3⟩ := Zt h2
  obtain ⟨w0, rfl, h4⟩ := ZA h3
  obtain ⟨rfl, h5⟩ := Zc h4
  obtain ⟨rfl, h6⟩ := Zc h5
  obtain ⟨rfl, h7⟩ := Zc h6
  obtain rfl := Option.some.inj h7
  exact ⟨rfl, rfl⟩
theorem laws_szJob.ok (k : Nat) : Zv Try.prog 161 (laws_szJob.e k) := by
  refine Zu mix tyok (fn := Try.f161) (c := Zl Try.f161) Try.func161 (by kernel_rfl) (h := laws_szJob.h) (k := k) (E := laws_szJob.E k) (Zk (laws_szWant.ok k) (Zk (laws_szValue.ok k) (Zk (laws_szOverS.ok k) Zz))) (by kernel_rfl) (by kernel_rfl) rfl (Zq Try.func161 (by kernel_rfl)) ?_
  intro β l K r hr
  simp only [laws_szJob.e] at hr
  split at hr
  case h_2 => cases hr
  unfold laws_szJob.f at hr
  split at hr
  case h_2 => cases hr
  rename_i hz
  exact ⟨_, _, hr, _, laws_szJob.dec, _, (laws_szJob.f_eq k _ _ _ _ _ _ _ _ _ _ _ _ _ _ laws_szJob.dec).trans (by rw [laws_szJob.kt_dec]; exact hz), fun rs os h ho => laws_szJob.inj _ _ _ _ _ _ _ _ _ _ _ _ _ _ h ho⟩
noncomputable def laws_szJobS.l0 {β : Type} (k : Nat) (v0_0 : List (List D)) (K : Int → Option β) (L0 : (Int × Int) → Option β) (v : Int × Int) : Option β :=
  match v with
  | (v0_1, v0_2) => bif (decide ((v0_2 : Int) < (v0_0.length : Int))) then (ZX v0_0 v0_2 fun c59 => Zd c59 fun d60 r61 => ZM .i64 d60 fun x62 => Zd r61 fun d63 r64 => Zan d63 fun x65 => Zd r64 fun d66 r67 => ZM .i64 d66 fun x68 => Zd r67 fun d69 r70 => dSl d69 fun x71 => Zd r70 fun d72 r73 => dSl d72 fun x74 => Zd r73 fun d75 r76 => dSl d75 fun x77 => Zd r76 fun d78 r79 => ZM .i64 d78 fun x80 => Zd r79 fun d81 r82 => Zan d81 fun x83 => Zd r82 fun d84 r85 => ZM .i64 d84 fun x86 => Zd r85 fun d87 r88 => dSl d87 fun x89 => Zd r88 fun d90 r91 => dSl d90 fun x92 => Zd r91 fun d93 r94 => dSl d93 fun x95 => Zd r94 fun d96 r97 => ZaF d96 fun x98 => Ze r97 (laws_szJob.f k x62 x65 x68 x71 x74 x77 x80 x83 x86 x89 x92 x95 x98 v0_1 (fun y99 => bif (decide ((y99 : Int) < 0)) then (K (-1)) else (L0 (y99, IntKind.wrap .i64 (v0_2 + 1)))))) else (K v0_1)
noncomputable def laws_szJobS.g {β : Type} (k : Nat) (a0 : List (List D)) (a1 : Int) (K : Int → Option β) : Option β :=
  bif (decide (((IntKind.wrap .i64 (a1 - (a0.length : Int))) : Int) < 0)) then (K (-1)) else (Z4 (laws_szJobS.l0 k a0 K) k (IntKind.wrap .i64 (a1 - (a0.length : Int)), 0))
noncomputable def laws_szJobS.t (k : Nat) (a0 : List (List D)) (a1 : Int) : Option (Int) := laws_szJobS.g k a0 a1 (fun z0 => some z0)
noncomputable def laws_szJobS.f {β : Type} (k : Nat) (a0 : List (List D)) (a1 : Int) (K : Int → Option β) : Option β :=
  match laws_szJobS.t k a0 a1 with
  | some z0 => K z0
  | none => none
noncomputable def laws_szJobS.as (a0 : List (List D)) (a1 : Int) : List A := [.d (.sl a0), .d (.int .i64 a1)]
noncomputable def laws_szJobS.kt {β : Type} (a0 : List (List D)) (a1 : Int) (K0 : List (List C) → List Out → Option β) : Int → Option β := fun z0 => K0 [[.d (.int .i64 z0)]] []
noncomputable def laws_szJobS.e (k : Nat) : ZQ := { modes := [(.imm, 0), (.imm, 0)], rts := [3], al := false, run := fun {β} l K => match l with | [.d (.sl a0), .d (.int .i64 a1)] => laws_szJobS.f k a0 a1 (laws_szJobS.kt a0 a1 K) | _ => none }
noncomputable def laws_szJobS.E (k : Nat) : Env := fun g => bif g == 161 then some (laws_szJob.e k) else none
noncomputable def laws_szJobS.h : ZY := ⟨fun n => bif n == 5 then ⟨[(0, .asis), (1, .asis), (5, .asis)], []⟩ else ⟨[], []⟩, fun _ => none, false, []⟩
noncomputable def laws_szJobS.s0 (v0_0 : List (List D)) (v : Int × Int) : St :=
  match v with
  | (v0_1, v0_2) => ⟨[.d false (.sl v0_0), .d true (.int .i64 v0_1), .any, .any, .any, .d true (.int .i64 v0_2), .any, .any, .any, .any, .any, .any, .any, .any, .any, .any, .any, .any, .any, .any, .any, .any, .any, .any, .any, .any, .any], []⟩
noncomputable def laws_szJobS.b0 {β : Type} (k : Nat) : St → (Ex → St → Option β) → Option β := fun s K => den Try.prog (laws_szJobS.E k) laws_szJobS.h.H laws_szJobS.h.J k (Zad [1, 1, 1, 0, 1, 0, 0] (Zl Try.f71)) s K
noncomputable def laws_szJobS.c0 {β : Type} (k : Nat) (a0 : List (List D)) (a1 : Int) (K0 : List (List C) → List Out → Option β) : Ex → St → Option β := Zae Try.prog (laws_szJobS.E k) laws_szJobS.h k [1, 1, 1, 0, 1, 0] (Zl Try.f71) (Zak Try.prog Try.f71 laws_szJobS.h (laws_szJobS.as a0 a1) K0)
theorem laws_szJobS.l0_eq {β : Type} (k : Nat) (a0 : List (List D)) (a1 : Int) (K0 : List (List C) → List Out → Option β) (v0_0 : List (List D)) : ∀ (kk : Nat) (v : Int × Int), Zx (laws_szJobS.b0 k) (laws_szJobS.h.H 5) kk (laws_szJobS.s0 v0_0 v) (laws_szJobS.c0 k a0 a1 K0) = Z4 (laws_szJobS.l0 k v0_0 (laws_szJobS.kt a0 a1 K0)) kk v :=
  Z9 (laws_szJobS.s0 v0_0) _ (fun L0 v => by obtain ⟨v0_1, v0_2⟩ := v; kernel_rfl)
noncomputable def laws_szJobS.m {β : Type} (k : Nat) (a0 : List (List D)) (a1 : Int) (K0 : List (List C) → List Out → Option β) (F : ((List (List D)) → (Int × Int) → Option β)) : Option β :=
  bif (decide (((IntKind.wrap .i64 (a1 - (a0.length : Int))) : Int) < 0)) then ((laws_szJobS.kt a0 a1 K0) (-1)) else ((F) a0 (IntKind.wrap .i64 (a1 - (a0.length : Int)), 0))
theorem laws_szJobS.f_eq {β : Type} (k : Nat) (a0 : List (List D)) (a1 : Int) (K0 : List (List C) → List Out → Option β) : ZJ Try.prog (laws_szJobS.E k) laws_szJobS.h k Try.f71 (laws_szJobS.as a0 a1) K0 = laws_szJobS.g k a0 a1 (laws_szJobS.kt a0 a1 K0) := Eq.trans (b := (laws_szJobS.m k a0 a1 K0) (fun (v0_0 : List (List D)) (v : Int × Int) => Zx (laws_szJobS.b0 k) (laws_szJobS.h.H 5) k (laws_szJobS.s0 v0_0 v) (laws_szJobS.c0 k a0 a1 K0))) (by kernel_rfl) (Eq.trans (congrArg (laws_szJobS.m k a0 a1 K0) (funext fun v0_0 => funext fun v => laws_szJobS.l0_eq k a0 a1 K0 v0_0 k v)) (by kernel_rfl))
noncomputable def laws_szJobS.dec (rs : List (List C)) (os : List Out) : Option (Int) := Zd rs fun c1 r2 => Zd c1 fun x3 l4 => cD x3 fun d5 => ZM .i64 d5 fun w0 => Ze l4 <| Ze r2 <| Ze os (some w0)
theorem laws_szJobS.kt_dec (a0 : List (List D)) (a1 : Int) : laws_szJobS.kt a0 a1 laws_szJobS.dec = (fun z0 => some z0) := by kernel_rfl
theorem laws_szJobS.inj (a0 : List (List D)) (a1 : Int) {rs : List (List C)} {os : List Out} {z0 : Int} (h : laws_szJobS.dec rs os = some z0) (ho : Zo (laws_szJobS.as a0 a1) os) : rs = [[.d (.int .i64 z0)]] ∧ os = [] := by
  unfold laws_szJobS.dec at h
  obtain ⟨c1, r2, rfl, h1⟩ := Zb h
  obtain ⟨x3, l4, rfl, h2⟩ := Zb h1
  obtain ⟨d5, rfl, h3⟩ := Zt h2
  obtain ⟨w0, rfl, h4⟩ := ZA h3
  obtain ⟨rfl, h5⟩ := Zc h4
  obtain ⟨rfl, h6⟩ := Zc h5
  obtain ⟨rfl, h7⟩ := Zc h6
  obtain rfl := Option.some.inj h7
  exact ⟨rfl, rfl⟩
theorem laws_szJobS.ok (k : Nat) : Zv Try.prog 71 (laws_szJobS.e k) := by
  refine Zu mix tyok (fn := Try.f71) (c := Zl Try.f71) Try.func71 (by kernel_rfl) (h := laws_szJobS.h) (k := k) (E := laws_szJobS.E k) (Zk (laws_szJob.ok k) Zz) (by kernel_rfl) (by kernel_rfl) rfl (Zq Try.func71 (by kernel_rfl)) ?_
  intro β l K r hr
  simp only [laws_szJobS.e] at hr
  split at hr
  case h_2 => cases hr
  unfold laws_szJobS.f at hr
  split at hr
  case h_2 => cases hr
  rename_i hz
  exact ⟨_, _, hr, _, laws_szJobS.dec, _, (laws_szJobS.f_eq k _ _ laws_szJobS.dec).trans (by rw [laws_szJobS.kt_dec]; exact hz), fun rs os h ho => laws_szJobS.inj _ _ h ho⟩
noncomputable def laws_szLabel.g {β : Type} (k : Nat) (a0_0 : ByteArray) (a0_1 : ByteArray) (a1 : Int) (K : Int → Option β) : Option β :=
  bif (decide (((IntKind.wrap .i64 (a1 - (a0_0.size : Int))) : Int) < 0)) then (K (-1)) else (bif (decide (((IntKind.wrap .i64 ((IntKind.wrap .i64 (a1 - (a0_0.size : Int))) - (a0_1.size : Int))) : Int) < 0)) then (K (-1)) else (K (IntKind.wrap .i64 ((IntKind.wrap .i64 (a1 - (a0_0.size : Int))) - (a0_1.size : Int)))))
noncomputable def laws_szLabel.t (k : Nat) (a0_0 : ByteArray) (a0_1 : ByteArray) (a1 : Int) : Option (Int) := laws_szLabel.g k a0_0 a0_1 a1 (fun z0 => some z0)
noncomputable def laws_szLabel.f {β : Type} (k : Nat) (a0_0 : ByteArray) (a0_1 : ByteArray) (a1 : Int) (K : Int → Option β) : Option β :=
  match laws_szLabel.t k a0_0 a0_1 a1 with
  | some z0 => K z0
  | none => none
noncomputable def laws_szLabel.as (a0_0 : ByteArray) (a0_1 : ByteArray) (a1 : Int) : List A := [.agg [.str a0_0, .str a0_1], .d (.int .i64 a1)]
noncomputable def laws_szLabel.kt {β : Type} (a0_0 : ByteArray) (a0_1 : ByteArray) (a1 : Int) (K0 : List (List C) → List Out → Option β) : Int → Option β := fun z0 => K0 [[.d (.int .i64 z0)]] []
noncomputable def laws_szLabel.e (k : Nat) : ZQ := { modes := [(.imm, 0), (.imm, 0)], rts := [3], al := false, run := fun {β} l K => match l with | [.agg [.str a0_0, .str a0_1], .d (.int .i64 a1)] => laws_szLabel.f k a0_0 a0_1 a1 (laws_szLabel.kt a0_0 a0_1 a1 K) | _ => none }
noncomputable def laws_szLabel.E (k : Nat) : Env := fun g => none
noncomputable def laws_szLabel.h : ZY := ⟨fun n => ⟨[], []⟩, fun _ => none, false, []⟩
theorem laws_szLabel.f_eq {β : Type} (k : Nat) (a0_0 : ByteArray) (a0_1 : ByteArray) (a1 : Int) (K0 : List (List C) → List Out → Option β) : ZJ Try.prog (laws_szLabel.E k) laws_szLabel.h k Try.f256 (laws_szLabel.as a0_0 a0_1 a1) K0 = laws_szLabel.g k a0_0 a0_1 a1 (laws_szLabel.kt a0_0 a0_1 a1 K0) := by kernel_rfl
noncomputable def laws_szLabel.dec (rs : List (List C)) (os : List Out) : Option (Int) := Zd rs fun c1 r2 => Zd c1 fun x3 l4 => cD x3 fun d5 => ZM .i64 d5 fun w0 => Ze l4 <| Ze r2 <| Ze os (some w0)
theorem laws_szLabel.kt_dec (a0_0 : ByteArray) (a0_1 : ByteArray) (a1 : Int) : laws_szLabel.kt a0_0 a0_1 a1 laws_szLabel.dec = (fun z0 => some z0) := by kernel_rfl
theorem laws_szLabel.inj (a0_0 : ByteArray) (a0_1 : ByteArray) (a1 : Int) {rs : List (List C)} {os : List Out} {z0 : Int} (h : laws_szLabel.dec rs os = some z0) (ho : Zo (laws_szLabel.as a0_0 a0_1 a1) os) : rs = [[.d (.int .i64 z0)]] ∧ os = [] := by
  unfold laws_szLabel.dec at h
  obtain ⟨c1, r2, rfl, h1⟩ := Zb h
  obtain ⟨x3, l4, rfl, h2⟩ := Zb h1
  obtain ⟨d5, rfl, h3⟩ := Zt h2
  obtain ⟨w0, rfl, h4⟩ := ZA h3
  obtain ⟨rfl, h5⟩ := Zc h4
  obtain ⟨rfl, h6⟩ := Zc h5
  obtain ⟨rfl, h7⟩ := Zc h6
  obtain rfl := Option.some.inj h7
  exact ⟨rfl, rfl⟩
theorem laws_szLabel.ok (k : Nat) : Zv Try.prog 256 (laws_szLabel.e k) := by
  refine Zu mix tyok (fn := Try.f256) (c := Zl Try.f256) Try.func256 (by kernel_rfl) (h := laws_szLabel.h) (k := k) (E := laws_szLabel.E k) Zz (by kernel_rfl) (by kernel_rfl) rfl (Zq Try.func256 (by kernel_rfl)) ?_
  intro β l K r hr
  simp only [laws_szLabel.e] at hr
  split at hr
  case h_2 => cases hr
  unfold laws_szLabel.f at hr
  split at hr
  case h_2 => cases hr
  rename_i hz
  exact ⟨_, _, hr, _, laws_szLabel.dec, _, (laws_szLabel.f_eq k _ _ _ laws_szLabel.dec).trans (by rw [laws_szLabel.kt_dec]; exact hz), fun rs os h ho => laws_szLabel.inj _ _ _ h ho⟩
noncomputable def laws_szLabelS.l0 {β : Type} (k : Nat) (v0_0 : List (List D)) (K : Int → Option β) (L0 : (Int × Int) → Option β) (v : Int × Int) : Option β :=
  match v with
  | (v0_1, v0_2) => bif (decide ((v0_2 : Int) < (v0_0.length : Int))) then (ZX v0_0 v0_2 fun c9 => Zd c9 fun d10 r11 => Zan d10 fun x12 => Zd r11 fun d13 r14 => Zan d13 fun x15 => Ze r14 (laws_szLabel.f k x12 x15 v0_1 (fun y16 => bif (decide ((y16 : Int) < 0)) then (K (-1)) else (L0 (y16, IntKind.wrap .i64 (v0_2 + 1)))))) else (K v0_1)
noncomputable def laws_szLabelS.g {β : Type} (k : Nat) (a0 : List (List D)) (a1 : Int) (K : Int → Option β) : Option β :=
  bif (decide (((IntKind.wrap .i64 (a1 - (a0.length : Int))) : Int) < 0)) then (K (-1)) else (Z4 (laws_szLabelS.l0 k a0 K) k (IntKind.wrap .i64 (a1 - (a0.length : Int)), 0))
noncomputable def laws_szLabelS.t (k : Nat) (a0 : List (List D)) (a1 : Int) : Option (Int) := laws_szLabelS.g k a0 a1 (fun z0 => some z0)
noncomputable def laws_szLabelS.f {β : Type} (k : Nat) (a0 : List (List D)) (a1 : Int) (K : Int → Option β) : Option β :=
  match laws_szLabelS.t k a0 a1 with
  | some z0 => K z0
  | none => none
noncomputable def laws_szLabelS.as (a0 : List (List D)) (a1 : Int) : List A := [.d (.sl a0), .d (.int .i64 a1)]
noncomputable def laws_szLabelS.kt {β : Type} (a0 : List (List D)) (a1 : Int) (K0 : List (List C) → List Out → Option β) : Int → Option β := fun z0 => K0 [[.d (.int .i64 z0)]] []
noncomputable def laws_szLabelS.e (k : Nat) : ZQ := { modes := [(.imm, 0), (.imm, 0)], rts := [3], al := false, run := fun {β} l K => match l with | [.d (.sl a0), .d (.int .i64 a1)] => laws_szLabelS.f k a0 a1 (laws_szLabelS.kt a0 a1 K) | _ => none }
noncomputable def laws_szLabelS.E (k : Nat) : Env := fun g => bif g == 256 then some (laws_szLabel.e k) else none
noncomputable def laws_szLabelS.h : ZY := ⟨fun n => bif n == 5 then ⟨[(0, .asis), (1, .asis), (5, .asis)], []⟩ else ⟨[], []⟩, fun _ => none, false, []⟩
noncomputable def laws_szLabelS.s0 (v0_0 : List (List D)) (v : Int × Int) : St :=
  match v with
  | (v0_1, v0_2) => ⟨[.d false (.sl v0_0), .d true (.int .i64 v0_1), .any, .any, .any, .d true (.int .i64 v0_2), .any, .any, .any, .any, .any, .any, .any, .any, .any, .any, .any, .any, .any, .any, .any, .any, .any, .any, .any, .any, .any], []⟩
noncomputable def laws_szLabelS.b0 {β : Type} (k : Nat) : St → (Ex → St → Option β) → Option β := fun s K => den Try.prog (laws_szLabelS.E k) laws_szLabelS.h.H laws_szLabelS.h.J k (Zad [1, 1, 1, 0, 1, 0, 0] (Zl Try.f238)) s K
noncomputable def laws_szLabelS.c0 {β : Type} (k : Nat) (a0 : List (List D)) (a1 : Int) (K0 : List (List C) → List Out → Option β) : Ex → St → Option β := Zae Try.prog (laws_szLabelS.E k) laws_szLabelS.h k [1, 1, 1, 0, 1, 0] (Zl Try.f238) (Zak Try.prog Try.f238 laws_szLabelS.h (laws_szLabelS.as a0 a1) K0)
theorem laws_szLabelS.l0_eq {β : Type} (k : Nat) (a0 : List (List D)) (a1 : Int) (K0 : List (List C) → List Out → Option β) (v0_0 : List (List D)) : ∀ (kk : Nat) (v : Int × Int), Zx (laws_szLabelS.b0 k) (laws_szLabelS.h.H 5) kk (laws_szLabelS.s0 v0_0 v) (laws_szLabelS.c0 k a0 a1 K0) = Z4 (laws_szLabelS.l0 k v0_0 (laws_szLabelS.kt a0 a1 K0)) kk v :=
  Z9 (laws_szLabelS.s0 v0_0) _ (fun L0 v => by obtain ⟨v0_1, v0_2⟩ := v; kernel_rfl)
noncomputable def laws_szLabelS.m {β : Type} (k : Nat) (a0 : List (List D)) (a1 : Int) (K0 : List (List C) → List Out → Option β) (F : ((List (List D)) → (Int × Int) → Option β)) : Option β :=
  bif (decide (((IntKind.wrap .i64 (a1 - (a0.length : Int))) : Int) < 0)) then ((laws_szLabelS.kt a0 a1 K0) (-1)) else ((F) a0 (IntKind.wrap .i64 (a1 - (a0.length : Int)), 0))
theorem laws_szLabelS.f_eq {β : Type} (k : Nat) (a0 : List (List D)) (a1 : Int) (K0 : List (List C) → List Out → Option β) : ZJ Try.prog (laws_szLabelS.E k) laws_szLabelS.h k Try.f238 (laws_szLabelS.as a0 a1) K0 = laws_szLabelS.g k a0 a1 (laws_szLabelS.kt a0 a1 K0) := Eq.trans (b := (laws_szLabelS.m k a0 a1 K0) (fun (v0_0 : List (List D)) (v : Int × Int) => Zx (laws_szLabelS.b0 k) (laws_szLabelS.h.H 5) k (laws_szLabelS.s0 v0_0 v) (laws_szLabelS.c0 k a0 a1 K0))) (by kernel_rfl) (Eq.trans (congrArg (laws_szLabelS.m k a0 a1 K0) (funext fun v0_0 => funext fun v => laws_szLabelS.l0_eq k a0 a1 K0 v0_0 k v)) (by kernel_rfl))
noncomputable def laws_szLabelS.dec (rs : List (List C)) (os : List Out) : Option (Int) := Zd rs fun c1 r2 => Zd c1 fun x3 l4 => cD x3 fun d5 => ZM .i64 d5 fun w0 => Ze l4 <| Ze r2 <| Ze os (some w0)
theorem laws_szLabelS.kt_dec (a0 : List (List D)) (a1 : Int) : laws_szLabelS.kt a0 a1 laws_szLabelS.dec = (fun z0 => some z0) := by kernel_rfl
theorem laws_szLabelS.inj (a0 : List (List D)) (a1 : Int) {rs : List (List C)} {os : List Out} {z0 : Int} (h : laws_szLabelS.dec rs os = some z0) (ho : Zo (laws_szLabelS.as a0 a1) os) : rs = [[.d (.int .i64 z0)]] ∧ os = [] := by
  unfold laws_szLabelS.dec at h
  obtain ⟨c1, r2, rfl, h1⟩ := Zb h
  obtain ⟨x3, l4, rfl, h2⟩ := Zb h1
  obtain ⟨d5, rfl, h3⟩ := Zt h2
  obtain ⟨w0, rfl, h4⟩ := ZA h3
  obtain ⟨rfl, h5⟩ := Zc h4
  obtain ⟨rfl, h6⟩ := Zc h5
  obtain ⟨rfl, h7⟩ := Zc h6
  obtain rfl := Option.some.inj h7
  exact ⟨rfl, rfl⟩
theorem laws_szLabelS.ok (k : Nat) : Zv Try.prog 238 (laws_szLabelS.e k) := by
  refine Zu mix tyok (fn := Try.f238) (c := Zl Try.f238) Try.func238 (by kernel_rfl) (h := laws_szLabelS.h) (k := k) (E := laws_szLabelS.E k) (Zk (laws_szLabel.ok k) Zz) (by kernel_rfl) (by kernel_rfl) rfl (Zq Try.func238 (by kernel_rfl)) ?_
  intro β l K r hr
  simp only [laws_szLabelS.e] at hr
  split at hr
  case h_2 => cases hr
  unfold laws_szLabelS.f at hr
  split at hr
  case h_2 => cases hr
  rename_i hz
  exact ⟨_, _, hr, _, laws_szLabelS.dec, _, (laws_szLabelS.f_eq k _ _ laws_szLabelS.dec).trans (by rw [laws_szLabelS.kt_dec]; exact hz), fun rs os h ho => laws_szLabelS.inj _ _ h ho⟩
noncomputable def laws_szIsland.g {β : Type} (k : Nat) (a0_0 : ByteArray) (a0_1 : List (List D)) (a0_2 : List (List D)) (a0_3 : Int) (a1 : Int) (K : Int → Option β) : Option β :=
  bif (decide (((IntKind.wrap .i64 (a1 - (a0_0.size : Int))) : Int) < 0)) then (K (-1)) else (laws_szLabelS.f k a0_1 (IntKind.wrap .i64 (a1 - (a0_0.size : Int))) (fun y17 => bif (decide ((y17 : Int) < 0)) then (K (-1)) else (laws_szStringS.f k a0_2 y17 (fun y18 => bif (decide ((y18 : Int) < 0)) then (K (-1)) else (K y18)))))
noncomputable def laws_szIsland.t (k : Nat) (a0_0 : ByteArray) (a0_1 : List (List D)) (a0_2 : List (List D)) (a0_3 : Int) (a1 : Int) : Option (Int) := laws_szIsland.g k a0_0 a0_1 a0_2 a0_3 a1 (fun z0 => some z0)
noncomputable def laws_szIsland.f {β : Type} (k : Nat) (a0_0 : ByteArray) (a0_1 : List (List D)) (a0_2 : List (List D)) (a0_3 : Int) (a1 : Int) (K : Int → Option β) : Option β :=
  match laws_szIsland.t k a0_0 a0_1 a0_2 a0_3 a1 with
  | some z0 => K z0
  | none => none
noncomputable def laws_szIsland.as (a0_0 : ByteArray) (a0_1 : List (List D)) (a0_2 : List (List D)) (a0_3 : Int) (a1 : Int) : List A := [.agg [.str a0_0, .sl a0_1, .sl a0_2, .int .i64 a0_3], .d (.int .i64 a1)]
noncomputable def laws_szIsland.kt {β : Type} (a0_0 : ByteArray) (a0_1 : List (List D)) (a0_2 : List (List D)) (a0_3 : Int) (a1 : Int) (K0 : List (List C) → List Out → Option β) : Int → Option β := fun z0 => K0 [[.d (.int .i64 z0)]] []
noncomputable def laws_szIsland.e (k : Nat) : ZQ := { modes := [(.imm, 0), (.imm, 0)], rts := [3], al := false, run := fun {β} l K => match l with | [.agg [.str a0_0, .sl a0_1, .sl a0_2, .int .i64 a0_3], .d (.int .i64 a1)] => laws_szIsland.f k a0_0 a0_1 a0_2 a0_3 a1 (laws_szIsland.kt a0_0 a0_1 a0_2 a0_3 a1 K) | _ => none }
noncomputable def laws_szIsland.E (k : Nat) : Env := fun g => bif g == 238 then some (laws_szLabelS.e k) else bif g == 74 then some (laws_szStringS.e k) else none
noncomputable def laws_szIsland.h : ZY := ⟨fun n => ⟨[], []⟩, fun _ => none, false, []⟩
theorem laws_szIsland.f_eq {β : Type} (k : Nat) (a0_0 : ByteArray) (a0_1 : List (List D)) (a0_2 : List (List D)) (a0_3 : Int) (a1 : Int) (K0 : List (List C) → List Out → Option β) : ZJ Try.prog (laws_szIsland.E k) laws_szIsland.h k Try.f214 (laws_szIsland.as a0_0 a0_1 a0_2 a0_3 a1) K0 = laws_szIsland.g k a0_0 a0_1 a0_2 a0_3 a1 (laws_szIsland.kt a0_0 a0_1 a0_2 a0_3 a1 K0) := by kernel_rfl
noncomputable def laws_szIsland.dec (rs : List (List C)) (os : List Out) : Option (Int) := Zd rs fun c1 r2 => Zd c1 fun x3 l4 => cD x3 fun d5 => ZM .i64 d5 fun w0 => Ze l4 <| Ze r2 <| Ze os (some w0)
theorem laws_szIsland.kt_dec (a0_0 : ByteArray) (a0_1 : List (List D)) (a0_2 : List (List D)) (a0_3 : Int) (a1 : Int) : laws_szIsland.kt a0_0 a0_1 a0_2 a0_3 a1 laws_szIsland.dec = (fun z0 => some z0) := by kernel_rfl
theorem laws_szIsland.inj (a0_0 : ByteArray) (a0_1 : List (List D)) (a0_2 : List (List D)) (a0_3 : Int) (a1 : Int) {rs : List (List C)} {os : List Out} {z0 : Int} (h : laws_szIsland.dec rs os = some z0) (ho : Zo (laws_szIsland.as a0_0 a0_1 a0_2 a0_3 a1) os) : rs = [[.d (.int .i64 z0)]] ∧ os = [] := by
  unfold laws_szIsland.dec at h
  obtain ⟨c1, r2, rfl, h1⟩ := Zb h
  obtain ⟨x3, l4, rfl, h2⟩ := Zb h1
  obtain ⟨d5, rfl, h3⟩ := Zt h2
  obtain ⟨w0, rfl, h4⟩ := ZA h3
  obtain ⟨rfl, h5⟩ := Zc h4
  obtain ⟨rfl, h6⟩ := Zc h5
  obtain ⟨rfl, h7⟩ := Zc h6
  obtain rfl := Option.some.inj h7
  exact ⟨rfl, rfl⟩
theorem laws_szIsland.ok (k : Nat) : Zv Try.prog 214 (laws_szIsland.e k) := by
  refine Zu mix tyok (fn := Try.f214) (c := Zl Try.f214) Try.func214 (by kernel_rfl) (h := laws_szIsland.h) (k := k) (E := laws_szIsland.E k) (Zk (laws_szLabelS.ok k) (Zk (laws_szStringS.ok k) Zz)) (by kernel_rfl) (by kernel_rfl) rfl (Zq Try.func214 (by kernel_rfl)) ?_
  intro β l K r hr
  simp only [laws_szIsland.e] at hr
  split at hr
  case h_2 => cases hr
  unfold laws_szIsland.f at hr
  split at hr
  case h_2 => cases hr
  rename_i hz
  exact ⟨_, _, hr, _, laws_szIsland.dec, _, (laws_szIsland.f_eq k _ _ _ _ _ laws_szIsland.dec).trans (by rw [laws_szIsland.kt_dec]; exact hz), fun rs os h ho => laws_szIsland.inj _ _ _ _ _ h ho⟩
noncomputable def laws_szPost.g {β : Type} (k : Nat) (a0_0 : ByteArray) (a0_1 : List (List D)) (a0_2 : List (List D)) (a0_3 : Int) (a0_4 : Int) (a0_5 : Int) (a1 : Int) (K : Int → Option β) : Option β :=
  laws_szIsland.f k a0_0 a0_1 a0_2 a0_3 a1 (fun y19 => bif (decide ((y19 : Int) < 0)) then (K (-1)) else (K y19))
noncomputable def laws_szPost.t (k : Nat) (a0_0 : ByteArray) (a0_1 : List (List D)) (a0_2 : List (List D)) (a0_3 : Int) (a0_4 : Int) (a0_5 : Int) (a1 : Int) : Option (Int) := laws_szPost.g k a0_0 a0_1 a0_2 a0_3 a0_4 a0_5 a1 (fun z0 => some z0)
noncomputable def laws_szPost.f {β : Type} (k : Nat) (a0_0 : ByteArray) (a0_1 : List (List D)) (a0_2 : List (List D)) (a0_3 : Int) (a0_4 : Int) (a0_5 : Int) (a1 : Int) (K : Int → Option β) : Option β :=
  match laws_szPost.t k a0_0 a0_1 a0_2 a0_3 a0_4 a0_5 a1 with
  | some z0 => K z0
  | none => none
noncomputable def laws_szPost.as (a0_0 : ByteArray) (a0_1 : List (List D)) (a0_2 : List (List D)) (a0_3 : Int) (a0_4 : Int) (a0_5 : Int) (a1 : Int) : List A := [.agg [.str a0_0, .sl a0_1, .sl a0_2, .int .i64 a0_3, .int .i64 a0_4, .int .i64 a0_5], .d (.int .i64 a1)]
noncomputable def laws_szPost.kt {β : Type} (a0_0 : ByteArray) (a0_1 : List (List D)) (a0_2 : List (List D)) (a0_3 : Int) (a0_4 : Int) (a0_5 : Int) (a1 : Int) (K0 : List (List C) → List Out → Option β) : Int → Option β := fun z0 => K0 [[.d (.int .i64 z0)]] []
noncomputable def laws_szPost.e (k : Nat) : ZQ := { modes := [(.imm, 0), (.imm, 0)], rts := [3], al := false, run := fun {β} l K => match l with | [.agg [.str a0_0, .sl a0_1, .sl a0_2, .int .i64 a0_3, .int .i64 a0_4, .int .i64 a0_5], .d (.int .i64 a1)] => laws_szPost.f k a0_0 a0_1 a0_2 a0_3 a0_4 a0_5 a1 (laws_szPost.kt a0_0 a0_1 a0_2 a0_3 a0_4 a0_5 a1 K) | _ => none }
noncomputable def laws_szPost.E (k : Nat) : Env := fun g => bif g == 214 then some (laws_szIsland.e k) else none
noncomputable def laws_szPost.h : ZY := ⟨fun n => ⟨[], []⟩, fun _ => none, false, []⟩
theorem laws_szPost.f_eq {β : Type} (k : Nat) (a0_0 : ByteArray) (a0_1 : List (List D)) (a0_2 : List (List D)) (a0_3 : Int) (a0_4 : Int) (a0_5 : Int) (a1 : Int) (K0 : List (List C) → List Out → Option β) : ZJ Try.prog (laws_szPost.E k) laws_szPost.h k Try.f162 (laws_szPost.as a0_0 a0_1 a0_2 a0_3 a0_4 a0_5 a1) K0 = laws_szPost.g k a0_0 a0_1 a0_2 a0_3 a0_4 a0_5 a1 (laws_szPost.kt a0_0 a0_1 a0_2 a0_3 a0_4 a0_5 a1 K0) := by kernel_rfl
noncomputable def laws_szPost.dec (rs : List (List C)) (os : List Out) : Option (Int) := Zd rs fun c1 r2 => Zd c1 fun x3 l4 => cD x3 fun d5 => ZM .i64 d5 fun w0 => Ze l4 <| Ze r2 <| Ze os (some w0)
theorem laws_szPost.kt_dec (a0_0 : ByteArray) (a0_1 : List (List D)) (a0_2 : List (List D)) (a0_3 : Int) (a0_4 : Int) (a0_5 : Int) (a1 : Int) : laws_szPost.kt a0_0 a0_1 a0_2 a0_3 a0_4 a0_5 a1 laws_szPost.dec = (fun z0 => some z0) := by kernel_rfl
theorem laws_szPost.inj (a0_0 : ByteArray) (a0_1 : List (List D)) (a0_2 : List (List D)) (a0_3 : Int) (a0_4 : Int) (a0_5 : Int) (a1 : Int) {rs : List (List C)} {os : List Out} {z0 : Int} (h : laws_szPost.dec rs os = some z0) (ho : Zo (laws_szPost.as a0_0 a0_1 a0_2 a0_3 a0_4 a0_5 a1) os) : rs = [[.d (.int .i64 z0)]] ∧ os = [] := by
  unfold laws_szPost.dec at h
  obtain ⟨c1, r2, rfl, h1⟩ := Zb h
  obtain ⟨x3, l4, rfl, h2⟩ := Zb h1
  obtain ⟨d5, rfl, h3⟩ := Zt h2
  obtain ⟨w0, rfl, h4⟩ := ZA h3
  obtain ⟨rfl, h5⟩ := Zc h4
  obtain ⟨rfl, h6⟩ := Zc h5
  obtain ⟨rfl, h7⟩ := Zc h6
  obtain rfl := Option.some.inj h7
  exact ⟨rfl, rfl⟩
theorem laws_szPost.ok (k : Nat) : Zv Try.prog 162 (laws_szPost.e k) := by
  refine Zu mix tyok (fn := Try.f162) (c := Zl Try.f162) Try.func162 (by kernel_rfl) (h := laws_szPost.h) (k := k) (E := laws_szPost.E k) (Zk (laws_szIsland.ok k) Zz) (by kernel_rfl) (by kernel_rfl) rfl (Zq Try.func162 (by kernel_rfl)) ?_
  intro β l K r hr
  simp only [laws_szPost.e] at hr
  split at hr
  case h_2 => cases hr
  unfold laws_szPost.f at hr
  split at hr
  case h_2 => cases hr
  rename_i hz
  exact ⟨_, _, hr, _, laws_szPost.dec, _, (laws_szPost.f_eq k _ _ _ _ _ _ _ laws_szPost.dec).trans (by rw [laws_szPost.kt_dec]; exact hz), fun rs os h ho => laws_szPost.inj _ _ _ _ _ _ _ h ho⟩
noncomputable def laws_szPostS.l0 {β : Type} (k : Nat) (v0_0 : List (List D)) (K : Int → Option β) (L0 : (Int × Int) → Option β) (v : Int × Int) : Option β :=
  match v with
  | (v0_1, v0_2) => bif (decide ((v0_2 : Int) < (v0_0.length : Int))) then (ZX v0_0 v0_2 fun c21 => Zd c21 fun d22 r23 => Zan d22 fun x24 => Zd r23 fun d25 r26 => dSl d25 fun x27 => Zd r26 fun d28 r29 => dSl d28 fun x30 => Zd r29 fun d31 r32 => ZM .i64 d31 fun x33 => Zd r32 fun d34 r35 => ZM .i64 d34 fun x36 => Zd r35 fun d37 r38 => ZM .i64 d37 fun x39 => Ze r38 (laws_szPost.f k x24 x27 x30 x33 x36 x39 v0_1 (fun y40 => bif (decide ((y40 : Int) < 0)) then (K (-1)) else (L0 (y40, IntKind.wrap .i64 (v0_2 + 1)))))) else (K v0_1)
noncomputable def laws_szPostS.g {β : Type} (k : Nat) (a0 : List (List D)) (a1 : Int) (K : Int → Option β) : Option β :=
  bif (decide (((IntKind.wrap .i64 (a1 - (a0.length : Int))) : Int) < 0)) then (K (-1)) else (Z4 (laws_szPostS.l0 k a0 K) k (IntKind.wrap .i64 (a1 - (a0.length : Int)), 0))
noncomputable def laws_szPostS.t (k : Nat) (a0 : List (List D)) (a1 : Int) : Option (Int) := laws_szPostS.g k a0 a1 (fun z0 => some z0)
noncomputable def laws_szPostS.f {β : Type} (k : Nat) (a0 : List (List D)) (a1 : Int) (K : Int → Option β) : Option β :=
  match laws_szPostS.t k a0 a1 with
  | some z0 => K z0
  | none => none
noncomputable def laws_szPostS.as (a0 : List (List D)) (a1 : Int) : List A := [.d (.sl a0), .d (.int .i64 a1)]
noncomputable def laws_szPostS.kt {β : Type} (a0 : List (List D)) (a1 : Int) (K0 : List (List C) → List Out → Option β) : Int → Option β := fun z0 => K0 [[.d (.int .i64 z0)]] []
noncomputable def laws_szPostS.e (k : Nat) : ZQ := { modes := [(.imm, 0), (.imm, 0)], rts := [3], al := false, run := fun {β} l K => match l with | [.d (.sl a0), .d (.int .i64 a1)] => laws_szPostS.f k a0 a1 (laws_szPostS.kt a0 a1 K) | _ => none }
noncomputable def laws_szPostS.E (k : Nat) : Env := fun g => bif g == 162 then some (laws_szPost.e k) else none
noncomputable def laws_szPostS.h : ZY := ⟨fun n => bif n == 5 then ⟨[(0, .asis), (1, .asis), (5, .asis)], []⟩ else ⟨[], []⟩, fun _ => none, false, []⟩
noncomputable def laws_szPostS.s0 (v0_0 : List (List D)) (v : Int × Int) : St :=
  match v with
  | (v0_1, v0_2) => ⟨[.d false (.sl v0_0), .d true (.int .i64 v0_1), .any, .any, .any, .d true (.int .i64 v0_2), .any, .any, .any, .any, .any, .any, .any, .any, .any, .any, .any, .any, .any, .any, .any, .any, .any, .any, .any, .any, .any], []⟩
noncomputable def laws_szPostS.b0 {β : Type} (k : Nat) : St → (Ex → St → Option β) → Option β := fun s K => den Try.prog (laws_szPostS.E k) laws_szPostS.h.H laws_szPostS.h.J k (Zad [1, 1, 1, 0, 1, 0, 0] (Zl Try.f72)) s K
noncomputable def laws_szPostS.c0 {β : Type} (k : Nat) (a0 : List (List D)) (a1 : Int) (K0 : List (List C) → List Out → Option β) : Ex → St → Option β := Zae Try.prog (laws_szPostS.E k) laws_szPostS.h k [1, 1, 1, 0, 1, 0] (Zl Try.f72) (Zak Try.prog Try.f72 laws_szPostS.h (laws_szPostS.as a0 a1) K0)
theorem laws_szPostS.l0_eq {β : Type} (k : Nat) (a0 : List (List D)) (a1 : Int) (K0 : List (List C) → List Out → Option β) (v0_0 : List (List D)) : ∀ (kk : Nat) (v : Int × Int), Zx (laws_szPostS.b0 k) (laws_szPostS.h.H 5) kk (laws_szPostS.s0 v0_0 v) (laws_szPostS.c0 k a0 a1 K0) = Z4 (laws_szPostS.l0 k v0_0 (laws_szPostS.kt a0 a1 K0)) kk v :=
  Z9 (laws_szPostS.s0 v0_0) _ (fun L0 v => by obtain ⟨v0_1, v0_2⟩ := v; kernel_rfl)
noncomputable def laws_szPostS.m {β : Type} (k : Nat) (a0 : List (List D)) (a1 : Int) (K0 : List (List C) → List Out → Option β) (F : ((List (List D)) → (Int × Int) → Option β)) : Option β :=
  bif (decide (((IntKind.wrap .i64 (a1 - (a0.length : Int))) : Int) < 0)) then ((laws_szPostS.kt a0 a1 K0) (-1)) else ((F) a0 (IntKind.wrap .i64 (a1 - (a0.length : Int)), 0))
theorem laws_szPostS.f_eq {β : Type} (k : Nat) (a0 : List (List D)) (a1 : Int) (K0 : List (List C) → List Out → Option β) : ZJ Try.prog (laws_szPostS.E k) laws_szPostS.h k Try.f72 (laws_szPostS.as a0 a1) K0 = laws_szPostS.g k a0 a1 (laws_szPostS.kt a0 a1 K0) := Eq.trans (b := (laws_szPostS.m k a0 a1 K0) (fun (v0_0 : List (List D)) (v : Int × Int) => Zx (laws_szPostS.b0 k) (laws_szPostS.h.H 5) k (laws_szPostS.s0 v0_0 v) (laws_szPostS.c0 k a0 a1 K0))) (by kernel_rfl) (Eq.trans (congrArg (laws_szPostS.m k a0 a1 K0) (funext fun v0_0 => funext fun v => laws_szPostS.l0_eq k a0 a1 K0 v0_0 k v)) (by kernel_rfl))
noncomputable def laws_szPostS.dec (rs : List (List C)) (os : List Out) : Option (Int) := Zd rs fun c1 r2 => Zd c1 fun x3 l4 => cD x3 fun d5 => ZM .i64 d5 fun w0 => Ze l4 <| Ze r2 <| Ze os (some w0)
theorem laws_szPostS.kt_dec (a0 : List (List D)) (a1 : Int) : laws_szPostS.kt a0 a1 laws_szPostS.dec = (fun z0 => some z0) := by kernel_rfl
theorem laws_szPostS.inj (a0 : List (List D)) (a1 : Int) {rs : List (List C)} {os : List Out} {z0 : Int} (h : laws_szPostS.dec rs os = some z0) (ho : Zo (laws_szPostS.as a0 a1) os) : rs = [[.d (.int .i64 z0)]] ∧ os = [] := by
  unfold laws_szPostS.dec at h
  obtain ⟨c1, r2, rfl, h1⟩ := Zb h
  obtain ⟨x3, l4, rfl, h2⟩ := Zb h1
  obtain ⟨d5, rfl, h3⟩ := Zt h2
  obtain ⟨w0, rfl, h4⟩ := ZA h3
  obtain ⟨rfl, h5⟩ := Zc h4
  obtain ⟨rfl, h6⟩ := Zc h5
  obtain ⟨rfl, h7⟩ := Zc h6
  obtain rfl := Option.some.inj h7
  exact ⟨rfl, rfl⟩
theorem laws_szPostS.ok (k : Nat) : Zv Try.prog 72 (laws_szPostS.e k) := by
  refine Zu mix tyok (fn := Try.f72) (c := Zl Try.f72) Try.func72 (by kernel_rfl) (h := laws_szPostS.h) (k := k) (E := laws_szPostS.E k) (Zk (laws_szPost.ok k) Zz) (by kernel_rfl) (by kernel_rfl) rfl (Zq Try.func72 (by kernel_rfl)) ?_
  intro β l K r hr
  simp only [laws_szPostS.e] at hr
  split at hr
  case h_2 => cases hr
  unfold laws_szPostS.f at hr
  split at hr
  case h_2 => cases hr
  rename_i hz
  exact ⟨_, _, hr, _, laws_szPostS.dec, _, (laws_szPostS.f_eq k _ _ laws_szPostS.dec).trans (by rw [laws_szPostS.kt_dec]; exact hz), fun rs os h ho => laws_szPostS.inj _ _ h ho⟩
noncomputable def laws_szHold.g {β : Type} (k : Nat) (a0_0 : Int) (a0_1 : ByteArray) (a0_2 : Int) (a0_3 : Int) (a0_4 : Int) (a1 : Int) (K : Int → Option β) : Option β :=
  bif (decide (((IntKind.wrap .i64 (a1 - (a0_1.size : Int))) : Int) < 0)) then (K (-1)) else (K (IntKind.wrap .i64 (a1 - (a0_1.size : Int))))
noncomputable def laws_szHold.t (k : Nat) (a0_0 : Int) (a0_1 : ByteArray) (a0_2 : Int) (a0_3 : Int) (a0_4 : Int) (a1 : Int) : Option (Int) := laws_szHold.g k a0_0 a0_1 a0_2 a0_3 a0_4 a1 (fun z0 => some z0)
noncomputable def laws_szHold.f {β : Type} (k : Nat) (a0_0 : Int) (a0_1 : ByteArray) (a0_2 : Int) (a0_3 : Int) (a0_4 : Int) (a1 : Int) (K : Int → Option β) : Option β :=
  match laws_szHold.t k a0_0 a0_1 a0_2 a0_3 a0_4 a1 with
  | some z0 => K z0
  | none => none
noncomputable def laws_szHold.as (a0_0 : Int) (a0_1 : ByteArray) (a0_2 : Int) (a0_3 : Int) (a0_4 : Int) (a1 : Int) : List A := [.agg [.int .i64 a0_0, .str a0_1, .int .i64 a0_2, .int .i64 a0_3, .int .i64 a0_4], .d (.int .i64 a1)]
noncomputable def laws_szHold.kt {β : Type} (a0_0 : Int) (a0_1 : ByteArray) (a0_2 : Int) (a0_3 : Int) (a0_4 : Int) (a1 : Int) (K0 : List (List C) → List Out → Option β) : Int → Option β := fun z0 => K0 [[.d (.int .i64 z0)]] []
noncomputable def laws_szHold.e (k : Nat) : ZQ := { modes := [(.imm, 0), (.imm, 0)], rts := [3], al := false, run := fun {β} l K => match l with | [.agg [.int .i64 a0_0, .str a0_1, .int .i64 a0_2, .int .i64 a0_3, .int .i64 a0_4], .d (.int .i64 a1)] => laws_szHold.f k a0_0 a0_1 a0_2 a0_3 a0_4 a1 (laws_szHold.kt a0_0 a0_1 a0_2 a0_3 a0_4 a1 K) | _ => none }
noncomputable def laws_szHold.E (k : Nat) : Env := fun g => none
noncomputable def laws_szHold.h : ZY := ⟨fun n => ⟨[], []⟩, fun _ => none, false, []⟩
theorem laws_szHold.f_eq {β : Type} (k : Nat) (a0_0 : Int) (a0_1 : ByteArray) (a0_2 : Int) (a0_3 : Int) (a0_4 : Int) (a1 : Int) (K0 : List (List C) → List Out → Option β) : ZJ Try.prog (laws_szHold.E k) laws_szHold.h k Try.f163 (laws_szHold.as a0_0 a0_1 a0_2 a0_3 a0_4 a1) K0 = laws_szHold.g k a0_0 a0_1 a0_2 a0_3 a0_4 a1 (laws_szHold.kt a0_0 a0_1 a0_2 a0_3 a0_4 a1 K0) := by kernel_rfl
noncomputable def laws_szHold.dec (rs : List (List C)) (os : List Out) : Option (Int) := Zd rs fun c1 r2 => Zd c1 fun x3 l4 => cD x3 fun d5 => ZM .i64 d5 fun w0 => Ze l4 <| Ze r2 <| Ze os (some w0)
theorem laws_szHold.kt_dec (a0_0 : Int) (a0_1 : ByteArray) (a0_2 : Int) (a0_3 : Int) (a0_4 : Int) (a1 : Int) : laws_szHold.kt a0_0 a0_1 a0_2 a0_3 a0_4 a1 laws_szHold.dec = (fun z0 => some z0) := by kernel_rfl
theorem laws_szHold.inj (a0_0 : Int) (a0_1 : ByteArray) (a0_2 : Int) (a0_3 : Int) (a0_4 : Int) (a1 : Int) {rs : List (List C)} {os : List Out} {z0 : Int} (h : laws_szHold.dec rs os = some z0) (ho : Zo (laws_szHold.as a0_0 a0_1 a0_2 a0_3 a0_4 a1) os) : rs = [[.d (.int .i64 z0)]] ∧ os = [] := by
  unfold laws_szHold.dec at h
  obtain ⟨c1, r2, rfl, h1⟩ := Zb h
  obtain ⟨x3, l4, rfl, h2⟩ := Zb h1
  obtain ⟨d5, rfl, h3⟩ := Zt h2
  obtain ⟨w0, rfl, h4⟩ := ZA h3
  obtain ⟨rfl, h5⟩ := Zc h4
  obtain ⟨rfl, h6⟩ := Zc h5
  obtain ⟨rfl, h7⟩ := Zc h6
  obtain rfl := Option.some.inj h7
  exact ⟨rfl, rfl⟩
theorem laws_szHold.ok (k : Nat) : Zv Try.prog 163 (laws_szHold.e k) := by
  refine Zu mix tyok (fn := Try.f163) (c := Zl Try.f163) Try.func163 (by kernel_rfl) (h := laws_szHold.h) (k := k) (E := laws_szHold.E k) Zz (by kernel_rfl) (by kernel_rfl) rfl (Zq Try.func163 (by kernel_rfl)) ?_
  intro β l K r hr
  simp only [laws_szHold.e] at hr
  split at hr
  case h_2 => cases hr
  unfold laws_szHold.f at hr
  split at hr
  case h_2 => cases hr
  rename_i hz
  exact ⟨_, _, hr, _, laws_szHold.dec, _, (laws_szHold.f_eq k _ _ _ _ _ _ laws_szHold.dec).trans (by rw [laws_szHold.kt_dec]; exact hz), fun rs os h ho => laws_szHold.inj _ _ _ _ _ _ h ho⟩
noncomputable def laws_szHoldS.l0 {β : Type} (k : Nat) (v0_0 : List (List D)) (K : Int → Option β) (L0 : (Int × Int) → Option β) (v : Int × Int) : Option β :=
  match v with
  | (v0_1, v0_2) => bif (decide ((v0_2 : Int) < (v0_0.length : Int))) then (ZX v0_0 v0_2 fun c18 => Zd c18 fun d19 r20 => ZM .i64 d19 fun x21 => Zd r20 fun d22 r23 => Zan d22 fun x24 => Zd r23 fun d25 r26 => ZM .i64 d25 fun x27 => Zd r26 fun d28 r29 => ZM .i64 d28 fun x30 => Zd r29 fun d31 r32 => ZM .i64 d31 fun x33 => Ze r32 (laws_szHold.f k x21 x24 x27 x30 x33 v0_1 (fun y34 => bif (decide ((y34 : Int) < 0)) then (K (-1)) else (L0 (y34, IntKind.wrap .i64 (v0_2 + 1)))))) else (K v0_1)
noncomputable def laws_szHoldS.g {β : Type} (k : Nat) (a0 : List (List D)) (a1 : Int) (K : Int → Option β) : Option β :=
  bif (decide (((IntKind.wrap .i64 (a1 - (a0.length : Int))) : Int) < 0)) then (K (-1)) else (Z4 (laws_szHoldS.l0 k a0 K) k (IntKind.wrap .i64 (a1 - (a0.length : Int)), 0))
noncomputable def laws_szHoldS.t (k : Nat) (a0 : List (List D)) (a1 : Int) : Option (Int) := laws_szHoldS.g k a0 a1 (fun z0 => some z0)
noncomputable def laws_szHoldS.f {β : Type} (k : Nat) (a0 : List (List D)) (a1 : Int) (K : Int → Option β) : Option β :=
  match laws_szHoldS.t k a0 a1 with
  | some z0 => K z0
  | none => none
noncomputable def laws_szHoldS.as (a0 : List (List D)) (a1 : Int) : List A := [.d (.sl a0), .d (.int .i64 a1)]
noncomputable def laws_szHoldS.kt {β : Type} (a0 : List (List D)) (a1 : Int) (K0 : List (List C) → List Out → Option β) : Int → Option β := fun z0 => K0 [[.d (.int .i64 z0)]] []
noncomputable def laws_szHoldS.e (k : Nat) : ZQ := { modes := [(.imm, 0), (.imm, 0)], rts := [3], al := false, run := fun {β} l K => match l with | [.d (.sl a0), .d (.int .i64 a1)] => laws_szHoldS.f k a0 a1 (laws_szHoldS.kt a0 a1 K) | _ => none }
noncomputable def laws_szHoldS.E (k : Nat) : Env := fun g => bif g == 163 then some (laws_szHold.e k) else none
noncomputable def laws_szHoldS.h : ZY := ⟨fun n => bif n == 5 then ⟨[(0, .asis), (1, .asis), (5, .asis)], []⟩ else ⟨[], []⟩, fun _ => none, false, []⟩
noncomputable def laws_szHoldS.s0 (v0_0 : List (List D)) (v : Int × Int) : St :=
  match v with
  | (v0_1, v0_2) => ⟨[.d false (.sl v0_0), .d true (.int .i64 v0_1), .any, .any, .any, .d true (.int .i64 v0_2), .any, .any, .any, .any, .any, .any, .any, .any, .any, .any, .any, .any, .any, .any, .any, .any, .any, .any, .any, .any, .any], []⟩
noncomputable def laws_szHoldS.b0 {β : Type} (k : Nat) : St → (Ex → St → Option β) → Option β := fun s K => den Try.prog (laws_szHoldS.E k) laws_szHoldS.h.H laws_szHoldS.h.J k (Zad [1, 1, 1, 0, 1, 0, 0] (Zl Try.f73)) s K
noncomputable def laws_szHoldS.c0 {β : Type} (k : Nat) (a0 : List (List D)) (a1 : Int) (K0 : List (List C) → List Out → Option β) : Ex → St → Option β := Zae Try.prog (laws_szHoldS.E k) laws_szHoldS.h k [1, 1, 1, 0, 1, 0] (Zl Try.f73) (Zak Try.prog Try.f73 laws_szHoldS.h (laws_szHoldS.as a0 a1) K0)
theorem laws_szHoldS.l0_eq {β : Type} (k : Nat) (a0 : List (List D)) (a1 : Int) (K0 : List (List C) → List Out → Option β) (v0_0 : List (List D)) : ∀ (kk : Nat) (v : Int × Int), Zx (laws_szHoldS.b0 k) (laws_szHoldS.h.H 5) kk (laws_szHoldS.s0 v0_0 v) (laws_szHoldS.c0 k a0 a1 K0) = Z4 (laws_szHoldS.l0 k v0_0 (laws_szHoldS.kt a0 a1 K0)) kk v :=
  Z9 (laws_szHoldS.s0 v0_0) _ (fun L0 v => by obtain ⟨v0_1, v0_2⟩ := v; kernel_rfl)
noncomputable def laws_szHoldS.m {β : Type} (k : Nat) (a0 : List (List D)) (a1 : Int) (K0 : List (List C) → List Out → Option β) (F : ((List (List D)) → (Int × Int) → Option β)) : Option β :=
  bif (decide (((IntKind.wrap .i64 (a1 - (a0.length : Int))) : Int) < 0)) then ((laws_szHoldS.kt a0 a1 K0) (-1)) else ((F) a0 (IntKind.wrap .i64 (a1 - (a0.length : Int)), 0))
theorem laws_szHoldS.f_eq {β : Type} (k : Nat) (a0 : List (List D)) (a1 : Int) (K0 : List (List C) → List Out → Option β) : ZJ Try.prog (laws_szHoldS.E k) laws_szHoldS.h k Try.f73 (laws_szHoldS.as a0 a1) K0 = laws_szHoldS.g k a0 a1 (laws_szHoldS.kt a0 a1 K0) := Eq.trans (b := (laws_szHoldS.m k a0 a1 K0) (fun (v0_0 : List (List D)) (v : Int × Int) => Zx (laws_szHoldS.b0 k) (laws_szHoldS.h.H 5) k (laws_szHoldS.s0 v0_0 v) (laws_szHoldS.c0 k a0 a1 K0))) (by kernel_rfl) (Eq.trans (congrArg (laws_szHoldS.m k a0 a1 K0) (funext fun v0_0 => funext fun v => laws_szHoldS.l0_eq k a0 a1 K0 v0_0 k v)) (by kernel_rfl))
noncomputable def laws_szHoldS.dec (rs : List (List C)) (os : List Out) : Option (Int) := Zd rs fun c1 r2 => Zd c1 fun x3 l4 => cD x3 fun d5 => ZM .i64 d5 fun w0 => Ze l4 <| Ze r2 <| Ze os (some w0)
theorem laws_szHoldS.kt_dec (a0 : List (List D)) (a1 : Int) : laws_szHoldS.kt a0 a1 laws_szHoldS.dec = (fun z0 => some z0) := by kernel_rfl
theorem laws_szHoldS.inj (a0 : List (List D)) (a1 : Int) {rs : List (List C)} {os : List Out} {z0 : Int} (h : laws_szHoldS.dec rs os = some z0) (ho : Zo (laws_szHoldS.as a0 a1) os) : rs = [[.d (.int .i64 z0)]] ∧ os = [] := by
  unfold laws_szHoldS.dec at h
  obtain ⟨c1, r2, rfl, h1⟩ := Zb h
  obtain ⟨x3, l4, rfl, h2⟩ := Zb h1
  obtain ⟨d5, rfl, h3⟩ := Zt h2
  obtain ⟨w0, rfl, h4⟩ := ZA h3
  obtain ⟨rfl, h5⟩ := Zc h4
  obtain ⟨rfl, h6⟩ := Zc h5
  obtain ⟨rfl, h7⟩ := Zc h6
  obtain rfl := Option.some.inj h7
  exact ⟨rfl, rfl⟩
theorem laws_szHoldS.ok (k : Nat) : Zv Try.prog 73 (laws_szHoldS.e k) := by
  refine Zu mix tyok (fn := Try.f73) (c := Zl Try.f73) Try.func73 (by kernel_rfl) (h := laws_szHoldS.h) (k := k) (E := laws_szHoldS.E k) (Zk (laws_szHold.ok k) Zz) (by kernel_rfl) (by kernel_rfl) rfl (Zq Try.func73 (by kernel_rfl)) ?_
  intro β l K r hr
  simp only [laws_szHoldS.e] at hr
  split at hr
  case h_2 => cases hr
  unfold laws_szHoldS.f at hr
  split at hr
  case h_2 => cases hr
  rename_i hz
  exact ⟨_, _, hr, _, laws_szHoldS.dec, _, (laws_szHoldS.f_eq k _ _ laws_szHoldS.dec).trans (by rw [laws_szHoldS.kt_dec]; exact hz), fun rs os h ho => laws_szHoldS.inj _ _ h ho⟩
noncomputable def laws_szHub.g {β : Type} (k : Nat) (a0_0 : Int) (a0_1 : Int) (a0_2 : Int) (a0_3 : List (List D)) (a0_4 : List (List D)) (a0_5 : List (List D)) (a0_6 : List (List D)) (a1 : Int) (K : Int → Option β) : Option β :=
  laws_szJobS.f k a0_3 a1 (fun y100 => bif (decide ((y100 : Int) < 0)) then (K (-1)) else (laws_szPostS.f k a0_4 y100 (fun y101 => bif (decide ((y101 : Int) < 0)) then (K (-1)) else (laws_szHoldS.f k a0_5 y101 (fun y102 => bif (decide ((y102 : Int) < 0)) then (K (-1)) else (laws_szStringS.f k a0_6 y102 (fun y103 => bif (decide ((y103 : Int) < 0)) then (K (-1)) else (K y103))))))))
noncomputable def laws_szHub.t (k : Nat) (a0_0 : Int) (a0_1 : Int) (a0_2 : Int) (a0_3 : List (List D)) (a0_4 : List (List D)) (a0_5 : List (List D)) (a0_6 : List (List D)) (a1 : Int) : Option (Int) := laws_szHub.g k a0_0 a0_1 a0_2 a0_3 a0_4 a0_5 a0_6 a1 (fun z0 => some z0)
noncomputable def laws_szHub.f {β : Type} (k : Nat) (a0_0 : Int) (a0_1 : Int) (a0_2 : Int) (a0_3 : List (List D)) (a0_4 : List (List D)) (a0_5 : List (List D)) (a0_6 : List (List D)) (a1 : Int) (K : Int → Option β) : Option β :=
  match laws_szHub.t k a0_0 a0_1 a0_2 a0_3 a0_4 a0_5 a0_6 a1 with
  | some z0 => K z0
  | none => none
noncomputable def laws_szHub.as (a0_0 : Int) (a0_1 : Int) (a0_2 : Int) (a0_3 : List (List D)) (a0_4 : List (List D)) (a0_5 : List (List D)) (a0_6 : List (List D)) (a1 : Int) : List A := [.agg [.int .i64 a0_0, .int .i64 a0_1, .int .i64 a0_2, .sl a0_3, .sl a0_4, .sl a0_5, .sl a0_6], .d (.int .i64 a1)]
noncomputable def laws_szHub.kt {β : Type} (a0_0 : Int) (a0_1 : Int) (a0_2 : Int) (a0_3 : List (List D)) (a0_4 : List (List D)) (a0_5 : List (List D)) (a0_6 : List (List D)) (a1 : Int) (K0 : List (List C) → List Out → Option β) : Int → Option β := fun z0 => K0 [[.d (.int .i64 z0)]] []
noncomputable def laws_szHub.e (k : Nat) : ZQ := { modes := [(.imm, 0), (.imm, 0)], rts := [3], al := false, run := fun {β} l K => match l with | [.agg [.int .i64 a0_0, .int .i64 a0_1, .int .i64 a0_2, .sl a0_3, .sl a0_4, .sl a0_5, .sl a0_6], .d (.int .i64 a1)] => laws_szHub.f k a0_0 a0_1 a0_2 a0_3 a0_4 a0_5 a0_6 a1 (laws_szHub.kt a0_0 a0_1 a0_2 a0_3 a0_4 a0_5 a0_6 a1 K) | _ => none }
noncomputable def laws_szHub.E (k : Nat) : Env := fun g => bif g == 71 then some (laws_szJobS.e k) else bif g == 72 then some (laws_szPostS.e k) else bif g == 73 then some (laws_szHoldS.e k) else bif g == 74 then some (laws_szStringS.e k) else none
noncomputable def laws_szHub.h : ZY := ⟨fun n => ⟨[], []⟩, fun _ => none, false, []⟩
theorem laws_szHub.f_eq {β : Type} (k : Nat) (a0_0 : Int) (a0_1 : Int) (a0_2 : Int) (a0_3 : List (List D)) (a0_4 : List (List D)) (a0_5 : List (List D)) (a0_6 : List (List D)) (a1 : Int) (K0 : List (List C) → List Out → Option β) : ZJ Try.prog (laws_szHub.E k) laws_szHub.h k Try.f15 (laws_szHub.as a0_0 a0_1 a0_2 a0_3 a0_4 a0_5 a0_6 a1) K0 = laws_szHub.g k a0_0 a0_1 a0_2 a0_3 a0_4 a0_5 a0_6 a1 (laws_szHub.kt a0_0 a0_1 a0_2 a0_3 a0_4 a0_5 a0_6 a1 K0) := by kernel_rfl
noncomputable def laws_szHub.dec (rs : List (List C)) (os : List Out) : Option (Int) := Zd rs fun c1 r2 => Zd c1 fun x3 l4 => cD x3 fun d5 => ZM .i64 d5 fun w0 => Ze l4 <| Ze r2 <| Ze os (some w0)
theorem laws_szHub.kt_dec (a0_0 : Int) (a0_1 : Int) (a0_2 : Int) (a0_3 : List (List D)) (a0_4 : List (List D)) (a0_5 : List (List D)) (a0_6 : List (List D)) (a1 : Int) : laws_szHub.kt a0_0 a0_1 a0_2 a0_3 a0_4 a0_5 a0_6 a1 laws_szHub.dec = (fun z0 => some z0) := by kernel_rfl
theorem laws_szHub.inj (a0_0 : Int) (a0_1 : Int) (a0_2 : Int) (a0_3 : List (List D)) (a0_4 : List (List D)) (a0_5 : List (List D)) (a0_6 : List (List D)) (a1 : Int) {rs : List (List C)} {os : List Out} {z0 : Int} (h : laws_szHub.dec rs os = some z0) (ho : Zo (laws_szHub.as a0_0 a0_1 a0_2 a0_3 a0_4 a0_5 a0_6 a1) os) : rs = [[.d (.int .i64 z0)]] ∧ os = [] := by
  unfold laws_szHub.dec at h
  obtain ⟨c1, r2, rfl, h1⟩ := Zb h
  obtain ⟨x3, l4, rfl, h2⟩ := Zb h1
  obtain ⟨d5, rfl, h3⟩ := Zt h2
  obtain ⟨w0, rfl, h4⟩ := ZA h3
  obtain ⟨rfl, h5⟩ := Zc h4
  obtain ⟨rfl, h6⟩ := Zc h5
  obtain ⟨rfl, h7⟩ := Zc h6
  obtain rfl := Option.some.inj h7
  exact ⟨rfl, rfl⟩
theorem laws_szHub.ok (k : Nat) : Zv Try.prog 15 (laws_szHub.e k) := by
  refine Zu mix tyok (fn := Try.f15) (c := Zl Try.f15) Try.func15 (by kernel_rfl) (h := laws_szHub.h) (k := k) (E := laws_szHub.E k) (Zk (laws_szJobS.ok k) (Zk (laws_szPostS.ok k) (Zk (laws_szHoldS.ok k) (Zk (laws_szStringS.ok k) Zz)))) (by kernel_rfl) (by kernel_rfl) rfl (Zq Try.func15 (by kernel_rfl)) ?_
  intro β l K r hr
  simp only [laws_szHub.e] at hr
  split at hr
  case h_2 => cases hr
  unfold laws_szHub.f at hr
  split at hr
  case h_2 => cases hr
  rename_i hz
  exact ⟨_, _, hr, _, laws_szHub.dec, _, (laws_szHub.f_eq k _ _ _ _ _ _ _ _ laws_szHub.dec).trans (by rw [laws_szHub.kt_dec]; exact hz), fun rs os h ho => laws_szHub.inj _ _ _ _ _ _ _ _ h ho⟩
noncomputable def laws_toStringS.l0 {β : Type} (k : Nat) (v0_0 : List (List D)) (K : (List (List C)) → Option β) (L0 : (Int × (List (List C))) → Option β) (v : Int × (List (List C))) : Option β :=
  match v with
  | (v0_1, v0_2) => bif (decide ((v0_1 : Int) < (v0_0.length : Int))) then (ZX v0_0 v0_1 fun c5 => Zd c5 fun d6 r7 => Zan d6 fun x8 => Ze r7 (ZH ((0 : Int) ≤ v0_1 ∧ v0_1 < (v0_2.length : Int)) (ZH (Int.toNat v0_1 < v0_2.length) (L0 (IntKind.wrap .i64 (v0_1 + 1), v0_2.modify (Int.toNat v0_1) fun c => Z1 c 0 [.d (.str x8)]))))) else (K v0_2)
noncomputable def laws_toStringS.g {β : Type} (k : Nat) (a0 : List (List D)) (K : (List (List C)) → Option β) : Option β :=
  ZH ((0 : Int) ≤ (a0.length : Int) ∧ (a0.length : Int) ≤ (Z6 : Int) ∧ (a0.length : Int) ≤ (a0.length : Int) ∧ (a0.length : Int) ≤ (a0.length : Int)) (Z4 (laws_toStringS.l0 k a0 K) k (0, List.replicate (Int.toNat (a0.length : Int)) ([.d (.str (⟨#[]⟩ : ByteArray))] : List C)))
noncomputable def laws_toStringS.t (k : Nat) (a0 : List (List D)) : Option ((List (List C))) := laws_toStringS.g k a0 (fun z0 => some z0)
noncomputable def laws_toStringS.f {β : Type} (k : Nat) (a0 : List (List D)) (K : (List (List C)) → Option β) : Option β :=
  match laws_toStringS.t k a0 with
  | some z0 => K z0
  | none => none
noncomputable def laws_toStringS.as (a0 : List (List D)) : List A := [.d (.sl a0)]
noncomputable def laws_toStringS.kt {β : Type} (a0 : List (List D)) (K0 : List (List C) → List Out → Option β) : (List (List C)) → Option β := fun z0 => K0 [[.own z0]] []
noncomputable def laws_toStringS.e (k : Nat) : ZQ := { modes := [(.imm, 0)], rts := [25], al := false, run := fun {β} l K => match l with | [.d (.sl a0)] => laws_toStringS.f k a0 (laws_toStringS.kt a0 K) | _ => none }
noncomputable def laws_toStringS.E (k : Nat) : Env := fun g => none
noncomputable def laws_toStringS.h : ZY := ⟨fun n => bif n == 3 then ⟨[(0, .asis), (3, .asis), (4, .asis)], []⟩ else ⟨[], []⟩, fun _ => none, false, []⟩
noncomputable def laws_toStringS.s0 (v0_0 : List (List D)) (v : Int × (List (List C))) : St :=
  match v with
  | (v0_1, v0_2) => ⟨[.d false (.sl v0_0), .any, .any, .row 0, .d true (.int .i64 v0_1), .any, .any, .any, .any, .any, .any, .any, .any, .any, .any, .any, .any, .any, .any, .any, .any, .any], [.row none true 25 v0_2]⟩
noncomputable def laws_toStringS.b0 {β : Type} (k : Nat) : St → (Ex → St → Option β) → Option β := fun s K => den Try.prog (laws_toStringS.E k) laws_toStringS.h.H laws_toStringS.h.J k (Zad [1, 1, 0, 1, 0, 0] (Zl Try.f78)) s K
noncomputable def laws_toStringS.c0 {β : Type} (k : Nat) (a0 : List (List D)) (K0 : List (List C) → List Out → Option β) : Ex → St → Option β := Zae Try.prog (laws_toStringS.E k) laws_toStringS.h k [1, 1, 0, 1, 0] (Zl Try.f78) (Zak Try.prog Try.f78 laws_toStringS.h (laws_toStringS.as a0) K0)
theorem laws_toStringS.l0_eq {β : Type} (k : Nat) (a0 : List (List D)) (K0 : List (List C) → List Out → Option β) (v0_0 : List (List D)) : ∀ (kk : Nat) (v : Int × (List (List C))), Zx (laws_toStringS.b0 k) (laws_toStringS.h.H 3) kk (laws_toStringS.s0 v0_0 v) (laws_toStringS.c0 k a0 K0) = Z4 (laws_toStringS.l0 k v0_0 (laws_toStringS.kt a0 K0)) kk v :=
  Z9 (laws_toStringS.s0 v0_0) _ (fun L0 v => by obtain ⟨v0_1, v0_2⟩ := v; kernel_rfl)
noncomputable def laws_toStringS.m {β : Type} (k : Nat) (a0 : List (List D)) (K0 : List (List C) → List Out → Option β) (F : ((List (List D)) → (Int × (List (List C))) → Option β)) : Option β :=
  ZH ((0 : Int) ≤ (a0.length : Int) ∧ (a0.length : Int) ≤ (Z6 : Int) ∧ (a0.length : Int) ≤ (a0.length : Int) ∧ (a0.length : Int) ≤ (a0.length : Int)) ((F) a0 (0, List.replicate (Int.toNat (a0.length : Int)) ([.d (.str (⟨#[]⟩ : ByteArray))] : List C)))
theorem laws_toStringS.f_eq {β : Type} (k : Nat) (a0 : List (List D)) (K0 : List (List C) → List Out → Option β) : ZJ Try.prog (laws_toStringS.E k) laws_toStringS.h k Try.f78 (laws_toStringS.as a0) K0 = laws_toStringS.g k a0 (laws_toStringS.kt a0 K0) := Eq.trans (b := (laws_toStringS.m k a0 K0) (fun (v0_0 : List (List D)) (v : Int × (List (List C))) => Zx (laws_toStringS.b0 k) (laws_toStringS.h.H 3) k (laws_toStringS.s0 v0_0 v) (laws_toStringS.c0 k a0 K0))) (by kernel_rfl) (Eq.trans (congrArg (laws_toStringS.m k a0 K0) (funext fun v0_0 => funext fun v => laws_toStringS.l0_eq k a0 K0 v0_0 k v)) (by kernel_rfl))
noncomputable def laws_toStringS.dec (rs : List (List C)) (os : List Out) : Option ((List (List C))) := Zd rs fun c1 r2 => Zd c1 fun x3 l4 => ZaU x3 fun w0 => Ze l4 <| Ze r2 <| Ze os (some w0)
theorem laws_toStringS.kt_dec (a0 : List (List D)) : laws_toStringS.kt a0 laws_toStringS.dec = (fun z0 => some z0) := by kernel_rfl
theorem laws_toStringS.inj (a0 : List (List D)) {rs : List (List C)} {os : List Out} {z0 : List (List C)} (h : laws_toStringS.dec rs os = some z0) (ho : Zo (laws_toStringS.as a0) os) : rs = [[.own z0]] ∧ os = [] := by
  unfold laws_toStringS.dec at h
  obtain ⟨c1, r2, rfl, h1⟩ := Zb h
  obtain ⟨x3, l4, rfl, h2⟩ := Zb h1
  obtain ⟨w0, rfl, h3⟩ := ZN h2
  obtain ⟨rfl, h4⟩ := Zc h3
  obtain ⟨rfl, h5⟩ := Zc h4
  obtain ⟨rfl, h6⟩ := Zc h5
  obtain rfl := Option.some.inj h6
  exact ⟨rfl, rfl⟩
theorem laws_toStringS.ok (k : Nat) : Zv Try.prog 78 (laws_toStringS.e k) := by
  refine Zu mix tyok (fn := Try.f78) (c := Zl Try.f78) Try.func78 (by kernel_rfl) (h := laws_toStringS.h) (k := k) (E := laws_toStringS.E k) Zz (by kernel_rfl) (by kernel_rfl) rfl (Zq Try.func78 (by kernel_rfl)) ?_
  intro β l K r hr
  simp only [laws_toStringS.e] at hr
  split at hr
  case h_2 => cases hr
  unfold laws_toStringS.f at hr
  split at hr
  case h_2 => cases hr
  rename_i hz
  exact ⟨_, _, hr, _, laws_toStringS.dec, _, (laws_toStringS.f_eq k _ laws_toStringS.dec).trans (by rw [laws_toStringS.kt_dec]; exact hz), fun rs os h ho => laws_toStringS.inj _ h ho⟩
noncomputable def laws_toTerm.g {β : Type} (k : Nat) (a0_0 : Int) (a0_1 : ByteArray) (a0_2 : List (List D)) (K : Int → ByteArray → (List (List C)) → Option β) : Option β :=
  laws_toStringS.f k a0_2 (fun y9 => K a0_0 a0_1 y9)
noncomputable def laws_toTerm.t (k : Nat) (a0_0 : Int) (a0_1 : ByteArray) (a0_2 : List (List D)) : Option (Int × ByteArray × (List (List C))) := laws_toTerm.g k a0_0 a0_1 a0_2 (fun z0 z1 z2 => some (z0, z1, z2))
noncomputable def laws_toTerm.f {β : Type} (k : Nat) (a0_0 : Int) (a0_1 : ByteArray) (a0_2 : List (List D)) (K : Int → ByteArray → (List (List C)) → Option β) : Option β :=
  match laws_toTerm.t k a0_0 a0_1 a0_2 with
  | some (z0, z1, z2) => K z0 z1 z2
  | none => none
noncomputable def laws_toTerm.as (a0_0 : Int) (a0_1 : ByteArray) (a0_2 : List (List D)) : List A := [.agg [.int .i64 a0_0, .str a0_1, .sl a0_2]]
noncomputable def laws_toTerm.kt {β : Type} (a0_0 : Int) (a0_1 : ByteArray) (a0_2 : List (List D)) (K0 : List (List C) → List Out → Option β) : Int → ByteArray → (List (List C)) → Option β := fun z0 z1 z2 => K0 [[.d (.int .i64 z0), .d (.str z1), .own z2]] []
noncomputable def laws_toTerm.e (k : Nat) : ZQ := { modes := [(.imm, 0)], rts := [322], al := false, run := fun {β} l K => match l with | [.agg [.int .i64 a0_0, .str a0_1, .sl a0_2]] => laws_toTerm.f k a0_0 a0_1 a0_2 (laws_toTerm.kt a0_0 a0_1 a0_2 K) | _ => none }
noncomputable def laws_toTerm.E (k : Nat) : Env := fun g => bif g == 78 then some (laws_toStringS.e k) else none
noncomputable def laws_toTerm.h : ZY := ⟨fun n => ⟨[], []⟩, fun _ => none, false, []⟩
theorem laws_toTerm.f_eq {β : Type} (k : Nat) (a0_0 : Int) (a0_1 : ByteArray) (a0_2 : List (List D)) (K0 : List (List C) → List Out → Option β) : ZJ Try.prog (laws_toTerm.E k) laws_toTerm.h k Try.f257 (laws_toTerm.as a0_0 a0_1 a0_2) K0 = laws_toTerm.g k a0_0 a0_1 a0_2 (laws_toTerm.kt a0_0 a0_1 a0_2 K0) := by kernel_rfl
noncomputable def laws_toTerm.dec (rs : List (List C)) (os : List Out) : Option (Int × ByteArray × (List (List C))) := Zd rs fun c1 r2 => Zd c1 fun x3 l4 => cD x3 fun d5 => ZM .i64 d5 fun w0 => Zd l4 fun x6 l7 => cD x6 fun d8 => Zan d8 fun w1 => Zd l7 fun x9 l10 => ZaU x9 fun w2 => Ze l10 <| Ze r2 <| Ze os (some (w0, w1, w2))
theorem laws_toTerm.kt_dec (a0_0 : Int) (a0_1 : ByteArray) (a0_2 : List (List D)) : laws_toTerm.kt a0_0 a0_1 a0_2 laws_toTerm.dec = (fun z0 z1 z2 => some (z0, z1, z2)) := by kernel_rfl
theorem laws_toTerm.inj (a0_0 : Int) (a0_1 : ByteArray) (a0_2 : List (List D)) {rs : List (List C)} {os : List Out} {z0 : Int} {z1 : ByteArray} {z2 : List (List C)} (h : laws_toTerm.dec rs os = some (z0, z1, z2)) (ho : Zo (laws_toTerm.as a0_0 a0_1 a0_2) os) : rs = [[.d (.int .i64 z0), .d (.str z1), .own z2]] ∧ os = [] := by
  unfold laws_toTerm.dec at h
  obtain ⟨c1, r2, rfl, h1⟩ := Zb h
  obtain ⟨x3, l4, rfl, h2⟩ := Zb h1
  obtain ⟨d5, rfl, h3⟩ := Zt h2
  obtain ⟨w0, rfl, h4⟩ := ZA h3
  obtain ⟨x6, l7, rfl, h5⟩ := Zb h4
  obtain ⟨d8, rfl, h6⟩ := Zt h5
  obtain ⟨w1, rfl, h7⟩ := ZaL h6
  obtain ⟨x9, l10, rfl, h8⟩ := Zb h7
  obtain ⟨w2, rfl, h9⟩ := ZN h8
  obtain ⟨rfl, h10⟩ := Zc h9
  obtain ⟨rfl, h11⟩ := Zc h10
  obtain ⟨rfl, h12⟩ := Zc h11
  simp only [Option.some.injEq, Prod.mk.injEq] at h12
  obtain ⟨rfl, rfl, rfl⟩ := h12
  exact ⟨rfl, rfl⟩
theorem laws_toTerm.ok (k : Nat) : Zv Try.prog 257 (laws_toTerm.e k) := by
  refine Zu mix tyok (fn := Try.f257) (c := Zl Try.f257) Try.func257 (by kernel_rfl) (h := laws_toTerm.h) (k := k) (E := laws_toTerm.E k) (Zk (laws_toStringS.ok k) Zz) (by kernel_rfl) (by kernel_rfl) rfl (Zq Try.func257 (by kernel_rfl)) ?_
  intro β l K r hr
  simp only [laws_toTerm.e] at hr
  split at hr
  case h_2 => cases hr
  unfold laws_toTerm.f at hr
  split at hr
  case h_2 => cases hr
  rename_i hz
  exact ⟨_, _, hr, _, laws_toTerm.dec, _, (laws_toTerm.f_eq k _ _ _ laws_toTerm.dec).trans (by rw [laws_toTerm.kt_dec]; exact hz), fun rs os h ho => laws_toTerm.inj _ _ _ h ho⟩
noncomputable def laws_toTermS.l0 {β : Type} (k : Nat) (v0_0 : List (List D)) (K : (List (List C)) → Option β) (L0 : (Int × (List (List C))) → Option β) (v : Int × (List (List C))) : Option β :=
  match v with
  | (v0_1, v0_2) => bif (decide ((v0_1 : Int) < (v0_0.length : Int))) then (ZX v0_0 v0_1 fun c14 => Zd c14 fun d15 r16 => ZM .i64 d15 fun x17 => Zd r16 fun d18 r19 => Zan d18 fun x20 => Zd r19 fun d21 r22 => dSl d21 fun x23 => Ze r22 (laws_toTerm.f k x17 x20 x23 (fun y24 y25 y26 => ZH ((0 : Int) ≤ v0_1 ∧ v0_1 < (v0_2.length : Int)) (ZH (Int.toNat v0_1 < v0_2.length) (L0 (IntKind.wrap .i64 (v0_1 + 1), v0_2.modify (Int.toNat v0_1) fun c => Z1 c 0 [.d (.int .i64 y24), .d (.str y25), .own y26])))))) else (K v0_2)
noncomputable def laws_toTermS.g {β : Type} (k : Nat) (a0 : List (List D)) (K : (List (List C)) → Option β) : Option β :=
  ZH ((0 : Int) ≤ (a0.length : Int) ∧ (a0.length : Int) ≤ (Z6 : Int) ∧ (a0.length : Int) ≤ (a0.length : Int) ∧ (a0.length : Int) ≤ (a0.length : Int)) (Z4 (laws_toTermS.l0 k a0 K) k (0, List.replicate (Int.toNat (a0.length : Int)) ([.d (.int .i64 0), .d (.str (⟨#[]⟩ : ByteArray)), .own ([] : List (List C))] : List C)))
noncomputable def laws_toTermS.t (k : Nat) (a0 : List (List D)) : Option ((List (List C))) := laws_toTermS.g k a0 (fun z0 => some z0)
noncomputable def laws_toTermS.f {β : Type} (k : Nat) (a0 : List (List D)) (K : (List (List C)) → Option β) : Option β :=
  match laws_toTermS.t k a0 with
  | some z0 => K z0
  | none => none
noncomputable def laws_toTermS.as (a0 : List (List D)) : List A := [.d (.sl a0)]
noncomputable def laws_toTermS.kt {β : Type} (a0 : List (List D)) (K0 : List (List C) → List Out → Option β) : (List (List C)) → Option β := fun z0 => K0 [[.own z0]] []
noncomputable def laws_toTermS.e (k : Nat) : ZQ := { modes := [(.imm, 0)], rts := [215], al := false, run := fun {β} l K => match l with | [.d (.sl a0)] => laws_toTermS.f k a0 (laws_toTermS.kt a0 K) | _ => none }
noncomputable def laws_toTermS.E (k : Nat) : Env := fun g => bif g == 257 then some (laws_toTerm.e k) else none
noncomputable def laws_toTermS.h : ZY := ⟨fun n => bif n == 3 then ⟨[(0, .asis), (3, .asis), (4, .asis)], []⟩ else ⟨[], []⟩, fun _ => none, false, []⟩
noncomputable def laws_toTermS.s0 (v0_0 : List (List D)) (v : Int × (List (List C))) : St :=
  match v with
  | (v0_1, v0_2) => ⟨[.d false (.sl v0_0), .any, .any, .row 0, .d true (.int .i64 v0_1), .any, .any, .any, .any, .any, .any, .any, .any, .any, .any, .any, .any, .any, .any, .any, .any, .any, .any], [.row none true 215 v0_2]⟩
noncomputable def laws_toTermS.b0 {β : Type} (k : Nat) : St → (Ex → St → Option β) → Option β := fun s K => den Try.prog (laws_toTermS.E k) laws_toTermS.h.H laws_toTermS.h.J k (Zad [1, 1, 0, 1, 0, 0] (Zl Try.f239)) s K
noncomputable def laws_toTermS.c0 {β : Type} (k : Nat) (a0 : List (List D)) (K0 : List (List C) → List Out → Option β) : Ex → St → Option β := Zae Try.prog (laws_toTermS.E k) laws_toTermS.h k [1, 1, 0, 1, 0] (Zl Try.f239) (Zak Try.prog Try.f239 laws_toTermS.h (laws_toTermS.as a0) K0)
theorem laws_toTermS.l0_eq {β : Type} (k : Nat) (a0 : List (List D)) (K0 : List (List C) → List Out → Option β) (v0_0 : List (List D)) : ∀ (kk : Nat) (v : Int × (List (List C))), Zx (laws_toTermS.b0 k) (laws_toTermS.h.H 3) kk (laws_toTermS.s0 v0_0 v) (laws_toTermS.c0 k a0 K0) = Z4 (laws_toTermS.l0 k v0_0 (laws_toTermS.kt a0 K0)) kk v :=
  Z9 (laws_toTermS.s0 v0_0) _ (fun L0 v => by obtain ⟨v0_1, v0_2⟩ := v; kernel_rfl)
noncomputable def laws_toTermS.m {β : Type} (k : Nat) (a0 : List (List D)) (K0 : List (List C) → List Out → Option β) (F : ((List (List D)) → (Int × (List (List C))) → Option β)) : Option β :=
  ZH ((0 : Int) ≤ (a0.length : Int) ∧ (a0.length : Int) ≤ (Z6 : Int) ∧ (a0.length : Int) ≤ (a0.length : Int) ∧ (a0.length : Int) ≤ (a0.length : Int)) ((F) a0 (0, List.replicate (Int.toNat (a0.length : Int)) ([.d (.int .i64 0), .d (.str (⟨#[]⟩ : ByteArray)), .own ([] : List (List C))] : List C)))
theorem laws_toTermS.f_eq {β : Type} (k : Nat) (a0 : List (List D)) (K0 : List (List C) → List Out → Option β) : ZJ Try.prog (laws_toTermS.E k) laws_toTermS.h k Try.f239 (laws_toTermS.as a0) K0 = laws_toTermS.g k a0 (laws_toTermS.kt a0 K0) := Eq.trans (b := (laws_toTermS.m k a0 K0) (fun (v0_0 : List (List D)) (v : Int × (List (List C))) => Zx (laws_toTermS.b0 k) (laws_toTermS.h.H 3) k (laws_toTermS.s0 v0_0 v) (laws_toTermS.c0 k a0 K0))) (by kernel_rfl) (Eq.trans (congrArg (laws_toTermS.m k a0 K0) (funext fun v0_0 => funext fun v => laws_toTermS.l0_eq k a0 K0 v0_0 k v)) (by kernel_rfl))
noncomputable def laws_toTermS.dec (rs : List (List C)) (os : List Out) : Option ((List (List C))) := Zd rs fun c1 r2 => Zd c1 fun x3 l4 => ZaU x3 fun w0 => Ze l4 <| Ze r2 <| Ze os (some w0)
theorem laws_toTermS.kt_dec (a0 : List (List D)) : laws_toTermS.kt a0 laws_toTermS.dec = (fun z0 => some z0) := by kernel_rfl
theorem laws_toTermS.inj (a0 : List (List D)) {rs : List (List C)} {os : List Out} {z0 : List (List C)} (h : laws_toTermS.dec rs os = some z0) (ho : Zo (laws_toTermS.as a0) os) : rs = [[.own z0]] ∧ os = [] := by
  unfold laws_toTermS.dec at h
  obtain ⟨c1, r2, rfl, h1⟩ := Zb h
  obtain ⟨x3, l4, rfl, h2⟩ := Zb h1
  obtain ⟨w0, rfl, h3⟩ := ZN h2
  obtain ⟨rfl, h4⟩ := Zc h3
  obtain ⟨rfl, h5⟩ := Zc h4
  obtain ⟨rfl, h6⟩ := Zc h5
  obtain rfl := Option.some.inj h6
  exact ⟨rfl, rfl⟩
theorem laws_toTermS.ok (k : Nat) : Zv Try.prog 239 (laws_toTermS.e k) := by
  refine Zu mix tyok (fn := Try.f239) (c := Zl Try.f239) Try.func239 (by kernel_rfl) (h := laws_toTermS.h) (k := k) (E := laws_toTermS.E k) (Zk (laws_toTerm.ok k) Zz) (by kernel_rfl) (by kernel_rfl) rfl (Zq Try.func239 (by kernel_rfl)) ?_
  intro β l K r hr
  simp only [laws_toTermS.e] at hr
  split at hr
  case h_2 => cases hr
  unfold laws_toTermS.f at hr
  split at hr
  case h_2 => cases hr
  rename_i hz
  exact ⟨_, _, hr, _, laws_toTermS.dec, _, (laws_toTermS.f_eq k _ laws_toTermS.dec).trans (by rw [laws_toTermS.kt_dec]; exact hz), fun rs os h ho => laws_toTermS.inj _ h ho⟩
noncomputable def laws_toWeigh.g {β : Type} (k : Nat) (a0_0 : ByteArray) (a0_1 : Int) (K : ByteArray → Int → Option β) : Option β :=
  K a0_0 a0_1
noncomputable def laws_toWeigh.t (k : Nat) (a0_0 : ByteArray) (a0_1 : Int) : Option (ByteArray × Int) := laws_toWeigh.g k a0_0 a0_1 (fun z0 z1 => some (z0, z1))
noncomputable def laws_toWeigh.f {β : Type} (k : Nat) (a0_0 : ByteArray) (a0_1 : Int) (K : ByteArray → Int → Option β) : Option β :=
  match laws_toWeigh.t k a0_0 a0_1 with
  | some (z0, z1) => K z0 z1
  | none => none
noncomputable def laws_toWeigh.as (a0_0 : ByteArray) (a0_1 : Int) : List A := [.agg [.str a0_0, .int .i64 a0_1]]
noncomputable def laws_toWeigh.kt {β : Type} (a0_0 : ByteArray) (a0_1 : Int) (K0 : List (List C) → List Out → Option β) : ByteArray → Int → Option β := fun z0 z1 => K0 [[.d (.str z0), .d (.int .i64 z1)]] []
noncomputable def laws_toWeigh.e (k : Nat) : ZQ := { modes := [(.imm, 0)], rts := [324], al := false, run := fun {β} l K => match l with | [.agg [.str a0_0, .int .i64 a0_1]] => laws_toWeigh.f k a0_0 a0_1 (laws_toWeigh.kt a0_0 a0_1 K) | _ => none }
noncomputable def laws_toWeigh.E (k : Nat) : Env := fun g => none
noncomputable def laws_toWeigh.h : ZY := ⟨fun n => ⟨[], []⟩, fun _ => none, false, []⟩
theorem laws_toWeigh.f_eq {β : Type} (k : Nat) (a0_0 : ByteArray) (a0_1 : Int) (K0 : List (List C) → List Out → Option β) : ZJ Try.prog (laws_toWeigh.E k) laws_toWeigh.h k Try.f258 (laws_toWeigh.as a0_0 a0_1) K0 = laws_toWeigh.g k a0_0 a0_1 (laws_toWeigh.kt a0_0 a0_1 K0) := by kernel_rfl
noncomputable def laws_toWeigh.dec (rs : List (List C)) (os : List Out) : Option (ByteArray × Int) := Zd rs fun c1 r2 => Zd c1 fun x3 l4 => cD x3 fun d5 => Zan d5 fun w0 => Zd l4 fun x6 l7 => cD x6 fun d8 => ZM .i64 d8 fun w1 => Ze l7 <| Ze r2 <| Ze os (some (w0, w1))
theorem laws_toWeigh.kt_dec (a0_0 : ByteArray) (a0_1 : Int) : laws_toWeigh.kt a0_0 a0_1 laws_toWeigh.dec = (fun z0 z1 => some (z0, z1)) := by kernel_rfl
theorem laws_toWeigh.inj (a0_0 : ByteArray) (a0_1 : Int) {rs : List (List C)} {os : List Out} {z0 : ByteArray} {z1 : Int} (h : laws_toWeigh.dec rs os = some (z0, z1)) (ho : Zo (laws_toWeigh.as a0_0 a0_1) os) : rs = [[.d (.str z0), .d (.int .i64 z1)]] ∧ os = [] := by
  unfold laws_toWeigh.dec at h
  obtain ⟨c1, r2, rfl, h1⟩ := Zb h
  obtain ⟨x3, l4, rfl, h2⟩ := Zb h1
  obtain ⟨d5, rfl, h3⟩ := Zt h2
  obtain ⟨w0, rfl, h4⟩ := ZaL h3
  obtain ⟨x6, l7, rfl, h5⟩ := Zb h4
  obtain ⟨d8, rfl, h6⟩ := Zt h5
  obtain ⟨w1, rfl, h7⟩ := ZA h6
  obtain ⟨rfl, h8⟩ := Zc h7
  obtain ⟨rfl, h9⟩ := Zc h8
  obtain ⟨rfl, h10⟩ := Zc h9
  simp only [Option.some.injEq, Prod.mk.injEq] at h10
  obtain ⟨rfl, rfl⟩ := h10
  exact ⟨rfl, rfl⟩
theorem laws_toWeigh.ok (k : Nat) : Zv Try.prog 258 (laws_toWeigh.e k) := by
  refine Zu mix tyok (fn := Try.f258) (c := Zl Try.f258) Try.func258 (by kernel_rfl) (h := laws_toWeigh.h) (k := k) (E := laws_toWeigh.E k) Zz (by kernel_rfl) (by kernel_rfl) rfl (Zq Try.func258 (by kernel_rfl)) ?_
  intro β l K r hr
  simp only [laws_toWeigh.e] at hr
  split at hr
  case h_2 => cases hr
  unfold laws_toWeigh.f at hr
  split at hr
  case h_2 => cases hr
  rename_i hz
  exact ⟨_, _, hr, _, laws_toWeigh.dec, _, (laws_toWeigh.f_eq k _ _ laws_toWeigh.dec).trans (by rw [laws_toWeigh.kt_dec]; exact hz), fun rs os h ho => laws_toWeigh.inj _ _ h ho⟩
noncomputable def laws_toWeighS.l0 {β : Type} (k : Nat) (v0_0 : List (List D)) (K : (List (List C)) → Option β) (L0 : (Int × (List (List C))) → Option β) (v : Int × (List (List C))) : Option β :=
  match v with
  | (v0_1, v0_2) => bif (decide ((v0_1 : Int) < (v0_0.length : Int))) then (ZX v0_0 v0_1 fun c10 => Zd c10 fun d11 r12 => Zan d11 fun x13 => Zd r12 fun d14 r15 => ZM .i64 d14 fun x16 => Ze r15 (laws_toWeigh.f k x13 x16 (fun y17 y18 => ZH ((0 : Int) ≤ v0_1 ∧ v0_1 < (v0_2.length : Int)) (ZH (Int.toNat v0_1 < v0_2.length) (L0 (IntKind.wrap .i64 (v0_1 + 1), v0_2.modify (Int.toNat v0_1) fun c => Z1 c 0 [.d (.str y17), .d (.int .i64 y18)])))))) else (K v0_2)
noncomputable def laws_toWeighS.g {β : Type} (k : Nat) (a0 : List (List D)) (K : (List (List C)) → Option β) : Option β :=
  ZH ((0 : Int) ≤ (a0.length : Int) ∧ (a0.length : Int) ≤ (Z6 : Int) ∧ (a0.length : Int) ≤ (a0.length : Int) ∧ (a0.length : Int) ≤ (a0.length : Int)) (Z4 (laws_toWeighS.l0 k a0 K) k (0, List.replicate (Int.toNat (a0.length : Int)) ([.d (.str (⟨#[]⟩ : ByteArray)), .d (.int .i64 0)] : List C)))
noncomputable def laws_toWeighS.t (k : Nat) (a0 : List (List D)) : Option ((List (List C))) := laws_toWeighS.g k a0 (fun z0 => some z0)
noncomputable def laws_toWeighS.f {β : Type} (k : Nat) (a0 : List (List D)) (K : (List (List C)) → Option β) : Option β :=
  match laws_toWeighS.t k a0 with
  | some z0 => K z0
  | none => none
noncomputable def laws_toWeighS.as (a0 : List (List D)) : List A := [.d (.sl a0)]
noncomputable def laws_toWeighS.kt {β : Type} (a0 : List (List D)) (K0 : List (List C) → List Out → Option β) : (List (List C)) → Option β := fun z0 => K0 [[.own z0]] []
noncomputable def laws_toWeighS.e (k : Nat) : ZQ := { modes := [(.imm, 0)], rts := [216], al := false, run := fun {β} l K => match l with | [.d (.sl a0)] => laws_toWeighS.f k a0 (laws_toWeighS.kt a0 K) | _ => none }
noncomputable def laws_toWeighS.E (k : Nat) : Env := fun g => bif g == 258 then some (laws_toWeigh.e k) else none
noncomputable def laws_toWeighS.h : ZY := ⟨fun n => bif n == 3 then ⟨[(0, .asis), (3, .asis), (4, .asis)], []⟩ else ⟨[], []⟩, fun _ => none, false, []⟩
noncomputable def laws_toWeighS.s0 (v0_0 : List (List D)) (v : Int × (List (List C))) : St :=
  match v with
  | (v0_1, v0_2) => ⟨[.d false (.sl v0_0), .any, .any, .row 0, .d true (.int .i64 v0_1), .any, .any, .any, .any, .any, .any, .any, .any, .any, .any, .any, .any, .any, .any, .any, .any, .any, .any], [.row none true 216 v0_2]⟩
noncomputable def laws_toWeighS.b0 {β : Type} (k : Nat) : St → (Ex → St → Option β) → Option β := fun s K => den Try.prog (laws_toWeighS.E k) laws_toWeighS.h.H laws_toWeighS.h.J k (Zad [1, 1, 0, 1, 0, 0] (Zl Try.f240)) s K
noncomputable def laws_toWeighS.c0 {β : Type} (k : Nat) (a0 : List (List D)) (K0 : List (List C) → List Out → Option β) : Ex → St → Option β := Zae Try.prog (laws_toWeighS.E k) laws_toWeighS.h k [1, 1, 0, 1, 0] (Zl Try.f240) (Zak Try.prog Try.f240 laws_toWeighS.h (laws_toWeighS.as a0) K0)
theorem laws_toWeighS.l0_eq {β : Type} (k : Nat) (a0 : List (List D)) (K0 : List (List C) → List Out → Option β) (v0_0 : List (List D)) : ∀ (kk : Nat) (v : Int × (List (List C))), Zx (laws_toWeighS.b0 k) (laws_toWeighS.h.H 3) kk (laws_toWeighS.s0 v0_0 v) (laws_toWeighS.c0 k a0 K0) = Z4 (laws_toWeighS.l0 k v0_0 (laws_toWeighS.kt a0 K0)) kk v :=
  Z9 (laws_toWeighS.s0 v0_0) _ (fun L0 v => by obtain ⟨v0_1, v0_2⟩ := v; kernel_rfl)
noncomputable def laws_toWeighS.m {β : Type} (k : Nat) (a0 : List (List D)) (K0 : List (List C) → List Out → Option β) (F : ((List (List D)) → (Int × (List (List C))) → Option β)) : Option β :=
  ZH ((0 : Int) ≤ (a0.length : Int) ∧ (a0.length : Int) ≤ (Z6 : Int) ∧ (a0.length : Int) ≤ (a0.length : Int) ∧ (a0.length : Int) ≤ (a0.length : Int)) ((F) a0 (0, List.replicate (Int.toNat (a0.length : Int)) ([.d (.str (⟨#[]⟩ : ByteArray)), .d (.int .i64 0)] : List C)))
theorem laws_toWeighS.f_eq {β : Type} (k : Nat) (a0 : List (List D)) (K0 : List (List C) → List Out → Option β) : ZJ Try.prog (laws_toWeighS.E k) laws_toWeighS.h k Try.f240 (laws_toWeighS.as a0) K0 = laws_toWeighS.g k a0 (laws_toWeighS.kt a0 K0) := Eq.trans (b := (laws_toWeighS.m k a0 K0) (fun (v0_0 : List (List D)) (v : Int × (List (List C))) => Zx (laws_toWeighS.b0 k) (laws_toWeighS.h.H 3) k (laws_toWeighS.s0 v0_0 v) (laws_toWeighS.c0 k a0 K0))) (by kernel_rfl) (Eq.trans (congrArg (laws_toWeighS.m k a0 K0) (funext fun v0_0 => funext fun v => laws_toWeighS.l0_eq k a0 K0 v0_0 k v)) (by kernel_rfl))
noncomputable def laws_toWeighS.dec (rs : List (List C)) (os : List Out) : Option ((List (List C))) := Zd rs fun c1 r2 => Zd c1 fun x3 l4 => ZaU x3 fun w0 => Ze l4 <| Ze r2 <| Ze os (some w0)
theorem laws_toWeighS.kt_dec (a0 : List (List D)) : laws_toWeighS.kt a0 laws_toWeighS.dec = (fun z0 => some z0) := by kernel_rfl
theorem laws_toWeighS.inj (a0 : List (List D)) {rs : List (List C)} {os : List Out} {z0 : List (List C)} (h : laws_toWeighS.dec rs os = some z0) (ho : Zo (laws_toWeighS.as a0) os) : rs = [[.own z0]] ∧ os = [] := by
  unfold laws_toWeighS.dec at h
  obtain ⟨c1, r2, rfl, h1⟩ := Zb h
  obtain ⟨x3, l4, rfl, h2⟩ := Zb h1
  obtain ⟨w0, rfl, h3⟩ := ZN h2
  obtain ⟨rfl, h4⟩ := Zc h3
  obtain ⟨rfl, h5⟩ := Zc h4
  obtain ⟨rfl, h6⟩ := Zc h5
  obtain rfl := Option.some.inj h6
  exact ⟨rfl, rfl⟩
theorem laws_toWeighS.ok (k : Nat) : Zv Try.prog 240 (laws_toWeighS.e k) := by
  refine Zu mix tyok (fn := Try.f240) (c := Zl Try.f240) Try.func240 (by kernel_rfl) (h := laws_toWeighS.h) (k := k) (E := laws_toWeighS.E k) (Zk (laws_toWeigh.ok k) Zz) (by kernel_rfl) (by kernel_rfl) rfl (Zq Try.func240 (by kernel_rfl)) ?_
  intro β l K r hr
  simp only [laws_toWeighS.e] at hr
  split at hr
  case h_2 => cases hr
  unfold laws_toWeighS.f at hr
  split at hr
  case h_2 => cases hr
  rename_i hz
  exact ⟨_, _, hr, _, laws_toWeighS.dec, _, (laws_toWeighS.f_eq k _ laws_toWeighS.dec).trans (by rw [laws_toWeighS.kt_dec]; exact hz), fun rs os h ho => laws_toWeighS.inj _ h ho⟩
noncomputable def laws_toWant.g {β : Type} (k : Nat) (a0_0 : Int) (a0_1 : List (List D)) (a0_2 : List (List D)) (a0_3 : List (List D)) (K : Int → (List (List C)) → (List (List C)) → (List (List C)) → Option β) : Option β :=
  laws_toTermS.f k a0_1 (fun y27 => laws_toStringS.f k a0_2 (fun y28 => laws_toWeighS.f k a0_3 (fun y29 => K a0_0 y27 y28 y29)))
noncomputable def laws_toWant.t (k : Nat) (a0_0 : Int) (a0_1 : List (List D)) (a0_2 : List (List D)) (a0_3 : List (List D)) : Option (Int × (List (List C)) × (List (List C)) × (List (List C))) := laws_toWant.g k a0_0 a0_1 a0_2 a0_3 (fun z0 z1 z2 z3 => some (z0, z1, z2, z3))
noncomputable def laws_toWant.f {β : Type} (k : Nat) (a0_0 : Int) (a0_1 : List (List D)) (a0_2 : List (List D)) (a0_3 : List (List D)) (K : Int → (List (List C)) → (List (List C)) → (List (List C)) → Option β) : Option β :=
  match laws_toWant.t k a0_0 a0_1 a0_2 a0_3 with
  | some (z0, z1, z2, z3) => K z0 z1 z2 z3
  | none => none
noncomputable def laws_toWant.as (a0_0 : Int) (a0_1 : List (List D)) (a0_2 : List (List D)) (a0_3 : List (List D)) : List A := [.agg [.int .i64 a0_0, .sl a0_1, .sl a0_2, .sl a0_3]]
noncomputable def laws_toWant.kt {β : Type} (a0_0 : Int) (a0_1 : List (List D)) (a0_2 : List (List D)) (a0_3 : List (List D)) (K0 : List (List C) → List Out → Option β) : Int → (List (List C)) → (List (List C)) → (List (List C)) → Option β := fun z0 z1 z2 z3 => K0 [[.d (.int .i64 z0), .own z1, .own z2, .own z3]] []
noncomputable def laws_toWant.e (k : Nat) : ZQ := { modes := [(.imm, 0)], rts := [218], al := false, run := fun {β} l K => match l with | [.agg [.int .i64 a0_0, .sl a0_1, .sl a0_2, .sl a0_3]] => laws_toWant.f k a0_0 a0_1 a0_2 a0_3 (laws_toWant.kt a0_0 a0_1 a0_2 a0_3 K) | _ => none }
noncomputable def laws_toWant.E (k : Nat) : Env := fun g => bif g == 239 then some (laws_toTermS.e k) else bif g == 78 then some (laws_toStringS.e k) else bif g == 240 then some (laws_toWeighS.e k) else none
noncomputable def laws_toWant.h : ZY := ⟨fun n => ⟨[], []⟩, fun _ => none, false, []⟩
theorem laws_toWant.f_eq {β : Type} (k : Nat) (a0_0 : Int) (a0_1 : List (List D)) (a0_2 : List (List D)) (a0_3 : List (List D)) (K0 : List (List C) → List Out → Option β) : ZJ Try.prog (laws_toWant.E k) laws_toWant.h k Try.f215 (laws_toWant.as a0_0 a0_1 a0_2 a0_3) K0 = laws_toWant.g k a0_0 a0_1 a0_2 a0_3 (laws_toWant.kt a0_0 a0_1 a0_2 a0_3 K0) := by kernel_rfl
noncomputable def laws_toWant.dec (rs : List (List C)) (os : List Out) : Option (Int × (List (List C)) × (List (List C)) × (List (List C))) := Zd rs fun c1 r2 => Zd c1 fun x3 l4 => cD x3 fun d5 => ZM .i64 d5 fun w0 => Zd l4 fun x6 l7 => ZaU x6 fun w1 => Zd l7 fun x8 l9 => ZaU x8 fun w2 => Zd l9 fun x10 l11 => ZaU x10 fun w3 => Ze l11 <| Ze r2 <| Ze os (some (w0, w1, w2, w3))
theorem laws_toWant.kt_dec (a0_0 : Int) (a0_1 : List (List D)) (a0_2 : List (List D)) (a0_3 : List (List D)) : laws_toWant.kt a0_0 a0_1 a0_2 a0_3 laws_toWant.dec = (fun z0 z1 z2 z3 => some (z0, z1, z2, z3)) := by kernel_rfl
theorem laws_toWant.inj (a0_0 : Int) (a0_1 : List (List D)) (a0_2 : List (List D)) (a0_3 : List (List D)) {rs : List (List C)} {os : List Out} {z0 : Int} {z1 : List (List C)} {z2 : List (List C)} {z3 : List (List C)} (h : laws_toWant.dec rs os = some (z0, z1, z2, z3)) (ho : Zo (laws_toWant.as a0_0 a0_1 a0_2 a0_3) os) : rs = [[.d (.int .i64 z0), .own z1, .own z2, .own z3]] ∧ os = [] := by
  unfold laws_toWant.dec at h
  obtain ⟨c1, r2, rfl, h1⟩ := Zb h
  obtain ⟨x3, l4, rfl, h2⟩ := Zb h1
  obtain ⟨d5, rfl, h3⟩ := Zt h2
  obtain ⟨w0, rfl, h4⟩ := ZA h3
  obtain ⟨x6, l7, rfl, h5⟩ := Zb h4
  obtain ⟨w1, rfl, h6⟩ := ZN h5
  obtain ⟨x8, l9, rfl, h7⟩ := Zb h6
  obtain ⟨w2, rfl, h8⟩ := ZN h7
  obtain ⟨x10, l11, rfl, h9⟩ := Zb h8
  obtain ⟨w3, rfl, h10⟩ := ZN h9
  obtain ⟨rfl, h11⟩ := Zc h10
  obtain ⟨rfl, h12⟩ := Zc h11
  obtain ⟨rfl, h13⟩ := Zc h12
  simp only [Option.some.injEq, Prod.mk.injEq] at h13
  obtain ⟨rfl, rfl, rfl, rfl⟩ := h13
  exact ⟨rfl, rfl⟩
theorem laws_toWant.ok (k : Nat) : Zv Try.prog 215 (laws_toWant.e k) := by
  refine Zu mix tyok (fn := Try.f215) (c := Zl Try.f215) Try.func215 (by kernel_rfl) (h := laws_toWant.h) (k := k) (E := laws_toWant.E k) (Zk (laws_toTermS.ok k) (Zk (laws_toStringS.ok k) (Zk (laws_toWeighS.ok k) Zz))) (by kernel_rfl) (by kernel_rfl) rfl (Zq Try.func215 (by kernel_rfl)) ?_
  intro β l K r hr
  simp only [laws_toWant.e] at hr
  split at hr
  case h_2 => cases hr
  unfold laws_toWant.f at hr
  split at hr
  case h_2 => cases hr
  rename_i hz
  exact ⟨_, _, hr, _, laws_toWant.dec, _, (laws_toWant.f_eq k _ _ _ _ laws_toWant.dec).trans (by rw [laws_toWant.kt_dec]; exact hz), fun rs os h ho => laws_toWant.inj _ _ _ _ h ho⟩
noncomputable def laws_toValueS.l0 {β : Type} (k : Nat) (r_laws_toValueS : (List (List D)) → ((List (List C)) → Option β) → Option β) (r_laws_toValue : Int → ByteArray → Int → (List (List D)) → (List (List D)) → (Int → ByteArray → Int → (List (List C)) → (List (List C)) → Option β) → Option β) (v0_0 : List (List D)) (K : (List (List C)) → Option β) (L0 : (Int × (List (List C))) → Option β) (v : Int × (List (List C))) : Option β :=
  match v with
  | (v0_1, v0_2) => bif (decide ((v0_1 : Int) < (v0_0.length : Int))) then (ZX v0_0 v0_1 fun c22 => Zd c22 fun d23 r24 => ZM .i64 d23 fun x25 => Zd r24 fun d26 r27 => Zan d26 fun x28 => Zd r27 fun d29 r30 => ZM .i64 d29 fun x31 => Zd r30 fun d32 r33 => dSl d32 fun x34 => Zd r33 fun d35 r36 => dSl d35 fun x37 => Ze r36 (r_laws_toValue x25 x28 x31 x34 x37 (fun y38 y39 y40 y41 y42 => ZH ((0 : Int) ≤ v0_1 ∧ v0_1 < (v0_2.length : Int)) (ZH (Int.toNat v0_1 < v0_2.length) (L0 (IntKind.wrap .i64 (v0_1 + 1), v0_2.modify (Int.toNat v0_1) fun c => Z1 c 0 [.d (.int .i64 y38), .d (.str y39), .d (.int .i64 y40), .own y41, .own y42])))))) else (K v0_2)
noncomputable def laws_toValueS.body {β : Type} (k : Nat) (r_laws_toValueS : (List (List D)) → ((List (List C)) → Option β) → Option β) (r_laws_toValue : Int → ByteArray → Int → (List (List D)) → (List (List D)) → (Int → ByteArray → Int → (List (List C)) → (List (List C)) → Option β) → Option β) (a0 : List (List D)) (K : (List (List C)) → Option β) : Option β :=
  ZH ((0 : Int) ≤ (a0.length : Int) ∧ (a0.length : Int) ≤ (Z6 : Int) ∧ (a0.length : Int) ≤ (a0.length : Int) ∧ (a0.length : Int) ≤ (a0.length : Int)) (Z4 (laws_toValueS.l0 k r_laws_toValueS r_laws_toValue a0 K) k (0, List.replicate (Int.toNat (a0.length : Int)) ([.d (.int .i64 0), .d (.str (⟨#[]⟩ : ByteArray)), .d (.int .i64 0), .own ([] : List (List C)), .own ([] : List (List C))] : List C)))
noncomputable def laws_toValue.body {β : Type} (k : Nat) (r_laws_toValueS : (List (List D)) → ((List (List C)) → Option β) → Option β) (r_laws_toValue : Int → ByteArray → Int → (List (List D)) → (List (List D)) → (Int → ByteArray → Int → (List (List C)) → (List (List C)) → Option β) → Option β) (a0_0 : Int) (a0_1 : ByteArray) (a0_2 : Int) (a0_3 : List (List D)) (a0_4 : List (List D)) (K : Int → ByteArray → Int → (List (List C)) → (List (List C)) → Option β) : Option β :=
  laws_toStringS.f k a0_3 (fun y1 => r_laws_toValueS a0_4 (fun y43 => K a0_0 a0_1 a0_2 y1 y43))
noncomputable def laws_toValueS.w {β : Type} (r : (List (List D)) → Option ((List (List C)))) (a0 : List (List D)) (K : (List (List C)) → Option β) : Option β :=
  match r a0 with
  | some z0 => K z0
  | none => none
noncomputable def laws_toValue.w {β : Type} (r : Int → ByteArray → Int → (List (List D)) → (List (List D)) → Option (Int × ByteArray × Int × (List (List C)) × (List (List C)))) (a0_0 : Int) (a0_1 : ByteArray) (a0_2 : Int) (a0_3 : List (List D)) (a0_4 : List (List D)) (K : Int → ByteArray → Int → (List (List C)) → (List (List C)) → Option β) : Option β :=
  match r a0_0 a0_1 a0_2 a0_3 a0_4 with
  | some (z0, z1, z2, z3, z4) => K z0 z1 z2 z3 z4
  | none => none
noncomputable def laws_toValueS.all : Nat → ((List (List D)) → Option ((List (List C)))) × (Int → ByteArray → Int → (List (List D)) → (List (List D)) → Option (Int × ByteArray × Int × (List (List C)) × (List (List C))))
  | 0 => (fun _ => none, fun _ _ _ _ _ => none)
  | k + 1 => (fun r => (fun a0 => laws_toValueS.body k (laws_toValueS.w r.1) (laws_toValue.w r.2) a0 (fun z0 => some z0), fun a0_0 a0_1 a0_2 a0_3 a0_4 => laws_toValue.body k (laws_toValueS.w r.1) (laws_toValue.w r.2) a0_0 a0_1 a0_2 a0_3 a0_4 (fun z0 z1 z2 z3 z4 => some (z0, z1, z2, z3, z4)))) (laws_toValueS.all k)
noncomputable def laws_toValueS.t (k : Nat) (a0 : List (List D)) : Option ((List (List C))) := (laws_toValueS.all k).1 a0
noncomputable def laws_toValue.t (k : Nat) (a0_0 : Int) (a0_1 : ByteArray) (a0_2 : Int) (a0_3 : List (List D)) (a0_4 : List (List D)) : Option (Int × ByteArray × Int × (List (List C)) × (List (List C))) := (laws_toValueS.all k).2 a0_0 a0_1 a0_2 a0_3 a0_4
noncomputable def laws_toValueS.f {β : Type} (k : Nat) (a0 : List (List D)) (K : (List (List C)) → Option β) : Option β := laws_toValueS.w (laws_toValueS.t k) a0 K
noncomputable def laws_toValue.f {β : Type} (k : Nat) (a0_0 : Int) (a0_1 : ByteArray) (a0_2 : Int) (a0_3 : List (List D)) (a0_4 : List (List D)) (K : Int → ByteArray → Int → (List (List C)) → (List (List C)) → Option β) : Option β := laws_toValue.w (laws_toValue.t k) a0_0 a0_1 a0_2 a0_3 a0_4 K
noncomputable def laws_toValueS.g {β : Type} (k : Nat) (a0 : List (List D)) (K : (List (List C)) → Option β) : Option β := laws_toValueS.body k (laws_toValueS.f k) (laws_toValue.f k) a0 K
theorem laws_toValueS.t_zero (a0 : List (List D)) : laws_toValueS.t 0 a0 = none := rfl
theorem laws_toValueS.t_succ (k : Nat) (a0 : List (List D)) : laws_toValueS.t (k + 1) a0 = laws_toValueS.g k a0 (fun z0 => some z0) := rfl
noncomputable def laws_toValue.g {β : Type} (k : Nat) (a0_0 : Int) (a0_1 : ByteArray) (a0_2 : Int) (a0_3 : List (List D)) (a0_4 : List (List D)) (K : Int → ByteArray → Int → (List (List C)) → (List (List C)) → Option β) : Option β := laws_toValue.body k (laws_toValueS.f k) (laws_toValue.f k) a0_0 a0_1 a0_2 a0_3 a0_4 K
theorem laws_toValue.t_zero (a0_0 : Int) (a0_1 : ByteArray) (a0_2 : Int) (a0_3 : List (List D)) (a0_4 : List (List D)) : laws_toValue.t 0 a0_0 a0_1 a0_2 a0_3 a0_4 = none := rfl
theorem laws_toValue.t_succ (k : Nat) (a0_0 : Int) (a0_1 : ByteArray) (a0_2 : Int) (a0_3 : List (List D)) (a0_4 : List (List D)) : laws_toValue.t (k + 1) a0_0 a0_1 a0_2 a0_3 a0_4 = laws_toValue.g k a0_0 a0_1 a0_2 a0_3 a0_4 (fun z0 z1 z2 z3 z4 => some (z0, z1, z2, z3, z4)) := rfl
noncomputable def laws_toValueS.as (a0 : List (List D)) : List A := [.d (.sl a0)]
noncomputable def laws_toValueS.kt {β : Type} (a0 : List (List D)) (K0 : List (List C) → List Out → Option β) : (List (List C)) → Option β := fun z0 => K0 [[.own z0]] []
noncomputable def laws_toValueS.e (k : Nat) : ZQ := { modes := [(.imm, 0)], rts := [149], al := false, run := fun {β} l K => match l with | [.d (.sl a0)] => laws_toValueS.f k a0 (laws_toValueS.kt a0 K) | _ => none }
noncomputable def laws_toValue.as (a0_0 : Int) (a0_1 : ByteArray) (a0_2 : Int) (a0_3 : List (List D)) (a0_4 : List (List D)) : List A := [.agg [.int .i64 a0_0, .str a0_1, .int .i64 a0_2, .sl a0_3, .sl a0_4]]
noncomputable def laws_toValue.kt {β : Type} (a0_0 : Int) (a0_1 : ByteArray) (a0_2 : Int) (a0_3 : List (List D)) (a0_4 : List (List D)) (K0 : List (List C) → List Out → Option β) : Int → ByteArray → Int → (List (List C)) → (List (List C)) → Option β := fun z0 z1 z2 z3 z4 => K0 [[.d (.int .i64 z0), .d (.str z1), .d (.int .i64 z2), .own z3, .own z4]] []
noncomputable def laws_toValue.e (k : Nat) : ZQ := { modes := [(.imm, 0)], rts := [151], al := false, run := fun {β} l K => match l with | [.agg [.int .i64 a0_0, .str a0_1, .int .i64 a0_2, .sl a0_3, .sl a0_4]] => laws_toValue.f k a0_0 a0_1 a0_2 a0_3 a0_4 (laws_toValue.kt a0_0 a0_1 a0_2 a0_3 a0_4 K) | _ => none }
noncomputable def laws_toValueS.E (k : Nat) : Env := fun g => bif g == 183 then some (laws_toValue.e k) else none
noncomputable def laws_toValueS.h : ZY := ⟨fun n => bif n == 3 then ⟨[(0, .asis), (3, .asis), (4, .asis)], []⟩ else ⟨[], []⟩, fun _ => none, false, []⟩
noncomputable def laws_toValueS.s0 (v0_0 : List (List D)) (v : Int × (List (List C))) : St :=
  match v with
  | (v0_1, v0_2) => ⟨[.d false (.sl v0_0), .any, .any, .row 0, .d true (.int .i64 v0_1), .any, .any, .any, .any, .any, .any, .any, .any, .any, .any, .any, .any, .any, .any, .any, .any, .any, .any], [.row none true 149 v0_2]⟩
noncomputable def laws_toValueS.b0 {β : Type} (k : Nat) : St → (Ex → St → Option β) → Option β := fun s K => den Try.prog (laws_toValueS.E k) laws_toValueS.h.H laws_toValueS.h.J k (Zad [1, 1, 0, 1, 0, 0] (Zl Try.f224)) s K
noncomputable def laws_toValueS.c0 {β : Type} (k : Nat) (a0 : List (List D)) (K0 : List (List C) → List Out → Option β) : Ex → St → Option β := Zae Try.prog (laws_toValueS.E k) laws_toValueS.h k [1, 1, 0, 1, 0] (Zl Try.f224) (Zak Try.prog Try.f224 laws_toValueS.h (laws_toValueS.as a0) K0)
theorem laws_toValueS.l0_eq {β : Type} (k : Nat) (a0 : List (List D)) (K0 : List (List C) → List Out → Option β) (v0_0 : List (List D)) : ∀ (kk : Nat) (v : Int × (List (List C))), Zx (laws_toValueS.b0 k) (laws_toValueS.h.H 3) kk (laws_toValueS.s0 v0_0 v) (laws_toValueS.c0 k a0 K0) = Z4 (laws_toValueS.l0 k (laws_toValueS.f k) (laws_toValue.f k) v0_0 (laws_toValueS.kt a0 K0)) kk v :=
  Z9 (laws_toValueS.s0 v0_0) _ (fun L0 v => by obtain ⟨v0_1, v0_2⟩ := v; kernel_rfl)
noncomputable def laws_toValueS.m {β : Type} (k : Nat) (a0 : List (List D)) (K0 : List (List C) → List Out → Option β) (F : ((List (List D)) → (Int × (List (List C))) → Option β)) : Option β :=
  ZH ((0 : Int) ≤ (a0.length : Int) ∧ (a0.length : Int) ≤ (Z6 : Int) ∧ (a0.length : Int) ≤ (a0.length : Int) ∧ (a0.length : Int) ≤ (a0.length : Int)) ((F) a0 (0, List.replicate (Int.toNat (a0.length : Int)) ([.d (.int .i64 0), .d (.str (⟨#[]⟩ : ByteArray)), .d (.int .i64 0), .own ([] : List (List C)), .own ([] : List (List C))] : List C)))
theorem laws_toValueS.f_eq {β : Type} (k : Nat) (a0 : List (List D)) (K0 : List (List C) → List Out → Option β) : ZJ Try.prog (laws_toValueS.E k) laws_toValueS.h k Try.f224 (laws_toValueS.as a0) K0 = laws_toValueS.g k a0 (laws_toValueS.kt a0 K0) := Eq.trans (b := (laws_toValueS.m k a0 K0) (fun (v0_0 : List (List D)) (v : Int × (List (List C))) => Zx (laws_toValueS.b0 k) (laws_toValueS.h.H 3) k (laws_toValueS.s0 v0_0 v) (laws_toValueS.c0 k a0 K0))) (by kernel_rfl) (Eq.trans (congrArg (laws_toValueS.m k a0 K0) (funext fun v0_0 => funext fun v => laws_toValueS.l0_eq k a0 K0 v0_0 k v)) (by kernel_rfl))
noncomputable def laws_toValue.E (k : Nat) : Env := fun g => bif g == 78 then some (laws_toStringS.e k) else bif g == 224 then some (laws_toValueS.e k) else none
noncomputable def laws_toValue.h : ZY := ⟨fun n => ⟨[], []⟩, fun _ => none, false, []⟩
theorem laws_toValue.f_eq {β : Type} (k : Nat) (a0_0 : Int) (a0_1 : ByteArray) (a0_2 : Int) (a0_3 : List (List D)) (a0_4 : List (List D)) (K0 : List (List C) → List Out → Option β) : ZJ Try.prog (laws_toValue.E k) laws_toValue.h k Try.f183 (laws_toValue.as a0_0 a0_1 a0_2 a0_3 a0_4) K0 = laws_toValue.g k a0_0 a0_1 a0_2 a0_3 a0_4 (laws_toValue.kt a0_0 a0_1 a0_2 a0_3 a0_4 K0) := by kernel_rfl
noncomputable def laws_toValueS.dec (rs : List (List C)) (os : List Out) : Option ((List (List C))) := Zd rs fun c1 r2 => Zd c1 fun x3 l4 => ZaU x3 fun w0 => Ze l4 <| Ze r2 <| Ze os (some w0)
theorem laws_toValueS.kt_dec (a0 : List (List D)) : laws_toValueS.kt a0 laws_toValueS.dec = (fun z0 => some z0) := by kernel_rfl
theorem laws_toValueS.inj (a0 : List (List D)) {rs : List (List C)} {os : List Out} {z0 : List (List C)} (h : laws_toValueS.dec rs os = some z0) (ho : Zo (laws_toValueS.as a0) os) : rs = [[.own z0]] ∧ os = [] := by
  unfold laws_toValueS.dec at h
  obtain ⟨c1, r2, rfl, h1⟩ := Zb h
  obtain ⟨x3, l4, rfl, h2⟩ := Zb h1
  obtain ⟨w0, rfl, h3⟩ := ZN h2
  obtain ⟨rfl, h4⟩ := Zc h3
  obtain ⟨rfl, h5⟩ := Zc h4
  obtain ⟨rfl, h6⟩ := Zc h5
  obtain rfl := Option.some.inj h6
  exact ⟨rfl, rfl⟩
noncomputable def laws_toValue.dec (rs : List (List C)) (os : List Out) : Option (Int × ByteArray × Int × (List (List C)) × (List (List C))) := Zd rs fun c1 r2 => Zd c1 fun x3 l4 => cD x3 fun d5 => ZM .i64 d5 fun w0 => Zd l4 fun x6 l7 => cD x6 fun d8 => Zan d8 fun w1 => Zd l7 fun x9 l10 => cD x9 fun d11 => ZM .i64 d11 fun w2 => Zd l10 fun x12 l13 => ZaU x12 fun w3 => Zd l13 fun x14 l15 => ZaU x14 fun w4 => Ze l15 <| Ze r2 <| Ze os (some (w0, w1, w2, w3, w4))
theorem laws_toValue.kt_dec (a0_0 : Int) (a0_1 : ByteArray) (a0_2 : Int) (a0_3 : List (List D)) (a0_4 : List (List D)) : laws_toValue.kt a0_0 a0_1 a0_2 a0_3 a0_4 laws_toValue.dec = (fun z0 z1 z2 z3 z4 => some (z0, z1, z2, z3, z4)) := by kernel_rfl
theorem laws_toValue.inj (a0_0 : Int) (a0_1 : ByteArray) (a0_2 : Int) (a0_3 : List (List D)) (a0_4 : List (List D)) {rs : List (List C)} {os : List Out} {z0 : Int} {z1 : ByteArray} {z2 : Int} {z3 : List (List C)} {z4 : List (List C)} (h : laws_toValue.dec rs os = some (z0, z1, z2, z3, z4)) (ho : Zo (laws_toValue.as a0_0 a0_1 a0_2 a0_3 a0_4) os) : rs = [[.d (.int .i64 z0), .d (.str z1), .d (.int .i64 z2), .own z3, .own z4]] ∧ os = [] := by
  unfold laws_toValue.dec at h
  obtain ⟨c1, r2, rfl, h1⟩ := Zb h
  obtain ⟨x3, l4, rfl, h2⟩ := Zb h1
  obtain ⟨d5, rfl, h3⟩ := Zt h2
  obtain ⟨w0, rfl, h4⟩ := ZA h3
  obtain ⟨x6, l7, rfl, h5⟩ := Zb h4
  obtain ⟨d8, rfl, h6⟩ := Zt h5
  obtain ⟨w1, rfl, h7⟩ := ZaL h6
  obtain ⟨x9, l10, rfl, h8⟩ := Zb h7
  obtain ⟨d11, rfl, h9⟩ := Zt h8
  obtain ⟨w2, rfl, h10⟩ := ZA h9
  obtain ⟨x12, l13, rfl, h11⟩ := Zb h10
  obtain ⟨w3, rfl, h12⟩ := ZN h11
  obtain ⟨x14, l15, rfl, h13⟩ := Zb h12
  obtain ⟨w4, rfl, h14⟩ := ZN h13
  obtain ⟨rfl, h15⟩ := Zc h14
  obtain ⟨rfl, h16⟩ := Zc h15
  obtain ⟨rfl, h17⟩ := Zc h16
  simp only [Option.some.injEq, Prod.mk.injEq] at h17
  obtain ⟨rfl, rfl, rfl, rfl, rfl⟩ := h17
  exact ⟨rfl, rfl⟩
theorem laws_toValueS.oks (k : Nat) : Zv Try.prog 224 (laws_toValueS.e k) ∧ Zv Try.prog 183 (laws_toValue.e k) := by
  induction k with
  | zero =>
    refine ⟨?_, ?_⟩
    · exact Zb1 (Zq Try.func224 (by kernel_rfl)) fun β l K r h => by
        simp only [laws_toValueS.e] at h
        split at h
        · unfold laws_toValueS.f at h
          unfold laws_toValueS.w at h
          rw [laws_toValueS.t_zero] at h
          cases h
        · cases h
    · exact Zb1 (Zq Try.func183 (by kernel_rfl)) fun β l K r h => by
        simp only [laws_toValue.e] at h
        split at h
        · unfold laws_toValue.f at h
          unfold laws_toValue.w at h
          rw [laws_toValue.t_zero] at h
          cases h
        · cases h
  | succ k ih =>
    refine ⟨?_, ?_⟩
    · refine Zu mix tyok (fn := Try.f224) (c := Zl Try.f224) Try.func224 (by kernel_rfl) (h := laws_toValueS.h) (k := k) (E := laws_toValueS.E k) (Zk ih.2 Zz) (by kernel_rfl) (by kernel_rfl) rfl (Zq Try.func224 (by kernel_rfl)) ?_
      intro β l K r hr
      simp only [laws_toValueS.e] at hr
      split at hr
      case h_2 => cases hr
      unfold laws_toValueS.f at hr
      unfold laws_toValueS.w at hr
      split at hr
      case h_2 => cases hr
      rename_i hz
      exact ⟨_, _, hr, _, laws_toValueS.dec, _, (laws_toValueS.f_eq k _ laws_toValueS.dec).trans (by rw [laws_toValueS.kt_dec]; exact hz), fun rs os h ho => laws_toValueS.inj _ h ho⟩
    · refine Zu mix tyok (fn := Try.f183) (c := Zl Try.f183) Try.func183 (by kernel_rfl) (h := laws_toValue.h) (k := k) (E := laws_toValue.E k) (Zk (laws_toStringS.ok k) (Zk ih.1 Zz)) (by kernel_rfl) (by kernel_rfl) rfl (Zq Try.func183 (by kernel_rfl)) ?_
      intro β l K r hr
      simp only [laws_toValue.e] at hr
      split at hr
      case h_2 => cases hr
      unfold laws_toValue.f at hr
      unfold laws_toValue.w at hr
      split at hr
      case h_2 => cases hr
      rename_i hz
      exact ⟨_, _, hr, _, laws_toValue.dec, _, (laws_toValue.f_eq k _ _ _ _ _ laws_toValue.dec).trans (by rw [laws_toValue.kt_dec]; exact hz), fun rs os h ho => laws_toValue.inj _ _ _ _ _ h ho⟩
theorem laws_toValueS.ok (k : Nat) : Zv Try.prog 224 (laws_toValueS.e k) := (laws_toValueS.oks k).1
theorem laws_toValue.ok (k : Nat) : Zv Try.prog 183 (laws_toValue.e k) := (laws_toValueS.oks k).2
noncomputable def laws_toOp.g {β : Type} (k : Nat) (a0_0 : Int) (a0_1 : List (List D)) (a0_2 : Int) (a0_3 : ByteArray) (a0_4 : Int) (a0_5 : List (List D)) (a0_6 : List (List D)) (K : Int → (List (List C)) → Int → ByteArray → Int → (List (List C)) → (List (List C)) → Option β) : Option β :=
  laws_toStringS.f k a0_1 (fun y1 => laws_toValue.f k a0_2 a0_3 a0_4 a0_5 a0_6 (fun y2 y3 y4 y5 y6 => K a0_0 y1 y2 y3 y4 y5 y6))
noncomputable def laws_toOp.t (k : Nat) (a0_0 : Int) (a0_1 : List (List D)) (a0_2 : Int) (a0_3 : ByteArray) (a0_4 : Int) (a0_5 : List (List D)) (a0_6 : List (List D)) : Option (Int × (List (List C)) × Int × ByteArray × Int × (List (List C)) × (List (List C))) := laws_toOp.g k a0_0 a0_1 a0_2 a0_3 a0_4 a0_5 a0_6 (fun z0 z1 z2 z3 z4 z5 z6 => some (z0, z1, z2, z3, z4, z5, z6))
noncomputable def laws_toOp.f {β : Type} (k : Nat) (a0_0 : Int) (a0_1 : List (List D)) (a0_2 : Int) (a0_3 : ByteArray) (a0_4 : Int) (a0_5 : List (List D)) (a0_6 : List (List D)) (K : Int → (List (List C)) → Int → ByteArray → Int → (List (List C)) → (List (List C)) → Option β) : Option β :=
  match laws_toOp.t k a0_0 a0_1 a0_2 a0_3 a0_4 a0_5 a0_6 with
  | some (z0, z1, z2, z3, z4, z5, z6) => K z0 z1 z2 z3 z4 z5 z6
  | none => none
noncomputable def laws_toOp.as (a0_0 : Int) (a0_1 : List (List D)) (a0_2 : Int) (a0_3 : ByteArray) (a0_4 : Int) (a0_5 : List (List D)) (a0_6 : List (List D)) : List A := [.agg [.int .i64 a0_0, .sl a0_1, .int .i64 a0_2, .str a0_3, .int .i64 a0_4, .sl a0_5, .sl a0_6]]
noncomputable def laws_toOp.kt {β : Type} (a0_0 : Int) (a0_1 : List (List D)) (a0_2 : Int) (a0_3 : ByteArray) (a0_4 : Int) (a0_5 : List (List D)) (a0_6 : List (List D)) (K0 : List (List C) → List Out → Option β) : Int → (List (List C)) → Int → ByteArray → Int → (List (List C)) → (List (List C)) → Option β := fun z0 z1 z2 z3 z4 z5 z6 => K0 [[.d (.int .i64 z0), .own z1, .d (.int .i64 z2), .d (.str z3), .d (.int .i64 z4), .own z5, .own z6]] []
noncomputable def laws_toOp.e (k : Nat) : ZQ := { modes := [(.imm, 0)], rts := [337], al := false, run := fun {β} l K => match l with | [.agg [.int .i64 a0_0, .sl a0_1, .int .i64 a0_2, .str a0_3, .int .i64 a0_4, .sl a0_5, .sl a0_6]] => laws_toOp.f k a0_0 a0_1 a0_2 a0_3 a0_4 a0_5 a0_6 (laws_toOp.kt a0_0 a0_1 a0_2 a0_3 a0_4 a0_5 a0_6 K) | _ => none }
noncomputable def laws_toOp.E (k : Nat) : Env := fun g => bif g == 78 then some (laws_toStringS.e k) else bif g == 183 then some (laws_toValue.e k) else none
noncomputable def laws_toOp.h : ZY := ⟨fun n => ⟨[], []⟩, fun _ => none, false, []⟩
theorem laws_toOp.f_eq {β : Type} (k : Nat) (a0_0 : Int) (a0_1 : List (List D)) (a0_2 : Int) (a0_3 : ByteArray) (a0_4 : Int) (a0_5 : List (List D)) (a0_6 : List (List D)) (K0 : List (List C) → List Out → Option β) : ZJ Try.prog (laws_toOp.E k) laws_toOp.h k Try.f268 (laws_toOp.as a0_0 a0_1 a0_2 a0_3 a0_4 a0_5 a0_6) K0 = laws_toOp.g k a0_0 a0_1 a0_2 a0_3 a0_4 a0_5 a0_6 (laws_toOp.kt a0_0 a0_1 a0_2 a0_3 a0_4 a0_5 a0_6 K0) := by kernel_rfl
noncomputable def laws_toOp.dec (rs : List (List C)) (os : List Out) : Option (Int × (List (List C)) × Int × ByteArray × Int × (List (List C)) × (List (List C))) := Zd rs fun c1 r2 => Zd c1 fun x3 l4 => cD x3 fun d5 => ZM .i64 d5 fun w0 => Zd l4 fun x6 l7 => ZaU x6 fun w1 => Zd l7 fun x8 l9 => cD x8 fun d10 => ZM .i64 d10 fun w2 => Zd l9 fun x11 l12 => cD x11 fun d13 => Zan d13 fun w3 => Zd l12 fun x14 l15 => cD x14 fun d16 => ZM .i64 d16 fun w4 => Zd l15 fun x17 l18 => ZaU x17 fun w5 => Zd l18 fun x19 l20 => ZaU x19 fun w6 => Ze l20 <| Ze r2 <| Ze os (some (w0, w1, w2, w3, w4, w5, w6))
theorem laws_toOp.kt_dec (a0_0 : Int) (a0_1 : List (List D)) (a0_2 : Int) (a0_3 : ByteArray) (a0_4 : Int) (a0_5 : List (List D)) (a0_6 : List (List D)) : laws_toOp.kt a0_0 a0_1 a0_2 a0_3 a0_4 a0_5 a0_6 laws_toOp.dec = (fun z0 z1 z2 z3 z4 z5 z6 => some (z0, z1, z2, z3, z4, z5, z6)) := by kernel_rfl
theorem laws_toOp.inj (a0_0 : Int) (a0_1 : List (List D)) (a0_2 : Int) (a0_3 : ByteArray) (a0_4 : Int) (a0_5 : List (List D)) (a0_6 : List (List D)) {rs : List (List C)} {os : List Out} {z0 : Int} {z1 : List (List C)} {z2 : Int} {z3 : ByteArray} {z4 : Int} {z5 : List (List C)} {z6 : List (List C)} (h : laws_toOp.dec rs os = some (z0, z1, z2, z3, z4, z5, z6)) (ho : Zo (laws_toOp.as a0_0 a0_1 a0_2 a0_3 a0_4 a0_5 a0_6) os) : rs = [[.d (.int .i64 z0), .own z1, .d (.int .i64 z2), .d (.str z3), .d (.int .i64 z4), .own z5, .own z6]] ∧ os = [] := by
  unfold laws_toOp.dec at h
  obtain ⟨c1, r2, rfl, h1⟩ := Zb h
  obtain ⟨x3, l4, rfl, h2⟩ := Zb h1
  obtain ⟨d5, rfl, h3⟩ := Zt h2
  obtain ⟨w0, rfl, h4⟩ := ZA h3
  obtain ⟨x6, l7, rfl, h5⟩ := Zb h4
  obtain ⟨w1, rfl, h6⟩ := ZN h5
  obtain ⟨x8, l9, rfl, h7⟩ := Zb h6
  obtain ⟨d10, rfl, h8⟩ := Zt h7
  obtain ⟨w2, rfl, h9⟩ := ZA h8
  obtain ⟨x11, l12, rfl, h10⟩ := Zb h9
  obtain ⟨d13, rfl, h11⟩ := Zt h10
  obtain ⟨w3, rfl, h12⟩ := ZaL h11
  obtain ⟨x14, l15, rfl, h13⟩ := Zb h12
  obtain ⟨d16, rfl, h14⟩ := Zt h13
  obtain ⟨w4, rfl, h15⟩ := ZA h14
  obtain ⟨x17, l18, rfl, h16⟩ := Zb h15
  obtain ⟨w5, rfl, h17⟩ := ZN h16
  obtain ⟨x19, l20, rfl, h18⟩ := Zb h17
  obtain ⟨w6, rfl, h19⟩ := ZN h18
  obtain ⟨rfl, h20⟩ := Zc h19
  obtain ⟨rfl, h21⟩ := Zc h20
  obtain ⟨rfl, h22⟩ := Zc h21
  simp only [Option.some.injEq, Prod.mk.injEq] at h22
  obtain ⟨rfl, rfl, rfl, rfl, rfl, rfl, rfl⟩ := h22
  exact ⟨rfl, rfl⟩
theorem laws_toOp.ok (k : Nat) : Zv Try.prog 268 (laws_toOp.e k) := by
  refine Zu mix tyok (fn := Try.f268) (c := Zl Try.f268) Try.func268 (by kernel_rfl) (h := laws_toOp.h) (k := k) (E := laws_toOp.E k) (Zk (laws_toStringS.ok k) (Zk (laws_toValue.ok k) Zz)) (by kernel_rfl) (by kernel_rfl) rfl (Zq Try.func268 (by kernel_rfl)) ?_
  intro β l K r hr
  simp only [laws_toOp.e] at hr
  split at hr
  case h_2 => cases hr
  unfold laws_toOp.f at hr
  split at hr
  case h_2 => cases hr
  rename_i hz
  exact ⟨_, _, hr, _, laws_toOp.dec, _, (laws_toOp.f_eq k _ _ _ _ _ _ _ laws_toOp.dec).trans (by rw [laws_toOp.kt_dec]; exact hz), fun rs os h ho => laws_toOp.inj _ _ _ _ _ _ _ h ho⟩
noncomputable def laws_toOpS.l0 {β : Type} (k : Nat) (v0_0 : List (List D)) (K : (List (List C)) → Option β) (L0 : (Int × (List (List C))) → Option β) (v : Int × (List (List C))) : Option β :=
  match v with
  | (v0_1, v0_2) => bif (decide ((v0_1 : Int) < (v0_0.length : Int))) then (ZX v0_0 v0_1 fun c30 => Zd c30 fun d31 r32 => ZM .i64 d31 fun x33 => Zd r32 fun d34 r35 => dSl d34 fun x36 => Zd r35 fun d37 r38 => ZM .i64 d37 fun x39 => Zd r38 fun d40 r41 => Zan d40 fun x42 => Zd r41 fun d43 r44 => ZM .i64 d43 fun x45 => Zd r44 fun d46 r47 => dSl d46 fun x48 => Zd r47 fun d49 r50 => dSl d49 fun x51 => Ze r50 (laws_toOp.f k x33 x36 x39 x42 x45 x48 x51 (fun y52 y53 y54 y55 y56 y57 y58 => ZH ((0 : Int) ≤ v0_1 ∧ v0_1 < (v0_2.length : Int)) (ZH (Int.toNat v0_1 < v0_2.length) (L0 (IntKind.wrap .i64 (v0_1 + 1), v0_2.modify (Int.toNat v0_1) fun c => Z1 c 0 [.d (.int .i64 y52), .own y53, .d (.int .i64 y54), .d (.str y55), .d (.int .i64 y56), .own y57, .own y58])))))) else (K v0_2)
noncomputable def laws_toOpS.g {β : Type} (k : Nat) (a0 : List (List D)) (K : (List (List C)) → Option β) : Option β :=
  ZH ((0 : Int) ≤ (a0.length : Int) ∧ (a0.length : Int) ≤ (Z6 : Int) ∧ (a0.length : Int) ≤ (a0.length : Int) ∧ (a0.length : Int) ≤ (a0.length : Int)) (Z4 (laws_toOpS.l0 k a0 K) k (0, List.replicate (Int.toNat (a0.length : Int)) ([.d (.int .i64 0), .own ([] : List (List C)), .d (.int .i64 0), .d (.str (⟨#[]⟩ : ByteArray)), .d (.int .i64 0), .own ([] : List (List C)), .own ([] : List (List C))] : List C)))
noncomputable def laws_toOpS.t (k : Nat) (a0 : List (List D)) : Option ((List (List C))) := laws_toOpS.g k a0 (fun z0 => some z0)
noncomputable def laws_toOpS.f {β : Type} (k : Nat) (a0 : List (List D)) (K : (List (List C)) → Option β) : Option β :=
  match laws_toOpS.t k a0 with
  | some z0 => K z0
  | none => none
noncomputable def laws_toOpS.as (a0 : List (List D)) : List A := [.d (.sl a0)]
noncomputable def laws_toOpS.kt {β : Type} (a0 : List (List D)) (K0 : List (List C) → List Out → Option β) : (List (List C)) → Option β := fun z0 => K0 [[.own z0]] []
noncomputable def laws_toOpS.e (k : Nat) : ZQ := { modes := [(.imm, 0)], rts := [302], al := false, run := fun {β} l K => match l with | [.d (.sl a0)] => laws_toOpS.f k a0 (laws_toOpS.kt a0 K) | _ => none }
noncomputable def laws_toOpS.E (k : Nat) : Env := fun g => bif g == 268 then some (laws_toOp.e k) else none
noncomputable def laws_toOpS.h : ZY := ⟨fun n => bif n == 3 then ⟨[(0, .asis), (3, .asis), (4, .asis)], []⟩ else ⟨[], []⟩, fun _ => none, false, []⟩
noncomputable def laws_toOpS.s0 (v0_0 : List (List D)) (v : Int × (List (List C))) : St :=
  match v with
  | (v0_1, v0_2) => ⟨[.d false (.sl v0_0), .any, .any, .row 0, .d true (.int .i64 v0_1), .any, .any, .any, .any, .any, .any, .any, .any, .any, .any, .any, .any, .any, .any, .any, .any, .any, .any], [.row none true 302 v0_2]⟩
noncomputable def laws_toOpS.b0 {β : Type} (k : Nat) : St → (Ex → St → Option β) → Option β := fun s K => den Try.prog (laws_toOpS.E k) laws_toOpS.h.H laws_toOpS.h.J k (Zad [1, 1, 0, 1, 0, 0] (Zl Try.f259)) s K
noncomputable def laws_toOpS.c0 {β : Type} (k : Nat) (a0 : List (List D)) (K0 : List (List C) → List Out → Option β) : Ex → St → Option β := Zae Try.prog (laws_toOpS.E k) laws_toOpS.h k [1, 1, 0, 1, 0] (Zl Try.f259) (Zak Try.prog Try.f259 laws_toOpS.h (laws_toOpS.as a0) K0)
theorem laws_toOpS.l0_eq {β : Type} (k : Nat) (a0 : List (List D)) (K0 : List (List C) → List Out → Option β) (v0_0 : List (List D)) : ∀ (kk : Nat) (v : Int × (List (List C))), Zx (laws_toOpS.b0 k) (laws_toOpS.h.H 3) kk (laws_toOpS.s0 v0_0 v) (laws_toOpS.c0 k a0 K0) = Z4 (laws_toOpS.l0 k v0_0 (laws_toOpS.kt a0 K0)) kk v :=
  Z9 (laws_toOpS.s0 v0_0) _ (fun L0 v => by obtain ⟨v0_1, v0_2⟩ := v; kernel_rfl)
noncomputable def laws_toOpS.m {β : Type} (k : Nat) (a0 : List (List D)) (K0 : List (List C) → List Out → Option β) (F : ((List (List D)) → (Int × (List (List C))) → Option β)) : Option β :=
  ZH ((0 : Int) ≤ (a0.length : Int) ∧ (a0.length : Int) ≤ (Z6 : Int) ∧ (a0.length : Int) ≤ (a0.length : Int) ∧ (a0.length : Int) ≤ (a0.length : Int)) ((F) a0 (0, List.replicate (Int.toNat (a0.length : Int)) ([.d (.int .i64 0), .own ([] : List (List C)), .d (.int .i64 0), .d (.str (⟨#[]⟩ : ByteArray)), .d (.int .i64 0), .own ([] : List (List C)), .own ([] : List (List C))] : List C)))
theorem laws_toOpS.f_eq {β : Type} (k : Nat) (a0 : List (List D)) (K0 : List (List C) → List Out → Option β) : ZJ Try.prog (laws_toOpS.E k) laws_toOpS.h k Try.f259 (laws_toOpS.as a0) K0 = laws_toOpS.g k a0 (laws_toOpS.kt a0 K0) := Eq.trans (b := (laws_toOpS.m k a0 K0) (fun (v0_0 : List (List D)) (v : Int × (List (List C))) => Zx (laws_toOpS.b0 k) (laws_toOpS.h.H 3) k (laws_toOpS.s0 v0_0 v) (laws_toOpS.c0 k a0 K0))) (by kernel_rfl) (Eq.trans (congrArg (laws_toOpS.m k a0 K0) (funext fun v0_0 => funext fun v => laws_toOpS.l0_eq k a0 K0 v0_0 k v)) (by kernel_rfl))
noncomputable def laws_toOpS.dec (rs : List (List C)) (os : List Out) : Option ((List (List C))) := Zd rs fun c1 r2 => Zd c1 fun x3 l4 => ZaU x3 fun w0 => Ze l4 <| Ze r2 <| Ze os (some w0)
theorem laws_toOpS.kt_dec (a0 : List (List D)) : laws_toOpS.kt a0 laws_toOpS.dec = (fun z0 => some z0) := by kernel_rfl
theorem laws_toOpS.inj (a0 : List (List D)) {rs : List (List C)} {os : List Out} {z0 : List (List C)} (h : laws_toOpS.dec rs os = some z0) (ho : Zo (laws_toOpS.as a0) os) : rs = [[.own z0]] ∧ os = [] := by
  unfold laws_toOpS.dec at h
  obtain ⟨c1, r2, rfl, h1⟩ := Zb h
  obtain ⟨x3, l4, rfl, h2⟩ := Zb h1
  obtain ⟨w0, rfl, h3⟩ := ZN h2
  obtain ⟨rfl, h4⟩ := Zc h3
  obtain ⟨rfl, h5⟩ := Zc h4
  obtain ⟨rfl, h6⟩ := Zc h5
  obtain rfl := Option.some.inj h6
  exact ⟨rfl, rfl⟩
theorem laws_toOpS.ok (k : Nat) : Zv Try.prog 259 (laws_toOpS.e k) := by
  refine Zu mix tyok (fn := Try.f259) (c := Zl Try.f259) Try.func259 (by kernel_rfl) (h := laws_toOpS.h) (k := k) (E := laws_toOpS.E k) (Zk (laws_toOp.ok k) Zz) (by kernel_rfl) (by kernel_rfl) rfl (Zq Try.func259 (by kernel_rfl)) ?_
  intro β l K r hr
  simp only [laws_toOpS.e] at hr
  split at hr
  case h_2 => cases hr
  unfold laws_toOpS.f at hr
  split at hr
  case h_2 => cases hr
  rename_i hz
  exact ⟨_, _, hr, _, laws_toOpS.dec, _, (laws_toOpS.f_eq k _ laws_toOpS.dec).trans (by rw [laws_toOpS.kt_dec]; exact hz), fun rs os h ho => laws_toOpS.inj _ h ho⟩
noncomputable def laws_toOver.g {β : Type} (k : Nat) (a0_0 : ByteArray) (a0_1 : List (List D)) (K : ByteArray → (List (List C)) → Option β) : Option β :=
  laws_toOpS.f k a0_1 (fun y59 => K a0_0 y59)
noncomputable def laws_toOver.t (k : Nat) (a0_0 : ByteArray) (a0_1 : List (List D)) : Option (ByteArray × (List (List C))) := laws_toOver.g k a0_0 a0_1 (fun z0 z1 => some (z0, z1))
noncomputable def laws_toOver.f {β : Type} (k : Nat) (a0_0 : ByteArray) (a0_1 : List (List D)) (K : ByteArray → (List (List C)) → Option β) : Option β :=
  match laws_toOver.t k a0_0 a0_1 with
  | some (z0, z1) => K z0 z1
  | none => none
noncomputable def laws_toOver.as (a0_0 : ByteArray) (a0_1 : List (List D)) : List A := [.agg [.str a0_0, .sl a0_1]]
noncomputable def laws_toOver.kt {β : Type} (a0_0 : ByteArray) (a0_1 : List (List D)) (K0 : List (List C) → List Out → Option β) : ByteArray → (List (List C)) → Option β := fun z0 z1 => K0 [[.d (.str z0), .own z1]] []
noncomputable def laws_toOver.e (k : Nat) : ZQ := { modes := [(.imm, 0)], rts := [304], al := false, run := fun {β} l K => match l with | [.agg [.str a0_0, .sl a0_1]] => laws_toOver.f k a0_0 a0_1 (laws_toOver.kt a0_0 a0_1 K) | _ => none }
noncomputable def laws_toOver.E (k : Nat) : Env := fun g => bif g == 259 then some (laws_toOpS.e k) else none
noncomputable def laws_toOver.h : ZY := ⟨fun n => ⟨[], []⟩, fun _ => none, false, []⟩
theorem laws_toOver.f_eq {β : Type} (k : Nat) (a0_0 : ByteArray) (a0_1 : List (List D)) (K0 : List (List C) → List Out → Option β) : ZJ Try.prog (laws_toOver.E k) laws_toOver.h k Try.f241 (laws_toOver.as a0_0 a0_1) K0 = laws_toOver.g k a0_0 a0_1 (laws_toOver.kt a0_0 a0_1 K0) := by kernel_rfl
noncomputable def laws_toOver.dec (rs : List (List C)) (os : List Out) : Option (ByteArray × (List (List C))) := Zd rs fun c1 r2 => Zd c1 fun x3 l4 => cD x3 fun d5 => Zan d5 fun w0 => Zd l4 fun x6 l7 => ZaU x6 fun w1 => Ze l7 <| Ze r2 <| Ze os (some (w0, w1))
theorem laws_toOver.kt_dec (a0_0 : ByteArray) (a0_1 : List (List D)) : laws_toOver.kt a0_0 a0_1 laws_toOver.dec = (fun z0 z1 => some (z0, z1)) := by kernel_rfl
theorem laws_toOver.inj (a0_0 : ByteArray) (a0_1 : List (List D)) {rs : List (List C)} {os : List Out} {z0 : ByteArray} {z1 : List (List C)} (h : laws_toOver.dec rs os = some (z0, z1)) (ho : Zo (laws_toOver.as a0_0 a0_1) os) : rs = [[.d (.str z0), .own z1]] ∧ os = [] := by
  unfold laws_toOver.dec at h
  obtain ⟨c1, r2, rfl, h1⟩ := Zb h
  obtain ⟨x3, l4, rfl, h2⟩ := Zb h1
  obtain ⟨d5, rfl, h3⟩ := Zt h2
  obtain ⟨w0, rfl, h4⟩ := ZaL h3
  obtain ⟨x6, l7, rfl, h5⟩ := Zb h4
  obtain ⟨w1, rfl, h6⟩ := ZN h5
  obtain ⟨rfl, h7⟩ := Zc h6
  obtain ⟨rfl, h8⟩ := Zc h7
  obtain ⟨rfl, h9⟩ := Zc h8
  simp only [Option.some.injEq, Prod.mk.injEq] at h9
  obtain ⟨rfl, rfl⟩ := h9
  exact ⟨rfl, rfl⟩
theorem laws_toOver.ok (k : Nat) : Zv Try.prog 241 (laws_toOver.e k) := by
  refine Zu mix tyok (fn := Try.f241) (c := Zl Try.f241) Try.func241 (by kernel_rfl) (h := laws_toOver.h) (k := k) (E := laws_toOver.E k) (Zk (laws_toOpS.ok k) Zz) (by kernel_rfl) (by kernel_rfl) rfl (Zq Try.func241 (by kernel_rfl)) ?_
  intro β l K r hr
  simp only [laws_toOver.e] at hr
  split at hr
  case h_2 => cases hr
  unfold laws_toOver.f at hr
  split at hr
  case h_2 => cases hr
  rename_i hz
  exact ⟨_, _, hr, _, laws_toOver.dec, _, (laws_toOver.f_eq k _ _ laws_toOver.dec).trans (by rw [laws_toOver.kt_dec]; exact hz), fun rs os h ho => laws_toOver.inj _ _ h ho⟩
noncomputable def laws_toOverS.l0 {β : Type} (k : Nat) (v0_0 : List (List D)) (K : (List (List C)) → Option β) (L0 : (Int × (List (List C))) → Option β) (v : Int × (List (List C))) : Option β :=
  match v with
  | (v0_1, v0_2) => bif (decide ((v0_1 : Int) < (v0_0.length : Int))) then (ZX v0_0 v0_1 fun c62 => Zd c62 fun d63 r64 => Zan d63 fun x65 => Zd r64 fun d66 r67 => dSl d66 fun x68 => Ze r67 (laws_toOver.f k x65 x68 (fun y69 y70 => ZH ((0 : Int) ≤ v0_1 ∧ v0_1 < (v0_2.length : Int)) (ZH (Int.toNat v0_1 < v0_2.length) (L0 (IntKind.wrap .i64 (v0_1 + 1), v0_2.modify (Int.toNat v0_1) fun c => Z1 c 0 [.d (.str y69), .own y70])))))) else (K v0_2)
noncomputable def laws_toOverS.g {β : Type} (k : Nat) (a0 : List (List D)) (K : (List (List C)) → Option β) : Option β :=
  ZH ((0 : Int) ≤ (a0.length : Int) ∧ (a0.length : Int) ≤ (Z6 : Int) ∧ (a0.length : Int) ≤ (a0.length : Int) ∧ (a0.length : Int) ≤ (a0.length : Int)) (Z4 (laws_toOverS.l0 k a0 K) k (0, List.replicate (Int.toNat (a0.length : Int)) ([.d (.str (⟨#[]⟩ : ByteArray)), .own ([] : List (List C))] : List C)))
noncomputable def laws_toOverS.t (k : Nat) (a0 : List (List D)) : Option ((List (List C))) := laws_toOverS.g k a0 (fun z0 => some z0)
noncomputable def laws_toOverS.f {β : Type} (k : Nat) (a0 : List (List D)) (K : (List (List C)) → Option β) : Option β :=
  match laws_toOverS.t k a0 with
  | some z0 => K z0
  | none => none
noncomputable def laws_toOverS.as (a0 : List (List D)) : List A := [.d (.sl a0)]
noncomputable def laws_toOverS.kt {β : Type} (a0 : List (List D)) (K0 : List (List C) → List Out → Option β) : (List (List C)) → Option β := fun z0 => K0 [[.own z0]] []
noncomputable def laws_toOverS.e (k : Nat) : ZQ := { modes := [(.imm, 0)], rts := [219], al := false, run := fun {β} l K => match l with | [.d (.sl a0)] => laws_toOverS.f k a0 (laws_toOverS.kt a0 K) | _ => none }
noncomputable def laws_toOverS.E (k : Nat) : Env := fun g => bif g == 241 then some (laws_toOver.e k) else none
noncomputable def laws_toOverS.h : ZY := ⟨fun n => bif n == 3 then ⟨[(0, .asis), (3, .asis), (4, .asis)], []⟩ else ⟨[], []⟩, fun _ => none, false, []⟩
noncomputable def laws_toOverS.s0 (v0_0 : List (List D)) (v : Int × (List (List C))) : St :=
  match v with
  | (v0_1, v0_2) => ⟨[.d false (.sl v0_0), .any, .any, .row 0, .d true (.int .i64 v0_1), .any, .any, .any, .any, .any, .any, .any, .any, .any, .any, .any, .any, .any, .any, .any, .any, .any, .any], [.row none true 219 v0_2]⟩
noncomputable def laws_toOverS.b0 {β : Type} (k : Nat) : St → (Ex → St → Option β) → Option β := fun s K => den Try.prog (laws_toOverS.E k) laws_toOverS.h.H laws_toOverS.h.J k (Zad [1, 1, 0, 1, 0, 0] (Zl Try.f216)) s K
noncomputable def laws_toOverS.c0 {β : Type} (k : Nat) (a0 : List (List D)) (K0 : List (List C) → List Out → Option β) : Ex → St → Option β := Zae Try.prog (laws_toOverS.E k) laws_toOverS.h k [1, 1, 0, 1, 0] (Zl Try.f216) (Zak Try.prog Try.f216 laws_toOverS.h (laws_toOverS.as a0) K0)
theorem laws_toOverS.l0_eq {β : Type} (k : Nat) (a0 : List (List D)) (K0 : List (List C) → List Out → Option β) (v0_0 : List (List D)) : ∀ (kk : Nat) (v : Int × (List (List C))), Zx (laws_toOverS.b0 k) (laws_toOverS.h.H 3) kk (laws_toOverS.s0 v0_0 v) (laws_toOverS.c0 k a0 K0) = Z4 (laws_toOverS.l0 k v0_0 (laws_toOverS.kt a0 K0)) kk v :=
  Z9 (laws_toOverS.s0 v0_0) _ (fun L0 v => by obtain ⟨v0_1, v0_2⟩ := v; kernel_rfl)
noncomputable def laws_toOverS.m {β : Type} (k : Nat) (a0 : List (List D)) (K0 : List (List C) → List Out → Option β) (F : ((List (List D)) → (Int × (List (List C))) → Option β)) : Option β :=
  ZH ((0 : Int) ≤ (a0.length : Int) ∧ (a0.length : Int) ≤ (Z6 : Int) ∧ (a0.length : Int) ≤ (a0.length : Int) ∧ (a0.length : Int) ≤ (a0.length : Int)) ((F) a0 (0, List.replicate (Int.toNat (a0.length : Int)) ([.d (.str (⟨#[]⟩ : ByteArray)), .own ([] : List (List C))] : List C)))
theorem laws_toOverS.f_eq {β : Type} (k : Nat) (a0 : List (List D)) (K0 : List (List C) → List Out → Option β) : ZJ Try.prog (laws_toOverS.E k) laws_toOverS.h k Try.f216 (laws_toOverS.as a0) K0 = laws_toOverS.g k a0 (laws_toOverS.kt a0 K0) := Eq.trans (b := (laws_toOverS.m k a0 K0) (fun (v0_0 : List (List D)) (v : Int × (List (List C))) => Zx (laws_toOverS.b0 k) (laws_toOverS.h.H 3) k (laws_toOverS.s0 v0_0 v) (laws_toOverS.c0 k a0 K0))) (by kernel_rfl) (Eq.trans (congrArg (laws_toOverS.m k a0 K0) (funext fun v0_0 => funext fun v => laws_toOverS.l0_eq k a0 K0 v0_0 k v)) (by kernel_rfl))
noncomputable def laws_toOverS.dec (rs : List (List C)) (os : List Out) : Option ((List (List C))) := Zd rs fun c1 r2 => Zd c1 fun x3 l4 => ZaU x3 fun w0 => Ze l4 <| Ze r2 <| Ze os (some w0)
theorem laws_toOverS.kt_dec (a0 : List (List D)) : laws_toOverS.kt a0 laws_toOverS.dec = (fun z0 => some z0) := by kernel_rfl
theorem laws_toOverS.inj (a0 : List (List D)) {rs : List (List C)} {os : List Out} {z0 : List (List C)} (h : laws_toOverS.dec rs os = some z0) (ho : Zo (laws_toOverS.as a0) os) : rs = [[.own z0]] ∧ os = [] := by
  unfold laws_toOverS.dec at h
  obtain ⟨c1, r2, rfl, h1⟩ := Zb h
  obtain ⟨x3, l4, rfl, h2⟩ := Zb h1
  obtain ⟨w0, rfl, h3⟩ := ZN h2
  obtain ⟨rfl, h4⟩ := Zc h3
  obtain ⟨rfl, h5⟩ := Zc h4
  obtain ⟨rfl, h6⟩ := Zc h5
  obtain rfl := Option.some.inj h6
  exact ⟨rfl, rfl⟩
theorem laws_toOverS.ok (k : Nat) : Zv Try.prog 216 (laws_toOverS.e k) := by
  refine Zu mix tyok (fn := Try.f216) (c := Zl Try.f216) Try.func216 (by kernel_rfl) (h := laws_toOverS.h) (k := k) (E := laws_toOverS.E k) (Zk (laws_toOver.ok k) Zz) (by kernel_rfl) (by kernel_rfl) rfl (Zq Try.func216 (by kernel_rfl)) ?_
  intro β l K r hr
  simp only [laws_toOverS.e] at hr
  split at hr
  case h_2 => cases hr
  unfold laws_toOverS.f at hr
  split at hr
  case h_2 => cases hr
  rename_i hz
  exact ⟨_, _, hr, _, laws_toOverS.dec, _, (laws_toOverS.f_eq k _ laws_toOverS.dec).trans (by rw [laws_toOverS.kt_dec]; exact hz), fun rs os h ho => laws_toOverS.inj _ h ho⟩
noncomputable def laws_toJob.g {β : Type} (k : Nat) (a0_0 : Int) (a0_1 : ByteArray) (a0_2 : Int) (a0_3 : List (List D)) (a0_4 : List (List D)) (a0_5 : List (List D)) (a0_6 : Int) (a0_7 : ByteArray) (a0_8 : Int) (a0_9 : List (List D)) (a0_10 : List (List D)) (a0_11 : List (List D)) (a0_12 : Bool) (K : Int → ByteArray → Int → (List (List C)) → (List (List C)) → (List (List C)) → Int → ByteArray → Int → (List (List C)) → (List (List C)) → (List (List C)) → Bool → Option β) : Option β :=
  laws_toWant.f k a0_2 a0_3 a0_4 a0_5 (fun y30 y31 y32 y33 => laws_toValue.f k a0_6 a0_7 a0_8 a0_9 a0_10 (fun y44 y45 y46 y47 y48 => laws_toOverS.f k a0_11 (fun y71 => K a0_0 a0_1 y30 y31 y32 y33 y44 y45 y46 y47 y48 y71 a0_12)))
noncomputable def laws_toJob.t (k : Nat) (a0_0 : Int) (a0_1 : ByteArray) (a0_2 : Int) (a0_3 : List (List D)) (a0_4 : List (List D)) (a0_5 : List (List D)) (a0_6 : Int) (a0_7 : ByteArray) (a0_8 : Int) (a0_9 : List (List D)) (a0_10 : List (List D)) (a0_11 : List (List D)) (a0_12 : Bool) : Option (Int × ByteArray × Int × (List (List C)) × (List (List C)) × (List (List C)) × Int × ByteArray × Int × (List (List C)) × (List (List C)) × (List (List C)) × Bool) := laws_toJob.g k a0_0 a0_1 a0_2 a0_3 a0_4 a0_5 a0_6 a0_7 a0_8 a0_9 a0_10 a0_11 a0_12 (fun z0 z1 z2 z3 z4 z5 z6 z7 z8 z9 z10 z11 z12 => some (z0, z1, z2, z3, z4, z5, z6, z7, z8, z9, z10, z11, z12))
noncomputable def laws_toJob.f {β : Type} (k : Nat) (a0_0 : Int) (a0_1 : ByteArray) (a0_2 : Int) (a0_3 : List (List D)) (a0_4 : List (List D)) (a0_5 : List (List D)) (a0_6 : Int) (a0_7 : ByteArray) (a0_8 : Int) (a0_9 : List (List D)) (a0_10 : List (List D)) (a0_11 : List (List D)) (a0_12 : Bool) (K : Int → ByteArray → Int → (List (List C)) → (List (List C)) → (List (List C)) → Int → ByteArray → Int → (List (List C)) → (List (List C)) → (List (List C)) → Bool → Option β) : Option β :=
  match laws_toJob.t k a0_0 a0_1 a0_2 a0_3 a0_4 a0_5 a0_6 a0_7 a0_8 a0_9 a0_10 a0_11 a0_12 with
  | some (z0, z1, z2, z3, z4, z5, z6, z7, z8, z9, z10, z11, z12) => K z0 z1 z2 z3 z4 z5 z6 z7 z8 z9 z10 z11 z12
  | none => none
noncomputable def laws_toJob.as (a0_0 : Int) (a0_1 : ByteArray) (a0_2 : Int) (a0_3 : List (List D)) (a0_4 : List (List D)) (a0_5 : List (List D)) (a0_6 : Int) (a0_7 : ByteArray) (a0_8 : Int) (a0_9 : List (List D)) (a0_10 : List (List D)) (a0_11 : List (List D)) (a0_12 : Bool) : List A := [.agg [.int .i64 a0_0, .str a0_1, .int .i64 a0_2, .sl a0_3, .sl a0_4, .sl a0_5, .int .i64 a0_6, .str a0_7, .int .i64 a0_8, .sl a0_9, .sl a0_10, .sl a0_11, .bool a0_12]]
noncomputable def laws_toJob.kt {β : Type} (a0_0 : Int) (a0_1 : ByteArray) (a0_2 : Int) (a0_3 : List (List D)) (a0_4 : List (List D)) (a0_5 : List (List D)) (a0_6 : Int) (a0_7 : ByteArray) (a0_8 : Int) (a0_9 : List (List D)) (a0_10 : List (List D)) (a0_11 : List (List D)) (a0_12 : Bool) (K0 : List (List C) → List Out → Option β) : Int → ByteArray → Int → (List (List C)) → (List (List C)) → (List (List C)) → Int → ByteArray → Int → (List (List C)) → (List (List C)) → (List (List C)) → Bool → Option β := fun z0 z1 z2 z3 z4 z5 z6 z7 z8 z9 z10 z11 z12 => K0 [[.d (.int .i64 z0), .d (.str z1), .d (.int .i64 z2), .own z3, .own z4, .own z5, .d (.int .i64 z6), .d (.str z7), .d (.int .i64 z8), .own z9, .own z10, .own z11, .d (.bool z12)]] []
noncomputable def laws_toJob.e (k : Nat) : ZQ := { modes := [(.imm, 0)], rts := [221], al := false, run := fun {β} l K => match l with | [.agg [.int .i64 a0_0, .str a0_1, .int .i64 a0_2, .sl a0_3, .sl a0_4, .sl a0_5, .int .i64 a0_6, .str a0_7, .int .i64 a0_8, .sl a0_9, .sl a0_10, .sl a0_11, .bool a0_12]] => laws_toJob.f k a0_0 a0_1 a0_2 a0_3 a0_4 a0_5 a0_6 a0_7 a0_8 a0_9 a0_10 a0_11 a0_12 (laws_toJob.kt a0_0 a0_1 a0_2 a0_3 a0_4 a0_5 a0_6 a0_7 a0_8 a0_9 a0_10 a0_11 a0_12 K) | _ => none }
noncomputable def laws_toJob.E (k : Nat) : Env := fun g => bif g == 215 then some (laws_toWant.e k) else bif g == 183 then some (laws_toValue.e k) else bif g == 216 then some (laws_toOverS.e k) else none
noncomputable def laws_toJob.h : ZY := ⟨fun n => ⟨[], []⟩, fun _ => none, false, []⟩
theorem laws_toJob.f_eq {β : Type} (k : Nat) (a0_0 : Int) (a0_1 : ByteArray) (a0_2 : Int) (a0_3 : List (List D)) (a0_4 : List (List D)) (a0_5 : List (List D)) (a0_6 : Int) (a0_7 : ByteArray) (a0_8 : Int) (a0_9 : List (List D)) (a0_10 : List (List D)) (a0_11 : List (List D)) (a0_12 : Bool) (K0 : List (List C) → List Out → Option β) : ZJ Try.prog (laws_toJob.E k) laws_toJob.h k Try.f164 (laws_toJob.as a0_0 a0_1 a0_2 a0_3 a0_4 a0_5 a0_6 a0_7 a0_8 a0_9 a0_10 a0_11 a0_12) K0 = laws_toJob.g k a0_0 a0_1 a0_2 a0_3 a0_4 a0_5 a0_6 a0_7 a0_8 a0_9 a0_10 a0_11 a0_12 (laws_toJob.kt a0_0 a0_1 a0_2 a0_3 a0_4 a0_5 a0_6 a0_7 a0_8 a0_9 a0_10 a0_11 a0_12 K0) := by kernel_rfl
noncomputable def laws_toJob.dec (rs : List (List C)) (os : List Out) : Option (Int × ByteArray × Int × (List (List C)) × (List (List C)) × (List (List C)) × Int × ByteArray × Int × (List (List C)) × (List (List C)) × (List (List C)) × Bool) := Zd rs fun c1 r2 => Zd c1 fun x3 l4 => cD x3 fun d5 => ZM .i64 d5 fun w0 => Zd l4 fun x6 l7 => cD x6 fun d8 => Zan d8 fun w1 => Zd l7 fun x9 l10 => cD x9 fun d11 => ZM .i64 d11 fun w2 => Zd l10 fun x12 l13 => ZaU x12 fun w3 => Zd l13 fun x14 l15 => ZaU x14 fun w4 => Zd l15 fun x16 l17 => ZaU x16 fun w5 => Zd l17 fun x18 l19 => cD x18 fun d20 => ZM .i64 d20 fun w6 => Zd l19 fun x21 l22 => cD x21 fun d23 => Zan d23 fun w7 => Zd l22 fun x24 l25 => cD x24 fun d26 => ZM .i64 d26 fun w8 => Zd l25 fun x27 l28 => ZaU x27 fun w9 => Zd l28 fun x29 l30 => ZaU x29 fun w10 => Zd l30 fun x31 l32 => ZaU x31 fun w11 => Zd l32 fun x33 l34 => cD x33 fun d35 => ZaF d35 fun w12 => Ze l34 <| Ze r2 <| Ze os (some (w0, w1, w2, w3, w4, w5, w6, w7, w8, w9, w10, w11, w12))
theorem laws_toJob.kt_dec (a0_0 : Int) (a0_1 : ByteArray) (a0_2 : Int) (a0_3 : List (List D)) (a0_4 : List (List D)) (a0_5 : List (List D)) (a0_6 : Int) (a0_7 : ByteArray) (a0_8 : Int) (a0_9 : List (List D)) (a0_10 : List (List D)) (a0_11 : List (List D)) (a0_12 : Bool) : laws_toJob.kt a0_0 a0_1 a0_2 a0_3 a0_4 a0_5 a0_6 a0_7 a0_8 a0_9 a0_10 a0_11 a0_12 laws_toJob.dec = (fun z0 z1 z2 z3 z4 z5 z6 z7 z8 z9 z10 z11 z12 => some (z0, z1, z2, z3, z4, z5, z6, z7, z8, z9, z10, z11, z12)) := by kernel_rfl
theorem laws_toJob.inj (a0_0 : Int) (a0_1 : ByteArray) (a0_2 : Int) (a0_3 : List (List D)) (a0_4 : List (List D)) (a0_5 : List (List D)) (a0_6 : Int) (a0_7 : ByteArray) (a0_8 : Int) (a0_9 : List (List D)) (a0_10 : List (List D)) (a0_11 : List (List D)) (a0_12 : Bool) {rs : List (List C)} {os : List Out} {z0 : Int} {z1 : ByteArray} {z2 : Int} {z3 : List (List C)} {z4 : List (List C)} {z5 : List (List C)} {z6 : Int} {z7 : ByteArray} {z8 : Int} {z9 : List (List C)} {z10 : List (List C)} {z11 : List (List C)} {z12 : Bool} (h : laws_toJob.dec rs os = some (z0, z1, z2, z3, z4, z5, z6, z7, z8, z9, z10, z11, z12)) (ho : Zo (laws_toJob.as a0_0 a0_1 a0_2 a0_3 a0_4 a0_5 a0_6 a0_7 a0_8 a0_9 a0_10 a0_11 a0_12) os) : rs = [[.d (.int .i64 z0), .d (.str z1), .d (.int .i64 z2), .own z3, .own z4, .own z5, .d (.int .i64 z6), .d (.str z7), .d (.int .i64 z8), .own z9, .own z10, .own z11, .d (.bool z12)]] ∧ os = [] := by
  unfold laws_toJob.dec at h
  obtain ⟨c1, r2, rfl, h1⟩ := Zb h
  obtain ⟨x3, l4, rfl, h2⟩ := Zb h1
  obtain ⟨d5, rfl, h3⟩ := Zt h2
  obtain ⟨w0, rfl, h4⟩ := ZA h3
  obtain ⟨x6, l7, rfl, h5⟩ := Zb h4
  obtain ⟨d8, rfl, h6⟩ := Zt h5
  obtain ⟨w1, rfl, h7⟩ := ZaL h6
  obtain ⟨x9, l10, rfl, h8⟩ := Zb h7
  obtain ⟨d11, rfl, h9⟩ := Zt h8
  obtain ⟨w2, rfl, h10⟩ := ZA h9
  obtain ⟨x12, l13, rfl, h11⟩ := Zb h10
  obtain ⟨w3, rfl, h12⟩ := ZN h11
  obtain ⟨x14, l15, rfl, h13⟩ := Zb h12
  obtain ⟨w4, rfl, h14⟩ := ZN h13
  obtain ⟨x16, l17, rfl, h15⟩ := Zb h14
  obtain ⟨w5, rfl, h16⟩ := ZN h15
  obtain ⟨x18, l19, rfl, h17⟩ := Zb h16
  obtain ⟨d20, rfl, h18⟩ := Zt h17
  obtain ⟨w6, rfl, h19⟩ := ZA h18
  obtain ⟨x21, l22, rfl, h20⟩ := Zb h19
  obtain ⟨d23, rfl, h21⟩ := Zt h20
  obtain ⟨w7, rfl, h22⟩ := ZaL h21
  obtain ⟨x24, l25, rfl, h23⟩ := Zb h22
  obtain ⟨d26, rfl, h24⟩ := Zt h23
  obtain ⟨w8, rfl, h25⟩ := ZA h24
  obtain ⟨x27, l28, rfl, h26⟩ := Zb h25
  obtain ⟨w9, rfl, h27⟩ := ZN h26
  obtain ⟨x29, l30, rfl, h28⟩ := Zb h27
  obtain ⟨w10, rfl, h29⟩ := ZN h28
  obtain ⟨x31, l32, rfl, h30⟩ := Zb h29
  obtain ⟨w11, rfl, h31⟩ := ZN h30
  obtain ⟨x33, l34, rfl, h32⟩ := Zb h31
  obtain ⟨d35, rfl, h33⟩ := Zt h32
  obtain ⟨w12, rfl, h34⟩ := Z0 h33
  obtain ⟨rfl, h35⟩ := Zc h34
  obtain ⟨rfl, h36⟩ := Zc h35
  obtain ⟨rfl, h37⟩ := Zc h36
  simp only [Option.some.injEq, Prod.mk.injEq] at h37
  obtain ⟨rfl, rfl, rfl, rfl, rfl, rfl, rfl, rfl, rfl, rfl, rfl, rfl, rfl⟩ := h37
  exact ⟨rfl, rfl⟩
theorem laws_toJob.ok (k : Nat) : Zv Try.prog 164 (laws_toJob.e k) := by
  refine Zu mix tyok (fn := Try.f164) (c := Zl Try.f164) Try.func164 (by kernel_rfl) (h := laws_toJob.h) (k := k) (E := laws_toJob.E k) (Zk (laws_toWant.ok k) (Zk (laws_toValue.ok k) (Zk (laws_toOverS.ok k) Zz))) (by kernel_rfl) (by kernel_rfl) rfl (Zq Try.func164 (by kernel_rfl)) ?_
  intro β l K r hr
  simp only [laws_toJob.e] at hr
  split at hr
  case h_2 => cases hr
  unfold laws_toJob.f at hr
  split at hr
  case h_2 => cases hr
  rename_i hz
  exact ⟨_, _, hr, _, laws_toJob.dec, _, (laws_toJob.f_eq k _ _ _ _ _ _ _ _ _ _ _ _ _ laws_toJob.dec).trans (by rw [laws_toJob.kt_dec]; exact hz), fun rs os h ho => laws_toJob.inj _ _ _ _ _ _ _ _ _ _ _ _ _ h ho⟩
noncomputable def laws_toJobS.l0 {β : Type} (k : Nat) (v0_0 : List (List D)) (K : (List (List C)) → Option β) (L0 : (Int × (List (List C))) → Option β) (v : Int × (List (List C))) : Option β :=
  match v with
  | (v0_1, v0_2) => bif (decide ((v0_1 : Int) < (v0_0.length : Int))) then (ZX v0_0 v0_1 fun c85 => Zd c85 fun d86 r87 => ZM .i64 d86 fun x88 => Zd r87 fun d89 r90 => Zan d89 fun x91 => Zd r90 fun d92 r93 => ZM .i64 d92 fun x94 => Zd r93 fun d95 r96 => dSl d95 fun x97 => Zd r96 fun d98 r99 => dSl d98 fun x100 => Zd r99 fun d101 r102 => dSl d101 fun x103 => Zd r102 fun d104 r105 => ZM .i64 d104 fun x106 => Zd r105 fun d107 r108 => Zan d107 fun x109 => Zd r108 fun d110 r111 => ZM .i64 d110 fun x112 => Zd r111 fun d113 r114 => dSl d113 fun x115 => Zd r114 fun d116 r117 => dSl d116 fun x118 => Zd r117 fun d119 r120 => dSl d119 fun x121 => Zd r120 fun d122 r123 => ZaF d122 fun x124 => Ze r123 (laws_toJob.f k x88 x91 x94 x97 x100 x103 x106 x109 x112 x115 x118 x121 x124 (fun y125 y126 y127 y128 y129 y130 y131 y132 y133 y134 y135 y136 y137 => ZH ((0 : Int) ≤ v0_1 ∧ v0_1 < (v0_2.length : Int)) (ZH (Int.toNat v0_1 < v0_2.length) (L0 (IntKind.wrap .i64 (v0_1 + 1), v0_2.modify (Int.toNat v0_1) fun c => Z1 c 0 [.d (.int .i64 y125), .d (.str y126), .d (.int .i64 y127), .own y128, .own y129, .own y130, .d (.int .i64 y131), .d (.str y132), .d (.int .i64 y133), .own y134, .own y135, .own y136, .d (.bool y137)])))))) else (K v0_2)
noncomputable def laws_toJobS.g {β : Type} (k : Nat) (a0 : List (List D)) (K : (List (List C)) → Option β) : Option β :=
  ZH ((0 : Int) ≤ (a0.length : Int) ∧ (a0.length : Int) ≤ (Z6 : Int) ∧ (a0.length : Int) ≤ (a0.length : Int) ∧ (a0.length : Int) ≤ (a0.length : Int)) (Z4 (laws_toJobS.l0 k a0 K) k (0, List.replicate (Int.toNat (a0.length : Int)) ([.d (.int .i64 0), .d (.str (⟨#[]⟩ : ByteArray)), .d (.int .i64 0), .own ([] : List (List C)), .own ([] : List (List C)), .own ([] : List (List C)), .d (.int .i64 0), .d (.str (⟨#[]⟩ : ByteArray)), .d (.int .i64 0), .own ([] : List (List C)), .own ([] : List (List C)), .own ([] : List (List C)), .d (.bool false)] : List C)))
noncomputable def laws_toJobS.t (k : Nat) (a0 : List (List D)) : Option ((List (List C))) := laws_toJobS.g k a0 (fun z0 => some z0)
noncomputable def laws_toJobS.f {β : Type} (k : Nat) (a0 : List (List D)) (K : (List (List C)) → Option β) : Option β :=
  match laws_toJobS.t k a0 with
  | some z0 => K z0
  | none => none
noncomputable def laws_toJobS.as (a0 : List (List D)) : List A := [.d (.sl a0)]
noncomputable def laws_toJobS.kt {β : Type} (a0 : List (List D)) (K0 : List (List C) → List Out → Option β) : (List (List C)) → Option β := fun z0 => K0 [[.own z0]] []
noncomputable def laws_toJobS.e (k : Nat) : ZQ := { modes := [(.imm, 0)], rts := [30], al := false, run := fun {β} l K => match l with | [.d (.sl a0)] => laws_toJobS.f k a0 (laws_toJobS.kt a0 K) | _ => none }
noncomputable def laws_toJobS.E (k : Nat) : Env := fun g => bif g == 164 then some (laws_toJob.e k) else none
noncomputable def laws_toJobS.h : ZY := ⟨fun n => bif n == 3 then ⟨[(0, .asis), (3, .asis), (4, .asis)], []⟩ else ⟨[], []⟩, fun _ => none, false, []⟩
noncomputable def laws_toJobS.s0 (v0_0 : List (List D)) (v : Int × (List (List C))) : St :=
  match v with
  | (v0_1, v0_2) => ⟨[.d false (.sl v0_0), .any, .any, .row 0, .d true (.int .i64 v0_1), .any, .any, .any, .any, .any, .any, .any, .any, .any, .any, .any, .any, .any, .any, .any, .any, .any, .any], [.row none true 30 v0_2]⟩
noncomputable def laws_toJobS.b0 {β : Type} (k : Nat) : St → (Ex → St → Option β) → Option β := fun s K => den Try.prog (laws_toJobS.E k) laws_toJobS.h.H laws_toJobS.h.J k (Zad [1, 1, 0, 1, 0, 0] (Zl Try.f75)) s K
noncomputable def laws_toJobS.c0 {β : Type} (k : Nat) (a0 : List (List D)) (K0 : List (List C) → List Out → Option β) : Ex → St → Option β := Zae Try.prog (laws_toJobS.E k) laws_toJobS.h k [1, 1, 0, 1, 0] (Zl Try.f75) (Zak Try.prog Try.f75 laws_toJobS.h (laws_toJobS.as a0) K0)
theorem laws_toJobS.l0_eq {β : Type} (k : Nat) (a0 : List (List D)) (K0 : List (List C) → List Out → Option β) (v0_0 : List (List D)) : ∀ (kk : Nat) (v : Int × (List (List C))), Zx (laws_toJobS.b0 k) (laws_toJobS.h.H 3) kk (laws_toJobS.s0 v0_0 v) (laws_toJobS.c0 k a0 K0) = Z4 (laws_toJobS.l0 k v0_0 (laws_toJobS.kt a0 K0)) kk v :=
  Z9 (laws_toJobS.s0 v0_0) _ (fun L0 v => by obtain ⟨v0_1, v0_2⟩ := v; kernel_rfl)
noncomputable def laws_toJobS.m {β : Type} (k : Nat) (a0 : List (List D)) (K0 : List (List C) → List Out → Option β) (F : ((List (List D)) → (Int × (List (List C))) → Option β)) : Option β :=
  ZH ((0 : Int) ≤ (a0.length : Int) ∧ (a0.length : Int) ≤ (Z6 : Int) ∧ (a0.length : Int) ≤ (a0.length : Int) ∧ (a0.length : Int) ≤ (a0.length : Int)) ((F) a0 (0, List.replicate (Int.toNat (a0.length : Int)) ([.d (.int .i64 0), .d (.str (⟨#[]⟩ : ByteArray)), .d (.int .i64 0), .own ([] : List (List C)), .own ([] : List (List C)), .own ([] : List (List C)), .d (.int .i64 0), .d (.str (⟨#[]⟩ : ByteArray)), .d (.int .i64 0), .own ([] : List (List C)), .own ([] : List (List C)), .own ([] : List (List C)), .d (.bool false)] : List C)))
theorem laws_toJobS.f_eq {β : Type} (k : Nat) (a0 : List (List D)) (K0 : List (List C) → List Out → Option β) : ZJ Try.prog (laws_toJobS.E k) laws_toJobS.h k Try.f75 (laws_toJobS.as a0) K0 = laws_toJobS.g k a0 (laws_toJobS.kt a0 K0) := Eq.trans (b := (laws_toJobS.m k a0 K0) (fun (v0_0 : List (List D)) (v : Int × (List (List C))) => Zx (laws_toJobS.b0 k) (laws_toJobS.h.H 3) k (laws_toJobS.s0 v0_0 v) (laws_toJobS.c0 k a0 K0))) (by kernel_rfl) (Eq.trans (congrArg (laws_toJobS.m k a0 K0) (funext fun v0_0 => funext fun v => laws_toJobS.l0_eq k a0 K0 v0_0 k v)) (by kernel_rfl))
noncomputable def laws_toJobS.dec (rs : List (List C)) (os : List Out) : Option ((List (List C))) := Zd rs fun c1 r2 => Zd c1 fun x3 l4 => ZaU x3 fun w0 => Ze l4 <| Ze r2 <| Ze os (some w0)
theorem laws_toJobS.kt_dec (a0 : List (List D)) : laws_toJobS.kt a0 laws_toJobS.dec = (fun z0 => some z0) := by kernel_rfl
theorem laws_toJobS.inj (a0 : List (List D)) {rs : List (List C)} {os : List Out} {z0 : List (List C)} (h : laws_toJobS.dec rs os = some z0) (ho : Zo (laws_toJobS.as a0) os) : rs = [[.own z0]] ∧ os = [] := by
  unfold laws_toJobS.dec at h
  obtain ⟨c1, r2, rfl, h1⟩ := Zb h
  obtain ⟨x3, l4, rfl, h2⟩ := Zb h1
  obtain ⟨w0, rfl, h3⟩ := ZN h2
  obtain ⟨rfl, h4⟩ := Zc h3
  obtain ⟨rfl, h5⟩ := Zc h4
  obtain ⟨rfl, h6⟩ := Zc h5
  obtain rfl := Option.some.inj h6
  exact ⟨rfl, rfl⟩
theorem laws_toJobS.ok (k : Nat) : Zv Try.prog 75 (laws_toJobS.e k) := by
  refine Zu mix tyok (fn := Try.f75) (c := Zl Try.f75) Try.func75 (by kernel_rfl) (h := laws_toJobS.h) (k := k) (E := laws_toJobS.E k) (Zk (laws_toJob.ok k) Zz) (by kernel_rfl) (by kernel_rfl) rfl (Zq Try.func75 (by kernel_rfl)) ?_
  intro β l K r hr
  simp only [laws_toJobS.e] at hr
  split at hr
  case h_2 => cases hr
  unfold laws_toJobS.f at hr
  split at hr
  case h_2 => cases hr
  rename_i hz
  exact ⟨_, _, hr, _, laws_toJobS.dec, _, (laws_toJobS.f_eq k _ laws_toJobS.dec).trans (by rw [laws_toJobS.kt_dec]; exact hz), fun rs os h ho => laws_toJobS.inj _ h ho⟩
noncomputable def laws_toLabel.g {β : Type} (k : Nat) (a0_0 : ByteArray) (a0_1 : ByteArray) (K : ByteArray → ByteArray → Option β) : Option β :=
  K a0_0 a0_1
noncomputable def laws_toLabel.t (k : Nat) (a0_0 : ByteArray) (a0_1 : ByteArray) : Option (ByteArray × ByteArray) := laws_toLabel.g k a0_0 a0_1 (fun z0 z1 => some (z0, z1))
noncomputable def laws_toLabel.f {β : Type} (k : Nat) (a0_0 : ByteArray) (a0_1 : ByteArray) (K : ByteArray → ByteArray → Option β) : Option β :=
  match laws_toLabel.t k a0_0 a0_1 with
  | some (z0, z1) => K z0 z1
  | none => none
noncomputable def laws_toLabel.as (a0_0 : ByteArray) (a0_1 : ByteArray) : List A := [.agg [.str a0_0, .str a0_1]]
noncomputable def laws_toLabel.kt {β : Type} (a0_0 : ByteArray) (a0_1 : ByteArray) (K0 : List (List C) → List Out → Option β) : ByteArray → ByteArray → Option β := fun z0 z1 => K0 [[.d (.str z0), .d (.str z1)]] []
noncomputable def laws_toLabel.e (k : Nat) : ZQ := { modes := [(.imm, 0)], rts := [327], al := false, run := fun {β} l K => match l with | [.agg [.str a0_0, .str a0_1]] => laws_toLabel.f k a0_0 a0_1 (laws_toLabel.kt a0_0 a0_1 K) | _ => none }
noncomputable def laws_toLabel.E (k : Nat) : Env := fun g => none
noncomputable def laws_toLabel.h : ZY := ⟨fun n => ⟨[], []⟩, fun _ => none, false, []⟩
theorem laws_toLabel.f_eq {β : Type} (k : Nat) (a0_0 : ByteArray) (a0_1 : ByteArray) (K0 : List (List C) → List Out → Option β) : ZJ Try.prog (laws_toLabel.E k) laws_toLabel.h k Try.f260 (laws_toLabel.as a0_0 a0_1) K0 = laws_toLabel.g k a0_0 a0_1 (laws_toLabel.kt a0_0 a0_1 K0) := by kernel_rfl
noncomputable def laws_toLabel.dec (rs : List (List C)) (os : List Out) : Option (ByteArray × ByteArray) := Zd rs fun c1 r2 => Zd c1 fun x3 l4 => cD x3 fun d5 => Zan d5 fun w0 => Zd l4 fun x6 l7 => cD x6 fun d8 => Zan d8 fun w1 => Ze l7 <| Ze r2 <| Ze os (some (w0, w1))
theorem laws_toLabel.kt_dec (a0_0 : ByteArray) (a0_1 : ByteArray) : laws_toLabel.kt a0_0 a0_1 laws_toLabel.dec = (fun z0 z1 => some (z0, z1)) := by kernel_rfl
theorem laws_toLabel.inj (a0_0 : ByteArray) (a0_1 : ByteArray) {rs : List (List C)} {os : List Out} {z0 : ByteArray} {z1 : ByteArray} (h : laws_toLabel.dec rs os = some (z0, z1)) (ho : Zo (laws_toLabel.as a0_0 a0_1) os) : rs = [[.d (.str z0), .d (.str z1)]] ∧ os = [] := by
  unfold laws_toLabel.dec at h
  obtain ⟨c1, r2, rfl, h1⟩ := Zb h
  obtain ⟨x3, l4, rfl, h2⟩ := Zb h1
  obtain ⟨d5, rfl, h3⟩ := Zt h2
  obtain ⟨w0, rfl, h4⟩ := ZaL h3
  obtain ⟨x6, l7, rfl, h5⟩ := Zb h4
  obtain ⟨d8, rfl, h6⟩ := Zt h5
  obtain ⟨w1, rfl, h7⟩ := ZaL h6
  obtain ⟨rfl, h8⟩ := Zc h7
  obtain ⟨rfl, h9⟩ := Zc h8
  obtain ⟨rfl, h10⟩ := Zc h9
  simp only [Option.some.injEq, Prod.mk.injEq] at h10
  obtain ⟨rfl, rfl⟩ := h10
  exact ⟨rfl, rfl⟩
theorem laws_toLabel.ok (k : Nat) : Zv Try.prog 260 (laws_toLabel.e k) := by
  refine Zu mix tyok (fn := Try.f260) (c := Zl Try.f260) Try.func260 (by kernel_rfl) (h := laws_toLabel.h) (k := k) (E := laws_toLabel.E k) Zz (by kernel_rfl) (by kernel_rfl) rfl (Zq Try.func260 (by kernel_rfl)) ?_
  intro β l K r hr
  simp only [laws_toLabel.e] at hr
  split at hr
  case h_2 => cases hr
  unfold laws_toLabel.f at hr
  split at hr
  case h_2 => cases hr
  rename_i hz
  exact ⟨_, _, hr, _, laws_toLabel.dec, _, (laws_toLabel.f_eq k _ _ laws_toLabel.dec).trans (by rw [laws_toLabel.kt_dec]; exact hz), fun rs os h ho => laws_toLabel.inj _ _ h ho⟩
noncomputable def laws_toLabelS.l0 {β : Type} (k : Nat) (v0_0 : List (List D)) (K : (List (List C)) → Option β) (L0 : (Int × (List (List C))) → Option β) (v : Int × (List (List C))) : Option β :=
  match v with
  | (v0_1, v0_2) => bif (decide ((v0_1 : Int) < (v0_0.length : Int))) then (ZX v0_0 v0_1 fun c10 => Zd c10 fun d11 r12 => Zan d11 fun x13 => Zd r12 fun d14 r15 => Zan d14 fun x16 => Ze r15 (laws_toLabel.f k x13 x16 (fun y17 y18 => ZH ((0 : Int) ≤ v0_1 ∧ v0_1 < (v0_2.length : Int)) (ZH (Int.toNat v0_1 < v0_2.length) (L0 (IntKind.wrap .i64 (v0_1 + 1), v0_2.modify (Int.toNat v0_1) fun c => Z1 c 0 [.d (.str y17), .d (.str y18)])))))) else (K v0_2)
noncomputable def laws_toLabelS.g {β : Type} (k : Nat) (a0 : List (List D)) (K : (List (List C)) → Option β) : Option β :=
  ZH ((0 : Int) ≤ (a0.length : Int) ∧ (a0.length : Int) ≤ (Z6 : Int) ∧ (a0.length : Int) ≤ (a0.length : Int) ∧ (a0.length : Int) ≤ (a0.length : Int)) (Z4 (laws_toLabelS.l0 k a0 K) k (0, List.replicate (Int.toNat (a0.length : Int)) ([.d (.str (⟨#[]⟩ : ByteArray)), .d (.str (⟨#[]⟩ : ByteArray))] : List C)))
noncomputable def laws_toLabelS.t (k : Nat) (a0 : List (List D)) : Option ((List (List C))) := laws_toLabelS.g k a0 (fun z0 => some z0)
noncomputable def laws_toLabelS.f {β : Type} (k : Nat) (a0 : List (List D)) (K : (List (List C)) → Option β) : Option β :=
  match laws_toLabelS.t k a0 with
  | some z0 => K z0
  | none => none
noncomputable def laws_toLabelS.as (a0 : List (List D)) : List A := [.d (.sl a0)]
noncomputable def laws_toLabelS.kt {β : Type} (a0 : List (List D)) (K0 : List (List C) → List Out → Option β) : (List (List C)) → Option β := fun z0 => K0 [[.own z0]] []
noncomputable def laws_toLabelS.e (k : Nat) : ZQ := { modes := [(.imm, 0)], rts := [223], al := false, run := fun {β} l K => match l with | [.d (.sl a0)] => laws_toLabelS.f k a0 (laws_toLabelS.kt a0 K) | _ => none }
noncomputable def laws_toLabelS.E (k : Nat) : Env := fun g => bif g == 260 then some (laws_toLabel.e k) else none
noncomputable def laws_toLabelS.h : ZY := ⟨fun n => bif n == 3 then ⟨[(0, .asis), (3, .asis), (4, .asis)], []⟩ else ⟨[], []⟩, fun _ => none, false, []⟩
noncomputable def laws_toLabelS.s0 (v0_0 : List (List D)) (v : Int × (List (List C))) : St :=
  match v with
  | (v0_1, v0_2) => ⟨[.d false (.sl v0_0), .any, .any, .row 0, .d true (.int .i64 v0_1), .any, .any, .any, .any, .any, .any, .any, .any, .any, .any, .any, .any, .any, .any, .any, .any, .any, .any], [.row none true 223 v0_2]⟩
noncomputable def laws_toLabelS.b0 {β : Type} (k : Nat) : St → (Ex → St → Option β) → Option β := fun s K => den Try.prog (laws_toLabelS.E k) laws_toLabelS.h.H laws_toLabelS.h.J k (Zad [1, 1, 0, 1, 0, 0] (Zl Try.f242)) s K
noncomputable def laws_toLabelS.c0 {β : Type} (k : Nat) (a0 : List (List D)) (K0 : List (List C) → List Out → Option β) : Ex → St → Option β := Zae Try.prog (laws_toLabelS.E k) laws_toLabelS.h k [1, 1, 0, 1, 0] (Zl Try.f242) (Zak Try.prog Try.f242 laws_toLabelS.h (laws_toLabelS.as a0) K0)
theorem laws_toLabelS.l0_eq {β : Type} (k : Nat) (a0 : List (List D)) (K0 : List (List C) → List Out → Option β) (v0_0 : List (List D)) : ∀ (kk : Nat) (v : Int × (List (List C))), Zx (laws_toLabelS.b0 k) (laws_toLabelS.h.H 3) kk (laws_toLabelS.s0 v0_0 v) (laws_toLabelS.c0 k a0 K0) = Z4 (laws_toLabelS.l0 k v0_0 (laws_toLabelS.kt a0 K0)) kk v :=
  Z9 (laws_toLabelS.s0 v0_0) _ (fun L0 v => by obtain ⟨v0_1, v0_2⟩ := v; kernel_rfl)
noncomputable def laws_toLabelS.m {β : Type} (k : Nat) (a0 : List (List D)) (K0 : List (List C) → List Out → Option β) (F : ((List (List D)) → (Int × (List (List C))) → Option β)) : Option β :=
  ZH ((0 : Int) ≤ (a0.length : Int) ∧ (a0.length : Int) ≤ (Z6 : Int) ∧ (a0.length : Int) ≤ (a0.length : Int) ∧ (a0.length : Int) ≤ (a0.length : Int)) ((F) a0 (0, List.replicate (Int.toNat (a0.length : Int)) ([.d (.str (⟨#[]⟩ : ByteArray)), .d (.str (⟨#[]⟩ : ByteArray))] : List C)))
theorem laws_toLabelS.f_eq {β : Type} (k : Nat) (a0 : List (List D)) (K0 : List (List C) → List Out → Option β) : ZJ Try.prog (laws_toLabelS.E k) laws_toLabelS.h k Try.f242 (laws_toLabelS.as a0) K0 = laws_toLabelS.g k a0 (laws_toLabelS.kt a0 K0) := Eq.trans (b := (laws_toLabelS.m k a0 K0) (fun (v0_0 : List (List D)) (v : Int × (List (List C))) => Zx (laws_toLabelS.b0 k) (laws_toLabelS.h.H 3) k (laws_toLabelS.s0 v0_0 v) (laws_toLabelS.c0 k a0 K0))) (by kernel_rfl) (Eq.trans (congrArg (laws_toLabelS.m k a0 K0) (funext fun v0_0 => funext fun v => laws_toLabelS.l0_eq k a0 K0 v0_0 k v)) (by kernel_rfl))
noncomputable def laws_toLabelS.dec (rs : List (List C)) (os : List Out) : Option ((List (List C))) := Zd rs fun c1 r2 => Zd c1 fun x3 l4 => ZaU x3 fun w0 => Ze l4 <| Ze r2 <| Ze os (some w0)
theorem laws_toLabelS.kt_dec (a0 : List (List D)) : laws_toLabelS.kt a0 laws_toLabelS.dec = (fun z0 => some z0) := by kernel_rfl
theorem laws_toLabelS.inj (a0 : List (List D)) {rs : List (List C)} {os : List Out} {z0 : List (List C)} (h : laws_toLabelS.dec rs os = some z0) (ho : Zo (laws_toLabelS.as a0) os) : rs = [[.own z0]] ∧ os = [] := by
  unfold laws_toLabelS.dec at h
  obtain ⟨c1, r2, rfl, h1⟩ := Zb h
  obtain ⟨x3, l4, rfl, h2⟩ := Zb h1
  obtain ⟨w0, rfl, h3⟩ := ZN h2
  obtain ⟨rfl, h4⟩ := Zc h3
  obtain ⟨rfl, h5⟩ := Zc h4
  obtain ⟨rfl, h6⟩ := Zc h5
  obtain rfl := Option.some.inj h6
  exact ⟨rfl, rfl⟩
theorem laws_toLabelS.ok (k : Nat) : Zv Try.prog 242 (laws_toLabelS.e k) := by
  refine Zu mix tyok (fn := Try.f242) (c := Zl Try.f242) Try.func242 (by kernel_rfl) (h := laws_toLabelS.h) (k := k) (E := laws_toLabelS.E k) (Zk (laws_toLabel.ok k) Zz) (by kernel_rfl) (by kernel_rfl) rfl (Zq Try.func242 (by kernel_rfl)) ?_
  intro β l K r hr
  simp only [laws_toLabelS.e] at hr
  split at hr
  case h_2 => cases hr
  unfold laws_toLabelS.f at hr
  split at hr
  case h_2 => cases hr
  rename_i hz
  exact ⟨_, _, hr, _, laws_toLabelS.dec, _, (laws_toLabelS.f_eq k _ laws_toLabelS.dec).trans (by rw [laws_toLabelS.kt_dec]; exact hz), fun rs os h ho => laws_toLabelS.inj _ h ho⟩
noncomputable def laws_toIsland.g {β : Type} (k : Nat) (a0_0 : ByteArray) (a0_1 : List (List D)) (a0_2 : List (List D)) (a0_3 : Int) (K : ByteArray → (List (List C)) → (List (List C)) → Int → Option β) : Option β :=
  laws_toLabelS.f k a0_1 (fun y19 => laws_toStringS.f k a0_2 (fun y20 => K a0_0 y19 y20 a0_3))
noncomputable def laws_toIsland.t (k : Nat) (a0_0 : ByteArray) (a0_1 : List (List D)) (a0_2 : List (List D)) (a0_3 : Int) : Option (ByteArray × (List (List C)) × (List (List C)) × Int) := laws_toIsland.g k a0_0 a0_1 a0_2 a0_3 (fun z0 z1 z2 z3 => some (z0, z1, z2, z3))
noncomputable def laws_toIsland.f {β : Type} (k : Nat) (a0_0 : ByteArray) (a0_1 : List (List D)) (a0_2 : List (List D)) (a0_3 : Int) (K : ByteArray → (List (List C)) → (List (List C)) → Int → Option β) : Option β :=
  match laws_toIsland.t k a0_0 a0_1 a0_2 a0_3 with
  | some (z0, z1, z2, z3) => K z0 z1 z2 z3
  | none => none
noncomputable def laws_toIsland.as (a0_0 : ByteArray) (a0_1 : List (List D)) (a0_2 : List (List D)) (a0_3 : Int) : List A := [.agg [.str a0_0, .sl a0_1, .sl a0_2, .int .i64 a0_3]]
noncomputable def laws_toIsland.kt {β : Type} (a0_0 : ByteArray) (a0_1 : List (List D)) (a0_2 : List (List D)) (a0_3 : Int) (K0 : List (List C) → List Out → Option β) : ByteArray → (List (List C)) → (List (List C)) → Int → Option β := fun z0 z1 z2 z3 => K0 [[.d (.str z0), .own z1, .own z2, .d (.int .i64 z3)]] []
noncomputable def laws_toIsland.e (k : Nat) : ZQ := { modes := [(.imm, 0)], rts := [225], al := false, run := fun {β} l K => match l with | [.agg [.str a0_0, .sl a0_1, .sl a0_2, .int .i64 a0_3]] => laws_toIsland.f k a0_0 a0_1 a0_2 a0_3 (laws_toIsland.kt a0_0 a0_1 a0_2 a0_3 K) | _ => none }
noncomputable def laws_toIsland.E (k : Nat) : Env := fun g => bif g == 242 then some (laws_toLabelS.e k) else bif g == 78 then some (laws_toStringS.e k) else none
noncomputable def laws_toIsland.h : ZY := ⟨fun n => ⟨[], []⟩, fun _ => none, false, []⟩
theorem laws_toIsland.f_eq {β : Type} (k : Nat) (a0_0 : ByteArray) (a0_1 : List (List D)) (a0_2 : List (List D)) (a0_3 : Int) (K0 : List (List C) → List Out → Option β) : ZJ Try.prog (laws_toIsland.E k) laws_toIsland.h k Try.f217 (laws_toIsland.as a0_0 a0_1 a0_2 a0_3) K0 = laws_toIsland.g k a0_0 a0_1 a0_2 a0_3 (laws_toIsland.kt a0_0 a0_1 a0_2 a0_3 K0) := by kernel_rfl
noncomputable def laws_toIsland.dec (rs : List (List C)) (os : List Out) : Option (ByteArray × (List (List C)) × (List (List C)) × Int) := Zd rs fun c1 r2 => Zd c1 fun x3 l4 => cD x3 fun d5 => Zan d5 fun w0 => Zd l4 fun x6 l7 => ZaU x6 fun w1 => Zd l7 fun x8 l9 => ZaU x8 fun w2 => Zd l9 fun x10 l11 => cD x10 fun d12 => ZM .i64 d12 fun w3 => Ze l11 <| Ze r2 <| Ze os (some (w0, w1, w2, w3))
theorem laws_toIsland.kt_dec (a0_0 : ByteArray) (a0_1 : List (List D)) (a0_2 : List (List D)) (a0_3 : Int) : laws_toIsland.kt a0_0 a0_1 a0_2 a0_3 laws_toIsland.dec = (fun z0 z1 z2 z3 => some (z0, z1, z2, z3)) := by kernel_rfl
theorem laws_toIsland.inj (a0_0 : ByteArray) (a0_1 : List (List D)) (a0_2 : List (List D)) (a0_3 : Int) {rs : List (List C)} {os : List Out} {z0 : ByteArray} {z1 : List (List C)} {z2 : List (List C)} {z3 : Int} (h : laws_toIsland.dec rs os = some (z0, z1, z2, z3)) (ho : Zo (laws_toIsland.as a0_0 a0_1 a0_2 a0_3) os) : rs = [[.d (.str z0), .own z1, .own z2, .d (.int .i64 z3)]] ∧ os = [] := by
  unfold laws_toIsland.dec at h
  obtain ⟨c1, r2, rfl, h1⟩ := Zb h
  obtain ⟨x3, l4, rfl, h2⟩ := Zb h1
  obtain ⟨d5, rfl, h3⟩ := Zt h2
  obtain ⟨w0, rfl, h4⟩ := ZaL h3
  obtain ⟨x6, l7, rfl, h5⟩ := Zb h4
  obtain ⟨w1, rfl, h6⟩ := ZN h5
  obtain ⟨x8, l9, rfl, h7⟩ := Zb h6
  obtain ⟨w2, rfl, h8⟩ := ZN h7
  obtain ⟨x10, l11, rfl, h9⟩ := Zb h8
  obtain ⟨d12, rfl, h10⟩ := Zt h9
  obtain ⟨w3, rfl, h11⟩ := ZA h10
  obtain ⟨rfl, h12⟩ := Zc h11
  obtain ⟨rfl, h13⟩ := Zc h12
  obtain ⟨rfl, h14⟩ := Zc h13
  simp only [Option.some.injEq, Prod.mk.injEq] at h14
  obtain ⟨rfl, rfl, rfl, rfl⟩ := h14
  exact ⟨rfl, rfl⟩
theorem laws_toIsland.ok (k : Nat) : Zv Try.prog 217 (laws_toIsland.e k) := by
  refine Zu mix tyok (fn := Try.f217) (c := Zl Try.f217) Try.func217 (by kernel_rfl) (h := laws_toIsland.h) (k := k) (E := laws_toIsland.E k) (Zk (laws_toLabelS.ok k) (Zk (laws_toStringS.ok k) Zz)) (by kernel_rfl) (by kernel_rfl) rfl (Zq Try.func217 (by kernel_rfl)) ?_
  intro β l K r hr
  simp only [laws_toIsland.e] at hr
  split at hr
  case h_2 => cases hr
  unfold laws_toIsland.f at hr
  split at hr
  case h_2 => cases hr
  rename_i hz
  exact ⟨_, _, hr, _, laws_toIsland.dec, _, (laws_toIsland.f_eq k _ _ _ _ laws_toIsland.dec).trans (by rw [laws_toIsland.kt_dec]; exact hz), fun rs os h ho => laws_toIsland.inj _ _ _ _ h ho⟩
noncomputable def laws_toPost.g {β : Type} (k : Nat) (a0_0 : ByteArray) (a0_1 : List (List D)) (a0_2 : List (List D)) (a0_3 : Int) (a0_4 : Int) (a0_5 : Int) (K : ByteArray → (List (List C)) → (List (List C)) → Int → Int → Int → Option β) : Option β :=
  laws_toIsland.f k a0_0 a0_1 a0_2 a0_3 (fun y21 y22 y23 y24 => K y21 y22 y23 y24 a0_4 a0_5)
noncomputable def laws_toPost.t (k : Nat) (a0_0 : ByteArray) (a0_1 : List (List D)) (a0_2 : List (List D)) (a0_3 : Int) (a0_4 : Int) (a0_5 : Int) : Option (ByteArray × (List (List C)) × (List (List C)) × Int × Int × Int) := laws_toPost.g k a0_0 a0_1 a0_2 a0_3 a0_4 a0_5 (fun z0 z1 z2 z3 z4 z5 => some (z0, z1, z2, z3, z4, z5))
noncomputable def laws_toPost.f {β : Type} (k : Nat) (a0_0 : ByteArray) (a0_1 : List (List D)) (a0_2 : List (List D)) (a0_3 : Int) (a0_4 : Int) (a0_5 : Int) (K : ByteArray → (List (List C)) → (List (List C)) → Int → Int → Int → Option β) : Option β :=
  match laws_toPost.t k a0_0 a0_1 a0_2 a0_3 a0_4 a0_5 with
  | some (z0, z1, z2, z3, z4, z5) => K z0 z1 z2 z3 z4 z5
  | none => none
noncomputable def laws_toPost.as (a0_0 : ByteArray) (a0_1 : List (List D)) (a0_2 : List (List D)) (a0_3 : Int) (a0_4 : Int) (a0_5 : Int) : List A := [.agg [.str a0_0, .sl a0_1, .sl a0_2, .int .i64 a0_3, .int .i64 a0_4, .int .i64 a0_5]]
noncomputable def laws_toPost.kt {β : Type} (a0_0 : ByteArray) (a0_1 : List (List D)) (a0_2 : List (List D)) (a0_3 : Int) (a0_4 : Int) (a0_5 : Int) (K0 : List (List C) → List Out → Option β) : ByteArray → (List (List C)) → (List (List C)) → Int → Int → Int → Option β := fun z0 z1 z2 z3 z4 z5 => K0 [[.d (.str z0), .own z1, .own z2, .d (.int .i64 z3), .d (.int .i64 z4), .d (.int .i64 z5)]] []
noncomputable def laws_toPost.e (k : Nat) : ZQ := { modes := [(.imm, 0)], rts := [227], al := false, run := fun {β} l K => match l with | [.agg [.str a0_0, .sl a0_1, .sl a0_2, .int .i64 a0_3, .int .i64 a0_4, .int .i64 a0_5]] => laws_toPost.f k a0_0 a0_1 a0_2 a0_3 a0_4 a0_5 (laws_toPost.kt a0_0 a0_1 a0_2 a0_3 a0_4 a0_5 K) | _ => none }
noncomputable def laws_toPost.E (k : Nat) : Env := fun g => bif g == 217 then some (laws_toIsland.e k) else none
noncomputable def laws_toPost.h : ZY := ⟨fun n => ⟨[], []⟩, fun _ => none, false, []⟩
theorem laws_toPost.f_eq {β : Type} (k : Nat) (a0_0 : ByteArray) (a0_1 : List (List D)) (a0_2 : List (List D)) (a0_3 : Int) (a0_4 : Int) (a0_5 : Int) (K0 : List (List C) → List Out → Option β) : ZJ Try.prog (laws_toPost.E k) laws_toPost.h k Try.f165 (laws_toPost.as a0_0 a0_1 a0_2 a0_3 a0_4 a0_5) K0 = laws_toPost.g k a0_0 a0_1 a0_2 a0_3 a0_4 a0_5 (laws_toPost.kt a0_0 a0_1 a0_2 a0_3 a0_4 a0_5 K0) := by kernel_rfl
noncomputable def laws_toPost.dec (rs : List (List C)) (os : List Out) : Option (ByteArray × (List (List C)) × (List (List C)) × Int × Int × Int) := Zd rs fun c1 r2 => Zd c1 fun x3 l4 => cD x3 fun d5 => Zan d5 fun w0 => Zd l4 fun x6 l7 => ZaU x6 fun w1 => Zd l7 fun x8 l9 => ZaU x8 fun w2 => Zd l9 fun x10 l11 => cD x10 fun d12 => ZM .i64 d12 fun w3 => Zd l11 fun x13 l14 => cD x13 fun d15 => ZM .i64 d15 fun w4 => Zd l14 fun x16 l17 => cD x16 fun d18 => ZM .i64 d18 fun w5 => Ze l17 <| Ze r2 <| Ze os (some (w0, w1, w2, w3, w4, w5))
theorem laws_toPost.kt_dec (a0_0 : ByteArray) (a0_1 : List (List D)) (a0_2 : List (List D)) (a0_3 : Int) (a0_4 : Int) (a0_5 : Int) : laws_toPost.kt a0_0 a0_1 a0_2 a0_3 a0_4 a0_5 laws_toPost.dec = (fun z0 z1 z2 z3 z4 z5 => some (z0, z1, z2, z3, z4, z5)) := by kernel_rfl
theorem laws_toPost.inj (a0_0 : ByteArray) (a0_1 : List (List D)) (a0_2 : List (List D)) (a0_3 : Int) (a0_4 : Int) (a0_5 : Int) {rs : List (List C)} {os : List Out} {z0 : ByteArray} {z1 : List (List C)} {z2 : List (List C)} {z3 : Int} {z4 : Int} {z5 : Int} (h : laws_toPost.dec rs os = some (z0, z1, z2, z3, z4, z5)) (ho : Zo (laws_toPost.as a0_0 a0_1 a0_2 a0_3 a0_4 a0_5) os) : rs = [[.d (.str z0), .own z1, .own z2, .d (.int .i64 z3), .d (.int .i64 z4), .d (.int .i64 z5)]] ∧ os = [] := by
  unfold laws_toPost.dec at h
  obtain ⟨c1, r2, rfl, h1⟩ := Zb h
  obtain ⟨x3, l4, rfl, h2⟩ := Zb h1
  obtain ⟨d5, rfl, h3⟩ := Zt h2
  obtain ⟨w0, rfl, h4⟩ := ZaL h3
  obtain ⟨x6, l7, rfl, h5⟩ := Zb h4
  obtain ⟨w1, rfl, h6⟩ := ZN h5
  obtain ⟨x8, l9, rfl, h7⟩ := Zb h6
  obtain ⟨w2, rfl, h8⟩ := ZN h7
  obtain ⟨x10, l11, rfl, h9⟩ := Zb h8
  obtain ⟨d12, rfl, h10⟩ := Zt h9
  obtain ⟨w3, rfl, h11⟩ := ZA h10
  obtain ⟨x13, l14, rfl, h12⟩ := Zb h11
  obtain ⟨d15, rfl, h13⟩ := Zt h12
  obtain ⟨w4, rfl, h14⟩ := ZA h13
  obtain ⟨x16, l17, rfl, h15⟩ := Zb h14
  obtain ⟨d18, rfl, h16⟩ := Zt h15
  obtain ⟨w5, rfl, h17⟩ := ZA h16
  obtain ⟨rfl, h18⟩ := Zc h17
  obtain ⟨rfl, h19⟩ := Zc h18
  obtain ⟨rfl, h20⟩ := Zc h19
  simp only [Option.some.injEq, Prod.mk.injEq] at h20
  obtain ⟨rfl, rfl, rfl, rfl, rfl, rfl⟩ := h20
  exact ⟨rfl, rfl⟩
theorem laws_toPost.ok (k : Nat) : Zv Try.prog 165 (laws_toPost.e k) := by
  refine Zu mix tyok (fn := Try.f165) (c := Zl Try.f165) Try.func165 (by kernel_rfl) (h := laws_toPost.h) (k := k) (E := laws_toPost.E k) (Zk (laws_toIsland.ok k) Zz) (by kernel_rfl) (by kernel_rfl) rfl (Zq Try.func165 (by kernel_rfl)) ?_
  intro β l K r hr
  simp only [laws_toPost.e] at hr
  split at hr
  case h_2 => cases hr
  unfold laws_toPost.f at hr
  split at hr
  case h_2 => cases hr
  rename_i hz
  exact ⟨_, _, hr, _, laws_toPost.dec, _, (laws_toPost.f_eq k _ _ _ _ _ _ laws_toPost.dec).trans (by rw [laws_toPost.kt_dec]; exact hz), fun rs os h ho => laws_toPost.inj _ _ _ _ _ _ h ho⟩
noncomputable def laws_toPostS.l0 {β : Type} (k : Nat) (v0_0 : List (List D)) (K : (List (List C)) → Option β) (L0 : (Int × (List (List C))) → Option β) (v : Int × (List (List C))) : Option β :=
  match v with
  | (v0_1, v0_2) => bif (decide ((v0_1 : Int) < (v0_0.length : Int))) then (ZX v0_0 v0_1 fun c31 => Zd c31 fun d32 r33 => Zan d32 fun x34 => Zd r33 fun d35 r36 => dSl d35 fun x37 => Zd r36 fun d38 r39 => dSl d38 fun x40 => Zd r39 fun d41 r42 => ZM .i64 d41 fun x43 => Zd r42 fun d44 r45 => ZM .i64 d44 fun x46 => Zd r45 fun d47 r48 => ZM .i64 d47 fun x49 => Ze r48 (laws_toPost.f k x34 x37 x40 x43 x46 x49 (fun y50 y51 y52 y53 y54 y55 => ZH ((0 : Int) ≤ v0_1 ∧ v0_1 < (v0_2.length : Int)) (ZH (Int.toNat v0_1 < v0_2.length) (L0 (IntKind.wrap .i64 (v0_1 + 1), v0_2.modify (Int.toNat v0_1) fun c => Z1 c 0 [.d (.str y50), .own y51, .own y52, .d (.int .i64 y53), .d (.int .i64 y54), .d (.int .i64 y55)])))))) else (K v0_2)
noncomputable def laws_toPostS.g {β : Type} (k : Nat) (a0 : List (List D)) (K : (List (List C)) → Option β) : Option β :=
  ZH ((0 : Int) ≤ (a0.length : Int) ∧ (a0.length : Int) ≤ (Z6 : Int) ∧ (a0.length : Int) ≤ (a0.length : Int) ∧ (a0.length : Int) ≤ (a0.length : Int)) (Z4 (laws_toPostS.l0 k a0 K) k (0, List.replicate (Int.toNat (a0.length : Int)) ([.d (.str (⟨#[]⟩ : ByteArray)), .own ([] : List (List C)), .own ([] : List (List C)), .d (.int .i64 0), .d (.int .i64 0), .d (.int .i64 0)] : List C)))
noncomputable def laws_toPostS.t (k : Nat) (a0 : List (List D)) : Option ((List (List C))) := laws_toPostS.g k a0 (fun z0 => some z0)
noncomputable def laws_toPostS.f {β : Type} (k : Nat) (a0 : List (List D)) (K : (List (List C)) → Option β) : Option β :=
  match laws_toPostS.t k a0 with
  | some z0 => K z0
  | none => none
noncomputable def laws_toPostS.as (a0 : List (List D)) : List A := [.d (.sl a0)]
noncomputable def laws_toPostS.kt {β : Type} (a0 : List (List D)) (K0 : List (List C) → List Out → Option β) : (List (List C)) → Option β := fun z0 => K0 [[.own z0]] []
noncomputable def laws_toPostS.e (k : Nat) : ZQ := { modes := [(.imm, 0)], rts := [31], al := false, run := fun {β} l K => match l with | [.d (.sl a0)] => laws_toPostS.f k a0 (laws_toPostS.kt a0 K) | _ => none }
noncomputable def laws_toPostS.E (k : Nat) : Env := fun g => bif g == 165 then some (laws_toPost.e k) else none
noncomputable def laws_toPostS.h : ZY := ⟨fun n => bif n == 3 then ⟨[(0, .asis), (3, .asis), (4, .asis)], []⟩ else ⟨[], []⟩, fun _ => none, false, []⟩
noncomputable def laws_toPostS.s0 (v0_0 : List (List D)) (v : Int × (List (List C))) : St :=
  match v with
  | (v0_1, v0_2) => ⟨[.d false (.sl v0_0), .any, .any, .row 0, .d true (.int .i64 v0_1), .any, .any, .any, .any, .any, .any, .any, .any, .any, .any, .any, .any, .any, .any, .any, .any, .any, .any], [.row none true 31 v0_2]⟩
noncomputable def laws_toPostS.b0 {β : Type} (k : Nat) : St → (Ex → St → Option β) → Option β := fun s K => den Try.prog (laws_toPostS.E k) laws_toPostS.h.H laws_toPostS.h.J k (Zad [1, 1, 0, 1, 0, 0] (Zl Try.f76)) s K
noncomputable def laws_toPostS.c0 {β : Type} (k : Nat) (a0 : List (List D)) (K0 : List (List C) → List Out → Option β) : Ex → St → Option β := Zae Try.prog (laws_toPostS.E k) laws_toPostS.h k [1, 1, 0, 1, 0] (Zl Try.f76) (Zak Try.prog Try.f76 laws_toPostS.h (laws_toPostS.as a0) K0)
theorem laws_toPostS.l0_eq {β : Type} (k : Nat) (a0 : List (List D)) (K0 : List (List C) → List Out → Option β) (v0_0 : List (List D)) : ∀ (kk : Nat) (v : Int × (List (List C))), Zx (laws_toPostS.b0 k) (laws_toPostS.h.H 3) kk (laws_toPostS.s0 v0_0 v) (laws_toPostS.c0 k a0 K0) = Z4 (laws_toPostS.l0 k v0_0 (laws_toPostS.kt a0 K0)) kk v :=
  Z9 (laws_toPostS.s0 v0_0) _ (fun L0 v => by obtain ⟨v0_1, v0_2⟩ := v; kernel_rfl)
noncomputable def laws_toPostS.m {β : Type} (k : Nat) (a0 : List (List D)) (K0 : List (List C) → List Out → Option β) (F : ((List (List D)) → (Int × (List (List C))) → Option β)) : Option β :=
  ZH ((0 : Int) ≤ (a0.length : Int) ∧ (a0.length : Int) ≤ (Z6 : Int) ∧ (a0.length : Int) ≤ (a0.length : Int) ∧ (a0.length : Int) ≤ (a0.length : Int)) ((F) a0 (0, List.replicate (Int.toNat (a0.length : Int)) ([.d (.str (⟨#[]⟩ : ByteArray)), .own ([] : List (List C)), .own ([] : List (List C)), .d (.int .i64 0), .d (.int .i64 0), .d (.int .i64 0)] : List C)))
theorem laws_toPostS.f_eq {β : Type} (k : Nat) (a0 : List (List D)) (K0 : List (List C) → List Out → Option β) : ZJ Try.prog (laws_toPostS.E k) laws_toPostS.h k Try.f76 (laws_toPostS.as a0) K0 = laws_toPostS.g k a0 (laws_toPostS.kt a0 K0) := Eq.trans (b := (laws_toPostS.m k a0 K0) (fun (v0_0 : List (List D)) (v : Int × (List (List C))) => Zx (laws_toPostS.b0 k) (laws_toPostS.h.H 3) k (laws_toPostS.s0 v0_0 v) (laws_toPostS.c0 k a0 K0))) (by kernel_rfl) (Eq.trans (congrArg (laws_toPostS.m k a0 K0) (funext fun v0_0 => funext fun v => laws_toPostS.l0_eq k a0 K0 v0_0 k v)) (by kernel_rfl))
noncomputable def laws_toPostS.dec (rs : List (List C)) (os : List Out) : Option ((List (List C))) := Zd rs fun c1 r2 => Zd c1 fun x3 l4 => ZaU x3 fun w0 => Ze l4 <| Ze r2 <| Ze os (some w0)
theorem laws_toPostS.kt_dec (a0 : List (List D)) : laws_toPostS.kt a0 laws_toPostS.dec = (fun z0 => some z0) := by kernel_rfl
theorem laws_toPostS.inj (a0 : List (List D)) {rs : List (List C)} {os : List Out} {z0 : List (List C)} (h : laws_toPostS.dec rs os = some z0) (ho : Zo (laws_toPostS.as a0) os) : rs = [[.own z0]] ∧ os = [] := by
  unfold laws_toPostS.dec at h
  obtain ⟨c1, r2, rfl, h1⟩ := Zb h
  obtain ⟨x3, l4, rfl, h2⟩ := Zb h1
  obtain ⟨w0, rfl, h3⟩ := ZN h2
  obtain ⟨rfl, h4⟩ := Zc h3
  obtain ⟨rfl, h5⟩ := Zc h4
  obtain ⟨rfl, h6⟩ := Zc h5
  obtain rfl := Option.some.inj h6
  exact ⟨rfl, rfl⟩
theorem laws_toPostS.ok (k : Nat) : Zv Try.prog 76 (laws_toPostS.e k) := by
  refine Zu mix tyok (fn := Try.f76) (c := Zl Try.f76) Try.func76 (by kernel_rfl) (h := laws_toPostS.h) (k := k) (E := laws_toPostS.E k) (Zk (laws_toPost.ok k) Zz) (by kernel_rfl) (by kernel_rfl) rfl (Zq Try.func76 (by kernel_rfl)) ?_
  intro β l K r hr
  simp only [laws_toPostS.e] at hr
  split at hr
  case h_2 => cases hr
  unfold laws_toPostS.f at hr
  split at hr
  case h_2 => cases hr
  rename_i hz
  exact ⟨_, _, hr, _, laws_toPostS.dec, _, (laws_toPostS.f_eq k _ laws_toPostS.dec).trans (by rw [laws_toPostS.kt_dec]; exact hz), fun rs os h ho => laws_toPostS.inj _ h ho⟩
noncomputable def laws_toHold.g {β : Type} (k : Nat) (a0_0 : Int) (a0_1 : ByteArray) (a0_2 : Int) (a0_3 : Int) (a0_4 : Int) (K : Int → ByteArray → Int → Int → Int → Option β) : Option β :=
  K a0_0 a0_1 a0_2 a0_3 a0_4
noncomputable def laws_toHold.t (k : Nat) (a0_0 : Int) (a0_1 : ByteArray) (a0_2 : Int) (a0_3 : Int) (a0_4 : Int) : Option (Int × ByteArray × Int × Int × Int) := laws_toHold.g k a0_0 a0_1 a0_2 a0_3 a0_4 (fun z0 z1 z2 z3 z4 => some (z0, z1, z2, z3, z4))
noncomputable def laws_toHold.f {β : Type} (k : Nat) (a0_0 : Int) (a0_1 : ByteArray) (a0_2 : Int) (a0_3 : Int) (a0_4 : Int) (K : Int → ByteArray → Int → Int → Int → Option β) : Option β :=
  match laws_toHold.t k a0_0 a0_1 a0_2 a0_3 a0_4 with
  | some (z0, z1, z2, z3, z4) => K z0 z1 z2 z3 z4
  | none => none
noncomputable def laws_toHold.as (a0_0 : Int) (a0_1 : ByteArray) (a0_2 : Int) (a0_3 : Int) (a0_4 : Int) : List A := [.agg [.int .i64 a0_0, .str a0_1, .int .i64 a0_2, .int .i64 a0_3, .int .i64 a0_4]]
noncomputable def laws_toHold.kt {β : Type} (a0_0 : Int) (a0_1 : ByteArray) (a0_2 : Int) (a0_3 : Int) (a0_4 : Int) (K0 : List (List C) → List Out → Option β) : Int → ByteArray → Int → Int → Int → Option β := fun z0 z1 z2 z3 z4 => K0 [[.d (.int .i64 z0), .d (.str z1), .d (.int .i64 z2), .d (.int .i64 z3), .d (.int .i64 z4)]] []
noncomputable def laws_toHold.e (k : Nat) : ZQ := { modes := [(.imm, 0)], rts := [118], al := false, run := fun {β} l K => match l with | [.agg [.int .i64 a0_0, .str a0_1, .int .i64 a0_2, .int .i64 a0_3, .int .i64 a0_4]] => laws_toHold.f k a0_0 a0_1 a0_2 a0_3 a0_4 (laws_toHold.kt a0_0 a0_1 a0_2 a0_3 a0_4 K) | _ => none }
noncomputable def laws_toHold.E (k : Nat) : Env := fun g => none
noncomputable def laws_toHold.h : ZY := ⟨fun n => ⟨[], []⟩, fun _ => none, false, []⟩
theorem laws_toHold.f_eq {β : Type} (k : Nat) (a0_0 : Int) (a0_1 : ByteArray) (a0_2 : Int) (a0_3 : Int) (a0_4 : Int) (K0 : List (List C) → List Out → Option β) : ZJ Try.prog (laws_toHold.E k) laws_toHold.h k Try.f166 (laws_toHold.as a0_0 a0_1 a0_2 a0_3 a0_4) K0 = laws_toHold.g k a0_0 a0_1 a0_2 a0_3 a0_4 (laws_toHold.kt a0_0 a0_1 a0_2 a0_3 a0_4 K0) := by kernel_rfl
noncomputable def laws_toHold.dec (rs : List (List C)) (os : List Out) : Option (Int × ByteArray × Int × Int × Int) := Zd rs fun c1 r2 => Zd c1 fun x3 l4 => cD x3 fun d5 => ZM .i64 d5 fun w0 => Zd l4 fun x6 l7 => cD x6 fun d8 => Zan d8 fun w1 => Zd l7 fun x9 l10 => cD x9 fun d11 => ZM .i64 d11 fun w2 => Zd l10 fun x12 l13 => cD x12 fun d14 => ZM .i64 d14 fun w3 => Zd l13 fun x15 l16 => cD x15 fun d17 => ZM .i64 d17 fun w4 => Ze l16 <| Ze r2 <| Ze os (some (w0, w1, w2, w3, w4))
theorem laws_toHold.kt_dec (a0_0 : Int) (a0_1 : ByteArray) (a0_2 : Int) (a0_3 : Int) (a0_4 : Int) : laws_toHold.kt a0_0 a0_1 a0_2 a0_3 a0_4 laws_toHold.dec = (fun z0 z1 z2 z3 z4 => some (z0, z1, z2, z3, z4)) := by kernel_rfl
theorem laws_toHold.inj (a0_0 : Int) (a0_1 : ByteArray) (a0_2 : Int) (a0_3 : Int) (a0_4 : Int) {rs : List (List C)} {os : List Out} {z0 : Int} {z1 : ByteArray} {z2 : Int} {z3 : Int} {z4 : Int} (h : laws_toHold.dec rs os = some (z0, z1, z2, z3, z4)) (ho : Zo (laws_toHold.as a0_0 a0_1 a0_2 a0_3 a0_4) os) : rs = [[.d (.int .i64 z0), .d (.str z1), .d (.int .i64 z2), .d (.int .i64 z3), .d (.int .i64 z4)]] ∧ os = [] := by
  unfold laws_toHold.dec at h
  obtain ⟨c1, r2, rfl, h1⟩ := Zb h
  obtain ⟨x3, l4, rfl, h2⟩ := Zb h1
  obtain ⟨d5, rfl, h3⟩ := Zt h2
  obtain ⟨w0, rfl, h4⟩ := ZA h3
  obtain ⟨x6, l7, rfl, h5⟩ := Zb h4
  obtain ⟨d8, rfl, h6⟩ := Zt h5
  obtain ⟨w1, rfl, h7⟩ := ZaL h6
  obtain ⟨x9, l10, rfl, h8⟩ := Zb h7
  obtain ⟨d11, rfl, h9⟩ := Zt h8
  obtain ⟨w2, rfl, h10⟩ := ZA h9
  obtain ⟨x12, l13, rfl, h11⟩ := Zb h10
  obtain ⟨d14, rfl, h12⟩ := Zt h11
  obtain ⟨w3, rfl, h13⟩ := ZA h12
  obtain ⟨x15, l16, rfl, h14⟩ := Zb h13
  obtain ⟨d17, rfl, h15⟩ := Zt h14
  obtain ⟨w4, rfl, h16⟩ := ZA h15
  obtain ⟨rfl, h17⟩ := Zc h16
  obtain ⟨rfl, h18⟩ := Zc h17
  obtain ⟨rfl, h19⟩ := Zc h18
  simp only [Option.some.injEq, Prod.mk.injEq] at h19
  obtain ⟨rfl, rfl, rfl, rfl, rfl⟩ := h19
  exact ⟨rfl, rfl⟩
theorem laws_toHold.ok (k : Nat) : Zv Try.prog 166 (laws_toHold.e k) := by
  refine Zu mix tyok (fn := Try.f166) (c := Zl Try.f166) Try.func166 (by kernel_rfl) (h := laws_toHold.h) (k := k) (E := laws_toHold.E k) Zz (by kernel_rfl) (by kernel_rfl) rfl (Zq Try.func166 (by kernel_rfl)) ?_
  intro β l K r hr
  simp only [laws_toHold.e] at hr
  split at hr
  case h_2 => cases hr
  unfold laws_toHold.f at hr
  split at hr
  case h_2 => cases hr
  rename_i hz
  exact ⟨_, _, hr, _, laws_toHold.dec, _, (laws_toHold.f_eq k _ _ _ _ _ laws_toHold.dec).trans (by rw [laws_toHold.kt_dec]; exact hz), fun rs os h ho => laws_toHold.inj _ _ _ _ _ h ho⟩
noncomputable def laws_toHoldS.l0 {β : Type} (k : Nat) (v0_0 : List (List D)) (K : (List (List C)) → Option β) (L0 : (Int × (List (List C))) → Option β) (v : Int × (List (List C))) : Option β :=
  match v with
  | (v0_1, v0_2) => bif (decide ((v0_1 : Int) < (v0_0.length : Int))) then (ZX v0_0 v0_1 fun c22 => Zd c22 fun d23 r24 => ZM .i64 d23 fun x25 => Zd r24 fun d26 r27 => Zan d26 fun x28 => Zd r27 fun d29 r30 => ZM .i64 d29 fun x31 => Zd r30 fun d32 r33 => ZM .i64 d32 fun x34 => Zd r33 fun d35 r36 => ZM .i64 d35 fun x37 => Ze r36 (laws_toHold.f k x25 x28 x31 x34 x37 (fun y38 y39 y40 y41 y42 => ZH ((0 : Int) ≤ v0_1 ∧ v0_1 < (v0_2.length : Int)) (ZH (Int.toNat v0_1 < v0_2.length) (L0 (IntKind.wrap .i64 (v0_1 + 1), v0_2.modify (Int.toNat v0_1) fun c => Z1 c 0 [.d (.int .i64 y38), .d (.str y39), .d (.int .i64 y40), .d (.int .i64 y41), .d (.int .i64 y42)])))))) else (K v0_2)
noncomputable def laws_toHoldS.g {β : Type} (k : Nat) (a0 : List (List D)) (K : (List (List C)) → Option β) : Option β :=
  ZH ((0 : Int) ≤ (a0.length : Int) ∧ (a0.length : Int) ≤ (Z6 : Int) ∧ (a0.length : Int) ≤ (a0.length : Int) ∧ (a0.length : Int) ≤ (a0.length : Int)) (Z4 (laws_toHoldS.l0 k a0 K) k (0, List.replicate (Int.toNat (a0.length : Int)) ([.d (.int .i64 0), .d (.str (⟨#[]⟩ : ByteArray)), .d (.int .i64 0), .d (.int .i64 0), .d (.int .i64 0)] : List C)))
noncomputable def laws_toHoldS.t (k : Nat) (a0 : List (List D)) : Option ((List (List C))) := laws_toHoldS.g k a0 (fun z0 => some z0)
noncomputable def laws_toHoldS.f {β : Type} (k : Nat) (a0 : List (List D)) (K : (List (List C)) → Option β) : Option β :=
  match laws_toHoldS.t k a0 with
  | some z0 => K z0
  | none => none
noncomputable def laws_toHoldS.as (a0 : List (List D)) : List A := [.d (.sl a0)]
noncomputable def laws_toHoldS.kt {β : Type} (a0 : List (List D)) (K0 : List (List C) → List Out → Option β) : (List (List C)) → Option β := fun z0 => K0 [[.own z0]] []
noncomputable def laws_toHoldS.e (k : Nat) : ZQ := { modes := [(.imm, 0)], rts := [32], al := false, run := fun {β} l K => match l with | [.d (.sl a0)] => laws_toHoldS.f k a0 (laws_toHoldS.kt a0 K) | _ => none }
noncomputable def laws_toHoldS.E (k : Nat) : Env := fun g => bif g == 166 then some (laws_toHold.e k) else none
noncomputable def laws_toHoldS.h : ZY := ⟨fun n => bif n == 3 then ⟨[(0, .asis), (3, .asis), (4, .asis)], []⟩ else ⟨[], []⟩, fun _ => none, false, []⟩
noncomputable def laws_toHoldS.s0 (v0_0 : List (List D)) (v : Int × (List (List C))) : St :=
  match v with
  | (v0_1, v0_2) => ⟨[.d false (.sl v0_0), .any, .any, .row 0, .d true (.int .i64 v0_1), .any, .any, .any, .any, .any, .any, .any, .any, .any, .any, .any, .any, .any, .any, .any, .any, .any, .any], [.row none true 32 v0_2]⟩
noncomputable def laws_toHoldS.b0 {β : Type} (k : Nat) : St → (Ex → St → Option β) → Option β := fun s K => den Try.prog (laws_toHoldS.E k) laws_toHoldS.h.H laws_toHoldS.h.J k (Zad [1, 1, 0, 1, 0, 0] (Zl Try.f77)) s K
noncomputable def laws_toHoldS.c0 {β : Type} (k : Nat) (a0 : List (List D)) (K0 : List (List C) → List Out → Option β) : Ex → St → Option β := Zae Try.prog (laws_toHoldS.E k) laws_toHoldS.h k [1, 1, 0, 1, 0] (Zl Try.f77) (Zak Try.prog Try.f77 laws_toHoldS.h (laws_toHoldS.as a0) K0)
theorem laws_toHoldS.l0_eq {β : Type} (k : Nat) (a0 : List (List D)) (K0 : List (List C) → List Out → Option β) (v0_0 : List (List D)) : ∀ (kk : Nat) (v : Int × (List (List C))), Zx (laws_toHoldS.b0 k) (laws_toHoldS.h.H 3) kk (laws_toHoldS.s0 v0_0 v) (laws_toHoldS.c0 k a0 K0) = Z4 (laws_toHoldS.l0 k v0_0 (laws_toHoldS.kt a0 K0)) kk v :=
  Z9 (laws_toHoldS.s0 v0_0) _ (fun L0 v => by obtain ⟨v0_1, v0_2⟩ := v; kernel_rfl)
noncomputable def laws_toHoldS.m {β : Type} (k : Nat) (a0 : List (List D)) (K0 : List (List C) → List Out → Option β) (F : ((List (List D)) → (Int × (List (List C))) → Option β)) : Option β :=
  ZH ((0 : Int) ≤ (a0.length : Int) ∧ (a0.length : Int) ≤ (Z6 : Int) ∧ (a0.length : Int) ≤ (a0.length : Int) ∧ (a0.length : Int) ≤ (a0.length : Int)) ((F) a0 (0, List.replicate (Int.toNat (a0.length : Int)) ([.d (.int .i64 0), .d (.str (⟨#[]⟩ : ByteArray)), .d (.int .i64 0), .d (.int .i64 0), .d (.int .i64 0)] : List C)))
theorem laws_toHoldS.f_eq {β : Type} (k : Nat) (a0 : List (List D)) (K0 : List (List C) → List Out → Option β) : ZJ Try.prog (laws_toHoldS.E k) laws_toHoldS.h k Try.f77 (laws_toHoldS.as a0) K0 = laws_toHoldS.g k a0 (laws_toHoldS.kt a0 K0) := Eq.trans (b := (laws_toHoldS.m k a0 K0) (fun (v0_0 : List (List D)) (v : Int × (List (List C))) => Zx (laws_toHoldS.b0 k) (laws_toHoldS.h.H 3) k (laws_toHoldS.s0 v0_0 v) (laws_toHoldS.c0 k a0 K0))) (by kernel_rfl) (Eq.trans (congrArg (laws_toHoldS.m k a0 K0) (funext fun v0_0 => funext fun v => laws_toHoldS.l0_eq k a0 K0 v0_0 k v)) (by kernel_rfl))
noncomputable def laws_toHoldS.dec (rs : List (List C)) (os : List Out) : Option ((List (List C))) := Zd rs fun c1 r2 => Zd c1 fun x3 l4 => ZaU x3 fun w0 => Ze l4 <| Ze r2 <| Ze os (some w0)
theorem laws_toHoldS.kt_dec (a0 : List (List D)) : laws_toHoldS.kt a0 laws_toHoldS.dec = (fun z0 => some z0) := by kernel_rfl
theorem laws_toHoldS.inj (a0 : List (List D)) {rs : List (List C)} {os : List Out} {z0 : List (List C)} (h : laws_toHoldS.dec rs os = some z0) (ho : Zo (laws_toHoldS.as a0) os) : rs = [[.own z0]] ∧ os = [] := by
  unfold laws_toHoldS.dec at h
  obtain ⟨c1, r2, rfl, h1⟩ := Zb h
  obtain ⟨x3, l4, rfl, h2⟩ := Zb h1
  obtain ⟨w0, rfl, h3⟩ := ZN h2
  obtain ⟨rfl, h4⟩ := Zc h3
  obtain ⟨rfl, h5⟩ := Zc h4
  obtain ⟨rfl, h6⟩ := Zc h5
  obtain rfl := Option.some.inj h6
  exact ⟨rfl, rfl⟩
theorem laws_toHoldS.ok (k : Nat) : Zv Try.prog 77 (laws_toHoldS.e k) := by
  refine Zu mix tyok (fn := Try.f77) (c := Zl Try.f77) Try.func77 (by kernel_rfl) (h := laws_toHoldS.h) (k := k) (E := laws_toHoldS.E k) (Zk (laws_toHold.ok k) Zz) (by kernel_rfl) (by kernel_rfl) rfl (Zq Try.func77 (by kernel_rfl)) ?_
  intro β l K r hr
  simp only [laws_toHoldS.e] at hr
  split at hr
  case h_2 => cases hr
  unfold laws_toHoldS.f at hr
  split at hr
  case h_2 => cases hr
  rename_i hz
  exact ⟨_, _, hr, _, laws_toHoldS.dec, _, (laws_toHoldS.f_eq k _ laws_toHoldS.dec).trans (by rw [laws_toHoldS.kt_dec]; exact hz), fun rs os h ho => laws_toHoldS.inj _ h ho⟩
noncomputable def laws_toHub.g {β : Type} (k : Nat) (a0_0 : Int) (a0_1 : Int) (a0_2 : Int) (a0_3 : List (List D)) (a0_4 : List (List D)) (a0_5 : List (List D)) (a0_6 : List (List D)) (K : Int → Int → Int → (List (List C)) → (List (List C)) → (List (List C)) → (List (List C)) → Option β) : Option β :=
  laws_toJobS.f k a0_3 (fun y138 => laws_toPostS.f k a0_4 (fun y139 => laws_toHoldS.f k a0_5 (fun y140 => laws_toStringS.f k a0_6 (fun y141 => K a0_0 a0_1 a0_2 y138 y139 y140 y141))))
noncomputable def laws_toHub.t (k : Nat) (a0_0 : Int) (a0_1 : Int) (a0_2 : Int) (a0_3 : List (List D)) (a0_4 : List (List D)) (a0_5 : List (List D)) (a0_6 : List (List D)) : Option (Int × Int × Int × (List (List C)) × (List (List C)) × (List (List C)) × (List (List C))) := laws_toHub.g k a0_0 a0_1 a0_2 a0_3 a0_4 a0_5 a0_6 (fun z0 z1 z2 z3 z4 z5 z6 => some (z0, z1, z2, z3, z4, z5, z6))
noncomputable def laws_toHub.f {β : Type} (k : Nat) (a0_0 : Int) (a0_1 : Int) (a0_2 : Int) (a0_3 : List (List D)) (a0_4 : List (List D)) (a0_5 : List (List D)) (a0_6 : List (List D)) (K : Int → Int → Int → (List (List C)) → (List (List C)) → (List (List C)) → (List (List C)) → Option β) : Option β :=
  match laws_toHub.t k a0_0 a0_1 a0_2 a0_3 a0_4 a0_5 a0_6 with
  | some (z0, z1, z2, z3, z4, z5, z6) => K z0 z1 z2 z3 z4 z5 z6
  | none => none
noncomputable def laws_toHub.as (a0_0 : Int) (a0_1 : Int) (a0_2 : Int) (a0_3 : List (List D)) (a0_4 : List (List D)) (a0_5 : List (List D)) (a0_6 : List (List D)) : List A := [.agg [.int .i64 a0_0, .int .i64 a0_1, .int .i64 a0_2, .sl a0_3, .sl a0_4, .sl a0_5, .sl a0_6]]
noncomputable def laws_toHub.kt {β : Type} (a0_0 : Int) (a0_1 : Int) (a0_2 : Int) (a0_3 : List (List D)) (a0_4 : List (List D)) (a0_5 : List (List D)) (a0_6 : List (List D)) (K0 : List (List C) → List Out → Option β) : Int → Int → Int → (List (List C)) → (List (List C)) → (List (List C)) → (List (List C)) → Option β := fun z0 z1 z2 z3 z4 z5 z6 => K0 [[.d (.int .i64 z0), .d (.int .i64 z1), .d (.int .i64 z2), .own z3, .own z4, .own z5, .own z6]] []
noncomputable def laws_toHub.e (k : Nat) : ZQ := { modes := [(.imm, 0)], rts := [34], al := false, run := fun {β} l K => match l with | [.agg [.int .i64 a0_0, .int .i64 a0_1, .int .i64 a0_2, .sl a0_3, .sl a0_4, .sl a0_5, .sl a0_6]] => laws_toHub.f k a0_0 a0_1 a0_2 a0_3 a0_4 a0_5 a0_6 (laws_toHub.kt a0_0 a0_1 a0_2 a0_3 a0_4 a0_5 a0_6 K) | _ => none }
noncomputable def laws_toHub.E (k : Nat) : Env := fun g => bif g == 75 then some (laws_toJobS.e k) else bif g == 76 then some (laws_toPostS.e k) else bif g == 77 then some (laws_toHoldS.e k) else bif g == 78 then some (laws_toStringS.e k) else none
noncomputable def laws_toHub.h : ZY := ⟨fun n => ⟨[], []⟩, fun _ => none, false, []⟩
theorem laws_toHub.f_eq {β : Type} (k : Nat) (a0_0 : Int) (a0_1 : Int) (a0_2 : Int) (a0_3 : List (List D)) (a0_4 : List (List D)) (a0_5 : List (List D)) (a0_6 : List (List D)) (K0 : List (List C) → List Out → Option β) : ZJ Try.prog (laws_toHub.E k) laws_toHub.h k Try.f17 (laws_toHub.as a0_0 a0_1 a0_2 a0_3 a0_4 a0_5 a0_6) K0 = laws_toHub.g k a0_0 a0_1 a0_2 a0_3 a0_4 a0_5 a0_6 (laws_toHub.kt a0_0 a0_1 a0_2 a0_3 a0_4 a0_5 a0_6 K0) := by kernel_rfl
noncomputable def laws_toHub.dec (rs : List (List C)) (os : List Out) : Option (Int × Int × Int × (List (List C)) × (List (List C)) × (List (List C)) × (List (List C))) := Zd rs fun c1 r2 => Zd c1 fun x3 l4 => cD x3 fun d5 => ZM .i64 d5 fun w0 => Zd l4 fun x6 l7 => cD x6 fun d8 => ZM .i64 d8 fun w1 => Zd l7 fun x9 l10 => cD x9 fun d11 => ZM .i64 d11 fun w2 => Zd l10 fun x12 l13 => ZaU x12 fun w3 => Zd l13 fun x14 l15 => ZaU x14 fun w4 => Zd l15 fun x16 l17 => ZaU x16 fun w5 => Zd l17 fun x18 l19 => ZaU x18 fun w6 => Ze l19 <| Ze r2 <| Ze os (some (w0, w1, w2, w3, w4, w5, w6))
theorem laws_toHub.kt_dec (a0_0 : Int) (a0_1 : Int) (a0_2 : Int) (a0_3 : List (List D)) (a0_4 : List (List D)) (a0_5 : List (List D)) (a0_6 : List (List D)) : laws_toHub.kt a0_0 a0_1 a0_2 a0_3 a0_4 a0_5 a0_6 laws_toHub.dec = (fun z0 z1 z2 z3 z4 z5 z6 => some (z0, z1, z2, z3, z4, z5, z6)) := by kernel_rfl
theorem laws_toHub.inj (a0_0 : Int) (a0_1 : Int) (a0_2 : Int) (a0_3 : List (List D)) (a0_4 : List (List D)) (a0_5 : List (List D)) (a0_6 : List (List D)) {rs : List (List C)} {os : List Out} {z0 : Int} {z1 : Int} {z2 : Int} {z3 : List (List C)} {z4 : List (List C)} {z5 : List (List C)} {z6 : List (List C)} (h : laws_toHub.dec rs os = some (z0, z1, z2, z3, z4, z5, z6)) (ho : Zo (laws_toHub.as a0_0 a0_1 a0_2 a0_3 a0_4 a0_5 a0_6) os) : rs = [[.d (.int .i64 z0), .d (.int .i64 z1), .d (.int .i64 z2), .own z3, .own z4, .own z5, .own z6]] ∧ os = [] := by
  unfold laws_toHub.dec at h
  obtain ⟨c1, r2, rfl, h1⟩ := Zb h
  obtain ⟨x3, l4, rfl, h2⟩ := Zb h1
  obtain ⟨d5, rfl, h3⟩ := Zt h2
  obtain ⟨w0, rfl, h4⟩ := ZA h3
  obtain ⟨x6, l7, rfl, h5⟩ := Zb h4
  obtain ⟨d8, rfl, h6⟩ := Zt h5
  obtain ⟨w1, rfl, h7⟩ := ZA h6
  obtain ⟨x9, l10, rfl, h8⟩ := Zb h7
  obtain ⟨d11, rfl, h9⟩ := Zt h8
  obtain ⟨w2, rfl, h10⟩ := ZA h9
  obtain ⟨x12, l13, rfl, h11⟩ := Zb h10
  obtain ⟨w3, rfl, h12⟩ := ZN h11
  obtain ⟨x14, l15, rfl, h13⟩ := Zb h12
  obtain ⟨w4, rfl, h14⟩ := ZN h13
  obtain ⟨x16, l17, rfl, h15⟩ := Zb h14
  obtain ⟨w5, rfl, h16⟩ := ZN h15
  obtain ⟨x18, l19, rfl, h17⟩ := Zb h16
  obtain ⟨w6, rfl, h18⟩ := ZN h17
  obtain ⟨rfl, h19⟩ := Zc h18
  obtain ⟨rfl, h20⟩ := Zc h19
  obtain ⟨rfl, h21⟩ := Zc h20
  simp only [Option.some.injEq, Prod.mk.injEq] at h21
  obtain ⟨rfl, rfl, rfl, rfl, rfl, rfl, rfl⟩ := h21
  exact ⟨rfl, rfl⟩
theorem laws_toHub.ok (k : Nat) : Zv Try.prog 17 (laws_toHub.e k) := by
  refine Zu mix tyok (fn := Try.f17) (c := Zl Try.f17) Try.func17 (by kernel_rfl) (h := laws_toHub.h) (k := k) (E := laws_toHub.E k) (Zk (laws_toJobS.ok k) (Zk (laws_toPostS.ok k) (Zk (laws_toHoldS.ok k) (Zk (laws_toStringS.ok k) Zz)))) (by kernel_rfl) (by kernel_rfl) rfl (Zq Try.func17 (by kernel_rfl)) ?_
  intro β l K r hr
  simp only [laws_toHub.e] at hr
  split at hr
  case h_2 => cases hr
  unfold laws_toHub.f at hr
  split at hr
  case h_2 => cases hr
  rename_i hz
  exact ⟨_, _, hr, _, laws_toHub.dec, _, (laws_toHub.f_eq k _ _ _ _ _ _ _ laws_toHub.dec).trans (by rw [laws_toHub.kt_dec]; exact hz), fun rs os h ho => laws_toHub.inj _ _ _ _ _ _ _ h ho⟩
noncomputable def spec_Running.l0 {β : Type} (k : Nat) (v0_0 : Int) (v0_3 : Int) (v0_4 : Int) (v0_5 : Int) (v0_6 : List (List D)) (v0_7 : List (List D)) (v0_8 : List (List D)) (v0_9 : List (List D)) (K : Int → Option β) (L0 : (Int × Int) → Option β) (v : Int × Int) : Option β :=
  match v with
  | (v0_1, v0_2) => bif (decide ((v0_2 : Int) < (v0_8.length : Int))) then (ZX v0_8 v0_2 fun c33 => Zd c33 fun d34 r35 => ZM .i64 d34 fun x36 => Zd r35 fun d37 r38 => Zan d37 fun x39 => Zd r38 fun d40 r41 => ZM .i64 d40 fun x42 => Zd r41 fun d43 r44 => ZM .i64 d43 fun x45 => Zd r44 fun d46 r47 => ZM .i64 d46 fun x48 => Ze r47 (bif ((x36 : Int) == v0_0) then (ZX v0_8 v0_2 fun c49 => Zd c49 fun d50 r51 => ZM .i64 d50 fun x52 => Zd r51 fun d53 r54 => Zan d53 fun x55 => Zd r54 fun d56 r57 => ZM .i64 d56 fun x58 => Zd r57 fun d59 r60 => ZM .i64 d59 fun x61 => Zd r60 fun d62 r63 => ZM .i64 d62 fun x64 => Ze r63 (L0 (IntKind.wrap .i64 (v0_1 + x61), IntKind.wrap .i64 (v0_2 + 1)))) else (L0 (v0_1, IntKind.wrap .i64 (v0_2 + 1))))) else (K v0_1)
noncomputable def spec_Running.g {β : Type} (k : Nat) (a0_0 : Int) (a0_1 : Int) (a0_2 : Int) (a0_3 : List (List D)) (a0_4 : List (List D)) (a0_5 : List (List D)) (a0_6 : List (List D)) (a1 : Int) (K : Int → Option β) : Option β :=
  Z4 (spec_Running.l0 k a1 a0_0 a0_1 a0_2 a0_3 a0_4 a0_5 a0_6 K) k (0, 0)
noncomputable def spec_Running.t (k : Nat) (a0_0 : Int) (a0_1 : Int) (a0_2 : Int) (a0_3 : List (List D)) (a0_4 : List (List D)) (a0_5 : List (List D)) (a0_6 : List (List D)) (a1 : Int) : Option (Int) := spec_Running.g k a0_0 a0_1 a0_2 a0_3 a0_4 a0_5 a0_6 a1 (fun z0 => some z0)
noncomputable def spec_Running.f {β : Type} (k : Nat) (a0_0 : Int) (a0_1 : Int) (a0_2 : Int) (a0_3 : List (List D)) (a0_4 : List (List D)) (a0_5 : List (List D)) (a0_6 : List (List D)) (a1 : Int) (K : Int → Option β) : Option β :=
  match spec_Running.t k a0_0 a0_1 a0_2 a0_3 a0_4 a0_5 a0_6 a1 with
  | some z0 => K z0
  | none => none
noncomputable def spec_Running.as (a0_0 : Int) (a0_1 : Int) (a0_2 : Int) (a0_3 : List (List D)) (a0_4 : List (List D)) (a0_5 : List (List D)) (a0_6 : List (List D)) (a1 : Int) : List A := [.agg [.int .i64 a0_0, .int .i64 a0_1, .int .i64 a0_2, .sl a0_3, .sl a0_4, .sl a0_5, .sl a0_6], .d (.int .i64 a1)]
noncomputable def spec_Running.kt {β : Type} (a0_0 : Int) (a0_1 : Int) (a0_2 : Int) (a0_3 : List (List D)) (a0_4 : List (List D)) (a0_5 : List (List D)) (a0_6 : List (List D)) (a1 : Int) (K0 : List (List C) → List Out → Option β) : Int → Option β := fun z0 => K0 [[.d (.int .i64 z0)]] []
noncomputable def spec_Running.e (k : Nat) : ZQ := { modes := [(.imm, 0), (.imm, 0)], rts := [3], al := false, run := fun {β} l K => match l with | [.agg [.int .i64 a0_0, .int .i64 a0_1, .int .i64 a0_2, .sl a0_3, .sl a0_4, .sl a0_5, .sl a0_6], .d (.int .i64 a1)] => spec_Running.f k a0_0 a0_1 a0_2 a0_3 a0_4 a0_5 a0_6 a1 (spec_Running.kt a0_0 a0_1 a0_2 a0_3 a0_4 a0_5 a0_6 a1 K) | _ => none }
noncomputable def spec_Running.E (k : Nat) : Env := fun g => none
noncomputable def spec_Running.h : ZY := ⟨fun n => bif n == 3 then ⟨[(1, .asis), (2, .asis), (5, .asis), (6, .asis)], []⟩ else ⟨[], []⟩, fun _ => none, false, []⟩
noncomputable def spec_Running.s0 (v0_0 : Int) (v0_3 : Int) (v0_4 : Int) (v0_5 : Int) (v0_6 : List (List D)) (v0_7 : List (List D)) (v0_8 : List (List D)) (v0_9 : List (List D)) (v : Int × Int) : St :=
  match v with
  | (v0_1, v0_2) => ⟨[.any, .d false (.int .i64 v0_0), .bp 0 0, .any, .any, .d true (.int .i64 v0_1), .d true (.int .i64 v0_2), .any, .any, .any, .any, .any, .any, .any, .any, .any, .any, .any, .any, .any, .any, .any, .any, .any, .any, .any, .any, .any, .any, .any, .any], [.box none 34 [.d false (.int .i64 v0_3), .d false (.int .i64 v0_4), .d false (.int .i64 v0_5), .d false (.sl v0_6), .d false (.sl v0_7), .d false (.sl v0_8), .d false (.sl v0_9)]]⟩
noncomputable def spec_Running.b0 {β : Type} (k : Nat) : St → (Ex → St → Option β) → Option β := fun s K => den Try.prog (spec_Running.E k) spec_Running.h.H spec_Running.h.J k (Zad [1, 1, 0, 1, 0, 0] (Zl Try.f16)) s K
noncomputable def spec_Running.c0 {β : Type} (k : Nat) (a0_0 : Int) (a0_1 : Int) (a0_2 : Int) (a0_3 : List (List D)) (a0_4 : List (List D)) (a0_5 : List (List D)) (a0_6 : List (List D)) (a1 : Int) (K0 : List (List C) → List Out → Option β) : Ex → St → Option β := Zae Try.prog (spec_Running.E k) spec_Running.h k [1, 1, 0, 1, 0] (Zl Try.f16) (Zak Try.prog Try.f16 spec_Running.h (spec_Running.as a0_0 a0_1 a0_2 a0_3 a0_4 a0_5 a0_6 a1) K0)
theorem spec_Running.l0_eq {β : Type} (k : Nat) (a0_0 : Int) (a0_1 : Int) (a0_2 : Int) (a0_3 : List (List D)) (a0_4 : List (List D)) (a0_5 : List (List D)) (a0_6 : List (List D)) (a1 : Int) (K0 : List (List C) → List Out → Option β) (v0_0 : Int) (v0_3 : Int) (v0_4 : Int) (v0_5 : Int) (v0_6 : List (List D)) (v0_7 : List (List D)) (v0_8 : List (List D)) (v0_9 : List (List D)) : ∀ (kk : Nat) (v : Int × Int), Zx (spec_Running.b0 k) (spec_Running.h.H 3) kk (spec_Running.s0 v0_0 v0_3 v0_4 v0_5 v0_6 v0_7 v0_8 v0_9 v) (spec_Running.c0 k a0_0 a0_1 a0_2 a0_3 a0_4 a0_5 a0_6 a1 K0) = Z4 (spec_Running.l0 k v0_0 v0_3 v0_4 v0_5 v0_6 v0_7 v0_8 v0_9 (spec_Running.kt a0_0 a0_1 a0_2 a0_3 a0_4 a0_5 a0_6 a1 K0)) kk v :=
  Z9 (spec_Running.s0 v0_0 v0_3 v0_4 v0_5 v0_6 v0_7 v0_8 v0_9) _ (fun L0 v => by obtain ⟨v0_1, v0_2⟩ := v; kernel_rfl)
noncomputable def spec_Running.m {β : Type} (k : Nat) (a0_0 : Int) (a0_1 : Int) (a0_2 : Int) (a0_3 : List (List D)) (a0_4 : List (List D)) (a0_5 : List (List D)) (a0_6 : List (List D)) (a1 : Int) (K0 : List (List C) → List Out → Option β) (F : (Int → Int → Int → Int → (List (List D)) → (List (List D)) → (List (List D)) → (List (List D)) → (Int × Int) → Option β)) : Option β :=
  (F) a1 a0_0 a0_1 a0_2 a0_3 a0_4 a0_5 a0_6 (0, 0)
theorem spec_Running.f_eq {β : Type} (k : Nat) (a0_0 : Int) (a0_1 : Int) (a0_2 : Int) (a0_3 : List (List D)) (a0_4 : List (List D)) (a0_5 : List (List D)) (a0_6 : List (List D)) (a1 : Int) (K0 : List (List C) → List Out → Option β) : ZJ Try.prog (spec_Running.E k) spec_Running.h k Try.f16 (spec_Running.as a0_0 a0_1 a0_2 a0_3 a0_4 a0_5 a0_6 a1) K0 = spec_Running.g k a0_0 a0_1 a0_2 a0_3 a0_4 a0_5 a0_6 a1 (spec_Running.kt a0_0 a0_1 a0_2 a0_3 a0_4 a0_5 a0_6 a1 K0) := Eq.trans (b := (spec_Running.m k a0_0 a0_1 a0_2 a0_3 a0_4 a0_5 a0_6 a1 K0) (fun (v0_0 : Int) (v0_3 : Int) (v0_4 : Int) (v0_5 : Int) (v0_6 : List (List D)) (v0_7 : List (List D)) (v0_8 : List (List D)) (v0_9 : List (List D)) (v : Int × Int) => Zx (spec_Running.b0 k) (spec_Running.h.H 3) k (spec_Running.s0 v0_0 v0_3 v0_4 v0_5 v0_6 v0_7 v0_8 v0_9 v) (spec_Running.c0 k a0_0 a0_1 a0_2 a0_3 a0_4 a0_5 a0_6 a1 K0))) (by kernel_rfl) (Eq.trans (congrArg (spec_Running.m k a0_0 a0_1 a0_2 a0_3 a0_4 a0_5 a0_6 a1 K0) (funext fun v0_0 => funext fun v0_3 => funext fun v0_4 => funext fun v0_5 => funext fun v0_6 => funext fun v0_7 => funext fun v0_8 => funext fun v0_9 => funext fun v => spec_Running.l0_eq k a0_0 a0_1 a0_2 a0_3 a0_4 a0_5 a0_6 a1 K0 v0_0 v0_3 v0_4 v0_5 v0_6 v0_7 v0_8 v0_9 k v)) (by kernel_rfl))
noncomputable def spec_Running.dec (rs : List (List C)) (os : List Out) : Option (Int) := Zd rs fun c1 r2 => Zd c1 fun x3 l4 => cD x3 fun d5 => ZM .i64 d5 fun w0 => Ze l4 <| Ze r2 <| Ze os (some w0)
theorem spec_Running.kt_dec (a0_0 : Int) (a0_1 : Int) (a0_2 : Int) (a0_3 : List (List D)) (a0_4 : List (List D)) (a0_5 : List (List D)) (a0_6 : List (List D)) (a1 : Int) : spec_Running.kt a0_0 a0_1 a0_2 a0_3 a0_4 a0_5 a0_6 a1 spec_Running.dec = (fun z0 => some z0) := by kernel_rfl
theorem spec_Running.inj (a0_0 : Int) (a0_1 : Int) (a0_2 : Int) (a0_3 : List (List D)) (a0_4 : List (List D)) (a0_5 : List (List D)) (a0_6 : List (List D)) (a1 : Int) {rs : List (List C)} {os : List Out} {z0 : Int} (h : spec_Running.dec rs os = some z0) (ho : Zo (spec_Running.as a0_0 a0_1 a0_2 a0_3 a0_4 a0_5 a0_6 a1) os) : rs = [[.d (.int .i64 z0)]] ∧ os = [] := by
  unfold spec_Running.dec at h
  obtain ⟨c1, r2, rfl, h1⟩ := Zb h
  obtain ⟨x3, l4, rfl, h2⟩ := Zb h1
  obtain ⟨d5, rfl, h3⟩ := Zt h2
  obtain ⟨w0, rfl, h4⟩ := ZA h3
  obtain ⟨rfl, h5⟩ := Zc h4
  obtain ⟨rfl, h6⟩ := Zc h5
  obtain ⟨rfl, h7⟩ := Zc h6
  obtain rfl := Option.some.inj h7
  exact ⟨rfl, rfl⟩
theorem spec_Running.ok (k : Nat) : Zv Try.prog 16 (spec_Running.e k) := by
  refine Zu mix tyok (fn := Try.f16) (c := Zl Try.f16) Try.func16 (by kernel_rfl) (h := spec_Running.h) (k := k) (E := spec_Running.E k) Zz (by kernel_rfl) (by kernel_rfl) rfl (Zq Try.func16 (by kernel_rfl)) ?_
  intro β l K r hr
  simp only [spec_Running.e] at hr
  split at hr
  case h_2 => cases hr
  unfold spec_Running.f at hr
  split at hr
  case h_2 => cases hr
  rename_i hz
  exact ⟨_, _, hr, _, spec_Running.dec, _, (spec_Running.f_eq k _ _ _ _ _ _ _ _ spec_Running.dec).trans (by rw [spec_Running.kt_dec]; exact hz), fun rs os h ho => spec_Running.inj _ _ _ _ _ _ _ _ h ho⟩
noncomputable def impl_Running.l0 {β : Type} (k : Nat) (v0_0 : Int) (v0_2 : List (List D)) (v0_3 : Int) (K : Int → Option β) (L0 : (Int × Int) → Option β) (v : Int × Int) : Option β :=
  match v with
  | (v0_1, v0_4) => bif (decide ((v0_4 : Int) < v0_3)) then (ZX v0_2 v0_4 fun c17 => Zd c17 fun d18 r19 => ZM .i64 d18 fun x20 => Zd r19 fun d21 r22 => Zan d21 fun x23 => Zd r22 fun d24 r25 => ZM .i64 d24 fun x26 => Zd r25 fun d27 r28 => ZM .i64 d27 fun x29 => Zd r28 fun d30 r31 => ZM .i64 d30 fun x32 => Ze r31 (bif ((x20 : Int) == v0_0) then (L0 (IntKind.wrap .i64 (v0_1 + x29), IntKind.wrap .i64 (v0_4 + 1))) else (L0 (v0_1, IntKind.wrap .i64 (v0_4 + 1))))) else (K v0_1)
noncomputable def impl_Running.g {β : Type} (k : Nat) (a0_0 : Int) (a0_1 : Int) (a0_2 : Int) (a0_3 : List (List D)) (a0_4 : List (List D)) (a0_5 : List (List D)) (a0_6 : List (List D)) (a1 : Int) (K : Int → Option β) : Option β :=
  Z4 (impl_Running.l0 k a1 a0_5 (a0_5.length : Int) K) k (0, 0)
noncomputable def impl_Running.t (k : Nat) (a0_0 : Int) (a0_1 : Int) (a0_2 : Int) (a0_3 : List (List D)) (a0_4 : List (List D)) (a0_5 : List (List D)) (a0_6 : List (List D)) (a1 : Int) : Option (Int) := impl_Running.g k a0_0 a0_1 a0_2 a0_3 a0_4 a0_5 a0_6 a1 (fun z0 => some z0)
noncomputable def impl_Running.f {β : Type} (k : Nat) (a0_0 : Int) (a0_1 : Int) (a0_2 : Int) (a0_3 : List (List D)) (a0_4 : List (List D)) (a0_5 : List (List D)) (a0_6 : List (List D)) (a1 : Int) (K : Int → Option β) : Option β :=
  match impl_Running.t k a0_0 a0_1 a0_2 a0_3 a0_4 a0_5 a0_6 a1 with
  | some z0 => K z0
  | none => none
noncomputable def impl_Running.as (a0_0 : Int) (a0_1 : Int) (a0_2 : Int) (a0_3 : List (List D)) (a0_4 : List (List D)) (a0_5 : List (List D)) (a0_6 : List (List D)) (a1 : Int) : List A := [.agg [.int .i64 a0_0, .int .i64 a0_1, .int .i64 a0_2, .sl a0_3, .sl a0_4, .sl a0_5, .sl a0_6], .d (.int .i64 a1)]
noncomputable def impl_Running.kt {β : Type} (a0_0 : Int) (a0_1 : Int) (a0_2 : Int) (a0_3 : List (List D)) (a0_4 : List (List D)) (a0_5 : List (List D)) (a0_6 : List (List D)) (a1 : Int) (K0 : List (List C) → List Out → Option β) : Int → Option β := fun z0 => K0 [[.d (.int .i64 z0)]] []
noncomputable def impl_Running.e (k : Nat) : ZQ := { modes := [(.imm, 0), (.imm, 0)], rts := [3], al := false, run := fun {β} l K => match l with | [.agg [.int .i64 a0_0, .int .i64 a0_1, .int .i64 a0_2, .sl a0_3, .sl a0_4, .sl a0_5, .sl a0_6], .d (.int .i64 a1)] => impl_Running.f k a0_0 a0_1 a0_2 a0_3 a0_4 a0_5 a0_6 a1 (impl_Running.kt a0_0 a0_1 a0_2 a0_3 a0_4 a0_5 a0_6 a1 K) | _ => none }
noncomputable def impl_Running.E (k : Nat) : Env := fun g => none
noncomputable def impl_Running.h : ZY := ⟨fun n => bif n == 3 then ⟨[(1, .asis), (5, .asis), (9, .asis), (10, .asis), (11, .asis)], []⟩ else ⟨[], []⟩, fun _ => none, false, []⟩
noncomputable def impl_Running.s0 (v0_0 : Int) (v0_2 : List (List D)) (v0_3 : Int) (v : Int × Int) : St :=
  match v with
  | (v0_1, v0_4) => ⟨[.any, .d false (.int .i64 v0_0), .any, .any, .any, .d true (.int .i64 v0_1), .any, .any, .any, .d false (.sl v0_2), .d true (.int .i64 v0_3), .d true (.int .i64 v0_4), .any, .any, .any, .any, .any, .any, .any, .any, .any, .any, .any, .any, .any], []⟩
noncomputable def impl_Running.b0 {β : Type} (k : Nat) : St → (Ex → St → Option β) → Option β := fun s K => den Try.prog (impl_Running.E k) impl_Running.h.H impl_Running.h.J k (Zad [1, 1, 0, 1, 0, 0] (Zl Try.f18)) s K
noncomputable def impl_Running.c0 {β : Type} (k : Nat) (a0_0 : Int) (a0_1 : Int) (a0_2 : Int) (a0_3 : List (List D)) (a0_4 : List (List D)) (a0_5 : List (List D)) (a0_6 : List (List D)) (a1 : Int) (K0 : List (List C) → List Out → Option β) : Ex → St → Option β := Zae Try.prog (impl_Running.E k) impl_Running.h k [1, 1, 0, 1, 0] (Zl Try.f18) (Zak Try.prog Try.f18 impl_Running.h (impl_Running.as a0_0 a0_1 a0_2 a0_3 a0_4 a0_5 a0_6 a1) K0)
theorem impl_Running.l0_eq {β : Type} (k : Nat) (a0_0 : Int) (a0_1 : Int) (a0_2 : Int) (a0_3 : List (List D)) (a0_4 : List (List D)) (a0_5 : List (List D)) (a0_6 : List (List D)) (a1 : Int) (K0 : List (List C) → List Out → Option β) (v0_0 : Int) (v0_2 : List (List D)) (v0_3 : Int) : ∀ (kk : Nat) (v : Int × Int), Zx (impl_Running.b0 k) (impl_Running.h.H 3) kk (impl_Running.s0 v0_0 v0_2 v0_3 v) (impl_Running.c0 k a0_0 a0_1 a0_2 a0_3 a0_4 a0_5 a0_6 a1 K0) = Z4 (impl_Running.l0 k v0_0 v0_2 v0_3 (impl_Running.kt a0_0 a0_1 a0_2 a0_3 a0_4 a0_5 a0_6 a1 K0)) kk v :=
  Z9 (impl_Running.s0 v0_0 v0_2 v0_3) _ (fun L0 v => by obtain ⟨v0_1, v0_4⟩ := v; kernel_rfl)
noncomputable def impl_Running.m {β : Type} (k : Nat) (a0_0 : Int) (a0_1 : Int) (a0_2 : Int) (a0_3 : List (List D)) (a0_4 : List (List D)) (a0_5 : List (List D)) (a0_6 : List (List D)) (a1 : Int) (K0 : List (List C) → List Out → Option β) (F : (Int → (List (List D)) → Int → (Int × Int) → Option β)) : Option β :=
  (F) a1 a0_5 (a0_5.length : Int) (0, 0)
theorem impl_Running.f_eq {β : Type} (k : Nat) (a0_0 : Int) (a0_1 : Int) (a0_2 : Int) (a0_3 : List (List D)) (a0_4 : List (List D)) (a0_5 : List (List D)) (a0_6 : List (List D)) (a1 : Int) (K0 : List (List C) → List Out → Option β) : ZJ Try.prog (impl_Running.E k) impl_Running.h k Try.f18 (impl_Running.as a0_0 a0_1 a0_2 a0_3 a0_4 a0_5 a0_6 a1) K0 = impl_Running.g k a0_0 a0_1 a0_2 a0_3 a0_4 a0_5 a0_6 a1 (impl_Running.kt a0_0 a0_1 a0_2 a0_3 a0_4 a0_5 a0_6 a1 K0) := Eq.trans (b := (impl_Running.m k a0_0 a0_1 a0_2 a0_3 a0_4 a0_5 a0_6 a1 K0) (fun (v0_0 : Int) (v0_2 : List (List D)) (v0_3 : Int) (v : Int × Int) => Zx (impl_Running.b0 k) (impl_Running.h.H 3) k (impl_Running.s0 v0_0 v0_2 v0_3 v) (impl_Running.c0 k a0_0 a0_1 a0_2 a0_3 a0_4 a0_5 a0_6 a1 K0))) (by kernel_rfl) (Eq.trans (congrArg (impl_Running.m k a0_0 a0_1 a0_2 a0_3 a0_4 a0_5 a0_6 a1 K0) (funext fun v0_0 => funext fun v0_2 => funext fun v0_3 => funext fun v => impl_Running.l0_eq k a0_0 a0_1 a0_2 a0_3 a0_4 a0_5 a0_6 a1 K0 v0_0 v0_2 v0_3 k v)) (by kernel_rfl))
noncomputable def impl_Running.dec (rs : List (List C)) (os : List Out) : Option (Int) := Zd rs fun c1 r2 => Zd c1 fun x3 l4 => cD x3 fun d5 => ZM .i64 d5 fun w0 => Ze l4 <| Ze r2 <| Ze os (some w0)
theorem impl_Running.kt_dec (a0_0 : Int) (a0_1 : Int) (a0_2 : Int) (a0_3 : List (List D)) (a0_4 : List (List D)) (a0_5 : List (List D)) (a0_6 : List (List D)) (a1 : Int) : impl_Running.kt a0_0 a0_1 a0_2 a0_3 a0_4 a0_5 a0_6 a1 impl_Running.dec = (fun z0 => some z0) := by kernel_rfl
theorem impl_Running.inj (a0_0 : Int) (a0_1 : Int) (a0_2 : Int) (a0_3 : List (List D)) (a0_4 : List (List D)) (a0_5 : List (List D)) (a0_6 : List (List D)) (a1 : Int) {rs : List (List C)} {os : List Out} {z0 : Int} (h : impl_Running.dec rs os = some z0) (ho : Zo (impl_Running.as a0_0 a0_1 a0_2 a0_3 a0_4 a0_5 a0_6 a1) os) : rs = [[.d (.int .i64 z0)]] ∧ os = [] := by
  unfold impl_Running.dec at h
  obtain ⟨c1, r2, rfl, h1⟩ := Zb h
  obtain ⟨x3, l4, rfl, h2⟩ := Zb h1
  obtain ⟨d5, rfl, h3⟩ := Zt h2
  obtain ⟨w0, rfl, h4⟩ := ZA h3
  obtain ⟨rfl, h5⟩ := Zc h4
  obtain ⟨rfl, h6⟩ := Zc h5
  obtain ⟨rfl, h7⟩ := Zc h6
  obtain rfl := Option.some.inj h7
  exact ⟨rfl, rfl⟩
theorem impl_Running.ok (k : Nat) : Zv Try.prog 18 (impl_Running.e k) := by
  refine Zu mix tyok (fn := Try.f18) (c := Zl Try.f18) Try.func18 (by kernel_rfl) (h := impl_Running.h) (k := k) (E := impl_Running.E k) Zz (by kernel_rfl) (by kernel_rfl) rfl (Zq Try.func18 (by kernel_rfl)) ?_
  intro β l K r hr
  simp only [impl_Running.e] at hr
  split at hr
  case h_2 => cases hr
  unfold impl_Running.f at hr
  split at hr
  case h_2 => cases hr
  rename_i hz
  exact ⟨_, _, hr, _, impl_Running.dec, _, (impl_Running.f_eq k _ _ _ _ _ _ _ _ impl_Running.dec).trans (by rw [impl_Running.kt_dec]; exact hz), fun rs os h ho => impl_Running.inj _ _ _ _ _ _ _ _ h ho⟩
noncomputable def laws_eqStringS.l0 {β : Type} (k : Nat) (v0_0 : List (List D)) (v0_1 : List (List D)) (K : Bool → Option β) (L0 : Int → Option β) (v : Int) : Option β :=
  match v with
  | v0_2 => bif (decide ((v0_2 : Int) < (v0_0.length : Int))) then (ZX v0_0 v0_2 fun c9 => Zd c9 fun d10 r11 => Zan d10 fun x12 => Ze r11 (ZX v0_1 v0_2 fun c13 => Zd c13 fun d14 r15 => Zan d14 fun x16 => Ze r15 (bif (!(strEq x12 x16)) then (K false) else (L0 (IntKind.wrap .i64 (v0_2 + 1)))))) else (K true)
noncomputable def laws_eqStringS.g {β : Type} (k : Nat) (a0 : List (List D)) (a1 : List (List D)) (K : Bool → Option β) : Option β :=
  bif (((a0.length : Int) : Int) != (a1.length : Int)) then (K false) else (Z4 (laws_eqStringS.l0 k a0 a1 K) k (0))
noncomputable def laws_eqStringS.t (k : Nat) (a0 : List (List D)) (a1 : List (List D)) : Option (Bool) := laws_eqStringS.g k a0 a1 (fun z0 => some z0)
noncomputable def laws_eqStringS.f {β : Type} (k : Nat) (a0 : List (List D)) (a1 : List (List D)) (K : Bool → Option β) : Option β :=
  match laws_eqStringS.t k a0 a1 with
  | some z0 => K z0
  | none => none
noncomputable def laws_eqStringS.as (a0 : List (List D)) (a1 : List (List D)) : List A := [.d (.sl a0), .d (.sl a1)]
noncomputable def laws_eqStringS.kt {β : Type} (a0 : List (List D)) (a1 : List (List D)) (K0 : List (List C) → List Out → Option β) : Bool → Option β := fun z0 => K0 [[.d (.bool z0)]] []
noncomputable def laws_eqStringS.e (k : Nat) : ZQ := { modes := [(.imm, 0), (.imm, 0)], rts := [4], al := false, run := fun {β} l K => match l with | [.d (.sl a0), .d (.sl a1)] => laws_eqStringS.f k a0 a1 (laws_eqStringS.kt a0 a1 K) | _ => none }
noncomputable def laws_eqStringS.E (k : Nat) : Env := fun g => none
noncomputable def laws_eqStringS.h : ZY := ⟨fun n => bif n == 4 then ⟨[(0, .asis), (1, .asis), (5, .asis)], []⟩ else ⟨[], []⟩, fun _ => none, false, []⟩
noncomputable def laws_eqStringS.s0 (v0_0 : List (List D)) (v0_1 : List (List D)) (v : Int) : St :=
  match v with
  | v0_2 => ⟨[.d false (.sl v0_0), .d false (.sl v0_1), .any, .any, .any, .d true (.int .i64 v0_2), .any, .any, .any, .any, .any, .any, .any, .any, .any, .any, .any, .any, .any, .any, .any, .any, .any, .any, .any, .any], []⟩
noncomputable def laws_eqStringS.b0 {β : Type} (k : Nat) : St → (Ex → St → Option β) → Option β := fun s K => den Try.prog (laws_eqStringS.E k) laws_eqStringS.h.H laws_eqStringS.h.J k (Zad [1, 1, 0, 1, 0, 0] (Zl Try.f82)) s K
noncomputable def laws_eqStringS.c0 {β : Type} (k : Nat) (a0 : List (List D)) (a1 : List (List D)) (K0 : List (List C) → List Out → Option β) : Ex → St → Option β := Zae Try.prog (laws_eqStringS.E k) laws_eqStringS.h k [1, 1, 0, 1, 0] (Zl Try.f82) (Zak Try.prog Try.f82 laws_eqStringS.h (laws_eqStringS.as a0 a1) K0)
theorem laws_eqStringS.l0_eq {β : Type} (k : Nat) (a0 : List (List D)) (a1 : List (List D)) (K0 : List (List C) → List Out → Option β) (v0_0 : List (List D)) (v0_1 : List (List D)) : ∀ (kk : Nat) (v : Int), Zx (laws_eqStringS.b0 k) (laws_eqStringS.h.H 4) kk (laws_eqStringS.s0 v0_0 v0_1 v) (laws_eqStringS.c0 k a0 a1 K0) = Z4 (laws_eqStringS.l0 k v0_0 v0_1 (laws_eqStringS.kt a0 a1 K0)) kk v :=
  Z9 (laws_eqStringS.s0 v0_0 v0_1) _ (fun L0 v => by kernel_rfl)
noncomputable def laws_eqStringS.m {β : Type} (k : Nat) (a0 : List (List D)) (a1 : List (List D)) (K0 : List (List C) → List Out → Option β) (F : ((List (List D)) → (List (List D)) → Int → Option β)) : Option β :=
  bif (((a0.length : Int) : Int) != (a1.length : Int)) then ((laws_eqStringS.kt a0 a1 K0) false) else ((F) a0 a1 (0))
theorem laws_eqStringS.f_eq {β : Type} (k : Nat) (a0 : List (List D)) (a1 : List (List D)) (K0 : List (List C) → List Out → Option β) : ZJ Try.prog (laws_eqStringS.E k) laws_eqStringS.h k Try.f82 (laws_eqStringS.as a0 a1) K0 = laws_eqStringS.g k a0 a1 (laws_eqStringS.kt a0 a1 K0) := Eq.trans (b := (laws_eqStringS.m k a0 a1 K0) (fun (v0_0 : List (List D)) (v0_1 : List (List D)) (v : Int) => Zx (laws_eqStringS.b0 k) (laws_eqStringS.h.H 4) k (laws_eqStringS.s0 v0_0 v0_1 v) (laws_eqStringS.c0 k a0 a1 K0))) (by kernel_rfl) (Eq.trans (congrArg (laws_eqStringS.m k a0 a1 K0) (funext fun v0_0 => funext fun v0_1 => funext fun v => laws_eqStringS.l0_eq k a0 a1 K0 v0_0 v0_1 k v)) (by kernel_rfl))
noncomputable def laws_eqStringS.dec (rs : List (List C)) (os : List Out) : Option (Bool) := Zd rs fun c1 r2 => Zd c1 fun x3 l4 => cD x3 fun d5 => ZaF d5 fun w0 => Ze l4 <| Ze r2 <| Ze os (some w0)
theorem laws_eqStringS.kt_dec (a0 : List (List D)) (a1 : List (List D)) : laws_eqStringS.kt a0 a1 laws_eqStringS.dec = (fun z0 => some z0) := by kernel_rfl
theorem laws_eqStringS.inj (a0 : List (List D)) (a1 : List (List D)) {rs : List (List C)} {os : List Out} {z0 : Bool} (h : laws_eqStringS.dec rs os = some z0) (ho : Zo (laws_eqStringS.as a0 a1) os) : rs = [[.d (.bool z0)]] ∧ os = [] := by
  unfold laws_eqStringS.dec at h
  obtain ⟨c1, r2, rfl, h1⟩ := Zb h
  obtain ⟨x3, l4, rfl, h2⟩ := Zb h1
  obtain ⟨d5, rfl, h3⟩ := Zt h2
  obtain ⟨w0, rfl, h4⟩ := Z0 h3
  obtain ⟨rfl, h5⟩ := Zc h4
  obtain ⟨rfl, h6⟩ := Zc h5
  obtain ⟨rfl, h7⟩ := Zc h6
  obtain rfl := Option.some.inj h7
  exact ⟨rfl, rfl⟩
theorem laws_eqStringS.ok (k : Nat) : Zv Try.prog 82 (laws_eqStringS.e k) := by
  refine Zu mix tyok (fn := Try.f82) (c := Zl Try.f82) Try.func82 (by kernel_rfl) (h := laws_eqStringS.h) (k := k) (E := laws_eqStringS.E k) Zz (by kernel_rfl) (by kernel_rfl) rfl (Zq Try.func82 (by kernel_rfl)) ?_
  intro β l K r hr
  simp only [laws_eqStringS.e] at hr
  split at hr
  case h_2 => cases hr
  unfold laws_eqStringS.f at hr
  split at hr
  case h_2 => cases hr
  rename_i hz
  exact ⟨_, _, hr, _, laws_eqStringS.dec, _, (laws_eqStringS.f_eq k _ _ laws_eqStringS.dec).trans (by rw [laws_eqStringS.kt_dec]; exact hz), fun rs os h ho => laws_eqStringS.inj _ _ h ho⟩
end Go.Proofs.Ytljkbknnnpjmgaa
