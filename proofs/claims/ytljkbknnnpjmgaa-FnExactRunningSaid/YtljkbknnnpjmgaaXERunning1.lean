/- Printed: the functions that FnExactRunning reaches, read by the evaluator, each with its contract. -/
import Derived.Test.YtljkbknnnpjmgaaXERunning0
import Derived.KernelRfl
set_option linter.unusedVariables false
set_option linter.unusedSimpArgs false
namespace Go.Proofs.Ytljkbknnnpjmgaa
open Go Go.T Go.Proofs
noncomputable def laws_eqTerm.g {β : Type} (k : Nat) (a0_0 : Int) (a0_1 : ByteArray) (a0_2 : List (List D)) (a1_0 : Int) (a1_1 : ByteArray) (a1_2 : List (List D)) (K : Bool → Option β) : Option β :=
  bif ((a0_0 : Int) != a1_0) then (K false) else (bif (!(strEq a0_1 a1_1)) then (K false) else (laws_eqStringS.f k a0_2 a1_2 (fun y17 => bif (!y17) then (K false) else (K true))))
noncomputable def laws_eqTerm.t (k : Nat) (a0_0 : Int) (a0_1 : ByteArray) (a0_2 : List (List D)) (a1_0 : Int) (a1_1 : ByteArray) (a1_2 : List (List D)) : Option (Bool) := laws_eqTerm.g k a0_0 a0_1 a0_2 a1_0 a1_1 a1_2 (fun z0 => some z0)
noncomputable def laws_eqTerm.f {β : Type} (k : Nat) (a0_0 : Int) (a0_1 : ByteArray) (a0_2 : List (List D)) (a1_0 : Int) (a1_1 : ByteArray) (a1_2 : List (List D)) (K : Bool → Option β) : Option β :=
  match laws_eqTerm.t k a0_0 a0_1 a0_2 a1_0 a1_1 a1_2 with
  | some z0 => K z0
  | none => none
noncomputable def laws_eqTerm.as (a0_0 : Int) (a0_1 : ByteArray) (a0_2 : List (List D)) (a1_0 : Int) (a1_1 : ByteArray) (a1_2 : List (List D)) : List A := [.agg [.int .i64 a0_0, .str a0_1, .sl a0_2], .agg [.int .i64 a1_0, .str a1_1, .sl a1_2]]
noncomputable def laws_eqTerm.kt {β : Type} (a0_0 : Int) (a0_1 : ByteArray) (a0_2 : List (List D)) (a1_0 : Int) (a1_1 : ByteArray) (a1_2 : List (List D)) (K0 : List (List C) → List Out → Option β) : Bool → Option β := fun z0 => K0 [[.d (.bool z0)]] []
noncomputable def laws_eqTerm.e (k : Nat) : ZQ := { modes := [(.imm, 0), (.imm, 0)], rts := [4], al := false, run := fun {β} l K => match l with | [.agg [.int .i64 a0_0, .str a0_1, .sl a0_2], .agg [.int .i64 a1_0, .str a1_1, .sl a1_2]] => laws_eqTerm.f k a0_0 a0_1 a0_2 a1_0 a1_1 a1_2 (laws_eqTerm.kt a0_0 a0_1 a0_2 a1_0 a1_1 a1_2 K) | _ => none }
noncomputable def laws_eqTerm.E (k : Nat) : Env := fun g => bif g == 82 then some (laws_eqStringS.e k) else none
noncomputable def laws_eqTerm.h : ZY := ⟨fun n => ⟨[], []⟩, fun _ => none, false, []⟩
theorem laws_eqTerm.f_eq {β : Type} (k : Nat) (a0_0 : Int) (a0_1 : ByteArray) (a0_2 : List (List D)) (a1_0 : Int) (a1_1 : ByteArray) (a1_2 : List (List D)) (K0 : List (List C) → List Out → Option β) : ZJ Try.prog (laws_eqTerm.E k) laws_eqTerm.h k Try.f261 (laws_eqTerm.as a0_0 a0_1 a0_2 a1_0 a1_1 a1_2) K0 = laws_eqTerm.g k a0_0 a0_1 a0_2 a1_0 a1_1 a1_2 (laws_eqTerm.kt a0_0 a0_1 a0_2 a1_0 a1_1 a1_2 K0) := by kernel_rfl
noncomputable def laws_eqTerm.dec (rs : List (List C)) (os : List Out) : Option (Bool) := Zd rs fun c1 r2 => Zd c1 fun x3 l4 => cD x3 fun d5 => ZaF d5 fun w0 => Ze l4 <| Ze r2 <| Ze os (some w0)
theorem laws_eqTerm.kt_dec (a0_0 : Int) (a0_1 : ByteArray) (a0_2 : List (List D)) (a1_0 : Int) (a1_1 : ByteArray) (a1_2 : List (List D)) : laws_eqTerm.kt a0_0 a0_1 a0_2 a1_0 a1_1 a1_2 laws_eqTerm.dec = (fun z0 => some z0) := by kernel_rfl
theorem laws_eqTerm.inj (a0_0 : Int) (a0_1 : ByteArray) (a0_2 : List (List D)) (a1_0 : Int) (a1_1 : ByteArray) (a1_2 : List (List D)) {rs : List (List C)} {os : List Out} {z0 : Bool} (h : laws_eqTerm.dec rs os = some z0) (ho : Zo (laws_eqTerm.as a0_0 a0_1 a0_2 a1_0 a1_1 a1_2) os) : rs = [[.d (.bool z0)]] ∧ os = [] := by
  unfold laws_eqTerm.dec at h
  obtain ⟨c1, r2, rfl, h1⟩ := Zb h
  obtain ⟨x3, l4, rfl, h2⟩ := Zb h1
  obtain ⟨d5, rfl, h3⟩ := Zt h2
  obtain ⟨w0, rfl, h4⟩ := Z0 h3
  obtain ⟨rfl, h5⟩ := Zc h4
  obtain ⟨rfl, h6⟩ := Zc h5
  obtain ⟨rfl, h7⟩ := Zc h6
  obtain rfl := Option.some.inj h7
  exact ⟨rfl, rfl⟩
theorem laws_eqTerm.ok (k : Nat) : Zv Try.prog 261 (laws_eqTerm.e k) := by
  refine Zu mix tyok (fn := Try.f261) (c := Zl Try.f261) Try.func261 (by kernel_rfl) (h := laws_eqTerm.h) (k := k) (E := laws_eqTerm.E k) (Zk (laws_eqStringS.ok k) Zz) (by kernel_rfl) (by kernel_rfl) rfl (Zq Try.func261 (by kernel_rfl)) ?_
  intro β l K r hr
  simp only [laws_eqTerm.e] at hr
  split at hr
  case h_2 => cases hr
  unfold laws_eqTerm.f at hr
  split at hr
  case h_2 => cases hr
  rename_i hz
  exact ⟨_, _, hr, _, laws_eqTerm.dec, _, (laws_eqTerm.f_eq k _ _ _ _ _ _ laws_eqTerm.dec).trans (by rw [laws_eqTerm.kt_dec]; exact hz), fun rs os h ho => laws_eqTerm.inj _ _ _ _ _ _ h ho⟩
noncomputable def laws_eqTermS.l0 {β : Type} (k : Nat) (v0_0 : List (List D)) (v0_1 : List (List D)) (K : Bool → Option β) (L0 : Int → Option β) (v : Int) : Option β :=
  match v with
  | v0_2 => bif (decide ((v0_2 : Int) < (v0_0.length : Int))) then (ZX v0_0 v0_2 fun c22 => Zd c22 fun d23 r24 => ZM .i64 d23 fun x25 => Zd r24 fun d26 r27 => Zan d26 fun x28 => Zd r27 fun d29 r30 => dSl d29 fun x31 => Ze r30 (ZX v0_1 v0_2 fun c32 => Zd c32 fun d33 r34 => ZM .i64 d33 fun x35 => Zd r34 fun d36 r37 => Zan d36 fun x38 => Zd r37 fun d39 r40 => dSl d39 fun x41 => Ze r40 (laws_eqTerm.f k x25 x28 x31 x35 x38 x41 (fun y42 => bif (!y42) then (K false) else (L0 (IntKind.wrap .i64 (v0_2 + 1))))))) else (K true)
noncomputable def laws_eqTermS.g {β : Type} (k : Nat) (a0 : List (List D)) (a1 : List (List D)) (K : Bool → Option β) : Option β :=
  bif (((a0.length : Int) : Int) != (a1.length : Int)) then (K false) else (Z4 (laws_eqTermS.l0 k a0 a1 K) k (0))
noncomputable def laws_eqTermS.t (k : Nat) (a0 : List (List D)) (a1 : List (List D)) : Option (Bool) := laws_eqTermS.g k a0 a1 (fun z0 => some z0)
noncomputable def laws_eqTermS.f {β : Type} (k : Nat) (a0 : List (List D)) (a1 : List (List D)) (K : Bool → Option β) : Option β :=
  match laws_eqTermS.t k a0 a1 with
  | some z0 => K z0
  | none => none
noncomputable def laws_eqTermS.as (a0 : List (List D)) (a1 : List (List D)) : List A := [.d (.sl a0), .d (.sl a1)]
noncomputable def laws_eqTermS.kt {β : Type} (a0 : List (List D)) (a1 : List (List D)) (K0 : List (List C) → List Out → Option β) : Bool → Option β := fun z0 => K0 [[.d (.bool z0)]] []
noncomputable def laws_eqTermS.e (k : Nat) : ZQ := { modes := [(.imm, 0), (.imm, 0)], rts := [4], al := false, run := fun {β} l K => match l with | [.d (.sl a0), .d (.sl a1)] => laws_eqTermS.f k a0 a1 (laws_eqTermS.kt a0 a1 K) | _ => none }
noncomputable def laws_eqTermS.E (k : Nat) : Env := fun g => bif g == 261 then some (laws_eqTerm.e k) else none
noncomputable def laws_eqTermS.h : ZY := ⟨fun n => bif n == 4 then ⟨[(0, .asis), (1, .asis), (5, .asis)], []⟩ else ⟨[], []⟩, fun _ => none, false, []⟩
noncomputable def laws_eqTermS.s0 (v0_0 : List (List D)) (v0_1 : List (List D)) (v : Int) : St :=
  match v with
  | v0_2 => ⟨[.d false (.sl v0_0), .d false (.sl v0_1), .any, .any, .any, .d true (.int .i64 v0_2), .any, .any, .any, .any, .any, .any, .any, .any, .any, .any, .any, .any, .any, .any, .any, .any, .any, .any, .any, .any, .any], []⟩
noncomputable def laws_eqTermS.b0 {β : Type} (k : Nat) : St → (Ex → St → Option β) → Option β := fun s K => den Try.prog (laws_eqTermS.E k) laws_eqTermS.h.H laws_eqTermS.h.J k (Zad [1, 1, 0, 1, 0, 0] (Zl Try.f243)) s K
noncomputable def laws_eqTermS.c0 {β : Type} (k : Nat) (a0 : List (List D)) (a1 : List (List D)) (K0 : List (List C) → List Out → Option β) : Ex → St → Option β := Zae Try.prog (laws_eqTermS.E k) laws_eqTermS.h k [1, 1, 0, 1, 0] (Zl Try.f243) (Zak Try.prog Try.f243 laws_eqTermS.h (laws_eqTermS.as a0 a1) K0)
theorem laws_eqTermS.l0_eq {β : Type} (k : Nat) (a0 : List (List D)) (a1 : List (List D)) (K0 : List (List C) → List Out → Option β) (v0_0 : List (List D)) (v0_1 : List (List D)) : ∀ (kk : Nat) (v : Int), Zx (laws_eqTermS.b0 k) (laws_eqTermS.h.H 4) kk (laws_eqTermS.s0 v0_0 v0_1 v) (laws_eqTermS.c0 k a0 a1 K0) = Z4 (laws_eqTermS.l0 k v0_0 v0_1 (laws_eqTermS.kt a0 a1 K0)) kk v :=
  Z9 (laws_eqTermS.s0 v0_0 v0_1) _ (fun L0 v => by kernel_rfl)
noncomputable def laws_eqTermS.m {β : Type} (k : Nat) (a0 : List (List D)) (a1 : List (List D)) (K0 : List (List C) → List Out → Option β) (F : ((List (List D)) → (List (List D)) → Int → Option β)) : Option β :=
  bif (((a0.length : Int) : Int) != (a1.length : Int)) then ((laws_eqTermS.kt a0 a1 K0) false) else ((F) a0 a1 (0))
theorem laws_eqTermS.f_eq {β : Type} (k : Nat) (a0 : List (List D)) (a1 : List (List D)) (K0 : List (List C) → List Out → Option β) : ZJ Try.prog (laws_eqTermS.E k) laws_eqTermS.h k Try.f243 (laws_eqTermS.as a0 a1) K0 = laws_eqTermS.g k a0 a1 (laws_eqTermS.kt a0 a1 K0) := Eq.trans (b := (laws_eqTermS.m k a0 a1 K0) (fun (v0_0 : List (List D)) (v0_1 : List (List D)) (v : Int) => Zx (laws_eqTermS.b0 k) (laws_eqTermS.h.H 4) k (laws_eqTermS.s0 v0_0 v0_1 v) (laws_eqTermS.c0 k a0 a1 K0))) (by kernel_rfl) (Eq.trans (congrArg (laws_eqTermS.m k a0 a1 K0) (funext fun v0_0 => funext fun v0_1 => funext fun v => laws_eqTermS.l0_eq k a0 a1 K0 v0_0 v0_1 k v)) (by kernel_rfl))
noncomputable def laws_eqTermS.dec (rs : List (List C)) (os : List Out) : Option (Bool) := Zd rs fun c1 r2 => Zd c1 fun x3 l4 => cD x3 fun d5 => ZaF d5 fun w0 => Ze l4 <| Ze r2 <| Ze os (some w0)
theorem laws_eqTermS.kt_dec (a0 : List (List D)) (a1 : List (List D)) : laws_eqTermS.kt a0 a1 laws_eqTermS.dec = (fun z0 => some z0) := by kernel_rfl
theorem laws_eqTermS.inj (a0 : List (List D)) (a1 : List (List D)) {rs : List (List C)} {os : List Out} {z0 : Bool} (h : laws_eqTermS.dec rs os = some z0) (ho : Zo (laws_eqTermS.as a0 a1) os) : rs = [[.d (.bool z0)]] ∧ os = [] := by
  unfold laws_eqTermS.dec at h
  obtain ⟨c1, r2, rfl, h1⟩ := Zb h
  obtain ⟨x3, l4, rfl, h2⟩ := Zb h1
  obtain ⟨d5, rfl, h3⟩ := Zt h2
  obtain ⟨w0, rfl, h4⟩ := Z0 h3
  obtain ⟨rfl, h5⟩ := Zc h4
  obtain ⟨rfl, h6⟩ := Zc h5
  obtain ⟨rfl, h7⟩ := Zc h6
  obtain rfl := Option.some.inj h7
  exact ⟨rfl, rfl⟩
theorem laws_eqTermS.ok (k : Nat) : Zv Try.prog 243 (laws_eqTermS.e k) := by
  refine Zu mix tyok (fn := Try.f243) (c := Zl Try.f243) Try.func243 (by kernel_rfl) (h := laws_eqTermS.h) (k := k) (E := laws_eqTermS.E k) (Zk (laws_eqTerm.ok k) Zz) (by kernel_rfl) (by kernel_rfl) rfl (Zq Try.func243 (by kernel_rfl)) ?_
  intro β l K r hr
  simp only [laws_eqTermS.e] at hr
  split at hr
  case h_2 => cases hr
  unfold laws_eqTermS.f at hr
  split at hr
  case h_2 => cases hr
  rename_i hz
  exact ⟨_, _, hr, _, laws_eqTermS.dec, _, (laws_eqTermS.f_eq k _ _ laws_eqTermS.dec).trans (by rw [laws_eqTermS.kt_dec]; exact hz), fun rs os h ho => laws_eqTermS.inj _ _ h ho⟩
noncomputable def laws_eqWeigh.g {β : Type} (k : Nat) (a0_0 : ByteArray) (a0_1 : Int) (a1_0 : ByteArray) (a1_1 : Int) (K : Bool → Option β) : Option β :=
  bif (!(strEq a0_0 a1_0)) then (K false) else (bif ((a0_1 : Int) != a1_1) then (K false) else (K true))
noncomputable def laws_eqWeigh.t (k : Nat) (a0_0 : ByteArray) (a0_1 : Int) (a1_0 : ByteArray) (a1_1 : Int) : Option (Bool) := laws_eqWeigh.g k a0_0 a0_1 a1_0 a1_1 (fun z0 => some z0)
noncomputable def laws_eqWeigh.f {β : Type} (k : Nat) (a0_0 : ByteArray) (a0_1 : Int) (a1_0 : ByteArray) (a1_1 : Int) (K : Bool → Option β) : Option β :=
  match laws_eqWeigh.t k a0_0 a0_1 a1_0 a1_1 with
  | some z0 => K z0
  | none => none
noncomputable def laws_eqWeigh.as (a0_0 : ByteArray) (a0_1 : Int) (a1_0 : ByteArray) (a1_1 : Int) : List A := [.agg [.str a0_0, .int .i64 a0_1], .agg [.str a1_0, .int .i64 a1_1]]
noncomputable def laws_eqWeigh.kt {β : Type} (a0_0 : ByteArray) (a0_1 : Int) (a1_0 : ByteArray) (a1_1 : Int) (K0 : List (List C) → List Out → Option β) : Bool → Option β := fun z0 => K0 [[.d (.bool z0)]] []
noncomputable def laws_eqWeigh.e (k : Nat) : ZQ := { modes := [(.imm, 0), (.imm, 0)], rts := [4], al := false, run := fun {β} l K => match l with | [.agg [.str a0_0, .int .i64 a0_1], .agg [.str a1_0, .int .i64 a1_1]] => laws_eqWeigh.f k a0_0 a0_1 a1_0 a1_1 (laws_eqWeigh.kt a0_0 a0_1 a1_0 a1_1 K) | _ => none }
noncomputable def laws_eqWeigh.E (k : Nat) : Env := fun g => none
noncomputable def laws_eqWeigh.h : ZY := ⟨fun n => ⟨[], []⟩, fun _ => none, false, []⟩
theorem laws_eqWeigh.f_eq {β : Type} (k : Nat) (a0_0 : ByteArray) (a0_1 : Int) (a1_0 : ByteArray) (a1_1 : Int) (K0 : List (List C) → List Out → Option β) : ZJ Try.prog (laws_eqWeigh.E k) laws_eqWeigh.h k Try.f262 (laws_eqWeigh.as a0_0 a0_1 a1_0 a1_1) K0 = laws_eqWeigh.g k a0_0 a0_1 a1_0 a1_1 (laws_eqWeigh.kt a0_0 a0_1 a1_0 a1_1 K0) := by kernel_rfl
noncomputable def laws_eqWeigh.dec (rs : List (List C)) (os : List Out) : Option (Bool) := Zd rs fun c1 r2 => Zd c1 fun x3 l4 => cD x3 fun d5 => ZaF d5 fun w0 => Ze l4 <| Ze r2 <| Ze os (some w0)
theorem laws_eqWeigh.kt_dec (a0_0 : ByteArray) (a0_1 : Int) (a1_0 : ByteArray) (a1_1 : Int) : laws_eqWeigh.kt a0_0 a0_1 a1_0 a1_1 laws_eqWeigh.dec = (fun z0 => some z0) := by kernel_rfl
theorem laws_eqWeigh.inj (a0_0 : ByteArray) (a0_1 : Int) (a1_0 : ByteArray) (a1_1 : Int) {rs : List (List C)} {os : List Out} {z0 : Bool} (h : laws_eqWeigh.dec rs os = some z0) (ho : Zo (laws_eqWeigh.as a0_0 a0_1 a1_0 a1_1) os) : rs = [[.d (.bool z0)]] ∧ os = [] := by
  unfold laws_eqWeigh.dec at h
  obtain ⟨c1, r2, rfl, h1⟩ := Zb h
  obtain ⟨x3, l4, rfl, h2⟩ := Zb h1
  obtain ⟨d5, rfl, h3⟩ := Zt h2
  obtain ⟨w0, rfl, h4⟩ := Z0 h3
  obtain ⟨rfl, h5⟩ := Zc h4
  obtain ⟨rfl, h6⟩ := Zc h5
  obtain ⟨rfl, h7⟩ := Zc h6
  obtain rfl := Option.some.inj h7
  exact ⟨rfl, rfl⟩
theorem laws_eqWeigh.ok (k : Nat) : Zv Try.prog 262 (laws_eqWeigh.e k) := by
  refine Zu mix tyok (fn := Try.f262) (c := Zl Try.f262) Try.func262 (by kernel_rfl) (h := laws_eqWeigh.h) (k := k) (E := laws_eqWeigh.E k) Zz (by kernel_rfl) (by kernel_rfl) rfl (Zq Try.func262 (by kernel_rfl)) ?_
  intro β l K r hr
  simp only [laws_eqWeigh.e] at hr
  split at hr
  case h_2 => cases hr
  unfold laws_eqWeigh.f at hr
  split at hr
  case h_2 => cases hr
  rename_i hz
  exact ⟨_, _, hr, _, laws_eqWeigh.dec, _, (laws_eqWeigh.f_eq k _ _ _ _ laws_eqWeigh.dec).trans (by rw [laws_eqWeigh.kt_dec]; exact hz), fun rs os h ho => laws_eqWeigh.inj _ _ _ _ h ho⟩
noncomputable def laws_eqWeighS.l0 {β : Type} (k : Nat) (v0_0 : List (List D)) (v0_1 : List (List D)) (K : Bool → Option β) (L0 : Int → Option β) (v : Int) : Option β :=
  match v with
  | v0_2 => bif (decide ((v0_2 : Int) < (v0_0.length : Int))) then (ZX v0_0 v0_2 fun c16 => Zd c16 fun d17 r18 => Zan d17 fun x19 => Zd r18 fun d20 r21 => ZM .i64 d20 fun x22 => Ze r21 (ZX v0_1 v0_2 fun c23 => Zd c23 fun d24 r25 => Zan d24 fun x26 => Zd r25 fun d27 r28 => ZM .i64 d27 fun x29 => Ze r28 (laws_eqWeigh.f k x19 x22 x26 x29 (fun y30 => bif (!y30) then (K false) else (L0 (IntKind.wrap .i64 (v0_2 + 1))))))) else (K true)
noncomputable def laws_eqWeighS.g {β : Type} (k : Nat) (a0 : List (List D)) (a1 : List (List D)) (K : Bool → Option β) : Option β :=
  bif (((a0.length : Int) : Int) != (a1.length : Int)) then (K false) else (Z4 (laws_eqWeighS.l0 k a0 a1 K) k (0))
noncomputable def laws_eqWeighS.t (k : Nat) (a0 : List (List D)) (a1 : List (List D)) : Option (Bool) := laws_eqWeighS.g k a0 a1 (fun z0 => some z0)
noncomputable def laws_eqWeighS.f {β : Type} (k : Nat) (a0 : List (List D)) (a1 : List (List D)) (K : Bool → Option β) : Option β :=
  match laws_eqWeighS.t k a0 a1 with
  | some z0 => K z0
  | none => none
noncomputable def laws_eqWeighS.as (a0 : List (List D)) (a1 : List (List D)) : List A := [.d (.sl a0), .d (.sl a1)]
noncomputable def laws_eqWeighS.kt {β : Type} (a0 : List (List D)) (a1 : List (List D)) (K0 : List (List C) → List Out → Option β) : Bool → Option β := fun z0 => K0 [[.d (.bool z0)]] []
noncomputable def laws_eqWeighS.e (k : Nat) : ZQ := { modes := [(.imm, 0), (.imm, 0)], rts := [4], al := false, run := fun {β} l K => match l with | [.d (.sl a0), .d (.sl a1)] => laws_eqWeighS.f k a0 a1 (laws_eqWeighS.kt a0 a1 K) | _ => none }
noncomputable def laws_eqWeighS.E (k : Nat) : Env := fun g => bif g == 262 then some (laws_eqWeigh.e k) else none
noncomputable def laws_eqWeighS.h : ZY := ⟨fun n => bif n == 4 then ⟨[(0, .asis), (1, .asis), (5, .asis)], []⟩ else ⟨[], []⟩, fun _ => none, false, []⟩
noncomputable def laws_eqWeighS.s0 (v0_0 : List (List D)) (v0_1 : List (List D)) (v : Int) : St :=
  match v with
  | v0_2 => ⟨[.d false (.sl v0_0), .d false (.sl v0_1), .any, .any, .any, .d true (.int .i64 v0_2), .any, .any, .any, .any, .any, .any, .any, .any, .any, .any, .any, .any, .any, .any, .any, .any, .any, .any, .any, .any, .any], []⟩
noncomputable def laws_eqWeighS.b0 {β : Type} (k : Nat) : St → (Ex → St → Option β) → Option β := fun s K => den Try.prog (laws_eqWeighS.E k) laws_eqWeighS.h.H laws_eqWeighS.h.J k (Zad [1, 1, 0, 1, 0, 0] (Zl Try.f244)) s K
noncomputable def laws_eqWeighS.c0 {β : Type} (k : Nat) (a0 : List (List D)) (a1 : List (List D)) (K0 : List (List C) → List Out → Option β) : Ex → St → Option β := Zae Try.prog (laws_eqWeighS.E k) laws_eqWeighS.h k [1, 1, 0, 1, 0] (Zl Try.f244) (Zak Try.prog Try.f244 laws_eqWeighS.h (laws_eqWeighS.as a0 a1) K0)
theorem laws_eqWeighS.l0_eq {β : Type} (k : Nat) (a0 : List (List D)) (a1 : List (List D)) (K0 : List (List C) → List Out → Option β) (v0_0 : List (List D)) (v0_1 : List (List D)) : ∀ (kk : Nat) (v : Int), Zx (laws_eqWeighS.b0 k) (laws_eqWeighS.h.H 4) kk (laws_eqWeighS.s0 v0_0 v0_1 v) (laws_eqWeighS.c0 k a0 a1 K0) = Z4 (laws_eqWeighS.l0 k v0_0 v0_1 (laws_eqWeighS.kt a0 a1 K0)) kk v :=
  Z9 (laws_eqWeighS.s0 v0_0 v0_1) _ (fun L0 v => by kernel_rfl)
noncomputable def laws_eqWeighS.m {β : Type} (k : Nat) (a0 : List (List D)) (a1 : List (List D)) (K0 : List (List C) → List Out → Option β) (F : ((List (List D)) → (List (List D)) → Int → Option β)) : Option β :=
  bif (((a0.length : Int) : Int) != (a1.length : Int)) then ((laws_eqWeighS.kt a0 a1 K0) false) else ((F) a0 a1 (0))
theorem laws_eqWeighS.f_eq {β : Type} (k : Nat) (a0 : List (List D)) (a1 : List (List D)) (K0 : List (List C) → List Out → Option β) : ZJ Try.prog (laws_eqWeighS.E k) laws_eqWeighS.h k Try.f244 (laws_eqWeighS.as a0 a1) K0 = laws_eqWeighS.g k a0 a1 (laws_eqWeighS.kt a0 a1 K0) := Eq.trans (b := (laws_eqWeighS.m k a0 a1 K0) (fun (v0_0 : List (List D)) (v0_1 : List (List D)) (v : Int) => Zx (laws_eqWeighS.b0 k) (laws_eqWeighS.h.H 4) k (laws_eqWeighS.s0 v0_0 v0_1 v) (laws_eqWeighS.c0 k a0 a1 K0))) (by kernel_rfl) (Eq.trans (congrArg (laws_eqWeighS.m k a0 a1 K0) (funext fun v0_0 => funext fun v0_1 => funext fun v => laws_eqWeighS.l0_eq k a0 a1 K0 v0_0 v0_1 k v)) (by kernel_rfl))
noncomputable def laws_eqWeighS.dec (rs : List (List C)) (os : List Out) : Option (Bool) := Zd rs fun c1 r2 => Zd c1 fun x3 l4 => cD x3 fun d5 => ZaF d5 fun w0 => Ze l4 <| Ze r2 <| Ze os (some w0)
theorem laws_eqWeighS.kt_dec (a0 : List (List D)) (a1 : List (List D)) : laws_eqWeighS.kt a0 a1 laws_eqWeighS.dec = (fun z0 => some z0) := by kernel_rfl
theorem laws_eqWeighS.inj (a0 : List (List D)) (a1 : List (List D)) {rs : List (List C)} {os : List Out} {z0 : Bool} (h : laws_eqWeighS.dec rs os = some z0) (ho : Zo (laws_eqWeighS.as a0 a1) os) : rs = [[.d (.bool z0)]] ∧ os = [] := by
  unfold laws_eqWeighS.dec at h
  obtain ⟨c1, r2, rfl, h1⟩ := Zb h
  obtain ⟨x3, l4, rfl, h2⟩ := Zb h1
  obtain ⟨d5, rfl, h3⟩ := Zt h2
  obtain ⟨w0, rfl, h4⟩ := Z0 h3
  obtain ⟨rfl, h5⟩ := Zc h4
  obtain ⟨rfl, h6⟩ := Zc h5
  obtain ⟨rfl, h7⟩ := Zc h6
  obtain rfl := Option.some.inj h7
  exact ⟨rfl, rfl⟩
theorem laws_eqWeighS.ok (k : Nat) : Zv Try.prog 244 (laws_eqWeighS.e k) := by
  refine Zu mix tyok (fn := Try.f244) (c := Zl Try.f244) Try.func244 (by kernel_rfl) (h := laws_eqWeighS.h) (k := k) (E := laws_eqWeighS.E k) (Zk (laws_eqWeigh.ok k) Zz) (by kernel_rfl) (by kernel_rfl) rfl (Zq Try.func244 (by kernel_rfl)) ?_
  intro β l K r hr
  simp only [laws_eqWeighS.e] at hr
  split at hr
  case h_2 => cases hr
  unfold laws_eqWeighS.f at hr
  split at hr
  case h_2 => cases hr
  rename_i hz
  exact ⟨_, _, hr, _, laws_eqWeighS.dec, _, (laws_eqWeighS.f_eq k _ _ laws_eqWeighS.dec).trans (by rw [laws_eqWeighS.kt_dec]; exact hz), fun rs os h ho => laws_eqWeighS.inj _ _ h ho⟩
noncomputable def laws_eqWant.g {β : Type} (k : Nat) (a0_0 : Int) (a0_1 : List (List D)) (a0_2 : List (List D)) (a0_3 : List (List D)) (a1_0 : Int) (a1_1 : List (List D)) (a1_2 : List (List D)) (a1_3 : List (List D)) (K : Bool → Option β) : Option β :=
  bif ((a0_0 : Int) != a1_0) then (K false) else (laws_eqTermS.f k a0_1 a1_1 (fun y43 => bif (!y43) then (K false) else (laws_eqStringS.f k a0_2 a1_2 (fun y44 => bif (!y44) then (K false) else (laws_eqWeighS.f k a0_3 a1_3 (fun y45 => bif (!y45) then (K false) else (K true)))))))
noncomputable def laws_eqWant.t (k : Nat) (a0_0 : Int) (a0_1 : List (List D)) (a0_2 : List (List D)) (a0_3 : List (List D)) (a1_0 : Int) (a1_1 : List (List D)) (a1_2 : List (List D)) (a1_3 : List (List D)) : Option (Bool) := laws_eqWant.g k a0_0 a0_1 a0_2 a0_3 a1_0 a1_1 a1_2 a1_3 (fun z0 => some z0)
noncomputable def laws_eqWant.f {β : Type} (k : Nat) (a0_0 : Int) (a0_1 : List (List D)) (a0_2 : List (List D)) (a0_3 : List (List D)) (a1_0 : Int) (a1_1 : List (List D)) (a1_2 : List (List D)) (a1_3 : List (List D)) (K : Bool → Option β) : Option β :=
  match laws_eqWant.t k a0_0 a0_1 a0_2 a0_3 a1_0 a1_1 a1_2 a1_3 with
  | some z0 => K z0
  | none => none
noncomputable def laws_eqWant.as (a0_0 : Int) (a0_1 : List (List D)) (a0_2 : List (List D)) (a0_3 : List (List D)) (a1_0 : Int) (a1_1 : List (List D)) (a1_2 : List (List D)) (a1_3 : List (List D)) : List A := [.agg [.int .i64 a0_0, .sl a0_1, .sl a0_2, .sl a0_3], .agg [.int .i64 a1_0, .sl a1_1, .sl a1_2, .sl a1_3]]
noncomputable def laws_eqWant.kt {β : Type} (a0_0 : Int) (a0_1 : List (List D)) (a0_2 : List (List D)) (a0_3 : List (List D)) (a1_0 : Int) (a1_1 : List (List D)) (a1_2 : List (List D)) (a1_3 : List (List D)) (K0 : List (List C) → List Out → Option β) : Bool → Option β := fun z0 => K0 [[.d (.bool z0)]] []
noncomputable def laws_eqWant.e (k : Nat) : ZQ := { modes := [(.imm, 0), (.imm, 0)], rts := [4], al := false, run := fun {β} l K => match l with | [.agg [.int .i64 a0_0, .sl a0_1, .sl a0_2, .sl a0_3], .agg [.int .i64 a1_0, .sl a1_1, .sl a1_2, .sl a1_3]] => laws_eqWant.f k a0_0 a0_1 a0_2 a0_3 a1_0 a1_1 a1_2 a1_3 (laws_eqWant.kt a0_0 a0_1 a0_2 a0_3 a1_0 a1_1 a1_2 a1_3 K) | _ => none }
noncomputable def laws_eqWant.E (k : Nat) : Env := fun g => bif g == 243 then some (laws_eqTermS.e k) else bif g == 82 then some (laws_eqStringS.e k) else bif g == 244 then some (laws_eqWeighS.e k) else none
noncomputable def laws_eqWant.h : ZY := ⟨fun n => ⟨[], []⟩, fun _ => none, false, []⟩
theorem laws_eqWant.f_eq {β : Type} (k : Nat) (a0_0 : Int) (a0_1 : List (List D)) (a0_2 : List (List D)) (a0_3 : List (List D)) (a1_0 : Int) (a1_1 : List (List D)) (a1_2 : List (List D)) (a1_3 : List (List D)) (K0 : List (List C) → List Out → Option β) : ZJ Try.prog (laws_eqWant.E k) laws_eqWant.h k Try.f218 (laws_eqWant.as a0_0 a0_1 a0_2 a0_3 a1_0 a1_1 a1_2 a1_3) K0 = laws_eqWant.g k a0_0 a0_1 a0_2 a0_3 a1_0 a1_1 a1_2 a1_3 (laws_eqWant.kt a0_0 a0_1 a0_2 a0_3 a1_0 a1_1 a1_2 a1_3 K0) := by kernel_rfl
noncomputable def laws_eqWant.dec (rs : List (List C)) (os : List Out) : Option (Bool) := Zd rs fun c1 r2 => Zd c1 fun x3 l4 => cD x3 fun d5 => ZaF d5 fun w0 => Ze l4 <| Ze r2 <| Ze os (some w0)
theorem laws_eqWant.kt_dec (a0_0 : Int) (a0_1 : List (List D)) (a0_2 : List (List D)) (a0_3 : List (List D)) (a1_0 : Int) (a1_1 : List (List D)) (a1_2 : List (List D)) (a1_3 : List (List D)) : laws_eqWant.kt a0_0 a0_1 a0_2 a0_3 a1_0 a1_1 a1_2 a1_3 laws_eqWant.dec = (fun z0 => some z0) := by kernel_rfl
theorem laws_eqWant.inj (a0_0 : Int) (a0_1 : List (List D)) (a0_2 : List (List D)) (a0_3 : List (List D)) (a1_0 : Int) (a1_1 : List (List D)) (a1_2 : List (List D)) (a1_3 : List (List D)) {rs : List (List C)} {os : List Out} {z0 : Bool} (h : laws_eqWant.dec rs os = some z0) (ho : Zo (laws_eqWant.as a0_0 a0_1 a0_2 a0_3 a1_0 a1_1 a1_2 a1_3) os) : rs = [[.d (.bool z0)]] ∧ os = [] := by
  unfold laws_eqWant.dec at h
  obtain ⟨c1, r2, rfl, h1⟩ := Zb h
  obtain ⟨x3, l4, rfl, h2⟩ := Zb h1
  obtain ⟨d5, rfl, h3⟩ := Zt h2
  obtain ⟨w0, rfl, h4⟩ := Z0 h3
  obtain ⟨rfl, h5⟩ := Zc h4
  obtain ⟨rfl, h6⟩ := Zc h5
  obtain ⟨rfl, h7⟩ := Zc h6
  obtain rfl := Option.some.inj h7
  exact ⟨rfl, rfl⟩
theorem laws_eqWant.ok (k : Nat) : Zv Try.prog 218 (laws_eqWant.e k) := by
  refine Zu mix tyok (fn := Try.f218) (c := Zl Try.f218) Try.func218 (by kernel_rfl) (h := laws_eqWant.h) (k := k) (E := laws_eqWant.E k) (Zk (laws_eqTermS.ok k) (Zk (laws_eqStringS.ok k) (Zk (laws_eqWeighS.ok k) Zz))) (by kernel_rfl) (by kernel_rfl) rfl (Zq Try.func218 (by kernel_rfl)) ?_
  intro β l K r hr
  simp only [laws_eqWant.e] at hr
  split at hr
  case h_2 => cases hr
  unfold laws_eqWant.f at hr
  split at hr
  case h_2 => cases hr
  rename_i hz
  exact ⟨_, _, hr, _, laws_eqWant.dec, _, (laws_eqWant.f_eq k _ _ _ _ _ _ _ _ laws_eqWant.dec).trans (by rw [laws_eqWant.kt_dec]; exact hz), fun rs os h ho => laws_eqWant.inj _ _ _ _ _ _ _ _ h ho⟩
noncomputable def laws_eqValueS.l0 {β : Type} (k : Nat) (r_laws_eqValueS : (List (List D)) → (List (List D)) → (Bool → Option β) → Option β) (r_laws_eqValue : Int → ByteArray → Int → (List (List D)) → (List (List D)) → Int → ByteArray → Int → (List (List D)) → (List (List D)) → (Bool → Option β) → Option β) (v0_0 : List (List D)) (v0_1 : List (List D)) (K : Bool → Option β) (L0 : Int → Option β) (v : Int) : Option β :=
  match v with
  | v0_2 => bif (decide ((v0_2 : Int) < (v0_0.length : Int))) then (ZX v0_0 v0_2 fun c34 => Zd c34 fun d35 r36 => ZM .i64 d35 fun x37 => Zd r36 fun d38 r39 => Zan d38 fun x40 => Zd r39 fun d41 r42 => ZM .i64 d41 fun x43 => Zd r42 fun d44 r45 => dSl d44 fun x46 => Zd r45 fun d47 r48 => dSl d47 fun x49 => Ze r48 (ZX v0_1 v0_2 fun c50 => Zd c50 fun d51 r52 => ZM .i64 d51 fun x53 => Zd r52 fun d54 r55 => Zan d54 fun x56 => Zd r55 fun d57 r58 => ZM .i64 d57 fun x59 => Zd r58 fun d60 r61 => dSl d60 fun x62 => Zd r61 fun d63 r64 => dSl d63 fun x65 => Ze r64 (r_laws_eqValue x37 x40 x43 x46 x49 x53 x56 x59 x62 x65 (fun y66 => bif (!y66) then (K false) else (L0 (IntKind.wrap .i64 (v0_2 + 1))))))) else (K true)
noncomputable def laws_eqValueS.body {β : Type} (k : Nat) (r_laws_eqValueS : (List (List D)) → (List (List D)) → (Bool → Option β) → Option β) (r_laws_eqValue : Int → ByteArray → Int → (List (List D)) → (List (List D)) → Int → ByteArray → Int → (List (List D)) → (List (List D)) → (Bool → Option β) → Option β) (a0 : List (List D)) (a1 : List (List D)) (K : Bool → Option β) : Option β :=
  bif (((a0.length : Int) : Int) != (a1.length : Int)) then (K false) else (Z4 (laws_eqValueS.l0 k r_laws_eqValueS r_laws_eqValue a0 a1 K) k (0))
noncomputable def laws_eqValue.body {β : Type} (k : Nat) (r_laws_eqValueS : (List (List D)) → (List (List D)) → (Bool → Option β) → Option β) (r_laws_eqValue : Int → ByteArray → Int → (List (List D)) → (List (List D)) → Int → ByteArray → Int → (List (List D)) → (List (List D)) → (Bool → Option β) → Option β) (a0_0 : Int) (a0_1 : ByteArray) (a0_2 : Int) (a0_3 : List (List D)) (a0_4 : List (List D)) (a1_0 : Int) (a1_1 : ByteArray) (a1_2 : Int) (a1_3 : List (List D)) (a1_4 : List (List D)) (K : Bool → Option β) : Option β :=
  bif ((a0_0 : Int) != a1_0) then (K false) else (bif (!(strEq a0_1 a1_1)) then (K false) else (bif ((a0_2 : Int) != a1_2) then (K false) else (laws_eqStringS.f k a0_3 a1_3 (fun y1 => bif (!y1) then (K false) else (r_laws_eqValueS a0_4 a1_4 (fun y67 => bif (!y67) then (K false) else (K true)))))))
noncomputable def laws_eqValueS.w {β : Type} (r : (List (List D)) → (List (List D)) → Option (Bool)) (a0 : List (List D)) (a1 : List (List D)) (K : Bool → Option β) : Option β :=
  match r a0 a1 with
  | some z0 => K z0
  | none => none
noncomputable def laws_eqValue.w {β : Type} (r : Int → ByteArray → Int → (List (List D)) → (List (List D)) → Int → ByteArray → Int → (List (List D)) → (List (List D)) → Option (Bool)) (a0_0 : Int) (a0_1 : ByteArray) (a0_2 : Int) (a0_3 : List (List D)) (a0_4 : List (List D)) (a1_0 : Int) (a1_1 : ByteArray) (a1_2 : Int) (a1_3 : List (List D)) (a1_4 : List (List D)) (K : Bool → Option β) : Option β :=
  match r a0_0 a0_1 a0_2 a0_3 a0_4 a1_0 a1_1 a1_2 a1_3 a1_4 with
  | some z0 => K z0
  | none => none
noncomputable def laws_eqValueS.all : Nat → ((List (List D)) → (List (List D)) → Option (Bool)) × (Int → ByteArray → Int → (List (List D)) → (List (List D)) → Int → ByteArray → Int → (List (List D)) → (List (List D)) → Option (Bool))
  | 0 => (fun _ _ => none, fun _ _ _ _ _ _ _ _ _ _ => none)
  | k + 1 => (fun r => (fun a0 a1 => laws_eqValueS.body k (laws_eqValueS.w r.1) (laws_eqValue.w r.2) a0 a1 (fun z0 => some z0), fun a0_0 a0_1 a0_2 a0_3 a0_4 a1_0 a1_1 a1_2 a1_3 a1_4 => laws_eqValue.body k (laws_eqValueS.w r.1) (laws_eqValue.w r.2) a0_0 a0_1 a0_2 a0_3 a0_4 a1_0 a1_1 a1_2 a1_3 a1_4 (fun z0 => some z0))) (laws_eqValueS.all k)
noncomputable def laws_eqValueS.t (k : Nat) (a0 : List (List D)) (a1 : List (List D)) : Option (Bool) := (laws_eqValueS.all k).1 a0 a1
noncomputable def laws_eqValue.t (k : Nat) (a0_0 : Int) (a0_1 : ByteArray) (a0_2 : Int) (a0_3 : List (List D)) (a0_4 : List (List D)) (a1_0 : Int) (a1_1 : ByteArray) (a1_2 : Int) (a1_3 : List (List D)) (a1_4 : List (List D)) : Option (Bool) := (laws_eqValueS.all k).2 a0_0 a0_1 a0_2 a0_3 a0_4 a1_0 a1_1 a1_2 a1_3 a1_4
noncomputable def laws_eqValueS.f {β : Type} (k : Nat) (a0 : List (List D)) (a1 : List (List D)) (K : Bool → Option β) : Option β := laws_eqValueS.w (laws_eqValueS.t k) a0 a1 K
noncomputable def laws_eqValue.f {β : Type} (k : Nat) (a0_0 : Int) (a0_1 : ByteArray) (a0_2 : Int) (a0_3 : List (List D)) (a0_4 : List (List D)) (a1_0 : Int) (a1_1 : ByteArray) (a1_2 : Int) (a1_3 : List (List D)) (a1_4 : List (List D)) (K : Bool → Option β) : Option β := laws_eqValue.w (laws_eqValue.t k) a0_0 a0_1 a0_2 a0_3 a0_4 a1_0 a1_1 a1_2 a1_3 a1_4 K
noncomputable def laws_eqValueS.g {β : Type} (k : Nat) (a0 : List (List D)) (a1 : List (List D)) (K : Bool → Option β) : Option β := laws_eqValueS.body k (laws_eqValueS.f k) (laws_eqValue.f k) a0 a1 K
theorem laws_eqValueS.t_zero (a0 : List (List D)) (a1 : List (List D)) : laws_eqValueS.t 0 a0 a1 = none := rfl
theorem laws_eqValueS.t_succ (k : Nat) (a0 : List (List D)) (a1 : List (List D)) : laws_eqValueS.t (k + 1) a0 a1 = laws_eqValueS.g k a0 a1 (fun z0 => some z0) := rfl
noncomputable def laws_eqValue.g {β : Type} (k : Nat) (a0_0 : Int) (a0_1 : ByteArray) (a0_2 : Int) (a0_3 : List (List D)) (a0_4 : List (List D)) (a1_0 : Int) (a1_1 : ByteArray) (a1_2 : Int) (a1_3 : List (List D)) (a1_4 : List (List D)) (K : Bool → Option β) : Option β := laws_eqValue.body k (laws_eqValueS.f k) (laws_eqValue.f k) a0_0 a0_1 a0_2 a0_3 a0_4 a1_0 a1_1 a1_2 a1_3 a1_4 K
theorem laws_eqValue.t_zero (a0_0 : Int) (a0_1 : ByteArray) (a0_2 : Int) (a0_3 : List (List D)) (a0_4 : List (List D)) (a1_0 : Int) (a1_1 : ByteArray) (a1_2 : Int) (a1_3 : List (List D)) (a1_4 : List (List D)) : laws_eqValue.t 0 a0_0 a0_1 a0_2 a0_3 a0_4 a1_0 a1_1 a1_2 a1_3 a1_4 = none := rfl
theorem laws_eqValue.t_succ (k : Nat) (a0_0 : Int) (a0_1 : ByteArray) (a0_2 : Int) (a0_3 : List (List D)) (a0_4 : List (List D)) (a1_0 : Int) (a1_1 : ByteArray) (a1_2 : Int) (a1_3 : List (List D)) (a1_4 : List (List D)) : laws_eqValue.t (k + 1) a0_0 a0_1 a0_2 a0_3 a0_4 a1_0 a1_1 a1_2 a1_3 a1_4 = laws_eqValue.g k a0_0 a0_1 a0_2 a0_3 a0_4 a1_0 a1_1 a1_2 a1_3 a1_4 (fun z0 => some z0) := rfl
noncomputable def laws_eqValueS.as (a0 : List (List D)) (a1 : List (List D)) : List A := [.d (.sl a0), .d (.sl a1)]
noncomputable def laws_eqValueS.kt {β : Type} (a0 : List (List D)) (a1 : List (List D)) (K0 : List (List C) → List Out → Option β) : Bool → Option β := fun z0 => K0 [[.d (.bool z0)]] []
noncomputable def laws_eqValueS.e (k : Nat) : ZQ := { modes := [(.imm, 0), (.imm, 0)], rts := [4], al := false, run := fun {β} l K => match l with | [.d (.sl a0), .d (.sl a1)] => laws_eqValueS.f k a0 a1 (laws_eqValueS.kt a0 a1 K) | _ => none }
noncomputable def laws_eqValue.as (a0_0 : Int) (a0_1 : ByteArray) (a0_2 : Int) (a0_3 : List (List D)) (a0_4 : List (List D)) (a1_0 : Int) (a1_1 : ByteArray) (a1_2 : Int) (a1_3 : List (List D)) (a1_4 : List (List D)) : List A := [.agg [.int .i64 a0_0, .str a0_1, .int .i64 a0_2, .sl a0_3, .sl a0_4], .agg [.int .i64 a1_0, .str a1_1, .int .i64 a1_2, .sl a1_3, .sl a1_4]]
noncomputable def laws_eqValue.kt {β : Type} (a0_0 : Int) (a0_1 : ByteArray) (a0_2 : Int) (a0_3 : List (List D)) (a0_4 : List (List D)) (a1_0 : Int) (a1_1 : ByteArray) (a1_2 : Int) (a1_3 : List (List D)) (a1_4 : List (List D)) (K0 : List (List C) → List Out → Option β) : Bool → Option β := fun z0 => K0 [[.d (.bool z0)]] []
noncomputable def laws_eqValue.e (k : Nat) : ZQ := { modes := [(.imm, 0), (.imm, 0)], rts := [4], al := false, run := fun {β} l K => match l with | [.agg [.int .i64 a0_0, .str a0_1, .int .i64 a0_2, .sl a0_3, .sl a0_4], .agg [.int .i64 a1_0, .str a1_1, .int .i64 a1_2, .sl a1_3, .sl a1_4]] => laws_eqValue.f k a0_0 a0_1 a0_2 a0_3 a0_4 a1_0 a1_1 a1_2 a1_3 a1_4 (laws_eqValue.kt a0_0 a0_1 a0_2 a0_3 a0_4 a1_0 a1_1 a1_2 a1_3 a1_4 K) | _ => none }
noncomputable def laws_eqValueS.E (k : Nat) : Env := fun g => bif g == 190 then some (laws_eqValue.e k) else none
noncomputable def laws_eqValueS.h : ZY := ⟨fun n => bif n == 4 then ⟨[(0, .asis), (1, .asis), (5, .asis)], []⟩ else ⟨[], []⟩, fun _ => none, false, []⟩
noncomputable def laws_eqValueS.s0 (v0_0 : List (List D)) (v0_1 : List (List D)) (v : Int) : St :=
  match v with
  | v0_2 => ⟨[.d false (.sl v0_0), .d false (.sl v0_1), .any, .any, .any, .d true (.int .i64 v0_2), .any, .any, .any, .any, .any, .any, .any, .any, .any, .any, .any, .any, .any, .any, .any, .any, .any, .any, .any, .any, .any], []⟩
noncomputable def laws_eqValueS.b0 {β : Type} (k : Nat) : St → (Ex → St → Option β) → Option β := fun s K => den Try.prog (laws_eqValueS.E k) laws_eqValueS.h.H laws_eqValueS.h.J k (Zad [1, 1, 0, 1, 0, 0] (Zl Try.f226)) s K
noncomputable def laws_eqValueS.c0 {β : Type} (k : Nat) (a0 : List (List D)) (a1 : List (List D)) (K0 : List (List C) → List Out → Option β) : Ex → St → Option β := Zae Try.prog (laws_eqValueS.E k) laws_eqValueS.h k [1, 1, 0, 1, 0] (Zl Try.f226) (Zak Try.prog Try.f226 laws_eqValueS.h (laws_eqValueS.as a0 a1) K0)
theorem laws_eqValueS.l0_eq {β : Type} (k : Nat) (a0 : List (List D)) (a1 : List (List D)) (K0 : List (List C) → List Out → Option β) (v0_0 : List (List D)) (v0_1 : List (List D)) : ∀ (kk : Nat) (v : Int), Zx (laws_eqValueS.b0 k) (laws_eqValueS.h.H 4) kk (laws_eqValueS.s0 v0_0 v0_1 v) (laws_eqValueS.c0 k a0 a1 K0) = Z4 (laws_eqValueS.l0 k (laws_eqValueS.f k) (laws_eqValue.f k) v0_0 v0_1 (laws_eqValueS.kt a0 a1 K0)) kk v :=
  Z9 (laws_eqValueS.s0 v0_0 v0_1) _ (fun L0 v => by kernel_rfl)
noncomputable def laws_eqValueS.m {β : Type} (k : Nat) (a0 : List (List D)) (a1 : List (List D)) (K0 : List (List C) → List Out → Option β) (F : ((List (List D)) → (List (List D)) → Int → Option β)) : Option β :=
  bif (((a0.length : Int) : Int) != (a1.length : Int)) then ((laws_eqValueS.kt a0 a1 K0) false) else ((F) a0 a1 (0))
theorem laws_eqValueS.f_eq {β : Type} (k : Nat) (a0 : List (List D)) (a1 : List (List D)) (K0 : List (List C) → List Out → Option β) : ZJ Try.prog (laws_eqValueS.E k) laws_eqValueS.h k Try.f226 (laws_eqValueS.as a0 a1) K0 = laws_eqValueS.g k a0 a1 (laws_eqValueS.kt a0 a1 K0) := Eq.trans (b := (laws_eqValueS.m k a0 a1 K0) (fun (v0_0 : List (List D)) (v0_1 : List (List D)) (v : Int) => Zx (laws_eqValueS.b0 k) (laws_eqValueS.h.H 4) k (laws_eqValueS.s0 v0_0 v0_1 v) (laws_eqValueS.c0 k a0 a1 K0))) (by kernel_rfl) (Eq.trans (congrArg (laws_eqValueS.m k a0 a1 K0) (funext fun v0_0 => funext fun v0_1 => funext fun v => laws_eqValueS.l0_eq k a0 a1 K0 v0_0 v0_1 k v)) (by kernel_rfl))
noncomputable def laws_eqValue.E (k : Nat) : Env := fun g => bif g == 82 then some (laws_eqStringS.e k) else bif g == 226 then some (laws_eqValueS.e k) else none
noncomputable def laws_eqValue.h : ZY := ⟨fun n => ⟨[], []⟩, fun _ => none, false, []⟩
theorem laws_eqValue.f_eq {β : Type} (k : Nat) (a0_0 : Int) (a0_1 : ByteArray) (a0_2 : Int) (a0_3 : List (List D)) (a0_4 : List (List D)) (a1_0 : Int) (a1_1 : ByteArray) (a1_2 : Int) (a1_3 : List (List D)) (a1_4 : List (List D)) (K0 : List (List C) → List Out → Option β) : ZJ Try.prog (laws_eqValue.E k) laws_eqValue.h k Try.f190 (laws_eqValue.as a0_0 a0_1 a0_2 a0_3 a0_4 a1_0 a1_1 a1_2 a1_3 a1_4) K0 = laws_eqValue.g k a0_0 a0_1 a0_2 a0_3 a0_4 a1_0 a1_1 a1_2 a1_3 a1_4 (laws_eqValue.kt a0_0 a0_1 a0_2 a0_3 a0_4 a1_0 a1_1 a1_2 a1_3 a1_4 K0) := by kernel_rfl
noncomputable def laws_eqValueS.dec (rs : List (List C)) (os : List Out) : Option (Bool) := Zd rs fun c1 r2 => Zd c1 fun x3 l4 => cD x3 fun d5 => ZaF d5 fun w0 => Ze l4 <| Ze r2 <| Ze os (some w0)
theorem laws_eqValueS.kt_dec (a0 : List (List D)) (a1 : List (List D)) : laws_eqValueS.kt a0 a1 laws_eqValueS.dec = (fun z0 => some z0) := by kernel_rfl
theorem laws_eqValueS.inj (a0 : List (List D)) (a1 : List (List D)) {rs : List (List C)} {os : List Out} {z0 : Bool} (h : laws_eqValueS.dec rs os = some z0) (ho : Zo (laws_eqValueS.as a0 a1) os) : rs = [[.d (.bool z0)]] ∧ os = [] := by
  unfold laws_eqValueS.dec at h
  obtain ⟨c1, r2, rfl, h1⟩ := Zb h
  obtain ⟨x3, l4, rfl, h2⟩ := Zb h1
  obtain ⟨d5, rfl, h3⟩ := Zt h2
  obtain ⟨w0, rfl, h4⟩ := Z0 h3
  obtain ⟨rfl, h5⟩ := Zc h4
  obtain ⟨rfl, h6⟩ := Zc h5
  obtain ⟨rfl, h7⟩ := Zc h6
  obtain rfl := Option.some.inj h7
  exact ⟨rfl, rfl⟩
noncomputable def laws_eqValue.dec (rs : List (List C)) (os : List Out) : Option (Bool) := Zd rs fun c1 r2 => Zd c1 fun x3 l4 => cD x3 fun d5 => ZaF d5 fun w0 => Ze l4 <| Ze r2 <| Ze os (some w0)
theorem laws_eqValue.kt_dec (a0_0 : Int) (a0_1 : ByteArray) (a0_2 : Int) (a0_3 : List (List D)) (a0_4 : List (List D)) (a1_0 : Int) (a1_1 : ByteArray) (a1_2 : Int) (a1_3 : List (List D)) (a1_4 : List (List D)) : laws_eqValue.kt a0_0 a0_1 a0_2 a0_3 a0_4 a1_0 a1_1 a1_2 a1_3 a1_4 laws_eqValue.dec = (fun z0 => some z0) := by kernel_rfl
theorem laws_eqValue.inj (a0_0 : Int) (a0_1 : ByteArray) (a0_2 : Int) (a0_3 : List (List D)) (a0_4 : List (List D)) (a1_0 : Int) (a1_1 : ByteArray) (a1_2 : Int) (a1_3 : List (List D)) (a1_4 : List (List D)) {rs : List (List C)} {os : List Out} {z0 : Bool} (h : laws_eqValue.dec rs os = some z0) (ho : Zo (laws_eqValue.as a0_0 a0_1 a0_2 a0_3 a0_4 a1_0 a1_1 a1_2 a1_3 a1_4) os) : rs = [[.d (.bool z0)]] ∧ os = [] := by
  unfold laws_eqValue.dec at h
  obtain ⟨c1, r2, rfl, h1⟩ := Zb h
  obtain ⟨x3, l4, rfl, h2⟩ := Zb h1
  obtain ⟨d5, rfl, h3⟩ := Zt h2
  obtain ⟨w0, rfl, h4⟩ := Z0 h3
  obtain ⟨rfl, h5⟩ := Zc h4
  obtain ⟨rfl, h6⟩ := Zc h5
  obtain ⟨rfl, h7⟩ := Zc h6
  obtain rfl := Option.some.inj h7
  exact ⟨rfl, rfl⟩
theorem laws_eqValueS.oks (k : Nat) : Zv Try.prog 226 (laws_eqValueS.e k) ∧ Zv Try.prog 190 (laws_eqValue.e k) := by
  induction k with
  | zero =>
    refine ⟨?_, ?_⟩
    · exact Zb1 (Zq Try.func226 (by kernel_rfl)) fun β l K r h => by
        simp only [laws_eqValueS.e] at h
        split at h
        · unfold laws_eqValueS.f at h
          unfold laws_eqValueS.w at h
          rw [laws_eqValueS.t_zero] at h
          cases h
        · cases h
    · exact Zb1 (Zq Try.func190 (by kernel_rfl)) fun β l K r h => by
        simp only [laws_eqValue.e] at h
        split at h
        · unfold laws_eqValue.f at h
          unfold laws_eqValue.w at h
          rw [laws_eqValue.t_zero] at h
          cases h
        · cases h
  | succ k ih =>
    refine ⟨?_, ?_⟩
    · refine Zu mix tyok (fn := Try.f226) (c := Zl Try.f226) Try.func226 (by kernel_rfl) (h := laws_eqValueS.h) (k := k) (E := laws_eqValueS.E k) (Zk ih.2 Zz) (by kernel_rfl) (by kernel_rfl) rfl (Zq Try.func226 (by kernel_rfl)) ?_
      intro β l K r hr
      simp only [laws_eqValueS.e] at hr
      split at hr
      case h_2 => cases hr
      unfold laws_eqValueS.f at hr
      unfold laws_eqValueS.w at hr
      split at hr
      case h_2 => cases hr
      rename_i hz
      exact ⟨_, _, hr, _, laws_eqValueS.dec, _, (laws_eqValueS.f_eq k _ _ laws_eqValueS.dec).trans (by rw [laws_eqValueS.kt_dec]; exact hz), fun rs os h ho => laws_eqValueS.inj _ _ h ho⟩
    · refine Zu mix tyok (fn := Try.f190) (c := Zl Try.f190) Try.func190 (by kernel_rfl) (h := laws_eqValue.h) (k := k) (E := laws_eqValue.E k) (Zk (laws_eqStringS.ok k) (Zk ih.1 Zz)) (by kernel_rfl) (by kernel_rfl) rfl (Zq Try.func190 (by kernel_rfl)) ?_
      intro β l K r hr
      simp only [laws_eqValue.e] at hr
      split at hr
      case h_2 => cases hr
      unfold laws_eqValue.f at hr
      unfold laws_eqValue.w at hr
      split at hr
      case h_2 => cases hr
      rename_i hz
      exact ⟨_, _, hr, _, laws_eqValue.dec, _, (laws_eqValue.f_eq k _ _ _ _ _ _ _ _ _ _ laws_eqValue.dec).trans (by rw [laws_eqValue.kt_dec]; exact hz), fun rs os h ho => laws_eqValue.inj _ _ _ _ _ _ _ _ _ _ h ho⟩
theorem laws_eqValueS.ok (k : Nat) : Zv Try.prog 226 (laws_eqValueS.e k) := (laws_eqValueS.oks k).1
theorem laws_eqValue.ok (k : Nat) : Zv Try.prog 190 (laws_eqValue.e k) := (laws_eqValueS.oks k).2
noncomputable def laws_eqOp.g {β : Type} (k : Nat) (a0_0 : Int) (a0_1 : List (List D)) (a0_2 : Int) (a0_3 : ByteArray) (a0_4 : Int) (a0_5 : List (List D)) (a0_6 : List (List D)) (a1_0 : Int) (a1_1 : List (List D)) (a1_2 : Int) (a1_3 : ByteArray) (a1_4 : Int) (a1_5 : List (List D)) (a1_6 : List (List D)) (K : Bool → Option β) : Option β :=
  bif ((a0_0 : Int) != a1_0) then (K false) else (laws_eqStringS.f k a0_1 a1_1 (fun y1 => bif (!y1) then (K false) else (laws_eqValue.f k a0_2 a0_3 a0_4 a0_5 a0_6 a1_2 a1_3 a1_4 a1_5 a1_6 (fun y2 => bif (!y2) then (K false) else (K true)))))
noncomputable def laws_eqOp.t (k : Nat) (a0_0 : Int) (a0_1 : List (List D)) (a0_2 : Int) (a0_3 : ByteArray) (a0_4 : Int) (a0_5 : List (List D)) (a0_6 : List (List D)) (a1_0 : Int) (a1_1 : List (List D)) (a1_2 : Int) (a1_3 : ByteArray) (a1_4 : Int) (a1_5 : List (List D)) (a1_6 : List (List D)) : Option (Bool) := laws_eqOp.g k a0_0 a0_1 a0_2 a0_3 a0_4 a0_5 a0_6 a1_0 a1_1 a1_2 a1_3 a1_4 a1_5 a1_6 (fun z0 => some z0)
noncomputable def laws_eqOp.f {β : Type} (k : Nat) (a0_0 : Int) (a0_1 : List (List D)) (a0_2 : Int) (a0_3 : ByteArray) (a0_4 : Int) (a0_5 : List (List D)) (a0_6 : List (List D)) (a1_0 : Int) (a1_1 : List (List D)) (a1_2 : Int) (a1_3 : ByteArray) (a1_4 : Int) (a1_5 : List (List D)) (a1_6 : List (List D)) (K : Bool → Option β) : Option β :=
  match laws_eqOp.t k a0_0 a0_1 a0_2 a0_3 a0_4 a0_5 a0_6 a1_0 a1_1 a1_2 a1_3 a1_4 a1_5 a1_6 with
  | some z0 => K z0
  | none => none
noncomputable def laws_eqOp.as (a0_0 : Int) (a0_1 : List (List D)) (a0_2 : Int) (a0_3 : ByteArray) (a0_4 : Int) (a0_5 : List (List D)) (a0_6 : List (List D)) (a1_0 : Int) (a1_1 : List (List D)) (a1_2 : Int) (a1_3 : ByteArray) (a1_4 : Int) (a1_5 : List (List D)) (a1_6 : List (List D)) : List A := [.agg [.int .i64 a0_0, .sl a0_1, .int .i64 a0_2, .str a0_3, .int .i64 a0_4, .sl a0_5, .sl a0_6], .agg [.int .i64 a1_0, .sl a1_1, .int .i64 a1_2, .str a1_3, .int .i64 a1_4, .sl a1_5, .sl a1_6]]
noncomputable def laws_eqOp.kt {β : Type} (a0_0 : Int) (a0_1 : List (List D)) (a0_2 : Int) (a0_3 : ByteArray) (a0_4 : Int) (a0_5 : List (List D)) (a0_6 : List (List D)) (a1_0 : Int) (a1_1 : List (List D)) (a1_2 : Int) (a1_3 : ByteArray) (a1_4 : Int) (a1_5 : List (List D)) (a1_6 : List (List D)) (K0 : List (List C) → List Out → Option β) : Bool → Option β := fun z0 => K0 [[.d (.bool z0)]] []
noncomputable def laws_eqOp.e (k : Nat) : ZQ := { modes := [(.imm, 0), (.imm, 0)], rts := [4], al := false, run := fun {β} l K => match l with | [.agg [.int .i64 a0_0, .sl a0_1, .int .i64 a0_2, .str a0_3, .int .i64 a0_4, .sl a0_5, .sl a0_6], .agg [.int .i64 a1_0, .sl a1_1, .int .i64 a1_2, .str a1_3, .int .i64 a1_4, .sl a1_5, .sl a1_6]] => laws_eqOp.f k a0_0 a0_1 a0_2 a0_3 a0_4 a0_5 a0_6 a1_0 a1_1 a1_2 a1_3 a1_4 a1_5 a1_6 (laws_eqOp.kt a0_0 a0_1 a0_2 a0_3 a0_4 a0_5 a0_6 a1_0 a1_1 a1_2 a1_3 a1_4 a1_5 a1_6 K) | _ => none }
noncomputable def laws_eqOp.E (k : Nat) : Env := fun g => bif g == 82 then some (laws_eqStringS.e k) else bif g == 190 then some (laws_eqValue.e k) else none
noncomputable def laws_eqOp.h : ZY := ⟨fun n => ⟨[], []⟩, fun _ => none, false, []⟩
theorem laws_eqOp.f_eq {β : Type} (k : Nat) (a0_0 : Int) (a0_1 : List (List D)) (a0_2 : Int) (a0_3 : ByteArray) (a0_4 : Int) (a0_5 : List (List D)) (a0_6 : List (List D)) (a1_0 : Int) (a1_1 : List (List D)) (a1_2 : Int) (a1_3 : ByteArray) (a1_4 : Int) (a1_5 : List (List D)) (a1_6 : List (List D)) (K0 : List (List C) → List Out → Option β) : ZJ Try.prog (laws_eqOp.E k) laws_eqOp.h k Try.f269 (laws_eqOp.as a0_0 a0_1 a0_2 a0_3 a0_4 a0_5 a0_6 a1_0 a1_1 a1_2 a1_3 a1_4 a1_5 a1_6) K0 = laws_eqOp.g k a0_0 a0_1 a0_2 a0_3 a0_4 a0_5 a0_6 a1_0 a1_1 a1_2 a1_3 a1_4 a1_5 a1_6 (laws_eqOp.kt a0_0 a0_1 a0_2 a0_3 a0_4 a0_5 a0_6 a1_0 a1_1 a1_2 a1_3 a1_4 a1_5 a1_6 K0) := by kernel_rfl
noncomputable def laws_eqOp.dec (rs : List (List C)) (os : List Out) : Option (Bool) := Zd rs fun c1 r2 => Zd c1 fun x3 l4 => cD x3 fun d5 => ZaF d5 fun w0 => Ze l4 <| Ze r2 <| Ze os (some w0)
theorem laws_eqOp.kt_dec (a0_0 : Int) (a0_1 : List (List D)) (a0_2 : Int) (a0_3 : ByteArray) (a0_4 : Int) (a0_5 : List (List D)) (a0_6 : List (List D)) (a1_0 : Int) (a1_1 : List (List D)) (a1_2 : Int) (a1_3 : ByteArray) (a1_4 : Int) (a1_5 : List (List D)) (a1_6 : List (List D)) : laws_eqOp.kt a0_0 a0_1 a0_2 a0_3 a0_4 a0_5 a0_6 a1_0 a1_1 a1_2 a1_3 a1_4 a1_5 a1_6 laws_eqOp.dec = (fun z0 => some z0) := by kernel_rfl
theorem laws_eqOp.inj (a0_0 : Int) (a0_1 : List (List D)) (a0_2 : Int) (a0_3 : ByteArray) (a0_4 : Int) (a0_5 : List (List D)) (a0_6 : List (List D)) (a1_0 : Int) (a1_1 : List (List D)) (a1_2 : Int) (a1_3 : ByteArray) (a1_4 : Int) (a1_5 : List (List D)) (a1_6 : List (List D)) {rs : List (List C)} {os : List Out} {z0 : Bool} (h : laws_eqOp.dec rs os = some z0) (ho : Zo (laws_eqOp.as a0_0 a0_1 a0_2 a0_3 a0_4 a0_5 a0_6 a1_0 a1_1 a1_2 a1_3 a1_4 a1_5 a1_6) os) : rs = [[.d (.bool z0)]] ∧ os = [] := by
  unfold laws_eqOp.dec at h
  obtain ⟨c1, r2, rfl, h1⟩ := Zb h
  obtain ⟨x3, l4, rfl, h2⟩ := Zb h1
  obtain ⟨d5, rfl, h3⟩ := Zt h2
  obtain ⟨w0, rfl, h4⟩ := Z0 h3
  obtain ⟨rfl, h5⟩ := Zc h4
  obtain ⟨rfl, h6⟩ := Zc h5
  obtain ⟨rfl, h7⟩ := Zc h6
  obtain rfl := Option.some.inj h7
  exact ⟨rfl, rfl⟩
theorem laws_eqOp.ok (k : Nat) : Zv Try.prog 269 (laws_eqOp.e k) := by
  refine Zu mix tyok (fn := Try.f269) (c := Zl Try.f269) Try.func269 (by kernel_rfl) (h := laws_eqOp.h) (k := k) (E := laws_eqOp.E k) (Zk (laws_eqStringS.ok k) (Zk (laws_eqValue.ok k) Zz)) (by kernel_rfl) (by kernel_rfl) rfl (Zq Try.func269 (by kernel_rfl)) ?_
  intro β l K r hr
  simp only [laws_eqOp.e] at hr
  split at hr
  case h_2 => cases hr
  unfold laws_eqOp.f at hr
  split at hr
  case h_2 => cases hr
  rename_i hz
  exact ⟨_, _, hr, _, laws_eqOp.dec, _, (laws_eqOp.f_eq k _ _ _ _ _ _ _ _ _ _ _ _ _ _ laws_eqOp.dec).trans (by rw [laws_eqOp.kt_dec]; exact hz), fun rs os h ho => laws_eqOp.inj _ _ _ _ _ _ _ _ _ _ _ _ _ _ h ho⟩
noncomputable def laws_eqOpS.l0 {β : Type} (k : Nat) (v0_0 : List (List D)) (v0_1 : List (List D)) (K : Bool → Option β) (L0 : Int → Option β) (v : Int) : Option β :=
  match v with
  | v0_2 => bif (decide ((v0_2 : Int) < (v0_0.length : Int))) then (ZX v0_0 v0_2 fun c46 => Zd c46 fun d47 r48 => ZM .i64 d47 fun x49 => Zd r48 fun d50 r51 => dSl d50 fun x52 => Zd r51 fun d53 r54 => ZM .i64 d53 fun x55 => Zd r54 fun d56 r57 => Zan d56 fun x58 => Zd r57 fun d59 r60 => ZM .i64 d59 fun x61 => Zd r60 fun d62 r63 => dSl d62 fun x64 => Zd r63 fun d65 r66 => dSl d65 fun x67 => Ze r66 (ZX v0_1 v0_2 fun c68 => Zd c68 fun d69 r70 => ZM .i64 d69 fun x71 => Zd r70 fun d72 r73 => dSl d72 fun x74 => Zd r73 fun d75 r76 => ZM .i64 d75 fun x77 => Zd r76 fun d78 r79 => Zan d78 fun x80 => Zd r79 fun d81 r82 => ZM .i64 d81 fun x83 => Zd r82 fun d84 r85 => dSl d84 fun x86 => Zd r85 fun d87 r88 => dSl d87 fun x89 => Ze r88 (laws_eqOp.f k x49 x52 x55 x58 x61 x64 x67 x71 x74 x77 x80 x83 x86 x89 (fun y90 => bif (!y90) then (K false) else (L0 (IntKind.wrap .i64 (v0_2 + 1))))))) else (K true)
noncomputable def laws_eqOpS.g {β : Type} (k : Nat) (a0 : List (List D)) (a1 : List (List D)) (K : Bool → Option β) : Option β :=
  bif (((a0.length : Int) : Int) != (a1.length : Int)) then (K false) else (Z4 (laws_eqOpS.l0 k a0 a1 K) k (0))
noncomputable def laws_eqOpS.t (k : Nat) (a0 : List (List D)) (a1 : List (List D)) : Option (Bool) := laws_eqOpS.g k a0 a1 (fun z0 => some z0)
noncomputable def laws_eqOpS.f {β : Type} (k : Nat) (a0 : List (List D)) (a1 : List (List D)) (K : Bool → Option β) : Option β :=
  match laws_eqOpS.t k a0 a1 with
  | some z0 => K z0
  | none => none
noncomputable def laws_eqOpS.as (a0 : List (List D)) (a1 : List (List D)) : List A := [.d (.sl a0), .d (.sl a1)]
noncomputable def laws_eqOpS.kt {β : Type} (a0 : List (List D)) (a1 : List (List D)) (K0 : List (List C) → List Out → Option β) : Bool → Option β := fun z0 => K0 [[.d (.bool z0)]] []
noncomputable def laws_eqOpS.e (k : Nat) : ZQ := { modes := [(.imm, 0), (.imm, 0)], rts := [4], al := false, run := fun {β} l K => match l with | [.d (.sl a0), .d (.sl a1)] => laws_eqOpS.f k a0 a1 (laws_eqOpS.kt a0 a1 K) | _ => none }
noncomputable def laws_eqOpS.E (k : Nat) : Env := fun g => bif g == 269 then some (laws_eqOp.e k) else none
noncomputable def laws_eqOpS.h : ZY := ⟨fun n => bif n == 4 then ⟨[(0, .asis), (1, .asis), (5, .asis)], []⟩ else ⟨[], []⟩, fun _ => none, false, []⟩
noncomputable def laws_eqOpS.s0 (v0_0 : List (List D)) (v0_1 : List (List D)) (v : Int) : St :=
  match v with
  | v0_2 => ⟨[.d false (.sl v0_0), .d false (.sl v0_1), .any, .any, .any, .d true (.int .i64 v0_2), .any, .any, .any, .any, .any, .any, .any, .any, .any, .any, .any, .any, .any, .any, .any, .any, .any, .any, .any, .any, .any], []⟩
noncomputable def laws_eqOpS.b0 {β : Type} (k : Nat) : St → (Ex → St → Option β) → Option β := fun s K => den Try.prog (laws_eqOpS.E k) laws_eqOpS.h.H laws_eqOpS.h.J k (Zad [1, 1, 0, 1, 0, 0] (Zl Try.f263)) s K
noncomputable def laws_eqOpS.c0 {β : Type} (k : Nat) (a0 : List (List D)) (a1 : List (List D)) (K0 : List (List C) → List Out → Option β) : Ex → St → Option β := Zae Try.prog (laws_eqOpS.E k) laws_eqOpS.h k [1, 1, 0, 1, 0] (Zl Try.f263) (Zak Try.prog Try.f263 laws_eqOpS.h (laws_eqOpS.as a0 a1) K0)
theorem laws_eqOpS.l0_eq {β : Type} (k : Nat) (a0 : List (List D)) (a1 : List (List D)) (K0 : List (List C) → List Out → Option β) (v0_0 : List (List D)) (v0_1 : List (List D)) : ∀ (kk : Nat) (v : Int), Zx (laws_eqOpS.b0 k) (laws_eqOpS.h.H 4) kk (laws_eqOpS.s0 v0_0 v0_1 v) (laws_eqOpS.c0 k a0 a1 K0) = Z4 (laws_eqOpS.l0 k v0_0 v0_1 (laws_eqOpS.kt a0 a1 K0)) kk v :=
  Z9 (laws_eqOpS.s0 v0_0 v0_1) _ (fun L0 v => by kernel_rfl)
noncomputable def laws_eqOpS.m {β : Type} (k : Nat) (a0 : List (List D)) (a1 : List (List D)) (K0 : List (List C) → List Out → Option β) (F : ((List (List D)) → (List (List D)) → Int → Option β)) : Option β :=
  bif (((a0.length : Int) : Int) != (a1.length : Int)) then ((laws_eqOpS.kt a0 a1 K0) false) else ((F) a0 a1 (0))
theorem laws_eqOpS.f_eq {β : Type} (k : Nat) (a0 : List (List D)) (a1 : List (List D)) (K0 : List (List C) → List Out → Option β) : ZJ Try.prog (laws_eqOpS.E k) laws_eqOpS.h k Try.f263 (laws_eqOpS.as a0 a1) K0 = laws_eqOpS.g k a0 a1 (laws_eqOpS.kt a0 a1 K0) := Eq.trans (b := (laws_eqOpS.m k a0 a1 K0) (fun (v0_0 : List (List D)) (v0_1 : List (List D)) (v : Int) => Zx (laws_eqOpS.b0 k) (laws_eqOpS.h.H 4) k (laws_eqOpS.s0 v0_0 v0_1 v) (laws_eqOpS.c0 k a0 a1 K0))) (by kernel_rfl) (Eq.trans (congrArg (laws_eqOpS.m k a0 a1 K0) (funext fun v0_0 => funext fun v0_1 => funext fun v => laws_eqOpS.l0_eq k a0 a1 K0 v0_0 v0_1 k v)) (by kernel_rfl))
noncomputable def laws_eqOpS.dec (rs : List (List C)) (os : List Out) : Option (Bool) := Zd rs fun c1 r2 => Zd c1 fun x3 l4 => cD x3 fun d5 => ZaF d5 fun w0 => Ze l4 <| Ze r2 <| Ze os (some w0)
theorem laws_eqOpS.kt_dec (a0 : List (List D)) (a1 : List (List D)) : laws_eqOpS.kt a0 a1 laws_eqOpS.dec = (fun z0 => some z0) := by kernel_rfl
theorem laws_eqOpS.inj (a0 : List (List D)) (a1 : List (List D)) {rs : List (List C)} {os : List Out} {z0 : Bool} (h : laws_eqOpS.dec rs os = some z0) (ho : Zo (laws_eqOpS.as a0 a1) os) : rs = [[.d (.bool z0)]] ∧ os = [] := by
  unfold laws_eqOpS.dec at h
  obtain ⟨c1, r2, rfl, h1⟩ := Zb h
  obtain ⟨x3, l4, rfl, h2⟩ := Zb h1
  obtain ⟨d5, rfl, h3⟩ := Zt h2
  obtain ⟨w0, rfl, h4⟩ := Z0 h3
  obtain ⟨rfl, h5⟩ := Zc h4
  obtain ⟨rfl, h6⟩ := Zc h5
  obtain ⟨rfl, h7⟩ := Zc h6
  obtain rfl := Option.some.inj h7
  exact ⟨rfl, rfl⟩
theorem laws_eqOpS.ok (k : Nat) : Zv Try.prog 263 (laws_eqOpS.e k) := by
  refine Zu mix tyok (fn := Try.f263) (c := Zl Try.f263) Try.func263 (by kernel_rfl) (h := laws_eqOpS.h) (k := k) (E := laws_eqOpS.E k) (Zk (laws_eqOp.ok k) Zz) (by kernel_rfl) (by kernel_rfl) rfl (Zq Try.func263 (by kernel_rfl)) ?_
  intro β l K r hr
  simp only [laws_eqOpS.e] at hr
  split at hr
  case h_2 => cases hr
  unfold laws_eqOpS.f at hr
  split at hr
  case h_2 => cases hr
  rename_i hz
  exact ⟨_, _, hr, _, laws_eqOpS.dec, _, (laws_eqOpS.f_eq k _ _ laws_eqOpS.dec).trans (by rw [laws_eqOpS.kt_dec]; exact hz), fun rs os h ho => laws_eqOpS.inj _ _ h ho⟩
noncomputable def laws_eqOver.g {β : Type} (k : Nat) (a0_0 : ByteArray) (a0_1 : List (List D)) (a1_0 : ByteArray) (a1_1 : List (List D)) (K : Bool → Option β) : Option β :=
  bif (!(strEq a0_0 a1_0)) then (K false) else (laws_eqOpS.f k a0_1 a1_1 (fun y91 => bif (!y91) then (K false) else (K true)))
noncomputable def laws_eqOver.t (k : Nat) (a0_0 : ByteArray) (a0_1 : List (List D)) (a1_0 : ByteArray) (a1_1 : List (List D)) : Option (Bool) := laws_eqOver.g k a0_0 a0_1 a1_0 a1_1 (fun z0 => some z0)
noncomputable def laws_eqOver.f {β : Type} (k : Nat) (a0_0 : ByteArray) (a0_1 : List (List D)) (a1_0 : ByteArray) (a1_1 : List (List D)) (K : Bool → Option β) : Option β :=
  match laws_eqOver.t k a0_0 a0_1 a1_0 a1_1 with
  | some z0 => K z0
  | none => none
noncomputable def laws_eqOver.as (a0_0 : ByteArray) (a0_1 : List (List D)) (a1_0 : ByteArray) (a1_1 : List (List D)) : List A := [.agg [.str a0_0, .sl a0_1], .agg [.str a1_0, .sl a1_1]]
noncomputable def laws_eqOver.kt {β : Type} (a0_0 : ByteArray) (a0_1 : List (List D)) (a1_0 : ByteArray) (a1_1 : List (List D)) (K0 : List (List C) → List Out → Option β) : Bool → Option β := fun z0 => K0 [[.d (.bool z0)]] []
noncomputable def laws_eqOver.e (k : Nat) : ZQ := { modes := [(.imm, 0), (.imm, 0)], rts := [4], al := false, run := fun {β} l K => match l with | [.agg [.str a0_0, .sl a0_1], .agg [.str a1_0, .sl a1_1]] => laws_eqOver.f k a0_0 a0_1 a1_0 a1_1 (laws_eqOver.kt a0_0 a0_1 a1_0 a1_1 K) | _ => none }
noncomputable def laws_eqOver.E (k : Nat) : Env := fun g => bif g == 263 then some (laws_eqOpS.e k) else none
noncomputable def laws_eqOver.h : ZY := ⟨fun n => ⟨[], []⟩, fun _ => none, false, []⟩
theorem laws_eqOver.f_eq {β : Type} (k : Nat) (a0_0 : ByteArray) (a0_1 : List (List D)) (a1_0 : ByteArray) (a1_1 : List (List D)) (K0 : List (List C) → List Out → Option β) : ZJ Try.prog (laws_eqOver.E k) laws_eqOver.h k Try.f245 (laws_eqOver.as a0_0 a0_1 a1_0 a1_1) K0 = laws_eqOver.g k a0_0 a0_1 a1_0 a1_1 (laws_eqOver.kt a0_0 a0_1 a1_0 a1_1 K0) := by kernel_rfl
noncomputable def laws_eqOver.dec (rs : List (List C)) (os : List Out) : Option (Bool) := Zd rs fun c1 r2 => Zd c1 fun x3 l4 => cD x3 fun d5 => ZaF d5 fun w0 => Ze l4 <| Ze r2 <| Ze os (some w0)
theorem laws_eqOver.kt_dec (a0_0 : ByteArray) (a0_1 : List (List D)) (a1_0 : ByteArray) (a1_1 : List (List D)) : laws_eqOver.kt a0_0 a0_1 a1_0 a1_1 laws_eqOver.dec = (fun z0 => some z0) := by kernel_rfl
theorem laws_eqOver.inj (a0_0 : ByteArray) (a0_1 : List (List D)) (a1_0 : ByteArray) (a1_1 : List (List D)) {rs : List (List C)} {os : List Out} {z0 : Bool} (h : laws_eqOver.dec rs os = some z0) (ho : Zo (laws_eqOver.as a0_0 a0_1 a1_0 a1_1) os) : rs = [[.d (.bool z0)]] ∧ os = [] := by
  unfold laws_eqOver.dec at h
  obtain ⟨c1, r2, rfl, h1⟩ := Zb h
  obtain ⟨x3, l4, rfl, h2⟩ := Zb h1
  obtain ⟨d5, rfl, h3⟩ := Zt h2
  obtain ⟨w0, rfl, h4⟩ := Z0 h3
  obtain ⟨rfl, h5⟩ := Zc h4
  obtain ⟨rfl, h6⟩ := Zc h5
  obtain ⟨rfl, h7⟩ := Zc h6
  obtain rfl := Option.some.inj h7
  exact ⟨rfl, rfl⟩
theorem laws_eqOver.ok (k : Nat) : Zv Try.prog 245 (laws_eqOver.e k) := by
  refine Zu mix tyok (fn := Try.f245) (c := Zl Try.f245) Try.func245 (by kernel_rfl) (h := laws_eqOver.h) (k := k) (E := laws_eqOver.E k) (Zk (laws_eqOpS.ok k) Zz) (by kernel_rfl) (by kernel_rfl) rfl (Zq Try.func245 (by kernel_rfl)) ?_
  intro β l K r hr
  simp only [laws_eqOver.e] at hr
  split at hr
  case h_2 => cases hr
  unfold laws_eqOver.f at hr
  split at hr
  case h_2 => cases hr
  rename_i hz
  exact ⟨_, _, hr, _, laws_eqOver.dec, _, (laws_eqOver.f_eq k _ _ _ _ laws_eqOver.dec).trans (by rw [laws_eqOver.kt_dec]; exact hz), fun rs os h ho => laws_eqOver.inj _ _ _ _ h ho⟩
noncomputable def laws_eqOverS.l0 {β : Type} (k : Nat) (v0_0 : List (List D)) (v0_1 : List (List D)) (K : Bool → Option β) (L0 : Int → Option β) (v : Int) : Option β :=
  match v with
  | v0_2 => bif (decide ((v0_2 : Int) < (v0_0.length : Int))) then (ZX v0_0 v0_2 fun c93 => Zd c93 fun d94 r95 => Zan d94 fun x96 => Zd r95 fun d97 r98 => dSl d97 fun x99 => Ze r98 (ZX v0_1 v0_2 fun c100 => Zd c100 fun d101 r102 => Zan d101 fun x103 => Zd r102 fun d104 r105 => dSl d104 fun x106 => Ze r105 (laws_eqOver.f k x96 x99 x103 x106 (fun y107 => bif (!y107) then (K false) else (L0 (IntKind.wrap .i64 (v0_2 + 1))))))) else (K true)
noncomputable def laws_eqOverS.g {β : Type} (k : Nat) (a0 : List (List D)) (a1 : List (List D)) (K : Bool → Option β) : Option β :=
  bif (((a0.length : Int) : Int) != (a1.length : Int)) then (K false) else (Z4 (laws_eqOverS.l0 k a0 a1 K) k (0))
noncomputable def laws_eqOverS.t (k : Nat) (a0 : List (List D)) (a1 : List (List D)) : Option (Bool) := laws_eqOverS.g k a0 a1 (fun z0 => some z0)
noncomputable def laws_eqOverS.f {β : Type} (k : Nat) (a0 : List (List D)) (a1 : List (List D)) (K : Bool → Option β) : Option β :=
  match laws_eqOverS.t k a0 a1 with
  | some z0 => K z0
  | none => none
noncomputable def laws_eqOverS.as (a0 : List (List D)) (a1 : List (List D)) : List A := [.d (.sl a0), .d (.sl a1)]
noncomputable def laws_eqOverS.kt {β : Type} (a0 : List (List D)) (a1 : List (List D)) (K0 : List (List C) → List Out → Option β) : Bool → Option β := fun z0 => K0 [[.d (.bool z0)]] []
noncomputable def laws_eqOverS.e (k : Nat) : ZQ := { modes := [(.imm, 0), (.imm, 0)], rts := [4], al := false, run := fun {β} l K => match l with | [.d (.sl a0), .d (.sl a1)] => laws_eqOverS.f k a0 a1 (laws_eqOverS.kt a0 a1 K) | _ => none }
noncomputable def laws_eqOverS.E (k : Nat) : Env := fun g => bif g == 245 then some (laws_eqOver.e k) else none
noncomputable def laws_eqOverS.h : ZY := ⟨fun n => bif n == 4 then ⟨[(0, .asis), (1, .asis), (5, .asis)], []⟩ else ⟨[], []⟩, fun _ => none, false, []⟩
noncomputable def laws_eqOverS.s0 (v0_0 : List (List D)) (v0_1 : List (List D)) (v : Int) : St :=
  match v with
  | v0_2 => ⟨[.d false (.sl v0_0), .d false (.sl v0_1), .any, .any, .any, .d true (.int .i64 v0_2), .any, .any, .any, .any, .any, .any, .any, .any, .any, .any, .any, .any, .any, .any, .any, .any, .any, .any, .any, .any, .any], []⟩
noncomputable def laws_eqOverS.b0 {β : Type} (k : Nat) : St → (Ex → St → Option β) → Option β := fun s K => den Try.prog (laws_eqOverS.E k) laws_eqOverS.h.H laws_eqOverS.h.J k (Zad [1, 1, 0, 1, 0, 0] (Zl Try.f219)) s K
noncomputable def laws_eqOverS.c0 {β : Type} (k : Nat) (a0 : List (List D)) (a1 : List (List D)) (K0 : List (List C) → List Out → Option β) : Ex → St → Option β := Zae Try.prog (laws_eqOverS.E k) laws_eqOverS.h k [1, 1, 0, 1, 0] (Zl Try.f219) (Zak Try.prog Try.f219 laws_eqOverS.h (laws_eqOverS.as a0 a1) K0)
theorem laws_eqOverS.l0_eq {β : Type} (k : Nat) (a0 : List (List D)) (a1 : List (List D)) (K0 : List (List C) → List Out → Option β) (v0_0 : List (List D)) (v0_1 : List (List D)) : ∀ (kk : Nat) (v : Int), Zx (laws_eqOverS.b0 k) (laws_eqOverS.h.H 4) kk (laws_eqOverS.s0 v0_0 v0_1 v) (laws_eqOverS.c0 k a0 a1 K0) = Z4 (laws_eqOverS.l0 k v0_0 v0_1 (laws_eqOverS.kt a0 a1 K0)) kk v :=
  Z9 (laws_eqOverS.s0 v0_0 v0_1) _ (fun L0 v => by kernel_rfl)
noncomputable def laws_eqOverS.m {β : Type} (k : Nat) (a0 : List (List D)) (a1 : List (List D)) (K0 : List (List C) → List Out → Option β) (F : ((List (List D)) → (List (List D)) → Int → Option β)) : Option β :=
  bif (((a0.length : Int) : Int) != (a1.length : Int)) then ((laws_eqOverS.kt a0 a1 K0) false) else ((F) a0 a1 (0))
theorem laws_eqOverS.f_eq {β : Type} (k : Nat) (a0 : List (List D)) (a1 : List (List D)) (K0 : List (List C) → List Out → Option β) : ZJ Try.prog (laws_eqOverS.E k) laws_eqOverS.h k Try.f219 (laws_eqOverS.as a0 a1) K0 = laws_eqOverS.g k a0 a1 (laws_eqOverS.kt a0 a1 K0) := Eq.trans (b := (laws_eqOverS.m k a0 a1 K0) (fun (v0_0 : List (List D)) (v0_1 : List (List D)) (v : Int) => Zx (laws_eqOverS.b0 k) (laws_eqOverS.h.H 4) k (laws_eqOverS.s0 v0_0 v0_1 v) (laws_eqOverS.c0 k a0 a1 K0))) (by kernel_rfl) (Eq.trans (congrArg (laws_eqOverS.m k a0 a1 K0) (funext fun v0_0 => funext fun v0_1 => funext fun v => laws_eqOverS.l0_eq k a0 a1 K0 v0_0 v0_1 k v)) (by kernel_rfl))
noncomputable def laws_eqOverS.dec (rs : List (List C)) (os : List Out) : Option (Bool) := Zd rs fun c1 r2 => Zd c1 fun x3 l4 => cD x3 fun d5 => ZaF d5 fun w0 => Ze l4 <| Ze r2 <| Ze os (some w0)
theorem laws_eqOverS.kt_dec (a0 : List (List D)) (a1 : List (List D)) : laws_eqOverS.kt a0 a1 laws_eqOverS.dec = (fun z0 => some z0) := by kernel_rfl
theorem laws_eqOverS.inj (a0 : List (List D)) (a1 : List (List D)) {rs : List (List C)} {os : List Out} {z0 : Bool} (h : laws_eqOverS.dec rs os = some z0) (ho : Zo (laws_eqOverS.as a0 a1) os) : rs = [[.d (.bool z0)]] ∧ os = [] := by
  unfold laws_eqOverS.dec at h
  obtain ⟨c1, r2, rfl, h1⟩ := Zb h
  obtain ⟨x3, l4, rfl, h2⟩ := Zb h1
  obtain ⟨d5, rfl, h3⟩ := Zt h2
  obtain ⟨w0, rfl, h4⟩ := Z0 h3
  obtain ⟨rfl, h5⟩ := Zc h4
  obtain ⟨rfl, h6⟩ := Zc h5
  obtain ⟨rfl, h7⟩ := Zc h6
  obtain rfl := Option.some.inj h7
  exact ⟨rfl, rfl⟩
theorem laws_eqOverS.ok (k : Nat) : Zv Try.prog 219 (laws_eqOverS.e k) := by
  refine Zu mix tyok (fn := Try.f219) (c := Zl Try.f219) Try.func219 (by kernel_rfl) (h := laws_eqOverS.h) (k := k) (E := laws_eqOverS.E k) (Zk (laws_eqOver.ok k) Zz) (by kernel_rfl) (by kernel_rfl) rfl (Zq Try.func219 (by kernel_rfl)) ?_
  intro β l K r hr
  simp only [laws_eqOverS.e] at hr
  split at hr
  case h_2 => cases hr
  unfold laws_eqOverS.f at hr
  split at hr
  case h_2 => cases hr
  rename_i hz
  exact ⟨_, _, hr, _, laws_eqOverS.dec, _, (laws_eqOverS.f_eq k _ _ laws_eqOverS.dec).trans (by rw [laws_eqOverS.kt_dec]; exact hz), fun rs os h ho => laws_eqOverS.inj _ _ h ho⟩
noncomputable def laws_eqJob.g {β : Type} (k : Nat) (a0_0 : Int) (a0_1 : ByteArray) (a0_2 : Int) (a0_3 : List (List D)) (a0_4 : List (List D)) (a0_5 : List (List D)) (a0_6 : Int) (a0_7 : ByteArray) (a0_8 : Int) (a0_9 : List (List D)) (a0_10 : List (List D)) (a0_11 : List (List D)) (a0_12 : Bool) (a1_0 : Int) (a1_1 : ByteArray) (a1_2 : Int) (a1_3 : List (List D)) (a1_4 : List (List D)) (a1_5 : List (List D)) (a1_6 : Int) (a1_7 : ByteArray) (a1_8 : Int) (a1_9 : List (List D)) (a1_10 : List (List D)) (a1_11 : List (List D)) (a1_12 : Bool) (K : Bool → Option β) : Option β :=
  bif ((a0_0 : Int) != a1_0) then (K false) else (bif (!(strEq a0_1 a1_1)) then (K false) else (laws_eqWant.f k a0_2 a0_3 a0_4 a0_5 a1_2 a1_3 a1_4 a1_5 (fun y46 => bif (!y46) then (K false) else (laws_eqValue.f k a0_6 a0_7 a0_8 a0_9 a0_10 a1_6 a1_7 a1_8 a1_9 a1_10 (fun y68 => bif (!y68) then (K false) else (laws_eqOverS.f k a0_11 a1_11 (fun y108 => bif (!y108) then (K false) else (bif (!(a0_12 == a1_12)) then (K false) else (K true)))))))))
noncomputable def laws_eqJob.t (k : Nat) (a0_0 : Int) (a0_1 : ByteArray) (a0_2 : Int) (a0_3 : List (List D)) (a0_4 : List (List D)) (a0_5 : List (List D)) (a0_6 : Int) (a0_7 : ByteArray) (a0_8 : Int) (a0_9 : List (List D)) (a0_10 : List (List D)) (a0_11 : List (List D)) (a0_12 : Bool) (a1_0 : Int) (a1_1 : ByteArray) (a1_2 : Int) (a1_3 : List (List D)) (a1_4 : List (List D)) (a1_5 : List (List D)) (a1_6 : Int) (a1_7 : ByteArray) (a1_8 : Int) (a1_9 : List (List D)) (a1_10 : List (List D)) (a1_11 : List (List D)) (a1_12 : Bool) : Option (Bool) := laws_eqJob.g k a0_0 a0_1 a0_2 a0_3 a0_4 a0_5 a0_6 a0_7 a0_8 a0_9 a0_10 a0_11 a0_12 a1_0 a1_1 a1_2 a1_3 a1_4 a1_5 a1_6 a1_7 a1_8 a1_9 a1_10 a1_11 a1_12 (fun z0 => some z0)
noncomputable def laws_eqJob.f {β : Type} (k : Nat) (a0_0 : Int) (a0_1 : ByteArray) (a0_2 : Int) (a0_3 : List (List D)) (a0_4 : List (List D)) (a0_5 : List (List D)) (a0_6 : Int) (a0_7 : ByteArray) (a0_8 : Int) (a0_9 : List (List D)) (a0_10 : List (List D)) (a0_11 : List (List D)) (a0_12 : Bool) (a1_0 : Int) (a1_1 : ByteArray) (a1_2 : Int) (a1_3 : List (List D)) (a1_4 : List (List D)) (a1_5 : List (List D)) (a1_6 : Int) (a1_7 : ByteArray) (a1_8 : Int) (a1_9 : List (List D)) (a1_10 : List (List D)) (a1_11 : List (List D)) (a1_12 : Bool) (K : Bool → Option β) : Option β :=
  match laws_eqJob.t k a0_0 a0_1 a0_2 a0_3 a0_4 a0_5 a0_6 a0_7 a0_8 a0_9 a0_10 a0_11 a0_12 a1_0 a1_1 a1_2 a1_3 a1_4 a1_5 a1_6 a1_7 a1_8 a1_9 a1_10 a1_11 a1_12 with
  | some z0 => K z0
  | none => none
noncomputable def laws_eqJob.as (a0_0 : Int) (a0_1 : ByteArray) (a0_2 : Int) (a0_3 : List (List D)) (a0_4 : List (List D)) (a0_5 : List (List D)) (a0_6 : Int) (a0_7 : ByteArray) (a0_8 : Int) (a0_9 : List (List D)) (a0_10 : List (List D)) (a0_11 : List (List D)) (a0_12 : Bool) (a1_0 : Int) (a1_1 : ByteArray) (a1_2 : Int) (a1_3 : List (List D)) (a1_4 : List (List D)) (a1_5 : List (List D)) (a1_6 : Int) (a1_7 : ByteArray) (a1_8 : Int) (a1_9 : List (List D)) (a1_10 : List (List D)) (a1_11 : List (List D)) (a1_12 : Bool) : List A := [.agg [.int .i64 a0_0, .str a0_1, .int .i64 a0_2, .sl a0_3, .sl a0_4, .sl a0_5, .int .i64 a0_6, .str a0_7, .int .i64 a0_8, .sl a0_9, .sl a0_10, .sl a0_11, .bool a0_12], .agg [.int .i64 a1_0, .str a1_1, .int .i64 a1_2, .sl a1_3, .sl a1_4, .sl a1_5, .int .i64 a1_6, .str a1_7, .int .i64 a1_8, .sl a1_9, .sl a1_10, .sl a1_11, .bool a1_12]]
noncomputable def laws_eqJob.kt {β : Type} (a0_0 : Int) (a0_1 : ByteArray) (a0_2 : Int) (a0_3 : List (List D)) (a0_4 : List (List D)) (a0_5 : List (List D)) (a0_6 : Int) (a0_7 : ByteArray) (a0_8 : Int) (a0_9 : List (List D)) (a0_10 : List (List D)) (a0_11 : List (List D)) (a0_12 : Bool) (a1_0 : Int) (a1_1 : ByteArray) (a1_2 : Int) (a1_3 : List (List D)) (a1_4 : List (List D)) (a1_5 : List (List D)) (a1_6 : Int) (a1_7 : ByteArray) (a1_8 : Int) (a1_9 : List (List D)) (a1_10 : List (List D)) (a1_11 : List (List D)) (a1_12 : Bool) (K0 : List (List C) → List Out → Option β) : Bool → Option β := fun z0 => K0 [[.d (.bool z0)]] []
noncomputable def laws_eqJob.e (k : Nat) : ZQ := { modes := [(.imm, 0), (.imm, 0)], rts := [4], al := false, run := fun {β} l K => match l with | [.agg [.int .i64 a0_0, .str a0_1, .int .i64 a0_2, .sl a0_3, .sl a0_4, .sl a0_5, .int .i64 a0_6, .str a0_7, .int .i64 a0_8, .sl a0_9, .sl a0_10, .sl a0_11, .bool a0_12], .agg [.int .i64 a1_0, .str a1_1, .int .i64 a1_2, .sl a1_3, .sl a1_4, .sl a1_5, .int .i64 a1_6, .str a1_7, .int .i64 a1_8, .sl a1_9, .sl a1_10, .sl a1_11, .bool a1_12]] => laws_eqJob.f k a0_0 a0_1 a0_2 a0_3 a0_4 a0_5 a0_6 a0_7 a0_8 a0_9 a0_10 a0_11 a0_12 a1_0 a1_1 a1_2 a1_3 a1_4 a1_5 a1_6 a1_7 a1_8 a1_9 a1_10 a1_11 a1_12 (laws_eqJob.kt a0_0 a0_1 a0_2 a0_3 a0_4 a0_5 a0_6 a0_7 a0_8 a0_9 a0_10 a0_11 a0_12 a1_0 a1_1 a1_2 a1_3 a1_4 a1_5 a1_6 a1_7 a1_8 a1_9 a1_10 a1_11 a1_12 K) | _ => none }
noncomputable def laws_eqJob.E (k : Nat) : Env := fun g => bif g == 218 then some (laws_eqWant.e k) else bif g == 190 then some (laws_eqValue.e k) else bif g == 219 then some (laws_eqOverS.e k) else none
noncomputable def laws_eqJob.h : ZY := ⟨fun n => ⟨[], []⟩, fun _ => none, false, []⟩
theorem laws_eqJob.f_eq {β : Type} (k : Nat) (a0_0 : Int) (a0_1 : ByteArray) (a0_2 : Int) (a0_3 : List (List D)) (a0_4 : List (List D)) (a0_5 : List (List D)) (a0_6 : Int) (a0_7 : ByteArray) (a0_8 : Int) (a0_9 : List (List D)) (a0_10 : List (List D)) (a0_11 : List (List D)) (a0_12 : Bool) (a1_0 : Int) (a1_1 : ByteArray) (a1_2 : Int) (a1_3 : List (List D)) (a1_4 : List (List D)) (a1_5 : List (List D)) (a1_6 : Int) (a1_7 : ByteArray) (a1_8 : Int) (a1_9 : List (List D)) (a1_10 : List (List D)) (a1_11 : List (List D)) (a1_12 : Bool) (K0 : List (List C) → List Out → Option β) : ZJ Try.prog (laws_eqJob.E k) laws_eqJob.h k Try.f167 (laws_eqJob.as a0_0 a0_1 a0_2 a0_3 a0_4 a0_5 a0_6 a0_7 a0_8 a0_9 a0_10 a0_11 a0_12 a1_0 a1_1 a1_2 a1_3 a1_4 a1_5 a1_6 a1_7 a1_8 a1_9 a1_10 a1_11 a1_12) K0 = laws_eqJob.g k a0_0 a0_1 a0_2 a0_3 a0_4 a0_5 a0_6 a0_7 a0_8 a0_9 a0_10 a0_11 a0_12 a1_0 a1_1 a1_2 a1_3 a1_4 a1_5 a1_6 a1_7 a1_8 a1_9 a1_10 a1_11 a1_12 (laws_eqJob.kt a0_0 a0_1 a0_2 a0_3 a0_4 a0_5 a0_6 a0_7 a0_8 a0_9 a0_10 a0_11 a0_12 a1_0 a1_1 a1_2 a1_3 a1_4 a1_5 a1_6 a1_7 a1_8 a1_9 a1_10 a1_11 a1_12 K0) := by kernel_rfl
noncomputable def laws_eqJob.dec (rs : List (List C)) (os : List Out) : Option (Bool) := Zd rs fun c1 r2 => Zd c1 fun x3 l4 => cD x3 fun d5 => ZaF d5 fun w0 => Ze l4 <| Ze r2 <| Ze os (some w0)
theorem laws_eqJob.kt_dec (a0_0 : Int) (a0_1 : ByteArray) (a0_2 : Int) (a0_3 : List (List D)) (a0_4 : List (List D)) (a0_5 : List (List D)) (a0_6 : Int) (a0_7 : ByteArray) (a0_8 : Int) (a0_9 : List (List D)) (a0_10 : List (List D)) (a0_11 : List (List D)) (a0_12 : Bool) (a1_0 : Int) (a1_1 : ByteArray) (a1_2 : Int) (a1_3 : List (List D)) (a1_4 : List (List D)) (a1_5 : List (List D)) (a1_6 : Int) (a1_7 : ByteArray) (a1_8 : Int) (a1_9 : List (List D)) (a1_10 : List (List D)) (a1_11 : List (List D)) (a1_12 : Bool) : laws_eqJob.kt a0_0 a0_1 a0_2 a0_3 a0_4 a0_5 a0_6 a0_7 a0_8 a0_9 a0_10 a0_11 a0_12 a1_0 a1_1 a1_2 a1_3 a1_4 a1_5 a1_6 a1_7 a1_8 a1_9 a1_10 a1_11 a1_12 laws_eqJob.dec = (fun z0 => some z0) := by kernel_rfl
theorem laws_eqJob.inj (a0_0 : Int) (a0_1 : ByteArray) (a0_2 : Int) (a0_3 : List (List D)) (a0_4 : List (List D)) (a0_5 : List (List D)) (a0_6 : Int) (a0_7 : ByteArray) (a0_8 : Int) (a0_9 : List (List D)) (a0_10 : List (List D)) (a0_11 : List (List D)) (a0_12 : Bool) (a1_0 : Int) (a1_1 : ByteArray) (a1_2 : Int) (a1_3 : List (List D)) (a1_4 : List (List D)) (a1_5 : List (List D)) (a1_6 : Int) (a1_7 : ByteArray) (a1_8 : Int) (a1_9 : List (List D)) (a1_10 : List (List D)) (a1_11 : List (List D)) (a1_12 : Bool) {rs : List (List C)} {os : List Out} {z0 : Bool} (h : laws_eqJob.dec rs os = some z0) (ho : Zo (laws_eqJob.as a0_0 a0_1 a0_2 a0_3 a0_4 a0_5 a0_6 a0_7 a0_8 a0_9 a0_10 a0_11 a0_12 a1_0 a1_1 a1_2 a1_3 a1_4 a1_5 a1_6 a1_7 a1_8 a1_9 a1_10 a1_11 a1_12) os) : rs = [[.d (.bool z0)]] ∧ os = [] := by
  unfold laws_eqJob.dec at h
  obtain ⟨c1, r2, rfl, h1⟩ := Zb h
  obtain ⟨x3, l4, rfl, h2⟩ := Zb h1
  obtain ⟨d5, rfl, h3⟩ := Zt h2
  obtain ⟨w0, rfl, h4⟩ := Z0 h3
  obtain ⟨rfl, h5⟩ := Zc h4
  obtain ⟨rfl, h6⟩ := Zc h5
  obtain ⟨rfl, h7⟩ := Zc h6
  obtain rfl := Option.some.inj h7
  exact ⟨rfl, rfl⟩
theorem laws_eqJob.ok (k : Nat) : Zv Try.prog 167 (laws_eqJob.e k) := by
  refine Zu mix tyok (fn := Try.f167) (c := Zl Try.f167) Try.func167 (by kernel_rfl) (h := laws_eqJob.h) (k := k) (E := laws_eqJob.E k) (Zk (laws_eqWant.ok k) (Zk (laws_eqValue.ok k) (Zk (laws_eqOverS.ok k) Zz))) (by kernel_rfl) (by kernel_rfl) rfl (Zq Try.func167 (by kernel_rfl)) ?_
  intro β l K r hr
  simp only [laws_eqJob.e] at hr
  split at hr
  case h_2 => cases hr
  unfold laws_eqJob.f at hr
  split at hr
  case h_2 => cases hr
  rename_i hz
  exact ⟨_, _, hr, _, laws_eqJob.dec, _, (laws_eqJob.f_eq k _ _ _ _ _ _ _ _ _ _ _ _ _ _ _ _ _ _ _ _ _ _ _ _ _ _ laws_eqJob.dec).trans (by rw [laws_eqJob.kt_dec]; exact hz), fun rs os h ho => laws_eqJob.inj _ _ _ _ _ _ _ _ _ _ _ _ _ _ _ _ _ _ _ _ _ _ _ _ _ _ h ho⟩
noncomputable def laws_eqJobS.l0 {β : Type} (k : Nat) (v0_0 : List (List D)) (v0_1 : List (List D)) (K : Bool → Option β) (L0 : Int → Option β) (v : Int) : Option β :=
  match v with
  | v0_2 => bif (decide ((v0_2 : Int) < (v0_0.length : Int))) then (ZX v0_0 v0_2 fun c110 => Zd c110 fun d111 r112 => ZM .i64 d111 fun x113 => Zd r112 fun d114 r115 => Zan d114 fun x116 => Zd r115 fun d117 r118 => ZM .i64 d117 fun x119 => Zd r118 fun d120 r121 => dSl d120 fun x122 => Zd r121 fun d123 r124 => dSl d123 fun x125 => Zd r124 fun d126 r127 => dSl d126 fun x128 => Zd r127 fun d129 r130 => ZM .i64 d129 fun x131 => Zd r130 fun d132 r133 => Zan d132 fun x134 => Zd r133 fun d135 r136 => ZM .i64 d135 fun x137 => Zd r136 fun d138 r139 => dSl d138 fun x140 => Zd r139 fun d141 r142 => dSl d141 fun x143 => Zd r142 fun d144 r145 => dSl d144 fun x146 => Zd r145 fun d147 r148 => ZaF d147 fun x149 => Ze r148 (ZX v0_1 v0_2 fun c150 => Zd c150 fun d151 r152 => ZM .i64 d151 fun x153 => Zd r152 fun d154 r155 => Zan d154 fun x156 => Zd r155 fun d157 r158 => ZM .i64 d157 fun x159 => Zd r158 fun d160 r161 => dSl d160 fun x162 => Zd r161 fun d163 r164 => dSl d163 fun x165 => Zd r164 fun d166 r167 => dSl d166 fun x168 => Zd r167 fun d169 r170 => ZM .i64 d169 fun x171 => Zd r170 fun d172 r173 => Zan d172 fun x174 => Zd r173 fun d175 r176 => ZM .i64 d175 fun x177 => Zd r176 fun d178 r179 => dSl d178 fun x180 => Zd r179 fun d181 r182 => dSl d181 fun x183 => Zd r182 fun d184 r185 => dSl d184 fun x186 => Zd r185 fun d187 r188 => ZaF d187 fun x189 => Ze r188 (laws_eqJob.f k x113 x116 x119 x122 x125 x128 x131 x134 x137 x140 x143 x146 x149 x153 x156 x159 x162 x165 x168 x171 x174 x177 x180 x183 x186 x189 (fun y190 => bif (!y190) then (K false) else (L0 (IntKind.wrap .i64 (v0_2 + 1))))))) else (K true)
noncomputable def laws_eqJobS.g {β : Type} (k : Nat) (a0 : List (List D)) (a1 : List (List D)) (K : Bool → Option β) : Option β :=
  bif (((a0.length : Int) : Int) != (a1.length : Int)) then (K false) else (Z4 (laws_eqJobS.l0 k a0 a1 K) k (0))
noncomputable def laws_eqJobS.t (k : Nat) (a0 : List (List D)) (a1 : List (List D)) : Option (Bool) := laws_eqJobS.g k a0 a1 (fun z0 => some z0)
noncomputable def laws_eqJobS.f {β : Type} (k : Nat) (a0 : List (List D)) (a1 : List (List D)) (K : Bool → Option β) : Option β :=
  match laws_eqJobS.t k a0 a1 with
  | some z0 => K z0
  | none => none
noncomputable def laws_eqJobS.as (a0 : List (List D)) (a1 : List (List D)) : List A := [.d (.sl a0), .d (.sl a1)]
noncomputable def laws_eqJobS.kt {β : Type} (a0 : List (List D)) (a1 : List (List D)) (K0 : List (List C) → List Out → Option β) : Bool → Option β := fun z0 => K0 [[.d (.bool z0)]] []
noncomputable def laws_eqJobS.e (k : Nat) : ZQ := { modes := [(.imm, 0), (.imm, 0)], rts := [4], al := false, run := fun {β} l K => match l with | [.d (.sl a0), .d (.sl a1)] => laws_eqJobS.f k a0 a1 (laws_eqJobS.kt a0 a1 K) | _ => none }
noncomputable def laws_eqJobS.E (k : Nat) : Env := fun g => bif g == 167 then some (laws_eqJob.e k) else none
noncomputable def laws_eqJobS.h : ZY := ⟨fun n => bif n == 4 then ⟨[(0, .asis), (1, .asis), (5, .asis)], []⟩ else ⟨[], []⟩, fun _ => none, false, []⟩
noncomputable def laws_eqJobS.s0 (v0_0 : List (List D)) (v0_1 : List (List D)) (v : Int) : St :=
  match v with
  | v0_2 => ⟨[.d false (.sl v0_0), .d false (.sl v0_1), .any, .any, .any, .d true (.int .i64 v0_2), .any, .any, .any, .any, .any, .any, .any, .any, .any, .any, .any, .any, .any, .any, .any, .any, .any, .any, .any, .any, .any], []⟩
noncomputable def laws_eqJobS.b0 {β : Type} (k : Nat) : St → (Ex → St → Option β) → Option β := fun s K => den Try.prog (laws_eqJobS.E k) laws_eqJobS.h.H laws_eqJobS.h.J k (Zad [1, 1, 0, 1, 0, 0] (Zl Try.f79)) s K
noncomputable def laws_eqJobS.c0 {β : Type} (k : Nat) (a0 : List (List D)) (a1 : List (List D)) (K0 : List (List C) → List Out → Option β) : Ex → St → Option β := Zae Try.prog (laws_eqJobS.E k) laws_eqJobS.h k [1, 1, 0, 1, 0] (Zl Try.f79) (Zak Try.prog Try.f79 laws_eqJobS.h (laws_eqJobS.as a0 a1) K0)
theorem laws_eqJobS.l0_eq {β : Type} (k : Nat) (a0 : List (List D)) (a1 : List (List D)) (K0 : List (List C) → List Out → Option β) (v0_0 : List (List D)) (v0_1 : List (List D)) : ∀ (kk : Nat) (v : Int), Zx (laws_eqJobS.b0 k) (laws_eqJobS.h.H 4) kk (laws_eqJobS.s0 v0_0 v0_1 v) (laws_eqJobS.c0 k a0 a1 K0) = Z4 (laws_eqJobS.l0 k v0_0 v0_1 (laws_eqJobS.kt a0 a1 K0)) kk v :=
  Z9 (laws_eqJobS.s0 v0_0 v0_1) _ (fun L0 v => by kernel_rfl)
noncomputable def laws_eqJobS.m {β : Type} (k : Nat) (a0 : List (List D)) (a1 : List (List D)) (K0 : List (List C) → List Out → Option β) (F : ((List (List D)) → (List (List D)) → Int → Option β)) : Option β :=
  bif (((a0.length : Int) : Int) != (a1.length : Int)) then ((laws_eqJobS.kt a0 a1 K0) false) else ((F) a0 a1 (0))
theorem laws_eqJobS.f_eq {β : Type} (k : Nat) (a0 : List (List D)) (a1 : List (List D)) (K0 : List (List C) → List Out → Option β) : ZJ Try.prog (laws_eqJobS.E k) laws_eqJobS.h k Try.f79 (laws_eqJobS.as a0 a1) K0 = laws_eqJobS.g k a0 a1 (laws_eqJobS.kt a0 a1 K0) := Eq.trans (b := (laws_eqJobS.m k a0 a1 K0) (fun (v0_0 : List (List D)) (v0_1 : List (List D)) (v : Int) => Zx (laws_eqJobS.b0 k) (laws_eqJobS.h.H 4) k (laws_eqJobS.s0 v0_0 v0_1 v) (laws_eqJobS.c0 k a0 a1 K0))) (by kernel_rfl) (Eq.trans (congrArg (laws_eqJobS.m k a0 a1 K0) (funext fun v0_0 => funext fun v0_1 => funext fun v => laws_eqJobS.l0_eq k a0 a1 K0 v0_0 v0_1 k v)) (by kernel_rfl))
noncomputable def laws_eqJobS.dec (rs : List (List C)) (os : List Out) : Option (Bool) := Zd rs fun c1 r2 => Zd c1 fun x3 l4 => cD x3 fun d5 => ZaF d5 fun w0 => Ze l4 <| Ze r2 <| Ze os (some w0)
theorem laws_eqJobS.kt_dec (a0 : List (List D)) (a1 : List (List D)) : laws_eqJobS.kt a0 a1 laws_eqJobS.dec = (fun z0 => some z0) := by kernel_rfl
theorem laws_eqJobS.inj (a0 : List (List D)) (a1 : List (List D)) {rs : List (List C)} {os : List Out} {z0 : Bool} (h : laws_eqJobS.dec rs os = some z0) (ho : Zo (laws_eqJobS.as a0 a1) os) : rs = [[.d (.bool z0)]] ∧ os = [] := by
  unfold laws_eqJobS.dec at h
  obtain ⟨c1, r2, rfl, h1⟩ := Zb h
  obtain ⟨x3, l4, rfl, h2⟩ := Zb h1
  obtain ⟨d5, rfl, h3⟩ := Zt h2
  obtain ⟨w0, rfl, h4⟩ := Z0 h3
  obtain ⟨rfl, h5⟩ := Zc h4
  obtain ⟨rfl, h6⟩ := Zc h5
  obtain ⟨rfl, h7⟩ := Zc h6
  obtain rfl := Option.some.inj h7
  exact ⟨rfl, rfl⟩
theorem laws_eqJobS.ok (k : Nat) : Zv Try.prog 79 (laws_eqJobS.e k) := by
  refine Zu mix tyok (fn := Try.f79) (c := Zl Try.f79) Try.func79 (by kernel_rfl) (h := laws_eqJobS.h) (k := k) (E := laws_eqJobS.E k) (Zk (laws_eqJob.ok k) Zz) (by kernel_rfl) (by kernel_rfl) rfl (Zq Try.func79 (by kernel_rfl)) ?_
  intro β l K r hr
  simp only [laws_eqJobS.e] at hr
  split at hr
  case h_2 => cases hr
  unfold laws_eqJobS.f at hr
  split at hr
  case h_2 => cases hr
  rename_i hz
  exact ⟨_, _, hr, _, laws_eqJobS.dec, _, (laws_eqJobS.f_eq k _ _ laws_eqJobS.dec).trans (by rw [laws_eqJobS.kt_dec]; exact hz), fun rs os h ho => laws_eqJobS.inj _ _ h ho⟩
noncomputable def laws_eqLabel.g {β : Type} (k : Nat) (a0_0 : ByteArray) (a0_1 : ByteArray) (a1_0 : ByteArray) (a1_1 : ByteArray) (K : Bool → Option β) : Option β :=
  bif (!(strEq a0_0 a1_0)) then (K false) else (bif (!(strEq a0_1 a1_1)) then (K false) else (K true))
noncomputable def laws_eqLabel.t (k : Nat) (a0_0 : ByteArray) (a0_1 : ByteArray) (a1_0 : ByteArray) (a1_1 : ByteArray) : Option (Bool) := laws_eqLabel.g k a0_0 a0_1 a1_0 a1_1 (fun z0 => some z0)
noncomputable def laws_eqLabel.f {β : Type} (k : Nat) (a0_0 : ByteArray) (a0_1 : ByteArray) (a1_0 : ByteArray) (a1_1 : ByteArray) (K : Bool → Option β) : Option β :=
  match laws_eqLabel.t k a0_0 a0_1 a1_0 a1_1 with
  | some z0 => K z0
  | none => none
noncomputable def laws_eqLabel.as (a0_0 : ByteArray) (a0_1 : ByteArray) (a1_0 : ByteArray) (a1_1 : ByteArray) : List A := [.agg [.str a0_0, .str a0_1], .agg [.str a1_0, .str a1_1]]
noncomputable def laws_eqLabel.kt {β : Type} (a0_0 : ByteArray) (a0_1 : ByteArray) (a1_0 : ByteArray) (a1_1 : ByteArray) (K0 : List (List C) → List Out → Option β) : Bool → Option β := fun z0 => K0 [[.d (.bool z0)]] []
noncomputable def laws_eqLabel.e (k : Nat) : ZQ := { modes := [(.imm, 0), (.imm, 0)], rts := [4], al := false, run := fun {β} l K => match l with | [.agg [.str a0_0, .str a0_1], .agg [.str a1_0, .str a1_1]] => laws_eqLabel.f k a0_0 a0_1 a1_0 a1_1 (laws_eqLabel.kt a0_0 a0_1 a1_0 a1_1 K) | _ => none }
noncomputable def laws_eqLabel.E (k : Nat) : Env := fun g => none
noncomputable def laws_eqLabel.h : ZY := ⟨fun n => ⟨[], []⟩, fun _ => none, false, []⟩
theorem laws_eqLabel.f_eq {β : Type} (k : Nat) (a0_0 : ByteArray) (a0_1 : ByteArray) (a1_0 : ByteArray) (a1_1 : ByteArray) (K0 : List (List C) → List Out → Option β) : ZJ Try.prog (laws_eqLabel.E k) laws_eqLabel.h k Try.f264 (laws_eqLabel.as a0_0 a0_1 a1_0 a1_1) K0 = laws_eqLabel.g k a0_0 a0_1 a1_0 a1_1 (laws_eqLabel.kt a0_0 a0_1 a1_0 a1_1 K0) := by kernel_rfl
noncomputable def laws_eqLabel.dec (rs : List (List C)) (os : List Out) : Option (Bool) := Zd rs fun c1 r2 => Zd c1 fun x3 l4 => cD x3 fun d5 => ZaF d5 fun w0 => Ze l4 <| Ze r2 <| Ze os (some w0)
theorem laws_eqLabel.kt_dec (a0_0 : ByteArray) (a0_1 : ByteArray) (a1_0 : ByteArray) (a1_1 : ByteArray) : laws_eqLabel.kt a0_0 a0_1 a1_0 a1_1 laws_eqLabel.dec = (fun z0 => some z0) := by kernel_rfl
theorem laws_eqLabel.inj (a0_0 : ByteArray) (a0_1 : ByteArray) (a1_0 : ByteArray) (a1_1 : ByteArray) {rs : List (List C)} {os : List Out} {z0 : Bool} (h : laws_eqLabel.dec rs os = some z0) (ho : Zo (laws_eqLabel.as a0_0 a0_1 a1_0 a1_1) os) : rs = [[.d (.bool z0)]] ∧ os = [] := by
  unfold laws_eqLabel.dec at h
  obtain ⟨c1, r2, rfl, h1⟩ := Zb h
  obtain ⟨x3, l4, rfl, h2⟩ := Zb h1
  obtain ⟨d5, rfl, h3⟩ := Zt h2
  obtain ⟨w0, rfl, h4⟩ := Z0 h3
  obtain ⟨rfl, h5⟩ := Zc h4
  obtain ⟨rfl, h6⟩ := Zc h5
  obtain ⟨rfl, h7⟩ := Zc h6
  obtain rfl := Option.some.inj h7
  exact ⟨rfl, rfl⟩
theorem laws_eqLabel.ok (k : Nat) : Zv Try.prog 264 (laws_eqLabel.e k) := by
  refine Zu mix tyok (fn := Try.f264) (c := Zl Try.f264) Try.func264 (by kernel_rfl) (h := laws_eqLabel.h) (k := k) (E := laws_eqLabel.E k) Zz (by kernel_rfl) (by kernel_rfl) rfl (Zq Try.func264 (by kernel_rfl)) ?_
  intro β l K r hr
  simp only [laws_eqLabel.e] at hr
  split at hr
  case h_2 => cases hr
  unfold laws_eqLabel.f at hr
  split at hr
  case h_2 => cases hr
  rename_i hz
  exact ⟨_, _, hr, _, laws_eqLabel.dec, _, (laws_eqLabel.f_eq k _ _ _ _ laws_eqLabel.dec).trans (by rw [laws_eqLabel.kt_dec]; exact hz), fun rs os h ho => laws_eqLabel.inj _ _ _ _ h ho⟩
noncomputable def laws_eqLabelS.l0 {β : Type} (k : Nat) (v0_0 : List (List D)) (v0_1 : List (List D)) (K : Bool → Option β) (L0 : Int → Option β) (v : Int) : Option β :=
  match v with
  | v0_2 => bif (decide ((v0_2 : Int) < (v0_0.length : Int))) then (ZX v0_0 v0_2 fun c16 => Zd c16 fun d17 r18 => Zan d17 fun x19 => Zd r18 fun d20 r21 => Zan d20 fun x22 => Ze r21 (ZX v0_1 v0_2 fun c23 => Zd c23 fun d24 r25 => Zan d24 fun x26 => Zd r25 fun d27 r28 => Zan d27 fun x29 => Ze r28 (laws_eqLabel.f k x19 x22 x26 x29 (fun y30 => bif (!y30) then (K false) else (L0 (IntKind.wrap .i64 (v0_2 + 1))))))) else (K true)
noncomputable def laws_eqLabelS.g {β : Type} (k : Nat) (a0 : List (List D)) (a1 : List (List D)) (K : Bool → Option β) : Option β :=
  bif (((a0.length : Int) : Int) != (a1.length : Int)) then (K false) else (Z4 (laws_eqLabelS.l0 k a0 a1 K) k (0))
noncomputable def laws_eqLabelS.t (k : Nat) (a0 : List (List D)) (a1 : List (List D)) : Option (Bool) := laws_eqLabelS.g k a0 a1 (fun z0 => some z0)
noncomputable def laws_eqLabelS.f {β : Type} (k : Nat) (a0 : List (List D)) (a1 : List (List D)) (K : Bool → Option β) : Option β :=
  match laws_eqLabelS.t k a0 a1 with
  | some z0 => K z0
  | none => none
noncomputable def laws_eqLabelS.as (a0 : List (List D)) (a1 : List (List D)) : List A := [.d (.sl a0), .d (.sl a1)]
noncomputable def laws_eqLabelS.kt {β : Type} (a0 : List (List D)) (a1 : List (List D)) (K0 : List (List C) → List Out → Option β) : Bool → Option β := fun z0 => K0 [[.d (.bool z0)]] []
noncomputable def laws_eqLabelS.e (k : Nat) : ZQ := { modes := [(.imm, 0), (.imm, 0)], rts := [4], al := false, run := fun {β} l K => match l with | [.d (.sl a0), .d (.sl a1)] => laws_eqLabelS.f k a0 a1 (laws_eqLabelS.kt a0 a1 K) | _ => none }
noncomputable def laws_eqLabelS.E (k : Nat) : Env := fun g => bif g == 264 then some (laws_eqLabel.e k) else none
noncomputable def laws_eqLabelS.h : ZY := ⟨fun n => bif n == 4 then ⟨[(0, .asis), (1, .asis), (5, .asis)], []⟩ else ⟨[], []⟩, fun _ => none, false, []⟩
noncomputable def laws_eqLabelS.s0 (v0_0 : List (List D)) (v0_1 : List (List D)) (v : Int) : St :=
  match v with
  | v0_2 => ⟨[.d false (.sl v0_0), .d false (.sl v0_1), .any, .any, .any, .d true (.int .i64 v0_2), .any, .any, .any, .any, .any, .any, .any, .any, .any, .any, .any, .any, .any, .any, .any, .any, .any, .any, .any, .any, .any], []⟩
noncomputable def laws_eqLabelS.b0 {β : Type} (k : Nat) : St → (Ex → St → Option β) → Option β := fun s K => den Try.prog (laws_eqLabelS.E k) laws_eqLabelS.h.H laws_eqLabelS.h.J k (Zad [1, 1, 0, 1, 0, 0] (Zl Try.f246)) s K
noncomputable def laws_eqLabelS.c0 {β : Type} (k : Nat) (a0 : List (List D)) (a1 : List (List D)) (K0 : List (List C) → List Out → Option β) : Ex → St → Option β := Zae Try.prog (laws_eqLabelS.E k) laws_eqLabelS.h k [1, 1, 0, 1, 0] (Zl Try.f246) (Zak Try.prog Try.f246 laws_eqLabelS.h (laws_eqLabelS.as a0 a1) K0)
theorem laws_eqLabelS.l0_eq {β : Type} (k : Nat) (a0 : List (List D)) (a1 : List (List D)) (K0 : List (List C) → List Out → Option β) (v0_0 : List (List D)) (v0_1 : List (List D)) : ∀ (kk : Nat) (v : Int), Zx (laws_eqLabelS.b0 k) (laws_eqLabelS.h.H 4) kk (laws_eqLabelS.s0 v0_0 v0_1 v) (laws_eqLabelS.c0 k a0 a1 K0) = Z4 (laws_eqLabelS.l0 k v0_0 v0_1 (laws_eqLabelS.kt a0 a1 K0)) kk v :=
  Z9 (laws_eqLabelS.s0 v0_0 v0_1) _ (fun L0 v => by kernel_rfl)
noncomputable def laws_eqLabelS.m {β : Type} (k : Nat) (a0 : List (List D)) (a1 : List (List D)) (K0 : List (List C) → List Out → Option β) (F : ((List (List D)) → (List (List D)) → Int → Option β)) : Option β :=
  bif (((a0.length : Int) : Int) != (a1.length : Int)) then ((laws_eqLabelS.kt a0 a1 K0) false) else ((F) a0 a1 (0))
theorem laws_eqLabelS.f_eq {β : Type} (k : Nat) (a0 : List (List D)) (a1 : List (List D)) (K0 : List (List C) → List Out → Option β) : ZJ Try.prog (laws_eqLabelS.E k) laws_eqLabelS.h k Try.f246 (laws_eqLabelS.as a0 a1) K0 = laws_eqLabelS.g k a0 a1 (laws_eqLabelS.kt a0 a1 K0) := Eq.trans (b := (laws_eqLabelS.m k a0 a1 K0) (fun (v0_0 : List (List D)) (v0_1 : List (List D)) (v : Int) => Zx (laws_eqLabelS.b0 k) (laws_eqLabelS.h.H 4) k (laws_eqLabelS.s0 v0_0 v0_1 v) (laws_eqLabelS.c0 k a0 a1 K0))) (by kernel_rfl) (Eq.trans (congrArg (laws_eqLabelS.m k a0 a1 K0) (funext fun v0_0 => funext fun v0_1 => funext fun v => laws_eqLabelS.l0_eq k a0 a1 K0 v0_0 v0_1 k v)) (by kernel_rfl))
noncomputable def laws_eqLabelS.dec (rs : List (List C)) (os : List Out) : Option (Bool) := Zd rs fun c1 r2 => Zd c1 fun x3 l4 => cD x3 fun d5 => ZaF d5 fun w0 => Ze l4 <| Ze r2 <| Ze os (some w0)
theorem laws_eqLabelS.kt_dec (a0 : List (List D)) (a1 : List (List D)) : laws_eqLabelS.kt a0 a1 laws_eqLabelS.dec = (fun z0 => some z0) := by kernel_rfl
theorem laws_eqLabelS.inj (a0 : List (List D)) (a1 : List (List D)) {rs : List (List C)} {os : List Out} {z0 : Bool} (h : laws_eqLabelS.dec rs os = some z0) (ho : Zo (laws_eqLabelS.as a0 a1) os) : rs = [[.d (.bool z0)]] ∧ os = [] := by
  unfold laws_eqLabelS.dec at h
  obtain ⟨c1, r2, rfl, h1⟩ := Zb h
  obtain ⟨x3, l4, rfl, h2⟩ := Zb h1
  obtain ⟨d5, rfl, h3⟩ := Zt h2
  obtain ⟨w0, rfl, h4⟩ := Z0 h3
  obtain ⟨rfl, h5⟩ := Zc h4
  obtain ⟨rfl, h6⟩ := Zc h5
  obtain ⟨rfl, h7⟩ := Zc h6
  obtain rfl := Option.some.inj h7
  exact ⟨rfl, rfl⟩
theorem laws_eqLabelS.ok (k : Nat) : Zv Try.prog 246 (laws_eqLabelS.e k) := by
  refine Zu mix tyok (fn := Try.f246) (c := Zl Try.f246) Try.func246 (by kernel_rfl) (h := laws_eqLabelS.h) (k := k) (E := laws_eqLabelS.E k) (Zk (laws_eqLabel.ok k) Zz) (by kernel_rfl) (by kernel_rfl) rfl (Zq Try.func246 (by kernel_rfl)) ?_
  intro β l K r hr
  simp only [laws_eqLabelS.e] at hr
  split at hr
  case h_2 => cases hr
  unfold laws_eqLabelS.f at hr
  split at hr
  case h_2 => cases hr
  rename_i hz
  exact ⟨_, _, hr, _, laws_eqLabelS.dec, _, (laws_eqLabelS.f_eq k _ _ laws_eqLabelS.dec).trans (by rw [laws_eqLabelS.kt_dec]; exact hz), fun rs os h ho => laws_eqLabelS.inj _ _ h ho⟩
noncomputable def laws_eqIsland.g {β : Type} (k : Nat) (a0_0 : ByteArray) (a0_1 : List (List D)) (a0_2 : List (List D)) (a0_3 : Int) (a1_0 : ByteArray) (a1_1 : List (List D)) (a1_2 : List (List D)) (a1_3 : Int) (K : Bool → Option β) : Option β :=
  bif (!(strEq a0_0 a1_0)) then (K false) else (laws_eqLabelS.f k a0_1 a1_1 (fun y31 => bif (!y31) then (K false) else (laws_eqStringS.f k a0_2 a1_2 (fun y32 => bif (!y32) then (K false) else (bif ((a0_3 : Int) != a1_3) then (K false) else (K true))))))
noncomputable def laws_eqIsland.t (k : Nat) (a0_0 : ByteArray) (a0_1 : List (List D)) (a0_2 : List (List D)) (a0_3 : Int) (a1_0 : ByteArray) (a1_1 : List (List D)) (a1_2 : List (List D)) (a1_3 : Int) : Option (Bool) := laws_eqIsland.g k a0_0 a0_1 a0_2 a0_3 a1_0 a1_1 a1_2 a1_3 (fun z0 => some z0)
noncomputable def laws_eqIsland.f {β : Type} (k : Nat) (a0_0 : ByteArray) (a0_1 : List (List D)) (a0_2 : List (List D)) (a0_3 : Int) (a1_0 : ByteArray) (a1_1 : List (List D)) (a1_2 : List (List D)) (a1_3 : Int) (K : Bool → Option β) : Option β :=
  match laws_eqIsland.t k a0_0 a0_1 a0_2 a0_3 a1_0 a1_1 a1_2 a1_3 with
  | some z0 => K z0
  | none => none
noncomputable def laws_eqIsland.as (a0_0 : ByteArray) (a0_1 : List (List D)) (a0_2 : List (List D)) (a0_3 : Int) (a1_0 : ByteArray) (a1_1 : List (List D)) (a1_2 : List (List D)) (a1_3 : Int) : List A := [.agg [.str a0_0, .sl a0_1, .sl a0_2, .int .i64 a0_3], .agg [.str a1_0, .sl a1_1, .sl a1_2, .int .i64 a1_3]]
noncomputable def laws_eqIsland.kt {β : Type} (a0_0 : ByteArray) (a0_1 : List (List D)) (a0_2 : List (List D)) (a0_3 : Int) (a1_0 : ByteArray) (a1_1 : List (List D)) (a1_2 : List (List D)) (a1_3 : Int) (K0 : List (List C) → List Out → Option β) : Bool → Option β := fun z0 => K0 [[.d (.bool z0)]] []
noncomputable def laws_eqIsland.e (k : Nat) : ZQ := { modes := [(.imm, 0), (.imm, 0)], rts := [4], al := false, run := fun {β} l K => match l with | [.agg [.str a0_0, .sl a0_1, .sl a0_2, .int .i64 a0_3], .agg [.str a1_0, .sl a1_1, .sl a1_2, .int .i64 a1_3]] => laws_eqIsland.f k a0_0 a0_1 a0_2 a0_3 a1_0 a1_1 a1_2 a1_3 (laws_eqIsland.kt a0_0 a0_1 a0_2 a0_3 a1_0 a1_1 a1_2 a1_3 K) | _ => none }
noncomputable def laws_eqIsland.E (k : Nat) : Env := fun g => bif g == 246 then some (laws_eqLabelS.e k) else bif g == 82 then some (laws_eqStringS.e k) else none
noncomputable def laws_eqIsland.h : ZY := ⟨fun n => ⟨[], []⟩, fun _ => none, false, []⟩
theorem laws_eqIsland.f_eq {β : Type} (k : Nat) (a0_0 : ByteArray) (a0_1 : List (List D)) (a0_2 : List (List D)) (a0_3 : Int) (a1_0 : ByteArray) (a1_1 : List (List D)) (a1_2 : List (List D)) (a1_3 : Int) (K0 : List (List C) → List Out → Option β) : ZJ Try.prog (laws_eqIsland.E k) laws_eqIsland.h k Try.f220 (laws_eqIsland.as a0_0 a0_1 a0_2 a0_3 a1_0 a1_1 a1_2 a1_3) K0 = laws_eqIsland.g k a0_0 a0_1 a0_2 a0_3 a1_0 a1_1 a1_2 a1_3 (laws_eqIsland.kt a0_0 a0_1 a0_2 a0_3 a1_0 a1_1 a1_2 a1_3 K0) := by kernel_rfl
noncomputable def laws_eqIsland.dec (rs : List (List C)) (os : List Out) : Option (Bool) := Zd rs fun c1 r2 => Zd c1 fun x3 l4 => cD x3 fun d5 => ZaF d5 fun w0 => Ze l4 <| Ze r2 <| Ze os (some w0)
theorem laws_eqIsland.kt_dec (a0_0 : ByteArray) (a0_1 : List (List D)) (a0_2 : List (List D)) (a0_3 : Int) (a1_0 : ByteArray) (a1_1 : List (List D)) (a1_2 : List (List D)) (a1_3 : Int) : laws_eqIsland.kt a0_0 a0_1 a0_2 a0_3 a1_0 a1_1 a1_2 a1_3 laws_eqIsland.dec = (fun z0 => some z0) := by kernel_rfl
theorem laws_eqIsland.inj (a0_0 : ByteArray) (a0_1 : List (List D)) (a0_2 : List (List D)) (a0_3 : Int) (a1_0 : ByteArray) (a1_1 : List (List D)) (a1_2 : List (List D)) (a1_3 : Int) {rs : List (List C)} {os : List Out} {z0 : Bool} (h : laws_eqIsland.dec rs os = some z0) (ho : Zo (laws_eqIsland.as a0_0 a0_1 a0_2 a0_3 a1_0 a1_1 a1_2 a1_3) os) : rs = [[.d (.bool z0)]] ∧ os = [] := by
  unfold laws_eqIsland.dec at h
  obtain ⟨c1, r2, rfl, h1⟩ := Zb h
  obtain ⟨x3, l4, rfl, h2⟩ := Zb h1
  obtain ⟨d5, rfl, h3⟩ := Zt h2
  obtain ⟨w0, rfl, h4⟩ := Z0 h3
  obtain ⟨rfl, h5⟩ := Zc h4
  obtain ⟨rfl, h6⟩ := Zc h5
  obtain ⟨rfl, h7⟩ := Zc h6
  obtain rfl := Option.some.inj h7
  exact ⟨rfl, rfl⟩
theorem laws_eqIsland.ok (k : Nat) : Zv Try.prog 220 (laws_eqIsland.e k) := by
  refine Zu mix tyok (fn := Try.f220) (c := Zl Try.f220) Try.func220 (by kernel_rfl) (h := laws_eqIsland.h) (k := k) (E := laws_eqIsland.E k) (Zk (laws_eqLabelS.ok k) (Zk (laws_eqStringS.ok k) Zz)) (by kernel_rfl) (by kernel_rfl) rfl (Zq Try.func220 (by kernel_rfl)) ?_
  intro β l K r hr
  simp only [laws_eqIsland.e] at hr
  split at hr
  case h_2 => cases hr
  unfold laws_eqIsland.f at hr
  split at hr
  case h_2 => cases hr
  rename_i hz
  exact ⟨_, _, hr, _, laws_eqIsland.dec, _, (laws_eqIsland.f_eq k _ _ _ _ _ _ _ _ laws_eqIsland.dec).trans (by rw [laws_eqIsland.kt_dec]; exact hz), fun rs os h ho => laws_eqIsland.inj _ _ _ _ _ _ _ _ h ho⟩
noncomputable def laws_eqPost.g {β : Type} (k : Nat) (a0_0 : ByteArray) (a0_1 : List (List D)) (a0_2 : List (List D)) (a0_3 : Int) (a0_4 : Int) (a0_5 : Int) (a1_0 : ByteArray) (a1_1 : List (List D)) (a1_2 : List (List D)) (a1_3 : Int) (a1_4 : Int) (a1_5 : Int) (K : Bool → Option β) : Option β :=
  laws_eqIsland.f k a0_0 a0_1 a0_2 a0_3 a1_0 a1_1 a1_2 a1_3 (fun y33 => bif (!y33) then (K false) else (bif ((a0_4 : Int) != a1_4) then (K false) else (bif ((a0_5 : Int) != a1_5) then (K false) else (K true))))
noncomputable def laws_eqPost.t (k : Nat) (a0_0 : ByteArray) (a0_1 : List (List D)) (a0_2 : List (List D)) (a0_3 : Int) (a0_4 : Int) (a0_5 : Int) (a1_0 : ByteArray) (a1_1 : List (List D)) (a1_2 : List (List D)) (a1_3 : Int) (a1_4 : Int) (a1_5 : Int) : Option (Bool) := laws_eqPost.g k a0_0 a0_1 a0_2 a0_3 a0_4 a0_5 a1_0 a1_1 a1_2 a1_3 a1_4 a1_5 (fun z0 => some z0)
noncomputable def laws_eqPost.f {β : Type} (k : Nat) (a0_0 : ByteArray) (a0_1 : List (List D)) (a0_2 : List (List D)) (a0_3 : Int) (a0_4 : Int) (a0_5 : Int) (a1_0 : ByteArray) (a1_1 : List (List D)) (a1_2 : List (List D)) (a1_3 : Int) (a1_4 : Int) (a1_5 : Int) (K : Bool → Option β) : Option β :=
  match laws_eqPost.t k a0_0 a0_1 a0_2 a0_3 a0_4 a0_5 a1_0 a1_1 a1_2 a1_3 a1_4 a1_5 with
  | some z0 => K z0
  | none => none
noncomputable def laws_eqPost.as (a0_0 : ByteArray) (a0_1 : List (List D)) (a0_2 : List (List D)) (a0_3 : Int) (a0_4 : Int) (a0_5 : Int) (a1_0 : ByteArray) (a1_1 : List (List D)) (a1_2 : List (List D)) (a1_3 : Int) (a1_4 : Int) (a1_5 : Int) : List A := [.agg [.str a0_0, .sl a0_1, .sl a0_2, .int .i64 a0_3, .int .i64 a0_4, .int .i64 a0_5], .agg [.str a1_0, .sl a1_1, .sl a1_2, .int .i64 a1_3, .int .i64 a1_4, .int .i64 a1_5]]
noncomputable def laws_eqPost.kt {β : Type} (a0_0 : ByteArray) (a0_1 : List (List D)) (a0_2 : List (List D)) (a0_3 : Int) (a0_4 : Int) (a0_5 : Int) (a1_0 : ByteArray) (a1_1 : List (List D)) (a1_2 : List (List D)) (a1_3 : Int) (a1_4 : Int) (a1_5 : Int) (K0 : List (List C) → List Out → Option β) : Bool → Option β := fun z0 => K0 [[.d (.bool z0)]] []
noncomputable def laws_eqPost.e (k : Nat) : ZQ := { modes := [(.imm, 0), (.imm, 0)], rts := [4], al := false, run := fun {β} l K => match l with | [.agg [.str a0_0, .sl a0_1, .sl a0_2, .int .i64 a0_3, .int .i64 a0_4, .int .i64 a0_5], .agg [.str a1_0, .sl a1_1, .sl a1_2, .int .i64 a1_3, .int .i64 a1_4, .int .i64 a1_5]] => laws_eqPost.f k a0_0 a0_1 a0_2 a0_3 a0_4 a0_5 a1_0 a1_1 a1_2 a1_3 a1_4 a1_5 (laws_eqPost.kt a0_0 a0_1 a0_2 a0_3 a0_4 a0_5 a1_0 a1_1 a1_2 a1_3 a1_4 a1_5 K) | _ => none }
noncomputable def laws_eqPost.E (k : Nat) : Env := fun g => bif g == 220 then some (laws_eqIsland.e k) else none
noncomputable def laws_eqPost.h : ZY := ⟨fun n => ⟨[], []⟩, fun _ => none, false, []⟩
theorem laws_eqPost.f_eq {β : Type} (k : Nat) (a0_0 : ByteArray) (a0_1 : List (List D)) (a0_2 : List (List D)) (a0_3 : Int) (a0_4 : Int) (a0_5 : Int) (a1_0 : ByteArray) (a1_1 : List (List D)) (a1_2 : List (List D)) (a1_3 : Int) (a1_4 : Int) (a1_5 : Int) (K0 : List (List C) → List Out → Option β) : ZJ Try.prog (laws_eqPost.E k) laws_eqPost.h k Try.f168 (laws_eqPost.as a0_0 a0_1 a0_2 a0_3 a0_4 a0_5 a1_0 a1_1 a1_2 a1_3 a1_4 a1_5) K0 = laws_eqPost.g k a0_0 a0_1 a0_2 a0_3 a0_4 a0_5 a1_0 a1_1 a1_2 a1_3 a1_4 a1_5 (laws_eqPost.kt a0_0 a0_1 a0_2 a0_3 a0_4 a0_5 a1_0 a1_1 a1_2 a1_3 a1_4 a1_5 K0) := by kernel_rfl
noncomputable def laws_eqPost.dec (rs : List (List C)) (os : List Out) : Option (Bool) := Zd rs fun c1 r2 => Zd c1 fun x3 l4 => cD x3 fun d5 => ZaF d5 fun w0 => Ze l4 <| Ze r2 <| Ze os (some w0)
theorem laws_eqPost.kt_dec (a0_0 : ByteArray) (a0_1 : List (List D)) (a0_2 : List (List D)) (a0_3 : Int) (a0_4 : Int) (a0_5 : Int) (a1_0 : ByteArray) (a1_1 : List (List D)) (a1_2 : List (List D)) (a1_3 : Int) (a1_4 : Int) (a1_5 : Int) : laws_eqPost.kt a0_0 a0_1 a0_2 a0_3 a0_4 a0_5 a1_0 a1_1 a1_2 a1_3 a1_4 a1_5 laws_eqPost.dec = (fun z0 => some z0) := by kernel_rfl
theorem laws_eqPost.inj (a0_0 : ByteArray) (a0_1 : List (List D)) (a0_2 : List (List D)) (a0_3 : Int) (a0_4 : Int) (a0_5 : Int) (a1_0 : ByteArray) (a1_1 : List (List D)) (a1_2 : List (List D)) (a1_3 : Int) (a1_4 : Int) (a1_5 : Int) {rs : List (List C)} {os : List Out} {z0 : Bool} (h : laws_eqPost.dec rs os = some z0) (ho : Zo (laws_eqPost.as a0_0 a0_1 a0_2 a0_3 a0_4 a0_5 a1_0 a1_1 a1_2 a1_3 a1_4 a1_5) os) : rs = [[.d (.bool z0)]] ∧ os = [] := by
  unfold laws_eqPost.dec at h
  obtain ⟨c1, r2, rfl, h1⟩ := Zb h
  obtain ⟨x3, l4, rfl, h2⟩ := Zb h1
  obtain ⟨d5, rfl, h3⟩ := Zt h2
  obtain ⟨w0, rfl, h4⟩ := Z0 h3
  obtain ⟨rfl, h5⟩ := Zc h4
  obtain ⟨rfl, h6⟩ := Zc h5
  obtain ⟨rfl, h7⟩ := Zc h6
  obtain rfl := Option.some.inj h7
  exact ⟨rfl, rfl⟩
theorem laws_eqPost.ok (k : Nat) : Zv Try.prog 168 (laws_eqPost.e k) := by
  refine Zu mix tyok (fn := Try.f168) (c := Zl Try.f168) Try.func168 (by kernel_rfl) (h := laws_eqPost.h) (k := k) (E := laws_eqPost.E k) (Zk (laws_eqIsland.ok k) Zz) (by kernel_rfl) (by kernel_rfl) rfl (Zq Try.func168 (by kernel_rfl)) ?_
  intro β l K r hr
  simp only [laws_eqPost.e] at hr
  split at hr
  case h_2 => cases hr
  unfold laws_eqPost.f at hr
  split at hr
  case h_2 => cases hr
  rename_i hz
  exact ⟨_, _, hr, _, laws_eqPost.dec, _, (laws_eqPost.f_eq k _ _ _ _ _ _ _ _ _ _ _ _ laws_eqPost.dec).trans (by rw [laws_eqPost.kt_dec]; exact hz), fun rs os h ho => laws_eqPost.inj _ _ _ _ _ _ _ _ _ _ _ _ h ho⟩
noncomputable def laws_eqPostS.l0 {β : Type} (k : Nat) (v0_0 : List (List D)) (v0_1 : List (List D)) (K : Bool → Option β) (L0 : Int → Option β) (v : Int) : Option β :=
  match v with
  | v0_2 => bif (decide ((v0_2 : Int) < (v0_0.length : Int))) then (ZX v0_0 v0_2 fun c40 => Zd c40 fun d41 r42 => Zan d41 fun x43 => Zd r42 fun d44 r45 => dSl d44 fun x46 => Zd r45 fun d47 r48 => dSl d47 fun x49 => Zd r48 fun d50 r51 => ZM .i64 d50 fun x52 => Zd r51 fun d53 r54 => ZM .i64 d53 fun x55 => Zd r54 fun d56 r57 => ZM .i64 d56 fun x58 => Ze r57 (ZX v0_1 v0_2 fun c59 => Zd c59 fun d60 r61 => Zan d60 fun x62 => Zd r61 fun d63 r64 => dSl d63 fun x65 => Zd r64 fun d66 r67 => dSl d66 fun x68 => Zd r67 fun d69 r70 => ZM .i64 d69 fun x71 => Zd r70 fun d72 r73 => ZM .i64 d72 fun x74 => Zd r73 fun d75 r76 => ZM .i64 d75 fun x77 => Ze r76 (laws_eqPost.f k x43 x46 x49 x52 x55 x58 x62 x65 x68 x71 x74 x77 (fun y78 => bif (!y78) then (K false) else (L0 (IntKind.wrap .i64 (v0_2 + 1))))))) else (K true)
noncomputable def laws_eqPostS.g {β : Type} (k : Nat) (a0 : List (List D)) (a1 : List (List D)) (K : Bool → Option β) : Option β :=
  bif (((a0.length : Int) : Int) != (a1.length : Int)) then (K false) else (Z4 (laws_eqPostS.l0 k a0 a1 K) k (0))
noncomputable def laws_eqPostS.t (k : Nat) (a0 : List (List D)) (a1 : List (List D)) : Option (Bool) := laws_eqPostS.g k a0 a1 (fun z0 => some z0)
noncomputable def laws_eqPostS.f {β : Type} (k : Nat) (a0 : List (List D)) (a1 : List (List D)) (K : Bool → Option β) : Option β :=
  match laws_eqPostS.t k a0 a1 with
  | some z0 => K z0
  | none => none
noncomputable def laws_eqPostS.as (a0 : List (List D)) (a1 : List (List D)) : List A := [.d (.sl a0), .d (.sl a1)]
noncomputable def laws_eqPostS.kt {β : Type} (a0 : List (List D)) (a1 : List (List D)) (K0 : List (List C) → List Out → Option β) : Bool → Option β := fun z0 => K0 [[.d (.bool z0)]] []
noncomputable def laws_eqPostS.e (k : Nat) : ZQ := { modes := [(.imm, 0), (.imm, 0)], rts := [4], al := false, run := fun {β} l K => match l with | [.d (.sl a0), .d (.sl a1)] => laws_eqPostS.f k a0 a1 (laws_eqPostS.kt a0 a1 K) | _ => none }
noncomputable def laws_eqPostS.E (k : Nat) : Env := fun g => bif g == 168 then some (laws_eqPost.e k) else none
noncomputable def laws_eqPostS.h : ZY := ⟨fun n => bif n == 4 then ⟨[(0, .asis), (1, .asis), (5, .asis)], []⟩ else ⟨[], []⟩, fun _ => none, false, []⟩
noncomputable def laws_eqPostS.s0 (v0_0 : List (List D)) (v0_1 : List (List D)) (v : Int) : St :=
  match v with
  | v0_2 => ⟨[.d false (.sl v0_0), .d false (.sl v0_1), .any, .any, .any, .d true (.int .i64 v0_2), .any, .any, .any, .any, .any, .any, .any, .any, .any, .any, .any, .any, .any, .any, .any, .any, .any, .any, .any, .any, .any], []⟩
noncomputable def laws_eqPostS.b0 {β : Type} (k : Nat) : St → (Ex → St → Option β) → Option β := fun s K => den Try.prog (laws_eqPostS.E k) laws_eqPostS.h.H laws_eqPostS.h.J k (Zad [1, 1, 0, 1, 0, 0] (Zl Try.f80)) s K
noncomputable def laws_eqPostS.c0 {β : Type} (k : Nat) (a0 : List (List D)) (a1 : List (List D)) (K0 : List (List C) → List Out → Option β) : Ex → St → Option β := Zae Try.prog (laws_eqPostS.E k) laws_eqPostS.h k [1, 1, 0, 1, 0] (Zl Try.f80) (Zak Try.prog Try.f80 laws_eqPostS.h (laws_eqPostS.as a0 a1) K0)
theorem laws_eqPostS.l0_eq {β : Type} (k : Nat) (a0 : List (List D)) (a1 : List (List D)) (K0 : List (List C) → List Out → Option β) (v0_0 : List (List D)) (v0_1 : List (List D)) : ∀ (kk : Nat) (v : Int), Zx (laws_eqPostS.b0 k) (laws_eqPostS.h.H 4) kk (laws_eqPostS.s0 v0_0 v0_1 v) (laws_eqPostS.c0 k a0 a1 K0) = Z4 (laws_eqPostS.l0 k v0_0 v0_1 (laws_eqPostS.kt a0 a1 K0)) kk v :=
  Z9 (laws_eqPostS.s0 v0_0 v0_1) _ (fun L0 v => by kernel_rfl)
noncomputable def laws_eqPostS.m {β : Type} (k : Nat) (a0 : List (List D)) (a1 : List (List D)) (K0 : List (List C) → List Out → Option β) (F : ((List (List D)) → (List (List D)) → Int → Option β)) : Option β :=
  bif (((a0.length : Int) : Int) != (a1.length : Int)) then ((laws_eqPostS.kt a0 a1 K0) false) else ((F) a0 a1 (0))
theorem laws_eqPostS.f_eq {β : Type} (k : Nat) (a0 : List (List D)) (a1 : List (List D)) (K0 : List (List C) → List Out → Option β) : ZJ Try.prog (laws_eqPostS.E k) laws_eqPostS.h k Try.f80 (laws_eqPostS.as a0 a1) K0 = laws_eqPostS.g k a0 a1 (laws_eqPostS.kt a0 a1 K0) := Eq.trans (b := (laws_eqPostS.m k a0 a1 K0) (fun (v0_0 : List (List D)) (v0_1 : List (List D)) (v : Int) => Zx (laws_eqPostS.b0 k) (laws_eqPostS.h.H 4) k (laws_eqPostS.s0 v0_0 v0_1 v) (laws_eqPostS.c0 k a0 a1 K0))) (by kernel_rfl) (Eq.trans (congrArg (laws_eqPostS.m k a0 a1 K0) (funext fun v0_0 => funext fun v0_1 => funext fun v => laws_eqPostS.l0_eq k a0 a1 K0 v0_0 v0_1 k v)) (by kernel_rfl))
noncomputable def laws_eqPostS.dec (rs : List (List C)) (os : List Out) : Option (Bool) := Zd rs fun c1 r2 => Zd c1 fun x3 l4 => cD x3 fun d5 => ZaF d5 fun w0 => Ze l4 <| Ze r2 <| Ze os (some w0)
theorem laws_eqPostS.kt_dec (a0 : List (List D)) (a1 : List (List D)) : laws_eqPostS.kt a0 a1 laws_eqPostS.dec = (fun z0 => some z0) := by kernel_rfl
theorem laws_eqPostS.inj (a0 : List (List D)) (a1 : List (List D)) {rs : List (List C)} {os : List Out} {z0 : Bool} (h : laws_eqPostS.dec rs os = some z0) (ho : Zo (laws_eqPostS.as a0 a1) os) : rs = [[.d (.bool z0)]] ∧ os = [] := by
  unfold laws_eqPostS.dec at h
  obtain ⟨c1, r2, rfl, h1⟩ := Zb h
  obtain ⟨x3, l4, rfl, h2⟩ := Zb h1
  obtain ⟨d5, rfl, h3⟩ := Zt h2
  obtain ⟨w0, rfl, h4⟩ := Z0 h3
  obtain ⟨rfl, h5⟩ := Zc h4
  obtain ⟨rfl, h6⟩ := Zc h5
  obtain ⟨rfl, h7⟩ := Zc h6
  obtain rfl := Option.some.inj h7
  exact ⟨rfl, rfl⟩
theorem laws_eqPostS.ok (k : Nat) : Zv Try.prog 80 (laws_eqPostS.e k) := by
  refine Zu mix tyok (fn := Try.f80) (c := Zl Try.f80) Try.func80 (by kernel_rfl) (h := laws_eqPostS.h) (k := k) (E := laws_eqPostS.E k) (Zk (laws_eqPost.ok k) Zz) (by kernel_rfl) (by kernel_rfl) rfl (Zq Try.func80 (by kernel_rfl)) ?_
  intro β l K r hr
  simp only [laws_eqPostS.e] at hr
  split at hr
  case h_2 => cases hr
  unfold laws_eqPostS.f at hr
  split at hr
  case h_2 => cases hr
  rename_i hz
  exact ⟨_, _, hr, _, laws_eqPostS.dec, _, (laws_eqPostS.f_eq k _ _ laws_eqPostS.dec).trans (by rw [laws_eqPostS.kt_dec]; exact hz), fun rs os h ho => laws_eqPostS.inj _ _ h ho⟩
noncomputable def laws_eqHold.g {β : Type} (k : Nat) (a0_0 : Int) (a0_1 : ByteArray) (a0_2 : Int) (a0_3 : Int) (a0_4 : Int) (a1_0 : Int) (a1_1 : ByteArray) (a1_2 : Int) (a1_3 : Int) (a1_4 : Int) (K : Bool → Option β) : Option β :=
  bif ((a0_0 : Int) != a1_0) then (K false) else (bif (!(strEq a0_1 a1_1)) then (K false) else (bif ((a0_2 : Int) != a1_2) then (K false) else (bif ((a0_3 : Int) != a1_3) then (K false) else (bif ((a0_4 : Int) != a1_4) then (K false) else (K true)))))
noncomputable def laws_eqHold.t (k : Nat) (a0_0 : Int) (a0_1 : ByteArray) (a0_2 : Int) (a0_3 : Int) (a0_4 : Int) (a1_0 : Int) (a1_1 : ByteArray) (a1_2 : Int) (a1_3 : Int) (a1_4 : Int) : Option (Bool) := laws_eqHold.g k a0_0 a0_1 a0_2 a0_3 a0_4 a1_0 a1_1 a1_2 a1_3 a1_4 (fun z0 => some z0)
noncomputable def laws_eqHold.f {β : Type} (k : Nat) (a0_0 : Int) (a0_1 : ByteArray) (a0_2 : Int) (a0_3 : Int) (a0_4 : Int) (a1_0 : Int) (a1_1 : ByteArray) (a1_2 : Int) (a1_3 : Int) (a1_4 : Int) (K : Bool → Option β) : Option β :=
  match laws_eqHold.t k a0_0 a0_1 a0_2 a0_3 a0_4 a1_0 a1_1 a1_2 a1_3 a1_4 with
  | some z0 => K z0
  | none => none
noncomputable def laws_eqHold.as (a0_0 : Int) (a0_1 : ByteArray) (a0_2 : Int) (a0_3 : Int) (a0_4 : Int) (a1_0 : Int) (a1_1 : ByteArray) (a1_2 : Int) (a1_3 : Int) (a1_4 : Int) : List A := [.agg [.int .i64 a0_0, .str a0_1, .int .i64 a0_2, .int .i64 a0_3, .int .i64 a0_4], .agg [.int .i64 a1_0, .str a1_1, .int .i64 a1_2, .int .i64 a1_3, .int .i64 a1_4]]
noncomputable def laws_eqHold.kt {β : Type} (a0_0 : Int) (a0_1 : ByteArray) (a0_2 : Int) (a0_3 : Int) (a0_4 : Int) (a1_0 : Int) (a1_1 : ByteArray) (a1_2 : Int) (a1_3 : Int) (a1_4 : Int) (K0 : List (List C) → List Out → Option β) : Bool → Option β := fun z0 => K0 [[.d (.bool z0)]] []
noncomputable def laws_eqHold.e (k : Nat) : ZQ := { modes := [(.imm, 0), (.imm, 0)], rts := [4], al := false, run := fun {β} l K => match l with | [.agg [.int .i64 a0_0, .str a0_1, .int .i64 a0_2, .int .i64 a0_3, .int .i64 a0_4], .agg [.int .i64 a1_0, .str a1_1, .int .i64 a1_2, .int .i64 a1_3, .int .i64 a1_4]] => laws_eqHold.f k a0_0 a0_1 a0_2 a0_3 a0_4 a1_0 a1_1 a1_2 a1_3 a1_4 (laws_eqHold.kt a0_0 a0_1 a0_2 a0_3 a0_4 a1_0 a1_1 a1_2 a1_3 a1_4 K) | _ => none }
noncomputable def laws_eqHold.E (k : Nat) : Env := fun g => none
noncomputable def laws_eqHold.h : ZY := ⟨fun n => ⟨[], []⟩, fun _ => none, false, []⟩
theorem laws_eqHold.f_eq {β : Type} (k : Nat) (a0_0 : Int) (a0_1 : ByteArray) (a0_2 : Int) (a0_3 : Int) (a0_4 : Int) (a1_0 : Int) (a1_1 : ByteArray) (a1_2 : Int) (a1_3 : Int) (a1_4 : Int) (K0 : List (List C) → List Out → Option β) : ZJ Try.prog (laws_eqHold.E k) laws_eqHold.h k Try.f169 (laws_eqHold.as a0_0 a0_1 a0_2 a0_3 a0_4 a1_0 a1_1 a1_2 a1_3 a1_4) K0 = laws_eqHold.g k a0_0 a0_1 a0_2 a0_3 a0_4 a1_0 a1_1 a1_2 a1_3 a1_4 (laws_eqHold.kt a0_0 a0_1 a0_2 a0_3 a0_4 a1_0 a1_1 a1_2 a1_3 a1_4 K0) := by kernel_rfl
noncomputable def laws_eqHold.dec (rs : List (List C)) (os : List Out) : Option (Bool) := Zd rs fun c1 r2 => Zd c1 fun x3 l4 => cD x3 fun d5 => ZaF d5 fun w0 => Ze l4 <| Ze r2 <| Ze os (some w0)
theorem laws_eqHold.kt_dec (a0_0 : Int) (a0_1 : ByteArray) (a0_2 : Int) (a0_3 : Int) (a0_4 : Int) (a1_0 : Int) (a1_1 : ByteArray) (a1_2 : Int) (a1_3 : Int) (a1_4 : Int) : laws_eqHold.kt a0_0 a0_1 a0_2 a0_3 a0_4 a1_0 a1_1 a1_2 a1_3 a1_4 laws_eqHold.dec = (fun z0 => some z0) := by kernel_rfl
theorem laws_eqHold.inj (a0_0 : Int) (a0_1 : ByteArray) (a0_2 : Int) (a0_3 : Int) (a0_4 : Int) (a1_0 : Int) (a1_1 : ByteArray) (a1_2 : Int) (a1_3 : Int) (a1_4 : Int) {rs : List (List C)} {os : List Out} {z0 : Bool} (h : laws_eqHold.dec rs os = some z0) (ho : Zo (laws_eqHold.as a0_0 a0_1 a0_2 a0_3 a0_4 a1_0 a1_1 a1_2 a1_3 a1_4) os) : rs = [[.d (.bool z0)]] ∧ os = [] := by
  unfold laws_eqHold.dec at h
  obtain ⟨c1, r2, rfl, h1⟩ := Zb h
  obtain ⟨x3, l4, rfl, h2⟩ := Zb h1
  obtain ⟨d5, rfl, h3⟩ := Zt h2
  obtain ⟨w0, rfl, h4⟩ := Z0 h3
  obtain ⟨rfl, h5⟩ := Zc h4
  obtain ⟨rfl, h6⟩ := Zc h5
  obtain ⟨rfl, h7⟩ := Zc h6
  obtain rfl := Option.some.inj h7
  exact ⟨rfl, rfl⟩
theorem laws_eqHold.ok (k : Nat) : Zv Try.prog 169 (laws_eqHold.e k) := by
  refine Zu mix tyok (fn := Try.f169) (c := Zl Try.f169) Try.func169 (by kernel_rfl) (h := laws_eqHold.h) (k := k) (E := laws_eqHold.E k) Zz (by kernel_rfl) (by kernel_rfl) rfl (Zq Try.func169 (by kernel_rfl)) ?_
  intro β l K r hr
  simp only [laws_eqHold.e] at hr
  split at hr
  case h_2 => cases hr
  unfold laws_eqHold.f at hr
  split at hr
  case h_2 => cases hr
  rename_i hz
  exact ⟨_, _, hr, _, laws_eqHold.dec, _, (laws_eqHold.f_eq k _ _ _ _ _ _ _ _ _ _ laws_eqHold.dec).trans (by rw [laws_eqHold.kt_dec]; exact hz), fun rs os h ho => laws_eqHold.inj _ _ _ _ _ _ _ _ _ _ h ho⟩
noncomputable def laws_eqHoldS.l0 {β : Type} (k : Nat) (v0_0 : List (List D)) (v0_1 : List (List D)) (K : Bool → Option β) (L0 : Int → Option β) (v : Int) : Option β :=
  match v with
  | v0_2 => bif (decide ((v0_2 : Int) < (v0_0.length : Int))) then (ZX v0_0 v0_2 fun c34 => Zd c34 fun d35 r36 => ZM .i64 d35 fun x37 => Zd r36 fun d38 r39 => Zan d38 fun x40 => Zd r39 fun d41 r42 => ZM .i64 d41 fun x43 => Zd r42 fun d44 r45 => ZM .i64 d44 fun x46 => Zd r45 fun d47 r48 => ZM .i64 d47 fun x49 => Ze r48 (ZX v0_1 v0_2 fun c50 => Zd c50 fun d51 r52 => ZM .i64 d51 fun x53 => Zd r52 fun d54 r55 => Zan d54 fun x56 => Zd r55 fun d57 r58 => ZM .i64 d57 fun x59 => Zd r58 fun d60 r61 => ZM .i64 d60 fun x62 => Zd r61 fun d63 r64 => ZM .i64 d63 fun x65 => Ze r64 (laws_eqHold.f k x37 x40 x43 x46 x49 x53 x56 x59 x62 x65 (fun y66 => bif (!y66) then (K false) else (L0 (IntKind.wrap .i64 (v0_2 + 1))))))) else (K true)
noncomputable def laws_eqHoldS.g {β : Type} (k : Nat) (a0 : List (List D)) (a1 : List (List D)) (K : Bool → Option β) : Option β :=
  bif (((a0.length : Int) : Int) != (a1.length : Int)) then (K false) else (Z4 (laws_eqHoldS.l0 k a0 a1 K) k (0))
noncomputable def laws_eqHoldS.t (k : Nat) (a0 : List (List D)) (a1 : List (List D)) : Option (Bool) := laws_eqHoldS.g k a0 a1 (fun z0 => some z0)
noncomputable def laws_eqHoldS.f {β : Type} (k : Nat) (a0 : List (List D)) (a1 : List (List D)) (K : Bool → Option β) : Option β :=
  match laws_eqHoldS.t k a0 a1 with
  | some z0 => K z0
  | none => none
noncomputable def laws_eqHoldS.as (a0 : List (List D)) (a1 : List (List D)) : List A := [.d (.sl a0), .d (.sl a1)]
noncomputable def laws_eqHoldS.kt {β : Type} (a0 : List (List D)) (a1 : List (List D)) (K0 : List (List C) → List Out → Option β) : Bool → Option β := fun z0 => K0 [[.d (.bool z0)]] []
noncomputable def laws_eqHoldS.e (k : Nat) : ZQ := { modes := [(.imm, 0), (.imm, 0)], rts := [4], al := false, run := fun {β} l K => match l with | [.d (.sl a0), .d (.sl a1)] => laws_eqHoldS.f k a0 a1 (laws_eqHoldS.kt a0 a1 K) | _ => none }
noncomputable def laws_eqHoldS.E (k : Nat) : Env := fun g => bif g == 169 then some (laws_eqHold.e k) else none
noncomputable def laws_eqHoldS.h : ZY := ⟨fun n => bif n == 4 then ⟨[(0, .asis), (1, .asis), (5, .asis)], []⟩ else ⟨[], []⟩, fun _ => none, false, []⟩
noncomputable def laws_eqHoldS.s0 (v0_0 : List (List D)) (v0_1 : List (List D)) (v : Int) : St :=
  match v with
  | v0_2 => ⟨[.d false (.sl v0_0), .d false (.sl v0_1), .any, .any, .any, .d true (.int .i64 v0_2), .any, .any, .any, .any, .any, .any, .any, .any, .any, .any, .any, .any, .any, .any, .any, .any, .any, .any, .any, .any, .any], []⟩
noncomputable def laws_eqHoldS.b0 {β : Type} (k : Nat) : St → (Ex → St → Option β) → Option β := fun s K => den Try.prog (laws_eqHoldS.E k) laws_eqHoldS.h.H laws_eqHoldS.h.J k (Zad [1, 1, 0, 1, 0, 0] (Zl Try.f81)) s K
noncomputable def laws_eqHoldS.c0 {β : Type} (k : Nat) (a0 : List (List D)) (a1 : List (List D)) (K0 : List (List C) → List Out → Option β) : Ex → St → Option β := Zae Try.prog (laws_eqHoldS.E k) laws_eqHoldS.h k [1, 1, 0, 1, 0] (Zl Try.f81) (Zak Try.prog Try.f81 laws_eqHoldS.h (laws_eqHoldS.as a0 a1) K0)
theorem laws_eqHoldS.l0_eq {β : Type} (k : Nat) (a0 : List (List D)) (a1 : List (List D)) (K0 : List (List C) → List Out → Option β) (v0_0 : List (List D)) (v0_1 : List (List D)) : ∀ (kk : Nat) (v : Int), Zx (laws_eqHoldS.b0 k) (laws_eqHoldS.h.H 4) kk (laws_eqHoldS.s0 v0_0 v0_1 v) (laws_eqHoldS.c0 k a0 a1 K0) = Z4 (laws_eqHoldS.l0 k v0_0 v0_1 (laws_eqHoldS.kt a0 a1 K0)) kk v :=
  Z9 (laws_eqHoldS.s0 v0_0 v0_1) _ (fun L0 v => by kernel_rfl)
noncomputable def laws_eqHoldS.m {β : Type} (k : Nat) (a0 : List (List D)) (a1 : List (List D)) (K0 : List (List C) → List Out → Option β) (F : ((List (List D)) → (List (List D)) → Int → Option β)) : Option β :=
  bif (((a0.length : Int) : Int) != (a1.length : Int)) then ((laws_eqHoldS.kt a0 a1 K0) false) else ((F) a0 a1 (0))
theorem laws_eqHoldS.f_eq {β : Type} (k : Nat) (a0 : List (List D)) (a1 : List (List D)) (K0 : List (List C) → List Out → Option β) : ZJ Try.prog (laws_eqHoldS.E k) laws_eqHoldS.h k Try.f81 (laws_eqHoldS.as a0 a1) K0 = laws_eqHoldS.g k a0 a1 (laws_eqHoldS.kt a0 a1 K0) := Eq.trans (b := (laws_eqHoldS.m k a0 a1 K0) (fun (v0_0 : List (List D)) (v0_1 : List (List D)) (v : Int) => Zx (laws_eqHoldS.b0 k) (laws_eqHoldS.h.H 4) k (laws_eqHoldS.s0 v0_0 v0_1 v) (laws_eqHoldS.c0 k a0 a1 K0))) (by kernel_rfl) (Eq.trans (congrArg (laws_eqHoldS.m k a0 a1 K0) (funext fun v0_0 => funext fun v0_1 => funext fun v => laws_eqHoldS.l0_eq k a0 a1 K0 v0_0 v0_1 k v)) (by kernel_rfl))
noncomputable def laws_eqHoldS.dec (rs : List (List C)) (os : List Out) : Option (Bool) := Zd rs fun c1 r2 => Zd c1 fun x3 l4 => cD x3 fun d5 => ZaF d5 fun w0 => Ze l4 <| Ze r2 <| Ze os (some w0)
theorem laws_eqHoldS.kt_dec (a0 : List (List D)) (a1 : List (List D)) : laws_eqHoldS.kt a0 a1 laws_eqHoldS.dec = (fun z0 => some z0) := by kernel_rfl
theorem laws_eqHoldS.inj (a0 : List (List D)) (a1 : List (List D)) {rs : List (List C)} {os : List Out} {z0 : Bool} (h : laws_eqHoldS.dec rs os = some z0) (ho : Zo (laws_eqHoldS.as a0 a1) os) : rs = [[.d (.bool z0)]] ∧ os = [] := by
  unfold laws_eqHoldS.dec at h
  obtain ⟨c1, r2, rfl, h1⟩ := Zb h
  obtain ⟨x3, l4, rfl, h2⟩ := Zb h1
  obtain ⟨d5, rfl, h3⟩ := Zt h2
  obtain ⟨w0, rfl, h4⟩ := Z0 h3
  obtain ⟨rfl, h5⟩ := Zc h4
  obtain ⟨rfl, h6⟩ := Zc h5
  obtain ⟨rfl, h7⟩ := Zc h6
  obtain rfl := Option.some.inj h7
  exact ⟨rfl, rfl⟩
theorem laws_eqHoldS.ok (k : Nat) : Zv Try.prog 81 (laws_eqHoldS.e k) := by
  refine Zu mix tyok (fn := Try.f81) (c := Zl Try.f81) Try.func81 (by kernel_rfl) (h := laws_eqHoldS.h) (k := k) (E := laws_eqHoldS.E k) (Zk (laws_eqHold.ok k) Zz) (by kernel_rfl) (by kernel_rfl) rfl (Zq Try.func81 (by kernel_rfl)) ?_
  intro β l K r hr
  simp only [laws_eqHoldS.e] at hr
  split at hr
  case h_2 => cases hr
  unfold laws_eqHoldS.f at hr
  split at hr
  case h_2 => cases hr
  rename_i hz
  exact ⟨_, _, hr, _, laws_eqHoldS.dec, _, (laws_eqHoldS.f_eq k _ _ laws_eqHoldS.dec).trans (by rw [laws_eqHoldS.kt_dec]; exact hz), fun rs os h ho => laws_eqHoldS.inj _ _ h ho⟩
noncomputable def laws_eqHub.g {β : Type} (k : Nat) (a0_0 : Int) (a0_1 : Int) (a0_2 : Int) (a0_3 : List (List D)) (a0_4 : List (List D)) (a0_5 : List (List D)) (a0_6 : List (List D)) (a1_0 : Int) (a1_1 : Int) (a1_2 : Int) (a1_3 : List (List D)) (a1_4 : List (List D)) (a1_5 : List (List D)) (a1_6 : List (List D)) (K : Bool → Option β) : Option β :=
  bif ((a0_0 : Int) != a1_0) then (K false) else (bif ((a0_1 : Int) != a1_1) then (K false) else (bif ((a0_2 : Int) != a1_2) then (K false) else (laws_eqJobS.f k a0_3 a1_3 (fun y191 => bif (!y191) then (K false) else (laws_eqPostS.f k a0_4 a1_4 (fun y192 => bif (!y192) then (K false) else (laws_eqHoldS.f k a0_5 a1_5 (fun y193 => bif (!y193) then (K false) else (laws_eqStringS.f k a0_6 a1_6 (fun y194 => bif (!y194) then (K false) else (K true)))))))))))
noncomputable def laws_eqHub.t (k : Nat) (a0_0 : Int) (a0_1 : Int) (a0_2 : Int) (a0_3 : List (List D)) (a0_4 : List (List D)) (a0_5 : List (List D)) (a0_6 : List (List D)) (a1_0 : Int) (a1_1 : Int) (a1_2 : Int) (a1_3 : List (List D)) (a1_4 : List (List D)) (a1_5 : List (List D)) (a1_6 : List (List D)) : Option (Bool) := laws_eqHub.g k a0_0 a0_1 a0_2 a0_3 a0_4 a0_5 a0_6 a1_0 a1_1 a1_2 a1_3 a1_4 a1_5 a1_6 (fun z0 => some z0)
noncomputable def laws_eqHub.f {β : Type} (k : Nat) (a0_0 : Int) (a0_1 : Int) (a0_2 : Int) (a0_3 : List (List D)) (a0_4 : List (List D)) (a0_5 : List (List D)) (a0_6 : List (List D)) (a1_0 : Int) (a1_1 : Int) (a1_2 : Int) (a1_3 : List (List D)) (a1_4 : List (List D)) (a1_5 : List (List D)) (a1_6 : List (List D)) (K : Bool → Option β) : Option β :=
  match laws_eqHub.t k a0_0 a0_1 a0_2 a0_3 a0_4 a0_5 a0_6 a1_0 a1_1 a1_2 a1_3 a1_4 a1_5 a1_6 with
  | some z0 => K z0
  | none => none
noncomputable def laws_eqHub.as (a0_0 : Int) (a0_1 : Int) (a0_2 : Int) (a0_3 : List (List D)) (a0_4 : List (List D)) (a0_5 : List (List D)) (a0_6 : List (List D)) (a1_0 : Int) (a1_1 : Int) (a1_2 : Int) (a1_3 : List (List D)) (a1_4 : List (List D)) (a1_5 : List (List D)) (a1_6 : List (List D)) : List A := [.agg [.int .i64 a0_0, .int .i64 a0_1, .int .i64 a0_2, .sl a0_3, .sl a0_4, .sl a0_5, .sl a0_6], .agg [.int .i64 a1_0, .int .i64 a1_1, .int .i64 a1_2, .sl a1_3, .sl a1_4, .sl a1_5, .sl a1_6]]
noncomputable def laws_eqHub.kt {β : Type} (a0_0 : Int) (a0_1 : Int) (a0_2 : Int) (a0_3 : List (List D)) (a0_4 : List (List D)) (a0_5 : List (List D)) (a0_6 : List (List D)) (a1_0 : Int) (a1_1 : Int) (a1_2 : Int) (a1_3 : List (List D)) (a1_4 : List (List D)) (a1_5 : List (List D)) (a1_6 : List (List D)) (K0 : List (List C) → List Out → Option β) : Bool → Option β := fun z0 => K0 [[.d (.bool z0)]] []
noncomputable def laws_eqHub.e (k : Nat) : ZQ := { modes := [(.imm, 0), (.imm, 0)], rts := [4], al := false, run := fun {β} l K => match l with | [.agg [.int .i64 a0_0, .int .i64 a0_1, .int .i64 a0_2, .sl a0_3, .sl a0_4, .sl a0_5, .sl a0_6], .agg [.int .i64 a1_0, .int .i64 a1_1, .int .i64 a1_2, .sl a1_3, .sl a1_4, .sl a1_5, .sl a1_6]] => laws_eqHub.f k a0_0 a0_1 a0_2 a0_3 a0_4 a0_5 a0_6 a1_0 a1_1 a1_2 a1_3 a1_4 a1_5 a1_6 (laws_eqHub.kt a0_0 a0_1 a0_2 a0_3 a0_4 a0_5 a0_6 a1_0 a1_1 a1_2 a1_3 a1_4 a1_5 a1_6 K) | _ => none }
noncomputable def laws_eqHub.E (k : Nat) : Env := fun g => bif g == 79 then some (laws_eqJobS.e k) else bif g == 80 then some (laws_eqPostS.e k) else bif g == 81 then some (laws_eqHoldS.e k) else bif g == 82 then some (laws_eqStringS.e k) else none
noncomputable def laws_eqHub.h : ZY := ⟨fun n => ⟨[], []⟩, fun _ => none, false, []⟩
theorem laws_eqHub.f_eq {β : Type} (k : Nat) (a0_0 : Int) (a0_1 : Int) (a0_2 : Int) (a0_3 : List (List D)) (a0_4 : List (List D)) (a0_5 : List (List D)) (a0_6 : List (List D)) (a1_0 : Int) (a1_1 : Int) (a1_2 : Int) (a1_3 : List (List D)) (a1_4 : List (List D)) (a1_5 : List (List D)) (a1_6 : List (List D)) (K0 : List (List C) → List Out → Option β) : ZJ Try.prog (laws_eqHub.E k) laws_eqHub.h k Try.f19 (laws_eqHub.as a0_0 a0_1 a0_2 a0_3 a0_4 a0_5 a0_6 a1_0 a1_1 a1_2 a1_3 a1_4 a1_5 a1_6) K0 = laws_eqHub.g k a0_0 a0_1 a0_2 a0_3 a0_4 a0_5 a0_6 a1_0 a1_1 a1_2 a1_3 a1_4 a1_5 a1_6 (laws_eqHub.kt a0_0 a0_1 a0_2 a0_3 a0_4 a0_5 a0_6 a1_0 a1_1 a1_2 a1_3 a1_4 a1_5 a1_6 K0) := by kernel_rfl
noncomputable def laws_eqHub.dec (rs : List (List C)) (os : List Out) : Option (Bool) := Zd rs fun c1 r2 => Zd c1 fun x3 l4 => cD x3 fun d5 => ZaF d5 fun w0 => Ze l4 <| Ze r2 <| Ze os (some w0)
theorem laws_eqHub.kt_dec (a0_0 : Int) (a0_1 : Int) (a0_2 : Int) (a0_3 : List (List D)) (a0_4 : List (List D)) (a0_5 : List (List D)) (a0_6 : List (List D)) (a1_0 : Int) (a1_1 : Int) (a1_2 : Int) (a1_3 : List (List D)) (a1_4 : List (List D)) (a1_5 : List (List D)) (a1_6 : List (List D)) : laws_eqHub.kt a0_0 a0_1 a0_2 a0_3 a0_4 a0_5 a0_6 a1_0 a1_1 a1_2 a1_3 a1_4 a1_5 a1_6 laws_eqHub.dec = (fun z0 => some z0) := by kernel_rfl
theorem laws_eqHub.inj (a0_0 : Int) (a0_1 : Int) (a0_2 : Int) (a0_3 : List (List D)) (a0_4 : List (List D)) (a0_5 : List (List D)) (a0_6 : List (List D)) (a1_0 : Int) (a1_1 : Int) (a1_2 : Int) (a1_3 : List (List D)) (a1_4 : List (List D)) (a1_5 : List (List D)) (a1_6 : List (List D)) {rs : List (List C)} {os : List Out} {z0 : Bool} (h : laws_eqHub.dec rs os = some z0) (ho : Zo (laws_eqHub.as a0_0 a0_1 a0_2 a0_3 a0_4 a0_5 a0_6 a1_0 a1_1 a1_2 a1_3 a1_4 a1_5 a1_6) os) : rs = [[.d (.bool z0)]] ∧ os = [] := by
  unfold laws_eqHub.dec at h
  obtain ⟨c1, r2, rfl, h1⟩ := Zb h
  obtain ⟨x3, l4, rfl, h2⟩ := Zb h1
  obtain ⟨d5, rfl, h3⟩ := Zt h2
  obtain ⟨w0, rfl, h4⟩ := Z0 h3
  obtain ⟨rfl, h5⟩ := Zc h4
  obtain ⟨rfl, h6⟩ := Zc h5
  obtain ⟨rfl, h7⟩ := Zc h6
  obtain rfl := Option.some.inj h7
  exact ⟨rfl, rfl⟩
theorem laws_eqHub.ok (k : Nat) : Zv Try.prog 19 (laws_eqHub.e k) := by
  refine Zu mix tyok (fn := Try.f19) (c := Zl Try.f19) Try.func19 (by kernel_rfl) (h := laws_eqHub.h) (k := k) (E := laws_eqHub.E k) (Zk (laws_eqJobS.ok k) (Zk (laws_eqPostS.ok k) (Zk (laws_eqHoldS.ok k) (Zk (laws_eqStringS.ok k) Zz)))) (by kernel_rfl) (by kernel_rfl) rfl (Zq Try.func19 (by kernel_rfl)) ?_
  intro β l K r hr
  simp only [laws_eqHub.e] at hr
  split at hr
  case h_2 => cases hr
  unfold laws_eqHub.f at hr
  split at hr
  case h_2 => cases hr
  rename_i hz
  exact ⟨_, _, hr, _, laws_eqHub.dec, _, (laws_eqHub.f_eq k _ _ _ _ _ _ _ _ _ _ _ _ _ _ laws_eqHub.dec).trans (by rw [laws_eqHub.kt_dec]; exact hz), fun rs os h ho => laws_eqHub.inj _ _ _ _ _ _ _ _ _ _ _ _ _ _ h ho⟩
noncomputable def laws_FnExactRunning.g {β : Type} (k : Nat) (a0_0 : Int) (a0_1 : Int) (a0_2 : Int) (a0_3 : List (List D)) (a0_4 : List (List D)) (a0_5 : List (List D)) (a0_6 : List (List D)) (a1 : Int) (K : Bool → Option β) : Option β :=
  laws_szHub.f k a0_0 a0_1 a0_2 a0_3 a0_4 a0_5 a0_6 1048576 (fun y104 => bif (decide ((y104 : Int) < 0)) then (K true) else (laws_toHub.f k a0_0 a0_1 a0_2 a0_3 a0_4 a0_5 a0_6 (fun y142 y143 y144 y145 y146 y147 y148 => spec_Running.f k y142 y143 y144 (C.immRows y145) (C.immRows y146) (C.immRows y147) (C.immRows y148) a1 (fun y149 => laws_toHub.f k a0_0 a0_1 a0_2 a0_3 a0_4 a0_5 a0_6 (fun y150 y151 y152 y153 y154 y155 y156 => impl_Running.f k y150 y151 y152 (C.immRows y153) (C.immRows y154) (C.immRows y155) (C.immRows y156) a1 (fun y157 => bif ((y157 : Int) != y149) then (K false) else (laws_toHub.f k a0_0 a0_1 a0_2 a0_3 a0_4 a0_5 a0_6 (fun y158 y159 y160 y161 y162 y163 y164 => laws_eqHub.f k y150 y151 y152 (C.immRows y153) (C.immRows y154) (C.immRows y155) (C.immRows y156) y158 y159 y160 (C.immRows y161) (C.immRows y162) (C.immRows y163) (C.immRows y164) (fun y195 => bif (!y195) then (K false) else (K true))))))))))
noncomputable def laws_FnExactRunning.t (k : Nat) (a0_0 : Int) (a0_1 : Int) (a0_2 : Int) (a0_3 : List (List D)) (a0_4 : List (List D)) (a0_5 : List (List D)) (a0_6 : List (List D)) (a1 : Int) : Option (Bool) := laws_FnExactRunning.g k a0_0 a0_1 a0_2 a0_3 a0_4 a0_5 a0_6 a1 (fun z0 => some z0)
noncomputable def laws_FnExactRunning.f {β : Type} (k : Nat) (a0_0 : Int) (a0_1 : Int) (a0_2 : Int) (a0_3 : List (List D)) (a0_4 : List (List D)) (a0_5 : List (List D)) (a0_6 : List (List D)) (a1 : Int) (K : Bool → Option β) : Option β :=
  match laws_FnExactRunning.t k a0_0 a0_1 a0_2 a0_3 a0_4 a0_5 a0_6 a1 with
  | some z0 => K z0
  | none => none
noncomputable def laws_FnExactRunning.as (a0_0 : Int) (a0_1 : Int) (a0_2 : Int) (a0_3 : List (List D)) (a0_4 : List (List D)) (a0_5 : List (List D)) (a0_6 : List (List D)) (a1 : Int) : List A := [.agg [.int .i64 a0_0, .int .i64 a0_1, .int .i64 a0_2, .sl a0_3, .sl a0_4, .sl a0_5, .sl a0_6], .d (.int .i64 a1)]
noncomputable def laws_FnExactRunning.kt {β : Type} (a0_0 : Int) (a0_1 : Int) (a0_2 : Int) (a0_3 : List (List D)) (a0_4 : List (List D)) (a0_5 : List (List D)) (a0_6 : List (List D)) (a1 : Int) (K0 : List (List C) → List Out → Option β) : Bool → Option β := fun z0 => K0 [[.d (.bool z0)]] []
noncomputable def laws_FnExactRunning.e (k : Nat) : ZQ := { modes := [(.imm, 0), (.imm, 0)], rts := [4], al := false, run := fun {β} l K => match l with | [.agg [.int .i64 a0_0, .int .i64 a0_1, .int .i64 a0_2, .sl a0_3, .sl a0_4, .sl a0_5, .sl a0_6], .d (.int .i64 a1)] => laws_FnExactRunning.f k a0_0 a0_1 a0_2 a0_3 a0_4 a0_5 a0_6 a1 (laws_FnExactRunning.kt a0_0 a0_1 a0_2 a0_3 a0_4 a0_5 a0_6 a1 K) | _ => none }
noncomputable def laws_FnExactRunning.E (k : Nat) : Env := fun g => bif g == 15 then some (laws_szHub.e k) else bif g == 17 then some (laws_toHub.e k) else bif g == 16 then some (spec_Running.e k) else bif g == 18 then some (impl_Running.e k) else bif g == 19 then some (laws_eqHub.e k) else none
noncomputable def laws_FnExactRunning.h : ZY := ⟨fun n => ⟨[], []⟩, fun _ => none, false, []⟩
theorem laws_FnExactRunning.f_eq {β : Type} (k : Nat) (a0_0 : Int) (a0_1 : Int) (a0_2 : Int) (a0_3 : List (List D)) (a0_4 : List (List D)) (a0_5 : List (List D)) (a0_6 : List (List D)) (a1 : Int) (K0 : List (List C) → List Out → Option β) : ZJ Try.prog (laws_FnExactRunning.E k) laws_FnExactRunning.h k Try.f3 (laws_FnExactRunning.as a0_0 a0_1 a0_2 a0_3 a0_4 a0_5 a0_6 a1) K0 = laws_FnExactRunning.g k a0_0 a0_1 a0_2 a0_3 a0_4 a0_5 a0_6 a1 (laws_FnExactRunning.kt a0_0 a0_1 a0_2 a0_3 a0_4 a0_5 a0_6 a1 K0) := by kernel_rfl
noncomputable def laws_FnExactRunning.dec (rs : List (List C)) (os : List Out) : Option (Bool) := Zd rs fun c1 r2 => Zd c1 fun x3 l4 => cD x3 fun d5 => ZaF d5 fun w0 => Ze l4 <| Ze r2 <| Ze os (some w0)
theorem laws_FnExactRunning.kt_dec (a0_0 : Int) (a0_1 : Int) (a0_2 : Int) (a0_3 : List (List D)) (a0_4 : List (List D)) (a0_5 : List (List D)) (a0_6 : List (List D)) (a1 : Int) : laws_FnExactRunning.kt a0_0 a0_1 a0_2 a0_3 a0_4 a0_5 a0_6 a1 laws_FnExactRunning.dec = (fun z0 => some z0) := by kernel_rfl
theorem laws_FnExactRunning.inj (a0_0 : Int) (a0_1 : Int) (a0_2 : Int) (a0_3 : List (List D)) (a0_4 : List (List D)) (a0_5 : List (List D)) (a0_6 : List (List D)) (a1 : Int) {rs : List (List C)} {os : List Out} {z0 : Bool} (h : laws_FnExactRunning.dec rs os = some z0) (ho : Zo (laws_FnExactRunning.as a0_0 a0_1 a0_2 a0_3 a0_4 a0_5 a0_6 a1) os) : rs = [[.d (.bool z0)]] ∧ os = [] := by
  unfold laws_FnExactRunning.dec at h
  obtain ⟨c1, r2, rfl, h1⟩ := Zb h
  obtain ⟨x3, l4, rfl, h2⟩ := Zb h1
  obtain ⟨d5, rfl, h3⟩ := Zt h2
  obtain ⟨w0, rfl, h4⟩ := Z0 h3
  obtain ⟨rfl, h5⟩ := Zc h4
  obtain ⟨rfl, h6⟩ := Zc h5
  obtain ⟨rfl, h7⟩ := Zc h6
  obtain rfl := Option.some.inj h7
  exact ⟨rfl, rfl⟩
theorem laws_FnExactRunning.ok (k : Nat) : Zv Try.prog 3 (laws_FnExactRunning.e k) := by
  refine Zu mix tyok (fn := Try.f3) (c := Zl Try.f3) Try.func3 (by kernel_rfl) (h := laws_FnExactRunning.h) (k := k) (E := laws_FnExactRunning.E k) (Zk (laws_szHub.ok k) (Zk (laws_toHub.ok k) (Zk (spec_Running.ok k) (Zk (impl_Running.ok k) (Zk (laws_eqHub.ok k) Zz))))) (by kernel_rfl) (by kernel_rfl) rfl (Zq Try.func3 (by kernel_rfl)) ?_
  intro β l K r hr
  simp only [laws_FnExactRunning.e] at hr
  split at hr
  case h_2 => cases hr
  unfold laws_FnExactRunning.f at hr
  split at hr
  case h_2 => cases hr
  rename_i hz
  exact ⟨_, _, hr, _, laws_FnExactRunning.dec, _, (laws_FnExactRunning.f_eq k _ _ _ _ _ _ _ _ laws_FnExactRunning.dec).trans (by rw [laws_FnExactRunning.kt_dec]; exact hz), fun rs os h ho => laws_FnExactRunning.inj _ _ _ _ _ _ _ _ h ho⟩
end Go.Proofs.Ytljkbknnnpjmgaa
