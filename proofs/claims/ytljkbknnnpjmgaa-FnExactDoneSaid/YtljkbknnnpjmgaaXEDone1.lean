/- Printed: the functions that FnExactDone reaches, read by the evaluator, each with its contract. -/
import Derived.Test.YtljkbknnnpjmgaaXEDone0
import Derived.KernelRfl
set_option linter.unusedVariables false
set_option linter.unusedSimpArgs false
namespace Go.Proofs.Ytljkbknnnpjmgaa
open Go Go.T Go.Proofs
noncomputable def laws_heldItemS.l0 {β : Type} (k : Nat) (v0_0 : List (List D)) (K : Int → Option β) (L0 : (Int × Int) → Option β) (v : Int × Int) : Option β :=
  match v with
  | (v0_1, v0_2) => bif (decide ((v0_2 : Int) < (v0_0.length : Int))) then (ZX v0_0 v0_2 fun c32 => Zd c32 fun d33 r34 => Zan d33 fun x35 => Zd r34 fun d36 r37 => ZM .i64 d36 fun x38 => Zd r37 fun d39 r40 => ZM .i64 d39 fun x41 => Ze r40 (laws_markText.f k v0_1 (fun y42 => bif (!(strEq x35 y42)) then (K (-1)) else (ZX v0_0 v0_2 fun c43 => Zd c43 fun d44 r45 => Zan d44 fun x46 => Zd r45 fun d47 r48 => ZM .i64 d47 fun x49 => Zd r48 fun d50 r51 => ZM .i64 d50 fun x52 => Ze r51 (bif ((x49 : Int) != (IntKind.wrap .i64 (v0_1 + 1))) then (K (-1)) else (ZX v0_0 v0_2 fun c53 => Zd c53 fun d54 r55 => Zan d54 fun x56 => Zd r55 fun d57 r58 => ZM .i64 d57 fun x59 => Zd r58 fun d60 r61 => ZM .i64 d60 fun x62 => Ze r61 (bif ((x62 : Int) != (IntKind.wrap .i64 ((IntKind.wrap .i64 (v0_1 + 1)) + 1))) then (K (-1)) else (L0 (IntKind.wrap .i64 ((IntKind.wrap .i64 ((IntKind.wrap .i64 (v0_1 + 1)) + 1)) + 1), IntKind.wrap .i64 (v0_2 + 1)))))))))) else (K v0_1)
noncomputable def laws_heldItemS.g {β : Type} (k : Nat) (a0 : List (List D)) (a1 : Int) (K : Int → Option β) : Option β :=
  Z4 (laws_heldItemS.l0 k a0 K) k (a1, 0)
noncomputable def laws_heldItemS.t (k : Nat) (a0 : List (List D)) (a1 : Int) : Option (Int) := laws_heldItemS.g k a0 a1 (fun z0 => some z0)
noncomputable def laws_heldItemS.f {β : Type} (k : Nat) (a0 : List (List D)) (a1 : Int) (K : Int → Option β) : Option β :=
  match laws_heldItemS.t k a0 a1 with
  | some z0 => K z0
  | none => none
noncomputable def laws_heldItemS.as (a0 : List (List D)) (a1 : Int) : List A := [.d (.sl a0), .d (.int .i64 a1)]
noncomputable def laws_heldItemS.kt {β : Type} (a0 : List (List D)) (a1 : Int) (K0 : List (List C) → List Out → Option β) : Int → Option β := fun z0 => K0 [[.d (.int .i64 z0)]] []
noncomputable def laws_heldItemS.e (k : Nat) : ZQ := { modes := [(.imm, 0), (.imm, 0)], rts := [3], al := false, run := fun {β} l K => match l with | [.d (.sl a0), .d (.int .i64 a1)] => laws_heldItemS.f k a0 a1 (laws_heldItemS.kt a0 a1 K) | _ => none }
noncomputable def laws_heldItemS.E (k : Nat) : Env := fun g => bif g == 113 then some (laws_markText.e k) else none
noncomputable def laws_heldItemS.h : ZY := ⟨fun n => bif n == 2 then ⟨[(0, .asis), (1, .dat false), (5, .asis)], []⟩ else ⟨[], []⟩, fun _ => none, false, []⟩
noncomputable def laws_heldItemS.s0 (v0_0 : List (List D)) (v : Int × Int) : St :=
  match v with
  | (v0_1, v0_2) => ⟨[.d false (.sl v0_0), .d false (.int .i64 v0_1), .any, .any, .any, .d true (.int .i64 v0_2), .any, .any, .any, .any, .any, .any, .any, .any, .any, .any, .any, .any, .any, .any, .any, .any, .any, .any, .any, .any, .any, .any, .any, .any, .any, .any, .any, .any, .any, .any, .any, .any, .any, .any, .any], []⟩
noncomputable def laws_heldItemS.b0 {β : Type} (k : Nat) : St → (Ex → St → Option β) → Option β := fun s K => den Try.prog (laws_heldItemS.E k) laws_heldItemS.h.H laws_heldItemS.h.J k (Zad [1, 0, 1, 0, 0] (Zl Try.f92)) s K
noncomputable def laws_heldItemS.c0 {β : Type} (k : Nat) (a0 : List (List D)) (a1 : Int) (K0 : List (List C) → List Out → Option β) : Ex → St → Option β := Zae Try.prog (laws_heldItemS.E k) laws_heldItemS.h k [1, 0, 1, 0] (Zl Try.f92) (Zak Try.prog Try.f92 laws_heldItemS.h (laws_heldItemS.as a0 a1) K0)
theorem laws_heldItemS.l0_eq {β : Type} (k : Nat) (a0 : List (List D)) (a1 : Int) (K0 : List (List C) → List Out → Option β) (v0_0 : List (List D)) : ∀ (kk : Nat) (v : Int × Int), Zx (laws_heldItemS.b0 k) (laws_heldItemS.h.H 2) kk (laws_heldItemS.s0 v0_0 v) (laws_heldItemS.c0 k a0 a1 K0) = Z4 (laws_heldItemS.l0 k v0_0 (laws_heldItemS.kt a0 a1 K0)) kk v :=
  Z9 (laws_heldItemS.s0 v0_0) _ (fun L0 v => by obtain ⟨v0_1, v0_2⟩ := v; kernel_rfl)
noncomputable def laws_heldItemS.m {β : Type} (k : Nat) (a0 : List (List D)) (a1 : Int) (K0 : List (List C) → List Out → Option β) (F : ((List (List D)) → (Int × Int) → Option β)) : Option β :=
  (F) a0 (a1, 0)
theorem laws_heldItemS.f_eq {β : Type} (k : Nat) (a0 : List (List D)) (a1 : Int) (K0 : List (List C) → List Out → Option β) : ZJ Try.prog (laws_heldItemS.E k) laws_heldItemS.h k Try.f92 (laws_heldItemS.as a0 a1) K0 = laws_heldItemS.g k a0 a1 (laws_heldItemS.kt a0 a1 K0) := Eq.trans (b := (laws_heldItemS.m k a0 a1 K0) (fun (v0_0 : List (List D)) (v : Int × Int) => Zx (laws_heldItemS.b0 k) (laws_heldItemS.h.H 2) k (laws_heldItemS.s0 v0_0 v) (laws_heldItemS.c0 k a0 a1 K0))) (by kernel_rfl) (Eq.trans (congrArg (laws_heldItemS.m k a0 a1 K0) (funext fun v0_0 => funext fun v => laws_heldItemS.l0_eq k a0 a1 K0 v0_0 k v)) (by kernel_rfl))
noncomputable def laws_heldItemS.dec (rs : List (List C)) (os : List Out) : Option (Int) := Zd rs fun c1 r2 => Zd c1 fun x3 l4 => cD x3 fun d5 => ZM .i64 d5 fun w0 => Ze l4 <| Ze r2 <| Ze os (some w0)
theorem laws_heldItemS.kt_dec (a0 : List (List D)) (a1 : Int) : laws_heldItemS.kt a0 a1 laws_heldItemS.dec = (fun z0 => some z0) := by kernel_rfl
theorem laws_heldItemS.inj (a0 : List (List D)) (a1 : Int) {rs : List (List C)} {os : List Out} {z0 : Int} (h : laws_heldItemS.dec rs os = some z0) (ho : Zo (laws_heldItemS.as a0 a1) os) : rs = [[.d (.int .i64 z0)]] ∧ os = [] := by
  unfold laws_heldItemS.dec at h
  obtain ⟨c1, r2, rfl, h1⟩ := Zb h
  obtain ⟨x3, l4, rfl, h2⟩ := Zb h1
  obtain ⟨d5, rfl, h3⟩ := Zt h2
  obtain ⟨w0, rfl, h4⟩ := ZA h3
  obtain ⟨rfl, h5⟩ := Zc h4
  obtain ⟨rfl, h6⟩ := Zc h5
  obtain ⟨rfl, h7⟩ := Zc h6
  obtain rfl := Option.some.inj h7
  exact ⟨rfl, rfl⟩
theorem laws_heldItemS.ok (k : Nat) : Zv Try.prog 92 (laws_heldItemS.e k) := by
  refine Zu mix tyok (fn := Try.f92) (c := Zl Try.f92) Try.func92 (by kernel_rfl) (h := laws_heldItemS.h) (k := k) (E := laws_heldItemS.E k) (Zk (laws_markText.ok k) Zz) (by kernel_rfl) (by kernel_rfl) rfl (Zq Try.func92 (by kernel_rfl)) ?_
  intro β l K r hr
  simp only [laws_heldItemS.e] at hr
  split at hr
  case h_2 => cases hr
  unfold laws_heldItemS.f at hr
  split at hr
  case h_2 => cases hr
  rename_i hz
  exact ⟨_, _, hr, _, laws_heldItemS.dec, _, (laws_heldItemS.f_eq k _ _ laws_heldItemS.dec).trans (by rw [laws_heldItemS.kt_dec]; exact hz), fun rs os h ho => laws_heldItemS.inj _ _ h ho⟩
noncomputable def laws_heldStringS.l0 {β : Type} (k : Nat) (v0_0 : List (List D)) (K : Int → Option β) (L0 : (Int × Int) → Option β) (v : Int × Int) : Option β :=
  match v with
  | (v0_1, v0_2) => bif (decide ((v0_2 : Int) < (v0_0.length : Int))) then (ZX v0_0 v0_2 fun c6 => Zd c6 fun d7 r8 => Zan d7 fun x9 => Ze r8 (laws_markText.f k v0_1 (fun y10 => bif (!(strEq x9 y10)) then (K (-1)) else (L0 (IntKind.wrap .i64 (v0_1 + 1), IntKind.wrap .i64 (v0_2 + 1)))))) else (K v0_1)
noncomputable def laws_heldStringS.g {β : Type} (k : Nat) (a0 : List (List D)) (a1 : Int) (K : Int → Option β) : Option β :=
  Z4 (laws_heldStringS.l0 k a0 K) k (a1, 0)
noncomputable def laws_heldStringS.t (k : Nat) (a0 : List (List D)) (a1 : Int) : Option (Int) := laws_heldStringS.g k a0 a1 (fun z0 => some z0)
noncomputable def laws_heldStringS.f {β : Type} (k : Nat) (a0 : List (List D)) (a1 : Int) (K : Int → Option β) : Option β :=
  match laws_heldStringS.t k a0 a1 with
  | some z0 => K z0
  | none => none
noncomputable def laws_heldStringS.as (a0 : List (List D)) (a1 : Int) : List A := [.d (.sl a0), .d (.int .i64 a1)]
noncomputable def laws_heldStringS.kt {β : Type} (a0 : List (List D)) (a1 : Int) (K0 : List (List C) → List Out → Option β) : Int → Option β := fun z0 => K0 [[.d (.int .i64 z0)]] []
noncomputable def laws_heldStringS.e (k : Nat) : ZQ := { modes := [(.imm, 0), (.imm, 0)], rts := [3], al := false, run := fun {β} l K => match l with | [.d (.sl a0), .d (.int .i64 a1)] => laws_heldStringS.f k a0 a1 (laws_heldStringS.kt a0 a1 K) | _ => none }
noncomputable def laws_heldStringS.E (k : Nat) : Env := fun g => bif g == 113 then some (laws_markText.e k) else none
noncomputable def laws_heldStringS.h : ZY := ⟨fun n => bif n == 2 then ⟨[(0, .asis), (1, .dat false), (5, .asis)], []⟩ else ⟨[], []⟩, fun _ => none, false, []⟩
noncomputable def laws_heldStringS.s0 (v0_0 : List (List D)) (v : Int × Int) : St :=
  match v with
  | (v0_1, v0_2) => ⟨[.d false (.sl v0_0), .d false (.int .i64 v0_1), .any, .any, .any, .d true (.int .i64 v0_2), .any, .any, .any, .any, .any, .any, .any, .any, .any, .any, .any, .any, .any, .any, .any, .any], []⟩
noncomputable def laws_heldStringS.b0 {β : Type} (k : Nat) : St → (Ex → St → Option β) → Option β := fun s K => den Try.prog (laws_heldStringS.E k) laws_heldStringS.h.H laws_heldStringS.h.J k (Zad [1, 0, 1, 0, 0] (Zl Try.f93)) s K
noncomputable def laws_heldStringS.c0 {β : Type} (k : Nat) (a0 : List (List D)) (a1 : Int) (K0 : List (List C) → List Out → Option β) : Ex → St → Option β := Zae Try.prog (laws_heldStringS.E k) laws_heldStringS.h k [1, 0, 1, 0] (Zl Try.f93) (Zak Try.prog Try.f93 laws_heldStringS.h (laws_heldStringS.as a0 a1) K0)
theorem laws_heldStringS.l0_eq {β : Type} (k : Nat) (a0 : List (List D)) (a1 : Int) (K0 : List (List C) → List Out → Option β) (v0_0 : List (List D)) : ∀ (kk : Nat) (v : Int × Int), Zx (laws_heldStringS.b0 k) (laws_heldStringS.h.H 2) kk (laws_heldStringS.s0 v0_0 v) (laws_heldStringS.c0 k a0 a1 K0) = Z4 (laws_heldStringS.l0 k v0_0 (laws_heldStringS.kt a0 a1 K0)) kk v :=
  Z9 (laws_heldStringS.s0 v0_0) _ (fun L0 v => by obtain ⟨v0_1, v0_2⟩ := v; kernel_rfl)
noncomputable def laws_heldStringS.m {β : Type} (k : Nat) (a0 : List (List D)) (a1 : Int) (K0 : List (List C) → List Out → Option β) (F : ((List (List D)) → (Int × Int) → Option β)) : Option β :=
  (F) a0 (a1, 0)
theorem laws_heldStringS.f_eq {β : Type} (k : Nat) (a0 : List (List D)) (a1 : Int) (K0 : List (List C) → List Out → Option β) : ZJ Try.prog (laws_heldStringS.E k) laws_heldStringS.h k Try.f93 (laws_heldStringS.as a0 a1) K0 = laws_heldStringS.g k a0 a1 (laws_heldStringS.kt a0 a1 K0) := Eq.trans (b := (laws_heldStringS.m k a0 a1 K0) (fun (v0_0 : List (List D)) (v : Int × Int) => Zx (laws_heldStringS.b0 k) (laws_heldStringS.h.H 2) k (laws_heldStringS.s0 v0_0 v) (laws_heldStringS.c0 k a0 a1 K0))) (by kernel_rfl) (Eq.trans (congrArg (laws_heldStringS.m k a0 a1 K0) (funext fun v0_0 => funext fun v => laws_heldStringS.l0_eq k a0 a1 K0 v0_0 k v)) (by kernel_rfl))
noncomputable def laws_heldStringS.dec (rs : List (List C)) (os : List Out) : Option (Int) := Zd rs fun c1 r2 => Zd c1 fun x3 l4 => cD x3 fun d5 => ZM .i64 d5 fun w0 => Ze l4 <| Ze r2 <| Ze os (some w0)
theorem laws_heldStringS.kt_dec (a0 : List (List D)) (a1 : Int) : laws_heldStringS.kt a0 a1 laws_heldStringS.dec = (fun z0 => some z0) := by kernel_rfl
theorem laws_heldStringS.inj (a0 : List (List D)) (a1 : Int) {rs : List (List C)} {os : List Out} {z0 : Int} (h : laws_heldStringS.dec rs os = some z0) (ho : Zo (laws_heldStringS.as a0 a1) os) : rs = [[.d (.int .i64 z0)]] ∧ os = [] := by
  unfold laws_heldStringS.dec at h
  obtain ⟨c1, r2, rfl, h1⟩ := Zb h
  obtain ⟨x3, l4, rfl, h2⟩ := Zb h1
  obtain ⟨d5, rfl, h3⟩ := Zt h2
  obtain ⟨w0, rfl, h4⟩ := ZA h3
  obtain ⟨rfl, h5⟩ := Zc h4
  obtain ⟨rfl, h6⟩ := Zc h5
  obtain ⟨rfl, h7⟩ := Zc h6
  obtain rfl := Option.some.inj h7
  exact ⟨rfl, rfl⟩
theorem laws_heldStringS.ok (k : Nat) : Zv Try.prog 93 (laws_heldStringS.e k) := by
  refine Zu mix tyok (fn := Try.f93) (c := Zl Try.f93) Try.func93 (by kernel_rfl) (h := laws_heldStringS.h) (k := k) (E := laws_heldStringS.E k) (Zk (laws_markText.ok k) Zz) (by kernel_rfl) (by kernel_rfl) rfl (Zq Try.func93 (by kernel_rfl)) ?_
  intro β l K r hr
  simp only [laws_heldStringS.e] at hr
  split at hr
  case h_2 => cases hr
  unfold laws_heldStringS.f at hr
  split at hr
  case h_2 => cases hr
  rename_i hz
  exact ⟨_, _, hr, _, laws_heldStringS.dec, _, (laws_heldStringS.f_eq k _ _ laws_heldStringS.dec).trans (by rw [laws_heldStringS.kt_dec]; exact hz), fun rs os h ho => laws_heldStringS.inj _ _ h ho⟩
noncomputable def laws_heldQueue.g {β : Type} (k : Nat) (a0_0 : List (List D)) (a0_1 : List (List D)) (a0_2 : List (List D)) (a0_3 : Int) (a1 : Int) (K : Int → Option β) : Option β :=
  laws_heldItemS.f k a0_0 a1 (fun y63 => bif (decide ((y63 : Int) < 0)) then (K (-1)) else (laws_heldItemS.f k a0_1 y63 (fun y64 => bif (decide ((y64 : Int) < 0)) then (K (-1)) else (laws_heldStringS.f k a0_2 y64 (fun y65 => bif (decide ((y65 : Int) < 0)) then (K (-1)) else (K y65))))))
noncomputable def laws_heldQueue.t (k : Nat) (a0_0 : List (List D)) (a0_1 : List (List D)) (a0_2 : List (List D)) (a0_3 : Int) (a1 : Int) : Option (Int) := laws_heldQueue.g k a0_0 a0_1 a0_2 a0_3 a1 (fun z0 => some z0)
noncomputable def laws_heldQueue.f {β : Type} (k : Nat) (a0_0 : List (List D)) (a0_1 : List (List D)) (a0_2 : List (List D)) (a0_3 : Int) (a1 : Int) (K : Int → Option β) : Option β :=
  match laws_heldQueue.t k a0_0 a0_1 a0_2 a0_3 a1 with
  | some z0 => K z0
  | none => none
noncomputable def laws_heldQueue.as (a0_0 : List (List D)) (a0_1 : List (List D)) (a0_2 : List (List D)) (a0_3 : Int) (a1 : Int) : List A := [.agg [.sl a0_0, .sl a0_1, .sl a0_2, .int .i64 a0_3], .d (.int .i64 a1)]
noncomputable def laws_heldQueue.kt {β : Type} (a0_0 : List (List D)) (a0_1 : List (List D)) (a0_2 : List (List D)) (a0_3 : Int) (a1 : Int) (K0 : List (List C) → List Out → Option β) : Int → Option β := fun z0 => K0 [[.d (.int .i64 z0)]] []
noncomputable def laws_heldQueue.e (k : Nat) : ZQ := { modes := [(.imm, 0), (.imm, 0)], rts := [3], al := false, run := fun {β} l K => match l with | [.agg [.sl a0_0, .sl a0_1, .sl a0_2, .int .i64 a0_3], .d (.int .i64 a1)] => laws_heldQueue.f k a0_0 a0_1 a0_2 a0_3 a1 (laws_heldQueue.kt a0_0 a0_1 a0_2 a0_3 a1 K) | _ => none }
noncomputable def laws_heldQueue.E (k : Nat) : Env := fun g => bif g == 92 then some (laws_heldItemS.e k) else bif g == 93 then some (laws_heldStringS.e k) else none
noncomputable def laws_heldQueue.h : ZY := ⟨fun n => ⟨[], []⟩, fun _ => none, false, []⟩
theorem laws_heldQueue.f_eq {β : Type} (k : Nat) (a0_0 : List (List D)) (a0_1 : List (List D)) (a0_2 : List (List D)) (a0_3 : Int) (a1 : Int) (K0 : List (List C) → List Out → Option β) : ZJ Try.prog (laws_heldQueue.E k) laws_heldQueue.h k Try.f26 (laws_heldQueue.as a0_0 a0_1 a0_2 a0_3 a1) K0 = laws_heldQueue.g k a0_0 a0_1 a0_2 a0_3 a1 (laws_heldQueue.kt a0_0 a0_1 a0_2 a0_3 a1 K0) := by kernel_rfl
noncomputable def laws_heldQueue.dec (rs : List (List C)) (os : List Out) : Option (Int) := Zd rs fun c1 r2 => Zd c1 fun x3 l4 => cD x3 fun d5 => ZM .i64 d5 fun w0 => Ze l4 <| Ze r2 <| Ze os (some w0)
theorem laws_heldQueue.kt_dec (a0_0 : List (List D)) (a0_1 : List (List D)) (a0_2 : List (List D)) (a0_3 : Int) (a1 : Int) : laws_heldQueue.kt a0_0 a0_1 a0_2 a0_3 a1 laws_heldQueue.dec = (fun z0 => some z0) := by kernel_rfl
theorem laws_heldQueue.inj (a0_0 : List (List D)) (a0_1 : List (List D)) (a0_2 : List (List D)) (a0_3 : Int) (a1 : Int) {rs : List (List C)} {os : List Out} {z0 : Int} (h : laws_heldQueue.dec rs os = some z0) (ho : Zo (laws_heldQueue.as a0_0 a0_1 a0_2 a0_3 a1) os) : rs = [[.d (.int .i64 z0)]] ∧ os = [] := by
  unfold laws_heldQueue.dec at h
  obtain ⟨c1, r2, rfl, h1⟩ := Zb h
  obtain ⟨x3, l4, rfl, h2⟩ := Zb h1
  obtain ⟨d5, rfl, h3⟩ := Zt h2
  obtain ⟨w0, rfl, h4⟩ := ZA h3
  obtain ⟨rfl, h5⟩ := Zc h4
  obtain ⟨rfl, h6⟩ := Zc h5
  obtain ⟨rfl, h7⟩ := Zc h6
  obtain rfl := Option.some.inj h7
  exact ⟨rfl, rfl⟩
theorem laws_heldQueue.ok (k : Nat) : Zv Try.prog 26 (laws_heldQueue.e k) := by
  refine Zu mix tyok (fn := Try.f26) (c := Zl Try.f26) Try.func26 (by kernel_rfl) (h := laws_heldQueue.h) (k := k) (E := laws_heldQueue.E k) (Zk (laws_heldItemS.ok k) (Zk (laws_heldStringS.ok k) Zz)) (by kernel_rfl) (by kernel_rfl) rfl (Zq Try.func26 (by kernel_rfl)) ?_
  intro β l K r hr
  simp only [laws_heldQueue.e] at hr
  split at hr
  case h_2 => cases hr
  unfold laws_heldQueue.f at hr
  split at hr
  case h_2 => cases hr
  rename_i hz
  exact ⟨_, _, hr, _, laws_heldQueue.dec, _, (laws_heldQueue.f_eq k _ _ _ _ _ laws_heldQueue.dec).trans (by rw [laws_heldQueue.kt_dec]; exact hz), fun rs os h ho => laws_heldQueue.inj _ _ _ _ _ h ho⟩
noncomputable def laws_FnExactDone.g {β : Type} (k : Nat) (a0_0 : List (List D)) (a0_1 : List (List D)) (a0_2 : List (List D)) (a0_3 : Int) (a1 : ByteArray) (a2 : Bool) (K : Bool → Option β) : Option β :=
  bif (decide (((a1.size : Int) : Int) > 1048576)) then (K true) else (laws_szQueue.f k a0_0 a0_1 a0_2 a0_3 1048576 (fun y26 => bif (decide ((y26 : Int) < 0)) then (K true) else (laws_toQueue.f k a0_0 a0_1 a0_2 a0_3 (fun y30 y31 y32 y33 => spec_Done.f k (C.immRows y30) (C.immRows y31) (C.immRows y32) y33 a1 a2 (fun y163 y164 y165 y166 y167 => laws_toQueue.f k a0_0 a0_1 a0_2 a0_3 (fun y168 y169 y170 y171 => impl_Done.f k (C.immRows y168) (C.immRows y169) (C.immRows y170) y171 a1 a2 (fun y172 y173 y174 y175 y176 => laws_eqQueue.f k (C.immRows y172) (C.immRows y173) (C.immRows y174) y175 (C.immRows y163) (C.immRows y164) (C.immRows y165) y166 (fun y177 => bif (!y177) then (K false) else (bif (!(y176 == y167)) then (K false) else (laws_toQueue.f k a0_0 a0_1 a0_2 a0_3 (fun y178 y179 y180 y181 => laws_eqQueue.f k (C.immRows y168) (C.immRows y169) (C.immRows y170) y171 (C.immRows y178) (C.immRows y179) (C.immRows y180) y181 (fun y182 => bif (!y182) then (K false) else (laws_markQueue.f k y168 y169 y170 y171 1 (fun y183 y184 y185 y186 => ZH (y184.length = y168.length) (ZH (y185.length = y169.length) (ZH (y186.length = y170.length) (bif (decide ((y183 : Int) < 0)) then (K false) else (laws_eqQueue.f k (C.immRows y172) (C.immRows y173) (C.immRows y174) y175 (C.immRows y163) (C.immRows y164) (C.immRows y165) y166 (fun y187 => bif (!y187) then (K false) else (bif (!(y176 == y167)) then (K false) else (laws_markQueue.f k y172 y173 y174 y175 1 (fun y188 y189 y190 y191 => ZH (y189.length = y172.length) (ZH (y190.length = y173.length) (ZH (y191.length = y174.length) (laws_heldQueue.f k (C.immRows y189) (C.immRows y190) (C.immRows y191) y175 1 (fun y192 => bif (decide ((y192 : Int) < 0)) then (K false) else (bif ((y192 : Int) != y188) then (K false) else (laws_toQueue.f k a0_0 a0_1 a0_2 a0_3 (fun y193 y194 y195 y196 => impl_Done.f k (C.immRows y193) (C.immRows y194) (C.immRows y195) y196 a1 a2 (fun y197 y198 y199 y200 y201 => laws_eqQueue.f k (C.immRows y197) (C.immRows y198) (C.immRows y199) y200 (C.immRows y163) (C.immRows y164) (C.immRows y165) y166 (fun y202 => bif (!y202) then (K false) else (bif (!(y201 == y167)) then (K false) else (laws_heldQueue.f k (C.immRows y189) (C.immRows y190) (C.immRows y191) y175 1 (fun y203 => bif (decide ((y203 : Int) < 0)) then (K false) else (bif ((y203 : Int) != y188) then (K false) else (K true))))))))))))))))))))))))))))))))))))
noncomputable def laws_FnExactDone.t (k : Nat) (a0_0 : List (List D)) (a0_1 : List (List D)) (a0_2 : List (List D)) (a0_3 : Int) (a1 : ByteArray) (a2 : Bool) : Option (Bool) := laws_FnExactDone.g k a0_0 a0_1 a0_2 a0_3 a1 a2 (fun z0 => some z0)
noncomputable def laws_FnExactDone.f {β : Type} (k : Nat) (a0_0 : List (List D)) (a0_1 : List (List D)) (a0_2 : List (List D)) (a0_3 : Int) (a1 : ByteArray) (a2 : Bool) (K : Bool → Option β) : Option β :=
  match laws_FnExactDone.t k a0_0 a0_1 a0_2 a0_3 a1 a2 with
  | some z0 => K z0
  | none => none
noncomputable def laws_FnExactDone.as (a0_0 : List (List D)) (a0_1 : List (List D)) (a0_2 : List (List D)) (a0_3 : Int) (a1 : ByteArray) (a2 : Bool) : List A := [.agg [.sl a0_0, .sl a0_1, .sl a0_2, .int .i64 a0_3], .d (.str a1), .d (.bool a2)]
noncomputable def laws_FnExactDone.kt {β : Type} (a0_0 : List (List D)) (a0_1 : List (List D)) (a0_2 : List (List D)) (a0_3 : Int) (a1 : ByteArray) (a2 : Bool) (K0 : List (List C) → List Out → Option β) : Bool → Option β := fun z0 => K0 [[.d (.bool z0)]] []
noncomputable def laws_FnExactDone.e (k : Nat) : ZQ := { modes := [(.imm, 0), (.imm, 0), (.imm, 0)], rts := [4], al := false, run := fun {β} l K => match l with | [.agg [.sl a0_0, .sl a0_1, .sl a0_2, .int .i64 a0_3], .d (.str a1), .d (.bool a2)] => laws_FnExactDone.f k a0_0 a0_1 a0_2 a0_3 a1 a2 (laws_FnExactDone.kt a0_0 a0_1 a0_2 a0_3 a1 a2 K) | _ => none }
noncomputable def laws_FnExactDone.E (k : Nat) : Env := fun g => bif g == 20 then some (laws_szQueue.e k) else bif g == 22 then some (laws_toQueue.e k) else bif g == 42 then some (spec_Done.e k) else bif g == 43 then some (impl_Done.e k) else bif g == 24 then some (laws_eqQueue.e k) else bif g == 25 then some (laws_markQueue.e k) else bif g == 26 then some (laws_heldQueue.e k) else none
noncomputable def laws_FnExactDone.h : ZY := ⟨fun n => ⟨[], []⟩, fun _ => none, false, []⟩
theorem laws_FnExactDone.f_eq {β : Type} (k : Nat) (a0_0 : List (List D)) (a0_1 : List (List D)) (a0_2 : List (List D)) (a0_3 : Int) (a1 : ByteArray) (a2 : Bool) (K0 : List (List C) → List Out → Option β) : ZJ Try.prog (laws_FnExactDone.E k) laws_FnExactDone.h k Try.f8 (laws_FnExactDone.as a0_0 a0_1 a0_2 a0_3 a1 a2) K0 = laws_FnExactDone.g k a0_0 a0_1 a0_2 a0_3 a1 a2 (laws_FnExactDone.kt a0_0 a0_1 a0_2 a0_3 a1 a2 K0) := by kernel_rfl
noncomputable def laws_FnExactDone.dec (rs : List (List C)) (os : List Out) : Option (Bool) := Zd rs fun c1 r2 => Zd c1 fun x3 l4 => cD x3 fun d5 => ZaF d5 fun w0 => Ze l4 <| Ze r2 <| Ze os (some w0)
theorem laws_FnExactDone.kt_dec (a0_0 : List (List D)) (a0_1 : List (List D)) (a0_2 : List (List D)) (a0_3 : Int) (a1 : ByteArray) (a2 : Bool) : laws_FnExactDone.kt a0_0 a0_1 a0_2 a0_3 a1 a2 laws_FnExactDone.dec = (fun z0 => some z0) := by kernel_rfl
theorem laws_FnExactDone.inj (a0_0 : List (List D)) (a0_1 : List (List D)) (a0_2 : List (List D)) (a0_3 : Int) (a1 : ByteArray) (a2 : Bool) {rs : List (List C)} {os : List Out} {z0 : Bool} (h : laws_FnExactDone.dec rs os = some z0) (ho : Zo (laws_FnExactDone.as a0_0 a0_1 a0_2 a0_3 a1 a2) os) : rs = [[.d (.bool z0)]] ∧ os = [] := by
  unfold laws_FnExactDone.dec at h
  obtain ⟨c1, r2, rfl, h1⟩ := Zb h
  obtain ⟨x3, l4, rfl, h2⟩ := Zb h1
  obtain ⟨d5, rfl, h3⟩ := Zt h2
  obtain ⟨w0, rfl, h4⟩ := Z0 h3
  obtain ⟨rfl, h5⟩ := Zc h4
  obtain ⟨rfl, h6⟩ := Zc h5
  obtain ⟨rfl, h7⟩ := Zc h6
  obtain rfl := Option.some.inj h7
  exact ⟨rfl, rfl⟩
theorem laws_FnExactDone.ok (k : Nat) : Zv Try.prog 8 (laws_FnExactDone.e k) := by
  refine Zu mix tyok (fn := Try.f8) (c := Zl Try.f8) Try.func8 (by kernel_rfl) (h := laws_FnExactDone.h) (k := k) (E := laws_FnExactDone.E k) (Zk (laws_szQueue.ok k) (Zk (laws_toQueue.ok k) (Zk (spec_Done.ok k) (Zk (impl_Done.ok k) (Zk (laws_eqQueue.ok k) (Zk (laws_markQueue.ok k) (Zk (laws_heldQueue.ok k) Zz))))))) (by kernel_rfl) (by kernel_rfl) rfl (Zq Try.func8 (by kernel_rfl)) ?_
  intro β l K r hr
  simp only [laws_FnExactDone.e] at hr
  split at hr
  case h_2 => cases hr
  unfold laws_FnExactDone.f at hr
  split at hr
  case h_2 => cases hr
  rename_i hz
  exact ⟨_, _, hr, _, laws_FnExactDone.dec, _, (laws_FnExactDone.f_eq k _ _ _ _ _ _ laws_FnExactDone.dec).trans (by rw [laws_FnExactDone.kt_dec]; exact hz), fun rs os h ho => laws_FnExactDone.inj _ _ _ _ _ _ h ho⟩
end Go.Proofs.Ytljkbknnnpjmgaa
