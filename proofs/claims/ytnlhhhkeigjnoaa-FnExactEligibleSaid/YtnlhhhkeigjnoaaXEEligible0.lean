/- Printed: the functions that FnExactEligible reaches, read by the evaluator, each with its contract. -/
import Derived.Test.YtnlhhhkeigjnoaaTVal
import Derived.Test.YtnlhhhkeigjnoaaProg
import Derived.KernelRfl
set_option linter.unusedVariables false
set_option linter.unusedSimpArgs false
namespace Go.Proofs.Ytnlhhhkeigjnoaa
open Go Go.T Go.Proofs
theorem mix : Try.prog.follows .mixedOrders = true := by kernel_rfl
theorem tyok : TyOk Try.prog := tyOk_of (by kernel_rfl)
/-! ### loop.example/g00119/laws.szStringS: function 65 -/
noncomputable def laws_szStringS.l0 {β : Type} (k : Nat) (v0_0 : List (List D)) (K : Int → Option β) (L0 : (Int × Int) → Option β) (v : Int × Int) : Option β :=
  match v with
  | (v0_1, v0_2) => bif (decide ((v0_2 : Int) < (v0_0.length : Int))) then (atRow v0_0 v0_2 fun c5 => uncons c5 fun d6 r7 => dStr d6 fun x8 => atEnd r7 (bif (decide (((IntKind.wrap .i64 (v0_1 - (x8.size : Int))) : Int) < 0)) then (K (-1)) else (L0 (IntKind.wrap .i64 (v0_1 - (x8.size : Int)), IntKind.wrap .i64 (v0_2 + 1))))) else (K v0_1)
noncomputable def laws_szStringS.g {β : Type} (k : Nat) (a0 : List (List D)) (a1 : Int) (K : Int → Option β) : Option β :=
  bif (decide (((IntKind.wrap .i64 (a1 - (a0.length : Int))) : Int) < 0)) then (K (-1)) else (iter (laws_szStringS.l0 k a0 K) k (IntKind.wrap .i64 (a1 - (a0.length : Int)), 0))
noncomputable def laws_szStringS.t (k : Nat) (a0 : List (List D)) (a1 : Int) : Option (Int) := laws_szStringS.g k a0 a1 (fun z0 => some z0)
noncomputable def laws_szStringS.f {β : Type} (k : Nat) (a0 : List (List D)) (a1 : Int) (K : Int → Option β) : Option β :=
  match laws_szStringS.t k a0 a1 with
  | some z0 => K z0
  | none => none
noncomputable def laws_szStringS.as (a0 : List (List D)) (a1 : Int) : List A := [.d (.sl a0), .d (.int .i64 a1)]
noncomputable def laws_szStringS.kt {β : Type} (a0 : List (List D)) (a1 : Int) (K0 : List (List C) → List Out → Option β) : Int → Option β := fun z0 => K0 [[.d (.int .i64 z0)]] []
noncomputable def laws_szStringS.e (k : Nat) : Entry := { modes := [(.imm, 0), (.imm, 0)], rts := [3], al := false, run := fun {β} l K => match l with | [.d (.sl a0), .d (.int .i64 a1)] => laws_szStringS.f k a0 a1 (laws_szStringS.kt a0 a1 K) | _ => none }
noncomputable def laws_szStringS.E (k : Nat) : Env := fun g => none
noncomputable def laws_szStringS.h : Hints := ⟨fun n => bif n == 5 then ⟨[(0, .asis), (1, .asis), (5, .asis)], []⟩ else ⟨[], []⟩, fun _ => none, false, []⟩
noncomputable def laws_szStringS.s0 (v0_0 : List (List D)) (v : Int × Int) : St :=
  match v with
  | (v0_1, v0_2) => ⟨[.d false (.sl v0_0), .d true (.int .i64 v0_1), .any, .any, .any, .d true (.int .i64 v0_2), .any, .any, .any, .any, .any, .any, .any, .any, .any, .any, .any, .any, .any, .any, .any, .any, .any, .any, .any, .any, .any, .any], []⟩
noncomputable def laws_szStringS.b0 {β : Type} (k : Nat) : St → (Ex → St → Option β) → Option β := fun s K => den Try.prog (laws_szStringS.E k) laws_szStringS.h.H laws_szStringS.h.J k (codeAt [1, 1, 1, 0, 1, 0, 0] (codeOf Try.f65)) s K
noncomputable def laws_szStringS.c0 {β : Type} (k : Nat) (a0 : List (List D)) (a1 : Int) (K0 : List (List C) → List Out → Option β) : Ex → St → Option β := contAt Try.prog (laws_szStringS.E k) laws_szStringS.h k [1, 1, 1, 0, 1, 0] (codeOf Try.f65) (finDen Try.prog Try.f65 laws_szStringS.h (laws_szStringS.as a0 a1) K0)
theorem laws_szStringS.l0_eq {β : Type} (k : Nat) (a0 : List (List D)) (a1 : Int) (K0 : List (List C) → List Out → Option β) (v0_0 : List (List D)) : ∀ (kk : Nat) (v : Int × Int), loopDen (laws_szStringS.b0 k) (laws_szStringS.h.H 5) kk (laws_szStringS.s0 v0_0 v) (laws_szStringS.c0 k a0 a1 K0) = iter (laws_szStringS.l0 k v0_0 (laws_szStringS.kt a0 a1 K0)) kk v :=
  loop_eq (laws_szStringS.s0 v0_0) _ (fun L0 v => by obtain ⟨v0_1, v0_2⟩ := v; kernel_rfl)
noncomputable def laws_szStringS.m {β : Type} (k : Nat) (a0 : List (List D)) (a1 : Int) (K0 : List (List C) → List Out → Option β) (F : ((List (List D)) → (Int × Int) → Option β)) : Option β :=
  bif (decide (((IntKind.wrap .i64 (a1 - (a0.length : Int))) : Int) < 0)) then ((laws_szStringS.kt a0 a1 K0) (-1)) else ((F) a0 (IntKind.wrap .i64 (a1 - (a0.length : Int)), 0))
theorem laws_szStringS.f_eq {β : Type} (k : Nat) (a0 : List (List D)) (a1 : Int) (K0 : List (List C) → List Out → Option β) : funDen Try.prog (laws_szStringS.E k) laws_szStringS.h k Try.f65 (laws_szStringS.as a0 a1) K0 = laws_szStringS.g k a0 a1 (laws_szStringS.kt a0 a1 K0) := Eq.trans (b := (laws_szStringS.m k a0 a1 K0) (fun (v0_0 : List (List D)) (v : Int × Int) => loopDen (laws_szStringS.b0 k) (laws_szStringS.h.H 5) k (laws_szStringS.s0 v0_0 v) (laws_szStringS.c0 k a0 a1 K0))) (by kernel_rfl) (Eq.trans (congrArg (laws_szStringS.m k a0 a1 K0) (funext fun v0_0 => funext fun v => laws_szStringS.l0_eq k a0 a1 K0 v0_0 k v)) (by kernel_rfl))
noncomputable def laws_szStringS.dec (rs : List (List C)) (os : List Out) : Option (Int) := uncons rs fun c1 r2 => uncons c1 fun x3 l4 => cD x3 fun d5 => dInt .i64 d5 fun w0 => atEnd l4 <| atEnd r2 <| atEnd os (some w0)
theorem laws_szStringS.kt_dec (a0 : List (List D)) (a1 : Int) : laws_szStringS.kt a0 a1 laws_szStringS.dec = (fun z0 => some z0) := by kernel_rfl
theorem laws_szStringS.inj (a0 : List (List D)) (a1 : Int) {rs : List (List C)} {os : List Out} {z0 : Int} (h : laws_szStringS.dec rs os = some z0) (ho : OutShape (laws_szStringS.as a0 a1) os) : rs = [[.d (.int .i64 z0)]] ∧ os = [] := by
  unfold laws_szStringS.dec at h
  obtain ⟨c1, r2, rfl, h1⟩ := uncons_some h
  obtain ⟨x3, l4, rfl, h2⟩ := uncons_some h1
  obtain ⟨d5, rfl, h3⟩ := cD_some h2
  obtain ⟨w0, rfl, h4⟩ := dInt_some h3
  obtain ⟨rfl, h5⟩ := atEnd_some h4
  obtain ⟨rfl, h6⟩ := atEnd_some h5
  obtain ⟨rfl, h7⟩ := atEnd_some h6
  obtain rfl := Option.some.inj h7
  exact ⟨rfl, rfl⟩
theorem laws_szStringS.ok (k : Nat) : EntryOK Try.prog 65 (laws_szStringS.e k) := by
  refine entry_of mix tyok (fn := Try.f65) (c := codeOf Try.f65) Try.func65 (by kernel_rfl) (h := laws_szStringS.h) (k := k) (E := laws_szStringS.E k) env_nil (by kernel_rfl) (by kernel_rfl) rfl (enter_of Try.func65 (by kernel_rfl)) ?_
  intro β l K r hr
  simp only [laws_szStringS.e] at hr
  split at hr
  case h_2 => cases hr
  unfold laws_szStringS.f at hr
  split at hr
  case h_2 => cases hr
  rename_i hz
  exact ⟨_, _, hr, _, laws_szStringS.dec, _, (laws_szStringS.f_eq k _ _ laws_szStringS.dec).trans (by rw [laws_szStringS.kt_dec]; exact hz), fun rs os h ho => laws_szStringS.inj _ _ h ho⟩
/-! ### loop.example/g00119/laws.szTerm: function 138 -/
noncomputable def laws_szTerm.g {β : Type} (k : Nat) (a0_0 : Int) (a0_1 : ByteArray) (a0_2 : List (List D)) (a1 : Int) (K : Int → Option β) : Option β :=
  bif (decide (((IntKind.wrap .i64 (a1 - (a0_1.size : Int))) : Int) < 0)) then (K (-1)) else (laws_szStringS.f k a0_2 (IntKind.wrap .i64 (a1 - (a0_1.size : Int))) (fun y9 => bif (decide ((y9 : Int) < 0)) then (K (-1)) else (K y9)))
noncomputable def laws_szTerm.t (k : Nat) (a0_0 : Int) (a0_1 : ByteArray) (a0_2 : List (List D)) (a1 : Int) : Option (Int) := laws_szTerm.g k a0_0 a0_1 a0_2 a1 (fun z0 => some z0)
noncomputable def laws_szTerm.f {β : Type} (k : Nat) (a0_0 : Int) (a0_1 : ByteArray) (a0_2 : List (List D)) (a1 : Int) (K : Int → Option β) : Option β :=
  match laws_szTerm.t k a0_0 a0_1 a0_2 a1 with
  | some z0 => K z0
  | none => none
noncomputable def laws_szTerm.as (a0_0 : Int) (a0_1 : ByteArray) (a0_2 : List (List D)) (a1 : Int) : List A := [.agg [.int .i64 a0_0, .str a0_1, .sl a0_2], .d (.int .i64 a1)]
noncomputable def laws_szTerm.kt {β : Type} (a0_0 : Int) (a0_1 : ByteArray) (a0_2 : List (List D)) (a1 : Int) (K0 : List (List C) → List Out → Option β) : Int → Option β := fun z0 => K0 [[.d (.int .i64 z0)]] []
noncomputable def laws_szTerm.e (k : Nat) : Entry := { modes := [(.imm, 0), (.imm, 0)], rts := [3], al := false, run := fun {β} l K => match l with | [.agg [.int .i64 a0_0, .str a0_1, .sl a0_2], .d (.int .i64 a1)] => laws_szTerm.f k a0_0 a0_1 a0_2 a1 (laws_szTerm.kt a0_0 a0_1 a0_2 a1 K) | _ => none }
noncomputable def laws_szTerm.E (k : Nat) : Env := fun g => bif g == 65 then some (laws_szStringS.e k) else none
noncomputable def laws_szTerm.h : Hints := ⟨fun n => ⟨[], []⟩, fun _ => none, false, []⟩
theorem laws_szTerm.f_eq {β : Type} (k : Nat) (a0_0 : Int) (a0_1 : ByteArray) (a0_2 : List (List D)) (a1 : Int) (K0 : List (List C) → List Out → Option β) : funDen Try.prog (laws_szTerm.E k) laws_szTerm.h k Try.f138 (laws_szTerm.as a0_0 a0_1 a0_2 a1) K0 = laws_szTerm.g k a0_0 a0_1 a0_2 a1 (laws_szTerm.kt a0_0 a0_1 a0_2 a1 K0) := by kernel_rfl
noncomputable def laws_szTerm.dec (rs : List (List C)) (os : List Out) : Option (Int) := uncons rs fun c1 r2 => uncons c1 fun x3 l4 => cD x3 fun d5 => dInt .i64 d5 fun w0 => atEnd l4 <| atEnd r2 <| atEnd os (some w0)
theorem laws_szTerm.kt_dec (a0_0 : Int) (a0_1 : ByteArray) (a0_2 : List (List D)) (a1 : Int) : laws_szTerm.kt a0_0 a0_1 a0_2 a1 laws_szTerm.dec = (fun z0 => some z0) := by kernel_rfl
theorem laws_szTerm.inj (a0_0 : Int) (a0_1 : ByteArray) (a0_2 : List (List D)) (a1 : Int) {rs : List (List C)} {os : List Out} {z0 : Int} (h : laws_szTerm.dec rs os = some z0) (ho : OutShape (laws_szTerm.as a0_0 a0_1 a0_2 a1) os) : rs = [[.d (.int .i64 z0)]] ∧ os = [] := by
  unfold laws_szTerm.dec at h
  obtain ⟨c1, r2, rfl, h1⟩ := uncons_some h
  obtain ⟨x3, l4, rfl, h2⟩ := uncons_some h1
  obtain ⟨d5, rfl, h3⟩ := cD_some h2
  obtain ⟨w0, rfl, h4⟩ := dInt_some h3
  obtain ⟨rfl, h5⟩ := atEnd_some h4
  obtain ⟨rfl, h6⟩ := atEnd_some h5
  obtain ⟨rfl, h7⟩ := atEnd_some h6
  obtain rfl := Option.some.inj h7
  exact ⟨rfl, rfl⟩
theorem laws_szTerm.ok (k : Nat) : EntryOK Try.prog 138 (laws_szTerm.e k) := by
  refine entry_of mix tyok (fn := Try.f138) (c := codeOf Try.f138) Try.func138 (by kernel_rfl) (h := laws_szTerm.h) (k := k) (E := laws_szTerm.E k) (env_cons (laws_szStringS.ok k) env_nil) (by kernel_rfl) (by kernel_rfl) rfl (enter_of Try.func138 (by kernel_rfl)) ?_
  intro β l K r hr
  simp only [laws_szTerm.e] at hr
  split at hr
  case h_2 => cases hr
  unfold laws_szTerm.f at hr
  split at hr
  case h_2 => cases hr
  rename_i hz
  exact ⟨_, _, hr, _, laws_szTerm.dec, _, (laws_szTerm.f_eq k _ _ _ _ laws_szTerm.dec).trans (by rw [laws_szTerm.kt_dec]; exact hz), fun rs os h ho => laws_szTerm.inj _ _ _ _ h ho⟩
/-! ### loop.example/g00119/laws.szTermS: function 78 -/
noncomputable def laws_szTermS.l0 {β : Type} (k : Nat) (v0_0 : List (List D)) (K : Int → Option β) (L0 : (Int × Int) → Option β) (v : Int × Int) : Option β :=
  match v with
  | (v0_1, v0_2) => bif (decide ((v0_2 : Int) < (v0_0.length : Int))) then (atRow v0_0 v0_2 fun c12 => uncons c12 fun d13 r14 => dInt .i64 d13 fun x15 => uncons r14 fun d16 r17 => dStr d16 fun x18 => uncons r17 fun d19 r20 => dSl d19 fun x21 => atEnd r20 (laws_szTerm.f k x15 x18 x21 v0_1 (fun y22 => bif (decide ((y22 : Int) < 0)) then (K (-1)) else (L0 (y22, IntKind.wrap .i64 (v0_2 + 1)))))) else (K v0_1)
noncomputable def laws_szTermS.g {β : Type} (k : Nat) (a0 : List (List D)) (a1 : Int) (K : Int → Option β) : Option β :=
  bif (decide (((IntKind.wrap .i64 (a1 - (a0.length : Int))) : Int) < 0)) then (K (-1)) else (iter (laws_szTermS.l0 k a0 K) k (IntKind.wrap .i64 (a1 - (a0.length : Int)), 0))
noncomputable def laws_szTermS.t (k : Nat) (a0 : List (List D)) (a1 : Int) : Option (Int) := laws_szTermS.g k a0 a1 (fun z0 => some z0)
noncomputable def laws_szTermS.f {β : Type} (k : Nat) (a0 : List (List D)) (a1 : Int) (K : Int → Option β) : Option β :=
  match laws_szTermS.t k a0 a1 with
  | some z0 => K z0
  | none => none
noncomputable def laws_szTermS.as (a0 : List (List D)) (a1 : Int) : List A := [.d (.sl a0), .d (.int .i64 a1)]
noncomputable def laws_szTermS.kt {β : Type} (a0 : List (List D)) (a1 : Int) (K0 : List (List C) → List Out → Option β) : Int → Option β := fun z0 => K0 [[.d (.int .i64 z0)]] []
noncomputable def laws_szTermS.e (k : Nat) : Entry := { modes := [(.imm, 0), (.imm, 0)], rts := [3], al := false, run := fun {β} l K => match l with | [.d (.sl a0), .d (.int .i64 a1)] => laws_szTermS.f k a0 a1 (laws_szTermS.kt a0 a1 K) | _ => none }
noncomputable def laws_szTermS.E (k : Nat) : Env := fun g => bif g == 138 then some (laws_szTerm.e k) else none
noncomputable def laws_szTermS.h : Hints := ⟨fun n => bif n == 5 then ⟨[(0, .asis), (1, .asis), (5, .asis)], []⟩ else ⟨[], []⟩, fun _ => none, false, []⟩
noncomputable def laws_szTermS.s0 (v0_0 : List (List D)) (v : Int × Int) : St :=
  match v with
  | (v0_1, v0_2) => ⟨[.d false (.sl v0_0), .d true (.int .i64 v0_1), .any, .any, .any, .d true (.int .i64 v0_2), .any, .any, .any, .any, .any, .any, .any, .any, .any, .any, .any, .any, .any, .any, .any, .any, .any, .any, .any, .any, .any], []⟩
noncomputable def laws_szTermS.b0 {β : Type} (k : Nat) : St → (Ex → St → Option β) → Option β := fun s K => den Try.prog (laws_szTermS.E k) laws_szTermS.h.H laws_szTermS.h.J k (codeAt [1, 1, 1, 0, 1, 0, 0] (codeOf Try.f78)) s K
noncomputable def laws_szTermS.c0 {β : Type} (k : Nat) (a0 : List (List D)) (a1 : Int) (K0 : List (List C) → List Out → Option β) : Ex → St → Option β := contAt Try.prog (laws_szTermS.E k) laws_szTermS.h k [1, 1, 1, 0, 1, 0] (codeOf Try.f78) (finDen Try.prog Try.f78 laws_szTermS.h (laws_szTermS.as a0 a1) K0)
theorem laws_szTermS.l0_eq {β : Type} (k : Nat) (a0 : List (List D)) (a1 : Int) (K0 : List (List C) → List Out → Option β) (v0_0 : List (List D)) : ∀ (kk : Nat) (v : Int × Int), loopDen (laws_szTermS.b0 k) (laws_szTermS.h.H 5) kk (laws_szTermS.s0 v0_0 v) (laws_szTermS.c0 k a0 a1 K0) = iter (laws_szTermS.l0 k v0_0 (laws_szTermS.kt a0 a1 K0)) kk v :=
  loop_eq (laws_szTermS.s0 v0_0) _ (fun L0 v => by obtain ⟨v0_1, v0_2⟩ := v; kernel_rfl)
noncomputable def laws_szTermS.m {β : Type} (k : Nat) (a0 : List (List D)) (a1 : Int) (K0 : List (List C) → List Out → Option β) (F : ((List (List D)) → (Int × Int) → Option β)) : Option β :=
  bif (decide (((IntKind.wrap .i64 (a1 - (a0.length : Int))) : Int) < 0)) then ((laws_szTermS.kt a0 a1 K0) (-1)) else ((F) a0 (IntKind.wrap .i64 (a1 - (a0.length : Int)), 0))
theorem laws_szTermS.f_eq {β : Type} (k : Nat) (a0 : List (List D)) (a1 : Int) (K0 : List (List C) → List Out → Option β) : funDen Try.prog (laws_szTermS.E k) laws_szTermS.h k Try.f78 (laws_szTermS.as a0 a1) K0 = laws_szTermS.g k a0 a1 (laws_szTermS.kt a0 a1 K0) := Eq.trans (b := (laws_szTermS.m k a0 a1 K0) (fun (v0_0 : List (List D)) (v : Int × Int) => loopDen (laws_szTermS.b0 k) (laws_szTermS.h.H 5) k (laws_szTermS.s0 v0_0 v) (laws_szTermS.c0 k a0 a1 K0))) (by kernel_rfl) (Eq.trans (congrArg (laws_szTermS.m k a0 a1 K0) (funext fun v0_0 => funext fun v => laws_szTermS.l0_eq k a0 a1 K0 v0_0 k v)) (by kernel_rfl))
noncomputable def laws_szTermS.dec (rs : List (List C)) (os : List Out) : Option (Int) := uncons rs fun c1 r2 => uncons c1 fun x3 l4 => cD x3 fun d5 => dInt .i64 d5 fun w0 => atEnd l4 <| atEnd r2 <| atEnd os (some w0)
theorem laws_szTermS.kt_dec (a0 : List (List D)) (a1 : Int) : laws_szTermS.kt a0 a1 laws_szTermS.dec = (fun z0 => some z0) := by kernel_rfl
theorem laws_szTermS.inj (a0 : List (List D)) (a1 : Int) {rs : List (List C)} {os : List Out} {z0 : Int} (h : laws_szTermS.dec rs os = some z0) (ho : OutShape (laws_szTermS.as a0 a1) os) : rs = [[.d (.int .i64 z0)]] ∧ os = [] := by
  unfold laws_szTermS.dec at h
  obtain ⟨c1, r2, rfl, h1⟩ := uncons_some h
  obtain ⟨x3, l4, rfl, h2⟩ := uncons_some h1
  obtain ⟨d5, rfl, h3⟩ := cD_some h2
  obtain ⟨w0, rfl, h4⟩ := dInt_some h3
  obtain ⟨rfl, h5⟩ := atEnd_some h4
  obtain ⟨rfl, h6⟩ := atEnd_some h5
  obtain ⟨rfl, h7⟩ := atEnd_some h6
  obtain rfl := Option.some.inj h7
  exact ⟨rfl, rfl⟩
theorem laws_szTermS.ok (k : Nat) : EntryOK Try.prog 78 (laws_szTermS.e k) := by
  refine entry_of mix tyok (fn := Try.f78) (c := codeOf Try.f78) Try.func78 (by kernel_rfl) (h := laws_szTermS.h) (k := k) (E := laws_szTermS.E k) (env_cons (laws_szTerm.ok k) env_nil) (by kernel_rfl) (by kernel_rfl) rfl (enter_of Try.func78 (by kernel_rfl)) ?_
  intro β l K r hr
  simp only [laws_szTermS.e] at hr
  split at hr
  case h_2 => cases hr
  unfold laws_szTermS.f at hr
  split at hr
  case h_2 => cases hr
  rename_i hz
  exact ⟨_, _, hr, _, laws_szTermS.dec, _, (laws_szTermS.f_eq k _ _ laws_szTermS.dec).trans (by rw [laws_szTermS.kt_dec]; exact hz), fun rs os h ho => laws_szTermS.inj _ _ h ho⟩
/-! ### loop.example/g00119/laws.szWeigh: function 139 -/
noncomputable def laws_szWeigh.g {β : Type} (k : Nat) (a0_0 : ByteArray) (a0_1 : Int) (a1 : Int) (K : Int → Option β) : Option β :=
  bif (decide (((IntKind.wrap .i64 (a1 - (a0_0.size : Int))) : Int) < 0)) then (K (-1)) else (K (IntKind.wrap .i64 (a1 - (a0_0.size : Int))))
noncomputable def laws_szWeigh.t (k : Nat) (a0_0 : ByteArray) (a0_1 : Int) (a1 : Int) : Option (Int) := laws_szWeigh.g k a0_0 a0_1 a1 (fun z0 => some z0)
noncomputable def laws_szWeigh.f {β : Type} (k : Nat) (a0_0 : ByteArray) (a0_1 : Int) (a1 : Int) (K : Int → Option β) : Option β :=
  match laws_szWeigh.t k a0_0 a0_1 a1 with
  | some z0 => K z0
  | none => none
noncomputable def laws_szWeigh.as (a0_0 : ByteArray) (a0_1 : Int) (a1 : Int) : List A := [.agg [.str a0_0, .int .i64 a0_1], .d (.int .i64 a1)]
noncomputable def laws_szWeigh.kt {β : Type} (a0_0 : ByteArray) (a0_1 : Int) (a1 : Int) (K0 : List (List C) → List Out → Option β) : Int → Option β := fun z0 => K0 [[.d (.int .i64 z0)]] []
noncomputable def laws_szWeigh.e (k : Nat) : Entry := { modes := [(.imm, 0), (.imm, 0)], rts := [3], al := false, run := fun {β} l K => match l with | [.agg [.str a0_0, .int .i64 a0_1], .d (.int .i64 a1)] => laws_szWeigh.f k a0_0 a0_1 a1 (laws_szWeigh.kt a0_0 a0_1 a1 K) | _ => none }
noncomputable def laws_szWeigh.E (k : Nat) : Env := fun g => none
noncomputable def laws_szWeigh.h : Hints := ⟨fun n => ⟨[], []⟩, fun _ => none, false, []⟩
theorem laws_szWeigh.f_eq {β : Type} (k : Nat) (a0_0 : ByteArray) (a0_1 : Int) (a1 : Int) (K0 : List (List C) → List Out → Option β) : funDen Try.prog (laws_szWeigh.E k) laws_szWeigh.h k Try.f139 (laws_szWeigh.as a0_0 a0_1 a1) K0 = laws_szWeigh.g k a0_0 a0_1 a1 (laws_szWeigh.kt a0_0 a0_1 a1 K0) := by kernel_rfl
noncomputable def laws_szWeigh.dec (rs : List (List C)) (os : List Out) : Option (Int) := uncons rs fun c1 r2 => uncons c1 fun x3 l4 => cD x3 fun d5 => dInt .i64 d5 fun w0 => atEnd l4 <| atEnd r2 <| atEnd os (some w0)
theorem laws_szWeigh.kt_dec (a0_0 : ByteArray) (a0_1 : Int) (a1 : Int) : laws_szWeigh.kt a0_0 a0_1 a1 laws_szWeigh.dec = (fun z0 => some z0) := by kernel_rfl
theorem laws_szWeigh.inj (a0_0 : ByteArray) (a0_1 : Int) (a1 : Int) {rs : List (List C)} {os : List Out} {z0 : Int} (h : laws_szWeigh.dec rs os = some z0) (ho : OutShape (laws_szWeigh.as a0_0 a0_1 a1) os) : rs = [[.d (.int .i64 z0)]] ∧ os = [] := by
  unfold laws_szWeigh.dec at h
  obtain ⟨c1, r2, rfl, h1⟩ := uncons_some h
  obtain ⟨x3, l4, rfl, h2⟩ := uncons_some h1
  obtain ⟨d5, rfl, h3⟩ := cD_some h2
  obtain ⟨w0, rfl, h4⟩ := dInt_some h3
  obtain ⟨rfl, h5⟩ := atEnd_some h4
  obtain ⟨rfl, h6⟩ := atEnd_some h5
  obtain ⟨rfl, h7⟩ := atEnd_some h6
  obtain rfl := Option.some.inj h7
  exact ⟨rfl, rfl⟩
theorem laws_szWeigh.ok (k : Nat) : EntryOK Try.prog 139 (laws_szWeigh.e k) := by
  refine entry_of mix tyok (fn := Try.f139) (c := codeOf Try.f139) Try.func139 (by kernel_rfl) (h := laws_szWeigh.h) (k := k) (E := laws_szWeigh.E k) env_nil (by kernel_rfl) (by kernel_rfl) rfl (enter_of Try.func139 (by kernel_rfl)) ?_
  intro β l K r hr
  simp only [laws_szWeigh.e] at hr
  split at hr
  case h_2 => cases hr
  unfold laws_szWeigh.f at hr
  split at hr
  case h_2 => cases hr
  rename_i hz
  exact ⟨_, _, hr, _, laws_szWeigh.dec, _, (laws_szWeigh.f_eq k _ _ _ laws_szWeigh.dec).trans (by rw [laws_szWeigh.kt_dec]; exact hz), fun rs os h ho => laws_szWeigh.inj _ _ _ h ho⟩
/-! ### loop.example/g00119/laws.szWeighS: function 79 -/
noncomputable def laws_szWeighS.l0 {β : Type} (k : Nat) (v0_0 : List (List D)) (K : Int → Option β) (L0 : (Int × Int) → Option β) (v : Int × Int) : Option β :=
  match v with
  | (v0_1, v0_2) => bif (decide ((v0_2 : Int) < (v0_0.length : Int))) then (atRow v0_0 v0_2 fun c9 => uncons c9 fun d10 r11 => dStr d10 fun x12 => uncons r11 fun d13 r14 => dInt .i64 d13 fun x15 => atEnd r14 (laws_szWeigh.f k x12 x15 v0_1 (fun y16 => bif (decide ((y16 : Int) < 0)) then (K (-1)) else (L0 (y16, IntKind.wrap .i64 (v0_2 + 1)))))) else (K v0_1)
noncomputable def laws_szWeighS.g {β : Type} (k : Nat) (a0 : List (List D)) (a1 : Int) (K : Int → Option β) : Option β :=
  bif (decide (((IntKind.wrap .i64 (a1 - (a0.length : Int))) : Int) < 0)) then (K (-1)) else (iter (laws_szWeighS.l0 k a0 K) k (IntKind.wrap .i64 (a1 - (a0.length : Int)), 0))
noncomputable def laws_szWeighS.t (k : Nat) (a0 : List (List D)) (a1 : Int) : Option (Int) := laws_szWeighS.g k a0 a1 (fun z0 => some z0)
noncomputable def laws_szWeighS.f {β : Type} (k : Nat) (a0 : List (List D)) (a1 : Int) (K : Int → Option β) : Option β :=
  match laws_szWeighS.t k a0 a1 with
  | some z0 => K z0
  | none => none
noncomputable def laws_szWeighS.as (a0 : List (List D)) (a1 : Int) : List A := [.d (.sl a0), .d (.int .i64 a1)]
noncomputable def laws_szWeighS.kt {β : Type} (a0 : List (List D)) (a1 : Int) (K0 : List (List C) → List Out → Option β) : Int → Option β := fun z0 => K0 [[.d (.int .i64 z0)]] []
noncomputable def laws_szWeighS.e (k : Nat) : Entry := { modes := [(.imm, 0), (.imm, 0)], rts := [3], al := false, run := fun {β} l K => match l with | [.d (.sl a0), .d (.int .i64 a1)] => laws_szWeighS.f k a0 a1 (laws_szWeighS.kt a0 a1 K) | _ => none }
noncomputable def laws_szWeighS.E (k : Nat) : Env := fun g => bif g == 139 then some (laws_szWeigh.e k) else none
noncomputable def laws_szWeighS.h : Hints := ⟨fun n => bif n == 5 then ⟨[(0, .asis), (1, .asis), (5, .asis)], []⟩ else ⟨[], []⟩, fun _ => none, false, []⟩
noncomputable def laws_szWeighS.s0 (v0_0 : List (List D)) (v : Int × Int) : St :=
  match v with
  | (v0_1, v0_2) => ⟨[.d false (.sl v0_0), .d true (.int .i64 v0_1), .any, .any, .any, .d true (.int .i64 v0_2), .any, .any, .any, .any, .any, .any, .any, .any, .any, .any, .any, .any, .any, .any, .any, .any, .any, .any, .any, .any, .any], []⟩
noncomputable def laws_szWeighS.b0 {β : Type} (k : Nat) : St → (Ex → St → Option β) → Option β := fun s K => den Try.prog (laws_szWeighS.E k) laws_szWeighS.h.H laws_szWeighS.h.J k (codeAt [1, 1, 1, 0, 1, 0, 0] (codeOf Try.f79)) s K
noncomputable def laws_szWeighS.c0 {β : Type} (k : Nat) (a0 : List (List D)) (a1 : Int) (K0 : List (List C) → List Out → Option β) : Ex → St → Option β := contAt Try.prog (laws_szWeighS.E k) laws_szWeighS.h k [1, 1, 1, 0, 1, 0] (codeOf Try.f79) (finDen Try.prog Try.f79 laws_szWeighS.h (laws_szWeighS.as a0 a1) K0)
theorem laws_szWeighS.l0_eq {β : Type} (k : Nat) (a0 : List (List D)) (a1 : Int) (K0 : List (List C) → List Out → Option β) (v0_0 : List (List D)) : ∀ (kk : Nat) (v : Int × Int), loopDen (laws_szWeighS.b0 k) (laws_szWeighS.h.H 5) kk (laws_szWeighS.s0 v0_0 v) (laws_szWeighS.c0 k a0 a1 K0) = iter (laws_szWeighS.l0 k v0_0 (laws_szWeighS.kt a0 a1 K0)) kk v :=
  loop_eq (laws_szWeighS.s0 v0_0) _ (fun L0 v => by obtain ⟨v0_1, v0_2⟩ := v; kernel_rfl)
noncomputable def laws_szWeighS.m {β : Type} (k : Nat) (a0 : List (List D)) (a1 : Int) (K0 : List (List C) → List Out → Option β) (F : ((List (List D)) → (Int × Int) → Option β)) : Option β :=
  bif (decide (((IntKind.wrap .i64 (a1 - (a0.length : Int))) : Int) < 0)) then ((laws_szWeighS.kt a0 a1 K0) (-1)) else ((F) a0 (IntKind.wrap .i64 (a1 - (a0.length : Int)), 0))
theorem laws_szWeighS.f_eq {β : Type} (k : Nat) (a0 : List (List D)) (a1 : Int) (K0 : List (List C) → List Out → Option β) : funDen Try.prog (laws_szWeighS.E k) laws_szWeighS.h k Try.f79 (laws_szWeighS.as a0 a1) K0 = laws_szWeighS.g k a0 a1 (laws_szWeighS.kt a0 a1 K0) := Eq.trans (b := (laws_szWeighS.m k a0 a1 K0) (fun (v0_0 : List (List D)) (v : Int × Int) => loopDen (laws_szWeighS.b0 k) (laws_szWeighS.h.H 5) k (laws_szWeighS.s0 v0_0 v) (laws_szWeighS.c0 k a0 a1 K0))) (by kernel_rfl) (Eq.trans (congrArg (laws_szWeighS.m k a0 a1 K0) (funext fun v0_0 => funext fun v => laws_szWeighS.l0_eq k a0 a1 K0 v0_0 k v)) (by kernel_rfl))
noncomputable def laws_szWeighS.dec (rs : List (List C)) (os : List Out) : Option (Int) := uncons rs fun c1 r2 => uncons c1 fun x3 l4 => cD x3 fun d5 => dInt .i64 d5 fun w0 => atEnd l4 <| atEnd r2 <| atEnd os (some w0)
theorem laws_szWeighS.kt_dec (a0 : List (List D)) (a1 : Int) : laws_szWeighS.kt a0 a1 laws_szWeighS.dec = (fun z0 => some z0) := by kernel_rfl
theorem laws_szWeighS.inj (a0 : List (List D)) (a1 : Int) {rs : List (List C)} {os : List Out} {z0 : Int} (h : laws_szWeighS.dec rs os = some z0) (ho : OutShape (laws_szWeighS.as a0 a1) os) : rs = [[.d (.int .i64 z0)]] ∧ os = [] := by
  unfold laws_szWeighS.dec at h
  obtain ⟨c1, r2, rfl, h1⟩ := uncons_some h
  obtain ⟨x3, l4, rfl, h2⟩ := uncons_some h1
  obtain ⟨d5, rfl, h3⟩ := cD_some h2
  obtain ⟨w0, rfl, h4⟩ := dInt_some h3
  obtain ⟨rfl, h5⟩ := atEnd_some h4
  obtain ⟨rfl, h6⟩ := atEnd_some h5
  obtain ⟨rfl, h7⟩ := atEnd_some h6
  obtain rfl := Option.some.inj h7
  exact ⟨rfl, rfl⟩
theorem laws_szWeighS.ok (k : Nat) : EntryOK Try.prog 79 (laws_szWeighS.e k) := by
  refine entry_of mix tyok (fn := Try.f79) (c := codeOf Try.f79) Try.func79 (by kernel_rfl) (h := laws_szWeighS.h) (k := k) (E := laws_szWeighS.E k) (env_cons (laws_szWeigh.ok k) env_nil) (by kernel_rfl) (by kernel_rfl) rfl (enter_of Try.func79 (by kernel_rfl)) ?_
  intro β l K r hr
  simp only [laws_szWeighS.e] at hr
  split at hr
  case h_2 => cases hr
  unfold laws_szWeighS.f at hr
  split at hr
  case h_2 => cases hr
  rename_i hz
  exact ⟨_, _, hr, _, laws_szWeighS.dec, _, (laws_szWeighS.f_eq k _ _ laws_szWeighS.dec).trans (by rw [laws_szWeighS.kt_dec]; exact hz), fun rs os h ho => laws_szWeighS.inj _ _ h ho⟩
/-! ### loop.example/g00119/laws.szWant: function 20 -/
noncomputable def laws_szWant.g {β : Type} (k : Nat) (a0_0 : Int) (a0_1 : List (List D)) (a0_2 : List (List D)) (a0_3 : List (List D)) (a1 : Int) (K : Int → Option β) : Option β :=
  laws_szTermS.f k a0_1 a1 (fun y23 => bif (decide ((y23 : Int) < 0)) then (K (-1)) else (laws_szStringS.f k a0_2 y23 (fun y24 => bif (decide ((y24 : Int) < 0)) then (K (-1)) else (laws_szWeighS.f k a0_3 y24 (fun y25 => bif (decide ((y25 : Int) < 0)) then (K (-1)) else (K y25))))))
noncomputable def laws_szWant.t (k : Nat) (a0_0 : Int) (a0_1 : List (List D)) (a0_2 : List (List D)) (a0_3 : List (List D)) (a1 : Int) : Option (Int) := laws_szWant.g k a0_0 a0_1 a0_2 a0_3 a1 (fun z0 => some z0)
noncomputable def laws_szWant.f {β : Type} (k : Nat) (a0_0 : Int) (a0_1 : List (List D)) (a0_2 : List (List D)) (a0_3 : List (List D)) (a1 : Int) (K : Int → Option β) : Option β :=
  match laws_szWant.t k a0_0 a0_1 a0_2 a0_3 a1 with
  | some z0 => K z0
  | none => none
noncomputable def laws_szWant.as (a0_0 : Int) (a0_1 : List (List D)) (a0_2 : List (List D)) (a0_3 : List (List D)) (a1 : Int) : List A := [.agg [.int .i64 a0_0, .sl a0_1, .sl a0_2, .sl a0_3], .d (.int .i64 a1)]
noncomputable def laws_szWant.kt {β : Type} (a0_0 : Int) (a0_1 : List (List D)) (a0_2 : List (List D)) (a0_3 : List (List D)) (a1 : Int) (K0 : List (List C) → List Out → Option β) : Int → Option β := fun z0 => K0 [[.d (.int .i64 z0)]] []
noncomputable def laws_szWant.e (k : Nat) : Entry := { modes := [(.imm, 0), (.imm, 0)], rts := [3], al := false, run := fun {β} l K => match l with | [.agg [.int .i64 a0_0, .sl a0_1, .sl a0_2, .sl a0_3], .d (.int .i64 a1)] => laws_szWant.f k a0_0 a0_1 a0_2 a0_3 a1 (laws_szWant.kt a0_0 a0_1 a0_2 a0_3 a1 K) | _ => none }
noncomputable def laws_szWant.E (k : Nat) : Env := fun g => bif g == 78 then some (laws_szTermS.e k) else bif g == 65 then some (laws_szStringS.e k) else bif g == 79 then some (laws_szWeighS.e k) else none
noncomputable def laws_szWant.h : Hints := ⟨fun n => ⟨[], []⟩, fun _ => none, false, []⟩
theorem laws_szWant.f_eq {β : Type} (k : Nat) (a0_0 : Int) (a0_1 : List (List D)) (a0_2 : List (List D)) (a0_3 : List (List D)) (a1 : Int) (K0 : List (List C) → List Out → Option β) : funDen Try.prog (laws_szWant.E k) laws_szWant.h k Try.f20 (laws_szWant.as a0_0 a0_1 a0_2 a0_3 a1) K0 = laws_szWant.g k a0_0 a0_1 a0_2 a0_3 a1 (laws_szWant.kt a0_0 a0_1 a0_2 a0_3 a1 K0) := by kernel_rfl
noncomputable def laws_szWant.dec (rs : List (List C)) (os : List Out) : Option (Int) := uncons rs fun c1 r2 => uncons c1 fun x3 l4 => cD x3 fun d5 => dInt .i64 d5 fun w0 => atEnd l4 <| atEnd r2 <| atEnd os (some w0)
theorem laws_szWant.kt_dec (a0_0 : Int) (a0_1 : List (List D)) (a0_2 : List (List D)) (a0_3 : List (List D)) (a1 : Int) : laws_szWant.kt a0_0 a0_1 a0_2 a0_3 a1 laws_szWant.dec = (fun z0 => some z0) := by kernel_rfl
theorem laws_szWant.inj (a0_0 : Int) (a0_1 : List (List D)) (a0_2 : List (List D)) (a0_3 : List (List D)) (a1 : Int) {rs : List (List C)} {os : List Out} {z0 : Int} (h : laws_szWant.dec rs os = some z0) (ho : OutShape (laws_szWant.as a0_0 a0_1 a0_2 a0_3 a1) os) : rs = [[.d (.int .i64 z0)]] ∧ os = [] := by
  unfold laws_szWant.dec at h
  obtain ⟨c1, r2, rfl, h1⟩ := uncons_some h
  obtain ⟨x3, l4, rfl, h2⟩ := uncons_some h1
  obtain ⟨d5, rfl, h3⟩ := cD_some h2
  obtain ⟨w0, rfl, h4⟩ := dInt_some h3
  obtain ⟨rfl, h5⟩ := atEnd_some h4
  obtain ⟨rfl, h6⟩ := atEnd_some h5
  obtain ⟨rfl, h7⟩ := atEnd_some h6
  obtain rfl := Option.some.inj h7
  exact ⟨rfl, rfl⟩
theorem laws_szWant.ok (k : Nat) : EntryOK Try.prog 20 (laws_szWant.e k) := by
  refine entry_of mix tyok (fn := Try.f20) (c := codeOf Try.f20) Try.func20 (by kernel_rfl) (h := laws_szWant.h) (k := k) (E := laws_szWant.E k) (env_cons (laws_szTermS.ok k) (env_cons (laws_szStringS.ok k) (env_cons (laws_szWeighS.ok k) env_nil))) (by kernel_rfl) (by kernel_rfl) rfl (enter_of Try.func20 (by kernel_rfl)) ?_
  intro β l K r hr
  simp only [laws_szWant.e] at hr
  split at hr
  case h_2 => cases hr
  unfold laws_szWant.f at hr
  split at hr
  case h_2 => cases hr
  rename_i hz
  exact ⟨_, _, hr, _, laws_szWant.dec, _, (laws_szWant.f_eq k _ _ _ _ _ laws_szWant.dec).trans (by rw [laws_szWant.kt_dec]; exact hz), fun rs os h ho => laws_szWant.inj _ _ _ _ _ h ho⟩
/-! ### loop.example/g00119/laws.szLabel: function 135 -/
noncomputable def laws_szLabel.g {β : Type} (k : Nat) (a0_0 : ByteArray) (a0_1 : ByteArray) (a1 : Int) (K : Int → Option β) : Option β :=
  bif (decide (((IntKind.wrap .i64 (a1 - (a0_0.size : Int))) : Int) < 0)) then (K (-1)) else (bif (decide (((IntKind.wrap .i64 ((IntKind.wrap .i64 (a1 - (a0_0.size : Int))) - (a0_1.size : Int))) : Int) < 0)) then (K (-1)) else (K (IntKind.wrap .i64 ((IntKind.wrap .i64 (a1 - (a0_0.size : Int))) - (a0_1.size : Int)))))
noncomputable def laws_szLabel.t (k : Nat) (a0_0 : ByteArray) (a0_1 : ByteArray) (a1 : Int) : Option (Int) := laws_szLabel.g k a0_0 a0_1 a1 (fun z0 => some z0)
noncomputable def laws_szLabel.f {β : Type} (k : Nat) (a0_0 : ByteArray) (a0_1 : ByteArray) (a1 : Int) (K : Int → Option β) : Option β :=
  match laws_szLabel.t k a0_0 a0_1 a1 with
  | some z0 => K z0
  | none => none
noncomputable def laws_szLabel.as (a0_0 : ByteArray) (a0_1 : ByteArray) (a1 : Int) : List A := [.agg [.str a0_0, .str a0_1], .d (.int .i64 a1)]
noncomputable def laws_szLabel.kt {β : Type} (a0_0 : ByteArray) (a0_1 : ByteArray) (a1 : Int) (K0 : List (List C) → List Out → Option β) : Int → Option β := fun z0 => K0 [[.d (.int .i64 z0)]] []
noncomputable def laws_szLabel.e (k : Nat) : Entry := { modes := [(.imm, 0), (.imm, 0)], rts := [3], al := false, run := fun {β} l K => match l with | [.agg [.str a0_0, .str a0_1], .d (.int .i64 a1)] => laws_szLabel.f k a0_0 a0_1 a1 (laws_szLabel.kt a0_0 a0_1 a1 K) | _ => none }
noncomputable def laws_szLabel.E (k : Nat) : Env := fun g => none
noncomputable def laws_szLabel.h : Hints := ⟨fun n => ⟨[], []⟩, fun _ => none, false, []⟩
theorem laws_szLabel.f_eq {β : Type} (k : Nat) (a0_0 : ByteArray) (a0_1 : ByteArray) (a1 : Int) (K0 : List (List C) → List Out → Option β) : funDen Try.prog (laws_szLabel.E k) laws_szLabel.h k Try.f135 (laws_szLabel.as a0_0 a0_1 a1) K0 = laws_szLabel.g k a0_0 a0_1 a1 (laws_szLabel.kt a0_0 a0_1 a1 K0) := by kernel_rfl
noncomputable def laws_szLabel.dec (rs : List (List C)) (os : List Out) : Option (Int) := uncons rs fun c1 r2 => uncons c1 fun x3 l4 => cD x3 fun d5 => dInt .i64 d5 fun w0 => atEnd l4 <| atEnd r2 <| atEnd os (some w0)
theorem laws_szLabel.kt_dec (a0_0 : ByteArray) (a0_1 : ByteArray) (a1 : Int) : laws_szLabel.kt a0_0 a0_1 a1 laws_szLabel.dec = (fun z0 => some z0) := by kernel_rfl
theorem laws_szLabel.inj (a0_0 : ByteArray) (a0_1 : ByteArray) (a1 : Int) {rs : List (List C)} {os : List Out} {z0 : Int} (h : laws_szLabel.dec rs os = some z0) (ho : OutShape (laws_szLabel.as a0_0 a0_1 a1) os) : rs = [[.d (.int .i64 z0)]] ∧ os = [] := by
  unfold laws_szLabel.dec at h
  obtain ⟨c1, r2, rfl, h1⟩ := uncons_some h
  obtain ⟨x3, l4, rfl, h2⟩ := uncons_some h1
  obtain ⟨d5, rfl, h3⟩ := cD_some h2
  obtain ⟨w0, rfl, h4⟩ := dInt_some h3
  obtain ⟨rfl, h5⟩ := atEnd_some h4
  obtain ⟨rfl, h6⟩ := atEnd_some h5
  obtain ⟨rfl, h7⟩ := atEnd_some h6
  obtain rfl := Option.some.inj h7
  exact ⟨rfl, rfl⟩
theorem laws_szLabel.ok (k : Nat) : EntryOK Try.prog 135 (laws_szLabel.e k) := by
  refine entry_of mix tyok (fn := Try.f135) (c := codeOf Try.f135) Try.func135 (by kernel_rfl) (h := laws_szLabel.h) (k := k) (E := laws_szLabel.E k) env_nil (by kernel_rfl) (by kernel_rfl) rfl (enter_of Try.func135 (by kernel_rfl)) ?_
  intro β l K r hr
  simp only [laws_szLabel.e] at hr
  split at hr
  case h_2 => cases hr
  unfold laws_szLabel.f at hr
  split at hr
  case h_2 => cases hr
  rename_i hz
  exact ⟨_, _, hr, _, laws_szLabel.dec, _, (laws_szLabel.f_eq k _ _ _ laws_szLabel.dec).trans (by rw [laws_szLabel.kt_dec]; exact hz), fun rs os h ho => laws_szLabel.inj _ _ _ h ho⟩
/-! ### loop.example/g00119/laws.szLabelS: function 64 -/
noncomputable def laws_szLabelS.l0 {β : Type} (k : Nat) (v0_0 : List (List D)) (K : Int → Option β) (L0 : (Int × Int) → Option β) (v : Int × Int) : Option β :=
  match v with
  | (v0_1, v0_2) => bif (decide ((v0_2 : Int) < (v0_0.length : Int))) then (atRow v0_0 v0_2 fun c9 => uncons c9 fun d10 r11 => dStr d10 fun x12 => uncons r11 fun d13 r14 => dStr d13 fun x15 => atEnd r14 (laws_szLabel.f k x12 x15 v0_1 (fun y16 => bif (decide ((y16 : Int) < 0)) then (K (-1)) else (L0 (y16, IntKind.wrap .i64 (v0_2 + 1)))))) else (K v0_1)
noncomputable def laws_szLabelS.g {β : Type} (k : Nat) (a0 : List (List D)) (a1 : Int) (K : Int → Option β) : Option β :=
  bif (decide (((IntKind.wrap .i64 (a1 - (a0.length : Int))) : Int) < 0)) then (K (-1)) else (iter (laws_szLabelS.l0 k a0 K) k (IntKind.wrap .i64 (a1 - (a0.length : Int)), 0))
noncomputable def laws_szLabelS.t (k : Nat) (a0 : List (List D)) (a1 : Int) : Option (Int) := laws_szLabelS.g k a0 a1 (fun z0 => some z0)
noncomputable def laws_szLabelS.f {β : Type} (k : Nat) (a0 : List (List D)) (a1 : Int) (K : Int → Option β) : Option β :=
  match laws_szLabelS.t k a0 a1 with
  | some z0 => K z0
  | none => none
noncomputable def laws_szLabelS.as (a0 : List (List D)) (a1 : Int) : List A := [.d (.sl a0), .d (.int .i64 a1)]
noncomputable def laws_szLabelS.kt {β : Type} (a0 : List (List D)) (a1 : Int) (K0 : List (List C) → List Out → Option β) : Int → Option β := fun z0 => K0 [[.d (.int .i64 z0)]] []
noncomputable def laws_szLabelS.e (k : Nat) : Entry := { modes := [(.imm, 0), (.imm, 0)], rts := [3], al := false, run := fun {β} l K => match l with | [.d (.sl a0), .d (.int .i64 a1)] => laws_szLabelS.f k a0 a1 (laws_szLabelS.kt a0 a1 K) | _ => none }
noncomputable def laws_szLabelS.E (k : Nat) : Env := fun g => bif g == 135 then some (laws_szLabel.e k) else none
noncomputable def laws_szLabelS.h : Hints := ⟨fun n => bif n == 5 then ⟨[(0, .asis), (1, .asis), (5, .asis)], []⟩ else ⟨[], []⟩, fun _ => none, false, []⟩
noncomputable def laws_szLabelS.s0 (v0_0 : List (List D)) (v : Int × Int) : St :=
  match v with
  | (v0_1, v0_2) => ⟨[.d false (.sl v0_0), .d true (.int .i64 v0_1), .any, .any, .any, .d true (.int .i64 v0_2), .any, .any, .any, .any, .any, .any, .any, .any, .any, .any, .any, .any, .any, .any, .any, .any, .any, .any, .any, .any, .any], []⟩
noncomputable def laws_szLabelS.b0 {β : Type} (k : Nat) : St → (Ex → St → Option β) → Option β := fun s K => den Try.prog (laws_szLabelS.E k) laws_szLabelS.h.H laws_szLabelS.h.J k (codeAt [1, 1, 1, 0, 1, 0, 0] (codeOf Try.f64)) s K
noncomputable def laws_szLabelS.c0 {β : Type} (k : Nat) (a0 : List (List D)) (a1 : Int) (K0 : List (List C) → List Out → Option β) : Ex → St → Option β := contAt Try.prog (laws_szLabelS.E k) laws_szLabelS.h k [1, 1, 1, 0, 1, 0] (codeOf Try.f64) (finDen Try.prog Try.f64 laws_szLabelS.h (laws_szLabelS.as a0 a1) K0)
theorem laws_szLabelS.l0_eq {β : Type} (k : Nat) (a0 : List (List D)) (a1 : Int) (K0 : List (List C) → List Out → Option β) (v0_0 : List (List D)) : ∀ (kk : Nat) (v : Int × Int), loopDen (laws_szLabelS.b0 k) (laws_szLabelS.h.H 5) kk (laws_szLabelS.s0 v0_0 v) (laws_szLabelS.c0 k a0 a1 K0) = iter (laws_szLabelS.l0 k v0_0 (laws_szLabelS.kt a0 a1 K0)) kk v :=
  loop_eq (laws_szLabelS.s0 v0_0) _ (fun L0 v => by obtain ⟨v0_1, v0_2⟩ := v; kernel_rfl)
noncomputable def laws_szLabelS.m {β : Type} (k : Nat) (a0 : List (List D)) (a1 : Int) (K0 : List (List C) → List Out → Option β) (F : ((List (List D)) → (Int × Int) → Option β)) : Option β :=
  bif (decide (((IntKind.wrap .i64 (a1 - (a0.length : Int))) : Int) < 0)) then ((laws_szLabelS.kt a0 a1 K0) (-1)) else ((F) a0 (IntKind.wrap .i64 (a1 - (a0.length : Int)), 0))
theorem laws_szLabelS.f_eq {β : Type} (k : Nat) (a0 : List (List D)) (a1 : Int) (K0 : List (List C) → List Out → Option β) : funDen Try.prog (laws_szLabelS.E k) laws_szLabelS.h k Try.f64 (laws_szLabelS.as a0 a1) K0 = laws_szLabelS.g k a0 a1 (laws_szLabelS.kt a0 a1 K0) := Eq.trans (b := (laws_szLabelS.m k a0 a1 K0) (fun (v0_0 : List (List D)) (v : Int × Int) => loopDen (laws_szLabelS.b0 k) (laws_szLabelS.h.H 5) k (laws_szLabelS.s0 v0_0 v) (laws_szLabelS.c0 k a0 a1 K0))) (by kernel_rfl) (Eq.trans (congrArg (laws_szLabelS.m k a0 a1 K0) (funext fun v0_0 => funext fun v => laws_szLabelS.l0_eq k a0 a1 K0 v0_0 k v)) (by kernel_rfl))
noncomputable def laws_szLabelS.dec (rs : List (List C)) (os : List Out) : Option (Int) := uncons rs fun c1 r2 => uncons c1 fun x3 l4 => cD x3 fun d5 => dInt .i64 d5 fun w0 => atEnd l4 <| atEnd r2 <| atEnd os (some w0)
theorem laws_szLabelS.kt_dec (a0 : List (List D)) (a1 : Int) : laws_szLabelS.kt a0 a1 laws_szLabelS.dec = (fun z0 => some z0) := by kernel_rfl
theorem laws_szLabelS.inj (a0 : List (List D)) (a1 : Int) {rs : List (List C)} {os : List Out} {z0 : Int} (h : laws_szLabelS.dec rs os = some z0) (ho : OutShape (laws_szLabelS.as a0 a1) os) : rs = [[.d (.int .i64 z0)]] ∧ os = [] := by
  unfold laws_szLabelS.dec at h
  obtain ⟨c1, r2, rfl, h1⟩ := uncons_some h
  obtain ⟨x3, l4, rfl, h2⟩ := uncons_some h1
  obtain ⟨d5, rfl, h3⟩ := cD_some h2
  obtain ⟨w0, rfl, h4⟩ := dInt_some h3
  obtain ⟨rfl, h5⟩ := atEnd_some h4
  obtain ⟨rfl, h6⟩ := atEnd_some h5
  obtain ⟨rfl, h7⟩ := atEnd_some h6
  obtain rfl := Option.some.inj h7
  exact ⟨rfl, rfl⟩
theorem laws_szLabelS.ok (k : Nat) : EntryOK Try.prog 64 (laws_szLabelS.e k) := by
  refine entry_of mix tyok (fn := Try.f64) (c := codeOf Try.f64) Try.func64 (by kernel_rfl) (h := laws_szLabelS.h) (k := k) (E := laws_szLabelS.E k) (env_cons (laws_szLabel.ok k) env_nil) (by kernel_rfl) (by kernel_rfl) rfl (enter_of Try.func64 (by kernel_rfl)) ?_
  intro β l K r hr
  simp only [laws_szLabelS.e] at hr
  split at hr
  case h_2 => cases hr
  unfold laws_szLabelS.f at hr
  split at hr
  case h_2 => cases hr
  rename_i hz
  exact ⟨_, _, hr, _, laws_szLabelS.dec, _, (laws_szLabelS.f_eq k _ _ laws_szLabelS.dec).trans (by rw [laws_szLabelS.kt_dec]; exact hz), fun rs os h ho => laws_szLabelS.inj _ _ h ho⟩
/-! ### loop.example/g00119/laws.szIsland: function 15 -/
noncomputable def laws_szIsland.g {β : Type} (k : Nat) (a0_0 : ByteArray) (a0_1 : List (List D)) (a0_2 : List (List D)) (a0_3 : Int) (a1 : Int) (K : Int → Option β) : Option β :=
  bif (decide (((IntKind.wrap .i64 (a1 - (a0_0.size : Int))) : Int) < 0)) then (K (-1)) else (laws_szLabelS.f k a0_1 (IntKind.wrap .i64 (a1 - (a0_0.size : Int))) (fun y17 => bif (decide ((y17 : Int) < 0)) then (K (-1)) else (laws_szStringS.f k a0_2 y17 (fun y18 => bif (decide ((y18 : Int) < 0)) then (K (-1)) else (K y18)))))
noncomputable def laws_szIsland.t (k : Nat) (a0_0 : ByteArray) (a0_1 : List (List D)) (a0_2 : List (List D)) (a0_3 : Int) (a1 : Int) : Option (Int) := laws_szIsland.g k a0_0 a0_1 a0_2 a0_3 a1 (fun z0 => some z0)
noncomputable def laws_szIsland.f {β : Type} (k : Nat) (a0_0 : ByteArray) (a0_1 : List (List D)) (a0_2 : List (List D)) (a0_3 : Int) (a1 : Int) (K : Int → Option β) : Option β :=
  match laws_szIsland.t k a0_0 a0_1 a0_2 a0_3 a1 with
  | some z0 => K z0
  | none => none
noncomputable def laws_szIsland.as (a0_0 : ByteArray) (a0_1 : List (List D)) (a0_2 : List (List D)) (a0_3 : Int) (a1 : Int) : List A := [.agg [.str a0_0, .sl a0_1, .sl a0_2, .int .i64 a0_3], .d (.int .i64 a1)]
noncomputable def laws_szIsland.kt {β : Type} (a0_0 : ByteArray) (a0_1 : List (List D)) (a0_2 : List (List D)) (a0_3 : Int) (a1 : Int) (K0 : List (List C) → List Out → Option β) : Int → Option β := fun z0 => K0 [[.d (.int .i64 z0)]] []
noncomputable def laws_szIsland.e (k : Nat) : Entry := { modes := [(.imm, 0), (.imm, 0)], rts := [3], al := false, run := fun {β} l K => match l with | [.agg [.str a0_0, .sl a0_1, .sl a0_2, .int .i64 a0_3], .d (.int .i64 a1)] => laws_szIsland.f k a0_0 a0_1 a0_2 a0_3 a1 (laws_szIsland.kt a0_0 a0_1 a0_2 a0_3 a1 K) | _ => none }
noncomputable def laws_szIsland.E (k : Nat) : Env := fun g => bif g == 64 then some (laws_szLabelS.e k) else bif g == 65 then some (laws_szStringS.e k) else none
noncomputable def laws_szIsland.h : Hints := ⟨fun n => ⟨[], []⟩, fun _ => none, false, []⟩
theorem laws_szIsland.f_eq {β : Type} (k : Nat) (a0_0 : ByteArray) (a0_1 : List (List D)) (a0_2 : List (List D)) (a0_3 : Int) (a1 : Int) (K0 : List (List C) → List Out → Option β) : funDen Try.prog (laws_szIsland.E k) laws_szIsland.h k Try.f15 (laws_szIsland.as a0_0 a0_1 a0_2 a0_3 a1) K0 = laws_szIsland.g k a0_0 a0_1 a0_2 a0_3 a1 (laws_szIsland.kt a0_0 a0_1 a0_2 a0_3 a1 K0) := by kernel_rfl
noncomputable def laws_szIsland.dec (rs : List (List C)) (os : List Out) : Option (Int) := uncons rs fun c1 r2 => uncons c1 fun x3 l4 => cD x3 fun d5 => dInt .i64 d5 fun w0 => atEnd l4 <| atEnd r2 <| atEnd os (some w0)
theorem laws_szIsland.kt_dec (a0_0 : ByteArray) (a0_1 : List (List D)) (a0_2 : List (List D)) (a0_3 : Int) (a1 : Int) : laws_szIsland.kt a0_0 a0_1 a0_2 a0_3 a1 laws_szIsland.dec = (fun z0 => some z0) := by kernel_rfl
theorem laws_szIsland.inj (a0_0 : ByteArray) (a0_1 : List (List D)) (a0_2 : List (List D)) (a0_3 : Int) (a1 : Int) {rs : List (List C)} {os : List Out} {z0 : Int} (h : laws_szIsland.dec rs os = some z0) (ho : OutShape (laws_szIsland.as a0_0 a0_1 a0_2 a0_3 a1) os) : rs = [[.d (.int .i64 z0)]] ∧ os = [] := by
  unfold laws_szIsland.dec at h
  obtain ⟨c1, r2, rfl, h1⟩ := uncons_some h
  obtain ⟨x3, l4, rfl, h2⟩ := uncons_some h1
  obtain ⟨d5, rfl, h3⟩ := cD_some h2
  obtain ⟨w0, rfl, h4⟩ := dInt_some h3
  obtain ⟨rfl, h5⟩ := atEnd_some h4
  obtain ⟨rfl, h6⟩ := atEnd_some h5
  obtain ⟨rfl, h7⟩ := atEnd_some h6
  obtain rfl := Option.some.inj h7
  exact ⟨rfl, rfl⟩
theorem laws_szIsland.ok (k : Nat) : EntryOK Try.prog 15 (laws_szIsland.e k) := by
  refine entry_of mix tyok (fn := Try.f15) (c := codeOf Try.f15) Try.func15 (by kernel_rfl) (h := laws_szIsland.h) (k := k) (E := laws_szIsland.E k) (env_cons (laws_szLabelS.ok k) (env_cons (laws_szStringS.ok k) env_nil)) (by kernel_rfl) (by kernel_rfl) rfl (enter_of Try.func15 (by kernel_rfl)) ?_
  intro β l K r hr
  simp only [laws_szIsland.e] at hr
  split at hr
  case h_2 => cases hr
  unfold laws_szIsland.f at hr
  split at hr
  case h_2 => cases hr
  rename_i hz
  exact ⟨_, _, hr, _, laws_szIsland.dec, _, (laws_szIsland.f_eq k _ _ _ _ _ laws_szIsland.dec).trans (by rw [laws_szIsland.kt_dec]; exact hz), fun rs os h ho => laws_szIsland.inj _ _ _ _ _ h ho⟩
/-! ### loop.example/g00119/laws.toStringS: function 71 -/
noncomputable def laws_toStringS.l0 {β : Type} (k : Nat) (v0_0 : List (List D)) (K : (List (List C)) → Option β) (L0 : (Int × (List (List C))) → Option β) (v : Int × (List (List C))) : Option β :=
  match v with
  | (v0_1, v0_2) => bif (decide ((v0_1 : Int) < (v0_0.length : Int))) then (atRow v0_0 v0_1 fun c5 => uncons c5 fun d6 r7 => dStr d6 fun x8 => atEnd r7 (guardP ((0 : Int) ≤ v0_1 ∧ v0_1 < (v0_2.length : Int)) (guardP (Int.toNat v0_1 < v0_2.length) (L0 (IntKind.wrap .i64 (v0_1 + 1), v0_2.modify (Int.toNat v0_1) fun c => splice c 0 [.d (.str x8)]))))) else (K v0_2)
noncomputable def laws_toStringS.g {β : Type} (k : Nat) (a0 : List (List D)) (K : (List (List C)) → Option β) : Option β :=
  guardP ((0 : Int) ≤ (a0.length : Int) ∧ (a0.length : Int) ≤ (most : Int) ∧ (a0.length : Int) ≤ (a0.length : Int) ∧ (a0.length : Int) ≤ (a0.length : Int)) (iter (laws_toStringS.l0 k a0 K) k (0, List.replicate (Int.toNat (a0.length : Int)) ([.d (.str (⟨#[]⟩ : ByteArray))] : List C)))
noncomputable def laws_toStringS.t (k : Nat) (a0 : List (List D)) : Option ((List (List C))) := laws_toStringS.g k a0 (fun z0 => some z0)
noncomputable def laws_toStringS.f {β : Type} (k : Nat) (a0 : List (List D)) (K : (List (List C)) → Option β) : Option β :=
  match laws_toStringS.t k a0 with
  | some z0 => K z0
  | none => none
noncomputable def laws_toStringS.as (a0 : List (List D)) : List A := [.d (.sl a0)]
noncomputable def laws_toStringS.kt {β : Type} (a0 : List (List D)) (K0 : List (List C) → List Out → Option β) : (List (List C)) → Option β := fun z0 => K0 [[.own z0]] []
noncomputable def laws_toStringS.e (k : Nat) : Entry := { modes := [(.imm, 0)], rts := [23], al := false, run := fun {β} l K => match l with | [.d (.sl a0)] => laws_toStringS.f k a0 (laws_toStringS.kt a0 K) | _ => none }
noncomputable def laws_toStringS.E (k : Nat) : Env := fun g => none
noncomputable def laws_toStringS.h : Hints := ⟨fun n => bif n == 3 then ⟨[(0, .asis), (3, .asis), (4, .asis)], []⟩ else ⟨[], []⟩, fun _ => none, false, []⟩
noncomputable def laws_toStringS.s0 (v0_0 : List (List D)) (v : Int × (List (List C))) : St :=
  match v with
  | (v0_1, v0_2) => ⟨[.d false (.sl v0_0), .any, .any, .row 0, .d true (.int .i64 v0_1), .any, .any, .any, .any, .any, .any, .any, .any, .any, .any, .any, .any, .any, .any, .any, .any, .any], [.row none true 23 v0_2]⟩
noncomputable def laws_toStringS.b0 {β : Type} (k : Nat) : St → (Ex → St → Option β) → Option β := fun s K => den Try.prog (laws_toStringS.E k) laws_toStringS.h.H laws_toStringS.h.J k (codeAt [1, 1, 0, 1, 0, 0] (codeOf Try.f71)) s K
noncomputable def laws_toStringS.c0 {β : Type} (k : Nat) (a0 : List (List D)) (K0 : List (List C) → List Out → Option β) : Ex → St → Option β := contAt Try.prog (laws_toStringS.E k) laws_toStringS.h k [1, 1, 0, 1, 0] (codeOf Try.f71) (finDen Try.prog Try.f71 laws_toStringS.h (laws_toStringS.as a0) K0)
theorem laws_toStringS.l0_eq {β : Type} (k : Nat) (a0 : List (List D)) (K0 : List (List C) → List Out → Option β) (v0_0 : List (List D)) : ∀ (kk : Nat) (v : Int × (List (List C))), loopDen (laws_toStringS.b0 k) (laws_toStringS.h.H 3) kk (laws_toStringS.s0 v0_0 v) (laws_toStringS.c0 k a0 K0) = iter (laws_toStringS.l0 k v0_0 (laws_toStringS.kt a0 K0)) kk v :=
  loop_eq (laws_toStringS.s0 v0_0) _ (fun L0 v => by obtain ⟨v0_1, v0_2⟩ := v; kernel_rfl)
noncomputable def laws_toStringS.m {β : Type} (k : Nat) (a0 : List (List D)) (K0 : List (List C) → List Out → Option β) (F : ((List (List D)) → (Int × (List (List C))) → Option β)) : Option β :=
  guardP ((0 : Int) ≤ (a0.length : Int) ∧ (a0.length : Int) ≤ (most : Int) ∧ (a0.length : Int) ≤ (a0.length : Int) ∧ (a0.length : Int) ≤ (a0.length : Int)) ((F) a0 (0, List.replicate (Int.toNat (a0.length : Int)) ([.d (.str (⟨#[]⟩ : ByteArray))] : List C)))
theorem laws_toStringS.f_eq {β : Type} (k : Nat) (a0 : List (List D)) (K0 : List (List C) → List Out → Option β) : funDen Try.prog (laws_toStringS.E k) laws_toStringS.h k Try.f71 (laws_toStringS.as a0) K0 = laws_toStringS.g k a0 (laws_toStringS.kt a0 K0) := Eq.trans (b := (laws_toStringS.m k a0 K0) (fun (v0_0 : List (List D)) (v : Int × (List (List C))) => loopDen (laws_toStringS.b0 k) (laws_toStringS.h.H 3) k (laws_toStringS.s0 v0_0 v) (laws_toStringS.c0 k a0 K0))) (by kernel_rfl) (Eq.trans (congrArg (laws_toStringS.m k a0 K0) (funext fun v0_0 => funext fun v => laws_toStringS.l0_eq k a0 K0 v0_0 k v)) (by kernel_rfl))
noncomputable def laws_toStringS.dec (rs : List (List C)) (os : List Out) : Option ((List (List C))) := uncons rs fun c1 r2 => uncons c1 fun x3 l4 => cOwn x3 fun w0 => atEnd l4 <| atEnd r2 <| atEnd os (some w0)
theorem laws_toStringS.kt_dec (a0 : List (List D)) : laws_toStringS.kt a0 laws_toStringS.dec = (fun z0 => some z0) := by kernel_rfl
theorem laws_toStringS.inj (a0 : List (List D)) {rs : List (List C)} {os : List Out} {z0 : List (List C)} (h : laws_toStringS.dec rs os = some z0) (ho : OutShape (laws_toStringS.as a0) os) : rs = [[.own z0]] ∧ os = [] := by
  unfold laws_toStringS.dec at h
  obtain ⟨c1, r2, rfl, h1⟩ := uncons_some h
  obtain ⟨x3, l4, rfl, h2⟩ := uncons_some h1
  obtain ⟨w0, rfl, h3⟩ := cOwn_some h2
  obtain ⟨rfl, h4⟩ := atEnd_some h3
  obtain ⟨rfl, h5⟩ := atEnd_some h4
  obtain ⟨rfl, h6⟩ := atEnd_some h5
  obtain rfl := Option.some.inj h6
  exact ⟨rfl, rfl⟩
theorem laws_toStringS.ok (k : Nat) : EntryOK Try.prog 71 (laws_toStringS.e k) := by
  refine entry_of mix tyok (fn := Try.f71) (c := codeOf Try.f71) Try.func71 (by kernel_rfl) (h := laws_toStringS.h) (k := k) (E := laws_toStringS.E k) env_nil (by kernel_rfl) (by kernel_rfl) rfl (enter_of Try.func71 (by kernel_rfl)) ?_
  intro β l K r hr
  simp only [laws_toStringS.e] at hr
  split at hr
  case h_2 => cases hr
  unfold laws_toStringS.f at hr
  split at hr
  case h_2 => cases hr
  rename_i hz
  exact ⟨_, _, hr, _, laws_toStringS.dec, _, (laws_toStringS.f_eq k _ laws_toStringS.dec).trans (by rw [laws_toStringS.kt_dec]; exact hz), fun rs os h ho => laws_toStringS.inj _ h ho⟩
/-! ### loop.example/g00119/laws.toTerm: function 140 -/
noncomputable def laws_toTerm.g {β : Type} (k : Nat) (a0_0 : Int) (a0_1 : ByteArray) (a0_2 : List (List D)) (K : Int → ByteArray → (List (List C)) → Option β) : Option β :=
  laws_toStringS.f k a0_2 (fun y9 => K a0_0 a0_1 y9)
noncomputable def laws_toTerm.t (k : Nat) (a0_0 : Int) (a0_1 : ByteArray) (a0_2 : List (List D)) : Option (Int × ByteArray × (List (List C))) := laws_toTerm.g k a0_0 a0_1 a0_2 (fun z0 z1 z2 => some (z0, z1, z2))
noncomputable def laws_toTerm.f {β : Type} (k : Nat) (a0_0 : Int) (a0_1 : ByteArray) (a0_2 : List (List D)) (K : Int → ByteArray → (List (List C)) → Option β) : Option β :=
  match laws_toTerm.t k a0_0 a0_1 a0_2 with
  | some (z0, z1, z2) => K z0 z1 z2
  | none => none
noncomputable def laws_toTerm.as (a0_0 : Int) (a0_1 : ByteArray) (a0_2 : List (List D)) : List A := [.agg [.int .i64 a0_0, .str a0_1, .sl a0_2]]
noncomputable def laws_toTerm.kt {β : Type} (a0_0 : Int) (a0_1 : ByteArray) (a0_2 : List (List D)) (K0 : List (List C) → List Out → Option β) : Int → ByteArray → (List (List C)) → Option β := fun z0 z1 z2 => K0 [[.d (.int .i64 z0), .d (.str z1), .own z2]] []
noncomputable def laws_toTerm.e (k : Nat) : Entry := { modes := [(.imm, 0)], rts := [194], al := false, run := fun {β} l K => match l with | [.agg [.int .i64 a0_0, .str a0_1, .sl a0_2]] => laws_toTerm.f k a0_0 a0_1 a0_2 (laws_toTerm.kt a0_0 a0_1 a0_2 K) | _ => none }
noncomputable def laws_toTerm.E (k : Nat) : Env := fun g => bif g == 71 then some (laws_toStringS.e k) else none
noncomputable def laws_toTerm.h : Hints := ⟨fun n => ⟨[], []⟩, fun _ => none, false, []⟩
theorem laws_toTerm.f_eq {β : Type} (k : Nat) (a0_0 : Int) (a0_1 : ByteArray) (a0_2 : List (List D)) (K0 : List (List C) → List Out → Option β) : funDen Try.prog (laws_toTerm.E k) laws_toTerm.h k Try.f140 (laws_toTerm.as a0_0 a0_1 a0_2) K0 = laws_toTerm.g k a0_0 a0_1 a0_2 (laws_toTerm.kt a0_0 a0_1 a0_2 K0) := by kernel_rfl
noncomputable def laws_toTerm.dec (rs : List (List C)) (os : List Out) : Option (Int × ByteArray × (List (List C))) := uncons rs fun c1 r2 => uncons c1 fun x3 l4 => cD x3 fun d5 => dInt .i64 d5 fun w0 => uncons l4 fun x6 l7 => cD x6 fun d8 => dStr d8 fun w1 => uncons l7 fun x9 l10 => cOwn x9 fun w2 => atEnd l10 <| atEnd r2 <| atEnd os (some (w0, w1, w2))
theorem laws_toTerm.kt_dec (a0_0 : Int) (a0_1 : ByteArray) (a0_2 : List (List D)) : laws_toTerm.kt a0_0 a0_1 a0_2 laws_toTerm.dec = (fun z0 z1 z2 => some (z0, z1, z2)) := by kernel_rfl
theorem laws_toTerm.inj (a0_0 : Int) (a0_1 : ByteArray) (a0_2 : List (List D)) {rs : List (List C)} {os : List Out} {z0 : Int} {z1 : ByteArray} {z2 : List (List C)} (h : laws_toTerm.dec rs os = some (z0, z1, z2)) (ho : OutShape (laws_toTerm.as a0_0 a0_1 a0_2) os) : rs = [[.d (.int .i64 z0), .d (.str z1), .own z2]] ∧ os = [] := by
  unfold laws_toTerm.dec at h
  obtain ⟨c1, r2, rfl, h1⟩ := uncons_some h
  obtain ⟨x3, l4, rfl, h2⟩ := uncons_some h1
  obtain ⟨d5, rfl, h3⟩ := cD_some h2
  obtain ⟨w0, rfl, h4⟩ := dInt_some h3
  obtain ⟨x6, l7, rfl, h5⟩ := uncons_some h4
  obtain ⟨d8, rfl, h6⟩ := cD_some h5
  obtain ⟨w1, rfl, h7⟩ := dStr_some h6
  obtain ⟨x9, l10, rfl, h8⟩ := uncons_some h7
  obtain ⟨w2, rfl, h9⟩ := cOwn_some h8
  obtain ⟨rfl, h10⟩ := atEnd_some h9
  obtain ⟨rfl, h11⟩ := atEnd_some h10
  obtain ⟨rfl, h12⟩ := atEnd_some h11
  simp only [Option.some.injEq, Prod.mk.injEq] at h12
  obtain ⟨rfl, rfl, rfl⟩ := h12
  exact ⟨rfl, rfl⟩
theorem laws_toTerm.ok (k : Nat) : EntryOK Try.prog 140 (laws_toTerm.e k) := by
  refine entry_of mix tyok (fn := Try.f140) (c := codeOf Try.f140) Try.func140 (by kernel_rfl) (h := laws_toTerm.h) (k := k) (E := laws_toTerm.E k) (env_cons (laws_toStringS.ok k) env_nil) (by kernel_rfl) (by kernel_rfl) rfl (enter_of Try.func140 (by kernel_rfl)) ?_
  intro β l K r hr
  simp only [laws_toTerm.e] at hr
  split at hr
  case h_2 => cases hr
  unfold laws_toTerm.f at hr
  split at hr
  case h_2 => cases hr
  rename_i hz
  exact ⟨_, _, hr, _, laws_toTerm.dec, _, (laws_toTerm.f_eq k _ _ _ laws_toTerm.dec).trans (by rw [laws_toTerm.kt_dec]; exact hz), fun rs os h ho => laws_toTerm.inj _ _ _ h ho⟩
/-! ### loop.example/g00119/laws.toTermS: function 80 -/
noncomputable def laws_toTermS.l0 {β : Type} (k : Nat) (v0_0 : List (List D)) (K : (List (List C)) → Option β) (L0 : (Int × (List (List C))) → Option β) (v : Int × (List (List C))) : Option β :=
  match v with
  | (v0_1, v0_2) => bif (decide ((v0_1 : Int) < (v0_0.length : Int))) then (atRow v0_0 v0_1 fun c14 => uncons c14 fun d15 r16 => dInt .i64 d15 fun x17 => uncons r16 fun d18 r19 => dStr d18 fun x20 => uncons r19 fun d21 r22 => dSl d21 fun x23 => atEnd r22 (laws_toTerm.f k x17 x20 x23 (fun y24 y25 y26 => guardP ((0 : Int) ≤ v0_1 ∧ v0_1 < (v0_2.length : Int)) (guardP (Int.toNat v0_1 < v0_2.length) (L0 (IntKind.wrap .i64 (v0_1 + 1), v0_2.modify (Int.toNat v0_1) fun c => splice c 0 [.d (.int .i64 y24), .d (.str y25), .own y26])))))) else (K v0_2)
noncomputable def laws_toTermS.g {β : Type} (k : Nat) (a0 : List (List D)) (K : (List (List C)) → Option β) : Option β :=
  guardP ((0 : Int) ≤ (a0.length : Int) ∧ (a0.length : Int) ≤ (most : Int) ∧ (a0.length : Int) ≤ (a0.length : Int) ∧ (a0.length : Int) ≤ (a0.length : Int)) (iter (laws_toTermS.l0 k a0 K) k (0, List.replicate (Int.toNat (a0.length : Int)) ([.d (.int .i64 0), .d (.str (⟨#[]⟩ : ByteArray)), .own ([] : List (List C))] : List C)))
noncomputable def laws_toTermS.t (k : Nat) (a0 : List (List D)) : Option ((List (List C))) := laws_toTermS.g k a0 (fun z0 => some z0)
noncomputable def laws_toTermS.f {β : Type} (k : Nat) (a0 : List (List D)) (K : (List (List C)) → Option β) : Option β :=
  match laws_toTermS.t k a0 with
  | some z0 => K z0
  | none => none
noncomputable def laws_toTermS.as (a0 : List (List D)) : List A := [.d (.sl a0)]
noncomputable def laws_toTermS.kt {β : Type} (a0 : List (List D)) (K0 : List (List C) → List Out → Option β) : (List (List C)) → Option β := fun z0 => K0 [[.own z0]] []
noncomputable def laws_toTermS.e (k : Nat) : Entry := { modes := [(.imm, 0)], rts := [40], al := false, run := fun {β} l K => match l with | [.d (.sl a0)] => laws_toTermS.f k a0 (laws_toTermS.kt a0 K) | _ => none }
noncomputable def laws_toTermS.E (k : Nat) : Env := fun g => bif g == 140 then some (laws_toTerm.e k) else none
noncomputable def laws_toTermS.h : Hints := ⟨fun n => bif n == 3 then ⟨[(0, .asis), (3, .asis), (4, .asis)], []⟩ else ⟨[], []⟩, fun _ => none, false, []⟩
noncomputable def laws_toTermS.s0 (v0_0 : List (List D)) (v : Int × (List (List C))) : St :=
  match v with
  | (v0_1, v0_2) => ⟨[.d false (.sl v0_0), .any, .any, .row 0, .d true (.int .i64 v0_1), .any, .any, .any, .any, .any, .any, .any, .any, .any, .any, .any, .any, .any, .any, .any, .any, .any, .any], [.row none true 40 v0_2]⟩
noncomputable def laws_toTermS.b0 {β : Type} (k : Nat) : St → (Ex → St → Option β) → Option β := fun s K => den Try.prog (laws_toTermS.E k) laws_toTermS.h.H laws_toTermS.h.J k (codeAt [1, 1, 0, 1, 0, 0] (codeOf Try.f80)) s K
noncomputable def laws_toTermS.c0 {β : Type} (k : Nat) (a0 : List (List D)) (K0 : List (List C) → List Out → Option β) : Ex → St → Option β := contAt Try.prog (laws_toTermS.E k) laws_toTermS.h k [1, 1, 0, 1, 0] (codeOf Try.f80) (finDen Try.prog Try.f80 laws_toTermS.h (laws_toTermS.as a0) K0)
theorem laws_toTermS.l0_eq {β : Type} (k : Nat) (a0 : List (List D)) (K0 : List (List C) → List Out → Option β) (v0_0 : List (List D)) : ∀ (kk : Nat) (v : Int × (List (List C))), loopDen (laws_toTermS.b0 k) (laws_toTermS.h.H 3) kk (laws_toTermS.s0 v0_0 v) (laws_toTermS.c0 k a0 K0) = iter (laws_toTermS.l0 k v0_0 (laws_toTermS.kt a0 K0)) kk v :=
  loop_eq (laws_toTermS.s0 v0_0) _ (fun L0 v => by obtain ⟨v0_1, v0_2⟩ := v; kernel_rfl)
noncomputable def laws_toTermS.m {β : Type} (k : Nat) (a0 : List (List D)) (K0 : List (List C) → List Out → Option β) (F : ((List (List D)) → (Int × (List (List C))) → Option β)) : Option β :=
  guardP ((0 : Int) ≤ (a0.length : Int) ∧ (a0.length : Int) ≤ (most : Int) ∧ (a0.length : Int) ≤ (a0.length : Int) ∧ (a0.length : Int) ≤ (a0.length : Int)) ((F) a0 (0, List.replicate (Int.toNat (a0.length : Int)) ([.d (.int .i64 0), .d (.str (⟨#[]⟩ : ByteArray)), .own ([] : List (List C))] : List C)))
theorem laws_toTermS.f_eq {β : Type} (k : Nat) (a0 : List (List D)) (K0 : List (List C) → List Out → Option β) : funDen Try.prog (laws_toTermS.E k) laws_toTermS.h k Try.f80 (laws_toTermS.as a0) K0 = laws_toTermS.g k a0 (laws_toTermS.kt a0 K0) := Eq.trans (b := (laws_toTermS.m k a0 K0) (fun (v0_0 : List (List D)) (v : Int × (List (List C))) => loopDen (laws_toTermS.b0 k) (laws_toTermS.h.H 3) k (laws_toTermS.s0 v0_0 v) (laws_toTermS.c0 k a0 K0))) (by kernel_rfl) (Eq.trans (congrArg (laws_toTermS.m k a0 K0) (funext fun v0_0 => funext fun v => laws_toTermS.l0_eq k a0 K0 v0_0 k v)) (by kernel_rfl))
noncomputable def laws_toTermS.dec (rs : List (List C)) (os : List Out) : Option ((List (List C))) := uncons rs fun c1 r2 => uncons c1 fun x3 l4 => cOwn x3 fun w0 => atEnd l4 <| atEnd r2 <| atEnd os (some w0)
theorem laws_toTermS.kt_dec (a0 : List (List D)) : laws_toTermS.kt a0 laws_toTermS.dec = (fun z0 => some z0) := by kernel_rfl
theorem laws_toTermS.inj (a0 : List (List D)) {rs : List (List C)} {os : List Out} {z0 : List (List C)} (h : laws_toTermS.dec rs os = some z0) (ho : OutShape (laws_toTermS.as a0) os) : rs = [[.own z0]] ∧ os = [] := by
  unfold laws_toTermS.dec at h
  obtain ⟨c1, r2, rfl, h1⟩ := uncons_some h
  obtain ⟨x3, l4, rfl, h2⟩ := uncons_some h1
  obtain ⟨w0, rfl, h3⟩ := cOwn_some h2
  obtain ⟨rfl, h4⟩ := atEnd_some h3
  obtain ⟨rfl, h5⟩ := atEnd_some h4
  obtain ⟨rfl, h6⟩ := atEnd_some h5
  obtain rfl := Option.some.inj h6
  exact ⟨rfl, rfl⟩
theorem laws_toTermS.ok (k : Nat) : EntryOK Try.prog 80 (laws_toTermS.e k) := by
  refine entry_of mix tyok (fn := Try.f80) (c := codeOf Try.f80) Try.func80 (by kernel_rfl) (h := laws_toTermS.h) (k := k) (E := laws_toTermS.E k) (env_cons (laws_toTerm.ok k) env_nil) (by kernel_rfl) (by kernel_rfl) rfl (enter_of Try.func80 (by kernel_rfl)) ?_
  intro β l K r hr
  simp only [laws_toTermS.e] at hr
  split at hr
  case h_2 => cases hr
  unfold laws_toTermS.f at hr
  split at hr
  case h_2 => cases hr
  rename_i hz
  exact ⟨_, _, hr, _, laws_toTermS.dec, _, (laws_toTermS.f_eq k _ laws_toTermS.dec).trans (by rw [laws_toTermS.kt_dec]; exact hz), fun rs os h ho => laws_toTermS.inj _ h ho⟩
/-! ### loop.example/g00119/laws.toWeigh: function 141 -/
noncomputable def laws_toWeigh.g {β : Type} (k : Nat) (a0_0 : ByteArray) (a0_1 : Int) (K : ByteArray → Int → Option β) : Option β :=
  K a0_0 a0_1
noncomputable def laws_toWeigh.t (k : Nat) (a0_0 : ByteArray) (a0_1 : Int) : Option (ByteArray × Int) := laws_toWeigh.g k a0_0 a0_1 (fun z0 z1 => some (z0, z1))
noncomputable def laws_toWeigh.f {β : Type} (k : Nat) (a0_0 : ByteArray) (a0_1 : Int) (K : ByteArray → Int → Option β) : Option β :=
  match laws_toWeigh.t k a0_0 a0_1 with
  | some (z0, z1) => K z0 z1
  | none => none
noncomputable def laws_toWeigh.as (a0_0 : ByteArray) (a0_1 : Int) : List A := [.agg [.str a0_0, .int .i64 a0_1]]
noncomputable def laws_toWeigh.kt {β : Type} (a0_0 : ByteArray) (a0_1 : Int) (K0 : List (List C) → List Out → Option β) : ByteArray → Int → Option β := fun z0 z1 => K0 [[.d (.str z0), .d (.int .i64 z1)]] []
noncomputable def laws_toWeigh.e (k : Nat) : Entry := { modes := [(.imm, 0)], rts := [125], al := false, run := fun {β} l K => match l with | [.agg [.str a0_0, .int .i64 a0_1]] => laws_toWeigh.f k a0_0 a0_1 (laws_toWeigh.kt a0_0 a0_1 K) | _ => none }
noncomputable def laws_toWeigh.E (k : Nat) : Env := fun g => none
noncomputable def laws_toWeigh.h : Hints := ⟨fun n => ⟨[], []⟩, fun _ => none, false, []⟩
theorem laws_toWeigh.f_eq {β : Type} (k : Nat) (a0_0 : ByteArray) (a0_1 : Int) (K0 : List (List C) → List Out → Option β) : funDen Try.prog (laws_toWeigh.E k) laws_toWeigh.h k Try.f141 (laws_toWeigh.as a0_0 a0_1) K0 = laws_toWeigh.g k a0_0 a0_1 (laws_toWeigh.kt a0_0 a0_1 K0) := by kernel_rfl
noncomputable def laws_toWeigh.dec (rs : List (List C)) (os : List Out) : Option (ByteArray × Int) := uncons rs fun c1 r2 => uncons c1 fun x3 l4 => cD x3 fun d5 => dStr d5 fun w0 => uncons l4 fun x6 l7 => cD x6 fun d8 => dInt .i64 d8 fun w1 => atEnd l7 <| atEnd r2 <| atEnd os (some (w0, w1))
theorem laws_toWeigh.kt_dec (a0_0 : ByteArray) (a0_1 : Int) : laws_toWeigh.kt a0_0 a0_1 laws_toWeigh.dec = (fun z0 z1 => some (z0, z1)) := by kernel_rfl
theorem laws_toWeigh.inj (a0_0 : ByteArray) (a0_1 : Int) {rs : List (List C)} {os : List Out} {z0 : ByteArray} {z1 : Int} (h : laws_toWeigh.dec rs os = some (z0, z1)) (ho : OutShape (laws_toWeigh.as a0_0 a0_1) os) : rs = [[.d (.str z0), .d (.int .i64 z1)]] ∧ os = [] := by
  unfold laws_toWeigh.dec at h
  obtain ⟨c1, r2, rfl, h1⟩ := uncons_some h
  obtain ⟨x3, l4, rfl, h2⟩ := uncons_some h1
  obtain ⟨d5, rfl, h3⟩ := cD_some h2
  obtain ⟨w0, rfl, h4⟩ := dStr_some h3
  obtain ⟨x6, l7, rfl, h5⟩ := uncons_some h4
  obtain ⟨d8, rfl, h6⟩ := cD_some h5
  obtain ⟨w1, rfl, h7⟩ := dInt_some h6
  obtain ⟨rfl, h8⟩ := atEnd_some h7
  obtain ⟨rfl, h9⟩ := atEnd_some h8
  obtain ⟨rfl, h10⟩ := atEnd_some h9
  simp only [Option.some.injEq, Prod.mk.injEq] at h10
  obtain ⟨rfl, rfl⟩ := h10
  exact ⟨rfl, rfl⟩
theorem laws_toWeigh.ok (k : Nat) : EntryOK Try.prog 141 (laws_toWeigh.e k) := by
  refine entry_of mix tyok (fn := Try.f141) (c := codeOf Try.f141) Try.func141 (by kernel_rfl) (h := laws_toWeigh.h) (k := k) (E := laws_toWeigh.E k) env_nil (by kernel_rfl) (by kernel_rfl) rfl (enter_of Try.func141 (by kernel_rfl)) ?_
  intro β l K r hr
  simp only [laws_toWeigh.e] at hr
  split at hr
  case h_2 => cases hr
  unfold laws_toWeigh.f at hr
  split at hr
  case h_2 => cases hr
  rename_i hz
  exact ⟨_, _, hr, _, laws_toWeigh.dec, _, (laws_toWeigh.f_eq k _ _ laws_toWeigh.dec).trans (by rw [laws_toWeigh.kt_dec]; exact hz), fun rs os h ho => laws_toWeigh.inj _ _ h ho⟩
/-! ### loop.example/g00119/laws.toWeighS: function 81 -/
noncomputable def laws_toWeighS.l0 {β : Type} (k : Nat) (v0_0 : List (List D)) (K : (List (List C)) → Option β) (L0 : (Int × (List (List C))) → Option β) (v : Int × (List (List C))) : Option β :=
  match v with
  | (v0_1, v0_2) => bif (decide ((v0_1 : Int) < (v0_0.length : Int))) then (atRow v0_0 v0_1 fun c10 => uncons c10 fun d11 r12 => dStr d11 fun x13 => uncons r12 fun d14 r15 => dInt .i64 d14 fun x16 => atEnd r15 (laws_toWeigh.f k x13 x16 (fun y17 y18 => guardP ((0 : Int) ≤ v0_1 ∧ v0_1 < (v0_2.length : Int)) (guardP (Int.toNat v0_1 < v0_2.length) (L0 (IntKind.wrap .i64 (v0_1 + 1), v0_2.modify (Int.toNat v0_1) fun c => splice c 0 [.d (.str y17), .d (.int .i64 y18)])))))) else (K v0_2)
noncomputable def laws_toWeighS.g {β : Type} (k : Nat) (a0 : List (List D)) (K : (List (List C)) → Option β) : Option β :=
  guardP ((0 : Int) ≤ (a0.length : Int) ∧ (a0.length : Int) ≤ (most : Int) ∧ (a0.length : Int) ≤ (a0.length : Int) ∧ (a0.length : Int) ≤ (a0.length : Int)) (iter (laws_toWeighS.l0 k a0 K) k (0, List.replicate (Int.toNat (a0.length : Int)) ([.d (.str (⟨#[]⟩ : ByteArray)), .d (.int .i64 0)] : List C)))
noncomputable def laws_toWeighS.t (k : Nat) (a0 : List (List D)) : Option ((List (List C))) := laws_toWeighS.g k a0 (fun z0 => some z0)
noncomputable def laws_toWeighS.f {β : Type} (k : Nat) (a0 : List (List D)) (K : (List (List C)) → Option β) : Option β :=
  match laws_toWeighS.t k a0 with
  | some z0 => K z0
  | none => none
noncomputable def laws_toWeighS.as (a0 : List (List D)) : List A := [.d (.sl a0)]
noncomputable def laws_toWeighS.kt {β : Type} (a0 : List (List D)) (K0 : List (List C) → List Out → Option β) : (List (List C)) → Option β := fun z0 => K0 [[.own z0]] []
noncomputable def laws_toWeighS.e (k : Nat) : Entry := { modes := [(.imm, 0)], rts := [41], al := false, run := fun {β} l K => match l with | [.d (.sl a0)] => laws_toWeighS.f k a0 (laws_toWeighS.kt a0 K) | _ => none }
noncomputable def laws_toWeighS.E (k : Nat) : Env := fun g => bif g == 141 then some (laws_toWeigh.e k) else none
noncomputable def laws_toWeighS.h : Hints := ⟨fun n => bif n == 3 then ⟨[(0, .asis), (3, .asis), (4, .asis)], []⟩ else ⟨[], []⟩, fun _ => none, false, []⟩
noncomputable def laws_toWeighS.s0 (v0_0 : List (List D)) (v : Int × (List (List C))) : St :=
  match v with
  | (v0_1, v0_2) => ⟨[.d false (.sl v0_0), .any, .any, .row 0, .d true (.int .i64 v0_1), .any, .any, .any, .any, .any, .any, .any, .any, .any, .any, .any, .any, .any, .any, .any, .any, .any, .any], [.row none true 41 v0_2]⟩
noncomputable def laws_toWeighS.b0 {β : Type} (k : Nat) : St → (Ex → St → Option β) → Option β := fun s K => den Try.prog (laws_toWeighS.E k) laws_toWeighS.h.H laws_toWeighS.h.J k (codeAt [1, 1, 0, 1, 0, 0] (codeOf Try.f81)) s K
noncomputable def laws_toWeighS.c0 {β : Type} (k : Nat) (a0 : List (List D)) (K0 : List (List C) → List Out → Option β) : Ex → St → Option β := contAt Try.prog (laws_toWeighS.E k) laws_toWeighS.h k [1, 1, 0, 1, 0] (codeOf Try.f81) (finDen Try.prog Try.f81 laws_toWeighS.h (laws_toWeighS.as a0) K0)
theorem laws_toWeighS.l0_eq {β : Type} (k : Nat) (a0 : List (List D)) (K0 : List (List C) → List Out → Option β) (v0_0 : List (List D)) : ∀ (kk : Nat) (v : Int × (List (List C))), loopDen (laws_toWeighS.b0 k) (laws_toWeighS.h.H 3) kk (laws_toWeighS.s0 v0_0 v) (laws_toWeighS.c0 k a0 K0) = iter (laws_toWeighS.l0 k v0_0 (laws_toWeighS.kt a0 K0)) kk v :=
  loop_eq (laws_toWeighS.s0 v0_0) _ (fun L0 v => by obtain ⟨v0_1, v0_2⟩ := v; kernel_rfl)
noncomputable def laws_toWeighS.m {β : Type} (k : Nat) (a0 : List (List D)) (K0 : List (List C) → List Out → Option β) (F : ((List (List D)) → (Int × (List (List C))) → Option β)) : Option β :=
  guardP ((0 : Int) ≤ (a0.length : Int) ∧ (a0.length : Int) ≤ (most : Int) ∧ (a0.length : Int) ≤ (a0.length : Int) ∧ (a0.length : Int) ≤ (a0.length : Int)) ((F) a0 (0, List.replicate (Int.toNat (a0.length : Int)) ([.d (.str (⟨#[]⟩ : ByteArray)), .d (.int .i64 0)] : List C)))
theorem laws_toWeighS.f_eq {β : Type} (k : Nat) (a0 : List (List D)) (K0 : List (List C) → List Out → Option β) : funDen Try.prog (laws_toWeighS.E k) laws_toWeighS.h k Try.f81 (laws_toWeighS.as a0) K0 = laws_toWeighS.g k a0 (laws_toWeighS.kt a0 K0) := Eq.trans (b := (laws_toWeighS.m k a0 K0) (fun (v0_0 : List (List D)) (v : Int × (List (List C))) => loopDen (laws_toWeighS.b0 k) (laws_toWeighS.h.H 3) k (laws_toWeighS.s0 v0_0 v) (laws_toWeighS.c0 k a0 K0))) (by kernel_rfl) (Eq.trans (congrArg (laws_toWeighS.m k a0 K0) (funext fun v0_0 => funext fun v => laws_toWeighS.l0_eq k a0 K0 v0_0 k v)) (by kernel_rfl))
noncomputable def laws_toWeighS.dec (rs : List (List C)) (os : List Out) : Option ((List (List C))) := uncons rs fun c1 r2 => uncons c1 fun x3 l4 => cOwn x3 fun w0 => atEnd l4 <| atEnd r2 <| atEnd os (some w0)
theorem laws_toWeighS.kt_dec (a0 : List (List D)) : laws_toWeighS.kt a0 laws_toWeighS.dec = (fun z0 => some z0) := by kernel_rfl
theorem laws_toWeighS.inj (a0 : List (List D)) {rs : List (List C)} {os : List Out} {z0 : List (List C)} (h : laws_toWeighS.dec rs os = some z0) (ho : OutShape (laws_toWeighS.as a0) os) : rs = [[.own z0]] ∧ os = [] := by
  unfold laws_toWeighS.dec at h
  obtain ⟨c1, r2, rfl, h1⟩ := uncons_some h
  obtain ⟨x3, l4, rfl, h2⟩ := uncons_some h1
  obtain ⟨w0, rfl, h3⟩ := cOwn_some h2
  obtain ⟨rfl, h4⟩ := atEnd_some h3
  obtain ⟨rfl, h5⟩ := atEnd_some h4
  obtain ⟨rfl, h6⟩ := atEnd_some h5
  obtain rfl := Option.some.inj h6
  exact ⟨rfl, rfl⟩
theorem laws_toWeighS.ok (k : Nat) : EntryOK Try.prog 81 (laws_toWeighS.e k) := by
  refine entry_of mix tyok (fn := Try.f81) (c := codeOf Try.f81) Try.func81 (by kernel_rfl) (h := laws_toWeighS.h) (k := k) (E := laws_toWeighS.E k) (env_cons (laws_toWeigh.ok k) env_nil) (by kernel_rfl) (by kernel_rfl) rfl (enter_of Try.func81 (by kernel_rfl)) ?_
  intro β l K r hr
  simp only [laws_toWeighS.e] at hr
  split at hr
  case h_2 => cases hr
  unfold laws_toWeighS.f at hr
  split at hr
  case h_2 => cases hr
  rename_i hz
  exact ⟨_, _, hr, _, laws_toWeighS.dec, _, (laws_toWeighS.f_eq k _ laws_toWeighS.dec).trans (by rw [laws_toWeighS.kt_dec]; exact hz), fun rs os h ho => laws_toWeighS.inj _ h ho⟩
/-! ### loop.example/g00119/laws.toWant: function 22 -/
noncomputable def laws_toWant.g {β : Type} (k : Nat) (a0_0 : Int) (a0_1 : List (List D)) (a0_2 : List (List D)) (a0_3 : List (List D)) (K : Int → (List (List C)) → (List (List C)) → (List (List C)) → Option β) : Option β :=
  laws_toTermS.f k a0_1 (fun y27 => laws_toStringS.f k a0_2 (fun y28 => laws_toWeighS.f k a0_3 (fun y29 => K a0_0 y27 y28 y29)))
noncomputable def laws_toWant.t (k : Nat) (a0_0 : Int) (a0_1 : List (List D)) (a0_2 : List (List D)) (a0_3 : List (List D)) : Option (Int × (List (List C)) × (List (List C)) × (List (List C))) := laws_toWant.g k a0_0 a0_1 a0_2 a0_3 (fun z0 z1 z2 z3 => some (z0, z1, z2, z3))
noncomputable def laws_toWant.f {β : Type} (k : Nat) (a0_0 : Int) (a0_1 : List (List D)) (a0_2 : List (List D)) (a0_3 : List (List D)) (K : Int → (List (List C)) → (List (List C)) → (List (List C)) → Option β) : Option β :=
  match laws_toWant.t k a0_0 a0_1 a0_2 a0_3 with
  | some (z0, z1, z2, z3) => K z0 z1 z2 z3
  | none => none
noncomputable def laws_toWant.as (a0_0 : Int) (a0_1 : List (List D)) (a0_2 : List (List D)) (a0_3 : List (List D)) : List A := [.agg [.int .i64 a0_0, .sl a0_1, .sl a0_2, .sl a0_3]]
noncomputable def laws_toWant.kt {β : Type} (a0_0 : Int) (a0_1 : List (List D)) (a0_2 : List (List D)) (a0_3 : List (List D)) (K0 : List (List C) → List Out → Option β) : Int → (List (List C)) → (List (List C)) → (List (List C)) → Option β := fun z0 z1 z2 z3 => K0 [[.d (.int .i64 z0), .own z1, .own z2, .own z3]] []
noncomputable def laws_toWant.e (k : Nat) : Entry := { modes := [(.imm, 0)], rts := [43], al := false, run := fun {β} l K => match l with | [.agg [.int .i64 a0_0, .sl a0_1, .sl a0_2, .sl a0_3]] => laws_toWant.f k a0_0 a0_1 a0_2 a0_3 (laws_toWant.kt a0_0 a0_1 a0_2 a0_3 K) | _ => none }
noncomputable def laws_toWant.E (k : Nat) : Env := fun g => bif g == 80 then some (laws_toTermS.e k) else bif g == 71 then some (laws_toStringS.e k) else bif g == 81 then some (laws_toWeighS.e k) else none
noncomputable def laws_toWant.h : Hints := ⟨fun n => ⟨[], []⟩, fun _ => none, false, []⟩
theorem laws_toWant.f_eq {β : Type} (k : Nat) (a0_0 : Int) (a0_1 : List (List D)) (a0_2 : List (List D)) (a0_3 : List (List D)) (K0 : List (List C) → List Out → Option β) : funDen Try.prog (laws_toWant.E k) laws_toWant.h k Try.f22 (laws_toWant.as a0_0 a0_1 a0_2 a0_3) K0 = laws_toWant.g k a0_0 a0_1 a0_2 a0_3 (laws_toWant.kt a0_0 a0_1 a0_2 a0_3 K0) := by kernel_rfl
noncomputable def laws_toWant.dec (rs : List (List C)) (os : List Out) : Option (Int × (List (List C)) × (List (List C)) × (List (List C))) := uncons rs fun c1 r2 => uncons c1 fun x3 l4 => cD x3 fun d5 => dInt .i64 d5 fun w0 => uncons l4 fun x6 l7 => cOwn x6 fun w1 => uncons l7 fun x8 l9 => cOwn x8 fun w2 => uncons l9 fun x10 l11 => cOwn x10 fun w3 => atEnd l11 <| atEnd r2 <| atEnd os (some (w0, w1, w2, w3))
theorem laws_toWant.kt_dec (a0_0 : Int) (a0_1 : List (List D)) (a0_2 : List (List D)) (a0_3 : List (List D)) : laws_toWant.kt a0_0 a0_1 a0_2 a0_3 laws_toWant.dec = (fun z0 z1 z2 z3 => some (z0, z1, z2, z3)) := by kernel_rfl
theorem laws_toWant.inj (a0_0 : Int) (a0_1 : List (List D)) (a0_2 : List (List D)) (a0_3 : List (List D)) {rs : List (List C)} {os : List Out} {z0 : Int} {z1 : List (List C)} {z2 : List (List C)} {z3 : List (List C)} (h : laws_toWant.dec rs os = some (z0, z1, z2, z3)) (ho : OutShape (laws_toWant.as a0_0 a0_1 a0_2 a0_3) os) : rs = [[.d (.int .i64 z0), .own z1, .own z2, .own z3]] ∧ os = [] := by
  unfold laws_toWant.dec at h
  obtain ⟨c1, r2, rfl, h1⟩ := uncons_some h
  obtain ⟨x3, l4, rfl, h2⟩ := uncons_some h1
  obtain ⟨d5, rfl, h3⟩ := cD_some h2
  obtain ⟨w0, rfl, h4⟩ := dInt_some h3
  obtain ⟨x6, l7, rfl, h5⟩ := uncons_some h4
  obtain ⟨w1, rfl, h6⟩ := cOwn_some h5
  obtain ⟨x8, l9, rfl, h7⟩ := uncons_some h6
  obtain ⟨w2, rfl, h8⟩ := cOwn_some h7
  obtain ⟨x10, l11, rfl, h9⟩ := uncons_some h8
  obtain ⟨w3, rfl, h10⟩ := cOwn_some h9
  obtain ⟨rfl, h11⟩ := atEnd_some h10
  obtain ⟨rfl, h12⟩ := atEnd_some h11
  obtain ⟨rfl, h13⟩ := atEnd_some h12
  simp only [Option.some.injEq, Prod.mk.injEq] at h13
  obtain ⟨rfl, rfl, rfl, rfl⟩ := h13
  exact ⟨rfl, rfl⟩
theorem laws_toWant.ok (k : Nat) : EntryOK Try.prog 22 (laws_toWant.e k) := by
  refine entry_of mix tyok (fn := Try.f22) (c := codeOf Try.f22) Try.func22 (by kernel_rfl) (h := laws_toWant.h) (k := k) (E := laws_toWant.E k) (env_cons (laws_toTermS.ok k) (env_cons (laws_toStringS.ok k) (env_cons (laws_toWeighS.ok k) env_nil))) (by kernel_rfl) (by kernel_rfl) rfl (enter_of Try.func22 (by kernel_rfl)) ?_
  intro β l K r hr
  simp only [laws_toWant.e] at hr
  split at hr
  case h_2 => cases hr
  unfold laws_toWant.f at hr
  split at hr
  case h_2 => cases hr
  rename_i hz
  exact ⟨_, _, hr, _, laws_toWant.dec, _, (laws_toWant.f_eq k _ _ _ _ laws_toWant.dec).trans (by rw [laws_toWant.kt_dec]; exact hz), fun rs os h ho => laws_toWant.inj _ _ _ _ h ho⟩
/-! ### loop.example/g00119/laws.toLabel: function 136 -/
noncomputable def laws_toLabel.g {β : Type} (k : Nat) (a0_0 : ByteArray) (a0_1 : ByteArray) (K : ByteArray → ByteArray → Option β) : Option β :=
  K a0_0 a0_1
noncomputable def laws_toLabel.t (k : Nat) (a0_0 : ByteArray) (a0_1 : ByteArray) : Option (ByteArray × ByteArray) := laws_toLabel.g k a0_0 a0_1 (fun z0 z1 => some (z0, z1))
noncomputable def laws_toLabel.f {β : Type} (k : Nat) (a0_0 : ByteArray) (a0_1 : ByteArray) (K : ByteArray → ByteArray → Option β) : Option β :=
  match laws_toLabel.t k a0_0 a0_1 with
  | some (z0, z1) => K z0 z1
  | none => none
noncomputable def laws_toLabel.as (a0_0 : ByteArray) (a0_1 : ByteArray) : List A := [.agg [.str a0_0, .str a0_1]]
noncomputable def laws_toLabel.kt {β : Type} (a0_0 : ByteArray) (a0_1 : ByteArray) (K0 : List (List C) → List Out → Option β) : ByteArray → ByteArray → Option β := fun z0 z1 => K0 [[.d (.str z0), .d (.str z1)]] []
noncomputable def laws_toLabel.e (k : Nat) : Entry := { modes := [(.imm, 0)], rts := [186], al := false, run := fun {β} l K => match l with | [.agg [.str a0_0, .str a0_1]] => laws_toLabel.f k a0_0 a0_1 (laws_toLabel.kt a0_0 a0_1 K) | _ => none }
noncomputable def laws_toLabel.E (k : Nat) : Env := fun g => none
noncomputable def laws_toLabel.h : Hints := ⟨fun n => ⟨[], []⟩, fun _ => none, false, []⟩
theorem laws_toLabel.f_eq {β : Type} (k : Nat) (a0_0 : ByteArray) (a0_1 : ByteArray) (K0 : List (List C) → List Out → Option β) : funDen Try.prog (laws_toLabel.E k) laws_toLabel.h k Try.f136 (laws_toLabel.as a0_0 a0_1) K0 = laws_toLabel.g k a0_0 a0_1 (laws_toLabel.kt a0_0 a0_1 K0) := by kernel_rfl
noncomputable def laws_toLabel.dec (rs : List (List C)) (os : List Out) : Option (ByteArray × ByteArray) := uncons rs fun c1 r2 => uncons c1 fun x3 l4 => cD x3 fun d5 => dStr d5 fun w0 => uncons l4 fun x6 l7 => cD x6 fun d8 => dStr d8 fun w1 => atEnd l7 <| atEnd r2 <| atEnd os (some (w0, w1))
theorem laws_toLabel.kt_dec (a0_0 : ByteArray) (a0_1 : ByteArray) : laws_toLabel.kt a0_0 a0_1 laws_toLabel.dec = (fun z0 z1 => some (z0, z1)) := by kernel_rfl
theorem laws_toLabel.inj (a0_0 : ByteArray) (a0_1 : ByteArray) {rs : List (List C)} {os : List Out} {z0 : ByteArray} {z1 : ByteArray} (h : laws_toLabel.dec rs os = some (z0, z1)) (ho : OutShape (laws_toLabel.as a0_0 a0_1) os) : rs = [[.d (.str z0), .d (.str z1)]] ∧ os = [] := by
  unfold laws_toLabel.dec at h
  obtain ⟨c1, r2, rfl, h1⟩ := uncons_some h
  obtain ⟨x3, l4, rfl, h2⟩ := uncons_some h1
  obtain ⟨d5, rfl, h3⟩ := cD_some h2
  obtain ⟨w0, rfl, h4⟩ := dStr_some h3
  obtain ⟨x6, l7, rfl, h5⟩ := uncons_some h4
  obtain ⟨d8, rfl, h6⟩ := cD_some h5
  obtain ⟨w1, rfl, h7⟩ := dStr_some h6
  obtain ⟨rfl, h8⟩ := atEnd_some h7
  obtain ⟨rfl, h9⟩ := atEnd_some h8
  obtain ⟨rfl, h10⟩ := atEnd_some h9
  simp only [Option.some.injEq, Prod.mk.injEq] at h10
  obtain ⟨rfl, rfl⟩ := h10
  exact ⟨rfl, rfl⟩
theorem laws_toLabel.ok (k : Nat) : EntryOK Try.prog 136 (laws_toLabel.e k) := by
  refine entry_of mix tyok (fn := Try.f136) (c := codeOf Try.f136) Try.func136 (by kernel_rfl) (h := laws_toLabel.h) (k := k) (E := laws_toLabel.E k) env_nil (by kernel_rfl) (by kernel_rfl) rfl (enter_of Try.func136 (by kernel_rfl)) ?_
  intro β l K r hr
  simp only [laws_toLabel.e] at hr
  split at hr
  case h_2 => cases hr
  unfold laws_toLabel.f at hr
  split at hr
  case h_2 => cases hr
  rename_i hz
  exact ⟨_, _, hr, _, laws_toLabel.dec, _, (laws_toLabel.f_eq k _ _ laws_toLabel.dec).trans (by rw [laws_toLabel.kt_dec]; exact hz), fun rs os h ho => laws_toLabel.inj _ _ h ho⟩
/-! ### loop.example/g00119/laws.toLabelS: function 70 -/
noncomputable def laws_toLabelS.l0 {β : Type} (k : Nat) (v0_0 : List (List D)) (K : (List (List C)) → Option β) (L0 : (Int × (List (List C))) → Option β) (v : Int × (List (List C))) : Option β :=
  match v with
  | (v0_1, v0_2) => bif (decide ((v0_1 : Int) < (v0_0.length : Int))) then (atRow v0_0 v0_1 fun c10 => uncons c10 fun d11 r12 => dStr d11 fun x13 => uncons r12 fun d14 r15 => dStr d14 fun x16 => atEnd r15 (laws_toLabel.f k x13 x16 (fun y17 y18 => guardP ((0 : Int) ≤ v0_1 ∧ v0_1 < (v0_2.length : Int)) (guardP (Int.toNat v0_1 < v0_2.length) (L0 (IntKind.wrap .i64 (v0_1 + 1), v0_2.modify (Int.toNat v0_1) fun c => splice c 0 [.d (.str y17), .d (.str y18)])))))) else (K v0_2)
noncomputable def laws_toLabelS.g {β : Type} (k : Nat) (a0 : List (List D)) (K : (List (List C)) → Option β) : Option β :=
  guardP ((0 : Int) ≤ (a0.length : Int) ∧ (a0.length : Int) ≤ (most : Int) ∧ (a0.length : Int) ≤ (a0.length : Int) ∧ (a0.length : Int) ≤ (a0.length : Int)) (iter (laws_toLabelS.l0 k a0 K) k (0, List.replicate (Int.toNat (a0.length : Int)) ([.d (.str (⟨#[]⟩ : ByteArray)), .d (.str (⟨#[]⟩ : ByteArray))] : List C)))
noncomputable def laws_toLabelS.t (k : Nat) (a0 : List (List D)) : Option ((List (List C))) := laws_toLabelS.g k a0 (fun z0 => some z0)
noncomputable def laws_toLabelS.f {β : Type} (k : Nat) (a0 : List (List D)) (K : (List (List C)) → Option β) : Option β :=
  match laws_toLabelS.t k a0 with
  | some z0 => K z0
  | none => none
noncomputable def laws_toLabelS.as (a0 : List (List D)) : List A := [.d (.sl a0)]
noncomputable def laws_toLabelS.kt {β : Type} (a0 : List (List D)) (K0 : List (List C) → List Out → Option β) : (List (List C)) → Option β := fun z0 => K0 [[.own z0]] []
noncomputable def laws_toLabelS.e (k : Nat) : Entry := { modes := [(.imm, 0)], rts := [28], al := false, run := fun {β} l K => match l with | [.d (.sl a0)] => laws_toLabelS.f k a0 (laws_toLabelS.kt a0 K) | _ => none }
noncomputable def laws_toLabelS.E (k : Nat) : Env := fun g => bif g == 136 then some (laws_toLabel.e k) else none
noncomputable def laws_toLabelS.h : Hints := ⟨fun n => bif n == 3 then ⟨[(0, .asis), (3, .asis), (4, .asis)], []⟩ else ⟨[], []⟩, fun _ => none, false, []⟩
noncomputable def laws_toLabelS.s0 (v0_0 : List (List D)) (v : Int × (List (List C))) : St :=
  match v with
  | (v0_1, v0_2) => ⟨[.d false (.sl v0_0), .any, .any, .row 0, .d true (.int .i64 v0_1), .any, .any, .any, .any, .any, .any, .any, .any, .any, .any, .any, .any, .any, .any, .any, .any, .any, .any], [.row none true 28 v0_2]⟩
noncomputable def laws_toLabelS.b0 {β : Type} (k : Nat) : St → (Ex → St → Option β) → Option β := fun s K => den Try.prog (laws_toLabelS.E k) laws_toLabelS.h.H laws_toLabelS.h.J k (codeAt [1, 1, 0, 1, 0, 0] (codeOf Try.f70)) s K
noncomputable def laws_toLabelS.c0 {β : Type} (k : Nat) (a0 : List (List D)) (K0 : List (List C) → List Out → Option β) : Ex → St → Option β := contAt Try.prog (laws_toLabelS.E k) laws_toLabelS.h k [1, 1, 0, 1, 0] (codeOf Try.f70) (finDen Try.prog Try.f70 laws_toLabelS.h (laws_toLabelS.as a0) K0)
theorem laws_toLabelS.l0_eq {β : Type} (k : Nat) (a0 : List (List D)) (K0 : List (List C) → List Out → Option β) (v0_0 : List (List D)) : ∀ (kk : Nat) (v : Int × (List (List C))), loopDen (laws_toLabelS.b0 k) (laws_toLabelS.h.H 3) kk (laws_toLabelS.s0 v0_0 v) (laws_toLabelS.c0 k a0 K0) = iter (laws_toLabelS.l0 k v0_0 (laws_toLabelS.kt a0 K0)) kk v :=
  loop_eq (laws_toLabelS.s0 v0_0) _ (fun L0 v => by obtain ⟨v0_1, v0_2⟩ := v; kernel_rfl)
noncomputable def laws_toLabelS.m {β : Type} (k : Nat) (a0 : List (List D)) (K0 : List (List C) → List Out → Option β) (F : ((List (List D)) → (Int × (List (List C))) → Option β)) : Option β :=
  guardP ((0 : Int) ≤ (a0.length : Int) ∧ (a0.length : Int) ≤ (most : Int) ∧ (a0.length : Int) ≤ (a0.length : Int) ∧ (a0.length : Int) ≤ (a0.length : Int)) ((F) a0 (0, List.replicate (Int.toNat (a0.length : Int)) ([.d (.str (⟨#[]⟩ : ByteArray)), .d (.str (⟨#[]⟩ : ByteArray))] : List C)))
theorem laws_toLabelS.f_eq {β : Type} (k : Nat) (a0 : List (List D)) (K0 : List (List C) → List Out → Option β) : funDen Try.prog (laws_toLabelS.E k) laws_toLabelS.h k Try.f70 (laws_toLabelS.as a0) K0 = laws_toLabelS.g k a0 (laws_toLabelS.kt a0 K0) := Eq.trans (b := (laws_toLabelS.m k a0 K0) (fun (v0_0 : List (List D)) (v : Int × (List (List C))) => loopDen (laws_toLabelS.b0 k) (laws_toLabelS.h.H 3) k (laws_toLabelS.s0 v0_0 v) (laws_toLabelS.c0 k a0 K0))) (by kernel_rfl) (Eq.trans (congrArg (laws_toLabelS.m k a0 K0) (funext fun v0_0 => funext fun v => laws_toLabelS.l0_eq k a0 K0 v0_0 k v)) (by kernel_rfl))
noncomputable def laws_toLabelS.dec (rs : List (List C)) (os : List Out) : Option ((List (List C))) := uncons rs fun c1 r2 => uncons c1 fun x3 l4 => cOwn x3 fun w0 => atEnd l4 <| atEnd r2 <| atEnd os (some w0)
theorem laws_toLabelS.kt_dec (a0 : List (List D)) : laws_toLabelS.kt a0 laws_toLabelS.dec = (fun z0 => some z0) := by kernel_rfl
theorem laws_toLabelS.inj (a0 : List (List D)) {rs : List (List C)} {os : List Out} {z0 : List (List C)} (h : laws_toLabelS.dec rs os = some z0) (ho : OutShape (laws_toLabelS.as a0) os) : rs = [[.own z0]] ∧ os = [] := by
  unfold laws_toLabelS.dec at h
  obtain ⟨c1, r2, rfl, h1⟩ := uncons_some h
  obtain ⟨x3, l4, rfl, h2⟩ := uncons_some h1
  obtain ⟨w0, rfl, h3⟩ := cOwn_some h2
  obtain ⟨rfl, h4⟩ := atEnd_some h3
  obtain ⟨rfl, h5⟩ := atEnd_some h4
  obtain ⟨rfl, h6⟩ := atEnd_some h5
  obtain rfl := Option.some.inj h6
  exact ⟨rfl, rfl⟩
theorem laws_toLabelS.ok (k : Nat) : EntryOK Try.prog 70 (laws_toLabelS.e k) := by
  refine entry_of mix tyok (fn := Try.f70) (c := codeOf Try.f70) Try.func70 (by kernel_rfl) (h := laws_toLabelS.h) (k := k) (E := laws_toLabelS.E k) (env_cons (laws_toLabel.ok k) env_nil) (by kernel_rfl) (by kernel_rfl) rfl (enter_of Try.func70 (by kernel_rfl)) ?_
  intro β l K r hr
  simp only [laws_toLabelS.e] at hr
  split at hr
  case h_2 => cases hr
  unfold laws_toLabelS.f at hr
  split at hr
  case h_2 => cases hr
  rename_i hz
  exact ⟨_, _, hr, _, laws_toLabelS.dec, _, (laws_toLabelS.f_eq k _ laws_toLabelS.dec).trans (by rw [laws_toLabelS.kt_dec]; exact hz), fun rs os h ho => laws_toLabelS.inj _ h ho⟩
/-! ### loop.example/g00119/laws.toIsland: function 17 -/
noncomputable def laws_toIsland.g {β : Type} (k : Nat) (a0_0 : ByteArray) (a0_1 : List (List D)) (a0_2 : List (List D)) (a0_3 : Int) (K : ByteArray → (List (List C)) → (List (List C)) → Int → Option β) : Option β :=
  laws_toLabelS.f k a0_1 (fun y19 => laws_toStringS.f k a0_2 (fun y20 => K a0_0 y19 y20 a0_3))
noncomputable def laws_toIsland.t (k : Nat) (a0_0 : ByteArray) (a0_1 : List (List D)) (a0_2 : List (List D)) (a0_3 : Int) : Option (ByteArray × (List (List C)) × (List (List C)) × Int) := laws_toIsland.g k a0_0 a0_1 a0_2 a0_3 (fun z0 z1 z2 z3 => some (z0, z1, z2, z3))
noncomputable def laws_toIsland.f {β : Type} (k : Nat) (a0_0 : ByteArray) (a0_1 : List (List D)) (a0_2 : List (List D)) (a0_3 : Int) (K : ByteArray → (List (List C)) → (List (List C)) → Int → Option β) : Option β :=
  match laws_toIsland.t k a0_0 a0_1 a0_2 a0_3 with
  | some (z0, z1, z2, z3) => K z0 z1 z2 z3
  | none => none
noncomputable def laws_toIsland.as (a0_0 : ByteArray) (a0_1 : List (List D)) (a0_2 : List (List D)) (a0_3 : Int) : List A := [.agg [.str a0_0, .sl a0_1, .sl a0_2, .int .i64 a0_3]]
noncomputable def laws_toIsland.kt {β : Type} (a0_0 : ByteArray) (a0_1 : List (List D)) (a0_2 : List (List D)) (a0_3 : Int) (K0 : List (List C) → List Out → Option β) : ByteArray → (List (List C)) → (List (List C)) → Int → Option β := fun z0 z1 z2 z3 => K0 [[.d (.str z0), .own z1, .own z2, .d (.int .i64 z3)]] []
noncomputable def laws_toIsland.e (k : Nat) : Entry := { modes := [(.imm, 0)], rts := [30], al := false, run := fun {β} l K => match l with | [.agg [.str a0_0, .sl a0_1, .sl a0_2, .int .i64 a0_3]] => laws_toIsland.f k a0_0 a0_1 a0_2 a0_3 (laws_toIsland.kt a0_0 a0_1 a0_2 a0_3 K) | _ => none }
noncomputable def laws_toIsland.E (k : Nat) : Env := fun g => bif g == 70 then some (laws_toLabelS.e k) else bif g == 71 then some (laws_toStringS.e k) else none
noncomputable def laws_toIsland.h : Hints := ⟨fun n => ⟨[], []⟩, fun _ => none, false, []⟩
theorem laws_toIsland.f_eq {β : Type} (k : Nat) (a0_0 : ByteArray) (a0_1 : List (List D)) (a0_2 : List (List D)) (a0_3 : Int) (K0 : List (List C) → List Out → Option β) : funDen Try.prog (laws_toIsland.E k) laws_toIsland.h k Try.f17 (laws_toIsland.as a0_0 a0_1 a0_2 a0_3) K0 = laws_toIsland.g k a0_0 a0_1 a0_2 a0_3 (laws_toIsland.kt a0_0 a0_1 a0_2 a0_3 K0) := by kernel_rfl
noncomputable def laws_toIsland.dec (rs : List (List C)) (os : List Out) : Option (ByteArray × (List (List C)) × (List (List C)) × Int) := uncons rs fun c1 r2 => uncons c1 fun x3 l4 => cD x3 fun d5 => dStr d5 fun w0 => uncons l4 fun x6 l7 => cOwn x6 fun w1 => uncons l7 fun x8 l9 => cOwn x8 fun w2 => uncons l9 fun x10 l11 => cD x10 fun d12 => dInt .i64 d12 fun w3 => atEnd l11 <| atEnd r2 <| atEnd os (some (w0, w1, w2, w3))
theorem laws_toIsland.kt_dec (a0_0 : ByteArray) (a0_1 : List (List D)) (a0_2 : List (List D)) (a0_3 : Int) : laws_toIsland.kt a0_0 a0_1 a0_2 a0_3 laws_toIsland.dec = (fun z0 z1 z2 z3 => some (z0, z1, z2, z3)) := by kernel_rfl
theorem laws_toIsland.inj (a0_0 : ByteArray) (a0_1 : List (List D)) (a0_2 : List (List D)) (a0_3 : Int) {rs : List (List C)} {os : List Out} {z0 : ByteArray} {z1 : List (List C)} {z2 : List (List C)} {z3 : Int} (h : laws_toIsland.dec rs os = some (z0, z1, z2, z3)) (ho : OutShape (laws_toIsland.as a0_0 a0_1 a0_2 a0_3) os) : rs = [[.d (.str z0), .own z1, .own z2, .d (.int .i64 z3)]] ∧ os = [] := by
  unfold laws_toIsland.dec at h
  obtain ⟨c1, r2, rfl, h1⟩ := uncons_some h
  obtain ⟨x3, l4, rfl, h2⟩ := uncons_some h1
  obtain ⟨d5, rfl, h3⟩ := cD_some h2
  obtain ⟨w0, rfl, h4⟩ := dStr_some h3
  obtain ⟨x6, l7, rfl, h5⟩ := uncons_some h4
  obtain ⟨w1, rfl, h6⟩ := cOwn_some h5
  obtain ⟨x8, l9, rfl, h7⟩ := uncons_some h6
  obtain ⟨w2, rfl, h8⟩ := cOwn_some h7
  obtain ⟨x10, l11, rfl, h9⟩ := uncons_some h8
  obtain ⟨d12, rfl, h10⟩ := cD_some h9
  obtain ⟨w3, rfl, h11⟩ := dInt_some h10
  obtain ⟨rfl, h12⟩ := atEnd_some h11
  obtain ⟨rfl, h13⟩ := atEnd_some h12
  obtain ⟨rfl, h14⟩ := atEnd_some h13
  simp only [Option.some.injEq, Prod.mk.injEq] at h14
  obtain ⟨rfl, rfl, rfl, rfl⟩ := h14
  exact ⟨rfl, rfl⟩
theorem laws_toIsland.ok (k : Nat) : EntryOK Try.prog 17 (laws_toIsland.e k) := by
  refine entry_of mix tyok (fn := Try.f17) (c := codeOf Try.f17) Try.func17 (by kernel_rfl) (h := laws_toIsland.h) (k := k) (E := laws_toIsland.E k) (env_cons (laws_toLabelS.ok k) (env_cons (laws_toStringS.ok k) env_nil)) (by kernel_rfl) (by kernel_rfl) rfl (enter_of Try.func17 (by kernel_rfl)) ?_
  intro β l K r hr
  simp only [laws_toIsland.e] at hr
  split at hr
  case h_2 => cases hr
  unfold laws_toIsland.f at hr
  split at hr
  case h_2 => cases hr
  rename_i hz
  exact ⟨_, _, hr, _, laws_toIsland.dec, _, (laws_toIsland.f_eq k _ _ _ _ laws_toIsland.dec).trans (by rw [laws_toIsland.kt_dec]; exact hz), fun rs os h ho => laws_toIsland.inj _ _ _ _ h ho⟩
/-! ### loop.example/g00119/spec.l1In: function 69 -/
noncomputable def spec_l1In.g {β : Type} (k : Nat) (a0 : Int) (a1 : Int) (a2 : Int) (K : Bool → Option β) : Option β :=
  bif (decide ((a0 : Int) ≥ a1)) then (K (decide ((a0 : Int) ≤ a2))) else (K false)
noncomputable def spec_l1In.t (k : Nat) (a0 : Int) (a1 : Int) (a2 : Int) : Option (Bool) := spec_l1In.g k a0 a1 a2 (fun z0 => some z0)
noncomputable def spec_l1In.f {β : Type} (k : Nat) (a0 : Int) (a1 : Int) (a2 : Int) (K : Bool → Option β) : Option β :=
  match spec_l1In.t k a0 a1 a2 with
  | some z0 => K z0
  | none => none
noncomputable def spec_l1In.as (a0 : Int) (a1 : Int) (a2 : Int) : List A := [.d (.int .i64 a0), .d (.int .i64 a1), .d (.int .i64 a2)]
noncomputable def spec_l1In.kt {β : Type} (a0 : Int) (a1 : Int) (a2 : Int) (K0 : List (List C) → List Out → Option β) : Bool → Option β := fun z0 => K0 [[.d (.bool z0)]] []
noncomputable def spec_l1In.e (k : Nat) : Entry := { modes := [(.imm, 0), (.imm, 0), (.imm, 0)], rts := [4], al := false, run := fun {β} l K => match l with | [.d (.int .i64 a0), .d (.int .i64 a1), .d (.int .i64 a2)] => spec_l1In.f k a0 a1 a2 (spec_l1In.kt a0 a1 a2 K) | _ => none }
noncomputable def spec_l1In.E (k : Nat) : Env := fun g => none
noncomputable def spec_l1In.h : Hints := ⟨fun n => ⟨[], []⟩, fun _ => none, false, []⟩
theorem spec_l1In.f_eq {β : Type} (k : Nat) (a0 : Int) (a1 : Int) (a2 : Int) (K0 : List (List C) → List Out → Option β) : funDen Try.prog (spec_l1In.E k) spec_l1In.h k Try.f69 (spec_l1In.as a0 a1 a2) K0 = spec_l1In.g k a0 a1 a2 (spec_l1In.kt a0 a1 a2 K0) := by kernel_rfl
noncomputable def spec_l1In.dec (rs : List (List C)) (os : List Out) : Option (Bool) := uncons rs fun c1 r2 => uncons c1 fun x3 l4 => cD x3 fun d5 => dBool d5 fun w0 => atEnd l4 <| atEnd r2 <| atEnd os (some w0)
theorem spec_l1In.kt_dec (a0 : Int) (a1 : Int) (a2 : Int) : spec_l1In.kt a0 a1 a2 spec_l1In.dec = (fun z0 => some z0) := by kernel_rfl
theorem spec_l1In.inj (a0 : Int) (a1 : Int) (a2 : Int) {rs : List (List C)} {os : List Out} {z0 : Bool} (h : spec_l1In.dec rs os = some z0) (ho : OutShape (spec_l1In.as a0 a1 a2) os) : rs = [[.d (.bool z0)]] ∧ os = [] := by
  unfold spec_l1In.dec at h
  obtain ⟨c1, r2, rfl, h1⟩ := uncons_some h
  obtain ⟨x3, l4, rfl, h2⟩ := uncons_some h1
  obtain ⟨d5, rfl, h3⟩ := cD_some h2
  obtain ⟨w0, rfl, h4⟩ := dBool_some h3
  obtain ⟨rfl, h5⟩ := atEnd_some h4
  obtain ⟨rfl, h6⟩ := atEnd_some h5
  obtain ⟨rfl, h7⟩ := atEnd_some h6
  obtain rfl := Option.some.inj h7
  exact ⟨rfl, rfl⟩
theorem spec_l1In.ok (k : Nat) : EntryOK Try.prog 69 (spec_l1In.e k) := by
  refine entry_of mix tyok (fn := Try.f69) (c := codeOf Try.f69) Try.func69 (by kernel_rfl) (h := spec_l1In.h) (k := k) (E := spec_l1In.E k) env_nil (by kernel_rfl) (by kernel_rfl) rfl (enter_of Try.func69 (by kernel_rfl)) ?_
  intro β l K r hr
  simp only [spec_l1In.e] at hr
  split at hr
  case h_2 => cases hr
  unfold spec_l1In.f at hr
  split at hr
  case h_2 => cases hr
  rename_i hz
  exact ⟨_, _, hr, _, spec_l1In.dec, _, (spec_l1In.f_eq k _ _ _ spec_l1In.dec).trans (by rw [spec_l1In.kt_dec]; exact hz), fun rs os h ho => spec_l1In.inj _ _ _ h ho⟩
/-! ### loop.example/g00119/spec.NameOk: function 66 -/
noncomputable def spec_NameOk.l0 {β : Type} (k : Nat) (v0_0 : ByteArray) (K : Bool → Option β) (L0 : Int → Option β) (v : Int) : Option β :=
  match v with
  | v0_1 => bif (decide ((v0_1 : Int) < (v0_0.size : Int))) then (atStr v0_0 v0_1 fun b9 => spec_l1In.f k (IntKind.wrap .i64 b9) 97 122 (fun y10 => bif (!y10) then (atStr v0_0 v0_1 fun b11 => spec_l1In.f k (IntKind.wrap .i64 b11) 48 57 (fun y12 => bif (!y12) then (atStr v0_0 v0_1 fun b13 => bif ((b13 : Int) != 45) then (K false) else (L0 (IntKind.wrap .i64 (v0_1 + 1)))) else (L0 (IntKind.wrap .i64 (v0_1 + 1))))) else (L0 (IntKind.wrap .i64 (v0_1 + 1))))) else (spec_l1In.f k (v0_0.size : Int) 1 20 (fun y14 => bif y14 then (atStr v0_0 0 fun b15 => bif ((b15 : Int) != 45) then (atStr v0_0 (IntKind.wrap .i64 ((v0_0.size : Int) - 1)) fun b16 => K ((b16 : Int) != 45)) else (K false)) else (K false)))
noncomputable def spec_NameOk.g {β : Type} (k : Nat) (a0 : ByteArray) (K : Bool → Option β) : Option β :=
  iter (spec_NameOk.l0 k a0 K) k (0)
noncomputable def spec_NameOk.t (k : Nat) (a0 : ByteArray) : Option (Bool) := spec_NameOk.g k a0 (fun z0 => some z0)
noncomputable def spec_NameOk.f {β : Type} (k : Nat) (a0 : ByteArray) (K : Bool → Option β) : Option β :=
  match spec_NameOk.t k a0 with
  | some z0 => K z0
  | none => none
noncomputable def spec_NameOk.as (a0 : ByteArray) : List A := [.d (.str a0)]
noncomputable def spec_NameOk.kt {β : Type} (a0 : ByteArray) (K0 : List (List C) → List Out → Option β) : Bool → Option β := fun z0 => K0 [[.d (.bool z0)]] []
noncomputable def spec_NameOk.e (k : Nat) : Entry := { modes := [(.imm, 0)], rts := [4], al := false, run := fun {β} l K => match l with | [.d (.str a0)] => spec_NameOk.f k a0 (spec_NameOk.kt a0 K) | _ => none }
noncomputable def spec_NameOk.E (k : Nat) : Env := fun g => bif g == 69 then some (spec_l1In.e k) else none
noncomputable def spec_NameOk.h : Hints := ⟨fun n => bif n == 2 then ⟨[(0, .asis), (3, .asis)], []⟩ else ⟨[], []⟩, fun _ => none, false, []⟩
noncomputable def spec_NameOk.s0 (v0_0 : ByteArray) (v : Int) : St :=
  match v with
  | v0_1 => ⟨[.d false (.str v0_0), .any, .any, .d true (.int .i64 v0_1), .any, .any, .any, .any, .any, .any, .any, .any, .any, .any, .any, .any, .any, .any, .any, .any, .any, .any, .any, .any, .any, .any, .any, .any, .any, .any, .any, .any, .any, .any, .any, .any, .any, .any, .any, .any, .any, .any, .any, .any, .any, .any], []⟩
noncomputable def spec_NameOk.b0 {β : Type} (k : Nat) : St → (Ex → St → Option β) → Option β := fun s K => den Try.prog (spec_NameOk.E k) spec_NameOk.h.H spec_NameOk.h.J k (codeAt [1, 0, 1, 0, 0] (codeOf Try.f66)) s K
noncomputable def spec_NameOk.c0 {β : Type} (k : Nat) (a0 : ByteArray) (K0 : List (List C) → List Out → Option β) : Ex → St → Option β := contAt Try.prog (spec_NameOk.E k) spec_NameOk.h k [1, 0, 1, 0] (codeOf Try.f66) (finDen Try.prog Try.f66 spec_NameOk.h (spec_NameOk.as a0) K0)
theorem spec_NameOk.l0_eq {β : Type} (k : Nat) (a0 : ByteArray) (K0 : List (List C) → List Out → Option β) (v0_0 : ByteArray) : ∀ (kk : Nat) (v : Int), loopDen (spec_NameOk.b0 k) (spec_NameOk.h.H 2) kk (spec_NameOk.s0 v0_0 v) (spec_NameOk.c0 k a0 K0) = iter (spec_NameOk.l0 k v0_0 (spec_NameOk.kt a0 K0)) kk v :=
  loop_eq (spec_NameOk.s0 v0_0) _ (fun L0 v => by kernel_rfl)
noncomputable def spec_NameOk.m {β : Type} (k : Nat) (a0 : ByteArray) (K0 : List (List C) → List Out → Option β) (F : (ByteArray → Int → Option β)) : Option β :=
  (F) a0 (0)
theorem spec_NameOk.f_eq {β : Type} (k : Nat) (a0 : ByteArray) (K0 : List (List C) → List Out → Option β) : funDen Try.prog (spec_NameOk.E k) spec_NameOk.h k Try.f66 (spec_NameOk.as a0) K0 = spec_NameOk.g k a0 (spec_NameOk.kt a0 K0) := Eq.trans (b := (spec_NameOk.m k a0 K0) (fun (v0_0 : ByteArray) (v : Int) => loopDen (spec_NameOk.b0 k) (spec_NameOk.h.H 2) k (spec_NameOk.s0 v0_0 v) (spec_NameOk.c0 k a0 K0))) (by kernel_rfl) (Eq.trans (congrArg (spec_NameOk.m k a0 K0) (funext fun v0_0 => funext fun v => spec_NameOk.l0_eq k a0 K0 v0_0 k v)) (by kernel_rfl))
noncomputable def spec_NameOk.dec (rs : List (List C)) (os : List Out) : Option (Bool) := uncons rs fun c1 r2 => uncons c1 fun x3 l4 => cD x3 fun d5 => dBool d5 fun w0 => atEnd l4 <| atEnd r2 <| atEnd os (some w0)
theorem spec_NameOk.kt_dec (a0 : ByteArray) : spec_NameOk.kt a0 spec_NameOk.dec = (fun z0 => some z0) := by kernel_rfl
theorem spec_NameOk.inj (a0 : ByteArray) {rs : List (List C)} {os : List Out} {z0 : Bool} (h : spec_NameOk.dec rs os = some z0) (ho : OutShape (spec_NameOk.as a0) os) : rs = [[.d (.bool z0)]] ∧ os = [] := by
  unfold spec_NameOk.dec at h
  obtain ⟨c1, r2, rfl, h1⟩ := uncons_some h
  obtain ⟨x3, l4, rfl, h2⟩ := uncons_some h1
  obtain ⟨d5, rfl, h3⟩ := cD_some h2
  obtain ⟨w0, rfl, h4⟩ := dBool_some h3
  obtain ⟨rfl, h5⟩ := atEnd_some h4
  obtain ⟨rfl, h6⟩ := atEnd_some h5
  obtain ⟨rfl, h7⟩ := atEnd_some h6
  obtain rfl := Option.some.inj h7
  exact ⟨rfl, rfl⟩
theorem spec_NameOk.ok (k : Nat) : EntryOK Try.prog 66 (spec_NameOk.e k) := by
  refine entry_of mix tyok (fn := Try.f66) (c := codeOf Try.f66) Try.func66 (by kernel_rfl) (h := spec_NameOk.h) (k := k) (E := spec_NameOk.E k) (env_cons (spec_l1In.ok k) env_nil) (by kernel_rfl) (by kernel_rfl) rfl (enter_of Try.func66 (by kernel_rfl)) ?_
  intro β l K r hr
  simp only [spec_NameOk.e] at hr
  split at hr
  case h_2 => cases hr
  unfold spec_NameOk.f at hr
  split at hr
  case h_2 => cases hr
  rename_i hz
  exact ⟨_, _, hr, _, spec_NameOk.dec, _, (spec_NameOk.f_eq k _ spec_NameOk.dec).trans (by rw [spec_NameOk.kt_dec]; exact hz), fun rs os h ho => spec_NameOk.inj _ h ho⟩
/-! ### loop.example/g00119/spec.l2Term: function 155 -/
noncomputable def spec_l2Term.l0 {β : Type} (k : Nat) (v0_0 : Int) (v0_2 : Int) (v0_3 : ByteArray) (v0_4 : List (List D)) (K : Bool → Option β) (L0 : Int → Option β) (v : Int) : Option β :=
  match v with
  | v0_1 => bif (decide ((v0_1 : Int) < v0_0)) then (atRow v0_4 v0_1 fun c17 => uncons c17 fun d18 r19 => dStr d18 fun x20 => atEnd r19 (spec_NameOk.f k x20 (fun y21 => bif (!y21) then (K false) else (bif (decide ((v0_1 : Int) > 0)) then (atRow v0_4 (IntKind.wrap .i64 (v0_1 - 1)) fun c22 => uncons c22 fun d23 r24 => dStr d23 fun x25 => atEnd r24 (atRow v0_4 v0_1 fun c26 => uncons c26 fun d27 r28 => dStr d27 fun x29 => atEnd r28 (bif (!(strLt x25 x29)) then (K false) else (L0 (IntKind.wrap .i64 (v0_1 + 1)))))) else (L0 (IntKind.wrap .i64 (v0_1 + 1))))))) else (spec_NameOk.f k v0_3 (fun y30 => bif (!y30) then (K false) else (bif ((v0_2 : Int) == 1) then (bif ((v0_2 : Int) == 1) then (K ((v0_0 : Int) == 1)) else (bif ((v0_2 : Int) == 3) then (spec_l1In.f k v0_0 1 6 (fun y31 => K y31)) else (bif ((v0_2 : Int) == 4) then (bif ((v0_2 : Int) == 4) then (K ((v0_0 : Int) == 0)) else (K false)) else (bif ((v0_2 : Int) == 5) then (K ((v0_0 : Int) == 0)) else (K false))))) else (bif ((v0_2 : Int) == 2) then (K ((v0_0 : Int) == 1)) else (bif ((v0_2 : Int) == 3) then (spec_l1In.f k v0_0 1 6 (fun y32 => K y32)) else (bif ((v0_2 : Int) == 4) then (bif ((v0_2 : Int) == 4) then (K ((v0_0 : Int) == 0)) else (K false)) else (bif ((v0_2 : Int) == 5) then (K ((v0_0 : Int) == 0)) else (K false))))))))
noncomputable def spec_l2Term.g {β : Type} (k : Nat) (a0_0 : Int) (a0_1 : ByteArray) (a0_2 : List (List D)) (K : Bool → Option β) : Option β :=
  iter (spec_l2Term.l0 k (a0_2.length : Int) a0_0 a0_1 a0_2 K) k (0)
noncomputable def spec_l2Term.t (k : Nat) (a0_0 : Int) (a0_1 : ByteArray) (a0_2 : List (List D)) : Option (Bool) := spec_l2Term.g k a0_0 a0_1 a0_2 (fun z0 => some z0)
noncomputable def spec_l2Term.f {β : Type} (k : Nat) (a0_0 : Int) (a0_1 : ByteArray) (a0_2 : List (List D)) (K : Bool → Option β) : Option β :=
  match spec_l2Term.t k a0_0 a0_1 a0_2 with
  | some z0 => K z0
  | none => none
noncomputable def spec_l2Term.as (a0_0 : Int) (a0_1 : ByteArray) (a0_2 : List (List D)) : List A := [.agg [.int .i64 a0_0, .str a0_1, .sl a0_2]]
noncomputable def spec_l2Term.kt {β : Type} (a0_0 : Int) (a0_1 : ByteArray) (a0_2 : List (List D)) (K0 : List (List C) → List Out → Option β) : Bool → Option β := fun z0 => K0 [[.d (.bool z0)]] []
noncomputable def spec_l2Term.e (k : Nat) : Entry := { modes := [(.imm, 0)], rts := [4], al := false, run := fun {β} l K => match l with | [.agg [.int .i64 a0_0, .str a0_1, .sl a0_2]] => spec_l2Term.f k a0_0 a0_1 a0_2 (spec_l2Term.kt a0_0 a0_1 a0_2 K) | _ => none }
noncomputable def spec_l2Term.E (k : Nat) : Env := fun g => bif g == 66 then some (spec_NameOk.e k) else bif g == 69 then some (spec_l1In.e k) else none
noncomputable def spec_l2Term.h : Hints := ⟨fun n => bif n == 3 then ⟨[(1, .asis), (3, .asis), (4, .asis)], []⟩ else ⟨[], []⟩, fun _ => none, false, []⟩
noncomputable def spec_l2Term.s0 (v0_0 : Int) (v0_2 : Int) (v0_3 : ByteArray) (v0_4 : List (List D)) (v : Int) : St :=
  match v with
  | v0_1 => ⟨[.any, .bp 0 0, .any, .d true (.int .i64 v0_0), .d true (.int .i64 v0_1), .any, .any, .any, .any, .any, .any, .any, .any, .any, .any, .any, .any, .any, .any, .any, .any, .any, .any, .any, .any, .any, .any, .any, .any, .any, .any, .any, .any, .any, .any, .any, .any, .any, .any, .any, .any, .any, .any, .any, .any, .any, .any, .any, .any, .any, .any, .any, .any, .any, .any, .any, .any, .any], [.box none 194 [.d false (.int .i64 v0_2), .d false (.str v0_3), .d false (.sl v0_4)]]⟩
noncomputable def spec_l2Term.b0 {β : Type} (k : Nat) : St → (Ex → St → Option β) → Option β := fun s K => den Try.prog (spec_l2Term.E k) spec_l2Term.h.H spec_l2Term.h.J k (codeAt [1, 1, 0, 1, 0, 0] (codeOf Try.f155)) s K
noncomputable def spec_l2Term.c0 {β : Type} (k : Nat) (a0_0 : Int) (a0_1 : ByteArray) (a0_2 : List (List D)) (K0 : List (List C) → List Out → Option β) : Ex → St → Option β := contAt Try.prog (spec_l2Term.E k) spec_l2Term.h k [1, 1, 0, 1, 0] (codeOf Try.f155) (finDen Try.prog Try.f155 spec_l2Term.h (spec_l2Term.as a0_0 a0_1 a0_2) K0)
theorem spec_l2Term.l0_eq {β : Type} (k : Nat) (a0_0 : Int) (a0_1 : ByteArray) (a0_2 : List (List D)) (K0 : List (List C) → List Out → Option β) (v0_0 : Int) (v0_2 : Int) (v0_3 : ByteArray) (v0_4 : List (List D)) : ∀ (kk : Nat) (v : Int), loopDen (spec_l2Term.b0 k) (spec_l2Term.h.H 3) kk (spec_l2Term.s0 v0_0 v0_2 v0_3 v0_4 v) (spec_l2Term.c0 k a0_0 a0_1 a0_2 K0) = iter (spec_l2Term.l0 k v0_0 v0_2 v0_3 v0_4 (spec_l2Term.kt a0_0 a0_1 a0_2 K0)) kk v :=
  loop_eq (spec_l2Term.s0 v0_0 v0_2 v0_3 v0_4) _ (fun L0 v => by kernel_rfl)
noncomputable def spec_l2Term.m {β : Type} (k : Nat) (a0_0 : Int) (a0_1 : ByteArray) (a0_2 : List (List D)) (K0 : List (List C) → List Out → Option β) (F : (Int → Int → ByteArray → (List (List D)) → Int → Option β)) : Option β :=
  (F) (a0_2.length : Int) a0_0 a0_1 a0_2 (0)
theorem spec_l2Term.f_eq {β : Type} (k : Nat) (a0_0 : Int) (a0_1 : ByteArray) (a0_2 : List (List D)) (K0 : List (List C) → List Out → Option β) : funDen Try.prog (spec_l2Term.E k) spec_l2Term.h k Try.f155 (spec_l2Term.as a0_0 a0_1 a0_2) K0 = spec_l2Term.g k a0_0 a0_1 a0_2 (spec_l2Term.kt a0_0 a0_1 a0_2 K0) := Eq.trans (b := (spec_l2Term.m k a0_0 a0_1 a0_2 K0) (fun (v0_0 : Int) (v0_2 : Int) (v0_3 : ByteArray) (v0_4 : List (List D)) (v : Int) => loopDen (spec_l2Term.b0 k) (spec_l2Term.h.H 3) k (spec_l2Term.s0 v0_0 v0_2 v0_3 v0_4 v) (spec_l2Term.c0 k a0_0 a0_1 a0_2 K0))) (by kernel_rfl) (Eq.trans (congrArg (spec_l2Term.m k a0_0 a0_1 a0_2 K0) (funext fun v0_0 => funext fun v0_2 => funext fun v0_3 => funext fun v0_4 => funext fun v => spec_l2Term.l0_eq k a0_0 a0_1 a0_2 K0 v0_0 v0_2 v0_3 v0_4 k v)) (by kernel_rfl))
noncomputable def spec_l2Term.dec (rs : List (List C)) (os : List Out) : Option (Bool) := uncons rs fun c1 r2 => uncons c1 fun x3 l4 => cD x3 fun d5 => dBool d5 fun w0 => atEnd l4 <| atEnd r2 <| atEnd os (some w0)
theorem spec_l2Term.kt_dec (a0_0 : Int) (a0_1 : ByteArray) (a0_2 : List (List D)) : spec_l2Term.kt a0_0 a0_1 a0_2 spec_l2Term.dec = (fun z0 => some z0) := by kernel_rfl
theorem spec_l2Term.inj (a0_0 : Int) (a0_1 : ByteArray) (a0_2 : List (List D)) {rs : List (List C)} {os : List Out} {z0 : Bool} (h : spec_l2Term.dec rs os = some z0) (ho : OutShape (spec_l2Term.as a0_0 a0_1 a0_2) os) : rs = [[.d (.bool z0)]] ∧ os = [] := by
  unfold spec_l2Term.dec at h
  obtain ⟨c1, r2, rfl, h1⟩ := uncons_some h
  obtain ⟨x3, l4, rfl, h2⟩ := uncons_some h1
  obtain ⟨d5, rfl, h3⟩ := cD_some h2
  obtain ⟨w0, rfl, h4⟩ := dBool_some h3
  obtain ⟨rfl, h5⟩ := atEnd_some h4
  obtain ⟨rfl, h6⟩ := atEnd_some h5
  obtain ⟨rfl, h7⟩ := atEnd_some h6
  obtain rfl := Option.some.inj h7
  exact ⟨rfl, rfl⟩
theorem spec_l2Term.ok (k : Nat) : EntryOK Try.prog 155 (spec_l2Term.e k) := by
  refine entry_of mix tyok (fn := Try.f155) (c := codeOf Try.f155) Try.func155 (by kernel_rfl) (h := spec_l2Term.h) (k := k) (E := spec_l2Term.E k) (env_cons (spec_NameOk.ok k) (env_cons (spec_l1In.ok k) env_nil)) (by kernel_rfl) (by kernel_rfl) rfl (enter_of Try.func155 (by kernel_rfl)) ?_
  intro β l K r hr
  simp only [spec_l2Term.e] at hr
  split at hr
  case h_2 => cases hr
  unfold spec_l2Term.f at hr
  split at hr
  case h_2 => cases hr
  rename_i hz
  exact ⟨_, _, hr, _, spec_l2Term.dec, _, (spec_l2Term.f_eq k _ _ _ spec_l2Term.dec).trans (by rw [spec_l2Term.kt_dec]; exact hz), fun rs os h ho => spec_l2Term.inj _ _ _ h ho⟩
/-! ### loop.example/g00119/spec.SelectorOk: function 98 -/
noncomputable def spec_SelectorOk.l0 {β : Type} (k : Nat) (v0_0 : List (List D)) (K : Bool → Option β) (L0 : Int → Option β) (v : Int) : Option β :=
  match v with
  | v0_1 => bif (decide ((v0_1 : Int) < (v0_0.length : Int))) then (atRow v0_0 v0_1 fun c34 => uncons c34 fun d35 r36 => dInt .i64 d35 fun x37 => uncons r36 fun d38 r39 => dStr d38 fun x40 => uncons r39 fun d41 r42 => dSl d41 fun x43 => atEnd r42 (spec_l2Term.f k x37 x40 x43 (fun y44 => bif (!y44) then (K false) else (L0 (IntKind.wrap .i64 (v0_1 + 1)))))) else (K (decide (((v0_0.length : Int) : Int) ≤ 8)))
noncomputable def spec_SelectorOk.g {β : Type} (k : Nat) (a0 : List (List D)) (K : Bool → Option β) : Option β :=
  iter (spec_SelectorOk.l0 k a0 K) k (0)
noncomputable def spec_SelectorOk.t (k : Nat) (a0 : List (List D)) : Option (Bool) := spec_SelectorOk.g k a0 (fun z0 => some z0)
noncomputable def spec_SelectorOk.f {β : Type} (k : Nat) (a0 : List (List D)) (K : Bool → Option β) : Option β :=
  match spec_SelectorOk.t k a0 with
  | some z0 => K z0
  | none => none
noncomputable def spec_SelectorOk.as (a0 : List (List D)) : List A := [.d (.sl a0)]
noncomputable def spec_SelectorOk.kt {β : Type} (a0 : List (List D)) (K0 : List (List C) → List Out → Option β) : Bool → Option β := fun z0 => K0 [[.d (.bool z0)]] []
noncomputable def spec_SelectorOk.e (k : Nat) : Entry := { modes := [(.imm, 0)], rts := [4], al := false, run := fun {β} l K => match l with | [.d (.sl a0)] => spec_SelectorOk.f k a0 (spec_SelectorOk.kt a0 K) | _ => none }
noncomputable def spec_SelectorOk.E (k : Nat) : Env := fun g => bif g == 155 then some (spec_l2Term.e k) else none
noncomputable def spec_SelectorOk.h : Hints := ⟨fun n => bif n == 2 then ⟨[(0, .asis), (3, .asis)], []⟩ else ⟨[], []⟩, fun _ => none, false, []⟩
noncomputable def spec_SelectorOk.s0 (v0_0 : List (List D)) (v : Int) : St :=
  match v with
  | v0_1 => ⟨[.d false (.sl v0_0), .any, .any, .d true (.int .i64 v0_1), .any, .any, .any, .any, .any, .any, .any, .any, .any, .any, .any, .any, .any, .any, .any], []⟩
noncomputable def spec_SelectorOk.b0 {β : Type} (k : Nat) : St → (Ex → St → Option β) → Option β := fun s K => den Try.prog (spec_SelectorOk.E k) spec_SelectorOk.h.H spec_SelectorOk.h.J k (codeAt [1, 0, 1, 0, 0] (codeOf Try.f98)) s K
noncomputable def spec_SelectorOk.c0 {β : Type} (k : Nat) (a0 : List (List D)) (K0 : List (List C) → List Out → Option β) : Ex → St → Option β := contAt Try.prog (spec_SelectorOk.E k) spec_SelectorOk.h k [1, 0, 1, 0] (codeOf Try.f98) (finDen Try.prog Try.f98 spec_SelectorOk.h (spec_SelectorOk.as a0) K0)
theorem spec_SelectorOk.l0_eq {β : Type} (k : Nat) (a0 : List (List D)) (K0 : List (List C) → List Out → Option β) (v0_0 : List (List D)) : ∀ (kk : Nat) (v : Int), loopDen (spec_SelectorOk.b0 k) (spec_SelectorOk.h.H 2) kk (spec_SelectorOk.s0 v0_0 v) (spec_SelectorOk.c0 k a0 K0) = iter (spec_SelectorOk.l0 k v0_0 (spec_SelectorOk.kt a0 K0)) kk v :=
  loop_eq (spec_SelectorOk.s0 v0_0) _ (fun L0 v => by kernel_rfl)
noncomputable def spec_SelectorOk.m {β : Type} (k : Nat) (a0 : List (List D)) (K0 : List (List C) → List Out → Option β) (F : ((List (List D)) → Int → Option β)) : Option β :=
  (F) a0 (0)
theorem spec_SelectorOk.f_eq {β : Type} (k : Nat) (a0 : List (List D)) (K0 : List (List C) → List Out → Option β) : funDen Try.prog (spec_SelectorOk.E k) spec_SelectorOk.h k Try.f98 (spec_SelectorOk.as a0) K0 = spec_SelectorOk.g k a0 (spec_SelectorOk.kt a0 K0) := Eq.trans (b := (spec_SelectorOk.m k a0 K0) (fun (v0_0 : List (List D)) (v : Int) => loopDen (spec_SelectorOk.b0 k) (spec_SelectorOk.h.H 2) k (spec_SelectorOk.s0 v0_0 v) (spec_SelectorOk.c0 k a0 K0))) (by kernel_rfl) (Eq.trans (congrArg (spec_SelectorOk.m k a0 K0) (funext fun v0_0 => funext fun v => spec_SelectorOk.l0_eq k a0 K0 v0_0 k v)) (by kernel_rfl))
noncomputable def spec_SelectorOk.dec (rs : List (List C)) (os : List Out) : Option (Bool) := uncons rs fun c1 r2 => uncons c1 fun x3 l4 => cD x3 fun d5 => dBool d5 fun w0 => atEnd l4 <| atEnd r2 <| atEnd os (some w0)
theorem spec_SelectorOk.kt_dec (a0 : List (List D)) : spec_SelectorOk.kt a0 spec_SelectorOk.dec = (fun z0 => some z0) := by kernel_rfl
theorem spec_SelectorOk.inj (a0 : List (List D)) {rs : List (List C)} {os : List Out} {z0 : Bool} (h : spec_SelectorOk.dec rs os = some z0) (ho : OutShape (spec_SelectorOk.as a0) os) : rs = [[.d (.bool z0)]] ∧ os = [] := by
  unfold spec_SelectorOk.dec at h
  obtain ⟨c1, r2, rfl, h1⟩ := uncons_some h
  obtain ⟨x3, l4, rfl, h2⟩ := uncons_some h1
  obtain ⟨d5, rfl, h3⟩ := cD_some h2
  obtain ⟨w0, rfl, h4⟩ := dBool_some h3
  obtain ⟨rfl, h5⟩ := atEnd_some h4
  obtain ⟨rfl, h6⟩ := atEnd_some h5
  obtain ⟨rfl, h7⟩ := atEnd_some h6
  obtain rfl := Option.some.inj h7
  exact ⟨rfl, rfl⟩
theorem spec_SelectorOk.ok (k : Nat) : EntryOK Try.prog 98 (spec_SelectorOk.e k) := by
  refine entry_of mix tyok (fn := Try.f98) (c := codeOf Try.f98) Try.func98 (by kernel_rfl) (h := spec_SelectorOk.h) (k := k) (E := spec_SelectorOk.E k) (env_cons (spec_l2Term.ok k) env_nil) (by kernel_rfl) (by kernel_rfl) rfl (enter_of Try.func98 (by kernel_rfl)) ?_
  intro β l K r hr
  simp only [spec_SelectorOk.e] at hr
  split at hr
  case h_2 => cases hr
  unfold spec_SelectorOk.f at hr
  split at hr
  case h_2 => cases hr
  rename_i hz
  exact ⟨_, _, hr, _, spec_SelectorOk.dec, _, (spec_SelectorOk.f_eq k _ spec_SelectorOk.dec).trans (by rw [spec_SelectorOk.kt_dec]; exact hz), fun rs os h ho => spec_SelectorOk.inj _ h ho⟩
/-! ### loop.example/g00119/spec.l10Names: function 68 -/
noncomputable def spec_l10Names.l0 {β : Type} (k : Nat) (v0_0 : List (List D)) (v0_1 : Int) (K : Bool → Option β) (L0 : Int → Option β) (v : Int) : Option β :=
  match v with
  | v0_2 => bif (decide ((v0_2 : Int) < (v0_0.length : Int))) then (atRow v0_0 v0_2 fun c14 => uncons c14 fun d15 r16 => dStr d15 fun x17 => atEnd r16 (spec_NameOk.f k x17 (fun y18 => bif (!y18) then (K false) else (bif (decide ((v0_2 : Int) > 0)) then (atRow v0_0 (IntKind.wrap .i64 (v0_2 - 1)) fun c19 => uncons c19 fun d20 r21 => dStr d20 fun x22 => atEnd r21 (atRow v0_0 v0_2 fun c23 => uncons c23 fun d24 r25 => dStr d24 fun x26 => atEnd r25 (bif (!(strLt x22 x26)) then (K false) else (L0 (IntKind.wrap .i64 (v0_2 + 1)))))) else (L0 (IntKind.wrap .i64 (v0_2 + 1))))))) else (K (decide (((v0_0.length : Int) : Int) ≤ v0_1)))
noncomputable def spec_l10Names.g {β : Type} (k : Nat) (a0 : List (List D)) (a1 : Int) (K : Bool → Option β) : Option β :=
  iter (spec_l10Names.l0 k a0 a1 K) k (0)
noncomputable def spec_l10Names.t (k : Nat) (a0 : List (List D)) (a1 : Int) : Option (Bool) := spec_l10Names.g k a0 a1 (fun z0 => some z0)
noncomputable def spec_l10Names.f {β : Type} (k : Nat) (a0 : List (List D)) (a1 : Int) (K : Bool → Option β) : Option β :=
  match spec_l10Names.t k a0 a1 with
  | some z0 => K z0
  | none => none
noncomputable def spec_l10Names.as (a0 : List (List D)) (a1 : Int) : List A := [.d (.sl a0), .d (.int .i64 a1)]
noncomputable def spec_l10Names.kt {β : Type} (a0 : List (List D)) (a1 : Int) (K0 : List (List C) → List Out → Option β) : Bool → Option β := fun z0 => K0 [[.d (.bool z0)]] []
noncomputable def spec_l10Names.e (k : Nat) : Entry := { modes := [(.imm, 0), (.imm, 0)], rts := [4], al := false, run := fun {β} l K => match l with | [.d (.sl a0), .d (.int .i64 a1)] => spec_l10Names.f k a0 a1 (spec_l10Names.kt a0 a1 K) | _ => none }
noncomputable def spec_l10Names.E (k : Nat) : Env := fun g => bif g == 66 then some (spec_NameOk.e k) else none
noncomputable def spec_l10Names.h : Hints := ⟨fun n => bif n == 2 then ⟨[(0, .asis), (1, .asis), (5, .asis)], []⟩ else ⟨[], []⟩, fun _ => none, false, []⟩
noncomputable def spec_l10Names.s0 (v0_0 : List (List D)) (v0_1 : Int) (v : Int) : St :=
  match v with
  | v0_2 => ⟨[.d false (.sl v0_0), .d false (.int .i64 v0_1), .any, .any, .any, .d true (.int .i64 v0_2), .any, .any, .any, .any, .any, .any, .any, .any, .any, .any, .any, .any, .any, .any, .any, .any, .any, .any, .any, .any, .any, .any, .any, .any, .any, .any, .any, .any, .any, .any, .any, .any], []⟩
noncomputable def spec_l10Names.b0 {β : Type} (k : Nat) : St → (Ex → St → Option β) → Option β := fun s K => den Try.prog (spec_l10Names.E k) spec_l10Names.h.H spec_l10Names.h.J k (codeAt [1, 0, 1, 0, 0] (codeOf Try.f68)) s K
noncomputable def spec_l10Names.c0 {β : Type} (k : Nat) (a0 : List (List D)) (a1 : Int) (K0 : List (List C) → List Out → Option β) : Ex → St → Option β := contAt Try.prog (spec_l10Names.E k) spec_l10Names.h k [1, 0, 1, 0] (codeOf Try.f68) (finDen Try.prog Try.f68 spec_l10Names.h (spec_l10Names.as a0 a1) K0)
theorem spec_l10Names.l0_eq {β : Type} (k : Nat) (a0 : List (List D)) (a1 : Int) (K0 : List (List C) → List Out → Option β) (v0_0 : List (List D)) (v0_1 : Int) : ∀ (kk : Nat) (v : Int), loopDen (spec_l10Names.b0 k) (spec_l10Names.h.H 2) kk (spec_l10Names.s0 v0_0 v0_1 v) (spec_l10Names.c0 k a0 a1 K0) = iter (spec_l10Names.l0 k v0_0 v0_1 (spec_l10Names.kt a0 a1 K0)) kk v :=
  loop_eq (spec_l10Names.s0 v0_0 v0_1) _ (fun L0 v => by kernel_rfl)
noncomputable def spec_l10Names.m {β : Type} (k : Nat) (a0 : List (List D)) (a1 : Int) (K0 : List (List C) → List Out → Option β) (F : ((List (List D)) → Int → Int → Option β)) : Option β :=
  (F) a0 a1 (0)
theorem spec_l10Names.f_eq {β : Type} (k : Nat) (a0 : List (List D)) (a1 : Int) (K0 : List (List C) → List Out → Option β) : funDen Try.prog (spec_l10Names.E k) spec_l10Names.h k Try.f68 (spec_l10Names.as a0 a1) K0 = spec_l10Names.g k a0 a1 (spec_l10Names.kt a0 a1 K0) := Eq.trans (b := (spec_l10Names.m k a0 a1 K0) (fun (v0_0 : List (List D)) (v0_1 : Int) (v : Int) => loopDen (spec_l10Names.b0 k) (spec_l10Names.h.H 2) k (spec_l10Names.s0 v0_0 v0_1 v) (spec_l10Names.c0 k a0 a1 K0))) (by kernel_rfl) (Eq.trans (congrArg (spec_l10Names.m k a0 a1 K0) (funext fun v0_0 => funext fun v0_1 => funext fun v => spec_l10Names.l0_eq k a0 a1 K0 v0_0 v0_1 k v)) (by kernel_rfl))
noncomputable def spec_l10Names.dec (rs : List (List C)) (os : List Out) : Option (Bool) := uncons rs fun c1 r2 => uncons c1 fun x3 l4 => cD x3 fun d5 => dBool d5 fun w0 => atEnd l4 <| atEnd r2 <| atEnd os (some w0)
theorem spec_l10Names.kt_dec (a0 : List (List D)) (a1 : Int) : spec_l10Names.kt a0 a1 spec_l10Names.dec = (fun z0 => some z0) := by kernel_rfl
theorem spec_l10Names.inj (a0 : List (List D)) (a1 : Int) {rs : List (List C)} {os : List Out} {z0 : Bool} (h : spec_l10Names.dec rs os = some z0) (ho : OutShape (spec_l10Names.as a0 a1) os) : rs = [[.d (.bool z0)]] ∧ os = [] := by
  unfold spec_l10Names.dec at h
  obtain ⟨c1, r2, rfl, h1⟩ := uncons_some h
  obtain ⟨x3, l4, rfl, h2⟩ := uncons_some h1
  obtain ⟨d5, rfl, h3⟩ := cD_some h2
  obtain ⟨w0, rfl, h4⟩ := dBool_some h3
  obtain ⟨rfl, h5⟩ := atEnd_some h4
  obtain ⟨rfl, h6⟩ := atEnd_some h5
  obtain ⟨rfl, h7⟩ := atEnd_some h6
  obtain rfl := Option.some.inj h7
  exact ⟨rfl, rfl⟩
theorem spec_l10Names.ok (k : Nat) : EntryOK Try.prog 68 (spec_l10Names.e k) := by
  refine entry_of mix tyok (fn := Try.f68) (c := codeOf Try.f68) Try.func68 (by kernel_rfl) (h := spec_l10Names.h) (k := k) (E := spec_l10Names.E k) (env_cons (spec_NameOk.ok k) env_nil) (by kernel_rfl) (by kernel_rfl) rfl (enter_of Try.func68 (by kernel_rfl)) ?_
  intro β l K r hr
  simp only [spec_l10Names.e] at hr
  split at hr
  case h_2 => cases hr
  unfold spec_l10Names.f at hr
  split at hr
  case h_2 => cases hr
  rename_i hz
  exact ⟨_, _, hr, _, spec_l10Names.dec, _, (spec_l10Names.f_eq k _ _ spec_l10Names.dec).trans (by rw [spec_l10Names.kt_dec]; exact hz), fun rs os h ho => spec_l10Names.inj _ _ h ho⟩
/-! ### loop.example/g00119/spec.WantOk: function 37 -/
noncomputable def spec_WantOk.l0 {β : Type} (k : Nat) (v0_1 : Int) (v0_2 : List (List D)) (v0_3 : List (List D)) (v0_4 : List (List D)) (K : Bool → Option β) (L0 : Int → Option β) (v : Int) : Option β :=
  match v with
  | v0_0 => bif (decide ((v0_0 : Int) < (v0_4.length : Int))) then (atRow v0_4 v0_0 fun c47 => uncons c47 fun d48 r49 => dStr d48 fun x50 => uncons r49 fun d51 r52 => dInt .i64 d51 fun x53 => atEnd r52 (spec_NameOk.f k x50 (fun y54 => bif (!y54) then (K false) else (atRow v0_4 v0_0 fun c55 => uncons c55 fun d56 r57 => dStr d56 fun x58 => uncons r57 fun d59 r60 => dInt .i64 d59 fun x61 => atEnd r60 (spec_l1In.f k x61 0 1000 (fun y62 => bif (!y62) then (K false) else (bif (decide ((v0_0 : Int) > 0)) then (atRow v0_4 (IntKind.wrap .i64 (v0_0 - 1)) fun c63 => uncons c63 fun d64 r65 => dStr d64 fun x66 => uncons r65 fun d67 r68 => dInt .i64 d67 fun x69 => atEnd r68 (atRow v0_4 v0_0 fun c70 => uncons c70 fun d71 r72 => dStr d71 fun x73 => uncons r72 fun d74 r75 => dInt .i64 d74 fun x76 => atEnd r75 (bif (!(strLt x66 x73)) then (K false) else (L0 (IntKind.wrap .i64 (v0_0 + 1)))))) else (L0 (IntKind.wrap .i64 (v0_0 + 1)))))))))) else (spec_l1In.f k v0_1 0 10000 (fun y77 => bif y77 then (spec_SelectorOk.f k v0_2 (fun y78 => bif y78 then (spec_l10Names.f k v0_3 8 (fun y79 => bif y79 then (K (decide (((v0_4.length : Int) : Int) ≤ 12))) else (K false))) else (K false))) else (K false)))
noncomputable def spec_WantOk.g {β : Type} (k : Nat) (a0_0 : Int) (a0_1 : List (List D)) (a0_2 : List (List D)) (a0_3 : List (List D)) (K : Bool → Option β) : Option β :=
  iter (spec_WantOk.l0 k a0_0 a0_1 a0_2 a0_3 K) k (0)
noncomputable def spec_WantOk.t (k : Nat) (a0_0 : Int) (a0_1 : List (List D)) (a0_2 : List (List D)) (a0_3 : List (List D)) : Option (Bool) := spec_WantOk.g k a0_0 a0_1 a0_2 a0_3 (fun z0 => some z0)
noncomputable def spec_WantOk.f {β : Type} (k : Nat) (a0_0 : Int) (a0_1 : List (List D)) (a0_2 : List (List D)) (a0_3 : List (List D)) (K : Bool → Option β) : Option β :=
  match spec_WantOk.t k a0_0 a0_1 a0_2 a0_3 with
  | some z0 => K z0
  | none => none
noncomputable def spec_WantOk.as (a0_0 : Int) (a0_1 : List (List D)) (a0_2 : List (List D)) (a0_3 : List (List D)) : List A := [.agg [.int .i64 a0_0, .sl a0_1, .sl a0_2, .sl a0_3]]
noncomputable def spec_WantOk.kt {β : Type} (a0_0 : Int) (a0_1 : List (List D)) (a0_2 : List (List D)) (a0_3 : List (List D)) (K0 : List (List C) → List Out → Option β) : Bool → Option β := fun z0 => K0 [[.d (.bool z0)]] []
noncomputable def spec_WantOk.e (k : Nat) : Entry := { modes := [(.imm, 0)], rts := [4], al := false, run := fun {β} l K => match l with | [.agg [.int .i64 a0_0, .sl a0_1, .sl a0_2, .sl a0_3]] => spec_WantOk.f k a0_0 a0_1 a0_2 a0_3 (spec_WantOk.kt a0_0 a0_1 a0_2 a0_3 K) | _ => none }
noncomputable def spec_WantOk.E (k : Nat) : Env := fun g => bif g == 66 then some (spec_NameOk.e k) else bif g == 69 then some (spec_l1In.e k) else bif g == 98 then some (spec_SelectorOk.e k) else bif g == 68 then some (spec_l10Names.e k) else none
noncomputable def spec_WantOk.h : Hints := ⟨fun n => bif n == 2 then ⟨[(1, .asis), (3, .asis)], []⟩ else ⟨[], []⟩, fun _ => none, false, []⟩
noncomputable def spec_WantOk.s0 (v0_1 : Int) (v0_2 : List (List D)) (v0_3 : List (List D)) (v0_4 : List (List D)) (v : Int) : St :=
  match v with
  | v0_0 => ⟨[.any, .bp 0 0, .any, .d true (.int .i64 v0_0), .any, .any, .any, .any, .any, .any, .any, .any, .any, .any, .any, .any, .any, .any, .any, .any, .any, .any, .any, .any, .any, .any, .any, .any, .any, .any, .any, .any, .any, .any, .any, .any, .any, .any, .any, .any, .any, .any, .any, .any, .any, .any, .any, .any, .any, .any, .any, .any, .any, .any, .any, .any, .any, .any, .any, .any, .any, .any, .any, .any, .any, .any, .any, .any], [.box none 43 [.d false (.int .i64 v0_1), .d false (.sl v0_2), .d false (.sl v0_3), .d false (.sl v0_4)]]⟩
noncomputable def spec_WantOk.b0 {β : Type} (k : Nat) : St → (Ex → St → Option β) → Option β := fun s K => den Try.prog (spec_WantOk.E k) spec_WantOk.h.H spec_WantOk.h.J k (codeAt [1, 0, 1, 0, 0] (codeOf Try.f37)) s K
noncomputable def spec_WantOk.c0 {β : Type} (k : Nat) (a0_0 : Int) (a0_1 : List (List D)) (a0_2 : List (List D)) (a0_3 : List (List D)) (K0 : List (List C) → List Out → Option β) : Ex → St → Option β := contAt Try.prog (spec_WantOk.E k) spec_WantOk.h k [1, 0, 1, 0] (codeOf Try.f37) (finDen Try.prog Try.f37 spec_WantOk.h (spec_WantOk.as a0_0 a0_1 a0_2 a0_3) K0)
theorem spec_WantOk.l0_eq {β : Type} (k : Nat) (a0_0 : Int) (a0_1 : List (List D)) (a0_2 : List (List D)) (a0_3 : List (List D)) (K0 : List (List C) → List Out → Option β) (v0_1 : Int) (v0_2 : List (List D)) (v0_3 : List (List D)) (v0_4 : List (List D)) : ∀ (kk : Nat) (v : Int), loopDen (spec_WantOk.b0 k) (spec_WantOk.h.H 2) kk (spec_WantOk.s0 v0_1 v0_2 v0_3 v0_4 v) (spec_WantOk.c0 k a0_0 a0_1 a0_2 a0_3 K0) = iter (spec_WantOk.l0 k v0_1 v0_2 v0_3 v0_4 (spec_WantOk.kt a0_0 a0_1 a0_2 a0_3 K0)) kk v :=
  loop_eq (spec_WantOk.s0 v0_1 v0_2 v0_3 v0_4) _ (fun L0 v => by kernel_rfl)
noncomputable def spec_WantOk.m {β : Type} (k : Nat) (a0_0 : Int) (a0_1 : List (List D)) (a0_2 : List (List D)) (a0_3 : List (List D)) (K0 : List (List C) → List Out → Option β) (F : (Int → (List (List D)) → (List (List D)) → (List (List D)) → Int → Option β)) : Option β :=
  (F) a0_0 a0_1 a0_2 a0_3 (0)
theorem spec_WantOk.f_eq {β : Type} (k : Nat) (a0_0 : Int) (a0_1 : List (List D)) (a0_2 : List (List D)) (a0_3 : List (List D)) (K0 : List (List C) → List Out → Option β) : funDen Try.prog (spec_WantOk.E k) spec_WantOk.h k Try.f37 (spec_WantOk.as a0_0 a0_1 a0_2 a0_3) K0 = spec_WantOk.g k a0_0 a0_1 a0_2 a0_3 (spec_WantOk.kt a0_0 a0_1 a0_2 a0_3 K0) := Eq.trans (b := (spec_WantOk.m k a0_0 a0_1 a0_2 a0_3 K0) (fun (v0_1 : Int) (v0_2 : List (List D)) (v0_3 : List (List D)) (v0_4 : List (List D)) (v : Int) => loopDen (spec_WantOk.b0 k) (spec_WantOk.h.H 2) k (spec_WantOk.s0 v0_1 v0_2 v0_3 v0_4 v) (spec_WantOk.c0 k a0_0 a0_1 a0_2 a0_3 K0))) (by kernel_rfl) (Eq.trans (congrArg (spec_WantOk.m k a0_0 a0_1 a0_2 a0_3 K0) (funext fun v0_1 => funext fun v0_2 => funext fun v0_3 => funext fun v0_4 => funext fun v => spec_WantOk.l0_eq k a0_0 a0_1 a0_2 a0_3 K0 v0_1 v0_2 v0_3 v0_4 k v)) (by kernel_rfl))
noncomputable def spec_WantOk.dec (rs : List (List C)) (os : List Out) : Option (Bool) := uncons rs fun c1 r2 => uncons c1 fun x3 l4 => cD x3 fun d5 => dBool d5 fun w0 => atEnd l4 <| atEnd r2 <| atEnd os (some w0)
theorem spec_WantOk.kt_dec (a0_0 : Int) (a0_1 : List (List D)) (a0_2 : List (List D)) (a0_3 : List (List D)) : spec_WantOk.kt a0_0 a0_1 a0_2 a0_3 spec_WantOk.dec = (fun z0 => some z0) := by kernel_rfl
theorem spec_WantOk.inj (a0_0 : Int) (a0_1 : List (List D)) (a0_2 : List (List D)) (a0_3 : List (List D)) {rs : List (List C)} {os : List Out} {z0 : Bool} (h : spec_WantOk.dec rs os = some z0) (ho : OutShape (spec_WantOk.as a0_0 a0_1 a0_2 a0_3) os) : rs = [[.d (.bool z0)]] ∧ os = [] := by
  unfold spec_WantOk.dec at h
  obtain ⟨c1, r2, rfl, h1⟩ := uncons_some h
  obtain ⟨x3, l4, rfl, h2⟩ := uncons_some h1
  obtain ⟨d5, rfl, h3⟩ := cD_some h2
  obtain ⟨w0, rfl, h4⟩ := dBool_some h3
  obtain ⟨rfl, h5⟩ := atEnd_some h4
  obtain ⟨rfl, h6⟩ := atEnd_some h5
  obtain ⟨rfl, h7⟩ := atEnd_some h6
  obtain rfl := Option.some.inj h7
  exact ⟨rfl, rfl⟩
theorem spec_WantOk.ok (k : Nat) : EntryOK Try.prog 37 (spec_WantOk.e k) := by
  refine entry_of mix tyok (fn := Try.f37) (c := codeOf Try.f37) Try.func37 (by kernel_rfl) (h := spec_WantOk.h) (k := k) (E := spec_WantOk.E k) (env_cons (spec_NameOk.ok k) (env_cons (spec_l1In.ok k) (env_cons (spec_SelectorOk.ok k) (env_cons (spec_l10Names.ok k) env_nil)))) (by kernel_rfl) (by kernel_rfl) rfl (enter_of Try.func37 (by kernel_rfl)) ?_
  intro β l K r hr
  simp only [spec_WantOk.e] at hr
  split at hr
  case h_2 => cases hr
  unfold spec_WantOk.f at hr
  split at hr
  case h_2 => cases hr
  rename_i hz
  exact ⟨_, _, hr, _, spec_WantOk.dec, _, (spec_WantOk.f_eq k _ _ _ _ spec_WantOk.dec).trans (by rw [spec_WantOk.kt_dec]; exact hz), fun rs os h ho => spec_WantOk.inj _ _ _ _ h ho⟩
/-! ### loop.example/g00119/spec.LabelsOk: function 67 -/
noncomputable def spec_LabelsOk.l0 {β : Type} (k : Nat) (v0_0 : List (List D)) (K : Bool → Option β) (L0 : Int → Option β) (v : Int) : Option β :=
  match v with
  | v0_1 => bif (decide ((v0_1 : Int) < (v0_0.length : Int))) then (atRow v0_0 v0_1 fun c31 => uncons c31 fun d32 r33 => dStr d32 fun x34 => uncons r33 fun d35 r36 => dStr d35 fun x37 => atEnd r36 (spec_NameOk.f k x34 (fun y38 => bif (!y38) then (K false) else (atRow v0_0 v0_1 fun c39 => uncons c39 fun d40 r41 => dStr d40 fun x42 => uncons r41 fun d43 r44 => dStr d43 fun x45 => atEnd r44 (spec_NameOk.f k x45 (fun y46 => bif (!y46) then (K false) else (bif (decide ((v0_1 : Int) > 0)) then (atRow v0_0 (IntKind.wrap .i64 (v0_1 - 1)) fun c47 => uncons c47 fun d48 r49 => dStr d48 fun x50 => uncons r49 fun d51 r52 => dStr d51 fun x53 => atEnd r52 (atRow v0_0 v0_1 fun c54 => uncons c54 fun d55 r56 => dStr d55 fun x57 => uncons r56 fun d58 r59 => dStr d58 fun x60 => atEnd r59 (bif (!(strLt x50 x57)) then (K false) else (L0 (IntKind.wrap .i64 (v0_1 + 1)))))) else (L0 (IntKind.wrap .i64 (v0_1 + 1)))))))))) else (K (decide (((v0_0.length : Int) : Int) ≤ 8)))
noncomputable def spec_LabelsOk.g {β : Type} (k : Nat) (a0 : List (List D)) (K : Bool → Option β) : Option β :=
  iter (spec_LabelsOk.l0 k a0 K) k (0)
noncomputable def spec_LabelsOk.t (k : Nat) (a0 : List (List D)) : Option (Bool) := spec_LabelsOk.g k a0 (fun z0 => some z0)
noncomputable def spec_LabelsOk.f {β : Type} (k : Nat) (a0 : List (List D)) (K : Bool → Option β) : Option β :=
  match spec_LabelsOk.t k a0 with
  | some z0 => K z0
  | none => none
noncomputable def spec_LabelsOk.as (a0 : List (List D)) : List A := [.d (.sl a0)]
noncomputable def spec_LabelsOk.kt {β : Type} (a0 : List (List D)) (K0 : List (List C) → List Out → Option β) : Bool → Option β := fun z0 => K0 [[.d (.bool z0)]] []
noncomputable def spec_LabelsOk.e (k : Nat) : Entry := { modes := [(.imm, 0)], rts := [4], al := false, run := fun {β} l K => match l with | [.d (.sl a0)] => spec_LabelsOk.f k a0 (spec_LabelsOk.kt a0 K) | _ => none }
noncomputable def spec_LabelsOk.E (k : Nat) : Env := fun g => bif g == 66 then some (spec_NameOk.e k) else none
noncomputable def spec_LabelsOk.h : Hints := ⟨fun n => bif n == 2 then ⟨[(0, .asis), (3, .asis)], []⟩ else ⟨[], []⟩, fun _ => none, false, []⟩
noncomputable def spec_LabelsOk.s0 (v0_0 : List (List D)) (v : Int) : St :=
  match v with
  | v0_1 => ⟨[.d false (.sl v0_0), .any, .any, .d true (.int .i64 v0_1), .any, .any, .any, .any, .any, .any, .any, .any, .any, .any, .any, .any, .any, .any, .any, .any, .any, .any, .any, .any, .any, .any, .any, .any, .any, .any, .any, .any, .any, .any, .any, .any, .any, .any, .any, .any, .any, .any, .any, .any, .any, .any, .any], []⟩
noncomputable def spec_LabelsOk.b0 {β : Type} (k : Nat) : St → (Ex → St → Option β) → Option β := fun s K => den Try.prog (spec_LabelsOk.E k) spec_LabelsOk.h.H spec_LabelsOk.h.J k (codeAt [1, 0, 1, 0, 0] (codeOf Try.f67)) s K
noncomputable def spec_LabelsOk.c0 {β : Type} (k : Nat) (a0 : List (List D)) (K0 : List (List C) → List Out → Option β) : Ex → St → Option β := contAt Try.prog (spec_LabelsOk.E k) spec_LabelsOk.h k [1, 0, 1, 0] (codeOf Try.f67) (finDen Try.prog Try.f67 spec_LabelsOk.h (spec_LabelsOk.as a0) K0)
theorem spec_LabelsOk.l0_eq {β : Type} (k : Nat) (a0 : List (List D)) (K0 : List (List C) → List Out → Option β) (v0_0 : List (List D)) : ∀ (kk : Nat) (v : Int), loopDen (spec_LabelsOk.b0 k) (spec_LabelsOk.h.H 2) kk (spec_LabelsOk.s0 v0_0 v) (spec_LabelsOk.c0 k a0 K0) = iter (spec_LabelsOk.l0 k v0_0 (spec_LabelsOk.kt a0 K0)) kk v :=
  loop_eq (spec_LabelsOk.s0 v0_0) _ (fun L0 v => by kernel_rfl)
noncomputable def spec_LabelsOk.m {β : Type} (k : Nat) (a0 : List (List D)) (K0 : List (List C) → List Out → Option β) (F : ((List (List D)) → Int → Option β)) : Option β :=
  (F) a0 (0)
theorem spec_LabelsOk.f_eq {β : Type} (k : Nat) (a0 : List (List D)) (K0 : List (List C) → List Out → Option β) : funDen Try.prog (spec_LabelsOk.E k) spec_LabelsOk.h k Try.f67 (spec_LabelsOk.as a0) K0 = spec_LabelsOk.g k a0 (spec_LabelsOk.kt a0 K0) := Eq.trans (b := (spec_LabelsOk.m k a0 K0) (fun (v0_0 : List (List D)) (v : Int) => loopDen (spec_LabelsOk.b0 k) (spec_LabelsOk.h.H 2) k (spec_LabelsOk.s0 v0_0 v) (spec_LabelsOk.c0 k a0 K0))) (by kernel_rfl) (Eq.trans (congrArg (spec_LabelsOk.m k a0 K0) (funext fun v0_0 => funext fun v => spec_LabelsOk.l0_eq k a0 K0 v0_0 k v)) (by kernel_rfl))
noncomputable def spec_LabelsOk.dec (rs : List (List C)) (os : List Out) : Option (Bool) := uncons rs fun c1 r2 => uncons c1 fun x3 l4 => cD x3 fun d5 => dBool d5 fun w0 => atEnd l4 <| atEnd r2 <| atEnd os (some w0)
theorem spec_LabelsOk.kt_dec (a0 : List (List D)) : spec_LabelsOk.kt a0 spec_LabelsOk.dec = (fun z0 => some z0) := by kernel_rfl
theorem spec_LabelsOk.inj (a0 : List (List D)) {rs : List (List C)} {os : List Out} {z0 : Bool} (h : spec_LabelsOk.dec rs os = some z0) (ho : OutShape (spec_LabelsOk.as a0) os) : rs = [[.d (.bool z0)]] ∧ os = [] := by
  unfold spec_LabelsOk.dec at h
  obtain ⟨c1, r2, rfl, h1⟩ := uncons_some h
  obtain ⟨x3, l4, rfl, h2⟩ := uncons_some h1
  obtain ⟨d5, rfl, h3⟩ := cD_some h2
  obtain ⟨w0, rfl, h4⟩ := dBool_some h3
  obtain ⟨rfl, h5⟩ := atEnd_some h4
  obtain ⟨rfl, h6⟩ := atEnd_some h5
  obtain ⟨rfl, h7⟩ := atEnd_some h6
  obtain rfl := Option.some.inj h7
  exact ⟨rfl, rfl⟩
theorem spec_LabelsOk.ok (k : Nat) : EntryOK Try.prog 67 (spec_LabelsOk.e k) := by
  refine entry_of mix tyok (fn := Try.f67) (c := codeOf Try.f67) Try.func67 (by kernel_rfl) (h := spec_LabelsOk.h) (k := k) (E := spec_LabelsOk.E k) (env_cons (spec_NameOk.ok k) env_nil) (by kernel_rfl) (by kernel_rfl) rfl (enter_of Try.func67 (by kernel_rfl)) ?_
  intro β l K r hr
  simp only [spec_LabelsOk.e] at hr
  split at hr
  case h_2 => cases hr
  unfold spec_LabelsOk.f at hr
  split at hr
  case h_2 => cases hr
  rename_i hz
  exact ⟨_, _, hr, _, spec_LabelsOk.dec, _, (spec_LabelsOk.f_eq k _ spec_LabelsOk.dec).trans (by rw [spec_LabelsOk.kt_dec]; exact hz), fun rs os h ho => spec_LabelsOk.inj _ h ho⟩
/-! ### loop.example/g00119/spec.IslandOk: function 16 -/
noncomputable def spec_IslandOk.g {β : Type} (k : Nat) (a0_0 : ByteArray) (a0_1 : List (List D)) (a0_2 : List (List D)) (a0_3 : Int) (K : Bool → Option β) : Option β :=
  spec_NameOk.f k a0_0 (fun y1 => bif y1 then (spec_LabelsOk.f k a0_1 (fun y61 => bif y61 then (spec_l10Names.f k a0_2 4 (fun y62 => bif y62 then (spec_l1In.f k a0_3 0 10000 (fun y63 => K y63)) else (K false))) else (K false))) else (K false))
noncomputable def spec_IslandOk.t (k : Nat) (a0_0 : ByteArray) (a0_1 : List (List D)) (a0_2 : List (List D)) (a0_3 : Int) : Option (Bool) := spec_IslandOk.g k a0_0 a0_1 a0_2 a0_3 (fun z0 => some z0)
noncomputable def spec_IslandOk.f {β : Type} (k : Nat) (a0_0 : ByteArray) (a0_1 : List (List D)) (a0_2 : List (List D)) (a0_3 : Int) (K : Bool → Option β) : Option β :=
  match spec_IslandOk.t k a0_0 a0_1 a0_2 a0_3 with
  | some z0 => K z0
  | none => none
noncomputable def spec_IslandOk.as (a0_0 : ByteArray) (a0_1 : List (List D)) (a0_2 : List (List D)) (a0_3 : Int) : List A := [.agg [.str a0_0, .sl a0_1, .sl a0_2, .int .i64 a0_3]]
noncomputable def spec_IslandOk.kt {β : Type} (a0_0 : ByteArray) (a0_1 : List (List D)) (a0_2 : List (List D)) (a0_3 : Int) (K0 : List (List C) → List Out → Option β) : Bool → Option β := fun z0 => K0 [[.d (.bool z0)]] []
noncomputable def spec_IslandOk.e (k : Nat) : Entry := { modes := [(.imm, 0)], rts := [4], al := false, run := fun {β} l K => match l with | [.agg [.str a0_0, .sl a0_1, .sl a0_2, .int .i64 a0_3]] => spec_IslandOk.f k a0_0 a0_1 a0_2 a0_3 (spec_IslandOk.kt a0_0 a0_1 a0_2 a0_3 K) | _ => none }
noncomputable def spec_IslandOk.E (k : Nat) : Env := fun g => bif g == 66 then some (spec_NameOk.e k) else bif g == 67 then some (spec_LabelsOk.e k) else bif g == 68 then some (spec_l10Names.e k) else bif g == 69 then some (spec_l1In.e k) else none
noncomputable def spec_IslandOk.h : Hints := ⟨fun n => ⟨[], []⟩, fun _ => none, false, []⟩
theorem spec_IslandOk.f_eq {β : Type} (k : Nat) (a0_0 : ByteArray) (a0_1 : List (List D)) (a0_2 : List (List D)) (a0_3 : Int) (K0 : List (List C) → List Out → Option β) : funDen Try.prog (spec_IslandOk.E k) spec_IslandOk.h k Try.f16 (spec_IslandOk.as a0_0 a0_1 a0_2 a0_3) K0 = spec_IslandOk.g k a0_0 a0_1 a0_2 a0_3 (spec_IslandOk.kt a0_0 a0_1 a0_2 a0_3 K0) := by kernel_rfl
noncomputable def spec_IslandOk.dec (rs : List (List C)) (os : List Out) : Option (Bool) := uncons rs fun c1 r2 => uncons c1 fun x3 l4 => cD x3 fun d5 => dBool d5 fun w0 => atEnd l4 <| atEnd r2 <| atEnd os (some w0)
theorem spec_IslandOk.kt_dec (a0_0 : ByteArray) (a0_1 : List (List D)) (a0_2 : List (List D)) (a0_3 : Int) : spec_IslandOk.kt a0_0 a0_1 a0_2 a0_3 spec_IslandOk.dec = (fun z0 => some z0) := by kernel_rfl
theorem spec_IslandOk.inj (a0_0 : ByteArray) (a0_1 : List (List D)) (a0_2 : List (List D)) (a0_3 : Int) {rs : List (List C)} {os : List Out} {z0 : Bool} (h : spec_IslandOk.dec rs os = some z0) (ho : OutShape (spec_IslandOk.as a0_0 a0_1 a0_2 a0_3) os) : rs = [[.d (.bool z0)]] ∧ os = [] := by
  unfold spec_IslandOk.dec at h
  obtain ⟨c1, r2, rfl, h1⟩ := uncons_some h
  obtain ⟨x3, l4, rfl, h2⟩ := uncons_some h1
  obtain ⟨d5, rfl, h3⟩ := cD_some h2
  obtain ⟨w0, rfl, h4⟩ := dBool_some h3
  obtain ⟨rfl, h5⟩ := atEnd_some h4
  obtain ⟨rfl, h6⟩ := atEnd_some h5
  obtain ⟨rfl, h7⟩ := atEnd_some h6
  obtain rfl := Option.some.inj h7
  exact ⟨rfl, rfl⟩
theorem spec_IslandOk.ok (k : Nat) : EntryOK Try.prog 16 (spec_IslandOk.e k) := by
  refine entry_of mix tyok (fn := Try.f16) (c := codeOf Try.f16) Try.func16 (by kernel_rfl) (h := spec_IslandOk.h) (k := k) (E := spec_IslandOk.E k) (env_cons (spec_NameOk.ok k) (env_cons (spec_LabelsOk.ok k) (env_cons (spec_l10Names.ok k) (env_cons (spec_l1In.ok k) env_nil)))) (by kernel_rfl) (by kernel_rfl) rfl (enter_of Try.func16 (by kernel_rfl)) ?_
  intro β l K r hr
  simp only [spec_IslandOk.e] at hr
  split at hr
  case h_2 => cases hr
  unfold spec_IslandOk.f at hr
  split at hr
  case h_2 => cases hr
  rename_i hz
  exact ⟨_, _, hr, _, spec_IslandOk.dec, _, (spec_IslandOk.f_eq k _ _ _ _ spec_IslandOk.dec).trans (by rw [spec_IslandOk.kt_dec]; exact hz), fun rs os h ho => spec_IslandOk.inj _ _ _ _ h ho⟩
/-! ### loop.example/g00119/spec.LabelGet: function 166 -/
noncomputable def spec_LabelGet.l0 {β : Type} (k : Nat) (v0_0 : List (List D)) (v0_1 : ByteArray) (K : ByteArray → Bool → Option β) (L0 : Int → Option β) (v : Int) : Option β :=
  match v with
  | v0_2 => bif (decide ((v0_2 : Int) < (v0_0.length : Int))) then (atRow v0_0 v0_2 fun c15 => uncons c15 fun d16 r17 => dStr d16 fun x18 => uncons r17 fun d19 r20 => dStr d19 fun x21 => atEnd r20 (bif (strEq x18 v0_1) then (atRow v0_0 v0_2 fun c22 => uncons c22 fun d23 r24 => dStr d23 fun x25 => uncons r24 fun d26 r27 => dStr d26 fun x28 => atEnd r27 (K x28 true)) else (L0 (IntKind.wrap .i64 (v0_2 + 1))))) else (K (⟨#[]⟩ : ByteArray) false)
noncomputable def spec_LabelGet.g {β : Type} (k : Nat) (a0 : List (List D)) (a1 : ByteArray) (K : ByteArray → Bool → Option β) : Option β :=
  iter (spec_LabelGet.l0 k a0 a1 K) k (0)
noncomputable def spec_LabelGet.t (k : Nat) (a0 : List (List D)) (a1 : ByteArray) : Option (ByteArray × Bool) := spec_LabelGet.g k a0 a1 (fun z0 z1 => some (z0, z1))
noncomputable def spec_LabelGet.f {β : Type} (k : Nat) (a0 : List (List D)) (a1 : ByteArray) (K : ByteArray → Bool → Option β) : Option β :=
  match spec_LabelGet.t k a0 a1 with
  | some (z0, z1) => K z0 z1
  | none => none
noncomputable def spec_LabelGet.as (a0 : List (List D)) (a1 : ByteArray) : List A := [.d (.sl a0), .d (.str a1)]
noncomputable def spec_LabelGet.kt {β : Type} (a0 : List (List D)) (a1 : ByteArray) (K0 : List (List C) → List Out → Option β) : ByteArray → Bool → Option β := fun z0 z1 => K0 [[.d (.str z0)], [.d (.bool z1)]] []
noncomputable def spec_LabelGet.e (k : Nat) : Entry := { modes := [(.imm, 0), (.imm, 0)], rts := [9, 4], al := false, run := fun {β} l K => match l with | [.d (.sl a0), .d (.str a1)] => spec_LabelGet.f k a0 a1 (spec_LabelGet.kt a0 a1 K) | _ => none }
noncomputable def spec_LabelGet.E (k : Nat) : Env := fun g => none
noncomputable def spec_LabelGet.h : Hints := ⟨fun n => bif n == 2 then ⟨[(0, .asis), (1, .asis), (6, .asis)], []⟩ else ⟨[], []⟩, fun _ => none, false, []⟩
noncomputable def spec_LabelGet.s0 (v0_0 : List (List D)) (v0_1 : ByteArray) (v : Int) : St :=
  match v with
  | v0_2 => ⟨[.d false (.sl v0_0), .d false (.str v0_1), .any, .any, .any, .any, .d true (.int .i64 v0_2), .any, .any, .any, .any, .any, .any, .any, .any, .any, .any, .any, .any, .any, .any, .any, .any, .any, .any], []⟩
noncomputable def spec_LabelGet.b0 {β : Type} (k : Nat) : St → (Ex → St → Option β) → Option β := fun s K => den Try.prog (spec_LabelGet.E k) spec_LabelGet.h.H spec_LabelGet.h.J k (codeAt [1, 0, 1, 0, 0] (codeOf Try.f166)) s K
noncomputable def spec_LabelGet.c0 {β : Type} (k : Nat) (a0 : List (List D)) (a1 : ByteArray) (K0 : List (List C) → List Out → Option β) : Ex → St → Option β := contAt Try.prog (spec_LabelGet.E k) spec_LabelGet.h k [1, 0, 1, 0] (codeOf Try.f166) (finDen Try.prog Try.f166 spec_LabelGet.h (spec_LabelGet.as a0 a1) K0)
theorem spec_LabelGet.l0_eq {β : Type} (k : Nat) (a0 : List (List D)) (a1 : ByteArray) (K0 : List (List C) → List Out → Option β) (v0_0 : List (List D)) (v0_1 : ByteArray) : ∀ (kk : Nat) (v : Int), loopDen (spec_LabelGet.b0 k) (spec_LabelGet.h.H 2) kk (spec_LabelGet.s0 v0_0 v0_1 v) (spec_LabelGet.c0 k a0 a1 K0) = iter (spec_LabelGet.l0 k v0_0 v0_1 (spec_LabelGet.kt a0 a1 K0)) kk v :=
  loop_eq (spec_LabelGet.s0 v0_0 v0_1) _ (fun L0 v => by kernel_rfl)
noncomputable def spec_LabelGet.m {β : Type} (k : Nat) (a0 : List (List D)) (a1 : ByteArray) (K0 : List (List C) → List Out → Option β) (F : ((List (List D)) → ByteArray → Int → Option β)) : Option β :=
  (F) a0 a1 (0)
theorem spec_LabelGet.f_eq {β : Type} (k : Nat) (a0 : List (List D)) (a1 : ByteArray) (K0 : List (List C) → List Out → Option β) : funDen Try.prog (spec_LabelGet.E k) spec_LabelGet.h k Try.f166 (spec_LabelGet.as a0 a1) K0 = spec_LabelGet.g k a0 a1 (spec_LabelGet.kt a0 a1 K0) := Eq.trans (b := (spec_LabelGet.m k a0 a1 K0) (fun (v0_0 : List (List D)) (v0_1 : ByteArray) (v : Int) => loopDen (spec_LabelGet.b0 k) (spec_LabelGet.h.H 2) k (spec_LabelGet.s0 v0_0 v0_1 v) (spec_LabelGet.c0 k a0 a1 K0))) (by kernel_rfl) (Eq.trans (congrArg (spec_LabelGet.m k a0 a1 K0) (funext fun v0_0 => funext fun v0_1 => funext fun v => spec_LabelGet.l0_eq k a0 a1 K0 v0_0 v0_1 k v)) (by kernel_rfl))
noncomputable def spec_LabelGet.dec (rs : List (List C)) (os : List Out) : Option (ByteArray × Bool) := uncons rs fun c1 r2 => uncons c1 fun x3 l4 => cD x3 fun d5 => dStr d5 fun w0 => atEnd l4 <| uncons r2 fun c6 r7 => uncons c6 fun x8 l9 => cD x8 fun d10 => dBool d10 fun w1 => atEnd l9 <| atEnd r7 <| atEnd os (some (w0, w1))
theorem spec_LabelGet.kt_dec (a0 : List (List D)) (a1 : ByteArray) : spec_LabelGet.kt a0 a1 spec_LabelGet.dec = (fun z0 z1 => some (z0, z1)) := by kernel_rfl
theorem spec_LabelGet.inj (a0 : List (List D)) (a1 : ByteArray) {rs : List (List C)} {os : List Out} {z0 : ByteArray} {z1 : Bool} (h : spec_LabelGet.dec rs os = some (z0, z1)) (ho : OutShape (spec_LabelGet.as a0 a1) os) : rs = [[.d (.str z0)], [.d (.bool z1)]] ∧ os = [] := by
  unfold spec_LabelGet.dec at h
  obtain ⟨c1, r2, rfl, h1⟩ := uncons_some h
  obtain ⟨x3, l4, rfl, h2⟩ := uncons_some h1
  obtain ⟨d5, rfl, h3⟩ := cD_some h2
  obtain ⟨w0, rfl, h4⟩ := dStr_some h3
  obtain ⟨rfl, h5⟩ := atEnd_some h4
  obtain ⟨c6, r7, rfl, h6⟩ := uncons_some h5
  obtain ⟨x8, l9, rfl, h7⟩ := uncons_some h6
  obtain ⟨d10, rfl, h8⟩ := cD_some h7
  obtain ⟨w1, rfl, h9⟩ := dBool_some h8
  obtain ⟨rfl, h10⟩ := atEnd_some h9
  obtain ⟨rfl, h11⟩ := atEnd_some h10
  obtain ⟨rfl, h12⟩ := atEnd_some h11
  simp only [Option.some.injEq, Prod.mk.injEq] at h12
  obtain ⟨rfl, rfl⟩ := h12
  exact ⟨rfl, rfl⟩
theorem spec_LabelGet.ok (k : Nat) : EntryOK Try.prog 166 (spec_LabelGet.e k) := by
  refine entry_of mix tyok (fn := Try.f166) (c := codeOf Try.f166) Try.func166 (by kernel_rfl) (h := spec_LabelGet.h) (k := k) (E := spec_LabelGet.E k) env_nil (by kernel_rfl) (by kernel_rfl) rfl (enter_of Try.func166 (by kernel_rfl)) ?_
  intro β l K r hr
  simp only [spec_LabelGet.e] at hr
  split at hr
  case h_2 => cases hr
  unfold spec_LabelGet.f at hr
  split at hr
  case h_2 => cases hr
  rename_i hz
  exact ⟨_, _, hr, _, spec_LabelGet.dec, _, (spec_LabelGet.f_eq k _ _ spec_LabelGet.dec).trans (by rw [spec_LabelGet.kt_dec]; exact hz), fun rs os h ho => spec_LabelGet.inj _ _ h ho⟩
/-! ### loop.example/g00119/spec.l2Among: function 114 -/
noncomputable def spec_l2Among.l0 {β : Type} (k : Nat) (v0_0 : List (List D)) (v0_1 : ByteArray) (K : Bool → Option β) (L0 : Int → Option β) (v : Int) : Option β :=
  match v with
  | v0_2 => bif (decide ((v0_2 : Int) < (v0_0.length : Int))) then (atRow v0_0 v0_2 fun c5 => uncons c5 fun d6 r7 => dStr d6 fun x8 => atEnd r7 (bif (strEq x8 v0_1) then (K true) else (L0 (IntKind.wrap .i64 (v0_2 + 1))))) else (K false)
noncomputable def spec_l2Among.g {β : Type} (k : Nat) (a0 : List (List D)) (a1 : ByteArray) (K : Bool → Option β) : Option β :=
  iter (spec_l2Among.l0 k a0 a1 K) k (0)
noncomputable def spec_l2Among.t (k : Nat) (a0 : List (List D)) (a1 : ByteArray) : Option (Bool) := spec_l2Among.g k a0 a1 (fun z0 => some z0)
noncomputable def spec_l2Among.f {β : Type} (k : Nat) (a0 : List (List D)) (a1 : ByteArray) (K : Bool → Option β) : Option β :=
  match spec_l2Among.t k a0 a1 with
  | some z0 => K z0
  | none => none
noncomputable def spec_l2Among.as (a0 : List (List D)) (a1 : ByteArray) : List A := [.d (.sl a0), .d (.str a1)]
noncomputable def spec_l2Among.kt {β : Type} (a0 : List (List D)) (a1 : ByteArray) (K0 : List (List C) → List Out → Option β) : Bool → Option β := fun z0 => K0 [[.d (.bool z0)]] []
noncomputable def spec_l2Among.e (k : Nat) : Entry := { modes := [(.imm, 0), (.imm, 0)], rts := [4], al := false, run := fun {β} l K => match l with | [.d (.sl a0), .d (.str a1)] => spec_l2Among.f k a0 a1 (spec_l2Among.kt a0 a1 K) | _ => none }
noncomputable def spec_l2Among.E (k : Nat) : Env := fun g => none
noncomputable def spec_l2Among.h : Hints := ⟨fun n => bif n == 2 then ⟨[(0, .asis), (1, .asis), (5, .asis)], []⟩ else ⟨[], []⟩, fun _ => none, false, []⟩
noncomputable def spec_l2Among.s0 (v0_0 : List (List D)) (v0_1 : ByteArray) (v : Int) : St :=
  match v with
  | v0_2 => ⟨[.d false (.sl v0_0), .d false (.str v0_1), .any, .any, .any, .d true (.int .i64 v0_2), .any, .any, .any, .any, .any, .any, .any, .any, .any, .any, .any, .any], []⟩
noncomputable def spec_l2Among.b0 {β : Type} (k : Nat) : St → (Ex → St → Option β) → Option β := fun s K => den Try.prog (spec_l2Among.E k) spec_l2Among.h.H spec_l2Among.h.J k (codeAt [1, 0, 1, 0, 0] (codeOf Try.f114)) s K
noncomputable def spec_l2Among.c0 {β : Type} (k : Nat) (a0 : List (List D)) (a1 : ByteArray) (K0 : List (List C) → List Out → Option β) : Ex → St → Option β := contAt Try.prog (spec_l2Among.E k) spec_l2Among.h k [1, 0, 1, 0] (codeOf Try.f114) (finDen Try.prog Try.f114 spec_l2Among.h (spec_l2Among.as a0 a1) K0)
theorem spec_l2Among.l0_eq {β : Type} (k : Nat) (a0 : List (List D)) (a1 : ByteArray) (K0 : List (List C) → List Out → Option β) (v0_0 : List (List D)) (v0_1 : ByteArray) : ∀ (kk : Nat) (v : Int), loopDen (spec_l2Among.b0 k) (spec_l2Among.h.H 2) kk (spec_l2Among.s0 v0_0 v0_1 v) (spec_l2Among.c0 k a0 a1 K0) = iter (spec_l2Among.l0 k v0_0 v0_1 (spec_l2Among.kt a0 a1 K0)) kk v :=
  loop_eq (spec_l2Among.s0 v0_0 v0_1) _ (fun L0 v => by kernel_rfl)
noncomputable def spec_l2Among.m {β : Type} (k : Nat) (a0 : List (List D)) (a1 : ByteArray) (K0 : List (List C) → List Out → Option β) (F : ((List (List D)) → ByteArray → Int → Option β)) : Option β :=
  (F) a0 a1 (0)
theorem spec_l2Among.f_eq {β : Type} (k : Nat) (a0 : List (List D)) (a1 : ByteArray) (K0 : List (List C) → List Out → Option β) : funDen Try.prog (spec_l2Among.E k) spec_l2Among.h k Try.f114 (spec_l2Among.as a0 a1) K0 = spec_l2Among.g k a0 a1 (spec_l2Among.kt a0 a1 K0) := Eq.trans (b := (spec_l2Among.m k a0 a1 K0) (fun (v0_0 : List (List D)) (v0_1 : ByteArray) (v : Int) => loopDen (spec_l2Among.b0 k) (spec_l2Among.h.H 2) k (spec_l2Among.s0 v0_0 v0_1 v) (spec_l2Among.c0 k a0 a1 K0))) (by kernel_rfl) (Eq.trans (congrArg (spec_l2Among.m k a0 a1 K0) (funext fun v0_0 => funext fun v0_1 => funext fun v => spec_l2Among.l0_eq k a0 a1 K0 v0_0 v0_1 k v)) (by kernel_rfl))
noncomputable def spec_l2Among.dec (rs : List (List C)) (os : List Out) : Option (Bool) := uncons rs fun c1 r2 => uncons c1 fun x3 l4 => cD x3 fun d5 => dBool d5 fun w0 => atEnd l4 <| atEnd r2 <| atEnd os (some w0)
theorem spec_l2Among.kt_dec (a0 : List (List D)) (a1 : ByteArray) : spec_l2Among.kt a0 a1 spec_l2Among.dec = (fun z0 => some z0) := by kernel_rfl
theorem spec_l2Among.inj (a0 : List (List D)) (a1 : ByteArray) {rs : List (List C)} {os : List Out} {z0 : Bool} (h : spec_l2Among.dec rs os = some z0) (ho : OutShape (spec_l2Among.as a0 a1) os) : rs = [[.d (.bool z0)]] ∧ os = [] := by
  unfold spec_l2Among.dec at h
  obtain ⟨c1, r2, rfl, h1⟩ := uncons_some h
  obtain ⟨x3, l4, rfl, h2⟩ := uncons_some h1
  obtain ⟨d5, rfl, h3⟩ := cD_some h2
  obtain ⟨w0, rfl, h4⟩ := dBool_some h3
  obtain ⟨rfl, h5⟩ := atEnd_some h4
  obtain ⟨rfl, h6⟩ := atEnd_some h5
  obtain ⟨rfl, h7⟩ := atEnd_some h6
  obtain rfl := Option.some.inj h7
  exact ⟨rfl, rfl⟩
theorem spec_l2Among.ok (k : Nat) : EntryOK Try.prog 114 (spec_l2Among.e k) := by
  refine entry_of mix tyok (fn := Try.f114) (c := codeOf Try.f114) Try.func114 (by kernel_rfl) (h := spec_l2Among.h) (k := k) (E := spec_l2Among.E k) env_nil (by kernel_rfl) (by kernel_rfl) rfl (enter_of Try.func114 (by kernel_rfl)) ?_
  intro β l K r hr
  simp only [spec_l2Among.e] at hr
  split at hr
  case h_2 => cases hr
  unfold spec_l2Among.f at hr
  split at hr
  case h_2 => cases hr
  rename_i hz
  exact ⟨_, _, hr, _, spec_l2Among.dec, _, (spec_l2Among.f_eq k _ _ spec_l2Among.dec).trans (by rw [spec_l2Among.kt_dec]; exact hz), fun rs os h ho => spec_l2Among.inj _ _ h ho⟩
/-! ### loop.example/g00119/spec.l2Holds: function 167 -/
noncomputable def spec_l2Holds.g {β : Type} (k : Nat) (a0_0 : Int) (a0_1 : ByteArray) (a0_2 : List (List D)) (a1 : ByteArray) (a2 : Bool) (K : Bool → Option β) : Option β :=
  bif ((a0_0 : Int) == 1) then (bif ((a0_0 : Int) == 1) then (bif a2 then (spec_l2Among.f k a0_2 a1 (fun y9 => K y9)) else (K false)) else (bif ((a0_0 : Int) == 2) then (bif (!a2) then (K true) else (spec_l2Among.f k a0_2 a1 (fun y10 => K (!y10)))) else (bif ((a0_0 : Int) == 4) then (K a2) else (K (!a2))))) else (bif ((a0_0 : Int) == 3) then (bif a2 then (spec_l2Among.f k a0_2 a1 (fun y11 => K y11)) else (K false)) else (bif ((a0_0 : Int) == 2) then (bif (!a2) then (K true) else (spec_l2Among.f k a0_2 a1 (fun y12 => K (!y12)))) else (bif ((a0_0 : Int) == 4) then (K a2) else (K (!a2)))))
noncomputable def spec_l2Holds.t (k : Nat) (a0_0 : Int) (a0_1 : ByteArray) (a0_2 : List (List D)) (a1 : ByteArray) (a2 : Bool) : Option (Bool) := spec_l2Holds.g k a0_0 a0_1 a0_2 a1 a2 (fun z0 => some z0)
noncomputable def spec_l2Holds.f {β : Type} (k : Nat) (a0_0 : Int) (a0_1 : ByteArray) (a0_2 : List (List D)) (a1 : ByteArray) (a2 : Bool) (K : Bool → Option β) : Option β :=
  match spec_l2Holds.t k a0_0 a0_1 a0_2 a1 a2 with
  | some z0 => K z0
  | none => none
noncomputable def spec_l2Holds.as (a0_0 : Int) (a0_1 : ByteArray) (a0_2 : List (List D)) (a1 : ByteArray) (a2 : Bool) : List A := [.agg [.int .i64 a0_0, .str a0_1, .sl a0_2], .d (.str a1), .d (.bool a2)]
noncomputable def spec_l2Holds.kt {β : Type} (a0_0 : Int) (a0_1 : ByteArray) (a0_2 : List (List D)) (a1 : ByteArray) (a2 : Bool) (K0 : List (List C) → List Out → Option β) : Bool → Option β := fun z0 => K0 [[.d (.bool z0)]] []
noncomputable def spec_l2Holds.e (k : Nat) : Entry := { modes := [(.imm, 0), (.imm, 0), (.imm, 0)], rts := [4], al := false, run := fun {β} l K => match l with | [.agg [.int .i64 a0_0, .str a0_1, .sl a0_2], .d (.str a1), .d (.bool a2)] => spec_l2Holds.f k a0_0 a0_1 a0_2 a1 a2 (spec_l2Holds.kt a0_0 a0_1 a0_2 a1 a2 K) | _ => none }
noncomputable def spec_l2Holds.E (k : Nat) : Env := fun g => bif g == 114 then some (spec_l2Among.e k) else none
noncomputable def spec_l2Holds.h : Hints := ⟨fun n => ⟨[], []⟩, fun _ => none, false, []⟩
theorem spec_l2Holds.f_eq {β : Type} (k : Nat) (a0_0 : Int) (a0_1 : ByteArray) (a0_2 : List (List D)) (a1 : ByteArray) (a2 : Bool) (K0 : List (List C) → List Out → Option β) : funDen Try.prog (spec_l2Holds.E k) spec_l2Holds.h k Try.f167 (spec_l2Holds.as a0_0 a0_1 a0_2 a1 a2) K0 = spec_l2Holds.g k a0_0 a0_1 a0_2 a1 a2 (spec_l2Holds.kt a0_0 a0_1 a0_2 a1 a2 K0) := by kernel_rfl
noncomputable def spec_l2Holds.dec (rs : List (List C)) (os : List Out) : Option (Bool) := uncons rs fun c1 r2 => uncons c1 fun x3 l4 => cD x3 fun d5 => dBool d5 fun w0 => atEnd l4 <| atEnd r2 <| atEnd os (some w0)
theorem spec_l2Holds.kt_dec (a0_0 : Int) (a0_1 : ByteArray) (a0_2 : List (List D)) (a1 : ByteArray) (a2 : Bool) : spec_l2Holds.kt a0_0 a0_1 a0_2 a1 a2 spec_l2Holds.dec = (fun z0 => some z0) := by kernel_rfl
theorem spec_l2Holds.inj (a0_0 : Int) (a0_1 : ByteArray) (a0_2 : List (List D)) (a1 : ByteArray) (a2 : Bool) {rs : List (List C)} {os : List Out} {z0 : Bool} (h : spec_l2Holds.dec rs os = some z0) (ho : OutShape (spec_l2Holds.as a0_0 a0_1 a0_2 a1 a2) os) : rs = [[.d (.bool z0)]] ∧ os = [] := by
  unfold spec_l2Holds.dec at h
  obtain ⟨c1, r2, rfl, h1⟩ := uncons_some h
  obtain ⟨x3, l4, rfl, h2⟩ := uncons_some h1
  obtain ⟨d5, rfl, h3⟩ := cD_some h2
  obtain ⟨w0, rfl, h4⟩ := dBool_some h3
  obtain ⟨rfl, h5⟩ := atEnd_some h4
  obtain ⟨rfl, h6⟩ := atEnd_some h5
  obtain ⟨rfl, h7⟩ := atEnd_some h6
  obtain rfl := Option.some.inj h7
  exact ⟨rfl, rfl⟩
theorem spec_l2Holds.ok (k : Nat) : EntryOK Try.prog 167 (spec_l2Holds.e k) := by
  refine entry_of mix tyok (fn := Try.f167) (c := codeOf Try.f167) Try.func167 (by kernel_rfl) (h := spec_l2Holds.h) (k := k) (E := spec_l2Holds.E k) (env_cons (spec_l2Among.ok k) env_nil) (by kernel_rfl) (by kernel_rfl) rfl (enter_of Try.func167 (by kernel_rfl)) ?_
  intro β l K r hr
  simp only [spec_l2Holds.e] at hr
  split at hr
  case h_2 => cases hr
  unfold spec_l2Holds.f at hr
  split at hr
  case h_2 => cases hr
  rename_i hz
  exact ⟨_, _, hr, _, spec_l2Holds.dec, _, (spec_l2Holds.f_eq k _ _ _ _ _ spec_l2Holds.dec).trans (by rw [spec_l2Holds.kt_dec]; exact hz), fun rs os h ho => spec_l2Holds.inj _ _ _ _ _ h ho⟩
/-! ### loop.example/g00119/spec.Matches: function 113 -/
noncomputable def spec_Matches.l0 {β : Type} (k : Nat) (v0_0 : List (List D)) (v0_1 : List (List D)) (K : Bool → Option β) (L0 : Int → Option β) (v : Int) : Option β :=
  match v with
  | v0_2 => bif (decide ((v0_2 : Int) < (v0_0.length : Int))) then (atRow v0_0 v0_2 fun c42 => uncons c42 fun d43 r44 => dInt .i64 d43 fun x45 => uncons r44 fun d46 r47 => dStr d46 fun x48 => uncons r47 fun d49 r50 => dSl d49 fun x51 => atEnd r50 (spec_LabelGet.f k v0_1 x48 (fun y52 y53 => atRow v0_0 v0_2 fun c54 => uncons c54 fun d55 r56 => dInt .i64 d55 fun x57 => uncons r56 fun d58 r59 => dStr d58 fun x60 => uncons r59 fun d61 r62 => dSl d61 fun x63 => atEnd r62 (spec_l2Holds.f k x57 x60 x63 y52 y53 (fun y64 => bif (!y64) then (K false) else (L0 (IntKind.wrap .i64 (v0_2 + 1)))))))) else (K true)
noncomputable def spec_Matches.g {β : Type} (k : Nat) (a0 : List (List D)) (a1 : List (List D)) (K : Bool → Option β) : Option β :=
  spec_SelectorOk.f k a0 (fun y1 => bif (!y1) then (K false) else (spec_LabelsOk.f k a1 (fun y2 => bif (!y2) then (K false) else (iter (spec_Matches.l0 k a0 a1 K) k (0)))))
noncomputable def spec_Matches.t (k : Nat) (a0 : List (List D)) (a1 : List (List D)) : Option (Bool) := spec_Matches.g k a0 a1 (fun z0 => some z0)
noncomputable def spec_Matches.f {β : Type} (k : Nat) (a0 : List (List D)) (a1 : List (List D)) (K : Bool → Option β) : Option β :=
  match spec_Matches.t k a0 a1 with
  | some z0 => K z0
  | none => none
noncomputable def spec_Matches.as (a0 : List (List D)) (a1 : List (List D)) : List A := [.d (.sl a0), .d (.sl a1)]
noncomputable def spec_Matches.kt {β : Type} (a0 : List (List D)) (a1 : List (List D)) (K0 : List (List C) → List Out → Option β) : Bool → Option β := fun z0 => K0 [[.d (.bool z0)]] []
noncomputable def spec_Matches.e (k : Nat) : Entry := { modes := [(.imm, 0), (.imm, 0)], rts := [4], al := false, run := fun {β} l K => match l with | [.d (.sl a0), .d (.sl a1)] => spec_Matches.f k a0 a1 (spec_Matches.kt a0 a1 K) | _ => none }
noncomputable def spec_Matches.E (k : Nat) : Env := fun g => bif g == 98 then some (spec_SelectorOk.e k) else bif g == 67 then some (spec_LabelsOk.e k) else bif g == 166 then some (spec_LabelGet.e k) else bif g == 167 then some (spec_l2Holds.e k) else none
noncomputable def spec_Matches.h : Hints := ⟨fun n => bif n == 4 then ⟨[(0, .asis), (1, .asis), (5, .asis)], []⟩ else ⟨[], []⟩, fun _ => none, false, []⟩
noncomputable def spec_Matches.s0 (v0_0 : List (List D)) (v0_1 : List (List D)) (v : Int) : St :=
  match v with
  | v0_2 => ⟨[.d false (.sl v0_0), .d false (.sl v0_1), .any, .any, .any, .d true (.int .i64 v0_2), .any, .any, .any, .any, .any, .any, .any, .any, .any, .any, .any, .any, .any, .any, .any, .any, .any, .any, .any, .any, .any, .any, .any, .any, .any, .any, .any, .any, .any, .any, .any, .any, .any, .any], []⟩
noncomputable def spec_Matches.b0 {β : Type} (k : Nat) : St → (Ex → St → Option β) → Option β := fun s K => den Try.prog (spec_Matches.E k) spec_Matches.h.H spec_Matches.h.J k (codeAt [1, 1, 0, 1, 0, 0] (codeOf Try.f113)) s K
noncomputable def spec_Matches.c0 {β : Type} (k : Nat) (a0 : List (List D)) (a1 : List (List D)) (K0 : List (List C) → List Out → Option β) : Ex → St → Option β := contAt Try.prog (spec_Matches.E k) spec_Matches.h k [1, 1, 0, 1, 0] (codeOf Try.f113) (finDen Try.prog Try.f113 spec_Matches.h (spec_Matches.as a0 a1) K0)
theorem spec_Matches.l0_eq {β : Type} (k : Nat) (a0 : List (List D)) (a1 : List (List D)) (K0 : List (List C) → List Out → Option β) (v0_0 : List (List D)) (v0_1 : List (List D)) : ∀ (kk : Nat) (v : Int), loopDen (spec_Matches.b0 k) (spec_Matches.h.H 4) kk (spec_Matches.s0 v0_0 v0_1 v) (spec_Matches.c0 k a0 a1 K0) = iter (spec_Matches.l0 k v0_0 v0_1 (spec_Matches.kt a0 a1 K0)) kk v :=
  loop_eq (spec_Matches.s0 v0_0 v0_1) _ (fun L0 v => by kernel_rfl)
noncomputable def spec_Matches.m {β : Type} (k : Nat) (a0 : List (List D)) (a1 : List (List D)) (K0 : List (List C) → List Out → Option β) (F : ((List (List D)) → (List (List D)) → Int → Option β)) : Option β :=
  spec_SelectorOk.f k a0 (fun y1 => bif (!y1) then ((spec_Matches.kt a0 a1 K0) false) else (spec_LabelsOk.f k a1 (fun y2 => bif (!y2) then ((spec_Matches.kt a0 a1 K0) false) else ((F) a0 a1 (0)))))
theorem spec_Matches.f_eq {β : Type} (k : Nat) (a0 : List (List D)) (a1 : List (List D)) (K0 : List (List C) → List Out → Option β) : funDen Try.prog (spec_Matches.E k) spec_Matches.h k Try.f113 (spec_Matches.as a0 a1) K0 = spec_Matches.g k a0 a1 (spec_Matches.kt a0 a1 K0) := Eq.trans (b := (spec_Matches.m k a0 a1 K0) (fun (v0_0 : List (List D)) (v0_1 : List (List D)) (v : Int) => loopDen (spec_Matches.b0 k) (spec_Matches.h.H 4) k (spec_Matches.s0 v0_0 v0_1 v) (spec_Matches.c0 k a0 a1 K0))) (by kernel_rfl) (Eq.trans (congrArg (spec_Matches.m k a0 a1 K0) (funext fun v0_0 => funext fun v0_1 => funext fun v => spec_Matches.l0_eq k a0 a1 K0 v0_0 v0_1 k v)) (by kernel_rfl))
noncomputable def spec_Matches.dec (rs : List (List C)) (os : List Out) : Option (Bool) := uncons rs fun c1 r2 => uncons c1 fun x3 l4 => cD x3 fun d5 => dBool d5 fun w0 => atEnd l4 <| atEnd r2 <| atEnd os (some w0)
theorem spec_Matches.kt_dec (a0 : List (List D)) (a1 : List (List D)) : spec_Matches.kt a0 a1 spec_Matches.dec = (fun z0 => some z0) := by kernel_rfl
theorem spec_Matches.inj (a0 : List (List D)) (a1 : List (List D)) {rs : List (List C)} {os : List Out} {z0 : Bool} (h : spec_Matches.dec rs os = some z0) (ho : OutShape (spec_Matches.as a0 a1) os) : rs = [[.d (.bool z0)]] ∧ os = [] := by
  unfold spec_Matches.dec at h
  obtain ⟨c1, r2, rfl, h1⟩ := uncons_some h
  obtain ⟨x3, l4, rfl, h2⟩ := uncons_some h1
  obtain ⟨d5, rfl, h3⟩ := cD_some h2
  obtain ⟨w0, rfl, h4⟩ := dBool_some h3
  obtain ⟨rfl, h5⟩ := atEnd_some h4
  obtain ⟨rfl, h6⟩ := atEnd_some h5
  obtain ⟨rfl, h7⟩ := atEnd_some h6
  obtain rfl := Option.some.inj h7
  exact ⟨rfl, rfl⟩
theorem spec_Matches.ok (k : Nat) : EntryOK Try.prog 113 (spec_Matches.e k) := by
  refine entry_of mix tyok (fn := Try.f113) (c := codeOf Try.f113) Try.func113 (by kernel_rfl) (h := spec_Matches.h) (k := k) (E := spec_Matches.E k) (env_cons (spec_SelectorOk.ok k) (env_cons (spec_LabelsOk.ok k) (env_cons (spec_LabelGet.ok k) (env_cons (spec_l2Holds.ok k) env_nil)))) (by kernel_rfl) (by kernel_rfl) rfl (enter_of Try.func113 (by kernel_rfl)) ?_
  intro β l K r hr
  simp only [spec_Matches.e] at hr
  split at hr
  case h_2 => cases hr
  unfold spec_Matches.f at hr
  split at hr
  case h_2 => cases hr
  rename_i hz
  exact ⟨_, _, hr, _, spec_Matches.dec, _, (spec_Matches.f_eq k _ _ spec_Matches.dec).trans (by rw [spec_Matches.kt_dec]; exact hz), fun rs os h ho => spec_Matches.inj _ _ h ho⟩
/-! ### loop.example/g00119/spec.Eligible: function 53 -/
noncomputable def spec_Eligible.l0 {β : Type} (k : Nat) (v0_1 : Int) (v0_2 : List (List D)) (v0_3 : List (List D)) (v0_4 : List (List D)) (v0_5 : ByteArray) (v0_6 : List (List D)) (v0_7 : List (List D)) (v0_8 : Int) (K : Bool → Option β) (L0 : Int → Option β) (v : Int) : Option β :=
  match v with
  | v0_0 => bif (decide ((v0_0 : Int) < (v0_7.length : Int))) then (atRow v0_7 v0_0 fun c88 => uncons c88 fun d89 r90 => dStr d89 fun x91 => atEnd r90 (spec_l2Among.f k v0_3 x91 (fun y92 => bif (!y92) then (K false) else (L0 (IntKind.wrap .i64 (v0_0 + 1)))))) else (K true)
noncomputable def spec_Eligible.g {β : Type} (k : Nat) (a0_0 : Int) (a0_1 : List (List D)) (a0_2 : List (List D)) (a0_3 : List (List D)) (a1_0 : ByteArray) (a1_1 : List (List D)) (a1_2 : List (List D)) (a1_3 : Int) (K : Bool → Option β) : Option β :=
  spec_WantOk.f k a0_0 a0_1 a0_2 a0_3 (fun y80 => bif (!y80) then (K false) else (spec_IslandOk.f k a1_0 a1_1 a1_2 a1_3 (fun y81 => bif (!y81) then (K false) else (spec_Matches.f k a0_1 a1_1 (fun y82 => bif (!y82) then (K false) else (iter (spec_Eligible.l0 k a0_0 a0_1 a0_2 a0_3 a1_0 a1_1 a1_2 a1_3 K) k (0)))))))
noncomputable def spec_Eligible.t (k : Nat) (a0_0 : Int) (a0_1 : List (List D)) (a0_2 : List (List D)) (a0_3 : List (List D)) (a1_0 : ByteArray) (a1_1 : List (List D)) (a1_2 : List (List D)) (a1_3 : Int) : Option (Bool) := spec_Eligible.g k a0_0 a0_1 a0_2 a0_3 a1_0 a1_1 a1_2 a1_3 (fun z0 => some z0)
noncomputable def spec_Eligible.f {β : Type} (k : Nat) (a0_0 : Int) (a0_1 : List (List D)) (a0_2 : List (List D)) (a0_3 : List (List D)) (a1_0 : ByteArray) (a1_1 : List (List D)) (a1_2 : List (List D)) (a1_3 : Int) (K : Bool → Option β) : Option β :=
  match spec_Eligible.t k a0_0 a0_1 a0_2 a0_3 a1_0 a1_1 a1_2 a1_3 with
  | some z0 => K z0
  | none => none
noncomputable def spec_Eligible.as (a0_0 : Int) (a0_1 : List (List D)) (a0_2 : List (List D)) (a0_3 : List (List D)) (a1_0 : ByteArray) (a1_1 : List (List D)) (a1_2 : List (List D)) (a1_3 : Int) : List A := [.agg [.int .i64 a0_0, .sl a0_1, .sl a0_2, .sl a0_3], .agg [.str a1_0, .sl a1_1, .sl a1_2, .int .i64 a1_3]]
noncomputable def spec_Eligible.kt {β : Type} (a0_0 : Int) (a0_1 : List (List D)) (a0_2 : List (List D)) (a0_3 : List (List D)) (a1_0 : ByteArray) (a1_1 : List (List D)) (a1_2 : List (List D)) (a1_3 : Int) (K0 : List (List C) → List Out → Option β) : Bool → Option β := fun z0 => K0 [[.d (.bool z0)]] []
noncomputable def spec_Eligible.e (k : Nat) : Entry := { modes := [(.imm, 0), (.imm, 0)], rts := [4], al := false, run := fun {β} l K => match l with | [.agg [.int .i64 a0_0, .sl a0_1, .sl a0_2, .sl a0_3], .agg [.str a1_0, .sl a1_1, .sl a1_2, .int .i64 a1_3]] => spec_Eligible.f k a0_0 a0_1 a0_2 a0_3 a1_0 a1_1 a1_2 a1_3 (spec_Eligible.kt a0_0 a0_1 a0_2 a0_3 a1_0 a1_1 a1_2 a1_3 K) | _ => none }
noncomputable def spec_Eligible.E (k : Nat) : Env := fun g => bif g == 37 then some (spec_WantOk.e k) else bif g == 16 then some (spec_IslandOk.e k) else bif g == 113 then some (spec_Matches.e k) else bif g == 114 then some (spec_l2Among.e k) else none
noncomputable def spec_Eligible.h : Hints := ⟨fun n => bif n == 4 then ⟨[(2, .asis), (3, .asis), (5, .asis)], []⟩ else ⟨[], []⟩, fun _ => none, false, []⟩
noncomputable def spec_Eligible.s0 (v0_1 : Int) (v0_2 : List (List D)) (v0_3 : List (List D)) (v0_4 : List (List D)) (v0_5 : ByteArray) (v0_6 : List (List D)) (v0_7 : List (List D)) (v0_8 : Int) (v : Int) : St :=
  match v with
  | v0_0 => ⟨[.any, .any, .bp 0 0, .bp 1 0, .any, .d true (.int .i64 v0_0), .any, .any, .any, .any, .any, .any, .any, .any, .any, .any, .any, .any, .any, .any, .any, .any, .any, .any, .any, .any, .any, .any, .any, .any, .any, .any, .any, .any, .any, .any, .any, .any], [.box none 43 [.d false (.int .i64 v0_1), .d false (.sl v0_2), .d false (.sl v0_3), .d false (.sl v0_4)], .box none 30 [.d false (.str v0_5), .d false (.sl v0_6), .d false (.sl v0_7), .d false (.int .i64 v0_8)]]⟩
noncomputable def spec_Eligible.b0 {β : Type} (k : Nat) : St → (Ex → St → Option β) → Option β := fun s K => den Try.prog (spec_Eligible.E k) spec_Eligible.h.H spec_Eligible.h.J k (codeAt [1, 1, 0, 1, 0, 0] (codeOf Try.f53)) s K
noncomputable def spec_Eligible.c0 {β : Type} (k : Nat) (a0_0 : Int) (a0_1 : List (List D)) (a0_2 : List (List D)) (a0_3 : List (List D)) (a1_0 : ByteArray) (a1_1 : List (List D)) (a1_2 : List (List D)) (a1_3 : Int) (K0 : List (List C) → List Out → Option β) : Ex → St → Option β := contAt Try.prog (spec_Eligible.E k) spec_Eligible.h k [1, 1, 0, 1, 0] (codeOf Try.f53) (finDen Try.prog Try.f53 spec_Eligible.h (spec_Eligible.as a0_0 a0_1 a0_2 a0_3 a1_0 a1_1 a1_2 a1_3) K0)
theorem spec_Eligible.l0_eq {β : Type} (k : Nat) (a0_0 : Int) (a0_1 : List (List D)) (a0_2 : List (List D)) (a0_3 : List (List D)) (a1_0 : ByteArray) (a1_1 : List (List D)) (a1_2 : List (List D)) (a1_3 : Int) (K0 : List (List C) → List Out → Option β) (v0_1 : Int) (v0_2 : List (List D)) (v0_3 : List (List D)) (v0_4 : List (List D)) (v0_5 : ByteArray) (v0_6 : List (List D)) (v0_7 : List (List D)) (v0_8 : Int) : ∀ (kk : Nat) (v : Int), loopDen (spec_Eligible.b0 k) (spec_Eligible.h.H 4) kk (spec_Eligible.s0 v0_1 v0_2 v0_3 v0_4 v0_5 v0_6 v0_7 v0_8 v) (spec_Eligible.c0 k a0_0 a0_1 a0_2 a0_3 a1_0 a1_1 a1_2 a1_3 K0) = iter (spec_Eligible.l0 k v0_1 v0_2 v0_3 v0_4 v0_5 v0_6 v0_7 v0_8 (spec_Eligible.kt a0_0 a0_1 a0_2 a0_3 a1_0 a1_1 a1_2 a1_3 K0)) kk v :=
  loop_eq (spec_Eligible.s0 v0_1 v0_2 v0_3 v0_4 v0_5 v0_6 v0_7 v0_8) _ (fun L0 v => by kernel_rfl)
noncomputable def spec_Eligible.m {β : Type} (k : Nat) (a0_0 : Int) (a0_1 : List (List D)) (a0_2 : List (List D)) (a0_3 : List (List D)) (a1_0 : ByteArray) (a1_1 : List (List D)) (a1_2 : List (List D)) (a1_3 : Int) (K0 : List (List C) → List Out → Option β) (F : (Int → (List (List D)) → (List (List D)) → (List (List D)) → ByteArray → (List (List D)) → (List (List D)) → Int → Int → Option β)) : Option β :=
  spec_WantOk.f k a0_0 a0_1 a0_2 a0_3 (fun y80 => bif (!y80) then ((spec_Eligible.kt a0_0 a0_1 a0_2 a0_3 a1_0 a1_1 a1_2 a1_3 K0) false) else (spec_IslandOk.f k a1_0 a1_1 a1_2 a1_3 (fun y81 => bif (!y81) then ((spec_Eligible.kt a0_0 a0_1 a0_2 a0_3 a1_0 a1_1 a1_2 a1_3 K0) false) else (spec_Matches.f k a0_1 a1_1 (fun y82 => bif (!y82) then ((spec_Eligible.kt a0_0 a0_1 a0_2 a0_3 a1_0 a1_1 a1_2 a1_3 K0) false) else ((F) a0_0 a0_1 a0_2 a0_3 a1_0 a1_1 a1_2 a1_3 (0)))))))
theorem spec_Eligible.f_eq {β : Type} (k : Nat) (a0_0 : Int) (a0_1 : List (List D)) (a0_2 : List (List D)) (a0_3 : List (List D)) (a1_0 : ByteArray) (a1_1 : List (List D)) (a1_2 : List (List D)) (a1_3 : Int) (K0 : List (List C) → List Out → Option β) : funDen Try.prog (spec_Eligible.E k) spec_Eligible.h k Try.f53 (spec_Eligible.as a0_0 a0_1 a0_2 a0_3 a1_0 a1_1 a1_2 a1_3) K0 = spec_Eligible.g k a0_0 a0_1 a0_2 a0_3 a1_0 a1_1 a1_2 a1_3 (spec_Eligible.kt a0_0 a0_1 a0_2 a0_3 a1_0 a1_1 a1_2 a1_3 K0) := Eq.trans (b := (spec_Eligible.m k a0_0 a0_1 a0_2 a0_3 a1_0 a1_1 a1_2 a1_3 K0) (fun (v0_1 : Int) (v0_2 : List (List D)) (v0_3 : List (List D)) (v0_4 : List (List D)) (v0_5 : ByteArray) (v0_6 : List (List D)) (v0_7 : List (List D)) (v0_8 : Int) (v : Int) => loopDen (spec_Eligible.b0 k) (spec_Eligible.h.H 4) k (spec_Eligible.s0 v0_1 v0_2 v0_3 v0_4 v0_5 v0_6 v0_7 v0_8 v) (spec_Eligible.c0 k a0_0 a0_1 a0_2 a0_3 a1_0 a1_1 a1_2 a1_3 K0))) (by kernel_rfl) (Eq.trans (congrArg (spec_Eligible.m k a0_0 a0_1 a0_2 a0_3 a1_0 a1_1 a1_2 a1_3 K0) (funext fun v0_1 => funext fun v0_2 => funext fun v0_3 => funext fun v0_4 => funext fun v0_5 => funext fun v0_6 => funext fun v0_7 => funext fun v0_8 => funext fun v => spec_Eligible.l0_eq k a0_0 a0_1 a0_2 a0_3 a1_0 a1_1 a1_2 a1_3 K0 v0_1 v0_2 v0_3 v0_4 v0_5 v0_6 v0_7 v0_8 k v)) (by kernel_rfl))
noncomputable def spec_Eligible.dec (rs : List (List C)) (os : List Out) : Option (Bool) := uncons rs fun c1 r2 => uncons c1 fun x3 l4 => cD x3 fun d5 => dBool d5 fun w0 => atEnd l4 <| atEnd r2 <| atEnd os (some w0)
theorem spec_Eligible.kt_dec (a0_0 : Int) (a0_1 : List (List D)) (a0_2 : List (List D)) (a0_3 : List (List D)) (a1_0 : ByteArray) (a1_1 : List (List D)) (a1_2 : List (List D)) (a1_3 : Int) : spec_Eligible.kt a0_0 a0_1 a0_2 a0_3 a1_0 a1_1 a1_2 a1_3 spec_Eligible.dec = (fun z0 => some z0) := by kernel_rfl
theorem spec_Eligible.inj (a0_0 : Int) (a0_1 : List (List D)) (a0_2 : List (List D)) (a0_3 : List (List D)) (a1_0 : ByteArray) (a1_1 : List (List D)) (a1_2 : List (List D)) (a1_3 : Int) {rs : List (List C)} {os : List Out} {z0 : Bool} (h : spec_Eligible.dec rs os = some z0) (ho : OutShape (spec_Eligible.as a0_0 a0_1 a0_2 a0_3 a1_0 a1_1 a1_2 a1_3) os) : rs = [[.d (.bool z0)]] ∧ os = [] := by
  unfold spec_Eligible.dec at h
  obtain ⟨c1, r2, rfl, h1⟩ := uncons_some h
  obtain ⟨x3, l4, rfl, h2⟩ := uncons_some h1
  obtain ⟨d5, rfl, h3⟩ := cD_some h2
  obtain ⟨w0, rfl, h4⟩ := dBool_some h3
  obtain ⟨rfl, h5⟩ := atEnd_some h4
  obtain ⟨rfl, h6⟩ := atEnd_some h5
  obtain ⟨rfl, h7⟩ := atEnd_some h6
  obtain rfl := Option.some.inj h7
  exact ⟨rfl, rfl⟩
theorem spec_Eligible.ok (k : Nat) : EntryOK Try.prog 53 (spec_Eligible.e k) := by
  refine entry_of mix tyok (fn := Try.f53) (c := codeOf Try.f53) Try.func53 (by kernel_rfl) (h := spec_Eligible.h) (k := k) (E := spec_Eligible.E k) (env_cons (spec_WantOk.ok k) (env_cons (spec_IslandOk.ok k) (env_cons (spec_Matches.ok k) (env_cons (spec_l2Among.ok k) env_nil)))) (by kernel_rfl) (by kernel_rfl) rfl (enter_of Try.func53 (by kernel_rfl)) ?_
  intro β l K r hr
  simp only [spec_Eligible.e] at hr
  split at hr
  case h_2 => cases hr
  unfold spec_Eligible.f at hr
  split at hr
  case h_2 => cases hr
  rename_i hz
  exact ⟨_, _, hr, _, spec_Eligible.dec, _, (spec_Eligible.f_eq k _ _ _ _ _ _ _ _ spec_Eligible.dec).trans (by rw [spec_Eligible.kt_dec]; exact hz), fun rs os h ho => spec_Eligible.inj _ _ _ _ _ _ _ _ h ho⟩
/-! ### loop.example/g00119/impl.within: function 87 -/
noncomputable def impl_within.g {β : Type} (k : Nat) (a0 : Int) (a1 : Int) (a2 : Int) (K : Bool → Option β) : Option β :=
  bif (decide ((a0 : Int) ≥ a1)) then (K (decide ((a0 : Int) ≤ a2))) else (K false)
noncomputable def impl_within.t (k : Nat) (a0 : Int) (a1 : Int) (a2 : Int) : Option (Bool) := impl_within.g k a0 a1 a2 (fun z0 => some z0)
noncomputable def impl_within.f {β : Type} (k : Nat) (a0 : Int) (a1 : Int) (a2 : Int) (K : Bool → Option β) : Option β :=
  match impl_within.t k a0 a1 a2 with
  | some z0 => K z0
  | none => none
noncomputable def impl_within.as (a0 : Int) (a1 : Int) (a2 : Int) : List A := [.d (.int .i64 a0), .d (.int .i64 a1), .d (.int .i64 a2)]
noncomputable def impl_within.kt {β : Type} (a0 : Int) (a1 : Int) (a2 : Int) (K0 : List (List C) → List Out → Option β) : Bool → Option β := fun z0 => K0 [[.d (.bool z0)]] []
noncomputable def impl_within.e (k : Nat) : Entry := { modes := [(.imm, 0), (.imm, 0), (.imm, 0)], rts := [4], al := false, run := fun {β} l K => match l with | [.d (.int .i64 a0), .d (.int .i64 a1), .d (.int .i64 a2)] => impl_within.f k a0 a1 a2 (impl_within.kt a0 a1 a2 K) | _ => none }
noncomputable def impl_within.E (k : Nat) : Env := fun g => none
noncomputable def impl_within.h : Hints := ⟨fun n => ⟨[], []⟩, fun _ => none, false, []⟩
theorem impl_within.f_eq {β : Type} (k : Nat) (a0 : Int) (a1 : Int) (a2 : Int) (K0 : List (List C) → List Out → Option β) : funDen Try.prog (impl_within.E k) impl_within.h k Try.f87 (impl_within.as a0 a1 a2) K0 = impl_within.g k a0 a1 a2 (impl_within.kt a0 a1 a2 K0) := by kernel_rfl
noncomputable def impl_within.dec (rs : List (List C)) (os : List Out) : Option (Bool) := uncons rs fun c1 r2 => uncons c1 fun x3 l4 => cD x3 fun d5 => dBool d5 fun w0 => atEnd l4 <| atEnd r2 <| atEnd os (some w0)
theorem impl_within.kt_dec (a0 : Int) (a1 : Int) (a2 : Int) : impl_within.kt a0 a1 a2 impl_within.dec = (fun z0 => some z0) := by kernel_rfl
theorem impl_within.inj (a0 : Int) (a1 : Int) (a2 : Int) {rs : List (List C)} {os : List Out} {z0 : Bool} (h : impl_within.dec rs os = some z0) (ho : OutShape (impl_within.as a0 a1 a2) os) : rs = [[.d (.bool z0)]] ∧ os = [] := by
  unfold impl_within.dec at h
  obtain ⟨c1, r2, rfl, h1⟩ := uncons_some h
  obtain ⟨x3, l4, rfl, h2⟩ := uncons_some h1
  obtain ⟨d5, rfl, h3⟩ := cD_some h2
  obtain ⟨w0, rfl, h4⟩ := dBool_some h3
  obtain ⟨rfl, h5⟩ := atEnd_some h4
  obtain ⟨rfl, h6⟩ := atEnd_some h5
  obtain ⟨rfl, h7⟩ := atEnd_some h6
  obtain rfl := Option.some.inj h7
  exact ⟨rfl, rfl⟩
theorem impl_within.ok (k : Nat) : EntryOK Try.prog 87 (impl_within.e k) := by
  refine entry_of mix tyok (fn := Try.f87) (c := codeOf Try.f87) Try.func87 (by kernel_rfl) (h := impl_within.h) (k := k) (E := impl_within.E k) env_nil (by kernel_rfl) (by kernel_rfl) rfl (enter_of Try.func87 (by kernel_rfl)) ?_
  intro β l K r hr
  simp only [impl_within.e] at hr
  split at hr
  case h_2 => cases hr
  unfold impl_within.f at hr
  split at hr
  case h_2 => cases hr
  rename_i hz
  exact ⟨_, _, hr, _, impl_within.dec, _, (impl_within.f_eq k _ _ _ impl_within.dec).trans (by rw [impl_within.kt_dec]; exact hz), fun rs os h ho => impl_within.inj _ _ _ h ho⟩
/-! ### loop.example/g00119/impl.NameOk: function 72 -/
noncomputable def impl_NameOk.l0 {β : Type} (k : Nat) (v0_0 : ByteArray) (v0_1 : Int) (K : Bool → Option β) (L0 : Int → Option β) (v : Int) : Option β :=
  match v with
  | v0_2 => bif (decide ((v0_2 : Int) < v0_1)) then (atStr v0_0 v0_2 fun b5 => bif (decide ((b5 : Int) < 97)) then (bif (decide ((b5 : Int) < 48)) then (bif ((b5 : Int) != 45) then (K false) else (L0 (IntKind.wrap .i64 (v0_2 + 1)))) else (bif (decide ((b5 : Int) > 57)) then (bif ((b5 : Int) != 45) then (K false) else (L0 (IntKind.wrap .i64 (v0_2 + 1)))) else (L0 (IntKind.wrap .i64 (v0_2 + 1))))) else (bif (decide ((b5 : Int) > 122)) then (bif (decide ((b5 : Int) < 48)) then (bif ((b5 : Int) != 45) then (K false) else (L0 (IntKind.wrap .i64 (v0_2 + 1)))) else (bif (decide ((b5 : Int) > 57)) then (bif ((b5 : Int) != 45) then (K false) else (L0 (IntKind.wrap .i64 (v0_2 + 1)))) else (L0 (IntKind.wrap .i64 (v0_2 + 1))))) else (L0 (IntKind.wrap .i64 (v0_2 + 1))))) else (impl_within.f k (v0_0.size : Int) 1 20 (fun y6 => bif y6 then (atStr v0_0 0 fun b7 => bif ((b7 : Int) != 45) then (atStr v0_0 (IntKind.wrap .i64 ((v0_0.size : Int) - 1)) fun b8 => K ((b8 : Int) != 45)) else (K false)) else (K false)))
noncomputable def impl_NameOk.g {β : Type} (k : Nat) (a0 : ByteArray) (K : Bool → Option β) : Option β :=
  iter (impl_NameOk.l0 k a0 (a0.size : Int) K) k (0)
noncomputable def impl_NameOk.t (k : Nat) (a0 : ByteArray) : Option (Bool) := impl_NameOk.g k a0 (fun z0 => some z0)
noncomputable def impl_NameOk.f {β : Type} (k : Nat) (a0 : ByteArray) (K : Bool → Option β) : Option β :=
  match impl_NameOk.t k a0 with
  | some z0 => K z0
  | none => none
noncomputable def impl_NameOk.as (a0 : ByteArray) : List A := [.d (.str a0)]
noncomputable def impl_NameOk.kt {β : Type} (a0 : ByteArray) (K0 : List (List C) → List Out → Option β) : Bool → Option β := fun z0 => K0 [[.d (.bool z0)]] []
noncomputable def impl_NameOk.e (k : Nat) : Entry := { modes := [(.imm, 0)], rts := [4], al := false, run := fun {β} l K => match l with | [.d (.str a0)] => impl_NameOk.f k a0 (impl_NameOk.kt a0 K) | _ => none }
noncomputable def impl_NameOk.E (k : Nat) : Env := fun g => bif g == 87 then some (impl_within.e k) else none
noncomputable def impl_NameOk.h : Hints := ⟨fun n => bif n == 2 then ⟨[(0, .asis), (6, .asis), (7, .asis)], []⟩ else ⟨[], []⟩, fun _ => none, false, []⟩
noncomputable def impl_NameOk.s0 (v0_0 : ByteArray) (v0_1 : Int) (v : Int) : St :=
  match v with
  | v0_2 => ⟨[.d false (.str v0_0), .any, .any, .any, .any, .any, .d true (.int .i64 v0_1), .d true (.int .i64 v0_2), .any, .any, .any, .any, .any, .any, .any, .any, .any, .any, .any, .any, .any, .any, .any, .any, .any, .any, .any, .any, .any, .any, .any, .any, .any, .any, .any, .any, .any, .any, .any, .any, .any, .any, .any, .any, .any, .any, .any, .any], []⟩
noncomputable def impl_NameOk.b0 {β : Type} (k : Nat) : St → (Ex → St → Option β) → Option β := fun s K => den Try.prog (impl_NameOk.E k) impl_NameOk.h.H impl_NameOk.h.J k (codeAt [1, 0, 1, 0, 0] (codeOf Try.f72)) s K
noncomputable def impl_NameOk.c0 {β : Type} (k : Nat) (a0 : ByteArray) (K0 : List (List C) → List Out → Option β) : Ex → St → Option β := contAt Try.prog (impl_NameOk.E k) impl_NameOk.h k [1, 0, 1, 0] (codeOf Try.f72) (finDen Try.prog Try.f72 impl_NameOk.h (impl_NameOk.as a0) K0)
theorem impl_NameOk.l0_eq {β : Type} (k : Nat) (a0 : ByteArray) (K0 : List (List C) → List Out → Option β) (v0_0 : ByteArray) (v0_1 : Int) : ∀ (kk : Nat) (v : Int), loopDen (impl_NameOk.b0 k) (impl_NameOk.h.H 2) kk (impl_NameOk.s0 v0_0 v0_1 v) (impl_NameOk.c0 k a0 K0) = iter (impl_NameOk.l0 k v0_0 v0_1 (impl_NameOk.kt a0 K0)) kk v :=
  loop_eq (impl_NameOk.s0 v0_0 v0_1) _ (fun L0 v => by kernel_rfl)
noncomputable def impl_NameOk.m {β : Type} (k : Nat) (a0 : ByteArray) (K0 : List (List C) → List Out → Option β) (F : (ByteArray → Int → Int → Option β)) : Option β :=
  (F) a0 (a0.size : Int) (0)
theorem impl_NameOk.f_eq {β : Type} (k : Nat) (a0 : ByteArray) (K0 : List (List C) → List Out → Option β) : funDen Try.prog (impl_NameOk.E k) impl_NameOk.h k Try.f72 (impl_NameOk.as a0) K0 = impl_NameOk.g k a0 (impl_NameOk.kt a0 K0) := Eq.trans (b := (impl_NameOk.m k a0 K0) (fun (v0_0 : ByteArray) (v0_1 : Int) (v : Int) => loopDen (impl_NameOk.b0 k) (impl_NameOk.h.H 2) k (impl_NameOk.s0 v0_0 v0_1 v) (impl_NameOk.c0 k a0 K0))) (by kernel_rfl) (Eq.trans (congrArg (impl_NameOk.m k a0 K0) (funext fun v0_0 => funext fun v0_1 => funext fun v => impl_NameOk.l0_eq k a0 K0 v0_0 v0_1 k v)) (by kernel_rfl))
noncomputable def impl_NameOk.dec (rs : List (List C)) (os : List Out) : Option (Bool) := uncons rs fun c1 r2 => uncons c1 fun x3 l4 => cD x3 fun d5 => dBool d5 fun w0 => atEnd l4 <| atEnd r2 <| atEnd os (some w0)
theorem impl_NameOk.kt_dec (a0 : ByteArray) : impl_NameOk.kt a0 impl_NameOk.dec = (fun z0 => some z0) := by kernel_rfl
theorem impl_NameOk.inj (a0 : ByteArray) {rs : List (List C)} {os : List Out} {z0 : Bool} (h : impl_NameOk.dec rs os = some z0) (ho : OutShape (impl_NameOk.as a0) os) : rs = [[.d (.bool z0)]] ∧ os = [] := by
  unfold impl_NameOk.dec at h
  obtain ⟨c1, r2, rfl, h1⟩ := uncons_some h
  obtain ⟨x3, l4, rfl, h2⟩ := uncons_some h1
  obtain ⟨d5, rfl, h3⟩ := cD_some h2
  obtain ⟨w0, rfl, h4⟩ := dBool_some h3
  obtain ⟨rfl, h5⟩ := atEnd_some h4
  obtain ⟨rfl, h6⟩ := atEnd_some h5
  obtain ⟨rfl, h7⟩ := atEnd_some h6
  obtain rfl := Option.some.inj h7
  exact ⟨rfl, rfl⟩
theorem impl_NameOk.ok (k : Nat) : EntryOK Try.prog 72 (impl_NameOk.e k) := by
  refine entry_of mix tyok (fn := Try.f72) (c := codeOf Try.f72) Try.func72 (by kernel_rfl) (h := impl_NameOk.h) (k := k) (E := impl_NameOk.E k) (env_cons (impl_within.ok k) env_nil) (by kernel_rfl) (by kernel_rfl) rfl (enter_of Try.func72 (by kernel_rfl)) ?_
  intro β l K r hr
  simp only [impl_NameOk.e] at hr
  split at hr
  case h_2 => cases hr
  unfold impl_NameOk.f at hr
  split at hr
  case h_2 => cases hr
  rename_i hz
  exact ⟨_, _, hr, _, impl_NameOk.dec, _, (impl_NameOk.f_eq k _ impl_NameOk.dec).trans (by rw [impl_NameOk.kt_dec]; exact hz), fun rs os h ho => impl_NameOk.inj _ h ho⟩
/-! ### loop.example/g00119/impl.isCopies: function 75 -/
noncomputable def impl_isCopies.g {β : Type} (k : Nat) (a0 : Int) (K : Bool → Option β) : Option β :=
  impl_within.f k a0 0 10000 (fun y1 => K y1)
noncomputable def impl_isCopies.t (k : Nat) (a0 : Int) : Option (Bool) := impl_isCopies.g k a0 (fun z0 => some z0)
noncomputable def impl_isCopies.f {β : Type} (k : Nat) (a0 : Int) (K : Bool → Option β) : Option β :=
  match impl_isCopies.t k a0 with
  | some z0 => K z0
  | none => none
noncomputable def impl_isCopies.as (a0 : Int) : List A := [.d (.int .i64 a0)]
noncomputable def impl_isCopies.kt {β : Type} (a0 : Int) (K0 : List (List C) → List Out → Option β) : Bool → Option β := fun z0 => K0 [[.d (.bool z0)]] []
noncomputable def impl_isCopies.e (k : Nat) : Entry := { modes := [(.imm, 0)], rts := [4], al := false, run := fun {β} l K => match l with | [.d (.int .i64 a0)] => impl_isCopies.f k a0 (impl_isCopies.kt a0 K) | _ => none }
noncomputable def impl_isCopies.E (k : Nat) : Env := fun g => bif g == 87 then some (impl_within.e k) else none
noncomputable def impl_isCopies.h : Hints := ⟨fun n => ⟨[], []⟩, fun _ => none, false, []⟩
theorem impl_isCopies.f_eq {β : Type} (k : Nat) (a0 : Int) (K0 : List (List C) → List Out → Option β) : funDen Try.prog (impl_isCopies.E k) impl_isCopies.h k Try.f75 (impl_isCopies.as a0) K0 = impl_isCopies.g k a0 (impl_isCopies.kt a0 K0) := by kernel_rfl
noncomputable def impl_isCopies.dec (rs : List (List C)) (os : List Out) : Option (Bool) := uncons rs fun c1 r2 => uncons c1 fun x3 l4 => cD x3 fun d5 => dBool d5 fun w0 => atEnd l4 <| atEnd r2 <| atEnd os (some w0)
theorem impl_isCopies.kt_dec (a0 : Int) : impl_isCopies.kt a0 impl_isCopies.dec = (fun z0 => some z0) := by kernel_rfl
theorem impl_isCopies.inj (a0 : Int) {rs : List (List C)} {os : List Out} {z0 : Bool} (h : impl_isCopies.dec rs os = some z0) (ho : OutShape (impl_isCopies.as a0) os) : rs = [[.d (.bool z0)]] ∧ os = [] := by
  unfold impl_isCopies.dec at h
  obtain ⟨c1, r2, rfl, h1⟩ := uncons_some h
  obtain ⟨x3, l4, rfl, h2⟩ := uncons_some h1
  obtain ⟨d5, rfl, h3⟩ := cD_some h2
  obtain ⟨w0, rfl, h4⟩ := dBool_some h3
  obtain ⟨rfl, h5⟩ := atEnd_some h4
  obtain ⟨rfl, h6⟩ := atEnd_some h5
  obtain ⟨rfl, h7⟩ := atEnd_some h6
  obtain rfl := Option.some.inj h7
  exact ⟨rfl, rfl⟩
theorem impl_isCopies.ok (k : Nat) : EntryOK Try.prog 75 (impl_isCopies.e k) := by
  refine entry_of mix tyok (fn := Try.f75) (c := codeOf Try.f75) Try.func75 (by kernel_rfl) (h := impl_isCopies.h) (k := k) (E := impl_isCopies.E k) (env_cons (impl_within.ok k) env_nil) (by kernel_rfl) (by kernel_rfl) rfl (enter_of Try.func75 (by kernel_rfl)) ?_
  intro β l K r hr
  simp only [impl_isCopies.e] at hr
  split at hr
  case h_2 => cases hr
  unfold impl_isCopies.f at hr
  split at hr
  case h_2 => cases hr
  rename_i hz
  exact ⟨_, _, hr, _, impl_isCopies.dec, _, (impl_isCopies.f_eq k _ impl_isCopies.dec).trans (by rw [impl_isCopies.kt_dec]; exact hz), fun rs os h ho => impl_isCopies.inj _ h ho⟩
/-! ### loop.example/g00119/impl.namesOk: function 74 -/
noncomputable def impl_namesOk.l0 {β : Type} (k : Nat) (v0_0 : List (List D)) (v0_1 : Int) (v0_2 : List (List D)) (v0_3 : Int) (K : Bool → Option β) (L0 : Int → Option β) (v : Int) : Option β :=
  match v with
  | v0_4 => bif (decide ((v0_4 : Int) < v0_3)) then (atRow v0_2 v0_4 fun c10 => uncons c10 fun d11 r12 => dStr d11 fun x13 => atEnd r12 (impl_NameOk.f k x13 (fun y14 => bif (!y14) then (K false) else (bif (decide ((v0_4 : Int) > 0)) then (atRow v0_0 (IntKind.wrap .i64 (v0_4 - 1)) fun c15 => uncons c15 fun d16 r17 => dStr d16 fun x18 => atEnd r17 (bif (!(strLt x18 x13)) then (K false) else (L0 (IntKind.wrap .i64 (v0_4 + 1))))) else (L0 (IntKind.wrap .i64 (v0_4 + 1))))))) else (K (decide (((v0_0.length : Int) : Int) ≤ v0_1)))
noncomputable def impl_namesOk.g {β : Type} (k : Nat) (a0 : List (List D)) (a1 : Int) (K : Bool → Option β) : Option β :=
  iter (impl_namesOk.l0 k a0 a1 a0 (a0.length : Int) K) k (0)
noncomputable def impl_namesOk.t (k : Nat) (a0 : List (List D)) (a1 : Int) : Option (Bool) := impl_namesOk.g k a0 a1 (fun z0 => some z0)
noncomputable def impl_namesOk.f {β : Type} (k : Nat) (a0 : List (List D)) (a1 : Int) (K : Bool → Option β) : Option β :=
  match impl_namesOk.t k a0 a1 with
  | some z0 => K z0
  | none => none
noncomputable def impl_namesOk.as (a0 : List (List D)) (a1 : Int) : List A := [.d (.sl a0), .d (.int .i64 a1)]
noncomputable def impl_namesOk.kt {β : Type} (a0 : List (List D)) (a1 : Int) (K0 : List (List C) → List Out → Option β) : Bool → Option β := fun z0 => K0 [[.d (.bool z0)]] []
noncomputable def impl_namesOk.e (k : Nat) : Entry := { modes := [(.imm, 0), (.imm, 0)], rts := [4], al := false, run := fun {β} l K => match l with | [.d (.sl a0), .d (.int .i64 a1)] => impl_namesOk.f k a0 a1 (impl_namesOk.kt a0 a1 K) | _ => none }
noncomputable def impl_namesOk.E (k : Nat) : Env := fun g => bif g == 72 then some (impl_NameOk.e k) else none
noncomputable def impl_namesOk.h : Hints := ⟨fun n => bif n == 2 then ⟨[(0, .asis), (1, .asis), (7, .asis), (8, .asis), (9, .asis)], []⟩ else ⟨[], []⟩, fun _ => none, false, []⟩
noncomputable def impl_namesOk.s0 (v0_0 : List (List D)) (v0_1 : Int) (v0_2 : List (List D)) (v0_3 : Int) (v : Int) : St :=
  match v with
  | v0_4 => ⟨[.d false (.sl v0_0), .d false (.int .i64 v0_1), .any, .any, .any, .any, .any, .d false (.sl v0_2), .d true (.int .i64 v0_3), .d true (.int .i64 v0_4), .any, .any, .any, .any, .any, .any, .any, .any, .any, .any, .any, .any, .any, .any, .any, .any, .any, .any, .any, .any, .any, .any, .any, .any, .any], []⟩
noncomputable def impl_namesOk.b0 {β : Type} (k : Nat) : St → (Ex → St → Option β) → Option β := fun s K => den Try.prog (impl_namesOk.E k) impl_namesOk.h.H impl_namesOk.h.J k (codeAt [1, 0, 1, 0, 0] (codeOf Try.f74)) s K
noncomputable def impl_namesOk.c0 {β : Type} (k : Nat) (a0 : List (List D)) (a1 : Int) (K0 : List (List C) → List Out → Option β) : Ex → St → Option β := contAt Try.prog (impl_namesOk.E k) impl_namesOk.h k [1, 0, 1, 0] (codeOf Try.f74) (finDen Try.prog Try.f74 impl_namesOk.h (impl_namesOk.as a0 a1) K0)
theorem impl_namesOk.l0_eq {β : Type} (k : Nat) (a0 : List (List D)) (a1 : Int) (K0 : List (List C) → List Out → Option β) (v0_0 : List (List D)) (v0_1 : Int) (v0_2 : List (List D)) (v0_3 : Int) : ∀ (kk : Nat) (v : Int), loopDen (impl_namesOk.b0 k) (impl_namesOk.h.H 2) kk (impl_namesOk.s0 v0_0 v0_1 v0_2 v0_3 v) (impl_namesOk.c0 k a0 a1 K0) = iter (impl_namesOk.l0 k v0_0 v0_1 v0_2 v0_3 (impl_namesOk.kt a0 a1 K0)) kk v :=
  loop_eq (impl_namesOk.s0 v0_0 v0_1 v0_2 v0_3) _ (fun L0 v => by kernel_rfl)
noncomputable def impl_namesOk.m {β : Type} (k : Nat) (a0 : List (List D)) (a1 : Int) (K0 : List (List C) → List Out → Option β) (F : ((List (List D)) → Int → (List (List D)) → Int → Int → Option β)) : Option β :=
  (F) a0 a1 a0 (a0.length : Int) (0)
theorem impl_namesOk.f_eq {β : Type} (k : Nat) (a0 : List (List D)) (a1 : Int) (K0 : List (List C) → List Out → Option β) : funDen Try.prog (impl_namesOk.E k) impl_namesOk.h k Try.f74 (impl_namesOk.as a0 a1) K0 = impl_namesOk.g k a0 a1 (impl_namesOk.kt a0 a1 K0) := Eq.trans (b := (impl_namesOk.m k a0 a1 K0) (fun (v0_0 : List (List D)) (v0_1 : Int) (v0_2 : List (List D)) (v0_3 : Int) (v : Int) => loopDen (impl_namesOk.b0 k) (impl_namesOk.h.H 2) k (impl_namesOk.s0 v0_0 v0_1 v0_2 v0_3 v) (impl_namesOk.c0 k a0 a1 K0))) (by kernel_rfl) (Eq.trans (congrArg (impl_namesOk.m k a0 a1 K0) (funext fun v0_0 => funext fun v0_1 => funext fun v0_2 => funext fun v0_3 => funext fun v => impl_namesOk.l0_eq k a0 a1 K0 v0_0 v0_1 v0_2 v0_3 k v)) (by kernel_rfl))
noncomputable def impl_namesOk.dec (rs : List (List C)) (os : List Out) : Option (Bool) := uncons rs fun c1 r2 => uncons c1 fun x3 l4 => cD x3 fun d5 => dBool d5 fun w0 => atEnd l4 <| atEnd r2 <| atEnd os (some w0)
theorem impl_namesOk.kt_dec (a0 : List (List D)) (a1 : Int) : impl_namesOk.kt a0 a1 impl_namesOk.dec = (fun z0 => some z0) := by kernel_rfl
theorem impl_namesOk.inj (a0 : List (List D)) (a1 : Int) {rs : List (List C)} {os : List Out} {z0 : Bool} (h : impl_namesOk.dec rs os = some z0) (ho : OutShape (impl_namesOk.as a0 a1) os) : rs = [[.d (.bool z0)]] ∧ os = [] := by
  unfold impl_namesOk.dec at h
  obtain ⟨c1, r2, rfl, h1⟩ := uncons_some h
  obtain ⟨x3, l4, rfl, h2⟩ := uncons_some h1
  obtain ⟨d5, rfl, h3⟩ := cD_some h2
  obtain ⟨w0, rfl, h4⟩ := dBool_some h3
  obtain ⟨rfl, h5⟩ := atEnd_some h4
  obtain ⟨rfl, h6⟩ := atEnd_some h5
  obtain ⟨rfl, h7⟩ := atEnd_some h6
  obtain rfl := Option.some.inj h7
  exact ⟨rfl, rfl⟩
theorem impl_namesOk.ok (k : Nat) : EntryOK Try.prog 74 (impl_namesOk.e k) := by
  refine entry_of mix tyok (fn := Try.f74) (c := codeOf Try.f74) Try.func74 (by kernel_rfl) (h := impl_namesOk.h) (k := k) (E := impl_namesOk.E k) (env_cons (impl_NameOk.ok k) env_nil) (by kernel_rfl) (by kernel_rfl) rfl (enter_of Try.func74 (by kernel_rfl)) ?_
  intro β l K r hr
  simp only [impl_namesOk.e] at hr
  split at hr
  case h_2 => cases hr
  unfold impl_namesOk.f at hr
  split at hr
  case h_2 => cases hr
  rename_i hz
  exact ⟨_, _, hr, _, impl_namesOk.dec, _, (impl_namesOk.f_eq k _ _ impl_namesOk.dec).trans (by rw [impl_namesOk.kt_dec]; exact hz), fun rs os h ho => impl_namesOk.inj _ _ h ho⟩
/-! ### loop.example/g00119/impl.termOk: function 158 -/
noncomputable def impl_termOk.g {β : Type} (k : Nat) (a0_0 : Int) (a0_1 : ByteArray) (a0_2 : List (List D)) (K : Bool → Option β) : Option β :=
  bif ((a0_0 : Int) == 1) then (bif ((a0_0 : Int) == 1) then (bif (((a0_2.length : Int) : Int) == 1) then (impl_NameOk.f k a0_1 (fun y1 => bif y1 then (impl_namesOk.f k a0_2 6 (fun y19 => K y19)) else (K false))) else (K false)) else (bif ((a0_0 : Int) == 3) then (bif (decide (((a0_2.length : Int) : Int) ≥ 1)) then (impl_NameOk.f k a0_1 (fun y20 => bif y20 then (impl_namesOk.f k a0_2 6 (fun y21 => K y21)) else (K false))) else (K false)) else (bif ((a0_0 : Int) == 4) then (bif ((a0_0 : Int) == 4) then (bif (((a0_2.length : Int) : Int) == 0) then (impl_NameOk.f k a0_1 (fun y22 => bif y22 then (impl_namesOk.f k a0_2 6 (fun y23 => K y23)) else (K false))) else (K false)) else (K false)) else (bif ((a0_0 : Int) == 5) then (bif (((a0_2.length : Int) : Int) == 0) then (impl_NameOk.f k a0_1 (fun y24 => bif y24 then (impl_namesOk.f k a0_2 6 (fun y25 => K y25)) else (K false))) else (K false)) else (K false))))) else (bif ((a0_0 : Int) == 2) then (bif (((a0_2.length : Int) : Int) == 1) then (impl_NameOk.f k a0_1 (fun y26 => bif y26 then (impl_namesOk.f k a0_2 6 (fun y27 => K y27)) else (K false))) else (K false)) else (bif ((a0_0 : Int) == 3) then (bif (decide (((a0_2.length : Int) : Int) ≥ 1)) then (impl_NameOk.f k a0_1 (fun y28 => bif y28 then (impl_namesOk.f k a0_2 6 (fun y29 => K y29)) else (K false))) else (K false)) else (bif ((a0_0 : Int) == 4) then (bif ((a0_0 : Int) == 4) then (bif (((a0_2.length : Int) : Int) == 0) then (impl_NameOk.f k a0_1 (fun y30 => bif y30 then (impl_namesOk.f k a0_2 6 (fun y31 => K y31)) else (K false))) else (K false)) else (K false)) else (bif ((a0_0 : Int) == 5) then (bif (((a0_2.length : Int) : Int) == 0) then (impl_NameOk.f k a0_1 (fun y32 => bif y32 then (impl_namesOk.f k a0_2 6 (fun y33 => K y33)) else (K false))) else (K false)) else (K false)))))
noncomputable def impl_termOk.t (k : Nat) (a0_0 : Int) (a0_1 : ByteArray) (a0_2 : List (List D)) : Option (Bool) := impl_termOk.g k a0_0 a0_1 a0_2 (fun z0 => some z0)
noncomputable def impl_termOk.f {β : Type} (k : Nat) (a0_0 : Int) (a0_1 : ByteArray) (a0_2 : List (List D)) (K : Bool → Option β) : Option β :=
  match impl_termOk.t k a0_0 a0_1 a0_2 with
  | some z0 => K z0
  | none => none
noncomputable def impl_termOk.as (a0_0 : Int) (a0_1 : ByteArray) (a0_2 : List (List D)) : List A := [.agg [.int .i64 a0_0, .str a0_1, .sl a0_2]]
noncomputable def impl_termOk.kt {β : Type} (a0_0 : Int) (a0_1 : ByteArray) (a0_2 : List (List D)) (K0 : List (List C) → List Out → Option β) : Bool → Option β := fun z0 => K0 [[.d (.bool z0)]] []
noncomputable def impl_termOk.e (k : Nat) : Entry := { modes := [(.imm, 0)], rts := [4], al := false, run := fun {β} l K => match l with | [.agg [.int .i64 a0_0, .str a0_1, .sl a0_2]] => impl_termOk.f k a0_0 a0_1 a0_2 (impl_termOk.kt a0_0 a0_1 a0_2 K) | _ => none }
noncomputable def impl_termOk.E (k : Nat) : Env := fun g => bif g == 72 then some (impl_NameOk.e k) else bif g == 74 then some (impl_namesOk.e k) else none
noncomputable def impl_termOk.h : Hints := ⟨fun n => ⟨[], []⟩, fun _ => none, false, []⟩
theorem impl_termOk.f_eq {β : Type} (k : Nat) (a0_0 : Int) (a0_1 : ByteArray) (a0_2 : List (List D)) (K0 : List (List C) → List Out → Option β) : funDen Try.prog (impl_termOk.E k) impl_termOk.h k Try.f158 (impl_termOk.as a0_0 a0_1 a0_2) K0 = impl_termOk.g k a0_0 a0_1 a0_2 (impl_termOk.kt a0_0 a0_1 a0_2 K0) := by kernel_rfl
noncomputable def impl_termOk.dec (rs : List (List C)) (os : List Out) : Option (Bool) := uncons rs fun c1 r2 => uncons c1 fun x3 l4 => cD x3 fun d5 => dBool d5 fun w0 => atEnd l4 <| atEnd r2 <| atEnd os (some w0)
theorem impl_termOk.kt_dec (a0_0 : Int) (a0_1 : ByteArray) (a0_2 : List (List D)) : impl_termOk.kt a0_0 a0_1 a0_2 impl_termOk.dec = (fun z0 => some z0) := by kernel_rfl
theorem impl_termOk.inj (a0_0 : Int) (a0_1 : ByteArray) (a0_2 : List (List D)) {rs : List (List C)} {os : List Out} {z0 : Bool} (h : impl_termOk.dec rs os = some z0) (ho : OutShape (impl_termOk.as a0_0 a0_1 a0_2) os) : rs = [[.d (.bool z0)]] ∧ os = [] := by
  unfold impl_termOk.dec at h
  obtain ⟨c1, r2, rfl, h1⟩ := uncons_some h
  obtain ⟨x3, l4, rfl, h2⟩ := uncons_some h1
  obtain ⟨d5, rfl, h3⟩ := cD_some h2
  obtain ⟨w0, rfl, h4⟩ := dBool_some h3
  obtain ⟨rfl, h5⟩ := atEnd_some h4
  obtain ⟨rfl, h6⟩ := atEnd_some h5
  obtain ⟨rfl, h7⟩ := atEnd_some h6
  obtain rfl := Option.some.inj h7
  exact ⟨rfl, rfl⟩
theorem impl_termOk.ok (k : Nat) : EntryOK Try.prog 158 (impl_termOk.e k) := by
  refine entry_of mix tyok (fn := Try.f158) (c := codeOf Try.f158) Try.func158 (by kernel_rfl) (h := impl_termOk.h) (k := k) (E := impl_termOk.E k) (env_cons (impl_NameOk.ok k) (env_cons (impl_namesOk.ok k) env_nil)) (by kernel_rfl) (by kernel_rfl) rfl (enter_of Try.func158 (by kernel_rfl)) ?_
  intro β l K r hr
  simp only [impl_termOk.e] at hr
  split at hr
  case h_2 => cases hr
  unfold impl_termOk.f at hr
  split at hr
  case h_2 => cases hr
  rename_i hz
  exact ⟨_, _, hr, _, impl_termOk.dec, _, (impl_termOk.f_eq k _ _ _ impl_termOk.dec).trans (by rw [impl_termOk.kt_dec]; exact hz), fun rs os h ho => impl_termOk.inj _ _ _ h ho⟩
/-! ### loop.example/g00119/impl.SelectorOk$1: function 157 -/
noncomputable def impl_SelectorOk_1.g {β : Type} (k : Nat) (a0_0 : Int) (a0_1 : ByteArray) (a0_2 : List (List D)) (K : Bool → Option β) : Option β :=
  impl_termOk.f k a0_0 a0_1 a0_2 (fun y34 => K (!y34))
noncomputable def impl_SelectorOk_1.t (k : Nat) (a0_0 : Int) (a0_1 : ByteArray) (a0_2 : List (List D)) : Option (Bool) := impl_SelectorOk_1.g k a0_0 a0_1 a0_2 (fun z0 => some z0)
noncomputable def impl_SelectorOk_1.f {β : Type} (k : Nat) (a0_0 : Int) (a0_1 : ByteArray) (a0_2 : List (List D)) (K : Bool → Option β) : Option β :=
  match impl_SelectorOk_1.t k a0_0 a0_1 a0_2 with
  | some z0 => K z0
  | none => none
noncomputable def impl_SelectorOk_1.as (a0_0 : Int) (a0_1 : ByteArray) (a0_2 : List (List D)) : List A := [.agg [.int .i64 a0_0, .str a0_1, .sl a0_2]]
noncomputable def impl_SelectorOk_1.kt {β : Type} (a0_0 : Int) (a0_1 : ByteArray) (a0_2 : List (List D)) (K0 : List (List C) → List Out → Option β) : Bool → Option β := fun z0 => K0 [[.d (.bool z0)]] []
noncomputable def impl_SelectorOk_1.e (k : Nat) : Entry := { modes := [(.imm, 0)], rts := [4], al := false, run := fun {β} l K => match l with | [.agg [.int .i64 a0_0, .str a0_1, .sl a0_2]] => impl_SelectorOk_1.f k a0_0 a0_1 a0_2 (impl_SelectorOk_1.kt a0_0 a0_1 a0_2 K) | _ => none }
noncomputable def impl_SelectorOk_1.E (k : Nat) : Env := fun g => bif g == 158 then some (impl_termOk.e k) else none
noncomputable def impl_SelectorOk_1.h : Hints := ⟨fun n => ⟨[], []⟩, fun _ => none, false, []⟩
theorem impl_SelectorOk_1.f_eq {β : Type} (k : Nat) (a0_0 : Int) (a0_1 : ByteArray) (a0_2 : List (List D)) (K0 : List (List C) → List Out → Option β) : funDen Try.prog (impl_SelectorOk_1.E k) impl_SelectorOk_1.h k Try.f157 (impl_SelectorOk_1.as a0_0 a0_1 a0_2) K0 = impl_SelectorOk_1.g k a0_0 a0_1 a0_2 (impl_SelectorOk_1.kt a0_0 a0_1 a0_2 K0) := by kernel_rfl
noncomputable def impl_SelectorOk_1.dec (rs : List (List C)) (os : List Out) : Option (Bool) := uncons rs fun c1 r2 => uncons c1 fun x3 l4 => cD x3 fun d5 => dBool d5 fun w0 => atEnd l4 <| atEnd r2 <| atEnd os (some w0)
theorem impl_SelectorOk_1.kt_dec (a0_0 : Int) (a0_1 : ByteArray) (a0_2 : List (List D)) : impl_SelectorOk_1.kt a0_0 a0_1 a0_2 impl_SelectorOk_1.dec = (fun z0 => some z0) := by kernel_rfl
theorem impl_SelectorOk_1.inj (a0_0 : Int) (a0_1 : ByteArray) (a0_2 : List (List D)) {rs : List (List C)} {os : List Out} {z0 : Bool} (h : impl_SelectorOk_1.dec rs os = some z0) (ho : OutShape (impl_SelectorOk_1.as a0_0 a0_1 a0_2) os) : rs = [[.d (.bool z0)]] ∧ os = [] := by
  unfold impl_SelectorOk_1.dec at h
  obtain ⟨c1, r2, rfl, h1⟩ := uncons_some h
  obtain ⟨x3, l4, rfl, h2⟩ := uncons_some h1
  obtain ⟨d5, rfl, h3⟩ := cD_some h2
  obtain ⟨w0, rfl, h4⟩ := dBool_some h3
  obtain ⟨rfl, h5⟩ := atEnd_some h4
  obtain ⟨rfl, h6⟩ := atEnd_some h5
  obtain ⟨rfl, h7⟩ := atEnd_some h6
  obtain rfl := Option.some.inj h7
  exact ⟨rfl, rfl⟩
theorem impl_SelectorOk_1.ok (k : Nat) : EntryOK Try.prog 157 (impl_SelectorOk_1.e k) := by
  refine entry_of mix tyok (fn := Try.f157) (c := codeOf Try.f157) Try.func157 (by kernel_rfl) (h := impl_SelectorOk_1.h) (k := k) (E := impl_SelectorOk_1.E k) (env_cons (impl_termOk.ok k) env_nil) (by kernel_rfl) (by kernel_rfl) rfl (enter_of Try.func157 (by kernel_rfl)) ?_
  intro β l K r hr
  simp only [impl_SelectorOk_1.e] at hr
  split at hr
  case h_2 => cases hr
  unfold impl_SelectorOk_1.f at hr
  split at hr
  case h_2 => cases hr
  rename_i hz
  exact ⟨_, _, hr, _, impl_SelectorOk_1.dec, _, (impl_SelectorOk_1.f_eq k _ _ _ impl_SelectorOk_1.dec).trans (by rw [impl_SelectorOk_1.kt_dec]; exact hz), fun rs os h ho => impl_SelectorOk_1.inj _ _ _ h ho⟩
/-! ### slices.IndexFunc[[]loop.example/g00119/impl.Term,loop.example/g00119/impl.Term]: function 188 -/
noncomputable def slices_IndexFunc_impl_Term__impl_SelectorOk_1.l0 {β : Type} (k : Nat) (v0_0 : List (List D)) (v0_1 : Int) (K : Int → Option β) (L0 : Int → Option β) (v : Int) : Option β :=
  match v with
  | v0_2 => bif (decide ((v0_2 : Int) < v0_1)) then (atRow v0_0 v0_2 fun c36 => uncons c36 fun d37 r38 => dInt .i64 d37 fun x39 => uncons r38 fun d40 r41 => dStr d40 fun x42 => uncons r41 fun d43 r44 => dSl d43 fun x45 => atEnd r44 (impl_SelectorOk_1.f k x39 x42 x45 (fun y46 => bif y46 then (K v0_2) else (L0 (IntKind.wrap .i64 (v0_2 + 1)))))) else (K (-1))
noncomputable def slices_IndexFunc_impl_Term__impl_SelectorOk_1.g {β : Type} (k : Nat) (a0 : List (List D)) (K : Int → Option β) : Option β :=
  iter (slices_IndexFunc_impl_Term__impl_SelectorOk_1.l0 k a0 (a0.length : Int) K) k (0)
noncomputable def slices_IndexFunc_impl_Term__impl_SelectorOk_1.t (k : Nat) (a0 : List (List D)) : Option (Int) := slices_IndexFunc_impl_Term__impl_SelectorOk_1.g k a0 (fun z0 => some z0)
noncomputable def slices_IndexFunc_impl_Term__impl_SelectorOk_1.f {β : Type} (k : Nat) (a0 : List (List D)) (K : Int → Option β) : Option β :=
  match slices_IndexFunc_impl_Term__impl_SelectorOk_1.t k a0 with
  | some z0 => K z0
  | none => none
noncomputable def slices_IndexFunc_impl_Term__impl_SelectorOk_1.as (a0 : List (List D)) : List A := [.d (.sl a0), .d (.fn 157 [])]
noncomputable def slices_IndexFunc_impl_Term__impl_SelectorOk_1.kt {β : Type} (a0 : List (List D)) (K0 : List (List C) → List Out → Option β) : Int → Option β := fun z0 => K0 [[.d (.int .i64 z0)]] []
noncomputable def slices_IndexFunc_impl_Term__impl_SelectorOk_1.e (k : Nat) : Entry := { modes := [(.imm, 0), (.imm, 0)], rts := [3], al := false, run := fun {β} l K => match l with | [.d (.sl a0), .d (.fn 157 [])] => slices_IndexFunc_impl_Term__impl_SelectorOk_1.f k a0 (slices_IndexFunc_impl_Term__impl_SelectorOk_1.kt a0 K) | _ => none }
noncomputable def slices_IndexFunc_impl_Term__impl_SelectorOk_1.E (k : Nat) : Env := fun g => bif g == 157 then some (impl_SelectorOk_1.e k) else none
noncomputable def slices_IndexFunc_impl_Term__impl_SelectorOk_1.h : Hints := ⟨fun n => bif n == 2 then ⟨[(0, .asis), (1, .asis), (7, .asis), (8, .asis)], []⟩ else ⟨[], []⟩, fun _ => none, false, []⟩
noncomputable def slices_IndexFunc_impl_Term__impl_SelectorOk_1.s0 (v0_0 : List (List D)) (v0_1 : Int) (v : Int) : St :=
  match v with
  | v0_2 => ⟨[.d false (.sl v0_0), .d false (.fn 157 []), .any, .any, .any, .any, .any, .d true (.int .i64 v0_1), .d true (.int .i64 v0_2), .any, .any, .any, .any, .any, .any, .any, .any, .any, .any], []⟩
noncomputable def slices_IndexFunc_impl_Term__impl_SelectorOk_1.b0 {β : Type} (k : Nat) : St → (Ex → St → Option β) → Option β := fun s K => den Try.prog (slices_IndexFunc_impl_Term__impl_SelectorOk_1.E k) slices_IndexFunc_impl_Term__impl_SelectorOk_1.h.H slices_IndexFunc_impl_Term__impl_SelectorOk_1.h.J k (codeAt [1, 0, 1, 0, 0] (codeOf Try.f188)) s K
noncomputable def slices_IndexFunc_impl_Term__impl_SelectorOk_1.c0 {β : Type} (k : Nat) (a0 : List (List D)) (K0 : List (List C) → List Out → Option β) : Ex → St → Option β := contAt Try.prog (slices_IndexFunc_impl_Term__impl_SelectorOk_1.E k) slices_IndexFunc_impl_Term__impl_SelectorOk_1.h k [1, 0, 1, 0] (codeOf Try.f188) (finDen Try.prog Try.f188 slices_IndexFunc_impl_Term__impl_SelectorOk_1.h (slices_IndexFunc_impl_Term__impl_SelectorOk_1.as a0) K0)
theorem slices_IndexFunc_impl_Term__impl_SelectorOk_1.l0_eq {β : Type} (k : Nat) (a0 : List (List D)) (K0 : List (List C) → List Out → Option β) (v0_0 : List (List D)) (v0_1 : Int) : ∀ (kk : Nat) (v : Int), loopDen (slices_IndexFunc_impl_Term__impl_SelectorOk_1.b0 k) (slices_IndexFunc_impl_Term__impl_SelectorOk_1.h.H 2) kk (slices_IndexFunc_impl_Term__impl_SelectorOk_1.s0 v0_0 v0_1 v) (slices_IndexFunc_impl_Term__impl_SelectorOk_1.c0 k a0 K0) = iter (slices_IndexFunc_impl_Term__impl_SelectorOk_1.l0 k v0_0 v0_1 (slices_IndexFunc_impl_Term__impl_SelectorOk_1.kt a0 K0)) kk v :=
  loop_eq (slices_IndexFunc_impl_Term__impl_SelectorOk_1.s0 v0_0 v0_1) _ (fun L0 v => by kernel_rfl)
noncomputable def slices_IndexFunc_impl_Term__impl_SelectorOk_1.m {β : Type} (k : Nat) (a0 : List (List D)) (K0 : List (List C) → List Out → Option β) (F : ((List (List D)) → Int → Int → Option β)) : Option β :=
  (F) a0 (a0.length : Int) (0)
theorem slices_IndexFunc_impl_Term__impl_SelectorOk_1.f_eq {β : Type} (k : Nat) (a0 : List (List D)) (K0 : List (List C) → List Out → Option β) : funDen Try.prog (slices_IndexFunc_impl_Term__impl_SelectorOk_1.E k) slices_IndexFunc_impl_Term__impl_SelectorOk_1.h k Try.f188 (slices_IndexFunc_impl_Term__impl_SelectorOk_1.as a0) K0 = slices_IndexFunc_impl_Term__impl_SelectorOk_1.g k a0 (slices_IndexFunc_impl_Term__impl_SelectorOk_1.kt a0 K0) := Eq.trans (b := (slices_IndexFunc_impl_Term__impl_SelectorOk_1.m k a0 K0) (fun (v0_0 : List (List D)) (v0_1 : Int) (v : Int) => loopDen (slices_IndexFunc_impl_Term__impl_SelectorOk_1.b0 k) (slices_IndexFunc_impl_Term__impl_SelectorOk_1.h.H 2) k (slices_IndexFunc_impl_Term__impl_SelectorOk_1.s0 v0_0 v0_1 v) (slices_IndexFunc_impl_Term__impl_SelectorOk_1.c0 k a0 K0))) (by kernel_rfl) (Eq.trans (congrArg (slices_IndexFunc_impl_Term__impl_SelectorOk_1.m k a0 K0) (funext fun v0_0 => funext fun v0_1 => funext fun v => slices_IndexFunc_impl_Term__impl_SelectorOk_1.l0_eq k a0 K0 v0_0 v0_1 k v)) (by kernel_rfl))
noncomputable def slices_IndexFunc_impl_Term__impl_SelectorOk_1.dec (rs : List (List C)) (os : List Out) : Option (Int) := uncons rs fun c1 r2 => uncons c1 fun x3 l4 => cD x3 fun d5 => dInt .i64 d5 fun w0 => atEnd l4 <| atEnd r2 <| atEnd os (some w0)
theorem slices_IndexFunc_impl_Term__impl_SelectorOk_1.kt_dec (a0 : List (List D)) : slices_IndexFunc_impl_Term__impl_SelectorOk_1.kt a0 slices_IndexFunc_impl_Term__impl_SelectorOk_1.dec = (fun z0 => some z0) := by kernel_rfl
theorem slices_IndexFunc_impl_Term__impl_SelectorOk_1.inj (a0 : List (List D)) {rs : List (List C)} {os : List Out} {z0 : Int} (h : slices_IndexFunc_impl_Term__impl_SelectorOk_1.dec rs os = some z0) (ho : OutShape (slices_IndexFunc_impl_Term__impl_SelectorOk_1.as a0) os) : rs = [[.d (.int .i64 z0)]] ∧ os = [] := by
  unfold slices_IndexFunc_impl_Term__impl_SelectorOk_1.dec at h
  obtain ⟨c1, r2, rfl, h1⟩ := uncons_some h
  obtain ⟨x3, l4, rfl, h2⟩ := uncons_some h1
  obtain ⟨d5, rfl, h3⟩ := cD_some h2
  obtain ⟨w0, rfl, h4⟩ := dInt_some h3
  obtain ⟨rfl, h5⟩ := atEnd_some h4
  obtain ⟨rfl, h6⟩ := atEnd_some h5
  obtain ⟨rfl, h7⟩ := atEnd_some h6
  obtain rfl := Option.some.inj h7
  exact ⟨rfl, rfl⟩
theorem slices_IndexFunc_impl_Term__impl_SelectorOk_1.ok (k : Nat) : EntryOK Try.prog 188 (slices_IndexFunc_impl_Term__impl_SelectorOk_1.e k) := by
  refine entry_of mix tyok (fn := Try.f188) (c := codeOf Try.f188) Try.func188 (by kernel_rfl) (h := slices_IndexFunc_impl_Term__impl_SelectorOk_1.h) (k := k) (E := slices_IndexFunc_impl_Term__impl_SelectorOk_1.E k) (env_cons (impl_SelectorOk_1.ok k) env_nil) (by kernel_rfl) (by kernel_rfl) rfl (enter_of Try.func188 (by kernel_rfl)) ?_
  intro β l K r hr
  simp only [slices_IndexFunc_impl_Term__impl_SelectorOk_1.e] at hr
  split at hr
  case h_2 => cases hr
  unfold slices_IndexFunc_impl_Term__impl_SelectorOk_1.f at hr
  split at hr
  case h_2 => cases hr
  rename_i hz
  exact ⟨_, _, hr, _, slices_IndexFunc_impl_Term__impl_SelectorOk_1.dec, _, (slices_IndexFunc_impl_Term__impl_SelectorOk_1.f_eq k _ slices_IndexFunc_impl_Term__impl_SelectorOk_1.dec).trans (by rw [slices_IndexFunc_impl_Term__impl_SelectorOk_1.kt_dec]; exact hz), fun rs os h ho => slices_IndexFunc_impl_Term__impl_SelectorOk_1.inj _ h ho⟩
/-! ### slices.ContainsFunc[[]loop.example/g00119/impl.Term,loop.example/g00119/impl.Term]: function 156 -/
noncomputable def slices_ContainsFunc_impl_Term__impl_SelectorOk_1.g {β : Type} (k : Nat) (a0 : List (List D)) (K : Bool → Option β) : Option β :=
  slices_IndexFunc_impl_Term__impl_SelectorOk_1.f k a0 (fun y47 => K (decide ((y47 : Int) ≥ 0)))
noncomputable def slices_ContainsFunc_impl_Term__impl_SelectorOk_1.t (k : Nat) (a0 : List (List D)) : Option (Bool) := slices_ContainsFunc_impl_Term__impl_SelectorOk_1.g k a0 (fun z0 => some z0)
noncomputable def slices_ContainsFunc_impl_Term__impl_SelectorOk_1.f {β : Type} (k : Nat) (a0 : List (List D)) (K : Bool → Option β) : Option β :=
  match slices_ContainsFunc_impl_Term__impl_SelectorOk_1.t k a0 with
  | some z0 => K z0
  | none => none
noncomputable def slices_ContainsFunc_impl_Term__impl_SelectorOk_1.as (a0 : List (List D)) : List A := [.d (.sl a0), .d (.fn 157 [])]
noncomputable def slices_ContainsFunc_impl_Term__impl_SelectorOk_1.kt {β : Type} (a0 : List (List D)) (K0 : List (List C) → List Out → Option β) : Bool → Option β := fun z0 => K0 [[.d (.bool z0)]] []
noncomputable def slices_ContainsFunc_impl_Term__impl_SelectorOk_1.e (k : Nat) : Entry := { modes := [(.imm, 0), (.imm, 0)], rts := [4], al := false, run := fun {β} l K => match l with | [.d (.sl a0), .d (.fn 157 [])] => slices_ContainsFunc_impl_Term__impl_SelectorOk_1.f k a0 (slices_ContainsFunc_impl_Term__impl_SelectorOk_1.kt a0 K) | _ => none }
noncomputable def slices_ContainsFunc_impl_Term__impl_SelectorOk_1.E (k : Nat) : Env := fun g => bif g == 188 then some (slices_IndexFunc_impl_Term__impl_SelectorOk_1.e k) else none
noncomputable def slices_ContainsFunc_impl_Term__impl_SelectorOk_1.h : Hints := ⟨fun n => ⟨[], []⟩, fun _ => none, false, []⟩
theorem slices_ContainsFunc_impl_Term__impl_SelectorOk_1.f_eq {β : Type} (k : Nat) (a0 : List (List D)) (K0 : List (List C) → List Out → Option β) : funDen Try.prog (slices_ContainsFunc_impl_Term__impl_SelectorOk_1.E k) slices_ContainsFunc_impl_Term__impl_SelectorOk_1.h k Try.f156 (slices_ContainsFunc_impl_Term__impl_SelectorOk_1.as a0) K0 = slices_ContainsFunc_impl_Term__impl_SelectorOk_1.g k a0 (slices_ContainsFunc_impl_Term__impl_SelectorOk_1.kt a0 K0) := by kernel_rfl
noncomputable def slices_ContainsFunc_impl_Term__impl_SelectorOk_1.dec (rs : List (List C)) (os : List Out) : Option (Bool) := uncons rs fun c1 r2 => uncons c1 fun x3 l4 => cD x3 fun d5 => dBool d5 fun w0 => atEnd l4 <| atEnd r2 <| atEnd os (some w0)
theorem slices_ContainsFunc_impl_Term__impl_SelectorOk_1.kt_dec (a0 : List (List D)) : slices_ContainsFunc_impl_Term__impl_SelectorOk_1.kt a0 slices_ContainsFunc_impl_Term__impl_SelectorOk_1.dec = (fun z0 => some z0) := by kernel_rfl
theorem slices_ContainsFunc_impl_Term__impl_SelectorOk_1.inj (a0 : List (List D)) {rs : List (List C)} {os : List Out} {z0 : Bool} (h : slices_ContainsFunc_impl_Term__impl_SelectorOk_1.dec rs os = some z0) (ho : OutShape (slices_ContainsFunc_impl_Term__impl_SelectorOk_1.as a0) os) : rs = [[.d (.bool z0)]] ∧ os = [] := by
  unfold slices_ContainsFunc_impl_Term__impl_SelectorOk_1.dec at h
  obtain ⟨c1, r2, rfl, h1⟩ := uncons_some h
  obtain ⟨x3, l4, rfl, h2⟩ := uncons_some h1
  obtain ⟨d5, rfl, h3⟩ := cD_some h2
  obtain ⟨w0, rfl, h4⟩ := dBool_some h3
  obtain ⟨rfl, h5⟩ := atEnd_some h4
  obtain ⟨rfl, h6⟩ := atEnd_some h5
  obtain ⟨rfl, h7⟩ := atEnd_some h6
  obtain rfl := Option.some.inj h7
  exact ⟨rfl, rfl⟩
theorem slices_ContainsFunc_impl_Term__impl_SelectorOk_1.ok (k : Nat) : EntryOK Try.prog 156 (slices_ContainsFunc_impl_Term__impl_SelectorOk_1.e k) := by
  refine entry_of mix tyok (fn := Try.f156) (c := codeOf Try.f156) Try.func156 (by kernel_rfl) (h := slices_ContainsFunc_impl_Term__impl_SelectorOk_1.h) (k := k) (E := slices_ContainsFunc_impl_Term__impl_SelectorOk_1.E k) (env_cons (slices_IndexFunc_impl_Term__impl_SelectorOk_1.ok k) env_nil) (by kernel_rfl) (by kernel_rfl) rfl (enter_of Try.func156 (by kernel_rfl)) ?_
  intro β l K r hr
  simp only [slices_ContainsFunc_impl_Term__impl_SelectorOk_1.e] at hr
  split at hr
  case h_2 => cases hr
  unfold slices_ContainsFunc_impl_Term__impl_SelectorOk_1.f at hr
  split at hr
  case h_2 => cases hr
  rename_i hz
  exact ⟨_, _, hr, _, slices_ContainsFunc_impl_Term__impl_SelectorOk_1.dec, _, (slices_ContainsFunc_impl_Term__impl_SelectorOk_1.f_eq k _ slices_ContainsFunc_impl_Term__impl_SelectorOk_1.dec).trans (by rw [slices_ContainsFunc_impl_Term__impl_SelectorOk_1.kt_dec]; exact hz), fun rs os h ho => slices_ContainsFunc_impl_Term__impl_SelectorOk_1.inj _ h ho⟩
/-! ### loop.example/g00119/impl.SelectorOk: function 99 -/
noncomputable def impl_SelectorOk.g {β : Type} (k : Nat) (a0 : List (List D)) (K : Bool → Option β) : Option β :=
  bif (decide (((a0.length : Int) : Int) ≤ 8)) then (slices_ContainsFunc_impl_Term__impl_SelectorOk_1.f k a0 (fun y48 => K (!y48))) else (K false)
noncomputable def impl_SelectorOk.t (k : Nat) (a0 : List (List D)) : Option (Bool) := impl_SelectorOk.g k a0 (fun z0 => some z0)
noncomputable def impl_SelectorOk.f {β : Type} (k : Nat) (a0 : List (List D)) (K : Bool → Option β) : Option β :=
  match impl_SelectorOk.t k a0 with
  | some z0 => K z0
  | none => none
noncomputable def impl_SelectorOk.as (a0 : List (List D)) : List A := [.d (.sl a0)]
noncomputable def impl_SelectorOk.kt {β : Type} (a0 : List (List D)) (K0 : List (List C) → List Out → Option β) : Bool → Option β := fun z0 => K0 [[.d (.bool z0)]] []
noncomputable def impl_SelectorOk.e (k : Nat) : Entry := { modes := [(.imm, 0)], rts := [4], al := false, run := fun {β} l K => match l with | [.d (.sl a0)] => impl_SelectorOk.f k a0 (impl_SelectorOk.kt a0 K) | _ => none }
noncomputable def impl_SelectorOk.E (k : Nat) : Env := fun g => bif g == 156 then some (slices_ContainsFunc_impl_Term__impl_SelectorOk_1.e k) else none
noncomputable def impl_SelectorOk.h : Hints := ⟨fun n => ⟨[], []⟩, fun _ => none, false, []⟩
theorem impl_SelectorOk.f_eq {β : Type} (k : Nat) (a0 : List (List D)) (K0 : List (List C) → List Out → Option β) : funDen Try.prog (impl_SelectorOk.E k) impl_SelectorOk.h k Try.f99 (impl_SelectorOk.as a0) K0 = impl_SelectorOk.g k a0 (impl_SelectorOk.kt a0 K0) := by kernel_rfl
noncomputable def impl_SelectorOk.dec (rs : List (List C)) (os : List Out) : Option (Bool) := uncons rs fun c1 r2 => uncons c1 fun x3 l4 => cD x3 fun d5 => dBool d5 fun w0 => atEnd l4 <| atEnd r2 <| atEnd os (some w0)
theorem impl_SelectorOk.kt_dec (a0 : List (List D)) : impl_SelectorOk.kt a0 impl_SelectorOk.dec = (fun z0 => some z0) := by kernel_rfl
theorem impl_SelectorOk.inj (a0 : List (List D)) {rs : List (List C)} {os : List Out} {z0 : Bool} (h : impl_SelectorOk.dec rs os = some z0) (ho : OutShape (impl_SelectorOk.as a0) os) : rs = [[.d (.bool z0)]] ∧ os = [] := by
  unfold impl_SelectorOk.dec at h
  obtain ⟨c1, r2, rfl, h1⟩ := uncons_some h
  obtain ⟨x3, l4, rfl, h2⟩ := uncons_some h1
  obtain ⟨d5, rfl, h3⟩ := cD_some h2
  obtain ⟨w0, rfl, h4⟩ := dBool_some h3
  obtain ⟨rfl, h5⟩ := atEnd_some h4
  obtain ⟨rfl, h6⟩ := atEnd_some h5
  obtain ⟨rfl, h7⟩ := atEnd_some h6
  obtain rfl := Option.some.inj h7
  exact ⟨rfl, rfl⟩
theorem impl_SelectorOk.ok (k : Nat) : EntryOK Try.prog 99 (impl_SelectorOk.e k) := by
  refine entry_of mix tyok (fn := Try.f99) (c := codeOf Try.f99) Try.func99 (by kernel_rfl) (h := impl_SelectorOk.h) (k := k) (E := impl_SelectorOk.E k) (env_cons (slices_ContainsFunc_impl_Term__impl_SelectorOk_1.ok k) env_nil) (by kernel_rfl) (by kernel_rfl) rfl (enter_of Try.func99 (by kernel_rfl)) ?_
  intro β l K r hr
  simp only [impl_SelectorOk.e] at hr
  split at hr
  case h_2 => cases hr
  unfold impl_SelectorOk.f at hr
  split at hr
  case h_2 => cases hr
  rename_i hz
  exact ⟨_, _, hr, _, impl_SelectorOk.dec, _, (impl_SelectorOk.f_eq k _ impl_SelectorOk.dec).trans (by rw [impl_SelectorOk.kt_dec]; exact hz), fun rs os h ho => impl_SelectorOk.inj _ h ho⟩
/-! ### loop.example/g00119/impl.WantOk: function 38 -/
noncomputable def impl_WantOk.l0 {β : Type} (k : Nat) (v0_0 : List (List D)) (v0_1 : Int) (v0_3 : Int) (v0_4 : List (List D)) (v0_5 : List (List D)) (v0_6 : List (List D)) (K : Bool → Option β) (L0 : Int → Option β) (v : Int) : Option β :=
  match v with
  | v0_2 => bif (decide ((v0_2 : Int) < v0_1)) then (atRow v0_0 v0_2 fun c51 => uncons c51 fun d52 r53 => dStr d52 fun x54 => uncons r53 fun d55 r56 => dInt .i64 d55 fun x57 => atEnd r56 (impl_NameOk.f k x54 (fun y58 => bif (!y58) then (K false) else (impl_within.f k x57 0 1000 (fun y59 => bif (!y59) then (K false) else (bif (decide ((v0_2 : Int) > 0)) then (atRow v0_6 (IntKind.wrap .i64 (v0_2 - 1)) fun c60 => uncons c60 fun d61 r62 => dStr d61 fun x63 => uncons r62 fun d64 r65 => dInt .i64 d64 fun x66 => atEnd r65 (bif (!(strLt x63 x54)) then (K false) else (L0 (IntKind.wrap .i64 (v0_2 + 1))))) else (L0 (IntKind.wrap .i64 (v0_2 + 1))))))))) else (impl_isCopies.f k v0_3 (fun y67 => bif y67 then (impl_SelectorOk.f k v0_4 (fun y68 => bif y68 then (impl_namesOk.f k v0_5 8 (fun y69 => bif y69 then (K (decide (((v0_6.length : Int) : Int) ≤ 12))) else (K false))) else (K false))) else (K false)))
noncomputable def impl_WantOk.g {β : Type} (k : Nat) (a0_0 : Int) (a0_1 : List (List D)) (a0_2 : List (List D)) (a0_3 : List (List D)) (K : Bool → Option β) : Option β :=
  iter (impl_WantOk.l0 k a0_3 (a0_3.length : Int) a0_0 a0_1 a0_2 a0_3 K) k (0)
noncomputable def impl_WantOk.t (k : Nat) (a0_0 : Int) (a0_1 : List (List D)) (a0_2 : List (List D)) (a0_3 : List (List D)) : Option (Bool) := impl_WantOk.g k a0_0 a0_1 a0_2 a0_3 (fun z0 => some z0)
noncomputable def impl_WantOk.f {β : Type} (k : Nat) (a0_0 : Int) (a0_1 : List (List D)) (a0_2 : List (List D)) (a0_3 : List (List D)) (K : Bool → Option β) : Option β :=
  match impl_WantOk.t k a0_0 a0_1 a0_2 a0_3 with
  | some z0 => K z0
  | none => none
noncomputable def impl_WantOk.as (a0_0 : Int) (a0_1 : List (List D)) (a0_2 : List (List D)) (a0_3 : List (List D)) : List A := [.agg [.int .i64 a0_0, .sl a0_1, .sl a0_2, .sl a0_3]]
noncomputable def impl_WantOk.kt {β : Type} (a0_0 : Int) (a0_1 : List (List D)) (a0_2 : List (List D)) (a0_3 : List (List D)) (K0 : List (List C) → List Out → Option β) : Bool → Option β := fun z0 => K0 [[.d (.bool z0)]] []
noncomputable def impl_WantOk.e (k : Nat) : Entry := { modes := [(.imm, 0)], rts := [4], al := false, run := fun {β} l K => match l with | [.agg [.int .i64 a0_0, .sl a0_1, .sl a0_2, .sl a0_3]] => impl_WantOk.f k a0_0 a0_1 a0_2 a0_3 (impl_WantOk.kt a0_0 a0_1 a0_2 a0_3 K) | _ => none }
noncomputable def impl_WantOk.E (k : Nat) : Env := fun g => bif g == 72 then some (impl_NameOk.e k) else bif g == 87 then some (impl_within.e k) else bif g == 75 then some (impl_isCopies.e k) else bif g == 99 then some (impl_SelectorOk.e k) else bif g == 74 then some (impl_namesOk.e k) else none
noncomputable def impl_WantOk.h : Hints := ⟨fun n => bif n == 2 then ⟨[(1, .asis), (6, .asis), (7, .asis), (8, .asis)], []⟩ else ⟨[], []⟩, fun _ => none, false, []⟩
noncomputable def impl_WantOk.s0 (v0_0 : List (List D)) (v0_1 : Int) (v0_3 : Int) (v0_4 : List (List D)) (v0_5 : List (List D)) (v0_6 : List (List D)) (v : Int) : St :=
  match v with
  | v0_2 => ⟨[.any, .bp 0 0, .any, .any, .any, .any, .d false (.sl v0_0), .d true (.int .i64 v0_1), .d true (.int .i64 v0_2), .any, .any, .any, .any, .any, .any, .any, .any, .any, .any, .any, .any, .any, .any, .any, .any, .any, .any, .any, .any, .any, .any, .any, .any, .any, .any, .any, .any, .any, .any, .any, .any, .any, .any, .any, .any, .any, .any, .any, .any, .any, .any, .any, .any, .any, .any, .any, .any, .any, .any], [.box none 43 [.d false (.int .i64 v0_3), .d false (.sl v0_4), .d false (.sl v0_5), .d false (.sl v0_6)]]⟩
noncomputable def impl_WantOk.b0 {β : Type} (k : Nat) : St → (Ex → St → Option β) → Option β := fun s K => den Try.prog (impl_WantOk.E k) impl_WantOk.h.H impl_WantOk.h.J k (codeAt [1, 0, 1, 0, 0] (codeOf Try.f38)) s K
noncomputable def impl_WantOk.c0 {β : Type} (k : Nat) (a0_0 : Int) (a0_1 : List (List D)) (a0_2 : List (List D)) (a0_3 : List (List D)) (K0 : List (List C) → List Out → Option β) : Ex → St → Option β := contAt Try.prog (impl_WantOk.E k) impl_WantOk.h k [1, 0, 1, 0] (codeOf Try.f38) (finDen Try.prog Try.f38 impl_WantOk.h (impl_WantOk.as a0_0 a0_1 a0_2 a0_3) K0)
theorem impl_WantOk.l0_eq {β : Type} (k : Nat) (a0_0 : Int) (a0_1 : List (List D)) (a0_2 : List (List D)) (a0_3 : List (List D)) (K0 : List (List C) → List Out → Option β) (v0_0 : List (List D)) (v0_1 : Int) (v0_3 : Int) (v0_4 : List (List D)) (v0_5 : List (List D)) (v0_6 : List (List D)) : ∀ (kk : Nat) (v : Int), loopDen (impl_WantOk.b0 k) (impl_WantOk.h.H 2) kk (impl_WantOk.s0 v0_0 v0_1 v0_3 v0_4 v0_5 v0_6 v) (impl_WantOk.c0 k a0_0 a0_1 a0_2 a0_3 K0) = iter (impl_WantOk.l0 k v0_0 v0_1 v0_3 v0_4 v0_5 v0_6 (impl_WantOk.kt a0_0 a0_1 a0_2 a0_3 K0)) kk v :=
  loop_eq (impl_WantOk.s0 v0_0 v0_1 v0_3 v0_4 v0_5 v0_6) _ (fun L0 v => by kernel_rfl)
noncomputable def impl_WantOk.m {β : Type} (k : Nat) (a0_0 : Int) (a0_1 : List (List D)) (a0_2 : List (List D)) (a0_3 : List (List D)) (K0 : List (List C) → List Out → Option β) (F : ((List (List D)) → Int → Int → (List (List D)) → (List (List D)) → (List (List D)) → Int → Option β)) : Option β :=
  (F) a0_3 (a0_3.length : Int) a0_0 a0_1 a0_2 a0_3 (0)
theorem impl_WantOk.f_eq {β : Type} (k : Nat) (a0_0 : Int) (a0_1 : List (List D)) (a0_2 : List (List D)) (a0_3 : List (List D)) (K0 : List (List C) → List Out → Option β) : funDen Try.prog (impl_WantOk.E k) impl_WantOk.h k Try.f38 (impl_WantOk.as a0_0 a0_1 a0_2 a0_3) K0 = impl_WantOk.g k a0_0 a0_1 a0_2 a0_3 (impl_WantOk.kt a0_0 a0_1 a0_2 a0_3 K0) := Eq.trans (b := (impl_WantOk.m k a0_0 a0_1 a0_2 a0_3 K0) (fun (v0_0 : List (List D)) (v0_1 : Int) (v0_3 : Int) (v0_4 : List (List D)) (v0_5 : List (List D)) (v0_6 : List (List D)) (v : Int) => loopDen (impl_WantOk.b0 k) (impl_WantOk.h.H 2) k (impl_WantOk.s0 v0_0 v0_1 v0_3 v0_4 v0_5 v0_6 v) (impl_WantOk.c0 k a0_0 a0_1 a0_2 a0_3 K0))) (by kernel_rfl) (Eq.trans (congrArg (impl_WantOk.m k a0_0 a0_1 a0_2 a0_3 K0) (funext fun v0_0 => funext fun v0_1 => funext fun v0_3 => funext fun v0_4 => funext fun v0_5 => funext fun v0_6 => funext fun v => impl_WantOk.l0_eq k a0_0 a0_1 a0_2 a0_3 K0 v0_0 v0_1 v0_3 v0_4 v0_5 v0_6 k v)) (by kernel_rfl))
noncomputable def impl_WantOk.dec (rs : List (List C)) (os : List Out) : Option (Bool) := uncons rs fun c1 r2 => uncons c1 fun x3 l4 => cD x3 fun d5 => dBool d5 fun w0 => atEnd l4 <| atEnd r2 <| atEnd os (some w0)
theorem impl_WantOk.kt_dec (a0_0 : Int) (a0_1 : List (List D)) (a0_2 : List (List D)) (a0_3 : List (List D)) : impl_WantOk.kt a0_0 a0_1 a0_2 a0_3 impl_WantOk.dec = (fun z0 => some z0) := by kernel_rfl
theorem impl_WantOk.inj (a0_0 : Int) (a0_1 : List (List D)) (a0_2 : List (List D)) (a0_3 : List (List D)) {rs : List (List C)} {os : List Out} {z0 : Bool} (h : impl_WantOk.dec rs os = some z0) (ho : OutShape (impl_WantOk.as a0_0 a0_1 a0_2 a0_3) os) : rs = [[.d (.bool z0)]] ∧ os = [] := by
  unfold impl_WantOk.dec at h
  obtain ⟨c1, r2, rfl, h1⟩ := uncons_some h
  obtain ⟨x3, l4, rfl, h2⟩ := uncons_some h1
  obtain ⟨d5, rfl, h3⟩ := cD_some h2
  obtain ⟨w0, rfl, h4⟩ := dBool_some h3
  obtain ⟨rfl, h5⟩ := atEnd_some h4
  obtain ⟨rfl, h6⟩ := atEnd_some h5
  obtain ⟨rfl, h7⟩ := atEnd_some h6
  obtain rfl := Option.some.inj h7
  exact ⟨rfl, rfl⟩
theorem impl_WantOk.ok (k : Nat) : EntryOK Try.prog 38 (impl_WantOk.e k) := by
  refine entry_of mix tyok (fn := Try.f38) (c := codeOf Try.f38) Try.func38 (by kernel_rfl) (h := impl_WantOk.h) (k := k) (E := impl_WantOk.E k) (env_cons (impl_NameOk.ok k) (env_cons (impl_within.ok k) (env_cons (impl_isCopies.ok k) (env_cons (impl_SelectorOk.ok k) (env_cons (impl_namesOk.ok k) env_nil))))) (by kernel_rfl) (by kernel_rfl) rfl (enter_of Try.func38 (by kernel_rfl)) ?_
  intro β l K r hr
  simp only [impl_WantOk.e] at hr
  split at hr
  case h_2 => cases hr
  unfold impl_WantOk.f at hr
  split at hr
  case h_2 => cases hr
  rename_i hz
  exact ⟨_, _, hr, _, impl_WantOk.dec, _, (impl_WantOk.f_eq k _ _ _ _ impl_WantOk.dec).trans (by rw [impl_WantOk.kt_dec]; exact hz), fun rs os h ho => impl_WantOk.inj _ _ _ _ h ho⟩
/-! ### loop.example/g00119/impl.LabelsOk: function 73 -/
noncomputable def impl_LabelsOk.l0 {β : Type} (k : Nat) (v0_0 : List (List D)) (v0_1 : List (List D)) (v0_2 : Int) (K : Bool → Option β) (L0 : Int → Option β) (v : Int) : Option β :=
  match v with
  | v0_3 => bif (decide ((v0_3 : Int) < v0_2)) then (atRow v0_1 v0_3 fun c17 => uncons c17 fun d18 r19 => dStr d18 fun x20 => uncons r19 fun d21 r22 => dStr d21 fun x23 => atEnd r22 (impl_NameOk.f k x20 (fun y24 => bif (!y24) then (K false) else (impl_NameOk.f k x23 (fun y25 => bif (!y25) then (K false) else (bif (decide ((v0_3 : Int) > 0)) then (atRow v0_0 (IntKind.wrap .i64 (v0_3 - 1)) fun c26 => uncons c26 fun d27 r28 => dStr d27 fun x29 => uncons r28 fun d30 r31 => dStr d30 fun x32 => atEnd r31 (bif (!(strLt x29 x20)) then (K false) else (L0 (IntKind.wrap .i64 (v0_3 + 1))))) else (L0 (IntKind.wrap .i64 (v0_3 + 1))))))))) else (K (decide (((v0_0.length : Int) : Int) ≤ 8)))
noncomputable def impl_LabelsOk.g {β : Type} (k : Nat) (a0 : List (List D)) (K : Bool → Option β) : Option β :=
  iter (impl_LabelsOk.l0 k a0 a0 (a0.length : Int) K) k (0)
noncomputable def impl_LabelsOk.t (k : Nat) (a0 : List (List D)) : Option (Bool) := impl_LabelsOk.g k a0 (fun z0 => some z0)
noncomputable def impl_LabelsOk.f {β : Type} (k : Nat) (a0 : List (List D)) (K : Bool → Option β) : Option β :=
  match impl_LabelsOk.t k a0 with
  | some z0 => K z0
  | none => none
noncomputable def impl_LabelsOk.as (a0 : List (List D)) : List A := [.d (.sl a0)]
noncomputable def impl_LabelsOk.kt {β : Type} (a0 : List (List D)) (K0 : List (List C) → List Out → Option β) : Bool → Option β := fun z0 => K0 [[.d (.bool z0)]] []
noncomputable def impl_LabelsOk.e (k : Nat) : Entry := { modes := [(.imm, 0)], rts := [4], al := false, run := fun {β} l K => match l with | [.d (.sl a0)] => impl_LabelsOk.f k a0 (impl_LabelsOk.kt a0 K) | _ => none }
noncomputable def impl_LabelsOk.E (k : Nat) : Env := fun g => bif g == 72 then some (impl_NameOk.e k) else none
noncomputable def impl_LabelsOk.h : Hints := ⟨fun n => bif n == 2 then ⟨[(0, .asis), (5, .asis), (6, .asis), (7, .asis)], []⟩ else ⟨[], []⟩, fun _ => none, false, []⟩
noncomputable def impl_LabelsOk.s0 (v0_0 : List (List D)) (v0_1 : List (List D)) (v0_2 : Int) (v : Int) : St :=
  match v with
  | v0_3 => ⟨[.d false (.sl v0_0), .any, .any, .any, .any, .d false (.sl v0_1), .d true (.int .i64 v0_2), .d true (.int .i64 v0_3), .any, .any, .any, .any, .any, .any, .any, .any, .any, .any, .any, .any, .any, .any, .any, .any, .any, .any, .any, .any, .any, .any, .any, .any, .any, .any, .any, .any, .any, .any, .any, .any, .any], []⟩
noncomputable def impl_LabelsOk.b0 {β : Type} (k : Nat) : St → (Ex → St → Option β) → Option β := fun s K => den Try.prog (impl_LabelsOk.E k) impl_LabelsOk.h.H impl_LabelsOk.h.J k (codeAt [1, 0, 1, 0, 0] (codeOf Try.f73)) s K
noncomputable def impl_LabelsOk.c0 {β : Type} (k : Nat) (a0 : List (List D)) (K0 : List (List C) → List Out → Option β) : Ex → St → Option β := contAt Try.prog (impl_LabelsOk.E k) impl_LabelsOk.h k [1, 0, 1, 0] (codeOf Try.f73) (finDen Try.prog Try.f73 impl_LabelsOk.h (impl_LabelsOk.as a0) K0)
theorem impl_LabelsOk.l0_eq {β : Type} (k : Nat) (a0 : List (List D)) (K0 : List (List C) → List Out → Option β) (v0_0 : List (List D)) (v0_1 : List (List D)) (v0_2 : Int) : ∀ (kk : Nat) (v : Int), loopDen (impl_LabelsOk.b0 k) (impl_LabelsOk.h.H 2) kk (impl_LabelsOk.s0 v0_0 v0_1 v0_2 v) (impl_LabelsOk.c0 k a0 K0) = iter (impl_LabelsOk.l0 k v0_0 v0_1 v0_2 (impl_LabelsOk.kt a0 K0)) kk v :=
  loop_eq (impl_LabelsOk.s0 v0_0 v0_1 v0_2) _ (fun L0 v => by kernel_rfl)
noncomputable def impl_LabelsOk.m {β : Type} (k : Nat) (a0 : List (List D)) (K0 : List (List C) → List Out → Option β) (F : ((List (List D)) → (List (List D)) → Int → Int → Option β)) : Option β :=
  (F) a0 a0 (a0.length : Int) (0)
theorem impl_LabelsOk.f_eq {β : Type} (k : Nat) (a0 : List (List D)) (K0 : List (List C) → List Out → Option β) : funDen Try.prog (impl_LabelsOk.E k) impl_LabelsOk.h k Try.f73 (impl_LabelsOk.as a0) K0 = impl_LabelsOk.g k a0 (impl_LabelsOk.kt a0 K0) := Eq.trans (b := (impl_LabelsOk.m k a0 K0) (fun (v0_0 : List (List D)) (v0_1 : List (List D)) (v0_2 : Int) (v : Int) => loopDen (impl_LabelsOk.b0 k) (impl_LabelsOk.h.H 2) k (impl_LabelsOk.s0 v0_0 v0_1 v0_2 v) (impl_LabelsOk.c0 k a0 K0))) (by kernel_rfl) (Eq.trans (congrArg (impl_LabelsOk.m k a0 K0) (funext fun v0_0 => funext fun v0_1 => funext fun v0_2 => funext fun v => impl_LabelsOk.l0_eq k a0 K0 v0_0 v0_1 v0_2 k v)) (by kernel_rfl))
noncomputable def impl_LabelsOk.dec (rs : List (List C)) (os : List Out) : Option (Bool) := uncons rs fun c1 r2 => uncons c1 fun x3 l4 => cD x3 fun d5 => dBool d5 fun w0 => atEnd l4 <| atEnd r2 <| atEnd os (some w0)
theorem impl_LabelsOk.kt_dec (a0 : List (List D)) : impl_LabelsOk.kt a0 impl_LabelsOk.dec = (fun z0 => some z0) := by kernel_rfl
theorem impl_LabelsOk.inj (a0 : List (List D)) {rs : List (List C)} {os : List Out} {z0 : Bool} (h : impl_LabelsOk.dec rs os = some z0) (ho : OutShape (impl_LabelsOk.as a0) os) : rs = [[.d (.bool z0)]] ∧ os = [] := by
  unfold impl_LabelsOk.dec at h
  obtain ⟨c1, r2, rfl, h1⟩ := uncons_some h
  obtain ⟨x3, l4, rfl, h2⟩ := uncons_some h1
  obtain ⟨d5, rfl, h3⟩ := cD_some h2
  obtain ⟨w0, rfl, h4⟩ := dBool_some h3
  obtain ⟨rfl, h5⟩ := atEnd_some h4
  obtain ⟨rfl, h6⟩ := atEnd_some h5
  obtain ⟨rfl, h7⟩ := atEnd_some h6
  obtain rfl := Option.some.inj h7
  exact ⟨rfl, rfl⟩
theorem impl_LabelsOk.ok (k : Nat) : EntryOK Try.prog 73 (impl_LabelsOk.e k) := by
  refine entry_of mix tyok (fn := Try.f73) (c := codeOf Try.f73) Try.func73 (by kernel_rfl) (h := impl_LabelsOk.h) (k := k) (E := impl_LabelsOk.E k) (env_cons (impl_NameOk.ok k) env_nil) (by kernel_rfl) (by kernel_rfl) rfl (enter_of Try.func73 (by kernel_rfl)) ?_
  intro β l K r hr
  simp only [impl_LabelsOk.e] at hr
  split at hr
  case h_2 => cases hr
  unfold impl_LabelsOk.f at hr
  split at hr
  case h_2 => cases hr
  rename_i hz
  exact ⟨_, _, hr, _, impl_LabelsOk.dec, _, (impl_LabelsOk.f_eq k _ impl_LabelsOk.dec).trans (by rw [impl_LabelsOk.kt_dec]; exact hz), fun rs os h ho => impl_LabelsOk.inj _ h ho⟩
/-! ### loop.example/g00119/impl.IslandOk: function 18 -/
noncomputable def impl_IslandOk.g {β : Type} (k : Nat) (a0_0 : ByteArray) (a0_1 : List (List D)) (a0_2 : List (List D)) (a0_3 : Int) (K : Bool → Option β) : Option β :=
  impl_NameOk.f k a0_0 (fun y1 => bif y1 then (impl_LabelsOk.f k a0_1 (fun y33 => bif y33 then (impl_namesOk.f k a0_2 4 (fun y34 => bif y34 then (impl_isCopies.f k a0_3 (fun y35 => K y35)) else (K false))) else (K false))) else (K false))
noncomputable def impl_IslandOk.t (k : Nat) (a0_0 : ByteArray) (a0_1 : List (List D)) (a0_2 : List (List D)) (a0_3 : Int) : Option (Bool) := impl_IslandOk.g k a0_0 a0_1 a0_2 a0_3 (fun z0 => some z0)
noncomputable def impl_IslandOk.f {β : Type} (k : Nat) (a0_0 : ByteArray) (a0_1 : List (List D)) (a0_2 : List (List D)) (a0_3 : Int) (K : Bool → Option β) : Option β :=
  match impl_IslandOk.t k a0_0 a0_1 a0_2 a0_3 with
  | some z0 => K z0
  | none => none
noncomputable def impl_IslandOk.as (a0_0 : ByteArray) (a0_1 : List (List D)) (a0_2 : List (List D)) (a0_3 : Int) : List A := [.agg [.str a0_0, .sl a0_1, .sl a0_2, .int .i64 a0_3]]
noncomputable def impl_IslandOk.kt {β : Type} (a0_0 : ByteArray) (a0_1 : List (List D)) (a0_2 : List (List D)) (a0_3 : Int) (K0 : List (List C) → List Out → Option β) : Bool → Option β := fun z0 => K0 [[.d (.bool z0)]] []
noncomputable def impl_IslandOk.e (k : Nat) : Entry := { modes := [(.imm, 0)], rts := [4], al := false, run := fun {β} l K => match l with | [.agg [.str a0_0, .sl a0_1, .sl a0_2, .int .i64 a0_3]] => impl_IslandOk.f k a0_0 a0_1 a0_2 a0_3 (impl_IslandOk.kt a0_0 a0_1 a0_2 a0_3 K) | _ => none }
noncomputable def impl_IslandOk.E (k : Nat) : Env := fun g => bif g == 72 then some (impl_NameOk.e k) else bif g == 73 then some (impl_LabelsOk.e k) else bif g == 74 then some (impl_namesOk.e k) else bif g == 75 then some (impl_isCopies.e k) else none
noncomputable def impl_IslandOk.h : Hints := ⟨fun n => ⟨[], []⟩, fun _ => none, false, []⟩
theorem impl_IslandOk.f_eq {β : Type} (k : Nat) (a0_0 : ByteArray) (a0_1 : List (List D)) (a0_2 : List (List D)) (a0_3 : Int) (K0 : List (List C) → List Out → Option β) : funDen Try.prog (impl_IslandOk.E k) impl_IslandOk.h k Try.f18 (impl_IslandOk.as a0_0 a0_1 a0_2 a0_3) K0 = impl_IslandOk.g k a0_0 a0_1 a0_2 a0_3 (impl_IslandOk.kt a0_0 a0_1 a0_2 a0_3 K0) := by kernel_rfl
noncomputable def impl_IslandOk.dec (rs : List (List C)) (os : List Out) : Option (Bool) := uncons rs fun c1 r2 => uncons c1 fun x3 l4 => cD x3 fun d5 => dBool d5 fun w0 => atEnd l4 <| atEnd r2 <| atEnd os (some w0)
theorem impl_IslandOk.kt_dec (a0_0 : ByteArray) (a0_1 : List (List D)) (a0_2 : List (List D)) (a0_3 : Int) : impl_IslandOk.kt a0_0 a0_1 a0_2 a0_3 impl_IslandOk.dec = (fun z0 => some z0) := by kernel_rfl
theorem impl_IslandOk.inj (a0_0 : ByteArray) (a0_1 : List (List D)) (a0_2 : List (List D)) (a0_3 : Int) {rs : List (List C)} {os : List Out} {z0 : Bool} (h : impl_IslandOk.dec rs os = some z0) (ho : OutShape (impl_IslandOk.as a0_0 a0_1 a0_2 a0_3) os) : rs = [[.d (.bool z0)]] ∧ os = [] := by
  unfold impl_IslandOk.dec at h
  obtain ⟨c1, r2, rfl, h1⟩ := uncons_some h
  obtain ⟨x3, l4, rfl, h2⟩ := uncons_some h1
  obtain ⟨d5, rfl, h3⟩ := cD_some h2
  obtain ⟨w0, rfl, h4⟩ := dBool_some h3
  obtain ⟨rfl, h5⟩ := atEnd_some h4
  obtain ⟨rfl, h6⟩ := atEnd_some h5
  obtain ⟨rfl, h7⟩ := atEnd_some h6
  obtain rfl := Option.some.inj h7
  exact ⟨rfl, rfl⟩
theorem impl_IslandOk.ok (k : Nat) : EntryOK Try.prog 18 (impl_IslandOk.e k) := by
  refine entry_of mix tyok (fn := Try.f18) (c := codeOf Try.f18) Try.func18 (by kernel_rfl) (h := impl_IslandOk.h) (k := k) (E := impl_IslandOk.E k) (env_cons (impl_NameOk.ok k) (env_cons (impl_LabelsOk.ok k) (env_cons (impl_namesOk.ok k) (env_cons (impl_isCopies.ok k) env_nil)))) (by kernel_rfl) (by kernel_rfl) rfl (enter_of Try.func18 (by kernel_rfl)) ?_
  intro β l K r hr
  simp only [impl_IslandOk.e] at hr
  split at hr
  case h_2 => cases hr
  unfold impl_IslandOk.f at hr
  split at hr
  case h_2 => cases hr
  rename_i hz
  exact ⟨_, _, hr, _, impl_IslandOk.dec, _, (impl_IslandOk.f_eq k _ _ _ _ impl_IslandOk.dec).trans (by rw [impl_IslandOk.kt_dec]; exact hz), fun rs os h ho => impl_IslandOk.inj _ _ _ _ h ho⟩
/-! ### loop.example/g00119/impl.LabelGet: function 195 -/
noncomputable def impl_LabelGet.l0 {β : Type} (k : Nat) (v0_0 : ByteArray) (v0_1 : List (List D)) (v0_2 : Int) (K : ByteArray → Bool → Option β) (L0 : Int → Option β) (v : Int) : Option β :=
  match v with
  | v0_3 => bif (decide ((v0_3 : Int) < v0_2)) then (atRow v0_1 v0_3 fun c8 => uncons c8 fun d9 r10 => dStr d9 fun x11 => uncons r10 fun d12 r13 => dStr d12 fun x14 => atEnd r13 (bif (strEq x11 v0_0) then (K x14 true) else (L0 (IntKind.wrap .i64 (v0_3 + 1))))) else (K (⟨#[]⟩ : ByteArray) false)
noncomputable def impl_LabelGet.g {β : Type} (k : Nat) (a0 : List (List D)) (a1 : ByteArray) (K : ByteArray → Bool → Option β) : Option β :=
  iter (impl_LabelGet.l0 k a1 a0 (a0.length : Int) K) k (0)
noncomputable def impl_LabelGet.t (k : Nat) (a0 : List (List D)) (a1 : ByteArray) : Option (ByteArray × Bool) := impl_LabelGet.g k a0 a1 (fun z0 z1 => some (z0, z1))
noncomputable def impl_LabelGet.f {β : Type} (k : Nat) (a0 : List (List D)) (a1 : ByteArray) (K : ByteArray → Bool → Option β) : Option β :=
  match impl_LabelGet.t k a0 a1 with
  | some (z0, z1) => K z0 z1
  | none => none
noncomputable def impl_LabelGet.as (a0 : List (List D)) (a1 : ByteArray) : List A := [.d (.sl a0), .d (.str a1)]
noncomputable def impl_LabelGet.kt {β : Type} (a0 : List (List D)) (a1 : ByteArray) (K0 : List (List C) → List Out → Option β) : ByteArray → Bool → Option β := fun z0 z1 => K0 [[.d (.str z0)], [.d (.bool z1)]] []
noncomputable def impl_LabelGet.e (k : Nat) : Entry := { modes := [(.imm, 0), (.imm, 0)], rts := [9, 4], al := false, run := fun {β} l K => match l with | [.d (.sl a0), .d (.str a1)] => impl_LabelGet.f k a0 a1 (impl_LabelGet.kt a0 a1 K) | _ => none }
noncomputable def impl_LabelGet.E (k : Nat) : Env := fun g => none
noncomputable def impl_LabelGet.h : Hints := ⟨fun n => bif n == 2 then ⟨[(1, .asis), (8, .asis), (9, .asis), (10, .asis)], []⟩ else ⟨[], []⟩, fun _ => none, false, []⟩
noncomputable def impl_LabelGet.s0 (v0_0 : ByteArray) (v0_1 : List (List D)) (v0_2 : Int) (v : Int) : St :=
  match v with
  | v0_3 => ⟨[.any, .d false (.str v0_0), .any, .any, .any, .any, .any, .any, .d false (.sl v0_1), .d true (.int .i64 v0_2), .d true (.int .i64 v0_3), .any, .any, .any, .any, .any, .any, .any, .any, .any, .any], []⟩
noncomputable def impl_LabelGet.b0 {β : Type} (k : Nat) : St → (Ex → St → Option β) → Option β := fun s K => den Try.prog (impl_LabelGet.E k) impl_LabelGet.h.H impl_LabelGet.h.J k (codeAt [1, 0, 1, 0, 0] (codeOf Try.f195)) s K
noncomputable def impl_LabelGet.c0 {β : Type} (k : Nat) (a0 : List (List D)) (a1 : ByteArray) (K0 : List (List C) → List Out → Option β) : Ex → St → Option β := contAt Try.prog (impl_LabelGet.E k) impl_LabelGet.h k [1, 0, 1, 0] (codeOf Try.f195) (finDen Try.prog Try.f195 impl_LabelGet.h (impl_LabelGet.as a0 a1) K0)
theorem impl_LabelGet.l0_eq {β : Type} (k : Nat) (a0 : List (List D)) (a1 : ByteArray) (K0 : List (List C) → List Out → Option β) (v0_0 : ByteArray) (v0_1 : List (List D)) (v0_2 : Int) : ∀ (kk : Nat) (v : Int), loopDen (impl_LabelGet.b0 k) (impl_LabelGet.h.H 2) kk (impl_LabelGet.s0 v0_0 v0_1 v0_2 v) (impl_LabelGet.c0 k a0 a1 K0) = iter (impl_LabelGet.l0 k v0_0 v0_1 v0_2 (impl_LabelGet.kt a0 a1 K0)) kk v :=
  loop_eq (impl_LabelGet.s0 v0_0 v0_1 v0_2) _ (fun L0 v => by kernel_rfl)
noncomputable def impl_LabelGet.m {β : Type} (k : Nat) (a0 : List (List D)) (a1 : ByteArray) (K0 : List (List C) → List Out → Option β) (F : (ByteArray → (List (List D)) → Int → Int → Option β)) : Option β :=
  (F) a1 a0 (a0.length : Int) (0)
theorem impl_LabelGet.f_eq {β : Type} (k : Nat) (a0 : List (List D)) (a1 : ByteArray) (K0 : List (List C) → List Out → Option β) : funDen Try.prog (impl_LabelGet.E k) impl_LabelGet.h k Try.f195 (impl_LabelGet.as a0 a1) K0 = impl_LabelGet.g k a0 a1 (impl_LabelGet.kt a0 a1 K0) := Eq.trans (b := (impl_LabelGet.m k a0 a1 K0) (fun (v0_0 : ByteArray) (v0_1 : List (List D)) (v0_2 : Int) (v : Int) => loopDen (impl_LabelGet.b0 k) (impl_LabelGet.h.H 2) k (impl_LabelGet.s0 v0_0 v0_1 v0_2 v) (impl_LabelGet.c0 k a0 a1 K0))) (by kernel_rfl) (Eq.trans (congrArg (impl_LabelGet.m k a0 a1 K0) (funext fun v0_0 => funext fun v0_1 => funext fun v0_2 => funext fun v => impl_LabelGet.l0_eq k a0 a1 K0 v0_0 v0_1 v0_2 k v)) (by kernel_rfl))
noncomputable def impl_LabelGet.dec (rs : List (List C)) (os : List Out) : Option (ByteArray × Bool) := uncons rs fun c1 r2 => uncons c1 fun x3 l4 => cD x3 fun d5 => dStr d5 fun w0 => atEnd l4 <| uncons r2 fun c6 r7 => uncons c6 fun x8 l9 => cD x8 fun d10 => dBool d10 fun w1 => atEnd l9 <| atEnd r7 <| atEnd os (some (w0, w1))
theorem impl_LabelGet.kt_dec (a0 : List (List D)) (a1 : ByteArray) : impl_LabelGet.kt a0 a1 impl_LabelGet.dec = (fun z0 z1 => some (z0, z1)) := by kernel_rfl
theorem impl_LabelGet.inj (a0 : List (List D)) (a1 : ByteArray) {rs : List (List C)} {os : List Out} {z0 : ByteArray} {z1 : Bool} (h : impl_LabelGet.dec rs os = some (z0, z1)) (ho : OutShape (impl_LabelGet.as a0 a1) os) : rs = [[.d (.str z0)], [.d (.bool z1)]] ∧ os = [] := by
  unfold impl_LabelGet.dec at h
  obtain ⟨c1, r2, rfl, h1⟩ := uncons_some h
  obtain ⟨x3, l4, rfl, h2⟩ := uncons_some h1
  obtain ⟨d5, rfl, h3⟩ := cD_some h2
  obtain ⟨w0, rfl, h4⟩ := dStr_some h3
  obtain ⟨rfl, h5⟩ := atEnd_some h4
  obtain ⟨c6, r7, rfl, h6⟩ := uncons_some h5
  obtain ⟨x8, l9, rfl, h7⟩ := uncons_some h6
  obtain ⟨d10, rfl, h8⟩ := cD_some h7
  obtain ⟨w1, rfl, h9⟩ := dBool_some h8
  obtain ⟨rfl, h10⟩ := atEnd_some h9
  obtain ⟨rfl, h11⟩ := atEnd_some h10
  obtain ⟨rfl, h12⟩ := atEnd_some h11
  simp only [Option.some.injEq, Prod.mk.injEq] at h12
  obtain ⟨rfl, rfl⟩ := h12
  exact ⟨rfl, rfl⟩
theorem impl_LabelGet.ok (k : Nat) : EntryOK Try.prog 195 (impl_LabelGet.e k) := by
  refine entry_of mix tyok (fn := Try.f195) (c := codeOf Try.f195) Try.func195 (by kernel_rfl) (h := impl_LabelGet.h) (k := k) (E := impl_LabelGet.E k) env_nil (by kernel_rfl) (by kernel_rfl) rfl (enter_of Try.func195 (by kernel_rfl)) ?_
  intro β l K r hr
  simp only [impl_LabelGet.e] at hr
  split at hr
  case h_2 => cases hr
  unfold impl_LabelGet.f at hr
  split at hr
  case h_2 => cases hr
  rename_i hz
  exact ⟨_, _, hr, _, impl_LabelGet.dec, _, (impl_LabelGet.f_eq k _ _ impl_LabelGet.dec).trans (by rw [impl_LabelGet.kt_dec]; exact hz), fun rs os h ho => impl_LabelGet.inj _ _ h ho⟩
/-! ### slices.Index[[]string,string]: function 149 -/
noncomputable def slices_Index_string.l0 {β : Type} (k : Nat) (v0_0 : List (List D)) (v0_1 : ByteArray) (v0_2 : Int) (K : Int → Option β) (L0 : Int → Option β) (v : Int) : Option β :=
  match v with
  | v0_3 => bif (decide ((v0_3 : Int) < v0_2)) then (atRow v0_0 v0_3 fun c5 => uncons c5 fun d6 r7 => dStr d6 fun x8 => atEnd r7 (bif (strEq v0_1 x8) then (K v0_3) else (L0 (IntKind.wrap .i64 (v0_3 + 1))))) else (K (-1))
noncomputable def slices_Index_string.g {β : Type} (k : Nat) (a0 : List (List D)) (a1 : ByteArray) (K : Int → Option β) : Option β :=
  iter (slices_Index_string.l0 k a0 a1 (a0.length : Int) K) k (0)
noncomputable def slices_Index_string.t (k : Nat) (a0 : List (List D)) (a1 : ByteArray) : Option (Int) := slices_Index_string.g k a0 a1 (fun z0 => some z0)
noncomputable def slices_Index_string.f {β : Type} (k : Nat) (a0 : List (List D)) (a1 : ByteArray) (K : Int → Option β) : Option β :=
  match slices_Index_string.t k a0 a1 with
  | some z0 => K z0
  | none => none
noncomputable def slices_Index_string.as (a0 : List (List D)) (a1 : ByteArray) : List A := [.d (.sl a0), .d (.str a1)]
noncomputable def slices_Index_string.kt {β : Type} (a0 : List (List D)) (a1 : ByteArray) (K0 : List (List C) → List Out → Option β) : Int → Option β := fun z0 => K0 [[.d (.int .i64 z0)]] []
noncomputable def slices_Index_string.e (k : Nat) : Entry := { modes := [(.imm, 0), (.imm, 0)], rts := [3], al := false, run := fun {β} l K => match l with | [.d (.sl a0), .d (.str a1)] => slices_Index_string.f k a0 a1 (slices_Index_string.kt a0 a1 K) | _ => none }
noncomputable def slices_Index_string.E (k : Nat) : Env := fun g => none
noncomputable def slices_Index_string.h : Hints := ⟨fun n => bif n == 2 then ⟨[(0, .asis), (1, .asis), (7, .asis), (8, .asis)], []⟩ else ⟨[], []⟩, fun _ => none, false, []⟩
noncomputable def slices_Index_string.s0 (v0_0 : List (List D)) (v0_1 : ByteArray) (v0_2 : Int) (v : Int) : St :=
  match v with
  | v0_3 => ⟨[.d false (.sl v0_0), .d false (.str v0_1), .any, .any, .any, .any, .any, .d true (.int .i64 v0_2), .d true (.int .i64 v0_3), .any, .any, .any, .any, .any, .any, .any, .any, .any, .any], []⟩
noncomputable def slices_Index_string.b0 {β : Type} (k : Nat) : St → (Ex → St → Option β) → Option β := fun s K => den Try.prog (slices_Index_string.E k) slices_Index_string.h.H slices_Index_string.h.J k (codeAt [1, 0, 1, 0, 0] (codeOf Try.f149)) s K
noncomputable def slices_Index_string.c0 {β : Type} (k : Nat) (a0 : List (List D)) (a1 : ByteArray) (K0 : List (List C) → List Out → Option β) : Ex → St → Option β := contAt Try.prog (slices_Index_string.E k) slices_Index_string.h k [1, 0, 1, 0] (codeOf Try.f149) (finDen Try.prog Try.f149 slices_Index_string.h (slices_Index_string.as a0 a1) K0)
theorem slices_Index_string.l0_eq {β : Type} (k : Nat) (a0 : List (List D)) (a1 : ByteArray) (K0 : List (List C) → List Out → Option β) (v0_0 : List (List D)) (v0_1 : ByteArray) (v0_2 : Int) : ∀ (kk : Nat) (v : Int), loopDen (slices_Index_string.b0 k) (slices_Index_string.h.H 2) kk (slices_Index_string.s0 v0_0 v0_1 v0_2 v) (slices_Index_string.c0 k a0 a1 K0) = iter (slices_Index_string.l0 k v0_0 v0_1 v0_2 (slices_Index_string.kt a0 a1 K0)) kk v :=
  loop_eq (slices_Index_string.s0 v0_0 v0_1 v0_2) _ (fun L0 v => by kernel_rfl)
noncomputable def slices_Index_string.m {β : Type} (k : Nat) (a0 : List (List D)) (a1 : ByteArray) (K0 : List (List C) → List Out → Option β) (F : ((List (List D)) → ByteArray → Int → Int → Option β)) : Option β :=
  (F) a0 a1 (a0.length : Int) (0)
theorem slices_Index_string.f_eq {β : Type} (k : Nat) (a0 : List (List D)) (a1 : ByteArray) (K0 : List (List C) → List Out → Option β) : funDen Try.prog (slices_Index_string.E k) slices_Index_string.h k Try.f149 (slices_Index_string.as a0 a1) K0 = slices_Index_string.g k a0 a1 (slices_Index_string.kt a0 a1 K0) := Eq.trans (b := (slices_Index_string.m k a0 a1 K0) (fun (v0_0 : List (List D)) (v0_1 : ByteArray) (v0_2 : Int) (v : Int) => loopDen (slices_Index_string.b0 k) (slices_Index_string.h.H 2) k (slices_Index_string.s0 v0_0 v0_1 v0_2 v) (slices_Index_string.c0 k a0 a1 K0))) (by kernel_rfl) (Eq.trans (congrArg (slices_Index_string.m k a0 a1 K0) (funext fun v0_0 => funext fun v0_1 => funext fun v0_2 => funext fun v => slices_Index_string.l0_eq k a0 a1 K0 v0_0 v0_1 v0_2 k v)) (by kernel_rfl))
noncomputable def slices_Index_string.dec (rs : List (List C)) (os : List Out) : Option (Int) := uncons rs fun c1 r2 => uncons c1 fun x3 l4 => cD x3 fun d5 => dInt .i64 d5 fun w0 => atEnd l4 <| atEnd r2 <| atEnd os (some w0)
theorem slices_Index_string.kt_dec (a0 : List (List D)) (a1 : ByteArray) : slices_Index_string.kt a0 a1 slices_Index_string.dec = (fun z0 => some z0) := by kernel_rfl
theorem slices_Index_string.inj (a0 : List (List D)) (a1 : ByteArray) {rs : List (List C)} {os : List Out} {z0 : Int} (h : slices_Index_string.dec rs os = some z0) (ho : OutShape (slices_Index_string.as a0 a1) os) : rs = [[.d (.int .i64 z0)]] ∧ os = [] := by
  unfold slices_Index_string.dec at h
  obtain ⟨c1, r2, rfl, h1⟩ := uncons_some h
  obtain ⟨x3, l4, rfl, h2⟩ := uncons_some h1
  obtain ⟨d5, rfl, h3⟩ := cD_some h2
  obtain ⟨w0, rfl, h4⟩ := dInt_some h3
  obtain ⟨rfl, h5⟩ := atEnd_some h4
  obtain ⟨rfl, h6⟩ := atEnd_some h5
  obtain ⟨rfl, h7⟩ := atEnd_some h6
  obtain rfl := Option.some.inj h7
  exact ⟨rfl, rfl⟩
theorem slices_Index_string.ok (k : Nat) : EntryOK Try.prog 149 (slices_Index_string.e k) := by
  refine entry_of mix tyok (fn := Try.f149) (c := codeOf Try.f149) Try.func149 (by kernel_rfl) (h := slices_Index_string.h) (k := k) (E := slices_Index_string.E k) env_nil (by kernel_rfl) (by kernel_rfl) rfl (enter_of Try.func149 (by kernel_rfl)) ?_
  intro β l K r hr
  simp only [slices_Index_string.e] at hr
  split at hr
  case h_2 => cases hr
  unfold slices_Index_string.f at hr
  split at hr
  case h_2 => cases hr
  rename_i hz
  exact ⟨_, _, hr, _, slices_Index_string.dec, _, (slices_Index_string.f_eq k _ _ slices_Index_string.dec).trans (by rw [slices_Index_string.kt_dec]; exact hz), fun rs os h ho => slices_Index_string.inj _ _ h ho⟩
/-! ### slices.Contains[[]string,string]: function 90 -/
noncomputable def slices_Contains_string.g {β : Type} (k : Nat) (a0 : List (List D)) (a1 : ByteArray) (K : Bool → Option β) : Option β :=
  slices_Index_string.f k a0 a1 (fun y9 => K (decide ((y9 : Int) ≥ 0)))
noncomputable def slices_Contains_string.t (k : Nat) (a0 : List (List D)) (a1 : ByteArray) : Option (Bool) := slices_Contains_string.g k a0 a1 (fun z0 => some z0)
noncomputable def slices_Contains_string.f {β : Type} (k : Nat) (a0 : List (List D)) (a1 : ByteArray) (K : Bool → Option β) : Option β :=
  match slices_Contains_string.t k a0 a1 with
  | some z0 => K z0
  | none => none
noncomputable def slices_Contains_string.as (a0 : List (List D)) (a1 : ByteArray) : List A := [.d (.sl a0), .d (.str a1)]
noncomputable def slices_Contains_string.kt {β : Type} (a0 : List (List D)) (a1 : ByteArray) (K0 : List (List C) → List Out → Option β) : Bool → Option β := fun z0 => K0 [[.d (.bool z0)]] []
noncomputable def slices_Contains_string.e (k : Nat) : Entry := { modes := [(.imm, 0), (.imm, 0)], rts := [4], al := false, run := fun {β} l K => match l with | [.d (.sl a0), .d (.str a1)] => slices_Contains_string.f k a0 a1 (slices_Contains_string.kt a0 a1 K) | _ => none }
noncomputable def slices_Contains_string.E (k : Nat) : Env := fun g => bif g == 149 then some (slices_Index_string.e k) else none
noncomputable def slices_Contains_string.h : Hints := ⟨fun n => ⟨[], []⟩, fun _ => none, false, []⟩
theorem slices_Contains_string.f_eq {β : Type} (k : Nat) (a0 : List (List D)) (a1 : ByteArray) (K0 : List (List C) → List Out → Option β) : funDen Try.prog (slices_Contains_string.E k) slices_Contains_string.h k Try.f90 (slices_Contains_string.as a0 a1) K0 = slices_Contains_string.g k a0 a1 (slices_Contains_string.kt a0 a1 K0) := by kernel_rfl
noncomputable def slices_Contains_string.dec (rs : List (List C)) (os : List Out) : Option (Bool) := uncons rs fun c1 r2 => uncons c1 fun x3 l4 => cD x3 fun d5 => dBool d5 fun w0 => atEnd l4 <| atEnd r2 <| atEnd os (some w0)
theorem slices_Contains_string.kt_dec (a0 : List (List D)) (a1 : ByteArray) : slices_Contains_string.kt a0 a1 slices_Contains_string.dec = (fun z0 => some z0) := by kernel_rfl
theorem slices_Contains_string.inj (a0 : List (List D)) (a1 : ByteArray) {rs : List (List C)} {os : List Out} {z0 : Bool} (h : slices_Contains_string.dec rs os = some z0) (ho : OutShape (slices_Contains_string.as a0 a1) os) : rs = [[.d (.bool z0)]] ∧ os = [] := by
  unfold slices_Contains_string.dec at h
  obtain ⟨c1, r2, rfl, h1⟩ := uncons_some h
  obtain ⟨x3, l4, rfl, h2⟩ := uncons_some h1
  obtain ⟨d5, rfl, h3⟩ := cD_some h2
  obtain ⟨w0, rfl, h4⟩ := dBool_some h3
  obtain ⟨rfl, h5⟩ := atEnd_some h4
  obtain ⟨rfl, h6⟩ := atEnd_some h5
  obtain ⟨rfl, h7⟩ := atEnd_some h6
  obtain rfl := Option.some.inj h7
  exact ⟨rfl, rfl⟩
theorem slices_Contains_string.ok (k : Nat) : EntryOK Try.prog 90 (slices_Contains_string.e k) := by
  refine entry_of mix tyok (fn := Try.f90) (c := codeOf Try.f90) Try.func90 (by kernel_rfl) (h := slices_Contains_string.h) (k := k) (E := slices_Contains_string.E k) (env_cons (slices_Index_string.ok k) env_nil) (by kernel_rfl) (by kernel_rfl) rfl (enter_of Try.func90 (by kernel_rfl)) ?_
  intro β l K r hr
  simp only [slices_Contains_string.e] at hr
  split at hr
  case h_2 => cases hr
  unfold slices_Contains_string.f at hr
  split at hr
  case h_2 => cases hr
  rename_i hz
  exact ⟨_, _, hr, _, slices_Contains_string.dec, _, (slices_Contains_string.f_eq k _ _ slices_Contains_string.dec).trans (by rw [slices_Contains_string.kt_dec]; exact hz), fun rs os h ho => slices_Contains_string.inj _ _ h ho⟩
/-! ### loop.example/g00119/impl.holds: function 169 -/
noncomputable def impl_holds.g {β : Type} (k : Nat) (a0_0 : Int) (a0_1 : ByteArray) (a0_2 : List (List D)) (a1 : List (List D)) (K : Bool → Option β) : Option β :=
  impl_LabelGet.f k a1 a0_1 (fun y15 y16 => bif y16 then (slices_Contains_string.f k a0_2 y15 (fun y17 => bif ((a0_0 : Int) == 1) then (bif ((a0_0 : Int) == 1) then (K y17) else (bif ((a0_0 : Int) == 2) then (K (!y17)) else (bif ((a0_0 : Int) == 4) then (K y16) else (K (!y16))))) else (bif ((a0_0 : Int) == 3) then (K y17) else (bif ((a0_0 : Int) == 2) then (K (!y17)) else (bif ((a0_0 : Int) == 4) then (K y16) else (K (!y16))))))) else (bif ((a0_0 : Int) == 1) then (bif ((a0_0 : Int) == 1) then (K false) else (bif ((a0_0 : Int) == 2) then (K true) else (bif ((a0_0 : Int) == 4) then (K y16) else (K (!y16))))) else (bif ((a0_0 : Int) == 3) then (K false) else (bif ((a0_0 : Int) == 2) then (K true) else (bif ((a0_0 : Int) == 4) then (K y16) else (K (!y16)))))))
noncomputable def impl_holds.t (k : Nat) (a0_0 : Int) (a0_1 : ByteArray) (a0_2 : List (List D)) (a1 : List (List D)) : Option (Bool) := impl_holds.g k a0_0 a0_1 a0_2 a1 (fun z0 => some z0)
noncomputable def impl_holds.f {β : Type} (k : Nat) (a0_0 : Int) (a0_1 : ByteArray) (a0_2 : List (List D)) (a1 : List (List D)) (K : Bool → Option β) : Option β :=
  match impl_holds.t k a0_0 a0_1 a0_2 a1 with
  | some z0 => K z0
  | none => none
noncomputable def impl_holds.as (a0_0 : Int) (a0_1 : ByteArray) (a0_2 : List (List D)) (a1 : List (List D)) : List A := [.agg [.int .i64 a0_0, .str a0_1, .sl a0_2], .d (.sl a1)]
noncomputable def impl_holds.kt {β : Type} (a0_0 : Int) (a0_1 : ByteArray) (a0_2 : List (List D)) (a1 : List (List D)) (K0 : List (List C) → List Out → Option β) : Bool → Option β := fun z0 => K0 [[.d (.bool z0)]] []
noncomputable def impl_holds.e (k : Nat) : Entry := { modes := [(.imm, 0), (.imm, 0)], rts := [4], al := false, run := fun {β} l K => match l with | [.agg [.int .i64 a0_0, .str a0_1, .sl a0_2], .d (.sl a1)] => impl_holds.f k a0_0 a0_1 a0_2 a1 (impl_holds.kt a0_0 a0_1 a0_2 a1 K) | _ => none }
noncomputable def impl_holds.E (k : Nat) : Env := fun g => bif g == 195 then some (impl_LabelGet.e k) else bif g == 90 then some (slices_Contains_string.e k) else none
noncomputable def impl_holds.h : Hints := ⟨fun n => ⟨[], []⟩, fun _ => none, false, []⟩
theorem impl_holds.f_eq {β : Type} (k : Nat) (a0_0 : Int) (a0_1 : ByteArray) (a0_2 : List (List D)) (a1 : List (List D)) (K0 : List (List C) → List Out → Option β) : funDen Try.prog (impl_holds.E k) impl_holds.h k Try.f169 (impl_holds.as a0_0 a0_1 a0_2 a1) K0 = impl_holds.g k a0_0 a0_1 a0_2 a1 (impl_holds.kt a0_0 a0_1 a0_2 a1 K0) := by kernel_rfl
noncomputable def impl_holds.dec (rs : List (List C)) (os : List Out) : Option (Bool) := uncons rs fun c1 r2 => uncons c1 fun x3 l4 => cD x3 fun d5 => dBool d5 fun w0 => atEnd l4 <| atEnd r2 <| atEnd os (some w0)
theorem impl_holds.kt_dec (a0_0 : Int) (a0_1 : ByteArray) (a0_2 : List (List D)) (a1 : List (List D)) : impl_holds.kt a0_0 a0_1 a0_2 a1 impl_holds.dec = (fun z0 => some z0) := by kernel_rfl
theorem impl_holds.inj (a0_0 : Int) (a0_1 : ByteArray) (a0_2 : List (List D)) (a1 : List (List D)) {rs : List (List C)} {os : List Out} {z0 : Bool} (h : impl_holds.dec rs os = some z0) (ho : OutShape (impl_holds.as a0_0 a0_1 a0_2 a1) os) : rs = [[.d (.bool z0)]] ∧ os = [] := by
  unfold impl_holds.dec at h
  obtain ⟨c1, r2, rfl, h1⟩ := uncons_some h
  obtain ⟨x3, l4, rfl, h2⟩ := uncons_some h1
  obtain ⟨d5, rfl, h3⟩ := cD_some h2
  obtain ⟨w0, rfl, h4⟩ := dBool_some h3
  obtain ⟨rfl, h5⟩ := atEnd_some h4
  obtain ⟨rfl, h6⟩ := atEnd_some h5
  obtain ⟨rfl, h7⟩ := atEnd_some h6
  obtain rfl := Option.some.inj h7
  exact ⟨rfl, rfl⟩
theorem impl_holds.ok (k : Nat) : EntryOK Try.prog 169 (impl_holds.e k) := by
  refine entry_of mix tyok (fn := Try.f169) (c := codeOf Try.f169) Try.func169 (by kernel_rfl) (h := impl_holds.h) (k := k) (E := impl_holds.E k) (env_cons (impl_LabelGet.ok k) (env_cons (slices_Contains_string.ok k) env_nil)) (by kernel_rfl) (by kernel_rfl) rfl (enter_of Try.func169 (by kernel_rfl)) ?_
  intro β l K r hr
  simp only [impl_holds.e] at hr
  split at hr
  case h_2 => cases hr
  unfold impl_holds.f at hr
  split at hr
  case h_2 => cases hr
  rename_i hz
  exact ⟨_, _, hr, _, impl_holds.dec, _, (impl_holds.f_eq k _ _ _ _ impl_holds.dec).trans (by rw [impl_holds.kt_dec]; exact hz), fun rs os h ho => impl_holds.inj _ _ _ _ h ho⟩
/-! ### loop.example/g00119/impl.Matches$1: function 168 -/
noncomputable def impl_Matches_1.g {β : Type} (k : Nat) (a0_0 : Int) (a0_1 : ByteArray) (a0_2 : List (List D)) (f0_0 : List (List D)) (K : Bool → Option β) : Option β :=
  impl_holds.f k a0_0 a0_1 a0_2 f0_0 (fun y18 => K (!y18))
noncomputable def impl_Matches_1.t (k : Nat) (a0_0 : Int) (a0_1 : ByteArray) (a0_2 : List (List D)) (f0_0 : List (List D)) : Option (Bool) := impl_Matches_1.g k a0_0 a0_1 a0_2 f0_0 (fun z0 => some z0)
noncomputable def impl_Matches_1.f {β : Type} (k : Nat) (a0_0 : Int) (a0_1 : ByteArray) (a0_2 : List (List D)) (f0_0 : List (List D)) (K : Bool → Option β) : Option β :=
  match impl_Matches_1.t k a0_0 a0_1 a0_2 f0_0 with
  | some z0 => K z0
  | none => none
noncomputable def impl_Matches_1.as (a0_0 : Int) (a0_1 : ByteArray) (a0_2 : List (List D)) (f0_0 : List (List D)) : List A := [.agg [.int .i64 a0_0, .str a0_1, .sl a0_2], .ip [.sl f0_0]]
noncomputable def impl_Matches_1.kt {β : Type} (a0_0 : Int) (a0_1 : ByteArray) (a0_2 : List (List D)) (f0_0 : List (List D)) (K0 : List (List C) → List Out → Option β) : Bool → Option β := fun z0 => K0 [[.d (.bool z0)]] []
noncomputable def impl_Matches_1.e (k : Nat) : Entry := { modes := [(.imm, 0), (.imm, 0)], rts := [4], al := false, run := fun {β} l K => match l with | [.agg [.int .i64 a0_0, .str a0_1, .sl a0_2], .ip [.sl f0_0]] => impl_Matches_1.f k a0_0 a0_1 a0_2 f0_0 (impl_Matches_1.kt a0_0 a0_1 a0_2 f0_0 K) | _ => none }
noncomputable def impl_Matches_1.E (k : Nat) : Env := fun g => bif g == 169 then some (impl_holds.e k) else none
noncomputable def impl_Matches_1.h : Hints := ⟨fun n => ⟨[], []⟩, fun _ => none, false, []⟩
theorem impl_Matches_1.f_eq {β : Type} (k : Nat) (a0_0 : Int) (a0_1 : ByteArray) (a0_2 : List (List D)) (f0_0 : List (List D)) (K0 : List (List C) → List Out → Option β) : funDen Try.prog (impl_Matches_1.E k) impl_Matches_1.h k Try.f168 (impl_Matches_1.as a0_0 a0_1 a0_2 f0_0) K0 = impl_Matches_1.g k a0_0 a0_1 a0_2 f0_0 (impl_Matches_1.kt a0_0 a0_1 a0_2 f0_0 K0) := by kernel_rfl
noncomputable def impl_Matches_1.dec (rs : List (List C)) (os : List Out) : Option (Bool) := uncons rs fun c1 r2 => uncons c1 fun x3 l4 => cD x3 fun d5 => dBool d5 fun w0 => atEnd l4 <| atEnd r2 <| atEnd os (some w0)
theorem impl_Matches_1.kt_dec (a0_0 : Int) (a0_1 : ByteArray) (a0_2 : List (List D)) (f0_0 : List (List D)) : impl_Matches_1.kt a0_0 a0_1 a0_2 f0_0 impl_Matches_1.dec = (fun z0 => some z0) := by kernel_rfl
theorem impl_Matches_1.inj (a0_0 : Int) (a0_1 : ByteArray) (a0_2 : List (List D)) (f0_0 : List (List D)) {rs : List (List C)} {os : List Out} {z0 : Bool} (h : impl_Matches_1.dec rs os = some z0) (ho : OutShape (impl_Matches_1.as a0_0 a0_1 a0_2 f0_0) os) : rs = [[.d (.bool z0)]] ∧ os = [] := by
  unfold impl_Matches_1.dec at h
  obtain ⟨c1, r2, rfl, h1⟩ := uncons_some h
  obtain ⟨x3, l4, rfl, h2⟩ := uncons_some h1
  obtain ⟨d5, rfl, h3⟩ := cD_some h2
  obtain ⟨w0, rfl, h4⟩ := dBool_some h3
  obtain ⟨rfl, h5⟩ := atEnd_some h4
  obtain ⟨rfl, h6⟩ := atEnd_some h5
  obtain ⟨rfl, h7⟩ := atEnd_some h6
  obtain rfl := Option.some.inj h7
  exact ⟨rfl, rfl⟩
theorem impl_Matches_1.ok (k : Nat) : EntryOK Try.prog 168 (impl_Matches_1.e k) := by
  refine entry_of mix tyok (fn := Try.f168) (c := codeOf Try.f168) Try.func168 (by kernel_rfl) (h := impl_Matches_1.h) (k := k) (E := impl_Matches_1.E k) (env_cons (impl_holds.ok k) env_nil) (by kernel_rfl) (by kernel_rfl) rfl (enter_of Try.func168 (by kernel_rfl)) ?_
  intro β l K r hr
  simp only [impl_Matches_1.e] at hr
  split at hr
  case h_2 => cases hr
  unfold impl_Matches_1.f at hr
  split at hr
  case h_2 => cases hr
  rename_i hz
  exact ⟨_, _, hr, _, impl_Matches_1.dec, _, (impl_Matches_1.f_eq k _ _ _ _ impl_Matches_1.dec).trans (by rw [impl_Matches_1.kt_dec]; exact hz), fun rs os h ho => impl_Matches_1.inj _ _ _ _ h ho⟩
/-! ### slices.IndexFunc[[]loop.example/g00119/impl.Term,loop.example/g00119/impl.Term]: function 188 -/
noncomputable def slices_IndexFunc_impl_Term__impl_Matches_1.l0 {β : Type} (k : Nat) (v0_0 : List (List D)) (v0_1 : List (List D)) (v0_2 : Int) (K : Int → Option β) (L0 : Int → Option β) (v : Int) : Option β :=
  match v with
  | v0_3 => bif (decide ((v0_3 : Int) < v0_2)) then (atRow v0_0 v0_3 fun c20 => uncons c20 fun d21 r22 => dInt .i64 d21 fun x23 => uncons r22 fun d24 r25 => dStr d24 fun x26 => uncons r25 fun d27 r28 => dSl d27 fun x29 => atEnd r28 (impl_Matches_1.f k x23 x26 x29 v0_1 (fun y30 => bif y30 then (K v0_3) else (L0 (IntKind.wrap .i64 (v0_3 + 1)))))) else (K (-1))
noncomputable def slices_IndexFunc_impl_Term__impl_Matches_1.g {β : Type} (k : Nat) (a0 : List (List D)) (a1_0_0 : List (List D)) (K : Int → Option β) : Option β :=
  iter (slices_IndexFunc_impl_Term__impl_Matches_1.l0 k a0 a1_0_0 (a0.length : Int) K) k (0)
noncomputable def slices_IndexFunc_impl_Term__impl_Matches_1.t (k : Nat) (a0 : List (List D)) (a1_0_0 : List (List D)) : Option (Int) := slices_IndexFunc_impl_Term__impl_Matches_1.g k a0 a1_0_0 (fun z0 => some z0)
noncomputable def slices_IndexFunc_impl_Term__impl_Matches_1.f {β : Type} (k : Nat) (a0 : List (List D)) (a1_0_0 : List (List D)) (K : Int → Option β) : Option β :=
  match slices_IndexFunc_impl_Term__impl_Matches_1.t k a0 a1_0_0 with
  | some z0 => K z0
  | none => none
noncomputable def slices_IndexFunc_impl_Term__impl_Matches_1.as (a0 : List (List D)) (a1_0_0 : List (List D)) : List A := [.d (.sl a0), .d (.fn 168 [[.sl a1_0_0]])]
noncomputable def slices_IndexFunc_impl_Term__impl_Matches_1.kt {β : Type} (a0 : List (List D)) (a1_0_0 : List (List D)) (K0 : List (List C) → List Out → Option β) : Int → Option β := fun z0 => K0 [[.d (.int .i64 z0)]] []
noncomputable def slices_IndexFunc_impl_Term__impl_Matches_1.e (k : Nat) : Entry := { modes := [(.imm, 0), (.imm, 0)], rts := [3], al := false, run := fun {β} l K => match l with | [.d (.sl a0), .d (.fn 168 [[.sl a1_0_0]])] => slices_IndexFunc_impl_Term__impl_Matches_1.f k a0 a1_0_0 (slices_IndexFunc_impl_Term__impl_Matches_1.kt a0 a1_0_0 K) | _ => none }
noncomputable def slices_IndexFunc_impl_Term__impl_Matches_1.E (k : Nat) : Env := fun g => bif g == 168 then some (impl_Matches_1.e k) else none
noncomputable def slices_IndexFunc_impl_Term__impl_Matches_1.h : Hints := ⟨fun n => bif n == 2 then ⟨[(0, .asis), (1, .asis), (7, .asis), (8, .asis)], []⟩ else ⟨[], []⟩, fun _ => none, false, []⟩
noncomputable def slices_IndexFunc_impl_Term__impl_Matches_1.s0 (v0_0 : List (List D)) (v0_1 : List (List D)) (v0_2 : Int) (v : Int) : St :=
  match v with
  | v0_3 => ⟨[.d false (.sl v0_0), .d false (.fn 168 [[.sl v0_1]]), .any, .any, .any, .any, .any, .d true (.int .i64 v0_2), .d true (.int .i64 v0_3), .any, .any, .any, .any, .any, .any, .any, .any, .any, .any], []⟩
noncomputable def slices_IndexFunc_impl_Term__impl_Matches_1.b0 {β : Type} (k : Nat) : St → (Ex → St → Option β) → Option β := fun s K => den Try.prog (slices_IndexFunc_impl_Term__impl_Matches_1.E k) slices_IndexFunc_impl_Term__impl_Matches_1.h.H slices_IndexFunc_impl_Term__impl_Matches_1.h.J k (codeAt [1, 0, 1, 0, 0] (codeOf Try.f188)) s K
noncomputable def slices_IndexFunc_impl_Term__impl_Matches_1.c0 {β : Type} (k : Nat) (a0 : List (List D)) (a1_0_0 : List (List D)) (K0 : List (List C) → List Out → Option β) : Ex → St → Option β := contAt Try.prog (slices_IndexFunc_impl_Term__impl_Matches_1.E k) slices_IndexFunc_impl_Term__impl_Matches_1.h k [1, 0, 1, 0] (codeOf Try.f188) (finDen Try.prog Try.f188 slices_IndexFunc_impl_Term__impl_Matches_1.h (slices_IndexFunc_impl_Term__impl_Matches_1.as a0 a1_0_0) K0)
theorem slices_IndexFunc_impl_Term__impl_Matches_1.l0_eq {β : Type} (k : Nat) (a0 : List (List D)) (a1_0_0 : List (List D)) (K0 : List (List C) → List Out → Option β) (v0_0 : List (List D)) (v0_1 : List (List D)) (v0_2 : Int) : ∀ (kk : Nat) (v : Int), loopDen (slices_IndexFunc_impl_Term__impl_Matches_1.b0 k) (slices_IndexFunc_impl_Term__impl_Matches_1.h.H 2) kk (slices_IndexFunc_impl_Term__impl_Matches_1.s0 v0_0 v0_1 v0_2 v) (slices_IndexFunc_impl_Term__impl_Matches_1.c0 k a0 a1_0_0 K0) = iter (slices_IndexFunc_impl_Term__impl_Matches_1.l0 k v0_0 v0_1 v0_2 (slices_IndexFunc_impl_Term__impl_Matches_1.kt a0 a1_0_0 K0)) kk v :=
  loop_eq (slices_IndexFunc_impl_Term__impl_Matches_1.s0 v0_0 v0_1 v0_2) _ (fun L0 v => by kernel_rfl)
noncomputable def slices_IndexFunc_impl_Term__impl_Matches_1.m {β : Type} (k : Nat) (a0 : List (List D)) (a1_0_0 : List (List D)) (K0 : List (List C) → List Out → Option β) (F : ((List (List D)) → (List (List D)) → Int → Int → Option β)) : Option β :=
  (F) a0 a1_0_0 (a0.length : Int) (0)
theorem slices_IndexFunc_impl_Term__impl_Matches_1.f_eq {β : Type} (k : Nat) (a0 : List (List D)) (a1_0_0 : List (List D)) (K0 : List (List C) → List Out → Option β) : funDen Try.prog (slices_IndexFunc_impl_Term__impl_Matches_1.E k) slices_IndexFunc_impl_Term__impl_Matches_1.h k Try.f188 (slices_IndexFunc_impl_Term__impl_Matches_1.as a0 a1_0_0) K0 = slices_IndexFunc_impl_Term__impl_Matches_1.g k a0 a1_0_0 (slices_IndexFunc_impl_Term__impl_Matches_1.kt a0 a1_0_0 K0) := Eq.trans (b := (slices_IndexFunc_impl_Term__impl_Matches_1.m k a0 a1_0_0 K0) (fun (v0_0 : List (List D)) (v0_1 : List (List D)) (v0_2 : Int) (v : Int) => loopDen (slices_IndexFunc_impl_Term__impl_Matches_1.b0 k) (slices_IndexFunc_impl_Term__impl_Matches_1.h.H 2) k (slices_IndexFunc_impl_Term__impl_Matches_1.s0 v0_0 v0_1 v0_2 v) (slices_IndexFunc_impl_Term__impl_Matches_1.c0 k a0 a1_0_0 K0))) (by kernel_rfl) (Eq.trans (congrArg (slices_IndexFunc_impl_Term__impl_Matches_1.m k a0 a1_0_0 K0) (funext fun v0_0 => funext fun v0_1 => funext fun v0_2 => funext fun v => slices_IndexFunc_impl_Term__impl_Matches_1.l0_eq k a0 a1_0_0 K0 v0_0 v0_1 v0_2 k v)) (by kernel_rfl))
noncomputable def slices_IndexFunc_impl_Term__impl_Matches_1.dec (rs : List (List C)) (os : List Out) : Option (Int) := uncons rs fun c1 r2 => uncons c1 fun x3 l4 => cD x3 fun d5 => dInt .i64 d5 fun w0 => atEnd l4 <| atEnd r2 <| atEnd os (some w0)
theorem slices_IndexFunc_impl_Term__impl_Matches_1.kt_dec (a0 : List (List D)) (a1_0_0 : List (List D)) : slices_IndexFunc_impl_Term__impl_Matches_1.kt a0 a1_0_0 slices_IndexFunc_impl_Term__impl_Matches_1.dec = (fun z0 => some z0) := by kernel_rfl
theorem slices_IndexFunc_impl_Term__impl_Matches_1.inj (a0 : List (List D)) (a1_0_0 : List (List D)) {rs : List (List C)} {os : List Out} {z0 : Int} (h : slices_IndexFunc_impl_Term__impl_Matches_1.dec rs os = some z0) (ho : OutShape (slices_IndexFunc_impl_Term__impl_Matches_1.as a0 a1_0_0) os) : rs = [[.d (.int .i64 z0)]] ∧ os = [] := by
  unfold slices_IndexFunc_impl_Term__impl_Matches_1.dec at h
  obtain ⟨c1, r2, rfl, h1⟩ := uncons_some h
  obtain ⟨x3, l4, rfl, h2⟩ := uncons_some h1
  obtain ⟨d5, rfl, h3⟩ := cD_some h2
  obtain ⟨w0, rfl, h4⟩ := dInt_some h3
  obtain ⟨rfl, h5⟩ := atEnd_some h4
  obtain ⟨rfl, h6⟩ := atEnd_some h5
  obtain ⟨rfl, h7⟩ := atEnd_some h6
  obtain rfl := Option.some.inj h7
  exact ⟨rfl, rfl⟩
theorem slices_IndexFunc_impl_Term__impl_Matches_1.ok (k : Nat) : EntryOK Try.prog 188 (slices_IndexFunc_impl_Term__impl_Matches_1.e k) := by
  refine entry_of mix tyok (fn := Try.f188) (c := codeOf Try.f188) Try.func188 (by kernel_rfl) (h := slices_IndexFunc_impl_Term__impl_Matches_1.h) (k := k) (E := slices_IndexFunc_impl_Term__impl_Matches_1.E k) (env_cons (impl_Matches_1.ok k) env_nil) (by kernel_rfl) (by kernel_rfl) rfl (enter_of Try.func188 (by kernel_rfl)) ?_
  intro β l K r hr
  simp only [slices_IndexFunc_impl_Term__impl_Matches_1.e] at hr
  split at hr
  case h_2 => cases hr
  unfold slices_IndexFunc_impl_Term__impl_Matches_1.f at hr
  split at hr
  case h_2 => cases hr
  rename_i hz
  exact ⟨_, _, hr, _, slices_IndexFunc_impl_Term__impl_Matches_1.dec, _, (slices_IndexFunc_impl_Term__impl_Matches_1.f_eq k _ _ slices_IndexFunc_impl_Term__impl_Matches_1.dec).trans (by rw [slices_IndexFunc_impl_Term__impl_Matches_1.kt_dec]; exact hz), fun rs os h ho => slices_IndexFunc_impl_Term__impl_Matches_1.inj _ _ h ho⟩
/-! ### slices.ContainsFunc[[]loop.example/g00119/impl.Term,loop.example/g00119/impl.Term]: function 156 -/
noncomputable def slices_ContainsFunc_impl_Term__impl_Matches_1.g {β : Type} (k : Nat) (a0 : List (List D)) (a1_0_0 : List (List D)) (K : Bool → Option β) : Option β :=
  slices_IndexFunc_impl_Term__impl_Matches_1.f k a0 a1_0_0 (fun y31 => K (decide ((y31 : Int) ≥ 0)))
noncomputable def slices_ContainsFunc_impl_Term__impl_Matches_1.t (k : Nat) (a0 : List (List D)) (a1_0_0 : List (List D)) : Option (Bool) := slices_ContainsFunc_impl_Term__impl_Matches_1.g k a0 a1_0_0 (fun z0 => some z0)
noncomputable def slices_ContainsFunc_impl_Term__impl_Matches_1.f {β : Type} (k : Nat) (a0 : List (List D)) (a1_0_0 : List (List D)) (K : Bool → Option β) : Option β :=
  match slices_ContainsFunc_impl_Term__impl_Matches_1.t k a0 a1_0_0 with
  | some z0 => K z0
  | none => none
noncomputable def slices_ContainsFunc_impl_Term__impl_Matches_1.as (a0 : List (List D)) (a1_0_0 : List (List D)) : List A := [.d (.sl a0), .d (.fn 168 [[.sl a1_0_0]])]
noncomputable def slices_ContainsFunc_impl_Term__impl_Matches_1.kt {β : Type} (a0 : List (List D)) (a1_0_0 : List (List D)) (K0 : List (List C) → List Out → Option β) : Bool → Option β := fun z0 => K0 [[.d (.bool z0)]] []
noncomputable def slices_ContainsFunc_impl_Term__impl_Matches_1.e (k : Nat) : Entry := { modes := [(.imm, 0), (.imm, 0)], rts := [4], al := false, run := fun {β} l K => match l with | [.d (.sl a0), .d (.fn 168 [[.sl a1_0_0]])] => slices_ContainsFunc_impl_Term__impl_Matches_1.f k a0 a1_0_0 (slices_ContainsFunc_impl_Term__impl_Matches_1.kt a0 a1_0_0 K) | _ => none }
noncomputable def slices_ContainsFunc_impl_Term__impl_Matches_1.E (k : Nat) : Env := fun g => bif g == 188 then some (slices_IndexFunc_impl_Term__impl_Matches_1.e k) else none
noncomputable def slices_ContainsFunc_impl_Term__impl_Matches_1.h : Hints := ⟨fun n => ⟨[], []⟩, fun _ => none, false, []⟩
theorem slices_ContainsFunc_impl_Term__impl_Matches_1.f_eq {β : Type} (k : Nat) (a0 : List (List D)) (a1_0_0 : List (List D)) (K0 : List (List C) → List Out → Option β) : funDen Try.prog (slices_ContainsFunc_impl_Term__impl_Matches_1.E k) slices_ContainsFunc_impl_Term__impl_Matches_1.h k Try.f156 (slices_ContainsFunc_impl_Term__impl_Matches_1.as a0 a1_0_0) K0 = slices_ContainsFunc_impl_Term__impl_Matches_1.g k a0 a1_0_0 (slices_ContainsFunc_impl_Term__impl_Matches_1.kt a0 a1_0_0 K0) := by kernel_rfl
noncomputable def slices_ContainsFunc_impl_Term__impl_Matches_1.dec (rs : List (List C)) (os : List Out) : Option (Bool) := uncons rs fun c1 r2 => uncons c1 fun x3 l4 => cD x3 fun d5 => dBool d5 fun w0 => atEnd l4 <| atEnd r2 <| atEnd os (some w0)
theorem slices_ContainsFunc_impl_Term__impl_Matches_1.kt_dec (a0 : List (List D)) (a1_0_0 : List (List D)) : slices_ContainsFunc_impl_Term__impl_Matches_1.kt a0 a1_0_0 slices_ContainsFunc_impl_Term__impl_Matches_1.dec = (fun z0 => some z0) := by kernel_rfl
theorem slices_ContainsFunc_impl_Term__impl_Matches_1.inj (a0 : List (List D)) (a1_0_0 : List (List D)) {rs : List (List C)} {os : List Out} {z0 : Bool} (h : slices_ContainsFunc_impl_Term__impl_Matches_1.dec rs os = some z0) (ho : OutShape (slices_ContainsFunc_impl_Term__impl_Matches_1.as a0 a1_0_0) os) : rs = [[.d (.bool z0)]] ∧ os = [] := by
  unfold slices_ContainsFunc_impl_Term__impl_Matches_1.dec at h
  obtain ⟨c1, r2, rfl, h1⟩ := uncons_some h
  obtain ⟨x3, l4, rfl, h2⟩ := uncons_some h1
  obtain ⟨d5, rfl, h3⟩ := cD_some h2
  obtain ⟨w0, rfl, h4⟩ := dBool_some h3
  obtain ⟨rfl, h5⟩ := atEnd_some h4
  obtain ⟨rfl, h6⟩ := atEnd_some h5
  obtain ⟨rfl, h7⟩ := atEnd_some h6
  obtain rfl := Option.some.inj h7
  exact ⟨rfl, rfl⟩
theorem slices_ContainsFunc_impl_Term__impl_Matches_1.ok (k : Nat) : EntryOK Try.prog 156 (slices_ContainsFunc_impl_Term__impl_Matches_1.e k) := by
  refine entry_of mix tyok (fn := Try.f156) (c := codeOf Try.f156) Try.func156 (by kernel_rfl) (h := slices_ContainsFunc_impl_Term__impl_Matches_1.h) (k := k) (E := slices_ContainsFunc_impl_Term__impl_Matches_1.E k) (env_cons (slices_IndexFunc_impl_Term__impl_Matches_1.ok k) env_nil) (by kernel_rfl) (by kernel_rfl) rfl (enter_of Try.func156 (by kernel_rfl)) ?_
  intro β l K r hr
  simp only [slices_ContainsFunc_impl_Term__impl_Matches_1.e] at hr
  split at hr
  case h_2 => cases hr
  unfold slices_ContainsFunc_impl_Term__impl_Matches_1.f at hr
  split at hr
  case h_2 => cases hr
  rename_i hz
  exact ⟨_, _, hr, _, slices_ContainsFunc_impl_Term__impl_Matches_1.dec, _, (slices_ContainsFunc_impl_Term__impl_Matches_1.f_eq k _ _ slices_ContainsFunc_impl_Term__impl_Matches_1.dec).trans (by rw [slices_ContainsFunc_impl_Term__impl_Matches_1.kt_dec]; exact hz), fun rs os h ho => slices_ContainsFunc_impl_Term__impl_Matches_1.inj _ _ h ho⟩
/-! ### loop.example/g00119/impl.Matches: function 115 -/
noncomputable def impl_Matches.g {β : Type} (k : Nat) (a0 : List (List D)) (a1 : List (List D)) (K : Bool → Option β) : Option β :=
  impl_SelectorOk.f k a0 (fun y1 => bif y1 then (impl_LabelsOk.f k a1 (fun y2 => bif y2 then (slices_ContainsFunc_impl_Term__impl_Matches_1.f k a0 a1 (fun y32 => K (!y32))) else (K false))) else (K false))
noncomputable def impl_Matches.t (k : Nat) (a0 : List (List D)) (a1 : List (List D)) : Option (Bool) := impl_Matches.g k a0 a1 (fun z0 => some z0)
noncomputable def impl_Matches.f {β : Type} (k : Nat) (a0 : List (List D)) (a1 : List (List D)) (K : Bool → Option β) : Option β :=
  match impl_Matches.t k a0 a1 with
  | some z0 => K z0
  | none => none
noncomputable def impl_Matches.as (a0 : List (List D)) (a1 : List (List D)) : List A := [.d (.sl a0), .d (.sl a1)]
noncomputable def impl_Matches.kt {β : Type} (a0 : List (List D)) (a1 : List (List D)) (K0 : List (List C) → List Out → Option β) : Bool → Option β := fun z0 => K0 [[.d (.bool z0)]] []
noncomputable def impl_Matches.e (k : Nat) : Entry := { modes := [(.imm, 0), (.imm, 0)], rts := [4], al := false, run := fun {β} l K => match l with | [.d (.sl a0), .d (.sl a1)] => impl_Matches.f k a0 a1 (impl_Matches.kt a0 a1 K) | _ => none }
noncomputable def impl_Matches.E (k : Nat) : Env := fun g => bif g == 99 then some (impl_SelectorOk.e k) else bif g == 73 then some (impl_LabelsOk.e k) else bif g == 156 then some (slices_ContainsFunc_impl_Term__impl_Matches_1.e k) else none
noncomputable def impl_Matches.h : Hints := ⟨fun n => ⟨[], []⟩, fun _ => none, false, []⟩
theorem impl_Matches.f_eq {β : Type} (k : Nat) (a0 : List (List D)) (a1 : List (List D)) (K0 : List (List C) → List Out → Option β) : funDen Try.prog (impl_Matches.E k) impl_Matches.h k Try.f115 (impl_Matches.as a0 a1) K0 = impl_Matches.g k a0 a1 (impl_Matches.kt a0 a1 K0) := by kernel_rfl
noncomputable def impl_Matches.dec (rs : List (List C)) (os : List Out) : Option (Bool) := uncons rs fun c1 r2 => uncons c1 fun x3 l4 => cD x3 fun d5 => dBool d5 fun w0 => atEnd l4 <| atEnd r2 <| atEnd os (some w0)
theorem impl_Matches.kt_dec (a0 : List (List D)) (a1 : List (List D)) : impl_Matches.kt a0 a1 impl_Matches.dec = (fun z0 => some z0) := by kernel_rfl
theorem impl_Matches.inj (a0 : List (List D)) (a1 : List (List D)) {rs : List (List C)} {os : List Out} {z0 : Bool} (h : impl_Matches.dec rs os = some z0) (ho : OutShape (impl_Matches.as a0 a1) os) : rs = [[.d (.bool z0)]] ∧ os = [] := by
  unfold impl_Matches.dec at h
  obtain ⟨c1, r2, rfl, h1⟩ := uncons_some h
  obtain ⟨x3, l4, rfl, h2⟩ := uncons_some h1
  obtain ⟨d5, rfl, h3⟩ := cD_some h2
  obtain ⟨w0, rfl, h4⟩ := dBool_some h3
  obtain ⟨rfl, h5⟩ := atEnd_some h4
  obtain ⟨rfl, h6⟩ := atEnd_some h5
  obtain ⟨rfl, h7⟩ := atEnd_some h6
  obtain rfl := Option.some.inj h7
  exact ⟨rfl, rfl⟩
theorem impl_Matches.ok (k : Nat) : EntryOK Try.prog 115 (impl_Matches.e k) := by
  refine entry_of mix tyok (fn := Try.f115) (c := codeOf Try.f115) Try.func115 (by kernel_rfl) (h := impl_Matches.h) (k := k) (E := impl_Matches.E k) (env_cons (impl_SelectorOk.ok k) (env_cons (impl_LabelsOk.ok k) (env_cons (slices_ContainsFunc_impl_Term__impl_Matches_1.ok k) env_nil))) (by kernel_rfl) (by kernel_rfl) rfl (enter_of Try.func115 (by kernel_rfl)) ?_
  intro β l K r hr
  simp only [impl_Matches.e] at hr
  split at hr
  case h_2 => cases hr
  unfold impl_Matches.f at hr
  split at hr
  case h_2 => cases hr
  rename_i hz
  exact ⟨_, _, hr, _, impl_Matches.dec, _, (impl_Matches.f_eq k _ _ impl_Matches.dec).trans (by rw [impl_Matches.kt_dec]; exact hz), fun rs os h ho => impl_Matches.inj _ _ h ho⟩
end Go.Proofs.Ytnlhhhkeigjnoaa
