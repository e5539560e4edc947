/- Printed: the functions that FnExactWantOk reaches, read by the evaluator, each with its contract. -/
import Derived.Test.YtnlhhhkeigjnoaaTVal
import Derived.Test.YtnlhhhkeigjnoaaProg
import Derived.KernelRfl
set_option linter.unusedVariables false
set_option linter.unusedSimpArgs false
namespace Go.Proofs.Ytnlhhhkeigjnoaa
open Go Go.T Go.Proofs
theorem mix : Try.prog.follows .mixedOrders = true := by kernel_rfl
theorem tyok : TyOk Try.prog := tyOk_of (by kernel_rfl)
/-! ### loop.example/g00119/laws.szStringS: function 65 -/
noncomputable def laws_szStringS.l0 {β : Type} (k : Nat) (v0_0 : List (List D)) (K : Int → Option β) (L0 : (Int × Int) → Option β) (v : Int × Int) : Option β :=
  match v with
  | (v0_1, v0_2) => bif (decide ((v0_2 : Int) < (v0_0.length : Int))) then (atRow v0_0 v0_2 fun c5 => uncons c5 fun d6 r7 => dStr d6 fun x8 => atEnd r7 (bif (decide (((IntKind.wrap .i64 (v0_1 - (x8.size : Int))) : Int) < 0)) then (K (-1)) else (L0 (IntKind.wrap .i64 (v0_1 - (x8.size : Int)), IntKind.wrap .i64 (v0_2 + 1))))) else (K v0_1)
noncomputable def laws_szStringS.g {β : Type} (k : Nat) (a0 : List (List D)) (a1 : Int) (K : Int → Option β) : Option β :=
  bif (decide (((IntKind.wrap .i64 (a1 - (a0.length : Int))) : Int) < 0)) then (K (-1)) else (iter (laws_szStringS.l0 k a0 K) k (IntKind.wrap .i64 (a1 - (a0.length : Int)), 0))
noncomputable def laws_szStringS.t (k : Nat) (a0 : List (List D)) (a1 : Int) : Option (Int) := laws_szStringS.g k a0 a1 (fun z0 => some z0)
noncomputable def laws_szStringS.f {β : Type} (k : Nat) (a0 : List (List D)) (a1 : Int) (K : Int → Option β) : Option β :=
  match laws_szStringS.t k a0 a1 with
  | some z0 => K z0
  | none => none
noncomputable def laws_szStringS.as (a0 : List (List D)) (a1 : Int) : List A := [.d (.sl a0), .d (.int .i64 a1)]
noncomputable def laws_szStringS.kt {β : Type} (a0 : List (List D)) (a1 : Int) (K0 : List (List C) → List Out → Option β) : Int → Option β := fun z0 => K0 [[.d (.int .i64 z0)]] []
noncomputable def laws_szStringS.e (k : Nat) : Entry := { modes := [(.imm, 0), (.imm, 0)], rts := [3], al := false, run := fun {β} l K => match l with | [.d (.sl a0), .d (.int .i64 a1)] => laws_szStringS.f k a0 a1 (laws_szStringS.kt a0 a1 K) | _ => none }
noncomputable def laws_szStringS.E (k : Nat) : Env := fun g => none
noncomputable def laws_szStringS.h : Hints := ⟨fun n => bif n == 5 then ⟨[(0, .asis), (1, .asis), (5, .asis)], []⟩ else ⟨[], []⟩, fun _ => none, false, []⟩
noncomputable def laws_szStringS.s0 (v0_0 : List (List D)) (v : Int × Int) : St :=
  match v with
  | (v0_1, v0_2) => ⟨[.d false (.sl v0_0), .d true (.int .i64 v0_1), .any, .any, .any, .d true (.int .i64 v0_2), .any, .any, .any, .any, .any, .any, .any, .any, .any, .any, .any, .any, .any, .any, .any, .any, .any, .any, .any, .any, .any, .any], []⟩
noncomputable def laws_szStringS.b0 {β : Type} (k : Nat) : St → (Ex → St → Option β) → Option β := fun s K => den Try.prog (laws_szStringS.E k) laws_szStringS.h.H laws_szStringS.h.J k (codeAt [1, 1, 1, 0, 1, 0, 0] (codeOf Try.f65)) s K
noncomputable def laws_szStringS.c0 {β : Type} (k : Nat) (a0 : List (List D)) (a1 : Int) (K0 : List (List C) → List Out → Option β) : Ex → St → Option β := contAt Try.prog (laws_szStringS.E k) laws_szStringS.h k [1, 1, 1, 0, 1, 0] (codeOf Try.f65) (finDen Try.prog Try.f65 laws_szStringS.h (laws_szStringS.as a0 a1) K0)
theorem laws_szStringS.l0_eq {β : Type} (k : Nat) (a0 : List (List D)) (a1 : Int) (K0 : List (List C) → List Out → Option β) (v0_0 : List (List D)) : ∀ (kk : Nat) (v : Int × Int), loopDen (laws_szStringS.b0 k) (laws_szStringS.h.H 5) kk (laws_szStringS.s0 v0_0 v) (laws_szStringS.c0 k a0 a1 K0) = iter (laws_szStringS.l0 k v0_0 (laws_szStringS.kt a0 a1 K0)) kk v :=
  loop_eq (laws_szStringS.s0 v0_0) _ (fun L0 v => by obtain ⟨v0_1, v0_2⟩ := v; kernel_rfl)
noncomputable def laws_szStringS.m {β : Type} (k : Nat) (a0 : List (List D)) (a1 : Int) (K0 : List (List C) → List Out → Option β) (F : ((List (List D)) → (Int × Int) → Option β)) : Option β :=
  bif (decide (((IntKind.wrap .i64 (a1 - (a0.length : Int))) : Int) < 0)) then ((laws_szStringS.kt a0 a1 K0) (-1)) else ((F) a0 (IntKind.wrap .i64 (a1 - (a0.length : Int)), 0))
theorem laws_szStringS.f_eq {β : Type} (k : Nat) (a0 : List (List D)) (a1 : Int) (K0 : List (List C) → List Out → Option β) : funDen Try.prog (laws_szStringS.E k) laws_szStringS.h k Try.f65 (laws_szStringS.as a0 a1) K0 = laws_szStringS.g k a0 a1 (laws_szStringS.kt a0 a1 K0) := Eq.trans (b := (laws_szStringS.m k a0 a1 K0) (fun (v0_0 : List (List D)) (v : Int × Int) => loopDen (laws_szStringS.b0 k) (laws_szStringS.h.H 5) k (laws_szStringS.s0 v0_0 v) (laws_szStringS.c0 k a0 a1 K0))) (by kernel_rfl) (Eq.trans (congrArg (laws_szStringS.m k a0 a1 K0) (funext fun v0_0 => funext fun v => laws_szStringS.l0_eq k a0 a1 K0 v0_0 k v)) (by kernel_rfl))
noncomputable def laws_szStringS.dec (rs : List (List C)) (os : List Out) : Option (Int) := uncons rs fun c1 r2 => uncons c1 fun x3 l4 => cD x3 fun d5 => dInt .i64 d5 fun w0 => atEnd l4 <| atEnd r2 <| atEnd os (some w0)
theorem laws_szStringS.kt_dec (a0 : List (List D)) (a1 : Int) : laws_szStringS.kt a0 a1 laws_szStringS.dec = (fun z0 => some z0) := by kernel_rfl
theorem laws_szStringS.inj (a0 : List (List D)) (a1 : Int) {rs : List (List C)} {os : List Out} {z0 : Int} (h : laws_szStringS.dec rs os = some z0) (ho : OutShape (laws_szStringS.as a0 a1) os) : rs = [[.d (.int .i64 z0)]] ∧ os = [] := by
  unfold laws_szStringS.dec at h
  obtain ⟨c1, r2, rfl, h1⟩ := uncons_some h
  obtain ⟨x3, l4, rfl, h2⟩ := uncons_some h1
  obtain ⟨d5, rfl, h3⟩ := cD_some h2
  obtain ⟨w0, rfl, h4⟩ := dInt_some h3
  obtain ⟨rfl, h5⟩ := atEnd_some h4
  obtain ⟨rfl, h6⟩ := atEnd_some h5
  obtain ⟨rfl, h7⟩ := atEnd_some h6
  obtain rfl := Option.some.inj h7
  exact ⟨rfl, rfl⟩
theorem laws_szStringS.ok (k : Nat) : EntryOK Try.prog 65 (laws_szStringS.e k) := by
  refine entry_of mix tyok (fn := Try.f65) (c := codeOf Try.f65) Try.func65 (by kernel_rfl) (h := laws_szStringS.h) (k := k) (E := laws_szStringS.E k) env_nil (by kernel_rfl) (by kernel_rfl) rfl (enter_of Try.func65 (by kernel_rfl)) ?_
  intro β l K r hr
  simp only [laws_szStringS.e] at hr
  split at hr
  case h_2 => cases hr
  unfold laws_szStringS.f at hr
  split at hr
  case h_2 => cases hr
  rename_i hz
  exact ⟨_, _, hr, _, laws_szStringS.dec, _, (laws_szStringS.f_eq k _ _ laws_szStringS.dec).trans (by rw [laws_szStringS.kt_dec]; exact hz), fun rs os h ho => laws_szStringS.inj _ _ h ho⟩
/-! ### loop.example/g00119/laws.szTerm: function 138 -/
noncomputable def laws_szTerm.g {β : Type} (k : Nat) (a0_0 : Int) (a0_1 : ByteArray) (a0_2 : List (List D)) (a1 : Int) (K : Int → Option β) : Option β :=
  bif (decide (((IntKind.wrap .i64 (a1 - (a0_1.size : Int))) : Int) < 0)) then (K (-1)) else (laws_szStringS.f k a0_2 (IntKind.wrap .i64 (a1 - (a0_1.size : Int))) (fun y9 => bif (decide ((y9 : Int) < 0)) then (K (-1)) else (K y9)))
noncomputable def laws_szTerm.t (k : Nat) (a0_0 : Int) (a0_1 : ByteArray) (a0_2 : List (List D)) (a1 : Int) : Option (Int) := laws_szTerm.g k a0_0 a0_1 a0_2 a1 (fun z0 => some z0)
noncomputable def laws_szTerm.f {β : Type} (k : Nat) (a0_0 : Int) (a0_1 : ByteArray) (a0_2 : List (List D)) (a1 : Int) (K : Int → Option β) : Option β :=
  match laws_szTerm.t k a0_0 a0_1 a0_2 a1 with
  | some z0 => K z0
  | none => none
noncomputable def laws_szTerm.as (a0_0 : Int) (a0_1 : ByteArray) (a0_2 : List (List D)) (a1 : Int) : List A := [.agg [.int .i64 a0_0, .str a0_1, .sl a0_2], .d (.int .i64 a1)]
noncomputable def laws_szTerm.kt {β : Type} (a0_0 : Int) (a0_1 : ByteArray) (a0_2 : List (List D)) (a1 : Int) (K0 : List (List C) → List Out → Option β) : Int → Option β := fun z0 => K0 [[.d (.int .i64 z0)]] []
noncomputable def laws_szTerm.e (k : Nat) : Entry := { modes := [(.imm, 0), (.imm, 0)], rts := [3], al := false, run := fun {β} l K => match l with | [.agg [.int .i64 a0_0, .str a0_1, .sl a0_2], .d (.int .i64 a1)] => laws_szTerm.f k a0_0 a0_1 a0_2 a1 (laws_szTerm.kt a0_0 a0_1 a0_2 a1 K) | _ => none }
noncomputable def laws_szTerm.E (k : Nat) : Env := fun g => bif g == 65 then some (laws_szStringS.e k) else none
noncomputable def laws_szTerm.h : Hints := ⟨fun n => ⟨[], []⟩, fun _ => none, false, []⟩
theorem laws_szTerm.f_eq {β : Type} (k : Nat) (a0_0 : Int) (a0_1 : ByteArray) (a0_2 : List (List D)) (a1 : Int) (K0 : List (List C) → List Out → Option β) : funDen Try.prog (laws_szTerm.E k) laws_szTerm.h k Try.f138 (laws_szTerm.as a0_0 a0_1 a0_2 a1) K0 = laws_szTerm.g k a0_0 a0_1 a0_2 a1 (laws_szTerm.kt a0_0 a0_1 a0_2 a1 K0) := by kernel_rfl
noncomputable def laws_szTerm.dec (rs : List (List C)) (os : List Out) : Option (Int) := uncons rs fun c1 r2 => uncons c1 fun x3 l4 => cD x3 fun d5 => dInt .i64 d5 fun w0 => atEnd l4 <| atEnd r2 <| atEnd os (some w0)
theorem laws_szTerm.kt_dec (a0_0 : Int) (a0_1 : ByteArray) (a0_2 : List (List D)) (a1 : Int) : laws_szTerm.kt a0_0 a0_1 a0_2 a1 laws_szTerm.dec = (fun z0 => some z0) := by kernel_rfl
theorem laws_szTerm.inj (a0_0 : Int) (a0_1 : ByteArray) (a0_2 : List (List D)) (a1 : Int) {rs : List (List C)} {os : List Out} {z0 : Int} (h : laws_szTerm.dec rs os = some z0) (ho : OutShape (laws_szTerm.as a0_0 a0_1 a0_2 a1) os) : rs = [[.d (.int .i64 z0)]] ∧ os = [] := by
  unfold laws_szTerm.dec at h
  obtain ⟨c1, r2, rfl, h1⟩ := uncons_some h
  obtain ⟨x3, l4, rfl, h2⟩ := uncons_some h1
  obtain ⟨d5, rfl, h3⟩ := cD_some h2
  obtain ⟨w0, rfl, h4⟩ := dInt_some h3
  obtain ⟨rfl, h5⟩ := atEnd_some h4
  obtain ⟨rfl, h6⟩ := atEnd_some h5
  obtain ⟨rfl, h7⟩ := atEnd_some h6
  obtain rfl := Option.some.inj h7
  exact ⟨rfl, rfl⟩
theorem laws_szTerm.ok (k : Nat) : EntryOK Try.prog 138 (laws_szTerm.e k) := by
  refine entry_of mix tyok (fn := Try.f138) (c := codeOf Try.f138) Try.func138 (by kernel_rfl) (h := laws_szTerm.h) (k := k) (E := laws_szTerm.E k) (env_cons (laws_szStringS.ok k) env_nil) (by kernel_rfl) (by kernel_rfl) rfl (enter_of Try.func138 (by kernel_rfl)) ?_
  intro β l K r hr
  simp only [laws_szTerm.e] at hr
  split at hr
  case h_2 => cases hr
  unfold laws_szTerm.f at hr
  split at hr
  case h_2 => cases hr
  rename_i hz
  exact ⟨_, _, hr, _, laws_szTerm.dec, _, (laws_szTerm.f_eq k _ _ _ _ laws_szTerm.dec).trans (by rw [laws_szTerm.kt_dec]; exact hz), fun rs os h ho => laws_szTerm.inj _ _ _ _ h ho⟩
/-! ### loop.example/g00119/laws.szTermS: function 78 -/
noncomputable def laws_szTermS.l0 {β : Type} (k : Nat) (v0_0 : List (List D)) (K : Int → Option β) (L0 : (Int × Int) → Option β) (v : Int × Int) : Option β :=
  match v with
  | (v0_1, v0_2) => bif (decide ((v0_2 : Int) < (v0_0.length : Int))) then (atRow v0_0 v0_2 fun c11 => uncons c11 fun d12 r13 => dInt .i64 d12 fun x14 => uncons r13 fun d15 r16 => dStr d15 fun x17 => uncons r16 fun d18 r19 => dSl d18 fun x20 => atEnd r19 (laws_szTerm.f k x14 x17 x20 v0_1 (fun y21 => bif (decide ((y21 : Int) < 0)) then (K (-1)) else (L0 (y21, IntKind.wrap .i64 (v0_2 + 1)))))) else (K v0_1)
noncomputable def laws_szTermS.g {β : Type} (k : Nat) (a0 : List (List D)) (a1 : Int) (K : Int → Option β) : Option β :=
  bif (decide (((IntKind.wrap .i64 (a1 - (a0.length : Int))) : Int) < 0)) then (K (-1)) else (iter (laws_szTermS.l0 k a0 K) k (IntKind.wrap .i64 (a1 - (a0.length : Int)), 0))
noncomputable def laws_szTermS.t (k : Nat) (a0 : List (List D)) (a1 : Int) : Option (Int) := laws_szTermS.g k a0 a1 (fun z0 => some z0)
noncomputable def laws_szTermS.f {β : Type} (k : Nat) (a0 : List (List D)) (a1 : Int) (K : Int → Option β) : Option β :=
  match laws_szTermS.t k a0 a1 with
  | some z0 => K z0
  | none => none
noncomputable def laws_szTermS.as (a0 : List (List D)) (a1 : Int) : List A := [.d (.sl a0), .d (.int .i64 a1)]
noncomputable def laws_szTermS.kt {β : Type} (a0 : List (List D)) (a1 : Int) (K0 : List (List C) → List Out → Option β) : Int → Option β := fun z0 => K0 [[.d (.int .i64 z0)]] []
noncomputable def laws_szTermS.e (k : Nat) : Entry := { modes := [(.imm, 0), (.imm, 0)], rts := [3], al := false, run := fun {β} l K => match l with | [.d (.sl a0), .d (.int .i64 a1)] => laws_szTermS.f k a0 a1 (laws_szTermS.kt a0 a1 K) | _ => none }
noncomputable def laws_szTermS.E (k : Nat) : Env := fun g => bif g == 138 then some (laws_szTerm.e k) else none
noncomputable def laws_szTermS.h : Hints := ⟨fun n => bif n == 5 then ⟨[(0, .asis), (1, .asis), (5, .asis)], []⟩ else ⟨[], []⟩, fun _ => none, false, []⟩
noncomputable def laws_szTermS.s0 (v0_0 : List (List D)) (v : Int × Int) : St :=
  match v with
  | (v0_1, v0_2) => ⟨[.d false (.sl v0_0), .d true (.int .i64 v0_1), .any, .any, .any, .d true (.int .i64 v0_2), .any, .any, .any, .any, .any, .any, .any, .any, .any, .any, .any, .any, .any, .any, .any, .any, .any, .any, .any, .any, .any], []⟩
noncomputable def laws_szTermS.b0 {β : Type} (k : Nat) : St → (Ex → St → Option β) → Option β := fun s K => den Try.prog (laws_szTermS.E k) laws_szTermS.h.H laws_szTermS.h.J k (codeAt [1, 1, 1, 0, 1, 0, 0] (codeOf Try.f78)) s K
noncomputable def laws_szTermS.c0 {β : Type} (k : Nat) (a0 : List (List D)) (a1 : Int) (K0 : List (List C) → List Out → Option β) : Ex → St → Option β := contAt Try.prog (laws_szTermS.E k) laws_szTermS.h k [1, 1, 1, 0, 1, 0] (codeOf Try.f78) (finDen Try.prog Try.f78 laws_szTermS.h (laws_szTermS.as a0 a1) K0)
theorem laws_szTermS.l0_eq {β : Type} (k : Nat) (a0 : List (List D)) (a1 : Int) (K0 : List (List C) → List Out → Option β) (v0_0 : List (List D)) : ∀ (kk : Nat) (v : Int × Int), loopDen (laws_szTermS.b0 k) (laws_szTermS.h.H 5) kk (laws_szTermS.s0 v0_0 v) (laws_szTermS.c0 k a0 a1 K0) = iter (laws_szTermS.l0 k v0_0 (laws_szTermS.kt a0 a1 K0)) kk v :=
  loop_eq (laws_szTermS.s0 v0_0) _ (fun L0 v => by obtain ⟨v0_1, v0_2⟩ := v; kernel_rfl)
noncomputable def laws_szTermS.m {β : Type} (k : Nat) (a0 : List (List D)) (a1 : Int) (K0 : List (List C) → List Out → Option β) (F : ((List (List D)) → (Int × Int) → Option β)) : Option β :=
  bif (decide (((IntKind.wrap .i64 (a1 - (a0.length : Int))) : Int) < 0)) then ((laws_szTermS.kt a0 a1 K0) (-1)) else ((F) a0 (IntKind.wrap .i64 (a1 - (a0.length : Int)), 0))
theorem laws_szTermS.f_eq {β : Type} (k : Nat) (a0 : List (List D)) (a1 : Int) (K0 : List (List C) → List Out → Option β) : funDen Try.prog (laws_szTermS.E k) laws_szTermS.h k Try.f78 (laws_szTermS.as a0 a1) K0 = laws_szTermS.g k a0 a1 (laws_szTermS.kt a0 a1 K0) := Eq.trans (b := (laws_szTermS.m k a0 a1 K0) (fun (v0_0 : List (List D)) (v : Int × Int) => loopDen (laws_szTermS.b0 k) (laws_szTermS.h.H 5) k (laws_szTermS.s0 v0_0 v) (laws_szTermS.c0 k a0 a1 K0))) (by kernel_rfl) (Eq.trans (congrArg (laws_szTermS.m k a0 a1 K0) (funext fun v0_0 => funext fun v => laws_szTermS.l0_eq k a0 a1 K0 v0_0 k v)) (by kernel_rfl))
noncomputable def laws_szTermS.dec (rs : List (List C)) (os : List Out) : Option (Int) := uncons rs fun c1 r2 => uncons c1 fun x3 l4 => cD x3 fun d5 => dInt .i64 d5 fun w0 => atEnd l4 <| atEnd r2 <| atEnd os (some w0)
theorem laws_szTermS.kt_dec (a0 : List (List D)) (a1 : Int) : laws_szTermS.kt a0 a1 laws_szTermS.dec = (fun z0 => some z0) := by kernel_rfl
theorem laws_szTermS.inj (a0 : List (List D)) (a1 : Int) {rs : List (List C)} {os : List Out} {z0 : Int} (h : laws_szTermS.dec rs os = some z0) (ho : OutShape (laws_szTermS.as a0 a1) os) : rs = [[.d (.int .i64 z0)]] ∧ os = [] := by
  unfold laws_szTermS.dec at h
  obtain ⟨c1, r2, rfl, h1⟩ := uncons_some h
  obtain ⟨x3, l4, rfl, h2⟩ := uncons_some h1
  obtain ⟨d5, rfl, h3⟩ := cD_some h2
  obtain ⟨w0, rfl, h4⟩ := dInt_some h3
  obtain ⟨rfl, h5⟩ := atEnd_some h4
  obtain ⟨rfl, h6⟩ := atEnd_some h5
  obtain ⟨rfl, h7⟩ := atEnd_some h6
  obtain rfl := Option.some.inj h7
  exact ⟨rfl, rfl⟩
theorem laws_szTermS.ok (k : Nat) : EntryOK Try.prog 78 (laws_szTermS.e k) := by
  refine entry_of mix tyok (fn := Try.f78) (c := codeOf Try.f78) Try.func78 (by kernel_rfl) (h := laws_szTermS.h) (k := k) (E := laws_szTermS.E k) (env_cons (laws_szTerm.ok k) env_nil) (by kernel_rfl) (by kernel_rfl) rfl (enter_of Try.func78 (by kernel_rfl)) ?_
  intro β l K r hr
  simp only [laws_szTermS.e] at hr
  split at hr
  case h_2 => cases hr
  unfold laws_szTermS.f at hr
  split at hr
  case h_2 => cases hr
  rename_i hz
  exact ⟨_, _, hr, _, laws_szTermS.dec, _, (laws_szTermS.f_eq k _ _ laws_szTermS.dec).trans (by rw [laws_szTermS.kt_dec]; exact hz), fun rs os h ho => laws_szTermS.inj _ _ h ho⟩
/-! ### loop.example/g00119/laws.szWeigh: function 139 -/
noncomputable def laws_szWeigh.g {β : Type} (k : Nat) (a0_0 : ByteArray) (a0_1 : Int) (a1 : Int) (K : Int → Option β) : Option β :=
  bif (decide (((IntKind.wrap .i64 (a1 - (a0_0.size : Int))) : Int) < 0)) then (K (-1)) else (K (IntKind.wrap .i64 (a1 - (a0_0.size : Int))))
noncomputable def laws_szWeigh.t (k : Nat) (a0_0 : ByteArray) (a0_1 : Int) (a1 : Int) : Option (Int) := laws_szWeigh.g k a0_0 a0_1 a1 (fun z0 => some z0)
noncomputable def laws_szWeigh.f {β : Type} (k : Nat) (a0_0 : ByteArray) (a0_1 : Int) (a1 : Int) (K : Int → Option β) : Option β :=
  match laws_szWeigh.t k a0_0 a0_1 a1 with
  | some z0 => K z0
  | none => none
noncomputable def laws_szWeigh.as (a0_0 : ByteArray) (a0_1 : Int) (a1 : Int) : List A := [.agg [.str a0_0, .int .i64 a0_1], .d (.int .i64 a1)]
noncomputable def laws_szWeigh.kt {β : Type} (a0_0 : ByteArray) (a0_1 : Int) (a1 : Int) (K0 : List (List C) → List Out → Option β) : Int → Option β := fun z0 => K0 [[.d (.int .i64 z0)]] []
noncomputable def laws_szWeigh.e (k : Nat) : Entry := { modes := [(.imm, 0), (.imm, 0)], rts := [3], al := false, run := fun {β} l K => match l with | [.agg [.str a0_0, .int .i64 a0_1], .d (.int .i64 a1)] => laws_szWeigh.f k a0_0 a0_1 a1 (laws_szWeigh.kt a0_0 a0_1 a1 K) | _ => none }
noncomputable def laws_szWeigh.E (k : Nat) : Env := fun g => none
noncomputable def laws_szWeigh.h : Hints := ⟨fun n => ⟨[], []⟩, fun _ => none, false, []⟩
theorem laws_szWeigh.f_eq {β : Type} (k : Nat) (a0_0 : ByteArray) (a0_1 : Int) (a1 : Int) (K0 : List (List C) → List Out → Option β) : funDen Try.prog (laws_szWeigh.E k) laws_szWeigh.h k Try.f139 (laws_szWeigh.as a0_0 a0_1 a1) K0 = laws_szWeigh.g k a0_0 a0_1 a1 (laws_szWeigh.kt a0_0 a0_1 a1 K0) := by kernel_rfl
noncomputable def laws_szWeigh.dec (rs : List (List C)) (os : List Out) : Option (Int) := uncons rs fun c1 r2 => uncons c1 fun x3 l4 => cD x3 fun d5 => dInt .i64 d5 fun w0 => atEnd l4 <| atEnd r2 <| atEnd os (some w0)
theorem laws_szWeigh.kt_dec (a0_0 : ByteArray) (a0_1 : Int) (a1 : Int) : laws_szWeigh.kt a0_0 a0_1 a1 laws_szWeigh.dec = (fun z0 => some z0) := by kernel_rfl
theorem laws_szWeigh.inj (a0_0 : ByteArray) (a0_1 : Int) (a1 : Int) {rs : List (List C)} {os : List Out} {z0 : Int} (h : laws_szWeigh.dec rs os = some z0) (ho : OutShape (laws_szWeigh.as a0_0 a0_1 a1) os) : rs = [[.d (.int .i64 z0)]] ∧ os = [] := by
  unfold laws_szWeigh.dec at h
  obtain ⟨c1, r2, rfl, h1⟩ := uncons_some h
  obtain ⟨x3, l4, rfl, h2⟩ := uncons_some h1
  obtain ⟨d5, rfl, h3⟩ := cD_some h2
  obtain ⟨w0, rfl, h4⟩ := dInt_some h3
  obtain ⟨rfl, h5⟩ := atEnd_some h4
  obtain ⟨rfl, h6⟩ := atEnd_some h5
  obtain ⟨rfl, h7⟩ := atEnd_some h6
  obtain rfl := Option.some.inj h7
  exact ⟨rfl, rfl⟩
theorem laws_szWeigh.ok (k : Nat) : EntryOK Try.prog 139 (laws_szWeigh.e k) := by
  refine entry_of mix tyok (fn := Try.f139) (c := codeOf Try.f139) Try.func139 (by kernel_rfl) (h := laws_szWeigh.h) (k := k) (E := laws_szWeigh.E k) env_nil (by kernel_rfl) (by kernel_rfl) rfl (enter_of Try.func139 (by kernel_rfl)) ?_
  intro β l K r hr
  simp only [laws_szWeigh.e] at hr
  split at hr
  case h_2 => cases hr
  unfold laws_szWeigh.f at hr
  split at hr
  case h_2 => cases hr
  rename_i hz
  exact ⟨_, _, hr, _, laws_szWeigh.dec, _, (laws_szWeigh.f_eq k _ _ _ laws_szWeigh.dec).trans (by rw [laws_szWeigh.kt_dec]; exact hz), fun rs os h ho => laws_szWeigh.inj _ _ _ h ho⟩
/-! ### loop.example/g00119/laws.szWeighS: function 79 -/
noncomputable def laws_szWeighS.l0 {β : Type} (k : Nat) (v0_0 : List (List D)) (K : Int → Option β) (L0 : (Int × Int) → Option β) (v : Int × Int) : Option β :=
  match v with
  | (v0_1, v0_2) => bif (decide ((v0_2 : Int) < (v0_0.length : Int))) then (atRow v0_0 v0_2 fun c2 => uncons c2 fun d3 r4 => dStr d3 fun x5 => uncons r4 fun d6 r7 => dInt .i64 d6 fun x8 => atEnd r7 (laws_szWeigh.f k x5 x8 v0_1 (fun y9 => bif (decide ((y9 : Int) < 0)) then (K (-1)) else (L0 (y9, IntKind.wrap .i64 (v0_2 + 1)))))) else (K v0_1)
noncomputable def laws_szWeighS.g {β : Type} (k : Nat) (a0 : List (List D)) (a1 : Int) (K : Int → Option β) : Option β :=
  bif (decide (((IntKind.wrap .i64 (a1 - (a0.length : Int))) : Int) < 0)) then (K (-1)) else (iter (laws_szWeighS.l0 k a0 K) k (IntKind.wrap .i64 (a1 - (a0.length : Int)), 0))
noncomputable def laws_szWeighS.t (k : Nat) (a0 : List (List D)) (a1 : Int) : Option (Int) := laws_szWeighS.g k a0 a1 (fun z0 => some z0)
noncomputable def laws_szWeighS.f {β : Type} (k : Nat) (a0 : List (List D)) (a1 : Int) (K : Int → Option β) : Option β :=
  match laws_szWeighS.t k a0 a1 with
  | some z0 => K z0
  | none => none
noncomputable def laws_szWeighS.as (a0 : List (List D)) (a1 : Int) : List A := [.d (.sl a0), .d (.int .i64 a1)]
noncomputable def laws_szWeighS.kt {β : Type} (a0 : List (List D)) (a1 : Int) (K0 : List (List C) → List Out → Option β) : Int → Option β := fun z0 => K0 [[.d (.int .i64 z0)]] []
noncomputable def laws_szWeighS.e (k : Nat) : Entry := { modes := [(.imm, 0), (.imm, 0)], rts := [3], al := false, run := fun {β} l K => match l with | [.d (.sl a0), .d (.int .i64 a1)] => laws_szWeighS.f k a0 a1 (laws_szWeighS.kt a0 a1 K) | _ => none }
noncomputable def laws_szWeighS.E (k : Nat) : Env := fun g => bif g == 139 then some (laws_szWeigh.e k) else none
noncomputable def laws_szWeighS.h : Hints := ⟨fun n => bif n == 5 then ⟨[(0, .asis), (1, .asis), (5, .asis)], []⟩ else ⟨[], []⟩, fun _ => none, false, []⟩
noncomputable def laws_szWeighS.s0 (v0_0 : List (List D)) (v : Int × Int) : St :=
  match v with
  | (v0_1, v0_2) => ⟨[.d false (.sl v0_0), .d true (.int .i64 v0_1), .any, .any, .any, .d true (.int .i64 v0_2), .any, .any, .any, .any, .any, .any, .any, .any, .any, .any, .any, .any, .any, .any, .any, .any, .any, .any, .any, .any, .any], []⟩
noncomputable def laws_szWeighS.b0 {β : Type} (k : Nat) : St → (Ex → St → Option β) → Option β := fun s K => den Try.prog (laws_szWeighS.E k) laws_szWeighS.h.H laws_szWeighS.h.J k (codeAt [1, 1, 1, 0, 1, 0, 0] (codeOf Try.f79)) s K
noncomputable def laws_szWeighS.c0 {β : Type} (k : Nat) (a0 : List (List D)) (a1 : Int) (K0 : List (List C) → List Out → Option β) : Ex → St → Option β := contAt Try.prog (laws_szWeighS.E k) laws_szWeighS.h k [1, 1, 1, 0, 1, 0] (codeOf Try.f79) (finDen Try.prog Try.f79 laws_szWeighS.h (laws_szWeighS.as a0 a1) K0)
theorem laws_szWeighS.l0_eq {β : Type} (k : Nat) (a0 : List (List D)) (a1 : Int) (K0 : List (List C) → List Out → Option β) (v0_0 : List (List D)) : ∀ (kk : Nat) (v : Int × Int), loopDen (laws_szWeighS.b0 k) (laws_szWeighS.h.H 5) kk (laws_szWeighS.s0 v0_0 v) (laws_szWeighS.c0 k a0 a1 K0) = iter (laws_szWeighS.l0 k v0_0 (laws_szWeighS.kt a0 a1 K0)) kk v :=
  loop_eq (laws_szWeighS.s0 v0_0) _ (fun L0 v => by obtain ⟨v0_1, v0_2⟩ := v; kernel_rfl)
noncomputable def laws_szWeighS.m {β : Type} (k : Nat) (a0 : List (List D)) (a1 : Int) (K0 : List (List C) → List Out → Option β) (F : ((List (List D)) → (Int × Int) → Option β)) : Option β :=
  bif (decide (((IntKind.wrap .i64 (a1 - (a0.length : Int))) : Int) < 0)) then ((laws_szWeighS.kt a0 a1 K0) (-1)) else ((F) a0 (IntKind.wrap .i64 (a1 - (a0.length : Int)), 0))
theorem laws_szWeighS.f_eq {β : Type} (k : Nat) (a0 : List (List D)) (a1 : Int) (K0 : List (List C) → List Out → Option β) : funDen Try.prog (laws_szWeighS.E k) laws_szWeighS.h k Try.f79 (laws_szWeighS.as a0 a1) K0 = laws_szWeighS.g k a0 a1 (laws_szWeighS.kt a0 a1 K0) := Eq.trans (b := (laws_szWeighS.m k a0 a1 K0) (fun (v0_0 : List (List D)) (v : Int × Int) => loopDen (laws_szWeighS.b0 k) (laws_szWeighS.h.H 5) k (laws_szWeighS.s0 v0_0 v) (laws_szWeighS.c0 k a0 a1 K0))) (by kernel_rfl) (Eq.trans (congrArg (laws_szWeighS.m k a0 a1 K0) (funext fun v0_0 => funext fun v => laws_szWeighS.l0_eq k a0 a1 K0 v0_0 k v)) (by kernel_rfl))
noncomputable def laws_szWeighS.dec (rs : List (List C)) (os : List Out) : Option (Int) := uncons rs fun c1 r2 => uncons c1 fun x3 l4 => cD x3 fun d5 => dInt .i64 d5 fun w0 => atEnd l4 <| atEnd r2 <| atEnd os (some w0)
theorem laws_szWeighS.kt_dec (a0 : List (List D)) (a1 : Int) : laws_szWeighS.kt a0 a1 laws_szWeighS.dec = (fun z0 => some z0) := by kernel_rfl
theorem laws_szWeighS.inj (a0 : List (List D)) (a1 : Int) {rs : List (List C)} {os : List Out} {z0 : Int} (h : laws_szWeighS.dec rs os = some z0) (ho : OutShape (laws_szWeighS.as a0 a1) os) : rs = [[.d (.int .i64 z0)]] ∧ os = [] := by
  unfold laws_szWeighS.dec at h
  obtain ⟨c1, r2, rfl, h1⟩ := uncons_some h
  obtain ⟨x3, l4, rfl, h2⟩ := uncons_some h1
  obtain ⟨d5, rfl, h3⟩ := cD_some h2
  obtain ⟨w0, rfl, h4⟩ := dInt_some h3
  obtain ⟨rfl, h5⟩ := atEnd_some h4
  obtain ⟨rfl, h6⟩ := atEnd_some h5
  obtain ⟨rfl, h7⟩ := atEnd_some h6
  obtain rfl := Option.some.inj h7
  exact ⟨rfl, rfl⟩
theorem laws_szWeighS.ok (k : Nat) : EntryOK Try.prog 79 (laws_szWeighS.e k) := by
  refine entry_of mix tyok (fn := Try.f79) (c := codeOf Try.f79) Try.func79 (by kernel_rfl) (h := laws_szWeighS.h) (k := k) (E := laws_szWeighS.E k) (env_cons (laws_szWeigh.ok k) env_nil) (by kernel_rfl) (by kernel_rfl) rfl (enter_of Try.func79 (by kernel_rfl)) ?_
  intro β l K r hr
  simp only [laws_szWeighS.e] at hr
  split at hr
  case h_2 => cases hr
  unfold laws_szWeighS.f at hr
  split at hr
  case h_2 => cases hr
  rename_i hz
  exact ⟨_, _, hr, _, laws_szWeighS.dec, _, (laws_szWeighS.f_eq k _ _ laws_szWeighS.dec).trans (by rw [laws_szWeighS.kt_dec]; exact hz), fun rs os h ho => laws_szWeighS.inj _ _ h ho⟩
/-! ### loop.example/g00119/laws.szWant: function 20 -/
noncomputable def laws_szWant.g {β : Type} (k : Nat) (a0_0 : Int) (a0_1 : List (List D)) (a0_2 : List (List D)) (a0_3 : List (List D)) (a1 : Int) (K : Int → Option β) : Option β :=
  laws_szTermS.f k a0_1 a1 (fun y22 => bif (decide ((y22 : Int) < 0)) then (K (-1)) else (laws_szStringS.f k a0_2 y22 (fun y23 => bif (decide ((y23 : Int) < 0)) then (K (-1)) else (laws_szWeighS.f k a0_3 y23 (fun y10 => bif (decide ((y10 : Int) < 0)) then (K (-1)) else (K y10))))))
noncomputable def laws_szWant.t (k : Nat) (a0_0 : Int) (a0_1 : List (List D)) (a0_2 : List (List D)) (a0_3 : List (List D)) (a1 : Int) : Option (Int) := laws_szWant.g k a0_0 a0_1 a0_2 a0_3 a1 (fun z0 => some z0)
noncomputable def laws_szWant.f {β : Type} (k : Nat) (a0_0 : Int) (a0_1 : List (List D)) (a0_2 : List (List D)) (a0_3 : List (List D)) (a1 : Int) (K : Int → Option β) : Option β :=
  match laws_szWant.t k a0_0 a0_1 a0_2 a0_3 a1 with
  | some z0 => K z0
  | none => none
noncomputable def laws_szWant.as (a0_0 : Int) (a0_1 : List (List D)) (a0_2 : List (List D)) (a0_3 : List (List D)) (a1 : Int) : List A := [.agg [.int .i64 a0_0, .sl a0_1, .sl a0_2, .sl a0_3], .d (.int .i64 a1)]
noncomputable def laws_szWant.kt {β : Type} (a0_0 : Int) (a0_1 : List (List D)) (a0_2 : List (List D)) (a0_3 : List (List D)) (a1 : Int) (K0 : List (List C) → List Out → Option β) : Int → Option β := fun z0 => K0 [[.d (.int .i64 z0)]] []
noncomputable def laws_szWant.e (k : Nat) : Entry := { modes := [(.imm, 0), (.imm, 0)], rts := [3], al := false, run := fun {β} l K => match l with | [.agg [.int .i64 a0_0, .sl a0_1, .sl a0_2, .sl a0_3], .d (.int .i64 a1)] => laws_szWant.f k a0_0 a0_1 a0_2 a0_3 a1 (laws_szWant.kt a0_0 a0_1 a0_2 a0_3 a1 K) | _ => none }
noncomputable def laws_szWant.E (k : Nat) : Env := fun g => bif g == 78 then some (laws_szTermS.e k) else bif g == 65 then some (laws_szStringS.e k) else bif g == 79 then some (laws_szWeighS.e k) else none
noncomputable def laws_szWant.h : Hints := ⟨fun n => ⟨[], []⟩, fun _ => none, false, []⟩
theorem laws_szWant.f_eq {β : Type} (k : Nat) (a0_0 : Int) (a0_1 : List (List D)) (a0_2 : List (List D)) (a0_3 : List (List D)) (a1 : Int) (K0 : List (List C) → List Out → Option β) : funDen Try.prog (laws_szWant.E k) laws_szWant.h k Try.f20 (laws_szWant.as a0_0 a0_1 a0_2 a0_3 a1) K0 = laws_szWant.g k a0_0 a0_1 a0_2 a0_3 a1 (laws_szWant.kt a0_0 a0_1 a0_2 a0_3 a1 K0) := by kernel_rfl
noncomputable def laws_szWant.dec (rs : List (List C)) (os : List Out) : Option (Int) := uncons rs fun c1 r2 => uncons c1 fun x3 l4 => cD x3 fun d5 => dInt .i64 d5 fun w0 => atEnd l4 <| atEnd r2 <| atEnd os (some w0)
theorem laws_szWant.kt_dec (a0_0 : Int) (a0_1 : List (List D)) (a0_2 : List (List D)) (a0_3 : List (List D)) (a1 : Int) : laws_szWant.kt a0_0 a0_1 a0_2 a0_3 a1 laws_szWant.dec = (fun z0 => some z0) := by kernel_rfl
theorem laws_szWant.inj (a0_0 : Int) (a0_1 : List (List D)) (a0_2 : List (List D)) (a0_3 : List (List D)) (a1 : Int) {rs : List (List C)} {os : List Out} {z0 : Int} (h : laws_szWant.dec rs os = some z0) (ho : OutShape (laws_szWant.as a0_0 a0_1 a0_2 a0_3 a1) os) : rs = [[.d (.int .i64 z0)]] ∧ os = [] := by
  unfold laws_szWant.dec at h
  obtain ⟨c1, r2, rfl, h1⟩ := uncons_some h
  obtain ⟨x3, l4, rfl, h2⟩ := uncons_some h1
  obtain ⟨d5, rfl, h3⟩ := cD_some h2
  obtain ⟨w0, rfl, h4⟩ := dInt_some h3
  obtain ⟨rfl, h5⟩ := atEnd_some h4
  obtain ⟨rfl, h6⟩ := atEnd_some h5
  obtain ⟨rfl, h7⟩ := atEnd_some h6
  obtain rfl := Option.some.inj h7
  exact ⟨rfl, rfl⟩
theorem laws_szWant.ok (k : Nat) : EntryOK Try.prog 20 (laws_szWant.e k) := by
  refine entry_of mix tyok (fn := Try.f20) (c := codeOf Try.f20) Try.func20 (by kernel_rfl) (h := laws_szWant.h) (k := k) (E := laws_szWant.E k) (env_cons (laws_szTermS.ok k) (env_cons (laws_szStringS.ok k) (env_cons (laws_szWeighS.ok k) env_nil))) (by kernel_rfl) (by kernel_rfl) rfl (enter_of Try.func20 (by kernel_rfl)) ?_
  intro β l K r hr
  simp only [laws_szWant.e] at hr
  split at hr
  case h_2 => cases hr
  unfold laws_szWant.f at hr
  split at hr
  case h_2 => cases hr
  rename_i hz
  exact ⟨_, _, hr, _, laws_szWant.dec, _, (laws_szWant.f_eq k _ _ _ _ _ laws_szWant.dec).trans (by rw [laws_szWant.kt_dec]; exact hz), fun rs os h ho => laws_szWant.inj _ _ _ _ _ h ho⟩
/-! ### loop.example/g00119/laws.toStringS: function 71 -/
noncomputable def laws_toStringS.l0 {β : Type} (k : Nat) (v0_0 : List (List D)) (K : (List (List C)) → Option β) (L0 : (Int × (List (List C))) → Option β) (v : Int × (List (List C))) : Option β :=
  match v with
  | (v0_1, v0_2) => bif (decide ((v0_1 : Int) < (v0_0.length : Int))) then (atRow v0_0 v0_1 fun c5 => uncons c5 fun d6 r7 => dStr d6 fun x8 => atEnd r7 (guardP ((0 : Int) ≤ v0_1 ∧ v0_1 < (v0_2.length : Int)) (guardP (Int.toNat v0_1 < v0_2.length) (L0 (IntKind.wrap .i64 (v0_1 + 1), v0_2.modify (Int.toNat v0_1) fun c => splice c 0 [.d (.str x8)]))))) else (K v0_2)
noncomputable def laws_toStringS.g {β : Type} (k : Nat) (a0 : List (List D)) (K : (List (List C)) → Option β) : Option β :=
  guardP ((0 : Int) ≤ (a0.length : Int) ∧ (a0.length : Int) ≤ (most : Int) ∧ (a0.length : Int) ≤ (a0.length : Int) ∧ (a0.length : Int) ≤ (a0.length : Int)) (iter (laws_toStringS.l0 k a0 K) k (0, List.replicate (Int.toNat (a0.length : Int)) ([.d (.str (⟨#[]⟩ : ByteArray))] : List C)))
noncomputable def laws_toStringS.t (k : Nat) (a0 : List (List D)) : Option ((List (List C))) := laws_toStringS.g k a0 (fun z0 => some z0)
noncomputable def laws_toStringS.f {β : Type} (k : Nat) (a0 : List (List D)) (K : (List (List C)) → Option β) : Option β :=
  match laws_toStringS.t k a0 with
  | some z0 => K z0
  | none => none
noncomputable def laws_toStringS.as (a0 : List (List D)) : List A := [.d (.sl a0)]
noncomputable def laws_toStringS.kt {β : Type} (a0 : List (List D)) (K0 : List (List C) → List Out → Option β) : (List (List C)) → Option β := fun z0 => K0 [[.own z0]] []
noncomputable def laws_toStringS.e (k : Nat) : Entry := { modes := [(.imm, 0)], rts := [23], al := false, run := fun {β} l K => match l with | [.d (.sl a0)] => laws_toStringS.f k a0 (laws_toStringS.kt a0 K) | _ => none }
noncomputable def laws_toStringS.E (k : Nat) : Env := fun g => none
noncomputable def laws_toStringS.h : Hints := ⟨fun n => bif n == 3 then ⟨[(0, .asis), (3, .asis), (4, .asis)], []⟩ else ⟨[], []⟩, fun _ => none, false, []⟩
noncomputable def laws_toStringS.s0 (v0_0 : List (List D)) (v : Int × (List (List C))) : St :=
  match v with
  | (v0_1, v0_2) => ⟨[.d false (.sl v0_0), .any, .any, .row 0, .d true (.int .i64 v0_1), .any, .any, .any, .any, .any, .any, .any, .any, .any, .any, .any, .any, .any, .any, .any, .any, .any], [.row none true 23 v0_2]⟩
noncomputable def laws_toStringS.b0 {β : Type} (k : Nat) : St → (Ex → St → Option β) → Option β := fun s K => den Try.prog (laws_toStringS.E k) laws_toStringS.h.H laws_toStringS.h.J k (codeAt [1, 1, 0, 1, 0, 0] (codeOf Try.f71)) s K
noncomputable def laws_toStringS.c0 {β : Type} (k : Nat) (a0 : List (List D)) (K0 : List (List C) → List Out → Option β) : Ex → St → Option β := contAt Try.prog (laws_toStringS.E k) laws_toStringS.h k [1, 1, 0, 1, 0] (codeOf Try.f71) (finDen Try.prog Try.f71 laws_toStringS.h (laws_toStringS.as a0) K0)
theorem laws_toStringS.l0_eq {β : Type} (k : Nat) (a0 : List (List D)) (K0 : List (List C) → List Out → Option β) (v0_0 : List (List D)) : ∀ (kk : Nat) (v : Int × (List (List C))), loopDen (laws_toStringS.b0 k) (laws_toStringS.h.H 3) kk (laws_toStringS.s0 v0_0 v) (laws_toStringS.c0 k a0 K0) = iter (laws_toStringS.l0 k v0_0 (laws_toStringS.kt a0 K0)) kk v :=
  loop_eq (laws_toStringS.s0 v0_0) _ (fun L0 v => by obtain ⟨v0_1, v0_2⟩ := v; kernel_rfl)
noncomputable def laws_toStringS.m {β : Type} (k : Nat) (a0 : List (List D)) (K0 : List (List C) → List Out → Option β) (F : ((List (List D)) → (Int × (List (List C))) → Option β)) : Option β :=
  guardP ((0 : Int) ≤ (a0.length : Int) ∧ (a0.length : Int) ≤ (most : Int) ∧ (a0.length : Int) ≤ (a0.length : Int) ∧ (a0.length : Int) ≤ (a0.length : Int)) ((F) a0 (0, List.replicate (Int.toNat (a0.length : Int)) ([.d (.str (⟨#[]⟩ : ByteArray))] : List C)))
theorem laws_toStringS.f_eq {β : Type} (k : Nat) (a0 : List (List D)) (K0 : List (List C) → List Out → Option β) : funDen Try.prog (laws_toStringS.E k) laws_toStringS.h k Try.f71 (laws_toStringS.as a0) K0 = laws_toStringS.g k a0 (laws_toStringS.kt a0 K0) := Eq.trans (b := (laws_toStringS.m k a0 K0) (fun (v0_0 : List (List D)) (v : Int × (List (List C))) => loopDen (laws_toStringS.b0 k) (laws_toStringS.h.H 3) k (laws_toStringS.s0 v0_0 v) (laws_toStringS.c0 k a0 K0))) (by kernel_rfl) (Eq.trans (congrArg (laws_toStringS.m k a0 K0) (funext fun v0_0 => funext fun v => laws_toStringS.l0_eq k a0 K0 v0_0 k v)) (by kernel_rfl))
noncomputable def laws_toStringS.dec (rs : List (List C)) (os : List Out) : Option ((List (List C))) := uncons rs fun c1 r2 => uncons c1 fun x3 l4 => cOwn x3 fun w0 => atEnd l4 <| atEnd r2 <| atEnd os (some w0)
theorem laws_toStringS.kt_dec (a0 : List (List D)) : laws_toStringS.kt a0 laws_toStringS.dec = (fun z0 => some z0) := by kernel_rfl
theorem laws_toStringS.inj (a0 : List (List D)) {rs : List (List C)} {os : List Out} {z0 : List (List C)} (h : laws_toStringS.dec rs os = some z0) (ho : OutShape (laws_toStringS.as a0) os) : rs = [[.own z0]] ∧ os = [] := by
  unfold laws_toStringS.dec at h
  obtain ⟨c1, r2, rfl, h1⟩ := uncons_some h
  obtain ⟨x3, l4, rfl, h2⟩ := uncons_some h1
  obtain ⟨w0, rfl, h3⟩ := cOwn_some h2
  obtain ⟨rfl, h4⟩ := atEnd_some h3
  obtain ⟨rfl, h5⟩ := atEnd_some h4
  obtain ⟨rfl, h6⟩ := atEnd_some h5
  obtain rfl := Option.some.inj h6
  exact ⟨rfl, rfl⟩
theorem laws_toStringS.ok (k : Nat) : EntryOK Try.prog 71 (laws_toStringS.e k) := by
  refine entry_of mix tyok (fn := Try.f71) (c := codeOf Try.f71) Try.func71 (by kernel_rfl) (h := laws_toStringS.h) (k := k) (E := laws_toStringS.E k) env_nil (by kernel_rfl) (by kernel_rfl) rfl (enter_of Try.func71 (by kernel_rfl)) ?_
  intro β l K r hr
  simp only [laws_toStringS.e] at hr
  split at hr
  case h_2 => cases hr
  unfold laws_toStringS.f at hr
  split at hr
  case h_2 => cases hr
  rename_i hz
  exact ⟨_, _, hr, _, laws_toStringS.dec, _, (laws_toStringS.f_eq k _ laws_toStringS.dec).trans (by rw [laws_toStringS.kt_dec]; exact hz), fun rs os h ho => laws_toStringS.inj _ h ho⟩
/-! ### loop.example/g00119/laws.toTerm: function 140 -/
noncomputable def laws_toTerm.g {β : Type} (k : Nat) (a0_0 : Int) (a0_1 : ByteArray) (a0_2 : List (List D)) (K : Int → ByteArray → (List (List C)) → Option β) : Option β :=
  laws_toStringS.f k a0_2 (fun y9 => K a0_0 a0_1 y9)
noncomputable def laws_toTerm.t (k : Nat) (a0_0 : Int) (a0_1 : ByteArray) (a0_2 : List (List D)) : Option (Int × ByteArray × (List (List C))) := laws_toTerm.g k a0_0 a0_1 a0_2 (fun z0 z1 z2 => some (z0, z1, z2))
noncomputable def laws_toTerm.f {β : Type} (k : Nat) (a0_0 : Int) (a0_1 : ByteArray) (a0_2 : List (List D)) (K : Int → ByteArray → (List (List C)) → Option β) : Option β :=
  match laws_toTerm.t k a0_0 a0_1 a0_2 with
  | some (z0, z1, z2) => K z0 z1 z2
  | none => none
noncomputable def laws_toTerm.as (a0_0 : Int) (a0_1 : ByteArray) (a0_2 : List (List D)) : List A := [.agg [.int .i64 a0_0, .str a0_1, .sl a0_2]]
noncomputable def laws_toTerm.kt {β : Type} (a0_0 : Int) (a0_1 : ByteArray) (a0_2 : List (List D)) (K0 : List (List C) → List Out → Option β) : Int → ByteArray → (List (List C)) → Option β := fun z0 z1 z2 => K0 [[.d (.int .i64 z0), .d (.str z1), .own z2]] []
noncomputable def laws_toTerm.e (k : Nat) : Entry := { modes := [(.imm, 0)], rts := [194], al := false, run := fun {β} l K => match l with | [.agg [.int .i64 a0_0, .str a0_1, .sl a0_2]] => laws_toTerm.f k a0_0 a0_1 a0_2 (laws_toTerm.kt a0_0 a0_1 a0_2 K) | _ => none }
noncomputable def laws_toTerm.E (k : Nat) : Env := fun g => bif g == 71 then some (laws_toStringS.e k) else none
noncomputable def laws_toTerm.h : Hints := ⟨fun n => ⟨[], []⟩, fun _ => none, false, []⟩
theorem laws_toTerm.f_eq {β : Type} (k : Nat) (a0_0 : Int) (a0_1 : ByteArray) (a0_2 : List (List D)) (K0 : List (List C) → List Out → Option β) : funDen Try.prog (laws_toTerm.E k) laws_toTerm.h k Try.f140 (laws_toTerm.as a0_0 a0_1 a0_2) K0 = laws_toTerm.g k a0_0 a0_1 a0_2 (laws_toTerm.kt a0_0 a0_1 a0_2 K0) := by kernel_rfl
noncomputable def laws_toTerm.dec (rs : List (List C)) (os : List Out) : Option (Int × ByteArray × (List (List C))) := uncons rs fun c1 r2 => uncons c1 fun x3 l4 => cD x3 fun d5 => dInt .i64 d5 fun w0 => uncons l4 fun x6 l7 => cD x6 fun d8 => dStr d8 fun w1 => uncons l7 fun x9 l10 => cOwn x9 fun w2 => atEnd l10 <| atEnd r2 <| atEnd os (some (w0, w1, w2))
theorem laws_toTerm.kt_dec (a0_0 : Int) (a0_1 : ByteArray) (a0_2 : List (List D)) : laws_toTerm.kt a0_0 a0_1 a0_2 laws_toTerm.dec = (fun z0 z1 z2 => some (z0, z1, z2)) := by kernel_rfl
theorem laws_toTerm.inj (a0_0 : Int) (a0_1 : ByteArray) (a0_2 : List (List D)) {rs : List (List C)} {os : List Out} {z0 : Int} {z1 : ByteArray} {z2 : List (List C)} (h : laws_toTerm.dec rs os = some (z0, z1, z2)) (ho : OutShape (laws_toTerm.as a0_0 a0_1 a0_2) os) : rs = [[.d (.int .i64 z0), .d (.str z1), .own z2]] ∧ os = [] := by
  unfold laws_toTerm.dec at h
  obtain ⟨c1, r2, rfl, h1⟩ := uncons_some h
  obtain ⟨x3, l4, rfl, h2⟩ := uncons_some h1
  obtain ⟨d5, rfl, h3⟩ := cD_some h2
  obtain ⟨w0, rfl, h4⟩ := dInt_some h3
  obtain ⟨x6, l7, rfl, h5⟩ := uncons_some h4
  obtain ⟨d8, rfl, h6⟩ := cD_some h5
  obtain ⟨w1, rfl, h7⟩ := dStr_some h6
  obtain ⟨x9, l10, rfl, h8⟩ := uncons_some h7
  obtain ⟨w2, rfl, h9⟩ := cOwn_some h8
  obtain ⟨rfl, h10⟩ := atEnd_some h9
  obtain ⟨rfl, h11⟩ := atEnd_some h10
  obtain ⟨rfl, h12⟩ := atEnd_some h11
  simp only [Option.some.injEq, Prod.mk.injEq] at h12
  obtain ⟨rfl, rfl, rfl⟩ := h12
  exact ⟨rfl, rfl⟩
theorem laws_toTerm.ok (k : Nat) : EntryOK Try.prog 140 (laws_toTerm.e k) := by
  refine entry_of mix tyok (fn := Try.f140) (c := codeOf Try.f140) Try.func140 (by kernel_rfl) (h := laws_toTerm.h) (k := k) (E := laws_toTerm.E k) (env_cons (laws_toStringS.ok k) env_nil) (by kernel_rfl) (by kernel_rfl) rfl (enter_of Try.func140 (by kernel_rfl)) ?_
  intro β l K r hr
  simp only [laws_toTerm.e] at hr
  split at hr
  case h_2 => cases hr
  unfold laws_toTerm.f at hr
  split at hr
  case h_2 => cases hr
  rename_i hz
  exact ⟨_, _, hr, _, laws_toTerm.dec, _, (laws_toTerm.f_eq k _ _ _ laws_toTerm.dec).trans (by rw [laws_toTerm.kt_dec]; exact hz), fun rs os h ho => laws_toTerm.inj _ _ _ h ho⟩
/-! ### loop.example/g00119/laws.toTermS: function 80 -/
noncomputable def laws_toTermS.l0 {β : Type} (k : Nat) (v0_0 : List (List D)) (K : (List (List C)) → Option β) (L0 : (Int × (List (List C))) → Option β) (v : Int × (List (List C))) : Option β :=
  match v with
  | (v0_1, v0_2) => bif (decide ((v0_1 : Int) < (v0_0.length : Int))) then (atRow v0_0 v0_1 fun c13 => uncons c13 fun d14 r15 => dInt .i64 d14 fun x16 => uncons r15 fun d17 r18 => dStr d17 fun x19 => uncons r18 fun d20 r21 => dSl d20 fun x22 => atEnd r21 (laws_toTerm.f k x16 x19 x22 (fun y23 y24 y25 => guardP ((0 : Int) ≤ v0_1 ∧ v0_1 < (v0_2.length : Int)) (guardP (Int.toNat v0_1 < v0_2.length) (L0 (IntKind.wrap .i64 (v0_1 + 1), v0_2.modify (Int.toNat v0_1) fun c => splice c 0 [.d (.int .i64 y23), .d (.str y24), .own y25])))))) else (K v0_2)
noncomputable def laws_toTermS.g {β : Type} (k : Nat) (a0 : List (List D)) (K : (List (List C)) → Option β) : Option β :=
  guardP ((0 : Int) ≤ (a0.length : Int) ∧ (a0.length : Int) ≤ (most : Int) ∧ (a0.length : Int) ≤ (a0.length : Int) ∧ (a0.length : Int) ≤ (a0.length : Int)) (iter (laws_toTermS.l0 k a0 K) k (0, List.replicate (Int.toNat (a0.length : Int)) ([.d (.int .i64 0), .d (.str (⟨#[]⟩ : ByteArray)), .own ([] : List (List C))] : List C)))
noncomputable def laws_toTermS.t (k : Nat) (a0 : List (List D)) : Option ((List (List C))) := laws_toTermS.g k a0 (fun z0 => some z0)
noncomputable def laws_toTermS.f {β : Type} (k : Nat) (a0 : List (List D)) (K : (List (List C)) → Option β) : Option β :=
  match laws_toTermS.t k a0 with
  | some z0 => K z0
  | none => none
noncomputable def laws_toTermS.as (a0 : List (List D)) : List A := [.d (.sl a0)]
noncomputable def laws_toTermS.kt {β : Type} (a0 : List (List D)) (K0 : List (List C) → List Out → Option β) : (List (List C)) → Option β := fun z0 => K0 [[.own z0]] []
noncomputable def laws_toTermS.e (k : Nat) : Entry := { modes := [(.imm, 0)], rts := [40], al := false, run := fun {β} l K => match l with | [.d (.sl a0)] => laws_toTermS.f k a0 (laws_toTermS.kt a0 K) | _ => none }
noncomputable def laws_toTermS.E (k : Nat) : Env := fun g => bif g == 140 then some (laws_toTerm.e k) else none
noncomputable def laws_toTermS.h : Hints := ⟨fun n => bif n == 3 then ⟨[(0, .asis), (3, .asis), (4, .asis)], []⟩ else ⟨[], []⟩, fun _ => none, false, []⟩
noncomputable def laws_toTermS.s0 (v0_0 : List (List D)) (v : Int × (List (List C))) : St :=
  match v with
  | (v0_1, v0_2) => ⟨[.d false (.sl v0_0), .any, .any, .row 0, .d true (.int .i64 v0_1), .any, .any, .any, .any, .any, .any, .any, .any, .any, .any, .any, .any, .any, .any, .any, .any, .any, .any], [.row none true 40 v0_2]⟩
noncomputable def laws_toTermS.b0 {β : Type} (k : Nat) : St → (Ex → St → Option β) → Option β := fun s K => den Try.prog (laws_toTermS.E k) laws_toTermS.h.H laws_toTermS.h.J k (codeAt [1, 1, 0, 1, 0, 0] (codeOf Try.f80)) s K
noncomputable def laws_toTermS.c0 {β : Type} (k : Nat) (a0 : List (List D)) (K0 : List (List C) → List Out → Option β) : Ex → St → Option β := contAt Try.prog (laws_toTermS.E k) laws_toTermS.h k [1, 1, 0, 1, 0] (codeOf Try.f80) (finDen Try.prog Try.f80 laws_toTermS.h (laws_toTermS.as a0) K0)
theorem laws_toTermS.l0_eq {β : Type} (k : Nat) (a0 : List (List D)) (K0 : List (List C) → List Out → Option β) (v0_0 : List (List D)) : ∀ (kk : Nat) (v : Int × (List (List C))), loopDen (laws_toTermS.b0 k) (laws_toTermS.h.H 3) kk (laws_toTermS.s0 v0_0 v) (laws_toTermS.c0 k a0 K0) = iter (laws_toTermS.l0 k v0_0 (laws_toTermS.kt a0 K0)) kk v :=
  loop_eq (laws_toTermS.s0 v0_0) _ (fun L0 v => by obtain ⟨v0_1, v0_2⟩ := v; kernel_rfl)
noncomputable def laws_toTermS.m {β : Type} (k : Nat) (a0 : List (List D)) (K0 : List (List C) → List Out → Option β) (F : ((List (List D)) → (Int × (List (List C))) → Option β)) : Option β :=
  guardP ((0 : Int) ≤ (a0.length : Int) ∧ (a0.length : Int) ≤ (most : Int) ∧ (a0.length : Int) ≤ (a0.length : Int) ∧ (a0.length : Int) ≤ (a0.length : Int)) ((F) a0 (0, List.replicate (Int.toNat (a0.length : Int)) ([.d (.int .i64 0), .d (.str (⟨#[]⟩ : ByteArray)), .own ([] : List (List C))] : List C)))
theorem laws_toTermS.f_eq {β : Type} (k : Nat) (a0 : List (List D)) (K0 : List (List C) → List Out → Option β) : funDen Try.prog (laws_toTermS.E k) laws_toTermS.h k Try.f80 (laws_toTermS.as a0) K0 = laws_toTermS.g k a0 (laws_toTermS.kt a0 K0) := Eq.trans (b := (laws_toTermS.m k a0 K0) (fun (v0_0 : List (List D)) (v : Int × (List (List C))) => loopDen (laws_toTermS.b0 k) (laws_toTermS.h.H 3) k (laws_toTermS.s0 v0_0 v) (laws_toTermS.c0 k a0 K0))) (by kernel_rfl) (Eq.trans (congrArg (laws_toTermS.m k a0 K0) (funext fun v0_0 => funext fun v => laws_toTermS.l0_eq k a0 K0 v0_0 k v)) (by kernel_rfl))
noncomputable def laws_toTermS.dec (rs : List (List C)) (os : List Out) : Option ((List (List C))) := uncons rs fun c1 r2 => uncons c1 fun x3 l4 => cOwn x3 fun w0 => atEnd l4 <| atEnd r2 <| atEnd os (some w0)
theorem laws_toTermS.kt_dec (a0 : List (List D)) : laws_toTermS.kt a0 laws_toTermS.dec = (fun z0 => some z0) := by kernel_rfl
theorem laws_toTermS.inj (a0 : List (List D)) {rs : List (List C)} {os : List Out} {z0 : List (List C)} (h : laws_toTermS.dec rs os = some z0) (ho : OutShape (laws_toTermS.as a0) os) : rs = [[.own z0]] ∧ os = [] := by
  unfold laws_toTermS.dec at h
  obtain ⟨c1, r2, rfl, h1⟩ := uncons_some h
  obtain ⟨x3, l4, rfl, h2⟩ := uncons_some h1
  obtain ⟨w0, rfl, h3⟩ := cOwn_some h2
  obtain ⟨rfl, h4⟩ := atEnd_some h3
  obtain ⟨rfl, h5⟩ := atEnd_some h4
  obtain ⟨rfl, h6⟩ := atEnd_some h5
  obtain rfl := Option.some.inj h6
  exact ⟨rfl, rfl⟩
theorem laws_toTermS.ok (k : Nat) : EntryOK Try.prog 80 (laws_toTermS.e k) := by
  refine entry_of mix tyok (fn := Try.f80) (c := codeOf Try.f80) Try.func80 (by kernel_rfl) (h := laws_toTermS.h) (k := k) (E := laws_toTermS.E k) (env_cons (laws_toTerm.ok k) env_nil) (by kernel_rfl) (by kernel_rfl) rfl (enter_of Try.func80 (by kernel_rfl)) ?_
  intro β l K r hr
  simp only [laws_toTermS.e] at hr
  split at hr
  case h_2 => cases hr
  unfold laws_toTermS.f at hr
  split at hr
  case h_2 => cases hr
  rename_i hz
  exact ⟨_, _, hr, _, laws_toTermS.dec, _, (laws_toTermS.f_eq k _ laws_toTermS.dec).trans (by rw [laws_toTermS.kt_dec]; exact hz), fun rs os h ho => laws_toTermS.inj _ h ho⟩
/-! ### loop.example/g00119/laws.toWeigh: function 141 -/
noncomputable def laws_toWeigh.g {β : Type} (k : Nat) (a0_0 : ByteArray) (a0_1 : Int) (K : ByteArray → Int → Option β) : Option β :=
  K a0_0 a0_1
noncomputable def laws_toWeigh.t (k : Nat) (a0_0 : ByteArray) (a0_1 : Int) : Option (ByteArray × Int) := laws_toWeigh.g k a0_0 a0_1 (fun z0 z1 => some (z0, z1))
noncomputable def laws_toWeigh.f {β : Type} (k : Nat) (a0_0 : ByteArray) (a0_1 : Int) (K : ByteArray → Int → Option β) : Option β :=
  match laws_toWeigh.t k a0_0 a0_1 with
  | some (z0, z1) => K z0 z1
  | none => none
noncomputable def laws_toWeigh.as (a0_0 : ByteArray) (a0_1 : Int) : List A := [.agg [.str a0_0, .int .i64 a0_1]]
noncomputable def laws_toWeigh.kt {β : Type} (a0_0 : ByteArray) (a0_1 : Int) (K0 : List (List C) → List Out → Option β) : ByteArray → Int → Option β := fun z0 z1 => K0 [[.d (.str z0), .d (.int .i64 z1)]] []
noncomputable def laws_toWeigh.e (k : Nat) : Entry := { modes := [(.imm, 0)], rts := [125], al := false, run := fun {β} l K => match l with | [.agg [.str a0_0, .int .i64 a0_1]] => laws_toWeigh.f k a0_0 a0_1 (laws_toWeigh.kt a0_0 a0_1 K) | _ => none }
noncomputable def laws_toWeigh.E (k : Nat) : Env := fun g => none
noncomputable def laws_toWeigh.h : Hints := ⟨fun n => ⟨[], []⟩, fun _ => none, false, []⟩
theorem laws_toWeigh.f_eq {β : Type} (k : Nat) (a0_0 : ByteArray) (a0_1 : Int) (K0 : List (List C) → List Out → Option β) : funDen Try.prog (laws_toWeigh.E k) laws_toWeigh.h k Try.f141 (laws_toWeigh.as a0_0 a0_1) K0 = laws_toWeigh.g k a0_0 a0_1 (laws_toWeigh.kt a0_0 a0_1 K0) := by kernel_rfl
noncomputable def laws_toWeigh.dec (rs : List (List C)) (os : List Out) : Option (ByteArray × Int) := uncons rs fun c1 r2 => uncons c1 fun x3 l4 => cD x3 fun d5 => dStr d5 fun w0 => uncons l4 fun x6 l7 => cD x6 fun d8 => dInt .i64 d8 fun w1 => atEnd l7 <| atEnd r2 <| atEnd os (some (w0, w1))
theorem laws_toWeigh.kt_dec (a0_0 : ByteArray) (a0_1 : Int) : laws_toWeigh.kt a0_0 a0_1 laws_toWeigh.dec = (fun z0 z1 => some (z0, z1)) := by kernel_rfl
theorem laws_toWeigh.inj (a0_0 : ByteArray) (a0_1 : Int) {rs : List (List C)} {os : List Out} {z0 : ByteArray} {z1 : Int} (h : laws_toWeigh.dec rs os = some (z0, z1)) (ho : OutShape (laws_toWeigh.as a0_0 a0_1) os) : rs = [[.d (.str z0), .d (.int .i64 z1)]] ∧ os = [] := by
  unfold laws_toWeigh.dec at h
  obtain ⟨c1, r2, rfl, h1⟩ := uncons_some h
  obtain ⟨x3, l4, rfl, h2⟩ := uncons_some h1
  obtain ⟨d5, rfl, h3⟩ := cD_some h2
  obtain ⟨w0, rfl, h4⟩ := dStr_some h3
  obtain ⟨x6, l7, rfl, h5⟩ := uncons_some h4
  obtain ⟨d8, rfl, h6⟩ := cD_some h5
  obtain ⟨w1, rfl, h7⟩ := dInt_some h6
  obtain ⟨rfl, h8⟩ := atEnd_some h7
  obtain ⟨rfl, h9⟩ := atEnd_some h8
  obtain ⟨rfl, h10⟩ := atEnd_some h9
  simp only [Option.some.injEq, Prod.mk.injEq] at h10
  obtain ⟨rfl, rfl⟩ := h10
  exact ⟨rfl, rfl⟩
theorem laws_toWeigh.ok (k : Nat) : EntryOK Try.prog 141 (laws_toWeigh.e k) := by
  refine entry_of mix tyok (fn := Try.f141) (c := codeOf Try.f141) Try.func141 (by kernel_rfl) (h := laws_toWeigh.h) (k := k) (E := laws_toWeigh.E k) env_nil (by kernel_rfl) (by kernel_rfl) rfl (enter_of Try.func141 (by kernel_rfl)) ?_
  intro β l K r hr
  simp only [laws_toWeigh.e] at hr
  split at hr
  case h_2 => cases hr
  unfold laws_toWeigh.f at hr
  split at hr
  case h_2 => cases hr
  rename_i hz
  exact ⟨_, _, hr, _, laws_toWeigh.dec, _, (laws_toWeigh.f_eq k _ _ laws_toWeigh.dec).trans (by rw [laws_toWeigh.kt_dec]; exact hz), fun rs os h ho => laws_toWeigh.inj _ _ h ho⟩
/-! ### loop.example/g00119/laws.toWeighS: function 81 -/
noncomputable def laws_toWeighS.l0 {β : Type} (k : Nat) (v0_0 : List (List D)) (K : (List (List C)) → Option β) (L0 : (Int × (List (List C))) → Option β) (v : Int × (List (List C))) : Option β :=
  match v with
  | (v0_1, v0_2) => bif (decide ((v0_1 : Int) < (v0_0.length : Int))) then (atRow v0_0 v0_1 fun c3 => uncons c3 fun d4 r5 => dStr d4 fun x6 => uncons r5 fun d7 r8 => dInt .i64 d7 fun x9 => atEnd r8 (laws_toWeigh.f k x6 x9 (fun y10 y11 => guardP ((0 : Int) ≤ v0_1 ∧ v0_1 < (v0_2.length : Int)) (guardP (Int.toNat v0_1 < v0_2.length) (L0 (IntKind.wrap .i64 (v0_1 + 1), v0_2.modify (Int.toNat v0_1) fun c => splice c 0 [.d (.str y10), .d (.int .i64 y11)])))))) else (K v0_2)
noncomputable def laws_toWeighS.g {β : Type} (k : Nat) (a0 : List (List D)) (K : (List (List C)) → Option β) : Option β :=
  guardP ((0 : Int) ≤ (a0.length : Int) ∧ (a0.length : Int) ≤ (most : Int) ∧ (a0.length : Int) ≤ (a0.length : Int) ∧ (a0.length : Int) ≤ (a0.length : Int)) (iter (laws_toWeighS.l0 k a0 K) k (0, List.replicate (Int.toNat (a0.length : Int)) ([.d (.str (⟨#[]⟩ : ByteArray)), .d (.int .i64 0)] : List C)))
noncomputable def laws_toWeighS.t (k : Nat) (a0 : List (List D)) : Option ((List (List C))) := laws_toWeighS.g k a0 (fun z0 => some z0)
noncomputable def laws_toWeighS.f {β : Type} (k : Nat) (a0 : List (List D)) (K : (List (List C)) → Option β) : Option β :=
  match laws_toWeighS.t k a0 with
  | some z0 => K z0
  | none => none
noncomputable def laws_toWeighS.as (a0 : List (List D)) : List A := [.d (.sl a0)]
noncomputable def laws_toWeighS.kt {β : Type} (a0 : List (List D)) (K0 : List (List C) → List Out → Option β) : (List (List C)) → Option β := fun z0 => K0 [[.own z0]] []
noncomputable def laws_toWeighS.e (k : Nat) : Entry := { modes := [(.imm, 0)], rts := [41], al := false, run := fun {β} l K => match l with | [.d (.sl a0)] => laws_toWeighS.f k a0 (laws_toWeighS.kt a0 K) | _ => none }
noncomputable def laws_toWeighS.E (k : Nat) : Env := fun g => bif g == 141 then some (laws_toWeigh.e k) else none
noncomputable def laws_toWeighS.h : Hints := ⟨fun n => bif n == 3 then ⟨[(0, .asis), (3, .asis), (4, .asis)], []⟩ else ⟨[], []⟩, fun _ => none, false, []⟩
noncomputable def laws_toWeighS.s0 (v0_0 : List (List D)) (v : Int × (List (List C))) : St :=
  match v with
  | (v0_1, v0_2) => ⟨[.d false (.sl v0_0), .any, .any, .row 0, .d true (.int .i64 v0_1), .any, .any, .any, .any, .any, .any, .any, .any, .any, .any, .any, .any, .any, .any, .any, .any, .any, .any], [.row none true 41 v0_2]⟩
noncomputable def laws_toWeighS.b0 {β : Type} (k : Nat) : St → (Ex → St → Option β) → Option β := fun s K => den Try.prog (laws_toWeighS.E k) laws_toWeighS.h.H laws_toWeighS.h.J k (codeAt [1, 1, 0, 1, 0, 0] (codeOf Try.f81)) s K
noncomputable def laws_toWeighS.c0 {β : Type} (k : Nat) (a0 : List (List D)) (K0 : List (List C) → List Out → Option β) : Ex → St → Option β := contAt Try.prog (laws_toWeighS.E k) laws_toWeighS.h k [1, 1, 0, 1, 0] (codeOf Try.f81) (finDen Try.prog Try.f81 laws_toWeighS.h (laws_toWeighS.as a0) K0)
theorem laws_toWeighS.l0_eq {β : Type} (k : Nat) (a0 : List (List D)) (K0 : List (List C) → List Out → Option β) (v0_0 : List (List D)) : ∀ (kk : Nat) (v : Int × (List (List C))), loopDen (laws_toWeighS.b0 k) (laws_toWeighS.h.H 3) kk (laws_toWeighS.s0 v0_0 v) (laws_toWeighS.c0 k a0 K0) = iter (laws_toWeighS.l0 k v0_0 (laws_toWeighS.kt a0 K0)) kk v :=
  loop_eq (laws_toWeighS.s0 v0_0) _ (fun L0 v => by obtain ⟨v0_1, v0_2⟩ := v; kernel_rfl)
noncomputable def laws_toWeighS.m {β : Type} (k : Nat) (a0 : List (List D)) (K0 : List (List C) → List Out → Option β) (F : ((List (List D)) → (Int × (List (List C))) → Option β)) : Option β :=
  guardP ((0 : Int) ≤ (a0.length : Int) ∧ (a0.length : Int) ≤ (most : Int) ∧ (a0.length : Int) ≤ (a0.length : Int) ∧ (a0.length : Int) ≤ (a0.length : Int)) ((F) a0 (0, List.replicate (Int.toNat (a0.length : Int)) ([.d (.str (⟨#[]⟩ : ByteArray)), .d (.int .i64 0)] : List C)))
theorem laws_toWeighS.f_eq {β : Type} (k : Nat) (a0 : List (List D)) (K0 : List (List C) → List Out → Option β) : funDen Try.prog (laws_toWeighS.E k) laws_toWeighS.h k Try.f81 (laws_toWeighS.as a0) K0 = laws_toWeighS.g k a0 (laws_toWeighS.kt a0 K0) := Eq.trans (b := (laws_toWeighS.m k a0 K0) (fun (v0_0 : List (List D)) (v : Int × (List (List C))) => loopDen (laws_toWeighS.b0 k) (laws_toWeighS.h.H 3) k (laws_toWeighS.s0 v0_0 v) (laws_toWeighS.c0 k a0 K0))) (by kernel_rfl) (Eq.trans (congrArg (laws_toWeighS.m k a0 K0) (funext fun v0_0 => funext fun v => laws_toWeighS.l0_eq k a0 K0 v0_0 k v)) (by kernel_rfl))
noncomputable def laws_toWeighS.dec (rs : List (List C)) (os : List Out) : Option ((List (List C))) := uncons rs fun c1 r2 => uncons c1 fun x3 l4 => cOwn x3 fun w0 => atEnd l4 <| atEnd r2 <| atEnd os (some w0)
theorem laws_toWeighS.kt_dec (a0 : List (List D)) : laws_toWeighS.kt a0 laws_toWeighS.dec = (fun z0 => some z0) := by kernel_rfl
theorem laws_toWeighS.inj (a0 : List (List D)) {rs : List (List C)} {os : List Out} {z0 : List (List C)} (h : laws_toWeighS.dec rs os = some z0) (ho : OutShape (laws_toWeighS.as a0) os) : rs = [[.own z0]] ∧ os = [] := by
  unfold laws_toWeighS.dec at h
  obtain ⟨c1, r2, rfl, h1⟩ := uncons_some h
  obtain ⟨x3, l4, rfl, h2⟩ := uncons_some h1
  obtain ⟨w0, rfl, h3⟩ := cOwn_some h2
  obtain ⟨rfl, h4⟩ := atEnd_some h3
  obtain ⟨rfl, h5⟩ := atEnd_some h4
  obtain ⟨rfl, h6⟩ := atEnd_some h5
  obtain rfl := Option.some.inj h6
  exact ⟨rfl, rfl⟩
theorem laws_toWeighS.ok (k : Nat) : EntryOK Try.prog 81 (laws_toWeighS.e k) := by
  refine entry_of mix tyok (fn := Try.f81) (c := codeOf Try.f81) Try.func81 (by kernel_rfl) (h := laws_toWeighS.h) (k := k) (E := laws_toWeighS.E k) (env_cons (laws_toWeigh.ok k) env_nil) (by kernel_rfl) (by kernel_rfl) rfl (enter_of Try.func81 (by kernel_rfl)) ?_
  intro β l K r hr
  simp only [laws_toWeighS.e] at hr
  split at hr
  case h_2 => cases hr
  unfold laws_toWeighS.f at hr
  split at hr
  case h_2 => cases hr
  rename_i hz
  exact ⟨_, _, hr, _, laws_toWeighS.dec, _, (laws_toWeighS.f_eq k _ laws_toWeighS.dec).trans (by rw [laws_toWeighS.kt_dec]; exact hz), fun rs os h ho => laws_toWeighS.inj _ h ho⟩
/-! ### loop.example/g00119/laws.toWant: function 22 -/
noncomputable def laws_toWant.g {β : Type} (k : Nat) (a0_0 : Int) (a0_1 : List (List D)) (a0_2 : List (List D)) (a0_3 : List (List D)) (K : Int → (List (List C)) → (List (List C)) → (List (List C)) → Option β) : Option β :=
  laws_toTermS.f k a0_1 (fun y26 => laws_toStringS.f k a0_2 (fun y27 => laws_toWeighS.f k a0_3 (fun y12 => K a0_0 y26 y27 y12)))
noncomputable def laws_toWant.t (k : Nat) (a0_0 : Int) (a0_1 : List (List D)) (a0_2 : List (List D)) (a0_3 : List (List D)) : Option (Int × (List (List C)) × (List (List C)) × (List (List C))) := laws_toWant.g k a0_0 a0_1 a0_2 a0_3 (fun z0 z1 z2 z3 => some (z0, z1, z2, z3))
noncomputable def laws_toWant.f {β : Type} (k : Nat) (a0_0 : Int) (a0_1 : List (List D)) (a0_2 : List (List D)) (a0_3 : List (List D)) (K : Int → (List (List C)) → (List (List C)) → (List (List C)) → Option β) : Option β :=
  match laws_toWant.t k a0_0 a0_1 a0_2 a0_3 with
  | some (z0, z1, z2, z3) => K z0 z1 z2 z3
  | none => none
noncomputable def laws_toWant.as (a0_0 : Int) (a0_1 : List (List D)) (a0_2 : List (List D)) (a0_3 : List (List D)) : List A := [.agg [.int .i64 a0_0, .sl a0_1, .sl a0_2, .sl a0_3]]
noncomputable def laws_toWant.kt {β : Type} (a0_0 : Int) (a0_1 : List (List D)) (a0_2 : List (List D)) (a0_3 : List (List D)) (K0 : List (List C) → List Out → Option β) : Int → (List (List C)) → (List (List C)) → (List (List C)) → Option β := fun z0 z1 z2 z3 => K0 [[.d (.int .i64 z0), .own z1, .own z2, .own z3]] []
noncomputable def laws_toWant.e (k : Nat) : Entry := { modes := [(.imm, 0)], rts := [43], al := false, run := fun {β} l K => match l with | [.agg [.int .i64 a0_0, .sl a0_1, .sl a0_2, .sl a0_3]] => laws_toWant.f k a0_0 a0_1 a0_2 a0_3 (laws_toWant.kt a0_0 a0_1 a0_2 a0_3 K) | _ => none }
noncomputable def laws_toWant.E (k : Nat) : Env := fun g => bif g == 80 then some (laws_toTermS.e k) else bif g == 71 then some (laws_toStringS.e k) else bif g == 81 then some (laws_toWeighS.e k) else none
noncomputable def laws_toWant.h : Hints := ⟨fun n => ⟨[], []⟩, fun _ => none, false, []⟩
theorem laws_toWant.f_eq {β : Type} (k : Nat) (a0_0 : Int) (a0_1 : List (List D)) (a0_2 : List (List D)) (a0_3 : List (List D)) (K0 : List (List C) → List Out → Option β) : funDen Try.prog (laws_toWant.E k) laws_toWant.h k Try.f22 (laws_toWant.as a0_0 a0_1 a0_2 a0_3) K0 = laws_toWant.g k a0_0 a0_1 a0_2 a0_3 (laws_toWant.kt a0_0 a0_1 a0_2 a0_3 K0) := by kernel_rfl
noncomputable def laws_toWant.dec (rs : List (List C)) (os : List Out) : Option (Int × (List (List C)) × (List (List C)) × (List (List C))) := uncons rs fun c1 r2 => uncons c1 fun x3 l4 => cD x3 fun d5 => dInt .i64 d5 fun w0 => uncons l4 fun x6 l7 => cOwn x6 fun w1 => uncons l7 fun x8 l9 => cOwn x8 fun w2 => uncons l9 fun x10 l11 => cOwn x10 fun w3 => atEnd l11 <| atEnd r2 <| atEnd os (some (w0, w1, w2, w3))
theorem laws_toWant.kt_dec (a0_0 : Int) (a0_1 : List (List D)) (a0_2 : List (List D)) (a0_3 : List (List D)) : laws_toWant.kt a0_0 a0_1 a0_2 a0_3 laws_toWant.dec = (fun z0 z1 z2 z3 => some (z0, z1, z2, z3)) := by kernel_rfl
theorem laws_toWant.inj (a0_0 : Int) (a0_1 : List (List D)) (a0_2 : List (List D)) (a0_3 : List (List D)) {rs : List (List C)} {os : List Out} {z0 : Int} {z1 : List (List C)} {z2 : List (List C)} {z3 : List (List C)} (h : laws_toWant.dec rs os = some (z0, z1, z2, z3)) (ho : OutShape (laws_toWant.as a0_0 a0_1 a0_2 a0_3) os) : rs = [[.d (.int .i64 z0), .own z1, .own z2, .own z3]] ∧ os = [] := by
  unfold laws_toWant.dec at h
  obtain ⟨c1, r2, rfl, h1⟩ := uncons_some h
  obtain ⟨x3, l4, rfl, h2⟩ := uncons_some h1
  obtain ⟨d5, rfl, h3⟩ := cD_some h2
  obtain ⟨w0, rfl, h4⟩ := dInt_some h3
  obtain ⟨x6, l7, rfl, h5⟩ := uncons_some h4
  obtain ⟨w1, rfl, h6⟩ := cOwn_some h5
  obtain ⟨x8, l9, rfl, h7⟩ := uncons_some h6
  obtain ⟨w2, rfl, h8⟩ := cOwn_some h7
  obtain ⟨x10, l11, rfl, h9⟩ := uncons_some h8
  obtain ⟨w3, rfl, h10⟩ := cOwn_some h9
  obtain ⟨rfl, h11⟩ := atEnd_some h10
  obtain ⟨rfl, h12⟩ := atEnd_some h11
  obtain ⟨rfl, h13⟩ := atEnd_some h12
  simp only [Option.some.injEq, Prod.mk.injEq] at h13
  obtain ⟨rfl, rfl, rfl, rfl⟩ := h13
  exact ⟨rfl, rfl⟩
theorem laws_toWant.ok (k : Nat) : EntryOK Try.prog 22 (laws_toWant.e k) := by
  refine entry_of mix tyok (fn := Try.f22) (c := codeOf Try.f22) Try.func22 (by kernel_rfl) (h := laws_toWant.h) (k := k) (E := laws_toWant.E k) (env_cons (laws_toTermS.ok k) (env_cons (laws_toStringS.ok k) (env_cons (laws_toWeighS.ok k) env_nil))) (by kernel_rfl) (by kernel_rfl) rfl (enter_of Try.func22 (by kernel_rfl)) ?_
  intro β l K r hr
  simp only [laws_toWant.e] at hr
  split at hr
  case h_2 => cases hr
  unfold laws_toWant.f at hr
  split at hr
  case h_2 => cases hr
  rename_i hz
  exact ⟨_, _, hr, _, laws_toWant.dec, _, (laws_toWant.f_eq k _ _ _ _ laws_toWant.dec).trans (by rw [laws_toWant.kt_dec]; exact hz), fun rs os h ho => laws_toWant.inj _ _ _ _ h ho⟩
/-! ### loop.example/g00119/spec.l1In: function 69 -/
noncomputable def spec_l1In.g {β : Type} (k : Nat) (a0 : Int) (a1 : Int) (a2 : Int) (K : Bool → Option β) : Option β :=
  bif (decide ((a0 : Int) ≥ a1)) then (K (decide ((a0 : Int) ≤ a2))) else (K false)
noncomputable def spec_l1In.t (k : Nat) (a0 : Int) (a1 : Int) (a2 : Int) : Option (Bool) := spec_l1In.g k a0 a1 a2 (fun z0 => some z0)
noncomputable def spec_l1In.f {β : Type} (k : Nat) (a0 : Int) (a1 : Int) (a2 : Int) (K : Bool → Option β) : Option β :=
  match spec_l1In.t k a0 a1 a2 with
  | some z0 => K z0
  | none => none
noncomputable def spec_l1In.as (a0 : Int) (a1 : Int) (a2 : Int) : List A := [.d (.int .i64 a0), .d (.int .i64 a1), .d (.int .i64 a2)]
noncomputable def spec_l1In.kt {β : Type} (a0 : Int) (a1 : Int) (a2 : Int) (K0 : List (List C) → List Out → Option β) : Bool → Option β := fun z0 => K0 [[.d (.bool z0)]] []
noncomputable def spec_l1In.e (k : Nat) : Entry := { modes := [(.imm, 0), (.imm, 0), (.imm, 0)], rts := [4], al := false, run := fun {β} l K => match l with | [.d (.int .i64 a0), .d (.int .i64 a1), .d (.int .i64 a2)] => spec_l1In.f k a0 a1 a2 (spec_l1In.kt a0 a1 a2 K) | _ => none }
noncomputable def spec_l1In.E (k : Nat) : Env := fun g => none
noncomputable def spec_l1In.h : Hints := ⟨fun n => ⟨[], []⟩, fun _ => none, false, []⟩
theorem spec_l1In.f_eq {β : Type} (k : Nat) (a0 : Int) (a1 : Int) (a2 : Int) (K0 : List (List C) → List Out → Option β) : funDen Try.prog (spec_l1In.E k) spec_l1In.h k Try.f69 (spec_l1In.as a0 a1 a2) K0 = spec_l1In.g k a0 a1 a2 (spec_l1In.kt a0 a1 a2 K0) := by kernel_rfl
noncomputable def spec_l1In.dec (rs : List (List C)) (os : List Out) : Option (Bool) := uncons rs fun c1 r2 => uncons c1 fun x3 l4 => cD x3 fun d5 => dBool d5 fun w0 => atEnd l4 <| atEnd r2 <| atEnd os (some w0)
theorem spec_l1In.kt_dec (a0 : Int) (a1 : Int) (a2 : Int) : spec_l1In.kt a0 a1 a2 spec_l1In.dec = (fun z0 => some z0) := by kernel_rfl
theorem spec_l1In.inj (a0 : Int) (a1 : Int) (a2 : Int) {rs : List (List C)} {os : List Out} {z0 : Bool} (h : spec_l1In.dec rs os = some z0) (ho : OutShape (spec_l1In.as a0 a1 a2) os) : rs = [[.d (.bool z0)]] ∧ os = [] := by
  unfold spec_l1In.dec at h
  obtain ⟨c1, r2, rfl, h1⟩ := uncons_some h
  obtain ⟨x3, l4, rfl, h2⟩ := uncons_some h1
  obtain ⟨d5, rfl, h3⟩ := cD_some h2
  obtain ⟨w0, rfl, h4⟩ := dBool_some h3
  obtain ⟨rfl, h5⟩ := atEnd_some h4
  obtain ⟨rfl, h6⟩ := atEnd_some h5
  obtain ⟨rfl, h7⟩ := atEnd_some h6
  obtain rfl := Option.some.inj h7
  exact ⟨rfl, rfl⟩
theorem spec_l1In.ok (k : Nat) : EntryOK Try.prog 69 (spec_l1In.e k) := by
  refine entry_of mix tyok (fn := Try.f69) (c := codeOf Try.f69) Try.func69 (by kernel_rfl) (h := spec_l1In.h) (k := k) (E := spec_l1In.E k) env_nil (by kernel_rfl) (by kernel_rfl) rfl (enter_of Try.func69 (by kernel_rfl)) ?_
  intro β l K r hr
  simp only [spec_l1In.e] at hr
  split at hr
  case h_2 => cases hr
  unfold spec_l1In.f at hr
  split at hr
  case h_2 => cases hr
  rename_i hz
  exact ⟨_, _, hr, _, spec_l1In.dec, _, (spec_l1In.f_eq k _ _ _ spec_l1In.dec).trans (by rw [spec_l1In.kt_dec]; exact hz), fun rs os h ho => spec_l1In.inj _ _ _ h ho⟩
/-! ### loop.example/g00119/spec.NameOk: function 66 -/
noncomputable def spec_NameOk.l0 {β : Type} (k : Nat) (v0_0 : ByteArray) (K : Bool → Option β) (L0 : Int → Option β) (v : Int) : Option β :=
  match v with
  | v0_1 => bif (decide ((v0_1 : Int) < (v0_0.size : Int))) then (atStr v0_0 v0_1 fun b8 => spec_l1In.f k (IntKind.wrap .i64 b8) 97 122 (fun y9 => bif (!y9) then (atStr v0_0 v0_1 fun b10 => spec_l1In.f k (IntKind.wrap .i64 b10) 48 57 (fun y11 => bif (!y11) then (atStr v0_0 v0_1 fun b12 => bif ((b12 : Int) != 45) then (K false) else (L0 (IntKind.wrap .i64 (v0_1 + 1)))) else (L0 (IntKind.wrap .i64 (v0_1 + 1))))) else (L0 (IntKind.wrap .i64 (v0_1 + 1))))) else (spec_l1In.f k (v0_0.size : Int) 1 20 (fun y13 => bif y13 then (atStr v0_0 0 fun b14 => bif ((b14 : Int) != 45) then (atStr v0_0 (IntKind.wrap .i64 ((v0_0.size : Int) - 1)) fun b15 => K ((b15 : Int) != 45)) else (K false)) else (K false)))
noncomputable def spec_NameOk.g {β : Type} (k : Nat) (a0 : ByteArray) (K : Bool → Option β) : Option β :=
  iter (spec_NameOk.l0 k a0 K) k (0)
noncomputable def spec_NameOk.t (k : Nat) (a0 : ByteArray) : Option (Bool) := spec_NameOk.g k a0 (fun z0 => some z0)
noncomputable def spec_NameOk.f {β : Type} (k : Nat) (a0 : ByteArray) (K : Bool → Option β) : Option β :=
  match spec_NameOk.t k a0 with
  | some z0 => K z0
  | none => none
noncomputable def spec_NameOk.as (a0 : ByteArray) : List A := [.d (.str a0)]
noncomputable def spec_NameOk.kt {β : Type} (a0 : ByteArray) (K0 : List (List C) → List Out → Option β) : Bool → Option β := fun z0 => K0 [[.d (.bool z0)]] []
noncomputable def spec_NameOk.e (k : Nat) : Entry := { modes := [(.imm, 0)], rts := [4], al := false, run := fun {β} l K => match l with | [.d (.str a0)] => spec_NameOk.f k a0 (spec_NameOk.kt a0 K) | _ => none }
noncomputable def spec_NameOk.E (k : Nat) : Env := fun g => bif g == 69 then some (spec_l1In.e k) else none
noncomputable def spec_NameOk.h : Hints := ⟨fun n => bif n == 2 then ⟨[(0, .asis), (3, .asis)], []⟩ else ⟨[], []⟩, fun _ => none, false, []⟩
noncomputable def spec_NameOk.s0 (v0_0 : ByteArray) (v : Int) : St :=
  match v with
  | v0_1 => ⟨[.d false (.str v0_0), .any, .any, .d true (.int .i64 v0_1), .any, .any, .any, .any, .any, .any, .any, .any, .any, .any, .any, .any, .any, .any, .any, .any, .any, .any, .any, .any, .any, .any, .any, .any, .any, .any, .any, .any, .any, .any, .any, .any, .any, .any, .any, .any, .any, .any, .any, .any, .any, .any], []⟩
noncomputable def spec_NameOk.b0 {β : Type} (k : Nat) : St → (Ex → St → Option β) → Option β := fun s K => den Try.prog (spec_NameOk.E k) spec_NameOk.h.H spec_NameOk.h.J k (codeAt [1, 0, 1, 0, 0] (codeOf Try.f66)) s K
noncomputable def spec_NameOk.c0 {β : Type} (k : Nat) (a0 : ByteArray) (K0 : List (List C) → List Out → Option β) : Ex → St → Option β := contAt Try.prog (spec_NameOk.E k) spec_NameOk.h k [1, 0, 1, 0] (codeOf Try.f66) (finDen Try.prog Try.f66 spec_NameOk.h (spec_NameOk.as a0) K0)
theorem spec_NameOk.l0_eq {β : Type} (k : Nat) (a0 : ByteArray) (K0 : List (List C) → List Out → Option β) (v0_0 : ByteArray) : ∀ (kk : Nat) (v : Int), loopDen (spec_NameOk.b0 k) (spec_NameOk.h.H 2) kk (spec_NameOk.s0 v0_0 v) (spec_NameOk.c0 k a0 K0) = iter (spec_NameOk.l0 k v0_0 (spec_NameOk.kt a0 K0)) kk v :=
  loop_eq (spec_NameOk.s0 v0_0) _ (fun L0 v => by kernel_rfl)
noncomputable def spec_NameOk.m {β : Type} (k : Nat) (a0 : ByteArray) (K0 : List (List C) → List Out → Option β) (F : (ByteArray → Int → Option β)) : Option β :=
  (F) a0 (0)
theorem spec_NameOk.f_eq {β : Type} (k : Nat) (a0 : ByteArray) (K0 : List (List C) → List Out → Option β) : funDen Try.prog (spec_NameOk.E k) spec_NameOk.h k Try.f66 (spec_NameOk.as a0) K0 = spec_NameOk.g k a0 (spec_NameOk.kt a0 K0) := Eq.trans (b := (spec_NameOk.m k a0 K0) (fun (v0_0 : ByteArray) (v : Int) => loopDen (spec_NameOk.b0 k) (spec_NameOk.h.H 2) k (spec_NameOk.s0 v0_0 v) (spec_NameOk.c0 k a0 K0))) (by kernel_rfl) (Eq.trans (congrArg (spec_NameOk.m k a0 K0) (funext fun v0_0 => funext fun v => spec_NameOk.l0_eq k a0 K0 v0_0 k v)) (by kernel_rfl))
noncomputable def spec_NameOk.dec (rs : List (List C)) (os : List Out) : Option (Bool) := uncons rs fun c1 r2 => uncons c1 fun x3 l4 => cD x3 fun d5 => dBool d5 fun w0 => atEnd l4 <| atEnd r2 <| atEnd os (some w0)
theorem spec_NameOk.kt_dec (a0 : ByteArray) : spec_NameOk.kt a0 spec_NameOk.dec = (fun z0 => some z0) := by kernel_rfl
theorem spec_NameOk.inj (a0 : ByteArray) {rs : List (List C)} {os : List Out} {z0 : Bool} (h : spec_NameOk.dec rs os = some z0) (ho : OutShape (spec_NameOk.as a0) os) : rs = [[.d (.bool z0)]] ∧ os = [] := by
  unfold spec_NameOk.dec at h
  obtain ⟨c1, r2, rfl, h1⟩ := uncons_some h
  obtain ⟨x3, l4, rfl, h2⟩ := uncons_some h1
  obtain ⟨d5, rfl, h3⟩ := cD_some h2
  obtain ⟨w0, rfl, h4⟩ := dBool_some h3
  obtain ⟨rfl, h5⟩ := atEnd_some h4
  obtain ⟨rfl, h6⟩ := atEnd_some h5
  obtain ⟨rfl, h7⟩ := atEnd_some h6
  obtain rfl := Option.some.inj h7
  exact ⟨rfl, rfl⟩
theorem spec_NameOk.ok (k : Nat) : EntryOK Try.prog 66 (spec_NameOk.e k) := by
  refine entry_of mix tyok (fn := Try.f66) (c := codeOf Try.f66) Try.func66 (by kernel_rfl) (h := spec_NameOk.h) (k := k) (E := spec_NameOk.E k) (env_cons (spec_l1In.ok k) env_nil) (by kernel_rfl) (by kernel_rfl) rfl (enter_of Try.func66 (by kernel_rfl)) ?_
  intro β l K r hr
  simp only [spec_NameOk.e] at hr
  split at hr
  case h_2 => cases hr
  unfold spec_NameOk.f at hr
  split at hr
  case h_2 => cases hr
  rename_i hz
  exact ⟨_, _, hr, _, spec_NameOk.dec, _, (spec_NameOk.f_eq k _ spec_NameOk.dec).trans (by rw [spec_NameOk.kt_dec]; exact hz), fun rs os h ho => spec_NameOk.inj _ h ho⟩
/-! ### loop.example/g00119/spec.l2Term: function 155 -/
noncomputable def spec_l2Term.l0 {β : Type} (k : Nat) (v0_0 : Int) (v0_2 : Int) (v0_3 : ByteArray) (v0_4 : List (List D)) (K : Bool → Option β) (L0 : Int → Option β) (v : Int) : Option β :=
  match v with
  | v0_1 => bif (decide ((v0_1 : Int) < v0_0)) then (atRow v0_4 v0_1 fun c17 => uncons c17 fun d18 r19 => dStr d18 fun x20 => atEnd r19 (spec_NameOk.f k x20 (fun y21 => bif (!y21) then (K false) else (bif (decide ((v0_1 : Int) > 0)) then (atRow v0_4 (IntKind.wrap .i64 (v0_1 - 1)) fun c22 => uncons c22 fun d23 r24 => dStr d23 fun x25 => atEnd r24 (atRow v0_4 v0_1 fun c26 => uncons c26 fun d27 r28 => dStr d27 fun x29 => atEnd r28 (bif (!(strLt x25 x29)) then (K false) else (L0 (IntKind.wrap .i64 (v0_1 + 1)))))) else (L0 (IntKind.wrap .i64 (v0_1 + 1))))))) else (spec_NameOk.f k v0_3 (fun y30 => bif (!y30) then (K false) else (bif ((v0_2 : Int) == 1) then (bif ((v0_2 : Int) == 1) then (K ((v0_0 : Int) == 1)) else (bif ((v0_2 : Int) == 3) then (spec_l1In.f k v0_0 1 6 (fun y31 => K y31)) else (bif ((v0_2 : Int) == 4) then (bif ((v0_2 : Int) == 4) then (K ((v0_0 : Int) == 0)) else (K false)) else (bif ((v0_2 : Int) == 5) then (K ((v0_0 : Int) == 0)) else (K false))))) else (bif ((v0_2 : Int) == 2) then (K ((v0_0 : Int) == 1)) else (bif ((v0_2 : Int) == 3) then (spec_l1In.f k v0_0 1 6 (fun y32 => K y32)) else (bif ((v0_2 : Int) == 4) then (bif ((v0_2 : Int) == 4) then (K ((v0_0 : Int) == 0)) else (K false)) else (bif ((v0_2 : Int) == 5) then (K ((v0_0 : Int) == 0)) else (K false))))))))
noncomputable def spec_l2Term.g {β : Type} (k : Nat) (a0_0 : Int) (a0_1 : ByteArray) (a0_2 : List (List D)) (K : Bool → Option β) : Option β :=
  iter (spec_l2Term.l0 k (a0_2.length : Int) a0_0 a0_1 a0_2 K) k (0)
noncomputable def spec_l2Term.t (k : Nat) (a0_0 : Int) (a0_1 : ByteArray) (a0_2 : List (List D)) : Option (Bool) := spec_l2Term.g k a0_0 a0_1 a0_2 (fun z0 => some z0)
noncomputable def spec_l2Term.f {β : Type} (k : Nat) (a0_0 : Int) (a0_1 : ByteArray) (a0_2 : List (List D)) (K : Bool → Option β) : Option β :=
  match spec_l2Term.t k a0_0 a0_1 a0_2 with
  | some z0 => K z0
  | none => none
noncomputable def spec_l2Term.as (a0_0 : Int) (a0_1 : ByteArray) (a0_2 : List (List D)) : List A := [.agg [.int .i64 a0_0, .str a0_1, .sl a0_2]]
noncomputable def spec_l2Term.kt {β : Type} (a0_0 : Int) (a0_1 : ByteArray) (a0_2 : List (List D)) (K0 : List (List C) → List Out → Option β) : Bool → Option β := fun z0 => K0 [[.d (.bool z0)]] []
noncomputable def spec_l2Term.e (k : Nat) : Entry := { modes := [(.imm, 0)], rts := [4], al := false, run := fun {β} l K => match l with | [.agg [.int .i64 a0_0, .str a0_1, .sl a0_2]] => spec_l2Term.f k a0_0 a0_1 a0_2 (spec_l2Term.kt a0_0 a0_1 a0_2 K) | _ => none }
noncomputable def spec_l2Term.E (k : Nat) : Env := fun g => bif g == 66 then some (spec_NameOk.e k) else bif g == 69 then some (spec_l1In.e k) else none
noncomputable def spec_l2Term.h : Hints := ⟨fun n => bif n == 3 then ⟨[(1, .asis), (3, .asis), (4, .asis)], []⟩ else ⟨[], []⟩, fun _ => none, false, []⟩
noncomputable def spec_l2Term.s0 (v0_0 : Int) (v0_2 : Int) (v0_3 : ByteArray) (v0_4 : List (List D)) (v : Int) : St :=
  match v with
  | v0_1 => ⟨[.any, .bp 0 0, .any, .d true (.int .i64 v0_0), .d true (.int .i64 v0_1), .any, .any, .any, .any, .any, .any, .any, .any, .any, .any, .any, .any, .any, .any, .any, .any, .any, .any, .any, .any, .any, .any, .any, .any, .any, .any, .any, .any, .any, .any, .any, .any, .any, .any, .any, .any, .any, .any, .any, .any, .any, .any, .any, .any, .any, .any, .any, .any, .any, .any, .any, .any, .any], [.box none 194 [.d false (.int .i64 v0_2), .d false (.str v0_3), .d false (.sl v0_4)]]⟩
noncomputable def spec_l2Term.b0 {β : Type} (k : Nat) : St → (Ex → St → Option β) → Option β := fun s K => den Try.prog (spec_l2Term.E k) spec_l2Term.h.H spec_l2Term.h.J k (codeAt [1, 1, 0, 1, 0, 0] (codeOf Try.f155)) s K
noncomputable def spec_l2Term.c0 {β : Type} (k : Nat) (a0_0 : Int) (a0_1 : ByteArray) (a0_2 : List (List D)) (K0 : List (List C) → List Out → Option β) : Ex → St → Option β := contAt Try.prog (spec_l2Term.E k) spec_l2Term.h k [1, 1, 0, 1, 0] (codeOf Try.f155) (finDen Try.prog Try.f155 spec_l2Term.h (spec_l2Term.as a0_0 a0_1 a0_2) K0)
theorem spec_l2Term.l0_eq {β : Type} (k : Nat) (a0_0 : Int) (a0_1 : ByteArray) (a0_2 : List (List D)) (K0 : List (List C) → List Out → Option β) (v0_0 : Int) (v0_2 : Int) (v0_3 : ByteArray) (v0_4 : List (List D)) : ∀ (kk : Nat) (v : Int), loopDen (spec_l2Term.b0 k) (spec_l2Term.h.H 3) kk (spec_l2Term.s0 v0_0 v0_2 v0_3 v0_4 v) (spec_l2Term.c0 k a0_0 a0_1 a0_2 K0) = iter (spec_l2Term.l0 k v0_0 v0_2 v0_3 v0_4 (spec_l2Term.kt a0_0 a0_1 a0_2 K0)) kk v :=
  loop_eq (spec_l2Term.s0 v0_0 v0_2 v0_3 v0_4) _ (fun L0 v => by kernel_rfl)
noncomputable def spec_l2Term.m {β : Type} (k : Nat) (a0_0 : Int) (a0_1 : ByteArray) (a0_2 : List (List D)) (K0 : List (List C) → List Out → Option β) (F : (Int → Int → ByteArray → (List (List D)) → Int → Option β)) : Option β :=
  (F) (a0_2.length : Int) a0_0 a0_1 a0_2 (0)
theorem spec_l2Term.f_eq {β : Type} (k : Nat) (a0_0 : Int) (a0_1 : ByteArray) (a0_2 : List (List D)) (K0 : List (List C) → List Out → Option β) : funDen Try.prog (spec_l2Term.E k) spec_l2Term.h k Try.f155 (spec_l2Term.as a0_0 a0_1 a0_2) K0 = spec_l2Term.g k a0_0 a0_1 a0_2 (spec_l2Term.kt a0_0 a0_1 a0_2 K0) := Eq.trans (b := (spec_l2Term.m k a0_0 a0_1 a0_2 K0) (fun (v0_0 : Int) (v0_2 : Int) (v0_3 : ByteArray) (v0_4 : List (List D)) (v : Int) => loopDen (spec_l2Term.b0 k) (spec_l2Term.h.H 3) k (spec_l2Term.s0 v0_0 v0_2 v0_3 v0_4 v) (spec_l2Term.c0 k a0_0 a0_1 a0_2 K0))) (by kernel_rfl) (Eq.trans (congrArg (spec_l2Term.m k a0_0 a0_1 a0_2 K0) (funext fun v0_0 => funext fun v0_2 => funext fun v0_3 => funext fun v0_4 => funext fun v => spec_l2Term.l0_eq k a0_0 a0_1 a0_2 K0 v0_0 v0_2 v0_3 v0_4 k v)) (by kernel_rfl))
noncomputable def spec_l2Term.dec (rs : List (List C)) (os : List Out) : Option (Bool) := uncons rs fun c1 r2 => uncons c1 fun x3 l4 => cD x3 fun d5 => dBool d5 fun w0 => atEnd l4 <| atEnd r2 <| atEnd os (some w0)
theorem spec_l2Term.kt_dec (a0_0 : Int) (a0_1 : ByteArray) (a0_2 : List (List D)) : spec_l2Term.kt a0_0 a0_1 a0_2 spec_l2Term.dec = (fun z0 => some z0) := by kernel_rfl
theorem spec_l2Term.inj (a0_0 : Int) (a0_1 : ByteArray) (a0_2 : List (List D)) {rs : List (List C)} {os : List Out} {z0 : Bool} (h : spec_l2Term.dec rs os = some z0) (ho : OutShape (spec_l2Term.as a0_0 a0_1 a0_2) os) : rs = [[.d (.bool z0)]] ∧ os = [] := by
  unfold spec_l2Term.dec at h
  obtain ⟨c1, r2, rfl, h1⟩ := uncons_some h
  obtain ⟨x3, l4, rfl, h2⟩ := uncons_some h1
  obtain ⟨d5, rfl, h3⟩ := cD_some h2
  obtain ⟨w0, rfl, h4⟩ := dBool_some h3
  obtain ⟨rfl, h5⟩ := atEnd_some h4
  obtain ⟨rfl, h6⟩ := atEnd_some h5
  obtain ⟨rfl, h7⟩ := atEnd_some h6
  obtain rfl := Option.some.inj h7
  exact ⟨rfl, rfl⟩
theorem spec_l2Term.ok (k : Nat) : EntryOK Try.prog 155 (spec_l2Term.e k) := by
  refine entry_of mix tyok (fn := Try.f155) (c := codeOf Try.f155) Try.func155 (by kernel_rfl) (h := spec_l2Term.h) (k := k) (E := spec_l2Term.E k) (env_cons (spec_NameOk.ok k) (env_cons (spec_l1In.ok k) env_nil)) (by kernel_rfl) (by kernel_rfl) rfl (enter_of Try.func155 (by kernel_rfl)) ?_
  intro β l K r hr
  simp only [spec_l2Term.e] at hr
  split at hr
  case h_2 => cases hr
  unfold spec_l2Term.f at hr
  split at hr
  case h_2 => cases hr
  rename_i hz
  exact ⟨_, _, hr, _, spec_l2Term.dec, _, (spec_l2Term.f_eq k _ _ _ spec_l2Term.dec).trans (by rw [spec_l2Term.kt_dec]; exact hz), fun rs os h ho => spec_l2Term.inj _ _ _ h ho⟩
/-! ### loop.example/g00119/spec.SelectorOk: function 98 -/
noncomputable def spec_SelectorOk.l0 {β : Type} (k : Nat) (v0_0 : List (List D)) (K : Bool → Option β) (L0 : Int → Option β) (v : Int) : Option β :=
  match v with
  | v0_1 => bif (decide ((v0_1 : Int) < (v0_0.length : Int))) then (atRow v0_0 v0_1 fun c34 => uncons c34 fun d35 r36 => dInt .i64 d35 fun x37 => uncons r36 fun d38 r39 => dStr d38 fun x40 => uncons r39 fun d41 r42 => dSl d41 fun x43 => atEnd r42 (spec_l2Term.f k x37 x40 x43 (fun y44 => bif (!y44) then (K false) else (L0 (IntKind.wrap .i64 (v0_1 + 1)))))) else (K (decide (((v0_0.length : Int) : Int) ≤ 8)))
noncomputable def spec_SelectorOk.g {β : Type} (k : Nat) (a0 : List (List D)) (K : Bool → Option β) : Option β :=
  iter (spec_SelectorOk.l0 k a0 K) k (0)
noncomputable def spec_SelectorOk.t (k : Nat) (a0 : List (List D)) : Option (Bool) := spec_SelectorOk.g k a0 (fun z0 => some z0)
noncomputable def spec_SelectorOk.f {β : Type} (k : Nat) (a0 : List (List D)) (K : Bool → Option β) : Option β :=
  match spec_SelectorOk.t k a0 with
  | some z0 => K z0
  | none => none
noncomputable def spec_SelectorOk.as (a0 : List (List D)) : List A := [.d (.sl a0)]
noncomputable def spec_SelectorOk.kt {β : Type} (a0 : List (List D)) (K0 : List (List C) → List Out → Option β) : Bool → Option β := fun z0 => K0 [[.d (.bool z0)]] []
noncomputable def spec_SelectorOk.e (k : Nat) : Entry := { modes := [(.imm, 0)], rts := [4], al := false, run := fun {β} l K => match l with | [.d (.sl a0)] => spec_SelectorOk.f k a0 (spec_SelectorOk.kt a0 K) | _ => none }
noncomputable def spec_SelectorOk.E (k : Nat) : Env := fun g => bif g == 155 then some (spec_l2Term.e k) else none
noncomputable def spec_SelectorOk.h : Hints := ⟨fun n => bif n == 2 then ⟨[(0, .asis), (3, .asis)], []⟩ else ⟨[], []⟩, fun _ => none, false, []⟩
noncomputable def spec_SelectorOk.s0 (v0_0 : List (List D)) (v : Int) : St :=
  match v with
  | v0_1 => ⟨[.d false (.sl v0_0), .any, .any, .d true (.int .i64 v0_1), .any, .any, .any, .any, .any, .any, .any, .any, .any, .any, .any, .any, .any, .any, .any], []⟩
noncomputable def spec_SelectorOk.b0 {β : Type} (k : Nat) : St → (Ex → St → Option β) → Option β := fun s K => den Try.prog (spec_SelectorOk.E k) spec_SelectorOk.h.H spec_SelectorOk.h.J k (codeAt [1, 0, 1, 0, 0] (codeOf Try.f98)) s K
noncomputable def spec_SelectorOk.c0 {β : Type} (k : Nat) (a0 : List (List D)) (K0 : List (List C) → List Out → Option β) : Ex → St → Option β := contAt Try.prog (spec_SelectorOk.E k) spec_SelectorOk.h k [1, 0, 1, 0] (codeOf Try.f98) (finDen Try.prog Try.f98 spec_SelectorOk.h (spec_SelectorOk.as a0) K0)
theorem spec_SelectorOk.l0_eq {β : Type} (k : Nat) (a0 : List (List D)) (K0 : List (List C) → List Out → Option β) (v0_0 : List (List D)) : ∀ (kk : Nat) (v : Int), loopDen (spec_SelectorOk.b0 k) (spec_SelectorOk.h.H 2) kk (spec_SelectorOk.s0 v0_0 v) (spec_SelectorOk.c0 k a0 K0) = iter (spec_SelectorOk.l0 k v0_0 (spec_SelectorOk.kt a0 K0)) kk v :=
  loop_eq (spec_SelectorOk.s0 v0_0) _ (fun L0 v => by kernel_rfl)
noncomputable def spec_SelectorOk.m {β : Type} (k : Nat) (a0 : List (List D)) (K0 : List (List C) → List Out → Option β) (F : ((List (List D)) → Int → Option β)) : Option β :=
  (F) a0 (0)
theorem spec_SelectorOk.f_eq {β : Type} (k : Nat) (a0 : List (List D)) (K0 : List (List C) → List Out → Option β) : funDen Try.prog (spec_SelectorOk.E k) spec_SelectorOk.h k Try.f98 (spec_SelectorOk.as a0) K0 = spec_SelectorOk.g k a0 (spec_SelectorOk.kt a0 K0) := Eq.trans (b := (spec_SelectorOk.m k a0 K0) (fun (v0_0 : List (List D)) (v : Int) => loopDen (spec_SelectorOk.b0 k) (spec_SelectorOk.h.H 2) k (spec_SelectorOk.s0 v0_0 v) (spec_SelectorOk.c0 k a0 K0))) (by kernel_rfl) (Eq.trans (congrArg (spec_SelectorOk.m k a0 K0) (funext fun v0_0 => funext fun v => spec_SelectorOk.l0_eq k a0 K0 v0_0 k v)) (by kernel_rfl))
noncomputable def spec_SelectorOk.dec (rs : List (List C)) (os : List Out) : Option (Bool) := uncons rs fun c1 r2 => uncons c1 fun x3 l4 => cD x3 fun d5 => dBool d5 fun w0 => atEnd l4 <| atEnd r2 <| atEnd os (some w0)
theorem spec_SelectorOk.kt_dec (a0 : List (List D)) : spec_SelectorOk.kt a0 spec_SelectorOk.dec = (fun z0 => some z0) := by kernel_rfl
theorem spec_SelectorOk.inj (a0 : List (List D)) {rs : List (List C)} {os : List Out} {z0 : Bool} (h : spec_SelectorOk.dec rs os = some z0) (ho : OutShape (spec_SelectorOk.as a0) os) : rs = [[.d (.bool z0)]] ∧ os = [] := by
  unfold spec_SelectorOk.dec at h
  obtain ⟨c1, r2, rfl, h1⟩ := uncons_some h
  obtain ⟨x3, l4, rfl, h2⟩ := uncons_some h1
  obtain ⟨d5, rfl, h3⟩ := cD_some h2
  obtain ⟨w0, rfl, h4⟩ := dBool_some h3
  obtain ⟨rfl, h5⟩ := atEnd_some h4
  obtain ⟨rfl, h6⟩ := atEnd_some h5
  obtain ⟨rfl, h7⟩ := atEnd_some h6
  obtain rfl := Option.some.inj h7
  exact ⟨rfl, rfl⟩
theorem spec_SelectorOk.ok (k : Nat) : EntryOK Try.prog 98 (spec_SelectorOk.e k) := by
  refine entry_of mix tyok (fn := Try.f98) (c := codeOf Try.f98) Try.func98 (by kernel_rfl) (h := spec_SelectorOk.h) (k := k) (E := spec_SelectorOk.E k) (env_cons (spec_l2Term.ok k) env_nil) (by kernel_rfl) (by kernel_rfl) rfl (enter_of Try.func98 (by kernel_rfl)) ?_
  intro β l K r hr
  simp only [spec_SelectorOk.e] at hr
  split at hr
  case h_2 => cases hr
  unfold spec_SelectorOk.f at hr
  split at hr
  case h_2 => cases hr
  rename_i hz
  exact ⟨_, _, hr, _, spec_SelectorOk.dec, _, (spec_SelectorOk.f_eq k _ spec_SelectorOk.dec).trans (by rw [spec_SelectorOk.kt_dec]; exact hz), fun rs os h ho => spec_SelectorOk.inj _ h ho⟩
/-! ### loop.example/g00119/spec.l10Names: function 68 -/
noncomputable def spec_l10Names.l0 {β : Type} (k : Nat) (v0_0 : List (List D)) (v0_1 : Int) (K : Bool → Option β) (L0 : Int → Option β) (v : Int) : Option β :=
  match v with
  | v0_2 => bif (decide ((v0_2 : Int) < (v0_0.length : Int))) then (atRow v0_0 v0_2 fun c14 => uncons c14 fun d15 r16 => dStr d15 fun x17 => atEnd r16 (spec_NameOk.f k x17 (fun y18 => bif (!y18) then (K false) else (bif (decide ((v0_2 : Int) > 0)) then (atRow v0_0 (IntKind.wrap .i64 (v0_2 - 1)) fun c19 => uncons c19 fun d20 r21 => dStr d20 fun x22 => atEnd r21 (atRow v0_0 v0_2 fun c23 => uncons c23 fun d24 r25 => dStr d24 fun x26 => atEnd r25 (bif (!(strLt x22 x26)) then (K false) else (L0 (IntKind.wrap .i64 (v0_2 + 1)))))) else (L0 (IntKind.wrap .i64 (v0_2 + 1))))))) else (K (decide (((v0_0.length : Int) : Int) ≤ v0_1)))
noncomputable def spec_l10Names.g {β : Type} (k : Nat) (a0 : List (List D)) (a1 : Int) (K : Bool → Option β) : Option β :=
  iter (spec_l10Names.l0 k a0 a1 K) k (0)
noncomputable def spec_l10Names.t (k : Nat) (a0 : List (List D)) (a1 : Int) : Option (Bool) := spec_l10Names.g k a0 a1 (fun z0 => some z0)
noncomputable def spec_l10Names.f {β : Type} (k : Nat) (a0 : List (List D)) (a1 : Int) (K : Bool → Option β) : Option β :=
  match spec_l10Names.t k a0 a1 with
  | some z0 => K z0
  | none => none
noncomputable def spec_l10Names.as (a0 : List (List D)) (a1 : Int) : List A := [.d (.sl a0), .d (.int .i64 a1)]
noncomputable def spec_l10Names.kt {β : Type} (a0 : List (List D)) (a1 : Int) (K0 : List (List C) → List Out → Option β) : Bool → Option β := fun z0 => K0 [[.d (.bool z0)]] []
noncomputable def spec_l10Names.e (k : Nat) : Entry := { modes := [(.imm, 0), (.imm, 0)], rts := [4], al := false, run := fun {β} l K => match l with | [.d (.sl a0), .d (.int .i64 a1)] => spec_l10Names.f k a0 a1 (spec_l10Names.kt a0 a1 K) | _ => none }
noncomputable def spec_l10Names.E (k : Nat) : Env := fun g => bif g == 66 then some (spec_NameOk.e k) else none
noncomputable def spec_l10Names.h : Hints := ⟨fun n => bif n == 2 then ⟨[(0, .asis), (1, .asis), (5, .asis)], []⟩ else ⟨[], []⟩, fun _ => none, false, []⟩
noncomputable def spec_l10Names.s0 (v0_0 : List (List D)) (v0_1 : Int) (v : Int) : St :=
  match v with
  | v0_2 => ⟨[.d false (.sl v0_0), .d false (.int .i64 v0_1), .any, .any, .any, .d true (.int .i64 v0_2), .any, .any, .any, .any, .any, .any, .any, .any, .any, .any, .any, .any, .any, .any, .any, .any, .any, .any, .any, .any, .any, .any, .any, .any, .any, .any, .any, .any, .any, .any, .any, .any], []⟩
noncomputable def spec_l10Names.b0 {β : Type} (k : Nat) : St → (Ex → St → Option β) → Option β := fun s K => den Try.prog (spec_l10Names.E k) spec_l10Names.h.H spec_l10Names.h.J k (codeAt [1, 0, 1, 0, 0] (codeOf Try.f68)) s K
noncomputable def spec_l10Names.c0 {β : Type} (k : Nat) (a0 : List (List D)) (a1 : Int) (K0 : List (List C) → List Out → Option β) : Ex → St → Option β := contAt Try.prog (spec_l10Names.E k) spec_l10Names.h k [1, 0, 1, 0] (codeOf Try.f68) (finDen Try.prog Try.f68 spec_l10Names.h (spec_l10Names.as a0 a1) K0)
theorem spec_l10Names.l0_eq {β : Type} (k : Nat) (a0 : List (List D)) (a1 : Int) (K0 : List (List C) → List Out → Option β) (v0_0 : List (List D)) (v0_1 : Int) : ∀ (kk : Nat) (v : Int), loopDen (spec_l10Names.b0 k) (spec_l10Names.h.H 2) kk (spec_l10Names.s0 v0_0 v0_1 v) (spec_l10Names.c0 k a0 a1 K0) = iter (spec_l10Names.l0 k v0_0 v0_1 (spec_l10Names.kt a0 a1 K0)) kk v :=
  loop_eq (spec_l10Names.s0 v0_0 v0_1) _ (fun L0 v => by kernel_rfl)
noncomputable def spec_l10Names.m {β : Type} (k : Nat) (a0 : List (List D)) (a1 : Int) (K0 : List (List C) → List Out → Option β) (F : ((List (List D)) → Int → Int → Option β)) : Option β :=
  (F) a0 a1 (0)
theorem spec_l10Names.f_eq {β : Type} (k : Nat) (a0 : List (List D)) (a1 : Int) (K0 : List (List C) → List Out → Option β) : funDen Try.prog (spec_l10Names.E k) spec_l10Names.h k Try.f68 (spec_l10Names.as a0 a1) K0 = spec_l10Names.g k a0 a1 (spec_l10Names.kt a0 a1 K0) := Eq.trans (b := (spec_l10Names.m k a0 a1 K0) (fun (v0_0 : List (List D)) (v0_1 : Int) (v : Int) => loopDen (spec_l10Names.b0 k) (spec_l10Names.h.H 2) k (spec_l10Names.s0 v0_0 v0_1 v) (spec_l10Names.c0 k a0 a1 K0))) (by kernel_rfl) (Eq.trans (congrArg (spec_l10Names.m k a0 a1 K0) (funext fun v0_0 => funext fun v0_1 => funext fun v => spec_l10Names.l0_eq k a0 a1 K0 v0_0 v0_1 k v)) (by kernel_rfl))
noncomputable def spec_l10Names.dec (rs : List (List C)) (os : List Out) : Option (Bool) := uncons rs fun c1 r2 => uncons c1 fun x3 l4 => cD x3 fun d5 => dBool d5 fun w0 => atEnd l4 <| atEnd r2 <| atEnd os (some w0)
theorem spec_l10Names.kt_dec (a0 : List (List D)) (a1 : Int) : spec_l10Names.kt a0 a1 spec_l10Names.dec = (fun z0 => some z0) := by kernel_rfl
theorem spec_l10Names.inj (a0 : List (List D)) (a1 : Int) {rs : List (List C)} {os : List Out} {z0 : Bool} (h : spec_l10Names.dec rs os = some z0) (ho : OutShape (spec_l10Names.as a0 a1) os) : rs = [[.d (.bool z0)]] ∧ os = [] := by
  unfold spec_l10Names.dec at h
  obtain ⟨c1, r2, rfl, h1⟩ := uncons_some h
  obtain ⟨x3, l4, rfl, h2⟩ := uncons_some h1
  obtain ⟨d5, rfl, h3⟩ := cD_some h2
  obtain ⟨w0, rfl, h4⟩ := dBool_some h3
  obtain ⟨rfl, h5⟩ := atEnd_some h4
  obtain ⟨rfl, h6⟩ := atEnd_some h5
  obtain ⟨rfl, h7⟩ := atEnd_some h6
  obtain rfl := Option.some.inj h7
  exact ⟨rfl, rfl⟩
theorem spec_l10Names.ok (k : Nat) : EntryOK Try.prog 68 (spec_l10Names.e k) := by
  refine entry_of mix tyok (fn := Try.f68) (c := codeOf Try.f68) Try.func68 (by kernel_rfl) (h := spec_l10Names.h) (k := k) (E := spec_l10Names.E k) (env_cons (spec_NameOk.ok k) env_nil) (by kernel_rfl) (by kernel_rfl) rfl (enter_of Try.func68 (by kernel_rfl)) ?_
  intro β l K r hr
  simp only [spec_l10Names.e] at hr
  split at hr
  case h_2 => cases hr
  unfold spec_l10Names.f at hr
  split at hr
  case h_2 => cases hr
  rename_i hz
  exact ⟨_, _, hr, _, spec_l10Names.dec, _, (spec_l10Names.f_eq k _ _ spec_l10Names.dec).trans (by rw [spec_l10Names.kt_dec]; exact hz), fun rs os h ho => spec_l10Names.inj _ _ h ho⟩
/-! ### loop.example/g00119/spec.WantOk: function 37 -/
noncomputable def spec_WantOk.l0 {β : Type} (k : Nat) (v0_1 : Int) (v0_2 : List (List D)) (v0_3 : List (List D)) (v0_4 : List (List D)) (K : Bool → Option β) (L0 : Int → Option β) (v : Int) : Option β :=
  match v with
  | v0_0 => bif (decide ((v0_0 : Int) < (v0_4.length : Int))) then (atRow v0_4 v0_0 fun c28 => uncons c28 fun d29 r30 => dStr d29 fun x31 => uncons r30 fun d32 r33 => dInt .i64 d32 fun x34 => atEnd r33 (spec_NameOk.f k x31 (fun y35 => bif (!y35) then (K false) else (atRow v0_4 v0_0 fun c36 => uncons c36 fun d37 r38 => dStr d37 fun x39 => uncons r38 fun d40 r41 => dInt .i64 d40 fun x42 => atEnd r41 (spec_l1In.f k x42 0 1000 (fun y43 => bif (!y43) then (K false) else (bif (decide ((v0_0 : Int) > 0)) then (atRow v0_4 (IntKind.wrap .i64 (v0_0 - 1)) fun c44 => uncons c44 fun d45 r46 => dStr d45 fun x47 => uncons r46 fun d48 r49 => dInt .i64 d48 fun x50 => atEnd r49 (atRow v0_4 v0_0 fun c51 => uncons c51 fun d52 r53 => dStr d52 fun x54 => uncons r53 fun d55 r56 => dInt .i64 d55 fun x57 => atEnd r56 (bif (!(strLt x47 x54)) then (K false) else (L0 (IntKind.wrap .i64 (v0_0 + 1)))))) else (L0 (IntKind.wrap .i64 (v0_0 + 1)))))))))) else (spec_l1In.f k v0_1 0 10000 (fun y58 => bif y58 then (spec_SelectorOk.f k v0_2 (fun y59 => bif y59 then (spec_l10Names.f k v0_3 8 (fun y60 => bif y60 then (K (decide (((v0_4.length : Int) : Int) ≤ 12))) else (K false))) else (K false))) else (K false)))
noncomputable def spec_WantOk.g {β : Type} (k : Nat) (a0_0 : Int) (a0_1 : List (List D)) (a0_2 : List (List D)) (a0_3 : List (List D)) (K : Bool → Option β) : Option β :=
  iter (spec_WantOk.l0 k a0_0 a0_1 a0_2 a0_3 K) k (0)
noncomputable def spec_WantOk.t (k : Nat) (a0_0 : Int) (a0_1 : List (List D)) (a0_2 : List (List D)) (a0_3 : List (List D)) : Option (Bool) := spec_WantOk.g k a0_0 a0_1 a0_2 a0_3 (fun z0 => some z0)
noncomputable def spec_WantOk.f {β : Type} (k : Nat) (a0_0 : Int) (a0_1 : List (List D)) (a0_2 : List (List D)) (a0_3 : List (List D)) (K : Bool → Option β) : Option β :=
  match spec_WantOk.t k a0_0 a0_1 a0_2 a0_3 with
  | some z0 => K z0
  | none => none
noncomputable def spec_WantOk.as (a0_0 : Int) (a0_1 : List (List D)) (a0_2 : List (List D)) (a0_3 : List (List D)) : List A := [.agg [.int .i64 a0_0, .sl a0_1, .sl a0_2, .sl a0_3]]
noncomputable def spec_WantOk.kt {β : Type} (a0_0 : Int) (a0_1 : List (List D)) (a0_2 : List (List D)) (a0_3 : List (List D)) (K0 : List (List C) → List Out → Option β) : Bool → Option β := fun z0 => K0 [[.d (.bool z0)]] []
noncomputable def spec_WantOk.e (k : Nat) : Entry := { modes := [(.imm, 0)], rts := [4], al := false, run := fun {β} l K => match l with | [.agg [.int .i64 a0_0, .sl a0_1, .sl a0_2, .sl a0_3]] => spec_WantOk.f k a0_0 a0_1 a0_2 a0_3 (spec_WantOk.kt a0_0 a0_1 a0_2 a0_3 K) | _ => none }
noncomputable def spec_WantOk.E (k : Nat) : Env := fun g => bif g == 66 then some (spec_NameOk.e k) else bif g == 69 then some (spec_l1In.e k) else bif g == 98 then some (spec_SelectorOk.e k) else bif g == 68 then some (spec_l10Names.e k) else none
noncomputable def spec_WantOk.h : Hints := ⟨fun n => bif n == 2 then ⟨[(1, .asis), (3, .asis)], []⟩ else ⟨[], []⟩, fun _ => none, false, []⟩
noncomputable def spec_WantOk.s0 (v0_1 : Int) (v0_2 : List (List D)) (v0_3 : List (List D)) (v0_4 : List (List D)) (v : Int) : St :=
  match v with
  | v0_0 => ⟨[.any, .bp 0 0, .any, .d true (.int .i64 v0_0), .any, .any, .any, .any, .any, .any, .any, .any, .any, .any, .any, .any, .any, .any, .any, .any, .any, .any, .any, .any, .any, .any, .any, .any, .any, .any, .any, .any, .any, .any, .any, .any, .any, .any, .any, .any, .any, .any, .any, .any, .any, .any, .any, .any, .any, .any, .any, .any, .any, .any, .any, .any, .any, .any, .any, .any, .any, .any, .any, .any, .any, .any, .any, .any], [.box none 43 [.d false (.int .i64 v0_1), .d false (.sl v0_2), .d false (.sl v0_3), .d false (.sl v0_4)]]⟩
noncomputable def spec_WantOk.b0 {β : Type} (k : Nat) : St → (Ex → St → Option β) → Option β := fun s K => den Try.prog (spec_WantOk.E k) spec_WantOk.h.H spec_WantOk.h.J k (codeAt [1, 0, 1, 0, 0] (codeOf Try.f37)) s K
noncomputable def spec_WantOk.c0 {β : Type} (k : Nat) (a0_0 : Int) (a0_1 : List (List D)) (a0_2 : List (List D)) (a0_3 : List (List D)) (K0 : List (List C) → List Out → Option β) : Ex → St → Option β := contAt Try.prog (spec_WantOk.E k) spec_WantOk.h k [1, 0, 1, 0] (codeOf Try.f37) (finDen Try.prog Try.f37 spec_WantOk.h (spec_WantOk.as a0_0 a0_1 a0_2 a0_3) K0)
theorem spec_WantOk.l0_eq {β : Type} (k : Nat) (a0_0 : Int) (a0_1 : List (List D)) (a0_2 : List (List D)) (a0_3 : List (List D)) (K0 : List (List C) → List Out → Option β) (v0_1 : Int) (v0_2 : List (List D)) (v0_3 : List (List D)) (v0_4 : List (List D)) : ∀ (kk : Nat) (v : Int), loopDen (spec_WantOk.b0 k) (spec_WantOk.h.H 2) kk (spec_WantOk.s0 v0_1 v0_2 v0_3 v0_4 v) (spec_WantOk.c0 k a0_0 a0_1 a0_2 a0_3 K0) = iter (spec_WantOk.l0 k v0_1 v0_2 v0_3 v0_4 (spec_WantOk.kt a0_0 a0_1 a0_2 a0_3 K0)) kk v :=
  loop_eq (spec_WantOk.s0 v0_1 v0_2 v0_3 v0_4) _ (fun L0 v => by kernel_rfl)
noncomputable def spec_WantOk.m {β : Type} (k : Nat) (a0_0 : Int) (a0_1 : List (List D)) (a0_2 : List (List D)) (a0_3 : List (List D)) (K0 : List (List C) → List Out → Option β) (F : (Int → (List (List D)) → (List (List D)) → (List (List D)) → Int → Option β)) : Option β :=
  (F) a0_0 a0_1 a0_2 a0_3 (0)
theorem spec_WantOk.f_eq {β : Type} (k : Nat) (a0_0 : Int) (a0_1 : List (List D)) (a0_2 : List (List D)) (a0_3 : List (List D)) (K0 : List (List C) → List Out → Option β) : funDen Try.prog (spec_WantOk.E k) spec_WantOk.h k Try.f37 (spec_WantOk.as a0_0 a0_1 a0_2 a0_3) K0 = spec_WantOk.g k a0_0 a0_1 a0_2 a0_3 (spec_WantOk.kt a0_0 a0_1 a0_2 a0_3 K0) := Eq.trans (b := (spec_WantOk.m k a0_0 a0_1 a0_2 a0_3 K0) (fun (v0_1 : Int) (v0_2 : List (List D)) (v0_3 : List (List D)) (v0_4 : List (List D)) (v : Int) => loopDen (spec_WantOk.b0 k) (spec_WantOk.h.H 2) k (spec_WantOk.s0 v0_1 v0_2 v0_3 v0_4 v) (spec_WantOk.c0 k a0_0 a0_1 a0_2 a0_3 K0))) (by kernel_rfl) (Eq.trans (congrArg (spec_WantOk.m k a0_0 a0_1 a0_2 a0_3 K0) (funext fun v0_1 => funext fun v0_2 => funext fun v0_3 => funext fun v0_4 => funext fun v => spec_WantOk.l0_eq k a0_0 a0_1 a0_2 a0_3 K0 v0_1 v0_2 v0_3 v0_4 k v)) (by kernel_rfl))
noncomputable def spec_WantOk.dec (rs : List (List C)) (os : List Out) : Option (Bool) := uncons rs fun c1 r2 => uncons c1 fun x3 l4 => cD x3 fun d5 => dBool d5 fun w0 => atEnd l4 <| atEnd r2 <| atEnd os (some w0)
theorem spec_WantOk.kt_dec (a0_0 : Int) (a0_1 : List (List D)) (a0_2 : List (List D)) (a0_3 : List (List D)) : spec_WantOk.kt a0_0 a0_1 a0_2 a0_3 spec_WantOk.dec = (fun z0 => some z0) := by kernel_rfl
theorem spec_WantOk.inj (a0_0 : Int) (a0_1 : List (List D)) (a0_2 : List (List D)) (a0_3 : List (List D)) {rs : List (List C)} {os : List Out} {z0 : Bool} (h : spec_WantOk.dec rs os = some z0) (ho : OutShape (spec_WantOk.as a0_0 a0_1 a0_2 a0_3) os) : rs = [[.d (.bool z0)]] ∧ os = [] := by
  unfold spec_WantOk.dec at h
  obtain ⟨c1, r2, rfl, h1⟩ := uncons_some h
  obtain ⟨x3, l4, rfl, h2⟩ := uncons_some h1
  obtain ⟨d5, rfl, h3⟩ := cD_some h2
  obtain ⟨w0, rfl, h4⟩ := dBool_some h3
  obtain ⟨rfl, h5⟩ := atEnd_some h4
  obtain ⟨rfl, h6⟩ := atEnd_some h5
  obtain ⟨rfl, h7⟩ := atEnd_some h6
  obtain rfl := Option.some.inj h7
  exact ⟨rfl, rfl⟩
theorem spec_WantOk.ok (k : Nat) : EntryOK Try.prog 37 (spec_WantOk.e k) := by
  refine entry_of mix tyok (fn := Try.f37) (c := codeOf Try.f37) Try.func37 (by kernel_rfl) (h := spec_WantOk.h) (k := k) (E := spec_WantOk.E k) (env_cons (spec_NameOk.ok k) (env_cons (spec_l1In.ok k) (env_cons (spec_SelectorOk.ok k) (env_cons (spec_l10Names.ok k) env_nil)))) (by kernel_rfl) (by kernel_rfl) rfl (enter_of Try.func37 (by kernel_rfl)) ?_
  intro β l K r hr
  simp only [spec_WantOk.e] at hr
  split at hr
  case h_2 => cases hr
  unfold spec_WantOk.f at hr
  split at hr
  case h_2 => cases hr
  rename_i hz
  exact ⟨_, _, hr, _, spec_WantOk.dec, _, (spec_WantOk.f_eq k _ _ _ _ spec_WantOk.dec).trans (by rw [spec_WantOk.kt_dec]; exact hz), fun rs os h ho => spec_WantOk.inj _ _ _ _ h ho⟩
/-! ### loop.example/g00119/impl.within: function 87 -/
noncomputable def impl_within.g {β : Type} (k : Nat) (a0 : Int) (a1 : Int) (a2 : Int) (K : Bool → Option β) : Option β :=
  bif (decide ((a0 : Int) ≥ a1)) then (K (decide ((a0 : Int) ≤ a2))) else (K false)
noncomputable def impl_within.t (k : Nat) (a0 : Int) (a1 : Int) (a2 : Int) : Option (Bool) := impl_within.g k a0 a1 a2 (fun z0 => some z0)
noncomputable def impl_within.f {β : Type} (k : Nat) (a0 : Int) (a1 : Int) (a2 : Int) (K : Bool → Option β) : Option β :=
  match impl_within.t k a0 a1 a2 with
  | some z0 => K z0
  | none => none
noncomputable def impl_within.as (a0 : Int) (a1 : Int) (a2 : Int) : List A := [.d (.int .i64 a0), .d (.int .i64 a1), .d (.int .i64 a2)]
noncomputable def impl_within.kt {β : Type} (a0 : Int) (a1 : Int) (a2 : Int) (K0 : List (List C) → List Out → Option β) : Bool → Option β := fun z0 => K0 [[.d (.bool z0)]] []
noncomputable def impl_within.e (k : Nat) : Entry := { modes := [(.imm, 0), (.imm, 0), (.imm, 0)], rts := [4], al := false, run := fun {β} l K => match l with | [.d (.int .i64 a0), .d (.int .i64 a1), .d (.int .i64 a2)] => impl_within.f k a0 a1 a2 (impl_within.kt a0 a1 a2 K) | _ => none }
noncomputable def impl_within.E (k : Nat) : Env := fun g => none
noncomputable def impl_within.h : Hints := ⟨fun n => ⟨[], []⟩, fun _ => none, false, []⟩
theorem impl_within.f_eq {β : Type} (k : Nat) (a0 : Int) (a1 : Int) (a2 : Int) (K0 : List (List C) → List Out → Option β) : funDen Try.prog (impl_within.E k) impl_within.h k Try.f87 (impl_within.as a0 a1 a2) K0 = impl_within.g k a0 a1 a2 (impl_within.kt a0 a1 a2 K0) := by kernel_rfl
noncomputable def impl_within.dec (rs : List (List C)) (os : List Out) : Option (Bool) := uncons rs fun c1 r2 => uncons c1 fun x3 l4 => cD x3 fun d5 => dBool d5 fun w0 => atEnd l4 <| atEnd r2 <| atEnd os (some w0)
theorem impl_within.kt_dec (a0 : Int) (a1 : Int) (a2 : Int) : impl_within.kt a0 a1 a2 impl_within.dec = (fun z0 => some z0) := by kernel_rfl
theorem impl_within.inj (a0 : Int) (a1 : Int) (a2 : Int) {rs : List (List C)} {os : List Out} {z0 : Bool} (h : impl_within.dec rs os = some z0) (ho : OutShape (impl_within.as a0 a1 a2) os) : rs = [[.d (.bool z0)]] ∧ os = [] := by
  unfold impl_within.dec at h
  obtain ⟨c1, r2, rfl, h1⟩ := uncons_some h
  obtain ⟨x3, l4, rfl, h2⟩ := uncons_some h1
  obtain ⟨d5, rfl, h3⟩ := cD_some h2
  obtain ⟨w0, rfl, h4⟩ := dBool_some h3
  obtain ⟨rfl, h5⟩ := atEnd_some h4
  obtain ⟨rfl, h6⟩ := atEnd_some h5
  obtain ⟨rfl, h7⟩ := atEnd_some h6
  obtain rfl := Option.some.inj h7
  exact ⟨rfl, rfl⟩
theorem impl_within.ok (k : Nat) : EntryOK Try.prog 87 (impl_within.e k) := by
  refine entry_of mix tyok (fn := Try.f87) (c := codeOf Try.f87) Try.func87 (by kernel_rfl) (h := impl_within.h) (k := k) (E := impl_within.E k) env_nil (by kernel_rfl) (by kernel_rfl) rfl (enter_of Try.func87 (by kernel_rfl)) ?_
  intro β l K r hr
  simp only [impl_within.e] at hr
  split at hr
  case h_2 => cases hr
  unfold impl_within.f at hr
  split at hr
  case h_2 => cases hr
  rename_i hz
  exact ⟨_, _, hr, _, impl_within.dec, _, (impl_within.f_eq k _ _ _ impl_within.dec).trans (by rw [impl_within.kt_dec]; exact hz), fun rs os h ho => impl_within.inj _ _ _ h ho⟩
/-! ### loop.example/g00119/impl.NameOk: function 72 -/
noncomputable def impl_NameOk.l0 {β : Type} (k : Nat) (v0_0 : ByteArray) (v0_1 : Int) (K : Bool → Option β) (L0 : Int → Option β) (v : Int) : Option β :=
  match v with
  | v0_2 => bif (decide ((v0_2 : Int) < v0_1)) then (atStr v0_0 v0_2 fun b4 => bif (decide ((b4 : Int) < 97)) then (bif (decide ((b4 : Int) < 48)) then (bif ((b4 : Int) != 45) then (K false) else (L0 (IntKind.wrap .i64 (v0_2 + 1)))) else (bif (decide ((b4 : Int) > 57)) then (bif ((b4 : Int) != 45) then (K false) else (L0 (IntKind.wrap .i64 (v0_2 + 1)))) else (L0 (IntKind.wrap .i64 (v0_2 + 1))))) else (bif (decide ((b4 : Int) > 122)) then (bif (decide ((b4 : Int) < 48)) then (bif ((b4 : Int) != 45) then (K false) else (L0 (IntKind.wrap .i64 (v0_2 + 1)))) else (bif (decide ((b4 : Int) > 57)) then (bif ((b4 : Int) != 45) then (K false) else (L0 (IntKind.wrap .i64 (v0_2 + 1)))) else (L0 (IntKind.wrap .i64 (v0_2 + 1))))) else (L0 (IntKind.wrap .i64 (v0_2 + 1))))) else (impl_within.f k (v0_0.size : Int) 1 20 (fun y5 => bif y5 then (atStr v0_0 0 fun b6 => bif ((b6 : Int) != 45) then (atStr v0_0 (IntKind.wrap .i64 ((v0_0.size : Int) - 1)) fun b7 => K ((b7 : Int) != 45)) else (K false)) else (K false)))
noncomputable def impl_NameOk.g {β : Type} (k : Nat) (a0 : ByteArray) (K : Bool → Option β) : Option β :=
  iter (impl_NameOk.l0 k a0 (a0.size : Int) K) k (0)
noncomputable def impl_NameOk.t (k : Nat) (a0 : ByteArray) : Option (Bool) := impl_NameOk.g k a0 (fun z0 => some z0)
noncomputable def impl_NameOk.f {β : Type} (k : Nat) (a0 : ByteArray) (K : Bool → Option β) : Option β :=
  match impl_NameOk.t k a0 with
  | some z0 => K z0
  | none => none
noncomputable def impl_NameOk.as (a0 : ByteArray) : List A := [.d (.str a0)]
noncomputable def impl_NameOk.kt {β : Type} (a0 : ByteArray) (K0 : List (List C) → List Out → Option β) : Bool → Option β := fun z0 => K0 [[.d (.bool z0)]] []
noncomputable def impl_NameOk.e (k : Nat) : Entry := { modes := [(.imm, 0)], rts := [4], al := false, run := fun {β} l K => match l with | [.d (.str a0)] => impl_NameOk.f k a0 (impl_NameOk.kt a0 K) | _ => none }
noncomputable def impl_NameOk.E (k : Nat) : Env := fun g => bif g == 87 then some (impl_within.e k) else none
noncomputable def impl_NameOk.h : Hints := ⟨fun n => bif n == 2 then ⟨[(0, .asis), (6, .asis), (7, .asis)], []⟩ else ⟨[], []⟩, fun _ => none, false, []⟩
noncomputable def impl_NameOk.s0 (v0_0 : ByteArray) (v0_1 : Int) (v : Int) : St :=
  match v with
  | v0_2 => ⟨[.d false (.str v0_0), .any, .any, .any, .any, .any, .d true (.int .i64 v0_1), .d true (.int .i64 v0_2), .any, .any, .any, .any, .any, .any, .any, .any, .any, .any, .any, .any, .any, .any, .any, .any, .any, .any, .any, .any, .any, .any, .any, .any, .any, .any, .any, .any, .any, .any, .any, .any, .any, .any, .any, .any, .any, .any, .any, .any], []⟩
noncomputable def impl_NameOk.b0 {β : Type} (k : Nat) : St → (Ex → St → Option β) → Option β := fun s K => den Try.prog (impl_NameOk.E k) impl_NameOk.h.H impl_NameOk.h.J k (codeAt [1, 0, 1, 0, 0] (codeOf Try.f72)) s K
noncomputable def impl_NameOk.c0 {β : Type} (k : Nat) (a0 : ByteArray) (K0 : List (List C) → List Out → Option β) : Ex → St → Option β := contAt Try.prog (impl_NameOk.E k) impl_NameOk.h k [1, 0, 1, 0] (codeOf Try.f72) (finDen Try.prog Try.f72 impl_NameOk.h (impl_NameOk.as a0) K0)
theorem impl_NameOk.l0_eq {β : Type} (k : Nat) (a0 : ByteArray) (K0 : List (List C) → List Out → Option β) (v0_0 : ByteArray) (v0_1 : Int) : ∀ (kk : Nat) (v : Int), loopDen (impl_NameOk.b0 k) (impl_NameOk.h.H 2) kk (impl_NameOk.s0 v0_0 v0_1 v) (impl_NameOk.c0 k a0 K0) = iter (impl_NameOk.l0 k v0_0 v0_1 (impl_NameOk.kt a0 K0)) kk v :=
  loop_eq (impl_NameOk.s0 v0_0 v0_1) _ (fun L0 v => by kernel_rfl)
noncomputable def impl_NameOk.m {β : Type} (k : Nat) (a0 : ByteArray) (K0 : List (List C) → List Out → Option β) (F : (ByteArray → Int → Int → Option β)) : Option β :=
  (F) a0 (a0.size : Int) (0)
theorem impl_NameOk.f_eq {β : Type} (k : Nat) (a0 : ByteArray) (K0 : List (List C) → List Out → Option β) : funDen Try.prog (impl_NameOk.E k) impl_NameOk.h k Try.f72 (impl_NameOk.as a0) K0 = impl_NameOk.g k a0 (impl_NameOk.kt a0 K0) := Eq.trans (b := (impl_NameOk.m k a0 K0) (fun (v0_0 : ByteArray) (v0_1 : Int) (v : Int) => loopDen (impl_NameOk.b0 k) (impl_NameOk.h.H 2) k (impl_NameOk.s0 v0_0 v0_1 v) (impl_NameOk.c0 k a0 K0))) (by kernel_rfl) (Eq.trans (congrArg (impl_NameOk.m k a0 K0) (funext fun v0_0 => funext fun v0_1 => funext fun v => impl_NameOk.l0_eq k a0 K0 v0_0 v0_1 k v)) (by kernel_rfl))
noncomputable def impl_NameOk.dec (rs : List (List C)) (os : List Out) : Option (Bool) := uncons rs fun c1 r2 => uncons c1 fun x3 l4 => cD x3 fun d5 => dBool d5 fun w0 => atEnd l4 <| atEnd r2 <| atEnd os (some w0)
theorem impl_NameOk.kt_dec (a0 : ByteArray) : impl_NameOk.kt a0 impl_NameOk.dec = (fun z0 => some z0) := by kernel_rfl
theorem impl_NameOk.inj (a0 : ByteArray) {rs : List (List C)} {os : List Out} {z0 : Bool} (h : impl_NameOk.dec rs os = some z0) (ho : OutShape (impl_NameOk.as a0) os) : rs = [[.d (.bool z0)]] ∧ os = [] := by
  unfold impl_NameOk.dec at h
  obtain ⟨c1, r2, rfl, h1⟩ := uncons_some h
  obtain ⟨x3, l4, rfl, h2⟩ := uncons_some h1
  obtain ⟨d5, rfl, h3⟩ := cD_some h2
  obtain ⟨w0, rfl, h4⟩ := dBool_some h3
  obtain ⟨rfl, h5⟩ := atEnd_some h4
  obtain ⟨rfl, h6⟩ := atEnd_some h5
  obtain ⟨rfl, h7⟩ := atEnd_some h6
  obtain rfl := Option.some.inj h7
  exact ⟨rfl, rfl⟩
theorem impl_NameOk.ok (k : Nat) : EntryOK Try.prog 72 (impl_NameOk.e k) := by
  refine entry_of mix tyok (fn := Try.f72) (c := codeOf Try.f72) Try.func72 (by kernel_rfl) (h := impl_NameOk.h) (k := k) (E := impl_NameOk.E k) (env_cons (impl_within.ok k) env_nil) (by kernel_rfl) (by kernel_rfl) rfl (enter_of Try.func72 (by kernel_rfl)) ?_
  intro β l K r hr
  simp only [impl_NameOk.e] at hr
  split at hr
  case h_2 => cases hr
  unfold impl_NameOk.f at hr
  split at hr
  case h_2 => cases hr
  rename_i hz
  exact ⟨_, _, hr, _, impl_NameOk.dec, _, (impl_NameOk.f_eq k _ impl_NameOk.dec).trans (by rw [impl_NameOk.kt_dec]; exact hz), fun rs os h ho => impl_NameOk.inj _ h ho⟩
/-! ### loop.example/g00119/impl.isCopies: function 75 -/
noncomputable def impl_isCopies.g {β : Type} (k : Nat) (a0 : Int) (K : Bool → Option β) : Option β :=
  impl_within.f k a0 0 10000 (fun y1 => K y1)
noncomputable def impl_isCopies.t (k : Nat) (a0 : Int) : Option (Bool) := impl_isCopies.g k a0 (fun z0 => some z0)
noncomputable def impl_isCopies.f {β : Type} (k : Nat) (a0 : Int) (K : Bool → Option β) : Option β :=
  match impl_isCopies.t k a0 with
  | some z0 => K z0
  | none => none
noncomputable def impl_isCopies.as (a0 : Int) : List A := [.d (.int .i64 a0)]
noncomputable def impl_isCopies.kt {β : Type} (a0 : Int) (K0 : List (List C) → List Out → Option β) : Bool → Option β := fun z0 => K0 [[.d (.bool z0)]] []
noncomputable def impl_isCopies.e (k : Nat) : Entry := { modes := [(.imm, 0)], rts := [4], al := false, run := fun {β} l K => match l with | [.d (.int .i64 a0)] => impl_isCopies.f k a0 (impl_isCopies.kt a0 K) | _ => none }
noncomputable def impl_isCopies.E (k : Nat) : Env := fun g => bif g == 87 then some (impl_within.e k) else none
noncomputable def impl_isCopies.h : Hints := ⟨fun n => ⟨[], []⟩, fun _ => none, false, []⟩
theorem impl_isCopies.f_eq {β : Type} (k : Nat) (a0 : Int) (K0 : List (List C) → List Out → Option β) : funDen Try.prog (impl_isCopies.E k) impl_isCopies.h k Try.f75 (impl_isCopies.as a0) K0 = impl_isCopies.g k a0 (impl_isCopies.kt a0 K0) := by kernel_rfl
noncomputable def impl_isCopies.dec (rs : List (List C)) (os : List Out) : Option (Bool) := uncons rs fun c1 r2 => uncons c1 fun x3 l4 => cD x3 fun d5 => dBool d5 fun w0 => atEnd l4 <| atEnd r2 <| atEnd os (some w0)
theorem impl_isCopies.kt_dec (a0 : Int) : impl_isCopies.kt a0 impl_isCopies.dec = (fun z0 => some z0) := by kernel_rfl
theorem impl_isCopies.inj (a0 : Int) {rs : List (List C)} {os : List Out} {z0 : Bool} (h : impl_isCopies.dec rs os = some z0) (ho : OutShape (impl_isCopies.as a0) os) : rs = [[.d (.bool z0)]] ∧ os = [] := by
  unfold impl_isCopies.dec at h
  obtain ⟨c1, r2, rfl, h1⟩ := uncons_some h
  obtain ⟨x3, l4, rfl, h2⟩ := uncons_some h1
  obtain ⟨d5, rfl, h3⟩ := cD_some h2
  obtain ⟨w0, rfl, h4⟩ := dBool_some h3
  obtain ⟨rfl, h5⟩ := atEnd_some h4
  obtain ⟨rfl, h6⟩ := atEnd_some h5
  obtain ⟨rfl, h7⟩ := atEnd_some h6
  obtain rfl := Option.some.inj h7
  exact ⟨rfl, rfl⟩
theorem impl_isCopies.ok (k : Nat) : EntryOK Try.prog 75 (impl_isCopies.e k) := by
  refine entry_of mix tyok (fn := Try.f75) (c := codeOf Try.f75) Try.func75 (by kernel_rfl) (h := impl_isCopies.h) (k := k) (E := impl_isCopies.E k) (env_cons (impl_within.ok k) env_nil) (by kernel_rfl) (by kernel_rfl) rfl (enter_of Try.func75 (by kernel_rfl)) ?_
  intro β l K r hr
  simp only [impl_isCopies.e] at hr
  split at hr
  case h_2 => cases hr
  unfold impl_isCopies.f at hr
  split at hr
  case h_2 => cases hr
  rename_i hz
  exact ⟨_, _, hr, _, impl_isCopies.dec, _, (impl_isCopies.f_eq k _ impl_isCopies.dec).trans (by rw [impl_isCopies.kt_dec]; exact hz), fun rs os h ho => impl_isCopies.inj _ h ho⟩
/-! ### loop.example/g00119/impl.namesOk: function 74 -/
noncomputable def impl_namesOk.l0 {β : Type} (k : Nat) (v0_0 : List (List D)) (v0_1 : Int) (v0_2 : List (List D)) (v0_3 : Int) (K : Bool → Option β) (L0 : Int → Option β) (v : Int) : Option β :=
  match v with
  | v0_4 => bif (decide ((v0_4 : Int) < v0_3)) then (atRow v0_2 v0_4 fun c10 => uncons c10 fun d11 r12 => dStr d11 fun x13 => atEnd r12 (impl_NameOk.f k x13 (fun y14 => bif (!y14) then (K false) else (bif (decide ((v0_4 : Int) > 0)) then (atRow v0_0 (IntKind.wrap .i64 (v0_4 - 1)) fun c15 => uncons c15 fun d16 r17 => dStr d16 fun x18 => atEnd r17 (bif (!(strLt x18 x13)) then (K false) else (L0 (IntKind.wrap .i64 (v0_4 + 1))))) else (L0 (IntKind.wrap .i64 (v0_4 + 1))))))) else (K (decide (((v0_0.length : Int) : Int) ≤ v0_1)))
noncomputable def impl_namesOk.g {β : Type} (k : Nat) (a0 : List (List D)) (a1 : Int) (K : Bool → Option β) : Option β :=
  iter (impl_namesOk.l0 k a0 a1 a0 (a0.length : Int) K) k (0)
noncomputable def impl_namesOk.t (k : Nat) (a0 : List (List D)) (a1 : Int) : Option (Bool) := impl_namesOk.g k a0 a1 (fun z0 => some z0)
noncomputable def impl_namesOk.f {β : Type} (k : Nat) (a0 : List (List D)) (a1 : Int) (K : Bool → Option β) : Option β :=
  match impl_namesOk.t k a0 a1 with
  | some z0 => K z0
  | none => none
noncomputable def impl_namesOk.as (a0 : List (List D)) (a1 : Int) : List A := [.d (.sl a0), .d (.int .i64 a1)]
noncomputable def impl_namesOk.kt {β : Type} (a0 : List (List D)) (a1 : Int) (K0 : List (List C) → List Out → Option β) : Bool → Option β := fun z0 => K0 [[.d (.bool z0)]] []
noncomputable def impl_namesOk.e (k : Nat) : Entry := { modes := [(.imm, 0), (.imm, 0)], rts := [4], al := false, run := fun {β} l K => match l with | [.d (.sl a0), .d (.int .i64 a1)] => impl_namesOk.f k a0 a1 (impl_namesOk.kt a0 a1 K) | _ => none }
noncomputable def impl_namesOk.E (k : Nat) : Env := fun g => bif g == 72 then some (impl_NameOk.e k) else none
noncomputable def impl_namesOk.h : Hints := ⟨fun n => bif n == 2 then ⟨[(0, .asis), (1, .asis), (7, .asis), (8, .asis), (9, .asis)], []⟩ else ⟨[], []⟩, fun _ => none, false, []⟩
noncomputable def impl_namesOk.s0 (v0_0 : List (List D)) (v0_1 : Int) (v0_2 : List (List D)) (v0_3 : Int) (v : Int) : St :=
  match v with
  | v0_4 => ⟨[.d false (.sl v0_0), .d false (.int .i64 v0_1), .any, .any, .any, .any, .any, .d false (.sl v0_2), .d true (.int .i64 v0_3), .d true (.int .i64 v0_4), .any, .any, .any, .any, .any, .any, .any, .any, .any, .any, .any, .any, .any, .any, .any, .any, .any, .any, .any, .any, .any, .any, .any, .any, .any], []⟩
noncomputable def impl_namesOk.b0 {β : Type} (k : Nat) : St → (Ex → St → Option β) → Option β := fun s K => den Try.prog (impl_namesOk.E k) impl_namesOk.h.H impl_namesOk.h.J k (codeAt [1, 0, 1, 0, 0] (codeOf Try.f74)) s K
noncomputable def impl_namesOk.c0 {β : Type} (k : Nat) (a0 : List (List D)) (a1 : Int) (K0 : List (List C) → List Out → Option β) : Ex → St → Option β := contAt Try.prog (impl_namesOk.E k) impl_namesOk.h k [1, 0, 1, 0] (codeOf Try.f74) (finDen Try.prog Try.f74 impl_namesOk.h (impl_namesOk.as a0 a1) K0)
theorem impl_namesOk.l0_eq {β : Type} (k : Nat) (a0 : List (List D)) (a1 : Int) (K0 : List (List C) → List Out → Option β) (v0_0 : List (List D)) (v0_1 : Int) (v0_2 : List (List D)) (v0_3 : Int) : ∀ (kk : Nat) (v : Int), loopDen (impl_namesOk.b0 k) (impl_namesOk.h.H 2) kk (impl_namesOk.s0 v0_0 v0_1 v0_2 v0_3 v) (impl_namesOk.c0 k a0 a1 K0) = iter (impl_namesOk.l0 k v0_0 v0_1 v0_2 v0_3 (impl_namesOk.kt a0 a1 K0)) kk v :=
  loop_eq (impl_namesOk.s0 v0_0 v0_1 v0_2 v0_3) _ (fun L0 v => by kernel_rfl)
noncomputable def impl_namesOk.m {β : Type} (k : Nat) (a0 : List (List D)) (a1 : Int) (K0 : List (List C) → List Out → Option β) (F : ((List (List D)) → Int → (List (List D)) → Int → Int → Option β)) : Option β :=
  (F) a0 a1 a0 (a0.length : Int) (0)
theorem impl_namesOk.f_eq {β : Type} (k : Nat) (a0 : List (List D)) (a1 : Int) (K0 : List (List C) → List Out → Option β) : funDen Try.prog (impl_namesOk.E k) impl_namesOk.h k Try.f74 (impl_namesOk.as a0 a1) K0 = impl_namesOk.g k a0 a1 (impl_namesOk.kt a0 a1 K0) := Eq.trans (b := (impl_namesOk.m k a0 a1 K0) (fun (v0_0 : List (List D)) (v0_1 : Int) (v0_2 : List (List D)) (v0_3 : Int) (v : Int) => loopDen (impl_namesOk.b0 k) (impl_namesOk.h.H 2) k (impl_namesOk.s0 v0_0 v0_1 v0_2 v0_3 v) (impl_namesOk.c0 k a0 a1 K0))) (by kernel_rfl) (Eq.trans (congrArg (impl_namesOk.m k a0 a1 K0) (funext fun v0_0 => funext fun v0_1 => funext fun v0_2 => funext fun v0_3 => funext fun v => impl_namesOk.l0_eq k a0 a1 K0 v0_0 v0_1 v0_2 v0_3 k v)) (by kernel_rfl))
noncomputable def impl_namesOk.dec (rs : List (List C)) (os : List Out) : Option (Bool) := uncons rs fun c1 r2 => uncons c1 fun x3 l4 => cD x3 fun d5 => dBool d5 fun w0 => atEnd l4 <| atEnd r2 <| atEnd os (some w0)
theorem impl_namesOk.kt_dec (a0 : List (List D)) (a1 : Int) : impl_namesOk.kt a0 a1 impl_namesOk.dec = (fun z0 => some z0) := by kernel_rfl
theorem impl_namesOk.inj (a0 : List (List D)) (a1 : Int) {rs : List (List C)} {os : List Out} {z0 : Bool} (h : impl_namesOk.dec rs os = some z0) (ho : OutShape (impl_namesOk.as a0 a1) os) : rs = [[.d (.bool z0)]] ∧ os = [] := by
  unfold impl_namesOk.dec at h
  obtain ⟨c1, r2, rfl, h1⟩ := uncons_some h
  obtain ⟨x3, l4, rfl, h2⟩ := uncons_some h1
  obtain ⟨d5, rfl, h3⟩ := cD_some h2
  obtain ⟨w0, rfl, h4⟩ := dBool_some h3
  obtain ⟨rfl, h5⟩ := atEnd_some h4
  obtain ⟨rfl, h6⟩ := atEnd_some h5
  obtain ⟨rfl, h7⟩ := atEnd_some h6
  obtain rfl := Option.some.inj h7
  exact ⟨rfl, rfl⟩
theorem impl_namesOk.ok (k : Nat) : EntryOK Try.prog 74 (impl_namesOk.e k) := by
  refine entry_of mix tyok (fn := Try.f74) (c := codeOf Try.f74) Try.func74 (by kernel_rfl) (h := impl_namesOk.h) (k := k) (E := impl_namesOk.E k) (env_cons (impl_NameOk.ok k) env_nil) (by kernel_rfl) (by kernel_rfl) rfl (enter_of Try.func74 (by kernel_rfl)) ?_
  intro β l K r hr
  simp only [impl_namesOk.e] at hr
  split at hr
  case h_2 => cases hr
  unfold impl_namesOk.f at hr
  split at hr
  case h_2 => cases hr
  rename_i hz
  exact ⟨_, _, hr, _, impl_namesOk.dec, _, (impl_namesOk.f_eq k _ _ impl_namesOk.dec).trans (by rw [impl_namesOk.kt_dec]; exact hz), fun rs os h ho => impl_namesOk.inj _ _ h ho⟩
/-! ### loop.example/g00119/impl.termOk: function 158 -/
noncomputable def impl_termOk.g {β : Type} (k : Nat) (a0_0 : Int) (a0_1 : ByteArray) (a0_2 : List (List D)) (K : Bool → Option β) : Option β :=
  bif ((a0_0 : Int) == 1) then (bif ((a0_0 : Int) == 1) then (bif (((a0_2.length : Int) : Int) == 1) then (impl_NameOk.f k a0_1 (fun y1 => bif y1 then (impl_namesOk.f k a0_2 6 (fun y19 => K y19)) else (K false))) else (K false)) else (bif ((a0_0 : Int) == 3) then (bif (decide (((a0_2.length : Int) : Int) ≥ 1)) then (impl_NameOk.f k a0_1 (fun y20 => bif y20 then (impl_namesOk.f k a0_2 6 (fun y21 => K y21)) else (K false))) else (K false)) else (bif ((a0_0 : Int) == 4) then (bif ((a0_0 : Int) == 4) then (bif (((a0_2.length : Int) : Int) == 0) then (impl_NameOk.f k a0_1 (fun y22 => bif y22 then (impl_namesOk.f k a0_2 6 (fun y23 => K y23)) else (K false))) else (K false)) else (K false)) else (bif ((a0_0 : Int) == 5) then (bif (((a0_2.length : Int) : Int) == 0) then (impl_NameOk.f k a0_1 (fun y24 => bif y24 then (impl_namesOk.f k a0_2 6 (fun y25 => K y25)) else (K false))) else (K false)) else (K false))))) else (bif ((a0_0 : Int) == 2) then (bif (((a0_2.length : Int) : Int) == 1) then (impl_NameOk.f k a0_1 (fun y26 => bif y26 then (impl_namesOk.f k a0_2 6 (fun y27 => K y27)) else (K false))) else (K false)) else (bif ((a0_0 : Int) == 3) then (bif (decide (((a0_2.length : Int) : Int) ≥ 1)) then (impl_NameOk.f k a0_1 (fun y28 => bif y28 then (impl_namesOk.f k a0_2 6 (fun y29 => K y29)) else (K false))) else (K false)) else (bif ((a0_0 : Int) == 4) then (bif ((a0_0 : Int) == 4) then (bif (((a0_2.length : Int) : Int) == 0) then (impl_NameOk.f k a0_1 (fun y30 => bif y30 then (impl_namesOk.f k a0_2 6 (fun y31 => K y31)) else (K false))) else (K false)) else (K false)) else (bif ((a0_0 : Int) == 5) then (bif (((a0_2.length : Int) : Int) == 0) then (impl_NameOk.f k a0_1 (fun y32 => bif y32 then (impl_namesOk.f k a0_2 6 (fun y33 => K y33)) else (K false))) else (K false)) else (K false)))))
noncomputable def impl_termOk.t (k : Nat) (a0_0 : Int) (a0_1 : ByteArray) (a0_2 : List (List D)) : Option (Bool) := impl_termOk.g k a0_0 a0_1 a0_2 (fun z0 => some z0)
noncomputable def impl_termOk.f {β : Type} (k : Nat) (a0_0 : Int) (a0_1 : ByteArray) (a0_2 : List (List D)) (K : Bool → Option β) : Option β :=
  match impl_termOk.t k a0_0 a0_1 a0_2 with
  | some z0 => K z0
  | none => none
noncomputable def impl_termOk.as (a0_0 : Int) (a0_1 : ByteArray) (a0_2 : List (List D)) : List A := [.agg [.int .i64 a0_0, .str a0_1, .sl a0_2]]
noncomputable def impl_termOk.kt {β : Type} (a0_0 : Int) (a0_1 : ByteArray) (a0_2 : List (List D)) (K0 : List (List C) → List Out → Option β) : Bool → Option β := fun z0 => K0 [[.d (.bool z0)]] []
noncomputable def impl_termOk.e (k : Nat) : Entry := { modes := [(.imm, 0)], rts := [4], al := false, run := fun {β} l K => match l with | [.agg [.int .i64 a0_0, .str a0_1, .sl a0_2]] => impl_termOk.f k a0_0 a0_1 a0_2 (impl_termOk.kt a0_0 a0_1 a0_2 K) | _ => none }
noncomputable def impl_termOk.E (k : Nat) : Env := fun g => bif g == 72 then some (impl_NameOk.e k) else bif g == 74 then some (impl_namesOk.e k) else none
noncomputable def impl_termOk.h : Hints := ⟨fun n => ⟨[], []⟩, fun _ => none, false, []⟩
theorem impl_termOk.f_eq {β : Type} (k : Nat) (a0_0 : Int) (a0_1 : ByteArray) (a0_2 : List (List D)) (K0 : List (List C) → List Out → Option β) : funDen Try.prog (impl_termOk.E k) impl_termOk.h k Try.f158 (impl_termOk.as a0_0 a0_1 a0_2) K0 = impl_termOk.g k a0_0 a0_1 a0_2 (impl_termOk.kt a0_0 a0_1 a0_2 K0) := by kernel_rfl
noncomputable def impl_termOk.dec (rs : List (List C)) (os : List Out) : Option (Bool) := uncons rs fun c1 r2 => uncons c1 fun x3 l4 => cD x3 fun d5 => dBool d5 fun w0 => atEnd l4 <| atEnd r2 <| atEnd os (some w0)
theorem impl_termOk.kt_dec (a0_0 : Int) (a0_1 : ByteArray) (a0_2 : List (List D)) : impl_termOk.kt a0_0 a0_1 a0_2 impl_termOk.dec = (fun z0 => some z0) := by kernel_rfl
theorem impl_termOk.inj (a0_0 : Int) (a0_1 : ByteArray) (a0_2 : List (List D)) {rs : List (List C)} {os : List Out} {z0 : Bool} (h : impl_termOk.dec rs os = some z0) (ho : OutShape (impl_termOk.as a0_0 a0_1 a0_2) os) : rs = [[.d (.bool z0)]] ∧ os = [] := by
  unfold impl_termOk.dec at h
  obtain ⟨c1, r2, rfl, h1⟩ := uncons_some h
  obtain ⟨x3, l4, rfl, h2⟩ := uncons_some h1
  obtain ⟨d5, rfl, h3⟩ := cD_some h2
  obtain ⟨w0, rfl, h4⟩ := dBool_some h3
  obtain ⟨rfl, h5⟩ := atEnd_some h4
  obtain ⟨rfl, h6⟩ := atEnd_some h5
  obtain ⟨rfl, h7⟩ := atEnd_some h6
  obtain rfl := Option.some.inj h7
  exact ⟨rfl, rfl⟩
theorem impl_termOk.ok (k : Nat) : EntryOK Try.prog 158 (impl_termOk.e k) := by
  refine entry_of mix tyok (fn := Try.f158) (c := codeOf Try.f158) Try.func158 (by kernel_rfl) (h := impl_termOk.h) (k := k) (E := impl_termOk.E k) (env_cons (impl_NameOk.ok k) (env_cons (impl_namesOk.ok k) env_nil)) (by kernel_rfl) (by kernel_rfl) rfl (enter_of Try.func158 (by kernel_rfl)) ?_
  intro β l K r hr
  simp only [impl_termOk.e] at hr
  split at hr
  case h_2 => cases hr
  unfold impl_termOk.f at hr
  split at hr
  case h_2 => cases hr
  rename_i hz
  exact ⟨_, _, hr, _, impl_termOk.dec, _, (impl_termOk.f_eq k _ _ _ impl_termOk.dec).trans (by rw [impl_termOk.kt_dec]; exact hz), fun rs os h ho => impl_termOk.inj _ _ _ h ho⟩
/-! ### loop.example/g00119/impl.SelectorOk$1: function 157 -/
noncomputable def impl_SelectorOk_1.g {β : Type} (k : Nat) (a0_0 : Int) (a0_1 : ByteArray) (a0_2 : List (List D)) (K : Bool → Option β) : Option β :=
  impl_termOk.f k a0_0 a0_1 a0_2 (fun y34 => K (!y34))
noncomputable def impl_SelectorOk_1.t (k : Nat) (a0_0 : Int) (a0_1 : ByteArray) (a0_2 : List (List D)) : Option (Bool) := impl_SelectorOk_1.g k a0_0 a0_1 a0_2 (fun z0 => some z0)
noncomputable def impl_SelectorOk_1.f {β : Type} (k : Nat) (a0_0 : Int) (a0_1 : ByteArray) (a0_2 : List (List D)) (K : Bool → Option β) : Option β :=
  match impl_SelectorOk_1.t k a0_0 a0_1 a0_2 with
  | some z0 => K z0
  | none => none
noncomputable def impl_SelectorOk_1.as (a0_0 : Int) (a0_1 : ByteArray) (a0_2 : List (List D)) : List A := [.agg [.int .i64 a0_0, .str a0_1, .sl a0_2]]
noncomputable def impl_SelectorOk_1.kt {β : Type} (a0_0 : Int) (a0_1 : ByteArray) (a0_2 : List (List D)) (K0 : List (List C) → List Out → Option β) : Bool → Option β := fun z0 => K0 [[.d (.bool z0)]] []
noncomputable def impl_SelectorOk_1.e (k : Nat) : Entry := { modes := [(.imm, 0)], rts := [4], al := false, run := fun {β} l K => match l with | [.agg [.int .i64 a0_0, .str a0_1, .sl a0_2]] => impl_SelectorOk_1.f k a0_0 a0_1 a0_2 (impl_SelectorOk_1.kt a0_0 a0_1 a0_2 K) | _ => none }
noncomputable def impl_SelectorOk_1.E (k : Nat) : Env := fun g => bif g == 158 then some (impl_termOk.e k) else none
noncomputable def impl_SelectorOk_1.h : Hints := ⟨fun n => ⟨[], []⟩, fun _ => none, false, []⟩
theorem impl_SelectorOk_1.f_eq {β : Type} (k : Nat) (a0_0 : Int) (a0_1 : ByteArray) (a0_2 : List (List D)) (K0 : List (List C) → List Out → Option β) : funDen Try.prog (impl_SelectorOk_1.E k) impl_SelectorOk_1.h k Try.f157 (impl_SelectorOk_1.as a0_0 a0_1 a0_2) K0 = impl_SelectorOk_1.g k a0_0 a0_1 a0_2 (impl_SelectorOk_1.kt a0_0 a0_1 a0_2 K0) := by kernel_rfl
noncomputable def impl_SelectorOk_1.dec (rs : List (List C)) (os : List Out) : Option (Bool) := uncons rs fun c1 r2 => uncons c1 fun x3 l4 => cD x3 fun d5 => dBool d5 fun w0 => atEnd l4 <| atEnd r2 <| atEnd os (some w0)
theorem impl_SelectorOk_1.kt_dec (a0_0 : Int) (a0_1 : ByteArray) (a0_2 : List (List D)) : impl_SelectorOk_1.kt a0_0 a0_1 a0_2 impl_SelectorOk_1.dec = (fun z0 => some z0) := by kernel_rfl
theorem impl_SelectorOk_1.inj (a0_0 : Int) (a0_1 : ByteArray) (a0_2 : List (List D)) {rs : List (List C)} {os : List Out} {z0 : Bool} (h : impl_SelectorOk_1.dec rs os = some z0) (ho : OutShape (impl_SelectorOk_1.as a0_0 a0_1 a0_2) os) : rs = [[.d (.bool z0)]] ∧ os = [] := by
  unfold impl_SelectorOk_1.dec at h
  obtain ⟨c1, r2, rfl, h1⟩ := uncons_some h
  obtain ⟨x3, l4, rfl, h2⟩ := uncons_some h1
  obtain ⟨d5, rfl, h3⟩ := cD_some h2
  obtain ⟨w0, rfl, h4⟩ := dBool_some h3
  obtain ⟨rfl, h5⟩ := atEnd_some h4
  obtain ⟨rfl, h6⟩ := atEnd_some h5
  obtain ⟨rfl, h7⟩ := atEnd_some h6
  obtain rfl := Option.some.inj h7
  exact ⟨rfl, rfl⟩
theorem impl_SelectorOk_1.ok (k : Nat) : EntryOK Try.prog 157 (impl_SelectorOk_1.e k) := by
  refine entry_of mix tyok (fn := Try.f157) (c := codeOf Try.f157) Try.func157 (by kernel_rfl) (h := impl_SelectorOk_1.h) (k := k) (E := impl_SelectorOk_1.E k) (env_cons (impl_termOk.ok k) env_nil) (by kernel_rfl) (by kernel_rfl) rfl (enter_of Try.func157 (by kernel_rfl)) ?_
  intro β l K r hr
  simp only [impl_SelectorOk_1.e] at hr
  split at hr
  case h_2 => cases hr
  unfold impl_SelectorOk_1.f at hr
  split at hr
  case h_2 => cases hr
  rename_i hz
  exact ⟨_, _, hr, _, impl_SelectorOk_1.dec, _, (impl_SelectorOk_1.f_eq k _ _ _ impl_SelectorOk_1.dec).trans (by rw [impl_SelectorOk_1.kt_dec]; exact hz), fun rs os h ho => impl_SelectorOk_1.inj _ _ _ h ho⟩
/-! ### slices.IndexFunc[[]loop.example/g00119/impl.Term,loop.example/g00119/impl.Term]: function 188 -/
noncomputable def slices_IndexFunc_impl_Term_157.l0 {β : Type} (k : Nat) (v0_0 : List (List D)) (v0_1 : Int) (K : Int → Option β) (L0 : Int → Option β) (v : Int) : Option β :=
  match v with
  | v0_2 => bif (decide ((v0_2 : Int) < v0_1)) then (atRow v0_0 v0_2 fun c36 => uncons c36 fun d37 r38 => dInt .i64 d37 fun x39 => uncons r38 fun d40 r41 => dStr d40 fun x42 => uncons r41 fun d43 r44 => dSl d43 fun x45 => atEnd r44 (impl_SelectorOk_1.f k x39 x42 x45 (fun y46 => bif y46 then (K v0_2) else (L0 (IntKind.wrap .i64 (v0_2 + 1)))))) else (K (-1))
noncomputable def slices_IndexFunc_impl_Term_157.g {β : Type} (k : Nat) (a0 : List (List D)) (K : Int → Option β) : Option β :=
  iter (slices_IndexFunc_impl_Term_157.l0 k a0 (a0.length : Int) K) k (0)
noncomputable def slices_IndexFunc_impl_Term_157.t (k : Nat) (a0 : List (List D)) : Option (Int) := slices_IndexFunc_impl_Term_157.g k a0 (fun z0 => some z0)
noncomputable def slices_IndexFunc_impl_Term_157.f {β : Type} (k : Nat) (a0 : List (List D)) (K : Int → Option β) : Option β :=
  match slices_IndexFunc_impl_Term_157.t k a0 with
  | some z0 => K z0
  | none => none
noncomputable def slices_IndexFunc_impl_Term_157.as (a0 : List (List D)) : List A := [.d (.sl a0), .d (.fn 157 [])]
noncomputable def slices_IndexFunc_impl_Term_157.kt {β : Type} (a0 : List (List D)) (K0 : List (List C) → List Out → Option β) : Int → Option β := fun z0 => K0 [[.d (.int .i64 z0)]] []
noncomputable def slices_IndexFunc_impl_Term_157.e (k : Nat) : Entry := { modes := [(.imm, 0), (.imm, 0)], rts := [3], al := false, run := fun {β} l K => match l with | [.d (.sl a0), .d (.fn 157 [])] => slices_IndexFunc_impl_Term_157.f k a0 (slices_IndexFunc_impl_Term_157.kt a0 K) | _ => none }
noncomputable def slices_IndexFunc_impl_Term_157.E (k : Nat) : Env := fun g => bif g == 157 then some (impl_SelectorOk_1.e k) else none
noncomputable def slices_IndexFunc_impl_Term_157.h : Hints := ⟨fun n => bif n == 2 then ⟨[(0, .asis), (1, .asis), (7, .asis), (8, .asis)], []⟩ else ⟨[], []⟩, fun _ => none, false, []⟩
noncomputable def slices_IndexFunc_impl_Term_157.s0 (v0_0 : List (List D)) (v0_1 : Int) (v : Int) : St :=
  match v with
  | v0_2 => ⟨[.d false (.sl v0_0), .d false (.fn 157 []), .any, .any, .any, .any, .any, .d true (.int .i64 v0_1), .d true (.int .i64 v0_2), .any, .any, .any, .any, .any, .any, .any, .any, .any, .any], []⟩
noncomputable def slices_IndexFunc_impl_Term_157.b0 {β : Type} (k : Nat) : St → (Ex → St → Option β) → Option β := fun s K => den Try.prog (slices_IndexFunc_impl_Term_157.E k) slices_IndexFunc_impl_Term_157.h.H slices_IndexFunc_impl_Term_157.h.J k (codeAt [1, 0, 1, 0, 0] (codeOf Try.f188)) s K
noncomputable def slices_IndexFunc_impl_Term_157.c0 {β : Type} (k : Nat) (a0 : List (List D)) (K0 : List (List C) → List Out → Option β) : Ex → St → Option β := contAt Try.prog (slices_IndexFunc_impl_Term_157.E k) slices_IndexFunc_impl_Term_157.h k [1, 0, 1, 0] (codeOf Try.f188) (finDen Try.prog Try.f188 slices_IndexFunc_impl_Term_157.h (slices_IndexFunc_impl_Term_157.as a0) K0)
theorem slices_IndexFunc_impl_Term_157.l0_eq {β : Type} (k : Nat) (a0 : List (List D)) (K0 : List (List C) → List Out → Option β) (v0_0 : List (List D)) (v0_1 : Int) : ∀ (kk : Nat) (v : Int), loopDen (slices_IndexFunc_impl_Term_157.b0 k) (slices_IndexFunc_impl_Term_157.h.H 2) kk (slices_IndexFunc_impl_Term_157.s0 v0_0 v0_1 v) (slices_IndexFunc_impl_Term_157.c0 k a0 K0) = iter (slices_IndexFunc_impl_Term_157.l0 k v0_0 v0_1 (slices_IndexFunc_impl_Term_157.kt a0 K0)) kk v :=
  loop_eq (slices_IndexFunc_impl_Term_157.s0 v0_0 v0_1) _ (fun L0 v => by kernel_rfl)
noncomputable def slices_IndexFunc_impl_Term_157.m {β : Type} (k : Nat) (a0 : List (List D)) (K0 : List (List C) → List Out → Option β) (F : ((List (List D)) → Int → Int → Option β)) : Option β :=
  (F) a0 (a0.length : Int) (0)
theorem slices_IndexFunc_impl_Term_157.f_eq {β : Type} (k : Nat) (a0 : List (List D)) (K0 : List (List C) → List Out → Option β) : funDen Try.prog (slices_IndexFunc_impl_Term_157.E k) slices_IndexFunc_impl_Term_157.h k Try.f188 (slices_IndexFunc_impl_Term_157.as a0) K0 = slices_IndexFunc_impl_Term_157.g k a0 (slices_IndexFunc_impl_Term_157.kt a0 K0) := Eq.trans (b := (slices_IndexFunc_impl_Term_157.m k a0 K0) (fun (v0_0 : List (List D)) (v0_1 : Int) (v : Int) => loopDen (slices_IndexFunc_impl_Term_157.b0 k) (slices_IndexFunc_impl_Term_157.h.H 2) k (slices_IndexFunc_impl_Term_157.s0 v0_0 v0_1 v) (slices_IndexFunc_impl_Term_157.c0 k a0 K0))) (by kernel_rfl) (Eq.trans (congrArg (slices_IndexFunc_impl_Term_157.m k a0 K0) (funext fun v0_0 => funext fun v0_1 => funext fun v => slices_IndexFunc_impl_Term_157.l0_eq k a0 K0 v0_0 v0_1 k v)) (by kernel_rfl))
noncomputable def slices_IndexFunc_impl_Term_157.dec (rs : List (List C)) (os : List Out) : Option (Int) := uncons rs fun c1 r2 => uncons c1 fun x3 l4 => cD x3 fun d5 => dInt .i64 d5 fun w0 => atEnd l4 <| atEnd r2 <| atEnd os (some w0)
theorem slices_IndexFunc_impl_Term_157.kt_dec (a0 : List (List D)) : slices_IndexFunc_impl_Term_157.kt a0 slices_IndexFunc_impl_Term_157.dec = (fun z0 => some z0) := by kernel_rfl
theorem slices_IndexFunc_impl_Term_157.inj (a0 : List (List D)) {rs : List (List C)} {os : List Out} {z0 : Int} (h : slices_IndexFunc_impl_Term_157.dec rs os = some z0) (ho : OutShape (slices_IndexFunc_impl_Term_157.as a0) os) : rs = [[.d (.int .i64 z0)]] ∧ os = [] := by
  unfold slices_IndexFunc_impl_Term_157.dec at h
  obtain ⟨c1, r2, rfl, h1⟩ := uncons_some h
  obtain ⟨x3, l4, rfl, h2⟩ := uncons_some h1
  obtain ⟨d5, rfl, h3⟩ := cD_some h2
  obtain ⟨w0, rfl, h4⟩ := dInt_some h3
  obtain ⟨rfl, h5⟩ := atEnd_some h4
  obtain ⟨rfl, h6⟩ := atEnd_some h5
  obtain ⟨rfl, h7⟩ := atEnd_some h6
  obtain rfl := Option.some.inj h7
  exact ⟨rfl, rfl⟩
theorem slices_IndexFunc_impl_Term_157.ok (k : Nat) : EntryOK Try.prog 188 (slices_IndexFunc_impl_Term_157.e k) := by
  refine entry_of mix tyok (fn := Try.f188) (c := codeOf Try.f188) Try.func188 (by kernel_rfl) (h := slices_IndexFunc_impl_Term_157.h) (k := k) (E := slices_IndexFunc_impl_Term_157.E k) (env_cons (impl_SelectorOk_1.ok k) env_nil) (by kernel_rfl) (by kernel_rfl) rfl (enter_of Try.func188 (by kernel_rfl)) ?_
  intro β l K r hr
  simp only [slices_IndexFunc_impl_Term_157.e] at hr
  split at hr
  case h_2 => cases hr
  unfold slices_IndexFunc_impl_Term_157.f at hr
  split at hr
  case h_2 => cases hr
  rename_i hz
  exact ⟨_, _, hr, _, slices_IndexFunc_impl_Term_157.dec, _, (slices_IndexFunc_impl_Term_157.f_eq k _ slices_IndexFunc_impl_Term_157.dec).trans (by rw [slices_IndexFunc_impl_Term_157.kt_dec]; exact hz), fun rs os h ho => slices_IndexFunc_impl_Term_157.inj _ h ho⟩
/-! ### slices.ContainsFunc[[]loop.example/g00119/impl.Term,loop.example/g00119/impl.Term]: function 156 -/
noncomputable def slices_ContainsFunc_impl_Term_157.g {β : Type} (k : Nat) (a0 : List (List D)) (K : Bool → Option β) : Option β :=
  slices_IndexFunc_impl_Term_157.f k a0 (fun y47 => K (decide ((y47 : Int) ≥ 0)))
noncomputable def slices_ContainsFunc_impl_Term_157.t (k : Nat) (a0 : List (List D)) : Option (Bool) := slices_ContainsFunc_impl_Term_157.g k a0 (fun z0 => some z0)
noncomputable def slices_ContainsFunc_impl_Term_157.f {β : Type} (k : Nat) (a0 : List (List D)) (K : Bool → Option β) : Option β :=
  match slices_ContainsFunc_impl_Term_157.t k a0 with
  | some z0 => K z0
  | none => none
noncomputable def slices_ContainsFunc_impl_Term_157.as (a0 : List (List D)) : List A := [.d (.sl a0), .d (.fn 157 [])]
noncomputable def slices_ContainsFunc_impl_Term_157.kt {β : Type} (a0 : List (List D)) (K0 : List (List C) → List Out → Option β) : Bool → Option β := fun z0 => K0 [[.d (.bool z0)]] []
noncomputable def slices_ContainsFunc_impl_Term_157.e (k : Nat) : Entry := { modes := [(.imm, 0), (.imm, 0)], rts := [4], al := false, run := fun {β} l K => match l with | [.d (.sl a0), .d (.fn 157 [])] => slices_ContainsFunc_impl_Term_157.f k a0 (slices_ContainsFunc_impl_Term_157.kt a0 K) | _ => none }
noncomputable def slices_ContainsFunc_impl_Term_157.E (k : Nat) : Env := fun g => bif g == 188 then some (slices_IndexFunc_impl_Term_157.e k) else none
noncomputable def slices_ContainsFunc_impl_Term_157.h : Hints := ⟨fun n => ⟨[], []⟩, fun _ => none, false, []⟩
theorem slices_ContainsFunc_impl_Term_157.f_eq {β : Type} (k : Nat) (a0 : List (List D)) (K0 : List (List C) → List Out → Option β) : funDen Try.prog (slices_ContainsFunc_impl_Term_157.E k) slices_ContainsFunc_impl_Term_157.h k Try.f156 (slices_ContainsFunc_impl_Term_157.as a0) K0 = slices_ContainsFunc_impl_Term_157.g k a0 (slices_ContainsFunc_impl_Term_157.kt a0 K0) := by kernel_rfl
noncomputable def slices_ContainsFunc_impl_Term_157.dec (rs : List (List C)) (os : List Out) : Option (Bool) := uncons rs fun c1 r2 => uncons c1 fun x3 l4 => cD x3 fun d5 => dBool d5 fun w0 => atEnd l4 <| atEnd r2 <| atEnd os (some w0)
theorem slices_ContainsFunc_impl_Term_157.kt_dec (a0 : List (List D)) : slices_ContainsFunc_impl_Term_157.kt a0 slices_ContainsFunc_impl_Term_157.dec = (fun z0 => some z0) := by kernel_rfl
theorem slices_ContainsFunc_impl_Term_157.inj (a0 : List (List D)) {rs : List (List C)} {os : List Out} {z0 : Bool} (h : slices_ContainsFunc_impl_Term_157.dec rs os = some z0) (ho : OutShape (slices_ContainsFunc_impl_Term_157.as a0) os) : rs = [[.d (.bool z0)]] ∧ os = [] := by
  unfold slices_ContainsFunc_impl_Term_157.dec at h
  obtain ⟨c1, r2, rfl, h1⟩ := uncons_some h
  obtain ⟨x3, l4, rfl, h2⟩ := uncons_some h1
  obtain ⟨d5, rfl, h3⟩ := cD_some h2
  obtain ⟨w0, rfl, h4⟩ := dBool_some h3
  obtain ⟨rfl, h5⟩ := atEnd_some h4
  obtain ⟨rfl, h6⟩ := atEnd_some h5
  obtain ⟨rfl, h7⟩ := atEnd_some h6
  obtain rfl := Option.some.inj h7
  exact ⟨rfl, rfl⟩
theorem slices_ContainsFunc_impl_Term_157.ok (k : Nat) : EntryOK Try.prog 156 (slices_ContainsFunc_impl_Term_157.e k) := by
  refine entry_of mix tyok (fn := Try.f156) (c := codeOf Try.f156) Try.func156 (by kernel_rfl) (h := slices_ContainsFunc_impl_Term_157.h) (k := k) (E := slices_ContainsFunc_impl_Term_157.E k) (env_cons (slices_IndexFunc_impl_Term_157.ok k) env_nil) (by kernel_rfl) (by kernel_rfl) rfl (enter_of Try.func156 (by kernel_rfl)) ?_
  intro β l K r hr
  simp only [slices_ContainsFunc_impl_Term_157.e] at hr
  split at hr
  case h_2 => cases hr
  unfold slices_ContainsFunc_impl_Term_157.f at hr
  split at hr
  case h_2 => cases hr
  rename_i hz
  exact ⟨_, _, hr, _, slices_ContainsFunc_impl_Term_157.dec, _, (slices_ContainsFunc_impl_Term_157.f_eq k _ slices_ContainsFunc_impl_Term_157.dec).trans (by rw [slices_ContainsFunc_impl_Term_157.kt_dec]; exact hz), fun rs os h ho => slices_ContainsFunc_impl_Term_157.inj _ h ho⟩
/-! ### loop.example/g00119/impl.SelectorOk: function 99 -/
noncomputable def impl_SelectorOk.g {β : Type} (k : Nat) (a0 : List (List D)) (K : Bool → Option β) : Option β :=
  bif (decide (((a0.length : Int) : Int) ≤ 8)) then (slices_ContainsFunc_impl_Term_157.f k a0 (fun y48 => K (!y48))) else (K false)
noncomputable def impl_SelectorOk.t (k : Nat) (a0 : List (List D)) : Option (Bool) := impl_SelectorOk.g k a0 (fun z0 => some z0)
noncomputable def impl_SelectorOk.f {β : Type} (k : Nat) (a0 : List (List D)) (K : Bool → Option β) : Option β :=
  match impl_SelectorOk.t k a0 with
  | some z0 => K z0
  | none => none
noncomputable def impl_SelectorOk.as (a0 : List (List D)) : List A := [.d (.sl a0)]
noncomputable def impl_SelectorOk.kt {β : Type} (a0 : List (List D)) (K0 : List (List C) → List Out → Option β) : Bool → Option β := fun z0 => K0 [[.d (.bool z0)]] []
noncomputable def impl_SelectorOk.e (k : Nat) : Entry := { modes := [(.imm, 0)], rts := [4], al := false, run := fun {β} l K => match l with | [.d (.sl a0)] => impl_SelectorOk.f k a0 (impl_SelectorOk.kt a0 K) | _ => none }
noncomputable def impl_SelectorOk.E (k : Nat) : Env := fun g => bif g == 156 then some (slices_ContainsFunc_impl_Term_157.e k) else none
noncomputable def impl_SelectorOk.h : Hints := ⟨fun n => ⟨[], []⟩, fun _ => none, false, []⟩
theorem impl_SelectorOk.f_eq {β : Type} (k : Nat) (a0 : List (List D)) (K0 : List (List C) → List Out → Option β) : funDen Try.prog (impl_SelectorOk.E k) impl_SelectorOk.h k Try.f99 (impl_SelectorOk.as a0) K0 = impl_SelectorOk.g k a0 (impl_SelectorOk.kt a0 K0) := by kernel_rfl
noncomputable def impl_SelectorOk.dec (rs : List (List C)) (os : List Out) : Option (Bool) := uncons rs fun c1 r2 => uncons c1 fun x3 l4 => cD x3 fun d5 => dBool d5 fun w0 => atEnd l4 <| atEnd r2 <| atEnd os (some w0)
theorem impl_SelectorOk.kt_dec (a0 : List (List D)) : impl_SelectorOk.kt a0 impl_SelectorOk.dec = (fun z0 => some z0) := by kernel_rfl
theorem impl_SelectorOk.inj (a0 : List (List D)) {rs : List (List C)} {os : List Out} {z0 : Bool} (h : impl_SelectorOk.dec rs os = some z0) (ho : OutShape (impl_SelectorOk.as a0) os) : rs = [[.d (.bool z0)]] ∧ os = [] := by
  unfold impl_SelectorOk.dec at h
  obtain ⟨c1, r2, rfl, h1⟩ := uncons_some h
  obtain ⟨x3, l4, rfl, h2⟩ := uncons_some h1
  obtain ⟨d5, rfl, h3⟩ := cD_some h2
  obtain ⟨w0, rfl, h4⟩ := dBool_some h3
  obtain ⟨rfl, h5⟩ := atEnd_some h4
  obtain ⟨rfl, h6⟩ := atEnd_some h5
  obtain ⟨rfl, h7⟩ := atEnd_some h6
  obtain rfl := Option.some.inj h7
  exact ⟨rfl, rfl⟩
theorem impl_SelectorOk.ok (k : Nat) : EntryOK Try.prog 99 (impl_SelectorOk.e k) := by
  refine entry_of mix tyok (fn := Try.f99) (c := codeOf Try.f99) Try.func99 (by kernel_rfl) (h := impl_SelectorOk.h) (k := k) (E := impl_SelectorOk.E k) (env_cons (slices_ContainsFunc_impl_Term_157.ok k) env_nil) (by kernel_rfl) (by kernel_rfl) rfl (enter_of Try.func99 (by kernel_rfl)) ?_
  intro β l K r hr
  simp only [impl_SelectorOk.e] at hr
  split at hr
  case h_2 => cases hr
  unfold impl_SelectorOk.f at hr
  split at hr
  case h_2 => cases hr
  rename_i hz
  exact ⟨_, _, hr, _, impl_SelectorOk.dec, _, (impl_SelectorOk.f_eq k _ impl_SelectorOk.dec).trans (by rw [impl_SelectorOk.kt_dec]; exact hz), fun rs os h ho => impl_SelectorOk.inj _ h ho⟩
/-! ### loop.example/g00119/impl.WantOk: function 38 -/
noncomputable def impl_WantOk.l0 {β : Type} (k : Nat) (v0_0 : List (List D)) (v0_1 : Int) (v0_3 : Int) (v0_4 : List (List D)) (v0_5 : List (List D)) (v0_6 : List (List D)) (K : Bool → Option β) (L0 : Int → Option β) (v : Int) : Option β :=
  match v with
  | v0_2 => bif (decide ((v0_2 : Int) < v0_1)) then (atRow v0_0 v0_2 fun c51 => uncons c51 fun d52 r53 => dStr d52 fun x54 => uncons r53 fun d55 r56 => dInt .i64 d55 fun x57 => atEnd r56 (impl_NameOk.f k x54 (fun y58 => bif (!y58) then (K false) else (impl_within.f k x57 0 1000 (fun y59 => bif (!y59) then (K false) else (bif (decide ((v0_2 : Int) > 0)) then (atRow v0_6 (IntKind.wrap .i64 (v0_2 - 1)) fun c60 => uncons c60 fun d61 r62 => dStr d61 fun x63 => uncons r62 fun d64 r65 => dInt .i64 d64 fun x66 => atEnd r65 (bif (!(strLt x63 x54)) then (K false) else (L0 (IntKind.wrap .i64 (v0_2 + 1))))) else (L0 (IntKind.wrap .i64 (v0_2 + 1))))))))) else (impl_isCopies.f k v0_3 (fun y67 => bif y67 then (impl_SelectorOk.f k v0_4 (fun y68 => bif y68 then (impl_namesOk.f k v0_5 8 (fun y69 => bif y69 then (K (decide (((v0_6.length : Int) : Int) ≤ 12))) else (K false))) else (K false))) else (K false)))
noncomputable def impl_WantOk.g {β : Type} (k : Nat) (a0_0 : Int) (a0_1 : List (List D)) (a0_2 : List (List D)) (a0_3 : List (List D)) (K : Bool → Option β) : Option β :=
  iter (impl_WantOk.l0 k a0_3 (a0_3.length : Int) a0_0 a0_1 a0_2 a0_3 K) k (0)
noncomputable def impl_WantOk.t (k : Nat) (a0_0 : Int) (a0_1 : List (List D)) (a0_2 : List (List D)) (a0_3 : List (List D)) : Option (Bool) := impl_WantOk.g k a0_0 a0_1 a0_2 a0_3 (fun z0 => some z0)
noncomputable def impl_WantOk.f {β : Type} (k : Nat) (a0_0 : Int) (a0_1 : List (List D)) (a0_2 : List (List D)) (a0_3 : List (List D)) (K : Bool → Option β) : Option β :=
  match impl_WantOk.t k a0_0 a0_1 a0_2 a0_3 with
  | some z0 => K z0
  | none => none
noncomputable def impl_WantOk.as (a0_0 : Int) (a0_1 : List (List D)) (a0_2 : List (List D)) (a0_3 : List (List D)) : List A := [.agg [.int .i64 a0_0, .sl a0_1, .sl a0_2, .sl a0_3]]
noncomputable def impl_WantOk.kt {β : Type} (a0_0 : Int) (a0_1 : List (List D)) (a0_2 : List (List D)) (a0_3 : List (List D)) (K0 : List (List C) → List Out → Option β) : Bool → Option β := fun z0 => K0 [[.d (.bool z0)]] []
noncomputable def impl_WantOk.e (k : Nat) : Entry := { modes := [(.imm, 0)], rts := [4], al := false, run := fun {β} l K => match l with | [.agg [.int .i64 a0_0, .sl a0_1, .sl a0_2, .sl a0_3]] => impl_WantOk.f k a0_0 a0_1 a0_2 a0_3 (impl_WantOk.kt a0_0 a0_1 a0_2 a0_3 K) | _ => none }
noncomputable def impl_WantOk.E (k : Nat) : Env := fun g => bif g == 72 then some (impl_NameOk.e k) else bif g == 87 then some (impl_within.e k) else bif g == 75 then some (impl_isCopies.e k) else bif g == 99 then some (impl_SelectorOk.e k) else bif g == 74 then some (impl_namesOk.e k) else none
noncomputable def impl_WantOk.h : Hints := ⟨fun n => bif n == 2 then ⟨[(1, .asis), (6, .asis), (7, .asis), (8, .asis)], []⟩ else ⟨[], []⟩, fun _ => none, false, []⟩
noncomputable def impl_WantOk.s0 (v0_0 : List (List D)) (v0_1 : Int) (v0_3 : Int) (v0_4 : List (List D)) (v0_5 : List (List D)) (v0_6 : List (List D)) (v : Int) : St :=
  match v with
  | v0_2 => ⟨[.any, .bp 0 0, .any, .any, .any, .any, .d false (.sl v0_0), .d true (.int .i64 v0_1), .d true (.int .i64 v0_2), .any, .any, .any, .any, .any, .any, .any, .any, .any, .any, .any, .any, .any, .any, .any, .any, .any, .any, .any, .any, .any, .any, .any, .any, .any, .any, .any, .any, .any, .any, .any, .any, .any, .any, .any, .any, .any, .any, .any, .any, .any, .any, .any, .any, .any, .any, .any, .any, .any, .any], [.box none 43 [.d false (.int .i64 v0_3), .d false (.sl v0_4), .d false (.sl v0_5), .d false (.sl v0_6)]]⟩
noncomputable def impl_WantOk.b0 {β : Type} (k : Nat) : St → (Ex → St → Option β) → Option β := fun s K => den Try.prog (impl_WantOk.E k) impl_WantOk.h.H impl_WantOk.h.J k (codeAt [1, 0, 1, 0, 0] (codeOf Try.f38)) s K
noncomputable def impl_WantOk.c0 {β : Type} (k : Nat) (a0_0 : Int) (a0_1 : List (List D)) (a0_2 : List (List D)) (a0_3 : List (List D)) (K0 : List (List C) → List Out → Option β) : Ex → St → Option β := contAt Try.prog (impl_WantOk.E k) impl_WantOk.h k [1, 0, 1, 0] (codeOf Try.f38) (finDen Try.prog Try.f38 impl_WantOk.h (impl_WantOk.as a0_0 a0_1 a0_2 a0_3) K0)
theorem impl_WantOk.l0_eq {β : Type} (k : Nat) (a0_0 : Int) (a0_1 : List (List D)) (a0_2 : List (List D)) (a0_3 : List (List D)) (K0 : List (List C) → List Out → Option β) (v0_0 : List (List D)) (v0_1 : Int) (v0_3 : Int) (v0_4 : List (List D)) (v0_5 : List (List D)) (v0_6 : List (List D)) : ∀ (kk : Nat) (v : Int), loopDen (impl_WantOk.b0 k) (impl_WantOk.h.H 2) kk (impl_WantOk.s0 v0_0 v0_1 v0_3 v0_4 v0_5 v0_6 v) (impl_WantOk.c0 k a0_0 a0_1 a0_2 a0_3 K0) = iter (impl_WantOk.l0 k v0_0 v0_1 v0_3 v0_4 v0_5 v0_6 (impl_WantOk.kt a0_0 a0_1 a0_2 a0_3 K0)) kk v :=
  loop_eq (impl_WantOk.s0 v0_0 v0_1 v0_3 v0_4 v0_5 v0_6) _ (fun L0 v => by kernel_rfl)
noncomputable def impl_WantOk.m {β : Type} (k : Nat) (a0_0 : Int) (a0_1 : List (List D)) (a0_2 : List (List D)) (a0_3 : List (List D)) (K0 : List (List C) → List Out → Option β) (F : ((List (List D)) → Int → Int → (List (List D)) → (List (List D)) → (List (List D)) → Int → Option β)) : Option β :=
  (F) a0_3 (a0_3.length : Int) a0_0 a0_1 a0_2 a0_3 (0)
theorem impl_WantOk.f_eq {β : Type} (k : Nat) (a0_0 : Int) (a0_1 : List (List D)) (a0_2 : List (List D)) (a0_3 : List (List D)) (K0 : List (List C) → List Out → Option β) : funDen Try.prog (impl_WantOk.E k) impl_WantOk.h k Try.f38 (impl_WantOk.as a0_0 a0_1 a0_2 a0_3) K0 = impl_WantOk.g k a0_0 a0_1 a0_2 a0_3 (impl_WantOk.kt a0_0 a0_1 a0_2 a0_3 K0) := Eq.trans (b := (impl_WantOk.m k a0_0 a0_1 a0_2 a0_3 K0) (fun (v0_0 : List (List D)) (v0_1 : Int) (v0_3 : Int) (v0_4 : List (List D)) (v0_5 : List (List D)) (v0_6 : List (List D)) (v : Int) => loopDen (impl_WantOk.b0 k) (impl_WantOk.h.H 2) k (impl_WantOk.s0 v0_0 v0_1 v0_3 v0_4 v0_5 v0_6 v) (impl_WantOk.c0 k a0_0 a0_1 a0_2 a0_3 K0))) (by kernel_rfl) (Eq.trans (congrArg (impl_WantOk.m k a0_0 a0_1 a0_2 a0_3 K0) (funext fun v0_0 => funext fun v0_1 => funext fun v0_3 => funext fun v0_4 => funext fun v0_5 => funext fun v0_6 => funext fun v => impl_WantOk.l0_eq k a0_0 a0_1 a0_2 a0_3 K0 v0_0 v0_1 v0_3 v0_4 v0_5 v0_6 k v)) (by kernel_rfl))
noncomputable def impl_WantOk.dec (rs : List (List C)) (os : List Out) : Option (Bool) := uncons rs fun c1 r2 => uncons c1 fun x3 l4 => cD x3 fun d5 => dBool d5 fun w0 => atEnd l4 <| atEnd r2 <| atEnd os (some w0)
theorem impl_WantOk.kt_dec (a0_0 : Int) (a0_1 : List (List D)) (a0_2 : List (List D)) (a0_3 : List (List D)) : impl_WantOk.kt a0_0 a0_1 a0_2 a0_3 impl_WantOk.dec = (fun z0 => some z0) := by kernel_rfl
theorem impl_WantOk.inj (a0_0 : Int) (a0_1 : List (List D)) (a0_2 : List (List D)) (a0_3 : List (List D)) {rs : List (List C)} {os : List Out} {z0 : Bool} (h : impl_WantOk.dec rs os = some z0) (ho : OutShape (impl_WantOk.as a0_0 a0_1 a0_2 a0_3) os) : rs = [[.d (.bool z0)]] ∧ os = [] := by
  unfold impl_WantOk.dec at h
  obtain ⟨c1, r2, rfl, h1⟩ := uncons_some h
  obtain ⟨x3, l4, rfl, h2⟩ := uncons_some h1
  obtain ⟨d5, rfl, h3⟩ := cD_some h2
  obtain ⟨w0, rfl, h4⟩ := dBool_some h3
  obtain ⟨rfl, h5⟩ := atEnd_some h4
  obtain ⟨rfl, h6⟩ := atEnd_some h5
  obtain ⟨rfl, h7⟩ := atEnd_some h6
  obtain rfl := Option.some.inj h7
  exact ⟨rfl, rfl⟩
theorem impl_WantOk.ok (k : Nat) : EntryOK Try.prog 38 (impl_WantOk.e k) := by
  refine entry_of mix tyok (fn := Try.f38) (c := codeOf Try.f38) Try.func38 (by kernel_rfl) (h := impl_WantOk.h) (k := k) (E := impl_WantOk.E k) (env_cons (impl_NameOk.ok k) (env_cons (impl_within.ok k) (env_cons (impl_isCopies.ok k) (env_cons (impl_SelectorOk.ok k) (env_cons (impl_namesOk.ok k) env_nil))))) (by kernel_rfl) (by kernel_rfl) rfl (enter_of Try.func38 (by kernel_rfl)) ?_
  intro β l K r hr
  simp only [impl_WantOk.e] at hr
  split at hr
  case h_2 => cases hr
  unfold impl_WantOk.f at hr
  split at hr
  case h_2 => cases hr
  rename_i hz
  exact ⟨_, _, hr, _, impl_WantOk.dec, _, (impl_WantOk.f_eq k _ _ _ _ impl_WantOk.dec).trans (by rw [impl_WantOk.kt_dec]; exact hz), fun rs os h ho => impl_WantOk.inj _ _ _ _ h ho⟩
/-! ### loop.example/g00119/laws.eqStringS: function 77 -/
noncomputable def laws_eqStringS.l0 {β : Type} (k : Nat) (v0_0 : List (List D)) (v0_1 : List (List D)) (K : Bool → Option β) (L0 : Int → Option β) (v : Int) : Option β :=
  match v with
  | v0_2 => bif (decide ((v0_2 : Int) < (v0_0.length : Int))) then (atRow v0_0 v0_2 fun c9 => uncons c9 fun d10 r11 => dStr d10 fun x12 => atEnd r11 (atRow v0_1 v0_2 fun c13 => uncons c13 fun d14 r15 => dStr d14 fun x16 => atEnd r15 (bif (!(strEq x12 x16)) then (K false) else (L0 (IntKind.wrap .i64 (v0_2 + 1)))))) else (K true)
noncomputable def laws_eqStringS.g {β : Type} (k : Nat) (a0 : List (List D)) (a1 : List (List D)) (K : Bool → Option β) : Option β :=
  bif (((a0.length : Int) : Int) != (a1.length : Int)) then (K false) else (iter (laws_eqStringS.l0 k a0 a1 K) k (0))
noncomputable def laws_eqStringS.t (k : Nat) (a0 : List (List D)) (a1 : List (List D)) : Option (Bool) := laws_eqStringS.g k a0 a1 (fun z0 => some z0)
noncomputable def laws_eqStringS.f {β : Type} (k : Nat) (a0 : List (List D)) (a1 : List (List D)) (K : Bool → Option β) : Option β :=
  match laws_eqStringS.t k a0 a1 with
  | some z0 => K z0
  | none => none
noncomputable def laws_eqStringS.as (a0 : List (List D)) (a1 : List (List D)) : List A := [.d (.sl a0), .d (.sl a1)]
noncomputable def laws_eqStringS.kt {β : Type} (a0 : List (List D)) (a1 : List (List D)) (K0 : List (List C) → List Out → Option β) : Bool → Option β := fun z0 => K0 [[.d (.bool z0)]] []
noncomputable def laws_eqStringS.e (k : Nat) : Entry := { modes := [(.imm, 0), (.imm, 0)], rts := [4], al := false, run := fun {β} l K => match l with | [.d (.sl a0), .d (.sl a1)] => laws_eqStringS.f k a0 a1 (laws_eqStringS.kt a0 a1 K) | _ => none }
noncomputable def laws_eqStringS.E (k : Nat) : Env := fun g => none
noncomputable def laws_eqStringS.h : Hints := ⟨fun n => bif n == 4 then ⟨[(0, .asis), (1, .asis), (5, .asis)], []⟩ else ⟨[], []⟩, fun _ => none, false, []⟩
noncomputable def laws_eqStringS.s0 (v0_0 : List (List D)) (v0_1 : List (List D)) (v : Int) : St :=
  match v with
  | v0_2 => ⟨[.d false (.sl v0_0), .d false (.sl v0_1), .any, .any, .any, .d true (.int .i64 v0_2), .any, .any, .any, .any, .any, .any, .any, .any, .any, .any, .any, .any, .any, .any, .any, .any, .any, .any, .any, .any], []⟩
noncomputable def laws_eqStringS.b0 {β : Type} (k : Nat) : St → (Ex → St → Option β) → Option β := fun s K => den Try.prog (laws_eqStringS.E k) laws_eqStringS.h.H laws_eqStringS.h.J k (codeAt [1, 1, 0, 1, 0, 0] (codeOf Try.f77)) s K
noncomputable def laws_eqStringS.c0 {β : Type} (k : Nat) (a0 : List (List D)) (a1 : List (List D)) (K0 : List (List C) → List Out → Option β) : Ex → St → Option β := contAt Try.prog (laws_eqStringS.E k) laws_eqStringS.h k [1, 1, 0, 1, 0] (codeOf Try.f77) (finDen Try.prog Try.f77 laws_eqStringS.h (laws_eqStringS.as a0 a1) K0)
theorem laws_eqStringS.l0_eq {β : Type} (k : Nat) (a0 : List (List D)) (a1 : List (List D)) (K0 : List (List C) → List Out → Option β) (v0_0 : List (List D)) (v0_1 : List (List D)) : ∀ (kk : Nat) (v : Int), loopDen (laws_eqStringS.b0 k) (laws_eqStringS.h.H 4) kk (laws_eqStringS.s0 v0_0 v0_1 v) (laws_eqStringS.c0 k a0 a1 K0) = iter (laws_eqStringS.l0 k v0_0 v0_1 (laws_eqStringS.kt a0 a1 K0)) kk v :=
  loop_eq (laws_eqStringS.s0 v0_0 v0_1) _ (fun L0 v => by kernel_rfl)
noncomputable def laws_eqStringS.m {β : Type} (k : Nat) (a0 : List (List D)) (a1 : List (List D)) (K0 : List (List C) → List Out → Option β) (F : ((List (List D)) → (List (List D)) → Int → Option β)) : Option β :=
  bif (((a0.length : Int) : Int) != (a1.length : Int)) then ((laws_eqStringS.kt a0 a1 K0) false) else ((F) a0 a1 (0))
theorem laws_eqStringS.f_eq {β : Type} (k : Nat) (a0 : List (List D)) (a1 : List (List D)) (K0 : List (List C) → List Out → Option β) : funDen Try.prog (laws_eqStringS.E k) laws_eqStringS.h k Try.f77 (laws_eqStringS.as a0 a1) K0 = laws_eqStringS.g k a0 a1 (laws_eqStringS.kt a0 a1 K0) := Eq.trans (b := (laws_eqStringS.m k a0 a1 K0) (fun (v0_0 : List (List D)) (v0_1 : List (List D)) (v : Int) => loopDen (laws_eqStringS.b0 k) (laws_eqStringS.h.H 4) k (laws_eqStringS.s0 v0_0 v0_1 v) (laws_eqStringS.c0 k a0 a1 K0))) (by kernel_rfl) (Eq.trans (congrArg (laws_eqStringS.m k a0 a1 K0) (funext fun v0_0 => funext fun v0_1 => funext fun v => laws_eqStringS.l0_eq k a0 a1 K0 v0_0 v0_1 k v)) (by kernel_rfl))
noncomputable def laws_eqStringS.dec (rs : List (List C)) (os : List Out) : Option (Bool) := uncons rs fun c1 r2 => uncons c1 fun x3 l4 => cD x3 fun d5 => dBool d5 fun w0 => atEnd l4 <| atEnd r2 <| atEnd os (some w0)
theorem laws_eqStringS.kt_dec (a0 : List (List D)) (a1 : List (List D)) : laws_eqStringS.kt a0 a1 laws_eqStringS.dec = (fun z0 => some z0) := by kernel_rfl
theorem laws_eqStringS.inj (a0 : List (List D)) (a1 : List (List D)) {rs : List (List C)} {os : List Out} {z0 : Bool} (h : laws_eqStringS.dec rs os = some z0) (ho : OutShape (laws_eqStringS.as a0 a1) os) : rs = [[.d (.bool z0)]] ∧ os = [] := by
  unfold laws_eqStringS.dec at h
  obtain ⟨c1, r2, rfl, h1⟩ := uncons_some h
  obtain ⟨x3, l4, rfl, h2⟩ := uncons_some h1
  obtain ⟨d5, rfl, h3⟩ := cD_some h2
  obtain ⟨w0, rfl, h4⟩ := dBool_some h3
  obtain ⟨rfl, h5⟩ := atEnd_some h4
  obtain ⟨rfl, h6⟩ := atEnd_some h5
  obtain ⟨rfl, h7⟩ := atEnd_some h6
  obtain rfl := Option.some.inj h7
  exact ⟨rfl, rfl⟩
theorem laws_eqStringS.ok (k : Nat) : EntryOK Try.prog 77 (laws_eqStringS.e k) := by
  refine entry_of mix tyok (fn := Try.f77) (c := codeOf Try.f77) Try.func77 (by kernel_rfl) (h := laws_eqStringS.h) (k := k) (E := laws_eqStringS.E k) env_nil (by kernel_rfl) (by kernel_rfl) rfl (enter_of Try.func77 (by kernel_rfl)) ?_
  intro β l K r hr
  simp only [laws_eqStringS.e] at hr
  split at hr
  case h_2 => cases hr
  unfold laws_eqStringS.f at hr
  split at hr
  case h_2 => cases hr
  rename_i hz
  exact ⟨_, _, hr, _, laws_eqStringS.dec, _, (laws_eqStringS.f_eq k _ _ laws_eqStringS.dec).trans (by rw [laws_eqStringS.kt_dec]; exact hz), fun rs os h ho => laws_eqStringS.inj _ _ h ho⟩
/-! ### loop.example/g00119/laws.eqTerm: function 142 -/
noncomputable def laws_eqTerm.g {β : Type} (k : Nat) (a0_0 : Int) (a0_1 : ByteArray) (a0_2 : List (List D)) (a1_0 : Int) (a1_1 : ByteArray) (a1_2 : List (List D)) (K : Bool → Option β) : Option β :=
  bif ((a0_0 : Int) != a1_0) then (K false) else (bif (!(strEq a0_1 a1_1)) then (K false) else (laws_eqStringS.f k a0_2 a1_2 (fun y17 => bif (!y17) then (K false) else (K true))))
noncomputable def laws_eqTerm.t (k : Nat) (a0_0 : Int) (a0_1 : ByteArray) (a0_2 : List (List D)) (a1_0 : Int) (a1_1 : ByteArray) (a1_2 : List (List D)) : Option (Bool) := laws_eqTerm.g k a0_0 a0_1 a0_2 a1_0 a1_1 a1_2 (fun z0 => some z0)
noncomputable def laws_eqTerm.f {β : Type} (k : Nat) (a0_0 : Int) (a0_1 : ByteArray) (a0_2 : List (List D)) (a1_0 : Int) (a1_1 : ByteArray) (a1_2 : List (List D)) (K : Bool → Option β) : Option β :=
  match laws_eqTerm.t k a0_0 a0_1 a0_2 a1_0 a1_1 a1_2 with
  | some z0 => K z0
  | none => none
noncomputable def laws_eqTerm.as (a0_0 : Int) (a0_1 : ByteArray) (a0_2 : List (List D)) (a1_0 : Int) (a1_1 : ByteArray) (a1_2 : List (List D)) : List A := [.agg [.int .i64 a0_0, .str a0_1, .sl a0_2], .agg [.int .i64 a1_0, .str a1_1, .sl a1_2]]
noncomputable def laws_eqTerm.kt {β : Type} (a0_0 : Int) (a0_1 : ByteArray) (a0_2 : List (List D)) (a1_0 : Int) (a1_1 : ByteArray) (a1_2 : List (List D)) (K0 : List (List C) → List Out → Option β) : Bool → Option β := fun z0 => K0 [[.d (.bool z0)]] []
noncomputable def laws_eqTerm.e (k : Nat) : Entry := { modes := [(.imm, 0), (.imm, 0)], rts := [4], al := false, run := fun {β} l K => match l with | [.agg [.int .i64 a0_0, .str a0_1, .sl a0_2], .agg [.int .i64 a1_0, .str a1_1, .sl a1_2]] => laws_eqTerm.f k a0_0 a0_1 a0_2 a1_0 a1_1 a1_2 (laws_eqTerm.kt a0_0 a0_1 a0_2 a1_0 a1_1 a1_2 K) | _ => none }
noncomputable def laws_eqTerm.E (k : Nat) : Env := fun g => bif g == 77 then some (laws_eqStringS.e k) else none
noncomputable def laws_eqTerm.h : Hints := ⟨fun n => ⟨[], []⟩, fun _ => none, false, []⟩
theorem laws_eqTerm.f_eq {β : Type} (k : Nat) (a0_0 : Int) (a0_1 : ByteArray) (a0_2 : List (List D)) (a1_0 : Int) (a1_1 : ByteArray) (a1_2 : List (List D)) (K0 : List (List C) → List Out → Option β) : funDen Try.prog (laws_eqTerm.E k) laws_eqTerm.h k Try.f142 (laws_eqTerm.as a0_0 a0_1 a0_2 a1_0 a1_1 a1_2) K0 = laws_eqTerm.g k a0_0 a0_1 a0_2 a1_0 a1_1 a1_2 (laws_eqTerm.kt a0_0 a0_1 a0_2 a1_0 a1_1 a1_2 K0) := by kernel_rfl
noncomputable def laws_eqTerm.dec (rs : List (List C)) (os : List Out) : Option (Bool) := uncons rs fun c1 r2 => uncons c1 fun x3 l4 => cD x3 fun d5 => dBool d5 fun w0 => atEnd l4 <| atEnd r2 <| atEnd os (some w0)
theorem laws_eqTerm.kt_dec (a0_0 : Int) (a0_1 : ByteArray) (a0_2 : List (List D)) (a1_0 : Int) (a1_1 : ByteArray) (a1_2 : List (List D)) : laws_eqTerm.kt a0_0 a0_1 a0_2 a1_0 a1_1 a1_2 laws_eqTerm.dec = (fun z0 => some z0) := by kernel_rfl
theorem laws_eqTerm.inj (a0_0 : Int) (a0_1 : ByteArray) (a0_2 : List (List D)) (a1_0 : Int) (a1_1 : ByteArray) (a1_2 : List (List D)) {rs : List (List C)} {os : List Out} {z0 : Bool} (h : laws_eqTerm.dec rs os = some z0) (ho : OutShape (laws_eqTerm.as a0_0 a0_1 a0_2 a1_0 a1_1 a1_2) os) : rs = [[.d (.bool z0)]] ∧ os = [] := by
  unfold laws_eqTerm.dec at h
  obtain ⟨c1, r2, rfl, h1⟩ := uncons_some h
  obtain ⟨x3, l4, rfl, h2⟩ := uncons_some h1
  obtain ⟨d5, rfl, h3⟩ := cD_some h2
  obtain ⟨w0, rfl, h4⟩ := dBool_some h3
  obtain ⟨rfl, h5⟩ := atEnd_some h4
  obtain ⟨rfl, h6⟩ := atEnd_some h5
  obtain ⟨rfl, h7⟩ := atEnd_some h6
  obtain rfl := Option.some.inj h7
  exact ⟨rfl, rfl⟩
theorem laws_eqTerm.ok (k : Nat) : EntryOK Try.prog 142 (laws_eqTerm.e k) := by
  refine entry_of mix tyok (fn := Try.f142) (c := codeOf Try.f142) Try.func142 (by kernel_rfl) (h := laws_eqTerm.h) (k := k) (E := laws_eqTerm.E k) (env_cons (laws_eqStringS.ok k) env_nil) (by kernel_rfl) (by kernel_rfl) rfl (enter_of Try.func142 (by kernel_rfl)) ?_
  intro β l K r hr
  simp only [laws_eqTerm.e] at hr
  split at hr
  case h_2 => cases hr
  unfold laws_eqTerm.f at hr
  split at hr
  case h_2 => cases hr
  rename_i hz
  exact ⟨_, _, hr, _, laws_eqTerm.dec, _, (laws_eqTerm.f_eq k _ _ _ _ _ _ laws_eqTerm.dec).trans (by rw [laws_eqTerm.kt_dec]; exact hz), fun rs os h ho => laws_eqTerm.inj _ _ _ _ _ _ h ho⟩
/-! ### loop.example/g00119/laws.eqTermS: function 82 -/
noncomputable def laws_eqTermS.l0 {β : Type} (k : Nat) (v0_0 : List (List D)) (v0_1 : List (List D)) (K : Bool → Option β) (L0 : Int → Option β) (v : Int) : Option β :=
  match v with
  | v0_2 => bif (decide ((v0_2 : Int) < (v0_0.length : Int))) then (atRow v0_0 v0_2 fun c19 => uncons c19 fun d20 r21 => dInt .i64 d20 fun x22 => uncons r21 fun d23 r24 => dStr d23 fun x25 => uncons r24 fun d26 r27 => dSl d26 fun x28 => atEnd r27 (atRow v0_1 v0_2 fun c29 => uncons c29 fun d30 r31 => dInt .i64 d30 fun x32 => uncons r31 fun d33 r34 => dStr d33 fun x35 => uncons r34 fun d36 r37 => dSl d36 fun x38 => atEnd r37 (laws_eqTerm.f k x22 x25 x28 x32 x35 x38 (fun y39 => bif (!y39) then (K false) else (L0 (IntKind.wrap .i64 (v0_2 + 1))))))) else (K true)
noncomputable def laws_eqTermS.g {β : Type} (k : Nat) (a0 : List (List D)) (a1 : List (List D)) (K : Bool → Option β) : Option β :=
  bif (((a0.length : Int) : Int) != (a1.length : Int)) then (K false) else (iter (laws_eqTermS.l0 k a0 a1 K) k (0))
noncomputable def laws_eqTermS.t (k : Nat) (a0 : List (List D)) (a1 : List (List D)) : Option (Bool) := laws_eqTermS.g k a0 a1 (fun z0 => some z0)
noncomputable def laws_eqTermS.f {β : Type} (k : Nat) (a0 : List (List D)) (a1 : List (List D)) (K : Bool → Option β) : Option β :=
  match laws_eqTermS.t k a0 a1 with
  | some z0 => K z0
  | none => none
noncomputable def laws_eqTermS.as (a0 : List (List D)) (a1 : List (List D)) : List A := [.d (.sl a0), .d (.sl a1)]
noncomputable def laws_eqTermS.kt {β : Type} (a0 : List (List D)) (a1 : List (List D)) (K0 : List (List C) → List Out → Option β) : Bool → Option β := fun z0 => K0 [[.d (.bool z0)]] []
noncomputable def laws_eqTermS.e (k : Nat) : Entry := { modes := [(.imm, 0), (.imm, 0)], rts := [4], al := false, run := fun {β} l K => match l with | [.d (.sl a0), .d (.sl a1)] => laws_eqTermS.f k a0 a1 (laws_eqTermS.kt a0 a1 K) | _ => none }
noncomputable def laws_eqTermS.E (k : Nat) : Env := fun g => bif g == 142 then some (laws_eqTerm.e k) else none
noncomputable def laws_eqTermS.h : Hints := ⟨fun n => bif n == 4 then ⟨[(0, .asis), (1, .asis), (5, .asis)], []⟩ else ⟨[], []⟩, fun _ => none, false, []⟩
noncomputable def laws_eqTermS.s0 (v0_0 : List (List D)) (v0_1 : List (List D)) (v : Int) : St :=
  match v with
  | v0_2 => ⟨[.d false (.sl v0_0), .d false (.sl v0_1), .any, .any, .any, .d true (.int .i64 v0_2), .any, .any, .any, .any, .any, .any, .any, .any, .any, .any, .any, .any, .any, .any, .any, .any, .any, .any, .any, .any, .any], []⟩
noncomputable def laws_eqTermS.b0 {β : Type} (k : Nat) : St → (Ex → St → Option β) → Option β := fun s K => den Try.prog (laws_eqTermS.E k) laws_eqTermS.h.H laws_eqTermS.h.J k (codeAt [1, 1, 0, 1, 0, 0] (codeOf Try.f82)) s K
noncomputable def laws_eqTermS.c0 {β : Type} (k : Nat) (a0 : List (List D)) (a1 : List (List D)) (K0 : List (List C) → List Out → Option β) : Ex → St → Option β := contAt Try.prog (laws_eqTermS.E k) laws_eqTermS.h k [1, 1, 0, 1, 0] (codeOf Try.f82) (finDen Try.prog Try.f82 laws_eqTermS.h (laws_eqTermS.as a0 a1) K0)
theorem laws_eqTermS.l0_eq {β : Type} (k : Nat) (a0 : List (List D)) (a1 : List (List D)) (K0 : List (List C) → List Out → Option β) (v0_0 : List (List D)) (v0_1 : List (List D)) : ∀ (kk : Nat) (v : Int), loopDen (laws_eqTermS.b0 k) (laws_eqTermS.h.H 4) kk (laws_eqTermS.s0 v0_0 v0_1 v) (laws_eqTermS.c0 k a0 a1 K0) = iter (laws_eqTermS.l0 k v0_0 v0_1 (laws_eqTermS.kt a0 a1 K0)) kk v :=
  loop_eq (laws_eqTermS.s0 v0_0 v0_1) _ (fun L0 v => by kernel_rfl)
noncomputable def laws_eqTermS.m {β : Type} (k : Nat) (a0 : List (List D)) (a1 : List (List D)) (K0 : List (List C) → List Out → Option β) (F : ((List (List D)) → (List (List D)) → Int → Option β)) : Option β :=
  bif (((a0.length : Int) : Int) != (a1.length : Int)) then ((laws_eqTermS.kt a0 a1 K0) false) else ((F) a0 a1 (0))
theorem laws_eqTermS.f_eq {β : Type} (k : Nat) (a0 : List (List D)) (a1 : List (List D)) (K0 : List (List C) → List Out → Option β) : funDen Try.prog (laws_eqTermS.E k) laws_eqTermS.h k Try.f82 (laws_eqTermS.as a0 a1) K0 = laws_eqTermS.g k a0 a1 (laws_eqTermS.kt a0 a1 K0) := Eq.trans (b := (laws_eqTermS.m k a0 a1 K0) (fun (v0_0 : List (List D)) (v0_1 : List (List D)) (v : Int) => loopDen (laws_eqTermS.b0 k) (laws_eqTermS.h.H 4) k (laws_eqTermS.s0 v0_0 v0_1 v) (laws_eqTermS.c0 k a0 a1 K0))) (by kernel_rfl) (Eq.trans (congrArg (laws_eqTermS.m k a0 a1 K0) (funext fun v0_0 => funext fun v0_1 => funext fun v => laws_eqTermS.l0_eq k a0 a1 K0 v0_0 v0_1 k v)) (by kernel_rfl))
noncomputable def laws_eqTermS.dec (rs : List (List C)) (os : List Out) : Option (Bool) := uncons rs fun c1 r2 => uncons c1 fun x3 l4 => cD x3 fun d5 => dBool d5 fun w0 => atEnd l4 <| atEnd r2 <| atEnd os (some w0)
theorem laws_eqTermS.kt_dec (a0 : List (List D)) (a1 : List (List D)) : laws_eqTermS.kt a0 a1 laws_eqTermS.dec = (fun z0 => some z0) := by kernel_rfl
theorem laws_eqTermS.inj (a0 : List (List D)) (a1 : List (List D)) {rs : List (List C)} {os : List Out} {z0 : Bool} (h : laws_eqTermS.dec rs os = some z0) (ho : OutShape (laws_eqTermS.as a0 a1) os) : rs = [[.d (.bool z0)]] ∧ os = [] := by
  unfold laws_eqTermS.dec at h
  obtain ⟨c1, r2, rfl, h1⟩ := uncons_some h
  obtain ⟨x3, l4, rfl, h2⟩ := uncons_some h1
  obtain ⟨d5, rfl, h3⟩ := cD_some h2
  obtain ⟨w0, rfl, h4⟩ := dBool_some h3
  obtain ⟨rfl, h5⟩ := atEnd_some h4
  obtain ⟨rfl, h6⟩ := atEnd_some h5
  obtain ⟨rfl, h7⟩ := atEnd_some h6
  obtain rfl := Option.some.inj h7
  exact ⟨rfl, rfl⟩
theorem laws_eqTermS.ok (k : Nat) : EntryOK Try.prog 82 (laws_eqTermS.e k) := by
  refine entry_of mix tyok (fn := Try.f82) (c := codeOf Try.f82) Try.func82 (by kernel_rfl) (h := laws_eqTermS.h) (k := k) (E := laws_eqTermS.E k) (env_cons (laws_eqTerm.ok k) env_nil) (by kernel_rfl) (by kernel_rfl) rfl (enter_of Try.func82 (by kernel_rfl)) ?_
  intro β l K r hr
  simp only [laws_eqTermS.e] at hr
  split at hr
  case h_2 => cases hr
  unfold laws_eqTermS.f at hr
  split at hr
  case h_2 => cases hr
  rename_i hz
  exact ⟨_, _, hr, _, laws_eqTermS.dec, _, (laws_eqTermS.f_eq k _ _ laws_eqTermS.dec).trans (by rw [laws_eqTermS.kt_dec]; exact hz), fun rs os h ho => laws_eqTermS.inj _ _ h ho⟩
/-! ### loop.example/g00119/laws.eqWeigh: function 143 -/
noncomputable def laws_eqWeigh.g {β : Type} (k : Nat) (a0_0 : ByteArray) (a0_1 : Int) (a1_0 : ByteArray) (a1_1 : Int) (K : Bool → Option β) : Option β :=
  bif (!(strEq a0_0 a1_0)) then (K false) else (bif ((a0_1 : Int) != a1_1) then (K false) else (K true))
noncomputable def laws_eqWeigh.t (k : Nat) (a0_0 : ByteArray) (a0_1 : Int) (a1_0 : ByteArray) (a1_1 : Int) : Option (Bool) := laws_eqWeigh.g k a0_0 a0_1 a1_0 a1_1 (fun z0 => some z0)
noncomputable def laws_eqWeigh.f {β : Type} (k : Nat) (a0_0 : ByteArray) (a0_1 : Int) (a1_0 : ByteArray) (a1_1 : Int) (K : Bool → Option β) : Option β :=
  match laws_eqWeigh.t k a0_0 a0_1 a1_0 a1_1 with
  | some z0 => K z0
  | none => none
noncomputable def laws_eqWeigh.as (a0_0 : ByteArray) (a0_1 : Int) (a1_0 : ByteArray) (a1_1 : Int) : List A := [.agg [.str a0_0, .int .i64 a0_1], .agg [.str a1_0, .int .i64 a1_1]]
noncomputable def laws_eqWeigh.kt {β : Type} (a0_0 : ByteArray) (a0_1 : Int) (a1_0 : ByteArray) (a1_1 : Int) (K0 : List (List C) → List Out → Option β) : Bool → Option β := fun z0 => K0 [[.d (.bool z0)]] []
noncomputable def laws_eqWeigh.e (k : Nat) : Entry := { modes := [(.imm, 0), (.imm, 0)], rts := [4], al := false, run := fun {β} l K => match l with | [.agg [.str a0_0, .int .i64 a0_1], .agg [.str a1_0, .int .i64 a1_1]] => laws_eqWeigh.f k a0_0 a0_1 a1_0 a1_1 (laws_eqWeigh.kt a0_0 a0_1 a1_0 a1_1 K) | _ => none }
noncomputable def laws_eqWeigh.E (k : Nat) : Env := fun g => none
noncomputable def laws_eqWeigh.h : Hints := ⟨fun n => ⟨[], []⟩, fun _ => none, false, []⟩
theorem laws_eqWeigh.f_eq {β : Type} (k : Nat) (a0_0 : ByteArray) (a0_1 : Int) (a1_0 : ByteArray) (a1_1 : Int) (K0 : List (List C) → List Out → Option β) : funDen Try.prog (laws_eqWeigh.E k) laws_eqWeigh.h k Try.f143 (laws_eqWeigh.as a0_0 a0_1 a1_0 a1_1) K0 = laws_eqWeigh.g k a0_0 a0_1 a1_0 a1_1 (laws_eqWeigh.kt a0_0 a0_1 a1_0 a1_1 K0) := by kernel_rfl
noncomputable def laws_eqWeigh.dec (rs : List (List C)) (os : List Out) : Option (Bool) := uncons rs fun c1 r2 => uncons c1 fun x3 l4 => cD x3 fun d5 => dBool d5 fun w0 => atEnd l4 <| atEnd r2 <| atEnd os (some w0)
theorem laws_eqWeigh.kt_dec (a0_0 : ByteArray) (a0_1 : Int) (a1_0 : ByteArray) (a1_1 : Int) : laws_eqWeigh.kt a0_0 a0_1 a1_0 a1_1 laws_eqWeigh.dec = (fun z0 => some z0) := by kernel_rfl
theorem laws_eqWeigh.inj (a0_0 : ByteArray) (a0_1 : Int) (a1_0 : ByteArray) (a1_1 : Int) {rs : List (List C)} {os : List Out} {z0 : Bool} (h : laws_eqWeigh.dec rs os = some z0) (ho : OutShape (laws_eqWeigh.as a0_0 a0_1 a1_0 a1_1) os) : rs = [[.d (.bool z0)]] ∧ os = [] := by
  unfold laws_eqWeigh.dec at h
  obtain ⟨c1, r2, rfl, h1⟩ := uncons_some h
  obtain ⟨x3, l4, rfl, h2⟩ := uncons_some h1
  obtain ⟨d5, rfl, h3⟩ := cD_some h2
  obtain ⟨w0, rfl, h4⟩ := dBool_some h3
  obtain ⟨rfl, h5⟩ := atEnd_some h4
  obtain ⟨rfl, h6⟩ := atEnd_some h5
  obtain ⟨rfl, h7⟩ := atEnd_some h6
  obtain rfl := Option.some.inj h7
  exact ⟨rfl, rfl⟩
theorem laws_eqWeigh.ok (k : Nat) : EntryOK Try.prog 143 (laws_eqWeigh.e k) := by
  refine entry_of mix tyok (fn := Try.f143) (c := codeOf Try.f143) Try.func143 (by kernel_rfl) (h := laws_eqWeigh.h) (k := k) (E := laws_eqWeigh.E k) env_nil (by kernel_rfl) (by kernel_rfl) rfl (enter_of Try.func143 (by kernel_rfl)) ?_
  intro β l K r hr
  simp only [laws_eqWeigh.e] at hr
  split at hr
  case h_2 => cases hr
  unfold laws_eqWeigh.f at hr
  split at hr
  case h_2 => cases hr
  rename_i hz
  exact ⟨_, _, hr, _, laws_eqWeigh.dec, _, (laws_eqWeigh.f_eq k _ _ _ _ laws_eqWeigh.dec).trans (by rw [laws_eqWeigh.kt_dec]; exact hz), fun rs os h ho => laws_eqWeigh.inj _ _ _ _ h ho⟩
/-! ### loop.example/g00119/laws.eqWeighS: function 83 -/
noncomputable def laws_eqWeighS.l0 {β : Type} (k : Nat) (v0_0 : List (List D)) (v0_1 : List (List D)) (K : Bool → Option β) (L0 : Int → Option β) (v : Int) : Option β :=
  match v with
  | v0_2 => bif (decide ((v0_2 : Int) < (v0_0.length : Int))) then (atRow v0_0 v0_2 fun c2 => uncons c2 fun d3 r4 => dStr d3 fun x5 => uncons r4 fun d6 r7 => dInt .i64 d6 fun x8 => atEnd r7 (atRow v0_1 v0_2 fun c9 => uncons c9 fun d10 r11 => dStr d10 fun x12 => uncons r11 fun d13 r14 => dInt .i64 d13 fun x15 => atEnd r14 (laws_eqWeigh.f k x5 x8 x12 x15 (fun y16 => bif (!y16) then (K false) else (L0 (IntKind.wrap .i64 (v0_2 + 1))))))) else (K true)
noncomputable def laws_eqWeighS.g {β : Type} (k : Nat) (a0 : List (List D)) (a1 : List (List D)) (K : Bool → Option β) : Option β :=
  bif (((a0.length : Int) : Int) != (a1.length : Int)) then (K false) else (iter (laws_eqWeighS.l0 k a0 a1 K) k (0))
noncomputable def laws_eqWeighS.t (k : Nat) (a0 : List (List D)) (a1 : List (List D)) : Option (Bool) := laws_eqWeighS.g k a0 a1 (fun z0 => some z0)
noncomputable def laws_eqWeighS.f {β : Type} (k : Nat) (a0 : List (List D)) (a1 : List (List D)) (K : Bool → Option β) : Option β :=
  match laws_eqWeighS.t k a0 a1 with
  | some z0 => K z0
  | none => none
noncomputable def laws_eqWeighS.as (a0 : List (List D)) (a1 : List (List D)) : List A := [.d (.sl a0), .d (.sl a1)]
noncomputable def laws_eqWeighS.kt {β : Type} (a0 : List (List D)) (a1 : List (List D)) (K0 : List (List C) → List Out → Option β) : Bool → Option β := fun z0 => K0 [[.d (.bool z0)]] []
noncomputable def laws_eqWeighS.e (k : Nat) : Entry := { modes := [(.imm, 0), (.imm, 0)], rts := [4], al := false, run := fun {β} l K => match l with | [.d (.sl a0), .d (.sl a1)] => laws_eqWeighS.f k a0 a1 (laws_eqWeighS.kt a0 a1 K) | _ => none }
noncomputable def laws_eqWeighS.E (k : Nat) : Env := fun g => bif g == 143 then some (laws_eqWeigh.e k) else none
noncomputable def laws_eqWeighS.h : Hints := ⟨fun n => bif n == 4 then ⟨[(0, .asis), (1, .asis), (5, .asis)], []⟩ else ⟨[], []⟩, fun _ => none, false, []⟩
noncomputable def laws_eqWeighS.s0 (v0_0 : List (List D)) (v0_1 : List (List D)) (v : Int) : St :=
  match v with
  | v0_2 => ⟨[.d false (.sl v0_0), .d false (.sl v0_1), .any, .any, .any, .d true (.int .i64 v0_2), .any, .any, .any, .any, .any, .any, .any, .any, .any, .any, .any, .any, .any, .any, .any, .any, .any, .any, .any, .any, .any], []⟩
noncomputable def laws_eqWeighS.b0 {β : Type} (k : Nat) : St → (Ex → St → Option β) → Option β := fun s K => den Try.prog (laws_eqWeighS.E k) laws_eqWeighS.h.H laws_eqWeighS.h.J k (codeAt [1, 1, 0, 1, 0, 0] (codeOf Try.f83)) s K
noncomputable def laws_eqWeighS.c0 {β : Type} (k : Nat) (a0 : List (List D)) (a1 : List (List D)) (K0 : List (List C) → List Out → Option β) : Ex → St → Option β := contAt Try.prog (laws_eqWeighS.E k) laws_eqWeighS.h k [1, 1, 0, 1, 0] (codeOf Try.f83) (finDen Try.prog Try.f83 laws_eqWeighS.h (laws_eqWeighS.as a0 a1) K0)
theorem laws_eqWeighS.l0_eq {β : Type} (k : Nat) (a0 : List (List D)) (a1 : List (List D)) (K0 : List (List C) → List Out → Option β) (v0_0 : List (List D)) (v0_1 : List (List D)) : ∀ (kk : Nat) (v : Int), loopDen (laws_eqWeighS.b0 k) (laws_eqWeighS.h.H 4) kk (laws_eqWeighS.s0 v0_0 v0_1 v) (laws_eqWeighS.c0 k a0 a1 K0) = iter (laws_eqWeighS.l0 k v0_0 v0_1 (laws_eqWeighS.kt a0 a1 K0)) kk v :=
  loop_eq (laws_eqWeighS.s0 v0_0 v0_1) _ (fun L0 v => by kernel_rfl)
noncomputable def laws_eqWeighS.m {β : Type} (k : Nat) (a0 : List (List D)) (a1 : List (List D)) (K0 : List (List C) → List Out → Option β) (F : ((List (List D)) → (List (List D)) → Int → Option β)) : Option β :=
  bif (((a0.length : Int) : Int) != (a1.length : Int)) then ((laws_eqWeighS.kt a0 a1 K0) false) else ((F) a0 a1 (0))
theorem laws_eqWeighS.f_eq {β : Type} (k : Nat) (a0 : List (List D)) (a1 : List (List D)) (K0 : List (List C) → List Out → Option β) : funDen Try.prog (laws_eqWeighS.E k) laws_eqWeighS.h k Try.f83 (laws_eqWeighS.as a0 a1) K0 = laws_eqWeighS.g k a0 a1 (laws_eqWeighS.kt a0 a1 K0) := Eq.trans (b := (laws_eqWeighS.m k a0 a1 K0) (fun (v0_0 : List (List D)) (v0_1 : List (List D)) (v : Int) => loopDen (laws_eqWeighS.b0 k) (laws_eqWeighS.h.H 4) k (laws_eqWeighS.s0 v0_0 v0_1 v) (laws_eqWeighS.c0 k a0 a1 K0))) (by kernel_rfl) (Eq.trans (congrArg (laws_eqWeighS.m k a0 a1 K0) (funext fun v0_0 => funext fun v0_1 => funext fun v => laws_eqWeighS.l0_eq k a0 a1 K0 v0_0 v0_1 k v)) (by kernel_rfl))
noncomputable def laws_eqWeighS.dec (rs : List (List C)) (os : List Out) : Option (Bool) := uncons rs fun c1 r2 => uncons c1 fun x3 l4 => cD x3 fun d5 => dBool d5 fun w0 => atEnd l4 <| atEnd r2 <| atEnd os (some w0)
theorem laws_eqWeighS.kt_dec (a0 : List (List D)) (a1 : List (List D)) : laws_eqWeighS.kt a0 a1 laws_eqWeighS.dec = (fun z0 => some z0) := by kernel_rfl
theorem laws_eqWeighS.inj (a0 : List (List D)) (a1 : List (List D)) {rs : List (List C)} {os : List Out} {z0 : Bool} (h : laws_eqWeighS.dec rs os = some z0) (ho : OutShape (laws_eqWeighS.as a0 a1) os) : rs = [[.d (.bool z0)]] ∧ os = [] := by
  unfold laws_eqWeighS.dec at h
  obtain ⟨c1, r2, rfl, h1⟩ := uncons_some h
  obtain ⟨x3, l4, rfl, h2⟩ := uncons_some h1
  obtain ⟨d5, rfl, h3⟩ := cD_some h2
  obtain ⟨w0, rfl, h4⟩ := dBool_some h3
  obtain ⟨rfl, h5⟩ := atEnd_some h4
  obtain ⟨rfl, h6⟩ := atEnd_some h5
  obtain ⟨rfl, h7⟩ := atEnd_some h6
  obtain rfl := Option.some.inj h7
  exact ⟨rfl, rfl⟩
theorem laws_eqWeighS.ok (k : Nat) : EntryOK Try.prog 83 (laws_eqWeighS.e k) := by
  refine entry_of mix tyok (fn := Try.f83) (c := codeOf Try.f83) Try.func83 (by kernel_rfl) (h := laws_eqWeighS.h) (k := k) (E := laws_eqWeighS.E k) (env_cons (laws_eqWeigh.ok k) env_nil) (by kernel_rfl) (by kernel_rfl) rfl (enter_of Try.func83 (by kernel_rfl)) ?_
  intro β l K r hr
  simp only [laws_eqWeighS.e] at hr
  split at hr
  case h_2 => cases hr
  unfold laws_eqWeighS.f at hr
  split at hr
  case h_2 => cases hr
  rename_i hz
  exact ⟨_, _, hr, _, laws_eqWeighS.dec, _, (laws_eqWeighS.f_eq k _ _ laws_eqWeighS.dec).trans (by rw [laws_eqWeighS.kt_dec]; exact hz), fun rs os h ho => laws_eqWeighS.inj _ _ h ho⟩
/-! ### loop.example/g00119/laws.eqWant: function 24 -/
noncomputable def laws_eqWant.g {β : Type} (k : Nat) (a0_0 : Int) (a0_1 : List (List D)) (a0_2 : List (List D)) (a0_3 : List (List D)) (a1_0 : Int) (a1_1 : List (List D)) (a1_2 : List (List D)) (a1_3 : List (List D)) (K : Bool → Option β) : Option β :=
  bif ((a0_0 : Int) != a1_0) then (K false) else (laws_eqTermS.f k a0_1 a1_1 (fun y40 => bif (!y40) then (K false) else (laws_eqStringS.f k a0_2 a1_2 (fun y41 => bif (!y41) then (K false) else (laws_eqWeighS.f k a0_3 a1_3 (fun y17 => bif (!y17) then (K false) else (K true)))))))
noncomputable def laws_eqWant.t (k : Nat) (a0_0 : Int) (a0_1 : List (List D)) (a0_2 : List (List D)) (a0_3 : List (List D)) (a1_0 : Int) (a1_1 : List (List D)) (a1_2 : List (List D)) (a1_3 : List (List D)) : Option (Bool) := laws_eqWant.g k a0_0 a0_1 a0_2 a0_3 a1_0 a1_1 a1_2 a1_3 (fun z0 => some z0)
noncomputable def laws_eqWant.f {β : Type} (k : Nat) (a0_0 : Int) (a0_1 : List (List D)) (a0_2 : List (List D)) (a0_3 : List (List D)) (a1_0 : Int) (a1_1 : List (List D)) (a1_2 : List (List D)) (a1_3 : List (List D)) (K : Bool → Option β) : Option β :=
  match laws_eqWant.t k a0_0 a0_1 a0_2 a0_3 a1_0 a1_1 a1_2 a1_3 with
  | some z0 => K z0
  | none => none
noncomputable def laws_eqWant.as (a0_0 : Int) (a0_1 : List (List D)) (a0_2 : List (List D)) (a0_3 : List (List D)) (a1_0 : Int) (a1_1 : List (List D)) (a1_2 : List (List D)) (a1_3 : List (List D)) : List A := [.agg [.int .i64 a0_0, .sl a0_1, .sl a0_2, .sl a0_3], .agg [.int .i64 a1_0, .sl a1_1, .sl a1_2, .sl a1_3]]
noncomputable def laws_eqWant.kt {β : Type} (a0_0 : Int) (a0_1 : List (List D)) (a0_2 : List (List D)) (a0_3 : List (List D)) (a1_0 : Int) (a1_1 : List (List D)) (a1_2 : List (List D)) (a1_3 : List (List D)) (K0 : List (List C) → List Out → Option β) : Bool → Option β := fun z0 => K0 [[.d (.bool z0)]] []
noncomputable def laws_eqWant.e (k : Nat) : Entry := { modes := [(.imm, 0), (.imm, 0)], rts := [4], al := false, run := fun {β} l K => match l with | [.agg [.int .i64 a0_0, .sl a0_1, .sl a0_2, .sl a0_3], .agg [.int .i64 a1_0, .sl a1_1, .sl a1_2, .sl a1_3]] => laws_eqWant.f k a0_0 a0_1 a0_2 a0_3 a1_0 a1_1 a1_2 a1_3 (laws_eqWant.kt a0_0 a0_1 a0_2 a0_3 a1_0 a1_1 a1_2 a1_3 K) | _ => none }
noncomputable def laws_eqWant.E (k : Nat) : Env := fun g => bif g == 82 then some (laws_eqTermS.e k) else bif g == 77 then some (laws_eqStringS.e k) else bif g == 83 then some (laws_eqWeighS.e k) else none
noncomputable def laws_eqWant.h : Hints := ⟨fun n => ⟨[], []⟩, fun _ => none, false, []⟩
theorem laws_eqWant.f_eq {β : Type} (k : Nat) (a0_0 : Int) (a0_1 : List (List D)) (a0_2 : List (List D)) (a0_3 : List (List D)) (a1_0 : Int) (a1_1 : List (List D)) (a1_2 : List (List D)) (a1_3 : List (List D)) (K0 : List (List C) → List Out → Option β) : funDen Try.prog (laws_eqWant.E k) laws_eqWant.h k Try.f24 (laws_eqWant.as a0_0 a0_1 a0_2 a0_3 a1_0 a1_1 a1_2 a1_3) K0 = laws_eqWant.g k a0_0 a0_1 a0_2 a0_3 a1_0 a1_1 a1_2 a1_3 (laws_eqWant.kt a0_0 a0_1 a0_2 a0_3 a1_0 a1_1 a1_2 a1_3 K0) := by kernel_rfl
noncomputable def laws_eqWant.dec (rs : List (List C)) (os : List Out) : Option (Bool) := uncons rs fun c1 r2 => uncons c1 fun x3 l4 => cD x3 fun d5 => dBool d5 fun w0 => atEnd l4 <| atEnd r2 <| atEnd os (some w0)
theorem laws_eqWant.kt_dec (a0_0 : Int) (a0_1 : List (List D)) (a0_2 : List (List D)) (a0_3 : List (List D)) (a1_0 : Int) (a1_1 : List (List D)) (a1_2 : List (List D)) (a1_3 : List (List D)) : laws_eqWant.kt a0_0 a0_1 a0_2 a0_3 a1_0 a1_1 a1_2 a1_3 laws_eqWant.dec = (fun z0 => some z0) := by kernel_rfl
theorem laws_eqWant.inj (a0_0 : Int) (a0_1 : List (List D)) (a0_2 : List (List D)) (a0_3 : List (List D)) (a1_0 : Int) (a1_1 : List (List D)) (a1_2 : List (List D)) (a1_3 : List (List D)) {rs : List (List C)} {os : List Out} {z0 : Bool} (h : laws_eqWant.dec rs os = some z0) (ho : OutShape (laws_eqWant.as a0_0 a0_1 a0_2 a0_3 a1_0 a1_1 a1_2 a1_3) os) : rs = [[.d (.bool z0)]] ∧ os = [] := by
  unfold laws_eqWant.dec at h
  obtain ⟨c1, r2, rfl, h1⟩ := uncons_some h
  obtain ⟨x3, l4, rfl, h2⟩ := uncons_some h1
  obtain ⟨d5, rfl, h3⟩ := cD_some h2
  obtain ⟨w0, rfl, h4⟩ := dBool_some h3
  obtain ⟨rfl, h5⟩ := atEnd_some h4
  obtain ⟨rfl, h6⟩ := atEnd_some h5
  obtain ⟨rfl, h7⟩ := atEnd_some h6
  obtain rfl := Option.some.inj h7
  exact ⟨rfl, rfl⟩
theorem laws_eqWant.ok (k : Nat) : EntryOK Try.prog 24 (laws_eqWant.e k) := by
  refine entry_of mix tyok (fn := Try.f24) (c := codeOf Try.f24) Try.func24 (by kernel_rfl) (h := laws_eqWant.h) (k := k) (E := laws_eqWant.E k) (env_cons (laws_eqTermS.ok k) (env_cons (laws_eqStringS.ok k) (env_cons (laws_eqWeighS.ok k) env_nil))) (by kernel_rfl) (by kernel_rfl) rfl (enter_of Try.func24 (by kernel_rfl)) ?_
  intro β l K r hr
  simp only [laws_eqWant.e] at hr
  split at hr
  case h_2 => cases hr
  unfold laws_eqWant.f at hr
  split at hr
  case h_2 => cases hr
  rename_i hz
  exact ⟨_, _, hr, _, laws_eqWant.dec, _, (laws_eqWant.f_eq k _ _ _ _ _ _ _ _ laws_eqWant.dec).trans (by rw [laws_eqWant.kt_dec]; exact hz), fun rs os h ho => laws_eqWant.inj _ _ _ _ _ _ _ _ h ho⟩
/-! ### loop.example/g00119/laws.FnExactWantOk: function 8 -/
noncomputable def laws_FnExactWantOk.g {β : Type} (k : Nat) (a0_0 : Int) (a0_1 : List (List D)) (a0_2 : List (List D)) (a0_3 : List (List D)) (K : Bool → Option β) : Option β :=
  laws_szWant.f k a0_0 a0_1 a0_2 a0_3 1048576 (fun y11 => bif (decide ((y11 : Int) < 0)) then (K true) else (laws_toWant.f k a0_0 a0_1 a0_2 a0_3 (fun y13 y14 y15 y16 => spec_WantOk.f k y13 (C.immRows y14) (C.immRows y15) (C.immRows y16) (fun y61 => laws_toWant.f k a0_0 a0_1 a0_2 a0_3 (fun y62 y63 y64 y65 => impl_WantOk.f k y62 (C.immRows y63) (C.immRows y64) (C.immRows y65) (fun y70 => bif (!(y70 == y61)) then (K false) else (laws_toWant.f k a0_0 a0_1 a0_2 a0_3 (fun y71 y72 y73 y74 => laws_eqWant.f k y62 (C.immRows y63) (C.immRows y64) (C.immRows y65) y71 (C.immRows y72) (C.immRows y73) (C.immRows y74) (fun y18 => bif (!y18) then (K false) else (K true))))))))))
noncomputable def laws_FnExactWantOk.t (k : Nat) (a0_0 : Int) (a0_1 : List (List D)) (a0_2 : List (List D)) (a0_3 : List (List D)) : Option (Bool) := laws_FnExactWantOk.g k a0_0 a0_1 a0_2 a0_3 (fun z0 => some z0)
noncomputable def laws_FnExactWantOk.f {β : Type} (k : Nat) (a0_0 : Int) (a0_1 : List (List D)) (a0_2 : List (List D)) (a0_3 : List (List D)) (K : Bool → Option β) : Option β :=
  match laws_FnExactWantOk.t k a0_0 a0_1 a0_2 a0_3 with
  | some z0 => K z0
  | none => none
noncomputable def laws_FnExactWantOk.as (a0_0 : Int) (a0_1 : List (List D)) (a0_2 : List (List D)) (a0_3 : List (List D)) : List A := [.agg [.int .i64 a0_0, .sl a0_1, .sl a0_2, .sl a0_3]]
noncomputable def laws_FnExactWantOk.kt {β : Type} (a0_0 : Int) (a0_1 : List (List D)) (a0_2 : List (List D)) (a0_3 : List (List D)) (K0 : List (List C) → List Out → Option β) : Bool → Option β := fun z0 => K0 [[.d (.bool z0)]] []
noncomputable def laws_FnExactWantOk.e (k : Nat) : Entry := { modes := [(.imm, 0)], rts := [4], al := false, run := fun {β} l K => match l with | [.agg [.int .i64 a0_0, .sl a0_1, .sl a0_2, .sl a0_3]] => laws_FnExactWantOk.f k a0_0 a0_1 a0_2 a0_3 (laws_FnExactWantOk.kt a0_0 a0_1 a0_2 a0_3 K) | _ => none }
noncomputable def laws_FnExactWantOk.E (k : Nat) : Env := fun g => bif g == 20 then some (laws_szWant.e k) else bif g == 22 then some (laws_toWant.e k) else bif g == 37 then some (spec_WantOk.e k) else bif g == 38 then some (impl_WantOk.e k) else bif g == 24 then some (laws_eqWant.e k) else none
noncomputable def laws_FnExactWantOk.h : Hints := ⟨fun n => ⟨[], []⟩, fun _ => none, false, []⟩
theorem laws_FnExactWantOk.f_eq {β : Type} (k : Nat) (a0_0 : Int) (a0_1 : List (List D)) (a0_2 : List (List D)) (a0_3 : List (List D)) (K0 : List (List C) → List Out → Option β) : funDen Try.prog (laws_FnExactWantOk.E k) laws_FnExactWantOk.h k Try.f8 (laws_FnExactWantOk.as a0_0 a0_1 a0_2 a0_3) K0 = laws_FnExactWantOk.g k a0_0 a0_1 a0_2 a0_3 (laws_FnExactWantOk.kt a0_0 a0_1 a0_2 a0_3 K0) := by kernel_rfl
noncomputable def laws_FnExactWantOk.dec (rs : List (List C)) (os : List Out) : Option (Bool) := uncons rs fun c1 r2 => uncons c1 fun x3 l4 => cD x3 fun d5 => dBool d5 fun w0 => atEnd l4 <| atEnd r2 <| atEnd os (some w0)
theorem laws_FnExactWantOk.kt_dec (a0_0 : Int) (a0_1 : List (List D)) (a0_2 : List (List D)) (a0_3 : List (List D)) : laws_FnExactWantOk.kt a0_0 a0_1 a0_2 a0_3 laws_FnExactWantOk.dec = (fun z0 => some z0) := by kernel_rfl
theorem laws_FnExactWantOk.inj (a0_0 : Int) (a0_1 : List (List D)) (a0_2 : List (List D)) (a0_3 : List (List D)) {rs : List (List C)} {os : List Out} {z0 : Bool} (h : laws_FnExactWantOk.dec rs os = some z0) (ho : OutShape (laws_FnExactWantOk.as a0_0 a0_1 a0_2 a0_3) os) : rs = [[.d (.bool z0)]] ∧ os = [] := by
  unfold laws_FnExactWantOk.dec at h
  obtain ⟨c1, r2, rfl, h1⟩ := uncons_some h
  obtain ⟨x3, l4, rfl, h2⟩ := uncons_some h1
  obtain ⟨d5, rfl, h3⟩ := cD_some h2
  obtain ⟨w0, rfl, h4⟩ := dBool_some h3
  obtain ⟨rfl, h5⟩ := atEnd_some h4
  obtain ⟨rfl, h6⟩ := atEnd_some h5
  obtain ⟨rfl, h7⟩ := atEnd_some h6
  obtain rfl := Option.some.inj h7
  exact ⟨rfl, rfl⟩
theorem laws_FnExactWantOk.ok (k : Nat) : EntryOK Try.prog 8 (laws_FnExactWantOk.e k) := by
  refine entry_of mix tyok (fn := Try.f8) (c := codeOf Try.f8) Try.func8 (by kernel_rfl) (h := laws_FnExactWantOk.h) (k := k) (E := laws_FnExactWantOk.E k) (env_cons (laws_szWant.ok k) (env_cons (laws_toWant.ok k) (env_cons (spec_WantOk.ok k) (env_cons (impl_WantOk.ok k) (env_cons (laws_eqWant.ok k) env_nil))))) (by kernel_rfl) (by kernel_rfl) rfl (enter_of Try.func8 (by kernel_rfl)) ?_
  intro β l K r hr
  simp only [laws_FnExactWantOk.e] at hr
  split at hr
  case h_2 => cases hr
  unfold laws_FnExactWantOk.f at hr
  split at hr
  case h_2 => cases hr
  rename_i hz
  exact ⟨_, _, hr, _, laws_FnExactWantOk.dec, _, (laws_FnExactWantOk.f_eq k _ _ _ _ laws_FnExactWantOk.dec).trans (by rw [laws_FnExactWantOk.kt_dec]; exact hz), fun rs os h ho => laws_FnExactWantOk.inj _ _ _ _ h ho⟩
end Go.Proofs.Ytnlhhhkeigjnoaa
