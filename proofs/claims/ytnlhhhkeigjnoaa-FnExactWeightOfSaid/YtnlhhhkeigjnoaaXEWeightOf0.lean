/- Printed: the functions that FnExactWeightOf reaches, read by the evaluator, each with its contract. -/
import Derived.Test.YtnlhhhkeigjnoaaTTerm
import Derived.Test.YtnlhhhkeigjnoaaProg
import Derived.KernelRfl
set_option linter.unusedVariables false
set_option linter.unusedSimpArgs false
namespace Go.Proofs.Ytnlhhhkeigjnoaa
open Go Go.T Go.Proofs
theorem mix : Try.prog.follows .mixedOrders = true := by kernel_rfl
theorem tyok : TyOk Try.prog := tyOk_of (by kernel_rfl)
/-! ### loop.example/g00119/laws.szStringS: function 65 -/
noncomputable def laws_szStringS.l0 {β : Type} (k : Nat) (v0_0 : List (List D)) (K : Int → Option β) (L0 : (Int × Int) → Option β) (v : Int × Int) : Option β :=
  match v with
  | (v0_1, v0_2) => bif (decide ((v0_2 : Int) < (v0_0.length : Int))) then (atRow v0_0 v0_2 fun c5 => uncons c5 fun d6 r7 => dStr d6 fun x8 => atEnd r7 (bif (decide (((IntKind.wrap .i64 (v0_1 - (x8.size : Int))) : Int) < 0)) then (K (-1)) else (L0 (IntKind.wrap .i64 (v0_1 - (x8.size : Int)), IntKind.wrap .i64 (v0_2 + 1))))) else (K v0_1)
noncomputable def laws_szStringS.g {β : Type} (k : Nat) (a0 : List (List D)) (a1 : Int) (K : Int → Option β) : Option β :=
  bif (decide (((IntKind.wrap .i64 (a1 - (a0.length : Int))) : Int) < 0)) then (K (-1)) else (iter (laws_szStringS.l0 k a0 K) k (IntKind.wrap .i64 (a1 - (a0.length : Int)), 0))
noncomputable def laws_szStringS.t (k : Nat) (a0 : List (List D)) (a1 : Int) : Option (Int) := laws_szStringS.g k a0 a1 (fun z0 => some z0)
noncomputable def laws_szStringS.f {β : Type} (k : Nat) (a0 : List (List D)) (a1 : Int) (K : Int → Option β) : Option β :=
  match laws_szStringS.t k a0 a1 with
  | some z0 => K z0
  | none => none
noncomputable def laws_szStringS.as (a0 : List (List D)) (a1 : Int) : List A := [.d (.sl a0), .d (.int .i64 a1)]
noncomputable def laws_szStringS.kt {β : Type} (a0 : List (List D)) (a1 : Int) (K0 : List (List C) → List Out → Option β) : Int → Option β := fun z0 => K0 [[.d (.int .i64 z0)]] []
noncomputable def laws_szStringS.e (k : Nat) : Entry := { modes := [(.imm, 0), (.imm, 0)], rts := [3], al := false, run := fun {β} l K => match l with | [.d (.sl a0), .d (.int .i64 a1)] => laws_szStringS.f k a0 a1 (laws_szStringS.kt a0 a1 K) | _ => none }
noncomputable def laws_szStringS.E (k : Nat) : Env := fun g => none
noncomputable def laws_szStringS.h : Hints := ⟨fun n => bif n == 5 then ⟨[(0, .asis), (1, .asis), (5, .asis)], []⟩ else ⟨[], []⟩, fun _ => none, false, []⟩
noncomputable def laws_szStringS.s0 (v0_0 : List (List D)) (v : Int × Int) : St :=
  match v with
  | (v0_1, v0_2) => ⟨[.d false (.sl v0_0), .d true (.int .i64 v0_1), .any, .any, .any, .d true (.int .i64 v0_2), .any, .any, .any, .any, .any, .any, .any, .any, .any, .any, .any, .any, .any, .any, .any, .any, .any, .any, .any, .any, .any, .any], []⟩
noncomputable def laws_szStringS.b0 {β : Type} (k : Nat) : St → (Ex → St → Option β) → Option β := fun s K => den Try.prog (laws_szStringS.E k) laws_szStringS.h.H laws_szStringS.h.J k (codeAt [1, 1, 1, 0, 1, 0, 0] (codeOf Try.f65)) s K
noncomputable def laws_szStringS.c0 {β : Type} (k : Nat) (a0 : List (List D)) (a1 : Int) (K0 : List (List C) → List Out → Option β) : Ex → St → Option β := contAt Try.prog (laws_szStringS.E k) laws_szStringS.h k [1, 1, 1, 0, 1, 0] (codeOf Try.f65) (finDen Try.prog Try.f65 laws_szStringS.h (laws_szStringS.as a0 a1) K0)
theorem laws_szStringS.l0_eq {β : Type} (k : Nat) (a0 : List (List D)) (a1 : Int) (K0 : List (List C) → List Out → Option β) (v0_0 : List (List D)) : ∀ (kk : Nat) (v : Int × Int), loopDen (laws_szStringS.b0 k) (laws_szStringS.h.H 5) kk (laws_szStringS.s0 v0_0 v) (laws_szStringS.c0 k a0 a1 K0) = iter (laws_szStringS.l0 k v0_0 (laws_szStringS.kt a0 a1 K0)) kk v :=
  loop_eq (laws_szStringS.s0 v0_0) _ (fun L0 v => by obtain ⟨v0_1, v0_2⟩ := v; kernel_rfl)
noncomputable def laws_szStringS.m {β : Type} (k : Nat) (a0 : List (List D)) (a1 : Int) (K0 : List (List C) → List Out → Option β) (F : ((List (List D)) → (Int × Int) → Option β)) : Option β :=
  bif (decide (((IntKind.wrap .i64 (a1 - (a0.length : Int))) : Int) < 0)) then ((laws_szStringS.kt a0 a1 K0) (-1)) else ((F) a0 (IntKind.wrap .i64 (a1 - (a0.length : Int)), 0))
theorem laws_szStringS.f_eq {β : Type} (k : Nat) (a0 : List (List D)) (a1 : Int) (K0 : List (List C) → List Out → Option β) : funDen Try.prog (laws_szStringS.E k) laws_szStringS.h k Try.f65 (laws_szStringS.as a0 a1) K0 = laws_szStringS.g k a0 a1 (laws_szStringS.kt a0 a1 K0) := Eq.trans (b := (laws_szStringS.m k a0 a1 K0) (fun (v0_0 : List (List D)) (v : Int × Int) => loopDen (laws_szStringS.b0 k) (laws_szStringS.h.H 5) k (laws_szStringS.s0 v0_0 v) (laws_szStringS.c0 k a0 a1 K0))) (by kernel_rfl) (Eq.trans (congrArg (laws_szStringS.m k a0 a1 K0) (funext fun v0_0 => funext fun v => laws_szStringS.l0_eq k a0 a1 K0 v0_0 k v)) (by kernel_rfl))
noncomputable def laws_szStringS.dec (rs : List (List C)) (os : List Out) : Option (Int) := uncons rs fun c1 r2 => uncons c1 fun x3 l4 => cD x3 fun d5 => dInt .i64 d5 fun w0 => atEnd l4 <| atEnd r2 <| atEnd os (some w0)
theorem laws_szStringS.kt_dec (a0 : List (List D)) (a1 : Int) : laws_szStringS.kt a0 a1 laws_szStringS.dec = (fun z0 => some z0) := by kernel_rfl
theorem laws_szStringS.inj (a0 : List (List D)) (a1 : Int) {rs : List (List C)} {os : List Out} {z0 : Int} (h : laws_szStringS.dec rs os = some z0) (ho : OutShape (laws_szStringS.as a0 a1) os) : rs = [[.d (.int .i64 z0)]] ∧ os = [] := by
  unfold laws_szStringS.dec at h
  obtain ⟨c1, r2, rfl, h1⟩ := uncons_some h
  obtain ⟨x3, l4, rfl, h2⟩ := uncons_some h1
  obtain ⟨d5, rfl, h3⟩ := cD_some h2
  obtain ⟨w0, rfl, h4⟩ := dInt_some h3
  obtain ⟨rfl, h5⟩ := atEnd_some h4
  obtain ⟨rfl, h6⟩ := atEnd_some h5
  obtain ⟨rfl, h7⟩ := atEnd_some h6
  obtain rfl := Option.some.inj h7
  exact ⟨rfl, rfl⟩
theorem laws_szStringS.ok (k : Nat) : EntryOK Try.prog 65 (laws_szStringS.e k) := by
  refine entry_of mix tyok (fn := Try.f65) (c := codeOf Try.f65) Try.func65 (by kernel_rfl) (h := laws_szStringS.h) (k := k) (E := laws_szStringS.E k) env_nil (by kernel_rfl) (by kernel_rfl) rfl (enter_of Try.func65 (by kernel_rfl)) ?_
  intro β l K r hr
  simp only [laws_szStringS.e] at hr
  split at hr
  case h_2 => cases hr
  unfold laws_szStringS.f at hr
  split at hr
  case h_2 => cases hr
  rename_i hz
  exact ⟨_, _, hr, _, laws_szStringS.dec, _, (laws_szStringS.f_eq k _ _ laws_szStringS.dec).trans (by rw [laws_szStringS.kt_dec]; exact hz), fun rs os h ho => laws_szStringS.inj _ _ h ho⟩
/-! ### loop.example/g00119/laws.szTerm: function 138 -/
noncomputable def laws_szTerm.g {β : Type} (k : Nat) (a0_0 : Int) (a0_1 : ByteArray) (a0_2 : List (List D)) (a1 : Int) (K : Int → Option β) : Option β :=
  bif (decide (((IntKind.wrap .i64 (a1 - (a0_1.size : Int))) : Int) < 0)) then (K (-1)) else (laws_szStringS.f k a0_2 (IntKind.wrap .i64 (a1 - (a0_1.size : Int))) (fun y9 => bif (decide ((y9 : Int) < 0)) then (K (-1)) else (K y9)))
noncomputable def laws_szTerm.t (k : Nat) (a0_0 : Int) (a0_1 : ByteArray) (a0_2 : List (List D)) (a1 : Int) : Option (Int) := laws_szTerm.g k a0_0 a0_1 a0_2 a1 (fun z0 => some z0)
noncomputable def laws_szTerm.f {β : Type} (k : Nat) (a0_0 : Int) (a0_1 : ByteArray) (a0_2 : List (List D)) (a1 : Int) (K : Int → Option β) : Option β :=
  match laws_szTerm.t k a0_0 a0_1 a0_2 a1 with
  | some z0 => K z0
  | none => none
noncomputable def laws_szTerm.as (a0_0 : Int) (a0_1 : ByteArray) (a0_2 : List (List D)) (a1 : Int) : List A := [.agg [.int .i64 a0_0, .str a0_1, .sl a0_2], .d (.int .i64 a1)]
noncomputable def laws_szTerm.kt {β : Type} (a0_0 : Int) (a0_1 : ByteArray) (a0_2 : List (List D)) (a1 : Int) (K0 : List (List C) → List Out → Option β) : Int → Option β := fun z0 => K0 [[.d (.int .i64 z0)]] []
noncomputable def laws_szTerm.e (k : Nat) : Entry := { modes := [(.imm, 0), (.imm, 0)], rts := [3], al := false, run := fun {β} l K => match l with | [.agg [.int .i64 a0_0, .str a0_1, .sl a0_2], .d (.int .i64 a1)] => laws_szTerm.f k a0_0 a0_1 a0_2 a1 (laws_szTerm.kt a0_0 a0_1 a0_2 a1 K) | _ => none }
noncomputable def laws_szTerm.E (k : Nat) : Env := fun g => bif g == 65 then some (laws_szStringS.e k) else none
noncomputable def laws_szTerm.h : Hints := ⟨fun n => ⟨[], []⟩, fun _ => none, false, []⟩
theorem laws_szTerm.f_eq {β : Type} (k : Nat) (a0_0 : Int) (a0_1 : ByteArray) (a0_2 : List (List D)) (a1 : Int) (K0 : List (List C) → List Out → Option β) : funDen Try.prog (laws_szTerm.E k) laws_szTerm.h k Try.f138 (laws_szTerm.as a0_0 a0_1 a0_2 a1) K0 = laws_szTerm.g k a0_0 a0_1 a0_2 a1 (laws_szTerm.kt a0_0 a0_1 a0_2 a1 K0) := by kernel_rfl
noncomputable def laws_szTerm.dec (rs : List (List C)) (os : List Out) : Option (Int) := uncons rs fun c1 r2 => uncons c1 fun x3 l4 => cD x3 fun d5 => dInt .i64 d5 fun w0 => atEnd l4 <| atEnd r2 <| atEnd os (some w0)
theorem laws_szTerm.kt_dec (a0_0 : Int) (a0_1 : ByteArray) (a0_2 : List (List D)) (a1 : Int) : laws_szTerm.kt a0_0 a0_1 a0_2 a1 laws_szTerm.dec = (fun z0 => some z0) := by kernel_rfl
theorem laws_szTerm.inj (a0_0 : Int) (a0_1 : ByteArray) (a0_2 : List (List D)) (a1 : Int) {rs : List (List C)} {os : List Out} {z0 : Int} (h : laws_szTerm.dec rs os = some z0) (ho : OutShape (laws_szTerm.as a0_0 a0_1 a0_2 a1) os) : rs = [[.d (.int .i64 z0)]] ∧ os = [] := by
  unfold laws_szTerm.dec at h
  obtain ⟨c1, r2, rfl, h1⟩ := uncons_some h
  obtain ⟨x3, l4, rfl, h2⟩ := uncons_some h1
  obtain ⟨d5, rfl, h3⟩ := cD_some h2
  obtain ⟨w0, rfl, h4⟩ := dInt_some h3
  obtain ⟨rfl, h5⟩ := atEnd_some h4
  obtain ⟨rfl, h6⟩ := atEnd_some h5
  obtain ⟨rfl, h7⟩ := atEnd_some h6
  obtain rfl := Option.some.inj h7
  exact ⟨rfl, rfl⟩
theorem laws_szTerm.ok (k : Nat) : EntryOK Try.prog 138 (laws_szTerm.e k) := by
  refine entry_of mix tyok (fn := Try.f138) (c := codeOf Try.f138) Try.func138 (by kernel_rfl) (h := laws_szTerm.h) (k := k) (E := laws_szTerm.E k) (env_cons (laws_szStringS.ok k) env_nil) (by kernel_rfl) (by kernel_rfl) rfl (enter_of Try.func138 (by kernel_rfl)) ?_
  intro β l K r hr
  simp only [laws_szTerm.e] at hr
  split at hr
  case h_2 => cases hr
  unfold laws_szTerm.f at hr
  split at hr
  case h_2 => cases hr
  rename_i hz
  exact ⟨_, _, hr, _, laws_szTerm.dec, _, (laws_szTerm.f_eq k _ _ _ _ laws_szTerm.dec).trans (by rw [laws_szTerm.kt_dec]; exact hz), fun rs os h ho => laws_szTerm.inj _ _ _ _ h ho⟩
/-! ### loop.example/g00119/laws.szTermS: function 78 -/
noncomputable def laws_szTermS.l0 {β : Type} (k : Nat) (v0_0 : List (List D)) (K : Int → Option β) (L0 : (Int × Int) → Option β) (v : Int × Int) : Option β :=
  match v with
  | (v0_1, v0_2) => bif (decide ((v0_2 : Int) < (v0_0.length : Int))) then (atRow v0_0 v0_2 fun c11 => uncons c11 fun d12 r13 => dInt .i64 d12 fun x14 => uncons r13 fun d15 r16 => dStr d15 fun x17 => uncons r16 fun d18 r19 => dSl d18 fun x20 => atEnd r19 (laws_szTerm.f k x14 x17 x20 v0_1 (fun y21 => bif (decide ((y21 : Int) < 0)) then (K (-1)) else (L0 (y21, IntKind.wrap .i64 (v0_2 + 1)))))) else (K v0_1)
noncomputable def laws_szTermS.g {β : Type} (k : Nat) (a0 : List (List D)) (a1 : Int) (K : Int → Option β) : Option β :=
  bif (decide (((IntKind.wrap .i64 (a1 - (a0.length : Int))) : Int) < 0)) then (K (-1)) else (iter (laws_szTermS.l0 k a0 K) k (IntKind.wrap .i64 (a1 - (a0.length : Int)), 0))
noncomputable def laws_szTermS.t (k : Nat) (a0 : List (List D)) (a1 : Int) : Option (Int) := laws_szTermS.g k a0 a1 (fun z0 => some z0)
noncomputable def laws_szTermS.f {β : Type} (k : Nat) (a0 : List (List D)) (a1 : Int) (K : Int → Option β) : Option β :=
  match laws_szTermS.t k a0 a1 with
  | some z0 => K z0
  | none => none
noncomputable def laws_szTermS.as (a0 : List (List D)) (a1 : Int) : List A := [.d (.sl a0), .d (.int .i64 a1)]
noncomputable def laws_szTermS.kt {β : Type} (a0 : List (List D)) (a1 : Int) (K0 : List (List C) → List Out → Option β) : Int → Option β := fun z0 => K0 [[.d (.int .i64 z0)]] []
noncomputable def laws_szTermS.e (k : Nat) : Entry := { modes := [(.imm, 0), (.imm, 0)], rts := [3], al := false, run := fun {β} l K => match l with | [.d (.sl a0), .d (.int .i64 a1)] => laws_szTermS.f k a0 a1 (laws_szTermS.kt a0 a1 K) | _ => none }
noncomputable def laws_szTermS.E (k : Nat) : Env := fun g => bif g == 138 then some (laws_szTerm.e k) else none
noncomputable def laws_szTermS.h : Hints := ⟨fun n => bif n == 5 then ⟨[(0, .asis), (1, .asis), (5, .asis)], []⟩ else ⟨[], []⟩, fun _ => none, false, []⟩
noncomputable def laws_szTermS.s0 (v0_0 : List (List D)) (v : Int × Int) : St :=
  match v with
  | (v0_1, v0_2) => ⟨[.d false (.sl v0_0), .d true (.int .i64 v0_1), .any, .any, .any, .d true (.int .i64 v0_2), .any, .any, .any, .any, .any, .any, .any, .any, .any, .any, .any, .any, .any, .any, .any, .any, .any, .any, .any, .any, .any], []⟩
noncomputable def laws_szTermS.b0 {β : Type} (k : Nat) : St → (Ex → St → Option β) → Option β := fun s K => den Try.prog (laws_szTermS.E k) laws_szTermS.h.H laws_szTermS.h.J k (codeAt [1, 1, 1, 0, 1, 0, 0] (codeOf Try.f78)) s K
noncomputable def laws_szTermS.c0 {β : Type} (k : Nat) (a0 : List (List D)) (a1 : Int) (K0 : List (List C) → List Out → Option β) : Ex → St → Option β := contAt Try.prog (laws_szTermS.E k) laws_szTermS.h k [1, 1, 1, 0, 1, 0] (codeOf Try.f78) (finDen Try.prog Try.f78 laws_szTermS.h (laws_szTermS.as a0 a1) K0)
theorem laws_szTermS.l0_eq {β : Type} (k : Nat) (a0 : List (List D)) (a1 : Int) (K0 : List (List C) → List Out → Option β) (v0_0 : List (List D)) : ∀ (kk : Nat) (v : Int × Int), loopDen (laws_szTermS.b0 k) (laws_szTermS.h.H 5) kk (laws_szTermS.s0 v0_0 v) (laws_szTermS.c0 k a0 a1 K0) = iter (laws_szTermS.l0 k v0_0 (laws_szTermS.kt a0 a1 K0)) kk v :=
  loop_eq (laws_szTermS.s0 v0_0) _ (fun L0 v => by obtain ⟨v0_1, v0_2⟩ := v; kernel_rfl)
noncomputable def laws_szTermS.m {β : Type} (k : Nat) (a0 : List (List D)) (a1 : Int) (K0 : List (List C) → List Out → Option β) (F : ((List (List D)) → (Int × Int) → Option β)) : Option β :=
  bif (decide (((IntKind.wrap .i64 (a1 - (a0.length : Int))) : Int) < 0)) then ((laws_szTermS.kt a0 a1 K0) (-1)) else ((F) a0 (IntKind.wrap .i64 (a1 - (a0.length : Int)), 0))
theorem laws_szTermS.f_eq {β : Type} (k : Nat) (a0 : List (List D)) (a1 : Int) (K0 : List (List C) → List Out → Option β) : funDen Try.prog (laws_szTermS.E k) laws_szTermS.h k Try.f78 (laws_szTermS.as a0 a1) K0 = laws_szTermS.g k a0 a1 (laws_szTermS.kt a0 a1 K0) := Eq.trans (b := (laws_szTermS.m k a0 a1 K0) (fun (v0_0 : List (List D)) (v : Int × Int) => loopDen (laws_szTermS.b0 k) (laws_szTermS.h.H 5) k (laws_szTermS.s0 v0_0 v) (laws_szTermS.c0 k a0 a1 K0))) (by kernel_rfl) (Eq.trans (congrArg (laws_szTermS.m k a0 a1 K0) (funext fun v0_0 => funext fun v => laws_szTermS.l0_eq k a0 a1 K0 v0_0 k v)) (by kernel_rfl))
noncomputable def laws_szTermS.dec (rs : List (List C)) (os : List Out) : Option (Int) := uncons rs fun c1 r2 => uncons c1 fun x3 l4 => cD x3 fun d5 => dInt .i64 d5 fun w0 => atEnd l4 <| atEnd r2 <| atEnd os (some w0)
theorem laws_szTermS.kt_dec (a0 : List (List D)) (a1 : Int) : laws_szTermS.kt a0 a1 laws_szTermS.dec = (fun z0 => some z0) := by kernel_rfl
theorem laws_szTermS.inj (a0 : List (List D)) (a1 : Int) {rs : List (List C)} {os : List Out} {z0 : Int} (h : laws_szTermS.dec rs os = some z0) (ho : OutShape (laws_szTermS.as a0 a1) os) : rs = [[.d (.int .i64 z0)]] ∧ os = [] := by
  unfold laws_szTermS.dec at h
  obtain ⟨c1, r2, rfl, h1⟩ := uncons_some h
  obtain ⟨x3, l4, rfl, h2⟩ := uncons_some h1
  obtain ⟨d5, rfl, h3⟩ := cD_some h2
  obtain ⟨w0, rfl, h4⟩ := dInt_some h3
  obtain ⟨rfl, h5⟩ := atEnd_some h4
  obtain ⟨rfl, h6⟩ := atEnd_some h5
  obtain ⟨rfl, h7⟩ := atEnd_some h6
  obtain rfl := Option.some.inj h7
  exact ⟨rfl, rfl⟩
theorem laws_szTermS.ok (k : Nat) : EntryOK Try.prog 78 (laws_szTermS.e k) := by
  refine entry_of mix tyok (fn := Try.f78) (c := codeOf Try.f78) Try.func78 (by kernel_rfl) (h := laws_szTermS.h) (k := k) (E := laws_szTermS.E k) (env_cons (laws_szTerm.ok k) env_nil) (by kernel_rfl) (by kernel_rfl) rfl (enter_of Try.func78 (by kernel_rfl)) ?_
  intro β l K r hr
  simp only [laws_szTermS.e] at hr
  split at hr
  case h_2 => cases hr
  unfold laws_szTermS.f at hr
  split at hr
  case h_2 => cases hr
  rename_i hz
  exact ⟨_, _, hr, _, laws_szTermS.dec, _, (laws_szTermS.f_eq k _ _ laws_szTermS.dec).trans (by rw [laws_szTermS.kt_dec]; exact hz), fun rs os h ho => laws_szTermS.inj _ _ h ho⟩
/-! ### loop.example/g00119/laws.szWeigh: function 139 -/
noncomputable def laws_szWeigh.g {β : Type} (k : Nat) (a0_0 : ByteArray) (a0_1 : Int) (a1 : Int) (K : Int → Option β) : Option β :=
  bif (decide (((IntKind.wrap .i64 (a1 - (a0_0.size : Int))) : Int) < 0)) then (K (-1)) else (K (IntKind.wrap .i64 (a1 - (a0_0.size : Int))))
noncomputable def laws_szWeigh.t (k : Nat) (a0_0 : ByteArray) (a0_1 : Int) (a1 : Int) : Option (Int) := laws_szWeigh.g k a0_0 a0_1 a1 (fun z0 => some z0)
noncomputable def laws_szWeigh.f {β : Type} (k : Nat) (a0_0 : ByteArray) (a0_1 : Int) (a1 : Int) (K : Int → Option β) : Option β :=
  match laws_szWeigh.t k a0_0 a0_1 a1 with
  | some z0 => K z0
  | none => none
noncomputable def laws_szWeigh.as (a0_0 : ByteArray) (a0_1 : Int) (a1 : Int) : List A := [.agg [.str a0_0, .int .i64 a0_1], .d (.int .i64 a1)]
noncomputable def laws_szWeigh.kt {β : Type} (a0_0 : ByteArray) (a0_1 : Int) (a1 : Int) (K0 : List (List C) → List Out → Option β) : Int → Option β := fun z0 => K0 [[.d (.int .i64 z0)]] []
noncomputable def laws_szWeigh.e (k : Nat) : Entry := { modes := [(.imm, 0), (.imm, 0)], rts := [3], al := false, run := fun {β} l K => match l with | [.agg [.str a0_0, .int .i64 a0_1], .d (.int .i64 a1)] => laws_szWeigh.f k a0_0 a0_1 a1 (laws_szWeigh.kt a0_0 a0_1 a1 K) | _ => none }
noncomputable def laws_szWeigh.E (k : Nat) : Env := fun g => none
noncomputable def laws_szWeigh.h : Hints := ⟨fun n => ⟨[], []⟩, fun _ => none, false, []⟩
theorem laws_szWeigh.f_eq {β : Type} (k : Nat) (a0_0 : ByteArray) (a0_1 : Int) (a1 : Int) (K0 : List (List C) → List Out → Option β) : funDen Try.prog (laws_szWeigh.E k) laws_szWeigh.h k Try.f139 (laws_szWeigh.as a0_0 a0_1 a1) K0 = laws_szWeigh.g k a0_0 a0_1 a1 (laws_szWeigh.kt a0_0 a0_1 a1 K0) := by kernel_rfl
noncomputable def laws_szWeigh.dec (rs : List (List C)) (os : List Out) : Option (Int) := uncons rs fun c1 r2 => uncons c1 fun x3 l4 => cD x3 fun d5 => dInt .i64 d5 fun w0 => atEnd l4 <| atEnd r2 <| atEnd os (some w0)
theorem laws_szWeigh.kt_dec (a0_0 : ByteArray) (a0_1 : Int) (a1 : Int) : laws_szWeigh.kt a0_0 a0_1 a1 laws_szWeigh.dec = (fun z0 => some z0) := by kernel_rfl
theorem laws_szWeigh.inj (a0_0 : ByteArray) (a0_1 : Int) (a1 : Int) {rs : List (List C)} {os : List Out} {z0 : Int} (h : laws_szWeigh.dec rs os = some z0) (ho : OutShape (laws_szWeigh.as a0_0 a0_1 a1) os) : rs = [[.d (.int .i64 z0)]] ∧ os = [] := by
  unfold laws_szWeigh.dec at h
  obtain ⟨c1, r2, rfl, h1⟩ := uncons_some h
  obtain ⟨x3, l4, rfl, h2⟩ := uncons_some h1
  obtain ⟨d5, rfl, h3⟩ := cD_some h2
  obtain ⟨w0, rfl, h4⟩ := dInt_some h3
  obtain ⟨rfl, h5⟩ := atEnd_some h4
  obtain ⟨rfl, h6⟩ := atEnd_some h5
  obtain ⟨rfl, h7⟩ := atEnd_some h6
  obtain rfl := Option.some.inj h7
  exact ⟨rfl, rfl⟩
theorem laws_szWeigh.ok (k : Nat) : EntryOK Try.prog 139 (laws_szWeigh.e k) := by
  refine entry_of mix tyok (fn := Try.f139) (c := codeOf Try.f139) Try.func139 (by kernel_rfl) (h := laws_szWeigh.h) (k := k) (E := laws_szWeigh.E k) env_nil (by kernel_rfl) (by kernel_rfl) rfl (enter_of Try.func139 (by kernel_rfl)) ?_
  intro β l K r hr
  simp only [laws_szWeigh.e] at hr
  split at hr
  case h_2 => cases hr
  unfold laws_szWeigh.f at hr
  split at hr
  case h_2 => cases hr
  rename_i hz
  exact ⟨_, _, hr, _, laws_szWeigh.dec, _, (laws_szWeigh.f_eq k _ _ _ laws_szWeigh.dec).trans (by rw [laws_szWeigh.kt_dec]; exact hz), fun rs os h ho => laws_szWeigh.inj _ _ _ h ho⟩
/-! ### loop.example/g00119/laws.szWeighS: function 79 -/
noncomputable def laws_szWeighS.l0 {β : Type} (k : Nat) (v0_0 : List (List D)) (K : Int → Option β) (L0 : (Int × Int) → Option β) (v : Int × Int) : Option β :=
  match v with
  | (v0_1, v0_2) => bif (decide ((v0_2 : Int) < (v0_0.length : Int))) then (atRow v0_0 v0_2 fun c2 => uncons c2 fun d3 r4 => dStr d3 fun x5 => uncons r4 fun d6 r7 => dInt .i64 d6 fun x8 => atEnd r7 (laws_szWeigh.f k x5 x8 v0_1 (fun y9 => bif (decide ((y9 : Int) < 0)) then (K (-1)) else (L0 (y9, IntKind.wrap .i64 (v0_2 + 1)))))) else (K v0_1)
noncomputable def laws_szWeighS.g {β : Type} (k : Nat) (a0 : List (List D)) (a1 : Int) (K : Int → Option β) : Option β :=
  bif (decide (((IntKind.wrap .i64 (a1 - (a0.length : Int))) : Int) < 0)) then (K (-1)) else (iter (laws_szWeighS.l0 k a0 K) k (IntKind.wrap .i64 (a1 - (a0.length : Int)), 0))
noncomputable def laws_szWeighS.t (k : Nat) (a0 : List (List D)) (a1 : Int) : Option (Int) := laws_szWeighS.g k a0 a1 (fun z0 => some z0)
noncomputable def laws_szWeighS.f {β : Type} (k : Nat) (a0 : List (List D)) (a1 : Int) (K : Int → Option β) : Option β :=
  match laws_szWeighS.t k a0 a1 with
  | some z0 => K z0
  | none => none
noncomputable def laws_szWeighS.as (a0 : List (List D)) (a1 : Int) : List A := [.d (.sl a0), .d (.int .i64 a1)]
noncomputable def laws_szWeighS.kt {β : Type} (a0 : List (List D)) (a1 : Int) (K0 : List (List C) → List Out → Option β) : Int → Option β := fun z0 => K0 [[.d (.int .i64 z0)]] []
noncomputable def laws_szWeighS.e (k : Nat) : Entry := { modes := [(.imm, 0), (.imm, 0)], rts := [3], al := false, run := fun {β} l K => match l with | [.d (.sl a0), .d (.int .i64 a1)] => laws_szWeighS.f k a0 a1 (laws_szWeighS.kt a0 a1 K) | _ => none }
noncomputable def laws_szWeighS.E (k : Nat) : Env := fun g => bif g == 139 then some (laws_szWeigh.e k) else none
noncomputable def laws_szWeighS.h : Hints := ⟨fun n => bif n == 5 then ⟨[(0, .asis), (1, .asis), (5, .asis)], []⟩ else ⟨[], []⟩, fun _ => none, false, []⟩
noncomputable def laws_szWeighS.s0 (v0_0 : List (List D)) (v : Int × Int) : St :=
  match v with
  | (v0_1, v0_2) => ⟨[.d false (.sl v0_0), .d true (.int .i64 v0_1), .any, .any, .any, .d true (.int .i64 v0_2), .any, .any, .any, .any, .any, .any, .any, .any, .any, .any, .any, .any, .any, .any, .any, .any, .any, .any, .any, .any, .any], []⟩
noncomputable def laws_szWeighS.b0 {β : Type} (k : Nat) : St → (Ex → St → Option β) → Option β := fun s K => den Try.prog (laws_szWeighS.E k) laws_szWeighS.h.H laws_szWeighS.h.J k (codeAt [1, 1, 1, 0, 1, 0, 0] (codeOf Try.f79)) s K
noncomputable def laws_szWeighS.c0 {β : Type} (k : Nat) (a0 : List (List D)) (a1 : Int) (K0 : List (List C) → List Out → Option β) : Ex → St → Option β := contAt Try.prog (laws_szWeighS.E k) laws_szWeighS.h k [1, 1, 1, 0, 1, 0] (codeOf Try.f79) (finDen Try.prog Try.f79 laws_szWeighS.h (laws_szWeighS.as a0 a1) K0)
theorem laws_szWeighS.l0_eq {β : Type} (k : Nat) (a0 : List (List D)) (a1 : Int) (K0 : List (List C) → List Out → Option β) (v0_0 : List (List D)) : ∀ (kk : Nat) (v : Int × Int), loopDen (laws_szWeighS.b0 k) (laws_szWeighS.h.H 5) kk (laws_szWeighS.s0 v0_0 v) (laws_szWeighS.c0 k a0 a1 K0) = iter (laws_szWeighS.l0 k v0_0 (laws_szWeighS.kt a0 a1 K0)) kk v :=
  loop_eq (laws_szWeighS.s0 v0_0) _ (fun L0 v => by obtain ⟨v0_1, v0_2⟩ := v; kernel_rfl)
noncomputable def laws_szWeighS.m {β : Type} (k : Nat) (a0 : List (List D)) (a1 : Int) (K0 : List (List C) → List Out → Option β) (F : ((List (List D)) → (Int × Int) → Option β)) : Option β :=
  bif (decide (((IntKind.wrap .i64 (a1 - (a0.length : Int))) : Int) < 0)) then ((laws_szWeighS.kt a0 a1 K0) (-1)) else ((F) a0 (IntKind.wrap .i64 (a1 - (a0.length : Int)), 0))
theorem laws_szWeighS.f_eq {β : Type} (k : Nat) (a0 : List (List D)) (a1 : Int) (K0 : List (List C) → List Out → Option β) : funDen Try.prog (laws_szWeighS.E k) laws_szWeighS.h k Try.f79 (laws_szWeighS.as a0 a1) K0 = laws_szWeighS.g k a0 a1 (laws_szWeighS.kt a0 a1 K0) := Eq.trans (b := (laws_szWeighS.m k a0 a1 K0) (fun (v0_0 : List (List D)) (v : Int × Int) => loopDen (laws_szWeighS.b0 k) (laws_szWeighS.h.H 5) k (laws_szWeighS.s0 v0_0 v) (laws_szWeighS.c0 k a0 a1 K0))) (by kernel_rfl) (Eq.trans (congrArg (laws_szWeighS.m k a0 a1 K0) (funext fun v0_0 => funext fun v => laws_szWeighS.l0_eq k a0 a1 K0 v0_0 k v)) (by kernel_rfl))
noncomputable def laws_szWeighS.dec (rs : List (List C)) (os : List Out) : Option (Int) := uncons rs fun c1 r2 => uncons c1 fun x3 l4 => cD x3 fun d5 => dInt .i64 d5 fun w0 => atEnd l4 <| atEnd r2 <| atEnd os (some w0)
theorem laws_szWeighS.kt_dec (a0 : List (List D)) (a1 : Int) : laws_szWeighS.kt a0 a1 laws_szWeighS.dec = (fun z0 => some z0) := by kernel_rfl
theorem laws_szWeighS.inj (a0 : List (List D)) (a1 : Int) {rs : List (List C)} {os : List Out} {z0 : Int} (h : laws_szWeighS.dec rs os = some z0) (ho : OutShape (laws_szWeighS.as a0 a1) os) : rs = [[.d (.int .i64 z0)]] ∧ os = [] := by
  unfold laws_szWeighS.dec at h
  obtain ⟨c1, r2, rfl, h1⟩ := uncons_some h
  obtain ⟨x3, l4, rfl, h2⟩ := uncons_some h1
  obtain ⟨d5, rfl, h3⟩ := cD_some h2
  obtain ⟨w0, rfl, h4⟩ := dInt_some h3
  obtain ⟨rfl, h5⟩ := atEnd_some h4
  obtain ⟨rfl, h6⟩ := atEnd_some h5
  obtain ⟨rfl, h7⟩ := atEnd_some h6
  obtain rfl := Option.some.inj h7
  exact ⟨rfl, rfl⟩
theorem laws_szWeighS.ok (k : Nat) : EntryOK Try.prog 79 (laws_szWeighS.e k) := by
  refine entry_of mix tyok (fn := Try.f79) (c := codeOf Try.f79) Try.func79 (by kernel_rfl) (h := laws_szWeighS.h) (k := k) (E := laws_szWeighS.E k) (env_cons (laws_szWeigh.ok k) env_nil) (by kernel_rfl) (by kernel_rfl) rfl (enter_of Try.func79 (by kernel_rfl)) ?_
  intro β l K r hr
  simp only [laws_szWeighS.e] at hr
  split at hr
  case h_2 => cases hr
  unfold laws_szWeighS.f at hr
  split at hr
  case h_2 => cases hr
  rename_i hz
  exact ⟨_, _, hr, _, laws_szWeighS.dec, _, (laws_szWeighS.f_eq k _ _ laws_szWeighS.dec).trans (by rw [laws_szWeighS.kt_dec]; exact hz), fun rs os h ho => laws_szWeighS.inj _ _ h ho⟩
/-! ### loop.example/g00119/laws.szWant: function 20 -/
noncomputable def laws_szWant.g {β : Type} (k : Nat) (a0_0 : Int) (a0_1 : List (List D)) (a0_2 : List (List D)) (a0_3 : List (List D)) (a1 : Int) (K : Int → Option β) : Option β :=
  laws_szTermS.f k a0_1 a1 (fun y22 => bif (decide ((y22 : Int) < 0)) then (K (-1)) else (laws_szStringS.f k a0_2 y22 (fun y23 => bif (decide ((y23 : Int) < 0)) then (K (-1)) else (laws_szWeighS.f k a0_3 y23 (fun y10 => bif (decide ((y10 : Int) < 0)) then (K (-1)) else (K y10))))))
noncomputable def laws_szWant.t (k : Nat) (a0_0 : Int) (a0_1 : List (List D)) (a0_2 : List (List D)) (a0_3 : List (List D)) (a1 : Int) : Option (Int) := laws_szWant.g k a0_0 a0_1 a0_2 a0_3 a1 (fun z0 => some z0)
noncomputable def laws_szWant.f {β : Type} (k : Nat) (a0_0 : Int) (a0_1 : List (List D)) (a0_2 : List (List D)) (a0_3 : List (List D)) (a1 : Int) (K : Int → Option β) : Option β :=
  match laws_szWant.t k a0_0 a0_1 a0_2 a0_3 a1 with
  | some z0 => K z0
  | none => none
noncomputable def laws_szWant.as (a0_0 : Int) (a0_1 : List (List D)) (a0_2 : List (List D)) (a0_3 : List (List D)) (a1 : Int) : List A := [.agg [.int .i64 a0_0, .sl a0_1, .sl a0_2, .sl a0_3], .d (.int .i64 a1)]
noncomputable def laws_szWant.kt {β : Type} (a0_0 : Int) (a0_1 : List (List D)) (a0_2 : List (List D)) (a0_3 : List (List D)) (a1 : Int) (K0 : List (List C) → List Out → Option β) : Int → Option β := fun z0 => K0 [[.d (.int .i64 z0)]] []
noncomputable def laws_szWant.e (k : Nat) : Entry := { modes := [(.imm, 0), (.imm, 0)], rts := [3], al := false, run := fun {β} l K => match l with | [.agg [.int .i64 a0_0, .sl a0_1, .sl a0_2, .sl a0_3], .d (.int .i64 a1)] => laws_szWant.f k a0_0 a0_1 a0_2 a0_3 a1 (laws_szWant.kt a0_0 a0_1 a0_2 a0_3 a1 K) | _ => none }
noncomputable def laws_szWant.E (k : Nat) : Env := fun g => bif g == 78 then some (laws_szTermS.e k) else bif g == 65 then some (laws_szStringS.e k) else bif g == 79 then some (laws_szWeighS.e k) else none
noncomputable def laws_szWant.h : Hints := ⟨fun n => ⟨[], []⟩, fun _ => none, false, []⟩
theorem laws_szWant.f_eq {β : Type} (k : Nat) (a0_0 : Int) (a0_1 : List (List D)) (a0_2 : List (List D)) (a0_3 : List (List D)) (a1 : Int) (K0 : List (List C) → List Out → Option β) : funDen Try.prog (laws_szWant.E k) laws_szWant.h k Try.f20 (laws_szWant.as a0_0 a0_1 a0_2 a0_3 a1) K0 = laws_szWant.g k a0_0 a0_1 a0_2 a0_3 a1 (laws_szWant.kt a0_0 a0_1 a0_2 a0_3 a1 K0) := by kernel_rfl
noncomputable def laws_szWant.dec (rs : List (List C)) (os : List Out) : Option (Int) := uncons rs fun c1 r2 => uncons c1 fun x3 l4 => cD x3 fun d5 => dInt .i64 d5 fun w0 => atEnd l4 <| atEnd r2 <| atEnd os (some w0)
theorem laws_szWant.kt_dec (a0_0 : Int) (a0_1 : List (List D)) (a0_2 : List (List D)) (a0_3 : List (List D)) (a1 : Int) : laws_szWant.kt a0_0 a0_1 a0_2 a0_3 a1 laws_szWant.dec = (fun z0 => some z0) := by kernel_rfl
theorem laws_szWant.inj (a0_0 : Int) (a0_1 : List (List D)) (a0_2 : List (List D)) (a0_3 : List (List D)) (a1 : Int) {rs : List (List C)} {os : List Out} {z0 : Int} (h : laws_szWant.dec rs os = some z0) (ho : OutShape (laws_szWant.as a0_0 a0_1 a0_2 a0_3 a1) os) : rs = [[.d (.int .i64 z0)]] ∧ os = [] := by
  unfold laws_szWant.dec at h
  obtain ⟨c1, r2, rfl, h1⟩ := uncons_some h
  obtain ⟨x3, l4, rfl, h2⟩ := uncons_some h1
  obtain ⟨d5, rfl, h3⟩ := cD_some h2
  obtain ⟨w0, rfl, h4⟩ := dInt_some h3
  obtain ⟨rfl, h5⟩ := atEnd_some h4
  obtain ⟨rfl, h6⟩ := atEnd_some h5
  obtain ⟨rfl, h7⟩ := atEnd_some h6
  obtain rfl := Option.some.inj h7
  exact ⟨rfl, rfl⟩
theorem laws_szWant.ok (k : Nat) : EntryOK Try.prog 20 (laws_szWant.e k) := by
  refine entry_of mix tyok (fn := Try.f20) (c := codeOf Try.f20) Try.func20 (by kernel_rfl) (h := laws_szWant.h) (k := k) (E := laws_szWant.E k) (env_cons (laws_szTermS.ok k) (env_cons (laws_szStringS.ok k) (env_cons (laws_szWeighS.ok k) env_nil))) (by kernel_rfl) (by kernel_rfl) rfl (enter_of Try.func20 (by kernel_rfl)) ?_
  intro β l K r hr
  simp only [laws_szWant.e] at hr
  split at hr
  case h_2 => cases hr
  unfold laws_szWant.f at hr
  split at hr
  case h_2 => cases hr
  rename_i hz
  exact ⟨_, _, hr, _, laws_szWant.dec, _, (laws_szWant.f_eq k _ _ _ _ _ laws_szWant.dec).trans (by rw [laws_szWant.kt_dec]; exact hz), fun rs os h ho => laws_szWant.inj _ _ _ _ _ h ho⟩
/-! ### loop.example/g00119/laws.toStringS: function 71 -/
noncomputable def laws_toStringS.l0 {β : Type} (k : Nat) (v0_0 : List (List D)) (K : (List (List C)) → Option β) (L0 : (Int × (List (List C))) → Option β) (v : Int × (List (List C))) : Option β :=
  match v with
  | (v0_1, v0_2) => bif (decide ((v0_1 : Int) < (v0_0.length : Int))) then (atRow v0_0 v0_1 fun c5 => uncons c5 fun d6 r7 => dStr d6 fun x8 => atEnd r7 (guardP ((0 : Int) ≤ v0_1 ∧ v0_1 < (v0_2.length : Int)) (guardP (Int.toNat v0_1 < v0_2.length) (L0 (IntKind.wrap .i64 (v0_1 + 1), v0_2.modify (Int.toNat v0_1) fun c => splice c 0 [.d (.str x8)]))))) else (K v0_2)
noncomputable def laws_toStringS.g {β : Type} (k : Nat) (a0 : List (List D)) (K : (List (List C)) → Option β) : Option β :=
  guardP ((0 : Int) ≤ (a0.length : Int) ∧ (a0.length : Int) ≤ (most : Int) ∧ (a0.length : Int) ≤ (a0.length : Int) ∧ (a0.length : Int) ≤ (a0.length : Int)) (iter (laws_toStringS.l0 k a0 K) k (0, List.replicate (Int.toNat (a0.length : Int)) ([.d (.str (⟨#[]⟩ : ByteArray))] : List C)))
noncomputable def laws_toStringS.t (k : Nat) (a0 : List (List D)) : Option ((List (List C))) := laws_toStringS.g k a0 (fun z0 => some z0)
noncomputable def laws_toStringS.f {β : Type} (k : Nat) (a0 : List (List D)) (K : (List (List C)) → Option β) : Option β :=
  match laws_toStringS.t k a0 with
  | some z0 => K z0
  | none => none
noncomputable def laws_toStringS.as (a0 : List (List D)) : List A := [.d (.sl a0)]
noncomputable def laws_toStringS.kt {β : Type} (a0 : List (List D)) (K0 : List (List C) → List Out → Option β) : (List (List C)) → Option β := fun z0 => K0 [[.own z0]] []
noncomputable def laws_toStringS.e (k : Nat) : Entry := { modes := [(.imm, 0)], rts := [23], al := false, run := fun {β} l K => match l with | [.d (.sl a0)] => laws_toStringS.f k a0 (laws_toStringS.kt a0 K) | _ => none }
noncomputable def laws_toStringS.E (k : Nat) : Env := fun g => none
noncomputable def laws_toStringS.h : Hints := ⟨fun n => bif n == 3 then ⟨[(0, .asis), (3, .asis), (4, .asis)], []⟩ else ⟨[], []⟩, fun _ => none, false, []⟩
noncomputable def laws_toStringS.s0 (v0_0 : List (List D)) (v : Int × (List (List C))) : St :=
  match v with
  | (v0_1, v0_2) => ⟨[.d false (.sl v0_0), .any, .any, .row 0, .d true (.int .i64 v0_1), .any, .any, .any, .any, .any, .any, .any, .any, .any, .any, .any, .any, .any, .any, .any, .any, .any], [.row none true 23 v0_2]⟩
noncomputable def laws_toStringS.b0 {β : Type} (k : Nat) : St → (Ex → St → Option β) → Option β := fun s K => den Try.prog (laws_toStringS.E k) laws_toStringS.h.H laws_toStringS.h.J k (codeAt [1, 1, 0, 1, 0, 0] (codeOf Try.f71)) s K
noncomputable def laws_toStringS.c0 {β : Type} (k : Nat) (a0 : List (List D)) (K0 : List (List C) → List Out → Option β) : Ex → St → Option β := contAt Try.prog (laws_toStringS.E k) laws_toStringS.h k [1, 1, 0, 1, 0] (codeOf Try.f71) (finDen Try.prog Try.f71 laws_toStringS.h (laws_toStringS.as a0) K0)
theorem laws_toStringS.l0_eq {β : Type} (k : Nat) (a0 : List (List D)) (K0 : List (List C) → List Out → Option β) (v0_0 : List (List D)) : ∀ (kk : Nat) (v : Int × (List (List C))), loopDen (laws_toStringS.b0 k) (laws_toStringS.h.H 3) kk (laws_toStringS.s0 v0_0 v) (laws_toStringS.c0 k a0 K0) = iter (laws_toStringS.l0 k v0_0 (laws_toStringS.kt a0 K0)) kk v :=
  loop_eq (laws_toStringS.s0 v0_0) _ (fun L0 v => by obtain ⟨v0_1, v0_2⟩ := v; kernel_rfl)
noncomputable def laws_toStringS.m {β : Type} (k : Nat) (a0 : List (List D)) (K0 : List (List C) → List Out → Option β) (F : ((List (List D)) → (Int × (List (List C))) → Option β)) : Option β :=
  guardP ((0 : Int) ≤ (a0.length : Int) ∧ (a0.length : Int) ≤ (most : Int) ∧ (a0.length : Int) ≤ (a0.length : Int) ∧ (a0.length : Int) ≤ (a0.length : Int)) ((F) a0 (0, List.replicate (Int.toNat (a0.length : Int)) ([.d (.str (⟨#[]⟩ : ByteArray))] : List C)))
theorem laws_toStringS.f_eq {β : Type} (k : Nat) (a0 : List (List D)) (K0 : List (List C) → List Out → Option β) : funDen Try.prog (laws_toStringS.E k) laws_toStringS.h k Try.f71 (laws_toStringS.as a0) K0 = laws_toStringS.g k a0 (laws_toStringS.kt a0 K0) := Eq.trans (b := (laws_toStringS.m k a0 K0) (fun (v0_0 : List (List D)) (v : Int × (List (List C))) => loopDen (laws_toStringS.b0 k) (laws_toStringS.h.H 3) k (laws_toStringS.s0 v0_0 v) (laws_toStringS.c0 k a0 K0))) (by kernel_rfl) (Eq.trans (congrArg (laws_toStringS.m k a0 K0) (funext fun v0_0 => funext fun v => laws_toStringS.l0_eq k a0 K0 v0_0 k v)) (by kernel_rfl))
noncomputable def laws_toStringS.dec (rs : List (List C)) (os : List Out) : Option ((List (List C))) := uncons rs fun c1 r2 => uncons c1 fun x3 l4 => cOwn x3 fun w0 => atEnd l4 <| atEnd r2 <| atEnd os (some w0)
theorem laws_toStringS.kt_dec (a0 : List (List D)) : laws_toStringS.kt a0 laws_toStringS.dec = (fun z0 => some z0) := by kernel_rfl
theorem laws_toStringS.inj (a0 : List (List D)) {rs : List (List C)} {os : List Out} {z0 : List (List C)} (h : laws_toStringS.dec rs os = some z0) (ho : OutShape (laws_toStringS.as a0) os) : rs = [[.own z0]] ∧ os = [] := by
  unfold laws_toStringS.dec at h
  obtain ⟨c1, r2, rfl, h1⟩ := uncons_some h
  obtain ⟨x3, l4, rfl, h2⟩ := uncons_some h1
  obtain ⟨w0, rfl, h3⟩ := cOwn_some h2
  obtain ⟨rfl, h4⟩ := atEnd_some h3
  obtain ⟨rfl, h5⟩ := atEnd_some h4
  obtain ⟨rfl, h6⟩ := atEnd_some h5
  obtain rfl := Option.some.inj h6
  exact ⟨rfl, rfl⟩
theorem laws_toStringS.ok (k : Nat) : EntryOK Try.prog 71 (laws_toStringS.e k) := by
  refine entry_of mix tyok (fn := Try.f71) (c := codeOf Try.f71) Try.func71 (by kernel_rfl) (h := laws_toStringS.h) (k := k) (E := laws_toStringS.E k) env_nil (by kernel_rfl) (by kernel_rfl) rfl (enter_of Try.func71 (by kernel_rfl)) ?_
  intro β l K r hr
  simp only [laws_toStringS.e] at hr
  split at hr
  case h_2 => cases hr
  unfold laws_toStringS.f at hr
  split at hr
  case h_2 => cases hr
  rename_i hz
  exact ⟨_, _, hr, _, laws_toStringS.dec, _, (laws_toStringS.f_eq k _ laws_toStringS.dec).trans (by rw [laws_toStringS.kt_dec]; exact hz), fun rs os h ho => laws_toStringS.inj _ h ho⟩
/-! ### loop.example/g00119/laws.toTerm: function 140 -/
noncomputable def laws_toTerm.g {β : Type} (k : Nat) (a0_0 : Int) (a0_1 : ByteArray) (a0_2 : List (List D)) (K : Int → ByteArray → (List (List C)) → Option β) : Option β :=
  laws_toStringS.f k a0_2 (fun y9 => K a0_0 a0_1 y9)
noncomputable def laws_toTerm.t (k : Nat) (a0_0 : Int) (a0_1 : ByteArray) (a0_2 : List (List D)) : Option (Int × ByteArray × (List (List C))) := laws_toTerm.g k a0_0 a0_1 a0_2 (fun z0 z1 z2 => some (z0, z1, z2))
noncomputable def laws_toTerm.f {β : Type} (k : Nat) (a0_0 : Int) (a0_1 : ByteArray) (a0_2 : List (List D)) (K : Int → ByteArray → (List (List C)) → Option β) : Option β :=
  match laws_toTerm.t k a0_0 a0_1 a0_2 with
  | some (z0, z1, z2) => K z0 z1 z2
  | none => none
noncomputable def laws_toTerm.as (a0_0 : Int) (a0_1 : ByteArray) (a0_2 : List (List D)) : List A := [.agg [.int .i64 a0_0, .str a0_1, .sl a0_2]]
noncomputable def laws_toTerm.kt {β : Type} (a0_0 : Int) (a0_1 : ByteArray) (a0_2 : List (List D)) (K0 : List (List C) → List Out → Option β) : Int → ByteArray → (List (List C)) → Option β := fun z0 z1 z2 => K0 [[.d (.int .i64 z0), .d (.str z1), .own z2]] []
noncomputable def laws_toTerm.e (k : Nat) : Entry := { modes := [(.imm, 0)], rts := [194], al := false, run := fun {β} l K => match l with | [.agg [.int .i64 a0_0, .str a0_1, .sl a0_2]] => laws_toTerm.f k a0_0 a0_1 a0_2 (laws_toTerm.kt a0_0 a0_1 a0_2 K) | _ => none }
noncomputable def laws_toTerm.E (k : Nat) : Env := fun g => bif g == 71 then some (laws_toStringS.e k) else none
noncomputable def laws_toTerm.h : Hints := ⟨fun n => ⟨[], []⟩, fun _ => none, false, []⟩
theorem laws_toTerm.f_eq {β : Type} (k : Nat) (a0_0 : Int) (a0_1 : ByteArray) (a0_2 : List (List D)) (K0 : List (List C) → List Out → Option β) : funDen Try.prog (laws_toTerm.E k) laws_toTerm.h k Try.f140 (laws_toTerm.as a0_0 a0_1 a0_2) K0 = laws_toTerm.g k a0_0 a0_1 a0_2 (laws_toTerm.kt a0_0 a0_1 a0_2 K0) := by kernel_rfl
noncomputable def laws_toTerm.dec (rs : List (List C)) (os : List Out) : Option (Int × ByteArray × (List (List C))) := uncons rs fun c1 r2 => uncons c1 fun x3 l4 => cD x3 fun d5 => dInt .i64 d5 fun w0 => uncons l4 fun x6 l7 => cD x6 fun d8 => dStr d8 fun w1 => uncons l7 fun x9 l10 => cOwn x9 fun w2 => atEnd l10 <| atEnd r2 <| atEnd os (some (w0, w1, w2))
theorem laws_toTerm.kt_dec (a0_0 : Int) (a0_1 : ByteArray) (a0_2 : List (List D)) : laws_toTerm.kt a0_0 a0_1 a0_2 laws_toTerm.dec = (fun z0 z1 z2 => some (z0, z1, z2)) := by kernel_rfl
theorem laws_toTerm.inj (a0_0 : Int) (a0_1 : ByteArray) (a0_2 : List (List D)) {rs : List (List C)} {os : List Out} {z0 : Int} {z1 : ByteArray} {z2 : List (List C)} (h : laws_toTerm.dec rs os = some (z0, z1, z2)) (ho : OutShape (laws_toTerm.as a0_0 a0_1 a0_2) os) : rs = [[.d (.int .i64 z0), .d (.str z1), .own z2]] ∧ os = [] := by
  unfold laws_toTerm.dec at h
  obtain ⟨c1, r2, rfl, h1⟩ := uncons_some h
  obtain ⟨x3, l4, rfl, h2⟩ := uncons_some h1
  obtain ⟨d5, rfl, h3⟩ := cD_some h2
  obtain ⟨w0, rfl, h4⟩ := dInt_some h3
  obtain ⟨x6, l7, rfl, h5⟩ := uncons_some h4
  obtain ⟨d8, rfl, h6⟩ := cD_some h5
  obtain ⟨w1, rfl, h7⟩ := dStr_some h6
  obtain ⟨x9, l10, rfl, h8⟩ := uncons_some h7
  obtain ⟨w2, rfl, h9⟩ := cOwn_some h8
  obtain ⟨rfl, h10⟩ := atEnd_some h9
  obtain ⟨rfl, h11⟩ := atEnd_some h10
  obtain ⟨rfl, h12⟩ := atEnd_some h11
  simp only [Option.some.injEq, Prod.mk.injEq] at h12
  obtain ⟨rfl, rfl, rfl⟩ := h12
  exact ⟨rfl, rfl⟩
theorem laws_toTerm.ok (k : Nat) : EntryOK Try.prog 140 (laws_toTerm.e k) := by
  refine entry_of mix tyok (fn := Try.f140) (c := codeOf Try.f140) Try.func140 (by kernel_rfl) (h := laws_toTerm.h) (k := k) (E := laws_toTerm.E k) (env_cons (laws_toStringS.ok k) env_nil) (by kernel_rfl) (by kernel_rfl) rfl (enter_of Try.func140 (by kernel_rfl)) ?_
  intro β l K r hr
  simp only [laws_toTerm.e] at hr
  split at hr
  case h_2 => cases hr
  unfold laws_toTerm.f at hr
  split at hr
  case h_2 => cases hr
  rename_i hz
  exact ⟨_, _, hr, _, laws_toTerm.dec, _, (laws_toTerm.f_eq k _ _ _ laws_toTerm.dec).trans (by rw [laws_toTerm.kt_dec]; exact hz), fun rs os h ho => laws_toTerm.inj _ _ _ h ho⟩
/-! ### loop.example/g00119/laws.toTermS: function 80 -/
noncomputable def laws_toTermS.l0 {β : Type} (k : Nat) (v0_0 : List (List D)) (K : (List (List C)) → Option β) (L0 : (Int × (List (List C))) → Option β) (v : Int × (List (List C))) : Option β :=
  match v with
  | (v0_1, v0_2) => bif (decide ((v0_1 : Int) < (v0_0.length : Int))) then (atRow v0_0 v0_1 fun c13 => uncons c13 fun d14 r15 => dInt .i64 d14 fun x16 => uncons r15 fun d17 r18 => dStr d17 fun x19 => uncons r18 fun d20 r21 => dSl d20 fun x22 => atEnd r21 (laws_toTerm.f k x16 x19 x22 (fun y23 y24 y25 => guardP ((0 : Int) ≤ v0_1 ∧ v0_1 < (v0_2.length : Int)) (guardP (Int.toNat v0_1 < v0_2.length) (L0 (IntKind.wrap .i64 (v0_1 + 1), v0_2.modify (Int.toNat v0_1) fun c => splice c 0 [.d (.int .i64 y23), .d (.str y24), .own y25])))))) else (K v0_2)
noncomputable def laws_toTermS.g {β : Type} (k : Nat) (a0 : List (List D)) (K : (List (List C)) → Option β) : Option β :=
  guardP ((0 : Int) ≤ (a0.length : Int) ∧ (a0.length : Int) ≤ (most : Int) ∧ (a0.length : Int) ≤ (a0.length : Int) ∧ (a0.length : Int) ≤ (a0.length : Int)) (iter (laws_toTermS.l0 k a0 K) k (0, List.replicate (Int.toNat (a0.length : Int)) ([.d (.int .i64 0), .d (.str (⟨#[]⟩ : ByteArray)), .own ([] : List (List C))] : List C)))
noncomputable def laws_toTermS.t (k : Nat) (a0 : List (List D)) : Option ((List (List C))) := laws_toTermS.g k a0 (fun z0 => some z0)
noncomputable def laws_toTermS.f {β : Type} (k : Nat) (a0 : List (List D)) (K : (List (List C)) → Option β) : Option β :=
  match laws_toTermS.t k a0 with
  | some z0 => K z0
  | none => none
noncomputable def laws_toTermS.as (a0 : List (List D)) : List A := [.d (.sl a0)]
noncomputable def laws_toTermS.kt {β : Type} (a0 : List (List D)) (K0 : List (List C) → List Out → Option β) : (List (List C)) → Option β := fun z0 => K0 [[.own z0]] []
noncomputable def laws_toTermS.e (k : Nat) : Entry := { modes := [(.imm, 0)], rts := [40], al := false, run := fun {β} l K => match l with | [.d (.sl a0)] => laws_toTermS.f k a0 (laws_toTermS.kt a0 K) | _ => none }
noncomputable def laws_toTermS.E (k : Nat) : Env := fun g => bif g == 140 then some (laws_toTerm.e k) else none
noncomputable def laws_toTermS.h : Hints := ⟨fun n => bif n == 3 then ⟨[(0, .asis), (3, .asis), (4, .asis)], []⟩ else ⟨[], []⟩, fun _ => none, false, []⟩
noncomputable def laws_toTermS.s0 (v0_0 : List (List D)) (v : Int × (List (List C))) : St :=
  match v with
  | (v0_1, v0_2) => ⟨[.d false (.sl v0_0), .any, .any, .row 0, .d true (.int .i64 v0_1), .any, .any, .any, .any, .any, .any, .any, .any, .any, .any, .any, .any, .any, .any, .any, .any, .any, .any], [.row none true 40 v0_2]⟩
noncomputable def laws_toTermS.b0 {β : Type} (k : Nat) : St → (Ex → St → Option β) → Option β := fun s K => den Try.prog (laws_toTermS.E k) laws_toTermS.h.H laws_toTermS.h.J k (codeAt [1, 1, 0, 1, 0, 0] (codeOf Try.f80)) s K
noncomputable def laws_toTermS.c0 {β : Type} (k : Nat) (a0 : List (List D)) (K0 : List (List C) → List Out → Option β) : Ex → St → Option β := contAt Try.prog (laws_toTermS.E k) laws_toTermS.h k [1, 1, 0, 1, 0] (codeOf Try.f80) (finDen Try.prog Try.f80 laws_toTermS.h (laws_toTermS.as a0) K0)
theorem laws_toTermS.l0_eq {β : Type} (k : Nat) (a0 : List (List D)) (K0 : List (List C) → List Out → Option β) (v0_0 : List (List D)) : ∀ (kk : Nat) (v : Int × (List (List C))), loopDen (laws_toTermS.b0 k) (laws_toTermS.h.H 3) kk (laws_toTermS.s0 v0_0 v) (laws_toTermS.c0 k a0 K0) = iter (laws_toTermS.l0 k v0_0 (laws_toTermS.kt a0 K0)) kk v :=
  loop_eq (laws_toTermS.s0 v0_0) _ (fun L0 v => by obtain ⟨v0_1, v0_2⟩ := v; kernel_rfl)
noncomputable def laws_toTermS.m {β : Type} (k : Nat) (a0 : List (List D)) (K0 : List (List C) → List Out → Option β) (F : ((List (List D)) → (Int × (List (List C))) → Option β)) : Option β :=
  guardP ((0 : Int) ≤ (a0.length : Int) ∧ (a0.length : Int) ≤ (most : Int) ∧ (a0.length : Int) ≤ (a0.length : Int) ∧ (a0.length : Int) ≤ (a0.length : Int)) ((F) a0 (0, List.replicate (Int.toNat (a0.length : Int)) ([.d (.int .i64 0), .d (.str (⟨#[]⟩ : ByteArray)), .own ([] : List (List C))] : List C)))
theorem laws_toTermS.f_eq {β : Type} (k : Nat) (a0 : List (List D)) (K0 : List (List C) → List Out → Option β) : funDen Try.prog (laws_toTermS.E k) laws_toTermS.h k Try.f80 (laws_toTermS.as a0) K0 = laws_toTermS.g k a0 (laws_toTermS.kt a0 K0) := Eq.trans (b := (laws_toTermS.m k a0 K0) (fun (v0_0 : List (List D)) (v : Int × (List (List C))) => loopDen (laws_toTermS.b0 k) (laws_toTermS.h.H 3) k (laws_toTermS.s0 v0_0 v) (laws_toTermS.c0 k a0 K0))) (by kernel_rfl) (Eq.trans (congrArg (laws_toTermS.m k a0 K0) (funext fun v0_0 => funext fun v => laws_toTermS.l0_eq k a0 K0 v0_0 k v)) (by kernel_rfl))
noncomputable def laws_toTermS.dec (rs : List (List C)) (os : List Out) : Option ((List (List C))) := uncons rs fun c1 r2 => uncons c1 fun x3 l4 => cOwn x3 fun w0 => atEnd l4 <| atEnd r2 <| atEnd os (some w0)
theorem laws_toTermS.kt_dec (a0 : List (List D)) : laws_toTermS.kt a0 laws_toTermS.dec = (fun z0 => some z0) := by kernel_rfl
theorem laws_toTermS.inj (a0 : List (List D)) {rs : List (List C)} {os : List Out} {z0 : List (List C)} (h : laws_toTermS.dec rs os = some z0) (ho : OutShape (laws_toTermS.as a0) os) : rs = [[.own z0]] ∧ os = [] := by
  unfold laws_toTermS.dec at h
  obtain ⟨c1, r2, rfl, h1⟩ := uncons_some h
  obtain ⟨x3, l4, rfl, h2⟩ := uncons_some h1
  obtain ⟨w0, rfl, h3⟩ := cOwn_some h2
  obtain ⟨rfl, h4⟩ := atEnd_some h3
  obtain ⟨rfl, h5⟩ := atEnd_some h4
  obtain ⟨rfl, h6⟩ := atEnd_some h5
  obtain rfl := Option.some.inj h6
  exact ⟨rfl, rfl⟩
theorem laws_toTermS.ok (k : Nat) : EntryOK Try.prog 80 (laws_toTermS.e k) := by
  refine entry_of mix tyok (fn := Try.f80) (c := codeOf Try.f80) Try.func80 (by kernel_rfl) (h := laws_toTermS.h) (k := k) (E := laws_toTermS.E k) (env_cons (laws_toTerm.ok k) env_nil) (by kernel_rfl) (by kernel_rfl) rfl (enter_of Try.func80 (by kernel_rfl)) ?_
  intro β l K r hr
  simp only [laws_toTermS.e] at hr
  split at hr
  case h_2 => cases hr
  unfold laws_toTermS.f at hr
  split at hr
  case h_2 => cases hr
  rename_i hz
  exact ⟨_, _, hr, _, laws_toTermS.dec, _, (laws_toTermS.f_eq k _ laws_toTermS.dec).trans (by rw [laws_toTermS.kt_dec]; exact hz), fun rs os h ho => laws_toTermS.inj _ h ho⟩
/-! ### loop.example/g00119/laws.toWeigh: function 141 -/
noncomputable def laws_toWeigh.g {β : Type} (k : Nat) (a0_0 : ByteArray) (a0_1 : Int) (K : ByteArray → Int → Option β) : Option β :=
  K a0_0 a0_1
noncomputable def laws_toWeigh.t (k : Nat) (a0_0 : ByteArray) (a0_1 : Int) : Option (ByteArray × Int) := laws_toWeigh.g k a0_0 a0_1 (fun z0 z1 => some (z0, z1))
noncomputable def laws_toWeigh.f {β : Type} (k : Nat) (a0_0 : ByteArray) (a0_1 : Int) (K : ByteArray → Int → Option β) : Option β :=
  match laws_toWeigh.t k a0_0 a0_1 with
  | some (z0, z1) => K z0 z1
  | none => none
noncomputable def laws_toWeigh.as (a0_0 : ByteArray) (a0_1 : Int) : List A := [.agg [.str a0_0, .int .i64 a0_1]]
noncomputable def laws_toWeigh.kt {β : Type} (a0_0 : ByteArray) (a0_1 : Int) (K0 : List (List C) → List Out → Option β) : ByteArray → Int → Option β := fun z0 z1 => K0 [[.d (.str z0), .d (.int .i64 z1)]] []
noncomputable def laws_toWeigh.e (k : Nat) : Entry := { modes := [(.imm, 0)], rts := [125], al := false, run := fun {β} l K => match l with | [.agg [.str a0_0, .int .i64 a0_1]] => laws_toWeigh.f k a0_0 a0_1 (laws_toWeigh.kt a0_0 a0_1 K) | _ => none }
noncomputable def laws_toWeigh.E (k : Nat) : Env := fun g => none
noncomputable def laws_toWeigh.h : Hints := ⟨fun n => ⟨[], []⟩, fun _ => none, false, []⟩
theorem laws_toWeigh.f_eq {β : Type} (k : Nat) (a0_0 : ByteArray) (a0_1 : Int) (K0 : List (List C) → List Out → Option β) : funDen Try.prog (laws_toWeigh.E k) laws_toWeigh.h k Try.f141 (laws_toWeigh.as a0_0 a0_1) K0 = laws_toWeigh.g k a0_0 a0_1 (laws_toWeigh.kt a0_0 a0_1 K0) := by kernel_rfl
noncomputable def laws_toWeigh.dec (rs : List (List C)) (os : List Out) : Option (ByteArray × Int) := uncons rs fun c1 r2 => uncons c1 fun x3 l4 => cD x3 fun d5 => dStr d5 fun w0 => uncons l4 fun x6 l7 => cD x6 fun d8 => dInt .i64 d8 fun w1 => atEnd l7 <| atEnd r2 <| atEnd os (some (w0, w1))
theorem laws_toWeigh.kt_dec (a0_0 : ByteArray) (a0_1 : Int) : laws_toWeigh.kt a0_0 a0_1 laws_toWeigh.dec = (fun z0 z1 => some (z0, z1)) := by kernel_rfl
theorem laws_toWeigh.inj (a0_0 : ByteArray) (a0_1 : Int) {rs : List (List C)} {os : List Out} {z0 : ByteArray} {z1 : Int} (h : laws_toWeigh.dec rs os = some (z0, z1)) (ho : OutShape (laws_toWeigh.as a0_0 a0_1) os) : rs = [[.d (.str z0), .d (.int .i64 z1)]] ∧ os = [] := by
  unfold laws_toWeigh.dec at h
  obtain ⟨c1, r2, rfl, h1⟩ := uncons_some h
  obtain ⟨x3, l4, rfl, h2⟩ := uncons_some h1
  obtain ⟨d5, rfl, h3⟩ := cD_some h2
  obtain ⟨w0, rfl, h4⟩ := dStr_some h3
  obtain ⟨x6, l7, rfl, h5⟩ := uncons_some h4
  obtain ⟨d8, rfl, h6⟩ := cD_some h5
  obtain ⟨w1, rfl, h7⟩ := dInt_some h6
  obtain ⟨rfl, h8⟩ := atEnd_some h7
  obtain ⟨rfl, h9⟩ := atEnd_some h8
  obtain ⟨rfl, h10⟩ := atEnd_some h9
  simp only [Option.some.injEq, Prod.mk.injEq] at h10
  obtain ⟨rfl, rfl⟩ := h10
  exact ⟨rfl, rfl⟩
theorem laws_toWeigh.ok (k : Nat) : EntryOK Try.prog 141 (laws_toWeigh.e k) := by
  refine entry_of mix tyok (fn := Try.f141) (c := codeOf Try.f141) Try.func141 (by kernel_rfl) (h := laws_toWeigh.h) (k := k) (E := laws_toWeigh.E k) env_nil (by kernel_rfl) (by kernel_rfl) rfl (enter_of Try.func141 (by kernel_rfl)) ?_
  intro β l K r hr
  simp only [laws_toWeigh.e] at hr
  split at hr
  case h_2 => cases hr
  unfold laws_toWeigh.f at hr
  split at hr
  case h_2 => cases hr
  rename_i hz
  exact ⟨_, _, hr, _, laws_toWeigh.dec, _, (laws_toWeigh.f_eq k _ _ laws_toWeigh.dec).trans (by rw [laws_toWeigh.kt_dec]; exact hz), fun rs os h ho => laws_toWeigh.inj _ _ h ho⟩
/-! ### loop.example/g00119/laws.toWeighS: function 81 -/
noncomputable def laws_toWeighS.l0 {β : Type} (k : Nat) (v0_0 : List (List D)) (K : (List (List C)) → Option β) (L0 : (Int × (List (List C))) → Option β) (v : Int × (List (List C))) : Option β :=
  match v with
  | (v0_1, v0_2) => bif (decide ((v0_1 : Int) < (v0_0.length : Int))) then (atRow v0_0 v0_1 fun c3 => uncons c3 fun d4 r5 => dStr d4 fun x6 => uncons r5 fun d7 r8 => dInt .i64 d7 fun x9 => atEnd r8 (laws_toWeigh.f k x6 x9 (fun y10 y11 => guardP ((0 : Int) ≤ v0_1 ∧ v0_1 < (v0_2.length : Int)) (guardP (Int.toNat v0_1 < v0_2.length) (L0 (IntKind.wrap .i64 (v0_1 + 1), v0_2.modify (Int.toNat v0_1) fun c => splice c 0 [.d (.str y10), .d (.int .i64 y11)])))))) else (K v0_2)
noncomputable def laws_toWeighS.g {β : Type} (k : Nat) (a0 : List (List D)) (K : (List (List C)) → Option β) : Option β :=
  guardP ((0 : Int) ≤ (a0.length : Int) ∧ (a0.length : Int) ≤ (most : Int) ∧ (a0.length : Int) ≤ (a0.length : Int) ∧ (a0.length : Int) ≤ (a0.length : Int)) (iter (laws_toWeighS.l0 k a0 K) k (0, List.replicate (Int.toNat (a0.length : Int)) ([.d (.str (⟨#[]⟩ : ByteArray)), .d (.int .i64 0)] : List C)))
noncomputable def laws_toWeighS.t (k : Nat) (a0 : List (List D)) : Option ((List (List C))) := laws_toWeighS.g k a0 (fun z0 => some z0)
noncomputable def laws_toWeighS.f {β : Type} (k : Nat) (a0 : List (List D)) (K : (List (List C)) → Option β) : Option β :=
  match laws_toWeighS.t k a0 with
  | some z0 => K z0
  | none => none
noncomputable def laws_toWeighS.as (a0 : List (List D)) : List A := [.d (.sl a0)]
noncomputable def laws_toWeighS.kt {β : Type} (a0 : List (List D)) (K0 : List (List C) → List Out → Option β) : (List (List C)) → Option β := fun z0 => K0 [[.own z0]] []
noncomputable def laws_toWeighS.e (k : Nat) : Entry := { modes := [(.imm, 0)], rts := [41], al := false, run := fun {β} l K => match l with | [.d (.sl a0)] => laws_toWeighS.f k a0 (laws_toWeighS.kt a0 K) | _ => none }
noncomputable def laws_toWeighS.E (k : Nat) : Env := fun g => bif g == 141 then some (laws_toWeigh.e k) else none
noncomputable def laws_toWeighS.h : Hints := ⟨fun n => bif n == 3 then ⟨[(0, .asis), (3, .asis), (4, .asis)], []⟩ else ⟨[], []⟩, fun _ => none, false, []⟩
noncomputable def laws_toWeighS.s0 (v0_0 : List (List D)) (v : Int × (List (List C))) : St :=
  match v with
  | (v0_1, v0_2) => ⟨[.d false (.sl v0_0), .any, .any, .row 0, .d true (.int .i64 v0_1), .any, .any, .any, .any, .any, .any, .any, .any, .any, .any, .any, .any, .any, .any, .any, .any, .any, .any], [.row none true 41 v0_2]⟩
noncomputable def laws_toWeighS.b0 {β : Type} (k : Nat) : St → (Ex → St → Option β) → Option β := fun s K => den Try.prog (laws_toWeighS.E k) laws_toWeighS.h.H laws_toWeighS.h.J k (codeAt [1, 1, 0, 1, 0, 0] (codeOf Try.f81)) s K
noncomputable def laws_toWeighS.c0 {β : Type} (k : Nat) (a0 : List (List D)) (K0 : List (List C) → List Out → Option β) : Ex → St → Option β := contAt Try.prog (laws_toWeighS.E k) laws_toWeighS.h k [1, 1, 0, 1, 0] (codeOf Try.f81) (finDen Try.prog Try.f81 laws_toWeighS.h (laws_toWeighS.as a0) K0)
theorem laws_toWeighS.l0_eq {β : Type} (k : Nat) (a0 : List (List D)) (K0 : List (List C) → List Out → Option β) (v0_0 : List (List D)) : ∀ (kk : Nat) (v : Int × (List (List C))), loopDen (laws_toWeighS.b0 k) (laws_toWeighS.h.H 3) kk (laws_toWeighS.s0 v0_0 v) (laws_toWeighS.c0 k a0 K0) = iter (laws_toWeighS.l0 k v0_0 (laws_toWeighS.kt a0 K0)) kk v :=
  loop_eq (laws_toWeighS.s0 v0_0) _ (fun L0 v => by obtain ⟨v0_1, v0_2⟩ := v; kernel_rfl)
noncomputable def laws_toWeighS.m {β : Type} (k : Nat) (a0 : List (List D)) (K0 : List (List C) → List Out → Option β) (F : ((List (List D)) → (Int × (List (List C))) → Option β)) : Option β :=
  guardP ((0 : Int) ≤ (a0.length : Int) ∧ (a0.length : Int) ≤ (most : Int) ∧ (a0.length : Int) ≤ (a0.length : Int) ∧ (a0.length : Int) ≤ (a0.length : Int)) ((F) a0 (0, List.replicate (Int.toNat (a0.length : Int)) ([.d (.str (⟨#[]⟩ : ByteArray)), .d (.int .i64 0)] : List C)))
theorem laws_toWeighS.f_eq {β : Type} (k : Nat) (a0 : List (List D)) (K0 : List (List C) → List Out → Option β) : funDen Try.prog (laws_toWeighS.E k) laws_toWeighS.h k Try.f81 (laws_toWeighS.as a0) K0 = laws_toWeighS.g k a0 (laws_toWeighS.kt a0 K0) := Eq.trans (b := (laws_toWeighS.m k a0 K0) (fun (v0_0 : List (List D)) (v : Int × (List (List C))) => loopDen (laws_toWeighS.b0 k) (laws_toWeighS.h.H 3) k (laws_toWeighS.s0 v0_0 v) (laws_toWeighS.c0 k a0 K0))) (by kernel_rfl) (Eq.trans (congrArg (laws_toWeighS.m k a0 K0) (funext fun v0_0 => funext fun v => laws_toWeighS.l0_eq k a0 K0 v0_0 k v)) (by kernel_rfl))
noncomputable def laws_toWeighS.dec (rs : List (List C)) (os : List Out) : Option ((List (List C))) := uncons rs fun c1 r2 => uncons c1 fun x3 l4 => cOwn x3 fun w0 => atEnd l4 <| atEnd r2 <| atEnd os (some w0)
theorem laws_toWeighS.kt_dec (a0 : List (List D)) : laws_toWeighS.kt a0 laws_toWeighS.dec = (fun z0 => some z0) := by kernel_rfl
theorem laws_toWeighS.inj (a0 : List (List D)) {rs : List (List C)} {os : List Out} {z0 : List (List C)} (h : laws_toWeighS.dec rs os = some z0) (ho : OutShape (laws_toWeighS.as a0) os) : rs = [[.own z0]] ∧ os = [] := by
  unfold laws_toWeighS.dec at h
  obtain ⟨c1, r2, rfl, h1⟩ := uncons_some h
  obtain ⟨x3, l4, rfl, h2⟩ := uncons_some h1
  obtain ⟨w0, rfl, h3⟩ := cOwn_some h2
  obtain ⟨rfl, h4⟩ := atEnd_some h3
  obtain ⟨rfl, h5⟩ := atEnd_some h4
  obtain ⟨rfl, h6⟩ := atEnd_some h5
  obtain rfl := Option.some.inj h6
  exact ⟨rfl, rfl⟩
theorem laws_toWeighS.ok (k : Nat) : EntryOK Try.prog 81 (laws_toWeighS.e k) := by
  refine entry_of mix tyok (fn := Try.f81) (c := codeOf Try.f81) Try.func81 (by kernel_rfl) (h := laws_toWeighS.h) (k := k) (E := laws_toWeighS.E k) (env_cons (laws_toWeigh.ok k) env_nil) (by kernel_rfl) (by kernel_rfl) rfl (enter_of Try.func81 (by kernel_rfl)) ?_
  intro β l K r hr
  simp only [laws_toWeighS.e] at hr
  split at hr
  case h_2 => cases hr
  unfold laws_toWeighS.f at hr
  split at hr
  case h_2 => cases hr
  rename_i hz
  exact ⟨_, _, hr, _, laws_toWeighS.dec, _, (laws_toWeighS.f_eq k _ laws_toWeighS.dec).trans (by rw [laws_toWeighS.kt_dec]; exact hz), fun rs os h ho => laws_toWeighS.inj _ h ho⟩
/-! ### loop.example/g00119/laws.toWant: function 22 -/
noncomputable def laws_toWant.g {β : Type} (k : Nat) (a0_0 : Int) (a0_1 : List (List D)) (a0_2 : List (List D)) (a0_3 : List (List D)) (K : Int → (List (List C)) → (List (List C)) → (List (List C)) → Option β) : Option β :=
  laws_toTermS.f k a0_1 (fun y26 => laws_toStringS.f k a0_2 (fun y27 => laws_toWeighS.f k a0_3 (fun y12 => K a0_0 y26 y27 y12)))
noncomputable def laws_toWant.t (k : Nat) (a0_0 : Int) (a0_1 : List (List D)) (a0_2 : List (List D)) (a0_3 : List (List D)) : Option (Int × (List (List C)) × (List (List C)) × (List (List C))) := laws_toWant.g k a0_0 a0_1 a0_2 a0_3 (fun z0 z1 z2 z3 => some (z0, z1, z2, z3))
noncomputable def laws_toWant.f {β : Type} (k : Nat) (a0_0 : Int) (a0_1 : List (List D)) (a0_2 : List (List D)) (a0_3 : List (List D)) (K : Int → (List (List C)) → (List (List C)) → (List (List C)) → Option β) : Option β :=
  match laws_toWant.t k a0_0 a0_1 a0_2 a0_3 with
  | some (z0, z1, z2, z3) => K z0 z1 z2 z3
  | none => none
noncomputable def laws_toWant.as (a0_0 : Int) (a0_1 : List (List D)) (a0_2 : List (List D)) (a0_3 : List (List D)) : List A := [.agg [.int .i64 a0_0, .sl a0_1, .sl a0_2, .sl a0_3]]
noncomputable def laws_toWant.kt {β : Type} (a0_0 : Int) (a0_1 : List (List D)) (a0_2 : List (List D)) (a0_3 : List (List D)) (K0 : List (List C) → List Out → Option β) : Int → (List (List C)) → (List (List C)) → (List (List C)) → Option β := fun z0 z1 z2 z3 => K0 [[.d (.int .i64 z0), .own z1, .own z2, .own z3]] []
noncomputable def laws_toWant.e (k : Nat) : Entry := { modes := [(.imm, 0)], rts := [43], al := false, run := fun {β} l K => match l with | [.agg [.int .i64 a0_0, .sl a0_1, .sl a0_2, .sl a0_3]] => laws_toWant.f k a0_0 a0_1 a0_2 a0_3 (laws_toWant.kt a0_0 a0_1 a0_2 a0_3 K) | _ => none }
noncomputable def laws_toWant.E (k : Nat) : Env := fun g => bif g == 80 then some (laws_toTermS.e k) else bif g == 71 then some (laws_toStringS.e k) else bif g == 81 then some (laws_toWeighS.e k) else none
noncomputable def laws_toWant.h : Hints := ⟨fun n => ⟨[], []⟩, fun _ => none, false, []⟩
theorem laws_toWant.f_eq {β : Type} (k : Nat) (a0_0 : Int) (a0_1 : List (List D)) (a0_2 : List (List D)) (a0_3 : List (List D)) (K0 : List (List C) → List Out → Option β) : funDen Try.prog (laws_toWant.E k) laws_toWant.h k Try.f22 (laws_toWant.as a0_0 a0_1 a0_2 a0_3) K0 = laws_toWant.g k a0_0 a0_1 a0_2 a0_3 (laws_toWant.kt a0_0 a0_1 a0_2 a0_3 K0) := by kernel_rfl
noncomputable def laws_toWant.dec (rs : List (List C)) (os : List Out) : Option (Int × (List (List C)) × (List (List C)) × (List (List C))) := uncons rs fun c1 r2 => uncons c1 fun x3 l4 => cD x3 fun d5 => dInt .i64 d5 fun w0 => uncons l4 fun x6 l7 => cOwn x6 fun w1 => uncons l7 fun x8 l9 => cOwn x8 fun w2 => uncons l9 fun x10 l11 => cOwn x10 fun w3 => atEnd l11 <| atEnd r2 <| atEnd os (some (w0, w1, w2, w3))
theorem laws_toWant.kt_dec (a0_0 : Int) (a0_1 : List (List D)) (a0_2 : List (List D)) (a0_3 : List (List D)) : laws_toWant.kt a0_0 a0_1 a0_2 a0_3 laws_toWant.dec = (fun z0 z1 z2 z3 => some (z0, z1, z2, z3)) := by kernel_rfl
theorem laws_toWant.inj (a0_0 : Int) (a0_1 : List (List D)) (a0_2 : List (List D)) (a0_3 : List (List D)) {rs : List (List C)} {os : List Out} {z0 : Int} {z1 : List (List C)} {z2 : List (List C)} {z3 : List (List C)} (h : laws_toWant.dec rs os = some (z0, z1, z2, z3)) (ho : OutShape (laws_toWant.as a0_0 a0_1 a0_2 a0_3) os) : rs = [[.d (.int .i64 z0), .own z1, .own z2, .own z3]] ∧ os = [] := by
  unfold laws_toWant.dec at h
  obtain ⟨c1, r2, rfl, h1⟩ := uncons_some h
  obtain ⟨x3, l4, rfl, h2⟩ := uncons_some h1
  obtain ⟨d5, rfl, h3⟩ := cD_some h2
  obtain ⟨w0, rfl, h4⟩ := dInt_some h3
  obtain ⟨x6, l7, rfl, h5⟩ := uncons_some h4
  obtain ⟨w1, rfl, h6⟩ := cOwn_some h5
  obtain ⟨x8, l9, rfl, h7⟩ := uncons_some h6
  obtain ⟨w2, rfl, h8⟩ := cOwn_some h7
  obtain ⟨x10, l11, rfl, h9⟩ := uncons_some h8
  obtain ⟨w3, rfl, h10⟩ := cOwn_some h9
  obtain ⟨rfl, h11⟩ := atEnd_some h10
  obtain ⟨rfl, h12⟩ := atEnd_some h11
  obtain ⟨rfl, h13⟩ := atEnd_some h12
  simp only [Option.some.injEq, Prod.mk.injEq] at h13
  obtain ⟨rfl, rfl, rfl, rfl⟩ := h13
  exact ⟨rfl, rfl⟩
theorem laws_toWant.ok (k : Nat) : EntryOK Try.prog 22 (laws_toWant.e k) := by
  refine entry_of mix tyok (fn := Try.f22) (c := codeOf Try.f22) Try.func22 (by kernel_rfl) (h := laws_toWant.h) (k := k) (E := laws_toWant.E k) (env_cons (laws_toTermS.ok k) (env_cons (laws_toStringS.ok k) (env_cons (laws_toWeighS.ok k) env_nil))) (by kernel_rfl) (by kernel_rfl) rfl (enter_of Try.func22 (by kernel_rfl)) ?_
  intro β l K r hr
  simp only [laws_toWant.e] at hr
  split at hr
  case h_2 => cases hr
  unfold laws_toWant.f at hr
  split at hr
  case h_2 => cases hr
  rename_i hz
  exact ⟨_, _, hr, _, laws_toWant.dec, _, (laws_toWant.f_eq k _ _ _ _ laws_toWant.dec).trans (by rw [laws_toWant.kt_dec]; exact hz), fun rs os h ho => laws_toWant.inj _ _ _ _ h ho⟩
/-! ### loop.example/g00119/spec.WeightOf: function 21 -/
noncomputable def spec_WeightOf.l0 {β : Type} (k : Nat) (v0_0 : ByteArray) (v0_2 : Int) (v0_3 : List (List D)) (v0_4 : List (List D)) (v0_5 : List (List D)) (K : Int → Option β) (L0 : Int → Option β) (v : Int) : Option β :=
  match v with
  | v0_1 => bif (decide ((v0_1 : Int) < (v0_5.length : Int))) then (atRow v0_5 v0_1 fun c15 => uncons c15 fun d16 r17 => dStr d16 fun x18 => uncons r17 fun d19 r20 => dInt .i64 d19 fun x21 => atEnd r20 (bif (strEq x18 v0_0) then (atRow v0_5 v0_1 fun c22 => uncons c22 fun d23 r24 => dStr d23 fun x25 => uncons r24 fun d26 r27 => dInt .i64 d26 fun x28 => atEnd r27 (K x28)) else (L0 (IntKind.wrap .i64 (v0_1 + 1))))) else (K 1)
noncomputable def spec_WeightOf.g {β : Type} (k : Nat) (a0_0 : Int) (a0_1 : List (List D)) (a0_2 : List (List D)) (a0_3 : List (List D)) (a1 : ByteArray) (K : Int → Option β) : Option β :=
  iter (spec_WeightOf.l0 k a1 a0_0 a0_1 a0_2 a0_3 K) k (0)
noncomputable def spec_WeightOf.t (k : Nat) (a0_0 : Int) (a0_1 : List (List D)) (a0_2 : List (List D)) (a0_3 : List (List D)) (a1 : ByteArray) : Option (Int) := spec_WeightOf.g k a0_0 a0_1 a0_2 a0_3 a1 (fun z0 => some z0)
noncomputable def spec_WeightOf.f {β : Type} (k : Nat) (a0_0 : Int) (a0_1 : List (List D)) (a0_2 : List (List D)) (a0_3 : List (List D)) (a1 : ByteArray) (K : Int → Option β) : Option β :=
  match spec_WeightOf.t k a0_0 a0_1 a0_2 a0_3 a1 with
  | some z0 => K z0
  | none => none
noncomputable def spec_WeightOf.as (a0_0 : Int) (a0_1 : List (List D)) (a0_2 : List (List D)) (a0_3 : List (List D)) (a1 : ByteArray) : List A := [.agg [.int .i64 a0_0, .sl a0_1, .sl a0_2, .sl a0_3], .d (.str a1)]
noncomputable def spec_WeightOf.kt {β : Type} (a0_0 : Int) (a0_1 : List (List D)) (a0_2 : List (List D)) (a0_3 : List (List D)) (a1 : ByteArray) (K0 : List (List C) → List Out → Option β) : Int → Option β := fun z0 => K0 [[.d (.int .i64 z0)]] []
noncomputable def spec_WeightOf.e (k : Nat) : Entry := { modes := [(.imm, 0), (.imm, 0)], rts := [3], al := false, run := fun {β} l K => match l with | [.agg [.int .i64 a0_0, .sl a0_1, .sl a0_2, .sl a0_3], .d (.str a1)] => spec_WeightOf.f k a0_0 a0_1 a0_2 a0_3 a1 (spec_WeightOf.kt a0_0 a0_1 a0_2 a0_3 a1 K) | _ => none }
noncomputable def spec_WeightOf.E (k : Nat) : Env := fun g => none
noncomputable def spec_WeightOf.h : Hints := ⟨fun n => bif n == 2 then ⟨[(1, .asis), (2, .asis), (5, .asis)], []⟩ else ⟨[], []⟩, fun _ => none, false, []⟩
noncomputable def spec_WeightOf.s0 (v0_0 : ByteArray) (v0_2 : Int) (v0_3 : List (List D)) (v0_4 : List (List D)) (v0_5 : List (List D)) (v : Int) : St :=
  match v with
  | v0_1 => ⟨[.any, .d false (.str v0_0), .bp 0 0, .any, .any, .d true (.int .i64 v0_1), .any, .any, .any, .any, .any, .any, .any, .any, .any, .any, .any, .any, .any, .any, .any, .any, .any, .any, .any, .any, .any], [.box none 43 [.d false (.int .i64 v0_2), .d false (.sl v0_3), .d false (.sl v0_4), .d false (.sl v0_5)]]⟩
noncomputable def spec_WeightOf.b0 {β : Type} (k : Nat) : St → (Ex → St → Option β) → Option β := fun s K => den Try.prog (spec_WeightOf.E k) spec_WeightOf.h.H spec_WeightOf.h.J k (codeAt [1, 0, 1, 0, 0] (codeOf Try.f21)) s K
noncomputable def spec_WeightOf.c0 {β : Type} (k : Nat) (a0_0 : Int) (a0_1 : List (List D)) (a0_2 : List (List D)) (a0_3 : List (List D)) (a1 : ByteArray) (K0 : List (List C) → List Out → Option β) : Ex → St → Option β := contAt Try.prog (spec_WeightOf.E k) spec_WeightOf.h k [1, 0, 1, 0] (codeOf Try.f21) (finDen Try.prog Try.f21 spec_WeightOf.h (spec_WeightOf.as a0_0 a0_1 a0_2 a0_3 a1) K0)
theorem spec_WeightOf.l0_eq {β : Type} (k : Nat) (a0_0 : Int) (a0_1 : List (List D)) (a0_2 : List (List D)) (a0_3 : List (List D)) (a1 : ByteArray) (K0 : List (List C) → List Out → Option β) (v0_0 : ByteArray) (v0_2 : Int) (v0_3 : List (List D)) (v0_4 : List (List D)) (v0_5 : List (List D)) : ∀ (kk : Nat) (v : Int), loopDen (spec_WeightOf.b0 k) (spec_WeightOf.h.H 2) kk (spec_WeightOf.s0 v0_0 v0_2 v0_3 v0_4 v0_5 v) (spec_WeightOf.c0 k a0_0 a0_1 a0_2 a0_3 a1 K0) = iter (spec_WeightOf.l0 k v0_0 v0_2 v0_3 v0_4 v0_5 (spec_WeightOf.kt a0_0 a0_1 a0_2 a0_3 a1 K0)) kk v :=
  loop_eq (spec_WeightOf.s0 v0_0 v0_2 v0_3 v0_4 v0_5) _ (fun L0 v => by kernel_rfl)
noncomputable def spec_WeightOf.m {β : Type} (k : Nat) (a0_0 : Int) (a0_1 : List (List D)) (a0_2 : List (List D)) (a0_3 : List (List D)) (a1 : ByteArray) (K0 : List (List C) → List Out → Option β) (F : (ByteArray → Int → (List (List D)) → (List (List D)) → (List (List D)) → Int → Option β)) : Option β :=
  (F) a1 a0_0 a0_1 a0_2 a0_3 (0)
theorem spec_WeightOf.f_eq {β : Type} (k : Nat) (a0_0 : Int) (a0_1 : List (List D)) (a0_2 : List (List D)) (a0_3 : List (List D)) (a1 : ByteArray) (K0 : List (List C) → List Out → Option β) : funDen Try.prog (spec_WeightOf.E k) spec_WeightOf.h k Try.f21 (spec_WeightOf.as a0_0 a0_1 a0_2 a0_3 a1) K0 = spec_WeightOf.g k a0_0 a0_1 a0_2 a0_3 a1 (spec_WeightOf.kt a0_0 a0_1 a0_2 a0_3 a1 K0) := Eq.trans (b := (spec_WeightOf.m k a0_0 a0_1 a0_2 a0_3 a1 K0) (fun (v0_0 : ByteArray) (v0_2 : Int) (v0_3 : List (List D)) (v0_4 : List (List D)) (v0_5 : List (List D)) (v : Int) => loopDen (spec_WeightOf.b0 k) (spec_WeightOf.h.H 2) k (spec_WeightOf.s0 v0_0 v0_2 v0_3 v0_4 v0_5 v) (spec_WeightOf.c0 k a0_0 a0_1 a0_2 a0_3 a1 K0))) (by kernel_rfl) (Eq.trans (congrArg (spec_WeightOf.m k a0_0 a0_1 a0_2 a0_3 a1 K0) (funext fun v0_0 => funext fun v0_2 => funext fun v0_3 => funext fun v0_4 => funext fun v0_5 => funext fun v => spec_WeightOf.l0_eq k a0_0 a0_1 a0_2 a0_3 a1 K0 v0_0 v0_2 v0_3 v0_4 v0_5 k v)) (by kernel_rfl))
noncomputable def spec_WeightOf.dec (rs : List (List C)) (os : List Out) : Option (Int) := uncons rs fun c1 r2 => uncons c1 fun x3 l4 => cD x3 fun d5 => dInt .i64 d5 fun w0 => atEnd l4 <| atEnd r2 <| atEnd os (some w0)
theorem spec_WeightOf.kt_dec (a0_0 : Int) (a0_1 : List (List D)) (a0_2 : List (List D)) (a0_3 : List (List D)) (a1 : ByteArray) : spec_WeightOf.kt a0_0 a0_1 a0_2 a0_3 a1 spec_WeightOf.dec = (fun z0 => some z0) := by kernel_rfl
theorem spec_WeightOf.inj (a0_0 : Int) (a0_1 : List (List D)) (a0_2 : List (List D)) (a0_3 : List (List D)) (a1 : ByteArray) {rs : List (List C)} {os : List Out} {z0 : Int} (h : spec_WeightOf.dec rs os = some z0) (ho : OutShape (spec_WeightOf.as a0_0 a0_1 a0_2 a0_3 a1) os) : rs = [[.d (.int .i64 z0)]] ∧ os = [] := by
  unfold spec_WeightOf.dec at h
  obtain ⟨c1, r2, rfl, h1⟩ := uncons_some h
  obtain ⟨x3, l4, rfl, h2⟩ := uncons_some h1
  obtain ⟨d5, rfl, h3⟩ := cD_some h2
  obtain ⟨w0, rfl, h4⟩ := dInt_some h3
  obtain ⟨rfl, h5⟩ := atEnd_some h4
  obtain ⟨rfl, h6⟩ := atEnd_some h5
  obtain ⟨rfl, h7⟩ := atEnd_some h6
  obtain rfl := Option.some.inj h7
  exact ⟨rfl, rfl⟩
theorem spec_WeightOf.ok (k : Nat) : EntryOK Try.prog 21 (spec_WeightOf.e k) := by
  refine entry_of mix tyok (fn := Try.f21) (c := codeOf Try.f21) Try.func21 (by kernel_rfl) (h := spec_WeightOf.h) (k := k) (E := spec_WeightOf.E k) env_nil (by kernel_rfl) (by kernel_rfl) rfl (enter_of Try.func21 (by kernel_rfl)) ?_
  intro β l K r hr
  simp only [spec_WeightOf.e] at hr
  split at hr
  case h_2 => cases hr
  unfold spec_WeightOf.f at hr
  split at hr
  case h_2 => cases hr
  rename_i hz
  exact ⟨_, _, hr, _, spec_WeightOf.dec, _, (spec_WeightOf.f_eq k _ _ _ _ _ spec_WeightOf.dec).trans (by rw [spec_WeightOf.kt_dec]; exact hz), fun rs os h ho => spec_WeightOf.inj _ _ _ _ _ h ho⟩
/-! ### loop.example/g00119/impl.WeightOf: function 23 -/
noncomputable def impl_WeightOf.l0 {β : Type} (k : Nat) (v0_0 : ByteArray) (v0_1 : List (List D)) (v0_2 : Int) (K : Int → Option β) (L0 : Int → Option β) (v : Int) : Option β :=
  match v with
  | v0_3 => bif (decide ((v0_3 : Int) < v0_2)) then (atRow v0_1 v0_3 fun c8 => uncons c8 fun d9 r10 => dStr d9 fun x11 => uncons r10 fun d12 r13 => dInt .i64 d12 fun x14 => atEnd r13 (bif (strEq x11 v0_0) then (K x14) else (L0 (IntKind.wrap .i64 (v0_3 + 1))))) else (K 1)
noncomputable def impl_WeightOf.g {β : Type} (k : Nat) (a0_0 : Int) (a0_1 : List (List D)) (a0_2 : List (List D)) (a0_3 : List (List D)) (a1 : ByteArray) (K : Int → Option β) : Option β :=
  iter (impl_WeightOf.l0 k a1 a0_3 (a0_3.length : Int) K) k (0)
noncomputable def impl_WeightOf.t (k : Nat) (a0_0 : Int) (a0_1 : List (List D)) (a0_2 : List (List D)) (a0_3 : List (List D)) (a1 : ByteArray) : Option (Int) := impl_WeightOf.g k a0_0 a0_1 a0_2 a0_3 a1 (fun z0 => some z0)
noncomputable def impl_WeightOf.f {β : Type} (k : Nat) (a0_0 : Int) (a0_1 : List (List D)) (a0_2 : List (List D)) (a0_3 : List (List D)) (a1 : ByteArray) (K : Int → Option β) : Option β :=
  match impl_WeightOf.t k a0_0 a0_1 a0_2 a0_3 a1 with
  | some z0 => K z0
  | none => none
noncomputable def impl_WeightOf.as (a0_0 : Int) (a0_1 : List (List D)) (a0_2 : List (List D)) (a0_3 : List (List D)) (a1 : ByteArray) : List A := [.agg [.int .i64 a0_0, .sl a0_1, .sl a0_2, .sl a0_3], .d (.str a1)]
noncomputable def impl_WeightOf.kt {β : Type} (a0_0 : Int) (a0_1 : List (List D)) (a0_2 : List (List D)) (a0_3 : List (List D)) (a1 : ByteArray) (K0 : List (List C) → List Out → Option β) : Int → Option β := fun z0 => K0 [[.d (.int .i64 z0)]] []
noncomputable def impl_WeightOf.e (k : Nat) : Entry := { modes := [(.imm, 0), (.imm, 0)], rts := [3], al := false, run := fun {β} l K => match l with | [.agg [.int .i64 a0_0, .sl a0_1, .sl a0_2, .sl a0_3], .d (.str a1)] => impl_WeightOf.f k a0_0 a0_1 a0_2 a0_3 a1 (impl_WeightOf.kt a0_0 a0_1 a0_2 a0_3 a1 K) | _ => none }
noncomputable def impl_WeightOf.E (k : Nat) : Env := fun g => none
noncomputable def impl_WeightOf.h : Hints := ⟨fun n => bif n == 2 then ⟨[(1, .asis), (8, .asis), (9, .asis), (10, .asis)], []⟩ else ⟨[], []⟩, fun _ => none, false, []⟩
noncomputable def impl_WeightOf.s0 (v0_0 : ByteArray) (v0_1 : List (List D)) (v0_2 : Int) (v : Int) : St :=
  match v with
  | v0_3 => ⟨[.any, .d false (.str v0_0), .any, .any, .any, .any, .any, .any, .d false (.sl v0_1), .d true (.int .i64 v0_2), .d true (.int .i64 v0_3), .any, .any, .any, .any, .any, .any, .any, .any, .any, .any], []⟩
noncomputable def impl_WeightOf.b0 {β : Type} (k : Nat) : St → (Ex → St → Option β) → Option β := fun s K => den Try.prog (impl_WeightOf.E k) impl_WeightOf.h.H impl_WeightOf.h.J k (codeAt [1, 0, 1, 0, 0] (codeOf Try.f23)) s K
noncomputable def impl_WeightOf.c0 {β : Type} (k : Nat) (a0_0 : Int) (a0_1 : List (List D)) (a0_2 : List (List D)) (a0_3 : List (List D)) (a1 : ByteArray) (K0 : List (List C) → List Out → Option β) : Ex → St → Option β := contAt Try.prog (impl_WeightOf.E k) impl_WeightOf.h k [1, 0, 1, 0] (codeOf Try.f23) (finDen Try.prog Try.f23 impl_WeightOf.h (impl_WeightOf.as a0_0 a0_1 a0_2 a0_3 a1) K0)
theorem impl_WeightOf.l0_eq {β : Type} (k : Nat) (a0_0 : Int) (a0_1 : List (List D)) (a0_2 : List (List D)) (a0_3 : List (List D)) (a1 : ByteArray) (K0 : List (List C) → List Out → Option β) (v0_0 : ByteArray) (v0_1 : List (List D)) (v0_2 : Int) : ∀ (kk : Nat) (v : Int), loopDen (impl_WeightOf.b0 k) (impl_WeightOf.h.H 2) kk (impl_WeightOf.s0 v0_0 v0_1 v0_2 v) (impl_WeightOf.c0 k a0_0 a0_1 a0_2 a0_3 a1 K0) = iter (impl_WeightOf.l0 k v0_0 v0_1 v0_2 (impl_WeightOf.kt a0_0 a0_1 a0_2 a0_3 a1 K0)) kk v :=
  loop_eq (impl_WeightOf.s0 v0_0 v0_1 v0_2) _ (fun L0 v => by kernel_rfl)
noncomputable def impl_WeightOf.m {β : Type} (k : Nat) (a0_0 : Int) (a0_1 : List (List D)) (a0_2 : List (List D)) (a0_3 : List (List D)) (a1 : ByteArray) (K0 : List (List C) → List Out → Option β) (F : (ByteArray → (List (List D)) → Int → Int → Option β)) : Option β :=
  (F) a1 a0_3 (a0_3.length : Int) (0)
theorem impl_WeightOf.f_eq {β : Type} (k : Nat) (a0_0 : Int) (a0_1 : List (List D)) (a0_2 : List (List D)) (a0_3 : List (List D)) (a1 : ByteArray) (K0 : List (List C) → List Out → Option β) : funDen Try.prog (impl_WeightOf.E k) impl_WeightOf.h k Try.f23 (impl_WeightOf.as a0_0 a0_1 a0_2 a0_3 a1) K0 = impl_WeightOf.g k a0_0 a0_1 a0_2 a0_3 a1 (impl_WeightOf.kt a0_0 a0_1 a0_2 a0_3 a1 K0) := Eq.trans (b := (impl_WeightOf.m k a0_0 a0_1 a0_2 a0_3 a1 K0) (fun (v0_0 : ByteArray) (v0_1 : List (List D)) (v0_2 : Int) (v : Int) => loopDen (impl_WeightOf.b0 k) (impl_WeightOf.h.H 2) k (impl_WeightOf.s0 v0_0 v0_1 v0_2 v) (impl_WeightOf.c0 k a0_0 a0_1 a0_2 a0_3 a1 K0))) (by kernel_rfl) (Eq.trans (congrArg (impl_WeightOf.m k a0_0 a0_1 a0_2 a0_3 a1 K0) (funext fun v0_0 => funext fun v0_1 => funext fun v0_2 => funext fun v => impl_WeightOf.l0_eq k a0_0 a0_1 a0_2 a0_3 a1 K0 v0_0 v0_1 v0_2 k v)) (by kernel_rfl))
noncomputable def impl_WeightOf.dec (rs : List (List C)) (os : List Out) : Option (Int) := uncons rs fun c1 r2 => uncons c1 fun x3 l4 => cD x3 fun d5 => dInt .i64 d5 fun w0 => atEnd l4 <| atEnd r2 <| atEnd os (some w0)
theorem impl_WeightOf.kt_dec (a0_0 : Int) (a0_1 : List (List D)) (a0_2 : List (List D)) (a0_3 : List (List D)) (a1 : ByteArray) : impl_WeightOf.kt a0_0 a0_1 a0_2 a0_3 a1 impl_WeightOf.dec = (fun z0 => some z0) := by kernel_rfl
theorem impl_WeightOf.inj (a0_0 : Int) (a0_1 : List (List D)) (a0_2 : List (List D)) (a0_3 : List (List D)) (a1 : ByteArray) {rs : List (List C)} {os : List Out} {z0 : Int} (h : impl_WeightOf.dec rs os = some z0) (ho : OutShape (impl_WeightOf.as a0_0 a0_1 a0_2 a0_3 a1) os) : rs = [[.d (.int .i64 z0)]] ∧ os = [] := by
  unfold impl_WeightOf.dec at h
  obtain ⟨c1, r2, rfl, h1⟩ := uncons_some h
  obtain ⟨x3, l4, rfl, h2⟩ := uncons_some h1
  obtain ⟨d5, rfl, h3⟩ := cD_some h2
  obtain ⟨w0, rfl, h4⟩ := dInt_some h3
  obtain ⟨rfl, h5⟩ := atEnd_some h4
  obtain ⟨rfl, h6⟩ := atEnd_some h5
  obtain ⟨rfl, h7⟩ := atEnd_some h6
  obtain rfl := Option.some.inj h7
  exact ⟨rfl, rfl⟩
theorem impl_WeightOf.ok (k : Nat) : EntryOK Try.prog 23 (impl_WeightOf.e k) := by
  refine entry_of mix tyok (fn := Try.f23) (c := codeOf Try.f23) Try.func23 (by kernel_rfl) (h := impl_WeightOf.h) (k := k) (E := impl_WeightOf.E k) env_nil (by kernel_rfl) (by kernel_rfl) rfl (enter_of Try.func23 (by kernel_rfl)) ?_
  intro β l K r hr
  simp only [impl_WeightOf.e] at hr
  split at hr
  case h_2 => cases hr
  unfold impl_WeightOf.f at hr
  split at hr
  case h_2 => cases hr
  rename_i hz
  exact ⟨_, _, hr, _, impl_WeightOf.dec, _, (impl_WeightOf.f_eq k _ _ _ _ _ impl_WeightOf.dec).trans (by rw [impl_WeightOf.kt_dec]; exact hz), fun rs os h ho => impl_WeightOf.inj _ _ _ _ _ h ho⟩
/-! ### loop.example/g00119/laws.eqStringS: function 77 -/
noncomputable def laws_eqStringS.l0 {β : Type} (k : Nat) (v0_0 : List (List D)) (v0_1 : List (List D)) (K : Bool → Option β) (L0 : Int → Option β) (v : Int) : Option β :=
  match v with
  | v0_2 => bif (decide ((v0_2 : Int) < (v0_0.length : Int))) then (atRow v0_0 v0_2 fun c9 => uncons c9 fun d10 r11 => dStr d10 fun x12 => atEnd r11 (atRow v0_1 v0_2 fun c13 => uncons c13 fun d14 r15 => dStr d14 fun x16 => atEnd r15 (bif (!(strEq x12 x16)) then (K false) else (L0 (IntKind.wrap .i64 (v0_2 + 1)))))) else (K true)
noncomputable def laws_eqStringS.g {β : Type} (k : Nat) (a0 : List (List D)) (a1 : List (List D)) (K : Bool → Option β) : Option β :=
  bif (((a0.length : Int) : Int) != (a1.length : Int)) then (K false) else (iter (laws_eqStringS.l0 k a0 a1 K) k (0))
noncomputable def laws_eqStringS.t (k : Nat) (a0 : List (List D)) (a1 : List (List D)) : Option (Bool) := laws_eqStringS.g k a0 a1 (fun z0 => some z0)
noncomputable def laws_eqStringS.f {β : Type} (k : Nat) (a0 : List (List D)) (a1 : List (List D)) (K : Bool → Option β) : Option β :=
  match laws_eqStringS.t k a0 a1 with
  | some z0 => K z0
  | none => none
noncomputable def laws_eqStringS.as (a0 : List (List D)) (a1 : List (List D)) : List A := [.d (.sl a0), .d (.sl a1)]
noncomputable def laws_eqStringS.kt {β : Type} (a0 : List (List D)) (a1 : List (List D)) (K0 : List (List C) → List Out → Option β) : Bool → Option β := fun z0 => K0 [[.d (.bool z0)]] []
noncomputable def laws_eqStringS.e (k : Nat) : Entry := { modes := [(.imm, 0), (.imm, 0)], rts := [4], al := false, run := fun {β} l K => match l with | [.d (.sl a0), .d (.sl a1)] => laws_eqStringS.f k a0 a1 (laws_eqStringS.kt a0 a1 K) | _ => none }
noncomputable def laws_eqStringS.E (k : Nat) : Env := fun g => none
noncomputable def laws_eqStringS.h : Hints := ⟨fun n => bif n == 4 then ⟨[(0, .asis), (1, .asis), (5, .asis)], []⟩ else ⟨[], []⟩, fun _ => none, false, []⟩
noncomputable def laws_eqStringS.s0 (v0_0 : List (List D)) (v0_1 : List (List D)) (v : Int) : St :=
  match v with
  | v0_2 => ⟨[.d false (.sl v0_0), .d false (.sl v0_1), .any, .any, .any, .d true (.int .i64 v0_2), .any, .any, .any, .any, .any, .any, .any, .any, .any, .any, .any, .any, .any, .any, .any, .any, .any, .any, .any, .any], []⟩
noncomputable def laws_eqStringS.b0 {β : Type} (k : Nat) : St → (Ex → St → Option β) → Option β := fun s K => den Try.prog (laws_eqStringS.E k) laws_eqStringS.h.H laws_eqStringS.h.J k (codeAt [1, 1, 0, 1, 0, 0] (codeOf Try.f77)) s K
noncomputable def laws_eqStringS.c0 {β : Type} (k : Nat) (a0 : List (List D)) (a1 : List (List D)) (K0 : List (List C) → List Out → Option β) : Ex → St → Option β := contAt Try.prog (laws_eqStringS.E k) laws_eqStringS.h k [1, 1, 0, 1, 0] (codeOf Try.f77) (finDen Try.prog Try.f77 laws_eqStringS.h (laws_eqStringS.as a0 a1) K0)
theorem laws_eqStringS.l0_eq {β : Type} (k : Nat) (a0 : List (List D)) (a1 : List (List D)) (K0 : List (List C) → List Out → Option β) (v0_0 : List (List D)) (v0_1 : List (List D)) : ∀ (kk : Nat) (v : Int), loopDen (laws_eqStringS.b0 k) (laws_eqStringS.h.H 4) kk (laws_eqStringS.s0 v0_0 v0_1 v) (laws_eqStringS.c0 k a0 a1 K0) = iter (laws_eqStringS.l0 k v0_0 v0_1 (laws_eqStringS.kt a0 a1 K0)) kk v :=
  loop_eq (laws_eqStringS.s0 v0_0 v0_1) _ (fun L0 v => by kernel_rfl)
noncomputable def laws_eqStringS.m {β : Type} (k : Nat) (a0 : List (List D)) (a1 : List (List D)) (K0 : List (List C) → List Out → Option β) (F : ((List (List D)) → (List (List D)) → Int → Option β)) : Option β :=
  bif (((a0.length : Int) : Int) != (a1.length : Int)) then ((laws_eqStringS.kt a0 a1 K0) false) else ((F) a0 a1 (0))
theorem laws_eqStringS.f_eq {β : Type} (k : Nat) (a0 : List (List D)) (a1 : List (List D)) (K0 : List (List C) → List Out → Option β) : funDen Try.prog (laws_eqStringS.E k) laws_eqStringS.h k Try.f77 (laws_eqStringS.as a0 a1) K0 = laws_eqStringS.g k a0 a1 (laws_eqStringS.kt a0 a1 K0) := Eq.trans (b := (laws_eqStringS.m k a0 a1 K0) (fun (v0_0 : List (List D)) (v0_1 : List (List D)) (v : Int) => loopDen (laws_eqStringS.b0 k) (laws_eqStringS.h.H 4) k (laws_eqStringS.s0 v0_0 v0_1 v) (laws_eqStringS.c0 k a0 a1 K0))) (by kernel_rfl) (Eq.trans (congrArg (laws_eqStringS.m k a0 a1 K0) (funext fun v0_0 => funext fun v0_1 => funext fun v => laws_eqStringS.l0_eq k a0 a1 K0 v0_0 v0_1 k v)) (by kernel_rfl))
noncomputable def laws_eqStringS.dec (rs : List (List C)) (os : List Out) : Option (Bool) := uncons rs fun c1 r2 => uncons c1 fun x3 l4 => cD x3 fun d5 => dBool d5 fun w0 => atEnd l4 <| atEnd r2 <| atEnd os (some w0)
theorem laws_eqStringS.kt_dec (a0 : List (List D)) (a1 : List (List D)) : laws_eqStringS.kt a0 a1 laws_eqStringS.dec = (fun z0 => some z0) := by kernel_rfl
theorem laws_eqStringS.inj (a0 : List (List D)) (a1 : List (List D)) {rs : List (List C)} {os : List Out} {z0 : Bool} (h : laws_eqStringS.dec rs os = some z0) (ho : OutShape (laws_eqStringS.as a0 a1) os) : rs = [[.d (.bool z0)]] ∧ os = [] := by
  unfold laws_eqStringS.dec at h
  obtain ⟨c1, r2, rfl, h1⟩ := uncons_some h
  obtain ⟨x3, l4, rfl, h2⟩ := uncons_some h1
  obtain ⟨d5, rfl, h3⟩ := cD_some h2
  obtain ⟨w0, rfl, h4⟩ := dBool_some h3
  obtain ⟨rfl, h5⟩ := atEnd_some h4
  obtain ⟨rfl, h6⟩ := atEnd_some h5
  obtain ⟨rfl, h7⟩ := atEnd_some h6
  obtain rfl := Option.some.inj h7
  exact ⟨rfl, rfl⟩
theorem laws_eqStringS.ok (k : Nat) : EntryOK Try.prog 77 (laws_eqStringS.e k) := by
  refine entry_of mix tyok (fn := Try.f77) (c := codeOf Try.f77) Try.func77 (by kernel_rfl) (h := laws_eqStringS.h) (k := k) (E := laws_eqStringS.E k) env_nil (by kernel_rfl) (by kernel_rfl) rfl (enter_of Try.func77 (by kernel_rfl)) ?_
  intro β l K r hr
  simp only [laws_eqStringS.e] at hr
  split at hr
  case h_2 => cases hr
  unfold laws_eqStringS.f at hr
  split at hr
  case h_2 => cases hr
  rename_i hz
  exact ⟨_, _, hr, _, laws_eqStringS.dec, _, (laws_eqStringS.f_eq k _ _ laws_eqStringS.dec).trans (by rw [laws_eqStringS.kt_dec]; exact hz), fun rs os h ho => laws_eqStringS.inj _ _ h ho⟩
/-! ### loop.example/g00119/laws.eqTerm: function 142 -/
noncomputable def laws_eqTerm.g {β : Type} (k : Nat) (a0_0 : Int) (a0_1 : ByteArray) (a0_2 : List (List D)) (a1_0 : Int) (a1_1 : ByteArray) (a1_2 : List (List D)) (K : Bool → Option β) : Option β :=
  bif ((a0_0 : Int) != a1_0) then (K false) else (bif (!(strEq a0_1 a1_1)) then (K false) else (laws_eqStringS.f k a0_2 a1_2 (fun y17 => bif (!y17) then (K false) else (K true))))
noncomputable def laws_eqTerm.t (k : Nat) (a0_0 : Int) (a0_1 : ByteArray) (a0_2 : List (List D)) (a1_0 : Int) (a1_1 : ByteArray) (a1_2 : List (List D)) : Option (Bool) := laws_eqTerm.g k a0_0 a0_1 a0_2 a1_0 a1_1 a1_2 (fun z0 => some z0)
noncomputable def laws_eqTerm.f {β : Type} (k : Nat) (a0_0 : Int) (a0_1 : ByteArray) (a0_2 : List (List D)) (a1_0 : Int) (a1_1 : ByteArray) (a1_2 : List (List D)) (K : Bool → Option β) : Option β :=
  match laws_eqTerm.t k a0_0 a0_1 a0_2 a1_0 a1_1 a1_2 with
  | some z0 => K z0
  | none => none
noncomputable def laws_eqTerm.as (a0_0 : Int) (a0_1 : ByteArray) (a0_2 : List (List D)) (a1_0 : Int) (a1_1 : ByteArray) (a1_2 : List (List D)) : List A := [.agg [.int .i64 a0_0, .str a0_1, .sl a0_2], .agg [.int .i64 a1_0, .str a1_1, .sl a1_2]]
noncomputable def laws_eqTerm.kt {β : Type} (a0_0 : Int) (a0_1 : ByteArray) (a0_2 : List (List D)) (a1_0 : Int) (a1_1 : ByteArray) (a1_2 : List (List D)) (K0 : List (List C) → List Out → Option β) : Bool → Option β := fun z0 => K0 [[.d (.bool z0)]] []
noncomputable def laws_eqTerm.e (k : Nat) : Entry := { modes := [(.imm, 0), (.imm, 0)], rts := [4], al := false, run := fun {β} l K => match l with | [.agg [.int .i64 a0_0, .str a0_1, .sl a0_2], .agg [.int .i64 a1_0, .str a1_1, .sl a1_2]] => laws_eqTerm.f k a0_0 a0_1 a0_2 a1_0 a1_1 a1_2 (laws_eqTerm.kt a0_0 a0_1 a0_2 a1_0 a1_1 a1_2 K) | _ => none }
noncomputable def laws_eqTerm.E (k : Nat) : Env := fun g => bif g == 77 then some (laws_eqStringS.e k) else none
noncomputable def laws_eqTerm.h : Hints := ⟨fun n => ⟨[], []⟩, fun _ => none, false, []⟩
theorem laws_eqTerm.f_eq {β : Type} (k : Nat) (a0_0 : Int) (a0_1 : ByteArray) (a0_2 : List (List D)) (a1_0 : Int) (a1_1 : ByteArray) (a1_2 : List (List D)) (K0 : List (List C) → List Out → Option β) : funDen Try.prog (laws_eqTerm.E k) laws_eqTerm.h k Try.f142 (laws_eqTerm.as a0_0 a0_1 a0_2 a1_0 a1_1 a1_2) K0 = laws_eqTerm.g k a0_0 a0_1 a0_2 a1_0 a1_1 a1_2 (laws_eqTerm.kt a0_0 a0_1 a0_2 a1_0 a1_1 a1_2 K0) := by kernel_rfl
noncomputable def laws_eqTerm.dec (rs : List (List C)) (os : List Out) : Option (Bool) := uncons rs fun c1 r2 => uncons c1 fun x3 l4 => cD x3 fun d5 => dBool d5 fun w0 => atEnd l4 <| atEnd r2 <| atEnd os (some w0)
theorem laws_eqTerm.kt_dec (a0_0 : Int) (a0_1 : ByteArray) (a0_2 : List (List D)) (a1_0 : Int) (a1_1 : ByteArray) (a1_2 : List (List D)) : laws_eqTerm.kt a0_0 a0_1 a0_2 a1_0 a1_1 a1_2 laws_eqTerm.dec = (fun z0 => some z0) := by kernel_rfl
theorem laws_eqTerm.inj (a0_0 : Int) (a0_1 : ByteArray) (a0_2 : List (List D)) (a1_0 : Int) (a1_1 : ByteArray) (a1_2 : List (List D)) {rs : List (List C)} {os : List Out} {z0 : Bool} (h : laws_eqTerm.dec rs os = some z0) (ho : OutShape (laws_eqTerm.as a0_0 a0_1 a0_2 a1_0 a1_1 a1_2) os) : rs = [[.d (.bool z0)]] ∧ os = [] := by
  unfold laws_eqTerm.dec at h
  obtain ⟨c1, r2, rfl, h1⟩ := uncons_some h
  obtain ⟨x3, l4, rfl, h2⟩ := uncons_some h1
  obtain ⟨d5, rfl, h3⟩ := cD_some h2
  obtain ⟨w0, rfl, h4⟩ := dBool_some h3
  obtain ⟨rfl, h5⟩ := atEnd_some h4
  obtain ⟨rfl, h6⟩ := atEnd_some h5
  obtain ⟨rfl, h7⟩ := atEnd_some h6
  obtain rfl := Option.some.inj h7
  exact ⟨rfl, rfl⟩
theorem laws_eqTerm.ok (k : Nat) : EntryOK Try.prog 142 (laws_eqTerm.e k) := by
  refine entry_of mix tyok (fn := Try.f142) (c := codeOf Try.f142) Try.func142 (by kernel_rfl) (h := laws_eqTerm.h) (k := k) (E := laws_eqTerm.E k) (env_cons (laws_eqStringS.ok k) env_nil) (by kernel_rfl) (by kernel_rfl) rfl (enter_of Try.func142 (by kernel_rfl)) ?_
  intro β l K r hr
  simp only [laws_eqTerm.e] at hr
  split at hr
  case h_2 => cases hr
  unfold laws_eqTerm.f at hr
  split at hr
  case h_2 => cases hr
  rename_i hz
  exact ⟨_, _, hr, _, laws_eqTerm.dec, _, (laws_eqTerm.f_eq k _ _ _ _ _ _ laws_eqTerm.dec).trans (by rw [laws_eqTerm.kt_dec]; exact hz), fun rs os h ho => laws_eqTerm.inj _ _ _ _ _ _ h ho⟩
/-! ### loop.example/g00119/laws.eqTermS: function 82 -/
noncomputable def laws_eqTermS.l0 {β : Type} (k : Nat) (v0_0 : List (List D)) (v0_1 : List (List D)) (K : Bool → Option β) (L0 : Int → Option β) (v : Int) : Option β :=
  match v with
  | v0_2 => bif (decide ((v0_2 : Int) < (v0_0.length : Int))) then (atRow v0_0 v0_2 fun c19 => uncons c19 fun d20 r21 => dInt .i64 d20 fun x22 => uncons r21 fun d23 r24 => dStr d23 fun x25 => uncons r24 fun d26 r27 => dSl d26 fun x28 => atEnd r27 (atRow v0_1 v0_2 fun c29 => uncons c29 fun d30 r31 => dInt .i64 d30 fun x32 => uncons r31 fun d33 r34 => dStr d33 fun x35 => uncons r34 fun d36 r37 => dSl d36 fun x38 => atEnd r37 (laws_eqTerm.f k x22 x25 x28 x32 x35 x38 (fun y39 => bif (!y39) then (K false) else (L0 (IntKind.wrap .i64 (v0_2 + 1))))))) else (K true)
noncomputable def laws_eqTermS.g {β : Type} (k : Nat) (a0 : List (List D)) (a1 : List (List D)) (K : Bool → Option β) : Option β :=
  bif (((a0.length : Int) : Int) != (a1.length : Int)) then (K false) else (iter (laws_eqTermS.l0 k a0 a1 K) k (0))
noncomputable def laws_eqTermS.t (k : Nat) (a0 : List (List D)) (a1 : List (List D)) : Option (Bool) := laws_eqTermS.g k a0 a1 (fun z0 => some z0)
noncomputable def laws_eqTermS.f {β : Type} (k : Nat) (a0 : List (List D)) (a1 : List (List D)) (K : Bool → Option β) : Option β :=
  match laws_eqTermS.t k a0 a1 with
  | some z0 => K z0
  | none => none
noncomputable def laws_eqTermS.as (a0 : List (List D)) (a1 : List (List D)) : List A := [.d (.sl a0), .d (.sl a1)]
noncomputable def laws_eqTermS.kt {β : Type} (a0 : List (List D)) (a1 : List (List D)) (K0 : List (List C) → List Out → Option β) : Bool → Option β := fun z0 => K0 [[.d (.bool z0)]] []
noncomputable def laws_eqTermS.e (k : Nat) : Entry := { modes := [(.imm, 0), (.imm, 0)], rts := [4], al := false, run := fun {β} l K => match l with | [.d (.sl a0), .d (.sl a1)] => laws_eqTermS.f k a0 a1 (laws_eqTermS.kt a0 a1 K) | _ => none }
noncomputable def laws_eqTermS.E (k : Nat) : Env := fun g => bif g == 142 then some (laws_eqTerm.e k) else none
noncomputable def laws_eqTermS.h : Hints := ⟨fun n => bif n == 4 then ⟨[(0, .asis), (1, .asis), (5, .asis)], []⟩ else ⟨[], []⟩, fun _ => none, false, []⟩
noncomputable def laws_eqTermS.s0 (v0_0 : List (List D)) (v0_1 : List (List D)) (v : Int) : St :=
  match v with
  | v0_2 => ⟨[.d false (.sl v0_0), .d false (.sl v0_1), .any, .any, .any, .d true (.int .i64 v0_2), .any, .any, .any, .any, .any, .any, .any, .any, .any, .any, .any, .any, .any, .any, .any, .any, .any, .any, .any, .any, .any], []⟩
noncomputable def laws_eqTermS.b0 {β : Type} (k : Nat) : St → (Ex → St → Option β) → Option β := fun s K => den Try.prog (laws_eqTermS.E k) laws_eqTermS.h.H laws_eqTermS.h.J k (codeAt [1, 1, 0, 1, 0, 0] (codeOf Try.f82)) s K
noncomputable def laws_eqTermS.c0 {β : Type} (k : Nat) (a0 : List (List D)) (a1 : List (List D)) (K0 : List (List C) → List Out → Option β) : Ex → St → Option β := contAt Try.prog (laws_eqTermS.E k) laws_eqTermS.h k [1, 1, 0, 1, 0] (codeOf Try.f82) (finDen Try.prog Try.f82 laws_eqTermS.h (laws_eqTermS.as a0 a1) K0)
theorem laws_eqTermS.l0_eq {β : Type} (k : Nat) (a0 : List (List D)) (a1 : List (List D)) (K0 : List (List C) → List Out → Option β) (v0_0 : List (List D)) (v0_1 : List (List D)) : ∀ (kk : Nat) (v : Int), loopDen (laws_eqTermS.b0 k) (laws_eqTermS.h.H 4) kk (laws_eqTermS.s0 v0_0 v0_1 v) (laws_eqTermS.c0 k a0 a1 K0) = iter (laws_eqTermS.l0 k v0_0 v0_1 (laws_eqTermS.kt a0 a1 K0)) kk v :=
  loop_eq (laws_eqTermS.s0 v0_0 v0_1) _ (fun L0 v => by kernel_rfl)
noncomputable def laws_eqTermS.m {β : Type} (k : Nat) (a0 : List (List D)) (a1 : List (List D)) (K0 : List (List C) → List Out → Option β) (F : ((List (List D)) → (List (List D)) → Int → Option β)) : Option β :=
  bif (((a0.length : Int) : Int) != (a1.length : Int)) then ((laws_eqTermS.kt a0 a1 K0) false) else ((F) a0 a1 (0))
theorem laws_eqTermS.f_eq {β : Type} (k : Nat) (a0 : List (List D)) (a1 : List (List D)) (K0 : List (List C) → List Out → Option β) : funDen Try.prog (laws_eqTermS.E k) laws_eqTermS.h k Try.f82 (laws_eqTermS.as a0 a1) K0 = laws_eqTermS.g k a0 a1 (laws_eqTermS.kt a0 a1 K0) := Eq.trans (b := (laws_eqTermS.m k a0 a1 K0) (fun (v0_0 : List (List D)) (v0_1 : List (List D)) (v : Int) => loopDen (laws_eqTermS.b0 k) (laws_eqTermS.h.H 4) k (laws_eqTermS.s0 v0_0 v0_1 v) (laws_eqTermS.c0 k a0 a1 K0))) (by kernel_rfl) (Eq.trans (congrArg (laws_eqTermS.m k a0 a1 K0) (funext fun v0_0 => funext fun v0_1 => funext fun v => laws_eqTermS.l0_eq k a0 a1 K0 v0_0 v0_1 k v)) (by kernel_rfl))
noncomputable def laws_eqTermS.dec (rs : List (List C)) (os : List Out) : Option (Bool) := uncons rs fun c1 r2 => uncons c1 fun x3 l4 => cD x3 fun d5 => dBool d5 fun w0 => atEnd l4 <| atEnd r2 <| atEnd os (some w0)
theorem laws_eqTermS.kt_dec (a0 : List (List D)) (a1 : List (List D)) : laws_eqTermS.kt a0 a1 laws_eqTermS.dec = (fun z0 => some z0) := by kernel_rfl
theorem laws_eqTermS.inj (a0 : List (List D)) (a1 : List (List D)) {rs : List (List C)} {os : List Out} {z0 : Bool} (h : laws_eqTermS.dec rs os = some z0) (ho : OutShape (laws_eqTermS.as a0 a1) os) : rs = [[.d (.bool z0)]] ∧ os = [] := by
  unfold laws_eqTermS.dec at h
  obtain ⟨c1, r2, rfl, h1⟩ := uncons_some h
  obtain ⟨x3, l4, rfl, h2⟩ := uncons_some h1
  obtain ⟨d5, rfl, h3⟩ := cD_some h2
  obtain ⟨w0, rfl, h4⟩ := dBool_some h3
  obtain ⟨rfl, h5⟩ := atEnd_some h4
  obtain ⟨rfl, h6⟩ := atEnd_some h5
  obtain ⟨rfl, h7⟩ := atEnd_some h6
  obtain rfl := Option.some.inj h7
  exact ⟨rfl, rfl⟩
theorem laws_eqTermS.ok (k : Nat) : EntryOK Try.prog 82 (laws_eqTermS.e k) := by
  refine entry_of mix tyok (fn := Try.f82) (c := codeOf Try.f82) Try.func82 (by kernel_rfl) (h := laws_eqTermS.h) (k := k) (E := laws_eqTermS.E k) (env_cons (laws_eqTerm.ok k) env_nil) (by kernel_rfl) (by kernel_rfl) rfl (enter_of Try.func82 (by kernel_rfl)) ?_
  intro β l K r hr
  simp only [laws_eqTermS.e] at hr
  split at hr
  case h_2 => cases hr
  unfold laws_eqTermS.f at hr
  split at hr
  case h_2 => cases hr
  rename_i hz
  exact ⟨_, _, hr, _, laws_eqTermS.dec, _, (laws_eqTermS.f_eq k _ _ laws_eqTermS.dec).trans (by rw [laws_eqTermS.kt_dec]; exact hz), fun rs os h ho => laws_eqTermS.inj _ _ h ho⟩
/-! ### loop.example/g00119/laws.eqWeigh: function 143 -/
noncomputable def laws_eqWeigh.g {β : Type} (k : Nat) (a0_0 : ByteArray) (a0_1 : Int) (a1_0 : ByteArray) (a1_1 : Int) (K : Bool → Option β) : Option β :=
  bif (!(strEq a0_0 a1_0)) then (K false) else (bif ((a0_1 : Int) != a1_1) then (K false) else (K true))
noncomputable def laws_eqWeigh.t (k : Nat) (a0_0 : ByteArray) (a0_1 : Int) (a1_0 : ByteArray) (a1_1 : Int) : Option (Bool) := laws_eqWeigh.g k a0_0 a0_1 a1_0 a1_1 (fun z0 => some z0)
noncomputable def laws_eqWeigh.f {β : Type} (k : Nat) (a0_0 : ByteArray) (a0_1 : Int) (a1_0 : ByteArray) (a1_1 : Int) (K : Bool → Option β) : Option β :=
  match laws_eqWeigh.t k a0_0 a0_1 a1_0 a1_1 with
  | some z0 => K z0
  | none => none
noncomputable def laws_eqWeigh.as (a0_0 : ByteArray) (a0_1 : Int) (a1_0 : ByteArray) (a1_1 : Int) : List A := [.agg [.str a0_0, .int .i64 a0_1], .agg [.str a1_0, .int .i64 a1_1]]
noncomputable def laws_eqWeigh.kt {β : Type} (a0_0 : ByteArray) (a0_1 : Int) (a1_0 : ByteArray) (a1_1 : Int) (K0 : List (List C) → List Out → Option β) : Bool → Option β := fun z0 => K0 [[.d (.bool z0)]] []
noncomputable def laws_eqWeigh.e (k : Nat) : Entry := { modes := [(.imm, 0), (.imm, 0)], rts := [4], al := false, run := fun {β} l K => match l with | [.agg [.str a0_0, .int .i64 a0_1], .agg [.str a1_0, .int .i64 a1_1]] => laws_eqWeigh.f k a0_0 a0_1 a1_0 a1_1 (laws_eqWeigh.kt a0_0 a0_1 a1_0 a1_1 K) | _ => none }
noncomputable def laws_eqWeigh.E (k : Nat) : Env := fun g => none
noncomputable def laws_eqWeigh.h : Hints := ⟨fun n => ⟨[], []⟩, fun _ => none, false, []⟩
theorem laws_eqWeigh.f_eq {β : Type} (k : Nat) (a0_0 : ByteArray) (a0_1 : Int) (a1_0 : ByteArray) (a1_1 : Int) (K0 : List (List C) → List Out → Option β) : funDen Try.prog (laws_eqWeigh.E k) laws_eqWeigh.h k Try.f143 (laws_eqWeigh.as a0_0 a0_1 a1_0 a1_1) K0 = laws_eqWeigh.g k a0_0 a0_1 a1_0 a1_1 (laws_eqWeigh.kt a0_0 a0_1 a1_0 a1_1 K0) := by kernel_rfl
noncomputable def laws_eqWeigh.dec (rs : List (List C)) (os : List Out) : Option (Bool) := uncons rs fun c1 r2 => uncons c1 fun x3 l4 => cD x3 fun d5 => dBool d5 fun w0 => atEnd l4 <| atEnd r2 <| atEnd os (some w0)
theorem laws_eqWeigh.kt_dec (a0_0 : ByteArray) (a0_1 : Int) (a1_0 : ByteArray) (a1_1 : Int) : laws_eqWeigh.kt a0_0 a0_1 a1_0 a1_1 laws_eqWeigh.dec = (fun z0 => some z0) := by kernel_rfl
theorem laws_eqWeigh.inj (a0_0 : ByteArray) (a0_1 : Int) (a1_0 : ByteArray) (a1_1 : Int) {rs : List (List C)} {os : List Out} {z0 : Bool} (h : laws_eqWeigh.dec rs os = some z0) (ho : OutShape (laws_eqWeigh.as a0_0 a0_1 a1_0 a1_1) os) : rs = [[.d (.bool z0)]] ∧ os = [] := by
  unfold laws_eqWeigh.dec at h
  obtain ⟨c1, r2, rfl, h1⟩ := uncons_some h
  obtain ⟨x3, l4, rfl, h2⟩ := uncons_some h1
  obtain ⟨d5, rfl, h3⟩ := cD_some h2
  obtain ⟨w0, rfl, h4⟩ := dBool_some h3
  obtain ⟨rfl, h5⟩ := atEnd_some h4
  obtain ⟨rfl, h6⟩ := atEnd_some h5
  obtain ⟨rfl, h7⟩ := atEnd_some h6
  obtain rfl := Option.some.inj h7
  exact ⟨rfl, rfl⟩
theorem laws_eqWeigh.ok (k : Nat) : EntryOK Try.prog 143 (laws_eqWeigh.e k) := by
  refine entry_of mix tyok (fn := Try.f143) (c := codeOf Try.f143) Try.func143 (by kernel_rfl) (h := laws_eqWeigh.h) (k := k) (E := laws_eqWeigh.E k) env_nil (by kernel_rfl) (by kernel_rfl) rfl (enter_of Try.func143 (by kernel_rfl)) ?_
  intro β l K r hr
  simp only [laws_eqWeigh.e] at hr
  split at hr
  case h_2 => cases hr
  unfold laws_eqWeigh.f at hr
  split at hr
  case h_2 => cases hr
  rename_i hz
  exact ⟨_, _, hr, _, laws_eqWeigh.dec, _, (laws_eqWeigh.f_eq k _ _ _ _ laws_eqWeigh.dec).trans (by rw [laws_eqWeigh.kt_dec]; exact hz), fun rs os h ho => laws_eqWeigh.inj _ _ _ _ h ho⟩
/-! ### loop.example/g00119/laws.eqWeighS: function 83 -/
noncomputable def laws_eqWeighS.l0 {β : Type} (k : Nat) (v0_0 : List (List D)) (v0_1 : List (List D)) (K : Bool → Option β) (L0 : Int → Option β) (v : Int) : Option β :=
  match v with
  | v0_2 => bif (decide ((v0_2 : Int) < (v0_0.length : Int))) then (atRow v0_0 v0_2 fun c2 => uncons c2 fun d3 r4 => dStr d3 fun x5 => uncons r4 fun d6 r7 => dInt .i64 d6 fun x8 => atEnd r7 (atRow v0_1 v0_2 fun c9 => uncons c9 fun d10 r11 => dStr d10 fun x12 => uncons r11 fun d13 r14 => dInt .i64 d13 fun x15 => atEnd r14 (laws_eqWeigh.f k x5 x8 x12 x15 (fun y16 => bif (!y16) then (K false) else (L0 (IntKind.wrap .i64 (v0_2 + 1))))))) else (K true)
noncomputable def laws_eqWeighS.g {β : Type} (k : Nat) (a0 : List (List D)) (a1 : List (List D)) (K : Bool → Option β) : Option β :=
  bif (((a0.length : Int) : Int) != (a1.length : Int)) then (K false) else (iter (laws_eqWeighS.l0 k a0 a1 K) k (0))
noncomputable def laws_eqWeighS.t (k : Nat) (a0 : List (List D)) (a1 : List (List D)) : Option (Bool) := laws_eqWeighS.g k a0 a1 (fun z0 => some z0)
noncomputable def laws_eqWeighS.f {β : Type} (k : Nat) (a0 : List (List D)) (a1 : List (List D)) (K : Bool → Option β) : Option β :=
  match laws_eqWeighS.t k a0 a1 with
  | some z0 => K z0
  | none => none
noncomputable def laws_eqWeighS.as (a0 : List (List D)) (a1 : List (List D)) : List A := [.d (.sl a0), .d (.sl a1)]
noncomputable def laws_eqWeighS.kt {β : Type} (a0 : List (List D)) (a1 : List (List D)) (K0 : List (List C) → List Out → Option β) : Bool → Option β := fun z0 => K0 [[.d (.bool z0)]] []
noncomputable def laws_eqWeighS.e (k : Nat) : Entry := { modes := [(.imm, 0), (.imm, 0)], rts := [4], al := false, run := fun {β} l K => match l with | [.d (.sl a0), .d (.sl a1)] => laws_eqWeighS.f k a0 a1 (laws_eqWeighS.kt a0 a1 K) | _ => none }
noncomputable def laws_eqWeighS.E (k : Nat) : Env := fun g => bif g == 143 then some (laws_eqWeigh.e k) else none
noncomputable def laws_eqWeighS.h : Hints := ⟨fun n => bif n == 4 then ⟨[(0, .asis), (1, .asis), (5, .asis)], []⟩ else ⟨[], []⟩, fun _ => none, false, []⟩
noncomputable def laws_eqWeighS.s0 (v0_0 : List (List D)) (v0_1 : List (List D)) (v : Int) : St :=
  match v with
  | v0_2 => ⟨[.d false (.sl v0_0), .d false (.sl v0_1), .any, .any, .any, .d true (.int .i64 v0_2), .any, .any, .any, .any, .any, .any, .any, .any, .any, .any, .any, .any, .any, .any, .any, .any, .any, .any, .any, .any, .any], []⟩
noncomputable def laws_eqWeighS.b0 {β : Type} (k : Nat) : St → (Ex → St → Option β) → Option β := fun s K => den Try.prog (laws_eqWeighS.E k) laws_eqWeighS.h.H laws_eqWeighS.h.J k (codeAt [1, 1, 0, 1, 0, 0] (codeOf Try.f83)) s K
noncomputable def laws_eqWeighS.c0 {β : Type} (k : Nat) (a0 : List (List D)) (a1 : List (List D)) (K0 : List (List C) → List Out → Option β) : Ex → St → Option β := contAt Try.prog (laws_eqWeighS.E k) laws_eqWeighS.h k [1, 1, 0, 1, 0] (codeOf Try.f83) (finDen Try.prog Try.f83 laws_eqWeighS.h (laws_eqWeighS.as a0 a1) K0)
theorem laws_eqWeighS.l0_eq {β : Type} (k : Nat) (a0 : List (List D)) (a1 : List (List D)) (K0 : List (List C) → List Out → Option β) (v0_0 : List (List D)) (v0_1 : List (List D)) : ∀ (kk : Nat) (v : Int), loopDen (laws_eqWeighS.b0 k) (laws_eqWeighS.h.H 4) kk (laws_eqWeighS.s0 v0_0 v0_1 v) (laws_eqWeighS.c0 k a0 a1 K0) = iter (laws_eqWeighS.l0 k v0_0 v0_1 (laws_eqWeighS.kt a0 a1 K0)) kk v :=
  loop_eq (laws_eqWeighS.s0 v0_0 v0_1) _ (fun L0 v => by kernel_rfl)
noncomputable def laws_eqWeighS.m {β : Type} (k : Nat) (a0 : List (List D)) (a1 : List (List D)) (K0 : List (List C) → List Out → Option β) (F : ((List (List D)) → (List (List D)) → Int → Option β)) : Option β :=
  bif (((a0.length : Int) : Int) != (a1.length : Int)) then ((laws_eqWeighS.kt a0 a1 K0) false) else ((F) a0 a1 (0))
theorem laws_eqWeighS.f_eq {β : Type} (k : Nat) (a0 : List (List D)) (a1 : List (List D)) (K0 : List (List C) → List Out → Option β) : funDen Try.prog (laws_eqWeighS.E k) laws_eqWeighS.h k Try.f83 (laws_eqWeighS.as a0 a1) K0 = laws_eqWeighS.g k a0 a1 (laws_eqWeighS.kt a0 a1 K0) := Eq.trans (b := (laws_eqWeighS.m k a0 a1 K0) (fun (v0_0 : List (List D)) (v0_1 : List (List D)) (v : Int) => loopDen (laws_eqWeighS.b0 k) (laws_eqWeighS.h.H 4) k (laws_eqWeighS.s0 v0_0 v0_1 v) (laws_eqWeighS.c0 k a0 a1 K0))) (by kernel_rfl) (Eq.trans (congrArg (laws_eqWeighS.m k a0 a1 K0) (funext fun v0_0 => funext fun v0_1 => funext fun v => laws_eqWeighS.l0_eq k a0 a1 K0 v0_0 v0_1 k v)) (by kernel_rfl))
noncomputable def laws_eqWeighS.dec (rs : List (List C)) (os : List Out) : Option (Bool) := uncons rs fun c1 r2 => uncons c1 fun x3 l4 => cD x3 fun d5 => dBool d5 fun w0 => atEnd l4 <| atEnd r2 <| atEnd os (some w0)
theorem laws_eqWeighS.kt_dec (a0 : List (List D)) (a1 : List (List D)) : laws_eqWeighS.kt a0 a1 laws_eqWeighS.dec = (fun z0 => some z0) := by kernel_rfl
theorem laws_eqWeighS.inj (a0 : List (List D)) (a1 : List (List D)) {rs : List (List C)} {os : List Out} {z0 : Bool} (h : laws_eqWeighS.dec rs os = some z0) (ho : OutShape (laws_eqWeighS.as a0 a1) os) : rs = [[.d (.bool z0)]] ∧ os = [] := by
  unfold laws_eqWeighS.dec at h
  obtain ⟨c1, r2, rfl, h1⟩ := uncons_some h
  obtain ⟨x3, l4, rfl, h2⟩ := uncons_some h1
  obtain ⟨d5, rfl, h3⟩ := cD_some h2
  obtain ⟨w0, rfl, h4⟩ := dBool_some h3
  obtain ⟨rfl, h5⟩ := atEnd_some h4
  obtain ⟨rfl, h6⟩ := atEnd_some h5
  obtain ⟨rfl, h7⟩ := atEnd_some h6
  obtain rfl := Option.some.inj h7
  exact ⟨rfl, rfl⟩
theorem laws_eqWeighS.ok (k : Nat) : EntryOK Try.prog 83 (laws_eqWeighS.e k) := by
  refine entry_of mix tyok (fn := Try.f83) (c := codeOf Try.f83) Try.func83 (by kernel_rfl) (h := laws_eqWeighS.h) (k := k) (E := laws_eqWeighS.E k) (env_cons (laws_eqWeigh.ok k) env_nil) (by kernel_rfl) (by kernel_rfl) rfl (enter_of Try.func83 (by kernel_rfl)) ?_
  intro β l K r hr
  simp only [laws_eqWeighS.e] at hr
  split at hr
  case h_2 => cases hr
  unfold laws_eqWeighS.f at hr
  split at hr
  case h_2 => cases hr
  rename_i hz
  exact ⟨_, _, hr, _, laws_eqWeighS.dec, _, (laws_eqWeighS.f_eq k _ _ laws_eqWeighS.dec).trans (by rw [laws_eqWeighS.kt_dec]; exact hz), fun rs os h ho => laws_eqWeighS.inj _ _ h ho⟩
/-! ### loop.example/g00119/laws.eqWant: function 24 -/
noncomputable def laws_eqWant.g {β : Type} (k : Nat) (a0_0 : Int) (a0_1 : List (List D)) (a0_2 : List (List D)) (a0_3 : List (List D)) (a1_0 : Int) (a1_1 : List (List D)) (a1_2 : List (List D)) (a1_3 : List (List D)) (K : Bool → Option β) : Option β :=
  bif ((a0_0 : Int) != a1_0) then (K false) else (laws_eqTermS.f k a0_1 a1_1 (fun y40 => bif (!y40) then (K false) else (laws_eqStringS.f k a0_2 a1_2 (fun y41 => bif (!y41) then (K false) else (laws_eqWeighS.f k a0_3 a1_3 (fun y17 => bif (!y17) then (K false) else (K true)))))))
noncomputable def laws_eqWant.t (k : Nat) (a0_0 : Int) (a0_1 : List (List D)) (a0_2 : List (List D)) (a0_3 : List (List D)) (a1_0 : Int) (a1_1 : List (List D)) (a1_2 : List (List D)) (a1_3 : List (List D)) : Option (Bool) := laws_eqWant.g k a0_0 a0_1 a0_2 a0_3 a1_0 a1_1 a1_2 a1_3 (fun z0 => some z0)
noncomputable def laws_eqWant.f {β : Type} (k : Nat) (a0_0 : Int) (a0_1 : List (List D)) (a0_2 : List (List D)) (a0_3 : List (List D)) (a1_0 : Int) (a1_1 : List (List D)) (a1_2 : List (List D)) (a1_3 : List (List D)) (K : Bool → Option β) : Option β :=
  match laws_eqWant.t k a0_0 a0_1 a0_2 a0_3 a1_0 a1_1 a1_2 a1_3 with
  | some z0 => K z0
  | none => none
noncomputable def laws_eqWant.as (a0_0 : Int) (a0_1 : List (List D)) (a0_2 : List (List D)) (a0_3 : List (List D)) (a1_0 : Int) (a1_1 : List (List D)) (a1_2 : List (List D)) (a1_3 : List (List D)) : List A := [.agg [.int .i64 a0_0, .sl a0_1, .sl a0_2, .sl a0_3], .agg [.int .i64 a1_0, .sl a1_1, .sl a1_2, .sl a1_3]]
noncomputable def laws_eqWant.kt {β : Type} (a0_0 : Int) (a0_1 : List (List D)) (a0_2 : List (List D)) (a0_3 : List (List D)) (a1_0 : Int) (a1_1 : List (List D)) (a1_2 : List (List D)) (a1_3 : List (List D)) (K0 : List (List C) → List Out → Option β) : Bool → Option β := fun z0 => K0 [[.d (.bool z0)]] []
noncomputable def laws_eqWant.e (k : Nat) : Entry := { modes := [(.imm, 0), (.imm, 0)], rts := [4], al := false, run := fun {β} l K => match l with | [.agg [.int .i64 a0_0, .sl a0_1, .sl a0_2, .sl a0_3], .agg [.int .i64 a1_0, .sl a1_1, .sl a1_2, .sl a1_3]] => laws_eqWant.f k a0_0 a0_1 a0_2 a0_3 a1_0 a1_1 a1_2 a1_3 (laws_eqWant.kt a0_0 a0_1 a0_2 a0_3 a1_0 a1_1 a1_2 a1_3 K) | _ => none }
noncomputable def laws_eqWant.E (k : Nat) : Env := fun g => bif g == 82 then some (laws_eqTermS.e k) else bif g == 77 then some (laws_eqStringS.e k) else bif g == 83 then some (laws_eqWeighS.e k) else none
noncomputable def laws_eqWant.h : Hints := ⟨fun n => ⟨[], []⟩, fun _ => none, false, []⟩
theorem laws_eqWant.f_eq {β : Type} (k : Nat) (a0_0 : Int) (a0_1 : List (List D)) (a0_2 : List (List D)) (a0_3 : List (List D)) (a1_0 : Int) (a1_1 : List (List D)) (a1_2 : List (List D)) (a1_3 : List (List D)) (K0 : List (List C) → List Out → Option β) : funDen Try.prog (laws_eqWant.E k) laws_eqWant.h k Try.f24 (laws_eqWant.as a0_0 a0_1 a0_2 a0_3 a1_0 a1_1 a1_2 a1_3) K0 = laws_eqWant.g k a0_0 a0_1 a0_2 a0_3 a1_0 a1_1 a1_2 a1_3 (laws_eqWant.kt a0_0 a0_1 a0_2 a0_3 a1_0 a1_1 a1_2 a1_3 K0) := by kernel_rfl
noncomputable def laws_eqWant.dec (rs : List (List C)) (os : List Out) : Option (Bool) := uncons rs fun c1 r2 => uncons c1 fun x3 l4 => cD x3 fun d5 => dBool d5 fun w0 => atEnd l4 <| atEnd r2 <| atEnd os (some w0)
theorem laws_eqWant.kt_dec (a0_0 : Int) (a0_1 : List (List D)) (a0_2 : List (List D)) (a0_3 : List (List D)) (a1_0 : Int) (a1_1 : List (List D)) (a1_2 : List (List D)) (a1_3 : List (List D)) : laws_eqWant.kt a0_0 a0_1 a0_2 a0_3 a1_0 a1_1 a1_2 a1_3 laws_eqWant.dec = (fun z0 => some z0) := by kernel_rfl
theorem laws_eqWant.inj (a0_0 : Int) (a0_1 : List (List D)) (a0_2 : List (List D)) (a0_3 : List (List D)) (a1_0 : Int) (a1_1 : List (List D)) (a1_2 : List (List D)) (a1_3 : List (List D)) {rs : List (List C)} {os : List Out} {z0 : Bool} (h : laws_eqWant.dec rs os = some z0) (ho : OutShape (laws_eqWant.as a0_0 a0_1 a0_2 a0_3 a1_0 a1_1 a1_2 a1_3) os) : rs = [[.d (.bool z0)]] ∧ os = [] := by
  unfold laws_eqWant.dec at h
  obtain ⟨c1, r2, rfl, h1⟩ := uncons_some h
  obtain ⟨x3, l4, rfl, h2⟩ := uncons_some h1
  obtain ⟨d5, rfl, h3⟩ := cD_some h2
  obtain ⟨w0, rfl, h4⟩ := dBool_some h3
  obtain ⟨rfl, h5⟩ := atEnd_some h4
  obtain ⟨rfl, h6⟩ := atEnd_some h5
  obtain ⟨rfl, h7⟩ := atEnd_some h6
  obtain rfl := Option.some.inj h7
  exact ⟨rfl, rfl⟩
theorem laws_eqWant.ok (k : Nat) : EntryOK Try.prog 24 (laws_eqWant.e k) := by
  refine entry_of mix tyok (fn := Try.f24) (c := codeOf Try.f24) Try.func24 (by kernel_rfl) (h := laws_eqWant.h) (k := k) (E := laws_eqWant.E k) (env_cons (laws_eqTermS.ok k) (env_cons (laws_eqStringS.ok k) (env_cons (laws_eqWeighS.ok k) env_nil))) (by kernel_rfl) (by kernel_rfl) rfl (enter_of Try.func24 (by kernel_rfl)) ?_
  intro β l K r hr
  simp only [laws_eqWant.e] at hr
  split at hr
  case h_2 => cases hr
  unfold laws_eqWant.f at hr
  split at hr
  case h_2 => cases hr
  rename_i hz
  exact ⟨_, _, hr, _, laws_eqWant.dec, _, (laws_eqWant.f_eq k _ _ _ _ _ _ _ _ laws_eqWant.dec).trans (by rw [laws_eqWant.kt_dec]; exact hz), fun rs os h ho => laws_eqWant.inj _ _ _ _ _ _ _ _ h ho⟩
/-! ### loop.example/g00119/laws.FnExactWeightOf: function 4 -/
noncomputable def laws_FnExactWeightOf.g {β : Type} (k : Nat) (a0_0 : Int) (a0_1 : List (List D)) (a0_2 : List (List D)) (a0_3 : List (List D)) (a1 : ByteArray) (K : Bool → Option β) : Option β :=
  bif (decide (((a1.size : Int) : Int) > 1048576)) then (K true) else (laws_szWant.f k a0_0 a0_1 a0_2 a0_3 1048576 (fun y11 => bif (decide ((y11 : Int) < 0)) then (K true) else (laws_toWant.f k a0_0 a0_1 a0_2 a0_3 (fun y13 y14 y15 y16 => spec_WeightOf.f k y13 (C.immRows y14) (C.immRows y15) (C.immRows y16) a1 (fun y29 => laws_toWant.f k a0_0 a0_1 a0_2 a0_3 (fun y30 y31 y32 y33 => impl_WeightOf.f k y30 (C.immRows y31) (C.immRows y32) (C.immRows y33) a1 (fun y15 => bif ((y15 : Int) != y29) then (K false) else (laws_toWant.f k a0_0 a0_1 a0_2 a0_3 (fun y16 y17 y18 y19 => laws_eqWant.f k y30 (C.immRows y31) (C.immRows y32) (C.immRows y33) y16 (C.immRows y17) (C.immRows y18) (C.immRows y19) (fun y18 => bif (!y18) then (K false) else (K true)))))))))))
noncomputable def laws_FnExactWeightOf.t (k : Nat) (a0_0 : Int) (a0_1 : List (List D)) (a0_2 : List (List D)) (a0_3 : List (List D)) (a1 : ByteArray) : Option (Bool) := laws_FnExactWeightOf.g k a0_0 a0_1 a0_2 a0_3 a1 (fun z0 => some z0)
noncomputable def laws_FnExactWeightOf.f {β : Type} (k : Nat) (a0_0 : Int) (a0_1 : List (List D)) (a0_2 : List (List D)) (a0_3 : List (List D)) (a1 : ByteArray) (K : Bool → Option β) : Option β :=
  match laws_FnExactWeightOf.t k a0_0 a0_1 a0_2 a0_3 a1 with
  | some z0 => K z0
  | none => none
noncomputable def laws_FnExactWeightOf.as (a0_0 : Int) (a0_1 : List (List D)) (a0_2 : List (List D)) (a0_3 : List (List D)) (a1 : ByteArray) : List A := [.agg [.int .i64 a0_0, .sl a0_1, .sl a0_2, .sl a0_3], .d (.str a1)]
noncomputable def laws_FnExactWeightOf.kt {β : Type} (a0_0 : Int) (a0_1 : List (List D)) (a0_2 : List (List D)) (a0_3 : List (List D)) (a1 : ByteArray) (K0 : List (List C) → List Out → Option β) : Bool → Option β := fun z0 => K0 [[.d (.bool z0)]] []
noncomputable def laws_FnExactWeightOf.e (k : Nat) : Entry := { modes := [(.imm, 0), (.imm, 0)], rts := [4], al := false, run := fun {β} l K => match l with | [.agg [.int .i64 a0_0, .sl a0_1, .sl a0_2, .sl a0_3], .d (.str a1)] => laws_FnExactWeightOf.f k a0_0 a0_1 a0_2 a0_3 a1 (laws_FnExactWeightOf.kt a0_0 a0_1 a0_2 a0_3 a1 K) | _ => none }
noncomputable def laws_FnExactWeightOf.E (k : Nat) : Env := fun g => bif g == 20 then some (laws_szWant.e k) else bif g == 22 then some (laws_toWant.e k) else bif g == 21 then some (spec_WeightOf.e k) else bif g == 23 then some (impl_WeightOf.e k) else bif g == 24 then some (laws_eqWant.e k) else none
noncomputable def laws_FnExactWeightOf.h : Hints := ⟨fun n => ⟨[], []⟩, fun _ => none, false, []⟩
theorem laws_FnExactWeightOf.f_eq {β : Type} (k : Nat) (a0_0 : Int) (a0_1 : List (List D)) (a0_2 : List (List D)) (a0_3 : List (List D)) (a1 : ByteArray) (K0 : List (List C) → List Out → Option β) : funDen Try.prog (laws_FnExactWeightOf.E k) laws_FnExactWeightOf.h k Try.f4 (laws_FnExactWeightOf.as a0_0 a0_1 a0_2 a0_3 a1) K0 = laws_FnExactWeightOf.g k a0_0 a0_1 a0_2 a0_3 a1 (laws_FnExactWeightOf.kt a0_0 a0_1 a0_2 a0_3 a1 K0) := by kernel_rfl
noncomputable def laws_FnExactWeightOf.dec (rs : List (List C)) (os : List Out) : Option (Bool) := uncons rs fun c1 r2 => uncons c1 fun x3 l4 => cD x3 fun d5 => dBool d5 fun w0 => atEnd l4 <| atEnd r2 <| atEnd os (some w0)
theorem laws_FnExactWeightOf.kt_dec (a0_0 : Int) (a0_1 : List (List D)) (a0_2 : List (List D)) (a0_3 : List (List D)) (a1 : ByteArray) : laws_FnExactWeightOf.kt a0_0 a0_1 a0_2 a0_3 a1 laws_FnExactWeightOf.dec = (fun z0 => some z0) := by kernel_rfl
theorem laws_FnExactWeightOf.inj (a0_0 : Int) (a0_1 : List (List D)) (a0_2 : List (List D)) (a0_3 : List (List D)) (a1 : ByteArray) {rs : List (List C)} {os : List Out} {z0 : Bool} (h : laws_FnExactWeightOf.dec rs os = some z0) (ho : OutShape (laws_FnExactWeightOf.as a0_0 a0_1 a0_2 a0_3 a1) os) : rs = [[.d (.bool z0)]] ∧ os = [] := by
  unfold laws_FnExactWeightOf.dec at h
  obtain ⟨c1, r2, rfl, h1⟩ := uncons_some h
  obtain ⟨x3, l4, rfl, h2⟩ := uncons_some h1
  obtain ⟨d5, rfl, h3⟩ := cD_some h2
  obtain ⟨w0, rfl, h4⟩ := dBool_some h3
  obtain ⟨rfl, h5⟩ := atEnd_some h4
  obtain ⟨rfl, h6⟩ := atEnd_some h5
  obtain ⟨rfl, h7⟩ := atEnd_some h6
  obtain rfl := Option.some.inj h7
  exact ⟨rfl, rfl⟩
theorem laws_FnExactWeightOf.ok (k : Nat) : EntryOK Try.prog 4 (laws_FnExactWeightOf.e k) := by
  refine entry_of mix tyok (fn := Try.f4) (c := codeOf Try.f4) Try.func4 (by kernel_rfl) (h := laws_FnExactWeightOf.h) (k := k) (E := laws_FnExactWeightOf.E k) (env_cons (laws_szWant.ok k) (env_cons (laws_toWant.ok k) (env_cons (spec_WeightOf.ok k) (env_cons (impl_WeightOf.ok k) (env_cons (laws_eqWant.ok k) env_nil))))) (by kernel_rfl) (by kernel_rfl) rfl (enter_of Try.func4 (by kernel_rfl)) ?_
  intro β l K r hr
  simp only [laws_FnExactWeightOf.e] at hr
  split at hr
  case h_2 => cases hr
  unfold laws_FnExactWeightOf.f at hr
  split at hr
  case h_2 => cases hr
  rename_i hz
  exact ⟨_, _, hr, _, laws_FnExactWeightOf.dec, _, (laws_FnExactWeightOf.f_eq k _ _ _ _ _ laws_FnExactWeightOf.dec).trans (by rw [laws_FnExactWeightOf.kt_dec]; exact hz), fun rs os h ho => laws_FnExactWeightOf.inj _ _ _ _ _ h ho⟩
end Go.Proofs.Ytnlhhhkeigjnoaa
