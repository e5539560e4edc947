/- Printed: the functions that FnExactIslandOk reaches, read by the evaluator, each with its contract. -/
import Derived.Test.YtnlhhhkeigjnoaaTTerm
import Derived.Test.YtnlhhhkeigjnoaaProg
import Derived.KernelRfl
set_option linter.unusedVariables false
set_option linter.unusedSimpArgs false
namespace Go.Proofs.Ytnlhhhkeigjnoaa
open Go Go.T Go.Proofs
theorem mix : Try.prog.follows .mixedOrders = true := by kernel_rfl
theorem tyok : TyOk Try.prog := tyOk_of (by kernel_rfl)
/-! ### loop.example/g00119/laws.szLabel: function 135 -/
noncomputable def laws_szLabel.g {β : Type} (k : Nat) (a0_0 : ByteArray) (a0_1 : ByteArray) (a1 : Int) (K : Int → Option β) : Option β :=
  bif (decide (((IntKind.wrap .i64 (a1 - (a0_0.size : Int))) : Int) < 0)) then (K (-1)) else (bif (decide (((IntKind.wrap .i64 ((IntKind.wrap .i64 (a1 - (a0_0.size : Int))) - (a0_1.size : Int))) : Int) < 0)) then (K (-1)) else (K (IntKind.wrap .i64 ((IntKind.wrap .i64 (a1 - (a0_0.size : Int))) - (a0_1.size : Int)))))
noncomputable def laws_szLabel.t (k : Nat) (a0_0 : ByteArray) (a0_1 : ByteArray) (a1 : Int) : Option (Int) := laws_szLabel.g k a0_0 a0_1 a1 (fun z0 => some z0)
noncomputable def laws_szLabel.f {β : Type} (k : Nat) (a0_0 : ByteArray) (a0_1 : ByteArray) (a1 : Int) (K : Int → Option β) : Option β :=
  match laws_szLabel.t k a0_0 a0_1 a1 with
  | some z0 => K z0
  | none => none
noncomputable def laws_szLabel.as (a0_0 : ByteArray) (a0_1 : ByteArray) (a1 : Int) : List A := [.agg [.str a0_0, .str a0_1], .d (.int .i64 a1)]
noncomputable def laws_szLabel.kt {β : Type} (a0_0 : ByteArray) (a0_1 : ByteArray) (a1 : Int) (K0 : List (List C) → List Out → Option β) : Int → Option β := fun z0 => K0 [[.d (.int .i64 z0)]] []
noncomputable def laws_szLabel.e (k : Nat) : Entry := { modes := [(.imm, 0), (.imm, 0)], rts := [3], al := false, run := fun {β} l K => match l with | [.agg [.str a0_0, .str a0_1], .d (.int .i64 a1)] => laws_szLabel.f k a0_0 a0_1 a1 (laws_szLabel.kt a0_0 a0_1 a1 K) | _ => none }
noncomputable def laws_szLabel.E (k : Nat) : Env := fun g => none
noncomputable def laws_szLabel.h : Hints := ⟨fun n => ⟨[], []⟩, fun _ => none, false, []⟩
theorem laws_szLabel.f_eq {β : Type} (k : Nat) (a0_0 : ByteArray) (a0_1 : ByteArray) (a1 : Int) (K0 : List (List C) → List Out → Option β) : funDen Try.prog (laws_szLabel.E k) laws_szLabel.h k Try.f135 (laws_szLabel.as a0_0 a0_1 a1) K0 = laws_szLabel.g k a0_0 a0_1 a1 (laws_szLabel.kt a0_0 a0_1 a1 K0) := by kernel_rfl
noncomputable def laws_szLabel.dec (rs : List (List C)) (os : List Out) : Option (Int) := uncons rs fun c1 r2 => uncons c1 fun x3 l4 => cD x3 fun d5 => dInt .i64 d5 fun w0 => atEnd l4 <| atEnd r2 <| atEnd os (some w0)
theorem laws_szLabel.kt_dec (a0_0 : ByteArray) (a0_1 : ByteArray) (a1 : Int) : laws_szLabel.kt a0_0 a0_1 a1 laws_szLabel.dec = (fun z0 => some z0) := by kernel_rfl
theorem laws_szLabel.inj (a0_0 : ByteArray) (a0_1 : ByteArray) (a1 : Int) {rs : List (List C)} {os : List Out} {z0 : Int} (h : laws_szLabel.dec rs os = some z0) (ho : OutShape (laws_szLabel.as a0_0 a0_1 a1) os) : rs = [[.d (.int .i64 z0)]] ∧ os = [] := by
  unfold laws_szLabel.dec at h
  obtain ⟨c1, r2, rfl, h1⟩ := uncons_some h
  obtain ⟨x3, l4, rfl, h2⟩ := uncons_some h1
  obtain ⟨d5, rfl, h3⟩ := cD_some h2
  obtain ⟨w0, rfl, h4⟩ := dInt_some h3
  obtain ⟨rfl, h5⟩ := atEnd_some h4
  obtain ⟨rfl, h6⟩ := atEnd_some h5
  obtain ⟨rfl, h7⟩ := atEnd_some h6
  obtain rfl := Option.some.inj h7
  exact ⟨rfl, rfl⟩
theorem laws_szLabel.ok (k : Nat) : EntryOK Try.prog 135 (laws_szLabel.e k) := by
  refine entry_of mix tyok (fn := Try.f135) (c := codeOf Try.f135) Try.func135 (by kernel_rfl) (h := laws_szLabel.h) (k := k) (E := laws_szLabel.E k) env_nil (by kernel_rfl) (by kernel_rfl) rfl (enter_of Try.func135 (by kernel_rfl)) ?_
  intro β l K r hr
  simp only [laws_szLabel.e] at hr
  split at hr
  case h_2 => cases hr
  unfold laws_szLabel.f at hr
  split at hr
  case h_2 => cases hr
  rename_i hz
  exact ⟨_, _, hr, _, laws_szLabel.dec, _, (laws_szLabel.f_eq k _ _ _ laws_szLabel.dec).trans (by rw [laws_szLabel.kt_dec]; exact hz), fun rs os h ho => laws_szLabel.inj _ _ _ h ho⟩
/-! ### loop.example/g00119/laws.szLabelS: function 64 -/
noncomputable def laws_szLabelS.l0 {β : Type} (k : Nat) (v0_0 : List (List D)) (K : Int → Option β) (L0 : (Int × Int) → Option β) (v : Int × Int) : Option β :=
  match v with
  | (v0_1, v0_2) => bif (decide ((v0_2 : Int) < (v0_0.length : Int))) then (atRow v0_0 v0_2 fun c2 => uncons c2 fun d3 r4 => dStr d3 fun x5 => uncons r4 fun d6 r7 => dStr d6 fun x8 => atEnd r7 (laws_szLabel.f k x5 x8 v0_1 (fun y9 => bif (decide ((y9 : Int) < 0)) then (K (-1)) else (L0 (y9, IntKind.wrap .i64 (v0_2 + 1)))))) else (K v0_1)
noncomputable def laws_szLabelS.g {β : Type} (k : Nat) (a0 : List (List D)) (a1 : Int) (K : Int → Option β) : Option β :=
  bif (decide (((IntKind.wrap .i64 (a1 - (a0.length : Int))) : Int) < 0)) then (K (-1)) else (iter (laws_szLabelS.l0 k a0 K) k (IntKind.wrap .i64 (a1 - (a0.length : Int)), 0))
noncomputable def laws_szLabelS.t (k : Nat) (a0 : List (List D)) (a1 : Int) : Option (Int) := laws_szLabelS.g k a0 a1 (fun z0 => some z0)
noncomputable def laws_szLabelS.f {β : Type} (k : Nat) (a0 : List (List D)) (a1 : Int) (K : Int → Option β) : Option β :=
  match laws_szLabelS.t k a0 a1 with
  | some z0 => K z0
  | none => none
noncomputable def laws_szLabelS.as (a0 : List (List D)) (a1 : Int) : List A := [.d (.sl a0), .d (.int .i64 a1)]
noncomputable def laws_szLabelS.kt {β : Type} (a0 : List (List D)) (a1 : Int) (K0 : List (List C) → List Out → Option β) : Int → Option β := fun z0 => K0 [[.d (.int .i64 z0)]] []
noncomputable def laws_szLabelS.e (k : Nat) : Entry := { modes := [(.imm, 0), (.imm, 0)], rts := [3], al := false, run := fun {β} l K => match l with | [.d (.sl a0), .d (.int .i64 a1)] => laws_szLabelS.f k a0 a1 (laws_szLabelS.kt a0 a1 K) | _ => none }
noncomputable def laws_szLabelS.E (k : Nat) : Env := fun g => bif g == 135 then some (laws_szLabel.e k) else none
noncomputable def laws_szLabelS.h : Hints := ⟨fun n => bif n == 5 then ⟨[(0, .asis), (1, .asis), (5, .asis)], []⟩ else ⟨[], []⟩, fun _ => none, false, []⟩
noncomputable def laws_szLabelS.s0 (v0_0 : List (List D)) (v : Int × Int) : St :=
  match v with
  | (v0_1, v0_2) => ⟨[.d false (.sl v0_0), .d true (.int .i64 v0_1), .any, .any, .any, .d true (.int .i64 v0_2), .any, .any, .any, .any, .any, .any, .any, .any, .any, .any, .any, .any, .any, .any, .any, .any, .any, .any, .any, .any, .any], []⟩
noncomputable def laws_szLabelS.b0 {β : Type} (k : Nat) : St → (Ex → St → Option β) → Option β := fun s K => den Try.prog (laws_szLabelS.E k) laws_szLabelS.h.H laws_szLabelS.h.J k (codeAt [1, 1, 1, 0, 1, 0, 0] (codeOf Try.f64)) s K
noncomputable def laws_szLabelS.c0 {β : Type} (k : Nat) (a0 : List (List D)) (a1 : Int) (K0 : List (List C) → List Out → Option β) : Ex → St → Option β := contAt Try.prog (laws_szLabelS.E k) laws_szLabelS.h k [1, 1, 1, 0, 1, 0] (codeOf Try.f64) (finDen Try.prog Try.f64 laws_szLabelS.h (laws_szLabelS.as a0 a1) K0)
theorem laws_szLabelS.l0_eq {β : Type} (k : Nat) (a0 : List (List D)) (a1 : Int) (K0 : List (List C) → List Out → Option β) (v0_0 : List (List D)) : ∀ (kk : Nat) (v : Int × Int), loopDen (laws_szLabelS.b0 k) (laws_szLabelS.h.H 5) kk (laws_szLabelS.s0 v0_0 v) (laws_szLabelS.c0 k a0 a1 K0) = iter (laws_szLabelS.l0 k v0_0 (laws_szLabelS.kt a0 a1 K0)) kk v :=
  loop_eq (laws_szLabelS.s0 v0_0) _ (fun L0 v => by obtain ⟨v0_1, v0_2⟩ := v; kernel_rfl)
noncomputable def laws_szLabelS.m {β : Type} (k : Nat) (a0 : List (List D)) (a1 : Int) (K0 : List (List C) → List Out → Option β) (F : ((List (List D)) → (Int × Int) → Option β)) : Option β :=
  bif (decide (((IntKind.wrap .i64 (a1 - (a0.length : Int))) : Int) < 0)) then ((laws_szLabelS.kt a0 a1 K0) (-1)) else ((F) a0 (IntKind.wrap .i64 (a1 - (a0.length : Int)), 0))
theorem laws_szLabelS.f_eq {β : Type} (k : Nat) (a0 : List (List D)) (a1 : Int) (K0 : List (List C) → List Out → Option β) : funDen Try.prog (laws_szLabelS.E k) laws_szLabelS.h k Try.f64 (laws_szLabelS.as a0 a1) K0 = laws_szLabelS.g k a0 a1 (laws_szLabelS.kt a0 a1 K0) := Eq.trans (b := (laws_szLabelS.m k a0 a1 K0) (fun (v0_0 : List (List D)) (v : Int × Int) => loopDen (laws_szLabelS.b0 k) (laws_szLabelS.h.H 5) k (laws_szLabelS.s0 v0_0 v) (laws_szLabelS.c0 k a0 a1 K0))) (by kernel_rfl) (Eq.trans (congrArg (laws_szLabelS.m k a0 a1 K0) (funext fun v0_0 => funext fun v => laws_szLabelS.l0_eq k a0 a1 K0 v0_0 k v)) (by kernel_rfl))
noncomputable def laws_szLabelS.dec (rs : List (List C)) (os : List Out) : Option (Int) := uncons rs fun c1 r2 => uncons c1 fun x3 l4 => cD x3 fun d5 => dInt .i64 d5 fun w0 => atEnd l4 <| atEnd r2 <| atEnd os (some w0)
theorem laws_szLabelS.kt_dec (a0 : List (List D)) (a1 : Int) : laws_szLabelS.kt a0 a1 laws_szLabelS.dec = (fun z0 => some z0) := by kernel_rfl
theorem laws_szLabelS.inj (a0 : List (List D)) (a1 : Int) {rs : List (List C)} {os : List Out} {z0 : Int} (h : laws_szLabelS.dec rs os = some z0) (ho : OutShape (laws_szLabelS.as a0 a1) os) : rs = [[.d (.int .i64 z0)]] ∧ os = [] := by
  unfold laws_szLabelS.dec at h
  obtain ⟨c1, r2, rfl, h1⟩ := uncons_some h
  obtain ⟨x3, l4, rfl, h2⟩ := uncons_some h1
  obtain ⟨d5, rfl, h3⟩ := cD_some h2
  obtain ⟨w0, rfl, h4⟩ := dInt_some h3
  obtain ⟨rfl, h5⟩ := atEnd_some h4
  obtain ⟨rfl, h6⟩ := atEnd_some h5
  obtain ⟨rfl, h7⟩ := atEnd_some h6
  obtain rfl := Option.some.inj h7
  exact ⟨rfl, rfl⟩
theorem laws_szLabelS.ok (k : Nat) : EntryOK Try.prog 64 (laws_szLabelS.e k) := by
  refine entry_of mix tyok (fn := Try.f64) (c := codeOf Try.f64) Try.func64 (by kernel_rfl) (h := laws_szLabelS.h) (k := k) (E := laws_szLabelS.E k) (env_cons (laws_szLabel.ok k) env_nil) (by kernel_rfl) (by kernel_rfl) rfl (enter_of Try.func64 (by kernel_rfl)) ?_
  intro β l K r hr
  simp only [laws_szLabelS.e] at hr
  split at hr
  case h_2 => cases hr
  unfold laws_szLabelS.f at hr
  split at hr
  case h_2 => cases hr
  rename_i hz
  exact ⟨_, _, hr, _, laws_szLabelS.dec, _, (laws_szLabelS.f_eq k _ _ laws_szLabelS.dec).trans (by rw [laws_szLabelS.kt_dec]; exact hz), fun rs os h ho => laws_szLabelS.inj _ _ h ho⟩
/-! ### loop.example/g00119/laws.szStringS: function 65 -/
noncomputable def laws_szStringS.l0 {β : Type} (k : Nat) (v0_0 : List (List D)) (K : Int → Option β) (L0 : (Int × Int) → Option β) (v : Int × Int) : Option β :=
  match v with
  | (v0_1, v0_2) => bif (decide ((v0_2 : Int) < (v0_0.length : Int))) then (atRow v0_0 v0_2 fun c5 => uncons c5 fun d6 r7 => dStr d6 fun x8 => atEnd r7 (bif (decide (((IntKind.wrap .i64 (v0_1 - (x8.size : Int))) : Int) < 0)) then (K (-1)) else (L0 (IntKind.wrap .i64 (v0_1 - (x8.size : Int)), IntKind.wrap .i64 (v0_2 + 1))))) else (K v0_1)
noncomputable def laws_szStringS.g {β : Type} (k : Nat) (a0 : List (List D)) (a1 : Int) (K : Int → Option β) : Option β :=
  bif (decide (((IntKind.wrap .i64 (a1 - (a0.length : Int))) : Int) < 0)) then (K (-1)) else (iter (laws_szStringS.l0 k a0 K) k (IntKind.wrap .i64 (a1 - (a0.length : Int)), 0))
noncomputable def laws_szStringS.t (k : Nat) (a0 : List (List D)) (a1 : Int) : Option (Int) := laws_szStringS.g k a0 a1 (fun z0 => some z0)
noncomputable def laws_szStringS.f {β : Type} (k : Nat) (a0 : List (List D)) (a1 : Int) (K : Int → Option β) : Option β :=
  match laws_szStringS.t k a0 a1 with
  | some z0 => K z0
  | none => none
noncomputable def laws_szStringS.as (a0 : List (List D)) (a1 : Int) : List A := [.d (.sl a0), .d (.int .i64 a1)]
noncomputable def laws_szStringS.kt {β : Type} (a0 : List (List D)) (a1 : Int) (K0 : List (List C) → List Out → Option β) : Int → Option β := fun z0 => K0 [[.d (.int .i64 z0)]] []
noncomputable def laws_szStringS.e (k : Nat) : Entry := { modes := [(.imm, 0), (.imm, 0)], rts := [3], al := false, run := fun {β} l K => match l with | [.d (.sl a0), .d (.int .i64 a1)] => laws_szStringS.f k a0 a1 (laws_szStringS.kt a0 a1 K) | _ => none }
noncomputable def laws_szStringS.E (k : Nat) : Env := fun g => none
noncomputable def laws_szStringS.h : Hints := ⟨fun n => bif n == 5 then ⟨[(0, .asis), (1, .asis), (5, .asis)], []⟩ else ⟨[], []⟩, fun _ => none, false, []⟩
noncomputable def laws_szStringS.s0 (v0_0 : List (List D)) (v : Int × Int) : St :=
  match v with
  | (v0_1, v0_2) => ⟨[.d false (.sl v0_0), .d true (.int .i64 v0_1), .any, .any, .any, .d true (.int .i64 v0_2), .any, .any, .any, .any, .any, .any, .any, .any, .any, .any, .any, .any, .any, .any, .any, .any, .any, .any, .any, .any, .any, .any], []⟩
noncomputable def laws_szStringS.b0 {β : Type} (k : Nat) : St → (Ex → St → Option β) → Option β := fun s K => den Try.prog (laws_szStringS.E k) laws_szStringS.h.H laws_szStringS.h.J k (codeAt [1, 1, 1, 0, 1, 0, 0] (codeOf Try.f65)) s K
noncomputable def laws_szStringS.c0 {β : Type} (k : Nat) (a0 : List (List D)) (a1 : Int) (K0 : List (List C) → List Out → Option β) : Ex → St → Option β := contAt Try.prog (laws_szStringS.E k) laws_szStringS.h k [1, 1, 1, 0, 1, 0] (codeOf Try.f65) (finDen Try.prog Try.f65 laws_szStringS.h (laws_szStringS.as a0 a1) K0)
theorem laws_szStringS.l0_eq {β : Type} (k : Nat) (a0 : List (List D)) (a1 : Int) (K0 : List (List C) → List Out → Option β) (v0_0 : List (List D)) : ∀ (kk : Nat) (v : Int × Int), loopDen (laws_szStringS.b0 k) (laws_szStringS.h.H 5) kk (laws_szStringS.s0 v0_0 v) (laws_szStringS.c0 k a0 a1 K0) = iter (laws_szStringS.l0 k v0_0 (laws_szStringS.kt a0 a1 K0)) kk v :=
  loop_eq (laws_szStringS.s0 v0_0) _ (fun L0 v => by obtain ⟨v0_1, v0_2⟩ := v; kernel_rfl)
noncomputable def laws_szStringS.m {β : Type} (k : Nat) (a0 : List (List D)) (a1 : Int) (K0 : List (List C) → List Out → Option β) (F : ((List (List D)) → (Int × Int) → Option β)) : Option β :=
  bif (decide (((IntKind.wrap .i64 (a1 - (a0.length : Int))) : Int) < 0)) then ((laws_szStringS.kt a0 a1 K0) (-1)) else ((F) a0 (IntKind.wrap .i64 (a1 - (a0.length : Int)), 0))
theorem laws_szStringS.f_eq {β : Type} (k : Nat) (a0 : List (List D)) (a1 : Int) (K0 : List (List C) → List Out → Option β) : funDen Try.prog (laws_szStringS.E k) laws_szStringS.h k Try.f65 (laws_szStringS.as a0 a1) K0 = laws_szStringS.g k a0 a1 (laws_szStringS.kt a0 a1 K0) := Eq.trans (b := (laws_szStringS.m k a0 a1 K0) (fun (v0_0 : List (List D)) (v : Int × Int) => loopDen (laws_szStringS.b0 k) (laws_szStringS.h.H 5) k (laws_szStringS.s0 v0_0 v) (laws_szStringS.c0 k a0 a1 K0))) (by kernel_rfl) (Eq.trans (congrArg (laws_szStringS.m k a0 a1 K0) (funext fun v0_0 => funext fun v => laws_szStringS.l0_eq k a0 a1 K0 v0_0 k v)) (by kernel_rfl))
noncomputable def laws_szStringS.dec (rs : List (List C)) (os : List Out) : Option (Int) := uncons rs fun c1 r2 => uncons c1 fun x3 l4 => cD x3 fun d5 => dInt .i64 d5 fun w0 => atEnd l4 <| atEnd r2 <| atEnd os (some w0)
theorem laws_szStringS.kt_dec (a0 : List (List D)) (a1 : Int) : laws_szStringS.kt a0 a1 laws_szStringS.dec = (fun z0 => some z0) := by kernel_rfl
theorem laws_szStringS.inj (a0 : List (List D)) (a1 : Int) {rs : List (List C)} {os : List Out} {z0 : Int} (h : laws_szStringS.dec rs os = some z0) (ho : OutShape (laws_szStringS.as a0 a1) os) : rs = [[.d (.int .i64 z0)]] ∧ os = [] := by
  unfold laws_szStringS.dec at h
  obtain ⟨c1, r2, rfl, h1⟩ := uncons_some h
  obtain ⟨x3, l4, rfl, h2⟩ := uncons_some h1
  obtain ⟨d5, rfl, h3⟩ := cD_some h2
  obtain ⟨w0, rfl, h4⟩ := dInt_some h3
  obtain ⟨rfl, h5⟩ := atEnd_some h4
  obtain ⟨rfl, h6⟩ := atEnd_some h5
  obtain ⟨rfl, h7⟩ := atEnd_some h6
  obtain rfl := Option.some.inj h7
  exact ⟨rfl, rfl⟩
theorem laws_szStringS.ok (k : Nat) : EntryOK Try.prog 65 (laws_szStringS.e k) := by
  refine entry_of mix tyok (fn := Try.f65) (c := codeOf Try.f65) Try.func65 (by kernel_rfl) (h := laws_szStringS.h) (k := k) (E := laws_szStringS.E k) env_nil (by kernel_rfl) (by kernel_rfl) rfl (enter_of Try.func65 (by kernel_rfl)) ?_
  intro β l K r hr
  simp only [laws_szStringS.e] at hr
  split at hr
  case h_2 => cases hr
  unfold laws_szStringS.f at hr
  split at hr
  case h_2 => cases hr
  rename_i hz
  exact ⟨_, _, hr, _, laws_szStringS.dec, _, (laws_szStringS.f_eq k _ _ laws_szStringS.dec).trans (by rw [laws_szStringS.kt_dec]; exact hz), fun rs os h ho => laws_szStringS.inj _ _ h ho⟩
/-! ### loop.example/g00119/laws.szIsland: function 15 -/
noncomputable def laws_szIsland.g {β : Type} (k : Nat) (a0_0 : ByteArray) (a0_1 : List (List D)) (a0_2 : List (List D)) (a0_3 : Int) (a1 : Int) (K : Int → Option β) : Option β :=
  bif (decide (((IntKind.wrap .i64 (a1 - (a0_0.size : Int))) : Int) < 0)) then (K (-1)) else (laws_szLabelS.f k a0_1 (IntKind.wrap .i64 (a1 - (a0_0.size : Int))) (fun y10 => bif (decide ((y10 : Int) < 0)) then (K (-1)) else (laws_szStringS.f k a0_2 y10 (fun y9 => bif (decide ((y9 : Int) < 0)) then (K (-1)) else (K y9)))))
noncomputable def laws_szIsland.t (k : Nat) (a0_0 : ByteArray) (a0_1 : List (List D)) (a0_2 : List (List D)) (a0_3 : Int) (a1 : Int) : Option (Int) := laws_szIsland.g k a0_0 a0_1 a0_2 a0_3 a1 (fun z0 => some z0)
noncomputable def laws_szIsland.f {β : Type} (k : Nat) (a0_0 : ByteArray) (a0_1 : List (List D)) (a0_2 : List (List D)) (a0_3 : Int) (a1 : Int) (K : Int → Option β) : Option β :=
  match laws_szIsland.t k a0_0 a0_1 a0_2 a0_3 a1 with
  | some z0 => K z0
  | none => none
noncomputable def laws_szIsland.as (a0_0 : ByteArray) (a0_1 : List (List D)) (a0_2 : List (List D)) (a0_3 : Int) (a1 : Int) : List A := [.agg [.str a0_0, .sl a0_1, .sl a0_2, .int .i64 a0_3], .d (.int .i64 a1)]
noncomputable def laws_szIsland.kt {β : Type} (a0_0 : ByteArray) (a0_1 : List (List D)) (a0_2 : List (List D)) (a0_3 : Int) (a1 : Int) (K0 : List (List C) → List Out → Option β) : Int → Option β := fun z0 => K0 [[.d (.int .i64 z0)]] []
noncomputable def laws_szIsland.e (k : Nat) : Entry := { modes := [(.imm, 0), (.imm, 0)], rts := [3], al := false, run := fun {β} l K => match l with | [.agg [.str a0_0, .sl a0_1, .sl a0_2, .int .i64 a0_3], .d (.int .i64 a1)] => laws_szIsland.f k a0_0 a0_1 a0_2 a0_3 a1 (laws_szIsland.kt a0_0 a0_1 a0_2 a0_3 a1 K) | _ => none }
noncomputable def laws_szIsland.E (k : Nat) : Env := fun g => bif g == 64 then some (laws_szLabelS.e k) else bif g == 65 then some (laws_szStringS.e k) else none
noncomputable def laws_szIsland.h : Hints := ⟨fun n => ⟨[], []⟩, fun _ => none, false, []⟩
theorem laws_szIsland.f_eq {β : Type} (k : Nat) (a0_0 : ByteArray) (a0_1 : List (List D)) (a0_2 : List (List D)) (a0_3 : Int) (a1 : Int) (K0 : List (List C) → List Out → Option β) : funDen Try.prog (laws_szIsland.E k) laws_szIsland.h k Try.f15 (laws_szIsland.as a0_0 a0_1 a0_2 a0_3 a1) K0 = laws_szIsland.g k a0_0 a0_1 a0_2 a0_3 a1 (laws_szIsland.kt a0_0 a0_1 a0_2 a0_3 a1 K0) := by kernel_rfl
noncomputable def laws_szIsland.dec (rs : List (List C)) (os : List Out) : Option (Int) := uncons rs fun c1 r2 => uncons c1 fun x3 l4 => cD x3 fun d5 => dInt .i64 d5 fun w0 => atEnd l4 <| atEnd r2 <| atEnd os (some w0)
theorem laws_szIsland.kt_dec (a0_0 : ByteArray) (a0_1 : List (List D)) (a0_2 : List (List D)) (a0_3 : Int) (a1 : Int) : laws_szIsland.kt a0_0 a0_1 a0_2 a0_3 a1 laws_szIsland.dec = (fun z0 => some z0) := by kernel_rfl
theorem laws_szIsland.inj (a0_0 : ByteArray) (a0_1 : List (List D)) (a0_2 : List (List D)) (a0_3 : Int) (a1 : Int) {rs : List (List C)} {os : List Out} {z0 : Int} (h : laws_szIsland.dec rs os = some z0) (ho : OutShape (laws_szIsland.as a0_0 a0_1 a0_2 a0_3 a1) os) : rs = [[.d (.int .i64 z0)]] ∧ os = [] := by
  unfold laws_szIsland.dec at h
  obtain ⟨c1, r2, rfl, h1⟩ := uncons_some h
  obtain ⟨x3, l4, rfl, h2⟩ := uncons_some h1
  obtain ⟨d5, rfl, h3⟩ := cD_some h2
  obtain ⟨w0, rfl, h4⟩ := dInt_some h3
  obtain ⟨rfl, h5⟩ := atEnd_some h4
  obtain ⟨rfl, h6⟩ := atEnd_some h5
  obtain ⟨rfl, h7⟩ := atEnd_some h6
  obtain rfl := Option.some.inj h7
  exact ⟨rfl, rfl⟩
theorem laws_szIsland.ok (k : Nat) : EntryOK Try.prog 15 (laws_szIsland.e k) := by
  refine entry_of mix tyok (fn := Try.f15) (c := codeOf Try.f15) Try.func15 (by kernel_rfl) (h := laws_szIsland.h) (k := k) (E := laws_szIsland.E k) (env_cons (laws_szLabelS.ok k) (env_cons (laws_szStringS.ok k) env_nil)) (by kernel_rfl) (by kernel_rfl) rfl (enter_of Try.func15 (by kernel_rfl)) ?_
  intro β l K r hr
  simp only [laws_szIsland.e] at hr
  split at hr
  case h_2 => cases hr
  unfold laws_szIsland.f at hr
  split at hr
  case h_2 => cases hr
  rename_i hz
  exact ⟨_, _, hr, _, laws_szIsland.dec, _, (laws_szIsland.f_eq k _ _ _ _ _ laws_szIsland.dec).trans (by rw [laws_szIsland.kt_dec]; exact hz), fun rs os h ho => laws_szIsland.inj _ _ _ _ _ h ho⟩
/-! ### loop.example/g00119/laws.toLabel: function 136 -/
noncomputable def laws_toLabel.g {β : Type} (k : Nat) (a0_0 : ByteArray) (a0_1 : ByteArray) (K : ByteArray → ByteArray → Option β) : Option β :=
  K a0_0 a0_1
noncomputable def laws_toLabel.t (k : Nat) (a0_0 : ByteArray) (a0_1 : ByteArray) : Option (ByteArray × ByteArray) := laws_toLabel.g k a0_0 a0_1 (fun z0 z1 => some (z0, z1))
noncomputable def laws_toLabel.f {β : Type} (k : Nat) (a0_0 : ByteArray) (a0_1 : ByteArray) (K : ByteArray → ByteArray → Option β) : Option β :=
  match laws_toLabel.t k a0_0 a0_1 with
  | some (z0, z1) => K z0 z1
  | none => none
noncomputable def laws_toLabel.as (a0_0 : ByteArray) (a0_1 : ByteArray) : List A := [.agg [.str a0_0, .str a0_1]]
noncomputable def laws_toLabel.kt {β : Type} (a0_0 : ByteArray) (a0_1 : ByteArray) (K0 : List (List C) → List Out → Option β) : ByteArray → ByteArray → Option β := fun z0 z1 => K0 [[.d (.str z0), .d (.str z1)]] []
noncomputable def laws_toLabel.e (k : Nat) : Entry := { modes := [(.imm, 0)], rts := [186], al := false, run := fun {β} l K => match l with | [.agg [.str a0_0, .str a0_1]] => laws_toLabel.f k a0_0 a0_1 (laws_toLabel.kt a0_0 a0_1 K) | _ => none }
noncomputable def laws_toLabel.E (k : Nat) : Env := fun g => none
noncomputable def laws_toLabel.h : Hints := ⟨fun n => ⟨[], []⟩, fun _ => none, false, []⟩
theorem laws_toLabel.f_eq {β : Type} (k : Nat) (a0_0 : ByteArray) (a0_1 : ByteArray) (K0 : List (List C) → List Out → Option β) : funDen Try.prog (laws_toLabel.E k) laws_toLabel.h k Try.f136 (laws_toLabel.as a0_0 a0_1) K0 = laws_toLabel.g k a0_0 a0_1 (laws_toLabel.kt a0_0 a0_1 K0) := by kernel_rfl
noncomputable def laws_toLabel.dec (rs : List (List C)) (os : List Out) : Option (ByteArray × ByteArray) := uncons rs fun c1 r2 => uncons c1 fun x3 l4 => cD x3 fun d5 => dStr d5 fun w0 => uncons l4 fun x6 l7 => cD x6 fun d8 => dStr d8 fun w1 => atEnd l7 <| atEnd r2 <| atEnd os (some (w0, w1))
theorem laws_toLabel.kt_dec (a0_0 : ByteArray) (a0_1 : ByteArray) : laws_toLabel.kt a0_0 a0_1 laws_toLabel.dec = (fun z0 z1 => some (z0, z1)) := by kernel_rfl
theorem laws_toLabel.inj (a0_0 : ByteArray) (a0_1 : ByteArray) {rs : List (List C)} {os : List Out} {z0 : ByteArray} {z1 : ByteArray} (h : laws_toLabel.dec rs os = some (z0, z1)) (ho : OutShape (laws_toLabel.as a0_0 a0_1) os) : rs = [[.d (.str z0), .d (.str z1)]] ∧ os = [] := by
  unfold laws_toLabel.dec at h
  obtain ⟨c1, r2, rfl, h1⟩ := uncons_some h
  obtain ⟨x3, l4, rfl, h2⟩ := uncons_some h1
  obtain ⟨d5, rfl, h3⟩ := cD_some h2
  obtain ⟨w0, rfl, h4⟩ := dStr_some h3
  obtain ⟨x6, l7, rfl, h5⟩ := uncons_some h4
  obtain ⟨d8, rfl, h6⟩ := cD_some h5
  obtain ⟨w1, rfl, h7⟩ := dStr_some h6
  obtain ⟨rfl, h8⟩ := atEnd_some h7
  obtain ⟨rfl, h9⟩ := atEnd_some h8
  obtain ⟨rfl, h10⟩ := atEnd_some h9
  simp only [Option.some.injEq, Prod.mk.injEq] at h10
  obtain ⟨rfl, rfl⟩ := h10
  exact ⟨rfl, rfl⟩
theorem laws_toLabel.ok (k : Nat) : EntryOK Try.prog 136 (laws_toLabel.e k) := by
  refine entry_of mix tyok (fn := Try.f136) (c := codeOf Try.f136) Try.func136 (by kernel_rfl) (h := laws_toLabel.h) (k := k) (E := laws_toLabel.E k) env_nil (by kernel_rfl) (by kernel_rfl) rfl (enter_of Try.func136 (by kernel_rfl)) ?_
  intro β l K r hr
  simp only [laws_toLabel.e] at hr
  split at hr
  case h_2 => cases hr
  unfold laws_toLabel.f at hr
  split at hr
  case h_2 => cases hr
  rename_i hz
  exact ⟨_, _, hr, _, laws_toLabel.dec, _, (laws_toLabel.f_eq k _ _ laws_toLabel.dec).trans (by rw [laws_toLabel.kt_dec]; exact hz), fun rs os h ho => laws_toLabel.inj _ _ h ho⟩
/-! ### loop.example/g00119/laws.toLabelS: function 70 -/
noncomputable def laws_toLabelS.l0 {β : Type} (k : Nat) (v0_0 : List (List D)) (K : (List (List C)) → Option β) (L0 : (Int × (List (List C))) → Option β) (v : Int × (List (List C))) : Option β :=
  match v with
  | (v0_1, v0_2) => bif (decide ((v0_1 : Int) < (v0_0.length : Int))) then (atRow v0_0 v0_1 fun c3 => uncons c3 fun d4 r5 => dStr d4 fun x6 => uncons r5 fun d7 r8 => dStr d7 fun x9 => atEnd r8 (laws_toLabel.f k x6 x9 (fun y10 y11 => guardP ((0 : Int) ≤ v0_1 ∧ v0_1 < (v0_2.length : Int)) (guardP (Int.toNat v0_1 < v0_2.length) (L0 (IntKind.wrap .i64 (v0_1 + 1), v0_2.modify (Int.toNat v0_1) fun c => splice c 0 [.d (.str y10), .d (.str y11)])))))) else (K v0_2)
noncomputable def laws_toLabelS.g {β : Type} (k : Nat) (a0 : List (List D)) (K : (List (List C)) → Option β) : Option β :=
  guardP ((0 : Int) ≤ (a0.length : Int) ∧ (a0.length : Int) ≤ (most : Int) ∧ (a0.length : Int) ≤ (a0.length : Int) ∧ (a0.length : Int) ≤ (a0.length : Int)) (iter (laws_toLabelS.l0 k a0 K) k (0, List.replicate (Int.toNat (a0.length : Int)) ([.d (.str (⟨#[]⟩ : ByteArray)), .d (.str (⟨#[]⟩ : ByteArray))] : List C)))
noncomputable def laws_toLabelS.t (k : Nat) (a0 : List (List D)) : Option ((List (List C))) := laws_toLabelS.g k a0 (fun z0 => some z0)
noncomputable def laws_toLabelS.f {β : Type} (k : Nat) (a0 : List (List D)) (K : (List (List C)) → Option β) : Option β :=
  match laws_toLabelS.t k a0 with
  | some z0 => K z0
  | none => none
noncomputable def laws_toLabelS.as (a0 : List (List D)) : List A := [.d (.sl a0)]
noncomputable def laws_toLabelS.kt {β : Type} (a0 : List (List D)) (K0 : List (List C) → List Out → Option β) : (List (List C)) → Option β := fun z0 => K0 [[.own z0]] []
noncomputable def laws_toLabelS.e (k : Nat) : Entry := { modes := [(.imm, 0)], rts := [28], al := false, run := fun {β} l K => match l with | [.d (.sl a0)] => laws_toLabelS.f k a0 (laws_toLabelS.kt a0 K) | _ => none }
noncomputable def laws_toLabelS.E (k : Nat) : Env := fun g => bif g == 136 then some (laws_toLabel.e k) else none
noncomputable def laws_toLabelS.h : Hints := ⟨fun n => bif n == 3 then ⟨[(0, .asis), (3, .asis), (4, .asis)], []⟩ else ⟨[], []⟩, fun _ => none, false, []⟩
noncomputable def laws_toLabelS.s0 (v0_0 : List (List D)) (v : Int × (List (List C))) : St :=
  match v with
  | (v0_1, v0_2) => ⟨[.d false (.sl v0_0), .any, .any, .row 0, .d true (.int .i64 v0_1), .any, .any, .any, .any, .any, .any, .any, .any, .any, .any, .any, .any, .any, .any, .any, .any, .any, .any], [.row none true 28 v0_2]⟩
noncomputable def laws_toLabelS.b0 {β : Type} (k : Nat) : St → (Ex → St → Option β) → Option β := fun s K => den Try.prog (laws_toLabelS.E k) laws_toLabelS.h.H laws_toLabelS.h.J k (codeAt [1, 1, 0, 1, 0, 0] (codeOf Try.f70)) s K
noncomputable def laws_toLabelS.c0 {β : Type} (k : Nat) (a0 : List (List D)) (K0 : List (List C) → List Out → Option β) : Ex → St → Option β := contAt Try.prog (laws_toLabelS.E k) laws_toLabelS.h k [1, 1, 0, 1, 0] (codeOf Try.f70) (finDen Try.prog Try.f70 laws_toLabelS.h (laws_toLabelS.as a0) K0)
theorem laws_toLabelS.l0_eq {β : Type} (k : Nat) (a0 : List (List D)) (K0 : List (List C) → List Out → Option β) (v0_0 : List (List D)) : ∀ (kk : Nat) (v : Int × (List (List C))), loopDen (laws_toLabelS.b0 k) (laws_toLabelS.h.H 3) kk (laws_toLabelS.s0 v0_0 v) (laws_toLabelS.c0 k a0 K0) = iter (laws_toLabelS.l0 k v0_0 (laws_toLabelS.kt a0 K0)) kk v :=
  loop_eq (laws_toLabelS.s0 v0_0) _ (fun L0 v => by obtain ⟨v0_1, v0_2⟩ := v; kernel_rfl)
noncomputable def laws_toLabelS.m {β : Type} (k : Nat) (a0 : List (List D)) (K0 : List (List C) → List Out → Option β) (F : ((List (List D)) → (Int × (List (List C))) → Option β)) : Option β :=
  guardP ((0 : Int) ≤ (a0.length : Int) ∧ (a0.length : Int) ≤ (most : Int) ∧ (a0.length : Int) ≤ (a0.length : Int) ∧ (a0.length : Int) ≤ (a0.length : Int)) ((F) a0 (0, List.replicate (Int.toNat (a0.length : Int)) ([.d (.str (⟨#[]⟩ : ByteArray)), .d (.str (⟨#[]⟩ : ByteArray))] : List C)))
theorem laws_toLabelS.f_eq {β : Type} (k : Nat) (a0 : List (List D)) (K0 : List (List C) → List Out → Option β) : funDen Try.prog (laws_toLabelS.E k) laws_toLabelS.h k Try.f70 (laws_toLabelS.as a0) K0 = laws_toLabelS.g k a0 (laws_toLabelS.kt a0 K0) := Eq.trans (b := (laws_toLabelS.m k a0 K0) (fun (v0_0 : List (List D)) (v : Int × (List (List C))) => loopDen (laws_toLabelS.b0 k) (laws_toLabelS.h.H 3) k (laws_toLabelS.s0 v0_0 v) (laws_toLabelS.c0 k a0 K0))) (by kernel_rfl) (Eq.trans (congrArg (laws_toLabelS.m k a0 K0) (funext fun v0_0 => funext fun v => laws_toLabelS.l0_eq k a0 K0 v0_0 k v)) (by kernel_rfl))
noncomputable def laws_toLabelS.dec (rs : List (List C)) (os : List Out) : Option ((List (List C))) := uncons rs fun c1 r2 => uncons c1 fun x3 l4 => cOwn x3 fun w0 => atEnd l4 <| atEnd r2 <| atEnd os (some w0)
theorem laws_toLabelS.kt_dec (a0 : List (List D)) : laws_toLabelS.kt a0 laws_toLabelS.dec = (fun z0 => some z0) := by kernel_rfl
theorem laws_toLabelS.inj (a0 : List (List D)) {rs : List (List C)} {os : List Out} {z0 : List (List C)} (h : laws_toLabelS.dec rs os = some z0) (ho : OutShape (laws_toLabelS.as a0) os) : rs = [[.own z0]] ∧ os = [] := by
  unfold laws_toLabelS.dec at h
  obtain ⟨c1, r2, rfl, h1⟩ := uncons_some h
  obtain ⟨x3, l4, rfl, h2⟩ := uncons_some h1
  obtain ⟨w0, rfl, h3⟩ := cOwn_some h2
  obtain ⟨rfl, h4⟩ := atEnd_some h3
  obtain ⟨rfl, h5⟩ := atEnd_some h4
  obtain ⟨rfl, h6⟩ := atEnd_some h5
  obtain rfl := Option.some.inj h6
  exact ⟨rfl, rfl⟩
theorem laws_toLabelS.ok (k : Nat) : EntryOK Try.prog 70 (laws_toLabelS.e k) := by
  refine entry_of mix tyok (fn := Try.f70) (c := codeOf Try.f70) Try.func70 (by kernel_rfl) (h := laws_toLabelS.h) (k := k) (E := laws_toLabelS.E k) (env_cons (laws_toLabel.ok k) env_nil) (by kernel_rfl) (by kernel_rfl) rfl (enter_of Try.func70 (by kernel_rfl)) ?_
  intro β l K r hr
  simp only [laws_toLabelS.e] at hr
  split at hr
  case h_2 => cases hr
  unfold laws_toLabelS.f at hr
  split at hr
  case h_2 => cases hr
  rename_i hz
  exact ⟨_, _, hr, _, laws_toLabelS.dec, _, (laws_toLabelS.f_eq k _ laws_toLabelS.dec).trans (by rw [laws_toLabelS.kt_dec]; exact hz), fun rs os h ho => laws_toLabelS.inj _ h ho⟩
/-! ### loop.example/g00119/laws.toStringS: function 71 -/
noncomputable def laws_toStringS.l0 {β : Type} (k : Nat) (v0_0 : List (List D)) (K : (List (List C)) → Option β) (L0 : (Int × (List (List C))) → Option β) (v : Int × (List (List C))) : Option β :=
  match v with
  | (v0_1, v0_2) => bif (decide ((v0_1 : Int) < (v0_0.length : Int))) then (atRow v0_0 v0_1 fun c5 => uncons c5 fun d6 r7 => dStr d6 fun x8 => atEnd r7 (guardP ((0 : Int) ≤ v0_1 ∧ v0_1 < (v0_2.length : Int)) (guardP (Int.toNat v0_1 < v0_2.length) (L0 (IntKind.wrap .i64 (v0_1 + 1), v0_2.modify (Int.toNat v0_1) fun c => splice c 0 [.d (.str x8)]))))) else (K v0_2)
noncomputable def laws_toStringS.g {β : Type} (k : Nat) (a0 : List (List D)) (K : (List (List C)) → Option β) : Option β :=
  guardP ((0 : Int) ≤ (a0.length : Int) ∧ (a0.length : Int) ≤ (most : Int) ∧ (a0.length : Int) ≤ (a0.length : Int) ∧ (a0.length : Int) ≤ (a0.length : Int)) (iter (laws_toStringS.l0 k a0 K) k (0, List.replicate (Int.toNat (a0.length : Int)) ([.d (.str (⟨#[]⟩ : ByteArray))] : List C)))
noncomputable def laws_toStringS.t (k : Nat) (a0 : List (List D)) : Option ((List (List C))) := laws_toStringS.g k a0 (fun z0 => some z0)
noncomputable def laws_toStringS.f {β : Type} (k : Nat) (a0 : List (List D)) (K : (List (List C)) → Option β) : Option β :=
  match laws_toStringS.t k a0 with
  | some z0 => K z0
  | none => none
noncomputable def laws_toStringS.as (a0 : List (List D)) : List A := [.d (.sl a0)]
noncomputable def laws_toStringS.kt {β : Type} (a0 : List (List D)) (K0 : List (List C) → List Out → Option β) : (List (List C)) → Option β := fun z0 => K0 [[.own z0]] []
noncomputable def laws_toStringS.e (k : Nat) : Entry := { modes := [(.imm, 0)], rts := [23], al := false, run := fun {β} l K => match l with | [.d (.sl a0)] => laws_toStringS.f k a0 (laws_toStringS.kt a0 K) | _ => none }
noncomputable def laws_toStringS.E (k : Nat) : Env := fun g => none
noncomputable def laws_toStringS.h : Hints := ⟨fun n => bif n == 3 then ⟨[(0, .asis), (3, .asis), (4, .asis)], []⟩ else ⟨[], []⟩, fun _ => none, false, []⟩
noncomputable def laws_toStringS.s0 (v0_0 : List (List D)) (v : Int × (List (List C))) : St :=
  match v with
  | (v0_1, v0_2) => ⟨[.d false (.sl v0_0), .any, .any, .row 0, .d true (.int .i64 v0_1), .any, .any, .any, .any, .any, .any, .any, .any, .any, .any, .any, .any, .any, .any, .any, .any, .any], [.row none true 23 v0_2]⟩
noncomputable def laws_toStringS.b0 {β : Type} (k : Nat) : St → (Ex → St → Option β) → Option β := fun s K => den Try.prog (laws_toStringS.E k) laws_toStringS.h.H laws_toStringS.h.J k (codeAt [1, 1, 0, 1, 0, 0] (codeOf Try.f71)) s K
noncomputable def laws_toStringS.c0 {β : Type} (k : Nat) (a0 : List (List D)) (K0 : List (List C) → List Out → Option β) : Ex → St → Option β := contAt Try.prog (laws_toStringS.E k) laws_toStringS.h k [1, 1, 0, 1, 0] (codeOf Try.f71) (finDen Try.prog Try.f71 laws_toStringS.h (laws_toStringS.as a0) K0)
theorem laws_toStringS.l0_eq {β : Type} (k : Nat) (a0 : List (List D)) (K0 : List (List C) → List Out → Option β) (v0_0 : List (List D)) : ∀ (kk : Nat) (v : Int × (List (List C))), loopDen (laws_toStringS.b0 k) (laws_toStringS.h.H 3) kk (laws_toStringS.s0 v0_0 v) (laws_toStringS.c0 k a0 K0) = iter (laws_toStringS.l0 k v0_0 (laws_toStringS.kt a0 K0)) kk v :=
  loop_eq (laws_toStringS.s0 v0_0) _ (fun L0 v => by obtain ⟨v0_1, v0_2⟩ := v; kernel_rfl)
noncomputable def laws_toStringS.m {β : Type} (k : Nat) (a0 : List (List D)) (K0 : List (List C) → List Out → Option β) (F : ((List (List D)) → (Int × (List (List C))) → Option β)) : Option β :=
  guardP ((0 : Int) ≤ (a0.length : Int) ∧ (a0.length : Int) ≤ (most : Int) ∧ (a0.length : Int) ≤ (a0.length : Int) ∧ (a0.length : Int) ≤ (a0.length : Int)) ((F) a0 (0, List.replicate (Int.toNat (a0.length : Int)) ([.d (.str (⟨#[]⟩ : ByteArray))] : List C)))
theorem laws_toStringS.f_eq {β : Type} (k : Nat) (a0 : List (List D)) (K0 : List (List C) → List Out → Option β) : funDen Try.prog (laws_toStringS.E k) laws_toStringS.h k Try.f71 (laws_toStringS.as a0) K0 = laws_toStringS.g k a0 (laws_toStringS.kt a0 K0) := Eq.trans (b := (laws_toStringS.m k a0 K0) (fun (v0_0 : List (List D)) (v : Int × (List (List C))) => loopDen (laws_toStringS.b0 k) (laws_toStringS.h.H 3) k (laws_toStringS.s0 v0_0 v) (laws_toStringS.c0 k a0 K0))) (by kernel_rfl) (Eq.trans (congrArg (laws_toStringS.m k a0 K0) (funext fun v0_0 => funext fun v => laws_toStringS.l0_eq k a0 K0 v0_0 k v)) (by kernel_rfl))
noncomputable def laws_toStringS.dec (rs : List (List C)) (os : List Out) : Option ((List (List C))) := uncons rs fun c1 r2 => uncons c1 fun x3 l4 => cOwn x3 fun w0 => atEnd l4 <| atEnd r2 <| atEnd os (some w0)
theorem laws_toStringS.kt_dec (a0 : List (List D)) : laws_toStringS.kt a0 laws_toStringS.dec = (fun z0 => some z0) := by kernel_rfl
theorem laws_toStringS.inj (a0 : List (List D)) {rs : List (List C)} {os : List Out} {z0 : List (List C)} (h : laws_toStringS.dec rs os = some z0) (ho : OutShape (laws_toStringS.as a0) os) : rs = [[.own z0]] ∧ os = [] := by
  unfold laws_toStringS.dec at h
  obtain ⟨c1, r2, rfl, h1⟩ := uncons_some h
  obtain ⟨x3, l4, rfl, h2⟩ := uncons_some h1
  obtain ⟨w0, rfl, h3⟩ := cOwn_some h2
  obtain ⟨rfl, h4⟩ := atEnd_some h3
  obtain ⟨rfl, h5⟩ := atEnd_some h4
  obtain ⟨rfl, h6⟩ := atEnd_some h5
  obtain rfl := Option.some.inj h6
  exact ⟨rfl, rfl⟩
theorem laws_toStringS.ok (k : Nat) : EntryOK Try.prog 71 (laws_toStringS.e k) := by
  refine entry_of mix tyok (fn := Try.f71) (c := codeOf Try.f71) Try.func71 (by kernel_rfl) (h := laws_toStringS.h) (k := k) (E := laws_toStringS.E k) env_nil (by kernel_rfl) (by kernel_rfl) rfl (enter_of Try.func71 (by kernel_rfl)) ?_
  intro β l K r hr
  simp only [laws_toStringS.e] at hr
  split at hr
  case h_2 => cases hr
  unfold laws_toStringS.f at hr
  split at hr
  case h_2 => cases hr
  rename_i hz
  exact ⟨_, _, hr, _, laws_toStringS.dec, _, (laws_toStringS.f_eq k _ laws_toStringS.dec).trans (by rw [laws_toStringS.kt_dec]; exact hz), fun rs os h ho => laws_toStringS.inj _ h ho⟩
/-! ### loop.example/g00119/laws.toIsland: function 17 -/
noncomputable def laws_toIsland.g {β : Type} (k : Nat) (a0_0 : ByteArray) (a0_1 : List (List D)) (a0_2 : List (List D)) (a0_3 : Int) (K : ByteArray → (List (List C)) → (List (List C)) → Int → Option β) : Option β :=
  laws_toLabelS.f k a0_1 (fun y12 => laws_toStringS.f k a0_2 (fun y9 => K a0_0 y12 y9 a0_3))
noncomputable def laws_toIsland.t (k : Nat) (a0_0 : ByteArray) (a0_1 : List (List D)) (a0_2 : List (List D)) (a0_3 : Int) : Option (ByteArray × (List (List C)) × (List (List C)) × Int) := laws_toIsland.g k a0_0 a0_1 a0_2 a0_3 (fun z0 z1 z2 z3 => some (z0, z1, z2, z3))
noncomputable def laws_toIsland.f {β : Type} (k : Nat) (a0_0 : ByteArray) (a0_1 : List (List D)) (a0_2 : List (List D)) (a0_3 : Int) (K : ByteArray → (List (List C)) → (List (List C)) → Int → Option β) : Option β :=
  match laws_toIsland.t k a0_0 a0_1 a0_2 a0_3 with
  | some (z0, z1, z2, z3) => K z0 z1 z2 z3
  | none => none
noncomputable def laws_toIsland.as (a0_0 : ByteArray) (a0_1 : List (List D)) (a0_2 : List (List D)) (a0_3 : Int) : List A := [.agg [.str a0_0, .sl a0_1, .sl a0_2, .int .i64 a0_3]]
noncomputable def laws_toIsland.kt {β : Type} (a0_0 : ByteArray) (a0_1 : List (List D)) (a0_2 : List (List D)) (a0_3 : Int) (K0 : List (List C) → List Out → Option β) : ByteArray → (List (List C)) → (List (List C)) → Int → Option β := fun z0 z1 z2 z3 => K0 [[.d (.str z0), .own z1, .own z2, .d (.int .i64 z3)]] []
noncomputable def laws_toIsland.e (k : Nat) : Entry := { modes := [(.imm, 0)], rts := [30], al := false, run := fun {β} l K => match l with | [.agg [.str a0_0, .sl a0_1, .sl a0_2, .int .i64 a0_3]] => laws_toIsland.f k a0_0 a0_1 a0_2 a0_3 (laws_toIsland.kt a0_0 a0_1 a0_2 a0_3 K) | _ => none }
noncomputable def laws_toIsland.E (k : Nat) : Env := fun g => bif g == 70 then some (laws_toLabelS.e k) else bif g == 71 then some (laws_toStringS.e k) else none
noncomputable def laws_toIsland.h : Hints := ⟨fun n => ⟨[], []⟩, fun _ => none, false, []⟩
theorem laws_toIsland.f_eq {β : Type} (k : Nat) (a0_0 : ByteArray) (a0_1 : List (List D)) (a0_2 : List (List D)) (a0_3 : Int) (K0 : List (List C) → List Out → Option β) : funDen Try.prog (laws_toIsland.E k) laws_toIsland.h k Try.f17 (laws_toIsland.as a0_0 a0_1 a0_2 a0_3) K0 = laws_toIsland.g k a0_0 a0_1 a0_2 a0_3 (laws_toIsland.kt a0_0 a0_1 a0_2 a0_3 K0) := by kernel_rfl
noncomputable def laws_toIsland.dec (rs : List (List C)) (os : List Out) : Option (ByteArray × (List (List C)) × (List (List C)) × Int) := uncons rs fun c1 r2 => uncons c1 fun x3 l4 => cD x3 fun d5 => dStr d5 fun w0 => uncons l4 fun x6 l7 => cOwn x6 fun w1 => uncons l7 fun x8 l9 => cOwn x8 fun w2 => uncons l9 fun x10 l11 => cD x10 fun d12 => dInt .i64 d12 fun w3 => atEnd l11 <| atEnd r2 <| atEnd os (some (w0, w1, w2, w3))
theorem laws_toIsland.kt_dec (a0_0 : ByteArray) (a0_1 : List (List D)) (a0_2 : List (List D)) (a0_3 : Int) : laws_toIsland.kt a0_0 a0_1 a0_2 a0_3 laws_toIsland.dec = (fun z0 z1 z2 z3 => some (z0, z1, z2, z3)) := by kernel_rfl
theorem laws_toIsland.inj (a0_0 : ByteArray) (a0_1 : List (List D)) (a0_2 : List (List D)) (a0_3 : Int) {rs : List (List C)} {os : List Out} {z0 : ByteArray} {z1 : List (List C)} {z2 : List (List C)} {z3 : Int} (h : laws_toIsland.dec rs os = some (z0, z1, z2, z3)) (ho : OutShape (laws_toIsland.as a0_0 a0_1 a0_2 a0_3) os) : rs = [[.d (.str z0), .own z1, .own z2, .d (.int .i64 z3)]] ∧ os = [] := by
  unfold laws_toIsland.dec at h
  obtain ⟨c1, r2, rfl, h1⟩ := uncons_some h
  obtain ⟨x3, l4, rfl, h2⟩ := uncons_some h1
  obtain ⟨d5, rfl, h3⟩ := cD_some h2
  obtain ⟨w0, rfl, h4⟩ := dStr_some h3
  obtain ⟨x6, l7, rfl, h5⟩ := uncons_some h4
  obtain ⟨w1, rfl, h6⟩ := cOwn_some h5
  obtain ⟨x8, l9, rfl, h7⟩ := uncons_some h6
  obtain ⟨w2, rfl, h8⟩ := cOwn_some h7
  obtain ⟨x10, l11, rfl, h9⟩ := uncons_some h8
  obtain ⟨d12, rfl, h10⟩ := cD_some h9
  obtain ⟨w3, rfl, h11⟩ := dInt_some h10
  obtain ⟨rfl, h12⟩ := atEnd_some h11
  obtain ⟨rfl, h13⟩ := atEnd_some h12
  obtain ⟨rfl, h14⟩ := atEnd_some h13
  simp only [Option.some.injEq, Prod.mk.injEq] at h14
  obtain ⟨rfl, rfl, rfl, rfl⟩ := h14
  exact ⟨rfl, rfl⟩
theorem laws_toIsland.ok (k : Nat) : EntryOK Try.prog 17 (laws_toIsland.e k) := by
  refine entry_of mix tyok (fn := Try.f17) (c := codeOf Try.f17) Try.func17 (by kernel_rfl) (h := laws_toIsland.h) (k := k) (E := laws_toIsland.E k) (env_cons (laws_toLabelS.ok k) (env_cons (laws_toStringS.ok k) env_nil)) (by kernel_rfl) (by kernel_rfl) rfl (enter_of Try.func17 (by kernel_rfl)) ?_
  intro β l K r hr
  simp only [laws_toIsland.e] at hr
  split at hr
  case h_2 => cases hr
  unfold laws_toIsland.f at hr
  split at hr
  case h_2 => cases hr
  rename_i hz
  exact ⟨_, _, hr, _, laws_toIsland.dec, _, (laws_toIsland.f_eq k _ _ _ _ laws_toIsland.dec).trans (by rw [laws_toIsland.kt_dec]; exact hz), fun rs os h ho => laws_toIsland.inj _ _ _ _ h ho⟩
/-! ### loop.example/g00119/spec.l1In: function 69 -/
noncomputable def spec_l1In.g {β : Type} (k : Nat) (a0 : Int) (a1 : Int) (a2 : Int) (K : Bool → Option β) : Option β :=
  bif (decide ((a0 : Int) ≥ a1)) then (K (decide ((a0 : Int) ≤ a2))) else (K false)
noncomputable def spec_l1In.t (k : Nat) (a0 : Int) (a1 : Int) (a2 : Int) : Option (Bool) := spec_l1In.g k a0 a1 a2 (fun z0 => some z0)
noncomputable def spec_l1In.f {β : Type} (k : Nat) (a0 : Int) (a1 : Int) (a2 : Int) (K : Bool → Option β) : Option β :=
  match spec_l1In.t k a0 a1 a2 with
  | some z0 => K z0
  | none => none
noncomputable def spec_l1In.as (a0 : Int) (a1 : Int) (a2 : Int) : List A := [.d (.int .i64 a0), .d (.int .i64 a1), .d (.int .i64 a2)]
noncomputable def spec_l1In.kt {β : Type} (a0 : Int) (a1 : Int) (a2 : Int) (K0 : List (List C) → List Out → Option β) : Bool → Option β := fun z0 => K0 [[.d (.bool z0)]] []
noncomputable def spec_l1In.e (k : Nat) : Entry := { modes := [(.imm, 0), (.imm, 0), (.imm, 0)], rts := [4], al := false, run := fun {β} l K => match l with | [.d (.int .i64 a0), .d (.int .i64 a1), .d (.int .i64 a2)] => spec_l1In.f k a0 a1 a2 (spec_l1In.kt a0 a1 a2 K) | _ => none }
noncomputable def spec_l1In.E (k : Nat) : Env := fun g => none
noncomputable def spec_l1In.h : Hints := ⟨fun n => ⟨[], []⟩, fun _ => none, false, []⟩
theorem spec_l1In.f_eq {β : Type} (k : Nat) (a0 : Int) (a1 : Int) (a2 : Int) (K0 : List (List C) → List Out → Option β) : funDen Try.prog (spec_l1In.E k) spec_l1In.h k Try.f69 (spec_l1In.as a0 a1 a2) K0 = spec_l1In.g k a0 a1 a2 (spec_l1In.kt a0 a1 a2 K0) := by kernel_rfl
noncomputable def spec_l1In.dec (rs : List (List C)) (os : List Out) : Option (Bool) := uncons rs fun c1 r2 => uncons c1 fun x3 l4 => cD x3 fun d5 => dBool d5 fun w0 => atEnd l4 <| atEnd r2 <| atEnd os (some w0)
theorem spec_l1In.kt_dec (a0 : Int) (a1 : Int) (a2 : Int) : spec_l1In.kt a0 a1 a2 spec_l1In.dec = (fun z0 => some z0) := by kernel_rfl
theorem spec_l1In.inj (a0 : Int) (a1 : Int) (a2 : Int) {rs : List (List C)} {os : List Out} {z0 : Bool} (h : spec_l1In.dec rs os = some z0) (ho : OutShape (spec_l1In.as a0 a1 a2) os) : rs = [[.d (.bool z0)]] ∧ os = [] := by
  unfold spec_l1In.dec at h
  obtain ⟨c1, r2, rfl, h1⟩ := uncons_some h
  obtain ⟨x3, l4, rfl, h2⟩ := uncons_some h1
  obtain ⟨d5, rfl, h3⟩ := cD_some h2
  obtain ⟨w0, rfl, h4⟩ := dBool_some h3
  obtain ⟨rfl, h5⟩ := atEnd_some h4
  obtain ⟨rfl, h6⟩ := atEnd_some h5
  obtain ⟨rfl, h7⟩ := atEnd_some h6
  obtain rfl := Option.some.inj h7
  exact ⟨rfl, rfl⟩
theorem spec_l1In.ok (k : Nat) : EntryOK Try.prog 69 (spec_l1In.e k) := by
  refine entry_of mix tyok (fn := Try.f69) (c := codeOf Try.f69) Try.func69 (by kernel_rfl) (h := spec_l1In.h) (k := k) (E := spec_l1In.E k) env_nil (by kernel_rfl) (by kernel_rfl) rfl (enter_of Try.func69 (by kernel_rfl)) ?_
  intro β l K r hr
  simp only [spec_l1In.e] at hr
  split at hr
  case h_2 => cases hr
  unfold spec_l1In.f at hr
  split at hr
  case h_2 => cases hr
  rename_i hz
  exact ⟨_, _, hr, _, spec_l1In.dec, _, (spec_l1In.f_eq k _ _ _ spec_l1In.dec).trans (by rw [spec_l1In.kt_dec]; exact hz), fun rs os h ho => spec_l1In.inj _ _ _ h ho⟩
/-! ### loop.example/g00119/spec.NameOk: function 66 -/
noncomputable def spec_NameOk.l0 {β : Type} (k : Nat) (v0_0 : ByteArray) (K : Bool → Option β) (L0 : Int → Option β) (v : Int) : Option β :=
  match v with
  | v0_1 => bif (decide ((v0_1 : Int) < (v0_0.size : Int))) then (atStr v0_0 v0_1 fun b8 => spec_l1In.f k (IntKind.wrap .i64 b8) 97 122 (fun y9 => bif (!y9) then (atStr v0_0 v0_1 fun b10 => spec_l1In.f k (IntKind.wrap .i64 b10) 48 57 (fun y11 => bif (!y11) then (atStr v0_0 v0_1 fun b12 => bif ((b12 : Int) != 45) then (K false) else (L0 (IntKind.wrap .i64 (v0_1 + 1)))) else (L0 (IntKind.wrap .i64 (v0_1 + 1))))) else (L0 (IntKind.wrap .i64 (v0_1 + 1))))) else (spec_l1In.f k (v0_0.size : Int) 1 20 (fun y13 => bif y13 then (atStr v0_0 0 fun b14 => bif ((b14 : Int) != 45) then (atStr v0_0 (IntKind.wrap .i64 ((v0_0.size : Int) - 1)) fun b15 => K ((b15 : Int) != 45)) else (K false)) else (K false)))
noncomputable def spec_NameOk.g {β : Type} (k : Nat) (a0 : ByteArray) (K : Bool → Option β) : Option β :=
  iter (spec_NameOk.l0 k a0 K) k (0)
noncomputable def spec_NameOk.t (k : Nat) (a0 : ByteArray) : Option (Bool) := spec_NameOk.g k a0 (fun z0 => some z0)
noncomputable def spec_NameOk.f {β : Type} (k : Nat) (a0 : ByteArray) (K : Bool → Option β) : Option β :=
  match spec_NameOk.t k a0 with
  | some z0 => K z0
  | none => none
noncomputable def spec_NameOk.as (a0 : ByteArray) : List A := [.d (.str a0)]
noncomputable def spec_NameOk.kt {β : Type} (a0 : ByteArray) (K0 : List (List C) → List Out → Option β) : Bool → Option β := fun z0 => K0 [[.d (.bool z0)]] []
noncomputable def spec_NameOk.e (k : Nat) : Entry := { modes := [(.imm, 0)], rts := [4], al := false, run := fun {β} l K => match l with | [.d (.str a0)] => spec_NameOk.f k a0 (spec_NameOk.kt a0 K) | _ => none }
noncomputable def spec_NameOk.E (k : Nat) : Env := fun g => bif g == 69 then some (spec_l1In.e k) else none
noncomputable def spec_NameOk.h : Hints := ⟨fun n => bif n == 2 then ⟨[(0, .asis), (3, .asis)], []⟩ else ⟨[], []⟩, fun _ => none, false, []⟩
noncomputable def spec_NameOk.s0 (v0_0 : ByteArray) (v : Int) : St :=
  match v with
  | v0_1 => ⟨[.d false (.str v0_0), .any, .any, .d true (.int .i64 v0_1), .any, .any, .any, .any, .any, .any, .any, .any, .any, .any, .any, .any, .any, .any, .any, .any, .any, .any, .any, .any, .any, .any, .any, .any, .any, .any, .any, .any, .any, .any, .any, .any, .any, .any, .any, .any, .any, .any, .any, .any, .any, .any], []⟩
noncomputable def spec_NameOk.b0 {β : Type} (k : Nat) : St → (Ex → St → Option β) → Option β := fun s K => den Try.prog (spec_NameOk.E k) spec_NameOk.h.H spec_NameOk.h.J k (codeAt [1, 0, 1, 0, 0] (codeOf Try.f66)) s K
noncomputable def spec_NameOk.c0 {β : Type} (k : Nat) (a0 : ByteArray) (K0 : List (List C) → List Out → Option β) : Ex → St → Option β := contAt Try.prog (spec_NameOk.E k) spec_NameOk.h k [1, 0, 1, 0] (codeOf Try.f66) (finDen Try.prog Try.f66 spec_NameOk.h (spec_NameOk.as a0) K0)
theorem spec_NameOk.l0_eq {β : Type} (k : Nat) (a0 : ByteArray) (K0 : List (List C) → List Out → Option β) (v0_0 : ByteArray) : ∀ (kk : Nat) (v : Int), loopDen (spec_NameOk.b0 k) (spec_NameOk.h.H 2) kk (spec_NameOk.s0 v0_0 v) (spec_NameOk.c0 k a0 K0) = iter (spec_NameOk.l0 k v0_0 (spec_NameOk.kt a0 K0)) kk v :=
  loop_eq (spec_NameOk.s0 v0_0) _ (fun L0 v => by kernel_rfl)
noncomputable def spec_NameOk.m {β : Type} (k : Nat) (a0 : ByteArray) (K0 : List (List C) → List Out → Option β) (F : (ByteArray → Int → Option β)) : Option β :=
  (F) a0 (0)
theorem spec_NameOk.f_eq {β : Type} (k : Nat) (a0 : ByteArray) (K0 : List (List C) → List Out → Option β) : funDen Try.prog (spec_NameOk.E k) spec_NameOk.h k Try.f66 (spec_NameOk.as a0) K0 = spec_NameOk.g k a0 (spec_NameOk.kt a0 K0) := Eq.trans (b := (spec_NameOk.m k a0 K0) (fun (v0_0 : ByteArray) (v : Int) => loopDen (spec_NameOk.b0 k) (spec_NameOk.h.H 2) k (spec_NameOk.s0 v0_0 v) (spec_NameOk.c0 k a0 K0))) (by kernel_rfl) (Eq.trans (congrArg (spec_NameOk.m k a0 K0) (funext fun v0_0 => funext fun v => spec_NameOk.l0_eq k a0 K0 v0_0 k v)) (by kernel_rfl))
noncomputable def spec_NameOk.dec (rs : List (List C)) (os : List Out) : Option (Bool) := uncons rs fun c1 r2 => uncons c1 fun x3 l4 => cD x3 fun d5 => dBool d5 fun w0 => atEnd l4 <| atEnd r2 <| atEnd os (some w0)
theorem spec_NameOk.kt_dec (a0 : ByteArray) : spec_NameOk.kt a0 spec_NameOk.dec = (fun z0 => some z0) := by kernel_rfl
theorem spec_NameOk.inj (a0 : ByteArray) {rs : List (List C)} {os : List Out} {z0 : Bool} (h : spec_NameOk.dec rs os = some z0) (ho : OutShape (spec_NameOk.as a0) os) : rs = [[.d (.bool z0)]] ∧ os = [] := by
  unfold spec_NameOk.dec at h
  obtain ⟨c1, r2, rfl, h1⟩ := uncons_some h
  obtain ⟨x3, l4, rfl, h2⟩ := uncons_some h1
  obtain ⟨d5, rfl, h3⟩ := cD_some h2
  obtain ⟨w0, rfl, h4⟩ := dBool_some h3
  obtain ⟨rfl, h5⟩ := atEnd_some h4
  obtain ⟨rfl, h6⟩ := atEnd_some h5
  obtain ⟨rfl, h7⟩ := atEnd_some h6
  obtain rfl := Option.some.inj h7
  exact ⟨rfl, rfl⟩
theorem spec_NameOk.ok (k : Nat) : EntryOK Try.prog 66 (spec_NameOk.e k) := by
  refine entry_of mix tyok (fn := Try.f66) (c := codeOf Try.f66) Try.func66 (by kernel_rfl) (h := spec_NameOk.h) (k := k) (E := spec_NameOk.E k) (env_cons (spec_l1In.ok k) env_nil) (by kernel_rfl) (by kernel_rfl) rfl (enter_of Try.func66 (by kernel_rfl)) ?_
  intro β l K r hr
  simp only [spec_NameOk.e] at hr
  split at hr
  case h_2 => cases hr
  unfold spec_NameOk.f at hr
  split at hr
  case h_2 => cases hr
  rename_i hz
  exact ⟨_, _, hr, _, spec_NameOk.dec, _, (spec_NameOk.f_eq k _ spec_NameOk.dec).trans (by rw [spec_NameOk.kt_dec]; exact hz), fun rs os h ho => spec_NameOk.inj _ h ho⟩
/-! ### loop.example/g00119/spec.LabelsOk: function 67 -/
noncomputable def spec_LabelsOk.l0 {β : Type} (k : Nat) (v0_0 : List (List D)) (K : Bool → Option β) (L0 : Int → Option β) (v : Int) : Option β :=
  match v with
  | v0_1 => bif (decide ((v0_1 : Int) < (v0_0.length : Int))) then (atRow v0_0 v0_1 fun c31 => uncons c31 fun d32 r33 => dStr d32 fun x34 => uncons r33 fun d35 r36 => dStr d35 fun x37 => atEnd r36 (spec_NameOk.f k x34 (fun y38 => bif (!y38) then (K false) else (atRow v0_0 v0_1 fun c39 => uncons c39 fun d40 r41 => dStr d40 fun x42 => uncons r41 fun d43 r44 => dStr d43 fun x45 => atEnd r44 (spec_NameOk.f k x45 (fun y46 => bif (!y46) then (K false) else (bif (decide ((v0_1 : Int) > 0)) then (atRow v0_0 (IntKind.wrap .i64 (v0_1 - 1)) fun c47 => uncons c47 fun d48 r49 => dStr d48 fun x50 => uncons r49 fun d51 r52 => dStr d51 fun x53 => atEnd r52 (atRow v0_0 v0_1 fun c54 => uncons c54 fun d55 r56 => dStr d55 fun x57 => uncons r56 fun d58 r59 => dStr d58 fun x60 => atEnd r59 (bif (!(strLt x50 x57)) then (K false) else (L0 (IntKind.wrap .i64 (v0_1 + 1)))))) else (L0 (IntKind.wrap .i64 (v0_1 + 1)))))))))) else (K (decide (((v0_0.length : Int) : Int) ≤ 8)))
noncomputable def spec_LabelsOk.g {β : Type} (k : Nat) (a0 : List (List D)) (K : Bool → Option β) : Option β :=
  iter (spec_LabelsOk.l0 k a0 K) k (0)
noncomputable def spec_LabelsOk.t (k : Nat) (a0 : List (List D)) : Option (Bool) := spec_LabelsOk.g k a0 (fun z0 => some z0)
noncomputable def spec_LabelsOk.f {β : Type} (k : Nat) (a0 : List (List D)) (K : Bool → Option β) : Option β :=
  match spec_LabelsOk.t k a0 with
  | some z0 => K z0
  | none => none
noncomputable def spec_LabelsOk.as (a0 : List (List D)) : List A := [.d (.sl a0)]
noncomputable def spec_LabelsOk.kt {β : Type} (a0 : List (List D)) (K0 : List (List C) → List Out → Option β) : Bool → Option β := fun z0 => K0 [[.d (.bool z0)]] []
noncomputable def spec_LabelsOk.e (k : Nat) : Entry := { modes := [(.imm, 0)], rts := [4], al := false, run := fun {β} l K => match l with | [.d (.sl a0)] => spec_LabelsOk.f k a0 (spec_LabelsOk.kt a0 K) | _ => none }
noncomputable def spec_LabelsOk.E (k : Nat) : Env := fun g => bif g == 66 then some (spec_NameOk.e k) else none
noncomputable def spec_LabelsOk.h : Hints := ⟨fun n => bif n == 2 then ⟨[(0, .asis), (3, .asis)], []⟩ else ⟨[], []⟩, fun _ => none, false, []⟩
noncomputable def spec_LabelsOk.s0 (v0_0 : List (List D)) (v : Int) : St :=
  match v with
  | v0_1 => ⟨[.d false (.sl v0_0), .any, .any, .d true (.int .i64 v0_1), .any, .any, .any, .any, .any, .any, .any, .any, .any, .any, .any, .any, .any, .any, .any, .any, .any, .any, .any, .any, .any, .any, .any, .any, .any, .any, .any, .any, .any, .any, .any, .any, .any, .any, .any, .any, .any, .any, .any, .any, .any, .any, .any], []⟩
noncomputable def spec_LabelsOk.b0 {β : Type} (k : Nat) : St → (Ex → St → Option β) → Option β := fun s K => den Try.prog (spec_LabelsOk.E k) spec_LabelsOk.h.H spec_LabelsOk.h.J k (codeAt [1, 0, 1, 0, 0] (codeOf Try.f67)) s K
noncomputable def spec_LabelsOk.c0 {β : Type} (k : Nat) (a0 : List (List D)) (K0 : List (List C) → List Out → Option β) : Ex → St → Option β := contAt Try.prog (spec_LabelsOk.E k) spec_LabelsOk.h k [1, 0, 1, 0] (codeOf Try.f67) (finDen Try.prog Try.f67 spec_LabelsOk.h (spec_LabelsOk.as a0) K0)
theorem spec_LabelsOk.l0_eq {β : Type} (k : Nat) (a0 : List (List D)) (K0 : List (List C) → List Out → Option β) (v0_0 : List (List D)) : ∀ (kk : Nat) (v : Int), loopDen (spec_LabelsOk.b0 k) (spec_LabelsOk.h.H 2) kk (spec_LabelsOk.s0 v0_0 v) (spec_LabelsOk.c0 k a0 K0) = iter (spec_LabelsOk.l0 k v0_0 (spec_LabelsOk.kt a0 K0)) kk v :=
  loop_eq (spec_LabelsOk.s0 v0_0) _ (fun L0 v => by kernel_rfl)
noncomputable def spec_LabelsOk.m {β : Type} (k : Nat) (a0 : List (List D)) (K0 : List (List C) → List Out → Option β) (F : ((List (List D)) → Int → Option β)) : Option β :=
  (F) a0 (0)
theorem spec_LabelsOk.f_eq {β : Type} (k : Nat) (a0 : List (List D)) (K0 : List (List C) → List Out → Option β) : funDen Try.prog (spec_LabelsOk.E k) spec_LabelsOk.h k Try.f67 (spec_LabelsOk.as a0) K0 = spec_LabelsOk.g k a0 (spec_LabelsOk.kt a0 K0) := Eq.trans (b := (spec_LabelsOk.m k a0 K0) (fun (v0_0 : List (List D)) (v : Int) => loopDen (spec_LabelsOk.b0 k) (spec_LabelsOk.h.H 2) k (spec_LabelsOk.s0 v0_0 v) (spec_LabelsOk.c0 k a0 K0))) (by kernel_rfl) (Eq.trans (congrArg (spec_LabelsOk.m k a0 K0) (funext fun v0_0 => funext fun v => spec_LabelsOk.l0_eq k a0 K0 v0_0 k v)) (by kernel_rfl))
noncomputable def spec_LabelsOk.dec (rs : List (List C)) (os : List Out) : Option (Bool) := uncons rs fun c1 r2 => uncons c1 fun x3 l4 => cD x3 fun d5 => dBool d5 fun w0 => atEnd l4 <| atEnd r2 <| atEnd os (some w0)
theorem spec_LabelsOk.kt_dec (a0 : List (List D)) : spec_LabelsOk.kt a0 spec_LabelsOk.dec = (fun z0 => some z0) := by kernel_rfl
theorem spec_LabelsOk.inj (a0 : List (List D)) {rs : List (List C)} {os : List Out} {z0 : Bool} (h : spec_LabelsOk.dec rs os = some z0) (ho : OutShape (spec_LabelsOk.as a0) os) : rs = [[.d (.bool z0)]] ∧ os = [] := by
  unfold spec_LabelsOk.dec at h
  obtain ⟨c1, r2, rfl, h1⟩ := uncons_some h
  obtain ⟨x3, l4, rfl, h2⟩ := uncons_some h1
  obtain ⟨d5, rfl, h3⟩ := cD_some h2
  obtain ⟨w0, rfl, h4⟩ := dBool_some h3
  obtain ⟨rfl, h5⟩ := atEnd_some h4
  obtain ⟨rfl, h6⟩ := atEnd_some h5
  obtain ⟨rfl, h7⟩ := atEnd_some h6
  obtain rfl := Option.some.inj h7
  exact ⟨rfl, rfl⟩
theorem spec_LabelsOk.ok (k : Nat) : EntryOK Try.prog 67 (spec_LabelsOk.e k) := by
  refine entry_of mix tyok (fn := Try.f67) (c := codeOf Try.f67) Try.func67 (by kernel_rfl) (h := spec_LabelsOk.h) (k := k) (E := spec_LabelsOk.E k) (env_cons (spec_NameOk.ok k) env_nil) (by kernel_rfl) (by kernel_rfl) rfl (enter_of Try.func67 (by kernel_rfl)) ?_
  intro β l K r hr
  simp only [spec_LabelsOk.e] at hr
  split at hr
  case h_2 => cases hr
  unfold spec_LabelsOk.f at hr
  split at hr
  case h_2 => cases hr
  rename_i hz
  exact ⟨_, _, hr, _, spec_LabelsOk.dec, _, (spec_LabelsOk.f_eq k _ spec_LabelsOk.dec).trans (by rw [spec_LabelsOk.kt_dec]; exact hz), fun rs os h ho => spec_LabelsOk.inj _ h ho⟩
/-! ### loop.example/g00119/spec.l10Names: function 68 -/
noncomputable def spec_l10Names.l0 {β : Type} (k : Nat) (v0_0 : List (List D)) (v0_1 : Int) (K : Bool → Option β) (L0 : Int → Option β) (v : Int) : Option β :=
  match v with
  | v0_2 => bif (decide ((v0_2 : Int) < (v0_0.length : Int))) then (atRow v0_0 v0_2 fun c14 => uncons c14 fun d15 r16 => dStr d15 fun x17 => atEnd r16 (spec_NameOk.f k x17 (fun y18 => bif (!y18) then (K false) else (bif (decide ((v0_2 : Int) > 0)) then (atRow v0_0 (IntKind.wrap .i64 (v0_2 - 1)) fun c19 => uncons c19 fun d20 r21 => dStr d20 fun x22 => atEnd r21 (atRow v0_0 v0_2 fun c23 => uncons c23 fun d24 r25 => dStr d24 fun x26 => atEnd r25 (bif (!(strLt x22 x26)) then (K false) else (L0 (IntKind.wrap .i64 (v0_2 + 1)))))) else (L0 (IntKind.wrap .i64 (v0_2 + 1))))))) else (K (decide (((v0_0.length : Int) : Int) ≤ v0_1)))
noncomputable def spec_l10Names.g {β : Type} (k : Nat) (a0 : List (List D)) (a1 : Int) (K : Bool → Option β) : Option β :=
  iter (spec_l10Names.l0 k a0 a1 K) k (0)
noncomputable def spec_l10Names.t (k : Nat) (a0 : List (List D)) (a1 : Int) : Option (Bool) := spec_l10Names.g k a0 a1 (fun z0 => some z0)
noncomputable def spec_l10Names.f {β : Type} (k : Nat) (a0 : List (List D)) (a1 : Int) (K : Bool → Option β) : Option β :=
  match spec_l10Names.t k a0 a1 with
  | some z0 => K z0
  | none => none
noncomputable def spec_l10Names.as (a0 : List (List D)) (a1 : Int) : List A := [.d (.sl a0), .d (.int .i64 a1)]
noncomputable def spec_l10Names.kt {β : Type} (a0 : List (List D)) (a1 : Int) (K0 : List (List C) → List Out → Option β) : Bool → Option β := fun z0 => K0 [[.d (.bool z0)]] []
noncomputable def spec_l10Names.e (k : Nat) : Entry := { modes := [(.imm, 0), (.imm, 0)], rts := [4], al := false, run := fun {β} l K => match l with | [.d (.sl a0), .d (.int .i64 a1)] => spec_l10Names.f k a0 a1 (spec_l10Names.kt a0 a1 K) | _ => none }
noncomputable def spec_l10Names.E (k : Nat) : Env := fun g => bif g == 66 then some (spec_NameOk.e k) else none
noncomputable def spec_l10Names.h : Hints := ⟨fun n => bif n == 2 then ⟨[(0, .asis), (1, .asis), (5, .asis)], []⟩ else ⟨[], []⟩, fun _ => none, false, []⟩
noncomputable def spec_l10Names.s0 (v0_0 : List (List D)) (v0_1 : Int) (v : Int) : St :=
  match v with
  | v0_2 => ⟨[.d false (.sl v0_0), .d false (.int .i64 v0_1), .any, .any, .any, .d true (.int .i64 v0_2), .any, .any, .any, .any, .any, .any, .any, .any, .any, .any, .any, .any, .any, .any, .any, .any, .any, .any, .any, .any, .any, .any, .any, .any, .any, .any, .any, .any, .any, .any, .any, .any], []⟩
noncomputable def spec_l10Names.b0 {β : Type} (k : Nat) : St → (Ex → St → Option β) → Option β := fun s K => den Try.prog (spec_l10Names.E k) spec_l10Names.h.H spec_l10Names.h.J k (codeAt [1, 0, 1, 0, 0] (codeOf Try.f68)) s K
noncomputable def spec_l10Names.c0 {β : Type} (k : Nat) (a0 : List (List D)) (a1 : Int) (K0 : List (List C) → List Out → Option β) : Ex → St → Option β := contAt Try.prog (spec_l10Names.E k) spec_l10Names.h k [1, 0, 1, 0] (codeOf Try.f68) (finDen Try.prog Try.f68 spec_l10Names.h (spec_l10Names.as a0 a1) K0)
theorem spec_l10Names.l0_eq {β : Type} (k : Nat) (a0 : List (List D)) (a1 : Int) (K0 : List (List C) → List Out → Option β) (v0_0 : List (List D)) (v0_1 : Int) : ∀ (kk : Nat) (v : Int), loopDen (spec_l10Names.b0 k) (spec_l10Names.h.H 2) kk (spec_l10Names.s0 v0_0 v0_1 v) (spec_l10Names.c0 k a0 a1 K0) = iter (spec_l10Names.l0 k v0_0 v0_1 (spec_l10Names.kt a0 a1 K0)) kk v :=
  loop_eq (spec_l10Names.s0 v0_0 v0_1) _ (fun L0 v => by kernel_rfl)
noncomputable def spec_l10Names.m {β : Type} (k : Nat) (a0 : List (List D)) (a1 : Int) (K0 : List (List C) → List Out → Option β) (F : ((List (List D)) → Int → Int → Option β)) : Option β :=
  (F) a0 a1 (0)
theorem spec_l10Names.f_eq {β : Type} (k : Nat) (a0 : List (List D)) (a1 : Int) (K0 : List (List C) → List Out → Option β) : funDen Try.prog (spec_l10Names.E k) spec_l10Names.h k Try.f68 (spec_l10Names.as a0 a1) K0 = spec_l10Names.g k a0 a1 (spec_l10Names.kt a0 a1 K0) := Eq.trans (b := (spec_l10Names.m k a0 a1 K0) (fun (v0_0 : List (List D)) (v0_1 : Int) (v : Int) => loopDen (spec_l10Names.b0 k) (spec_l10Names.h.H 2) k (spec_l10Names.s0 v0_0 v0_1 v) (spec_l10Names.c0 k a0 a1 K0))) (by kernel_rfl) (Eq.trans (congrArg (spec_l10Names.m k a0 a1 K0) (funext fun v0_0 => funext fun v0_1 => funext fun v => spec_l10Names.l0_eq k a0 a1 K0 v0_0 v0_1 k v)) (by kernel_rfl))
noncomputable def spec_l10Names.dec (rs : List (List C)) (os : List Out) : Option (Bool) := uncons rs fun c1 r2 => uncons c1 fun x3 l4 => cD x3 fun d5 => dBool d5 fun w0 => atEnd l4 <| atEnd r2 <| atEnd os (some w0)
theorem spec_l10Names.kt_dec (a0 : List (List D)) (a1 : Int) : spec_l10Names.kt a0 a1 spec_l10Names.dec = (fun z0 => some z0) := by kernel_rfl
theorem spec_l10Names.inj (a0 : List (List D)) (a1 : Int) {rs : List (List C)} {os : List Out} {z0 : Bool} (h : spec_l10Names.dec rs os = some z0) (ho : OutShape (spec_l10Names.as a0 a1) os) : rs = [[.d (.bool z0)]] ∧ os = [] := by
  unfold spec_l10Names.dec at h
  obtain ⟨c1, r2, rfl, h1⟩ := uncons_some h
  obtain ⟨x3, l4, rfl, h2⟩ := uncons_some h1
  obtain ⟨d5, rfl, h3⟩ := cD_some h2
  obtain ⟨w0, rfl, h4⟩ := dBool_some h3
  obtain ⟨rfl, h5⟩ := atEnd_some h4
  obtain ⟨rfl, h6⟩ := atEnd_some h5
  obtain ⟨rfl, h7⟩ := atEnd_some h6
  obtain rfl := Option.some.inj h7
  exact ⟨rfl, rfl⟩
theorem spec_l10Names.ok (k : Nat) : EntryOK Try.prog 68 (spec_l10Names.e k) := by
  refine entry_of mix tyok (fn := Try.f68) (c := codeOf Try.f68) Try.func68 (by kernel_rfl) (h := spec_l10Names.h) (k := k) (E := spec_l10Names.E k) (env_cons (spec_NameOk.ok k) env_nil) (by kernel_rfl) (by kernel_rfl) rfl (enter_of Try.func68 (by kernel_rfl)) ?_
  intro β l K r hr
  simp only [spec_l10Names.e] at hr
  split at hr
  case h_2 => cases hr
  unfold spec_l10Names.f at hr
  split at hr
  case h_2 => cases hr
  rename_i hz
  exact ⟨_, _, hr, _, spec_l10Names.dec, _, (spec_l10Names.f_eq k _ _ spec_l10Names.dec).trans (by rw [spec_l10Names.kt_dec]; exact hz), fun rs os h ho => spec_l10Names.inj _ _ h ho⟩
/-! ### loop.example/g00119/spec.IslandOk: function 16 -/
noncomputable def spec_IslandOk.g {β : Type} (k : Nat) (a0_0 : ByteArray) (a0_1 : List (List D)) (a0_2 : List (List D)) (a0_3 : Int) (K : Bool → Option β) : Option β :=
  spec_NameOk.f k a0_0 (fun y16 => bif y16 then (spec_LabelsOk.f k a0_1 (fun y61 => bif y61 then (spec_l10Names.f k a0_2 4 (fun y27 => bif y27 then (spec_l1In.f k a0_3 0 10000 (fun y28 => K y28)) else (K false))) else (K false))) else (K false))
noncomputable def spec_IslandOk.t (k : Nat) (a0_0 : ByteArray) (a0_1 : List (List D)) (a0_2 : List (List D)) (a0_3 : Int) : Option (Bool) := spec_IslandOk.g k a0_0 a0_1 a0_2 a0_3 (fun z0 => some z0)
noncomputable def spec_IslandOk.f {β : Type} (k : Nat) (a0_0 : ByteArray) (a0_1 : List (List D)) (a0_2 : List (List D)) (a0_3 : Int) (K : Bool → Option β) : Option β :=
  match spec_IslandOk.t k a0_0 a0_1 a0_2 a0_3 with
  | some z0 => K z0
  | none => none
noncomputable def spec_IslandOk.as (a0_0 : ByteArray) (a0_1 : List (List D)) (a0_2 : List (List D)) (a0_3 : Int) : List A := [.agg [.str a0_0, .sl a0_1, .sl a0_2, .int .i64 a0_3]]
noncomputable def spec_IslandOk.kt {β : Type} (a0_0 : ByteArray) (a0_1 : List (List D)) (a0_2 : List (List D)) (a0_3 : Int) (K0 : List (List C) → List Out → Option β) : Bool → Option β := fun z0 => K0 [[.d (.bool z0)]] []
noncomputable def spec_IslandOk.e (k : Nat) : Entry := { modes := [(.imm, 0)], rts := [4], al := false, run := fun {β} l K => match l with | [.agg [.str a0_0, .sl a0_1, .sl a0_2, .int .i64 a0_3]] => spec_IslandOk.f k a0_0 a0_1 a0_2 a0_3 (spec_IslandOk.kt a0_0 a0_1 a0_2 a0_3 K) | _ => none }
noncomputable def spec_IslandOk.E (k : Nat) : Env := fun g => bif g == 66 then some (spec_NameOk.e k) else bif g == 67 then some (spec_LabelsOk.e k) else bif g == 68 then some (spec_l10Names.e k) else bif g == 69 then some (spec_l1In.e k) else none
noncomputable def spec_IslandOk.h : Hints := ⟨fun n => ⟨[], []⟩, fun _ => none, false, []⟩
theorem spec_IslandOk.f_eq {β : Type} (k : Nat) (a0_0 : ByteArray) (a0_1 : List (List D)) (a0_2 : List (List D)) (a0_3 : Int) (K0 : List (List C) → List Out → Option β) : funDen Try.prog (spec_IslandOk.E k) spec_IslandOk.h k Try.f16 (spec_IslandOk.as a0_0 a0_1 a0_2 a0_3) K0 = spec_IslandOk.g k a0_0 a0_1 a0_2 a0_3 (spec_IslandOk.kt a0_0 a0_1 a0_2 a0_3 K0) := by kernel_rfl
noncomputable def spec_IslandOk.dec (rs : List (List C)) (os : List Out) : Option (Bool) := uncons rs fun c1 r2 => uncons c1 fun x3 l4 => cD x3 fun d5 => dBool d5 fun w0 => atEnd l4 <| atEnd r2 <| atEnd os (some w0)
theorem spec_IslandOk.kt_dec (a0_0 : ByteArray) (a0_1 : List (List D)) (a0_2 : List (List D)) (a0_3 : Int) : spec_IslandOk.kt a0_0 a0_1 a0_2 a0_3 spec_IslandOk.dec = (fun z0 => some z0) := by kernel_rfl
theorem spec_IslandOk.inj (a0_0 : ByteArray) (a0_1 : List (List D)) (a0_2 : List (List D)) (a0_3 : Int) {rs : List (List C)} {os : List Out} {z0 : Bool} (h : spec_IslandOk.dec rs os = some z0) (ho : OutShape (spec_IslandOk.as a0_0 a0_1 a0_2 a0_3) os) : rs = [[.d (.bool z0)]] ∧ os = [] := by
  unfold spec_IslandOk.dec at h
  obtain ⟨c1, r2, rfl, h1⟩ := uncons_some h
  obtain ⟨x3, l4, rfl, h2⟩ := uncons_some h1
  obtain ⟨d5, rfl, h3⟩ := cD_some h2
  obtain ⟨w0, rfl, h4⟩ := dBool_some h3
  obtain ⟨rfl, h5⟩ := atEnd_some h4
  obtain ⟨rfl, h6⟩ := atEnd_some h5
  obtain ⟨rfl, h7⟩ := atEnd_some h6
  obtain rfl := Option.some.inj h7
  exact ⟨rfl, rfl⟩
theorem spec_IslandOk.ok (k : Nat) : EntryOK Try.prog 16 (spec_IslandOk.e k) := by
  refine entry_of mix tyok (fn := Try.f16) (c := codeOf Try.f16) Try.func16 (by kernel_rfl) (h := spec_IslandOk.h) (k := k) (E := spec_IslandOk.E k) (env_cons (spec_NameOk.ok k) (env_cons (spec_LabelsOk.ok k) (env_cons (spec_l10Names.ok k) (env_cons (spec_l1In.ok k) env_nil)))) (by kernel_rfl) (by kernel_rfl) rfl (enter_of Try.func16 (by kernel_rfl)) ?_
  intro β l K r hr
  simp only [spec_IslandOk.e] at hr
  split at hr
  case h_2 => cases hr
  unfold spec_IslandOk.f at hr
  split at hr
  case h_2 => cases hr
  rename_i hz
  exact ⟨_, _, hr, _, spec_IslandOk.dec, _, (spec_IslandOk.f_eq k _ _ _ _ spec_IslandOk.dec).trans (by rw [spec_IslandOk.kt_dec]; exact hz), fun rs os h ho => spec_IslandOk.inj _ _ _ _ h ho⟩
/-! ### loop.example/g00119/impl.within: function 87 -/
noncomputable def impl_within.g {β : Type} (k : Nat) (a0 : Int) (a1 : Int) (a2 : Int) (K : Bool → Option β) : Option β :=
  bif (decide ((a0 : Int) ≥ a1)) then (K (decide ((a0 : Int) ≤ a2))) else (K false)
noncomputable def impl_within.t (k : Nat) (a0 : Int) (a1 : Int) (a2 : Int) : Option (Bool) := impl_within.g k a0 a1 a2 (fun z0 => some z0)
noncomputable def impl_within.f {β : Type} (k : Nat) (a0 : Int) (a1 : Int) (a2 : Int) (K : Bool → Option β) : Option β :=
  match impl_within.t k a0 a1 a2 with
  | some z0 => K z0
  | none => none
noncomputable def impl_within.as (a0 : Int) (a1 : Int) (a2 : Int) : List A := [.d (.int .i64 a0), .d (.int .i64 a1), .d (.int .i64 a2)]
noncomputable def impl_within.kt {β : Type} (a0 : Int) (a1 : Int) (a2 : Int) (K0 : List (List C) → List Out → Option β) : Bool → Option β := fun z0 => K0 [[.d (.bool z0)]] []
noncomputable def impl_within.e (k : Nat) : Entry := { modes := [(.imm, 0), (.imm, 0), (.imm, 0)], rts := [4], al := false, run := fun {β} l K => match l with | [.d (.int .i64 a0), .d (.int .i64 a1), .d (.int .i64 a2)] => impl_within.f k a0 a1 a2 (impl_within.kt a0 a1 a2 K) | _ => none }
noncomputable def impl_within.E (k : Nat) : Env := fun g => none
noncomputable def impl_within.h : Hints := ⟨fun n => ⟨[], []⟩, fun _ => none, false, []⟩
theorem impl_within.f_eq {β : Type} (k : Nat) (a0 : Int) (a1 : Int) (a2 : Int) (K0 : List (List C) → List Out → Option β) : funDen Try.prog (impl_within.E k) impl_within.h k Try.f87 (impl_within.as a0 a1 a2) K0 = impl_within.g k a0 a1 a2 (impl_within.kt a0 a1 a2 K0) := by kernel_rfl
noncomputable def impl_within.dec (rs : List (List C)) (os : List Out) : Option (Bool) := uncons rs fun c1 r2 => uncons c1 fun x3 l4 => cD x3 fun d5 => dBool d5 fun w0 => atEnd l4 <| atEnd r2 <| atEnd os (some w0)
theorem impl_within.kt_dec (a0 : Int) (a1 : Int) (a2 : Int) : impl_within.kt a0 a1 a2 impl_within.dec = (fun z0 => some z0) := by kernel_rfl
theorem impl_within.inj (a0 : Int) (a1 : Int) (a2 : Int) {rs : List (List C)} {os : List Out} {z0 : Bool} (h : impl_within.dec rs os = some z0) (ho : OutShape (impl_within.as a0 a1 a2) os) : rs = [[.d (.bool z0)]] ∧ os = [] := by
  unfold impl_within.dec at h
  obtain ⟨c1, r2, rfl, h1⟩ := uncons_some h
  obtain ⟨x3, l4, rfl, h2⟩ := uncons_some h1
  obtain ⟨d5, rfl, h3⟩ := cD_some h2
  obtain ⟨w0, rfl, h4⟩ := dBool_some h3
  obtain ⟨rfl, h5⟩ := atEnd_some h4
  obtain ⟨rfl, h6⟩ := atEnd_some h5
  obtain ⟨rfl, h7⟩ := atEnd_some h6
  obtain rfl := Option.some.inj h7
  exact ⟨rfl, rfl⟩
theorem impl_within.ok (k : Nat) : EntryOK Try.prog 87 (impl_within.e k) := by
  refine entry_of mix tyok (fn := Try.f87) (c := codeOf Try.f87) Try.func87 (by kernel_rfl) (h := impl_within.h) (k := k) (E := impl_within.E k) env_nil (by kernel_rfl) (by kernel_rfl) rfl (enter_of Try.func87 (by kernel_rfl)) ?_
  intro β l K r hr
  simp only [impl_within.e] at hr
  split at hr
  case h_2 => cases hr
  unfold impl_within.f at hr
  split at hr
  case h_2 => cases hr
  rename_i hz
  exact ⟨_, _, hr, _, impl_within.dec, _, (impl_within.f_eq k _ _ _ impl_within.dec).trans (by rw [impl_within.kt_dec]; exact hz), fun rs os h ho => impl_within.inj _ _ _ h ho⟩
/-! ### loop.example/g00119/impl.NameOk: function 72 -/
noncomputable def impl_NameOk.l0 {β : Type} (k : Nat) (v0_0 : ByteArray) (v0_1 : Int) (K : Bool → Option β) (L0 : Int → Option β) (v : Int) : Option β :=
  match v with
  | v0_2 => bif (decide ((v0_2 : Int) < v0_1)) then (atStr v0_0 v0_2 fun b4 => bif (decide ((b4 : Int) < 97)) then (bif (decide ((b4 : Int) < 48)) then (bif ((b4 : Int) != 45) then (K false) else (L0 (IntKind.wrap .i64 (v0_2 + 1)))) else (bif (decide ((b4 : Int) > 57)) then (bif ((b4 : Int) != 45) then (K false) else (L0 (IntKind.wrap .i64 (v0_2 + 1)))) else (L0 (IntKind.wrap .i64 (v0_2 + 1))))) else (bif (decide ((b4 : Int) > 122)) then (bif (decide ((b4 : Int) < 48)) then (bif ((b4 : Int) != 45) then (K false) else (L0 (IntKind.wrap .i64 (v0_2 + 1)))) else (bif (decide ((b4 : Int) > 57)) then (bif ((b4 : Int) != 45) then (K false) else (L0 (IntKind.wrap .i64 (v0_2 + 1)))) else (L0 (IntKind.wrap .i64 (v0_2 + 1))))) else (L0 (IntKind.wrap .i64 (v0_2 + 1))))) else (impl_within.f k (v0_0.size : Int) 1 20 (fun y5 => bif y5 then (atStr v0_0 0 fun b6 => bif ((b6 : Int) != 45) then (atStr v0_0 (IntKind.wrap .i64 ((v0_0.size : Int) - 1)) fun b7 => K ((b7 : Int) != 45)) else (K false)) else (K false)))
noncomputable def impl_NameOk.g {β : Type} (k : Nat) (a0 : ByteArray) (K : Bool → Option β) : Option β :=
  iter (impl_NameOk.l0 k a0 (a0.size : Int) K) k (0)
noncomputable def impl_NameOk.t (k : Nat) (a0 : ByteArray) : Option (Bool) := impl_NameOk.g k a0 (fun z0 => some z0)
noncomputable def impl_NameOk.f {β : Type} (k : Nat) (a0 : ByteArray) (K : Bool → Option β) : Option β :=
  match impl_NameOk.t k a0 with
  | some z0 => K z0
  | none => none
noncomputable def impl_NameOk.as (a0 : ByteArray) : List A := [.d (.str a0)]
noncomputable def impl_NameOk.kt {β : Type} (a0 : ByteArray) (K0 : List (List C) → List Out → Option β) : Bool → Option β := fun z0 => K0 [[.d (.bool z0)]] []
noncomputable def impl_NameOk.e (k : Nat) : Entry := { modes := [(.imm, 0)], rts := [4], al := false, run := fun {β} l K => match l with | [.d (.str a0)] => impl_NameOk.f k a0 (impl_NameOk.kt a0 K) | _ => none }
noncomputable def impl_NameOk.E (k : Nat) : Env := fun g => bif g == 87 then some (impl_within.e k) else none
noncomputable def impl_NameOk.h : Hints := ⟨fun n => bif n == 2 then ⟨[(0, .asis), (6, .asis), (7, .asis)], []⟩ else ⟨[], []⟩, fun _ => none, false, []⟩
noncomputable def impl_NameOk.s0 (v0_0 : ByteArray) (v0_1 : Int) (v : Int) : St :=
  match v with
  | v0_2 => ⟨[.d false (.str v0_0), .any, .any, .any, .any, .any, .d true (.int .i64 v0_1), .d true (.int .i64 v0_2), .any, .any, .any, .any, .any, .any, .any, .any, .any, .any, .any, .any, .any, .any, .any, .any, .any, .any, .any, .any, .any, .any, .any, .any, .any, .any, .any, .any, .any, .any, .any, .any, .any, .any, .any, .any, .any, .any, .any, .any], []⟩
noncomputable def impl_NameOk.b0 {β : Type} (k : Nat) : St → (Ex → St → Option β) → Option β := fun s K => den Try.prog (impl_NameOk.E k) impl_NameOk.h.H impl_NameOk.h.J k (codeAt [1, 0, 1, 0, 0] (codeOf Try.f72)) s K
noncomputable def impl_NameOk.c0 {β : Type} (k : Nat) (a0 : ByteArray) (K0 : List (List C) → List Out → Option β) : Ex → St → Option β := contAt Try.prog (impl_NameOk.E k) impl_NameOk.h k [1, 0, 1, 0] (codeOf Try.f72) (finDen Try.prog Try.f72 impl_NameOk.h (impl_NameOk.as a0) K0)
theorem impl_NameOk.l0_eq {β : Type} (k : Nat) (a0 : ByteArray) (K0 : List (List C) → List Out → Option β) (v0_0 : ByteArray) (v0_1 : Int) : ∀ (kk : Nat) (v : Int), loopDen (impl_NameOk.b0 k) (impl_NameOk.h.H 2) kk (impl_NameOk.s0 v0_0 v0_1 v) (impl_NameOk.c0 k a0 K0) = iter (impl_NameOk.l0 k v0_0 v0_1 (impl_NameOk.kt a0 K0)) kk v :=
  loop_eq (impl_NameOk.s0 v0_0 v0_1) _ (fun L0 v => by kernel_rfl)
noncomputable def impl_NameOk.m {β : Type} (k : Nat) (a0 : ByteArray) (K0 : List (List C) → List Out → Option β) (F : (ByteArray → Int → Int → Option β)) : Option β :=
  (F) a0 (a0.size : Int) (0)
theorem impl_NameOk.f_eq {β : Type} (k : Nat) (a0 : ByteArray) (K0 : List (List C) → List Out → Option β) : funDen Try.prog (impl_NameOk.E k) impl_NameOk.h k Try.f72 (impl_NameOk.as a0) K0 = impl_NameOk.g k a0 (impl_NameOk.kt a0 K0) := Eq.trans (b := (impl_NameOk.m k a0 K0) (fun (v0_0 : ByteArray) (v0_1 : Int) (v : Int) => loopDen (impl_NameOk.b0 k) (impl_NameOk.h.H 2) k (impl_NameOk.s0 v0_0 v0_1 v) (impl_NameOk.c0 k a0 K0))) (by kernel_rfl) (Eq.trans (congrArg (impl_NameOk.m k a0 K0) (funext fun v0_0 => funext fun v0_1 => funext fun v => impl_NameOk.l0_eq k a0 K0 v0_0 v0_1 k v)) (by kernel_rfl))
noncomputable def impl_NameOk.dec (rs : List (List C)) (os : List Out) : Option (Bool) := uncons rs fun c1 r2 => uncons c1 fun x3 l4 => cD x3 fun d5 => dBool d5 fun w0 => atEnd l4 <| atEnd r2 <| atEnd os (some w0)
theorem impl_NameOk.kt_dec (a0 : ByteArray) : impl_NameOk.kt a0 impl_NameOk.dec = (fun z0 => some z0) := by kernel_rfl
theorem impl_NameOk.inj (a0 : ByteArray) {rs : List (List C)} {os : List Out} {z0 : Bool} (h : impl_NameOk.dec rs os = some z0) (ho : OutShape (impl_NameOk.as a0) os) : rs = [[.d (.bool z0)]] ∧ os = [] := by
  unfold impl_NameOk.dec at h
  obtain ⟨c1, r2, rfl, h1⟩ := uncons_some h
  obtain ⟨x3, l4, rfl, h2⟩ := uncons_some h1
  obtain ⟨d5, rfl, h3⟩ := cD_some h2
  obtain ⟨w0, rfl, h4⟩ := dBool_some h3
  obtain ⟨rfl, h5⟩ := atEnd_some h4
  obtain ⟨rfl, h6⟩ := atEnd_some h5
  obtain ⟨rfl, h7⟩ := atEnd_some h6
  obtain rfl := Option.some.inj h7
  exact ⟨rfl, rfl⟩
theorem impl_NameOk.ok (k : Nat) : EntryOK Try.prog 72 (impl_NameOk.e k) := by
  refine entry_of mix tyok (fn := Try.f72) (c := codeOf Try.f72) Try.func72 (by kernel_rfl) (h := impl_NameOk.h) (k := k) (E := impl_NameOk.E k) (env_cons (impl_within.ok k) env_nil) (by kernel_rfl) (by kernel_rfl) rfl (enter_of Try.func72 (by kernel_rfl)) ?_
  intro β l K r hr
  simp only [impl_NameOk.e] at hr
  split at hr
  case h_2 => cases hr
  unfold impl_NameOk.f at hr
  split at hr
  case h_2 => cases hr
  rename_i hz
  exact ⟨_, _, hr, _, impl_NameOk.dec, _, (impl_NameOk.f_eq k _ impl_NameOk.dec).trans (by rw [impl_NameOk.kt_dec]; exact hz), fun rs os h ho => impl_NameOk.inj _ h ho⟩
/-! ### loop.example/g00119/impl.LabelsOk: function 73 -/
noncomputable def impl_LabelsOk.l0 {β : Type} (k : Nat) (v0_0 : List (List D)) (v0_1 : List (List D)) (v0_2 : Int) (K : Bool → Option β) (L0 : Int → Option β) (v : Int) : Option β :=
  match v with
  | v0_3 => bif (decide ((v0_3 : Int) < v0_2)) then (atRow v0_1 v0_3 fun c17 => uncons c17 fun d18 r19 => dStr d18 fun x20 => uncons r19 fun d21 r22 => dStr d21 fun x23 => atEnd r22 (impl_NameOk.f k x20 (fun y24 => bif (!y24) then (K false) else (impl_NameOk.f k x23 (fun y25 => bif (!y25) then (K false) else (bif (decide ((v0_3 : Int) > 0)) then (atRow v0_0 (IntKind.wrap .i64 (v0_3 - 1)) fun c26 => uncons c26 fun d27 r28 => dStr d27 fun x29 => uncons r28 fun d30 r31 => dStr d30 fun x32 => atEnd r31 (bif (!(strLt x29 x20)) then (K false) else (L0 (IntKind.wrap .i64 (v0_3 + 1))))) else (L0 (IntKind.wrap .i64 (v0_3 + 1))))))))) else (K (decide (((v0_0.length : Int) : Int) ≤ 8)))
noncomputable def impl_LabelsOk.g {β : Type} (k : Nat) (a0 : List (List D)) (K : Bool → Option β) : Option β :=
  iter (impl_LabelsOk.l0 k a0 a0 (a0.length : Int) K) k (0)
noncomputable def impl_LabelsOk.t (k : Nat) (a0 : List (List D)) : Option (Bool) := impl_LabelsOk.g k a0 (fun z0 => some z0)
noncomputable def impl_LabelsOk.f {β : Type} (k : Nat) (a0 : List (List D)) (K : Bool → Option β) : Option β :=
  match impl_LabelsOk.t k a0 with
  | some z0 => K z0
  | none => none
noncomputable def impl_LabelsOk.as (a0 : List (List D)) : List A := [.d (.sl a0)]
noncomputable def impl_LabelsOk.kt {β : Type} (a0 : List (List D)) (K0 : List (List C) → List Out → Option β) : Bool → Option β := fun z0 => K0 [[.d (.bool z0)]] []
noncomputable def impl_LabelsOk.e (k : Nat) : Entry := { modes := [(.imm, 0)], rts := [4], al := false, run := fun {β} l K => match l with | [.d (.sl a0)] => impl_LabelsOk.f k a0 (impl_LabelsOk.kt a0 K) | _ => none }
noncomputable def impl_LabelsOk.E (k : Nat) : Env := fun g => bif g == 72 then some (impl_NameOk.e k) else none
noncomputable def impl_LabelsOk.h : Hints := ⟨fun n => bif n == 2 then ⟨[(0, .asis), (5, .asis), (6, .asis), (7, .asis)], []⟩ else ⟨[], []⟩, fun _ => none, false, []⟩
noncomputable def impl_LabelsOk.s0 (v0_0 : List (List D)) (v0_1 : List (List D)) (v0_2 : Int) (v : Int) : St :=
  match v with
  | v0_3 => ⟨[.d false (.sl v0_0), .any, .any, .any, .any, .d false (.sl v0_1), .d true (.int .i64 v0_2), .d true (.int .i64 v0_3), .any, .any, .any, .any, .any, .any, .any, .any, .any, .any, .any, .any, .any, .any, .any, .any, .any, .any, .any, .any, .any, .any, .any, .any, .any, .any, .any, .any, .any, .any, .any, .any, .any], []⟩
noncomputable def impl_LabelsOk.b0 {β : Type} (k : Nat) : St → (Ex → St → Option β) → Option β := fun s K => den Try.prog (impl_LabelsOk.E k) impl_LabelsOk.h.H impl_LabelsOk.h.J k (codeAt [1, 0, 1, 0, 0] (codeOf Try.f73)) s K
noncomputable def impl_LabelsOk.c0 {β : Type} (k : Nat) (a0 : List (List D)) (K0 : List (List C) → List Out → Option β) : Ex → St → Option β := contAt Try.prog (impl_LabelsOk.E k) impl_LabelsOk.h k [1, 0, 1, 0] (codeOf Try.f73) (finDen Try.prog Try.f73 impl_LabelsOk.h (impl_LabelsOk.as a0) K0)
theorem impl_LabelsOk.l0_eq {β : Type} (k : Nat) (a0 : List (List D)) (K0 : List (List C) → List Out → Option β) (v0_0 : List (List D)) (v0_1 : List (List D)) (v0_2 : Int) : ∀ (kk : Nat) (v : Int), loopDen (impl_LabelsOk.b0 k) (impl_LabelsOk.h.H 2) kk (impl_LabelsOk.s0 v0_0 v0_1 v0_2 v) (impl_LabelsOk.c0 k a0 K0) = iter (impl_LabelsOk.l0 k v0_0 v0_1 v0_2 (impl_LabelsOk.kt a0 K0)) kk v :=
  loop_eq (impl_LabelsOk.s0 v0_0 v0_1 v0_2) _ (fun L0 v => by kernel_rfl)
noncomputable def impl_LabelsOk.m {β : Type} (k : Nat) (a0 : List (List D)) (K0 : List (List C) → List Out → Option β) (F : ((List (List D)) → (List (List D)) → Int → Int → Option β)) : Option β :=
  (F) a0 a0 (a0.length : Int) (0)
theorem impl_LabelsOk.f_eq {β : Type} (k : Nat) (a0 : List (List D)) (K0 : List (List C) → List Out → Option β) : funDen Try.prog (impl_LabelsOk.E k) impl_LabelsOk.h k Try.f73 (impl_LabelsOk.as a0) K0 = impl_LabelsOk.g k a0 (impl_LabelsOk.kt a0 K0) := Eq.trans (b := (impl_LabelsOk.m k a0 K0) (fun (v0_0 : List (List D)) (v0_1 : List (List D)) (v0_2 : Int) (v : Int) => loopDen (impl_LabelsOk.b0 k) (impl_LabelsOk.h.H 2) k (impl_LabelsOk.s0 v0_0 v0_1 v0_2 v) (impl_LabelsOk.c0 k a0 K0))) (by kernel_rfl) (Eq.trans (congrArg (impl_LabelsOk.m k a0 K0) (funext fun v0_0 => funext fun v0_1 => funext fun v0_2 => funext fun v => impl_LabelsOk.l0_eq k a0 K0 v0_0 v0_1 v0_2 k v)) (by kernel_rfl))
noncomputable def impl_LabelsOk.dec (rs : List (List C)) (os : List Out) : Option (Bool) := uncons rs fun c1 r2 => uncons c1 fun x3 l4 => cD x3 fun d5 => dBool d5 fun w0 => atEnd l4 <| atEnd r2 <| atEnd os (some w0)
theorem impl_LabelsOk.kt_dec (a0 : List (List D)) : impl_LabelsOk.kt a0 impl_LabelsOk.dec = (fun z0 => some z0) := by kernel_rfl
theorem impl_LabelsOk.inj (a0 : List (List D)) {rs : List (List C)} {os : List Out} {z0 : Bool} (h : impl_LabelsOk.dec rs os = some z0) (ho : OutShape (impl_LabelsOk.as a0) os) : rs = [[.d (.bool z0)]] ∧ os = [] := by
  unfold impl_LabelsOk.dec at h
  obtain ⟨c1, r2, rfl, h1⟩ := uncons_some h
  obtain ⟨x3, l4, rfl, h2⟩ := uncons_some h1
  obtain ⟨d5, rfl, h3⟩ := cD_some h2
  obtain ⟨w0, rfl, h4⟩ := dBool_some h3
  obtain ⟨rfl, h5⟩ := atEnd_some h4
  obtain ⟨rfl, h6⟩ := atEnd_some h5
  obtain ⟨rfl, h7⟩ := atEnd_some h6
  obtain rfl := Option.some.inj h7
  exact ⟨rfl, rfl⟩
theorem impl_LabelsOk.ok (k : Nat) : EntryOK Try.prog 73 (impl_LabelsOk.e k) := by
  refine entry_of mix tyok (fn := Try.f73) (c := codeOf Try.f73) Try.func73 (by kernel_rfl) (h := impl_LabelsOk.h) (k := k) (E := impl_LabelsOk.E k) (env_cons (impl_NameOk.ok k) env_nil) (by kernel_rfl) (by kernel_rfl) rfl (enter_of Try.func73 (by kernel_rfl)) ?_
  intro β l K r hr
  simp only [impl_LabelsOk.e] at hr
  split at hr
  case h_2 => cases hr
  unfold impl_LabelsOk.f at hr
  split at hr
  case h_2 => cases hr
  rename_i hz
  exact ⟨_, _, hr, _, impl_LabelsOk.dec, _, (impl_LabelsOk.f_eq k _ impl_LabelsOk.dec).trans (by rw [impl_LabelsOk.kt_dec]; exact hz), fun rs os h ho => impl_LabelsOk.inj _ h ho⟩
/-! ### loop.example/g00119/impl.namesOk: function 74 -/
noncomputable def impl_namesOk.l0 {β : Type} (k : Nat) (v0_0 : List (List D)) (v0_1 : Int) (v0_2 : List (List D)) (v0_3 : Int) (K : Bool → Option β) (L0 : Int → Option β) (v : Int) : Option β :=
  match v with
  | v0_4 => bif (decide ((v0_4 : Int) < v0_3)) then (atRow v0_2 v0_4 fun c10 => uncons c10 fun d11 r12 => dStr d11 fun x13 => atEnd r12 (impl_NameOk.f k x13 (fun y14 => bif (!y14) then (K false) else (bif (decide ((v0_4 : Int) > 0)) then (atRow v0_0 (IntKind.wrap .i64 (v0_4 - 1)) fun c15 => uncons c15 fun d16 r17 => dStr d16 fun x18 => atEnd r17 (bif (!(strLt x18 x13)) then (K false) else (L0 (IntKind.wrap .i64 (v0_4 + 1))))) else (L0 (IntKind.wrap .i64 (v0_4 + 1))))))) else (K (decide (((v0_0.length : Int) : Int) ≤ v0_1)))
noncomputable def impl_namesOk.g {β : Type} (k : Nat) (a0 : List (List D)) (a1 : Int) (K : Bool → Option β) : Option β :=
  iter (impl_namesOk.l0 k a0 a1 a0 (a0.length : Int) K) k (0)
noncomputable def impl_namesOk.t (k : Nat) (a0 : List (List D)) (a1 : Int) : Option (Bool) := impl_namesOk.g k a0 a1 (fun z0 => some z0)
noncomputable def impl_namesOk.f {β : Type} (k : Nat) (a0 : List (List D)) (a1 : Int) (K : Bool → Option β) : Option β :=
  match impl_namesOk.t k a0 a1 with
  | some z0 => K z0
  | none => none
noncomputable def impl_namesOk.as (a0 : List (List D)) (a1 : Int) : List A := [.d (.sl a0), .d (.int .i64 a1)]
noncomputable def impl_namesOk.kt {β : Type} (a0 : List (List D)) (a1 : Int) (K0 : List (List C) → List Out → Option β) : Bool → Option β := fun z0 => K0 [[.d (.bool z0)]] []
noncomputable def impl_namesOk.e (k : Nat) : Entry := { modes := [(.imm, 0), (.imm, 0)], rts := [4], al := false, run := fun {β} l K => match l with | [.d (.sl a0), .d (.int .i64 a1)] => impl_namesOk.f k a0 a1 (impl_namesOk.kt a0 a1 K) | _ => none }
noncomputable def impl_namesOk.E (k : Nat) : Env := fun g => bif g == 72 then some (impl_NameOk.e k) else none
noncomputable def impl_namesOk.h : Hints := ⟨fun n => bif n == 2 then ⟨[(0, .asis), (1, .asis), (7, .asis), (8, .asis), (9, .asis)], []⟩ else ⟨[], []⟩, fun _ => none, false, []⟩
noncomputable def impl_namesOk.s0 (v0_0 : List (List D)) (v0_1 : Int) (v0_2 : List (List D)) (v0_3 : Int) (v : Int) : St :=
  match v with
  | v0_4 => ⟨[.d false (.sl v0_0), .d false (.int .i64 v0_1), .any, .any, .any, .any, .any, .d false (.sl v0_2), .d true (.int .i64 v0_3), .d true (.int .i64 v0_4), .any, .any, .any, .any, .any, .any, .any, .any, .any, .any, .any, .any, .any, .any, .any, .any, .any, .any, .any, .any, .any, .any, .any, .any, .any], []⟩
noncomputable def impl_namesOk.b0 {β : Type} (k : Nat) : St → (Ex → St → Option β) → Option β := fun s K => den Try.prog (impl_namesOk.E k) impl_namesOk.h.H impl_namesOk.h.J k (codeAt [1, 0, 1, 0, 0] (codeOf Try.f74)) s K
noncomputable def impl_namesOk.c0 {β : Type} (k : Nat) (a0 : List (List D)) (a1 : Int) (K0 : List (List C) → List Out → Option β) : Ex → St → Option β := contAt Try.prog (impl_namesOk.E k) impl_namesOk.h k [1, 0, 1, 0] (codeOf Try.f74) (finDen Try.prog Try.f74 impl_namesOk.h (impl_namesOk.as a0 a1) K0)
theorem impl_namesOk.l0_eq {β : Type} (k : Nat) (a0 : List (List D)) (a1 : Int) (K0 : List (List C) → List Out → Option β) (v0_0 : List (List D)) (v0_1 : Int) (v0_2 : List (List D)) (v0_3 : Int) : ∀ (kk : Nat) (v : Int), loopDen (impl_namesOk.b0 k) (impl_namesOk.h.H 2) kk (impl_namesOk.s0 v0_0 v0_1 v0_2 v0_3 v) (impl_namesOk.c0 k a0 a1 K0) = iter (impl_namesOk.l0 k v0_0 v0_1 v0_2 v0_3 (impl_namesOk.kt a0 a1 K0)) kk v :=
  loop_eq (impl_namesOk.s0 v0_0 v0_1 v0_2 v0_3) _ (fun L0 v => by kernel_rfl)
noncomputable def impl_namesOk.m {β : Type} (k : Nat) (a0 : List (List D)) (a1 : Int) (K0 : List (List C) → List Out → Option β) (F : ((List (List D)) → Int → (List (List D)) → Int → Int → Option β)) : Option β :=
  (F) a0 a1 a0 (a0.length : Int) (0)
theorem impl_namesOk.f_eq {β : Type} (k : Nat) (a0 : List (List D)) (a1 : Int) (K0 : List (List C) → List Out → Option β) : funDen Try.prog (impl_namesOk.E k) impl_namesOk.h k Try.f74 (impl_namesOk.as a0 a1) K0 = impl_namesOk.g k a0 a1 (impl_namesOk.kt a0 a1 K0) := Eq.trans (b := (impl_namesOk.m k a0 a1 K0) (fun (v0_0 : List (List D)) (v0_1 : Int) (v0_2 : List (List D)) (v0_3 : Int) (v : Int) => loopDen (impl_namesOk.b0 k) (impl_namesOk.h.H 2) k (impl_namesOk.s0 v0_0 v0_1 v0_2 v0_3 v) (impl_namesOk.c0 k a0 a1 K0))) (by kernel_rfl) (Eq.trans (congrArg (impl_namesOk.m k a0 a1 K0) (funext fun v0_0 => funext fun v0_1 => funext fun v0_2 => funext fun v0_3 => funext fun v => impl_namesOk.l0_eq k a0 a1 K0 v0_0 v0_1 v0_2 v0_3 k v)) (by kernel_rfl))
noncomputable def impl_namesOk.dec (rs : List (List C)) (os : List Out) : Option (Bool) := uncons rs fun c1 r2 => uncons c1 fun x3 l4 => cD x3 fun d5 => dBool d5 fun w0 => atEnd l4 <| atEnd r2 <| atEnd os (some w0)
theorem impl_namesOk.kt_dec (a0 : List (List D)) (a1 : Int) : impl_namesOk.kt a0 a1 impl_namesOk.dec = (fun z0 => some z0) := by kernel_rfl
theorem impl_namesOk.inj (a0 : List (List D)) (a1 : Int) {rs : List (List C)} {os : List Out} {z0 : Bool} (h : impl_namesOk.dec rs os = some z0) (ho : OutShape (impl_namesOk.as a0 a1) os) : rs = [[.d (.bool z0)]] ∧ os = [] := by
  unfold impl_namesOk.dec at h
  obtain ⟨c1, r2, rfl, h1⟩ := uncons_some h
  obtain ⟨x3, l4, rfl, h2⟩ := uncons_some h1
  obtain ⟨d5, rfl, h3⟩ := cD_some h2
  obtain ⟨w0, rfl, h4⟩ := dBool_some h3
  obtain ⟨rfl, h5⟩ := atEnd_some h4
  obtain ⟨rfl, h6⟩ := atEnd_some h5
  obtain ⟨rfl, h7⟩ := atEnd_some h6
  obtain rfl := Option.some.inj h7
  exact ⟨rfl, rfl⟩
theorem impl_namesOk.ok (k : Nat) : EntryOK Try.prog 74 (impl_namesOk.e k) := by
  refine entry_of mix tyok (fn := Try.f74) (c := codeOf Try.f74) Try.func74 (by kernel_rfl) (h := impl_namesOk.h) (k := k) (E := impl_namesOk.E k) (env_cons (impl_NameOk.ok k) env_nil) (by kernel_rfl) (by kernel_rfl) rfl (enter_of Try.func74 (by kernel_rfl)) ?_
  intro β l K r hr
  simp only [impl_namesOk.e] at hr
  split at hr
  case h_2 => cases hr
  unfold impl_namesOk.f at hr
  split at hr
  case h_2 => cases hr
  rename_i hz
  exact ⟨_, _, hr, _, impl_namesOk.dec, _, (impl_namesOk.f_eq k _ _ impl_namesOk.dec).trans (by rw [impl_namesOk.kt_dec]; exact hz), fun rs os h ho => impl_namesOk.inj _ _ h ho⟩
/-! ### loop.example/g00119/impl.isCopies: function 75 -/
noncomputable def impl_isCopies.g {β : Type} (k : Nat) (a0 : Int) (K : Bool → Option β) : Option β :=
  impl_within.f k a0 0 10000 (fun y1 => K y1)
noncomputable def impl_isCopies.t (k : Nat) (a0 : Int) : Option (Bool) := impl_isCopies.g k a0 (fun z0 => some z0)
noncomputable def impl_isCopies.f {β : Type} (k : Nat) (a0 : Int) (K : Bool → Option β) : Option β :=
  match impl_isCopies.t k a0 with
  | some z0 => K z0
  | none => none
noncomputable def impl_isCopies.as (a0 : Int) : List A := [.d (.int .i64 a0)]
noncomputable def impl_isCopies.kt {β : Type} (a0 : Int) (K0 : List (List C) → List Out → Option β) : Bool → Option β := fun z0 => K0 [[.d (.bool z0)]] []
noncomputable def impl_isCopies.e (k : Nat) : Entry := { modes := [(.imm, 0)], rts := [4], al := false, run := fun {β} l K => match l with | [.d (.int .i64 a0)] => impl_isCopies.f k a0 (impl_isCopies.kt a0 K) | _ => none }
noncomputable def impl_isCopies.E (k : Nat) : Env := fun g => bif g == 87 then some (impl_within.e k) else none
noncomputable def impl_isCopies.h : Hints := ⟨fun n => ⟨[], []⟩, fun _ => none, false, []⟩
theorem impl_isCopies.f_eq {β : Type} (k : Nat) (a0 : Int) (K0 : List (List C) → List Out → Option β) : funDen Try.prog (impl_isCopies.E k) impl_isCopies.h k Try.f75 (impl_isCopies.as a0) K0 = impl_isCopies.g k a0 (impl_isCopies.kt a0 K0) := by kernel_rfl
noncomputable def impl_isCopies.dec (rs : List (List C)) (os : List Out) : Option (Bool) := uncons rs fun c1 r2 => uncons c1 fun x3 l4 => cD x3 fun d5 => dBool d5 fun w0 => atEnd l4 <| atEnd r2 <| atEnd os (some w0)
theorem impl_isCopies.kt_dec (a0 : Int) : impl_isCopies.kt a0 impl_isCopies.dec = (fun z0 => some z0) := by kernel_rfl
theorem impl_isCopies.inj (a0 : Int) {rs : List (List C)} {os : List Out} {z0 : Bool} (h : impl_isCopies.dec rs os = some z0) (ho : OutShape (impl_isCopies.as a0) os) : rs = [[.d (.bool z0)]] ∧ os = [] := by
  unfold impl_isCopies.dec at h
  obtain ⟨c1, r2, rfl, h1⟩ := uncons_some h
  obtain ⟨x3, l4, rfl, h2⟩ := uncons_some h1
  obtain ⟨d5, rfl, h3⟩ := cD_some h2
  obtain ⟨w0, rfl, h4⟩ := dBool_some h3
  obtain ⟨rfl, h5⟩ := atEnd_some h4
  obtain ⟨rfl, h6⟩ := atEnd_some h5
  obtain ⟨rfl, h7⟩ := atEnd_some h6
  obtain rfl := Option.some.inj h7
  exact ⟨rfl, rfl⟩
theorem impl_isCopies.ok (k : Nat) : EntryOK Try.prog 75 (impl_isCopies.e k) := by
  refine entry_of mix tyok (fn := Try.f75) (c := codeOf Try.f75) Try.func75 (by kernel_rfl) (h := impl_isCopies.h) (k := k) (E := impl_isCopies.E k) (env_cons (impl_within.ok k) env_nil) (by kernel_rfl) (by kernel_rfl) rfl (enter_of Try.func75 (by kernel_rfl)) ?_
  intro β l K r hr
  simp only [impl_isCopies.e] at hr
  split at hr
  case h_2 => cases hr
  unfold impl_isCopies.f at hr
  split at hr
  case h_2 => cases hr
  rename_i hz
  exact ⟨_, _, hr, _, impl_isCopies.dec, _, (impl_isCopies.f_eq k _ impl_isCopies.dec).trans (by rw [impl_isCopies.kt_dec]; exact hz), fun rs os h ho => impl_isCopies.inj _ h ho⟩
/-! ### loop.example/g00119/impl.IslandOk: function 18 -/
noncomputable def impl_IslandOk.g {β : Type} (k : Nat) (a0_0 : ByteArray) (a0_1 : List (List D)) (a0_2 : List (List D)) (a0_3 : Int) (K : Bool → Option β) : Option β :=
  impl_NameOk.f k a0_0 (fun y8 => bif y8 then (impl_LabelsOk.f k a0_1 (fun y33 => bif y33 then (impl_namesOk.f k a0_2 4 (fun y19 => bif y19 then (impl_isCopies.f k a0_3 (fun y2 => K y2)) else (K false))) else (K false))) else (K false))
noncomputable def impl_IslandOk.t (k : Nat) (a0_0 : ByteArray) (a0_1 : List (List D)) (a0_2 : List (List D)) (a0_3 : Int) : Option (Bool) := impl_IslandOk.g k a0_0 a0_1 a0_2 a0_3 (fun z0 => some z0)
noncomputable def impl_IslandOk.f {β : Type} (k : Nat) (a0_0 : ByteArray) (a0_1 : List (List D)) (a0_2 : List (List D)) (a0_3 : Int) (K : Bool → Option β) : Option β :=
  match impl_IslandOk.t k a0_0 a0_1 a0_2 a0_3 with
  | some z0 => K z0
  | none => none
noncomputable def impl_IslandOk.as (a0_0 : ByteArray) (a0_1 : List (List D)) (a0_2 : List (List D)) (a0_3 : Int) : List A := [.agg [.str a0_0, .sl a0_1, .sl a0_2, .int .i64 a0_3]]
noncomputable def impl_IslandOk.kt {β : Type} (a0_0 : ByteArray) (a0_1 : List (List D)) (a0_2 : List (List D)) (a0_3 : Int) (K0 : List (List C) → List Out → Option β) : Bool → Option β := fun z0 => K0 [[.d (.bool z0)]] []
noncomputable def impl_IslandOk.e (k : Nat) : Entry := { modes := [(.imm, 0)], rts := [4], al := false, run := fun {β} l K => match l with | [.agg [.str a0_0, .sl a0_1, .sl a0_2, .int .i64 a0_3]] => impl_IslandOk.f k a0_0 a0_1 a0_2 a0_3 (impl_IslandOk.kt a0_0 a0_1 a0_2 a0_3 K) | _ => none }
noncomputable def impl_IslandOk.E (k : Nat) : Env := fun g => bif g == 72 then some (impl_NameOk.e k) else bif g == 73 then some (impl_LabelsOk.e k) else bif g == 74 then some (impl_namesOk.e k) else bif g == 75 then some (impl_isCopies.e k) else none
noncomputable def impl_IslandOk.h : Hints := ⟨fun n => ⟨[], []⟩, fun _ => none, false, []⟩
theorem impl_IslandOk.f_eq {β : Type} (k : Nat) (a0_0 : ByteArray) (a0_1 : List (List D)) (a0_2 : List (List D)) (a0_3 : Int) (K0 : List (List C) → List Out → Option β) : funDen Try.prog (impl_IslandOk.E k) impl_IslandOk.h k Try.f18 (impl_IslandOk.as a0_0 a0_1 a0_2 a0_3) K0 = impl_IslandOk.g k a0_0 a0_1 a0_2 a0_3 (impl_IslandOk.kt a0_0 a0_1 a0_2 a0_3 K0) := by kernel_rfl
noncomputable def impl_IslandOk.dec (rs : List (List C)) (os : List Out) : Option (Bool) := uncons rs fun c1 r2 => uncons c1 fun x3 l4 => cD x3 fun d5 => dBool d5 fun w0 => atEnd l4 <| atEnd r2 <| atEnd os (some w0)
theorem impl_IslandOk.kt_dec (a0_0 : ByteArray) (a0_1 : List (List D)) (a0_2 : List (List D)) (a0_3 : Int) : impl_IslandOk.kt a0_0 a0_1 a0_2 a0_3 impl_IslandOk.dec = (fun z0 => some z0) := by kernel_rfl
theorem impl_IslandOk.inj (a0_0 : ByteArray) (a0_1 : List (List D)) (a0_2 : List (List D)) (a0_3 : Int) {rs : List (List C)} {os : List Out} {z0 : Bool} (h : impl_IslandOk.dec rs os = some z0) (ho : OutShape (impl_IslandOk.as a0_0 a0_1 a0_2 a0_3) os) : rs = [[.d (.bool z0)]] ∧ os = [] := by
  unfold impl_IslandOk.dec at h
  obtain ⟨c1, r2, rfl, h1⟩ := uncons_some h
  obtain ⟨x3, l4, rfl, h2⟩ := uncons_some h1
  obtain ⟨d5, rfl, h3⟩ := cD_some h2
  obtain ⟨w0, rfl, h4⟩ := dBool_some h3
  obtain ⟨rfl, h5⟩ := atEnd_some h4
  obtain ⟨rfl, h6⟩ := atEnd_some h5
  obtain ⟨rfl, h7⟩ := atEnd_some h6
  obtain rfl := Option.some.inj h7
  exact ⟨rfl, rfl⟩
theorem impl_IslandOk.ok (k : Nat) : EntryOK Try.prog 18 (impl_IslandOk.e k) := by
  refine entry_of mix tyok (fn := Try.f18) (c := codeOf Try.f18) Try.func18 (by kernel_rfl) (h := impl_IslandOk.h) (k := k) (E := impl_IslandOk.E k) (env_cons (impl_NameOk.ok k) (env_cons (impl_LabelsOk.ok k) (env_cons (impl_namesOk.ok k) (env_cons (impl_isCopies.ok k) env_nil)))) (by kernel_rfl) (by kernel_rfl) rfl (enter_of Try.func18 (by kernel_rfl)) ?_
  intro β l K r hr
  simp only [impl_IslandOk.e] at hr
  split at hr
  case h_2 => cases hr
  unfold impl_IslandOk.f at hr
  split at hr
  case h_2 => cases hr
  rename_i hz
  exact ⟨_, _, hr, _, impl_IslandOk.dec, _, (impl_IslandOk.f_eq k _ _ _ _ impl_IslandOk.dec).trans (by rw [impl_IslandOk.kt_dec]; exact hz), fun rs os h ho => impl_IslandOk.inj _ _ _ _ h ho⟩
/-! ### loop.example/g00119/laws.eqLabel: function 137 -/
noncomputable def laws_eqLabel.g {β : Type} (k : Nat) (a0_0 : ByteArray) (a0_1 : ByteArray) (a1_0 : ByteArray) (a1_1 : ByteArray) (K : Bool → Option β) : Option β :=
  bif (!(strEq a0_0 a1_0)) then (K false) else (bif (!(strEq a0_1 a1_1)) then (K false) else (K true))
noncomputable def laws_eqLabel.t (k : Nat) (a0_0 : ByteArray) (a0_1 : ByteArray) (a1_0 : ByteArray) (a1_1 : ByteArray) : Option (Bool) := laws_eqLabel.g k a0_0 a0_1 a1_0 a1_1 (fun z0 => some z0)
noncomputable def laws_eqLabel.f {β : Type} (k : Nat) (a0_0 : ByteArray) (a0_1 : ByteArray) (a1_0 : ByteArray) (a1_1 : ByteArray) (K : Bool → Option β) : Option β :=
  match laws_eqLabel.t k a0_0 a0_1 a1_0 a1_1 with
  | some z0 => K z0
  | none => none
noncomputable def laws_eqLabel.as (a0_0 : ByteArray) (a0_1 : ByteArray) (a1_0 : ByteArray) (a1_1 : ByteArray) : List A := [.agg [.str a0_0, .str a0_1], .agg [.str a1_0, .str a1_1]]
noncomputable def laws_eqLabel.kt {β : Type} (a0_0 : ByteArray) (a0_1 : ByteArray) (a1_0 : ByteArray) (a1_1 : ByteArray) (K0 : List (List C) → List Out → Option β) : Bool → Option β := fun z0 => K0 [[.d (.bool z0)]] []
noncomputable def laws_eqLabel.e (k : Nat) : Entry := { modes := [(.imm, 0), (.imm, 0)], rts := [4], al := false, run := fun {β} l K => match l with | [.agg [.str a0_0, .str a0_1], .agg [.str a1_0, .str a1_1]] => laws_eqLabel.f k a0_0 a0_1 a1_0 a1_1 (laws_eqLabel.kt a0_0 a0_1 a1_0 a1_1 K) | _ => none }
noncomputable def laws_eqLabel.E (k : Nat) : Env := fun g => none
noncomputable def laws_eqLabel.h : Hints := ⟨fun n => ⟨[], []⟩, fun _ => none, false, []⟩
theorem laws_eqLabel.f_eq {β : Type} (k : Nat) (a0_0 : ByteArray) (a0_1 : ByteArray) (a1_0 : ByteArray) (a1_1 : ByteArray) (K0 : List (List C) → List Out → Option β) : funDen Try.prog (laws_eqLabel.E k) laws_eqLabel.h k Try.f137 (laws_eqLabel.as a0_0 a0_1 a1_0 a1_1) K0 = laws_eqLabel.g k a0_0 a0_1 a1_0 a1_1 (laws_eqLabel.kt a0_0 a0_1 a1_0 a1_1 K0) := by kernel_rfl
noncomputable def laws_eqLabel.dec (rs : List (List C)) (os : List Out) : Option (Bool) := uncons rs fun c1 r2 => uncons c1 fun x3 l4 => cD x3 fun d5 => dBool d5 fun w0 => atEnd l4 <| atEnd r2 <| atEnd os (some w0)
theorem laws_eqLabel.kt_dec (a0_0 : ByteArray) (a0_1 : ByteArray) (a1_0 : ByteArray) (a1_1 : ByteArray) : laws_eqLabel.kt a0_0 a0_1 a1_0 a1_1 laws_eqLabel.dec = (fun z0 => some z0) := by kernel_rfl
theorem laws_eqLabel.inj (a0_0 : ByteArray) (a0_1 : ByteArray) (a1_0 : ByteArray) (a1_1 : ByteArray) {rs : List (List C)} {os : List Out} {z0 : Bool} (h : laws_eqLabel.dec rs os = some z0) (ho : OutShape (laws_eqLabel.as a0_0 a0_1 a1_0 a1_1) os) : rs = [[.d (.bool z0)]] ∧ os = [] := by
  unfold laws_eqLabel.dec at h
  obtain ⟨c1, r2, rfl, h1⟩ := uncons_some h
  obtain ⟨x3, l4, rfl, h2⟩ := uncons_some h1
  obtain ⟨d5, rfl, h3⟩ := cD_some h2
  obtain ⟨w0, rfl, h4⟩ := dBool_some h3
  obtain ⟨rfl, h5⟩ := atEnd_some h4
  obtain ⟨rfl, h6⟩ := atEnd_some h5
  obtain ⟨rfl, h7⟩ := atEnd_some h6
  obtain rfl := Option.some.inj h7
  exact ⟨rfl, rfl⟩
theorem laws_eqLabel.ok (k : Nat) : EntryOK Try.prog 137 (laws_eqLabel.e k) := by
  refine entry_of mix tyok (fn := Try.f137) (c := codeOf Try.f137) Try.func137 (by kernel_rfl) (h := laws_eqLabel.h) (k := k) (E := laws_eqLabel.E k) env_nil (by kernel_rfl) (by kernel_rfl) rfl (enter_of Try.func137 (by kernel_rfl)) ?_
  intro β l K r hr
  simp only [laws_eqLabel.e] at hr
  split at hr
  case h_2 => cases hr
  unfold laws_eqLabel.f at hr
  split at hr
  case h_2 => cases hr
  rename_i hz
  exact ⟨_, _, hr, _, laws_eqLabel.dec, _, (laws_eqLabel.f_eq k _ _ _ _ laws_eqLabel.dec).trans (by rw [laws_eqLabel.kt_dec]; exact hz), fun rs os h ho => laws_eqLabel.inj _ _ _ _ h ho⟩
/-! ### loop.example/g00119/laws.eqLabelS: function 76 -/
noncomputable def laws_eqLabelS.l0 {β : Type} (k : Nat) (v0_0 : List (List D)) (v0_1 : List (List D)) (K : Bool → Option β) (L0 : Int → Option β) (v : Int) : Option β :=
  match v with
  | v0_2 => bif (decide ((v0_2 : Int) < (v0_0.length : Int))) then (atRow v0_0 v0_2 fun c2 => uncons c2 fun d3 r4 => dStr d3 fun x5 => uncons r4 fun d6 r7 => dStr d6 fun x8 => atEnd r7 (atRow v0_1 v0_2 fun c9 => uncons c9 fun d10 r11 => dStr d10 fun x12 => uncons r11 fun d13 r14 => dStr d13 fun x15 => atEnd r14 (laws_eqLabel.f k x5 x8 x12 x15 (fun y16 => bif (!y16) then (K false) else (L0 (IntKind.wrap .i64 (v0_2 + 1))))))) else (K true)
noncomputable def laws_eqLabelS.g {β : Type} (k : Nat) (a0 : List (List D)) (a1 : List (List D)) (K : Bool → Option β) : Option β :=
  bif (((a0.length : Int) : Int) != (a1.length : Int)) then (K false) else (iter (laws_eqLabelS.l0 k a0 a1 K) k (0))
noncomputable def laws_eqLabelS.t (k : Nat) (a0 : List (List D)) (a1 : List (List D)) : Option (Bool) := laws_eqLabelS.g k a0 a1 (fun z0 => some z0)
noncomputable def laws_eqLabelS.f {β : Type} (k : Nat) (a0 : List (List D)) (a1 : List (List D)) (K : Bool → Option β) : Option β :=
  match laws_eqLabelS.t k a0 a1 with
  | some z0 => K z0
  | none => none
noncomputable def laws_eqLabelS.as (a0 : List (List D)) (a1 : List (List D)) : List A := [.d (.sl a0), .d (.sl a1)]
noncomputable def laws_eqLabelS.kt {β : Type} (a0 : List (List D)) (a1 : List (List D)) (K0 : List (List C) → List Out → Option β) : Bool → Option β := fun z0 => K0 [[.d (.bool z0)]] []
noncomputable def laws_eqLabelS.e (k : Nat) : Entry := { modes := [(.imm, 0), (.imm, 0)], rts := [4], al := false, run := fun {β} l K => match l with | [.d (.sl a0), .d (.sl a1)] => laws_eqLabelS.f k a0 a1 (laws_eqLabelS.kt a0 a1 K) | _ => none }
noncomputable def laws_eqLabelS.E (k : Nat) : Env := fun g => bif g == 137 then some (laws_eqLabel.e k) else none
noncomputable def laws_eqLabelS.h : Hints := ⟨fun n => bif n == 4 then ⟨[(0, .asis), (1, .asis), (5, .asis)], []⟩ else ⟨[], []⟩, fun _ => none, false, []⟩
noncomputable def laws_eqLabelS.s0 (v0_0 : List (List D)) (v0_1 : List (List D)) (v : Int) : St :=
  match v with
  | v0_2 => ⟨[.d false (.sl v0_0), .d false (.sl v0_1), .any, .any, .any, .d true (.int .i64 v0_2), .any, .any, .any, .any, .any, .any, .any, .any, .any, .any, .any, .any, .any, .any, .any, .any, .any, .any, .any, .any, .any], []⟩
noncomputable def laws_eqLabelS.b0 {β : Type} (k : Nat) : St → (Ex → St → Option β) → Option β := fun s K => den Try.prog (laws_eqLabelS.E k) laws_eqLabelS.h.H laws_eqLabelS.h.J k (codeAt [1, 1, 0, 1, 0, 0] (codeOf Try.f76)) s K
noncomputable def laws_eqLabelS.c0 {β : Type} (k : Nat) (a0 : List (List D)) (a1 : List (List D)) (K0 : List (List C) → List Out → Option β) : Ex → St → Option β := contAt Try.prog (laws_eqLabelS.E k) laws_eqLabelS.h k [1, 1, 0, 1, 0] (codeOf Try.f76) (finDen Try.prog Try.f76 laws_eqLabelS.h (laws_eqLabelS.as a0 a1) K0)
theorem laws_eqLabelS.l0_eq {β : Type} (k : Nat) (a0 : List (List D)) (a1 : List (List D)) (K0 : List (List C) → List Out → Option β) (v0_0 : List (List D)) (v0_1 : List (List D)) : ∀ (kk : Nat) (v : Int), loopDen (laws_eqLabelS.b0 k) (laws_eqLabelS.h.H 4) kk (laws_eqLabelS.s0 v0_0 v0_1 v) (laws_eqLabelS.c0 k a0 a1 K0) = iter (laws_eqLabelS.l0 k v0_0 v0_1 (laws_eqLabelS.kt a0 a1 K0)) kk v :=
  loop_eq (laws_eqLabelS.s0 v0_0 v0_1) _ (fun L0 v => by kernel_rfl)
noncomputable def laws_eqLabelS.m {β : Type} (k : Nat) (a0 : List (List D)) (a1 : List (List D)) (K0 : List (List C) → List Out → Option β) (F : ((List (List D)) → (List (List D)) → Int → Option β)) : Option β :=
  bif (((a0.length : Int) : Int) != (a1.length : Int)) then ((laws_eqLabelS.kt a0 a1 K0) false) else ((F) a0 a1 (0))
theorem laws_eqLabelS.f_eq {β : Type} (k : Nat) (a0 : List (List D)) (a1 : List (List D)) (K0 : List (List C) → List Out → Option β) : funDen Try.prog (laws_eqLabelS.E k) laws_eqLabelS.h k Try.f76 (laws_eqLabelS.as a0 a1) K0 = laws_eqLabelS.g k a0 a1 (laws_eqLabelS.kt a0 a1 K0) := Eq.trans (b := (laws_eqLabelS.m k a0 a1 K0) (fun (v0_0 : List (List D)) (v0_1 : List (List D)) (v : Int) => loopDen (laws_eqLabelS.b0 k) (laws_eqLabelS.h.H 4) k (laws_eqLabelS.s0 v0_0 v0_1 v) (laws_eqLabelS.c0 k a0 a1 K0))) (by kernel_rfl) (Eq.trans (congrArg (laws_eqLabelS.m k a0 a1 K0) (funext fun v0_0 => funext fun v0_1 => funext fun v => laws_eqLabelS.l0_eq k a0 a1 K0 v0_0 v0_1 k v)) (by kernel_rfl))
noncomputable def laws_eqLabelS.dec (rs : List (List C)) (os : List Out) : Option (Bool) := uncons rs fun c1 r2 => uncons c1 fun x3 l4 => cD x3 fun d5 => dBool d5 fun w0 => atEnd l4 <| atEnd r2 <| atEnd os (some w0)
theorem laws_eqLabelS.kt_dec (a0 : List (List D)) (a1 : List (List D)) : laws_eqLabelS.kt a0 a1 laws_eqLabelS.dec = (fun z0 => some z0) := by kernel_rfl
theorem laws_eqLabelS.inj (a0 : List (List D)) (a1 : List (List D)) {rs : List (List C)} {os : List Out} {z0 : Bool} (h : laws_eqLabelS.dec rs os = some z0) (ho : OutShape (laws_eqLabelS.as a0 a1) os) : rs = [[.d (.bool z0)]] ∧ os = [] := by
  unfold laws_eqLabelS.dec at h
  obtain ⟨c1, r2, rfl, h1⟩ := uncons_some h
  obtain ⟨x3, l4, rfl, h2⟩ := uncons_some h1
  obtain ⟨d5, rfl, h3⟩ := cD_some h2
  obtain ⟨w0, rfl, h4⟩ := dBool_some h3
  obtain ⟨rfl, h5⟩ := atEnd_some h4
  obtain ⟨rfl, h6⟩ := atEnd_some h5
  obtain ⟨rfl, h7⟩ := atEnd_some h6
  obtain rfl := Option.some.inj h7
  exact ⟨rfl, rfl⟩
theorem laws_eqLabelS.ok (k : Nat) : EntryOK Try.prog 76 (laws_eqLabelS.e k) := by
  refine entry_of mix tyok (fn := Try.f76) (c := codeOf Try.f76) Try.func76 (by kernel_rfl) (h := laws_eqLabelS.h) (k := k) (E := laws_eqLabelS.E k) (env_cons (laws_eqLabel.ok k) env_nil) (by kernel_rfl) (by kernel_rfl) rfl (enter_of Try.func76 (by kernel_rfl)) ?_
  intro β l K r hr
  simp only [laws_eqLabelS.e] at hr
  split at hr
  case h_2 => cases hr
  unfold laws_eqLabelS.f at hr
  split at hr
  case h_2 => cases hr
  rename_i hz
  exact ⟨_, _, hr, _, laws_eqLabelS.dec, _, (laws_eqLabelS.f_eq k _ _ laws_eqLabelS.dec).trans (by rw [laws_eqLabelS.kt_dec]; exact hz), fun rs os h ho => laws_eqLabelS.inj _ _ h ho⟩
/-! ### loop.example/g00119/laws.eqStringS: function 77 -/
noncomputable def laws_eqStringS.l0 {β : Type} (k : Nat) (v0_0 : List (List D)) (v0_1 : List (List D)) (K : Bool → Option β) (L0 : Int → Option β) (v : Int) : Option β :=
  match v with
  | v0_2 => bif (decide ((v0_2 : Int) < (v0_0.length : Int))) then (atRow v0_0 v0_2 fun c9 => uncons c9 fun d10 r11 => dStr d10 fun x12 => atEnd r11 (atRow v0_1 v0_2 fun c13 => uncons c13 fun d14 r15 => dStr d14 fun x16 => atEnd r15 (bif (!(strEq x12 x16)) then (K false) else (L0 (IntKind.wrap .i64 (v0_2 + 1)))))) else (K true)
noncomputable def laws_eqStringS.g {β : Type} (k : Nat) (a0 : List (List D)) (a1 : List (List D)) (K : Bool → Option β) : Option β :=
  bif (((a0.length : Int) : Int) != (a1.length : Int)) then (K false) else (iter (laws_eqStringS.l0 k a0 a1 K) k (0))
noncomputable def laws_eqStringS.t (k : Nat) (a0 : List (List D)) (a1 : List (List D)) : Option (Bool) := laws_eqStringS.g k a0 a1 (fun z0 => some z0)
noncomputable def laws_eqStringS.f {β : Type} (k : Nat) (a0 : List (List D)) (a1 : List (List D)) (K : Bool → Option β) : Option β :=
  match laws_eqStringS.t k a0 a1 with
  | some z0 => K z0
  | none => none
noncomputable def laws_eqStringS.as (a0 : List (List D)) (a1 : List (List D)) : List A := [.d (.sl a0), .d (.sl a1)]
noncomputable def laws_eqStringS.kt {β : Type} (a0 : List (List D)) (a1 : List (List D)) (K0 : List (List C) → List Out → Option β) : Bool → Option β := fun z0 => K0 [[.d (.bool z0)]] []
noncomputable def laws_eqStringS.e (k : Nat) : Entry := { modes := [(.imm, 0), (.imm, 0)], rts := [4], al := false, run := fun {β} l K => match l with | [.d (.sl a0), .d (.sl a1)] => laws_eqStringS.f k a0 a1 (laws_eqStringS.kt a0 a1 K) | _ => none }
noncomputable def laws_eqStringS.E (k : Nat) : Env := fun g => none
noncomputable def laws_eqStringS.h : Hints := ⟨fun n => bif n == 4 then ⟨[(0, .asis), (1, .asis), (5, .asis)], []⟩ else ⟨[], []⟩, fun _ => none, false, []⟩
noncomputable def laws_eqStringS.s0 (v0_0 : List (List D)) (v0_1 : List (List D)) (v : Int) : St :=
  match v with
  | v0_2 => ⟨[.d false (.sl v0_0), .d false (.sl v0_1), .any, .any, .any, .d true (.int .i64 v0_2), .any, .any, .any, .any, .any, .any, .any, .any, .any, .any, .any, .any, .any, .any, .any, .any, .any, .any, .any, .any], []⟩
noncomputable def laws_eqStringS.b0 {β : Type} (k : Nat) : St → (Ex → St → Option β) → Option β := fun s K => den Try.prog (laws_eqStringS.E k) laws_eqStringS.h.H laws_eqStringS.h.J k (codeAt [1, 1, 0, 1, 0, 0] (codeOf Try.f77)) s K
noncomputable def laws_eqStringS.c0 {β : Type} (k : Nat) (a0 : List (List D)) (a1 : List (List D)) (K0 : List (List C) → List Out → Option β) : Ex → St → Option β := contAt Try.prog (laws_eqStringS.E k) laws_eqStringS.h k [1, 1, 0, 1, 0] (codeOf Try.f77) (finDen Try.prog Try.f77 laws_eqStringS.h (laws_eqStringS.as a0 a1) K0)
theorem laws_eqStringS.l0_eq {β : Type} (k : Nat) (a0 : List (List D)) (a1 : List (List D)) (K0 : List (List C) → List Out → Option β) (v0_0 : List (List D)) (v0_1 : List (List D)) : ∀ (kk : Nat) (v : Int), loopDen (laws_eqStringS.b0 k) (laws_eqStringS.h.H 4) kk (laws_eqStringS.s0 v0_0 v0_1 v) (laws_eqStringS.c0 k a0 a1 K0) = iter (laws_eqStringS.l0 k v0_0 v0_1 (laws_eqStringS.kt a0 a1 K0)) kk v :=
  loop_eq (laws_eqStringS.s0 v0_0 v0_1) _ (fun L0 v => by kernel_rfl)
noncomputable def laws_eqStringS.m {β : Type} (k : Nat) (a0 : List (List D)) (a1 : List (List D)) (K0 : List (List C) → List Out → Option β) (F : ((List (List D)) → (List (List D)) → Int → Option β)) : Option β :=
  bif (((a0.length : Int) : Int) != (a1.length : Int)) then ((laws_eqStringS.kt a0 a1 K0) false) else ((F) a0 a1 (0))
theorem laws_eqStringS.f_eq {β : Type} (k : Nat) (a0 : List (List D)) (a1 : List (List D)) (K0 : List (List C) → List Out → Option β) : funDen Try.prog (laws_eqStringS.E k) laws_eqStringS.h k Try.f77 (laws_eqStringS.as a0 a1) K0 = laws_eqStringS.g k a0 a1 (laws_eqStringS.kt a0 a1 K0) := Eq.trans (b := (laws_eqStringS.m k a0 a1 K0) (fun (v0_0 : List (List D)) (v0_1 : List (List D)) (v : Int) => loopDen (laws_eqStringS.b0 k) (laws_eqStringS.h.H 4) k (laws_eqStringS.s0 v0_0 v0_1 v) (laws_eqStringS.c0 k a0 a1 K0))) (by kernel_rfl) (Eq.trans (congrArg (laws_eqStringS.m k a0 a1 K0) (funext fun v0_0 => funext fun v0_1 => funext fun v => laws_eqStringS.l0_eq k a0 a1 K0 v0_0 v0_1 k v)) (by kernel_rfl))
noncomputable def laws_eqStringS.dec (rs : List (List C)) (os : List Out) : Option (Bool) := uncons rs fun c1 r2 => uncons c1 fun x3 l4 => cD x3 fun d5 => dBool d5 fun w0 => atEnd l4 <| atEnd r2 <| atEnd os (some w0)
theorem laws_eqStringS.kt_dec (a0 : List (List D)) (a1 : List (List D)) : laws_eqStringS.kt a0 a1 laws_eqStringS.dec = (fun z0 => some z0) := by kernel_rfl
theorem laws_eqStringS.inj (a0 : List (List D)) (a1 : List (List D)) {rs : List (List C)} {os : List Out} {z0 : Bool} (h : laws_eqStringS.dec rs os = some z0) (ho : OutShape (laws_eqStringS.as a0 a1) os) : rs = [[.d (.bool z0)]] ∧ os = [] := by
  unfold laws_eqStringS.dec at h
  obtain ⟨c1, r2, rfl, h1⟩ := uncons_some h
  obtain ⟨x3, l4, rfl, h2⟩ := uncons_some h1
  obtain ⟨d5, rfl, h3⟩ := cD_some h2
  obtain ⟨w0, rfl, h4⟩ := dBool_some h3
  obtain ⟨rfl, h5⟩ := atEnd_some h4
  obtain ⟨rfl, h6⟩ := atEnd_some h5
  obtain ⟨rfl, h7⟩ := atEnd_some h6
  obtain rfl := Option.some.inj h7
  exact ⟨rfl, rfl⟩
theorem laws_eqStringS.ok (k : Nat) : EntryOK Try.prog 77 (laws_eqStringS.e k) := by
  refine entry_of mix tyok (fn := Try.f77) (c := codeOf Try.f77) Try.func77 (by kernel_rfl) (h := laws_eqStringS.h) (k := k) (E := laws_eqStringS.E k) env_nil (by kernel_rfl) (by kernel_rfl) rfl (enter_of Try.func77 (by kernel_rfl)) ?_
  intro β l K r hr
  simp only [laws_eqStringS.e] at hr
  split at hr
  case h_2 => cases hr
  unfold laws_eqStringS.f at hr
  split at hr
  case h_2 => cases hr
  rename_i hz
  exact ⟨_, _, hr, _, laws_eqStringS.dec, _, (laws_eqStringS.f_eq k _ _ laws_eqStringS.dec).trans (by rw [laws_eqStringS.kt_dec]; exact hz), fun rs os h ho => laws_eqStringS.inj _ _ h ho⟩
/-! ### loop.example/g00119/laws.eqIsland: function 19 -/
noncomputable def laws_eqIsland.g {β : Type} (k : Nat) (a0_0 : ByteArray) (a0_1 : List (List D)) (a0_2 : List (List D)) (a0_3 : Int) (a1_0 : ByteArray) (a1_1 : List (List D)) (a1_2 : List (List D)) (a1_3 : Int) (K : Bool → Option β) : Option β :=
  bif (!(strEq a0_0 a1_0)) then (K false) else (laws_eqLabelS.f k a0_1 a1_1 (fun y17 => bif (!y17) then (K false) else (laws_eqStringS.f k a0_2 a1_2 (fun y17 => bif (!y17) then (K false) else (bif ((a0_3 : Int) != a1_3) then (K false) else (K true))))))
noncomputable def laws_eqIsland.t (k : Nat) (a0_0 : ByteArray) (a0_1 : List (List D)) (a0_2 : List (List D)) (a0_3 : Int) (a1_0 : ByteArray) (a1_1 : List (List D)) (a1_2 : List (List D)) (a1_3 : Int) : Option (Bool) := laws_eqIsland.g k a0_0 a0_1 a0_2 a0_3 a1_0 a1_1 a1_2 a1_3 (fun z0 => some z0)
noncomputable def laws_eqIsland.f {β : Type} (k : Nat) (a0_0 : ByteArray) (a0_1 : List (List D)) (a0_2 : List (List D)) (a0_3 : Int) (a1_0 : ByteArray) (a1_1 : List (List D)) (a1_2 : List (List D)) (a1_3 : Int) (K : Bool → Option β) : Option β :=
  match laws_eqIsland.t k a0_0 a0_1 a0_2 a0_3 a1_0 a1_1 a1_2 a1_3 with
  | some z0 => K z0
  | none => none
noncomputable def laws_eqIsland.as (a0_0 : ByteArray) (a0_1 : List (List D)) (a0_2 : List (List D)) (a0_3 : Int) (a1_0 : ByteArray) (a1_1 : List (List D)) (a1_2 : List (List D)) (a1_3 : Int) : List A := [.agg [.str a0_0, .sl a0_1, .sl a0_2, .int .i64 a0_3], .agg [.str a1_0, .sl a1_1, .sl a1_2, .int .i64 a1_3]]
noncomputable def laws_eqIsland.kt {β : Type} (a0_0 : ByteArray) (a0_1 : List (List D)) (a0_2 : List (List D)) (a0_3 : Int) (a1_0 : ByteArray) (a1_1 : List (List D)) (a1_2 : List (List D)) (a1_3 : Int) (K0 : List (List C) → List Out → Option β) : Bool → Option β := fun z0 => K0 [[.d (.bool z0)]] []
noncomputable def laws_eqIsland.e (k : Nat) : Entry := { modes := [(.imm, 0), (.imm, 0)], rts := [4], al := false, run := fun {β} l K => match l with | [.agg [.str a0_0, .sl a0_1, .sl a0_2, .int .i64 a0_3], .agg [.str a1_0, .sl a1_1, .sl a1_2, .int .i64 a1_3]] => laws_eqIsland.f k a0_0 a0_1 a0_2 a0_3 a1_0 a1_1 a1_2 a1_3 (laws_eqIsland.kt a0_0 a0_1 a0_2 a0_3 a1_0 a1_1 a1_2 a1_3 K) | _ => none }
noncomputable def laws_eqIsland.E (k : Nat) : Env := fun g => bif g == 76 then some (laws_eqLabelS.e k) else bif g == 77 then some (laws_eqStringS.e k) else none
noncomputable def laws_eqIsland.h : Hints := ⟨fun n => ⟨[], []⟩, fun _ => none, false, []⟩
theorem laws_eqIsland.f_eq {β : Type} (k : Nat) (a0_0 : ByteArray) (a0_1 : List (List D)) (a0_2 : List (List D)) (a0_3 : Int) (a1_0 : ByteArray) (a1_1 : List (List D)) (a1_2 : List (List D)) (a1_3 : Int) (K0 : List (List C) → List Out → Option β) : funDen Try.prog (laws_eqIsland.E k) laws_eqIsland.h k Try.f19 (laws_eqIsland.as a0_0 a0_1 a0_2 a0_3 a1_0 a1_1 a1_2 a1_3) K0 = laws_eqIsland.g k a0_0 a0_1 a0_2 a0_3 a1_0 a1_1 a1_2 a1_3 (laws_eqIsland.kt a0_0 a0_1 a0_2 a0_3 a1_0 a1_1 a1_2 a1_3 K0) := by kernel_rfl
noncomputable def laws_eqIsland.dec (rs : List (List C)) (os : List Out) : Option (Bool) := uncons rs fun c1 r2 => uncons c1 fun x3 l4 => cD x3 fun d5 => dBool d5 fun w0 => atEnd l4 <| atEnd r2 <| atEnd os (some w0)
theorem laws_eqIsland.kt_dec (a0_0 : ByteArray) (a0_1 : List (List D)) (a0_2 : List (List D)) (a0_3 : Int) (a1_0 : ByteArray) (a1_1 : List (List D)) (a1_2 : List (List D)) (a1_3 : Int) : laws_eqIsland.kt a0_0 a0_1 a0_2 a0_3 a1_0 a1_1 a1_2 a1_3 laws_eqIsland.dec = (fun z0 => some z0) := by kernel_rfl
theorem laws_eqIsland.inj (a0_0 : ByteArray) (a0_1 : List (List D)) (a0_2 : List (List D)) (a0_3 : Int) (a1_0 : ByteArray) (a1_1 : List (List D)) (a1_2 : List (List D)) (a1_3 : Int) {rs : List (List C)} {os : List Out} {z0 : Bool} (h : laws_eqIsland.dec rs os = some z0) (ho : OutShape (laws_eqIsland.as a0_0 a0_1 a0_2 a0_3 a1_0 a1_1 a1_2 a1_3) os) : rs = [[.d (.bool z0)]] ∧ os = [] := by
  unfold laws_eqIsland.dec at h
  obtain ⟨c1, r2, rfl, h1⟩ := uncons_some h
  obtain ⟨x3, l4, rfl, h2⟩ := uncons_some h1
  obtain ⟨d5, rfl, h3⟩ := cD_some h2
  obtain ⟨w0, rfl, h4⟩ := dBool_some h3
  obtain ⟨rfl, h5⟩ := atEnd_some h4
  obtain ⟨rfl, h6⟩ := atEnd_some h5
  obtain ⟨rfl, h7⟩ := atEnd_some h6
  obtain rfl := Option.some.inj h7
  exact ⟨rfl, rfl⟩
theorem laws_eqIsland.ok (k : Nat) : EntryOK Try.prog 19 (laws_eqIsland.e k) := by
  refine entry_of mix tyok (fn := Try.f19) (c := codeOf Try.f19) Try.func19 (by kernel_rfl) (h := laws_eqIsland.h) (k := k) (E := laws_eqIsland.E k) (env_cons (laws_eqLabelS.ok k) (env_cons (laws_eqStringS.ok k) env_nil)) (by kernel_rfl) (by kernel_rfl) rfl (enter_of Try.func19 (by kernel_rfl)) ?_
  intro β l K r hr
  simp only [laws_eqIsland.e] at hr
  split at hr
  case h_2 => cases hr
  unfold laws_eqIsland.f at hr
  split at hr
  case h_2 => cases hr
  rename_i hz
  exact ⟨_, _, hr, _, laws_eqIsland.dec, _, (laws_eqIsland.f_eq k _ _ _ _ _ _ _ _ laws_eqIsland.dec).trans (by rw [laws_eqIsland.kt_dec]; exact hz), fun rs os h ho => laws_eqIsland.inj _ _ _ _ _ _ _ _ h ho⟩
/-! ### loop.example/g00119/laws.FnExactIslandOk: function 3 -/
noncomputable def laws_FnExactIslandOk.g {β : Type} (k : Nat) (a0_0 : ByteArray) (a0_1 : List (List D)) (a0_2 : List (List D)) (a0_3 : Int) (K : Bool → Option β) : Option β :=
  laws_szIsland.f k a0_0 a0_1 a0_2 a0_3 1048576 (fun y10 => bif (decide ((y10 : Int) < 0)) then (K true) else (laws_toIsland.f k a0_0 a0_1 a0_2 a0_3 (fun y10 y11 y12 y13 => spec_IslandOk.f k y10 (C.immRows y11) (C.immRows y12) y13 (fun y29 => laws_toIsland.f k a0_0 a0_1 a0_2 a0_3 (fun y30 y31 y32 y33 => impl_IslandOk.f k y30 (C.immRows y31) (C.immRows y32) y33 (fun y3 => bif (!(y3 == y29)) then (K false) else (laws_toIsland.f k a0_0 a0_1 a0_2 a0_3 (fun y4 y5 y6 y7 => laws_eqIsland.f k y30 (C.immRows y31) (C.immRows y32) y33 y4 (C.immRows y5) (C.immRows y6) y7 (fun y18 => bif (!y18) then (K false) else (K true))))))))))
noncomputable def laws_FnExactIslandOk.t (k : Nat) (a0_0 : ByteArray) (a0_1 : List (List D)) (a0_2 : List (List D)) (a0_3 : Int) : Option (Bool) := laws_FnExactIslandOk.g k a0_0 a0_1 a0_2 a0_3 (fun z0 => some z0)
noncomputable def laws_FnExactIslandOk.f {β : Type} (k : Nat) (a0_0 : ByteArray) (a0_1 : List (List D)) (a0_2 : List (List D)) (a0_3 : Int) (K : Bool → Option β) : Option β :=
  match laws_FnExactIslandOk.t k a0_0 a0_1 a0_2 a0_3 with
  | some z0 => K z0
  | none => none
noncomputable def laws_FnExactIslandOk.as (a0_0 : ByteArray) (a0_1 : List (List D)) (a0_2 : List (List D)) (a0_3 : Int) : List A := [.agg [.str a0_0, .sl a0_1, .sl a0_2, .int .i64 a0_3]]
noncomputable def laws_FnExactIslandOk.kt {β : Type} (a0_0 : ByteArray) (a0_1 : List (List D)) (a0_2 : List (List D)) (a0_3 : Int) (K0 : List (List C) → List Out → Option β) : Bool → Option β := fun z0 => K0 [[.d (.bool z0)]] []
noncomputable def laws_FnExactIslandOk.e (k : Nat) : Entry := { modes := [(.imm, 0)], rts := [4], al := false, run := fun {β} l K => match l with | [.agg [.str a0_0, .sl a0_1, .sl a0_2, .int .i64 a0_3]] => laws_FnExactIslandOk.f k a0_0 a0_1 a0_2 a0_3 (laws_FnExactIslandOk.kt a0_0 a0_1 a0_2 a0_3 K) | _ => none }
noncomputable def laws_FnExactIslandOk.E (k : Nat) : Env := fun g => bif g == 15 then some (laws_szIsland.e k) else bif g == 17 then some (laws_toIsland.e k) else bif g == 16 then some (spec_IslandOk.e k) else bif g == 18 then some (impl_IslandOk.e k) else bif g == 19 then some (laws_eqIsland.e k) else none
noncomputable def laws_FnExactIslandOk.h : Hints := ⟨fun n => ⟨[], []⟩, fun _ => none, false, []⟩
theorem laws_FnExactIslandOk.f_eq {β : Type} (k : Nat) (a0_0 : ByteArray) (a0_1 : List (List D)) (a0_2 : List (List D)) (a0_3 : Int) (K0 : List (List C) → List Out → Option β) : funDen Try.prog (laws_FnExactIslandOk.E k) laws_FnExactIslandOk.h k Try.f3 (laws_FnExactIslandOk.as a0_0 a0_1 a0_2 a0_3) K0 = laws_FnExactIslandOk.g k a0_0 a0_1 a0_2 a0_3 (laws_FnExactIslandOk.kt a0_0 a0_1 a0_2 a0_3 K0) := by kernel_rfl
noncomputable def laws_FnExactIslandOk.dec (rs : List (List C)) (os : List Out) : Option (Bool) := uncons rs fun c1 r2 => uncons c1 fun x3 l4 => cD x3 fun d5 => dBool d5 fun w0 => atEnd l4 <| atEnd r2 <| atEnd os (some w0)
theorem laws_FnExactIslandOk.kt_dec (a0_0 : ByteArray) (a0_1 : List (List D)) (a0_2 : List (List D)) (a0_3 : Int) : laws_FnExactIslandOk.kt a0_0 a0_1 a0_2 a0_3 laws_FnExactIslandOk.dec = (fun z0 => some z0) := by kernel_rfl
theorem laws_FnExactIslandOk.inj (a0_0 : ByteArray) (a0_1 : List (List D)) (a0_2 : List (List D)) (a0_3 : Int) {rs : List (List C)} {os : List Out} {z0 : Bool} (h : laws_FnExactIslandOk.dec rs os = some z0) (ho : OutShape (laws_FnExactIslandOk.as a0_0 a0_1 a0_2 a0_3) os) : rs = [[.d (.bool z0)]] ∧ os = [] := by
  unfold laws_FnExactIslandOk.dec at h
  obtain ⟨c1, r2, rfl, h1⟩ := uncons_some h
  obtain ⟨x3, l4, rfl, h2⟩ := uncons_some h1
  obtain ⟨d5, rfl, h3⟩ := cD_some h2
  obtain ⟨w0, rfl, h4⟩ := dBool_some h3
  obtain ⟨rfl, h5⟩ := atEnd_some h4
  obtain ⟨rfl, h6⟩ := atEnd_some h5
  obtain ⟨rfl, h7⟩ := atEnd_some h6
  obtain rfl := Option.some.inj h7
  exact ⟨rfl, rfl⟩
theorem laws_FnExactIslandOk.ok (k : Nat) : EntryOK Try.prog 3 (laws_FnExactIslandOk.e k) := by
  refine entry_of mix tyok (fn := Try.f3) (c := codeOf Try.f3) Try.func3 (by kernel_rfl) (h := laws_FnExactIslandOk.h) (k := k) (E := laws_FnExactIslandOk.E k) (env_cons (laws_szIsland.ok k) (env_cons (laws_toIsland.ok k) (env_cons (spec_IslandOk.ok k) (env_cons (impl_IslandOk.ok k) (env_cons (laws_eqIsland.ok k) env_nil))))) (by kernel_rfl) (by kernel_rfl) rfl (enter_of Try.func3 (by kernel_rfl)) ?_
  intro β l K r hr
  simp only [laws_FnExactIslandOk.e] at hr
  split at hr
  case h_2 => cases hr
  unfold laws_FnExactIslandOk.f at hr
  split at hr
  case h_2 => cases hr
  rename_i hz
  exact ⟨_, _, hr, _, laws_FnExactIslandOk.dec, _, (laws_FnExactIslandOk.f_eq k _ _ _ _ laws_FnExactIslandOk.dec).trans (by rw [laws_FnExactIslandOk.kt_dec]; exact hz), fun rs os h ho => laws_FnExactIslandOk.inj _ _ _ _ h ho⟩
end Go.Proofs.Ytnlhhhkeigjnoaa
