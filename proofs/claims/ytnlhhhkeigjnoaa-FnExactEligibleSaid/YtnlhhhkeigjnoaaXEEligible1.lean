/- Printed: the functions that FnExactEligible reaches, read by the evaluator, each with its contract. -/
import Derived.Test.YtnlhhhkeigjnoaaXEEligible0
import Derived.KernelRfl
set_option linter.unusedVariables false
set_option linter.unusedSimpArgs false
namespace Go.Proofs.Ytnlhhhkeigjnoaa
open Go Go.T Go.Proofs
/-! ### loop.example/g00119/impl.Eligible$1: function 117 -/
noncomputable def impl_Eligible_1.g {β : Type} (k : Nat) (a0 : ByteArray) (f0_0 : Int) (f0_1 : List (List D)) (f0_2 : List (List D)) (f0_3 : List (List D)) (K : Bool → Option β) : Option β :=
  slices_Contains_string.f k f0_2 a0 (fun y1 => K (!y1))
noncomputable def impl_Eligible_1.t (k : Nat) (a0 : ByteArray) (f0_0 : Int) (f0_1 : List (List D)) (f0_2 : List (List D)) (f0_3 : List (List D)) : Option (Bool) := impl_Eligible_1.g k a0 f0_0 f0_1 f0_2 f0_3 (fun z0 => some z0)
noncomputable def impl_Eligible_1.f {β : Type} (k : Nat) (a0 : ByteArray) (f0_0 : Int) (f0_1 : List (List D)) (f0_2 : List (List D)) (f0_3 : List (List D)) (K : Bool → Option β) : Option β :=
  match impl_Eligible_1.t k a0 f0_0 f0_1 f0_2 f0_3 with
  | some z0 => K z0
  | none => none
noncomputable def impl_Eligible_1.as (a0 : ByteArray) (f0_0 : Int) (f0_1 : List (List D)) (f0_2 : List (List D)) (f0_3 : List (List D)) : List A := [.d (.str a0), .ip [.int .i64 f0_0, .sl f0_1, .sl f0_2, .sl f0_3]]
noncomputable def impl_Eligible_1.kt {β : Type} (a0 : ByteArray) (f0_0 : Int) (f0_1 : List (List D)) (f0_2 : List (List D)) (f0_3 : List (List D)) (K0 : List (List C) → List Out → Option β) : Bool → Option β := fun z0 => K0 [[.d (.bool z0)]] []
noncomputable def impl_Eligible_1.e (k : Nat) : Entry := { modes := [(.imm, 0), (.imm, 0)], rts := [4], al := false, run := fun {β} l K => match l with | [.d (.str a0), .ip [.int .i64 f0_0, .sl f0_1, .sl f0_2, .sl f0_3]] => impl_Eligible_1.f k a0 f0_0 f0_1 f0_2 f0_3 (impl_Eligible_1.kt a0 f0_0 f0_1 f0_2 f0_3 K) | _ => none }
noncomputable def impl_Eligible_1.E (k : Nat) : Env := fun g => bif g == 90 then some (slices_Contains_string.e k) else none
noncomputable def impl_Eligible_1.h : Hints := ⟨fun n => ⟨[], []⟩, fun _ => none, false, []⟩
theorem impl_Eligible_1.f_eq {β : Type} (k : Nat) (a0 : ByteArray) (f0_0 : Int) (f0_1 : List (List D)) (f0_2 : List (List D)) (f0_3 : List (List D)) (K0 : List (List C) → List Out → Option β) : funDen Try.prog (impl_Eligible_1.E k) impl_Eligible_1.h k Try.f117 (impl_Eligible_1.as a0 f0_0 f0_1 f0_2 f0_3) K0 = impl_Eligible_1.g k a0 f0_0 f0_1 f0_2 f0_3 (impl_Eligible_1.kt a0 f0_0 f0_1 f0_2 f0_3 K0) := by kernel_rfl
noncomputable def impl_Eligible_1.dec (rs : List (List C)) (os : List Out) : Option (Bool) := uncons rs fun c1 r2 => uncons c1 fun x3 l4 => cD x3 fun d5 => dBool d5 fun w0 => atEnd l4 <| atEnd r2 <| atEnd os (some w0)
theorem impl_Eligible_1.kt_dec (a0 : ByteArray) (f0_0 : Int) (f0_1 : List (List D)) (f0_2 : List (List D)) (f0_3 : List (List D)) : impl_Eligible_1.kt a0 f0_0 f0_1 f0_2 f0_3 impl_Eligible_1.dec = (fun z0 => some z0) := by kernel_rfl
theorem impl_Eligible_1.inj (a0 : ByteArray) (f0_0 : Int) (f0_1 : List (List D)) (f0_2 : List (List D)) (f0_3 : List (List D)) {rs : List (List C)} {os : List Out} {z0 : Bool} (h : impl_Eligible_1.dec rs os = some z0) (ho : OutShape (impl_Eligible_1.as a0 f0_0 f0_1 f0_2 f0_3) os) : rs = [[.d (.bool z0)]] ∧ os = [] := by
  unfold impl_Eligible_1.dec at h
  obtain ⟨c1, r2, rfl, h1⟩ := uncons_some h
  obtain ⟨x3, l4, rfl, h2⟩ := uncons_some h1
  obtain ⟨d5, rfl, h3⟩ := cD_some h2
  obtain ⟨w0, rfl, h4⟩ := dBool_some h3
  obtain ⟨rfl, h5⟩ := atEnd_some h4
  obtain ⟨rfl, h6⟩ := atEnd_some h5
  obtain ⟨rfl, h7⟩ := atEnd_some h6
  obtain rfl := Option.some.inj h7
  exact ⟨rfl, rfl⟩
theorem impl_Eligible_1.ok (k : Nat) : EntryOK Try.prog 117 (impl_Eligible_1.e k) := by
  refine entry_of mix tyok (fn := Try.f117) (c := codeOf Try.f117) Try.func117 (by kernel_rfl) (h := impl_Eligible_1.h) (k := k) (E := impl_Eligible_1.E k) (env_cons (slices_Contains_string.ok k) env_nil) (by kernel_rfl) (by kernel_rfl) rfl (enter_of Try.func117 (by kernel_rfl)) ?_
  intro β l K r hr
  simp only [impl_Eligible_1.e] at hr
  split at hr
  case h_2 => cases hr
  unfold impl_Eligible_1.f at hr
  split at hr
  case h_2 => cases hr
  rename_i hz
  exact ⟨_, _, hr, _, impl_Eligible_1.dec, _, (impl_Eligible_1.f_eq k _ _ _ _ _ impl_Eligible_1.dec).trans (by rw [impl_Eligible_1.kt_dec]; exact hz), fun rs os h ho => impl_Eligible_1.inj _ _ _ _ _ h ho⟩
/-! ### slices.IndexFunc[[]string,string]: function 170 -/
noncomputable def slices_IndexFunc_string__impl_Eligible_1.l0 {β : Type} (k : Nat) (v0_0 : List (List D)) (v0_1 : Int) (v0_2 : List (List D)) (v0_3 : List (List D)) (v0_4 : List (List D)) (v0_5 : Int) (K : Int → Option β) (L0 : Int → Option β) (v : Int) : Option β :=
  match v with
  | v0_6 => bif (decide ((v0_6 : Int) < v0_5)) then (atRow v0_0 v0_6 fun c6 => uncons c6 fun d7 r8 => dStr d7 fun x9 => atEnd r8 (impl_Eligible_1.f k x9 v0_1 v0_2 v0_3 v0_4 (fun y10 => bif y10 then (K v0_6) else (L0 (IntKind.wrap .i64 (v0_6 + 1)))))) else (K (-1))
noncomputable def slices_IndexFunc_string__impl_Eligible_1.g {β : Type} (k : Nat) (a0 : List (List D)) (a1_0_0 : Int) (a1_0_1 : List (List D)) (a1_0_2 : List (List D)) (a1_0_3 : List (List D)) (K : Int → Option β) : Option β :=
  iter (slices_IndexFunc_string__impl_Eligible_1.l0 k a0 a1_0_0 a1_0_1 a1_0_2 a1_0_3 (a0.length : Int) K) k (0)
noncomputable def slices_IndexFunc_string__impl_Eligible_1.t (k : Nat) (a0 : List (List D)) (a1_0_0 : Int) (a1_0_1 : List (List D)) (a1_0_2 : List (List D)) (a1_0_3 : List (List D)) : Option (Int) := slices_IndexFunc_string__impl_Eligible_1.g k a0 a1_0_0 a1_0_1 a1_0_2 a1_0_3 (fun z0 => some z0)
noncomputable def slices_IndexFunc_string__impl_Eligible_1.f {β : Type} (k : Nat) (a0 : List (List D)) (a1_0_0 : Int) (a1_0_1 : List (List D)) (a1_0_2 : List (List D)) (a1_0_3 : List (List D)) (K : Int → Option β) : Option β :=
  match slices_IndexFunc_string__impl_Eligible_1.t k a0 a1_0_0 a1_0_1 a1_0_2 a1_0_3 with
  | some z0 => K z0
  | none => none
noncomputable def slices_IndexFunc_string__impl_Eligible_1.as (a0 : List (List D)) (a1_0_0 : Int) (a1_0_1 : List (List D)) (a1_0_2 : List (List D)) (a1_0_3 : List (List D)) : List A := [.d (.sl a0), .d (.fn 117 [[.int .i64 a1_0_0, .sl a1_0_1, .sl a1_0_2, .sl a1_0_3]])]
noncomputable def slices_IndexFunc_string__impl_Eligible_1.kt {β : Type} (a0 : List (List D)) (a1_0_0 : Int) (a1_0_1 : List (List D)) (a1_0_2 : List (List D)) (a1_0_3 : List (List D)) (K0 : List (List C) → List Out → Option β) : Int → Option β := fun z0 => K0 [[.d (.int .i64 z0)]] []
noncomputable def slices_IndexFunc_string__impl_Eligible_1.e (k : Nat) : Entry := { modes := [(.imm, 0), (.imm, 0)], rts := [3], al := false, run := fun {β} l K => match l with | [.d (.sl a0), .d (.fn 117 [[.int .i64 a1_0_0, .sl a1_0_1, .sl a1_0_2, .sl a1_0_3]])] => slices_IndexFunc_string__impl_Eligible_1.f k a0 a1_0_0 a1_0_1 a1_0_2 a1_0_3 (slices_IndexFunc_string__impl_Eligible_1.kt a0 a1_0_0 a1_0_1 a1_0_2 a1_0_3 K) | _ => none }
noncomputable def slices_IndexFunc_string__impl_Eligible_1.E (k : Nat) : Env := fun g => bif g == 117 then some (impl_Eligible_1.e k) else none
noncomputable def slices_IndexFunc_string__impl_Eligible_1.h : Hints := ⟨fun n => bif n == 2 then ⟨[(0, .asis), (1, .asis), (7, .asis), (8, .asis)], []⟩ else ⟨[], []⟩, fun _ => none, false, []⟩
noncomputable def slices_IndexFunc_string__impl_Eligible_1.s0 (v0_0 : List (List D)) (v0_1 : Int) (v0_2 : List (List D)) (v0_3 : List (List D)) (v0_4 : List (List D)) (v0_5 : Int) (v : Int) : St :=
  match v with
  | v0_6 => ⟨[.d false (.sl v0_0), .d false (.fn 117 [[.int .i64 v0_1, .sl v0_2, .sl v0_3, .sl v0_4]]), .any, .any, .any, .any, .any, .d true (.int .i64 v0_5), .d true (.int .i64 v0_6), .any, .any, .any, .any, .any, .any, .any, .any, .any, .any], []⟩
noncomputable def slices_IndexFunc_string__impl_Eligible_1.b0 {β : Type} (k : Nat) : St → (Ex → St → Option β) → Option β := fun s K => den Try.prog (slices_IndexFunc_string__impl_Eligible_1.E k) slices_IndexFunc_string__impl_Eligible_1.h.H slices_IndexFunc_string__impl_Eligible_1.h.J k (codeAt [1, 0, 1, 0, 0] (codeOf Try.f170)) s K
noncomputable def slices_IndexFunc_string__impl_Eligible_1.c0 {β : Type} (k : Nat) (a0 : List (List D)) (a1_0_0 : Int) (a1_0_1 : List (List D)) (a1_0_2 : List (List D)) (a1_0_3 : List (List D)) (K0 : List (List C) → List Out → Option β) : Ex → St → Option β := contAt Try.prog (slices_IndexFunc_string__impl_Eligible_1.E k) slices_IndexFunc_string__impl_Eligible_1.h k [1, 0, 1, 0] (codeOf Try.f170) (finDen Try.prog Try.f170 slices_IndexFunc_string__impl_Eligible_1.h (slices_IndexFunc_string__impl_Eligible_1.as a0 a1_0_0 a1_0_1 a1_0_2 a1_0_3) K0)
theorem slices_IndexFunc_string__impl_Eligible_1.l0_eq {β : Type} (k : Nat) (a0 : List (List D)) (a1_0_0 : Int) (a1_0_1 : List (List D)) (a1_0_2 : List (List D)) (a1_0_3 : List (List D)) (K0 : List (List C) → List Out → Option β) (v0_0 : List (List D)) (v0_1 : Int) (v0_2 : List (List D)) (v0_3 : List (List D)) (v0_4 : List (List D)) (v0_5 : Int) : ∀ (kk : Nat) (v : Int), loopDen (slices_IndexFunc_string__impl_Eligible_1.b0 k) (slices_IndexFunc_string__impl_Eligible_1.h.H 2) kk (slices_IndexFunc_string__impl_Eligible_1.s0 v0_0 v0_1 v0_2 v0_3 v0_4 v0_5 v) (slices_IndexFunc_string__impl_Eligible_1.c0 k a0 a1_0_0 a1_0_1 a1_0_2 a1_0_3 K0) = iter (slices_IndexFunc_string__impl_Eligible_1.l0 k v0_0 v0_1 v0_2 v0_3 v0_4 v0_5 (slices_IndexFunc_string__impl_Eligible_1.kt a0 a1_0_0 a1_0_1 a1_0_2 a1_0_3 K0)) kk v :=
  loop_eq (slices_IndexFunc_string__impl_Eligible_1.s0 v0_0 v0_1 v0_2 v0_3 v0_4 v0_5) _ (fun L0 v => by kernel_rfl)
noncomputable def slices_IndexFunc_string__impl_Eligible_1.m {β : Type} (k : Nat) (a0 : List (List D)) (a1_0_0 : Int) (a1_0_1 : List (List D)) (a1_0_2 : List (List D)) (a1_0_3 : List (List D)) (K0 : List (List C) → List Out → Option β) (F : ((List (List D)) → Int → (List (List D)) → (List (List D)) → (List (List D)) → Int → Int → Option β)) : Option β :=
  (F) a0 a1_0_0 a1_0_1 a1_0_2 a1_0_3 (a0.length : Int) (0)
theorem slices_IndexFunc_string__impl_Eligible_1.f_eq {β : Type} (k : Nat) (a0 : List (List D)) (a1_0_0 : Int) (a1_0_1 : List (List D)) (a1_0_2 : List (List D)) (a1_0_3 : List (List D)) (K0 : List (List C) → List Out → Option β) : funDen Try.prog (slices_IndexFunc_string__impl_Eligible_1.E k) slices_IndexFunc_string__impl_Eligible_1.h k Try.f170 (slices_IndexFunc_string__impl_Eligible_1.as a0 a1_0_0 a1_0_1 a1_0_2 a1_0_3) K0 = slices_IndexFunc_string__impl_Eligible_1.g k a0 a1_0_0 a1_0_1 a1_0_2 a1_0_3 (slices_IndexFunc_string__impl_Eligible_1.kt a0 a1_0_0 a1_0_1 a1_0_2 a1_0_3 K0) := Eq.trans (b := (slices_IndexFunc_string__impl_Eligible_1.m k a0 a1_0_0 a1_0_1 a1_0_2 a1_0_3 K0) (fun (v0_0 : List (List D)) (v0_1 : Int) (v0_2 : List (List D)) (v0_3 : List (List D)) (v0_4 : List (List D)) (v0_5 : Int) (v : Int) => loopDen (slices_IndexFunc_string__impl_Eligible_1.b0 k) (slices_IndexFunc_string__impl_Eligible_1.h.H 2) k (slices_IndexFunc_string__impl_Eligible_1.s0 v0_0 v0_1 v0_2 v0_3 v0_4 v0_5 v) (slices_IndexFunc_string__impl_Eligible_1.c0 k a0 a1_0_0 a1_0_1 a1_0_2 a1_0_3 K0))) (by kernel_rfl) (Eq.trans (congrArg (slices_IndexFunc_string__impl_Eligible_1.m k a0 a1_0_0 a1_0_1 a1_0_2 a1_0_3 K0) (funext fun v0_0 => funext fun v0_1 => funext fun v0_2 => funext fun v0_3 => funext fun v0_4 => funext fun v0_5 => funext fun v => slices_IndexFunc_string__impl_Eligible_1.l0_eq k a0 a1_0_0 a1_0_1 a1_0_2 a1_0_3 K0 v0_0 v0_1 v0_2 v0_3 v0_4 v0_5 k v)) (by kernel_rfl))
noncomputable def slices_IndexFunc_string__impl_Eligible_1.dec (rs : List (List C)) (os : List Out) : Option (Int) := uncons rs fun c1 r2 => uncons c1 fun x3 l4 => cD x3 fun d5 => dInt .i64 d5 fun w0 => atEnd l4 <| atEnd r2 <| atEnd os (some w0)
theorem slices_IndexFunc_string__impl_Eligible_1.kt_dec (a0 : List (List D)) (a1_0_0 : Int) (a1_0_1 : List (List D)) (a1_0_2 : List (List D)) (a1_0_3 : List (List D)) : slices_IndexFunc_string__impl_Eligible_1.kt a0 a1_0_0 a1_0_1 a1_0_2 a1_0_3 slices_IndexFunc_string__impl_Eligible_1.dec = (fun z0 => some z0) := by kernel_rfl
theorem slices_IndexFunc_string__impl_Eligible_1.inj (a0 : List (List D)) (a1_0_0 : Int) (a1_0_1 : List (List D)) (a1_0_2 : List (List D)) (a1_0_3 : List (List D)) {rs : List (List C)} {os : List Out} {z0 : Int} (h : slices_IndexFunc_string__impl_Eligible_1.dec rs os = some z0) (ho : OutShape (slices_IndexFunc_string__impl_Eligible_1.as a0 a1_0_0 a1_0_1 a1_0_2 a1_0_3) os) : rs = [[.d (.int .i64 z0)]] ∧ os = [] := by
  unfold slices_IndexFunc_string__impl_Eligible_1.dec at h
  obtain ⟨c1, r2, rfl, h1⟩ := uncons_some h
  obtain ⟨x3, l4, rfl, h2⟩ := uncons_some h1
  obtain ⟨d5, rfl, h3⟩ := cD_some h2
  obtain ⟨w0, rfl, h4⟩ := dInt_some h3
  obtain ⟨rfl, h5⟩ := atEnd_some h4
  obtain ⟨rfl, h6⟩ := atEnd_some h5
  obtain ⟨rfl, h7⟩ := atEnd_some h6
  obtain rfl := Option.some.inj h7
  exact ⟨rfl, rfl⟩
theorem slices_IndexFunc_string__impl_Eligible_1.ok (k : Nat) : EntryOK Try.prog 170 (slices_IndexFunc_string__impl_Eligible_1.e k) := by
  refine entry_of mix tyok (fn := Try.f170) (c := codeOf Try.f170) Try.func170 (by kernel_rfl) (h := slices_IndexFunc_string__impl_Eligible_1.h) (k := k) (E := slices_IndexFunc_string__impl_Eligible_1.E k) (env_cons (impl_Eligible_1.ok k) env_nil) (by kernel_rfl) (by kernel_rfl) rfl (enter_of Try.func170 (by kernel_rfl)) ?_
  intro β l K r hr
  simp only [slices_IndexFunc_string__impl_Eligible_1.e] at hr
  split at hr
  case h_2 => cases hr
  unfold slices_IndexFunc_string__impl_Eligible_1.f at hr
  split at hr
  case h_2 => cases hr
  rename_i hz
  exact ⟨_, _, hr, _, slices_IndexFunc_string__impl_Eligible_1.dec, _, (slices_IndexFunc_string__impl_Eligible_1.f_eq k _ _ _ _ _ slices_IndexFunc_string__impl_Eligible_1.dec).trans (by rw [slices_IndexFunc_string__impl_Eligible_1.kt_dec]; exact hz), fun rs os h ho => slices_IndexFunc_string__impl_Eligible_1.inj _ _ _ _ _ h ho⟩
/-! ### slices.ContainsFunc[[]string,string]: function 116 -/
noncomputable def slices_ContainsFunc_string__impl_Eligible_1.g {β : Type} (k : Nat) (a0 : List (List D)) (a1_0_0 : Int) (a1_0_1 : List (List D)) (a1_0_2 : List (List D)) (a1_0_3 : List (List D)) (K : Bool → Option β) : Option β :=
  slices_IndexFunc_string__impl_Eligible_1.f k a0 a1_0_0 a1_0_1 a1_0_2 a1_0_3 (fun y11 => K (decide ((y11 : Int) ≥ 0)))
noncomputable def slices_ContainsFunc_string__impl_Eligible_1.t (k : Nat) (a0 : List (List D)) (a1_0_0 : Int) (a1_0_1 : List (List D)) (a1_0_2 : List (List D)) (a1_0_3 : List (List D)) : Option (Bool) := slices_ContainsFunc_string__impl_Eligible_1.g k a0 a1_0_0 a1_0_1 a1_0_2 a1_0_3 (fun z0 => some z0)
noncomputable def slices_ContainsFunc_string__impl_Eligible_1.f {β : Type} (k : Nat) (a0 : List (List D)) (a1_0_0 : Int) (a1_0_1 : List (List D)) (a1_0_2 : List (List D)) (a1_0_3 : List (List D)) (K : Bool → Option β) : Option β :=
  match slices_ContainsFunc_string__impl_Eligible_1.t k a0 a1_0_0 a1_0_1 a1_0_2 a1_0_3 with
  | some z0 => K z0
  | none => none
noncomputable def slices_ContainsFunc_string__impl_Eligible_1.as (a0 : List (List D)) (a1_0_0 : Int) (a1_0_1 : List (List D)) (a1_0_2 : List (List D)) (a1_0_3 : List (List D)) : List A := [.d (.sl a0), .d (.fn 117 [[.int .i64 a1_0_0, .sl a1_0_1, .sl a1_0_2, .sl a1_0_3]])]
noncomputable def slices_ContainsFunc_string__impl_Eligible_1.kt {β : Type} (a0 : List (List D)) (a1_0_0 : Int) (a1_0_1 : List (List D)) (a1_0_2 : List (List D)) (a1_0_3 : List (List D)) (K0 : List (List C) → List Out → Option β) : Bool → Option β := fun z0 => K0 [[.d (.bool z0)]] []
noncomputable def slices_ContainsFunc_string__impl_Eligible_1.e (k : Nat) : Entry := { modes := [(.imm, 0), (.imm, 0)], rts := [4], al := false, run := fun {β} l K => match l with | [.d (.sl a0), .d (.fn 117 [[.int .i64 a1_0_0, .sl a1_0_1, .sl a1_0_2, .sl a1_0_3]])] => slices_ContainsFunc_string__impl_Eligible_1.f k a0 a1_0_0 a1_0_1 a1_0_2 a1_0_3 (slices_ContainsFunc_string__impl_Eligible_1.kt a0 a1_0_0 a1_0_1 a1_0_2 a1_0_3 K) | _ => none }
noncomputable def slices_ContainsFunc_string__impl_Eligible_1.E (k : Nat) : Env := fun g => bif g == 170 then some (slices_IndexFunc_string__impl_Eligible_1.e k) else none
noncomputable def slices_ContainsFunc_string__impl_Eligible_1.h : Hints := ⟨fun n => ⟨[], []⟩, fun _ => none, false, []⟩
theorem slices_ContainsFunc_string__impl_Eligible_1.f_eq {β : Type} (k : Nat) (a0 : List (List D)) (a1_0_0 : Int) (a1_0_1 : List (List D)) (a1_0_2 : List (List D)) (a1_0_3 : List (List D)) (K0 : List (List C) → List Out → Option β) : funDen Try.prog (slices_ContainsFunc_string__impl_Eligible_1.E k) slices_ContainsFunc_string__impl_Eligible_1.h k Try.f116 (slices_ContainsFunc_string__impl_Eligible_1.as a0 a1_0_0 a1_0_1 a1_0_2 a1_0_3) K0 = slices_ContainsFunc_string__impl_Eligible_1.g k a0 a1_0_0 a1_0_1 a1_0_2 a1_0_3 (slices_ContainsFunc_string__impl_Eligible_1.kt a0 a1_0_0 a1_0_1 a1_0_2 a1_0_3 K0) := by kernel_rfl
noncomputable def slices_ContainsFunc_string__impl_Eligible_1.dec (rs : List (List C)) (os : List Out) : Option (Bool) := uncons rs fun c1 r2 => uncons c1 fun x3 l4 => cD x3 fun d5 => dBool d5 fun w0 => atEnd l4 <| atEnd r2 <| atEnd os (some w0)
theorem slices_ContainsFunc_string__impl_Eligible_1.kt_dec (a0 : List (List D)) (a1_0_0 : Int) (a1_0_1 : List (List D)) (a1_0_2 : List (List D)) (a1_0_3 : List (List D)) : slices_ContainsFunc_string__impl_Eligible_1.kt a0 a1_0_0 a1_0_1 a1_0_2 a1_0_3 slices_ContainsFunc_string__impl_Eligible_1.dec = (fun z0 => some z0) := by kernel_rfl
theorem slices_ContainsFunc_string__impl_Eligible_1.inj (a0 : List (List D)) (a1_0_0 : Int) (a1_0_1 : List (List D)) (a1_0_2 : List (List D)) (a1_0_3 : List (List D)) {rs : List (List C)} {os : List Out} {z0 : Bool} (h : slices_ContainsFunc_string__impl_Eligible_1.dec rs os = some z0) (ho : OutShape (slices_ContainsFunc_string__impl_Eligible_1.as a0 a1_0_0 a1_0_1 a1_0_2 a1_0_3) os) : rs = [[.d (.bool z0)]] ∧ os = [] := by
  unfold slices_ContainsFunc_string__impl_Eligible_1.dec at h
  obtain ⟨c1, r2, rfl, h1⟩ := uncons_some h
  obtain ⟨x3, l4, rfl, h2⟩ := uncons_some h1
  obtain ⟨d5, rfl, h3⟩ := cD_some h2
  obtain ⟨w0, rfl, h4⟩ := dBool_some h3
  obtain ⟨rfl, h5⟩ := atEnd_some h4
  obtain ⟨rfl, h6⟩ := atEnd_some h5
  obtain ⟨rfl, h7⟩ := atEnd_some h6
  obtain rfl := Option.some.inj h7
  exact ⟨rfl, rfl⟩
theorem slices_ContainsFunc_string__impl_Eligible_1.ok (k : Nat) : EntryOK Try.prog 116 (slices_ContainsFunc_string__impl_Eligible_1.e k) := by
  refine entry_of mix tyok (fn := Try.f116) (c := codeOf Try.f116) Try.func116 (by kernel_rfl) (h := slices_ContainsFunc_string__impl_Eligible_1.h) (k := k) (E := slices_ContainsFunc_string__impl_Eligible_1.E k) (env_cons (slices_IndexFunc_string__impl_Eligible_1.ok k) env_nil) (by kernel_rfl) (by kernel_rfl) rfl (enter_of Try.func116 (by kernel_rfl)) ?_
  intro β l K r hr
  simp only [slices_ContainsFunc_string__impl_Eligible_1.e] at hr
  split at hr
  case h_2 => cases hr
  unfold slices_ContainsFunc_string__impl_Eligible_1.f at hr
  split at hr
  case h_2 => cases hr
  rename_i hz
  exact ⟨_, _, hr, _, slices_ContainsFunc_string__impl_Eligible_1.dec, _, (slices_ContainsFunc_string__impl_Eligible_1.f_eq k _ _ _ _ _ slices_ContainsFunc_string__impl_Eligible_1.dec).trans (by rw [slices_ContainsFunc_string__impl_Eligible_1.kt_dec]; exact hz), fun rs os h ho => slices_ContainsFunc_string__impl_Eligible_1.inj _ _ _ _ _ h ho⟩
/-! ### loop.example/g00119/impl.Eligible: function 54 -/
noncomputable def impl_Eligible.g {β : Type} (k : Nat) (a0_0 : Int) (a0_1 : List (List D)) (a0_2 : List (List D)) (a0_3 : List (List D)) (a1_0 : ByteArray) (a1_1 : List (List D)) (a1_2 : List (List D)) (a1_3 : Int) (K : Bool → Option β) : Option β :=
  impl_WantOk.f k a0_0 a0_1 a0_2 a0_3 (fun y70 => bif y70 then (impl_IslandOk.f k a1_0 a1_1 a1_2 a1_3 (fun y71 => bif y71 then (impl_Matches.f k a0_1 a1_1 (fun y72 => bif y72 then (slices_ContainsFunc_string__impl_Eligible_1.f k a1_2 a0_0 a0_1 a0_2 a0_3 (fun y73 => K (!y73))) else (K false))) else (K false))) else (K false))
noncomputable def impl_Eligible.t (k : Nat) (a0_0 : Int) (a0_1 : List (List D)) (a0_2 : List (List D)) (a0_3 : List (List D)) (a1_0 : ByteArray) (a1_1 : List (List D)) (a1_2 : List (List D)) (a1_3 : Int) : Option (Bool) := impl_Eligible.g k a0_0 a0_1 a0_2 a0_3 a1_0 a1_1 a1_2 a1_3 (fun z0 => some z0)
noncomputable def impl_Eligible.f {β : Type} (k : Nat) (a0_0 : Int) (a0_1 : List (List D)) (a0_2 : List (List D)) (a0_3 : List (List D)) (a1_0 : ByteArray) (a1_1 : List (List D)) (a1_2 : List (List D)) (a1_3 : Int) (K : Bool → Option β) : Option β :=
  match impl_Eligible.t k a0_0 a0_1 a0_2 a0_3 a1_0 a1_1 a1_2 a1_3 with
  | some z0 => K z0
  | none => none
noncomputable def impl_Eligible.as (a0_0 : Int) (a0_1 : List (List D)) (a0_2 : List (List D)) (a0_3 : List (List D)) (a1_0 : ByteArray) (a1_1 : List (List D)) (a1_2 : List (List D)) (a1_3 : Int) : List A := [.agg [.int .i64 a0_0, .sl a0_1, .sl a0_2, .sl a0_3], .agg [.str a1_0, .sl a1_1, .sl a1_2, .int .i64 a1_3]]
noncomputable def impl_Eligible.kt {β : Type} (a0_0 : Int) (a0_1 : List (List D)) (a0_2 : List (List D)) (a0_3 : List (List D)) (a1_0 : ByteArray) (a1_1 : List (List D)) (a1_2 : List (List D)) (a1_3 : Int) (K0 : List (List C) → List Out → Option β) : Bool → Option β := fun z0 => K0 [[.d (.bool z0)]] []
noncomputable def impl_Eligible.e (k : Nat) : Entry := { modes := [(.imm, 0), (.imm, 0)], rts := [4], al := false, run := fun {β} l K => match l with | [.agg [.int .i64 a0_0, .sl a0_1, .sl a0_2, .sl a0_3], .agg [.str a1_0, .sl a1_1, .sl a1_2, .int .i64 a1_3]] => impl_Eligible.f k a0_0 a0_1 a0_2 a0_3 a1_0 a1_1 a1_2 a1_3 (impl_Eligible.kt a0_0 a0_1 a0_2 a0_3 a1_0 a1_1 a1_2 a1_3 K) | _ => none }
noncomputable def impl_Eligible.E (k : Nat) : Env := fun g => bif g == 38 then some (impl_WantOk.e k) else bif g == 18 then some (impl_IslandOk.e k) else bif g == 115 then some (impl_Matches.e k) else bif g == 116 then some (slices_ContainsFunc_string__impl_Eligible_1.e k) else none
noncomputable def impl_Eligible.h : Hints := ⟨fun n => ⟨[], []⟩, fun _ => none, false, []⟩
theorem impl_Eligible.f_eq {β : Type} (k : Nat) (a0_0 : Int) (a0_1 : List (List D)) (a0_2 : List (List D)) (a0_3 : List (List D)) (a1_0 : ByteArray) (a1_1 : List (List D)) (a1_2 : List (List D)) (a1_3 : Int) (K0 : List (List C) → List Out → Option β) : funDen Try.prog (impl_Eligible.E k) impl_Eligible.h k Try.f54 (impl_Eligible.as a0_0 a0_1 a0_2 a0_3 a1_0 a1_1 a1_2 a1_3) K0 = impl_Eligible.g k a0_0 a0_1 a0_2 a0_3 a1_0 a1_1 a1_2 a1_3 (impl_Eligible.kt a0_0 a0_1 a0_2 a0_3 a1_0 a1_1 a1_2 a1_3 K0) := by kernel_rfl
noncomputable def impl_Eligible.dec (rs : List (List C)) (os : List Out) : Option (Bool) := uncons rs fun c1 r2 => uncons c1 fun x3 l4 => cD x3 fun d5 => dBool d5 fun w0 => atEnd l4 <| atEnd r2 <| atEnd os (some w0)
theorem impl_Eligible.kt_dec (a0_0 : Int) (a0_1 : List (List D)) (a0_2 : List (List D)) (a0_3 : List (List D)) (a1_0 : ByteArray) (a1_1 : List (List D)) (a1_2 : List (List D)) (a1_3 : Int) : impl_Eligible.kt a0_0 a0_1 a0_2 a0_3 a1_0 a1_1 a1_2 a1_3 impl_Eligible.dec = (fun z0 => some z0) := by kernel_rfl
theorem impl_Eligible.inj (a0_0 : Int) (a0_1 : List (List D)) (a0_2 : List (List D)) (a0_3 : List (List D)) (a1_0 : ByteArray) (a1_1 : List (List D)) (a1_2 : List (List D)) (a1_3 : Int) {rs : List (List C)} {os : List Out} {z0 : Bool} (h : impl_Eligible.dec rs os = some z0) (ho : OutShape (impl_Eligible.as a0_0 a0_1 a0_2 a0_3 a1_0 a1_1 a1_2 a1_3) os) : rs = [[.d (.bool z0)]] ∧ os = [] := by
  unfold impl_Eligible.dec at h
  obtain ⟨c1, r2, rfl, h1⟩ := uncons_some h
  obtain ⟨x3, l4, rfl, h2⟩ := uncons_some h1
  obtain ⟨d5, rfl, h3⟩ := cD_some h2
  obtain ⟨w0, rfl, h4⟩ := dBool_some h3
  obtain ⟨rfl, h5⟩ := atEnd_some h4
  obtain ⟨rfl, h6⟩ := atEnd_some h5
  obtain ⟨rfl, h7⟩ := atEnd_some h6
  obtain rfl := Option.some.inj h7
  exact ⟨rfl, rfl⟩
theorem impl_Eligible.ok (k : Nat) : EntryOK Try.prog 54 (impl_Eligible.e k) := by
  refine entry_of mix tyok (fn := Try.f54) (c := codeOf Try.f54) Try.func54 (by kernel_rfl) (h := impl_Eligible.h) (k := k) (E := impl_Eligible.E k) (env_cons (impl_WantOk.ok k) (env_cons (impl_IslandOk.ok k) (env_cons (impl_Matches.ok k) (env_cons (slices_ContainsFunc_string__impl_Eligible_1.ok k) env_nil)))) (by kernel_rfl) (by kernel_rfl) rfl (enter_of Try.func54 (by kernel_rfl)) ?_
  intro β l K r hr
  simp only [impl_Eligible.e] at hr
  split at hr
  case h_2 => cases hr
  unfold impl_Eligible.f at hr
  split at hr
  case h_2 => cases hr
  rename_i hz
  exact ⟨_, _, hr, _, impl_Eligible.dec, _, (impl_Eligible.f_eq k _ _ _ _ _ _ _ _ impl_Eligible.dec).trans (by rw [impl_Eligible.kt_dec]; exact hz), fun rs os h ho => impl_Eligible.inj _ _ _ _ _ _ _ _ h ho⟩
/-! ### loop.example/g00119/laws.eqStringS: function 77 -/
noncomputable def laws_eqStringS.l0 {β : Type} (k : Nat) (v0_0 : List (List D)) (v0_1 : List (List D)) (K : Bool → Option β) (L0 : Int → Option β) (v : Int) : Option β :=
  match v with
  | v0_2 => bif (decide ((v0_2 : Int) < (v0_0.length : Int))) then (atRow v0_0 v0_2 fun c9 => uncons c9 fun d10 r11 => dStr d10 fun x12 => atEnd r11 (atRow v0_1 v0_2 fun c13 => uncons c13 fun d14 r15 => dStr d14 fun x16 => atEnd r15 (bif (!(strEq x12 x16)) then (K false) else (L0 (IntKind.wrap .i64 (v0_2 + 1)))))) else (K true)
noncomputable def laws_eqStringS.g {β : Type} (k : Nat) (a0 : List (List D)) (a1 : List (List D)) (K : Bool → Option β) : Option β :=
  bif (((a0.length : Int) : Int) != (a1.length : Int)) then (K false) else (iter (laws_eqStringS.l0 k a0 a1 K) k (0))
noncomputable def laws_eqStringS.t (k : Nat) (a0 : List (List D)) (a1 : List (List D)) : Option (Bool) := laws_eqStringS.g k a0 a1 (fun z0 => some z0)
noncomputable def laws_eqStringS.f {β : Type} (k : Nat) (a0 : List (List D)) (a1 : List (List D)) (K : Bool → Option β) : Option β :=
  match laws_eqStringS.t k a0 a1 with
  | some z0 => K z0
  | none => none
noncomputable def laws_eqStringS.as (a0 : List (List D)) (a1 : List (List D)) : List A := [.d (.sl a0), .d (.sl a1)]
noncomputable def laws_eqStringS.kt {β : Type} (a0 : List (List D)) (a1 : List (List D)) (K0 : List (List C) → List Out → Option β) : Bool → Option β := fun z0 => K0 [[.d (.bool z0)]] []
noncomputable def laws_eqStringS.e (k : Nat) : Entry := { modes := [(.imm, 0), (.imm, 0)], rts := [4], al := false, run := fun {β} l K => match l with | [.d (.sl a0), .d (.sl a1)] => laws_eqStringS.f k a0 a1 (laws_eqStringS.kt a0 a1 K) | _ => none }
noncomputable def laws_eqStringS.E (k : Nat) : Env := fun g => none
noncomputable def laws_eqStringS.h : Hints := ⟨fun n => bif n == 4 then ⟨[(0, .asis), (1, .asis), (5, .asis)], []⟩ else ⟨[], []⟩, fun _ => none, false, []⟩
noncomputable def laws_eqStringS.s0 (v0_0 : List (List D)) (v0_1 : List (List D)) (v : Int) : St :=
  match v with
  | v0_2 => ⟨[.d false (.sl v0_0), .d false (.sl v0_1), .any, .any, .any, .d true (.int .i64 v0_2), .any, .any, .any, .any, .any, .any, .any, .any, .any, .any, .any, .any, .any, .any, .any, .any, .any, .any, .any, .any], []⟩
noncomputable def laws_eqStringS.b0 {β : Type} (k : Nat) : St → (Ex → St → Option β) → Option β := fun s K => den Try.prog (laws_eqStringS.E k) laws_eqStringS.h.H laws_eqStringS.h.J k (codeAt [1, 1, 0, 1, 0, 0] (codeOf Try.f77)) s K
noncomputable def laws_eqStringS.c0 {β : Type} (k : Nat) (a0 : List (List D)) (a1 : List (List D)) (K0 : List (List C) → List Out → Option β) : Ex → St → Option β := contAt Try.prog (laws_eqStringS.E k) laws_eqStringS.h k [1, 1, 0, 1, 0] (codeOf Try.f77) (finDen Try.prog Try.f77 laws_eqStringS.h (laws_eqStringS.as a0 a1) K0)
theorem laws_eqStringS.l0_eq {β : Type} (k : Nat) (a0 : List (List D)) (a1 : List (List D)) (K0 : List (List C) → List Out → Option β) (v0_0 : List (List D)) (v0_1 : List (List D)) : ∀ (kk : Nat) (v : Int), loopDen (laws_eqStringS.b0 k) (laws_eqStringS.h.H 4) kk (laws_eqStringS.s0 v0_0 v0_1 v) (laws_eqStringS.c0 k a0 a1 K0) = iter (laws_eqStringS.l0 k v0_0 v0_1 (laws_eqStringS.kt a0 a1 K0)) kk v :=
  loop_eq (laws_eqStringS.s0 v0_0 v0_1) _ (fun L0 v => by kernel_rfl)
noncomputable def laws_eqStringS.m {β : Type} (k : Nat) (a0 : List (List D)) (a1 : List (List D)) (K0 : List (List C) → List Out → Option β) (F : ((List (List D)) → (List (List D)) → Int → Option β)) : Option β :=
  bif (((a0.length : Int) : Int) != (a1.length : Int)) then ((laws_eqStringS.kt a0 a1 K0) false) else ((F) a0 a1 (0))
theorem laws_eqStringS.f_eq {β : Type} (k : Nat) (a0 : List (List D)) (a1 : List (List D)) (K0 : List (List C) → List Out → Option β) : funDen Try.prog (laws_eqStringS.E k) laws_eqStringS.h k Try.f77 (laws_eqStringS.as a0 a1) K0 = laws_eqStringS.g k a0 a1 (laws_eqStringS.kt a0 a1 K0) := Eq.trans (b := (laws_eqStringS.m k a0 a1 K0) (fun (v0_0 : List (List D)) (v0_1 : List (List D)) (v : Int) => loopDen (laws_eqStringS.b0 k) (laws_eqStringS.h.H 4) k (laws_eqStringS.s0 v0_0 v0_1 v) (laws_eqStringS.c0 k a0 a1 K0))) (by kernel_rfl) (Eq.trans (congrArg (laws_eqStringS.m k a0 a1 K0) (funext fun v0_0 => funext fun v0_1 => funext fun v => laws_eqStringS.l0_eq k a0 a1 K0 v0_0 v0_1 k v)) (by kernel_rfl))
noncomputable def laws_eqStringS.dec (rs : List (List C)) (os : List Out) : Option (Bool) := uncons rs fun c1 r2 => uncons c1 fun x3 l4 => cD x3 fun d5 => dBool d5 fun w0 => atEnd l4 <| atEnd r2 <| atEnd os (some w0)
theorem laws_eqStringS.kt_dec (a0 : List (List D)) (a1 : List (List D)) : laws_eqStringS.kt a0 a1 laws_eqStringS.dec = (fun z0 => some z0) := by kernel_rfl
theorem laws_eqStringS.inj (a0 : List (List D)) (a1 : List (List D)) {rs : List (List C)} {os : List Out} {z0 : Bool} (h : laws_eqStringS.dec rs os = some z0) (ho : OutShape (laws_eqStringS.as a0 a1) os) : rs = [[.d (.bool z0)]] ∧ os = [] := by
  unfold laws_eqStringS.dec at h
  obtain ⟨c1, r2, rfl, h1⟩ := uncons_some h
  obtain ⟨x3, l4, rfl, h2⟩ := uncons_some h1
  obtain ⟨d5, rfl, h3⟩ := cD_some h2
  obtain ⟨w0, rfl, h4⟩ := dBool_some h3
  obtain ⟨rfl, h5⟩ := atEnd_some h4
  obtain ⟨rfl, h6⟩ := atEnd_some h5
  obtain ⟨rfl, h7⟩ := atEnd_some h6
  obtain rfl := Option.some.inj h7
  exact ⟨rfl, rfl⟩
theorem laws_eqStringS.ok (k : Nat) : EntryOK Try.prog 77 (laws_eqStringS.e k) := by
  refine entry_of mix tyok (fn := Try.f77) (c := codeOf Try.f77) Try.func77 (by kernel_rfl) (h := laws_eqStringS.h) (k := k) (E := laws_eqStringS.E k) env_nil (by kernel_rfl) (by kernel_rfl) rfl (enter_of Try.func77 (by kernel_rfl)) ?_
  intro β l K r hr
  simp only [laws_eqStringS.e] at hr
  split at hr
  case h_2 => cases hr
  unfold laws_eqStringS.f at hr
  split at hr
  case h_2 => cases hr
  rename_i hz
  exact ⟨_, _, hr, _, laws_eqStringS.dec, _, (laws_eqStringS.f_eq k _ _ laws_eqStringS.dec).trans (by rw [laws_eqStringS.kt_dec]; exact hz), fun rs os h ho => laws_eqStringS.inj _ _ h ho⟩
/-! ### loop.example/g00119/laws.eqTerm: function 142 -/
noncomputable def laws_eqTerm.g {β : Type} (k : Nat) (a0_0 : Int) (a0_1 : ByteArray) (a0_2 : List (List D)) (a1_0 : Int) (a1_1 : ByteArray) (a1_2 : List (List D)) (K : Bool → Option β) : Option β :=
  bif ((a0_0 : Int) != a1_0) then (K false) else (bif (!(strEq a0_1 a1_1)) then (K false) else (laws_eqStringS.f k a0_2 a1_2 (fun y17 => bif (!y17) then (K false) else (K true))))
noncomputable def laws_eqTerm.t (k : Nat) (a0_0 : Int) (a0_1 : ByteArray) (a0_2 : List (List D)) (a1_0 : Int) (a1_1 : ByteArray) (a1_2 : List (List D)) : Option (Bool) := laws_eqTerm.g k a0_0 a0_1 a0_2 a1_0 a1_1 a1_2 (fun z0 => some z0)
noncomputable def laws_eqTerm.f {β : Type} (k : Nat) (a0_0 : Int) (a0_1 : ByteArray) (a0_2 : List (List D)) (a1_0 : Int) (a1_1 : ByteArray) (a1_2 : List (List D)) (K : Bool → Option β) : Option β :=
  match laws_eqTerm.t k a0_0 a0_1 a0_2 a1_0 a1_1 a1_2 with
  | some z0 => K z0
  | none => none
noncomputable def laws_eqTerm.as (a0_0 : Int) (a0_1 : ByteArray) (a0_2 : List (List D)) (a1_0 : Int) (a1_1 : ByteArray) (a1_2 : List (List D)) : List A := [.agg [.int .i64 a0_0, .str a0_1, .sl a0_2], .agg [.int .i64 a1_0, .str a1_1, .sl a1_2]]
noncomputable def laws_eqTerm.kt {β : Type} (a0_0 : Int) (a0_1 : ByteArray) (a0_2 : List (List D)) (a1_0 : Int) (a1_1 : ByteArray) (a1_2 : List (List D)) (K0 : List (List C) → List Out → Option β) : Bool → Option β := fun z0 => K0 [[.d (.bool z0)]] []
noncomputable def laws_eqTerm.e (k : Nat) : Entry := { modes := [(.imm, 0), (.imm, 0)], rts := [4], al := false, run := fun {β} l K => match l with | [.agg [.int .i64 a0_0, .str a0_1, .sl a0_2], .agg [.int .i64 a1_0, .str a1_1, .sl a1_2]] => laws_eqTerm.f k a0_0 a0_1 a0_2 a1_0 a1_1 a1_2 (laws_eqTerm.kt a0_0 a0_1 a0_2 a1_0 a1_1 a1_2 K) | _ => none }
noncomputable def laws_eqTerm.E (k : Nat) : Env := fun g => bif g == 77 then some (laws_eqStringS.e k) else none
noncomputable def laws_eqTerm.h : Hints := ⟨fun n => ⟨[], []⟩, fun _ => none, false, []⟩
theorem laws_eqTerm.f_eq {β : Type} (k : Nat) (a0_0 : Int) (a0_1 : ByteArray) (a0_2 : List (List D)) (a1_0 : Int) (a1_1 : ByteArray) (a1_2 : List (List D)) (K0 : List (List C) → List Out → Option β) : funDen Try.prog (laws_eqTerm.E k) laws_eqTerm.h k Try.f142 (laws_eqTerm.as a0_0 a0_1 a0_2 a1_0 a1_1 a1_2) K0 = laws_eqTerm.g k a0_0 a0_1 a0_2 a1_0 a1_1 a1_2 (laws_eqTerm.kt a0_0 a0_1 a0_2 a1_0 a1_1 a1_2 K0) := by kernel_rfl
noncomputable def laws_eqTerm.dec (rs : List (List C)) (os : List Out) : Option (Bool) := uncons rs fun c1 r2 => uncons c1 fun x3 l4 => cD x3 fun d5 => dBool d5 fun w0 => atEnd l4 <| atEnd r2 <| atEnd os (some w0)
theorem laws_eqTerm.kt_dec (a0_0 : Int) (a0_1 : ByteArray) (a0_2 : List (List D)) (a1_0 : Int) (a1_1 : ByteArray) (a1_2 : List (List D)) : laws_eqTerm.kt a0_0 a0_1 a0_2 a1_0 a1_1 a1_2 laws_eqTerm.dec = (fun z0 => some z0) := by kernel_rfl
theorem laws_eqTerm.inj (a0_0 : Int) (a0_1 : ByteArray) (a0_2 : List (List D)) (a1_0 : Int) (a1_1 : ByteArray) (a1_2 : List (List D)) {rs : List (List C)} {os : List Out} {z0 : Bool} (h : laws_eqTerm.dec rs os = some z0) (ho : OutShape (laws_eqTerm.as a0_0 a0_1 a0_2 a1_0 a1_1 a1_2) os) : rs = [[.d (.bool z0)]] ∧ os = [] := by
  unfold laws_eqTerm.dec at h
  obtain ⟨c1, r2, rfl, h1⟩ := uncons_some h
  obtain ⟨x3, l4, rfl, h2⟩ := uncons_some h1
  obtain ⟨d5, rfl, h3⟩ := cD_some h2
  obtain ⟨w0, rfl, h4⟩ := dBool_some h3
  obtain ⟨rfl, h5⟩ := atEnd_some h4
  obtain ⟨rfl, h6⟩ := atEnd_some h5
  obtain ⟨rfl, h7⟩ := atEnd_some h6
  obtain rfl := Option.some.inj h7
  exact ⟨rfl, rfl⟩
theorem laws_eqTerm.ok (k : Nat) : EntryOK Try.prog 142 (laws_eqTerm.e k) := by
  refine entry_of mix tyok (fn := Try.f142) (c := codeOf Try.f142) Try.func142 (by kernel_rfl) (h := laws_eqTerm.h) (k := k) (E := laws_eqTerm.E k) (env_cons (laws_eqStringS.ok k) env_nil) (by kernel_rfl) (by kernel_rfl) rfl (enter_of Try.func142 (by kernel_rfl)) ?_
  intro β l K r hr
  simp only [laws_eqTerm.e] at hr
  split at hr
  case h_2 => cases hr
  unfold laws_eqTerm.f at hr
  split at hr
  case h_2 => cases hr
  rename_i hz
  exact ⟨_, _, hr, _, laws_eqTerm.dec, _, (laws_eqTerm.f_eq k _ _ _ _ _ _ laws_eqTerm.dec).trans (by rw [laws_eqTerm.kt_dec]; exact hz), fun rs os h ho => laws_eqTerm.inj _ _ _ _ _ _ h ho⟩
/-! ### loop.example/g00119/laws.eqTermS: function 82 -/
noncomputable def laws_eqTermS.l0 {β : Type} (k : Nat) (v0_0 : List (List D)) (v0_1 : List (List D)) (K : Bool → Option β) (L0 : Int → Option β) (v : Int) : Option β :=
  match v with
  | v0_2 => bif (decide ((v0_2 : Int) < (v0_0.length : Int))) then (atRow v0_0 v0_2 fun c22 => uncons c22 fun d23 r24 => dInt .i64 d23 fun x25 => uncons r24 fun d26 r27 => dStr d26 fun x28 => uncons r27 fun d29 r30 => dSl d29 fun x31 => atEnd r30 (atRow v0_1 v0_2 fun c32 => uncons c32 fun d33 r34 => dInt .i64 d33 fun x35 => uncons r34 fun d36 r37 => dStr d36 fun x38 => uncons r37 fun d39 r40 => dSl d39 fun x41 => atEnd r40 (laws_eqTerm.f k x25 x28 x31 x35 x38 x41 (fun y42 => bif (!y42) then (K false) else (L0 (IntKind.wrap .i64 (v0_2 + 1))))))) else (K true)
noncomputable def laws_eqTermS.g {β : Type} (k : Nat) (a0 : List (List D)) (a1 : List (List D)) (K : Bool → Option β) : Option β :=
  bif (((a0.length : Int) : Int) != (a1.length : Int)) then (K false) else (iter (laws_eqTermS.l0 k a0 a1 K) k (0))
noncomputable def laws_eqTermS.t (k : Nat) (a0 : List (List D)) (a1 : List (List D)) : Option (Bool) := laws_eqTermS.g k a0 a1 (fun z0 => some z0)
noncomputable def laws_eqTermS.f {β : Type} (k : Nat) (a0 : List (List D)) (a1 : List (List D)) (K : Bool → Option β) : Option β :=
  match laws_eqTermS.t k a0 a1 with
  | some z0 => K z0
  | none => none
noncomputable def laws_eqTermS.as (a0 : List (List D)) (a1 : List (List D)) : List A := [.d (.sl a0), .d (.sl a1)]
noncomputable def laws_eqTermS.kt {β : Type} (a0 : List (List D)) (a1 : List (List D)) (K0 : List (List C) → List Out → Option β) : Bool → Option β := fun z0 => K0 [[.d (.bool z0)]] []
noncomputable def laws_eqTermS.e (k : Nat) : Entry := { modes := [(.imm, 0), (.imm, 0)], rts := [4], al := false, run := fun {β} l K => match l with | [.d (.sl a0), .d (.sl a1)] => laws_eqTermS.f k a0 a1 (laws_eqTermS.kt a0 a1 K) | _ => none }
noncomputable def laws_eqTermS.E (k : Nat) : Env := fun g => bif g == 142 then some (laws_eqTerm.e k) else none
noncomputable def laws_eqTermS.h : Hints := ⟨fun n => bif n == 4 then ⟨[(0, .asis), (1, .asis), (5, .asis)], []⟩ else ⟨[], []⟩, fun _ => none, false, []⟩
noncomputable def laws_eqTermS.s0 (v0_0 : List (List D)) (v0_1 : List (List D)) (v : Int) : St :=
  match v with
  | v0_2 => ⟨[.d false (.sl v0_0), .d false (.sl v0_1), .any, .any, .any, .d true (.int .i64 v0_2), .any, .any, .any, .any, .any, .any, .any, .any, .any, .any, .any, .any, .any, .any, .any, .any, .any, .any, .any, .any, .any], []⟩
noncomputable def laws_eqTermS.b0 {β : Type} (k : Nat) : St → (Ex → St → Option β) → Option β := fun s K => den Try.prog (laws_eqTermS.E k) laws_eqTermS.h.H laws_eqTermS.h.J k (codeAt [1, 1, 0, 1, 0, 0] (codeOf Try.f82)) s K
noncomputable def laws_eqTermS.c0 {β : Type} (k : Nat) (a0 : List (List D)) (a1 : List (List D)) (K0 : List (List C) → List Out → Option β) : Ex → St → Option β := contAt Try.prog (laws_eqTermS.E k) laws_eqTermS.h k [1, 1, 0, 1, 0] (codeOf Try.f82) (finDen Try.prog Try.f82 laws_eqTermS.h (laws_eqTermS.as a0 a1) K0)
theorem laws_eqTermS.l0_eq {β : Type} (k : Nat) (a0 : List (List D)) (a1 : List (List D)) (K0 : List (List C) → List Out → Option β) (v0_0 : List (List D)) (v0_1 : List (List D)) : ∀ (kk : Nat) (v : Int), loopDen (laws_eqTermS.b0 k) (laws_eqTermS.h.H 4) kk (laws_eqTermS.s0 v0_0 v0_1 v) (laws_eqTermS.c0 k a0 a1 K0) = iter (laws_eqTermS.l0 k v0_0 v0_1 (laws_eqTermS.kt a0 a1 K0)) kk v :=
  loop_eq (laws_eqTermS.s0 v0_0 v0_1) _ (fun L0 v => by kernel_rfl)
noncomputable def laws_eqTermS.m {β : Type} (k : Nat) (a0 : List (List D)) (a1 : List (List D)) (K0 : List (List C) → List Out → Option β) (F : ((List (List D)) → (List (List D)) → Int → Option β)) : Option β :=
  bif (((a0.length : Int) : Int) != (a1.length : Int)) then ((laws_eqTermS.kt a0 a1 K0) false) else ((F) a0 a1 (0))
theorem laws_eqTermS.f_eq {β : Type} (k : Nat) (a0 : List (List D)) (a1 : List (List D)) (K0 : List (List C) → List Out → Option β) : funDen Try.prog (laws_eqTermS.E k) laws_eqTermS.h k Try.f82 (laws_eqTermS.as a0 a1) K0 = laws_eqTermS.g k a0 a1 (laws_eqTermS.kt a0 a1 K0) := Eq.trans (b := (laws_eqTermS.m k a0 a1 K0) (fun (v0_0 : List (List D)) (v0_1 : List (List D)) (v : Int) => loopDen (laws_eqTermS.b0 k) (laws_eqTermS.h.H 4) k (laws_eqTermS.s0 v0_0 v0_1 v) (laws_eqTermS.c0 k a0 a1 K0))) (by kernel_rfl) (Eq.trans (congrArg (laws_eqTermS.m k a0 a1 K0) (funext fun v0_0 => funext fun v0_1 => funext fun v => laws_eqTermS.l0_eq k a0 a1 K0 v0_0 v0_1 k v)) (by kernel_rfl))
noncomputable def laws_eqTermS.dec (rs : List (List C)) (os : List Out) : Option (Bool) := uncons rs fun c1 r2 => uncons c1 fun x3 l4 => cD x3 fun d5 => dBool d5 fun w0 => atEnd l4 <| atEnd r2 <| atEnd os (some w0)
theorem laws_eqTermS.kt_dec (a0 : List (List D)) (a1 : List (List D)) : laws_eqTermS.kt a0 a1 laws_eqTermS.dec = (fun z0 => some z0) := by kernel_rfl
theorem laws_eqTermS.inj (a0 : List (List D)) (a1 : List (List D)) {rs : List (List C)} {os : List Out} {z0 : Bool} (h : laws_eqTermS.dec rs os = some z0) (ho : OutShape (laws_eqTermS.as a0 a1) os) : rs = [[.d (.bool z0)]] ∧ os = [] := by
  unfold laws_eqTermS.dec at h
  obtain ⟨c1, r2, rfl, h1⟩ := uncons_some h
  obtain ⟨x3, l4, rfl, h2⟩ := uncons_some h1
  obtain ⟨d5, rfl, h3⟩ := cD_some h2
  obtain ⟨w0, rfl, h4⟩ := dBool_some h3
  obtain ⟨rfl, h5⟩ := atEnd_some h4
  obtain ⟨rfl, h6⟩ := atEnd_some h5
  obtain ⟨rfl, h7⟩ := atEnd_some h6
  obtain rfl := Option.some.inj h7
  exact ⟨rfl, rfl⟩
theorem laws_eqTermS.ok (k : Nat) : EntryOK Try.prog 82 (laws_eqTermS.e k) := by
  refine entry_of mix tyok (fn := Try.f82) (c := codeOf Try.f82) Try.func82 (by kernel_rfl) (h := laws_eqTermS.h) (k := k) (E := laws_eqTermS.E k) (env_cons (laws_eqTerm.ok k) env_nil) (by kernel_rfl) (by kernel_rfl) rfl (enter_of Try.func82 (by kernel_rfl)) ?_
  intro β l K r hr
  simp only [laws_eqTermS.e] at hr
  split at hr
  case h_2 => cases hr
  unfold laws_eqTermS.f at hr
  split at hr
  case h_2 => cases hr
  rename_i hz
  exact ⟨_, _, hr, _, laws_eqTermS.dec, _, (laws_eqTermS.f_eq k _ _ laws_eqTermS.dec).trans (by rw [laws_eqTermS.kt_dec]; exact hz), fun rs os h ho => laws_eqTermS.inj _ _ h ho⟩
/-! ### loop.example/g00119/laws.eqWeigh: function 143 -/
noncomputable def laws_eqWeigh.g {β : Type} (k : Nat) (a0_0 : ByteArray) (a0_1 : Int) (a1_0 : ByteArray) (a1_1 : Int) (K : Bool → Option β) : Option β :=
  bif (!(strEq a0_0 a1_0)) then (K false) else (bif ((a0_1 : Int) != a1_1) then (K false) else (K true))
noncomputable def laws_eqWeigh.t (k : Nat) (a0_0 : ByteArray) (a0_1 : Int) (a1_0 : ByteArray) (a1_1 : Int) : Option (Bool) := laws_eqWeigh.g k a0_0 a0_1 a1_0 a1_1 (fun z0 => some z0)
noncomputable def laws_eqWeigh.f {β : Type} (k : Nat) (a0_0 : ByteArray) (a0_1 : Int) (a1_0 : ByteArray) (a1_1 : Int) (K : Bool → Option β) : Option β :=
  match laws_eqWeigh.t k a0_0 a0_1 a1_0 a1_1 with
  | some z0 => K z0
  | none => none
noncomputable def laws_eqWeigh.as (a0_0 : ByteArray) (a0_1 : Int) (a1_0 : ByteArray) (a1_1 : Int) : List A := [.agg [.str a0_0, .int .i64 a0_1], .agg [.str a1_0, .int .i64 a1_1]]
noncomputable def laws_eqWeigh.kt {β : Type} (a0_0 : ByteArray) (a0_1 : Int) (a1_0 : ByteArray) (a1_1 : Int) (K0 : List (List C) → List Out → Option β) : Bool → Option β := fun z0 => K0 [[.d (.bool z0)]] []
noncomputable def laws_eqWeigh.e (k : Nat) : Entry := { modes := [(.imm, 0), (.imm, 0)], rts := [4], al := false, run := fun {β} l K => match l with | [.agg [.str a0_0, .int .i64 a0_1], .agg [.str a1_0, .int .i64 a1_1]] => laws_eqWeigh.f k a0_0 a0_1 a1_0 a1_1 (laws_eqWeigh.kt a0_0 a0_1 a1_0 a1_1 K) | _ => none }
noncomputable def laws_eqWeigh.E (k : Nat) : Env := fun g => none
noncomputable def laws_eqWeigh.h : Hints := ⟨fun n => ⟨[], []⟩, fun _ => none, false, []⟩
theorem laws_eqWeigh.f_eq {β : Type} (k : Nat) (a0_0 : ByteArray) (a0_1 : Int) (a1_0 : ByteArray) (a1_1 : Int) (K0 : List (List C) → List Out → Option β) : funDen Try.prog (laws_eqWeigh.E k) laws_eqWeigh.h k Try.f143 (laws_eqWeigh.as a0_0 a0_1 a1_0 a1_1) K0 = laws_eqWeigh.g k a0_0 a0_1 a1_0 a1_1 (laws_eqWeigh.kt a0_0 a0_1 a1_0 a1_1 K0) := by kernel_rfl
noncomputable def laws_eqWeigh.dec (rs : List (List C)) (os : List Out) : Option (Bool) := uncons rs fun c1 r2 => uncons c1 fun x3 l4 => cD x3 fun d5 => dBool d5 fun w0 => atEnd l4 <| atEnd r2 <| atEnd os (some w0)
theorem laws_eqWeigh.kt_dec (a0_0 : ByteArray) (a0_1 : Int) (a1_0 : ByteArray) (a1_1 : Int) : laws_eqWeigh.kt a0_0 a0_1 a1_0 a1_1 laws_eqWeigh.dec = (fun z0 => some z0) := by kernel_rfl
theorem laws_eqWeigh.inj (a0_0 : ByteArray) (a0_1 : Int) (a1_0 : ByteArray) (a1_1 : Int) {rs : List (List C)} {os : List Out} {z0 : Bool} (h : laws_eqWeigh.dec rs os = some z0) (ho : OutShape (laws_eqWeigh.as a0_0 a0_1 a1_0 a1_1) os) : rs = [[.d (.bool z0)]] ∧ os = [] := by
  unfold laws_eqWeigh.dec at h
  obtain ⟨c1, r2, rfl, h1⟩ := uncons_some h
  obtain ⟨x3, l4, rfl, h2⟩ := uncons_some h1
  obtain ⟨d5, rfl, h3⟩ := cD_some h2
  obtain ⟨w0, rfl, h4⟩ := dBool_some h3
  obtain ⟨rfl, h5⟩ := atEnd_some h4
  obtain ⟨rfl, h6⟩ := atEnd_some h5
  obtain ⟨rfl, h7⟩ := atEnd_some h6
  obtain rfl := Option.some.inj h7
  exact ⟨rfl, rfl⟩
theorem laws_eqWeigh.ok (k : Nat) : EntryOK Try.prog 143 (laws_eqWeigh.e k) := by
  refine entry_of mix tyok (fn := Try.f143) (c := codeOf Try.f143) Try.func143 (by kernel_rfl) (h := laws_eqWeigh.h) (k := k) (E := laws_eqWeigh.E k) env_nil (by kernel_rfl) (by kernel_rfl) rfl (enter_of Try.func143 (by kernel_rfl)) ?_
  intro β l K r hr
  simp only [laws_eqWeigh.e] at hr
  split at hr
  case h_2 => cases hr
  unfold laws_eqWeigh.f at hr
  split at hr
  case h_2 => cases hr
  rename_i hz
  exact ⟨_, _, hr, _, laws_eqWeigh.dec, _, (laws_eqWeigh.f_eq k _ _ _ _ laws_eqWeigh.dec).trans (by rw [laws_eqWeigh.kt_dec]; exact hz), fun rs os h ho => laws_eqWeigh.inj _ _ _ _ h ho⟩
/-! ### loop.example/g00119/laws.eqWeighS: function 83 -/
noncomputable def laws_eqWeighS.l0 {β : Type} (k : Nat) (v0_0 : List (List D)) (v0_1 : List (List D)) (K : Bool → Option β) (L0 : Int → Option β) (v : Int) : Option β :=
  match v with
  | v0_2 => bif (decide ((v0_2 : Int) < (v0_0.length : Int))) then (atRow v0_0 v0_2 fun c16 => uncons c16 fun d17 r18 => dStr d17 fun x19 => uncons r18 fun d20 r21 => dInt .i64 d20 fun x22 => atEnd r21 (atRow v0_1 v0_2 fun c23 => uncons c23 fun d24 r25 => dStr d24 fun x26 => uncons r25 fun d27 r28 => dInt .i64 d27 fun x29 => atEnd r28 (laws_eqWeigh.f k x19 x22 x26 x29 (fun y30 => bif (!y30) then (K false) else (L0 (IntKind.wrap .i64 (v0_2 + 1))))))) else (K true)
noncomputable def laws_eqWeighS.g {β : Type} (k : Nat) (a0 : List (List D)) (a1 : List (List D)) (K : Bool → Option β) : Option β :=
  bif (((a0.length : Int) : Int) != (a1.length : Int)) then (K false) else (iter (laws_eqWeighS.l0 k a0 a1 K) k (0))
noncomputable def laws_eqWeighS.t (k : Nat) (a0 : List (List D)) (a1 : List (List D)) : Option (Bool) := laws_eqWeighS.g k a0 a1 (fun z0 => some z0)
noncomputable def laws_eqWeighS.f {β : Type} (k : Nat) (a0 : List (List D)) (a1 : List (List D)) (K : Bool → Option β) : Option β :=
  match laws_eqWeighS.t k a0 a1 with
  | some z0 => K z0
  | none => none
noncomputable def laws_eqWeighS.as (a0 : List (List D)) (a1 : List (List D)) : List A := [.d (.sl a0), .d (.sl a1)]
noncomputable def laws_eqWeighS.kt {β : Type} (a0 : List (List D)) (a1 : List (List D)) (K0 : List (List C) → List Out → Option β) : Bool → Option β := fun z0 => K0 [[.d (.bool z0)]] []
noncomputable def laws_eqWeighS.e (k : Nat) : Entry := { modes := [(.imm, 0), (.imm, 0)], rts := [4], al := false, run := fun {β} l K => match l with | [.d (.sl a0), .d (.sl a1)] => laws_eqWeighS.f k a0 a1 (laws_eqWeighS.kt a0 a1 K) | _ => none }
noncomputable def laws_eqWeighS.E (k : Nat) : Env := fun g => bif g == 143 then some (laws_eqWeigh.e k) else none
noncomputable def laws_eqWeighS.h : Hints := ⟨fun n => bif n == 4 then ⟨[(0, .asis), (1, .asis), (5, .asis)], []⟩ else ⟨[], []⟩, fun _ => none, false, []⟩
noncomputable def laws_eqWeighS.s0 (v0_0 : List (List D)) (v0_1 : List (List D)) (v : Int) : St :=
  match v with
  | v0_2 => ⟨[.d false (.sl v0_0), .d false (.sl v0_1), .any, .any, .any, .d true (.int .i64 v0_2), .any, .any, .any, .any, .any, .any, .any, .any, .any, .any, .any, .any, .any, .any, .any, .any, .any, .any, .any, .any, .any], []⟩
noncomputable def laws_eqWeighS.b0 {β : Type} (k : Nat) : St → (Ex → St → Option β) → Option β := fun s K => den Try.prog (laws_eqWeighS.E k) laws_eqWeighS.h.H laws_eqWeighS.h.J k (codeAt [1, 1, 0, 1, 0, 0] (codeOf Try.f83)) s K
noncomputable def laws_eqWeighS.c0 {β : Type} (k : Nat) (a0 : List (List D)) (a1 : List (List D)) (K0 : List (List C) → List Out → Option β) : Ex → St → Option β := contAt Try.prog (laws_eqWeighS.E k) laws_eqWeighS.h k [1, 1, 0, 1, 0] (codeOf Try.f83) (finDen Try.prog Try.f83 laws_eqWeighS.h (laws_eqWeighS.as a0 a1) K0)
theorem laws_eqWeighS.l0_eq {β : Type} (k : Nat) (a0 : List (List D)) (a1 : List (List D)) (K0 : List (List C) → List Out → Option β) (v0_0 : List (List D)) (v0_1 : List (List D)) : ∀ (kk : Nat) (v : Int), loopDen (laws_eqWeighS.b0 k) (laws_eqWeighS.h.H 4) kk (laws_eqWeighS.s0 v0_0 v0_1 v) (laws_eqWeighS.c0 k a0 a1 K0) = iter (laws_eqWeighS.l0 k v0_0 v0_1 (laws_eqWeighS.kt a0 a1 K0)) kk v :=
  loop_eq (laws_eqWeighS.s0 v0_0 v0_1) _ (fun L0 v => by kernel_rfl)
noncomputable def laws_eqWeighS.m {β : Type} (k : Nat) (a0 : List (List D)) (a1 : List (List D)) (K0 : List (List C) → List Out → Option β) (F : ((List (List D)) → (List (List D)) → Int → Option β)) : Option β :=
  bif (((a0.length : Int) : Int) != (a1.length : Int)) then ((laws_eqWeighS.kt a0 a1 K0) false) else ((F) a0 a1 (0))
theorem laws_eqWeighS.f_eq {β : Type} (k : Nat) (a0 : List (List D)) (a1 : List (List D)) (K0 : List (List C) → List Out → Option β) : funDen Try.prog (laws_eqWeighS.E k) laws_eqWeighS.h k Try.f83 (laws_eqWeighS.as a0 a1) K0 = laws_eqWeighS.g k a0 a1 (laws_eqWeighS.kt a0 a1 K0) := Eq.trans (b := (laws_eqWeighS.m k a0 a1 K0) (fun (v0_0 : List (List D)) (v0_1 : List (List D)) (v : Int) => loopDen (laws_eqWeighS.b0 k) (laws_eqWeighS.h.H 4) k (laws_eqWeighS.s0 v0_0 v0_1 v) (laws_eqWeighS.c0 k a0 a1 K0))) (by kernel_rfl) (Eq.trans (congrArg (laws_eqWeighS.m k a0 a1 K0) (funext fun v0_0 => funext fun v0_1 => funext fun v => laws_eqWeighS.l0_eq k a0 a1 K0 v0_0 v0_1 k v)) (by kernel_rfl))
noncomputable def laws_eqWeighS.dec (rs : List (List C)) (os : List Out) : Option (Bool) := uncons rs fun c1 r2 => uncons c1 fun x3 l4 => cD x3 fun d5 => dBool d5 fun w0 => atEnd l4 <| atEnd r2 <| atEnd os (some w0)
theorem laws_eqWeighS.kt_dec (a0 : List (List D)) (a1 : List (List D)) : laws_eqWeighS.kt a0 a1 laws_eqWeighS.dec = (fun z0 => some z0) := by kernel_rfl
theorem laws_eqWeighS.inj (a0 : List (List D)) (a1 : List (List D)) {rs : List (List C)} {os : List Out} {z0 : Bool} (h : laws_eqWeighS.dec rs os = some z0) (ho : OutShape (laws_eqWeighS.as a0 a1) os) : rs = [[.d (.bool z0)]] ∧ os = [] := by
  unfold laws_eqWeighS.dec at h
  obtain ⟨c1, r2, rfl, h1⟩ := uncons_some h
  obtain ⟨x3, l4, rfl, h2⟩ := uncons_some h1
  obtain ⟨d5, rfl, h3⟩ := cD_some h2
  obtain ⟨w0, rfl, h4⟩ := dBool_some h3
  obtain ⟨rfl, h5⟩ := atEnd_some h4
  obtain ⟨rfl, h6⟩ := atEnd_some h5
  obtain ⟨rfl, h7⟩ := atEnd_some h6
  obtain rfl := Option.some.inj h7
  exact ⟨rfl, rfl⟩
theorem laws_eqWeighS.ok (k : Nat) : EntryOK Try.prog 83 (laws_eqWeighS.e k) := by
  refine entry_of mix tyok (fn := Try.f83) (c := codeOf Try.f83) Try.func83 (by kernel_rfl) (h := laws_eqWeighS.h) (k := k) (E := laws_eqWeighS.E k) (env_cons (laws_eqWeigh.ok k) env_nil) (by kernel_rfl) (by kernel_rfl) rfl (enter_of Try.func83 (by kernel_rfl)) ?_
  intro β l K r hr
  simp only [laws_eqWeighS.e] at hr
  split at hr
  case h_2 => cases hr
  unfold laws_eqWeighS.f at hr
  split at hr
  case h_2 => cases hr
  rename_i hz
  exact ⟨_, _, hr, _, laws_eqWeighS.dec, _, (laws_eqWeighS.f_eq k _ _ laws_eqWeighS.dec).trans (by rw [laws_eqWeighS.kt_dec]; exact hz), fun rs os h ho => laws_eqWeighS.inj _ _ h ho⟩
/-! ### loop.example/g00119/laws.eqWant: function 24 -/
noncomputable def laws_eqWant.g {β : Type} (k : Nat) (a0_0 : Int) (a0_1 : List (List D)) (a0_2 : List (List D)) (a0_3 : List (List D)) (a1_0 : Int) (a1_1 : List (List D)) (a1_2 : List (List D)) (a1_3 : List (List D)) (K : Bool → Option β) : Option β :=
  bif ((a0_0 : Int) != a1_0) then (K false) else (laws_eqTermS.f k a0_1 a1_1 (fun y43 => bif (!y43) then (K false) else (laws_eqStringS.f k a0_2 a1_2 (fun y44 => bif (!y44) then (K false) else (laws_eqWeighS.f k a0_3 a1_3 (fun y45 => bif (!y45) then (K false) else (K true)))))))
noncomputable def laws_eqWant.t (k : Nat) (a0_0 : Int) (a0_1 : List (List D)) (a0_2 : List (List D)) (a0_3 : List (List D)) (a1_0 : Int) (a1_1 : List (List D)) (a1_2 : List (List D)) (a1_3 : List (List D)) : Option (Bool) := laws_eqWant.g k a0_0 a0_1 a0_2 a0_3 a1_0 a1_1 a1_2 a1_3 (fun z0 => some z0)
noncomputable def laws_eqWant.f {β : Type} (k : Nat) (a0_0 : Int) (a0_1 : List (List D)) (a0_2 : List (List D)) (a0_3 : List (List D)) (a1_0 : Int) (a1_1 : List (List D)) (a1_2 : List (List D)) (a1_3 : List (List D)) (K : Bool → Option β) : Option β :=
  match laws_eqWant.t k a0_0 a0_1 a0_2 a0_3 a1_0 a1_1 a1_2 a1_3 with
  | some z0 => K z0
  | none => none
noncomputable def laws_eqWant.as (a0_0 : Int) (a0_1 : List (List D)) (a0_2 : List (List D)) (a0_3 : List (List D)) (a1_0 : Int) (a1_1 : List (List D)) (a1_2 : List (List D)) (a1_3 : List (List D)) : List A := [.agg [.int .i64 a0_0, .sl a0_1, .sl a0_2, .sl a0_3], .agg [.int .i64 a1_0, .sl a1_1, .sl a1_2, .sl a1_3]]
noncomputable def laws_eqWant.kt {β : Type} (a0_0 : Int) (a0_1 : List (List D)) (a0_2 : List (List D)) (a0_3 : List (List D)) (a1_0 : Int) (a1_1 : List (List D)) (a1_2 : List (List D)) (a1_3 : List (List D)) (K0 : List (List C) → List Out → Option β) : Bool → Option β := fun z0 => K0 [[.d (.bool z0)]] []
noncomputable def laws_eqWant.e (k : Nat) : Entry := { modes := [(.imm, 0), (.imm, 0)], rts := [4], al := false, run := fun {β} l K => match l with | [.agg [.int .i64 a0_0, .sl a0_1, .sl a0_2, .sl a0_3], .agg [.int .i64 a1_0, .sl a1_1, .sl a1_2, .sl a1_3]] => laws_eqWant.f k a0_0 a0_1 a0_2 a0_3 a1_0 a1_1 a1_2 a1_3 (laws_eqWant.kt a0_0 a0_1 a0_2 a0_3 a1_0 a1_1 a1_2 a1_3 K) | _ => none }
noncomputable def laws_eqWant.E (k : Nat) : Env := fun g => bif g == 82 then some (laws_eqTermS.e k) else bif g == 77 then some (laws_eqStringS.e k) else bif g == 83 then some (laws_eqWeighS.e k) else none
noncomputable def laws_eqWant.h : Hints := ⟨fun n => ⟨[], []⟩, fun _ => none, false, []⟩
theorem laws_eqWant.f_eq {β : Type} (k : Nat) (a0_0 : Int) (a0_1 : List (List D)) (a0_2 : List (List D)) (a0_3 : List (List D)) (a1_0 : Int) (a1_1 : List (List D)) (a1_2 : List (List D)) (a1_3 : List (List D)) (K0 : List (List C) → List Out → Option β) : funDen Try.prog (laws_eqWant.E k) laws_eqWant.h k Try.f24 (laws_eqWant.as a0_0 a0_1 a0_2 a0_3 a1_0 a1_1 a1_2 a1_3) K0 = laws_eqWant.g k a0_0 a0_1 a0_2 a0_3 a1_0 a1_1 a1_2 a1_3 (laws_eqWant.kt a0_0 a0_1 a0_2 a0_3 a1_0 a1_1 a1_2 a1_3 K0) := by kernel_rfl
noncomputable def laws_eqWant.dec (rs : List (List C)) (os : List Out) : Option (Bool) := uncons rs fun c1 r2 => uncons c1 fun x3 l4 => cD x3 fun d5 => dBool d5 fun w0 => atEnd l4 <| atEnd r2 <| atEnd os (some w0)
theorem laws_eqWant.kt_dec (a0_0 : Int) (a0_1 : List (List D)) (a0_2 : List (List D)) (a0_3 : List (List D)) (a1_0 : Int) (a1_1 : List (List D)) (a1_2 : List (List D)) (a1_3 : List (List D)) : laws_eqWant.kt a0_0 a0_1 a0_2 a0_3 a1_0 a1_1 a1_2 a1_3 laws_eqWant.dec = (fun z0 => some z0) := by kernel_rfl
theorem laws_eqWant.inj (a0_0 : Int) (a0_1 : List (List D)) (a0_2 : List (List D)) (a0_3 : List (List D)) (a1_0 : Int) (a1_1 : List (List D)) (a1_2 : List (List D)) (a1_3 : List (List D)) {rs : List (List C)} {os : List Out} {z0 : Bool} (h : laws_eqWant.dec rs os = some z0) (ho : OutShape (laws_eqWant.as a0_0 a0_1 a0_2 a0_3 a1_0 a1_1 a1_2 a1_3) os) : rs = [[.d (.bool z0)]] ∧ os = [] := by
  unfold laws_eqWant.dec at h
  obtain ⟨c1, r2, rfl, h1⟩ := uncons_some h
  obtain ⟨x3, l4, rfl, h2⟩ := uncons_some h1
  obtain ⟨d5, rfl, h3⟩ := cD_some h2
  obtain ⟨w0, rfl, h4⟩ := dBool_some h3
  obtain ⟨rfl, h5⟩ := atEnd_some h4
  obtain ⟨rfl, h6⟩ := atEnd_some h5
  obtain ⟨rfl, h7⟩ := atEnd_some h6
  obtain rfl := Option.some.inj h7
  exact ⟨rfl, rfl⟩
theorem laws_eqWant.ok (k : Nat) : EntryOK Try.prog 24 (laws_eqWant.e k) := by
  refine entry_of mix tyok (fn := Try.f24) (c := codeOf Try.f24) Try.func24 (by kernel_rfl) (h := laws_eqWant.h) (k := k) (E := laws_eqWant.E k) (env_cons (laws_eqTermS.ok k) (env_cons (laws_eqStringS.ok k) (env_cons (laws_eqWeighS.ok k) env_nil))) (by kernel_rfl) (by kernel_rfl) rfl (enter_of Try.func24 (by kernel_rfl)) ?_
  intro β l K r hr
  simp only [laws_eqWant.e] at hr
  split at hr
  case h_2 => cases hr
  unfold laws_eqWant.f at hr
  split at hr
  case h_2 => cases hr
  rename_i hz
  exact ⟨_, _, hr, _, laws_eqWant.dec, _, (laws_eqWant.f_eq k _ _ _ _ _ _ _ _ laws_eqWant.dec).trans (by rw [laws_eqWant.kt_dec]; exact hz), fun rs os h ho => laws_eqWant.inj _ _ _ _ _ _ _ _ h ho⟩
/-! ### loop.example/g00119/laws.eqLabel: function 137 -/
noncomputable def laws_eqLabel.g {β : Type} (k : Nat) (a0_0 : ByteArray) (a0_1 : ByteArray) (a1_0 : ByteArray) (a1_1 : ByteArray) (K : Bool → Option β) : Option β :=
  bif (!(strEq a0_0 a1_0)) then (K false) else (bif (!(strEq a0_1 a1_1)) then (K false) else (K true))
noncomputable def laws_eqLabel.t (k : Nat) (a0_0 : ByteArray) (a0_1 : ByteArray) (a1_0 : ByteArray) (a1_1 : ByteArray) : Option (Bool) := laws_eqLabel.g k a0_0 a0_1 a1_0 a1_1 (fun z0 => some z0)
noncomputable def laws_eqLabel.f {β : Type} (k : Nat) (a0_0 : ByteArray) (a0_1 : ByteArray) (a1_0 : ByteArray) (a1_1 : ByteArray) (K : Bool → Option β) : Option β :=
  match laws_eqLabel.t k a0_0 a0_1 a1_0 a1_1 with
  | some z0 => K z0
  | none => none
noncomputable def laws_eqLabel.as (a0_0 : ByteArray) (a0_1 : ByteArray) (a1_0 : ByteArray) (a1_1 : ByteArray) : List A := [.agg [.str a0_0, .str a0_1], .agg [.str a1_0, .str a1_1]]
noncomputable def laws_eqLabel.kt {β : Type} (a0_0 : ByteArray) (a0_1 : ByteArray) (a1_0 : ByteArray) (a1_1 : ByteArray) (K0 : List (List C) → List Out → Option β) : Bool → Option β := fun z0 => K0 [[.d (.bool z0)]] []
noncomputable def laws_eqLabel.e (k : Nat) : Entry := { modes := [(.imm, 0), (.imm, 0)], rts := [4], al := false, run := fun {β} l K => match l with | [.agg [.str a0_0, .str a0_1], .agg [.str a1_0, .str a1_1]] => laws_eqLabel.f k a0_0 a0_1 a1_0 a1_1 (laws_eqLabel.kt a0_0 a0_1 a1_0 a1_1 K) | _ => none }
noncomputable def laws_eqLabel.E (k : Nat) : Env := fun g => none
noncomputable def laws_eqLabel.h : Hints := ⟨fun n => ⟨[], []⟩, fun _ => none, false, []⟩
theorem laws_eqLabel.f_eq {β : Type} (k : Nat) (a0_0 : ByteArray) (a0_1 : ByteArray) (a1_0 : ByteArray) (a1_1 : ByteArray) (K0 : List (List C) → List Out → Option β) : funDen Try.prog (laws_eqLabel.E k) laws_eqLabel.h k Try.f137 (laws_eqLabel.as a0_0 a0_1 a1_0 a1_1) K0 = laws_eqLabel.g k a0_0 a0_1 a1_0 a1_1 (laws_eqLabel.kt a0_0 a0_1 a1_0 a1_1 K0) := by kernel_rfl
noncomputable def laws_eqLabel.dec (rs : List (List C)) (os : List Out) : Option (Bool) := uncons rs fun c1 r2 => uncons c1 fun x3 l4 => cD x3 fun d5 => dBool d5 fun w0 => atEnd l4 <| atEnd r2 <| atEnd os (some w0)
theorem laws_eqLabel.kt_dec (a0_0 : ByteArray) (a0_1 : ByteArray) (a1_0 : ByteArray) (a1_1 : ByteArray) : laws_eqLabel.kt a0_0 a0_1 a1_0 a1_1 laws_eqLabel.dec = (fun z0 => some z0) := by kernel_rfl
theorem laws_eqLabel.inj (a0_0 : ByteArray) (a0_1 : ByteArray) (a1_0 : ByteArray) (a1_1 : ByteArray) {rs : List (List C)} {os : List Out} {z0 : Bool} (h : laws_eqLabel.dec rs os = some z0) (ho : OutShape (laws_eqLabel.as a0_0 a0_1 a1_0 a1_1) os) : rs = [[.d (.bool z0)]] ∧ os = [] := by
  unfold laws_eqLabel.dec at h
  obtain ⟨c1, r2, rfl, h1⟩ := uncons_some h
  obtain ⟨x3, l4, rfl, h2⟩ := uncons_some h1
  obtain ⟨d5, rfl, h3⟩ := cD_some h2
  obtain ⟨w0, rfl, h4⟩ := dBool_some h3
  obtain ⟨rfl, h5⟩ := atEnd_some h4
  obtain ⟨rfl, h6⟩ := atEnd_some h5
  obtain ⟨rfl, h7⟩ := atEnd_some h6
  obtain rfl := Option.some.inj h7
  exact ⟨rfl, rfl⟩
theorem laws_eqLabel.ok (k : Nat) : EntryOK Try.prog 137 (laws_eqLabel.e k) := by
  refine entry_of mix tyok (fn := Try.f137) (c := codeOf Try.f137) Try.func137 (by kernel_rfl) (h := laws_eqLabel.h) (k := k) (E := laws_eqLabel.E k) env_nil (by kernel_rfl) (by kernel_rfl) rfl (enter_of Try.func137 (by kernel_rfl)) ?_
  intro β l K r hr
  simp only [laws_eqLabel.e] at hr
  split at hr
  case h_2 => cases hr
  unfold laws_eqLabel.f at hr
  split at hr
  case h_2 => cases hr
  rename_i hz
  exact ⟨_, _, hr, _, laws_eqLabel.dec, _, (laws_eqLabel.f_eq k _ _ _ _ laws_eqLabel.dec).trans (by rw [laws_eqLabel.kt_dec]; exact hz), fun rs os h ho => laws_eqLabel.inj _ _ _ _ h ho⟩
/-! ### loop.example/g00119/laws.eqLabelS: function 76 -/
noncomputable def laws_eqLabelS.l0 {β : Type} (k : Nat) (v0_0 : List (List D)) (v0_1 : List (List D)) (K : Bool → Option β) (L0 : Int → Option β) (v : Int) : Option β :=
  match v with
  | v0_2 => bif (decide ((v0_2 : Int) < (v0_0.length : Int))) then (atRow v0_0 v0_2 fun c16 => uncons c16 fun d17 r18 => dStr d17 fun x19 => uncons r18 fun d20 r21 => dStr d20 fun x22 => atEnd r21 (atRow v0_1 v0_2 fun c23 => uncons c23 fun d24 r25 => dStr d24 fun x26 => uncons r25 fun d27 r28 => dStr d27 fun x29 => atEnd r28 (laws_eqLabel.f k x19 x22 x26 x29 (fun y30 => bif (!y30) then (K false) else (L0 (IntKind.wrap .i64 (v0_2 + 1))))))) else (K true)
noncomputable def laws_eqLabelS.g {β : Type} (k : Nat) (a0 : List (List D)) (a1 : List (List D)) (K : Bool → Option β) : Option β :=
  bif (((a0.length : Int) : Int) != (a1.length : Int)) then (K false) else (iter (laws_eqLabelS.l0 k a0 a1 K) k (0))
noncomputable def laws_eqLabelS.t (k : Nat) (a0 : List (List D)) (a1 : List (List D)) : Option (Bool) := laws_eqLabelS.g k a0 a1 (fun z0 => some z0)
noncomputable def laws_eqLabelS.f {β : Type} (k : Nat) (a0 : List (List D)) (a1 : List (List D)) (K : Bool → Option β) : Option β :=
  match laws_eqLabelS.t k a0 a1 with
  | some z0 => K z0
  | none => none
noncomputable def laws_eqLabelS.as (a0 : List (List D)) (a1 : List (List D)) : List A := [.d (.sl a0), .d (.sl a1)]
noncomputable def laws_eqLabelS.kt {β : Type} (a0 : List (List D)) (a1 : List (List D)) (K0 : List (List C) → List Out → Option β) : Bool → Option β := fun z0 => K0 [[.d (.bool z0)]] []
noncomputable def laws_eqLabelS.e (k : Nat) : Entry := { modes := [(.imm, 0), (.imm, 0)], rts := [4], al := false, run := fun {β} l K => match l with | [.d (.sl a0), .d (.sl a1)] => laws_eqLabelS.f k a0 a1 (laws_eqLabelS.kt a0 a1 K) | _ => none }
noncomputable def laws_eqLabelS.E (k : Nat) : Env := fun g => bif g == 137 then some (laws_eqLabel.e k) else none
noncomputable def laws_eqLabelS.h : Hints := ⟨fun n => bif n == 4 then ⟨[(0, .asis), (1, .asis), (5, .asis)], []⟩ else ⟨[], []⟩, fun _ => none, false, []⟩
noncomputable def laws_eqLabelS.s0 (v0_0 : List (List D)) (v0_1 : List (List D)) (v : Int) : St :=
  match v with
  | v0_2 => ⟨[.d false (.sl v0_0), .d false (.sl v0_1), .any, .any, .any, .d true (.int .i64 v0_2), .any, .any, .any, .any, .any, .any, .any, .any, .any, .any, .any, .any, .any, .any, .any, .any, .any, .any, .any, .any, .any], []⟩
noncomputable def laws_eqLabelS.b0 {β : Type} (k : Nat) : St → (Ex → St → Option β) → Option β := fun s K => den Try.prog (laws_eqLabelS.E k) laws_eqLabelS.h.H laws_eqLabelS.h.J k (codeAt [1, 1, 0, 1, 0, 0] (codeOf Try.f76)) s K
noncomputable def laws_eqLabelS.c0 {β : Type} (k : Nat) (a0 : List (List D)) (a1 : List (List D)) (K0 : List (List C) → List Out → Option β) : Ex → St → Option β := contAt Try.prog (laws_eqLabelS.E k) laws_eqLabelS.h k [1, 1, 0, 1, 0] (codeOf Try.f76) (finDen Try.prog Try.f76 laws_eqLabelS.h (laws_eqLabelS.as a0 a1) K0)
theorem laws_eqLabelS.l0_eq {β : Type} (k : Nat) (a0 : List (List D)) (a1 : List (List D)) (K0 : List (List C) → List Out → Option β) (v0_0 : List (List D)) (v0_1 : List (List D)) : ∀ (kk : Nat) (v : Int), loopDen (laws_eqLabelS.b0 k) (laws_eqLabelS.h.H 4) kk (laws_eqLabelS.s0 v0_0 v0_1 v) (laws_eqLabelS.c0 k a0 a1 K0) = iter (laws_eqLabelS.l0 k v0_0 v0_1 (laws_eqLabelS.kt a0 a1 K0)) kk v :=
  loop_eq (laws_eqLabelS.s0 v0_0 v0_1) _ (fun L0 v => by kernel_rfl)
noncomputable def laws_eqLabelS.m {β : Type} (k : Nat) (a0 : List (List D)) (a1 : List (List D)) (K0 : List (List C) → List Out → Option β) (F : ((List (List D)) → (List (List D)) → Int → Option β)) : Option β :=
  bif (((a0.length : Int) : Int) != (a1.length : Int)) then ((laws_eqLabelS.kt a0 a1 K0) false) else ((F) a0 a1 (0))
theorem laws_eqLabelS.f_eq {β : Type} (k : Nat) (a0 : List (List D)) (a1 : List (List D)) (K0 : List (List C) → List Out → Option β) : funDen Try.prog (laws_eqLabelS.E k) laws_eqLabelS.h k Try.f76 (laws_eqLabelS.as a0 a1) K0 = laws_eqLabelS.g k a0 a1 (laws_eqLabelS.kt a0 a1 K0) := Eq.trans (b := (laws_eqLabelS.m k a0 a1 K0) (fun (v0_0 : List (List D)) (v0_1 : List (List D)) (v : Int) => loopDen (laws_eqLabelS.b0 k) (laws_eqLabelS.h.H 4) k (laws_eqLabelS.s0 v0_0 v0_1 v) (laws_eqLabelS.c0 k a0 a1 K0))) (by kernel_rfl) (Eq.trans (congrArg (laws_eqLabelS.m k a0 a1 K0) (funext fun v0_0 => funext fun v0_1 => funext fun v => laws_eqLabelS.l0_eq k a0 a1 K0 v0_0 v0_1 k v)) (by kernel_rfl))
noncomputable def laws_eqLabelS.dec (rs : List (List C)) (os : List Out) : Option (Bool) := uncons rs fun c1 r2 => uncons c1 fun x3 l4 => cD x3 fun d5 => dBool d5 fun w0 => atEnd l4 <| atEnd r2 <| atEnd os (some w0)
theorem laws_eqLabelS.kt_dec (a0 : List (List D)) (a1 : List (List D)) : laws_eqLabelS.kt a0 a1 laws_eqLabelS.dec = (fun z0 => some z0) := by kernel_rfl
theorem laws_eqLabelS.inj (a0 : List (List D)) (a1 : List (List D)) {rs : List (List C)} {os : List Out} {z0 : Bool} (h : laws_eqLabelS.dec rs os = some z0) (ho : OutShape (laws_eqLabelS.as a0 a1) os) : rs = [[.d (.bool z0)]] ∧ os = [] := by
  unfold laws_eqLabelS.dec at h
  obtain ⟨c1, r2, rfl, h1⟩ := uncons_some h
  obtain ⟨x3, l4, rfl, h2⟩ := uncons_some h1
  obtain ⟨d5, rfl, h3⟩ := cD_some h2
  obtain ⟨w0, rfl, h4⟩ := dBool_some h3
  obtain ⟨rfl, h5⟩ := atEnd_some h4
  obtain ⟨rfl, h6⟩ := atEnd_some h5
  obtain ⟨rfl, h7⟩ := atEnd_some h6
  obtain rfl := Option.some.inj h7
  exact ⟨rfl, rfl⟩
theorem laws_eqLabelS.ok (k : Nat) : EntryOK Try.prog 76 (laws_eqLabelS.e k) := by
  refine entry_of mix tyok (fn := Try.f76) (c := codeOf Try.f76) Try.func76 (by kernel_rfl) (h := laws_eqLabelS.h) (k := k) (E := laws_eqLabelS.E k) (env_cons (laws_eqLabel.ok k) env_nil) (by kernel_rfl) (by kernel_rfl) rfl (enter_of Try.func76 (by kernel_rfl)) ?_
  intro β l K r hr
  simp only [laws_eqLabelS.e] at hr
  split at hr
  case h_2 => cases hr
  unfold laws_eqLabelS.f at hr
  split at hr
  case h_2 => cases hr
  rename_i hz
  exact ⟨_, _, hr, _, laws_eqLabelS.dec, _, (laws_eqLabelS.f_eq k _ _ laws_eqLabelS.dec).trans (by rw [laws_eqLabelS.kt_dec]; exact hz), fun rs os h ho => laws_eqLabelS.inj _ _ h ho⟩
/-! ### loop.example/g00119/laws.eqIsland: function 19 -/
noncomputable def laws_eqIsland.g {β : Type} (k : Nat) (a0_0 : ByteArray) (a0_1 : List (List D)) (a0_2 : List (List D)) (a0_3 : Int) (a1_0 : ByteArray) (a1_1 : List (List D)) (a1_2 : List (List D)) (a1_3 : Int) (K : Bool → Option β) : Option β :=
  bif (!(strEq a0_0 a1_0)) then (K false) else (laws_eqLabelS.f k a0_1 a1_1 (fun y31 => bif (!y31) then (K false) else (laws_eqStringS.f k a0_2 a1_2 (fun y32 => bif (!y32) then (K false) else (bif ((a0_3 : Int) != a1_3) then (K false) else (K true))))))
noncomputable def laws_eqIsland.t (k : Nat) (a0_0 : ByteArray) (a0_1 : List (List D)) (a0_2 : List (List D)) (a0_3 : Int) (a1_0 : ByteArray) (a1_1 : List (List D)) (a1_2 : List (List D)) (a1_3 : Int) : Option (Bool) := laws_eqIsland.g k a0_0 a0_1 a0_2 a0_3 a1_0 a1_1 a1_2 a1_3 (fun z0 => some z0)
noncomputable def laws_eqIsland.f {β : Type} (k : Nat) (a0_0 : ByteArray) (a0_1 : List (List D)) (a0_2 : List (List D)) (a0_3 : Int) (a1_0 : ByteArray) (a1_1 : List (List D)) (a1_2 : List (List D)) (a1_3 : Int) (K : Bool → Option β) : Option β :=
  match laws_eqIsland.t k a0_0 a0_1 a0_2 a0_3 a1_0 a1_1 a1_2 a1_3 with
  | some z0 => K z0
  | none => none
noncomputable def laws_eqIsland.as (a0_0 : ByteArray) (a0_1 : List (List D)) (a0_2 : List (List D)) (a0_3 : Int) (a1_0 : ByteArray) (a1_1 : List (List D)) (a1_2 : List (List D)) (a1_3 : Int) : List A := [.agg [.str a0_0, .sl a0_1, .sl a0_2, .int .i64 a0_3], .agg [.str a1_0, .sl a1_1, .sl a1_2, .int .i64 a1_3]]
noncomputable def laws_eqIsland.kt {β : Type} (a0_0 : ByteArray) (a0_1 : List (List D)) (a0_2 : List (List D)) (a0_3 : Int) (a1_0 : ByteArray) (a1_1 : List (List D)) (a1_2 : List (List D)) (a1_3 : Int) (K0 : List (List C) → List Out → Option β) : Bool → Option β := fun z0 => K0 [[.d (.bool z0)]] []
noncomputable def laws_eqIsland.e (k : Nat) : Entry := { modes := [(.imm, 0), (.imm, 0)], rts := [4], al := false, run := fun {β} l K => match l with | [.agg [.str a0_0, .sl a0_1, .sl a0_2, .int .i64 a0_3], .agg [.str a1_0, .sl a1_1, .sl a1_2, .int .i64 a1_3]] => laws_eqIsland.f k a0_0 a0_1 a0_2 a0_3 a1_0 a1_1 a1_2 a1_3 (laws_eqIsland.kt a0_0 a0_1 a0_2 a0_3 a1_0 a1_1 a1_2 a1_3 K) | _ => none }
noncomputable def laws_eqIsland.E (k : Nat) : Env := fun g => bif g == 76 then some (laws_eqLabelS.e k) else bif g == 77 then some (laws_eqStringS.e k) else none
noncomputable def laws_eqIsland.h : Hints := ⟨fun n => ⟨[], []⟩, fun _ => none, false, []⟩
theorem laws_eqIsland.f_eq {β : Type} (k : Nat) (a0_0 : ByteArray) (a0_1 : List (List D)) (a0_2 : List (List D)) (a0_3 : Int) (a1_0 : ByteArray) (a1_1 : List (List D)) (a1_2 : List (List D)) (a1_3 : Int) (K0 : List (List C) → List Out → Option β) : funDen Try.prog (laws_eqIsland.E k) laws_eqIsland.h k Try.f19 (laws_eqIsland.as a0_0 a0_1 a0_2 a0_3 a1_0 a1_1 a1_2 a1_3) K0 = laws_eqIsland.g k a0_0 a0_1 a0_2 a0_3 a1_0 a1_1 a1_2 a1_3 (laws_eqIsland.kt a0_0 a0_1 a0_2 a0_3 a1_0 a1_1 a1_2 a1_3 K0) := by kernel_rfl
noncomputable def laws_eqIsland.dec (rs : List (List C)) (os : List Out) : Option (Bool) := uncons rs fun c1 r2 => uncons c1 fun x3 l4 => cD x3 fun d5 => dBool d5 fun w0 => atEnd l4 <| atEnd r2 <| atEnd os (some w0)
theorem laws_eqIsland.kt_dec (a0_0 : ByteArray) (a0_1 : List (List D)) (a0_2 : List (List D)) (a0_3 : Int) (a1_0 : ByteArray) (a1_1 : List (List D)) (a1_2 : List (List D)) (a1_3 : Int) : laws_eqIsland.kt a0_0 a0_1 a0_2 a0_3 a1_0 a1_1 a1_2 a1_3 laws_eqIsland.dec = (fun z0 => some z0) := by kernel_rfl
theorem laws_eqIsland.inj (a0_0 : ByteArray) (a0_1 : List (List D)) (a0_2 : List (List D)) (a0_3 : Int) (a1_0 : ByteArray) (a1_1 : List (List D)) (a1_2 : List (List D)) (a1_3 : Int) {rs : List (List C)} {os : List Out} {z0 : Bool} (h : laws_eqIsland.dec rs os = some z0) (ho : OutShape (laws_eqIsland.as a0_0 a0_1 a0_2 a0_3 a1_0 a1_1 a1_2 a1_3) os) : rs = [[.d (.bool z0)]] ∧ os = [] := by
  unfold laws_eqIsland.dec at h
  obtain ⟨c1, r2, rfl, h1⟩ := uncons_some h
  obtain ⟨x3, l4, rfl, h2⟩ := uncons_some h1
  obtain ⟨d5, rfl, h3⟩ := cD_some h2
  obtain ⟨w0, rfl, h4⟩ := dBool_some h3
  obtain ⟨rfl, h5⟩ := atEnd_some h4
  obtain ⟨rfl, h6⟩ := atEnd_some h5
  obtain ⟨rfl, h7⟩ := atEnd_some h6
  obtain rfl := Option.some.inj h7
  exact ⟨rfl, rfl⟩
theorem laws_eqIsland.ok (k : Nat) : EntryOK Try.prog 19 (laws_eqIsland.e k) := by
  refine entry_of mix tyok (fn := Try.f19) (c := codeOf Try.f19) Try.func19 (by kernel_rfl) (h := laws_eqIsland.h) (k := k) (E := laws_eqIsland.E k) (env_cons (laws_eqLabelS.ok k) (env_cons (laws_eqStringS.ok k) env_nil)) (by kernel_rfl) (by kernel_rfl) rfl (enter_of Try.func19 (by kernel_rfl)) ?_
  intro β l K r hr
  simp only [laws_eqIsland.e] at hr
  split at hr
  case h_2 => cases hr
  unfold laws_eqIsland.f at hr
  split at hr
  case h_2 => cases hr
  rename_i hz
  exact ⟨_, _, hr, _, laws_eqIsland.dec, _, (laws_eqIsland.f_eq k _ _ _ _ _ _ _ _ laws_eqIsland.dec).trans (by rw [laws_eqIsland.kt_dec]; exact hz), fun rs os h ho => laws_eqIsland.inj _ _ _ _ _ _ _ _ h ho⟩
/-! ### loop.example/g00119/laws.FnExactEligible: function 12 -/
noncomputable def laws_FnExactEligible.g {β : Type} (k : Nat) (a0_0 : Int) (a0_1 : List (List D)) (a0_2 : List (List D)) (a0_3 : List (List D)) (a1_0 : ByteArray) (a1_1 : List (List D)) (a1_2 : List (List D)) (a1_3 : Int) (K : Bool → Option β) : Option β :=
  laws_szWant.f k a0_0 a0_1 a0_2 a0_3 1048576 (fun y26 => bif (decide ((y26 : Int) < 0)) then (K true) else (laws_szIsland.f k a1_0 a1_1 a1_2 a1_3 y26 (fun y27 => bif (decide ((y27 : Int) < 0)) then (K true) else (laws_toWant.f k a0_0 a0_1 a0_2 a0_3 (fun y30 y31 y32 y33 => laws_toIsland.f k a1_0 a1_1 a1_2 a1_3 (fun y34 y35 y36 y37 => spec_Eligible.f k y30 (C.immRows y31) (C.immRows y32) (C.immRows y33) y34 (C.immRows y35) (C.immRows y36) y37 (fun y93 => laws_toWant.f k a0_0 a0_1 a0_2 a0_3 (fun y94 y95 y96 y97 => laws_toIsland.f k a1_0 a1_1 a1_2 a1_3 (fun y98 y99 y100 y101 => impl_Eligible.f k y94 (C.immRows y95) (C.immRows y96) (C.immRows y97) y98 (C.immRows y99) (C.immRows y100) y101 (fun y102 => bif (!(y102 == y93)) then (K false) else (laws_toWant.f k a0_0 a0_1 a0_2 a0_3 (fun y103 y104 y105 y106 => laws_eqWant.f k y94 (C.immRows y95) (C.immRows y96) (C.immRows y97) y103 (C.immRows y104) (C.immRows y105) (C.immRows y106) (fun y107 => bif (!y107) then (K false) else (laws_toIsland.f k a1_0 a1_1 a1_2 a1_3 (fun y108 y109 y110 y111 => laws_eqIsland.f k y98 (C.immRows y99) (C.immRows y100) y101 y108 (C.immRows y109) (C.immRows y110) y111 (fun y112 => bif (!y112) then (K false) else (K true)))))))))))))))))
noncomputable def laws_FnExactEligible.t (k : Nat) (a0_0 : Int) (a0_1 : List (List D)) (a0_2 : List (List D)) (a0_3 : List (List D)) (a1_0 : ByteArray) (a1_1 : List (List D)) (a1_2 : List (List D)) (a1_3 : Int) : Option (Bool) := laws_FnExactEligible.g k a0_0 a0_1 a0_2 a0_3 a1_0 a1_1 a1_2 a1_3 (fun z0 => some z0)
noncomputable def laws_FnExactEligible.f {β : Type} (k : Nat) (a0_0 : Int) (a0_1 : List (List D)) (a0_2 : List (List D)) (a0_3 : List (List D)) (a1_0 : ByteArray) (a1_1 : List (List D)) (a1_2 : List (List D)) (a1_3 : Int) (K : Bool → Option β) : Option β :=
  match laws_FnExactEligible.t k a0_0 a0_1 a0_2 a0_3 a1_0 a1_1 a1_2 a1_3 with
  | some z0 => K z0
  | none => none
noncomputable def laws_FnExactEligible.as (a0_0 : Int) (a0_1 : List (List D)) (a0_2 : List (List D)) (a0_3 : List (List D)) (a1_0 : ByteArray) (a1_1 : List (List D)) (a1_2 : List (List D)) (a1_3 : Int) : List A := [.agg [.int .i64 a0_0, .sl a0_1, .sl a0_2, .sl a0_3], .agg [.str a1_0, .sl a1_1, .sl a1_2, .int .i64 a1_3]]
noncomputable def laws_FnExactEligible.kt {β : Type} (a0_0 : Int) (a0_1 : List (List D)) (a0_2 : List (List D)) (a0_3 : List (List D)) (a1_0 : ByteArray) (a1_1 : List (List D)) (a1_2 : List (List D)) (a1_3 : Int) (K0 : List (List C) → List Out → Option β) : Bool → Option β := fun z0 => K0 [[.d (.bool z0)]] []
noncomputable def laws_FnExactEligible.e (k : Nat) : Entry := { modes := [(.imm, 0), (.imm, 0)], rts := [4], al := false, run := fun {β} l K => match l with | [.agg [.int .i64 a0_0, .sl a0_1, .sl a0_2, .sl a0_3], .agg [.str a1_0, .sl a1_1, .sl a1_2, .int .i64 a1_3]] => laws_FnExactEligible.f k a0_0 a0_1 a0_2 a0_3 a1_0 a1_1 a1_2 a1_3 (laws_FnExactEligible.kt a0_0 a0_1 a0_2 a0_3 a1_0 a1_1 a1_2 a1_3 K) | _ => none }
noncomputable def laws_FnExactEligible.E (k : Nat) : Env := fun g => bif g == 20 then some (laws_szWant.e k) else bif g == 15 then some (laws_szIsland.e k) else bif g == 22 then some (laws_toWant.e k) else bif g == 17 then some (laws_toIsland.e k) else bif g == 53 then some (spec_Eligible.e k) else bif g == 54 then some (impl_Eligible.e k) else bif g == 24 then some (laws_eqWant.e k) else bif g == 19 then some (laws_eqIsland.e k) else none
noncomputable def laws_FnExactEligible.h : Hints := ⟨fun n => ⟨[], []⟩, fun _ => none, false, []⟩
theorem laws_FnExactEligible.f_eq {β : Type} (k : Nat) (a0_0 : Int) (a0_1 : List (List D)) (a0_2 : List (List D)) (a0_3 : List (List D)) (a1_0 : ByteArray) (a1_1 : List (List D)) (a1_2 : List (List D)) (a1_3 : Int) (K0 : List (List C) → List Out → Option β) : funDen Try.prog (laws_FnExactEligible.E k) laws_FnExactEligible.h k Try.f12 (laws_FnExactEligible.as a0_0 a0_1 a0_2 a0_3 a1_0 a1_1 a1_2 a1_3) K0 = laws_FnExactEligible.g k a0_0 a0_1 a0_2 a0_3 a1_0 a1_1 a1_2 a1_3 (laws_FnExactEligible.kt a0_0 a0_1 a0_2 a0_3 a1_0 a1_1 a1_2 a1_3 K0) := by kernel_rfl
noncomputable def laws_FnExactEligible.dec (rs : List (List C)) (os : List Out) : Option (Bool) := uncons rs fun c1 r2 => uncons c1 fun x3 l4 => cD x3 fun d5 => dBool d5 fun w0 => atEnd l4 <| atEnd r2 <| atEnd os (some w0)
theorem laws_FnExactEligible.kt_dec (a0_0 : Int) (a0_1 : List (List D)) (a0_2 : List (List D)) (a0_3 : List (List D)) (a1_0 : ByteArray) (a1_1 : List (List D)) (a1_2 : List (List D)) (a1_3 : Int) : laws_FnExactEligible.kt a0_0 a0_1 a0_2 a0_3 a1_0 a1_1 a1_2 a1_3 laws_FnExactEligible.dec = (fun z0 => some z0) := by kernel_rfl
theorem laws_FnExactEligible.inj (a0_0 : Int) (a0_1 : List (List D)) (a0_2 : List (List D)) (a0_3 : List (List D)) (a1_0 : ByteArray) (a1_1 : List (List D)) (a1_2 : List (List D)) (a1_3 : Int) {rs : List (List C)} {os : List Out} {z0 : Bool} (h : laws_FnExactEligible.dec rs os = some z0) (ho : OutShape (laws_FnExactEligible.as a0_0 a0_1 a0_2 a0_3 a1_0 a1_1 a1_2 a1_3) os) : rs = [[.d (.bool z0)]] ∧ os = [] := by
  unfold laws_FnExactEligible.dec at h
  obtain ⟨c1, r2, rfl, h1⟩ := uncons_some h
  obtain ⟨x3, l4, rfl, h2⟩ := uncons_some h1
  obtain ⟨d5, rfl, h3⟩ := cD_some h2
  obtain ⟨w0, rfl, h4⟩ := dBool_some h3
  obtain ⟨rfl, h5⟩ := atEnd_some h4
  obtain ⟨rfl, h6⟩ := atEnd_some h5
  obtain ⟨rfl, h7⟩ := atEnd_some h6
  obtain rfl := Option.some.inj h7
  exact ⟨rfl, rfl⟩
theorem laws_FnExactEligible.ok (k : Nat) : EntryOK Try.prog 12 (laws_FnExactEligible.e k) := by
  refine entry_of mix tyok (fn := Try.f12) (c := codeOf Try.f12) Try.func12 (by kernel_rfl) (h := laws_FnExactEligible.h) (k := k) (E := laws_FnExactEligible.E k) (env_cons (laws_szWant.ok k) (env_cons (laws_szIsland.ok k) (env_cons (laws_toWant.ok k) (env_cons (laws_toIsland.ok k) (env_cons (spec_Eligible.ok k) (env_cons (impl_Eligible.ok k) (env_cons (laws_eqWant.ok k) (env_cons (laws_eqIsland.ok k) env_nil)))))))) (by kernel_rfl) (by kernel_rfl) rfl (enter_of Try.func12 (by kernel_rfl)) ?_
  intro β l K r hr
  simp only [laws_FnExactEligible.e] at hr
  split at hr
  case h_2 => cases hr
  unfold laws_FnExactEligible.f at hr
  split at hr
  case h_2 => cases hr
  rename_i hz
  exact ⟨_, _, hr, _, laws_FnExactEligible.dec, _, (laws_FnExactEligible.f_eq k _ _ _ _ _ _ _ _ laws_FnExactEligible.dec).trans (by rw [laws_FnExactEligible.kt_dec]; exact hz), fun rs os h ho => laws_FnExactEligible.inj _ _ _ _ _ _ _ _ h ho⟩
end Go.Proofs.Ytnlhhhkeigjnoaa
