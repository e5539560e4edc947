/- Printed: the functions that FnExactIsleOk reaches, read by the evaluator, each with its contract. -/
import Derived.Test.YtnlhhhkeigjnoaaXEIsleOk0
import Derived.KernelRfl
set_option linter.unusedVariables false
set_option linter.unusedSimpArgs false
namespace Go.Proofs.Ytnlhhhkeigjnoaa
open Go Go.T Go.Proofs
/-! ### loop.example/g00119/laws.eqRunS: function 93 -/
noncomputable def laws_eqRunS.l0 {β : Type} (k : Nat) (v0_0 : List (List D)) (v0_1 : List (List D)) (K : Bool → Option β) (L0 : Int → Option β) (v : Int) : Option β :=
  match v with
  | v0_2 => bif (decide ((v0_2 : Int) < (v0_0.length : Int))) then (atRow v0_0 v0_2 fun c16 => uncons c16 fun d17 r18 => dInt .i64 d17 fun x19 => uncons r18 fun d20 r21 => dInt .i64 d20 fun x22 => atEnd r21 (atRow v0_1 v0_2 fun c23 => uncons c23 fun d24 r25 => dInt .i64 d24 fun x26 => uncons r25 fun d27 r28 => dInt .i64 d27 fun x29 => atEnd r28 (laws_eqRun.f k x19 x22 x26 x29 (fun y30 => bif (!y30) then (K false) else (L0 (IntKind.wrap .i64 (v0_2 + 1))))))) else (K true)
noncomputable def laws_eqRunS.g {β : Type} (k : Nat) (a0 : List (List D)) (a1 : List (List D)) (K : Bool → Option β) : Option β :=
  bif (((a0.length : Int) : Int) != (a1.length : Int)) then (K false) else (iter (laws_eqRunS.l0 k a0 a1 K) k (0))
noncomputable def laws_eqRunS.t (k : Nat) (a0 : List (List D)) (a1 : List (List D)) : Option (Bool) := laws_eqRunS.g k a0 a1 (fun z0 => some z0)
noncomputable def laws_eqRunS.f {β : Type} (k : Nat) (a0 : List (List D)) (a1 : List (List D)) (K : Bool → Option β) : Option β :=
  match laws_eqRunS.t k a0 a1 with
  | some z0 => K z0
  | none => none
noncomputable def laws_eqRunS.as (a0 : List (List D)) (a1 : List (List D)) : List A := [.d (.sl a0), .d (.sl a1)]
noncomputable def laws_eqRunS.kt {β : Type} (a0 : List (List D)) (a1 : List (List D)) (K0 : List (List C) → List Out → Option β) : Bool → Option β := fun z0 => K0 [[.d (.bool z0)]] []
noncomputable def laws_eqRunS.e (k : Nat) : Entry := { modes := [(.imm, 0), (.imm, 0)], rts := [4], al := false, run := fun {β} l K => match l with | [.d (.sl a0), .d (.sl a1)] => laws_eqRunS.f k a0 a1 (laws_eqRunS.kt a0 a1 K) | _ => none }
noncomputable def laws_eqRunS.E (k : Nat) : Env := fun g => bif g == 151 then some (laws_eqRun.e k) else none
noncomputable def laws_eqRunS.h : Hints := ⟨fun n => bif n == 4 then ⟨[(0, .asis), (1, .asis), (5, .asis)], []⟩ else ⟨[], []⟩, fun _ => none, false, []⟩
noncomputable def laws_eqRunS.s0 (v0_0 : List (List D)) (v0_1 : List (List D)) (v : Int) : St :=
  match v with
  | v0_2 => ⟨[.d false (.sl v0_0), .d false (.sl v0_1), .any, .any, .any, .d true (.int .i64 v0_2), .any, .any, .any, .any, .any, .any, .any, .any, .any, .any, .any, .any, .any, .any, .any, .any, .any, .any, .any, .any, .any], []⟩
noncomputable def laws_eqRunS.b0 {β : Type} (k : Nat) : St → (Ex → St → Option β) → Option β := fun s K => den Try.prog (laws_eqRunS.E k) laws_eqRunS.h.H laws_eqRunS.h.J k (codeAt [1, 1, 0, 1, 0, 0] (codeOf Try.f93)) s K
noncomputable def laws_eqRunS.c0 {β : Type} (k : Nat) (a0 : List (List D)) (a1 : List (List D)) (K0 : List (List C) → List Out → Option β) : Ex → St → Option β := contAt Try.prog (laws_eqRunS.E k) laws_eqRunS.h k [1, 1, 0, 1, 0] (codeOf Try.f93) (finDen Try.prog Try.f93 laws_eqRunS.h (laws_eqRunS.as a0 a1) K0)
theorem laws_eqRunS.l0_eq {β : Type} (k : Nat) (a0 : List (List D)) (a1 : List (List D)) (K0 : List (List C) → List Out → Option β) (v0_0 : List (List D)) (v0_1 : List (List D)) : ∀ (kk : Nat) (v : Int), loopDen (laws_eqRunS.b0 k) (laws_eqRunS.h.H 4) kk (laws_eqRunS.s0 v0_0 v0_1 v) (laws_eqRunS.c0 k a0 a1 K0) = iter (laws_eqRunS.l0 k v0_0 v0_1 (laws_eqRunS.kt a0 a1 K0)) kk v :=
  loop_eq (laws_eqRunS.s0 v0_0 v0_1) _ (fun L0 v => by kernel_rfl)
noncomputable def laws_eqRunS.m {β : Type} (k : Nat) (a0 : List (List D)) (a1 : List (List D)) (K0 : List (List C) → List Out → Option β) (F : ((List (List D)) → (List (List D)) → Int → Option β)) : Option β :=
  bif (((a0.length : Int) : Int) != (a1.length : Int)) then ((laws_eqRunS.kt a0 a1 K0) false) else ((F) a0 a1 (0))
theorem laws_eqRunS.f_eq {β : Type} (k : Nat) (a0 : List (List D)) (a1 : List (List D)) (K0 : List (List C) → List Out → Option β) : funDen Try.prog (laws_eqRunS.E k) laws_eqRunS.h k Try.f93 (laws_eqRunS.as a0 a1) K0 = laws_eqRunS.g k a0 a1 (laws_eqRunS.kt a0 a1 K0) := Eq.trans (b := (laws_eqRunS.m k a0 a1 K0) (fun (v0_0 : List (List D)) (v0_1 : List (List D)) (v : Int) => loopDen (laws_eqRunS.b0 k) (laws_eqRunS.h.H 4) k (laws_eqRunS.s0 v0_0 v0_1 v) (laws_eqRunS.c0 k a0 a1 K0))) (by kernel_rfl) (Eq.trans (congrArg (laws_eqRunS.m k a0 a1 K0) (funext fun v0_0 => funext fun v0_1 => funext fun v => laws_eqRunS.l0_eq k a0 a1 K0 v0_0 v0_1 k v)) (by kernel_rfl))
noncomputable def laws_eqRunS.dec (rs : List (List C)) (os : List Out) : Option (Bool) := uncons rs fun c1 r2 => uncons c1 fun x3 l4 => cD x3 fun d5 => dBool d5 fun w0 => atEnd l4 <| atEnd r2 <| atEnd os (some w0)
theorem laws_eqRunS.kt_dec (a0 : List (List D)) (a1 : List (List D)) : laws_eqRunS.kt a0 a1 laws_eqRunS.dec = (fun z0 => some z0) := by kernel_rfl
theorem laws_eqRunS.inj (a0 : List (List D)) (a1 : List (List D)) {rs : List (List C)} {os : List Out} {z0 : Bool} (h : laws_eqRunS.dec rs os = some z0) (ho : OutShape (laws_eqRunS.as a0 a1) os) : rs = [[.d (.bool z0)]] ∧ os = [] := by
  unfold laws_eqRunS.dec at h
  obtain ⟨c1, r2, rfl, h1⟩ := uncons_some h
  obtain ⟨x3, l4, rfl, h2⟩ := uncons_some h1
  obtain ⟨d5, rfl, h3⟩ := cD_some h2
  obtain ⟨w0, rfl, h4⟩ := dBool_some h3
  obtain ⟨rfl, h5⟩ := atEnd_some h4
  obtain ⟨rfl, h6⟩ := atEnd_some h5
  obtain ⟨rfl, h7⟩ := atEnd_some h6
  obtain rfl := Option.some.inj h7
  exact ⟨rfl, rfl⟩
theorem laws_eqRunS.ok (k : Nat) : EntryOK Try.prog 93 (laws_eqRunS.e k) := by
  refine entry_of mix tyok (fn := Try.f93) (c := codeOf Try.f93) Try.func93 (by kernel_rfl) (h := laws_eqRunS.h) (k := k) (E := laws_eqRunS.E k) (env_cons (laws_eqRun.ok k) env_nil) (by kernel_rfl) (by kernel_rfl) rfl (enter_of Try.func93 (by kernel_rfl)) ?_
  intro β l K r hr
  simp only [laws_eqRunS.e] at hr
  split at hr
  case h_2 => cases hr
  unfold laws_eqRunS.f at hr
  split at hr
  case h_2 => cases hr
  rename_i hz
  exact ⟨_, _, hr, _, laws_eqRunS.dec, _, (laws_eqRunS.f_eq k _ _ laws_eqRunS.dec).trans (by rw [laws_eqRunS.kt_dec]; exact hz), fun rs os h ho => laws_eqRunS.inj _ _ h ho⟩
/-! ### loop.example/g00119/laws.eqIsle: function 34 -/
noncomputable def laws_eqIsle.g {β : Type} (k : Nat) (a0_0 : ByteArray) (a0_1 : Int) (a0_2 : Int) (a0_3 : List (List D)) (a0_4 : List (List D)) (a1_0 : ByteArray) (a1_1 : Int) (a1_2 : Int) (a1_3 : List (List D)) (a1_4 : List (List D)) (K : Bool → Option β) : Option β :=
  bif (!(strEq a0_0 a1_0)) then (K false) else (bif ((a0_1 : Int) != a1_1) then (K false) else (bif ((a0_2 : Int) != a1_2) then (K false) else (laws_eqWorkS.f k a0_3 a1_3 (fun y115 => bif (!y115) then (K false) else (laws_eqRunS.f k a0_4 a1_4 (fun y116 => bif (!y116) then (K false) else (K true)))))))
noncomputable def laws_eqIsle.t (k : Nat) (a0_0 : ByteArray) (a0_1 : Int) (a0_2 : Int) (a0_3 : List (List D)) (a0_4 : List (List D)) (a1_0 : ByteArray) (a1_1 : Int) (a1_2 : Int) (a1_3 : List (List D)) (a1_4 : List (List D)) : Option (Bool) := laws_eqIsle.g k a0_0 a0_1 a0_2 a0_3 a0_4 a1_0 a1_1 a1_2 a1_3 a1_4 (fun z0 => some z0)
noncomputable def laws_eqIsle.f {β : Type} (k : Nat) (a0_0 : ByteArray) (a0_1 : Int) (a0_2 : Int) (a0_3 : List (List D)) (a0_4 : List (List D)) (a1_0 : ByteArray) (a1_1 : Int) (a1_2 : Int) (a1_3 : List (List D)) (a1_4 : List (List D)) (K : Bool → Option β) : Option β :=
  match laws_eqIsle.t k a0_0 a0_1 a0_2 a0_3 a0_4 a1_0 a1_1 a1_2 a1_3 a1_4 with
  | some z0 => K z0
  | none => none
noncomputable def laws_eqIsle.as (a0_0 : ByteArray) (a0_1 : Int) (a0_2 : Int) (a0_3 : List (List D)) (a0_4 : List (List D)) (a1_0 : ByteArray) (a1_1 : Int) (a1_2 : Int) (a1_3 : List (List D)) (a1_4 : List (List D)) : List A := [.agg [.str a0_0, .int .i64 a0_1, .int .i64 a0_2, .sl a0_3, .sl a0_4], .agg [.str a1_0, .int .i64 a1_1, .int .i64 a1_2, .sl a1_3, .sl a1_4]]
noncomputable def laws_eqIsle.kt {β : Type} (a0_0 : ByteArray) (a0_1 : Int) (a0_2 : Int) (a0_3 : List (List D)) (a0_4 : List (List D)) (a1_0 : ByteArray) (a1_1 : Int) (a1_2 : Int) (a1_3 : List (List D)) (a1_4 : List (List D)) (K0 : List (List C) → List Out → Option β) : Bool → Option β := fun z0 => K0 [[.d (.bool z0)]] []
noncomputable def laws_eqIsle.e (k : Nat) : Entry := { modes := [(.imm, 0), (.imm, 0)], rts := [4], al := false, run := fun {β} l K => match l with | [.agg [.str a0_0, .int .i64 a0_1, .int .i64 a0_2, .sl a0_3, .sl a0_4], .agg [.str a1_0, .int .i64 a1_1, .int .i64 a1_2, .sl a1_3, .sl a1_4]] => laws_eqIsle.f k a0_0 a0_1 a0_2 a0_3 a0_4 a1_0 a1_1 a1_2 a1_3 a1_4 (laws_eqIsle.kt a0_0 a0_1 a0_2 a0_3 a0_4 a1_0 a1_1 a1_2 a1_3 a1_4 K) | _ => none }
noncomputable def laws_eqIsle.E (k : Nat) : Env := fun g => bif g == 43 then some (laws_eqWorkS.e k) else bif g == 93 then some (laws_eqRunS.e k) else none
noncomputable def laws_eqIsle.h : Hints := ⟨fun n => ⟨[], []⟩, fun _ => none, false, []⟩
theorem laws_eqIsle.f_eq {β : Type} (k : Nat) (a0_0 : ByteArray) (a0_1 : Int) (a0_2 : Int) (a0_3 : List (List D)) (a0_4 : List (List D)) (a1_0 : ByteArray) (a1_1 : Int) (a1_2 : Int) (a1_3 : List (List D)) (a1_4 : List (List D)) (K0 : List (List C) → List Out → Option β) : funDen Try.prog (laws_eqIsle.E k) laws_eqIsle.h k Try.f34 (laws_eqIsle.as a0_0 a0_1 a0_2 a0_3 a0_4 a1_0 a1_1 a1_2 a1_3 a1_4) K0 = laws_eqIsle.g k a0_0 a0_1 a0_2 a0_3 a0_4 a1_0 a1_1 a1_2 a1_3 a1_4 (laws_eqIsle.kt a0_0 a0_1 a0_2 a0_3 a0_4 a1_0 a1_1 a1_2 a1_3 a1_4 K0) := by kernel_rfl
noncomputable def laws_eqIsle.dec (rs : List (List C)) (os : List Out) : Option (Bool) := uncons rs fun c1 r2 => uncons c1 fun x3 l4 => cD x3 fun d5 => dBool d5 fun w0 => atEnd l4 <| atEnd r2 <| atEnd os (some w0)
theorem laws_eqIsle.kt_dec (a0_0 : ByteArray) (a0_1 : Int) (a0_2 : Int) (a0_3 : List (List D)) (a0_4 : List (List D)) (a1_0 : ByteArray) (a1_1 : Int) (a1_2 : Int) (a1_3 : List (List D)) (a1_4 : List (List D)) : laws_eqIsle.kt a0_0 a0_1 a0_2 a0_3 a0_4 a1_0 a1_1 a1_2 a1_3 a1_4 laws_eqIsle.dec = (fun z0 => some z0) := by kernel_rfl
theorem laws_eqIsle.inj (a0_0 : ByteArray) (a0_1 : Int) (a0_2 : Int) (a0_3 : List (List D)) (a0_4 : List (List D)) (a1_0 : ByteArray) (a1_1 : Int) (a1_2 : Int) (a1_3 : List (List D)) (a1_4 : List (List D)) {rs : List (List C)} {os : List Out} {z0 : Bool} (h : laws_eqIsle.dec rs os = some z0) (ho : OutShape (laws_eqIsle.as a0_0 a0_1 a0_2 a0_3 a0_4 a1_0 a1_1 a1_2 a1_3 a1_4) os) : rs = [[.d (.bool z0)]] ∧ os = [] := by
  unfold laws_eqIsle.dec at h
  obtain ⟨c1, r2, rfl, h1⟩ := uncons_some h
  obtain ⟨x3, l4, rfl, h2⟩ := uncons_some h1
  obtain ⟨d5, rfl, h3⟩ := cD_some h2
  obtain ⟨w0, rfl, h4⟩ := dBool_some h3
  obtain ⟨rfl, h5⟩ := atEnd_some h4
  obtain ⟨rfl, h6⟩ := atEnd_some h5
  obtain ⟨rfl, h7⟩ := atEnd_some h6
  obtain rfl := Option.some.inj h7
  exact ⟨rfl, rfl⟩
theorem laws_eqIsle.ok (k : Nat) : EntryOK Try.prog 34 (laws_eqIsle.e k) := by
  refine entry_of mix tyok (fn := Try.f34) (c := codeOf Try.f34) Try.func34 (by kernel_rfl) (h := laws_eqIsle.h) (k := k) (E := laws_eqIsle.E k) (env_cons (laws_eqWorkS.ok k) (env_cons (laws_eqRunS.ok k) env_nil)) (by kernel_rfl) (by kernel_rfl) rfl (enter_of Try.func34 (by kernel_rfl)) ?_
  intro β l K r hr
  simp only [laws_eqIsle.e] at hr
  split at hr
  case h_2 => cases hr
  unfold laws_eqIsle.f at hr
  split at hr
  case h_2 => cases hr
  rename_i hz
  exact ⟨_, _, hr, _, laws_eqIsle.dec, _, (laws_eqIsle.f_eq k _ _ _ _ _ _ _ _ _ _ laws_eqIsle.dec).trans (by rw [laws_eqIsle.kt_dec]; exact hz), fun rs os h ho => laws_eqIsle.inj _ _ _ _ _ _ _ _ _ _ h ho⟩
/-! ### loop.example/g00119/laws.FnExactIsleOk: function 11 -/
noncomputable def laws_FnExactIsleOk.g {β : Type} (k : Nat) (a0_0 : ByteArray) (a0_1 : Int) (a0_2 : Int) (a0_3 : List (List D)) (a0_4 : List (List D)) (K : Bool → Option β) : Option β :=
  laws_szIsle.f k a0_0 a0_1 a0_2 a0_3 a0_4 1048576 (fun y63 => bif (decide ((y63 : Int) < 0)) then (K true) else (laws_toIsle.f k a0_0 a0_1 a0_2 a0_3 a0_4 (fun y87 y88 y89 y90 y91 => spec_IsleOk.f k y87 y88 y89 (C.immRows y90) (C.immRows y91) (fun y124 => laws_toIsle.f k a0_0 a0_1 a0_2 a0_3 a0_4 (fun y125 y126 y127 y128 y129 => impl_IsleOk.f k y125 y126 y127 (C.immRows y128) (C.immRows y129) (fun y130 => bif (!(y130 == y124)) then (K false) else (laws_toIsle.f k a0_0 a0_1 a0_2 a0_3 a0_4 (fun y131 y132 y133 y134 y135 => laws_eqIsle.f k y125 y126 y127 (C.immRows y128) (C.immRows y129) y131 y132 y133 (C.immRows y134) (C.immRows y135) (fun y136 => bif (!y136) then (K false) else (K true))))))))))
noncomputable def laws_FnExactIsleOk.t (k : Nat) (a0_0 : ByteArray) (a0_1 : Int) (a0_2 : Int) (a0_3 : List (List D)) (a0_4 : List (List D)) : Option (Bool) := laws_FnExactIsleOk.g k a0_0 a0_1 a0_2 a0_3 a0_4 (fun z0 => some z0)
noncomputable def laws_FnExactIsleOk.f {β : Type} (k : Nat) (a0_0 : ByteArray) (a0_1 : Int) (a0_2 : Int) (a0_3 : List (List D)) (a0_4 : List (List D)) (K : Bool → Option β) : Option β :=
  match laws_FnExactIsleOk.t k a0_0 a0_1 a0_2 a0_3 a0_4 with
  | some z0 => K z0
  | none => none
noncomputable def laws_FnExactIsleOk.as (a0_0 : ByteArray) (a0_1 : Int) (a0_2 : Int) (a0_3 : List (List D)) (a0_4 : List (List D)) : List A := [.agg [.str a0_0, .int .i64 a0_1, .int .i64 a0_2, .sl a0_3, .sl a0_4]]
noncomputable def laws_FnExactIsleOk.kt {β : Type} (a0_0 : ByteArray) (a0_1 : Int) (a0_2 : Int) (a0_3 : List (List D)) (a0_4 : List (List D)) (K0 : List (List C) → List Out → Option β) : Bool → Option β := fun z0 => K0 [[.d (.bool z0)]] []
noncomputable def laws_FnExactIsleOk.e (k : Nat) : Entry := { modes := [(.imm, 0)], rts := [4], al := false, run := fun {β} l K => match l with | [.agg [.str a0_0, .int .i64 a0_1, .int .i64 a0_2, .sl a0_3, .sl a0_4]] => laws_FnExactIsleOk.f k a0_0 a0_1 a0_2 a0_3 a0_4 (laws_FnExactIsleOk.kt a0_0 a0_1 a0_2 a0_3 a0_4 K) | _ => none }
noncomputable def laws_FnExactIsleOk.E (k : Nat) : Env := fun g => bif g == 49 then some (laws_szIsle.e k) else bif g == 51 then some (laws_toIsle.e k) else bif g == 50 then some (spec_IsleOk.e k) else bif g == 52 then some (impl_IsleOk.e k) else bif g == 34 then some (laws_eqIsle.e k) else none
noncomputable def laws_FnExactIsleOk.h : Hints := ⟨fun n => ⟨[], []⟩, fun _ => none, false, []⟩
theorem laws_FnExactIsleOk.f_eq {β : Type} (k : Nat) (a0_0 : ByteArray) (a0_1 : Int) (a0_2 : Int) (a0_3 : List (List D)) (a0_4 : List (List D)) (K0 : List (List C) → List Out → Option β) : funDen Try.prog (laws_FnExactIsleOk.E k) laws_FnExactIsleOk.h k Try.f11 (laws_FnExactIsleOk.as a0_0 a0_1 a0_2 a0_3 a0_4) K0 = laws_FnExactIsleOk.g k a0_0 a0_1 a0_2 a0_3 a0_4 (laws_FnExactIsleOk.kt a0_0 a0_1 a0_2 a0_3 a0_4 K0) := by kernel_rfl
noncomputable def laws_FnExactIsleOk.dec (rs : List (List C)) (os : List Out) : Option (Bool) := uncons rs fun c1 r2 => uncons c1 fun x3 l4 => cD x3 fun d5 => dBool d5 fun w0 => atEnd l4 <| atEnd r2 <| atEnd os (some w0)
theorem laws_FnExactIsleOk.kt_dec (a0_0 : ByteArray) (a0_1 : Int) (a0_2 : Int) (a0_3 : List (List D)) (a0_4 : List (List D)) : laws_FnExactIsleOk.kt a0_0 a0_1 a0_2 a0_3 a0_4 laws_FnExactIsleOk.dec = (fun z0 => some z0) := by kernel_rfl
theorem laws_FnExactIsleOk.inj (a0_0 : ByteArray) (a0_1 : Int) (a0_2 : Int) (a0_3 : List (List D)) (a0_4 : List (List D)) {rs : List (List C)} {os : List Out} {z0 : Bool} (h : laws_FnExactIsleOk.dec rs os = some z0) (ho : OutShape (laws_FnExactIsleOk.as a0_0 a0_1 a0_2 a0_3 a0_4) os) : rs = [[.d (.bool z0)]] ∧ os = [] := by
  unfold laws_FnExactIsleOk.dec at h
  obtain ⟨c1, r2, rfl, h1⟩ := uncons_some h
  obtain ⟨x3, l4, rfl, h2⟩ := uncons_some h1
  obtain ⟨d5, rfl, h3⟩ := cD_some h2
  obtain ⟨w0, rfl, h4⟩ := dBool_some h3
  obtain ⟨rfl, h5⟩ := atEnd_some h4
  obtain ⟨rfl, h6⟩ := atEnd_some h5
  obtain ⟨rfl, h7⟩ := atEnd_some h6
  obtain rfl := Option.some.inj h7
  exact ⟨rfl, rfl⟩
theorem laws_FnExactIsleOk.ok (k : Nat) : EntryOK Try.prog 11 (laws_FnExactIsleOk.e k) := by
  refine entry_of mix tyok (fn := Try.f11) (c := codeOf Try.f11) Try.func11 (by kernel_rfl) (h := laws_FnExactIsleOk.h) (k := k) (E := laws_FnExactIsleOk.E k) (env_cons (laws_szIsle.ok k) (env_cons (laws_toIsle.ok k) (env_cons (spec_IsleOk.ok k) (env_cons (impl_IsleOk.ok k) (env_cons (laws_eqIsle.ok k) env_nil))))) (by kernel_rfl) (by kernel_rfl) rfl (enter_of Try.func11 (by kernel_rfl)) ?_
  intro β l K r hr
  simp only [laws_FnExactIsleOk.e] at hr
  split at hr
  case h_2 => cases hr
  unfold laws_FnExactIsleOk.f at hr
  split at hr
  case h_2 => cases hr
  rename_i hz
  exact ⟨_, _, hr, _, laws_FnExactIsleOk.dec, _, (laws_FnExactIsleOk.f_eq k _ _ _ _ _ laws_FnExactIsleOk.dec).trans (by rw [laws_FnExactIsleOk.kt_dec]; exact hz), fun rs os h ho => laws_FnExactIsleOk.inj _ _ _ _ _ h ho⟩
end Go.Proofs.Ytnlhhhkeigjnoaa
