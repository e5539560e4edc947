/- Printed: the functions that FnExactIsleOk reaches, read by the evaluator, each with its contract. -/
import Derived.Test.YtnlhhhkeigjnoaaTMark
import Derived.Test.YtnlhhhkeigjnoaaProg
import Derived.KernelRfl
set_option linter.unusedVariables false
set_option linter.unusedSimpArgs false
namespace Go.Proofs.Ytnlhhhkeigjnoaa
open Go Go.T Go.Proofs
theorem mix : Try.prog.follows .mixedOrders = true := by kernel_rfl
theorem tyok : TyOk Try.prog := tyOk_of (by kernel_rfl)
/-! ### loop.example/g00119/laws.szStringS: function 65 -/
noncomputable def laws_szStringS.l0 {β : Type} (k : Nat) (v0_0 : List (List D)) (K : Int → Option β) (L0 : (Int × Int) → Option β) (v : Int × Int) : Option β :=
  match v with
  | (v0_1, v0_2) => bif (decide ((v0_2 : Int) < (v0_0.length : Int))) then (atRow v0_0 v0_2 fun c5 => uncons c5 fun d6 r7 => dStr d6 fun x8 => atEnd r7 (bif (decide (((IntKind.wrap .i64 (v0_1 - (x8.size : Int))) : Int) < 0)) then (K (-1)) else (L0 (IntKind.wrap .i64 (v0_1 - (x8.size : Int)), IntKind.wrap .i64 (v0_2 + 1))))) else (K v0_1)
noncomputable def laws_szStringS.g {β : Type} (k : Nat) (a0 : List (List D)) (a1 : Int) (K : Int → Option β) : Option β :=
  bif (decide (((IntKind.wrap .i64 (a1 - (a0.length : Int))) : Int) < 0)) then (K (-1)) else (iter (laws_szStringS.l0 k a0 K) k (IntKind.wrap .i64 (a1 - (a0.length : Int)), 0))
noncomputable def laws_szStringS.t (k : Nat) (a0 : List (List D)) (a1 : Int) : Option (Int) := laws_szStringS.g k a0 a1 (fun z0 => some z0)
noncomputable def laws_szStringS.f {β : Type} (k : Nat) (a0 : List (List D)) (a1 : Int) (K : Int → Option β) : Option β :=
  match laws_szStringS.t k a0 a1 with
  | some z0 => K z0
  | none => none
noncomputable def laws_szStringS.as (a0 : List (List D)) (a1 : Int) : List A := [.d (.sl a0), .d (.int .i64 a1)]
noncomputable def laws_szStringS.kt {β : Type} (a0 : List (List D)) (a1 : Int) (K0 : List (List C) → List Out → Option β) : Int → Option β := fun z0 => K0 [[.d (.int .i64 z0)]] []
noncomputable def laws_szStringS.e (k : Nat) : Entry := { modes := [(.imm, 0), (.imm, 0)], rts := [3], al := false, run := fun {β} l K => match l with | [.d (.sl a0), .d (.int .i64 a1)] => laws_szStringS.f k a0 a1 (laws_szStringS.kt a0 a1 K) | _ => none }
noncomputable def laws_szStringS.E (k : Nat) : Env := fun g => none
noncomputable def laws_szStringS.h : Hints := ⟨fun n => bif n == 5 then ⟨[(0, .asis), (1, .asis), (5, .asis)], []⟩ else ⟨[], []⟩, fun _ => none, false, []⟩
noncomputable def laws_szStringS.s0 (v0_0 : List (List D)) (v : Int × Int) : St :=
  match v with
  | (v0_1, v0_2) => ⟨[.d false (.sl v0_0), .d true (.int .i64 v0_1), .any, .any, .any, .d true (.int .i64 v0_2), .any, .any, .any, .any, .any, .any, .any, .any, .any, .any, .any, .any, .any, .any, .any, .any, .any, .any, .any, .any, .any, .any], []⟩
noncomputable def laws_szStringS.b0 {β : Type} (k : Nat) : St → (Ex → St → Option β) → Option β := fun s K => den Try.prog (laws_szStringS.E k) laws_szStringS.h.H laws_szStringS.h.J k (codeAt [1, 1, 1, 0, 1, 0, 0] (codeOf Try.f65)) s K
noncomputable def laws_szStringS.c0 {β : Type} (k : Nat) (a0 : List (List D)) (a1 : Int) (K0 : List (List C) → List Out → Option β) : Ex → St → Option β := contAt Try.prog (laws_szStringS.E k) laws_szStringS.h k [1, 1, 1, 0, 1, 0] (codeOf Try.f65) (finDen Try.prog Try.f65 laws_szStringS.h (laws_szStringS.as a0 a1) K0)
theorem laws_szStringS.l0_eq {β : Type} (k : Nat) (a0 : List (List D)) (a1 : Int) (K0 : List (List C) → List Out → Option β) (v0_0 : List (List D)) : ∀ (kk : Nat) (v : Int × Int), loopDen (laws_szStringS.b0 k) (laws_szStringS.h.H 5) kk (laws_szStringS.s0 v0_0 v) (laws_szStringS.c0 k a0 a1 K0) = iter (laws_szStringS.l0 k v0_0 (laws_szStringS.kt a0 a1 K0)) kk v :=
  loop_eq (laws_szStringS.s0 v0_0) _ (fun L0 v => by obtain ⟨v0_1, v0_2⟩ := v; kernel_rfl)
noncomputable def laws_szStringS.m {β : Type} (k : Nat) (a0 : List (List D)) (a1 : Int) (K0 : List (List C) → List Out → Option β) (F : ((List (List D)) → (Int × Int) → Option β)) : Option β :=
  bif (decide (((IntKind.wrap .i64 (a1 - (a0.length : Int))) : Int) < 0)) then ((laws_szStringS.kt a0 a1 K0) (-1)) else ((F) a0 (IntKind.wrap .i64 (a1 - (a0.length : Int)), 0))
theorem laws_szStringS.f_eq {β : Type} (k : Nat) (a0 : List (List D)) (a1 : Int) (K0 : List (List C) → List Out → Option β) : funDen Try.prog (laws_szStringS.E k) laws_szStringS.h k Try.f65 (laws_szStringS.as a0 a1) K0 = laws_szStringS.g k a0 a1 (laws_szStringS.kt a0 a1 K0) := Eq.trans (b := (laws_szStringS.m k a0 a1 K0) (fun (v0_0 : List (List D)) (v : Int × Int) => loopDen (laws_szStringS.b0 k) (laws_szStringS.h.H 5) k (laws_szStringS.s0 v0_0 v) (laws_szStringS.c0 k a0 a1 K0))) (by kernel_rfl) (Eq.trans (congrArg (laws_szStringS.m k a0 a1 K0) (funext fun v0_0 => funext fun v => laws_szStringS.l0_eq k a0 a1 K0 v0_0 k v)) (by kernel_rfl))
noncomputable def laws_szStringS.dec (rs : List (List C)) (os : List Out) : Option (Int) := uncons rs fun c1 r2 => uncons c1 fun x3 l4 => cD x3 fun d5 => dInt .i64 d5 fun w0 => atEnd l4 <| atEnd r2 <| atEnd os (some w0)
theorem laws_szStringS.kt_dec (a0 : List (List D)) (a1 : Int) : laws_szStringS.kt a0 a1 laws_szStringS.dec = (fun z0 => some z0) := by kernel_rfl
theorem laws_szStringS.inj (a0 : List (List D)) (a1 : Int) {rs : List (List C)} {os : List Out} {z0 : Int} (h : laws_szStringS.dec rs os = some z0) (ho : OutShape (laws_szStringS.as a0 a1) os) : rs = [[.d (.int .i64 z0)]] ∧ os = [] := by
  unfold laws_szStringS.dec at h
  obtain ⟨c1, r2, rfl, h1⟩ := uncons_some h
  obtain ⟨x3, l4, rfl, h2⟩ := uncons_some h1
  obtain ⟨d5, rfl, h3⟩ := cD_some h2
  obtain ⟨w0, rfl, h4⟩ := dInt_some h3
  obtain ⟨rfl, h5⟩ := atEnd_some h4
  obtain ⟨rfl, h6⟩ := atEnd_some h5
  obtain ⟨rfl, h7⟩ := atEnd_some h6
  obtain rfl := Option.some.inj h7
  exact ⟨rfl, rfl⟩
theorem laws_szStringS.ok (k : Nat) : EntryOK Try.prog 65 (laws_szStringS.e k) := by
  refine entry_of mix tyok (fn := Try.f65) (c := codeOf Try.f65) Try.func65 (by kernel_rfl) (h := laws_szStringS.h) (k := k) (E := laws_szStringS.E k) env_nil (by kernel_rfl) (by kernel_rfl) rfl (enter_of Try.func65 (by kernel_rfl)) ?_
  intro β l K r hr
  simp only [laws_szStringS.e] at hr
  split at hr
  case h_2 => cases hr
  unfold laws_szStringS.f at hr
  split at hr
  case h_2 => cases hr
  rename_i hz
  exact ⟨_, _, hr, _, laws_szStringS.dec, _, (laws_szStringS.f_eq k _ _ laws_szStringS.dec).trans (by rw [laws_szStringS.kt_dec]; exact hz), fun rs os h ho => laws_szStringS.inj _ _ h ho⟩
/-! ### loop.example/g00119/laws.szValueS: function 189 -/
noncomputable def laws_szValueS.l0 {β : Type} (k : Nat) (r_laws_szValueS : (List (List D)) → Int → (Int → Option β) → Option β) (r_laws_szValue : Int → ByteArray → Int → (List (List D)) → (List (List D)) → Int → (Int → Option β) → Option β) (v0_0 : List (List D)) (K : Int → Option β) (L0 : (Int × Int) → Option β) (v : Int × Int) : Option β :=
  match v with
  | (v0_1, v0_2) => bif (decide ((v0_2 : Int) < (v0_0.length : Int))) then (atRow v0_0 v0_2 fun c18 => uncons c18 fun d19 r20 => dInt .i64 d19 fun x21 => uncons r20 fun d22 r23 => dStr d22 fun x24 => uncons r23 fun d25 r26 => dInt .i64 d25 fun x27 => uncons r26 fun d28 r29 => dSl d28 fun x30 => uncons r29 fun d31 r32 => dSl d31 fun x33 => atEnd r32 (r_laws_szValue x21 x24 x27 x30 x33 v0_1 (fun y34 => bif (decide ((y34 : Int) < 0)) then (K (-1)) else (L0 (y34, IntKind.wrap .i64 (v0_2 + 1)))))) else (K v0_1)
noncomputable def laws_szValueS.body {β : Type} (k : Nat) (r_laws_szValueS : (List (List D)) → Int → (Int → Option β) → Option β) (r_laws_szValue : Int → ByteArray → Int → (List (List D)) → (List (List D)) → Int → (Int → Option β) → Option β) (a0 : List (List D)) (a1 : Int) (K : Int → Option β) : Option β :=
  bif (decide (((IntKind.wrap .i64 (a1 - (a0.length : Int))) : Int) < 0)) then (K (-1)) else (iter (laws_szValueS.l0 k r_laws_szValueS r_laws_szValue a0 K) k (IntKind.wrap .i64 (a1 - (a0.length : Int)), 0))
/-! ### loop.example/g00119/laws.szValue: function 159 -/
noncomputable def laws_szValue.body {β : Type} (k : Nat) (r_laws_szValueS : (List (List D)) → Int → (Int → Option β) → Option β) (r_laws_szValue : Int → ByteArray → Int → (List (List D)) → (List (List D)) → Int → (Int → Option β) → Option β) (a0_0 : Int) (a0_1 : ByteArray) (a0_2 : Int) (a0_3 : List (List D)) (a0_4 : List (List D)) (a1 : Int) (K : Int → Option β) : Option β :=
  bif (decide (((IntKind.wrap .i64 (a1 - (a0_1.size : Int))) : Int) < 0)) then (K (-1)) else (laws_szStringS.f k a0_3 (IntKind.wrap .i64 (a1 - (a0_1.size : Int))) (fun y9 => bif (decide ((y9 : Int) < 0)) then (K (-1)) else (r_laws_szValueS a0_4 y9 (fun y35 => bif (decide ((y35 : Int) < 0)) then (K (-1)) else (K y35)))))
noncomputable def laws_szValueS.w {β : Type} (r : (List (List D)) → Int → Option (Int)) (a0 : List (List D)) (a1 : Int) (K : Int → Option β) : Option β :=
  match r a0 a1 with
  | some z0 => K z0
  | none => none
noncomputable def laws_szValue.w {β : Type} (r : Int → ByteArray → Int → (List (List D)) → (List (List D)) → Int → Option (Int)) (a0_0 : Int) (a0_1 : ByteArray) (a0_2 : Int) (a0_3 : List (List D)) (a0_4 : List (List D)) (a1 : Int) (K : Int → Option β) : Option β :=
  match r a0_0 a0_1 a0_2 a0_3 a0_4 a1 with
  | some z0 => K z0
  | none => none
noncomputable def laws_szValueS.all : Nat → ((List (List D)) → Int → Option (Int)) × (Int → ByteArray → Int → (List (List D)) → (List (List D)) → Int → Option (Int))
  | 0 => (fun _ _ => none, fun _ _ _ _ _ _ => none)
  | k + 1 => (fun r => (fun a0 a1 => laws_szValueS.body k (laws_szValueS.w r.1) (laws_szValue.w r.2) a0 a1 (fun z0 => some z0), fun a0_0 a0_1 a0_2 a0_3 a0_4 a1 => laws_szValue.body k (laws_szValueS.w r.1) (laws_szValue.w r.2) a0_0 a0_1 a0_2 a0_3 a0_4 a1 (fun z0 => some z0))) (laws_szValueS.all k)
noncomputable def laws_szValueS.t (k : Nat) (a0 : List (List D)) (a1 : Int) : Option (Int) := (laws_szValueS.all k).1 a0 a1
noncomputable def laws_szValue.t (k : Nat) (a0_0 : Int) (a0_1 : ByteArray) (a0_2 : Int) (a0_3 : List (List D)) (a0_4 : List (List D)) (a1 : Int) : Option (Int) := (laws_szValueS.all k).2 a0_0 a0_1 a0_2 a0_3 a0_4 a1
noncomputable def laws_szValueS.f {β : Type} (k : Nat) (a0 : List (List D)) (a1 : Int) (K : Int → Option β) : Option β := laws_szValueS.w (laws_szValueS.t k) a0 a1 K
noncomputable def laws_szValue.f {β : Type} (k : Nat) (a0_0 : Int) (a0_1 : ByteArray) (a0_2 : Int) (a0_3 : List (List D)) (a0_4 : List (List D)) (a1 : Int) (K : Int → Option β) : Option β := laws_szValue.w (laws_szValue.t k) a0_0 a0_1 a0_2 a0_3 a0_4 a1 K
noncomputable def laws_szValueS.g {β : Type} (k : Nat) (a0 : List (List D)) (a1 : Int) (K : Int → Option β) : Option β := laws_szValueS.body k (laws_szValueS.f k) (laws_szValue.f k) a0 a1 K
theorem laws_szValueS.t_zero (a0 : List (List D)) (a1 : Int) : laws_szValueS.t 0 a0 a1 = none := rfl
theorem laws_szValueS.t_succ (k : Nat) (a0 : List (List D)) (a1 : Int) : laws_szValueS.t (k + 1) a0 a1 = laws_szValueS.g k a0 a1 (fun z0 => some z0) := rfl
noncomputable def laws_szValue.g {β : Type} (k : Nat) (a0_0 : Int) (a0_1 : ByteArray) (a0_2 : Int) (a0_3 : List (List D)) (a0_4 : List (List D)) (a1 : Int) (K : Int → Option β) : Option β := laws_szValue.body k (laws_szValueS.f k) (laws_szValue.f k) a0_0 a0_1 a0_2 a0_3 a0_4 a1 K
theorem laws_szValue.t_zero (a0_0 : Int) (a0_1 : ByteArray) (a0_2 : Int) (a0_3 : List (List D)) (a0_4 : List (List D)) (a1 : Int) : laws_szValue.t 0 a0_0 a0_1 a0_2 a0_3 a0_4 a1 = none := rfl
theorem laws_szValue.t_succ (k : Nat) (a0_0 : Int) (a0_1 : ByteArray) (a0_2 : Int) (a0_3 : List (List D)) (a0_4 : List (List D)) (a1 : Int) : laws_szValue.t (k + 1) a0_0 a0_1 a0_2 a0_3 a0_4 a1 = laws_szValue.g k a0_0 a0_1 a0_2 a0_3 a0_4 a1 (fun z0 => some z0) := rfl
noncomputable def laws_szValueS.as (a0 : List (List D)) (a1 : Int) : List A := [.d (.sl a0), .d (.int .i64 a1)]
noncomputable def laws_szValueS.kt {β : Type} (a0 : List (List D)) (a1 : Int) (K0 : List (List C) → List Out → Option β) : Int → Option β := fun z0 => K0 [[.d (.int .i64 z0)]] []
noncomputable def laws_szValueS.e (k : Nat) : Entry := { modes := [(.imm, 0), (.imm, 0)], rts := [3], al := false, run := fun {β} l K => match l with | [.d (.sl a0), .d (.int .i64 a1)] => laws_szValueS.f k a0 a1 (laws_szValueS.kt a0 a1 K) | _ => none }
noncomputable def laws_szValue.as (a0_0 : Int) (a0_1 : ByteArray) (a0_2 : Int) (a0_3 : List (List D)) (a0_4 : List (List D)) (a1 : Int) : List A := [.agg [.int .i64 a0_0, .str a0_1, .int .i64 a0_2, .sl a0_3, .sl a0_4], .d (.int .i64 a1)]
noncomputable def laws_szValue.kt {β : Type} (a0_0 : Int) (a0_1 : ByteArray) (a0_2 : Int) (a0_3 : List (List D)) (a0_4 : List (List D)) (a1 : Int) (K0 : List (List C) → List Out → Option β) : Int → Option β := fun z0 => K0 [[.d (.int .i64 z0)]] []
noncomputable def laws_szValue.e (k : Nat) : Entry := { modes := [(.imm, 0), (.imm, 0)], rts := [3], al := false, run := fun {β} l K => match l with | [.agg [.int .i64 a0_0, .str a0_1, .int .i64 a0_2, .sl a0_3, .sl a0_4], .d (.int .i64 a1)] => laws_szValue.f k a0_0 a0_1 a0_2 a0_3 a0_4 a1 (laws_szValue.kt a0_0 a0_1 a0_2 a0_3 a0_4 a1 K) | _ => none }
noncomputable def laws_szValueS.E (k : Nat) : Env := fun g => bif g == 159 then some (laws_szValue.e k) else none
noncomputable def laws_szValueS.h : Hints := ⟨fun n => bif n == 5 then ⟨[(0, .asis), (1, .asis), (5, .asis)], []⟩ else ⟨[], []⟩, fun _ => none, false, []⟩
noncomputable def laws_szValueS.s0 (v0_0 : List (List D)) (v : Int × Int) : St :=
  match v with
  | (v0_1, v0_2) => ⟨[.d false (.sl v0_0), .d true (.int .i64 v0_1), .any, .any, .any, .d true (.int .i64 v0_2), .any, .any, .any, .any, .any, .any, .any, .any, .any, .any, .any, .any, .any, .any, .any, .any, .any, .any, .any, .any, .any], []⟩
noncomputable def laws_szValueS.b0 {β : Type} (k : Nat) : St → (Ex → St → Option β) → Option β := fun s K => den Try.prog (laws_szValueS.E k) laws_szValueS.h.H laws_szValueS.h.J k (codeAt [1, 1, 1, 0, 1, 0, 0] (codeOf Try.f189)) s K
noncomputable def laws_szValueS.c0 {β : Type} (k : Nat) (a0 : List (List D)) (a1 : Int) (K0 : List (List C) → List Out → Option β) : Ex → St → Option β := contAt Try.prog (laws_szValueS.E k) laws_szValueS.h k [1, 1, 1, 0, 1, 0] (codeOf Try.f189) (finDen Try.prog Try.f189 laws_szValueS.h (laws_szValueS.as a0 a1) K0)
theorem laws_szValueS.l0_eq {β : Type} (k : Nat) (a0 : List (List D)) (a1 : Int) (K0 : List (List C) → List Out → Option β) (v0_0 : List (List D)) : ∀ (kk : Nat) (v : Int × Int), loopDen (laws_szValueS.b0 k) (laws_szValueS.h.H 5) kk (laws_szValueS.s0 v0_0 v) (laws_szValueS.c0 k a0 a1 K0) = iter (laws_szValueS.l0 k (laws_szValueS.f k) (laws_szValue.f k) v0_0 (laws_szValueS.kt a0 a1 K0)) kk v :=
  loop_eq (laws_szValueS.s0 v0_0) _ (fun L0 v => by obtain ⟨v0_1, v0_2⟩ := v; kernel_rfl)
noncomputable def laws_szValueS.m {β : Type} (k : Nat) (a0 : List (List D)) (a1 : Int) (K0 : List (List C) → List Out → Option β) (F : ((List (List D)) → (Int × Int) → Option β)) : Option β :=
  bif (decide (((IntKind.wrap .i64 (a1 - (a0.length : Int))) : Int) < 0)) then ((laws_szValueS.kt a0 a1 K0) (-1)) else ((F) a0 (IntKind.wrap .i64 (a1 - (a0.length : Int)), 0))
theorem laws_szValueS.f_eq {β : Type} (k : Nat) (a0 : List (List D)) (a1 : Int) (K0 : List (List C) → List Out → Option β) : funDen Try.prog (laws_szValueS.E k) laws_szValueS.h k Try.f189 (laws_szValueS.as a0 a1) K0 = laws_szValueS.g k a0 a1 (laws_szValueS.kt a0 a1 K0) := Eq.trans (b := (laws_szValueS.m k a0 a1 K0) (fun (v0_0 : List (List D)) (v : Int × Int) => loopDen (laws_szValueS.b0 k) (laws_szValueS.h.H 5) k (laws_szValueS.s0 v0_0 v) (laws_szValueS.c0 k a0 a1 K0))) (by kernel_rfl) (Eq.trans (congrArg (laws_szValueS.m k a0 a1 K0) (funext fun v0_0 => funext fun v => laws_szValueS.l0_eq k a0 a1 K0 v0_0 k v)) (by kernel_rfl))
noncomputable def laws_szValue.E (k : Nat) : Env := fun g => bif g == 65 then some (laws_szStringS.e k) else bif g == 189 then some (laws_szValueS.e k) else none
noncomputable def laws_szValue.h : Hints := ⟨fun n => ⟨[], []⟩, fun _ => none, false, []⟩
theorem laws_szValue.f_eq {β : Type} (k : Nat) (a0_0 : Int) (a0_1 : ByteArray) (a0_2 : Int) (a0_3 : List (List D)) (a0_4 : List (List D)) (a1 : Int) (K0 : List (List C) → List Out → Option β) : funDen Try.prog (laws_szValue.E k) laws_szValue.h k Try.f159 (laws_szValue.as a0_0 a0_1 a0_2 a0_3 a0_4 a1) K0 = laws_szValue.g k a0_0 a0_1 a0_2 a0_3 a0_4 a1 (laws_szValue.kt a0_0 a0_1 a0_2 a0_3 a0_4 a1 K0) := by kernel_rfl
noncomputable def laws_szValueS.dec (rs : List (List C)) (os : List Out) : Option (Int) := uncons rs fun c1 r2 => uncons c1 fun x3 l4 => cD x3 fun d5 => dInt .i64 d5 fun w0 => atEnd l4 <| atEnd r2 <| atEnd os (some w0)
theorem laws_szValueS.kt_dec (a0 : List (List D)) (a1 : Int) : laws_szValueS.kt a0 a1 laws_szValueS.dec = (fun z0 => some z0) := by kernel_rfl
theorem laws_szValueS.inj (a0 : List (List D)) (a1 : Int) {rs : List (List C)} {os : List Out} {z0 : Int} (h : laws_szValueS.dec rs os = some z0) (ho : OutShape (laws_szValueS.as a0 a1) os) : rs = [[.d (.int .i64 z0)]] ∧ os = [] := by
  unfold laws_szValueS.dec at h
  obtain ⟨c1, r2, rfl, h1⟩ := uncons_some h
  obtain ⟨x3, l4, rfl, h2⟩ := uncons_some h1
  obtain ⟨d5, rfl, h3⟩ := cD_some h2
  obtain ⟨w0, rfl, h4⟩ := dInt_some h3
  obtain ⟨rfl, h5⟩ := atEnd_some h4
  obtain ⟨rfl, h6⟩ := atEnd_some h5
  obtain ⟨rfl, h7⟩ := atEnd_some h6
  obtain rfl := Option.some.inj h7
  exact ⟨rfl, rfl⟩
noncomputable def laws_szValue.dec (rs : List (List C)) (os : List Out) : Option (Int) := uncons rs fun c1 r2 => uncons c1 fun x3 l4 => cD x3 fun d5 => dInt .i64 d5 fun w0 => atEnd l4 <| atEnd r2 <| atEnd os (some w0)
theorem laws_szValue.kt_dec (a0_0 : Int) (a0_1 : ByteArray) (a0_2 : Int) (a0_3 : List (List D)) (a0_4 : List (List D)) (a1 : Int) : laws_szValue.kt a0_0 a0_1 a0_2 a0_3 a0_4 a1 laws_szValue.dec = (fun z0 => some z0) := by kernel_rfl
theorem laws_szValue.inj (a0_0 : Int) (a0_1 : ByteArray) (a0_2 : Int) (a0_3 : List (List D)) (a0_4 : List (List D)) (a1 : Int) {rs : List (List C)} {os : List Out} {z0 : Int} (h : laws_szValue.dec rs os = some z0) (ho : OutShape (laws_szValue.as a0_0 a0_1 a0_2 a0_3 a0_4 a1) os) : rs = [[.d (.int .i64 z0)]] ∧ os = [] := by
  unfold laws_szValue.dec at h
  obtain ⟨c1, r2, rfl, h1⟩ := uncons_some h
  obtain ⟨x3, l4, rfl, h2⟩ := uncons_some h1
  obtain ⟨d5, rfl, h3⟩ := cD_some h2
  obtain ⟨w0, rfl, h4⟩ := dInt_some h3
  obtain ⟨rfl, h5⟩ := atEnd_some h4
  obtain ⟨rfl, h6⟩ := atEnd_some h5
  obtain ⟨rfl, h7⟩ := atEnd_some h6
  obtain rfl := Option.some.inj h7
  exact ⟨rfl, rfl⟩
theorem laws_szValueS.oks (k : Nat) : EntryOK Try.prog 189 (laws_szValueS.e k) ∧ EntryOK Try.prog 159 (laws_szValue.e k) := by
  induction k with
  | zero =>
    refine ⟨?_, ?_⟩
    · exact entry_zero (enter_of Try.func189 (by kernel_rfl)) fun β l K r h => by
        simp only [laws_szValueS.e] at h
        split at h
        · unfold laws_szValueS.f at h
          unfold laws_szValueS.w at h
          rw [laws_szValueS.t_zero] at h
          cases h
        · cases h
    · exact entry_zero (enter_of Try.func159 (by kernel_rfl)) fun β l K r h => by
        simp only [laws_szValue.e] at h
        split at h
        · unfold laws_szValue.f at h
          unfold laws_szValue.w at h
          rw [laws_szValue.t_zero] at h
          cases h
        · cases h
  | succ k ih =>
    refine ⟨?_, ?_⟩
    · refine entry_of mix tyok (fn := Try.f189) (c := codeOf Try.f189) Try.func189 (by kernel_rfl) (h := laws_szValueS.h) (k := k) (E := laws_szValueS.E k) (env_cons ih.2 env_nil) (by kernel_rfl) (by kernel_rfl) rfl (enter_of Try.func189 (by kernel_rfl)) ?_
      intro β l K r hr
      simp only [laws_szValueS.e] at hr
      split at hr
      case h_2 => cases hr
      unfold laws_szValueS.f at hr
      unfold laws_szValueS.w at hr
      split at hr
      case h_2 => cases hr
      rename_i hz
      exact ⟨_, _, hr, _, laws_szValueS.dec, _, (laws_szValueS.f_eq k _ _ laws_szValueS.dec).trans (by rw [laws_szValueS.kt_dec]; exact hz), fun rs os h ho => laws_szValueS.inj _ _ h ho⟩
    · refine entry_of mix tyok (fn := Try.f159) (c := codeOf Try.f159) Try.func159 (by kernel_rfl) (h := laws_szValue.h) (k := k) (E := laws_szValue.E k) (env_cons (laws_szStringS.ok k) (env_cons ih.1 env_nil)) (by kernel_rfl) (by kernel_rfl) rfl (enter_of Try.func159 (by kernel_rfl)) ?_
      intro β l K r hr
      simp only [laws_szValue.e] at hr
      split at hr
      case h_2 => cases hr
      unfold laws_szValue.f at hr
      unfold laws_szValue.w at hr
      split at hr
      case h_2 => cases hr
      rename_i hz
      exact ⟨_, _, hr, _, laws_szValue.dec, _, (laws_szValue.f_eq k _ _ _ _ _ _ laws_szValue.dec).trans (by rw [laws_szValue.kt_dec]; exact hz), fun rs os h ho => laws_szValue.inj _ _ _ _ _ _ h ho⟩
theorem laws_szValueS.ok (k : Nat) : EntryOK Try.prog 189 (laws_szValueS.e k) := (laws_szValueS.oks k).1
theorem laws_szValue.ok (k : Nat) : EntryOK Try.prog 159 (laws_szValue.e k) := (laws_szValueS.oks k).2
/-! ### loop.example/g00119/laws.szWork: function 100 -/
noncomputable def laws_szWork.g {β : Type} (k : Nat) (a0_0 : Int) (a0_1 : Int) (a0_2 : Int) (a0_3 : ByteArray) (a0_4 : Int) (a0_5 : List (List D)) (a0_6 : List (List D)) (a1 : Int) (K : Int → Option β) : Option β :=
  laws_szValue.f k a0_2 a0_3 a0_4 a0_5 a0_6 a1 (fun y36 => bif (decide ((y36 : Int) < 0)) then (K (-1)) else (K y36))
noncomputable def laws_szWork.t (k : Nat) (a0_0 : Int) (a0_1 : Int) (a0_2 : Int) (a0_3 : ByteArray) (a0_4 : Int) (a0_5 : List (List D)) (a0_6 : List (List D)) (a1 : Int) : Option (Int) := laws_szWork.g k a0_0 a0_1 a0_2 a0_3 a0_4 a0_5 a0_6 a1 (fun z0 => some z0)
noncomputable def laws_szWork.f {β : Type} (k : Nat) (a0_0 : Int) (a0_1 : Int) (a0_2 : Int) (a0_3 : ByteArray) (a0_4 : Int) (a0_5 : List (List D)) (a0_6 : List (List D)) (a1 : Int) (K : Int → Option β) : Option β :=
  match laws_szWork.t k a0_0 a0_1 a0_2 a0_3 a0_4 a0_5 a0_6 a1 with
  | some z0 => K z0
  | none => none
noncomputable def laws_szWork.as (a0_0 : Int) (a0_1 : Int) (a0_2 : Int) (a0_3 : ByteArray) (a0_4 : Int) (a0_5 : List (List D)) (a0_6 : List (List D)) (a1 : Int) : List A := [.agg [.int .i64 a0_0, .int .i64 a0_1, .int .i64 a0_2, .str a0_3, .int .i64 a0_4, .sl a0_5, .sl a0_6], .d (.int .i64 a1)]
noncomputable def laws_szWork.kt {β : Type} (a0_0 : Int) (a0_1 : Int) (a0_2 : Int) (a0_3 : ByteArray) (a0_4 : Int) (a0_5 : List (List D)) (a0_6 : List (List D)) (a1 : Int) (K0 : List (List C) → List Out → Option β) : Int → Option β := fun z0 => K0 [[.d (.int .i64 z0)]] []
noncomputable def laws_szWork.e (k : Nat) : Entry := { modes := [(.imm, 0), (.imm, 0)], rts := [3], al := false, run := fun {β} l K => match l with | [.agg [.int .i64 a0_0, .int .i64 a0_1, .int .i64 a0_2, .str a0_3, .int .i64 a0_4, .sl a0_5, .sl a0_6], .d (.int .i64 a1)] => laws_szWork.f k a0_0 a0_1 a0_2 a0_3 a0_4 a0_5 a0_6 a1 (laws_szWork.kt a0_0 a0_1 a0_2 a0_3 a0_4 a0_5 a0_6 a1 K) | _ => none }
noncomputable def laws_szWork.E (k : Nat) : Env := fun g => bif g == 159 then some (laws_szValue.e k) else none
noncomputable def laws_szWork.h : Hints := ⟨fun n => ⟨[], []⟩, fun _ => none, false, []⟩
theorem laws_szWork.f_eq {β : Type} (k : Nat) (a0_0 : Int) (a0_1 : Int) (a0_2 : Int) (a0_3 : ByteArray) (a0_4 : Int) (a0_5 : List (List D)) (a0_6 : List (List D)) (a1 : Int) (K0 : List (List C) → List Out → Option β) : funDen Try.prog (laws_szWork.E k) laws_szWork.h k Try.f100 (laws_szWork.as a0_0 a0_1 a0_2 a0_3 a0_4 a0_5 a0_6 a1) K0 = laws_szWork.g k a0_0 a0_1 a0_2 a0_3 a0_4 a0_5 a0_6 a1 (laws_szWork.kt a0_0 a0_1 a0_2 a0_3 a0_4 a0_5 a0_6 a1 K0) := by kernel_rfl
noncomputable def laws_szWork.dec (rs : List (List C)) (os : List Out) : Option (Int) := uncons rs fun c1 r2 => uncons c1 fun x3 l4 => cD x3 fun d5 => dInt .i64 d5 fun w0 => atEnd l4 <| atEnd r2 <| atEnd os (some w0)
theorem laws_szWork.kt_dec (a0_0 : Int) (a0_1 : Int) (a0_2 : Int) (a0_3 : ByteArray) (a0_4 : Int) (a0_5 : List (List D)) (a0_6 : List (List D)) (a1 : Int) : laws_szWork.kt a0_0 a0_1 a0_2 a0_3 a0_4 a0_5 a0_6 a1 laws_szWork.dec = (fun z0 => some z0) := by kernel_rfl
theorem laws_szWork.inj (a0_0 : Int) (a0_1 : Int) (a0_2 : Int) (a0_3 : ByteArray) (a0_4 : Int) (a0_5 : List (List D)) (a0_6 : List (List D)) (a1 : Int) {rs : List (List C)} {os : List Out} {z0 : Int} (h : laws_szWork.dec rs os = some z0) (ho : OutShape (laws_szWork.as a0_0 a0_1 a0_2 a0_3 a0_4 a0_5 a0_6 a1) os) : rs = [[.d (.int .i64 z0)]] ∧ os = [] := by
  unfold laws_szWork.dec at h
  obtain ⟨c1, r2, rfl, h1⟩ := uncons_some h
  obtain ⟨x3, l4, rfl, h2⟩ := uncons_some h1
  obtain ⟨d5, rfl, h3⟩ := cD_some h2
  obtain ⟨w0, rfl, h4⟩ := dInt_some h3
  obtain ⟨rfl, h5⟩ := atEnd_some h4
  obtain ⟨rfl, h6⟩ := atEnd_some h5
  obtain ⟨rfl, h7⟩ := atEnd_some h6
  obtain rfl := Option.some.inj h7
  exact ⟨rfl, rfl⟩
theorem laws_szWork.ok (k : Nat) : EntryOK Try.prog 100 (laws_szWork.e k) := by
  refine entry_of mix tyok (fn := Try.f100) (c := codeOf Try.f100) Try.func100 (by kernel_rfl) (h := laws_szWork.h) (k := k) (E := laws_szWork.E k) (env_cons (laws_szValue.ok k) env_nil) (by kernel_rfl) (by kernel_rfl) rfl (enter_of Try.func100 (by kernel_rfl)) ?_
  intro β l K r hr
  simp only [laws_szWork.e] at hr
  split at hr
  case h_2 => cases hr
  unfold laws_szWork.f at hr
  split at hr
  case h_2 => cases hr
  rename_i hz
  exact ⟨_, _, hr, _, laws_szWork.dec, _, (laws_szWork.f_eq k _ _ _ _ _ _ _ _ laws_szWork.dec).trans (by rw [laws_szWork.kt_dec]; exact hz), fun rs os h ho => laws_szWork.inj _ _ _ _ _ _ _ _ h ho⟩
/-! ### loop.example/g00119/laws.szWorkS: function 39 -/
noncomputable def laws_szWorkS.l0 {β : Type} (k : Nat) (v0_0 : List (List D)) (K : Int → Option β) (L0 : (Int × Int) → Option β) (v : Int × Int) : Option β :=
  match v with
  | (v0_1, v0_2) => bif (decide ((v0_2 : Int) < (v0_0.length : Int))) then (atRow v0_0 v0_2 fun c38 => uncons c38 fun d39 r40 => dInt .i64 d39 fun x41 => uncons r40 fun d42 r43 => dInt .i64 d42 fun x44 => uncons r43 fun d45 r46 => dInt .i64 d45 fun x47 => uncons r46 fun d48 r49 => dStr d48 fun x50 => uncons r49 fun d51 r52 => dInt .i64 d51 fun x53 => uncons r52 fun d54 r55 => dSl d54 fun x56 => uncons r55 fun d57 r58 => dSl d57 fun x59 => atEnd r58 (laws_szWork.f k x41 x44 x47 x50 x53 x56 x59 v0_1 (fun y60 => bif (decide ((y60 : Int) < 0)) then (K (-1)) else (L0 (y60, IntKind.wrap .i64 (v0_2 + 1)))))) else (K v0_1)
noncomputable def laws_szWorkS.g {β : Type} (k : Nat) (a0 : List (List D)) (a1 : Int) (K : Int → Option β) : Option β :=
  bif (decide (((IntKind.wrap .i64 (a1 - (a0.length : Int))) : Int) < 0)) then (K (-1)) else (iter (laws_szWorkS.l0 k a0 K) k (IntKind.wrap .i64 (a1 - (a0.length : Int)), 0))
noncomputable def laws_szWorkS.t (k : Nat) (a0 : List (List D)) (a1 : Int) : Option (Int) := laws_szWorkS.g k a0 a1 (fun z0 => some z0)
noncomputable def laws_szWorkS.f {β : Type} (k : Nat) (a0 : List (List D)) (a1 : Int) (K : Int → Option β) : Option β :=
  match laws_szWorkS.t k a0 a1 with
  | some z0 => K z0
  | none => none
noncomputable def laws_szWorkS.as (a0 : List (List D)) (a1 : Int) : List A := [.d (.sl a0), .d (.int .i64 a1)]
noncomputable def laws_szWorkS.kt {β : Type} (a0 : List (List D)) (a1 : Int) (K0 : List (List C) → List Out → Option β) : Int → Option β := fun z0 => K0 [[.d (.int .i64 z0)]] []
noncomputable def laws_szWorkS.e (k : Nat) : Entry := { modes := [(.imm, 0), (.imm, 0)], rts := [3], al := false, run := fun {β} l K => match l with | [.d (.sl a0), .d (.int .i64 a1)] => laws_szWorkS.f k a0 a1 (laws_szWorkS.kt a0 a1 K) | _ => none }
noncomputable def laws_szWorkS.E (k : Nat) : Env := fun g => bif g == 100 then some (laws_szWork.e k) else none
noncomputable def laws_szWorkS.h : Hints := ⟨fun n => bif n == 5 then ⟨[(0, .asis), (1, .asis), (5, .asis)], []⟩ else ⟨[], []⟩, fun _ => none, false, []⟩
noncomputable def laws_szWorkS.s0 (v0_0 : List (List D)) (v : Int × Int) : St :=
  match v with
  | (v0_1, v0_2) => ⟨[.d false (.sl v0_0), .d true (.int .i64 v0_1), .any, .any, .any, .d true (.int .i64 v0_2), .any, .any, .any, .any, .any, .any, .any, .any, .any, .any, .any, .any, .any, .any, .any, .any, .any, .any, .any, .any, .any], []⟩
noncomputable def laws_szWorkS.b0 {β : Type} (k : Nat) : St → (Ex → St → Option β) → Option β := fun s K => den Try.prog (laws_szWorkS.E k) laws_szWorkS.h.H laws_szWorkS.h.J k (codeAt [1, 1, 1, 0, 1, 0, 0] (codeOf Try.f39)) s K
noncomputable def laws_szWorkS.c0 {β : Type} (k : Nat) (a0 : List (List D)) (a1 : Int) (K0 : List (List C) → List Out → Option β) : Ex → St → Option β := contAt Try.prog (laws_szWorkS.E k) laws_szWorkS.h k [1, 1, 1, 0, 1, 0] (codeOf Try.f39) (finDen Try.prog Try.f39 laws_szWorkS.h (laws_szWorkS.as a0 a1) K0)
theorem laws_szWorkS.l0_eq {β : Type} (k : Nat) (a0 : List (List D)) (a1 : Int) (K0 : List (List C) → List Out → Option β) (v0_0 : List (List D)) : ∀ (kk : Nat) (v : Int × Int), loopDen (laws_szWorkS.b0 k) (laws_szWorkS.h.H 5) kk (laws_szWorkS.s0 v0_0 v) (laws_szWorkS.c0 k a0 a1 K0) = iter (laws_szWorkS.l0 k v0_0 (laws_szWorkS.kt a0 a1 K0)) kk v :=
  loop_eq (laws_szWorkS.s0 v0_0) _ (fun L0 v => by obtain ⟨v0_1, v0_2⟩ := v; kernel_rfl)
noncomputable def laws_szWorkS.m {β : Type} (k : Nat) (a0 : List (List D)) (a1 : Int) (K0 : List (List C) → List Out → Option β) (F : ((List (List D)) → (Int × Int) → Option β)) : Option β :=
  bif (decide (((IntKind.wrap .i64 (a1 - (a0.length : Int))) : Int) < 0)) then ((laws_szWorkS.kt a0 a1 K0) (-1)) else ((F) a0 (IntKind.wrap .i64 (a1 - (a0.length : Int)), 0))
theorem laws_szWorkS.f_eq {β : Type} (k : Nat) (a0 : List (List D)) (a1 : Int) (K0 : List (List C) → List Out → Option β) : funDen Try.prog (laws_szWorkS.E k) laws_szWorkS.h k Try.f39 (laws_szWorkS.as a0 a1) K0 = laws_szWorkS.g k a0 a1 (laws_szWorkS.kt a0 a1 K0) := Eq.trans (b := (laws_szWorkS.m k a0 a1 K0) (fun (v0_0 : List (List D)) (v : Int × Int) => loopDen (laws_szWorkS.b0 k) (laws_szWorkS.h.H 5) k (laws_szWorkS.s0 v0_0 v) (laws_szWorkS.c0 k a0 a1 K0))) (by kernel_rfl) (Eq.trans (congrArg (laws_szWorkS.m k a0 a1 K0) (funext fun v0_0 => funext fun v => laws_szWorkS.l0_eq k a0 a1 K0 v0_0 k v)) (by kernel_rfl))
noncomputable def laws_szWorkS.dec (rs : List (List C)) (os : List Out) : Option (Int) := uncons rs fun c1 r2 => uncons c1 fun x3 l4 => cD x3 fun d5 => dInt .i64 d5 fun w0 => atEnd l4 <| atEnd r2 <| atEnd os (some w0)
theorem laws_szWorkS.kt_dec (a0 : List (List D)) (a1 : Int) : laws_szWorkS.kt a0 a1 laws_szWorkS.dec = (fun z0 => some z0) := by kernel_rfl
theorem laws_szWorkS.inj (a0 : List (List D)) (a1 : Int) {rs : List (List C)} {os : List Out} {z0 : Int} (h : laws_szWorkS.dec rs os = some z0) (ho : OutShape (laws_szWorkS.as a0 a1) os) : rs = [[.d (.int .i64 z0)]] ∧ os = [] := by
  unfold laws_szWorkS.dec at h
  obtain ⟨c1, r2, rfl, h1⟩ := uncons_some h
  obtain ⟨x3, l4, rfl, h2⟩ := uncons_some h1
  obtain ⟨d5, rfl, h3⟩ := cD_some h2
  obtain ⟨w0, rfl, h4⟩ := dInt_some h3
  obtain ⟨rfl, h5⟩ := atEnd_some h4
  obtain ⟨rfl, h6⟩ := atEnd_some h5
  obtain ⟨rfl, h7⟩ := atEnd_some h6
  obtain rfl := Option.some.inj h7
  exact ⟨rfl, rfl⟩
theorem laws_szWorkS.ok (k : Nat) : EntryOK Try.prog 39 (laws_szWorkS.e k) := by
  refine entry_of mix tyok (fn := Try.f39) (c := codeOf Try.f39) Try.func39 (by kernel_rfl) (h := laws_szWorkS.h) (k := k) (E := laws_szWorkS.E k) (env_cons (laws_szWork.ok k) env_nil) (by kernel_rfl) (by kernel_rfl) rfl (enter_of Try.func39 (by kernel_rfl)) ?_
  intro β l K r hr
  simp only [laws_szWorkS.e] at hr
  split at hr
  case h_2 => cases hr
  unfold laws_szWorkS.f at hr
  split at hr
  case h_2 => cases hr
  rename_i hz
  exact ⟨_, _, hr, _, laws_szWorkS.dec, _, (laws_szWorkS.f_eq k _ _ laws_szWorkS.dec).trans (by rw [laws_szWorkS.kt_dec]; exact hz), fun rs os h ho => laws_szWorkS.inj _ _ h ho⟩
/-! ### loop.example/g00119/laws.szRunS: function 105 -/
noncomputable def laws_szRunS.g {β : Type} (k : Nat) (a0 : List (List D)) (a1 : Int) (K : Int → Option β) : Option β :=
  bif (decide (((IntKind.wrap .i64 (a1 - (a0.length : Int))) : Int) < 0)) then (K (-1)) else (K (IntKind.wrap .i64 (a1 - (a0.length : Int))))
noncomputable def laws_szRunS.t (k : Nat) (a0 : List (List D)) (a1 : Int) : Option (Int) := laws_szRunS.g k a0 a1 (fun z0 => some z0)
noncomputable def laws_szRunS.f {β : Type} (k : Nat) (a0 : List (List D)) (a1 : Int) (K : Int → Option β) : Option β :=
  match laws_szRunS.t k a0 a1 with
  | some z0 => K z0
  | none => none
noncomputable def laws_szRunS.as (a0 : List (List D)) (a1 : Int) : List A := [.d (.sl a0), .d (.int .i64 a1)]
noncomputable def laws_szRunS.kt {β : Type} (a0 : List (List D)) (a1 : Int) (K0 : List (List C) → List Out → Option β) : Int → Option β := fun z0 => K0 [[.d (.int .i64 z0)]] []
noncomputable def laws_szRunS.e (k : Nat) : Entry := { modes := [(.imm, 0), (.imm, 0)], rts := [3], al := false, run := fun {β} l K => match l with | [.d (.sl a0), .d (.int .i64 a1)] => laws_szRunS.f k a0 a1 (laws_szRunS.kt a0 a1 K) | _ => none }
noncomputable def laws_szRunS.E (k : Nat) : Env := fun g => none
noncomputable def laws_szRunS.h : Hints := ⟨fun n => ⟨[], []⟩, fun _ => none, false, []⟩
theorem laws_szRunS.f_eq {β : Type} (k : Nat) (a0 : List (List D)) (a1 : Int) (K0 : List (List C) → List Out → Option β) : funDen Try.prog (laws_szRunS.E k) laws_szRunS.h k Try.f105 (laws_szRunS.as a0 a1) K0 = laws_szRunS.g k a0 a1 (laws_szRunS.kt a0 a1 K0) := by kernel_rfl
noncomputable def laws_szRunS.dec (rs : List (List C)) (os : List Out) : Option (Int) := uncons rs fun c1 r2 => uncons c1 fun x3 l4 => cD x3 fun d5 => dInt .i64 d5 fun w0 => atEnd l4 <| atEnd r2 <| atEnd os (some w0)
theorem laws_szRunS.kt_dec (a0 : List (List D)) (a1 : Int) : laws_szRunS.kt a0 a1 laws_szRunS.dec = (fun z0 => some z0) := by kernel_rfl
theorem laws_szRunS.inj (a0 : List (List D)) (a1 : Int) {rs : List (List C)} {os : List Out} {z0 : Int} (h : laws_szRunS.dec rs os = some z0) (ho : OutShape (laws_szRunS.as a0 a1) os) : rs = [[.d (.int .i64 z0)]] ∧ os = [] := by
  unfold laws_szRunS.dec at h
  obtain ⟨c1, r2, rfl, h1⟩ := uncons_some h
  obtain ⟨x3, l4, rfl, h2⟩ := uncons_some h1
  obtain ⟨d5, rfl, h3⟩ := cD_some h2
  obtain ⟨w0, rfl, h4⟩ := dInt_some h3
  obtain ⟨rfl, h5⟩ := atEnd_some h4
  obtain ⟨rfl, h6⟩ := atEnd_some h5
  obtain ⟨rfl, h7⟩ := atEnd_some h6
  obtain rfl := Option.some.inj h7
  exact ⟨rfl, rfl⟩
theorem laws_szRunS.ok (k : Nat) : EntryOK Try.prog 105 (laws_szRunS.e k) := by
  refine entry_of mix tyok (fn := Try.f105) (c := codeOf Try.f105) Try.func105 (by kernel_rfl) (h := laws_szRunS.h) (k := k) (E := laws_szRunS.E k) env_nil (by kernel_rfl) (by kernel_rfl) rfl (enter_of Try.func105 (by kernel_rfl)) ?_
  intro β l K r hr
  simp only [laws_szRunS.e] at hr
  split at hr
  case h_2 => cases hr
  unfold laws_szRunS.f at hr
  split at hr
  case h_2 => cases hr
  rename_i hz
  exact ⟨_, _, hr, _, laws_szRunS.dec, _, (laws_szRunS.f_eq k _ _ laws_szRunS.dec).trans (by rw [laws_szRunS.kt_dec]; exact hz), fun rs os h ho => laws_szRunS.inj _ _ h ho⟩
/-! ### loop.example/g00119/laws.szIsle: function 49 -/
noncomputable def laws_szIsle.g {β : Type} (k : Nat) (a0_0 : ByteArray) (a0_1 : Int) (a0_2 : Int) (a0_3 : List (List D)) (a0_4 : List (List D)) (a1 : Int) (K : Int → Option β) : Option β :=
  bif (decide (((IntKind.wrap .i64 (a1 - (a0_0.size : Int))) : Int) < 0)) then (K (-1)) else (laws_szWorkS.f k a0_3 (IntKind.wrap .i64 (a1 - (a0_0.size : Int))) (fun y61 => bif (decide ((y61 : Int) < 0)) then (K (-1)) else (laws_szRunS.f k a0_4 y61 (fun y62 => bif (decide ((y62 : Int) < 0)) then (K (-1)) else (K y62)))))
noncomputable def laws_szIsle.t (k : Nat) (a0_0 : ByteArray) (a0_1 : Int) (a0_2 : Int) (a0_3 : List (List D)) (a0_4 : List (List D)) (a1 : Int) : Option (Int) := laws_szIsle.g k a0_0 a0_1 a0_2 a0_3 a0_4 a1 (fun z0 => some z0)
noncomputable def laws_szIsle.f {β : Type} (k : Nat) (a0_0 : ByteArray) (a0_1 : Int) (a0_2 : Int) (a0_3 : List (List D)) (a0_4 : List (List D)) (a1 : Int) (K : Int → Option β) : Option β :=
  match laws_szIsle.t k a0_0 a0_1 a0_2 a0_3 a0_4 a1 with
  | some z0 => K z0
  | none => none
noncomputable def laws_szIsle.as (a0_0 : ByteArray) (a0_1 : Int) (a0_2 : Int) (a0_3 : List (List D)) (a0_4 : List (List D)) (a1 : Int) : List A := [.agg [.str a0_0, .int .i64 a0_1, .int .i64 a0_2, .sl a0_3, .sl a0_4], .d (.int .i64 a1)]
noncomputable def laws_szIsle.kt {β : Type} (a0_0 : ByteArray) (a0_1 : Int) (a0_2 : Int) (a0_3 : List (List D)) (a0_4 : List (List D)) (a1 : Int) (K0 : List (List C) → List Out → Option β) : Int → Option β := fun z0 => K0 [[.d (.int .i64 z0)]] []
noncomputable def laws_szIsle.e (k : Nat) : Entry := { modes := [(.imm, 0), (.imm, 0)], rts := [3], al := false, run := fun {β} l K => match l with | [.agg [.str a0_0, .int .i64 a0_1, .int .i64 a0_2, .sl a0_3, .sl a0_4], .d (.int .i64 a1)] => laws_szIsle.f k a0_0 a0_1 a0_2 a0_3 a0_4 a1 (laws_szIsle.kt a0_0 a0_1 a0_2 a0_3 a0_4 a1 K) | _ => none }
noncomputable def laws_szIsle.E (k : Nat) : Env := fun g => bif g == 39 then some (laws_szWorkS.e k) else bif g == 105 then some (laws_szRunS.e k) else none
noncomputable def laws_szIsle.h : Hints := ⟨fun n => ⟨[], []⟩, fun _ => none, false, []⟩
theorem laws_szIsle.f_eq {β : Type} (k : Nat) (a0_0 : ByteArray) (a0_1 : Int) (a0_2 : Int) (a0_3 : List (List D)) (a0_4 : List (List D)) (a1 : Int) (K0 : List (List C) → List Out → Option β) : funDen Try.prog (laws_szIsle.E k) laws_szIsle.h k Try.f49 (laws_szIsle.as a0_0 a0_1 a0_2 a0_3 a0_4 a1) K0 = laws_szIsle.g k a0_0 a0_1 a0_2 a0_3 a0_4 a1 (laws_szIsle.kt a0_0 a0_1 a0_2 a0_3 a0_4 a1 K0) := by kernel_rfl
noncomputable def laws_szIsle.dec (rs : List (List C)) (os : List Out) : Option (Int) := uncons rs fun c1 r2 => uncons c1 fun x3 l4 => cD x3 fun d5 => dInt .i64 d5 fun w0 => atEnd l4 <| atEnd r2 <| atEnd os (some w0)
theorem laws_szIsle.kt_dec (a0_0 : ByteArray) (a0_1 : Int) (a0_2 : Int) (a0_3 : List (List D)) (a0_4 : List (List D)) (a1 : Int) : laws_szIsle.kt a0_0 a0_1 a0_2 a0_3 a0_4 a1 laws_szIsle.dec = (fun z0 => some z0) := by kernel_rfl
theorem laws_szIsle.inj (a0_0 : ByteArray) (a0_1 : Int) (a0_2 : Int) (a0_3 : List (List D)) (a0_4 : List (List D)) (a1 : Int) {rs : List (List C)} {os : List Out} {z0 : Int} (h : laws_szIsle.dec rs os = some z0) (ho : OutShape (laws_szIsle.as a0_0 a0_1 a0_2 a0_3 a0_4 a1) os) : rs = [[.d (.int .i64 z0)]] ∧ os = [] := by
  unfold laws_szIsle.dec at h
  obtain ⟨c1, r2, rfl, h1⟩ := uncons_some h
  obtain ⟨x3, l4, rfl, h2⟩ := uncons_some h1
  obtain ⟨d5, rfl, h3⟩ := cD_some h2
  obtain ⟨w0, rfl, h4⟩ := dInt_some h3
  obtain ⟨rfl, h5⟩ := atEnd_some h4
  obtain ⟨rfl, h6⟩ := atEnd_some h5
  obtain ⟨rfl, h7⟩ := atEnd_some h6
  obtain rfl := Option.some.inj h7
  exact ⟨rfl, rfl⟩
theorem laws_szIsle.ok (k : Nat) : EntryOK Try.prog 49 (laws_szIsle.e k) := by
  refine entry_of mix tyok (fn := Try.f49) (c := codeOf Try.f49) Try.func49 (by kernel_rfl) (h := laws_szIsle.h) (k := k) (E := laws_szIsle.E k) (env_cons (laws_szWorkS.ok k) (env_cons (laws_szRunS.ok k) env_nil)) (by kernel_rfl) (by kernel_rfl) rfl (enter_of Try.func49 (by kernel_rfl)) ?_
  intro β l K r hr
  simp only [laws_szIsle.e] at hr
  split at hr
  case h_2 => cases hr
  unfold laws_szIsle.f at hr
  split at hr
  case h_2 => cases hr
  rename_i hz
  exact ⟨_, _, hr, _, laws_szIsle.dec, _, (laws_szIsle.f_eq k _ _ _ _ _ _ laws_szIsle.dec).trans (by rw [laws_szIsle.kt_dec]; exact hz), fun rs os h ho => laws_szIsle.inj _ _ _ _ _ _ h ho⟩
/-! ### loop.example/g00119/laws.toStringS: function 71 -/
noncomputable def laws_toStringS.l0 {β : Type} (k : Nat) (v0_0 : List (List D)) (K : (List (List C)) → Option β) (L0 : (Int × (List (List C))) → Option β) (v : Int × (List (List C))) : Option β :=
  match v with
  | (v0_1, v0_2) => bif (decide ((v0_1 : Int) < (v0_0.length : Int))) then (atRow v0_0 v0_1 fun c5 => uncons c5 fun d6 r7 => dStr d6 fun x8 => atEnd r7 (guardP ((0 : Int) ≤ v0_1 ∧ v0_1 < (v0_2.length : Int)) (guardP (Int.toNat v0_1 < v0_2.length) (L0 (IntKind.wrap .i64 (v0_1 + 1), v0_2.modify (Int.toNat v0_1) fun c => splice c 0 [.d (.str x8)]))))) else (K v0_2)
noncomputable def laws_toStringS.g {β : Type} (k : Nat) (a0 : List (List D)) (K : (List (List C)) → Option β) : Option β :=
  guardP ((0 : Int) ≤ (a0.length : Int) ∧ (a0.length : Int) ≤ (most : Int) ∧ (a0.length : Int) ≤ (a0.length : Int) ∧ (a0.length : Int) ≤ (a0.length : Int)) (iter (laws_toStringS.l0 k a0 K) k (0, List.replicate (Int.toNat (a0.length : Int)) ([.d (.str (⟨#[]⟩ : ByteArray))] : List C)))
noncomputable def laws_toStringS.t (k : Nat) (a0 : List (List D)) : Option ((List (List C))) := laws_toStringS.g k a0 (fun z0 => some z0)
noncomputable def laws_toStringS.f {β : Type} (k : Nat) (a0 : List (List D)) (K : (List (List C)) → Option β) : Option β :=
  match laws_toStringS.t k a0 with
  | some z0 => K z0
  | none => none
noncomputable def laws_toStringS.as (a0 : List (List D)) : List A := [.d (.sl a0)]
noncomputable def laws_toStringS.kt {β : Type} (a0 : List (List D)) (K0 : List (List C) → List Out → Option β) : (List (List C)) → Option β := fun z0 => K0 [[.own z0]] []
noncomputable def laws_toStringS.e (k : Nat) : Entry := { modes := [(.imm, 0)], rts := [23], al := false, run := fun {β} l K => match l with | [.d (.sl a0)] => laws_toStringS.f k a0 (laws_toStringS.kt a0 K) | _ => none }
noncomputable def laws_toStringS.E (k : Nat) : Env := fun g => none
noncomputable def laws_toStringS.h : Hints := ⟨fun n => bif n == 3 then ⟨[(0, .asis), (3, .asis), (4, .asis)], []⟩ else ⟨[], []⟩, fun _ => none, false, []⟩
noncomputable def laws_toStringS.s0 (v0_0 : List (List D)) (v : Int × (List (List C))) : St :=
  match v with
  | (v0_1, v0_2) => ⟨[.d false (.sl v0_0), .any, .any, .row 0, .d true (.int .i64 v0_1), .any, .any, .any, .any, .any, .any, .any, .any, .any, .any, .any, .any, .any, .any, .any, .any, .any], [.row none true 23 v0_2]⟩
noncomputable def laws_toStringS.b0 {β : Type} (k : Nat) : St → (Ex → St → Option β) → Option β := fun s K => den Try.prog (laws_toStringS.E k) laws_toStringS.h.H laws_toStringS.h.J k (codeAt [1, 1, 0, 1, 0, 0] (codeOf Try.f71)) s K
noncomputable def laws_toStringS.c0 {β : Type} (k : Nat) (a0 : List (List D)) (K0 : List (List C) → List Out → Option β) : Ex → St → Option β := contAt Try.prog (laws_toStringS.E k) laws_toStringS.h k [1, 1, 0, 1, 0] (codeOf Try.f71) (finDen Try.prog Try.f71 laws_toStringS.h (laws_toStringS.as a0) K0)
theorem laws_toStringS.l0_eq {β : Type} (k : Nat) (a0 : List (List D)) (K0 : List (List C) → List Out → Option β) (v0_0 : List (List D)) : ∀ (kk : Nat) (v : Int × (List (List C))), loopDen (laws_toStringS.b0 k) (laws_toStringS.h.H 3) kk (laws_toStringS.s0 v0_0 v) (laws_toStringS.c0 k a0 K0) = iter (laws_toStringS.l0 k v0_0 (laws_toStringS.kt a0 K0)) kk v :=
  loop_eq (laws_toStringS.s0 v0_0) _ (fun L0 v => by obtain ⟨v0_1, v0_2⟩ := v; kernel_rfl)
noncomputable def laws_toStringS.m {β : Type} (k : Nat) (a0 : List (List D)) (K0 : List (List C) → List Out → Option β) (F : ((List (List D)) → (Int × (List (List C))) → Option β)) : Option β :=
  guardP ((0 : Int) ≤ (a0.length : Int) ∧ (a0.length : Int) ≤ (most : Int) ∧ (a0.length : Int) ≤ (a0.length : Int) ∧ (a0.length : Int) ≤ (a0.length : Int)) ((F) a0 (0, List.replicate (Int.toNat (a0.length : Int)) ([.d (.str (⟨#[]⟩ : ByteArray))] : List C)))
theorem laws_toStringS.f_eq {β : Type} (k : Nat) (a0 : List (List D)) (K0 : List (List C) → List Out → Option β) : funDen Try.prog (laws_toStringS.E k) laws_toStringS.h k Try.f71 (laws_toStringS.as a0) K0 = laws_toStringS.g k a0 (laws_toStringS.kt a0 K0) := Eq.trans (b := (laws_toStringS.m k a0 K0) (fun (v0_0 : List (List D)) (v : Int × (List (List C))) => loopDen (laws_toStringS.b0 k) (laws_toStringS.h.H 3) k (laws_toStringS.s0 v0_0 v) (laws_toStringS.c0 k a0 K0))) (by kernel_rfl) (Eq.trans (congrArg (laws_toStringS.m k a0 K0) (funext fun v0_0 => funext fun v => laws_toStringS.l0_eq k a0 K0 v0_0 k v)) (by kernel_rfl))
noncomputable def laws_toStringS.dec (rs : List (List C)) (os : List Out) : Option ((List (List C))) := uncons rs fun c1 r2 => uncons c1 fun x3 l4 => cOwn x3 fun w0 => atEnd l4 <| atEnd r2 <| atEnd os (some w0)
theorem laws_toStringS.kt_dec (a0 : List (List D)) : laws_toStringS.kt a0 laws_toStringS.dec = (fun z0 => some z0) := by kernel_rfl
theorem laws_toStringS.inj (a0 : List (List D)) {rs : List (List C)} {os : List Out} {z0 : List (List C)} (h : laws_toStringS.dec rs os = some z0) (ho : OutShape (laws_toStringS.as a0) os) : rs = [[.own z0]] ∧ os = [] := by
  unfold laws_toStringS.dec at h
  obtain ⟨c1, r2, rfl, h1⟩ := uncons_some h
  obtain ⟨x3, l4, rfl, h2⟩ := uncons_some h1
  obtain ⟨w0, rfl, h3⟩ := cOwn_some h2
  obtain ⟨rfl, h4⟩ := atEnd_some h3
  obtain ⟨rfl, h5⟩ := atEnd_some h4
  obtain ⟨rfl, h6⟩ := atEnd_some h5
  obtain rfl := Option.some.inj h6
  exact ⟨rfl, rfl⟩
theorem laws_toStringS.ok (k : Nat) : EntryOK Try.prog 71 (laws_toStringS.e k) := by
  refine entry_of mix tyok (fn := Try.f71) (c := codeOf Try.f71) Try.func71 (by kernel_rfl) (h := laws_toStringS.h) (k := k) (E := laws_toStringS.E k) env_nil (by kernel_rfl) (by kernel_rfl) rfl (enter_of Try.func71 (by kernel_rfl)) ?_
  intro β l K r hr
  simp only [laws_toStringS.e] at hr
  split at hr
  case h_2 => cases hr
  unfold laws_toStringS.f at hr
  split at hr
  case h_2 => cases hr
  rename_i hz
  exact ⟨_, _, hr, _, laws_toStringS.dec, _, (laws_toStringS.f_eq k _ laws_toStringS.dec).trans (by rw [laws_toStringS.kt_dec]; exact hz), fun rs os h ho => laws_toStringS.inj _ h ho⟩
/-! ### loop.example/g00119/laws.toValueS: function 192 -/
noncomputable def laws_toValueS.l0 {β : Type} (k : Nat) (r_laws_toValueS : (List (List D)) → ((List (List C)) → Option β) → Option β) (r_laws_toValue : Int → ByteArray → Int → (List (List D)) → (List (List D)) → (Int → ByteArray → Int → (List (List C)) → (List (List C)) → Option β) → Option β) (v0_0 : List (List D)) (K : (List (List C)) → Option β) (L0 : (Int × (List (List C))) → Option β) (v : Int × (List (List C))) : Option β :=
  match v with
  | (v0_1, v0_2) => bif (decide ((v0_1 : Int) < (v0_0.length : Int))) then (atRow v0_0 v0_1 fun c22 => uncons c22 fun d23 r24 => dInt .i64 d23 fun x25 => uncons r24 fun d26 r27 => dStr d26 fun x28 => uncons r27 fun d29 r30 => dInt .i64 d29 fun x31 => uncons r30 fun d32 r33 => dSl d32 fun x34 => uncons r33 fun d35 r36 => dSl d35 fun x37 => atEnd r36 (r_laws_toValue x25 x28 x31 x34 x37 (fun y38 y39 y40 y41 y42 => guardP ((0 : Int) ≤ v0_1 ∧ v0_1 < (v0_2.length : Int)) (guardP (Int.toNat v0_1 < v0_2.length) (L0 (IntKind.wrap .i64 (v0_1 + 1), v0_2.modify (Int.toNat v0_1) fun c => splice c 0 [.d (.int .i64 y38), .d (.str y39), .d (.int .i64 y40), .own y41, .own y42])))))) else (K v0_2)
noncomputable def laws_toValueS.body {β : Type} (k : Nat) (r_laws_toValueS : (List (List D)) → ((List (List C)) → Option β) → Option β) (r_laws_toValue : Int → ByteArray → Int → (List (List D)) → (List (List D)) → (Int → ByteArray → Int → (List (List C)) → (List (List C)) → Option β) → Option β) (a0 : List (List D)) (K : (List (List C)) → Option β) : Option β :=
  guardP ((0 : Int) ≤ (a0.length : Int) ∧ (a0.length : Int) ≤ (most : Int) ∧ (a0.length : Int) ≤ (a0.length : Int) ∧ (a0.length : Int) ≤ (a0.length : Int)) (iter (laws_toValueS.l0 k r_laws_toValueS r_laws_toValue a0 K) k (0, List.replicate (Int.toNat (a0.length : Int)) ([.d (.int .i64 0), .d (.str (⟨#[]⟩ : ByteArray)), .d (.int .i64 0), .own ([] : List (List C)), .own ([] : List (List C))] : List C)))
/-! ### loop.example/g00119/laws.toValue: function 161 -/
noncomputable def laws_toValue.body {β : Type} (k : Nat) (r_laws_toValueS : (List (List D)) → ((List (List C)) → Option β) → Option β) (r_laws_toValue : Int → ByteArray → Int → (List (List D)) → (List (List D)) → (Int → ByteArray → Int → (List (List C)) → (List (List C)) → Option β) → Option β) (a0_0 : Int) (a0_1 : ByteArray) (a0_2 : Int) (a0_3 : List (List D)) (a0_4 : List (List D)) (K : Int → ByteArray → Int → (List (List C)) → (List (List C)) → Option β) : Option β :=
  laws_toStringS.f k a0_3 (fun y9 => r_laws_toValueS a0_4 (fun y43 => K a0_0 a0_1 a0_2 y9 y43))
noncomputable def laws_toValueS.w {β : Type} (r : (List (List D)) → Option ((List (List C)))) (a0 : List (List D)) (K : (List (List C)) → Option β) : Option β :=
  match r a0 with
  | some z0 => K z0
  | none => none
noncomputable def laws_toValue.w {β : Type} (r : Int → ByteArray → Int → (List (List D)) → (List (List D)) → Option (Int × ByteArray × Int × (List (List C)) × (List (List C)))) (a0_0 : Int) (a0_1 : ByteArray) (a0_2 : Int) (a0_3 : List (List D)) (a0_4 : List (List D)) (K : Int → ByteArray → Int → (List (List C)) → (List (List C)) → Option β) : Option β :=
  match r a0_0 a0_1 a0_2 a0_3 a0_4 with
  | some (z0, z1, z2, z3, z4) => K z0 z1 z2 z3 z4
  | none => none
noncomputable def laws_toValueS.all : Nat → ((List (List D)) → Option ((List (List C)))) × (Int → ByteArray → Int → (List (List D)) → (List (List D)) → Option (Int × ByteArray × Int × (List (List C)) × (List (List C))))
  | 0 => (fun _ => none, fun _ _ _ _ _ => none)
  | k + 1 => (fun r => (fun a0 => laws_toValueS.body k (laws_toValueS.w r.1) (laws_toValue.w r.2) a0 (fun z0 => some z0), fun a0_0 a0_1 a0_2 a0_3 a0_4 => laws_toValue.body k (laws_toValueS.w r.1) (laws_toValue.w r.2) a0_0 a0_1 a0_2 a0_3 a0_4 (fun z0 z1 z2 z3 z4 => some (z0, z1, z2, z3, z4)))) (laws_toValueS.all k)
noncomputable def laws_toValueS.t (k : Nat) (a0 : List (List D)) : Option ((List (List C))) := (laws_toValueS.all k).1 a0
noncomputable def laws_toValue.t (k : Nat) (a0_0 : Int) (a0_1 : ByteArray) (a0_2 : Int) (a0_3 : List (List D)) (a0_4 : List (List D)) : Option (Int × ByteArray × Int × (List (List C)) × (List (List C))) := (laws_toValueS.all k).2 a0_0 a0_1 a0_2 a0_3 a0_4
noncomputable def laws_toValueS.f {β : Type} (k : Nat) (a0 : List (List D)) (K : (List (List C)) → Option β) : Option β := laws_toValueS.w (laws_toValueS.t k) a0 K
noncomputable def laws_toValue.f {β : Type} (k : Nat) (a0_0 : Int) (a0_1 : ByteArray) (a0_2 : Int) (a0_3 : List (List D)) (a0_4 : List (List D)) (K : Int → ByteArray → Int → (List (List C)) → (List (List C)) → Option β) : Option β := laws_toValue.w (laws_toValue.t k) a0_0 a0_1 a0_2 a0_3 a0_4 K
noncomputable def laws_toValueS.g {β : Type} (k : Nat) (a0 : List (List D)) (K : (List (List C)) → Option β) : Option β := laws_toValueS.body k (laws_toValueS.f k) (laws_toValue.f k) a0 K
theorem laws_toValueS.t_zero (a0 : List (List D)) : laws_toValueS.t 0 a0 = none := rfl
theorem laws_toValueS.t_succ (k : Nat) (a0 : List (List D)) : laws_toValueS.t (k + 1) a0 = laws_toValueS.g k a0 (fun z0 => some z0) := rfl
noncomputable def laws_toValue.g {β : Type} (k : Nat) (a0_0 : Int) (a0_1 : ByteArray) (a0_2 : Int) (a0_3 : List (List D)) (a0_4 : List (List D)) (K : Int → ByteArray → Int → (List (List C)) → (List (List C)) → Option β) : Option β := laws_toValue.body k (laws_toValueS.f k) (laws_toValue.f k) a0_0 a0_1 a0_2 a0_3 a0_4 K
theorem laws_toValue.t_zero (a0_0 : Int) (a0_1 : ByteArray) (a0_2 : Int) (a0_3 : List (List D)) (a0_4 : List (List D)) : laws_toValue.t 0 a0_0 a0_1 a0_2 a0_3 a0_4 = none := rfl
theorem laws_toValue.t_succ (k : Nat) (a0_0 : Int) (a0_1 : ByteArray) (a0_2 : Int) (a0_3 : List (List D)) (a0_4 : List (List D)) : laws_toValue.t (k + 1) a0_0 a0_1 a0_2 a0_3 a0_4 = laws_toValue.g k a0_0 a0_1 a0_2 a0_3 a0_4 (fun z0 z1 z2 z3 z4 => some (z0, z1, z2, z3, z4)) := rfl
noncomputable def laws_toValueS.as (a0 : List (List D)) : List A := [.d (.sl a0)]
noncomputable def laws_toValueS.kt {β : Type} (a0 : List (List D)) (K0 : List (List C) → List Out → Option β) : (List (List C)) → Option β := fun z0 => K0 [[.own z0]] []
noncomputable def laws_toValueS.e (k : Nat) : Entry := { modes := [(.imm, 0)], rts := [149], al := false, run := fun {β} l K => match l with | [.d (.sl a0)] => laws_toValueS.f k a0 (laws_toValueS.kt a0 K) | _ => none }
noncomputable def laws_toValue.as (a0_0 : Int) (a0_1 : ByteArray) (a0_2 : Int) (a0_3 : List (List D)) (a0_4 : List (List D)) : List A := [.agg [.int .i64 a0_0, .str a0_1, .int .i64 a0_2, .sl a0_3, .sl a0_4]]
noncomputable def laws_toValue.kt {β : Type} (a0_0 : Int) (a0_1 : ByteArray) (a0_2 : Int) (a0_3 : List (List D)) (a0_4 : List (List D)) (K0 : List (List C) → List Out → Option β) : Int → ByteArray → Int → (List (List C)) → (List (List C)) → Option β := fun z0 z1 z2 z3 z4 => K0 [[.d (.int .i64 z0), .d (.str z1), .d (.int .i64 z2), .own z3, .own z4]] []
noncomputable def laws_toValue.e (k : Nat) : Entry := { modes := [(.imm, 0)], rts := [151], al := false, run := fun {β} l K => match l with | [.agg [.int .i64 a0_0, .str a0_1, .int .i64 a0_2, .sl a0_3, .sl a0_4]] => laws_toValue.f k a0_0 a0_1 a0_2 a0_3 a0_4 (laws_toValue.kt a0_0 a0_1 a0_2 a0_3 a0_4 K) | _ => none }
noncomputable def laws_toValueS.E (k : Nat) : Env := fun g => bif g == 161 then some (laws_toValue.e k) else none
noncomputable def laws_toValueS.h : Hints := ⟨fun n => bif n == 3 then ⟨[(0, .asis), (3, .asis), (4, .asis)], []⟩ else ⟨[], []⟩, fun _ => none, false, []⟩
noncomputable def laws_toValueS.s0 (v0_0 : List (List D)) (v : Int × (List (List C))) : St :=
  match v with
  | (v0_1, v0_2) => ⟨[.d false (.sl v0_0), .any, .any, .row 0, .d true (.int .i64 v0_1), .any, .any, .any, .any, .any, .any, .any, .any, .any, .any, .any, .any, .any, .any, .any, .any, .any, .any], [.row none true 149 v0_2]⟩
noncomputable def laws_toValueS.b0 {β : Type} (k : Nat) : St → (Ex → St → Option β) → Option β := fun s K => den Try.prog (laws_toValueS.E k) laws_toValueS.h.H laws_toValueS.h.J k (codeAt [1, 1, 0, 1, 0, 0] (codeOf Try.f192)) s K
noncomputable def laws_toValueS.c0 {β : Type} (k : Nat) (a0 : List (List D)) (K0 : List (List C) → List Out → Option β) : Ex → St → Option β := contAt Try.prog (laws_toValueS.E k) laws_toValueS.h k [1, 1, 0, 1, 0] (codeOf Try.f192) (finDen Try.prog Try.f192 laws_toValueS.h (laws_toValueS.as a0) K0)
theorem laws_toValueS.l0_eq {β : Type} (k : Nat) (a0 : List (List D)) (K0 : List (List C) → List Out → Option β) (v0_0 : List (List D)) : ∀ (kk : Nat) (v : Int × (List (List C))), loopDen (laws_toValueS.b0 k) (laws_toValueS.h.H 3) kk (laws_toValueS.s0 v0_0 v) (laws_toValueS.c0 k a0 K0) = iter (laws_toValueS.l0 k (laws_toValueS.f k) (laws_toValue.f k) v0_0 (laws_toValueS.kt a0 K0)) kk v :=
  loop_eq (laws_toValueS.s0 v0_0) _ (fun L0 v => by obtain ⟨v0_1, v0_2⟩ := v; kernel_rfl)
noncomputable def laws_toValueS.m {β : Type} (k : Nat) (a0 : List (List D)) (K0 : List (List C) → List Out → Option β) (F : ((List (List D)) → (Int × (List (List C))) → Option β)) : Option β :=
  guardP ((0 : Int) ≤ (a0.length : Int) ∧ (a0.length : Int) ≤ (most : Int) ∧ (a0.length : Int) ≤ (a0.length : Int) ∧ (a0.length : Int) ≤ (a0.length : Int)) ((F) a0 (0, List.replicate (Int.toNat (a0.length : Int)) ([.d (.int .i64 0), .d (.str (⟨#[]⟩ : ByteArray)), .d (.int .i64 0), .own ([] : List (List C)), .own ([] : List (List C))] : List C)))
theorem laws_toValueS.f_eq {β : Type} (k : Nat) (a0 : List (List D)) (K0 : List (List C) → List Out → Option β) : funDen Try.prog (laws_toValueS.E k) laws_toValueS.h k Try.f192 (laws_toValueS.as a0) K0 = laws_toValueS.g k a0 (laws_toValueS.kt a0 K0) := Eq.trans (b := (laws_toValueS.m k a0 K0) (fun (v0_0 : List (List D)) (v : Int × (List (List C))) => loopDen (laws_toValueS.b0 k) (laws_toValueS.h.H 3) k (laws_toValueS.s0 v0_0 v) (laws_toValueS.c0 k a0 K0))) (by kernel_rfl) (Eq.trans (congrArg (laws_toValueS.m k a0 K0) (funext fun v0_0 => funext fun v => laws_toValueS.l0_eq k a0 K0 v0_0 k v)) (by kernel_rfl))
noncomputable def laws_toValue.E (k : Nat) : Env := fun g => bif g == 71 then some (laws_toStringS.e k) else bif g == 192 then some (laws_toValueS.e k) else none
noncomputable def laws_toValue.h : Hints := ⟨fun n => ⟨[], []⟩, fun _ => none, false, []⟩
theorem laws_toValue.f_eq {β : Type} (k : Nat) (a0_0 : Int) (a0_1 : ByteArray) (a0_2 : Int) (a0_3 : List (List D)) (a0_4 : List (List D)) (K0 : List (List C) → List Out → Option β) : funDen Try.prog (laws_toValue.E k) laws_toValue.h k Try.f161 (laws_toValue.as a0_0 a0_1 a0_2 a0_3 a0_4) K0 = laws_toValue.g k a0_0 a0_1 a0_2 a0_3 a0_4 (laws_toValue.kt a0_0 a0_1 a0_2 a0_3 a0_4 K0) := by kernel_rfl
noncomputable def laws_toValueS.dec (rs : List (List C)) (os : List Out) : Option ((List (List C))) := uncons rs fun c1 r2 => uncons c1 fun x3 l4 => cOwn x3 fun w0 => atEnd l4 <| atEnd r2 <| atEnd os (some w0)
theorem laws_toValueS.kt_dec (a0 : List (List D)) : laws_toValueS.kt a0 laws_toValueS.dec = (fun z0 => some z0) := by kernel_rfl
theorem laws_toValueS.inj (a0 : List (List D)) {rs : List (List C)} {os : List Out} {z0 : List (List C)} (h : laws_toValueS.dec rs os = some z0) (ho : OutShape (laws_toValueS.as a0) os) : rs = [[.own z0]] ∧ os = [] := by
  unfold laws_toValueS.dec at h
  obtain ⟨c1, r2, rfl, h1⟩ := uncons_some h
  obtain ⟨x3, l4, rfl, h2⟩ := uncons_some h1
  obtain ⟨w0, rfl, h3⟩ := cOwn_some h2
  obtain ⟨rfl, h4⟩ := atEnd_some h3
  obtain ⟨rfl, h5⟩ := atEnd_some h4
  obtain ⟨rfl, h6⟩ := atEnd_some h5
  obtain rfl := Option.some.inj h6
  exact ⟨rfl, rfl⟩
noncomputable def laws_toValue.dec (rs : List (List C)) (os : List Out) : Option (Int × ByteArray × Int × (List (List C)) × (List (List C))) := uncons rs fun c1 r2 => uncons c1 fun x3 l4 => cD x3 fun d5 => dInt .i64 d5 fun w0 => uncons l4 fun x6 l7 => cD x6 fun d8 => dStr d8 fun w1 => uncons l7 fun x9 l10 => cD x9 fun d11 => dInt .i64 d11 fun w2 => uncons l10 fun x12 l13 => cOwn x12 fun w3 => uncons l13 fun x14 l15 => cOwn x14 fun w4 => atEnd l15 <| atEnd r2 <| atEnd os (some (w0, w1, w2, w3, w4))
theorem laws_toValue.kt_dec (a0_0 : Int) (a0_1 : ByteArray) (a0_2 : Int) (a0_3 : List (List D)) (a0_4 : List (List D)) : laws_toValue.kt a0_0 a0_1 a0_2 a0_3 a0_4 laws_toValue.dec = (fun z0 z1 z2 z3 z4 => some (z0, z1, z2, z3, z4)) := by kernel_rfl
theorem laws_toValue.inj (a0_0 : Int) (a0_1 : ByteArray) (a0_2 : Int) (a0_3 : List (List D)) (a0_4 : List (List D)) {rs : List (List C)} {os : List Out} {z0 : Int} {z1 : ByteArray} {z2 : Int} {z3 : List (List C)} {z4 : List (List C)} (h : laws_toValue.dec rs os = some (z0, z1, z2, z3, z4)) (ho : OutShape (laws_toValue.as a0_0 a0_1 a0_2 a0_3 a0_4) os) : rs = [[.d (.int .i64 z0), .d (.str z1), .d (.int .i64 z2), .own z3, .own z4]] ∧ os = [] := by
  unfold laws_toValue.dec at h
  obtain ⟨c1, r2, rfl, h1⟩ := uncons_some h
  obtain ⟨x3, l4, rfl, h2⟩ := uncons_some h1
  obtain ⟨d5, rfl, h3⟩ := cD_some h2
  obtain ⟨w0, rfl, h4⟩ := dInt_some h3
  obtain ⟨x6, l7, rfl, h5⟩ := uncons_some h4
  obtain ⟨d8, rfl, h6⟩ := cD_some h5
  obtain ⟨w1, rfl, h7⟩ := dStr_some h6
  obtain ⟨x9, l10, rfl, h8⟩ := uncons_some h7
  obtain ⟨d11, rfl, h9⟩ := cD_some h8
  obtain ⟨w2, rfl, h10⟩ := dInt_some h9
  obtain ⟨x12, l13, rfl, h11⟩ := uncons_some h10
  obtain ⟨w3, rfl, h12⟩ := cOwn_some h11
  obtain ⟨x14, l15, rfl, h13⟩ := uncons_some h12
  obtain ⟨w4, rfl, h14⟩ := cOwn_some h13
  obtain ⟨rfl, h15⟩ := atEnd_some h14
  obtain ⟨rfl, h16⟩ := atEnd_some h15
  obtain ⟨rfl, h17⟩ := atEnd_some h16
  simp only [Option.some.injEq, Prod.mk.injEq] at h17
  obtain ⟨rfl, rfl, rfl, rfl, rfl⟩ := h17
  exact ⟨rfl, rfl⟩
theorem laws_toValueS.oks (k : Nat) : EntryOK Try.prog 192 (laws_toValueS.e k) ∧ EntryOK Try.prog 161 (laws_toValue.e k) := by
  induction k with
  | zero =>
    refine ⟨?_, ?_⟩
    · exact entry_zero (enter_of Try.func192 (by kernel_rfl)) fun β l K r h => by
        simp only [laws_toValueS.e] at h
        split at h
        · unfold laws_toValueS.f at h
          unfold laws_toValueS.w at h
          rw [laws_toValueS.t_zero] at h
          cases h
        · cases h
    · exact entry_zero (enter_of Try.func161 (by kernel_rfl)) fun β l K r h => by
        simp only [laws_toValue.e] at h
        split at h
        · unfold laws_toValue.f at h
          unfold laws_toValue.w at h
          rw [laws_toValue.t_zero] at h
          cases h
        · cases h
  | succ k ih =>
    refine ⟨?_, ?_⟩
    · refine entry_of mix tyok (fn := Try.f192) (c := codeOf Try.f192) Try.func192 (by kernel_rfl) (h := laws_toValueS.h) (k := k) (E := laws_toValueS.E k) (env_cons ih.2 env_nil) (by kernel_rfl) (by kernel_rfl) rfl (enter_of Try.func192 (by kernel_rfl)) ?_
      intro β l K r hr
      simp only [laws_toValueS.e] at hr
      split at hr
      case h_2 => cases hr
      unfold laws_toValueS.f at hr
      unfold laws_toValueS.w at hr
      split at hr
      case h_2 => cases hr
      rename_i hz
      exact ⟨_, _, hr, _, laws_toValueS.dec, _, (laws_toValueS.f_eq k _ laws_toValueS.dec).trans (by rw [laws_toValueS.kt_dec]; exact hz), fun rs os h ho => laws_toValueS.inj _ h ho⟩
    · refine entry_of mix tyok (fn := Try.f161) (c := codeOf Try.f161) Try.func161 (by kernel_rfl) (h := laws_toValue.h) (k := k) (E := laws_toValue.E k) (env_cons (laws_toStringS.ok k) (env_cons ih.1 env_nil)) (by kernel_rfl) (by kernel_rfl) rfl (enter_of Try.func161 (by kernel_rfl)) ?_
      intro β l K r hr
      simp only [laws_toValue.e] at hr
      split at hr
      case h_2 => cases hr
      unfold laws_toValue.f at hr
      unfold laws_toValue.w at hr
      split at hr
      case h_2 => cases hr
      rename_i hz
      exact ⟨_, _, hr, _, laws_toValue.dec, _, (laws_toValue.f_eq k _ _ _ _ _ laws_toValue.dec).trans (by rw [laws_toValue.kt_dec]; exact hz), fun rs os h ho => laws_toValue.inj _ _ _ _ _ h ho⟩
theorem laws_toValueS.ok (k : Nat) : EntryOK Try.prog 192 (laws_toValueS.e k) := (laws_toValueS.oks k).1
theorem laws_toValue.ok (k : Nat) : EntryOK Try.prog 161 (laws_toValue.e k) := (laws_toValueS.oks k).2
/-! ### loop.example/g00119/laws.toWork: function 102 -/
noncomputable def laws_toWork.g {β : Type} (k : Nat) (a0_0 : Int) (a0_1 : Int) (a0_2 : Int) (a0_3 : ByteArray) (a0_4 : Int) (a0_5 : List (List D)) (a0_6 : List (List D)) (K : Int → Int → Int → ByteArray → Int → (List (List C)) → (List (List C)) → Option β) : Option β :=
  laws_toValue.f k a0_2 a0_3 a0_4 a0_5 a0_6 (fun y44 y45 y46 y47 y48 => K a0_0 a0_1 y44 y45 y46 y47 y48)
noncomputable def laws_toWork.t (k : Nat) (a0_0 : Int) (a0_1 : Int) (a0_2 : Int) (a0_3 : ByteArray) (a0_4 : Int) (a0_5 : List (List D)) (a0_6 : List (List D)) : Option (Int × Int × Int × ByteArray × Int × (List (List C)) × (List (List C))) := laws_toWork.g k a0_0 a0_1 a0_2 a0_3 a0_4 a0_5 a0_6 (fun z0 z1 z2 z3 z4 z5 z6 => some (z0, z1, z2, z3, z4, z5, z6))
noncomputable def laws_toWork.f {β : Type} (k : Nat) (a0_0 : Int) (a0_1 : Int) (a0_2 : Int) (a0_3 : ByteArray) (a0_4 : Int) (a0_5 : List (List D)) (a0_6 : List (List D)) (K : Int → Int → Int → ByteArray → Int → (List (List C)) → (List (List C)) → Option β) : Option β :=
  match laws_toWork.t k a0_0 a0_1 a0_2 a0_3 a0_4 a0_5 a0_6 with
  | some (z0, z1, z2, z3, z4, z5, z6) => K z0 z1 z2 z3 z4 z5 z6
  | none => none
noncomputable def laws_toWork.as (a0_0 : Int) (a0_1 : Int) (a0_2 : Int) (a0_3 : ByteArray) (a0_4 : Int) (a0_5 : List (List D)) (a0_6 : List (List D)) : List A := [.agg [.int .i64 a0_0, .int .i64 a0_1, .int .i64 a0_2, .str a0_3, .int .i64 a0_4, .sl a0_5, .sl a0_6]]
noncomputable def laws_toWork.kt {β : Type} (a0_0 : Int) (a0_1 : Int) (a0_2 : Int) (a0_3 : ByteArray) (a0_4 : Int) (a0_5 : List (List D)) (a0_6 : List (List D)) (K0 : List (List C) → List Out → Option β) : Int → Int → Int → ByteArray → Int → (List (List C)) → (List (List C)) → Option β := fun z0 z1 z2 z3 z4 z5 z6 => K0 [[.d (.int .i64 z0), .d (.int .i64 z1), .d (.int .i64 z2), .d (.str z3), .d (.int .i64 z4), .own z5, .own z6]] []
noncomputable def laws_toWork.e (k : Nat) : Entry := { modes := [(.imm, 0)], rts := [153], al := false, run := fun {β} l K => match l with | [.agg [.int .i64 a0_0, .int .i64 a0_1, .int .i64 a0_2, .str a0_3, .int .i64 a0_4, .sl a0_5, .sl a0_6]] => laws_toWork.f k a0_0 a0_1 a0_2 a0_3 a0_4 a0_5 a0_6 (laws_toWork.kt a0_0 a0_1 a0_2 a0_3 a0_4 a0_5 a0_6 K) | _ => none }
noncomputable def laws_toWork.E (k : Nat) : Env := fun g => bif g == 161 then some (laws_toValue.e k) else none
noncomputable def laws_toWork.h : Hints := ⟨fun n => ⟨[], []⟩, fun _ => none, false, []⟩
theorem laws_toWork.f_eq {β : Type} (k : Nat) (a0_0 : Int) (a0_1 : Int) (a0_2 : Int) (a0_3 : ByteArray) (a0_4 : Int) (a0_5 : List (List D)) (a0_6 : List (List D)) (K0 : List (List C) → List Out → Option β) : funDen Try.prog (laws_toWork.E k) laws_toWork.h k Try.f102 (laws_toWork.as a0_0 a0_1 a0_2 a0_3 a0_4 a0_5 a0_6) K0 = laws_toWork.g k a0_0 a0_1 a0_2 a0_3 a0_4 a0_5 a0_6 (laws_toWork.kt a0_0 a0_1 a0_2 a0_3 a0_4 a0_5 a0_6 K0) := by kernel_rfl
noncomputable def laws_toWork.dec (rs : List (List C)) (os : List Out) : Option (Int × Int × Int × ByteArray × Int × (List (List C)) × (List (List C))) := uncons rs fun c1 r2 => uncons c1 fun x3 l4 => cD x3 fun d5 => dInt .i64 d5 fun w0 => uncons l4 fun x6 l7 => cD x6 fun d8 => dInt .i64 d8 fun w1 => uncons l7 fun x9 l10 => cD x9 fun d11 => dInt .i64 d11 fun w2 => uncons l10 fun x12 l13 => cD x12 fun d14 => dStr d14 fun w3 => uncons l13 fun x15 l16 => cD x15 fun d17 => dInt .i64 d17 fun w4 => uncons l16 fun x18 l19 => cOwn x18 fun w5 => uncons l19 fun x20 l21 => cOwn x20 fun w6 => atEnd l21 <| atEnd r2 <| atEnd os (some (w0, w1, w2, w3, w4, w5, w6))
theorem laws_toWork.kt_dec (a0_0 : Int) (a0_1 : Int) (a0_2 : Int) (a0_3 : ByteArray) (a0_4 : Int) (a0_5 : List (List D)) (a0_6 : List (List D)) : laws_toWork.kt a0_0 a0_1 a0_2 a0_3 a0_4 a0_5 a0_6 laws_toWork.dec = (fun z0 z1 z2 z3 z4 z5 z6 => some (z0, z1, z2, z3, z4, z5, z6)) := by kernel_rfl
theorem laws_toWork.inj (a0_0 : Int) (a0_1 : Int) (a0_2 : Int) (a0_3 : ByteArray) (a0_4 : Int) (a0_5 : List (List D)) (a0_6 : List (List D)) {rs : List (List C)} {os : List Out} {z0 : Int} {z1 : Int} {z2 : Int} {z3 : ByteArray} {z4 : Int} {z5 : List (List C)} {z6 : List (List C)} (h : laws_toWork.dec rs os = some (z0, z1, z2, z3, z4, z5, z6)) (ho : OutShape (laws_toWork.as a0_0 a0_1 a0_2 a0_3 a0_4 a0_5 a0_6) os) : rs = [[.d (.int .i64 z0), .d (.int .i64 z1), .d (.int .i64 z2), .d (.str z3), .d (.int .i64 z4), .own z5, .own z6]] ∧ os = [] := by
  unfold laws_toWork.dec at h
  obtain ⟨c1, r2, rfl, h1⟩ := uncons_some h
  obtain ⟨x3, l4, rfl, h2⟩ := uncons_some h1
  obtain ⟨d5, rfl, h3⟩ := cD_some h2
  obtain ⟨w0, rfl, h4⟩ := dInt_some h3
  obtain ⟨x6, l7, rfl, h5⟩ := uncons_some h4
  obtain ⟨d8, rfl, h6⟩ := cD_some h5
  obtain ⟨w1, rfl, h7⟩ := dInt_some h6
  obtain ⟨x9, l10, rfl, h8⟩ := uncons_some h7
  obtain ⟨d11, rfl, h9⟩ := cD_some h8
  obtain ⟨w2, rfl, h10⟩ := dInt_some h9
  obtain ⟨x12, l13, rfl, h11⟩ := uncons_some h10
  obtain ⟨d14, rfl, h12⟩ := cD_some h11
  obtain ⟨w3, rfl, h13⟩ := dStr_some h12
  obtain ⟨x15, l16, rfl, h14⟩ := uncons_some h13
  obtain ⟨d17, rfl, h15⟩ := cD_some h14
  obtain ⟨w4, rfl, h16⟩ := dInt_some h15
  obtain ⟨x18, l19, rfl, h17⟩ := uncons_some h16
  obtain ⟨w5, rfl, h18⟩ := cOwn_some h17
  obtain ⟨x20, l21, rfl, h19⟩ := uncons_some h18
  obtain ⟨w6, rfl, h20⟩ := cOwn_some h19
  obtain ⟨rfl, h21⟩ := atEnd_some h20
  obtain ⟨rfl, h22⟩ := atEnd_some h21
  obtain ⟨rfl, h23⟩ := atEnd_some h22
  simp only [Option.some.injEq, Prod.mk.injEq] at h23
  obtain ⟨rfl, rfl, rfl, rfl, rfl, rfl, rfl⟩ := h23
  exact ⟨rfl, rfl⟩
theorem laws_toWork.ok (k : Nat) : EntryOK Try.prog 102 (laws_toWork.e k) := by
  refine entry_of mix tyok (fn := Try.f102) (c := codeOf Try.f102) Try.func102 (by kernel_rfl) (h := laws_toWork.h) (k := k) (E := laws_toWork.E k) (env_cons (laws_toValue.ok k) env_nil) (by kernel_rfl) (by kernel_rfl) rfl (enter_of Try.func102 (by kernel_rfl)) ?_
  intro β l K r hr
  simp only [laws_toWork.e] at hr
  split at hr
  case h_2 => cases hr
  unfold laws_toWork.f at hr
  split at hr
  case h_2 => cases hr
  rename_i hz
  exact ⟨_, _, hr, _, laws_toWork.dec, _, (laws_toWork.f_eq k _ _ _ _ _ _ _ laws_toWork.dec).trans (by rw [laws_toWork.kt_dec]; exact hz), fun rs os h ho => laws_toWork.inj _ _ _ _ _ _ _ h ho⟩
/-! ### loop.example/g00119/laws.toWorkS: function 41 -/
noncomputable def laws_toWorkS.l0 {β : Type} (k : Nat) (v0_0 : List (List D)) (K : (List (List C)) → Option β) (L0 : (Int × (List (List C))) → Option β) (v : Int × (List (List C))) : Option β :=
  match v with
  | (v0_1, v0_2) => bif (decide ((v0_1 : Int) < (v0_0.length : Int))) then (atRow v0_0 v0_1 fun c56 => uncons c56 fun d57 r58 => dInt .i64 d57 fun x59 => uncons r58 fun d60 r61 => dInt .i64 d60 fun x62 => uncons r61 fun d63 r64 => dInt .i64 d63 fun x65 => uncons r64 fun d66 r67 => dStr d66 fun x68 => uncons r67 fun d69 r70 => dInt .i64 d69 fun x71 => uncons r70 fun d72 r73 => dSl d72 fun x74 => uncons r73 fun d75 r76 => dSl d75 fun x77 => atEnd r76 (laws_toWork.f k x59 x62 x65 x68 x71 x74 x77 (fun y78 y79 y80 y81 y82 y83 y84 => guardP ((0 : Int) ≤ v0_1 ∧ v0_1 < (v0_2.length : Int)) (guardP (Int.toNat v0_1 < v0_2.length) (L0 (IntKind.wrap .i64 (v0_1 + 1), v0_2.modify (Int.toNat v0_1) fun c => splice c 0 [.d (.int .i64 y78), .d (.int .i64 y79), .d (.int .i64 y80), .d (.str y81), .d (.int .i64 y82), .own y83, .own y84])))))) else (K v0_2)
noncomputable def laws_toWorkS.g {β : Type} (k : Nat) (a0 : List (List D)) (K : (List (List C)) → Option β) : Option β :=
  guardP ((0 : Int) ≤ (a0.length : Int) ∧ (a0.length : Int) ≤ (most : Int) ∧ (a0.length : Int) ≤ (a0.length : Int) ∧ (a0.length : Int) ≤ (a0.length : Int)) (iter (laws_toWorkS.l0 k a0 K) k (0, List.replicate (Int.toNat (a0.length : Int)) ([.d (.int .i64 0), .d (.int .i64 0), .d (.int .i64 0), .d (.str (⟨#[]⟩ : ByteArray)), .d (.int .i64 0), .own ([] : List (List C)), .own ([] : List (List C))] : List C)))
noncomputable def laws_toWorkS.t (k : Nat) (a0 : List (List D)) : Option ((List (List C))) := laws_toWorkS.g k a0 (fun z0 => some z0)
noncomputable def laws_toWorkS.f {β : Type} (k : Nat) (a0 : List (List D)) (K : (List (List C)) → Option β) : Option β :=
  match laws_toWorkS.t k a0 with
  | some z0 => K z0
  | none => none
noncomputable def laws_toWorkS.as (a0 : List (List D)) : List A := [.d (.sl a0)]
noncomputable def laws_toWorkS.kt {β : Type} (a0 : List (List D)) (K0 : List (List C) → List Out → Option β) : (List (List C)) → Option β := fun z0 => K0 [[.own z0]] []
noncomputable def laws_toWorkS.e (k : Nat) : Entry := { modes := [(.imm, 0)], rts := [59], al := false, run := fun {β} l K => match l with | [.d (.sl a0)] => laws_toWorkS.f k a0 (laws_toWorkS.kt a0 K) | _ => none }
noncomputable def laws_toWorkS.E (k : Nat) : Env := fun g => bif g == 102 then some (laws_toWork.e k) else none
noncomputable def laws_toWorkS.h : Hints := ⟨fun n => bif n == 3 then ⟨[(0, .asis), (3, .asis), (4, .asis)], []⟩ else ⟨[], []⟩, fun _ => none, false, []⟩
noncomputable def laws_toWorkS.s0 (v0_0 : List (List D)) (v : Int × (List (List C))) : St :=
  match v with
  | (v0_1, v0_2) => ⟨[.d false (.sl v0_0), .any, .any, .row 0, .d true (.int .i64 v0_1), .any, .any, .any, .any, .any, .any, .any, .any, .any, .any, .any, .any, .any, .any, .any, .any, .any, .any], [.row none true 59 v0_2]⟩
noncomputable def laws_toWorkS.b0 {β : Type} (k : Nat) : St → (Ex → St → Option β) → Option β := fun s K => den Try.prog (laws_toWorkS.E k) laws_toWorkS.h.H laws_toWorkS.h.J k (codeAt [1, 1, 0, 1, 0, 0] (codeOf Try.f41)) s K
noncomputable def laws_toWorkS.c0 {β : Type} (k : Nat) (a0 : List (List D)) (K0 : List (List C) → List Out → Option β) : Ex → St → Option β := contAt Try.prog (laws_toWorkS.E k) laws_toWorkS.h k [1, 1, 0, 1, 0] (codeOf Try.f41) (finDen Try.prog Try.f41 laws_toWorkS.h (laws_toWorkS.as a0) K0)
theorem laws_toWorkS.l0_eq {β : Type} (k : Nat) (a0 : List (List D)) (K0 : List (List C) → List Out → Option β) (v0_0 : List (List D)) : ∀ (kk : Nat) (v : Int × (List (List C))), loopDen (laws_toWorkS.b0 k) (laws_toWorkS.h.H 3) kk (laws_toWorkS.s0 v0_0 v) (laws_toWorkS.c0 k a0 K0) = iter (laws_toWorkS.l0 k v0_0 (laws_toWorkS.kt a0 K0)) kk v :=
  loop_eq (laws_toWorkS.s0 v0_0) _ (fun L0 v => by obtain ⟨v0_1, v0_2⟩ := v; kernel_rfl)
noncomputable def laws_toWorkS.m {β : Type} (k : Nat) (a0 : List (List D)) (K0 : List (List C) → List Out → Option β) (F : ((List (List D)) → (Int × (List (List C))) → Option β)) : Option β :=
  guardP ((0 : Int) ≤ (a0.length : Int) ∧ (a0.length : Int) ≤ (most : Int) ∧ (a0.length : Int) ≤ (a0.length : Int) ∧ (a0.length : Int) ≤ (a0.length : Int)) ((F) a0 (0, List.replicate (Int.toNat (a0.length : Int)) ([.d (.int .i64 0), .d (.int .i64 0), .d (.int .i64 0), .d (.str (⟨#[]⟩ : ByteArray)), .d (.int .i64 0), .own ([] : List (List C)), .own ([] : List (List C))] : List C)))
theorem laws_toWorkS.f_eq {β : Type} (k : Nat) (a0 : List (List D)) (K0 : List (List C) → List Out → Option β) : funDen Try.prog (laws_toWorkS.E k) laws_toWorkS.h k Try.f41 (laws_toWorkS.as a0) K0 = laws_toWorkS.g k a0 (laws_toWorkS.kt a0 K0) := Eq.trans (b := (laws_toWorkS.m k a0 K0) (fun (v0_0 : List (List D)) (v : Int × (List (List C))) => loopDen (laws_toWorkS.b0 k) (laws_toWorkS.h.H 3) k (laws_toWorkS.s0 v0_0 v) (laws_toWorkS.c0 k a0 K0))) (by kernel_rfl) (Eq.trans (congrArg (laws_toWorkS.m k a0 K0) (funext fun v0_0 => funext fun v => laws_toWorkS.l0_eq k a0 K0 v0_0 k v)) (by kernel_rfl))
noncomputable def laws_toWorkS.dec (rs : List (List C)) (os : List Out) : Option ((List (List C))) := uncons rs fun c1 r2 => uncons c1 fun x3 l4 => cOwn x3 fun w0 => atEnd l4 <| atEnd r2 <| atEnd os (some w0)
theorem laws_toWorkS.kt_dec (a0 : List (List D)) : laws_toWorkS.kt a0 laws_toWorkS.dec = (fun z0 => some z0) := by kernel_rfl
theorem laws_toWorkS.inj (a0 : List (List D)) {rs : List (List C)} {os : List Out} {z0 : List (List C)} (h : laws_toWorkS.dec rs os = some z0) (ho : OutShape (laws_toWorkS.as a0) os) : rs = [[.own z0]] ∧ os = [] := by
  unfold laws_toWorkS.dec at h
  obtain ⟨c1, r2, rfl, h1⟩ := uncons_some h
  obtain ⟨x3, l4, rfl, h2⟩ := uncons_some h1
  obtain ⟨w0, rfl, h3⟩ := cOwn_some h2
  obtain ⟨rfl, h4⟩ := atEnd_some h3
  obtain ⟨rfl, h5⟩ := atEnd_some h4
  obtain ⟨rfl, h6⟩ := atEnd_some h5
  obtain rfl := Option.some.inj h6
  exact ⟨rfl, rfl⟩
theorem laws_toWorkS.ok (k : Nat) : EntryOK Try.prog 41 (laws_toWorkS.e k) := by
  refine entry_of mix tyok (fn := Try.f41) (c := codeOf Try.f41) Try.func41 (by kernel_rfl) (h := laws_toWorkS.h) (k := k) (E := laws_toWorkS.E k) (env_cons (laws_toWork.ok k) env_nil) (by kernel_rfl) (by kernel_rfl) rfl (enter_of Try.func41 (by kernel_rfl)) ?_
  intro β l K r hr
  simp only [laws_toWorkS.e] at hr
  split at hr
  case h_2 => cases hr
  unfold laws_toWorkS.f at hr
  split at hr
  case h_2 => cases hr
  rename_i hz
  exact ⟨_, _, hr, _, laws_toWorkS.dec, _, (laws_toWorkS.f_eq k _ laws_toWorkS.dec).trans (by rw [laws_toWorkS.kt_dec]; exact hz), fun rs os h ho => laws_toWorkS.inj _ h ho⟩
/-! ### loop.example/g00119/laws.toRun: function 164 -/
noncomputable def laws_toRun.g {β : Type} (k : Nat) (a0_0 : Int) (a0_1 : Int) (K : Int → Int → Option β) : Option β :=
  K a0_0 a0_1
noncomputable def laws_toRun.t (k : Nat) (a0_0 : Int) (a0_1 : Int) : Option (Int × Int) := laws_toRun.g k a0_0 a0_1 (fun z0 z1 => some (z0, z1))
noncomputable def laws_toRun.f {β : Type} (k : Nat) (a0_0 : Int) (a0_1 : Int) (K : Int → Int → Option β) : Option β :=
  match laws_toRun.t k a0_0 a0_1 with
  | some (z0, z1) => K z0 z1
  | none => none
noncomputable def laws_toRun.as (a0_0 : Int) (a0_1 : Int) : List A := [.agg [.int .i64 a0_0, .int .i64 a0_1]]
noncomputable def laws_toRun.kt {β : Type} (a0_0 : Int) (a0_1 : Int) (K0 : List (List C) → List Out → Option β) : Int → Int → Option β := fun z0 z1 => K0 [[.d (.int .i64 z0), .d (.int .i64 z1)]] []
noncomputable def laws_toRun.e (k : Nat) : Entry := { modes := [(.imm, 0)], rts := [164], al := false, run := fun {β} l K => match l with | [.agg [.int .i64 a0_0, .int .i64 a0_1]] => laws_toRun.f k a0_0 a0_1 (laws_toRun.kt a0_0 a0_1 K) | _ => none }
noncomputable def laws_toRun.E (k : Nat) : Env := fun g => none
noncomputable def laws_toRun.h : Hints := ⟨fun n => ⟨[], []⟩, fun _ => none, false, []⟩
theorem laws_toRun.f_eq {β : Type} (k : Nat) (a0_0 : Int) (a0_1 : Int) (K0 : List (List C) → List Out → Option β) : funDen Try.prog (laws_toRun.E k) laws_toRun.h k Try.f164 (laws_toRun.as a0_0 a0_1) K0 = laws_toRun.g k a0_0 a0_1 (laws_toRun.kt a0_0 a0_1 K0) := by kernel_rfl
noncomputable def laws_toRun.dec (rs : List (List C)) (os : List Out) : Option (Int × Int) := uncons rs fun c1 r2 => uncons c1 fun x3 l4 => cD x3 fun d5 => dInt .i64 d5 fun w0 => uncons l4 fun x6 l7 => cD x6 fun d8 => dInt .i64 d8 fun w1 => atEnd l7 <| atEnd r2 <| atEnd os (some (w0, w1))
theorem laws_toRun.kt_dec (a0_0 : Int) (a0_1 : Int) : laws_toRun.kt a0_0 a0_1 laws_toRun.dec = (fun z0 z1 => some (z0, z1)) := by kernel_rfl
theorem laws_toRun.inj (a0_0 : Int) (a0_1 : Int) {rs : List (List C)} {os : List Out} {z0 : Int} {z1 : Int} (h : laws_toRun.dec rs os = some (z0, z1)) (ho : OutShape (laws_toRun.as a0_0 a0_1) os) : rs = [[.d (.int .i64 z0), .d (.int .i64 z1)]] ∧ os = [] := by
  unfold laws_toRun.dec at h
  obtain ⟨c1, r2, rfl, h1⟩ := uncons_some h
  obtain ⟨x3, l4, rfl, h2⟩ := uncons_some h1
  obtain ⟨d5, rfl, h3⟩ := cD_some h2
  obtain ⟨w0, rfl, h4⟩ := dInt_some h3
  obtain ⟨x6, l7, rfl, h5⟩ := uncons_some h4
  obtain ⟨d8, rfl, h6⟩ := cD_some h5
  obtain ⟨w1, rfl, h7⟩ := dInt_some h6
  obtain ⟨rfl, h8⟩ := atEnd_some h7
  obtain ⟨rfl, h9⟩ := atEnd_some h8
  obtain ⟨rfl, h10⟩ := atEnd_some h9
  simp only [Option.some.injEq, Prod.mk.injEq] at h10
  obtain ⟨rfl, rfl⟩ := h10
  exact ⟨rfl, rfl⟩
theorem laws_toRun.ok (k : Nat) : EntryOK Try.prog 164 (laws_toRun.e k) := by
  refine entry_of mix tyok (fn := Try.f164) (c := codeOf Try.f164) Try.func164 (by kernel_rfl) (h := laws_toRun.h) (k := k) (E := laws_toRun.E k) env_nil (by kernel_rfl) (by kernel_rfl) rfl (enter_of Try.func164 (by kernel_rfl)) ?_
  intro β l K r hr
  simp only [laws_toRun.e] at hr
  split at hr
  case h_2 => cases hr
  unfold laws_toRun.f at hr
  split at hr
  case h_2 => cases hr
  rename_i hz
  exact ⟨_, _, hr, _, laws_toRun.dec, _, (laws_toRun.f_eq k _ _ laws_toRun.dec).trans (by rw [laws_toRun.kt_dec]; exact hz), fun rs os h ho => laws_toRun.inj _ _ h ho⟩
/-! ### loop.example/g00119/laws.toRunS: function 107 -/
noncomputable def laws_toRunS.l0 {β : Type} (k : Nat) (v0_0 : List (List D)) (K : (List (List C)) → Option β) (L0 : (Int × (List (List C))) → Option β) (v : Int × (List (List C))) : Option β :=
  match v with
  | (v0_1, v0_2) => bif (decide ((v0_1 : Int) < (v0_0.length : Int))) then (atRow v0_0 v0_1 fun c10 => uncons c10 fun d11 r12 => dInt .i64 d11 fun x13 => uncons r12 fun d14 r15 => dInt .i64 d14 fun x16 => atEnd r15 (laws_toRun.f k x13 x16 (fun y17 y18 => guardP ((0 : Int) ≤ v0_1 ∧ v0_1 < (v0_2.length : Int)) (guardP (Int.toNat v0_1 < v0_2.length) (L0 (IntKind.wrap .i64 (v0_1 + 1), v0_2.modify (Int.toNat v0_1) fun c => splice c 0 [.d (.int .i64 y17), .d (.int .i64 y18)])))))) else (K v0_2)
noncomputable def laws_toRunS.g {β : Type} (k : Nat) (a0 : List (List D)) (K : (List (List C)) → Option β) : Option β :=
  guardP ((0 : Int) ≤ (a0.length : Int) ∧ (a0.length : Int) ≤ (most : Int) ∧ (a0.length : Int) ≤ (a0.length : Int) ∧ (a0.length : Int) ≤ (a0.length : Int)) (iter (laws_toRunS.l0 k a0 K) k (0, List.replicate (Int.toNat (a0.length : Int)) ([.d (.int .i64 0), .d (.int .i64 0)] : List C)))
noncomputable def laws_toRunS.t (k : Nat) (a0 : List (List D)) : Option ((List (List C))) := laws_toRunS.g k a0 (fun z0 => some z0)
noncomputable def laws_toRunS.f {β : Type} (k : Nat) (a0 : List (List D)) (K : (List (List C)) → Option β) : Option β :=
  match laws_toRunS.t k a0 with
  | some z0 => K z0
  | none => none
noncomputable def laws_toRunS.as (a0 : List (List D)) : List A := [.d (.sl a0)]
noncomputable def laws_toRunS.kt {β : Type} (a0 : List (List D)) (K0 : List (List C) → List Out → Option β) : (List (List C)) → Option β := fun z0 => K0 [[.own z0]] []
noncomputable def laws_toRunS.e (k : Nat) : Entry := { modes := [(.imm, 0)], rts := [60], al := false, run := fun {β} l K => match l with | [.d (.sl a0)] => laws_toRunS.f k a0 (laws_toRunS.kt a0 K) | _ => none }
noncomputable def laws_toRunS.E (k : Nat) : Env := fun g => bif g == 164 then some (laws_toRun.e k) else none
noncomputable def laws_toRunS.h : Hints := ⟨fun n => bif n == 3 then ⟨[(0, .asis), (3, .asis), (4, .asis)], []⟩ else ⟨[], []⟩, fun _ => none, false, []⟩
noncomputable def laws_toRunS.s0 (v0_0 : List (List D)) (v : Int × (List (List C))) : St :=
  match v with
  | (v0_1, v0_2) => ⟨[.d false (.sl v0_0), .any, .any, .row 0, .d true (.int .i64 v0_1), .any, .any, .any, .any, .any, .any, .any, .any, .any, .any, .any, .any, .any, .any, .any, .any, .any, .any], [.row none true 60 v0_2]⟩
noncomputable def laws_toRunS.b0 {β : Type} (k : Nat) : St → (Ex → St → Option β) → Option β := fun s K => den Try.prog (laws_toRunS.E k) laws_toRunS.h.H laws_toRunS.h.J k (codeAt [1, 1, 0, 1, 0, 0] (codeOf Try.f107)) s K
noncomputable def laws_toRunS.c0 {β : Type} (k : Nat) (a0 : List (List D)) (K0 : List (List C) → List Out → Option β) : Ex → St → Option β := contAt Try.prog (laws_toRunS.E k) laws_toRunS.h k [1, 1, 0, 1, 0] (codeOf Try.f107) (finDen Try.prog Try.f107 laws_toRunS.h (laws_toRunS.as a0) K0)
theorem laws_toRunS.l0_eq {β : Type} (k : Nat) (a0 : List (List D)) (K0 : List (List C) → List Out → Option β) (v0_0 : List (List D)) : ∀ (kk : Nat) (v : Int × (List (List C))), loopDen (laws_toRunS.b0 k) (laws_toRunS.h.H 3) kk (laws_toRunS.s0 v0_0 v) (laws_toRunS.c0 k a0 K0) = iter (laws_toRunS.l0 k v0_0 (laws_toRunS.kt a0 K0)) kk v :=
  loop_eq (laws_toRunS.s0 v0_0) _ (fun L0 v => by obtain ⟨v0_1, v0_2⟩ := v; kernel_rfl)
noncomputable def laws_toRunS.m {β : Type} (k : Nat) (a0 : List (List D)) (K0 : List (List C) → List Out → Option β) (F : ((List (List D)) → (Int × (List (List C))) → Option β)) : Option β :=
  guardP ((0 : Int) ≤ (a0.length : Int) ∧ (a0.length : Int) ≤ (most : Int) ∧ (a0.length : Int) ≤ (a0.length : Int) ∧ (a0.length : Int) ≤ (a0.length : Int)) ((F) a0 (0, List.replicate (Int.toNat (a0.length : Int)) ([.d (.int .i64 0), .d (.int .i64 0)] : List C)))
theorem laws_toRunS.f_eq {β : Type} (k : Nat) (a0 : List (List D)) (K0 : List (List C) → List Out → Option β) : funDen Try.prog (laws_toRunS.E k) laws_toRunS.h k Try.f107 (laws_toRunS.as a0) K0 = laws_toRunS.g k a0 (laws_toRunS.kt a0 K0) := Eq.trans (b := (laws_toRunS.m k a0 K0) (fun (v0_0 : List (List D)) (v : Int × (List (List C))) => loopDen (laws_toRunS.b0 k) (laws_toRunS.h.H 3) k (laws_toRunS.s0 v0_0 v) (laws_toRunS.c0 k a0 K0))) (by kernel_rfl) (Eq.trans (congrArg (laws_toRunS.m k a0 K0) (funext fun v0_0 => funext fun v => laws_toRunS.l0_eq k a0 K0 v0_0 k v)) (by kernel_rfl))
noncomputable def laws_toRunS.dec (rs : List (List C)) (os : List Out) : Option ((List (List C))) := uncons rs fun c1 r2 => uncons c1 fun x3 l4 => cOwn x3 fun w0 => atEnd l4 <| atEnd r2 <| atEnd os (some w0)
theorem laws_toRunS.kt_dec (a0 : List (List D)) : laws_toRunS.kt a0 laws_toRunS.dec = (fun z0 => some z0) := by kernel_rfl
theorem laws_toRunS.inj (a0 : List (List D)) {rs : List (List C)} {os : List Out} {z0 : List (List C)} (h : laws_toRunS.dec rs os = some z0) (ho : OutShape (laws_toRunS.as a0) os) : rs = [[.own z0]] ∧ os = [] := by
  unfold laws_toRunS.dec at h
  obtain ⟨c1, r2, rfl, h1⟩ := uncons_some h
  obtain ⟨x3, l4, rfl, h2⟩ := uncons_some h1
  obtain ⟨w0, rfl, h3⟩ := cOwn_some h2
  obtain ⟨rfl, h4⟩ := atEnd_some h3
  obtain ⟨rfl, h5⟩ := atEnd_some h4
  obtain ⟨rfl, h6⟩ := atEnd_some h5
  obtain rfl := Option.some.inj h6
  exact ⟨rfl, rfl⟩
theorem laws_toRunS.ok (k : Nat) : EntryOK Try.prog 107 (laws_toRunS.e k) := by
  refine entry_of mix tyok (fn := Try.f107) (c := codeOf Try.f107) Try.func107 (by kernel_rfl) (h := laws_toRunS.h) (k := k) (E := laws_toRunS.E k) (env_cons (laws_toRun.ok k) env_nil) (by kernel_rfl) (by kernel_rfl) rfl (enter_of Try.func107 (by kernel_rfl)) ?_
  intro β l K r hr
  simp only [laws_toRunS.e] at hr
  split at hr
  case h_2 => cases hr
  unfold laws_toRunS.f at hr
  split at hr
  case h_2 => cases hr
  rename_i hz
  exact ⟨_, _, hr, _, laws_toRunS.dec, _, (laws_toRunS.f_eq k _ laws_toRunS.dec).trans (by rw [laws_toRunS.kt_dec]; exact hz), fun rs os h ho => laws_toRunS.inj _ h ho⟩
/-! ### loop.example/g00119/laws.toIsle: function 51 -/
noncomputable def laws_toIsle.g {β : Type} (k : Nat) (a0_0 : ByteArray) (a0_1 : Int) (a0_2 : Int) (a0_3 : List (List D)) (a0_4 : List (List D)) (K : ByteArray → Int → Int → (List (List C)) → (List (List C)) → Option β) : Option β :=
  laws_toWorkS.f k a0_3 (fun y85 => laws_toRunS.f k a0_4 (fun y86 => K a0_0 a0_1 a0_2 y85 y86))
noncomputable def laws_toIsle.t (k : Nat) (a0_0 : ByteArray) (a0_1 : Int) (a0_2 : Int) (a0_3 : List (List D)) (a0_4 : List (List D)) : Option (ByteArray × Int × Int × (List (List C)) × (List (List C))) := laws_toIsle.g k a0_0 a0_1 a0_2 a0_3 a0_4 (fun z0 z1 z2 z3 z4 => some (z0, z1, z2, z3, z4))
noncomputable def laws_toIsle.f {β : Type} (k : Nat) (a0_0 : ByteArray) (a0_1 : Int) (a0_2 : Int) (a0_3 : List (List D)) (a0_4 : List (List D)) (K : ByteArray → Int → Int → (List (List C)) → (List (List C)) → Option β) : Option β :=
  match laws_toIsle.t k a0_0 a0_1 a0_2 a0_3 a0_4 with
  | some (z0, z1, z2, z3, z4) => K z0 z1 z2 z3 z4
  | none => none
noncomputable def laws_toIsle.as (a0_0 : ByteArray) (a0_1 : Int) (a0_2 : Int) (a0_3 : List (List D)) (a0_4 : List (List D)) : List A := [.agg [.str a0_0, .int .i64 a0_1, .int .i64 a0_2, .sl a0_3, .sl a0_4]]
noncomputable def laws_toIsle.kt {β : Type} (a0_0 : ByteArray) (a0_1 : Int) (a0_2 : Int) (a0_3 : List (List D)) (a0_4 : List (List D)) (K0 : List (List C) → List Out → Option β) : ByteArray → Int → Int → (List (List C)) → (List (List C)) → Option β := fun z0 z1 z2 z3 z4 => K0 [[.d (.str z0), .d (.int .i64 z1), .d (.int .i64 z2), .own z3, .own z4]] []
noncomputable def laws_toIsle.e (k : Nat) : Entry := { modes := [(.imm, 0)], rts := [62], al := false, run := fun {β} l K => match l with | [.agg [.str a0_0, .int .i64 a0_1, .int .i64 a0_2, .sl a0_3, .sl a0_4]] => laws_toIsle.f k a0_0 a0_1 a0_2 a0_3 a0_4 (laws_toIsle.kt a0_0 a0_1 a0_2 a0_3 a0_4 K) | _ => none }
noncomputable def laws_toIsle.E (k : Nat) : Env := fun g => bif g == 41 then some (laws_toWorkS.e k) else bif g == 107 then some (laws_toRunS.e k) else none
noncomputable def laws_toIsle.h : Hints := ⟨fun n => ⟨[], []⟩, fun _ => none, false, []⟩
theorem laws_toIsle.f_eq {β : Type} (k : Nat) (a0_0 : ByteArray) (a0_1 : Int) (a0_2 : Int) (a0_3 : List (List D)) (a0_4 : List (List D)) (K0 : List (List C) → List Out → Option β) : funDen Try.prog (laws_toIsle.E k) laws_toIsle.h k Try.f51 (laws_toIsle.as a0_0 a0_1 a0_2 a0_3 a0_4) K0 = laws_toIsle.g k a0_0 a0_1 a0_2 a0_3 a0_4 (laws_toIsle.kt a0_0 a0_1 a0_2 a0_3 a0_4 K0) := by kernel_rfl
noncomputable def laws_toIsle.dec (rs : List (List C)) (os : List Out) : Option (ByteArray × Int × Int × (List (List C)) × (List (List C))) := uncons rs fun c1 r2 => uncons c1 fun x3 l4 => cD x3 fun d5 => dStr d5 fun w0 => uncons l4 fun x6 l7 => cD x6 fun d8 => dInt .i64 d8 fun w1 => uncons l7 fun x9 l10 => cD x9 fun d11 => dInt .i64 d11 fun w2 => uncons l10 fun x12 l13 => cOwn x12 fun w3 => uncons l13 fun x14 l15 => cOwn x14 fun w4 => atEnd l15 <| atEnd r2 <| atEnd os (some (w0, w1, w2, w3, w4))
theorem laws_toIsle.kt_dec (a0_0 : ByteArray) (a0_1 : Int) (a0_2 : Int) (a0_3 : List (List D)) (a0_4 : List (List D)) : laws_toIsle.kt a0_0 a0_1 a0_2 a0_3 a0_4 laws_toIsle.dec = (fun z0 z1 z2 z3 z4 => some (z0, z1, z2, z3, z4)) := by kernel_rfl
theorem laws_toIsle.inj (a0_0 : ByteArray) (a0_1 : Int) (a0_2 : Int) (a0_3 : List (List D)) (a0_4 : List (List D)) {rs : List (List C)} {os : List Out} {z0 : ByteArray} {z1 : Int} {z2 : Int} {z3 : List (List C)} {z4 : List (List C)} (h : laws_toIsle.dec rs os = some (z0, z1, z2, z3, z4)) (ho : OutShape (laws_toIsle.as a0_0 a0_1 a0_2 a0_3 a0_4) os) : rs = [[.d (.str z0), .d (.int .i64 z1), .d (.int .i64 z2), .own z3, .own z4]] ∧ os = [] := by
  unfold laws_toIsle.dec at h
  obtain ⟨c1, r2, rfl, h1⟩ := uncons_some h
  obtain ⟨x3, l4, rfl, h2⟩ := uncons_some h1
  obtain ⟨d5, rfl, h3⟩ := cD_some h2
  obtain ⟨w0, rfl, h4⟩ := dStr_some h3
  obtain ⟨x6, l7, rfl, h5⟩ := uncons_some h4
  obtain ⟨d8, rfl, h6⟩ := cD_some h5
  obtain ⟨w1, rfl, h7⟩ := dInt_some h6
  obtain ⟨x9, l10, rfl, h8⟩ := uncons_some h7
  obtain ⟨d11, rfl, h9⟩ := cD_some h8
  obtain ⟨w2, rfl, h10⟩ := dInt_some h9
  obtain ⟨x12, l13, rfl, h11⟩ := uncons_some h10
  obtain ⟨w3, rfl, h12⟩ := cOwn_some h11
  obtain ⟨x14, l15, rfl, h13⟩ := uncons_some h12
  obtain ⟨w4, rfl, h14⟩ := cOwn_some h13
  obtain ⟨rfl, h15⟩ := atEnd_some h14
  obtain ⟨rfl, h16⟩ := atEnd_some h15
  obtain ⟨rfl, h17⟩ := atEnd_some h16
  simp only [Option.some.injEq, Prod.mk.injEq] at h17
  obtain ⟨rfl, rfl, rfl, rfl, rfl⟩ := h17
  exact ⟨rfl, rfl⟩
theorem laws_toIsle.ok (k : Nat) : EntryOK Try.prog 51 (laws_toIsle.e k) := by
  refine entry_of mix tyok (fn := Try.f51) (c := codeOf Try.f51) Try.func51 (by kernel_rfl) (h := laws_toIsle.h) (k := k) (E := laws_toIsle.E k) (env_cons (laws_toWorkS.ok k) (env_cons (laws_toRunS.ok k) env_nil)) (by kernel_rfl) (by kernel_rfl) rfl (enter_of Try.func51 (by kernel_rfl)) ?_
  intro β l K r hr
  simp only [laws_toIsle.e] at hr
  split at hr
  case h_2 => cases hr
  unfold laws_toIsle.f at hr
  split at hr
  case h_2 => cases hr
  rename_i hz
  exact ⟨_, _, hr, _, laws_toIsle.dec, _, (laws_toIsle.f_eq k _ _ _ _ _ laws_toIsle.dec).trans (by rw [laws_toIsle.kt_dec]; exact hz), fun rs os h ho => laws_toIsle.inj _ _ _ _ _ h ho⟩
/-! ### loop.example/g00119/spec.l1In: function 69 -/
noncomputable def spec_l1In.g {β : Type} (k : Nat) (a0 : Int) (a1 : Int) (a2 : Int) (K : Bool → Option β) : Option β :=
  bif (decide ((a0 : Int) ≥ a1)) then (K (decide ((a0 : Int) ≤ a2))) else (K false)
noncomputable def spec_l1In.t (k : Nat) (a0 : Int) (a1 : Int) (a2 : Int) : Option (Bool) := spec_l1In.g k a0 a1 a2 (fun z0 => some z0)
noncomputable def spec_l1In.f {β : Type} (k : Nat) (a0 : Int) (a1 : Int) (a2 : Int) (K : Bool → Option β) : Option β :=
  match spec_l1In.t k a0 a1 a2 with
  | some z0 => K z0
  | none => none
noncomputable def spec_l1In.as (a0 : Int) (a1 : Int) (a2 : Int) : List A := [.d (.int .i64 a0), .d (.int .i64 a1), .d (.int .i64 a2)]
noncomputable def spec_l1In.kt {β : Type} (a0 : Int) (a1 : Int) (a2 : Int) (K0 : List (List C) → List Out → Option β) : Bool → Option β := fun z0 => K0 [[.d (.bool z0)]] []
noncomputable def spec_l1In.e (k : Nat) : Entry := { modes := [(.imm, 0), (.imm, 0), (.imm, 0)], rts := [4], al := false, run := fun {β} l K => match l with | [.d (.int .i64 a0), .d (.int .i64 a1), .d (.int .i64 a2)] => spec_l1In.f k a0 a1 a2 (spec_l1In.kt a0 a1 a2 K) | _ => none }
noncomputable def spec_l1In.E (k : Nat) : Env := fun g => none
noncomputable def spec_l1In.h : Hints := ⟨fun n => ⟨[], []⟩, fun _ => none, false, []⟩
theorem spec_l1In.f_eq {β : Type} (k : Nat) (a0 : Int) (a1 : Int) (a2 : Int) (K0 : List (List C) → List Out → Option β) : funDen Try.prog (spec_l1In.E k) spec_l1In.h k Try.f69 (spec_l1In.as a0 a1 a2) K0 = spec_l1In.g k a0 a1 a2 (spec_l1In.kt a0 a1 a2 K0) := by kernel_rfl
noncomputable def spec_l1In.dec (rs : List (List C)) (os : List Out) : Option (Bool) := uncons rs fun c1 r2 => uncons c1 fun x3 l4 => cD x3 fun d5 => dBool d5 fun w0 => atEnd l4 <| atEnd r2 <| atEnd os (some w0)
theorem spec_l1In.kt_dec (a0 : Int) (a1 : Int) (a2 : Int) : spec_l1In.kt a0 a1 a2 spec_l1In.dec = (fun z0 => some z0) := by kernel_rfl
theorem spec_l1In.inj (a0 : Int) (a1 : Int) (a2 : Int) {rs : List (List C)} {os : List Out} {z0 : Bool} (h : spec_l1In.dec rs os = some z0) (ho : OutShape (spec_l1In.as a0 a1 a2) os) : rs = [[.d (.bool z0)]] ∧ os = [] := by
  unfold spec_l1In.dec at h
  obtain ⟨c1, r2, rfl, h1⟩ := uncons_some h
  obtain ⟨x3, l4, rfl, h2⟩ := uncons_some h1
  obtain ⟨d5, rfl, h3⟩ := cD_some h2
  obtain ⟨w0, rfl, h4⟩ := dBool_some h3
  obtain ⟨rfl, h5⟩ := atEnd_some h4
  obtain ⟨rfl, h6⟩ := atEnd_some h5
  obtain ⟨rfl, h7⟩ := atEnd_some h6
  obtain rfl := Option.some.inj h7
  exact ⟨rfl, rfl⟩
theorem spec_l1In.ok (k : Nat) : EntryOK Try.prog 69 (spec_l1In.e k) := by
  refine entry_of mix tyok (fn := Try.f69) (c := codeOf Try.f69) Try.func69 (by kernel_rfl) (h := spec_l1In.h) (k := k) (E := spec_l1In.E k) env_nil (by kernel_rfl) (by kernel_rfl) rfl (enter_of Try.func69 (by kernel_rfl)) ?_
  intro β l K r hr
  simp only [spec_l1In.e] at hr
  split at hr
  case h_2 => cases hr
  unfold spec_l1In.f at hr
  split at hr
  case h_2 => cases hr
  rename_i hz
  exact ⟨_, _, hr, _, spec_l1In.dec, _, (spec_l1In.f_eq k _ _ _ spec_l1In.dec).trans (by rw [spec_l1In.kt_dec]; exact hz), fun rs os h ho => spec_l1In.inj _ _ _ h ho⟩
/-! ### loop.example/g00119/spec.NameOk: function 66 -/
noncomputable def spec_NameOk.l0 {β : Type} (k : Nat) (v0_0 : ByteArray) (K : Bool → Option β) (L0 : Int → Option β) (v : Int) : Option β :=
  match v with
  | v0_1 => bif (decide ((v0_1 : Int) < (v0_0.size : Int))) then (atStr v0_0 v0_1 fun b9 => spec_l1In.f k (IntKind.wrap .i64 b9) 97 122 (fun y10 => bif (!y10) then (atStr v0_0 v0_1 fun b11 => spec_l1In.f k (IntKind.wrap .i64 b11) 48 57 (fun y12 => bif (!y12) then (atStr v0_0 v0_1 fun b13 => bif ((b13 : Int) != 45) then (K false) else (L0 (IntKind.wrap .i64 (v0_1 + 1)))) else (L0 (IntKind.wrap .i64 (v0_1 + 1))))) else (L0 (IntKind.wrap .i64 (v0_1 + 1))))) else (spec_l1In.f k (v0_0.size : Int) 1 20 (fun y14 => bif y14 then (atStr v0_0 0 fun b15 => bif ((b15 : Int) != 45) then (atStr v0_0 (IntKind.wrap .i64 ((v0_0.size : Int) - 1)) fun b16 => K ((b16 : Int) != 45)) else (K false)) else (K false)))
noncomputable def spec_NameOk.g {β : Type} (k : Nat) (a0 : ByteArray) (K : Bool → Option β) : Option β :=
  iter (spec_NameOk.l0 k a0 K) k (0)
noncomputable def spec_NameOk.t (k : Nat) (a0 : ByteArray) : Option (Bool) := spec_NameOk.g k a0 (fun z0 => some z0)
noncomputable def spec_NameOk.f {β : Type} (k : Nat) (a0 : ByteArray) (K : Bool → Option β) : Option β :=
  match spec_NameOk.t k a0 with
  | some z0 => K z0
  | none => none
noncomputable def spec_NameOk.as (a0 : ByteArray) : List A := [.d (.str a0)]
noncomputable def spec_NameOk.kt {β : Type} (a0 : ByteArray) (K0 : List (List C) → List Out → Option β) : Bool → Option β := fun z0 => K0 [[.d (.bool z0)]] []
noncomputable def spec_NameOk.e (k : Nat) : Entry := { modes := [(.imm, 0)], rts := [4], al := false, run := fun {β} l K => match l with | [.d (.str a0)] => spec_NameOk.f k a0 (spec_NameOk.kt a0 K) | _ => none }
noncomputable def spec_NameOk.E (k : Nat) : Env := fun g => bif g == 69 then some (spec_l1In.e k) else none
noncomputable def spec_NameOk.h : Hints := ⟨fun n => bif n == 2 then ⟨[(0, .asis), (3, .asis)], []⟩ else ⟨[], []⟩, fun _ => none, false, []⟩
noncomputable def spec_NameOk.s0 (v0_0 : ByteArray) (v : Int) : St :=
  match v with
  | v0_1 => ⟨[.d false (.str v0_0), .any, .any, .d true (.int .i64 v0_1), .any, .any, .any, .any, .any, .any, .any, .any, .any, .any, .any, .any, .any, .any, .any, .any, .any, .any, .any, .any, .any, .any, .any, .any, .any, .any, .any, .any, .any, .any, .any, .any, .any, .any, .any, .any, .any, .any, .any, .any, .any, .any], []⟩
noncomputable def spec_NameOk.b0 {β : Type} (k : Nat) : St → (Ex → St → Option β) → Option β := fun s K => den Try.prog (spec_NameOk.E k) spec_NameOk.h.H spec_NameOk.h.J k (codeAt [1, 0, 1, 0, 0] (codeOf Try.f66)) s K
noncomputable def spec_NameOk.c0 {β : Type} (k : Nat) (a0 : ByteArray) (K0 : List (List C) → List Out → Option β) : Ex → St → Option β := contAt Try.prog (spec_NameOk.E k) spec_NameOk.h k [1, 0, 1, 0] (codeOf Try.f66) (finDen Try.prog Try.f66 spec_NameOk.h (spec_NameOk.as a0) K0)
theorem spec_NameOk.l0_eq {β : Type} (k : Nat) (a0 : ByteArray) (K0 : List (List C) → List Out → Option β) (v0_0 : ByteArray) : ∀ (kk : Nat) (v : Int), loopDen (spec_NameOk.b0 k) (spec_NameOk.h.H 2) kk (spec_NameOk.s0 v0_0 v) (spec_NameOk.c0 k a0 K0) = iter (spec_NameOk.l0 k v0_0 (spec_NameOk.kt a0 K0)) kk v :=
  loop_eq (spec_NameOk.s0 v0_0) _ (fun L0 v => by kernel_rfl)
noncomputable def spec_NameOk.m {β : Type} (k : Nat) (a0 : ByteArray) (K0 : List (List C) → List Out → Option β) (F : (ByteArray → Int → Option β)) : Option β :=
  (F) a0 (0)
theorem spec_NameOk.f_eq {β : Type} (k : Nat) (a0 : ByteArray) (K0 : List (List C) → List Out → Option β) : funDen Try.prog (spec_NameOk.E k) spec_NameOk.h k Try.f66 (spec_NameOk.as a0) K0 = spec_NameOk.g k a0 (spec_NameOk.kt a0 K0) := Eq.trans (b := (spec_NameOk.m k a0 K0) (fun (v0_0 : ByteArray) (v : Int) => loopDen (spec_NameOk.b0 k) (spec_NameOk.h.H 2) k (spec_NameOk.s0 v0_0 v) (spec_NameOk.c0 k a0 K0))) (by kernel_rfl) (Eq.trans (congrArg (spec_NameOk.m k a0 K0) (funext fun v0_0 => funext fun v => spec_NameOk.l0_eq k a0 K0 v0_0 k v)) (by kernel_rfl))
noncomputable def spec_NameOk.dec (rs : List (List C)) (os : List Out) : Option (Bool) := uncons rs fun c1 r2 => uncons c1 fun x3 l4 => cD x3 fun d5 => dBool d5 fun w0 => atEnd l4 <| atEnd r2 <| atEnd os (some w0)
theorem spec_NameOk.kt_dec (a0 : ByteArray) : spec_NameOk.kt a0 spec_NameOk.dec = (fun z0 => some z0) := by kernel_rfl
theorem spec_NameOk.inj (a0 : ByteArray) {rs : List (List C)} {os : List Out} {z0 : Bool} (h : spec_NameOk.dec rs os = some z0) (ho : OutShape (spec_NameOk.as a0) os) : rs = [[.d (.bool z0)]] ∧ os = [] := by
  unfold spec_NameOk.dec at h
  obtain ⟨c1, r2, rfl, h1⟩ := uncons_some h
  obtain ⟨x3, l4, rfl, h2⟩ := uncons_some h1
  obtain ⟨d5, rfl, h3⟩ := cD_some h2
  obtain ⟨w0, rfl, h4⟩ := dBool_some h3
  obtain ⟨rfl, h5⟩ := atEnd_some h4
  obtain ⟨rfl, h6⟩ := atEnd_some h5
  obtain ⟨rfl, h7⟩ := atEnd_some h6
  obtain rfl := Option.some.inj h7
  exact ⟨rfl, rfl⟩
theorem spec_NameOk.ok (k : Nat) : EntryOK Try.prog 66 (spec_NameOk.e k) := by
  refine entry_of mix tyok (fn := Try.f66) (c := codeOf Try.f66) Try.func66 (by kernel_rfl) (h := spec_NameOk.h) (k := k) (E := spec_NameOk.E k) (env_cons (spec_l1In.ok k) env_nil) (by kernel_rfl) (by kernel_rfl) rfl (enter_of Try.func66 (by kernel_rfl)) ?_
  intro β l K r hr
  simp only [spec_NameOk.e] at hr
  split at hr
  case h_2 => cases hr
  unfold spec_NameOk.f at hr
  split at hr
  case h_2 => cases hr
  rename_i hz
  exact ⟨_, _, hr, _, spec_NameOk.dec, _, (spec_NameOk.f_eq k _ spec_NameOk.dec).trans (by rw [spec_NameOk.kt_dec]; exact hz), fun rs os h ho => spec_NameOk.inj _ h ho⟩
/-! ### loop.example/g00119/spec.l4Text: function 190 -/
noncomputable def spec_l4Text.l0 {β : Type} (k : Nat) (v0_0 : ByteArray) (K : Bool → Option β) (L0 : Int → Option β) (v : Int) : Option β :=
  match v with
  | v0_1 => bif (decide ((v0_1 : Int) < (v0_0.size : Int))) then (atStr v0_0 v0_1 fun b3 => spec_l1In.f k (IntKind.wrap .i64 b3) 32 126 (fun y4 => bif (!y4) then (K false) else (L0 (IntKind.wrap .i64 (v0_1 + 1))))) else (K (decide (((v0_0.size : Int) : Int) ≤ 100)))
noncomputable def spec_l4Text.g {β : Type} (k : Nat) (a0 : ByteArray) (K : Bool → Option β) : Option β :=
  iter (spec_l4Text.l0 k a0 K) k (0)
noncomputable def spec_l4Text.t (k : Nat) (a0 : ByteArray) : Option (Bool) := spec_l4Text.g k a0 (fun z0 => some z0)
noncomputable def spec_l4Text.f {β : Type} (k : Nat) (a0 : ByteArray) (K : Bool → Option β) : Option β :=
  match spec_l4Text.t k a0 with
  | some z0 => K z0
  | none => none
noncomputable def spec_l4Text.as (a0 : ByteArray) : List A := [.d (.str a0)]
noncomputable def spec_l4Text.kt {β : Type} (a0 : ByteArray) (K0 : List (List C) → List Out → Option β) : Bool → Option β := fun z0 => K0 [[.d (.bool z0)]] []
noncomputable def spec_l4Text.e (k : Nat) : Entry := { modes := [(.imm, 0)], rts := [4], al := false, run := fun {β} l K => match l with | [.d (.str a0)] => spec_l4Text.f k a0 (spec_l4Text.kt a0 K) | _ => none }
noncomputable def spec_l4Text.E (k : Nat) : Env := fun g => bif g == 69 then some (spec_l1In.e k) else none
noncomputable def spec_l4Text.h : Hints := ⟨fun n => bif n == 2 then ⟨[(0, .asis), (3, .asis)], []⟩ else ⟨[], []⟩, fun _ => none, false, []⟩
noncomputable def spec_l4Text.s0 (v0_0 : ByteArray) (v : Int) : St :=
  match v with
  | v0_1 => ⟨[.d false (.str v0_0), .any, .any, .d true (.int .i64 v0_1), .any, .any, .any, .any, .any, .any, .any, .any, .any, .any, .any, .any, .any, .any, .any], []⟩
noncomputable def spec_l4Text.b0 {β : Type} (k : Nat) : St → (Ex → St → Option β) → Option β := fun s K => den Try.prog (spec_l4Text.E k) spec_l4Text.h.H spec_l4Text.h.J k (codeAt [1, 0, 1, 0, 0] (codeOf Try.f190)) s K
noncomputable def spec_l4Text.c0 {β : Type} (k : Nat) (a0 : ByteArray) (K0 : List (List C) → List Out → Option β) : Ex → St → Option β := contAt Try.prog (spec_l4Text.E k) spec_l4Text.h k [1, 0, 1, 0] (codeOf Try.f190) (finDen Try.prog Try.f190 spec_l4Text.h (spec_l4Text.as a0) K0)
theorem spec_l4Text.l0_eq {β : Type} (k : Nat) (a0 : ByteArray) (K0 : List (List C) → List Out → Option β) (v0_0 : ByteArray) : ∀ (kk : Nat) (v : Int), loopDen (spec_l4Text.b0 k) (spec_l4Text.h.H 2) kk (spec_l4Text.s0 v0_0 v) (spec_l4Text.c0 k a0 K0) = iter (spec_l4Text.l0 k v0_0 (spec_l4Text.kt a0 K0)) kk v :=
  loop_eq (spec_l4Text.s0 v0_0) _ (fun L0 v => by kernel_rfl)
noncomputable def spec_l4Text.m {β : Type} (k : Nat) (a0 : ByteArray) (K0 : List (List C) → List Out → Option β) (F : (ByteArray → Int → Option β)) : Option β :=
  (F) a0 (0)
theorem spec_l4Text.f_eq {β : Type} (k : Nat) (a0 : ByteArray) (K0 : List (List C) → List Out → Option β) : funDen Try.prog (spec_l4Text.E k) spec_l4Text.h k Try.f190 (spec_l4Text.as a0) K0 = spec_l4Text.g k a0 (spec_l4Text.kt a0 K0) := Eq.trans (b := (spec_l4Text.m k a0 K0) (fun (v0_0 : ByteArray) (v : Int) => loopDen (spec_l4Text.b0 k) (spec_l4Text.h.H 2) k (spec_l4Text.s0 v0_0 v) (spec_l4Text.c0 k a0 K0))) (by kernel_rfl) (Eq.trans (congrArg (spec_l4Text.m k a0 K0) (funext fun v0_0 => funext fun v => spec_l4Text.l0_eq k a0 K0 v0_0 k v)) (by kernel_rfl))
noncomputable def spec_l4Text.dec (rs : List (List C)) (os : List Out) : Option (Bool) := uncons rs fun c1 r2 => uncons c1 fun x3 l4 => cD x3 fun d5 => dBool d5 fun w0 => atEnd l4 <| atEnd r2 <| atEnd os (some w0)
theorem spec_l4Text.kt_dec (a0 : ByteArray) : spec_l4Text.kt a0 spec_l4Text.dec = (fun z0 => some z0) := by kernel_rfl
theorem spec_l4Text.inj (a0 : ByteArray) {rs : List (List C)} {os : List Out} {z0 : Bool} (h : spec_l4Text.dec rs os = some z0) (ho : OutShape (spec_l4Text.as a0) os) : rs = [[.d (.bool z0)]] ∧ os = [] := by
  unfold spec_l4Text.dec at h
  obtain ⟨c1, r2, rfl, h1⟩ := uncons_some h
  obtain ⟨x3, l4, rfl, h2⟩ := uncons_some h1
  obtain ⟨d5, rfl, h3⟩ := cD_some h2
  obtain ⟨w0, rfl, h4⟩ := dBool_some h3
  obtain ⟨rfl, h5⟩ := atEnd_some h4
  obtain ⟨rfl, h6⟩ := atEnd_some h5
  obtain ⟨rfl, h7⟩ := atEnd_some h6
  obtain rfl := Option.some.inj h7
  exact ⟨rfl, rfl⟩
theorem spec_l4Text.ok (k : Nat) : EntryOK Try.prog 190 (spec_l4Text.e k) := by
  refine entry_of mix tyok (fn := Try.f190) (c := codeOf Try.f190) Try.func190 (by kernel_rfl) (h := spec_l4Text.h) (k := k) (E := spec_l4Text.E k) (env_cons (spec_l1In.ok k) env_nil) (by kernel_rfl) (by kernel_rfl) rfl (enter_of Try.func190 (by kernel_rfl)) ?_
  intro β l K r hr
  simp only [spec_l4Text.e] at hr
  split at hr
  case h_2 => cases hr
  unfold spec_l4Text.f at hr
  split at hr
  case h_2 => cases hr
  rename_i hz
  exact ⟨_, _, hr, _, spec_l4Text.dec, _, (spec_l4Text.f_eq k _ spec_l4Text.dec).trans (by rw [spec_l4Text.kt_dec]; exact hz), fun rs os h ho => spec_l4Text.inj _ h ho⟩
/-! ### loop.example/g00119/spec.l4Keys: function 191 -/
noncomputable def spec_l4Keys.l0 {β : Type} (k : Nat) (v0_1 : Int) (v0_2 : ByteArray) (v0_3 : Int) (v0_4 : List (List D)) (v0_5 : List (List D)) (K : Bool → Option β) (L0 : Int → Option β) (v : Int) : Option β :=
  match v with
  | v0_0 => bif (decide ((v0_0 : Int) < (v0_4.length : Int))) then (atRow v0_4 v0_0 fun c14 => uncons c14 fun d15 r16 => dStr d15 fun x17 => atEnd r16 (spec_NameOk.f k x17 (fun y18 => bif (!y18) then (K false) else (bif (decide ((v0_0 : Int) > 0)) then (atRow v0_4 (IntKind.wrap .i64 (v0_0 - 1)) fun c19 => uncons c19 fun d20 r21 => dStr d20 fun x22 => atEnd r21 (atRow v0_4 v0_0 fun c23 => uncons c23 fun d24 r25 => dStr d24 fun x26 => atEnd r25 (bif (!(strLt x22 x26)) then (K false) else (L0 (IntKind.wrap .i64 (v0_0 + 1)))))) else (L0 (IntKind.wrap .i64 (v0_0 + 1))))))) else (K (((v0_4.length : Int) : Int) == (v0_5.length : Int)))
noncomputable def spec_l4Keys.g {β : Type} (k : Nat) (a0_0 : Int) (a0_1 : ByteArray) (a0_2 : Int) (a0_3 : List (List D)) (a0_4 : List (List D)) (K : Bool → Option β) : Option β :=
  iter (spec_l4Keys.l0 k a0_0 a0_1 a0_2 a0_3 a0_4 K) k (0)
noncomputable def spec_l4Keys.t (k : Nat) (a0_0 : Int) (a0_1 : ByteArray) (a0_2 : Int) (a0_3 : List (List D)) (a0_4 : List (List D)) : Option (Bool) := spec_l4Keys.g k a0_0 a0_1 a0_2 a0_3 a0_4 (fun z0 => some z0)
noncomputable def spec_l4Keys.f {β : Type} (k : Nat) (a0_0 : Int) (a0_1 : ByteArray) (a0_2 : Int) (a0_3 : List (List D)) (a0_4 : List (List D)) (K : Bool → Option β) : Option β :=
  match spec_l4Keys.t k a0_0 a0_1 a0_2 a0_3 a0_4 with
  | some z0 => K z0
  | none => none
noncomputable def spec_l4Keys.as (a0_0 : Int) (a0_1 : ByteArray) (a0_2 : Int) (a0_3 : List (List D)) (a0_4 : List (List D)) : List A := [.agg [.int .i64 a0_0, .str a0_1, .int .i64 a0_2, .sl a0_3, .sl a0_4]]
noncomputable def spec_l4Keys.kt {β : Type} (a0_0 : Int) (a0_1 : ByteArray) (a0_2 : Int) (a0_3 : List (List D)) (a0_4 : List (List D)) (K0 : List (List C) → List Out → Option β) : Bool → Option β := fun z0 => K0 [[.d (.bool z0)]] []
noncomputable def spec_l4Keys.e (k : Nat) : Entry := { modes := [(.imm, 0)], rts := [4], al := false, run := fun {β} l K => match l with | [.agg [.int .i64 a0_0, .str a0_1, .int .i64 a0_2, .sl a0_3, .sl a0_4]] => spec_l4Keys.f k a0_0 a0_1 a0_2 a0_3 a0_4 (spec_l4Keys.kt a0_0 a0_1 a0_2 a0_3 a0_4 K) | _ => none }
noncomputable def spec_l4Keys.E (k : Nat) : Env := fun g => bif g == 66 then some (spec_NameOk.e k) else none
noncomputable def spec_l4Keys.h : Hints := ⟨fun n => bif n == 2 then ⟨[(1, .asis), (3, .asis)], []⟩ else ⟨[], []⟩, fun _ => none, false, []⟩
noncomputable def spec_l4Keys.s0 (v0_1 : Int) (v0_2 : ByteArray) (v0_3 : Int) (v0_4 : List (List D)) (v0_5 : List (List D)) (v : Int) : St :=
  match v with
  | v0_0 => ⟨[.any, .bp 0 0, .any, .d true (.int .i64 v0_0), .any, .any, .any, .any, .any, .any, .any, .any, .any, .any, .any, .any, .any, .any, .any, .any, .any, .any, .any, .any, .any, .any, .any, .any, .any, .any, .any, .any, .any, .any, .any, .any, .any, .any, .any, .any, .any, .any, .any], [.box none 151 [.d false (.int .i64 v0_1), .d false (.str v0_2), .d false (.int .i64 v0_3), .d false (.sl v0_4), .d false (.sl v0_5)]]⟩
noncomputable def spec_l4Keys.b0 {β : Type} (k : Nat) : St → (Ex → St → Option β) → Option β := fun s K => den Try.prog (spec_l4Keys.E k) spec_l4Keys.h.H spec_l4Keys.h.J k (codeAt [1, 0, 1, 0, 0] (codeOf Try.f191)) s K
noncomputable def spec_l4Keys.c0 {β : Type} (k : Nat) (a0_0 : Int) (a0_1 : ByteArray) (a0_2 : Int) (a0_3 : List (List D)) (a0_4 : List (List D)) (K0 : List (List C) → List Out → Option β) : Ex → St → Option β := contAt Try.prog (spec_l4Keys.E k) spec_l4Keys.h k [1, 0, 1, 0] (codeOf Try.f191) (finDen Try.prog Try.f191 spec_l4Keys.h (spec_l4Keys.as a0_0 a0_1 a0_2 a0_3 a0_4) K0)
theorem spec_l4Keys.l0_eq {β : Type} (k : Nat) (a0_0 : Int) (a0_1 : ByteArray) (a0_2 : Int) (a0_3 : List (List D)) (a0_4 : List (List D)) (K0 : List (List C) → List Out → Option β) (v0_1 : Int) (v0_2 : ByteArray) (v0_3 : Int) (v0_4 : List (List D)) (v0_5 : List (List D)) : ∀ (kk : Nat) (v : Int), loopDen (spec_l4Keys.b0 k) (spec_l4Keys.h.H 2) kk (spec_l4Keys.s0 v0_1 v0_2 v0_3 v0_4 v0_5 v) (spec_l4Keys.c0 k a0_0 a0_1 a0_2 a0_3 a0_4 K0) = iter (spec_l4Keys.l0 k v0_1 v0_2 v0_3 v0_4 v0_5 (spec_l4Keys.kt a0_0 a0_1 a0_2 a0_3 a0_4 K0)) kk v :=
  loop_eq (spec_l4Keys.s0 v0_1 v0_2 v0_3 v0_4 v0_5) _ (fun L0 v => by kernel_rfl)
noncomputable def spec_l4Keys.m {β : Type} (k : Nat) (a0_0 : Int) (a0_1 : ByteArray) (a0_2 : Int) (a0_3 : List (List D)) (a0_4 : List (List D)) (K0 : List (List C) → List Out → Option β) (F : (Int → ByteArray → Int → (List (List D)) → (List (List D)) → Int → Option β)) : Option β :=
  (F) a0_0 a0_1 a0_2 a0_3 a0_4 (0)
theorem spec_l4Keys.f_eq {β : Type} (k : Nat) (a0_0 : Int) (a0_1 : ByteArray) (a0_2 : Int) (a0_3 : List (List D)) (a0_4 : List (List D)) (K0 : List (List C) → List Out → Option β) : funDen Try.prog (spec_l4Keys.E k) spec_l4Keys.h k Try.f191 (spec_l4Keys.as a0_0 a0_1 a0_2 a0_3 a0_4) K0 = spec_l4Keys.g k a0_0 a0_1 a0_2 a0_3 a0_4 (spec_l4Keys.kt a0_0 a0_1 a0_2 a0_3 a0_4 K0) := Eq.trans (b := (spec_l4Keys.m k a0_0 a0_1 a0_2 a0_3 a0_4 K0) (fun (v0_1 : Int) (v0_2 : ByteArray) (v0_3 : Int) (v0_4 : List (List D)) (v0_5 : List (List D)) (v : Int) => loopDen (spec_l4Keys.b0 k) (spec_l4Keys.h.H 2) k (spec_l4Keys.s0 v0_1 v0_2 v0_3 v0_4 v0_5 v) (spec_l4Keys.c0 k a0_0 a0_1 a0_2 a0_3 a0_4 K0))) (by kernel_rfl) (Eq.trans (congrArg (spec_l4Keys.m k a0_0 a0_1 a0_2 a0_3 a0_4 K0) (funext fun v0_1 => funext fun v0_2 => funext fun v0_3 => funext fun v0_4 => funext fun v0_5 => funext fun v => spec_l4Keys.l0_eq k a0_0 a0_1 a0_2 a0_3 a0_4 K0 v0_1 v0_2 v0_3 v0_4 v0_5 k v)) (by kernel_rfl))
noncomputable def spec_l4Keys.dec (rs : List (List C)) (os : List Out) : Option (Bool) := uncons rs fun c1 r2 => uncons c1 fun x3 l4 => cD x3 fun d5 => dBool d5 fun w0 => atEnd l4 <| atEnd r2 <| atEnd os (some w0)
theorem spec_l4Keys.kt_dec (a0_0 : Int) (a0_1 : ByteArray) (a0_2 : Int) (a0_3 : List (List D)) (a0_4 : List (List D)) : spec_l4Keys.kt a0_0 a0_1 a0_2 a0_3 a0_4 spec_l4Keys.dec = (fun z0 => some z0) := by kernel_rfl
theorem spec_l4Keys.inj (a0_0 : Int) (a0_1 : ByteArray) (a0_2 : Int) (a0_3 : List (List D)) (a0_4 : List (List D)) {rs : List (List C)} {os : List Out} {z0 : Bool} (h : spec_l4Keys.dec rs os = some z0) (ho : OutShape (spec_l4Keys.as a0_0 a0_1 a0_2 a0_3 a0_4) os) : rs = [[.d (.bool z0)]] ∧ os = [] := by
  unfold spec_l4Keys.dec at h
  obtain ⟨c1, r2, rfl, h1⟩ := uncons_some h
  obtain ⟨x3, l4, rfl, h2⟩ := uncons_some h1
  obtain ⟨d5, rfl, h3⟩ := cD_some h2
  obtain ⟨w0, rfl, h4⟩ := dBool_some h3
  obtain ⟨rfl, h5⟩ := atEnd_some h4
  obtain ⟨rfl, h6⟩ := atEnd_some h5
  obtain ⟨rfl, h7⟩ := atEnd_some h6
  obtain rfl := Option.some.inj h7
  exact ⟨rfl, rfl⟩
theorem spec_l4Keys.ok (k : Nat) : EntryOK Try.prog 191 (spec_l4Keys.e k) := by
  refine entry_of mix tyok (fn := Try.f191) (c := codeOf Try.f191) Try.func191 (by kernel_rfl) (h := spec_l4Keys.h) (k := k) (E := spec_l4Keys.E k) (env_cons (spec_NameOk.ok k) env_nil) (by kernel_rfl) (by kernel_rfl) rfl (enter_of Try.func191 (by kernel_rfl)) ?_
  intro β l K r hr
  simp only [spec_l4Keys.e] at hr
  split at hr
  case h_2 => cases hr
  unfold spec_l4Keys.f at hr
  split at hr
  case h_2 => cases hr
  rename_i hz
  exact ⟨_, _, hr, _, spec_l4Keys.dec, _, (spec_l4Keys.f_eq k _ _ _ _ _ spec_l4Keys.dec).trans (by rw [spec_l4Keys.kt_dec]; exact hz), fun rs os h ho => spec_l4Keys.inj _ _ _ _ _ h ho⟩
/-! ### loop.example/g00119/spec.l4Look: function 160 -/
noncomputable def spec_l4Look.l0 {β : Type} (k : Nat) (r_spec_l4Look : Int → ByteArray → Int → (List (List D)) → (List (List D)) → Int → (Int → Option β) → Option β) (v0_0 : Int) (v0_3 : Int) (v0_4 : ByteArray) (v0_5 : Int) (v0_6 : List (List D)) (v0_7 : List (List D)) (K : Int → Option β) (L0 : (Int × Int) → Option β) (v : Int × Int) : Option β :=
  match v with
  | (v0_1, v0_2) => bif (decide ((v0_2 : Int) < (v0_7.length : Int))) then (atRow v0_7 v0_2 fun c29 => uncons c29 fun d30 r31 => dInt .i64 d30 fun x32 => uncons r31 fun d33 r34 => dStr d33 fun x35 => uncons r34 fun d36 r37 => dInt .i64 d36 fun x38 => uncons r37 fun d39 r40 => dSl d39 fun x41 => uncons r40 fun d42 r43 => dSl d42 fun x44 => atEnd r43 (r_spec_l4Look x32 x35 x38 x41 x44 (IntKind.wrap .i64 (v0_0 - 1)) (fun y45 => bif ((y45 : Int) == 0) then (K 0) else (bif (decide (((IntKind.wrap .i64 (v0_1 + y45)) : Int) > 300)) then (K 0) else (L0 (IntKind.wrap .i64 (v0_1 + y45), IntKind.wrap .i64 (v0_2 + 1))))))) else (bif (((v0_6.length : Int) : Int) == 0) then (bif ((v0_3 : Int) == 1) then (bif (((v0_7.length : Int) : Int) == 0) then (bif ((v0_5 : Int) == 0) then (spec_l4Text.f k v0_4 (fun y46 => bif (!y46) then (K 0) else (K v0_1))) else (K 0)) else (K 0)) else (bif ((v0_3 : Int) == 2) then (bif (((v0_7.length : Int) : Int) == 0) then (bif (!(strEq v0_4 (⟨#[]⟩ : ByteArray))) then (K 0) else (K v0_1)) else (K 0)) else (bif ((v0_3 : Int) == 3) then (bif (((v0_7.length : Int) : Int) == 0) then (bif (strEq v0_4 (⟨#[]⟩ : ByteArray)) then (spec_l1In.f k v0_5 0 1 (fun y47 => bif (!y47) then (K 0) else (K v0_1))) else (K 0)) else (K 0)) else (bif ((v0_3 : Int) == 4) then (bif (((v0_6.length : Int) : Int) == 0) then (bif (strEq v0_4 (⟨#[]⟩ : ByteArray)) then (bif (!((v0_5 : Int) == 0)) then (K 0) else (K v0_1)) else (K 0)) else (K 0)) else (bif ((v0_3 : Int) == 5) then (spec_l4Keys.f k v0_3 v0_4 v0_5 v0_6 v0_7 (fun y48 => bif y48 then (bif (strEq v0_4 (⟨#[]⟩ : ByteArray)) then (bif (!((v0_5 : Int) == 0)) then (K 0) else (K v0_1)) else (K 0)) else (K 0))) else (K 0)))))) else (bif ((v0_3 : Int) == 1) then (K 0) else (bif ((v0_3 : Int) == 2) then (K 0) else (bif ((v0_3 : Int) == 3) then (K 0) else (bif ((v0_3 : Int) == 4) then (bif (((v0_6.length : Int) : Int) == 0) then (bif (strEq v0_4 (⟨#[]⟩ : ByteArray)) then (bif (!((v0_5 : Int) == 0)) then (K 0) else (K v0_1)) else (K 0)) else (K 0)) else (bif ((v0_3 : Int) == 5) then (spec_l4Keys.f k v0_3 v0_4 v0_5 v0_6 v0_7 (fun y49 => bif y49 then (bif (strEq v0_4 (⟨#[]⟩ : ByteArray)) then (bif (!((v0_5 : Int) == 0)) then (K 0) else (K v0_1)) else (K 0)) else (K 0))) else (K 0)))))))
noncomputable def spec_l4Look.body {β : Type} (k : Nat) (r_spec_l4Look : Int → ByteArray → Int → (List (List D)) → (List (List D)) → Int → (Int → Option β) → Option β) (a0_0 : Int) (a0_1 : ByteArray) (a0_2 : Int) (a0_3 : List (List D)) (a0_4 : List (List D)) (a1 : Int) (K : Int → Option β) : Option β :=
  bif ((a1 : Int) == 0) then (K 0) else (iter (spec_l4Look.l0 k r_spec_l4Look a1 a0_0 a0_1 a0_2 a0_3 a0_4 K) k (1, 0))
noncomputable def spec_l4Look.w {β : Type} (r : Int → ByteArray → Int → (List (List D)) → (List (List D)) → Int → Option (Int)) (a0_0 : Int) (a0_1 : ByteArray) (a0_2 : Int) (a0_3 : List (List D)) (a0_4 : List (List D)) (a1 : Int) (K : Int → Option β) : Option β :=
  match r a0_0 a0_1 a0_2 a0_3 a0_4 a1 with
  | some z0 => K z0
  | none => none
noncomputable def spec_l4Look.all : Nat → (Int → ByteArray → Int → (List (List D)) → (List (List D)) → Int → Option (Int))
  | 0 => (fun _ _ _ _ _ _ => none)
  | k + 1 => (fun r => (fun a0_0 a0_1 a0_2 a0_3 a0_4 a1 => spec_l4Look.body k (spec_l4Look.w r) a0_0 a0_1 a0_2 a0_3 a0_4 a1 (fun z0 => some z0))) (spec_l4Look.all k)
noncomputable def spec_l4Look.t (k : Nat) (a0_0 : Int) (a0_1 : ByteArray) (a0_2 : Int) (a0_3 : List (List D)) (a0_4 : List (List D)) (a1 : Int) : Option (Int) := (spec_l4Look.all k) a0_0 a0_1 a0_2 a0_3 a0_4 a1
noncomputable def spec_l4Look.f {β : Type} (k : Nat) (a0_0 : Int) (a0_1 : ByteArray) (a0_2 : Int) (a0_3 : List (List D)) (a0_4 : List (List D)) (a1 : Int) (K : Int → Option β) : Option β := spec_l4Look.w (spec_l4Look.t k) a0_0 a0_1 a0_2 a0_3 a0_4 a1 K
noncomputable def spec_l4Look.g {β : Type} (k : Nat) (a0_0 : Int) (a0_1 : ByteArray) (a0_2 : Int) (a0_3 : List (List D)) (a0_4 : List (List D)) (a1 : Int) (K : Int → Option β) : Option β := spec_l4Look.body k (spec_l4Look.f k) a0_0 a0_1 a0_2 a0_3 a0_4 a1 K
theorem spec_l4Look.t_zero (a0_0 : Int) (a0_1 : ByteArray) (a0_2 : Int) (a0_3 : List (List D)) (a0_4 : List (List D)) (a1 : Int) : spec_l4Look.t 0 a0_0 a0_1 a0_2 a0_3 a0_4 a1 = none := rfl
theorem spec_l4Look.t_succ (k : Nat) (a0_0 : Int) (a0_1 : ByteArray) (a0_2 : Int) (a0_3 : List (List D)) (a0_4 : List (List D)) (a1 : Int) : spec_l4Look.t (k + 1) a0_0 a0_1 a0_2 a0_3 a0_4 a1 = spec_l4Look.g k a0_0 a0_1 a0_2 a0_3 a0_4 a1 (fun z0 => some z0) := rfl
noncomputable def spec_l4Look.as (a0_0 : Int) (a0_1 : ByteArray) (a0_2 : Int) (a0_3 : List (List D)) (a0_4 : List (List D)) (a1 : Int) : List A := [.agg [.int .i64 a0_0, .str a0_1, .int .i64 a0_2, .sl a0_3, .sl a0_4], .d (.int .i64 a1)]
noncomputable def spec_l4Look.kt {β : Type} (a0_0 : Int) (a0_1 : ByteArray) (a0_2 : Int) (a0_3 : List (List D)) (a0_4 : List (List D)) (a1 : Int) (K0 : List (List C) → List Out → Option β) : Int → Option β := fun z0 => K0 [[.d (.int .i64 z0)]] []
noncomputable def spec_l4Look.e (k : Nat) : Entry := { modes := [(.imm, 0), (.imm, 0)], rts := [3], al := false, run := fun {β} l K => match l with | [.agg [.int .i64 a0_0, .str a0_1, .int .i64 a0_2, .sl a0_3, .sl a0_4], .d (.int .i64 a1)] => spec_l4Look.f k a0_0 a0_1 a0_2 a0_3 a0_4 a1 (spec_l4Look.kt a0_0 a0_1 a0_2 a0_3 a0_4 a1 K) | _ => none }
noncomputable def spec_l4Look.E (k : Nat) : Env := fun g => bif g == 160 then some (spec_l4Look.e k) else bif g == 190 then some (spec_l4Text.e k) else bif g == 69 then some (spec_l1In.e k) else bif g == 191 then some (spec_l4Keys.e k) else none
noncomputable def spec_l4Look.h : Hints := ⟨fun n => bif n == 5 then ⟨[(1, .asis), (2, .asis), (5, .asis), (6, .asis)], []⟩ else ⟨[], []⟩, fun _ => none, false, []⟩
noncomputable def spec_l4Look.s0 (v0_0 : Int) (v0_3 : Int) (v0_4 : ByteArray) (v0_5 : Int) (v0_6 : List (List D)) (v0_7 : List (List D)) (v : Int × Int) : St :=
  match v with
  | (v0_1, v0_2) => ⟨[.any, .d false (.int .i64 v0_0), .bp 0 0, .any, .any, .d true (.int .i64 v0_1), .d true (.int .i64 v0_2), .any, .any, .any, .any, .any, .any, .any, .any, .any, .any, .any, .any, .any, .any, .any, .any, .any, .any, .any, .any, .any, .any, .any, .any, .any, .any, .any, .any, .any, .any, .any, .any, .any, .any, .any, .any, .any, .any, .any, .any, .any, .any, .any, .any, .any, .any, .any, .any, .any, .any, .any, .any, .any, .any, .any, .any, .any, .any, .any, .any, .any, .any, .any, .any, .any, .any, .any, .any, .any, .any, .any, .any, .any, .any, .any, .any, .any, .any, .any, .any, .any, .any, .any, .any, .any, .any, .any, .any, .any, .any, .any, .any, .any, .any, .any, .any, .any, .any, .any, .any, .any, .any, .any, .any, .any, .any, .any, .any, .any, .any], [.box none 151 [.d false (.int .i64 v0_3), .d false (.str v0_4), .d false (.int .i64 v0_5), .d false (.sl v0_6), .d false (.sl v0_7)]]⟩
noncomputable def spec_l4Look.b0 {β : Type} (k : Nat) : St → (Ex → St → Option β) → Option β := fun s K => den Try.prog (spec_l4Look.E k) spec_l4Look.h.H spec_l4Look.h.J k (codeAt [1, 1, 1, 0, 1, 0, 0] (codeOf Try.f160)) s K
noncomputable def spec_l4Look.c0 {β : Type} (k : Nat) (a0_0 : Int) (a0_1 : ByteArray) (a0_2 : Int) (a0_3 : List (List D)) (a0_4 : List (List D)) (a1 : Int) (K0 : List (List C) → List Out → Option β) : Ex → St → Option β := contAt Try.prog (spec_l4Look.E k) spec_l4Look.h k [1, 1, 1, 0, 1, 0] (codeOf Try.f160) (finDen Try.prog Try.f160 spec_l4Look.h (spec_l4Look.as a0_0 a0_1 a0_2 a0_3 a0_4 a1) K0)
theorem spec_l4Look.l0_eq {β : Type} (k : Nat) (a0_0 : Int) (a0_1 : ByteArray) (a0_2 : Int) (a0_3 : List (List D)) (a0_4 : List (List D)) (a1 : Int) (K0 : List (List C) → List Out → Option β) (v0_0 : Int) (v0_3 : Int) (v0_4 : ByteArray) (v0_5 : Int) (v0_6 : List (List D)) (v0_7 : List (List D)) : ∀ (kk : Nat) (v : Int × Int), loopDen (spec_l4Look.b0 k) (spec_l4Look.h.H 5) kk (spec_l4Look.s0 v0_0 v0_3 v0_4 v0_5 v0_6 v0_7 v) (spec_l4Look.c0 k a0_0 a0_1 a0_2 a0_3 a0_4 a1 K0) = iter (spec_l4Look.l0 k (spec_l4Look.f k) v0_0 v0_3 v0_4 v0_5 v0_6 v0_7 (spec_l4Look.kt a0_0 a0_1 a0_2 a0_3 a0_4 a1 K0)) kk v :=
  loop_eq (spec_l4Look.s0 v0_0 v0_3 v0_4 v0_5 v0_6 v0_7) _ (fun L0 v => by obtain ⟨v0_1, v0_2⟩ := v; kernel_rfl)
noncomputable def spec_l4Look.m {β : Type} (k : Nat) (a0_0 : Int) (a0_1 : ByteArray) (a0_2 : Int) (a0_3 : List (List D)) (a0_4 : List (List D)) (a1 : Int) (K0 : List (List C) → List Out → Option β) (F : (Int → Int → ByteArray → Int → (List (List D)) → (List (List D)) → (Int × Int) → Option β)) : Option β :=
  bif ((a1 : Int) == 0) then ((spec_l4Look.kt a0_0 a0_1 a0_2 a0_3 a0_4 a1 K0) 0) else ((F) a1 a0_0 a0_1 a0_2 a0_3 a0_4 (1, 0))
theorem spec_l4Look.f_eq {β : Type} (k : Nat) (a0_0 : Int) (a0_1 : ByteArray) (a0_2 : Int) (a0_3 : List (List D)) (a0_4 : List (List D)) (a1 : Int) (K0 : List (List C) → List Out → Option β) : funDen Try.prog (spec_l4Look.E k) spec_l4Look.h k Try.f160 (spec_l4Look.as a0_0 a0_1 a0_2 a0_3 a0_4 a1) K0 = spec_l4Look.g k a0_0 a0_1 a0_2 a0_3 a0_4 a1 (spec_l4Look.kt a0_0 a0_1 a0_2 a0_3 a0_4 a1 K0) := Eq.trans (b := (spec_l4Look.m k a0_0 a0_1 a0_2 a0_3 a0_4 a1 K0) (fun (v0_0 : Int) (v0_3 : Int) (v0_4 : ByteArray) (v0_5 : Int) (v0_6 : List (List D)) (v0_7 : List (List D)) (v : Int × Int) => loopDen (spec_l4Look.b0 k) (spec_l4Look.h.H 5) k (spec_l4Look.s0 v0_0 v0_3 v0_4 v0_5 v0_6 v0_7 v) (spec_l4Look.c0 k a0_0 a0_1 a0_2 a0_3 a0_4 a1 K0))) (by kernel_rfl) (Eq.trans (congrArg (spec_l4Look.m k a0_0 a0_1 a0_2 a0_3 a0_4 a1 K0) (funext fun v0_0 => funext fun v0_3 => funext fun v0_4 => funext fun v0_5 => funext fun v0_6 => funext fun v0_7 => funext fun v => spec_l4Look.l0_eq k a0_0 a0_1 a0_2 a0_3 a0_4 a1 K0 v0_0 v0_3 v0_4 v0_5 v0_6 v0_7 k v)) (by kernel_rfl))
noncomputable def spec_l4Look.dec (rs : List (List C)) (os : List Out) : Option (Int) := uncons rs fun c1 r2 => uncons c1 fun x3 l4 => cD x3 fun d5 => dInt .i64 d5 fun w0 => atEnd l4 <| atEnd r2 <| atEnd os (some w0)
theorem spec_l4Look.kt_dec (a0_0 : Int) (a0_1 : ByteArray) (a0_2 : Int) (a0_3 : List (List D)) (a0_4 : List (List D)) (a1 : Int) : spec_l4Look.kt a0_0 a0_1 a0_2 a0_3 a0_4 a1 spec_l4Look.dec = (fun z0 => some z0) := by kernel_rfl
theorem spec_l4Look.inj (a0_0 : Int) (a0_1 : ByteArray) (a0_2 : Int) (a0_3 : List (List D)) (a0_4 : List (List D)) (a1 : Int) {rs : List (List C)} {os : List Out} {z0 : Int} (h : spec_l4Look.dec rs os = some z0) (ho : OutShape (spec_l4Look.as a0_0 a0_1 a0_2 a0_3 a0_4 a1) os) : rs = [[.d (.int .i64 z0)]] ∧ os = [] := by
  unfold spec_l4Look.dec at h
  obtain ⟨c1, r2, rfl, h1⟩ := uncons_some h
  obtain ⟨x3, l4, rfl, h2⟩ := uncons_some h1
  obtain ⟨d5, rfl, h3⟩ := cD_some h2
  obtain ⟨w0, rfl, h4⟩ := dInt_some h3
  obtain ⟨rfl, h5⟩ := atEnd_some h4
  obtain ⟨rfl, h6⟩ := atEnd_some h5
  obtain ⟨rfl, h7⟩ := atEnd_some h6
  obtain rfl := Option.some.inj h7
  exact ⟨rfl, rfl⟩
theorem spec_l4Look.oks (k : Nat) : EntryOK Try.prog 160 (spec_l4Look.e k) := by
  induction k with
  | zero =>
    refine ?_
    · exact entry_zero (enter_of Try.func160 (by kernel_rfl)) fun β l K r h => by
        simp only [spec_l4Look.e] at h
        split at h
        · unfold spec_l4Look.f at h
          unfold spec_l4Look.w at h
          rw [spec_l4Look.t_zero] at h
          cases h
        · cases h
  | succ k ih =>
    refine ?_
    · refine entry_of mix tyok (fn := Try.f160) (c := codeOf Try.f160) Try.func160 (by kernel_rfl) (h := spec_l4Look.h) (k := k) (E := spec_l4Look.E k) (env_cons ih (env_cons (spec_l4Text.ok k) (env_cons (spec_l1In.ok k) (env_cons (spec_l4Keys.ok k) env_nil)))) (by kernel_rfl) (by kernel_rfl) rfl (enter_of Try.func160 (by kernel_rfl)) ?_
      intro β l K r hr
      simp only [spec_l4Look.e] at hr
      split at hr
      case h_2 => cases hr
      unfold spec_l4Look.f at hr
      unfold spec_l4Look.w at hr
      split at hr
      case h_2 => cases hr
      rename_i hz
      exact ⟨_, _, hr, _, spec_l4Look.dec, _, (spec_l4Look.f_eq k _ _ _ _ _ _ spec_l4Look.dec).trans (by rw [spec_l4Look.kt_dec]; exact hz), fun rs os h ho => spec_l4Look.inj _ _ _ _ _ _ h ho⟩
theorem spec_l4Look.ok (k : Nat) : EntryOK Try.prog 160 (spec_l4Look.e k) := (spec_l4Look.oks k)
/-! ### loop.example/g00119/spec.ValueOk: function 101 -/
noncomputable def spec_ValueOk.g {β : Type} (k : Nat) (a0_0 : Int) (a0_1 : ByteArray) (a0_2 : Int) (a0_3 : List (List D)) (a0_4 : List (List D)) (K : Bool → Option β) : Option β :=
  spec_l4Look.f k a0_0 a0_1 a0_2 a0_3 a0_4 6 (fun y50 => K (decide ((y50 : Int) > 0)))
noncomputable def spec_ValueOk.t (k : Nat) (a0_0 : Int) (a0_1 : ByteArray) (a0_2 : Int) (a0_3 : List (List D)) (a0_4 : List (List D)) : Option (Bool) := spec_ValueOk.g k a0_0 a0_1 a0_2 a0_3 a0_4 (fun z0 => some z0)
noncomputable def spec_ValueOk.f {β : Type} (k : Nat) (a0_0 : Int) (a0_1 : ByteArray) (a0_2 : Int) (a0_3 : List (List D)) (a0_4 : List (List D)) (K : Bool → Option β) : Option β :=
  match spec_ValueOk.t k a0_0 a0_1 a0_2 a0_3 a0_4 with
  | some z0 => K z0
  | none => none
noncomputable def spec_ValueOk.as (a0_0 : Int) (a0_1 : ByteArray) (a0_2 : Int) (a0_3 : List (List D)) (a0_4 : List (List D)) : List A := [.agg [.int .i64 a0_0, .str a0_1, .int .i64 a0_2, .sl a0_3, .sl a0_4]]
noncomputable def spec_ValueOk.kt {β : Type} (a0_0 : Int) (a0_1 : ByteArray) (a0_2 : Int) (a0_3 : List (List D)) (a0_4 : List (List D)) (K0 : List (List C) → List Out → Option β) : Bool → Option β := fun z0 => K0 [[.d (.bool z0)]] []
noncomputable def spec_ValueOk.e (k : Nat) : Entry := { modes := [(.imm, 0)], rts := [4], al := false, run := fun {β} l K => match l with | [.agg [.int .i64 a0_0, .str a0_1, .int .i64 a0_2, .sl a0_3, .sl a0_4]] => spec_ValueOk.f k a0_0 a0_1 a0_2 a0_3 a0_4 (spec_ValueOk.kt a0_0 a0_1 a0_2 a0_3 a0_4 K) | _ => none }
noncomputable def spec_ValueOk.E (k : Nat) : Env := fun g => bif g == 160 then some (spec_l4Look.e k) else none
noncomputable def spec_ValueOk.h : Hints := ⟨fun n => ⟨[], []⟩, fun _ => none, false, []⟩
theorem spec_ValueOk.f_eq {β : Type} (k : Nat) (a0_0 : Int) (a0_1 : ByteArray) (a0_2 : Int) (a0_3 : List (List D)) (a0_4 : List (List D)) (K0 : List (List C) → List Out → Option β) : funDen Try.prog (spec_ValueOk.E k) spec_ValueOk.h k Try.f101 (spec_ValueOk.as a0_0 a0_1 a0_2 a0_3 a0_4) K0 = spec_ValueOk.g k a0_0 a0_1 a0_2 a0_3 a0_4 (spec_ValueOk.kt a0_0 a0_1 a0_2 a0_3 a0_4 K0) := by kernel_rfl
noncomputable def spec_ValueOk.dec (rs : List (List C)) (os : List Out) : Option (Bool) := uncons rs fun c1 r2 => uncons c1 fun x3 l4 => cD x3 fun d5 => dBool d5 fun w0 => atEnd l4 <| atEnd r2 <| atEnd os (some w0)
theorem spec_ValueOk.kt_dec (a0_0 : Int) (a0_1 : ByteArray) (a0_2 : Int) (a0_3 : List (List D)) (a0_4 : List (List D)) : spec_ValueOk.kt a0_0 a0_1 a0_2 a0_3 a0_4 spec_ValueOk.dec = (fun z0 => some z0) := by kernel_rfl
theorem spec_ValueOk.inj (a0_0 : Int) (a0_1 : ByteArray) (a0_2 : Int) (a0_3 : List (List D)) (a0_4 : List (List D)) {rs : List (List C)} {os : List Out} {z0 : Bool} (h : spec_ValueOk.dec rs os = some z0) (ho : OutShape (spec_ValueOk.as a0_0 a0_1 a0_2 a0_3 a0_4) os) : rs = [[.d (.bool z0)]] ∧ os = [] := by
  unfold spec_ValueOk.dec at h
  obtain ⟨c1, r2, rfl, h1⟩ := uncons_some h
  obtain ⟨x3, l4, rfl, h2⟩ := uncons_some h1
  obtain ⟨d5, rfl, h3⟩ := cD_some h2
  obtain ⟨w0, rfl, h4⟩ := dBool_some h3
  obtain ⟨rfl, h5⟩ := atEnd_some h4
  obtain ⟨rfl, h6⟩ := atEnd_some h5
  obtain ⟨rfl, h7⟩ := atEnd_some h6
  obtain rfl := Option.some.inj h7
  exact ⟨rfl, rfl⟩
theorem spec_ValueOk.ok (k : Nat) : EntryOK Try.prog 101 (spec_ValueOk.e k) := by
  refine entry_of mix tyok (fn := Try.f101) (c := codeOf Try.f101) Try.func101 (by kernel_rfl) (h := spec_ValueOk.h) (k := k) (E := spec_ValueOk.E k) (env_cons (spec_l4Look.ok k) env_nil) (by kernel_rfl) (by kernel_rfl) rfl (enter_of Try.func101 (by kernel_rfl)) ?_
  intro β l K r hr
  simp only [spec_ValueOk.e] at hr
  split at hr
  case h_2 => cases hr
  unfold spec_ValueOk.f at hr
  split at hr
  case h_2 => cases hr
  rename_i hz
  exact ⟨_, _, hr, _, spec_ValueOk.dec, _, (spec_ValueOk.f_eq k _ _ _ _ _ spec_ValueOk.dec).trans (by rw [spec_ValueOk.kt_dec]; exact hz), fun rs os h ho => spec_ValueOk.inj _ _ _ _ _ h ho⟩
/-! ### loop.example/g00119/spec.WorksOk: function 40 -/
noncomputable def spec_WorksOk.l0 {β : Type} (k : Nat) (v0_0 : List (List D)) (K : Bool → Option β) (L0 : Int → Option β) (v : Int) : Option β :=
  match v with
  | v0_1 => bif (decide ((v0_1 : Int) < (v0_0.length : Int))) then (atRow v0_0 v0_1 fun c74 => uncons c74 fun d75 r76 => dInt .i64 d75 fun x77 => uncons r76 fun d78 r79 => dInt .i64 d78 fun x80 => uncons r79 fun d81 r82 => dInt .i64 d81 fun x83 => uncons r82 fun d84 r85 => dStr d84 fun x86 => uncons r85 fun d87 r88 => dInt .i64 d87 fun x89 => uncons r88 fun d90 r91 => dSl d90 fun x92 => uncons r91 fun d93 r94 => dSl d93 fun x95 => atEnd r94 (spec_l1In.f k x77 1 1000000 (fun y96 => bif (!y96) then (K false) else (spec_l1In.f k x80 1 10000 (fun y97 => bif (!y97) then (K false) else (spec_ValueOk.f k x83 x86 x89 x92 x95 (fun y98 => bif (!y98) then (K false) else (bif (decide ((v0_1 : Int) > 0)) then (atRow v0_0 (IntKind.wrap .i64 (v0_1 - 1)) fun c99 => uncons c99 fun d100 r101 => dInt .i64 d100 fun x102 => uncons r101 fun d103 r104 => dInt .i64 d103 fun x105 => uncons r104 fun d106 r107 => dInt .i64 d106 fun x108 => uncons r107 fun d109 r110 => dStr d109 fun x111 => uncons r110 fun d112 r113 => dInt .i64 d112 fun x114 => uncons r113 fun d115 r116 => dSl d115 fun x117 => uncons r116 fun d118 r119 => dSl d118 fun x120 => atEnd r119 (bif (decide ((x102 : Int) ≥ x77)) then (K false) else (L0 (IntKind.wrap .i64 (v0_1 + 1))))) else (L0 (IntKind.wrap .i64 (v0_1 + 1))))))))))) else (K (decide (((v0_0.length : Int) : Int) ≤ 40)))
noncomputable def spec_WorksOk.g {β : Type} (k : Nat) (a0 : List (List D)) (K : Bool → Option β) : Option β :=
  iter (spec_WorksOk.l0 k a0 K) k (0)
noncomputable def spec_WorksOk.t (k : Nat) (a0 : List (List D)) : Option (Bool) := spec_WorksOk.g k a0 (fun z0 => some z0)
noncomputable def spec_WorksOk.f {β : Type} (k : Nat) (a0 : List (List D)) (K : Bool → Option β) : Option β :=
  match spec_WorksOk.t k a0 with
  | some z0 => K z0
  | none => none
noncomputable def spec_WorksOk.as (a0 : List (List D)) : List A := [.d (.sl a0)]
noncomputable def spec_WorksOk.kt {β : Type} (a0 : List (List D)) (K0 : List (List C) → List Out → Option β) : Bool → Option β := fun z0 => K0 [[.d (.bool z0)]] []
noncomputable def spec_WorksOk.e (k : Nat) : Entry := { modes := [(.imm, 0)], rts := [4], al := false, run := fun {β} l K => match l with | [.d (.sl a0)] => spec_WorksOk.f k a0 (spec_WorksOk.kt a0 K) | _ => none }
noncomputable def spec_WorksOk.E (k : Nat) : Env := fun g => bif g == 69 then some (spec_l1In.e k) else bif g == 101 then some (spec_ValueOk.e k) else none
noncomputable def spec_WorksOk.h : Hints := ⟨fun n => bif n == 2 then ⟨[(0, .asis), (3, .asis)], []⟩ else ⟨[], []⟩, fun _ => none, false, []⟩
noncomputable def spec_WorksOk.s0 (v0_0 : List (List D)) (v : Int) : St :=
  match v with
  | v0_1 => ⟨[.d false (.sl v0_0), .any, .any, .d true (.int .i64 v0_1), .any, .any, .any, .any, .any, .any, .any, .any, .any, .any, .any, .any, .any, .any, .any, .any, .any, .any, .any, .any, .any, .any, .any, .any, .any, .any, .any, .any, .any, .any, .any, .any, .any, .any, .any, .any, .any, .any, .any, .any, .any, .any, .any, .any, .any], []⟩
noncomputable def spec_WorksOk.b0 {β : Type} (k : Nat) : St → (Ex → St → Option β) → Option β := fun s K => den Try.prog (spec_WorksOk.E k) spec_WorksOk.h.H spec_WorksOk.h.J k (codeAt [1, 0, 1, 0, 0] (codeOf Try.f40)) s K
noncomputable def spec_WorksOk.c0 {β : Type} (k : Nat) (a0 : List (List D)) (K0 : List (List C) → List Out → Option β) : Ex → St → Option β := contAt Try.prog (spec_WorksOk.E k) spec_WorksOk.h k [1, 0, 1, 0] (codeOf Try.f40) (finDen Try.prog Try.f40 spec_WorksOk.h (spec_WorksOk.as a0) K0)
theorem spec_WorksOk.l0_eq {β : Type} (k : Nat) (a0 : List (List D)) (K0 : List (List C) → List Out → Option β) (v0_0 : List (List D)) : ∀ (kk : Nat) (v : Int), loopDen (spec_WorksOk.b0 k) (spec_WorksOk.h.H 2) kk (spec_WorksOk.s0 v0_0 v) (spec_WorksOk.c0 k a0 K0) = iter (spec_WorksOk.l0 k v0_0 (spec_WorksOk.kt a0 K0)) kk v :=
  loop_eq (spec_WorksOk.s0 v0_0) _ (fun L0 v => by kernel_rfl)
noncomputable def spec_WorksOk.m {β : Type} (k : Nat) (a0 : List (List D)) (K0 : List (List C) → List Out → Option β) (F : ((List (List D)) → Int → Option β)) : Option β :=
  (F) a0 (0)
theorem spec_WorksOk.f_eq {β : Type} (k : Nat) (a0 : List (List D)) (K0 : List (List C) → List Out → Option β) : funDen Try.prog (spec_WorksOk.E k) spec_WorksOk.h k Try.f40 (spec_WorksOk.as a0) K0 = spec_WorksOk.g k a0 (spec_WorksOk.kt a0 K0) := Eq.trans (b := (spec_WorksOk.m k a0 K0) (fun (v0_0 : List (List D)) (v : Int) => loopDen (spec_WorksOk.b0 k) (spec_WorksOk.h.H 2) k (spec_WorksOk.s0 v0_0 v) (spec_WorksOk.c0 k a0 K0))) (by kernel_rfl) (Eq.trans (congrArg (spec_WorksOk.m k a0 K0) (funext fun v0_0 => funext fun v => spec_WorksOk.l0_eq k a0 K0 v0_0 k v)) (by kernel_rfl))
noncomputable def spec_WorksOk.dec (rs : List (List C)) (os : List Out) : Option (Bool) := uncons rs fun c1 r2 => uncons c1 fun x3 l4 => cD x3 fun d5 => dBool d5 fun w0 => atEnd l4 <| atEnd r2 <| atEnd os (some w0)
theorem spec_WorksOk.kt_dec (a0 : List (List D)) : spec_WorksOk.kt a0 spec_WorksOk.dec = (fun z0 => some z0) := by kernel_rfl
theorem spec_WorksOk.inj (a0 : List (List D)) {rs : List (List C)} {os : List Out} {z0 : Bool} (h : spec_WorksOk.dec rs os = some z0) (ho : OutShape (spec_WorksOk.as a0) os) : rs = [[.d (.bool z0)]] ∧ os = [] := by
  unfold spec_WorksOk.dec at h
  obtain ⟨c1, r2, rfl, h1⟩ := uncons_some h
  obtain ⟨x3, l4, rfl, h2⟩ := uncons_some h1
  obtain ⟨d5, rfl, h3⟩ := cD_some h2
  obtain ⟨w0, rfl, h4⟩ := dBool_some h3
  obtain ⟨rfl, h5⟩ := atEnd_some h4
  obtain ⟨rfl, h6⟩ := atEnd_some h5
  obtain ⟨rfl, h7⟩ := atEnd_some h6
  obtain rfl := Option.some.inj h7
  exact ⟨rfl, rfl⟩
theorem spec_WorksOk.ok (k : Nat) : EntryOK Try.prog 40 (spec_WorksOk.e k) := by
  refine entry_of mix tyok (fn := Try.f40) (c := codeOf Try.f40) Try.func40 (by kernel_rfl) (h := spec_WorksOk.h) (k := k) (E := spec_WorksOk.E k) (env_cons (spec_l1In.ok k) (env_cons (spec_ValueOk.ok k) env_nil)) (by kernel_rfl) (by kernel_rfl) rfl (enter_of Try.func40 (by kernel_rfl)) ?_
  intro β l K r hr
  simp only [spec_WorksOk.e] at hr
  split at hr
  case h_2 => cases hr
  unfold spec_WorksOk.f at hr
  split at hr
  case h_2 => cases hr
  rename_i hz
  exact ⟨_, _, hr, _, spec_WorksOk.dec, _, (spec_WorksOk.f_eq k _ spec_WorksOk.dec).trans (by rw [spec_WorksOk.kt_dec]; exact hz), fun rs os h ho => spec_WorksOk.inj _ h ho⟩
/-! ### loop.example/g00119/spec.l11Runs: function 106 -/
noncomputable def spec_l11Runs.l0 {β : Type} (k : Nat) (v0_0 : List (List D)) (v0_1 : Int) (K : Bool → Option β) (L0 : Int → Option β) (v : Int) : Option β :=
  match v with
  | v0_2 => bif (decide ((v0_2 : Int) < (v0_0.length : Int))) then (atRow v0_0 v0_2 fun c31 => uncons c31 fun d32 r33 => dInt .i64 d32 fun x34 => uncons r33 fun d35 r36 => dInt .i64 d35 fun x37 => atEnd r36 (spec_l1In.f k x34 1 1000000 (fun y38 => bif (!y38) then (K false) else (atRow v0_0 v0_2 fun c39 => uncons c39 fun d40 r41 => dInt .i64 d40 fun x42 => uncons r41 fun d43 r44 => dInt .i64 d43 fun x45 => atEnd r44 (spec_l1In.f k x45 v0_1 10000 (fun y46 => bif (!y46) then (K false) else (bif (decide ((v0_2 : Int) > 0)) then (atRow v0_0 (IntKind.wrap .i64 (v0_2 - 1)) fun c47 => uncons c47 fun d48 r49 => dInt .i64 d48 fun x50 => uncons r49 fun d51 r52 => dInt .i64 d51 fun x53 => atEnd r52 (atRow v0_0 v0_2 fun c54 => uncons c54 fun d55 r56 => dInt .i64 d55 fun x57 => uncons r56 fun d58 r59 => dInt .i64 d58 fun x60 => atEnd r59 (bif (decide ((x50 : Int) ≥ x57)) then (K false) else (L0 (IntKind.wrap .i64 (v0_2 + 1)))))) else (L0 (IntKind.wrap .i64 (v0_2 + 1)))))))))) else (K (decide (((v0_0.length : Int) : Int) ≤ 80)))
noncomputable def spec_l11Runs.g {β : Type} (k : Nat) (a0 : List (List D)) (a1 : Int) (K : Bool → Option β) : Option β :=
  iter (spec_l11Runs.l0 k a0 a1 K) k (0)
noncomputable def spec_l11Runs.t (k : Nat) (a0 : List (List D)) (a1 : Int) : Option (Bool) := spec_l11Runs.g k a0 a1 (fun z0 => some z0)
noncomputable def spec_l11Runs.f {β : Type} (k : Nat) (a0 : List (List D)) (a1 : Int) (K : Bool → Option β) : Option β :=
  match spec_l11Runs.t k a0 a1 with
  | some z0 => K z0
  | none => none
noncomputable def spec_l11Runs.as (a0 : List (List D)) (a1 : Int) : List A := [.d (.sl a0), .d (.int .i64 a1)]
noncomputable def spec_l11Runs.kt {β : Type} (a0 : List (List D)) (a1 : Int) (K0 : List (List C) → List Out → Option β) : Bool → Option β := fun z0 => K0 [[.d (.bool z0)]] []
noncomputable def spec_l11Runs.e (k : Nat) : Entry := { modes := [(.imm, 0), (.imm, 0)], rts := [4], al := false, run := fun {β} l K => match l with | [.d (.sl a0), .d (.int .i64 a1)] => spec_l11Runs.f k a0 a1 (spec_l11Runs.kt a0 a1 K) | _ => none }
noncomputable def spec_l11Runs.E (k : Nat) : Env := fun g => bif g == 69 then some (spec_l1In.e k) else none
noncomputable def spec_l11Runs.h : Hints := ⟨fun n => bif n == 2 then ⟨[(0, .asis), (1, .asis), (5, .asis)], []⟩ else ⟨[], []⟩, fun _ => none, false, []⟩
noncomputable def spec_l11Runs.s0 (v0_0 : List (List D)) (v0_1 : Int) (v : Int) : St :=
  match v with
  | v0_2 => ⟨[.d false (.sl v0_0), .d false (.int .i64 v0_1), .any, .any, .any, .d true (.int .i64 v0_2), .any, .any, .any, .any, .any, .any, .any, .any, .any, .any, .any, .any, .any, .any, .any, .any, .any, .any, .any, .any, .any, .any, .any, .any, .any, .any, .any, .any, .any, .any, .any, .any, .any, .any, .any, .any, .any, .any, .any, .any, .any, .any, .any, .any], []⟩
noncomputable def spec_l11Runs.b0 {β : Type} (k : Nat) : St → (Ex → St → Option β) → Option β := fun s K => den Try.prog (spec_l11Runs.E k) spec_l11Runs.h.H spec_l11Runs.h.J k (codeAt [1, 0, 1, 0, 0] (codeOf Try.f106)) s K
noncomputable def spec_l11Runs.c0 {β : Type} (k : Nat) (a0 : List (List D)) (a1 : Int) (K0 : List (List C) → List Out → Option β) : Ex → St → Option β := contAt Try.prog (spec_l11Runs.E k) spec_l11Runs.h k [1, 0, 1, 0] (codeOf Try.f106) (finDen Try.prog Try.f106 spec_l11Runs.h (spec_l11Runs.as a0 a1) K0)
theorem spec_l11Runs.l0_eq {β : Type} (k : Nat) (a0 : List (List D)) (a1 : Int) (K0 : List (List C) → List Out → Option β) (v0_0 : List (List D)) (v0_1 : Int) : ∀ (kk : Nat) (v : Int), loopDen (spec_l11Runs.b0 k) (spec_l11Runs.h.H 2) kk (spec_l11Runs.s0 v0_0 v0_1 v) (spec_l11Runs.c0 k a0 a1 K0) = iter (spec_l11Runs.l0 k v0_0 v0_1 (spec_l11Runs.kt a0 a1 K0)) kk v :=
  loop_eq (spec_l11Runs.s0 v0_0 v0_1) _ (fun L0 v => by kernel_rfl)
noncomputable def spec_l11Runs.m {β : Type} (k : Nat) (a0 : List (List D)) (a1 : Int) (K0 : List (List C) → List Out → Option β) (F : ((List (List D)) → Int → Int → Option β)) : Option β :=
  (F) a0 a1 (0)
theorem spec_l11Runs.f_eq {β : Type} (k : Nat) (a0 : List (List D)) (a1 : Int) (K0 : List (List C) → List Out → Option β) : funDen Try.prog (spec_l11Runs.E k) spec_l11Runs.h k Try.f106 (spec_l11Runs.as a0 a1) K0 = spec_l11Runs.g k a0 a1 (spec_l11Runs.kt a0 a1 K0) := Eq.trans (b := (spec_l11Runs.m k a0 a1 K0) (fun (v0_0 : List (List D)) (v0_1 : Int) (v : Int) => loopDen (spec_l11Runs.b0 k) (spec_l11Runs.h.H 2) k (spec_l11Runs.s0 v0_0 v0_1 v) (spec_l11Runs.c0 k a0 a1 K0))) (by kernel_rfl) (Eq.trans (congrArg (spec_l11Runs.m k a0 a1 K0) (funext fun v0_0 => funext fun v0_1 => funext fun v => spec_l11Runs.l0_eq k a0 a1 K0 v0_0 v0_1 k v)) (by kernel_rfl))
noncomputable def spec_l11Runs.dec (rs : List (List C)) (os : List Out) : Option (Bool) := uncons rs fun c1 r2 => uncons c1 fun x3 l4 => cD x3 fun d5 => dBool d5 fun w0 => atEnd l4 <| atEnd r2 <| atEnd os (some w0)
theorem spec_l11Runs.kt_dec (a0 : List (List D)) (a1 : Int) : spec_l11Runs.kt a0 a1 spec_l11Runs.dec = (fun z0 => some z0) := by kernel_rfl
theorem spec_l11Runs.inj (a0 : List (List D)) (a1 : Int) {rs : List (List C)} {os : List Out} {z0 : Bool} (h : spec_l11Runs.dec rs os = some z0) (ho : OutShape (spec_l11Runs.as a0 a1) os) : rs = [[.d (.bool z0)]] ∧ os = [] := by
  unfold spec_l11Runs.dec at h
  obtain ⟨c1, r2, rfl, h1⟩ := uncons_some h
  obtain ⟨x3, l4, rfl, h2⟩ := uncons_some h1
  obtain ⟨d5, rfl, h3⟩ := cD_some h2
  obtain ⟨w0, rfl, h4⟩ := dBool_some h3
  obtain ⟨rfl, h5⟩ := atEnd_some h4
  obtain ⟨rfl, h6⟩ := atEnd_some h5
  obtain ⟨rfl, h7⟩ := atEnd_some h6
  obtain rfl := Option.some.inj h7
  exact ⟨rfl, rfl⟩
theorem spec_l11Runs.ok (k : Nat) : EntryOK Try.prog 106 (spec_l11Runs.e k) := by
  refine entry_of mix tyok (fn := Try.f106) (c := codeOf Try.f106) Try.func106 (by kernel_rfl) (h := spec_l11Runs.h) (k := k) (E := spec_l11Runs.E k) (env_cons (spec_l1In.ok k) env_nil) (by kernel_rfl) (by kernel_rfl) rfl (enter_of Try.func106 (by kernel_rfl)) ?_
  intro β l K r hr
  simp only [spec_l11Runs.e] at hr
  split at hr
  case h_2 => cases hr
  unfold spec_l11Runs.f at hr
  split at hr
  case h_2 => cases hr
  rename_i hz
  exact ⟨_, _, hr, _, spec_l11Runs.dec, _, (spec_l11Runs.f_eq k _ _ spec_l11Runs.dec).trans (by rw [spec_l11Runs.kt_dec]; exact hz), fun rs os h ho => spec_l11Runs.inj _ _ h ho⟩
/-! ### loop.example/g00119/spec.l13Sum: function 109 -/
noncomputable def spec_l13Sum.l0 {β : Type} (k : Nat) (v0_0 : List (List D)) (K : Int → Option β) (L0 : (Int × Int) → Option β) (v : Int × Int) : Option β :=
  match v with
  | (v0_1, v0_2) => bif (decide ((v0_2 : Int) < (v0_0.length : Int))) then (atRow v0_0 v0_2 fun c8 => uncons c8 fun d9 r10 => dInt .i64 d9 fun x11 => uncons r10 fun d12 r13 => dInt .i64 d12 fun x14 => atEnd r13 (L0 (IntKind.wrap .i64 (v0_1 + x14), IntKind.wrap .i64 (v0_2 + 1)))) else (K v0_1)
noncomputable def spec_l13Sum.g {β : Type} (k : Nat) (a0 : List (List D)) (K : Int → Option β) : Option β :=
  iter (spec_l13Sum.l0 k a0 K) k (0, 0)
noncomputable def spec_l13Sum.t (k : Nat) (a0 : List (List D)) : Option (Int) := spec_l13Sum.g k a0 (fun z0 => some z0)
noncomputable def spec_l13Sum.f {β : Type} (k : Nat) (a0 : List (List D)) (K : Int → Option β) : Option β :=
  match spec_l13Sum.t k a0 with
  | some z0 => K z0
  | none => none
noncomputable def spec_l13Sum.as (a0 : List (List D)) : List A := [.d (.sl a0)]
noncomputable def spec_l13Sum.kt {β : Type} (a0 : List (List D)) (K0 : List (List C) → List Out → Option β) : Int → Option β := fun z0 => K0 [[.d (.int .i64 z0)]] []
noncomputable def spec_l13Sum.e (k : Nat) : Entry := { modes := [(.imm, 0)], rts := [3], al := false, run := fun {β} l K => match l with | [.d (.sl a0)] => spec_l13Sum.f k a0 (spec_l13Sum.kt a0 K) | _ => none }
noncomputable def spec_l13Sum.E (k : Nat) : Env := fun g => none
noncomputable def spec_l13Sum.h : Hints := ⟨fun n => bif n == 3 then ⟨[(0, .asis), (3, .asis), (4, .asis)], []⟩ else ⟨[], []⟩, fun _ => none, false, []⟩
noncomputable def spec_l13Sum.s0 (v0_0 : List (List D)) (v : Int × Int) : St :=
  match v with
  | (v0_1, v0_2) => ⟨[.d false (.sl v0_0), .any, .any, .d true (.int .i64 v0_1), .d true (.int .i64 v0_2), .any, .any, .any, .any, .any, .any, .any, .any, .any, .any, .any, .any, .any, .any], []⟩
noncomputable def spec_l13Sum.b0 {β : Type} (k : Nat) : St → (Ex → St → Option β) → Option β := fun s K => den Try.prog (spec_l13Sum.E k) spec_l13Sum.h.H spec_l13Sum.h.J k (codeAt [1, 1, 0, 1, 0, 0] (codeOf Try.f109)) s K
noncomputable def spec_l13Sum.c0 {β : Type} (k : Nat) (a0 : List (List D)) (K0 : List (List C) → List Out → Option β) : Ex → St → Option β := contAt Try.prog (spec_l13Sum.E k) spec_l13Sum.h k [1, 1, 0, 1, 0] (codeOf Try.f109) (finDen Try.prog Try.f109 spec_l13Sum.h (spec_l13Sum.as a0) K0)
theorem spec_l13Sum.l0_eq {β : Type} (k : Nat) (a0 : List (List D)) (K0 : List (List C) → List Out → Option β) (v0_0 : List (List D)) : ∀ (kk : Nat) (v : Int × Int), loopDen (spec_l13Sum.b0 k) (spec_l13Sum.h.H 3) kk (spec_l13Sum.s0 v0_0 v) (spec_l13Sum.c0 k a0 K0) = iter (spec_l13Sum.l0 k v0_0 (spec_l13Sum.kt a0 K0)) kk v :=
  loop_eq (spec_l13Sum.s0 v0_0) _ (fun L0 v => by obtain ⟨v0_1, v0_2⟩ := v; kernel_rfl)
noncomputable def spec_l13Sum.m {β : Type} (k : Nat) (a0 : List (List D)) (K0 : List (List C) → List Out → Option β) (F : ((List (List D)) → (Int × Int) → Option β)) : Option β :=
  (F) a0 (0, 0)
theorem spec_l13Sum.f_eq {β : Type} (k : Nat) (a0 : List (List D)) (K0 : List (List C) → List Out → Option β) : funDen Try.prog (spec_l13Sum.E k) spec_l13Sum.h k Try.f109 (spec_l13Sum.as a0) K0 = spec_l13Sum.g k a0 (spec_l13Sum.kt a0 K0) := Eq.trans (b := (spec_l13Sum.m k a0 K0) (fun (v0_0 : List (List D)) (v : Int × Int) => loopDen (spec_l13Sum.b0 k) (spec_l13Sum.h.H 3) k (spec_l13Sum.s0 v0_0 v) (spec_l13Sum.c0 k a0 K0))) (by kernel_rfl) (Eq.trans (congrArg (spec_l13Sum.m k a0 K0) (funext fun v0_0 => funext fun v => spec_l13Sum.l0_eq k a0 K0 v0_0 k v)) (by kernel_rfl))
noncomputable def spec_l13Sum.dec (rs : List (List C)) (os : List Out) : Option (Int) := uncons rs fun c1 r2 => uncons c1 fun x3 l4 => cD x3 fun d5 => dInt .i64 d5 fun w0 => atEnd l4 <| atEnd r2 <| atEnd os (some w0)
theorem spec_l13Sum.kt_dec (a0 : List (List D)) : spec_l13Sum.kt a0 spec_l13Sum.dec = (fun z0 => some z0) := by kernel_rfl
theorem spec_l13Sum.inj (a0 : List (List D)) {rs : List (List C)} {os : List Out} {z0 : Int} (h : spec_l13Sum.dec rs os = some z0) (ho : OutShape (spec_l13Sum.as a0) os) : rs = [[.d (.int .i64 z0)]] ∧ os = [] := by
  unfold spec_l13Sum.dec at h
  obtain ⟨c1, r2, rfl, h1⟩ := uncons_some h
  obtain ⟨x3, l4, rfl, h2⟩ := uncons_some h1
  obtain ⟨d5, rfl, h3⟩ := cD_some h2
  obtain ⟨w0, rfl, h4⟩ := dInt_some h3
  obtain ⟨rfl, h5⟩ := atEnd_some h4
  obtain ⟨rfl, h6⟩ := atEnd_some h5
  obtain ⟨rfl, h7⟩ := atEnd_some h6
  obtain rfl := Option.some.inj h7
  exact ⟨rfl, rfl⟩
theorem spec_l13Sum.ok (k : Nat) : EntryOK Try.prog 109 (spec_l13Sum.e k) := by
  refine entry_of mix tyok (fn := Try.f109) (c := codeOf Try.f109) Try.func109 (by kernel_rfl) (h := spec_l13Sum.h) (k := k) (E := spec_l13Sum.E k) env_nil (by kernel_rfl) (by kernel_rfl) rfl (enter_of Try.func109 (by kernel_rfl)) ?_
  intro β l K r hr
  simp only [spec_l13Sum.e] at hr
  split at hr
  case h_2 => cases hr
  unfold spec_l13Sum.f at hr
  split at hr
  case h_2 => cases hr
  rename_i hz
  exact ⟨_, _, hr, _, spec_l13Sum.dec, _, (spec_l13Sum.f_eq k _ spec_l13Sum.dec).trans (by rw [spec_l13Sum.kt_dec]; exact hz), fun rs os h ho => spec_l13Sum.inj _ h ho⟩
/-! ### loop.example/g00119/spec.IsleOk: function 50 -/
noncomputable def spec_IsleOk.g {β : Type} (k : Nat) (a0_0 : ByteArray) (a0_1 : Int) (a0_2 : Int) (a0_3 : List (List D)) (a0_4 : List (List D)) (K : Bool → Option β) : Option β :=
  spec_NameOk.f k a0_0 (fun y17 => bif y17 then (spec_l1In.f k a0_1 0 10000 (fun y18 => bif y18 then (spec_l1In.f k a0_2 0 1000000 (fun y19 => bif y19 then (spec_WorksOk.f k a0_3 (fun y121 => bif y121 then (spec_l11Runs.f k a0_4 1 (fun y122 => bif y122 then (spec_l13Sum.f k a0_4 (fun y123 => K (decide ((y123 : Int) ≤ a0_1)))) else (K false))) else (K false))) else (K false))) else (K false))) else (K false))
noncomputable def spec_IsleOk.t (k : Nat) (a0_0 : ByteArray) (a0_1 : Int) (a0_2 : Int) (a0_3 : List (List D)) (a0_4 : List (List D)) : Option (Bool) := spec_IsleOk.g k a0_0 a0_1 a0_2 a0_3 a0_4 (fun z0 => some z0)
noncomputable def spec_IsleOk.f {β : Type} (k : Nat) (a0_0 : ByteArray) (a0_1 : Int) (a0_2 : Int) (a0_3 : List (List D)) (a0_4 : List (List D)) (K : Bool → Option β) : Option β :=
  match spec_IsleOk.t k a0_0 a0_1 a0_2 a0_3 a0_4 with
  | some z0 => K z0
  | none => none
noncomputable def spec_IsleOk.as (a0_0 : ByteArray) (a0_1 : Int) (a0_2 : Int) (a0_3 : List (List D)) (a0_4 : List (List D)) : List A := [.agg [.str a0_0, .int .i64 a0_1, .int .i64 a0_2, .sl a0_3, .sl a0_4]]
noncomputable def spec_IsleOk.kt {β : Type} (a0_0 : ByteArray) (a0_1 : Int) (a0_2 : Int) (a0_3 : List (List D)) (a0_4 : List (List D)) (K0 : List (List C) → List Out → Option β) : Bool → Option β := fun z0 => K0 [[.d (.bool z0)]] []
noncomputable def spec_IsleOk.e (k : Nat) : Entry := { modes := [(.imm, 0)], rts := [4], al := false, run := fun {β} l K => match l with | [.agg [.str a0_0, .int .i64 a0_1, .int .i64 a0_2, .sl a0_3, .sl a0_4]] => spec_IsleOk.f k a0_0 a0_1 a0_2 a0_3 a0_4 (spec_IsleOk.kt a0_0 a0_1 a0_2 a0_3 a0_4 K) | _ => none }
noncomputable def spec_IsleOk.E (k : Nat) : Env := fun g => bif g == 66 then some (spec_NameOk.e k) else bif g == 69 then some (spec_l1In.e k) else bif g == 40 then some (spec_WorksOk.e k) else bif g == 106 then some (spec_l11Runs.e k) else bif g == 109 then some (spec_l13Sum.e k) else none
noncomputable def spec_IsleOk.h : Hints := ⟨fun n => ⟨[], []⟩, fun _ => none, false, []⟩
theorem spec_IsleOk.f_eq {β : Type} (k : Nat) (a0_0 : ByteArray) (a0_1 : Int) (a0_2 : Int) (a0_3 : List (List D)) (a0_4 : List (List D)) (K0 : List (List C) → List Out → Option β) : funDen Try.prog (spec_IsleOk.E k) spec_IsleOk.h k Try.f50 (spec_IsleOk.as a0_0 a0_1 a0_2 a0_3 a0_4) K0 = spec_IsleOk.g k a0_0 a0_1 a0_2 a0_3 a0_4 (spec_IsleOk.kt a0_0 a0_1 a0_2 a0_3 a0_4 K0) := by kernel_rfl
noncomputable def spec_IsleOk.dec (rs : List (List C)) (os : List Out) : Option (Bool) := uncons rs fun c1 r2 => uncons c1 fun x3 l4 => cD x3 fun d5 => dBool d5 fun w0 => atEnd l4 <| atEnd r2 <| atEnd os (some w0)
theorem spec_IsleOk.kt_dec (a0_0 : ByteArray) (a0_1 : Int) (a0_2 : Int) (a0_3 : List (List D)) (a0_4 : List (List D)) : spec_IsleOk.kt a0_0 a0_1 a0_2 a0_3 a0_4 spec_IsleOk.dec = (fun z0 => some z0) := by kernel_rfl
theorem spec_IsleOk.inj (a0_0 : ByteArray) (a0_1 : Int) (a0_2 : Int) (a0_3 : List (List D)) (a0_4 : List (List D)) {rs : List (List C)} {os : List Out} {z0 : Bool} (h : spec_IsleOk.dec rs os = some z0) (ho : OutShape (spec_IsleOk.as a0_0 a0_1 a0_2 a0_3 a0_4) os) : rs = [[.d (.bool z0)]] ∧ os = [] := by
  unfold spec_IsleOk.dec at h
  obtain ⟨c1, r2, rfl, h1⟩ := uncons_some h
  obtain ⟨x3, l4, rfl, h2⟩ := uncons_some h1
  obtain ⟨d5, rfl, h3⟩ := cD_some h2
  obtain ⟨w0, rfl, h4⟩ := dBool_some h3
  obtain ⟨rfl, h5⟩ := atEnd_some h4
  obtain ⟨rfl, h6⟩ := atEnd_some h5
  obtain ⟨rfl, h7⟩ := atEnd_some h6
  obtain rfl := Option.some.inj h7
  exact ⟨rfl, rfl⟩
theorem spec_IsleOk.ok (k : Nat) : EntryOK Try.prog 50 (spec_IsleOk.e k) := by
  refine entry_of mix tyok (fn := Try.f50) (c := codeOf Try.f50) Try.func50 (by kernel_rfl) (h := spec_IsleOk.h) (k := k) (E := spec_IsleOk.E k) (env_cons (spec_NameOk.ok k) (env_cons (spec_l1In.ok k) (env_cons (spec_WorksOk.ok k) (env_cons (spec_l11Runs.ok k) (env_cons (spec_l13Sum.ok k) env_nil))))) (by kernel_rfl) (by kernel_rfl) rfl (enter_of Try.func50 (by kernel_rfl)) ?_
  intro β l K r hr
  simp only [spec_IsleOk.e] at hr
  split at hr
  case h_2 => cases hr
  unfold spec_IsleOk.f at hr
  split at hr
  case h_2 => cases hr
  rename_i hz
  exact ⟨_, _, hr, _, spec_IsleOk.dec, _, (spec_IsleOk.f_eq k _ _ _ _ _ spec_IsleOk.dec).trans (by rw [spec_IsleOk.kt_dec]; exact hz), fun rs os h ho => spec_IsleOk.inj _ _ _ _ _ h ho⟩
/-! ### loop.example/g00119/impl.within: function 87 -/
noncomputable def impl_within.g {β : Type} (k : Nat) (a0 : Int) (a1 : Int) (a2 : Int) (K : Bool → Option β) : Option β :=
  bif (decide ((a0 : Int) ≥ a1)) then (K (decide ((a0 : Int) ≤ a2))) else (K false)
noncomputable def impl_within.t (k : Nat) (a0 : Int) (a1 : Int) (a2 : Int) : Option (Bool) := impl_within.g k a0 a1 a2 (fun z0 => some z0)
noncomputable def impl_within.f {β : Type} (k : Nat) (a0 : Int) (a1 : Int) (a2 : Int) (K : Bool → Option β) : Option β :=
  match impl_within.t k a0 a1 a2 with
  | some z0 => K z0
  | none => none
noncomputable def impl_within.as (a0 : Int) (a1 : Int) (a2 : Int) : List A := [.d (.int .i64 a0), .d (.int .i64 a1), .d (.int .i64 a2)]
noncomputable def impl_within.kt {β : Type} (a0 : Int) (a1 : Int) (a2 : Int) (K0 : List (List C) → List Out → Option β) : Bool → Option β := fun z0 => K0 [[.d (.bool z0)]] []
noncomputable def impl_within.e (k : Nat) : Entry := { modes := [(.imm, 0), (.imm, 0), (.imm, 0)], rts := [4], al := false, run := fun {β} l K => match l with | [.d (.int .i64 a0), .d (.int .i64 a1), .d (.int .i64 a2)] => impl_within.f k a0 a1 a2 (impl_within.kt a0 a1 a2 K) | _ => none }
noncomputable def impl_within.E (k : Nat) : Env := fun g => none
noncomputable def impl_within.h : Hints := ⟨fun n => ⟨[], []⟩, fun _ => none, false, []⟩
theorem impl_within.f_eq {β : Type} (k : Nat) (a0 : Int) (a1 : Int) (a2 : Int) (K0 : List (List C) → List Out → Option β) : funDen Try.prog (impl_within.E k) impl_within.h k Try.f87 (impl_within.as a0 a1 a2) K0 = impl_within.g k a0 a1 a2 (impl_within.kt a0 a1 a2 K0) := by kernel_rfl
noncomputable def impl_within.dec (rs : List (List C)) (os : List Out) : Option (Bool) := uncons rs fun c1 r2 => uncons c1 fun x3 l4 => cD x3 fun d5 => dBool d5 fun w0 => atEnd l4 <| atEnd r2 <| atEnd os (some w0)
theorem impl_within.kt_dec (a0 : Int) (a1 : Int) (a2 : Int) : impl_within.kt a0 a1 a2 impl_within.dec = (fun z0 => some z0) := by kernel_rfl
theorem impl_within.inj (a0 : Int) (a1 : Int) (a2 : Int) {rs : List (List C)} {os : List Out} {z0 : Bool} (h : impl_within.dec rs os = some z0) (ho : OutShape (impl_within.as a0 a1 a2) os) : rs = [[.d (.bool z0)]] ∧ os = [] := by
  unfold impl_within.dec at h
  obtain ⟨c1, r2, rfl, h1⟩ := uncons_some h
  obtain ⟨x3, l4, rfl, h2⟩ := uncons_some h1
  obtain ⟨d5, rfl, h3⟩ := cD_some h2
  obtain ⟨w0, rfl, h4⟩ := dBool_some h3
  obtain ⟨rfl, h5⟩ := atEnd_some h4
  obtain ⟨rfl, h6⟩ := atEnd_some h5
  obtain ⟨rfl, h7⟩ := atEnd_some h6
  obtain rfl := Option.some.inj h7
  exact ⟨rfl, rfl⟩
theorem impl_within.ok (k : Nat) : EntryOK Try.prog 87 (impl_within.e k) := by
  refine entry_of mix tyok (fn := Try.f87) (c := codeOf Try.f87) Try.func87 (by kernel_rfl) (h := impl_within.h) (k := k) (E := impl_within.E k) env_nil (by kernel_rfl) (by kernel_rfl) rfl (enter_of Try.func87 (by kernel_rfl)) ?_
  intro β l K r hr
  simp only [impl_within.e] at hr
  split at hr
  case h_2 => cases hr
  unfold impl_within.f at hr
  split at hr
  case h_2 => cases hr
  rename_i hz
  exact ⟨_, _, hr, _, impl_within.dec, _, (impl_within.f_eq k _ _ _ impl_within.dec).trans (by rw [impl_within.kt_dec]; exact hz), fun rs os h ho => impl_within.inj _ _ _ h ho⟩
/-! ### loop.example/g00119/impl.NameOk: function 72 -/
noncomputable def impl_NameOk.l0 {β : Type} (k : Nat) (v0_0 : ByteArray) (v0_1 : Int) (K : Bool → Option β) (L0 : Int → Option β) (v : Int) : Option β :=
  match v with
  | v0_2 => bif (decide ((v0_2 : Int) < v0_1)) then (atStr v0_0 v0_2 fun b5 => bif (decide ((b5 : Int) < 97)) then (bif (decide ((b5 : Int) < 48)) then (bif ((b5 : Int) != 45) then (K false) else (L0 (IntKind.wrap .i64 (v0_2 + 1)))) else (bif (decide ((b5 : Int) > 57)) then (bif ((b5 : Int) != 45) then (K false) else (L0 (IntKind.wrap .i64 (v0_2 + 1)))) else (L0 (IntKind.wrap .i64 (v0_2 + 1))))) else (bif (decide ((b5 : Int) > 122)) then (bif (decide ((b5 : Int) < 48)) then (bif ((b5 : Int) != 45) then (K false) else (L0 (IntKind.wrap .i64 (v0_2 + 1)))) else (bif (decide ((b5 : Int) > 57)) then (bif ((b5 : Int) != 45) then (K false) else (L0 (IntKind.wrap .i64 (v0_2 + 1)))) else (L0 (IntKind.wrap .i64 (v0_2 + 1))))) else (L0 (IntKind.wrap .i64 (v0_2 + 1))))) else (impl_within.f k (v0_0.size : Int) 1 20 (fun y6 => bif y6 then (atStr v0_0 0 fun b7 => bif ((b7 : Int) != 45) then (atStr v0_0 (IntKind.wrap .i64 ((v0_0.size : Int) - 1)) fun b8 => K ((b8 : Int) != 45)) else (K false)) else (K false)))
noncomputable def impl_NameOk.g {β : Type} (k : Nat) (a0 : ByteArray) (K : Bool → Option β) : Option β :=
  iter (impl_NameOk.l0 k a0 (a0.size : Int) K) k (0)
noncomputable def impl_NameOk.t (k : Nat) (a0 : ByteArray) : Option (Bool) := impl_NameOk.g k a0 (fun z0 => some z0)
noncomputable def impl_NameOk.f {β : Type} (k : Nat) (a0 : ByteArray) (K : Bool → Option β) : Option β :=
  match impl_NameOk.t k a0 with
  | some z0 => K z0
  | none => none
noncomputable def impl_NameOk.as (a0 : ByteArray) : List A := [.d (.str a0)]
noncomputable def impl_NameOk.kt {β : Type} (a0 : ByteArray) (K0 : List (List C) → List Out → Option β) : Bool → Option β := fun z0 => K0 [[.d (.bool z0)]] []
noncomputable def impl_NameOk.e (k : Nat) : Entry := { modes := [(.imm, 0)], rts := [4], al := false, run := fun {β} l K => match l with | [.d (.str a0)] => impl_NameOk.f k a0 (impl_NameOk.kt a0 K) | _ => none }
noncomputable def impl_NameOk.E (k : Nat) : Env := fun g => bif g == 87 then some (impl_within.e k) else none
noncomputable def impl_NameOk.h : Hints := ⟨fun n => bif n == 2 then ⟨[(0, .asis), (6, .asis), (7, .asis)], []⟩ else ⟨[], []⟩, fun _ => none, false, []⟩
noncomputable def impl_NameOk.s0 (v0_0 : ByteArray) (v0_1 : Int) (v : Int) : St :=
  match v with
  | v0_2 => ⟨[.d false (.str v0_0), .any, .any, .any, .any, .any, .d true (.int .i64 v0_1), .d true (.int .i64 v0_2), .any, .any, .any, .any, .any, .any, .any, .any, .any, .any, .any, .any, .any, .any, .any, .any, .any, .any, .any, .any, .any, .any, .any, .any, .any, .any, .any, .any, .any, .any, .any, .any, .any, .any, .any, .any, .any, .any, .any, .any], []⟩
noncomputable def impl_NameOk.b0 {β : Type} (k : Nat) : St → (Ex → St → Option β) → Option β := fun s K => den Try.prog (impl_NameOk.E k) impl_NameOk.h.H impl_NameOk.h.J k (codeAt [1, 0, 1, 0, 0] (codeOf Try.f72)) s K
noncomputable def impl_NameOk.c0 {β : Type} (k : Nat) (a0 : ByteArray) (K0 : List (List C) → List Out → Option β) : Ex → St → Option β := contAt Try.prog (impl_NameOk.E k) impl_NameOk.h k [1, 0, 1, 0] (codeOf Try.f72) (finDen Try.prog Try.f72 impl_NameOk.h (impl_NameOk.as a0) K0)
theorem impl_NameOk.l0_eq {β : Type} (k : Nat) (a0 : ByteArray) (K0 : List (List C) → List Out → Option β) (v0_0 : ByteArray) (v0_1 : Int) : ∀ (kk : Nat) (v : Int), loopDen (impl_NameOk.b0 k) (impl_NameOk.h.H 2) kk (impl_NameOk.s0 v0_0 v0_1 v) (impl_NameOk.c0 k a0 K0) = iter (impl_NameOk.l0 k v0_0 v0_1 (impl_NameOk.kt a0 K0)) kk v :=
  loop_eq (impl_NameOk.s0 v0_0 v0_1) _ (fun L0 v => by kernel_rfl)
noncomputable def impl_NameOk.m {β : Type} (k : Nat) (a0 : ByteArray) (K0 : List (List C) → List Out → Option β) (F : (ByteArray → Int → Int → Option β)) : Option β :=
  (F) a0 (a0.size : Int) (0)
theorem impl_NameOk.f_eq {β : Type} (k : Nat) (a0 : ByteArray) (K0 : List (List C) → List Out → Option β) : funDen Try.prog (impl_NameOk.E k) impl_NameOk.h k Try.f72 (impl_NameOk.as a0) K0 = impl_NameOk.g k a0 (impl_NameOk.kt a0 K0) := Eq.trans (b := (impl_NameOk.m k a0 K0) (fun (v0_0 : ByteArray) (v0_1 : Int) (v : Int) => loopDen (impl_NameOk.b0 k) (impl_NameOk.h.H 2) k (impl_NameOk.s0 v0_0 v0_1 v) (impl_NameOk.c0 k a0 K0))) (by kernel_rfl) (Eq.trans (congrArg (impl_NameOk.m k a0 K0) (funext fun v0_0 => funext fun v0_1 => funext fun v => impl_NameOk.l0_eq k a0 K0 v0_0 v0_1 k v)) (by kernel_rfl))
noncomputable def impl_NameOk.dec (rs : List (List C)) (os : List Out) : Option (Bool) := uncons rs fun c1 r2 => uncons c1 fun x3 l4 => cD x3 fun d5 => dBool d5 fun w0 => atEnd l4 <| atEnd r2 <| atEnd os (some w0)
theorem impl_NameOk.kt_dec (a0 : ByteArray) : impl_NameOk.kt a0 impl_NameOk.dec = (fun z0 => some z0) := by kernel_rfl
theorem impl_NameOk.inj (a0 : ByteArray) {rs : List (List C)} {os : List Out} {z0 : Bool} (h : impl_NameOk.dec rs os = some z0) (ho : OutShape (impl_NameOk.as a0) os) : rs = [[.d (.bool z0)]] ∧ os = [] := by
  unfold impl_NameOk.dec at h
  obtain ⟨c1, r2, rfl, h1⟩ := uncons_some h
  obtain ⟨x3, l4, rfl, h2⟩ := uncons_some h1
  obtain ⟨d5, rfl, h3⟩ := cD_some h2
  obtain ⟨w0, rfl, h4⟩ := dBool_some h3
  obtain ⟨rfl, h5⟩ := atEnd_some h4
  obtain ⟨rfl, h6⟩ := atEnd_some h5
  obtain ⟨rfl, h7⟩ := atEnd_some h6
  obtain rfl := Option.some.inj h7
  exact ⟨rfl, rfl⟩
theorem impl_NameOk.ok (k : Nat) : EntryOK Try.prog 72 (impl_NameOk.e k) := by
  refine entry_of mix tyok (fn := Try.f72) (c := codeOf Try.f72) Try.func72 (by kernel_rfl) (h := impl_NameOk.h) (k := k) (E := impl_NameOk.E k) (env_cons (impl_within.ok k) env_nil) (by kernel_rfl) (by kernel_rfl) rfl (enter_of Try.func72 (by kernel_rfl)) ?_
  intro β l K r hr
  simp only [impl_NameOk.e] at hr
  split at hr
  case h_2 => cases hr
  unfold impl_NameOk.f at hr
  split at hr
  case h_2 => cases hr
  rename_i hz
  exact ⟨_, _, hr, _, impl_NameOk.dec, _, (impl_NameOk.f_eq k _ impl_NameOk.dec).trans (by rw [impl_NameOk.kt_dec]; exact hz), fun rs os h ho => impl_NameOk.inj _ h ho⟩
/-! ### loop.example/g00119/impl.isCopies: function 75 -/
noncomputable def impl_isCopies.g {β : Type} (k : Nat) (a0 : Int) (K : Bool → Option β) : Option β :=
  impl_within.f k a0 0 10000 (fun y1 => K y1)
noncomputable def impl_isCopies.t (k : Nat) (a0 : Int) : Option (Bool) := impl_isCopies.g k a0 (fun z0 => some z0)
noncomputable def impl_isCopies.f {β : Type} (k : Nat) (a0 : Int) (K : Bool → Option β) : Option β :=
  match impl_isCopies.t k a0 with
  | some z0 => K z0
  | none => none
noncomputable def impl_isCopies.as (a0 : Int) : List A := [.d (.int .i64 a0)]
noncomputable def impl_isCopies.kt {β : Type} (a0 : Int) (K0 : List (List C) → List Out → Option β) : Bool → Option β := fun z0 => K0 [[.d (.bool z0)]] []
noncomputable def impl_isCopies.e (k : Nat) : Entry := { modes := [(.imm, 0)], rts := [4], al := false, run := fun {β} l K => match l with | [.d (.int .i64 a0)] => impl_isCopies.f k a0 (impl_isCopies.kt a0 K) | _ => none }
noncomputable def impl_isCopies.E (k : Nat) : Env := fun g => bif g == 87 then some (impl_within.e k) else none
noncomputable def impl_isCopies.h : Hints := ⟨fun n => ⟨[], []⟩, fun _ => none, false, []⟩
theorem impl_isCopies.f_eq {β : Type} (k : Nat) (a0 : Int) (K0 : List (List C) → List Out → Option β) : funDen Try.prog (impl_isCopies.E k) impl_isCopies.h k Try.f75 (impl_isCopies.as a0) K0 = impl_isCopies.g k a0 (impl_isCopies.kt a0 K0) := by kernel_rfl
noncomputable def impl_isCopies.dec (rs : List (List C)) (os : List Out) : Option (Bool) := uncons rs fun c1 r2 => uncons c1 fun x3 l4 => cD x3 fun d5 => dBool d5 fun w0 => atEnd l4 <| atEnd r2 <| atEnd os (some w0)
theorem impl_isCopies.kt_dec (a0 : Int) : impl_isCopies.kt a0 impl_isCopies.dec = (fun z0 => some z0) := by kernel_rfl
theorem impl_isCopies.inj (a0 : Int) {rs : List (List C)} {os : List Out} {z0 : Bool} (h : impl_isCopies.dec rs os = some z0) (ho : OutShape (impl_isCopies.as a0) os) : rs = [[.d (.bool z0)]] ∧ os = [] := by
  unfold impl_isCopies.dec at h
  obtain ⟨c1, r2, rfl, h1⟩ := uncons_some h
  obtain ⟨x3, l4, rfl, h2⟩ := uncons_some h1
  obtain ⟨d5, rfl, h3⟩ := cD_some h2
  obtain ⟨w0, rfl, h4⟩ := dBool_some h3
  obtain ⟨rfl, h5⟩ := atEnd_some h4
  obtain ⟨rfl, h6⟩ := atEnd_some h5
  obtain ⟨rfl, h7⟩ := atEnd_some h6
  obtain rfl := Option.some.inj h7
  exact ⟨rfl, rfl⟩
theorem impl_isCopies.ok (k : Nat) : EntryOK Try.prog 75 (impl_isCopies.e k) := by
  refine entry_of mix tyok (fn := Try.f75) (c := codeOf Try.f75) Try.func75 (by kernel_rfl) (h := impl_isCopies.h) (k := k) (E := impl_isCopies.E k) (env_cons (impl_within.ok k) env_nil) (by kernel_rfl) (by kernel_rfl) rfl (enter_of Try.func75 (by kernel_rfl)) ?_
  intro β l K r hr
  simp only [impl_isCopies.e] at hr
  split at hr
  case h_2 => cases hr
  unfold impl_isCopies.f at hr
  split at hr
  case h_2 => cases hr
  rename_i hz
  exact ⟨_, _, hr, _, impl_isCopies.dec, _, (impl_isCopies.f_eq k _ impl_isCopies.dec).trans (by rw [impl_isCopies.kt_dec]; exact hz), fun rs os h ho => impl_isCopies.inj _ h ho⟩
/-! ### loop.example/g00119/impl.namesOk: function 74 -/
noncomputable def impl_namesOk.l0 {β : Type} (k : Nat) (v0_0 : List (List D)) (v0_1 : Int) (v0_2 : List (List D)) (v0_3 : Int) (K : Bool → Option β) (L0 : Int → Option β) (v : Int) : Option β :=
  match v with
  | v0_4 => bif (decide ((v0_4 : Int) < v0_3)) then (atRow v0_2 v0_4 fun c10 => uncons c10 fun d11 r12 => dStr d11 fun x13 => atEnd r12 (impl_NameOk.f k x13 (fun y14 => bif (!y14) then (K false) else (bif (decide ((v0_4 : Int) > 0)) then (atRow v0_0 (IntKind.wrap .i64 (v0_4 - 1)) fun c15 => uncons c15 fun d16 r17 => dStr d16 fun x18 => atEnd r17 (bif (!(strLt x18 x13)) then (K false) else (L0 (IntKind.wrap .i64 (v0_4 + 1))))) else (L0 (IntKind.wrap .i64 (v0_4 + 1))))))) else (K (decide (((v0_0.length : Int) : Int) ≤ v0_1)))
noncomputable def impl_namesOk.g {β : Type} (k : Nat) (a0 : List (List D)) (a1 : Int) (K : Bool → Option β) : Option β :=
  iter (impl_namesOk.l0 k a0 a1 a0 (a0.length : Int) K) k (0)
noncomputable def impl_namesOk.t (k : Nat) (a0 : List (List D)) (a1 : Int) : Option (Bool) := impl_namesOk.g k a0 a1 (fun z0 => some z0)
noncomputable def impl_namesOk.f {β : Type} (k : Nat) (a0 : List (List D)) (a1 : Int) (K : Bool → Option β) : Option β :=
  match impl_namesOk.t k a0 a1 with
  | some z0 => K z0
  | none => none
noncomputable def impl_namesOk.as (a0 : List (List D)) (a1 : Int) : List A := [.d (.sl a0), .d (.int .i64 a1)]
noncomputable def impl_namesOk.kt {β : Type} (a0 : List (List D)) (a1 : Int) (K0 : List (List C) → List Out → Option β) : Bool → Option β := fun z0 => K0 [[.d (.bool z0)]] []
noncomputable def impl_namesOk.e (k : Nat) : Entry := { modes := [(.imm, 0), (.imm, 0)], rts := [4], al := false, run := fun {β} l K => match l with | [.d (.sl a0), .d (.int .i64 a1)] => impl_namesOk.f k a0 a1 (impl_namesOk.kt a0 a1 K) | _ => none }
noncomputable def impl_namesOk.E (k : Nat) : Env := fun g => bif g == 72 then some (impl_NameOk.e k) else none
noncomputable def impl_namesOk.h : Hints := ⟨fun n => bif n == 2 then ⟨[(0, .asis), (1, .asis), (7, .asis), (8, .asis), (9, .asis)], []⟩ else ⟨[], []⟩, fun _ => none, false, []⟩
noncomputable def impl_namesOk.s0 (v0_0 : List (List D)) (v0_1 : Int) (v0_2 : List (List D)) (v0_3 : Int) (v : Int) : St :=
  match v with
  | v0_4 => ⟨[.d false (.sl v0_0), .d false (.int .i64 v0_1), .any, .any, .any, .any, .any, .d false (.sl v0_2), .d true (.int .i64 v0_3), .d true (.int .i64 v0_4), .any, .any, .any, .any, .any, .any, .any, .any, .any, .any, .any, .any, .any, .any, .any, .any, .any, .any, .any, .any, .any, .any, .any, .any, .any], []⟩
noncomputable def impl_namesOk.b0 {β : Type} (k : Nat) : St → (Ex → St → Option β) → Option β := fun s K => den Try.prog (impl_namesOk.E k) impl_namesOk.h.H impl_namesOk.h.J k (codeAt [1, 0, 1, 0, 0] (codeOf Try.f74)) s K
noncomputable def impl_namesOk.c0 {β : Type} (k : Nat) (a0 : List (List D)) (a1 : Int) (K0 : List (List C) → List Out → Option β) : Ex → St → Option β := contAt Try.prog (impl_namesOk.E k) impl_namesOk.h k [1, 0, 1, 0] (codeOf Try.f74) (finDen Try.prog Try.f74 impl_namesOk.h (impl_namesOk.as a0 a1) K0)
theorem impl_namesOk.l0_eq {β : Type} (k : Nat) (a0 : List (List D)) (a1 : Int) (K0 : List (List C) → List Out → Option β) (v0_0 : List (List D)) (v0_1 : Int) (v0_2 : List (List D)) (v0_3 : Int) : ∀ (kk : Nat) (v : Int), loopDen (impl_namesOk.b0 k) (impl_namesOk.h.H 2) kk (impl_namesOk.s0 v0_0 v0_1 v0_2 v0_3 v) (impl_namesOk.c0 k a0 a1 K0) = iter (impl_namesOk.l0 k v0_0 v0_1 v0_2 v0_3 (impl_namesOk.kt a0 a1 K0)) kk v :=
  loop_eq (impl_namesOk.s0 v0_0 v0_1 v0_2 v0_3) _ (fun L0 v => by kernel_rfl)
noncomputable def impl_namesOk.m {β : Type} (k : Nat) (a0 : List (List D)) (a1 : Int) (K0 : List (List C) → List Out → Option β) (F : ((List (List D)) → Int → (List (List D)) → Int → Int → Option β)) : Option β :=
  (F) a0 a1 a0 (a0.length : Int) (0)
theorem impl_namesOk.f_eq {β : Type} (k : Nat) (a0 : List (List D)) (a1 : Int) (K0 : List (List C) → List Out → Option β) : funDen Try.prog (impl_namesOk.E k) impl_namesOk.h k Try.f74 (impl_namesOk.as a0 a1) K0 = impl_namesOk.g k a0 a1 (impl_namesOk.kt a0 a1 K0) := Eq.trans (b := (impl_namesOk.m k a0 a1 K0) (fun (v0_0 : List (List D)) (v0_1 : Int) (v0_2 : List (List D)) (v0_3 : Int) (v : Int) => loopDen (impl_namesOk.b0 k) (impl_namesOk.h.H 2) k (impl_namesOk.s0 v0_0 v0_1 v0_2 v0_3 v) (impl_namesOk.c0 k a0 a1 K0))) (by kernel_rfl) (Eq.trans (congrArg (impl_namesOk.m k a0 a1 K0) (funext fun v0_0 => funext fun v0_1 => funext fun v0_2 => funext fun v0_3 => funext fun v => impl_namesOk.l0_eq k a0 a1 K0 v0_0 v0_1 v0_2 v0_3 k v)) (by kernel_rfl))
noncomputable def impl_namesOk.dec (rs : List (List C)) (os : List Out) : Option (Bool) := uncons rs fun c1 r2 => uncons c1 fun x3 l4 => cD x3 fun d5 => dBool d5 fun w0 => atEnd l4 <| atEnd r2 <| atEnd os (some w0)
theorem impl_namesOk.kt_dec (a0 : List (List D)) (a1 : Int) : impl_namesOk.kt a0 a1 impl_namesOk.dec = (fun z0 => some z0) := by kernel_rfl
theorem impl_namesOk.inj (a0 : List (List D)) (a1 : Int) {rs : List (List C)} {os : List Out} {z0 : Bool} (h : impl_namesOk.dec rs os = some z0) (ho : OutShape (impl_namesOk.as a0 a1) os) : rs = [[.d (.bool z0)]] ∧ os = [] := by
  unfold impl_namesOk.dec at h
  obtain ⟨c1, r2, rfl, h1⟩ := uncons_some h
  obtain ⟨x3, l4, rfl, h2⟩ := uncons_some h1
  obtain ⟨d5, rfl, h3⟩ := cD_some h2
  obtain ⟨w0, rfl, h4⟩ := dBool_some h3
  obtain ⟨rfl, h5⟩ := atEnd_some h4
  obtain ⟨rfl, h6⟩ := atEnd_some h5
  obtain ⟨rfl, h7⟩ := atEnd_some h6
  obtain rfl := Option.some.inj h7
  exact ⟨rfl, rfl⟩
theorem impl_namesOk.ok (k : Nat) : EntryOK Try.prog 74 (impl_namesOk.e k) := by
  refine entry_of mix tyok (fn := Try.f74) (c := codeOf Try.f74) Try.func74 (by kernel_rfl) (h := impl_namesOk.h) (k := k) (E := impl_namesOk.E k) (env_cons (impl_NameOk.ok k) env_nil) (by kernel_rfl) (by kernel_rfl) rfl (enter_of Try.func74 (by kernel_rfl)) ?_
  intro β l K r hr
  simp only [impl_namesOk.e] at hr
  split at hr
  case h_2 => cases hr
  unfold impl_namesOk.f at hr
  split at hr
  case h_2 => cases hr
  rename_i hz
  exact ⟨_, _, hr, _, impl_namesOk.dec, _, (impl_namesOk.f_eq k _ _ impl_namesOk.dec).trans (by rw [impl_namesOk.kt_dec]; exact hz), fun rs os h ho => impl_namesOk.inj _ _ h ho⟩
/-! ### loop.example/g00119/impl.shapeOk: function 193 -/
noncomputable def impl_shapeOk.l0 {β : Type} (k : Nat) (v0_0 : Bool) (v0_1 : Bool) (v0_2 : Bool) (v0_3 : Int) (v0_5 : Int) (v0_6 : ByteArray) (v0_7 : Int) (v0_8 : List (List D)) (v0_9 : List (List D)) (K : Bool → Option β) (L0 : Int → Option β) (v : Int) : Option β :=
  match v with
  | v0_4 => bif (decide ((v0_4 : Int) < v0_3)) then (atStr v0_6 v0_4 fun b3 => impl_within.f k (IntKind.wrap .i64 b3) 32 126 (fun y4 => bif (!y4) then (K false) else (L0 (IntKind.wrap .i64 (v0_4 + 1))))) else (bif (decide (((v0_6.size : Int) : Int) ≤ 100)) then (bif v0_0 then (bif v0_1 then (K v0_2) else (K false)) else (K false)) else (K false))
noncomputable def impl_shapeOk.g {β : Type} (k : Nat) (a0_0 : Int) (a0_1 : ByteArray) (a0_2 : Int) (a0_3 : List (List D)) (a0_4 : List (List D)) (K : Bool → Option β) : Option β :=
  bif ((a0_0 : Int) == 1) then (iter (impl_shapeOk.l0 k ((a0_2 : Int) == 0) (((a0_3.length : Int) : Int) == 0) (((a0_4.length : Int) : Int) == 0) (a0_1.size : Int) a0_0 a0_1 a0_2 a0_3 a0_4 K) k (0)) else (bif ((a0_0 : Int) == 2) then (bif (strEq a0_1 (⟨#[]⟩ : ByteArray)) then (bif (((a0_3.length : Int) : Int) == 0) then (K (((a0_4.length : Int) : Int) == 0)) else (K false)) else (K false)) else (bif ((a0_0 : Int) == 3) then (impl_within.f k a0_2 0 1 (fun y5 => bif (strEq a0_1 (⟨#[]⟩ : ByteArray)) then (bif y5 then (bif (((a0_3.length : Int) : Int) == 0) then (K (((a0_4.length : Int) : Int) == 0)) else (K false)) else (K false)) else (K false))) else (bif ((a0_0 : Int) == 4) then (bif (strEq a0_1 (⟨#[]⟩ : ByteArray)) then (bif ((a0_2 : Int) == 0) then (bif (((a0_3.length : Int) : Int) == 0) then (K true) else (K false)) else (K false)) else (K false)) else (bif ((a0_0 : Int) == 5) then (impl_namesOk.f k a0_3 300 (fun y19 => bif y19 then (bif (strEq a0_1 (⟨#[]⟩ : ByteArray)) then (bif ((a0_2 : Int) == 0) then (bif (((a0_3.length : Int) : Int) == (a0_4.length : Int)) then (K true) else (K false)) else (K false)) else (K false)) else (bif (strEq a0_1 (⟨#[]⟩ : ByteArray)) then (bif ((a0_2 : Int) == 0) then (K false) else (K false)) else (K false)))) else (K false)))))
noncomputable def impl_shapeOk.t (k : Nat) (a0_0 : Int) (a0_1 : ByteArray) (a0_2 : Int) (a0_3 : List (List D)) (a0_4 : List (List D)) : Option (Bool) := impl_shapeOk.g k a0_0 a0_1 a0_2 a0_3 a0_4 (fun z0 => some z0)
noncomputable def impl_shapeOk.f {β : Type} (k : Nat) (a0_0 : Int) (a0_1 : ByteArray) (a0_2 : Int) (a0_3 : List (List D)) (a0_4 : List (List D)) (K : Bool → Option β) : Option β :=
  match impl_shapeOk.t k a0_0 a0_1 a0_2 a0_3 a0_4 with
  | some z0 => K z0
  | none => none
noncomputable def impl_shapeOk.as (a0_0 : Int) (a0_1 : ByteArray) (a0_2 : Int) (a0_3 : List (List D)) (a0_4 : List (List D)) : List A := [.agg [.int .i64 a0_0, .str a0_1, .int .i64 a0_2, .sl a0_3, .sl a0_4]]
noncomputable def impl_shapeOk.kt {β : Type} (a0_0 : Int) (a0_1 : ByteArray) (a0_2 : Int) (a0_3 : List (List D)) (a0_4 : List (List D)) (K0 : List (List C) → List Out → Option β) : Bool → Option β := fun z0 => K0 [[.d (.bool z0)]] []
noncomputable def impl_shapeOk.e (k : Nat) : Entry := { modes := [(.imm, 0)], rts := [4], al := false, run := fun {β} l K => match l with | [.agg [.int .i64 a0_0, .str a0_1, .int .i64 a0_2, .sl a0_3, .sl a0_4]] => impl_shapeOk.f k a0_0 a0_1 a0_2 a0_3 a0_4 (impl_shapeOk.kt a0_0 a0_1 a0_2 a0_3 a0_4 K) | _ => none }
noncomputable def impl_shapeOk.E (k : Nat) : Env := fun g => bif g == 87 then some (impl_within.e k) else bif g == 74 then some (impl_namesOk.e k) else none
noncomputable def impl_shapeOk.h : Hints := ⟨fun n => bif n == 6 then ⟨[(1, .asis), (4, .asis), (5, .asis), (6, .asis), (28, .asis), (29, .asis)], []⟩ else ⟨[], []⟩, fun _ => none, false, []⟩
noncomputable def impl_shapeOk.s0 (v0_0 : Bool) (v0_1 : Bool) (v0_2 : Bool) (v0_3 : Int) (v0_5 : Int) (v0_6 : ByteArray) (v0_7 : Int) (v0_8 : List (List D)) (v0_9 : List (List D)) (v : Int) : St :=
  match v with
  | v0_4 => ⟨[.any, .bp 0 0, .any, .any, .d true (.bool v0_0), .d true (.bool v0_1), .d true (.bool v0_2), .any, .any, .any, .any, .any, .any, .any, .any, .any, .any, .any, .any, .any, .any, .any, .any, .any, .any, .any, .any, .any, .d true (.int .i64 v0_3), .d true (.int .i64 v0_4), .any, .any, .any, .any, .any, .any, .any, .any, .any, .any, .any, .any, .any, .any, .any, .any, .any, .any, .any, .any, .any, .any, .any, .any, .any, .any, .any, .any, .any, .any, .any, .any, .any, .any, .any, .any, .any, .any, .any, .any, .any, .any, .any, .any, .any, .any, .any], [.box none 151 [.d false (.int .i64 v0_5), .d false (.str v0_6), .d false (.int .i64 v0_7), .d false (.sl v0_8), .d false (.sl v0_9)]]⟩
noncomputable def impl_shapeOk.b0 {β : Type} (k : Nat) : St → (Ex → St → Option β) → Option β := fun s K => den Try.prog (impl_shapeOk.E k) impl_shapeOk.h.H impl_shapeOk.h.J k (codeAt [1, 1, 0, 1, 0, 1, 0, 0, 1, 0, 0] (codeOf Try.f193)) s K
noncomputable def impl_shapeOk.c0 {β : Type} (k : Nat) (a0_0 : Int) (a0_1 : ByteArray) (a0_2 : Int) (a0_3 : List (List D)) (a0_4 : List (List D)) (K0 : List (List C) → List Out → Option β) : Ex → St → Option β := contAt Try.prog (impl_shapeOk.E k) impl_shapeOk.h k [1, 1, 0, 1, 0, 1, 0, 0, 1, 0] (codeOf Try.f193) (finDen Try.prog Try.f193 impl_shapeOk.h (impl_shapeOk.as a0_0 a0_1 a0_2 a0_3 a0_4) K0)
theorem impl_shapeOk.l0_eq {β : Type} (k : Nat) (a0_0 : Int) (a0_1 : ByteArray) (a0_2 : Int) (a0_3 : List (List D)) (a0_4 : List (List D)) (K0 : List (List C) → List Out → Option β) (v0_0 : Bool) (v0_1 : Bool) (v0_2 : Bool) (v0_3 : Int) (v0_5 : Int) (v0_6 : ByteArray) (v0_7 : Int) (v0_8 : List (List D)) (v0_9 : List (List D)) : ∀ (kk : Nat) (v : Int), loopDen (impl_shapeOk.b0 k) (impl_shapeOk.h.H 6) kk (impl_shapeOk.s0 v0_0 v0_1 v0_2 v0_3 v0_5 v0_6 v0_7 v0_8 v0_9 v) (impl_shapeOk.c0 k a0_0 a0_1 a0_2 a0_3 a0_4 K0) = iter (impl_shapeOk.l0 k v0_0 v0_1 v0_2 v0_3 v0_5 v0_6 v0_7 v0_8 v0_9 (impl_shapeOk.kt a0_0 a0_1 a0_2 a0_3 a0_4 K0)) kk v :=
  loop_eq (impl_shapeOk.s0 v0_0 v0_1 v0_2 v0_3 v0_5 v0_6 v0_7 v0_8 v0_9) _ (fun L0 v => by kernel_rfl)
noncomputable def impl_shapeOk.m {β : Type} (k : Nat) (a0_0 : Int) (a0_1 : ByteArray) (a0_2 : Int) (a0_3 : List (List D)) (a0_4 : List (List D)) (K0 : List (List C) → List Out → Option β) (F : (Bool → Bool → Bool → Int → Int → ByteArray → Int → (List (List D)) → (List (List D)) → Int → Option β)) : Option β :=
  bif ((a0_0 : Int) == 1) then ((F) ((a0_2 : Int) == 0) (((a0_3.length : Int) : Int) == 0) (((a0_4.length : Int) : Int) == 0) (a0_1.size : Int) a0_0 a0_1 a0_2 a0_3 a0_4 (0)) else (bif ((a0_0 : Int) == 2) then (bif (strEq a0_1 (⟨#[]⟩ : ByteArray)) then (bif (((a0_3.length : Int) : Int) == 0) then ((impl_shapeOk.kt a0_0 a0_1 a0_2 a0_3 a0_4 K0) (((a0_4.length : Int) : Int) == 0)) else ((impl_shapeOk.kt a0_0 a0_1 a0_2 a0_3 a0_4 K0) false)) else ((impl_shapeOk.kt a0_0 a0_1 a0_2 a0_3 a0_4 K0) false)) else (bif ((a0_0 : Int) == 3) then (impl_within.f k a0_2 0 1 (fun y5 => bif (strEq a0_1 (⟨#[]⟩ : ByteArray)) then (bif y5 then (bif (((a0_3.length : Int) : Int) == 0) then ((impl_shapeOk.kt a0_0 a0_1 a0_2 a0_3 a0_4 K0) (((a0_4.length : Int) : Int) == 0)) else ((impl_shapeOk.kt a0_0 a0_1 a0_2 a0_3 a0_4 K0) false)) else ((impl_shapeOk.kt a0_0 a0_1 a0_2 a0_3 a0_4 K0) false)) else ((impl_shapeOk.kt a0_0 a0_1 a0_2 a0_3 a0_4 K0) false))) else (bif ((a0_0 : Int) == 4) then (bif (strEq a0_1 (⟨#[]⟩ : ByteArray)) then (bif ((a0_2 : Int) == 0) then (bif (((a0_3.length : Int) : Int) == 0) then ((impl_shapeOk.kt a0_0 a0_1 a0_2 a0_3 a0_4 K0) true) else ((impl_shapeOk.kt a0_0 a0_1 a0_2 a0_3 a0_4 K0) false)) else ((impl_shapeOk.kt a0_0 a0_1 a0_2 a0_3 a0_4 K0) false)) else ((impl_shapeOk.kt a0_0 a0_1 a0_2 a0_3 a0_4 K0) false)) else (bif ((a0_0 : Int) == 5) then (impl_namesOk.f k a0_3 300 (fun y19 => bif y19 then (bif (strEq a0_1 (⟨#[]⟩ : ByteArray)) then (bif ((a0_2 : Int) == 0) then (bif (((a0_3.length : Int) : Int) == (a0_4.length : Int)) then ((impl_shapeOk.kt a0_0 a0_1 a0_2 a0_3 a0_4 K0) true) else ((impl_shapeOk.kt a0_0 a0_1 a0_2 a0_3 a0_4 K0) false)) else ((impl_shapeOk.kt a0_0 a0_1 a0_2 a0_3 a0_4 K0) false)) else ((impl_shapeOk.kt a0_0 a0_1 a0_2 a0_3 a0_4 K0) false)) else (bif (strEq a0_1 (⟨#[]⟩ : ByteArray)) then (bif ((a0_2 : Int) == 0) then ((impl_shapeOk.kt a0_0 a0_1 a0_2 a0_3 a0_4 K0) false) else ((impl_shapeOk.kt a0_0 a0_1 a0_2 a0_3 a0_4 K0) false)) else ((impl_shapeOk.kt a0_0 a0_1 a0_2 a0_3 a0_4 K0) false)))) else ((impl_shapeOk.kt a0_0 a0_1 a0_2 a0_3 a0_4 K0) false)))))
theorem impl_shapeOk.f_eq {β : Type} (k : Nat) (a0_0 : Int) (a0_1 : ByteArray) (a0_2 : Int) (a0_3 : List (List D)) (a0_4 : List (List D)) (K0 : List (List C) → List Out → Option β) : funDen Try.prog (impl_shapeOk.E k) impl_shapeOk.h k Try.f193 (impl_shapeOk.as a0_0 a0_1 a0_2 a0_3 a0_4) K0 = impl_shapeOk.g k a0_0 a0_1 a0_2 a0_3 a0_4 (impl_shapeOk.kt a0_0 a0_1 a0_2 a0_3 a0_4 K0) := Eq.trans (b := (impl_shapeOk.m k a0_0 a0_1 a0_2 a0_3 a0_4 K0) (fun (v0_0 : Bool) (v0_1 : Bool) (v0_2 : Bool) (v0_3 : Int) (v0_5 : Int) (v0_6 : ByteArray) (v0_7 : Int) (v0_8 : List (List D)) (v0_9 : List (List D)) (v : Int) => loopDen (impl_shapeOk.b0 k) (impl_shapeOk.h.H 6) k (impl_shapeOk.s0 v0_0 v0_1 v0_2 v0_3 v0_5 v0_6 v0_7 v0_8 v0_9 v) (impl_shapeOk.c0 k a0_0 a0_1 a0_2 a0_3 a0_4 K0))) (by kernel_rfl) (Eq.trans (congrArg (impl_shapeOk.m k a0_0 a0_1 a0_2 a0_3 a0_4 K0) (funext fun v0_0 => funext fun v0_1 => funext fun v0_2 => funext fun v0_3 => funext fun v0_5 => funext fun v0_6 => funext fun v0_7 => funext fun v0_8 => funext fun v0_9 => funext fun v => impl_shapeOk.l0_eq k a0_0 a0_1 a0_2 a0_3 a0_4 K0 v0_0 v0_1 v0_2 v0_3 v0_5 v0_6 v0_7 v0_8 v0_9 k v)) (by kernel_rfl))
noncomputable def impl_shapeOk.dec (rs : List (List C)) (os : List Out) : Option (Bool) := uncons rs fun c1 r2 => uncons c1 fun x3 l4 => cD x3 fun d5 => dBool d5 fun w0 => atEnd l4 <| atEnd r2 <| atEnd os (some w0)
theorem impl_shapeOk.kt_dec (a0_0 : Int) (a0_1 : ByteArray) (a0_2 : Int) (a0_3 : List (List D)) (a0_4 : List (List D)) : impl_shapeOk.kt a0_0 a0_1 a0_2 a0_3 a0_4 impl_shapeOk.dec = (fun z0 => some z0) := by kernel_rfl
theorem impl_shapeOk.inj (a0_0 : Int) (a0_1 : ByteArray) (a0_2 : Int) (a0_3 : List (List D)) (a0_4 : List (List D)) {rs : List (List C)} {os : List Out} {z0 : Bool} (h : impl_shapeOk.dec rs os = some z0) (ho : OutShape (impl_shapeOk.as a0_0 a0_1 a0_2 a0_3 a0_4) os) : rs = [[.d (.bool z0)]] ∧ os = [] := by
  unfold impl_shapeOk.dec at h
  obtain ⟨c1, r2, rfl, h1⟩ := uncons_some h
  obtain ⟨x3, l4, rfl, h2⟩ := uncons_some h1
  obtain ⟨d5, rfl, h3⟩ := cD_some h2
  obtain ⟨w0, rfl, h4⟩ := dBool_some h3
  obtain ⟨rfl, h5⟩ := atEnd_some h4
  obtain ⟨rfl, h6⟩ := atEnd_some h5
  obtain ⟨rfl, h7⟩ := atEnd_some h6
  obtain rfl := Option.some.inj h7
  exact ⟨rfl, rfl⟩
theorem impl_shapeOk.ok (k : Nat) : EntryOK Try.prog 193 (impl_shapeOk.e k) := by
  refine entry_of mix tyok (fn := Try.f193) (c := codeOf Try.f193) Try.func193 (by kernel_rfl) (h := impl_shapeOk.h) (k := k) (E := impl_shapeOk.E k) (env_cons (impl_within.ok k) (env_cons (impl_namesOk.ok k) env_nil)) (by kernel_rfl) (by kernel_rfl) rfl (enter_of Try.func193 (by kernel_rfl)) ?_
  intro β l K r hr
  simp only [impl_shapeOk.e] at hr
  split at hr
  case h_2 => cases hr
  unfold impl_shapeOk.f at hr
  split at hr
  case h_2 => cases hr
  rename_i hz
  exact ⟨_, _, hr, _, impl_shapeOk.dec, _, (impl_shapeOk.f_eq k _ _ _ _ _ impl_shapeOk.dec).trans (by rw [impl_shapeOk.kt_dec]; exact hz), fun rs os h ho => impl_shapeOk.inj _ _ _ _ _ h ho⟩
/-! ### loop.example/g00119/impl.measured: function 162 -/
noncomputable def impl_measured.l0 {β : Type} (k : Nat) (r_impl_measured : Int → ByteArray → Int → (List (List D)) → (List (List D)) → Int → (Int → Option β) → Option β) (v0_0 : Int) (v0_2 : List (List D)) (v0_3 : Int) (K : Int → Option β) (L0 : (Int × Int) → Option β) (v : Int × Int) : Option β :=
  match v with
  | (v0_1, v0_4) => bif (decide ((v0_4 : Int) < v0_3)) then (atRow v0_2 v0_4 fun c38 => uncons c38 fun d39 r40 => dInt .i64 d39 fun x41 => uncons r40 fun d42 r43 => dStr d42 fun x44 => uncons r43 fun d45 r46 => dInt .i64 d45 fun x47 => uncons r46 fun d48 r49 => dSl d48 fun x50 => uncons r49 fun d51 r52 => dSl d51 fun x53 => atEnd r52 (r_impl_measured x41 x44 x47 x50 x53 (IntKind.wrap .i64 (v0_0 - 1)) (fun y54 => bif (decide (((IntKind.wrap .i64 (v0_1 + y54)) : Int) > 300)) then (K 301) else (L0 (IntKind.wrap .i64 (v0_1 + y54), IntKind.wrap .i64 (v0_4 + 1)))))) else (K v0_1)
noncomputable def impl_measured.body {β : Type} (k : Nat) (r_impl_measured : Int → ByteArray → Int → (List (List D)) → (List (List D)) → Int → (Int → Option β) → Option β) (a0_0 : Int) (a0_1 : ByteArray) (a0_2 : Int) (a0_3 : List (List D)) (a0_4 : List (List D)) (a1 : Int) (K : Int → Option β) : Option β :=
  bif ((a1 : Int) == 0) then (K 301) else (impl_shapeOk.f k a0_0 a0_1 a0_2 a0_3 a0_4 (fun y20 => bif (!y20) then (K 301) else (iter (impl_measured.l0 k r_impl_measured a1 a0_4 (a0_4.length : Int) K) k (1, 0))))
noncomputable def impl_measured.w {β : Type} (r : Int → ByteArray → Int → (List (List D)) → (List (List D)) → Int → Option (Int)) (a0_0 : Int) (a0_1 : ByteArray) (a0_2 : Int) (a0_3 : List (List D)) (a0_4 : List (List D)) (a1 : Int) (K : Int → Option β) : Option β :=
  match r a0_0 a0_1 a0_2 a0_3 a0_4 a1 with
  | some z0 => K z0
  | none => none
noncomputable def impl_measured.all : Nat → (Int → ByteArray → Int → (List (List D)) → (List (List D)) → Int → Option (Int))
  | 0 => (fun _ _ _ _ _ _ => none)
  | k + 1 => (fun r => (fun a0_0 a0_1 a0_2 a0_3 a0_4 a1 => impl_measured.body k (impl_measured.w r) a0_0 a0_1 a0_2 a0_3 a0_4 a1 (fun z0 => some z0))) (impl_measured.all k)
noncomputable def impl_measured.t (k : Nat) (a0_0 : Int) (a0_1 : ByteArray) (a0_2 : Int) (a0_3 : List (List D)) (a0_4 : List (List D)) (a1 : Int) : Option (Int) := (impl_measured.all k) a0_0 a0_1 a0_2 a0_3 a0_4 a1
noncomputable def impl_measured.f {β : Type} (k : Nat) (a0_0 : Int) (a0_1 : ByteArray) (a0_2 : Int) (a0_3 : List (List D)) (a0_4 : List (List D)) (a1 : Int) (K : Int → Option β) : Option β := impl_measured.w (impl_measured.t k) a0_0 a0_1 a0_2 a0_3 a0_4 a1 K
noncomputable def impl_measured.g {β : Type} (k : Nat) (a0_0 : Int) (a0_1 : ByteArray) (a0_2 : Int) (a0_3 : List (List D)) (a0_4 : List (List D)) (a1 : Int) (K : Int → Option β) : Option β := impl_measured.body k (impl_measured.f k) a0_0 a0_1 a0_2 a0_3 a0_4 a1 K
theorem impl_measured.t_zero (a0_0 : Int) (a0_1 : ByteArray) (a0_2 : Int) (a0_3 : List (List D)) (a0_4 : List (List D)) (a1 : Int) : impl_measured.t 0 a0_0 a0_1 a0_2 a0_3 a0_4 a1 = none := rfl
theorem impl_measured.t_succ (k : Nat) (a0_0 : Int) (a0_1 : ByteArray) (a0_2 : Int) (a0_3 : List (List D)) (a0_4 : List (List D)) (a1 : Int) : impl_measured.t (k + 1) a0_0 a0_1 a0_2 a0_3 a0_4 a1 = impl_measured.g k a0_0 a0_1 a0_2 a0_3 a0_4 a1 (fun z0 => some z0) := rfl
noncomputable def impl_measured.as (a0_0 : Int) (a0_1 : ByteArray) (a0_2 : Int) (a0_3 : List (List D)) (a0_4 : List (List D)) (a1 : Int) : List A := [.agg [.int .i64 a0_0, .str a0_1, .int .i64 a0_2, .sl a0_3, .sl a0_4], .d (.int .i64 a1)]
noncomputable def impl_measured.kt {β : Type} (a0_0 : Int) (a0_1 : ByteArray) (a0_2 : Int) (a0_3 : List (List D)) (a0_4 : List (List D)) (a1 : Int) (K0 : List (List C) → List Out → Option β) : Int → Option β := fun z0 => K0 [[.d (.int .i64 z0)]] []
noncomputable def impl_measured.e (k : Nat) : Entry := { modes := [(.imm, 0), (.imm, 0)], rts := [3], al := false, run := fun {β} l K => match l with | [.agg [.int .i64 a0_0, .str a0_1, .int .i64 a0_2, .sl a0_3, .sl a0_4], .d (.int .i64 a1)] => impl_measured.f k a0_0 a0_1 a0_2 a0_3 a0_4 a1 (impl_measured.kt a0_0 a0_1 a0_2 a0_3 a0_4 a1 K) | _ => none }
noncomputable def impl_measured.E (k : Nat) : Env := fun g => bif g == 193 then some (impl_shapeOk.e k) else bif g == 162 then some (impl_measured.e k) else none
noncomputable def impl_measured.h : Hints := ⟨fun n => bif n == 5 then ⟨[(1, .asis), (5, .asis), (16, .asis), (17, .asis), (18, .asis)], []⟩ else ⟨[], []⟩, fun _ => none, false, []⟩
noncomputable def impl_measured.s0 (v0_0 : Int) (v0_2 : List (List D)) (v0_3 : Int) (v : Int × Int) : St :=
  match v with
  | (v0_1, v0_4) => ⟨[.any, .d false (.int .i64 v0_0), .any, .any, .any, .d true (.int .i64 v0_1), .any, .any, .any, .any, .any, .any, .any, .any, .any, .any, .d false (.sl v0_2), .d true (.int .i64 v0_3), .d true (.int .i64 v0_4), .any, .any, .any, .any, .any, .any, .any, .any, .any, .any, .any, .any, .any], []⟩
noncomputable def impl_measured.b0 {β : Type} (k : Nat) : St → (Ex → St → Option β) → Option β := fun s K => den Try.prog (impl_measured.E k) impl_measured.h.H impl_measured.h.J k (codeAt [1, 1, 1, 0, 1, 0, 0] (codeOf Try.f162)) s K
noncomputable def impl_measured.c0 {β : Type} (k : Nat) (a0_0 : Int) (a0_1 : ByteArray) (a0_2 : Int) (a0_3 : List (List D)) (a0_4 : List (List D)) (a1 : Int) (K0 : List (List C) → List Out → Option β) : Ex → St → Option β := contAt Try.prog (impl_measured.E k) impl_measured.h k [1, 1, 1, 0, 1, 0] (codeOf Try.f162) (finDen Try.prog Try.f162 impl_measured.h (impl_measured.as a0_0 a0_1 a0_2 a0_3 a0_4 a1) K0)
theorem impl_measured.l0_eq {β : Type} (k : Nat) (a0_0 : Int) (a0_1 : ByteArray) (a0_2 : Int) (a0_3 : List (List D)) (a0_4 : List (List D)) (a1 : Int) (K0 : List (List C) → List Out → Option β) (v0_0 : Int) (v0_2 : List (List D)) (v0_3 : Int) : ∀ (kk : Nat) (v : Int × Int), loopDen (impl_measured.b0 k) (impl_measured.h.H 5) kk (impl_measured.s0 v0_0 v0_2 v0_3 v) (impl_measured.c0 k a0_0 a0_1 a0_2 a0_3 a0_4 a1 K0) = iter (impl_measured.l0 k (impl_measured.f k) v0_0 v0_2 v0_3 (impl_measured.kt a0_0 a0_1 a0_2 a0_3 a0_4 a1 K0)) kk v :=
  loop_eq (impl_measured.s0 v0_0 v0_2 v0_3) _ (fun L0 v => by obtain ⟨v0_1, v0_4⟩ := v; kernel_rfl)
noncomputable def impl_measured.m {β : Type} (k : Nat) (a0_0 : Int) (a0_1 : ByteArray) (a0_2 : Int) (a0_3 : List (List D)) (a0_4 : List (List D)) (a1 : Int) (K0 : List (List C) → List Out → Option β) (F : (Int → (List (List D)) → Int → (Int × Int) → Option β)) : Option β :=
  bif ((a1 : Int) == 0) then ((impl_measured.kt a0_0 a0_1 a0_2 a0_3 a0_4 a1 K0) 301) else (impl_shapeOk.f k a0_0 a0_1 a0_2 a0_3 a0_4 (fun y20 => bif (!y20) then ((impl_measured.kt a0_0 a0_1 a0_2 a0_3 a0_4 a1 K0) 301) else ((F) a1 a0_4 (a0_4.length : Int) (1, 0))))
theorem impl_measured.f_eq {β : Type} (k : Nat) (a0_0 : Int) (a0_1 : ByteArray) (a0_2 : Int) (a0_3 : List (List D)) (a0_4 : List (List D)) (a1 : Int) (K0 : List (List C) → List Out → Option β) : funDen Try.prog (impl_measured.E k) impl_measured.h k Try.f162 (impl_measured.as a0_0 a0_1 a0_2 a0_3 a0_4 a1) K0 = impl_measured.g k a0_0 a0_1 a0_2 a0_3 a0_4 a1 (impl_measured.kt a0_0 a0_1 a0_2 a0_3 a0_4 a1 K0) := Eq.trans (b := (impl_measured.m k a0_0 a0_1 a0_2 a0_3 a0_4 a1 K0) (fun (v0_0 : Int) (v0_2 : List (List D)) (v0_3 : Int) (v : Int × Int) => loopDen (impl_measured.b0 k) (impl_measured.h.H 5) k (impl_measured.s0 v0_0 v0_2 v0_3 v) (impl_measured.c0 k a0_0 a0_1 a0_2 a0_3 a0_4 a1 K0))) (by kernel_rfl) (Eq.trans (congrArg (impl_measured.m k a0_0 a0_1 a0_2 a0_3 a0_4 a1 K0) (funext fun v0_0 => funext fun v0_2 => funext fun v0_3 => funext fun v => impl_measured.l0_eq k a0_0 a0_1 a0_2 a0_3 a0_4 a1 K0 v0_0 v0_2 v0_3 k v)) (by kernel_rfl))
noncomputable def impl_measured.dec (rs : List (List C)) (os : List Out) : Option (Int) := uncons rs fun c1 r2 => uncons c1 fun x3 l4 => cD x3 fun d5 => dInt .i64 d5 fun w0 => atEnd l4 <| atEnd r2 <| atEnd os (some w0)
theorem impl_measured.kt_dec (a0_0 : Int) (a0_1 : ByteArray) (a0_2 : Int) (a0_3 : List (List D)) (a0_4 : List (List D)) (a1 : Int) : impl_measured.kt a0_0 a0_1 a0_2 a0_3 a0_4 a1 impl_measured.dec = (fun z0 => some z0) := by kernel_rfl
theorem impl_measured.inj (a0_0 : Int) (a0_1 : ByteArray) (a0_2 : Int) (a0_3 : List (List D)) (a0_4 : List (List D)) (a1 : Int) {rs : List (List C)} {os : List Out} {z0 : Int} (h : impl_measured.dec rs os = some z0) (ho : OutShape (impl_measured.as a0_0 a0_1 a0_2 a0_3 a0_4 a1) os) : rs = [[.d (.int .i64 z0)]] ∧ os = [] := by
  unfold impl_measured.dec at h
  obtain ⟨c1, r2, rfl, h1⟩ := uncons_some h
  obtain ⟨x3, l4, rfl, h2⟩ := uncons_some h1
  obtain ⟨d5, rfl, h3⟩ := cD_some h2
  obtain ⟨w0, rfl, h4⟩ := dInt_some h3
  obtain ⟨rfl, h5⟩ := atEnd_some h4
  obtain ⟨rfl, h6⟩ := atEnd_some h5
  obtain ⟨rfl, h7⟩ := atEnd_some h6
  obtain rfl := Option.some.inj h7
  exact ⟨rfl, rfl⟩
theorem impl_measured.oks (k : Nat) : EntryOK Try.prog 162 (impl_measured.e k) := by
  induction k with
  | zero =>
    refine ?_
    · exact entry_zero (enter_of Try.func162 (by kernel_rfl)) fun β l K r h => by
        simp only [impl_measured.e] at h
        split at h
        · unfold impl_measured.f at h
          unfold impl_measured.w at h
          rw [impl_measured.t_zero] at h
          cases h
        · cases h
  | succ k ih =>
    refine ?_
    · refine entry_of mix tyok (fn := Try.f162) (c := codeOf Try.f162) Try.func162 (by kernel_rfl) (h := impl_measured.h) (k := k) (E := impl_measured.E k) (env_cons (impl_shapeOk.ok k) (env_cons ih env_nil)) (by kernel_rfl) (by kernel_rfl) rfl (enter_of Try.func162 (by kernel_rfl)) ?_
      intro β l K r hr
      simp only [impl_measured.e] at hr
      split at hr
      case h_2 => cases hr
      unfold impl_measured.f at hr
      unfold impl_measured.w at hr
      split at hr
      case h_2 => cases hr
      rename_i hz
      exact ⟨_, _, hr, _, impl_measured.dec, _, (impl_measured.f_eq k _ _ _ _ _ _ impl_measured.dec).trans (by rw [impl_measured.kt_dec]; exact hz), fun rs os h ho => impl_measured.inj _ _ _ _ _ _ h ho⟩
theorem impl_measured.ok (k : Nat) : EntryOK Try.prog 162 (impl_measured.e k) := (impl_measured.oks k)
/-! ### loop.example/g00119/impl.ValueOk: function 103 -/
noncomputable def impl_ValueOk.g {β : Type} (k : Nat) (a0_0 : Int) (a0_1 : ByteArray) (a0_2 : Int) (a0_3 : List (List D)) (a0_4 : List (List D)) (K : Bool → Option β) : Option β :=
  impl_measured.f k a0_0 a0_1 a0_2 a0_3 a0_4 6 (fun y55 => K (decide ((y55 : Int) ≤ 300)))
noncomputable def impl_ValueOk.t (k : Nat) (a0_0 : Int) (a0_1 : ByteArray) (a0_2 : Int) (a0_3 : List (List D)) (a0_4 : List (List D)) : Option (Bool) := impl_ValueOk.g k a0_0 a0_1 a0_2 a0_3 a0_4 (fun z0 => some z0)
noncomputable def impl_ValueOk.f {β : Type} (k : Nat) (a0_0 : Int) (a0_1 : ByteArray) (a0_2 : Int) (a0_3 : List (List D)) (a0_4 : List (List D)) (K : Bool → Option β) : Option β :=
  match impl_ValueOk.t k a0_0 a0_1 a0_2 a0_3 a0_4 with
  | some z0 => K z0
  | none => none
noncomputable def impl_ValueOk.as (a0_0 : Int) (a0_1 : ByteArray) (a0_2 : Int) (a0_3 : List (List D)) (a0_4 : List (List D)) : List A := [.agg [.int .i64 a0_0, .str a0_1, .int .i64 a0_2, .sl a0_3, .sl a0_4]]
noncomputable def impl_ValueOk.kt {β : Type} (a0_0 : Int) (a0_1 : ByteArray) (a0_2 : Int) (a0_3 : List (List D)) (a0_4 : List (List D)) (K0 : List (List C) → List Out → Option β) : Bool → Option β := fun z0 => K0 [[.d (.bool z0)]] []
noncomputable def impl_ValueOk.e (k : Nat) : Entry := { modes := [(.imm, 0)], rts := [4], al := false, run := fun {β} l K => match l with | [.agg [.int .i64 a0_0, .str a0_1, .int .i64 a0_2, .sl a0_3, .sl a0_4]] => impl_ValueOk.f k a0_0 a0_1 a0_2 a0_3 a0_4 (impl_ValueOk.kt a0_0 a0_1 a0_2 a0_3 a0_4 K) | _ => none }
noncomputable def impl_ValueOk.E (k : Nat) : Env := fun g => bif g == 162 then some (impl_measured.e k) else none
noncomputable def impl_ValueOk.h : Hints := ⟨fun n => ⟨[], []⟩, fun _ => none, false, []⟩
theorem impl_ValueOk.f_eq {β : Type} (k : Nat) (a0_0 : Int) (a0_1 : ByteArray) (a0_2 : Int) (a0_3 : List (List D)) (a0_4 : List (List D)) (K0 : List (List C) → List Out → Option β) : funDen Try.prog (impl_ValueOk.E k) impl_ValueOk.h k Try.f103 (impl_ValueOk.as a0_0 a0_1 a0_2 a0_3 a0_4) K0 = impl_ValueOk.g k a0_0 a0_1 a0_2 a0_3 a0_4 (impl_ValueOk.kt a0_0 a0_1 a0_2 a0_3 a0_4 K0) := by kernel_rfl
noncomputable def impl_ValueOk.dec (rs : List (List C)) (os : List Out) : Option (Bool) := uncons rs fun c1 r2 => uncons c1 fun x3 l4 => cD x3 fun d5 => dBool d5 fun w0 => atEnd l4 <| atEnd r2 <| atEnd os (some w0)
theorem impl_ValueOk.kt_dec (a0_0 : Int) (a0_1 : ByteArray) (a0_2 : Int) (a0_3 : List (List D)) (a0_4 : List (List D)) : impl_ValueOk.kt a0_0 a0_1 a0_2 a0_3 a0_4 impl_ValueOk.dec = (fun z0 => some z0) := by kernel_rfl
theorem impl_ValueOk.inj (a0_0 : Int) (a0_1 : ByteArray) (a0_2 : Int) (a0_3 : List (List D)) (a0_4 : List (List D)) {rs : List (List C)} {os : List Out} {z0 : Bool} (h : impl_ValueOk.dec rs os = some z0) (ho : OutShape (impl_ValueOk.as a0_0 a0_1 a0_2 a0_3 a0_4) os) : rs = [[.d (.bool z0)]] ∧ os = [] := by
  unfold impl_ValueOk.dec at h
  obtain ⟨c1, r2, rfl, h1⟩ := uncons_some h
  obtain ⟨x3, l4, rfl, h2⟩ := uncons_some h1
  obtain ⟨d5, rfl, h3⟩ := cD_some h2
  obtain ⟨w0, rfl, h4⟩ := dBool_some h3
  obtain ⟨rfl, h5⟩ := atEnd_some h4
  obtain ⟨rfl, h6⟩ := atEnd_some h5
  obtain ⟨rfl, h7⟩ := atEnd_some h6
  obtain rfl := Option.some.inj h7
  exact ⟨rfl, rfl⟩
theorem impl_ValueOk.ok (k : Nat) : EntryOK Try.prog 103 (impl_ValueOk.e k) := by
  refine entry_of mix tyok (fn := Try.f103) (c := codeOf Try.f103) Try.func103 (by kernel_rfl) (h := impl_ValueOk.h) (k := k) (E := impl_ValueOk.E k) (env_cons (impl_measured.ok k) env_nil) (by kernel_rfl) (by kernel_rfl) rfl (enter_of Try.func103 (by kernel_rfl)) ?_
  intro β l K r hr
  simp only [impl_ValueOk.e] at hr
  split at hr
  case h_2 => cases hr
  unfold impl_ValueOk.f at hr
  split at hr
  case h_2 => cases hr
  rename_i hz
  exact ⟨_, _, hr, _, impl_ValueOk.dec, _, (impl_ValueOk.f_eq k _ _ _ _ _ impl_ValueOk.dec).trans (by rw [impl_ValueOk.kt_dec]; exact hz), fun rs os h ho => impl_ValueOk.inj _ _ _ _ _ h ho⟩
/-! ### loop.example/g00119/impl.WorksOk: function 42 -/
noncomputable def impl_WorksOk.l0 {β : Type} (k : Nat) (v0_0 : List (List D)) (v0_1 : List (List D)) (v0_2 : Int) (K : Bool → Option β) (L0 : Int → Option β) (v : Int) : Option β :=
  match v with
  | v0_3 => bif (decide ((v0_3 : Int) < v0_2)) then (atRow v0_1 v0_3 fun c79 => uncons c79 fun d80 r81 => dInt .i64 d80 fun x82 => uncons r81 fun d83 r84 => dInt .i64 d83 fun x85 => uncons r84 fun d86 r87 => dInt .i64 d86 fun x88 => uncons r87 fun d89 r90 => dStr d89 fun x91 => uncons r90 fun d92 r93 => dInt .i64 d92 fun x94 => uncons r93 fun d95 r96 => dSl d95 fun x97 => uncons r96 fun d98 r99 => dSl d98 fun x100 => atEnd r99 (impl_within.f k x82 1 1000000 (fun y101 => bif (!y101) then (K false) else (impl_within.f k x85 1 10000 (fun y102 => bif (!y102) then (K false) else (impl_ValueOk.f k x88 x91 x94 x97 x100 (fun y103 => bif (!y103) then (K false) else (bif (decide ((v0_3 : Int) > 0)) then (atRow v0_0 (IntKind.wrap .i64 (v0_3 - 1)) fun c104 => uncons c104 fun d105 r106 => dInt .i64 d105 fun x107 => uncons r106 fun d108 r109 => dInt .i64 d108 fun x110 => uncons r109 fun d111 r112 => dInt .i64 d111 fun x113 => uncons r112 fun d114 r115 => dStr d114 fun x116 => uncons r115 fun d117 r118 => dInt .i64 d117 fun x119 => uncons r118 fun d120 r121 => dSl d120 fun x122 => uncons r121 fun d123 r124 => dSl d123 fun x125 => atEnd r124 (bif (decide ((x107 : Int) ≥ x82)) then (K false) else (L0 (IntKind.wrap .i64 (v0_3 + 1))))) else (L0 (IntKind.wrap .i64 (v0_3 + 1))))))))))) else (K (decide (((v0_0.length : Int) : Int) ≤ 40)))
noncomputable def impl_WorksOk.g {β : Type} (k : Nat) (a0 : List (List D)) (K : Bool → Option β) : Option β :=
  iter (impl_WorksOk.l0 k a0 a0 (a0.length : Int) K) k (0)
noncomputable def impl_WorksOk.t (k : Nat) (a0 : List (List D)) : Option (Bool) := impl_WorksOk.g k a0 (fun z0 => some z0)
noncomputable def impl_WorksOk.f {β : Type} (k : Nat) (a0 : List (List D)) (K : Bool → Option β) : Option β :=
  match impl_WorksOk.t k a0 with
  | some z0 => K z0
  | none => none
noncomputable def impl_WorksOk.as (a0 : List (List D)) : List A := [.d (.sl a0)]
noncomputable def impl_WorksOk.kt {β : Type} (a0 : List (List D)) (K0 : List (List C) → List Out → Option β) : Bool → Option β := fun z0 => K0 [[.d (.bool z0)]] []
noncomputable def impl_WorksOk.e (k : Nat) : Entry := { modes := [(.imm, 0)], rts := [4], al := false, run := fun {β} l K => match l with | [.d (.sl a0)] => impl_WorksOk.f k a0 (impl_WorksOk.kt a0 K) | _ => none }
noncomputable def impl_WorksOk.E (k : Nat) : Env := fun g => bif g == 87 then some (impl_within.e k) else bif g == 103 then some (impl_ValueOk.e k) else none
noncomputable def impl_WorksOk.h : Hints := ⟨fun n => bif n == 2 then ⟨[(0, .asis), (5, .asis), (6, .asis), (7, .asis)], []⟩ else ⟨[], []⟩, fun _ => none, false, []⟩
noncomputable def impl_WorksOk.s0 (v0_0 : List (List D)) (v0_1 : List (List D)) (v0_2 : Int) (v : Int) : St :=
  match v with
  | v0_3 => ⟨[.d false (.sl v0_0), .any, .any, .any, .any, .d false (.sl v0_1), .d true (.int .i64 v0_2), .d true (.int .i64 v0_3), .any, .any, .any, .any, .any, .any, .any, .any, .any, .any, .any, .any, .any, .any, .any, .any, .any, .any, .any, .any, .any, .any, .any, .any, .any, .any, .any, .any, .any, .any, .any, .any, .any, .any, .any, .any, .any, .any, .any], []⟩
noncomputable def impl_WorksOk.b0 {β : Type} (k : Nat) : St → (Ex → St → Option β) → Option β := fun s K => den Try.prog (impl_WorksOk.E k) impl_WorksOk.h.H impl_WorksOk.h.J k (codeAt [1, 0, 1, 0, 0] (codeOf Try.f42)) s K
noncomputable def impl_WorksOk.c0 {β : Type} (k : Nat) (a0 : List (List D)) (K0 : List (List C) → List Out → Option β) : Ex → St → Option β := contAt Try.prog (impl_WorksOk.E k) impl_WorksOk.h k [1, 0, 1, 0] (codeOf Try.f42) (finDen Try.prog Try.f42 impl_WorksOk.h (impl_WorksOk.as a0) K0)
theorem impl_WorksOk.l0_eq {β : Type} (k : Nat) (a0 : List (List D)) (K0 : List (List C) → List Out → Option β) (v0_0 : List (List D)) (v0_1 : List (List D)) (v0_2 : Int) : ∀ (kk : Nat) (v : Int), loopDen (impl_WorksOk.b0 k) (impl_WorksOk.h.H 2) kk (impl_WorksOk.s0 v0_0 v0_1 v0_2 v) (impl_WorksOk.c0 k a0 K0) = iter (impl_WorksOk.l0 k v0_0 v0_1 v0_2 (impl_WorksOk.kt a0 K0)) kk v :=
  loop_eq (impl_WorksOk.s0 v0_0 v0_1 v0_2) _ (fun L0 v => by kernel_rfl)
noncomputable def impl_WorksOk.m {β : Type} (k : Nat) (a0 : List (List D)) (K0 : List (List C) → List Out → Option β) (F : ((List (List D)) → (List (List D)) → Int → Int → Option β)) : Option β :=
  (F) a0 a0 (a0.length : Int) (0)
theorem impl_WorksOk.f_eq {β : Type} (k : Nat) (a0 : List (List D)) (K0 : List (List C) → List Out → Option β) : funDen Try.prog (impl_WorksOk.E k) impl_WorksOk.h k Try.f42 (impl_WorksOk.as a0) K0 = impl_WorksOk.g k a0 (impl_WorksOk.kt a0 K0) := Eq.trans (b := (impl_WorksOk.m k a0 K0) (fun (v0_0 : List (List D)) (v0_1 : List (List D)) (v0_2 : Int) (v : Int) => loopDen (impl_WorksOk.b0 k) (impl_WorksOk.h.H 2) k (impl_WorksOk.s0 v0_0 v0_1 v0_2 v) (impl_WorksOk.c0 k a0 K0))) (by kernel_rfl) (Eq.trans (congrArg (impl_WorksOk.m k a0 K0) (funext fun v0_0 => funext fun v0_1 => funext fun v0_2 => funext fun v => impl_WorksOk.l0_eq k a0 K0 v0_0 v0_1 v0_2 k v)) (by kernel_rfl))
noncomputable def impl_WorksOk.dec (rs : List (List C)) (os : List Out) : Option (Bool) := uncons rs fun c1 r2 => uncons c1 fun x3 l4 => cD x3 fun d5 => dBool d5 fun w0 => atEnd l4 <| atEnd r2 <| atEnd os (some w0)
theorem impl_WorksOk.kt_dec (a0 : List (List D)) : impl_WorksOk.kt a0 impl_WorksOk.dec = (fun z0 => some z0) := by kernel_rfl
theorem impl_WorksOk.inj (a0 : List (List D)) {rs : List (List C)} {os : List Out} {z0 : Bool} (h : impl_WorksOk.dec rs os = some z0) (ho : OutShape (impl_WorksOk.as a0) os) : rs = [[.d (.bool z0)]] ∧ os = [] := by
  unfold impl_WorksOk.dec at h
  obtain ⟨c1, r2, rfl, h1⟩ := uncons_some h
  obtain ⟨x3, l4, rfl, h2⟩ := uncons_some h1
  obtain ⟨d5, rfl, h3⟩ := cD_some h2
  obtain ⟨w0, rfl, h4⟩ := dBool_some h3
  obtain ⟨rfl, h5⟩ := atEnd_some h4
  obtain ⟨rfl, h6⟩ := atEnd_some h5
  obtain ⟨rfl, h7⟩ := atEnd_some h6
  obtain rfl := Option.some.inj h7
  exact ⟨rfl, rfl⟩
theorem impl_WorksOk.ok (k : Nat) : EntryOK Try.prog 42 (impl_WorksOk.e k) := by
  refine entry_of mix tyok (fn := Try.f42) (c := codeOf Try.f42) Try.func42 (by kernel_rfl) (h := impl_WorksOk.h) (k := k) (E := impl_WorksOk.E k) (env_cons (impl_within.ok k) (env_cons (impl_ValueOk.ok k) env_nil)) (by kernel_rfl) (by kernel_rfl) rfl (enter_of Try.func42 (by kernel_rfl)) ?_
  intro β l K r hr
  simp only [impl_WorksOk.e] at hr
  split at hr
  case h_2 => cases hr
  unfold impl_WorksOk.f at hr
  split at hr
  case h_2 => cases hr
  rename_i hz
  exact ⟨_, _, hr, _, impl_WorksOk.dec, _, (impl_WorksOk.f_eq k _ impl_WorksOk.dec).trans (by rw [impl_WorksOk.kt_dec]; exact hz), fun rs os h ho => impl_WorksOk.inj _ h ho⟩
/-! ### loop.example/g00119/impl.runsOk: function 108 -/
noncomputable def impl_runsOk.l0 {β : Type} (k : Nat) (v0_0 : List (List D)) (v0_1 : List (List D)) (v0_2 : Int) (K : Bool → Option β) (L0 : Int → Option β) (v : Int) : Option β :=
  match v with
  | v0_3 => bif (decide ((v0_3 : Int) < v0_2)) then (atRow v0_1 v0_3 fun c17 => uncons c17 fun d18 r19 => dInt .i64 d18 fun x20 => uncons r19 fun d21 r22 => dInt .i64 d21 fun x23 => atEnd r22 (impl_within.f k x20 1 1000000 (fun y24 => bif (!y24) then (K false) else (impl_isCopies.f k x23 (fun y25 => bif (!y25) then (K false) else (bif (decide ((v0_3 : Int) > 0)) then (atRow v0_0 (IntKind.wrap .i64 (v0_3 - 1)) fun c26 => uncons c26 fun d27 r28 => dInt .i64 d27 fun x29 => uncons r28 fun d30 r31 => dInt .i64 d30 fun x32 => atEnd r31 (bif (decide ((x29 : Int) ≥ x20)) then (K false) else (L0 (IntKind.wrap .i64 (v0_3 + 1))))) else (L0 (IntKind.wrap .i64 (v0_3 + 1))))))))) else (K (decide (((v0_0.length : Int) : Int) ≤ 80)))
noncomputable def impl_runsOk.g {β : Type} (k : Nat) (a0 : List (List D)) (K : Bool → Option β) : Option β :=
  iter (impl_runsOk.l0 k a0 a0 (a0.length : Int) K) k (0)
noncomputable def impl_runsOk.t (k : Nat) (a0 : List (List D)) : Option (Bool) := impl_runsOk.g k a0 (fun z0 => some z0)
noncomputable def impl_runsOk.f {β : Type} (k : Nat) (a0 : List (List D)) (K : Bool → Option β) : Option β :=
  match impl_runsOk.t k a0 with
  | some z0 => K z0
  | none => none
noncomputable def impl_runsOk.as (a0 : List (List D)) : List A := [.d (.sl a0)]
noncomputable def impl_runsOk.kt {β : Type} (a0 : List (List D)) (K0 : List (List C) → List Out → Option β) : Bool → Option β := fun z0 => K0 [[.d (.bool z0)]] []
noncomputable def impl_runsOk.e (k : Nat) : Entry := { modes := [(.imm, 0)], rts := [4], al := false, run := fun {β} l K => match l with | [.d (.sl a0)] => impl_runsOk.f k a0 (impl_runsOk.kt a0 K) | _ => none }
noncomputable def impl_runsOk.E (k : Nat) : Env := fun g => bif g == 87 then some (impl_within.e k) else bif g == 75 then some (impl_isCopies.e k) else none
noncomputable def impl_runsOk.h : Hints := ⟨fun n => bif n == 2 then ⟨[(0, .asis), (5, .asis), (6, .asis), (7, .asis)], []⟩ else ⟨[], []⟩, fun _ => none, false, []⟩
noncomputable def impl_runsOk.s0 (v0_0 : List (List D)) (v0_1 : List (List D)) (v0_2 : Int) (v : Int) : St :=
  match v with
  | v0_3 => ⟨[.d false (.sl v0_0), .any, .any, .any, .any, .d false (.sl v0_1), .d true (.int .i64 v0_2), .d true (.int .i64 v0_3), .any, .any, .any, .any, .any, .any, .any, .any, .any, .any, .any, .any, .any, .any, .any, .any, .any, .any, .any, .any, .any, .any, .any, .any, .any, .any, .any, .any, .any, .any, .any, .any, .any], []⟩
noncomputable def impl_runsOk.b0 {β : Type} (k : Nat) : St → (Ex → St → Option β) → Option β := fun s K => den Try.prog (impl_runsOk.E k) impl_runsOk.h.H impl_runsOk.h.J k (codeAt [1, 0, 1, 0, 0] (codeOf Try.f108)) s K
noncomputable def impl_runsOk.c0 {β : Type} (k : Nat) (a0 : List (List D)) (K0 : List (List C) → List Out → Option β) : Ex → St → Option β := contAt Try.prog (impl_runsOk.E k) impl_runsOk.h k [1, 0, 1, 0] (codeOf Try.f108) (finDen Try.prog Try.f108 impl_runsOk.h (impl_runsOk.as a0) K0)
theorem impl_runsOk.l0_eq {β : Type} (k : Nat) (a0 : List (List D)) (K0 : List (List C) → List Out → Option β) (v0_0 : List (List D)) (v0_1 : List (List D)) (v0_2 : Int) : ∀ (kk : Nat) (v : Int), loopDen (impl_runsOk.b0 k) (impl_runsOk.h.H 2) kk (impl_runsOk.s0 v0_0 v0_1 v0_2 v) (impl_runsOk.c0 k a0 K0) = iter (impl_runsOk.l0 k v0_0 v0_1 v0_2 (impl_runsOk.kt a0 K0)) kk v :=
  loop_eq (impl_runsOk.s0 v0_0 v0_1 v0_2) _ (fun L0 v => by kernel_rfl)
noncomputable def impl_runsOk.m {β : Type} (k : Nat) (a0 : List (List D)) (K0 : List (List C) → List Out → Option β) (F : ((List (List D)) → (List (List D)) → Int → Int → Option β)) : Option β :=
  (F) a0 a0 (a0.length : Int) (0)
theorem impl_runsOk.f_eq {β : Type} (k : Nat) (a0 : List (List D)) (K0 : List (List C) → List Out → Option β) : funDen Try.prog (impl_runsOk.E k) impl_runsOk.h k Try.f108 (impl_runsOk.as a0) K0 = impl_runsOk.g k a0 (impl_runsOk.kt a0 K0) := Eq.trans (b := (impl_runsOk.m k a0 K0) (fun (v0_0 : List (List D)) (v0_1 : List (List D)) (v0_2 : Int) (v : Int) => loopDen (impl_runsOk.b0 k) (impl_runsOk.h.H 2) k (impl_runsOk.s0 v0_0 v0_1 v0_2 v) (impl_runsOk.c0 k a0 K0))) (by kernel_rfl) (Eq.trans (congrArg (impl_runsOk.m k a0 K0) (funext fun v0_0 => funext fun v0_1 => funext fun v0_2 => funext fun v => impl_runsOk.l0_eq k a0 K0 v0_0 v0_1 v0_2 k v)) (by kernel_rfl))
noncomputable def impl_runsOk.dec (rs : List (List C)) (os : List Out) : Option (Bool) := uncons rs fun c1 r2 => uncons c1 fun x3 l4 => cD x3 fun d5 => dBool d5 fun w0 => atEnd l4 <| atEnd r2 <| atEnd os (some w0)
theorem impl_runsOk.kt_dec (a0 : List (List D)) : impl_runsOk.kt a0 impl_runsOk.dec = (fun z0 => some z0) := by kernel_rfl
theorem impl_runsOk.inj (a0 : List (List D)) {rs : List (List C)} {os : List Out} {z0 : Bool} (h : impl_runsOk.dec rs os = some z0) (ho : OutShape (impl_runsOk.as a0) os) : rs = [[.d (.bool z0)]] ∧ os = [] := by
  unfold impl_runsOk.dec at h
  obtain ⟨c1, r2, rfl, h1⟩ := uncons_some h
  obtain ⟨x3, l4, rfl, h2⟩ := uncons_some h1
  obtain ⟨d5, rfl, h3⟩ := cD_some h2
  obtain ⟨w0, rfl, h4⟩ := dBool_some h3
  obtain ⟨rfl, h5⟩ := atEnd_some h4
  obtain ⟨rfl, h6⟩ := atEnd_some h5
  obtain ⟨rfl, h7⟩ := atEnd_some h6
  obtain rfl := Option.some.inj h7
  exact ⟨rfl, rfl⟩
theorem impl_runsOk.ok (k : Nat) : EntryOK Try.prog 108 (impl_runsOk.e k) := by
  refine entry_of mix tyok (fn := Try.f108) (c := codeOf Try.f108) Try.func108 (by kernel_rfl) (h := impl_runsOk.h) (k := k) (E := impl_runsOk.E k) (env_cons (impl_within.ok k) (env_cons (impl_isCopies.ok k) env_nil)) (by kernel_rfl) (by kernel_rfl) rfl (enter_of Try.func108 (by kernel_rfl)) ?_
  intro β l K r hr
  simp only [impl_runsOk.e] at hr
  split at hr
  case h_2 => cases hr
  unfold impl_runsOk.f at hr
  split at hr
  case h_2 => cases hr
  rename_i hz
  exact ⟨_, _, hr, _, impl_runsOk.dec, _, (impl_runsOk.f_eq k _ impl_runsOk.dec).trans (by rw [impl_runsOk.kt_dec]; exact hz), fun rs os h ho => impl_runsOk.inj _ h ho⟩
/-! ### loop.example/g00119/impl.IsleOk$1: function 111 -/
noncomputable def impl_IsleOk_1.g {β : Type} (k : Nat) (a0_0 : Int) (a0_1 : Int) (K : Bool → Option β) : Option β :=
  K ((a0_1 : Int) == 0)
noncomputable def impl_IsleOk_1.t (k : Nat) (a0_0 : Int) (a0_1 : Int) : Option (Bool) := impl_IsleOk_1.g k a0_0 a0_1 (fun z0 => some z0)
noncomputable def impl_IsleOk_1.f {β : Type} (k : Nat) (a0_0 : Int) (a0_1 : Int) (K : Bool → Option β) : Option β :=
  match impl_IsleOk_1.t k a0_0 a0_1 with
  | some z0 => K z0
  | none => none
noncomputable def impl_IsleOk_1.as (a0_0 : Int) (a0_1 : Int) : List A := [.agg [.int .i64 a0_0, .int .i64 a0_1]]
noncomputable def impl_IsleOk_1.kt {β : Type} (a0_0 : Int) (a0_1 : Int) (K0 : List (List C) → List Out → Option β) : Bool → Option β := fun z0 => K0 [[.d (.bool z0)]] []
noncomputable def impl_IsleOk_1.e (k : Nat) : Entry := { modes := [(.imm, 0)], rts := [4], al := false, run := fun {β} l K => match l with | [.agg [.int .i64 a0_0, .int .i64 a0_1]] => impl_IsleOk_1.f k a0_0 a0_1 (impl_IsleOk_1.kt a0_0 a0_1 K) | _ => none }
noncomputable def impl_IsleOk_1.E (k : Nat) : Env := fun g => none
noncomputable def impl_IsleOk_1.h : Hints := ⟨fun n => ⟨[], []⟩, fun _ => none, false, []⟩
theorem impl_IsleOk_1.f_eq {β : Type} (k : Nat) (a0_0 : Int) (a0_1 : Int) (K0 : List (List C) → List Out → Option β) : funDen Try.prog (impl_IsleOk_1.E k) impl_IsleOk_1.h k Try.f111 (impl_IsleOk_1.as a0_0 a0_1) K0 = impl_IsleOk_1.g k a0_0 a0_1 (impl_IsleOk_1.kt a0_0 a0_1 K0) := by kernel_rfl
noncomputable def impl_IsleOk_1.dec (rs : List (List C)) (os : List Out) : Option (Bool) := uncons rs fun c1 r2 => uncons c1 fun x3 l4 => cD x3 fun d5 => dBool d5 fun w0 => atEnd l4 <| atEnd r2 <| atEnd os (some w0)
theorem impl_IsleOk_1.kt_dec (a0_0 : Int) (a0_1 : Int) : impl_IsleOk_1.kt a0_0 a0_1 impl_IsleOk_1.dec = (fun z0 => some z0) := by kernel_rfl
theorem impl_IsleOk_1.inj (a0_0 : Int) (a0_1 : Int) {rs : List (List C)} {os : List Out} {z0 : Bool} (h : impl_IsleOk_1.dec rs os = some z0) (ho : OutShape (impl_IsleOk_1.as a0_0 a0_1) os) : rs = [[.d (.bool z0)]] ∧ os = [] := by
  unfold impl_IsleOk_1.dec at h
  obtain ⟨c1, r2, rfl, h1⟩ := uncons_some h
  obtain ⟨x3, l4, rfl, h2⟩ := uncons_some h1
  obtain ⟨d5, rfl, h3⟩ := cD_some h2
  obtain ⟨w0, rfl, h4⟩ := dBool_some h3
  obtain ⟨rfl, h5⟩ := atEnd_some h4
  obtain ⟨rfl, h6⟩ := atEnd_some h5
  obtain ⟨rfl, h7⟩ := atEnd_some h6
  obtain rfl := Option.some.inj h7
  exact ⟨rfl, rfl⟩
theorem impl_IsleOk_1.ok (k : Nat) : EntryOK Try.prog 111 (impl_IsleOk_1.e k) := by
  refine entry_of mix tyok (fn := Try.f111) (c := codeOf Try.f111) Try.func111 (by kernel_rfl) (h := impl_IsleOk_1.h) (k := k) (E := impl_IsleOk_1.E k) env_nil (by kernel_rfl) (by kernel_rfl) rfl (enter_of Try.func111 (by kernel_rfl)) ?_
  intro β l K r hr
  simp only [impl_IsleOk_1.e] at hr
  split at hr
  case h_2 => cases hr
  unfold impl_IsleOk_1.f at hr
  split at hr
  case h_2 => cases hr
  rename_i hz
  exact ⟨_, _, hr, _, impl_IsleOk_1.dec, _, (impl_IsleOk_1.f_eq k _ _ impl_IsleOk_1.dec).trans (by rw [impl_IsleOk_1.kt_dec]; exact hz), fun rs os h ho => impl_IsleOk_1.inj _ _ h ho⟩
/-! ### slices.IndexFunc[[]loop.example/g00119/impl.Run,loop.example/g00119/impl.Run]: function 165 -/
noncomputable def slices_IndexFunc_impl_Run__impl_IsleOk_1.l0 {β : Type} (k : Nat) (v0_0 : List (List D)) (v0_1 : Int) (K : Int → Option β) (L0 : Int → Option β) (v : Int) : Option β :=
  match v with
  | v0_2 => bif (decide ((v0_2 : Int) < v0_1)) then (atRow v0_0 v0_2 fun c9 => uncons c9 fun d10 r11 => dInt .i64 d10 fun x12 => uncons r11 fun d13 r14 => dInt .i64 d13 fun x15 => atEnd r14 (impl_IsleOk_1.f k x12 x15 (fun y16 => bif y16 then (K v0_2) else (L0 (IntKind.wrap .i64 (v0_2 + 1)))))) else (K (-1))
noncomputable def slices_IndexFunc_impl_Run__impl_IsleOk_1.g {β : Type} (k : Nat) (a0 : List (List D)) (K : Int → Option β) : Option β :=
  iter (slices_IndexFunc_impl_Run__impl_IsleOk_1.l0 k a0 (a0.length : Int) K) k (0)
noncomputable def slices_IndexFunc_impl_Run__impl_IsleOk_1.t (k : Nat) (a0 : List (List D)) : Option (Int) := slices_IndexFunc_impl_Run__impl_IsleOk_1.g k a0 (fun z0 => some z0)
noncomputable def slices_IndexFunc_impl_Run__impl_IsleOk_1.f {β : Type} (k : Nat) (a0 : List (List D)) (K : Int → Option β) : Option β :=
  match slices_IndexFunc_impl_Run__impl_IsleOk_1.t k a0 with
  | some z0 => K z0
  | none => none
noncomputable def slices_IndexFunc_impl_Run__impl_IsleOk_1.as (a0 : List (List D)) : List A := [.d (.sl a0), .d (.fn 111 [])]
noncomputable def slices_IndexFunc_impl_Run__impl_IsleOk_1.kt {β : Type} (a0 : List (List D)) (K0 : List (List C) → List Out → Option β) : Int → Option β := fun z0 => K0 [[.d (.int .i64 z0)]] []
noncomputable def slices_IndexFunc_impl_Run__impl_IsleOk_1.e (k : Nat) : Entry := { modes := [(.imm, 0), (.imm, 0)], rts := [3], al := false, run := fun {β} l K => match l with | [.d (.sl a0), .d (.fn 111 [])] => slices_IndexFunc_impl_Run__impl_IsleOk_1.f k a0 (slices_IndexFunc_impl_Run__impl_IsleOk_1.kt a0 K) | _ => none }
noncomputable def slices_IndexFunc_impl_Run__impl_IsleOk_1.E (k : Nat) : Env := fun g => bif g == 111 then some (impl_IsleOk_1.e k) else none
noncomputable def slices_IndexFunc_impl_Run__impl_IsleOk_1.h : Hints := ⟨fun n => bif n == 2 then ⟨[(0, .asis), (1, .asis), (7, .asis), (8, .asis)], []⟩ else ⟨[], []⟩, fun _ => none, false, []⟩
noncomputable def slices_IndexFunc_impl_Run__impl_IsleOk_1.s0 (v0_0 : List (List D)) (v0_1 : Int) (v : Int) : St :=
  match v with
  | v0_2 => ⟨[.d false (.sl v0_0), .d false (.fn 111 []), .any, .any, .any, .any, .any, .d true (.int .i64 v0_1), .d true (.int .i64 v0_2), .any, .any, .any, .any, .any, .any, .any, .any, .any, .any], []⟩
noncomputable def slices_IndexFunc_impl_Run__impl_IsleOk_1.b0 {β : Type} (k : Nat) : St → (Ex → St → Option β) → Option β := fun s K => den Try.prog (slices_IndexFunc_impl_Run__impl_IsleOk_1.E k) slices_IndexFunc_impl_Run__impl_IsleOk_1.h.H slices_IndexFunc_impl_Run__impl_IsleOk_1.h.J k (codeAt [1, 0, 1, 0, 0] (codeOf Try.f165)) s K
noncomputable def slices_IndexFunc_impl_Run__impl_IsleOk_1.c0 {β : Type} (k : Nat) (a0 : List (List D)) (K0 : List (List C) → List Out → Option β) : Ex → St → Option β := contAt Try.prog (slices_IndexFunc_impl_Run__impl_IsleOk_1.E k) slices_IndexFunc_impl_Run__impl_IsleOk_1.h k [1, 0, 1, 0] (codeOf Try.f165) (finDen Try.prog Try.f165 slices_IndexFunc_impl_Run__impl_IsleOk_1.h (slices_IndexFunc_impl_Run__impl_IsleOk_1.as a0) K0)
theorem slices_IndexFunc_impl_Run__impl_IsleOk_1.l0_eq {β : Type} (k : Nat) (a0 : List (List D)) (K0 : List (List C) → List Out → Option β) (v0_0 : List (List D)) (v0_1 : Int) : ∀ (kk : Nat) (v : Int), loopDen (slices_IndexFunc_impl_Run__impl_IsleOk_1.b0 k) (slices_IndexFunc_impl_Run__impl_IsleOk_1.h.H 2) kk (slices_IndexFunc_impl_Run__impl_IsleOk_1.s0 v0_0 v0_1 v) (slices_IndexFunc_impl_Run__impl_IsleOk_1.c0 k a0 K0) = iter (slices_IndexFunc_impl_Run__impl_IsleOk_1.l0 k v0_0 v0_1 (slices_IndexFunc_impl_Run__impl_IsleOk_1.kt a0 K0)) kk v :=
  loop_eq (slices_IndexFunc_impl_Run__impl_IsleOk_1.s0 v0_0 v0_1) _ (fun L0 v => by kernel_rfl)
noncomputable def slices_IndexFunc_impl_Run__impl_IsleOk_1.m {β : Type} (k : Nat) (a0 : List (List D)) (K0 : List (List C) → List Out → Option β) (F : ((List (List D)) → Int → Int → Option β)) : Option β :=
  (F) a0 (a0.length : Int) (0)
theorem slices_IndexFunc_impl_Run__impl_IsleOk_1.f_eq {β : Type} (k : Nat) (a0 : List (List D)) (K0 : List (List C) → List Out → Option β) : funDen Try.prog (slices_IndexFunc_impl_Run__impl_IsleOk_1.E k) slices_IndexFunc_impl_Run__impl_IsleOk_1.h k Try.f165 (slices_IndexFunc_impl_Run__impl_IsleOk_1.as a0) K0 = slices_IndexFunc_impl_Run__impl_IsleOk_1.g k a0 (slices_IndexFunc_impl_Run__impl_IsleOk_1.kt a0 K0) := Eq.trans (b := (slices_IndexFunc_impl_Run__impl_IsleOk_1.m k a0 K0) (fun (v0_0 : List (List D)) (v0_1 : Int) (v : Int) => loopDen (slices_IndexFunc_impl_Run__impl_IsleOk_1.b0 k) (slices_IndexFunc_impl_Run__impl_IsleOk_1.h.H 2) k (slices_IndexFunc_impl_Run__impl_IsleOk_1.s0 v0_0 v0_1 v) (slices_IndexFunc_impl_Run__impl_IsleOk_1.c0 k a0 K0))) (by kernel_rfl) (Eq.trans (congrArg (slices_IndexFunc_impl_Run__impl_IsleOk_1.m k a0 K0) (funext fun v0_0 => funext fun v0_1 => funext fun v => slices_IndexFunc_impl_Run__impl_IsleOk_1.l0_eq k a0 K0 v0_0 v0_1 k v)) (by kernel_rfl))
noncomputable def slices_IndexFunc_impl_Run__impl_IsleOk_1.dec (rs : List (List C)) (os : List Out) : Option (Int) := uncons rs fun c1 r2 => uncons c1 fun x3 l4 => cD x3 fun d5 => dInt .i64 d5 fun w0 => atEnd l4 <| atEnd r2 <| atEnd os (some w0)
theorem slices_IndexFunc_impl_Run__impl_IsleOk_1.kt_dec (a0 : List (List D)) : slices_IndexFunc_impl_Run__impl_IsleOk_1.kt a0 slices_IndexFunc_impl_Run__impl_IsleOk_1.dec = (fun z0 => some z0) := by kernel_rfl
theorem slices_IndexFunc_impl_Run__impl_IsleOk_1.inj (a0 : List (List D)) {rs : List (List C)} {os : List Out} {z0 : Int} (h : slices_IndexFunc_impl_Run__impl_IsleOk_1.dec rs os = some z0) (ho : OutShape (slices_IndexFunc_impl_Run__impl_IsleOk_1.as a0) os) : rs = [[.d (.int .i64 z0)]] ∧ os = [] := by
  unfold slices_IndexFunc_impl_Run__impl_IsleOk_1.dec at h
  obtain ⟨c1, r2, rfl, h1⟩ := uncons_some h
  obtain ⟨x3, l4, rfl, h2⟩ := uncons_some h1
  obtain ⟨d5, rfl, h3⟩ := cD_some h2
  obtain ⟨w0, rfl, h4⟩ := dInt_some h3
  obtain ⟨rfl, h5⟩ := atEnd_some h4
  obtain ⟨rfl, h6⟩ := atEnd_some h5
  obtain ⟨rfl, h7⟩ := atEnd_some h6
  obtain rfl := Option.some.inj h7
  exact ⟨rfl, rfl⟩
theorem slices_IndexFunc_impl_Run__impl_IsleOk_1.ok (k : Nat) : EntryOK Try.prog 165 (slices_IndexFunc_impl_Run__impl_IsleOk_1.e k) := by
  refine entry_of mix tyok (fn := Try.f165) (c := codeOf Try.f165) Try.func165 (by kernel_rfl) (h := slices_IndexFunc_impl_Run__impl_IsleOk_1.h) (k := k) (E := slices_IndexFunc_impl_Run__impl_IsleOk_1.E k) (env_cons (impl_IsleOk_1.ok k) env_nil) (by kernel_rfl) (by kernel_rfl) rfl (enter_of Try.func165 (by kernel_rfl)) ?_
  intro β l K r hr
  simp only [slices_IndexFunc_impl_Run__impl_IsleOk_1.e] at hr
  split at hr
  case h_2 => cases hr
  unfold slices_IndexFunc_impl_Run__impl_IsleOk_1.f at hr
  split at hr
  case h_2 => cases hr
  rename_i hz
  exact ⟨_, _, hr, _, slices_IndexFunc_impl_Run__impl_IsleOk_1.dec, _, (slices_IndexFunc_impl_Run__impl_IsleOk_1.f_eq k _ slices_IndexFunc_impl_Run__impl_IsleOk_1.dec).trans (by rw [slices_IndexFunc_impl_Run__impl_IsleOk_1.kt_dec]; exact hz), fun rs os h ho => slices_IndexFunc_impl_Run__impl_IsleOk_1.inj _ h ho⟩
/-! ### slices.ContainsFunc[[]loop.example/g00119/impl.Run,loop.example/g00119/impl.Run]: function 110 -/
noncomputable def slices_ContainsFunc_impl_Run__impl_IsleOk_1.g {β : Type} (k : Nat) (a0 : List (List D)) (K : Bool → Option β) : Option β :=
  slices_IndexFunc_impl_Run__impl_IsleOk_1.f k a0 (fun y17 => K (decide ((y17 : Int) ≥ 0)))
noncomputable def slices_ContainsFunc_impl_Run__impl_IsleOk_1.t (k : Nat) (a0 : List (List D)) : Option (Bool) := slices_ContainsFunc_impl_Run__impl_IsleOk_1.g k a0 (fun z0 => some z0)
noncomputable def slices_ContainsFunc_impl_Run__impl_IsleOk_1.f {β : Type} (k : Nat) (a0 : List (List D)) (K : Bool → Option β) : Option β :=
  match slices_ContainsFunc_impl_Run__impl_IsleOk_1.t k a0 with
  | some z0 => K z0
  | none => none
noncomputable def slices_ContainsFunc_impl_Run__impl_IsleOk_1.as (a0 : List (List D)) : List A := [.d (.sl a0), .d (.fn 111 [])]
noncomputable def slices_ContainsFunc_impl_Run__impl_IsleOk_1.kt {β : Type} (a0 : List (List D)) (K0 : List (List C) → List Out → Option β) : Bool → Option β := fun z0 => K0 [[.d (.bool z0)]] []
noncomputable def slices_ContainsFunc_impl_Run__impl_IsleOk_1.e (k : Nat) : Entry := { modes := [(.imm, 0), (.imm, 0)], rts := [4], al := false, run := fun {β} l K => match l with | [.d (.sl a0), .d (.fn 111 [])] => slices_ContainsFunc_impl_Run__impl_IsleOk_1.f k a0 (slices_ContainsFunc_impl_Run__impl_IsleOk_1.kt a0 K) | _ => none }
noncomputable def slices_ContainsFunc_impl_Run__impl_IsleOk_1.E (k : Nat) : Env := fun g => bif g == 165 then some (slices_IndexFunc_impl_Run__impl_IsleOk_1.e k) else none
noncomputable def slices_ContainsFunc_impl_Run__impl_IsleOk_1.h : Hints := ⟨fun n => ⟨[], []⟩, fun _ => none, false, []⟩
theorem slices_ContainsFunc_impl_Run__impl_IsleOk_1.f_eq {β : Type} (k : Nat) (a0 : List (List D)) (K0 : List (List C) → List Out → Option β) : funDen Try.prog (slices_ContainsFunc_impl_Run__impl_IsleOk_1.E k) slices_ContainsFunc_impl_Run__impl_IsleOk_1.h k Try.f110 (slices_ContainsFunc_impl_Run__impl_IsleOk_1.as a0) K0 = slices_ContainsFunc_impl_Run__impl_IsleOk_1.g k a0 (slices_ContainsFunc_impl_Run__impl_IsleOk_1.kt a0 K0) := by kernel_rfl
noncomputable def slices_ContainsFunc_impl_Run__impl_IsleOk_1.dec (rs : List (List C)) (os : List Out) : Option (Bool) := uncons rs fun c1 r2 => uncons c1 fun x3 l4 => cD x3 fun d5 => dBool d5 fun w0 => atEnd l4 <| atEnd r2 <| atEnd os (some w0)
theorem slices_ContainsFunc_impl_Run__impl_IsleOk_1.kt_dec (a0 : List (List D)) : slices_ContainsFunc_impl_Run__impl_IsleOk_1.kt a0 slices_ContainsFunc_impl_Run__impl_IsleOk_1.dec = (fun z0 => some z0) := by kernel_rfl
theorem slices_ContainsFunc_impl_Run__impl_IsleOk_1.inj (a0 : List (List D)) {rs : List (List C)} {os : List Out} {z0 : Bool} (h : slices_ContainsFunc_impl_Run__impl_IsleOk_1.dec rs os = some z0) (ho : OutShape (slices_ContainsFunc_impl_Run__impl_IsleOk_1.as a0) os) : rs = [[.d (.bool z0)]] ∧ os = [] := by
  unfold slices_ContainsFunc_impl_Run__impl_IsleOk_1.dec at h
  obtain ⟨c1, r2, rfl, h1⟩ := uncons_some h
  obtain ⟨x3, l4, rfl, h2⟩ := uncons_some h1
  obtain ⟨d5, rfl, h3⟩ := cD_some h2
  obtain ⟨w0, rfl, h4⟩ := dBool_some h3
  obtain ⟨rfl, h5⟩ := atEnd_some h4
  obtain ⟨rfl, h6⟩ := atEnd_some h5
  obtain ⟨rfl, h7⟩ := atEnd_some h6
  obtain rfl := Option.some.inj h7
  exact ⟨rfl, rfl⟩
theorem slices_ContainsFunc_impl_Run__impl_IsleOk_1.ok (k : Nat) : EntryOK Try.prog 110 (slices_ContainsFunc_impl_Run__impl_IsleOk_1.e k) := by
  refine entry_of mix tyok (fn := Try.f110) (c := codeOf Try.f110) Try.func110 (by kernel_rfl) (h := slices_ContainsFunc_impl_Run__impl_IsleOk_1.h) (k := k) (E := slices_ContainsFunc_impl_Run__impl_IsleOk_1.E k) (env_cons (slices_IndexFunc_impl_Run__impl_IsleOk_1.ok k) env_nil) (by kernel_rfl) (by kernel_rfl) rfl (enter_of Try.func110 (by kernel_rfl)) ?_
  intro β l K r hr
  simp only [slices_ContainsFunc_impl_Run__impl_IsleOk_1.e] at hr
  split at hr
  case h_2 => cases hr
  unfold slices_ContainsFunc_impl_Run__impl_IsleOk_1.f at hr
  split at hr
  case h_2 => cases hr
  rename_i hz
  exact ⟨_, _, hr, _, slices_ContainsFunc_impl_Run__impl_IsleOk_1.dec, _, (slices_ContainsFunc_impl_Run__impl_IsleOk_1.f_eq k _ slices_ContainsFunc_impl_Run__impl_IsleOk_1.dec).trans (by rw [slices_ContainsFunc_impl_Run__impl_IsleOk_1.kt_dec]; exact hz), fun rs os h ho => slices_ContainsFunc_impl_Run__impl_IsleOk_1.inj _ h ho⟩
/-! ### loop.example/g00119/impl.running: function 112 -/
noncomputable def impl_running.l0 {β : Type} (k : Nat) (v0_1 : List (List D)) (v0_2 : Int) (K : Int → Option β) (L0 : (Int × Int) → Option β) (v : Int × Int) : Option β :=
  match v with
  | (v0_0, v0_3) => bif (decide ((v0_3 : Int) < v0_2)) then (atRow v0_1 v0_3 fun c8 => uncons c8 fun d9 r10 => dInt .i64 d9 fun x11 => uncons r10 fun d12 r13 => dInt .i64 d12 fun x14 => atEnd r13 (L0 (IntKind.wrap .i64 (v0_0 + x14), IntKind.wrap .i64 (v0_3 + 1)))) else (K v0_0)
noncomputable def impl_running.g {β : Type} (k : Nat) (a0_0 : ByteArray) (a0_1 : Int) (a0_2 : Int) (a0_3 : List (List D)) (a0_4 : List (List D)) (K : Int → Option β) : Option β :=
  iter (impl_running.l0 k a0_4 (a0_4.length : Int) K) k (0, 0)
noncomputable def impl_running.t (k : Nat) (a0_0 : ByteArray) (a0_1 : Int) (a0_2 : Int) (a0_3 : List (List D)) (a0_4 : List (List D)) : Option (Int) := impl_running.g k a0_0 a0_1 a0_2 a0_3 a0_4 (fun z0 => some z0)
noncomputable def impl_running.f {β : Type} (k : Nat) (a0_0 : ByteArray) (a0_1 : Int) (a0_2 : Int) (a0_3 : List (List D)) (a0_4 : List (List D)) (K : Int → Option β) : Option β :=
  match impl_running.t k a0_0 a0_1 a0_2 a0_3 a0_4 with
  | some z0 => K z0
  | none => none
noncomputable def impl_running.as (a0_0 : ByteArray) (a0_1 : Int) (a0_2 : Int) (a0_3 : List (List D)) (a0_4 : List (List D)) : List A := [.agg [.str a0_0, .int .i64 a0_1, .int .i64 a0_2, .sl a0_3, .sl a0_4]]
noncomputable def impl_running.kt {β : Type} (a0_0 : ByteArray) (a0_1 : Int) (a0_2 : Int) (a0_3 : List (List D)) (a0_4 : List (List D)) (K0 : List (List C) → List Out → Option β) : Int → Option β := fun z0 => K0 [[.d (.int .i64 z0)]] []
noncomputable def impl_running.e (k : Nat) : Entry := { modes := [(.imm, 0)], rts := [3], al := false, run := fun {β} l K => match l with | [.agg [.str a0_0, .int .i64 a0_1, .int .i64 a0_2, .sl a0_3, .sl a0_4]] => impl_running.f k a0_0 a0_1 a0_2 a0_3 a0_4 (impl_running.kt a0_0 a0_1 a0_2 a0_3 a0_4 K) | _ => none }
noncomputable def impl_running.E (k : Nat) : Env := fun g => none
noncomputable def impl_running.h : Hints := ⟨fun n => bif n == 3 then ⟨[(3, .asis), (7, .asis), (8, .asis), (9, .asis)], []⟩ else ⟨[], []⟩, fun _ => none, false, []⟩
noncomputable def impl_running.s0 (v0_1 : List (List D)) (v0_2 : Int) (v : Int × Int) : St :=
  match v with
  | (v0_0, v0_3) => ⟨[.any, .any, .any, .d true (.int .i64 v0_0), .any, .any, .any, .d false (.sl v0_1), .d true (.int .i64 v0_2), .d true (.int .i64 v0_3), .any, .any, .any, .any, .any, .any, .any, .any, .any], []⟩
noncomputable def impl_running.b0 {β : Type} (k : Nat) : St → (Ex → St → Option β) → Option β := fun s K => den Try.prog (impl_running.E k) impl_running.h.H impl_running.h.J k (codeAt [1, 1, 0, 1, 0, 0] (codeOf Try.f112)) s K
noncomputable def impl_running.c0 {β : Type} (k : Nat) (a0_0 : ByteArray) (a0_1 : Int) (a0_2 : Int) (a0_3 : List (List D)) (a0_4 : List (List D)) (K0 : List (List C) → List Out → Option β) : Ex → St → Option β := contAt Try.prog (impl_running.E k) impl_running.h k [1, 1, 0, 1, 0] (codeOf Try.f112) (finDen Try.prog Try.f112 impl_running.h (impl_running.as a0_0 a0_1 a0_2 a0_3 a0_4) K0)
theorem impl_running.l0_eq {β : Type} (k : Nat) (a0_0 : ByteArray) (a0_1 : Int) (a0_2 : Int) (a0_3 : List (List D)) (a0_4 : List (List D)) (K0 : List (List C) → List Out → Option β) (v0_1 : List (List D)) (v0_2 : Int) : ∀ (kk : Nat) (v : Int × Int), loopDen (impl_running.b0 k) (impl_running.h.H 3) kk (impl_running.s0 v0_1 v0_2 v) (impl_running.c0 k a0_0 a0_1 a0_2 a0_3 a0_4 K0) = iter (impl_running.l0 k v0_1 v0_2 (impl_running.kt a0_0 a0_1 a0_2 a0_3 a0_4 K0)) kk v :=
  loop_eq (impl_running.s0 v0_1 v0_2) _ (fun L0 v => by obtain ⟨v0_0, v0_3⟩ := v; kernel_rfl)
noncomputable def impl_running.m {β : Type} (k : Nat) (a0_0 : ByteArray) (a0_1 : Int) (a0_2 : Int) (a0_3 : List (List D)) (a0_4 : List (List D)) (K0 : List (List C) → List Out → Option β) (F : ((List (List D)) → Int → (Int × Int) → Option β)) : Option β :=
  (F) a0_4 (a0_4.length : Int) (0, 0)
theorem impl_running.f_eq {β : Type} (k : Nat) (a0_0 : ByteArray) (a0_1 : Int) (a0_2 : Int) (a0_3 : List (List D)) (a0_4 : List (List D)) (K0 : List (List C) → List Out → Option β) : funDen Try.prog (impl_running.E k) impl_running.h k Try.f112 (impl_running.as a0_0 a0_1 a0_2 a0_3 a0_4) K0 = impl_running.g k a0_0 a0_1 a0_2 a0_3 a0_4 (impl_running.kt a0_0 a0_1 a0_2 a0_3 a0_4 K0) := Eq.trans (b := (impl_running.m k a0_0 a0_1 a0_2 a0_3 a0_4 K0) (fun (v0_1 : List (List D)) (v0_2 : Int) (v : Int × Int) => loopDen (impl_running.b0 k) (impl_running.h.H 3) k (impl_running.s0 v0_1 v0_2 v) (impl_running.c0 k a0_0 a0_1 a0_2 a0_3 a0_4 K0))) (by kernel_rfl) (Eq.trans (congrArg (impl_running.m k a0_0 a0_1 a0_2 a0_3 a0_4 K0) (funext fun v0_1 => funext fun v0_2 => funext fun v => impl_running.l0_eq k a0_0 a0_1 a0_2 a0_3 a0_4 K0 v0_1 v0_2 k v)) (by kernel_rfl))
noncomputable def impl_running.dec (rs : List (List C)) (os : List Out) : Option (Int) := uncons rs fun c1 r2 => uncons c1 fun x3 l4 => cD x3 fun d5 => dInt .i64 d5 fun w0 => atEnd l4 <| atEnd r2 <| atEnd os (some w0)
theorem impl_running.kt_dec (a0_0 : ByteArray) (a0_1 : Int) (a0_2 : Int) (a0_3 : List (List D)) (a0_4 : List (List D)) : impl_running.kt a0_0 a0_1 a0_2 a0_3 a0_4 impl_running.dec = (fun z0 => some z0) := by kernel_rfl
theorem impl_running.inj (a0_0 : ByteArray) (a0_1 : Int) (a0_2 : Int) (a0_3 : List (List D)) (a0_4 : List (List D)) {rs : List (List C)} {os : List Out} {z0 : Int} (h : impl_running.dec rs os = some z0) (ho : OutShape (impl_running.as a0_0 a0_1 a0_2 a0_3 a0_4) os) : rs = [[.d (.int .i64 z0)]] ∧ os = [] := by
  unfold impl_running.dec at h
  obtain ⟨c1, r2, rfl, h1⟩ := uncons_some h
  obtain ⟨x3, l4, rfl, h2⟩ := uncons_some h1
  obtain ⟨d5, rfl, h3⟩ := cD_some h2
  obtain ⟨w0, rfl, h4⟩ := dInt_some h3
  obtain ⟨rfl, h5⟩ := atEnd_some h4
  obtain ⟨rfl, h6⟩ := atEnd_some h5
  obtain ⟨rfl, h7⟩ := atEnd_some h6
  obtain rfl := Option.some.inj h7
  exact ⟨rfl, rfl⟩
theorem impl_running.ok (k : Nat) : EntryOK Try.prog 112 (impl_running.e k) := by
  refine entry_of mix tyok (fn := Try.f112) (c := codeOf Try.f112) Try.func112 (by kernel_rfl) (h := impl_running.h) (k := k) (E := impl_running.E k) env_nil (by kernel_rfl) (by kernel_rfl) rfl (enter_of Try.func112 (by kernel_rfl)) ?_
  intro β l K r hr
  simp only [impl_running.e] at hr
  split at hr
  case h_2 => cases hr
  unfold impl_running.f at hr
  split at hr
  case h_2 => cases hr
  rename_i hz
  exact ⟨_, _, hr, _, impl_running.dec, _, (impl_running.f_eq k _ _ _ _ _ impl_running.dec).trans (by rw [impl_running.kt_dec]; exact hz), fun rs os h ho => impl_running.inj _ _ _ _ _ h ho⟩
/-! ### loop.example/g00119/impl.IsleOk: function 52 -/
noncomputable def impl_IsleOk.g {β : Type} (k : Nat) (a0_0 : ByteArray) (a0_1 : Int) (a0_2 : Int) (a0_3 : List (List D)) (a0_4 : List (List D)) (K : Bool → Option β) : Option β :=
  impl_NameOk.f k a0_0 (fun y9 => bif y9 then (impl_isCopies.f k a0_1 (fun y10 => bif y10 then (impl_within.f k a0_2 0 1000000 (fun y11 => bif y11 then (impl_WorksOk.f k a0_3 (fun y126 => bif y126 then (impl_runsOk.f k a0_4 (fun y127 => bif y127 then (slices_ContainsFunc_impl_Run__impl_IsleOk_1.f k a0_4 (fun y128 => bif (!y128) then (impl_running.f k a0_0 a0_1 a0_2 a0_3 a0_4 (fun y129 => K (decide ((y129 : Int) ≤ a0_1)))) else (K false))) else (K false))) else (K false))) else (K false))) else (K false))) else (K false))
noncomputable def impl_IsleOk.t (k : Nat) (a0_0 : ByteArray) (a0_1 : Int) (a0_2 : Int) (a0_3 : List (List D)) (a0_4 : List (List D)) : Option (Bool) := impl_IsleOk.g k a0_0 a0_1 a0_2 a0_3 a0_4 (fun z0 => some z0)
noncomputable def impl_IsleOk.f {β : Type} (k : Nat) (a0_0 : ByteArray) (a0_1 : Int) (a0_2 : Int) (a0_3 : List (List D)) (a0_4 : List (List D)) (K : Bool → Option β) : Option β :=
  match impl_IsleOk.t k a0_0 a0_1 a0_2 a0_3 a0_4 with
  | some z0 => K z0
  | none => none
noncomputable def impl_IsleOk.as (a0_0 : ByteArray) (a0_1 : Int) (a0_2 : Int) (a0_3 : List (List D)) (a0_4 : List (List D)) : List A := [.agg [.str a0_0, .int .i64 a0_1, .int .i64 a0_2, .sl a0_3, .sl a0_4]]
noncomputable def impl_IsleOk.kt {β : Type} (a0_0 : ByteArray) (a0_1 : Int) (a0_2 : Int) (a0_3 : List (List D)) (a0_4 : List (List D)) (K0 : List (List C) → List Out → Option β) : Bool → Option β := fun z0 => K0 [[.d (.bool z0)]] []
noncomputable def impl_IsleOk.e (k : Nat) : Entry := { modes := [(.imm, 0)], rts := [4], al := false, run := fun {β} l K => match l with | [.agg [.str a0_0, .int .i64 a0_1, .int .i64 a0_2, .sl a0_3, .sl a0_4]] => impl_IsleOk.f k a0_0 a0_1 a0_2 a0_3 a0_4 (impl_IsleOk.kt a0_0 a0_1 a0_2 a0_3 a0_4 K) | _ => none }
noncomputable def impl_IsleOk.E (k : Nat) : Env := fun g => bif g == 72 then some (impl_NameOk.e k) else bif g == 75 then some (impl_isCopies.e k) else bif g == 87 then some (impl_within.e k) else bif g == 42 then some (impl_WorksOk.e k) else bif g == 108 then some (impl_runsOk.e k) else bif g == 110 then some (slices_ContainsFunc_impl_Run__impl_IsleOk_1.e k) else bif g == 112 then some (impl_running.e k) else none
noncomputable def impl_IsleOk.h : Hints := ⟨fun n => ⟨[], []⟩, fun _ => none, false, []⟩
theorem impl_IsleOk.f_eq {β : Type} (k : Nat) (a0_0 : ByteArray) (a0_1 : Int) (a0_2 : Int) (a0_3 : List (List D)) (a0_4 : List (List D)) (K0 : List (List C) → List Out → Option β) : funDen Try.prog (impl_IsleOk.E k) impl_IsleOk.h k Try.f52 (impl_IsleOk.as a0_0 a0_1 a0_2 a0_3 a0_4) K0 = impl_IsleOk.g k a0_0 a0_1 a0_2 a0_3 a0_4 (impl_IsleOk.kt a0_0 a0_1 a0_2 a0_3 a0_4 K0) := by kernel_rfl
noncomputable def impl_IsleOk.dec (rs : List (List C)) (os : List Out) : Option (Bool) := uncons rs fun c1 r2 => uncons c1 fun x3 l4 => cD x3 fun d5 => dBool d5 fun w0 => atEnd l4 <| atEnd r2 <| atEnd os (some w0)
theorem impl_IsleOk.kt_dec (a0_0 : ByteArray) (a0_1 : Int) (a0_2 : Int) (a0_3 : List (List D)) (a0_4 : List (List D)) : impl_IsleOk.kt a0_0 a0_1 a0_2 a0_3 a0_4 impl_IsleOk.dec = (fun z0 => some z0) := by kernel_rfl
theorem impl_IsleOk.inj (a0_0 : ByteArray) (a0_1 : Int) (a0_2 : Int) (a0_3 : List (List D)) (a0_4 : List (List D)) {rs : List (List C)} {os : List Out} {z0 : Bool} (h : impl_IsleOk.dec rs os = some z0) (ho : OutShape (impl_IsleOk.as a0_0 a0_1 a0_2 a0_3 a0_4) os) : rs = [[.d (.bool z0)]] ∧ os = [] := by
  unfold impl_IsleOk.dec at h
  obtain ⟨c1, r2, rfl, h1⟩ := uncons_some h
  obtain ⟨x3, l4, rfl, h2⟩ := uncons_some h1
  obtain ⟨d5, rfl, h3⟩ := cD_some h2
  obtain ⟨w0, rfl, h4⟩ := dBool_some h3
  obtain ⟨rfl, h5⟩ := atEnd_some h4
  obtain ⟨rfl, h6⟩ := atEnd_some h5
  obtain ⟨rfl, h7⟩ := atEnd_some h6
  obtain rfl := Option.some.inj h7
  exact ⟨rfl, rfl⟩
theorem impl_IsleOk.ok (k : Nat) : EntryOK Try.prog 52 (impl_IsleOk.e k) := by
  refine entry_of mix tyok (fn := Try.f52) (c := codeOf Try.f52) Try.func52 (by kernel_rfl) (h := impl_IsleOk.h) (k := k) (E := impl_IsleOk.E k) (env_cons (impl_NameOk.ok k) (env_cons (impl_isCopies.ok k) (env_cons (impl_within.ok k) (env_cons (impl_WorksOk.ok k) (env_cons (impl_runsOk.ok k) (env_cons (slices_ContainsFunc_impl_Run__impl_IsleOk_1.ok k) (env_cons (impl_running.ok k) env_nil))))))) (by kernel_rfl) (by kernel_rfl) rfl (enter_of Try.func52 (by kernel_rfl)) ?_
  intro β l K r hr
  simp only [impl_IsleOk.e] at hr
  split at hr
  case h_2 => cases hr
  unfold impl_IsleOk.f at hr
  split at hr
  case h_2 => cases hr
  rename_i hz
  exact ⟨_, _, hr, _, impl_IsleOk.dec, _, (impl_IsleOk.f_eq k _ _ _ _ _ impl_IsleOk.dec).trans (by rw [impl_IsleOk.kt_dec]; exact hz), fun rs os h ho => impl_IsleOk.inj _ _ _ _ _ h ho⟩
/-! ### loop.example/g00119/laws.eqStringS: function 77 -/
noncomputable def laws_eqStringS.l0 {β : Type} (k : Nat) (v0_0 : List (List D)) (v0_1 : List (List D)) (K : Bool → Option β) (L0 : Int → Option β) (v : Int) : Option β :=
  match v with
  | v0_2 => bif (decide ((v0_2 : Int) < (v0_0.length : Int))) then (atRow v0_0 v0_2 fun c9 => uncons c9 fun d10 r11 => dStr d10 fun x12 => atEnd r11 (atRow v0_1 v0_2 fun c13 => uncons c13 fun d14 r15 => dStr d14 fun x16 => atEnd r15 (bif (!(strEq x12 x16)) then (K false) else (L0 (IntKind.wrap .i64 (v0_2 + 1)))))) else (K true)
noncomputable def laws_eqStringS.g {β : Type} (k : Nat) (a0 : List (List D)) (a1 : List (List D)) (K : Bool → Option β) : Option β :=
  bif (((a0.length : Int) : Int) != (a1.length : Int)) then (K false) else (iter (laws_eqStringS.l0 k a0 a1 K) k (0))
noncomputable def laws_eqStringS.t (k : Nat) (a0 : List (List D)) (a1 : List (List D)) : Option (Bool) := laws_eqStringS.g k a0 a1 (fun z0 => some z0)
noncomputable def laws_eqStringS.f {β : Type} (k : Nat) (a0 : List (List D)) (a1 : List (List D)) (K : Bool → Option β) : Option β :=
  match laws_eqStringS.t k a0 a1 with
  | some z0 => K z0
  | none => none
noncomputable def laws_eqStringS.as (a0 : List (List D)) (a1 : List (List D)) : List A := [.d (.sl a0), .d (.sl a1)]
noncomputable def laws_eqStringS.kt {β : Type} (a0 : List (List D)) (a1 : List (List D)) (K0 : List (List C) → List Out → Option β) : Bool → Option β := fun z0 => K0 [[.d (.bool z0)]] []
noncomputable def laws_eqStringS.e (k : Nat) : Entry := { modes := [(.imm, 0), (.imm, 0)], rts := [4], al := false, run := fun {β} l K => match l with | [.d (.sl a0), .d (.sl a1)] => laws_eqStringS.f k a0 a1 (laws_eqStringS.kt a0 a1 K) | _ => none }
noncomputable def laws_eqStringS.E (k : Nat) : Env := fun g => none
noncomputable def laws_eqStringS.h : Hints := ⟨fun n => bif n == 4 then ⟨[(0, .asis), (1, .asis), (5, .asis)], []⟩ else ⟨[], []⟩, fun _ => none, false, []⟩
noncomputable def laws_eqStringS.s0 (v0_0 : List (List D)) (v0_1 : List (List D)) (v : Int) : St :=
  match v with
  | v0_2 => ⟨[.d false (.sl v0_0), .d false (.sl v0_1), .any, .any, .any, .d true (.int .i64 v0_2), .any, .any, .any, .any, .any, .any, .any, .any, .any, .any, .any, .any, .any, .any, .any, .any, .any, .any, .any, .any], []⟩
noncomputable def laws_eqStringS.b0 {β : Type} (k : Nat) : St → (Ex → St → Option β) → Option β := fun s K => den Try.prog (laws_eqStringS.E k) laws_eqStringS.h.H laws_eqStringS.h.J k (codeAt [1, 1, 0, 1, 0, 0] (codeOf Try.f77)) s K
noncomputable def laws_eqStringS.c0 {β : Type} (k : Nat) (a0 : List (List D)) (a1 : List (List D)) (K0 : List (List C) → List Out → Option β) : Ex → St → Option β := contAt Try.prog (laws_eqStringS.E k) laws_eqStringS.h k [1, 1, 0, 1, 0] (codeOf Try.f77) (finDen Try.prog Try.f77 laws_eqStringS.h (laws_eqStringS.as a0 a1) K0)
theorem laws_eqStringS.l0_eq {β : Type} (k : Nat) (a0 : List (List D)) (a1 : List (List D)) (K0 : List (List C) → List Out → Option β) (v0_0 : List (List D)) (v0_1 : List (List D)) : ∀ (kk : Nat) (v : Int), loopDen (laws_eqStringS.b0 k) (laws_eqStringS.h.H 4) kk (laws_eqStringS.s0 v0_0 v0_1 v) (laws_eqStringS.c0 k a0 a1 K0) = iter (laws_eqStringS.l0 k v0_0 v0_1 (laws_eqStringS.kt a0 a1 K0)) kk v :=
  loop_eq (laws_eqStringS.s0 v0_0 v0_1) _ (fun L0 v => by kernel_rfl)
noncomputable def laws_eqStringS.m {β : Type} (k : Nat) (a0 : List (List D)) (a1 : List (List D)) (K0 : List (List C) → List Out → Option β) (F : ((List (List D)) → (List (List D)) → Int → Option β)) : Option β :=
  bif (((a0.length : Int) : Int) != (a1.length : Int)) then ((laws_eqStringS.kt a0 a1 K0) false) else ((F) a0 a1 (0))
theorem laws_eqStringS.f_eq {β : Type} (k : Nat) (a0 : List (List D)) (a1 : List (List D)) (K0 : List (List C) → List Out → Option β) : funDen Try.prog (laws_eqStringS.E k) laws_eqStringS.h k Try.f77 (laws_eqStringS.as a0 a1) K0 = laws_eqStringS.g k a0 a1 (laws_eqStringS.kt a0 a1 K0) := Eq.trans (b := (laws_eqStringS.m k a0 a1 K0) (fun (v0_0 : List (List D)) (v0_1 : List (List D)) (v : Int) => loopDen (laws_eqStringS.b0 k) (laws_eqStringS.h.H 4) k (laws_eqStringS.s0 v0_0 v0_1 v) (laws_eqStringS.c0 k a0 a1 K0))) (by kernel_rfl) (Eq.trans (congrArg (laws_eqStringS.m k a0 a1 K0) (funext fun v0_0 => funext fun v0_1 => funext fun v => laws_eqStringS.l0_eq k a0 a1 K0 v0_0 v0_1 k v)) (by kernel_rfl))
noncomputable def laws_eqStringS.dec (rs : List (List C)) (os : List Out) : Option (Bool) := uncons rs fun c1 r2 => uncons c1 fun x3 l4 => cD x3 fun d5 => dBool d5 fun w0 => atEnd l4 <| atEnd r2 <| atEnd os (some w0)
theorem laws_eqStringS.kt_dec (a0 : List (List D)) (a1 : List (List D)) : laws_eqStringS.kt a0 a1 laws_eqStringS.dec = (fun z0 => some z0) := by kernel_rfl
theorem laws_eqStringS.inj (a0 : List (List D)) (a1 : List (List D)) {rs : List (List C)} {os : List Out} {z0 : Bool} (h : laws_eqStringS.dec rs os = some z0) (ho : OutShape (laws_eqStringS.as a0 a1) os) : rs = [[.d (.bool z0)]] ∧ os = [] := by
  unfold laws_eqStringS.dec at h
  obtain ⟨c1, r2, rfl, h1⟩ := uncons_some h
  obtain ⟨x3, l4, rfl, h2⟩ := uncons_some h1
  obtain ⟨d5, rfl, h3⟩ := cD_some h2
  obtain ⟨w0, rfl, h4⟩ := dBool_some h3
  obtain ⟨rfl, h5⟩ := atEnd_some h4
  obtain ⟨rfl, h6⟩ := atEnd_some h5
  obtain ⟨rfl, h7⟩ := atEnd_some h6
  obtain rfl := Option.some.inj h7
  exact ⟨rfl, rfl⟩
theorem laws_eqStringS.ok (k : Nat) : EntryOK Try.prog 77 (laws_eqStringS.e k) := by
  refine entry_of mix tyok (fn := Try.f77) (c := codeOf Try.f77) Try.func77 (by kernel_rfl) (h := laws_eqStringS.h) (k := k) (E := laws_eqStringS.E k) env_nil (by kernel_rfl) (by kernel_rfl) rfl (enter_of Try.func77 (by kernel_rfl)) ?_
  intro β l K r hr
  simp only [laws_eqStringS.e] at hr
  split at hr
  case h_2 => cases hr
  unfold laws_eqStringS.f at hr
  split at hr
  case h_2 => cases hr
  rename_i hz
  exact ⟨_, _, hr, _, laws_eqStringS.dec, _, (laws_eqStringS.f_eq k _ _ laws_eqStringS.dec).trans (by rw [laws_eqStringS.kt_dec]; exact hz), fun rs os h ho => laws_eqStringS.inj _ _ h ho⟩
/-! ### loop.example/g00119/laws.eqValueS: function 194 -/
noncomputable def laws_eqValueS.l0 {β : Type} (k : Nat) (r_laws_eqValueS : (List (List D)) → (List (List D)) → (Bool → Option β) → Option β) (r_laws_eqValue : Int → ByteArray → Int → (List (List D)) → (List (List D)) → Int → ByteArray → Int → (List (List D)) → (List (List D)) → (Bool → Option β) → Option β) (v0_0 : List (List D)) (v0_1 : List (List D)) (K : Bool → Option β) (L0 : Int → Option β) (v : Int) : Option β :=
  match v with
  | v0_2 => bif (decide ((v0_2 : Int) < (v0_0.length : Int))) then (atRow v0_0 v0_2 fun c34 => uncons c34 fun d35 r36 => dInt .i64 d35 fun x37 => uncons r36 fun d38 r39 => dStr d38 fun x40 => uncons r39 fun d41 r42 => dInt .i64 d41 fun x43 => uncons r42 fun d44 r45 => dSl d44 fun x46 => uncons r45 fun d47 r48 => dSl d47 fun x49 => atEnd r48 (atRow v0_1 v0_2 fun c50 => uncons c50 fun d51 r52 => dInt .i64 d51 fun x53 => uncons r52 fun d54 r55 => dStr d54 fun x56 => uncons r55 fun d57 r58 => dInt .i64 d57 fun x59 => uncons r58 fun d60 r61 => dSl d60 fun x62 => uncons r61 fun d63 r64 => dSl d63 fun x65 => atEnd r64 (r_laws_eqValue x37 x40 x43 x46 x49 x53 x56 x59 x62 x65 (fun y66 => bif (!y66) then (K false) else (L0 (IntKind.wrap .i64 (v0_2 + 1))))))) else (K true)
noncomputable def laws_eqValueS.body {β : Type} (k : Nat) (r_laws_eqValueS : (List (List D)) → (List (List D)) → (Bool → Option β) → Option β) (r_laws_eqValue : Int → ByteArray → Int → (List (List D)) → (List (List D)) → Int → ByteArray → Int → (List (List D)) → (List (List D)) → (Bool → Option β) → Option β) (a0 : List (List D)) (a1 : List (List D)) (K : Bool → Option β) : Option β :=
  bif (((a0.length : Int) : Int) != (a1.length : Int)) then (K false) else (iter (laws_eqValueS.l0 k r_laws_eqValueS r_laws_eqValue a0 a1 K) k (0))
/-! ### loop.example/g00119/laws.eqValue: function 163 -/
noncomputable def laws_eqValue.body {β : Type} (k : Nat) (r_laws_eqValueS : (List (List D)) → (List (List D)) → (Bool → Option β) → Option β) (r_laws_eqValue : Int → ByteArray → Int → (List (List D)) → (List (List D)) → Int → ByteArray → Int → (List (List D)) → (List (List D)) → (Bool → Option β) → Option β) (a0_0 : Int) (a0_1 : ByteArray) (a0_2 : Int) (a0_3 : List (List D)) (a0_4 : List (List D)) (a1_0 : Int) (a1_1 : ByteArray) (a1_2 : Int) (a1_3 : List (List D)) (a1_4 : List (List D)) (K : Bool → Option β) : Option β :=
  bif ((a0_0 : Int) != a1_0) then (K false) else (bif (!(strEq a0_1 a1_1)) then (K false) else (bif ((a0_2 : Int) != a1_2) then (K false) else (laws_eqStringS.f k a0_3 a1_3 (fun y17 => bif (!y17) then (K false) else (r_laws_eqValueS a0_4 a1_4 (fun y67 => bif (!y67) then (K false) else (K true)))))))
noncomputable def laws_eqValueS.w {β : Type} (r : (List (List D)) → (List (List D)) → Option (Bool)) (a0 : List (List D)) (a1 : List (List D)) (K : Bool → Option β) : Option β :=
  match r a0 a1 with
  | some z0 => K z0
  | none => none
noncomputable def laws_eqValue.w {β : Type} (r : Int → ByteArray → Int → (List (List D)) → (List (List D)) → Int → ByteArray → Int → (List (List D)) → (List (List D)) → Option (Bool)) (a0_0 : Int) (a0_1 : ByteArray) (a0_2 : Int) (a0_3 : List (List D)) (a0_4 : List (List D)) (a1_0 : Int) (a1_1 : ByteArray) (a1_2 : Int) (a1_3 : List (List D)) (a1_4 : List (List D)) (K : Bool → Option β) : Option β :=
  match r a0_0 a0_1 a0_2 a0_3 a0_4 a1_0 a1_1 a1_2 a1_3 a1_4 with
  | some z0 => K z0
  | none => none
noncomputable def laws_eqValueS.all : Nat → ((List (List D)) → (List (List D)) → Option (Bool)) × (Int → ByteArray → Int → (List (List D)) → (List (List D)) → Int → ByteArray → Int → (List (List D)) → (List (List D)) → Option (Bool))
  | 0 => (fun _ _ => none, fun _ _ _ _ _ _ _ _ _ _ => none)
  | k + 1 => (fun r => (fun a0 a1 => laws_eqValueS.body k (laws_eqValueS.w r.1) (laws_eqValue.w r.2) a0 a1 (fun z0 => some z0), fun a0_0 a0_1 a0_2 a0_3 a0_4 a1_0 a1_1 a1_2 a1_3 a1_4 => laws_eqValue.body k (laws_eqValueS.w r.1) (laws_eqValue.w r.2) a0_0 a0_1 a0_2 a0_3 a0_4 a1_0 a1_1 a1_2 a1_3 a1_4 (fun z0 => some z0))) (laws_eqValueS.all k)
noncomputable def laws_eqValueS.t (k : Nat) (a0 : List (List D)) (a1 : List (List D)) : Option (Bool) := (laws_eqValueS.all k).1 a0 a1
noncomputable def laws_eqValue.t (k : Nat) (a0_0 : Int) (a0_1 : ByteArray) (a0_2 : Int) (a0_3 : List (List D)) (a0_4 : List (List D)) (a1_0 : Int) (a1_1 : ByteArray) (a1_2 : Int) (a1_3 : List (List D)) (a1_4 : List (List D)) : Option (Bool) := (laws_eqValueS.all k).2 a0_0 a0_1 a0_2 a0_3 a0_4 a1_0 a1_1 a1_2 a1_3 a1_4
noncomputable def laws_eqValueS.f {β : Type} (k : Nat) (a0 : List (List D)) (a1 : List (List D)) (K : Bool → Option β) : Option β := laws_eqValueS.w (laws_eqValueS.t k) a0 a1 K
noncomputable def laws_eqValue.f {β : Type} (k : Nat) (a0_0 : Int) (a0_1 : ByteArray) (a0_2 : Int) (a0_3 : List (List D)) (a0_4 : List (List D)) (a1_0 : Int) (a1_1 : ByteArray) (a1_2 : Int) (a1_3 : List (List D)) (a1_4 : List (List D)) (K : Bool → Option β) : Option β := laws_eqValue.w (laws_eqValue.t k) a0_0 a0_1 a0_2 a0_3 a0_4 a1_0 a1_1 a1_2 a1_3 a1_4 K
noncomputable def laws_eqValueS.g {β : Type} (k : Nat) (a0 : List (List D)) (a1 : List (List D)) (K : Bool → Option β) : Option β := laws_eqValueS.body k (laws_eqValueS.f k) (laws_eqValue.f k) a0 a1 K
theorem laws_eqValueS.t_zero (a0 : List (List D)) (a1 : List (List D)) : laws_eqValueS.t 0 a0 a1 = none := rfl
theorem laws_eqValueS.t_succ (k : Nat) (a0 : List (List D)) (a1 : List (List D)) : laws_eqValueS.t (k + 1) a0 a1 = laws_eqValueS.g k a0 a1 (fun z0 => some z0) := rfl
noncomputable def laws_eqValue.g {β : Type} (k : Nat) (a0_0 : Int) (a0_1 : ByteArray) (a0_2 : Int) (a0_3 : List (List D)) (a0_4 : List (List D)) (a1_0 : Int) (a1_1 : ByteArray) (a1_2 : Int) (a1_3 : List (List D)) (a1_4 : List (List D)) (K : Bool → Option β) : Option β := laws_eqValue.body k (laws_eqValueS.f k) (laws_eqValue.f k) a0_0 a0_1 a0_2 a0_3 a0_4 a1_0 a1_1 a1_2 a1_3 a1_4 K
theorem laws_eqValue.t_zero (a0_0 : Int) (a0_1 : ByteArray) (a0_2 : Int) (a0_3 : List (List D)) (a0_4 : List (List D)) (a1_0 : Int) (a1_1 : ByteArray) (a1_2 : Int) (a1_3 : List (List D)) (a1_4 : List (List D)) : laws_eqValue.t 0 a0_0 a0_1 a0_2 a0_3 a0_4 a1_0 a1_1 a1_2 a1_3 a1_4 = none := rfl
theorem laws_eqValue.t_succ (k : Nat) (a0_0 : Int) (a0_1 : ByteArray) (a0_2 : Int) (a0_3 : List (List D)) (a0_4 : List (List D)) (a1_0 : Int) (a1_1 : ByteArray) (a1_2 : Int) (a1_3 : List (List D)) (a1_4 : List (List D)) : laws_eqValue.t (k + 1) a0_0 a0_1 a0_2 a0_3 a0_4 a1_0 a1_1 a1_2 a1_3 a1_4 = laws_eqValue.g k a0_0 a0_1 a0_2 a0_3 a0_4 a1_0 a1_1 a1_2 a1_3 a1_4 (fun z0 => some z0) := rfl
noncomputable def laws_eqValueS.as (a0 : List (List D)) (a1 : List (List D)) : List A := [.d (.sl a0), .d (.sl a1)]
noncomputable def laws_eqValueS.kt {β : Type} (a0 : List (List D)) (a1 : List (List D)) (K0 : List (List C) → List Out → Option β) : Bool → Option β := fun z0 => K0 [[.d (.bool z0)]] []
noncomputable def laws_eqValueS.e (k : Nat) : Entry := { modes := [(.imm, 0), (.imm, 0)], rts := [4], al := false, run := fun {β} l K => match l with | [.d (.sl a0), .d (.sl a1)] => laws_eqValueS.f k a0 a1 (laws_eqValueS.kt a0 a1 K) | _ => none }
noncomputable def laws_eqValue.as (a0_0 : Int) (a0_1 : ByteArray) (a0_2 : Int) (a0_3 : List (List D)) (a0_4 : List (List D)) (a1_0 : Int) (a1_1 : ByteArray) (a1_2 : Int) (a1_3 : List (List D)) (a1_4 : List (List D)) : List A := [.agg [.int .i64 a0_0, .str a0_1, .int .i64 a0_2, .sl a0_3, .sl a0_4], .agg [.int .i64 a1_0, .str a1_1, .int .i64 a1_2, .sl a1_3, .sl a1_4]]
noncomputable def laws_eqValue.kt {β : Type} (a0_0 : Int) (a0_1 : ByteArray) (a0_2 : Int) (a0_3 : List (List D)) (a0_4 : List (List D)) (a1_0 : Int) (a1_1 : ByteArray) (a1_2 : Int) (a1_3 : List (List D)) (a1_4 : List (List D)) (K0 : List (List C) → List Out → Option β) : Bool → Option β := fun z0 => K0 [[.d (.bool z0)]] []
noncomputable def laws_eqValue.e (k : Nat) : Entry := { modes := [(.imm, 0), (.imm, 0)], rts := [4], al := false, run := fun {β} l K => match l with | [.agg [.int .i64 a0_0, .str a0_1, .int .i64 a0_2, .sl a0_3, .sl a0_4], .agg [.int .i64 a1_0, .str a1_1, .int .i64 a1_2, .sl a1_3, .sl a1_4]] => laws_eqValue.f k a0_0 a0_1 a0_2 a0_3 a0_4 a1_0 a1_1 a1_2 a1_3 a1_4 (laws_eqValue.kt a0_0 a0_1 a0_2 a0_3 a0_4 a1_0 a1_1 a1_2 a1_3 a1_4 K) | _ => none }
noncomputable def laws_eqValueS.E (k : Nat) : Env := fun g => bif g == 163 then some (laws_eqValue.e k) else none
noncomputable def laws_eqValueS.h : Hints := ⟨fun n => bif n == 4 then ⟨[(0, .asis), (1, .asis), (5, .asis)], []⟩ else ⟨[], []⟩, fun _ => none, false, []⟩
noncomputable def laws_eqValueS.s0 (v0_0 : List (List D)) (v0_1 : List (List D)) (v : Int) : St :=
  match v with
  | v0_2 => ⟨[.d false (.sl v0_0), .d false (.sl v0_1), .any, .any, .any, .d true (.int .i64 v0_2), .any, .any, .any, .any, .any, .any, .any, .any, .any, .any, .any, .any, .any, .any, .any, .any, .any, .any, .any, .any, .any], []⟩
noncomputable def laws_eqValueS.b0 {β : Type} (k : Nat) : St → (Ex → St → Option β) → Option β := fun s K => den Try.prog (laws_eqValueS.E k) laws_eqValueS.h.H laws_eqValueS.h.J k (codeAt [1, 1, 0, 1, 0, 0] (codeOf Try.f194)) s K
noncomputable def laws_eqValueS.c0 {β : Type} (k : Nat) (a0 : List (List D)) (a1 : List (List D)) (K0 : List (List C) → List Out → Option β) : Ex → St → Option β := contAt Try.prog (laws_eqValueS.E k) laws_eqValueS.h k [1, 1, 0, 1, 0] (codeOf Try.f194) (finDen Try.prog Try.f194 laws_eqValueS.h (laws_eqValueS.as a0 a1) K0)
theorem laws_eqValueS.l0_eq {β : Type} (k : Nat) (a0 : List (List D)) (a1 : List (List D)) (K0 : List (List C) → List Out → Option β) (v0_0 : List (List D)) (v0_1 : List (List D)) : ∀ (kk : Nat) (v : Int), loopDen (laws_eqValueS.b0 k) (laws_eqValueS.h.H 4) kk (laws_eqValueS.s0 v0_0 v0_1 v) (laws_eqValueS.c0 k a0 a1 K0) = iter (laws_eqValueS.l0 k (laws_eqValueS.f k) (laws_eqValue.f k) v0_0 v0_1 (laws_eqValueS.kt a0 a1 K0)) kk v :=
  loop_eq (laws_eqValueS.s0 v0_0 v0_1) _ (fun L0 v => by kernel_rfl)
noncomputable def laws_eqValueS.m {β : Type} (k : Nat) (a0 : List (List D)) (a1 : List (List D)) (K0 : List (List C) → List Out → Option β) (F : ((List (List D)) → (List (List D)) → Int → Option β)) : Option β :=
  bif (((a0.length : Int) : Int) != (a1.length : Int)) then ((laws_eqValueS.kt a0 a1 K0) false) else ((F) a0 a1 (0))
theorem laws_eqValueS.f_eq {β : Type} (k : Nat) (a0 : List (List D)) (a1 : List (List D)) (K0 : List (List C) → List Out → Option β) : funDen Try.prog (laws_eqValueS.E k) laws_eqValueS.h k Try.f194 (laws_eqValueS.as a0 a1) K0 = laws_eqValueS.g k a0 a1 (laws_eqValueS.kt a0 a1 K0) := Eq.trans (b := (laws_eqValueS.m k a0 a1 K0) (fun (v0_0 : List (List D)) (v0_1 : List (List D)) (v : Int) => loopDen (laws_eqValueS.b0 k) (laws_eqValueS.h.H 4) k (laws_eqValueS.s0 v0_0 v0_1 v) (laws_eqValueS.c0 k a0 a1 K0))) (by kernel_rfl) (Eq.trans (congrArg (laws_eqValueS.m k a0 a1 K0) (funext fun v0_0 => funext fun v0_1 => funext fun v => laws_eqValueS.l0_eq k a0 a1 K0 v0_0 v0_1 k v)) (by kernel_rfl))
noncomputable def laws_eqValue.E (k : Nat) : Env := fun g => bif g == 77 then some (laws_eqStringS.e k) else bif g == 194 then some (laws_eqValueS.e k) else none
noncomputable def laws_eqValue.h : Hints := ⟨fun n => ⟨[], []⟩, fun _ => none, false, []⟩
theorem laws_eqValue.f_eq {β : Type} (k : Nat) (a0_0 : Int) (a0_1 : ByteArray) (a0_2 : Int) (a0_3 : List (List D)) (a0_4 : List (List D)) (a1_0 : Int) (a1_1 : ByteArray) (a1_2 : Int) (a1_3 : List (List D)) (a1_4 : List (List D)) (K0 : List (List C) → List Out → Option β) : funDen Try.prog (laws_eqValue.E k) laws_eqValue.h k Try.f163 (laws_eqValue.as a0_0 a0_1 a0_2 a0_3 a0_4 a1_0 a1_1 a1_2 a1_3 a1_4) K0 = laws_eqValue.g k a0_0 a0_1 a0_2 a0_3 a0_4 a1_0 a1_1 a1_2 a1_3 a1_4 (laws_eqValue.kt a0_0 a0_1 a0_2 a0_3 a0_4 a1_0 a1_1 a1_2 a1_3 a1_4 K0) := by kernel_rfl
noncomputable def laws_eqValueS.dec (rs : List (List C)) (os : List Out) : Option (Bool) := uncons rs fun c1 r2 => uncons c1 fun x3 l4 => cD x3 fun d5 => dBool d5 fun w0 => atEnd l4 <| atEnd r2 <| atEnd os (some w0)
theorem laws_eqValueS.kt_dec (a0 : List (List D)) (a1 : List (List D)) : laws_eqValueS.kt a0 a1 laws_eqValueS.dec = (fun z0 => some z0) := by kernel_rfl
theorem laws_eqValueS.inj (a0 : List (List D)) (a1 : List (List D)) {rs : List (List C)} {os : List Out} {z0 : Bool} (h : laws_eqValueS.dec rs os = some z0) (ho : OutShape (laws_eqValueS.as a0 a1) os) : rs = [[.d (.bool z0)]] ∧ os = [] := by
  unfold laws_eqValueS.dec at h
  obtain ⟨c1, r2, rfl, h1⟩ := uncons_some h
  obtain ⟨x3, l4, rfl, h2⟩ := uncons_some h1
  obtain ⟨d5, rfl, h3⟩ := cD_some h2
  obtain ⟨w0, rfl, h4⟩ := dBool_some h3
  obtain ⟨rfl, h5⟩ := atEnd_some h4
  obtain ⟨rfl, h6⟩ := atEnd_some h5
  obtain ⟨rfl, h7⟩ := atEnd_some h6
  obtain rfl := Option.some.inj h7
  exact ⟨rfl, rfl⟩
noncomputable def laws_eqValue.dec (rs : List (List C)) (os : List Out) : Option (Bool) := uncons rs fun c1 r2 => uncons c1 fun x3 l4 => cD x3 fun d5 => dBool d5 fun w0 => atEnd l4 <| atEnd r2 <| atEnd os (some w0)
theorem laws_eqValue.kt_dec (a0_0 : Int) (a0_1 : ByteArray) (a0_2 : Int) (a0_3 : List (List D)) (a0_4 : List (List D)) (a1_0 : Int) (a1_1 : ByteArray) (a1_2 : Int) (a1_3 : List (List D)) (a1_4 : List (List D)) : laws_eqValue.kt a0_0 a0_1 a0_2 a0_3 a0_4 a1_0 a1_1 a1_2 a1_3 a1_4 laws_eqValue.dec = (fun z0 => some z0) := by kernel_rfl
theorem laws_eqValue.inj (a0_0 : Int) (a0_1 : ByteArray) (a0_2 : Int) (a0_3 : List (List D)) (a0_4 : List (List D)) (a1_0 : Int) (a1_1 : ByteArray) (a1_2 : Int) (a1_3 : List (List D)) (a1_4 : List (List D)) {rs : List (List C)} {os : List Out} {z0 : Bool} (h : laws_eqValue.dec rs os = some z0) (ho : OutShape (laws_eqValue.as a0_0 a0_1 a0_2 a0_3 a0_4 a1_0 a1_1 a1_2 a1_3 a1_4) os) : rs = [[.d (.bool z0)]] ∧ os = [] := by
  unfold laws_eqValue.dec at h
  obtain ⟨c1, r2, rfl, h1⟩ := uncons_some h
  obtain ⟨x3, l4, rfl, h2⟩ := uncons_some h1
  obtain ⟨d5, rfl, h3⟩ := cD_some h2
  obtain ⟨w0, rfl, h4⟩ := dBool_some h3
  obtain ⟨rfl, h5⟩ := atEnd_some h4
  obtain ⟨rfl, h6⟩ := atEnd_some h5
  obtain ⟨rfl, h7⟩ := atEnd_some h6
  obtain rfl := Option.some.inj h7
  exact ⟨rfl, rfl⟩
theorem laws_eqValueS.oks (k : Nat) : EntryOK Try.prog 194 (laws_eqValueS.e k) ∧ EntryOK Try.prog 163 (laws_eqValue.e k) := by
  induction k with
  | zero =>
    refine ⟨?_, ?_⟩
    · exact entry_zero (enter_of Try.func194 (by kernel_rfl)) fun β l K r h => by
        simp only [laws_eqValueS.e] at h
        split at h
        · unfold laws_eqValueS.f at h
          unfold laws_eqValueS.w at h
          rw [laws_eqValueS.t_zero] at h
          cases h
        · cases h
    · exact entry_zero (enter_of Try.func163 (by kernel_rfl)) fun β l K r h => by
        simp only [laws_eqValue.e] at h
        split at h
        · unfold laws_eqValue.f at h
          unfold laws_eqValue.w at h
          rw [laws_eqValue.t_zero] at h
          cases h
        · cases h
  | succ k ih =>
    refine ⟨?_, ?_⟩
    · refine entry_of mix tyok (fn := Try.f194) (c := codeOf Try.f194) Try.func194 (by kernel_rfl) (h := laws_eqValueS.h) (k := k) (E := laws_eqValueS.E k) (env_cons ih.2 env_nil) (by kernel_rfl) (by kernel_rfl) rfl (enter_of Try.func194 (by kernel_rfl)) ?_
      intro β l K r hr
      simp only [laws_eqValueS.e] at hr
      split at hr
      case h_2 => cases hr
      unfold laws_eqValueS.f at hr
      unfold laws_eqValueS.w at hr
      split at hr
      case h_2 => cases hr
      rename_i hz
      exact ⟨_, _, hr, _, laws_eqValueS.dec, _, (laws_eqValueS.f_eq k _ _ laws_eqValueS.dec).trans (by rw [laws_eqValueS.kt_dec]; exact hz), fun rs os h ho => laws_eqValueS.inj _ _ h ho⟩
    · refine entry_of mix tyok (fn := Try.f163) (c := codeOf Try.f163) Try.func163 (by kernel_rfl) (h := laws_eqValue.h) (k := k) (E := laws_eqValue.E k) (env_cons (laws_eqStringS.ok k) (env_cons ih.1 env_nil)) (by kernel_rfl) (by kernel_rfl) rfl (enter_of Try.func163 (by kernel_rfl)) ?_
      intro β l K r hr
      simp only [laws_eqValue.e] at hr
      split at hr
      case h_2 => cases hr
      unfold laws_eqValue.f at hr
      unfold laws_eqValue.w at hr
      split at hr
      case h_2 => cases hr
      rename_i hz
      exact ⟨_, _, hr, _, laws_eqValue.dec, _, (laws_eqValue.f_eq k _ _ _ _ _ _ _ _ _ _ laws_eqValue.dec).trans (by rw [laws_eqValue.kt_dec]; exact hz), fun rs os h ho => laws_eqValue.inj _ _ _ _ _ _ _ _ _ _ h ho⟩
theorem laws_eqValueS.ok (k : Nat) : EntryOK Try.prog 194 (laws_eqValueS.e k) := (laws_eqValueS.oks k).1
theorem laws_eqValue.ok (k : Nat) : EntryOK Try.prog 163 (laws_eqValue.e k) := (laws_eqValueS.oks k).2
/-! ### loop.example/g00119/laws.eqWork: function 104 -/
noncomputable def laws_eqWork.g {β : Type} (k : Nat) (a0_0 : Int) (a0_1 : Int) (a0_2 : Int) (a0_3 : ByteArray) (a0_4 : Int) (a0_5 : List (List D)) (a0_6 : List (List D)) (a1_0 : Int) (a1_1 : Int) (a1_2 : Int) (a1_3 : ByteArray) (a1_4 : Int) (a1_5 : List (List D)) (a1_6 : List (List D)) (K : Bool → Option β) : Option β :=
  bif ((a0_0 : Int) != a1_0) then (K false) else (bif ((a0_1 : Int) != a1_1) then (K false) else (laws_eqValue.f k a0_2 a0_3 a0_4 a0_5 a0_6 a1_2 a1_3 a1_4 a1_5 a1_6 (fun y68 => bif (!y68) then (K false) else (K true))))
noncomputable def laws_eqWork.t (k : Nat) (a0_0 : Int) (a0_1 : Int) (a0_2 : Int) (a0_3 : ByteArray) (a0_4 : Int) (a0_5 : List (List D)) (a0_6 : List (List D)) (a1_0 : Int) (a1_1 : Int) (a1_2 : Int) (a1_3 : ByteArray) (a1_4 : Int) (a1_5 : List (List D)) (a1_6 : List (List D)) : Option (Bool) := laws_eqWork.g k a0_0 a0_1 a0_2 a0_3 a0_4 a0_5 a0_6 a1_0 a1_1 a1_2 a1_3 a1_4 a1_5 a1_6 (fun z0 => some z0)
noncomputable def laws_eqWork.f {β : Type} (k : Nat) (a0_0 : Int) (a0_1 : Int) (a0_2 : Int) (a0_3 : ByteArray) (a0_4 : Int) (a0_5 : List (List D)) (a0_6 : List (List D)) (a1_0 : Int) (a1_1 : Int) (a1_2 : Int) (a1_3 : ByteArray) (a1_4 : Int) (a1_5 : List (List D)) (a1_6 : List (List D)) (K : Bool → Option β) : Option β :=
  match laws_eqWork.t k a0_0 a0_1 a0_2 a0_3 a0_4 a0_5 a0_6 a1_0 a1_1 a1_2 a1_3 a1_4 a1_5 a1_6 with
  | some z0 => K z0
  | none => none
noncomputable def laws_eqWork.as (a0_0 : Int) (a0_1 : Int) (a0_2 : Int) (a0_3 : ByteArray) (a0_4 : Int) (a0_5 : List (List D)) (a0_6 : List (List D)) (a1_0 : Int) (a1_1 : Int) (a1_2 : Int) (a1_3 : ByteArray) (a1_4 : Int) (a1_5 : List (List D)) (a1_6 : List (List D)) : List A := [.agg [.int .i64 a0_0, .int .i64 a0_1, .int .i64 a0_2, .str a0_3, .int .i64 a0_4, .sl a0_5, .sl a0_6], .agg [.int .i64 a1_0, .int .i64 a1_1, .int .i64 a1_2, .str a1_3, .int .i64 a1_4, .sl a1_5, .sl a1_6]]
noncomputable def laws_eqWork.kt {β : Type} (a0_0 : Int) (a0_1 : Int) (a0_2 : Int) (a0_3 : ByteArray) (a0_4 : Int) (a0_5 : List (List D)) (a0_6 : List (List D)) (a1_0 : Int) (a1_1 : Int) (a1_2 : Int) (a1_3 : ByteArray) (a1_4 : Int) (a1_5 : List (List D)) (a1_6 : List (List D)) (K0 : List (List C) → List Out → Option β) : Bool → Option β := fun z0 => K0 [[.d (.bool z0)]] []
noncomputable def laws_eqWork.e (k : Nat) : Entry := { modes := [(.imm, 0), (.imm, 0)], rts := [4], al := false, run := fun {β} l K => match l with | [.agg [.int .i64 a0_0, .int .i64 a0_1, .int .i64 a0_2, .str a0_3, .int .i64 a0_4, .sl a0_5, .sl a0_6], .agg [.int .i64 a1_0, .int .i64 a1_1, .int .i64 a1_2, .str a1_3, .int .i64 a1_4, .sl a1_5, .sl a1_6]] => laws_eqWork.f k a0_0 a0_1 a0_2 a0_3 a0_4 a0_5 a0_6 a1_0 a1_1 a1_2 a1_3 a1_4 a1_5 a1_6 (laws_eqWork.kt a0_0 a0_1 a0_2 a0_3 a0_4 a0_5 a0_6 a1_0 a1_1 a1_2 a1_3 a1_4 a1_5 a1_6 K) | _ => none }
noncomputable def laws_eqWork.E (k : Nat) : Env := fun g => bif g == 163 then some (laws_eqValue.e k) else none
noncomputable def laws_eqWork.h : Hints := ⟨fun n => ⟨[], []⟩, fun _ => none, false, []⟩
theorem laws_eqWork.f_eq {β : Type} (k : Nat) (a0_0 : Int) (a0_1 : Int) (a0_2 : Int) (a0_3 : ByteArray) (a0_4 : Int) (a0_5 : List (List D)) (a0_6 : List (List D)) (a1_0 : Int) (a1_1 : Int) (a1_2 : Int) (a1_3 : ByteArray) (a1_4 : Int) (a1_5 : List (List D)) (a1_6 : List (List D)) (K0 : List (List C) → List Out → Option β) : funDen Try.prog (laws_eqWork.E k) laws_eqWork.h k Try.f104 (laws_eqWork.as a0_0 a0_1 a0_2 a0_3 a0_4 a0_5 a0_6 a1_0 a1_1 a1_2 a1_3 a1_4 a1_5 a1_6) K0 = laws_eqWork.g k a0_0 a0_1 a0_2 a0_3 a0_4 a0_5 a0_6 a1_0 a1_1 a1_2 a1_3 a1_4 a1_5 a1_6 (laws_eqWork.kt a0_0 a0_1 a0_2 a0_3 a0_4 a0_5 a0_6 a1_0 a1_1 a1_2 a1_3 a1_4 a1_5 a1_6 K0) := by kernel_rfl
noncomputable def laws_eqWork.dec (rs : List (List C)) (os : List Out) : Option (Bool) := uncons rs fun c1 r2 => uncons c1 fun x3 l4 => cD x3 fun d5 => dBool d5 fun w0 => atEnd l4 <| atEnd r2 <| atEnd os (some w0)
theorem laws_eqWork.kt_dec (a0_0 : Int) (a0_1 : Int) (a0_2 : Int) (a0_3 : ByteArray) (a0_4 : Int) (a0_5 : List (List D)) (a0_6 : List (List D)) (a1_0 : Int) (a1_1 : Int) (a1_2 : Int) (a1_3 : ByteArray) (a1_4 : Int) (a1_5 : List (List D)) (a1_6 : List (List D)) : laws_eqWork.kt a0_0 a0_1 a0_2 a0_3 a0_4 a0_5 a0_6 a1_0 a1_1 a1_2 a1_3 a1_4 a1_5 a1_6 laws_eqWork.dec = (fun z0 => some z0) := by kernel_rfl
theorem laws_eqWork.inj (a0_0 : Int) (a0_1 : Int) (a0_2 : Int) (a0_3 : ByteArray) (a0_4 : Int) (a0_5 : List (List D)) (a0_6 : List (List D)) (a1_0 : Int) (a1_1 : Int) (a1_2 : Int) (a1_3 : ByteArray) (a1_4 : Int) (a1_5 : List (List D)) (a1_6 : List (List D)) {rs : List (List C)} {os : List Out} {z0 : Bool} (h : laws_eqWork.dec rs os = some z0) (ho : OutShape (laws_eqWork.as a0_0 a0_1 a0_2 a0_3 a0_4 a0_5 a0_6 a1_0 a1_1 a1_2 a1_3 a1_4 a1_5 a1_6) os) : rs = [[.d (.bool z0)]] ∧ os = [] := by
  unfold laws_eqWork.dec at h
  obtain ⟨c1, r2, rfl, h1⟩ := uncons_some h
  obtain ⟨x3, l4, rfl, h2⟩ := uncons_some h1
  obtain ⟨d5, rfl, h3⟩ := cD_some h2
  obtain ⟨w0, rfl, h4⟩ := dBool_some h3
  obtain ⟨rfl, h5⟩ := atEnd_some h4
  obtain ⟨rfl, h6⟩ := atEnd_some h5
  obtain ⟨rfl, h7⟩ := atEnd_some h6
  obtain rfl := Option.some.inj h7
  exact ⟨rfl, rfl⟩
theorem laws_eqWork.ok (k : Nat) : EntryOK Try.prog 104 (laws_eqWork.e k) := by
  refine entry_of mix tyok (fn := Try.f104) (c := codeOf Try.f104) Try.func104 (by kernel_rfl) (h := laws_eqWork.h) (k := k) (E := laws_eqWork.E k) (env_cons (laws_eqValue.ok k) env_nil) (by kernel_rfl) (by kernel_rfl) rfl (enter_of Try.func104 (by kernel_rfl)) ?_
  intro β l K r hr
  simp only [laws_eqWork.e] at hr
  split at hr
  case h_2 => cases hr
  unfold laws_eqWork.f at hr
  split at hr
  case h_2 => cases hr
  rename_i hz
  exact ⟨_, _, hr, _, laws_eqWork.dec, _, (laws_eqWork.f_eq k _ _ _ _ _ _ _ _ _ _ _ _ _ _ laws_eqWork.dec).trans (by rw [laws_eqWork.kt_dec]; exact hz), fun rs os h ho => laws_eqWork.inj _ _ _ _ _ _ _ _ _ _ _ _ _ _ h ho⟩
/-! ### loop.example/g00119/laws.eqWorkS: function 43 -/
noncomputable def laws_eqWorkS.l0 {β : Type} (k : Nat) (v0_0 : List (List D)) (v0_1 : List (List D)) (K : Bool → Option β) (L0 : Int → Option β) (v : Int) : Option β :=
  match v with
  | v0_2 => bif (decide ((v0_2 : Int) < (v0_0.length : Int))) then (atRow v0_0 v0_2 fun c70 => uncons c70 fun d71 r72 => dInt .i64 d71 fun x73 => uncons r72 fun d74 r75 => dInt .i64 d74 fun x76 => uncons r75 fun d77 r78 => dInt .i64 d77 fun x79 => uncons r78 fun d80 r81 => dStr d80 fun x82 => uncons r81 fun d83 r84 => dInt .i64 d83 fun x85 => uncons r84 fun d86 r87 => dSl d86 fun x88 => uncons r87 fun d89 r90 => dSl d89 fun x91 => atEnd r90 (atRow v0_1 v0_2 fun c92 => uncons c92 fun d93 r94 => dInt .i64 d93 fun x95 => uncons r94 fun d96 r97 => dInt .i64 d96 fun x98 => uncons r97 fun d99 r100 => dInt .i64 d99 fun x101 => uncons r100 fun d102 r103 => dStr d102 fun x104 => uncons r103 fun d105 r106 => dInt .i64 d105 fun x107 => uncons r106 fun d108 r109 => dSl d108 fun x110 => uncons r109 fun d111 r112 => dSl d111 fun x113 => atEnd r112 (laws_eqWork.f k x73 x76 x79 x82 x85 x88 x91 x95 x98 x101 x104 x107 x110 x113 (fun y114 => bif (!y114) then (K false) else (L0 (IntKind.wrap .i64 (v0_2 + 1))))))) else (K true)
noncomputable def laws_eqWorkS.g {β : Type} (k : Nat) (a0 : List (List D)) (a1 : List (List D)) (K : Bool → Option β) : Option β :=
  bif (((a0.length : Int) : Int) != (a1.length : Int)) then (K false) else (iter (laws_eqWorkS.l0 k a0 a1 K) k (0))
noncomputable def laws_eqWorkS.t (k : Nat) (a0 : List (List D)) (a1 : List (List D)) : Option (Bool) := laws_eqWorkS.g k a0 a1 (fun z0 => some z0)
noncomputable def laws_eqWorkS.f {β : Type} (k : Nat) (a0 : List (List D)) (a1 : List (List D)) (K : Bool → Option β) : Option β :=
  match laws_eqWorkS.t k a0 a1 with
  | some z0 => K z0
  | none => none
noncomputable def laws_eqWorkS.as (a0 : List (List D)) (a1 : List (List D)) : List A := [.d (.sl a0), .d (.sl a1)]
noncomputable def laws_eqWorkS.kt {β : Type} (a0 : List (List D)) (a1 : List (List D)) (K0 : List (List C) → List Out → Option β) : Bool → Option β := fun z0 => K0 [[.d (.bool z0)]] []
noncomputable def laws_eqWorkS.e (k : Nat) : Entry := { modes := [(.imm, 0), (.imm, 0)], rts := [4], al := false, run := fun {β} l K => match l with | [.d (.sl a0), .d (.sl a1)] => laws_eqWorkS.f k a0 a1 (laws_eqWorkS.kt a0 a1 K) | _ => none }
noncomputable def laws_eqWorkS.E (k : Nat) : Env := fun g => bif g == 104 then some (laws_eqWork.e k) else none
noncomputable def laws_eqWorkS.h : Hints := ⟨fun n => bif n == 4 then ⟨[(0, .asis), (1, .asis), (5, .asis)], []⟩ else ⟨[], []⟩, fun _ => none, false, []⟩
noncomputable def laws_eqWorkS.s0 (v0_0 : List (List D)) (v0_1 : List (List D)) (v : Int) : St :=
  match v with
  | v0_2 => ⟨[.d false (.sl v0_0), .d false (.sl v0_1), .any, .any, .any, .d true (.int .i64 v0_2), .any, .any, .any, .any, .any, .any, .any, .any, .any, .any, .any, .any, .any, .any, .any, .any, .any, .any, .any, .any, .any], []⟩
noncomputable def laws_eqWorkS.b0 {β : Type} (k : Nat) : St → (Ex → St → Option β) → Option β := fun s K => den Try.prog (laws_eqWorkS.E k) laws_eqWorkS.h.H laws_eqWorkS.h.J k (codeAt [1, 1, 0, 1, 0, 0] (codeOf Try.f43)) s K
noncomputable def laws_eqWorkS.c0 {β : Type} (k : Nat) (a0 : List (List D)) (a1 : List (List D)) (K0 : List (List C) → List Out → Option β) : Ex → St → Option β := contAt Try.prog (laws_eqWorkS.E k) laws_eqWorkS.h k [1, 1, 0, 1, 0] (codeOf Try.f43) (finDen Try.prog Try.f43 laws_eqWorkS.h (laws_eqWorkS.as a0 a1) K0)
theorem laws_eqWorkS.l0_eq {β : Type} (k : Nat) (a0 : List (List D)) (a1 : List (List D)) (K0 : List (List C) → List Out → Option β) (v0_0 : List (List D)) (v0_1 : List (List D)) : ∀ (kk : Nat) (v : Int), loopDen (laws_eqWorkS.b0 k) (laws_eqWorkS.h.H 4) kk (laws_eqWorkS.s0 v0_0 v0_1 v) (laws_eqWorkS.c0 k a0 a1 K0) = iter (laws_eqWorkS.l0 k v0_0 v0_1 (laws_eqWorkS.kt a0 a1 K0)) kk v :=
  loop_eq (laws_eqWorkS.s0 v0_0 v0_1) _ (fun L0 v => by kernel_rfl)
noncomputable def laws_eqWorkS.m {β : Type} (k : Nat) (a0 : List (List D)) (a1 : List (List D)) (K0 : List (List C) → List Out → Option β) (F : ((List (List D)) → (List (List D)) → Int → Option β)) : Option β :=
  bif (((a0.length : Int) : Int) != (a1.length : Int)) then ((laws_eqWorkS.kt a0 a1 K0) false) else ((F) a0 a1 (0))
theorem laws_eqWorkS.f_eq {β : Type} (k : Nat) (a0 : List (List D)) (a1 : List (List D)) (K0 : List (List C) → List Out → Option β) : funDen Try.prog (laws_eqWorkS.E k) laws_eqWorkS.h k Try.f43 (laws_eqWorkS.as a0 a1) K0 = laws_eqWorkS.g k a0 a1 (laws_eqWorkS.kt a0 a1 K0) := Eq.trans (b := (laws_eqWorkS.m k a0 a1 K0) (fun (v0_0 : List (List D)) (v0_1 : List (List D)) (v : Int) => loopDen (laws_eqWorkS.b0 k) (laws_eqWorkS.h.H 4) k (laws_eqWorkS.s0 v0_0 v0_1 v) (laws_eqWorkS.c0 k a0 a1 K0))) (by kernel_rfl) (Eq.trans (congrArg (laws_eqWorkS.m k a0 a1 K0) (funext fun v0_0 => funext fun v0_1 => funext fun v => laws_eqWorkS.l0_eq k a0 a1 K0 v0_0 v0_1 k v)) (by kernel_rfl))
noncomputable def laws_eqWorkS.dec (rs : List (List C)) (os : List Out) : Option (Bool) := uncons rs fun c1 r2 => uncons c1 fun x3 l4 => cD x3 fun d5 => dBool d5 fun w0 => atEnd l4 <| atEnd r2 <| atEnd os (some w0)
theorem laws_eqWorkS.kt_dec (a0 : List (List D)) (a1 : List (List D)) : laws_eqWorkS.kt a0 a1 laws_eqWorkS.dec = (fun z0 => some z0) := by kernel_rfl
theorem laws_eqWorkS.inj (a0 : List (List D)) (a1 : List (List D)) {rs : List (List C)} {os : List Out} {z0 : Bool} (h : laws_eqWorkS.dec rs os = some z0) (ho : OutShape (laws_eqWorkS.as a0 a1) os) : rs = [[.d (.bool z0)]] ∧ os = [] := by
  unfold laws_eqWorkS.dec at h
  obtain ⟨c1, r2, rfl, h1⟩ := uncons_some h
  obtain ⟨x3, l4, rfl, h2⟩ := uncons_some h1
  obtain ⟨d5, rfl, h3⟩ := cD_some h2
  obtain ⟨w0, rfl, h4⟩ := dBool_some h3
  obtain ⟨rfl, h5⟩ := atEnd_some h4
  obtain ⟨rfl, h6⟩ := atEnd_some h5
  obtain ⟨rfl, h7⟩ := atEnd_some h6
  obtain rfl := Option.some.inj h7
  exact ⟨rfl, rfl⟩
theorem laws_eqWorkS.ok (k : Nat) : EntryOK Try.prog 43 (laws_eqWorkS.e k) := by
  refine entry_of mix tyok (fn := Try.f43) (c := codeOf Try.f43) Try.func43 (by kernel_rfl) (h := laws_eqWorkS.h) (k := k) (E := laws_eqWorkS.E k) (env_cons (laws_eqWork.ok k) env_nil) (by kernel_rfl) (by kernel_rfl) rfl (enter_of Try.func43 (by kernel_rfl)) ?_
  intro β l K r hr
  simp only [laws_eqWorkS.e] at hr
  split at hr
  case h_2 => cases hr
  unfold laws_eqWorkS.f at hr
  split at hr
  case h_2 => cases hr
  rename_i hz
  exact ⟨_, _, hr, _, laws_eqWorkS.dec, _, (laws_eqWorkS.f_eq k _ _ laws_eqWorkS.dec).trans (by rw [laws_eqWorkS.kt_dec]; exact hz), fun rs os h ho => laws_eqWorkS.inj _ _ h ho⟩
/-! ### loop.example/g00119/laws.eqRun: function 151 -/
noncomputable def laws_eqRun.g {β : Type} (k : Nat) (a0_0 : Int) (a0_1 : Int) (a1_0 : Int) (a1_1 : Int) (K : Bool → Option β) : Option β :=
  bif ((a0_0 : Int) != a1_0) then (K false) else (bif ((a0_1 : Int) != a1_1) then (K false) else (K true))
noncomputable def laws_eqRun.t (k : Nat) (a0_0 : Int) (a0_1 : Int) (a1_0 : Int) (a1_1 : Int) : Option (Bool) := laws_eqRun.g k a0_0 a0_1 a1_0 a1_1 (fun z0 => some z0)
noncomputable def laws_eqRun.f {β : Type} (k : Nat) (a0_0 : Int) (a0_1 : Int) (a1_0 : Int) (a1_1 : Int) (K : Bool → Option β) : Option β :=
  match laws_eqRun.t k a0_0 a0_1 a1_0 a1_1 with
  | some z0 => K z0
  | none => none
noncomputable def laws_eqRun.as (a0_0 : Int) (a0_1 : Int) (a1_0 : Int) (a1_1 : Int) : List A := [.agg [.int .i64 a0_0, .int .i64 a0_1], .agg [.int .i64 a1_0, .int .i64 a1_1]]
noncomputable def laws_eqRun.kt {β : Type} (a0_0 : Int) (a0_1 : Int) (a1_0 : Int) (a1_1 : Int) (K0 : List (List C) → List Out → Option β) : Bool → Option β := fun z0 => K0 [[.d (.bool z0)]] []
noncomputable def laws_eqRun.e (k : Nat) : Entry := { modes := [(.imm, 0), (.imm, 0)], rts := [4], al := false, run := fun {β} l K => match l with | [.agg [.int .i64 a0_0, .int .i64 a0_1], .agg [.int .i64 a1_0, .int .i64 a1_1]] => laws_eqRun.f k a0_0 a0_1 a1_0 a1_1 (laws_eqRun.kt a0_0 a0_1 a1_0 a1_1 K) | _ => none }
noncomputable def laws_eqRun.E (k : Nat) : Env := fun g => none
noncomputable def laws_eqRun.h : Hints := ⟨fun n => ⟨[], []⟩, fun _ => none, false, []⟩
theorem laws_eqRun.f_eq {β : Type} (k : Nat) (a0_0 : Int) (a0_1 : Int) (a1_0 : Int) (a1_1 : Int) (K0 : List (List C) → List Out → Option β) : funDen Try.prog (laws_eqRun.E k) laws_eqRun.h k Try.f151 (laws_eqRun.as a0_0 a0_1 a1_0 a1_1) K0 = laws_eqRun.g k a0_0 a0_1 a1_0 a1_1 (laws_eqRun.kt a0_0 a0_1 a1_0 a1_1 K0) := by kernel_rfl
noncomputable def laws_eqRun.dec (rs : List (List C)) (os : List Out) : Option (Bool) := uncons rs fun c1 r2 => uncons c1 fun x3 l4 => cD x3 fun d5 => dBool d5 fun w0 => atEnd l4 <| atEnd r2 <| atEnd os (some w0)
theorem laws_eqRun.kt_dec (a0_0 : Int) (a0_1 : Int) (a1_0 : Int) (a1_1 : Int) : laws_eqRun.kt a0_0 a0_1 a1_0 a1_1 laws_eqRun.dec = (fun z0 => some z0) := by kernel_rfl
theorem laws_eqRun.inj (a0_0 : Int) (a0_1 : Int) (a1_0 : Int) (a1_1 : Int) {rs : List (List C)} {os : List Out} {z0 : Bool} (h : laws_eqRun.dec rs os = some z0) (ho : OutShape (laws_eqRun.as a0_0 a0_1 a1_0 a1_1) os) : rs = [[.d (.bool z0)]] ∧ os = [] := by
  unfold laws_eqRun.dec at h
  obtain ⟨c1, r2, rfl, h1⟩ := uncons_some h
  obtain ⟨x3, l4, rfl, h2⟩ := uncons_some h1
  obtain ⟨d5, rfl, h3⟩ := cD_some h2
  obtain ⟨w0, rfl, h4⟩ := dBool_some h3
  obtain ⟨rfl, h5⟩ := atEnd_some h4
  obtain ⟨rfl, h6⟩ := atEnd_some h5
  obtain ⟨rfl, h7⟩ := atEnd_some h6
  obtain rfl := Option.some.inj h7
  exact ⟨rfl, rfl⟩
theorem laws_eqRun.ok (k : Nat) : EntryOK Try.prog 151 (laws_eqRun.e k) := by
  refine entry_of mix tyok (fn := Try.f151) (c := codeOf Try.f151) Try.func151 (by kernel_rfl) (h := laws_eqRun.h) (k := k) (E := laws_eqRun.E k) env_nil (by kernel_rfl) (by kernel_rfl) rfl (enter_of Try.func151 (by kernel_rfl)) ?_
  intro β l K r hr
  simp only [laws_eqRun.e] at hr
  split at hr
  case h_2 => cases hr
  unfold laws_eqRun.f at hr
  split at hr
  case h_2 => cases hr
  rename_i hz
  exact ⟨_, _, hr, _, laws_eqRun.dec, _, (laws_eqRun.f_eq k _ _ _ _ laws_eqRun.dec).trans (by rw [laws_eqRun.kt_dec]; exact hz), fun rs os h ho => laws_eqRun.inj _ _ _ _ h ho⟩
end Go.Proofs.Ytnlhhhkeigjnoaa
