/- Printed: the functions that FnExactIsleNew reaches, read by the evaluator, each with its contract. -/
import Derived.Test.YtnlhhhkeigjnoaaTMark
import Derived.Test.YtnlhhhkeigjnoaaProg
import Derived.KernelRfl
set_option linter.unusedVariables false
set_option linter.unusedSimpArgs false
namespace Go.Proofs.Ytnlhhhkeigjnoaa
open Go Go.T Go.Proofs
theorem mix : Try.prog.follows .mixedOrders = true := by kernel_rfl
theorem tyok : TyOk Try.prog := tyOk_of (by kernel_rfl)
/-! ### loop.example/g00119/spec.l1In: function 69 -/
noncomputable def spec_l1In.g {β : Type} (k : Nat) (a0 : Int) (a1 : Int) (a2 : Int) (K : Bool → Option β) : Option β :=
  bif (decide ((a0 : Int) ≥ a1)) then (K (decide ((a0 : Int) ≤ a2))) else (K false)
noncomputable def spec_l1In.t (k : Nat) (a0 : Int) (a1 : Int) (a2 : Int) : Option (Bool) := spec_l1In.g k a0 a1 a2 (fun z0 => some z0)
noncomputable def spec_l1In.f {β : Type} (k : Nat) (a0 : Int) (a1 : Int) (a2 : Int) (K : Bool → Option β) : Option β :=
  match spec_l1In.t k a0 a1 a2 with
  | some z0 => K z0
  | none => none
noncomputable def spec_l1In.as (a0 : Int) (a1 : Int) (a2 : Int) : List A := [.d (.int .i64 a0), .d (.int .i64 a1), .d (.int .i64 a2)]
noncomputable def spec_l1In.kt {β : Type} (a0 : Int) (a1 : Int) (a2 : Int) (K0 : List (List C) → List Out → Option β) : Bool → Option β := fun z0 => K0 [[.d (.bool z0)]] []
noncomputable def spec_l1In.e (k : Nat) : Entry := { modes := [(.imm, 0), (.imm, 0), (.imm, 0)], rts := [4], al := false, run := fun {β} l K => match l with | [.d (.int .i64 a0), .d (.int .i64 a1), .d (.int .i64 a2)] => spec_l1In.f k a0 a1 a2 (spec_l1In.kt a0 a1 a2 K) | _ => none }
noncomputable def spec_l1In.E (k : Nat) : Env := fun g => none
noncomputable def spec_l1In.h : Hints := ⟨fun n => ⟨[], []⟩, fun _ => none, false, []⟩
theorem spec_l1In.f_eq {β : Type} (k : Nat) (a0 : Int) (a1 : Int) (a2 : Int) (K0 : List (List C) → List Out → Option β) : funDen Try.prog (spec_l1In.E k) spec_l1In.h k Try.f69 (spec_l1In.as a0 a1 a2) K0 = spec_l1In.g k a0 a1 a2 (spec_l1In.kt a0 a1 a2 K0) := by kernel_rfl
noncomputable def spec_l1In.dec (rs : List (List C)) (os : List Out) : Option (Bool) := uncons rs fun c1 r2 => uncons c1 fun x3 l4 => cD x3 fun d5 => dBool d5 fun w0 => atEnd l4 <| atEnd r2 <| atEnd os (some w0)
theorem spec_l1In.kt_dec (a0 : Int) (a1 : Int) (a2 : Int) : spec_l1In.kt a0 a1 a2 spec_l1In.dec = (fun z0 => some z0) := by kernel_rfl
theorem spec_l1In.inj (a0 : Int) (a1 : Int) (a2 : Int) {rs : List (List C)} {os : List Out} {z0 : Bool} (h : spec_l1In.dec rs os = some z0) (ho : OutShape (spec_l1In.as a0 a1 a2) os) : rs = [[.d (.bool z0)]] ∧ os = [] := by
  unfold spec_l1In.dec at h
  obtain ⟨c1, r2, rfl, h1⟩ := uncons_some h
  obtain ⟨x3, l4, rfl, h2⟩ := uncons_some h1
  obtain ⟨d5, rfl, h3⟩ := cD_some h2
  obtain ⟨w0, rfl, h4⟩ := dBool_some h3
  obtain ⟨rfl, h5⟩ := atEnd_some h4
  obtain ⟨rfl, h6⟩ := atEnd_some h5
  obtain ⟨rfl, h7⟩ := atEnd_some h6
  obtain rfl := Option.some.inj h7
  exact ⟨rfl, rfl⟩
theorem spec_l1In.ok (k : Nat) : EntryOK Try.prog 69 (spec_l1In.e k) := by
  refine entry_of mix tyok (fn := Try.f69) (c := codeOf Try.f69) Try.func69 (by kernel_rfl) (h := spec_l1In.h) (k := k) (E := spec_l1In.E k) env_nil (by kernel_rfl) (by kernel_rfl) rfl (enter_of Try.func69 (by kernel_rfl)) ?_
  intro β l K r hr
  simp only [spec_l1In.e] at hr
  split at hr
  case h_2 => cases hr
  unfold spec_l1In.f at hr
  split at hr
  case h_2 => cases hr
  rename_i hz
  exact ⟨_, _, hr, _, spec_l1In.dec, _, (spec_l1In.f_eq k _ _ _ spec_l1In.dec).trans (by rw [spec_l1In.kt_dec]; exact hz), fun rs os h ho => spec_l1In.inj _ _ _ h ho⟩
/-! ### loop.example/g00119/spec.NameOk: function 66 -/
noncomputable def spec_NameOk.l0 {β : Type} (k : Nat) (v0_0 : ByteArray) (K : Bool → Option β) (L0 : Int → Option β) (v : Int) : Option β :=
  match v with
  | v0_1 => bif (decide ((v0_1 : Int) < (v0_0.size : Int))) then (atStr v0_0 v0_1 fun b9 => spec_l1In.f k (IntKind.wrap .i64 b9) 97 122 (fun y10 => bif (!y10) then (atStr v0_0 v0_1 fun b11 => spec_l1In.f k (IntKind.wrap .i64 b11) 48 57 (fun y12 => bif (!y12) then (atStr v0_0 v0_1 fun b13 => bif ((b13 : Int) != 45) then (K false) else (L0 (IntKind.wrap .i64 (v0_1 + 1)))) else (L0 (IntKind.wrap .i64 (v0_1 + 1))))) else (L0 (IntKind.wrap .i64 (v0_1 + 1))))) else (spec_l1In.f k (v0_0.size : Int) 1 20 (fun y14 => bif y14 then (atStr v0_0 0 fun b15 => bif ((b15 : Int) != 45) then (atStr v0_0 (IntKind.wrap .i64 ((v0_0.size : Int) - 1)) fun b16 => K ((b16 : Int) != 45)) else (K false)) else (K false)))
noncomputable def spec_NameOk.g {β : Type} (k : Nat) (a0 : ByteArray) (K : Bool → Option β) : Option β :=
  iter (spec_NameOk.l0 k a0 K) k (0)
noncomputable def spec_NameOk.t (k : Nat) (a0 : ByteArray) : Option (Bool) := spec_NameOk.g k a0 (fun z0 => some z0)
noncomputable def spec_NameOk.f {β : Type} (k : Nat) (a0 : ByteArray) (K : Bool → Option β) : Option β :=
  match spec_NameOk.t k a0 with
  | some z0 => K z0
  | none => none
noncomputable def spec_NameOk.as (a0 : ByteArray) : List A := [.d (.str a0)]
noncomputable def spec_NameOk.kt {β : Type} (a0 : ByteArray) (K0 : List (List C) → List Out → Option β) : Bool → Option β := fun z0 => K0 [[.d (.bool z0)]] []
noncomputable def spec_NameOk.e (k : Nat) : Entry := { modes := [(.imm, 0)], rts := [4], al := false, run := fun {β} l K => match l with | [.d (.str a0)] => spec_NameOk.f k a0 (spec_NameOk.kt a0 K) | _ => none }
noncomputable def spec_NameOk.E (k : Nat) : Env := fun g => bif g == 69 then some (spec_l1In.e k) else none
noncomputable def spec_NameOk.h : Hints := ⟨fun n => bif n == 2 then ⟨[(0, .asis), (3, .asis)], []⟩ else ⟨[], []⟩, fun _ => none, false, []⟩
noncomputable def spec_NameOk.s0 (v0_0 : ByteArray) (v : Int) : St :=
  match v with
  | v0_1 => ⟨[.d false (.str v0_0), .any, .any, .d true (.int .i64 v0_1), .any, .any, .any, .any, .any, .any, .any, .any, .any, .any, .any, .any, .any, .any, .any, .any, .any, .any, .any, .any, .any, .any, .any, .any, .any, .any, .any, .any, .any, .any, .any, .any, .any, .any, .any, .any, .any, .any, .any, .any, .any, .any], []⟩
noncomputable def spec_NameOk.b0 {β : Type} (k : Nat) : St → (Ex → St → Option β) → Option β := fun s K => den Try.prog (spec_NameOk.E k) spec_NameOk.h.H spec_NameOk.h.J k (codeAt [1, 0, 1, 0, 0] (codeOf Try.f66)) s K
noncomputable def spec_NameOk.c0 {β : Type} (k : Nat) (a0 : ByteArray) (K0 : List (List C) → List Out → Option β) : Ex → St → Option β := contAt Try.prog (spec_NameOk.E k) spec_NameOk.h k [1, 0, 1, 0] (codeOf Try.f66) (finDen Try.prog Try.f66 spec_NameOk.h (spec_NameOk.as a0) K0)
theorem spec_NameOk.l0_eq {β : Type} (k : Nat) (a0 : ByteArray) (K0 : List (List C) → List Out → Option β) (v0_0 : ByteArray) : ∀ (kk : Nat) (v : Int), loopDen (spec_NameOk.b0 k) (spec_NameOk.h.H 2) kk (spec_NameOk.s0 v0_0 v) (spec_NameOk.c0 k a0 K0) = iter (spec_NameOk.l0 k v0_0 (spec_NameOk.kt a0 K0)) kk v :=
  loop_eq (spec_NameOk.s0 v0_0) _ (fun L0 v => by kernel_rfl)
noncomputable def spec_NameOk.m {β : Type} (k : Nat) (a0 : ByteArray) (K0 : List (List C) → List Out → Option β) (F : (ByteArray → Int → Option β)) : Option β :=
  (F) a0 (0)
theorem spec_NameOk.f_eq {β : Type} (k : Nat) (a0 : ByteArray) (K0 : List (List C) → List Out → Option β) : funDen Try.prog (spec_NameOk.E k) spec_NameOk.h k Try.f66 (spec_NameOk.as a0) K0 = spec_NameOk.g k a0 (spec_NameOk.kt a0 K0) := Eq.trans (b := (spec_NameOk.m k a0 K0) (fun (v0_0 : ByteArray) (v : Int) => loopDen (spec_NameOk.b0 k) (spec_NameOk.h.H 2) k (spec_NameOk.s0 v0_0 v) (spec_NameOk.c0 k a0 K0))) (by kernel_rfl) (Eq.trans (congrArg (spec_NameOk.m k a0 K0) (funext fun v0_0 => funext fun v => spec_NameOk.l0_eq k a0 K0 v0_0 k v)) (by kernel_rfl))
noncomputable def spec_NameOk.dec (rs : List (List C)) (os : List Out) : Option (Bool) := uncons rs fun c1 r2 => uncons c1 fun x3 l4 => cD x3 fun d5 => dBool d5 fun w0 => atEnd l4 <| atEnd r2 <| atEnd os (some w0)
theorem spec_NameOk.kt_dec (a0 : ByteArray) : spec_NameOk.kt a0 spec_NameOk.dec = (fun z0 => some z0) := by kernel_rfl
theorem spec_NameOk.inj (a0 : ByteArray) {rs : List (List C)} {os : List Out} {z0 : Bool} (h : spec_NameOk.dec rs os = some z0) (ho : OutShape (spec_NameOk.as a0) os) : rs = [[.d (.bool z0)]] ∧ os = [] := by
  unfold spec_NameOk.dec at h
  obtain ⟨c1, r2, rfl, h1⟩ := uncons_some h
  obtain ⟨x3, l4, rfl, h2⟩ := uncons_some h1
  obtain ⟨d5, rfl, h3⟩ := cD_some h2
  obtain ⟨w0, rfl, h4⟩ := dBool_some h3
  obtain ⟨rfl, h5⟩ := atEnd_some h4
  obtain ⟨rfl, h6⟩ := atEnd_some h5
  obtain ⟨rfl, h7⟩ := atEnd_some h6
  obtain rfl := Option.some.inj h7
  exact ⟨rfl, rfl⟩
theorem spec_NameOk.ok (k : Nat) : EntryOK Try.prog 66 (spec_NameOk.e k) := by
  refine entry_of mix tyok (fn := Try.f66) (c := codeOf Try.f66) Try.func66 (by kernel_rfl) (h := spec_NameOk.h) (k := k) (E := spec_NameOk.E k) (env_cons (spec_l1In.ok k) env_nil) (by kernel_rfl) (by kernel_rfl) rfl (enter_of Try.func66 (by kernel_rfl)) ?_
  intro β l K r hr
  simp only [spec_NameOk.e] at hr
  split at hr
  case h_2 => cases hr
  unfold spec_NameOk.f at hr
  split at hr
  case h_2 => cases hr
  rename_i hz
  exact ⟨_, _, hr, _, spec_NameOk.dec, _, (spec_NameOk.f_eq k _ spec_NameOk.dec).trans (by rw [spec_NameOk.kt_dec]; exact hz), fun rs os h ho => spec_NameOk.inj _ h ho⟩
/-! ### loop.example/g00119/spec.IsleNew: function 32 -/
noncomputable def spec_IsleNew.g {β : Type} (k : Nat) (a0 : ByteArray) (a1 : Int) (K : ByteArray → Int → Int → (List (List C)) → (List (List C)) → Bool → Option β) : Option β :=
  spec_NameOk.f k a0 (fun y17 => bif (!y17) then (K (⟨#[]⟩ : ByteArray) 0 0 ([] : List (List C)) ([] : List (List C)) false) else (spec_l1In.f k a1 0 10000 (fun y18 => bif (!y18) then (K (⟨#[]⟩ : ByteArray) 0 0 ([] : List (List C)) ([] : List (List C)) false) else (K a0 a1 0 ([] : List (List C)) ([] : List (List C)) true))))
noncomputable def spec_IsleNew.t (k : Nat) (a0 : ByteArray) (a1 : Int) : Option (ByteArray × Int × Int × (List (List C)) × (List (List C)) × Bool) := spec_IsleNew.g k a0 a1 (fun z0 z1 z2 z3 z4 z5 => some (z0, z1, z2, z3, z4, z5))
noncomputable def spec_IsleNew.f {β : Type} (k : Nat) (a0 : ByteArray) (a1 : Int) (K : ByteArray → Int → Int → (List (List C)) → (List (List C)) → Bool → Option β) : Option β :=
  match spec_IsleNew.t k a0 a1 with
  | some (z0, z1, z2, z3, z4, z5) => K z0 z1 z2 z3 z4 z5
  | none => none
noncomputable def spec_IsleNew.as (a0 : ByteArray) (a1 : Int) : List A := [.d (.str a0), .d (.int .i64 a1)]
noncomputable def spec_IsleNew.kt {β : Type} (a0 : ByteArray) (a1 : Int) (K0 : List (List C) → List Out → Option β) : ByteArray → Int → Int → (List (List C)) → (List (List C)) → Bool → Option β := fun z0 z1 z2 z3 z4 z5 => K0 [[.d (.str z0), .d (.int .i64 z1), .d (.int .i64 z2), .own z3, .own z4], [.d (.bool z5)]] []
noncomputable def spec_IsleNew.e (k : Nat) : Entry := { modes := [(.imm, 0), (.imm, 0)], rts := [62, 4], al := false, run := fun {β} l K => match l with | [.d (.str a0), .d (.int .i64 a1)] => spec_IsleNew.f k a0 a1 (spec_IsleNew.kt a0 a1 K) | _ => none }
noncomputable def spec_IsleNew.E (k : Nat) : Env := fun g => bif g == 66 then some (spec_NameOk.e k) else bif g == 69 then some (spec_l1In.e k) else none
noncomputable def spec_IsleNew.h : Hints := ⟨fun n => ⟨[], []⟩, fun _ => none, false, []⟩
theorem spec_IsleNew.f_eq {β : Type} (k : Nat) (a0 : ByteArray) (a1 : Int) (K0 : List (List C) → List Out → Option β) : funDen Try.prog (spec_IsleNew.E k) spec_IsleNew.h k Try.f32 (spec_IsleNew.as a0 a1) K0 = spec_IsleNew.g k a0 a1 (spec_IsleNew.kt a0 a1 K0) := by kernel_rfl
noncomputable def spec_IsleNew.dec (rs : List (List C)) (os : List Out) : Option (ByteArray × Int × Int × (List (List C)) × (List (List C)) × Bool) := uncons rs fun c1 r2 => uncons c1 fun x3 l4 => cD x3 fun d5 => dStr d5 fun w0 => uncons l4 fun x6 l7 => cD x6 fun d8 => dInt .i64 d8 fun w1 => uncons l7 fun x9 l10 => cD x9 fun d11 => dInt .i64 d11 fun w2 => uncons l10 fun x12 l13 => cOwn x12 fun w3 => uncons l13 fun x14 l15 => cOwn x14 fun w4 => atEnd l15 <| uncons r2 fun c16 r17 => uncons c16 fun x18 l19 => cD x18 fun d20 => dBool d20 fun w5 => atEnd l19 <| atEnd r17 <| atEnd os (some (w0, w1, w2, w3, w4, w5))
theorem spec_IsleNew.kt_dec (a0 : ByteArray) (a1 : Int) : spec_IsleNew.kt a0 a1 spec_IsleNew.dec = (fun z0 z1 z2 z3 z4 z5 => some (z0, z1, z2, z3, z4, z5)) := by kernel_rfl
theorem spec_IsleNew.inj (a0 : ByteArray) (a1 : Int) {rs : List (List C)} {os : List Out} {z0 : ByteArray} {z1 : Int} {z2 : Int} {z3 : List (List C)} {z4 : List (List C)} {z5 : Bool} (h : spec_IsleNew.dec rs os = some (z0, z1, z2, z3, z4, z5)) (ho : OutShape (spec_IsleNew.as a0 a1) os) : rs = [[.d (.str z0), .d (.int .i64 z1), .d (.int .i64 z2), .own z3, .own z4], [.d (.bool z5)]] ∧ os = [] := by
  unfold spec_IsleNew.dec at h
  obtain ⟨c1, r2, rfl, h1⟩ := uncons_some h
  obtain ⟨x3, l4, rfl, h2⟩ := uncons_some h1
  obtain ⟨d5, rfl, h3⟩ := cD_some h2
  obtain ⟨w0, rfl, h4⟩ := dStr_some h3
  obtain ⟨x6, l7, rfl, h5⟩ := uncons_some h4
  obtain ⟨d8, rfl, h6⟩ := cD_some h5
  obtain ⟨w1, rfl, h7⟩ := dInt_some h6
  obtain ⟨x9, l10, rfl, h8⟩ := uncons_some h7
  obtain ⟨d11, rfl, h9⟩ := cD_some h8
  obtain ⟨w2, rfl, h10⟩ := dInt_some h9
  obtain ⟨x12, l13, rfl, h11⟩ := uncons_some h10
  obtain ⟨w3, rfl, h12⟩ := cOwn_some h11
  obtain ⟨x14, l15, rfl, h13⟩ := uncons_some h12
  obtain ⟨w4, rfl, h14⟩ := cOwn_some h13
  obtain ⟨rfl, h15⟩ := atEnd_some h14
  obtain ⟨c16, r17, rfl, h16⟩ := uncons_some h15
  obtain ⟨x18, l19, rfl, h17⟩ := uncons_some h16
  obtain ⟨d20, rfl, h18⟩ := cD_some h17
  obtain ⟨w5, rfl, h19⟩ := dBool_some h18
  obtain ⟨rfl, h20⟩ := atEnd_some h19
  obtain ⟨rfl, h21⟩ := atEnd_some h20
  obtain ⟨rfl, h22⟩ := atEnd_some h21
  simp only [Option.some.injEq, Prod.mk.injEq] at h22
  obtain ⟨rfl, rfl, rfl, rfl, rfl, rfl⟩ := h22
  exact ⟨rfl, rfl⟩
theorem spec_IsleNew.ok (k : Nat) : EntryOK Try.prog 32 (spec_IsleNew.e k) := by
  refine entry_of mix tyok (fn := Try.f32) (c := codeOf Try.f32) Try.func32 (by kernel_rfl) (h := spec_IsleNew.h) (k := k) (E := spec_IsleNew.E k) (env_cons (spec_NameOk.ok k) (env_cons (spec_l1In.ok k) env_nil)) (by kernel_rfl) (by kernel_rfl) rfl (enter_of Try.func32 (by kernel_rfl)) ?_
  intro β l K r hr
  simp only [spec_IsleNew.e] at hr
  split at hr
  case h_2 => cases hr
  unfold spec_IsleNew.f at hr
  split at hr
  case h_2 => cases hr
  rename_i hz
  exact ⟨_, _, hr, _, spec_IsleNew.dec, _, (spec_IsleNew.f_eq k _ _ spec_IsleNew.dec).trans (by rw [spec_IsleNew.kt_dec]; exact hz), fun rs os h ho => spec_IsleNew.inj _ _ h ho⟩
/-! ### loop.example/g00119/impl.within: function 87 -/
noncomputable def impl_within.g {β : Type} (k : Nat) (a0 : Int) (a1 : Int) (a2 : Int) (K : Bool → Option β) : Option β :=
  bif (decide ((a0 : Int) ≥ a1)) then (K (decide ((a0 : Int) ≤ a2))) else (K false)
noncomputable def impl_within.t (k : Nat) (a0 : Int) (a1 : Int) (a2 : Int) : Option (Bool) := impl_within.g k a0 a1 a2 (fun z0 => some z0)
noncomputable def impl_within.f {β : Type} (k : Nat) (a0 : Int) (a1 : Int) (a2 : Int) (K : Bool → Option β) : Option β :=
  match impl_within.t k a0 a1 a2 with
  | some z0 => K z0
  | none => none
noncomputable def impl_within.as (a0 : Int) (a1 : Int) (a2 : Int) : List A := [.d (.int .i64 a0), .d (.int .i64 a1), .d (.int .i64 a2)]
noncomputable def impl_within.kt {β : Type} (a0 : Int) (a1 : Int) (a2 : Int) (K0 : List (List C) → List Out → Option β) : Bool → Option β := fun z0 => K0 [[.d (.bool z0)]] []
noncomputable def impl_within.e (k : Nat) : Entry := { modes := [(.imm, 0), (.imm, 0), (.imm, 0)], rts := [4], al := false, run := fun {β} l K => match l with | [.d (.int .i64 a0), .d (.int .i64 a1), .d (.int .i64 a2)] => impl_within.f k a0 a1 a2 (impl_within.kt a0 a1 a2 K) | _ => none }
noncomputable def impl_within.E (k : Nat) : Env := fun g => none
noncomputable def impl_within.h : Hints := ⟨fun n => ⟨[], []⟩, fun _ => none, false, []⟩
theorem impl_within.f_eq {β : Type} (k : Nat) (a0 : Int) (a1 : Int) (a2 : Int) (K0 : List (List C) → List Out → Option β) : funDen Try.prog (impl_within.E k) impl_within.h k Try.f87 (impl_within.as a0 a1 a2) K0 = impl_within.g k a0 a1 a2 (impl_within.kt a0 a1 a2 K0) := by kernel_rfl
noncomputable def impl_within.dec (rs : List (List C)) (os : List Out) : Option (Bool) := uncons rs fun c1 r2 => uncons c1 fun x3 l4 => cD x3 fun d5 => dBool d5 fun w0 => atEnd l4 <| atEnd r2 <| atEnd os (some w0)
theorem impl_within.kt_dec (a0 : Int) (a1 : Int) (a2 : Int) : impl_within.kt a0 a1 a2 impl_within.dec = (fun z0 => some z0) := by kernel_rfl
theorem impl_within.inj (a0 : Int) (a1 : Int) (a2 : Int) {rs : List (List C)} {os : List Out} {z0 : Bool} (h : impl_within.dec rs os = some z0) (ho : OutShape (impl_within.as a0 a1 a2) os) : rs = [[.d (.bool z0)]] ∧ os = [] := by
  unfold impl_within.dec at h
  obtain ⟨c1, r2, rfl, h1⟩ := uncons_some h
  obtain ⟨x3, l4, rfl, h2⟩ := uncons_some h1
  obtain ⟨d5, rfl, h3⟩ := cD_some h2
  obtain ⟨w0, rfl, h4⟩ := dBool_some h3
  obtain ⟨rfl, h5⟩ := atEnd_some h4
  obtain ⟨rfl, h6⟩ := atEnd_some h5
  obtain ⟨rfl, h7⟩ := atEnd_some h6
  obtain rfl := Option.some.inj h7
  exact ⟨rfl, rfl⟩
theorem impl_within.ok (k : Nat) : EntryOK Try.prog 87 (impl_within.e k) := by
  refine entry_of mix tyok (fn := Try.f87) (c := codeOf Try.f87) Try.func87 (by kernel_rfl) (h := impl_within.h) (k := k) (E := impl_within.E k) env_nil (by kernel_rfl) (by kernel_rfl) rfl (enter_of Try.func87 (by kernel_rfl)) ?_
  intro β l K r hr
  simp only [impl_within.e] at hr
  split at hr
  case h_2 => cases hr
  unfold impl_within.f at hr
  split at hr
  case h_2 => cases hr
  rename_i hz
  exact ⟨_, _, hr, _, impl_within.dec, _, (impl_within.f_eq k _ _ _ impl_within.dec).trans (by rw [impl_within.kt_dec]; exact hz), fun rs os h ho => impl_within.inj _ _ _ h ho⟩
/-! ### loop.example/g00119/impl.NameOk: function 72 -/
noncomputable def impl_NameOk.l0 {β : Type} (k : Nat) (v0_0 : ByteArray) (v0_1 : Int) (K : Bool → Option β) (L0 : Int → Option β) (v : Int) : Option β :=
  match v with
  | v0_2 => bif (decide ((v0_2 : Int) < v0_1)) then (atStr v0_0 v0_2 fun b5 => bif (decide ((b5 : Int) < 97)) then (bif (decide ((b5 : Int) < 48)) then (bif ((b5 : Int) != 45) then (K false) else (L0 (IntKind.wrap .i64 (v0_2 + 1)))) else (bif (decide ((b5 : Int) > 57)) then (bif ((b5 : Int) != 45) then (K false) else (L0 (IntKind.wrap .i64 (v0_2 + 1)))) else (L0 (IntKind.wrap .i64 (v0_2 + 1))))) else (bif (decide ((b5 : Int) > 122)) then (bif (decide ((b5 : Int) < 48)) then (bif ((b5 : Int) != 45) then (K false) else (L0 (IntKind.wrap .i64 (v0_2 + 1)))) else (bif (decide ((b5 : Int) > 57)) then (bif ((b5 : Int) != 45) then (K false) else (L0 (IntKind.wrap .i64 (v0_2 + 1)))) else (L0 (IntKind.wrap .i64 (v0_2 + 1))))) else (L0 (IntKind.wrap .i64 (v0_2 + 1))))) else (impl_within.f k (v0_0.size : Int) 1 20 (fun y6 => bif y6 then (atStr v0_0 0 fun b7 => bif ((b7 : Int) != 45) then (atStr v0_0 (IntKind.wrap .i64 ((v0_0.size : Int) - 1)) fun b8 => K ((b8 : Int) != 45)) else (K false)) else (K false)))
noncomputable def impl_NameOk.g {β : Type} (k : Nat) (a0 : ByteArray) (K : Bool → Option β) : Option β :=
  iter (impl_NameOk.l0 k a0 (a0.size : Int) K) k (0)
noncomputable def impl_NameOk.t (k : Nat) (a0 : ByteArray) : Option (Bool) := impl_NameOk.g k a0 (fun z0 => some z0)
noncomputable def impl_NameOk.f {β : Type} (k : Nat) (a0 : ByteArray) (K : Bool → Option β) : Option β :=
  match impl_NameOk.t k a0 with
  | some z0 => K z0
  | none => none
noncomputable def impl_NameOk.as (a0 : ByteArray) : List A := [.d (.str a0)]
noncomputable def impl_NameOk.kt {β : Type} (a0 : ByteArray) (K0 : List (List C) → List Out → Option β) : Bool → Option β := fun z0 => K0 [[.d (.bool z0)]] []
noncomputable def impl_NameOk.e (k : Nat) : Entry := { modes := [(.imm, 0)], rts := [4], al := false, run := fun {β} l K => match l with | [.d (.str a0)] => impl_NameOk.f k a0 (impl_NameOk.kt a0 K) | _ => none }
noncomputable def impl_NameOk.E (k : Nat) : Env := fun g => bif g == 87 then some (impl_within.e k) else none
noncomputable def impl_NameOk.h : Hints := ⟨fun n => bif n == 2 then ⟨[(0, .asis), (6, .asis), (7, .asis)], []⟩ else ⟨[], []⟩, fun _ => none, false, []⟩
noncomputable def impl_NameOk.s0 (v0_0 : ByteArray) (v0_1 : Int) (v : Int) : St :=
  match v with
  | v0_2 => ⟨[.d false (.str v0_0), .any, .any, .any, .any, .any, .d true (.int .i64 v0_1), .d true (.int .i64 v0_2), .any, .any, .any, .any, .any, .any, .any, .any, .any, .any, .any, .any, .any, .any, .any, .any, .any, .any, .any, .any, .any, .any, .any, .any, .any, .any, .any, .any, .any, .any, .any, .any, .any, .any, .any, .any, .any, .any, .any, .any], []⟩
noncomputable def impl_NameOk.b0 {β : Type} (k : Nat) : St → (Ex → St → Option β) → Option β := fun s K => den Try.prog (impl_NameOk.E k) impl_NameOk.h.H impl_NameOk.h.J k (codeAt [1, 0, 1, 0, 0] (codeOf Try.f72)) s K
noncomputable def impl_NameOk.c0 {β : Type} (k : Nat) (a0 : ByteArray) (K0 : List (List C) → List Out → Option β) : Ex → St → Option β := contAt Try.prog (impl_NameOk.E k) impl_NameOk.h k [1, 0, 1, 0] (codeOf Try.f72) (finDen Try.prog Try.f72 impl_NameOk.h (impl_NameOk.as a0) K0)
theorem impl_NameOk.l0_eq {β : Type} (k : Nat) (a0 : ByteArray) (K0 : List (List C) → List Out → Option β) (v0_0 : ByteArray) (v0_1 : Int) : ∀ (kk : Nat) (v : Int), loopDen (impl_NameOk.b0 k) (impl_NameOk.h.H 2) kk (impl_NameOk.s0 v0_0 v0_1 v) (impl_NameOk.c0 k a0 K0) = iter (impl_NameOk.l0 k v0_0 v0_1 (impl_NameOk.kt a0 K0)) kk v :=
  loop_eq (impl_NameOk.s0 v0_0 v0_1) _ (fun L0 v => by kernel_rfl)
noncomputable def impl_NameOk.m {β : Type} (k : Nat) (a0 : ByteArray) (K0 : List (List C) → List Out → Option β) (F : (ByteArray → Int → Int → Option β)) : Option β :=
  (F) a0 (a0.size : Int) (0)
theorem impl_NameOk.f_eq {β : Type} (k : Nat) (a0 : ByteArray) (K0 : List (List C) → List Out → Option β) : funDen Try.prog (impl_NameOk.E k) impl_NameOk.h k Try.f72 (impl_NameOk.as a0) K0 = impl_NameOk.g k a0 (impl_NameOk.kt a0 K0) := Eq.trans (b := (impl_NameOk.m k a0 K0) (fun (v0_0 : ByteArray) (v0_1 : Int) (v : Int) => loopDen (impl_NameOk.b0 k) (impl_NameOk.h.H 2) k (impl_NameOk.s0 v0_0 v0_1 v) (impl_NameOk.c0 k a0 K0))) (by kernel_rfl) (Eq.trans (congrArg (impl_NameOk.m k a0 K0) (funext fun v0_0 => funext fun v0_1 => funext fun v => impl_NameOk.l0_eq k a0 K0 v0_0 v0_1 k v)) (by kernel_rfl))
noncomputable def impl_NameOk.dec (rs : List (List C)) (os : List Out) : Option (Bool) := uncons rs fun c1 r2 => uncons c1 fun x3 l4 => cD x3 fun d5 => dBool d5 fun w0 => atEnd l4 <| atEnd r2 <| atEnd os (some w0)
theorem impl_NameOk.kt_dec (a0 : ByteArray) : impl_NameOk.kt a0 impl_NameOk.dec = (fun z0 => some z0) := by kernel_rfl
theorem impl_NameOk.inj (a0 : ByteArray) {rs : List (List C)} {os : List Out} {z0 : Bool} (h : impl_NameOk.dec rs os = some z0) (ho : OutShape (impl_NameOk.as a0) os) : rs = [[.d (.bool z0)]] ∧ os = [] := by
  unfold impl_NameOk.dec at h
  obtain ⟨c1, r2, rfl, h1⟩ := uncons_some h
  obtain ⟨x3, l4, rfl, h2⟩ := uncons_some h1
  obtain ⟨d5, rfl, h3⟩ := cD_some h2
  obtain ⟨w0, rfl, h4⟩ := dBool_some h3
  obtain ⟨rfl, h5⟩ := atEnd_some h4
  obtain ⟨rfl, h6⟩ := atEnd_some h5
  obtain ⟨rfl, h7⟩ := atEnd_some h6
  obtain rfl := Option.some.inj h7
  exact ⟨rfl, rfl⟩
theorem impl_NameOk.ok (k : Nat) : EntryOK Try.prog 72 (impl_NameOk.e k) := by
  refine entry_of mix tyok (fn := Try.f72) (c := codeOf Try.f72) Try.func72 (by kernel_rfl) (h := impl_NameOk.h) (k := k) (E := impl_NameOk.E k) (env_cons (impl_within.ok k) env_nil) (by kernel_rfl) (by kernel_rfl) rfl (enter_of Try.func72 (by kernel_rfl)) ?_
  intro β l K r hr
  simp only [impl_NameOk.e] at hr
  split at hr
  case h_2 => cases hr
  unfold impl_NameOk.f at hr
  split at hr
  case h_2 => cases hr
  rename_i hz
  exact ⟨_, _, hr, _, impl_NameOk.dec, _, (impl_NameOk.f_eq k _ impl_NameOk.dec).trans (by rw [impl_NameOk.kt_dec]; exact hz), fun rs os h ho => impl_NameOk.inj _ h ho⟩
/-! ### loop.example/g00119/impl.isCopies: function 75 -/
noncomputable def impl_isCopies.g {β : Type} (k : Nat) (a0 : Int) (K : Bool → Option β) : Option β :=
  impl_within.f k a0 0 10000 (fun y1 => K y1)
noncomputable def impl_isCopies.t (k : Nat) (a0 : Int) : Option (Bool) := impl_isCopies.g k a0 (fun z0 => some z0)
noncomputable def impl_isCopies.f {β : Type} (k : Nat) (a0 : Int) (K : Bool → Option β) : Option β :=
  match impl_isCopies.t k a0 with
  | some z0 => K z0
  | none => none
noncomputable def impl_isCopies.as (a0 : Int) : List A := [.d (.int .i64 a0)]
noncomputable def impl_isCopies.kt {β : Type} (a0 : Int) (K0 : List (List C) → List Out → Option β) : Bool → Option β := fun z0 => K0 [[.d (.bool z0)]] []
noncomputable def impl_isCopies.e (k : Nat) : Entry := { modes := [(.imm, 0)], rts := [4], al := false, run := fun {β} l K => match l with | [.d (.int .i64 a0)] => impl_isCopies.f k a0 (impl_isCopies.kt a0 K) | _ => none }
noncomputable def impl_isCopies.E (k : Nat) : Env := fun g => bif g == 87 then some (impl_within.e k) else none
noncomputable def impl_isCopies.h : Hints := ⟨fun n => ⟨[], []⟩, fun _ => none, false, []⟩
theorem impl_isCopies.f_eq {β : Type} (k : Nat) (a0 : Int) (K0 : List (List C) → List Out → Option β) : funDen Try.prog (impl_isCopies.E k) impl_isCopies.h k Try.f75 (impl_isCopies.as a0) K0 = impl_isCopies.g k a0 (impl_isCopies.kt a0 K0) := by kernel_rfl
noncomputable def impl_isCopies.dec (rs : List (List C)) (os : List Out) : Option (Bool) := uncons rs fun c1 r2 => uncons c1 fun x3 l4 => cD x3 fun d5 => dBool d5 fun w0 => atEnd l4 <| atEnd r2 <| atEnd os (some w0)
theorem impl_isCopies.kt_dec (a0 : Int) : impl_isCopies.kt a0 impl_isCopies.dec = (fun z0 => some z0) := by kernel_rfl
theorem impl_isCopies.inj (a0 : Int) {rs : List (List C)} {os : List Out} {z0 : Bool} (h : impl_isCopies.dec rs os = some z0) (ho : OutShape (impl_isCopies.as a0) os) : rs = [[.d (.bool z0)]] ∧ os = [] := by
  unfold impl_isCopies.dec at h
  obtain ⟨c1, r2, rfl, h1⟩ := uncons_some h
  obtain ⟨x3, l4, rfl, h2⟩ := uncons_some h1
  obtain ⟨d5, rfl, h3⟩ := cD_some h2
  obtain ⟨w0, rfl, h4⟩ := dBool_some h3
  obtain ⟨rfl, h5⟩ := atEnd_some h4
  obtain ⟨rfl, h6⟩ := atEnd_some h5
  obtain ⟨rfl, h7⟩ := atEnd_some h6
  obtain rfl := Option.some.inj h7
  exact ⟨rfl, rfl⟩
theorem impl_isCopies.ok (k : Nat) : EntryOK Try.prog 75 (impl_isCopies.e k) := by
  refine entry_of mix tyok (fn := Try.f75) (c := codeOf Try.f75) Try.func75 (by kernel_rfl) (h := impl_isCopies.h) (k := k) (E := impl_isCopies.E k) (env_cons (impl_within.ok k) env_nil) (by kernel_rfl) (by kernel_rfl) rfl (enter_of Try.func75 (by kernel_rfl)) ?_
  intro β l K r hr
  simp only [impl_isCopies.e] at hr
  split at hr
  case h_2 => cases hr
  unfold impl_isCopies.f at hr
  split at hr
  case h_2 => cases hr
  rename_i hz
  exact ⟨_, _, hr, _, impl_isCopies.dec, _, (impl_isCopies.f_eq k _ impl_isCopies.dec).trans (by rw [impl_isCopies.kt_dec]; exact hz), fun rs os h ho => impl_isCopies.inj _ h ho⟩
/-! ### loop.example/g00119/impl.IsleNew: function 33 -/
noncomputable def impl_IsleNew.g {β : Type} (k : Nat) (a0 : ByteArray) (a1 : Int) (K : ByteArray → Int → Int → (List (List C)) → (List (List C)) → Bool → Option β) : Option β :=
  impl_NameOk.f k a0 (fun y9 => bif (!y9) then (K (⟨#[]⟩ : ByteArray) 0 0 ([] : List (List C)) ([] : List (List C)) false) else (impl_isCopies.f k a1 (fun y10 => bif (!y10) then (K (⟨#[]⟩ : ByteArray) 0 0 ([] : List (List C)) ([] : List (List C)) false) else (K a0 a1 0 ([] : List (List C)) ([] : List (List C)) true))))
noncomputable def impl_IsleNew.t (k : Nat) (a0 : ByteArray) (a1 : Int) : Option (ByteArray × Int × Int × (List (List C)) × (List (List C)) × Bool) := impl_IsleNew.g k a0 a1 (fun z0 z1 z2 z3 z4 z5 => some (z0, z1, z2, z3, z4, z5))
noncomputable def impl_IsleNew.f {β : Type} (k : Nat) (a0 : ByteArray) (a1 : Int) (K : ByteArray → Int → Int → (List (List C)) → (List (List C)) → Bool → Option β) : Option β :=
  match impl_IsleNew.t k a0 a1 with
  | some (z0, z1, z2, z3, z4, z5) => K z0 z1 z2 z3 z4 z5
  | none => none
noncomputable def impl_IsleNew.as (a0 : ByteArray) (a1 : Int) : List A := [.d (.str a0), .d (.int .i64 a1)]
noncomputable def impl_IsleNew.kt {β : Type} (a0 : ByteArray) (a1 : Int) (K0 : List (List C) → List Out → Option β) : ByteArray → Int → Int → (List (List C)) → (List (List C)) → Bool → Option β := fun z0 z1 z2 z3 z4 z5 => K0 [[.d (.str z0), .d (.int .i64 z1), .d (.int .i64 z2), .own z3, .own z4], [.d (.bool z5)]] []
noncomputable def impl_IsleNew.e (k : Nat) : Entry := { modes := [(.imm, 0), (.imm, 0)], rts := [62, 4], al := false, run := fun {β} l K => match l with | [.d (.str a0), .d (.int .i64 a1)] => impl_IsleNew.f k a0 a1 (impl_IsleNew.kt a0 a1 K) | _ => none }
noncomputable def impl_IsleNew.E (k : Nat) : Env := fun g => bif g == 72 then some (impl_NameOk.e k) else bif g == 75 then some (impl_isCopies.e k) else none
noncomputable def impl_IsleNew.h : Hints := ⟨fun n => ⟨[], []⟩, fun _ => none, false, []⟩
theorem impl_IsleNew.f_eq {β : Type} (k : Nat) (a0 : ByteArray) (a1 : Int) (K0 : List (List C) → List Out → Option β) : funDen Try.prog (impl_IsleNew.E k) impl_IsleNew.h k Try.f33 (impl_IsleNew.as a0 a1) K0 = impl_IsleNew.g k a0 a1 (impl_IsleNew.kt a0 a1 K0) := by kernel_rfl
noncomputable def impl_IsleNew.dec (rs : List (List C)) (os : List Out) : Option (ByteArray × Int × Int × (List (List C)) × (List (List C)) × Bool) := uncons rs fun c1 r2 => uncons c1 fun x3 l4 => cD x3 fun d5 => dStr d5 fun w0 => uncons l4 fun x6 l7 => cD x6 fun d8 => dInt .i64 d8 fun w1 => uncons l7 fun x9 l10 => cD x9 fun d11 => dInt .i64 d11 fun w2 => uncons l10 fun x12 l13 => cOwn x12 fun w3 => uncons l13 fun x14 l15 => cOwn x14 fun w4 => atEnd l15 <| uncons r2 fun c16 r17 => uncons c16 fun x18 l19 => cD x18 fun d20 => dBool d20 fun w5 => atEnd l19 <| atEnd r17 <| atEnd os (some (w0, w1, w2, w3, w4, w5))
theorem impl_IsleNew.kt_dec (a0 : ByteArray) (a1 : Int) : impl_IsleNew.kt a0 a1 impl_IsleNew.dec = (fun z0 z1 z2 z3 z4 z5 => some (z0, z1, z2, z3, z4, z5)) := by kernel_rfl
theorem impl_IsleNew.inj (a0 : ByteArray) (a1 : Int) {rs : List (List C)} {os : List Out} {z0 : ByteArray} {z1 : Int} {z2 : Int} {z3 : List (List C)} {z4 : List (List C)} {z5 : Bool} (h : impl_IsleNew.dec rs os = some (z0, z1, z2, z3, z4, z5)) (ho : OutShape (impl_IsleNew.as a0 a1) os) : rs = [[.d (.str z0), .d (.int .i64 z1), .d (.int .i64 z2), .own z3, .own z4], [.d (.bool z5)]] ∧ os = [] := by
  unfold impl_IsleNew.dec at h
  obtain ⟨c1, r2, rfl, h1⟩ := uncons_some h
  obtain ⟨x3, l4, rfl, h2⟩ := uncons_some h1
  obtain ⟨d5, rfl, h3⟩ := cD_some h2
  obtain ⟨w0, rfl, h4⟩ := dStr_some h3
  obtain ⟨x6, l7, rfl, h5⟩ := uncons_some h4
  obtain ⟨d8, rfl, h6⟩ := cD_some h5
  obtain ⟨w1, rfl, h7⟩ := dInt_some h6
  obtain ⟨x9, l10, rfl, h8⟩ := uncons_some h7
  obtain ⟨d11, rfl, h9⟩ := cD_some h8
  obtain ⟨w2, rfl, h10⟩ := dInt_some h9
  obtain ⟨x12, l13, rfl, h11⟩ := uncons_some h10
  obtain ⟨w3, rfl, h12⟩ := cOwn_some h11
  obtain ⟨x14, l15, rfl, h13⟩ := uncons_some h12
  obtain ⟨w4, rfl, h14⟩ := cOwn_some h13
  obtain ⟨rfl, h15⟩ := atEnd_some h14
  obtain ⟨c16, r17, rfl, h16⟩ := uncons_some h15
  obtain ⟨x18, l19, rfl, h17⟩ := uncons_some h16
  obtain ⟨d20, rfl, h18⟩ := cD_some h17
  obtain ⟨w5, rfl, h19⟩ := dBool_some h18
  obtain ⟨rfl, h20⟩ := atEnd_some h19
  obtain ⟨rfl, h21⟩ := atEnd_some h20
  obtain ⟨rfl, h22⟩ := atEnd_some h21
  simp only [Option.some.injEq, Prod.mk.injEq] at h22
  obtain ⟨rfl, rfl, rfl, rfl, rfl, rfl⟩ := h22
  exact ⟨rfl, rfl⟩
theorem impl_IsleNew.ok (k : Nat) : EntryOK Try.prog 33 (impl_IsleNew.e k) := by
  refine entry_of mix tyok (fn := Try.f33) (c := codeOf Try.f33) Try.func33 (by kernel_rfl) (h := impl_IsleNew.h) (k := k) (E := impl_IsleNew.E k) (env_cons (impl_NameOk.ok k) (env_cons (impl_isCopies.ok k) env_nil)) (by kernel_rfl) (by kernel_rfl) rfl (enter_of Try.func33 (by kernel_rfl)) ?_
  intro β l K r hr
  simp only [impl_IsleNew.e] at hr
  split at hr
  case h_2 => cases hr
  unfold impl_IsleNew.f at hr
  split at hr
  case h_2 => cases hr
  rename_i hz
  exact ⟨_, _, hr, _, impl_IsleNew.dec, _, (impl_IsleNew.f_eq k _ _ impl_IsleNew.dec).trans (by rw [impl_IsleNew.kt_dec]; exact hz), fun rs os h ho => impl_IsleNew.inj _ _ h ho⟩
/-! ### loop.example/g00119/laws.eqStringS: function 77 -/
noncomputable def laws_eqStringS.l0 {β : Type} (k : Nat) (v0_0 : List (List D)) (v0_1 : List (List D)) (K : Bool → Option β) (L0 : Int → Option β) (v : Int) : Option β :=
  match v with
  | v0_2 => bif (decide ((v0_2 : Int) < (v0_0.length : Int))) then (atRow v0_0 v0_2 fun c9 => uncons c9 fun d10 r11 => dStr d10 fun x12 => atEnd r11 (atRow v0_1 v0_2 fun c13 => uncons c13 fun d14 r15 => dStr d14 fun x16 => atEnd r15 (bif (!(strEq x12 x16)) then (K false) else (L0 (IntKind.wrap .i64 (v0_2 + 1)))))) else (K true)
noncomputable def laws_eqStringS.g {β : Type} (k : Nat) (a0 : List (List D)) (a1 : List (List D)) (K : Bool → Option β) : Option β :=
  bif (((a0.length : Int) : Int) != (a1.length : Int)) then (K false) else (iter (laws_eqStringS.l0 k a0 a1 K) k (0))
noncomputable def laws_eqStringS.t (k : Nat) (a0 : List (List D)) (a1 : List (List D)) : Option (Bool) := laws_eqStringS.g k a0 a1 (fun z0 => some z0)
noncomputable def laws_eqStringS.f {β : Type} (k : Nat) (a0 : List (List D)) (a1 : List (List D)) (K : Bool → Option β) : Option β :=
  match laws_eqStringS.t k a0 a1 with
  | some z0 => K z0
  | none => none
noncomputable def laws_eqStringS.as (a0 : List (List D)) (a1 : List (List D)) : List A := [.d (.sl a0), .d (.sl a1)]
noncomputable def laws_eqStringS.kt {β : Type} (a0 : List (List D)) (a1 : List (List D)) (K0 : List (List C) → List Out → Option β) : Bool → Option β := fun z0 => K0 [[.d (.bool z0)]] []
noncomputable def laws_eqStringS.e (k : Nat) : Entry := { modes := [(.imm, 0), (.imm, 0)], rts := [4], al := false, run := fun {β} l K => match l with | [.d (.sl a0), .d (.sl a1)] => laws_eqStringS.f k a0 a1 (laws_eqStringS.kt a0 a1 K) | _ => none }
noncomputable def laws_eqStringS.E (k : Nat) : Env := fun g => none
noncomputable def laws_eqStringS.h : Hints := ⟨fun n => bif n == 4 then ⟨[(0, .asis), (1, .asis), (5, .asis)], []⟩ else ⟨[], []⟩, fun _ => none, false, []⟩
noncomputable def laws_eqStringS.s0 (v0_0 : List (List D)) (v0_1 : List (List D)) (v : Int) : St :=
  match v with
  | v0_2 => ⟨[.d false (.sl v0_0), .d false (.sl v0_1), .any, .any, .any, .d true (.int .i64 v0_2), .any, .any, .any, .any, .any, .any, .any, .any, .any, .any, .any, .any, .any, .any, .any, .any, .any, .any, .any, .any], []⟩
noncomputable def laws_eqStringS.b0 {β : Type} (k : Nat) : St → (Ex → St → Option β) → Option β := fun s K => den Try.prog (laws_eqStringS.E k) laws_eqStringS.h.H laws_eqStringS.h.J k (codeAt [1, 1, 0, 1, 0, 0] (codeOf Try.f77)) s K
noncomputable def laws_eqStringS.c0 {β : Type} (k : Nat) (a0 : List (List D)) (a1 : List (List D)) (K0 : List (List C) → List Out → Option β) : Ex → St → Option β := contAt Try.prog (laws_eqStringS.E k) laws_eqStringS.h k [1, 1, 0, 1, 0] (codeOf Try.f77) (finDen Try.prog Try.f77 laws_eqStringS.h (laws_eqStringS.as a0 a1) K0)
theorem laws_eqStringS.l0_eq {β : Type} (k : Nat) (a0 : List (List D)) (a1 : List (List D)) (K0 : List (List C) → List Out → Option β) (v0_0 : List (List D)) (v0_1 : List (List D)) : ∀ (kk : Nat) (v : Int), loopDen (laws_eqStringS.b0 k) (laws_eqStringS.h.H 4) kk (laws_eqStringS.s0 v0_0 v0_1 v) (laws_eqStringS.c0 k a0 a1 K0) = iter (laws_eqStringS.l0 k v0_0 v0_1 (laws_eqStringS.kt a0 a1 K0)) kk v :=
  loop_eq (laws_eqStringS.s0 v0_0 v0_1) _ (fun L0 v => by kernel_rfl)
noncomputable def laws_eqStringS.m {β : Type} (k : Nat) (a0 : List (List D)) (a1 : List (List D)) (K0 : List (List C) → List Out → Option β) (F : ((List (List D)) → (List (List D)) → Int → Option β)) : Option β :=
  bif (((a0.length : Int) : Int) != (a1.length : Int)) then ((laws_eqStringS.kt a0 a1 K0) false) else ((F) a0 a1 (0))
theorem laws_eqStringS.f_eq {β : Type} (k : Nat) (a0 : List (List D)) (a1 : List (List D)) (K0 : List (List C) → List Out → Option β) : funDen Try.prog (laws_eqStringS.E k) laws_eqStringS.h k Try.f77 (laws_eqStringS.as a0 a1) K0 = laws_eqStringS.g k a0 a1 (laws_eqStringS.kt a0 a1 K0) := Eq.trans (b := (laws_eqStringS.m k a0 a1 K0) (fun (v0_0 : List (List D)) (v0_1 : List (List D)) (v : Int) => loopDen (laws_eqStringS.b0 k) (laws_eqStringS.h.H 4) k (laws_eqStringS.s0 v0_0 v0_1 v) (laws_eqStringS.c0 k a0 a1 K0))) (by kernel_rfl) (Eq.trans (congrArg (laws_eqStringS.m k a0 a1 K0) (funext fun v0_0 => funext fun v0_1 => funext fun v => laws_eqStringS.l0_eq k a0 a1 K0 v0_0 v0_1 k v)) (by kernel_rfl))
noncomputable def laws_eqStringS.dec (rs : List (List C)) (os : List Out) : Option (Bool) := uncons rs fun c1 r2 => uncons c1 fun x3 l4 => cD x3 fun d5 => dBool d5 fun w0 => atEnd l4 <| atEnd r2 <| atEnd os (some w0)
theorem laws_eqStringS.kt_dec (a0 : List (List D)) (a1 : List (List D)) : laws_eqStringS.kt a0 a1 laws_eqStringS.dec = (fun z0 => some z0) := by kernel_rfl
theorem laws_eqStringS.inj (a0 : List (List D)) (a1 : List (List D)) {rs : List (List C)} {os : List Out} {z0 : Bool} (h : laws_eqStringS.dec rs os = some z0) (ho : OutShape (laws_eqStringS.as a0 a1) os) : rs = [[.d (.bool z0)]] ∧ os = [] := by
  unfold laws_eqStringS.dec at h
  obtain ⟨c1, r2, rfl, h1⟩ := uncons_some h
  obtain ⟨x3, l4, rfl, h2⟩ := uncons_some h1
  obtain ⟨d5, rfl, h3⟩ := cD_some h2
  obtain ⟨w0, rfl, h4⟩ := dBool_some h3
  obtain ⟨rfl, h5⟩ := atEnd_some h4
  obtain ⟨rfl, h6⟩ := atEnd_some h5
  obtain ⟨rfl, h7⟩ := atEnd_some h6
  obtain rfl := Option.some.inj h7
  exact ⟨rfl, rfl⟩
theorem laws_eqStringS.ok (k : Nat) : EntryOK Try.prog 77 (laws_eqStringS.e k) := by
  refine entry_of mix tyok (fn := Try.f77) (c := codeOf Try.f77) Try.func77 (by kernel_rfl) (h := laws_eqStringS.h) (k := k) (E := laws_eqStringS.E k) env_nil (by kernel_rfl) (by kernel_rfl) rfl (enter_of Try.func77 (by kernel_rfl)) ?_
  intro β l K r hr
  simp only [laws_eqStringS.e] at hr
  split at hr
  case h_2 => cases hr
  unfold laws_eqStringS.f at hr
  split at hr
  case h_2 => cases hr
  rename_i hz
  exact ⟨_, _, hr, _, laws_eqStringS.dec, _, (laws_eqStringS.f_eq k _ _ laws_eqStringS.dec).trans (by rw [laws_eqStringS.kt_dec]; exact hz), fun rs os h ho => laws_eqStringS.inj _ _ h ho⟩
/-! ### loop.example/g00119/laws.eqValueS: function 194 -/
noncomputable def laws_eqValueS.l0 {β : Type} (k : Nat) (r_laws_eqValueS : (List (List D)) → (List (List D)) → (Bool → Option β) → Option β) (r_laws_eqValue : Int → ByteArray → Int → (List (List D)) → (List (List D)) → Int → ByteArray → Int → (List (List D)) → (List (List D)) → (Bool → Option β) → Option β) (v0_0 : List (List D)) (v0_1 : List (List D)) (K : Bool → Option β) (L0 : Int → Option β) (v : Int) : Option β :=
  match v with
  | v0_2 => bif (decide ((v0_2 : Int) < (v0_0.length : Int))) then (atRow v0_0 v0_2 fun c34 => uncons c34 fun d35 r36 => dInt .i64 d35 fun x37 => uncons r36 fun d38 r39 => dStr d38 fun x40 => uncons r39 fun d41 r42 => dInt .i64 d41 fun x43 => uncons r42 fun d44 r45 => dSl d44 fun x46 => uncons r45 fun d47 r48 => dSl d47 fun x49 => atEnd r48 (atRow v0_1 v0_2 fun c50 => uncons c50 fun d51 r52 => dInt .i64 d51 fun x53 => uncons r52 fun d54 r55 => dStr d54 fun x56 => uncons r55 fun d57 r58 => dInt .i64 d57 fun x59 => uncons r58 fun d60 r61 => dSl d60 fun x62 => uncons r61 fun d63 r64 => dSl d63 fun x65 => atEnd r64 (r_laws_eqValue x37 x40 x43 x46 x49 x53 x56 x59 x62 x65 (fun y66 => bif (!y66) then (K false) else (L0 (IntKind.wrap .i64 (v0_2 + 1))))))) else (K true)
noncomputable def laws_eqValueS.body {β : Type} (k : Nat) (r_laws_eqValueS : (List (List D)) → (List (List D)) → (Bool → Option β) → Option β) (r_laws_eqValue : Int → ByteArray → Int → (List (List D)) → (List (List D)) → Int → ByteArray → Int → (List (List D)) → (List (List D)) → (Bool → Option β) → Option β) (a0 : List (List D)) (a1 : List (List D)) (K : Bool → Option β) : Option β :=
  bif (((a0.length : Int) : Int) != (a1.length : Int)) then (K false) else (iter (laws_eqValueS.l0 k r_laws_eqValueS r_laws_eqValue a0 a1 K) k (0))
/-! ### loop.example/g00119/laws.eqValue: function 163 -/
noncomputable def laws_eqValue.body {β : Type} (k : Nat) (r_laws_eqValueS : (List (List D)) → (List (List D)) → (Bool → Option β) → Option β) (r_laws_eqValue : Int → ByteArray → Int → (List (List D)) → (List (List D)) → Int → ByteArray → Int → (List (List D)) → (List (List D)) → (Bool → Option β) → Option β) (a0_0 : Int) (a0_1 : ByteArray) (a0_2 : Int) (a0_3 : List (List D)) (a0_4 : List (List D)) (a1_0 : Int) (a1_1 : ByteArray) (a1_2 : Int) (a1_3 : List (List D)) (a1_4 : List (List D)) (K : Bool → Option β) : Option β :=
  bif ((a0_0 : Int) != a1_0) then (K false) else (bif (!(strEq a0_1 a1_1)) then (K false) else (bif ((a0_2 : Int) != a1_2) then (K false) else (laws_eqStringS.f k a0_3 a1_3 (fun y17 => bif (!y17) then (K false) else (r_laws_eqValueS a0_4 a1_4 (fun y67 => bif (!y67) then (K false) else (K true)))))))
noncomputable def laws_eqValueS.w {β : Type} (r : (List (List D)) → (List (List D)) → Option (Bool)) (a0 : List (List D)) (a1 : List (List D)) (K : Bool → Option β) : Option β :=
  match r a0 a1 with
  | some z0 => K z0
  | none => none
noncomputable def laws_eqValue.w {β : Type} (r : Int → ByteArray → Int → (List (List D)) → (List (List D)) → Int → ByteArray → Int → (List (List D)) → (List (List D)) → Option (Bool)) (a0_0 : Int) (a0_1 : ByteArray) (a0_2 : Int) (a0_3 : List (List D)) (a0_4 : List (List D)) (a1_0 : Int) (a1_1 : ByteArray) (a1_2 : Int) (a1_3 : List (List D)) (a1_4 : List (List D)) (K : Bool → Option β) : Option β :=
  match r a0_0 a0_1 a0_2 a0_3 a0_4 a1_0 a1_1 a1_2 a1_3 a1_4 with
  | some z0 => K z0
  | none => none
noncomputable def laws_eqValueS.all : Nat → ((List (List D)) → (List (List D)) → Option (Bool)) × (Int → ByteArray → Int → (List (List D)) → (List (List D)) → Int → ByteArray → Int → (List (List D)) → (List (List D)) → Option (Bool))
  | 0 => (fun _ _ => none, fun _ _ _ _ _ _ _ _ _ _ => none)
  | k + 1 => (fun r => (fun a0 a1 => laws_eqValueS.body k (laws_eqValueS.w r.1) (laws_eqValue.w r.2) a0 a1 (fun z0 => some z0), fun a0_0 a0_1 a0_2 a0_3 a0_4 a1_0 a1_1 a1_2 a1_3 a1_4 => laws_eqValue.body k (laws_eqValueS.w r.1) (laws_eqValue.w r.2) a0_0 a0_1 a0_2 a0_3 a0_4 a1_0 a1_1 a1_2 a1_3 a1_4 (fun z0 => some z0))) (laws_eqValueS.all k)
noncomputable def laws_eqValueS.t (k : Nat) (a0 : List (List D)) (a1 : List (List D)) : Option (Bool) := (laws_eqValueS.all k).1 a0 a1
noncomputable def laws_eqValue.t (k : Nat) (a0_0 : Int) (a0_1 : ByteArray) (a0_2 : Int) (a0_3 : List (List D)) (a0_4 : List (List D)) (a1_0 : Int) (a1_1 : ByteArray) (a1_2 : Int) (a1_3 : List (List D)) (a1_4 : List (List D)) : Option (Bool) := (laws_eqValueS.all k).2 a0_0 a0_1 a0_2 a0_3 a0_4 a1_0 a1_1 a1_2 a1_3 a1_4
noncomputable def laws_eqValueS.f {β : Type} (k : Nat) (a0 : List (List D)) (a1 : List (List D)) (K : Bool → Option β) : Option β := laws_eqValueS.w (laws_eqValueS.t k) a0 a1 K
noncomputable def laws_eqValue.f {β : Type} (k : Nat) (a0_0 : Int) (a0_1 : ByteArray) (a0_2 : Int) (a0_3 : List (List D)) (a0_4 : List (List D)) (a1_0 : Int) (a1_1 : ByteArray) (a1_2 : Int) (a1_3 : List (List D)) (a1_4 : List (List D)) (K : Bool → Option β) : Option β := laws_eqValue.w (laws_eqValue.t k) a0_0 a0_1 a0_2 a0_3 a0_4 a1_0 a1_1 a1_2 a1_3 a1_4 K
noncomputable def laws_eqValueS.g {β : Type} (k : Nat) (a0 : List (List D)) (a1 : List (List D)) (K : Bool → Option β) : Option β := laws_eqValueS.body k (laws_eqValueS.f k) (laws_eqValue.f k) a0 a1 K
theorem laws_eqValueS.t_zero (a0 : List (List D)) (a1 : List (List D)) : laws_eqValueS.t 0 a0 a1 = none := rfl
theorem laws_eqValueS.t_succ (k : Nat) (a0 : List (List D)) (a1 : List (List D)) : laws_eqValueS.t (k + 1) a0 a1 = laws_eqValueS.g k a0 a1 (fun z0 => some z0) := rfl
noncomputable def laws_eqValue.g {β : Type} (k : Nat) (a0_0 : Int) (a0_1 : ByteArray) (a0_2 : Int) (a0_3 : List (List D)) (a0_4 : List (List D)) (a1_0 : Int) (a1_1 : ByteArray) (a1_2 : Int) (a1_3 : List (List D)) (a1_4 : List (List D)) (K : Bool → Option β) : Option β := laws_eqValue.body k (laws_eqValueS.f k) (laws_eqValue.f k) a0_0 a0_1 a0_2 a0_3 a0_4 a1_0 a1_1 a1_2 a1_3 a1_4 K
theorem laws_eqValue.t_zero (a0_0 : Int) (a0_1 : ByteArray) (a0_2 : Int) (a0_3 : List (List D)) (a0_4 : List (List D)) (a1_0 : Int) (a1_1 : ByteArray) (a1_2 : Int) (a1_3 : List (List D)) (a1_4 : List (List D)) : laws_eqValue.t 0 a0_0 a0_1 a0_2 a0_3 a0_4 a1_0 a1_1 a1_2 a1_3 a1_4 = none := rfl
theorem laws_eqValue.t_succ (k : Nat) (a0_0 : Int) (a0_1 : ByteArray) (a0_2 : Int) (a0_3 : List (List D)) (a0_4 : List (List D)) (a1_0 : Int) (a1_1 : ByteArray) (a1_2 : Int) (a1_3 : List (List D)) (a1_4 : List (List D)) : laws_eqValue.t (k + 1) a0_0 a0_1 a0_2 a0_3 a0_4 a1_0 a1_1 a1_2 a1_3 a1_4 = laws_eqValue.g k a0_0 a0_1 a0_2 a0_3 a0_4 a1_0 a1_1 a1_2 a1_3 a1_4 (fun z0 => some z0) := rfl
noncomputable def laws_eqValueS.as (a0 : List (List D)) (a1 : List (List D)) : List A := [.d (.sl a0), .d (.sl a1)]
noncomputable def laws_eqValueS.kt {β : Type} (a0 : List (List D)) (a1 : List (List D)) (K0 : List (List C) → List Out → Option β) : Bool → Option β := fun z0 => K0 [[.d (.bool z0)]] []
noncomputable def laws_eqValueS.e (k : Nat) : Entry := { modes := [(.imm, 0), (.imm, 0)], rts := [4], al := false, run := fun {β} l K => match l with | [.d (.sl a0), .d (.sl a1)] => laws_eqValueS.f k a0 a1 (laws_eqValueS.kt a0 a1 K) | _ => none }
noncomputable def laws_eqValue.as (a0_0 : Int) (a0_1 : ByteArray) (a0_2 : Int) (a0_3 : List (List D)) (a0_4 : List (List D)) (a1_0 : Int) (a1_1 : ByteArray) (a1_2 : Int) (a1_3 : List (List D)) (a1_4 : List (List D)) : List A := [.agg [.int .i64 a0_0, .str a0_1, .int .i64 a0_2, .sl a0_3, .sl a0_4], .agg [.int .i64 a1_0, .str a1_1, .int .i64 a1_2, .sl a1_3, .sl a1_4]]
noncomputable def laws_eqValue.kt {β : Type} (a0_0 : Int) (a0_1 : ByteArray) (a0_2 : Int) (a0_3 : List (List D)) (a0_4 : List (List D)) (a1_0 : Int) (a1_1 : ByteArray) (a1_2 : Int) (a1_3 : List (List D)) (a1_4 : List (List D)) (K0 : List (List C) → List Out → Option β) : Bool → Option β := fun z0 => K0 [[.d (.bool z0)]] []
noncomputable def laws_eqValue.e (k : Nat) : Entry := { modes := [(.imm, 0), (.imm, 0)], rts := [4], al := false, run := fun {β} l K => match l with | [.agg [.int .i64 a0_0, .str a0_1, .int .i64 a0_2, .sl a0_3, .sl a0_4], .agg [.int .i64 a1_0, .str a1_1, .int .i64 a1_2, .sl a1_3, .sl a1_4]] => laws_eqValue.f k a0_0 a0_1 a0_2 a0_3 a0_4 a1_0 a1_1 a1_2 a1_3 a1_4 (laws_eqValue.kt a0_0 a0_1 a0_2 a0_3 a0_4 a1_0 a1_1 a1_2 a1_3 a1_4 K) | _ => none }
noncomputable def laws_eqValueS.E (k : Nat) : Env := fun g => bif g == 163 then some (laws_eqValue.e k) else none
noncomputable def laws_eqValueS.h : Hints := ⟨fun n => bif n == 4 then ⟨[(0, .asis), (1, .asis), (5, .asis)], []⟩ else ⟨[], []⟩, fun _ => none, false, []⟩
noncomputable def laws_eqValueS.s0 (v0_0 : List (List D)) (v0_1 : List (List D)) (v : Int) : St :=
  match v with
  | v0_2 => ⟨[.d false (.sl v0_0), .d false (.sl v0_1), .any, .any, .any, .d true (.int .i64 v0_2), .any, .any, .any, .any, .any, .any, .any, .any, .any, .any, .any, .any, .any, .any, .any, .any, .any, .any, .any, .any, .any], []⟩
noncomputable def laws_eqValueS.b0 {β : Type} (k : Nat) : St → (Ex → St → Option β) → Option β := fun s K => den Try.prog (laws_eqValueS.E k) laws_eqValueS.h.H laws_eqValueS.h.J k (codeAt [1, 1, 0, 1, 0, 0] (codeOf Try.f194)) s K
noncomputable def laws_eqValueS.c0 {β : Type} (k : Nat) (a0 : List (List D)) (a1 : List (List D)) (K0 : List (List C) → List Out → Option β) : Ex → St → Option β := contAt Try.prog (laws_eqValueS.E k) laws_eqValueS.h k [1, 1, 0, 1, 0] (codeOf Try.f194) (finDen Try.prog Try.f194 laws_eqValueS.h (laws_eqValueS.as a0 a1) K0)
theorem laws_eqValueS.l0_eq {β : Type} (k : Nat) (a0 : List (List D)) (a1 : List (List D)) (K0 : List (List C) → List Out → Option β) (v0_0 : List (List D)) (v0_1 : List (List D)) : ∀ (kk : Nat) (v : Int), loopDen (laws_eqValueS.b0 k) (laws_eqValueS.h.H 4) kk (laws_eqValueS.s0 v0_0 v0_1 v) (laws_eqValueS.c0 k a0 a1 K0) = iter (laws_eqValueS.l0 k (laws_eqValueS.f k) (laws_eqValue.f k) v0_0 v0_1 (laws_eqValueS.kt a0 a1 K0)) kk v :=
  loop_eq (laws_eqValueS.s0 v0_0 v0_1) _ (fun L0 v => by kernel_rfl)
noncomputable def laws_eqValueS.m {β : Type} (k : Nat) (a0 : List (List D)) (a1 : List (List D)) (K0 : List (List C) → List Out → Option β) (F : ((List (List D)) → (List (List D)) → Int → Option β)) : Option β :=
  bif (((a0.length : Int) : Int) != (a1.length : Int)) then ((laws_eqValueS.kt a0 a1 K0) false) else ((F) a0 a1 (0))
theorem laws_eqValueS.f_eq {β : Type} (k : Nat) (a0 : List (List D)) (a1 : List (List D)) (K0 : List (List C) → List Out → Option β) : funDen Try.prog (laws_eqValueS.E k) laws_eqValueS.h k Try.f194 (laws_eqValueS.as a0 a1) K0 = laws_eqValueS.g k a0 a1 (laws_eqValueS.kt a0 a1 K0) := Eq.trans (b := (laws_eqValueS.m k a0 a1 K0) (fun (v0_0 : List (List D)) (v0_1 : List (List D)) (v : Int) => loopDen (laws_eqValueS.b0 k) (laws_eqValueS.h.H 4) k (laws_eqValueS.s0 v0_0 v0_1 v) (laws_eqValueS.c0 k a0 a1 K0))) (by kernel_rfl) (Eq.trans (congrArg (laws_eqValueS.m k a0 a1 K0) (funext fun v0_0 => funext fun v0_1 => funext fun v => laws_eqValueS.l0_eq k a0 a1 K0 v0_0 v0_1 k v)) (by kernel_rfl))
noncomputable def laws_eqValue.E (k : Nat) : Env := fun g => bif g == 77 then some (laws_eqStringS.e k) else bif g == 194 then some (laws_eqValueS.e k) else none
noncomputable def laws_eqValue.h : Hints := ⟨fun n => ⟨[], []⟩, fun _ => none, false, []⟩
theorem laws_eqValue.f_eq {β : Type} (k : Nat) (a0_0 : Int) (a0_1 : ByteArray) (a0_2 : Int) (a0_3 : List (List D)) (a0_4 : List (List D)) (a1_0 : Int) (a1_1 : ByteArray) (a1_2 : Int) (a1_3 : List (List D)) (a1_4 : List (List D)) (K0 : List (List C) → List Out → Option β) : funDen Try.prog (laws_eqValue.E k) laws_eqValue.h k Try.f163 (laws_eqValue.as a0_0 a0_1 a0_2 a0_3 a0_4 a1_0 a1_1 a1_2 a1_3 a1_4) K0 = laws_eqValue.g k a0_0 a0_1 a0_2 a0_3 a0_4 a1_0 a1_1 a1_2 a1_3 a1_4 (laws_eqValue.kt a0_0 a0_1 a0_2 a0_3 a0_4 a1_0 a1_1 a1_2 a1_3 a1_4 K0) := by kernel_rfl
noncomputable def laws_eqValueS.dec (rs : List (List C)) (os : List Out) : Option (Bool) := uncons rs fun c1 r2 => uncons c1 fun x3 l4 => cD x3 fun d5 => dBool d5 fun w0 => atEnd l4 <| atEnd r2 <| atEnd os (some w0)
theorem laws_eqValueS.kt_dec (a0 : List (List D)) (a1 : List (List D)) : laws_eqValueS.kt a0 a1 laws_eqValueS.dec = (fun z0 => some z0) := by kernel_rfl
theorem laws_eqValueS.inj (a0 : List (List D)) (a1 : List (List D)) {rs : List (List C)} {os : List Out} {z0 : Bool} (h : laws_eqValueS.dec rs os = some z0) (ho : OutShape (laws_eqValueS.as a0 a1) os) : rs = [[.d (.bool z0)]] ∧ os = [] := by
  unfold laws_eqValueS.dec at h
  obtain ⟨c1, r2, rfl, h1⟩ := uncons_some h
  obtain ⟨x3, l4, rfl, h2⟩ := uncons_some h1
  obtain ⟨d5, rfl, h3⟩ := cD_some h2
  obtain ⟨w0, rfl, h4⟩ := dBool_some h3
  obtain ⟨rfl, h5⟩ := atEnd_some h4
  obtain ⟨rfl, h6⟩ := atEnd_some h5
  obtain ⟨rfl, h7⟩ := atEnd_some h6
  obtain rfl := Option.some.inj h7
  exact ⟨rfl, rfl⟩
noncomputable def laws_eqValue.dec (rs : List (List C)) (os : List Out) : Option (Bool) := uncons rs fun c1 r2 => uncons c1 fun x3 l4 => cD x3 fun d5 => dBool d5 fun w0 => atEnd l4 <| atEnd r2 <| atEnd os (some w0)
theorem laws_eqValue.kt_dec (a0_0 : Int) (a0_1 : ByteArray) (a0_2 : Int) (a0_3 : List (List D)) (a0_4 : List (List D)) (a1_0 : Int) (a1_1 : ByteArray) (a1_2 : Int) (a1_3 : List (List D)) (a1_4 : List (List D)) : laws_eqValue.kt a0_0 a0_1 a0_2 a0_3 a0_4 a1_0 a1_1 a1_2 a1_3 a1_4 laws_eqValue.dec = (fun z0 => some z0) := by kernel_rfl
theorem laws_eqValue.inj (a0_0 : Int) (a0_1 : ByteArray) (a0_2 : Int) (a0_3 : List (List D)) (a0_4 : List (List D)) (a1_0 : Int) (a1_1 : ByteArray) (a1_2 : Int) (a1_3 : List (List D)) (a1_4 : List (List D)) {rs : List (List C)} {os : List Out} {z0 : Bool} (h : laws_eqValue.dec rs os = some z0) (ho : OutShape (laws_eqValue.as a0_0 a0_1 a0_2 a0_3 a0_4 a1_0 a1_1 a1_2 a1_3 a1_4) os) : rs = [[.d (.bool z0)]] ∧ os = [] := by
  unfold laws_eqValue.dec at h
  obtain ⟨c1, r2, rfl, h1⟩ := uncons_some h
  obtain ⟨x3, l4, rfl, h2⟩ := uncons_some h1
  obtain ⟨d5, rfl, h3⟩ := cD_some h2
  obtain ⟨w0, rfl, h4⟩ := dBool_some h3
  obtain ⟨rfl, h5⟩ := atEnd_some h4
  obtain ⟨rfl, h6⟩ := atEnd_some h5
  obtain ⟨rfl, h7⟩ := atEnd_some h6
  obtain rfl := Option.some.inj h7
  exact ⟨rfl, rfl⟩
theorem laws_eqValueS.oks (k : Nat) : EntryOK Try.prog 194 (laws_eqValueS.e k) ∧ EntryOK Try.prog 163 (laws_eqValue.e k) := by
  induction k with
  | zero =>
    refine ⟨?_, ?_⟩
    · exact entry_zero (enter_of Try.func194 (by kernel_rfl)) fun β l K r h => by
        simp only [laws_eqValueS.e] at h
        split at h
        · unfold laws_eqValueS.f at h
          unfold laws_eqValueS.w at h
          rw [laws_eqValueS.t_zero] at h
          cases h
        · cases h
    · exact entry_zero (enter_of Try.func163 (by kernel_rfl)) fun β l K r h => by
        simp only [laws_eqValue.e] at h
        split at h
        · unfold laws_eqValue.f at h
          unfold laws_eqValue.w at h
          rw [laws_eqValue.t_zero] at h
          cases h
        · cases h
  | succ k ih =>
    refine ⟨?_, ?_⟩
    · refine entry_of mix tyok (fn := Try.f194) (c := codeOf Try.f194) Try.func194 (by kernel_rfl) (h := laws_eqValueS.h) (k := k) (E := laws_eqValueS.E k) (env_cons ih.2 env_nil) (by kernel_rfl) (by kernel_rfl) rfl (enter_of Try.func194 (by kernel_rfl)) ?_
      intro β l K r hr
      simp only [laws_eqValueS.e] at hr
      split at hr
      case h_2 => cases hr
      unfold laws_eqValueS.f at hr
      unfold laws_eqValueS.w at hr
      split at hr
      case h_2 => cases hr
      rename_i hz
      exact ⟨_, _, hr, _, laws_eqValueS.dec, _, (laws_eqValueS.f_eq k _ _ laws_eqValueS.dec).trans (by rw [laws_eqValueS.kt_dec]; exact hz), fun rs os h ho => laws_eqValueS.inj _ _ h ho⟩
    · refine entry_of mix tyok (fn := Try.f163) (c := codeOf Try.f163) Try.func163 (by kernel_rfl) (h := laws_eqValue.h) (k := k) (E := laws_eqValue.E k) (env_cons (laws_eqStringS.ok k) (env_cons ih.1 env_nil)) (by kernel_rfl) (by kernel_rfl) rfl (enter_of Try.func163 (by kernel_rfl)) ?_
      intro β l K r hr
      simp only [laws_eqValue.e] at hr
      split at hr
      case h_2 => cases hr
      unfold laws_eqValue.f at hr
      unfold laws_eqValue.w at hr
      split at hr
      case h_2 => cases hr
      rename_i hz
      exact ⟨_, _, hr, _, laws_eqValue.dec, _, (laws_eqValue.f_eq k _ _ _ _ _ _ _ _ _ _ laws_eqValue.dec).trans (by rw [laws_eqValue.kt_dec]; exact hz), fun rs os h ho => laws_eqValue.inj _ _ _ _ _ _ _ _ _ _ h ho⟩
theorem laws_eqValueS.ok (k : Nat) : EntryOK Try.prog 194 (laws_eqValueS.e k) := (laws_eqValueS.oks k).1
theorem laws_eqValue.ok (k : Nat) : EntryOK Try.prog 163 (laws_eqValue.e k) := (laws_eqValueS.oks k).2
/-! ### loop.example/g00119/laws.eqWork: function 104 -/
noncomputable def laws_eqWork.g {β : Type} (k : Nat) (a0_0 : Int) (a0_1 : Int) (a0_2 : Int) (a0_3 : ByteArray) (a0_4 : Int) (a0_5 : List (List D)) (a0_6 : List (List D)) (a1_0 : Int) (a1_1 : Int) (a1_2 : Int) (a1_3 : ByteArray) (a1_4 : Int) (a1_5 : List (List D)) (a1_6 : List (List D)) (K : Bool → Option β) : Option β :=
  bif ((a0_0 : Int) != a1_0) then (K false) else (bif ((a0_1 : Int) != a1_1) then (K false) else (laws_eqValue.f k a0_2 a0_3 a0_4 a0_5 a0_6 a1_2 a1_3 a1_4 a1_5 a1_6 (fun y68 => bif (!y68) then (K false) else (K true))))
noncomputable def laws_eqWork.t (k : Nat) (a0_0 : Int) (a0_1 : Int) (a0_2 : Int) (a0_3 : ByteArray) (a0_4 : Int) (a0_5 : List (List D)) (a0_6 : List (List D)) (a1_0 : Int) (a1_1 : Int) (a1_2 : Int) (a1_3 : ByteArray) (a1_4 : Int) (a1_5 : List (List D)) (a1_6 : List (List D)) : Option (Bool) := laws_eqWork.g k a0_0 a0_1 a0_2 a0_3 a0_4 a0_5 a0_6 a1_0 a1_1 a1_2 a1_3 a1_4 a1_5 a1_6 (fun z0 => some z0)
noncomputable def laws_eqWork.f {β : Type} (k : Nat) (a0_0 : Int) (a0_1 : Int) (a0_2 : Int) (a0_3 : ByteArray) (a0_4 : Int) (a0_5 : List (List D)) (a0_6 : List (List D)) (a1_0 : Int) (a1_1 : Int) (a1_2 : Int) (a1_3 : ByteArray) (a1_4 : Int) (a1_5 : List (List D)) (a1_6 : List (List D)) (K : Bool → Option β) : Option β :=
  match laws_eqWork.t k a0_0 a0_1 a0_2 a0_3 a0_4 a0_5 a0_6 a1_0 a1_1 a1_2 a1_3 a1_4 a1_5 a1_6 with
  | some z0 => K z0
  | none => none
noncomputable def laws_eqWork.as (a0_0 : Int) (a0_1 : Int) (a0_2 : Int) (a0_3 : ByteArray) (a0_4 : Int) (a0_5 : List (List D)) (a0_6 : List (List D)) (a1_0 : Int) (a1_1 : Int) (a1_2 : Int) (a1_3 : ByteArray) (a1_4 : Int) (a1_5 : List (List D)) (a1_6 : List (List D)) : List A := [.agg [.int .i64 a0_0, .int .i64 a0_1, .int .i64 a0_2, .str a0_3, .int .i64 a0_4, .sl a0_5, .sl a0_6], .agg [.int .i64 a1_0, .int .i64 a1_1, .int .i64 a1_2, .str a1_3, .int .i64 a1_4, .sl a1_5, .sl a1_6]]
noncomputable def laws_eqWork.kt {β : Type} (a0_0 : Int) (a0_1 : Int) (a0_2 : Int) (a0_3 : ByteArray) (a0_4 : Int) (a0_5 : List (List D)) (a0_6 : List (List D)) (a1_0 : Int) (a1_1 : Int) (a1_2 : Int) (a1_3 : ByteArray) (a1_4 : Int) (a1_5 : List (List D)) (a1_6 : List (List D)) (K0 : List (List C) → List Out → Option β) : Bool → Option β := fun z0 => K0 [[.d (.bool z0)]] []
noncomputable def laws_eqWork.e (k : Nat) : Entry := { modes := [(.imm, 0), (.imm, 0)], rts := [4], al := false, run := fun {β} l K => match l with | [.agg [.int .i64 a0_0, .int .i64 a0_1, .int .i64 a0_2, .str a0_3, .int .i64 a0_4, .sl a0_5, .sl a0_6], .agg [.int .i64 a1_0, .int .i64 a1_1, .int .i64 a1_2, .str a1_3, .int .i64 a1_4, .sl a1_5, .sl a1_6]] => laws_eqWork.f k a0_0 a0_1 a0_2 a0_3 a0_4 a0_5 a0_6 a1_0 a1_1 a1_2 a1_3 a1_4 a1_5 a1_6 (laws_eqWork.kt a0_0 a0_1 a0_2 a0_3 a0_4 a0_5 a0_6 a1_0 a1_1 a1_2 a1_3 a1_4 a1_5 a1_6 K) | _ => none }
noncomputable def laws_eqWork.E (k : Nat) : Env := fun g => bif g == 163 then some (laws_eqValue.e k) else none
noncomputable def laws_eqWork.h : Hints := ⟨fun n => ⟨[], []⟩, fun _ => none, false, []⟩
theorem laws_eqWork.f_eq {β : Type} (k : Nat) (a0_0 : Int) (a0_1 : Int) (a0_2 : Int) (a0_3 : ByteArray) (a0_4 : Int) (a0_5 : List (List D)) (a0_6 : List (List D)) (a1_0 : Int) (a1_1 : Int) (a1_2 : Int) (a1_3 : ByteArray) (a1_4 : Int) (a1_5 : List (List D)) (a1_6 : List (List D)) (K0 : List (List C) → List Out → Option β) : funDen Try.prog (laws_eqWork.E k) laws_eqWork.h k Try.f104 (laws_eqWork.as a0_0 a0_1 a0_2 a0_3 a0_4 a0_5 a0_6 a1_0 a1_1 a1_2 a1_3 a1_4 a1_5 a1_6) K0 = laws_eqWork.g k a0_0 a0_1 a0_2 a0_3 a0_4 a0_5 a0_6 a1_0 a1_1 a1_2 a1_3 a1_4 a1_5 a1_6 (laws_eqWork.kt a0_0 a0_1 a0_2 a0_3 a0_4 a0_5 a0_6 a1_0 a1_1 a1_2 a1_3 a1_4 a1_5 a1_6 K0) := by kernel_rfl
noncomputable def laws_eqWork.dec (rs : List (List C)) (os : List Out) : Option (Bool) := uncons rs fun c1 r2 => uncons c1 fun x3 l4 => cD x3 fun d5 => dBool d5 fun w0 => atEnd l4 <| atEnd r2 <| atEnd os (some w0)
theorem laws_eqWork.kt_dec (a0_0 : Int) (a0_1 : Int) (a0_2 : Int) (a0_3 : ByteArray) (a0_4 : Int) (a0_5 : List (List D)) (a0_6 : List (List D)) (a1_0 : Int) (a1_1 : Int) (a1_2 : Int) (a1_3 : ByteArray) (a1_4 : Int) (a1_5 : List (List D)) (a1_6 : List (List D)) : laws_eqWork.kt a0_0 a0_1 a0_2 a0_3 a0_4 a0_5 a0_6 a1_0 a1_1 a1_2 a1_3 a1_4 a1_5 a1_6 laws_eqWork.dec = (fun z0 => some z0) := by kernel_rfl
theorem laws_eqWork.inj (a0_0 : Int) (a0_1 : Int) (a0_2 : Int) (a0_3 : ByteArray) (a0_4 : Int) (a0_5 : List (List D)) (a0_6 : List (List D)) (a1_0 : Int) (a1_1 : Int) (a1_2 : Int) (a1_3 : ByteArray) (a1_4 : Int) (a1_5 : List (List D)) (a1_6 : List (List D)) {rs : List (List C)} {os : List Out} {z0 : Bool} (h : laws_eqWork.dec rs os = some z0) (ho : OutShape (laws_eqWork.as a0_0 a0_1 a0_2 a0_3 a0_4 a0_5 a0_6 a1_0 a1_1 a1_2 a1_3 a1_4 a1_5 a1_6) os) : rs = [[.d (.bool z0)]] ∧ os = [] := by
  unfold laws_eqWork.dec at h
  obtain ⟨c1, r2, rfl, h1⟩ := uncons_some h
  obtain ⟨x3, l4, rfl, h2⟩ := uncons_some h1
  obtain ⟨d5, rfl, h3⟩ := cD_some h2
  obtain ⟨w0, rfl, h4⟩ := dBool_some h3
  obtain ⟨rfl, h5⟩ := atEnd_some h4
  obtain ⟨rfl, h6⟩ := atEnd_some h5
  obtain ⟨rfl, h7⟩ := atEnd_some h6
  obtain rfl := Option.some.inj h7
  exact ⟨rfl, rfl⟩
theorem laws_eqWork.ok (k : Nat) : EntryOK Try.prog 104 (laws_eqWork.e k) := by
  refine entry_of mix tyok (fn := Try.f104) (c := codeOf Try.f104) Try.func104 (by kernel_rfl) (h := laws_eqWork.h) (k := k) (E := laws_eqWork.E k) (env_cons (laws_eqValue.ok k) env_nil) (by kernel_rfl) (by kernel_rfl) rfl (enter_of Try.func104 (by kernel_rfl)) ?_
  intro β l K r hr
  simp only [laws_eqWork.e] at hr
  split at hr
  case h_2 => cases hr
  unfold laws_eqWork.f at hr
  split at hr
  case h_2 => cases hr
  rename_i hz
  exact ⟨_, _, hr, _, laws_eqWork.dec, _, (laws_eqWork.f_eq k _ _ _ _ _ _ _ _ _ _ _ _ _ _ laws_eqWork.dec).trans (by rw [laws_eqWork.kt_dec]; exact hz), fun rs os h ho => laws_eqWork.inj _ _ _ _ _ _ _ _ _ _ _ _ _ _ h ho⟩
/-! ### loop.example/g00119/laws.eqWorkS: function 43 -/
noncomputable def laws_eqWorkS.l0 {β : Type} (k : Nat) (v0_0 : List (List D)) (v0_1 : List (List D)) (K : Bool → Option β) (L0 : Int → Option β) (v : Int) : Option β :=
  match v with
  | v0_2 => bif (decide ((v0_2 : Int) < (v0_0.length : Int))) then (atRow v0_0 v0_2 fun c70 => uncons c70 fun d71 r72 => dInt .i64 d71 fun x73 => uncons r72 fun d74 r75 => dInt .i64 d74 fun x76 => uncons r75 fun d77 r78 => dInt .i64 d77 fun x79 => uncons r78 fun d80 r81 => dStr d80 fun x82 => uncons r81 fun d83 r84 => dInt .i64 d83 fun x85 => uncons r84 fun d86 r87 => dSl d86 fun x88 => uncons r87 fun d89 r90 => dSl d89 fun x91 => atEnd r90 (atRow v0_1 v0_2 fun c92 => uncons c92 fun d93 r94 => dInt .i64 d93 fun x95 => uncons r94 fun d96 r97 => dInt .i64 d96 fun x98 => uncons r97 fun d99 r100 => dInt .i64 d99 fun x101 => uncons r100 fun d102 r103 => dStr d102 fun x104 => uncons r103 fun d105 r106 => dInt .i64 d105 fun x107 => uncons r106 fun d108 r109 => dSl d108 fun x110 => uncons r109 fun d111 r112 => dSl d111 fun x113 => atEnd r112 (laws_eqWork.f k x73 x76 x79 x82 x85 x88 x91 x95 x98 x101 x104 x107 x110 x113 (fun y114 => bif (!y114) then (K false) else (L0 (IntKind.wrap .i64 (v0_2 + 1))))))) else (K true)
noncomputable def laws_eqWorkS.g {β : Type} (k : Nat) (a0 : List (List D)) (a1 : List (List D)) (K : Bool → Option β) : Option β :=
  bif (((a0.length : Int) : Int) != (a1.length : Int)) then (K false) else (iter (laws_eqWorkS.l0 k a0 a1 K) k (0))
noncomputable def laws_eqWorkS.t (k : Nat) (a0 : List (List D)) (a1 : List (List D)) : Option (Bool) := laws_eqWorkS.g k a0 a1 (fun z0 => some z0)
noncomputable def laws_eqWorkS.f {β : Type} (k : Nat) (a0 : List (List D)) (a1 : List (List D)) (K : Bool → Option β) : Option β :=
  match laws_eqWorkS.t k a0 a1 with
  | some z0 => K z0
  | none => none
noncomputable def laws_eqWorkS.as (a0 : List (List D)) (a1 : List (List D)) : List A := [.d (.sl a0), .d (.sl a1)]
noncomputable def laws_eqWorkS.kt {β : Type} (a0 : List (List D)) (a1 : List (List D)) (K0 : List (List C) → List Out → Option β) : Bool → Option β := fun z0 => K0 [[.d (.bool z0)]] []
noncomputable def laws_eqWorkS.e (k : Nat) : Entry := { modes := [(.imm, 0), (.imm, 0)], rts := [4], al := false, run := fun {β} l K => match l with | [.d (.sl a0), .d (.sl a1)] => laws_eqWorkS.f k a0 a1 (laws_eqWorkS.kt a0 a1 K) | _ => none }
noncomputable def laws_eqWorkS.E (k : Nat) : Env := fun g => bif g == 104 then some (laws_eqWork.e k) else none
noncomputable def laws_eqWorkS.h : Hints := ⟨fun n => bif n == 4 then ⟨[(0, .asis), (1, .asis), (5, .asis)], []⟩ else ⟨[], []⟩, fun _ => none, false, []⟩
noncomputable def laws_eqWorkS.s0 (v0_0 : List (List D)) (v0_1 : List (List D)) (v : Int) : St :=
  match v with
  | v0_2 => ⟨[.d false (.sl v0_0), .d false (.sl v0_1), .any, .any, .any, .d true (.int .i64 v0_2), .any, .any, .any, .any, .any, .any, .any, .any, .any, .any, .any, .any, .any, .any, .any, .any, .any, .any, .any, .any, .any], []⟩
noncomputable def laws_eqWorkS.b0 {β : Type} (k : Nat) : St → (Ex → St → Option β) → Option β := fun s K => den Try.prog (laws_eqWorkS.E k) laws_eqWorkS.h.H laws_eqWorkS.h.J k (codeAt [1, 1, 0, 1, 0, 0] (codeOf Try.f43)) s K
noncomputable def laws_eqWorkS.c0 {β : Type} (k : Nat) (a0 : List (List D)) (a1 : List (List D)) (K0 : List (List C) → List Out → Option β) : Ex → St → Option β := contAt Try.prog (laws_eqWorkS.E k) laws_eqWorkS.h k [1, 1, 0, 1, 0] (codeOf Try.f43) (finDen Try.prog Try.f43 laws_eqWorkS.h (laws_eqWorkS.as a0 a1) K0)
theorem laws_eqWorkS.l0_eq {β : Type} (k : Nat) (a0 : List (List D)) (a1 : List (List D)) (K0 : List (List C) → List Out → Option β) (v0_0 : List (List D)) (v0_1 : List (List D)) : ∀ (kk : Nat) (v : Int), loopDen (laws_eqWorkS.b0 k) (laws_eqWorkS.h.H 4) kk (laws_eqWorkS.s0 v0_0 v0_1 v) (laws_eqWorkS.c0 k a0 a1 K0) = iter (laws_eqWorkS.l0 k v0_0 v0_1 (laws_eqWorkS.kt a0 a1 K0)) kk v :=
  loop_eq (laws_eqWorkS.s0 v0_0 v0_1) _ (fun L0 v => by kernel_rfl)
noncomputable def laws_eqWorkS.m {β : Type} (k : Nat) (a0 : List (List D)) (a1 : List (List D)) (K0 : List (List C) → List Out → Option β) (F : ((List (List D)) → (List (List D)) → Int → Option β)) : Option β :=
  bif (((a0.length : Int) : Int) != (a1.length : Int)) then ((laws_eqWorkS.kt a0 a1 K0) false) else ((F) a0 a1 (0))
theorem laws_eqWorkS.f_eq {β : Type} (k : Nat) (a0 : List (List D)) (a1 : List (List D)) (K0 : List (List C) → List Out → Option β) : funDen Try.prog (laws_eqWorkS.E k) laws_eqWorkS.h k Try.f43 (laws_eqWorkS.as a0 a1) K0 = laws_eqWorkS.g k a0 a1 (laws_eqWorkS.kt a0 a1 K0) := Eq.trans (b := (laws_eqWorkS.m k a0 a1 K0) (fun (v0_0 : List (List D)) (v0_1 : List (List D)) (v : Int) => loopDen (laws_eqWorkS.b0 k) (laws_eqWorkS.h.H 4) k (laws_eqWorkS.s0 v0_0 v0_1 v) (laws_eqWorkS.c0 k a0 a1 K0))) (by kernel_rfl) (Eq.trans (congrArg (laws_eqWorkS.m k a0 a1 K0) (funext fun v0_0 => funext fun v0_1 => funext fun v => laws_eqWorkS.l0_eq k a0 a1 K0 v0_0 v0_1 k v)) (by kernel_rfl))
noncomputable def laws_eqWorkS.dec (rs : List (List C)) (os : List Out) : Option (Bool) := uncons rs fun c1 r2 => uncons c1 fun x3 l4 => cD x3 fun d5 => dBool d5 fun w0 => atEnd l4 <| atEnd r2 <| atEnd os (some w0)
theorem laws_eqWorkS.kt_dec (a0 : List (List D)) (a1 : List (List D)) : laws_eqWorkS.kt a0 a1 laws_eqWorkS.dec = (fun z0 => some z0) := by kernel_rfl
theorem laws_eqWorkS.inj (a0 : List (List D)) (a1 : List (List D)) {rs : List (List C)} {os : List Out} {z0 : Bool} (h : laws_eqWorkS.dec rs os = some z0) (ho : OutShape (laws_eqWorkS.as a0 a1) os) : rs = [[.d (.bool z0)]] ∧ os = [] := by
  unfold laws_eqWorkS.dec at h
  obtain ⟨c1, r2, rfl, h1⟩ := uncons_some h
  obtain ⟨x3, l4, rfl, h2⟩ := uncons_some h1
  obtain ⟨d5, rfl, h3⟩ := cD_some h2
  obtain ⟨w0, rfl, h4⟩ := dBool_some h3
  obtain ⟨rfl, h5⟩ := atEnd_some h4
  obtain ⟨rfl, h6⟩ := atEnd_some h5
  obtain ⟨rfl, h7⟩ := atEnd_some h6
  obtain rfl := Option.some.inj h7
  exact ⟨rfl, rfl⟩
theorem laws_eqWorkS.ok (k : Nat) : EntryOK Try.prog 43 (laws_eqWorkS.e k) := by
  refine entry_of mix tyok (fn := Try.f43) (c := codeOf Try.f43) Try.func43 (by kernel_rfl) (h := laws_eqWorkS.h) (k := k) (E := laws_eqWorkS.E k) (env_cons (laws_eqWork.ok k) env_nil) (by kernel_rfl) (by kernel_rfl) rfl (enter_of Try.func43 (by kernel_rfl)) ?_
  intro β l K r hr
  simp only [laws_eqWorkS.e] at hr
  split at hr
  case h_2 => cases hr
  unfold laws_eqWorkS.f at hr
  split at hr
  case h_2 => cases hr
  rename_i hz
  exact ⟨_, _, hr, _, laws_eqWorkS.dec, _, (laws_eqWorkS.f_eq k _ _ laws_eqWorkS.dec).trans (by rw [laws_eqWorkS.kt_dec]; exact hz), fun rs os h ho => laws_eqWorkS.inj _ _ h ho⟩
/-! ### loop.example/g00119/laws.eqRun: function 151 -/
noncomputable def laws_eqRun.g {β : Type} (k : Nat) (a0_0 : Int) (a0_1 : Int) (a1_0 : Int) (a1_1 : Int) (K : Bool → Option β) : Option β :=
  bif ((a0_0 : Int) != a1_0) then (K false) else (bif ((a0_1 : Int) != a1_1) then (K false) else (K true))
noncomputable def laws_eqRun.t (k : Nat) (a0_0 : Int) (a0_1 : Int) (a1_0 : Int) (a1_1 : Int) : Option (Bool) := laws_eqRun.g k a0_0 a0_1 a1_0 a1_1 (fun z0 => some z0)
noncomputable def laws_eqRun.f {β : Type} (k : Nat) (a0_0 : Int) (a0_1 : Int) (a1_0 : Int) (a1_1 : Int) (K : Bool → Option β) : Option β :=
  match laws_eqRun.t k a0_0 a0_1 a1_0 a1_1 with
  | some z0 => K z0
  | none => none
noncomputable def laws_eqRun.as (a0_0 : Int) (a0_1 : Int) (a1_0 : Int) (a1_1 : Int) : List A := [.agg [.int .i64 a0_0, .int .i64 a0_1], .agg [.int .i64 a1_0, .int .i64 a1_1]]
noncomputable def laws_eqRun.kt {β : Type} (a0_0 : Int) (a0_1 : Int) (a1_0 : Int) (a1_1 : Int) (K0 : List (List C) → List Out → Option β) : Bool → Option β := fun z0 => K0 [[.d (.bool z0)]] []
noncomputable def laws_eqRun.e (k : Nat) : Entry := { modes := [(.imm, 0), (.imm, 0)], rts := [4], al := false, run := fun {β} l K => match l with | [.agg [.int .i64 a0_0, .int .i64 a0_1], .agg [.int .i64 a1_0, .int .i64 a1_1]] => laws_eqRun.f k a0_0 a0_1 a1_0 a1_1 (laws_eqRun.kt a0_0 a0_1 a1_0 a1_1 K) | _ => none }
noncomputable def laws_eqRun.E (k : Nat) : Env := fun g => none
noncomputable def laws_eqRun.h : Hints := ⟨fun n => ⟨[], []⟩, fun _ => none, false, []⟩
theorem laws_eqRun.f_eq {β : Type} (k : Nat) (a0_0 : Int) (a0_1 : Int) (a1_0 : Int) (a1_1 : Int) (K0 : List (List C) → List Out → Option β) : funDen Try.prog (laws_eqRun.E k) laws_eqRun.h k Try.f151 (laws_eqRun.as a0_0 a0_1 a1_0 a1_1) K0 = laws_eqRun.g k a0_0 a0_1 a1_0 a1_1 (laws_eqRun.kt a0_0 a0_1 a1_0 a1_1 K0) := by kernel_rfl
noncomputable def laws_eqRun.dec (rs : List (List C)) (os : List Out) : Option (Bool) := uncons rs fun c1 r2 => uncons c1 fun x3 l4 => cD x3 fun d5 => dBool d5 fun w0 => atEnd l4 <| atEnd r2 <| atEnd os (some w0)
theorem laws_eqRun.kt_dec (a0_0 : Int) (a0_1 : Int) (a1_0 : Int) (a1_1 : Int) : laws_eqRun.kt a0_0 a0_1 a1_0 a1_1 laws_eqRun.dec = (fun z0 => some z0) := by kernel_rfl
theorem laws_eqRun.inj (a0_0 : Int) (a0_1 : Int) (a1_0 : Int) (a1_1 : Int) {rs : List (List C)} {os : List Out} {z0 : Bool} (h : laws_eqRun.dec rs os = some z0) (ho : OutShape (laws_eqRun.as a0_0 a0_1 a1_0 a1_1) os) : rs = [[.d (.bool z0)]] ∧ os = [] := by
  unfold laws_eqRun.dec at h
  obtain ⟨c1, r2, rfl, h1⟩ := uncons_some h
  obtain ⟨x3, l4, rfl, h2⟩ := uncons_some h1
  obtain ⟨d5, rfl, h3⟩ := cD_some h2
  obtain ⟨w0, rfl, h4⟩ := dBool_some h3
  obtain ⟨rfl, h5⟩ := atEnd_some h4
  obtain ⟨rfl, h6⟩ := atEnd_some h5
  obtain ⟨rfl, h7⟩ := atEnd_some h6
  obtain rfl := Option.some.inj h7
  exact ⟨rfl, rfl⟩
theorem laws_eqRun.ok (k : Nat) : EntryOK Try.prog 151 (laws_eqRun.e k) := by
  refine entry_of mix tyok (fn := Try.f151) (c := codeOf Try.f151) Try.func151 (by kernel_rfl) (h := laws_eqRun.h) (k := k) (E := laws_eqRun.E k) env_nil (by kernel_rfl) (by kernel_rfl) rfl (enter_of Try.func151 (by kernel_rfl)) ?_
  intro β l K r hr
  simp only [laws_eqRun.e] at hr
  split at hr
  case h_2 => cases hr
  unfold laws_eqRun.f at hr
  split at hr
  case h_2 => cases hr
  rename_i hz
  exact ⟨_, _, hr, _, laws_eqRun.dec, _, (laws_eqRun.f_eq k _ _ _ _ laws_eqRun.dec).trans (by rw [laws_eqRun.kt_dec]; exact hz), fun rs os h ho => laws_eqRun.inj _ _ _ _ h ho⟩
/-! ### loop.example/g00119/laws.eqRunS: function 93 -/
noncomputable def laws_eqRunS.l0 {β : Type} (k : Nat) (v0_0 : List (List D)) (v0_1 : List (List D)) (K : Bool → Option β) (L0 : Int → Option β) (v : Int) : Option β :=
  match v with
  | v0_2 => bif (decide ((v0_2 : Int) < (v0_0.length : Int))) then (atRow v0_0 v0_2 fun c16 => uncons c16 fun d17 r18 => dInt .i64 d17 fun x19 => uncons r18 fun d20 r21 => dInt .i64 d20 fun x22 => atEnd r21 (atRow v0_1 v0_2 fun c23 => uncons c23 fun d24 r25 => dInt .i64 d24 fun x26 => uncons r25 fun d27 r28 => dInt .i64 d27 fun x29 => atEnd r28 (laws_eqRun.f k x19 x22 x26 x29 (fun y30 => bif (!y30) then (K false) else (L0 (IntKind.wrap .i64 (v0_2 + 1))))))) else (K true)
noncomputable def laws_eqRunS.g {β : Type} (k : Nat) (a0 : List (List D)) (a1 : List (List D)) (K : Bool → Option β) : Option β :=
  bif (((a0.length : Int) : Int) != (a1.length : Int)) then (K false) else (iter (laws_eqRunS.l0 k a0 a1 K) k (0))
noncomputable def laws_eqRunS.t (k : Nat) (a0 : List (List D)) (a1 : List (List D)) : Option (Bool) := laws_eqRunS.g k a0 a1 (fun z0 => some z0)
noncomputable def laws_eqRunS.f {β : Type} (k : Nat) (a0 : List (List D)) (a1 : List (List D)) (K : Bool → Option β) : Option β :=
  match laws_eqRunS.t k a0 a1 with
  | some z0 => K z0
  | none => none
noncomputable def laws_eqRunS.as (a0 : List (List D)) (a1 : List (List D)) : List A := [.d (.sl a0), .d (.sl a1)]
noncomputable def laws_eqRunS.kt {β : Type} (a0 : List (List D)) (a1 : List (List D)) (K0 : List (List C) → List Out → Option β) : Bool → Option β := fun z0 => K0 [[.d (.bool z0)]] []
noncomputable def laws_eqRunS.e (k : Nat) : Entry := { modes := [(.imm, 0), (.imm, 0)], rts := [4], al := false, run := fun {β} l K => match l with | [.d (.sl a0), .d (.sl a1)] => laws_eqRunS.f k a0 a1 (laws_eqRunS.kt a0 a1 K) | _ => none }
noncomputable def laws_eqRunS.E (k : Nat) : Env := fun g => bif g == 151 then some (laws_eqRun.e k) else none
noncomputable def laws_eqRunS.h : Hints := ⟨fun n => bif n == 4 then ⟨[(0, .asis), (1, .asis), (5, .asis)], []⟩ else ⟨[], []⟩, fun _ => none, false, []⟩
noncomputable def laws_eqRunS.s0 (v0_0 : List (List D)) (v0_1 : List (List D)) (v : Int) : St :=
  match v with
  | v0_2 => ⟨[.d false (.sl v0_0), .d false (.sl v0_1), .any, .any, .any, .d true (.int .i64 v0_2), .any, .any, .any, .any, .any, .any, .any, .any, .any, .any, .any, .any, .any, .any, .any, .any, .any, .any, .any, .any, .any], []⟩
noncomputable def laws_eqRunS.b0 {β : Type} (k : Nat) : St → (Ex → St → Option β) → Option β := fun s K => den Try.prog (laws_eqRunS.E k) laws_eqRunS.h.H laws_eqRunS.h.J k (codeAt [1, 1, 0, 1, 0, 0] (codeOf Try.f93)) s K
noncomputable def laws_eqRunS.c0 {β : Type} (k : Nat) (a0 : List (List D)) (a1 : List (List D)) (K0 : List (List C) → List Out → Option β) : Ex → St → Option β := contAt Try.prog (laws_eqRunS.E k) laws_eqRunS.h k [1, 1, 0, 1, 0] (codeOf Try.f93) (finDen Try.prog Try.f93 laws_eqRunS.h (laws_eqRunS.as a0 a1) K0)
theorem laws_eqRunS.l0_eq {β : Type} (k : Nat) (a0 : List (List D)) (a1 : List (List D)) (K0 : List (List C) → List Out → Option β) (v0_0 : List (List D)) (v0_1 : List (List D)) : ∀ (kk : Nat) (v : Int), loopDen (laws_eqRunS.b0 k) (laws_eqRunS.h.H 4) kk (laws_eqRunS.s0 v0_0 v0_1 v) (laws_eqRunS.c0 k a0 a1 K0) = iter (laws_eqRunS.l0 k v0_0 v0_1 (laws_eqRunS.kt a0 a1 K0)) kk v :=
  loop_eq (laws_eqRunS.s0 v0_0 v0_1) _ (fun L0 v => by kernel_rfl)
noncomputable def laws_eqRunS.m {β : Type} (k : Nat) (a0 : List (List D)) (a1 : List (List D)) (K0 : List (List C) → List Out → Option β) (F : ((List (List D)) → (List (List D)) → Int → Option β)) : Option β :=
  bif (((a0.length : Int) : Int) != (a1.length : Int)) then ((laws_eqRunS.kt a0 a1 K0) false) else ((F) a0 a1 (0))
theorem laws_eqRunS.f_eq {β : Type} (k : Nat) (a0 : List (List D)) (a1 : List (List D)) (K0 : List (List C) → List Out → Option β) : funDen Try.prog (laws_eqRunS.E k) laws_eqRunS.h k Try.f93 (laws_eqRunS.as a0 a1) K0 = laws_eqRunS.g k a0 a1 (laws_eqRunS.kt a0 a1 K0) := Eq.trans (b := (laws_eqRunS.m k a0 a1 K0) (fun (v0_0 : List (List D)) (v0_1 : List (List D)) (v : Int) => loopDen (laws_eqRunS.b0 k) (laws_eqRunS.h.H 4) k (laws_eqRunS.s0 v0_0 v0_1 v) (laws_eqRunS.c0 k a0 a1 K0))) (by kernel_rfl) (Eq.trans (congrArg (laws_eqRunS.m k a0 a1 K0) (funext fun v0_0 => funext fun v0_1 => funext fun v => laws_eqRunS.l0_eq k a0 a1 K0 v0_0 v0_1 k v)) (by kernel_rfl))
noncomputable def laws_eqRunS.dec (rs : List (List C)) (os : List Out) : Option (Bool) := uncons rs fun c1 r2 => uncons c1 fun x3 l4 => cD x3 fun d5 => dBool d5 fun w0 => atEnd l4 <| atEnd r2 <| atEnd os (some w0)
theorem laws_eqRunS.kt_dec (a0 : List (List D)) (a1 : List (List D)) : laws_eqRunS.kt a0 a1 laws_eqRunS.dec = (fun z0 => some z0) := by kernel_rfl
theorem laws_eqRunS.inj (a0 : List (List D)) (a1 : List (List D)) {rs : List (List C)} {os : List Out} {z0 : Bool} (h : laws_eqRunS.dec rs os = some z0) (ho : OutShape (laws_eqRunS.as a0 a1) os) : rs = [[.d (.bool z0)]] ∧ os = [] := by
  unfold laws_eqRunS.dec at h
  obtain ⟨c1, r2, rfl, h1⟩ := uncons_some h
  obtain ⟨x3, l4, rfl, h2⟩ := uncons_some h1
  obtain ⟨d5, rfl, h3⟩ := cD_some h2
  obtain ⟨w0, rfl, h4⟩ := dBool_some h3
  obtain ⟨rfl, h5⟩ := atEnd_some h4
  obtain ⟨rfl, h6⟩ := atEnd_some h5
  obtain ⟨rfl, h7⟩ := atEnd_some h6
  obtain rfl := Option.some.inj h7
  exact ⟨rfl, rfl⟩
theorem laws_eqRunS.ok (k : Nat) : EntryOK Try.prog 93 (laws_eqRunS.e k) := by
  refine entry_of mix tyok (fn := Try.f93) (c := codeOf Try.f93) Try.func93 (by kernel_rfl) (h := laws_eqRunS.h) (k := k) (E := laws_eqRunS.E k) (env_cons (laws_eqRun.ok k) env_nil) (by kernel_rfl) (by kernel_rfl) rfl (enter_of Try.func93 (by kernel_rfl)) ?_
  intro β l K r hr
  simp only [laws_eqRunS.e] at hr
  split at hr
  case h_2 => cases hr
  unfold laws_eqRunS.f at hr
  split at hr
  case h_2 => cases hr
  rename_i hz
  exact ⟨_, _, hr, _, laws_eqRunS.dec, _, (laws_eqRunS.f_eq k _ _ laws_eqRunS.dec).trans (by rw [laws_eqRunS.kt_dec]; exact hz), fun rs os h ho => laws_eqRunS.inj _ _ h ho⟩
/-! ### loop.example/g00119/laws.eqIsle: function 34 -/
noncomputable def laws_eqIsle.g {β : Type} (k : Nat) (a0_0 : ByteArray) (a0_1 : Int) (a0_2 : Int) (a0_3 : List (List D)) (a0_4 : List (List D)) (a1_0 : ByteArray) (a1_1 : Int) (a1_2 : Int) (a1_3 : List (List D)) (a1_4 : List (List D)) (K : Bool → Option β) : Option β :=
  bif (!(strEq a0_0 a1_0)) then (K false) else (bif ((a0_1 : Int) != a1_1) then (K false) else (bif ((a0_2 : Int) != a1_2) then (K false) else (laws_eqWorkS.f k a0_3 a1_3 (fun y115 => bif (!y115) then (K false) else (laws_eqRunS.f k a0_4 a1_4 (fun y116 => bif (!y116) then (K false) else (K true)))))))
noncomputable def laws_eqIsle.t (k : Nat) (a0_0 : ByteArray) (a0_1 : Int) (a0_2 : Int) (a0_3 : List (List D)) (a0_4 : List (List D)) (a1_0 : ByteArray) (a1_1 : Int) (a1_2 : Int) (a1_3 : List (List D)) (a1_4 : List (List D)) : Option (Bool) := laws_eqIsle.g k a0_0 a0_1 a0_2 a0_3 a0_4 a1_0 a1_1 a1_2 a1_3 a1_4 (fun z0 => some z0)
noncomputable def laws_eqIsle.f {β : Type} (k : Nat) (a0_0 : ByteArray) (a0_1 : Int) (a0_2 : Int) (a0_3 : List (List D)) (a0_4 : List (List D)) (a1_0 : ByteArray) (a1_1 : Int) (a1_2 : Int) (a1_3 : List (List D)) (a1_4 : List (List D)) (K : Bool → Option β) : Option β :=
  match laws_eqIsle.t k a0_0 a0_1 a0_2 a0_3 a0_4 a1_0 a1_1 a1_2 a1_3 a1_4 with
  | some z0 => K z0
  | none => none
noncomputable def laws_eqIsle.as (a0_0 : ByteArray) (a0_1 : Int) (a0_2 : Int) (a0_3 : List (List D)) (a0_4 : List (List D)) (a1_0 : ByteArray) (a1_1 : Int) (a1_2 : Int) (a1_3 : List (List D)) (a1_4 : List (List D)) : List A := [.agg [.str a0_0, .int .i64 a0_1, .int .i64 a0_2, .sl a0_3, .sl a0_4], .agg [.str a1_0, .int .i64 a1_1, .int .i64 a1_2, .sl a1_3, .sl a1_4]]
noncomputable def laws_eqIsle.kt {β : Type} (a0_0 : ByteArray) (a0_1 : Int) (a0_2 : Int) (a0_3 : List (List D)) (a0_4 : List (List D)) (a1_0 : ByteArray) (a1_1 : Int) (a1_2 : Int) (a1_3 : List (List D)) (a1_4 : List (List D)) (K0 : List (List C) → List Out → Option β) : Bool → Option β := fun z0 => K0 [[.d (.bool z0)]] []
noncomputable def laws_eqIsle.e (k : Nat) : Entry := { modes := [(.imm, 0), (.imm, 0)], rts := [4], al := false, run := fun {β} l K => match l with | [.agg [.str a0_0, .int .i64 a0_1, .int .i64 a0_2, .sl a0_3, .sl a0_4], .agg [.str a1_0, .int .i64 a1_1, .int .i64 a1_2, .sl a1_3, .sl a1_4]] => laws_eqIsle.f k a0_0 a0_1 a0_2 a0_3 a0_4 a1_0 a1_1 a1_2 a1_3 a1_4 (laws_eqIsle.kt a0_0 a0_1 a0_2 a0_3 a0_4 a1_0 a1_1 a1_2 a1_3 a1_4 K) | _ => none }
noncomputable def laws_eqIsle.E (k : Nat) : Env := fun g => bif g == 43 then some (laws_eqWorkS.e k) else bif g == 93 then some (laws_eqRunS.e k) else none
noncomputable def laws_eqIsle.h : Hints := ⟨fun n => ⟨[], []⟩, fun _ => none, false, []⟩
theorem laws_eqIsle.f_eq {β : Type} (k : Nat) (a0_0 : ByteArray) (a0_1 : Int) (a0_2 : Int) (a0_3 : List (List D)) (a0_4 : List (List D)) (a1_0 : ByteArray) (a1_1 : Int) (a1_2 : Int) (a1_3 : List (List D)) (a1_4 : List (List D)) (K0 : List (List C) → List Out → Option β) : funDen Try.prog (laws_eqIsle.E k) laws_eqIsle.h k Try.f34 (laws_eqIsle.as a0_0 a0_1 a0_2 a0_3 a0_4 a1_0 a1_1 a1_2 a1_3 a1_4) K0 = laws_eqIsle.g k a0_0 a0_1 a0_2 a0_3 a0_4 a1_0 a1_1 a1_2 a1_3 a1_4 (laws_eqIsle.kt a0_0 a0_1 a0_2 a0_3 a0_4 a1_0 a1_1 a1_2 a1_3 a1_4 K0) := by kernel_rfl
noncomputable def laws_eqIsle.dec (rs : List (List C)) (os : List Out) : Option (Bool) := uncons rs fun c1 r2 => uncons c1 fun x3 l4 => cD x3 fun d5 => dBool d5 fun w0 => atEnd l4 <| atEnd r2 <| atEnd os (some w0)
theorem laws_eqIsle.kt_dec (a0_0 : ByteArray) (a0_1 : Int) (a0_2 : Int) (a0_3 : List (List D)) (a0_4 : List (List D)) (a1_0 : ByteArray) (a1_1 : Int) (a1_2 : Int) (a1_3 : List (List D)) (a1_4 : List (List D)) : laws_eqIsle.kt a0_0 a0_1 a0_2 a0_3 a0_4 a1_0 a1_1 a1_2 a1_3 a1_4 laws_eqIsle.dec = (fun z0 => some z0) := by kernel_rfl
theorem laws_eqIsle.inj (a0_0 : ByteArray) (a0_1 : Int) (a0_2 : Int) (a0_3 : List (List D)) (a0_4 : List (List D)) (a1_0 : ByteArray) (a1_1 : Int) (a1_2 : Int) (a1_3 : List (List D)) (a1_4 : List (List D)) {rs : List (List C)} {os : List Out} {z0 : Bool} (h : laws_eqIsle.dec rs os = some z0) (ho : OutShape (laws_eqIsle.as a0_0 a0_1 a0_2 a0_3 a0_4 a1_0 a1_1 a1_2 a1_3 a1_4) os) : rs = [[.d (.bool z0)]] ∧ os = [] := by
  unfold laws_eqIsle.dec at h
  obtain ⟨c1, r2, rfl, h1⟩ := uncons_some h
  obtain ⟨x3, l4, rfl, h2⟩ := uncons_some h1
  obtain ⟨d5, rfl, h3⟩ := cD_some h2
  obtain ⟨w0, rfl, h4⟩ := dBool_some h3
  obtain ⟨rfl, h5⟩ := atEnd_some h4
  obtain ⟨rfl, h6⟩ := atEnd_some h5
  obtain ⟨rfl, h7⟩ := atEnd_some h6
  obtain rfl := Option.some.inj h7
  exact ⟨rfl, rfl⟩
theorem laws_eqIsle.ok (k : Nat) : EntryOK Try.prog 34 (laws_eqIsle.e k) := by
  refine entry_of mix tyok (fn := Try.f34) (c := codeOf Try.f34) Try.func34 (by kernel_rfl) (h := laws_eqIsle.h) (k := k) (E := laws_eqIsle.E k) (env_cons (laws_eqWorkS.ok k) (env_cons (laws_eqRunS.ok k) env_nil)) (by kernel_rfl) (by kernel_rfl) rfl (enter_of Try.func34 (by kernel_rfl)) ?_
  intro β l K r hr
  simp only [laws_eqIsle.e] at hr
  split at hr
  case h_2 => cases hr
  unfold laws_eqIsle.f at hr
  split at hr
  case h_2 => cases hr
  rename_i hz
  exact ⟨_, _, hr, _, laws_eqIsle.dec, _, (laws_eqIsle.f_eq k _ _ _ _ _ _ _ _ _ _ laws_eqIsle.dec).trans (by rw [laws_eqIsle.kt_dec]; exact hz), fun rs os h ho => laws_eqIsle.inj _ _ _ _ _ _ _ _ _ _ h ho⟩
/-! ### loop.example/g00119/laws.markText: function 152 -/
noncomputable def laws_markText.l0 {β : Type} (k : Nat) (K : ByteArray → Option β) (L0 : (Int × ByteArray) → Option β) (v : Int × ByteArray) : Option β :=
  match v with
  | (v0_0, v0_1) => bif (decide ((v0_0 : Int) > 0)) then (guardP ((10 : Int) ≠ 0) (guardP ((((⟨#[UInt8.ofNat (Int.toNat (IntKind.wrap .u8 (IntKind.wrap .i64 (48 + (Int.tmod v0_0 10)))))]⟩ : ByteArray).size + v0_1.size : Nat) : Int) ≤ 9223372036854775807) (guardP ((10 : Int) ≠ 0) (L0 (IntKind.wrap .i64 (Int.tdiv v0_0 10), (⟨#[UInt8.ofNat (Int.toNat (IntKind.wrap .u8 (IntKind.wrap .i64 (48 + (Int.tmod v0_0 10)))))]⟩ : ByteArray) ++ v0_1))))) else (guardP ((((⟨#[109]⟩ : ByteArray).size + v0_1.size : Nat) : Int) ≤ 9223372036854775807) (K ((⟨#[109]⟩ : ByteArray) ++ v0_1)))
noncomputable def laws_markText.g {β : Type} (k : Nat) (a0 : Int) (K : ByteArray → Option β) : Option β :=
  bif (decide ((a0 : Int) ≤ 0)) then (K (⟨#[109, 48]⟩ : ByteArray)) else (iter (laws_markText.l0 k K) k (a0, (⟨#[]⟩ : ByteArray)))
noncomputable def laws_markText.t (k : Nat) (a0 : Int) : Option (ByteArray) := laws_markText.g k a0 (fun z0 => some z0)
noncomputable def laws_markText.f {β : Type} (k : Nat) (a0 : Int) (K : ByteArray → Option β) : Option β :=
  match laws_markText.t k a0 with
  | some z0 => K z0
  | none => none
noncomputable def laws_markText.as (a0 : Int) : List A := [.d (.int .i64 a0)]
noncomputable def laws_markText.kt {β : Type} (a0 : Int) (K0 : List (List C) → List Out → Option β) : ByteArray → Option β := fun z0 => K0 [[.d (.str z0)]] []
noncomputable def laws_markText.e (k : Nat) : Entry := { modes := [(.imm, 0)], rts := [9], al := false, run := fun {β} l K => match l with | [.d (.int .i64 a0)] => laws_markText.f k a0 (laws_markText.kt a0 K) | _ => none }
noncomputable def laws_markText.E (k : Nat) : Env := fun g => none
noncomputable def laws_markText.h : Hints := ⟨fun n => bif n == 4 then ⟨[(0, .dat false), (3, .asis)], []⟩ else ⟨[], []⟩, fun _ => none, false, []⟩
noncomputable def laws_markText.s0 (v : Int × ByteArray) : St :=
  match v with
  | (v0_0, v0_1) => ⟨[.d false (.int .i64 v0_0), .any, .any, .d true (.str v0_1), .any, .any, .any, .any, .any, .any, .any, .any, .any, .any, .any, .any, .any, .any, .any, .any], []⟩
noncomputable def laws_markText.b0 {β : Type} (k : Nat) : St → (Ex → St → Option β) → Option β := fun s K => den Try.prog (laws_markText.E k) laws_markText.h.H laws_markText.h.J k (codeAt [1, 1, 1, 0, 0, 0] (codeOf Try.f152)) s K
noncomputable def laws_markText.c0 {β : Type} (k : Nat) (a0 : Int) (K0 : List (List C) → List Out → Option β) : Ex → St → Option β := contAt Try.prog (laws_markText.E k) laws_markText.h k [1, 1, 1, 0, 0] (codeOf Try.f152) (finDen Try.prog Try.f152 laws_markText.h (laws_markText.as a0) K0)
theorem laws_markText.l0_eq {β : Type} (k : Nat) (a0 : Int) (K0 : List (List C) → List Out → Option β) : ∀ (kk : Nat) (v : Int × ByteArray), loopDen (laws_markText.b0 k) (laws_markText.h.H 4) kk (laws_markText.s0 v) (laws_markText.c0 k a0 K0) = iter (laws_markText.l0 k (laws_markText.kt a0 K0)) kk v :=
  loop_eq (laws_markText.s0) _ (fun L0 v => by obtain ⟨v0_0, v0_1⟩ := v; kernel_rfl)
noncomputable def laws_markText.m {β : Type} (k : Nat) (a0 : Int) (K0 : List (List C) → List Out → Option β) (F : ((Int × ByteArray) → Option β)) : Option β :=
  bif (decide ((a0 : Int) ≤ 0)) then ((laws_markText.kt a0 K0) (⟨#[109, 48]⟩ : ByteArray)) else ((F) (a0, (⟨#[]⟩ : ByteArray)))
theorem laws_markText.f_eq {β : Type} (k : Nat) (a0 : Int) (K0 : List (List C) → List Out → Option β) : funDen Try.prog (laws_markText.E k) laws_markText.h k Try.f152 (laws_markText.as a0) K0 = laws_markText.g k a0 (laws_markText.kt a0 K0) := Eq.trans (b := (laws_markText.m k a0 K0) (fun (v : Int × ByteArray) => loopDen (laws_markText.b0 k) (laws_markText.h.H 4) k (laws_markText.s0 v) (laws_markText.c0 k a0 K0))) (by kernel_rfl) (Eq.trans (congrArg (laws_markText.m k a0 K0) (funext fun v => laws_markText.l0_eq k a0 K0 k v)) (by kernel_rfl))
noncomputable def laws_markText.dec (rs : List (List C)) (os : List Out) : Option (ByteArray) := uncons rs fun c1 r2 => uncons c1 fun x3 l4 => cD x3 fun d5 => dStr d5 fun w0 => atEnd l4 <| atEnd r2 <| atEnd os (some w0)
theorem laws_markText.kt_dec (a0 : Int) : laws_markText.kt a0 laws_markText.dec = (fun z0 => some z0) := by kernel_rfl
theorem laws_markText.inj (a0 : Int) {rs : List (List C)} {os : List Out} {z0 : ByteArray} (h : laws_markText.dec rs os = some z0) (ho : OutShape (laws_markText.as a0) os) : rs = [[.d (.str z0)]] ∧ os = [] := by
  unfold laws_markText.dec at h
  obtain ⟨c1, r2, rfl, h1⟩ := uncons_some h
  obtain ⟨x3, l4, rfl, h2⟩ := uncons_some h1
  obtain ⟨d5, rfl, h3⟩ := cD_some h2
  obtain ⟨w0, rfl, h4⟩ := dStr_some h3
  obtain ⟨rfl, h5⟩ := atEnd_some h4
  obtain ⟨rfl, h6⟩ := atEnd_some h5
  obtain ⟨rfl, h7⟩ := atEnd_some h6
  obtain rfl := Option.some.inj h7
  exact ⟨rfl, rfl⟩
theorem laws_markText.ok (k : Nat) : EntryOK Try.prog 152 (laws_markText.e k) := by
  refine entry_of mix tyok (fn := Try.f152) (c := codeOf Try.f152) Try.func152 (by kernel_rfl) (h := laws_markText.h) (k := k) (E := laws_markText.E k) env_nil (by kernel_rfl) (by kernel_rfl) rfl (enter_of Try.func152 (by kernel_rfl)) ?_
  intro β l K r hr
  simp only [laws_markText.e] at hr
  split at hr
  case h_2 => cases hr
  unfold laws_markText.f at hr
  split at hr
  case h_2 => cases hr
  rename_i hz
  exact ⟨_, _, hr, _, laws_markText.dec, _, (laws_markText.f_eq k _ laws_markText.dec).trans (by rw [laws_markText.kt_dec]; exact hz), fun rs os h ho => laws_markText.inj _ h ho⟩
/-! ### loop.example/g00119/laws.markStringS: function 124 -/
noncomputable def laws_markStringS.l0 {β : Type} (k : Nat) (K : Int → (List (List C)) → Option β) (L0 : (Int × Int × (List (List C))) → Option β) (v : Int × Int × (List (List C))) : Option β :=
  match v with
  | (v0_0, v0_1, v0_2) => bif (decide ((v0_1 : Int) < (v0_2.length : Int))) then (laws_markText.f k v0_0 (fun y2 => guardP ((0 : Int) ≤ v0_1 ∧ v0_1 < (v0_2.length : Int)) (guardP (Int.toNat v0_1 < v0_2.length) (L0 (IntKind.wrap .i64 (v0_0 + 1), IntKind.wrap .i64 (v0_1 + 1), v0_2.modify (Int.toNat v0_1) fun c => splice c 0 [.d (.str y2)]))))) else (K v0_0 v0_2)
noncomputable def laws_markStringS.g {β : Type} (k : Nat) (a0 : List (List C)) (a1 : Int) (K : Int → (List (List C)) → Option β) : Option β :=
  iter (laws_markStringS.l0 k K) k (a1, 0, a0)
noncomputable def laws_markStringS.t (k : Nat) (a0 : List (List C)) (a1 : Int) : Option (Int × (List (List C))) := laws_markStringS.g k a0 a1 (fun z0 z1 => some (z0, z1))
noncomputable def laws_markStringS.f {β : Type} (k : Nat) (a0 : List (List C)) (a1 : Int) (K : Int → (List (List C)) → Option β) : Option β :=
  match laws_markStringS.t k a0 a1 with
  | some (z0, z1) => K z0 z1
  | none => none
noncomputable def laws_markStringS.as (a0 : List (List C)) (a1 : Int) : List A := [.own false [.own a0], .d (.int .i64 a1)]
noncomputable def laws_markStringS.kt {β : Type} (a0 : List (List C)) (a1 : Int) (K0 : List (List C) → List Out → Option β) : Int → (List (List C)) → Option β := fun z0 z1 => K0 [[.d (.int .i64 z0)]] [.own [.own z1]]
noncomputable def laws_markStringS.e (k : Nat) : Entry := { modes := [(.own, 23), (.imm, 0)], rts := [3], al := false, run := fun {β} l K => match l with | [.own false [.own a0], .d (.int .i64 a1)] => laws_markStringS.f k a0 a1 (laws_markStringS.kt a0 a1 K) | _ => none }
noncomputable def laws_markStringS.E (k : Nat) : Env := fun g => bif g == 152 then some (laws_markText.e k) else none
noncomputable def laws_markStringS.h : Hints := ⟨fun n => bif n == 2 then ⟨[(0, .asis), (1, .dat false), (5, .asis)], []⟩ else ⟨[], []⟩, fun _ => none, false, []⟩
noncomputable def laws_markStringS.s0 (v : Int × Int × (List (List C))) : St :=
  match v with
  | (v0_0, v0_1, v0_2) => ⟨[.row 0, .d false (.int .i64 v0_0), .any, .any, .any, .d true (.int .i64 v0_1), .any, .any, .any, .any, .any, .any, .any, .any, .any, .any, .any, .any, .any, .any], [.row (some 0) false 23 v0_2]⟩
noncomputable def laws_markStringS.b0 {β : Type} (k : Nat) : St → (Ex → St → Option β) → Option β := fun s K => den Try.prog (laws_markStringS.E k) laws_markStringS.h.H laws_markStringS.h.J k (codeAt [1, 0, 1, 0, 0] (codeOf Try.f124)) s K
noncomputable def laws_markStringS.c0 {β : Type} (k : Nat) (a0 : List (List C)) (a1 : Int) (K0 : List (List C) → List Out → Option β) : Ex → St → Option β := contAt Try.prog (laws_markStringS.E k) laws_markStringS.h k [1, 0, 1, 0] (codeOf Try.f124) (finDen Try.prog Try.f124 laws_markStringS.h (laws_markStringS.as a0 a1) K0)
theorem laws_markStringS.l0_eq {β : Type} (k : Nat) (a0 : List (List C)) (a1 : Int) (K0 : List (List C) → List Out → Option β) : ∀ (kk : Nat) (v : Int × Int × (List (List C))), loopDen (laws_markStringS.b0 k) (laws_markStringS.h.H 2) kk (laws_markStringS.s0 v) (laws_markStringS.c0 k a0 a1 K0) = iter (laws_markStringS.l0 k (laws_markStringS.kt a0 a1 K0)) kk v :=
  loop_eq (laws_markStringS.s0) _ (fun L0 v => by obtain ⟨v0_0, v0_1, v0_2⟩ := v; kernel_rfl)
noncomputable def laws_markStringS.m {β : Type} (k : Nat) (a0 : List (List C)) (a1 : Int) (K0 : List (List C) → List Out → Option β) (F : ((Int × Int × (List (List C))) → Option β)) : Option β :=
  (F) (a1, 0, a0)
theorem laws_markStringS.f_eq {β : Type} (k : Nat) (a0 : List (List C)) (a1 : Int) (K0 : List (List C) → List Out → Option β) : funDen Try.prog (laws_markStringS.E k) laws_markStringS.h k Try.f124 (laws_markStringS.as a0 a1) K0 = laws_markStringS.g k a0 a1 (laws_markStringS.kt a0 a1 K0) := Eq.trans (b := (laws_markStringS.m k a0 a1 K0) (fun (v : Int × Int × (List (List C))) => loopDen (laws_markStringS.b0 k) (laws_markStringS.h.H 2) k (laws_markStringS.s0 v) (laws_markStringS.c0 k a0 a1 K0))) (by kernel_rfl) (Eq.trans (congrArg (laws_markStringS.m k a0 a1 K0) (funext fun v => laws_markStringS.l0_eq k a0 a1 K0 k v)) (by kernel_rfl))
noncomputable def laws_markStringS.dec (rs : List (List C)) (os : List Out) : Option (Int × (List (List C))) := uncons rs fun c1 r2 => uncons c1 fun x3 l4 => cD x3 fun d5 => dInt .i64 d5 fun w0 => atEnd l4 <| atEnd r2 <| uncons os fun o6 u7 => outOwn o6 fun c8 => uncons c8 fun x9 l10 => cOwn x9 fun w1 => atEnd l10 <| atEnd u7 (some (w0, w1))
theorem laws_markStringS.kt_dec (a0 : List (List C)) (a1 : Int) : laws_markStringS.kt a0 a1 laws_markStringS.dec = (fun z0 z1 => some (z0, z1)) := by kernel_rfl
theorem laws_markStringS.inj (a0 : List (List C)) (a1 : Int) {rs : List (List C)} {os : List Out} {z0 : Int} {z1 : List (List C)} (h : laws_markStringS.dec rs os = some (z0, z1)) (ho : OutShape (laws_markStringS.as a0 a1) os) : rs = [[.d (.int .i64 z0)]] ∧ os = [.own [.own z1]] := by
  unfold laws_markStringS.dec at h
  obtain ⟨c1, r2, rfl, h1⟩ := uncons_some h
  obtain ⟨x3, l4, rfl, h2⟩ := uncons_some h1
  obtain ⟨d5, rfl, h3⟩ := cD_some h2
  obtain ⟨w0, rfl, h4⟩ := dInt_some h3
  obtain ⟨rfl, h5⟩ := atEnd_some h4
  obtain ⟨rfl, h6⟩ := atEnd_some h5
  obtain ⟨o6, u7, rfl, h7⟩ := uncons_some h6
  obtain ⟨c8, rfl, h8⟩ := outOwn_some h7
  obtain ⟨x9, l10, rfl, h9⟩ := uncons_some h8
  obtain ⟨w1, rfl, h10⟩ := cOwn_some h9
  obtain ⟨rfl, h11⟩ := atEnd_some h10
  obtain ⟨rfl, h12⟩ := atEnd_some h11
  simp only [Option.some.injEq, Prod.mk.injEq] at h12
  obtain ⟨rfl, rfl⟩ := h12
  exact ⟨rfl, rfl⟩
theorem laws_markStringS.ok (k : Nat) : EntryOK Try.prog 124 (laws_markStringS.e k) := by
  refine entry_of mix tyok (fn := Try.f124) (c := codeOf Try.f124) Try.func124 (by kernel_rfl) (h := laws_markStringS.h) (k := k) (E := laws_markStringS.E k) (env_cons (laws_markText.ok k) env_nil) (by kernel_rfl) (by kernel_rfl) rfl (enter_of Try.func124 (by kernel_rfl)) ?_
  intro β l K r hr
  simp only [laws_markStringS.e] at hr
  split at hr
  case h_2 => cases hr
  unfold laws_markStringS.f at hr
  split at hr
  case h_2 => cases hr
  rename_i hz
  exact ⟨_, _, hr, _, laws_markStringS.dec, _, (laws_markStringS.f_eq k _ _ laws_markStringS.dec).trans (by rw [laws_markStringS.kt_dec]; exact hz), fun rs os h ho => laws_markStringS.inj _ _ h ho⟩
/-! ### loop.example/g00119/laws.markValueS: function 153 -/
noncomputable def laws_markValueS.l0 {β : Type} (k : Nat) (r_laws_markValueS : (List (List C)) → Int → (Int → (List (List C)) → Option β) → Option β) (K : Int → (List (List C)) → Option β) (L0 : (Int × Int × (List (List C))) → Option β) (v : Int × Int × (List (List C))) : Option β :=
  match v with
  | (v0_0, v0_1, v0_2) => bif (decide ((v0_1 : Int) < (v0_2.length : Int))) then (guardP ((0 : Int) ≤ v0_1 ∧ v0_1 < (v0_2.length : Int)) (guardP (Int.toNat v0_1 < v0_2.length) (laws_markText.f k (IntKind.wrap .i64 (v0_0 + 1)) (fun y14 => guardP ((0 : Int) ≤ v0_1 ∧ v0_1 < ((v0_2.modify (Int.toNat v0_1) fun c => splice c 0 [.d (.int .i64 v0_0)]).length : Int)) (guardP (Int.toNat v0_1 < (v0_2.modify (Int.toNat v0_1) fun c => splice c 0 [.d (.int .i64 v0_0)]).length) (guardP ((0 : Int) ≤ v0_1 ∧ v0_1 < (((v0_2.modify (Int.toNat v0_1) fun c => splice c 0 [.d (.int .i64 v0_0)]).modify (Int.toNat v0_1) fun c => splice c 1 [.d (.str y14)]).length : Int)) (guardP (Int.toNat v0_1 < ((v0_2.modify (Int.toNat v0_1) fun c => splice c 0 [.d (.int .i64 v0_0)]).modify (Int.toNat v0_1) fun c => splice c 1 [.d (.str y14)]).length) (guardP ((0 : Int) ≤ v0_1 ∧ v0_1 < ((((v0_2.modify (Int.toNat v0_1) fun c => splice c 0 [.d (.int .i64 v0_0)]).modify (Int.toNat v0_1) fun c => splice c 1 [.d (.str y14)]).modify (Int.toNat v0_1) fun c => splice c 2 [.d (.int .i64 (IntKind.wrap .i64 ((IntKind.wrap .i64 (v0_0 + 1)) + 1)))]).length : Int)) (atNat (((v0_2.modify (Int.toNat v0_1) fun c => splice c 0 [.d (.int .i64 v0_0)]).modify (Int.toNat v0_1) fun c => splice c 1 [.d (.str y14)]).modify (Int.toNat v0_1) fun c => splice c 2 [.d (.int .i64 (IntKind.wrap .i64 ((IntKind.wrap .i64 (v0_0 + 1)) + 1)))]) (Int.toNat v0_1) fun c15 => uncons (c15.drop 3) fun c16 r17 => cOwn c16 fun y18 => laws_markStringS.f k y18 (IntKind.wrap .i64 ((IntKind.wrap .i64 ((IntKind.wrap .i64 (v0_0 + 1)) + 1)) + 1)) (fun y19 y20 => guardP ((0 : Int) ≤ v0_1 ∧ v0_1 < (((((v0_2.modify (Int.toNat v0_1) fun c => splice c 0 [.d (.int .i64 v0_0)]).modify (Int.toNat v0_1) fun c => splice c 1 [.d (.str y14)]).modify (Int.toNat v0_1) fun c => splice c 2 [.d (.int .i64 (IntKind.wrap .i64 ((IntKind.wrap .i64 (v0_0 + 1)) + 1)))]).modify (Int.toNat v0_1) fun r => r.set 3 (.own y20)).length : Int)) (atNat ((((v0_2.modify (Int.toNat v0_1) fun c => splice c 0 [.d (.int .i64 v0_0)]).modify (Int.toNat v0_1) fun c => splice c 1 [.d (.str y14)]).modify (Int.toNat v0_1) fun c => splice c 2 [.d (.int .i64 (IntKind.wrap .i64 ((IntKind.wrap .i64 (v0_0 + 1)) + 1)))]).modify (Int.toNat v0_1) fun r => r.set 3 (.own y20)) (Int.toNat v0_1) fun c21 => uncons (c21.drop 4) fun c22 r23 => cOwn c22 fun y24 => r_laws_markValueS y24 y19 (fun y25 y26 => L0 (y25, IntKind.wrap .i64 (v0_1 + 1), ((((v0_2.modify (Int.toNat v0_1) fun c => splice c 0 [.d (.int .i64 v0_0)]).modify (Int.toNat v0_1) fun c => splice c 1 [.d (.str y14)]).modify (Int.toNat v0_1) fun c => splice c 2 [.d (.int .i64 (IntKind.wrap .i64 ((IntKind.wrap .i64 (v0_0 + 1)) + 1)))]).modify (Int.toNat v0_1) fun r => r.set 3 (.own y20)).modify (Int.toNat v0_1) fun r => r.set 4 (.own y26)))))))))))))) else (K v0_0 v0_2)
noncomputable def laws_markValueS.body {β : Type} (k : Nat) (r_laws_markValueS : (List (List C)) → Int → (Int → (List (List C)) → Option β) → Option β) (a0 : List (List C)) (a1 : Int) (K : Int → (List (List C)) → Option β) : Option β :=
  iter (laws_markValueS.l0 k r_laws_markValueS K) k (a1, 0, a0)
noncomputable def laws_markValueS.w {β : Type} (r : (List (List C)) → Int → Option (Int × (List (List C)))) (a0 : List (List C)) (a1 : Int) (K : Int → (List (List C)) → Option β) : Option β :=
  match r a0 a1 with
  | some (z0, z1) => K z0 z1
  | none => none
noncomputable def laws_markValueS.all : Nat → ((List (List C)) → Int → Option (Int × (List (List C))))
  | 0 => (fun _ _ => none)
  | k + 1 => (fun r => (fun a0 a1 => laws_markValueS.body k (laws_markValueS.w r) a0 a1 (fun z0 z1 => some (z0, z1)))) (laws_markValueS.all k)
noncomputable def laws_markValueS.t (k : Nat) (a0 : List (List C)) (a1 : Int) : Option (Int × (List (List C))) := (laws_markValueS.all k) a0 a1
noncomputable def laws_markValueS.f {β : Type} (k : Nat) (a0 : List (List C)) (a1 : Int) (K : Int → (List (List C)) → Option β) : Option β := laws_markValueS.w (laws_markValueS.t k) a0 a1 K
noncomputable def laws_markValueS.g {β : Type} (k : Nat) (a0 : List (List C)) (a1 : Int) (K : Int → (List (List C)) → Option β) : Option β := laws_markValueS.body k (laws_markValueS.f k) a0 a1 K
theorem laws_markValueS.t_zero (a0 : List (List C)) (a1 : Int) : laws_markValueS.t 0 a0 a1 = none := rfl
theorem laws_markValueS.t_succ (k : Nat) (a0 : List (List C)) (a1 : Int) : laws_markValueS.t (k + 1) a0 a1 = laws_markValueS.g k a0 a1 (fun z0 z1 => some (z0, z1)) := rfl
noncomputable def laws_markValueS.as (a0 : List (List C)) (a1 : Int) : List A := [.own false [.own a0], .d (.int .i64 a1)]
noncomputable def laws_markValueS.kt {β : Type} (a0 : List (List C)) (a1 : Int) (K0 : List (List C) → List Out → Option β) : Int → (List (List C)) → Option β := fun z0 z1 => K0 [[.d (.int .i64 z0)]] [.own [.own z1]]
noncomputable def laws_markValueS.e (k : Nat) : Entry := { modes := [(.own, 149), (.imm, 0)], rts := [3], al := false, run := fun {β} l K => match l with | [.own false [.own a0], .d (.int .i64 a1)] => laws_markValueS.f k a0 a1 (laws_markValueS.kt a0 a1 K) | _ => none }
noncomputable def laws_markValueS.E (k : Nat) : Env := fun g => bif g == 152 then some (laws_markText.e k) else bif g == 124 then some (laws_markStringS.e k) else bif g == 153 then some (laws_markValueS.e k) else none
noncomputable def laws_markValueS.h : Hints := ⟨fun n => bif n == 2 then ⟨[(0, .asis), (1, .dat false), (5, .asis)], []⟩ else ⟨[], []⟩, fun _ => none, false, []⟩
noncomputable def laws_markValueS.s0 (v : Int × Int × (List (List C))) : St :=
  match v with
  | (v0_0, v0_1, v0_2) => ⟨[.row 0, .d false (.int .i64 v0_0), .any, .any, .any, .d true (.int .i64 v0_1), .any, .any, .any, .any, .any, .any, .any, .any, .any, .any, .any, .any, .any, .any, .any, .any, .any, .any, .any, .any, .any, .any, .any, .any, .any, .any, .any, .any, .any, .any, .any, .any, .any, .any, .any, .any, .any, .any, .any, .any, .any, .any, .any], [.row (some 0) false 149 v0_2]⟩
noncomputable def laws_markValueS.b0 {β : Type} (k : Nat) : St → (Ex → St → Option β) → Option β := fun s K => den Try.prog (laws_markValueS.E k) laws_markValueS.h.H laws_markValueS.h.J k (codeAt [1, 0, 1, 0, 0] (codeOf Try.f153)) s K
noncomputable def laws_markValueS.c0 {β : Type} (k : Nat) (a0 : List (List C)) (a1 : Int) (K0 : List (List C) → List Out → Option β) : Ex → St → Option β := contAt Try.prog (laws_markValueS.E k) laws_markValueS.h k [1, 0, 1, 0] (codeOf Try.f153) (finDen Try.prog Try.f153 laws_markValueS.h (laws_markValueS.as a0 a1) K0)
theorem laws_markValueS.l0_eq {β : Type} (k : Nat) (a0 : List (List C)) (a1 : Int) (K0 : List (List C) → List Out → Option β) : ∀ (kk : Nat) (v : Int × Int × (List (List C))), loopDen (laws_markValueS.b0 k) (laws_markValueS.h.H 2) kk (laws_markValueS.s0 v) (laws_markValueS.c0 k a0 a1 K0) = iter (laws_markValueS.l0 k (laws_markValueS.f k) (laws_markValueS.kt a0 a1 K0)) kk v :=
  loop_eq (laws_markValueS.s0) _ (fun L0 v => by obtain ⟨v0_0, v0_1, v0_2⟩ := v; kernel_rfl)
noncomputable def laws_markValueS.m {β : Type} (k : Nat) (a0 : List (List C)) (a1 : Int) (K0 : List (List C) → List Out → Option β) (F : ((Int × Int × (List (List C))) → Option β)) : Option β :=
  (F) (a1, 0, a0)
theorem laws_markValueS.f_eq {β : Type} (k : Nat) (a0 : List (List C)) (a1 : Int) (K0 : List (List C) → List Out → Option β) : funDen Try.prog (laws_markValueS.E k) laws_markValueS.h k Try.f153 (laws_markValueS.as a0 a1) K0 = laws_markValueS.g k a0 a1 (laws_markValueS.kt a0 a1 K0) := Eq.trans (b := (laws_markValueS.m k a0 a1 K0) (fun (v : Int × Int × (List (List C))) => loopDen (laws_markValueS.b0 k) (laws_markValueS.h.H 2) k (laws_markValueS.s0 v) (laws_markValueS.c0 k a0 a1 K0))) (by kernel_rfl) (Eq.trans (congrArg (laws_markValueS.m k a0 a1 K0) (funext fun v => laws_markValueS.l0_eq k a0 a1 K0 k v)) (by kernel_rfl))
noncomputable def laws_markValueS.dec (rs : List (List C)) (os : List Out) : Option (Int × (List (List C))) := uncons rs fun c1 r2 => uncons c1 fun x3 l4 => cD x3 fun d5 => dInt .i64 d5 fun w0 => atEnd l4 <| atEnd r2 <| uncons os fun o6 u7 => outOwn o6 fun c8 => uncons c8 fun x9 l10 => cOwn x9 fun w1 => atEnd l10 <| atEnd u7 (some (w0, w1))
theorem laws_markValueS.kt_dec (a0 : List (List C)) (a1 : Int) : laws_markValueS.kt a0 a1 laws_markValueS.dec = (fun z0 z1 => some (z0, z1)) := by kernel_rfl
theorem laws_markValueS.inj (a0 : List (List C)) (a1 : Int) {rs : List (List C)} {os : List Out} {z0 : Int} {z1 : List (List C)} (h : laws_markValueS.dec rs os = some (z0, z1)) (ho : OutShape (laws_markValueS.as a0 a1) os) : rs = [[.d (.int .i64 z0)]] ∧ os = [.own [.own z1]] := by
  unfold laws_markValueS.dec at h
  obtain ⟨c1, r2, rfl, h1⟩ := uncons_some h
  obtain ⟨x3, l4, rfl, h2⟩ := uncons_some h1
  obtain ⟨d5, rfl, h3⟩ := cD_some h2
  obtain ⟨w0, rfl, h4⟩ := dInt_some h3
  obtain ⟨rfl, h5⟩ := atEnd_some h4
  obtain ⟨rfl, h6⟩ := atEnd_some h5
  obtain ⟨o6, u7, rfl, h7⟩ := uncons_some h6
  obtain ⟨c8, rfl, h8⟩ := outOwn_some h7
  obtain ⟨x9, l10, rfl, h9⟩ := uncons_some h8
  obtain ⟨w1, rfl, h10⟩ := cOwn_some h9
  obtain ⟨rfl, h11⟩ := atEnd_some h10
  obtain ⟨rfl, h12⟩ := atEnd_some h11
  simp only [Option.some.injEq, Prod.mk.injEq] at h12
  obtain ⟨rfl, rfl⟩ := h12
  exact ⟨rfl, rfl⟩
theorem laws_markValueS.oks (k : Nat) : EntryOK Try.prog 153 (laws_markValueS.e k) := by
  induction k with
  | zero =>
    refine ?_
    · exact entry_zero (enter_of Try.func153 (by kernel_rfl)) fun β l K r h => by
        simp only [laws_markValueS.e] at h
        split at h
        · unfold laws_markValueS.f at h
          unfold laws_markValueS.w at h
          rw [laws_markValueS.t_zero] at h
          cases h
        · cases h
  | succ k ih =>
    refine ?_
    · refine entry_of mix tyok (fn := Try.f153) (c := codeOf Try.f153) Try.func153 (by kernel_rfl) (h := laws_markValueS.h) (k := k) (E := laws_markValueS.E k) (env_cons (laws_markText.ok k) (env_cons (laws_markStringS.ok k) (env_cons ih env_nil))) (by kernel_rfl) (by kernel_rfl) rfl (enter_of Try.func153 (by kernel_rfl)) ?_
      intro β l K r hr
      simp only [laws_markValueS.e] at hr
      split at hr
      case h_2 => cases hr
      unfold laws_markValueS.f at hr
      unfold laws_markValueS.w at hr
      split at hr
      case h_2 => cases hr
      rename_i hz
      exact ⟨_, _, hr, _, laws_markValueS.dec, _, (laws_markValueS.f_eq k _ _ laws_markValueS.dec).trans (by rw [laws_markValueS.kt_dec]; exact hz), fun rs os h ho => laws_markValueS.inj _ _ h ho⟩
theorem laws_markValueS.ok (k : Nat) : EntryOK Try.prog 153 (laws_markValueS.e k) := (laws_markValueS.oks k)
/-! ### loop.example/g00119/laws.markWorkS: function 94 -/
set_option maxRecDepth 100000 in
noncomputable def laws_markWorkS.l0 {β : Type} (k : Nat) (K : Int → (List (List C)) → Option β) (L0 : (Int × Int × (List (List C))) → Option β) (v : Int × Int × (List (List C))) : Option β :=
  match v with
  | (v0_0, v0_1, v0_2) => bif (decide ((v0_1 : Int) < (v0_2.length : Int))) then (guardP ((0 : Int) ≤ v0_1 ∧ v0_1 < (v0_2.length : Int)) (guardP (Int.toNat v0_1 < v0_2.length) (guardP ((0 : Int) ≤ v0_1 ∧ v0_1 < ((v0_2.modify (Int.toNat v0_1) fun c => splice c 0 [.d (.int .i64 v0_0)]).length : Int)) (guardP (Int.toNat v0_1 < (v0_2.modify (Int.toNat v0_1) fun c => splice c 0 [.d (.int .i64 v0_0)]).length) (guardP ((0 : Int) ≤ v0_1 ∧ v0_1 < (((v0_2.modify (Int.toNat v0_1) fun c => splice c 0 [.d (.int .i64 v0_0)]).modify (Int.toNat v0_1) fun c => splice c 1 [.d (.int .i64 (IntKind.wrap .i64 (v0_0 + 1)))]).length : Int)) (guardP (Int.toNat v0_1 < ((v0_2.modify (Int.toNat v0_1) fun c => splice c 0 [.d (.int .i64 v0_0)]).modify (Int.toNat v0_1) fun c => splice c 1 [.d (.int .i64 (IntKind.wrap .i64 (v0_0 + 1)))]).length) (laws_markText.f k (IntKind.wrap .i64 ((IntKind.wrap .i64 ((IntKind.wrap .i64 (v0_0 + 1)) + 1)) + 1)) (fun y14 => guardP ((0 : Int) ≤ v0_1 ∧ v0_1 < ((((v0_2.modify (Int.toNat v0_1) fun c => splice c 0 [.d (.int .i64 v0_0)]).modify (Int.toNat v0_1) fun c => splice c 1 [.d (.int .i64 (IntKind.wrap .i64 (v0_0 + 1)))]).modify (Int.toNat v0_1) fun c => splice c 2 [.d (.int .i64 (IntKind.wrap .i64 ((IntKind.wrap .i64 (v0_0 + 1)) + 1)))]).length : Int)) (guardP (Int.toNat v0_1 < (((v0_2.modify (Int.toNat v0_1) fun c => splice c 0 [.d (.int .i64 v0_0)]).modify (Int.toNat v0_1) fun c => splice c 1 [.d (.int .i64 (IntKind.wrap .i64 (v0_0 + 1)))]).modify (Int.toNat v0_1) fun c => splice c 2 [.d (.int .i64 (IntKind.wrap .i64 ((IntKind.wrap .i64 (v0_0 + 1)) + 1)))]).length) (guardP ((0 : Int) ≤ v0_1 ∧ v0_1 < (((((v0_2.modify (Int.toNat v0_1) fun c => splice c 0 [.d (.int .i64 v0_0)]).modify (Int.toNat v0_1) fun c => splice c 1 [.d (.int .i64 (IntKind.wrap .i64 (v0_0 + 1)))]).modify (Int.toNat v0_1) fun c => splice c 2 [.d (.int .i64 (IntKind.wrap .i64 ((IntKind.wrap .i64 (v0_0 + 1)) + 1)))]).modify (Int.toNat v0_1) fun c => splice c 3 [.d (.str y14)]).length : Int)) (guardP (Int.toNat v0_1 < ((((v0_2.modify (Int.toNat v0_1) fun c => splice c 0 [.d (.int .i64 v0_0)]).modify (Int.toNat v0_1) fun c => splice c 1 [.d (.int .i64 (IntKind.wrap .i64 (v0_0 + 1)))]).modify (Int.toNat v0_1) fun c => splice c 2 [.d (.int .i64 (IntKind.wrap .i64 ((IntKind.wrap .i64 (v0_0 + 1)) + 1)))]).modify (Int.toNat v0_1) fun c => splice c 3 [.d (.str y14)]).length) (guardP ((0 : Int) ≤ v0_1 ∧ v0_1 < ((((((v0_2.modify (Int.toNat v0_1) fun c => splice c 0 [.d (.int .i64 v0_0)]).modify (Int.toNat v0_1) fun c => splice c 1 [.d (.int .i64 (IntKind.wrap .i64 (v0_0 + 1)))]).modify (Int.toNat v0_1) fun c => splice c 2 [.d (.int .i64 (IntKind.wrap .i64 ((IntKind.wrap .i64 (v0_0 + 1)) + 1)))]).modify (Int.toNat v0_1) fun c => splice c 3 [.d (.str y14)]).modify (Int.toNat v0_1) fun c => splice c 4 [.d (.int .i64 (IntKind.wrap .i64 ((IntKind.wrap .i64 ((IntKind.wrap .i64 ((IntKind.wrap .i64 (v0_0 + 1)) + 1)) + 1)) + 1)))]).length : Int)) (atNat (((((v0_2.modify (Int.toNat v0_1) fun c => splice c 0 [.d (.int .i64 v0_0)]).modify (Int.toNat v0_1) fun c => splice c 1 [.d (.int .i64 (IntKind.wrap .i64 (v0_0 + 1)))]).modify (Int.toNat v0_1) fun c => splice c 2 [.d (.int .i64 (IntKind.wrap .i64 ((IntKind.wrap .i64 (v0_0 + 1)) + 1)))]).modify (Int.toNat v0_1) fun c => splice c 3 [.d (.str y14)]).modify (Int.toNat v0_1) fun c => splice c 4 [.d (.int .i64 (IntKind.wrap .i64 ((IntKind.wrap .i64 ((IntKind.wrap .i64 ((IntKind.wrap .i64 (v0_0 + 1)) + 1)) + 1)) + 1)))]) (Int.toNat v0_1) fun c15 => uncons (c15.drop 5) fun c16 r17 => cOwn c16 fun y18 => laws_markStringS.f k y18 (IntKind.wrap .i64 ((IntKind.wrap .i64 ((IntKind.wrap .i64 ((IntKind.wrap .i64 ((IntKind.wrap .i64 (v0_0 + 1)) + 1)) + 1)) + 1)) + 1)) (fun y19 y20 => guardP ((0 : Int) ≤ v0_1 ∧ v0_1 < (((((((v0_2.modify (Int.toNat v0_1) fun c => splice c 0 [.d (.int .i64 v0_0)]).modify (Int.toNat v0_1) fun c => splice c 1 [.d (.int .i64 (IntKind.wrap .i64 (v0_0 + 1)))]).modify (Int.toNat v0_1) fun c => splice c 2 [.d (.int .i64 (IntKind.wrap .i64 ((IntKind.wrap .i64 (v0_0 + 1)) + 1)))]).modify (Int.toNat v0_1) fun c => splice c 3 [.d (.str y14)]).modify (Int.toNat v0_1) fun c => splice c 4 [.d (.int .i64 (IntKind.wrap .i64 ((IntKind.wrap .i64 ((IntKind.wrap .i64 ((IntKind.wrap .i64 (v0_0 + 1)) + 1)) + 1)) + 1)))]).modify (Int.toNat v0_1) fun r => r.set 5 (.own y20)).length : Int)) (atNat ((((((v0_2.modify (Int.toNat v0_1) fun c => splice c 0 [.d (.int .i64 v0_0)]).modify (Int.toNat v0_1) fun c => splice c 1 [.d (.int .i64 (IntKind.wrap .i64 (v0_0 + 1)))]).modify (Int.toNat v0_1) fun c => splice c 2 [.d (.int .i64 (IntKind.wrap .i64 ((IntKind.wrap .i64 (v0_0 + 1)) + 1)))]).modify (Int.toNat v0_1) fun c => splice c 3 [.d (.str y14)]).modify (Int.toNat v0_1) fun c => splice c 4 [.d (.int .i64 (IntKind.wrap .i64 ((IntKind.wrap .i64 ((IntKind.wrap .i64 ((IntKind.wrap .i64 (v0_0 + 1)) + 1)) + 1)) + 1)))]).modify (Int.toNat v0_1) fun r => r.set 5 (.own y20)) (Int.toNat v0_1) fun c21 => uncons (c21.drop 6) fun c22 r23 => cOwn c22 fun y24 => laws_markValueS.f k y24 y19 (fun y25 y26 => L0 (y25, IntKind.wrap .i64 (v0_1 + 1), ((((((v0_2.modify (Int.toNat v0_1) fun c => splice c 0 [.d (.int .i64 v0_0)]).modify (Int.toNat v0_1) fun c => splice c 1 [.d (.int .i64 (IntKind.wrap .i64 (v0_0 + 1)))]).modify (Int.toNat v0_1) fun c => splice c 2 [.d (.int .i64 (IntKind.wrap .i64 ((IntKind.wrap .i64 (v0_0 + 1)) + 1)))]).modify (Int.toNat v0_1) fun c => splice c 3 [.d (.str y14)]).modify (Int.toNat v0_1) fun c => splice c 4 [.d (.int .i64 (IntKind.wrap .i64 ((IntKind.wrap .i64 ((IntKind.wrap .i64 ((IntKind.wrap .i64 (v0_0 + 1)) + 1)) + 1)) + 1)))]).modify (Int.toNat v0_1) fun r => r.set 5 (.own y20)).modify (Int.toNat v0_1) fun r => r.set 6 (.own y26)))))))))))))))))) else (K v0_0 v0_2)
noncomputable def laws_markWorkS.g {β : Type} (k : Nat) (a0 : List (List C)) (a1 : Int) (K : Int → (List (List C)) → Option β) : Option β :=
  iter (laws_markWorkS.l0 k K) k (a1, 0, a0)
noncomputable def laws_markWorkS.t (k : Nat) (a0 : List (List C)) (a1 : Int) : Option (Int × (List (List C))) := laws_markWorkS.g k a0 a1 (fun z0 z1 => some (z0, z1))
noncomputable def laws_markWorkS.f {β : Type} (k : Nat) (a0 : List (List C)) (a1 : Int) (K : Int → (List (List C)) → Option β) : Option β :=
  match laws_markWorkS.t k a0 a1 with
  | some (z0, z1) => K z0 z1
  | none => none
noncomputable def laws_markWorkS.as (a0 : List (List C)) (a1 : Int) : List A := [.own false [.own a0], .d (.int .i64 a1)]
noncomputable def laws_markWorkS.kt {β : Type} (a0 : List (List C)) (a1 : Int) (K0 : List (List C) → List Out → Option β) : Int → (List (List C)) → Option β := fun z0 z1 => K0 [[.d (.int .i64 z0)]] [.own [.own z1]]
noncomputable def laws_markWorkS.e (k : Nat) : Entry := { modes := [(.own, 59), (.imm, 0)], rts := [3], al := false, run := fun {β} l K => match l with | [.own false [.own a0], .d (.int .i64 a1)] => laws_markWorkS.f k a0 a1 (laws_markWorkS.kt a0 a1 K) | _ => none }
noncomputable def laws_markWorkS.E (k : Nat) : Env := fun g => bif g == 152 then some (laws_markText.e k) else bif g == 124 then some (laws_markStringS.e k) else bif g == 153 then some (laws_markValueS.e k) else none
noncomputable def laws_markWorkS.h : Hints := ⟨fun n => bif n == 2 then ⟨[(0, .asis), (1, .dat false), (5, .asis)], []⟩ else ⟨[], []⟩, fun _ => none, false, []⟩
noncomputable def laws_markWorkS.s0 (v : Int × Int × (List (List C))) : St :=
  match v with
  | (v0_0, v0_1, v0_2) => ⟨[.row 0, .d false (.int .i64 v0_0), .any, .any, .any, .d true (.int .i64 v0_1), .any, .any, .any, .any, .any, .any, .any, .any, .any, .any, .any, .any, .any, .any, .any, .any, .any, .any, .any, .any, .any, .any, .any, .any, .any, .any, .any, .any, .any, .any, .any, .any, .any, .any, .any, .any, .any, .any, .any, .any, .any, .any, .any, .any, .any, .any, .any, .any, .any, .any, .any, .any, .any, .any, .any, .any, .any, .any, .any, .any, .any, .any], [.row (some 0) false 59 v0_2]⟩
noncomputable def laws_markWorkS.b0 {β : Type} (k : Nat) : St → (Ex → St → Option β) → Option β := fun s K => den Try.prog (laws_markWorkS.E k) laws_markWorkS.h.H laws_markWorkS.h.J k (codeAt [1, 0, 1, 0, 0] (codeOf Try.f94)) s K
noncomputable def laws_markWorkS.c0 {β : Type} (k : Nat) (a0 : List (List C)) (a1 : Int) (K0 : List (List C) → List Out → Option β) : Ex → St → Option β := contAt Try.prog (laws_markWorkS.E k) laws_markWorkS.h k [1, 0, 1, 0] (codeOf Try.f94) (finDen Try.prog Try.f94 laws_markWorkS.h (laws_markWorkS.as a0 a1) K0)
theorem laws_markWorkS.l0_eq {β : Type} (k : Nat) (a0 : List (List C)) (a1 : Int) (K0 : List (List C) → List Out → Option β) : ∀ (kk : Nat) (v : Int × Int × (List (List C))), loopDen (laws_markWorkS.b0 k) (laws_markWorkS.h.H 2) kk (laws_markWorkS.s0 v) (laws_markWorkS.c0 k a0 a1 K0) = iter (laws_markWorkS.l0 k (laws_markWorkS.kt a0 a1 K0)) kk v :=
  loop_eq (laws_markWorkS.s0) _ (fun L0 v => by obtain ⟨v0_0, v0_1, v0_2⟩ := v; kernel_rfl)
noncomputable def laws_markWorkS.m {β : Type} (k : Nat) (a0 : List (List C)) (a1 : Int) (K0 : List (List C) → List Out → Option β) (F : ((Int × Int × (List (List C))) → Option β)) : Option β :=
  (F) (a1, 0, a0)
theorem laws_markWorkS.f_eq {β : Type} (k : Nat) (a0 : List (List C)) (a1 : Int) (K0 : List (List C) → List Out → Option β) : funDen Try.prog (laws_markWorkS.E k) laws_markWorkS.h k Try.f94 (laws_markWorkS.as a0 a1) K0 = laws_markWorkS.g k a0 a1 (laws_markWorkS.kt a0 a1 K0) := Eq.trans (b := (laws_markWorkS.m k a0 a1 K0) (fun (v : Int × Int × (List (List C))) => loopDen (laws_markWorkS.b0 k) (laws_markWorkS.h.H 2) k (laws_markWorkS.s0 v) (laws_markWorkS.c0 k a0 a1 K0))) (by kernel_rfl) (Eq.trans (congrArg (laws_markWorkS.m k a0 a1 K0) (funext fun v => laws_markWorkS.l0_eq k a0 a1 K0 k v)) (by kernel_rfl))
noncomputable def laws_markWorkS.dec (rs : List (List C)) (os : List Out) : Option (Int × (List (List C))) := uncons rs fun c1 r2 => uncons c1 fun x3 l4 => cD x3 fun d5 => dInt .i64 d5 fun w0 => atEnd l4 <| atEnd r2 <| uncons os fun o6 u7 => outOwn o6 fun c8 => uncons c8 fun x9 l10 => cOwn x9 fun w1 => atEnd l10 <| atEnd u7 (some (w0, w1))
theorem laws_markWorkS.kt_dec (a0 : List (List C)) (a1 : Int) : laws_markWorkS.kt a0 a1 laws_markWorkS.dec = (fun z0 z1 => some (z0, z1)) := by kernel_rfl
theorem laws_markWorkS.inj (a0 : List (List C)) (a1 : Int) {rs : List (List C)} {os : List Out} {z0 : Int} {z1 : List (List C)} (h : laws_markWorkS.dec rs os = some (z0, z1)) (ho : OutShape (laws_markWorkS.as a0 a1) os) : rs = [[.d (.int .i64 z0)]] ∧ os = [.own [.own z1]] := by
  unfold laws_markWorkS.dec at h
  obtain ⟨c1, r2, rfl, h1⟩ := uncons_some h
  obtain ⟨x3, l4, rfl, h2⟩ := uncons_some h1
  obtain ⟨d5, rfl, h3⟩ := cD_some h2
  obtain ⟨w0, rfl, h4⟩ := dInt_some h3
  obtain ⟨rfl, h5⟩ := atEnd_some h4
  obtain ⟨rfl, h6⟩ := atEnd_some h5
  obtain ⟨o6, u7, rfl, h7⟩ := uncons_some h6
  obtain ⟨c8, rfl, h8⟩ := outOwn_some h7
  obtain ⟨x9, l10, rfl, h9⟩ := uncons_some h8
  obtain ⟨w1, rfl, h10⟩ := cOwn_some h9
  obtain ⟨rfl, h11⟩ := atEnd_some h10
  obtain ⟨rfl, h12⟩ := atEnd_some h11
  simp only [Option.some.injEq, Prod.mk.injEq] at h12
  obtain ⟨rfl, rfl⟩ := h12
  exact ⟨rfl, rfl⟩
theorem laws_markWorkS.ok (k : Nat) : EntryOK Try.prog 94 (laws_markWorkS.e k) := by
  refine entry_of mix tyok (fn := Try.f94) (c := codeOf Try.f94) Try.func94 (by kernel_rfl) (h := laws_markWorkS.h) (k := k) (E := laws_markWorkS.E k) (env_cons (laws_markText.ok k) (env_cons (laws_markStringS.ok k) (env_cons (laws_markValueS.ok k) env_nil))) (by kernel_rfl) (by kernel_rfl) rfl (enter_of Try.func94 (by kernel_rfl)) ?_
  intro β l K r hr
  simp only [laws_markWorkS.e] at hr
  split at hr
  case h_2 => cases hr
  unfold laws_markWorkS.f at hr
  split at hr
  case h_2 => cases hr
  rename_i hz
  exact ⟨_, _, hr, _, laws_markWorkS.dec, _, (laws_markWorkS.f_eq k _ _ laws_markWorkS.dec).trans (by rw [laws_markWorkS.kt_dec]; exact hz), fun rs os h ho => laws_markWorkS.inj _ _ h ho⟩
/-! ### loop.example/g00119/laws.markRunS: function 95 -/
noncomputable def laws_markRunS.l0 {β : Type} (k : Nat) (K : Int → (List (List C)) → Option β) (L0 : (Int × Int × (List (List C))) → Option β) (v : Int × Int × (List (List C))) : Option β :=
  match v with
  | (v0_0, v0_1, v0_2) => bif (decide ((v0_1 : Int) < (v0_2.length : Int))) then (guardP ((0 : Int) ≤ v0_1 ∧ v0_1 < (v0_2.length : Int)) (guardP (Int.toNat v0_1 < v0_2.length) (guardP ((0 : Int) ≤ v0_1 ∧ v0_1 < ((v0_2.modify (Int.toNat v0_1) fun c => splice c 0 [.d (.int .i64 v0_0)]).length : Int)) (guardP (Int.toNat v0_1 < (v0_2.modify (Int.toNat v0_1) fun c => splice c 0 [.d (.int .i64 v0_0)]).length) (L0 (IntKind.wrap .i64 ((IntKind.wrap .i64 (v0_0 + 1)) + 1), IntKind.wrap .i64 (v0_1 + 1), (v0_2.modify (Int.toNat v0_1) fun c => splice c 0 [.d (.int .i64 v0_0)]).modify (Int.toNat v0_1) fun c => splice c 1 [.d (.int .i64 (IntKind.wrap .i64 (v0_0 + 1)))])))))) else (K v0_0 v0_2)
noncomputable def laws_markRunS.g {β : Type} (k : Nat) (a0 : List (List C)) (a1 : Int) (K : Int → (List (List C)) → Option β) : Option β :=
  iter (laws_markRunS.l0 k K) k (a1, 0, a0)
noncomputable def laws_markRunS.t (k : Nat) (a0 : List (List C)) (a1 : Int) : Option (Int × (List (List C))) := laws_markRunS.g k a0 a1 (fun z0 z1 => some (z0, z1))
noncomputable def laws_markRunS.f {β : Type} (k : Nat) (a0 : List (List C)) (a1 : Int) (K : Int → (List (List C)) → Option β) : Option β :=
  match laws_markRunS.t k a0 a1 with
  | some (z0, z1) => K z0 z1
  | none => none
noncomputable def laws_markRunS.as (a0 : List (List C)) (a1 : Int) : List A := [.own false [.own a0], .d (.int .i64 a1)]
noncomputable def laws_markRunS.kt {β : Type} (a0 : List (List C)) (a1 : Int) (K0 : List (List C) → List Out → Option β) : Int → (List (List C)) → Option β := fun z0 z1 => K0 [[.d (.int .i64 z0)]] [.own [.own z1]]
noncomputable def laws_markRunS.e (k : Nat) : Entry := { modes := [(.own, 60), (.imm, 0)], rts := [3], al := false, run := fun {β} l K => match l with | [.own false [.own a0], .d (.int .i64 a1)] => laws_markRunS.f k a0 a1 (laws_markRunS.kt a0 a1 K) | _ => none }
noncomputable def laws_markRunS.E (k : Nat) : Env := fun g => none
noncomputable def laws_markRunS.h : Hints := ⟨fun n => bif n == 2 then ⟨[(0, .asis), (1, .dat false), (5, .asis)], []⟩ else ⟨[], []⟩, fun _ => none, false, []⟩
noncomputable def laws_markRunS.s0 (v : Int × Int × (List (List C))) : St :=
  match v with
  | (v0_0, v0_1, v0_2) => ⟨[.row 0, .d false (.int .i64 v0_0), .any, .any, .any, .d true (.int .i64 v0_1), .any, .any, .any, .any, .any, .any, .any, .any, .any, .any, .any, .any, .any, .any, .any, .any, .any, .any, .any, .any, .any], [.row (some 0) false 60 v0_2]⟩
noncomputable def laws_markRunS.b0 {β : Type} (k : Nat) : St → (Ex → St → Option β) → Option β := fun s K => den Try.prog (laws_markRunS.E k) laws_markRunS.h.H laws_markRunS.h.J k (codeAt [1, 0, 1, 0, 0] (codeOf Try.f95)) s K
noncomputable def laws_markRunS.c0 {β : Type} (k : Nat) (a0 : List (List C)) (a1 : Int) (K0 : List (List C) → List Out → Option β) : Ex → St → Option β := contAt Try.prog (laws_markRunS.E k) laws_markRunS.h k [1, 0, 1, 0] (codeOf Try.f95) (finDen Try.prog Try.f95 laws_markRunS.h (laws_markRunS.as a0 a1) K0)
theorem laws_markRunS.l0_eq {β : Type} (k : Nat) (a0 : List (List C)) (a1 : Int) (K0 : List (List C) → List Out → Option β) : ∀ (kk : Nat) (v : Int × Int × (List (List C))), loopDen (laws_markRunS.b0 k) (laws_markRunS.h.H 2) kk (laws_markRunS.s0 v) (laws_markRunS.c0 k a0 a1 K0) = iter (laws_markRunS.l0 k (laws_markRunS.kt a0 a1 K0)) kk v :=
  loop_eq (laws_markRunS.s0) _ (fun L0 v => by obtain ⟨v0_0, v0_1, v0_2⟩ := v; kernel_rfl)
noncomputable def laws_markRunS.m {β : Type} (k : Nat) (a0 : List (List C)) (a1 : Int) (K0 : List (List C) → List Out → Option β) (F : ((Int × Int × (List (List C))) → Option β)) : Option β :=
  (F) (a1, 0, a0)
theorem laws_markRunS.f_eq {β : Type} (k : Nat) (a0 : List (List C)) (a1 : Int) (K0 : List (List C) → List Out → Option β) : funDen Try.prog (laws_markRunS.E k) laws_markRunS.h k Try.f95 (laws_markRunS.as a0 a1) K0 = laws_markRunS.g k a0 a1 (laws_markRunS.kt a0 a1 K0) := Eq.trans (b := (laws_markRunS.m k a0 a1 K0) (fun (v : Int × Int × (List (List C))) => loopDen (laws_markRunS.b0 k) (laws_markRunS.h.H 2) k (laws_markRunS.s0 v) (laws_markRunS.c0 k a0 a1 K0))) (by kernel_rfl) (Eq.trans (congrArg (laws_markRunS.m k a0 a1 K0) (funext fun v => laws_markRunS.l0_eq k a0 a1 K0 k v)) (by kernel_rfl))
noncomputable def laws_markRunS.dec (rs : List (List C)) (os : List Out) : Option (Int × (List (List C))) := uncons rs fun c1 r2 => uncons c1 fun x3 l4 => cD x3 fun d5 => dInt .i64 d5 fun w0 => atEnd l4 <| atEnd r2 <| uncons os fun o6 u7 => outOwn o6 fun c8 => uncons c8 fun x9 l10 => cOwn x9 fun w1 => atEnd l10 <| atEnd u7 (some (w0, w1))
theorem laws_markRunS.kt_dec (a0 : List (List C)) (a1 : Int) : laws_markRunS.kt a0 a1 laws_markRunS.dec = (fun z0 z1 => some (z0, z1)) := by kernel_rfl
theorem laws_markRunS.inj (a0 : List (List C)) (a1 : Int) {rs : List (List C)} {os : List Out} {z0 : Int} {z1 : List (List C)} (h : laws_markRunS.dec rs os = some (z0, z1)) (ho : OutShape (laws_markRunS.as a0 a1) os) : rs = [[.d (.int .i64 z0)]] ∧ os = [.own [.own z1]] := by
  unfold laws_markRunS.dec at h
  obtain ⟨c1, r2, rfl, h1⟩ := uncons_some h
  obtain ⟨x3, l4, rfl, h2⟩ := uncons_some h1
  obtain ⟨d5, rfl, h3⟩ := cD_some h2
  obtain ⟨w0, rfl, h4⟩ := dInt_some h3
  obtain ⟨rfl, h5⟩ := atEnd_some h4
  obtain ⟨rfl, h6⟩ := atEnd_some h5
  obtain ⟨o6, u7, rfl, h7⟩ := uncons_some h6
  obtain ⟨c8, rfl, h8⟩ := outOwn_some h7
  obtain ⟨x9, l10, rfl, h9⟩ := uncons_some h8
  obtain ⟨w1, rfl, h10⟩ := cOwn_some h9
  obtain ⟨rfl, h11⟩ := atEnd_some h10
  obtain ⟨rfl, h12⟩ := atEnd_some h11
  simp only [Option.some.injEq, Prod.mk.injEq] at h12
  obtain ⟨rfl, rfl⟩ := h12
  exact ⟨rfl, rfl⟩
theorem laws_markRunS.ok (k : Nat) : EntryOK Try.prog 95 (laws_markRunS.e k) := by
  refine entry_of mix tyok (fn := Try.f95) (c := codeOf Try.f95) Try.func95 (by kernel_rfl) (h := laws_markRunS.h) (k := k) (E := laws_markRunS.E k) env_nil (by kernel_rfl) (by kernel_rfl) rfl (enter_of Try.func95 (by kernel_rfl)) ?_
  intro β l K r hr
  simp only [laws_markRunS.e] at hr
  split at hr
  case h_2 => cases hr
  unfold laws_markRunS.f at hr
  split at hr
  case h_2 => cases hr
  rename_i hz
  exact ⟨_, _, hr, _, laws_markRunS.dec, _, (laws_markRunS.f_eq k _ _ laws_markRunS.dec).trans (by rw [laws_markRunS.kt_dec]; exact hz), fun rs os h ho => laws_markRunS.inj _ _ h ho⟩
/-! ### loop.example/g00119/laws.markIsle: function 35 -/
noncomputable def laws_markIsle.g {β : Type} (k : Nat) (a0_0 : ByteArray) (a0_1 : Int) (a0_2 : Int) (a0_3 : List (List C)) (a0_4 : List (List C)) (a1 : Int) (K : Int → (List (List C)) → (List (List C)) → Option β) : Option β :=
  laws_markWorkS.f k a0_3 a1 (fun y27 y28 => guardP (y28.length = a0_3.length) (laws_markRunS.f k a0_4 y27 (fun y29 y30 => guardP (y30.length = a0_4.length) (K y29 y28 y30))))
noncomputable def laws_markIsle.t (k : Nat) (a0_0 : ByteArray) (a0_1 : Int) (a0_2 : Int) (a0_3 : List (List C)) (a0_4 : List (List C)) (a1 : Int) : Option (Int × (List (List C)) × (List (List C))) := laws_markIsle.g k a0_0 a0_1 a0_2 a0_3 a0_4 a1 (fun z0 z1 z2 => some (z0, z1, z2))
noncomputable def laws_markIsle.f {β : Type} (k : Nat) (a0_0 : ByteArray) (a0_1 : Int) (a0_2 : Int) (a0_3 : List (List C)) (a0_4 : List (List C)) (a1 : Int) (K : Int → (List (List C)) → (List (List C)) → Option β) : Option β :=
  match laws_markIsle.t k a0_0 a0_1 a0_2 a0_3 a0_4 a1 with
  | some (z0, z1, z2) => K z0 z1 z2
  | none => none
noncomputable def laws_markIsle.as (a0_0 : ByteArray) (a0_1 : Int) (a0_2 : Int) (a0_3 : List (List C)) (a0_4 : List (List C)) (a1 : Int) : List A := [.own true [.d (.str a0_0), .d (.int .i64 a0_1), .d (.int .i64 a0_2), .own a0_3, .own a0_4], .d (.int .i64 a1)]
noncomputable def laws_markIsle.kt {β : Type} (a0_0 : ByteArray) (a0_1 : Int) (a0_2 : Int) (a0_3 : List (List C)) (a0_4 : List (List C)) (a1 : Int) (K0 : List (List C) → List Out → Option β) : Int → (List (List C)) → (List (List C)) → Option β := fun z0 z1 z2 => K0 [[.d (.int .i64 z0)]] [.own [.d (.str a0_0), .d (.int .i64 a0_1), .d (.int .i64 a0_2), .own z1, .own z2]]
noncomputable def laws_markIsle.e (k : Nat) : Entry := { modes := [(.own, 62), (.imm, 0)], rts := [3], al := false, run := fun {β} l K => match l with | [.own true [.d (.str a0_0), .d (.int .i64 a0_1), .d (.int .i64 a0_2), .own a0_3, .own a0_4], .d (.int .i64 a1)] => laws_markIsle.f k a0_0 a0_1 a0_2 a0_3 a0_4 a1 (laws_markIsle.kt a0_0 a0_1 a0_2 a0_3 a0_4 a1 K) | _ => none }
noncomputable def laws_markIsle.E (k : Nat) : Env := fun g => bif g == 94 then some (laws_markWorkS.e k) else bif g == 95 then some (laws_markRunS.e k) else none
noncomputable def laws_markIsle.h : Hints := ⟨fun n => ⟨[], []⟩, fun _ => none, false, []⟩
theorem laws_markIsle.f_eq {β : Type} (k : Nat) (a0_0 : ByteArray) (a0_1 : Int) (a0_2 : Int) (a0_3 : List (List C)) (a0_4 : List (List C)) (a1 : Int) (K0 : List (List C) → List Out → Option β) : funDen Try.prog (laws_markIsle.E k) laws_markIsle.h k Try.f35 (laws_markIsle.as a0_0 a0_1 a0_2 a0_3 a0_4 a1) K0 = laws_markIsle.g k a0_0 a0_1 a0_2 a0_3 a0_4 a1 (laws_markIsle.kt a0_0 a0_1 a0_2 a0_3 a0_4 a1 K0) := by kernel_rfl
noncomputable def laws_markIsle.dec (rs : List (List C)) (os : List Out) : Option (Int × (List (List C)) × (List (List C))) := uncons rs fun c1 r2 => uncons c1 fun x3 l4 => cD x3 fun d5 => dInt .i64 d5 fun w0 => atEnd l4 <| atEnd r2 <| uncons os fun o6 u7 => outOwn o6 fun c8 => uncons c8 fun x9 l10 => uncons l10 fun x11 l12 => uncons l12 fun x13 l14 => uncons l14 fun x15 l16 => cOwn x15 fun w1 => uncons l16 fun x17 l18 => cOwn x17 fun w2 => atEnd l18 <| atEnd u7 (some (w0, w1, w2))
theorem laws_markIsle.kt_dec (a0_0 : ByteArray) (a0_1 : Int) (a0_2 : Int) (a0_3 : List (List C)) (a0_4 : List (List C)) (a1 : Int) : laws_markIsle.kt a0_0 a0_1 a0_2 a0_3 a0_4 a1 laws_markIsle.dec = (fun z0 z1 z2 => some (z0, z1, z2)) := by kernel_rfl
theorem laws_markIsle.inj (a0_0 : ByteArray) (a0_1 : Int) (a0_2 : Int) (a0_3 : List (List C)) (a0_4 : List (List C)) (a1 : Int) {rs : List (List C)} {os : List Out} {z0 : Int} {z1 : List (List C)} {z2 : List (List C)} (h : laws_markIsle.dec rs os = some (z0, z1, z2)) (ho : OutShape (laws_markIsle.as a0_0 a0_1 a0_2 a0_3 a0_4 a1) os) : rs = [[.d (.int .i64 z0)]] ∧ os = [.own [.d (.str a0_0), .d (.int .i64 a0_1), .d (.int .i64 a0_2), .own z1, .own z2]] := by
  unfold laws_markIsle.dec at h
  obtain ⟨c1, r2, rfl, h1⟩ := uncons_some h
  obtain ⟨x3, l4, rfl, h2⟩ := uncons_some h1
  obtain ⟨d5, rfl, h3⟩ := cD_some h2
  obtain ⟨w0, rfl, h4⟩ := dInt_some h3
  obtain ⟨rfl, h5⟩ := atEnd_some h4
  obtain ⟨rfl, h6⟩ := atEnd_some h5
  obtain ⟨o6, u7, rfl, h7⟩ := uncons_some h6
  obtain ⟨c8, rfl, h8⟩ := outOwn_some h7
  obtain ⟨x9, l10, rfl, h9⟩ := uncons_some h8
  obtain ⟨x11, l12, rfl, h10⟩ := uncons_some h9
  obtain ⟨x13, l14, rfl, h11⟩ := uncons_some h10
  obtain ⟨x15, l16, rfl, h12⟩ := uncons_some h11
  obtain ⟨w1, rfl, h13⟩ := cOwn_some h12
  obtain ⟨x17, l18, rfl, h14⟩ := uncons_some h13
  obtain ⟨w2, rfl, h15⟩ := cOwn_some h14
  obtain ⟨rfl, h16⟩ := atEnd_some h15
  obtain ⟨rfl, h17⟩ := atEnd_some h16
  simp only [Option.some.injEq, Prod.mk.injEq] at h17
  obtain ⟨rfl, rfl, rfl⟩ := h17
  simp only [laws_markIsle.as, OutShape] at ho
  obtain ⟨cs0, os0, e0, _, hs0, ho⟩ := ho
  injection e0 with e0 f0
  injection e0 with e0
  subst e0
  subst f0
  have hc := hs0 0 _ rfl
  simp at hc
  subst hc
  have hc := hs0 1 _ rfl
  simp at hc
  subst hc
  have hc := hs0 2 _ rfl
  simp at hc
  subst hc
  exact ⟨rfl, rfl⟩
theorem laws_markIsle.ok (k : Nat) : EntryOK Try.prog 35 (laws_markIsle.e k) := by
  refine entry_of mix tyok (fn := Try.f35) (c := codeOf Try.f35) Try.func35 (by kernel_rfl) (h := laws_markIsle.h) (k := k) (E := laws_markIsle.E k) (env_cons (laws_markWorkS.ok k) (env_cons (laws_markRunS.ok k) env_nil)) (by kernel_rfl) (by kernel_rfl) rfl (enter_of Try.func35 (by kernel_rfl)) ?_
  intro β l K r hr
  simp only [laws_markIsle.e] at hr
  split at hr
  case h_2 => cases hr
  unfold laws_markIsle.f at hr
  split at hr
  case h_2 => cases hr
  rename_i hz
  exact ⟨_, _, hr, _, laws_markIsle.dec, _, (laws_markIsle.f_eq k _ _ _ _ _ _ laws_markIsle.dec).trans (by rw [laws_markIsle.kt_dec]; exact hz), fun rs os h ho => laws_markIsle.inj _ _ _ _ _ _ h ho⟩
/-! ### loop.example/g00119/laws.heldStringS: function 128 -/
noncomputable def laws_heldStringS.l0 {β : Type} (k : Nat) (v0_0 : List (List D)) (K : Int → Option β) (L0 : (Int × Int) → Option β) (v : Int × Int) : Option β :=
  match v with
  | (v0_1, v0_2) => bif (decide ((v0_2 : Int) < (v0_0.length : Int))) then (atRow v0_0 v0_2 fun c6 => uncons c6 fun d7 r8 => dStr d7 fun x9 => atEnd r8 (laws_markText.f k v0_1 (fun y10 => bif (!(strEq x9 y10)) then (K (-1)) else (L0 (IntKind.wrap .i64 (v0_1 + 1), IntKind.wrap .i64 (v0_2 + 1)))))) else (K v0_1)
noncomputable def laws_heldStringS.g {β : Type} (k : Nat) (a0 : List (List D)) (a1 : Int) (K : Int → Option β) : Option β :=
  iter (laws_heldStringS.l0 k a0 K) k (a1, 0)
noncomputable def laws_heldStringS.t (k : Nat) (a0 : List (List D)) (a1 : Int) : Option (Int) := laws_heldStringS.g k a0 a1 (fun z0 => some z0)
noncomputable def laws_heldStringS.f {β : Type} (k : Nat) (a0 : List (List D)) (a1 : Int) (K : Int → Option β) : Option β :=
  match laws_heldStringS.t k a0 a1 with
  | some z0 => K z0
  | none => none
noncomputable def laws_heldStringS.as (a0 : List (List D)) (a1 : Int) : List A := [.d (.sl a0), .d (.int .i64 a1)]
noncomputable def laws_heldStringS.kt {β : Type} (a0 : List (List D)) (a1 : Int) (K0 : List (List C) → List Out → Option β) : Int → Option β := fun z0 => K0 [[.d (.int .i64 z0)]] []
noncomputable def laws_heldStringS.e (k : Nat) : Entry := { modes := [(.imm, 0), (.imm, 0)], rts := [3], al := false, run := fun {β} l K => match l with | [.d (.sl a0), .d (.int .i64 a1)] => laws_heldStringS.f k a0 a1 (laws_heldStringS.kt a0 a1 K) | _ => none }
noncomputable def laws_heldStringS.E (k : Nat) : Env := fun g => bif g == 152 then some (laws_markText.e k) else none
noncomputable def laws_heldStringS.h : Hints := ⟨fun n => bif n == 2 then ⟨[(0, .asis), (1, .dat false), (5, .asis)], []⟩ else ⟨[], []⟩, fun _ => none, false, []⟩
noncomputable def laws_heldStringS.s0 (v0_0 : List (List D)) (v : Int × Int) : St :=
  match v with
  | (v0_1, v0_2) => ⟨[.d false (.sl v0_0), .d false (.int .i64 v0_1), .any, .any, .any, .d true (.int .i64 v0_2), .any, .any, .any, .any, .any, .any, .any, .any, .any, .any, .any, .any, .any, .any, .any, .any], []⟩
noncomputable def laws_heldStringS.b0 {β : Type} (k : Nat) : St → (Ex → St → Option β) → Option β := fun s K => den Try.prog (laws_heldStringS.E k) laws_heldStringS.h.H laws_heldStringS.h.J k (codeAt [1, 0, 1, 0, 0] (codeOf Try.f128)) s K
noncomputable def laws_heldStringS.c0 {β : Type} (k : Nat) (a0 : List (List D)) (a1 : Int) (K0 : List (List C) → List Out → Option β) : Ex → St → Option β := contAt Try.prog (laws_heldStringS.E k) laws_heldStringS.h k [1, 0, 1, 0] (codeOf Try.f128) (finDen Try.prog Try.f128 laws_heldStringS.h (laws_heldStringS.as a0 a1) K0)
theorem laws_heldStringS.l0_eq {β : Type} (k : Nat) (a0 : List (List D)) (a1 : Int) (K0 : List (List C) → List Out → Option β) (v0_0 : List (List D)) : ∀ (kk : Nat) (v : Int × Int), loopDen (laws_heldStringS.b0 k) (laws_heldStringS.h.H 2) kk (laws_heldStringS.s0 v0_0 v) (laws_heldStringS.c0 k a0 a1 K0) = iter (laws_heldStringS.l0 k v0_0 (laws_heldStringS.kt a0 a1 K0)) kk v :=
  loop_eq (laws_heldStringS.s0 v0_0) _ (fun L0 v => by obtain ⟨v0_1, v0_2⟩ := v; kernel_rfl)
noncomputable def laws_heldStringS.m {β : Type} (k : Nat) (a0 : List (List D)) (a1 : Int) (K0 : List (List C) → List Out → Option β) (F : ((List (List D)) → (Int × Int) → Option β)) : Option β :=
  (F) a0 (a1, 0)
theorem laws_heldStringS.f_eq {β : Type} (k : Nat) (a0 : List (List D)) (a1 : Int) (K0 : List (List C) → List Out → Option β) : funDen Try.prog (laws_heldStringS.E k) laws_heldStringS.h k Try.f128 (laws_heldStringS.as a0 a1) K0 = laws_heldStringS.g k a0 a1 (laws_heldStringS.kt a0 a1 K0) := Eq.trans (b := (laws_heldStringS.m k a0 a1 K0) (fun (v0_0 : List (List D)) (v : Int × Int) => loopDen (laws_heldStringS.b0 k) (laws_heldStringS.h.H 2) k (laws_heldStringS.s0 v0_0 v) (laws_heldStringS.c0 k a0 a1 K0))) (by kernel_rfl) (Eq.trans (congrArg (laws_heldStringS.m k a0 a1 K0) (funext fun v0_0 => funext fun v => laws_heldStringS.l0_eq k a0 a1 K0 v0_0 k v)) (by kernel_rfl))
noncomputable def laws_heldStringS.dec (rs : List (List C)) (os : List Out) : Option (Int) := uncons rs fun c1 r2 => uncons c1 fun x3 l4 => cD x3 fun d5 => dInt .i64 d5 fun w0 => atEnd l4 <| atEnd r2 <| atEnd os (some w0)
theorem laws_heldStringS.kt_dec (a0 : List (List D)) (a1 : Int) : laws_heldStringS.kt a0 a1 laws_heldStringS.dec = (fun z0 => some z0) := by kernel_rfl
theorem laws_heldStringS.inj (a0 : List (List D)) (a1 : Int) {rs : List (List C)} {os : List Out} {z0 : Int} (h : laws_heldStringS.dec rs os = some z0) (ho : OutShape (laws_heldStringS.as a0 a1) os) : rs = [[.d (.int .i64 z0)]] ∧ os = [] := by
  unfold laws_heldStringS.dec at h
  obtain ⟨c1, r2, rfl, h1⟩ := uncons_some h
  obtain ⟨x3, l4, rfl, h2⟩ := uncons_some h1
  obtain ⟨d5, rfl, h3⟩ := cD_some h2
  obtain ⟨w0, rfl, h4⟩ := dInt_some h3
  obtain ⟨rfl, h5⟩ := atEnd_some h4
  obtain ⟨rfl, h6⟩ := atEnd_some h5
  obtain ⟨rfl, h7⟩ := atEnd_some h6
  obtain rfl := Option.some.inj h7
  exact ⟨rfl, rfl⟩
theorem laws_heldStringS.ok (k : Nat) : EntryOK Try.prog 128 (laws_heldStringS.e k) := by
  refine entry_of mix tyok (fn := Try.f128) (c := codeOf Try.f128) Try.func128 (by kernel_rfl) (h := laws_heldStringS.h) (k := k) (E := laws_heldStringS.E k) (env_cons (laws_markText.ok k) env_nil) (by kernel_rfl) (by kernel_rfl) rfl (enter_of Try.func128 (by kernel_rfl)) ?_
  intro β l K r hr
  simp only [laws_heldStringS.e] at hr
  split at hr
  case h_2 => cases hr
  unfold laws_heldStringS.f at hr
  split at hr
  case h_2 => cases hr
  rename_i hz
  exact ⟨_, _, hr, _, laws_heldStringS.dec, _, (laws_heldStringS.f_eq k _ _ laws_heldStringS.dec).trans (by rw [laws_heldStringS.kt_dec]; exact hz), fun rs os h ho => laws_heldStringS.inj _ _ h ho⟩
/-! ### loop.example/g00119/laws.heldValueS: function 154 -/
noncomputable def laws_heldValueS.l0 {β : Type} (k : Nat) (r_laws_heldValueS : (List (List D)) → Int → (Int → Option β) → Option β) (v0_0 : List (List D)) (K : Int → Option β) (L0 : (Int × Int) → Option β) (v : Int × Int) : Option β :=
  match v with
  | (v0_1, v0_2) => bif (decide ((v0_2 : Int) < (v0_0.length : Int))) then (atRow v0_0 v0_2 fun c84 => uncons c84 fun d85 r86 => dInt .i64 d85 fun x87 => uncons r86 fun d88 r89 => dStr d88 fun x90 => uncons r89 fun d91 r92 => dInt .i64 d91 fun x93 => uncons r92 fun d94 r95 => dSl d94 fun x96 => uncons r95 fun d97 r98 => dSl d97 fun x99 => atEnd r98 (bif ((x87 : Int) != v0_1) then (K (-1)) else (atRow v0_0 v0_2 fun c100 => uncons c100 fun d101 r102 => dInt .i64 d101 fun x103 => uncons r102 fun d104 r105 => dStr d104 fun x106 => uncons r105 fun d107 r108 => dInt .i64 d107 fun x109 => uncons r108 fun d110 r111 => dSl d110 fun x112 => uncons r111 fun d113 r114 => dSl d113 fun x115 => atEnd r114 (laws_markText.f k (IntKind.wrap .i64 (v0_1 + 1)) (fun y116 => bif (!(strEq x106 y116)) then (K (-1)) else (atRow v0_0 v0_2 fun c117 => uncons c117 fun d118 r119 => dInt .i64 d118 fun x120 => uncons r119 fun d121 r122 => dStr d121 fun x123 => uncons r122 fun d124 r125 => dInt .i64 d124 fun x126 => uncons r125 fun d127 r128 => dSl d127 fun x129 => uncons r128 fun d130 r131 => dSl d130 fun x132 => atEnd r131 (bif ((x126 : Int) != (IntKind.wrap .i64 ((IntKind.wrap .i64 (v0_1 + 1)) + 1))) then (K (-1)) else (atRow v0_0 v0_2 fun c133 => uncons c133 fun d134 r135 => dInt .i64 d134 fun x136 => uncons r135 fun d137 r138 => dStr d137 fun x139 => uncons r138 fun d140 r141 => dInt .i64 d140 fun x142 => uncons r141 fun d143 r144 => dSl d143 fun x145 => uncons r144 fun d146 r147 => dSl d146 fun x148 => atEnd r147 (laws_heldStringS.f k x145 (IntKind.wrap .i64 ((IntKind.wrap .i64 ((IntKind.wrap .i64 (v0_1 + 1)) + 1)) + 1)) (fun y149 => bif (decide ((y149 : Int) < 0)) then (K (-1)) else (atRow v0_0 v0_2 fun c150 => uncons c150 fun d151 r152 => dInt .i64 d151 fun x153 => uncons r152 fun d154 r155 => dStr d154 fun x156 => uncons r155 fun d157 r158 => dInt .i64 d157 fun x159 => uncons r158 fun d160 r161 => dSl d160 fun x162 => uncons r161 fun d163 r164 => dSl d163 fun x165 => atEnd r164 (r_laws_heldValueS x165 y149 (fun y166 => bif (decide ((y166 : Int) < 0)) then (K (-1)) else (L0 (y166, IntKind.wrap .i64 (v0_2 + 1)))))))))))))))) else (K v0_1)
noncomputable def laws_heldValueS.body {β : Type} (k : Nat) (r_laws_heldValueS : (List (List D)) → Int → (Int → Option β) → Option β) (a0 : List (List D)) (a1 : Int) (K : Int → Option β) : Option β :=
  iter (laws_heldValueS.l0 k r_laws_heldValueS a0 K) k (a1, 0)
noncomputable def laws_heldValueS.w {β : Type} (r : (List (List D)) → Int → Option (Int)) (a0 : List (List D)) (a1 : Int) (K : Int → Option β) : Option β :=
  match r a0 a1 with
  | some z0 => K z0
  | none => none
noncomputable def laws_heldValueS.all : Nat → ((List (List D)) → Int → Option (Int))
  | 0 => (fun _ _ => none)
  | k + 1 => (fun r => (fun a0 a1 => laws_heldValueS.body k (laws_heldValueS.w r) a0 a1 (fun z0 => some z0))) (laws_heldValueS.all k)
noncomputable def laws_heldValueS.t (k : Nat) (a0 : List (List D)) (a1 : Int) : Option (Int) := (laws_heldValueS.all k) a0 a1
noncomputable def laws_heldValueS.f {β : Type} (k : Nat) (a0 : List (List D)) (a1 : Int) (K : Int → Option β) : Option β := laws_heldValueS.w (laws_heldValueS.t k) a0 a1 K
noncomputable def laws_heldValueS.g {β : Type} (k : Nat) (a0 : List (List D)) (a1 : Int) (K : Int → Option β) : Option β := laws_heldValueS.body k (laws_heldValueS.f k) a0 a1 K
theorem laws_heldValueS.t_zero (a0 : List (List D)) (a1 : Int) : laws_heldValueS.t 0 a0 a1 = none := rfl
theorem laws_heldValueS.t_succ (k : Nat) (a0 : List (List D)) (a1 : Int) : laws_heldValueS.t (k + 1) a0 a1 = laws_heldValueS.g k a0 a1 (fun z0 => some z0) := rfl
noncomputable def laws_heldValueS.as (a0 : List (List D)) (a1 : Int) : List A := [.d (.sl a0), .d (.int .i64 a1)]
noncomputable def laws_heldValueS.kt {β : Type} (a0 : List (List D)) (a1 : Int) (K0 : List (List C) → List Out → Option β) : Int → Option β := fun z0 => K0 [[.d (.int .i64 z0)]] []
noncomputable def laws_heldValueS.e (k : Nat) : Entry := { modes := [(.imm, 0), (.imm, 0)], rts := [3], al := false, run := fun {β} l K => match l with | [.d (.sl a0), .d (.int .i64 a1)] => laws_heldValueS.f k a0 a1 (laws_heldValueS.kt a0 a1 K) | _ => none }
noncomputable def laws_heldValueS.E (k : Nat) : Env := fun g => bif g == 152 then some (laws_markText.e k) else bif g == 128 then some (laws_heldStringS.e k) else bif g == 154 then some (laws_heldValueS.e k) else none
noncomputable def laws_heldValueS.h : Hints := ⟨fun n => bif n == 2 then ⟨[(0, .asis), (1, .dat false), (5, .asis)], []⟩ else ⟨[], []⟩, fun _ => none, false, []⟩
noncomputable def laws_heldValueS.s0 (v0_0 : List (List D)) (v : Int × Int) : St :=
  match v with
  | (v0_1, v0_2) => ⟨[.d false (.sl v0_0), .d false (.int .i64 v0_1), .any, .any, .any, .d true (.int .i64 v0_2), .any, .any, .any, .any, .any, .any, .any, .any, .any, .any, .any, .any, .any, .any, .any, .any, .any, .any, .any, .any, .any, .any, .any, .any, .any, .any, .any, .any, .any, .any, .any, .any, .any, .any, .any, .any, .any, .any, .any, .any, .any, .any, .any, .any, .any, .any, .any, .any, .any, .any, .any, .any, .any], []⟩
noncomputable def laws_heldValueS.b0 {β : Type} (k : Nat) : St → (Ex → St → Option β) → Option β := fun s K => den Try.prog (laws_heldValueS.E k) laws_heldValueS.h.H laws_heldValueS.h.J k (codeAt [1, 0, 1, 0, 0] (codeOf Try.f154)) s K
noncomputable def laws_heldValueS.c0 {β : Type} (k : Nat) (a0 : List (List D)) (a1 : Int) (K0 : List (List C) → List Out → Option β) : Ex → St → Option β := contAt Try.prog (laws_heldValueS.E k) laws_heldValueS.h k [1, 0, 1, 0] (codeOf Try.f154) (finDen Try.prog Try.f154 laws_heldValueS.h (laws_heldValueS.as a0 a1) K0)
theorem laws_heldValueS.l0_eq {β : Type} (k : Nat) (a0 : List (List D)) (a1 : Int) (K0 : List (List C) → List Out → Option β) (v0_0 : List (List D)) : ∀ (kk : Nat) (v : Int × Int), loopDen (laws_heldValueS.b0 k) (laws_heldValueS.h.H 2) kk (laws_heldValueS.s0 v0_0 v) (laws_heldValueS.c0 k a0 a1 K0) = iter (laws_heldValueS.l0 k (laws_heldValueS.f k) v0_0 (laws_heldValueS.kt a0 a1 K0)) kk v :=
  loop_eq (laws_heldValueS.s0 v0_0) _ (fun L0 v => by obtain ⟨v0_1, v0_2⟩ := v; kernel_rfl)
noncomputable def laws_heldValueS.m {β : Type} (k : Nat) (a0 : List (List D)) (a1 : Int) (K0 : List (List C) → List Out → Option β) (F : ((List (List D)) → (Int × Int) → Option β)) : Option β :=
  (F) a0 (a1, 0)
theorem laws_heldValueS.f_eq {β : Type} (k : Nat) (a0 : List (List D)) (a1 : Int) (K0 : List (List C) → List Out → Option β) : funDen Try.prog (laws_heldValueS.E k) laws_heldValueS.h k Try.f154 (laws_heldValueS.as a0 a1) K0 = laws_heldValueS.g k a0 a1 (laws_heldValueS.kt a0 a1 K0) := Eq.trans (b := (laws_heldValueS.m k a0 a1 K0) (fun (v0_0 : List (List D)) (v : Int × Int) => loopDen (laws_heldValueS.b0 k) (laws_heldValueS.h.H 2) k (laws_heldValueS.s0 v0_0 v) (laws_heldValueS.c0 k a0 a1 K0))) (by kernel_rfl) (Eq.trans (congrArg (laws_heldValueS.m k a0 a1 K0) (funext fun v0_0 => funext fun v => laws_heldValueS.l0_eq k a0 a1 K0 v0_0 k v)) (by kernel_rfl))
noncomputable def laws_heldValueS.dec (rs : List (List C)) (os : List Out) : Option (Int) := uncons rs fun c1 r2 => uncons c1 fun x3 l4 => cD x3 fun d5 => dInt .i64 d5 fun w0 => atEnd l4 <| atEnd r2 <| atEnd os (some w0)
theorem laws_heldValueS.kt_dec (a0 : List (List D)) (a1 : Int) : laws_heldValueS.kt a0 a1 laws_heldValueS.dec = (fun z0 => some z0) := by kernel_rfl
theorem laws_heldValueS.inj (a0 : List (List D)) (a1 : Int) {rs : List (List C)} {os : List Out} {z0 : Int} (h : laws_heldValueS.dec rs os = some z0) (ho : OutShape (laws_heldValueS.as a0 a1) os) : rs = [[.d (.int .i64 z0)]] ∧ os = [] := by
  unfold laws_heldValueS.dec at h
  obtain ⟨c1, r2, rfl, h1⟩ := uncons_some h
  obtain ⟨x3, l4, rfl, h2⟩ := uncons_some h1
  obtain ⟨d5, rfl, h3⟩ := cD_some h2
  obtain ⟨w0, rfl, h4⟩ := dInt_some h3
  obtain ⟨rfl, h5⟩ := atEnd_some h4
  obtain ⟨rfl, h6⟩ := atEnd_some h5
  obtain ⟨rfl, h7⟩ := atEnd_some h6
  obtain rfl := Option.some.inj h7
  exact ⟨rfl, rfl⟩
theorem laws_heldValueS.oks (k : Nat) : EntryOK Try.prog 154 (laws_heldValueS.e k) := by
  induction k with
  | zero =>
    refine ?_
    · exact entry_zero (enter_of Try.func154 (by kernel_rfl)) fun β l K r h => by
        simp only [laws_heldValueS.e] at h
        split at h
        · unfold laws_heldValueS.f at h
          unfold laws_heldValueS.w at h
          rw [laws_heldValueS.t_zero] at h
          cases h
        · cases h
  | succ k ih =>
    refine ?_
    · refine entry_of mix tyok (fn := Try.f154) (c := codeOf Try.f154) Try.func154 (by kernel_rfl) (h := laws_heldValueS.h) (k := k) (E := laws_heldValueS.E k) (env_cons (laws_markText.ok k) (env_cons (laws_heldStringS.ok k) (env_cons ih env_nil))) (by kernel_rfl) (by kernel_rfl) rfl (enter_of Try.func154 (by kernel_rfl)) ?_
      intro β l K r hr
      simp only [laws_heldValueS.e] at hr
      split at hr
      case h_2 => cases hr
      unfold laws_heldValueS.f at hr
      unfold laws_heldValueS.w at hr
      split at hr
      case h_2 => cases hr
      rename_i hz
      exact ⟨_, _, hr, _, laws_heldValueS.dec, _, (laws_heldValueS.f_eq k _ _ laws_heldValueS.dec).trans (by rw [laws_heldValueS.kt_dec]; exact hz), fun rs os h ho => laws_heldValueS.inj _ _ h ho⟩
theorem laws_heldValueS.ok (k : Nat) : EntryOK Try.prog 154 (laws_heldValueS.e k) := (laws_heldValueS.oks k)
/-! ### loop.example/g00119/laws.heldWorkS: function 96 -/
set_option maxRecDepth 100000 in
noncomputable def laws_heldWorkS.l0 {β : Type} (k : Nat) (v0_0 : List (List D)) (K : Int → Option β) (L0 : (Int × Int) → Option β) (v : Int × Int) : Option β :=
  match v with
  | (v0_1, v0_2) => bif (decide ((v0_2 : Int) < (v0_0.length : Int))) then (atRow v0_0 v0_2 fun c158 => uncons c158 fun d159 r160 => dInt .i64 d159 fun x161 => uncons r160 fun d162 r163 => dInt .i64 d162 fun x164 => uncons r163 fun d165 r166 => dInt .i64 d165 fun x167 => uncons r166 fun d168 r169 => dStr d168 fun x170 => uncons r169 fun d171 r172 => dInt .i64 d171 fun x173 => uncons r172 fun d174 r175 => dSl d174 fun x176 => uncons r175 fun d177 r178 => dSl d177 fun x179 => atEnd r178 (bif ((x161 : Int) != v0_1) then (K (-1)) else (atRow v0_0 v0_2 fun c180 => uncons c180 fun d181 r182 => dInt .i64 d181 fun x183 => uncons r182 fun d184 r185 => dInt .i64 d184 fun x186 => uncons r185 fun d187 r188 => dInt .i64 d187 fun x189 => uncons r188 fun d190 r191 => dStr d190 fun x192 => uncons r191 fun d193 r194 => dInt .i64 d193 fun x195 => uncons r194 fun d196 r197 => dSl d196 fun x198 => uncons r197 fun d199 r200 => dSl d199 fun x201 => atEnd r200 (bif ((x186 : Int) != (IntKind.wrap .i64 (v0_1 + 1))) then (K (-1)) else (atRow v0_0 v0_2 fun c202 => uncons c202 fun d203 r204 => dInt .i64 d203 fun x205 => uncons r204 fun d206 r207 => dInt .i64 d206 fun x208 => uncons r207 fun d209 r210 => dInt .i64 d209 fun x211 => uncons r210 fun d212 r213 => dStr d212 fun x214 => uncons r213 fun d215 r216 => dInt .i64 d215 fun x217 => uncons r216 fun d218 r219 => dSl d218 fun x220 => uncons r219 fun d221 r222 => dSl d221 fun x223 => atEnd r222 (bif ((x211 : Int) != (IntKind.wrap .i64 ((IntKind.wrap .i64 (v0_1 + 1)) + 1))) then (K (-1)) else (atRow v0_0 v0_2 fun c224 => uncons c224 fun d225 r226 => dInt .i64 d225 fun x227 => uncons r226 fun d228 r229 => dInt .i64 d228 fun x230 => uncons r229 fun d231 r232 => dInt .i64 d231 fun x233 => uncons r232 fun d234 r235 => dStr d234 fun x236 => uncons r235 fun d237 r238 => dInt .i64 d237 fun x239 => uncons r238 fun d240 r241 => dSl d240 fun x242 => uncons r241 fun d243 r244 => dSl d243 fun x245 => atEnd r244 (laws_markText.f k (IntKind.wrap .i64 ((IntKind.wrap .i64 ((IntKind.wrap .i64 (v0_1 + 1)) + 1)) + 1)) (fun y246 => bif (!(strEq x236 y246)) then (K (-1)) else (atRow v0_0 v0_2 fun c247 => uncons c247 fun d248 r249 => dInt .i64 d248 fun x250 => uncons r249 fun d251 r252 => dInt .i64 d251 fun x253 => uncons r252 fun d254 r255 => dInt .i64 d254 fun x256 => uncons r255 fun d257 r258 => dStr d257 fun x259 => uncons r258 fun d260 r261 => dInt .i64 d260 fun x262 => uncons r261 fun d263 r264 => dSl d263 fun x265 => uncons r264 fun d266 r267 => dSl d266 fun x268 => atEnd r267 (bif ((x262 : Int) != (IntKind.wrap .i64 ((IntKind.wrap .i64 ((IntKind.wrap .i64 ((IntKind.wrap .i64 (v0_1 + 1)) + 1)) + 1)) + 1))) then (K (-1)) else (atRow v0_0 v0_2 fun c269 => uncons c269 fun d270 r271 => dInt .i64 d270 fun x272 => uncons r271 fun d273 r274 => dInt .i64 d273 fun x275 => uncons r274 fun d276 r277 => dInt .i64 d276 fun x278 => uncons r277 fun d279 r280 => dStr d279 fun x281 => uncons r280 fun d282 r283 => dInt .i64 d282 fun x284 => uncons r283 fun d285 r286 => dSl d285 fun x287 => uncons r286 fun d288 r289 => dSl d288 fun x290 => atEnd r289 (laws_heldStringS.f k x287 (IntKind.wrap .i64 ((IntKind.wrap .i64 ((IntKind.wrap .i64 ((IntKind.wrap .i64 ((IntKind.wrap .i64 (v0_1 + 1)) + 1)) + 1)) + 1)) + 1)) (fun y291 => bif (decide ((y291 : Int) < 0)) then (K (-1)) else (atRow v0_0 v0_2 fun c292 => uncons c292 fun d293 r294 => dInt .i64 d293 fun x295 => uncons r294 fun d296 r297 => dInt .i64 d296 fun x298 => uncons r297 fun d299 r300 => dInt .i64 d299 fun x301 => uncons r300 fun d302 r303 => dStr d302 fun x304 => uncons r303 fun d305 r306 => dInt .i64 d305 fun x307 => uncons r306 fun d308 r309 => dSl d308 fun x310 => uncons r309 fun d311 r312 => dSl d311 fun x313 => atEnd r312 (laws_heldValueS.f k x313 y291 (fun y314 => bif (decide ((y314 : Int) < 0)) then (K (-1)) else (L0 (y314, IntKind.wrap .i64 (v0_2 + 1)))))))))))))))))))) else (K v0_1)
noncomputable def laws_heldWorkS.g {β : Type} (k : Nat) (a0 : List (List D)) (a1 : Int) (K : Int → Option β) : Option β :=
  iter (laws_heldWorkS.l0 k a0 K) k (a1, 0)
noncomputable def laws_heldWorkS.t (k : Nat) (a0 : List (List D)) (a1 : Int) : Option (Int) := laws_heldWorkS.g k a0 a1 (fun z0 => some z0)
noncomputable def laws_heldWorkS.f {β : Type} (k : Nat) (a0 : List (List D)) (a1 : Int) (K : Int → Option β) : Option β :=
  match laws_heldWorkS.t k a0 a1 with
  | some z0 => K z0
  | none => none
noncomputable def laws_heldWorkS.as (a0 : List (List D)) (a1 : Int) : List A := [.d (.sl a0), .d (.int .i64 a1)]
noncomputable def laws_heldWorkS.kt {β : Type} (a0 : List (List D)) (a1 : Int) (K0 : List (List C) → List Out → Option β) : Int → Option β := fun z0 => K0 [[.d (.int .i64 z0)]] []
noncomputable def laws_heldWorkS.e (k : Nat) : Entry := { modes := [(.imm, 0), (.imm, 0)], rts := [3], al := false, run := fun {β} l K => match l with | [.d (.sl a0), .d (.int .i64 a1)] => laws_heldWorkS.f k a0 a1 (laws_heldWorkS.kt a0 a1 K) | _ => none }
noncomputable def laws_heldWorkS.E (k : Nat) : Env := fun g => bif g == 152 then some (laws_markText.e k) else bif g == 128 then some (laws_heldStringS.e k) else bif g == 154 then some (laws_heldValueS.e k) else none
noncomputable def laws_heldWorkS.h : Hints := ⟨fun n => bif n == 2 then ⟨[(0, .asis), (1, .dat false), (5, .asis)], []⟩ else ⟨[], []⟩, fun _ => none, false, []⟩
noncomputable def laws_heldWorkS.s0 (v0_0 : List (List D)) (v : Int × Int) : St :=
  match v with
  | (v0_1, v0_2) => ⟨[.d false (.sl v0_0), .d false (.int .i64 v0_1), .any, .any, .any, .d true (.int .i64 v0_2), .any, .any, .any, .any, .any, .any, .any, .any, .any, .any, .any, .any, .any, .any, .any, .any, .any, .any, .any, .any, .any, .any, .any, .any, .any, .any, .any, .any, .any, .any, .any, .any, .any, .any, .any, .any, .any, .any, .any, .any, .any, .any, .any, .any, .any, .any, .any, .any, .any, .any, .any, .any, .any, .any, .any, .any, .any, .any, .any, .any, .any, .any, .any, .any, .any, .any, .any, .any, .any, .any, .any, .any, .any, .any, .any, .any], []⟩
noncomputable def laws_heldWorkS.b0 {β : Type} (k : Nat) : St → (Ex → St → Option β) → Option β := fun s K => den Try.prog (laws_heldWorkS.E k) laws_heldWorkS.h.H laws_heldWorkS.h.J k (codeAt [1, 0, 1, 0, 0] (codeOf Try.f96)) s K
noncomputable def laws_heldWorkS.c0 {β : Type} (k : Nat) (a0 : List (List D)) (a1 : Int) (K0 : List (List C) → List Out → Option β) : Ex → St → Option β := contAt Try.prog (laws_heldWorkS.E k) laws_heldWorkS.h k [1, 0, 1, 0] (codeOf Try.f96) (finDen Try.prog Try.f96 laws_heldWorkS.h (laws_heldWorkS.as a0 a1) K0)
theorem laws_heldWorkS.l0_eq {β : Type} (k : Nat) (a0 : List (List D)) (a1 : Int) (K0 : List (List C) → List Out → Option β) (v0_0 : List (List D)) : ∀ (kk : Nat) (v : Int × Int), loopDen (laws_heldWorkS.b0 k) (laws_heldWorkS.h.H 2) kk (laws_heldWorkS.s0 v0_0 v) (laws_heldWorkS.c0 k a0 a1 K0) = iter (laws_heldWorkS.l0 k v0_0 (laws_heldWorkS.kt a0 a1 K0)) kk v :=
  loop_eq (laws_heldWorkS.s0 v0_0) _ (fun L0 v => by obtain ⟨v0_1, v0_2⟩ := v; kernel_rfl)
noncomputable def laws_heldWorkS.m {β : Type} (k : Nat) (a0 : List (List D)) (a1 : Int) (K0 : List (List C) → List Out → Option β) (F : ((List (List D)) → (Int × Int) → Option β)) : Option β :=
  (F) a0 (a1, 0)
theorem laws_heldWorkS.f_eq {β : Type} (k : Nat) (a0 : List (List D)) (a1 : Int) (K0 : List (List C) → List Out → Option β) : funDen Try.prog (laws_heldWorkS.E k) laws_heldWorkS.h k Try.f96 (laws_heldWorkS.as a0 a1) K0 = laws_heldWorkS.g k a0 a1 (laws_heldWorkS.kt a0 a1 K0) := Eq.trans (b := (laws_heldWorkS.m k a0 a1 K0) (fun (v0_0 : List (List D)) (v : Int × Int) => loopDen (laws_heldWorkS.b0 k) (laws_heldWorkS.h.H 2) k (laws_heldWorkS.s0 v0_0 v) (laws_heldWorkS.c0 k a0 a1 K0))) (by kernel_rfl) (Eq.trans (congrArg (laws_heldWorkS.m k a0 a1 K0) (funext fun v0_0 => funext fun v => laws_heldWorkS.l0_eq k a0 a1 K0 v0_0 k v)) (by kernel_rfl))
noncomputable def laws_heldWorkS.dec (rs : List (List C)) (os : List Out) : Option (Int) := uncons rs fun c1 r2 => uncons c1 fun x3 l4 => cD x3 fun d5 => dInt .i64 d5 fun w0 => atEnd l4 <| atEnd r2 <| atEnd os (some w0)
theorem laws_heldWorkS.kt_dec (a0 : List (List D)) (a1 : Int) : laws_heldWorkS.kt a0 a1 laws_heldWorkS.dec = (fun z0 => some z0) := by kernel_rfl
theorem laws_heldWorkS.inj (a0 : List (List D)) (a1 : Int) {rs : List (List C)} {os : List Out} {z0 : Int} (h : laws_heldWorkS.dec rs os = some z0) (ho : OutShape (laws_heldWorkS.as a0 a1) os) : rs = [[.d (.int .i64 z0)]] ∧ os = [] := by
  unfold laws_heldWorkS.dec at h
  obtain ⟨c1, r2, rfl, h1⟩ := uncons_some h
  obtain ⟨x3, l4, rfl, h2⟩ := uncons_some h1
  obtain ⟨d5, rfl, h3⟩ := cD_some h2
  obtain ⟨w0, rfl, h4⟩ := dInt_some h3
  obtain ⟨rfl, h5⟩ := atEnd_some h4
  obtain ⟨rfl, h6⟩ := atEnd_some h5
  obtain ⟨rfl, h7⟩ := atEnd_some h6
  obtain rfl := Option.some.inj h7
  exact ⟨rfl, rfl⟩
theorem laws_heldWorkS.ok (k : Nat) : EntryOK Try.prog 96 (laws_heldWorkS.e k) := by
  refine entry_of mix tyok (fn := Try.f96) (c := codeOf Try.f96) Try.func96 (by kernel_rfl) (h := laws_heldWorkS.h) (k := k) (E := laws_heldWorkS.E k) (env_cons (laws_markText.ok k) (env_cons (laws_heldStringS.ok k) (env_cons (laws_heldValueS.ok k) env_nil))) (by kernel_rfl) (by kernel_rfl) rfl (enter_of Try.func96 (by kernel_rfl)) ?_
  intro β l K r hr
  simp only [laws_heldWorkS.e] at hr
  split at hr
  case h_2 => cases hr
  unfold laws_heldWorkS.f at hr
  split at hr
  case h_2 => cases hr
  rename_i hz
  exact ⟨_, _, hr, _, laws_heldWorkS.dec, _, (laws_heldWorkS.f_eq k _ _ laws_heldWorkS.dec).trans (by rw [laws_heldWorkS.kt_dec]; exact hz), fun rs os h ho => laws_heldWorkS.inj _ _ h ho⟩
/-! ### loop.example/g00119/laws.heldRunS: function 97 -/
noncomputable def laws_heldRunS.l0 {β : Type} (k : Nat) (v0_0 : List (List D)) (K : Int → Option β) (L0 : (Int × Int) → Option β) (v : Int × Int) : Option β :=
  match v with
  | (v0_1, v0_2) => bif (decide ((v0_2 : Int) < (v0_0.length : Int))) then (atRow v0_0 v0_2 fun c15 => uncons c15 fun d16 r17 => dInt .i64 d16 fun x18 => uncons r17 fun d19 r20 => dInt .i64 d19 fun x21 => atEnd r20 (bif ((x18 : Int) != v0_1) then (K (-1)) else (atRow v0_0 v0_2 fun c22 => uncons c22 fun d23 r24 => dInt .i64 d23 fun x25 => uncons r24 fun d26 r27 => dInt .i64 d26 fun x28 => atEnd r27 (bif ((x28 : Int) != (IntKind.wrap .i64 (v0_1 + 1))) then (K (-1)) else (L0 (IntKind.wrap .i64 ((IntKind.wrap .i64 (v0_1 + 1)) + 1), IntKind.wrap .i64 (v0_2 + 1))))))) else (K v0_1)
noncomputable def laws_heldRunS.g {β : Type} (k : Nat) (a0 : List (List D)) (a1 : Int) (K : Int → Option β) : Option β :=
  iter (laws_heldRunS.l0 k a0 K) k (a1, 0)
noncomputable def laws_heldRunS.t (k : Nat) (a0 : List (List D)) (a1 : Int) : Option (Int) := laws_heldRunS.g k a0 a1 (fun z0 => some z0)
noncomputable def laws_heldRunS.f {β : Type} (k : Nat) (a0 : List (List D)) (a1 : Int) (K : Int → Option β) : Option β :=
  match laws_heldRunS.t k a0 a1 with
  | some z0 => K z0
  | none => none
noncomputable def laws_heldRunS.as (a0 : List (List D)) (a1 : Int) : List A := [.d (.sl a0), .d (.int .i64 a1)]
noncomputable def laws_heldRunS.kt {β : Type} (a0 : List (List D)) (a1 : Int) (K0 : List (List C) → List Out → Option β) : Int → Option β := fun z0 => K0 [[.d (.int .i64 z0)]] []
noncomputable def laws_heldRunS.e (k : Nat) : Entry := { modes := [(.imm, 0), (.imm, 0)], rts := [3], al := false, run := fun {β} l K => match l with | [.d (.sl a0), .d (.int .i64 a1)] => laws_heldRunS.f k a0 a1 (laws_heldRunS.kt a0 a1 K) | _ => none }
noncomputable def laws_heldRunS.E (k : Nat) : Env := fun g => none
noncomputable def laws_heldRunS.h : Hints := ⟨fun n => bif n == 2 then ⟨[(0, .asis), (1, .dat false), (5, .asis)], []⟩ else ⟨[], []⟩, fun _ => none, false, []⟩
noncomputable def laws_heldRunS.s0 (v0_0 : List (List D)) (v : Int × Int) : St :=
  match v with
  | (v0_1, v0_2) => ⟨[.d false (.sl v0_0), .d false (.int .i64 v0_1), .any, .any, .any, .d true (.int .i64 v0_2), .any, .any, .any, .any, .any, .any, .any, .any, .any, .any, .any, .any, .any, .any, .any, .any, .any, .any, .any, .any, .any, .any, .any, .any, .any], []⟩
noncomputable def laws_heldRunS.b0 {β : Type} (k : Nat) : St → (Ex → St → Option β) → Option β := fun s K => den Try.prog (laws_heldRunS.E k) laws_heldRunS.h.H laws_heldRunS.h.J k (codeAt [1, 0, 1, 0, 0] (codeOf Try.f97)) s K
noncomputable def laws_heldRunS.c0 {β : Type} (k : Nat) (a0 : List (List D)) (a1 : Int) (K0 : List (List C) → List Out → Option β) : Ex → St → Option β := contAt Try.prog (laws_heldRunS.E k) laws_heldRunS.h k [1, 0, 1, 0] (codeOf Try.f97) (finDen Try.prog Try.f97 laws_heldRunS.h (laws_heldRunS.as a0 a1) K0)
theorem laws_heldRunS.l0_eq {β : Type} (k : Nat) (a0 : List (List D)) (a1 : Int) (K0 : List (List C) → List Out → Option β) (v0_0 : List (List D)) : ∀ (kk : Nat) (v : Int × Int), loopDen (laws_heldRunS.b0 k) (laws_heldRunS.h.H 2) kk (laws_heldRunS.s0 v0_0 v) (laws_heldRunS.c0 k a0 a1 K0) = iter (laws_heldRunS.l0 k v0_0 (laws_heldRunS.kt a0 a1 K0)) kk v :=
  loop_eq (laws_heldRunS.s0 v0_0) _ (fun L0 v => by obtain ⟨v0_1, v0_2⟩ := v; kernel_rfl)
noncomputable def laws_heldRunS.m {β : Type} (k : Nat) (a0 : List (List D)) (a1 : Int) (K0 : List (List C) → List Out → Option β) (F : ((List (List D)) → (Int × Int) → Option β)) : Option β :=
  (F) a0 (a1, 0)
theorem laws_heldRunS.f_eq {β : Type} (k : Nat) (a0 : List (List D)) (a1 : Int) (K0 : List (List C) → List Out → Option β) : funDen Try.prog (laws_heldRunS.E k) laws_heldRunS.h k Try.f97 (laws_heldRunS.as a0 a1) K0 = laws_heldRunS.g k a0 a1 (laws_heldRunS.kt a0 a1 K0) := Eq.trans (b := (laws_heldRunS.m k a0 a1 K0) (fun (v0_0 : List (List D)) (v : Int × Int) => loopDen (laws_heldRunS.b0 k) (laws_heldRunS.h.H 2) k (laws_heldRunS.s0 v0_0 v) (laws_heldRunS.c0 k a0 a1 K0))) (by kernel_rfl) (Eq.trans (congrArg (laws_heldRunS.m k a0 a1 K0) (funext fun v0_0 => funext fun v => laws_heldRunS.l0_eq k a0 a1 K0 v0_0 k v)) (by kernel_rfl))
noncomputable def laws_heldRunS.dec (rs : List (List C)) (os : List Out) : Option (Int) := uncons rs fun c1 r2 => uncons c1 fun x3 l4 => cD x3 fun d5 => dInt .i64 d5 fun w0 => atEnd l4 <| atEnd r2 <| atEnd os (some w0)
theorem laws_heldRunS.kt_dec (a0 : List (List D)) (a1 : Int) : laws_heldRunS.kt a0 a1 laws_heldRunS.dec = (fun z0 => some z0) := by kernel_rfl
theorem laws_heldRunS.inj (a0 : List (List D)) (a1 : Int) {rs : List (List C)} {os : List Out} {z0 : Int} (h : laws_heldRunS.dec rs os = some z0) (ho : OutShape (laws_heldRunS.as a0 a1) os) : rs = [[.d (.int .i64 z0)]] ∧ os = [] := by
  unfold laws_heldRunS.dec at h
  obtain ⟨c1, r2, rfl, h1⟩ := uncons_some h
  obtain ⟨x3, l4, rfl, h2⟩ := uncons_some h1
  obtain ⟨d5, rfl, h3⟩ := cD_some h2
  obtain ⟨w0, rfl, h4⟩ := dInt_some h3
  obtain ⟨rfl, h5⟩ := atEnd_some h4
  obtain ⟨rfl, h6⟩ := atEnd_some h5
  obtain ⟨rfl, h7⟩ := atEnd_some h6
  obtain rfl := Option.some.inj h7
  exact ⟨rfl, rfl⟩
theorem laws_heldRunS.ok (k : Nat) : EntryOK Try.prog 97 (laws_heldRunS.e k) := by
  refine entry_of mix tyok (fn := Try.f97) (c := codeOf Try.f97) Try.func97 (by kernel_rfl) (h := laws_heldRunS.h) (k := k) (E := laws_heldRunS.E k) env_nil (by kernel_rfl) (by kernel_rfl) rfl (enter_of Try.func97 (by kernel_rfl)) ?_
  intro β l K r hr
  simp only [laws_heldRunS.e] at hr
  split at hr
  case h_2 => cases hr
  unfold laws_heldRunS.f at hr
  split at hr
  case h_2 => cases hr
  rename_i hz
  exact ⟨_, _, hr, _, laws_heldRunS.dec, _, (laws_heldRunS.f_eq k _ _ laws_heldRunS.dec).trans (by rw [laws_heldRunS.kt_dec]; exact hz), fun rs os h ho => laws_heldRunS.inj _ _ h ho⟩
/-! ### loop.example/g00119/laws.heldIsle: function 36 -/
noncomputable def laws_heldIsle.g {β : Type} (k : Nat) (a0_0 : ByteArray) (a0_1 : Int) (a0_2 : Int) (a0_3 : List (List D)) (a0_4 : List (List D)) (a1 : Int) (K : Int → Option β) : Option β :=
  laws_heldWorkS.f k a0_3 a1 (fun y315 => bif (decide ((y315 : Int) < 0)) then (K (-1)) else (laws_heldRunS.f k a0_4 y315 (fun y316 => bif (decide ((y316 : Int) < 0)) then (K (-1)) else (K y316))))
noncomputable def laws_heldIsle.t (k : Nat) (a0_0 : ByteArray) (a0_1 : Int) (a0_2 : Int) (a0_3 : List (List D)) (a0_4 : List (List D)) (a1 : Int) : Option (Int) := laws_heldIsle.g k a0_0 a0_1 a0_2 a0_3 a0_4 a1 (fun z0 => some z0)
noncomputable def laws_heldIsle.f {β : Type} (k : Nat) (a0_0 : ByteArray) (a0_1 : Int) (a0_2 : Int) (a0_3 : List (List D)) (a0_4 : List (List D)) (a1 : Int) (K : Int → Option β) : Option β :=
  match laws_heldIsle.t k a0_0 a0_1 a0_2 a0_3 a0_4 a1 with
  | some z0 => K z0
  | none => none
noncomputable def laws_heldIsle.as (a0_0 : ByteArray) (a0_1 : Int) (a0_2 : Int) (a0_3 : List (List D)) (a0_4 : List (List D)) (a1 : Int) : List A := [.agg [.str a0_0, .int .i64 a0_1, .int .i64 a0_2, .sl a0_3, .sl a0_4], .d (.int .i64 a1)]
noncomputable def laws_heldIsle.kt {β : Type} (a0_0 : ByteArray) (a0_1 : Int) (a0_2 : Int) (a0_3 : List (List D)) (a0_4 : List (List D)) (a1 : Int) (K0 : List (List C) → List Out → Option β) : Int → Option β := fun z0 => K0 [[.d (.int .i64 z0)]] []
noncomputable def laws_heldIsle.e (k : Nat) : Entry := { modes := [(.imm, 0), (.imm, 0)], rts := [3], al := false, run := fun {β} l K => match l with | [.agg [.str a0_0, .int .i64 a0_1, .int .i64 a0_2, .sl a0_3, .sl a0_4], .d (.int .i64 a1)] => laws_heldIsle.f k a0_0 a0_1 a0_2 a0_3 a0_4 a1 (laws_heldIsle.kt a0_0 a0_1 a0_2 a0_3 a0_4 a1 K) | _ => none }
noncomputable def laws_heldIsle.E (k : Nat) : Env := fun g => bif g == 96 then some (laws_heldWorkS.e k) else bif g == 97 then some (laws_heldRunS.e k) else none
noncomputable def laws_heldIsle.h : Hints := ⟨fun n => ⟨[], []⟩, fun _ => none, false, []⟩
theorem laws_heldIsle.f_eq {β : Type} (k : Nat) (a0_0 : ByteArray) (a0_1 : Int) (a0_2 : Int) (a0_3 : List (List D)) (a0_4 : List (List D)) (a1 : Int) (K0 : List (List C) → List Out → Option β) : funDen Try.prog (laws_heldIsle.E k) laws_heldIsle.h k Try.f36 (laws_heldIsle.as a0_0 a0_1 a0_2 a0_3 a0_4 a1) K0 = laws_heldIsle.g k a0_0 a0_1 a0_2 a0_3 a0_4 a1 (laws_heldIsle.kt a0_0 a0_1 a0_2 a0_3 a0_4 a1 K0) := by kernel_rfl
noncomputable def laws_heldIsle.dec (rs : List (List C)) (os : List Out) : Option (Int) := uncons rs fun c1 r2 => uncons c1 fun x3 l4 => cD x3 fun d5 => dInt .i64 d5 fun w0 => atEnd l4 <| atEnd r2 <| atEnd os (some w0)
theorem laws_heldIsle.kt_dec (a0_0 : ByteArray) (a0_1 : Int) (a0_2 : Int) (a0_3 : List (List D)) (a0_4 : List (List D)) (a1 : Int) : laws_heldIsle.kt a0_0 a0_1 a0_2 a0_3 a0_4 a1 laws_heldIsle.dec = (fun z0 => some z0) := by kernel_rfl
theorem laws_heldIsle.inj (a0_0 : ByteArray) (a0_1 : Int) (a0_2 : Int) (a0_3 : List (List D)) (a0_4 : List (List D)) (a1 : Int) {rs : List (List C)} {os : List Out} {z0 : Int} (h : laws_heldIsle.dec rs os = some z0) (ho : OutShape (laws_heldIsle.as a0_0 a0_1 a0_2 a0_3 a0_4 a1) os) : rs = [[.d (.int .i64 z0)]] ∧ os = [] := by
  unfold laws_heldIsle.dec at h
  obtain ⟨c1, r2, rfl, h1⟩ := uncons_some h
  obtain ⟨x3, l4, rfl, h2⟩ := uncons_some h1
  obtain ⟨d5, rfl, h3⟩ := cD_some h2
  obtain ⟨w0, rfl, h4⟩ := dInt_some h3
  obtain ⟨rfl, h5⟩ := atEnd_some h4
  obtain ⟨rfl, h6⟩ := atEnd_some h5
  obtain ⟨rfl, h7⟩ := atEnd_some h6
  obtain rfl := Option.some.inj h7
  exact ⟨rfl, rfl⟩
theorem laws_heldIsle.ok (k : Nat) : EntryOK Try.prog 36 (laws_heldIsle.e k) := by
  refine entry_of mix tyok (fn := Try.f36) (c := codeOf Try.f36) Try.func36 (by kernel_rfl) (h := laws_heldIsle.h) (k := k) (E := laws_heldIsle.E k) (env_cons (laws_heldWorkS.ok k) (env_cons (laws_heldRunS.ok k) env_nil)) (by kernel_rfl) (by kernel_rfl) rfl (enter_of Try.func36 (by kernel_rfl)) ?_
  intro β l K r hr
  simp only [laws_heldIsle.e] at hr
  split at hr
  case h_2 => cases hr
  unfold laws_heldIsle.f at hr
  split at hr
  case h_2 => cases hr
  rename_i hz
  exact ⟨_, _, hr, _, laws_heldIsle.dec, _, (laws_heldIsle.f_eq k _ _ _ _ _ _ laws_heldIsle.dec).trans (by rw [laws_heldIsle.kt_dec]; exact hz), fun rs os h ho => laws_heldIsle.inj _ _ _ _ _ _ h ho⟩
/-! ### loop.example/g00119/laws.FnExactIsleNew: function 7 -/
noncomputable def laws_FnExactIsleNew.g {β : Type} (k : Nat) (a0 : ByteArray) (a1 : Int) (K : Bool → Option β) : Option β :=
  bif (decide (((a0.size : Int) : Int) > 1048576)) then (K true) else (spec_IsleNew.f k a0 a1 (fun y19 y20 y21 y22 y23 y24 => impl_IsleNew.f k a0 a1 (fun y25 y26 y27 y28 y29 y30 => laws_eqIsle.f k y25 y26 y27 (C.immRows y28) (C.immRows y29) y19 y20 y21 (C.immRows y22) (C.immRows y23) (fun y117 => bif (!y117) then (K false) else (bif (!(y30 == y24)) then (K false) else (laws_markIsle.f k y25 y26 y27 y28 y29 1 (fun y118 y119 y120 => guardP (y119.length = y28.length) (guardP (y120.length = y29.length) (laws_heldIsle.f k y25 y26 y27 (C.immRows y119) (C.immRows y120) 1 (fun y317 => bif (decide ((y317 : Int) < 0)) then (K false) else (bif ((y317 : Int) != y118) then (K false) else (impl_IsleNew.f k a0 a1 (fun y318 y319 y320 y321 y322 y323 => laws_eqIsle.f k y318 y319 y320 (C.immRows y321) (C.immRows y322) y19 y20 y21 (C.immRows y22) (C.immRows y23) (fun y324 => bif (!y324) then (K false) else (bif (!(y323 == y24)) then (K false) else (laws_heldIsle.f k y25 y26 y27 (C.immRows y119) (C.immRows y120) 1 (fun y325 => bif (decide ((y325 : Int) < 0)) then (K false) else (bif ((y325 : Int) != y118) then (K false) else (K true)))))))))))))))))))
noncomputable def laws_FnExactIsleNew.t (k : Nat) (a0 : ByteArray) (a1 : Int) : Option (Bool) := laws_FnExactIsleNew.g k a0 a1 (fun z0 => some z0)
noncomputable def laws_FnExactIsleNew.f {β : Type} (k : Nat) (a0 : ByteArray) (a1 : Int) (K : Bool → Option β) : Option β :=
  match laws_FnExactIsleNew.t k a0 a1 with
  | some z0 => K z0
  | none => none
noncomputable def laws_FnExactIsleNew.as (a0 : ByteArray) (a1 : Int) : List A := [.d (.str a0), .d (.int .i64 a1)]
noncomputable def laws_FnExactIsleNew.kt {β : Type} (a0 : ByteArray) (a1 : Int) (K0 : List (List C) → List Out → Option β) : Bool → Option β := fun z0 => K0 [[.d (.bool z0)]] []
noncomputable def laws_FnExactIsleNew.e (k : Nat) : Entry := { modes := [(.imm, 0), (.imm, 0)], rts := [4], al := false, run := fun {β} l K => match l with | [.d (.str a0), .d (.int .i64 a1)] => laws_FnExactIsleNew.f k a0 a1 (laws_FnExactIsleNew.kt a0 a1 K) | _ => none }
noncomputable def laws_FnExactIsleNew.E (k : Nat) : Env := fun g => bif g == 32 then some (spec_IsleNew.e k) else bif g == 33 then some (impl_IsleNew.e k) else bif g == 34 then some (laws_eqIsle.e k) else bif g == 35 then some (laws_markIsle.e k) else bif g == 36 then some (laws_heldIsle.e k) else none
noncomputable def laws_FnExactIsleNew.h : Hints := ⟨fun n => ⟨[], []⟩, fun _ => none, false, []⟩
theorem laws_FnExactIsleNew.f_eq {β : Type} (k : Nat) (a0 : ByteArray) (a1 : Int) (K0 : List (List C) → List Out → Option β) : funDen Try.prog (laws_FnExactIsleNew.E k) laws_FnExactIsleNew.h k Try.f7 (laws_FnExactIsleNew.as a0 a1) K0 = laws_FnExactIsleNew.g k a0 a1 (laws_FnExactIsleNew.kt a0 a1 K0) := by kernel_rfl
noncomputable def laws_FnExactIsleNew.dec (rs : List (List C)) (os : List Out) : Option (Bool) := uncons rs fun c1 r2 => uncons c1 fun x3 l4 => cD x3 fun d5 => dBool d5 fun w0 => atEnd l4 <| atEnd r2 <| atEnd os (some w0)
theorem laws_FnExactIsleNew.kt_dec (a0 : ByteArray) (a1 : Int) : laws_FnExactIsleNew.kt a0 a1 laws_FnExactIsleNew.dec = (fun z0 => some z0) := by kernel_rfl
theorem laws_FnExactIsleNew.inj (a0 : ByteArray) (a1 : Int) {rs : List (List C)} {os : List Out} {z0 : Bool} (h : laws_FnExactIsleNew.dec rs os = some z0) (ho : OutShape (laws_FnExactIsleNew.as a0 a1) os) : rs = [[.d (.bool z0)]] ∧ os = [] := by
  unfold laws_FnExactIsleNew.dec at h
  obtain ⟨c1, r2, rfl, h1⟩ := uncons_some h
  obtain ⟨x3, l4, rfl, h2⟩ := uncons_some h1
  obtain ⟨d5, rfl, h3⟩ := cD_some h2
  obtain ⟨w0, rfl, h4⟩ := dBool_some h3
  obtain ⟨rfl, h5⟩ := atEnd_some h4
  obtain ⟨rfl, h6⟩ := atEnd_some h5
  obtain ⟨rfl, h7⟩ := atEnd_some h6
  obtain rfl := Option.some.inj h7
  exact ⟨rfl, rfl⟩
theorem laws_FnExactIsleNew.ok (k : Nat) : EntryOK Try.prog 7 (laws_FnExactIsleNew.e k) := by
  refine entry_of mix tyok (fn := Try.f7) (c := codeOf Try.f7) Try.func7 (by kernel_rfl) (h := laws_FnExactIsleNew.h) (k := k) (E := laws_FnExactIsleNew.E k) (env_cons (spec_IsleNew.ok k) (env_cons (impl_IsleNew.ok k) (env_cons (laws_eqIsle.ok k) (env_cons (laws_markIsle.ok k) (env_cons (laws_heldIsle.ok k) env_nil))))) (by kernel_rfl) (by kernel_rfl) rfl (enter_of Try.func7 (by kernel_rfl)) ?_
  intro β l K r hr
  simp only [laws_FnExactIsleNew.e] at hr
  split at hr
  case h_2 => cases hr
  unfold laws_FnExactIsleNew.f at hr
  split at hr
  case h_2 => cases hr
  rename_i hz
  exact ⟨_, _, hr, _, laws_FnExactIsleNew.dec, _, (laws_FnExactIsleNew.f_eq k _ _ laws_FnExactIsleNew.dec).trans (by rw [laws_FnExactIsleNew.kt_dec]; exact hz), fun rs os h ho => laws_FnExactIsleNew.inj _ _ h ho⟩
end Go.Proofs.Ytnlhhhkeigjnoaa
