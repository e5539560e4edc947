/- Printed: the functions that FnExactHubNew reaches, read by the evaluator, each with its contract. -/
import Derived.Test.YtnlhhhkeigjnoaaTLibs
import Derived.Test.YtnlhhhkeigjnoaaProg
import Derived.KernelRfl
set_option linter.unusedVariables false
set_option linter.unusedSimpArgs false
namespace Go.Proofs.Ytnlhhhkeigjnoaa
open Go Go.T Go.Proofs
theorem mix : Try.prog.follows .mixedOrders = true := by kernel_rfl
theorem tyok : TyOk Try.prog := tyOk_of (by kernel_rfl)
noncomputable def spec_HubNew.g {β : Type} (k : Nat) (K : Int → Int → Int → (List (List C)) → (List (List C)) → (List (List C)) → (List (List C)) → Option β) : Option β :=
  K 0 1 0 ([] : List (List C)) ([] : List (List C)) ([] : List (List C)) ([] : List (List C))
noncomputable def spec_HubNew.t (k : Nat) : Option (Int × Int × Int × (List (List C)) × (List (List C)) × (List (List C)) × (List (List C))) := spec_HubNew.g k (fun z0 z1 z2 z3 z4 z5 z6 => some (z0, z1, z2, z3, z4, z5, z6))
noncomputable def spec_HubNew.f {β : Type} (k : Nat) (K : Int → Int → Int → (List (List C)) → (List (List C)) → (List (List C)) → (List (List C)) → Option β) : Option β :=
  match spec_HubNew.t k with
  | some (z0, z1, z2, z3, z4, z5, z6) => K z0 z1 z2 z3 z4 z5 z6
  | none => none
noncomputable def spec_HubNew.as : List A := []
noncomputable def spec_HubNew.kt {β : Type} (K0 : List (List C) → List Out → Option β) : Int → Int → Int → (List (List C)) → (List (List C)) → (List (List C)) → (List (List C)) → Option β := fun z0 z1 z2 z3 z4 z5 z6 => K0 [[.d (.int .i64 z0), .d (.int .i64 z1), .d (.int .i64 z2), .own z3, .own z4, .own z5, .own z6]] []
noncomputable def spec_HubNew.e (k : Nat) : Entry := { modes := [], rts := [98], al := false, run := fun {β} l K => match l with | [] => spec_HubNew.f k (spec_HubNew.kt K) | _ => none }
noncomputable def spec_HubNew.E (k : Nat) : Env := fun g => none
noncomputable def spec_HubNew.h : Hints := ⟨fun n => ⟨[], []⟩, fun _ => none, false, []⟩
theorem spec_HubNew.f_eq {β : Type} (k : Nat) (K0 : List (List C) → List Out → Option β) : funDen Try.prog (spec_HubNew.E k) spec_HubNew.h k Try.f55 (spec_HubNew.as) K0 = spec_HubNew.g k (spec_HubNew.kt K0) := by kernel_rfl
noncomputable def spec_HubNew.dec (rs : List (List C)) (os : List Out) : Option (Int × Int × Int × (List (List C)) × (List (List C)) × (List (List C)) × (List (List C))) := uncons rs fun c1 r2 => uncons c1 fun x3 l4 => cD x3 fun d5 => dInt .i64 d5 fun w0 => uncons l4 fun x6 l7 => cD x6 fun d8 => dInt .i64 d8 fun w1 => uncons l7 fun x9 l10 => cD x9 fun d11 => dInt .i64 d11 fun w2 => uncons l10 fun x12 l13 => cOwn x12 fun w3 => uncons l13 fun x14 l15 => cOwn x14 fun w4 => uncons l15 fun x16 l17 => cOwn x16 fun w5 => uncons l17 fun x18 l19 => cOwn x18 fun w6 => atEnd l19 <| atEnd r2 <| atEnd os (some (w0, w1, w2, w3, w4, w5, w6))
theorem spec_HubNew.kt_dec : spec_HubNew.kt spec_HubNew.dec = (fun z0 z1 z2 z3 z4 z5 z6 => some (z0, z1, z2, z3, z4, z5, z6)) := by kernel_rfl
theorem spec_HubNew.inj {rs : List (List C)} {os : List Out} {z0 : Int} {z1 : Int} {z2 : Int} {z3 : List (List C)} {z4 : List (List C)} {z5 : List (List C)} {z6 : List (List C)} (h : spec_HubNew.dec rs os = some (z0, z1, z2, z3, z4, z5, z6)) (ho : OutShape (spec_HubNew.as) os) : rs = [[.d (.int .i64 z0), .d (.int .i64 z1), .d (.int .i64 z2), .own z3, .own z4, .own z5, .own z6]] ∧ os = [] := by
  unfold spec_HubNew.dec at h
  obtain ⟨c1, r2, rfl, h1⟩ := uncons_some h
  obtain ⟨x3, l4, rfl, h2⟩ := uncons_some h1
  obtain ⟨d5, rfl, h3⟩ := cD_some h2
  obtain ⟨w0, rfl, h4⟩ := dInt_some h3
  obtain ⟨x6, l7, rfl, h5⟩ := uncons_some h4
  obtain ⟨d8, rfl, h6⟩ := cD_some h5
  obtain ⟨w1, rfl, h7⟩ := dInt_some h6
  obtain ⟨x9, l10, rfl, h8⟩ := uncons_some h7
  obtain ⟨d11, rfl, h9⟩ := cD_some h8
  obtain ⟨w2, rfl, h10⟩ := dInt_some h9
  obtain ⟨x12, l13, rfl, h11⟩ := uncons_some h10
  obtain ⟨w3, rfl, h12⟩ := cOwn_some h11
  obtain ⟨x14, l15, rfl, h13⟩ := uncons_some h12
  obtain ⟨w4, rfl, h14⟩ := cOwn_some h13
  obtain ⟨x16, l17, rfl, h15⟩ := uncons_some h14
  obtain ⟨w5, rfl, h16⟩ := cOwn_some h15
  obtain ⟨x18, l19, rfl, h17⟩ := uncons_some h16
  obtain ⟨w6, rfl, h18⟩ := cOwn_some h17
  obtain ⟨rfl, h19⟩ := atEnd_some h18
  obtain ⟨rfl, h20⟩ := atEnd_some h19
  obtain ⟨rfl, h21⟩ := atEnd_some h20
  simp only [Option.some.injEq, Prod.mk.injEq] at h21
  obtain ⟨rfl, rfl, rfl, rfl, rfl, rfl, rfl⟩ := h21
  exact ⟨rfl, rfl⟩
theorem spec_HubNew.ok (k : Nat) : EntryOK Try.prog 55 (spec_HubNew.e k) := by
  refine entry_of mix tyok (fn := Try.f55) (c := codeOf Try.f55) Try.func55 (by kernel_rfl) (h := spec_HubNew.h) (k := k) (E := spec_HubNew.E k) env_nil (by kernel_rfl) (by kernel_rfl) rfl (enter_of Try.func55 (by kernel_rfl)) ?_
  intro β l K r hr
  simp only [spec_HubNew.e] at hr
  split at hr
  case h_2 => cases hr
  unfold spec_HubNew.f at hr
  split at hr
  case h_2 => cases hr
  rename_i hz
  exact ⟨_, _, hr, _, spec_HubNew.dec, _, (spec_HubNew.f_eq k spec_HubNew.dec).trans (by rw [spec_HubNew.kt_dec]; exact hz), fun rs os h ho => spec_HubNew.inj h ho⟩
noncomputable def impl_HubNew.g {β : Type} (k : Nat) (K : Int → Int → Int → (List (List C)) → (List (List C)) → (List (List C)) → (List (List C)) → Option β) : Option β :=
  K 0 1 0 ([] : List (List C)) ([] : List (List C)) ([] : List (List C)) ([] : List (List C))
noncomputable def impl_HubNew.t (k : Nat) : Option (Int × Int × Int × (List (List C)) × (List (List C)) × (List (List C)) × (List (List C))) := impl_HubNew.g k (fun z0 z1 z2 z3 z4 z5 z6 => some (z0, z1, z2, z3, z4, z5, z6))
noncomputable def impl_HubNew.f {β : Type} (k : Nat) (K : Int → Int → Int → (List (List C)) → (List (List C)) → (List (List C)) → (List (List C)) → Option β) : Option β :=
  match impl_HubNew.t k with
  | some (z0, z1, z2, z3, z4, z5, z6) => K z0 z1 z2 z3 z4 z5 z6
  | none => none
noncomputable def impl_HubNew.as : List A := []
noncomputable def impl_HubNew.kt {β : Type} (K0 : List (List C) → List Out → Option β) : Int → Int → Int → (List (List C)) → (List (List C)) → (List (List C)) → (List (List C)) → Option β := fun z0 z1 z2 z3 z4 z5 z6 => K0 [[.d (.int .i64 z0), .d (.int .i64 z1), .d (.int .i64 z2), .own z3, .own z4, .own z5, .own z6]] []
noncomputable def impl_HubNew.e (k : Nat) : Entry := { modes := [], rts := [98], al := false, run := fun {β} l K => match l with | [] => impl_HubNew.f k (impl_HubNew.kt K) | _ => none }
noncomputable def impl_HubNew.E (k : Nat) : Env := fun g => none
noncomputable def impl_HubNew.h : Hints := ⟨fun n => ⟨[], []⟩, fun _ => none, false, []⟩
theorem impl_HubNew.f_eq {β : Type} (k : Nat) (K0 : List (List C) → List Out → Option β) : funDen Try.prog (impl_HubNew.E k) impl_HubNew.h k Try.f56 (impl_HubNew.as) K0 = impl_HubNew.g k (impl_HubNew.kt K0) := by kernel_rfl
noncomputable def impl_HubNew.dec (rs : List (List C)) (os : List Out) : Option (Int × Int × Int × (List (List C)) × (List (List C)) × (List (List C)) × (List (List C))) := uncons rs fun c1 r2 => uncons c1 fun x3 l4 => cD x3 fun d5 => dInt .i64 d5 fun w0 => uncons l4 fun x6 l7 => cD x6 fun d8 => dInt .i64 d8 fun w1 => uncons l7 fun x9 l10 => cD x9 fun d11 => dInt .i64 d11 fun w2 => uncons l10 fun x12 l13 => cOwn x12 fun w3 => uncons l13 fun x14 l15 => cOwn x14 fun w4 => uncons l15 fun x16 l17 => cOwn x16 fun w5 => uncons l17 fun x18 l19 => cOwn x18 fun w6 => atEnd l19 <| atEnd r2 <| atEnd os (some (w0, w1, w2, w3, w4, w5, w6))
theorem impl_HubNew.kt_dec : impl_HubNew.kt impl_HubNew.dec = (fun z0 z1 z2 z3 z4 z5 z6 => some (z0, z1, z2, z3, z4, z5, z6)) := by kernel_rfl
theorem impl_HubNew.inj {rs : List (List C)} {os : List Out} {z0 : Int} {z1 : Int} {z2 : Int} {z3 : List (List C)} {z4 : List (List C)} {z5 : List (List C)} {z6 : List (List C)} (h : impl_HubNew.dec rs os = some (z0, z1, z2, z3, z4, z5, z6)) (ho : OutShape (impl_HubNew.as) os) : rs = [[.d (.int .i64 z0), .d (.int .i64 z1), .d (.int .i64 z2), .own z3, .own z4, .own z5, .own z6]] ∧ os = [] := by
  unfold impl_HubNew.dec at h
  obtain ⟨c1, r2, rfl, h1⟩ := uncons_some h
  obtain ⟨x3, l4, rfl, h2⟩ := uncons_some h1
  obtain ⟨d5, rfl, h3⟩ := cD_some h2
  obtain ⟨w0, rfl, h4⟩ := dInt_some h3
  obtain ⟨x6, l7, rfl, h5⟩ := uncons_some h4
  obtain ⟨d8, rfl, h6⟩ := cD_some h5
  obtain ⟨w1, rfl, h7⟩ := dInt_some h6
  obtain ⟨x9, l10, rfl, h8⟩ := uncons_some h7
  obtain ⟨d11, rfl, h9⟩ := cD_some h8
  obtain ⟨w2, rfl, h10⟩ := dInt_some h9
  obtain ⟨x12, l13, rfl, h11⟩ := uncons_some h10
  obtain ⟨w3, rfl, h12⟩ := cOwn_some h11
  obtain ⟨x14, l15, rfl, h13⟩ := uncons_some h12
  obtain ⟨w4, rfl, h14⟩ := cOwn_some h13
  obtain ⟨x16, l17, rfl, h15⟩ := uncons_some h14
  obtain ⟨w5, rfl, h16⟩ := cOwn_some h15
  obtain ⟨x18, l19, rfl, h17⟩ := uncons_some h16
  obtain ⟨w6, rfl, h18⟩ := cOwn_some h17
  obtain ⟨rfl, h19⟩ := atEnd_some h18
  obtain ⟨rfl, h20⟩ := atEnd_some h19
  obtain ⟨rfl, h21⟩ := atEnd_some h20
  simp only [Option.some.injEq, Prod.mk.injEq] at h21
  obtain ⟨rfl, rfl, rfl, rfl, rfl, rfl, rfl⟩ := h21
  exact ⟨rfl, rfl⟩
theorem impl_HubNew.ok (k : Nat) : EntryOK Try.prog 56 (impl_HubNew.e k) := by
  refine entry_of mix tyok (fn := Try.f56) (c := codeOf Try.f56) Try.func56 (by kernel_rfl) (h := impl_HubNew.h) (k := k) (E := impl_HubNew.E k) env_nil (by kernel_rfl) (by kernel_rfl) rfl (enter_of Try.func56 (by kernel_rfl)) ?_
  intro β l K r hr
  simp only [impl_HubNew.e] at hr
  split at hr
  case h_2 => cases hr
  unfold impl_HubNew.f at hr
  split at hr
  case h_2 => cases hr
  rename_i hz
  exact ⟨_, _, hr, _, impl_HubNew.dec, _, (impl_HubNew.f_eq k impl_HubNew.dec).trans (by rw [impl_HubNew.kt_dec]; exact hz), fun rs os h ho => impl_HubNew.inj h ho⟩
noncomputable def laws_eqStringS.l0 {β : Type} (k : Nat) (v0_0 : List (List D)) (v0_1 : List (List D)) (K : Bool → Option β) (L0 : Int → Option β) (v : Int) : Option β :=
  match v with
  | v0_2 => bif (decide ((v0_2 : Int) < (v0_0.length : Int))) then (atRow v0_0 v0_2 fun c9 => uncons c9 fun d10 r11 => dStr d10 fun x12 => atEnd r11 (atRow v0_1 v0_2 fun c13 => uncons c13 fun d14 r15 => dStr d14 fun x16 => atEnd r15 (bif (!(strEq x12 x16)) then (K false) else (L0 (IntKind.wrap .i64 (v0_2 + 1)))))) else (K true)
noncomputable def laws_eqStringS.g {β : Type} (k : Nat) (a0 : List (List D)) (a1 : List (List D)) (K : Bool → Option β) : Option β :=
  bif (((a0.length : Int) : Int) != (a1.length : Int)) then (K false) else (iter (laws_eqStringS.l0 k a0 a1 K) k (0))
noncomputable def laws_eqStringS.t (k : Nat) (a0 : List (List D)) (a1 : List (List D)) : Option (Bool) := laws_eqStringS.g k a0 a1 (fun z0 => some z0)
noncomputable def laws_eqStringS.f {β : Type} (k : Nat) (a0 : List (List D)) (a1 : List (List D)) (K : Bool → Option β) : Option β :=
  match laws_eqStringS.t k a0 a1 with
  | some z0 => K z0
  | none => none
noncomputable def laws_eqStringS.as (a0 : List (List D)) (a1 : List (List D)) : List A := [.d (.sl a0), .d (.sl a1)]
noncomputable def laws_eqStringS.kt {β : Type} (a0 : List (List D)) (a1 : List (List D)) (K0 : List (List C) → List Out → Option β) : Bool → Option β := fun z0 => K0 [[.d (.bool z0)]] []
noncomputable def laws_eqStringS.e (k : Nat) : Entry := { modes := [(.imm, 0), (.imm, 0)], rts := [4], al := false, run := fun {β} l K => match l with | [.d (.sl a0), .d (.sl a1)] => laws_eqStringS.f k a0 a1 (laws_eqStringS.kt a0 a1 K) | _ => none }
noncomputable def laws_eqStringS.E (k : Nat) : Env := fun g => none
noncomputable def laws_eqStringS.h : Hints := ⟨fun n => bif n == 4 then ⟨[(0, .asis), (1, .asis), (5, .asis)], []⟩ else ⟨[], []⟩, fun _ => none, false, []⟩
noncomputable def laws_eqStringS.s0 (v0_0 : List (List D)) (v0_1 : List (List D)) (v : Int) : St :=
  match v with
  | v0_2 => ⟨[.d false (.sl v0_0), .d false (.sl v0_1), .any, .any, .any, .d true (.int .i64 v0_2), .any, .any, .any, .any, .any, .any, .any, .any, .any, .any, .any, .any, .any, .any, .any, .any, .any, .any, .any, .any], []⟩
noncomputable def laws_eqStringS.b0 {β : Type} (k : Nat) : St → (Ex → St → Option β) → Option β := fun s K => den Try.prog (laws_eqStringS.E k) laws_eqStringS.h.H laws_eqStringS.h.J k (codeAt [1, 1, 0, 1, 0, 0] (codeOf Try.f77)) s K
noncomputable def laws_eqStringS.c0 {β : Type} (k : Nat) (a0 : List (List D)) (a1 : List (List D)) (K0 : List (List C) → List Out → Option β) : Ex → St → Option β := contAt Try.prog (laws_eqStringS.E k) laws_eqStringS.h k [1, 1, 0, 1, 0] (codeOf Try.f77) (finDen Try.prog Try.f77 laws_eqStringS.h (laws_eqStringS.as a0 a1) K0)
theorem laws_eqStringS.l0_eq {β : Type} (k : Nat) (a0 : List (List D)) (a1 : List (List D)) (K0 : List (List C) → List Out → Option β) (v0_0 : List (List D)) (v0_1 : List (List D)) : ∀ (kk : Nat) (v : Int), loopDen (laws_eqStringS.b0 k) (laws_eqStringS.h.H 4) kk (laws_eqStringS.s0 v0_0 v0_1 v) (laws_eqStringS.c0 k a0 a1 K0) = iter (laws_eqStringS.l0 k v0_0 v0_1 (laws_eqStringS.kt a0 a1 K0)) kk v :=
  loop_eq (laws_eqStringS.s0 v0_0 v0_1) _ (fun L0 v => by kernel_rfl)
noncomputable def laws_eqStringS.m {β : Type} (k : Nat) (a0 : List (List D)) (a1 : List (List D)) (K0 : List (List C) → List Out → Option β) (F : ((List (List D)) → (List (List D)) → Int → Option β)) : Option β :=
  bif (((a0.length : Int) : Int) != (a1.length : Int)) then ((laws_eqStringS.kt a0 a1 K0) false) else ((F) a0 a1 (0))
theorem laws_eqStringS.f_eq {β : Type} (k : Nat) (a0 : List (List D)) (a1 : List (List D)) (K0 : List (List C) → List Out → Option β) : funDen Try.prog (laws_eqStringS.E k) laws_eqStringS.h k Try.f77 (laws_eqStringS.as a0 a1) K0 = laws_eqStringS.g k a0 a1 (laws_eqStringS.kt a0 a1 K0) := Eq.trans (b := (laws_eqStringS.m k a0 a1 K0) (fun (v0_0 : List (List D)) (v0_1 : List (List D)) (v : Int) => loopDen (laws_eqStringS.b0 k) (laws_eqStringS.h.H 4) k (laws_eqStringS.s0 v0_0 v0_1 v) (laws_eqStringS.c0 k a0 a1 K0))) (by kernel_rfl) (Eq.trans (congrArg (laws_eqStringS.m k a0 a1 K0) (funext fun v0_0 => funext fun v0_1 => funext fun v => laws_eqStringS.l0_eq k a0 a1 K0 v0_0 v0_1 k v)) (by kernel_rfl))
noncomputable def laws_eqStringS.dec (rs : List (List C)) (os : List Out) : Option (Bool) := uncons rs fun c1 r2 => uncons c1 fun x3 l4 => cD x3 fun d5 => dBool d5 fun w0 => atEnd l4 <| atEnd r2 <| atEnd os (some w0)
theorem laws_eqStringS.kt_dec (a0 : List (List D)) (a1 : List (List D)) : laws_eqStringS.kt a0 a1 laws_eqStringS.dec = (fun z0 => some z0) := by kernel_rfl
theorem laws_eqStringS.inj (a0 : List (List D)) (a1 : List (List D)) {rs : List (List C)} {os : List Out} {z0 : Bool} (h : laws_eqStringS.dec rs os = some z0) (ho : OutShape (laws_eqStringS.as a0 a1) os) : rs = [[.d (.bool z0)]] ∧ os = [] := by
  unfold laws_eqStringS.dec at h
  obtain ⟨c1, r2, rfl, h1⟩ := uncons_some h
  obtain ⟨x3, l4, rfl, h2⟩ := uncons_some h1
  obtain ⟨d5, rfl, h3⟩ := cD_some h2
  obtain ⟨w0, rfl, h4⟩ := dBool_some h3
  obtain ⟨rfl, h5⟩ := atEnd_some h4
  obtain ⟨rfl, h6⟩ := atEnd_some h5
  obtain ⟨rfl, h7⟩ := atEnd_some h6
  obtain rfl := Option.some.inj h7
  exact ⟨rfl, rfl⟩
theorem laws_eqStringS.ok (k : Nat) : EntryOK Try.prog 77 (laws_eqStringS.e k) := by
  refine entry_of mix tyok (fn := Try.f77) (c := codeOf Try.f77) Try.func77 (by kernel_rfl) (h := laws_eqStringS.h) (k := k) (E := laws_eqStringS.E k) env_nil (by kernel_rfl) (by kernel_rfl) rfl (enter_of Try.func77 (by kernel_rfl)) ?_
  intro β l K r hr
  simp only [laws_eqStringS.e] at hr
  split at hr
  case h_2 => cases hr
  unfold laws_eqStringS.f at hr
  split at hr
  case h_2 => cases hr
  rename_i hz
  exact ⟨_, _, hr, _, laws_eqStringS.dec, _, (laws_eqStringS.f_eq k _ _ laws_eqStringS.dec).trans (by rw [laws_eqStringS.kt_dec]; exact hz), fun rs os h ho => laws_eqStringS.inj _ _ h ho⟩
noncomputable def laws_eqTerm.g {β : Type} (k : Nat) (a0_0 : Int) (a0_1 : ByteArray) (a0_2 : List (List D)) (a1_0 : Int) (a1_1 : ByteArray) (a1_2 : List (List D)) (K : Bool → Option β) : Option β :=
  bif ((a0_0 : Int) != a1_0) then (K false) else (bif (!(strEq a0_1 a1_1)) then (K false) else (laws_eqStringS.f k a0_2 a1_2 (fun y17 => bif (!y17) then (K false) else (K true))))
noncomputable def laws_eqTerm.t (k : Nat) (a0_0 : Int) (a0_1 : ByteArray) (a0_2 : List (List D)) (a1_0 : Int) (a1_1 : ByteArray) (a1_2 : List (List D)) : Option (Bool) := laws_eqTerm.g k a0_0 a0_1 a0_2 a1_0 a1_1 a1_2 (fun z0 => some z0)
noncomputable def laws_eqTerm.f {β : Type} (k : Nat) (a0_0 : Int) (a0_1 : ByteArray) (a0_2 : List (List D)) (a1_0 : Int) (a1_1 : ByteArray) (a1_2 : List (List D)) (K : Bool → Option β) : Option β :=
  match laws_eqTerm.t k a0_0 a0_1 a0_2 a1_0 a1_1 a1_2 with
  | some z0 => K z0
  | none => none
noncomputable def laws_eqTerm.as (a0_0 : Int) (a0_1 : ByteArray) (a0_2 : List (List D)) (a1_0 : Int) (a1_1 : ByteArray) (a1_2 : List (List D)) : List A := [.agg [.int .i64 a0_0, .str a0_1, .sl a0_2], .agg [.int .i64 a1_0, .str a1_1, .sl a1_2]]
noncomputable def laws_eqTerm.kt {β : Type} (a0_0 : Int) (a0_1 : ByteArray) (a0_2 : List (List D)) (a1_0 : Int) (a1_1 : ByteArray) (a1_2 : List (List D)) (K0 : List (List C) → List Out → Option β) : Bool → Option β := fun z0 => K0 [[.d (.bool z0)]] []
noncomputable def laws_eqTerm.e (k : Nat) : Entry := { modes := [(.imm, 0), (.imm, 0)], rts := [4], al := false, run := fun {β} l K => match l with | [.agg [.int .i64 a0_0, .str a0_1, .sl a0_2], .agg [.int .i64 a1_0, .str a1_1, .sl a1_2]] => laws_eqTerm.f k a0_0 a0_1 a0_2 a1_0 a1_1 a1_2 (laws_eqTerm.kt a0_0 a0_1 a0_2 a1_0 a1_1 a1_2 K) | _ => none }
noncomputable def laws_eqTerm.E (k : Nat) : Env := fun g => bif g == 77 then some (laws_eqStringS.e k) else none
noncomputable def laws_eqTerm.h : Hints := ⟨fun n => ⟨[], []⟩, fun _ => none, false, []⟩
theorem laws_eqTerm.f_eq {β : Type} (k : Nat) (a0_0 : Int) (a0_1 : ByteArray) (a0_2 : List (List D)) (a1_0 : Int) (a1_1 : ByteArray) (a1_2 : List (List D)) (K0 : List (List C) → List Out → Option β) : funDen Try.prog (laws_eqTerm.E k) laws_eqTerm.h k Try.f142 (laws_eqTerm.as a0_0 a0_1 a0_2 a1_0 a1_1 a1_2) K0 = laws_eqTerm.g k a0_0 a0_1 a0_2 a1_0 a1_1 a1_2 (laws_eqTerm.kt a0_0 a0_1 a0_2 a1_0 a1_1 a1_2 K0) := by kernel_rfl
noncomputable def laws_eqTerm.dec (rs : List (List C)) (os : List Out) : Option (Bool) := uncons rs fun c1 r2 => uncons c1 fun x3 l4 => cD x3 fun d5 => dBool d5 fun w0 => atEnd l4 <| atEnd r2 <| atEnd os (some w0)
theorem laws_eqTerm.kt_dec (a0_0 : Int) (a0_1 : ByteArray) (a0_2 : List (List D)) (a1_0 : Int) (a1_1 : ByteArray) (a1_2 : List (List D)) : laws_eqTerm.kt a0_0 a0_1 a0_2 a1_0 a1_1 a1_2 laws_eqTerm.dec = (fun z0 => some z0) := by kernel_rfl
theorem laws_eqTerm.inj (a0_0 : Int) (a0_1 : ByteArray) (a0_2 : List (List D)) (a1_0 : Int) (a1_1 : ByteArray) (a1_2 : List (List D)) {rs : List (List C)} {os : List Out} {z0 : Bool} (h : laws_eqTerm.dec rs os = some z0) (ho : OutShape (laws_eqTerm.as a0_0 a0_1 a0_2 a1_0 a1_1 a1_2) os) : rs = [[.d (.bool z0)]] ∧ os = [] := by
  unfold laws_eqTerm.dec at h
  obtain ⟨c1, r2, rfl, h1⟩ := uncons_some h
  obtain ⟨x3, l4, rfl, h2⟩ := uncons_some h1
  obtain ⟨d5, rfl, h3⟩ := cD_some h2
  obtain ⟨w0, rfl, h4⟩ := dBool_some h3
  obtain ⟨rfl, h5⟩ := atEnd_some h4
  obtain ⟨rfl, h6⟩ := atEnd_some h5
  obtain ⟨rfl, h7⟩ := atEnd_some h6
  obtain rfl := Option.some.inj h7
  exact ⟨rfl, rfl⟩
theorem laws_eqTerm.ok (k : Nat) : EntryOK Try.prog 142 (laws_eqTerm.e k) := by
  refine entry_of mix tyok (fn := Try.f142) (c := codeOf Try.f142) Try.func142 (by kernel_rfl) (h := laws_eqTerm.h) (k := k) (E := laws_eqTerm.E k) (env_cons (laws_eqStringS.ok k) env_nil) (by kernel_rfl) (by kernel_rfl) rfl (enter_of Try.func142 (by kernel_rfl)) ?_
  intro β l K r hr
  simp only [laws_eqTerm.e] at hr
  split at hr
  case h_2 => cases hr
  unfold laws_eqTerm.f at hr
  split at hr
  case h_2 => cases hr
  rename_i hz
  exact ⟨_, _, hr, _, laws_eqTerm.dec, _, (laws_eqTerm.f_eq k _ _ _ _ _ _ laws_eqTerm.dec).trans (by rw [laws_eqTerm.kt_dec]; exact hz), fun rs os h ho => laws_eqTerm.inj _ _ _ _ _ _ h ho⟩
noncomputable def laws_eqTermS.l0 {β : Type} (k : Nat) (v0_0 : List (List D)) (v0_1 : List (List D)) (K : Bool → Option β) (L0 : Int → Option β) (v : Int) : Option β :=
  match v with
  | v0_2 => bif (decide ((v0_2 : Int) < (v0_0.length : Int))) then (atRow v0_0 v0_2 fun c22 => uncons c22 fun d23 r24 => dInt .i64 d23 fun x25 => uncons r24 fun d26 r27 => dStr d26 fun x28 => uncons r27 fun d29 r30 => dSl d29 fun x31 => atEnd r30 (atRow v0_1 v0_2 fun c32 => uncons c32 fun d33 r34 => dInt .i64 d33 fun x35 => uncons r34 fun d36 r37 => dStr d36 fun x38 => uncons r37 fun d39 r40 => dSl d39 fun x41 => atEnd r40 (laws_eqTerm.f k x25 x28 x31 x35 x38 x41 (fun y42 => bif (!y42) then (K false) else (L0 (IntKind.wrap .i64 (v0_2 + 1))))))) else (K true)
noncomputable def laws_eqTermS.g {β : Type} (k : Nat) (a0 : List (List D)) (a1 : List (List D)) (K : Bool → Option β) : Option β :=
  bif (((a0.length : Int) : Int) != (a1.length : Int)) then (K false) else (iter (laws_eqTermS.l0 k a0 a1 K) k (0))
noncomputable def laws_eqTermS.t (k : Nat) (a0 : List (List D)) (a1 : List (List D)) : Option (Bool) := laws_eqTermS.g k a0 a1 (fun z0 => some z0)
noncomputable def laws_eqTermS.f {β : Type} (k : Nat) (a0 : List (List D)) (a1 : List (List D)) (K : Bool → Option β) : Option β :=
  match laws_eqTermS.t k a0 a1 with
  | some z0 => K z0
  | none => none
noncomputable def laws_eqTermS.as (a0 : List (List D)) (a1 : List (List D)) : List A := [.d (.sl a0), .d (.sl a1)]
noncomputable def laws_eqTermS.kt {β : Type} (a0 : List (List D)) (a1 : List (List D)) (K0 : List (List C) → List Out → Option β) : Bool → Option β := fun z0 => K0 [[.d (.bool z0)]] []
noncomputable def laws_eqTermS.e (k : Nat) : Entry := { modes := [(.imm, 0), (.imm, 0)], rts := [4], al := false, run := fun {β} l K => match l with | [.d (.sl a0), .d (.sl a1)] => laws_eqTermS.f k a0 a1 (laws_eqTermS.kt a0 a1 K) | _ => none }
noncomputable def laws_eqTermS.E (k : Nat) : Env := fun g => bif g == 142 then some (laws_eqTerm.e k) else none
noncomputable def laws_eqTermS.h : Hints := ⟨fun n => bif n == 4 then ⟨[(0, .asis), (1, .asis), (5, .asis)], []⟩ else ⟨[], []⟩, fun _ => none, false, []⟩
noncomputable def laws_eqTermS.s0 (v0_0 : List (List D)) (v0_1 : List (List D)) (v : Int) : St :=
  match v with
  | v0_2 => ⟨[.d false (.sl v0_0), .d false (.sl v0_1), .any, .any, .any, .d true (.int .i64 v0_2), .any, .any, .any, .any, .any, .any, .any, .any, .any, .any, .any, .any, .any, .any, .any, .any, .any, .any, .any, .any, .any], []⟩
noncomputable def laws_eqTermS.b0 {β : Type} (k : Nat) : St → (Ex → St → Option β) → Option β := fun s K => den Try.prog (laws_eqTermS.E k) laws_eqTermS.h.H laws_eqTermS.h.J k (codeAt [1, 1, 0, 1, 0, 0] (codeOf Try.f82)) s K
noncomputable def laws_eqTermS.c0 {β : Type} (k : Nat) (a0 : List (List D)) (a1 : List (List D)) (K0 : List (List C) → List Out → Option β) : Ex → St → Option β := contAt Try.prog (laws_eqTermS.E k) laws_eqTermS.h k [1, 1, 0, 1, 0] (codeOf Try.f82) (finDen Try.prog Try.f82 laws_eqTermS.h (laws_eqTermS.as a0 a1) K0)
theorem laws_eqTermS.l0_eq {β : Type} (k : Nat) (a0 : List (List D)) (a1 : List (List D)) (K0 : List (List C) → List Out → Option β) (v0_0 : List (List D)) (v0_1 : List (List D)) : ∀ (kk : Nat) (v : Int), loopDen (laws_eqTermS.b0 k) (laws_eqTermS.h.H 4) kk (laws_eqTermS.s0 v0_0 v0_1 v) (laws_eqTermS.c0 k a0 a1 K0) = iter (laws_eqTermS.l0 k v0_0 v0_1 (laws_eqTermS.kt a0 a1 K0)) kk v :=
  loop_eq (laws_eqTermS.s0 v0_0 v0_1) _ (fun L0 v => by kernel_rfl)
noncomputable def laws_eqTermS.m {β : Type} (k : Nat) (a0 : List (List D)) (a1 : List (List D)) (K0 : List (List C) → List Out → Option β) (F : ((List (List D)) → (List (List D)) → Int → Option β)) : Option β :=
  bif (((a0.length : Int) : Int) != (a1.length : Int)) then ((laws_eqTermS.kt a0 a1 K0) false) else ((F) a0 a1 (0))
theorem laws_eqTermS.f_eq {β : Type} (k : Nat) (a0 : List (List D)) (a1 : List (List D)) (K0 : List (List C) → List Out → Option β) : funDen Try.prog (laws_eqTermS.E k) laws_eqTermS.h k Try.f82 (laws_eqTermS.as a0 a1) K0 = laws_eqTermS.g k a0 a1 (laws_eqTermS.kt a0 a1 K0) := Eq.trans (b := (laws_eqTermS.m k a0 a1 K0) (fun (v0_0 : List (List D)) (v0_1 : List (List D)) (v : Int) => loopDen (laws_eqTermS.b0 k) (laws_eqTermS.h.H 4) k (laws_eqTermS.s0 v0_0 v0_1 v) (laws_eqTermS.c0 k a0 a1 K0))) (by kernel_rfl) (Eq.trans (congrArg (laws_eqTermS.m k a0 a1 K0) (funext fun v0_0 => funext fun v0_1 => funext fun v => laws_eqTermS.l0_eq k a0 a1 K0 v0_0 v0_1 k v)) (by kernel_rfl))
noncomputable def laws_eqTermS.dec (rs : List (List C)) (os : List Out) : Option (Bool) := uncons rs fun c1 r2 => uncons c1 fun x3 l4 => cD x3 fun d5 => dBool d5 fun w0 => atEnd l4 <| atEnd r2 <| atEnd os (some w0)
theorem laws_eqTermS.kt_dec (a0 : List (List D)) (a1 : List (List D)) : laws_eqTermS.kt a0 a1 laws_eqTermS.dec = (fun z0 => some z0) := by kernel_rfl
theorem laws_eqTermS.inj (a0 : List (List D)) (a1 : List (List D)) {rs : List (List C)} {os : List Out} {z0 : Bool} (h : laws_eqTermS.dec rs os = some z0) (ho : OutShape (laws_eqTermS.as a0 a1) os) : rs = [[.d (.bool z0)]] ∧ os = [] := by
  unfold laws_eqTermS.dec at h
  obtain ⟨c1, r2, rfl, h1⟩ := uncons_some h
  obtain ⟨x3, l4, rfl, h2⟩ := uncons_some h1
  obtain ⟨d5, rfl, h3⟩ := cD_some h2
  obtain ⟨w0, rfl, h4⟩ := dBool_some h3
  obtain ⟨rfl, h5⟩ := atEnd_some h4
  obtain ⟨rfl, h6⟩ := atEnd_some h5
  obtain ⟨rfl, h7⟩ := atEnd_some h6
  obtain rfl := Option.some.inj h7
  exact ⟨rfl, rfl⟩
theorem laws_eqTermS.ok (k : Nat) : EntryOK Try.prog 82 (laws_eqTermS.e k) := by
  refine entry_of mix tyok (fn := Try.f82) (c := codeOf Try.f82) Try.func82 (by kernel_rfl) (h := laws_eqTermS.h) (k := k) (E := laws_eqTermS.E k) (env_cons (laws_eqTerm.ok k) env_nil) (by kernel_rfl) (by kernel_rfl) rfl (enter_of Try.func82 (by kernel_rfl)) ?_
  intro β l K r hr
  simp only [laws_eqTermS.e] at hr
  split at hr
  case h_2 => cases hr
  unfold laws_eqTermS.f at hr
  split at hr
  case h_2 => cases hr
  rename_i hz
  exact ⟨_, _, hr, _, laws_eqTermS.dec, _, (laws_eqTermS.f_eq k _ _ laws_eqTermS.dec).trans (by rw [laws_eqTermS.kt_dec]; exact hz), fun rs os h ho => laws_eqTermS.inj _ _ h ho⟩
noncomputable def laws_eqWeigh.g {β : Type} (k : Nat) (a0_0 : ByteArray) (a0_1 : Int) (a1_0 : ByteArray) (a1_1 : Int) (K : Bool → Option β) : Option β :=
  bif (!(strEq a0_0 a1_0)) then (K false) else (bif ((a0_1 : Int) != a1_1) then (K false) else (K true))
noncomputable def laws_eqWeigh.t (k : Nat) (a0_0 : ByteArray) (a0_1 : Int) (a1_0 : ByteArray) (a1_1 : Int) : Option (Bool) := laws_eqWeigh.g k a0_0 a0_1 a1_0 a1_1 (fun z0 => some z0)
noncomputable def laws_eqWeigh.f {β : Type} (k : Nat) (a0_0 : ByteArray) (a0_1 : Int) (a1_0 : ByteArray) (a1_1 : Int) (K : Bool → Option β) : Option β :=
  match laws_eqWeigh.t k a0_0 a0_1 a1_0 a1_1 with
  | some z0 => K z0
  | none => none
noncomputable def laws_eqWeigh.as (a0_0 : ByteArray) (a0_1 : Int) (a1_0 : ByteArray) (a1_1 : Int) : List A := [.agg [.str a0_0, .int .i64 a0_1], .agg [.str a1_0, .int .i64 a1_1]]
noncomputable def laws_eqWeigh.kt {β : Type} (a0_0 : ByteArray) (a0_1 : Int) (a1_0 : ByteArray) (a1_1 : Int) (K0 : List (List C) → List Out → Option β) : Bool → Option β := fun z0 => K0 [[.d (.bool z0)]] []
noncomputable def laws_eqWeigh.e (k : Nat) : Entry := { modes := [(.imm, 0), (.imm, 0)], rts := [4], al := false, run := fun {β} l K => match l with | [.agg [.str a0_0, .int .i64 a0_1], .agg [.str a1_0, .int .i64 a1_1]] => laws_eqWeigh.f k a0_0 a0_1 a1_0 a1_1 (laws_eqWeigh.kt a0_0 a0_1 a1_0 a1_1 K) | _ => none }
noncomputable def laws_eqWeigh.E (k : Nat) : Env := fun g => none
noncomputable def laws_eqWeigh.h : Hints := ⟨fun n => ⟨[], []⟩, fun _ => none, false, []⟩
theorem laws_eqWeigh.f_eq {β : Type} (k : Nat) (a0_0 : ByteArray) (a0_1 : Int) (a1_0 : ByteArray) (a1_1 : Int) (K0 : List (List C) → List Out → Option β) : funDen Try.prog (laws_eqWeigh.E k) laws_eqWeigh.h k Try.f143 (laws_eqWeigh.as a0_0 a0_1 a1_0 a1_1) K0 = laws_eqWeigh.g k a0_0 a0_1 a1_0 a1_1 (laws_eqWeigh.kt a0_0 a0_1 a1_0 a1_1 K0) := by kernel_rfl
noncomputable def laws_eqWeigh.dec (rs : List (List C)) (os : List Out) : Option (Bool) := uncons rs fun c1 r2 => uncons c1 fun x3 l4 => cD x3 fun d5 => dBool d5 fun w0 => atEnd l4 <| atEnd r2 <| atEnd os (some w0)
theorem laws_eqWeigh.kt_dec (a0_0 : ByteArray) (a0_1 : Int) (a1_0 : ByteArray) (a1_1 : Int) : laws_eqWeigh.kt a0_0 a0_1 a1_0 a1_1 laws_eqWeigh.dec = (fun z0 => some z0) := by kernel_rfl
theorem laws_eqWeigh.inj (a0_0 : ByteArray) (a0_1 : Int) (a1_0 : ByteArray) (a1_1 : Int) {rs : List (List C)} {os : List Out} {z0 : Bool} (h : laws_eqWeigh.dec rs os = some z0) (ho : OutShape (laws_eqWeigh.as a0_0 a0_1 a1_0 a1_1) os) : rs = [[.d (.bool z0)]] ∧ os = [] := by
  unfold laws_eqWeigh.dec at h
  obtain ⟨c1, r2, rfl, h1⟩ := uncons_some h
  obtain ⟨x3, l4, rfl, h2⟩ := uncons_some h1
  obtain ⟨d5, rfl, h3⟩ := cD_some h2
  obtain ⟨w0, rfl, h4⟩ := dBool_some h3
  obtain ⟨rfl, h5⟩ := atEnd_some h4
  obtain ⟨rfl, h6⟩ := atEnd_some h5
  obtain ⟨rfl, h7⟩ := atEnd_some h6
  obtain rfl := Option.some.inj h7
  exact ⟨rfl, rfl⟩
theorem laws_eqWeigh.ok (k : Nat) : EntryOK Try.prog 143 (laws_eqWeigh.e k) := by
  refine entry_of mix tyok (fn := Try.f143) (c := codeOf Try.f143) Try.func143 (by kernel_rfl) (h := laws_eqWeigh.h) (k := k) (E := laws_eqWeigh.E k) env_nil (by kernel_rfl) (by kernel_rfl) rfl (enter_of Try.func143 (by kernel_rfl)) ?_
  intro β l K r hr
  simp only [laws_eqWeigh.e] at hr
  split at hr
  case h_2 => cases hr
  unfold laws_eqWeigh.f at hr
  split at hr
  case h_2 => cases hr
  rename_i hz
  exact ⟨_, _, hr, _, laws_eqWeigh.dec, _, (laws_eqWeigh.f_eq k _ _ _ _ laws_eqWeigh.dec).trans (by rw [laws_eqWeigh.kt_dec]; exact hz), fun rs os h ho => laws_eqWeigh.inj _ _ _ _ h ho⟩
noncomputable def laws_eqWeighS.l0 {β : Type} (k : Nat) (v0_0 : List (List D)) (v0_1 : List (List D)) (K : Bool → Option β) (L0 : Int → Option β) (v : Int) : Option β :=
  match v with
  | v0_2 => bif (decide ((v0_2 : Int) < (v0_0.length : Int))) then (atRow v0_0 v0_2 fun c16 => uncons c16 fun d17 r18 => dStr d17 fun x19 => uncons r18 fun d20 r21 => dInt .i64 d20 fun x22 => atEnd r21 (atRow v0_1 v0_2 fun c23 => uncons c23 fun d24 r25 => dStr d24 fun x26 => uncons r25 fun d27 r28 => dInt .i64 d27 fun x29 => atEnd r28 (laws_eqWeigh.f k x19 x22 x26 x29 (fun y30 => bif (!y30) then (K false) else (L0 (IntKind.wrap .i64 (v0_2 + 1))))))) else (K true)
noncomputable def laws_eqWeighS.g {β : Type} (k : Nat) (a0 : List (List D)) (a1 : List (List D)) (K : Bool → Option β) : Option β :=
  bif (((a0.length : Int) : Int) != (a1.length : Int)) then (K false) else (iter (laws_eqWeighS.l0 k a0 a1 K) k (0))
noncomputable def laws_eqWeighS.t (k : Nat) (a0 : List (List D)) (a1 : List (List D)) : Option (Bool) := laws_eqWeighS.g k a0 a1 (fun z0 => some z0)
noncomputable def laws_eqWeighS.f {β : Type} (k : Nat) (a0 : List (List D)) (a1 : List (List D)) (K : Bool → Option β) : Option β :=
  match laws_eqWeighS.t k a0 a1 with
  | some z0 => K z0
  | none => none
noncomputable def laws_eqWeighS.as (a0 : List (List D)) (a1 : List (List D)) : List A := [.d (.sl a0), .d (.sl a1)]
noncomputable def laws_eqWeighS.kt {β : Type} (a0 : List (List D)) (a1 : List (List D)) (K0 : List (List C) → List Out → Option β) : Bool → Option β := fun z0 => K0 [[.d (.bool z0)]] []
noncomputable def laws_eqWeighS.e (k : Nat) : Entry := { modes := [(.imm, 0), (.imm, 0)], rts := [4], al := false, run := fun {β} l K => match l with | [.d (.sl a0), .d (.sl a1)] => laws_eqWeighS.f k a0 a1 (laws_eqWeighS.kt a0 a1 K) | _ => none }
noncomputable def laws_eqWeighS.E (k : Nat) : Env := fun g => bif g == 143 then some (laws_eqWeigh.e k) else none
noncomputable def laws_eqWeighS.h : Hints := ⟨fun n => bif n == 4 then ⟨[(0, .asis), (1, .asis), (5, .asis)], []⟩ else ⟨[], []⟩, fun _ => none, false, []⟩
noncomputable def laws_eqWeighS.s0 (v0_0 : List (List D)) (v0_1 : List (List D)) (v : Int) : St :=
  match v with
  | v0_2 => ⟨[.d false (.sl v0_0), .d false (.sl v0_1), .any, .any, .any, .d true (.int .i64 v0_2), .any, .any, .any, .any, .any, .any, .any, .any, .any, .any, .any, .any, .any, .any, .any, .any, .any, .any, .any, .any, .any], []⟩
noncomputable def laws_eqWeighS.b0 {β : Type} (k : Nat) : St → (Ex → St → Option β) → Option β := fun s K => den Try.prog (laws_eqWeighS.E k) laws_eqWeighS.h.H laws_eqWeighS.h.J k (codeAt [1, 1, 0, 1, 0, 0] (codeOf Try.f83)) s K
noncomputable def laws_eqWeighS.c0 {β : Type} (k : Nat) (a0 : List (List D)) (a1 : List (List D)) (K0 : List (List C) → List Out → Option β) : Ex → St → Option β := contAt Try.prog (laws_eqWeighS.E k) laws_eqWeighS.h k [1, 1, 0, 1, 0] (codeOf Try.f83) (finDen Try.prog Try.f83 laws_eqWeighS.h (laws_eqWeighS.as a0 a1) K0)
theorem laws_eqWeighS.l0_eq {β : Type} (k : Nat) (a0 : List (List D)) (a1 : List (List D)) (K0 : List (List C) → List Out → Option β) (v0_0 : List (List D)) (v0_1 : List (List D)) : ∀ (kk : Nat) (v : Int), loopDen (laws_eqWeighS.b0 k) (laws_eqWeighS.h.H 4) kk (laws_eqWeighS.s0 v0_0 v0_1 v) (laws_eqWeighS.c0 k a0 a1 K0) = iter (laws_eqWeighS.l0 k v0_0 v0_1 (laws_eqWeighS.kt a0 a1 K0)) kk v :=
  loop_eq (laws_eqWeighS.s0 v0_0 v0_1) _ (fun L0 v => by kernel_rfl)
noncomputable def laws_eqWeighS.m {β : Type} (k : Nat) (a0 : List (List D)) (a1 : List (List D)) (K0 : List (List C) → List Out → Option β) (F : ((List (List D)) → (List (List D)) → Int → Option β)) : Option β :=
  bif (((a0.length : Int) : Int) != (a1.length : Int)) then ((laws_eqWeighS.kt a0 a1 K0) false) else ((F) a0 a1 (0))
theorem laws_eqWeighS.f_eq {β : Type} (k : Nat) (a0 : List (List D)) (a1 : List (List D)) (K0 : List (List C) → List Out → Option β) : funDen Try.prog (laws_eqWeighS.E k) laws_eqWeighS.h k Try.f83 (laws_eqWeighS.as a0 a1) K0 = laws_eqWeighS.g k a0 a1 (laws_eqWeighS.kt a0 a1 K0) := Eq.trans (b := (laws_eqWeighS.m k a0 a1 K0) (fun (v0_0 : List (List D)) (v0_1 : List (List D)) (v : Int) => loopDen (laws_eqWeighS.b0 k) (laws_eqWeighS.h.H 4) k (laws_eqWeighS.s0 v0_0 v0_1 v) (laws_eqWeighS.c0 k a0 a1 K0))) (by kernel_rfl) (Eq.trans (congrArg (laws_eqWeighS.m k a0 a1 K0) (funext fun v0_0 => funext fun v0_1 => funext fun v => laws_eqWeighS.l0_eq k a0 a1 K0 v0_0 v0_1 k v)) (by kernel_rfl))
noncomputable def laws_eqWeighS.dec (rs : List (List C)) (os : List Out) : Option (Bool) := uncons rs fun c1 r2 => uncons c1 fun x3 l4 => cD x3 fun d5 => dBool d5 fun w0 => atEnd l4 <| atEnd r2 <| atEnd os (some w0)
theorem laws_eqWeighS.kt_dec (a0 : List (List D)) (a1 : List (List D)) : laws_eqWeighS.kt a0 a1 laws_eqWeighS.dec = (fun z0 => some z0) := by kernel_rfl
theorem laws_eqWeighS.inj (a0 : List (List D)) (a1 : List (List D)) {rs : List (List C)} {os : List Out} {z0 : Bool} (h : laws_eqWeighS.dec rs os = some z0) (ho : OutShape (laws_eqWeighS.as a0 a1) os) : rs = [[.d (.bool z0)]] ∧ os = [] := by
  unfold laws_eqWeighS.dec at h
  obtain ⟨c1, r2, rfl, h1⟩ := uncons_some h
  obtain ⟨x3, l4, rfl, h2⟩ := uncons_some h1
  obtain ⟨d5, rfl, h3⟩ := cD_some h2
  obtain ⟨w0, rfl, h4⟩ := dBool_some h3
  obtain ⟨rfl, h5⟩ := atEnd_some h4
  obtain ⟨rfl, h6⟩ := atEnd_some h5
  obtain ⟨rfl, h7⟩ := atEnd_some h6
  obtain rfl := Option.some.inj h7
  exact ⟨rfl, rfl⟩
theorem laws_eqWeighS.ok (k : Nat) : EntryOK Try.prog 83 (laws_eqWeighS.e k) := by
  refine entry_of mix tyok (fn := Try.f83) (c := codeOf Try.f83) Try.func83 (by kernel_rfl) (h := laws_eqWeighS.h) (k := k) (E := laws_eqWeighS.E k) (env_cons (laws_eqWeigh.ok k) env_nil) (by kernel_rfl) (by kernel_rfl) rfl (enter_of Try.func83 (by kernel_rfl)) ?_
  intro β l K r hr
  simp only [laws_eqWeighS.e] at hr
  split at hr
  case h_2 => cases hr
  unfold laws_eqWeighS.f at hr
  split at hr
  case h_2 => cases hr
  rename_i hz
  exact ⟨_, _, hr, _, laws_eqWeighS.dec, _, (laws_eqWeighS.f_eq k _ _ laws_eqWeighS.dec).trans (by rw [laws_eqWeighS.kt_dec]; exact hz), fun rs os h ho => laws_eqWeighS.inj _ _ h ho⟩
noncomputable def laws_eqWant.g {β : Type} (k : Nat) (a0_0 : Int) (a0_1 : List (List D)) (a0_2 : List (List D)) (a0_3 : List (List D)) (a1_0 : Int) (a1_1 : List (List D)) (a1_2 : List (List D)) (a1_3 : List (List D)) (K : Bool → Option β) : Option β :=
  bif ((a0_0 : Int) != a1_0) then (K false) else (laws_eqTermS.f k a0_1 a1_1 (fun y43 => bif (!y43) then (K false) else (laws_eqStringS.f k a0_2 a1_2 (fun y44 => bif (!y44) then (K false) else (laws_eqWeighS.f k a0_3 a1_3 (fun y45 => bif (!y45) then (K false) else (K true)))))))
noncomputable def laws_eqWant.t (k : Nat) (a0_0 : Int) (a0_1 : List (List D)) (a0_2 : List (List D)) (a0_3 : List (List D)) (a1_0 : Int) (a1_1 : List (List D)) (a1_2 : List (List D)) (a1_3 : List (List D)) : Option (Bool) := laws_eqWant.g k a0_0 a0_1 a0_2 a0_3 a1_0 a1_1 a1_2 a1_3 (fun z0 => some z0)
noncomputable def laws_eqWant.f {β : Type} (k : Nat) (a0_0 : Int) (a0_1 : List (List D)) (a0_2 : List (List D)) (a0_3 : List (List D)) (a1_0 : Int) (a1_1 : List (List D)) (a1_2 : List (List D)) (a1_3 : List (List D)) (K : Bool → Option β) : Option β :=
  match laws_eqWant.t k a0_0 a0_1 a0_2 a0_3 a1_0 a1_1 a1_2 a1_3 with
  | some z0 => K z0
  | none => none
noncomputable def laws_eqWant.as (a0_0 : Int) (a0_1 : List (List D)) (a0_2 : List (List D)) (a0_3 : List (List D)) (a1_0 : Int) (a1_1 : List (List D)) (a1_2 : List (List D)) (a1_3 : List (List D)) : List A := [.agg [.int .i64 a0_0, .sl a0_1, .sl a0_2, .sl a0_3], .agg [.int .i64 a1_0, .sl a1_1, .sl a1_2, .sl a1_3]]
noncomputable def laws_eqWant.kt {β : Type} (a0_0 : Int) (a0_1 : List (List D)) (a0_2 : List (List D)) (a0_3 : List (List D)) (a1_0 : Int) (a1_1 : List (List D)) (a1_2 : List (List D)) (a1_3 : List (List D)) (K0 : List (List C) → List Out → Option β) : Bool → Option β := fun z0 => K0 [[.d (.bool z0)]] []
noncomputable def laws_eqWant.e (k : Nat) : Entry := { modes := [(.imm, 0), (.imm, 0)], rts := [4], al := false, run := fun {β} l K => match l with | [.agg [.int .i64 a0_0, .sl a0_1, .sl a0_2, .sl a0_3], .agg [.int .i64 a1_0, .sl a1_1, .sl a1_2, .sl a1_3]] => laws_eqWant.f k a0_0 a0_1 a0_2 a0_3 a1_0 a1_1 a1_2 a1_3 (laws_eqWant.kt a0_0 a0_1 a0_2 a0_3 a1_0 a1_1 a1_2 a1_3 K) | _ => none }
noncomputable def laws_eqWant.E (k : Nat) : Env := fun g => bif g == 82 then some (laws_eqTermS.e k) else bif g == 77 then some (laws_eqStringS.e k) else bif g == 83 then some (laws_eqWeighS.e k) else none
noncomputable def laws_eqWant.h : Hints := ⟨fun n => ⟨[], []⟩, fun _ => none, false, []⟩
theorem laws_eqWant.f_eq {β : Type} (k : Nat) (a0_0 : Int) (a0_1 : List (List D)) (a0_2 : List (List D)) (a0_3 : List (List D)) (a1_0 : Int) (a1_1 : List (List D)) (a1_2 : List (List D)) (a1_3 : List (List D)) (K0 : List (List C) → List Out → Option β) : funDen Try.prog (laws_eqWant.E k) laws_eqWant.h k Try.f24 (laws_eqWant.as a0_0 a0_1 a0_2 a0_3 a1_0 a1_1 a1_2 a1_3) K0 = laws_eqWant.g k a0_0 a0_1 a0_2 a0_3 a1_0 a1_1 a1_2 a1_3 (laws_eqWant.kt a0_0 a0_1 a0_2 a0_3 a1_0 a1_1 a1_2 a1_3 K0) := by kernel_rfl
noncomputable def laws_eqWant.dec (rs : List (List C)) (os : List Out) : Option (Bool) := uncons rs fun c1 r2 => uncons c1 fun x3 l4 => cD x3 fun d5 => dBool d5 fun w0 => atEnd l4 <| atEnd r2 <| atEnd os (some w0)
theorem laws_eqWant.kt_dec (a0_0 : Int) (a0_1 : List (List D)) (a0_2 : List (List D)) (a0_3 : List (List D)) (a1_0 : Int) (a1_1 : List (List D)) (a1_2 : List (List D)) (a1_3 : List (List D)) : laws_eqWant.kt a0_0 a0_1 a0_2 a0_3 a1_0 a1_1 a1_2 a1_3 laws_eqWant.dec = (fun z0 => some z0) := by kernel_rfl
theorem laws_eqWant.inj (a0_0 : Int) (a0_1 : List (List D)) (a0_2 : List (List D)) (a0_3 : List (List D)) (a1_0 : Int) (a1_1 : List (List D)) (a1_2 : List (List D)) (a1_3 : List (List D)) {rs : List (List C)} {os : List Out} {z0 : Bool} (h : laws_eqWant.dec rs os = some z0) (ho : OutShape (laws_eqWant.as a0_0 a0_1 a0_2 a0_3 a1_0 a1_1 a1_2 a1_3) os) : rs = [[.d (.bool z0)]] ∧ os = [] := by
  unfold laws_eqWant.dec at h
  obtain ⟨c1, r2, rfl, h1⟩ := uncons_some h
  obtain ⟨x3, l4, rfl, h2⟩ := uncons_some h1
  obtain ⟨d5, rfl, h3⟩ := cD_some h2
  obtain ⟨w0, rfl, h4⟩ := dBool_some h3
  obtain ⟨rfl, h5⟩ := atEnd_some h4
  obtain ⟨rfl, h6⟩ := atEnd_some h5
  obtain ⟨rfl, h7⟩ := atEnd_some h6
  obtain rfl := Option.some.inj h7
  exact ⟨rfl, rfl⟩
theorem laws_eqWant.ok (k : Nat) : EntryOK Try.prog 24 (laws_eqWant.e k) := by
  refine entry_of mix tyok (fn := Try.f24) (c := codeOf Try.f24) Try.func24 (by kernel_rfl) (h := laws_eqWant.h) (k := k) (E := laws_eqWant.E k) (env_cons (laws_eqTermS.ok k) (env_cons (laws_eqStringS.ok k) (env_cons (laws_eqWeighS.ok k) env_nil))) (by kernel_rfl) (by kernel_rfl) rfl (enter_of Try.func24 (by kernel_rfl)) ?_
  intro β l K r hr
  simp only [laws_eqWant.e] at hr
  split at hr
  case h_2 => cases hr
  unfold laws_eqWant.f at hr
  split at hr
  case h_2 => cases hr
  rename_i hz
  exact ⟨_, _, hr, _, laws_eqWant.dec, _, (laws_eqWant.f_eq k _ _ _ _ _ _ _ _ laws_eqWant.dec).trans (by rw [laws_eqWant.kt_dec]; exact hz), fun rs os h ho => laws_eqWant.inj _ _ _ _ _ _ _ _ h ho⟩
noncomputable def laws_eqValueS.l0 {β : Type} (k : Nat) (r_laws_eqValueS : (List (List D)) → (List (List D)) → (Bool → Option β) → Option β) (r_laws_eqValue : Int → ByteArray → Int → (List (List D)) → (List (List D)) → Int → ByteArray → Int → (List (List D)) → (List (List D)) → (Bool → Option β) → Option β) (v0_0 : List (List D)) (v0_1 : List (List D)) (K : Bool → Option β) (L0 : Int → Option β) (v : Int) : Option β :=
  match v with
  | v0_2 => bif (decide ((v0_2 : Int) < (v0_0.length : Int))) then (atRow v0_0 v0_2 fun c34 => uncons c34 fun d35 r36 => dInt .i64 d35 fun x37 => uncons r36 fun d38 r39 => dStr d38 fun x40 => uncons r39 fun d41 r42 => dInt .i64 d41 fun x43 => uncons r42 fun d44 r45 => dSl d44 fun x46 => uncons r45 fun d47 r48 => dSl d47 fun x49 => atEnd r48 (atRow v0_1 v0_2 fun c50 => uncons c50 fun d51 r52 => dInt .i64 d51 fun x53 => uncons r52 fun d54 r55 => dStr d54 fun x56 => uncons r55 fun d57 r58 => dInt .i64 d57 fun x59 => uncons r58 fun d60 r61 => dSl d60 fun x62 => uncons r61 fun d63 r64 => dSl d63 fun x65 => atEnd r64 (r_laws_eqValue x37 x40 x43 x46 x49 x53 x56 x59 x62 x65 (fun y66 => bif (!y66) then (K false) else (L0 (IntKind.wrap .i64 (v0_2 + 1))))))) else (K true)
noncomputable def laws_eqValueS.body {β : Type} (k : Nat) (r_laws_eqValueS : (List (List D)) → (List (List D)) → (Bool → Option β) → Option β) (r_laws_eqValue : Int → ByteArray → Int → (List (List D)) → (List (List D)) → Int → ByteArray → Int → (List (List D)) → (List (List D)) → (Bool → Option β) → Option β) (a0 : List (List D)) (a1 : List (List D)) (K : Bool → Option β) : Option β :=
  bif (((a0.length : Int) : Int) != (a1.length : Int)) then (K false) else (iter (laws_eqValueS.l0 k r_laws_eqValueS r_laws_eqValue a0 a1 K) k (0))
noncomputable def laws_eqValue.body {β : Type} (k : Nat) (r_laws_eqValueS : (List (List D)) → (List (List D)) → (Bool → Option β) → Option β) (r_laws_eqValue : Int → ByteArray → Int → (List (List D)) → (List (List D)) → Int → ByteArray → Int → (List (List D)) → (List (List D)) → (Bool → Option β) → Option β) (a0_0 : Int) (a0_1 : ByteArray) (a0_2 : Int) (a0_3 : List (List D)) (a0_4 : List (List D)) (a1_0 : Int) (a1_1 : ByteArray) (a1_2 : Int) (a1_3 : List (List D)) (a1_4 : List (List D)) (K : Bool → Option β) : Option β :=
  bif ((a0_0 : Int) != a1_0) then (K false) else (bif (!(strEq a0_1 a1_1)) then (K false) else (bif ((a0_2 : Int) != a1_2) then (K false) else (laws_eqStringS.f k a0_3 a1_3 (fun y1 => bif (!y1) then (K false) else (r_laws_eqValueS a0_4 a1_4 (fun y67 => bif (!y67) then (K false) else (K true)))))))
noncomputable def laws_eqValueS.w {β : Type} (r : (List (List D)) → (List (List D)) → Option (Bool)) (a0 : List (List D)) (a1 : List (List D)) (K : Bool → Option β) : Option β :=
  match r a0 a1 with
  | some z0 => K z0
  | none => none
noncomputable def laws_eqValue.w {β : Type} (r : Int → ByteArray → Int → (List (List D)) → (List (List D)) → Int → ByteArray → Int → (List (List D)) → (List (List D)) → Option (Bool)) (a0_0 : Int) (a0_1 : ByteArray) (a0_2 : Int) (a0_3 : List (List D)) (a0_4 : List (List D)) (a1_0 : Int) (a1_1 : ByteArray) (a1_2 : Int) (a1_3 : List (List D)) (a1_4 : List (List D)) (K : Bool → Option β) : Option β :=
  match r a0_0 a0_1 a0_2 a0_3 a0_4 a1_0 a1_1 a1_2 a1_3 a1_4 with
  | some z0 => K z0
  | none => none
noncomputable def laws_eqValueS.all : Nat → ((List (List D)) → (List (List D)) → Option (Bool)) × (Int → ByteArray → Int → (List (List D)) → (List (List D)) → Int → ByteArray → Int → (List (List D)) → (List (List D)) → Option (Bool))
  | 0 => (fun _ _ => none, fun _ _ _ _ _ _ _ _ _ _ => none)
  | k + 1 => (fun r => (fun a0 a1 => laws_eqValueS.body k (laws_eqValueS.w r.1) (laws_eqValue.w r.2) a0 a1 (fun z0 => some z0), fun a0_0 a0_1 a0_2 a0_3 a0_4 a1_0 a1_1 a1_2 a1_3 a1_4 => laws_eqValue.body k (laws_eqValueS.w r.1) (laws_eqValue.w r.2) a0_0 a0_1 a0_2 a0_3 a0_4 a1_0 a1_1 a1_2 a1_3 a1_4 (fun z0 => some z0))) (laws_eqValueS.all k)
noncomputable def laws_eqValueS.t (k : Nat) (a0 : List (List D)) (a1 : List (List D)) : Option (Bool) := (laws_eqValueS.all k).1 a0 a1
noncomputable def laws_eqValue.t (k : Nat) (a0_0 : Int) (a0_1 : ByteArray) (a0_2 : Int) (a0_3 : List (List D)) (a0_4 : List (List D)) (a1_0 : Int) (a1_1 : ByteArray) (a1_2 : Int) (a1_3 : List (List D)) (a1_4 : List (List D)) : Option (Bool) := (laws_eqValueS.all k).2 a0_0 a0_1 a0_2 a0_3 a0_4 a1_0 a1_1 a1_2 a1_3 a1_4
noncomputable def laws_eqValueS.f {β : Type} (k : Nat) (a0 : List (List D)) (a1 : List (List D)) (K : Bool → Option β) : Option β := laws_eqValueS.w (laws_eqValueS.t k) a0 a1 K
noncomputable def laws_eqValue.f {β : Type} (k : Nat) (a0_0 : Int) (a0_1 : ByteArray) (a0_2 : Int) (a0_3 : List (List D)) (a0_4 : List (List D)) (a1_0 : Int) (a1_1 : ByteArray) (a1_2 : Int) (a1_3 : List (List D)) (a1_4 : List (List D)) (K : Bool → Option β) : Option β := laws_eqValue.w (laws_eqValue.t k) a0_0 a0_1 a0_2 a0_3 a0_4 a1_0 a1_1 a1_2 a1_3 a1_4 K
noncomputable def laws_eqValueS.g {β : Type} (k : Nat) (a0 : List (List D)) (a1 : List (List D)) (K : Bool → Option β) : Option β := laws_eqValueS.body k (laws_eqValueS.f k) (laws_eqValue.f k) a0 a1 K
theorem laws_eqValueS.t_zero (a0 : List (List D)) (a1 : List (List D)) : laws_eqValueS.t 0 a0 a1 = none := rfl
theorem laws_eqValueS.t_succ (k : Nat) (a0 : List (List D)) (a1 : List (List D)) : laws_eqValueS.t (k + 1) a0 a1 = laws_eqValueS.g k a0 a1 (fun z0 => some z0) := rfl
noncomputable def laws_eqValue.g {β : Type} (k : Nat) (a0_0 : Int) (a0_1 : ByteArray) (a0_2 : Int) (a0_3 : List (List D)) (a0_4 : List (List D)) (a1_0 : Int) (a1_1 : ByteArray) (a1_2 : Int) (a1_3 : List (List D)) (a1_4 : List (List D)) (K : Bool → Option β) : Option β := laws_eqValue.body k (laws_eqValueS.f k) (laws_eqValue.f k) a0_0 a0_1 a0_2 a0_3 a0_4 a1_0 a1_1 a1_2 a1_3 a1_4 K
theorem laws_eqValue.t_zero (a0_0 : Int) (a0_1 : ByteArray) (a0_2 : Int) (a0_3 : List (List D)) (a0_4 : List (List D)) (a1_0 : Int) (a1_1 : ByteArray) (a1_2 : Int) (a1_3 : List (List D)) (a1_4 : List (List D)) : laws_eqValue.t 0 a0_0 a0_1 a0_2 a0_3 a0_4 a1_0 a1_1 a1_2 a1_3 a1_4 = none := rfl
theorem laws_eqValue.t_succ (k : Nat) (a0_0 : Int) (a0_1 : ByteArray) (a0_2 : Int) (a0_3 : List (List D)) (a0_4 : List (List D)) (a1_0 : Int) (a1_1 : ByteArray) (a1_2 : Int) (a1_3 : List (List D)) (a1_4 : List (List D)) : laws_eqValue.t (k + 1) a0_0 a0_1 a0_2 a0_3 a0_4 a1_0 a1_1 a1_2 a1_3 a1_4 = laws_eqValue.g k a0_0 a0_1 a0_2 a0_3 a0_4 a1_0 a1_1 a1_2 a1_3 a1_4 (fun z0 => some z0) := rfl
noncomputable def laws_eqValueS.as (a0 : List (List D)) (a1 : List (List D)) : List A := [.d (.sl a0), .d (.sl a1)]
noncomputable def laws_eqValueS.kt {β : Type} (a0 : List (List D)) (a1 : List (List D)) (K0 : List (List C) → List Out → Option β) : Bool → Option β := fun z0 => K0 [[.d (.bool z0)]] []
noncomputable def laws_eqValueS.e (k : Nat) : Entry := { modes := [(.imm, 0), (.imm, 0)], rts := [4], al := false, run := fun {β} l K => match l with | [.d (.sl a0), .d (.sl a1)] => laws_eqValueS.f k a0 a1 (laws_eqValueS.kt a0 a1 K) | _ => none }
noncomputable def laws_eqValue.as (a0_0 : Int) (a0_1 : ByteArray) (a0_2 : Int) (a0_3 : List (List D)) (a0_4 : List (List D)) (a1_0 : Int) (a1_1 : ByteArray) (a1_2 : Int) (a1_3 : List (List D)) (a1_4 : List (List D)) : List A := [.agg [.int .i64 a0_0, .str a0_1, .int .i64 a0_2, .sl a0_3, .sl a0_4], .agg [.int .i64 a1_0, .str a1_1, .int .i64 a1_2, .sl a1_3, .sl a1_4]]
noncomputable def laws_eqValue.kt {β : Type} (a0_0 : Int) (a0_1 : ByteArray) (a0_2 : Int) (a0_3 : List (List D)) (a0_4 : List (List D)) (a1_0 : Int) (a1_1 : ByteArray) (a1_2 : Int) (a1_3 : List (List D)) (a1_4 : List (List D)) (K0 : List (List C) → List Out → Option β) : Bool → Option β := fun z0 => K0 [[.d (.bool z0)]] []
noncomputable def laws_eqValue.e (k : Nat) : Entry := { modes := [(.imm, 0), (.imm, 0)], rts := [4], al := false, run := fun {β} l K => match l with | [.agg [.int .i64 a0_0, .str a0_1, .int .i64 a0_2, .sl a0_3, .sl a0_4], .agg [.int .i64 a1_0, .str a1_1, .int .i64 a1_2, .sl a1_3, .sl a1_4]] => laws_eqValue.f k a0_0 a0_1 a0_2 a0_3 a0_4 a1_0 a1_1 a1_2 a1_3 a1_4 (laws_eqValue.kt a0_0 a0_1 a0_2 a0_3 a0_4 a1_0 a1_1 a1_2 a1_3 a1_4 K) | _ => none }
noncomputable def laws_eqValueS.E (k : Nat) : Env := fun g => bif g == 163 then some (laws_eqValue.e k) else none
noncomputable def laws_eqValueS.h : Hints := ⟨fun n => bif n == 4 then ⟨[(0, .asis), (1, .asis), (5, .asis)], []⟩ else ⟨[], []⟩, fun _ => none, false, []⟩
noncomputable def laws_eqValueS.s0 (v0_0 : List (List D)) (v0_1 : List (List D)) (v : Int) : St :=
  match v with
  | v0_2 => ⟨[.d false (.sl v0_0), .d false (.sl v0_1), .any, .any, .any, .d true (.int .i64 v0_2), .any, .any, .any, .any, .any, .any, .any, .any, .any, .any, .any, .any, .any, .any, .any, .any, .any, .any, .any, .any, .any], []⟩
noncomputable def laws_eqValueS.b0 {β : Type} (k : Nat) : St → (Ex → St → Option β) → Option β := fun s K => den Try.prog (laws_eqValueS.E k) laws_eqValueS.h.H laws_eqValueS.h.J k (codeAt [1, 1, 0, 1, 0, 0] (codeOf Try.f194)) s K
noncomputable def laws_eqValueS.c0 {β : Type} (k : Nat) (a0 : List (List D)) (a1 : List (List D)) (K0 : List (List C) → List Out → Option β) : Ex → St → Option β := contAt Try.prog (laws_eqValueS.E k) laws_eqValueS.h k [1, 1, 0, 1, 0] (codeOf Try.f194) (finDen Try.prog Try.f194 laws_eqValueS.h (laws_eqValueS.as a0 a1) K0)
theorem laws_eqValueS.l0_eq {β : Type} (k : Nat) (a0 : List (List D)) (a1 : List (List D)) (K0 : List (List C) → List Out → Option β) (v0_0 : List (List D)) (v0_1 : List (List D)) : ∀ (kk : Nat) (v : Int), loopDen (laws_eqValueS.b0 k) (laws_eqValueS.h.H 4) kk (laws_eqValueS.s0 v0_0 v0_1 v) (laws_eqValueS.c0 k a0 a1 K0) = iter (laws_eqValueS.l0 k (laws_eqValueS.f k) (laws_eqValue.f k) v0_0 v0_1 (laws_eqValueS.kt a0 a1 K0)) kk v :=
  loop_eq (laws_eqValueS.s0 v0_0 v0_1) _ (fun L0 v => by kernel_rfl)
noncomputable def laws_eqValueS.m {β : Type} (k : Nat) (a0 : List (List D)) (a1 : List (List D)) (K0 : List (List C) → List Out → Option β) (F : ((List (List D)) → (List (List D)) → Int → Option β)) : Option β :=
  bif (((a0.length : Int) : Int) != (a1.length : Int)) then ((laws_eqValueS.kt a0 a1 K0) false) else ((F) a0 a1 (0))
theorem laws_eqValueS.f_eq {β : Type} (k : Nat) (a0 : List (List D)) (a1 : List (List D)) (K0 : List (List C) → List Out → Option β) : funDen Try.prog (laws_eqValueS.E k) laws_eqValueS.h k Try.f194 (laws_eqValueS.as a0 a1) K0 = laws_eqValueS.g k a0 a1 (laws_eqValueS.kt a0 a1 K0) := Eq.trans (b := (laws_eqValueS.m k a0 a1 K0) (fun (v0_0 : List (List D)) (v0_1 : List (List D)) (v : Int) => loopDen (laws_eqValueS.b0 k) (laws_eqValueS.h.H 4) k (laws_eqValueS.s0 v0_0 v0_1 v) (laws_eqValueS.c0 k a0 a1 K0))) (by kernel_rfl) (Eq.trans (congrArg (laws_eqValueS.m k a0 a1 K0) (funext fun v0_0 => funext fun v0_1 => funext fun v => laws_eqValueS.l0_eq k a0 a1 K0 v0_0 v0_1 k v)) (by kernel_rfl))
noncomputable def laws_eqValue.E (k : Nat) : Env := fun g => bif g == 77 then some (laws_eqStringS.e k) else bif g == 194 then some (laws_eqValueS.e k) else none
noncomputable def laws_eqValue.h : Hints := ⟨fun n => ⟨[], []⟩, fun _ => none, false, []⟩
theorem laws_eqValue.f_eq {β : Type} (k : Nat) (a0_0 : Int) (a0_1 : ByteArray) (a0_2 : Int) (a0_3 : List (List D)) (a0_4 : List (List D)) (a1_0 : Int) (a1_1 : ByteArray) (a1_2 : Int) (a1_3 : List (List D)) (a1_4 : List (List D)) (K0 : List (List C) → List Out → Option β) : funDen Try.prog (laws_eqValue.E k) laws_eqValue.h k Try.f163 (laws_eqValue.as a0_0 a0_1 a0_2 a0_3 a0_4 a1_0 a1_1 a1_2 a1_3 a1_4) K0 = laws_eqValue.g k a0_0 a0_1 a0_2 a0_3 a0_4 a1_0 a1_1 a1_2 a1_3 a1_4 (laws_eqValue.kt a0_0 a0_1 a0_2 a0_3 a0_4 a1_0 a1_1 a1_2 a1_3 a1_4 K0) := by kernel_rfl
noncomputable def laws_eqValueS.dec (rs : List (List C)) (os : List Out) : Option (Bool) := uncons rs fun c1 r2 => uncons c1 fun x3 l4 => cD x3 fun d5 => dBool d5 fun w0 => atEnd l4 <| atEnd r2 <| atEnd os (some w0)
theorem laws_eqValueS.kt_dec (a0 : List (List D)) (a1 : List (List D)) : laws_eqValueS.kt a0 a1 laws_eqValueS.dec = (fun z0 => some z0) := by kernel_rfl
theorem laws_eqValueS.inj (a0 : List (List D)) (a1 : List (List D)) {rs : List (List C)} {os : List Out} {z0 : Bool} (h : laws_eqValueS.dec rs os = some z0) (ho : OutShape (laws_eqValueS.as a0 a1) os) : rs = [[.d (.bool z0)]] ∧ os = [] := by
  unfold laws_eqValueS.dec at h
  obtain ⟨c1, r2, rfl, h1⟩ := uncons_some h
  obtain ⟨x3, l4, rfl, h2⟩ := uncons_some h1
  obtain ⟨d5, rfl, h3⟩ := cD_some h2
  obtain ⟨w0, rfl, h4⟩ := dBool_some h3
  obtain ⟨rfl, h5⟩ := atEnd_some h4
  obtain ⟨rfl, h6⟩ := atEnd_some h5
  obtain ⟨rfl, h7⟩ := atEnd_some h6
  obtain rfl := Option.some.inj h7
  exact ⟨rfl, rfl⟩
noncomputable def laws_eqValue.dec (rs : List (List C)) (os : List Out) : Option (Bool) := uncons rs fun c1 r2 => uncons c1 fun x3 l4 => cD x3 fun d5 => dBool d5 fun w0 => atEnd l4 <| atEnd r2 <| atEnd os (some w0)
theorem laws_eqValue.kt_dec (a0_0 : Int) (a0_1 : ByteArray) (a0_2 : Int) (a0_3 : List (List D)) (a0_4 : List (List D)) (a1_0 : Int) (a1_1 : ByteArray) (a1_2 : Int) (a1_3 : List (List D)) (a1_4 : List (List D)) : laws_eqValue.kt a0_0 a0_1 a0_2 a0_3 a0_4 a1_0 a1_1 a1_2 a1_3 a1_4 laws_eqValue.dec = (fun z0 => some z0) := by kernel_rfl
theorem laws_eqValue.inj (a0_0 : Int) (a0_1 : ByteArray) (a0_2 : Int) (a0_3 : List (List D)) (a0_4 : List (List D)) (a1_0 : Int) (a1_1 : ByteArray) (a1_2 : Int) (a1_3 : List (List D)) (a1_4 : List (List D)) {rs : List (List C)} {os : List Out} {z0 : Bool} (h : laws_eqValue.dec rs os = some z0) (ho : OutShape (laws_eqValue.as a0_0 a0_1 a0_2 a0_3 a0_4 a1_0 a1_1 a1_2 a1_3 a1_4) os) : rs = [[.d (.bool z0)]] ∧ os = [] := by
  unfold laws_eqValue.dec at h
  obtain ⟨c1, r2, rfl, h1⟩ := uncons_some h
  obtain ⟨x3, l4, rfl, h2⟩ := uncons_some h1
  obtain ⟨d5, rfl, h3⟩ := cD_some h2
  obtain ⟨w0, rfl, h4⟩ := dBool_some h3
  obtain ⟨rfl, h5⟩ := atEnd_some h4
  obtain ⟨rfl, h6⟩ := atEnd_some h5
  obtain ⟨rfl, h7⟩ := atEnd_some h6
  obtain rfl := Option.some.inj h7
  exact ⟨rfl, rfl⟩
theorem laws_eqValueS.oks (k : Nat) : EntryOK Try.prog 194 (laws_eqValueS.e k) ∧ EntryOK Try.prog 163 (laws_eqValue.e k) := by
  induction k with
  | zero =>
    refine ⟨?_, ?_⟩
    · exact entry_zero (enter_of Try.func194 (by kernel_rfl)) fun β l K r h => by
        simp only [laws_eqValueS.e] at h
        split at h
        · unfold laws_eqValueS.f at h
          unfold laws_eqValueS.w at h
          rw [laws_eqValueS.t_zero] at h
          cases h
        · cases h
    · exact entry_zero (enter_of Try.func163 (by kernel_rfl)) fun β l K r h => by
        simp only [laws_eqValue.e] at h
        split at h
        · unfold laws_eqValue.f at h
          unfold laws_eqValue.w at h
          rw [laws_eqValue.t_zero] at h
          cases h
        · cases h
  | succ k ih =>
    refine ⟨?_, ?_⟩
    · refine entry_of mix tyok (fn := Try.f194) (c := codeOf Try.f194) Try.func194 (by kernel_rfl) (h := laws_eqValueS.h) (k := k) (E := laws_eqValueS.E k) (env_cons ih.2 env_nil) (by kernel_rfl) (by kernel_rfl) rfl (enter_of Try.func194 (by kernel_rfl)) ?_
      intro β l K r hr
      simp only [laws_eqValueS.e] at hr
      split at hr
      case h_2 => cases hr
      unfold laws_eqValueS.f at hr
      unfold laws_eqValueS.w at hr
      split at hr
      case h_2 => cases hr
      rename_i hz
      exact ⟨_, _, hr, _, laws_eqValueS.dec, _, (laws_eqValueS.f_eq k _ _ laws_eqValueS.dec).trans (by rw [laws_eqValueS.kt_dec]; exact hz), fun rs os h ho => laws_eqValueS.inj _ _ h ho⟩
    · refine entry_of mix tyok (fn := Try.f163) (c := codeOf Try.f163) Try.func163 (by kernel_rfl) (h := laws_eqValue.h) (k := k) (E := laws_eqValue.E k) (env_cons (laws_eqStringS.ok k) (env_cons ih.1 env_nil)) (by kernel_rfl) (by kernel_rfl) rfl (enter_of Try.func163 (by kernel_rfl)) ?_
      intro β l K r hr
      simp only [laws_eqValue.e] at hr
      split at hr
      case h_2 => cases hr
      unfold laws_eqValue.f at hr
      unfold laws_eqValue.w at hr
      split at hr
      case h_2 => cases hr
      rename_i hz
      exact ⟨_, _, hr, _, laws_eqValue.dec, _, (laws_eqValue.f_eq k _ _ _ _ _ _ _ _ _ _ laws_eqValue.dec).trans (by rw [laws_eqValue.kt_dec]; exact hz), fun rs os h ho => laws_eqValue.inj _ _ _ _ _ _ _ _ _ _ h ho⟩
theorem laws_eqValueS.ok (k : Nat) : EntryOK Try.prog 194 (laws_eqValueS.e k) := (laws_eqValueS.oks k).1
theorem laws_eqValue.ok (k : Nat) : EntryOK Try.prog 163 (laws_eqValue.e k) := (laws_eqValueS.oks k).2
noncomputable def laws_eqOp.g {β : Type} (k : Nat) (a0_0 : Int) (a0_1 : List (List D)) (a0_2 : Int) (a0_3 : ByteArray) (a0_4 : Int) (a0_5 : List (List D)) (a0_6 : List (List D)) (a1_0 : Int) (a1_1 : List (List D)) (a1_2 : Int) (a1_3 : ByteArray) (a1_4 : Int) (a1_5 : List (List D)) (a1_6 : List (List D)) (K : Bool → Option β) : Option β :=
  bif ((a0_0 : Int) != a1_0) then (K false) else (laws_eqStringS.f k a0_1 a1_1 (fun y1 => bif (!y1) then (K false) else (laws_eqValue.f k a0_2 a0_3 a0_4 a0_5 a0_6 a1_2 a1_3 a1_4 a1_5 a1_6 (fun y2 => bif (!y2) then (K false) else (K true)))))
noncomputable def laws_eqOp.t (k : Nat) (a0_0 : Int) (a0_1 : List (List D)) (a0_2 : Int) (a0_3 : ByteArray) (a0_4 : Int) (a0_5 : List (List D)) (a0_6 : List (List D)) (a1_0 : Int) (a1_1 : List (List D)) (a1_2 : Int) (a1_3 : ByteArray) (a1_4 : Int) (a1_5 : List (List D)) (a1_6 : List (List D)) : Option (Bool) := laws_eqOp.g k a0_0 a0_1 a0_2 a0_3 a0_4 a0_5 a0_6 a1_0 a1_1 a1_2 a1_3 a1_4 a1_5 a1_6 (fun z0 => some z0)
noncomputable def laws_eqOp.f {β : Type} (k : Nat) (a0_0 : Int) (a0_1 : List (List D)) (a0_2 : Int) (a0_3 : ByteArray) (a0_4 : Int) (a0_5 : List (List D)) (a0_6 : List (List D)) (a1_0 : Int) (a1_1 : List (List D)) (a1_2 : Int) (a1_3 : ByteArray) (a1_4 : Int) (a1_5 : List (List D)) (a1_6 : List (List D)) (K : Bool → Option β) : Option β :=
  match laws_eqOp.t k a0_0 a0_1 a0_2 a0_3 a0_4 a0_5 a0_6 a1_0 a1_1 a1_2 a1_3 a1_4 a1_5 a1_6 with
  | some z0 => K z0
  | none => none
noncomputable def laws_eqOp.as (a0_0 : Int) (a0_1 : List (List D)) (a0_2 : Int) (a0_3 : ByteArray) (a0_4 : Int) (a0_5 : List (List D)) (a0_6 : List (List D)) (a1_0 : Int) (a1_1 : List (List D)) (a1_2 : Int) (a1_3 : ByteArray) (a1_4 : Int) (a1_5 : List (List D)) (a1_6 : List (List D)) : List A := [.agg [.int .i64 a0_0, .sl a0_1, .int .i64 a0_2, .str a0_3, .int .i64 a0_4, .sl a0_5, .sl a0_6], .agg [.int .i64 a1_0, .sl a1_1, .int .i64 a1_2, .str a1_3, .int .i64 a1_4, .sl a1_5, .sl a1_6]]
noncomputable def laws_eqOp.kt {β : Type} (a0_0 : Int) (a0_1 : List (List D)) (a0_2 : Int) (a0_3 : ByteArray) (a0_4 : Int) (a0_5 : List (List D)) (a0_6 : List (List D)) (a1_0 : Int) (a1_1 : List (List D)) (a1_2 : Int) (a1_3 : ByteArray) (a1_4 : Int) (a1_5 : List (List D)) (a1_6 : List (List D)) (K0 : List (List C) → List Out → Option β) : Bool → Option β := fun z0 => K0 [[.d (.bool z0)]] []
noncomputable def laws_eqOp.e (k : Nat) : Entry := { modes := [(.imm, 0), (.imm, 0)], rts := [4], al := false, run := fun {β} l K => match l with | [.agg [.int .i64 a0_0, .sl a0_1, .int .i64 a0_2, .str a0_3, .int .i64 a0_4, .sl a0_5, .sl a0_6], .agg [.int .i64 a1_0, .sl a1_1, .int .i64 a1_2, .str a1_3, .int .i64 a1_4, .sl a1_5, .sl a1_6]] => laws_eqOp.f k a0_0 a0_1 a0_2 a0_3 a0_4 a0_5 a0_6 a1_0 a1_1 a1_2 a1_3 a1_4 a1_5 a1_6 (laws_eqOp.kt a0_0 a0_1 a0_2 a0_3 a0_4 a0_5 a0_6 a1_0 a1_1 a1_2 a1_3 a1_4 a1_5 a1_6 K) | _ => none }
noncomputable def laws_eqOp.E (k : Nat) : Env := fun g => bif g == 77 then some (laws_eqStringS.e k) else bif g == 163 then some (laws_eqValue.e k) else none
noncomputable def laws_eqOp.h : Hints := ⟨fun n => ⟨[], []⟩, fun _ => none, false, []⟩
theorem laws_eqOp.f_eq {β : Type} (k : Nat) (a0_0 : Int) (a0_1 : List (List D)) (a0_2 : Int) (a0_3 : ByteArray) (a0_4 : Int) (a0_5 : List (List D)) (a0_6 : List (List D)) (a1_0 : Int) (a1_1 : List (List D)) (a1_2 : Int) (a1_3 : ByteArray) (a1_4 : Int) (a1_5 : List (List D)) (a1_6 : List (List D)) (K0 : List (List C) → List Out → Option β) : funDen Try.prog (laws_eqOp.E k) laws_eqOp.h k Try.f207 (laws_eqOp.as a0_0 a0_1 a0_2 a0_3 a0_4 a0_5 a0_6 a1_0 a1_1 a1_2 a1_3 a1_4 a1_5 a1_6) K0 = laws_eqOp.g k a0_0 a0_1 a0_2 a0_3 a0_4 a0_5 a0_6 a1_0 a1_1 a1_2 a1_3 a1_4 a1_5 a1_6 (laws_eqOp.kt a0_0 a0_1 a0_2 a0_3 a0_4 a0_5 a0_6 a1_0 a1_1 a1_2 a1_3 a1_4 a1_5 a1_6 K0) := by kernel_rfl
noncomputable def laws_eqOp.dec (rs : List (List C)) (os : List Out) : Option (Bool) := uncons rs fun c1 r2 => uncons c1 fun x3 l4 => cD x3 fun d5 => dBool d5 fun w0 => atEnd l4 <| atEnd r2 <| atEnd os (some w0)
theorem laws_eqOp.kt_dec (a0_0 : Int) (a0_1 : List (List D)) (a0_2 : Int) (a0_3 : ByteArray) (a0_4 : Int) (a0_5 : List (List D)) (a0_6 : List (List D)) (a1_0 : Int) (a1_1 : List (List D)) (a1_2 : Int) (a1_3 : ByteArray) (a1_4 : Int) (a1_5 : List (List D)) (a1_6 : List (List D)) : laws_eqOp.kt a0_0 a0_1 a0_2 a0_3 a0_4 a0_5 a0_6 a1_0 a1_1 a1_2 a1_3 a1_4 a1_5 a1_6 laws_eqOp.dec = (fun z0 => some z0) := by kernel_rfl
theorem laws_eqOp.inj (a0_0 : Int) (a0_1 : List (List D)) (a0_2 : Int) (a0_3 : ByteArray) (a0_4 : Int) (a0_5 : List (List D)) (a0_6 : List (List D)) (a1_0 : Int) (a1_1 : List (List D)) (a1_2 : Int) (a1_3 : ByteArray) (a1_4 : Int) (a1_5 : List (List D)) (a1_6 : List (List D)) {rs : List (List C)} {os : List Out} {z0 : Bool} (h : laws_eqOp.dec rs os = some z0) (ho : OutShape (laws_eqOp.as a0_0 a0_1 a0_2 a0_3 a0_4 a0_5 a0_6 a1_0 a1_1 a1_2 a1_3 a1_4 a1_5 a1_6) os) : rs = [[.d (.bool z0)]] ∧ os = [] := by
  unfold laws_eqOp.dec at h
  obtain ⟨c1, r2, rfl, h1⟩ := uncons_some h
  obtain ⟨x3, l4, rfl, h2⟩ := uncons_some h1
  obtain ⟨d5, rfl, h3⟩ := cD_some h2
  obtain ⟨w0, rfl, h4⟩ := dBool_some h3
  obtain ⟨rfl, h5⟩ := atEnd_some h4
  obtain ⟨rfl, h6⟩ := atEnd_some h5
  obtain ⟨rfl, h7⟩ := atEnd_some h6
  obtain rfl := Option.some.inj h7
  exact ⟨rfl, rfl⟩
theorem laws_eqOp.ok (k : Nat) : EntryOK Try.prog 207 (laws_eqOp.e k) := by
  refine entry_of mix tyok (fn := Try.f207) (c := codeOf Try.f207) Try.func207 (by kernel_rfl) (h := laws_eqOp.h) (k := k) (E := laws_eqOp.E k) (env_cons (laws_eqStringS.ok k) (env_cons (laws_eqValue.ok k) env_nil)) (by kernel_rfl) (by kernel_rfl) rfl (enter_of Try.func207 (by kernel_rfl)) ?_
  intro β l K r hr
  simp only [laws_eqOp.e] at hr
  split at hr
  case h_2 => cases hr
  unfold laws_eqOp.f at hr
  split at hr
  case h_2 => cases hr
  rename_i hz
  exact ⟨_, _, hr, _, laws_eqOp.dec, _, (laws_eqOp.f_eq k _ _ _ _ _ _ _ _ _ _ _ _ _ _ laws_eqOp.dec).trans (by rw [laws_eqOp.kt_dec]; exact hz), fun rs os h ho => laws_eqOp.inj _ _ _ _ _ _ _ _ _ _ _ _ _ _ h ho⟩
noncomputable def laws_eqOpS.l0 {β : Type} (k : Nat) (v0_0 : List (List D)) (v0_1 : List (List D)) (K : Bool → Option β) (L0 : Int → Option β) (v : Int) : Option β :=
  match v with
  | v0_2 => bif (decide ((v0_2 : Int) < (v0_0.length : Int))) then (atRow v0_0 v0_2 fun c46 => uncons c46 fun d47 r48 => dInt .i64 d47 fun x49 => uncons r48 fun d50 r51 => dSl d50 fun x52 => uncons r51 fun d53 r54 => dInt .i64 d53 fun x55 => uncons r54 fun d56 r57 => dStr d56 fun x58 => uncons r57 fun d59 r60 => dInt .i64 d59 fun x61 => uncons r60 fun d62 r63 => dSl d62 fun x64 => uncons r63 fun d65 r66 => dSl d65 fun x67 => atEnd r66 (atRow v0_1 v0_2 fun c68 => uncons c68 fun d69 r70 => dInt .i64 d69 fun x71 => uncons r70 fun d72 r73 => dSl d72 fun x74 => uncons r73 fun d75 r76 => dInt .i64 d75 fun x77 => uncons r76 fun d78 r79 => dStr d78 fun x80 => uncons r79 fun d81 r82 => dInt .i64 d81 fun x83 => uncons r82 fun d84 r85 => dSl d84 fun x86 => uncons r85 fun d87 r88 => dSl d87 fun x89 => atEnd r88 (laws_eqOp.f k x49 x52 x55 x58 x61 x64 x67 x71 x74 x77 x80 x83 x86 x89 (fun y90 => bif (!y90) then (K false) else (L0 (IntKind.wrap .i64 (v0_2 + 1))))))) else (K true)
noncomputable def laws_eqOpS.g {β : Type} (k : Nat) (a0 : List (List D)) (a1 : List (List D)) (K : Bool → Option β) : Option β :=
  bif (((a0.length : Int) : Int) != (a1.length : Int)) then (K false) else (iter (laws_eqOpS.l0 k a0 a1 K) k (0))
noncomputable def laws_eqOpS.t (k : Nat) (a0 : List (List D)) (a1 : List (List D)) : Option (Bool) := laws_eqOpS.g k a0 a1 (fun z0 => some z0)
noncomputable def laws_eqOpS.f {β : Type} (k : Nat) (a0 : List (List D)) (a1 : List (List D)) (K : Bool → Option β) : Option β :=
  match laws_eqOpS.t k a0 a1 with
  | some z0 => K z0
  | none => none
noncomputable def laws_eqOpS.as (a0 : List (List D)) (a1 : List (List D)) : List A := [.d (.sl a0), .d (.sl a1)]
noncomputable def laws_eqOpS.kt {β : Type} (a0 : List (List D)) (a1 : List (List D)) (K0 : List (List C) → List Out → Option β) : Bool → Option β := fun z0 => K0 [[.d (.bool z0)]] []
noncomputable def laws_eqOpS.e (k : Nat) : Entry := { modes := [(.imm, 0), (.imm, 0)], rts := [4], al := false, run := fun {β} l K => match l with | [.d (.sl a0), .d (.sl a1)] => laws_eqOpS.f k a0 a1 (laws_eqOpS.kt a0 a1 K) | _ => none }
noncomputable def laws_eqOpS.E (k : Nat) : Env := fun g => bif g == 207 then some (laws_eqOp.e k) else none
noncomputable def laws_eqOpS.h : Hints := ⟨fun n => bif n == 4 then ⟨[(0, .asis), (1, .asis), (5, .asis)], []⟩ else ⟨[], []⟩, fun _ => none, false, []⟩
noncomputable def laws_eqOpS.s0 (v0_0 : List (List D)) (v0_1 : List (List D)) (v : Int) : St :=
  match v with
  | v0_2 => ⟨[.d false (.sl v0_0), .d false (.sl v0_1), .any, .any, .any, .d true (.int .i64 v0_2), .any, .any, .any, .any, .any, .any, .any, .any, .any, .any, .any, .any, .any, .any, .any, .any, .any, .any, .any, .any, .any], []⟩
noncomputable def laws_eqOpS.b0 {β : Type} (k : Nat) : St → (Ex → St → Option β) → Option β := fun s K => den Try.prog (laws_eqOpS.E k) laws_eqOpS.h.H laws_eqOpS.h.J k (codeAt [1, 1, 0, 1, 0, 0] (codeOf Try.f204)) s K
noncomputable def laws_eqOpS.c0 {β : Type} (k : Nat) (a0 : List (List D)) (a1 : List (List D)) (K0 : List (List C) → List Out → Option β) : Ex → St → Option β := contAt Try.prog (laws_eqOpS.E k) laws_eqOpS.h k [1, 1, 0, 1, 0] (codeOf Try.f204) (finDen Try.prog Try.f204 laws_eqOpS.h (laws_eqOpS.as a0 a1) K0)
theorem laws_eqOpS.l0_eq {β : Type} (k : Nat) (a0 : List (List D)) (a1 : List (List D)) (K0 : List (List C) → List Out → Option β) (v0_0 : List (List D)) (v0_1 : List (List D)) : ∀ (kk : Nat) (v : Int), loopDen (laws_eqOpS.b0 k) (laws_eqOpS.h.H 4) kk (laws_eqOpS.s0 v0_0 v0_1 v) (laws_eqOpS.c0 k a0 a1 K0) = iter (laws_eqOpS.l0 k v0_0 v0_1 (laws_eqOpS.kt a0 a1 K0)) kk v :=
  loop_eq (laws_eqOpS.s0 v0_0 v0_1) _ (fun L0 v => by kernel_rfl)
noncomputable def laws_eqOpS.m {β : Type} (k : Nat) (a0 : List (List D)) (a1 : List (List D)) (K0 : List (List C) → List Out → Option β) (F : ((List (List D)) → (List (List D)) → Int → Option β)) : Option β :=
  bif (((a0.length : Int) : Int) != (a1.length : Int)) then ((laws_eqOpS.kt a0 a1 K0) false) else ((F) a0 a1 (0))
theorem laws_eqOpS.f_eq {β : Type} (k : Nat) (a0 : List (List D)) (a1 : List (List D)) (K0 : List (List C) → List Out → Option β) : funDen Try.prog (laws_eqOpS.E k) laws_eqOpS.h k Try.f204 (laws_eqOpS.as a0 a1) K0 = laws_eqOpS.g k a0 a1 (laws_eqOpS.kt a0 a1 K0) := Eq.trans (b := (laws_eqOpS.m k a0 a1 K0) (fun (v0_0 : List (List D)) (v0_1 : List (List D)) (v : Int) => loopDen (laws_eqOpS.b0 k) (laws_eqOpS.h.H 4) k (laws_eqOpS.s0 v0_0 v0_1 v) (laws_eqOpS.c0 k a0 a1 K0))) (by kernel_rfl) (Eq.trans (congrArg (laws_eqOpS.m k a0 a1 K0) (funext fun v0_0 => funext fun v0_1 => funext fun v => laws_eqOpS.l0_eq k a0 a1 K0 v0_0 v0_1 k v)) (by kernel_rfl))
noncomputable def laws_eqOpS.dec (rs : List (List C)) (os : List Out) : Option (Bool) := uncons rs fun c1 r2 => uncons c1 fun x3 l4 => cD x3 fun d5 => dBool d5 fun w0 => atEnd l4 <| atEnd r2 <| atEnd os (some w0)
theorem laws_eqOpS.kt_dec (a0 : List (List D)) (a1 : List (List D)) : laws_eqOpS.kt a0 a1 laws_eqOpS.dec = (fun z0 => some z0) := by kernel_rfl
theorem laws_eqOpS.inj (a0 : List (List D)) (a1 : List (List D)) {rs : List (List C)} {os : List Out} {z0 : Bool} (h : laws_eqOpS.dec rs os = some z0) (ho : OutShape (laws_eqOpS.as a0 a1) os) : rs = [[.d (.bool z0)]] ∧ os = [] := by
  unfold laws_eqOpS.dec at h
  obtain ⟨c1, r2, rfl, h1⟩ := uncons_some h
  obtain ⟨x3, l4, rfl, h2⟩ := uncons_some h1
  obtain ⟨d5, rfl, h3⟩ := cD_some h2
  obtain ⟨w0, rfl, h4⟩ := dBool_some h3
  obtain ⟨rfl, h5⟩ := atEnd_some h4
  obtain ⟨rfl, h6⟩ := atEnd_some h5
  obtain ⟨rfl, h7⟩ := atEnd_some h6
  obtain rfl := Option.some.inj h7
  exact ⟨rfl, rfl⟩
theorem laws_eqOpS.ok (k : Nat) : EntryOK Try.prog 204 (laws_eqOpS.e k) := by
  refine entry_of mix tyok (fn := Try.f204) (c := codeOf Try.f204) Try.func204 (by kernel_rfl) (h := laws_eqOpS.h) (k := k) (E := laws_eqOpS.E k) (env_cons (laws_eqOp.ok k) env_nil) (by kernel_rfl) (by kernel_rfl) rfl (enter_of Try.func204 (by kernel_rfl)) ?_
  intro β l K r hr
  simp only [laws_eqOpS.e] at hr
  split at hr
  case h_2 => cases hr
  unfold laws_eqOpS.f at hr
  split at hr
  case h_2 => cases hr
  rename_i hz
  exact ⟨_, _, hr, _, laws_eqOpS.dec, _, (laws_eqOpS.f_eq k _ _ laws_eqOpS.dec).trans (by rw [laws_eqOpS.kt_dec]; exact hz), fun rs os h ho => laws_eqOpS.inj _ _ h ho⟩
noncomputable def laws_eqOver.g {β : Type} (k : Nat) (a0_0 : ByteArray) (a0_1 : List (List D)) (a1_0 : ByteArray) (a1_1 : List (List D)) (K : Bool → Option β) : Option β :=
  bif (!(strEq a0_0 a1_0)) then (K false) else (laws_eqOpS.f k a0_1 a1_1 (fun y91 => bif (!y91) then (K false) else (K true)))
noncomputable def laws_eqOver.t (k : Nat) (a0_0 : ByteArray) (a0_1 : List (List D)) (a1_0 : ByteArray) (a1_1 : List (List D)) : Option (Bool) := laws_eqOver.g k a0_0 a0_1 a1_0 a1_1 (fun z0 => some z0)
noncomputable def laws_eqOver.f {β : Type} (k : Nat) (a0_0 : ByteArray) (a0_1 : List (List D)) (a1_0 : ByteArray) (a1_1 : List (List D)) (K : Bool → Option β) : Option β :=
  match laws_eqOver.t k a0_0 a0_1 a1_0 a1_1 with
  | some z0 => K z0
  | none => none
noncomputable def laws_eqOver.as (a0_0 : ByteArray) (a0_1 : List (List D)) (a1_0 : ByteArray) (a1_1 : List (List D)) : List A := [.agg [.str a0_0, .sl a0_1], .agg [.str a1_0, .sl a1_1]]
noncomputable def laws_eqOver.kt {β : Type} (a0_0 : ByteArray) (a0_1 : List (List D)) (a1_0 : ByteArray) (a1_1 : List (List D)) (K0 : List (List C) → List Out → Option β) : Bool → Option β := fun z0 => K0 [[.d (.bool z0)]] []
noncomputable def laws_eqOver.e (k : Nat) : Entry := { modes := [(.imm, 0), (.imm, 0)], rts := [4], al := false, run := fun {β} l K => match l with | [.agg [.str a0_0, .sl a0_1], .agg [.str a1_0, .sl a1_1]] => laws_eqOver.f k a0_0 a0_1 a1_0 a1_1 (laws_eqOver.kt a0_0 a0_1 a1_0 a1_1 K) | _ => none }
noncomputable def laws_eqOver.E (k : Nat) : Env := fun g => bif g == 204 then some (laws_eqOpS.e k) else none
noncomputable def laws_eqOver.h : Hints := ⟨fun n => ⟨[], []⟩, fun _ => none, false, []⟩
theorem laws_eqOver.f_eq {β : Type} (k : Nat) (a0_0 : ByteArray) (a0_1 : List (List D)) (a1_0 : ByteArray) (a1_1 : List (List D)) (K0 : List (List C) → List Out → Option β) : funDen Try.prog (laws_eqOver.E k) laws_eqOver.h k Try.f201 (laws_eqOver.as a0_0 a0_1 a1_0 a1_1) K0 = laws_eqOver.g k a0_0 a0_1 a1_0 a1_1 (laws_eqOver.kt a0_0 a0_1 a1_0 a1_1 K0) := by kernel_rfl
noncomputable def laws_eqOver.dec (rs : List (List C)) (os : List Out) : Option (Bool) := uncons rs fun c1 r2 => uncons c1 fun x3 l4 => cD x3 fun d5 => dBool d5 fun w0 => atEnd l4 <| atEnd r2 <| atEnd os (some w0)
theorem laws_eqOver.kt_dec (a0_0 : ByteArray) (a0_1 : List (List D)) (a1_0 : ByteArray) (a1_1 : List (List D)) : laws_eqOver.kt a0_0 a0_1 a1_0 a1_1 laws_eqOver.dec = (fun z0 => some z0) := by kernel_rfl
theorem laws_eqOver.inj (a0_0 : ByteArray) (a0_1 : List (List D)) (a1_0 : ByteArray) (a1_1 : List (List D)) {rs : List (List C)} {os : List Out} {z0 : Bool} (h : laws_eqOver.dec rs os = some z0) (ho : OutShape (laws_eqOver.as a0_0 a0_1 a1_0 a1_1) os) : rs = [[.d (.bool z0)]] ∧ os = [] := by
  unfold laws_eqOver.dec at h
  obtain ⟨c1, r2, rfl, h1⟩ := uncons_some h
  obtain ⟨x3, l4, rfl, h2⟩ := uncons_some h1
  obtain ⟨d5, rfl, h3⟩ := cD_some h2
  obtain ⟨w0, rfl, h4⟩ := dBool_some h3
  obtain ⟨rfl, h5⟩ := atEnd_some h4
  obtain ⟨rfl, h6⟩ := atEnd_some h5
  obtain ⟨rfl, h7⟩ := atEnd_some h6
  obtain rfl := Option.some.inj h7
  exact ⟨rfl, rfl⟩
theorem laws_eqOver.ok (k : Nat) : EntryOK Try.prog 201 (laws_eqOver.e k) := by
  refine entry_of mix tyok (fn := Try.f201) (c := codeOf Try.f201) Try.func201 (by kernel_rfl) (h := laws_eqOver.h) (k := k) (E := laws_eqOver.E k) (env_cons (laws_eqOpS.ok k) env_nil) (by kernel_rfl) (by kernel_rfl) rfl (enter_of Try.func201 (by kernel_rfl)) ?_
  intro β l K r hr
  simp only [laws_eqOver.e] at hr
  split at hr
  case h_2 => cases hr
  unfold laws_eqOver.f at hr
  split at hr
  case h_2 => cases hr
  rename_i hz
  exact ⟨_, _, hr, _, laws_eqOver.dec, _, (laws_eqOver.f_eq k _ _ _ _ laws_eqOver.dec).trans (by rw [laws_eqOver.kt_dec]; exact hz), fun rs os h ho => laws_eqOver.inj _ _ _ _ h ho⟩
noncomputable def laws_eqOverS.l0 {β : Type} (k : Nat) (v0_0 : List (List D)) (v0_1 : List (List D)) (K : Bool → Option β) (L0 : Int → Option β) (v : Int) : Option β :=
  match v with
  | v0_2 => bif (decide ((v0_2 : Int) < (v0_0.length : Int))) then (atRow v0_0 v0_2 fun c93 => uncons c93 fun d94 r95 => dStr d94 fun x96 => uncons r95 fun d97 r98 => dSl d97 fun x99 => atEnd r98 (atRow v0_1 v0_2 fun c100 => uncons c100 fun d101 r102 => dStr d101 fun x103 => uncons r102 fun d104 r105 => dSl d104 fun x106 => atEnd r105 (laws_eqOver.f k x96 x99 x103 x106 (fun y107 => bif (!y107) then (K false) else (L0 (IntKind.wrap .i64 (v0_2 + 1))))))) else (K true)
noncomputable def laws_eqOverS.g {β : Type} (k : Nat) (a0 : List (List D)) (a1 : List (List D)) (K : Bool → Option β) : Option β :=
  bif (((a0.length : Int) : Int) != (a1.length : Int)) then (K false) else (iter (laws_eqOverS.l0 k a0 a1 K) k (0))
noncomputable def laws_eqOverS.t (k : Nat) (a0 : List (List D)) (a1 : List (List D)) : Option (Bool) := laws_eqOverS.g k a0 a1 (fun z0 => some z0)
noncomputable def laws_eqOverS.f {β : Type} (k : Nat) (a0 : List (List D)) (a1 : List (List D)) (K : Bool → Option β) : Option β :=
  match laws_eqOverS.t k a0 a1 with
  | some z0 => K z0
  | none => none
noncomputable def laws_eqOverS.as (a0 : List (List D)) (a1 : List (List D)) : List A := [.d (.sl a0), .d (.sl a1)]
noncomputable def laws_eqOverS.kt {β : Type} (a0 : List (List D)) (a1 : List (List D)) (K0 : List (List C) → List Out → Option β) : Bool → Option β := fun z0 => K0 [[.d (.bool z0)]] []
noncomputable def laws_eqOverS.e (k : Nat) : Entry := { modes := [(.imm, 0), (.imm, 0)], rts := [4], al := false, run := fun {β} l K => match l with | [.d (.sl a0), .d (.sl a1)] => laws_eqOverS.f k a0 a1 (laws_eqOverS.kt a0 a1 K) | _ => none }
noncomputable def laws_eqOverS.E (k : Nat) : Env := fun g => bif g == 201 then some (laws_eqOver.e k) else none
noncomputable def laws_eqOverS.h : Hints := ⟨fun n => bif n == 4 then ⟨[(0, .asis), (1, .asis), (5, .asis)], []⟩ else ⟨[], []⟩, fun _ => none, false, []⟩
noncomputable def laws_eqOverS.s0 (v0_0 : List (List D)) (v0_1 : List (List D)) (v : Int) : St :=
  match v with
  | v0_2 => ⟨[.d false (.sl v0_0), .d false (.sl v0_1), .any, .any, .any, .d true (.int .i64 v0_2), .any, .any, .any, .any, .any, .any, .any, .any, .any, .any, .any, .any, .any, .any, .any, .any, .any, .any, .any, .any, .any], []⟩
noncomputable def laws_eqOverS.b0 {β : Type} (k : Nat) : St → (Ex → St → Option β) → Option β := fun s K => den Try.prog (laws_eqOverS.E k) laws_eqOverS.h.H laws_eqOverS.h.J k (codeAt [1, 1, 0, 1, 0, 0] (codeOf Try.f196)) s K
noncomputable def laws_eqOverS.c0 {β : Type} (k : Nat) (a0 : List (List D)) (a1 : List (List D)) (K0 : List (List C) → List Out → Option β) : Ex → St → Option β := contAt Try.prog (laws_eqOverS.E k) laws_eqOverS.h k [1, 1, 0, 1, 0] (codeOf Try.f196) (finDen Try.prog Try.f196 laws_eqOverS.h (laws_eqOverS.as a0 a1) K0)
theorem laws_eqOverS.l0_eq {β : Type} (k : Nat) (a0 : List (List D)) (a1 : List (List D)) (K0 : List (List C) → List Out → Option β) (v0_0 : List (List D)) (v0_1 : List (List D)) : ∀ (kk : Nat) (v : Int), loopDen (laws_eqOverS.b0 k) (laws_eqOverS.h.H 4) kk (laws_eqOverS.s0 v0_0 v0_1 v) (laws_eqOverS.c0 k a0 a1 K0) = iter (laws_eqOverS.l0 k v0_0 v0_1 (laws_eqOverS.kt a0 a1 K0)) kk v :=
  loop_eq (laws_eqOverS.s0 v0_0 v0_1) _ (fun L0 v => by kernel_rfl)
noncomputable def laws_eqOverS.m {β : Type} (k : Nat) (a0 : List (List D)) (a1 : List (List D)) (K0 : List (List C) → List Out → Option β) (F : ((List (List D)) → (List (List D)) → Int → Option β)) : Option β :=
  bif (((a0.length : Int) : Int) != (a1.length : Int)) then ((laws_eqOverS.kt a0 a1 K0) false) else ((F) a0 a1 (0))
theorem laws_eqOverS.f_eq {β : Type} (k : Nat) (a0 : List (List D)) (a1 : List (List D)) (K0 : List (List C) → List Out → Option β) : funDen Try.prog (laws_eqOverS.E k) laws_eqOverS.h k Try.f196 (laws_eqOverS.as a0 a1) K0 = laws_eqOverS.g k a0 a1 (laws_eqOverS.kt a0 a1 K0) := Eq.trans (b := (laws_eqOverS.m k a0 a1 K0) (fun (v0_0 : List (List D)) (v0_1 : List (List D)) (v : Int) => loopDen (laws_eqOverS.b0 k) (laws_eqOverS.h.H 4) k (laws_eqOverS.s0 v0_0 v0_1 v) (laws_eqOverS.c0 k a0 a1 K0))) (by kernel_rfl) (Eq.trans (congrArg (laws_eqOverS.m k a0 a1 K0) (funext fun v0_0 => funext fun v0_1 => funext fun v => laws_eqOverS.l0_eq k a0 a1 K0 v0_0 v0_1 k v)) (by kernel_rfl))
noncomputable def laws_eqOverS.dec (rs : List (List C)) (os : List Out) : Option (Bool) := uncons rs fun c1 r2 => uncons c1 fun x3 l4 => cD x3 fun d5 => dBool d5 fun w0 => atEnd l4 <| atEnd r2 <| atEnd os (some w0)
theorem laws_eqOverS.kt_dec (a0 : List (List D)) (a1 : List (List D)) : laws_eqOverS.kt a0 a1 laws_eqOverS.dec = (fun z0 => some z0) := by kernel_rfl
theorem laws_eqOverS.inj (a0 : List (List D)) (a1 : List (List D)) {rs : List (List C)} {os : List Out} {z0 : Bool} (h : laws_eqOverS.dec rs os = some z0) (ho : OutShape (laws_eqOverS.as a0 a1) os) : rs = [[.d (.bool z0)]] ∧ os = [] := by
  unfold laws_eqOverS.dec at h
  obtain ⟨c1, r2, rfl, h1⟩ := uncons_some h
  obtain ⟨x3, l4, rfl, h2⟩ := uncons_some h1
  obtain ⟨d5, rfl, h3⟩ := cD_some h2
  obtain ⟨w0, rfl, h4⟩ := dBool_some h3
  obtain ⟨rfl, h5⟩ := atEnd_some h4
  obtain ⟨rfl, h6⟩ := atEnd_some h5
  obtain ⟨rfl, h7⟩ := atEnd_some h6
  obtain rfl := Option.some.inj h7
  exact ⟨rfl, rfl⟩
theorem laws_eqOverS.ok (k : Nat) : EntryOK Try.prog 196 (laws_eqOverS.e k) := by
  refine entry_of mix tyok (fn := Try.f196) (c := codeOf Try.f196) Try.func196 (by kernel_rfl) (h := laws_eqOverS.h) (k := k) (E := laws_eqOverS.E k) (env_cons (laws_eqOver.ok k) env_nil) (by kernel_rfl) (by kernel_rfl) rfl (enter_of Try.func196 (by kernel_rfl)) ?_
  intro β l K r hr
  simp only [laws_eqOverS.e] at hr
  split at hr
  case h_2 => cases hr
  unfold laws_eqOverS.f at hr
  split at hr
  case h_2 => cases hr
  rename_i hz
  exact ⟨_, _, hr, _, laws_eqOverS.dec, _, (laws_eqOverS.f_eq k _ _ laws_eqOverS.dec).trans (by rw [laws_eqOverS.kt_dec]; exact hz), fun rs os h ho => laws_eqOverS.inj _ _ h ho⟩
noncomputable def laws_eqJob.g {β : Type} (k : Nat) (a0_0 : Int) (a0_1 : ByteArray) (a0_2 : Int) (a0_3 : List (List D)) (a0_4 : List (List D)) (a0_5 : List (List D)) (a0_6 : Int) (a0_7 : ByteArray) (a0_8 : Int) (a0_9 : List (List D)) (a0_10 : List (List D)) (a0_11 : List (List D)) (a0_12 : Bool) (a1_0 : Int) (a1_1 : ByteArray) (a1_2 : Int) (a1_3 : List (List D)) (a1_4 : List (List D)) (a1_5 : List (List D)) (a1_6 : Int) (a1_7 : ByteArray) (a1_8 : Int) (a1_9 : List (List D)) (a1_10 : List (List D)) (a1_11 : List (List D)) (a1_12 : Bool) (K : Bool → Option β) : Option β :=
  bif ((a0_0 : Int) != a1_0) then (K false) else (bif (!(strEq a0_1 a1_1)) then (K false) else (laws_eqWant.f k a0_2 a0_3 a0_4 a0_5 a1_2 a1_3 a1_4 a1_5 (fun y46 => bif (!y46) then (K false) else (laws_eqValue.f k a0_6 a0_7 a0_8 a0_9 a0_10 a1_6 a1_7 a1_8 a1_9 a1_10 (fun y68 => bif (!y68) then (K false) else (laws_eqOverS.f k a0_11 a1_11 (fun y108 => bif (!y108) then (K false) else (bif (!(a0_12 == a1_12)) then (K false) else (K true)))))))))
noncomputable def laws_eqJob.t (k : Nat) (a0_0 : Int) (a0_1 : ByteArray) (a0_2 : Int) (a0_3 : List (List D)) (a0_4 : List (List D)) (a0_5 : List (List D)) (a0_6 : Int) (a0_7 : ByteArray) (a0_8 : Int) (a0_9 : List (List D)) (a0_10 : List (List D)) (a0_11 : List (List D)) (a0_12 : Bool) (a1_0 : Int) (a1_1 : ByteArray) (a1_2 : Int) (a1_3 : List (List D)) (a1_4 : List (List D)) (a1_5 : List (List D)) (a1_6 : Int) (a1_7 : ByteArray) (a1_8 : Int) (a1_9 : List (List D)) (a1_10 : List (List D)) (a1_11 : List (List D)) (a1_12 : Bool) : Option (Bool) := laws_eqJob.g k a0_0 a0_1 a0_2 a0_3 a0_4 a0_5 a0_6 a0_7 a0_8 a0_9 a0_10 a0_11 a0_12 a1_0 a1_1 a1_2 a1_3 a1_4 a1_5 a1_6 a1_7 a1_8 a1_9 a1_10 a1_11 a1_12 (fun z0 => some z0)
noncomputable def laws_eqJob.f {β : Type} (k : Nat) (a0_0 : Int) (a0_1 : ByteArray) (a0_2 : Int) (a0_3 : List (List D)) (a0_4 : List (List D)) (a0_5 : List (List D)) (a0_6 : Int) (a0_7 : ByteArray) (a0_8 : Int) (a0_9 : List (List D)) (a0_10 : List (List D)) (a0_11 : List (List D)) (a0_12 : Bool) (a1_0 : Int) (a1_1 : ByteArray) (a1_2 : Int) (a1_3 : List (List D)) (a1_4 : List (List D)) (a1_5 : List (List D)) (a1_6 : Int) (a1_7 : ByteArray) (a1_8 : Int) (a1_9 : List (List D)) (a1_10 : List (List D)) (a1_11 : List (List D)) (a1_12 : Bool) (K : Bool → Option β) : Option β :=
  match laws_eqJob.t k a0_0 a0_1 a0_2 a0_3 a0_4 a0_5 a0_6 a0_7 a0_8 a0_9 a0_10 a0_11 a0_12 a1_0 a1_1 a1_2 a1_3 a1_4 a1_5 a1_6 a1_7 a1_8 a1_9 a1_10 a1_11 a1_12 with
  | some z0 => K z0
  | none => none
noncomputable def laws_eqJob.as (a0_0 : Int) (a0_1 : ByteArray) (a0_2 : Int) (a0_3 : List (List D)) (a0_4 : List (List D)) (a0_5 : List (List D)) (a0_6 : Int) (a0_7 : ByteArray) (a0_8 : Int) (a0_9 : List (List D)) (a0_10 : List (List D)) (a0_11 : List (List D)) (a0_12 : Bool) (a1_0 : Int) (a1_1 : ByteArray) (a1_2 : Int) (a1_3 : List (List D)) (a1_4 : List (List D)) (a1_5 : List (List D)) (a1_6 : Int) (a1_7 : ByteArray) (a1_8 : Int) (a1_9 : List (List D)) (a1_10 : List (List D)) (a1_11 : List (List D)) (a1_12 : Bool) : List A := [.agg [.int .i64 a0_0, .str a0_1, .int .i64 a0_2, .sl a0_3, .sl a0_4, .sl a0_5, .int .i64 a0_6, .str a0_7, .int .i64 a0_8, .sl a0_9, .sl a0_10, .sl a0_11, .bool a0_12], .agg [.int .i64 a1_0, .str a1_1, .int .i64 a1_2, .sl a1_3, .sl a1_4, .sl a1_5, .int .i64 a1_6, .str a1_7, .int .i64 a1_8, .sl a1_9, .sl a1_10, .sl a1_11, .bool a1_12]]
noncomputable def laws_eqJob.kt {β : Type} (a0_0 : Int) (a0_1 : ByteArray) (a0_2 : Int) (a0_3 : List (List D)) (a0_4 : List (List D)) (a0_5 : List (List D)) (a0_6 : Int) (a0_7 : ByteArray) (a0_8 : Int) (a0_9 : List (List D)) (a0_10 : List (List D)) (a0_11 : List (List D)) (a0_12 : Bool) (a1_0 : Int) (a1_1 : ByteArray) (a1_2 : Int) (a1_3 : List (List D)) (a1_4 : List (List D)) (a1_5 : List (List D)) (a1_6 : Int) (a1_7 : ByteArray) (a1_8 : Int) (a1_9 : List (List D)) (a1_10 : List (List D)) (a1_11 : List (List D)) (a1_12 : Bool) (K0 : List (List C) → List Out → Option β) : Bool → Option β := fun z0 => K0 [[.d (.bool z0)]] []
noncomputable def laws_eqJob.e (k : Nat) : Entry := { modes := [(.imm, 0), (.imm, 0)], rts := [4], al := false, run := fun {β} l K => match l with | [.agg [.int .i64 a0_0, .str a0_1, .int .i64 a0_2, .sl a0_3, .sl a0_4, .sl a0_5, .int .i64 a0_6, .str a0_7, .int .i64 a0_8, .sl a0_9, .sl a0_10, .sl a0_11, .bool a0_12], .agg [.int .i64 a1_0, .str a1_1, .int .i64 a1_2, .sl a1_3, .sl a1_4, .sl a1_5, .int .i64 a1_6, .str a1_7, .int .i64 a1_8, .sl a1_9, .sl a1_10, .sl a1_11, .bool a1_12]] => laws_eqJob.f k a0_0 a0_1 a0_2 a0_3 a0_4 a0_5 a0_6 a0_7 a0_8 a0_9 a0_10 a0_11 a0_12 a1_0 a1_1 a1_2 a1_3 a1_4 a1_5 a1_6 a1_7 a1_8 a1_9 a1_10 a1_11 a1_12 (laws_eqJob.kt a0_0 a0_1 a0_2 a0_3 a0_4 a0_5 a0_6 a0_7 a0_8 a0_9 a0_10 a0_11 a0_12 a1_0 a1_1 a1_2 a1_3 a1_4 a1_5 a1_6 a1_7 a1_8 a1_9 a1_10 a1_11 a1_12 K) | _ => none }
noncomputable def laws_eqJob.E (k : Nat) : Env := fun g => bif g == 24 then some (laws_eqWant.e k) else bif g == 163 then some (laws_eqValue.e k) else bif g == 196 then some (laws_eqOverS.e k) else none
noncomputable def laws_eqJob.h : Hints := ⟨fun n => ⟨[], []⟩, fun _ => none, false, []⟩
theorem laws_eqJob.f_eq {β : Type} (k : Nat) (a0_0 : Int) (a0_1 : ByteArray) (a0_2 : Int) (a0_3 : List (List D)) (a0_4 : List (List D)) (a0_5 : List (List D)) (a0_6 : Int) (a0_7 : ByteArray) (a0_8 : Int) (a0_9 : List (List D)) (a0_10 : List (List D)) (a0_11 : List (List D)) (a0_12 : Bool) (a1_0 : Int) (a1_1 : ByteArray) (a1_2 : Int) (a1_3 : List (List D)) (a1_4 : List (List D)) (a1_5 : List (List D)) (a1_6 : Int) (a1_7 : ByteArray) (a1_8 : Int) (a1_9 : List (List D)) (a1_10 : List (List D)) (a1_11 : List (List D)) (a1_12 : Bool) (K0 : List (List C) → List Out → Option β) : funDen Try.prog (laws_eqJob.E k) laws_eqJob.h k Try.f171 (laws_eqJob.as a0_0 a0_1 a0_2 a0_3 a0_4 a0_5 a0_6 a0_7 a0_8 a0_9 a0_10 a0_11 a0_12 a1_0 a1_1 a1_2 a1_3 a1_4 a1_5 a1_6 a1_7 a1_8 a1_9 a1_10 a1_11 a1_12) K0 = laws_eqJob.g k a0_0 a0_1 a0_2 a0_3 a0_4 a0_5 a0_6 a0_7 a0_8 a0_9 a0_10 a0_11 a0_12 a1_0 a1_1 a1_2 a1_3 a1_4 a1_5 a1_6 a1_7 a1_8 a1_9 a1_10 a1_11 a1_12 (laws_eqJob.kt a0_0 a0_1 a0_2 a0_3 a0_4 a0_5 a0_6 a0_7 a0_8 a0_9 a0_10 a0_11 a0_12 a1_0 a1_1 a1_2 a1_3 a1_4 a1_5 a1_6 a1_7 a1_8 a1_9 a1_10 a1_11 a1_12 K0) := by kernel_rfl
noncomputable def laws_eqJob.dec (rs : List (List C)) (os : List Out) : Option (Bool) := uncons rs fun c1 r2 => uncons c1 fun x3 l4 => cD x3 fun d5 => dBool d5 fun w0 => atEnd l4 <| atEnd r2 <| atEnd os (some w0)
theorem laws_eqJob.kt_dec (a0_0 : Int) (a0_1 : ByteArray) (a0_2 : Int) (a0_3 : List (List D)) (a0_4 : List (List D)) (a0_5 : List (List D)) (a0_6 : Int) (a0_7 : ByteArray) (a0_8 : Int) (a0_9 : List (List D)) (a0_10 : List (List D)) (a0_11 : List (List D)) (a0_12 : Bool) (a1_0 : Int) (a1_1 : ByteArray) (a1_2 : Int) (a1_3 : List (List D)) (a1_4 : List (List D)) (a1_5 : List (List D)) (a1_6 : Int) (a1_7 : ByteArray) (a1_8 : Int) (a1_9 : List (List D)) (a1_10 : List (List D)) (a1_11 : List (List D)) (a1_12 : Bool) : laws_eqJob.kt a0_0 a0_1 a0_2 a0_3 a0_4 a0_5 a0_6 a0_7 a0_8 a0_9 a0_10 a0_11 a0_12 a1_0 a1_1 a1_2 a1_3 a1_4 a1_5 a1_6 a1_7 a1_8 a1_9 a1_10 a1_11 a1_12 laws_eqJob.dec = (fun z0 => some z0) := by kernel_rfl
theorem laws_eqJob.inj (a0_0 : Int) (a0_1 : ByteArray) (a0_2 : Int) (a0_3 : List (List D)) (a0_4 : List (List D)) (a0_5 : List (List D)) (a0_6 : Int) (a0_7 : ByteArray) (a0_8 : Int) (a0_9 : List (List D)) (a0_10 : List (List D)) (a0_11 : List (List D)) (a0_12 : Bool) (a1_0 : Int) (a1_1 : ByteArray) (a1_2 : Int) (a1_3 : List (List D)) (a1_4 : List (List D)) (a1_5 : List (List D)) (a1_6 : Int) (a1_7 : ByteArray) (a1_8 : Int) (a1_9 : List (List D)) (a1_10 : List (List D)) (a1_11 : List (List D)) (a1_12 : Bool) {rs : List (List C)} {os : List Out} {z0 : Bool} (h : laws_eqJob.dec rs os = some z0) (ho : OutShape (laws_eqJob.as a0_0 a0_1 a0_2 a0_3 a0_4 a0_5 a0_6 a0_7 a0_8 a0_9 a0_10 a0_11 a0_12 a1_0 a1_1 a1_2 a1_3 a1_4 a1_5 a1_6 a1_7 a1_8 a1_9 a1_10 a1_11 a1_12) os) : rs = [[.d (.bool z0)]] ∧ os = [] := by
  unfold laws_eqJob.dec at h
  obtain ⟨c1, r2, rfl, h1⟩ := uncons_some h
  obtain ⟨x3, l4, rfl, h2⟩ := uncons_some h1
  obtain ⟨d5, rfl, h3⟩ := cD_some h2
  obtain ⟨w0, rfl, h4⟩ := dBool_some h3
  obtain ⟨rfl, h5⟩ := atEnd_some h4
  obtain ⟨rfl, h6⟩ := atEnd_some h5
  obtain ⟨rfl, h7⟩ := atEnd_some h6
  obtain rfl := Option.some.inj h7
  exact ⟨rfl, rfl⟩
theorem laws_eqJob.ok (k : Nat) : EntryOK Try.prog 171 (laws_eqJob.e k) := by
  refine entry_of mix tyok (fn := Try.f171) (c := codeOf Try.f171) Try.func171 (by kernel_rfl) (h := laws_eqJob.h) (k := k) (E := laws_eqJob.E k) (env_cons (laws_eqWant.ok k) (env_cons (laws_eqValue.ok k) (env_cons (laws_eqOverS.ok k) env_nil))) (by kernel_rfl) (by kernel_rfl) rfl (enter_of Try.func171 (by kernel_rfl)) ?_
  intro β l K r hr
  simp only [laws_eqJob.e] at hr
  split at hr
  case h_2 => cases hr
  unfold laws_eqJob.f at hr
  split at hr
  case h_2 => cases hr
  rename_i hz
  exact ⟨_, _, hr, _, laws_eqJob.dec, _, (laws_eqJob.f_eq k _ _ _ _ _ _ _ _ _ _ _ _ _ _ _ _ _ _ _ _ _ _ _ _ _ _ laws_eqJob.dec).trans (by rw [laws_eqJob.kt_dec]; exact hz), fun rs os h ho => laws_eqJob.inj _ _ _ _ _ _ _ _ _ _ _ _ _ _ _ _ _ _ _ _ _ _ _ _ _ _ h ho⟩
noncomputable def laws_eqJobS.l0 {β : Type} (k : Nat) (v0_0 : List (List D)) (v0_1 : List (List D)) (K : Bool → Option β) (L0 : Int → Option β) (v : Int) : Option β :=
  match v with
  | v0_2 => bif (decide ((v0_2 : Int) < (v0_0.length : Int))) then (atRow v0_0 v0_2 fun c110 => uncons c110 fun d111 r112 => dInt .i64 d111 fun x113 => uncons r112 fun d114 r115 => dStr d114 fun x116 => uncons r115 fun d117 r118 => dInt .i64 d117 fun x119 => uncons r118 fun d120 r121 => dSl d120 fun x122 => uncons r121 fun d123 r124 => dSl d123 fun x125 => uncons r124 fun d126 r127 => dSl d126 fun x128 => uncons r127 fun d129 r130 => dInt .i64 d129 fun x131 => uncons r130 fun d132 r133 => dStr d132 fun x134 => uncons r133 fun d135 r136 => dInt .i64 d135 fun x137 => uncons r136 fun d138 r139 => dSl d138 fun x140 => uncons r139 fun d141 r142 => dSl d141 fun x143 => uncons r142 fun d144 r145 => dSl d144 fun x146 => uncons r145 fun d147 r148 => dBool d147 fun x149 => atEnd r148 (atRow v0_1 v0_2 fun c150 => uncons c150 fun d151 r152 => dInt .i64 d151 fun x153 => uncons r152 fun d154 r155 => dStr d154 fun x156 => uncons r155 fun d157 r158 => dInt .i64 d157 fun x159 => uncons r158 fun d160 r161 => dSl d160 fun x162 => uncons r161 fun d163 r164 => dSl d163 fun x165 => uncons r164 fun d166 r167 => dSl d166 fun x168 => uncons r167 fun d169 r170 => dInt .i64 d169 fun x171 => uncons r170 fun d172 r173 => dStr d172 fun x174 => uncons r173 fun d175 r176 => dInt .i64 d175 fun x177 => uncons r176 fun d178 r179 => dSl d178 fun x180 => uncons r179 fun d181 r182 => dSl d181 fun x183 => uncons r182 fun d184 r185 => dSl d184 fun x186 => uncons r185 fun d187 r188 => dBool d187 fun x189 => atEnd r188 (laws_eqJob.f k x113 x116 x119 x122 x125 x128 x131 x134 x137 x140 x143 x146 x149 x153 x156 x159 x162 x165 x168 x171 x174 x177 x180 x183 x186 x189 (fun y190 => bif (!y190) then (K false) else (L0 (IntKind.wrap .i64 (v0_2 + 1))))))) else (K true)
noncomputable def laws_eqJobS.g {β : Type} (k : Nat) (a0 : List (List D)) (a1 : List (List D)) (K : Bool → Option β) : Option β :=
  bif (((a0.length : Int) : Int) != (a1.length : Int)) then (K false) else (iter (laws_eqJobS.l0 k a0 a1 K) k (0))
noncomputable def laws_eqJobS.t (k : Nat) (a0 : List (List D)) (a1 : List (List D)) : Option (Bool) := laws_eqJobS.g k a0 a1 (fun z0 => some z0)
noncomputable def laws_eqJobS.f {β : Type} (k : Nat) (a0 : List (List D)) (a1 : List (List D)) (K : Bool → Option β) : Option β :=
  match laws_eqJobS.t k a0 a1 with
  | some z0 => K z0
  | none => none
noncomputable def laws_eqJobS.as (a0 : List (List D)) (a1 : List (List D)) : List A := [.d (.sl a0), .d (.sl a1)]
noncomputable def laws_eqJobS.kt {β : Type} (a0 : List (List D)) (a1 : List (List D)) (K0 : List (List C) → List Out → Option β) : Bool → Option β := fun z0 => K0 [[.d (.bool z0)]] []
noncomputable def laws_eqJobS.e (k : Nat) : Entry := { modes := [(.imm, 0), (.imm, 0)], rts := [4], al := false, run := fun {β} l K => match l with | [.d (.sl a0), .d (.sl a1)] => laws_eqJobS.f k a0 a1 (laws_eqJobS.kt a0 a1 K) | _ => none }
noncomputable def laws_eqJobS.E (k : Nat) : Env := fun g => bif g == 171 then some (laws_eqJob.e k) else none
noncomputable def laws_eqJobS.h : Hints := ⟨fun n => bif n == 4 then ⟨[(0, .asis), (1, .asis), (5, .asis)], []⟩ else ⟨[], []⟩, fun _ => none, false, []⟩
noncomputable def laws_eqJobS.s0 (v0_0 : List (List D)) (v0_1 : List (List D)) (v : Int) : St :=
  match v with
  | v0_2 => ⟨[.d false (.sl v0_0), .d false (.sl v0_1), .any, .any, .any, .d true (.int .i64 v0_2), .any, .any, .any, .any, .any, .any, .any, .any, .any, .any, .any, .any, .any, .any, .any, .any, .any, .any, .any, .any, .any], []⟩
noncomputable def laws_eqJobS.b0 {β : Type} (k : Nat) : St → (Ex → St → Option β) → Option β := fun s K => den Try.prog (laws_eqJobS.E k) laws_eqJobS.h.H laws_eqJobS.h.J k (codeAt [1, 1, 0, 1, 0, 0] (codeOf Try.f118)) s K
noncomputable def laws_eqJobS.c0 {β : Type} (k : Nat) (a0 : List (List D)) (a1 : List (List D)) (K0 : List (List C) → List Out → Option β) : Ex → St → Option β := contAt Try.prog (laws_eqJobS.E k) laws_eqJobS.h k [1, 1, 0, 1, 0] (codeOf Try.f118) (finDen Try.prog Try.f118 laws_eqJobS.h (laws_eqJobS.as a0 a1) K0)
theorem laws_eqJobS.l0_eq {β : Type} (k : Nat) (a0 : List (List D)) (a1 : List (List D)) (K0 : List (List C) → List Out → Option β) (v0_0 : List (List D)) (v0_1 : List (List D)) : ∀ (kk : Nat) (v : Int), loopDen (laws_eqJobS.b0 k) (laws_eqJobS.h.H 4) kk (laws_eqJobS.s0 v0_0 v0_1 v) (laws_eqJobS.c0 k a0 a1 K0) = iter (laws_eqJobS.l0 k v0_0 v0_1 (laws_eqJobS.kt a0 a1 K0)) kk v :=
  loop_eq (laws_eqJobS.s0 v0_0 v0_1) _ (fun L0 v => by kernel_rfl)
noncomputable def laws_eqJobS.m {β : Type} (k : Nat) (a0 : List (List D)) (a1 : List (List D)) (K0 : List (List C) → List Out → Option β) (F : ((List (List D)) → (List (List D)) → Int → Option β)) : Option β :=
  bif (((a0.length : Int) : Int) != (a1.length : Int)) then ((laws_eqJobS.kt a0 a1 K0) false) else ((F) a0 a1 (0))
theorem laws_eqJobS.f_eq {β : Type} (k : Nat) (a0 : List (List D)) (a1 : List (List D)) (K0 : List (List C) → List Out → Option β) : funDen Try.prog (laws_eqJobS.E k) laws_eqJobS.h k Try.f118 (laws_eqJobS.as a0 a1) K0 = laws_eqJobS.g k a0 a1 (laws_eqJobS.kt a0 a1 K0) := Eq.trans (b := (laws_eqJobS.m k a0 a1 K0) (fun (v0_0 : List (List D)) (v0_1 : List (List D)) (v : Int) => loopDen (laws_eqJobS.b0 k) (laws_eqJobS.h.H 4) k (laws_eqJobS.s0 v0_0 v0_1 v) (laws_eqJobS.c0 k a0 a1 K0))) (by kernel_rfl) (Eq.trans (congrArg (laws_eqJobS.m k a0 a1 K0) (funext fun v0_0 => funext fun v0_1 => funext fun v => laws_eqJobS.l0_eq k a0 a1 K0 v0_0 v0_1 k v)) (by kernel_rfl))
noncomputable def laws_eqJobS.dec (rs : List (List C)) (os : List Out) : Option (Bool) := uncons rs fun c1 r2 => uncons c1 fun x3 l4 => cD x3 fun d5 => dBool d5 fun w0 => atEnd l4 <| atEnd r2 <| atEnd os (some w0)
theorem laws_eqJobS.kt_dec (a0 : List (List D)) (a1 : List (List D)) : laws_eqJobS.kt a0 a1 laws_eqJobS.dec = (fun z0 => some z0) := by kernel_rfl
theorem laws_eqJobS.inj (a0 : List (List D)) (a1 : List (List D)) {rs : List (List C)} {os : List Out} {z0 : Bool} (h : laws_eqJobS.dec rs os = some z0) (ho : OutShape (laws_eqJobS.as a0 a1) os) : rs = [[.d (.bool z0)]] ∧ os = [] := by
  unfold laws_eqJobS.dec at h
  obtain ⟨c1, r2, rfl, h1⟩ := uncons_some h
  obtain ⟨x3, l4, rfl, h2⟩ := uncons_some h1
  obtain ⟨d5, rfl, h3⟩ := cD_some h2
  obtain ⟨w0, rfl, h4⟩ := dBool_some h3
  obtain ⟨rfl, h5⟩ := atEnd_some h4
  obtain ⟨rfl, h6⟩ := atEnd_some h5
  obtain ⟨rfl, h7⟩ := atEnd_some h6
  obtain rfl := Option.some.inj h7
  exact ⟨rfl, rfl⟩
theorem laws_eqJobS.ok (k : Nat) : EntryOK Try.prog 118 (laws_eqJobS.e k) := by
  refine entry_of mix tyok (fn := Try.f118) (c := codeOf Try.f118) Try.func118 (by kernel_rfl) (h := laws_eqJobS.h) (k := k) (E := laws_eqJobS.E k) (env_cons (laws_eqJob.ok k) env_nil) (by kernel_rfl) (by kernel_rfl) rfl (enter_of Try.func118 (by kernel_rfl)) ?_
  intro β l K r hr
  simp only [laws_eqJobS.e] at hr
  split at hr
  case h_2 => cases hr
  unfold laws_eqJobS.f at hr
  split at hr
  case h_2 => cases hr
  rename_i hz
  exact ⟨_, _, hr, _, laws_eqJobS.dec, _, (laws_eqJobS.f_eq k _ _ laws_eqJobS.dec).trans (by rw [laws_eqJobS.kt_dec]; exact hz), fun rs os h ho => laws_eqJobS.inj _ _ h ho⟩
noncomputable def laws_eqLabel.g {β : Type} (k : Nat) (a0_0 : ByteArray) (a0_1 : ByteArray) (a1_0 : ByteArray) (a1_1 : ByteArray) (K : Bool → Option β) : Option β :=
  bif (!(strEq a0_0 a1_0)) then (K false) else (bif (!(strEq a0_1 a1_1)) then (K false) else (K true))
noncomputable def laws_eqLabel.t (k : Nat) (a0_0 : ByteArray) (a0_1 : ByteArray) (a1_0 : ByteArray) (a1_1 : ByteArray) : Option (Bool) := laws_eqLabel.g k a0_0 a0_1 a1_0 a1_1 (fun z0 => some z0)
noncomputable def laws_eqLabel.f {β : Type} (k : Nat) (a0_0 : ByteArray) (a0_1 : ByteArray) (a1_0 : ByteArray) (a1_1 : ByteArray) (K : Bool → Option β) : Option β :=
  match laws_eqLabel.t k a0_0 a0_1 a1_0 a1_1 with
  | some z0 => K z0
  | none => none
noncomputable def laws_eqLabel.as (a0_0 : ByteArray) (a0_1 : ByteArray) (a1_0 : ByteArray) (a1_1 : ByteArray) : List A := [.agg [.str a0_0, .str a0_1], .agg [.str a1_0, .str a1_1]]
noncomputable def laws_eqLabel.kt {β : Type} (a0_0 : ByteArray) (a0_1 : ByteArray) (a1_0 : ByteArray) (a1_1 : ByteArray) (K0 : List (List C) → List Out → Option β) : Bool → Option β := fun z0 => K0 [[.d (.bool z0)]] []
noncomputable def laws_eqLabel.e (k : Nat) : Entry := { modes := [(.imm, 0), (.imm, 0)], rts := [4], al := false, run := fun {β} l K => match l with | [.agg [.str a0_0, .str a0_1], .agg [.str a1_0, .str a1_1]] => laws_eqLabel.f k a0_0 a0_1 a1_0 a1_1 (laws_eqLabel.kt a0_0 a0_1 a1_0 a1_1 K) | _ => none }
noncomputable def laws_eqLabel.E (k : Nat) : Env := fun g => none
noncomputable def laws_eqLabel.h : Hints := ⟨fun n => ⟨[], []⟩, fun _ => none, false, []⟩
theorem laws_eqLabel.f_eq {β : Type} (k : Nat) (a0_0 : ByteArray) (a0_1 : ByteArray) (a1_0 : ByteArray) (a1_1 : ByteArray) (K0 : List (List C) → List Out → Option β) : funDen Try.prog (laws_eqLabel.E k) laws_eqLabel.h k Try.f137 (laws_eqLabel.as a0_0 a0_1 a1_0 a1_1) K0 = laws_eqLabel.g k a0_0 a0_1 a1_0 a1_1 (laws_eqLabel.kt a0_0 a0_1 a1_0 a1_1 K0) := by kernel_rfl
noncomputable def laws_eqLabel.dec (rs : List (List C)) (os : List Out) : Option (Bool) := uncons rs fun c1 r2 => uncons c1 fun x3 l4 => cD x3 fun d5 => dBool d5 fun w0 => atEnd l4 <| atEnd r2 <| atEnd os (some w0)
theorem laws_eqLabel.kt_dec (a0_0 : ByteArray) (a0_1 : ByteArray) (a1_0 : ByteArray) (a1_1 : ByteArray) : laws_eqLabel.kt a0_0 a0_1 a1_0 a1_1 laws_eqLabel.dec = (fun z0 => some z0) := by kernel_rfl
theorem laws_eqLabel.inj (a0_0 : ByteArray) (a0_1 : ByteArray) (a1_0 : ByteArray) (a1_1 : ByteArray) {rs : List (List C)} {os : List Out} {z0 : Bool} (h : laws_eqLabel.dec rs os = some z0) (ho : OutShape (laws_eqLabel.as a0_0 a0_1 a1_0 a1_1) os) : rs = [[.d (.bool z0)]] ∧ os = [] := by
  unfold laws_eqLabel.dec at h
  obtain ⟨c1, r2, rfl, h1⟩ := uncons_some h
  obtain ⟨x3, l4, rfl, h2⟩ := uncons_some h1
  obtain ⟨d5, rfl, h3⟩ := cD_some h2
  obtain ⟨w0, rfl, h4⟩ := dBool_some h3
  obtain ⟨rfl, h5⟩ := atEnd_some h4
  obtain ⟨rfl, h6⟩ := atEnd_some h5
  obtain ⟨rfl, h7⟩ := atEnd_some h6
  obtain rfl := Option.some.inj h7
  exact ⟨rfl, rfl⟩
theorem laws_eqLabel.ok (k : Nat) : EntryOK Try.prog 137 (laws_eqLabel.e k) := by
  refine entry_of mix tyok (fn := Try.f137) (c := codeOf Try.f137) Try.func137 (by kernel_rfl) (h := laws_eqLabel.h) (k := k) (E := laws_eqLabel.E k) env_nil (by kernel_rfl) (by kernel_rfl) rfl (enter_of Try.func137 (by kernel_rfl)) ?_
  intro β l K r hr
  simp only [laws_eqLabel.e] at hr
  split at hr
  case h_2 => cases hr
  unfold laws_eqLabel.f at hr
  split at hr
  case h_2 => cases hr
  rename_i hz
  exact ⟨_, _, hr, _, laws_eqLabel.dec, _, (laws_eqLabel.f_eq k _ _ _ _ laws_eqLabel.dec).trans (by rw [laws_eqLabel.kt_dec]; exact hz), fun rs os h ho => laws_eqLabel.inj _ _ _ _ h ho⟩
noncomputable def laws_eqLabelS.l0 {β : Type} (k : Nat) (v0_0 : List (List D)) (v0_1 : List (List D)) (K : Bool → Option β) (L0 : Int → Option β) (v : Int) : Option β :=
  match v with
  | v0_2 => bif (decide ((v0_2 : Int) < (v0_0.length : Int))) then (atRow v0_0 v0_2 fun c16 => uncons c16 fun d17 r18 => dStr d17 fun x19 => uncons r18 fun d20 r21 => dStr d20 fun x22 => atEnd r21 (atRow v0_1 v0_2 fun c23 => uncons c23 fun d24 r25 => dStr d24 fun x26 => uncons r25 fun d27 r28 => dStr d27 fun x29 => atEnd r28 (laws_eqLabel.f k x19 x22 x26 x29 (fun y30 => bif (!y30) then (K false) else (L0 (IntKind.wrap .i64 (v0_2 + 1))))))) else (K true)
noncomputable def laws_eqLabelS.g {β : Type} (k : Nat) (a0 : List (List D)) (a1 : List (List D)) (K : Bool → Option β) : Option β :=
  bif (((a0.length : Int) : Int) != (a1.length : Int)) then (K false) else (iter (laws_eqLabelS.l0 k a0 a1 K) k (0))
noncomputable def laws_eqLabelS.t (k : Nat) (a0 : List (List D)) (a1 : List (List D)) : Option (Bool) := laws_eqLabelS.g k a0 a1 (fun z0 => some z0)
noncomputable def laws_eqLabelS.f {β : Type} (k : Nat) (a0 : List (List D)) (a1 : List (List D)) (K : Bool → Option β) : Option β :=
  match laws_eqLabelS.t k a0 a1 with
  | some z0 => K z0
  | none => none
noncomputable def laws_eqLabelS.as (a0 : List (List D)) (a1 : List (List D)) : List A := [.d (.sl a0), .d (.sl a1)]
noncomputable def laws_eqLabelS.kt {β : Type} (a0 : List (List D)) (a1 : List (List D)) (K0 : List (List C) → List Out → Option β) : Bool → Option β := fun z0 => K0 [[.d (.bool z0)]] []
noncomputable def laws_eqLabelS.e (k : Nat) : Entry := { modes := [(.imm, 0), (.imm, 0)], rts := [4], al := false, run := fun {β} l K => match l with | [.d (.sl a0), .d (.sl a1)] => laws_eqLabelS.f k a0 a1 (laws_eqLabelS.kt a0 a1 K) | _ => none }
noncomputable def laws_eqLabelS.E (k : Nat) : Env := fun g => bif g == 137 then some (laws_eqLabel.e k) else none
noncomputable def laws_eqLabelS.h : Hints := ⟨fun n => bif n == 4 then ⟨[(0, .asis), (1, .asis), (5, .asis)], []⟩ else ⟨[], []⟩, fun _ => none, false, []⟩
noncomputable def laws_eqLabelS.s0 (v0_0 : List (List D)) (v0_1 : List (List D)) (v : Int) : St :=
  match v with
  | v0_2 => ⟨[.d false (.sl v0_0), .d false (.sl v0_1), .any, .any, .any, .d true (.int .i64 v0_2), .any, .any, .any, .any, .any, .any, .any, .any, .any, .any, .any, .any, .any, .any, .any, .any, .any, .any, .any, .any, .any], []⟩
noncomputable def laws_eqLabelS.b0 {β : Type} (k : Nat) : St → (Ex → St → Option β) → Option β := fun s K => den Try.prog (laws_eqLabelS.E k) laws_eqLabelS.h.H laws_eqLabelS.h.J k (codeAt [1, 1, 0, 1, 0, 0] (codeOf Try.f76)) s K
noncomputable def laws_eqLabelS.c0 {β : Type} (k : Nat) (a0 : List (List D)) (a1 : List (List D)) (K0 : List (List C) → List Out → Option β) : Ex → St → Option β := contAt Try.prog (laws_eqLabelS.E k) laws_eqLabelS.h k [1, 1, 0, 1, 0] (codeOf Try.f76) (finDen Try.prog Try.f76 laws_eqLabelS.h (laws_eqLabelS.as a0 a1) K0)
theorem laws_eqLabelS.l0_eq {β : Type} (k : Nat) (a0 : List (List D)) (a1 : List (List D)) (K0 : List (List C) → List Out → Option β) (v0_0 : List (List D)) (v0_1 : List (List D)) : ∀ (kk : Nat) (v : Int), loopDen (laws_eqLabelS.b0 k) (laws_eqLabelS.h.H 4) kk (laws_eqLabelS.s0 v0_0 v0_1 v) (laws_eqLabelS.c0 k a0 a1 K0) = iter (laws_eqLabelS.l0 k v0_0 v0_1 (laws_eqLabelS.kt a0 a1 K0)) kk v :=
  loop_eq (laws_eqLabelS.s0 v0_0 v0_1) _ (fun L0 v => by kernel_rfl)
noncomputable def laws_eqLabelS.m {β : Type} (k : Nat) (a0 : List (List D)) (a1 : List (List D)) (K0 : List (List C) → List Out → Option β) (F : ((List (List D)) → (List (List D)) → Int → Option β)) : Option β :=
  bif (((a0.length : Int) : Int) != (a1.length : Int)) then ((laws_eqLabelS.kt a0 a1 K0) false) else ((F) a0 a1 (0))
theorem laws_eqLabelS.f_eq {β : Type} (k : Nat) (a0 : List (List D)) (a1 : List (List D)) (K0 : List (List C) → List Out → Option β) : funDen Try.prog (laws_eqLabelS.E k) laws_eqLabelS.h k Try.f76 (laws_eqLabelS.as a0 a1) K0 = laws_eqLabelS.g k a0 a1 (laws_eqLabelS.kt a0 a1 K0) := Eq.trans (b := (laws_eqLabelS.m k a0 a1 K0) (fun (v0_0 : List (List D)) (v0_1 : List (List D)) (v : Int) => loopDen (laws_eqLabelS.b0 k) (laws_eqLabelS.h.H 4) k (laws_eqLabelS.s0 v0_0 v0_1 v) (laws_eqLabelS.c0 k a0 a1 K0))) (by kernel_rfl) (Eq.trans (congrArg (laws_eqLabelS.m k a0 a1 K0) (funext fun v0_0 => funext fun v0_1 => funext fun v => laws_eqLabelS.l0_eq k a0 a1 K0 v0_0 v0_1 k v)) (by kernel_rfl))
noncomputable def laws_eqLabelS.dec (rs : List (List C)) (os : List Out) : Option (Bool) := uncons rs fun c1 r2 => uncons c1 fun x3 l4 => cD x3 fun d5 => dBool d5 fun w0 => atEnd l4 <| atEnd r2 <| atEnd os (some w0)
theorem laws_eqLabelS.kt_dec (a0 : List (List D)) (a1 : List (List D)) : laws_eqLabelS.kt a0 a1 laws_eqLabelS.dec = (fun z0 => some z0) := by kernel_rfl
theorem laws_eqLabelS.inj (a0 : List (List D)) (a1 : List (List D)) {rs : List (List C)} {os : List Out} {z0 : Bool} (h : laws_eqLabelS.dec rs os = some z0) (ho : OutShape (laws_eqLabelS.as a0 a1) os) : rs = [[.d (.bool z0)]] ∧ os = [] := by
  unfold laws_eqLabelS.dec at h
  obtain ⟨c1, r2, rfl, h1⟩ := uncons_some h
  obtain ⟨x3, l4, rfl, h2⟩ := uncons_some h1
  obtain ⟨d5, rfl, h3⟩ := cD_some h2
  obtain ⟨w0, rfl, h4⟩ := dBool_some h3
  obtain ⟨rfl, h5⟩ := atEnd_some h4
  obtain ⟨rfl, h6⟩ := atEnd_some h5
  obtain ⟨rfl, h7⟩ := atEnd_some h6
  obtain rfl := Option.some.inj h7
  exact ⟨rfl, rfl⟩
theorem laws_eqLabelS.ok (k : Nat) : EntryOK Try.prog 76 (laws_eqLabelS.e k) := by
  refine entry_of mix tyok (fn := Try.f76) (c := codeOf Try.f76) Try.func76 (by kernel_rfl) (h := laws_eqLabelS.h) (k := k) (E := laws_eqLabelS.E k) (env_cons (laws_eqLabel.ok k) env_nil) (by kernel_rfl) (by kernel_rfl) rfl (enter_of Try.func76 (by kernel_rfl)) ?_
  intro β l K r hr
  simp only [laws_eqLabelS.e] at hr
  split at hr
  case h_2 => cases hr
  unfold laws_eqLabelS.f at hr
  split at hr
  case h_2 => cases hr
  rename_i hz
  exact ⟨_, _, hr, _, laws_eqLabelS.dec, _, (laws_eqLabelS.f_eq k _ _ laws_eqLabelS.dec).trans (by rw [laws_eqLabelS.kt_dec]; exact hz), fun rs os h ho => laws_eqLabelS.inj _ _ h ho⟩
noncomputable def laws_eqIsland.g {β : Type} (k : Nat) (a0_0 : ByteArray) (a0_1 : List (List D)) (a0_2 : List (List D)) (a0_3 : Int) (a1_0 : ByteArray) (a1_1 : List (List D)) (a1_2 : List (List D)) (a1_3 : Int) (K : Bool → Option β) : Option β :=
  bif (!(strEq a0_0 a1_0)) then (K false) else (laws_eqLabelS.f k a0_1 a1_1 (fun y31 => bif (!y31) then (K false) else (laws_eqStringS.f k a0_2 a1_2 (fun y32 => bif (!y32) then (K false) else (bif ((a0_3 : Int) != a1_3) then (K false) else (K true))))))
noncomputable def laws_eqIsland.t (k : Nat) (a0_0 : ByteArray) (a0_1 : List (List D)) (a0_2 : List (List D)) (a0_3 : Int) (a1_0 : ByteArray) (a1_1 : List (List D)) (a1_2 : List (List D)) (a1_3 : Int) : Option (Bool) := laws_eqIsland.g k a0_0 a0_1 a0_2 a0_3 a1_0 a1_1 a1_2 a1_3 (fun z0 => some z0)
noncomputable def laws_eqIsland.f {β : Type} (k : Nat) (a0_0 : ByteArray) (a0_1 : List (List D)) (a0_2 : List (List D)) (a0_3 : Int) (a1_0 : ByteArray) (a1_1 : List (List D)) (a1_2 : List (List D)) (a1_3 : Int) (K : Bool → Option β) : Option β :=
  match laws_eqIsland.t k a0_0 a0_1 a0_2 a0_3 a1_0 a1_1 a1_2 a1_3 with
  | some z0 => K z0
  | none => none
noncomputable def laws_eqIsland.as (a0_0 : ByteArray) (a0_1 : List (List D)) (a0_2 : List (List D)) (a0_3 : Int) (a1_0 : ByteArray) (a1_1 : List (List D)) (a1_2 : List (List D)) (a1_3 : Int) : List A := [.agg [.str a0_0, .sl a0_1, .sl a0_2, .int .i64 a0_3], .agg [.str a1_0, .sl a1_1, .sl a1_2, .int .i64 a1_3]]
noncomputable def laws_eqIsland.kt {β : Type} (a0_0 : ByteArray) (a0_1 : List (List D)) (a0_2 : List (List D)) (a0_3 : Int) (a1_0 : ByteArray) (a1_1 : List (List D)) (a1_2 : List (List D)) (a1_3 : Int) (K0 : List (List C) → List Out → Option β) : Bool → Option β := fun z0 => K0 [[.d (.bool z0)]] []
noncomputable def laws_eqIsland.e (k : Nat) : Entry := { modes := [(.imm, 0), (.imm, 0)], rts := [4], al := false, run := fun {β} l K => match l with | [.agg [.str a0_0, .sl a0_1, .sl a0_2, .int .i64 a0_3], .agg [.str a1_0, .sl a1_1, .sl a1_2, .int .i64 a1_3]] => laws_eqIsland.f k a0_0 a0_1 a0_2 a0_3 a1_0 a1_1 a1_2 a1_3 (laws_eqIsland.kt a0_0 a0_1 a0_2 a0_3 a1_0 a1_1 a1_2 a1_3 K) | _ => none }
noncomputable def laws_eqIsland.E (k : Nat) : Env := fun g => bif g == 76 then some (laws_eqLabelS.e k) else bif g == 77 then some (laws_eqStringS.e k) else none
noncomputable def laws_eqIsland.h : Hints := ⟨fun n => ⟨[], []⟩, fun _ => none, false, []⟩
theorem laws_eqIsland.f_eq {β : Type} (k : Nat) (a0_0 : ByteArray) (a0_1 : List (List D)) (a0_2 : List (List D)) (a0_3 : Int) (a1_0 : ByteArray) (a1_1 : List (List D)) (a1_2 : List (List D)) (a1_3 : Int) (K0 : List (List C) → List Out → Option β) : funDen Try.prog (laws_eqIsland.E k) laws_eqIsland.h k Try.f19 (laws_eqIsland.as a0_0 a0_1 a0_2 a0_3 a1_0 a1_1 a1_2 a1_3) K0 = laws_eqIsland.g k a0_0 a0_1 a0_2 a0_3 a1_0 a1_1 a1_2 a1_3 (laws_eqIsland.kt a0_0 a0_1 a0_2 a0_3 a1_0 a1_1 a1_2 a1_3 K0) := by kernel_rfl
noncomputable def laws_eqIsland.dec (rs : List (List C)) (os : List Out) : Option (Bool) := uncons rs fun c1 r2 => uncons c1 fun x3 l4 => cD x3 fun d5 => dBool d5 fun w0 => atEnd l4 <| atEnd r2 <| atEnd os (some w0)
theorem laws_eqIsland.kt_dec (a0_0 : ByteArray) (a0_1 : List (List D)) (a0_2 : List (List D)) (a0_3 : Int) (a1_0 : ByteArray) (a1_1 : List (List D)) (a1_2 : List (List D)) (a1_3 : Int) : laws_eqIsland.kt a0_0 a0_1 a0_2 a0_3 a1_0 a1_1 a1_2 a1_3 laws_eqIsland.dec = (fun z0 => some z0) := by kernel_rfl
theorem laws_eqIsland.inj (a0_0 : ByteArray) (a0_1 : List (List D)) (a0_2 : List (List D)) (a0_3 : Int) (a1_0 : ByteArray) (a1_1 : List (List D)) (a1_2 : List (List D)) (a1_3 : Int) {rs : List (List C)} {os : List Out} {z0 : Bool} (h : laws_eqIsland.dec rs os = some z0) (ho : OutShape (laws_eqIsland.as a0_0 a0_1 a0_2 a0_3 a1_0 a1_1 a1_2 a1_3) os) : rs = [[.d (.bool z0)]] ∧ os = [] := by
  unfold laws_eqIsland.dec at h
  obtain ⟨c1, r2, rfl, h1⟩ := uncons_some h
  obtain ⟨x3, l4, rfl, h2⟩ := uncons_some h1
  obtain ⟨d5, rfl, h3⟩ := cD_some h2
  obtain ⟨w0, rfl, h4⟩ := dBool_some h3
  obtain ⟨rfl, h5⟩ := atEnd_some h4
  obtain ⟨rfl, h6⟩ := atEnd_some h5
  obtain ⟨rfl, h7⟩ := atEnd_some h6
  obtain rfl := Option.some.inj h7
  exact ⟨rfl, rfl⟩
theorem laws_eqIsland.ok (k : Nat) : EntryOK Try.prog 19 (laws_eqIsland.e k) := by
  refine entry_of mix tyok (fn := Try.f19) (c := codeOf Try.f19) Try.func19 (by kernel_rfl) (h := laws_eqIsland.h) (k := k) (E := laws_eqIsland.E k) (env_cons (laws_eqLabelS.ok k) (env_cons (laws_eqStringS.ok k) env_nil)) (by kernel_rfl) (by kernel_rfl) rfl (enter_of Try.func19 (by kernel_rfl)) ?_
  intro β l K r hr
  simp only [laws_eqIsland.e] at hr
  split at hr
  case h_2 => cases hr
  unfold laws_eqIsland.f at hr
  split at hr
  case h_2 => cases hr
  rename_i hz
  exact ⟨_, _, hr, _, laws_eqIsland.dec, _, (laws_eqIsland.f_eq k _ _ _ _ _ _ _ _ laws_eqIsland.dec).trans (by rw [laws_eqIsland.kt_dec]; exact hz), fun rs os h ho => laws_eqIsland.inj _ _ _ _ _ _ _ _ h ho⟩
noncomputable def laws_eqPost.g {β : Type} (k : Nat) (a0_0 : ByteArray) (a0_1 : List (List D)) (a0_2 : List (List D)) (a0_3 : Int) (a0_4 : Int) (a0_5 : Int) (a1_0 : ByteArray) (a1_1 : List (List D)) (a1_2 : List (List D)) (a1_3 : Int) (a1_4 : Int) (a1_5 : Int) (K : Bool → Option β) : Option β :=
  laws_eqIsland.f k a0_0 a0_1 a0_2 a0_3 a1_0 a1_1 a1_2 a1_3 (fun y33 => bif (!y33) then (K false) else (bif ((a0_4 : Int) != a1_4) then (K false) else (bif ((a0_5 : Int) != a1_5) then (K false) else (K true))))
noncomputable def laws_eqPost.t (k : Nat) (a0_0 : ByteArray) (a0_1 : List (List D)) (a0_2 : List (List D)) (a0_3 : Int) (a0_4 : Int) (a0_5 : Int) (a1_0 : ByteArray) (a1_1 : List (List D)) (a1_2 : List (List D)) (a1_3 : Int) (a1_4 : Int) (a1_5 : Int) : Option (Bool) := laws_eqPost.g k a0_0 a0_1 a0_2 a0_3 a0_4 a0_5 a1_0 a1_1 a1_2 a1_3 a1_4 a1_5 (fun z0 => some z0)
noncomputable def laws_eqPost.f {β : Type} (k : Nat) (a0_0 : ByteArray) (a0_1 : List (List D)) (a0_2 : List (List D)) (a0_3 : Int) (a0_4 : Int) (a0_5 : Int) (a1_0 : ByteArray) (a1_1 : List (List D)) (a1_2 : List (List D)) (a1_3 : Int) (a1_4 : Int) (a1_5 : Int) (K : Bool → Option β) : Option β :=
  match laws_eqPost.t k a0_0 a0_1 a0_2 a0_3 a0_4 a0_5 a1_0 a1_1 a1_2 a1_3 a1_4 a1_5 with
  | some z0 => K z0
  | none => none
noncomputable def laws_eqPost.as (a0_0 : ByteArray) (a0_1 : List (List D)) (a0_2 : List (List D)) (a0_3 : Int) (a0_4 : Int) (a0_5 : Int) (a1_0 : ByteArray) (a1_1 : List (List D)) (a1_2 : List (List D)) (a1_3 : Int) (a1_4 : Int) (a1_5 : Int) : List A := [.agg [.str a0_0, .sl a0_1, .sl a0_2, .int .i64 a0_3, .int .i64 a0_4, .int .i64 a0_5], .agg [.str a1_0, .sl a1_1, .sl a1_2, .int .i64 a1_3, .int .i64 a1_4, .int .i64 a1_5]]
noncomputable def laws_eqPost.kt {β : Type} (a0_0 : ByteArray) (a0_1 : List (List D)) (a0_2 : List (List D)) (a0_3 : Int) (a0_4 : Int) (a0_5 : Int) (a1_0 : ByteArray) (a1_1 : List (List D)) (a1_2 : List (List D)) (a1_3 : Int) (a1_4 : Int) (a1_5 : Int) (K0 : List (List C) → List Out → Option β) : Bool → Option β := fun z0 => K0 [[.d (.bool z0)]] []
noncomputable def laws_eqPost.e (k : Nat) : Entry := { modes := [(.imm, 0), (.imm, 0)], rts := [4], al := false, run := fun {β} l K => match l with | [.agg [.str a0_0, .sl a0_1, .sl a0_2, .int .i64 a0_3, .int .i64 a0_4, .int .i64 a0_5], .agg [.str a1_0, .sl a1_1, .sl a1_2, .int .i64 a1_3, .int .i64 a1_4, .int .i64 a1_5]] => laws_eqPost.f k a0_0 a0_1 a0_2 a0_3 a0_4 a0_5 a1_0 a1_1 a1_2 a1_3 a1_4 a1_5 (laws_eqPost.kt a0_0 a0_1 a0_2 a0_3 a0_4 a0_5 a1_0 a1_1 a1_2 a1_3 a1_4 a1_5 K) | _ => none }
noncomputable def laws_eqPost.E (k : Nat) : Env := fun g => bif g == 19 then some (laws_eqIsland.e k) else none
noncomputable def laws_eqPost.h : Hints := ⟨fun n => ⟨[], []⟩, fun _ => none, false, []⟩
theorem laws_eqPost.f_eq {β : Type} (k : Nat) (a0_0 : ByteArray) (a0_1 : List (List D)) (a0_2 : List (List D)) (a0_3 : Int) (a0_4 : Int) (a0_5 : Int) (a1_0 : ByteArray) (a1_1 : List (List D)) (a1_2 : List (List D)) (a1_3 : Int) (a1_4 : Int) (a1_5 : Int) (K0 : List (List C) → List Out → Option β) : funDen Try.prog (laws_eqPost.E k) laws_eqPost.h k Try.f172 (laws_eqPost.as a0_0 a0_1 a0_2 a0_3 a0_4 a0_5 a1_0 a1_1 a1_2 a1_3 a1_4 a1_5) K0 = laws_eqPost.g k a0_0 a0_1 a0_2 a0_3 a0_4 a0_5 a1_0 a1_1 a1_2 a1_3 a1_4 a1_5 (laws_eqPost.kt a0_0 a0_1 a0_2 a0_3 a0_4 a0_5 a1_0 a1_1 a1_2 a1_3 a1_4 a1_5 K0) := by kernel_rfl
noncomputable def laws_eqPost.dec (rs : List (List C)) (os : List Out) : Option (Bool) := uncons rs fun c1 r2 => uncons c1 fun x3 l4 => cD x3 fun d5 => dBool d5 fun w0 => atEnd l4 <| atEnd r2 <| atEnd os (some w0)
theorem laws_eqPost.kt_dec (a0_0 : ByteArray) (a0_1 : List (List D)) (a0_2 : List (List D)) (a0_3 : Int) (a0_4 : Int) (a0_5 : Int) (a1_0 : ByteArray) (a1_1 : List (List D)) (a1_2 : List (List D)) (a1_3 : Int) (a1_4 : Int) (a1_5 : Int) : laws_eqPost.kt a0_0 a0_1 a0_2 a0_3 a0_4 a0_5 a1_0 a1_1 a1_2 a1_3 a1_4 a1_5 laws_eqPost.dec = (fun z0 => some z0) := by kernel_rfl
theorem laws_eqPost.inj (a0_0 : ByteArray) (a0_1 : List (List D)) (a0_2 : List (List D)) (a0_3 : Int) (a0_4 : Int) (a0_5 : Int) (a1_0 : ByteArray) (a1_1 : List (List D)) (a1_2 : List (List D)) (a1_3 : Int) (a1_4 : Int) (a1_5 : Int) {rs : List (List C)} {os : List Out} {z0 : Bool} (h : laws_eqPost.dec rs os = some z0) (ho : OutShape (laws_eqPost.as a0_0 a0_1 a0_2 a0_3 a0_4 a0_5 a1_0 a1_1 a1_2 a1_3 a1_4 a1_5) os) : rs = [[.d (.bool z0)]] ∧ os = [] := by
  unfold laws_eqPost.dec at h
  obtain ⟨c1, r2, rfl, h1⟩ := uncons_some h
  obtain ⟨x3, l4, rfl, h2⟩ := uncons_some h1
  obtain ⟨d5, rfl, h3⟩ := cD_some h2
  obtain ⟨w0, rfl, h4⟩ := dBool_some h3
  obtain ⟨rfl, h5⟩ := atEnd_some h4
  obtain ⟨rfl, h6⟩ := atEnd_some h5
  obtain ⟨rfl, h7⟩ := atEnd_some h6
  obtain rfl := Option.some.inj h7
  exact ⟨rfl, rfl⟩
theorem laws_eqPost.ok (k : Nat) : EntryOK Try.prog 172 (laws_eqPost.e k) := by
  refine entry_of mix tyok (fn := Try.f172) (c := codeOf Try.f172) Try.func172 (by kernel_rfl) (h := laws_eqPost.h) (k := k) (E := laws_eqPost.E k) (env_cons (laws_eqIsland.ok k) env_nil) (by kernel_rfl) (by kernel_rfl) rfl (enter_of Try.func172 (by kernel_rfl)) ?_
  intro β l K r hr
  simp only [laws_eqPost.e] at hr
  split at hr
  case h_2 => cases hr
  unfold laws_eqPost.f at hr
  split at hr
  case h_2 => cases hr
  rename_i hz
  exact ⟨_, _, hr, _, laws_eqPost.dec, _, (laws_eqPost.f_eq k _ _ _ _ _ _ _ _ _ _ _ _ laws_eqPost.dec).trans (by rw [laws_eqPost.kt_dec]; exact hz), fun rs os h ho => laws_eqPost.inj _ _ _ _ _ _ _ _ _ _ _ _ h ho⟩
noncomputable def laws_eqPostS.l0 {β : Type} (k : Nat) (v0_0 : List (List D)) (v0_1 : List (List D)) (K : Bool → Option β) (L0 : Int → Option β) (v : Int) : Option β :=
  match v with
  | v0_2 => bif (decide ((v0_2 : Int) < (v0_0.length : Int))) then (atRow v0_0 v0_2 fun c40 => uncons c40 fun d41 r42 => dStr d41 fun x43 => uncons r42 fun d44 r45 => dSl d44 fun x46 => uncons r45 fun d47 r48 => dSl d47 fun x49 => uncons r48 fun d50 r51 => dInt .i64 d50 fun x52 => uncons r51 fun d53 r54 => dInt .i64 d53 fun x55 => uncons r54 fun d56 r57 => dInt .i64 d56 fun x58 => atEnd r57 (atRow v0_1 v0_2 fun c59 => uncons c59 fun d60 r61 => dStr d60 fun x62 => uncons r61 fun d63 r64 => dSl d63 fun x65 => uncons r64 fun d66 r67 => dSl d66 fun x68 => uncons r67 fun d69 r70 => dInt .i64 d69 fun x71 => uncons r70 fun d72 r73 => dInt .i64 d72 fun x74 => uncons r73 fun d75 r76 => dInt .i64 d75 fun x77 => atEnd r76 (laws_eqPost.f k x43 x46 x49 x52 x55 x58 x62 x65 x68 x71 x74 x77 (fun y78 => bif (!y78) then (K false) else (L0 (IntKind.wrap .i64 (v0_2 + 1))))))) else (K true)
noncomputable def laws_eqPostS.g {β : Type} (k : Nat) (a0 : List (List D)) (a1 : List (List D)) (K : Bool → Option β) : Option β :=
  bif (((a0.length : Int) : Int) != (a1.length : Int)) then (K false) else (iter (laws_eqPostS.l0 k a0 a1 K) k (0))
noncomputable def laws_eqPostS.t (k : Nat) (a0 : List (List D)) (a1 : List (List D)) : Option (Bool) := laws_eqPostS.g k a0 a1 (fun z0 => some z0)
noncomputable def laws_eqPostS.f {β : Type} (k : Nat) (a0 : List (List D)) (a1 : List (List D)) (K : Bool → Option β) : Option β :=
  match laws_eqPostS.t k a0 a1 with
  | some z0 => K z0
  | none => none
noncomputable def laws_eqPostS.as (a0 : List (List D)) (a1 : List (List D)) : List A := [.d (.sl a0), .d (.sl a1)]
noncomputable def laws_eqPostS.kt {β : Type} (a0 : List (List D)) (a1 : List (List D)) (K0 : List (List C) → List Out → Option β) : Bool → Option β := fun z0 => K0 [[.d (.bool z0)]] []
noncomputable def laws_eqPostS.e (k : Nat) : Entry := { modes := [(.imm, 0), (.imm, 0)], rts := [4], al := false, run := fun {β} l K => match l with | [.d (.sl a0), .d (.sl a1)] => laws_eqPostS.f k a0 a1 (laws_eqPostS.kt a0 a1 K) | _ => none }
noncomputable def laws_eqPostS.E (k : Nat) : Env := fun g => bif g == 172 then some (laws_eqPost.e k) else none
noncomputable def laws_eqPostS.h : Hints := ⟨fun n => bif n == 4 then ⟨[(0, .asis), (1, .asis), (5, .asis)], []⟩ else ⟨[], []⟩, fun _ => none, false, []⟩
noncomputable def laws_eqPostS.s0 (v0_0 : List (List D)) (v0_1 : List (List D)) (v : Int) : St :=
  match v with
  | v0_2 => ⟨[.d false (.sl v0_0), .d false (.sl v0_1), .any, .any, .any, .d true (.int .i64 v0_2), .any, .any, .any, .any, .any, .any, .any, .any, .any, .any, .any, .any, .any, .any, .any, .any, .any, .any, .any, .any, .any], []⟩
noncomputable def laws_eqPostS.b0 {β : Type} (k : Nat) : St → (Ex → St → Option β) → Option β := fun s K => den Try.prog (laws_eqPostS.E k) laws_eqPostS.h.H laws_eqPostS.h.J k (codeAt [1, 1, 0, 1, 0, 0] (codeOf Try.f119)) s K
noncomputable def laws_eqPostS.c0 {β : Type} (k : Nat) (a0 : List (List D)) (a1 : List (List D)) (K0 : List (List C) → List Out → Option β) : Ex → St → Option β := contAt Try.prog (laws_eqPostS.E k) laws_eqPostS.h k [1, 1, 0, 1, 0] (codeOf Try.f119) (finDen Try.prog Try.f119 laws_eqPostS.h (laws_eqPostS.as a0 a1) K0)
theorem laws_eqPostS.l0_eq {β : Type} (k : Nat) (a0 : List (List D)) (a1 : List (List D)) (K0 : List (List C) → List Out → Option β) (v0_0 : List (List D)) (v0_1 : List (List D)) : ∀ (kk : Nat) (v : Int), loopDen (laws_eqPostS.b0 k) (laws_eqPostS.h.H 4) kk (laws_eqPostS.s0 v0_0 v0_1 v) (laws_eqPostS.c0 k a0 a1 K0) = iter (laws_eqPostS.l0 k v0_0 v0_1 (laws_eqPostS.kt a0 a1 K0)) kk v :=
  loop_eq (laws_eqPostS.s0 v0_0 v0_1) _ (fun L0 v => by kernel_rfl)
noncomputable def laws_eqPostS.m {β : Type} (k : Nat) (a0 : List (List D)) (a1 : List (List D)) (K0 : List (List C) → List Out → Option β) (F : ((List (List D)) → (List (List D)) → Int → Option β)) : Option β :=
  bif (((a0.length : Int) : Int) != (a1.length : Int)) then ((laws_eqPostS.kt a0 a1 K0) false) else ((F) a0 a1 (0))
theorem laws_eqPostS.f_eq {β : Type} (k : Nat) (a0 : List (List D)) (a1 : List (List D)) (K0 : List (List C) → List Out → Option β) : funDen Try.prog (laws_eqPostS.E k) laws_eqPostS.h k Try.f119 (laws_eqPostS.as a0 a1) K0 = laws_eqPostS.g k a0 a1 (laws_eqPostS.kt a0 a1 K0) := Eq.trans (b := (laws_eqPostS.m k a0 a1 K0) (fun (v0_0 : List (List D)) (v0_1 : List (List D)) (v : Int) => loopDen (laws_eqPostS.b0 k) (laws_eqPostS.h.H 4) k (laws_eqPostS.s0 v0_0 v0_1 v) (laws_eqPostS.c0 k a0 a1 K0))) (by kernel_rfl) (Eq.trans (congrArg (laws_eqPostS.m k a0 a1 K0) (funext fun v0_0 => funext fun v0_1 => funext fun v => laws_eqPostS.l0_eq k a0 a1 K0 v0_0 v0_1 k v)) (by kernel_rfl))
noncomputable def laws_eqPostS.dec (rs : List (List C)) (os : List Out) : Option (Bool) := uncons rs fun c1 r2 => uncons c1 fun x3 l4 => cD x3 fun d5 => dBool d5 fun w0 => atEnd l4 <| atEnd r2 <| atEnd os (some w0)
theorem laws_eqPostS.kt_dec (a0 : List (List D)) (a1 : List (List D)) : laws_eqPostS.kt a0 a1 laws_eqPostS.dec = (fun z0 => some z0) := by kernel_rfl
theorem laws_eqPostS.inj (a0 : List (List D)) (a1 : List (List D)) {rs : List (List C)} {os : List Out} {z0 : Bool} (h : laws_eqPostS.dec rs os = some z0) (ho : OutShape (laws_eqPostS.as a0 a1) os) : rs = [[.d (.bool z0)]] ∧ os = [] := by
  unfold laws_eqPostS.dec at h
  obtain ⟨c1, r2, rfl, h1⟩ := uncons_some h
  obtain ⟨x3, l4, rfl, h2⟩ := uncons_some h1
  obtain ⟨d5, rfl, h3⟩ := cD_some h2
  obtain ⟨w0, rfl, h4⟩ := dBool_some h3
  obtain ⟨rfl, h5⟩ := atEnd_some h4
  obtain ⟨rfl, h6⟩ := atEnd_some h5
  obtain ⟨rfl, h7⟩ := atEnd_some h6
  obtain rfl := Option.some.inj h7
  exact ⟨rfl, rfl⟩
theorem laws_eqPostS.ok (k : Nat) : EntryOK Try.prog 119 (laws_eqPostS.e k) := by
  refine entry_of mix tyok (fn := Try.f119) (c := codeOf Try.f119) Try.func119 (by kernel_rfl) (h := laws_eqPostS.h) (k := k) (E := laws_eqPostS.E k) (env_cons (laws_eqPost.ok k) env_nil) (by kernel_rfl) (by kernel_rfl) rfl (enter_of Try.func119 (by kernel_rfl)) ?_
  intro β l K r hr
  simp only [laws_eqPostS.e] at hr
  split at hr
  case h_2 => cases hr
  unfold laws_eqPostS.f at hr
  split at hr
  case h_2 => cases hr
  rename_i hz
  exact ⟨_, _, hr, _, laws_eqPostS.dec, _, (laws_eqPostS.f_eq k _ _ laws_eqPostS.dec).trans (by rw [laws_eqPostS.kt_dec]; exact hz), fun rs os h ho => laws_eqPostS.inj _ _ h ho⟩
noncomputable def laws_eqHold.g {β : Type} (k : Nat) (a0_0 : Int) (a0_1 : ByteArray) (a0_2 : Int) (a0_3 : Int) (a0_4 : Int) (a1_0 : Int) (a1_1 : ByteArray) (a1_2 : Int) (a1_3 : Int) (a1_4 : Int) (K : Bool → Option β) : Option β :=
  bif ((a0_0 : Int) != a1_0) then (K false) else (bif (!(strEq a0_1 a1_1)) then (K false) else (bif ((a0_2 : Int) != a1_2) then (K false) else (bif ((a0_3 : Int) != a1_3) then (K false) else (bif ((a0_4 : Int) != a1_4) then (K false) else (K true)))))
noncomputable def laws_eqHold.t (k : Nat) (a0_0 : Int) (a0_1 : ByteArray) (a0_2 : Int) (a0_3 : Int) (a0_4 : Int) (a1_0 : Int) (a1_1 : ByteArray) (a1_2 : Int) (a1_3 : Int) (a1_4 : Int) : Option (Bool) := laws_eqHold.g k a0_0 a0_1 a0_2 a0_3 a0_4 a1_0 a1_1 a1_2 a1_3 a1_4 (fun z0 => some z0)
noncomputable def laws_eqHold.f {β : Type} (k : Nat) (a0_0 : Int) (a0_1 : ByteArray) (a0_2 : Int) (a0_3 : Int) (a0_4 : Int) (a1_0 : Int) (a1_1 : ByteArray) (a1_2 : Int) (a1_3 : Int) (a1_4 : Int) (K : Bool → Option β) : Option β :=
  match laws_eqHold.t k a0_0 a0_1 a0_2 a0_3 a0_4 a1_0 a1_1 a1_2 a1_3 a1_4 with
  | some z0 => K z0
  | none => none
noncomputable def laws_eqHold.as (a0_0 : Int) (a0_1 : ByteArray) (a0_2 : Int) (a0_3 : Int) (a0_4 : Int) (a1_0 : Int) (a1_1 : ByteArray) (a1_2 : Int) (a1_3 : Int) (a1_4 : Int) : List A := [.agg [.int .i64 a0_0, .str a0_1, .int .i64 a0_2, .int .i64 a0_3, .int .i64 a0_4], .agg [.int .i64 a1_0, .str a1_1, .int .i64 a1_2, .int .i64 a1_3, .int .i64 a1_4]]
noncomputable def laws_eqHold.kt {β : Type} (a0_0 : Int) (a0_1 : ByteArray) (a0_2 : Int) (a0_3 : Int) (a0_4 : Int) (a1_0 : Int) (a1_1 : ByteArray) (a1_2 : Int) (a1_3 : Int) (a1_4 : Int) (K0 : List (List C) → List Out → Option β) : Bool → Option β := fun z0 => K0 [[.d (.bool z0)]] []
noncomputable def laws_eqHold.e (k : Nat) : Entry := { modes := [(.imm, 0), (.imm, 0)], rts := [4], al := false, run := fun {β} l K => match l with | [.agg [.int .i64 a0_0, .str a0_1, .int .i64 a0_2, .int .i64 a0_3, .int .i64 a0_4], .agg [.int .i64 a1_0, .str a1_1, .int .i64 a1_2, .int .i64 a1_3, .int .i64 a1_4]] => laws_eqHold.f k a0_0 a0_1 a0_2 a0_3 a0_4 a1_0 a1_1 a1_2 a1_3 a1_4 (laws_eqHold.kt a0_0 a0_1 a0_2 a0_3 a0_4 a1_0 a1_1 a1_2 a1_3 a1_4 K) | _ => none }
noncomputable def laws_eqHold.E (k : Nat) : Env := fun g => none
noncomputable def laws_eqHold.h : Hints := ⟨fun n => ⟨[], []⟩, fun _ => none, false, []⟩
theorem laws_eqHold.f_eq {β : Type} (k : Nat) (a0_0 : Int) (a0_1 : ByteArray) (a0_2 : Int) (a0_3 : Int) (a0_4 : Int) (a1_0 : Int) (a1_1 : ByteArray) (a1_2 : Int) (a1_3 : Int) (a1_4 : Int) (K0 : List (List C) → List Out → Option β) : funDen Try.prog (laws_eqHold.E k) laws_eqHold.h k Try.f173 (laws_eqHold.as a0_0 a0_1 a0_2 a0_3 a0_4 a1_0 a1_1 a1_2 a1_3 a1_4) K0 = laws_eqHold.g k a0_0 a0_1 a0_2 a0_3 a0_4 a1_0 a1_1 a1_2 a1_3 a1_4 (laws_eqHold.kt a0_0 a0_1 a0_2 a0_3 a0_4 a1_0 a1_1 a1_2 a1_3 a1_4 K0) := by kernel_rfl
noncomputable def laws_eqHold.dec (rs : List (List C)) (os : List Out) : Option (Bool) := uncons rs fun c1 r2 => uncons c1 fun x3 l4 => cD x3 fun d5 => dBool d5 fun w0 => atEnd l4 <| atEnd r2 <| atEnd os (some w0)
theorem laws_eqHold.kt_dec (a0_0 : Int) (a0_1 : ByteArray) (a0_2 : Int) (a0_3 : Int) (a0_4 : Int) (a1_0 : Int) (a1_1 : ByteArray) (a1_2 : Int) (a1_3 : Int) (a1_4 : Int) : laws_eqHold.kt a0_0 a0_1 a0_2 a0_3 a0_4 a1_0 a1_1 a1_2 a1_3 a1_4 laws_eqHold.dec = (fun z0 => some z0) := by kernel_rfl
theorem laws_eqHold.inj (a0_0 : Int) (a0_1 : ByteArray) (a0_2 : Int) (a0_3 : Int) (a0_4 : Int) (a1_0 : Int) (a1_1 : ByteArray) (a1_2 : Int) (a1_3 : Int) (a1_4 : Int) {rs : List (List C)} {os : List Out} {z0 : Bool} (h : laws_eqHold.dec rs os = some z0) (ho : OutShape (laws_eqHold.as a0_0 a0_1 a0_2 a0_3 a0_4 a1_0 a1_1 a1_2 a1_3 a1_4) os) : rs = [[.d (.bool z0)]] ∧ os = [] := by
  unfold laws_eqHold.dec at h
  obtain ⟨c1, r2, rfl, h1⟩ := uncons_some h
  obtain ⟨x3, l4, rfl, h2⟩ := uncons_some h1
  obtain ⟨d5, rfl, h3⟩ := cD_some h2
  obtain ⟨w0, rfl, h4⟩ := dBool_some h3
  obtain ⟨rfl, h5⟩ := atEnd_some h4
  obtain ⟨rfl, h6⟩ := atEnd_some h5
  obtain ⟨rfl, h7⟩ := atEnd_some h6
  obtain rfl := Option.some.inj h7
  exact ⟨rfl, rfl⟩
theorem laws_eqHold.ok (k : Nat) : EntryOK Try.prog 173 (laws_eqHold.e k) := by
  refine entry_of mix tyok (fn := Try.f173) (c := codeOf Try.f173) Try.func173 (by kernel_rfl) (h := laws_eqHold.h) (k := k) (E := laws_eqHold.E k) env_nil (by kernel_rfl) (by kernel_rfl) rfl (enter_of Try.func173 (by kernel_rfl)) ?_
  intro β l K r hr
  simp only [laws_eqHold.e] at hr
  split at hr
  case h_2 => cases hr
  unfold laws_eqHold.f at hr
  split at hr
  case h_2 => cases hr
  rename_i hz
  exact ⟨_, _, hr, _, laws_eqHold.dec, _, (laws_eqHold.f_eq k _ _ _ _ _ _ _ _ _ _ laws_eqHold.dec).trans (by rw [laws_eqHold.kt_dec]; exact hz), fun rs os h ho => laws_eqHold.inj _ _ _ _ _ _ _ _ _ _ h ho⟩
noncomputable def laws_eqHoldS.l0 {β : Type} (k : Nat) (v0_0 : List (List D)) (v0_1 : List (List D)) (K : Bool → Option β) (L0 : Int → Option β) (v : Int) : Option β :=
  match v with
  | v0_2 => bif (decide ((v0_2 : Int) < (v0_0.length : Int))) then (atRow v0_0 v0_2 fun c34 => uncons c34 fun d35 r36 => dInt .i64 d35 fun x37 => uncons r36 fun d38 r39 => dStr d38 fun x40 => uncons r39 fun d41 r42 => dInt .i64 d41 fun x43 => uncons r42 fun d44 r45 => dInt .i64 d44 fun x46 => uncons r45 fun d47 r48 => dInt .i64 d47 fun x49 => atEnd r48 (atRow v0_1 v0_2 fun c50 => uncons c50 fun d51 r52 => dInt .i64 d51 fun x53 => uncons r52 fun d54 r55 => dStr d54 fun x56 => uncons r55 fun d57 r58 => dInt .i64 d57 fun x59 => uncons r58 fun d60 r61 => dInt .i64 d60 fun x62 => uncons r61 fun d63 r64 => dInt .i64 d63 fun x65 => atEnd r64 (laws_eqHold.f k x37 x40 x43 x46 x49 x53 x56 x59 x62 x65 (fun y66 => bif (!y66) then (K false) else (L0 (IntKind.wrap .i64 (v0_2 + 1))))))) else (K true)
noncomputable def laws_eqHoldS.g {β : Type} (k : Nat) (a0 : List (List D)) (a1 : List (List D)) (K : Bool → Option β) : Option β :=
  bif (((a0.length : Int) : Int) != (a1.length : Int)) then (K false) else (iter (laws_eqHoldS.l0 k a0 a1 K) k (0))
noncomputable def laws_eqHoldS.t (k : Nat) (a0 : List (List D)) (a1 : List (List D)) : Option (Bool) := laws_eqHoldS.g k a0 a1 (fun z0 => some z0)
noncomputable def laws_eqHoldS.f {β : Type} (k : Nat) (a0 : List (List D)) (a1 : List (List D)) (K : Bool → Option β) : Option β :=
  match laws_eqHoldS.t k a0 a1 with
  | some z0 => K z0
  | none => none
noncomputable def laws_eqHoldS.as (a0 : List (List D)) (a1 : List (List D)) : List A := [.d (.sl a0), .d (.sl a1)]
noncomputable def laws_eqHoldS.kt {β : Type} (a0 : List (List D)) (a1 : List (List D)) (K0 : List (List C) → List Out → Option β) : Bool → Option β := fun z0 => K0 [[.d (.bool z0)]] []
noncomputable def laws_eqHoldS.e (k : Nat) : Entry := { modes := [(.imm, 0), (.imm, 0)], rts := [4], al := false, run := fun {β} l K => match l with | [.d (.sl a0), .d (.sl a1)] => laws_eqHoldS.f k a0 a1 (laws_eqHoldS.kt a0 a1 K) | _ => none }
noncomputable def laws_eqHoldS.E (k : Nat) : Env := fun g => bif g == 173 then some (laws_eqHold.e k) else none
noncomputable def laws_eqHoldS.h : Hints := ⟨fun n => bif n == 4 then ⟨[(0, .asis), (1, .asis), (5, .asis)], []⟩ else ⟨[], []⟩, fun _ => none, false, []⟩
noncomputable def laws_eqHoldS.s0 (v0_0 : List (List D)) (v0_1 : List (List D)) (v : Int) : St :=
  match v with
  | v0_2 => ⟨[.d false (.sl v0_0), .d false (.sl v0_1), .any, .any, .any, .d true (.int .i64 v0_2), .any, .any, .any, .any, .any, .any, .any, .any, .any, .any, .any, .any, .any, .any, .any, .any, .any, .any, .any, .any, .any], []⟩
noncomputable def laws_eqHoldS.b0 {β : Type} (k : Nat) : St → (Ex → St → Option β) → Option β := fun s K => den Try.prog (laws_eqHoldS.E k) laws_eqHoldS.h.H laws_eqHoldS.h.J k (codeAt [1, 1, 0, 1, 0, 0] (codeOf Try.f120)) s K
noncomputable def laws_eqHoldS.c0 {β : Type} (k : Nat) (a0 : List (List D)) (a1 : List (List D)) (K0 : List (List C) → List Out → Option β) : Ex → St → Option β := contAt Try.prog (laws_eqHoldS.E k) laws_eqHoldS.h k [1, 1, 0, 1, 0] (codeOf Try.f120) (finDen Try.prog Try.f120 laws_eqHoldS.h (laws_eqHoldS.as a0 a1) K0)
theorem laws_eqHoldS.l0_eq {β : Type} (k : Nat) (a0 : List (List D)) (a1 : List (List D)) (K0 : List (List C) → List Out → Option β) (v0_0 : List (List D)) (v0_1 : List (List D)) : ∀ (kk : Nat) (v : Int), loopDen (laws_eqHoldS.b0 k) (laws_eqHoldS.h.H 4) kk (laws_eqHoldS.s0 v0_0 v0_1 v) (laws_eqHoldS.c0 k a0 a1 K0) = iter (laws_eqHoldS.l0 k v0_0 v0_1 (laws_eqHoldS.kt a0 a1 K0)) kk v :=
  loop_eq (laws_eqHoldS.s0 v0_0 v0_1) _ (fun L0 v => by kernel_rfl)
noncomputable def laws_eqHoldS.m {β : Type} (k : Nat) (a0 : List (List D)) (a1 : List (List D)) (K0 : List (List C) → List Out → Option β) (F : ((List (List D)) → (List (List D)) → Int → Option β)) : Option β :=
  bif (((a0.length : Int) : Int) != (a1.length : Int)) then ((laws_eqHoldS.kt a0 a1 K0) false) else ((F) a0 a1 (0))
theorem laws_eqHoldS.f_eq {β : Type} (k : Nat) (a0 : List (List D)) (a1 : List (List D)) (K0 : List (List C) → List Out → Option β) : funDen Try.prog (laws_eqHoldS.E k) laws_eqHoldS.h k Try.f120 (laws_eqHoldS.as a0 a1) K0 = laws_eqHoldS.g k a0 a1 (laws_eqHoldS.kt a0 a1 K0) := Eq.trans (b := (laws_eqHoldS.m k a0 a1 K0) (fun (v0_0 : List (List D)) (v0_1 : List (List D)) (v : Int) => loopDen (laws_eqHoldS.b0 k) (laws_eqHoldS.h.H 4) k (laws_eqHoldS.s0 v0_0 v0_1 v) (laws_eqHoldS.c0 k a0 a1 K0))) (by kernel_rfl) (Eq.trans (congrArg (laws_eqHoldS.m k a0 a1 K0) (funext fun v0_0 => funext fun v0_1 => funext fun v => laws_eqHoldS.l0_eq k a0 a1 K0 v0_0 v0_1 k v)) (by kernel_rfl))
noncomputable def laws_eqHoldS.dec (rs : List (List C)) (os : List Out) : Option (Bool) := uncons rs fun c1 r2 => uncons c1 fun x3 l4 => cD x3 fun d5 => dBool d5 fun w0 => atEnd l4 <| atEnd r2 <| atEnd os (some w0)
theorem laws_eqHoldS.kt_dec (a0 : List (List D)) (a1 : List (List D)) : laws_eqHoldS.kt a0 a1 laws_eqHoldS.dec = (fun z0 => some z0) := by kernel_rfl
theorem laws_eqHoldS.inj (a0 : List (List D)) (a1 : List (List D)) {rs : List (List C)} {os : List Out} {z0 : Bool} (h : laws_eqHoldS.dec rs os = some z0) (ho : OutShape (laws_eqHoldS.as a0 a1) os) : rs = [[.d (.bool z0)]] ∧ os = [] := by
  unfold laws_eqHoldS.dec at h
  obtain ⟨c1, r2, rfl, h1⟩ := uncons_some h
  obtain ⟨x3, l4, rfl, h2⟩ := uncons_some h1
  obtain ⟨d5, rfl, h3⟩ := cD_some h2
  obtain ⟨w0, rfl, h4⟩ := dBool_some h3
  obtain ⟨rfl, h5⟩ := atEnd_some h4
  obtain ⟨rfl, h6⟩ := atEnd_some h5
  obtain ⟨rfl, h7⟩ := atEnd_some h6
  obtain rfl := Option.some.inj h7
  exact ⟨rfl, rfl⟩
theorem laws_eqHoldS.ok (k : Nat) : EntryOK Try.prog 120 (laws_eqHoldS.e k) := by
  refine entry_of mix tyok (fn := Try.f120) (c := codeOf Try.f120) Try.func120 (by kernel_rfl) (h := laws_eqHoldS.h) (k := k) (E := laws_eqHoldS.E k) (env_cons (laws_eqHold.ok k) env_nil) (by kernel_rfl) (by kernel_rfl) rfl (enter_of Try.func120 (by kernel_rfl)) ?_
  intro β l K r hr
  simp only [laws_eqHoldS.e] at hr
  split at hr
  case h_2 => cases hr
  unfold laws_eqHoldS.f at hr
  split at hr
  case h_2 => cases hr
  rename_i hz
  exact ⟨_, _, hr, _, laws_eqHoldS.dec, _, (laws_eqHoldS.f_eq k _ _ laws_eqHoldS.dec).trans (by rw [laws_eqHoldS.kt_dec]; exact hz), fun rs os h ho => laws_eqHoldS.inj _ _ h ho⟩
noncomputable def laws_eqHub.g {β : Type} (k : Nat) (a0_0 : Int) (a0_1 : Int) (a0_2 : Int) (a0_3 : List (List D)) (a0_4 : List (List D)) (a0_5 : List (List D)) (a0_6 : List (List D)) (a1_0 : Int) (a1_1 : Int) (a1_2 : Int) (a1_3 : List (List D)) (a1_4 : List (List D)) (a1_5 : List (List D)) (a1_6 : List (List D)) (K : Bool → Option β) : Option β :=
  bif ((a0_0 : Int) != a1_0) then (K false) else (bif ((a0_1 : Int) != a1_1) then (K false) else (bif ((a0_2 : Int) != a1_2) then (K false) else (laws_eqJobS.f k a0_3 a1_3 (fun y191 => bif (!y191) then (K false) else (laws_eqPostS.f k a0_4 a1_4 (fun y192 => bif (!y192) then (K false) else (laws_eqHoldS.f k a0_5 a1_5 (fun y193 => bif (!y193) then (K false) else (laws_eqStringS.f k a0_6 a1_6 (fun y194 => bif (!y194) then (K false) else (K true)))))))))))
noncomputable def laws_eqHub.t (k : Nat) (a0_0 : Int) (a0_1 : Int) (a0_2 : Int) (a0_3 : List (List D)) (a0_4 : List (List D)) (a0_5 : List (List D)) (a0_6 : List (List D)) (a1_0 : Int) (a1_1 : Int) (a1_2 : Int) (a1_3 : List (List D)) (a1_4 : List (List D)) (a1_5 : List (List D)) (a1_6 : List (List D)) : Option (Bool) := laws_eqHub.g k a0_0 a0_1 a0_2 a0_3 a0_4 a0_5 a0_6 a1_0 a1_1 a1_2 a1_3 a1_4 a1_5 a1_6 (fun z0 => some z0)
noncomputable def laws_eqHub.f {β : Type} (k : Nat) (a0_0 : Int) (a0_1 : Int) (a0_2 : Int) (a0_3 : List (List D)) (a0_4 : List (List D)) (a0_5 : List (List D)) (a0_6 : List (List D)) (a1_0 : Int) (a1_1 : Int) (a1_2 : Int) (a1_3 : List (List D)) (a1_4 : List (List D)) (a1_5 : List (List D)) (a1_6 : List (List D)) (K : Bool → Option β) : Option β :=
  match laws_eqHub.t k a0_0 a0_1 a0_2 a0_3 a0_4 a0_5 a0_6 a1_0 a1_1 a1_2 a1_3 a1_4 a1_5 a1_6 with
  | some z0 => K z0
  | none => none
noncomputable def laws_eqHub.as (a0_0 : Int) (a0_1 : Int) (a0_2 : Int) (a0_3 : List (List D)) (a0_4 : List (List D)) (a0_5 : List (List D)) (a0_6 : List (List D)) (a1_0 : Int) (a1_1 : Int) (a1_2 : Int) (a1_3 : List (List D)) (a1_4 : List (List D)) (a1_5 : List (List D)) (a1_6 : List (List D)) : List A := [.agg [.int .i64 a0_0, .int .i64 a0_1, .int .i64 a0_2, .sl a0_3, .sl a0_4, .sl a0_5, .sl a0_6], .agg [.int .i64 a1_0, .int .i64 a1_1, .int .i64 a1_2, .sl a1_3, .sl a1_4, .sl a1_5, .sl a1_6]]
noncomputable def laws_eqHub.kt {β : Type} (a0_0 : Int) (a0_1 : Int) (a0_2 : Int) (a0_3 : List (List D)) (a0_4 : List (List D)) (a0_5 : List (List D)) (a0_6 : List (List D)) (a1_0 : Int) (a1_1 : Int) (a1_2 : Int) (a1_3 : List (List D)) (a1_4 : List (List D)) (a1_5 : List (List D)) (a1_6 : List (List D)) (K0 : List (List C) → List Out → Option β) : Bool → Option β := fun z0 => K0 [[.d (.bool z0)]] []
noncomputable def laws_eqHub.e (k : Nat) : Entry := { modes := [(.imm, 0), (.imm, 0)], rts := [4], al := false, run := fun {β} l K => match l with | [.agg [.int .i64 a0_0, .int .i64 a0_1, .int .i64 a0_2, .sl a0_3, .sl a0_4, .sl a0_5, .sl a0_6], .agg [.int .i64 a1_0, .int .i64 a1_1, .int .i64 a1_2, .sl a1_3, .sl a1_4, .sl a1_5, .sl a1_6]] => laws_eqHub.f k a0_0 a0_1 a0_2 a0_3 a0_4 a0_5 a0_6 a1_0 a1_1 a1_2 a1_3 a1_4 a1_5 a1_6 (laws_eqHub.kt a0_0 a0_1 a0_2 a0_3 a0_4 a0_5 a0_6 a1_0 a1_1 a1_2 a1_3 a1_4 a1_5 a1_6 K) | _ => none }
noncomputable def laws_eqHub.E (k : Nat) : Env := fun g => bif g == 118 then some (laws_eqJobS.e k) else bif g == 119 then some (laws_eqPostS.e k) else bif g == 120 then some (laws_eqHoldS.e k) else bif g == 77 then some (laws_eqStringS.e k) else none
noncomputable def laws_eqHub.h : Hints := ⟨fun n => ⟨[], []⟩, fun _ => none, false, []⟩
theorem laws_eqHub.f_eq {β : Type} (k : Nat) (a0_0 : Int) (a0_1 : Int) (a0_2 : Int) (a0_3 : List (List D)) (a0_4 : List (List D)) (a0_5 : List (List D)) (a0_6 : List (List D)) (a1_0 : Int) (a1_1 : Int) (a1_2 : Int) (a1_3 : List (List D)) (a1_4 : List (List D)) (a1_5 : List (List D)) (a1_6 : List (List D)) (K0 : List (List C) → List Out → Option β) : funDen Try.prog (laws_eqHub.E k) laws_eqHub.h k Try.f57 (laws_eqHub.as a0_0 a0_1 a0_2 a0_3 a0_4 a0_5 a0_6 a1_0 a1_1 a1_2 a1_3 a1_4 a1_5 a1_6) K0 = laws_eqHub.g k a0_0 a0_1 a0_2 a0_3 a0_4 a0_5 a0_6 a1_0 a1_1 a1_2 a1_3 a1_4 a1_5 a1_6 (laws_eqHub.kt a0_0 a0_1 a0_2 a0_3 a0_4 a0_5 a0_6 a1_0 a1_1 a1_2 a1_3 a1_4 a1_5 a1_6 K0) := by kernel_rfl
noncomputable def laws_eqHub.dec (rs : List (List C)) (os : List Out) : Option (Bool) := uncons rs fun c1 r2 => uncons c1 fun x3 l4 => cD x3 fun d5 => dBool d5 fun w0 => atEnd l4 <| atEnd r2 <| atEnd os (some w0)
theorem laws_eqHub.kt_dec (a0_0 : Int) (a0_1 : Int) (a0_2 : Int) (a0_3 : List (List D)) (a0_4 : List (List D)) (a0_5 : List (List D)) (a0_6 : List (List D)) (a1_0 : Int) (a1_1 : Int) (a1_2 : Int) (a1_3 : List (List D)) (a1_4 : List (List D)) (a1_5 : List (List D)) (a1_6 : List (List D)) : laws_eqHub.kt a0_0 a0_1 a0_2 a0_3 a0_4 a0_5 a0_6 a1_0 a1_1 a1_2 a1_3 a1_4 a1_5 a1_6 laws_eqHub.dec = (fun z0 => some z0) := by kernel_rfl
theorem laws_eqHub.inj (a0_0 : Int) (a0_1 : Int) (a0_2 : Int) (a0_3 : List (List D)) (a0_4 : List (List D)) (a0_5 : List (List D)) (a0_6 : List (List D)) (a1_0 : Int) (a1_1 : Int) (a1_2 : Int) (a1_3 : List (List D)) (a1_4 : List (List D)) (a1_5 : List (List D)) (a1_6 : List (List D)) {rs : List (List C)} {os : List Out} {z0 : Bool} (h : laws_eqHub.dec rs os = some z0) (ho : OutShape (laws_eqHub.as a0_0 a0_1 a0_2 a0_3 a0_4 a0_5 a0_6 a1_0 a1_1 a1_2 a1_3 a1_4 a1_5 a1_6) os) : rs = [[.d (.bool z0)]] ∧ os = [] := by
  unfold laws_eqHub.dec at h
  obtain ⟨c1, r2, rfl, h1⟩ := uncons_some h
  obtain ⟨x3, l4, rfl, h2⟩ := uncons_some h1
  obtain ⟨d5, rfl, h3⟩ := cD_some h2
  obtain ⟨w0, rfl, h4⟩ := dBool_some h3
  obtain ⟨rfl, h5⟩ := atEnd_some h4
  obtain ⟨rfl, h6⟩ := atEnd_some h5
  obtain ⟨rfl, h7⟩ := atEnd_some h6
  obtain rfl := Option.some.inj h7
  exact ⟨rfl, rfl⟩
theorem laws_eqHub.ok (k : Nat) : EntryOK Try.prog 57 (laws_eqHub.e k) := by
  refine entry_of mix tyok (fn := Try.f57) (c := codeOf Try.f57) Try.func57 (by kernel_rfl) (h := laws_eqHub.h) (k := k) (E := laws_eqHub.E k) (env_cons (laws_eqJobS.ok k) (env_cons (laws_eqPostS.ok k) (env_cons (laws_eqHoldS.ok k) (env_cons (laws_eqStringS.ok k) env_nil)))) (by kernel_rfl) (by kernel_rfl) rfl (enter_of Try.func57 (by kernel_rfl)) ?_
  intro β l K r hr
  simp only [laws_eqHub.e] at hr
  split at hr
  case h_2 => cases hr
  unfold laws_eqHub.f at hr
  split at hr
  case h_2 => cases hr
  rename_i hz
  exact ⟨_, _, hr, _, laws_eqHub.dec, _, (laws_eqHub.f_eq k _ _ _ _ _ _ _ _ _ _ _ _ _ _ laws_eqHub.dec).trans (by rw [laws_eqHub.kt_dec]; exact hz), fun rs os h ho => laws_eqHub.inj _ _ _ _ _ _ _ _ _ _ _ _ _ _ h ho⟩
noncomputable def laws_markText.l0 {β : Type} (k : Nat) (K : ByteArray → Option β) (L0 : (Int × ByteArray) → Option β) (v : Int × ByteArray) : Option β :=
  match v with
  | (v0_0, v0_1) => bif (decide ((v0_0 : Int) > 0)) then (guardP ((10 : Int) ≠ 0) (guardP ((((⟨#[UInt8.ofNat (Int.toNat (IntKind.wrap .u8 (IntKind.wrap .i64 (48 + (Int.tmod v0_0 10)))))]⟩ : ByteArray).size + v0_1.size : Nat) : Int) ≤ 9223372036854775807) (guardP ((10 : Int) ≠ 0) (L0 (IntKind.wrap .i64 (Int.tdiv v0_0 10), (⟨#[UInt8.ofNat (Int.toNat (IntKind.wrap .u8 (IntKind.wrap .i64 (48 + (Int.tmod v0_0 10)))))]⟩ : ByteArray) ++ v0_1))))) else (guardP ((((⟨#[109]⟩ : ByteArray).size + v0_1.size : Nat) : Int) ≤ 9223372036854775807) (K ((⟨#[109]⟩ : ByteArray) ++ v0_1)))
noncomputable def laws_markText.g {β : Type} (k : Nat) (a0 : Int) (K : ByteArray → Option β) : Option β :=
  bif (decide ((a0 : Int) ≤ 0)) then (K (⟨#[109, 48]⟩ : ByteArray)) else (iter (laws_markText.l0 k K) k (a0, (⟨#[]⟩ : ByteArray)))
noncomputable def laws_markText.t (k : Nat) (a0 : Int) : Option (ByteArray) := laws_markText.g k a0 (fun z0 => some z0)
noncomputable def laws_markText.f {β : Type} (k : Nat) (a0 : Int) (K : ByteArray → Option β) : Option β :=
  match laws_markText.t k a0 with
  | some z0 => K z0
  | none => none
noncomputable def laws_markText.as (a0 : Int) : List A := [.d (.int .i64 a0)]
noncomputable def laws_markText.kt {β : Type} (a0 : Int) (K0 : List (List C) → List Out → Option β) : ByteArray → Option β := fun z0 => K0 [[.d (.str z0)]] []
noncomputable def laws_markText.e (k : Nat) : Entry := { modes := [(.imm, 0)], rts := [9], al := false, run := fun {β} l K => match l with | [.d (.int .i64 a0)] => laws_markText.f k a0 (laws_markText.kt a0 K) | _ => none }
noncomputable def laws_markText.E (k : Nat) : Env := fun g => none
noncomputable def laws_markText.h : Hints := ⟨fun n => bif n == 4 then ⟨[(0, .dat false), (3, .asis)], []⟩ else ⟨[], []⟩, fun _ => none, false, []⟩
noncomputable def laws_markText.s0 (v : Int × ByteArray) : St :=
  match v with
  | (v0_0, v0_1) => ⟨[.d false (.int .i64 v0_0), .any, .any, .d true (.str v0_1), .any, .any, .any, .any, .any, .any, .any, .any, .any, .any, .any, .any, .any, .any, .any, .any], []⟩
noncomputable def laws_markText.b0 {β : Type} (k : Nat) : St → (Ex → St → Option β) → Option β := fun s K => den Try.prog (laws_markText.E k) laws_markText.h.H laws_markText.h.J k (codeAt [1, 1, 1, 0, 0, 0] (codeOf Try.f152)) s K
noncomputable def laws_markText.c0 {β : Type} (k : Nat) (a0 : Int) (K0 : List (List C) → List Out → Option β) : Ex → St → Option β := contAt Try.prog (laws_markText.E k) laws_markText.h k [1, 1, 1, 0, 0] (codeOf Try.f152) (finDen Try.prog Try.f152 laws_markText.h (laws_markText.as a0) K0)
theorem laws_markText.l0_eq {β : Type} (k : Nat) (a0 : Int) (K0 : List (List C) → List Out → Option β) : ∀ (kk : Nat) (v : Int × ByteArray), loopDen (laws_markText.b0 k) (laws_markText.h.H 4) kk (laws_markText.s0 v) (laws_markText.c0 k a0 K0) = iter (laws_markText.l0 k (laws_markText.kt a0 K0)) kk v :=
  loop_eq (laws_markText.s0) _ (fun L0 v => by obtain ⟨v0_0, v0_1⟩ := v; kernel_rfl)
noncomputable def laws_markText.m {β : Type} (k : Nat) (a0 : Int) (K0 : List (List C) → List Out → Option β) (F : ((Int × ByteArray) → Option β)) : Option β :=
  bif (decide ((a0 : Int) ≤ 0)) then ((laws_markText.kt a0 K0) (⟨#[109, 48]⟩ : ByteArray)) else ((F) (a0, (⟨#[]⟩ : ByteArray)))
theorem laws_markText.f_eq {β : Type} (k : Nat) (a0 : Int) (K0 : List (List C) → List Out → Option β) : funDen Try.prog (laws_markText.E k) laws_markText.h k Try.f152 (laws_markText.as a0) K0 = laws_markText.g k a0 (laws_markText.kt a0 K0) := Eq.trans (b := (laws_markText.m k a0 K0) (fun (v : Int × ByteArray) => loopDen (laws_markText.b0 k) (laws_markText.h.H 4) k (laws_markText.s0 v) (laws_markText.c0 k a0 K0))) (by kernel_rfl) (Eq.trans (congrArg (laws_markText.m k a0 K0) (funext fun v => laws_markText.l0_eq k a0 K0 k v)) (by kernel_rfl))
noncomputable def laws_markText.dec (rs : List (List C)) (os : List Out) : Option (ByteArray) := uncons rs fun c1 r2 => uncons c1 fun x3 l4 => cD x3 fun d5 => dStr d5 fun w0 => atEnd l4 <| atEnd r2 <| atEnd os (some w0)
theorem laws_markText.kt_dec (a0 : Int) : laws_markText.kt a0 laws_markText.dec = (fun z0 => some z0) := by kernel_rfl
theorem laws_markText.inj (a0 : Int) {rs : List (List C)} {os : List Out} {z0 : ByteArray} (h : laws_markText.dec rs os = some z0) (ho : OutShape (laws_markText.as a0) os) : rs = [[.d (.str z0)]] ∧ os = [] := by
  unfold laws_markText.dec at h
  obtain ⟨c1, r2, rfl, h1⟩ := uncons_some h
  obtain ⟨x3, l4, rfl, h2⟩ := uncons_some h1
  obtain ⟨d5, rfl, h3⟩ := cD_some h2
  obtain ⟨w0, rfl, h4⟩ := dStr_some h3
  obtain ⟨rfl, h5⟩ := atEnd_some h4
  obtain ⟨rfl, h6⟩ := atEnd_some h5
  obtain ⟨rfl, h7⟩ := atEnd_some h6
  obtain rfl := Option.some.inj h7
  exact ⟨rfl, rfl⟩
theorem laws_markText.ok (k : Nat) : EntryOK Try.prog 152 (laws_markText.e k) := by
  refine entry_of mix tyok (fn := Try.f152) (c := codeOf Try.f152) Try.func152 (by kernel_rfl) (h := laws_markText.h) (k := k) (E := laws_markText.E k) env_nil (by kernel_rfl) (by kernel_rfl) rfl (enter_of Try.func152 (by kernel_rfl)) ?_
  intro β l K r hr
  simp only [laws_markText.e] at hr
  split at hr
  case h_2 => cases hr
  unfold laws_markText.f at hr
  split at hr
  case h_2 => cases hr
  rename_i hz
  exact ⟨_, _, hr, _, laws_markText.dec, _, (laws_markText.f_eq k _ laws_markText.dec).trans (by rw [laws_markText.kt_dec]; exact hz), fun rs os h ho => laws_markText.inj _ h ho⟩
noncomputable def laws_markStringS.l0 {β : Type} (k : Nat) (K : Int → (List (List C)) → Option β) (L0 : (Int × Int × (List (List C))) → Option β) (v : Int × Int × (List (List C))) : Option β :=
  match v with
  | (v0_0, v0_1, v0_2) => bif (decide ((v0_1 : Int) < (v0_2.length : Int))) then (laws_markText.f k v0_0 (fun y2 => guardP ((0 : Int) ≤ v0_1 ∧ v0_1 < (v0_2.length : Int)) (guardP (Int.toNat v0_1 < v0_2.length) (L0 (IntKind.wrap .i64 (v0_0 + 1), IntKind.wrap .i64 (v0_1 + 1), v0_2.modify (Int.toNat v0_1) fun c => splice c 0 [.d (.str y2)]))))) else (K v0_0 v0_2)
noncomputable def laws_markStringS.g {β : Type} (k : Nat) (a0 : List (List C)) (a1 : Int) (K : Int → (List (List C)) → Option β) : Option β :=
  iter (laws_markStringS.l0 k K) k (a1, 0, a0)
noncomputable def laws_markStringS.t (k : Nat) (a0 : List (List C)) (a1 : Int) : Option (Int × (List (List C))) := laws_markStringS.g k a0 a1 (fun z0 z1 => some (z0, z1))
noncomputable def laws_markStringS.f {β : Type} (k : Nat) (a0 : List (List C)) (a1 : Int) (K : Int → (List (List C)) → Option β) : Option β :=
  match laws_markStringS.t k a0 a1 with
  | some (z0, z1) => K z0 z1
  | none => none
noncomputable def laws_markStringS.as (a0 : List (List C)) (a1 : Int) : List A := [.own false [.own a0], .d (.int .i64 a1)]
noncomputable def laws_markStringS.kt {β : Type} (a0 : List (List C)) (a1 : Int) (K0 : List (List C) → List Out → Option β) : Int → (List (List C)) → Option β := fun z0 z1 => K0 [[.d (.int .i64 z0)]] [.own [.own z1]]
noncomputable def laws_markStringS.e (k : Nat) : Entry := { modes := [(.own, 23), (.imm, 0)], rts := [3], al := false, run := fun {β} l K => match l with | [.own false [.own a0], .d (.int .i64 a1)] => laws_markStringS.f k a0 a1 (laws_markStringS.kt a0 a1 K) | _ => none }
noncomputable def laws_markStringS.E (k : Nat) : Env := fun g => bif g == 152 then some (laws_markText.e k) else none
noncomputable def laws_markStringS.h : Hints := ⟨fun n => bif n == 2 then ⟨[(0, .asis), (1, .dat false), (5, .asis)], []⟩ else ⟨[], []⟩, fun _ => none, false, []⟩
noncomputable def laws_markStringS.s0 (v : Int × Int × (List (List C))) : St :=
  match v with
  | (v0_0, v0_1, v0_2) => ⟨[.row 0, .d false (.int .i64 v0_0), .any, .any, .any, .d true (.int .i64 v0_1), .any, .any, .any, .any, .any, .any, .any, .any, .any, .any, .any, .any, .any, .any], [.row (some 0) false 23 v0_2]⟩
noncomputable def laws_markStringS.b0 {β : Type} (k : Nat) : St → (Ex → St → Option β) → Option β := fun s K => den Try.prog (laws_markStringS.E k) laws_markStringS.h.H laws_markStringS.h.J k (codeAt [1, 0, 1, 0, 0] (codeOf Try.f124)) s K
noncomputable def laws_markStringS.c0 {β : Type} (k : Nat) (a0 : List (List C)) (a1 : Int) (K0 : List (List C) → List Out → Option β) : Ex → St → Option β := contAt Try.prog (laws_markStringS.E k) laws_markStringS.h k [1, 0, 1, 0] (codeOf Try.f124) (finDen Try.prog Try.f124 laws_markStringS.h (laws_markStringS.as a0 a1) K0)
theorem laws_markStringS.l0_eq {β : Type} (k : Nat) (a0 : List (List C)) (a1 : Int) (K0 : List (List C) → List Out → Option β) : ∀ (kk : Nat) (v : Int × Int × (List (List C))), loopDen (laws_markStringS.b0 k) (laws_markStringS.h.H 2) kk (laws_markStringS.s0 v) (laws_markStringS.c0 k a0 a1 K0) = iter (laws_markStringS.l0 k (laws_markStringS.kt a0 a1 K0)) kk v :=
  loop_eq (laws_markStringS.s0) _ (fun L0 v => by obtain ⟨v0_0, v0_1, v0_2⟩ := v; kernel_rfl)
noncomputable def laws_markStringS.m {β : Type} (k : Nat) (a0 : List (List C)) (a1 : Int) (K0 : List (List C) → List Out → Option β) (F : ((Int × Int × (List (List C))) → Option β)) : Option β :=
  (F) (a1, 0, a0)
theorem laws_markStringS.f_eq {β : Type} (k : Nat) (a0 : List (List C)) (a1 : Int) (K0 : List (List C) → List Out → Option β) : funDen Try.prog (laws_markStringS.E k) laws_markStringS.h k Try.f124 (laws_markStringS.as a0 a1) K0 = laws_markStringS.g k a0 a1 (laws_markStringS.kt a0 a1 K0) := Eq.trans (b := (laws_markStringS.m k a0 a1 K0) (fun (v : Int × Int × (List (List C))) => loopDen (laws_markStringS.b0 k) (laws_markStringS.h.H 2) k (laws_markStringS.s0 v) (laws_markStringS.c0 k a0 a1 K0))) (by kernel_rfl) (Eq.trans (congrArg (laws_markStringS.m k a0 a1 K0) (funext fun v => laws_markStringS.l0_eq k a0 a1 K0 k v)) (by kernel_rfl))
noncomputable def laws_markStringS.dec (rs : List (List C)) (os : List Out) : Option (Int × (List (List C))) := uncons rs fun c1 r2 => uncons c1 fun x3 l4 => cD x3 fun d5 => dInt .i64 d5 fun w0 => atEnd l4 <| atEnd r2 <| uncons os fun o6 u7 => outOwn o6 fun c8 => uncons c8 fun x9 l10 => cOwn x9 fun w1 => atEnd l10 <| atEnd u7 (some (w0, w1))
theorem laws_markStringS.kt_dec (a0 : List (List C)) (a1 : Int) : laws_markStringS.kt a0 a1 laws_markStringS.dec = (fun z0 z1 => some (z0, z1)) := by kernel_rfl
theorem laws_markStringS.inj (a0 : List (List C)) (a1 : Int) {rs : List (List C)} {os : List Out} {z0 : Int} {z1 : List (List C)} (h : laws_markStringS.dec rs os = some (z0, z1)) (ho : OutShape (laws_markStringS.as a0 a1) os) : rs = [[.d (.int .i64 z0)]] ∧ os = [.own [.own z1]] := by
  unfold laws_markStringS.dec at h
  obtain ⟨c1, r2, rfl, h1⟩ := uncons_some h
  obtain ⟨x3, l4, rfl, h2⟩ := uncons_some h1
  obtain ⟨d5, rfl, h3⟩ := cD_some h2
  obtain ⟨w0, rfl, h4⟩ := dInt_some h3
  obtain ⟨rfl, h5⟩ := atEnd_some h4
  obtain ⟨rfl, h6⟩ := atEnd_some h5
  obtain ⟨o6, u7, rfl, h7⟩ := uncons_some h6
  obtain ⟨c8, rfl, h8⟩ := outOwn_some h7
  obtain ⟨x9, l10, rfl, h9⟩ := uncons_some h8
  obtain ⟨w1, rfl, h10⟩ := cOwn_some h9
  obtain ⟨rfl, h11⟩ := atEnd_some h10
  obtain ⟨rfl, h12⟩ := atEnd_some h11
  simp only [Option.some.injEq, Prod.mk.injEq] at h12
  obtain ⟨rfl, rfl⟩ := h12
  exact ⟨rfl, rfl⟩
theorem laws_markStringS.ok (k : Nat) : EntryOK Try.prog 124 (laws_markStringS.e k) := by
  refine entry_of mix tyok (fn := Try.f124) (c := codeOf Try.f124) Try.func124 (by kernel_rfl) (h := laws_markStringS.h) (k := k) (E := laws_markStringS.E k) (env_cons (laws_markText.ok k) env_nil) (by kernel_rfl) (by kernel_rfl) rfl (enter_of Try.func124 (by kernel_rfl)) ?_
  intro β l K r hr
  simp only [laws_markStringS.e] at hr
  split at hr
  case h_2 => cases hr
  unfold laws_markStringS.f at hr
  split at hr
  case h_2 => cases hr
  rename_i hz
  exact ⟨_, _, hr, _, laws_markStringS.dec, _, (laws_markStringS.f_eq k _ _ laws_markStringS.dec).trans (by rw [laws_markStringS.kt_dec]; exact hz), fun rs os h ho => laws_markStringS.inj _ _ h ho⟩
noncomputable def laws_markTermS.l0 {β : Type} (k : Nat) (K : Int → (List (List C)) → Option β) (L0 : (Int × Int × (List (List C))) → Option β) (v : Int × Int × (List (List C))) : Option β :=
  match v with
  | (v0_0, v0_1, v0_2) => bif (decide ((v0_1 : Int) < (v0_2.length : Int))) then (guardP ((0 : Int) ≤ v0_1 ∧ v0_1 < (v0_2.length : Int)) (guardP (Int.toNat v0_1 < v0_2.length) (laws_markText.f k (IntKind.wrap .i64 (v0_0 + 1)) (fun y8 => guardP ((0 : Int) ≤ v0_1 ∧ v0_1 < ((v0_2.modify (Int.toNat v0_1) fun c => splice c 0 [.d (.int .i64 v0_0)]).length : Int)) (guardP (Int.toNat v0_1 < (v0_2.modify (Int.toNat v0_1) fun c => splice c 0 [.d (.int .i64 v0_0)]).length) (guardP ((0 : Int) ≤ v0_1 ∧ v0_1 < (((v0_2.modify (Int.toNat v0_1) fun c => splice c 0 [.d (.int .i64 v0_0)]).modify (Int.toNat v0_1) fun c => splice c 1 [.d (.str y8)]).length : Int)) (atNat ((v0_2.modify (Int.toNat v0_1) fun c => splice c 0 [.d (.int .i64 v0_0)]).modify (Int.toNat v0_1) fun c => splice c 1 [.d (.str y8)]) (Int.toNat v0_1) fun c9 => uncons (c9.drop 2) fun c10 r11 => cOwn c10 fun y12 => laws_markStringS.f k y12 (IntKind.wrap .i64 ((IntKind.wrap .i64 (v0_0 + 1)) + 1)) (fun y13 y14 => L0 (y13, IntKind.wrap .i64 (v0_1 + 1), ((v0_2.modify (Int.toNat v0_1) fun c => splice c 0 [.d (.int .i64 v0_0)]).modify (Int.toNat v0_1) fun c => splice c 1 [.d (.str y8)]).modify (Int.toNat v0_1) fun r => r.set 2 (.own y14)))))))))) else (K v0_0 v0_2)
noncomputable def laws_markTermS.g {β : Type} (k : Nat) (a0 : List (List C)) (a1 : Int) (K : Int → (List (List C)) → Option β) : Option β :=
  iter (laws_markTermS.l0 k K) k (a1, 0, a0)
noncomputable def laws_markTermS.t (k : Nat) (a0 : List (List C)) (a1 : Int) : Option (Int × (List (List C))) := laws_markTermS.g k a0 a1 (fun z0 z1 => some (z0, z1))
noncomputable def laws_markTermS.f {β : Type} (k : Nat) (a0 : List (List C)) (a1 : Int) (K : Int → (List (List C)) → Option β) : Option β :=
  match laws_markTermS.t k a0 a1 with
  | some (z0, z1) => K z0 z1
  | none => none
noncomputable def laws_markTermS.as (a0 : List (List C)) (a1 : Int) : List A := [.own false [.own a0], .d (.int .i64 a1)]
noncomputable def laws_markTermS.kt {β : Type} (a0 : List (List C)) (a1 : Int) (K0 : List (List C) → List Out → Option β) : Int → (List (List C)) → Option β := fun z0 z1 => K0 [[.d (.int .i64 z0)]] [.own [.own z1]]
noncomputable def laws_markTermS.e (k : Nat) : Entry := { modes := [(.own, 40), (.imm, 0)], rts := [3], al := false, run := fun {β} l K => match l with | [.own false [.own a0], .d (.int .i64 a1)] => laws_markTermS.f k a0 a1 (laws_markTermS.kt a0 a1 K) | _ => none }
noncomputable def laws_markTermS.E (k : Nat) : Env := fun g => bif g == 152 then some (laws_markText.e k) else bif g == 124 then some (laws_markStringS.e k) else none
noncomputable def laws_markTermS.h : Hints := ⟨fun n => bif n == 2 then ⟨[(0, .asis), (1, .dat false), (5, .asis)], []⟩ else ⟨[], []⟩, fun _ => none, false, []⟩
noncomputable def laws_markTermS.s0 (v : Int × Int × (List (List C))) : St :=
  match v with
  | (v0_0, v0_1, v0_2) => ⟨[.row 0, .d false (.int .i64 v0_0), .any, .any, .any, .d true (.int .i64 v0_1), .any, .any, .any, .any, .any, .any, .any, .any, .any, .any, .any, .any, .any, .any, .any, .any, .any, .any, .any, .any, .any, .any, .any, .any, .any, .any, .any, .any, .any], [.row (some 0) false 40 v0_2]⟩
noncomputable def laws_markTermS.b0 {β : Type} (k : Nat) : St → (Ex → St → Option β) → Option β := fun s K => den Try.prog (laws_markTermS.E k) laws_markTermS.h.H laws_markTermS.h.J k (codeAt [1, 0, 1, 0, 0] (codeOf Try.f174)) s K
noncomputable def laws_markTermS.c0 {β : Type} (k : Nat) (a0 : List (List C)) (a1 : Int) (K0 : List (List C) → List Out → Option β) : Ex → St → Option β := contAt Try.prog (laws_markTermS.E k) laws_markTermS.h k [1, 0, 1, 0] (codeOf Try.f174) (finDen Try.prog Try.f174 laws_markTermS.h (laws_markTermS.as a0 a1) K0)
theorem laws_markTermS.l0_eq {β : Type} (k : Nat) (a0 : List (List C)) (a1 : Int) (K0 : List (List C) → List Out → Option β) : ∀ (kk : Nat) (v : Int × Int × (List (List C))), loopDen (laws_markTermS.b0 k) (laws_markTermS.h.H 2) kk (laws_markTermS.s0 v) (laws_markTermS.c0 k a0 a1 K0) = iter (laws_markTermS.l0 k (laws_markTermS.kt a0 a1 K0)) kk v :=
  loop_eq (laws_markTermS.s0) _ (fun L0 v => by obtain ⟨v0_0, v0_1, v0_2⟩ := v; kernel_rfl)
noncomputable def laws_markTermS.m {β : Type} (k : Nat) (a0 : List (List C)) (a1 : Int) (K0 : List (List C) → List Out → Option β) (F : ((Int × Int × (List (List C))) → Option β)) : Option β :=
  (F) (a1, 0, a0)
theorem laws_markTermS.f_eq {β : Type} (k : Nat) (a0 : List (List C)) (a1 : Int) (K0 : List (List C) → List Out → Option β) : funDen Try.prog (laws_markTermS.E k) laws_markTermS.h k Try.f174 (laws_markTermS.as a0 a1) K0 = laws_markTermS.g k a0 a1 (laws_markTermS.kt a0 a1 K0) := Eq.trans (b := (laws_markTermS.m k a0 a1 K0) (fun (v : Int × Int × (List (List C))) => loopDen (laws_markTermS.b0 k) (laws_markTermS.h.H 2) k (laws_markTermS.s0 v) (laws_markTermS.c0 k a0 a1 K0))) (by kernel_rfl) (Eq.trans (congrArg (laws_markTermS.m k a0 a1 K0) (funext fun v => laws_markTermS.l0_eq k a0 a1 K0 k v)) (by kernel_rfl))
noncomputable def laws_markTermS.dec (rs : List (List C)) (os : List Out) : Option (Int × (List (List C))) := uncons rs fun c1 r2 => uncons c1 fun x3 l4 => cD x3 fun d5 => dInt .i64 d5 fun w0 => atEnd l4 <| atEnd r2 <| uncons os fun o6 u7 => outOwn o6 fun c8 => uncons c8 fun x9 l10 => cOwn x9 fun w1 => atEnd l10 <| atEnd u7 (some (w0, w1))
theorem laws_markTermS.kt_dec (a0 : List (List C)) (a1 : Int) : laws_markTermS.kt a0 a1 laws_markTermS.dec = (fun z0 z1 => some (z0, z1)) := by kernel_rfl
theorem laws_markTermS.inj (a0 : List (List C)) (a1 : Int) {rs : List (List C)} {os : List Out} {z0 : Int} {z1 : List (List C)} (h : laws_markTermS.dec rs os = some (z0, z1)) (ho : OutShape (laws_markTermS.as a0 a1) os) : rs = [[.d (.int .i64 z0)]] ∧ os = [.own [.own z1]] := by
  unfold laws_markTermS.dec at h
  obtain ⟨c1, r2, rfl, h1⟩ := uncons_some h
  obtain ⟨x3, l4, rfl, h2⟩ := uncons_some h1
  obtain ⟨d5, rfl, h3⟩ := cD_some h2
  obtain ⟨w0, rfl, h4⟩ := dInt_some h3
  obtain ⟨rfl, h5⟩ := atEnd_some h4
  obtain ⟨rfl, h6⟩ := atEnd_some h5
  obtain ⟨o6, u7, rfl, h7⟩ := uncons_some h6
  obtain ⟨c8, rfl, h8⟩ := outOwn_some h7
  obtain ⟨x9, l10, rfl, h9⟩ := uncons_some h8
  obtain ⟨w1, rfl, h10⟩ := cOwn_some h9
  obtain ⟨rfl, h11⟩ := atEnd_some h10
  obtain ⟨rfl, h12⟩ := atEnd_some h11
  simp only [Option.some.injEq, Prod.mk.injEq] at h12
  obtain ⟨rfl, rfl⟩ := h12
  exact ⟨rfl, rfl⟩
theorem laws_markTermS.ok (k : Nat) : EntryOK Try.prog 174 (laws_markTermS.e k) := by
  refine entry_of mix tyok (fn := Try.f174) (c := codeOf Try.f174) Try.func174 (by kernel_rfl) (h := laws_markTermS.h) (k := k) (E := laws_markTermS.E k) (env_cons (laws_markText.ok k) (env_cons (laws_markStringS.ok k) env_nil)) (by kernel_rfl) (by kernel_rfl) rfl (enter_of Try.func174 (by kernel_rfl)) ?_
  intro β l K r hr
  simp only [laws_markTermS.e] at hr
  split at hr
  case h_2 => cases hr
  unfold laws_markTermS.f at hr
  split at hr
  case h_2 => cases hr
  rename_i hz
  exact ⟨_, _, hr, _, laws_markTermS.dec, _, (laws_markTermS.f_eq k _ _ laws_markTermS.dec).trans (by rw [laws_markTermS.kt_dec]; exact hz), fun rs os h ho => laws_markTermS.inj _ _ h ho⟩
noncomputable def laws_markWeighS.l0 {β : Type} (k : Nat) (K : Int → (List (List C)) → Option β) (L0 : (Int × Int × (List (List C))) → Option β) (v : Int × Int × (List (List C))) : Option β :=
  match v with
  | (v0_0, v0_1, v0_2) => bif (decide ((v0_1 : Int) < (v0_2.length : Int))) then (laws_markText.f k v0_0 (fun y2 => guardP ((0 : Int) ≤ v0_1 ∧ v0_1 < (v0_2.length : Int)) (guardP (Int.toNat v0_1 < v0_2.length) (guardP ((0 : Int) ≤ v0_1 ∧ v0_1 < ((v0_2.modify (Int.toNat v0_1) fun c => splice c 0 [.d (.str y2)]).length : Int)) (guardP (Int.toNat v0_1 < (v0_2.modify (Int.toNat v0_1) fun c => splice c 0 [.d (.str y2)]).length) (L0 (IntKind.wrap .i64 ((IntKind.wrap .i64 (v0_0 + 1)) + 1), IntKind.wrap .i64 (v0_1 + 1), (v0_2.modify (Int.toNat v0_1) fun c => splice c 0 [.d (.str y2)]).modify (Int.toNat v0_1) fun c => splice c 1 [.d (.int .i64 (IntKind.wrap .i64 (v0_0 + 1)))]))))))) else (K v0_0 v0_2)
noncomputable def laws_markWeighS.g {β : Type} (k : Nat) (a0 : List (List C)) (a1 : Int) (K : Int → (List (List C)) → Option β) : Option β :=
  iter (laws_markWeighS.l0 k K) k (a1, 0, a0)
noncomputable def laws_markWeighS.t (k : Nat) (a0 : List (List C)) (a1 : Int) : Option (Int × (List (List C))) := laws_markWeighS.g k a0 a1 (fun z0 z1 => some (z0, z1))
noncomputable def laws_markWeighS.f {β : Type} (k : Nat) (a0 : List (List C)) (a1 : Int) (K : Int → (List (List C)) → Option β) : Option β :=
  match laws_markWeighS.t k a0 a1 with
  | some (z0, z1) => K z0 z1
  | none => none
noncomputable def laws_markWeighS.as (a0 : List (List C)) (a1 : Int) : List A := [.own false [.own a0], .d (.int .i64 a1)]
noncomputable def laws_markWeighS.kt {β : Type} (a0 : List (List C)) (a1 : Int) (K0 : List (List C) → List Out → Option β) : Int → (List (List C)) → Option β := fun z0 z1 => K0 [[.d (.int .i64 z0)]] [.own [.own z1]]
noncomputable def laws_markWeighS.e (k : Nat) : Entry := { modes := [(.own, 41), (.imm, 0)], rts := [3], al := false, run := fun {β} l K => match l with | [.own false [.own a0], .d (.int .i64 a1)] => laws_markWeighS.f k a0 a1 (laws_markWeighS.kt a0 a1 K) | _ => none }
noncomputable def laws_markWeighS.E (k : Nat) : Env := fun g => bif g == 152 then some (laws_markText.e k) else none
noncomputable def laws_markWeighS.h : Hints := ⟨fun n => bif n == 2 then ⟨[(0, .asis), (1, .dat false), (5, .asis)], []⟩ else ⟨[], []⟩, fun _ => none, false, []⟩
noncomputable def laws_markWeighS.s0 (v : Int × Int × (List (List C))) : St :=
  match v with
  | (v0_0, v0_1, v0_2) => ⟨[.row 0, .d false (.int .i64 v0_0), .any, .any, .any, .d true (.int .i64 v0_1), .any, .any, .any, .any, .any, .any, .any, .any, .any, .any, .any, .any, .any, .any, .any, .any, .any, .any, .any, .any, .any, .any], [.row (some 0) false 41 v0_2]⟩
noncomputable def laws_markWeighS.b0 {β : Type} (k : Nat) : St → (Ex → St → Option β) → Option β := fun s K => den Try.prog (laws_markWeighS.E k) laws_markWeighS.h.H laws_markWeighS.h.J k (codeAt [1, 0, 1, 0, 0] (codeOf Try.f175)) s K
noncomputable def laws_markWeighS.c0 {β : Type} (k : Nat) (a0 : List (List C)) (a1 : Int) (K0 : List (List C) → List Out → Option β) : Ex → St → Option β := contAt Try.prog (laws_markWeighS.E k) laws_markWeighS.h k [1, 0, 1, 0] (codeOf Try.f175) (finDen Try.prog Try.f175 laws_markWeighS.h (laws_markWeighS.as a0 a1) K0)
theorem laws_markWeighS.l0_eq {β : Type} (k : Nat) (a0 : List (List C)) (a1 : Int) (K0 : List (List C) → List Out → Option β) : ∀ (kk : Nat) (v : Int × Int × (List (List C))), loopDen (laws_markWeighS.b0 k) (laws_markWeighS.h.H 2) kk (laws_markWeighS.s0 v) (laws_markWeighS.c0 k a0 a1 K0) = iter (laws_markWeighS.l0 k (laws_markWeighS.kt a0 a1 K0)) kk v :=
  loop_eq (laws_markWeighS.s0) _ (fun L0 v => by obtain ⟨v0_0, v0_1, v0_2⟩ := v; kernel_rfl)
noncomputable def laws_markWeighS.m {β : Type} (k : Nat) (a0 : List (List C)) (a1 : Int) (K0 : List (List C) → List Out → Option β) (F : ((Int × Int × (List (List C))) → Option β)) : Option β :=
  (F) (a1, 0, a0)
theorem laws_markWeighS.f_eq {β : Type} (k : Nat) (a0 : List (List C)) (a1 : Int) (K0 : List (List C) → List Out → Option β) : funDen Try.prog (laws_markWeighS.E k) laws_markWeighS.h k Try.f175 (laws_markWeighS.as a0 a1) K0 = laws_markWeighS.g k a0 a1 (laws_markWeighS.kt a0 a1 K0) := Eq.trans (b := (laws_markWeighS.m k a0 a1 K0) (fun (v : Int × Int × (List (List C))) => loopDen (laws_markWeighS.b0 k) (laws_markWeighS.h.H 2) k (laws_markWeighS.s0 v) (laws_markWeighS.c0 k a0 a1 K0))) (by kernel_rfl) (Eq.trans (congrArg (laws_markWeighS.m k a0 a1 K0) (funext fun v => laws_markWeighS.l0_eq k a0 a1 K0 k v)) (by kernel_rfl))
noncomputable def laws_markWeighS.dec (rs : List (List C)) (os : List Out) : Option (Int × (List (List C))) := uncons rs fun c1 r2 => uncons c1 fun x3 l4 => cD x3 fun d5 => dInt .i64 d5 fun w0 => atEnd l4 <| atEnd r2 <| uncons os fun o6 u7 => outOwn o6 fun c8 => uncons c8 fun x9 l10 => cOwn x9 fun w1 => atEnd l10 <| atEnd u7 (some (w0, w1))
theorem laws_markWeighS.kt_dec (a0 : List (List C)) (a1 : Int) : laws_markWeighS.kt a0 a1 laws_markWeighS.dec = (fun z0 z1 => some (z0, z1)) := by kernel_rfl
theorem laws_markWeighS.inj (a0 : List (List C)) (a1 : Int) {rs : List (List C)} {os : List Out} {z0 : Int} {z1 : List (List C)} (h : laws_markWeighS.dec rs os = some (z0, z1)) (ho : OutShape (laws_markWeighS.as a0 a1) os) : rs = [[.d (.int .i64 z0)]] ∧ os = [.own [.own z1]] := by
  unfold laws_markWeighS.dec at h
  obtain ⟨c1, r2, rfl, h1⟩ := uncons_some h
  obtain ⟨x3, l4, rfl, h2⟩ := uncons_some h1
  obtain ⟨d5, rfl, h3⟩ := cD_some h2
  obtain ⟨w0, rfl, h4⟩ := dInt_some h3
  obtain ⟨rfl, h5⟩ := atEnd_some h4
  obtain ⟨rfl, h6⟩ := atEnd_some h5
  obtain ⟨o6, u7, rfl, h7⟩ := uncons_some h6
  obtain ⟨c8, rfl, h8⟩ := outOwn_some h7
  obtain ⟨x9, l10, rfl, h9⟩ := uncons_some h8
  obtain ⟨w1, rfl, h10⟩ := cOwn_some h9
  obtain ⟨rfl, h11⟩ := atEnd_some h10
  obtain ⟨rfl, h12⟩ := atEnd_some h11
  simp only [Option.some.injEq, Prod.mk.injEq] at h12
  obtain ⟨rfl, rfl⟩ := h12
  exact ⟨rfl, rfl⟩
theorem laws_markWeighS.ok (k : Nat) : EntryOK Try.prog 175 (laws_markWeighS.e k) := by
  refine entry_of mix tyok (fn := Try.f175) (c := codeOf Try.f175) Try.func175 (by kernel_rfl) (h := laws_markWeighS.h) (k := k) (E := laws_markWeighS.E k) (env_cons (laws_markText.ok k) env_nil) (by kernel_rfl) (by kernel_rfl) rfl (enter_of Try.func175 (by kernel_rfl)) ?_
  intro β l K r hr
  simp only [laws_markWeighS.e] at hr
  split at hr
  case h_2 => cases hr
  unfold laws_markWeighS.f at hr
  split at hr
  case h_2 => cases hr
  rename_i hz
  exact ⟨_, _, hr, _, laws_markWeighS.dec, _, (laws_markWeighS.f_eq k _ _ laws_markWeighS.dec).trans (by rw [laws_markWeighS.kt_dec]; exact hz), fun rs os h ho => laws_markWeighS.inj _ _ h ho⟩
noncomputable def laws_markValueS.l0 {β : Type} (k : Nat) (r_laws_markValueS : (List (List C)) → Int → (Int → (List (List C)) → Option β) → Option β) (K : Int → (List (List C)) → Option β) (L0 : (Int × Int × (List (List C))) → Option β) (v : Int × Int × (List (List C))) : Option β :=
  match v with
  | (v0_0, v0_1, v0_2) => bif (decide ((v0_1 : Int) < (v0_2.length : Int))) then (guardP ((0 : Int) ≤ v0_1 ∧ v0_1 < (v0_2.length : Int)) (guardP (Int.toNat v0_1 < v0_2.length) (laws_markText.f k (IntKind.wrap .i64 (v0_0 + 1)) (fun y14 => guardP ((0 : Int) ≤ v0_1 ∧ v0_1 < ((v0_2.modify (Int.toNat v0_1) fun c => splice c 0 [.d (.int .i64 v0_0)]).length : Int)) (guardP (Int.toNat v0_1 < (v0_2.modify (Int.toNat v0_1) fun c => splice c 0 [.d (.int .i64 v0_0)]).length) (guardP ((0 : Int) ≤ v0_1 ∧ v0_1 < (((v0_2.modify (Int.toNat v0_1) fun c => splice c 0 [.d (.int .i64 v0_0)]).modify (Int.toNat v0_1) fun c => splice c 1 [.d (.str y14)]).length : Int)) (guardP (Int.toNat v0_1 < ((v0_2.modify (Int.toNat v0_1) fun c => splice c 0 [.d (.int .i64 v0_0)]).modify (Int.toNat v0_1) fun c => splice c 1 [.d (.str y14)]).length) (guardP ((0 : Int) ≤ v0_1 ∧ v0_1 < ((((v0_2.modify (Int.toNat v0_1) fun c => splice c 0 [.d (.int .i64 v0_0)]).modify (Int.toNat v0_1) fun c => splice c 1 [.d (.str y14)]).modify (Int.toNat v0_1) fun c => splice c 2 [.d (.int .i64 (IntKind.wrap .i64 ((IntKind.wrap .i64 (v0_0 + 1)) + 1)))]).length : Int)) (atNat (((v0_2.modify (Int.toNat v0_1) fun c => splice c 0 [.d (.int .i64 v0_0)]).modify (Int.toNat v0_1) fun c => splice c 1 [.d (.str y14)]).modify (Int.toNat v0_1) fun c => splice c 2 [.d (.int .i64 (IntKind.wrap .i64 ((IntKind.wrap .i64 (v0_0 + 1)) + 1)))]) (Int.toNat v0_1) fun c15 => uncons (c15.drop 3) fun c16 r17 => cOwn c16 fun y18 => laws_markStringS.f k y18 (IntKind.wrap .i64 ((IntKind.wrap .i64 ((IntKind.wrap .i64 (v0_0 + 1)) + 1)) + 1)) (fun y19 y20 => guardP ((0 : Int) ≤ v0_1 ∧ v0_1 < (((((v0_2.modify (Int.toNat v0_1) fun c => splice c 0 [.d (.int .i64 v0_0)]).modify (Int.toNat v0_1) fun c => splice c 1 [.d (.str y14)]).modify (Int.toNat v0_1) fun c => splice c 2 [.d (.int .i64 (IntKind.wrap .i64 ((IntKind.wrap .i64 (v0_0 + 1)) + 1)))]).modify (Int.toNat v0_1) fun r => r.set 3 (.own y20)).length : Int)) (atNat ((((v0_2.modify (Int.toNat v0_1) fun c => splice c 0 [.d (.int .i64 v0_0)]).modify (Int.toNat v0_1) fun c => splice c 1 [.d (.str y14)]).modify (Int.toNat v0_1) fun c => splice c 2 [.d (.int .i64 (IntKind.wrap .i64 ((IntKind.wrap .i64 (v0_0 + 1)) + 1)))]).modify (Int.toNat v0_1) fun r => r.set 3 (.own y20)) (Int.toNat v0_1) fun c21 => uncons (c21.drop 4) fun c22 r23 => cOwn c22 fun y24 => r_laws_markValueS y24 y19 (fun y25 y26 => L0 (y25, IntKind.wrap .i64 (v0_1 + 1), ((((v0_2.modify (Int.toNat v0_1) fun c => splice c 0 [.d (.int .i64 v0_0)]).modify (Int.toNat v0_1) fun c => splice c 1 [.d (.str y14)]).modify (Int.toNat v0_1) fun c => splice c 2 [.d (.int .i64 (IntKind.wrap .i64 ((IntKind.wrap .i64 (v0_0 + 1)) + 1)))]).modify (Int.toNat v0_1) fun r => r.set 3 (.own y20)).modify (Int.toNat v0_1) fun r => r.set 4 (.own y26)))))))))))))) else (K v0_0 v0_2)
noncomputable def laws_markValueS.body {β : Type} (k : Nat) (r_laws_markValueS : (List (List C)) → Int → (Int → (List (List C)) → Option β) → Option β) (a0 : List (List C)) (a1 : Int) (K : Int → (List (List C)) → Option β) : Option β :=
  iter (laws_markValueS.l0 k r_laws_markValueS K) k (a1, 0, a0)
noncomputable def laws_markValueS.w {β : Type} (r : (List (List C)) → Int → Option (Int × (List (List C)))) (a0 : List (List C)) (a1 : Int) (K : Int → (List (List C)) → Option β) : Option β :=
  match r a0 a1 with
  | some (z0, z1) => K z0 z1
  | none => none
noncomputable def laws_markValueS.all : Nat → ((List (List C)) → Int → Option (Int × (List (List C))))
  | 0 => (fun _ _ => none)
  | k + 1 => (fun r => (fun a0 a1 => laws_markValueS.body k (laws_markValueS.w r) a0 a1 (fun z0 z1 => some (z0, z1)))) (laws_markValueS.all k)
noncomputable def laws_markValueS.t (k : Nat) (a0 : List (List C)) (a1 : Int) : Option (Int × (List (List C))) := (laws_markValueS.all k) a0 a1
noncomputable def laws_markValueS.f {β : Type} (k : Nat) (a0 : List (List C)) (a1 : Int) (K : Int → (List (List C)) → Option β) : Option β := laws_markValueS.w (laws_markValueS.t k) a0 a1 K
noncomputable def laws_markValueS.g {β : Type} (k : Nat) (a0 : List (List C)) (a1 : Int) (K : Int → (List (List C)) → Option β) : Option β := laws_markValueS.body k (laws_markValueS.f k) a0 a1 K
theorem laws_markValueS.t_zero (a0 : List (List C)) (a1 : Int) : laws_markValueS.t 0 a0 a1 = none := rfl
theorem laws_markValueS.t_succ (k : Nat) (a0 : List (List C)) (a1 : Int) : laws_markValueS.t (k + 1) a0 a1 = laws_markValueS.g k a0 a1 (fun z0 z1 => some (z0, z1)) := rfl
noncomputable def laws_markValueS.as (a0 : List (List C)) (a1 : Int) : List A := [.own false [.own a0], .d (.int .i64 a1)]
noncomputable def laws_markValueS.kt {β : Type} (a0 : List (List C)) (a1 : Int) (K0 : List (List C) → List Out → Option β) : Int → (List (List C)) → Option β := fun z0 z1 => K0 [[.d (.int .i64 z0)]] [.own [.own z1]]
noncomputable def laws_markValueS.e (k : Nat) : Entry := { modes := [(.own, 149), (.imm, 0)], rts := [3], al := false, run := fun {β} l K => match l with | [.own false [.own a0], .d (.int .i64 a1)] => laws_markValueS.f k a0 a1 (laws_markValueS.kt a0 a1 K) | _ => none }
noncomputable def laws_markValueS.E (k : Nat) : Env := fun g => bif g == 152 then some (laws_markText.e k) else bif g == 124 then some (laws_markStringS.e k) else bif g == 153 then some (laws_markValueS.e k) else none
noncomputable def laws_markValueS.h : Hints := ⟨fun n => bif n == 2 then ⟨[(0, .asis), (1, .dat false), (5, .asis)], []⟩ else ⟨[], []⟩, fun _ => none, false, []⟩
noncomputable def laws_markValueS.s0 (v : Int × Int × (List (List C))) : St :=
  match v with
  | (v0_0, v0_1, v0_2) => ⟨[.row 0, .d false (.int .i64 v0_0), .any, .any, .any, .d true (.int .i64 v0_1), .any, .any, .any, .any, .any, .any, .any, .any, .any, .any, .any, .any, .any, .any, .any, .any, .any, .any, .any, .any, .any, .any, .any, .any, .any, .any, .any, .any, .any, .any, .any, .any, .any, .any, .any, .any, .any, .any, .any, .any, .any, .any, .any], [.row (some 0) false 149 v0_2]⟩
noncomputable def laws_markValueS.b0 {β : Type} (k : Nat) : St → (Ex → St → Option β) → Option β := fun s K => den Try.prog (laws_markValueS.E k) laws_markValueS.h.H laws_markValueS.h.J k (codeAt [1, 0, 1, 0, 0] (codeOf Try.f153)) s K
noncomputable def laws_markValueS.c0 {β : Type} (k : Nat) (a0 : List (List C)) (a1 : Int) (K0 : List (List C) → List Out → Option β) : Ex → St → Option β := contAt Try.prog (laws_markValueS.E k) laws_markValueS.h k [1, 0, 1, 0] (codeOf Try.f153) (finDen Try.prog Try.f153 laws_markValueS.h (laws_markValueS.as a0 a1) K0)
theorem laws_markValueS.l0_eq {β : Type} (k : Nat) (a0 : List (List C)) (a1 : Int) (K0 : List (List C) → List Out → Option β) : ∀ (kk : Nat) (v : Int × Int × (List (List C))), loopDen (laws_markValueS.b0 k) (laws_markValueS.h.H 2) kk (laws_markValueS.s0 v) (laws_markValueS.c0 k a0 a1 K0) = iter (laws_markValueS.l0 k (laws_markValueS.f k) (laws_markValueS.kt a0 a1 K0)) kk v :=
  loop_eq (laws_markValueS.s0) _ (fun L0 v => by obtain ⟨v0_0, v0_1, v0_2⟩ := v; kernel_rfl)
noncomputable def laws_markValueS.m {β : Type} (k : Nat) (a0 : List (List C)) (a1 : Int) (K0 : List (List C) → List Out → Option β) (F : ((Int × Int × (List (List C))) → Option β)) : Option β :=
  (F) (a1, 0, a0)
theorem laws_markValueS.f_eq {β : Type} (k : Nat) (a0 : List (List C)) (a1 : Int) (K0 : List (List C) → List Out → Option β) : funDen Try.prog (laws_markValueS.E k) laws_markValueS.h k Try.f153 (laws_markValueS.as a0 a1) K0 = laws_markValueS.g k a0 a1 (laws_markValueS.kt a0 a1 K0) := Eq.trans (b := (laws_markValueS.m k a0 a1 K0) (fun (v : Int × Int × (List (List C))) => loopDen (laws_markValueS.b0 k) (laws_markValueS.h.H 2) k (laws_markValueS.s0 v) (laws_markValueS.c0 k a0 a1 K0))) (by kernel_rfl) (Eq.trans (congrArg (laws_markValueS.m k a0 a1 K0) (funext fun v => laws_markValueS.l0_eq k a0 a1 K0 k v)) (by kernel_rfl))
noncomputable def laws_markValueS.dec (rs : List (List C)) (os : List Out) : Option (Int × (List (List C))) := uncons rs fun c1 r2 => uncons c1 fun x3 l4 => cD x3 fun d5 => dInt .i64 d5 fun w0 => atEnd l4 <| atEnd r2 <| uncons os fun o6 u7 => outOwn o6 fun c8 => uncons c8 fun x9 l10 => cOwn x9 fun w1 => atEnd l10 <| atEnd u7 (some (w0, w1))
theorem laws_markValueS.kt_dec (a0 : List (List C)) (a1 : Int) : laws_markValueS.kt a0 a1 laws_markValueS.dec = (fun z0 z1 => some (z0, z1)) := by kernel_rfl
theorem laws_markValueS.inj (a0 : List (List C)) (a1 : Int) {rs : List (List C)} {os : List Out} {z0 : Int} {z1 : List (List C)} (h : laws_markValueS.dec rs os = some (z0, z1)) (ho : OutShape (laws_markValueS.as a0 a1) os) : rs = [[.d (.int .i64 z0)]] ∧ os = [.own [.own z1]] := by
  unfold laws_markValueS.dec at h
  obtain ⟨c1, r2, rfl, h1⟩ := uncons_some h
  obtain ⟨x3, l4, rfl, h2⟩ := uncons_some h1
  obtain ⟨d5, rfl, h3⟩ := cD_some h2
  obtain ⟨w0, rfl, h4⟩ := dInt_some h3
  obtain ⟨rfl, h5⟩ := atEnd_some h4
  obtain ⟨rfl, h6⟩ := atEnd_some h5
  obtain ⟨o6, u7, rfl, h7⟩ := uncons_some h6
  obtain ⟨c8, rfl, h8⟩ := outOwn_some h7
  obtain ⟨x9, l10, rfl, h9⟩ := uncons_some h8
  obtain ⟨w1, rfl, h10⟩ := cOwn_some h9
  obtain ⟨rfl, h11⟩ := atEnd_some h10
  obtain ⟨rfl, h12⟩ := atEnd_some h11
  simp only [Option.some.injEq, Prod.mk.injEq] at h12
  obtain ⟨rfl, rfl⟩ := h12
  exact ⟨rfl, rfl⟩
theorem laws_markValueS.oks (k : Nat) : EntryOK Try.prog 153 (laws_markValueS.e k) := by
  induction k with
  | zero =>
    refine ?_
    · exact entry_zero (enter_of Try.func153 (by kernel_rfl)) fun β l K r h => by
        simp only [laws_markValueS.e] at h
        split at h
        · unfold laws_markValueS.f at h
          unfold laws_markValueS.w at h
          rw [laws_markValueS.t_zero] at h
          cases h
        · cases h
  | succ k ih =>
    refine ?_
    · refine entry_of mix tyok (fn := Try.f153) (c := codeOf Try.f153) Try.func153 (by kernel_rfl) (h := laws_markValueS.h) (k := k) (E := laws_markValueS.E k) (env_cons (laws_markText.ok k) (env_cons (laws_markStringS.ok k) (env_cons ih env_nil))) (by kernel_rfl) (by kernel_rfl) rfl (enter_of Try.func153 (by kernel_rfl)) ?_
      intro β l K r hr
      simp only [laws_markValueS.e] at hr
      split at hr
      case h_2 => cases hr
      unfold laws_markValueS.f at hr
      unfold laws_markValueS.w at hr
      split at hr
      case h_2 => cases hr
      rename_i hz
      exact ⟨_, _, hr, _, laws_markValueS.dec, _, (laws_markValueS.f_eq k _ _ laws_markValueS.dec).trans (by rw [laws_markValueS.kt_dec]; exact hz), fun rs os h ho => laws_markValueS.inj _ _ h ho⟩
theorem laws_markValueS.ok (k : Nat) : EntryOK Try.prog 153 (laws_markValueS.e k) := (laws_markValueS.oks k)
set_option maxRecDepth 100000 in
noncomputable def laws_markOpS.l0 {β : Type} (k : Nat) (K : Int → (List (List C)) → Option β) (L0 : (Int × Int × (List (List C))) → Option β) (v : Int × Int × (List (List C))) : Option β :=
  match v with
  | (v0_0, v0_1, v0_2) => bif (decide ((v0_1 : Int) < (v0_2.length : Int))) then (guardP ((0 : Int) ≤ v0_1 ∧ v0_1 < (v0_2.length : Int)) (guardP (Int.toNat v0_1 < v0_2.length) (guardP ((0 : Int) ≤ v0_1 ∧ v0_1 < ((v0_2.modify (Int.toNat v0_1) fun c => splice c 0 [.d (.int .i64 v0_0)]).length : Int)) (atNat (v0_2.modify (Int.toNat v0_1) fun c => splice c 0 [.d (.int .i64 v0_0)]) (Int.toNat v0_1) fun c20 => uncons (c20.drop 1) fun c21 r22 => cOwn c21 fun y23 => laws_markStringS.f k y23 (IntKind.wrap .i64 (v0_0 + 1)) (fun y24 y25 => guardP ((0 : Int) ≤ v0_1 ∧ v0_1 < (((v0_2.modify (Int.toNat v0_1) fun c => splice c 0 [.d (.int .i64 v0_0)]).modify (Int.toNat v0_1) fun r => r.set 1 (.own y25)).length : Int)) (guardP (Int.toNat v0_1 < ((v0_2.modify (Int.toNat v0_1) fun c => splice c 0 [.d (.int .i64 v0_0)]).modify (Int.toNat v0_1) fun r => r.set 1 (.own y25)).length) (laws_markText.f k (IntKind.wrap .i64 (y24 + 1)) (fun y26 => guardP ((0 : Int) ≤ v0_1 ∧ v0_1 < ((((v0_2.modify (Int.toNat v0_1) fun c => splice c 0 [.d (.int .i64 v0_0)]).modify (Int.toNat v0_1) fun r => r.set 1 (.own y25)).modify (Int.toNat v0_1) fun c => splice c 2 [.d (.int .i64 y24)]).length : Int)) (guardP (Int.toNat v0_1 < (((v0_2.modify (Int.toNat v0_1) fun c => splice c 0 [.d (.int .i64 v0_0)]).modify (Int.toNat v0_1) fun r => r.set 1 (.own y25)).modify (Int.toNat v0_1) fun c => splice c 2 [.d (.int .i64 y24)]).length) (guardP ((0 : Int) ≤ v0_1 ∧ v0_1 < (((((v0_2.modify (Int.toNat v0_1) fun c => splice c 0 [.d (.int .i64 v0_0)]).modify (Int.toNat v0_1) fun r => r.set 1 (.own y25)).modify (Int.toNat v0_1) fun c => splice c 2 [.d (.int .i64 y24)]).modify (Int.toNat v0_1) fun c => splice c 3 [.d (.str y26)]).length : Int)) (guardP (Int.toNat v0_1 < ((((v0_2.modify (Int.toNat v0_1) fun c => splice c 0 [.d (.int .i64 v0_0)]).modify (Int.toNat v0_1) fun r => r.set 1 (.own y25)).modify (Int.toNat v0_1) fun c => splice c 2 [.d (.int .i64 y24)]).modify (Int.toNat v0_1) fun c => splice c 3 [.d (.str y26)]).length) (guardP ((0 : Int) ≤ v0_1 ∧ v0_1 < ((((((v0_2.modify (Int.toNat v0_1) fun c => splice c 0 [.d (.int .i64 v0_0)]).modify (Int.toNat v0_1) fun r => r.set 1 (.own y25)).modify (Int.toNat v0_1) fun c => splice c 2 [.d (.int .i64 y24)]).modify (Int.toNat v0_1) fun c => splice c 3 [.d (.str y26)]).modify (Int.toNat v0_1) fun c => splice c 4 [.d (.int .i64 (IntKind.wrap .i64 ((IntKind.wrap .i64 (y24 + 1)) + 1)))]).length : Int)) (atNat (((((v0_2.modify (Int.toNat v0_1) fun c => splice c 0 [.d (.int .i64 v0_0)]).modify (Int.toNat v0_1) fun r => r.set 1 (.own y25)).modify (Int.toNat v0_1) fun c => splice c 2 [.d (.int .i64 y24)]).modify (Int.toNat v0_1) fun c => splice c 3 [.d (.str y26)]).modify (Int.toNat v0_1) fun c => splice c 4 [.d (.int .i64 (IntKind.wrap .i64 ((IntKind.wrap .i64 (y24 + 1)) + 1)))]) (Int.toNat v0_1) fun c27 => uncons (c27.drop 5) fun c28 r29 => cOwn c28 fun y30 => laws_markStringS.f k y30 (IntKind.wrap .i64 ((IntKind.wrap .i64 ((IntKind.wrap .i64 (y24 + 1)) + 1)) + 1)) (fun y31 y32 => guardP ((0 : Int) ≤ v0_1 ∧ v0_1 < (((((((v0_2.modify (Int.toNat v0_1) fun c => splice c 0 [.d (.int .i64 v0_0)]).modify (Int.toNat v0_1) fun r => r.set 1 (.own y25)).modify (Int.toNat v0_1) fun c => splice c 2 [.d (.int .i64 y24)]).modify (Int.toNat v0_1) fun c => splice c 3 [.d (.str y26)]).modify (Int.toNat v0_1) fun c => splice c 4 [.d (.int .i64 (IntKind.wrap .i64 ((IntKind.wrap .i64 (y24 + 1)) + 1)))]).modify (Int.toNat v0_1) fun r => r.set 5 (.own y32)).length : Int)) (atNat ((((((v0_2.modify (Int.toNat v0_1) fun c => splice c 0 [.d (.int .i64 v0_0)]).modify (Int.toNat v0_1) fun r => r.set 1 (.own y25)).modify (Int.toNat v0_1) fun c => splice c 2 [.d (.int .i64 y24)]).modify (Int.toNat v0_1) fun c => splice c 3 [.d (.str y26)]).modify (Int.toNat v0_1) fun c => splice c 4 [.d (.int .i64 (IntKind.wrap .i64 ((IntKind.wrap .i64 (y24 + 1)) + 1)))]).modify (Int.toNat v0_1) fun r => r.set 5 (.own y32)) (Int.toNat v0_1) fun c33 => uncons (c33.drop 6) fun c34 r35 => cOwn c34 fun y36 => laws_markValueS.f k y36 y31 (fun y37 y38 => L0 (y37, IntKind.wrap .i64 (v0_1 + 1), ((((((v0_2.modify (Int.toNat v0_1) fun c => splice c 0 [.d (.int .i64 v0_0)]).modify (Int.toNat v0_1) fun r => r.set 1 (.own y25)).modify (Int.toNat v0_1) fun c => splice c 2 [.d (.int .i64 y24)]).modify (Int.toNat v0_1) fun c => splice c 3 [.d (.str y26)]).modify (Int.toNat v0_1) fun c => splice c 4 [.d (.int .i64 (IntKind.wrap .i64 ((IntKind.wrap .i64 (y24 + 1)) + 1)))]).modify (Int.toNat v0_1) fun r => r.set 5 (.own y32)).modify (Int.toNat v0_1) fun r => r.set 6 (.own y38)))))))))))))))))) else (K v0_0 v0_2)
noncomputable def laws_markOpS.g {β : Type} (k : Nat) (a0 : List (List C)) (a1 : Int) (K : Int → (List (List C)) → Option β) : Option β :=
  iter (laws_markOpS.l0 k K) k (a1, 0, a0)
noncomputable def laws_markOpS.t (k : Nat) (a0 : List (List C)) (a1 : Int) : Option (Int × (List (List C))) := laws_markOpS.g k a0 a1 (fun z0 z1 => some (z0, z1))
noncomputable def laws_markOpS.f {β : Type} (k : Nat) (a0 : List (List C)) (a1 : Int) (K : Int → (List (List C)) → Option β) : Option β :=
  match laws_markOpS.t k a0 a1 with
  | some (z0, z1) => K z0 z1
  | none => none
noncomputable def laws_markOpS.as (a0 : List (List C)) (a1 : Int) : List A := [.own false [.own a0], .d (.int .i64 a1)]
noncomputable def laws_markOpS.kt {β : Type} (a0 : List (List C)) (a1 : Int) (K0 : List (List C) → List Out → Option β) : Int → (List (List C)) → Option β := fun z0 z1 => K0 [[.d (.int .i64 z0)]] [.own [.own z1]]
noncomputable def laws_markOpS.e (k : Nat) : Entry := { modes := [(.own, 255), (.imm, 0)], rts := [3], al := false, run := fun {β} l K => match l with | [.own false [.own a0], .d (.int .i64 a1)] => laws_markOpS.f k a0 a1 (laws_markOpS.kt a0 a1 K) | _ => none }
noncomputable def laws_markOpS.E (k : Nat) : Env := fun g => bif g == 124 then some (laws_markStringS.e k) else bif g == 152 then some (laws_markText.e k) else bif g == 153 then some (laws_markValueS.e k) else none
noncomputable def laws_markOpS.h : Hints := ⟨fun n => bif n == 2 then ⟨[(0, .asis), (1, .dat false), (5, .asis)], []⟩ else ⟨[], []⟩, fun _ => none, false, []⟩
noncomputable def laws_markOpS.s0 (v : Int × Int × (List (List C))) : St :=
  match v with
  | (v0_0, v0_1, v0_2) => ⟨[.row 0, .d false (.int .i64 v0_0), .any, .any, .any, .d true (.int .i64 v0_1), .any, .any, .any, .any, .any, .any, .any, .any, .any, .any, .any, .any, .any, .any, .any, .any, .any, .any, .any, .any, .any, .any, .any, .any, .any, .any, .any, .any, .any, .any, .any, .any, .any, .any, .any, .any, .any, .any, .any, .any, .any, .any, .any, .any, .any, .any, .any, .any, .any, .any, .any, .any, .any, .any, .any, .any, .any, .any, .any, .any, .any, .any], [.row (some 0) false 255 v0_2]⟩
noncomputable def laws_markOpS.b0 {β : Type} (k : Nat) : St → (Ex → St → Option β) → Option β := fun s K => den Try.prog (laws_markOpS.E k) laws_markOpS.h.H laws_markOpS.h.J k (codeAt [1, 0, 1, 0, 0] (codeOf Try.f197)) s K
noncomputable def laws_markOpS.c0 {β : Type} (k : Nat) (a0 : List (List C)) (a1 : Int) (K0 : List (List C) → List Out → Option β) : Ex → St → Option β := contAt Try.prog (laws_markOpS.E k) laws_markOpS.h k [1, 0, 1, 0] (codeOf Try.f197) (finDen Try.prog Try.f197 laws_markOpS.h (laws_markOpS.as a0 a1) K0)
theorem laws_markOpS.l0_eq {β : Type} (k : Nat) (a0 : List (List C)) (a1 : Int) (K0 : List (List C) → List Out → Option β) : ∀ (kk : Nat) (v : Int × Int × (List (List C))), loopDen (laws_markOpS.b0 k) (laws_markOpS.h.H 2) kk (laws_markOpS.s0 v) (laws_markOpS.c0 k a0 a1 K0) = iter (laws_markOpS.l0 k (laws_markOpS.kt a0 a1 K0)) kk v :=
  loop_eq (laws_markOpS.s0) _ (fun L0 v => by obtain ⟨v0_0, v0_1, v0_2⟩ := v; kernel_rfl)
noncomputable def laws_markOpS.m {β : Type} (k : Nat) (a0 : List (List C)) (a1 : Int) (K0 : List (List C) → List Out → Option β) (F : ((Int × Int × (List (List C))) → Option β)) : Option β :=
  (F) (a1, 0, a0)
theorem laws_markOpS.f_eq {β : Type} (k : Nat) (a0 : List (List C)) (a1 : Int) (K0 : List (List C) → List Out → Option β) : funDen Try.prog (laws_markOpS.E k) laws_markOpS.h k Try.f197 (laws_markOpS.as a0 a1) K0 = laws_markOpS.g k a0 a1 (laws_markOpS.kt a0 a1 K0) := Eq.trans (b := (laws_markOpS.m k a0 a1 K0) (fun (v : Int × Int × (List (List C))) => loopDen (laws_markOpS.b0 k) (laws_markOpS.h.H 2) k (laws_markOpS.s0 v) (laws_markOpS.c0 k a0 a1 K0))) (by kernel_rfl) (Eq.trans (congrArg (laws_markOpS.m k a0 a1 K0) (funext fun v => laws_markOpS.l0_eq k a0 a1 K0 k v)) (by kernel_rfl))
noncomputable def laws_markOpS.dec (rs : List (List C)) (os : List Out) : Option (Int × (List (List C))) := uncons rs fun c1 r2 => uncons c1 fun x3 l4 => cD x3 fun d5 => dInt .i64 d5 fun w0 => atEnd l4 <| atEnd r2 <| uncons os fun o6 u7 => outOwn o6 fun c8 => uncons c8 fun x9 l10 => cOwn x9 fun w1 => atEnd l10 <| atEnd u7 (some (w0, w1))
theorem laws_markOpS.kt_dec (a0 : List (List C)) (a1 : Int) : laws_markOpS.kt a0 a1 laws_markOpS.dec = (fun z0 z1 => some (z0, z1)) := by kernel_rfl
theorem laws_markOpS.inj (a0 : List (List C)) (a1 : Int) {rs : List (List C)} {os : List Out} {z0 : Int} {z1 : List (List C)} (h : laws_markOpS.dec rs os = some (z0, z1)) (ho : OutShape (laws_markOpS.as a0 a1) os) : rs = [[.d (.int .i64 z0)]] ∧ os = [.own [.own z1]] := by
  unfold laws_markOpS.dec at h
  obtain ⟨c1, r2, rfl, h1⟩ := uncons_some h
  obtain ⟨x3, l4, rfl, h2⟩ := uncons_some h1
  obtain ⟨d5, rfl, h3⟩ := cD_some h2
  obtain ⟨w0, rfl, h4⟩ := dInt_some h3
  obtain ⟨rfl, h5⟩ := atEnd_some h4
  obtain ⟨rfl, h6⟩ := atEnd_some h5
  obtain ⟨o6, u7, rfl, h7⟩ := uncons_some h6
  obtain ⟨c8, rfl, h8⟩ := outOwn_some h7
  obtain ⟨x9, l10, rfl, h9⟩ := uncons_some h8
  obtain ⟨w1, rfl, h10⟩ := cOwn_some h9
  obtain ⟨rfl, h11⟩ := atEnd_some h10
  obtain ⟨rfl, h12⟩ := atEnd_some h11
  simp only [Option.some.injEq, Prod.mk.injEq] at h12
  obtain ⟨rfl, rfl⟩ := h12
  exact ⟨rfl, rfl⟩
theorem laws_markOpS.ok (k : Nat) : EntryOK Try.prog 197 (laws_markOpS.e k) := by
  refine entry_of mix tyok (fn := Try.f197) (c := codeOf Try.f197) Try.func197 (by kernel_rfl) (h := laws_markOpS.h) (k := k) (E := laws_markOpS.E k) (env_cons (laws_markStringS.ok k) (env_cons (laws_markText.ok k) (env_cons (laws_markValueS.ok k) env_nil))) (by kernel_rfl) (by kernel_rfl) rfl (enter_of Try.func197 (by kernel_rfl)) ?_
  intro β l K r hr
  simp only [laws_markOpS.e] at hr
  split at hr
  case h_2 => cases hr
  unfold laws_markOpS.f at hr
  split at hr
  case h_2 => cases hr
  rename_i hz
  exact ⟨_, _, hr, _, laws_markOpS.dec, _, (laws_markOpS.f_eq k _ _ laws_markOpS.dec).trans (by rw [laws_markOpS.kt_dec]; exact hz), fun rs os h ho => laws_markOpS.inj _ _ h ho⟩
noncomputable def laws_markOverS.l0 {β : Type} (k : Nat) (K : Int → (List (List C)) → Option β) (L0 : (Int × Int × (List (List C))) → Option β) (v : Int × Int × (List (List C))) : Option β :=
  match v with
  | (v0_0, v0_1, v0_2) => bif (decide ((v0_1 : Int) < (v0_2.length : Int))) then (laws_markText.f k v0_0 (fun y8 => guardP ((0 : Int) ≤ v0_1 ∧ v0_1 < (v0_2.length : Int)) (guardP (Int.toNat v0_1 < v0_2.length) (guardP ((0 : Int) ≤ v0_1 ∧ v0_1 < ((v0_2.modify (Int.toNat v0_1) fun c => splice c 0 [.d (.str y8)]).length : Int)) (atNat (v0_2.modify (Int.toNat v0_1) fun c => splice c 0 [.d (.str y8)]) (Int.toNat v0_1) fun c9 => uncons (c9.drop 1) fun c10 r11 => cOwn c10 fun y12 => laws_markOpS.f k y12 (IntKind.wrap .i64 (v0_0 + 1)) (fun y13 y14 => L0 (y13, IntKind.wrap .i64 (v0_1 + 1), (v0_2.modify (Int.toNat v0_1) fun c => splice c 0 [.d (.str y8)]).modify (Int.toNat v0_1) fun r => r.set 1 (.own y14)))))))) else (K v0_0 v0_2)
noncomputable def laws_markOverS.g {β : Type} (k : Nat) (a0 : List (List C)) (a1 : Int) (K : Int → (List (List C)) → Option β) : Option β :=
  iter (laws_markOverS.l0 k K) k (a1, 0, a0)
noncomputable def laws_markOverS.t (k : Nat) (a0 : List (List C)) (a1 : Int) : Option (Int × (List (List C))) := laws_markOverS.g k a0 a1 (fun z0 z1 => some (z0, z1))
noncomputable def laws_markOverS.f {β : Type} (k : Nat) (a0 : List (List C)) (a1 : Int) (K : Int → (List (List C)) → Option β) : Option β :=
  match laws_markOverS.t k a0 a1 with
  | some (z0, z1) => K z0 z1
  | none => none
noncomputable def laws_markOverS.as (a0 : List (List C)) (a1 : Int) : List A := [.own false [.own a0], .d (.int .i64 a1)]
noncomputable def laws_markOverS.kt {β : Type} (a0 : List (List C)) (a1 : Int) (K0 : List (List C) → List Out → Option β) : Int → (List (List C)) → Option β := fun z0 z1 => K0 [[.d (.int .i64 z0)]] [.own [.own z1]]
noncomputable def laws_markOverS.e (k : Nat) : Entry := { modes := [(.own, 226), (.imm, 0)], rts := [3], al := false, run := fun {β} l K => match l with | [.own false [.own a0], .d (.int .i64 a1)] => laws_markOverS.f k a0 a1 (laws_markOverS.kt a0 a1 K) | _ => none }
noncomputable def laws_markOverS.E (k : Nat) : Env := fun g => bif g == 152 then some (laws_markText.e k) else bif g == 197 then some (laws_markOpS.e k) else none
noncomputable def laws_markOverS.h : Hints := ⟨fun n => bif n == 2 then ⟨[(0, .asis), (1, .dat false), (5, .asis)], []⟩ else ⟨[], []⟩, fun _ => none, false, []⟩
noncomputable def laws_markOverS.s0 (v : Int × Int × (List (List C))) : St :=
  match v with
  | (v0_0, v0_1, v0_2) => ⟨[.row 0, .d false (.int .i64 v0_0), .any, .any, .any, .d true (.int .i64 v0_1), .any, .any, .any, .any, .any, .any, .any, .any, .any, .any, .any, .any, .any, .any, .any, .any, .any, .any, .any, .any, .any, .any], [.row (some 0) false 226 v0_2]⟩
noncomputable def laws_markOverS.b0 {β : Type} (k : Nat) : St → (Ex → St → Option β) → Option β := fun s K => den Try.prog (laws_markOverS.E k) laws_markOverS.h.H laws_markOverS.h.J k (codeAt [1, 0, 1, 0, 0] (codeOf Try.f176)) s K
noncomputable def laws_markOverS.c0 {β : Type} (k : Nat) (a0 : List (List C)) (a1 : Int) (K0 : List (List C) → List Out → Option β) : Ex → St → Option β := contAt Try.prog (laws_markOverS.E k) laws_markOverS.h k [1, 0, 1, 0] (codeOf Try.f176) (finDen Try.prog Try.f176 laws_markOverS.h (laws_markOverS.as a0 a1) K0)
theorem laws_markOverS.l0_eq {β : Type} (k : Nat) (a0 : List (List C)) (a1 : Int) (K0 : List (List C) → List Out → Option β) : ∀ (kk : Nat) (v : Int × Int × (List (List C))), loopDen (laws_markOverS.b0 k) (laws_markOverS.h.H 2) kk (laws_markOverS.s0 v) (laws_markOverS.c0 k a0 a1 K0) = iter (laws_markOverS.l0 k (laws_markOverS.kt a0 a1 K0)) kk v :=
  loop_eq (laws_markOverS.s0) _ (fun L0 v => by obtain ⟨v0_0, v0_1, v0_2⟩ := v; kernel_rfl)
noncomputable def laws_markOverS.m {β : Type} (k : Nat) (a0 : List (List C)) (a1 : Int) (K0 : List (List C) → List Out → Option β) (F : ((Int × Int × (List (List C))) → Option β)) : Option β :=
  (F) (a1, 0, a0)
theorem laws_markOverS.f_eq {β : Type} (k : Nat) (a0 : List (List C)) (a1 : Int) (K0 : List (List C) → List Out → Option β) : funDen Try.prog (laws_markOverS.E k) laws_markOverS.h k Try.f176 (laws_markOverS.as a0 a1) K0 = laws_markOverS.g k a0 a1 (laws_markOverS.kt a0 a1 K0) := Eq.trans (b := (laws_markOverS.m k a0 a1 K0) (fun (v : Int × Int × (List (List C))) => loopDen (laws_markOverS.b0 k) (laws_markOverS.h.H 2) k (laws_markOverS.s0 v) (laws_markOverS.c0 k a0 a1 K0))) (by kernel_rfl) (Eq.trans (congrArg (laws_markOverS.m k a0 a1 K0) (funext fun v => laws_markOverS.l0_eq k a0 a1 K0 k v)) (by kernel_rfl))
noncomputable def laws_markOverS.dec (rs : List (List C)) (os : List Out) : Option (Int × (List (List C))) := uncons rs fun c1 r2 => uncons c1 fun x3 l4 => cD x3 fun d5 => dInt .i64 d5 fun w0 => atEnd l4 <| atEnd r2 <| uncons os fun o6 u7 => outOwn o6 fun c8 => uncons c8 fun x9 l10 => cOwn x9 fun w1 => atEnd l10 <| atEnd u7 (some (w0, w1))
theorem laws_markOverS.kt_dec (a0 : List (List C)) (a1 : Int) : laws_markOverS.kt a0 a1 laws_markOverS.dec = (fun z0 z1 => some (z0, z1)) := by kernel_rfl
theorem laws_markOverS.inj (a0 : List (List C)) (a1 : Int) {rs : List (List C)} {os : List Out} {z0 : Int} {z1 : List (List C)} (h : laws_markOverS.dec rs os = some (z0, z1)) (ho : OutShape (laws_markOverS.as a0 a1) os) : rs = [[.d (.int .i64 z0)]] ∧ os = [.own [.own z1]] := by
  unfold laws_markOverS.dec at h
  obtain ⟨c1, r2, rfl, h1⟩ := uncons_some h
  obtain ⟨x3, l4, rfl, h2⟩ := uncons_some h1
  obtain ⟨d5, rfl, h3⟩ := cD_some h2
  obtain ⟨w0, rfl, h4⟩ := dInt_some h3
  obtain ⟨rfl, h5⟩ := atEnd_some h4
  obtain ⟨rfl, h6⟩ := atEnd_some h5
  obtain ⟨o6, u7, rfl, h7⟩ := uncons_some h6
  obtain ⟨c8, rfl, h8⟩ := outOwn_some h7
  obtain ⟨x9, l10, rfl, h9⟩ := uncons_some h8
  obtain ⟨w1, rfl, h10⟩ := cOwn_some h9
  obtain ⟨rfl, h11⟩ := atEnd_some h10
  obtain ⟨rfl, h12⟩ := atEnd_some h11
  simp only [Option.some.injEq, Prod.mk.injEq] at h12
  obtain ⟨rfl, rfl⟩ := h12
  exact ⟨rfl, rfl⟩
theorem laws_markOverS.ok (k : Nat) : EntryOK Try.prog 176 (laws_markOverS.e k) := by
  refine entry_of mix tyok (fn := Try.f176) (c := codeOf Try.f176) Try.func176 (by kernel_rfl) (h := laws_markOverS.h) (k := k) (E := laws_markOverS.E k) (env_cons (laws_markText.ok k) (env_cons (laws_markOpS.ok k) env_nil)) (by kernel_rfl) (by kernel_rfl) rfl (enter_of Try.func176 (by kernel_rfl)) ?_
  intro β l K r hr
  simp only [laws_markOverS.e] at hr
  split at hr
  case h_2 => cases hr
  unfold laws_markOverS.f at hr
  split at hr
  case h_2 => cases hr
  rename_i hz
  exact ⟨_, _, hr, _, laws_markOverS.dec, _, (laws_markOverS.f_eq k _ _ laws_markOverS.dec).trans (by rw [laws_markOverS.kt_dec]; exact hz), fun rs os h ho => laws_markOverS.inj _ _ h ho⟩
set_option maxRecDepth 100000 in
noncomputable def laws_markJobS.l0 {β : Type} (k : Nat) (K : Int → (List (List C)) → Option β) (L0 : (Int × Int × (List (List C))) → Option β) (v : Int × Int × (List (List C))) : Option β :=
  match v with
  | (v0_0, v0_1, v0_2) => bif (decide ((v0_1 : Int) < (v0_2.length : Int))) then (guardP ((0 : Int) ≤ v0_1 ∧ v0_1 < (v0_2.length : Int)) (guardP (Int.toNat v0_1 < v0_2.length) (laws_markText.f k (IntKind.wrap .i64 (v0_0 + 1)) (fun y39 => guardP ((0 : Int) ≤ v0_1 ∧ v0_1 < ((v0_2.modify (Int.toNat v0_1) fun c => splice c 0 [.d (.int .i64 v0_0)]).length : Int)) (guardP (Int.toNat v0_1 < (v0_2.modify (Int.toNat v0_1) fun c => splice c 0 [.d (.int .i64 v0_0)]).length) (guardP ((0 : Int) ≤ v0_1 ∧ v0_1 < (((v0_2.modify (Int.toNat v0_1) fun c => splice c 0 [.d (.int .i64 v0_0)]).modify (Int.toNat v0_1) fun c => splice c 1 [.d (.str y39)]).length : Int)) (guardP (Int.toNat v0_1 < ((v0_2.modify (Int.toNat v0_1) fun c => splice c 0 [.d (.int .i64 v0_0)]).modify (Int.toNat v0_1) fun c => splice c 1 [.d (.str y39)]).length) (guardP ((0 : Int) ≤ v0_1 ∧ v0_1 < ((((v0_2.modify (Int.toNat v0_1) fun c => splice c 0 [.d (.int .i64 v0_0)]).modify (Int.toNat v0_1) fun c => splice c 1 [.d (.str y39)]).modify (Int.toNat v0_1) fun c => splice c 2 [.d (.int .i64 (IntKind.wrap .i64 ((IntKind.wrap .i64 (v0_0 + 1)) + 1)))]).length : Int)) (atNat (((v0_2.modify (Int.toNat v0_1) fun c => splice c 0 [.d (.int .i64 v0_0)]).modify (Int.toNat v0_1) fun c => splice c 1 [.d (.str y39)]).modify (Int.toNat v0_1) fun c => splice c 2 [.d (.int .i64 (IntKind.wrap .i64 ((IntKind.wrap .i64 (v0_0 + 1)) + 1)))]) (Int.toNat v0_1) fun c40 => uncons (c40.drop 3) fun c41 r42 => cOwn c41 fun y43 => laws_markTermS.f k y43 (IntKind.wrap .i64 ((IntKind.wrap .i64 ((IntKind.wrap .i64 (v0_0 + 1)) + 1)) + 1)) (fun y44 y45 => guardP ((0 : Int) ≤ v0_1 ∧ v0_1 < (((((v0_2.modify (Int.toNat v0_1) fun c => splice c 0 [.d (.int .i64 v0_0)]).modify (Int.toNat v0_1) fun c => splice c 1 [.d (.str y39)]).modify (Int.toNat v0_1) fun c => splice c 2 [.d (.int .i64 (IntKind.wrap .i64 ((IntKind.wrap .i64 (v0_0 + 1)) + 1)))]).modify (Int.toNat v0_1) fun r => r.set 3 (.own y45)).length : Int)) (atNat ((((v0_2.modify (Int.toNat v0_1) fun c => splice c 0 [.d (.int .i64 v0_0)]).modify (Int.toNat v0_1) fun c => splice c 1 [.d (.str y39)]).modify (Int.toNat v0_1) fun c => splice c 2 [.d (.int .i64 (IntKind.wrap .i64 ((IntKind.wrap .i64 (v0_0 + 1)) + 1)))]).modify (Int.toNat v0_1) fun r => r.set 3 (.own y45)) (Int.toNat v0_1) fun c46 => uncons (c46.drop 4) fun c47 r48 => cOwn c47 fun y49 => laws_markStringS.f k y49 y44 (fun y50 y51 => guardP ((0 : Int) ≤ v0_1 ∧ v0_1 < ((((((v0_2.modify (Int.toNat v0_1) fun c => splice c 0 [.d (.int .i64 v0_0)]).modify (Int.toNat v0_1) fun c => splice c 1 [.d (.str y39)]).modify (Int.toNat v0_1) fun c => splice c 2 [.d (.int .i64 (IntKind.wrap .i64 ((IntKind.wrap .i64 (v0_0 + 1)) + 1)))]).modify (Int.toNat v0_1) fun r => r.set 3 (.own y45)).modify (Int.toNat v0_1) fun r => r.set 4 (.own y51)).length : Int)) (atNat (((((v0_2.modify (Int.toNat v0_1) fun c => splice c 0 [.d (.int .i64 v0_0)]).modify (Int.toNat v0_1) fun c => splice c 1 [.d (.str y39)]).modify (Int.toNat v0_1) fun c => splice c 2 [.d (.int .i64 (IntKind.wrap .i64 ((IntKind.wrap .i64 (v0_0 + 1)) + 1)))]).modify (Int.toNat v0_1) fun r => r.set 3 (.own y45)).modify (Int.toNat v0_1) fun r => r.set 4 (.own y51)) (Int.toNat v0_1) fun c52 => uncons (c52.drop 5) fun c53 r54 => cOwn c53 fun y55 => laws_markWeighS.f k y55 y50 (fun y56 y57 => guardP ((0 : Int) ≤ v0_1 ∧ v0_1 < (((((((v0_2.modify (Int.toNat v0_1) fun c => splice c 0 [.d (.int .i64 v0_0)]).modify (Int.toNat v0_1) fun c => splice c 1 [.d (.str y39)]).modify (Int.toNat v0_1) fun c => splice c 2 [.d (.int .i64 (IntKind.wrap .i64 ((IntKind.wrap .i64 (v0_0 + 1)) + 1)))]).modify (Int.toNat v0_1) fun r => r.set 3 (.own y45)).modify (Int.toNat v0_1) fun r => r.set 4 (.own y51)).modify (Int.toNat v0_1) fun r => r.set 5 (.own y57)).length : Int)) (guardP (Int.toNat v0_1 < ((((((v0_2.modify (Int.toNat v0_1) fun c => splice c 0 [.d (.int .i64 v0_0)]).modify (Int.toNat v0_1) fun c => splice c 1 [.d (.str y39)]).modify (Int.toNat v0_1) fun c => splice c 2 [.d (.int .i64 (IntKind.wrap .i64 ((IntKind.wrap .i64 (v0_0 + 1)) + 1)))]).modify (Int.toNat v0_1) fun r => r.set 3 (.own y45)).modify (Int.toNat v0_1) fun r => r.set 4 (.own y51)).modify (Int.toNat v0_1) fun r => r.set 5 (.own y57)).length) (laws_markText.f k (IntKind.wrap .i64 (y56 + 1)) (fun y58 => guardP ((0 : Int) ≤ v0_1 ∧ v0_1 < ((((((((v0_2.modify (Int.toNat v0_1) fun c => splice c 0 [.d (.int .i64 v0_0)]).modify (Int.toNat v0_1) fun c => splice c 1 [.d (.str y39)]).modify (Int.toNat v0_1) fun c => splice c 2 [.d (.int .i64 (IntKind.wrap .i64 ((IntKind.wrap .i64 (v0_0 + 1)) + 1)))]).modify (Int.toNat v0_1) fun r => r.set 3 (.own y45)).modify (Int.toNat v0_1) fun r => r.set 4 (.own y51)).modify (Int.toNat v0_1) fun r => r.set 5 (.own y57)).modify (Int.toNat v0_1) fun c => splice c 6 [.d (.int .i64 y56)]).length : Int)) (guardP (Int.toNat v0_1 < (((((((v0_2.modify (Int.toNat v0_1) fun c => splice c 0 [.d (.int .i64 v0_0)]).modify (Int.toNat v0_1) fun c => splice c 1 [.d (.str y39)]).modify (Int.toNat v0_1) fun c => splice c 2 [.d (.int .i64 (IntKind.wrap .i64 ((IntKind.wrap .i64 (v0_0 + 1)) + 1)))]).modify (Int.toNat v0_1) fun r => r.set 3 (.own y45)).modify (Int.toNat v0_1) fun r => r.set 4 (.own y51)).modify (Int.toNat v0_1) fun r => r.set 5 (.own y57)).modify (Int.toNat v0_1) fun c => splice c 6 [.d (.int .i64 y56)]).length) (guardP ((0 : Int) ≤ v0_1 ∧ v0_1 < (((((((((v0_2.modify (Int.toNat v0_1) fun c => splice c 0 [.d (.int .i64 v0_0)]).modify (Int.toNat v0_1) fun c => splice c 1 [.d (.str y39)]).modify (Int.toNat v0_1) fun c => splice c 2 [.d (.int .i64 (IntKind.wrap .i64 ((IntKind.wrap .i64 (v0_0 + 1)) + 1)))]).modify (Int.toNat v0_1) fun r => r.set 3 (.own y45)).modify (Int.toNat v0_1) fun r => r.set 4 (.own y51)).modify (Int.toNat v0_1) fun r => r.set 5 (.own y57)).modify (Int.toNat v0_1) fun c => splice c 6 [.d (.int .i64 y56)]).modify (Int.toNat v0_1) fun c => splice c 7 [.d (.str y58)]).length : Int)) (guardP (Int.toNat v0_1 < ((((((((v0_2.modify (Int.toNat v0_1) fun c => splice c 0 [.d (.int .i64 v0_0)]).modify (Int.toNat v0_1) fun c => splice c 1 [.d (.str y39)]).modify (Int.toNat v0_1) fun c => splice c 2 [.d (.int .i64 (IntKind.wrap .i64 ((IntKind.wrap .i64 (v0_0 + 1)) + 1)))]).modify (Int.toNat v0_1) fun r => r.set 3 (.own y45)).modify (Int.toNat v0_1) fun r => r.set 4 (.own y51)).modify (Int.toNat v0_1) fun r => r.set 5 (.own y57)).modify (Int.toNat v0_1) fun c => splice c 6 [.d (.int .i64 y56)]).modify (Int.toNat v0_1) fun c => splice c 7 [.d (.str y58)]).length) (guardP ((0 : Int) ≤ v0_1 ∧ v0_1 < ((((((((((v0_2.modify (Int.toNat v0_1) fun c => splice c 0 [.d (.int .i64 v0_0)]).modify (Int.toNat v0_1) fun c => splice c 1 [.d (.str y39)]).modify (Int.toNat v0_1) fun c => splice c 2 [.d (.int .i64 (IntKind.wrap .i64 ((IntKind.wrap .i64 (v0_0 + 1)) + 1)))]).modify (Int.toNat v0_1) fun r => r.set 3 (.own y45)).modify (Int.toNat v0_1) fun r => r.set 4 (.own y51)).modify (Int.toNat v0_1) fun r => r.set 5 (.own y57)).modify (Int.toNat v0_1) fun c => splice c 6 [.d (.int .i64 y56)]).modify (Int.toNat v0_1) fun c => splice c 7 [.d (.str y58)]).modify (Int.toNat v0_1) fun c => splice c 8 [.d (.int .i64 (IntKind.wrap .i64 ((IntKind.wrap .i64 (y56 + 1)) + 1)))]).length : Int)) (atNat (((((((((v0_2.modify (Int.toNat v0_1) fun c => splice c 0 [.d (.int .i64 v0_0)]).modify (Int.toNat v0_1) fun c => splice c 1 [.d (.str y39)]).modify (Int.toNat v0_1) fun c => splice c 2 [.d (.int .i64 (IntKind.wrap .i64 ((IntKind.wrap .i64 (v0_0 + 1)) + 1)))]).modify (Int.toNat v0_1) fun r => r.set 3 (.own y45)).modify (Int.toNat v0_1) fun r => r.set 4 (.own y51)).modify (Int.toNat v0_1) fun r => r.set 5 (.own y57)).modify (Int.toNat v0_1) fun c => splice c 6 [.d (.int .i64 y56)]).modify (Int.toNat v0_1) fun c => splice c 7 [.d (.str y58)]).modify (Int.toNat v0_1) fun c => splice c 8 [.d (.int .i64 (IntKind.wrap .i64 ((IntKind.wrap .i64 (y56 + 1)) + 1)))]) (Int.toNat v0_1) fun c59 => uncons (c59.drop 9) fun c60 r61 => cOwn c60 fun y62 => laws_markStringS.f k y62 (IntKind.wrap .i64 ((IntKind.wrap .i64 ((IntKind.wrap .i64 (y56 + 1)) + 1)) + 1)) (fun y63 y64 => guardP ((0 : Int) ≤ v0_1 ∧ v0_1 < (((((((((((v0_2.modify (Int.toNat v0_1) fun c => splice c 0 [.d (.int .i64 v0_0)]).modify (Int.toNat v0_1) fun c => splice c 1 [.d (.str y39)]).modify (Int.toNat v0_1) fun c => splice c 2 [.d (.int .i64 (IntKind.wrap .i64 ((IntKind.wrap .i64 (v0_0 + 1)) + 1)))]).modify (Int.toNat v0_1) fun r => r.set 3 (.own y45)).modify (Int.toNat v0_1) fun r => r.set 4 (.own y51)).modify (Int.toNat v0_1) fun r => r.set 5 (.own y57)).modify (Int.toNat v0_1) fun c => splice c 6 [.d (.int .i64 y56)]).modify (Int.toNat v0_1) fun c => splice c 7 [.d (.str y58)]).modify (Int.toNat v0_1) fun c => splice c 8 [.d (.int .i64 (IntKind.wrap .i64 ((IntKind.wrap .i64 (y56 + 1)) + 1)))]).modify (Int.toNat v0_1) fun r => r.set 9 (.own y64)).length : Int)) (atNat ((((((((((v0_2.modify (Int.toNat v0_1) fun c => splice c 0 [.d (.int .i64 v0_0)]).modify (Int.toNat v0_1) fun c => splice c 1 [.d (.str y39)]).modify (Int.toNat v0_1) fun c => splice c 2 [.d (.int .i64 (IntKind.wrap .i64 ((IntKind.wrap .i64 (v0_0 + 1)) + 1)))]).modify (Int.toNat v0_1) fun r => r.set 3 (.own y45)).modify (Int.toNat v0_1) fun r => r.set 4 (.own y51)).modify (Int.toNat v0_1) fun r => r.set 5 (.own y57)).modify (Int.toNat v0_1) fun c => splice c 6 [.d (.int .i64 y56)]).modify (Int.toNat v0_1) fun c => splice c 7 [.d (.str y58)]).modify (Int.toNat v0_1) fun c => splice c 8 [.d (.int .i64 (IntKind.wrap .i64 ((IntKind.wrap .i64 (y56 + 1)) + 1)))]).modify (Int.toNat v0_1) fun r => r.set 9 (.own y64)) (Int.toNat v0_1) fun c65 => uncons (c65.drop 10) fun c66 r67 => cOwn c66 fun y68 => laws_markValueS.f k y68 y63 (fun y69 y70 => guardP ((0 : Int) ≤ v0_1 ∧ v0_1 < ((((((((((((v0_2.modify (Int.toNat v0_1) fun c => splice c 0 [.d (.int .i64 v0_0)]).modify (Int.toNat v0_1) fun c => splice c 1 [.d (.str y39)]).modify (Int.toNat v0_1) fun c => splice c 2 [.d (.int .i64 (IntKind.wrap .i64 ((IntKind.wrap .i64 (v0_0 + 1)) + 1)))]).modify (Int.toNat v0_1) fun r => r.set 3 (.own y45)).modify (Int.toNat v0_1) fun r => r.set 4 (.own y51)).modify (Int.toNat v0_1) fun r => r.set 5 (.own y57)).modify (Int.toNat v0_1) fun c => splice c 6 [.d (.int .i64 y56)]).modify (Int.toNat v0_1) fun c => splice c 7 [.d (.str y58)]).modify (Int.toNat v0_1) fun c => splice c 8 [.d (.int .i64 (IntKind.wrap .i64 ((IntKind.wrap .i64 (y56 + 1)) + 1)))]).modify (Int.toNat v0_1) fun r => r.set 9 (.own y64)).modify (Int.toNat v0_1) fun r => r.set 10 (.own y70)).length : Int)) (atNat (((((((((((v0_2.modify (Int.toNat v0_1) fun c => splice c 0 [.d (.int .i64 v0_0)]).modify (Int.toNat v0_1) fun c => splice c 1 [.d (.str y39)]).modify (Int.toNat v0_1) fun c => splice c 2 [.d (.int .i64 (IntKind.wrap .i64 ((IntKind.wrap .i64 (v0_0 + 1)) + 1)))]).modify (Int.toNat v0_1) fun r => r.set 3 (.own y45)).modify (Int.toNat v0_1) fun r => r.set 4 (.own y51)).modify (Int.toNat v0_1) fun r => r.set 5 (.own y57)).modify (Int.toNat v0_1) fun c => splice c 6 [.d (.int .i64 y56)]).modify (Int.toNat v0_1) fun c => splice c 7 [.d (.str y58)]).modify (Int.toNat v0_1) fun c => splice c 8 [.d (.int .i64 (IntKind.wrap .i64 ((IntKind.wrap .i64 (y56 + 1)) + 1)))]).modify (Int.toNat v0_1) fun r => r.set 9 (.own y64)).modify (Int.toNat v0_1) fun r => r.set 10 (.own y70)) (Int.toNat v0_1) fun c71 => uncons (c71.drop 11) fun c72 r73 => cOwn c72 fun y74 => laws_markOverS.f k y74 y69 (fun y75 y76 => guardP ((3 : Int) ≠ 0) (guardP ((0 : Int) ≤ v0_1 ∧ v0_1 < (((((((((((((v0_2.modify (Int.toNat v0_1) fun c => splice c 0 [.d (.int .i64 v0_0)]).modify (Int.toNat v0_1) fun c => splice c 1 [.d (.str y39)]).modify (Int.toNat v0_1) fun c => splice c 2 [.d (.int .i64 (IntKind.wrap .i64 ((IntKind.wrap .i64 (v0_0 + 1)) + 1)))]).modify (Int.toNat v0_1) fun r => r.set 3 (.own y45)).modify (Int.toNat v0_1) fun r => r.set 4 (.own y51)).modify (Int.toNat v0_1) fun r => r.set 5 (.own y57)).modify (Int.toNat v0_1) fun c => splice c 6 [.d (.int .i64 y56)]).modify (Int.toNat v0_1) fun c => splice c 7 [.d (.str y58)]).modify (Int.toNat v0_1) fun c => splice c 8 [.d (.int .i64 (IntKind.wrap .i64 ((IntKind.wrap .i64 (y56 + 1)) + 1)))]).modify (Int.toNat v0_1) fun r => r.set 9 (.own y64)).modify (Int.toNat v0_1) fun r => r.set 10 (.own y70)).modify (Int.toNat v0_1) fun r => r.set 11 (.own y76)).length : Int)) (guardP (Int.toNat v0_1 < ((((((((((((v0_2.modify (Int.toNat v0_1) fun c => splice c 0 [.d (.int .i64 v0_0)]).modify (Int.toNat v0_1) fun c => splice c 1 [.d (.str y39)]).modify (Int.toNat v0_1) fun c => splice c 2 [.d (.int .i64 (IntKind.wrap .i64 ((IntKind.wrap .i64 (v0_0 + 1)) + 1)))]).modify (Int.toNat v0_1) fun r => r.set 3 (.own y45)).modify (Int.toNat v0_1) fun r => r.set 4 (.own y51)).modify (Int.toNat v0_1) fun r => r.set 5 (.own y57)).modify (Int.toNat v0_1) fun c => splice c 6 [.d (.int .i64 y56)]).modify (Int.toNat v0_1) fun c => splice c 7 [.d (.str y58)]).modify (Int.toNat v0_1) fun c => splice c 8 [.d (.int .i64 (IntKind.wrap .i64 ((IntKind.wrap .i64 (y56 + 1)) + 1)))]).modify (Int.toNat v0_1) fun r => r.set 9 (.own y64)).modify (Int.toNat v0_1) fun r => r.set 10 (.own y70)).modify (Int.toNat v0_1) fun r => r.set 11 (.own y76)).length) (L0 (IntKind.wrap .i64 (y75 + 1), IntKind.wrap .i64 (v0_1 + 1), ((((((((((((v0_2.modify (Int.toNat v0_1) fun c => splice c 0 [.d (.int .i64 v0_0)]).modify (Int.toNat v0_1) fun c => splice c 1 [.d (.str y39)]).modify (Int.toNat v0_1) fun c => splice c 2 [.d (.int .i64 (IntKind.wrap .i64 ((IntKind.wrap .i64 (v0_0 + 1)) + 1)))]).modify (Int.toNat v0_1) fun r => r.set 3 (.own y45)).modify (Int.toNat v0_1) fun r => r.set 4 (.own y51)).modify (Int.toNat v0_1) fun r => r.set 5 (.own y57)).modify (Int.toNat v0_1) fun c => splice c 6 [.d (.int .i64 y56)]).modify (Int.toNat v0_1) fun c => splice c 7 [.d (.str y58)]).modify (Int.toNat v0_1) fun c => splice c 8 [.d (.int .i64 (IntKind.wrap .i64 ((IntKind.wrap .i64 (y56 + 1)) + 1)))]).modify (Int.toNat v0_1) fun r => r.set 9 (.own y64)).modify (Int.toNat v0_1) fun r => r.set 10 (.own y70)).modify (Int.toNat v0_1) fun r => r.set 11 (.own y76)).modify (Int.toNat v0_1) fun c => splice c 12 [.d (.bool (((Int.tmod y75 3) : Int) == 0))]))))))))))))))))))))))))))))))) else (K v0_0 v0_2)
noncomputable def laws_markJobS.g {β : Type} (k : Nat) (a0 : List (List C)) (a1 : Int) (K : Int → (List (List C)) → Option β) : Option β :=
  iter (laws_markJobS.l0 k K) k (a1, 0, a0)
noncomputable def laws_markJobS.t (k : Nat) (a0 : List (List C)) (a1 : Int) : Option (Int × (List (List C))) := laws_markJobS.g k a0 a1 (fun z0 z1 => some (z0, z1))
noncomputable def laws_markJobS.f {β : Type} (k : Nat) (a0 : List (List C)) (a1 : Int) (K : Int → (List (List C)) → Option β) : Option β :=
  match laws_markJobS.t k a0 a1 with
  | some (z0, z1) => K z0 z1
  | none => none
noncomputable def laws_markJobS.as (a0 : List (List C)) (a1 : Int) : List A := [.own false [.own a0], .d (.int .i64 a1)]
noncomputable def laws_markJobS.kt {β : Type} (a0 : List (List C)) (a1 : Int) (K0 : List (List C) → List Out → Option β) : Int → (List (List C)) → Option β := fun z0 z1 => K0 [[.d (.int .i64 z0)]] [.own [.own z1]]
noncomputable def laws_markJobS.e (k : Nat) : Entry := { modes := [(.own, 94), (.imm, 0)], rts := [3], al := false, run := fun {β} l K => match l with | [.own false [.own a0], .d (.int .i64 a1)] => laws_markJobS.f k a0 a1 (laws_markJobS.kt a0 a1 K) | _ => none }
noncomputable def laws_markJobS.E (k : Nat) : Env := fun g => bif g == 152 then some (laws_markText.e k) else bif g == 174 then some (laws_markTermS.e k) else bif g == 124 then some (laws_markStringS.e k) else bif g == 175 then some (laws_markWeighS.e k) else bif g == 153 then some (laws_markValueS.e k) else bif g == 176 then some (laws_markOverS.e k) else none
noncomputable def laws_markJobS.h : Hints := ⟨fun n => bif n == 2 then ⟨[(0, .asis), (1, .dat false), (5, .asis)], []⟩ else ⟨[], []⟩, fun _ => none, false, []⟩
noncomputable def laws_markJobS.s0 (v : Int × Int × (List (List C))) : St :=
  match v with
  | (v0_0, v0_1, v0_2) => ⟨[.row 0, .d false (.int .i64 v0_0), .any, .any, .any, .d true (.int .i64 v0_1), .any, .any, .any, .any, .any, .any, .any, .any, .any, .any, .any, .any, .any, .any, .any, .any, .any, .any, .any, .any, .any, .any, .any, .any, .any, .any, .any, .any, .any, .any, .any, .any, .any, .any, .any, .any, .any, .any, .any, .any, .any, .any, .any, .any, .any, .any, .any, .any, .any, .any, .any, .any, .any, .any, .any, .any, .any, .any, .any, .any, .any, .any, .any, .any, .any, .any, .any, .any, .any, .any, .any, .any, .any, .any, .any, .any, .any, .any, .any, .any, .any, .any, .any, .any, .any, .any, .any, .any, .any, .any, .any, .any, .any, .any, .any, .any, .any, .any, .any, .any, .any, .any, .any, .any, .any, .any, .any, .any, .any, .any, .any], [.row (some 0) false 94 v0_2]⟩
noncomputable def laws_markJobS.b0 {β : Type} (k : Nat) : St → (Ex → St → Option β) → Option β := fun s K => den Try.prog (laws_markJobS.E k) laws_markJobS.h.H laws_markJobS.h.J k (codeAt [1, 0, 1, 0, 0] (codeOf Try.f121)) s K
noncomputable def laws_markJobS.c0 {β : Type} (k : Nat) (a0 : List (List C)) (a1 : Int) (K0 : List (List C) → List Out → Option β) : Ex → St → Option β := contAt Try.prog (laws_markJobS.E k) laws_markJobS.h k [1, 0, 1, 0] (codeOf Try.f121) (finDen Try.prog Try.f121 laws_markJobS.h (laws_markJobS.as a0 a1) K0)
theorem laws_markJobS.l0_eq {β : Type} (k : Nat) (a0 : List (List C)) (a1 : Int) (K0 : List (List C) → List Out → Option β) : ∀ (kk : Nat) (v : Int × Int × (List (List C))), loopDen (laws_markJobS.b0 k) (laws_markJobS.h.H 2) kk (laws_markJobS.s0 v) (laws_markJobS.c0 k a0 a1 K0) = iter (laws_markJobS.l0 k (laws_markJobS.kt a0 a1 K0)) kk v :=
  loop_eq (laws_markJobS.s0) _ (fun L0 v => by obtain ⟨v0_0, v0_1, v0_2⟩ := v; kernel_rfl)
noncomputable def laws_markJobS.m {β : Type} (k : Nat) (a0 : List (List C)) (a1 : Int) (K0 : List (List C) → List Out → Option β) (F : ((Int × Int × (List (List C))) → Option β)) : Option β :=
  (F) (a1, 0, a0)
theorem laws_markJobS.f_eq {β : Type} (k : Nat) (a0 : List (List C)) (a1 : Int) (K0 : List (List C) → List Out → Option β) : funDen Try.prog (laws_markJobS.E k) laws_markJobS.h k Try.f121 (laws_markJobS.as a0 a1) K0 = laws_markJobS.g k a0 a1 (laws_markJobS.kt a0 a1 K0) := Eq.trans (b := (laws_markJobS.m k a0 a1 K0) (fun (v : Int × Int × (List (List C))) => loopDen (laws_markJobS.b0 k) (laws_markJobS.h.H 2) k (laws_markJobS.s0 v) (laws_markJobS.c0 k a0 a1 K0))) (by kernel_rfl) (Eq.trans (congrArg (laws_markJobS.m k a0 a1 K0) (funext fun v => laws_markJobS.l0_eq k a0 a1 K0 k v)) (by kernel_rfl))
noncomputable def laws_markJobS.dec (rs : List (List C)) (os : List Out) : Option (Int × (List (List C))) := uncons rs fun c1 r2 => uncons c1 fun x3 l4 => cD x3 fun d5 => dInt .i64 d5 fun w0 => atEnd l4 <| atEnd r2 <| uncons os fun o6 u7 => outOwn o6 fun c8 => uncons c8 fun x9 l10 => cOwn x9 fun w1 => atEnd l10 <| atEnd u7 (some (w0, w1))
theorem laws_markJobS.kt_dec (a0 : List (List C)) (a1 : Int) : laws_markJobS.kt a0 a1 laws_markJobS.dec = (fun z0 z1 => some (z0, z1)) := by kernel_rfl
theorem laws_markJobS.inj (a0 : List (List C)) (a1 : Int) {rs : List (List C)} {os : List Out} {z0 : Int} {z1 : List (List C)} (h : laws_markJobS.dec rs os = some (z0, z1)) (ho : OutShape (laws_markJobS.as a0 a1) os) : rs = [[.d (.int .i64 z0)]] ∧ os = [.own [.own z1]] := by
  unfold laws_markJobS.dec at h
  obtain ⟨c1, r2, rfl, h1⟩ := uncons_some h
  obtain ⟨x3, l4, rfl, h2⟩ := uncons_some h1
  obtain ⟨d5, rfl, h3⟩ := cD_some h2
  obtain ⟨w0, rfl, h4⟩ := dInt_some h3
  obtain ⟨rfl, h5⟩ := atEnd_some h4
  obtain ⟨rfl, h6⟩ := atEnd_some h5
  obtain ⟨o6, u7, rfl, h7⟩ := uncons_some h6
  obtain ⟨c8, rfl, h8⟩ := outOwn_some h7
  obtain ⟨x9, l10, rfl, h9⟩ := uncons_some h8
  obtain ⟨w1, rfl, h10⟩ := cOwn_some h9
  obtain ⟨rfl, h11⟩ := atEnd_some h10
  obtain ⟨rfl, h12⟩ := atEnd_some h11
  simp only [Option.some.injEq, Prod.mk.injEq] at h12
  obtain ⟨rfl, rfl⟩ := h12
  exact ⟨rfl, rfl⟩
theorem laws_markJobS.ok (k : Nat) : EntryOK Try.prog 121 (laws_markJobS.e k) := by
  refine entry_of mix tyok (fn := Try.f121) (c := codeOf Try.f121) Try.func121 (by kernel_rfl) (h := laws_markJobS.h) (k := k) (E := laws_markJobS.E k) (env_cons (laws_markText.ok k) (env_cons (laws_markTermS.ok k) (env_cons (laws_markStringS.ok k) (env_cons (laws_markWeighS.ok k) (env_cons (laws_markValueS.ok k) (env_cons (laws_markOverS.ok k) env_nil)))))) (by kernel_rfl) (by kernel_rfl) rfl (enter_of Try.func121 (by kernel_rfl)) ?_
  intro β l K r hr
  simp only [laws_markJobS.e] at hr
  split at hr
  case h_2 => cases hr
  unfold laws_markJobS.f at hr
  split at hr
  case h_2 => cases hr
  rename_i hz
  exact ⟨_, _, hr, _, laws_markJobS.dec, _, (laws_markJobS.f_eq k _ _ laws_markJobS.dec).trans (by rw [laws_markJobS.kt_dec]; exact hz), fun rs os h ho => laws_markJobS.inj _ _ h ho⟩
noncomputable def laws_markLabelS.l0 {β : Type} (k : Nat) (K : Int → (List (List C)) → Option β) (L0 : (Int × Int × (List (List C))) → Option β) (v : Int × Int × (List (List C))) : Option β :=
  match v with
  | (v0_0, v0_1, v0_2) => bif (decide ((v0_1 : Int) < (v0_2.length : Int))) then (laws_markText.f k v0_0 (fun y3 => guardP ((0 : Int) ≤ v0_1 ∧ v0_1 < (v0_2.length : Int)) (guardP (Int.toNat v0_1 < v0_2.length) (laws_markText.f k (IntKind.wrap .i64 (v0_0 + 1)) (fun y4 => guardP ((0 : Int) ≤ v0_1 ∧ v0_1 < ((v0_2.modify (Int.toNat v0_1) fun c => splice c 0 [.d (.str y3)]).length : Int)) (guardP (Int.toNat v0_1 < (v0_2.modify (Int.toNat v0_1) fun c => splice c 0 [.d (.str y3)]).length) (L0 (IntKind.wrap .i64 ((IntKind.wrap .i64 (v0_0 + 1)) + 1), IntKind.wrap .i64 (v0_1 + 1), (v0_2.modify (Int.toNat v0_1) fun c => splice c 0 [.d (.str y3)]).modify (Int.toNat v0_1) fun c => splice c 1 [.d (.str y4)])))))))) else (K v0_0 v0_2)
noncomputable def laws_markLabelS.g {β : Type} (k : Nat) (a0 : List (List C)) (a1 : Int) (K : Int → (List (List C)) → Option β) : Option β :=
  iter (laws_markLabelS.l0 k K) k (a1, 0, a0)
noncomputable def laws_markLabelS.t (k : Nat) (a0 : List (List C)) (a1 : Int) : Option (Int × (List (List C))) := laws_markLabelS.g k a0 a1 (fun z0 z1 => some (z0, z1))
noncomputable def laws_markLabelS.f {β : Type} (k : Nat) (a0 : List (List C)) (a1 : Int) (K : Int → (List (List C)) → Option β) : Option β :=
  match laws_markLabelS.t k a0 a1 with
  | some (z0, z1) => K z0 z1
  | none => none
noncomputable def laws_markLabelS.as (a0 : List (List C)) (a1 : Int) : List A := [.own false [.own a0], .d (.int .i64 a1)]
noncomputable def laws_markLabelS.kt {β : Type} (a0 : List (List C)) (a1 : Int) (K0 : List (List C) → List Out → Option β) : Int → (List (List C)) → Option β := fun z0 z1 => K0 [[.d (.int .i64 z0)]] [.own [.own z1]]
noncomputable def laws_markLabelS.e (k : Nat) : Entry := { modes := [(.own, 28), (.imm, 0)], rts := [3], al := false, run := fun {β} l K => match l with | [.own false [.own a0], .d (.int .i64 a1)] => laws_markLabelS.f k a0 a1 (laws_markLabelS.kt a0 a1 K) | _ => none }
noncomputable def laws_markLabelS.E (k : Nat) : Env := fun g => bif g == 152 then some (laws_markText.e k) else none
noncomputable def laws_markLabelS.h : Hints := ⟨fun n => bif n == 2 then ⟨[(0, .asis), (1, .dat false), (5, .asis)], []⟩ else ⟨[], []⟩, fun _ => none, false, []⟩
noncomputable def laws_markLabelS.s0 (v : Int × Int × (List (List C))) : St :=
  match v with
  | (v0_0, v0_1, v0_2) => ⟨[.row 0, .d false (.int .i64 v0_0), .any, .any, .any, .d true (.int .i64 v0_1), .any, .any, .any, .any, .any, .any, .any, .any, .any, .any, .any, .any, .any, .any, .any, .any, .any, .any, .any, .any, .any, .any, .any], [.row (some 0) false 28 v0_2]⟩
noncomputable def laws_markLabelS.b0 {β : Type} (k : Nat) : St → (Ex → St → Option β) → Option β := fun s K => den Try.prog (laws_markLabelS.E k) laws_markLabelS.h.H laws_markLabelS.h.J k (codeAt [1, 0, 1, 0, 0] (codeOf Try.f177)) s K
noncomputable def laws_markLabelS.c0 {β : Type} (k : Nat) (a0 : List (List C)) (a1 : Int) (K0 : List (List C) → List Out → Option β) : Ex → St → Option β := contAt Try.prog (laws_markLabelS.E k) laws_markLabelS.h k [1, 0, 1, 0] (codeOf Try.f177) (finDen Try.prog Try.f177 laws_markLabelS.h (laws_markLabelS.as a0 a1) K0)
theorem laws_markLabelS.l0_eq {β : Type} (k : Nat) (a0 : List (List C)) (a1 : Int) (K0 : List (List C) → List Out → Option β) : ∀ (kk : Nat) (v : Int × Int × (List (List C))), loopDen (laws_markLabelS.b0 k) (laws_markLabelS.h.H 2) kk (laws_markLabelS.s0 v) (laws_markLabelS.c0 k a0 a1 K0) = iter (laws_markLabelS.l0 k (laws_markLabelS.kt a0 a1 K0)) kk v :=
  loop_eq (laws_markLabelS.s0) _ (fun L0 v => by obtain ⟨v0_0, v0_1, v0_2⟩ := v; kernel_rfl)
noncomputable def laws_markLabelS.m {β : Type} (k : Nat) (a0 : List (List C)) (a1 : Int) (K0 : List (List C) → List Out → Option β) (F : ((Int × Int × (List (List C))) → Option β)) : Option β :=
  (F) (a1, 0, a0)
theorem laws_markLabelS.f_eq {β : Type} (k : Nat) (a0 : List (List C)) (a1 : Int) (K0 : List (List C) → List Out → Option β) : funDen Try.prog (laws_markLabelS.E k) laws_markLabelS.h k Try.f177 (laws_markLabelS.as a0 a1) K0 = laws_markLabelS.g k a0 a1 (laws_markLabelS.kt a0 a1 K0) := Eq.trans (b := (laws_markLabelS.m k a0 a1 K0) (fun (v : Int × Int × (List (List C))) => loopDen (laws_markLabelS.b0 k) (laws_markLabelS.h.H 2) k (laws_markLabelS.s0 v) (laws_markLabelS.c0 k a0 a1 K0))) (by kernel_rfl) (Eq.trans (congrArg (laws_markLabelS.m k a0 a1 K0) (funext fun v => laws_markLabelS.l0_eq k a0 a1 K0 k v)) (by kernel_rfl))
noncomputable def laws_markLabelS.dec (rs : List (List C)) (os : List Out) : Option (Int × (List (List C))) := uncons rs fun c1 r2 => uncons c1 fun x3 l4 => cD x3 fun d5 => dInt .i64 d5 fun w0 => atEnd l4 <| atEnd r2 <| uncons os fun o6 u7 => outOwn o6 fun c8 => uncons c8 fun x9 l10 => cOwn x9 fun w1 => atEnd l10 <| atEnd u7 (some (w0, w1))
theorem laws_markLabelS.kt_dec (a0 : List (List C)) (a1 : Int) : laws_markLabelS.kt a0 a1 laws_markLabelS.dec = (fun z0 z1 => some (z0, z1)) := by kernel_rfl
theorem laws_markLabelS.inj (a0 : List (List C)) (a1 : Int) {rs : List (List C)} {os : List Out} {z0 : Int} {z1 : List (List C)} (h : laws_markLabelS.dec rs os = some (z0, z1)) (ho : OutShape (laws_markLabelS.as a0 a1) os) : rs = [[.d (.int .i64 z0)]] ∧ os = [.own [.own z1]] := by
  unfold laws_markLabelS.dec at h
  obtain ⟨c1, r2, rfl, h1⟩ := uncons_some h
  obtain ⟨x3, l4, rfl, h2⟩ := uncons_some h1
  obtain ⟨d5, rfl, h3⟩ := cD_some h2
  obtain ⟨w0, rfl, h4⟩ := dInt_some h3
  obtain ⟨rfl, h5⟩ := atEnd_some h4
  obtain ⟨rfl, h6⟩ := atEnd_some h5
  obtain ⟨o6, u7, rfl, h7⟩ := uncons_some h6
  obtain ⟨c8, rfl, h8⟩ := outOwn_some h7
  obtain ⟨x9, l10, rfl, h9⟩ := uncons_some h8
  obtain ⟨w1, rfl, h10⟩ := cOwn_some h9
  obtain ⟨rfl, h11⟩ := atEnd_some h10
  obtain ⟨rfl, h12⟩ := atEnd_some h11
  simp only [Option.some.injEq, Prod.mk.injEq] at h12
  obtain ⟨rfl, rfl⟩ := h12
  exact ⟨rfl, rfl⟩
theorem laws_markLabelS.ok (k : Nat) : EntryOK Try.prog 177 (laws_markLabelS.e k) := by
  refine entry_of mix tyok (fn := Try.f177) (c := codeOf Try.f177) Try.func177 (by kernel_rfl) (h := laws_markLabelS.h) (k := k) (E := laws_markLabelS.E k) (env_cons (laws_markText.ok k) env_nil) (by kernel_rfl) (by kernel_rfl) rfl (enter_of Try.func177 (by kernel_rfl)) ?_
  intro β l K r hr
  simp only [laws_markLabelS.e] at hr
  split at hr
  case h_2 => cases hr
  unfold laws_markLabelS.f at hr
  split at hr
  case h_2 => cases hr
  rename_i hz
  exact ⟨_, _, hr, _, laws_markLabelS.dec, _, (laws_markLabelS.f_eq k _ _ laws_markLabelS.dec).trans (by rw [laws_markLabelS.kt_dec]; exact hz), fun rs os h ho => laws_markLabelS.inj _ _ h ho⟩
noncomputable def laws_markPostS.l0 {β : Type} (k : Nat) (K : Int → (List (List C)) → Option β) (L0 : (Int × Int × (List (List C))) → Option β) (v : Int × Int × (List (List C))) : Option β :=
  match v with
  | (v0_0, v0_1, v0_2) => bif (decide ((v0_1 : Int) < (v0_2.length : Int))) then (laws_markText.f k v0_0 (fun y14 => guardP ((0 : Int) ≤ v0_1 ∧ v0_1 < (v0_2.length : Int)) (guardP (Int.toNat v0_1 < v0_2.length) (guardP ((0 : Int) ≤ v0_1 ∧ v0_1 < ((v0_2.modify (Int.toNat v0_1) fun c => splice c 0 [.d (.str y14)]).length : Int)) (atNat (v0_2.modify (Int.toNat v0_1) fun c => splice c 0 [.d (.str y14)]) (Int.toNat v0_1) fun c15 => uncons (c15.drop 1) fun c16 r17 => cOwn c16 fun y18 => laws_markLabelS.f k y18 (IntKind.wrap .i64 (v0_0 + 1)) (fun y19 y20 => guardP ((0 : Int) ≤ v0_1 ∧ v0_1 < (((v0_2.modify (Int.toNat v0_1) fun c => splice c 0 [.d (.str y14)]).modify (Int.toNat v0_1) fun r => r.set 1 (.own y20)).length : Int)) (atNat ((v0_2.modify (Int.toNat v0_1) fun c => splice c 0 [.d (.str y14)]).modify (Int.toNat v0_1) fun r => r.set 1 (.own y20)) (Int.toNat v0_1) fun c21 => uncons (c21.drop 2) fun c22 r23 => cOwn c22 fun y24 => laws_markStringS.f k y24 y19 (fun y25 y26 => guardP ((0 : Int) ≤ v0_1 ∧ v0_1 < ((((v0_2.modify (Int.toNat v0_1) fun c => splice c 0 [.d (.str y14)]).modify (Int.toNat v0_1) fun r => r.set 1 (.own y20)).modify (Int.toNat v0_1) fun r => r.set 2 (.own y26)).length : Int)) (guardP (Int.toNat v0_1 < (((v0_2.modify (Int.toNat v0_1) fun c => splice c 0 [.d (.str y14)]).modify (Int.toNat v0_1) fun r => r.set 1 (.own y20)).modify (Int.toNat v0_1) fun r => r.set 2 (.own y26)).length) (guardP ((0 : Int) ≤ v0_1 ∧ v0_1 < (((((v0_2.modify (Int.toNat v0_1) fun c => splice c 0 [.d (.str y14)]).modify (Int.toNat v0_1) fun r => r.set 1 (.own y20)).modify (Int.toNat v0_1) fun r => r.set 2 (.own y26)).modify (Int.toNat v0_1) fun c => splice c 3 [.d (.int .i64 y25)]).length : Int)) (guardP (Int.toNat v0_1 < ((((v0_2.modify (Int.toNat v0_1) fun c => splice c 0 [.d (.str y14)]).modify (Int.toNat v0_1) fun r => r.set 1 (.own y20)).modify (Int.toNat v0_1) fun r => r.set 2 (.own y26)).modify (Int.toNat v0_1) fun c => splice c 3 [.d (.int .i64 y25)]).length) (guardP ((0 : Int) ≤ v0_1 ∧ v0_1 < ((((((v0_2.modify (Int.toNat v0_1) fun c => splice c 0 [.d (.str y14)]).modify (Int.toNat v0_1) fun r => r.set 1 (.own y20)).modify (Int.toNat v0_1) fun r => r.set 2 (.own y26)).modify (Int.toNat v0_1) fun c => splice c 3 [.d (.int .i64 y25)]).modify (Int.toNat v0_1) fun c => splice c 4 [.d (.int .i64 (IntKind.wrap .i64 (y25 + 1)))]).length : Int)) (guardP (Int.toNat v0_1 < (((((v0_2.modify (Int.toNat v0_1) fun c => splice c 0 [.d (.str y14)]).modify (Int.toNat v0_1) fun r => r.set 1 (.own y20)).modify (Int.toNat v0_1) fun r => r.set 2 (.own y26)).modify (Int.toNat v0_1) fun c => splice c 3 [.d (.int .i64 y25)]).modify (Int.toNat v0_1) fun c => splice c 4 [.d (.int .i64 (IntKind.wrap .i64 (y25 + 1)))]).length) (L0 (IntKind.wrap .i64 ((IntKind.wrap .i64 ((IntKind.wrap .i64 (y25 + 1)) + 1)) + 1), IntKind.wrap .i64 (v0_1 + 1), (((((v0_2.modify (Int.toNat v0_1) fun c => splice c 0 [.d (.str y14)]).modify (Int.toNat v0_1) fun r => r.set 1 (.own y20)).modify (Int.toNat v0_1) fun r => r.set 2 (.own y26)).modify (Int.toNat v0_1) fun c => splice c 3 [.d (.int .i64 y25)]).modify (Int.toNat v0_1) fun c => splice c 4 [.d (.int .i64 (IntKind.wrap .i64 (y25 + 1)))]).modify (Int.toNat v0_1) fun c => splice c 5 [.d (.int .i64 (IntKind.wrap .i64 ((IntKind.wrap .i64 (y25 + 1)) + 1)))]))))))))))))))) else (K v0_0 v0_2)
noncomputable def laws_markPostS.g {β : Type} (k : Nat) (a0 : List (List C)) (a1 : Int) (K : Int → (List (List C)) → Option β) : Option β :=
  iter (laws_markPostS.l0 k K) k (a1, 0, a0)
noncomputable def laws_markPostS.t (k : Nat) (a0 : List (List C)) (a1 : Int) : Option (Int × (List (List C))) := laws_markPostS.g k a0 a1 (fun z0 z1 => some (z0, z1))
noncomputable def laws_markPostS.f {β : Type} (k : Nat) (a0 : List (List C)) (a1 : Int) (K : Int → (List (List C)) → Option β) : Option β :=
  match laws_markPostS.t k a0 a1 with
  | some (z0, z1) => K z0 z1
  | none => none
noncomputable def laws_markPostS.as (a0 : List (List C)) (a1 : Int) : List A := [.own false [.own a0], .d (.int .i64 a1)]
noncomputable def laws_markPostS.kt {β : Type} (a0 : List (List C)) (a1 : Int) (K0 : List (List C) → List Out → Option β) : Int → (List (List C)) → Option β := fun z0 z1 => K0 [[.d (.int .i64 z0)]] [.own [.own z1]]
noncomputable def laws_markPostS.e (k : Nat) : Entry := { modes := [(.own, 95), (.imm, 0)], rts := [3], al := false, run := fun {β} l K => match l with | [.own false [.own a0], .d (.int .i64 a1)] => laws_markPostS.f k a0 a1 (laws_markPostS.kt a0 a1 K) | _ => none }
noncomputable def laws_markPostS.E (k : Nat) : Env := fun g => bif g == 152 then some (laws_markText.e k) else bif g == 177 then some (laws_markLabelS.e k) else bif g == 124 then some (laws_markStringS.e k) else none
noncomputable def laws_markPostS.h : Hints := ⟨fun n => bif n == 2 then ⟨[(0, .asis), (1, .dat false), (5, .asis)], []⟩ else ⟨[], []⟩, fun _ => none, false, []⟩
noncomputable def laws_markPostS.s0 (v : Int × Int × (List (List C))) : St :=
  match v with
  | (v0_0, v0_1, v0_2) => ⟨[.row 0, .d false (.int .i64 v0_0), .any, .any, .any, .d true (.int .i64 v0_1), .any, .any, .any, .any, .any, .any, .any, .any, .any, .any, .any, .any, .any, .any, .any, .any, .any, .any, .any, .any, .any, .any, .any, .any, .any, .any, .any, .any, .any, .any, .any, .any, .any, .any, .any, .any, .any, .any, .any, .any, .any, .any, .any, .any, .any, .any, .any, .any, .any, .any, .any, .any, .any, .any], [.row (some 0) false 95 v0_2]⟩
noncomputable def laws_markPostS.b0 {β : Type} (k : Nat) : St → (Ex → St → Option β) → Option β := fun s K => den Try.prog (laws_markPostS.E k) laws_markPostS.h.H laws_markPostS.h.J k (codeAt [1, 0, 1, 0, 0] (codeOf Try.f122)) s K
noncomputable def laws_markPostS.c0 {β : Type} (k : Nat) (a0 : List (List C)) (a1 : Int) (K0 : List (List C) → List Out → Option β) : Ex → St → Option β := contAt Try.prog (laws_markPostS.E k) laws_markPostS.h k [1, 0, 1, 0] (codeOf Try.f122) (finDen Try.prog Try.f122 laws_markPostS.h (laws_markPostS.as a0 a1) K0)
theorem laws_markPostS.l0_eq {β : Type} (k : Nat) (a0 : List (List C)) (a1 : Int) (K0 : List (List C) → List Out → Option β) : ∀ (kk : Nat) (v : Int × Int × (List (List C))), loopDen (laws_markPostS.b0 k) (laws_markPostS.h.H 2) kk (laws_markPostS.s0 v) (laws_markPostS.c0 k a0 a1 K0) = iter (laws_markPostS.l0 k (laws_markPostS.kt a0 a1 K0)) kk v :=
  loop_eq (laws_markPostS.s0) _ (fun L0 v => by obtain ⟨v0_0, v0_1, v0_2⟩ := v; kernel_rfl)
noncomputable def laws_markPostS.m {β : Type} (k : Nat) (a0 : List (List C)) (a1 : Int) (K0 : List (List C) → List Out → Option β) (F : ((Int × Int × (List (List C))) → Option β)) : Option β :=
  (F) (a1, 0, a0)
theorem laws_markPostS.f_eq {β : Type} (k : Nat) (a0 : List (List C)) (a1 : Int) (K0 : List (List C) → List Out → Option β) : funDen Try.prog (laws_markPostS.E k) laws_markPostS.h k Try.f122 (laws_markPostS.as a0 a1) K0 = laws_markPostS.g k a0 a1 (laws_markPostS.kt a0 a1 K0) := Eq.trans (b := (laws_markPostS.m k a0 a1 K0) (fun (v : Int × Int × (List (List C))) => loopDen (laws_markPostS.b0 k) (laws_markPostS.h.H 2) k (laws_markPostS.s0 v) (laws_markPostS.c0 k a0 a1 K0))) (by kernel_rfl) (Eq.trans (congrArg (laws_markPostS.m k a0 a1 K0) (funext fun v => laws_markPostS.l0_eq k a0 a1 K0 k v)) (by kernel_rfl))
noncomputable def laws_markPostS.dec (rs : List (List C)) (os : List Out) : Option (Int × (List (List C))) := uncons rs fun c1 r2 => uncons c1 fun x3 l4 => cD x3 fun d5 => dInt .i64 d5 fun w0 => atEnd l4 <| atEnd r2 <| uncons os fun o6 u7 => outOwn o6 fun c8 => uncons c8 fun x9 l10 => cOwn x9 fun w1 => atEnd l10 <| atEnd u7 (some (w0, w1))
theorem laws_markPostS.kt_dec (a0 : List (List C)) (a1 : Int) : laws_markPostS.kt a0 a1 laws_markPostS.dec = (fun z0 z1 => some (z0, z1)) := by kernel_rfl
theorem laws_markPostS.inj (a0 : List (List C)) (a1 : Int) {rs : List (List C)} {os : List Out} {z0 : Int} {z1 : List (List C)} (h : laws_markPostS.dec rs os = some (z0, z1)) (ho : OutShape (laws_markPostS.as a0 a1) os) : rs = [[.d (.int .i64 z0)]] ∧ os = [.own [.own z1]] := by
  unfold laws_markPostS.dec at h
  obtain ⟨c1, r2, rfl, h1⟩ := uncons_some h
  obtain ⟨x3, l4, rfl, h2⟩ := uncons_some h1
  obtain ⟨d5, rfl, h3⟩ := cD_some h2
  obtain ⟨w0, rfl, h4⟩ := dInt_some h3
  obtain ⟨rfl, h5⟩ := atEnd_some h4
  obtain ⟨rfl, h6⟩ := atEnd_some h5
  obtain ⟨o6, u7, rfl, h7⟩ := uncons_some h6
  obtain ⟨c8, rfl, h8⟩ := outOwn_some h7
  obtain ⟨x9, l10, rfl, h9⟩ := uncons_some h8
  obtain ⟨w1, rfl, h10⟩ := cOwn_some h9
  obtain ⟨rfl, h11⟩ := atEnd_some h10
  obtain ⟨rfl, h12⟩ := atEnd_some h11
  simp only [Option.some.injEq, Prod.mk.injEq] at h12
  obtain ⟨rfl, rfl⟩ := h12
  exact ⟨rfl, rfl⟩
theorem laws_markPostS.ok (k : Nat) : EntryOK Try.prog 122 (laws_markPostS.e k) := by
  refine entry_of mix tyok (fn := Try.f122) (c := codeOf Try.f122) Try.func122 (by kernel_rfl) (h := laws_markPostS.h) (k := k) (E := laws_markPostS.E k) (env_cons (laws_markText.ok k) (env_cons (laws_markLabelS.ok k) (env_cons (laws_markStringS.ok k) env_nil))) (by kernel_rfl) (by kernel_rfl) rfl (enter_of Try.func122 (by kernel_rfl)) ?_
  intro β l K r hr
  simp only [laws_markPostS.e] at hr
  split at hr
  case h_2 => cases hr
  unfold laws_markPostS.f at hr
  split at hr
  case h_2 => cases hr
  rename_i hz
  exact ⟨_, _, hr, _, laws_markPostS.dec, _, (laws_markPostS.f_eq k _ _ laws_markPostS.dec).trans (by rw [laws_markPostS.kt_dec]; exact hz), fun rs os h ho => laws_markPostS.inj _ _ h ho⟩
noncomputable def laws_markHoldS.l0 {β : Type} (k : Nat) (K : Int → (List (List C)) → Option β) (L0 : (Int × Int × (List (List C))) → Option β) (v : Int × Int × (List (List C))) : Option β :=
  match v with
  | (v0_0, v0_1, v0_2) => bif (decide ((v0_1 : Int) < (v0_2.length : Int))) then (guardP ((0 : Int) ≤ v0_1 ∧ v0_1 < (v0_2.length : Int)) (guardP (Int.toNat v0_1 < v0_2.length) (laws_markText.f k (IntKind.wrap .i64 (v0_0 + 1)) (fun y2 => guardP ((0 : Int) ≤ v0_1 ∧ v0_1 < ((v0_2.modify (Int.toNat v0_1) fun c => splice c 0 [.d (.int .i64 v0_0)]).length : Int)) (guardP (Int.toNat v0_1 < (v0_2.modify (Int.toNat v0_1) fun c => splice c 0 [.d (.int .i64 v0_0)]).length) (guardP ((0 : Int) ≤ v0_1 ∧ v0_1 < (((v0_2.modify (Int.toNat v0_1) fun c => splice c 0 [.d (.int .i64 v0_0)]).modify (Int.toNat v0_1) fun c => splice c 1 [.d (.str y2)]).length : Int)) (guardP (Int.toNat v0_1 < ((v0_2.modify (Int.toNat v0_1) fun c => splice c 0 [.d (.int .i64 v0_0)]).modify (Int.toNat v0_1) fun c => splice c 1 [.d (.str y2)]).length) (guardP ((0 : Int) ≤ v0_1 ∧ v0_1 < ((((v0_2.modify (Int.toNat v0_1) fun c => splice c 0 [.d (.int .i64 v0_0)]).modify (Int.toNat v0_1) fun c => splice c 1 [.d (.str y2)]).modify (Int.toNat v0_1) fun c => splice c 2 [.d (.int .i64 (IntKind.wrap .i64 ((IntKind.wrap .i64 (v0_0 + 1)) + 1)))]).length : Int)) (guardP (Int.toNat v0_1 < (((v0_2.modify (Int.toNat v0_1) fun c => splice c 0 [.d (.int .i64 v0_0)]).modify (Int.toNat v0_1) fun c => splice c 1 [.d (.str y2)]).modify (Int.toNat v0_1) fun c => splice c 2 [.d (.int .i64 (IntKind.wrap .i64 ((IntKind.wrap .i64 (v0_0 + 1)) + 1)))]).length) (guardP ((0 : Int) ≤ v0_1 ∧ v0_1 < (((((v0_2.modify (Int.toNat v0_1) fun c => splice c 0 [.d (.int .i64 v0_0)]).modify (Int.toNat v0_1) fun c => splice c 1 [.d (.str y2)]).modify (Int.toNat v0_1) fun c => splice c 2 [.d (.int .i64 (IntKind.wrap .i64 ((IntKind.wrap .i64 (v0_0 + 1)) + 1)))]).modify (Int.toNat v0_1) fun c => splice c 3 [.d (.int .i64 (IntKind.wrap .i64 ((IntKind.wrap .i64 ((IntKind.wrap .i64 (v0_0 + 1)) + 1)) + 1)))]).length : Int)) (guardP (Int.toNat v0_1 < ((((v0_2.modify (Int.toNat v0_1) fun c => splice c 0 [.d (.int .i64 v0_0)]).modify (Int.toNat v0_1) fun c => splice c 1 [.d (.str y2)]).modify (Int.toNat v0_1) fun c => splice c 2 [.d (.int .i64 (IntKind.wrap .i64 ((IntKind.wrap .i64 (v0_0 + 1)) + 1)))]).modify (Int.toNat v0_1) fun c => splice c 3 [.d (.int .i64 (IntKind.wrap .i64 ((IntKind.wrap .i64 ((IntKind.wrap .i64 (v0_0 + 1)) + 1)) + 1)))]).length) (L0 (IntKind.wrap .i64 ((IntKind.wrap .i64 ((IntKind.wrap .i64 ((IntKind.wrap .i64 ((IntKind.wrap .i64 (v0_0 + 1)) + 1)) + 1)) + 1)) + 1), IntKind.wrap .i64 (v0_1 + 1), ((((v0_2.modify (Int.toNat v0_1) fun c => splice c 0 [.d (.int .i64 v0_0)]).modify (Int.toNat v0_1) fun c => splice c 1 [.d (.str y2)]).modify (Int.toNat v0_1) fun c => splice c 2 [.d (.int .i64 (IntKind.wrap .i64 ((IntKind.wrap .i64 (v0_0 + 1)) + 1)))]).modify (Int.toNat v0_1) fun c => splice c 3 [.d (.int .i64 (IntKind.wrap .i64 ((IntKind.wrap .i64 ((IntKind.wrap .i64 (v0_0 + 1)) + 1)) + 1)))]).modify (Int.toNat v0_1) fun c => splice c 4 [.d (.int .i64 (IntKind.wrap .i64 ((IntKind.wrap .i64 ((IntKind.wrap .i64 ((IntKind.wrap .i64 (v0_0 + 1)) + 1)) + 1)) + 1)))]))))))))))))) else (K v0_0 v0_2)
noncomputable def laws_markHoldS.g {β : Type} (k : Nat) (a0 : List (List C)) (a1 : Int) (K : Int → (List (List C)) → Option β) : Option β :=
  iter (laws_markHoldS.l0 k K) k (a1, 0, a0)
noncomputable def laws_markHoldS.t (k : Nat) (a0 : List (List C)) (a1 : Int) : Option (Int × (List (List C))) := laws_markHoldS.g k a0 a1 (fun z0 z1 => some (z0, z1))
noncomputable def laws_markHoldS.f {β : Type} (k : Nat) (a0 : List (List C)) (a1 : Int) (K : Int → (List (List C)) → Option β) : Option β :=
  match laws_markHoldS.t k a0 a1 with
  | some (z0, z1) => K z0 z1
  | none => none
noncomputable def laws_markHoldS.as (a0 : List (List C)) (a1 : Int) : List A := [.own false [.own a0], .d (.int .i64 a1)]
noncomputable def laws_markHoldS.kt {β : Type} (a0 : List (List C)) (a1 : Int) (K0 : List (List C) → List Out → Option β) : Int → (List (List C)) → Option β := fun z0 z1 => K0 [[.d (.int .i64 z0)]] [.own [.own z1]]
noncomputable def laws_markHoldS.e (k : Nat) : Entry := { modes := [(.own, 96), (.imm, 0)], rts := [3], al := false, run := fun {β} l K => match l with | [.own false [.own a0], .d (.int .i64 a1)] => laws_markHoldS.f k a0 a1 (laws_markHoldS.kt a0 a1 K) | _ => none }
noncomputable def laws_markHoldS.E (k : Nat) : Env := fun g => bif g == 152 then some (laws_markText.e k) else none
noncomputable def laws_markHoldS.h : Hints := ⟨fun n => bif n == 2 then ⟨[(0, .asis), (1, .dat false), (5, .asis)], []⟩ else ⟨[], []⟩, fun _ => none, false, []⟩
noncomputable def laws_markHoldS.s0 (v : Int × Int × (List (List C))) : St :=
  match v with
  | (v0_0, v0_1, v0_2) => ⟨[.row 0, .d false (.int .i64 v0_0), .any, .any, .any, .d true (.int .i64 v0_1), .any, .any, .any, .any, .any, .any, .any, .any, .any, .any, .any, .any, .any, .any, .any, .any, .any, .any, .any, .any, .any, .any, .any, .any, .any, .any, .any, .any, .any, .any, .any, .any, .any, .any, .any, .any, .any, .any, .any, .any, .any, .any, .any], [.row (some 0) false 96 v0_2]⟩
noncomputable def laws_markHoldS.b0 {β : Type} (k : Nat) : St → (Ex → St → Option β) → Option β := fun s K => den Try.prog (laws_markHoldS.E k) laws_markHoldS.h.H laws_markHoldS.h.J k (codeAt [1, 0, 1, 0, 0] (codeOf Try.f123)) s K
noncomputable def laws_markHoldS.c0 {β : Type} (k : Nat) (a0 : List (List C)) (a1 : Int) (K0 : List (List C) → List Out → Option β) : Ex → St → Option β := contAt Try.prog (laws_markHoldS.E k) laws_markHoldS.h k [1, 0, 1, 0] (codeOf Try.f123) (finDen Try.prog Try.f123 laws_markHoldS.h (laws_markHoldS.as a0 a1) K0)
theorem laws_markHoldS.l0_eq {β : Type} (k : Nat) (a0 : List (List C)) (a1 : Int) (K0 : List (List C) → List Out → Option β) : ∀ (kk : Nat) (v : Int × Int × (List (List C))), loopDen (laws_markHoldS.b0 k) (laws_markHoldS.h.H 2) kk (laws_markHoldS.s0 v) (laws_markHoldS.c0 k a0 a1 K0) = iter (laws_markHoldS.l0 k (laws_markHoldS.kt a0 a1 K0)) kk v :=
  loop_eq (laws_markHoldS.s0) _ (fun L0 v => by obtain ⟨v0_0, v0_1, v0_2⟩ := v; kernel_rfl)
noncomputable def laws_markHoldS.m {β : Type} (k : Nat) (a0 : List (List C)) (a1 : Int) (K0 : List (List C) → List Out → Option β) (F : ((Int × Int × (List (List C))) → Option β)) : Option β :=
  (F) (a1, 0, a0)
theorem laws_markHoldS.f_eq {β : Type} (k : Nat) (a0 : List (List C)) (a1 : Int) (K0 : List (List C) → List Out → Option β) : funDen Try.prog (laws_markHoldS.E k) laws_markHoldS.h k Try.f123 (laws_markHoldS.as a0 a1) K0 = laws_markHoldS.g k a0 a1 (laws_markHoldS.kt a0 a1 K0) := Eq.trans (b := (laws_markHoldS.m k a0 a1 K0) (fun (v : Int × Int × (List (List C))) => loopDen (laws_markHoldS.b0 k) (laws_markHoldS.h.H 2) k (laws_markHoldS.s0 v) (laws_markHoldS.c0 k a0 a1 K0))) (by kernel_rfl) (Eq.trans (congrArg (laws_markHoldS.m k a0 a1 K0) (funext fun v => laws_markHoldS.l0_eq k a0 a1 K0 k v)) (by kernel_rfl))
noncomputable def laws_markHoldS.dec (rs : List (List C)) (os : List Out) : Option (Int × (List (List C))) := uncons rs fun c1 r2 => uncons c1 fun x3 l4 => cD x3 fun d5 => dInt .i64 d5 fun w0 => atEnd l4 <| atEnd r2 <| uncons os fun o6 u7 => outOwn o6 fun c8 => uncons c8 fun x9 l10 => cOwn x9 fun w1 => atEnd l10 <| atEnd u7 (some (w0, w1))
theorem laws_markHoldS.kt_dec (a0 : List (List C)) (a1 : Int) : laws_markHoldS.kt a0 a1 laws_markHoldS.dec = (fun z0 z1 => some (z0, z1)) := by kernel_rfl
theorem laws_markHoldS.inj (a0 : List (List C)) (a1 : Int) {rs : List (List C)} {os : List Out} {z0 : Int} {z1 : List (List C)} (h : laws_markHoldS.dec rs os = some (z0, z1)) (ho : OutShape (laws_markHoldS.as a0 a1) os) : rs = [[.d (.int .i64 z0)]] ∧ os = [.own [.own z1]] := by
  unfold laws_markHoldS.dec at h
  obtain ⟨c1, r2, rfl, h1⟩ := uncons_some h
  obtain ⟨x3, l4, rfl, h2⟩ := uncons_some h1
  obtain ⟨d5, rfl, h3⟩ := cD_some h2
  obtain ⟨w0, rfl, h4⟩ := dInt_some h3
  obtain ⟨rfl, h5⟩ := atEnd_some h4
  obtain ⟨rfl, h6⟩ := atEnd_some h5
  obtain ⟨o6, u7, rfl, h7⟩ := uncons_some h6
  obtain ⟨c8, rfl, h8⟩ := outOwn_some h7
  obtain ⟨x9, l10, rfl, h9⟩ := uncons_some h8
  obtain ⟨w1, rfl, h10⟩ := cOwn_some h9
  obtain ⟨rfl, h11⟩ := atEnd_some h10
  obtain ⟨rfl, h12⟩ := atEnd_some h11
  simp only [Option.some.injEq, Prod.mk.injEq] at h12
  obtain ⟨rfl, rfl⟩ := h12
  exact ⟨rfl, rfl⟩
theorem laws_markHoldS.ok (k : Nat) : EntryOK Try.prog 123 (laws_markHoldS.e k) := by
  refine entry_of mix tyok (fn := Try.f123) (c := codeOf Try.f123) Try.func123 (by kernel_rfl) (h := laws_markHoldS.h) (k := k) (E := laws_markHoldS.E k) (env_cons (laws_markText.ok k) env_nil) (by kernel_rfl) (by kernel_rfl) rfl (enter_of Try.func123 (by kernel_rfl)) ?_
  intro β l K r hr
  simp only [laws_markHoldS.e] at hr
  split at hr
  case h_2 => cases hr
  unfold laws_markHoldS.f at hr
  split at hr
  case h_2 => cases hr
  rename_i hz
  exact ⟨_, _, hr, _, laws_markHoldS.dec, _, (laws_markHoldS.f_eq k _ _ laws_markHoldS.dec).trans (by rw [laws_markHoldS.kt_dec]; exact hz), fun rs os h ho => laws_markHoldS.inj _ _ h ho⟩
noncomputable def laws_markHub.g {β : Type} (k : Nat) (a0_0 : Int) (a0_1 : Int) (a0_2 : Int) (a0_3 : List (List C)) (a0_4 : List (List C)) (a0_5 : List (List C)) (a0_6 : List (List C)) (a1 : Int) (K : Int → (List (List C)) → (List (List C)) → (List (List C)) → (List (List C)) → Option β) : Option β :=
  laws_markJobS.f k a0_3 a1 (fun y77 y78 => guardP (y78.length = a0_3.length) (laws_markPostS.f k a0_4 y77 (fun y79 y80 => guardP (y80.length = a0_4.length) (laws_markHoldS.f k a0_5 y79 (fun y81 y82 => guardP (y82.length = a0_5.length) (laws_markStringS.f k a0_6 y81 (fun y83 y84 => guardP (y84.length = a0_6.length) (K y83 y78 y80 y82 y84))))))))
noncomputable def laws_markHub.t (k : Nat) (a0_0 : Int) (a0_1 : Int) (a0_2 : Int) (a0_3 : List (List C)) (a0_4 : List (List C)) (a0_5 : List (List C)) (a0_6 : List (List C)) (a1 : Int) : Option (Int × (List (List C)) × (List (List C)) × (List (List C)) × (List (List C))) := laws_markHub.g k a0_0 a0_1 a0_2 a0_3 a0_4 a0_5 a0_6 a1 (fun z0 z1 z2 z3 z4 => some (z0, z1, z2, z3, z4))
noncomputable def laws_markHub.f {β : Type} (k : Nat) (a0_0 : Int) (a0_1 : Int) (a0_2 : Int) (a0_3 : List (List C)) (a0_4 : List (List C)) (a0_5 : List (List C)) (a0_6 : List (List C)) (a1 : Int) (K : Int → (List (List C)) → (List (List C)) → (List (List C)) → (List (List C)) → Option β) : Option β :=
  match laws_markHub.t k a0_0 a0_1 a0_2 a0_3 a0_4 a0_5 a0_6 a1 with
  | some (z0, z1, z2, z3, z4) => K z0 z1 z2 z3 z4
  | none => none
noncomputable def laws_markHub.as (a0_0 : Int) (a0_1 : Int) (a0_2 : Int) (a0_3 : List (List C)) (a0_4 : List (List C)) (a0_5 : List (List C)) (a0_6 : List (List C)) (a1 : Int) : List A := [.own true [.d (.int .i64 a0_0), .d (.int .i64 a0_1), .d (.int .i64 a0_2), .own a0_3, .own a0_4, .own a0_5, .own a0_6], .d (.int .i64 a1)]
noncomputable def laws_markHub.kt {β : Type} (a0_0 : Int) (a0_1 : Int) (a0_2 : Int) (a0_3 : List (List C)) (a0_4 : List (List C)) (a0_5 : List (List C)) (a0_6 : List (List C)) (a1 : Int) (K0 : List (List C) → List Out → Option β) : Int → (List (List C)) → (List (List C)) → (List (List C)) → (List (List C)) → Option β := fun z0 z1 z2 z3 z4 => K0 [[.d (.int .i64 z0)]] [.own [.d (.int .i64 a0_0), .d (.int .i64 a0_1), .d (.int .i64 a0_2), .own z1, .own z2, .own z3, .own z4]]
noncomputable def laws_markHub.e (k : Nat) : Entry := { modes := [(.own, 98), (.imm, 0)], rts := [3], al := false, run := fun {β} l K => match l with | [.own true [.d (.int .i64 a0_0), .d (.int .i64 a0_1), .d (.int .i64 a0_2), .own a0_3, .own a0_4, .own a0_5, .own a0_6], .d (.int .i64 a1)] => laws_markHub.f k a0_0 a0_1 a0_2 a0_3 a0_4 a0_5 a0_6 a1 (laws_markHub.kt a0_0 a0_1 a0_2 a0_3 a0_4 a0_5 a0_6 a1 K) | _ => none }
noncomputable def laws_markHub.E (k : Nat) : Env := fun g => bif g == 121 then some (laws_markJobS.e k) else bif g == 122 then some (laws_markPostS.e k) else bif g == 123 then some (laws_markHoldS.e k) else bif g == 124 then some (laws_markStringS.e k) else none
noncomputable def laws_markHub.h : Hints := ⟨fun n => ⟨[], []⟩, fun _ => none, false, []⟩
theorem laws_markHub.f_eq {β : Type} (k : Nat) (a0_0 : Int) (a0_1 : Int) (a0_2 : Int) (a0_3 : List (List C)) (a0_4 : List (List C)) (a0_5 : List (List C)) (a0_6 : List (List C)) (a1 : Int) (K0 : List (List C) → List Out → Option β) : funDen Try.prog (laws_markHub.E k) laws_markHub.h k Try.f58 (laws_markHub.as a0_0 a0_1 a0_2 a0_3 a0_4 a0_5 a0_6 a1) K0 = laws_markHub.g k a0_0 a0_1 a0_2 a0_3 a0_4 a0_5 a0_6 a1 (laws_markHub.kt a0_0 a0_1 a0_2 a0_3 a0_4 a0_5 a0_6 a1 K0) := by kernel_rfl
noncomputable def laws_markHub.dec (rs : List (List C)) (os : List Out) : Option (Int × (List (List C)) × (List (List C)) × (List (List C)) × (List (List C))) := uncons rs fun c1 r2 => uncons c1 fun x3 l4 => cD x3 fun d5 => dInt .i64 d5 fun w0 => atEnd l4 <| atEnd r2 <| uncons os fun o6 u7 => outOwn o6 fun c8 => uncons c8 fun x9 l10 => uncons l10 fun x11 l12 => uncons l12 fun x13 l14 => uncons l14 fun x15 l16 => cOwn x15 fun w1 => uncons l16 fun x17 l18 => cOwn x17 fun w2 => uncons l18 fun x19 l20 => cOwn x19 fun w3 => uncons l20 fun x21 l22 => cOwn x21 fun w4 => atEnd l22 <| atEnd u7 (some (w0, w1, w2, w3, w4))
theorem laws_markHub.kt_dec (a0_0 : Int) (a0_1 : Int) (a0_2 : Int) (a0_3 : List (List C)) (a0_4 : List (List C)) (a0_5 : List (List C)) (a0_6 : List (List C)) (a1 : Int) : laws_markHub.kt a0_0 a0_1 a0_2 a0_3 a0_4 a0_5 a0_6 a1 laws_markHub.dec = (fun z0 z1 z2 z3 z4 => some (z0, z1, z2, z3, z4)) := by kernel_rfl
theorem laws_markHub.inj (a0_0 : Int) (a0_1 : Int) (a0_2 : Int) (a0_3 : List (List C)) (a0_4 : List (List C)) (a0_5 : List (List C)) (a0_6 : List (List C)) (a1 : Int) {rs : List (List C)} {os : List Out} {z0 : Int} {z1 : List (List C)} {z2 : List (List C)} {z3 : List (List C)} {z4 : List (List C)} (h : laws_markHub.dec rs os = some (z0, z1, z2, z3, z4)) (ho : OutShape (laws_markHub.as a0_0 a0_1 a0_2 a0_3 a0_4 a0_5 a0_6 a1) os) : rs = [[.d (.int .i64 z0)]] ∧ os = [.own [.d (.int .i64 a0_0), .d (.int .i64 a0_1), .d (.int .i64 a0_2), .own z1, .own z2, .own z3, .own z4]] := by
  unfold laws_markHub.dec at h
  obtain ⟨c1, r2, rfl, h1⟩ := uncons_some h
  obtain ⟨x3, l4, rfl, h2⟩ := uncons_some h1
  obtain ⟨d5, rfl, h3⟩ := cD_some h2
  obtain ⟨w0, rfl, h4⟩ := dInt_some h3
  obtain ⟨rfl, h5⟩ := atEnd_some h4
  obtain ⟨rfl, h6⟩ := atEnd_some h5
  obtain ⟨o6, u7, rfl, h7⟩ := uncons_some h6
  obtain ⟨c8, rfl, h8⟩ := outOwn_some h7
  obtain ⟨x9, l10, rfl, h9⟩ := uncons_some h8
  obtain ⟨x11, l12, rfl, h10⟩ := uncons_some h9
  obtain ⟨x13, l14, rfl, h11⟩ := uncons_some h10
  obtain ⟨x15, l16, rfl, h12⟩ := uncons_some h11
  obtain ⟨w1, rfl, h13⟩ := cOwn_some h12
  obtain ⟨x17, l18, rfl, h14⟩ := uncons_some h13
  obtain ⟨w2, rfl, h15⟩ := cOwn_some h14
  obtain ⟨x19, l20, rfl, h16⟩ := uncons_some h15
  obtain ⟨w3, rfl, h17⟩ := cOwn_some h16
  obtain ⟨x21, l22, rfl, h18⟩ := uncons_some h17
  obtain ⟨w4, rfl, h19⟩ := cOwn_some h18
  obtain ⟨rfl, h20⟩ := atEnd_some h19
  obtain ⟨rfl, h21⟩ := atEnd_some h20
  simp only [Option.some.injEq, Prod.mk.injEq] at h21
  obtain ⟨rfl, rfl, rfl, rfl, rfl⟩ := h21
  simp only [laws_markHub.as, OutShape] at ho
  obtain ⟨cs0, os0, e0, _, hs0, ho⟩ := ho
  injection e0 with e0 f0
  injection e0 with e0
  subst e0
  subst f0
  have hc := hs0 0 _ rfl
  simp at hc
  subst hc
  have hc := hs0 1 _ rfl
  simp at hc
  subst hc
  have hc := hs0 2 _ rfl
  simp at hc
  subst hc
  exact ⟨rfl, rfl⟩
theorem laws_markHub.ok (k : Nat) : EntryOK Try.prog 58 (laws_markHub.e k) := by
  refine entry_of mix tyok (fn := Try.f58) (c := codeOf Try.f58) Try.func58 (by kernel_rfl) (h := laws_markHub.h) (k := k) (E := laws_markHub.E k) (env_cons (laws_markJobS.ok k) (env_cons (laws_markPostS.ok k) (env_cons (laws_markHoldS.ok k) (env_cons (laws_markStringS.ok k) env_nil)))) (by kernel_rfl) (by kernel_rfl) rfl (enter_of Try.func58 (by kernel_rfl)) ?_
  intro β l K r hr
  simp only [laws_markHub.e] at hr
  split at hr
  case h_2 => cases hr
  unfold laws_markHub.f at hr
  split at hr
  case h_2 => cases hr
  rename_i hz
  exact ⟨_, _, hr, _, laws_markHub.dec, _, (laws_markHub.f_eq k _ _ _ _ _ _ _ _ laws_markHub.dec).trans (by rw [laws_markHub.kt_dec]; exact hz), fun rs os h ho => laws_markHub.inj _ _ _ _ _ _ _ _ h ho⟩
noncomputable def laws_heldStringS.l0 {β : Type} (k : Nat) (v0_0 : List (List D)) (K : Int → Option β) (L0 : (Int × Int) → Option β) (v : Int × Int) : Option β :=
  match v with
  | (v0_1, v0_2) => bif (decide ((v0_2 : Int) < (v0_0.length : Int))) then (atRow v0_0 v0_2 fun c6 => uncons c6 fun d7 r8 => dStr d7 fun x9 => atEnd r8 (laws_markText.f k v0_1 (fun y10 => bif (!(strEq x9 y10)) then (K (-1)) else (L0 (IntKind.wrap .i64 (v0_1 + 1), IntKind.wrap .i64 (v0_2 + 1)))))) else (K v0_1)
noncomputable def laws_heldStringS.g {β : Type} (k : Nat) (a0 : List (List D)) (a1 : Int) (K : Int → Option β) : Option β :=
  iter (laws_heldStringS.l0 k a0 K) k (a1, 0)
noncomputable def laws_heldStringS.t (k : Nat) (a0 : List (List D)) (a1 : Int) : Option (Int) := laws_heldStringS.g k a0 a1 (fun z0 => some z0)
noncomputable def laws_heldStringS.f {β : Type} (k : Nat) (a0 : List (List D)) (a1 : Int) (K : Int → Option β) : Option β :=
  match laws_heldStringS.t k a0 a1 with
  | some z0 => K z0
  | none => none
noncomputable def laws_heldStringS.as (a0 : List (List D)) (a1 : Int) : List A := [.d (.sl a0), .d (.int .i64 a1)]
noncomputable def laws_heldStringS.kt {β : Type} (a0 : List (List D)) (a1 : Int) (K0 : List (List C) → List Out → Option β) : Int → Option β := fun z0 => K0 [[.d (.int .i64 z0)]] []
noncomputable def laws_heldStringS.e (k : Nat) : Entry := { modes := [(.imm, 0), (.imm, 0)], rts := [3], al := false, run := fun {β} l K => match l with | [.d (.sl a0), .d (.int .i64 a1)] => laws_heldStringS.f k a0 a1 (laws_heldStringS.kt a0 a1 K) | _ => none }
noncomputable def laws_heldStringS.E (k : Nat) : Env := fun g => bif g == 152 then some (laws_markText.e k) else none
noncomputable def laws_heldStringS.h : Hints := ⟨fun n => bif n == 2 then ⟨[(0, .asis), (1, .dat false), (5, .asis)], []⟩ else ⟨[], []⟩, fun _ => none, false, []⟩
noncomputable def laws_heldStringS.s0 (v0_0 : List (List D)) (v : Int × Int) : St :=
  match v with
  | (v0_1, v0_2) => ⟨[.d false (.sl v0_0), .d false (.int .i64 v0_1), .any, .any, .any, .d true (.int .i64 v0_2), .any, .any, .any, .any, .any, .any, .any, .any, .any, .any, .any, .any, .any, .any, .any, .any], []⟩
noncomputable def laws_heldStringS.b0 {β : Type} (k : Nat) : St → (Ex → St → Option β) → Option β := fun s K => den Try.prog (laws_heldStringS.E k) laws_heldStringS.h.H laws_heldStringS.h.J k (codeAt [1, 0, 1, 0, 0] (codeOf Try.f128)) s K
noncomputable def laws_heldStringS.c0 {β : Type} (k : Nat) (a0 : List (List D)) (a1 : Int) (K0 : List (List C) → List Out → Option β) : Ex → St → Option β := contAt Try.prog (laws_heldStringS.E k) laws_heldStringS.h k [1, 0, 1, 0] (codeOf Try.f128) (finDen Try.prog Try.f128 laws_heldStringS.h (laws_heldStringS.as a0 a1) K0)
theorem laws_heldStringS.l0_eq {β : Type} (k : Nat) (a0 : List (List D)) (a1 : Int) (K0 : List (List C) → List Out → Option β) (v0_0 : List (List D)) : ∀ (kk : Nat) (v : Int × Int), loopDen (laws_heldStringS.b0 k) (laws_heldStringS.h.H 2) kk (laws_heldStringS.s0 v0_0 v) (laws_heldStringS.c0 k a0 a1 K0) = iter (laws_heldStringS.l0 k v0_0 (laws_heldStringS.kt a0 a1 K0)) kk v :=
  loop_eq (laws_heldStringS.s0 v0_0) _ (fun L0 v => by obtain ⟨v0_1, v0_2⟩ := v; kernel_rfl)
noncomputable def laws_heldStringS.m {β : Type} (k : Nat) (a0 : List (List D)) (a1 : Int) (K0 : List (List C) → List Out → Option β) (F : ((List (List D)) → (Int × Int) → Option β)) : Option β :=
  (F) a0 (a1, 0)
theorem laws_heldStringS.f_eq {β : Type} (k : Nat) (a0 : List (List D)) (a1 : Int) (K0 : List (List C) → List Out → Option β) : funDen Try.prog (laws_heldStringS.E k) laws_heldStringS.h k Try.f128 (laws_heldStringS.as a0 a1) K0 = laws_heldStringS.g k a0 a1 (laws_heldStringS.kt a0 a1 K0) := Eq.trans (b := (laws_heldStringS.m k a0 a1 K0) (fun (v0_0 : List (List D)) (v : Int × Int) => loopDen (laws_heldStringS.b0 k) (laws_heldStringS.h.H 2) k (laws_heldStringS.s0 v0_0 v) (laws_heldStringS.c0 k a0 a1 K0))) (by kernel_rfl) (Eq.trans (congrArg (laws_heldStringS.m k a0 a1 K0) (funext fun v0_0 => funext fun v => laws_heldStringS.l0_eq k a0 a1 K0 v0_0 k v)) (by kernel_rfl))
noncomputable def laws_heldStringS.dec (rs : List (List C)) (os : List Out) : Option (Int) := uncons rs fun c1 r2 => uncons c1 fun x3 l4 => cD x3 fun d5 => dInt .i64 d5 fun w0 => atEnd l4 <| atEnd r2 <| atEnd os (some w0)
theorem laws_heldStringS.kt_dec (a0 : List (List D)) (a1 : Int) : laws_heldStringS.kt a0 a1 laws_heldStringS.dec = (fun z0 => some z0) := by kernel_rfl
theorem laws_heldStringS.inj (a0 : List (List D)) (a1 : Int) {rs : List (List C)} {os : List Out} {z0 : Int} (h : laws_heldStringS.dec rs os = some z0) (ho : OutShape (laws_heldStringS.as a0 a1) os) : rs = [[.d (.int .i64 z0)]] ∧ os = [] := by
  unfold laws_heldStringS.dec at h
  obtain ⟨c1, r2, rfl, h1⟩ := uncons_some h
  obtain ⟨x3, l4, rfl, h2⟩ := uncons_some h1
  obtain ⟨d5, rfl, h3⟩ := cD_some h2
  obtain ⟨w0, rfl, h4⟩ := dInt_some h3
  obtain ⟨rfl, h5⟩ := atEnd_some h4
  obtain ⟨rfl, h6⟩ := atEnd_some h5
  obtain ⟨rfl, h7⟩ := atEnd_some h6
  obtain rfl := Option.some.inj h7
  exact ⟨rfl, rfl⟩
theorem laws_heldStringS.ok (k : Nat) : EntryOK Try.prog 128 (laws_heldStringS.e k) := by
  refine entry_of mix tyok (fn := Try.f128) (c := codeOf Try.f128) Try.func128 (by kernel_rfl) (h := laws_heldStringS.h) (k := k) (E := laws_heldStringS.E k) (env_cons (laws_markText.ok k) env_nil) (by kernel_rfl) (by kernel_rfl) rfl (enter_of Try.func128 (by kernel_rfl)) ?_
  intro β l K r hr
  simp only [laws_heldStringS.e] at hr
  split at hr
  case h_2 => cases hr
  unfold laws_heldStringS.f at hr
  split at hr
  case h_2 => cases hr
  rename_i hz
  exact ⟨_, _, hr, _, laws_heldStringS.dec, _, (laws_heldStringS.f_eq k _ _ laws_heldStringS.dec).trans (by rw [laws_heldStringS.kt_dec]; exact hz), fun rs os h ho => laws_heldStringS.inj _ _ h ho⟩
noncomputable def laws_heldTermS.l0 {β : Type} (k : Nat) (v0_0 : List (List D)) (K : Int → Option β) (L0 : (Int × Int) → Option β) (v : Int × Int) : Option β :=
  match v with
  | (v0_1, v0_2) => bif (decide ((v0_2 : Int) < (v0_0.length : Int))) then (atRow v0_0 v0_2 fun c33 => uncons c33 fun d34 r35 => dInt .i64 d34 fun x36 => uncons r35 fun d37 r38 => dStr d37 fun x39 => uncons r38 fun d40 r41 => dSl d40 fun x42 => atEnd r41 (bif ((x36 : Int) != v0_1) then (K (-1)) else (atRow v0_0 v0_2 fun c43 => uncons c43 fun d44 r45 => dInt .i64 d44 fun x46 => uncons r45 fun d47 r48 => dStr d47 fun x49 => uncons r48 fun d50 r51 => dSl d50 fun x52 => atEnd r51 (laws_markText.f k (IntKind.wrap .i64 (v0_1 + 1)) (fun y53 => bif (!(strEq x49 y53)) then (K (-1)) else (atRow v0_0 v0_2 fun c54 => uncons c54 fun d55 r56 => dInt .i64 d55 fun x57 => uncons r56 fun d58 r59 => dStr d58 fun x60 => uncons r59 fun d61 r62 => dSl d61 fun x63 => atEnd r62 (laws_heldStringS.f k x63 (IntKind.wrap .i64 ((IntKind.wrap .i64 (v0_1 + 1)) + 1)) (fun y64 => bif (decide ((y64 : Int) < 0)) then (K (-1)) else (L0 (y64, IntKind.wrap .i64 (v0_2 + 1))))))))))) else (K v0_1)
noncomputable def laws_heldTermS.g {β : Type} (k : Nat) (a0 : List (List D)) (a1 : Int) (K : Int → Option β) : Option β :=
  iter (laws_heldTermS.l0 k a0 K) k (a1, 0)
noncomputable def laws_heldTermS.t (k : Nat) (a0 : List (List D)) (a1 : Int) : Option (Int) := laws_heldTermS.g k a0 a1 (fun z0 => some z0)
noncomputable def laws_heldTermS.f {β : Type} (k : Nat) (a0 : List (List D)) (a1 : Int) (K : Int → Option β) : Option β :=
  match laws_heldTermS.t k a0 a1 with
  | some z0 => K z0
  | none => none
noncomputable def laws_heldTermS.as (a0 : List (List D)) (a1 : Int) : List A := [.d (.sl a0), .d (.int .i64 a1)]
noncomputable def laws_heldTermS.kt {β : Type} (a0 : List (List D)) (a1 : Int) (K0 : List (List C) → List Out → Option β) : Int → Option β := fun z0 => K0 [[.d (.int .i64 z0)]] []
noncomputable def laws_heldTermS.e (k : Nat) : Entry := { modes := [(.imm, 0), (.imm, 0)], rts := [3], al := false, run := fun {β} l K => match l with | [.d (.sl a0), .d (.int .i64 a1)] => laws_heldTermS.f k a0 a1 (laws_heldTermS.kt a0 a1 K) | _ => none }
noncomputable def laws_heldTermS.E (k : Nat) : Env := fun g => bif g == 152 then some (laws_markText.e k) else bif g == 128 then some (laws_heldStringS.e k) else none
noncomputable def laws_heldTermS.h : Hints := ⟨fun n => bif n == 2 then ⟨[(0, .asis), (1, .dat false), (5, .asis)], []⟩ else ⟨[], []⟩, fun _ => none, false, []⟩
noncomputable def laws_heldTermS.s0 (v0_0 : List (List D)) (v : Int × Int) : St :=
  match v with
  | (v0_1, v0_2) => ⟨[.d false (.sl v0_0), .d false (.int .i64 v0_1), .any, .any, .any, .d true (.int .i64 v0_2), .any, .any, .any, .any, .any, .any, .any, .any, .any, .any, .any, .any, .any, .any, .any, .any, .any, .any, .any, .any, .any, .any, .any, .any, .any, .any, .any, .any, .any, .any, .any, .any, .any, .any, .any], []⟩
noncomputable def laws_heldTermS.b0 {β : Type} (k : Nat) : St → (Ex → St → Option β) → Option β := fun s K => den Try.prog (laws_heldTermS.E k) laws_heldTermS.h.H laws_heldTermS.h.J k (codeAt [1, 0, 1, 0, 0] (codeOf Try.f178)) s K
noncomputable def laws_heldTermS.c0 {β : Type} (k : Nat) (a0 : List (List D)) (a1 : Int) (K0 : List (List C) → List Out → Option β) : Ex → St → Option β := contAt Try.prog (laws_heldTermS.E k) laws_heldTermS.h k [1, 0, 1, 0] (codeOf Try.f178) (finDen Try.prog Try.f178 laws_heldTermS.h (laws_heldTermS.as a0 a1) K0)
theorem laws_heldTermS.l0_eq {β : Type} (k : Nat) (a0 : List (List D)) (a1 : Int) (K0 : List (List C) → List Out → Option β) (v0_0 : List (List D)) : ∀ (kk : Nat) (v : Int × Int), loopDen (laws_heldTermS.b0 k) (laws_heldTermS.h.H 2) kk (laws_heldTermS.s0 v0_0 v) (laws_heldTermS.c0 k a0 a1 K0) = iter (laws_heldTermS.l0 k v0_0 (laws_heldTermS.kt a0 a1 K0)) kk v :=
  loop_eq (laws_heldTermS.s0 v0_0) _ (fun L0 v => by obtain ⟨v0_1, v0_2⟩ := v; kernel_rfl)
noncomputable def laws_heldTermS.m {β : Type} (k : Nat) (a0 : List (List D)) (a1 : Int) (K0 : List (List C) → List Out → Option β) (F : ((List (List D)) → (Int × Int) → Option β)) : Option β :=
  (F) a0 (a1, 0)
theorem laws_heldTermS.f_eq {β : Type} (k : Nat) (a0 : List (List D)) (a1 : Int) (K0 : List (List C) → List Out → Option β) : funDen Try.prog (laws_heldTermS.E k) laws_heldTermS.h k Try.f178 (laws_heldTermS.as a0 a1) K0 = laws_heldTermS.g k a0 a1 (laws_heldTermS.kt a0 a1 K0) := Eq.trans (b := (laws_heldTermS.m k a0 a1 K0) (fun (v0_0 : List (List D)) (v : Int × Int) => loopDen (laws_heldTermS.b0 k) (laws_heldTermS.h.H 2) k (laws_heldTermS.s0 v0_0 v) (laws_heldTermS.c0 k a0 a1 K0))) (by kernel_rfl) (Eq.trans (congrArg (laws_heldTermS.m k a0 a1 K0) (funext fun v0_0 => funext fun v => laws_heldTermS.l0_eq k a0 a1 K0 v0_0 k v)) (by kernel_rfl))
noncomputable def laws_heldTermS.dec (rs : List (List C)) (os : List Out) : Option (Int) := uncons rs fun c1 r2 => uncons c1 fun x3 l4 => cD x3 fun d5 => dInt .i64 d5 fun w0 => atEnd l4 <| atEnd r2 <| atEnd os (some w0)
theorem laws_heldTermS.kt_dec (a0 : List (List D)) (a1 : Int) : laws_heldTermS.kt a0 a1 laws_heldTermS.dec = (fun z0 => some z0) := by kernel_rfl
theorem laws_heldTermS.inj (a0 : List (List D)) (a1 : Int) {rs : List (List C)} {os : List Out} {z0 : Int} (h : laws_heldTermS.dec rs os = some z0) (ho : OutShape (laws_heldTermS.as a0 a1) os) : rs = [[.d (.int .i64 z0)]] ∧ os = [] := by
  unfold laws_heldTermS.dec at h
  obtain ⟨c1, r2, rfl, h1⟩ := uncons_some h
  obtain ⟨x3, l4, rfl, h2⟩ := uncons_some h1
  obtain ⟨d5, rfl, h3⟩ := cD_some h2
  obtain ⟨w0, rfl, h4⟩ := dInt_some h3
  obtain ⟨rfl, h5⟩ := atEnd_some h4
  obtain ⟨rfl, h6⟩ := atEnd_some h5
  obtain ⟨rfl, h7⟩ := atEnd_some h6
  obtain rfl := Option.some.inj h7
  exact ⟨rfl, rfl⟩
theorem laws_heldTermS.ok (k : Nat) : EntryOK Try.prog 178 (laws_heldTermS.e k) := by
  refine entry_of mix tyok (fn := Try.f178) (c := codeOf Try.f178) Try.func178 (by kernel_rfl) (h := laws_heldTermS.h) (k := k) (E := laws_heldTermS.E k) (env_cons (laws_markText.ok k) (env_cons (laws_heldStringS.ok k) env_nil)) (by kernel_rfl) (by kernel_rfl) rfl (enter_of Try.func178 (by kernel_rfl)) ?_
  intro β l K r hr
  simp only [laws_heldTermS.e] at hr
  split at hr
  case h_2 => cases hr
  unfold laws_heldTermS.f at hr
  split at hr
  case h_2 => cases hr
  rename_i hz
  exact ⟨_, _, hr, _, laws_heldTermS.dec, _, (laws_heldTermS.f_eq k _ _ laws_heldTermS.dec).trans (by rw [laws_heldTermS.kt_dec]; exact hz), fun rs os h ho => laws_heldTermS.inj _ _ h ho⟩
noncomputable def laws_heldWeighS.l0 {β : Type} (k : Nat) (v0_0 : List (List D)) (K : Int → Option β) (L0 : (Int × Int) → Option β) (v : Int × Int) : Option β :=
  match v with
  | (v0_1, v0_2) => bif (decide ((v0_2 : Int) < (v0_0.length : Int))) then (atRow v0_0 v0_2 fun c16 => uncons c16 fun d17 r18 => dStr d17 fun x19 => uncons r18 fun d20 r21 => dInt .i64 d20 fun x22 => atEnd r21 (laws_markText.f k v0_1 (fun y23 => bif (!(strEq x19 y23)) then (K (-1)) else (atRow v0_0 v0_2 fun c24 => uncons c24 fun d25 r26 => dStr d25 fun x27 => uncons r26 fun d28 r29 => dInt .i64 d28 fun x30 => atEnd r29 (bif ((x30 : Int) != (IntKind.wrap .i64 (v0_1 + 1))) then (K (-1)) else (L0 (IntKind.wrap .i64 ((IntKind.wrap .i64 (v0_1 + 1)) + 1), IntKind.wrap .i64 (v0_2 + 1)))))))) else (K v0_1)
noncomputable def laws_heldWeighS.g {β : Type} (k : Nat) (a0 : List (List D)) (a1 : Int) (K : Int → Option β) : Option β :=
  iter (laws_heldWeighS.l0 k a0 K) k (a1, 0)
noncomputable def laws_heldWeighS.t (k : Nat) (a0 : List (List D)) (a1 : Int) : Option (Int) := laws_heldWeighS.g k a0 a1 (fun z0 => some z0)
noncomputable def laws_heldWeighS.f {β : Type} (k : Nat) (a0 : List (List D)) (a1 : Int) (K : Int → Option β) : Option β :=
  match laws_heldWeighS.t k a0 a1 with
  | some z0 => K z0
  | none => none
noncomputable def laws_heldWeighS.as (a0 : List (List D)) (a1 : Int) : List A := [.d (.sl a0), .d (.int .i64 a1)]
noncomputable def laws_heldWeighS.kt {β : Type} (a0 : List (List D)) (a1 : Int) (K0 : List (List C) → List Out → Option β) : Int → Option β := fun z0 => K0 [[.d (.int .i64 z0)]] []
noncomputable def laws_heldWeighS.e (k : Nat) : Entry := { modes := [(.imm, 0), (.imm, 0)], rts := [3], al := false, run := fun {β} l K => match l with | [.d (.sl a0), .d (.int .i64 a1)] => laws_heldWeighS.f k a0 a1 (laws_heldWeighS.kt a0 a1 K) | _ => none }
noncomputable def laws_heldWeighS.E (k : Nat) : Env := fun g => bif g == 152 then some (laws_markText.e k) else none
noncomputable def laws_heldWeighS.h : Hints := ⟨fun n => bif n == 2 then ⟨[(0, .asis), (1, .dat false), (5, .asis)], []⟩ else ⟨[], []⟩, fun _ => none, false, []⟩
noncomputable def laws_heldWeighS.s0 (v0_0 : List (List D)) (v : Int × Int) : St :=
  match v with
  | (v0_1, v0_2) => ⟨[.d false (.sl v0_0), .d false (.int .i64 v0_1), .any, .any, .any, .d true (.int .i64 v0_2), .any, .any, .any, .any, .any, .any, .any, .any, .any, .any, .any, .any, .any, .any, .any, .any, .any, .any, .any, .any, .any, .any, .any, .any, .any, .any], []⟩
noncomputable def laws_heldWeighS.b0 {β : Type} (k : Nat) : St → (Ex → St → Option β) → Option β := fun s K => den Try.prog (laws_heldWeighS.E k) laws_heldWeighS.h.H laws_heldWeighS.h.J k (codeAt [1, 0, 1, 0, 0] (codeOf Try.f179)) s K
noncomputable def laws_heldWeighS.c0 {β : Type} (k : Nat) (a0 : List (List D)) (a1 : Int) (K0 : List (List C) → List Out → Option β) : Ex → St → Option β := contAt Try.prog (laws_heldWeighS.E k) laws_heldWeighS.h k [1, 0, 1, 0] (codeOf Try.f179) (finDen Try.prog Try.f179 laws_heldWeighS.h (laws_heldWeighS.as a0 a1) K0)
theorem laws_heldWeighS.l0_eq {β : Type} (k : Nat) (a0 : List (List D)) (a1 : Int) (K0 : List (List C) → List Out → Option β) (v0_0 : List (List D)) : ∀ (kk : Nat) (v : Int × Int), loopDen (laws_heldWeighS.b0 k) (laws_heldWeighS.h.H 2) kk (laws_heldWeighS.s0 v0_0 v) (laws_heldWeighS.c0 k a0 a1 K0) = iter (laws_heldWeighS.l0 k v0_0 (laws_heldWeighS.kt a0 a1 K0)) kk v :=
  loop_eq (laws_heldWeighS.s0 v0_0) _ (fun L0 v => by obtain ⟨v0_1, v0_2⟩ := v; kernel_rfl)
noncomputable def laws_heldWeighS.m {β : Type} (k : Nat) (a0 : List (List D)) (a1 : Int) (K0 : List (List C) → List Out → Option β) (F : ((List (List D)) → (Int × Int) → Option β)) : Option β :=
  (F) a0 (a1, 0)
theorem laws_heldWeighS.f_eq {β : Type} (k : Nat) (a0 : List (List D)) (a1 : Int) (K0 : List (List C) → List Out → Option β) : funDen Try.prog (laws_heldWeighS.E k) laws_heldWeighS.h k Try.f179 (laws_heldWeighS.as a0 a1) K0 = laws_heldWeighS.g k a0 a1 (laws_heldWeighS.kt a0 a1 K0) := Eq.trans (b := (laws_heldWeighS.m k a0 a1 K0) (fun (v0_0 : List (List D)) (v : Int × Int) => loopDen (laws_heldWeighS.b0 k) (laws_heldWeighS.h.H 2) k (laws_heldWeighS.s0 v0_0 v) (laws_heldWeighS.c0 k a0 a1 K0))) (by kernel_rfl) (Eq.trans (congrArg (laws_heldWeighS.m k a0 a1 K0) (funext fun v0_0 => funext fun v => laws_heldWeighS.l0_eq k a0 a1 K0 v0_0 k v)) (by kernel_rfl))
noncomputable def laws_heldWeighS.dec (rs : List (List C)) (os : List Out) : Option (Int) := uncons rs fun c1 r2 => uncons c1 fun x3 l4 => cD x3 fun d5 => dInt .i64 d5 fun w0 => atEnd l4 <| atEnd r2 <| atEnd os (some w0)
theorem laws_heldWeighS.kt_dec (a0 : List (List D)) (a1 : Int) : laws_heldWeighS.kt a0 a1 laws_heldWeighS.dec = (fun z0 => some z0) := by kernel_rfl
theorem laws_heldWeighS.inj (a0 : List (List D)) (a1 : Int) {rs : List (List C)} {os : List Out} {z0 : Int} (h : laws_heldWeighS.dec rs os = some z0) (ho : OutShape (laws_heldWeighS.as a0 a1) os) : rs = [[.d (.int .i64 z0)]] ∧ os = [] := by
  unfold laws_heldWeighS.dec at h
  obtain ⟨c1, r2, rfl, h1⟩ := uncons_some h
  obtain ⟨x3, l4, rfl, h2⟩ := uncons_some h1
  obtain ⟨d5, rfl, h3⟩ := cD_some h2
  obtain ⟨w0, rfl, h4⟩ := dInt_some h3
  obtain ⟨rfl, h5⟩ := atEnd_some h4
  obtain ⟨rfl, h6⟩ := atEnd_some h5
  obtain ⟨rfl, h7⟩ := atEnd_some h6
  obtain rfl := Option.some.inj h7
  exact ⟨rfl, rfl⟩
theorem laws_heldWeighS.ok (k : Nat) : EntryOK Try.prog 179 (laws_heldWeighS.e k) := by
  refine entry_of mix tyok (fn := Try.f179) (c := codeOf Try.f179) Try.func179 (by kernel_rfl) (h := laws_heldWeighS.h) (k := k) (E := laws_heldWeighS.E k) (env_cons (laws_markText.ok k) env_nil) (by kernel_rfl) (by kernel_rfl) rfl (enter_of Try.func179 (by kernel_rfl)) ?_
  intro β l K r hr
  simp only [laws_heldWeighS.e] at hr
  split at hr
  case h_2 => cases hr
  unfold laws_heldWeighS.f at hr
  split at hr
  case h_2 => cases hr
  rename_i hz
  exact ⟨_, _, hr, _, laws_heldWeighS.dec, _, (laws_heldWeighS.f_eq k _ _ laws_heldWeighS.dec).trans (by rw [laws_heldWeighS.kt_dec]; exact hz), fun rs os h ho => laws_heldWeighS.inj _ _ h ho⟩
end Go.Proofs.Ytnlhhhkeigjnoaa
