/- Printed: the functions that FnExactObey reaches, read by the evaluator, each with its contract. -/
import Derived.Test.YtljkbknnnpjmgaaXEObey0
import Derived.KernelRfl
set_option linter.unusedVariables false
set_option linter.unusedSimpArgs false
namespace Go.Proofs.Ytljkbknnnpjmgaa
open Go Go.T Go.Proofs
noncomputable def impl_IsleOk_1.g {β : Type} (k : Nat) (a0_0 : Int) (a0_1 : Int) (K : Bool → Option β) : Option β :=
  K ((a0_1 : Int) == 0)
noncomputable def impl_IsleOk_1.t (k : Nat) (a0_0 : Int) (a0_1 : Int) : Option (Bool) := impl_IsleOk_1.g k a0_0 a0_1 (fun z0 => some z0)
noncomputable def impl_IsleOk_1.f {β : Type} (k : Nat) (a0_0 : Int) (a0_1 : Int) (K : Bool → Option β) : Option β :=
  match impl_IsleOk_1.t k a0_0 a0_1 with
  | some z0 => K z0
  | none => none
noncomputable def impl_IsleOk_1.as (a0_0 : Int) (a0_1 : Int) : List A := [.agg [.int .i64 a0_0, .int .i64 a0_1]]
noncomputable def impl_IsleOk_1.kt {β : Type} (a0_0 : Int) (a0_1 : Int) (K0 : List (List C) → List Out → Option β) : Bool → Option β := fun z0 => K0 [[.d (.bool z0)]] []
noncomputable def impl_IsleOk_1.e (k : Nat) : ZQ := { modes := [(.imm, 0)], rts := [4], al := false, run := fun {β} l K => match l with | [.agg [.int .i64 a0_0, .int .i64 a0_1]] => impl_IsleOk_1.f k a0_0 a0_1 (impl_IsleOk_1.kt a0_0 a0_1 K) | _ => none }
noncomputable def impl_IsleOk_1.E (k : Nat) : Env := fun g => none
noncomputable def impl_IsleOk_1.h : ZY := ⟨fun n => ⟨[], []⟩, fun _ => none, false, []⟩
theorem impl_IsleOk_1.f_eq {β : Type} (k : Nat) (a0_0 : Int) (a0_1 : Int) (K0 : List (List C) → List Out → Option β) : ZJ Try.prog (impl_IsleOk_1.E k) impl_IsleOk_1.h k Try.f187 (impl_IsleOk_1.as a0_0 a0_1) K0 = impl_IsleOk_1.g k a0_0 a0_1 (impl_IsleOk_1.kt a0_0 a0_1 K0) := by kernel_rfl
noncomputable def impl_IsleOk_1.dec (rs : List (List C)) (os : List Out) : Option (Bool) := Zd rs fun c1 r2 => Zd c1 fun x3 l4 => cD x3 fun d5 => ZaF d5 fun w0 => Ze l4 <| Ze r2 <| Ze os (some w0)
theorem impl_IsleOk_1.kt_dec (a0_0 : Int) (a0_1 : Int) : impl_IsleOk_1.kt a0_0 a0_1 impl_IsleOk_1.dec = (fun z0 => some z0) := by kernel_rfl
theorem impl_IsleOk_1.inj (a0_0 : Int) (a0_1 : Int) {rs : List (List C)} {os : List Out} {z0 : Bool} (h : impl_IsleOk_1.dec rs os = some z0) (ho : Zo (impl_IsleOk_1.as a0_0 a0_1) os) : rs = [[.d (.bool z0)]] ∧ os = [] := by
  unfold impl_IsleOk_1.dec at h
  obtain ⟨c1, r2, rfl, h1⟩ := Zb h
  obtain ⟨x3, l4, rfl, h2⟩ := Zb h1
  obtain ⟨d5, rfl, h3⟩ := Zt h2
  obtain ⟨w0, rfl, h4⟩ := Z0 h3
  obtain ⟨rfl, h5⟩ := Zc h4
  obtain ⟨rfl, h6⟩ := Zc h5
  obtain ⟨rfl, h7⟩ := Zc h6
  obtain rfl := Option.some.inj h7
  exact ⟨rfl, rfl⟩
theorem impl_IsleOk_1.ok (k : Nat) : Zv Try.prog 187 (impl_IsleOk_1.e k) := by
  refine Zu mix tyok (fn := Try.f187) (c := Zl Try.f187) Try.func187 (by kernel_rfl) (h := impl_IsleOk_1.h) (k := k) (E := impl_IsleOk_1.E k) Zz (by kernel_rfl) (by kernel_rfl) rfl (Zq Try.func187 (by kernel_rfl)) ?_
  intro β l K r hr
  simp only [impl_IsleOk_1.e] at hr
  split at hr
  case h_2 => cases hr
  unfold impl_IsleOk_1.f at hr
  split at hr
  case h_2 => cases hr
  rename_i hz
  exact ⟨_, _, hr, _, impl_IsleOk_1.dec, _, (impl_IsleOk_1.f_eq k _ _ impl_IsleOk_1.dec).trans (by rw [impl_IsleOk_1.kt_dec]; exact hz), fun rs os h ho => impl_IsleOk_1.inj _ _ h ho⟩
noncomputable def slices_IndexFunc_impl_Run__impl_IsleOk_1.l0 {β : Type} (k : Nat) (v0_0 : List (List D)) (v0_1 : Int) (K : Int → Option β) (L0 : Int → Option β) (v : Int) : Option β :=
  match v with
  | v0_2 => bif (decide ((v0_2 : Int) < v0_1)) then (ZX v0_0 v0_2 fun c9 => Zd c9 fun d10 r11 => ZM .i64 d10 fun x12 => Zd r11 fun d13 r14 => ZM .i64 d13 fun x15 => Ze r14 (impl_IsleOk_1.f k x12 x15 (fun y16 => bif y16 then (K v0_2) else (L0 (IntKind.wrap .i64 (v0_2 + 1)))))) else (K (-1))
noncomputable def slices_IndexFunc_impl_Run__impl_IsleOk_1.g {β : Type} (k : Nat) (a0 : List (List D)) (K : Int → Option β) : Option β :=
  Z4 (slices_IndexFunc_impl_Run__impl_IsleOk_1.l0 k a0 (a0.length : Int) K) k (0)
noncomputable def slices_IndexFunc_impl_Run__impl_IsleOk_1.t (k : Nat) (a0 : List (List D)) : Option (Int) := slices_IndexFunc_impl_Run__impl_IsleOk_1.g k a0 (fun z0 => some z0)
noncomputable def slices_IndexFunc_impl_Run__impl_IsleOk_1.f {β : Type} (k : Nat) (a0 : List (List D)) (K : Int → Option β) : Option β :=
  match slices_IndexFunc_impl_Run__impl_IsleOk_1.t k a0 with
  | some z0 => K z0
  | none => none
noncomputable def slices_IndexFunc_impl_Run__impl_IsleOk_1.as (a0 : List (List D)) : List A := [.d (.sl a0), .d (.fn 187 [])]
noncomputable def slices_IndexFunc_impl_Run__impl_IsleOk_1.kt {β : Type} (a0 : List (List D)) (K0 : List (List C) → List Out → Option β) : Int → Option β := fun z0 => K0 [[.d (.int .i64 z0)]] []
noncomputable def slices_IndexFunc_impl_Run__impl_IsleOk_1.e (k : Nat) : ZQ := { modes := [(.imm, 0), (.imm, 0)], rts := [3], al := false, run := fun {β} l K => match l with | [.d (.sl a0), .d (.fn 187 [])] => slices_IndexFunc_impl_Run__impl_IsleOk_1.f k a0 (slices_IndexFunc_impl_Run__impl_IsleOk_1.kt a0 K) | _ => none }
noncomputable def slices_IndexFunc_impl_Run__impl_IsleOk_1.E (k : Nat) : Env := fun g => bif g == 187 then some (impl_IsleOk_1.e k) else none
noncomputable def slices_IndexFunc_impl_Run__impl_IsleOk_1.h : ZY := ⟨fun n => bif n == 2 then ⟨[(0, .asis), (1, .asis), (7, .asis), (8, .asis)], []⟩ else ⟨[], []⟩, fun _ => none, false, []⟩
noncomputable def slices_IndexFunc_impl_Run__impl_IsleOk_1.s0 (v0_0 : List (List D)) (v0_1 : Int) (v : Int) : St :=
  match v with
  | v0_2 => ⟨[.d false (.sl v0_0), .d false (.fn 187 []), .any, .any, .any, .any, .any, .d true (.int .i64 v0_1), .d true (.int .i64 v0_2), .any, .any, .any, .any, .any, .any, .any, .any, .any, .any], []⟩
noncomputable def slices_IndexFunc_impl_Run__impl_IsleOk_1.b0 {β : Type} (k : Nat) : St → (Ex → St → Option β) → Option β := fun s K => den Try.prog (slices_IndexFunc_impl_Run__impl_IsleOk_1.E k) slices_IndexFunc_impl_Run__impl_IsleOk_1.h.H slices_IndexFunc_impl_Run__impl_IsleOk_1.h.J k (Zad [1, 0, 1, 0, 0] (Zl Try.f209)) s K
noncomputable def slices_IndexFunc_impl_Run__impl_IsleOk_1.c0 {β : Type} (k : Nat) (a0 : List (List D)) (K0 : List (List C) → List Out → Option β) : Ex → St → Option β := Zae Try.prog (slices_IndexFunc_impl_Run__impl_IsleOk_1.E k) slices_IndexFunc_impl_Run__impl_IsleOk_1.h k [1, 0, 1, 0] (Zl Try.f209) (Zak Try.prog Try.f209 slices_IndexFunc_impl_Run__impl_IsleOk_1.h (slices_IndexFunc_impl_Run__impl_IsleOk_1.as a0) K0)
theorem slices_IndexFunc_impl_Run__impl_IsleOk_1.l0_eq {β : Type} (k : Nat) (a0 : List (List D)) (K0 : List (List C) → List Out → Option β) (v0_0 : List (List D)) (v0_1 : Int) : ∀ (kk : Nat) (v : Int), Zx (slices_IndexFunc_impl_Run__impl_IsleOk_1.b0 k) (slices_IndexFunc_impl_Run__impl_IsleOk_1.h.H 2) kk (slices_IndexFunc_impl_Run__impl_IsleOk_1.s0 v0_0 v0_1 v) (slices_IndexFunc_impl_Run__impl_IsleOk_1.c0 k a0 K0) = Z4 (slices_IndexFunc_impl_Run__impl_IsleOk_1.l0 k v0_0 v0_1 (slices_IndexFunc_impl_Run__impl_IsleOk_1.kt a0 K0)) kk v :=
  Z9 (slices_IndexFunc_impl_Run__impl_IsleOk_1.s0 v0_0 v0_1) _ (fun L0 v => by kernel_rfl)
noncomputable def slices_IndexFunc_impl_Run__impl_IsleOk_1.m {β : Type} (k : Nat) (a0 : List (List D)) (K0 : List (List C) → List Out → Option β) (F : ((List (List D)) → Int → Int → Option β)) : Option β :=
  (F) a0 (a0.length : Int) (0)
theorem slices_IndexFunc_impl_Run__impl_IsleOk_1.f_eq {β : Type} (k : Nat) (a0 : List (List D)) (K0 : List (List C) → List Out → Option β) : ZJ Try.prog (slices_IndexFunc_impl_Run__impl_IsleOk_1.E k) slices_IndexFunc_impl_Run__impl_IsleOk_1.h k Try.f209 (slices_IndexFunc_impl_Run__impl_IsleOk_1.as a0) K0 = slices_IndexFunc_impl_Run__impl_IsleOk_1.g k a0 (slices_IndexFunc_impl_Run__impl_IsleOk_1.kt a0 K0) := Eq.trans (b := (slices_IndexFunc_impl_Run__impl_IsleOk_1.m k a0 K0) (fun (v0_0 : List (List D)) (v0_1 : Int) (v : Int) => Zx (slices_IndexFunc_impl_Run__impl_IsleOk_1.b0 k) (slices_IndexFunc_impl_Run__impl_IsleOk_1.h.H 2) k (slices_IndexFunc_impl_Run__impl_IsleOk_1.s0 v0_0 v0_1 v) (slices_IndexFunc_impl_Run__impl_IsleOk_1.c0 k a0 K0))) (by kernel_rfl) (Eq.trans (congrArg (slices_IndexFunc_impl_Run__impl_IsleOk_1.m k a0 K0) (funext fun v0_0 => funext fun v0_1 => funext fun v => slices_IndexFunc_impl_Run__impl_IsleOk_1.l0_eq k a0 K0 v0_0 v0_1 k v)) (by kernel_rfl))
noncomputable def slices_IndexFunc_impl_Run__impl_IsleOk_1.dec (rs : List (List C)) (os : List Out) : Option (Int) := Zd rs fun c1 r2 => Zd c1 fun x3 l4 => cD x3 fun d5 => ZM .i64 d5 fun w0 => Ze l4 <| Ze r2 <| Ze os (some w0)
theorem slices_IndexFunc_impl_Run__impl_IsleOk_1.kt_dec (a0 : List (List D)) : slices_IndexFunc_impl_Run__impl_IsleOk_1.kt a0 slices_IndexFunc_impl_Run__impl_IsleOk_1.dec = (fun z0 => some z0) := by kernel_rfl
theorem slices_IndexFunc_impl_Run__impl_IsleOk_1.inj (a0 : List (List D)) {rs : List (List C)} {os : List Out} {z0 : Int} (h : slices_IndexFunc_impl_Run__impl_IsleOk_1.dec rs os = some z0) (ho : Zo (slices_IndexFunc_impl_Run__impl_IsleOk_1.as a0) os) : rs = [[.d (.int .i64 z0)]] ∧ os = [] := by
  unfold slices_IndexFunc_impl_Run__impl_IsleOk_1.dec at h
  obtain ⟨c1, r2, rfl, h1⟩ := Zb h
  obtain ⟨x3, l4, rfl, h2⟩ := Zb h1
  obtain ⟨d5, rfl, h3⟩ := Zt h2
  obtain ⟨w0, rfl, h4⟩ := ZA h3
  obtain ⟨rfl, h5⟩ := Zc h4
  obtain ⟨rfl, h6⟩ := Zc h5
  obtain ⟨rfl, h7⟩ := Zc h6
  obtain rfl := Option.some.inj h7
  exact ⟨rfl, rfl⟩
theorem slices_IndexFunc_impl_Run__impl_IsleOk_1.ok (k : Nat) : Zv Try.prog 209 (slices_IndexFunc_impl_Run__impl_IsleOk_1.e k) := by
  refine Zu mix tyok (fn := Try.f209) (c := Zl Try.f209) Try.func209 (by kernel_rfl) (h := slices_IndexFunc_impl_Run__impl_IsleOk_1.h) (k := k) (E := slices_IndexFunc_impl_Run__impl_IsleOk_1.E k) (Zk (impl_IsleOk_1.ok k) Zz) (by kernel_rfl) (by kernel_rfl) rfl (Zq Try.func209 (by kernel_rfl)) ?_
  intro β l K r hr
  simp only [slices_IndexFunc_impl_Run__impl_IsleOk_1.e] at hr
  split at hr
  case h_2 => cases hr
  unfold slices_IndexFunc_impl_Run__impl_IsleOk_1.f at hr
  split at hr
  case h_2 => cases hr
  rename_i hz
  exact ⟨_, _, hr, _, slices_IndexFunc_impl_Run__impl_IsleOk_1.dec, _, (slices_IndexFunc_impl_Run__impl_IsleOk_1.f_eq k _ slices_IndexFunc_impl_Run__impl_IsleOk_1.dec).trans (by rw [slices_IndexFunc_impl_Run__impl_IsleOk_1.kt_dec]; exact hz), fun rs os h ho => slices_IndexFunc_impl_Run__impl_IsleOk_1.inj _ h ho⟩
noncomputable def slices_ContainsFunc_impl_Run__impl_IsleOk_1.g {β : Type} (k : Nat) (a0 : List (List D)) (K : Bool → Option β) : Option β :=
  slices_IndexFunc_impl_Run__impl_IsleOk_1.f k a0 (fun y17 => K (decide ((y17 : Int) ≥ 0)))
noncomputable def slices_ContainsFunc_impl_Run__impl_IsleOk_1.t (k : Nat) (a0 : List (List D)) : Option (Bool) := slices_ContainsFunc_impl_Run__impl_IsleOk_1.g k a0 (fun z0 => some z0)
noncomputable def slices_ContainsFunc_impl_Run__impl_IsleOk_1.f {β : Type} (k : Nat) (a0 : List (List D)) (K : Bool → Option β) : Option β :=
  match slices_ContainsFunc_impl_Run__impl_IsleOk_1.t k a0 with
  | some z0 => K z0
  | none => none
noncomputable def slices_ContainsFunc_impl_Run__impl_IsleOk_1.as (a0 : List (List D)) : List A := [.d (.sl a0), .d (.fn 187 [])]
noncomputable def slices_ContainsFunc_impl_Run__impl_IsleOk_1.kt {β : Type} (a0 : List (List D)) (K0 : List (List C) → List Out → Option β) : Bool → Option β := fun z0 => K0 [[.d (.bool z0)]] []
noncomputable def slices_ContainsFunc_impl_Run__impl_IsleOk_1.e (k : Nat) : ZQ := { modes := [(.imm, 0), (.imm, 0)], rts := [4], al := false, run := fun {β} l K => match l with | [.d (.sl a0), .d (.fn 187 [])] => slices_ContainsFunc_impl_Run__impl_IsleOk_1.f k a0 (slices_ContainsFunc_impl_Run__impl_IsleOk_1.kt a0 K) | _ => none }
noncomputable def slices_ContainsFunc_impl_Run__impl_IsleOk_1.E (k : Nat) : Env := fun g => bif g == 209 then some (slices_IndexFunc_impl_Run__impl_IsleOk_1.e k) else none
noncomputable def slices_ContainsFunc_impl_Run__impl_IsleOk_1.h : ZY := ⟨fun n => ⟨[], []⟩, fun _ => none, false, []⟩
theorem slices_ContainsFunc_impl_Run__impl_IsleOk_1.f_eq {β : Type} (k : Nat) (a0 : List (List D)) (K0 : List (List C) → List Out → Option β) : ZJ Try.prog (slices_ContainsFunc_impl_Run__impl_IsleOk_1.E k) slices_ContainsFunc_impl_Run__impl_IsleOk_1.h k Try.f186 (slices_ContainsFunc_impl_Run__impl_IsleOk_1.as a0) K0 = slices_ContainsFunc_impl_Run__impl_IsleOk_1.g k a0 (slices_ContainsFunc_impl_Run__impl_IsleOk_1.kt a0 K0) := by kernel_rfl
noncomputable def slices_ContainsFunc_impl_Run__impl_IsleOk_1.dec (rs : List (List C)) (os : List Out) : Option (Bool) := Zd rs fun c1 r2 => Zd c1 fun x3 l4 => cD x3 fun d5 => ZaF d5 fun w0 => Ze l4 <| Ze r2 <| Ze os (some w0)
theorem slices_ContainsFunc_impl_Run__impl_IsleOk_1.kt_dec (a0 : List (List D)) : slices_ContainsFunc_impl_Run__impl_IsleOk_1.kt a0 slices_ContainsFunc_impl_Run__impl_IsleOk_1.dec = (fun z0 => some z0) := by kernel_rfl
theorem slices_ContainsFunc_impl_Run__impl_IsleOk_1.inj (a0 : List (List D)) {rs : List (List C)} {os : List Out} {z0 : Bool} (h : slices_ContainsFunc_impl_Run__impl_IsleOk_1.dec rs os = some z0) (ho : Zo (slices_ContainsFunc_impl_Run__impl_IsleOk_1.as a0) os) : rs = [[.d (.bool z0)]] ∧ os = [] := by
  unfold slices_ContainsFunc_impl_Run__impl_IsleOk_1.dec at h
  obtain ⟨c1, r2, rfl, h1⟩ := Zb h
  obtain ⟨x3, l4, rfl, h2⟩ := Zb h1
  obtain ⟨d5, rfl, h3⟩ := Zt h2
  obtain ⟨w0, rfl, h4⟩ := Z0 h3
  obtain ⟨rfl, h5⟩ := Zc h4
  obtain ⟨rfl, h6⟩ := Zc h5
  obtain ⟨rfl, h7⟩ := Zc h6
  obtain rfl := Option.some.inj h7
  exact ⟨rfl, rfl⟩
theorem slices_ContainsFunc_impl_Run__impl_IsleOk_1.ok (k : Nat) : Zv Try.prog 186 (slices_ContainsFunc_impl_Run__impl_IsleOk_1.e k) := by
  refine Zu mix tyok (fn := Try.f186) (c := Zl Try.f186) Try.func186 (by kernel_rfl) (h := slices_ContainsFunc_impl_Run__impl_IsleOk_1.h) (k := k) (E := slices_ContainsFunc_impl_Run__impl_IsleOk_1.E k) (Zk (slices_IndexFunc_impl_Run__impl_IsleOk_1.ok k) Zz) (by kernel_rfl) (by kernel_rfl) rfl (Zq Try.func186 (by kernel_rfl)) ?_
  intro β l K r hr
  simp only [slices_ContainsFunc_impl_Run__impl_IsleOk_1.e] at hr
  split at hr
  case h_2 => cases hr
  unfold slices_ContainsFunc_impl_Run__impl_IsleOk_1.f at hr
  split at hr
  case h_2 => cases hr
  rename_i hz
  exact ⟨_, _, hr, _, slices_ContainsFunc_impl_Run__impl_IsleOk_1.dec, _, (slices_ContainsFunc_impl_Run__impl_IsleOk_1.f_eq k _ slices_ContainsFunc_impl_Run__impl_IsleOk_1.dec).trans (by rw [slices_ContainsFunc_impl_Run__impl_IsleOk_1.kt_dec]; exact hz), fun rs os h ho => slices_ContainsFunc_impl_Run__impl_IsleOk_1.inj _ h ho⟩
noncomputable def impl_running.l0 {β : Type} (k : Nat) (v0_1 : List (List D)) (v0_2 : Int) (K : Int → Option β) (L0 : (Int × Int) → Option β) (v : Int × Int) : Option β :=
  match v with
  | (v0_0, v0_3) => bif (decide ((v0_3 : Int) < v0_2)) then (ZX v0_1 v0_3 fun c8 => Zd c8 fun d9 r10 => ZM .i64 d9 fun x11 => Zd r10 fun d12 r13 => ZM .i64 d12 fun x14 => Ze r13 (L0 (IntKind.wrap .i64 (v0_0 + x14), IntKind.wrap .i64 (v0_3 + 1)))) else (K v0_0)
noncomputable def impl_running.g {β : Type} (k : Nat) (a0_0 : ByteArray) (a0_1 : Int) (a0_2 : Int) (a0_3 : List (List D)) (a0_4 : List (List D)) (K : Int → Option β) : Option β :=
  Z4 (impl_running.l0 k a0_4 (a0_4.length : Int) K) k (0, 0)
noncomputable def impl_running.t (k : Nat) (a0_0 : ByteArray) (a0_1 : Int) (a0_2 : Int) (a0_3 : List (List D)) (a0_4 : List (List D)) : Option (Int) := impl_running.g k a0_0 a0_1 a0_2 a0_3 a0_4 (fun z0 => some z0)
noncomputable def impl_running.f {β : Type} (k : Nat) (a0_0 : ByteArray) (a0_1 : Int) (a0_2 : Int) (a0_3 : List (List D)) (a0_4 : List (List D)) (K : Int → Option β) : Option β :=
  match impl_running.t k a0_0 a0_1 a0_2 a0_3 a0_4 with
  | some z0 => K z0
  | none => none
noncomputable def impl_running.as (a0_0 : ByteArray) (a0_1 : Int) (a0_2 : Int) (a0_3 : List (List D)) (a0_4 : List (List D)) : List A := [.agg [.str a0_0, .int .i64 a0_1, .int .i64 a0_2, .sl a0_3, .sl a0_4]]
noncomputable def impl_running.kt {β : Type} (a0_0 : ByteArray) (a0_1 : Int) (a0_2 : Int) (a0_3 : List (List D)) (a0_4 : List (List D)) (K0 : List (List C) → List Out → Option β) : Int → Option β := fun z0 => K0 [[.d (.int .i64 z0)]] []
noncomputable def impl_running.e (k : Nat) : ZQ := { modes := [(.imm, 0)], rts := [3], al := false, run := fun {β} l K => match l with | [.agg [.str a0_0, .int .i64 a0_1, .int .i64 a0_2, .sl a0_3, .sl a0_4]] => impl_running.f k a0_0 a0_1 a0_2 a0_3 a0_4 (impl_running.kt a0_0 a0_1 a0_2 a0_3 a0_4 K) | _ => none }
noncomputable def impl_running.E (k : Nat) : Env := fun g => none
noncomputable def impl_running.h : ZY := ⟨fun n => bif n == 3 then ⟨[(3, .asis), (7, .asis), (8, .asis), (9, .asis)], []⟩ else ⟨[], []⟩, fun _ => none, false, []⟩
noncomputable def impl_running.s0 (v0_1 : List (List D)) (v0_2 : Int) (v : Int × Int) : St :=
  match v with
  | (v0_0, v0_3) => ⟨[.any, .any, .any, .d true (.int .i64 v0_0), .any, .any, .any, .d false (.sl v0_1), .d true (.int .i64 v0_2), .d true (.int .i64 v0_3), .any, .any, .any, .any, .any, .any, .any, .any, .any], []⟩
noncomputable def impl_running.b0 {β : Type} (k : Nat) : St → (Ex → St → Option β) → Option β := fun s K => den Try.prog (impl_running.E k) impl_running.h.H impl_running.h.J k (Zad [1, 1, 0, 1, 0, 0] (Zl Try.f157)) s K
noncomputable def impl_running.c0 {β : Type} (k : Nat) (a0_0 : ByteArray) (a0_1 : Int) (a0_2 : Int) (a0_3 : List (List D)) (a0_4 : List (List D)) (K0 : List (List C) → List Out → Option β) : Ex → St → Option β := Zae Try.prog (impl_running.E k) impl_running.h k [1, 1, 0, 1, 0] (Zl Try.f157) (Zak Try.prog Try.f157 impl_running.h (impl_running.as a0_0 a0_1 a0_2 a0_3 a0_4) K0)
theorem impl_running.l0_eq {β : Type} (k : Nat) (a0_0 : ByteArray) (a0_1 : Int) (a0_2 : Int) (a0_3 : List (List D)) (a0_4 : List (List D)) (K0 : List (List C) → List Out → Option β) (v0_1 : List (List D)) (v0_2 : Int) : ∀ (kk : Nat) (v : Int × Int), Zx (impl_running.b0 k) (impl_running.h.H 3) kk (impl_running.s0 v0_1 v0_2 v) (impl_running.c0 k a0_0 a0_1 a0_2 a0_3 a0_4 K0) = Z4 (impl_running.l0 k v0_1 v0_2 (impl_running.kt a0_0 a0_1 a0_2 a0_3 a0_4 K0)) kk v :=
  Z9 (impl_running.s0 v0_1 v0_2) _ (fun L0 v => by obtain ⟨v0_0, v0_3⟩ := v; kernel_rfl)
noncomputable def impl_running.m {β : Type} (k : Nat) (a0_0 : ByteArray) (a0_1 : Int) (a0_2 : Int) (a0_3 : List (List D)) (a0_4 : List (List D)) (K0 : List (List C) → List Out → Option β) (F : ((List (List D)) → Int → (Int × Int) → Option β)) : Option β :=
  (F) a0_4 (a0_4.length : Int) (0, 0)
theorem impl_running.f_eq {β : Type} (k : Nat) (a0_0 : ByteArray) (a0_1 : Int) (a0_2 : Int) (a0_3 : List (List D)) (a0_4 : List (List D)) (K0 : List (List C) → List Out → Option β) : ZJ Try.prog (impl_running.E k) impl_running.h k Try.f157 (impl_running.as a0_0 a0_1 a0_2 a0_3 a0_4) K0 = impl_running.g k a0_0 a0_1 a0_2 a0_3 a0_4 (impl_running.kt a0_0 a0_1 a0_2 a0_3 a0_4 K0) := Eq.trans (b := (impl_running.m k a0_0 a0_1 a0_2 a0_3 a0_4 K0) (fun (v0_1 : List (List D)) (v0_2 : Int) (v : Int × Int) => Zx (impl_running.b0 k) (impl_running.h.H 3) k (impl_running.s0 v0_1 v0_2 v) (impl_running.c0 k a0_0 a0_1 a0_2 a0_3 a0_4 K0))) (by kernel_rfl) (Eq.trans (congrArg (impl_running.m k a0_0 a0_1 a0_2 a0_3 a0_4 K0) (funext fun v0_1 => funext fun v0_2 => funext fun v => impl_running.l0_eq k a0_0 a0_1 a0_2 a0_3 a0_4 K0 v0_1 v0_2 k v)) (by kernel_rfl))
noncomputable def impl_running.dec (rs : List (List C)) (os : List Out) : Option (Int) := Zd rs fun c1 r2 => Zd c1 fun x3 l4 => cD x3 fun d5 => ZM .i64 d5 fun w0 => Ze l4 <| Ze r2 <| Ze os (some w0)
theorem impl_running.kt_dec (a0_0 : ByteArray) (a0_1 : Int) (a0_2 : Int) (a0_3 : List (List D)) (a0_4 : List (List D)) : impl_running.kt a0_0 a0_1 a0_2 a0_3 a0_4 impl_running.dec = (fun z0 => some z0) := by kernel_rfl
theorem impl_running.inj (a0_0 : ByteArray) (a0_1 : Int) (a0_2 : Int) (a0_3 : List (List D)) (a0_4 : List (List D)) {rs : List (List C)} {os : List Out} {z0 : Int} (h : impl_running.dec rs os = some z0) (ho : Zo (impl_running.as a0_0 a0_1 a0_2 a0_3 a0_4) os) : rs = [[.d (.int .i64 z0)]] ∧ os = [] := by
  unfold impl_running.dec at h
  obtain ⟨c1, r2, rfl, h1⟩ := Zb h
  obtain ⟨x3, l4, rfl, h2⟩ := Zb h1
  obtain ⟨d5, rfl, h3⟩ := Zt h2
  obtain ⟨w0, rfl, h4⟩ := ZA h3
  obtain ⟨rfl, h5⟩ := Zc h4
  obtain ⟨rfl, h6⟩ := Zc h5
  obtain ⟨rfl, h7⟩ := Zc h6
  obtain rfl := Option.some.inj h7
  exact ⟨rfl, rfl⟩
theorem impl_running.ok (k : Nat) : Zv Try.prog 157 (impl_running.e k) := by
  refine Zu mix tyok (fn := Try.f157) (c := Zl Try.f157) Try.func157 (by kernel_rfl) (h := impl_running.h) (k := k) (E := impl_running.E k) Zz (by kernel_rfl) (by kernel_rfl) rfl (Zq Try.func157 (by kernel_rfl)) ?_
  intro β l K r hr
  simp only [impl_running.e] at hr
  split at hr
  case h_2 => cases hr
  unfold impl_running.f at hr
  split at hr
  case h_2 => cases hr
  rename_i hz
  exact ⟨_, _, hr, _, impl_running.dec, _, (impl_running.f_eq k _ _ _ _ _ impl_running.dec).trans (by rw [impl_running.kt_dec]; exact hz), fun rs os h ho => impl_running.inj _ _ _ _ _ h ho⟩
noncomputable def impl_IsleOk.g {β : Type} (k : Nat) (a0_0 : ByteArray) (a0_1 : Int) (a0_2 : Int) (a0_3 : List (List D)) (a0_4 : List (List D)) (K : Bool → Option β) : Option β :=
  impl_NameOk.f k a0_0 (fun y9 => bif y9 then (impl_isCopies.f k a0_1 (fun y10 => bif y10 then (impl_within.f k a0_2 0 1000000 (fun y11 => bif y11 then (impl_WorksOk.f k a0_3 (fun y126 => bif y126 then (impl_runsOk.f k a0_4 (fun y127 => bif y127 then (slices_ContainsFunc_impl_Run__impl_IsleOk_1.f k a0_4 (fun y128 => bif (!y128) then (impl_running.f k a0_0 a0_1 a0_2 a0_3 a0_4 (fun y129 => K (decide ((y129 : Int) ≤ a0_1)))) else (K false))) else (K false))) else (K false))) else (K false))) else (K false))) else (K false))
noncomputable def impl_IsleOk.t (k : Nat) (a0_0 : ByteArray) (a0_1 : Int) (a0_2 : Int) (a0_3 : List (List D)) (a0_4 : List (List D)) : Option (Bool) := impl_IsleOk.g k a0_0 a0_1 a0_2 a0_3 a0_4 (fun z0 => some z0)
noncomputable def impl_IsleOk.f {β : Type} (k : Nat) (a0_0 : ByteArray) (a0_1 : Int) (a0_2 : Int) (a0_3 : List (List D)) (a0_4 : List (List D)) (K : Bool → Option β) : Option β :=
  match impl_IsleOk.t k a0_0 a0_1 a0_2 a0_3 a0_4 with
  | some z0 => K z0
  | none => none
noncomputable def impl_IsleOk.as (a0_0 : ByteArray) (a0_1 : Int) (a0_2 : Int) (a0_3 : List (List D)) (a0_4 : List (List D)) : List A := [.agg [.str a0_0, .int .i64 a0_1, .int .i64 a0_2, .sl a0_3, .sl a0_4]]
noncomputable def impl_IsleOk.kt {β : Type} (a0_0 : ByteArray) (a0_1 : Int) (a0_2 : Int) (a0_3 : List (List D)) (a0_4 : List (List D)) (K0 : List (List C) → List Out → Option β) : Bool → Option β := fun z0 => K0 [[.d (.bool z0)]] []
noncomputable def impl_IsleOk.e (k : Nat) : ZQ := { modes := [(.imm, 0)], rts := [4], al := false, run := fun {β} l K => match l with | [.agg [.str a0_0, .int .i64 a0_1, .int .i64 a0_2, .sl a0_3, .sl a0_4]] => impl_IsleOk.f k a0_0 a0_1 a0_2 a0_3 a0_4 (impl_IsleOk.kt a0_0 a0_1 a0_2 a0_3 a0_4 K) | _ => none }
noncomputable def impl_IsleOk.E (k : Nat) : Env := fun g => bif g == 97 then some (impl_NameOk.e k) else bif g == 184 then some (impl_isCopies.e k) else bif g == 126 then some (impl_within.e k) else bif g == 110 then some (impl_WorksOk.e k) else bif g == 185 then some (impl_runsOk.e k) else bif g == 186 then some (slices_ContainsFunc_impl_Run__impl_IsleOk_1.e k) else bif g == 157 then some (impl_running.e k) else none
noncomputable def impl_IsleOk.h : ZY := ⟨fun n => ⟨[], []⟩, fun _ => none, false, []⟩
theorem impl_IsleOk.f_eq {β : Type} (k : Nat) (a0_0 : ByteArray) (a0_1 : Int) (a0_2 : Int) (a0_3 : List (List D)) (a0_4 : List (List D)) (K0 : List (List C) → List Out → Option β) : ZJ Try.prog (impl_IsleOk.E k) impl_IsleOk.h k Try.f109 (impl_IsleOk.as a0_0 a0_1 a0_2 a0_3 a0_4) K0 = impl_IsleOk.g k a0_0 a0_1 a0_2 a0_3 a0_4 (impl_IsleOk.kt a0_0 a0_1 a0_2 a0_3 a0_4 K0) := by kernel_rfl
noncomputable def impl_IsleOk.dec (rs : List (List C)) (os : List Out) : Option (Bool) := Zd rs fun c1 r2 => Zd c1 fun x3 l4 => cD x3 fun d5 => ZaF d5 fun w0 => Ze l4 <| Ze r2 <| Ze os (some w0)
theorem impl_IsleOk.kt_dec (a0_0 : ByteArray) (a0_1 : Int) (a0_2 : Int) (a0_3 : List (List D)) (a0_4 : List (List D)) : impl_IsleOk.kt a0_0 a0_1 a0_2 a0_3 a0_4 impl_IsleOk.dec = (fun z0 => some z0) := by kernel_rfl
theorem impl_IsleOk.inj (a0_0 : ByteArray) (a0_1 : Int) (a0_2 : Int) (a0_3 : List (List D)) (a0_4 : List (List D)) {rs : List (List C)} {os : List Out} {z0 : Bool} (h : impl_IsleOk.dec rs os = some z0) (ho : Zo (impl_IsleOk.as a0_0 a0_1 a0_2 a0_3 a0_4) os) : rs = [[.d (.bool z0)]] ∧ os = [] := by
  unfold impl_IsleOk.dec at h
  obtain ⟨c1, r2, rfl, h1⟩ := Zb h
  obtain ⟨x3, l4, rfl, h2⟩ := Zb h1
  obtain ⟨d5, rfl, h3⟩ := Zt h2
  obtain ⟨w0, rfl, h4⟩ := Z0 h3
  obtain ⟨rfl, h5⟩ := Zc h4
  obtain ⟨rfl, h6⟩ := Zc h5
  obtain ⟨rfl, h7⟩ := Zc h6
  obtain rfl := Option.some.inj h7
  exact ⟨rfl, rfl⟩
theorem impl_IsleOk.ok (k : Nat) : Zv Try.prog 109 (impl_IsleOk.e k) := by
  refine Zu mix tyok (fn := Try.f109) (c := Zl Try.f109) Try.func109 (by kernel_rfl) (h := impl_IsleOk.h) (k := k) (E := impl_IsleOk.E k) (Zk (impl_NameOk.ok k) (Zk (impl_isCopies.ok k) (Zk (impl_within.ok k) (Zk (impl_WorksOk.ok k) (Zk (impl_runsOk.ok k) (Zk (slices_ContainsFunc_impl_Run__impl_IsleOk_1.ok k) (Zk (impl_running.ok k) Zz))))))) (by kernel_rfl) (by kernel_rfl) rfl (Zq Try.func109 (by kernel_rfl)) ?_
  intro β l K r hr
  simp only [impl_IsleOk.e] at hr
  split at hr
  case h_2 => cases hr
  unfold impl_IsleOk.f at hr
  split at hr
  case h_2 => cases hr
  rename_i hz
  exact ⟨_, _, hr, _, impl_IsleOk.dec, _, (impl_IsleOk.f_eq k _ _ _ _ _ impl_IsleOk.dec).trans (by rw [impl_IsleOk.kt_dec]; exact hz), fun rs os h ho => impl_IsleOk.inj _ _ _ _ _ h ho⟩
noncomputable def impl_Obey.g {β : Type} (k : Nat) (a0_0 : ByteArray) (a0_1 : Int) (a0_2 : Int) (a0_3 : List (List D)) (a0_4 : List (List D)) (a1 : Int) (a2 : List (List D)) (K : ByteArray → Int → Int → (List (List C)) → (List (List C)) → Bool → Option β) : Option β :=
  impl_copyIsle.f k a0_0 a0_1 a0_2 a0_3 a0_4 (fun y78 y79 y80 y81 y82 => impl_IsleOk.f k a0_0 a0_1 a0_2 a0_3 a0_4 (fun y130 => bif (!y130) then (K y78 y79 y80 y81 y82 false) else (impl_WorksOk.f k a2 (fun y131 => bif (!y131) then (K y78 y79 y80 y81 y82 false) else (bif (decide ((a1 : Int) ≤ a0_2)) then (K y78 y79 y80 y81 y82 false) else (bif (decide ((a1 : Int) > 1000000)) then (K y78 y79 y80 y81 y82 false) else (impl_copyWorks.f k a2 (fun y132 => K y78 y79 a1 y132 y82 true))))))))
noncomputable def impl_Obey.t (k : Nat) (a0_0 : ByteArray) (a0_1 : Int) (a0_2 : Int) (a0_3 : List (List D)) (a0_4 : List (List D)) (a1 : Int) (a2 : List (List D)) : Option (ByteArray × Int × Int × (List (List C)) × (List (List C)) × Bool) := impl_Obey.g k a0_0 a0_1 a0_2 a0_3 a0_4 a1 a2 (fun z0 z1 z2 z3 z4 z5 => some (z0, z1, z2, z3, z4, z5))
noncomputable def impl_Obey.f {β : Type} (k : Nat) (a0_0 : ByteArray) (a0_1 : Int) (a0_2 : Int) (a0_3 : List (List D)) (a0_4 : List (List D)) (a1 : Int) (a2 : List (List D)) (K : ByteArray → Int → Int → (List (List C)) → (List (List C)) → Bool → Option β) : Option β :=
  match impl_Obey.t k a0_0 a0_1 a0_2 a0_3 a0_4 a1 a2 with
  | some (z0, z1, z2, z3, z4, z5) => K z0 z1 z2 z3 z4 z5
  | none => none
noncomputable def impl_Obey.as (a0_0 : ByteArray) (a0_1 : Int) (a0_2 : Int) (a0_3 : List (List D)) (a0_4 : List (List D)) (a1 : Int) (a2 : List (List D)) : List A := [.agg [.str a0_0, .int .i64 a0_1, .int .i64 a0_2, .sl a0_3, .sl a0_4], .d (.int .i64 a1), .d (.sl a2)]
noncomputable def impl_Obey.kt {β : Type} (a0_0 : ByteArray) (a0_1 : Int) (a0_2 : Int) (a0_3 : List (List D)) (a0_4 : List (List D)) (a1 : Int) (a2 : List (List D)) (K0 : List (List C) → List Out → Option β) : ByteArray → Int → Int → (List (List C)) → (List (List C)) → Bool → Option β := fun z0 z1 z2 z3 z4 z5 => K0 [[.d (.str z0), .d (.int .i64 z1), .d (.int .i64 z2), .own z3, .own z4], [.d (.bool z5)]] []
noncomputable def impl_Obey.e (k : Nat) : ZQ := { modes := [(.imm, 0), (.imm, 0), (.imm, 0)], rts := [62, 4], al := false, run := fun {β} l K => match l with | [.agg [.str a0_0, .int .i64 a0_1, .int .i64 a0_2, .sl a0_3, .sl a0_4], .d (.int .i64 a1), .d (.sl a2)] => impl_Obey.f k a0_0 a0_1 a0_2 a0_3 a0_4 a1 a2 (impl_Obey.kt a0_0 a0_1 a0_2 a0_3 a0_4 a1 a2 K) | _ => none }
noncomputable def impl_Obey.E (k : Nat) : Env := fun g => bif g == 108 then some (impl_copyIsle.e k) else bif g == 109 then some (impl_IsleOk.e k) else bif g == 110 then some (impl_WorksOk.e k) else bif g == 111 then some (impl_copyWorks.e k) else none
noncomputable def impl_Obey.h : ZY := ⟨fun n => ⟨[], []⟩, fun _ => none, false, []⟩
theorem impl_Obey.f_eq {β : Type} (k : Nat) (a0_0 : ByteArray) (a0_1 : Int) (a0_2 : Int) (a0_3 : List (List D)) (a0_4 : List (List D)) (a1 : Int) (a2 : List (List D)) (K0 : List (List C) → List Out → Option β) : ZJ Try.prog (impl_Obey.E k) impl_Obey.h k Try.f34 (impl_Obey.as a0_0 a0_1 a0_2 a0_3 a0_4 a1 a2) K0 = impl_Obey.g k a0_0 a0_1 a0_2 a0_3 a0_4 a1 a2 (impl_Obey.kt a0_0 a0_1 a0_2 a0_3 a0_4 a1 a2 K0) := by kernel_rfl
noncomputable def impl_Obey.dec (rs : List (List C)) (os : List Out) : Option (ByteArray × Int × Int × (List (List C)) × (List (List C)) × Bool) := Zd rs fun c1 r2 => Zd c1 fun x3 l4 => cD x3 fun d5 => Zan d5 fun w0 => Zd l4 fun x6 l7 => cD x6 fun d8 => ZM .i64 d8 fun w1 => Zd l7 fun x9 l10 => cD x9 fun d11 => ZM .i64 d11 fun w2 => Zd l10 fun x12 l13 => ZaU x12 fun w3 => Zd l13 fun x14 l15 => ZaU x14 fun w4 => Ze l15 <| Zd r2 fun c16 r17 => Zd c16 fun x18 l19 => cD x18 fun d20 => ZaF d20 fun w5 => Ze l19 <| Ze r17 <| Ze os (some (w0, w1, w2, w3, w4, w5))
theorem impl_Obey.kt_dec (a0_0 : ByteArray) (a0_1 : Int) (a0_2 : Int) (a0_3 : List (List D)) (a0_4 : List (List D)) (a1 : Int) (a2 : List (List D)) : impl_Obey.kt a0_0 a0_1 a0_2 a0_3 a0_4 a1 a2 impl_Obey.dec = (fun z0 z1 z2 z3 z4 z5 => some (z0, z1, z2, z3, z4, z5)) := by kernel_rfl
theorem impl_Obey.inj (a0_0 : ByteArray) (a0_1 : Int) (a0_2 : Int) (a0_3 : List (List D)) (a0_4 : List (List D)) (a1 : Int) (a2 : List (List D)) {rs : List (List C)} {os : List Out} {z0 : ByteArray} {z1 : Int} {z2 : Int} {z3 : List (List C)} {z4 : List (List C)} {z5 : Bool} (h : impl_Obey.dec rs os = some (z0, z1, z2, z3, z4, z5)) (ho : Zo (impl_Obey.as a0_0 a0_1 a0_2 a0_3 a0_4 a1 a2) os) : rs = [[.d (.str z0), .d (.int .i64 z1), .d (.int .i64 z2), .own z3, .own z4], [.d (.bool z5)]] ∧ os = [] := by
  unfold impl_Obey.dec at h
  obtain ⟨c1, r2, rfl, h1⟩ := Zb h
  obtain ⟨x3, l4, rfl, h2⟩ := Zb h1
  obtain ⟨d5, rfl, h3⟩ := Zt h2
  obtain ⟨w0, rfl, h4⟩ := ZaL h3
  obtain ⟨x6, l7, rfl, h5⟩ := Zb h4
  obtain ⟨d8, rfl, h6⟩ := Zt h5
  obtain ⟨w1, rfl, h7⟩ := ZA h6
  obtain ⟨x9, l10, rfl, h8⟩ := Zb h7
  obtain ⟨d11, rfl, h9⟩ := Zt h8
  obtain ⟨w2, rfl, h10⟩ := ZA h9
  obtain ⟨x12, l13, rfl, h11⟩ := Zb h10
  obtain ⟨w3, rfl, h12⟩ := ZN h11
  obtain ⟨x14, l15, rfl, h13⟩ := Zb h12
  obtain ⟨w4, rfl, h14⟩ := ZN h13
  obtain ⟨rfl, h15⟩ := Zc h14
  obtain ⟨c16, r17, rfl, h16⟩ := Zb h15
  obtain ⟨x18, l19, rfl, h17⟩ := Zb h16
  obtain ⟨d20, rfl, h18⟩ := Zt h17
  obtain ⟨w5, rfl, h19⟩ := Z0 h18
  obtain ⟨rfl, h20⟩ := Zc h19
  obtain ⟨rfl, h21⟩ := Zc h20
  obtain ⟨rfl, h22⟩ := Zc h21
  simp only [Option.some.injEq, Prod.mk.injEq] at h22
  obtain ⟨rfl, rfl, rfl, rfl, rfl, rfl⟩ := h22
  exact ⟨rfl, rfl⟩
theorem impl_Obey.ok (k : Nat) : Zv Try.prog 34 (impl_Obey.e k) := by
  refine Zu mix tyok (fn := Try.f34) (c := Zl Try.f34) Try.func34 (by kernel_rfl) (h := impl_Obey.h) (k := k) (E := impl_Obey.E k) (Zk (impl_copyIsle.ok k) (Zk (impl_IsleOk.ok k) (Zk (impl_WorksOk.ok k) (Zk (impl_copyWorks.ok k) Zz)))) (by kernel_rfl) (by kernel_rfl) rfl (Zq Try.func34 (by kernel_rfl)) ?_
  intro β l K r hr
  simp only [impl_Obey.e] at hr
  split at hr
  case h_2 => cases hr
  unfold impl_Obey.f at hr
  split at hr
  case h_2 => cases hr
  rename_i hz
  exact ⟨_, _, hr, _, impl_Obey.dec, _, (impl_Obey.f_eq k _ _ _ _ _ _ _ impl_Obey.dec).trans (by rw [impl_Obey.kt_dec]; exact hz), fun rs os h ho => impl_Obey.inj _ _ _ _ _ _ _ h ho⟩
noncomputable def laws_eqStringS.l0 {β : Type} (k : Nat) (v0_0 : List (List D)) (v0_1 : List (List D)) (K : Bool → Option β) (L0 : Int → Option β) (v : Int) : Option β :=
  match v with
  | v0_2 => bif (decide ((v0_2 : Int) < (v0_0.length : Int))) then (ZX v0_0 v0_2 fun c9 => Zd c9 fun d10 r11 => Zan d10 fun x12 => Ze r11 (ZX v0_1 v0_2 fun c13 => Zd c13 fun d14 r15 => Zan d14 fun x16 => Ze r15 (bif (!(strEq x12 x16)) then (K false) else (L0 (IntKind.wrap .i64 (v0_2 + 1)))))) else (K true)
noncomputable def laws_eqStringS.g {β : Type} (k : Nat) (a0 : List (List D)) (a1 : List (List D)) (K : Bool → Option β) : Option β :=
  bif (((a0.length : Int) : Int) != (a1.length : Int)) then (K false) else (Z4 (laws_eqStringS.l0 k a0 a1 K) k (0))
noncomputable def laws_eqStringS.t (k : Nat) (a0 : List (List D)) (a1 : List (List D)) : Option (Bool) := laws_eqStringS.g k a0 a1 (fun z0 => some z0)
noncomputable def laws_eqStringS.f {β : Type} (k : Nat) (a0 : List (List D)) (a1 : List (List D)) (K : Bool → Option β) : Option β :=
  match laws_eqStringS.t k a0 a1 with
  | some z0 => K z0
  | none => none
noncomputable def laws_eqStringS.as (a0 : List (List D)) (a1 : List (List D)) : List A := [.d (.sl a0), .d (.sl a1)]
noncomputable def laws_eqStringS.kt {β : Type} (a0 : List (List D)) (a1 : List (List D)) (K0 : List (List C) → List Out → Option β) : Bool → Option β := fun z0 => K0 [[.d (.bool z0)]] []
noncomputable def laws_eqStringS.e (k : Nat) : ZQ := { modes := [(.imm, 0), (.imm, 0)], rts := [4], al := false, run := fun {β} l K => match l with | [.d (.sl a0), .d (.sl a1)] => laws_eqStringS.f k a0 a1 (laws_eqStringS.kt a0 a1 K) | _ => none }
noncomputable def laws_eqStringS.E (k : Nat) : Env := fun g => none
noncomputable def laws_eqStringS.h : ZY := ⟨fun n => bif n == 4 then ⟨[(0, .asis), (1, .asis), (5, .asis)], []⟩ else ⟨[], []⟩, fun _ => none, false, []⟩
noncomputable def laws_eqStringS.s0 (v0_0 : List (List D)) (v0_1 : List (List D)) (v : Int) : St :=
  match v with
  | v0_2 => ⟨[.d false (.sl v0_0), .d false (.sl v0_1), .any, .any, .any, .d true (.int .i64 v0_2), .any, .any, .any, .any, .any, .any, .any, .any, .any, .any, .any, .any, .any, .any, .any, .any, .any, .any, .any, .any], []⟩
noncomputable def laws_eqStringS.b0 {β : Type} (k : Nat) : St → (Ex → St → Option β) → Option β := fun s K => den Try.prog (laws_eqStringS.E k) laws_eqStringS.h.H laws_eqStringS.h.J k (Zad [1, 1, 0, 1, 0, 0] (Zl Try.f82)) s K
noncomputable def laws_eqStringS.c0 {β : Type} (k : Nat) (a0 : List (List D)) (a1 : List (List D)) (K0 : List (List C) → List Out → Option β) : Ex → St → Option β := Zae Try.prog (laws_eqStringS.E k) laws_eqStringS.h k [1, 1, 0, 1, 0] (Zl Try.f82) (Zak Try.prog Try.f82 laws_eqStringS.h (laws_eqStringS.as a0 a1) K0)
theorem laws_eqStringS.l0_eq {β : Type} (k : Nat) (a0 : List (List D)) (a1 : List (List D)) (K0 : List (List C) → List Out → Option β) (v0_0 : List (List D)) (v0_1 : List (List D)) : ∀ (kk : Nat) (v : Int), Zx (laws_eqStringS.b0 k) (laws_eqStringS.h.H 4) kk (laws_eqStringS.s0 v0_0 v0_1 v) (laws_eqStringS.c0 k a0 a1 K0) = Z4 (laws_eqStringS.l0 k v0_0 v0_1 (laws_eqStringS.kt a0 a1 K0)) kk v :=
  Z9 (laws_eqStringS.s0 v0_0 v0_1) _ (fun L0 v => by kernel_rfl)
noncomputable def laws_eqStringS.m {β : Type} (k : Nat) (a0 : List (List D)) (a1 : List (List D)) (K0 : List (List C) → List Out → Option β) (F : ((List (List D)) → (List (List D)) → Int → Option β)) : Option β :=
  bif (((a0.length : Int) : Int) != (a1.length : Int)) then ((laws_eqStringS.kt a0 a1 K0) false) else ((F) a0 a1 (0))
theorem laws_eqStringS.f_eq {β : Type} (k : Nat) (a0 : List (List D)) (a1 : List (List D)) (K0 : List (List C) → List Out → Option β) : ZJ Try.prog (laws_eqStringS.E k) laws_eqStringS.h k Try.f82 (laws_eqStringS.as a0 a1) K0 = laws_eqStringS.g k a0 a1 (laws_eqStringS.kt a0 a1 K0) := Eq.trans (b := (laws_eqStringS.m k a0 a1 K0) (fun (v0_0 : List (List D)) (v0_1 : List (List D)) (v : Int) => Zx (laws_eqStringS.b0 k) (laws_eqStringS.h.H 4) k (laws_eqStringS.s0 v0_0 v0_1 v) (laws_eqStringS.c0 k a0 a1 K0))) (by kernel_rfl) (Eq.trans (congrArg (laws_eqStringS.m k a0 a1 K0) (funext fun v0_0 => funext fun v0_1 => funext fun v => laws_eqStringS.l0_eq k a0 a1 K0 v0_0 v0_1 k v)) (by kernel_rfl))
noncomputable def laws_eqStringS.dec (rs : List (List C)) (os : List Out) : Option (Bool) := Zd rs fun c1 r2 => Zd c1 fun x3 l4 => cD x3 fun d5 => ZaF d5 fun w0 => Ze l4 <| Ze r2 <| Ze os (some w0)
theorem laws_eqStringS.kt_dec (a0 : List (List D)) (a1 : List (List D)) : laws_eqStringS.kt a0 a1 laws_eqStringS.dec = (fun z0 => some z0) := by kernel_rfl
theorem laws_eqStringS.inj (a0 : List (List D)) (a1 : List (List D)) {rs : List (List C)} {os : List Out} {z0 : Bool} (h : laws_eqStringS.dec rs os = some z0) (ho : Zo (laws_eqStringS.as a0 a1) os) : rs = [[.d (.bool z0)]] ∧ os = [] := by
  unfold laws_eqStringS.dec at h
  obtain ⟨c1, r2, rfl, h1⟩ := Zb h
  obtain ⟨x3, l4, rfl, h2⟩ := Zb h1
  obtain ⟨d5, rfl, h3⟩ := Zt h2
  obtain ⟨w0, rfl, h4⟩ := Z0 h3
  obtain ⟨rfl, h5⟩ := Zc h4
  obtain ⟨rfl, h6⟩ := Zc h5
  obtain ⟨rfl, h7⟩ := Zc h6
  obtain rfl := Option.some.inj h7
  exact ⟨rfl, rfl⟩
theorem laws_eqStringS.ok (k : Nat) : Zv Try.prog 82 (laws_eqStringS.e k) := by
  refine Zu mix tyok (fn := Try.f82) (c := Zl Try.f82) Try.func82 (by kernel_rfl) (h := laws_eqStringS.h) (k := k) (E := laws_eqStringS.E k) Zz (by kernel_rfl) (by kernel_rfl) rfl (Zq Try.func82 (by kernel_rfl)) ?_
  intro β l K r hr
  simp only [laws_eqStringS.e] at hr
  split at hr
  case h_2 => cases hr
  unfold laws_eqStringS.f at hr
  split at hr
  case h_2 => cases hr
  rename_i hz
  exact ⟨_, _, hr, _, laws_eqStringS.dec, _, (laws_eqStringS.f_eq k _ _ laws_eqStringS.dec).trans (by rw [laws_eqStringS.kt_dec]; exact hz), fun rs os h ho => laws_eqStringS.inj _ _ h ho⟩
noncomputable def laws_eqValueS.l0 {β : Type} (k : Nat) (r_laws_eqValueS : (List (List D)) → (List (List D)) → (Bool → Option β) → Option β) (r_laws_eqValue : Int → ByteArray → Int → (List (List D)) → (List (List D)) → Int → ByteArray → Int → (List (List D)) → (List (List D)) → (Bool → Option β) → Option β) (v0_0 : List (List D)) (v0_1 : List (List D)) (K : Bool → Option β) (L0 : Int → Option β) (v : Int) : Option β :=
  match v with
  | v0_2 => bif (decide ((v0_2 : Int) < (v0_0.length : Int))) then (ZX v0_0 v0_2 fun c34 => Zd c34 fun d35 r36 => ZM .i64 d35 fun x37 => Zd r36 fun d38 r39 => Zan d38 fun x40 => Zd r39 fun d41 r42 => ZM .i64 d41 fun x43 => Zd r42 fun d44 r45 => dSl d44 fun x46 => Zd r45 fun d47 r48 => dSl d47 fun x49 => Ze r48 (ZX v0_1 v0_2 fun c50 => Zd c50 fun d51 r52 => ZM .i64 d51 fun x53 => Zd r52 fun d54 r55 => Zan d54 fun x56 => Zd r55 fun d57 r58 => ZM .i64 d57 fun x59 => Zd r58 fun d60 r61 => dSl d60 fun x62 => Zd r61 fun d63 r64 => dSl d63 fun x65 => Ze r64 (r_laws_eqValue x37 x40 x43 x46 x49 x53 x56 x59 x62 x65 (fun y66 => bif (!y66) then (K false) else (L0 (IntKind.wrap .i64 (v0_2 + 1))))))) else (K true)
noncomputable def laws_eqValueS.body {β : Type} (k : Nat) (r_laws_eqValueS : (List (List D)) → (List (List D)) → (Bool → Option β) → Option β) (r_laws_eqValue : Int → ByteArray → Int → (List (List D)) → (List (List D)) → Int → ByteArray → Int → (List (List D)) → (List (List D)) → (Bool → Option β) → Option β) (a0 : List (List D)) (a1 : List (List D)) (K : Bool → Option β) : Option β :=
  bif (((a0.length : Int) : Int) != (a1.length : Int)) then (K false) else (Z4 (laws_eqValueS.l0 k r_laws_eqValueS r_laws_eqValue a0 a1 K) k (0))
noncomputable def laws_eqValue.body {β : Type} (k : Nat) (r_laws_eqValueS : (List (List D)) → (List (List D)) → (Bool → Option β) → Option β) (r_laws_eqValue : Int → ByteArray → Int → (List (List D)) → (List (List D)) → Int → ByteArray → Int → (List (List D)) → (List (List D)) → (Bool → Option β) → Option β) (a0_0 : Int) (a0_1 : ByteArray) (a0_2 : Int) (a0_3 : List (List D)) (a0_4 : List (List D)) (a1_0 : Int) (a1_1 : ByteArray) (a1_2 : Int) (a1_3 : List (List D)) (a1_4 : List (List D)) (K : Bool → Option β) : Option β :=
  bif ((a0_0 : Int) != a1_0) then (K false) else (bif (!(strEq a0_1 a1_1)) then (K false) else (bif ((a0_2 : Int) != a1_2) then (K false) else (laws_eqStringS.f k a0_3 a1_3 (fun y17 => bif (!y17) then (K false) else (r_laws_eqValueS a0_4 a1_4 (fun y67 => bif (!y67) then (K false) else (K true)))))))
noncomputable def laws_eqValueS.w {β : Type} (r : (List (List D)) → (List (List D)) → Option (Bool)) (a0 : List (List D)) (a1 : List (List D)) (K : Bool → Option β) : Option β :=
  match r a0 a1 with
  | some z0 => K z0
  | none => none
noncomputable def laws_eqValue.w {β : Type} (r : Int → ByteArray → Int → (List (List D)) → (List (List D)) → Int → ByteArray → Int → (List (List D)) → (List (List D)) → Option (Bool)) (a0_0 : Int) (a0_1 : ByteArray) (a0_2 : Int) (a0_3 : List (List D)) (a0_4 : List (List D)) (a1_0 : Int) (a1_1 : ByteArray) (a1_2 : Int) (a1_3 : List (List D)) (a1_4 : List (List D)) (K : Bool → Option β) : Option β :=
  match r a0_0 a0_1 a0_2 a0_3 a0_4 a1_0 a1_1 a1_2 a1_3 a1_4 with
  | some z0 => K z0
  | none => none
noncomputable def laws_eqValueS.all : Nat → ((List (List D)) → (List (List D)) → Option (Bool)) × (Int → ByteArray → Int → (List (List D)) → (List (List D)) → Int → ByteArray → Int → (List (List D)) → (List (List D)) → Option (Bool))
  | 0 => (fun _ _ => none, fun _ _ _ _ _ _ _ _ _ _ => none)
  | k + 1 => (fun r => (fun a0 a1 => laws_eqValueS.body k (laws_eqValueS.w r.1) (laws_eqValue.w r.2) a0 a1 (fun z0 => some z0), fun a0_0 a0_1 a0_2 a0_3 a0_4 a1_0 a1_1 a1_2 a1_3 a1_4 => laws_eqValue.body k (laws_eqValueS.w r.1) (laws_eqValue.w r.2) a0_0 a0_1 a0_2 a0_3 a0_4 a1_0 a1_1 a1_2 a1_3 a1_4 (fun z0 => some z0))) (laws_eqValueS.all k)
noncomputable def laws_eqValueS.t (k : Nat) (a0 : List (List D)) (a1 : List (List D)) : Option (Bool) := (laws_eqValueS.all k).1 a0 a1
noncomputable def laws_eqValue.t (k : Nat) (a0_0 : Int) (a0_1 : ByteArray) (a0_2 : Int) (a0_3 : List (List D)) (a0_4 : List (List D)) (a1_0 : Int) (a1_1 : ByteArray) (a1_2 : Int) (a1_3 : List (List D)) (a1_4 : List (List D)) : Option (Bool) := (laws_eqValueS.all k).2 a0_0 a0_1 a0_2 a0_3 a0_4 a1_0 a1_1 a1_2 a1_3 a1_4
noncomputable def laws_eqValueS.f {β : Type} (k : Nat) (a0 : List (List D)) (a1 : List (List D)) (K : Bool → Option β) : Option β := laws_eqValueS.w (laws_eqValueS.t k) a0 a1 K
noncomputable def laws_eqValue.f {β : Type} (k : Nat) (a0_0 : Int) (a0_1 : ByteArray) (a0_2 : Int) (a0_3 : List (List D)) (a0_4 : List (List D)) (a1_0 : Int) (a1_1 : ByteArray) (a1_2 : Int) (a1_3 : List (List D)) (a1_4 : List (List D)) (K : Bool → Option β) : Option β := laws_eqValue.w (laws_eqValue.t k) a0_0 a0_1 a0_2 a0_3 a0_4 a1_0 a1_1 a1_2 a1_3 a1_4 K
noncomputable def laws_eqValueS.g {β : Type} (k : Nat) (a0 : List (List D)) (a1 : List (List D)) (K : Bool → Option β) : Option β := laws_eqValueS.body k (laws_eqValueS.f k) (laws_eqValue.f k) a0 a1 K
theorem laws_eqValueS.t_zero (a0 : List (List D)) (a1 : List (List D)) : laws_eqValueS.t 0 a0 a1 = none := rfl
theorem laws_eqValueS.t_succ (k : Nat) (a0 : List (List D)) (a1 : List (List D)) : laws_eqValueS.t (k + 1) a0 a1 = laws_eqValueS.g k a0 a1 (fun z0 => some z0) := rfl
noncomputable def laws_eqValue.g {β : Type} (k : Nat) (a0_0 : Int) (a0_1 : ByteArray) (a0_2 : Int) (a0_3 : List (List D)) (a0_4 : List (List D)) (a1_0 : Int) (a1_1 : ByteArray) (a1_2 : Int) (a1_3 : List (List D)) (a1_4 : List (List D)) (K : Bool → Option β) : Option β := laws_eqValue.body k (laws_eqValueS.f k) (laws_eqValue.f k) a0_0 a0_1 a0_2 a0_3 a0_4 a1_0 a1_1 a1_2 a1_3 a1_4 K
theorem laws_eqValue.t_zero (a0_0 : Int) (a0_1 : ByteArray) (a0_2 : Int) (a0_3 : List (List D)) (a0_4 : List (List D)) (a1_0 : Int) (a1_1 : ByteArray) (a1_2 : Int) (a1_3 : List (List D)) (a1_4 : List (List D)) : laws_eqValue.t 0 a0_0 a0_1 a0_2 a0_3 a0_4 a1_0 a1_1 a1_2 a1_3 a1_4 = none := rfl
theorem laws_eqValue.t_succ (k : Nat) (a0_0 : Int) (a0_1 : ByteArray) (a0_2 : Int) (a0_3 : List (List D)) (a0_4 : List (List D)) (a1_0 : Int) (a1_1 : ByteArray) (a1_2 : Int) (a1_3 : List (List D)) (a1_4 : List (List D)) : laws_eqValue.t (k + 1) a0_0 a0_1 a0_2 a0_3 a0_4 a1_0 a1_1 a1_2 a1_3 a1_4 = laws_eqValue.g k a0_0 a0_1 a0_2 a0_3 a0_4 a1_0 a1_1 a1_2 a1_3 a1_4 (fun z0 => some z0) := rfl
noncomputable def laws_eqValueS.as (a0 : List (List D)) (a1 : List (List D)) : List A := [.d (.sl a0), .d (.sl a1)]
noncomputable def laws_eqValueS.kt {β : Type} (a0 : List (List D)) (a1 : List (List D)) (K0 : List (List C) → List Out → Option β) : Bool → Option β := fun z0 => K0 [[.d (.bool z0)]] []
noncomputable def laws_eqValueS.e (k : Nat) : ZQ := { modes := [(.imm, 0), (.imm, 0)], rts := [4], al := false, run := fun {β} l K => match l with | [.d (.sl a0), .d (.sl a1)] => laws_eqValueS.f k a0 a1 (laws_eqValueS.kt a0 a1 K) | _ => none }
noncomputable def laws_eqValue.as (a0_0 : Int) (a0_1 : ByteArray) (a0_2 : Int) (a0_3 : List (List D)) (a0_4 : List (List D)) (a1_0 : Int) (a1_1 : ByteArray) (a1_2 : Int) (a1_3 : List (List D)) (a1_4 : List (List D)) : List A := [.agg [.int .i64 a0_0, .str a0_1, .int .i64 a0_2, .sl a0_3, .sl a0_4], .agg [.int .i64 a1_0, .str a1_1, .int .i64 a1_2, .sl a1_3, .sl a1_4]]
noncomputable def laws_eqValue.kt {β : Type} (a0_0 : Int) (a0_1 : ByteArray) (a0_2 : Int) (a0_3 : List (List D)) (a0_4 : List (List D)) (a1_0 : Int) (a1_1 : ByteArray) (a1_2 : Int) (a1_3 : List (List D)) (a1_4 : List (List D)) (K0 : List (List C) → List Out → Option β) : Bool → Option β := fun z0 => K0 [[.d (.bool z0)]] []
noncomputable def laws_eqValue.e (k : Nat) : ZQ := { modes := [(.imm, 0), (.imm, 0)], rts := [4], al := false, run := fun {β} l K => match l with | [.agg [.int .i64 a0_0, .str a0_1, .int .i64 a0_2, .sl a0_3, .sl a0_4], .agg [.int .i64 a1_0, .str a1_1, .int .i64 a1_2, .sl a1_3, .sl a1_4]] => laws_eqValue.f k a0_0 a0_1 a0_2 a0_3 a0_4 a1_0 a1_1 a1_2 a1_3 a1_4 (laws_eqValue.kt a0_0 a0_1 a0_2 a0_3 a0_4 a1_0 a1_1 a1_2 a1_3 a1_4 K) | _ => none }
noncomputable def laws_eqValueS.E (k : Nat) : Env := fun g => bif g == 190 then some (laws_eqValue.e k) else none
noncomputable def laws_eqValueS.h : ZY := ⟨fun n => bif n == 4 then ⟨[(0, .asis), (1, .asis), (5, .asis)], []⟩ else ⟨[], []⟩, fun _ => none, false, []⟩
noncomputable def laws_eqValueS.s0 (v0_0 : List (List D)) (v0_1 : List (List D)) (v : Int) : St :=
  match v with
  | v0_2 => ⟨[.d false (.sl v0_0), .d false (.sl v0_1), .any, .any, .any, .d true (.int .i64 v0_2), .any, .any, .any, .any, .any, .any, .any, .any, .any, .any, .any, .any, .any, .any, .any, .any, .any, .any, .any, .any, .any], []⟩
noncomputable def laws_eqValueS.b0 {β : Type} (k : Nat) : St → (Ex → St → Option β) → Option β := fun s K => den Try.prog (laws_eqValueS.E k) laws_eqValueS.h.H laws_eqValueS.h.J k (Zad [1, 1, 0, 1, 0, 0] (Zl Try.f226)) s K
noncomputable def laws_eqValueS.c0 {β : Type} (k : Nat) (a0 : List (List D)) (a1 : List (List D)) (K0 : List (List C) → List Out → Option β) : Ex → St → Option β := Zae Try.prog (laws_eqValueS.E k) laws_eqValueS.h k [1, 1, 0, 1, 0] (Zl Try.f226) (Zak Try.prog Try.f226 laws_eqValueS.h (laws_eqValueS.as a0 a1) K0)
theorem laws_eqValueS.l0_eq {β : Type} (k : Nat) (a0 : List (List D)) (a1 : List (List D)) (K0 : List (List C) → List Out → Option β) (v0_0 : List (List D)) (v0_1 : List (List D)) : ∀ (kk : Nat) (v : Int), Zx (laws_eqValueS.b0 k) (laws_eqValueS.h.H 4) kk (laws_eqValueS.s0 v0_0 v0_1 v) (laws_eqValueS.c0 k a0 a1 K0) = Z4 (laws_eqValueS.l0 k (laws_eqValueS.f k) (laws_eqValue.f k) v0_0 v0_1 (laws_eqValueS.kt a0 a1 K0)) kk v :=
  Z9 (laws_eqValueS.s0 v0_0 v0_1) _ (fun L0 v => by kernel_rfl)
noncomputable def laws_eqValueS.m {β : Type} (k : Nat) (a0 : List (List D)) (a1 : List (List D)) (K0 : List (List C) → List Out → Option β) (F : ((List (List D)) → (List (List D)) → Int → Option β)) : Option β :=
  bif (((a0.length : Int) : Int) != (a1.length : Int)) then ((laws_eqValueS.kt a0 a1 K0) false) else ((F) a0 a1 (0))
theorem laws_eqValueS.f_eq {β : Type} (k : Nat) (a0 : List (List D)) (a1 : List (List D)) (K0 : List (List C) → List Out → Option β) : ZJ Try.prog (laws_eqValueS.E k) laws_eqValueS.h k Try.f226 (laws_eqValueS.as a0 a1) K0 = laws_eqValueS.g k a0 a1 (laws_eqValueS.kt a0 a1 K0) := Eq.trans (b := (laws_eqValueS.m k a0 a1 K0) (fun (v0_0 : List (List D)) (v0_1 : List (List D)) (v : Int) => Zx (laws_eqValueS.b0 k) (laws_eqValueS.h.H 4) k (laws_eqValueS.s0 v0_0 v0_1 v) (laws_eqValueS.c0 k a0 a1 K0))) (by kernel_rfl) (Eq.trans (congrArg (laws_eqValueS.m k a0 a1 K0) (funext fun v0_0 => funext fun v0_1 => funext fun v => laws_eqValueS.l0_eq k a0 a1 K0 v0_0 v0_1 k v)) (by kernel_rfl))
noncomputable def laws_eqValue.E (k : Nat) : Env := fun g => bif g == 82 then some (laws_eqStringS.e k) else bif g == 226 then some (laws_eqValueS.e k) else none
noncomputable def laws_eqValue.h : ZY := ⟨fun n => ⟨[], []⟩, fun _ => none, false, []⟩
theorem laws_eqValue.f_eq {β : Type} (k : Nat) (a0_0 : Int) (a0_1 : ByteArray) (a0_2 : Int) (a0_3 : List (List D)) (a0_4 : List (List D)) (a1_0 : Int) (a1_1 : ByteArray) (a1_2 : Int) (a1_3 : List (List D)) (a1_4 : List (List D)) (K0 : List (List C) → List Out → Option β) : ZJ Try.prog (laws_eqValue.E k) laws_eqValue.h k Try.f190 (laws_eqValue.as a0_0 a0_1 a0_2 a0_3 a0_4 a1_0 a1_1 a1_2 a1_3 a1_4) K0 = laws_eqValue.g k a0_0 a0_1 a0_2 a0_3 a0_4 a1_0 a1_1 a1_2 a1_3 a1_4 (laws_eqValue.kt a0_0 a0_1 a0_2 a0_3 a0_4 a1_0 a1_1 a1_2 a1_3 a1_4 K0) := by kernel_rfl
noncomputable def laws_eqValueS.dec (rs : List (List C)) (os : List Out) : Option (Bool) := Zd rs fun c1 r2 => Zd c1 fun x3 l4 => cD x3 fun d5 => ZaF d5 fun w0 => Ze l4 <| Ze r2 <| Ze os (some w0)
theorem laws_eqValueS.kt_dec (a0 : List (List D)) (a1 : List (List D)) : laws_eqValueS.kt a0 a1 laws_eqValueS.dec = (fun z0 => some z0) := by kernel_rfl
theorem laws_eqValueS.inj (a0 : List (List D)) (a1 : List (List D)) {rs : List (List C)} {os : List Out} {z0 : Bool} (h : laws_eqValueS.dec rs os = some z0) (ho : Zo (laws_eqValueS.as a0 a1) os) : rs = [[.d (.bool z0)]] ∧ os = [] := by
  unfold laws_eqValueS.dec at h
  obtain ⟨c1, r2, rfl, h1⟩ := Zb h
  obtain ⟨x3, l4, rfl, h2⟩ := Zb h1
  obtain ⟨d5, rfl, h3⟩ := Zt h2
  obtain ⟨w0, rfl, h4⟩ := Z0 h3
  obtain ⟨rfl, h5⟩ := Zc h4
  obtain ⟨rfl, h6⟩ := Zc h5
  obtain ⟨rfl, h7⟩ := Zc h6
  obtain rfl := Option.some.inj h7
  exact ⟨rfl, rfl⟩
noncomputable def laws_eqValue.dec (rs : List (List C)) (os : List Out) : Option (Bool) := Zd rs fun c1 r2 => Zd c1 fun x3 l4 => cD x3 fun d5 => ZaF d5 fun w0 => Ze l4 <| Ze r2 <| Ze os (some w0)
theorem laws_eqValue.kt_dec (a0_0 : Int) (a0_1 : ByteArray) (a0_2 : Int) (a0_3 : List (List D)) (a0_4 : List (List D)) (a1_0 : Int) (a1_1 : ByteArray) (a1_2 : Int) (a1_3 : List (List D)) (a1_4 : List (List D)) : laws_eqValue.kt a0_0 a0_1 a0_2 a0_3 a0_4 a1_0 a1_1 a1_2 a1_3 a1_4 laws_eqValue.dec = (fun z0 => some z0) := by kernel_rfl
theorem laws_eqValue.inj (a0_0 : Int) (a0_1 : ByteArray) (a0_2 : Int) (a0_3 : List (List D)) (a0_4 : List (List D)) (a1_0 : Int) (a1_1 : ByteArray) (a1_2 : Int) (a1_3 : List (List D)) (a1_4 : List (List D)) {rs : List (List C)} {os : List Out} {z0 : Bool} (h : laws_eqValue.dec rs os = some z0) (ho : Zo (laws_eqValue.as a0_0 a0_1 a0_2 a0_3 a0_4 a1_0 a1_1 a1_2 a1_3 a1_4) os) : rs = [[.d (.bool z0)]] ∧ os = [] := by
  unfold laws_eqValue.dec at h
  obtain ⟨c1, r2, rfl, h1⟩ := Zb h
  obtain ⟨x3, l4, rfl, h2⟩ := Zb h1
  obtain ⟨d5, rfl, h3⟩ := Zt h2
  obtain ⟨w0, rfl, h4⟩ := Z0 h3
  obtain ⟨rfl, h5⟩ := Zc h4
  obtain ⟨rfl, h6⟩ := Zc h5
  obtain ⟨rfl, h7⟩ := Zc h6
  obtain rfl := Option.some.inj h7
  exact ⟨rfl, rfl⟩
theorem laws_eqValueS.oks (k : Nat) : Zv Try.prog 226 (laws_eqValueS.e k) ∧ Zv Try.prog 190 (laws_eqValue.e k) := by
  induction k with
  | zero =>
    refine ⟨?_, ?_⟩
    · exact Zb1 (Zq Try.func226 (by kernel_rfl)) fun β l K r h => by
        simp only [laws_eqValueS.e] at h
        split at h
        · unfold laws_eqValueS.f at h
          unfold laws_eqValueS.w at h
          rw [laws_eqValueS.t_zero] at h
          cases h
        · cases h
    · exact Zb1 (Zq Try.func190 (by kernel_rfl)) fun β l K r h => by
        simp only [laws_eqValue.e] at h
        split at h
        · unfold laws_eqValue.f at h
          unfold laws_eqValue.w at h
          rw [laws_eqValue.t_zero] at h
          cases h
        · cases h
  | succ k ih =>
    refine ⟨?_, ?_⟩
    · refine Zu mix tyok (fn := Try.f226) (c := Zl Try.f226) Try.func226 (by kernel_rfl) (h := laws_eqValueS.h) (k := k) (E := laws_eqValueS.E k) (Zk ih.2 Zz) (by kernel_rfl) (by kernel_rfl) rfl (Zq Try.func226 (by kernel_rfl)) ?_
      intro β l K r hr
      simp only [laws_eqValueS.e] at hr
      split at hr
      case h_2 => cases hr
      unfold laws_eqValueS.f at hr
      unfold laws_eqValueS.w at hr
      split at hr
      case h_2 => cases hr
      rename_i hz
      exact ⟨_, _, hr, _, laws_eqValueS.dec, _, (laws_eqValueS.f_eq k _ _ laws_eqValueS.dec).trans (by rw [laws_eqValueS.kt_dec]; exact hz), fun rs os h ho => laws_eqValueS.inj _ _ h ho⟩
    · refine Zu mix tyok (fn := Try.f190) (c := Zl Try.f190) Try.func190 (by kernel_rfl) (h := laws_eqValue.h) (k := k) (E := laws_eqValue.E k) (Zk (laws_eqStringS.ok k) (Zk ih.1 Zz)) (by kernel_rfl) (by kernel_rfl) rfl (Zq Try.func190 (by kernel_rfl)) ?_
      intro β l K r hr
      simp only [laws_eqValue.e] at hr
      split at hr
      case h_2 => cases hr
      unfold laws_eqValue.f at hr
      unfold laws_eqValue.w at hr
      split at hr
      case h_2 => cases hr
      rename_i hz
      exact ⟨_, _, hr, _, laws_eqValue.dec, _, (laws_eqValue.f_eq k _ _ _ _ _ _ _ _ _ _ laws_eqValue.dec).trans (by rw [laws_eqValue.kt_dec]; exact hz), fun rs os h ho => laws_eqValue.inj _ _ _ _ _ _ _ _ _ _ h ho⟩
theorem laws_eqValueS.ok (k : Nat) : Zv Try.prog 226 (laws_eqValueS.e k) := (laws_eqValueS.oks k).1
theorem laws_eqValue.ok (k : Nat) : Zv Try.prog 190 (laws_eqValue.e k) := (laws_eqValueS.oks k).2
noncomputable def laws_eqWork.g {β : Type} (k : Nat) (a0_0 : Int) (a0_1 : Int) (a0_2 : Int) (a0_3 : ByteArray) (a0_4 : Int) (a0_5 : List (List D)) (a0_6 : List (List D)) (a1_0 : Int) (a1_1 : Int) (a1_2 : Int) (a1_3 : ByteArray) (a1_4 : Int) (a1_5 : List (List D)) (a1_6 : List (List D)) (K : Bool → Option β) : Option β :=
  bif ((a0_0 : Int) != a1_0) then (K false) else (bif ((a0_1 : Int) != a1_1) then (K false) else (laws_eqValue.f k a0_2 a0_3 a0_4 a0_5 a0_6 a1_2 a1_3 a1_4 a1_5 a1_6 (fun y68 => bif (!y68) then (K false) else (K true))))
noncomputable def laws_eqWork.t (k : Nat) (a0_0 : Int) (a0_1 : Int) (a0_2 : Int) (a0_3 : ByteArray) (a0_4 : Int) (a0_5 : List (List D)) (a0_6 : List (List D)) (a1_0 : Int) (a1_1 : Int) (a1_2 : Int) (a1_3 : ByteArray) (a1_4 : Int) (a1_5 : List (List D)) (a1_6 : List (List D)) : Option (Bool) := laws_eqWork.g k a0_0 a0_1 a0_2 a0_3 a0_4 a0_5 a0_6 a1_0 a1_1 a1_2 a1_3 a1_4 a1_5 a1_6 (fun z0 => some z0)
noncomputable def laws_eqWork.f {β : Type} (k : Nat) (a0_0 : Int) (a0_1 : Int) (a0_2 : Int) (a0_3 : ByteArray) (a0_4 : Int) (a0_5 : List (List D)) (a0_6 : List (List D)) (a1_0 : Int) (a1_1 : Int) (a1_2 : Int) (a1_3 : ByteArray) (a1_4 : Int) (a1_5 : List (List D)) (a1_6 : List (List D)) (K : Bool → Option β) : Option β :=
  match laws_eqWork.t k a0_0 a0_1 a0_2 a0_3 a0_4 a0_5 a0_6 a1_0 a1_1 a1_2 a1_3 a1_4 a1_5 a1_6 with
  | some z0 => K z0
  | none => none
noncomputable def laws_eqWork.as (a0_0 : Int) (a0_1 : Int) (a0_2 : Int) (a0_3 : ByteArray) (a0_4 : Int) (a0_5 : List (List D)) (a0_6 : List (List D)) (a1_0 : Int) (a1_1 : Int) (a1_2 : Int) (a1_3 : ByteArray) (a1_4 : Int) (a1_5 : List (List D)) (a1_6 : List (List D)) : List A := [.agg [.int .i64 a0_0, .int .i64 a0_1, .int .i64 a0_2, .str a0_3, .int .i64 a0_4, .sl a0_5, .sl a0_6], .agg [.int .i64 a1_0, .int .i64 a1_1, .int .i64 a1_2, .str a1_3, .int .i64 a1_4, .sl a1_5, .sl a1_6]]
noncomputable def laws_eqWork.kt {β : Type} (a0_0 : Int) (a0_1 : Int) (a0_2 : Int) (a0_3 : ByteArray) (a0_4 : Int) (a0_5 : List (List D)) (a0_6 : List (List D)) (a1_0 : Int) (a1_1 : Int) (a1_2 : Int) (a1_3 : ByteArray) (a1_4 : Int) (a1_5 : List (List D)) (a1_6 : List (List D)) (K0 : List (List C) → List Out → Option β) : Bool → Option β := fun z0 => K0 [[.d (.bool z0)]] []
noncomputable def laws_eqWork.e (k : Nat) : ZQ := { modes := [(.imm, 0), (.imm, 0)], rts := [4], al := false, run := fun {β} l K => match l with | [.agg [.int .i64 a0_0, .int .i64 a0_1, .int .i64 a0_2, .str a0_3, .int .i64 a0_4, .sl a0_5, .sl a0_6], .agg [.int .i64 a1_0, .int .i64 a1_1, .int .i64 a1_2, .str a1_3, .int .i64 a1_4, .sl a1_5, .sl a1_6]] => laws_eqWork.f k a0_0 a0_1 a0_2 a0_3 a0_4 a0_5 a0_6 a1_0 a1_1 a1_2 a1_3 a1_4 a1_5 a1_6 (laws_eqWork.kt a0_0 a0_1 a0_2 a0_3 a0_4 a0_5 a0_6 a1_0 a1_1 a1_2 a1_3 a1_4 a1_5 a1_6 K) | _ => none }
noncomputable def laws_eqWork.E (k : Nat) : Env := fun g => bif g == 190 then some (laws_eqValue.e k) else none
noncomputable def laws_eqWork.h : ZY := ⟨fun n => ⟨[], []⟩, fun _ => none, false, []⟩
theorem laws_eqWork.f_eq {β : Type} (k : Nat) (a0_0 : Int) (a0_1 : Int) (a0_2 : Int) (a0_3 : ByteArray) (a0_4 : Int) (a0_5 : List (List D)) (a0_6 : List (List D)) (a1_0 : Int) (a1_1 : Int) (a1_2 : Int) (a1_3 : ByteArray) (a1_4 : Int) (a1_5 : List (List D)) (a1_6 : List (List D)) (K0 : List (List C) → List Out → Option β) : ZJ Try.prog (laws_eqWork.E k) laws_eqWork.h k Try.f112 (laws_eqWork.as a0_0 a0_1 a0_2 a0_3 a0_4 a0_5 a0_6 a1_0 a1_1 a1_2 a1_3 a1_4 a1_5 a1_6) K0 = laws_eqWork.g k a0_0 a0_1 a0_2 a0_3 a0_4 a0_5 a0_6 a1_0 a1_1 a1_2 a1_3 a1_4 a1_5 a1_6 (laws_eqWork.kt a0_0 a0_1 a0_2 a0_3 a0_4 a0_5 a0_6 a1_0 a1_1 a1_2 a1_3 a1_4 a1_5 a1_6 K0) := by kernel_rfl
noncomputable def laws_eqWork.dec (rs : List (List C)) (os : List Out) : Option (Bool) := Zd rs fun c1 r2 => Zd c1 fun x3 l4 => cD x3 fun d5 => ZaF d5 fun w0 => Ze l4 <| Ze r2 <| Ze os (some w0)
theorem laws_eqWork.kt_dec (a0_0 : Int) (a0_1 : Int) (a0_2 : Int) (a0_3 : ByteArray) (a0_4 : Int) (a0_5 : List (List D)) (a0_6 : List (List D)) (a1_0 : Int) (a1_1 : Int) (a1_2 : Int) (a1_3 : ByteArray) (a1_4 : Int) (a1_5 : List (List D)) (a1_6 : List (List D)) : laws_eqWork.kt a0_0 a0_1 a0_2 a0_3 a0_4 a0_5 a0_6 a1_0 a1_1 a1_2 a1_3 a1_4 a1_5 a1_6 laws_eqWork.dec = (fun z0 => some z0) := by kernel_rfl
theorem laws_eqWork.inj (a0_0 : Int) (a0_1 : Int) (a0_2 : Int) (a0_3 : ByteArray) (a0_4 : Int) (a0_5 : List (List D)) (a0_6 : List (List D)) (a1_0 : Int) (a1_1 : Int) (a1_2 : Int) (a1_3 : ByteArray) (a1_4 : Int) (a1_5 : List (List D)) (a1_6 : List (List D)) {rs : List (List C)} {os : List Out} {z0 : Bool} (h : laws_eqWork.dec rs os = some z0) (ho : Zo (laws_eqWork.as a0_0 a0_1 a0_2 a0_3 a0_4 a0_5 a0_6 a1_0 a1_1 a1_2 a1_3 a1_4 a1_5 a1_6) os) : rs = [[.d (.bool z0)]] ∧ os = [] := by
  unfold laws_eqWork.dec at h
  obtain ⟨c1, r2, rfl, h1⟩ := Zb h
  obtain ⟨x3, l4, rfl, h2⟩ := Zb h1
  obtain ⟨d5, rfl, h3⟩ := Zt h2
  obtain ⟨w0, rfl, h4⟩ := Z0 h3
  obtain ⟨rfl, h5⟩ := Zc h4
  obtain ⟨rfl, h6⟩ := Zc h5
  obtain ⟨rfl, h7⟩ := Zc h6
  obtain rfl := Option.some.inj h7
  exact ⟨rfl, rfl⟩
theorem laws_eqWork.ok (k : Nat) : Zv Try.prog 112 (laws_eqWork.e k) := by
  refine Zu mix tyok (fn := Try.f112) (c := Zl Try.f112) Try.func112 (by kernel_rfl) (h := laws_eqWork.h) (k := k) (E := laws_eqWork.E k) (Zk (laws_eqValue.ok k) Zz) (by kernel_rfl) (by kernel_rfl) rfl (Zq Try.func112 (by kernel_rfl)) ?_
  intro β l K r hr
  simp only [laws_eqWork.e] at hr
  split at hr
  case h_2 => cases hr
  unfold laws_eqWork.f at hr
  split at hr
  case h_2 => cases hr
  rename_i hz
  exact ⟨_, _, hr, _, laws_eqWork.dec, _, (laws_eqWork.f_eq k _ _ _ _ _ _ _ _ _ _ _ _ _ _ laws_eqWork.dec).trans (by rw [laws_eqWork.kt_dec]; exact hz), fun rs os h ho => laws_eqWork.inj _ _ _ _ _ _ _ _ _ _ _ _ _ _ h ho⟩
noncomputable def laws_eqWorkS.l0 {β : Type} (k : Nat) (v0_0 : List (List D)) (v0_1 : List (List D)) (K : Bool → Option β) (L0 : Int → Option β) (v : Int) : Option β :=
  match v with
  | v0_2 => bif (decide ((v0_2 : Int) < (v0_0.length : Int))) then (ZX v0_0 v0_2 fun c70 => Zd c70 fun d71 r72 => ZM .i64 d71 fun x73 => Zd r72 fun d74 r75 => ZM .i64 d74 fun x76 => Zd r75 fun d77 r78 => ZM .i64 d77 fun x79 => Zd r78 fun d80 r81 => Zan d80 fun x82 => Zd r81 fun d83 r84 => ZM .i64 d83 fun x85 => Zd r84 fun d86 r87 => dSl d86 fun x88 => Zd r87 fun d89 r90 => dSl d89 fun x91 => Ze r90 (ZX v0_1 v0_2 fun c92 => Zd c92 fun d93 r94 => ZM .i64 d93 fun x95 => Zd r94 fun d96 r97 => ZM .i64 d96 fun x98 => Zd r97 fun d99 r100 => ZM .i64 d99 fun x101 => Zd r100 fun d102 r103 => Zan d102 fun x104 => Zd r103 fun d105 r106 => ZM .i64 d105 fun x107 => Zd r106 fun d108 r109 => dSl d108 fun x110 => Zd r109 fun d111 r112 => dSl d111 fun x113 => Ze r112 (laws_eqWork.f k x73 x76 x79 x82 x85 x88 x91 x95 x98 x101 x104 x107 x110 x113 (fun y114 => bif (!y114) then (K false) else (L0 (IntKind.wrap .i64 (v0_2 + 1))))))) else (K true)
noncomputable def laws_eqWorkS.g {β : Type} (k : Nat) (a0 : List (List D)) (a1 : List (List D)) (K : Bool → Option β) : Option β :=
  bif (((a0.length : Int) : Int) != (a1.length : Int)) then (K false) else (Z4 (laws_eqWorkS.l0 k a0 a1 K) k (0))
noncomputable def laws_eqWorkS.t (k : Nat) (a0 : List (List D)) (a1 : List (List D)) : Option (Bool) := laws_eqWorkS.g k a0 a1 (fun z0 => some z0)
noncomputable def laws_eqWorkS.f {β : Type} (k : Nat) (a0 : List (List D)) (a1 : List (List D)) (K : Bool → Option β) : Option β :=
  match laws_eqWorkS.t k a0 a1 with
  | some z0 => K z0
  | none => none
noncomputable def laws_eqWorkS.as (a0 : List (List D)) (a1 : List (List D)) : List A := [.d (.sl a0), .d (.sl a1)]
noncomputable def laws_eqWorkS.kt {β : Type} (a0 : List (List D)) (a1 : List (List D)) (K0 : List (List C) → List Out → Option β) : Bool → Option β := fun z0 => K0 [[.d (.bool z0)]] []
noncomputable def laws_eqWorkS.e (k : Nat) : ZQ := { modes := [(.imm, 0), (.imm, 0)], rts := [4], al := false, run := fun {β} l K => match l with | [.d (.sl a0), .d (.sl a1)] => laws_eqWorkS.f k a0 a1 (laws_eqWorkS.kt a0 a1 K) | _ => none }
noncomputable def laws_eqWorkS.E (k : Nat) : Env := fun g => bif g == 112 then some (laws_eqWork.e k) else none
noncomputable def laws_eqWorkS.h : ZY := ⟨fun n => bif n == 4 then ⟨[(0, .asis), (1, .asis), (5, .asis)], []⟩ else ⟨[], []⟩, fun _ => none, false, []⟩
noncomputable def laws_eqWorkS.s0 (v0_0 : List (List D)) (v0_1 : List (List D)) (v : Int) : St :=
  match v with
  | v0_2 => ⟨[.d false (.sl v0_0), .d false (.sl v0_1), .any, .any, .any, .d true (.int .i64 v0_2), .any, .any, .any, .any, .any, .any, .any, .any, .any, .any, .any, .any, .any, .any, .any, .any, .any, .any, .any, .any, .any], []⟩
noncomputable def laws_eqWorkS.b0 {β : Type} (k : Nat) : St → (Ex → St → Option β) → Option β := fun s K => den Try.prog (laws_eqWorkS.E k) laws_eqWorkS.h.H laws_eqWorkS.h.J k (Zad [1, 1, 0, 1, 0, 0] (Zl Try.f36)) s K
noncomputable def laws_eqWorkS.c0 {β : Type} (k : Nat) (a0 : List (List D)) (a1 : List (List D)) (K0 : List (List C) → List Out → Option β) : Ex → St → Option β := Zae Try.prog (laws_eqWorkS.E k) laws_eqWorkS.h k [1, 1, 0, 1, 0] (Zl Try.f36) (Zak Try.prog Try.f36 laws_eqWorkS.h (laws_eqWorkS.as a0 a1) K0)
theorem laws_eqWorkS.l0_eq {β : Type} (k : Nat) (a0 : List (List D)) (a1 : List (List D)) (K0 : List (List C) → List Out → Option β) (v0_0 : List (List D)) (v0_1 : List (List D)) : ∀ (kk : Nat) (v : Int), Zx (laws_eqWorkS.b0 k) (laws_eqWorkS.h.H 4) kk (laws_eqWorkS.s0 v0_0 v0_1 v) (laws_eqWorkS.c0 k a0 a1 K0) = Z4 (laws_eqWorkS.l0 k v0_0 v0_1 (laws_eqWorkS.kt a0 a1 K0)) kk v :=
  Z9 (laws_eqWorkS.s0 v0_0 v0_1) _ (fun L0 v => by kernel_rfl)
noncomputable def laws_eqWorkS.m {β : Type} (k : Nat) (a0 : List (List D)) (a1 : List (List D)) (K0 : List (List C) → List Out → Option β) (F : ((List (List D)) → (List (List D)) → Int → Option β)) : Option β :=
  bif (((a0.length : Int) : Int) != (a1.length : Int)) then ((laws_eqWorkS.kt a0 a1 K0) false) else ((F) a0 a1 (0))
theorem laws_eqWorkS.f_eq {β : Type} (k : Nat) (a0 : List (List D)) (a1 : List (List D)) (K0 : List (List C) → List Out → Option β) : ZJ Try.prog (laws_eqWorkS.E k) laws_eqWorkS.h k Try.f36 (laws_eqWorkS.as a0 a1) K0 = laws_eqWorkS.g k a0 a1 (laws_eqWorkS.kt a0 a1 K0) := Eq.trans (b := (laws_eqWorkS.m k a0 a1 K0) (fun (v0_0 : List (List D)) (v0_1 : List (List D)) (v : Int) => Zx (laws_eqWorkS.b0 k) (laws_eqWorkS.h.H 4) k (laws_eqWorkS.s0 v0_0 v0_1 v) (laws_eqWorkS.c0 k a0 a1 K0))) (by kernel_rfl) (Eq.trans (congrArg (laws_eqWorkS.m k a0 a1 K0) (funext fun v0_0 => funext fun v0_1 => funext fun v => laws_eqWorkS.l0_eq k a0 a1 K0 v0_0 v0_1 k v)) (by kernel_rfl))
noncomputable def laws_eqWorkS.dec (rs : List (List C)) (os : List Out) : Option (Bool) := Zd rs fun c1 r2 => Zd c1 fun x3 l4 => cD x3 fun d5 => ZaF d5 fun w0 => Ze l4 <| Ze r2 <| Ze os (some w0)
theorem laws_eqWorkS.kt_dec (a0 : List (List D)) (a1 : List (List D)) : laws_eqWorkS.kt a0 a1 laws_eqWorkS.dec = (fun z0 => some z0) := by kernel_rfl
theorem laws_eqWorkS.inj (a0 : List (List D)) (a1 : List (List D)) {rs : List (List C)} {os : List Out} {z0 : Bool} (h : laws_eqWorkS.dec rs os = some z0) (ho : Zo (laws_eqWorkS.as a0 a1) os) : rs = [[.d (.bool z0)]] ∧ os = [] := by
  unfold laws_eqWorkS.dec at h
  obtain ⟨c1, r2, rfl, h1⟩ := Zb h
  obtain ⟨x3, l4, rfl, h2⟩ := Zb h1
  obtain ⟨d5, rfl, h3⟩ := Zt h2
  obtain ⟨w0, rfl, h4⟩ := Z0 h3
  obtain ⟨rfl, h5⟩ := Zc h4
  obtain ⟨rfl, h6⟩ := Zc h5
  obtain ⟨rfl, h7⟩ := Zc h6
  obtain rfl := Option.some.inj h7
  exact ⟨rfl, rfl⟩
theorem laws_eqWorkS.ok (k : Nat) : Zv Try.prog 36 (laws_eqWorkS.e k) := by
  refine Zu mix tyok (fn := Try.f36) (c := Zl Try.f36) Try.func36 (by kernel_rfl) (h := laws_eqWorkS.h) (k := k) (E := laws_eqWorkS.E k) (Zk (laws_eqWork.ok k) Zz) (by kernel_rfl) (by kernel_rfl) rfl (Zq Try.func36 (by kernel_rfl)) ?_
  intro β l K r hr
  simp only [laws_eqWorkS.e] at hr
  split at hr
  case h_2 => cases hr
  unfold laws_eqWorkS.f at hr
  split at hr
  case h_2 => cases hr
  rename_i hz
  exact ⟨_, _, hr, _, laws_eqWorkS.dec, _, (laws_eqWorkS.f_eq k _ _ laws_eqWorkS.dec).trans (by rw [laws_eqWorkS.kt_dec]; exact hz), fun rs os h ho => laws_eqWorkS.inj _ _ h ho⟩
noncomputable def laws_eqRun.g {β : Type} (k : Nat) (a0_0 : Int) (a0_1 : Int) (a1_0 : Int) (a1_1 : Int) (K : Bool → Option β) : Option β :=
  bif ((a0_0 : Int) != a1_0) then (K false) else (bif ((a0_1 : Int) != a1_1) then (K false) else (K true))
noncomputable def laws_eqRun.t (k : Nat) (a0_0 : Int) (a0_1 : Int) (a1_0 : Int) (a1_1 : Int) : Option (Bool) := laws_eqRun.g k a0_0 a0_1 a1_0 a1_1 (fun z0 => some z0)
noncomputable def laws_eqRun.f {β : Type} (k : Nat) (a0_0 : Int) (a0_1 : Int) (a1_0 : Int) (a1_1 : Int) (K : Bool → Option β) : Option β :=
  match laws_eqRun.t k a0_0 a0_1 a1_0 a1_1 with
  | some z0 => K z0
  | none => none
noncomputable def laws_eqRun.as (a0_0 : Int) (a0_1 : Int) (a1_0 : Int) (a1_1 : Int) : List A := [.agg [.int .i64 a0_0, .int .i64 a0_1], .agg [.int .i64 a1_0, .int .i64 a1_1]]
noncomputable def laws_eqRun.kt {β : Type} (a0_0 : Int) (a0_1 : Int) (a1_0 : Int) (a1_1 : Int) (K0 : List (List C) → List Out → Option β) : Bool → Option β := fun z0 => K0 [[.d (.bool z0)]] []
noncomputable def laws_eqRun.e (k : Nat) : ZQ := { modes := [(.imm, 0), (.imm, 0)], rts := [4], al := false, run := fun {β} l K => match l with | [.agg [.int .i64 a0_0, .int .i64 a0_1], .agg [.int .i64 a1_0, .int .i64 a1_1]] => laws_eqRun.f k a0_0 a0_1 a1_0 a1_1 (laws_eqRun.kt a0_0 a0_1 a1_0 a1_1 K) | _ => none }
noncomputable def laws_eqRun.E (k : Nat) : Env := fun g => none
noncomputable def laws_eqRun.h : ZY := ⟨fun n => ⟨[], []⟩, fun _ => none, false, []⟩
theorem laws_eqRun.f_eq {β : Type} (k : Nat) (a0_0 : Int) (a0_1 : Int) (a1_0 : Int) (a1_1 : Int) (K0 : List (List C) → List Out → Option β) : ZJ Try.prog (laws_eqRun.E k) laws_eqRun.h k Try.f150 (laws_eqRun.as a0_0 a0_1 a1_0 a1_1) K0 = laws_eqRun.g k a0_0 a0_1 a1_0 a1_1 (laws_eqRun.kt a0_0 a0_1 a1_0 a1_1 K0) := by kernel_rfl
noncomputable def laws_eqRun.dec (rs : List (List C)) (os : List Out) : Option (Bool) := Zd rs fun c1 r2 => Zd c1 fun x3 l4 => cD x3 fun d5 => ZaF d5 fun w0 => Ze l4 <| Ze r2 <| Ze os (some w0)
theorem laws_eqRun.kt_dec (a0_0 : Int) (a0_1 : Int) (a1_0 : Int) (a1_1 : Int) : laws_eqRun.kt a0_0 a0_1 a1_0 a1_1 laws_eqRun.dec = (fun z0 => some z0) := by kernel_rfl
theorem laws_eqRun.inj (a0_0 : Int) (a0_1 : Int) (a1_0 : Int) (a1_1 : Int) {rs : List (List C)} {os : List Out} {z0 : Bool} (h : laws_eqRun.dec rs os = some z0) (ho : Zo (laws_eqRun.as a0_0 a0_1 a1_0 a1_1) os) : rs = [[.d (.bool z0)]] ∧ os = [] := by
  unfold laws_eqRun.dec at h
  obtain ⟨c1, r2, rfl, h1⟩ := Zb h
  obtain ⟨x3, l4, rfl, h2⟩ := Zb h1
  obtain ⟨d5, rfl, h3⟩ := Zt h2
  obtain ⟨w0, rfl, h4⟩ := Z0 h3
  obtain ⟨rfl, h5⟩ := Zc h4
  obtain ⟨rfl, h6⟩ := Zc h5
  obtain ⟨rfl, h7⟩ := Zc h6
  obtain rfl := Option.some.inj h7
  exact ⟨rfl, rfl⟩
theorem laws_eqRun.ok (k : Nat) : Zv Try.prog 150 (laws_eqRun.e k) := by
  refine Zu mix tyok (fn := Try.f150) (c := Zl Try.f150) Try.func150 (by kernel_rfl) (h := laws_eqRun.h) (k := k) (E := laws_eqRun.E k) Zz (by kernel_rfl) (by kernel_rfl) rfl (Zq Try.func150 (by kernel_rfl)) ?_
  intro β l K r hr
  simp only [laws_eqRun.e] at hr
  split at hr
  case h_2 => cases hr
  unfold laws_eqRun.f at hr
  split at hr
  case h_2 => cases hr
  rename_i hz
  exact ⟨_, _, hr, _, laws_eqRun.dec, _, (laws_eqRun.f_eq k _ _ _ _ laws_eqRun.dec).trans (by rw [laws_eqRun.kt_dec]; exact hz), fun rs os h ho => laws_eqRun.inj _ _ _ _ h ho⟩
noncomputable def laws_eqRunS.l0 {β : Type} (k : Nat) (v0_0 : List (List D)) (v0_1 : List (List D)) (K : Bool → Option β) (L0 : Int → Option β) (v : Int) : Option β :=
  match v with
  | v0_2 => bif (decide ((v0_2 : Int) < (v0_0.length : Int))) then (ZX v0_0 v0_2 fun c16 => Zd c16 fun d17 r18 => ZM .i64 d17 fun x19 => Zd r18 fun d20 r21 => ZM .i64 d20 fun x22 => Ze r21 (ZX v0_1 v0_2 fun c23 => Zd c23 fun d24 r25 => ZM .i64 d24 fun x26 => Zd r25 fun d27 r28 => ZM .i64 d27 fun x29 => Ze r28 (laws_eqRun.f k x19 x22 x26 x29 (fun y30 => bif (!y30) then (K false) else (L0 (IntKind.wrap .i64 (v0_2 + 1))))))) else (K true)
noncomputable def laws_eqRunS.g {β : Type} (k : Nat) (a0 : List (List D)) (a1 : List (List D)) (K : Bool → Option β) : Option β :=
  bif (((a0.length : Int) : Int) != (a1.length : Int)) then (K false) else (Z4 (laws_eqRunS.l0 k a0 a1 K) k (0))
noncomputable def laws_eqRunS.t (k : Nat) (a0 : List (List D)) (a1 : List (List D)) : Option (Bool) := laws_eqRunS.g k a0 a1 (fun z0 => some z0)
noncomputable def laws_eqRunS.f {β : Type} (k : Nat) (a0 : List (List D)) (a1 : List (List D)) (K : Bool → Option β) : Option β :=
  match laws_eqRunS.t k a0 a1 with
  | some z0 => K z0
  | none => none
noncomputable def laws_eqRunS.as (a0 : List (List D)) (a1 : List (List D)) : List A := [.d (.sl a0), .d (.sl a1)]
noncomputable def laws_eqRunS.kt {β : Type} (a0 : List (List D)) (a1 : List (List D)) (K0 : List (List C) → List Out → Option β) : Bool → Option β := fun z0 => K0 [[.d (.bool z0)]] []
noncomputable def laws_eqRunS.e (k : Nat) : ZQ := { modes := [(.imm, 0), (.imm, 0)], rts := [4], al := false, run := fun {β} l K => match l with | [.d (.sl a0), .d (.sl a1)] => laws_eqRunS.f k a0 a1 (laws_eqRunS.kt a0 a1 K) | _ => none }
noncomputable def laws_eqRunS.E (k : Nat) : Env := fun g => bif g == 150 then some (laws_eqRun.e k) else none
noncomputable def laws_eqRunS.h : ZY := ⟨fun n => bif n == 4 then ⟨[(0, .asis), (1, .asis), (5, .asis)], []⟩ else ⟨[], []⟩, fun _ => none, false, []⟩
noncomputable def laws_eqRunS.s0 (v0_0 : List (List D)) (v0_1 : List (List D)) (v : Int) : St :=
  match v with
  | v0_2 => ⟨[.d false (.sl v0_0), .d false (.sl v0_1), .any, .any, .any, .d true (.int .i64 v0_2), .any, .any, .any, .any, .any, .any, .any, .any, .any, .any, .any, .any, .any, .any, .any, .any, .any, .any, .any, .any, .any], []⟩
noncomputable def laws_eqRunS.b0 {β : Type} (k : Nat) : St → (Ex → St → Option β) → Option β := fun s K => den Try.prog (laws_eqRunS.E k) laws_eqRunS.h.H laws_eqRunS.h.J k (Zad [1, 1, 0, 1, 0, 0] (Zl Try.f64)) s K
noncomputable def laws_eqRunS.c0 {β : Type} (k : Nat) (a0 : List (List D)) (a1 : List (List D)) (K0 : List (List C) → List Out → Option β) : Ex → St → Option β := Zae Try.prog (laws_eqRunS.E k) laws_eqRunS.h k [1, 1, 0, 1, 0] (Zl Try.f64) (Zak Try.prog Try.f64 laws_eqRunS.h (laws_eqRunS.as a0 a1) K0)
theorem laws_eqRunS.l0_eq {β : Type} (k : Nat) (a0 : List (List D)) (a1 : List (List D)) (K0 : List (List C) → List Out → Option β) (v0_0 : List (List D)) (v0_1 : List (List D)) : ∀ (kk : Nat) (v : Int), Zx (laws_eqRunS.b0 k) (laws_eqRunS.h.H 4) kk (laws_eqRunS.s0 v0_0 v0_1 v) (laws_eqRunS.c0 k a0 a1 K0) = Z4 (laws_eqRunS.l0 k v0_0 v0_1 (laws_eqRunS.kt a0 a1 K0)) kk v :=
  Z9 (laws_eqRunS.s0 v0_0 v0_1) _ (fun L0 v => by kernel_rfl)
noncomputable def laws_eqRunS.m {β : Type} (k : Nat) (a0 : List (List D)) (a1 : List (List D)) (K0 : List (List C) → List Out → Option β) (F : ((List (List D)) → (List (List D)) → Int → Option β)) : Option β :=
  bif (((a0.length : Int) : Int) != (a1.length : Int)) then ((laws_eqRunS.kt a0 a1 K0) false) else ((F) a0 a1 (0))
theorem laws_eqRunS.f_eq {β : Type} (k : Nat) (a0 : List (List D)) (a1 : List (List D)) (K0 : List (List C) → List Out → Option β) : ZJ Try.prog (laws_eqRunS.E k) laws_eqRunS.h k Try.f64 (laws_eqRunS.as a0 a1) K0 = laws_eqRunS.g k a0 a1 (laws_eqRunS.kt a0 a1 K0) := Eq.trans (b := (laws_eqRunS.m k a0 a1 K0) (fun (v0_0 : List (List D)) (v0_1 : List (List D)) (v : Int) => Zx (laws_eqRunS.b0 k) (laws_eqRunS.h.H 4) k (laws_eqRunS.s0 v0_0 v0_1 v) (laws_eqRunS.c0 k a0 a1 K0))) (by kernel_rfl) (Eq.trans (congrArg (laws_eqRunS.m k a0 a1 K0) (funext fun v0_0 => funext fun v0_1 => funext fun v => laws_eqRunS.l0_eq k a0 a1 K0 v0_0 v0_1 k v)) (by kernel_rfl))
noncomputable def laws_eqRunS.dec (rs : List (List C)) (os : List Out) : Option (Bool) := Zd rs fun c1 r2 => Zd c1 fun x3 l4 => cD x3 fun d5 => ZaF d5 fun w0 => Ze l4 <| Ze r2 <| Ze os (some w0)
theorem laws_eqRunS.kt_dec (a0 : List (List D)) (a1 : List (List D)) : laws_eqRunS.kt a0 a1 laws_eqRunS.dec = (fun z0 => some z0) := by kernel_rfl
theorem laws_eqRunS.inj (a0 : List (List D)) (a1 : List (List D)) {rs : List (List C)} {os : List Out} {z0 : Bool} (h : laws_eqRunS.dec rs os = some z0) (ho : Zo (laws_eqRunS.as a0 a1) os) : rs = [[.d (.bool z0)]] ∧ os = [] := by
  unfold laws_eqRunS.dec at h
  obtain ⟨c1, r2, rfl, h1⟩ := Zb h
  obtain ⟨x3, l4, rfl, h2⟩ := Zb h1
  obtain ⟨d5, rfl, h3⟩ := Zt h2
  obtain ⟨w0, rfl, h4⟩ := Z0 h3
  obtain ⟨rfl, h5⟩ := Zc h4
  obtain ⟨rfl, h6⟩ := Zc h5
  obtain ⟨rfl, h7⟩ := Zc h6
  obtain rfl := Option.some.inj h7
  exact ⟨rfl, rfl⟩
theorem laws_eqRunS.ok (k : Nat) : Zv Try.prog 64 (laws_eqRunS.e k) := by
  refine Zu mix tyok (fn := Try.f64) (c := Zl Try.f64) Try.func64 (by kernel_rfl) (h := laws_eqRunS.h) (k := k) (E := laws_eqRunS.E k) (Zk (laws_eqRun.ok k) Zz) (by kernel_rfl) (by kernel_rfl) rfl (Zq Try.func64 (by kernel_rfl)) ?_
  intro β l K r hr
  simp only [laws_eqRunS.e] at hr
  split at hr
  case h_2 => cases hr
  unfold laws_eqRunS.f at hr
  split at hr
  case h_2 => cases hr
  rename_i hz
  exact ⟨_, _, hr, _, laws_eqRunS.dec, _, (laws_eqRunS.f_eq k _ _ laws_eqRunS.dec).trans (by rw [laws_eqRunS.kt_dec]; exact hz), fun rs os h ho => laws_eqRunS.inj _ _ h ho⟩
noncomputable def laws_eqIsle.g {β : Type} (k : Nat) (a0_0 : ByteArray) (a0_1 : Int) (a0_2 : Int) (a0_3 : List (List D)) (a0_4 : List (List D)) (a1_0 : ByteArray) (a1_1 : Int) (a1_2 : Int) (a1_3 : List (List D)) (a1_4 : List (List D)) (K : Bool → Option β) : Option β :=
  bif (!(strEq a0_0 a1_0)) then (K false) else (bif ((a0_1 : Int) != a1_1) then (K false) else (bif ((a0_2 : Int) != a1_2) then (K false) else (laws_eqWorkS.f k a0_3 a1_3 (fun y115 => bif (!y115) then (K false) else (laws_eqRunS.f k a0_4 a1_4 (fun y116 => bif (!y116) then (K false) else (K true)))))))
noncomputable def laws_eqIsle.t (k : Nat) (a0_0 : ByteArray) (a0_1 : Int) (a0_2 : Int) (a0_3 : List (List D)) (a0_4 : List (List D)) (a1_0 : ByteArray) (a1_1 : Int) (a1_2 : Int) (a1_3 : List (List D)) (a1_4 : List (List D)) : Option (Bool) := laws_eqIsle.g k a0_0 a0_1 a0_2 a0_3 a0_4 a1_0 a1_1 a1_2 a1_3 a1_4 (fun z0 => some z0)
noncomputable def laws_eqIsle.f {β : Type} (k : Nat) (a0_0 : ByteArray) (a0_1 : Int) (a0_2 : Int) (a0_3 : List (List D)) (a0_4 : List (List D)) (a1_0 : ByteArray) (a1_1 : Int) (a1_2 : Int) (a1_3 : List (List D)) (a1_4 : List (List D)) (K : Bool → Option β) : Option β :=
  match laws_eqIsle.t k a0_0 a0_1 a0_2 a0_3 a0_4 a1_0 a1_1 a1_2 a1_3 a1_4 with
  | some z0 => K z0
  | none => none
noncomputable def laws_eqIsle.as (a0_0 : ByteArray) (a0_1 : Int) (a0_2 : Int) (a0_3 : List (List D)) (a0_4 : List (List D)) (a1_0 : ByteArray) (a1_1 : Int) (a1_2 : Int) (a1_3 : List (List D)) (a1_4 : List (List D)) : List A := [.agg [.str a0_0, .int .i64 a0_1, .int .i64 a0_2, .sl a0_3, .sl a0_4], .agg [.str a1_0, .int .i64 a1_1, .int .i64 a1_2, .sl a1_3, .sl a1_4]]
noncomputable def laws_eqIsle.kt {β : Type} (a0_0 : ByteArray) (a0_1 : Int) (a0_2 : Int) (a0_3 : List (List D)) (a0_4 : List (List D)) (a1_0 : ByteArray) (a1_1 : Int) (a1_2 : Int) (a1_3 : List (List D)) (a1_4 : List (List D)) (K0 : List (List C) → List Out → Option β) : Bool → Option β := fun z0 => K0 [[.d (.bool z0)]] []
noncomputable def laws_eqIsle.e (k : Nat) : ZQ := { modes := [(.imm, 0), (.imm, 0)], rts := [4], al := false, run := fun {β} l K => match l with | [.agg [.str a0_0, .int .i64 a0_1, .int .i64 a0_2, .sl a0_3, .sl a0_4], .agg [.str a1_0, .int .i64 a1_1, .int .i64 a1_2, .sl a1_3, .sl a1_4]] => laws_eqIsle.f k a0_0 a0_1 a0_2 a0_3 a0_4 a1_0 a1_1 a1_2 a1_3 a1_4 (laws_eqIsle.kt a0_0 a0_1 a0_2 a0_3 a0_4 a1_0 a1_1 a1_2 a1_3 a1_4 K) | _ => none }
noncomputable def laws_eqIsle.E (k : Nat) : Env := fun g => bif g == 36 then some (laws_eqWorkS.e k) else bif g == 64 then some (laws_eqRunS.e k) else none
noncomputable def laws_eqIsle.h : ZY := ⟨fun n => ⟨[], []⟩, fun _ => none, false, []⟩
theorem laws_eqIsle.f_eq {β : Type} (k : Nat) (a0_0 : ByteArray) (a0_1 : Int) (a0_2 : Int) (a0_3 : List (List D)) (a0_4 : List (List D)) (a1_0 : ByteArray) (a1_1 : Int) (a1_2 : Int) (a1_3 : List (List D)) (a1_4 : List (List D)) (K0 : List (List C) → List Out → Option β) : ZJ Try.prog (laws_eqIsle.E k) laws_eqIsle.h k Try.f35 (laws_eqIsle.as a0_0 a0_1 a0_2 a0_3 a0_4 a1_0 a1_1 a1_2 a1_3 a1_4) K0 = laws_eqIsle.g k a0_0 a0_1 a0_2 a0_3 a0_4 a1_0 a1_1 a1_2 a1_3 a1_4 (laws_eqIsle.kt a0_0 a0_1 a0_2 a0_3 a0_4 a1_0 a1_1 a1_2 a1_3 a1_4 K0) := by kernel_rfl
noncomputable def laws_eqIsle.dec (rs : List (List C)) (os : List Out) : Option (Bool) := Zd rs fun c1 r2 => Zd c1 fun x3 l4 => cD x3 fun d5 => ZaF d5 fun w0 => Ze l4 <| Ze r2 <| Ze os (some w0)
theorem laws_eqIsle.kt_dec (a0_0 : ByteArray) (a0_1 : Int) (a0_2 : Int) (a0_3 : List (List D)) (a0_4 : List (List D)) (a1_0 : ByteArray) (a1_1 : Int) (a1_2 : Int) (a1_3 : List (List D)) (a1_4 : List (List D)) : laws_eqIsle.kt a0_0 a0_1 a0_2 a0_3 a0_4 a1_0 a1_1 a1_2 a1_3 a1_4 laws_eqIsle.dec = (fun z0 => some z0) := by kernel_rfl
theorem laws_eqIsle.inj (a0_0 : ByteArray) (a0_1 : Int) (a0_2 : Int) (a0_3 : List (List D)) (a0_4 : List (List D)) (a1_0 : ByteArray) (a1_1 : Int) (a1_2 : Int) (a1_3 : List (List D)) (a1_4 : List (List D)) {rs : List (List C)} {os : List Out} {z0 : Bool} (h : laws_eqIsle.dec rs os = some z0) (ho : Zo (laws_eqIsle.as a0_0 a0_1 a0_2 a0_3 a0_4 a1_0 a1_1 a1_2 a1_3 a1_4) os) : rs = [[.d (.bool z0)]] ∧ os = [] := by
  unfold laws_eqIsle.dec at h
  obtain ⟨c1, r2, rfl, h1⟩ := Zb h
  obtain ⟨x3, l4, rfl, h2⟩ := Zb h1
  obtain ⟨d5, rfl, h3⟩ := Zt h2
  obtain ⟨w0, rfl, h4⟩ := Z0 h3
  obtain ⟨rfl, h5⟩ := Zc h4
  obtain ⟨rfl, h6⟩ := Zc h5
  obtain ⟨rfl, h7⟩ := Zc h6
  obtain rfl := Option.some.inj h7
  exact ⟨rfl, rfl⟩
theorem laws_eqIsle.ok (k : Nat) : Zv Try.prog 35 (laws_eqIsle.e k) := by
  refine Zu mix tyok (fn := Try.f35) (c := Zl Try.f35) Try.func35 (by kernel_rfl) (h := laws_eqIsle.h) (k := k) (E := laws_eqIsle.E k) (Zk (laws_eqWorkS.ok k) (Zk (laws_eqRunS.ok k) Zz)) (by kernel_rfl) (by kernel_rfl) rfl (Zq Try.func35 (by kernel_rfl)) ?_
  intro β l K r hr
  simp only [laws_eqIsle.e] at hr
  split at hr
  case h_2 => cases hr
  unfold laws_eqIsle.f at hr
  split at hr
  case h_2 => cases hr
  rename_i hz
  exact ⟨_, _, hr, _, laws_eqIsle.dec, _, (laws_eqIsle.f_eq k _ _ _ _ _ _ _ _ _ _ laws_eqIsle.dec).trans (by rw [laws_eqIsle.kt_dec]; exact hz), fun rs os h ho => laws_eqIsle.inj _ _ _ _ _ _ _ _ _ _ h ho⟩
noncomputable def laws_markText.l0 {β : Type} (k : Nat) (K : ByteArray → Option β) (L0 : (Int × ByteArray) → Option β) (v : Int × ByteArray) : Option β :=
  match v with
  | (v0_0, v0_1) => bif (decide ((v0_0 : Int) > 0)) then (ZH ((10 : Int) ≠ 0) (ZH ((((⟨#[UInt8.ofNat (Int.toNat (IntKind.wrap .u8 (IntKind.wrap .i64 (48 + (Int.tmod v0_0 10)))))]⟩ : ByteArray).size + v0_1.size : Nat) : Int) ≤ 9223372036854775807) (ZH ((10 : Int) ≠ 0) (L0 (IntKind.wrap .i64 (Int.tdiv v0_0 10), (⟨#[UInt8.ofNat (Int.toNat (IntKind.wrap .u8 (IntKind.wrap .i64 (48 + (Int.tmod v0_0 10)))))]⟩ : ByteArray) ++ v0_1))))) else (ZH ((((⟨#[109]⟩ : ByteArray).size + v0_1.size : Nat) : Int) ≤ 9223372036854775807) (K ((⟨#[109]⟩ : ByteArray) ++ v0_1)))
noncomputable def laws_markText.g {β : Type} (k : Nat) (a0 : Int) (K : ByteArray → Option β) : Option β :=
  bif (decide ((a0 : Int) ≤ 0)) then (K (⟨#[109, 48]⟩ : ByteArray)) else (Z4 (laws_markText.l0 k K) k (a0, (⟨#[]⟩ : ByteArray)))
noncomputable def laws_markText.t (k : Nat) (a0 : Int) : Option (ByteArray) := laws_markText.g k a0 (fun z0 => some z0)
noncomputable def laws_markText.f {β : Type} (k : Nat) (a0 : Int) (K : ByteArray → Option β) : Option β :=
  match laws_markText.t k a0 with
  | some z0 => K z0
  | none => none
noncomputable def laws_markText.as (a0 : Int) : List A := [.d (.int .i64 a0)]
noncomputable def laws_markText.kt {β : Type} (a0 : Int) (K0 : List (List C) → List Out → Option β) : ByteArray → Option β := fun z0 => K0 [[.d (.str z0)]] []
noncomputable def laws_markText.e (k : Nat) : ZQ := { modes := [(.imm, 0)], rts := [9], al := false, run := fun {β} l K => match l with | [.d (.int .i64 a0)] => laws_markText.f k a0 (laws_markText.kt a0 K) | _ => none }
noncomputable def laws_markText.E (k : Nat) : Env := fun g => none
noncomputable def laws_markText.h : ZY := ⟨fun n => bif n == 4 then ⟨[(0, .dat false), (3, .asis)], []⟩ else ⟨[], []⟩, fun _ => none, false, []⟩
noncomputable def laws_markText.s0 (v : Int × ByteArray) : St :=
  match v with
  | (v0_0, v0_1) => ⟨[.d false (.int .i64 v0_0), .any, .any, .d true (.str v0_1), .any, .any, .any, .any, .any, .any, .any, .any, .any, .any, .any, .any, .any, .any, .any, .any], []⟩
noncomputable def laws_markText.b0 {β : Type} (k : Nat) : St → (Ex → St → Option β) → Option β := fun s K => den Try.prog (laws_markText.E k) laws_markText.h.H laws_markText.h.J k (Zad [1, 1, 1, 0, 0, 0] (Zl Try.f113)) s K
noncomputable def laws_markText.c0 {β : Type} (k : Nat) (a0 : Int) (K0 : List (List C) → List Out → Option β) : Ex → St → Option β := Zae Try.prog (laws_markText.E k) laws_markText.h k [1, 1, 1, 0, 0] (Zl Try.f113) (Zak Try.prog Try.f113 laws_markText.h (laws_markText.as a0) K0)
theorem laws_markText.l0_eq {β : Type} (k : Nat) (a0 : Int) (K0 : List (List C) → List Out → Option β) : ∀ (kk : Nat) (v : Int × ByteArray), Zx (laws_markText.b0 k) (laws_markText.h.H 4) kk (laws_markText.s0 v) (laws_markText.c0 k a0 K0) = Z4 (laws_markText.l0 k (laws_markText.kt a0 K0)) kk v :=
  Z9 (laws_markText.s0) _ (fun L0 v => by obtain ⟨v0_0, v0_1⟩ := v; kernel_rfl)
noncomputable def laws_markText.m {β : Type} (k : Nat) (a0 : Int) (K0 : List (List C) → List Out → Option β) (F : ((Int × ByteArray) → Option β)) : Option β :=
  bif (decide ((a0 : Int) ≤ 0)) then ((laws_markText.kt a0 K0) (⟨#[109, 48]⟩ : ByteArray)) else ((F) (a0, (⟨#[]⟩ : ByteArray)))
theorem laws_markText.f_eq {β : Type} (k : Nat) (a0 : Int) (K0 : List (List C) → List Out → Option β) : ZJ Try.prog (laws_markText.E k) laws_markText.h k Try.f113 (laws_markText.as a0) K0 = laws_markText.g k a0 (laws_markText.kt a0 K0) := Eq.trans (b := (laws_markText.m k a0 K0) (fun (v : Int × ByteArray) => Zx (laws_markText.b0 k) (laws_markText.h.H 4) k (laws_markText.s0 v) (laws_markText.c0 k a0 K0))) (by kernel_rfl) (Eq.trans (congrArg (laws_markText.m k a0 K0) (funext fun v => laws_markText.l0_eq k a0 K0 k v)) (by kernel_rfl))
noncomputable def laws_markText.dec (rs : List (List C)) (os : List Out) : Option (ByteArray) := Zd rs fun c1 r2 => Zd c1 fun x3 l4 => cD x3 fun d5 => Zan d5 fun w0 => Ze l4 <| Ze r2 <| Ze os (some w0)
theorem laws_markText.kt_dec (a0 : Int) : laws_markText.kt a0 laws_markText.dec = (fun z0 => some z0) := by kernel_rfl
theorem laws_markText.inj (a0 : Int) {rs : List (List C)} {os : List Out} {z0 : ByteArray} (h : laws_markText.dec rs os = some z0) (ho : Zo (laws_markText.as a0) os) : rs = [[.d (.str z0)]] ∧ os = [] := by
  unfold laws_markText.dec at h
  obtain ⟨c1, r2, rfl, h1⟩ := Zb h
  obtain ⟨x3, l4, rfl, h2⟩ := Zb h1
  obtain ⟨d5, rfl, h3⟩ := Zt h2
  obtain ⟨w0, rfl, h4⟩ := ZaL h3
  obtain ⟨rfl, h5⟩ := Zc h4
  obtain ⟨rfl, h6⟩ := Zc h5
  obtain ⟨rfl, h7⟩ := Zc h6
  obtain rfl := Option.some.inj h7
  exact ⟨rfl, rfl⟩
theorem laws_markText.ok (k : Nat) : Zv Try.prog 113 (laws_markText.e k) := by
  refine Zu mix tyok (fn := Try.f113) (c := Zl Try.f113) Try.func113 (by kernel_rfl) (h := laws_markText.h) (k := k) (E := laws_markText.E k) Zz (by kernel_rfl) (by kernel_rfl) rfl (Zq Try.func113 (by kernel_rfl)) ?_
  intro β l K r hr
  simp only [laws_markText.e] at hr
  split at hr
  case h_2 => cases hr
  unfold laws_markText.f at hr
  split at hr
  case h_2 => cases hr
  rename_i hz
  exact ⟨_, _, hr, _, laws_markText.dec, _, (laws_markText.f_eq k _ laws_markText.dec).trans (by rw [laws_markText.kt_dec]; exact hz), fun rs os h ho => laws_markText.inj _ h ho⟩
noncomputable def laws_markStringS.l0 {β : Type} (k : Nat) (K : Int → (List (List C)) → Option β) (L0 : (Int × Int × (List (List C))) → Option β) (v : Int × Int × (List (List C))) : Option β :=
  match v with
  | (v0_0, v0_1, v0_2) => bif (decide ((v0_1 : Int) < (v0_2.length : Int))) then (laws_markText.f k v0_0 (fun y2 => ZH ((0 : Int) ≤ v0_1 ∧ v0_1 < (v0_2.length : Int)) (ZH (Int.toNat v0_1 < v0_2.length) (L0 (IntKind.wrap .i64 (v0_0 + 1), IntKind.wrap .i64 (v0_1 + 1), v0_2.modify (Int.toNat v0_1) fun c => Z1 c 0 [.d (.str y2)]))))) else (K v0_0 v0_2)
noncomputable def laws_markStringS.g {β : Type} (k : Nat) (a0 : List (List C)) (a1 : Int) (K : Int → (List (List C)) → Option β) : Option β :=
  Z4 (laws_markStringS.l0 k K) k (a1, 0, a0)
noncomputable def laws_markStringS.t (k : Nat) (a0 : List (List C)) (a1 : Int) : Option (Int × (List (List C))) := laws_markStringS.g k a0 a1 (fun z0 z1 => some (z0, z1))
noncomputable def laws_markStringS.f {β : Type} (k : Nat) (a0 : List (List C)) (a1 : Int) (K : Int → (List (List C)) → Option β) : Option β :=
  match laws_markStringS.t k a0 a1 with
  | some (z0, z1) => K z0 z1
  | none => none
noncomputable def laws_markStringS.as (a0 : List (List C)) (a1 : Int) : List A := [.own false [.own a0], .d (.int .i64 a1)]
noncomputable def laws_markStringS.kt {β : Type} (a0 : List (List C)) (a1 : Int) (K0 : List (List C) → List Out → Option β) : Int → (List (List C)) → Option β := fun z0 z1 => K0 [[.d (.int .i64 z0)]] [.own [.own z1]]
noncomputable def laws_markStringS.e (k : Nat) : ZQ := { modes := [(.own, 25), (.imm, 0)], rts := [3], al := false, run := fun {β} l K => match l with | [.own false [.own a0], .d (.int .i64 a1)] => laws_markStringS.f k a0 a1 (laws_markStringS.kt a0 a1 K) | _ => none }
noncomputable def laws_markStringS.E (k : Nat) : Env := fun g => bif g == 113 then some (laws_markText.e k) else none
noncomputable def laws_markStringS.h : ZY := ⟨fun n => bif n == 2 then ⟨[(0, .asis), (1, .dat false), (5, .asis)], []⟩ else ⟨[], []⟩, fun _ => none, false, []⟩
noncomputable def laws_markStringS.s0 (v : Int × Int × (List (List C))) : St :=
  match v with
  | (v0_0, v0_1, v0_2) => ⟨[.row 0, .d false (.int .i64 v0_0), .any, .any, .any, .d true (.int .i64 v0_1), .any, .any, .any, .any, .any, .any, .any, .any, .any, .any, .any, .any, .any, .any], [.row (some 0) false 25 v0_2]⟩
noncomputable def laws_markStringS.b0 {β : Type} (k : Nat) : St → (Ex → St → Option β) → Option β := fun s K => den Try.prog (laws_markStringS.E k) laws_markStringS.h.H laws_markStringS.h.J k (Zad [1, 0, 1, 0, 0] (Zl Try.f91)) s K
noncomputable def laws_markStringS.c0 {β : Type} (k : Nat) (a0 : List (List C)) (a1 : Int) (K0 : List (List C) → List Out → Option β) : Ex → St → Option β := Zae Try.prog (laws_markStringS.E k) laws_markStringS.h k [1, 0, 1, 0] (Zl Try.f91) (Zak Try.prog Try.f91 laws_markStringS.h (laws_markStringS.as a0 a1) K0)
theorem laws_markStringS.l0_eq {β : Type} (k : Nat) (a0 : List (List C)) (a1 : Int) (K0 : List (List C) → List Out → Option β) : ∀ (kk : Nat) (v : Int × Int × (List (List C))), Zx (laws_markStringS.b0 k) (laws_markStringS.h.H 2) kk (laws_markStringS.s0 v) (laws_markStringS.c0 k a0 a1 K0) = Z4 (laws_markStringS.l0 k (laws_markStringS.kt a0 a1 K0)) kk v :=
  Z9 (laws_markStringS.s0) _ (fun L0 v => by obtain ⟨v0_0, v0_1, v0_2⟩ := v; kernel_rfl)
noncomputable def laws_markStringS.m {β : Type} (k : Nat) (a0 : List (List C)) (a1 : Int) (K0 : List (List C) → List Out → Option β) (F : ((Int × Int × (List (List C))) → Option β)) : Option β :=
  (F) (a1, 0, a0)
theorem laws_markStringS.f_eq {β : Type} (k : Nat) (a0 : List (List C)) (a1 : Int) (K0 : List (List C) → List Out → Option β) : ZJ Try.prog (laws_markStringS.E k) laws_markStringS.h k Try.f91 (laws_markStringS.as a0 a1) K0 = laws_markStringS.g k a0 a1 (laws_markStringS.kt a0 a1 K0) := Eq.trans (b := (laws_markStringS.m k a0 a1 K0) (fun (v : Int × Int × (List (List C))) => Zx (laws_markStringS.b0 k) (laws_markStringS.h.H 2) k (laws_markStringS.s0 v) (laws_markStringS.c0 k a0 a1 K0))) (by kernel_rfl) (Eq.trans (congrArg (laws_markStringS.m k a0 a1 K0) (funext fun v => laws_markStringS.l0_eq k a0 a1 K0 k v)) (by kernel_rfl))
noncomputable def laws_markStringS.dec (rs : List (List C)) (os : List Out) : Option (Int × (List (List C))) := Zd rs fun c1 r2 => Zd c1 fun x3 l4 => cD x3 fun d5 => ZM .i64 d5 fun w0 => Ze l4 <| Ze r2 <| Zd os fun o6 u7 => outOwn o6 fun c8 => Zd c8 fun x9 l10 => ZaU x9 fun w1 => Ze l10 <| Ze u7 (some (w0, w1))
theorem laws_markStringS.kt_dec (a0 : List (List C)) (a1 : Int) : laws_markStringS.kt a0 a1 laws_markStringS.dec = (fun z0 z1 => some (z0, z1)) := by kernel_rfl
theorem laws_markStringS.inj (a0 : List (List C)) (a1 : Int) {rs : List (List C)} {os : List Out} {z0 : Int} {z1 : List (List C)} (h : laws_markStringS.dec rs os = some (z0, z1)) (ho : Zo (laws_markStringS.as a0 a1) os) : rs = [[.d (.int .i64 z0)]] ∧ os = [.own [.own z1]] := by
  unfold laws_markStringS.dec at h
  obtain ⟨c1, r2, rfl, h1⟩ := Zb h
  obtain ⟨x3, l4, rfl, h2⟩ := Zb h1
  obtain ⟨d5, rfl, h3⟩ := Zt h2
  obtain ⟨w0, rfl, h4⟩ := ZA h3
  obtain ⟨rfl, h5⟩ := Zc h4
  obtain ⟨rfl, h6⟩ := Zc h5
  obtain ⟨o6, u7, rfl, h7⟩ := Zb h6
  obtain ⟨c8, rfl, h8⟩ := outOwn_some h7
  obtain ⟨x9, l10, rfl, h9⟩ := Zb h8
  obtain ⟨w1, rfl, h10⟩ := ZN h9
  obtain ⟨rfl, h11⟩ := Zc h10
  obtain ⟨rfl, h12⟩ := Zc h11
  simp only [Option.some.injEq, Prod.mk.injEq] at h12
  obtain ⟨rfl, rfl⟩ := h12
  exact ⟨rfl, rfl⟩
theorem laws_markStringS.ok (k : Nat) : Zv Try.prog 91 (laws_markStringS.e k) := by
  refine Zu mix tyok (fn := Try.f91) (c := Zl Try.f91) Try.func91 (by kernel_rfl) (h := laws_markStringS.h) (k := k) (E := laws_markStringS.E k) (Zk (laws_markText.ok k) Zz) (by kernel_rfl) (by kernel_rfl) rfl (Zq Try.func91 (by kernel_rfl)) ?_
  intro β l K r hr
  simp only [laws_markStringS.e] at hr
  split at hr
  case h_2 => cases hr
  unfold laws_markStringS.f at hr
  split at hr
  case h_2 => cases hr
  rename_i hz
  exact ⟨_, _, hr, _, laws_markStringS.dec, _, (laws_markStringS.f_eq k _ _ laws_markStringS.dec).trans (by rw [laws_markStringS.kt_dec]; exact hz), fun rs os h ho => laws_markStringS.inj _ _ h ho⟩
noncomputable def laws_markValueS.l0 {β : Type} (k : Nat) (r_laws_markValueS : (List (List C)) → Int → (Int → (List (List C)) → Option β) → Option β) (K : Int → (List (List C)) → Option β) (L0 : (Int × Int × (List (List C))) → Option β) (v : Int × Int × (List (List C))) : Option β :=
  match v with
  | (v0_0, v0_1, v0_2) => bif (decide ((v0_1 : Int) < (v0_2.length : Int))) then (ZH ((0 : Int) ≤ v0_1 ∧ v0_1 < (v0_2.length : Int)) (ZH (Int.toNat v0_1 < v0_2.length) (laws_markText.f k (IntKind.wrap .i64 (v0_0 + 1)) (fun y14 => ZH ((0 : Int) ≤ v0_1 ∧ v0_1 < ((v0_2.modify (Int.toNat v0_1) fun c => Z1 c 0 [.d (.int .i64 v0_0)]).length : Int)) (ZH (Int.toNat v0_1 < (v0_2.modify (Int.toNat v0_1) fun c => Z1 c 0 [.d (.int .i64 v0_0)]).length) (ZH ((0 : Int) ≤ v0_1 ∧ v0_1 < (((v0_2.modify (Int.toNat v0_1) fun c => Z1 c 0 [.d (.int .i64 v0_0)]).modify (Int.toNat v0_1) fun c => Z1 c 1 [.d (.str y14)]).length : Int)) (ZH (Int.toNat v0_1 < ((v0_2.modify (Int.toNat v0_1) fun c => Z1 c 0 [.d (.int .i64 v0_0)]).modify (Int.toNat v0_1) fun c => Z1 c 1 [.d (.str y14)]).length) (ZH ((0 : Int) ≤ v0_1 ∧ v0_1 < ((((v0_2.modify (Int.toNat v0_1) fun c => Z1 c 0 [.d (.int .i64 v0_0)]).modify (Int.toNat v0_1) fun c => Z1 c 1 [.d (.str y14)]).modify (Int.toNat v0_1) fun c => Z1 c 2 [.d (.int .i64 (IntKind.wrap .i64 ((IntKind.wrap .i64 (v0_0 + 1)) + 1)))]).length : Int)) (atNat (((v0_2.modify (Int.toNat v0_1) fun c => Z1 c 0 [.d (.int .i64 v0_0)]).modify (Int.toNat v0_1) fun c => Z1 c 1 [.d (.str y14)]).modify (Int.toNat v0_1) fun c => Z1 c 2 [.d (.int .i64 (IntKind.wrap .i64 ((IntKind.wrap .i64 (v0_0 + 1)) + 1)))]) (Int.toNat v0_1) fun c15 => Zd (c15.drop 3) fun c16 r17 => ZaU c16 fun y18 => laws_markStringS.f k y18 (IntKind.wrap .i64 ((IntKind.wrap .i64 ((IntKind.wrap .i64 (v0_0 + 1)) + 1)) + 1)) (fun y19 y20 => ZH ((0 : Int) ≤ v0_1 ∧ v0_1 < (((((v0_2.modify (Int.toNat v0_1) fun c => Z1 c 0 [.d (.int .i64 v0_0)]).modify (Int.toNat v0_1) fun c => Z1 c 1 [.d (.str y14)]).modify (Int.toNat v0_1) fun c => Z1 c 2 [.d (.int .i64 (IntKind.wrap .i64 ((IntKind.wrap .i64 (v0_0 + 1)) + 1)))]).modify (Int.toNat v0_1) fun r => r.set 3 (.own y20)).length : Int)) (atNat ((((v0_2.modify (Int.toNat v0_1) fun c => Z1 c 0 [.d (.int .i64 v0_0)]).modify (Int.toNat v0_1) fun c => Z1 c 1 [.d (.str y14)]).modify (Int.toNat v0_1) fun c => Z1 c 2 [.d (.int .i64 (IntKind.wrap .i64 ((IntKind.wrap .i64 (v0_0 + 1)) + 1)))]).modify (Int.toNat v0_1) fun r => r.set 3 (.own y20)) (Int.toNat v0_1) fun c21 => Zd (c21.drop 4) fun c22 r23 => ZaU c22 fun y24 => r_laws_markValueS y24 y19 (fun y25 y26 => L0 (y25, IntKind.wrap .i64 (v0_1 + 1), ((((v0_2.modify (Int.toNat v0_1) fun c => Z1 c 0 [.d (.int .i64 v0_0)]).modify (Int.toNat v0_1) fun c => Z1 c 1 [.d (.str y14)]).modify (Int.toNat v0_1) fun c => Z1 c 2 [.d (.int .i64 (IntKind.wrap .i64 ((IntKind.wrap .i64 (v0_0 + 1)) + 1)))]).modify (Int.toNat v0_1) fun r => r.set 3 (.own y20)).modify (Int.toNat v0_1) fun r => r.set 4 (.own y26)))))))))))))) else (K v0_0 v0_2)
noncomputable def laws_markValueS.body {β : Type} (k : Nat) (r_laws_markValueS : (List (List C)) → Int → (Int → (List (List C)) → Option β) → Option β) (a0 : List (List C)) (a1 : Int) (K : Int → (List (List C)) → Option β) : Option β :=
  Z4 (laws_markValueS.l0 k r_laws_markValueS K) k (a1, 0, a0)
noncomputable def laws_markValueS.w {β : Type} (r : (List (List C)) → Int → Option (Int × (List (List C)))) (a0 : List (List C)) (a1 : Int) (K : Int → (List (List C)) → Option β) : Option β :=
  match r a0 a1 with
  | some (z0, z1) => K z0 z1
  | none => none
noncomputable def laws_markValueS.all : Nat → ((List (List C)) → Int → Option (Int × (List (List C))))
  | 0 => (fun _ _ => none)
  | k + 1 => (fun r => (fun a0 a1 => laws_markValueS.body k (laws_markValueS.w r) a0 a1 (fun z0 z1 => some (z0, z1)))) (laws_markValueS.all k)
noncomputable def laws_markValueS.t (k : Nat) (a0 : List (List C)) (a1 : Int) : Option (Int × (List (List C))) := (laws_markValueS.all k) a0 a1
noncomputable def laws_markValueS.f {β : Type} (k : Nat) (a0 : List (List C)) (a1 : Int) (K : Int → (List (List C)) → Option β) : Option β := laws_markValueS.w (laws_markValueS.t k) a0 a1 K
noncomputable def laws_markValueS.g {β : Type} (k : Nat) (a0 : List (List C)) (a1 : Int) (K : Int → (List (List C)) → Option β) : Option β := laws_markValueS.body k (laws_markValueS.f k) a0 a1 K
theorem laws_markValueS.t_zero (a0 : List (List C)) (a1 : Int) : laws_markValueS.t 0 a0 a1 = none := rfl
theorem laws_markValueS.t_succ (k : Nat) (a0 : List (List C)) (a1 : Int) : laws_markValueS.t (k + 1) a0 a1 = laws_markValueS.g k a0 a1 (fun z0 z1 => some (z0, z1)) := rfl
noncomputable def laws_markValueS.as (a0 : List (List C)) (a1 : Int) : List A := [.own false [.own a0], .d (.int .i64 a1)]
noncomputable def laws_markValueS.kt {β : Type} (a0 : List (List C)) (a1 : Int) (K0 : List (List C) → List Out → Option β) : Int → (List (List C)) → Option β := fun z0 z1 => K0 [[.d (.int .i64 z0)]] [.own [.own z1]]
noncomputable def laws_markValueS.e (k : Nat) : ZQ := { modes := [(.own, 149), (.imm, 0)], rts := [3], al := false, run := fun {β} l K => match l with | [.own false [.own a0], .d (.int .i64 a1)] => laws_markValueS.f k a0 a1 (laws_markValueS.kt a0 a1 K) | _ => none }
noncomputable def laws_markValueS.E (k : Nat) : Env := fun g => bif g == 113 then some (laws_markText.e k) else bif g == 91 then some (laws_markStringS.e k) else bif g == 114 then some (laws_markValueS.e k) else none
noncomputable def laws_markValueS.h : ZY := ⟨fun n => bif n == 2 then ⟨[(0, .asis), (1, .dat false), (5, .asis)], []⟩ else ⟨[], []⟩, fun _ => none, false, []⟩
noncomputable def laws_markValueS.s0 (v : Int × Int × (List (List C))) : St :=
  match v with
  | (v0_0, v0_1, v0_2) => ⟨[.row 0, .d false (.int .i64 v0_0), .any, .any, .any, .d true (.int .i64 v0_1), .any, .any, .any, .any, .any, .any, .any, .any, .any, .any, .any, .any, .any, .any, .any, .any, .any, .any, .any, .any, .any, .any, .any, .any, .any, .any, .any, .any, .any, .any, .any, .any, .any, .any, .any, .any, .any, .any, .any, .any, .any, .any, .any], [.row (some 0) false 149 v0_2]⟩
noncomputable def laws_markValueS.b0 {β : Type} (k : Nat) : St → (Ex → St → Option β) → Option β := fun s K => den Try.prog (laws_markValueS.E k) laws_markValueS.h.H laws_markValueS.h.J k (Zad [1, 0, 1, 0, 0] (Zl Try.f114)) s K
noncomputable def laws_markValueS.c0 {β : Type} (k : Nat) (a0 : List (List C)) (a1 : Int) (K0 : List (List C) → List Out → Option β) : Ex → St → Option β := Zae Try.prog (laws_markValueS.E k) laws_markValueS.h k [1, 0, 1, 0] (Zl Try.f114) (Zak Try.prog Try.f114 laws_markValueS.h (laws_markValueS.as a0 a1) K0)
theorem laws_markValueS.l0_eq {β : Type} (k : Nat) (a0 : List (List C)) (a1 : Int) (K0 : List (List C) → List Out → Option β) : ∀ (kk : Nat) (v : Int × Int × (List (List C))), Zx (laws_markValueS.b0 k) (laws_markValueS.h.H 2) kk (laws_markValueS.s0 v) (laws_markValueS.c0 k a0 a1 K0) = Z4 (laws_markValueS.l0 k (laws_markValueS.f k) (laws_markValueS.kt a0 a1 K0)) kk v :=
  Z9 (laws_markValueS.s0) _ (fun L0 v => by obtain ⟨v0_0, v0_1, v0_2⟩ := v; kernel_rfl)
noncomputable def laws_markValueS.m {β : Type} (k : Nat) (a0 : List (List C)) (a1 : Int) (K0 : List (List C) → List Out → Option β) (F : ((Int × Int × (List (List C))) → Option β)) : Option β :=
  (F) (a1, 0, a0)
theorem laws_markValueS.f_eq {β : Type} (k : Nat) (a0 : List (List C)) (a1 : Int) (K0 : List (List C) → List Out → Option β) : ZJ Try.prog (laws_markValueS.E k) laws_markValueS.h k Try.f114 (laws_markValueS.as a0 a1) K0 = laws_markValueS.g k a0 a1 (laws_markValueS.kt a0 a1 K0) := Eq.trans (b := (laws_markValueS.m k a0 a1 K0) (fun (v : Int × Int × (List (List C))) => Zx (laws_markValueS.b0 k) (laws_markValueS.h.H 2) k (laws_markValueS.s0 v) (laws_markValueS.c0 k a0 a1 K0))) (by kernel_rfl) (Eq.trans (congrArg (laws_markValueS.m k a0 a1 K0) (funext fun v => laws_markValueS.l0_eq k a0 a1 K0 k v)) (by kernel_rfl))
noncomputable def laws_markValueS.dec (rs : List (List C)) (os : List Out) : Option (Int × (List (List C))) := Zd rs fun c1 r2 => Zd c1 fun x3 l4 => cD x3 fun d5 => ZM .i64 d5 fun w0 => Ze l4 <| Ze r2 <| Zd os fun o6 u7 => outOwn o6 fun c8 => Zd c8 fun x9 l10 => ZaU x9 fun w1 => Ze l10 <| Ze u7 (some (w0, w1))
theorem laws_markValueS.kt_dec (a0 : List (List C)) (a1 : Int) : laws_markValueS.kt a0 a1 laws_markValueS.dec = (fun z0 z1 => some (z0, z1)) := by kernel_rfl
theorem laws_markValueS.inj (a0 : List (List C)) (a1 : Int) {rs : List (List C)} {os : List Out} {z0 : Int} {z1 : List (List C)} (h : laws_markValueS.dec rs os = some (z0, z1)) (ho : Zo (laws_markValueS.as a0 a1) os) : rs = [[.d (.int .i64 z0)]] ∧ os = [.own [.own z1]] := by
  unfold laws_markValueS.dec at h
  obtain ⟨c1, r2, rfl, h1⟩ := Zb h
  obtain ⟨x3, l4, rfl, h2⟩ := Zb h1
  obtain ⟨d5, rfl, h3⟩ := Zt h2
  obtain ⟨w0, rfl, h4⟩ := ZA h3
  obtain ⟨rfl, h5⟩ := Zc h4
  obtain ⟨rfl, h6⟩ := Zc h5
  obtain ⟨o6, u7, rfl, h7⟩ := Zb h6
  obtain ⟨c8, rfl, h8⟩ := outOwn_some h7
  obtain ⟨x9, l10, rfl, h9⟩ := Zb h8
  obtain ⟨w1, rfl, h10⟩ := ZN h9
  obtain ⟨rfl, h11⟩ := Zc h10
  obtain ⟨rfl, h12⟩ := Zc h11
  simp only [Option.some.injEq, Prod.mk.injEq] at h12
  obtain ⟨rfl, rfl⟩ := h12
  exact ⟨rfl, rfl⟩
theorem laws_markValueS.oks (k : Nat) : Zv Try.prog 114 (laws_markValueS.e k) := by
  induction k with
  | zero =>
    refine ?_
    · exact Zb1 (Zq Try.func114 (by kernel_rfl)) fun β l K r h => by
        simp only [laws_markValueS.e] at h
        split at h
        · unfold laws_markValueS.f at h
          unfold laws_markValueS.w at h
          rw [laws_markValueS.t_zero] at h
          cases h
        · cases h
  | succ k ih =>
    refine ?_
    · refine Zu mix tyok (fn := Try.f114) (c := Zl Try.f114) Try.func114 (by kernel_rfl) (h := laws_markValueS.h) (k := k) (E := laws_markValueS.E k) (Zk (laws_markText.ok k) (Zk (laws_markStringS.ok k) (Zk ih Zz))) (by kernel_rfl) (by kernel_rfl) rfl (Zq Try.func114 (by kernel_rfl)) ?_
      intro β l K r hr
      simp only [laws_markValueS.e] at hr
      split at hr
      case h_2 => cases hr
      unfold laws_markValueS.f at hr
      unfold laws_markValueS.w at hr
      split at hr
      case h_2 => cases hr
      rename_i hz
      exact ⟨_, _, hr, _, laws_markValueS.dec, _, (laws_markValueS.f_eq k _ _ laws_markValueS.dec).trans (by rw [laws_markValueS.kt_dec]; exact hz), fun rs os h ho => laws_markValueS.inj _ _ h ho⟩
theorem laws_markValueS.ok (k : Nat) : Zv Try.prog 114 (laws_markValueS.e k) := (laws_markValueS.oks k)
set_option maxRecDepth 100000 in
noncomputable def laws_markWorkS.l0 {β : Type} (k : Nat) (K : Int → (List (List C)) → Option β) (L0 : (Int × Int × (List (List C))) → Option β) (v : Int × Int × (List (List C))) : Option β :=
  match v with
  | (v0_0, v0_1, v0_2) => bif (decide ((v0_1 : Int) < (v0_2.length : Int))) then (ZH ((0 : Int) ≤ v0_1 ∧ v0_1 < (v0_2.length : Int)) (ZH (Int.toNat v0_1 < v0_2.length) (ZH ((0 : Int) ≤ v0_1 ∧ v0_1 < ((v0_2.modify (Int.toNat v0_1) fun c => Z1 c 0 [.d (.int .i64 v0_0)]).length : Int)) (ZH (Int.toNat v0_1 < (v0_2.modify (Int.toNat v0_1) fun c => Z1 c 0 [.d (.int .i64 v0_0)]).length) (ZH ((0 : Int) ≤ v0_1 ∧ v0_1 < (((v0_2.modify (Int.toNat v0_1) fun c => Z1 c 0 [.d (.int .i64 v0_0)]).modify (Int.toNat v0_1) fun c => Z1 c 1 [.d (.int .i64 (IntKind.wrap .i64 (v0_0 + 1)))]).length : Int)) (ZH (Int.toNat v0_1 < ((v0_2.modify (Int.toNat v0_1) fun c => Z1 c 0 [.d (.int .i64 v0_0)]).modify (Int.toNat v0_1) fun c => Z1 c 1 [.d (.int .i64 (IntKind.wrap .i64 (v0_0 + 1)))]).length) (laws_markText.f k (IntKind.wrap .i64 ((IntKind.wrap .i64 ((IntKind.wrap .i64 (v0_0 + 1)) + 1)) + 1)) (fun y14 => ZH ((0 : Int) ≤ v0_1 ∧ v0_1 < ((((v0_2.modify (Int.toNat v0_1) fun c => Z1 c 0 [.d (.int .i64 v0_0)]).modify (Int.toNat v0_1) fun c => Z1 c 1 [.d (.int .i64 (IntKind.wrap .i64 (v0_0 + 1)))]).modify (Int.toNat v0_1) fun c => Z1 c 2 [.d (.int .i64 (IntKind.wrap .i64 ((IntKind.wrap .i64 (v0_0 + 1)) + 1)))]).length : Int)) (ZH (Int.toNat v0_1 < (((v0_2.modify (Int.toNat v0_1) fun c => Z1 c 0 [.d (.int .i64 v0_0)]).modify (Int.toNat v0_1) fun c => Z1 c 1 [.d (.int .i64 (IntKind.wrap .i64 (v0_0 + 1)))]).modify (Int.toNat v0_1) fun c => Z1 c 2 [.d (.int .i64 (IntKind.wrap .i64 ((IntKind.wrap .i64 (v0_0 + 1)) + 1)))]).length) (ZH ((0 : Int) ≤ v0_1 ∧ v0_1 < (((((v0_2.modify (Int.toNat v0_1) fun c => Z1 c 0 [.d (.int .i64 v0_0)]).modify (Int.toNat v0_1) fun c => Z1 c 1 [.d (.int .i64 (IntKind.wrap .i64 (v0_0 + 1)))]).modify (Int.toNat v0_1) fun c => Z1 c 2 [.d (.int .i64 (IntKind.wrap .i64 ((IntKind.wrap .i64 (v0_0 + 1)) + 1)))]).modify (Int.toNat v0_1) fun c => Z1 c 3 [.d (.str y14)]).length : Int)) (ZH (Int.toNat v0_1 < ((((v0_2.modify (Int.toNat v0_1) fun c => Z1 c 0 [.d (.int .i64 v0_0)]).modify (Int.toNat v0_1) fun c => Z1 c 1 [.d (.int .i64 (IntKind.wrap .i64 (v0_0 + 1)))]).modify (Int.toNat v0_1) fun c => Z1 c 2 [.d (.int .i64 (IntKind.wrap .i64 ((IntKind.wrap .i64 (v0_0 + 1)) + 1)))]).modify (Int.toNat v0_1) fun c => Z1 c 3 [.d (.str y14)]).length) (ZH ((0 : Int) ≤ v0_1 ∧ v0_1 < ((((((v0_2.modify (Int.toNat v0_1) fun c => Z1 c 0 [.d (.int .i64 v0_0)]).modify (Int.toNat v0_1) fun c => Z1 c 1 [.d (.int .i64 (IntKind.wrap .i64 (v0_0 + 1)))]).modify (Int.toNat v0_1) fun c => Z1 c 2 [.d (.int .i64 (IntKind.wrap .i64 ((IntKind.wrap .i64 (v0_0 + 1)) + 1)))]).modify (Int.toNat v0_1) fun c => Z1 c 3 [.d (.str y14)]).modify (Int.toNat v0_1) fun c => Z1 c 4 [.d (.int .i64 (IntKind.wrap .i64 ((IntKind.wrap .i64 ((IntKind.wrap .i64 ((IntKind.wrap .i64 (v0_0 + 1)) + 1)) + 1)) + 1)))]).length : Int)) (atNat (((((v0_2.modify (Int.toNat v0_1) fun c => Z1 c 0 [.d (.int .i64 v0_0)]).modify (Int.toNat v0_1) fun c => Z1 c 1 [.d (.int .i64 (IntKind.wrap .i64 (v0_0 + 1)))]).modify (Int.toNat v0_1) fun c => Z1 c 2 [.d (.int .i64 (IntKind.wrap .i64 ((IntKind.wrap .i64 (v0_0 + 1)) + 1)))]).modify (Int.toNat v0_1) fun c => Z1 c 3 [.d (.str y14)]).modify (Int.toNat v0_1) fun c => Z1 c 4 [.d (.int .i64 (IntKind.wrap .i64 ((IntKind.wrap .i64 ((IntKind.wrap .i64 ((IntKind.wrap .i64 (v0_0 + 1)) + 1)) + 1)) + 1)))]) (Int.toNat v0_1) fun c15 => Zd (c15.drop 5) fun c16 r17 => ZaU c16 fun y18 => laws_markStringS.f k y18 (IntKind.wrap .i64 ((IntKind.wrap .i64 ((IntKind.wrap .i64 ((IntKind.wrap .i64 ((IntKind.wrap .i64 (v0_0 + 1)) + 1)) + 1)) + 1)) + 1)) (fun y19 y20 => ZH ((0 : Int) ≤ v0_1 ∧ v0_1 < (((((((v0_2.modify (Int.toNat v0_1) fun c => Z1 c 0 [.d (.int .i64 v0_0)]).modify (Int.toNat v0_1) fun c => Z1 c 1 [.d (.int .i64 (IntKind.wrap .i64 (v0_0 + 1)))]).modify (Int.toNat v0_1) fun c => Z1 c 2 [.d (.int .i64 (IntKind.wrap .i64 ((IntKind.wrap .i64 (v0_0 + 1)) + 1)))]).modify (Int.toNat v0_1) fun c => Z1 c 3 [.d (.str y14)]).modify (Int.toNat v0_1) fun c => Z1 c 4 [.d (.int .i64 (IntKind.wrap .i64 ((IntKind.wrap .i64 ((IntKind.wrap .i64 ((IntKind.wrap .i64 (v0_0 + 1)) + 1)) + 1)) + 1)))]).modify (Int.toNat v0_1) fun r => r.set 5 (.own y20)).length : Int)) (atNat ((((((v0_2.modify (Int.toNat v0_1) fun c => Z1 c 0 [.d (.int .i64 v0_0)]).modify (Int.toNat v0_1) fun c => Z1 c 1 [.d (.int .i64 (IntKind.wrap .i64 (v0_0 + 1)))]).modify (Int.toNat v0_1) fun c => Z1 c 2 [.d (.int .i64 (IntKind.wrap .i64 ((IntKind.wrap .i64 (v0_0 + 1)) + 1)))]).modify (Int.toNat v0_1) fun c => Z1 c 3 [.d (.str y14)]).modify (Int.toNat v0_1) fun c => Z1 c 4 [.d (.int .i64 (IntKind.wrap .i64 ((IntKind.wrap .i64 ((IntKind.wrap .i64 ((IntKind.wrap .i64 (v0_0 + 1)) + 1)) + 1)) + 1)))]).modify (Int.toNat v0_1) fun r => r.set 5 (.own y20)) (Int.toNat v0_1) fun c21 => Zd (c21.drop 6) fun c22 r23 => ZaU c22 fun y24 => laws_markValueS.f k y24 y19 (fun y25 y26 => L0 (y25, IntKind.wrap .i64 (v0_1 + 1), ((((((v0_2.modify (Int.toNat v0_1) fun c => Z1 c 0 [.d (.int .i64 v0_0)]).modify (Int.toNat v0_1) fun c => Z1 c 1 [.d (.int .i64 (IntKind.wrap .i64 (v0_0 + 1)))]).modify (Int.toNat v0_1) fun c => Z1 c 2 [.d (.int .i64 (IntKind.wrap .i64 ((IntKind.wrap .i64 (v0_0 + 1)) + 1)))]).modify (Int.toNat v0_1) fun c => Z1 c 3 [.d (.str y14)]).modify (Int.toNat v0_1) fun c => Z1 c 4 [.d (.int .i64 (IntKind.wrap .i64 ((IntKind.wrap .i64 ((IntKind.wrap .i64 ((IntKind.wrap .i64 (v0_0 + 1)) + 1)) + 1)) + 1)))]).modify (Int.toNat v0_1) fun r => r.set 5 (.own y20)).modify (Int.toNat v0_1) fun r => r.set 6 (.own y26)))))))))))))))))) else (K v0_0 v0_2)
noncomputable def laws_markWorkS.g {β : Type} (k : Nat) (a0 : List (List C)) (a1 : Int) (K : Int → (List (List C)) → Option β) : Option β :=
  Z4 (laws_markWorkS.l0 k K) k (a1, 0, a0)
noncomputable def laws_markWorkS.t (k : Nat) (a0 : List (List C)) (a1 : Int) : Option (Int × (List (List C))) := laws_markWorkS.g k a0 a1 (fun z0 z1 => some (z0, z1))
noncomputable def laws_markWorkS.f {β : Type} (k : Nat) (a0 : List (List C)) (a1 : Int) (K : Int → (List (List C)) → Option β) : Option β :=
  match laws_markWorkS.t k a0 a1 with
  | some (z0, z1) => K z0 z1
  | none => none
noncomputable def laws_markWorkS.as (a0 : List (List C)) (a1 : Int) : List A := [.own false [.own a0], .d (.int .i64 a1)]
noncomputable def laws_markWorkS.kt {β : Type} (a0 : List (List C)) (a1 : Int) (K0 : List (List C) → List Out → Option β) : Int → (List (List C)) → Option β := fun z0 z1 => K0 [[.d (.int .i64 z0)]] [.own [.own z1]]
noncomputable def laws_markWorkS.e (k : Nat) : ZQ := { modes := [(.own, 59), (.imm, 0)], rts := [3], al := false, run := fun {β} l K => match l with | [.own false [.own a0], .d (.int .i64 a1)] => laws_markWorkS.f k a0 a1 (laws_markWorkS.kt a0 a1 K) | _ => none }
noncomputable def laws_markWorkS.E (k : Nat) : Env := fun g => bif g == 113 then some (laws_markText.e k) else bif g == 91 then some (laws_markStringS.e k) else bif g == 114 then some (laws_markValueS.e k) else none
noncomputable def laws_markWorkS.h : ZY := ⟨fun n => bif n == 2 then ⟨[(0, .asis), (1, .dat false), (5, .asis)], []⟩ else ⟨[], []⟩, fun _ => none, false, []⟩
noncomputable def laws_markWorkS.s0 (v : Int × Int × (List (List C))) : St :=
  match v with
  | (v0_0, v0_1, v0_2) => ⟨[.row 0, .d false (.int .i64 v0_0), .any, .any, .any, .d true (.int .i64 v0_1), .any, .any, .any, .any, .any, .any, .any, .any, .any, .any, .any, .any, .any, .any, .any, .any, .any, .any, .any, .any, .any, .any, .any, .any, .any, .any, .any, .any, .any, .any, .any, .any, .any, .any, .any, .any, .any, .any, .any, .any, .any, .any, .any, .any, .any, .any, .any, .any, .any, .any, .any, .any, .any, .any, .any, .any, .any, .any, .any, .any, .any, .any], [.row (some 0) false 59 v0_2]⟩
noncomputable def laws_markWorkS.b0 {β : Type} (k : Nat) : St → (Ex → St → Option β) → Option β := fun s K => den Try.prog (laws_markWorkS.E k) laws_markWorkS.h.H laws_markWorkS.h.J k (Zad [1, 0, 1, 0, 0] (Zl Try.f38)) s K
noncomputable def laws_markWorkS.c0 {β : Type} (k : Nat) (a0 : List (List C)) (a1 : Int) (K0 : List (List C) → List Out → Option β) : Ex → St → Option β := Zae Try.prog (laws_markWorkS.E k) laws_markWorkS.h k [1, 0, 1, 0] (Zl Try.f38) (Zak Try.prog Try.f38 laws_markWorkS.h (laws_markWorkS.as a0 a1) K0)
theorem laws_markWorkS.l0_eq {β : Type} (k : Nat) (a0 : List (List C)) (a1 : Int) (K0 : List (List C) → List Out → Option β) : ∀ (kk : Nat) (v : Int × Int × (List (List C))), Zx (laws_markWorkS.b0 k) (laws_markWorkS.h.H 2) kk (laws_markWorkS.s0 v) (laws_markWorkS.c0 k a0 a1 K0) = Z4 (laws_markWorkS.l0 k (laws_markWorkS.kt a0 a1 K0)) kk v :=
  Z9 (laws_markWorkS.s0) _ (fun L0 v => by obtain ⟨v0_0, v0_1, v0_2⟩ := v; kernel_rfl)
noncomputable def laws_markWorkS.m {β : Type} (k : Nat) (a0 : List (List C)) (a1 : Int) (K0 : List (List C) → List Out → Option β) (F : ((Int × Int × (List (List C))) → Option β)) : Option β :=
  (F) (a1, 0, a0)
theorem laws_markWorkS.f_eq {β : Type} (k : Nat) (a0 : List (List C)) (a1 : Int) (K0 : List (List C) → List Out → Option β) : ZJ Try.prog (laws_markWorkS.E k) laws_markWorkS.h k Try.f38 (laws_markWorkS.as a0 a1) K0 = laws_markWorkS.g k a0 a1 (laws_markWorkS.kt a0 a1 K0) := Eq.trans (b := (laws_markWorkS.m k a0 a1 K0) (fun (v : Int × Int × (List (List C))) => Zx (laws_markWorkS.b0 k) (laws_markWorkS.h.H 2) k (laws_markWorkS.s0 v) (laws_markWorkS.c0 k a0 a1 K0))) (by kernel_rfl) (Eq.trans (congrArg (laws_markWorkS.m k a0 a1 K0) (funext fun v => laws_markWorkS.l0_eq k a0 a1 K0 k v)) (by kernel_rfl))
noncomputable def laws_markWorkS.dec (rs : List (List C)) (os : List Out) : Option (Int × (List (List C))) := Zd rs fun c1 r2 => Zd c1 fun x3 l4 => cD x3 fun d5 => ZM .i64 d5 fun w0 => Ze l4 <| Ze r2 <| Zd os fun o6 u7 => outOwn o6 fun c8 => Zd c8 fun x9 l10 => ZaU x9 fun w1 => Ze l10 <| Ze u7 (some (w0, w1))
theorem laws_markWorkS.kt_dec (a0 : List (List C)) (a1 : Int) : laws_markWorkS.kt a0 a1 laws_markWorkS.dec = (fun z0 z1 => some (z0, z1)) := by kernel_rfl
theorem laws_markWorkS.inj (a0 : List (List C)) (a1 : Int) {rs : List (List C)} {os : List Out} {z0 : Int} {z1 : List (List C)} (h : laws_markWorkS.dec rs os = some (z0, z1)) (ho : Zo (laws_markWorkS.as a0 a1) os) : rs = [[.d (.int .i64 z0)]] ∧ os = [.own [.own z1]] := by
  unfold laws_markWorkS.dec at h
  obtain ⟨c1, r2, rfl, h1⟩ := Zb h
  obtain ⟨x3, l4, rfl, h2⟩ := Zb h1
  obtain ⟨d5, rfl, h3⟩ := Zt h2
  obtain ⟨w0, rfl, h4⟩ := ZA h3
  obtain ⟨rfl, h5⟩ := Zc h4
  obtain ⟨rfl, h6⟩ := Zc h5
  obtain ⟨o6, u7, rfl, h7⟩ := Zb h6
  obtain ⟨c8, rfl, h8⟩ := outOwn_some h7
  obtain ⟨x9, l10, rfl, h9⟩ := Zb h8
  obtain ⟨w1, rfl, h10⟩ := ZN h9
  obtain ⟨rfl, h11⟩ := Zc h10
  obtain ⟨rfl, h12⟩ := Zc h11
  simp only [Option.some.injEq, Prod.mk.injEq] at h12
  obtain ⟨rfl, rfl⟩ := h12
  exact ⟨rfl, rfl⟩
theorem laws_markWorkS.ok (k : Nat) : Zv Try.prog 38 (laws_markWorkS.e k) := by
  refine Zu mix tyok (fn := Try.f38) (c := Zl Try.f38) Try.func38 (by kernel_rfl) (h := laws_markWorkS.h) (k := k) (E := laws_markWorkS.E k) (Zk (laws_markText.ok k) (Zk (laws_markStringS.ok k) (Zk (laws_markValueS.ok k) Zz))) (by kernel_rfl) (by kernel_rfl) rfl (Zq Try.func38 (by kernel_rfl)) ?_
  intro β l K r hr
  simp only [laws_markWorkS.e] at hr
  split at hr
  case h_2 => cases hr
  unfold laws_markWorkS.f at hr
  split at hr
  case h_2 => cases hr
  rename_i hz
  exact ⟨_, _, hr, _, laws_markWorkS.dec, _, (laws_markWorkS.f_eq k _ _ laws_markWorkS.dec).trans (by rw [laws_markWorkS.kt_dec]; exact hz), fun rs os h ho => laws_markWorkS.inj _ _ h ho⟩
noncomputable def laws_markRunS.l0 {β : Type} (k : Nat) (K : Int → (List (List C)) → Option β) (L0 : (Int × Int × (List (List C))) → Option β) (v : Int × Int × (List (List C))) : Option β :=
  match v with
  | (v0_0, v0_1, v0_2) => bif (decide ((v0_1 : Int) < (v0_2.length : Int))) then (ZH ((0 : Int) ≤ v0_1 ∧ v0_1 < (v0_2.length : Int)) (ZH (Int.toNat v0_1 < v0_2.length) (ZH ((0 : Int) ≤ v0_1 ∧ v0_1 < ((v0_2.modify (Int.toNat v0_1) fun c => Z1 c 0 [.d (.int .i64 v0_0)]).length : Int)) (ZH (Int.toNat v0_1 < (v0_2.modify (Int.toNat v0_1) fun c => Z1 c 0 [.d (.int .i64 v0_0)]).length) (L0 (IntKind.wrap .i64 ((IntKind.wrap .i64 (v0_0 + 1)) + 1), IntKind.wrap .i64 (v0_1 + 1), (v0_2.modify (Int.toNat v0_1) fun c => Z1 c 0 [.d (.int .i64 v0_0)]).modify (Int.toNat v0_1) fun c => Z1 c 1 [.d (.int .i64 (IntKind.wrap .i64 (v0_0 + 1)))])))))) else (K v0_0 v0_2)
noncomputable def laws_markRunS.g {β : Type} (k : Nat) (a0 : List (List C)) (a1 : Int) (K : Int → (List (List C)) → Option β) : Option β :=
  Z4 (laws_markRunS.l0 k K) k (a1, 0, a0)
noncomputable def laws_markRunS.t (k : Nat) (a0 : List (List C)) (a1 : Int) : Option (Int × (List (List C))) := laws_markRunS.g k a0 a1 (fun z0 z1 => some (z0, z1))
noncomputable def laws_markRunS.f {β : Type} (k : Nat) (a0 : List (List C)) (a1 : Int) (K : Int → (List (List C)) → Option β) : Option β :=
  match laws_markRunS.t k a0 a1 with
  | some (z0, z1) => K z0 z1
  | none => none
noncomputable def laws_markRunS.as (a0 : List (List C)) (a1 : Int) : List A := [.own false [.own a0], .d (.int .i64 a1)]
noncomputable def laws_markRunS.kt {β : Type} (a0 : List (List C)) (a1 : Int) (K0 : List (List C) → List Out → Option β) : Int → (List (List C)) → Option β := fun z0 z1 => K0 [[.d (.int .i64 z0)]] [.own [.own z1]]
noncomputable def laws_markRunS.e (k : Nat) : ZQ := { modes := [(.own, 60), (.imm, 0)], rts := [3], al := false, run := fun {β} l K => match l with | [.own false [.own a0], .d (.int .i64 a1)] => laws_markRunS.f k a0 a1 (laws_markRunS.kt a0 a1 K) | _ => none }
noncomputable def laws_markRunS.E (k : Nat) : Env := fun g => none
noncomputable def laws_markRunS.h : ZY := ⟨fun n => bif n == 2 then ⟨[(0, .asis), (1, .dat false), (5, .asis)], []⟩ else ⟨[], []⟩, fun _ => none, false, []⟩
noncomputable def laws_markRunS.s0 (v : Int × Int × (List (List C))) : St :=
  match v with
  | (v0_0, v0_1, v0_2) => ⟨[.row 0, .d false (.int .i64 v0_0), .any, .any, .any, .d true (.int .i64 v0_1), .any, .any, .any, .any, .any, .any, .any, .any, .any, .any, .any, .any, .any, .any, .any, .any, .any, .any, .any, .any, .any], [.row (some 0) false 60 v0_2]⟩
noncomputable def laws_markRunS.b0 {β : Type} (k : Nat) : St → (Ex → St → Option β) → Option β := fun s K => den Try.prog (laws_markRunS.E k) laws_markRunS.h.H laws_markRunS.h.J k (Zad [1, 0, 1, 0, 0] (Zl Try.f65)) s K
noncomputable def laws_markRunS.c0 {β : Type} (k : Nat) (a0 : List (List C)) (a1 : Int) (K0 : List (List C) → List Out → Option β) : Ex → St → Option β := Zae Try.prog (laws_markRunS.E k) laws_markRunS.h k [1, 0, 1, 0] (Zl Try.f65) (Zak Try.prog Try.f65 laws_markRunS.h (laws_markRunS.as a0 a1) K0)
theorem laws_markRunS.l0_eq {β : Type} (k : Nat) (a0 : List (List C)) (a1 : Int) (K0 : List (List C) → List Out → Option β) : ∀ (kk : Nat) (v : Int × Int × (List (List C))), Zx (laws_markRunS.b0 k) (laws_markRunS.h.H 2) kk (laws_markRunS.s0 v) (laws_markRunS.c0 k a0 a1 K0) = Z4 (laws_markRunS.l0 k (laws_markRunS.kt a0 a1 K0)) kk v :=
  Z9 (laws_markRunS.s0) _ (fun L0 v => by obtain ⟨v0_0, v0_1, v0_2⟩ := v; kernel_rfl)
noncomputable def laws_markRunS.m {β : Type} (k : Nat) (a0 : List (List C)) (a1 : Int) (K0 : List (List C) → List Out → Option β) (F : ((Int × Int × (List (List C))) → Option β)) : Option β :=
  (F) (a1, 0, a0)
theorem laws_markRunS.f_eq {β : Type} (k : Nat) (a0 : List (List C)) (a1 : Int) (K0 : List (List C) → List Out → Option β) : ZJ Try.prog (laws_markRunS.E k) laws_markRunS.h k Try.f65 (laws_markRunS.as a0 a1) K0 = laws_markRunS.g k a0 a1 (laws_markRunS.kt a0 a1 K0) := Eq.trans (b := (laws_markRunS.m k a0 a1 K0) (fun (v : Int × Int × (List (List C))) => Zx (laws_markRunS.b0 k) (laws_markRunS.h.H 2) k (laws_markRunS.s0 v) (laws_markRunS.c0 k a0 a1 K0))) (by kernel_rfl) (Eq.trans (congrArg (laws_markRunS.m k a0 a1 K0) (funext fun v => laws_markRunS.l0_eq k a0 a1 K0 k v)) (by kernel_rfl))
noncomputable def laws_markRunS.dec (rs : List (List C)) (os : List Out) : Option (Int × (List (List C))) := Zd rs fun c1 r2 => Zd c1 fun x3 l4 => cD x3 fun d5 => ZM .i64 d5 fun w0 => Ze l4 <| Ze r2 <| Zd os fun o6 u7 => outOwn o6 fun c8 => Zd c8 fun x9 l10 => ZaU x9 fun w1 => Ze l10 <| Ze u7 (some (w0, w1))
theorem laws_markRunS.kt_dec (a0 : List (List C)) (a1 : Int) : laws_markRunS.kt a0 a1 laws_markRunS.dec = (fun z0 z1 => some (z0, z1)) := by kernel_rfl
theorem laws_markRunS.inj (a0 : List (List C)) (a1 : Int) {rs : List (List C)} {os : List Out} {z0 : Int} {z1 : List (List C)} (h : laws_markRunS.dec rs os = some (z0, z1)) (ho : Zo (laws_markRunS.as a0 a1) os) : rs = [[.d (.int .i64 z0)]] ∧ os = [.own [.own z1]] := by
  unfold laws_markRunS.dec at h
  obtain ⟨c1, r2, rfl, h1⟩ := Zb h
  obtain ⟨x3, l4, rfl, h2⟩ := Zb h1
  obtain ⟨d5, rfl, h3⟩ := Zt h2
  obtain ⟨w0, rfl, h4⟩ := ZA h3
  obtain ⟨rfl, h5⟩ := Zc h4
  obtain ⟨rfl, h6⟩ := Zc h5
  obtain ⟨o6, u7, rfl, h7⟩ := Zb h6
  obtain ⟨c8, rfl, h8⟩ := outOwn_some h7
  obtain ⟨x9, l10, rfl, h9⟩ := Zb h8
  obtain ⟨w1, rfl, h10⟩ := ZN h9
  obtain ⟨rfl, h11⟩ := Zc h10
  obtain ⟨rfl, h12⟩ := Zc h11
  simp only [Option.some.injEq, Prod.mk.injEq] at h12
  obtain ⟨rfl, rfl⟩ := h12
  exact ⟨rfl, rfl⟩
theorem laws_markRunS.ok (k : Nat) : Zv Try.prog 65 (laws_markRunS.e k) := by
  refine Zu mix tyok (fn := Try.f65) (c := Zl Try.f65) Try.func65 (by kernel_rfl) (h := laws_markRunS.h) (k := k) (E := laws_markRunS.E k) Zz (by kernel_rfl) (by kernel_rfl) rfl (Zq Try.func65 (by kernel_rfl)) ?_
  intro β l K r hr
  simp only [laws_markRunS.e] at hr
  split at hr
  case h_2 => cases hr
  unfold laws_markRunS.f at hr
  split at hr
  case h_2 => cases hr
  rename_i hz
  exact ⟨_, _, hr, _, laws_markRunS.dec, _, (laws_markRunS.f_eq k _ _ laws_markRunS.dec).trans (by rw [laws_markRunS.kt_dec]; exact hz), fun rs os h ho => laws_markRunS.inj _ _ h ho⟩
noncomputable def laws_markIsle.g {β : Type} (k : Nat) (a0_0 : ByteArray) (a0_1 : Int) (a0_2 : Int) (a0_3 : List (List C)) (a0_4 : List (List C)) (a1 : Int) (K : Int → (List (List C)) → (List (List C)) → Option β) : Option β :=
  laws_markWorkS.f k a0_3 a1 (fun y27 y28 => ZH (y28.length = a0_3.length) (laws_markRunS.f k a0_4 y27 (fun y29 y30 => ZH (y30.length = a0_4.length) (K y29 y28 y30))))
noncomputable def laws_markIsle.t (k : Nat) (a0_0 : ByteArray) (a0_1 : Int) (a0_2 : Int) (a0_3 : List (List C)) (a0_4 : List (List C)) (a1 : Int) : Option (Int × (List (List C)) × (List (List C))) := laws_markIsle.g k a0_0 a0_1 a0_2 a0_3 a0_4 a1 (fun z0 z1 z2 => some (z0, z1, z2))
noncomputable def laws_markIsle.f {β : Type} (k : Nat) (a0_0 : ByteArray) (a0_1 : Int) (a0_2 : Int) (a0_3 : List (List C)) (a0_4 : List (List C)) (a1 : Int) (K : Int → (List (List C)) → (List (List C)) → Option β) : Option β :=
  match laws_markIsle.t k a0_0 a0_1 a0_2 a0_3 a0_4 a1 with
  | some (z0, z1, z2) => K z0 z1 z2
  | none => none
noncomputable def laws_markIsle.as (a0_0 : ByteArray) (a0_1 : Int) (a0_2 : Int) (a0_3 : List (List C)) (a0_4 : List (List C)) (a1 : Int) : List A := [.own true [.d (.str a0_0), .d (.int .i64 a0_1), .d (.int .i64 a0_2), .own a0_3, .own a0_4], .d (.int .i64 a1)]
noncomputable def laws_markIsle.kt {β : Type} (a0_0 : ByteArray) (a0_1 : Int) (a0_2 : Int) (a0_3 : List (List C)) (a0_4 : List (List C)) (a1 : Int) (K0 : List (List C) → List Out → Option β) : Int → (List (List C)) → (List (List C)) → Option β := fun z0 z1 z2 => K0 [[.d (.int .i64 z0)]] [.own [.d (.str a0_0), .d (.int .i64 a0_1), .d (.int .i64 a0_2), .own z1, .own z2]]
noncomputable def laws_markIsle.e (k : Nat) : ZQ := { modes := [(.own, 62), (.imm, 0)], rts := [3], al := false, run := fun {β} l K => match l with | [.own true [.d (.str a0_0), .d (.int .i64 a0_1), .d (.int .i64 a0_2), .own a0_3, .own a0_4], .d (.int .i64 a1)] => laws_markIsle.f k a0_0 a0_1 a0_2 a0_3 a0_4 a1 (laws_markIsle.kt a0_0 a0_1 a0_2 a0_3 a0_4 a1 K) | _ => none }
noncomputable def laws_markIsle.E (k : Nat) : Env := fun g => bif g == 38 then some (laws_markWorkS.e k) else bif g == 65 then some (laws_markRunS.e k) else none
noncomputable def laws_markIsle.h : ZY := ⟨fun n => ⟨[], []⟩, fun _ => none, false, []⟩
theorem laws_markIsle.f_eq {β : Type} (k : Nat) (a0_0 : ByteArray) (a0_1 : Int) (a0_2 : Int) (a0_3 : List (List C)) (a0_4 : List (List C)) (a1 : Int) (K0 : List (List C) → List Out → Option β) : ZJ Try.prog (laws_markIsle.E k) laws_markIsle.h k Try.f37 (laws_markIsle.as a0_0 a0_1 a0_2 a0_3 a0_4 a1) K0 = laws_markIsle.g k a0_0 a0_1 a0_2 a0_3 a0_4 a1 (laws_markIsle.kt a0_0 a0_1 a0_2 a0_3 a0_4 a1 K0) := by kernel_rfl
noncomputable def laws_markIsle.dec (rs : List (List C)) (os : List Out) : Option (Int × (List (List C)) × (List (List C))) := Zd rs fun c1 r2 => Zd c1 fun x3 l4 => cD x3 fun d5 => ZM .i64 d5 fun w0 => Ze l4 <| Ze r2 <| Zd os fun o6 u7 => outOwn o6 fun c8 => Zd c8 fun x9 l10 => Zd l10 fun x11 l12 => Zd l12 fun x13 l14 => Zd l14 fun x15 l16 => ZaU x15 fun w1 => Zd l16 fun x17 l18 => ZaU x17 fun w2 => Ze l18 <| Ze u7 (some (w0, w1, w2))
theorem laws_markIsle.kt_dec (a0_0 : ByteArray) (a0_1 : Int) (a0_2 : Int) (a0_3 : List (List C)) (a0_4 : List (List C)) (a1 : Int) : laws_markIsle.kt a0_0 a0_1 a0_2 a0_3 a0_4 a1 laws_markIsle.dec = (fun z0 z1 z2 => some (z0, z1, z2)) := by kernel_rfl
theorem laws_markIsle.inj (a0_0 : ByteArray) (a0_1 : Int) (a0_2 : Int) (a0_3 : List (List C)) (a0_4 : List (List C)) (a1 : Int) {rs : List (List C)} {os : List Out} {z0 : Int} {z1 : List (List C)} {z2 : List (List C)} (h : laws_markIsle.dec rs os = some (z0, z1, z2)) (ho : Zo (laws_markIsle.as a0_0 a0_1 a0_2 a0_3 a0_4 a1) os) : rs = [[.d (.int .i64 z0)]] ∧ os = [.own [.d (.str a0_0), .d (.int .i64 a0_1), .d (.int .i64 a0_2), .own z1, .own z2]] := by
  unfold laws_markIsle.dec at h
  obtain ⟨c1, r2, rfl, h1⟩ := Zb h
  obtain ⟨x3, l4, rfl, h2⟩ := Zb h1
  obtain ⟨d5, rfl, h3⟩ := Zt h2
  obtain ⟨w0, rfl, h4⟩ := ZA h3
  obtain ⟨rfl, h5⟩ := Zc h4
  obtain ⟨rfl, h6⟩ := Zc h5
  obtain ⟨o6, u7, rfl, h7⟩ := Zb h6
  obtain ⟨c8, rfl, h8⟩ := outOwn_some h7
  obtain ⟨x9, l10, rfl, h9⟩ := Zb h8
  obtain ⟨x11, l12, rfl, h10⟩ := Zb h9
  obtain ⟨x13, l14, rfl, h11⟩ := Zb h10
  obtain ⟨x15, l16, rfl, h12⟩ := Zb h11
  obtain ⟨w1, rfl, h13⟩ := ZN h12
  obtain ⟨x17, l18, rfl, h14⟩ := Zb h13
  obtain ⟨w2, rfl, h15⟩ := ZN h14
  obtain ⟨rfl, h16⟩ := Zc h15
  obtain ⟨rfl, h17⟩ := Zc h16
  simp only [Option.some.injEq, Prod.mk.injEq] at h17
  obtain ⟨rfl, rfl, rfl⟩ := h17
  simp only [laws_markIsle.as, Zo] at ho
  obtain ⟨cs0, os0, e0, _, hs0, ho⟩ := ho
  injection e0 with e0 f0
  injection e0 with e0
  subst e0
  subst f0
  have hc := hs0 0 _ rfl
  simp at hc
  subst hc
  have hc := hs0 1 _ rfl
  simp at hc
  subst hc
  have hc := hs0 2 _ rfl
  simp at hc
  subst hc
  exact ⟨rfl, rfl⟩
theorem laws_markIsle.ok (k : Nat) : Zv Try.prog 37 (laws_markIsle.e k) := by
  refine Zu mix tyok (fn := Try.f37) (c := Zl Try.f37) Try.func37 (by kernel_rfl) (h := laws_markIsle.h) (k := k) (E := laws_markIsle.E k) (Zk (laws_markWorkS.ok k) (Zk (laws_markRunS.ok k) Zz)) (by kernel_rfl) (by kernel_rfl) rfl (Zq Try.func37 (by kernel_rfl)) ?_
  intro β l K r hr
  simp only [laws_markIsle.e] at hr
  split at hr
  case h_2 => cases hr
  unfold laws_markIsle.f at hr
  split at hr
  case h_2 => cases hr
  rename_i hz
  exact ⟨_, _, hr, _, laws_markIsle.dec, _, (laws_markIsle.f_eq k _ _ _ _ _ _ laws_markIsle.dec).trans (by rw [laws_markIsle.kt_dec]; exact hz), fun rs os h ho => laws_markIsle.inj _ _ _ _ _ _ h ho⟩
noncomputable def laws_heldStringS.l0 {β : Type} (k : Nat) (v0_0 : List (List D)) (K : Int → Option β) (L0 : (Int × Int) → Option β) (v : Int × Int) : Option β :=
  match v with
  | (v0_1, v0_2) => bif (decide ((v0_2 : Int) < (v0_0.length : Int))) then (ZX v0_0 v0_2 fun c6 => Zd c6 fun d7 r8 => Zan d7 fun x9 => Ze r8 (laws_markText.f k v0_1 (fun y10 => bif (!(strEq x9 y10)) then (K (-1)) else (L0 (IntKind.wrap .i64 (v0_1 + 1), IntKind.wrap .i64 (v0_2 + 1)))))) else (K v0_1)
noncomputable def laws_heldStringS.g {β : Type} (k : Nat) (a0 : List (List D)) (a1 : Int) (K : Int → Option β) : Option β :=
  Z4 (laws_heldStringS.l0 k a0 K) k (a1, 0)
noncomputable def laws_heldStringS.t (k : Nat) (a0 : List (List D)) (a1 : Int) : Option (Int) := laws_heldStringS.g k a0 a1 (fun z0 => some z0)
noncomputable def laws_heldStringS.f {β : Type} (k : Nat) (a0 : List (List D)) (a1 : Int) (K : Int → Option β) : Option β :=
  match laws_heldStringS.t k a0 a1 with
  | some z0 => K z0
  | none => none
noncomputable def laws_heldStringS.as (a0 : List (List D)) (a1 : Int) : List A := [.d (.sl a0), .d (.int .i64 a1)]
noncomputable def laws_heldStringS.kt {β : Type} (a0 : List (List D)) (a1 : Int) (K0 : List (List C) → List Out → Option β) : Int → Option β := fun z0 => K0 [[.d (.int .i64 z0)]] []
noncomputable def laws_heldStringS.e (k : Nat) : ZQ := { modes := [(.imm, 0), (.imm, 0)], rts := [3], al := false, run := fun {β} l K => match l with | [.d (.sl a0), .d (.int .i64 a1)] => laws_heldStringS.f k a0 a1 (laws_heldStringS.kt a0 a1 K) | _ => none }
noncomputable def laws_heldStringS.E (k : Nat) : Env := fun g => bif g == 113 then some (laws_markText.e k) else none
noncomputable def laws_heldStringS.h : ZY := ⟨fun n => bif n == 2 then ⟨[(0, .asis), (1, .dat false), (5, .asis)], []⟩ else ⟨[], []⟩, fun _ => none, false, []⟩
noncomputable def laws_heldStringS.s0 (v0_0 : List (List D)) (v : Int × Int) : St :=
  match v with
  | (v0_1, v0_2) => ⟨[.d false (.sl v0_0), .d false (.int .i64 v0_1), .any, .any, .any, .d true (.int .i64 v0_2), .any, .any, .any, .any, .any, .any, .any, .any, .any, .any, .any, .any, .any, .any, .any, .any], []⟩
noncomputable def laws_heldStringS.b0 {β : Type} (k : Nat) : St → (Ex → St → Option β) → Option β := fun s K => den Try.prog (laws_heldStringS.E k) laws_heldStringS.h.H laws_heldStringS.h.J k (Zad [1, 0, 1, 0, 0] (Zl Try.f93)) s K
noncomputable def laws_heldStringS.c0 {β : Type} (k : Nat) (a0 : List (List D)) (a1 : Int) (K0 : List (List C) → List Out → Option β) : Ex → St → Option β := Zae Try.prog (laws_heldStringS.E k) laws_heldStringS.h k [1, 0, 1, 0] (Zl Try.f93) (Zak Try.prog Try.f93 laws_heldStringS.h (laws_heldStringS.as a0 a1) K0)
theorem laws_heldStringS.l0_eq {β : Type} (k : Nat) (a0 : List (List D)) (a1 : Int) (K0 : List (List C) → List Out → Option β) (v0_0 : List (List D)) : ∀ (kk : Nat) (v : Int × Int), Zx (laws_heldStringS.b0 k) (laws_heldStringS.h.H 2) kk (laws_heldStringS.s0 v0_0 v) (laws_heldStringS.c0 k a0 a1 K0) = Z4 (laws_heldStringS.l0 k v0_0 (laws_heldStringS.kt a0 a1 K0)) kk v :=
  Z9 (laws_heldStringS.s0 v0_0) _ (fun L0 v => by obtain ⟨v0_1, v0_2⟩ := v; kernel_rfl)
noncomputable def laws_heldStringS.m {β : Type} (k : Nat) (a0 : List (List D)) (a1 : Int) (K0 : List (List C) → List Out → Option β) (F : ((List (List D)) → (Int × Int) → Option β)) : Option β :=
  (F) a0 (a1, 0)
theorem laws_heldStringS.f_eq {β : Type} (k : Nat) (a0 : List (List D)) (a1 : Int) (K0 : List (List C) → List Out → Option β) : ZJ Try.prog (laws_heldStringS.E k) laws_heldStringS.h k Try.f93 (laws_heldStringS.as a0 a1) K0 = laws_heldStringS.g k a0 a1 (laws_heldStringS.kt a0 a1 K0) := Eq.trans (b := (laws_heldStringS.m k a0 a1 K0) (fun (v0_0 : List (List D)) (v : Int × Int) => Zx (laws_heldStringS.b0 k) (laws_heldStringS.h.H 2) k (laws_heldStringS.s0 v0_0 v) (laws_heldStringS.c0 k a0 a1 K0))) (by kernel_rfl) (Eq.trans (congrArg (laws_heldStringS.m k a0 a1 K0) (funext fun v0_0 => funext fun v => laws_heldStringS.l0_eq k a0 a1 K0 v0_0 k v)) (by kernel_rfl))
noncomputable def laws_heldStringS.dec (rs : List (List C)) (os : List Out) : Option (Int) := Zd rs fun c1 r2 => Zd c1 fun x3 l4 => cD x3 fun d5 => ZM .i64 d5 fun w0 => Ze l4 <| Ze r2 <| Ze os (some w0)
theorem laws_heldStringS.kt_dec (a0 : List (List D)) (a1 : Int) : laws_heldStringS.kt a0 a1 laws_heldStringS.dec = (fun z0 => some z0) := by kernel_rfl
theorem laws_heldStringS.inj (a0 : List (List D)) (a1 : Int) {rs : List (List C)} {os : List Out} {z0 : Int} (h : laws_heldStringS.dec rs os = some z0) (ho : Zo (laws_heldStringS.as a0 a1) os) : rs = [[.d (.int .i64 z0)]] ∧ os = [] := by
  unfold laws_heldStringS.dec at h
  obtain ⟨c1, r2, rfl, h1⟩ := Zb h
  obtain ⟨x3, l4, rfl, h2⟩ := Zb h1
  obtain ⟨d5, rfl, h3⟩ := Zt h2
  obtain ⟨w0, rfl, h4⟩ := ZA h3
  obtain ⟨rfl, h5⟩ := Zc h4
  obtain ⟨rfl, h6⟩ := Zc h5
  obtain ⟨rfl, h7⟩ := Zc h6
  obtain rfl := Option.some.inj h7
  exact ⟨rfl, rfl⟩
theorem laws_heldStringS.ok (k : Nat) : Zv Try.prog 93 (laws_heldStringS.e k) := by
  refine Zu mix tyok (fn := Try.f93) (c := Zl Try.f93) Try.func93 (by kernel_rfl) (h := laws_heldStringS.h) (k := k) (E := laws_heldStringS.E k) (Zk (laws_markText.ok k) Zz) (by kernel_rfl) (by kernel_rfl) rfl (Zq Try.func93 (by kernel_rfl)) ?_
  intro β l K r hr
  simp only [laws_heldStringS.e] at hr
  split at hr
  case h_2 => cases hr
  unfold laws_heldStringS.f at hr
  split at hr
  case h_2 => cases hr
  rename_i hz
  exact ⟨_, _, hr, _, laws_heldStringS.dec, _, (laws_heldStringS.f_eq k _ _ laws_heldStringS.dec).trans (by rw [laws_heldStringS.kt_dec]; exact hz), fun rs os h ho => laws_heldStringS.inj _ _ h ho⟩
noncomputable def laws_heldValueS.l0 {β : Type} (k : Nat) (r_laws_heldValueS : (List (List D)) → Int → (Int → Option β) → Option β) (v0_0 : List (List D)) (K : Int → Option β) (L0 : (Int × Int) → Option β) (v : Int × Int) : Option β :=
  match v with
  | (v0_1, v0_2) => bif (decide ((v0_2 : Int) < (v0_0.length : Int))) then (ZX v0_0 v0_2 fun c84 => Zd c84 fun d85 r86 => ZM .i64 d85 fun x87 => Zd r86 fun d88 r89 => Zan d88 fun x90 => Zd r89 fun d91 r92 => ZM .i64 d91 fun x93 => Zd r92 fun d94 r95 => dSl d94 fun x96 => Zd r95 fun d97 r98 => dSl d97 fun x99 => Ze r98 (bif ((x87 : Int) != v0_1) then (K (-1)) else (ZX v0_0 v0_2 fun c100 => Zd c100 fun d101 r102 => ZM .i64 d101 fun x103 => Zd r102 fun d104 r105 => Zan d104 fun x106 => Zd r105 fun d107 r108 => ZM .i64 d107 fun x109 => Zd r108 fun d110 r111 => dSl d110 fun x112 => Zd r111 fun d113 r114 => dSl d113 fun x115 => Ze r114 (laws_markText.f k (IntKind.wrap .i64 (v0_1 + 1)) (fun y116 => bif (!(strEq x106 y116)) then (K (-1)) else (ZX v0_0 v0_2 fun c117 => Zd c117 fun d118 r119 => ZM .i64 d118 fun x120 => Zd r119 fun d121 r122 => Zan d121 fun x123 => Zd r122 fun d124 r125 => ZM .i64 d124 fun x126 => Zd r125 fun d127 r128 => dSl d127 fun x129 => Zd r128 fun d130 r131 => dSl d130 fun x132 => Ze r131 (bif ((x126 : Int) != (IntKind.wrap .i64 ((IntKind.wrap .i64 (v0_1 + 1)) + 1))) then (K (-1)) else (ZX v0_0 v0_2 fun c133 => Zd c133 fun d134 r135 => ZM .i64 d134 fun x136 => Zd r135 fun d137 r138 => Zan d137 fun x139 => Zd r138 fun d140 r141 => ZM .i64 d140 fun x142 => Zd r141 fun d143 r144 => dSl d143 fun x145 => Zd r144 fun d146 r147 => dSl d146 fun x148 => Ze r147 (laws_heldStringS.f k x145 (IntKind.wrap .i64 ((IntKind.wrap .i64 ((IntKind.wrap .i64 (v0_1 + 1)) + 1)) + 1)) (fun y149 => bif (decide ((y149 : Int) < 0)) then (K (-1)) else (ZX v0_0 v0_2 fun c150 => Zd c150 fun d151 r152 => ZM .i64 d151 fun x153 => Zd r152 fun d154 r155 => Zan d154 fun x156 => Zd r155 fun d157 r158 => ZM .i64 d157 fun x159 => Zd r158 fun d160 r161 => dSl d160 fun x162 => Zd r161 fun d163 r164 => dSl d163 fun x165 => Ze r164 (r_laws_heldValueS x165 y149 (fun y166 => bif (decide ((y166 : Int) < 0)) then (K (-1)) else (L0 (y166, IntKind.wrap .i64 (v0_2 + 1)))))))))))))))) else (K v0_1)
noncomputable def laws_heldValueS.body {β : Type} (k : Nat) (r_laws_heldValueS : (List (List D)) → Int → (Int → Option β) → Option β) (a0 : List (List D)) (a1 : Int) (K : Int → Option β) : Option β :=
  Z4 (laws_heldValueS.l0 k r_laws_heldValueS a0 K) k (a1, 0)
noncomputable def laws_heldValueS.w {β : Type} (r : (List (List D)) → Int → Option (Int)) (a0 : List (List D)) (a1 : Int) (K : Int → Option β) : Option β :=
  match r a0 a1 with
  | some z0 => K z0
  | none => none
noncomputable def laws_heldValueS.all : Nat → ((List (List D)) → Int → Option (Int))
  | 0 => (fun _ _ => none)
  | k + 1 => (fun r => (fun a0 a1 => laws_heldValueS.body k (laws_heldValueS.w r) a0 a1 (fun z0 => some z0))) (laws_heldValueS.all k)
noncomputable def laws_heldValueS.t (k : Nat) (a0 : List (List D)) (a1 : Int) : Option (Int) := (laws_heldValueS.all k) a0 a1
noncomputable def laws_heldValueS.f {β : Type} (k : Nat) (a0 : List (List D)) (a1 : Int) (K : Int → Option β) : Option β := laws_heldValueS.w (laws_heldValueS.t k) a0 a1 K
noncomputable def laws_heldValueS.g {β : Type} (k : Nat) (a0 : List (List D)) (a1 : Int) (K : Int → Option β) : Option β := laws_heldValueS.body k (laws_heldValueS.f k) a0 a1 K
theorem laws_heldValueS.t_zero (a0 : List (List D)) (a1 : Int) : laws_heldValueS.t 0 a0 a1 = none := rfl
theorem laws_heldValueS.t_succ (k : Nat) (a0 : List (List D)) (a1 : Int) : laws_heldValueS.t (k + 1) a0 a1 = laws_heldValueS.g k a0 a1 (fun z0 => some z0) := rfl
noncomputable def laws_heldValueS.as (a0 : List (List D)) (a1 : Int) : List A := [.d (.sl a0), .d (.int .i64 a1)]
noncomputable def laws_heldValueS.kt {β : Type} (a0 : List (List D)) (a1 : Int) (K0 : List (List C) → List Out → Option β) : Int → Option β := fun z0 => K0 [[.d (.int .i64 z0)]] []
noncomputable def laws_heldValueS.e (k : Nat) : ZQ := { modes := [(.imm, 0), (.imm, 0)], rts := [3], al := false, run := fun {β} l K => match l with | [.d (.sl a0), .d (.int .i64 a1)] => laws_heldValueS.f k a0 a1 (laws_heldValueS.kt a0 a1 K) | _ => none }
noncomputable def laws_heldValueS.E (k : Nat) : Env := fun g => bif g == 113 then some (laws_markText.e k) else bif g == 93 then some (laws_heldStringS.e k) else bif g == 142 then some (laws_heldValueS.e k) else none
noncomputable def laws_heldValueS.h : ZY := ⟨fun n => bif n == 2 then ⟨[(0, .asis), (1, .dat false), (5, .asis)], []⟩ else ⟨[], []⟩, fun _ => none, false, []⟩
noncomputable def laws_heldValueS.s0 (v0_0 : List (List D)) (v : Int × Int) : St :=
  match v with
  | (v0_1, v0_2) => ⟨[.d false (.sl v0_0), .d false (.int .i64 v0_1), .any, .any, .any, .d true (.int .i64 v0_2), .any, .any, .any, .any, .any, .any, .any, .any, .any, .any, .any, .any, .any, .any, .any, .any, .any, .any, .any, .any, .any, .any, .any, .any, .any, .any, .any, .any, .any, .any, .any, .any, .any, .any, .any, .any, .any, .any, .any, .any, .any, .any, .any, .any, .any, .any, .any, .any, .any, .any, .any, .any, .any], []⟩
noncomputable def laws_heldValueS.b0 {β : Type} (k : Nat) : St → (Ex → St → Option β) → Option β := fun s K => den Try.prog (laws_heldValueS.E k) laws_heldValueS.h.H laws_heldValueS.h.J k (Zad [1, 0, 1, 0, 0] (Zl Try.f142)) s K
noncomputable def laws_heldValueS.c0 {β : Type} (k : Nat) (a0 : List (List D)) (a1 : Int) (K0 : List (List C) → List Out → Option β) : Ex → St → Option β := Zae Try.prog (laws_heldValueS.E k) laws_heldValueS.h k [1, 0, 1, 0] (Zl Try.f142) (Zak Try.prog Try.f142 laws_heldValueS.h (laws_heldValueS.as a0 a1) K0)
theorem laws_heldValueS.l0_eq {β : Type} (k : Nat) (a0 : List (List D)) (a1 : Int) (K0 : List (List C) → List Out → Option β) (v0_0 : List (List D)) : ∀ (kk : Nat) (v : Int × Int), Zx (laws_heldValueS.b0 k) (laws_heldValueS.h.H 2) kk (laws_heldValueS.s0 v0_0 v) (laws_heldValueS.c0 k a0 a1 K0) = Z4 (laws_heldValueS.l0 k (laws_heldValueS.f k) v0_0 (laws_heldValueS.kt a0 a1 K0)) kk v :=
  Z9 (laws_heldValueS.s0 v0_0) _ (fun L0 v => by obtain ⟨v0_1, v0_2⟩ := v; kernel_rfl)
noncomputable def laws_heldValueS.m {β : Type} (k : Nat) (a0 : List (List D)) (a1 : Int) (K0 : List (List C) → List Out → Option β) (F : ((List (List D)) → (Int × Int) → Option β)) : Option β :=
  (F) a0 (a1, 0)
theorem laws_heldValueS.f_eq {β : Type} (k : Nat) (a0 : List (List D)) (a1 : Int) (K0 : List (List C) → List Out → Option β) : ZJ Try.prog (laws_heldValueS.E k) laws_heldValueS.h k Try.f142 (laws_heldValueS.as a0 a1) K0 = laws_heldValueS.g k a0 a1 (laws_heldValueS.kt a0 a1 K0) := Eq.trans (b := (laws_heldValueS.m k a0 a1 K0) (fun (v0_0 : List (List D)) (v : Int × Int) => Zx (laws_heldValueS.b0 k) (laws_heldValueS.h.H 2) k (laws_heldValueS.s0 v0_0 v) (laws_heldValueS.c0 k a0 a1 K0))) (by kernel_rfl) (Eq.trans (congrArg (laws_heldValueS.m k a0 a1 K0) (funext fun v0_0 => funext fun v => laws_heldValueS.l0_eq k a0 a1 K0 v0_0 k v)) (by kernel_rfl))
noncomputable def laws_heldValueS.dec (rs : List (List C)) (os : List Out) : Option (Int) := Zd rs fun c1 r2 => Zd c1 fun x3 l4 => cD x3 fun d5 => ZM .i64 d5 fun w0 => Ze l4 <| Ze r2 <| Ze os (some w0)
theorem laws_heldValueS.kt_dec (a0 : List (List D)) (a1 : Int) : laws_heldValueS.kt a0 a1 laws_heldValueS.dec = (fun z0 => some z0) := by kernel_rfl
theorem laws_heldValueS.inj (a0 : List (List D)) (a1 : Int) {rs : List (List C)} {os : List Out} {z0 : Int} (h : laws_heldValueS.dec rs os = some z0) (ho : Zo (laws_heldValueS.as a0 a1) os) : rs = [[.d (.int .i64 z0)]] ∧ os = [] := by
  unfold laws_heldValueS.dec at h
  obtain ⟨c1, r2, rfl, h1⟩ := Zb h
  obtain ⟨x3, l4, rfl, h2⟩ := Zb h1
  obtain ⟨d5, rfl, h3⟩ := Zt h2
  obtain ⟨w0, rfl, h4⟩ := ZA h3
  obtain ⟨rfl, h5⟩ := Zc h4
  obtain ⟨rfl, h6⟩ := Zc h5
  obtain ⟨rfl, h7⟩ := Zc h6
  obtain rfl := Option.some.inj h7
  exact ⟨rfl, rfl⟩
theorem laws_heldValueS.oks (k : Nat) : Zv Try.prog 142 (laws_heldValueS.e k) := by
  induction k with
  | zero =>
    refine ?_
    · exact Zb1 (Zq Try.func142 (by kernel_rfl)) fun β l K r h => by
        simp only [laws_heldValueS.e] at h
        split at h
        · unfold laws_heldValueS.f at h
          unfold laws_heldValueS.w at h
          rw [laws_heldValueS.t_zero] at h
          cases h
        · cases h
  | succ k ih =>
    refine ?_
    · refine Zu mix tyok (fn := Try.f142) (c := Zl Try.f142) Try.func142 (by kernel_rfl) (h := laws_heldValueS.h) (k := k) (E := laws_heldValueS.E k) (Zk (laws_markText.ok k) (Zk (laws_heldStringS.ok k) (Zk ih Zz))) (by kernel_rfl) (by kernel_rfl) rfl (Zq Try.func142 (by kernel_rfl)) ?_
      intro β l K r hr
      simp only [laws_heldValueS.e] at hr
      split at hr
      case h_2 => cases hr
      unfold laws_heldValueS.f at hr
      unfold laws_heldValueS.w at hr
      split at hr
      case h_2 => cases hr
      rename_i hz
      exact ⟨_, _, hr, _, laws_heldValueS.dec, _, (laws_heldValueS.f_eq k _ _ laws_heldValueS.dec).trans (by rw [laws_heldValueS.kt_dec]; exact hz), fun rs os h ho => laws_heldValueS.inj _ _ h ho⟩
theorem laws_heldValueS.ok (k : Nat) : Zv Try.prog 142 (laws_heldValueS.e k) := (laws_heldValueS.oks k)
set_option maxRecDepth 100000 in
noncomputable def laws_heldWorkS.l0 {β : Type} (k : Nat) (v0_0 : List (List D)) (K : Int → Option β) (L0 : (Int × Int) → Option β) (v : Int × Int) : Option β :=
  match v with
  | (v0_1, v0_2) => bif (decide ((v0_2 : Int) < (v0_0.length : Int))) then (ZX v0_0 v0_2 fun c158 => Zd c158 fun d159 r160 => ZM .i64 d159 fun x161 => Zd r160 fun d162 r163 => ZM .i64 d162 fun x164 => Zd r163 fun d165 r166 => ZM .i64 d165 fun x167 => Zd r166 fun d168 r169 => Zan d168 fun x170 => Zd r169 fun d171 r172 => ZM .i64 d171 fun x173 => Zd r172 fun d174 r175 => dSl d174 fun x176 => Zd r175 fun d177 r178 => dSl d177 fun x179 => Ze r178 (bif ((x161 : Int) != v0_1) then (K (-1)) else (ZX v0_0 v0_2 fun c180 => Zd c180 fun d181 r182 => ZM .i64 d181 fun x183 => Zd r182 fun d184 r185 => ZM .i64 d184 fun x186 => Zd r185 fun d187 r188 => ZM .i64 d187 fun x189 => Zd r188 fun d190 r191 => Zan d190 fun x192 => Zd r191 fun d193 r194 => ZM .i64 d193 fun x195 => Zd r194 fun d196 r197 => dSl d196 fun x198 => Zd r197 fun d199 r200 => dSl d199 fun x201 => Ze r200 (bif ((x186 : Int) != (IntKind.wrap .i64 (v0_1 + 1))) then (K (-1)) else (ZX v0_0 v0_2 fun c202 => Zd c202 fun d203 r204 => ZM .i64 d203 fun x205 => Zd r204 fun d206 r207 => ZM .i64 d206 fun x208 => Zd r207 fun d209 r210 => ZM .i64 d209 fun x211 => Zd r210 fun d212 r213 => Zan d212 fun x214 => Zd r213 fun d215 r216 => ZM .i64 d215 fun x217 => Zd r216 fun d218 r219 => dSl d218 fun x220 => Zd r219 fun d221 r222 => dSl d221 fun x223 => Ze r222 (bif ((x211 : Int) != (IntKind.wrap .i64 ((IntKind.wrap .i64 (v0_1 + 1)) + 1))) then (K (-1)) else (ZX v0_0 v0_2 fun c224 => Zd c224 fun d225 r226 => ZM .i64 d225 fun x227 => Zd r226 fun d228 r229 => ZM .i64 d228 fun x230 => Zd r229 fun d231 r232 => ZM .i64 d231 fun x233 => Zd r232 fun d234 r235 => Zan d234 fun x236 => Zd r235 fun d237 r238 => ZM .i64 d237 fun x239 => Zd r238 fun d240 r241 => dSl d240 fun x242 => Zd r241 fun d243 r244 => dSl d243 fun x245 => Ze r244 (laws_markText.f k (IntKind.wrap .i64 ((IntKind.wrap .i64 ((IntKind.wrap .i64 (v0_1 + 1)) + 1)) + 1)) (fun y246 => bif (!(strEq x236 y246)) then (K (-1)) else (ZX v0_0 v0_2 fun c247 => Zd c247 fun d248 r249 => ZM .i64 d248 fun x250 => Zd r249 fun d251 r252 => ZM .i64 d251 fun x253 => Zd r252 fun d254 r255 => ZM .i64 d254 fun x256 => Zd r255 fun d257 r258 => Zan d257 fun x259 => Zd r258 fun d260 r261 => ZM .i64 d260 fun x262 => Zd r261 fun d263 r264 => dSl d263 fun x265 => Zd r264 fun d266 r267 => dSl d266 fun x268 => Ze r267 (bif ((x262 : Int) != (IntKind.wrap .i64 ((IntKind.wrap .i64 ((IntKind.wrap .i64 ((IntKind.wrap .i64 (v0_1 + 1)) + 1)) + 1)) + 1))) then (K (-1)) else (ZX v0_0 v0_2 fun c269 => Zd c269 fun d270 r271 => ZM .i64 d270 fun x272 => Zd r271 fun d273 r274 => ZM .i64 d273 fun x275 => Zd r274 fun d276 r277 => ZM .i64 d276 fun x278 => Zd r277 fun d279 r280 => Zan d279 fun x281 => Zd r280 fun d282 r283 => ZM .i64 d282 fun x284 => Zd r283 fun d285 r286 => dSl d285 fun x287 => Zd r286 fun d288 r289 => dSl d288 fun x290 => Ze r289 (laws_heldStringS.f k x287 (IntKind.wrap .i64 ((IntKind.wrap .i64 ((IntKind.wrap .i64 ((IntKind.wrap .i64 ((IntKind.wrap .i64 (v0_1 + 1)) + 1)) + 1)) + 1)) + 1)) (fun y291 => bif (decide ((y291 : Int) < 0)) then (K (-1)) else (ZX v0_0 v0_2 fun c292 => Zd c292 fun d293 r294 => ZM .i64 d293 fun x295 => Zd r294 fun d296 r297 => ZM .i64 d296 fun x298 => Zd r297 fun d299 r300 => ZM .i64 d299 fun x301 => Zd r300 fun d302 r303 => Zan d302 fun x304 => Zd r303 fun d305 r306 => ZM .i64 d305 fun x307 => Zd r306 fun d308 r309 => dSl d308 fun x310 => Zd r309 fun d311 r312 => dSl d311 fun x313 => Ze r312 (laws_heldValueS.f k x313 y291 (fun y314 => bif (decide ((y314 : Int) < 0)) then (K (-1)) else (L0 (y314, IntKind.wrap .i64 (v0_2 + 1)))))))))))))))))))) else (K v0_1)
noncomputable def laws_heldWorkS.g {β : Type} (k : Nat) (a0 : List (List D)) (a1 : Int) (K : Int → Option β) : Option β :=
  Z4 (laws_heldWorkS.l0 k a0 K) k (a1, 0)
noncomputable def laws_heldWorkS.t (k : Nat) (a0 : List (List D)) (a1 : Int) : Option (Int) := laws_heldWorkS.g k a0 a1 (fun z0 => some z0)
noncomputable def laws_heldWorkS.f {β : Type} (k : Nat) (a0 : List (List D)) (a1 : Int) (K : Int → Option β) : Option β :=
  match laws_heldWorkS.t k a0 a1 with
  | some z0 => K z0
  | none => none
noncomputable def laws_heldWorkS.as (a0 : List (List D)) (a1 : Int) : List A := [.d (.sl a0), .d (.int .i64 a1)]
noncomputable def laws_heldWorkS.kt {β : Type} (a0 : List (List D)) (a1 : Int) (K0 : List (List C) → List Out → Option β) : Int → Option β := fun z0 => K0 [[.d (.int .i64 z0)]] []
noncomputable def laws_heldWorkS.e (k : Nat) : ZQ := { modes := [(.imm, 0), (.imm, 0)], rts := [3], al := false, run := fun {β} l K => match l with | [.d (.sl a0), .d (.int .i64 a1)] => laws_heldWorkS.f k a0 a1 (laws_heldWorkS.kt a0 a1 K) | _ => none }
noncomputable def laws_heldWorkS.E (k : Nat) : Env := fun g => bif g == 113 then some (laws_markText.e k) else bif g == 93 then some (laws_heldStringS.e k) else bif g == 142 then some (laws_heldValueS.e k) else none
noncomputable def laws_heldWorkS.h : ZY := ⟨fun n => bif n == 2 then ⟨[(0, .asis), (1, .dat false), (5, .asis)], []⟩ else ⟨[], []⟩, fun _ => none, false, []⟩
noncomputable def laws_heldWorkS.s0 (v0_0 : List (List D)) (v : Int × Int) : St :=
  match v with
  | (v0_1, v0_2) => ⟨[.d false (.sl v0_0), .d false (.int .i64 v0_1), .any, .any, .any, .d true (.int .i64 v0_2), .any, .any, .any, .any, .any, .any, .any, .any, .any, .any, .any, .any, .any, .any, .any, .any, .any, .any, .any, .any, .any, .any, .any, .any, .any, .any, .any, .any, .any, .any, .any, .any, .any, .any, .any, .any, .any, .any, .any, .any, .any, .any, .any, .any, .any, .any, .any, .any, .any, .any, .any, .any, .any, .any, .any, .any, .any, .any, .any, .any, .any, .any, .any, .any, .any, .any, .any, .any, .any, .any, .any, .any, .any, .any, .any, .any], []⟩
noncomputable def laws_heldWorkS.b0 {β : Type} (k : Nat) : St → (Ex → St → Option β) → Option β := fun s K => den Try.prog (laws_heldWorkS.E k) laws_heldWorkS.h.H laws_heldWorkS.h.J k (Zad [1, 0, 1, 0, 0] (Zl Try.f115)) s K
noncomputable def laws_heldWorkS.c0 {β : Type} (k : Nat) (a0 : List (List D)) (a1 : Int) (K0 : List (List C) → List Out → Option β) : Ex → St → Option β := Zae Try.prog (laws_heldWorkS.E k) laws_heldWorkS.h k [1, 0, 1, 0] (Zl Try.f115) (Zak Try.prog Try.f115 laws_heldWorkS.h (laws_heldWorkS.as a0 a1) K0)
theorem laws_heldWorkS.l0_eq {β : Type} (k : Nat) (a0 : List (List D)) (a1 : Int) (K0 : List (List C) → List Out → Option β) (v0_0 : List (List D)) : ∀ (kk : Nat) (v : Int × Int), Zx (laws_heldWorkS.b0 k) (laws_heldWorkS.h.H 2) kk (laws_heldWorkS.s0 v0_0 v) (laws_heldWorkS.c0 k a0 a1 K0) = Z4 (laws_heldWorkS.l0 k v0_0 (laws_heldWorkS.kt a0 a1 K0)) kk v :=
  Z9 (laws_heldWorkS.s0 v0_0) _ (fun L0 v => by obtain ⟨v0_1, v0_2⟩ := v; kernel_rfl)
noncomputable def laws_heldWorkS.m {β : Type} (k : Nat) (a0 : List (List D)) (a1 : Int) (K0 : List (List C) → List Out → Option β) (F : ((List (List D)) → (Int × Int) → Option β)) : Option β :=
  (F) a0 (a1, 0)
theorem laws_heldWorkS.f_eq {β : Type} (k : Nat) (a0 : List (List D)) (a1 : Int) (K0 : List (List C) → List Out → Option β) : ZJ Try.prog (laws_heldWorkS.E k) laws_heldWorkS.h k Try.f115 (laws_heldWorkS.as a0 a1) K0 = laws_heldWorkS.g k a0 a1 (laws_heldWorkS.kt a0 a1 K0) := Eq.trans (b := (laws_heldWorkS.m k a0 a1 K0) (fun (v0_0 : List (List D)) (v : Int × Int) => Zx (laws_heldWorkS.b0 k) (laws_heldWorkS.h.H 2) k (laws_heldWorkS.s0 v0_0 v) (laws_heldWorkS.c0 k a0 a1 K0))) (by kernel_rfl) (Eq.trans (congrArg (laws_heldWorkS.m k a0 a1 K0) (funext fun v0_0 => funext fun v => laws_heldWorkS.l0_eq k a0 a1 K0 v0_0 k v)) (by kernel_rfl))
noncomputable def laws_heldWorkS.dec (rs : List (List C)) (os : List Out) : Option (Int) := Zd rs fun c1 r2 => Zd c1 fun x3 l4 => cD x3 fun d5 => ZM .i64 d5 fun w0 => Ze l4 <| Ze r2 <| Ze os (some w0)
theorem laws_heldWorkS.kt_dec (a0 : List (List D)) (a1 : Int) : laws_heldWorkS.kt a0 a1 laws_heldWorkS.dec = (fun z0 => some z0) := by kernel_rfl
theorem laws_heldWorkS.inj (a0 : List (List D)) (a1 : Int) {rs : List (List C)} {os : List Out} {z0 : Int} (h : laws_heldWorkS.dec rs os = some z0) (ho : Zo (laws_heldWorkS.as a0 a1) os) : rs = [[.d (.int .i64 z0)]] ∧ os = [] := by
  unfold laws_heldWorkS.dec at h
  obtain ⟨c1, r2, rfl, h1⟩ := Zb h
  obtain ⟨x3, l4, rfl, h2⟩ := Zb h1
  obtain ⟨d5, rfl, h3⟩ := Zt h2
  obtain ⟨w0, rfl, h4⟩ := ZA h3
  obtain ⟨rfl, h5⟩ := Zc h4
  obtain ⟨rfl, h6⟩ := Zc h5
  obtain ⟨rfl, h7⟩ := Zc h6
  obtain rfl := Option.some.inj h7
  exact ⟨rfl, rfl⟩
theorem laws_heldWorkS.ok (k : Nat) : Zv Try.prog 115 (laws_heldWorkS.e k) := by
  refine Zu mix tyok (fn := Try.f115) (c := Zl Try.f115) Try.func115 (by kernel_rfl) (h := laws_heldWorkS.h) (k := k) (E := laws_heldWorkS.E k) (Zk (laws_markText.ok k) (Zk (laws_heldStringS.ok k) (Zk (laws_heldValueS.ok k) Zz))) (by kernel_rfl) (by kernel_rfl) rfl (Zq Try.func115 (by kernel_rfl)) ?_
  intro β l K r hr
  simp only [laws_heldWorkS.e] at hr
  split at hr
  case h_2 => cases hr
  unfold laws_heldWorkS.f at hr
  split at hr
  case h_2 => cases hr
  rename_i hz
  exact ⟨_, _, hr, _, laws_heldWorkS.dec, _, (laws_heldWorkS.f_eq k _ _ laws_heldWorkS.dec).trans (by rw [laws_heldWorkS.kt_dec]; exact hz), fun rs os h ho => laws_heldWorkS.inj _ _ h ho⟩
noncomputable def laws_heldRunS.l0 {β : Type} (k : Nat) (v0_0 : List (List D)) (K : Int → Option β) (L0 : (Int × Int) → Option β) (v : Int × Int) : Option β :=
  match v with
  | (v0_1, v0_2) => bif (decide ((v0_2 : Int) < (v0_0.length : Int))) then (ZX v0_0 v0_2 fun c15 => Zd c15 fun d16 r17 => ZM .i64 d16 fun x18 => Zd r17 fun d19 r20 => ZM .i64 d19 fun x21 => Ze r20 (bif ((x18 : Int) != v0_1) then (K (-1)) else (ZX v0_0 v0_2 fun c22 => Zd c22 fun d23 r24 => ZM .i64 d23 fun x25 => Zd r24 fun d26 r27 => ZM .i64 d26 fun x28 => Ze r27 (bif ((x28 : Int) != (IntKind.wrap .i64 (v0_1 + 1))) then (K (-1)) else (L0 (IntKind.wrap .i64 ((IntKind.wrap .i64 (v0_1 + 1)) + 1), IntKind.wrap .i64 (v0_2 + 1))))))) else (K v0_1)
noncomputable def laws_heldRunS.g {β : Type} (k : Nat) (a0 : List (List D)) (a1 : Int) (K : Int → Option β) : Option β :=
  Z4 (laws_heldRunS.l0 k a0 K) k (a1, 0)
noncomputable def laws_heldRunS.t (k : Nat) (a0 : List (List D)) (a1 : Int) : Option (Int) := laws_heldRunS.g k a0 a1 (fun z0 => some z0)
noncomputable def laws_heldRunS.f {β : Type} (k : Nat) (a0 : List (List D)) (a1 : Int) (K : Int → Option β) : Option β :=
  match laws_heldRunS.t k a0 a1 with
  | some z0 => K z0
  | none => none
noncomputable def laws_heldRunS.as (a0 : List (List D)) (a1 : Int) : List A := [.d (.sl a0), .d (.int .i64 a1)]
noncomputable def laws_heldRunS.kt {β : Type} (a0 : List (List D)) (a1 : Int) (K0 : List (List C) → List Out → Option β) : Int → Option β := fun z0 => K0 [[.d (.int .i64 z0)]] []
noncomputable def laws_heldRunS.e (k : Nat) : ZQ := { modes := [(.imm, 0), (.imm, 0)], rts := [3], al := false, run := fun {β} l K => match l with | [.d (.sl a0), .d (.int .i64 a1)] => laws_heldRunS.f k a0 a1 (laws_heldRunS.kt a0 a1 K) | _ => none }
noncomputable def laws_heldRunS.E (k : Nat) : Env := fun g => none
noncomputable def laws_heldRunS.h : ZY := ⟨fun n => bif n == 2 then ⟨[(0, .asis), (1, .dat false), (5, .asis)], []⟩ else ⟨[], []⟩, fun _ => none, false, []⟩
noncomputable def laws_heldRunS.s0 (v0_0 : List (List D)) (v : Int × Int) : St :=
  match v with
  | (v0_1, v0_2) => ⟨[.d false (.sl v0_0), .d false (.int .i64 v0_1), .any, .any, .any, .d true (.int .i64 v0_2), .any, .any, .any, .any, .any, .any, .any, .any, .any, .any, .any, .any, .any, .any, .any, .any, .any, .any, .any, .any, .any, .any, .any, .any, .any], []⟩
noncomputable def laws_heldRunS.b0 {β : Type} (k : Nat) : St → (Ex → St → Option β) → Option β := fun s K => den Try.prog (laws_heldRunS.E k) laws_heldRunS.h.H laws_heldRunS.h.J k (Zad [1, 0, 1, 0, 0] (Zl Try.f66)) s K
noncomputable def laws_heldRunS.c0 {β : Type} (k : Nat) (a0 : List (List D)) (a1 : Int) (K0 : List (List C) → List Out → Option β) : Ex → St → Option β := Zae Try.prog (laws_heldRunS.E k) laws_heldRunS.h k [1, 0, 1, 0] (Zl Try.f66) (Zak Try.prog Try.f66 laws_heldRunS.h (laws_heldRunS.as a0 a1) K0)
theorem laws_heldRunS.l0_eq {β : Type} (k : Nat) (a0 : List (List D)) (a1 : Int) (K0 : List (List C) → List Out → Option β) (v0_0 : List (List D)) : ∀ (kk : Nat) (v : Int × Int), Zx (laws_heldRunS.b0 k) (laws_heldRunS.h.H 2) kk (laws_heldRunS.s0 v0_0 v) (laws_heldRunS.c0 k a0 a1 K0) = Z4 (laws_heldRunS.l0 k v0_0 (laws_heldRunS.kt a0 a1 K0)) kk v :=
  Z9 (laws_heldRunS.s0 v0_0) _ (fun L0 v => by obtain ⟨v0_1, v0_2⟩ := v; kernel_rfl)
noncomputable def laws_heldRunS.m {β : Type} (k : Nat) (a0 : List (List D)) (a1 : Int) (K0 : List (List C) → List Out → Option β) (F : ((List (List D)) → (Int × Int) → Option β)) : Option β :=
  (F) a0 (a1, 0)
theorem laws_heldRunS.f_eq {β : Type} (k : Nat) (a0 : List (List D)) (a1 : Int) (K0 : List (List C) → List Out → Option β) : ZJ Try.prog (laws_heldRunS.E k) laws_heldRunS.h k Try.f66 (laws_heldRunS.as a0 a1) K0 = laws_heldRunS.g k a0 a1 (laws_heldRunS.kt a0 a1 K0) := Eq.trans (b := (laws_heldRunS.m k a0 a1 K0) (fun (v0_0 : List (List D)) (v : Int × Int) => Zx (laws_heldRunS.b0 k) (laws_heldRunS.h.H 2) k (laws_heldRunS.s0 v0_0 v) (laws_heldRunS.c0 k a0 a1 K0))) (by kernel_rfl) (Eq.trans (congrArg (laws_heldRunS.m k a0 a1 K0) (funext fun v0_0 => funext fun v => laws_heldRunS.l0_eq k a0 a1 K0 v0_0 k v)) (by kernel_rfl))
noncomputable def laws_heldRunS.dec (rs : List (List C)) (os : List Out) : Option (Int) := Zd rs fun c1 r2 => Zd c1 fun x3 l4 => cD x3 fun d5 => ZM .i64 d5 fun w0 => Ze l4 <| Ze r2 <| Ze os (some w0)
theorem laws_heldRunS.kt_dec (a0 : List (List D)) (a1 : Int) : laws_heldRunS.kt a0 a1 laws_heldRunS.dec = (fun z0 => some z0) := by kernel_rfl
theorem laws_heldRunS.inj (a0 : List (List D)) (a1 : Int) {rs : List (List C)} {os : List Out} {z0 : Int} (h : laws_heldRunS.dec rs os = some z0) (ho : Zo (laws_heldRunS.as a0 a1) os) : rs = [[.d (.int .i64 z0)]] ∧ os = [] := by
  unfold laws_heldRunS.dec at h
  obtain ⟨c1, r2, rfl, h1⟩ := Zb h
  obtain ⟨x3, l4, rfl, h2⟩ := Zb h1
  obtain ⟨d5, rfl, h3⟩ := Zt h2
  obtain ⟨w0, rfl, h4⟩ := ZA h3
  obtain ⟨rfl, h5⟩ := Zc h4
  obtain ⟨rfl, h6⟩ := Zc h5
  obtain ⟨rfl, h7⟩ := Zc h6
  obtain rfl := Option.some.inj h7
  exact ⟨rfl, rfl⟩
theorem laws_heldRunS.ok (k : Nat) : Zv Try.prog 66 (laws_heldRunS.e k) := by
  refine Zu mix tyok (fn := Try.f66) (c := Zl Try.f66) Try.func66 (by kernel_rfl) (h := laws_heldRunS.h) (k := k) (E := laws_heldRunS.E k) Zz (by kernel_rfl) (by kernel_rfl) rfl (Zq Try.func66 (by kernel_rfl)) ?_
  intro β l K r hr
  simp only [laws_heldRunS.e] at hr
  split at hr
  case h_2 => cases hr
  unfold laws_heldRunS.f at hr
  split at hr
  case h_2 => cases hr
  rename_i hz
  exact ⟨_, _, hr, _, laws_heldRunS.dec, _, (laws_heldRunS.f_eq k _ _ laws_heldRunS.dec).trans (by rw [laws_heldRunS.kt_dec]; exact hz), fun rs os h ho => laws_heldRunS.inj _ _ h ho⟩
noncomputable def laws_heldIsle.g {β : Type} (k : Nat) (a0_0 : ByteArray) (a0_1 : Int) (a0_2 : Int) (a0_3 : List (List D)) (a0_4 : List (List D)) (a1 : Int) (K : Int → Option β) : Option β :=
  laws_heldWorkS.f k a0_3 a1 (fun y315 => bif (decide ((y315 : Int) < 0)) then (K (-1)) else (laws_heldRunS.f k a0_4 y315 (fun y316 => bif (decide ((y316 : Int) < 0)) then (K (-1)) else (K y316))))
noncomputable def laws_heldIsle.t (k : Nat) (a0_0 : ByteArray) (a0_1 : Int) (a0_2 : Int) (a0_3 : List (List D)) (a0_4 : List (List D)) (a1 : Int) : Option (Int) := laws_heldIsle.g k a0_0 a0_1 a0_2 a0_3 a0_4 a1 (fun z0 => some z0)
noncomputable def laws_heldIsle.f {β : Type} (k : Nat) (a0_0 : ByteArray) (a0_1 : Int) (a0_2 : Int) (a0_3 : List (List D)) (a0_4 : List (List D)) (a1 : Int) (K : Int → Option β) : Option β :=
  match laws_heldIsle.t k a0_0 a0_1 a0_2 a0_3 a0_4 a1 with
  | some z0 => K z0
  | none => none
noncomputable def laws_heldIsle.as (a0_0 : ByteArray) (a0_1 : Int) (a0_2 : Int) (a0_3 : List (List D)) (a0_4 : List (List D)) (a1 : Int) : List A := [.agg [.str a0_0, .int .i64 a0_1, .int .i64 a0_2, .sl a0_3, .sl a0_4], .d (.int .i64 a1)]
noncomputable def laws_heldIsle.kt {β : Type} (a0_0 : ByteArray) (a0_1 : Int) (a0_2 : Int) (a0_3 : List (List D)) (a0_4 : List (List D)) (a1 : Int) (K0 : List (List C) → List Out → Option β) : Int → Option β := fun z0 => K0 [[.d (.int .i64 z0)]] []
noncomputable def laws_heldIsle.e (k : Nat) : ZQ := { modes := [(.imm, 0), (.imm, 0)], rts := [3], al := false, run := fun {β} l K => match l with | [.agg [.str a0_0, .int .i64 a0_1, .int .i64 a0_2, .sl a0_3, .sl a0_4], .d (.int .i64 a1)] => laws_heldIsle.f k a0_0 a0_1 a0_2 a0_3 a0_4 a1 (laws_heldIsle.kt a0_0 a0_1 a0_2 a0_3 a0_4 a1 K) | _ => none }
noncomputable def laws_heldIsle.E (k : Nat) : Env := fun g => bif g == 115 then some (laws_heldWorkS.e k) else bif g == 66 then some (laws_heldRunS.e k) else none
noncomputable def laws_heldIsle.h : ZY := ⟨fun n => ⟨[], []⟩, fun _ => none, false, []⟩
theorem laws_heldIsle.f_eq {β : Type} (k : Nat) (a0_0 : ByteArray) (a0_1 : Int) (a0_2 : Int) (a0_3 : List (List D)) (a0_4 : List (List D)) (a1 : Int) (K0 : List (List C) → List Out → Option β) : ZJ Try.prog (laws_heldIsle.E k) laws_heldIsle.h k Try.f39 (laws_heldIsle.as a0_0 a0_1 a0_2 a0_3 a0_4 a1) K0 = laws_heldIsle.g k a0_0 a0_1 a0_2 a0_3 a0_4 a1 (laws_heldIsle.kt a0_0 a0_1 a0_2 a0_3 a0_4 a1 K0) := by kernel_rfl
noncomputable def laws_heldIsle.dec (rs : List (List C)) (os : List Out) : Option (Int) := Zd rs fun c1 r2 => Zd c1 fun x3 l4 => cD x3 fun d5 => ZM .i64 d5 fun w0 => Ze l4 <| Ze r2 <| Ze os (some w0)
theorem laws_heldIsle.kt_dec (a0_0 : ByteArray) (a0_1 : Int) (a0_2 : Int) (a0_3 : List (List D)) (a0_4 : List (List D)) (a1 : Int) : laws_heldIsle.kt a0_0 a0_1 a0_2 a0_3 a0_4 a1 laws_heldIsle.dec = (fun z0 => some z0) := by kernel_rfl
theorem laws_heldIsle.inj (a0_0 : ByteArray) (a0_1 : Int) (a0_2 : Int) (a0_3 : List (List D)) (a0_4 : List (List D)) (a1 : Int) {rs : List (List C)} {os : List Out} {z0 : Int} (h : laws_heldIsle.dec rs os = some z0) (ho : Zo (laws_heldIsle.as a0_0 a0_1 a0_2 a0_3 a0_4 a1) os) : rs = [[.d (.int .i64 z0)]] ∧ os = [] := by
  unfold laws_heldIsle.dec at h
  obtain ⟨c1, r2, rfl, h1⟩ := Zb h
  obtain ⟨x3, l4, rfl, h2⟩ := Zb h1
  obtain ⟨d5, rfl, h3⟩ := Zt h2
  obtain ⟨w0, rfl, h4⟩ := ZA h3
  obtain ⟨rfl, h5⟩ := Zc h4
  obtain ⟨rfl, h6⟩ := Zc h5
  obtain ⟨rfl, h7⟩ := Zc h6
  obtain rfl := Option.some.inj h7
  exact ⟨rfl, rfl⟩
theorem laws_heldIsle.ok (k : Nat) : Zv Try.prog 39 (laws_heldIsle.e k) := by
  refine Zu mix tyok (fn := Try.f39) (c := Zl Try.f39) Try.func39 (by kernel_rfl) (h := laws_heldIsle.h) (k := k) (E := laws_heldIsle.E k) (Zk (laws_heldWorkS.ok k) (Zk (laws_heldRunS.ok k) Zz)) (by kernel_rfl) (by kernel_rfl) rfl (Zq Try.func39 (by kernel_rfl)) ?_
  intro β l K r hr
  simp only [laws_heldIsle.e] at hr
  split at hr
  case h_2 => cases hr
  unfold laws_heldIsle.f at hr
  split at hr
  case h_2 => cases hr
  rename_i hz
  exact ⟨_, _, hr, _, laws_heldIsle.dec, _, (laws_heldIsle.f_eq k _ _ _ _ _ _ laws_heldIsle.dec).trans (by rw [laws_heldIsle.kt_dec]; exact hz), fun rs os h ho => laws_heldIsle.inj _ _ _ _ _ _ h ho⟩
noncomputable def laws_FnExactObey.g {β : Type} (k : Nat) (a0_0 : ByteArray) (a0_1 : Int) (a0_2 : Int) (a0_3 : List (List D)) (a0_4 : List (List D)) (a1 : Int) (a2 : List (List D)) (K : Bool → Option β) : Option β :=
  laws_szIsle.f k a0_0 a0_1 a0_2 a0_3 a0_4 1048576 (fun y63 => bif (decide ((y63 : Int) < 0)) then (K true) else (laws_szWorkS.f k a2 y63 (fun y64 => bif (decide ((y64 : Int) < 0)) then (K true) else (laws_toIsle.f k a0_0 a0_1 a0_2 a0_3 a0_4 (fun y87 y88 y89 y90 y91 => laws_toWorkS.f k a2 (fun y92 => spec_Obey.f k y87 y88 y89 (C.immRows y90) (C.immRows y91) a1 (C.immRows y92) (fun y152 y153 y154 y155 y156 y157 => laws_toIsle.f k a0_0 a0_1 a0_2 a0_3 a0_4 (fun y158 y159 y160 y161 y162 => laws_toWorkS.f k a2 (fun y163 => impl_Obey.f k y158 y159 y160 (C.immRows y161) (C.immRows y162) a1 (C.immRows y163) (fun y164 y165 y166 y167 y168 y169 => laws_eqIsle.f k y164 y165 y166 (C.immRows y167) (C.immRows y168) y152 y153 y154 (C.immRows y155) (C.immRows y156) (fun y170 => bif (!y170) then (K false) else (bif (!(y169 == y157)) then (K false) else (laws_toIsle.f k a0_0 a0_1 a0_2 a0_3 a0_4 (fun y171 y172 y173 y174 y175 => laws_eqIsle.f k y158 y159 y160 (C.immRows y161) (C.immRows y162) y171 y172 y173 (C.immRows y174) (C.immRows y175) (fun y176 => bif (!y176) then (K false) else (laws_toWorkS.f k a2 (fun y177 => laws_eqWorkS.f k (C.immRows y163) (C.immRows y177) (fun y178 => bif (!y178) then (K false) else (laws_markIsle.f k y158 y159 y160 y161 y162 1 (fun y179 y180 y181 => ZH (y180.length = y161.length) (ZH (y181.length = y162.length) (laws_markWorkS.f k y163 y179 (fun y182 y183 => ZH (y183.length = y163.length) (bif (decide ((y182 : Int) < 0)) then (K false) else (laws_eqIsle.f k y164 y165 y166 (C.immRows y167) (C.immRows y168) y152 y153 y154 (C.immRows y155) (C.immRows y156) (fun y184 => bif (!y184) then (K false) else (bif (!(y169 == y157)) then (K false) else (laws_markIsle.f k y164 y165 y166 y167 y168 1 (fun y185 y186 y187 => ZH (y186.length = y167.length) (ZH (y187.length = y168.length) (laws_heldIsle.f k y164 y165 y166 (C.immRows y186) (C.immRows y187) 1 (fun y317 => bif (decide ((y317 : Int) < 0)) then (K false) else (bif ((y317 : Int) != y185) then (K false) else (laws_toIsle.f k a0_0 a0_1 a0_2 a0_3 a0_4 (fun y318 y319 y320 y321 y322 => laws_toWorkS.f k a2 (fun y323 => impl_Obey.f k y318 y319 y320 (C.immRows y321) (C.immRows y322) a1 (C.immRows y323) (fun y324 y325 y326 y327 y328 y329 => laws_eqIsle.f k y324 y325 y326 (C.immRows y327) (C.immRows y328) y152 y153 y154 (C.immRows y155) (C.immRows y156) (fun y330 => bif (!y330) then (K false) else (bif (!(y329 == y157)) then (K false) else (laws_heldIsle.f k y164 y165 y166 (C.immRows y186) (C.immRows y187) 1 (fun y331 => bif (decide ((y331 : Int) < 0)) then (K false) else (bif ((y331 : Int) != y185) then (K false) else (K true)))))))))))))))))))))))))))))))))))))))))))
noncomputable def laws_FnExactObey.t (k : Nat) (a0_0 : ByteArray) (a0_1 : Int) (a0_2 : Int) (a0_3 : List (List D)) (a0_4 : List (List D)) (a1 : Int) (a2 : List (List D)) : Option (Bool) := laws_FnExactObey.g k a0_0 a0_1 a0_2 a0_3 a0_4 a1 a2 (fun z0 => some z0)
noncomputable def laws_FnExactObey.f {β : Type} (k : Nat) (a0_0 : ByteArray) (a0_1 : Int) (a0_2 : Int) (a0_3 : List (List D)) (a0_4 : List (List D)) (a1 : Int) (a2 : List (List D)) (K : Bool → Option β) : Option β :=
  match laws_FnExactObey.t k a0_0 a0_1 a0_2 a0_3 a0_4 a1 a2 with
  | some z0 => K z0
  | none => none
noncomputable def laws_FnExactObey.as (a0_0 : ByteArray) (a0_1 : Int) (a0_2 : Int) (a0_3 : List (List D)) (a0_4 : List (List D)) (a1 : Int) (a2 : List (List D)) : List A := [.agg [.str a0_0, .int .i64 a0_1, .int .i64 a0_2, .sl a0_3, .sl a0_4], .d (.int .i64 a1), .d (.sl a2)]
noncomputable def laws_FnExactObey.kt {β : Type} (a0_0 : ByteArray) (a0_1 : Int) (a0_2 : Int) (a0_3 : List (List D)) (a0_4 : List (List D)) (a1 : Int) (a2 : List (List D)) (K0 : List (List C) → List Out → Option β) : Bool → Option β := fun z0 => K0 [[.d (.bool z0)]] []
noncomputable def laws_FnExactObey.e (k : Nat) : ZQ := { modes := [(.imm, 0), (.imm, 0), (.imm, 0)], rts := [4], al := false, run := fun {β} l K => match l with | [.agg [.str a0_0, .int .i64 a0_1, .int .i64 a0_2, .sl a0_3, .sl a0_4], .d (.int .i64 a1), .d (.sl a2)] => laws_FnExactObey.f k a0_0 a0_1 a0_2 a0_3 a0_4 a1 a2 (laws_FnExactObey.kt a0_0 a0_1 a0_2 a0_3 a0_4 a1 a2 K) | _ => none }
noncomputable def laws_FnExactObey.E (k : Nat) : Env := fun g => bif g == 29 then some (laws_szIsle.e k) else bif g == 30 then some (laws_szWorkS.e k) else bif g == 32 then some (laws_toIsle.e k) else bif g == 33 then some (laws_toWorkS.e k) else bif g == 31 then some (spec_Obey.e k) else bif g == 34 then some (impl_Obey.e k) else bif g == 35 then some (laws_eqIsle.e k) else bif g == 36 then some (laws_eqWorkS.e k) else bif g == 37 then some (laws_markIsle.e k) else bif g == 38 then some (laws_markWorkS.e k) else bif g == 39 then some (laws_heldIsle.e k) else none
noncomputable def laws_FnExactObey.h : ZY := ⟨fun n => ⟨[], []⟩, fun _ => none, false, []⟩
theorem laws_FnExactObey.f_eq {β : Type} (k : Nat) (a0_0 : ByteArray) (a0_1 : Int) (a0_2 : Int) (a0_3 : List (List D)) (a0_4 : List (List D)) (a1 : Int) (a2 : List (List D)) (K0 : List (List C) → List Out → Option β) : ZJ Try.prog (laws_FnExactObey.E k) laws_FnExactObey.h k Try.f6 (laws_FnExactObey.as a0_0 a0_1 a0_2 a0_3 a0_4 a1 a2) K0 = laws_FnExactObey.g k a0_0 a0_1 a0_2 a0_3 a0_4 a1 a2 (laws_FnExactObey.kt a0_0 a0_1 a0_2 a0_3 a0_4 a1 a2 K0) := by kernel_rfl
noncomputable def laws_FnExactObey.dec (rs : List (List C)) (os : List Out) : Option (Bool) := Zd rs fun c1 r2 => Zd c1 fun x3 l4 => cD x3 fun d5 => ZaF d5 fun w0 => Ze l4 <| Ze r2 <| Ze os (some w0)
theorem laws_FnExactObey.kt_dec (a0_0 : ByteArray) (a0_1 : Int) (a0_2 : Int) (a0_3 : List (List D)) (a0_4 : List (List D)) (a1 : Int) (a2 : List (List D)) : laws_FnExactObey.kt a0_0 a0_1 a0_2 a0_3 a0_4 a1 a2 laws_FnExactObey.dec = (fun z0 => some z0) := by kernel_rfl
theorem laws_FnExactObey.inj (a0_0 : ByteArray) (a0_1 : Int) (a0_2 : Int) (a0_3 : List (List D)) (a0_4 : List (List D)) (a1 : Int) (a2 : List (List D)) {rs : List (List C)} {os : List Out} {z0 : Bool} (h : laws_FnExactObey.dec rs os = some z0) (ho : Zo (laws_FnExactObey.as a0_0 a0_1 a0_2 a0_3 a0_4 a1 a2) os) : rs = [[.d (.bool z0)]] ∧ os = [] := by
  unfold laws_FnExactObey.dec at h
  obtain ⟨c1, r2, rfl, h1⟩ := Zb h
  obtain ⟨x3, l4, rfl, h2⟩ := Zb h1
  obtain ⟨d5, rfl, h3⟩ := Zt h2
  obtain ⟨w0, rfl, h4⟩ := Z0 h3
  obtain ⟨rfl, h5⟩ := Zc h4
  obtain ⟨rfl, h6⟩ := Zc h5
  obtain ⟨rfl, h7⟩ := Zc h6
  obtain rfl := Option.some.inj h7
  exact ⟨rfl, rfl⟩
theorem laws_FnExactObey.ok (k : Nat) : Zv Try.prog 6 (laws_FnExactObey.e k) := by
  refine Zu mix tyok (fn := Try.f6) (c := Zl Try.f6) Try.func6 (by kernel_rfl) (h := laws_FnExactObey.h) (k := k) (E := laws_FnExactObey.E k) (Zk (laws_szIsle.ok k) (Zk (laws_szWorkS.ok k) (Zk (laws_toIsle.ok k) (Zk (laws_toWorkS.ok k) (Zk (spec_Obey.ok k) (Zk (impl_Obey.ok k) (Zk (laws_eqIsle.ok k) (Zk (laws_eqWorkS.ok k) (Zk (laws_markIsle.ok k) (Zk (laws_markWorkS.ok k) (Zk (laws_heldIsle.ok k) Zz))))))))))) (by kernel_rfl) (by kernel_rfl) rfl (Zq Try.func6 (by kernel_rfl)) ?_
  intro β l K r hr
  simp only [laws_FnExactObey.e] at hr
  split at hr
  case h_2 => cases hr
  unfold laws_FnExactObey.f at hr
  split at hr
  case h_2 => cases hr
  rename_i hz
  exact ⟨_, _, hr, _, laws_FnExactObey.dec, _, (laws_FnExactObey.f_eq k _ _ _ _ _ _ _ laws_FnExactObey.dec).trans (by rw [laws_FnExactObey.kt_dec]; exact hz), fun rs os h ho => laws_FnExactObey.inj _ _ _ _ _ _ _ h ho⟩
end Go.Proofs.Ytljkbknnnpjmgaa
