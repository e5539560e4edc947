/- Printed: the functions that FnExactDone reaches, read by the evaluator, each with its contract. -/
import Derived.Test.YtljkbknnnpjmgaaTLibs
import Derived.Test.YtljkbknnnpjmgaaProg
import Derived.KernelRfl
set_option linter.unusedVariables false
set_option linter.unusedSimpArgs false
namespace Go.Proofs.Ytljkbknnnpjmgaa
open Go Go.T Go.Proofs
theorem mix : Try.prog.follows .mixedOrders = true := by kernel_rfl
theorem tyok : ZaV Try.prog := tyOk_of (by kernel_rfl)
noncomputable def laws_szItem.g {β : Type} (k : Nat) (a0_0 : ByteArray) (a0_1 : Int) (a0_2 : Int) (a1 : Int) (K : Int → Option β) : Option β :=
  bif (decide (((IntKind.wrap .i64 (a1 - (a0_0.size : Int))) : Int) < 0)) then (K (-1)) else (K (IntKind.wrap .i64 (a1 - (a0_0.size : Int))))
noncomputable def laws_szItem.t (k : Nat) (a0_0 : ByteArray) (a0_1 : Int) (a0_2 : Int) (a1 : Int) : Option (Int) := laws_szItem.g k a0_0 a0_1 a0_2 a1 (fun z0 => some z0)
noncomputable def laws_szItem.f {β : Type} (k : Nat) (a0_0 : ByteArray) (a0_1 : Int) (a0_2 : Int) (a1 : Int) (K : Int → Option β) : Option β :=
  match laws_szItem.t k a0_0 a0_1 a0_2 a1 with
  | some z0 => K z0
  | none => none
noncomputable def laws_szItem.as (a0_0 : ByteArray) (a0_1 : Int) (a0_2 : Int) (a1 : Int) : List A := [.agg [.str a0_0, .int .i64 a0_1, .int .i64 a0_2], .d (.int .i64 a1)]
noncomputable def laws_szItem.kt {β : Type} (a0_0 : ByteArray) (a0_1 : Int) (a0_2 : Int) (a1 : Int) (K0 : List (List C) → List Out → Option β) : Int → Option β := fun z0 => K0 [[.d (.int .i64 z0)]] []
noncomputable def laws_szItem.e (k : Nat) : ZQ := { modes := [(.imm, 0), (.imm, 0)], rts := [3], al := false, run := fun {β} l K => match l with | [.agg [.str a0_0, .int .i64 a0_1, .int .i64 a0_2], .d (.int .i64 a1)] => laws_szItem.f k a0_0 a0_1 a0_2 a1 (laws_szItem.kt a0_0 a0_1 a0_2 a1 K) | _ => none }
noncomputable def laws_szItem.E (k : Nat) : Env := fun g => none
noncomputable def laws_szItem.h : ZY := ⟨fun n => ⟨[], []⟩, fun _ => none, false, []⟩
theorem laws_szItem.f_eq {β : Type} (k : Nat) (a0_0 : ByteArray) (a0_1 : Int) (a0_2 : Int) (a1 : Int) (K0 : List (List C) → List Out → Option β) : ZJ Try.prog (laws_szItem.E k) laws_szItem.h k Try.f170 (laws_szItem.as a0_0 a0_1 a0_2 a1) K0 = laws_szItem.g k a0_0 a0_1 a0_2 a1 (laws_szItem.kt a0_0 a0_1 a0_2 a1 K0) := by kernel_rfl
noncomputable def laws_szItem.dec (rs : List (List C)) (os : List Out) : Option (Int) := Zd rs fun c1 r2 => Zd c1 fun x3 l4 => cD x3 fun d5 => ZM .i64 d5 fun w0 => Ze l4 <| Ze r2 <| Ze os (some w0)
theorem laws_szItem.kt_dec (a0_0 : ByteArray) (a0_1 : Int) (a0_2 : Int) (a1 : Int) : laws_szItem.kt a0_0 a0_1 a0_2 a1 laws_szItem.dec = (fun z0 => some z0) := by kernel_rfl
theorem laws_szItem.inj (a0_0 : ByteArray) (a0_1 : Int) (a0_2 : Int) (a1 : Int) {rs : List (List C)} {os : List Out} {z0 : Int} (h : laws_szItem.dec rs os = some z0) (ho : Zo (laws_szItem.as a0_0 a0_1 a0_2 a1) os) : rs = [[.d (.int .i64 z0)]] ∧ os = [] := by
  unfold laws_szItem.dec at h
  obtain ⟨c1, r2, rfl, h1⟩ := Zb h
  obtain ⟨x3, l4, rfl, h2⟩ := Zb h1
  obtain ⟨d5, rfl, h3⟩ := Zt h2
  obtain ⟨w0, rfl, h4⟩ := ZA h3
  obtain ⟨rfl, h5⟩ := Zc h4
  obtain ⟨rfl, h6⟩ := Zc h5
  obtain ⟨rfl, h7⟩ := Zc h6
  obtain rfl := Option.some.inj h7
  exact ⟨rfl, rfl⟩
theorem laws_szItem.ok (k : Nat) : Zv Try.prog 170 (laws_szItem.e k) := by
  refine Zu mix tyok (fn := Try.f170) (c := Zl Try.f170) Try.func170 (by kernel_rfl) (h := laws_szItem.h) (k := k) (E := laws_szItem.E k) Zz (by kernel_rfl) (by kernel_rfl) rfl (Zq Try.func170 (by kernel_rfl)) ?_
  intro β l K r hr
  simp only [laws_szItem.e] at hr
  split at hr
  case h_2 => cases hr
  unfold laws_szItem.f at hr
  split at hr
  case h_2 => cases hr
  rename_i hz
  exact ⟨_, _, hr, _, laws_szItem.dec, _, (laws_szItem.f_eq k _ _ _ _ laws_szItem.dec).trans (by rw [laws_szItem.kt_dec]; exact hz), fun rs os h ho => laws_szItem.inj _ _ _ _ h ho⟩
noncomputable def laws_szItemS.l0 {β : Type} (k : Nat) (v0_0 : List (List D)) (K : Int → Option β) (L0 : (Int × Int) → Option β) (v : Int × Int) : Option β :=
  match v with
  | (v0_1, v0_2) => bif (decide ((v0_2 : Int) < (v0_0.length : Int))) then (ZX v0_0 v0_2 fun c12 => Zd c12 fun d13 r14 => Zan d13 fun x15 => Zd r14 fun d16 r17 => ZM .i64 d16 fun x18 => Zd r17 fun d19 r20 => ZM .i64 d19 fun x21 => Ze r20 (laws_szItem.f k x15 x18 x21 v0_1 (fun y22 => bif (decide ((y22 : Int) < 0)) then (K (-1)) else (L0 (y22, IntKind.wrap .i64 (v0_2 + 1)))))) else (K v0_1)
noncomputable def laws_szItemS.g {β : Type} (k : Nat) (a0 : List (List D)) (a1 : Int) (K : Int → Option β) : Option β :=
  bif (decide (((IntKind.wrap .i64 (a1 - (a0.length : Int))) : Int) < 0)) then (K (-1)) else (Z4 (laws_szItemS.l0 k a0 K) k (IntKind.wrap .i64 (a1 - (a0.length : Int)), 0))
noncomputable def laws_szItemS.t (k : Nat) (a0 : List (List D)) (a1 : Int) : Option (Int) := laws_szItemS.g k a0 a1 (fun z0 => some z0)
noncomputable def laws_szItemS.f {β : Type} (k : Nat) (a0 : List (List D)) (a1 : Int) (K : Int → Option β) : Option β :=
  match laws_szItemS.t k a0 a1 with
  | some z0 => K z0
  | none => none
noncomputable def laws_szItemS.as (a0 : List (List D)) (a1 : Int) : List A := [.d (.sl a0), .d (.int .i64 a1)]
noncomputable def laws_szItemS.kt {β : Type} (a0 : List (List D)) (a1 : Int) (K0 : List (List C) → List Out → Option β) : Int → Option β := fun z0 => K0 [[.d (.int .i64 z0)]] []
noncomputable def laws_szItemS.e (k : Nat) : ZQ := { modes := [(.imm, 0), (.imm, 0)], rts := [3], al := false, run := fun {β} l K => match l with | [.d (.sl a0), .d (.int .i64 a1)] => laws_szItemS.f k a0 a1 (laws_szItemS.kt a0 a1 K) | _ => none }
noncomputable def laws_szItemS.E (k : Nat) : Env := fun g => bif g == 170 then some (laws_szItem.e k) else none
noncomputable def laws_szItemS.h : ZY := ⟨fun n => bif n == 5 then ⟨[(0, .asis), (1, .asis), (5, .asis)], []⟩ else ⟨[], []⟩, fun _ => none, false, []⟩
noncomputable def laws_szItemS.s0 (v0_0 : List (List D)) (v : Int × Int) : St :=
  match v with
  | (v0_1, v0_2) => ⟨[.d false (.sl v0_0), .d true (.int .i64 v0_1), .any, .any, .any, .d true (.int .i64 v0_2), .any, .any, .any, .any, .any, .any, .any, .any, .any, .any, .any, .any, .any, .any, .any, .any, .any, .any, .any, .any, .any], []⟩
noncomputable def laws_szItemS.b0 {β : Type} (k : Nat) : St → (Ex → St → Option β) → Option β := fun s K => den Try.prog (laws_szItemS.E k) laws_szItemS.h.H laws_szItemS.h.J k (Zad [1, 1, 1, 0, 1, 0, 0] (Zl Try.f83)) s K
noncomputable def laws_szItemS.c0 {β : Type} (k : Nat) (a0 : List (List D)) (a1 : Int) (K0 : List (List C) → List Out → Option β) : Ex → St → Option β := Zae Try.prog (laws_szItemS.E k) laws_szItemS.h k [1, 1, 1, 0, 1, 0] (Zl Try.f83) (Zak Try.prog Try.f83 laws_szItemS.h (laws_szItemS.as a0 a1) K0)
theorem laws_szItemS.l0_eq {β : Type} (k : Nat) (a0 : List (List D)) (a1 : Int) (K0 : List (List C) → List Out → Option β) (v0_0 : List (List D)) : ∀ (kk : Nat) (v : Int × Int), Zx (laws_szItemS.b0 k) (laws_szItemS.h.H 5) kk (laws_szItemS.s0 v0_0 v) (laws_szItemS.c0 k a0 a1 K0) = Z4 (laws_szItemS.l0 k v0_0 (laws_szItemS.kt a0 a1 K0)) kk v :=
  Z9 (laws_szItemS.s0 v0_0) _ (fun L0 v => by obtain ⟨v0_1, v0_2⟩ := v; kernel_rfl)
noncomputable def laws_szItemS.m {β : Type} (k : Nat) (a0 : List (List D)) (a1 : Int) (K0 : List (List C) → List Out → Option β) (F : ((List (List D)) → (Int × Int) → Option β)) : Option β :=
  bif (decide (((IntKind.wrap .i64 (a1 - (a0.length : Int))) : Int) < 0)) then ((laws_szItemS.kt a0 a1 K0) (-1)) else ((F) a0 (IntKind.wrap .i64 (a1 - (a0.length : Int)), 0))
theorem laws_szItemS.f_eq {β : Type} (k : Nat) (a0 : List (List D)) (a1 : Int) (K0 : List (List C) → List Out → Option β) : ZJ Try.prog (laws_szItemS.E k) laws_szItemS.h k Try.f83 (laws_szItemS.as a0 a1) K0 = laws_szItemS.g k a0 a1 (laws_szItemS.kt a0 a1 K0) := Eq.trans (b := (laws_szItemS.m k a0 a1 K0) (fun (v0_0 : List (List D)) (v : Int × Int) => Zx (laws_szItemS.b0 k) (laws_szItemS.h.H 5) k (laws_szItemS.s0 v0_0 v) (laws_szItemS.c0 k a0 a1 K0))) (by kernel_rfl) (Eq.trans (congrArg (laws_szItemS.m k a0 a1 K0) (funext fun v0_0 => funext fun v => laws_szItemS.l0_eq k a0 a1 K0 v0_0 k v)) (by kernel_rfl))
noncomputable def laws_szItemS.dec (rs : List (List C)) (os : List Out) : Option (Int) := Zd rs fun c1 r2 => Zd c1 fun x3 l4 => cD x3 fun d5 => ZM .i64 d5 fun w0 => Ze l4 <| Ze r2 <| Ze os (some w0)
theorem laws_szItemS.kt_dec (a0 : List (List D)) (a1 : Int) : laws_szItemS.kt a0 a1 laws_szItemS.dec = (fun z0 => some z0) := by kernel_rfl
theorem laws_szItemS.inj (a0 : List (List D)) (a1 : Int) {rs : List (List C)} {os : List Out} {z0 : Int} (h : laws_szItemS.dec rs os = some z0) (ho : Zo (laws_szItemS.as a0 a1) os) : rs = [[.d (.int .i64 z0)]] ∧ os = [] := by
  unfold laws_szItemS.dec at h
  obtain ⟨c1, r2, rfl, h1⟩ := Zb h
  obtain ⟨x3, l4, rfl, h2⟩ := Zb h1
  obtain ⟨d5, rfl, h3⟩ := Zt h2
  obtain ⟨w0, rfl, h4⟩ := ZA h3
  obtain ⟨rfl, h5⟩ := Zc h4
  obtain ⟨rfl, h6⟩ := Zc h5
  obtain ⟨rfl, h7⟩ := Zc h6
  obtain rfl := Option.some.inj h7
  exact ⟨rfl, rfl⟩
theorem laws_szItemS.ok (k : Nat) : Zv Try.prog 83 (laws_szItemS.e k) := by
  refine Zu mix tyok (fn := Try.f83) (c := Zl Try.f83) Try.func83 (by kernel_rfl) (h := laws_szItemS.h) (k := k) (E := laws_szItemS.E k) (Zk (laws_szItem.ok k) Zz) (by kernel_rfl) (by kernel_rfl) rfl (Zq Try.func83 (by kernel_rfl)) ?_
  intro β l K r hr
  simp only [laws_szItemS.e] at hr
  split at hr
  case h_2 => cases hr
  unfold laws_szItemS.f at hr
  split at hr
  case h_2 => cases hr
  rename_i hz
  exact ⟨_, _, hr, _, laws_szItemS.dec, _, (laws_szItemS.f_eq k _ _ laws_szItemS.dec).trans (by rw [laws_szItemS.kt_dec]; exact hz), fun rs os h ho => laws_szItemS.inj _ _ h ho⟩
noncomputable def laws_szStringS.l0 {β : Type} (k : Nat) (v0_0 : List (List D)) (K : Int → Option β) (L0 : (Int × Int) → Option β) (v : Int × Int) : Option β :=
  match v with
  | (v0_1, v0_2) => bif (decide ((v0_2 : Int) < (v0_0.length : Int))) then (ZX v0_0 v0_2 fun c5 => Zd c5 fun d6 r7 => Zan d6 fun x8 => Ze r7 (bif (decide (((IntKind.wrap .i64 (v0_1 - (x8.size : Int))) : Int) < 0)) then (K (-1)) else (L0 (IntKind.wrap .i64 (v0_1 - (x8.size : Int)), IntKind.wrap .i64 (v0_2 + 1))))) else (K v0_1)
noncomputable def laws_szStringS.g {β : Type} (k : Nat) (a0 : List (List D)) (a1 : Int) (K : Int → Option β) : Option β :=
  bif (decide (((IntKind.wrap .i64 (a1 - (a0.length : Int))) : Int) < 0)) then (K (-1)) else (Z4 (laws_szStringS.l0 k a0 K) k (IntKind.wrap .i64 (a1 - (a0.length : Int)), 0))
noncomputable def laws_szStringS.t (k : Nat) (a0 : List (List D)) (a1 : Int) : Option (Int) := laws_szStringS.g k a0 a1 (fun z0 => some z0)
noncomputable def laws_szStringS.f {β : Type} (k : Nat) (a0 : List (List D)) (a1 : Int) (K : Int → Option β) : Option β :=
  match laws_szStringS.t k a0 a1 with
  | some z0 => K z0
  | none => none
noncomputable def laws_szStringS.as (a0 : List (List D)) (a1 : Int) : List A := [.d (.sl a0), .d (.int .i64 a1)]
noncomputable def laws_szStringS.kt {β : Type} (a0 : List (List D)) (a1 : Int) (K0 : List (List C) → List Out → Option β) : Int → Option β := fun z0 => K0 [[.d (.int .i64 z0)]] []
noncomputable def laws_szStringS.e (k : Nat) : ZQ := { modes := [(.imm, 0), (.imm, 0)], rts := [3], al := false, run := fun {β} l K => match l with | [.d (.sl a0), .d (.int .i64 a1)] => laws_szStringS.f k a0 a1 (laws_szStringS.kt a0 a1 K) | _ => none }
noncomputable def laws_szStringS.E (k : Nat) : Env := fun g => none
noncomputable def laws_szStringS.h : ZY := ⟨fun n => bif n == 5 then ⟨[(0, .asis), (1, .asis), (5, .asis)], []⟩ else ⟨[], []⟩, fun _ => none, false, []⟩
noncomputable def laws_szStringS.s0 (v0_0 : List (List D)) (v : Int × Int) : St :=
  match v with
  | (v0_1, v0_2) => ⟨[.d false (.sl v0_0), .d true (.int .i64 v0_1), .any, .any, .any, .d true (.int .i64 v0_2), .any, .any, .any, .any, .any, .any, .any, .any, .any, .any, .any, .any, .any, .any, .any, .any, .any, .any, .any, .any, .any, .any], []⟩
noncomputable def laws_szStringS.b0 {β : Type} (k : Nat) : St → (Ex → St → Option β) → Option β := fun s K => den Try.prog (laws_szStringS.E k) laws_szStringS.h.H laws_szStringS.h.J k (Zad [1, 1, 1, 0, 1, 0, 0] (Zl Try.f74)) s K
noncomputable def laws_szStringS.c0 {β : Type} (k : Nat) (a0 : List (List D)) (a1 : Int) (K0 : List (List C) → List Out → Option β) : Ex → St → Option β := Zae Try.prog (laws_szStringS.E k) laws_szStringS.h k [1, 1, 1, 0, 1, 0] (Zl Try.f74) (Zak Try.prog Try.f74 laws_szStringS.h (laws_szStringS.as a0 a1) K0)
theorem laws_szStringS.l0_eq {β : Type} (k : Nat) (a0 : List (List D)) (a1 : Int) (K0 : List (List C) → List Out → Option β) (v0_0 : List (List D)) : ∀ (kk : Nat) (v : Int × Int), Zx (laws_szStringS.b0 k) (laws_szStringS.h.H 5) kk (laws_szStringS.s0 v0_0 v) (laws_szStringS.c0 k a0 a1 K0) = Z4 (laws_szStringS.l0 k v0_0 (laws_szStringS.kt a0 a1 K0)) kk v :=
  Z9 (laws_szStringS.s0 v0_0) _ (fun L0 v => by obtain ⟨v0_1, v0_2⟩ := v; kernel_rfl)
noncomputable def laws_szStringS.m {β : Type} (k : Nat) (a0 : List (List D)) (a1 : Int) (K0 : List (List C) → List Out → Option β) (F : ((List (List D)) → (Int × Int) → Option β)) : Option β :=
  bif (decide (((IntKind.wrap .i64 (a1 - (a0.length : Int))) : Int) < 0)) then ((laws_szStringS.kt a0 a1 K0) (-1)) else ((F) a0 (IntKind.wrap .i64 (a1 - (a0.length : Int)), 0))
theorem laws_szStringS.f_eq {β : Type} (k : Nat) (a0 : List (List D)) (a1 : Int) (K0 : List (List C) → List Out → Option β) : ZJ Try.prog (laws_szStringS.E k) laws_szStringS.h k Try.f74 (laws_szStringS.as a0 a1) K0 = laws_szStringS.g k a0 a1 (laws_szStringS.kt a0 a1 K0) := Eq.trans (b := (laws_szStringS.m k a0 a1 K0) (fun (v0_0 : List (List D)) (v : Int × Int) => Zx (laws_szStringS.b0 k) (laws_szStringS.h.H 5) k (laws_szStringS.s0 v0_0 v) (laws_szStringS.c0 k a0 a1 K0))) (by kernel_rfl) (Eq.trans (congrArg (laws_szStringS.m k a0 a1 K0) (funext fun v0_0 => funext fun v => laws_szStringS.l0_eq k a0 a1 K0 v0_0 k v)) (by kernel_rfl))
noncomputable def laws_szStringS.dec (rs : List (List C)) (os : List Out) : Option (Int) := Zd rs fun c1 r2 => Zd c1 fun x3 l4 => cD x3 fun d5 => ZM .i64 d5 fun w0 => Ze l4 <| Ze r2 <| Ze os (some w0)
theorem laws_szStringS.kt_dec (a0 : List (List D)) (a1 : Int) : laws_szStringS.kt a0 a1 laws_szStringS.dec = (fun z0 => some z0) := by kernel_rfl
theorem laws_szStringS.inj (a0 : List (List D)) (a1 : Int) {rs : List (List C)} {os : List Out} {z0 : Int} (h : laws_szStringS.dec rs os = some z0) (ho : Zo (laws_szStringS.as a0 a1) os) : rs = [[.d (.int .i64 z0)]] ∧ os = [] := by
  unfold laws_szStringS.dec at h
  obtain ⟨c1, r2, rfl, h1⟩ := Zb h
  obtain ⟨x3, l4, rfl, h2⟩ := Zb h1
  obtain ⟨d5, rfl, h3⟩ := Zt h2
  obtain ⟨w0, rfl, h4⟩ := ZA h3
  obtain ⟨rfl, h5⟩ := Zc h4
  obtain ⟨rfl, h6⟩ := Zc h5
  obtain ⟨rfl, h7⟩ := Zc h6
  obtain rfl := Option.some.inj h7
  exact ⟨rfl, rfl⟩
theorem laws_szStringS.ok (k : Nat) : Zv Try.prog 74 (laws_szStringS.e k) := by
  refine Zu mix tyok (fn := Try.f74) (c := Zl Try.f74) Try.func74 (by kernel_rfl) (h := laws_szStringS.h) (k := k) (E := laws_szStringS.E k) Zz (by kernel_rfl) (by kernel_rfl) rfl (Zq Try.func74 (by kernel_rfl)) ?_
  intro β l K r hr
  simp only [laws_szStringS.e] at hr
  split at hr
  case h_2 => cases hr
  unfold laws_szStringS.f at hr
  split at hr
  case h_2 => cases hr
  rename_i hz
  exact ⟨_, _, hr, _, laws_szStringS.dec, _, (laws_szStringS.f_eq k _ _ laws_szStringS.dec).trans (by rw [laws_szStringS.kt_dec]; exact hz), fun rs os h ho => laws_szStringS.inj _ _ h ho⟩
noncomputable def laws_szQueue.g {β : Type} (k : Nat) (a0_0 : List (List D)) (a0_1 : List (List D)) (a0_2 : List (List D)) (a0_3 : Int) (a1 : Int) (K : Int → Option β) : Option β :=
  laws_szItemS.f k a0_0 a1 (fun y23 => bif (decide ((y23 : Int) < 0)) then (K (-1)) else (laws_szItemS.f k a0_1 y23 (fun y24 => bif (decide ((y24 : Int) < 0)) then (K (-1)) else (laws_szStringS.f k a0_2 y24 (fun y25 => bif (decide ((y25 : Int) < 0)) then (K (-1)) else (K y25))))))
noncomputable def laws_szQueue.t (k : Nat) (a0_0 : List (List D)) (a0_1 : List (List D)) (a0_2 : List (List D)) (a0_3 : Int) (a1 : Int) : Option (Int) := laws_szQueue.g k a0_0 a0_1 a0_2 a0_3 a1 (fun z0 => some z0)
noncomputable def laws_szQueue.f {β : Type} (k : Nat) (a0_0 : List (List D)) (a0_1 : List (List D)) (a0_2 : List (List D)) (a0_3 : Int) (a1 : Int) (K : Int → Option β) : Option β :=
  match laws_szQueue.t k a0_0 a0_1 a0_2 a0_3 a1 with
  | some z0 => K z0
  | none => none
noncomputable def laws_szQueue.as (a0_0 : List (List D)) (a0_1 : List (List D)) (a0_2 : List (List D)) (a0_3 : Int) (a1 : Int) : List A := [.agg [.sl a0_0, .sl a0_1, .sl a0_2, .int .i64 a0_3], .d (.int .i64 a1)]
noncomputable def laws_szQueue.kt {β : Type} (a0_0 : List (List D)) (a0_1 : List (List D)) (a0_2 : List (List D)) (a0_3 : Int) (a1 : Int) (K0 : List (List C) → List Out → Option β) : Int → Option β := fun z0 => K0 [[.d (.int .i64 z0)]] []
noncomputable def laws_szQueue.e (k : Nat) : ZQ := { modes := [(.imm, 0), (.imm, 0)], rts := [3], al := false, run := fun {β} l K => match l with | [.agg [.sl a0_0, .sl a0_1, .sl a0_2, .int .i64 a0_3], .d (.int .i64 a1)] => laws_szQueue.f k a0_0 a0_1 a0_2 a0_3 a1 (laws_szQueue.kt a0_0 a0_1 a0_2 a0_3 a1 K) | _ => none }
noncomputable def laws_szQueue.E (k : Nat) : Env := fun g => bif g == 83 then some (laws_szItemS.e k) else bif g == 74 then some (laws_szStringS.e k) else none
noncomputable def laws_szQueue.h : ZY := ⟨fun n => ⟨[], []⟩, fun _ => none, false, []⟩
theorem laws_szQueue.f_eq {β : Type} (k : Nat) (a0_0 : List (List D)) (a0_1 : List (List D)) (a0_2 : List (List D)) (a0_3 : Int) (a1 : Int) (K0 : List (List C) → List Out → Option β) : ZJ Try.prog (laws_szQueue.E k) laws_szQueue.h k Try.f20 (laws_szQueue.as a0_0 a0_1 a0_2 a0_3 a1) K0 = laws_szQueue.g k a0_0 a0_1 a0_2 a0_3 a1 (laws_szQueue.kt a0_0 a0_1 a0_2 a0_3 a1 K0) := by kernel_rfl
noncomputable def laws_szQueue.dec (rs : List (List C)) (os : List Out) : Option (Int) := Zd rs fun c1 r2 => Zd c1 fun x3 l4 => cD x3 fun d5 => ZM .i64 d5 fun w0 => Ze l4 <| Ze r2 <| Ze os (some w0)
theorem laws_szQueue.kt_dec (a0_0 : List (List D)) (a0_1 : List (List D)) (a0_2 : List (List D)) (a0_3 : Int) (a1 : Int) : laws_szQueue.kt a0_0 a0_1 a0_2 a0_3 a1 laws_szQueue.dec = (fun z0 => some z0) := by kernel_rfl
theorem laws_szQueue.inj (a0_0 : List (List D)) (a0_1 : List (List D)) (a0_2 : List (List D)) (a0_3 : Int) (a1 : Int) {rs : List (List C)} {os : List Out} {z0 : Int} (h : laws_szQueue.dec rs os = some z0) (ho : Zo (laws_szQueue.as a0_0 a0_1 a0_2 a0_3 a1) os) : rs = [[.d (.int .i64 z0)]] ∧ os = [] := by
  unfold laws_szQueue.dec at h
  obtain ⟨c1, r2, rfl, h1⟩ := Zb h
  obtain ⟨x3, l4, rfl, h2⟩ := Zb h1
  obtain ⟨d5, rfl, h3⟩ := Zt h2
  obtain ⟨w0, rfl, h4⟩ := ZA h3
  obtain ⟨rfl, h5⟩ := Zc h4
  obtain ⟨rfl, h6⟩ := Zc h5
  obtain ⟨rfl, h7⟩ := Zc h6
  obtain rfl := Option.some.inj h7
  exact ⟨rfl, rfl⟩
theorem laws_szQueue.ok (k : Nat) : Zv Try.prog 20 (laws_szQueue.e k) := by
  refine Zu mix tyok (fn := Try.f20) (c := Zl Try.f20) Try.func20 (by kernel_rfl) (h := laws_szQueue.h) (k := k) (E := laws_szQueue.E k) (Zk (laws_szItemS.ok k) (Zk (laws_szStringS.ok k) Zz)) (by kernel_rfl) (by kernel_rfl) rfl (Zq Try.func20 (by kernel_rfl)) ?_
  intro β l K r hr
  simp only [laws_szQueue.e] at hr
  split at hr
  case h_2 => cases hr
  unfold laws_szQueue.f at hr
  split at hr
  case h_2 => cases hr
  rename_i hz
  exact ⟨_, _, hr, _, laws_szQueue.dec, _, (laws_szQueue.f_eq k _ _ _ _ _ laws_szQueue.dec).trans (by rw [laws_szQueue.kt_dec]; exact hz), fun rs os h ho => laws_szQueue.inj _ _ _ _ _ h ho⟩
noncomputable def laws_toItem.g {β : Type} (k : Nat) (a0_0 : ByteArray) (a0_1 : Int) (a0_2 : Int) (K : ByteArray → Int → Int → Option β) : Option β :=
  K a0_0 a0_1 a0_2
noncomputable def laws_toItem.t (k : Nat) (a0_0 : ByteArray) (a0_1 : Int) (a0_2 : Int) : Option (ByteArray × Int × Int) := laws_toItem.g k a0_0 a0_1 a0_2 (fun z0 z1 z2 => some (z0, z1, z2))
noncomputable def laws_toItem.f {β : Type} (k : Nat) (a0_0 : ByteArray) (a0_1 : Int) (a0_2 : Int) (K : ByteArray → Int → Int → Option β) : Option β :=
  match laws_toItem.t k a0_0 a0_1 a0_2 with
  | some (z0, z1, z2) => K z0 z1 z2
  | none => none
noncomputable def laws_toItem.as (a0_0 : ByteArray) (a0_1 : Int) (a0_2 : Int) : List A := [.agg [.str a0_0, .int .i64 a0_1, .int .i64 a0_2]]
noncomputable def laws_toItem.kt {β : Type} (a0_0 : ByteArray) (a0_1 : Int) (a0_2 : Int) (K0 : List (List C) → List Out → Option β) : ByteArray → Int → Int → Option β := fun z0 z1 z2 => K0 [[.d (.str z0), .d (.int .i64 z1), .d (.int .i64 z2)]] []
noncomputable def laws_toItem.e (k : Nat) : ZQ := { modes := [(.imm, 0)], rts := [137], al := false, run := fun {β} l K => match l with | [.agg [.str a0_0, .int .i64 a0_1, .int .i64 a0_2]] => laws_toItem.f k a0_0 a0_1 a0_2 (laws_toItem.kt a0_0 a0_1 a0_2 K) | _ => none }
noncomputable def laws_toItem.E (k : Nat) : Env := fun g => none
noncomputable def laws_toItem.h : ZY := ⟨fun n => ⟨[], []⟩, fun _ => none, false, []⟩
theorem laws_toItem.f_eq {β : Type} (k : Nat) (a0_0 : ByteArray) (a0_1 : Int) (a0_2 : Int) (K0 : List (List C) → List Out → Option β) : ZJ Try.prog (laws_toItem.E k) laws_toItem.h k Try.f171 (laws_toItem.as a0_0 a0_1 a0_2) K0 = laws_toItem.g k a0_0 a0_1 a0_2 (laws_toItem.kt a0_0 a0_1 a0_2 K0) := by kernel_rfl
noncomputable def laws_toItem.dec (rs : List (List C)) (os : List Out) : Option (ByteArray × Int × Int) := Zd rs fun c1 r2 => Zd c1 fun x3 l4 => cD x3 fun d5 => Zan d5 fun w0 => Zd l4 fun x6 l7 => cD x6 fun d8 => ZM .i64 d8 fun w1 => Zd l7 fun x9 l10 => cD x9 fun d11 => ZM .i64 d11 fun w2 => Ze l10 <| Ze r2 <| Ze os (some (w0, w1, w2))
theorem laws_toItem.kt_dec (a0_0 : ByteArray) (a0_1 : Int) (a0_2 : Int) : laws_toItem.kt a0_0 a0_1 a0_2 laws_toItem.dec = (fun z0 z1 z2 => some (z0, z1, z2)) := by kernel_rfl
theorem laws_toItem.inj (a0_0 : ByteArray) (a0_1 : Int) (a0_2 : Int) {rs : List (List C)} {os : List Out} {z0 : ByteArray} {z1 : Int} {z2 : Int} (h : laws_toItem.dec rs os = some (z0, z1, z2)) (ho : Zo (laws_toItem.as a0_0 a0_1 a0_2) os) : rs = [[.d (.str z0), .d (.int .i64 z1), .d (.int .i64 z2)]] ∧ os = [] := by
  unfold laws_toItem.dec at h
  obtain ⟨c1, r2, rfl, h1⟩ := Zb h
  obtain ⟨x3, l4, rfl, h2⟩ := Zb h1
  obtain ⟨d5, rfl, h3⟩ := Zt h2
  obtain ⟨w0, rfl, h4⟩ := ZaL h3
  obtain ⟨x6, l7, rfl, h5⟩ := Zb h4
  obtain ⟨d8, rfl, h6⟩ := Zt h5
  obtain ⟨w1, rfl, h7⟩ := ZA h6
  obtain ⟨x9, l10, rfl, h8⟩ := Zb h7
  obtain ⟨d11, rfl, h9⟩ := Zt h8
  obtain ⟨w2, rfl, h10⟩ := ZA h9
  obtain ⟨rfl, h11⟩ := Zc h10
  obtain ⟨rfl, h12⟩ := Zc h11
  obtain ⟨rfl, h13⟩ := Zc h12
  simp only [Option.some.injEq, Prod.mk.injEq] at h13
  obtain ⟨rfl, rfl, rfl⟩ := h13
  exact ⟨rfl, rfl⟩
theorem laws_toItem.ok (k : Nat) : Zv Try.prog 171 (laws_toItem.e k) := by
  refine Zu mix tyok (fn := Try.f171) (c := Zl Try.f171) Try.func171 (by kernel_rfl) (h := laws_toItem.h) (k := k) (E := laws_toItem.E k) Zz (by kernel_rfl) (by kernel_rfl) rfl (Zq Try.func171 (by kernel_rfl)) ?_
  intro β l K r hr
  simp only [laws_toItem.e] at hr
  split at hr
  case h_2 => cases hr
  unfold laws_toItem.f at hr
  split at hr
  case h_2 => cases hr
  rename_i hz
  exact ⟨_, _, hr, _, laws_toItem.dec, _, (laws_toItem.f_eq k _ _ _ laws_toItem.dec).trans (by rw [laws_toItem.kt_dec]; exact hz), fun rs os h ho => laws_toItem.inj _ _ _ h ho⟩
noncomputable def laws_toItemS.l0 {β : Type} (k : Nat) (v0_0 : List (List D)) (K : (List (List C)) → Option β) (L0 : (Int × (List (List C))) → Option β) (v : Int × (List (List C))) : Option β :=
  match v with
  | (v0_1, v0_2) => bif (decide ((v0_1 : Int) < (v0_0.length : Int))) then (ZX v0_0 v0_1 fun c14 => Zd c14 fun d15 r16 => Zan d15 fun x17 => Zd r16 fun d18 r19 => ZM .i64 d18 fun x20 => Zd r19 fun d21 r22 => ZM .i64 d21 fun x23 => Ze r22 (laws_toItem.f k x17 x20 x23 (fun y24 y25 y26 => ZH ((0 : Int) ≤ v0_1 ∧ v0_1 < (v0_2.length : Int)) (ZH (Int.toNat v0_1 < v0_2.length) (L0 (IntKind.wrap .i64 (v0_1 + 1), v0_2.modify (Int.toNat v0_1) fun c => Z1 c 0 [.d (.str y24), .d (.int .i64 y25), .d (.int .i64 y26)])))))) else (K v0_2)
noncomputable def laws_toItemS.g {β : Type} (k : Nat) (a0 : List (List D)) (K : (List (List C)) → Option β) : Option β :=
  ZH ((0 : Int) ≤ (a0.length : Int) ∧ (a0.length : Int) ≤ (Z6 : Int) ∧ (a0.length : Int) ≤ (a0.length : Int) ∧ (a0.length : Int) ≤ (a0.length : Int)) (Z4 (laws_toItemS.l0 k a0 K) k (0, List.replicate (Int.toNat (a0.length : Int)) ([.d (.str (⟨#[]⟩ : ByteArray)), .d (.int .i64 0), .d (.int .i64 0)] : List C)))
noncomputable def laws_toItemS.t (k : Nat) (a0 : List (List D)) : Option ((List (List C))) := laws_toItemS.g k a0 (fun z0 => some z0)
noncomputable def laws_toItemS.f {β : Type} (k : Nat) (a0 : List (List D)) (K : (List (List C)) → Option β) : Option β :=
  match laws_toItemS.t k a0 with
  | some z0 => K z0
  | none => none
noncomputable def laws_toItemS.as (a0 : List (List D)) : List A := [.d (.sl a0)]
noncomputable def laws_toItemS.kt {β : Type} (a0 : List (List D)) (K0 : List (List C) → List Out → Option β) : (List (List C)) → Option β := fun z0 => K0 [[.own z0]] []
noncomputable def laws_toItemS.e (k : Nat) : ZQ := { modes := [(.imm, 0)], rts := [42], al := false, run := fun {β} l K => match l with | [.d (.sl a0)] => laws_toItemS.f k a0 (laws_toItemS.kt a0 K) | _ => none }
noncomputable def laws_toItemS.E (k : Nat) : Env := fun g => bif g == 171 then some (laws_toItem.e k) else none
noncomputable def laws_toItemS.h : ZY := ⟨fun n => bif n == 3 then ⟨[(0, .asis), (3, .asis), (4, .asis)], []⟩ else ⟨[], []⟩, fun _ => none, false, []⟩
noncomputable def laws_toItemS.s0 (v0_0 : List (List D)) (v : Int × (List (List C))) : St :=
  match v with
  | (v0_1, v0_2) => ⟨[.d false (.sl v0_0), .any, .any, .row 0, .d true (.int .i64 v0_1), .any, .any, .any, .any, .any, .any, .any, .any, .any, .any, .any, .any, .any, .any, .any, .any, .any, .any], [.row none true 42 v0_2]⟩
noncomputable def laws_toItemS.b0 {β : Type} (k : Nat) : St → (Ex → St → Option β) → Option β := fun s K => den Try.prog (laws_toItemS.E k) laws_toItemS.h.H laws_toItemS.h.J k (Zad [1, 1, 0, 1, 0, 0] (Zl Try.f86)) s K
noncomputable def laws_toItemS.c0 {β : Type} (k : Nat) (a0 : List (List D)) (K0 : List (List C) → List Out → Option β) : Ex → St → Option β := Zae Try.prog (laws_toItemS.E k) laws_toItemS.h k [1, 1, 0, 1, 0] (Zl Try.f86) (Zak Try.prog Try.f86 laws_toItemS.h (laws_toItemS.as a0) K0)
theorem laws_toItemS.l0_eq {β : Type} (k : Nat) (a0 : List (List D)) (K0 : List (List C) → List Out → Option β) (v0_0 : List (List D)) : ∀ (kk : Nat) (v : Int × (List (List C))), Zx (laws_toItemS.b0 k) (laws_toItemS.h.H 3) kk (laws_toItemS.s0 v0_0 v) (laws_toItemS.c0 k a0 K0) = Z4 (laws_toItemS.l0 k v0_0 (laws_toItemS.kt a0 K0)) kk v :=
  Z9 (laws_toItemS.s0 v0_0) _ (fun L0 v => by obtain ⟨v0_1, v0_2⟩ := v; kernel_rfl)
noncomputable def laws_toItemS.m {β : Type} (k : Nat) (a0 : List (List D)) (K0 : List (List C) → List Out → Option β) (F : ((List (List D)) → (Int × (List (List C))) → Option β)) : Option β :=
  ZH ((0 : Int) ≤ (a0.length : Int) ∧ (a0.length : Int) ≤ (Z6 : Int) ∧ (a0.length : Int) ≤ (a0.length : Int) ∧ (a0.length : Int) ≤ (a0.length : Int)) ((F) a0 (0, List.replicate (Int.toNat (a0.length : Int)) ([.d (.str (⟨#[]⟩ : ByteArray)), .d (.int .i64 0), .d (.int .i64 0)] : List C)))
theorem laws_toItemS.f_eq {β : Type} (k : Nat) (a0 : List (List D)) (K0 : List (List C) → List Out → Option β) : ZJ Try.prog (laws_toItemS.E k) laws_toItemS.h k Try.f86 (laws_toItemS.as a0) K0 = laws_toItemS.g k a0 (laws_toItemS.kt a0 K0) := Eq.trans (b := (laws_toItemS.m k a0 K0) (fun (v0_0 : List (List D)) (v : Int × (List (List C))) => Zx (laws_toItemS.b0 k) (laws_toItemS.h.H 3) k (laws_toItemS.s0 v0_0 v) (laws_toItemS.c0 k a0 K0))) (by kernel_rfl) (Eq.trans (congrArg (laws_toItemS.m k a0 K0) (funext fun v0_0 => funext fun v => laws_toItemS.l0_eq k a0 K0 v0_0 k v)) (by kernel_rfl))
noncomputable def laws_toItemS.dec (rs : List (List C)) (os : List Out) : Option ((List (List C))) := Zd rs fun c1 r2 => Zd c1 fun x3 l4 => ZaU x3 fun w0 => Ze l4 <| Ze r2 <| Ze os (some w0)
theorem laws_toItemS.kt_dec (a0 : List (List D)) : laws_toItemS.kt a0 laws_toItemS.dec = (fun z0 => some z0) := by kernel_rfl
theorem laws_toItemS.inj (a0 : List (List D)) {rs : List (List C)} {os : List Out} {z0 : List (List C)} (h : laws_toItemS.dec rs os = some z0) (ho : Zo (laws_toItemS.as a0) os) : rs = [[.own z0]] ∧ os = [] := by
  unfold laws_toItemS.dec at h
  obtain ⟨c1, r2, rfl, h1⟩ := Zb h
  obtain ⟨x3, l4, rfl, h2⟩ := Zb h1
  obtain ⟨w0, rfl, h3⟩ := ZN h2
  obtain ⟨rfl, h4⟩ := Zc h3
  obtain ⟨rfl, h5⟩ := Zc h4
  obtain ⟨rfl, h6⟩ := Zc h5
  obtain rfl := Option.some.inj h6
  exact ⟨rfl, rfl⟩
theorem laws_toItemS.ok (k : Nat) : Zv Try.prog 86 (laws_toItemS.e k) := by
  refine Zu mix tyok (fn := Try.f86) (c := Zl Try.f86) Try.func86 (by kernel_rfl) (h := laws_toItemS.h) (k := k) (E := laws_toItemS.E k) (Zk (laws_toItem.ok k) Zz) (by kernel_rfl) (by kernel_rfl) rfl (Zq Try.func86 (by kernel_rfl)) ?_
  intro β l K r hr
  simp only [laws_toItemS.e] at hr
  split at hr
  case h_2 => cases hr
  unfold laws_toItemS.f at hr
  split at hr
  case h_2 => cases hr
  rename_i hz
  exact ⟨_, _, hr, _, laws_toItemS.dec, _, (laws_toItemS.f_eq k _ laws_toItemS.dec).trans (by rw [laws_toItemS.kt_dec]; exact hz), fun rs os h ho => laws_toItemS.inj _ h ho⟩
noncomputable def laws_toStringS.l0 {β : Type} (k : Nat) (v0_0 : List (List D)) (K : (List (List C)) → Option β) (L0 : (Int × (List (List C))) → Option β) (v : Int × (List (List C))) : Option β :=
  match v with
  | (v0_1, v0_2) => bif (decide ((v0_1 : Int) < (v0_0.length : Int))) then (ZX v0_0 v0_1 fun c5 => Zd c5 fun d6 r7 => Zan d6 fun x8 => Ze r7 (ZH ((0 : Int) ≤ v0_1 ∧ v0_1 < (v0_2.length : Int)) (ZH (Int.toNat v0_1 < v0_2.length) (L0 (IntKind.wrap .i64 (v0_1 + 1), v0_2.modify (Int.toNat v0_1) fun c => Z1 c 0 [.d (.str x8)]))))) else (K v0_2)
noncomputable def laws_toStringS.g {β : Type} (k : Nat) (a0 : List (List D)) (K : (List (List C)) → Option β) : Option β :=
  ZH ((0 : Int) ≤ (a0.length : Int) ∧ (a0.length : Int) ≤ (Z6 : Int) ∧ (a0.length : Int) ≤ (a0.length : Int) ∧ (a0.length : Int) ≤ (a0.length : Int)) (Z4 (laws_toStringS.l0 k a0 K) k (0, List.replicate (Int.toNat (a0.length : Int)) ([.d (.str (⟨#[]⟩ : ByteArray))] : List C)))
noncomputable def laws_toStringS.t (k : Nat) (a0 : List (List D)) : Option ((List (List C))) := laws_toStringS.g k a0 (fun z0 => some z0)
noncomputable def laws_toStringS.f {β : Type} (k : Nat) (a0 : List (List D)) (K : (List (List C)) → Option β) : Option β :=
  match laws_toStringS.t k a0 with
  | some z0 => K z0
  | none => none
noncomputable def laws_toStringS.as (a0 : List (List D)) : List A := [.d (.sl a0)]
noncomputable def laws_toStringS.kt {β : Type} (a0 : List (List D)) (K0 : List (List C) → List Out → Option β) : (List (List C)) → Option β := fun z0 => K0 [[.own z0]] []
noncomputable def laws_toStringS.e (k : Nat) : ZQ := { modes := [(.imm, 0)], rts := [25], al := false, run := fun {β} l K => match l with | [.d (.sl a0)] => laws_toStringS.f k a0 (laws_toStringS.kt a0 K) | _ => none }
noncomputable def laws_toStringS.E (k : Nat) : Env := fun g => none
noncomputable def laws_toStringS.h : ZY := ⟨fun n => bif n == 3 then ⟨[(0, .asis), (3, .asis), (4, .asis)], []⟩ else ⟨[], []⟩, fun _ => none, false, []⟩
noncomputable def laws_toStringS.s0 (v0_0 : List (List D)) (v : Int × (List (List C))) : St :=
  match v with
  | (v0_1, v0_2) => ⟨[.d false (.sl v0_0), .any, .any, .row 0, .d true (.int .i64 v0_1), .any, .any, .any, .any, .any, .any, .any, .any, .any, .any, .any, .any, .any, .any, .any, .any, .any], [.row none true 25 v0_2]⟩
noncomputable def laws_toStringS.b0 {β : Type} (k : Nat) : St → (Ex → St → Option β) → Option β := fun s K => den Try.prog (laws_toStringS.E k) laws_toStringS.h.H laws_toStringS.h.J k (Zad [1, 1, 0, 1, 0, 0] (Zl Try.f78)) s K
noncomputable def laws_toStringS.c0 {β : Type} (k : Nat) (a0 : List (List D)) (K0 : List (List C) → List Out → Option β) : Ex → St → Option β := Zae Try.prog (laws_toStringS.E k) laws_toStringS.h k [1, 1, 0, 1, 0] (Zl Try.f78) (Zak Try.prog Try.f78 laws_toStringS.h (laws_toStringS.as a0) K0)
theorem laws_toStringS.l0_eq {β : Type} (k : Nat) (a0 : List (List D)) (K0 : List (List C) → List Out → Option β) (v0_0 : List (List D)) : ∀ (kk : Nat) (v : Int × (List (List C))), Zx (laws_toStringS.b0 k) (laws_toStringS.h.H 3) kk (laws_toStringS.s0 v0_0 v) (laws_toStringS.c0 k a0 K0) = Z4 (laws_toStringS.l0 k v0_0 (laws_toStringS.kt a0 K0)) kk v :=
  Z9 (laws_toStringS.s0 v0_0) _ (fun L0 v => by obtain ⟨v0_1, v0_2⟩ := v; kernel_rfl)
noncomputable def laws_toStringS.m {β : Type} (k : Nat) (a0 : List (List D)) (K0 : List (List C) → List Out → Option β) (F : ((List (List D)) → (Int × (List (List C))) → Option β)) : Option β :=
  ZH ((0 : Int) ≤ (a0.length : Int) ∧ (a0.length : Int) ≤ (Z6 : Int) ∧ (a0.length : Int) ≤ (a0.length : Int) ∧ (a0.length : Int) ≤ (a0.length : Int)) ((F) a0 (0, List.replicate (Int.toNat (a0.length : Int)) ([.d (.str (⟨#[]⟩ : ByteArray))] : List C)))
theorem laws_toStringS.f_eq {β : Type} (k : Nat) (a0 : List (List D)) (K0 : List (List C) → List Out → Option β) : ZJ Try.prog (laws_toStringS.E k) laws_toStringS.h k Try.f78 (laws_toStringS.as a0) K0 = laws_toStringS.g k a0 (laws_toStringS.kt a0 K0) := Eq.trans (b := (laws_toStringS.m k a0 K0) (fun (v0_0 : List (List D)) (v : Int × (List (List C))) => Zx (laws_toStringS.b0 k) (laws_toStringS.h.H 3) k (laws_toStringS.s0 v0_0 v) (laws_toStringS.c0 k a0 K0))) (by kernel_rfl) (Eq.trans (congrArg (laws_toStringS.m k a0 K0) (funext fun v0_0 => funext fun v => laws_toStringS.l0_eq k a0 K0 v0_0 k v)) (by kernel_rfl))
noncomputable def laws_toStringS.dec (rs : List (List C)) (os : List Out) : Option ((List (List C))) := Zd rs fun c1 r2 => Zd c1 fun x3 l4 => ZaU x3 fun w0 => Ze l4 <| Ze r2 <| Ze os (some w0)
theorem laws_toStringS.kt_dec (a0 : List (List D)) : laws_toStringS.kt a0 laws_toStringS.dec = (fun z0 => some z0) := by kernel_rfl
theorem laws_toStringS.inj (a0 : List (List D)) {rs : List (List C)} {os : List Out} {z0 : List (List C)} (h : laws_toStringS.dec rs os = some z0) (ho : Zo (laws_toStringS.as a0) os) : rs = [[.own z0]] ∧ os = [] := by
  unfold laws_toStringS.dec at h
  obtain ⟨c1, r2, rfl, h1⟩ := Zb h
  obtain ⟨x3, l4, rfl, h2⟩ := Zb h1
  obtain ⟨w0, rfl, h3⟩ := ZN h2
  obtain ⟨rfl, h4⟩ := Zc h3
  obtain ⟨rfl, h5⟩ := Zc h4
  obtain ⟨rfl, h6⟩ := Zc h5
  obtain rfl := Option.some.inj h6
  exact ⟨rfl, rfl⟩
theorem laws_toStringS.ok (k : Nat) : Zv Try.prog 78 (laws_toStringS.e k) := by
  refine Zu mix tyok (fn := Try.f78) (c := Zl Try.f78) Try.func78 (by kernel_rfl) (h := laws_toStringS.h) (k := k) (E := laws_toStringS.E k) Zz (by kernel_rfl) (by kernel_rfl) rfl (Zq Try.func78 (by kernel_rfl)) ?_
  intro β l K r hr
  simp only [laws_toStringS.e] at hr
  split at hr
  case h_2 => cases hr
  unfold laws_toStringS.f at hr
  split at hr
  case h_2 => cases hr
  rename_i hz
  exact ⟨_, _, hr, _, laws_toStringS.dec, _, (laws_toStringS.f_eq k _ laws_toStringS.dec).trans (by rw [laws_toStringS.kt_dec]; exact hz), fun rs os h ho => laws_toStringS.inj _ h ho⟩
noncomputable def laws_toQueue.g {β : Type} (k : Nat) (a0_0 : List (List D)) (a0_1 : List (List D)) (a0_2 : List (List D)) (a0_3 : Int) (K : (List (List C)) → (List (List C)) → (List (List C)) → Int → Option β) : Option β :=
  laws_toItemS.f k a0_0 (fun y27 => laws_toItemS.f k a0_1 (fun y28 => laws_toStringS.f k a0_2 (fun y29 => K y27 y28 y29 a0_3)))
noncomputable def laws_toQueue.t (k : Nat) (a0_0 : List (List D)) (a0_1 : List (List D)) (a0_2 : List (List D)) (a0_3 : Int) : Option ((List (List C)) × (List (List C)) × (List (List C)) × Int) := laws_toQueue.g k a0_0 a0_1 a0_2 a0_3 (fun z0 z1 z2 z3 => some (z0, z1, z2, z3))
noncomputable def laws_toQueue.f {β : Type} (k : Nat) (a0_0 : List (List D)) (a0_1 : List (List D)) (a0_2 : List (List D)) (a0_3 : Int) (K : (List (List C)) → (List (List C)) → (List (List C)) → Int → Option β) : Option β :=
  match laws_toQueue.t k a0_0 a0_1 a0_2 a0_3 with
  | some (z0, z1, z2, z3) => K z0 z1 z2 z3
  | none => none
noncomputable def laws_toQueue.as (a0_0 : List (List D)) (a0_1 : List (List D)) (a0_2 : List (List D)) (a0_3 : Int) : List A := [.agg [.sl a0_0, .sl a0_1, .sl a0_2, .int .i64 a0_3]]
noncomputable def laws_toQueue.kt {β : Type} (a0_0 : List (List D)) (a0_1 : List (List D)) (a0_2 : List (List D)) (a0_3 : Int) (K0 : List (List C) → List Out → Option β) : (List (List C)) → (List (List C)) → (List (List C)) → Int → Option β := fun z0 z1 z2 z3 => K0 [[.own z0, .own z1, .own z2, .d (.int .i64 z3)]] []
noncomputable def laws_toQueue.e (k : Nat) : ZQ := { modes := [(.imm, 0)], rts := [44], al := false, run := fun {β} l K => match l with | [.agg [.sl a0_0, .sl a0_1, .sl a0_2, .int .i64 a0_3]] => laws_toQueue.f k a0_0 a0_1 a0_2 a0_3 (laws_toQueue.kt a0_0 a0_1 a0_2 a0_3 K) | _ => none }
noncomputable def laws_toQueue.E (k : Nat) : Env := fun g => bif g == 86 then some (laws_toItemS.e k) else bif g == 78 then some (laws_toStringS.e k) else none
noncomputable def laws_toQueue.h : ZY := ⟨fun n => ⟨[], []⟩, fun _ => none, false, []⟩
theorem laws_toQueue.f_eq {β : Type} (k : Nat) (a0_0 : List (List D)) (a0_1 : List (List D)) (a0_2 : List (List D)) (a0_3 : Int) (K0 : List (List C) → List Out → Option β) : ZJ Try.prog (laws_toQueue.E k) laws_toQueue.h k Try.f22 (laws_toQueue.as a0_0 a0_1 a0_2 a0_3) K0 = laws_toQueue.g k a0_0 a0_1 a0_2 a0_3 (laws_toQueue.kt a0_0 a0_1 a0_2 a0_3 K0) := by kernel_rfl
noncomputable def laws_toQueue.dec (rs : List (List C)) (os : List Out) : Option ((List (List C)) × (List (List C)) × (List (List C)) × Int) := Zd rs fun c1 r2 => Zd c1 fun x3 l4 => ZaU x3 fun w0 => Zd l4 fun x5 l6 => ZaU x5 fun w1 => Zd l6 fun x7 l8 => ZaU x7 fun w2 => Zd l8 fun x9 l10 => cD x9 fun d11 => ZM .i64 d11 fun w3 => Ze l10 <| Ze r2 <| Ze os (some (w0, w1, w2, w3))
theorem laws_toQueue.kt_dec (a0_0 : List (List D)) (a0_1 : List (List D)) (a0_2 : List (List D)) (a0_3 : Int) : laws_toQueue.kt a0_0 a0_1 a0_2 a0_3 laws_toQueue.dec = (fun z0 z1 z2 z3 => some (z0, z1, z2, z3)) := by kernel_rfl
theorem laws_toQueue.inj (a0_0 : List (List D)) (a0_1 : List (List D)) (a0_2 : List (List D)) (a0_3 : Int) {rs : List (List C)} {os : List Out} {z0 : List (List C)} {z1 : List (List C)} {z2 : List (List C)} {z3 : Int} (h : laws_toQueue.dec rs os = some (z0, z1, z2, z3)) (ho : Zo (laws_toQueue.as a0_0 a0_1 a0_2 a0_3) os) : rs = [[.own z0, .own z1, .own z2, .d (.int .i64 z3)]] ∧ os = [] := by
  unfold laws_toQueue.dec at h
  obtain ⟨c1, r2, rfl, h1⟩ := Zb h
  obtain ⟨x3, l4, rfl, h2⟩ := Zb h1
  obtain ⟨w0, rfl, h3⟩ := ZN h2
  obtain ⟨x5, l6, rfl, h4⟩ := Zb h3
  obtain ⟨w1, rfl, h5⟩ := ZN h4
  obtain ⟨x7, l8, rfl, h6⟩ := Zb h5
  obtain ⟨w2, rfl, h7⟩ := ZN h6
  obtain ⟨x9, l10, rfl, h8⟩ := Zb h7
  obtain ⟨d11, rfl, h9⟩ := Zt h8
  obtain ⟨w3, rfl, h10⟩ := ZA h9
  obtain ⟨rfl, h11⟩ := Zc h10
  obtain ⟨rfl, h12⟩ := Zc h11
  obtain ⟨rfl, h13⟩ := Zc h12
  simp only [Option.some.injEq, Prod.mk.injEq] at h13
  obtain ⟨rfl, rfl, rfl, rfl⟩ := h13
  exact ⟨rfl, rfl⟩
theorem laws_toQueue.ok (k : Nat) : Zv Try.prog 22 (laws_toQueue.e k) := by
  refine Zu mix tyok (fn := Try.f22) (c := Zl Try.f22) Try.func22 (by kernel_rfl) (h := laws_toQueue.h) (k := k) (E := laws_toQueue.E k) (Zk (laws_toItemS.ok k) (Zk (laws_toStringS.ok k) Zz)) (by kernel_rfl) (by kernel_rfl) rfl (Zq Try.func22 (by kernel_rfl)) ?_
  intro β l K r hr
  simp only [laws_toQueue.e] at hr
  split at hr
  case h_2 => cases hr
  unfold laws_toQueue.f at hr
  split at hr
  case h_2 => cases hr
  rename_i hz
  exact ⟨_, _, hr, _, laws_toQueue.dec, _, (laws_toQueue.f_eq k _ _ _ _ laws_toQueue.dec).trans (by rw [laws_toQueue.kt_dec]; exact hz), fun rs os h ho => laws_toQueue.inj _ _ _ _ h ho⟩
noncomputable def spec_l9Copy.g {β : Type} (k : Nat) (a0_0 : List (List D)) (a0_1 : List (List D)) (a0_2 : List (List D)) (a0_3 : Int) (K : (List (List C)) → (List (List C)) → (List (List C)) → Int → Option β) : Option β :=
  ZH (Zcm 3 a0_0) (ZH (([] : List (List C)).length + (a0_0.map (·.map C.d)).length ≤ Z6) (ZH (Zcm 3 a0_1) (ZH (([] : List (List C)).length + (a0_1.map (·.map C.d)).length ≤ Z6) (ZH (Zcm 1 a0_2) (ZH (([] : List (List C)).length + (a0_2.map (·.map C.d)).length ≤ Z6) (K (([] : List (List C)) ++ (a0_0.map (·.map C.d))) (([] : List (List C)) ++ (a0_1.map (·.map C.d))) (([] : List (List C)) ++ (a0_2.map (·.map C.d))) a0_3))))))
noncomputable def spec_l9Copy.t (k : Nat) (a0_0 : List (List D)) (a0_1 : List (List D)) (a0_2 : List (List D)) (a0_3 : Int) : Option ((List (List C)) × (List (List C)) × (List (List C)) × Int) := spec_l9Copy.g k a0_0 a0_1 a0_2 a0_3 (fun z0 z1 z2 z3 => some (z0, z1, z2, z3))
noncomputable def spec_l9Copy.f {β : Type} (k : Nat) (a0_0 : List (List D)) (a0_1 : List (List D)) (a0_2 : List (List D)) (a0_3 : Int) (K : (List (List C)) → (List (List C)) → (List (List C)) → Int → Option β) : Option β :=
  match spec_l9Copy.t k a0_0 a0_1 a0_2 a0_3 with
  | some (z0, z1, z2, z3) => K z0 z1 z2 z3
  | none => none
noncomputable def spec_l9Copy.as (a0_0 : List (List D)) (a0_1 : List (List D)) (a0_2 : List (List D)) (a0_3 : Int) : List A := [.agg [.sl a0_0, .sl a0_1, .sl a0_2, .int .i64 a0_3]]
noncomputable def spec_l9Copy.kt {β : Type} (a0_0 : List (List D)) (a0_1 : List (List D)) (a0_2 : List (List D)) (a0_3 : Int) (K0 : List (List C) → List Out → Option β) : (List (List C)) → (List (List C)) → (List (List C)) → Int → Option β := fun z0 z1 z2 z3 => K0 [[.own z0, .own z1, .own z2, .d (.int .i64 z3)]] []
noncomputable def spec_l9Copy.e (k : Nat) : ZQ := { modes := [(.imm, 0)], rts := [44], al := false, run := fun {β} l K => match l with | [.agg [.sl a0_0, .sl a0_1, .sl a0_2, .int .i64 a0_3]] => spec_l9Copy.f k a0_0 a0_1 a0_2 a0_3 (spec_l9Copy.kt a0_0 a0_1 a0_2 a0_3 K) | _ => none }
noncomputable def spec_l9Copy.E (k : Nat) : Env := fun g => none
noncomputable def spec_l9Copy.h : ZY := ⟨fun n => ⟨[], []⟩, fun _ => none, false, []⟩
theorem spec_l9Copy.f_eq {β : Type} (k : Nat) (a0_0 : List (List D)) (a0_1 : List (List D)) (a0_2 : List (List D)) (a0_3 : Int) (K0 : List (List C) → List Out → Option β) : ZJ Try.prog (spec_l9Copy.E k) spec_l9Copy.h k Try.f84 (spec_l9Copy.as a0_0 a0_1 a0_2 a0_3) K0 = spec_l9Copy.g k a0_0 a0_1 a0_2 a0_3 (spec_l9Copy.kt a0_0 a0_1 a0_2 a0_3 K0) := by kernel_rfl
noncomputable def spec_l9Copy.dec (rs : List (List C)) (os : List Out) : Option ((List (List C)) × (List (List C)) × (List (List C)) × Int) := Zd rs fun c1 r2 => Zd c1 fun x3 l4 => ZaU x3 fun w0 => Zd l4 fun x5 l6 => ZaU x5 fun w1 => Zd l6 fun x7 l8 => ZaU x7 fun w2 => Zd l8 fun x9 l10 => cD x9 fun d11 => ZM .i64 d11 fun w3 => Ze l10 <| Ze r2 <| Ze os (some (w0, w1, w2, w3))
theorem spec_l9Copy.kt_dec (a0_0 : List (List D)) (a0_1 : List (List D)) (a0_2 : List (List D)) (a0_3 : Int) : spec_l9Copy.kt a0_0 a0_1 a0_2 a0_3 spec_l9Copy.dec = (fun z0 z1 z2 z3 => some (z0, z1, z2, z3)) := by kernel_rfl
theorem spec_l9Copy.inj (a0_0 : List (List D)) (a0_1 : List (List D)) (a0_2 : List (List D)) (a0_3 : Int) {rs : List (List C)} {os : List Out} {z0 : List (List C)} {z1 : List (List C)} {z2 : List (List C)} {z3 : Int} (h : spec_l9Copy.dec rs os = some (z0, z1, z2, z3)) (ho : Zo (spec_l9Copy.as a0_0 a0_1 a0_2 a0_3) os) : rs = [[.own z0, .own z1, .own z2, .d (.int .i64 z3)]] ∧ os = [] := by
  unfold spec_l9Copy.dec at h
  obtain ⟨c1, r2, rfl, h1⟩ := Zb h
  obtain ⟨x3, l4, rfl, h2⟩ := Zb h1
  obtain ⟨w0, rfl, h3⟩ := ZN h2
  obtain ⟨x5, l6, rfl, h4⟩ := Zb h3
  obtain ⟨w1, rfl, h5⟩ := ZN h4
  obtain ⟨x7, l8, rfl, h6⟩ := Zb h5
  obtain ⟨w2, rfl, h7⟩ := ZN h6
  obtain ⟨x9, l10, rfl, h8⟩ := Zb h7
  obtain ⟨d11, rfl, h9⟩ := Zt h8
  obtain ⟨w3, rfl, h10⟩ := ZA h9
  obtain ⟨rfl, h11⟩ := Zc h10
  obtain ⟨rfl, h12⟩ := Zc h11
  obtain ⟨rfl, h13⟩ := Zc h12
  simp only [Option.some.injEq, Prod.mk.injEq] at h13
  obtain ⟨rfl, rfl, rfl, rfl⟩ := h13
  exact ⟨rfl, rfl⟩
theorem spec_l9Copy.ok (k : Nat) : Zv Try.prog 84 (spec_l9Copy.e k) := by
  refine Zu mix tyok (fn := Try.f84) (c := Zl Try.f84) Try.func84 (by kernel_rfl) (h := spec_l9Copy.h) (k := k) (E := spec_l9Copy.E k) Zz (by kernel_rfl) (by kernel_rfl) rfl (Zq Try.func84 (by kernel_rfl)) ?_
  intro β l K r hr
  simp only [spec_l9Copy.e] at hr
  split at hr
  case h_2 => cases hr
  unfold spec_l9Copy.f at hr
  split at hr
  case h_2 => cases hr
  rename_i hz
  exact ⟨_, _, hr, _, spec_l9Copy.dec, _, (spec_l9Copy.f_eq k _ _ _ _ spec_l9Copy.dec).trans (by rw [spec_l9Copy.kt_dec]; exact hz), fun rs os h ho => spec_l9Copy.inj _ _ _ _ h ho⟩
noncomputable def spec_l9Find.l0 {β : Type} (k : Nat) (v0_0 : List (List D)) (v0_1 : ByteArray) (K : Int → Option β) (L0 : Int → Option β) (v : Int) : Option β :=
  match v with
  | v0_2 => bif (decide ((v0_2 : Int) < (v0_0.length : Int))) then (ZX v0_0 v0_2 fun c11 => Zd c11 fun d12 r13 => Zan d12 fun x14 => Zd r13 fun d15 r16 => ZM .i64 d15 fun x17 => Zd r16 fun d18 r19 => ZM .i64 d18 fun x20 => Ze r19 (bif (strEq x14 v0_1) then (K v0_2) else (L0 (IntKind.wrap .i64 (v0_2 + 1))))) else (K (-1))
noncomputable def spec_l9Find.g {β : Type} (k : Nat) (a0 : List (List D)) (a1 : ByteArray) (K : Int → Option β) : Option β :=
  Z4 (spec_l9Find.l0 k a0 a1 K) k (0)
noncomputable def spec_l9Find.t (k : Nat) (a0 : List (List D)) (a1 : ByteArray) : Option (Int) := spec_l9Find.g k a0 a1 (fun z0 => some z0)
noncomputable def spec_l9Find.f {β : Type} (k : Nat) (a0 : List (List D)) (a1 : ByteArray) (K : Int → Option β) : Option β :=
  match spec_l9Find.t k a0 a1 with
  | some z0 => K z0
  | none => none
noncomputable def spec_l9Find.as (a0 : List (List D)) (a1 : ByteArray) : List A := [.d (.sl a0), .d (.str a1)]
noncomputable def spec_l9Find.kt {β : Type} (a0 : List (List D)) (a1 : ByteArray) (K0 : List (List C) → List Out → Option β) : Int → Option β := fun z0 => K0 [[.d (.int .i64 z0)]] []
noncomputable def spec_l9Find.e (k : Nat) : ZQ := { modes := [(.imm, 0), (.imm, 0)], rts := [3], al := false, run := fun {β} l K => match l with | [.d (.sl a0), .d (.str a1)] => spec_l9Find.f k a0 a1 (spec_l9Find.kt a0 a1 K) | _ => none }
noncomputable def spec_l9Find.E (k : Nat) : Env := fun g => none
noncomputable def spec_l9Find.h : ZY := ⟨fun n => bif n == 2 then ⟨[(0, .asis), (1, .asis), (5, .asis)], []⟩ else ⟨[], []⟩, fun _ => none, false, []⟩
noncomputable def spec_l9Find.s0 (v0_0 : List (List D)) (v0_1 : ByteArray) (v : Int) : St :=
  match v with
  | v0_2 => ⟨[.d false (.sl v0_0), .d false (.str v0_1), .any, .any, .any, .d true (.int .i64 v0_2), .any, .any, .any, .any, .any, .any, .any, .any, .any, .any, .any, .any, .any, .any], []⟩
noncomputable def spec_l9Find.b0 {β : Type} (k : Nat) : St → (Ex → St → Option β) → Option β := fun s K => den Try.prog (spec_l9Find.E k) spec_l9Find.h.H spec_l9Find.h.J k (Zad [1, 0, 1, 0, 0] (Zl Try.f95)) s K
noncomputable def spec_l9Find.c0 {β : Type} (k : Nat) (a0 : List (List D)) (a1 : ByteArray) (K0 : List (List C) → List Out → Option β) : Ex → St → Option β := Zae Try.prog (spec_l9Find.E k) spec_l9Find.h k [1, 0, 1, 0] (Zl Try.f95) (Zak Try.prog Try.f95 spec_l9Find.h (spec_l9Find.as a0 a1) K0)
theorem spec_l9Find.l0_eq {β : Type} (k : Nat) (a0 : List (List D)) (a1 : ByteArray) (K0 : List (List C) → List Out → Option β) (v0_0 : List (List D)) (v0_1 : ByteArray) : ∀ (kk : Nat) (v : Int), Zx (spec_l9Find.b0 k) (spec_l9Find.h.H 2) kk (spec_l9Find.s0 v0_0 v0_1 v) (spec_l9Find.c0 k a0 a1 K0) = Z4 (spec_l9Find.l0 k v0_0 v0_1 (spec_l9Find.kt a0 a1 K0)) kk v :=
  Z9 (spec_l9Find.s0 v0_0 v0_1) _ (fun L0 v => by kernel_rfl)
noncomputable def spec_l9Find.m {β : Type} (k : Nat) (a0 : List (List D)) (a1 : ByteArray) (K0 : List (List C) → List Out → Option β) (F : ((List (List D)) → ByteArray → Int → Option β)) : Option β :=
  (F) a0 a1 (0)
theorem spec_l9Find.f_eq {β : Type} (k : Nat) (a0 : List (List D)) (a1 : ByteArray) (K0 : List (List C) → List Out → Option β) : ZJ Try.prog (spec_l9Find.E k) spec_l9Find.h k Try.f95 (spec_l9Find.as a0 a1) K0 = spec_l9Find.g k a0 a1 (spec_l9Find.kt a0 a1 K0) := Eq.trans (b := (spec_l9Find.m k a0 a1 K0) (fun (v0_0 : List (List D)) (v0_1 : ByteArray) (v : Int) => Zx (spec_l9Find.b0 k) (spec_l9Find.h.H 2) k (spec_l9Find.s0 v0_0 v0_1 v) (spec_l9Find.c0 k a0 a1 K0))) (by kernel_rfl) (Eq.trans (congrArg (spec_l9Find.m k a0 a1 K0) (funext fun v0_0 => funext fun v0_1 => funext fun v => spec_l9Find.l0_eq k a0 a1 K0 v0_0 v0_1 k v)) (by kernel_rfl))
noncomputable def spec_l9Find.dec (rs : List (List C)) (os : List Out) : Option (Int) := Zd rs fun c1 r2 => Zd c1 fun x3 l4 => cD x3 fun d5 => ZM .i64 d5 fun w0 => Ze l4 <| Ze r2 <| Ze os (some w0)
theorem spec_l9Find.kt_dec (a0 : List (List D)) (a1 : ByteArray) : spec_l9Find.kt a0 a1 spec_l9Find.dec = (fun z0 => some z0) := by kernel_rfl
theorem spec_l9Find.inj (a0 : List (List D)) (a1 : ByteArray) {rs : List (List C)} {os : List Out} {z0 : Int} (h : spec_l9Find.dec rs os = some z0) (ho : Zo (spec_l9Find.as a0 a1) os) : rs = [[.d (.int .i64 z0)]] ∧ os = [] := by
  unfold spec_l9Find.dec at h
  obtain ⟨c1, r2, rfl, h1⟩ := Zb h
  obtain ⟨x3, l4, rfl, h2⟩ := Zb h1
  obtain ⟨d5, rfl, h3⟩ := Zt h2
  obtain ⟨w0, rfl, h4⟩ := ZA h3
  obtain ⟨rfl, h5⟩ := Zc h4
  obtain ⟨rfl, h6⟩ := Zc h5
  obtain ⟨rfl, h7⟩ := Zc h6
  obtain rfl := Option.some.inj h7
  exact ⟨rfl, rfl⟩
theorem spec_l9Find.ok (k : Nat) : Zv Try.prog 95 (spec_l9Find.e k) := by
  refine Zu mix tyok (fn := Try.f95) (c := Zl Try.f95) Try.func95 (by kernel_rfl) (h := spec_l9Find.h) (k := k) (E := spec_l9Find.E k) Zz (by kernel_rfl) (by kernel_rfl) rfl (Zq Try.func95 (by kernel_rfl)) ?_
  intro β l K r hr
  simp only [spec_l9Find.e] at hr
  split at hr
  case h_2 => cases hr
  unfold spec_l9Find.f at hr
  split at hr
  case h_2 => cases hr
  rename_i hz
  exact ⟨_, _, hr, _, spec_l9Find.dec, _, (spec_l9Find.f_eq k _ _ spec_l9Find.dec).trans (by rw [spec_l9Find.kt_dec]; exact hz), fun rs os h ho => spec_l9Find.inj _ _ h ho⟩
noncomputable def spec_l1In.g {β : Type} (k : Nat) (a0 : Int) (a1 : Int) (a2 : Int) (K : Bool → Option β) : Option β :=
  bif (decide ((a0 : Int) ≥ a1)) then (K (decide ((a0 : Int) ≤ a2))) else (K false)
noncomputable def spec_l1In.t (k : Nat) (a0 : Int) (a1 : Int) (a2 : Int) : Option (Bool) := spec_l1In.g k a0 a1 a2 (fun z0 => some z0)
noncomputable def spec_l1In.f {β : Type} (k : Nat) (a0 : Int) (a1 : Int) (a2 : Int) (K : Bool → Option β) : Option β :=
  match spec_l1In.t k a0 a1 a2 with
  | some z0 => K z0
  | none => none
noncomputable def spec_l1In.as (a0 : Int) (a1 : Int) (a2 : Int) : List A := [.d (.int .i64 a0), .d (.int .i64 a1), .d (.int .i64 a2)]
noncomputable def spec_l1In.kt {β : Type} (a0 : Int) (a1 : Int) (a2 : Int) (K0 : List (List C) → List Out → Option β) : Bool → Option β := fun z0 => K0 [[.d (.bool z0)]] []
noncomputable def spec_l1In.e (k : Nat) : ZQ := { modes := [(.imm, 0), (.imm, 0), (.imm, 0)], rts := [4], al := false, run := fun {β} l K => match l with | [.d (.int .i64 a0), .d (.int .i64 a1), .d (.int .i64 a2)] => spec_l1In.f k a0 a1 a2 (spec_l1In.kt a0 a1 a2 K) | _ => none }
noncomputable def spec_l1In.E (k : Nat) : Env := fun g => none
noncomputable def spec_l1In.h : ZY := ⟨fun n => ⟨[], []⟩, fun _ => none, false, []⟩
theorem spec_l1In.f_eq {β : Type} (k : Nat) (a0 : Int) (a1 : Int) (a2 : Int) (K0 : List (List C) → List Out → Option β) : ZJ Try.prog (spec_l1In.E k) spec_l1In.h k Try.f123 (spec_l1In.as a0 a1 a2) K0 = spec_l1In.g k a0 a1 a2 (spec_l1In.kt a0 a1 a2 K0) := by kernel_rfl
noncomputable def spec_l1In.dec (rs : List (List C)) (os : List Out) : Option (Bool) := Zd rs fun c1 r2 => Zd c1 fun x3 l4 => cD x3 fun d5 => ZaF d5 fun w0 => Ze l4 <| Ze r2 <| Ze os (some w0)
theorem spec_l1In.kt_dec (a0 : Int) (a1 : Int) (a2 : Int) : spec_l1In.kt a0 a1 a2 spec_l1In.dec = (fun z0 => some z0) := by kernel_rfl
theorem spec_l1In.inj (a0 : Int) (a1 : Int) (a2 : Int) {rs : List (List C)} {os : List Out} {z0 : Bool} (h : spec_l1In.dec rs os = some z0) (ho : Zo (spec_l1In.as a0 a1 a2) os) : rs = [[.d (.bool z0)]] ∧ os = [] := by
  unfold spec_l1In.dec at h
  obtain ⟨c1, r2, rfl, h1⟩ := Zb h
  obtain ⟨x3, l4, rfl, h2⟩ := Zb h1
  obtain ⟨d5, rfl, h3⟩ := Zt h2
  obtain ⟨w0, rfl, h4⟩ := Z0 h3
  obtain ⟨rfl, h5⟩ := Zc h4
  obtain ⟨rfl, h6⟩ := Zc h5
  obtain ⟨rfl, h7⟩ := Zc h6
  obtain rfl := Option.some.inj h7
  exact ⟨rfl, rfl⟩
theorem spec_l1In.ok (k : Nat) : Zv Try.prog 123 (spec_l1In.e k) := by
  refine Zu mix tyok (fn := Try.f123) (c := Zl Try.f123) Try.func123 (by kernel_rfl) (h := spec_l1In.h) (k := k) (E := spec_l1In.E k) Zz (by kernel_rfl) (by kernel_rfl) rfl (Zq Try.func123 (by kernel_rfl)) ?_
  intro β l K r hr
  simp only [spec_l1In.e] at hr
  split at hr
  case h_2 => cases hr
  unfold spec_l1In.f at hr
  split at hr
  case h_2 => cases hr
  rename_i hz
  exact ⟨_, _, hr, _, spec_l1In.dec, _, (spec_l1In.f_eq k _ _ _ spec_l1In.dec).trans (by rw [spec_l1In.kt_dec]; exact hz), fun rs os h ho => spec_l1In.inj _ _ _ h ho⟩
noncomputable def spec_NameOk.l0 {β : Type} (k : Nat) (v0_0 : ByteArray) (K : Bool → Option β) (L0 : Int → Option β) (v : Int) : Option β :=
  match v with
  | v0_1 => bif (decide ((v0_1 : Int) < (v0_0.size : Int))) then (atStr v0_0 v0_1 fun b9 => spec_l1In.f k (IntKind.wrap .i64 b9) 97 122 (fun y10 => bif (!y10) then (atStr v0_0 v0_1 fun b11 => spec_l1In.f k (IntKind.wrap .i64 b11) 48 57 (fun y12 => bif (!y12) then (atStr v0_0 v0_1 fun b13 => bif ((b13 : Int) != 45) then (K false) else (L0 (IntKind.wrap .i64 (v0_1 + 1)))) else (L0 (IntKind.wrap .i64 (v0_1 + 1))))) else (L0 (IntKind.wrap .i64 (v0_1 + 1))))) else (spec_l1In.f k (v0_0.size : Int) 1 20 (fun y14 => bif y14 then (atStr v0_0 0 fun b15 => bif ((b15 : Int) != 45) then (atStr v0_0 (IntKind.wrap .i64 ((v0_0.size : Int) - 1)) fun b16 => K ((b16 : Int) != 45)) else (K false)) else (K false)))
noncomputable def spec_NameOk.g {β : Type} (k : Nat) (a0 : ByteArray) (K : Bool → Option β) : Option β :=
  Z4 (spec_NameOk.l0 k a0 K) k (0)
noncomputable def spec_NameOk.t (k : Nat) (a0 : ByteArray) : Option (Bool) := spec_NameOk.g k a0 (fun z0 => some z0)
noncomputable def spec_NameOk.f {β : Type} (k : Nat) (a0 : ByteArray) (K : Bool → Option β) : Option β :=
  match spec_NameOk.t k a0 with
  | some z0 => K z0
  | none => none
noncomputable def spec_NameOk.as (a0 : ByteArray) : List A := [.d (.str a0)]
noncomputable def spec_NameOk.kt {β : Type} (a0 : ByteArray) (K0 : List (List C) → List Out → Option β) : Bool → Option β := fun z0 => K0 [[.d (.bool z0)]] []
noncomputable def spec_NameOk.e (k : Nat) : ZQ := { modes := [(.imm, 0)], rts := [4], al := false, run := fun {β} l K => match l with | [.d (.str a0)] => spec_NameOk.f k a0 (spec_NameOk.kt a0 K) | _ => none }
noncomputable def spec_NameOk.E (k : Nat) : Env := fun g => bif g == 123 then some (spec_l1In.e k) else none
noncomputable def spec_NameOk.h : ZY := ⟨fun n => bif n == 2 then ⟨[(0, .asis), (3, .asis)], []⟩ else ⟨[], []⟩, fun _ => none, false, []⟩
noncomputable def spec_NameOk.s0 (v0_0 : ByteArray) (v : Int) : St :=
  match v with
  | v0_1 => ⟨[.d false (.str v0_0), .any, .any, .d true (.int .i64 v0_1), .any, .any, .any, .any, .any, .any, .any, .any, .any, .any, .any, .any, .any, .any, .any, .any, .any, .any, .any, .any, .any, .any, .any, .any, .any, .any, .any, .any, .any, .any, .any, .any, .any, .any, .any, .any, .any, .any, .any, .any, .any, .any], []⟩
noncomputable def spec_NameOk.b0 {β : Type} (k : Nat) : St → (Ex → St → Option β) → Option β := fun s K => den Try.prog (spec_NameOk.E k) spec_NameOk.h.H spec_NameOk.h.J k (Zad [1, 0, 1, 0, 0] (Zl Try.f94)) s K
noncomputable def spec_NameOk.c0 {β : Type} (k : Nat) (a0 : ByteArray) (K0 : List (List C) → List Out → Option β) : Ex → St → Option β := Zae Try.prog (spec_NameOk.E k) spec_NameOk.h k [1, 0, 1, 0] (Zl Try.f94) (Zak Try.prog Try.f94 spec_NameOk.h (spec_NameOk.as a0) K0)
theorem spec_NameOk.l0_eq {β : Type} (k : Nat) (a0 : ByteArray) (K0 : List (List C) → List Out → Option β) (v0_0 : ByteArray) : ∀ (kk : Nat) (v : Int), Zx (spec_NameOk.b0 k) (spec_NameOk.h.H 2) kk (spec_NameOk.s0 v0_0 v) (spec_NameOk.c0 k a0 K0) = Z4 (spec_NameOk.l0 k v0_0 (spec_NameOk.kt a0 K0)) kk v :=
  Z9 (spec_NameOk.s0 v0_0) _ (fun L0 v => by kernel_rfl)
noncomputable def spec_NameOk.m {β : Type} (k : Nat) (a0 : ByteArray) (K0 : List (List C) → List Out → Option β) (F : (ByteArray → Int → Option β)) : Option β :=
  (F) a0 (0)
theorem spec_NameOk.f_eq {β : Type} (k : Nat) (a0 : ByteArray) (K0 : List (List C) → List Out → Option β) : ZJ Try.prog (spec_NameOk.E k) spec_NameOk.h k Try.f94 (spec_NameOk.as a0) K0 = spec_NameOk.g k a0 (spec_NameOk.kt a0 K0) := Eq.trans (b := (spec_NameOk.m k a0 K0) (fun (v0_0 : ByteArray) (v : Int) => Zx (spec_NameOk.b0 k) (spec_NameOk.h.H 2) k (spec_NameOk.s0 v0_0 v) (spec_NameOk.c0 k a0 K0))) (by kernel_rfl) (Eq.trans (congrArg (spec_NameOk.m k a0 K0) (funext fun v0_0 => funext fun v => spec_NameOk.l0_eq k a0 K0 v0_0 k v)) (by kernel_rfl))
noncomputable def spec_NameOk.dec (rs : List (List C)) (os : List Out) : Option (Bool) := Zd rs fun c1 r2 => Zd c1 fun x3 l4 => cD x3 fun d5 => ZaF d5 fun w0 => Ze l4 <| Ze r2 <| Ze os (some w0)
theorem spec_NameOk.kt_dec (a0 : ByteArray) : spec_NameOk.kt a0 spec_NameOk.dec = (fun z0 => some z0) := by kernel_rfl
theorem spec_NameOk.inj (a0 : ByteArray) {rs : List (List C)} {os : List Out} {z0 : Bool} (h : spec_NameOk.dec rs os = some z0) (ho : Zo (spec_NameOk.as a0) os) : rs = [[.d (.bool z0)]] ∧ os = [] := by
  unfold spec_NameOk.dec at h
  obtain ⟨c1, r2, rfl, h1⟩ := Zb h
  obtain ⟨x3, l4, rfl, h2⟩ := Zb h1
  obtain ⟨d5, rfl, h3⟩ := Zt h2
  obtain ⟨w0, rfl, h4⟩ := Z0 h3
  obtain ⟨rfl, h5⟩ := Zc h4
  obtain ⟨rfl, h6⟩ := Zc h5
  obtain ⟨rfl, h7⟩ := Zc h6
  obtain rfl := Option.some.inj h7
  exact ⟨rfl, rfl⟩
theorem spec_NameOk.ok (k : Nat) : Zv Try.prog 94 (spec_NameOk.e k) := by
  refine Zu mix tyok (fn := Try.f94) (c := Zl Try.f94) Try.func94 (by kernel_rfl) (h := spec_NameOk.h) (k := k) (E := spec_NameOk.E k) (Zk (spec_l1In.ok k) Zz) (by kernel_rfl) (by kernel_rfl) rfl (Zq Try.func94 (by kernel_rfl)) ?_
  intro β l K r hr
  simp only [spec_NameOk.e] at hr
  split at hr
  case h_2 => cases hr
  unfold spec_NameOk.f at hr
  split at hr
  case h_2 => cases hr
  rename_i hz
  exact ⟨_, _, hr, _, spec_NameOk.dec, _, (spec_NameOk.f_eq k _ spec_NameOk.dec).trans (by rw [spec_NameOk.kt_dec]; exact hz), fun rs os h ho => spec_NameOk.inj _ h ho⟩
noncomputable def spec_QueueOk.l2 {β : Type} (k : Nat) (v2_0 : Int) (v2_2 : List (List D)) (v2_3 : List (List D)) (v2_4 : List (List D)) (v2_5 : Int) (L1 : (Int × (List (List D)) × (List (List D)) × (List (List D)) × Int) → Option β) (K : Bool → Option β) (L2 : Int → Option β) (v : Int) : Option β :=
  match v with
  | v2_1 => bif (decide ((v2_1 : Int) < v2_0)) then (ZX v2_4 v2_1 fun c117 => Zd c117 fun d118 r119 => Zan d118 fun x120 => Ze r119 (ZX v2_4 v2_0 fun c121 => Zd c121 fun d122 r123 => Zan d122 fun x124 => Ze r123 (bif (strEq x120 x124) then (K false) else (L2 (IntKind.wrap .i64 (v2_1 + 1)))))) else (L1 (IntKind.wrap .i64 (v2_0 + 1), v2_2, v2_3, v2_4, v2_5))
noncomputable def spec_QueueOk.l1 {β : Type} (k : Nat) (K : Bool → Option β) (L1 : (Int × (List (List D)) × (List (List D)) × (List (List D)) × Int) → Option β) (v : Int × (List (List D)) × (List (List D)) × (List (List D)) × Int) : Option β :=
  match v with
  | (v1_0, v1_1, v1_2, v1_3, v1_4) => bif (decide ((v1_0 : Int) < (v1_3.length : Int))) then (ZX v1_3 v1_0 fun c104 => Zd c104 fun d105 r106 => Zan d105 fun x107 => Ze r106 (spec_l9Find.f k v1_2 x107 (fun y108 => bif (decide ((y108 : Int) < 0)) then (K false) else (Z4 (spec_QueueOk.l2 k v1_0 v1_1 v1_2 v1_3 v1_4 L1 K) k (0))))) else (bif (decide (((v1_1.length : Int) : Int) ≤ 60)) then (bif (decide (((v1_2.length : Int) : Int) ≤ 60)) then (spec_l1In.f k v1_4 0 1000000 (fun y125 => K y125)) else (K false)) else (K false))
noncomputable def spec_QueueOk.l0 {β : Type} (k : Nat) (v0_1 : List (List D)) (v0_2 : List (List D)) (v0_3 : List (List D)) (v0_4 : Int) (v0_5 : List (List C)) (K : Bool → Option β) (L0 : Int → Option β) (v : Int) : Option β :=
  match v with
  | v0_0 => bif (decide ((v0_0 : Int) < (v0_5.length : Int))) then (ZH ((0 : Int) ≤ v0_0 ∧ v0_0 < (v0_5.length : Int)) (atNat v0_5 (Int.toNat v0_0) fun c65 => Zd (c65.drop 0) fun c66 r67 => cD c66 fun d68 => Zan d68 fun x69 => Zd r67 fun c70 r71 => cD c70 fun d72 => ZM .i64 d72 fun x73 => Zd r71 fun c74 r75 => cD c74 fun d76 => ZM .i64 d76 fun x77 => spec_NameOk.f k x69 (fun y78 => bif (!y78) then (K false) else (spec_l9Find.f k (C.immRows v0_5) x69 (fun y79 => bif ((y79 : Int) != v0_0) then (K false) else (spec_l1In.f k x73 0 1000064 (fun y80 => bif (!y80) then (K false) else (spec_l1In.f k x77 0 1000 (fun y81 => bif (!y81) then (K false) else (bif (decide ((v0_0 : Int) ≥ (v0_1.length : Int))) then (bif ((x73 : Int) != 0) then (K false) else (L0 (IntKind.wrap .i64 (v0_0 + 1)))) else (L0 (IntKind.wrap .i64 (v0_0 + 1))))))))))))) else (Z4 (spec_QueueOk.l1 k K) k (0, v0_1, v0_2, v0_3, v0_4))
noncomputable def spec_QueueOk.g {β : Type} (k : Nat) (a0_0 : List (List D)) (a0_1 : List (List D)) (a0_2 : List (List D)) (a0_3 : Int) (K : Bool → Option β) : Option β :=
  ZH (Zcm 3 a0_0) (ZH (([] : List (List C)).length + (a0_0.map (·.map C.d)).length ≤ Z6) (ZH (Zcm 3 a0_1) (ZH ((([] : List (List C)) ++ (a0_0.map (·.map C.d))).length + (a0_1.map (·.map C.d)).length ≤ Z6) (Z4 (spec_QueueOk.l0 k a0_0 a0_1 a0_2 a0_3 ((([] : List (List C)) ++ (a0_0.map (·.map C.d))) ++ (a0_1.map (·.map C.d))) K) k (0)))))
noncomputable def spec_QueueOk.t (k : Nat) (a0_0 : List (List D)) (a0_1 : List (List D)) (a0_2 : List (List D)) (a0_3 : Int) : Option (Bool) := spec_QueueOk.g k a0_0 a0_1 a0_2 a0_3 (fun z0 => some z0)
noncomputable def spec_QueueOk.f {β : Type} (k : Nat) (a0_0 : List (List D)) (a0_1 : List (List D)) (a0_2 : List (List D)) (a0_3 : Int) (K : Bool → Option β) : Option β :=
  match spec_QueueOk.t k a0_0 a0_1 a0_2 a0_3 with
  | some z0 => K z0
  | none => none
noncomputable def spec_QueueOk.as (a0_0 : List (List D)) (a0_1 : List (List D)) (a0_2 : List (List D)) (a0_3 : Int) : List A := [.agg [.sl a0_0, .sl a0_1, .sl a0_2, .int .i64 a0_3]]
noncomputable def spec_QueueOk.kt {β : Type} (a0_0 : List (List D)) (a0_1 : List (List D)) (a0_2 : List (List D)) (a0_3 : Int) (K0 : List (List C) → List Out → Option β) : Bool → Option β := fun z0 => K0 [[.d (.bool z0)]] []
noncomputable def spec_QueueOk.e (k : Nat) : ZQ := { modes := [(.imm, 0)], rts := [4], al := false, run := fun {β} l K => match l with | [.agg [.sl a0_0, .sl a0_1, .sl a0_2, .int .i64 a0_3]] => spec_QueueOk.f k a0_0 a0_1 a0_2 a0_3 (spec_QueueOk.kt a0_0 a0_1 a0_2 a0_3 K) | _ => none }
noncomputable def spec_QueueOk.E (k : Nat) : Env := fun g => bif g == 94 then some (spec_NameOk.e k) else bif g == 95 then some (spec_l9Find.e k) else bif g == 123 then some (spec_l1In.e k) else none
noncomputable def spec_QueueOk.h : ZY := ⟨fun n => bif n == 14 then ⟨[(1, .asis), (6, .asis), (7, .asis)], []⟩ else bif n == 9 then ⟨[(1, .asis), (6, .asis)], []⟩ else bif n == 3 then ⟨[(1, .asis), (3, .asis), (4, .asis)], []⟩ else ⟨[], []⟩, fun _ => none, false, []⟩
noncomputable def spec_QueueOk.s0 (v0_1 : List (List D)) (v0_2 : List (List D)) (v0_3 : List (List D)) (v0_4 : Int) (v0_5 : List (List C)) (v : Int) : St :=
  match v with
  | v0_0 => ⟨[.any, .bp 0 0, .any, .row 1, .d true (.int .i64 v0_0), .any, .any, .any, .any, .any, .any, .any, .any, .any, .any, .any, .any, .any, .any, .any, .any, .any, .any, .any, .any, .any, .any, .any, .any, .any, .any, .any, .any, .any, .any, .any, .any, .any, .any, .any, .any, .any, .any, .any, .any, .any, .any, .any, .any, .any, .any, .any, .any, .any, .any, .any, .any, .any, .any, .any, .any, .any, .any, .any, .any, .any, .any, .any, .any, .any, .any, .any, .any, .any, .any, .any, .any, .any, .any, .any, .any, .any, .any, .any, .any, .any, .any, .any, .any, .any, .any, .any, .any, .any, .any, .any, .any, .any, .any, .any, .any, .any, .any, .any, .any, .any, .any, .any], [.box none 44 [.d false (.sl v0_1), .d false (.sl v0_2), .d false (.sl v0_3), .d false (.int .i64 v0_4)], .row none true 42 v0_5]⟩
noncomputable def spec_QueueOk.b0 {β : Type} (k : Nat) : St → (Ex → St → Option β) → Option β := fun s K => den Try.prog (spec_QueueOk.E k) spec_QueueOk.h.H spec_QueueOk.h.J k (Zad [1, 1, 0, 1, 0, 0] (Zl Try.f85)) s K
noncomputable def spec_QueueOk.c0 {β : Type} (k : Nat) (a0_0 : List (List D)) (a0_1 : List (List D)) (a0_2 : List (List D)) (a0_3 : Int) (K0 : List (List C) → List Out → Option β) : Ex → St → Option β := Zae Try.prog (spec_QueueOk.E k) spec_QueueOk.h k [1, 1, 0, 1, 0] (Zl Try.f85) (Zak Try.prog Try.f85 spec_QueueOk.h (spec_QueueOk.as a0_0 a0_1 a0_2 a0_3) K0)
noncomputable def spec_QueueOk.s1 (v : Int × (List (List D)) × (List (List D)) × (List (List D)) × Int) : St :=
  match v with
  | (v1_0, v1_1, v1_2, v1_3, v1_4) => ⟨[.any, .bp 0 0, .any, .any, .any, .any, .d true (.int .i64 v1_0), .any, .any, .any, .any, .any, .any, .any, .any, .any, .any, .any, .any, .any, .any, .any, .any, .any, .any, .any, .any, .any, .any, .any, .any, .any, .any, .any, .any, .any, .any, .any, .any, .any, .any, .any, .any, .any, .any, .any, .any, .any, .any, .any, .any, .any, .any, .any, .any, .any, .any, .any, .any, .any, .any, .any, .any, .any, .any, .any, .any, .any, .any, .any, .any, .any, .any, .any, .any, .any, .any, .any, .any, .any, .any, .any, .any, .any, .any, .any, .any, .any, .any, .any, .any, .any, .any, .any, .any, .any, .any, .any, .any, .any, .any, .any, .any, .any, .any, .any, .any, .any], [.box none 44 [.d false (.sl v1_1), .d false (.sl v1_2), .d false (.sl v1_3), .d false (.int .i64 v1_4)]]⟩
noncomputable def spec_QueueOk.b1 {β : Type} (k : Nat) : St → (Ex → St → Option β) → Option β := fun s K => den Try.prog (spec_QueueOk.E k) spec_QueueOk.h.H spec_QueueOk.h.J k (Zad [1, 1, 1, 0, 1, 0, 0] (Zl Try.f85)) s K
noncomputable def spec_QueueOk.c1 {β : Type} (k : Nat) (a0_0 : List (List D)) (a0_1 : List (List D)) (a0_2 : List (List D)) (a0_3 : Int) (K0 : List (List C) → List Out → Option β) : Ex → St → Option β := Zae Try.prog (spec_QueueOk.E k) spec_QueueOk.h k [1, 1, 1, 0, 1, 0] (Zl Try.f85) (Zak Try.prog Try.f85 spec_QueueOk.h (spec_QueueOk.as a0_0 a0_1 a0_2 a0_3) K0)
noncomputable def spec_QueueOk.s2 (v2_0 : Int) (v2_2 : List (List D)) (v2_3 : List (List D)) (v2_4 : List (List D)) (v2_5 : Int) (v : Int) : St :=
  match v with
  | v2_1 => ⟨[.any, .bp 0 0, .any, .any, .any, .any, .d true (.int .i64 v2_0), .d true (.int .i64 v2_1), .any, .any, .any, .any, .any, .any, .any, .any, .any, .any, .any, .any, .any, .any, .any, .any, .any, .any, .any, .any, .any, .any, .any, .any, .any, .any, .any, .any, .any, .any, .any, .any, .any, .any, .any, .any, .any, .any, .any, .any, .any, .any, .any, .any, .any, .any, .any, .any, .any, .any, .any, .any, .any, .any, .any, .any, .any, .any, .any, .any, .any, .any, .any, .any, .any, .any, .any, .any, .any, .any, .any, .any, .any, .any, .any, .any, .any, .any, .any, .any, .any, .any, .any, .any, .any, .any, .any, .any, .any, .any, .any, .any, .any, .any, .any, .any, .any, .any, .any, .any], [.box none 44 [.d false (.sl v2_2), .d false (.sl v2_3), .d false (.sl v2_4), .d false (.int .i64 v2_5)]]⟩
noncomputable def spec_QueueOk.b2 {β : Type} (k : Nat) : St → (Ex → St → Option β) → Option β := fun s K => den Try.prog (spec_QueueOk.E k) spec_QueueOk.h.H spec_QueueOk.h.J k (Zad [1, 1, 1, 0, 1, 0, 0, 1, 0, 0, 1, 1, 0, 0] (Zl Try.f85)) s K
noncomputable def spec_QueueOk.c2 {β : Type} (k : Nat) (a0_0 : List (List D)) (a0_1 : List (List D)) (a0_2 : List (List D)) (a0_3 : Int) (K0 : List (List C) → List Out → Option β) (L1 : St → Option β) : Ex → St → Option β := Zae Try.prog (spec_QueueOk.E k) spec_QueueOk.h k [1, 0, 0, 1, 1, 0] (Zad [1, 1, 1, 0, 1, 0, 0] (Zl Try.f85)) (backK (spec_QueueOk.h.H 9) L1 (spec_QueueOk.c1 k a0_0 a0_1 a0_2 a0_3 K0))
theorem spec_QueueOk.l2_eq {β : Type} (k : Nat) (a0_0 : List (List D)) (a0_1 : List (List D)) (a0_2 : List (List D)) (a0_3 : Int) (K0 : List (List C) → List Out → Option β) (v2_0 : Int) (v2_2 : List (List D)) (v2_3 : List (List D)) (v2_4 : List (List D)) (v2_5 : Int) (L1 : St → Option β) : ∀ (kk : Nat) (v : Int), Zx (spec_QueueOk.b2 k) (spec_QueueOk.h.H 14) kk (spec_QueueOk.s2 v2_0 v2_2 v2_3 v2_4 v2_5 v) (spec_QueueOk.c2 k a0_0 a0_1 a0_2 a0_3 K0 L1) = Z4 (spec_QueueOk.l2 k v2_0 v2_2 v2_3 v2_4 v2_5 (fun v => L1 (spec_QueueOk.s1 v)) (spec_QueueOk.kt a0_0 a0_1 a0_2 a0_3 K0)) kk v :=
  Z9 (spec_QueueOk.s2 v2_0 v2_2 v2_3 v2_4 v2_5) _ (fun L2 v => by kernel_rfl)
noncomputable def spec_QueueOk.m1 {β : Type} (k : Nat) (a0_0 : List (List D)) (a0_1 : List (List D)) (a0_2 : List (List D)) (a0_3 : Int) (K0 : List (List C) → List Out → Option β) (L1 : St → Option β) (v : Int × (List (List D)) × (List (List D)) × (List (List D)) × Int) (F : (Int → (List (List D)) → (List (List D)) → (List (List D)) → Int → Int → Option β)) : Option β :=
  match v with | (v1_0, v1_1, v1_2, v1_3, v1_4) => bif (decide ((v1_0 : Int) < (v1_3.length : Int))) then (ZX v1_3 v1_0 fun c104 => Zd c104 fun d105 r106 => Zan d105 fun x107 => Ze r106 (spec_l9Find.f k v1_2 x107 (fun y108 => bif (decide ((y108 : Int) < 0)) then ((spec_QueueOk.kt a0_0 a0_1 a0_2 a0_3 K0) false) else ((F) v1_0 v1_1 v1_2 v1_3 v1_4 (0))))) else (bif (decide (((v1_1.length : Int) : Int) ≤ 60)) then (bif (decide (((v1_2.length : Int) : Int) ≤ 60)) then (spec_l1In.f k v1_4 0 1000000 (fun y125 => (spec_QueueOk.kt a0_0 a0_1 a0_2 a0_3 K0) y125)) else ((spec_QueueOk.kt a0_0 a0_1 a0_2 a0_3 K0) false)) else ((spec_QueueOk.kt a0_0 a0_1 a0_2 a0_3 K0) false))
theorem spec_QueueOk.l1_eq {β : Type} (k : Nat) (a0_0 : List (List D)) (a0_1 : List (List D)) (a0_2 : List (List D)) (a0_3 : Int) (K0 : List (List C) → List Out → Option β) : ∀ (kk : Nat) (v : Int × (List (List D)) × (List (List D)) × (List (List D)) × Int), Zx (spec_QueueOk.b1 k) (spec_QueueOk.h.H 9) kk (spec_QueueOk.s1 v) (spec_QueueOk.c1 k a0_0 a0_1 a0_2 a0_3 K0) = Z4 (spec_QueueOk.l1 k (spec_QueueOk.kt a0_0 a0_1 a0_2 a0_3 K0)) kk v :=
  Z9 (spec_QueueOk.s1) _ (fun L1 v => by obtain ⟨v1_0, v1_1, v1_2, v1_3, v1_4⟩ := v; exact Eq.trans (b := (spec_QueueOk.m1 k a0_0 a0_1 a0_2 a0_3 K0 L1 (v1_0, v1_1, v1_2, v1_3, v1_4)) (fun (v2_0 : Int) (v2_2 : List (List D)) (v2_3 : List (List D)) (v2_4 : List (List D)) (v2_5 : Int) (v : Int) => Zx (spec_QueueOk.b2 k) (spec_QueueOk.h.H 14) k (spec_QueueOk.s2 v2_0 v2_2 v2_3 v2_4 v2_5 v) (spec_QueueOk.c2 k a0_0 a0_1 a0_2 a0_3 K0 L1))) (by kernel_rfl) (Eq.trans (congrArg (spec_QueueOk.m1 k a0_0 a0_1 a0_2 a0_3 K0 L1 (v1_0, v1_1, v1_2, v1_3, v1_4)) (funext fun v2_0 => funext fun v2_2 => funext fun v2_3 => funext fun v2_4 => funext fun v2_5 => funext fun v => spec_QueueOk.l2_eq k a0_0 a0_1 a0_2 a0_3 K0 v2_0 v2_2 v2_3 v2_4 v2_5 L1 k v)) (by kernel_rfl)))
noncomputable def spec_QueueOk.m0 {β : Type} (k : Nat) (a0_0 : List (List D)) (a0_1 : List (List D)) (a0_2 : List (List D)) (a0_3 : Int) (K0 : List (List C) → List Out → Option β) (v0_1 : List (List D)) (v0_2 : List (List D)) (v0_3 : List (List D)) (v0_4 : Int) (v0_5 : List (List C)) (L0 : St → Option β) (v : Int) (F : ((Int × (List (List D)) × (List (List D)) × (List (List D)) × Int) → Option β)) : Option β :=
  bif (decide ((v : Int) < (v0_5.length : Int))) then (ZH ((0 : Int) ≤ v ∧ v < (v0_5.length : Int)) (atNat v0_5 (Int.toNat v) fun c65 => Zd (c65.drop 0) fun c66 r67 => cD c66 fun d68 => Zan d68 fun x69 => Zd r67 fun c70 r71 => cD c70 fun d72 => ZM .i64 d72 fun x73 => Zd r71 fun c74 r75 => cD c74 fun d76 => ZM .i64 d76 fun x77 => spec_NameOk.f k x69 (fun y78 => bif (!y78) then ((spec_QueueOk.kt a0_0 a0_1 a0_2 a0_3 K0) false) else (spec_l9Find.f k (C.immRows v0_5) x69 (fun y79 => bif ((y79 : Int) != v) then ((spec_QueueOk.kt a0_0 a0_1 a0_2 a0_3 K0) false) else (spec_l1In.f k x73 0 1000064 (fun y80 => bif (!y80) then ((spec_QueueOk.kt a0_0 a0_1 a0_2 a0_3 K0) false) else (spec_l1In.f k x77 0 1000 (fun y81 => bif (!y81) then ((spec_QueueOk.kt a0_0 a0_1 a0_2 a0_3 K0) false) else (bif (decide ((v : Int) ≥ (v0_1.length : Int))) then (bif ((x73 : Int) != 0) then ((spec_QueueOk.kt a0_0 a0_1 a0_2 a0_3 K0) false) else (L0 (spec_QueueOk.s0 v0_1 v0_2 v0_3 v0_4 v0_5 (IntKind.wrap .i64 (v + 1))))) else (L0 (spec_QueueOk.s0 v0_1 v0_2 v0_3 v0_4 v0_5 (IntKind.wrap .i64 (v + 1)))))))))))))) else ((F) (0, v0_1, v0_2, v0_3, v0_4))
theorem spec_QueueOk.l0_eq {β : Type} (k : Nat) (a0_0 : List (List D)) (a0_1 : List (List D)) (a0_2 : List (List D)) (a0_3 : Int) (K0 : List (List C) → List Out → Option β) (v0_1 : List (List D)) (v0_2 : List (List D)) (v0_3 : List (List D)) (v0_4 : Int) (v0_5 : List (List C)) : ∀ (kk : Nat) (v : Int), Zx (spec_QueueOk.b0 k) (spec_QueueOk.h.H 3) kk (spec_QueueOk.s0 v0_1 v0_2 v0_3 v0_4 v0_5 v) (spec_QueueOk.c0 k a0_0 a0_1 a0_2 a0_3 K0) = Z4 (spec_QueueOk.l0 k v0_1 v0_2 v0_3 v0_4 v0_5 (spec_QueueOk.kt a0_0 a0_1 a0_2 a0_3 K0)) kk v :=
  Z9 (spec_QueueOk.s0 v0_1 v0_2 v0_3 v0_4 v0_5) _ (fun L0 v => by exact Eq.trans (b := (spec_QueueOk.m0 k a0_0 a0_1 a0_2 a0_3 K0 v0_1 v0_2 v0_3 v0_4 v0_5 L0 v) (fun (v : Int × (List (List D)) × (List (List D)) × (List (List D)) × Int) => Zx (spec_QueueOk.b1 k) (spec_QueueOk.h.H 9) k (spec_QueueOk.s1 v) (spec_QueueOk.c1 k a0_0 a0_1 a0_2 a0_3 K0))) (by kernel_rfl) (Eq.trans (congrArg (spec_QueueOk.m0 k a0_0 a0_1 a0_2 a0_3 K0 v0_1 v0_2 v0_3 v0_4 v0_5 L0 v) (funext fun v => spec_QueueOk.l1_eq k a0_0 a0_1 a0_2 a0_3 K0 k v)) (by kernel_rfl)))
noncomputable def spec_QueueOk.m {β : Type} (k : Nat) (a0_0 : List (List D)) (a0_1 : List (List D)) (a0_2 : List (List D)) (a0_3 : Int) (K0 : List (List C) → List Out → Option β) (F : ((List (List D)) → (List (List D)) → (List (List D)) → Int → (List (List C)) → Int → Option β)) : Option β :=
  ZH (Zcm 3 a0_0) (ZH (([] : List (List C)).length + (a0_0.map (·.map C.d)).length ≤ Z6) (ZH (Zcm 3 a0_1) (ZH ((([] : List (List C)) ++ (a0_0.map (·.map C.d))).length + (a0_1.map (·.map C.d)).length ≤ Z6) ((F) a0_0 a0_1 a0_2 a0_3 ((([] : List (List C)) ++ (a0_0.map (·.map C.d))) ++ (a0_1.map (·.map C.d))) (0)))))
theorem spec_QueueOk.f_eq {β : Type} (k : Nat) (a0_0 : List (List D)) (a0_1 : List (List D)) (a0_2 : List (List D)) (a0_3 : Int) (K0 : List (List C) → List Out → Option β) : ZJ Try.prog (spec_QueueOk.E k) spec_QueueOk.h k Try.f85 (spec_QueueOk.as a0_0 a0_1 a0_2 a0_3) K0 = spec_QueueOk.g k a0_0 a0_1 a0_2 a0_3 (spec_QueueOk.kt a0_0 a0_1 a0_2 a0_3 K0) := Eq.trans (b := (spec_QueueOk.m k a0_0 a0_1 a0_2 a0_3 K0) (fun (v0_1 : List (List D)) (v0_2 : List (List D)) (v0_3 : List (List D)) (v0_4 : Int) (v0_5 : List (List C)) (v : Int) => Zx (spec_QueueOk.b0 k) (spec_QueueOk.h.H 3) k (spec_QueueOk.s0 v0_1 v0_2 v0_3 v0_4 v0_5 v) (spec_QueueOk.c0 k a0_0 a0_1 a0_2 a0_3 K0))) (by kernel_rfl) (Eq.trans (congrArg (spec_QueueOk.m k a0_0 a0_1 a0_2 a0_3 K0) (funext fun v0_1 => funext fun v0_2 => funext fun v0_3 => funext fun v0_4 => funext fun v0_5 => funext fun v => spec_QueueOk.l0_eq k a0_0 a0_1 a0_2 a0_3 K0 v0_1 v0_2 v0_3 v0_4 v0_5 k v)) (by kernel_rfl))
noncomputable def spec_QueueOk.dec (rs : List (List C)) (os : List Out) : Option (Bool) := Zd rs fun c1 r2 => Zd c1 fun x3 l4 => cD x3 fun d5 => ZaF d5 fun w0 => Ze l4 <| Ze r2 <| Ze os (some w0)
theorem spec_QueueOk.kt_dec (a0_0 : List (List D)) (a0_1 : List (List D)) (a0_2 : List (List D)) (a0_3 : Int) : spec_QueueOk.kt a0_0 a0_1 a0_2 a0_3 spec_QueueOk.dec = (fun z0 => some z0) := by kernel_rfl
theorem spec_QueueOk.inj (a0_0 : List (List D)) (a0_1 : List (List D)) (a0_2 : List (List D)) (a0_3 : Int) {rs : List (List C)} {os : List Out} {z0 : Bool} (h : spec_QueueOk.dec rs os = some z0) (ho : Zo (spec_QueueOk.as a0_0 a0_1 a0_2 a0_3) os) : rs = [[.d (.bool z0)]] ∧ os = [] := by
  unfold spec_QueueOk.dec at h
  obtain ⟨c1, r2, rfl, h1⟩ := Zb h
  obtain ⟨x3, l4, rfl, h2⟩ := Zb h1
  obtain ⟨d5, rfl, h3⟩ := Zt h2
  obtain ⟨w0, rfl, h4⟩ := Z0 h3
  obtain ⟨rfl, h5⟩ := Zc h4
  obtain ⟨rfl, h6⟩ := Zc h5
  obtain ⟨rfl, h7⟩ := Zc h6
  obtain rfl := Option.some.inj h7
  exact ⟨rfl, rfl⟩
theorem spec_QueueOk.ok (k : Nat) : Zv Try.prog 85 (spec_QueueOk.e k) := by
  refine Zu mix tyok (fn := Try.f85) (c := Zl Try.f85) Try.func85 (by kernel_rfl) (h := spec_QueueOk.h) (k := k) (E := spec_QueueOk.E k) (Zk (spec_NameOk.ok k) (Zk (spec_l9Find.ok k) (Zk (spec_l1In.ok k) Zz))) (by kernel_rfl) (by kernel_rfl) rfl (Zq Try.func85 (by kernel_rfl)) ?_
  intro β l K r hr
  simp only [spec_QueueOk.e] at hr
  split at hr
  case h_2 => cases hr
  unfold spec_QueueOk.f at hr
  split at hr
  case h_2 => cases hr
  rename_i hz
  exact ⟨_, _, hr, _, spec_QueueOk.dec, _, (spec_QueueOk.f_eq k _ _ _ _ spec_QueueOk.dec).trans (by rw [spec_QueueOk.kt_dec]; exact hz), fun rs os h ho => spec_QueueOk.inj _ _ _ _ h ho⟩
noncomputable def spec_l2Among.l0 {β : Type} (k : Nat) (v0_0 : List (List D)) (v0_1 : ByteArray) (K : Bool → Option β) (L0 : Int → Option β) (v : Int) : Option β :=
  match v with
  | v0_2 => bif (decide ((v0_2 : Int) < (v0_0.length : Int))) then (ZX v0_0 v0_2 fun c5 => Zd c5 fun d6 r7 => Zan d6 fun x8 => Ze r7 (bif (strEq x8 v0_1) then (K true) else (L0 (IntKind.wrap .i64 (v0_2 + 1))))) else (K false)
noncomputable def spec_l2Among.g {β : Type} (k : Nat) (a0 : List (List D)) (a1 : ByteArray) (K : Bool → Option β) : Option β :=
  Z4 (spec_l2Among.l0 k a0 a1 K) k (0)
noncomputable def spec_l2Among.t (k : Nat) (a0 : List (List D)) (a1 : ByteArray) : Option (Bool) := spec_l2Among.g k a0 a1 (fun z0 => some z0)
noncomputable def spec_l2Among.f {β : Type} (k : Nat) (a0 : List (List D)) (a1 : ByteArray) (K : Bool → Option β) : Option β :=
  match spec_l2Among.t k a0 a1 with
  | some z0 => K z0
  | none => none
noncomputable def spec_l2Among.as (a0 : List (List D)) (a1 : ByteArray) : List A := [.d (.sl a0), .d (.str a1)]
noncomputable def spec_l2Among.kt {β : Type} (a0 : List (List D)) (a1 : ByteArray) (K0 : List (List C) → List Out → Option β) : Bool → Option β := fun z0 => K0 [[.d (.bool z0)]] []
noncomputable def spec_l2Among.e (k : Nat) : ZQ := { modes := [(.imm, 0), (.imm, 0)], rts := [4], al := false, run := fun {β} l K => match l with | [.d (.sl a0), .d (.str a1)] => spec_l2Among.f k a0 a1 (spec_l2Among.kt a0 a1 K) | _ => none }
noncomputable def spec_l2Among.E (k : Nat) : Env := fun g => none
noncomputable def spec_l2Among.h : ZY := ⟨fun n => bif n == 2 then ⟨[(0, .asis), (1, .asis), (5, .asis)], []⟩ else ⟨[], []⟩, fun _ => none, false, []⟩
noncomputable def spec_l2Among.s0 (v0_0 : List (List D)) (v0_1 : ByteArray) (v : Int) : St :=
  match v with
  | v0_2 => ⟨[.d false (.sl v0_0), .d false (.str v0_1), .any, .any, .any, .d true (.int .i64 v0_2), .any, .any, .any, .any, .any, .any, .any, .any, .any, .any, .any, .any], []⟩
noncomputable def spec_l2Among.b0 {β : Type} (k : Nat) : St → (Ex → St → Option β) → Option β := fun s K => den Try.prog (spec_l2Among.E k) spec_l2Among.h.H spec_l2Among.h.J k (Zad [1, 0, 1, 0, 0] (Zl Try.f96)) s K
noncomputable def spec_l2Among.c0 {β : Type} (k : Nat) (a0 : List (List D)) (a1 : ByteArray) (K0 : List (List C) → List Out → Option β) : Ex → St → Option β := Zae Try.prog (spec_l2Among.E k) spec_l2Among.h k [1, 0, 1, 0] (Zl Try.f96) (Zak Try.prog Try.f96 spec_l2Among.h (spec_l2Among.as a0 a1) K0)
theorem spec_l2Among.l0_eq {β : Type} (k : Nat) (a0 : List (List D)) (a1 : ByteArray) (K0 : List (List C) → List Out → Option β) (v0_0 : List (List D)) (v0_1 : ByteArray) : ∀ (kk : Nat) (v : Int), Zx (spec_l2Among.b0 k) (spec_l2Among.h.H 2) kk (spec_l2Among.s0 v0_0 v0_1 v) (spec_l2Among.c0 k a0 a1 K0) = Z4 (spec_l2Among.l0 k v0_0 v0_1 (spec_l2Among.kt a0 a1 K0)) kk v :=
  Z9 (spec_l2Among.s0 v0_0 v0_1) _ (fun L0 v => by kernel_rfl)
noncomputable def spec_l2Among.m {β : Type} (k : Nat) (a0 : List (List D)) (a1 : ByteArray) (K0 : List (List C) → List Out → Option β) (F : ((List (List D)) → ByteArray → Int → Option β)) : Option β :=
  (F) a0 a1 (0)
theorem spec_l2Among.f_eq {β : Type} (k : Nat) (a0 : List (List D)) (a1 : ByteArray) (K0 : List (List C) → List Out → Option β) : ZJ Try.prog (spec_l2Among.E k) spec_l2Among.h k Try.f96 (spec_l2Among.as a0 a1) K0 = spec_l2Among.g k a0 a1 (spec_l2Among.kt a0 a1 K0) := Eq.trans (b := (spec_l2Among.m k a0 a1 K0) (fun (v0_0 : List (List D)) (v0_1 : ByteArray) (v : Int) => Zx (spec_l2Among.b0 k) (spec_l2Among.h.H 2) k (spec_l2Among.s0 v0_0 v0_1 v) (spec_l2Among.c0 k a0 a1 K0))) (by kernel_rfl) (Eq.trans (congrArg (spec_l2Among.m k a0 a1 K0) (funext fun v0_0 => funext fun v0_1 => funext fun v => spec_l2Among.l0_eq k a0 a1 K0 v0_0 v0_1 k v)) (by kernel_rfl))
noncomputable def spec_l2Among.dec (rs : List (List C)) (os : List Out) : Option (Bool) := Zd rs fun c1 r2 => Zd c1 fun x3 l4 => cD x3 fun d5 => ZaF d5 fun w0 => Ze l4 <| Ze r2 <| Ze os (some w0)
theorem spec_l2Among.kt_dec (a0 : List (List D)) (a1 : ByteArray) : spec_l2Among.kt a0 a1 spec_l2Among.dec = (fun z0 => some z0) := by kernel_rfl
theorem spec_l2Among.inj (a0 : List (List D)) (a1 : ByteArray) {rs : List (List C)} {os : List Out} {z0 : Bool} (h : spec_l2Among.dec rs os = some z0) (ho : Zo (spec_l2Among.as a0 a1) os) : rs = [[.d (.bool z0)]] ∧ os = [] := by
  unfold spec_l2Among.dec at h
  obtain ⟨c1, r2, rfl, h1⟩ := Zb h
  obtain ⟨x3, l4, rfl, h2⟩ := Zb h1
  obtain ⟨d5, rfl, h3⟩ := Zt h2
  obtain ⟨w0, rfl, h4⟩ := Z0 h3
  obtain ⟨rfl, h5⟩ := Zc h4
  obtain ⟨rfl, h6⟩ := Zc h5
  obtain ⟨rfl, h7⟩ := Zc h6
  obtain rfl := Option.some.inj h7
  exact ⟨rfl, rfl⟩
theorem spec_l2Among.ok (k : Nat) : Zv Try.prog 96 (spec_l2Among.e k) := by
  refine Zu mix tyok (fn := Try.f96) (c := Zl Try.f96) Try.func96 (by kernel_rfl) (h := spec_l2Among.h) (k := k) (E := spec_l2Among.E k) Zz (by kernel_rfl) (by kernel_rfl) rfl (Zq Try.func96 (by kernel_rfl)) ?_
  intro β l K r hr
  simp only [spec_l2Among.e] at hr
  split at hr
  case h_2 => cases hr
  unfold spec_l2Among.f at hr
  split at hr
  case h_2 => cases hr
  rename_i hz
  exact ⟨_, _, hr, _, spec_l2Among.dec, _, (spec_l2Among.f_eq k _ _ spec_l2Among.dec).trans (by rw [spec_l2Among.kt_dec]; exact hz), fun rs os h ho => spec_l2Among.inj _ _ h ho⟩
noncomputable def spec_l9Delay.l0 {β : Type} (k : Nat) (v0_0 : Int) (K : Int → Option β) (L0 : (Int × Int) → Option β) (v : Int × Int) : Option β :=
  match v with
  | (v0_1, v0_2) => bif (decide ((v0_2 : Int) < v0_0)) then (bif (decide ((v0_1 : Int) < 64)) then (L0 (IntKind.wrap .i64 (v0_1 * 2), IntKind.wrap .i64 (v0_2 + 1))) else (K v0_1)) else (K v0_1)
noncomputable def spec_l9Delay.g {β : Type} (k : Nat) (a0 : Int) (K : Int → Option β) : Option β :=
  Z4 (spec_l9Delay.l0 k a0 K) k (1, 1)
noncomputable def spec_l9Delay.t (k : Nat) (a0 : Int) : Option (Int) := spec_l9Delay.g k a0 (fun z0 => some z0)
noncomputable def spec_l9Delay.f {β : Type} (k : Nat) (a0 : Int) (K : Int → Option β) : Option β :=
  match spec_l9Delay.t k a0 with
  | some z0 => K z0
  | none => none
noncomputable def spec_l9Delay.as (a0 : Int) : List A := [.d (.int .i64 a0)]
noncomputable def spec_l9Delay.kt {β : Type} (a0 : Int) (K0 : List (List C) → List Out → Option β) : Int → Option β := fun z0 => K0 [[.d (.int .i64 z0)]] []
noncomputable def spec_l9Delay.e (k : Nat) : ZQ := { modes := [(.imm, 0)], rts := [3], al := false, run := fun {β} l K => match l with | [.d (.int .i64 a0)] => spec_l9Delay.f k a0 (spec_l9Delay.kt a0 K) | _ => none }
noncomputable def spec_l9Delay.E (k : Nat) : Env := fun g => none
noncomputable def spec_l9Delay.h : ZY := ⟨fun n => bif n == 3 then ⟨[(0, .asis), (3, .asis), (4, .asis)], []⟩ else ⟨[], []⟩, fun _ => none, false, []⟩
noncomputable def spec_l9Delay.s0 (v0_0 : Int) (v : Int × Int) : St :=
  match v with
  | (v0_1, v0_2) => ⟨[.d false (.int .i64 v0_0), .any, .any, .d true (.int .i64 v0_1), .d true (.int .i64 v0_2), .any, .any, .any, .any, .any, .any, .any, .any, .any, .any, .any, .any], []⟩
noncomputable def spec_l9Delay.b0 {β : Type} (k : Nat) : St → (Ex → St → Option β) → Option β := fun s K => den Try.prog (spec_l9Delay.E k) spec_l9Delay.h.H spec_l9Delay.h.J k (Zad [1, 1, 0, 1, 0, 0] (Zl Try.f119)) s K
noncomputable def spec_l9Delay.c0 {β : Type} (k : Nat) (a0 : Int) (K0 : List (List C) → List Out → Option β) : Ex → St → Option β := Zae Try.prog (spec_l9Delay.E k) spec_l9Delay.h k [1, 1, 0, 1, 0] (Zl Try.f119) (Zak Try.prog Try.f119 spec_l9Delay.h (spec_l9Delay.as a0) K0)
theorem spec_l9Delay.l0_eq {β : Type} (k : Nat) (a0 : Int) (K0 : List (List C) → List Out → Option β) (v0_0 : Int) : ∀ (kk : Nat) (v : Int × Int), Zx (spec_l9Delay.b0 k) (spec_l9Delay.h.H 3) kk (spec_l9Delay.s0 v0_0 v) (spec_l9Delay.c0 k a0 K0) = Z4 (spec_l9Delay.l0 k v0_0 (spec_l9Delay.kt a0 K0)) kk v :=
  Z9 (spec_l9Delay.s0 v0_0) _ (fun L0 v => by obtain ⟨v0_1, v0_2⟩ := v; kernel_rfl)
noncomputable def spec_l9Delay.m {β : Type} (k : Nat) (a0 : Int) (K0 : List (List C) → List Out → Option β) (F : (Int → (Int × Int) → Option β)) : Option β :=
  (F) a0 (1, 1)
theorem spec_l9Delay.f_eq {β : Type} (k : Nat) (a0 : Int) (K0 : List (List C) → List Out → Option β) : ZJ Try.prog (spec_l9Delay.E k) spec_l9Delay.h k Try.f119 (spec_l9Delay.as a0) K0 = spec_l9Delay.g k a0 (spec_l9Delay.kt a0 K0) := Eq.trans (b := (spec_l9Delay.m k a0 K0) (fun (v0_0 : Int) (v : Int × Int) => Zx (spec_l9Delay.b0 k) (spec_l9Delay.h.H 3) k (spec_l9Delay.s0 v0_0 v) (spec_l9Delay.c0 k a0 K0))) (by kernel_rfl) (Eq.trans (congrArg (spec_l9Delay.m k a0 K0) (funext fun v0_0 => funext fun v => spec_l9Delay.l0_eq k a0 K0 v0_0 k v)) (by kernel_rfl))
noncomputable def spec_l9Delay.dec (rs : List (List C)) (os : List Out) : Option (Int) := Zd rs fun c1 r2 => Zd c1 fun x3 l4 => cD x3 fun d5 => ZM .i64 d5 fun w0 => Ze l4 <| Ze r2 <| Ze os (some w0)
theorem spec_l9Delay.kt_dec (a0 : Int) : spec_l9Delay.kt a0 spec_l9Delay.dec = (fun z0 => some z0) := by kernel_rfl
theorem spec_l9Delay.inj (a0 : Int) {rs : List (List C)} {os : List Out} {z0 : Int} (h : spec_l9Delay.dec rs os = some z0) (ho : Zo (spec_l9Delay.as a0) os) : rs = [[.d (.int .i64 z0)]] ∧ os = [] := by
  unfold spec_l9Delay.dec at h
  obtain ⟨c1, r2, rfl, h1⟩ := Zb h
  obtain ⟨x3, l4, rfl, h2⟩ := Zb h1
  obtain ⟨d5, rfl, h3⟩ := Zt h2
  obtain ⟨w0, rfl, h4⟩ := ZA h3
  obtain ⟨rfl, h5⟩ := Zc h4
  obtain ⟨rfl, h6⟩ := Zc h5
  obtain ⟨rfl, h7⟩ := Zc h6
  obtain rfl := Option.some.inj h7
  exact ⟨rfl, rfl⟩
theorem spec_l9Delay.ok (k : Nat) : Zv Try.prog 119 (spec_l9Delay.e k) := by
  refine Zu mix tyok (fn := Try.f119) (c := Zl Try.f119) Try.func119 (by kernel_rfl) (h := spec_l9Delay.h) (k := k) (E := spec_l9Delay.E k) Zz (by kernel_rfl) (by kernel_rfl) rfl (Zq Try.func119 (by kernel_rfl)) ?_
  intro β l K r hr
  simp only [spec_l9Delay.e] at hr
  split at hr
  case h_2 => cases hr
  unfold spec_l9Delay.f at hr
  split at hr
  case h_2 => cases hr
  rename_i hz
  exact ⟨_, _, hr, _, spec_l9Delay.dec, _, (spec_l9Delay.f_eq k _ spec_l9Delay.dec).trans (by rw [spec_l9Delay.kt_dec]; exact hz), fun rs os h ho => spec_l9Delay.inj _ h ho⟩
noncomputable def spec_Done.l0 {β : Type} (k : Nat) (v0_0 : ByteArray) (v0_1 : Bool) (v0_3 : List (List D)) (v0_4 : List (List D)) (v0_5 : List (List D)) (v0_6 : Int) (v0_7 : Int) (v0_8 : Int) (v0_9 : ByteArray) (v0_10 : Int) (v0_11 : Int) (v0_12 : List (List C)) (v0_13 : List (List C)) (K : (List (List C)) → (List (List C)) → (List (List C)) → Int → Bool → Option β) (L0 : (Int × (List (List C))) → Option β) (v : Int × (List (List C))) : Option β :=
  match v with
  | (v0_2, v0_14) => bif (decide ((v0_2 : Int) < (v0_5.length : Int))) then (ZX v0_5 v0_2 fun c150 => Zd c150 fun d151 r152 => Zan d151 fun x153 => Ze r152 (bif (!(strEq x153 v0_0)) then (ZX v0_5 v0_2 fun c154 => Zd c154 fun d155 r156 => Zan d155 fun x157 => Ze r156 (ZH (v0_14.length + ([[.d (.str x157)]] : List (List C)).length ≤ Z6) (L0 (IntKind.wrap .i64 (v0_2 + 1), v0_14 ++ ([[.d (.str x157)]] : List (List C)))))) else (L0 (IntKind.wrap .i64 (v0_2 + 1), v0_14)))) else (bif v0_1 then (spec_l2Among.f k v0_5 v0_0 (fun y158 => bif (!y158) then (K v0_12 v0_13 v0_14 v0_8 true) else (bif (((v0_3.length : Int) : Int) == 60) then (K v0_12 v0_13 v0_14 v0_8 true) else (bif v0_1 then (ZH (v0_12.length + ([[.d (.str v0_0), .d (.int .i64 v0_6), .d (.int .i64 0)]] : List (List C)).length ≤ Z6) (K (v0_12 ++ ([[.d (.str v0_0), .d (.int .i64 v0_6), .d (.int .i64 0)]] : List (List C))) v0_13 v0_14 v0_8 true)) else (bif (decide ((v0_11 : Int) < 1000)) then (spec_l9Delay.f k (IntKind.wrap .i64 (v0_11 + 1)) (fun y159 => ZH (v0_12.length + ([[.d (.str v0_0), .d (.int .i64 (IntKind.wrap .i64 (v0_6 + y159))), .d (.int .i64 (IntKind.wrap .i64 (v0_11 + 1)))]] : List (List C)).length ≤ Z6) (K (v0_12 ++ ([[.d (.str v0_0), .d (.int .i64 (IntKind.wrap .i64 (v0_6 + y159))), .d (.int .i64 (IntKind.wrap .i64 (v0_11 + 1)))]] : List (List C))) v0_13 v0_14 v0_8 true))) else (spec_l9Delay.f k v0_11 (fun y160 => ZH (v0_12.length + ([[.d (.str v0_0), .d (.int .i64 (IntKind.wrap .i64 (v0_6 + y160))), .d (.int .i64 v0_11)]] : List (List C)).length ≤ Z6) (K (v0_12 ++ ([[.d (.str v0_0), .d (.int .i64 (IntKind.wrap .i64 (v0_6 + y160))), .d (.int .i64 v0_11)]] : List (List C))) v0_13 v0_14 v0_8 true)))))))) else (bif (((v0_3.length : Int) : Int) == 60) then (K v0_12 v0_13 v0_14 v0_8 true) else (bif v0_1 then (ZH (v0_12.length + ([[.d (.str v0_0), .d (.int .i64 v0_6), .d (.int .i64 0)]] : List (List C)).length ≤ Z6) (K (v0_12 ++ ([[.d (.str v0_0), .d (.int .i64 v0_6), .d (.int .i64 0)]] : List (List C))) v0_13 v0_14 v0_8 true)) else (bif (decide ((v0_11 : Int) < 1000)) then (spec_l9Delay.f k (IntKind.wrap .i64 (v0_11 + 1)) (fun y161 => ZH (v0_12.length + ([[.d (.str v0_0), .d (.int .i64 (IntKind.wrap .i64 (v0_6 + y161))), .d (.int .i64 (IntKind.wrap .i64 (v0_11 + 1)))]] : List (List C)).length ≤ Z6) (K (v0_12 ++ ([[.d (.str v0_0), .d (.int .i64 (IntKind.wrap .i64 (v0_6 + y161))), .d (.int .i64 (IntKind.wrap .i64 (v0_11 + 1)))]] : List (List C))) v0_13 v0_14 v0_8 true))) else (spec_l9Delay.f k v0_11 (fun y162 => ZH (v0_12.length + ([[.d (.str v0_0), .d (.int .i64 (IntKind.wrap .i64 (v0_6 + y162))), .d (.int .i64 v0_11)]] : List (List C)).length ≤ Z6) (K (v0_12 ++ ([[.d (.str v0_0), .d (.int .i64 (IntKind.wrap .i64 (v0_6 + y162))), .d (.int .i64 v0_11)]] : List (List C))) v0_13 v0_14 v0_8 true)))))))
noncomputable def spec_Done.g {β : Type} (k : Nat) (a0_0 : List (List D)) (a0_1 : List (List D)) (a0_2 : List (List D)) (a0_3 : Int) (a1 : ByteArray) (a2 : Bool) (K : (List (List C)) → (List (List C)) → (List (List C)) → Int → Bool → Option β) : Option β :=
  spec_l9Copy.f k a0_0 a0_1 a0_2 a0_3 (fun y1 y2 y3 y4 => spec_l9Find.f k a0_1 a1 (fun y21 => spec_QueueOk.f k a0_0 a0_1 a0_2 a0_3 (fun y126 => bif (!y126) then (K y1 y2 y3 y4 false) else (bif (decide ((y21 : Int) < 0)) then (K y1 y2 y3 y4 false) else (ZX a0_1 y21 fun c127 => Zd c127 fun d128 r129 => Zan d128 fun x130 => Zd r129 fun d131 r132 => ZM .i64 d131 fun x133 => Zd r132 fun d134 r135 => ZM .i64 d134 fun x136 => Ze r135 (ZH (0 ≤ (0 : Int) ∧ (0 : Int) ≤ (y21 : Int) ∧ (y21 : Int) ≤ (a0_1.length : Int) ∧ rowsOk 3 a0_1) (ZH (Zcm 3 ((a0_1.drop (Int.toNat (0 : Int))).take (Int.toNat (y21 : Int) - Int.toNat (0 : Int)))) (ZH (([] : List (List C)).length + (((a0_1.drop (Int.toNat (0 : Int))).take (Int.toNat (y21 : Int) - Int.toNat (0 : Int))).map (·.map C.d)).length ≤ Z6) (ZH (0 ≤ (IntKind.wrap .i64 (y21 + 1) : Int) ∧ (IntKind.wrap .i64 (y21 + 1) : Int) ≤ (a0_1.length : Int) ∧ (a0_1.length : Int) ≤ (a0_1.length : Int) ∧ rowsOk 3 a0_1) (ZH (Zcm 3 ((a0_1.drop (Int.toNat (IntKind.wrap .i64 (y21 + 1) : Int))).take (Int.toNat (a0_1.length : Int) - Int.toNat (IntKind.wrap .i64 (y21 + 1) : Int)))) (ZH ((([] : List (List C)) ++ (((a0_1.drop (Int.toNat (0 : Int))).take (Int.toNat (y21 : Int) - Int.toNat (0 : Int))).map (·.map C.d))).length + (((a0_1.drop (Int.toNat (IntKind.wrap .i64 (y21 + 1) : Int))).take (Int.toNat (a0_1.length : Int) - Int.toNat (IntKind.wrap .i64 (y21 + 1) : Int))).map (·.map C.d)).length ≤ Z6) (Z4 (spec_Done.l0 k a1 a2 a0_0 a0_1 a0_2 a0_3 0 y4 x130 x133 x136 y1 ((([] : List (List C)) ++ (((a0_1.drop (Int.toNat (0 : Int))).take (Int.toNat (y21 : Int) - Int.toNat (0 : Int))).map (·.map C.d))) ++ (((a0_1.drop (Int.toNat (IntKind.wrap .i64 (y21 + 1) : Int))).take (Int.toNat (a0_1.length : Int) - Int.toNat (IntKind.wrap .i64 (y21 + 1) : Int))).map (·.map C.d))) K) k (0, ([] : List (List C)))))))))))))))
noncomputable def spec_Done.t (k : Nat) (a0_0 : List (List D)) (a0_1 : List (List D)) (a0_2 : List (List D)) (a0_3 : Int) (a1 : ByteArray) (a2 : Bool) : Option ((List (List C)) × (List (List C)) × (List (List C)) × Int × Bool) := spec_Done.g k a0_0 a0_1 a0_2 a0_3 a1 a2 (fun z0 z1 z2 z3 z4 => some (z0, z1, z2, z3, z4))
noncomputable def spec_Done.f {β : Type} (k : Nat) (a0_0 : List (List D)) (a0_1 : List (List D)) (a0_2 : List (List D)) (a0_3 : Int) (a1 : ByteArray) (a2 : Bool) (K : (List (List C)) → (List (List C)) → (List (List C)) → Int → Bool → Option β) : Option β :=
  match spec_Done.t k a0_0 a0_1 a0_2 a0_3 a1 a2 with
  | some (z0, z1, z2, z3, z4) => K z0 z1 z2 z3 z4
  | none => none
noncomputable def spec_Done.as (a0_0 : List (List D)) (a0_1 : List (List D)) (a0_2 : List (List D)) (a0_3 : Int) (a1 : ByteArray) (a2 : Bool) : List A := [.agg [.sl a0_0, .sl a0_1, .sl a0_2, .int .i64 a0_3], .d (.str a1), .d (.bool a2)]
noncomputable def spec_Done.kt {β : Type} (a0_0 : List (List D)) (a0_1 : List (List D)) (a0_2 : List (List D)) (a0_3 : Int) (a1 : ByteArray) (a2 : Bool) (K0 : List (List C) → List Out → Option β) : (List (List C)) → (List (List C)) → (List (List C)) → Int → Bool → Option β := fun z0 z1 z2 z3 z4 => K0 [[.own z0, .own z1, .own z2, .d (.int .i64 z3)], [.d (.bool z4)]] []
noncomputable def spec_Done.e (k : Nat) : ZQ := { modes := [(.imm, 0), (.imm, 0), (.imm, 0)], rts := [44, 4], al := false, run := fun {β} l K => match l with | [.agg [.sl a0_0, .sl a0_1, .sl a0_2, .int .i64 a0_3], .d (.str a1), .d (.bool a2)] => spec_Done.f k a0_0 a0_1 a0_2 a0_3 a1 a2 (spec_Done.kt a0_0 a0_1 a0_2 a0_3 a1 a2 K) | _ => none }
noncomputable def spec_Done.E (k : Nat) : Env := fun g => bif g == 84 then some (spec_l9Copy.e k) else bif g == 95 then some (spec_l9Find.e k) else bif g == 85 then some (spec_QueueOk.e k) else bif g == 96 then some (spec_l2Among.e k) else bif g == 119 then some (spec_l9Delay.e k) else none
noncomputable def spec_Done.h : ZY := ⟨fun n => bif n == 9 then ⟨[(1, .asis), (2, .asis), (3, .asis), (6, .asis), (8, .asis), (10, .asis), (11, .asis)], []⟩ else ⟨[], []⟩, fun _ => none, false, []⟩
noncomputable def spec_Done.s0 (v0_0 : ByteArray) (v0_1 : Bool) (v0_3 : List (List D)) (v0_4 : List (List D)) (v0_5 : List (List D)) (v0_6 : Int) (v0_7 : Int) (v0_8 : Int) (v0_9 : ByteArray) (v0_10 : Int) (v0_11 : Int) (v0_12 : List (List C)) (v0_13 : List (List C)) (v : Int × (List (List C))) : St :=
  match v with
  | (v0_2, v0_14) => ⟨[.any, .d false (.str v0_0), .d false (.bool v0_1), .bp 0 0, .any, .any, .bp 1 0, .any, .bp 2 0, .any, .bp 3 0, .d true (.int .i64 v0_2), .any, .any, .any, .any, .any, .any, .any, .any, .any, .any, .any, .any, .any, .any, .any, .any, .any, .any, .any, .any, .any, .any, .any, .any, .any, .any, .any, .any, .any, .any, .any, .any, .any, .any, .any, .any, .any, .any, .any, .any, .any, .any, .any, .any, .any, .any, .any, .any, .any, .any, .any, .any, .any, .any, .any, .any, .any, .any, .any, .any, .any, .any, .any, .any, .any, .any, .any, .any, .any, .any, .any, .any, .any, .any, .any, .any, .any, .any, .any, .any, .any, .any, .any, .any, .any, .any, .any, .any, .any, .any, .any, .any, .any, .any, .any, .any, .any, .any, .any, .any, .any, .any, .any, .any, .any, .any, .any], [.box none 44 [.d false (.sl v0_3), .d false (.sl v0_4), .d false (.sl v0_5), .d false (.int .i64 v0_6)], .box none 44 [.nil, .nil, .nil, .d true (.int .i64 v0_7)], .box none 44 [.row 4, .row 5, .row 6, .d true (.int .i64 v0_8)], .box none 137 [.d false (.str v0_9), .d false (.int .i64 v0_10), .d false (.int .i64 v0_11)], .row none true 42 v0_12, .row none true 42 v0_13, .row none true 25 v0_14]⟩
noncomputable def spec_Done.b0 {β : Type} (k : Nat) : St → (Ex → St → Option β) → Option β := fun s K => den Try.prog (spec_Done.E k) spec_Done.h.H spec_Done.h.J k (Zad [1, 1, 1, 1, 1, 1, 1, 0, 1, 0, 0] (Zl Try.f42)) s K
noncomputable def spec_Done.c0 {β : Type} (k : Nat) (a0_0 : List (List D)) (a0_1 : List (List D)) (a0_2 : List (List D)) (a0_3 : Int) (a1 : ByteArray) (a2 : Bool) (K0 : List (List C) → List Out → Option β) : Ex → St → Option β := Zae Try.prog (spec_Done.E k) spec_Done.h k [1, 1, 1, 1, 1, 1, 1, 0, 1, 0] (Zl Try.f42) (Zak Try.prog Try.f42 spec_Done.h (spec_Done.as a0_0 a0_1 a0_2 a0_3 a1 a2) K0)
theorem spec_Done.l0_eq {β : Type} (k : Nat) (a0_0 : List (List D)) (a0_1 : List (List D)) (a0_2 : List (List D)) (a0_3 : Int) (a1 : ByteArray) (a2 : Bool) (K0 : List (List C) → List Out → Option β) (v0_0 : ByteArray) (v0_1 : Bool) (v0_3 : List (List D)) (v0_4 : List (List D)) (v0_5 : List (List D)) (v0_6 : Int) (v0_7 : Int) (v0_8 : Int) (v0_9 : ByteArray) (v0_10 : Int) (v0_11 : Int) (v0_12 : List (List C)) (v0_13 : List (List C)) : ∀ (kk : Nat) (v : Int × (List (List C))), Zx (spec_Done.b0 k) (spec_Done.h.H 9) kk (spec_Done.s0 v0_0 v0_1 v0_3 v0_4 v0_5 v0_6 v0_7 v0_8 v0_9 v0_10 v0_11 v0_12 v0_13 v) (spec_Done.c0 k a0_0 a0_1 a0_2 a0_3 a1 a2 K0) = Z4 (spec_Done.l0 k v0_0 v0_1 v0_3 v0_4 v0_5 v0_6 v0_7 v0_8 v0_9 v0_10 v0_11 v0_12 v0_13 (spec_Done.kt a0_0 a0_1 a0_2 a0_3 a1 a2 K0)) kk v :=
  Z9 (spec_Done.s0 v0_0 v0_1 v0_3 v0_4 v0_5 v0_6 v0_7 v0_8 v0_9 v0_10 v0_11 v0_12 v0_13) _ (fun L0 v => by obtain ⟨v0_2, v0_14⟩ := v; kernel_rfl)
noncomputable def spec_Done.m {β : Type} (k : Nat) (a0_0 : List (List D)) (a0_1 : List (List D)) (a0_2 : List (List D)) (a0_3 : Int) (a1 : ByteArray) (a2 : Bool) (K0 : List (List C) → List Out → Option β) (F : (ByteArray → Bool → (List (List D)) → (List (List D)) → (List (List D)) → Int → Int → Int → ByteArray → Int → Int → (List (List C)) → (List (List C)) → (Int × (List (List C))) → Option β)) : Option β :=
  spec_l9Copy.f k a0_0 a0_1 a0_2 a0_3 (fun y1 y2 y3 y4 => spec_l9Find.f k a0_1 a1 (fun y21 => spec_QueueOk.f k a0_0 a0_1 a0_2 a0_3 (fun y126 => bif (!y126) then ((spec_Done.kt a0_0 a0_1 a0_2 a0_3 a1 a2 K0) y1 y2 y3 y4 false) else (bif (decide ((y21 : Int) < 0)) then ((spec_Done.kt a0_0 a0_1 a0_2 a0_3 a1 a2 K0) y1 y2 y3 y4 false) else (ZX a0_1 y21 fun c127 => Zd c127 fun d128 r129 => Zan d128 fun x130 => Zd r129 fun d131 r132 => ZM .i64 d131 fun x133 => Zd r132 fun d134 r135 => ZM .i64 d134 fun x136 => Ze r135 (ZH (0 ≤ (0 : Int) ∧ (0 : Int) ≤ (y21 : Int) ∧ (y21 : Int) ≤ (a0_1.length : Int) ∧ rowsOk 3 a0_1) (ZH (Zcm 3 ((a0_1.drop (Int.toNat (0 : Int))).take (Int.toNat (y21 : Int) - Int.toNat (0 : Int)))) (ZH (([] : List (List C)).length + (((a0_1.drop (Int.toNat (0 : Int))).take (Int.toNat (y21 : Int) - Int.toNat (0 : Int))).map (·.map C.d)).length ≤ Z6) (ZH (0 ≤ (IntKind.wrap .i64 (y21 + 1) : Int) ∧ (IntKind.wrap .i64 (y21 + 1) : Int) ≤ (a0_1.length : Int) ∧ (a0_1.length : Int) ≤ (a0_1.length : Int) ∧ rowsOk 3 a0_1) (ZH (Zcm 3 ((a0_1.drop (Int.toNat (IntKind.wrap .i64 (y21 + 1) : Int))).take (Int.toNat (a0_1.length : Int) - Int.toNat (IntKind.wrap .i64 (y21 + 1) : Int)))) (ZH ((([] : List (List C)) ++ (((a0_1.drop (Int.toNat (0 : Int))).take (Int.toNat (y21 : Int) - Int.toNat (0 : Int))).map (·.map C.d))).length + (((a0_1.drop (Int.toNat (IntKind.wrap .i64 (y21 + 1) : Int))).take (Int.toNat (a0_1.length : Int) - Int.toNat (IntKind.wrap .i64 (y21 + 1) : Int))).map (·.map C.d)).length ≤ Z6) ((F) a1 a2 a0_0 a0_1 a0_2 a0_3 0 y4 x130 x133 x136 y1 ((([] : List (List C)) ++ (((a0_1.drop (Int.toNat (0 : Int))).take (Int.toNat (y21 : Int) - Int.toNat (0 : Int))).map (·.map C.d))) ++ (((a0_1.drop (Int.toNat (IntKind.wrap .i64 (y21 + 1) : Int))).take (Int.toNat (a0_1.length : Int) - Int.toNat (IntKind.wrap .i64 (y21 + 1) : Int))).map (·.map C.d))) (0, ([] : List (List C)))))))))))))))
theorem spec_Done.f_eq {β : Type} (k : Nat) (a0_0 : List (List D)) (a0_1 : List (List D)) (a0_2 : List (List D)) (a0_3 : Int) (a1 : ByteArray) (a2 : Bool) (K0 : List (List C) → List Out → Option β) : ZJ Try.prog (spec_Done.E k) spec_Done.h k Try.f42 (spec_Done.as a0_0 a0_1 a0_2 a0_3 a1 a2) K0 = spec_Done.g k a0_0 a0_1 a0_2 a0_3 a1 a2 (spec_Done.kt a0_0 a0_1 a0_2 a0_3 a1 a2 K0) := Eq.trans (b := (spec_Done.m k a0_0 a0_1 a0_2 a0_3 a1 a2 K0) (fun (v0_0 : ByteArray) (v0_1 : Bool) (v0_3 : List (List D)) (v0_4 : List (List D)) (v0_5 : List (List D)) (v0_6 : Int) (v0_7 : Int) (v0_8 : Int) (v0_9 : ByteArray) (v0_10 : Int) (v0_11 : Int) (v0_12 : List (List C)) (v0_13 : List (List C)) (v : Int × (List (List C))) => Zx (spec_Done.b0 k) (spec_Done.h.H 9) k (spec_Done.s0 v0_0 v0_1 v0_3 v0_4 v0_5 v0_6 v0_7 v0_8 v0_9 v0_10 v0_11 v0_12 v0_13 v) (spec_Done.c0 k a0_0 a0_1 a0_2 a0_3 a1 a2 K0))) (by kernel_rfl) (Eq.trans (congrArg (spec_Done.m k a0_0 a0_1 a0_2 a0_3 a1 a2 K0) (funext fun v0_0 => funext fun v0_1 => funext fun v0_3 => funext fun v0_4 => funext fun v0_5 => funext fun v0_6 => funext fun v0_7 => funext fun v0_8 => funext fun v0_9 => funext fun v0_10 => funext fun v0_11 => funext fun v0_12 => funext fun v0_13 => funext fun v => spec_Done.l0_eq k a0_0 a0_1 a0_2 a0_3 a1 a2 K0 v0_0 v0_1 v0_3 v0_4 v0_5 v0_6 v0_7 v0_8 v0_9 v0_10 v0_11 v0_12 v0_13 k v)) (by kernel_rfl))
noncomputable def spec_Done.dec (rs : List (List C)) (os : List Out) : Option ((List (List C)) × (List (List C)) × (List (List C)) × Int × Bool) := Zd rs fun c1 r2 => Zd c1 fun x3 l4 => ZaU x3 fun w0 => Zd l4 fun x5 l6 => ZaU x5 fun w1 => Zd l6 fun x7 l8 => ZaU x7 fun w2 => Zd l8 fun x9 l10 => cD x9 fun d11 => ZM .i64 d11 fun w3 => Ze l10 <| Zd r2 fun c12 r13 => Zd c12 fun x14 l15 => cD x14 fun d16 => ZaF d16 fun w4 => Ze l15 <| Ze r13 <| Ze os (some (w0, w1, w2, w3, w4))
theorem spec_Done.kt_dec (a0_0 : List (List D)) (a0_1 : List (List D)) (a0_2 : List (List D)) (a0_3 : Int) (a1 : ByteArray) (a2 : Bool) : spec_Done.kt a0_0 a0_1 a0_2 a0_3 a1 a2 spec_Done.dec = (fun z0 z1 z2 z3 z4 => some (z0, z1, z2, z3, z4)) := by kernel_rfl
theorem spec_Done.inj (a0_0 : List (List D)) (a0_1 : List (List D)) (a0_2 : List (List D)) (a0_3 : Int) (a1 : ByteArray) (a2 : Bool) {rs : List (List C)} {os : List Out} {z0 : List (List C)} {z1 : List (List C)} {z2 : List (List C)} {z3 : Int} {z4 : Bool} (h : spec_Done.dec rs os = some (z0, z1, z2, z3, z4)) (ho : Zo (spec_Done.as a0_0 a0_1 a0_2 a0_3 a1 a2) os) : rs = [[.own z0, .own z1, .own z2, .d (.int .i64 z3)], [.d (.bool z4)]] ∧ os = [] := by
  unfold spec_Done.dec at h
  obtain ⟨c1, r2, rfl, h1⟩ := Zb h
  obtain ⟨x3, l4, rfl, h2⟩ := Zb h1
  obtain ⟨w0, rfl, h3⟩ := ZN h2
  obtain ⟨x5, l6, rfl, h4⟩ := Zb h3
  obtain ⟨w1, rfl, h5⟩ := ZN h4
  obtain ⟨x7, l8, rfl, h6⟩ := Zb h5
  obtain ⟨w2, rfl, h7⟩ := ZN h6
  obtain ⟨x9, l10, rfl, h8⟩ := Zb h7
  obtain ⟨d11, rfl, h9⟩ := Zt h8
  obtain ⟨w3, rfl, h10⟩ := ZA h9
  obtain ⟨rfl, h11⟩ := Zc h10
  obtain ⟨c12, r13, rfl, h12⟩ := Zb h11
  obtain ⟨x14, l15, rfl, h13⟩ := Zb h12
  obtain ⟨d16, rfl, h14⟩ := Zt h13
  obtain ⟨w4, rfl, h15⟩ := Z0 h14
  obtain ⟨rfl, h16⟩ := Zc h15
  obtain ⟨rfl, h17⟩ := Zc h16
  obtain ⟨rfl, h18⟩ := Zc h17
  simp only [Option.some.injEq, Prod.mk.injEq] at h18
  obtain ⟨rfl, rfl, rfl, rfl, rfl⟩ := h18
  exact ⟨rfl, rfl⟩
theorem spec_Done.ok (k : Nat) : Zv Try.prog 42 (spec_Done.e k) := by
  refine Zu mix tyok (fn := Try.f42) (c := Zl Try.f42) Try.func42 (by kernel_rfl) (h := spec_Done.h) (k := k) (E := spec_Done.E k) (Zk (spec_l9Copy.ok k) (Zk (spec_l9Find.ok k) (Zk (spec_QueueOk.ok k) (Zk (spec_l2Among.ok k) (Zk (spec_l9Delay.ok k) Zz))))) (by kernel_rfl) (by kernel_rfl) rfl (Zq Try.func42 (by kernel_rfl)) ?_
  intro β l K r hr
  simp only [spec_Done.e] at hr
  split at hr
  case h_2 => cases hr
  unfold spec_Done.f at hr
  split at hr
  case h_2 => cases hr
  rename_i hz
  exact ⟨_, _, hr, _, spec_Done.dec, _, (spec_Done.f_eq k _ _ _ _ _ _ spec_Done.dec).trans (by rw [spec_Done.kt_dec]; exact hz), fun rs os h ho => spec_Done.inj _ _ _ _ _ _ h ho⟩
noncomputable def slices_Clone_impl_Item.g {β : Type} (k : Nat) (a0 : List (List D)) (K : (List (List C)) → Option β) : Option β :=
  nilSl a0 (both (K ([] : List (List C))) (ZH (Zcm 3 a0) (ZH (([] : List (List C)).length + (a0.map (·.map C.d)).length ≤ Z6) (K (([] : List (List C)) ++ (a0.map (·.map C.d))))))) (ZH (Zcm 3 a0) (ZH (([] : List (List C)).length + (a0.map (·.map C.d)).length ≤ Z6) (K (([] : List (List C)) ++ (a0.map (·.map C.d))))))
noncomputable def slices_Clone_impl_Item.t (k : Nat) (a0 : List (List D)) : Option ((List (List C))) := slices_Clone_impl_Item.g k a0 (fun z0 => some z0)
noncomputable def slices_Clone_impl_Item.f {β : Type} (k : Nat) (a0 : List (List D)) (K : (List (List C)) → Option β) : Option β :=
  match slices_Clone_impl_Item.t k a0 with
  | some z0 => K z0
  | none => none
noncomputable def slices_Clone_impl_Item.as (a0 : List (List D)) : List A := [.d (.sl a0)]
noncomputable def slices_Clone_impl_Item.kt {β : Type} (a0 : List (List D)) (K0 : List (List C) → List Out → Option β) : (List (List C)) → Option β := fun z0 => K0 [[.own z0]] []
noncomputable def slices_Clone_impl_Item.e (k : Nat) : ZQ := { modes := [(.imm, 0)], rts := [42], al := false, run := fun {β} l K => match l with | [.d (.sl a0)] => slices_Clone_impl_Item.f k a0 (slices_Clone_impl_Item.kt a0 K) | _ => none }
noncomputable def slices_Clone_impl_Item.E (k : Nat) : Env := fun g => none
noncomputable def slices_Clone_impl_Item.h : ZY := ⟨fun n => ⟨[], []⟩, fun _ => none, false, []⟩
theorem slices_Clone_impl_Item.f_eq {β : Type} (k : Nat) (a0 : List (List D)) (K0 : List (List C) → List Out → Option β) : ZJ Try.prog (slices_Clone_impl_Item.E k) slices_Clone_impl_Item.h k Try.f172 (slices_Clone_impl_Item.as a0) K0 = slices_Clone_impl_Item.g k a0 (slices_Clone_impl_Item.kt a0 K0) := by kernel_rfl
noncomputable def slices_Clone_impl_Item.dec (rs : List (List C)) (os : List Out) : Option ((List (List C))) := Zd rs fun c1 r2 => Zd c1 fun x3 l4 => ZaU x3 fun w0 => Ze l4 <| Ze r2 <| Ze os (some w0)
theorem slices_Clone_impl_Item.kt_dec (a0 : List (List D)) : slices_Clone_impl_Item.kt a0 slices_Clone_impl_Item.dec = (fun z0 => some z0) := by kernel_rfl
theorem slices_Clone_impl_Item.inj (a0 : List (List D)) {rs : List (List C)} {os : List Out} {z0 : List (List C)} (h : slices_Clone_impl_Item.dec rs os = some z0) (ho : Zo (slices_Clone_impl_Item.as a0) os) : rs = [[.own z0]] ∧ os = [] := by
  unfold slices_Clone_impl_Item.dec at h
  obtain ⟨c1, r2, rfl, h1⟩ := Zb h
  obtain ⟨x3, l4, rfl, h2⟩ := Zb h1
  obtain ⟨w0, rfl, h3⟩ := ZN h2
  obtain ⟨rfl, h4⟩ := Zc h3
  obtain ⟨rfl, h5⟩ := Zc h4
  obtain ⟨rfl, h6⟩ := Zc h5
  obtain rfl := Option.some.inj h6
  exact ⟨rfl, rfl⟩
theorem slices_Clone_impl_Item.ok (k : Nat) : Zv Try.prog 172 (slices_Clone_impl_Item.e k) := by
  refine Zu mix tyok (fn := Try.f172) (c := Zl Try.f172) Try.func172 (by kernel_rfl) (h := slices_Clone_impl_Item.h) (k := k) (E := slices_Clone_impl_Item.E k) Zz (by kernel_rfl) (by kernel_rfl) rfl (Zq Try.func172 (by kernel_rfl)) ?_
  intro β l K r hr
  simp only [slices_Clone_impl_Item.e] at hr
  split at hr
  case h_2 => cases hr
  unfold slices_Clone_impl_Item.f at hr
  split at hr
  case h_2 => cases hr
  rename_i hz
  exact ⟨_, _, hr, _, slices_Clone_impl_Item.dec, _, (slices_Clone_impl_Item.f_eq k _ slices_Clone_impl_Item.dec).trans (by rw [slices_Clone_impl_Item.kt_dec]; exact hz), fun rs os h ho => slices_Clone_impl_Item.inj _ h ho⟩
noncomputable def slices_Clone_string.g {β : Type} (k : Nat) (a0 : List (List D)) (K : (List (List C)) → Option β) : Option β :=
  nilSl a0 (both (K ([] : List (List C))) (ZH (Zcm 1 a0) (ZH (([] : List (List C)).length + (a0.map (·.map C.d)).length ≤ Z6) (K (([] : List (List C)) ++ (a0.map (·.map C.d))))))) (ZH (Zcm 1 a0) (ZH (([] : List (List C)).length + (a0.map (·.map C.d)).length ≤ Z6) (K (([] : List (List C)) ++ (a0.map (·.map C.d))))))
noncomputable def slices_Clone_string.t (k : Nat) (a0 : List (List D)) : Option ((List (List C))) := slices_Clone_string.g k a0 (fun z0 => some z0)
noncomputable def slices_Clone_string.f {β : Type} (k : Nat) (a0 : List (List D)) (K : (List (List C)) → Option β) : Option β :=
  match slices_Clone_string.t k a0 with
  | some z0 => K z0
  | none => none
noncomputable def slices_Clone_string.as (a0 : List (List D)) : List A := [.d (.sl a0)]
noncomputable def slices_Clone_string.kt {β : Type} (a0 : List (List D)) (K0 : List (List C) → List Out → Option β) : (List (List C)) → Option β := fun z0 => K0 [[.own z0]] []
noncomputable def slices_Clone_string.e (k : Nat) : ZQ := { modes := [(.imm, 0)], rts := [25], al := false, run := fun {β} l K => match l with | [.d (.sl a0)] => slices_Clone_string.f k a0 (slices_Clone_string.kt a0 K) | _ => none }
noncomputable def slices_Clone_string.E (k : Nat) : Env := fun g => none
noncomputable def slices_Clone_string.h : ZY := ⟨fun n => ⟨[], []⟩, fun _ => none, false, []⟩
theorem slices_Clone_string.f_eq {β : Type} (k : Nat) (a0 : List (List D)) (K0 : List (List C) → List Out → Option β) : ZJ Try.prog (slices_Clone_string.E k) slices_Clone_string.h k Try.f173 (slices_Clone_string.as a0) K0 = slices_Clone_string.g k a0 (slices_Clone_string.kt a0 K0) := by kernel_rfl
noncomputable def slices_Clone_string.dec (rs : List (List C)) (os : List Out) : Option ((List (List C))) := Zd rs fun c1 r2 => Zd c1 fun x3 l4 => ZaU x3 fun w0 => Ze l4 <| Ze r2 <| Ze os (some w0)
theorem slices_Clone_string.kt_dec (a0 : List (List D)) : slices_Clone_string.kt a0 slices_Clone_string.dec = (fun z0 => some z0) := by kernel_rfl
theorem slices_Clone_string.inj (a0 : List (List D)) {rs : List (List C)} {os : List Out} {z0 : List (List C)} (h : slices_Clone_string.dec rs os = some z0) (ho : Zo (slices_Clone_string.as a0) os) : rs = [[.own z0]] ∧ os = [] := by
  unfold slices_Clone_string.dec at h
  obtain ⟨c1, r2, rfl, h1⟩ := Zb h
  obtain ⟨x3, l4, rfl, h2⟩ := Zb h1
  obtain ⟨w0, rfl, h3⟩ := ZN h2
  obtain ⟨rfl, h4⟩ := Zc h3
  obtain ⟨rfl, h5⟩ := Zc h4
  obtain ⟨rfl, h6⟩ := Zc h5
  obtain rfl := Option.some.inj h6
  exact ⟨rfl, rfl⟩
theorem slices_Clone_string.ok (k : Nat) : Zv Try.prog 173 (slices_Clone_string.e k) := by
  refine Zu mix tyok (fn := Try.f173) (c := Zl Try.f173) Try.func173 (by kernel_rfl) (h := slices_Clone_string.h) (k := k) (E := slices_Clone_string.E k) Zz (by kernel_rfl) (by kernel_rfl) rfl (Zq Try.func173 (by kernel_rfl)) ?_
  intro β l K r hr
  simp only [slices_Clone_string.e] at hr
  split at hr
  case h_2 => cases hr
  unfold slices_Clone_string.f at hr
  split at hr
  case h_2 => cases hr
  rename_i hz
  exact ⟨_, _, hr, _, slices_Clone_string.dec, _, (slices_Clone_string.f_eq k _ slices_Clone_string.dec).trans (by rw [slices_Clone_string.kt_dec]; exact hz), fun rs os h ho => slices_Clone_string.inj _ h ho⟩
noncomputable def impl_copyQueue.g {β : Type} (k : Nat) (a0_0 : List (List D)) (a0_1 : List (List D)) (a0_2 : List (List D)) (a0_3 : Int) (K : (List (List C)) → (List (List C)) → (List (List C)) → Int → Option β) : Option β :=
  slices_Clone_impl_Item.f k a0_0 (fun y1 => slices_Clone_impl_Item.f k a0_1 (fun y2 => slices_Clone_string.f k a0_2 (fun y3 => K y1 y2 y3 a0_3)))
noncomputable def impl_copyQueue.t (k : Nat) (a0_0 : List (List D)) (a0_1 : List (List D)) (a0_2 : List (List D)) (a0_3 : Int) : Option ((List (List C)) × (List (List C)) × (List (List C)) × Int) := impl_copyQueue.g k a0_0 a0_1 a0_2 a0_3 (fun z0 z1 z2 z3 => some (z0, z1, z2, z3))
noncomputable def impl_copyQueue.f {β : Type} (k : Nat) (a0_0 : List (List D)) (a0_1 : List (List D)) (a0_2 : List (List D)) (a0_3 : Int) (K : (List (List C)) → (List (List C)) → (List (List C)) → Int → Option β) : Option β :=
  match impl_copyQueue.t k a0_0 a0_1 a0_2 a0_3 with
  | some (z0, z1, z2, z3) => K z0 z1 z2 z3
  | none => none
noncomputable def impl_copyQueue.as (a0_0 : List (List D)) (a0_1 : List (List D)) (a0_2 : List (List D)) (a0_3 : Int) : List A := [.agg [.sl a0_0, .sl a0_1, .sl a0_2, .int .i64 a0_3]]
noncomputable def impl_copyQueue.kt {β : Type} (a0_0 : List (List D)) (a0_1 : List (List D)) (a0_2 : List (List D)) (a0_3 : Int) (K0 : List (List C) → List Out → Option β) : (List (List C)) → (List (List C)) → (List (List C)) → Int → Option β := fun z0 z1 z2 z3 => K0 [[.own z0, .own z1, .own z2, .d (.int .i64 z3)]] []
noncomputable def impl_copyQueue.e (k : Nat) : ZQ := { modes := [(.imm, 0)], rts := [44], al := false, run := fun {β} l K => match l with | [.agg [.sl a0_0, .sl a0_1, .sl a0_2, .int .i64 a0_3]] => impl_copyQueue.f k a0_0 a0_1 a0_2 a0_3 (impl_copyQueue.kt a0_0 a0_1 a0_2 a0_3 K) | _ => none }
noncomputable def impl_copyQueue.E (k : Nat) : Env := fun g => bif g == 172 then some (slices_Clone_impl_Item.e k) else bif g == 173 then some (slices_Clone_string.e k) else none
noncomputable def impl_copyQueue.h : ZY := ⟨fun n => ⟨[], []⟩, fun _ => none, false, []⟩
theorem impl_copyQueue.f_eq {β : Type} (k : Nat) (a0_0 : List (List D)) (a0_1 : List (List D)) (a0_2 : List (List D)) (a0_3 : Int) (K0 : List (List C) → List Out → Option β) : ZJ Try.prog (impl_copyQueue.E k) impl_copyQueue.h k Try.f87 (impl_copyQueue.as a0_0 a0_1 a0_2 a0_3) K0 = impl_copyQueue.g k a0_0 a0_1 a0_2 a0_3 (impl_copyQueue.kt a0_0 a0_1 a0_2 a0_3 K0) := by kernel_rfl
noncomputable def impl_copyQueue.dec (rs : List (List C)) (os : List Out) : Option ((List (List C)) × (List (List C)) × (List (List C)) × Int) := Zd rs fun c1 r2 => Zd c1 fun x3 l4 => ZaU x3 fun w0 => Zd l4 fun x5 l6 => ZaU x5 fun w1 => Zd l6 fun x7 l8 => ZaU x7 fun w2 => Zd l8 fun x9 l10 => cD x9 fun d11 => ZM .i64 d11 fun w3 => Ze l10 <| Ze r2 <| Ze os (some (w0, w1, w2, w3))
theorem impl_copyQueue.kt_dec (a0_0 : List (List D)) (a0_1 : List (List D)) (a0_2 : List (List D)) (a0_3 : Int) : impl_copyQueue.kt a0_0 a0_1 a0_2 a0_3 impl_copyQueue.dec = (fun z0 z1 z2 z3 => some (z0, z1, z2, z3)) := by kernel_rfl
theorem impl_copyQueue.inj (a0_0 : List (List D)) (a0_1 : List (List D)) (a0_2 : List (List D)) (a0_3 : Int) {rs : List (List C)} {os : List Out} {z0 : List (List C)} {z1 : List (List C)} {z2 : List (List C)} {z3 : Int} (h : impl_copyQueue.dec rs os = some (z0, z1, z2, z3)) (ho : Zo (impl_copyQueue.as a0_0 a0_1 a0_2 a0_3) os) : rs = [[.own z0, .own z1, .own z2, .d (.int .i64 z3)]] ∧ os = [] := by
  unfold impl_copyQueue.dec at h
  obtain ⟨c1, r2, rfl, h1⟩ := Zb h
  obtain ⟨x3, l4, rfl, h2⟩ := Zb h1
  obtain ⟨w0, rfl, h3⟩ := ZN h2
  obtain ⟨x5, l6, rfl, h4⟩ := Zb h3
  obtain ⟨w1, rfl, h5⟩ := ZN h4
  obtain ⟨x7, l8, rfl, h6⟩ := Zb h5
  obtain ⟨w2, rfl, h7⟩ := ZN h6
  obtain ⟨x9, l10, rfl, h8⟩ := Zb h7
  obtain ⟨d11, rfl, h9⟩ := Zt h8
  obtain ⟨w3, rfl, h10⟩ := ZA h9
  obtain ⟨rfl, h11⟩ := Zc h10
  obtain ⟨rfl, h12⟩ := Zc h11
  obtain ⟨rfl, h13⟩ := Zc h12
  simp only [Option.some.injEq, Prod.mk.injEq] at h13
  obtain ⟨rfl, rfl, rfl, rfl⟩ := h13
  exact ⟨rfl, rfl⟩
theorem impl_copyQueue.ok (k : Nat) : Zv Try.prog 87 (impl_copyQueue.e k) := by
  refine Zu mix tyok (fn := Try.f87) (c := Zl Try.f87) Try.func87 (by kernel_rfl) (h := impl_copyQueue.h) (k := k) (E := impl_copyQueue.E k) (Zk (slices_Clone_impl_Item.ok k) (Zk (slices_Clone_string.ok k) Zz)) (by kernel_rfl) (by kernel_rfl) rfl (Zq Try.func87 (by kernel_rfl)) ?_
  intro β l K r hr
  simp only [impl_copyQueue.e] at hr
  split at hr
  case h_2 => cases hr
  unfold impl_copyQueue.f at hr
  split at hr
  case h_2 => cases hr
  rename_i hz
  exact ⟨_, _, hr, _, impl_copyQueue.dec, _, (impl_copyQueue.f_eq k _ _ _ _ impl_copyQueue.dec).trans (by rw [impl_copyQueue.kt_dec]; exact hz), fun rs os h ho => impl_copyQueue.inj _ _ _ _ h ho⟩
noncomputable def impl_itemAt_1.g {β : Type} (k : Nat) (a0_0 : ByteArray) (a0_1 : Int) (a0_2 : Int) (f0_0 : ByteArray) (K : Bool → Option β) : Option β :=
  K (strEq a0_0 f0_0)
noncomputable def impl_itemAt_1.t (k : Nat) (a0_0 : ByteArray) (a0_1 : Int) (a0_2 : Int) (f0_0 : ByteArray) : Option (Bool) := impl_itemAt_1.g k a0_0 a0_1 a0_2 f0_0 (fun z0 => some z0)
noncomputable def impl_itemAt_1.f {β : Type} (k : Nat) (a0_0 : ByteArray) (a0_1 : Int) (a0_2 : Int) (f0_0 : ByteArray) (K : Bool → Option β) : Option β :=
  match impl_itemAt_1.t k a0_0 a0_1 a0_2 f0_0 with
  | some z0 => K z0
  | none => none
noncomputable def impl_itemAt_1.as (a0_0 : ByteArray) (a0_1 : Int) (a0_2 : Int) (f0_0 : ByteArray) : List A := [.agg [.str a0_0, .int .i64 a0_1, .int .i64 a0_2], .ip [.str f0_0]]
noncomputable def impl_itemAt_1.kt {β : Type} (a0_0 : ByteArray) (a0_1 : Int) (a0_2 : Int) (f0_0 : ByteArray) (K0 : List (List C) → List Out → Option β) : Bool → Option β := fun z0 => K0 [[.d (.bool z0)]] []
noncomputable def impl_itemAt_1.e (k : Nat) : ZQ := { modes := [(.imm, 0), (.imm, 0)], rts := [4], al := false, run := fun {β} l K => match l with | [.agg [.str a0_0, .int .i64 a0_1, .int .i64 a0_2], .ip [.str f0_0]] => impl_itemAt_1.f k a0_0 a0_1 a0_2 f0_0 (impl_itemAt_1.kt a0_0 a0_1 a0_2 f0_0 K) | _ => none }
noncomputable def impl_itemAt_1.E (k : Nat) : Env := fun g => none
noncomputable def impl_itemAt_1.h : ZY := ⟨fun n => ⟨[], []⟩, fun _ => none, false, []⟩
theorem impl_itemAt_1.f_eq {β : Type} (k : Nat) (a0_0 : ByteArray) (a0_1 : Int) (a0_2 : Int) (f0_0 : ByteArray) (K0 : List (List C) → List Out → Option β) : ZJ Try.prog (impl_itemAt_1.E k) impl_itemAt_1.h k Try.f176 (impl_itemAt_1.as a0_0 a0_1 a0_2 f0_0) K0 = impl_itemAt_1.g k a0_0 a0_1 a0_2 f0_0 (impl_itemAt_1.kt a0_0 a0_1 a0_2 f0_0 K0) := by kernel_rfl
noncomputable def impl_itemAt_1.dec (rs : List (List C)) (os : List Out) : Option (Bool) := Zd rs fun c1 r2 => Zd c1 fun x3 l4 => cD x3 fun d5 => ZaF d5 fun w0 => Ze l4 <| Ze r2 <| Ze os (some w0)
theorem impl_itemAt_1.kt_dec (a0_0 : ByteArray) (a0_1 : Int) (a0_2 : Int) (f0_0 : ByteArray) : impl_itemAt_1.kt a0_0 a0_1 a0_2 f0_0 impl_itemAt_1.dec = (fun z0 => some z0) := by kernel_rfl
theorem impl_itemAt_1.inj (a0_0 : ByteArray) (a0_1 : Int) (a0_2 : Int) (f0_0 : ByteArray) {rs : List (List C)} {os : List Out} {z0 : Bool} (h : impl_itemAt_1.dec rs os = some z0) (ho : Zo (impl_itemAt_1.as a0_0 a0_1 a0_2 f0_0) os) : rs = [[.d (.bool z0)]] ∧ os = [] := by
  unfold impl_itemAt_1.dec at h
  obtain ⟨c1, r2, rfl, h1⟩ := Zb h
  obtain ⟨x3, l4, rfl, h2⟩ := Zb h1
  obtain ⟨d5, rfl, h3⟩ := Zt h2
  obtain ⟨w0, rfl, h4⟩ := Z0 h3
  obtain ⟨rfl, h5⟩ := Zc h4
  obtain ⟨rfl, h6⟩ := Zc h5
  obtain ⟨rfl, h7⟩ := Zc h6
  obtain rfl := Option.some.inj h7
  exact ⟨rfl, rfl⟩
theorem impl_itemAt_1.ok (k : Nat) : Zv Try.prog 176 (impl_itemAt_1.e k) := by
  refine Zu mix tyok (fn := Try.f176) (c := Zl Try.f176) Try.func176 (by kernel_rfl) (h := impl_itemAt_1.h) (k := k) (E := impl_itemAt_1.E k) Zz (by kernel_rfl) (by kernel_rfl) rfl (Zq Try.func176 (by kernel_rfl)) ?_
  intro β l K r hr
  simp only [impl_itemAt_1.e] at hr
  split at hr
  case h_2 => cases hr
  unfold impl_itemAt_1.f at hr
  split at hr
  case h_2 => cases hr
  rename_i hz
  exact ⟨_, _, hr, _, impl_itemAt_1.dec, _, (impl_itemAt_1.f_eq k _ _ _ _ impl_itemAt_1.dec).trans (by rw [impl_itemAt_1.kt_dec]; exact hz), fun rs os h ho => impl_itemAt_1.inj _ _ _ _ h ho⟩
noncomputable def slices_IndexFunc_impl_Item__impl_itemAt_1.l0 {β : Type} (k : Nat) (v0_0 : List (List D)) (v0_1 : ByteArray) (v0_2 : Int) (K : Int → Option β) (L0 : Int → Option β) (v : Int) : Option β :=
  match v with
  | v0_3 => bif (decide ((v0_3 : Int) < v0_2)) then (ZX v0_0 v0_3 fun c12 => Zd c12 fun d13 r14 => Zan d13 fun x15 => Zd r14 fun d16 r17 => ZM .i64 d16 fun x18 => Zd r17 fun d19 r20 => ZM .i64 d19 fun x21 => Ze r20 (impl_itemAt_1.f k x15 x18 x21 v0_1 (fun y22 => bif y22 then (K v0_3) else (L0 (IntKind.wrap .i64 (v0_3 + 1)))))) else (K (-1))
noncomputable def slices_IndexFunc_impl_Item__impl_itemAt_1.g {β : Type} (k : Nat) (a0 : List (List D)) (a1_0_0 : ByteArray) (K : Int → Option β) : Option β :=
  Z4 (slices_IndexFunc_impl_Item__impl_itemAt_1.l0 k a0 a1_0_0 (a0.length : Int) K) k (0)
noncomputable def slices_IndexFunc_impl_Item__impl_itemAt_1.t (k : Nat) (a0 : List (List D)) (a1_0_0 : ByteArray) : Option (Int) := slices_IndexFunc_impl_Item__impl_itemAt_1.g k a0 a1_0_0 (fun z0 => some z0)
noncomputable def slices_IndexFunc_impl_Item__impl_itemAt_1.f {β : Type} (k : Nat) (a0 : List (List D)) (a1_0_0 : ByteArray) (K : Int → Option β) : Option β :=
  match slices_IndexFunc_impl_Item__impl_itemAt_1.t k a0 a1_0_0 with
  | some z0 => K z0
  | none => none
noncomputable def slices_IndexFunc_impl_Item__impl_itemAt_1.as (a0 : List (List D)) (a1_0_0 : ByteArray) : List A := [.d (.sl a0), .d (.fn 176 [[.str a1_0_0]])]
noncomputable def slices_IndexFunc_impl_Item__impl_itemAt_1.kt {β : Type} (a0 : List (List D)) (a1_0_0 : ByteArray) (K0 : List (List C) → List Out → Option β) : Int → Option β := fun z0 => K0 [[.d (.int .i64 z0)]] []
noncomputable def slices_IndexFunc_impl_Item__impl_itemAt_1.e (k : Nat) : ZQ := { modes := [(.imm, 0), (.imm, 0)], rts := [3], al := false, run := fun {β} l K => match l with | [.d (.sl a0), .d (.fn 176 [[.str a1_0_0]])] => slices_IndexFunc_impl_Item__impl_itemAt_1.f k a0 a1_0_0 (slices_IndexFunc_impl_Item__impl_itemAt_1.kt a0 a1_0_0 K) | _ => none }
noncomputable def slices_IndexFunc_impl_Item__impl_itemAt_1.E (k : Nat) : Env := fun g => bif g == 176 then some (impl_itemAt_1.e k) else none
noncomputable def slices_IndexFunc_impl_Item__impl_itemAt_1.h : ZY := ⟨fun n => bif n == 2 then ⟨[(0, .asis), (1, .asis), (7, .asis), (8, .asis)], []⟩ else ⟨[], []⟩, fun _ => none, false, []⟩
noncomputable def slices_IndexFunc_impl_Item__impl_itemAt_1.s0 (v0_0 : List (List D)) (v0_1 : ByteArray) (v0_2 : Int) (v : Int) : St :=
  match v with
  | v0_3 => ⟨[.d false (.sl v0_0), .d false (.fn 176 [[.str v0_1]]), .any, .any, .any, .any, .any, .d true (.int .i64 v0_2), .d true (.int .i64 v0_3), .any, .any, .any, .any, .any, .any, .any, .any, .any, .any], []⟩
noncomputable def slices_IndexFunc_impl_Item__impl_itemAt_1.b0 {β : Type} (k : Nat) : St → (Ex → St → Option β) → Option β := fun s K => den Try.prog (slices_IndexFunc_impl_Item__impl_itemAt_1.E k) slices_IndexFunc_impl_Item__impl_itemAt_1.h.H slices_IndexFunc_impl_Item__impl_itemAt_1.h.J k (Zad [1, 0, 1, 0, 0] (Zl Try.f116)) s K
noncomputable def slices_IndexFunc_impl_Item__impl_itemAt_1.c0 {β : Type} (k : Nat) (a0 : List (List D)) (a1_0_0 : ByteArray) (K0 : List (List C) → List Out → Option β) : Ex → St → Option β := Zae Try.prog (slices_IndexFunc_impl_Item__impl_itemAt_1.E k) slices_IndexFunc_impl_Item__impl_itemAt_1.h k [1, 0, 1, 0] (Zl Try.f116) (Zak Try.prog Try.f116 slices_IndexFunc_impl_Item__impl_itemAt_1.h (slices_IndexFunc_impl_Item__impl_itemAt_1.as a0 a1_0_0) K0)
theorem slices_IndexFunc_impl_Item__impl_itemAt_1.l0_eq {β : Type} (k : Nat) (a0 : List (List D)) (a1_0_0 : ByteArray) (K0 : List (List C) → List Out → Option β) (v0_0 : List (List D)) (v0_1 : ByteArray) (v0_2 : Int) : ∀ (kk : Nat) (v : Int), Zx (slices_IndexFunc_impl_Item__impl_itemAt_1.b0 k) (slices_IndexFunc_impl_Item__impl_itemAt_1.h.H 2) kk (slices_IndexFunc_impl_Item__impl_itemAt_1.s0 v0_0 v0_1 v0_2 v) (slices_IndexFunc_impl_Item__impl_itemAt_1.c0 k a0 a1_0_0 K0) = Z4 (slices_IndexFunc_impl_Item__impl_itemAt_1.l0 k v0_0 v0_1 v0_2 (slices_IndexFunc_impl_Item__impl_itemAt_1.kt a0 a1_0_0 K0)) kk v :=
  Z9 (slices_IndexFunc_impl_Item__impl_itemAt_1.s0 v0_0 v0_1 v0_2) _ (fun L0 v => by kernel_rfl)
noncomputable def slices_IndexFunc_impl_Item__impl_itemAt_1.m {β : Type} (k : Nat) (a0 : List (List D)) (a1_0_0 : ByteArray) (K0 : List (List C) → List Out → Option β) (F : ((List (List D)) → ByteArray → Int → Int → Option β)) : Option β :=
  (F) a0 a1_0_0 (a0.length : Int) (0)
theorem slices_IndexFunc_impl_Item__impl_itemAt_1.f_eq {β : Type} (k : Nat) (a0 : List (List D)) (a1_0_0 : ByteArray) (K0 : List (List C) → List Out → Option β) : ZJ Try.prog (slices_IndexFunc_impl_Item__impl_itemAt_1.E k) slices_IndexFunc_impl_Item__impl_itemAt_1.h k Try.f116 (slices_IndexFunc_impl_Item__impl_itemAt_1.as a0 a1_0_0) K0 = slices_IndexFunc_impl_Item__impl_itemAt_1.g k a0 a1_0_0 (slices_IndexFunc_impl_Item__impl_itemAt_1.kt a0 a1_0_0 K0) := Eq.trans (b := (slices_IndexFunc_impl_Item__impl_itemAt_1.m k a0 a1_0_0 K0) (fun (v0_0 : List (List D)) (v0_1 : ByteArray) (v0_2 : Int) (v : Int) => Zx (slices_IndexFunc_impl_Item__impl_itemAt_1.b0 k) (slices_IndexFunc_impl_Item__impl_itemAt_1.h.H 2) k (slices_IndexFunc_impl_Item__impl_itemAt_1.s0 v0_0 v0_1 v0_2 v) (slices_IndexFunc_impl_Item__impl_itemAt_1.c0 k a0 a1_0_0 K0))) (by kernel_rfl) (Eq.trans (congrArg (slices_IndexFunc_impl_Item__impl_itemAt_1.m k a0 a1_0_0 K0) (funext fun v0_0 => funext fun v0_1 => funext fun v0_2 => funext fun v => slices_IndexFunc_impl_Item__impl_itemAt_1.l0_eq k a0 a1_0_0 K0 v0_0 v0_1 v0_2 k v)) (by kernel_rfl))
noncomputable def slices_IndexFunc_impl_Item__impl_itemAt_1.dec (rs : List (List C)) (os : List Out) : Option (Int) := Zd rs fun c1 r2 => Zd c1 fun x3 l4 => cD x3 fun d5 => ZM .i64 d5 fun w0 => Ze l4 <| Ze r2 <| Ze os (some w0)
theorem slices_IndexFunc_impl_Item__impl_itemAt_1.kt_dec (a0 : List (List D)) (a1_0_0 : ByteArray) : slices_IndexFunc_impl_Item__impl_itemAt_1.kt a0 a1_0_0 slices_IndexFunc_impl_Item__impl_itemAt_1.dec = (fun z0 => some z0) := by kernel_rfl
theorem slices_IndexFunc_impl_Item__impl_itemAt_1.inj (a0 : List (List D)) (a1_0_0 : ByteArray) {rs : List (List C)} {os : List Out} {z0 : Int} (h : slices_IndexFunc_impl_Item__impl_itemAt_1.dec rs os = some z0) (ho : Zo (slices_IndexFunc_impl_Item__impl_itemAt_1.as a0 a1_0_0) os) : rs = [[.d (.int .i64 z0)]] ∧ os = [] := by
  unfold slices_IndexFunc_impl_Item__impl_itemAt_1.dec at h
  obtain ⟨c1, r2, rfl, h1⟩ := Zb h
  obtain ⟨x3, l4, rfl, h2⟩ := Zb h1
  obtain ⟨d5, rfl, h3⟩ := Zt h2
  obtain ⟨w0, rfl, h4⟩ := ZA h3
  obtain ⟨rfl, h5⟩ := Zc h4
  obtain ⟨rfl, h6⟩ := Zc h5
  obtain ⟨rfl, h7⟩ := Zc h6
  obtain rfl := Option.some.inj h7
  exact ⟨rfl, rfl⟩
theorem slices_IndexFunc_impl_Item__impl_itemAt_1.ok (k : Nat) : Zv Try.prog 116 (slices_IndexFunc_impl_Item__impl_itemAt_1.e k) := by
  refine Zu mix tyok (fn := Try.f116) (c := Zl Try.f116) Try.func116 (by kernel_rfl) (h := slices_IndexFunc_impl_Item__impl_itemAt_1.h) (k := k) (E := slices_IndexFunc_impl_Item__impl_itemAt_1.E k) (Zk (impl_itemAt_1.ok k) Zz) (by kernel_rfl) (by kernel_rfl) rfl (Zq Try.func116 (by kernel_rfl)) ?_
  intro β l K r hr
  simp only [slices_IndexFunc_impl_Item__impl_itemAt_1.e] at hr
  split at hr
  case h_2 => cases hr
  unfold slices_IndexFunc_impl_Item__impl_itemAt_1.f at hr
  split at hr
  case h_2 => cases hr
  rename_i hz
  exact ⟨_, _, hr, _, slices_IndexFunc_impl_Item__impl_itemAt_1.dec, _, (slices_IndexFunc_impl_Item__impl_itemAt_1.f_eq k _ _ slices_IndexFunc_impl_Item__impl_itemAt_1.dec).trans (by rw [slices_IndexFunc_impl_Item__impl_itemAt_1.kt_dec]; exact hz), fun rs os h ho => slices_IndexFunc_impl_Item__impl_itemAt_1.inj _ _ h ho⟩
noncomputable def impl_itemAt.g {β : Type} (k : Nat) (a0 : List (List D)) (a1 : ByteArray) (K : Int → Option β) : Option β :=
  slices_IndexFunc_impl_Item__impl_itemAt_1.f k a0 a1 (fun y23 => K y23)
noncomputable def impl_itemAt.t (k : Nat) (a0 : List (List D)) (a1 : ByteArray) : Option (Int) := impl_itemAt.g k a0 a1 (fun z0 => some z0)
noncomputable def impl_itemAt.f {β : Type} (k : Nat) (a0 : List (List D)) (a1 : ByteArray) (K : Int → Option β) : Option β :=
  match impl_itemAt.t k a0 a1 with
  | some z0 => K z0
  | none => none
noncomputable def impl_itemAt.as (a0 : List (List D)) (a1 : ByteArray) : List A := [.d (.sl a0), .d (.str a1)]
noncomputable def impl_itemAt.kt {β : Type} (a0 : List (List D)) (a1 : ByteArray) (K0 : List (List C) → List Out → Option β) : Int → Option β := fun z0 => K0 [[.d (.int .i64 z0)]] []
noncomputable def impl_itemAt.e (k : Nat) : ZQ := { modes := [(.imm, 0), (.imm, 0)], rts := [3], al := false, run := fun {β} l K => match l with | [.d (.sl a0), .d (.str a1)] => impl_itemAt.f k a0 a1 (impl_itemAt.kt a0 a1 K) | _ => none }
noncomputable def impl_itemAt.E (k : Nat) : Env := fun g => bif g == 116 then some (slices_IndexFunc_impl_Item__impl_itemAt_1.e k) else none
noncomputable def impl_itemAt.h : ZY := ⟨fun n => ⟨[], []⟩, fun _ => none, false, []⟩
theorem impl_itemAt.f_eq {β : Type} (k : Nat) (a0 : List (List D)) (a1 : ByteArray) (K0 : List (List C) → List Out → Option β) : ZJ Try.prog (impl_itemAt.E k) impl_itemAt.h k Try.f98 (impl_itemAt.as a0 a1) K0 = impl_itemAt.g k a0 a1 (impl_itemAt.kt a0 a1 K0) := by kernel_rfl
noncomputable def impl_itemAt.dec (rs : List (List C)) (os : List Out) : Option (Int) := Zd rs fun c1 r2 => Zd c1 fun x3 l4 => cD x3 fun d5 => ZM .i64 d5 fun w0 => Ze l4 <| Ze r2 <| Ze os (some w0)
theorem impl_itemAt.kt_dec (a0 : List (List D)) (a1 : ByteArray) : impl_itemAt.kt a0 a1 impl_itemAt.dec = (fun z0 => some z0) := by kernel_rfl
theorem impl_itemAt.inj (a0 : List (List D)) (a1 : ByteArray) {rs : List (List C)} {os : List Out} {z0 : Int} (h : impl_itemAt.dec rs os = some z0) (ho : Zo (impl_itemAt.as a0 a1) os) : rs = [[.d (.int .i64 z0)]] ∧ os = [] := by
  unfold impl_itemAt.dec at h
  obtain ⟨c1, r2, rfl, h1⟩ := Zb h
  obtain ⟨x3, l4, rfl, h2⟩ := Zb h1
  obtain ⟨d5, rfl, h3⟩ := Zt h2
  obtain ⟨w0, rfl, h4⟩ := ZA h3
  obtain ⟨rfl, h5⟩ := Zc h4
  obtain ⟨rfl, h6⟩ := Zc h5
  obtain ⟨rfl, h7⟩ := Zc h6
  obtain rfl := Option.some.inj h7
  exact ⟨rfl, rfl⟩
theorem impl_itemAt.ok (k : Nat) : Zv Try.prog 98 (impl_itemAt.e k) := by
  refine Zu mix tyok (fn := Try.f98) (c := Zl Try.f98) Try.func98 (by kernel_rfl) (h := impl_itemAt.h) (k := k) (E := impl_itemAt.E k) (Zk (slices_IndexFunc_impl_Item__impl_itemAt_1.ok k) Zz) (by kernel_rfl) (by kernel_rfl) rfl (Zq Try.func98 (by kernel_rfl)) ?_
  intro β l K r hr
  simp only [impl_itemAt.e] at hr
  split at hr
  case h_2 => cases hr
  unfold impl_itemAt.f at hr
  split at hr
  case h_2 => cases hr
  rename_i hz
  exact ⟨_, _, hr, _, impl_itemAt.dec, _, (impl_itemAt.f_eq k _ _ impl_itemAt.dec).trans (by rw [impl_itemAt.kt_dec]; exact hz), fun rs os h ho => impl_itemAt.inj _ _ h ho⟩
noncomputable def impl_within.g {β : Type} (k : Nat) (a0 : Int) (a1 : Int) (a2 : Int) (K : Bool → Option β) : Option β :=
  bif (decide ((a0 : Int) ≥ a1)) then (K (decide ((a0 : Int) ≤ a2))) else (K false)
noncomputable def impl_within.t (k : Nat) (a0 : Int) (a1 : Int) (a2 : Int) : Option (Bool) := impl_within.g k a0 a1 a2 (fun z0 => some z0)
noncomputable def impl_within.f {β : Type} (k : Nat) (a0 : Int) (a1 : Int) (a2 : Int) (K : Bool → Option β) : Option β :=
  match impl_within.t k a0 a1 a2 with
  | some z0 => K z0
  | none => none
noncomputable def impl_within.as (a0 : Int) (a1 : Int) (a2 : Int) : List A := [.d (.int .i64 a0), .d (.int .i64 a1), .d (.int .i64 a2)]
noncomputable def impl_within.kt {β : Type} (a0 : Int) (a1 : Int) (a2 : Int) (K0 : List (List C) → List Out → Option β) : Bool → Option β := fun z0 => K0 [[.d (.bool z0)]] []
noncomputable def impl_within.e (k : Nat) : ZQ := { modes := [(.imm, 0), (.imm, 0), (.imm, 0)], rts := [4], al := false, run := fun {β} l K => match l with | [.d (.int .i64 a0), .d (.int .i64 a1), .d (.int .i64 a2)] => impl_within.f k a0 a1 a2 (impl_within.kt a0 a1 a2 K) | _ => none }
noncomputable def impl_within.E (k : Nat) : Env := fun g => none
noncomputable def impl_within.h : ZY := ⟨fun n => ⟨[], []⟩, fun _ => none, false, []⟩
theorem impl_within.f_eq {β : Type} (k : Nat) (a0 : Int) (a1 : Int) (a2 : Int) (K0 : List (List C) → List Out → Option β) : ZJ Try.prog (impl_within.E k) impl_within.h k Try.f126 (impl_within.as a0 a1 a2) K0 = impl_within.g k a0 a1 a2 (impl_within.kt a0 a1 a2 K0) := by kernel_rfl
noncomputable def impl_within.dec (rs : List (List C)) (os : List Out) : Option (Bool) := Zd rs fun c1 r2 => Zd c1 fun x3 l4 => cD x3 fun d5 => ZaF d5 fun w0 => Ze l4 <| Ze r2 <| Ze os (some w0)
theorem impl_within.kt_dec (a0 : Int) (a1 : Int) (a2 : Int) : impl_within.kt a0 a1 a2 impl_within.dec = (fun z0 => some z0) := by kernel_rfl
theorem impl_within.inj (a0 : Int) (a1 : Int) (a2 : Int) {rs : List (List C)} {os : List Out} {z0 : Bool} (h : impl_within.dec rs os = some z0) (ho : Zo (impl_within.as a0 a1 a2) os) : rs = [[.d (.bool z0)]] ∧ os = [] := by
  unfold impl_within.dec at h
  obtain ⟨c1, r2, rfl, h1⟩ := Zb h
  obtain ⟨x3, l4, rfl, h2⟩ := Zb h1
  obtain ⟨d5, rfl, h3⟩ := Zt h2
  obtain ⟨w0, rfl, h4⟩ := Z0 h3
  obtain ⟨rfl, h5⟩ := Zc h4
  obtain ⟨rfl, h6⟩ := Zc h5
  obtain ⟨rfl, h7⟩ := Zc h6
  obtain rfl := Option.some.inj h7
  exact ⟨rfl, rfl⟩
theorem impl_within.ok (k : Nat) : Zv Try.prog 126 (impl_within.e k) := by
  refine Zu mix tyok (fn := Try.f126) (c := Zl Try.f126) Try.func126 (by kernel_rfl) (h := impl_within.h) (k := k) (E := impl_within.E k) Zz (by kernel_rfl) (by kernel_rfl) rfl (Zq Try.func126 (by kernel_rfl)) ?_
  intro β l K r hr
  simp only [impl_within.e] at hr
  split at hr
  case h_2 => cases hr
  unfold impl_within.f at hr
  split at hr
  case h_2 => cases hr
  rename_i hz
  exact ⟨_, _, hr, _, impl_within.dec, _, (impl_within.f_eq k _ _ _ impl_within.dec).trans (by rw [impl_within.kt_dec]; exact hz), fun rs os h ho => impl_within.inj _ _ _ h ho⟩
noncomputable def slices_Grow_impl_Item_nil.g {β : Type} (k : Nat) (a1 : Int) (K : (List (List C)) → Option β) : Option β :=
  bif (decide ((a1 : Int) < 0)) then none else (bif (decide (((IntKind.wrap .i64 (a1 - (IntKind.wrap .i64 (0 - 0)))) : Int) > 0)) then (ZH (0 ≤ (0 : Int) ∧ (0 : Int) ≤ (0 : Int) ∧ (0 : Int) ≤ 0) (ZH ((0 : Int) ≤ (IntKind.wrap .i64 (a1 - (IntKind.wrap .i64 (0 - 0)))) ∧ (IntKind.wrap .i64 (a1 - (IntKind.wrap .i64 (0 - 0)))) ≤ (Z6 : Int)) (ZH ((List.replicate (Int.toNat (IntKind.wrap .i64 (a1 - (IntKind.wrap .i64 (0 - 0))))) ([.d (.str (⟨#[]⟩ : ByteArray)), .d (.int .i64 0), .d (.int .i64 0)] : List C)).length ≤ Z6) (ZH (0 ≤ (0 : Int) ∧ (0 : Int) ≤ ((List.replicate (Int.toNat (IntKind.wrap .i64 (a1 - (IntKind.wrap .i64 (0 - 0))))) ([.d (.str (⟨#[]⟩ : ByteArray)), .d (.int .i64 0), .d (.int .i64 0)] : List C)).length : Int)) (K ((List.replicate (Int.toNat (IntKind.wrap .i64 (a1 - (IntKind.wrap .i64 (0 - 0))))) ([.d (.str (⟨#[]⟩ : ByteArray)), .d (.int .i64 0), .d (.int .i64 0)] : List C)).take (Int.toNat (0 : Int)))))))) else (K ([] : List (List C))))
noncomputable def slices_Grow_impl_Item_nil.t (k : Nat) (a1 : Int) : Option ((List (List C))) := slices_Grow_impl_Item_nil.g k a1 (fun z0 => some z0)
noncomputable def slices_Grow_impl_Item_nil.f {β : Type} (k : Nat) (a1 : Int) (K : (List (List C)) → Option β) : Option β :=
  match slices_Grow_impl_Item_nil.t k a1 with
  | some z0 => K z0
  | none => none
noncomputable def slices_Grow_impl_Item_nil.as (a1 : Int) : List A := [.nil, .d (.int .i64 a1)]
noncomputable def slices_Grow_impl_Item_nil.kt {β : Type} (a1 : Int) (K0 : List (List C) → List Out → Option β) : (List (List C)) → Option β := fun z0 => K0 [[.own z0]] []
noncomputable def slices_Grow_impl_Item_nil.e (k : Nat) : ZQ := { modes := [(.nil, 0), (.imm, 0)], rts := [42], al := false, run := fun {β} l K => match l with | [.nil, .d (.int .i64 a1)] => slices_Grow_impl_Item_nil.f k a1 (slices_Grow_impl_Item_nil.kt a1 K) | _ => none }
noncomputable def slices_Grow_impl_Item_nil.E (k : Nat) : Env := fun g => none
noncomputable def slices_Grow_impl_Item_nil.h : ZY := ⟨fun n => ⟨[], []⟩, fun _ => none, false, []⟩
theorem slices_Grow_impl_Item_nil.f_eq {β : Type} (k : Nat) (a1 : Int) (K0 : List (List C) → List Out → Option β) : ZJ Try.prog (slices_Grow_impl_Item_nil.E k) slices_Grow_impl_Item_nil.h k Try.f221 (slices_Grow_impl_Item_nil.as a1) K0 = slices_Grow_impl_Item_nil.g k a1 (slices_Grow_impl_Item_nil.kt a1 K0) := by kernel_rfl
noncomputable def slices_Grow_impl_Item_nil.dec (rs : List (List C)) (os : List Out) : Option ((List (List C))) := Zd rs fun c1 r2 => Zd c1 fun x3 l4 => ZaU x3 fun w0 => Ze l4 <| Ze r2 <| Ze os (some w0)
theorem slices_Grow_impl_Item_nil.kt_dec (a1 : Int) : slices_Grow_impl_Item_nil.kt a1 slices_Grow_impl_Item_nil.dec = (fun z0 => some z0) := by kernel_rfl
theorem slices_Grow_impl_Item_nil.inj (a1 : Int) {rs : List (List C)} {os : List Out} {z0 : List (List C)} (h : slices_Grow_impl_Item_nil.dec rs os = some z0) (ho : Zo (slices_Grow_impl_Item_nil.as a1) os) : rs = [[.own z0]] ∧ os = [] := by
  unfold slices_Grow_impl_Item_nil.dec at h
  obtain ⟨c1, r2, rfl, h1⟩ := Zb h
  obtain ⟨x3, l4, rfl, h2⟩ := Zb h1
  obtain ⟨w0, rfl, h3⟩ := ZN h2
  obtain ⟨rfl, h4⟩ := Zc h3
  obtain ⟨rfl, h5⟩ := Zc h4
  obtain ⟨rfl, h6⟩ := Zc h5
  obtain rfl := Option.some.inj h6
  exact ⟨rfl, rfl⟩
theorem slices_Grow_impl_Item_nil.ok (k : Nat) : Zv Try.prog 221 (slices_Grow_impl_Item_nil.e k) := by
  refine Zu mix tyok (fn := Try.f221) (c := Zl Try.f221) Try.func221 (by kernel_rfl) (h := slices_Grow_impl_Item_nil.h) (k := k) (E := slices_Grow_impl_Item_nil.E k) Zz (by kernel_rfl) (by kernel_rfl) rfl (Zq Try.func221 (by kernel_rfl)) ?_
  intro β l K r hr
  simp only [slices_Grow_impl_Item_nil.e] at hr
  split at hr
  case h_2 => cases hr
  unfold slices_Grow_impl_Item_nil.f at hr
  split at hr
  case h_2 => cases hr
  rename_i hz
  exact ⟨_, _, hr, _, slices_Grow_impl_Item_nil.dec, _, (slices_Grow_impl_Item_nil.f_eq k _ slices_Grow_impl_Item_nil.dec).trans (by rw [slices_Grow_impl_Item_nil.kt_dec]; exact hz), fun rs os h ho => slices_Grow_impl_Item_nil.inj _ h ho⟩
noncomputable def slices_Concat_impl_Item.l1 {β : Type} (k : Nat) (v1_0 : List (List D)) (v1_1 : Int) (K : (List (List C)) → Option β) (L1 : (Int × (List (List C))) → Option β) (v : Int × (List (List C))) : Option β :=
  match v with
  | (v1_2, v1_3) => bif (decide ((v1_2 : Int) < v1_1)) then (ZX v1_0 v1_2 fun c23 => Zd c23 fun d24 r25 => dSl d24 fun x26 => Ze r25 (ZH (Zcm 3 x26) (ZH (v1_3.length + (x26.map (·.map C.d)).length ≤ Z6) (L1 (IntKind.wrap .i64 (v1_2 + 1), v1_3 ++ (x26.map (·.map C.d))))))) else (K v1_3)
noncomputable def slices_Concat_impl_Item.l0 {β : Type} (k : Nat) (v0_0 : List (List D)) (v0_2 : List (List D)) (v0_3 : Int) (K : (List (List C)) → Option β) (L0 : (Int × Int) → Option β) (v : Int × Int) : Option β :=
  match v with
  | (v0_1, v0_4) => bif (decide ((v0_4 : Int) < v0_3)) then (ZX v0_2 v0_4 fun c14 => Zd c14 fun d15 r16 => dSl d15 fun x17 => Ze r16 (bif (decide (((IntKind.wrap .i64 (v0_1 + (x17.length : Int))) : Int) < 0)) then none else (L0 (IntKind.wrap .i64 (v0_1 + (x17.length : Int)), IntKind.wrap .i64 (v0_4 + 1))))) else (slices_Grow_impl_Item_nil.f k v0_1 (fun y18 => Z4 (slices_Concat_impl_Item.l1 k v0_0 (v0_0.length : Int) K) k (0, y18)))
noncomputable def slices_Concat_impl_Item.g {β : Type} (k : Nat) (a0 : List (List D)) (K : (List (List C)) → Option β) : Option β :=
  Z4 (slices_Concat_impl_Item.l0 k a0 a0 (a0.length : Int) K) k (0, 0)
noncomputable def slices_Concat_impl_Item.t (k : Nat) (a0 : List (List D)) : Option ((List (List C))) := slices_Concat_impl_Item.g k a0 (fun z0 => some z0)
noncomputable def slices_Concat_impl_Item.f {β : Type} (k : Nat) (a0 : List (List D)) (K : (List (List C)) → Option β) : Option β :=
  match slices_Concat_impl_Item.t k a0 with
  | some z0 => K z0
  | none => none
noncomputable def slices_Concat_impl_Item.as (a0 : List (List D)) : List A := [.d (.sl a0)]
noncomputable def slices_Concat_impl_Item.kt {β : Type} (a0 : List (List D)) (K0 : List (List C) → List Out → Option β) : (List (List C)) → Option β := fun z0 => K0 [[.own z0]] []
noncomputable def slices_Concat_impl_Item.e (k : Nat) : ZQ := { modes := [(.imm, 0)], rts := [42], al := false, run := fun {β} l K => match l with | [.d (.sl a0)] => slices_Concat_impl_Item.f k a0 (slices_Concat_impl_Item.kt a0 K) | _ => none }
noncomputable def slices_Concat_impl_Item.E (k : Nat) : Env := fun g => bif g == 221 then some (slices_Grow_impl_Item_nil.e k) else none
noncomputable def slices_Concat_impl_Item.h : ZY := ⟨fun n => bif n == 11 then ⟨[(6, .asis), (25, .asis), (26, .asis), (27, .asis)], []⟩ else bif n == 3 then ⟨[(0, .asis), (3, .asis), (9, .asis), (10, .asis), (11, .asis)], []⟩ else ⟨[], []⟩, fun _ => none, false, []⟩
noncomputable def slices_Concat_impl_Item.s0 (v0_0 : List (List D)) (v0_2 : List (List D)) (v0_3 : Int) (v : Int × Int) : St :=
  match v with
  | (v0_1, v0_4) => ⟨[.d false (.sl v0_0), .any, .any, .d true (.int .i64 v0_1), .any, .any, .any, .any, .any, .d false (.sl v0_2), .d true (.int .i64 v0_3), .d true (.int .i64 v0_4), .any, .any, .any, .any, .any, .any, .any, .any, .any, .any, .any, .any, .any, .any, .any, .any, .any, .any, .any, .any, .any, .any, .any, .any], []⟩
noncomputable def slices_Concat_impl_Item.b0 {β : Type} (k : Nat) : St → (Ex → St → Option β) → Option β := fun s K => den Try.prog (slices_Concat_impl_Item.E k) slices_Concat_impl_Item.h.H slices_Concat_impl_Item.h.J k (Zad [1, 1, 0, 1, 0, 0] (Zl Try.f174)) s K
noncomputable def slices_Concat_impl_Item.c0 {β : Type} (k : Nat) (a0 : List (List D)) (K0 : List (List C) → List Out → Option β) : Ex → St → Option β := Zae Try.prog (slices_Concat_impl_Item.E k) slices_Concat_impl_Item.h k [1, 1, 0, 1, 0] (Zl Try.f174) (Zak Try.prog Try.f174 slices_Concat_impl_Item.h (slices_Concat_impl_Item.as a0) K0)
noncomputable def slices_Concat_impl_Item.s1 (v1_0 : List (List D)) (v1_1 : Int) (v : Int × (List (List C))) : St :=
  match v with
  | (v1_2, v1_3) => ⟨[.any, .any, .any, .any, .any, .any, .row 0, .any, .any, .any, .any, .any, .any, .any, .any, .any, .any, .any, .any, .any, .any, .any, .any, .any, .any, .d false (.sl v1_0), .d true (.int .i64 v1_1), .d true (.int .i64 v1_2), .any, .any, .any, .any, .any, .any, .any, .any], [.row none true 42 v1_3]⟩
noncomputable def slices_Concat_impl_Item.b1 {β : Type} (k : Nat) : St → (Ex → St → Option β) → Option β := fun s K => den Try.prog (slices_Concat_impl_Item.E k) slices_Concat_impl_Item.h.H slices_Concat_impl_Item.h.J k (Zad [1, 1, 1, 1, 0, 1, 0, 0] (Zl Try.f174)) s K
noncomputable def slices_Concat_impl_Item.c1 {β : Type} (k : Nat) (a0 : List (List D)) (K0 : List (List C) → List Out → Option β) : Ex → St → Option β := Zae Try.prog (slices_Concat_impl_Item.E k) slices_Concat_impl_Item.h k [1, 1, 1, 1, 0, 1, 0] (Zl Try.f174) (Zak Try.prog Try.f174 slices_Concat_impl_Item.h (slices_Concat_impl_Item.as a0) K0)
theorem slices_Concat_impl_Item.l1_eq {β : Type} (k : Nat) (a0 : List (List D)) (K0 : List (List C) → List Out → Option β) (v1_0 : List (List D)) (v1_1 : Int) : ∀ (kk : Nat) (v : Int × (List (List C))), Zx (slices_Concat_impl_Item.b1 k) (slices_Concat_impl_Item.h.H 11) kk (slices_Concat_impl_Item.s1 v1_0 v1_1 v) (slices_Concat_impl_Item.c1 k a0 K0) = Z4 (slices_Concat_impl_Item.l1 k v1_0 v1_1 (slices_Concat_impl_Item.kt a0 K0)) kk v :=
  Z9 (slices_Concat_impl_Item.s1 v1_0 v1_1) _ (fun L1 v => by obtain ⟨v1_2, v1_3⟩ := v; kernel_rfl)
noncomputable def slices_Concat_impl_Item.m0 {β : Type} (k : Nat) (a0 : List (List D)) (K0 : List (List C) → List Out → Option β) (v0_0 : List (List D)) (v0_2 : List (List D)) (v0_3 : Int) (L0 : St → Option β) (v : Int × Int) (F : ((List (List D)) → Int → (Int × (List (List C))) → Option β)) : Option β :=
  match v with | (v0_1, v0_4) => bif (decide ((v0_4 : Int) < v0_3)) then (ZX v0_2 v0_4 fun c14 => Zd c14 fun d15 r16 => dSl d15 fun x17 => Ze r16 (bif (decide (((IntKind.wrap .i64 (v0_1 + (x17.length : Int))) : Int) < 0)) then none else (L0 (slices_Concat_impl_Item.s0 v0_0 v0_2 v0_3 (IntKind.wrap .i64 (v0_1 + (x17.length : Int)), IntKind.wrap .i64 (v0_4 + 1)))))) else (slices_Grow_impl_Item_nil.f k v0_1 (fun y18 => (F) v0_0 (v0_0.length : Int) (0, y18)))
theorem slices_Concat_impl_Item.l0_eq {β : Type} (k : Nat) (a0 : List (List D)) (K0 : List (List C) → List Out → Option β) (v0_0 : List (List D)) (v0_2 : List (List D)) (v0_3 : Int) : ∀ (kk : Nat) (v : Int × Int), Zx (slices_Concat_impl_Item.b0 k) (slices_Concat_impl_Item.h.H 3) kk (slices_Concat_impl_Item.s0 v0_0 v0_2 v0_3 v) (slices_Concat_impl_Item.c0 k a0 K0) = Z4 (slices_Concat_impl_Item.l0 k v0_0 v0_2 v0_3 (slices_Concat_impl_Item.kt a0 K0)) kk v :=
  Z9 (slices_Concat_impl_Item.s0 v0_0 v0_2 v0_3) _ (fun L0 v => by obtain ⟨v0_1, v0_4⟩ := v; exact Eq.trans (b := (slices_Concat_impl_Item.m0 k a0 K0 v0_0 v0_2 v0_3 L0 (v0_1, v0_4)) (fun (v1_0 : List (List D)) (v1_1 : Int) (v : Int × (List (List C))) => Zx (slices_Concat_impl_Item.b1 k) (slices_Concat_impl_Item.h.H 11) k (slices_Concat_impl_Item.s1 v1_0 v1_1 v) (slices_Concat_impl_Item.c1 k a0 K0))) (by kernel_rfl) (Eq.trans (congrArg (slices_Concat_impl_Item.m0 k a0 K0 v0_0 v0_2 v0_3 L0 (v0_1, v0_4)) (funext fun v1_0 => funext fun v1_1 => funext fun v => slices_Concat_impl_Item.l1_eq k a0 K0 v1_0 v1_1 k v)) (by kernel_rfl)))
noncomputable def slices_Concat_impl_Item.m {β : Type} (k : Nat) (a0 : List (List D)) (K0 : List (List C) → List Out → Option β) (F : ((List (List D)) → (List (List D)) → Int → (Int × Int) → Option β)) : Option β :=
  (F) a0 a0 (a0.length : Int) (0, 0)
theorem slices_Concat_impl_Item.f_eq {β : Type} (k : Nat) (a0 : List (List D)) (K0 : List (List C) → List Out → Option β) : ZJ Try.prog (slices_Concat_impl_Item.E k) slices_Concat_impl_Item.h k Try.f174 (slices_Concat_impl_Item.as a0) K0 = slices_Concat_impl_Item.g k a0 (slices_Concat_impl_Item.kt a0 K0) := Eq.trans (b := (slices_Concat_impl_Item.m k a0 K0) (fun (v0_0 : List (List D)) (v0_2 : List (List D)) (v0_3 : Int) (v : Int × Int) => Zx (slices_Concat_impl_Item.b0 k) (slices_Concat_impl_Item.h.H 3) k (slices_Concat_impl_Item.s0 v0_0 v0_2 v0_3 v) (slices_Concat_impl_Item.c0 k a0 K0))) (by kernel_rfl) (Eq.trans (congrArg (slices_Concat_impl_Item.m k a0 K0) (funext fun v0_0 => funext fun v0_2 => funext fun v0_3 => funext fun v => slices_Concat_impl_Item.l0_eq k a0 K0 v0_0 v0_2 v0_3 k v)) (by kernel_rfl))
noncomputable def slices_Concat_impl_Item.dec (rs : List (List C)) (os : List Out) : Option ((List (List C))) := Zd rs fun c1 r2 => Zd c1 fun x3 l4 => ZaU x3 fun w0 => Ze l4 <| Ze r2 <| Ze os (some w0)
theorem slices_Concat_impl_Item.kt_dec (a0 : List (List D)) : slices_Concat_impl_Item.kt a0 slices_Concat_impl_Item.dec = (fun z0 => some z0) := by kernel_rfl
theorem slices_Concat_impl_Item.inj (a0 : List (List D)) {rs : List (List C)} {os : List Out} {z0 : List (List C)} (h : slices_Concat_impl_Item.dec rs os = some z0) (ho : Zo (slices_Concat_impl_Item.as a0) os) : rs = [[.own z0]] ∧ os = [] := by
  unfold slices_Concat_impl_Item.dec at h
  obtain ⟨c1, r2, rfl, h1⟩ := Zb h
  obtain ⟨x3, l4, rfl, h2⟩ := Zb h1
  obtain ⟨w0, rfl, h3⟩ := ZN h2
  obtain ⟨rfl, h4⟩ := Zc h3
  obtain ⟨rfl, h5⟩ := Zc h4
  obtain ⟨rfl, h6⟩ := Zc h5
  obtain rfl := Option.some.inj h6
  exact ⟨rfl, rfl⟩
theorem slices_Concat_impl_Item.ok (k : Nat) : Zv Try.prog 174 (slices_Concat_impl_Item.e k) := by
  refine Zu mix tyok (fn := Try.f174) (c := Zl Try.f174) Try.func174 (by kernel_rfl) (h := slices_Concat_impl_Item.h) (k := k) (E := slices_Concat_impl_Item.E k) (Zk (slices_Grow_impl_Item_nil.ok k) Zz) (by kernel_rfl) (by kernel_rfl) rfl (Zq Try.func174 (by kernel_rfl)) ?_
  intro β l K r hr
  simp only [slices_Concat_impl_Item.e] at hr
  split at hr
  case h_2 => cases hr
  unfold slices_Concat_impl_Item.f at hr
  split at hr
  case h_2 => cases hr
  rename_i hz
  exact ⟨_, _, hr, _, slices_Concat_impl_Item.dec, _, (slices_Concat_impl_Item.f_eq k _ slices_Concat_impl_Item.dec).trans (by rw [slices_Concat_impl_Item.kt_dec]; exact hz), fun rs os h ho => slices_Concat_impl_Item.inj _ h ho⟩
noncomputable def impl_NameOk.l0 {β : Type} (k : Nat) (v0_0 : ByteArray) (v0_1 : Int) (K : Bool → Option β) (L0 : Int → Option β) (v : Int) : Option β :=
  match v with
  | v0_2 => bif (decide ((v0_2 : Int) < v0_1)) then (atStr v0_0 v0_2 fun b5 => bif (decide ((b5 : Int) < 97)) then (bif (decide ((b5 : Int) < 48)) then (bif ((b5 : Int) != 45) then (K false) else (L0 (IntKind.wrap .i64 (v0_2 + 1)))) else (bif (decide ((b5 : Int) > 57)) then (bif ((b5 : Int) != 45) then (K false) else (L0 (IntKind.wrap .i64 (v0_2 + 1)))) else (L0 (IntKind.wrap .i64 (v0_2 + 1))))) else (bif (decide ((b5 : Int) > 122)) then (bif (decide ((b5 : Int) < 48)) then (bif ((b5 : Int) != 45) then (K false) else (L0 (IntKind.wrap .i64 (v0_2 + 1)))) else (bif (decide ((b5 : Int) > 57)) then (bif ((b5 : Int) != 45) then (K false) else (L0 (IntKind.wrap .i64 (v0_2 + 1)))) else (L0 (IntKind.wrap .i64 (v0_2 + 1))))) else (L0 (IntKind.wrap .i64 (v0_2 + 1))))) else (impl_within.f k (v0_0.size : Int) 1 20 (fun y6 => bif y6 then (atStr v0_0 0 fun b7 => bif ((b7 : Int) != 45) then (atStr v0_0 (IntKind.wrap .i64 ((v0_0.size : Int) - 1)) fun b8 => K ((b8 : Int) != 45)) else (K false)) else (K false)))
noncomputable def impl_NameOk.g {β : Type} (k : Nat) (a0 : ByteArray) (K : Bool → Option β) : Option β :=
  Z4 (impl_NameOk.l0 k a0 (a0.size : Int) K) k (0)
noncomputable def impl_NameOk.t (k : Nat) (a0 : ByteArray) : Option (Bool) := impl_NameOk.g k a0 (fun z0 => some z0)
noncomputable def impl_NameOk.f {β : Type} (k : Nat) (a0 : ByteArray) (K : Bool → Option β) : Option β :=
  match impl_NameOk.t k a0 with
  | some z0 => K z0
  | none => none
noncomputable def impl_NameOk.as (a0 : ByteArray) : List A := [.d (.str a0)]
noncomputable def impl_NameOk.kt {β : Type} (a0 : ByteArray) (K0 : List (List C) → List Out → Option β) : Bool → Option β := fun z0 => K0 [[.d (.bool z0)]] []
noncomputable def impl_NameOk.e (k : Nat) : ZQ := { modes := [(.imm, 0)], rts := [4], al := false, run := fun {β} l K => match l with | [.d (.str a0)] => impl_NameOk.f k a0 (impl_NameOk.kt a0 K) | _ => none }
noncomputable def impl_NameOk.E (k : Nat) : Env := fun g => bif g == 126 then some (impl_within.e k) else none
noncomputable def impl_NameOk.h : ZY := ⟨fun n => bif n == 2 then ⟨[(0, .asis), (6, .asis), (7, .asis)], []⟩ else ⟨[], []⟩, fun _ => none, false, []⟩
noncomputable def impl_NameOk.s0 (v0_0 : ByteArray) (v0_1 : Int) (v : Int) : St :=
  match v with
  | v0_2 => ⟨[.d false (.str v0_0), .any, .any, .any, .any, .any, .d true (.int .i64 v0_1), .d true (.int .i64 v0_2), .any, .any, .any, .any, .any, .any, .any, .any, .any, .any, .any, .any, .any, .any, .any, .any, .any, .any, .any, .any, .any, .any, .any, .any, .any, .any, .any, .any, .any, .any, .any, .any, .any, .any, .any, .any, .any, .any, .any, .any], []⟩
noncomputable def impl_NameOk.b0 {β : Type} (k : Nat) : St → (Ex → St → Option β) → Option β := fun s K => den Try.prog (impl_NameOk.E k) impl_NameOk.h.H impl_NameOk.h.J k (Zad [1, 0, 1, 0, 0] (Zl Try.f97)) s K
noncomputable def impl_NameOk.c0 {β : Type} (k : Nat) (a0 : ByteArray) (K0 : List (List C) → List Out → Option β) : Ex → St → Option β := Zae Try.prog (impl_NameOk.E k) impl_NameOk.h k [1, 0, 1, 0] (Zl Try.f97) (Zak Try.prog Try.f97 impl_NameOk.h (impl_NameOk.as a0) K0)
theorem impl_NameOk.l0_eq {β : Type} (k : Nat) (a0 : ByteArray) (K0 : List (List C) → List Out → Option β) (v0_0 : ByteArray) (v0_1 : Int) : ∀ (kk : Nat) (v : Int), Zx (impl_NameOk.b0 k) (impl_NameOk.h.H 2) kk (impl_NameOk.s0 v0_0 v0_1 v) (impl_NameOk.c0 k a0 K0) = Z4 (impl_NameOk.l0 k v0_0 v0_1 (impl_NameOk.kt a0 K0)) kk v :=
  Z9 (impl_NameOk.s0 v0_0 v0_1) _ (fun L0 v => by kernel_rfl)
noncomputable def impl_NameOk.m {β : Type} (k : Nat) (a0 : ByteArray) (K0 : List (List C) → List Out → Option β) (F : (ByteArray → Int → Int → Option β)) : Option β :=
  (F) a0 (a0.size : Int) (0)
theorem impl_NameOk.f_eq {β : Type} (k : Nat) (a0 : ByteArray) (K0 : List (List C) → List Out → Option β) : ZJ Try.prog (impl_NameOk.E k) impl_NameOk.h k Try.f97 (impl_NameOk.as a0) K0 = impl_NameOk.g k a0 (impl_NameOk.kt a0 K0) := Eq.trans (b := (impl_NameOk.m k a0 K0) (fun (v0_0 : ByteArray) (v0_1 : Int) (v : Int) => Zx (impl_NameOk.b0 k) (impl_NameOk.h.H 2) k (impl_NameOk.s0 v0_0 v0_1 v) (impl_NameOk.c0 k a0 K0))) (by kernel_rfl) (Eq.trans (congrArg (impl_NameOk.m k a0 K0) (funext fun v0_0 => funext fun v0_1 => funext fun v => impl_NameOk.l0_eq k a0 K0 v0_0 v0_1 k v)) (by kernel_rfl))
noncomputable def impl_NameOk.dec (rs : List (List C)) (os : List Out) : Option (Bool) := Zd rs fun c1 r2 => Zd c1 fun x3 l4 => cD x3 fun d5 => ZaF d5 fun w0 => Ze l4 <| Ze r2 <| Ze os (some w0)
theorem impl_NameOk.kt_dec (a0 : ByteArray) : impl_NameOk.kt a0 impl_NameOk.dec = (fun z0 => some z0) := by kernel_rfl
theorem impl_NameOk.inj (a0 : ByteArray) {rs : List (List C)} {os : List Out} {z0 : Bool} (h : impl_NameOk.dec rs os = some z0) (ho : Zo (impl_NameOk.as a0) os) : rs = [[.d (.bool z0)]] ∧ os = [] := by
  unfold impl_NameOk.dec at h
  obtain ⟨c1, r2, rfl, h1⟩ := Zb h
  obtain ⟨x3, l4, rfl, h2⟩ := Zb h1
  obtain ⟨d5, rfl, h3⟩ := Zt h2
  obtain ⟨w0, rfl, h4⟩ := Z0 h3
  obtain ⟨rfl, h5⟩ := Zc h4
  obtain ⟨rfl, h6⟩ := Zc h5
  obtain ⟨rfl, h7⟩ := Zc h6
  obtain rfl := Option.some.inj h7
  exact ⟨rfl, rfl⟩
theorem impl_NameOk.ok (k : Nat) : Zv Try.prog 97 (impl_NameOk.e k) := by
  refine Zu mix tyok (fn := Try.f97) (c := Zl Try.f97) Try.func97 (by kernel_rfl) (h := impl_NameOk.h) (k := k) (E := impl_NameOk.E k) (Zk (impl_within.ok k) Zz) (by kernel_rfl) (by kernel_rfl) rfl (Zq Try.func97 (by kernel_rfl)) ?_
  intro β l K r hr
  simp only [impl_NameOk.e] at hr
  split at hr
  case h_2 => cases hr
  unfold impl_NameOk.f at hr
  split at hr
  case h_2 => cases hr
  rename_i hz
  exact ⟨_, _, hr, _, impl_NameOk.dec, _, (impl_NameOk.f_eq k _ impl_NameOk.dec).trans (by rw [impl_NameOk.kt_dec]; exact hz), fun rs os h ho => impl_NameOk.inj _ h ho⟩
noncomputable def slices_Index_string.l0 {β : Type} (k : Nat) (v0_0 : List (List D)) (v0_1 : ByteArray) (v0_2 : Int) (K : Int → Option β) (L0 : Int → Option β) (v : Int) : Option β :=
  match v with
  | v0_3 => bif (decide ((v0_3 : Int) < v0_2)) then (ZX v0_0 v0_3 fun c5 => Zd c5 fun d6 r7 => Zan d6 fun x8 => Ze r7 (bif (strEq v0_1 x8) then (K v0_3) else (L0 (IntKind.wrap .i64 (v0_3 + 1))))) else (K (-1))
noncomputable def slices_Index_string.g {β : Type} (k : Nat) (a0 : List (List D)) (a1 : ByteArray) (K : Int → Option β) : Option β :=
  Z4 (slices_Index_string.l0 k a0 a1 (a0.length : Int) K) k (0)
noncomputable def slices_Index_string.t (k : Nat) (a0 : List (List D)) (a1 : ByteArray) : Option (Int) := slices_Index_string.g k a0 a1 (fun z0 => some z0)
noncomputable def slices_Index_string.f {β : Type} (k : Nat) (a0 : List (List D)) (a1 : ByteArray) (K : Int → Option β) : Option β :=
  match slices_Index_string.t k a0 a1 with
  | some z0 => K z0
  | none => none
noncomputable def slices_Index_string.as (a0 : List (List D)) (a1 : ByteArray) : List A := [.d (.sl a0), .d (.str a1)]
noncomputable def slices_Index_string.kt {β : Type} (a0 : List (List D)) (a1 : ByteArray) (K0 : List (List C) → List Out → Option β) : Int → Option β := fun z0 => K0 [[.d (.int .i64 z0)]] []
noncomputable def slices_Index_string.e (k : Nat) : ZQ := { modes := [(.imm, 0), (.imm, 0)], rts := [3], al := false, run := fun {β} l K => match l with | [.d (.sl a0), .d (.str a1)] => slices_Index_string.f k a0 a1 (slices_Index_string.kt a0 a1 K) | _ => none }
noncomputable def slices_Index_string.E (k : Nat) : Env := fun g => none
noncomputable def slices_Index_string.h : ZY := ⟨fun n => bif n == 2 then ⟨[(0, .asis), (1, .asis), (7, .asis), (8, .asis)], []⟩ else ⟨[], []⟩, fun _ => none, false, []⟩
noncomputable def slices_Index_string.s0 (v0_0 : List (List D)) (v0_1 : ByteArray) (v0_2 : Int) (v : Int) : St :=
  match v with
  | v0_3 => ⟨[.d false (.sl v0_0), .d false (.str v0_1), .any, .any, .any, .any, .any, .d true (.int .i64 v0_2), .d true (.int .i64 v0_3), .any, .any, .any, .any, .any, .any, .any, .any, .any, .any], []⟩
noncomputable def slices_Index_string.b0 {β : Type} (k : Nat) : St → (Ex → St → Option β) → Option β := fun s K => den Try.prog (slices_Index_string.E k) slices_Index_string.h.H slices_Index_string.h.J k (Zad [1, 0, 1, 0, 0] (Zl Try.f177)) s K
noncomputable def slices_Index_string.c0 {β : Type} (k : Nat) (a0 : List (List D)) (a1 : ByteArray) (K0 : List (List C) → List Out → Option β) : Ex → St → Option β := Zae Try.prog (slices_Index_string.E k) slices_Index_string.h k [1, 0, 1, 0] (Zl Try.f177) (Zak Try.prog Try.f177 slices_Index_string.h (slices_Index_string.as a0 a1) K0)
theorem slices_Index_string.l0_eq {β : Type} (k : Nat) (a0 : List (List D)) (a1 : ByteArray) (K0 : List (List C) → List Out → Option β) (v0_0 : List (List D)) (v0_1 : ByteArray) (v0_2 : Int) : ∀ (kk : Nat) (v : Int), Zx (slices_Index_string.b0 k) (slices_Index_string.h.H 2) kk (slices_Index_string.s0 v0_0 v0_1 v0_2 v) (slices_Index_string.c0 k a0 a1 K0) = Z4 (slices_Index_string.l0 k v0_0 v0_1 v0_2 (slices_Index_string.kt a0 a1 K0)) kk v :=
  Z9 (slices_Index_string.s0 v0_0 v0_1 v0_2) _ (fun L0 v => by kernel_rfl)
noncomputable def slices_Index_string.m {β : Type} (k : Nat) (a0 : List (List D)) (a1 : ByteArray) (K0 : List (List C) → List Out → Option β) (F : ((List (List D)) → ByteArray → Int → Int → Option β)) : Option β :=
  (F) a0 a1 (a0.length : Int) (0)
theorem slices_Index_string.f_eq {β : Type} (k : Nat) (a0 : List (List D)) (a1 : ByteArray) (K0 : List (List C) → List Out → Option β) : ZJ Try.prog (slices_Index_string.E k) slices_Index_string.h k Try.f177 (slices_Index_string.as a0 a1) K0 = slices_Index_string.g k a0 a1 (slices_Index_string.kt a0 a1 K0) := Eq.trans (b := (slices_Index_string.m k a0 a1 K0) (fun (v0_0 : List (List D)) (v0_1 : ByteArray) (v0_2 : Int) (v : Int) => Zx (slices_Index_string.b0 k) (slices_Index_string.h.H 2) k (slices_Index_string.s0 v0_0 v0_1 v0_2 v) (slices_Index_string.c0 k a0 a1 K0))) (by kernel_rfl) (Eq.trans (congrArg (slices_Index_string.m k a0 a1 K0) (funext fun v0_0 => funext fun v0_1 => funext fun v0_2 => funext fun v => slices_Index_string.l0_eq k a0 a1 K0 v0_0 v0_1 v0_2 k v)) (by kernel_rfl))
noncomputable def slices_Index_string.dec (rs : List (List C)) (os : List Out) : Option (Int) := Zd rs fun c1 r2 => Zd c1 fun x3 l4 => cD x3 fun d5 => ZM .i64 d5 fun w0 => Ze l4 <| Ze r2 <| Ze os (some w0)
theorem slices_Index_string.kt_dec (a0 : List (List D)) (a1 : ByteArray) : slices_Index_string.kt a0 a1 slices_Index_string.dec = (fun z0 => some z0) := by kernel_rfl
theorem slices_Index_string.inj (a0 : List (List D)) (a1 : ByteArray) {rs : List (List C)} {os : List Out} {z0 : Int} (h : slices_Index_string.dec rs os = some z0) (ho : Zo (slices_Index_string.as a0 a1) os) : rs = [[.d (.int .i64 z0)]] ∧ os = [] := by
  unfold slices_Index_string.dec at h
  obtain ⟨c1, r2, rfl, h1⟩ := Zb h
  obtain ⟨x3, l4, rfl, h2⟩ := Zb h1
  obtain ⟨d5, rfl, h3⟩ := Zt h2
  obtain ⟨w0, rfl, h4⟩ := ZA h3
  obtain ⟨rfl, h5⟩ := Zc h4
  obtain ⟨rfl, h6⟩ := Zc h5
  obtain ⟨rfl, h7⟩ := Zc h6
  obtain rfl := Option.some.inj h7
  exact ⟨rfl, rfl⟩
theorem slices_Index_string.ok (k : Nat) : Zv Try.prog 177 (slices_Index_string.e k) := by
  refine Zu mix tyok (fn := Try.f177) (c := Zl Try.f177) Try.func177 (by kernel_rfl) (h := slices_Index_string.h) (k := k) (E := slices_Index_string.E k) Zz (by kernel_rfl) (by kernel_rfl) rfl (Zq Try.func177 (by kernel_rfl)) ?_
  intro β l K r hr
  simp only [slices_Index_string.e] at hr
  split at hr
  case h_2 => cases hr
  unfold slices_Index_string.f at hr
  split at hr
  case h_2 => cases hr
  rename_i hz
  exact ⟨_, _, hr, _, slices_Index_string.dec, _, (slices_Index_string.f_eq k _ _ slices_Index_string.dec).trans (by rw [slices_Index_string.kt_dec]; exact hz), fun rs os h ho => slices_Index_string.inj _ _ h ho⟩
noncomputable def slices_Contains_string.g {β : Type} (k : Nat) (a0 : List (List D)) (a1 : ByteArray) (K : Bool → Option β) : Option β :=
  slices_Index_string.f k a0 a1 (fun y9 => K (decide ((y9 : Int) ≥ 0)))
noncomputable def slices_Contains_string.t (k : Nat) (a0 : List (List D)) (a1 : ByteArray) : Option (Bool) := slices_Contains_string.g k a0 a1 (fun z0 => some z0)
noncomputable def slices_Contains_string.f {β : Type} (k : Nat) (a0 : List (List D)) (a1 : ByteArray) (K : Bool → Option β) : Option β :=
  match slices_Contains_string.t k a0 a1 with
  | some z0 => K z0
  | none => none
noncomputable def slices_Contains_string.as (a0 : List (List D)) (a1 : ByteArray) : List A := [.d (.sl a0), .d (.str a1)]
noncomputable def slices_Contains_string.kt {β : Type} (a0 : List (List D)) (a1 : ByteArray) (K0 : List (List C) → List Out → Option β) : Bool → Option β := fun z0 => K0 [[.d (.bool z0)]] []
noncomputable def slices_Contains_string.e (k : Nat) : ZQ := { modes := [(.imm, 0), (.imm, 0)], rts := [4], al := false, run := fun {β} l K => match l with | [.d (.sl a0), .d (.str a1)] => slices_Contains_string.f k a0 a1 (slices_Contains_string.kt a0 a1 K) | _ => none }
noncomputable def slices_Contains_string.E (k : Nat) : Env := fun g => bif g == 177 then some (slices_Index_string.e k) else none
noncomputable def slices_Contains_string.h : ZY := ⟨fun n => ⟨[], []⟩, fun _ => none, false, []⟩
theorem slices_Contains_string.f_eq {β : Type} (k : Nat) (a0 : List (List D)) (a1 : ByteArray) (K0 : List (List C) → List Out → Option β) : ZJ Try.prog (slices_Contains_string.E k) slices_Contains_string.h k Try.f99 (slices_Contains_string.as a0 a1) K0 = slices_Contains_string.g k a0 a1 (slices_Contains_string.kt a0 a1 K0) := by kernel_rfl
noncomputable def slices_Contains_string.dec (rs : List (List C)) (os : List Out) : Option (Bool) := Zd rs fun c1 r2 => Zd c1 fun x3 l4 => cD x3 fun d5 => ZaF d5 fun w0 => Ze l4 <| Ze r2 <| Ze os (some w0)
theorem slices_Contains_string.kt_dec (a0 : List (List D)) (a1 : ByteArray) : slices_Contains_string.kt a0 a1 slices_Contains_string.dec = (fun z0 => some z0) := by kernel_rfl
theorem slices_Contains_string.inj (a0 : List (List D)) (a1 : ByteArray) {rs : List (List C)} {os : List Out} {z0 : Bool} (h : slices_Contains_string.dec rs os = some z0) (ho : Zo (slices_Contains_string.as a0 a1) os) : rs = [[.d (.bool z0)]] ∧ os = [] := by
  unfold slices_Contains_string.dec at h
  obtain ⟨c1, r2, rfl, h1⟩ := Zb h
  obtain ⟨x3, l4, rfl, h2⟩ := Zb h1
  obtain ⟨d5, rfl, h3⟩ := Zt h2
  obtain ⟨w0, rfl, h4⟩ := Z0 h3
  obtain ⟨rfl, h5⟩ := Zc h4
  obtain ⟨rfl, h6⟩ := Zc h5
  obtain ⟨rfl, h7⟩ := Zc h6
  obtain rfl := Option.some.inj h7
  exact ⟨rfl, rfl⟩
theorem slices_Contains_string.ok (k : Nat) : Zv Try.prog 99 (slices_Contains_string.e k) := by
  refine Zu mix tyok (fn := Try.f99) (c := Zl Try.f99) Try.func99 (by kernel_rfl) (h := slices_Contains_string.h) (k := k) (E := slices_Contains_string.E k) (Zk (slices_Index_string.ok k) Zz) (by kernel_rfl) (by kernel_rfl) rfl (Zq Try.func99 (by kernel_rfl)) ?_
  intro β l K r hr
  simp only [slices_Contains_string.e] at hr
  split at hr
  case h_2 => cases hr
  unfold slices_Contains_string.f at hr
  split at hr
  case h_2 => cases hr
  rename_i hz
  exact ⟨_, _, hr, _, slices_Contains_string.dec, _, (slices_Contains_string.f_eq k _ _ slices_Contains_string.dec).trans (by rw [slices_Contains_string.kt_dec]; exact hz), fun rs os h ho => slices_Contains_string.inj _ _ h ho⟩
noncomputable def impl_QueueOk.l1 {β : Type} (k : Nat) (v1_0 : List (List D)) (v1_1 : Int) (v1_3 : List (List D)) (v1_4 : List (List D)) (v1_5 : List (List D)) (v1_6 : Int) (K : Bool → Option β) (L1 : Int → Option β) (v : Int) : Option β :=
  match v with
  | v1_2 => bif (decide ((v1_2 : Int) < v1_1)) then (ZX v1_0 v1_2 fun c82 => Zd c82 fun d83 r84 => Zan d83 fun x85 => Ze r84 (impl_itemAt.f k v1_4 x85 (fun y86 => bif (decide ((y86 : Int) < 0)) then (K false) else (ZH (0 ≤ (0 : Int) ∧ (0 : Int) ≤ (v1_2 : Int) ∧ (v1_2 : Int) ≤ (v1_5.length : Int) ∧ rowsOk 1 v1_5) (slices_Contains_string.f k ((v1_5.drop (Int.toNat (0 : Int))).take (Int.toNat (v1_2 : Int) - Int.toNat (0 : Int))) x85 (fun y87 => bif y87 then (K false) else (L1 (IntKind.wrap .i64 (v1_2 + 1))))))))) else (K true)
noncomputable def impl_QueueOk.l0 {β : Type} (k : Nat) (v0_0 : Int) (v0_2 : List (List D)) (v0_3 : List (List D)) (v0_4 : List (List D)) (v0_5 : Int) (v0_6 : List (List C)) (K : Bool → Option β) (L0 : Int → Option β) (v : Int) : Option β :=
  match v with
  | v0_1 => bif (decide ((v0_1 : Int) < v0_0)) then (ZH ((0 : Int) ≤ v0_1 ∧ v0_1 < (v0_6.length : Int)) (atNat v0_6 (Int.toNat v0_1) fun c58 => Zd (c58.drop 0) fun c59 r60 => cD c59 fun d61 => Zan d61 fun x62 => Zd r60 fun c63 r64 => cD c63 fun d65 => ZM .i64 d65 fun x66 => Zd r64 fun c67 r68 => cD c67 fun d69 => ZM .i64 d69 fun x70 => slices_Concat_impl_Item.f k ([[.sl v0_2], [.sl v0_3]] : List (List D)) (fun y71 => impl_NameOk.f k x62 (fun y72 => bif (!y72) then (K false) else (impl_itemAt.f k (C.immRows y71) x62 (fun y73 => bif ((y73 : Int) != v0_1) then (K false) else (impl_within.f k x66 0 1000064 (fun y74 => bif (!y74) then (K false) else (impl_within.f k x70 0 1000 (fun y75 => bif (!y75) then (K false) else (bif (decide ((v0_1 : Int) ≥ (v0_2.length : Int))) then (bif ((x66 : Int) != 0) then (K false) else (L0 (IntKind.wrap .i64 (v0_1 + 1)))) else (L0 (IntKind.wrap .i64 (v0_1 + 1)))))))))))))) else (Z4 (impl_QueueOk.l1 k v0_4 (v0_4.length : Int) v0_2 v0_3 v0_4 v0_5 K) k (0))
noncomputable def impl_QueueOk.g {β : Type} (k : Nat) (a0_0 : List (List D)) (a0_1 : List (List D)) (a0_2 : List (List D)) (a0_3 : Int) (K : Bool → Option β) : Option β :=
  bif (decide (((a0_0.length : Int) : Int) > 60)) then (K false) else (bif (decide (((a0_1.length : Int) : Int) > 60)) then (K false) else (impl_within.f k a0_3 0 1000000 (fun y1 => bif (!y1) then (K false) else (slices_Concat_impl_Item.f k ([[.sl a0_0], [.sl a0_1]] : List (List D)) (fun y27 => Z4 (impl_QueueOk.l0 k (y27.length : Int) a0_0 a0_1 a0_2 a0_3 y27 K) k (0))))))
noncomputable def impl_QueueOk.t (k : Nat) (a0_0 : List (List D)) (a0_1 : List (List D)) (a0_2 : List (List D)) (a0_3 : Int) : Option (Bool) := impl_QueueOk.g k a0_0 a0_1 a0_2 a0_3 (fun z0 => some z0)
noncomputable def impl_QueueOk.f {β : Type} (k : Nat) (a0_0 : List (List D)) (a0_1 : List (List D)) (a0_2 : List (List D)) (a0_3 : Int) (K : Bool → Option β) : Option β :=
  match impl_QueueOk.t k a0_0 a0_1 a0_2 a0_3 with
  | some z0 => K z0
  | none => none
noncomputable def impl_QueueOk.as (a0_0 : List (List D)) (a0_1 : List (List D)) (a0_2 : List (List D)) (a0_3 : Int) : List A := [.agg [.sl a0_0, .sl a0_1, .sl a0_2, .int .i64 a0_3]]
noncomputable def impl_QueueOk.kt {β : Type} (a0_0 : List (List D)) (a0_1 : List (List D)) (a0_2 : List (List D)) (a0_3 : Int) (K0 : List (List C) → List Out → Option β) : Bool → Option β := fun z0 => K0 [[.d (.bool z0)]] []
noncomputable def impl_QueueOk.e (k : Nat) : ZQ := { modes := [(.imm, 0)], rts := [4], al := false, run := fun {β} l K => match l with | [.agg [.sl a0_0, .sl a0_1, .sl a0_2, .int .i64 a0_3]] => impl_QueueOk.f k a0_0 a0_1 a0_2 a0_3 (impl_QueueOk.kt a0_0 a0_1 a0_2 a0_3 K) | _ => none }
noncomputable def impl_QueueOk.E (k : Nat) : Env := fun g => bif g == 126 then some (impl_within.e k) else bif g == 174 then some (slices_Concat_impl_Item.e k) else bif g == 97 then some (impl_NameOk.e k) else bif g == 98 then some (impl_itemAt.e k) else bif g == 99 then some (slices_Contains_string.e k) else none
noncomputable def impl_QueueOk.h : ZY := ⟨fun n => bif n == 11 then ⟨[(1, .asis), (80, .asis), (81, .asis), (82, .asis)], []⟩ else bif n == 4 then ⟨[(1, .asis), (29, .asis), (30, .asis), (31, .asis)], []⟩ else ⟨[], []⟩, fun _ => none, false, []⟩
noncomputable def impl_QueueOk.s0 (v0_0 : Int) (v0_2 : List (List D)) (v0_3 : List (List D)) (v0_4 : List (List D)) (v0_5 : Int) (v0_6 : List (List C)) (v : Int) : St :=
  match v with
  | v0_1 => ⟨[.any, .bp 0 0, .any, .any, .any, .any, .any, .any, .any, .any, .any, .any, .any, .any, .any, .any, .any, .any, .any, .any, .any, .any, .any, .any, .any, .any, .any, .any, .any, .row 1, .d true (.int .i64 v0_0), .d true (.int .i64 v0_1), .any, .any, .any, .any, .any, .any, .any, .any, .any, .any, .any, .any, .any, .any, .any, .any, .any, .any, .any, .any, .any, .any, .any, .any, .any, .any, .any, .any, .any, .any, .any, .any, .any, .any, .any, .any, .any, .any, .any, .any, .any, .any, .any, .any, .any, .any, .any, .any, .any, .any, .any, .any, .any, .any, .any, .any, .any, .any, .any, .any, .any, .any, .any, .any, .any, .any, .any, .any, .any], [.box none 44 [.d false (.sl v0_2), .d false (.sl v0_3), .d false (.sl v0_4), .d false (.int .i64 v0_5)], .row none true 42 v0_6]⟩
noncomputable def impl_QueueOk.b0 {β : Type} (k : Nat) : St → (Ex → St → Option β) → Option β := fun s K => den Try.prog (impl_QueueOk.E k) impl_QueueOk.h.H impl_QueueOk.h.J k (Zad [1, 1, 0, 1, 0, 0] (Zl Try.f88)) s K
noncomputable def impl_QueueOk.c0 {β : Type} (k : Nat) (a0_0 : List (List D)) (a0_1 : List (List D)) (a0_2 : List (List D)) (a0_3 : Int) (K0 : List (List C) → List Out → Option β) : Ex → St → Option β := Zae Try.prog (impl_QueueOk.E k) impl_QueueOk.h k [1, 1, 0, 1, 0] (Zl Try.f88) (Zak Try.prog Try.f88 impl_QueueOk.h (impl_QueueOk.as a0_0 a0_1 a0_2 a0_3) K0)
noncomputable def impl_QueueOk.s1 (v1_0 : List (List D)) (v1_1 : Int) (v1_3 : List (List D)) (v1_4 : List (List D)) (v1_5 : List (List D)) (v1_6 : Int) (v : Int) : St :=
  match v with
  | v1_2 => ⟨[.any, .bp 0 0, .any, .any, .any, .any, .any, .any, .any, .any, .any, .any, .any, .any, .any, .any, .any, .any, .any, .any, .any, .any, .any, .any, .any, .any, .any, .any, .any, .any, .any, .any, .any, .any, .any, .any, .any, .any, .any, .any, .any, .any, .any, .any, .any, .any, .any, .any, .any, .any, .any, .any, .any, .any, .any, .any, .any, .any, .any, .any, .any, .any, .any, .any, .any, .any, .any, .any, .any, .any, .any, .any, .any, .any, .any, .any, .any, .any, .any, .any, .d false (.sl v1_0), .d true (.int .i64 v1_1), .d true (.int .i64 v1_2), .any, .any, .any, .any, .any, .any, .any, .any, .any, .any, .any, .any, .any, .any, .any, .any, .any, .any], [.box none 44 [.d false (.sl v1_3), .d false (.sl v1_4), .d false (.sl v1_5), .d false (.int .i64 v1_6)]]⟩
noncomputable def impl_QueueOk.b1 {β : Type} (k : Nat) : St → (Ex → St → Option β) → Option β := fun s K => den Try.prog (impl_QueueOk.E k) impl_QueueOk.h.H impl_QueueOk.h.J k (Zad [1, 1, 1, 0, 1, 0, 0] (Zl Try.f88)) s K
noncomputable def impl_QueueOk.c1 {β : Type} (k : Nat) (a0_0 : List (List D)) (a0_1 : List (List D)) (a0_2 : List (List D)) (a0_3 : Int) (K0 : List (List C) → List Out → Option β) : Ex → St → Option β := Zae Try.prog (impl_QueueOk.E k) impl_QueueOk.h k [1, 1, 1, 0, 1, 0] (Zl Try.f88) (Zak Try.prog Try.f88 impl_QueueOk.h (impl_QueueOk.as a0_0 a0_1 a0_2 a0_3) K0)
theorem impl_QueueOk.l1_eq {β : Type} (k : Nat) (a0_0 : List (List D)) (a0_1 : List (List D)) (a0_2 : List (List D)) (a0_3 : Int) (K0 : List (List C) → List Out → Option β) (v1_0 : List (List D)) (v1_1 : Int) (v1_3 : List (List D)) (v1_4 : List (List D)) (v1_5 : List (List D)) (v1_6 : Int) : ∀ (kk : Nat) (v : Int), Zx (impl_QueueOk.b1 k) (impl_QueueOk.h.H 11) kk (impl_QueueOk.s1 v1_0 v1_1 v1_3 v1_4 v1_5 v1_6 v) (impl_QueueOk.c1 k a0_0 a0_1 a0_2 a0_3 K0) = Z4 (impl_QueueOk.l1 k v1_0 v1_1 v1_3 v1_4 v1_5 v1_6 (impl_QueueOk.kt a0_0 a0_1 a0_2 a0_3 K0)) kk v :=
  Z9 (impl_QueueOk.s1 v1_0 v1_1 v1_3 v1_4 v1_5 v1_6) _ (fun L1 v => by kernel_rfl)
noncomputable def impl_QueueOk.m0 {β : Type} (k : Nat) (a0_0 : List (List D)) (a0_1 : List (List D)) (a0_2 : List (List D)) (a0_3 : Int) (K0 : List (List C) → List Out → Option β) (v0_0 : Int) (v0_2 : List (List D)) (v0_3 : List (List D)) (v0_4 : List (List D)) (v0_5 : Int) (v0_6 : List (List C)) (L0 : St → Option β) (v : Int) (F : ((List (List D)) → Int → (List (List D)) → (List (List D)) → (List (List D)) → Int → Int → Option β)) : Option β :=
  bif (decide ((v : Int) < v0_0)) then (ZH ((0 : Int) ≤ v ∧ v < (v0_6.length : Int)) (atNat v0_6 (Int.toNat v) fun c58 => Zd (c58.drop 0) fun c59 r60 => cD c59 fun d61 => Zan d61 fun x62 => Zd r60 fun c63 r64 => cD c63 fun d65 => ZM .i64 d65 fun x66 => Zd r64 fun c67 r68 => cD c67 fun d69 => ZM .i64 d69 fun x70 => slices_Concat_impl_Item.f k ([[.sl v0_2], [.sl v0_3]] : List (List D)) (fun y71 => impl_NameOk.f k x62 (fun y72 => bif (!y72) then ((impl_QueueOk.kt a0_0 a0_1 a0_2 a0_3 K0) false) else (impl_itemAt.f k (C.immRows y71) x62 (fun y73 => bif ((y73 : Int) != v) then ((impl_QueueOk.kt a0_0 a0_1 a0_2 a0_3 K0) false) else (impl_within.f k x66 0 1000064 (fun y74 => bif (!y74) then ((impl_QueueOk.kt a0_0 a0_1 a0_2 a0_3 K0) false) else (impl_within.f k x70 0 1000 (fun y75 => bif (!y75) then ((impl_QueueOk.kt a0_0 a0_1 a0_2 a0_3 K0) false) else (bif (decide ((v : Int) ≥ (v0_2.length : Int))) then (bif ((x66 : Int) != 0) then ((impl_QueueOk.kt a0_0 a0_1 a0_2 a0_3 K0) false) else (L0 (impl_QueueOk.s0 v0_0 v0_2 v0_3 v0_4 v0_5 v0_6 (IntKind.wrap .i64 (v + 1))))) else (L0 (impl_QueueOk.s0 v0_0 v0_2 v0_3 v0_4 v0_5 v0_6 (IntKind.wrap .i64 (v + 1))))))))))))))) else ((F) v0_4 (v0_4.length : Int) v0_2 v0_3 v0_4 v0_5 (0))
theorem impl_QueueOk.l0_eq {β : Type} (k : Nat) (a0_0 : List (List D)) (a0_1 : List (List D)) (a0_2 : List (List D)) (a0_3 : Int) (K0 : List (List C) → List Out → Option β) (v0_0 : Int) (v0_2 : List (List D)) (v0_3 : List (List D)) (v0_4 : List (List D)) (v0_5 : Int) (v0_6 : List (List C)) : ∀ (kk : Nat) (v : Int), Zx (impl_QueueOk.b0 k) (impl_QueueOk.h.H 4) kk (impl_QueueOk.s0 v0_0 v0_2 v0_3 v0_4 v0_5 v0_6 v) (impl_QueueOk.c0 k a0_0 a0_1 a0_2 a0_3 K0) = Z4 (impl_QueueOk.l0 k v0_0 v0_2 v0_3 v0_4 v0_5 v0_6 (impl_QueueOk.kt a0_0 a0_1 a0_2 a0_3 K0)) kk v :=
  Z9 (impl_QueueOk.s0 v0_0 v0_2 v0_3 v0_4 v0_5 v0_6) _ (fun L0 v => by exact Eq.trans (b := (impl_QueueOk.m0 k a0_0 a0_1 a0_2 a0_3 K0 v0_0 v0_2 v0_3 v0_4 v0_5 v0_6 L0 v) (fun (v1_0 : List (List D)) (v1_1 : Int) (v1_3 : List (List D)) (v1_4 : List (List D)) (v1_5 : List (List D)) (v1_6 : Int) (v : Int) => Zx (impl_QueueOk.b1 k) (impl_QueueOk.h.H 11) k (impl_QueueOk.s1 v1_0 v1_1 v1_3 v1_4 v1_5 v1_6 v) (impl_QueueOk.c1 k a0_0 a0_1 a0_2 a0_3 K0))) (by kernel_rfl) (Eq.trans (congrArg (impl_QueueOk.m0 k a0_0 a0_1 a0_2 a0_3 K0 v0_0 v0_2 v0_3 v0_4 v0_5 v0_6 L0 v) (funext fun v1_0 => funext fun v1_1 => funext fun v1_3 => funext fun v1_4 => funext fun v1_5 => funext fun v1_6 => funext fun v => impl_QueueOk.l1_eq k a0_0 a0_1 a0_2 a0_3 K0 v1_0 v1_1 v1_3 v1_4 v1_5 v1_6 k v)) (by kernel_rfl)))
noncomputable def impl_QueueOk.m {β : Type} (k : Nat) (a0_0 : List (List D)) (a0_1 : List (List D)) (a0_2 : List (List D)) (a0_3 : Int) (K0 : List (List C) → List Out → Option β) (F : (Int → (List (List D)) → (List (List D)) → (List (List D)) → Int → (List (List C)) → Int → Option β)) : Option β :=
  bif (decide (((a0_0.length : Int) : Int) > 60)) then ((impl_QueueOk.kt a0_0 a0_1 a0_2 a0_3 K0) false) else (bif (decide (((a0_1.length : Int) : Int) > 60)) then ((impl_QueueOk.kt a0_0 a0_1 a0_2 a0_3 K0) false) else (impl_within.f k a0_3 0 1000000 (fun y1 => bif (!y1) then ((impl_QueueOk.kt a0_0 a0_1 a0_2 a0_3 K0) false) else (slices_Concat_impl_Item.f k ([[.sl a0_0], [.sl a0_1]] : List (List D)) (fun y27 => (F) (y27.length : Int) a0_0 a0_1 a0_2 a0_3 y27 (0))))))
theorem impl_QueueOk.f_eq {β : Type} (k : Nat) (a0_0 : List (List D)) (a0_1 : List (List D)) (a0_2 : List (List D)) (a0_3 : Int) (K0 : List (List C) → List Out → Option β) : ZJ Try.prog (impl_QueueOk.E k) impl_QueueOk.h k Try.f88 (impl_QueueOk.as a0_0 a0_1 a0_2 a0_3) K0 = impl_QueueOk.g k a0_0 a0_1 a0_2 a0_3 (impl_QueueOk.kt a0_0 a0_1 a0_2 a0_3 K0) := Eq.trans (b := (impl_QueueOk.m k a0_0 a0_1 a0_2 a0_3 K0) (fun (v0_0 : Int) (v0_2 : List (List D)) (v0_3 : List (List D)) (v0_4 : List (List D)) (v0_5 : Int) (v0_6 : List (List C)) (v : Int) => Zx (impl_QueueOk.b0 k) (impl_QueueOk.h.H 4) k (impl_QueueOk.s0 v0_0 v0_2 v0_3 v0_4 v0_5 v0_6 v) (impl_QueueOk.c0 k a0_0 a0_1 a0_2 a0_3 K0))) (by kernel_rfl) (Eq.trans (congrArg (impl_QueueOk.m k a0_0 a0_1 a0_2 a0_3 K0) (funext fun v0_0 => funext fun v0_2 => funext fun v0_3 => funext fun v0_4 => funext fun v0_5 => funext fun v0_6 => funext fun v => impl_QueueOk.l0_eq k a0_0 a0_1 a0_2 a0_3 K0 v0_0 v0_2 v0_3 v0_4 v0_5 v0_6 k v)) (by kernel_rfl))
noncomputable def impl_QueueOk.dec (rs : List (List C)) (os : List Out) : Option (Bool) := Zd rs fun c1 r2 => Zd c1 fun x3 l4 => cD x3 fun d5 => ZaF d5 fun w0 => Ze l4 <| Ze r2 <| Ze os (some w0)
theorem impl_QueueOk.kt_dec (a0_0 : List (List D)) (a0_1 : List (List D)) (a0_2 : List (List D)) (a0_3 : Int) : impl_QueueOk.kt a0_0 a0_1 a0_2 a0_3 impl_QueueOk.dec = (fun z0 => some z0) := by kernel_rfl
theorem impl_QueueOk.inj (a0_0 : List (List D)) (a0_1 : List (List D)) (a0_2 : List (List D)) (a0_3 : Int) {rs : List (List C)} {os : List Out} {z0 : Bool} (h : impl_QueueOk.dec rs os = some z0) (ho : Zo (impl_QueueOk.as a0_0 a0_1 a0_2 a0_3) os) : rs = [[.d (.bool z0)]] ∧ os = [] := by
  unfold impl_QueueOk.dec at h
  obtain ⟨c1, r2, rfl, h1⟩ := Zb h
  obtain ⟨x3, l4, rfl, h2⟩ := Zb h1
  obtain ⟨d5, rfl, h3⟩ := Zt h2
  obtain ⟨w0, rfl, h4⟩ := Z0 h3
  obtain ⟨rfl, h5⟩ := Zc h4
  obtain ⟨rfl, h6⟩ := Zc h5
  obtain ⟨rfl, h7⟩ := Zc h6
  obtain rfl := Option.some.inj h7
  exact ⟨rfl, rfl⟩
theorem impl_QueueOk.ok (k : Nat) : Zv Try.prog 88 (impl_QueueOk.e k) := by
  refine Zu mix tyok (fn := Try.f88) (c := Zl Try.f88) Try.func88 (by kernel_rfl) (h := impl_QueueOk.h) (k := k) (E := impl_QueueOk.E k) (Zk (impl_within.ok k) (Zk (slices_Concat_impl_Item.ok k) (Zk (impl_NameOk.ok k) (Zk (impl_itemAt.ok k) (Zk (slices_Contains_string.ok k) Zz))))) (by kernel_rfl) (by kernel_rfl) rfl (Zq Try.func88 (by kernel_rfl)) ?_
  intro β l K r hr
  simp only [impl_QueueOk.e] at hr
  split at hr
  case h_2 => cases hr
  unfold impl_QueueOk.f at hr
  split at hr
  case h_2 => cases hr
  rename_i hz
  exact ⟨_, _, hr, _, impl_QueueOk.dec, _, (impl_QueueOk.f_eq k _ _ _ _ impl_QueueOk.dec).trans (by rw [impl_QueueOk.kt_dec]; exact hz), fun rs os h ho => impl_QueueOk.inj _ _ _ _ h ho⟩
noncomputable def slices_Delete_impl_Item.t (k : Nat) (xs : List (List C)) (i : Int) (j : Int) : Option (List (List C)) := ZH (0 ≤ i ∧ i ≤ j ∧ j ≤ (xs.length : Int)) (some (xs.take i.toNat ++ xs.drop j.toNat))
noncomputable def slices_Delete_impl_Item.f {β : Type} (k : Nat) (xs : List (List C)) (i : Int) (j : Int) (K : (List (List C)) → Option β) : Option β :=
  match slices_Delete_impl_Item.t k xs i j with
  | some z0 => K z0
  | none => none
noncomputable def slices_Delete_impl_Item.run (k : Nat) : {β : Type} → List A → ((List (List C)) → Option β) → Option β := fun {β} l K =>
  match l with
  | [.own false [.own xs], .d (.int .i64 i), .d (.int .i64 j)] => slices_Delete_impl_Item.f k xs i j K
  | _ => none
noncomputable def slices_Delete_impl_Item.e (k : Nat) : ZQ := { modes := [(.own, 0)], rts := [42], al := false, run := fun _ _ => none, lib := some ⟨[true, false, false], 42, slices_Delete_impl_Item.run k⟩ }
set_option maxHeartbeats 4000000 in
set_option maxRecDepth 1000000 in
theorem slices_Delete_impl_Item.raw0 (a : Option Addr) (n cap i : Nat) (w : World) (hi : i ≤ n) (hn : n ≤ cap) : Calls Try.prog 118 #[.slice a n cap, .int .i64 i, .int .i64 i] w fun ex w' => ex = .returned (.slice a n cap) ∧ w' = w := by
  go_enter Try.func118, Try.ntmps118
  go_wp2
  all_goals (go_ret; exact ⟨rfl, rfl⟩)
set_option maxHeartbeats 4000000 in
set_option maxRecDepth 1000000 in
theorem slices_Delete_impl_Item.raw2 (b cap n i j : Nat) (c : Array Value) (e : TypeId) (w : World) (hb : w.heap[b]? = some (.cells c e (0, 0))) (hc : c.size = cap * 3) (hn : n ≤ cap) (hij : i < j) (hj : j ≤ n) (h1 : ∀ t, t < n * 3 → ∃ v, c[t]? = some v ∧ v.oneCell' = true) (i0 : TypeInfo) (z : Value) (hi : Try.prog.info? 137 = some i0) (hz : i0.zero = some z) (hs : i0.size = 3) (hzs : z.cells.size = 3) (hz1 : ∀ v ∈ z.cells.toList, v.oneCell' = true) :
    Calls Try.prog 118 #[.slice (some ⟨b, 0, none⟩) n cap, .int .i64 i, .int .i64 j] w fun ex w' => ex = .returned (.slice (some ⟨b, 0, none⟩) (n - (j - i)) cap) ∧ Only b w w' ∧ ∃ c', w'.heap[b]? = some (.cells c' e (0, 0)) ∧ c'.size = c.size ∧ (∀ t, t < i * 3 → c'[t]? = c[t]?) ∧ ∀ t, t < (n - j) * 3 → c'[i * 3 + t]? = c[j * 3 + t]? := by
  have mixed : Try.prog.follows .mixedOrders = true := by kernel_rfl
  have hb0 : w.drew.heap[b]? = some (.cells c e (0, 0)) := hb
  obtain ⟨A, news, hA, hlen, hsrc, hone, hget⟩ := tail_src hb0 hc hn hj h1
  obtain ⟨hb1, ho1⟩ := setCells_only news (i * 3) hb0
  obtain ⟨W1, hW1⟩ : ∃ W1, W1 = w.drew.setCells b (0 + i * 3) news := ⟨_, rfl⟩
  rw [Nat.zero_add] at hW1
  rw [← hW1] at hb1 ho1
  have hle : i * 3 + news.length ≤ c.size := by rw [hlen, hc]; omega
  have hcl : ∀ ty, (Builtin.clear_ #[42] ty #[.slice (some ⟨b, (i + (n - j)) * 3, none⟩) (n - (i + (n - j))) (cap - (i + (n - j)))]).run Try.prog W1 = .ok (.tuple #[]) (W1.setCells b ((i + (n - j)) * 3) (Builtin.zeroCells z.cells (n - (i + (n - j)))).toList) :=
    fun ty => run_clear_cells Try.underlying42 hi hz hz1 (by omega) (fun t ht => by rw [cell_at hb1]; rw [hzs] at ht; rw [Array.getElem?_eq_getElem (by rw [putA_size, hc]; omega)]; rfl) (fun t ht => not_frozen hb1 _)
  have hW : Hold (W1 = w.drew.setCells b (i * 3) news) := ⟨hW1⟩
  obtain ⟨hb2, ho2⟩ := setCells_only (Builtin.zeroCells z.cells (n - (i + (n - j)))).toList ((i + (n - j)) * 3) hb1
  have hfin : Hold (Only b w (W1.setCells b ((i + (n - j)) * 3) (Builtin.zeroCells z.cells (n - (i + (n - j)))).toList) ∧ ∃ c', (W1.setCells b ((i + (n - j)) * 3) (Builtin.zeroCells z.cells (n - (i + (n - j)))).toList).heap[b]? = some (.cells c' e (0, 0)) ∧ c'.size = c.size ∧ (∀ t, t < i * 3 → c'[t]? = c[t]?) ∧ ∀ t, t < (n - j) * 3 → c'[i * 3 + t]? = c[j * 3 + t]?) := by
    have hzl : (Builtin.zeroCells z.cells (n - (i + (n - j)))).toList.length = (n - (i + (n - j))) * 3 := by simp [Zcd, hzs]
    refine ⟨((Only.drew b w).trans ho1).trans ho2, _, hb2, by rw [putA_size, putA_size], fun t ht => ?_, fun t ht => ?_⟩
    · rw [putA_get _ _ _ _ (by rw [hzl, putA_size, hc]; omega), if_neg (by omega), putA_get _ _ _ _ hle, if_neg (by omega)]
    · rw [putA_get _ _ _ _ (by rw [hzl, putA_size, hc]; omega), if_neg (by omega), putA_get _ _ _ _ hle, if_pos (by omega), Nat.add_sub_cancel_left, hget t ht]
  have hsp : ∀ t, t < news.length → (w.drew.cell? ⟨b, 0 + i * 3 + t, none⟩).isSome = true ∧ w.drew.frozen? ⟨b, 0 + i * 3 + t, none⟩ = false := fun t ht => ⟨by rw [cell_at hb0, Array.getElem?_eq_getElem (by omega)]; rfl, not_frozen hb0 _⟩
  generalize (Builtin.zeroCells z.cells (n - (i + (n - j)))).toList = zl at hcl hfin
  clear hb hb0 ho1 hb1 hb2 ho2 hget hW1 h1 hle hc hz1 hzs hz
  have hic : i ≤ cap := by omega
  have hjc : j ≤ cap := by omega
  go_enter Try.func118, Try.ntmps118
  go_wp2_with fail
  go_region_law_o (refine step_append_room rfl (.tmp 22) (.tmp 25) 42 rfl 137 i0 3 Try.underlying42 hi hs b 0 i cap (by simp [Act.eval, Act.put]) A (n - j) (cap - j) news (by simp [Act.eval, Act.put]) hlen hsrc hone (by omega) hsp ?_; rw [Nat.zero_add, ← hW.out])
  go_wp2
  go_ret
  refine ⟨?_, hfin.out⟩
  rw [show i + (n - j) = n - (j - i) from by omega]
  rfl
theorem slices_Delete_impl_Item.raw : DelRaw Try.prog 118 3 := ⟨fun a n cap i w h1 h2 => slices_Delete_impl_Item.raw0 a n cap i w h1 h2, fun b cap n i j c e w hb hc hn hij hj h1 => by
  obtain ⟨i0, z, hi, hz, hzs⟩ := Zcy (P := Try.prog) (t := 137) (by kernel_rfl)
  have hsz : i0.size = 3 := by
    have : Try.prog.cellsOf 137 = 3 := by kernel_rfl
    simpa [Program.cellsOf, hi] using this
  have hzc : z.cells.size = 3 := by
    have h1 : (ZaW Try.prog 137).length = 3 := by kernel_rfl
    rw [← h1]
    simpa using (ZbK hzs).2.2.1.symm
  exact slices_Delete_impl_Item.raw2 b cap n i j c e w hb hc hn hij hj h1 i0 z hi hz hsz hzc (ZbK hzs).2.1⟩
theorem slices_Delete_impl_Item.ok (k : Nat) : Zv Try.prog 118 (slices_Delete_impl_Item.e k) := delete_ok tyok (ct := 42) (K := 3) (run := fun {β} => slices_Delete_impl_Item.run k) (by kernel_rfl) (Zq Try.func118 (by kernel_rfl)) slices_Delete_impl_Item.raw (fun β aa K r h => by
  unfold slices_Delete_impl_Item.run at h
  split at h
  · unfold slices_Delete_impl_Item.f slices_Delete_impl_Item.t at h
    split at h
    · rename_i hz
      obtain ⟨hg, hz⟩ := ZS hz
      injection hz with hz
      subst hz
      exact ⟨_, _, _, rfl, hg, h⟩
    · cases h
  · cases h)
noncomputable def impl_Done_1.g {β : Type} (k : Nat) (a0 : ByteArray) (f0_0 : ByteArray) (K : Bool → Option β) : Option β :=
  K (strEq a0 f0_0)
noncomputable def impl_Done_1.t (k : Nat) (a0 : ByteArray) (f0_0 : ByteArray) : Option (Bool) := impl_Done_1.g k a0 f0_0 (fun z0 => some z0)
noncomputable def impl_Done_1.f {β : Type} (k : Nat) (a0 : ByteArray) (f0_0 : ByteArray) (K : Bool → Option β) : Option β :=
  match impl_Done_1.t k a0 f0_0 with
  | some z0 => K z0
  | none => none
noncomputable def impl_Done_1.as (a0 : ByteArray) (f0_0 : ByteArray) : List A := [.d (.str a0), .ip [.str f0_0]]
noncomputable def impl_Done_1.kt {β : Type} (a0 : ByteArray) (f0_0 : ByteArray) (K0 : List (List C) → List Out → Option β) : Bool → Option β := fun z0 => K0 [[.d (.bool z0)]] []
noncomputable def impl_Done_1.e (k : Nat) : ZQ := { modes := [(.imm, 0), (.imm, 0)], rts := [4], al := false, run := fun {β} l K => match l with | [.d (.str a0), .ip [.str f0_0]] => impl_Done_1.f k a0 f0_0 (impl_Done_1.kt a0 f0_0 K) | _ => none }
noncomputable def impl_Done_1.E (k : Nat) : Env := fun g => none
noncomputable def impl_Done_1.h : ZY := ⟨fun n => ⟨[], []⟩, fun _ => none, false, []⟩
theorem impl_Done_1.f_eq {β : Type} (k : Nat) (a0 : ByteArray) (f0_0 : ByteArray) (K0 : List (List C) → List Out → Option β) : ZJ Try.prog (impl_Done_1.E k) impl_Done_1.h k Try.f121 (impl_Done_1.as a0 f0_0) K0 = impl_Done_1.g k a0 f0_0 (impl_Done_1.kt a0 f0_0 K0) := by kernel_rfl
noncomputable def impl_Done_1.dec (rs : List (List C)) (os : List Out) : Option (Bool) := Zd rs fun c1 r2 => Zd c1 fun x3 l4 => cD x3 fun d5 => ZaF d5 fun w0 => Ze l4 <| Ze r2 <| Ze os (some w0)
theorem impl_Done_1.kt_dec (a0 : ByteArray) (f0_0 : ByteArray) : impl_Done_1.kt a0 f0_0 impl_Done_1.dec = (fun z0 => some z0) := by kernel_rfl
theorem impl_Done_1.inj (a0 : ByteArray) (f0_0 : ByteArray) {rs : List (List C)} {os : List Out} {z0 : Bool} (h : impl_Done_1.dec rs os = some z0) (ho : Zo (impl_Done_1.as a0 f0_0) os) : rs = [[.d (.bool z0)]] ∧ os = [] := by
  unfold impl_Done_1.dec at h
  obtain ⟨c1, r2, rfl, h1⟩ := Zb h
  obtain ⟨x3, l4, rfl, h2⟩ := Zb h1
  obtain ⟨d5, rfl, h3⟩ := Zt h2
  obtain ⟨w0, rfl, h4⟩ := Z0 h3
  obtain ⟨rfl, h5⟩ := Zc h4
  obtain ⟨rfl, h6⟩ := Zc h5
  obtain ⟨rfl, h7⟩ := Zc h6
  obtain rfl := Option.some.inj h7
  exact ⟨rfl, rfl⟩
theorem impl_Done_1.ok (k : Nat) : Zv Try.prog 121 (impl_Done_1.e k) := by
  refine Zu mix tyok (fn := Try.f121) (c := Zl Try.f121) Try.func121 (by kernel_rfl) (h := impl_Done_1.h) (k := k) (E := impl_Done_1.E k) Zz (by kernel_rfl) (by kernel_rfl) rfl (Zq Try.func121 (by kernel_rfl)) ?_
  intro β l K r hr
  simp only [impl_Done_1.e] at hr
  split at hr
  case h_2 => cases hr
  unfold impl_Done_1.f at hr
  split at hr
  case h_2 => cases hr
  rename_i hz
  exact ⟨_, _, hr, _, impl_Done_1.dec, _, (impl_Done_1.f_eq k _ _ impl_Done_1.dec).trans (by rw [impl_Done_1.kt_dec]; exact hz), fun rs os h ho => impl_Done_1.inj _ _ h ho⟩
noncomputable def slices_IndexFunc_string__impl_Done_1.l0 {β : Type} (k : Nat) (v0_0 : List (List D)) (v0_1 : ByteArray) (v0_2 : Int) (K : Int → Option β) (L0 : Int → Option β) (v : Int) : Option β :=
  match v with
  | v0_3 => bif (decide ((v0_3 : Int) < v0_2)) then (ZX v0_0 v0_3 fun c6 => Zd c6 fun d7 r8 => Zan d7 fun x9 => Ze r8 (impl_Done_1.f k x9 v0_1 (fun y10 => bif y10 then (K v0_3) else (L0 (IntKind.wrap .i64 (v0_3 + 1)))))) else (K (-1))
noncomputable def slices_IndexFunc_string__impl_Done_1.g {β : Type} (k : Nat) (a0 : List (List D)) (a1_0_0 : ByteArray) (K : Int → Option β) : Option β :=
  Z4 (slices_IndexFunc_string__impl_Done_1.l0 k a0 a1_0_0 (a0.length : Int) K) k (0)
noncomputable def slices_IndexFunc_string__impl_Done_1.t (k : Nat) (a0 : List (List D)) (a1_0_0 : ByteArray) : Option (Int) := slices_IndexFunc_string__impl_Done_1.g k a0 a1_0_0 (fun z0 => some z0)
noncomputable def slices_IndexFunc_string__impl_Done_1.f {β : Type} (k : Nat) (a0 : List (List D)) (a1_0_0 : ByteArray) (K : Int → Option β) : Option β :=
  match slices_IndexFunc_string__impl_Done_1.t k a0 a1_0_0 with
  | some z0 => K z0
  | none => none
noncomputable def slices_IndexFunc_string__impl_Done_1.as (a0 : List (List D)) (a1_0_0 : ByteArray) : List A := [.d (.sl a0), .d (.fn 121 [[.str a1_0_0]])]
noncomputable def slices_IndexFunc_string__impl_Done_1.kt {β : Type} (a0 : List (List D)) (a1_0_0 : ByteArray) (K0 : List (List C) → List Out → Option β) : Int → Option β := fun z0 => K0 [[.d (.int .i64 z0)]] []
noncomputable def slices_IndexFunc_string__impl_Done_1.e (k : Nat) : ZQ := { modes := [(.imm, 0), (.imm, 0)], rts := [3], al := false, run := fun {β} l K => match l with | [.d (.sl a0), .d (.fn 121 [[.str a1_0_0]])] => slices_IndexFunc_string__impl_Done_1.f k a0 a1_0_0 (slices_IndexFunc_string__impl_Done_1.kt a0 a1_0_0 K) | _ => none }
noncomputable def slices_IndexFunc_string__impl_Done_1.E (k : Nat) : Env := fun g => bif g == 121 then some (impl_Done_1.e k) else none
noncomputable def slices_IndexFunc_string__impl_Done_1.h : ZY := ⟨fun n => bif n == 2 then ⟨[(0, .asis), (1, .asis), (7, .asis), (8, .asis)], []⟩ else ⟨[], []⟩, fun _ => none, false, []⟩
noncomputable def slices_IndexFunc_string__impl_Done_1.s0 (v0_0 : List (List D)) (v0_1 : ByteArray) (v0_2 : Int) (v : Int) : St :=
  match v with
  | v0_3 => ⟨[.d false (.sl v0_0), .d false (.fn 121 [[.str v0_1]]), .any, .any, .any, .any, .any, .d true (.int .i64 v0_2), .d true (.int .i64 v0_3), .any, .any, .any, .any, .any, .any, .any, .any, .any, .any], []⟩
noncomputable def slices_IndexFunc_string__impl_Done_1.b0 {β : Type} (k : Nat) : St → (Ex → St → Option β) → Option β := fun s K => den Try.prog (slices_IndexFunc_string__impl_Done_1.E k) slices_IndexFunc_string__impl_Done_1.h.H slices_IndexFunc_string__impl_Done_1.h.J k (Zad [1, 0, 1, 0, 0] (Zl Try.f191)) s K
noncomputable def slices_IndexFunc_string__impl_Done_1.c0 {β : Type} (k : Nat) (a0 : List (List D)) (a1_0_0 : ByteArray) (K0 : List (List C) → List Out → Option β) : Ex → St → Option β := Zae Try.prog (slices_IndexFunc_string__impl_Done_1.E k) slices_IndexFunc_string__impl_Done_1.h k [1, 0, 1, 0] (Zl Try.f191) (Zak Try.prog Try.f191 slices_IndexFunc_string__impl_Done_1.h (slices_IndexFunc_string__impl_Done_1.as a0 a1_0_0) K0)
theorem slices_IndexFunc_string__impl_Done_1.l0_eq {β : Type} (k : Nat) (a0 : List (List D)) (a1_0_0 : ByteArray) (K0 : List (List C) → List Out → Option β) (v0_0 : List (List D)) (v0_1 : ByteArray) (v0_2 : Int) : ∀ (kk : Nat) (v : Int), Zx (slices_IndexFunc_string__impl_Done_1.b0 k) (slices_IndexFunc_string__impl_Done_1.h.H 2) kk (slices_IndexFunc_string__impl_Done_1.s0 v0_0 v0_1 v0_2 v) (slices_IndexFunc_string__impl_Done_1.c0 k a0 a1_0_0 K0) = Z4 (slices_IndexFunc_string__impl_Done_1.l0 k v0_0 v0_1 v0_2 (slices_IndexFunc_string__impl_Done_1.kt a0 a1_0_0 K0)) kk v :=
  Z9 (slices_IndexFunc_string__impl_Done_1.s0 v0_0 v0_1 v0_2) _ (fun L0 v => by kernel_rfl)
noncomputable def slices_IndexFunc_string__impl_Done_1.m {β : Type} (k : Nat) (a0 : List (List D)) (a1_0_0 : ByteArray) (K0 : List (List C) → List Out → Option β) (F : ((List (List D)) → ByteArray → Int → Int → Option β)) : Option β :=
  (F) a0 a1_0_0 (a0.length : Int) (0)
theorem slices_IndexFunc_string__impl_Done_1.f_eq {β : Type} (k : Nat) (a0 : List (List D)) (a1_0_0 : ByteArray) (K0 : List (List C) → List Out → Option β) : ZJ Try.prog (slices_IndexFunc_string__impl_Done_1.E k) slices_IndexFunc_string__impl_Done_1.h k Try.f191 (slices_IndexFunc_string__impl_Done_1.as a0 a1_0_0) K0 = slices_IndexFunc_string__impl_Done_1.g k a0 a1_0_0 (slices_IndexFunc_string__impl_Done_1.kt a0 a1_0_0 K0) := Eq.trans (b := (slices_IndexFunc_string__impl_Done_1.m k a0 a1_0_0 K0) (fun (v0_0 : List (List D)) (v0_1 : ByteArray) (v0_2 : Int) (v : Int) => Zx (slices_IndexFunc_string__impl_Done_1.b0 k) (slices_IndexFunc_string__impl_Done_1.h.H 2) k (slices_IndexFunc_string__impl_Done_1.s0 v0_0 v0_1 v0_2 v) (slices_IndexFunc_string__impl_Done_1.c0 k a0 a1_0_0 K0))) (by kernel_rfl) (Eq.trans (congrArg (slices_IndexFunc_string__impl_Done_1.m k a0 a1_0_0 K0) (funext fun v0_0 => funext fun v0_1 => funext fun v0_2 => funext fun v => slices_IndexFunc_string__impl_Done_1.l0_eq k a0 a1_0_0 K0 v0_0 v0_1 v0_2 k v)) (by kernel_rfl))
noncomputable def slices_IndexFunc_string__impl_Done_1.dec (rs : List (List C)) (os : List Out) : Option (Int) := Zd rs fun c1 r2 => Zd c1 fun x3 l4 => cD x3 fun d5 => ZM .i64 d5 fun w0 => Ze l4 <| Ze r2 <| Ze os (some w0)
theorem slices_IndexFunc_string__impl_Done_1.kt_dec (a0 : List (List D)) (a1_0_0 : ByteArray) : slices_IndexFunc_string__impl_Done_1.kt a0 a1_0_0 slices_IndexFunc_string__impl_Done_1.dec = (fun z0 => some z0) := by kernel_rfl
theorem slices_IndexFunc_string__impl_Done_1.inj (a0 : List (List D)) (a1_0_0 : ByteArray) {rs : List (List C)} {os : List Out} {z0 : Int} (h : slices_IndexFunc_string__impl_Done_1.dec rs os = some z0) (ho : Zo (slices_IndexFunc_string__impl_Done_1.as a0 a1_0_0) os) : rs = [[.d (.int .i64 z0)]] ∧ os = [] := by
  unfold slices_IndexFunc_string__impl_Done_1.dec at h
  obtain ⟨c1, r2, rfl, h1⟩ := Zb h
  obtain ⟨x3, l4, rfl, h2⟩ := Zb h1
  obtain ⟨d5, rfl, h3⟩ := Zt h2
  obtain ⟨w0, rfl, h4⟩ := ZA h3
  obtain ⟨rfl, h5⟩ := Zc h4
  obtain ⟨rfl, h6⟩ := Zc h5
  obtain ⟨rfl, h7⟩ := Zc h6
  obtain rfl := Option.some.inj h7
  exact ⟨rfl, rfl⟩
theorem slices_IndexFunc_string__impl_Done_1.ok (k : Nat) : Zv Try.prog 191 (slices_IndexFunc_string__impl_Done_1.e k) := by
  refine Zu mix tyok (fn := Try.f191) (c := Zl Try.f191) Try.func191 (by kernel_rfl) (h := slices_IndexFunc_string__impl_Done_1.h) (k := k) (E := slices_IndexFunc_string__impl_Done_1.E k) (Zk (impl_Done_1.ok k) Zz) (by kernel_rfl) (by kernel_rfl) rfl (Zq Try.func191 (by kernel_rfl)) ?_
  intro β l K r hr
  simp only [slices_IndexFunc_string__impl_Done_1.e] at hr
  split at hr
  case h_2 => cases hr
  unfold slices_IndexFunc_string__impl_Done_1.f at hr
  split at hr
  case h_2 => cases hr
  rename_i hz
  exact ⟨_, _, hr, _, slices_IndexFunc_string__impl_Done_1.dec, _, (slices_IndexFunc_string__impl_Done_1.f_eq k _ _ slices_IndexFunc_string__impl_Done_1.dec).trans (by rw [slices_IndexFunc_string__impl_Done_1.kt_dec]; exact hz), fun rs os h ho => slices_IndexFunc_string__impl_Done_1.inj _ _ h ho⟩
noncomputable def slices_DeleteFunc_string__impl_Done_1.t (k : Nat) (xs : List (List C)) (c0_0 : ByteArray) : Option (List (List C)) := delT (fun ds => slices_IndexFunc_string__impl_Done_1.t k ds c0_0) (fun s => impl_Done_1.t k s c0_0) xs
noncomputable def slices_DeleteFunc_string__impl_Done_1.f {β : Type} (k : Nat) (xs : List (List C)) (c0_0 : ByteArray) (K : (List (List C)) → Option β) : Option β :=
  match slices_DeleteFunc_string__impl_Done_1.t k xs c0_0 with
  | some z0 => K z0
  | none => none
noncomputable def slices_DeleteFunc_string__impl_Done_1.run (k : Nat) : {β : Type} → List A → ((List (List C)) → Option β) → Option β := fun {β} l K =>
  match l with
  | [.own false [.own xs], .d (.fn g [[.str c0_0]])] => bif g == 121 then slices_DeleteFunc_string__impl_Done_1.f k xs c0_0 K else none
  | _ => none
noncomputable def slices_DeleteFunc_string__impl_Done_1.e (k : Nat) : ZQ := { modes := [(.own, 0)], rts := [25], al := false, run := fun _ _ => none, lib := some ⟨[true, false], 25, slices_DeleteFunc_string__impl_Done_1.run k⟩ }
set_option maxHeartbeats 4000000 in
set_option maxRecDepth 1000000 in
theorem slices_DeleteFunc_string__impl_Done_1.raw2 (b cap n : Nat) (c : Array Value) (e : TypeId) (w : World) (g : Nat) (lb : Array Value) (p : Nat → Bool) (k0 : Nat) (hb : w.heap[b]? = some (.cells c e (0, 0))) (hc : c.size = cap * 1) (hn : n ≤ cap) (hk0 : k0 < n) (hm : n ≤ 1099511627776)
   (h1 : ∀ t, t < n → ∃ s, c[t]? = some (.string s)) (i0 : TypeInfo) (z : Value) (hi : Try.prog.info? 9 = some i0) (hz : i0.zero = some z) (hs : i0.size = 1) (hzs : z.cells.size = 1) (hz1 : ∀ v ∈ z.cells.toList, v.oneCell' = true)
   (eg : ∀ args w, (callFunc g args).run Try.prog w = .ok (.enter g args) w)
   (hIF : Calls Try.prog 191 #[.slice (some ⟨b, 0, none⟩) n cap, .func (.func g) #[] lb] w fun e w' => e = .returned (.int .i64 k0) ∧ Gs w w')
   (hpred : ∀ j, k0 < j → j < n → ∀ W, Gr b w W → ∀ v : Value, c[j]? = some v → Calls Try.prog g (#[v] ++ lb) W fun e w' => e = .returned (.bool (p j)) ∧ Gs W w') :
    Calls Try.prog 120 #[.slice (some ⟨b, 0, none⟩) n cap, .func (.func g) #[] lb] w fun ex w' => ex = .returned (.slice (some ⟨b, 0, none⟩) (kpt p k0 n).length cap) ∧ Gr b w w' ∧ ∃ c' : Array Value, w'.heap[b]? = some (.cells c' e (0, 0)) ∧ c'.size = c.size ∧ ∀ m k : Nat, (kpt p k0 n)[m]? = some k → c'[m]? = c[k]? := by
  have mixed : Try.prog.follows .mixedOrders = true := by kernel_rfl
  have hHC : Hold (∀ j, k0 < j → j < n → ∀ W, Gr b w W → ∀ v : Value, c[j]? = some v → Calls Try.prog g (#[v] ++ lb) W fun e w' => e = .returned (.bool (p j)) ∧ Gs W w') := ⟨hpred⟩
  have hH1 : Hold (∀ t, t < n → ∃ s, c[t]? = some (.string s)) := ⟨h1⟩
  have hHZ : Hold (i0.zero = some z ∧ i0.size = 1 ∧ z.cells.size = 1 ∧ (∀ v ∈ z.cells.toList, v.oneCell' = true) ∧ Try.prog.info? 9 = some i0) := ⟨hz, hs, hzs, hz1, hi⟩
  have hHB : Hold (w.heap[b]? = some (.cells c e (0, 0)) ∧ c.size = cap * 1) := ⟨hb, hc⟩
  clear hpred h1 hz hs hzs hz1 hi hb hc
  have hne1 : ((k0 : Int) == -1) = false := beq_eq_false_iff_ne.2 (by omega)
  go_enter Try.func120, Try.ntmps120
  go_wp2_with (go_at_call 191; refine hIF.mono ?_; rintro e w' ⟨rfl, hg⟩)
  go_loopg [5, 6, 7] n (fun gg s5 s6 _ wr => ∃ (i j : Nat), s5 = .int .i64 i ∧ s6 = .int .i64 j ∧ j ≤ n ∧ n - j ≤ gg ∧ Hold (∃ ck : Array Value, DfI b k0 c e p w wr i j ck))
  case atStart =>
    refine ⟨k0, k0 + 1, rfl, by go_num, by omega, by omega, ⟨c, by omega, hg.gr b, ?_, rfl, ?_, fun _ _ => rfl, fun m k hk => ?_⟩⟩
    · rw [hg.same b (by have := (Array.getElem?_eq_some_iff.mp hHB.out.1).1; exact this)]; exact hHB.out.1
    · unfold kpt; simp
    · unfold kpt at hk
      simp only [Nat.sub_self, List.range'_zero, List.filter_nil, List.append_nil] at hk
      have := List.getElem?_eq_some_iff.mp hk
      obtain ⟨q, hq⟩ := this
      rw [List.getElem_range] at hq
      rw [hq]
  case round =>
    obtain ⟨i, j, rfl, rfl, hjd, hgg, ⟨ck, hI⟩⟩ := hrel
    have hij : i < j ∧ k0 ≤ i := by have := kpt_le (p := p) hI.lt; rw [hI.len] at this; omega
    obtain ⟨hij, hki⟩ := hij
    by_cases hlt : j < n
    · have hltz : (j : Int) < (n : Int) := by omega
      obtain ⟨s, hsj⟩ := hH1.out j hlt
      obtain ⟨old, hold⟩ : ∃ old, ck[i]? = some old := ⟨_, Array.getElem?_eq_getElem (by rw [hI.size, hHB.out.2]; omega)⟩
      have cj : wr.cell? ⟨b, j, none⟩ = some (.string s) := by rw [cell_at hI.at_, hI.high j (Nat.le_refl _)]; exact hsj
      have hcall := hHC.out j hI.lt hlt wr hI.gr _ hsj
      have W2 : Hold (DfI b k0 c e p w wr i j ck) := ⟨hI⟩
      have hS : Hold (c[j]? = some (.string s)) := ⟨hsj⟩
      have hblt : b < wr.heap.size := (Array.getElem?_eq_some_iff.mp hI.at_).1
      clear hI hsj
      cases hq : p j with
      | false =>
        rw [hq] at hcall
        have hst : ∀ (w' : World), Gs wr w' → w'.cell? ⟨b, i, none⟩ = some old ∧ w'.frozen? ⟨b, i, none⟩ = false := fun w' hg2 => by
          have := (hg2.same b hblt).trans W2.out.at_
          exact ⟨by rw [cell_at this]; exact hold, not_frozen this _⟩
        go_wp2_with (go_at_fn g; refine hcall.mono ?_; rintro e w' ⟨rfl, hg2⟩; obtain ⟨ci, fi⟩ := hst w' hg2)
        go_roundg (n - (j + 1))
        case measure => omega
        case rel =>
          refine ⟨i + 1, j + 1, by go_num, by go_num, by omega, Nat.le_refl _, ⟨ck.setIfInBounds i (.string s), ?_⟩⟩
          have hI := W2.out
          obtain ⟨hb3, ho3⟩ := setCells_only [.string s] i ((hg2.same b hblt).trans hI.at_)
          have hsz : i < ck.size := (Array.getElem?_eq_some_iff.mp hold).1
          refine ⟨by have := hI.lt; omega, (hI.gr.trans (hg2.gr b)).trans ho3.gr, hb3, by simpa using hI.size, by rw [kpt_keep hI.lt hq, List.length_append, hI.len]; rfl, fun t ht => ?_, fun m k hk => ?_⟩
          · rw [Array.getElem?_setIfInBounds, if_neg (by omega)]
            exact hI.high t (by omega)
          · rw [kpt_keep hI.lt hq] at hk
            by_cases hm : m < i
            · rw [Array.getElem?_setIfInBounds, if_neg (by omega)]
              exact hI.low m k (by rwa [List.getElem?_append_left (by rw [hI.len]; exact hm)] at hk)
            · rw [List.getElem?_append_right (by rw [hI.len]; omega), hI.len] at hk
              have hm0 : m = i := by
                by_cases h : m - i = 0
                · omega
                · rw [List.getElem?_eq_none (by simp; omega)] at hk; cases hk
              subst hm0
              simp at hk
              subst hk
              rw [Array.getElem?_setIfInBounds, if_pos rfl, if_pos hsz]
              exact hS.out.symm
      | true =>
        rw [hq] at hcall
        go_wp2_with (go_at_fn g; refine hcall.mono ?_; rintro e w' ⟨rfl, hg2⟩)
        go_roundg (n - (j + 1))
        case measure => omega
        case rel =>
          refine ⟨i, j + 1, rfl, by go_num, by omega, Nat.le_refl _, ⟨ck, ?_⟩⟩
          have hI := W2.out
          refine ⟨by have := hI.lt; omega, hI.gr.trans (hg2.gr b), by rw [hg2.same b hblt]; exact hI.at_, hI.size, by rw [kpt_skip hI.lt hq]; exact hI.len, fun t ht => hI.high t (by omega), by rw [kpt_skip hI.lt hq]; exact hI.low⟩
    · obtain rfl : j = n := by omega
      have hltz : ¬ (j : Int) < (j : Int) := by omega
      have hcs := hHB.out.2
      obtain ⟨hz, hs, hzs, hz1, hi⟩ := hHZ.out
      have hcl : ∀ ty, (Builtin.clear_ #[25] ty #[.slice (some ⟨b, i, none⟩) (j - i) (cap - i)]).run Try.prog wr = .ok (.tuple #[]) (wr.setCells b i (Builtin.zeroCells z.cells (j - i)).toList) :=
        fun ty => run_clear_cells Try.underlying25 hi hz hz1 (by omega) (fun t ht => by rw [cell_at hI.at_]; rw [hzs] at ht; rw [Array.getElem?_eq_getElem (by rw [hI.size, hcs]; omega)]; rfl) (fun t ht => not_frozen hI.at_ _)
      obtain ⟨hb4, ho4⟩ := setCells_only (Builtin.zeroCells z.cells (j - i)).toList i hI.at_
      have hfin : Hold (Gr b w (wr.setCells b i (Builtin.zeroCells z.cells (j - i)).toList) ∧ ∃ c' : Array Value, (wr.setCells b i (Builtin.zeroCells z.cells (j - i)).toList).heap[b]? = some (.cells c' e (0, 0)) ∧ c'.size = c.size ∧ ∀ m k : Nat, (kpt p k0 j)[m]? = some k → c'[m]? = c[k]?) := by
        have hzl : (Builtin.zeroCells z.cells (j - i)).toList.length = j - i := by simp [Zcd, hzs]
        refine ⟨hI.gr.trans ho4.gr, _, hb4, by rw [putA_size]; exact hI.size, fun m k hk => ?_⟩
        have hmi : m < i := by rw [← hI.len]; exact (List.getElem?_eq_some_iff.mp hk).1
        rw [putA_get _ _ _ _ (by rw [hzl, hI.size, hcs]; omega), if_neg (by omega)]
        exact hI.low m k hk
      have hlen := hI.len
      generalize (Builtin.zeroCells z.cells (j - i)).toList = zl at hcl hfin
      clear hI hz hs hzs hz1 hi hb4 ho4 hcs
      have hic : i ≤ cap := by omega
      go_wp2
      go_ret
      refine ⟨?_, hfin.out⟩
      first | rfl | (rw [hlen]; rfl)
set_option maxHeartbeats 4000000 in
set_option maxRecDepth 1000000 in
theorem slices_DeleteFunc_string__impl_Done_1.raw0 (a : Option Addr) (n cap : Nat) (w : World) (g : Nat) (lb : Array Value) (hn : n ≤ cap) (hIF : Calls Try.prog 191 #[.slice a n cap, .func (.func g) #[] lb] w fun e w' => e = .returned (.int .i64 (-1)) ∧ Gs w w') : Calls Try.prog 120 #[.slice a n cap, .func (.func g) #[] lb] w fun ex w' => ex = .returned (.slice a n cap) ∧ Gs w w' := by
  go_enter Try.func120, Try.ntmps120
  go_wp2_with (go_at_call 191; refine hIF.mono ?_; rintro e w' ⟨rfl, hg⟩)
  go_ret
  exact ⟨rfl, hg⟩
theorem slices_DeleteFunc_string__impl_Done_1.raw : DfRaw Try.prog 120 191 := ⟨fun a n cap w g lb hn h => slices_DeleteFunc_string__impl_Done_1.raw0 a n cap w g lb hn h, fun b cap n c e w g lb p k0 h1 h2 h3 h4 h5 h6 h7 h8 h9 => by
  obtain ⟨i0, z, hi, hz, hzs⟩ := Zcy (P := Try.prog) (t := 9) (by kernel_rfl)
  have hsz : i0.size = 1 := by
    have : Try.prog.cellsOf 9 = 1 := by kernel_rfl
    simpa [Program.cellsOf, hi] using this
  have hzc : z.cells.size = 1 := by
    have h1 : (ZaW Try.prog 9).length = 1 := by kernel_rfl
    rw [← h1]
    simpa using (ZbK hzs).2.2.1.symm
  exact slices_DeleteFunc_string__impl_Done_1.raw2 b cap n c e w g lb p k0 h1 h2 h3 h4 h5 h6 i0 z hi hz hsz hzc (ZbK hzs).2.1 h7 h8 h9⟩
theorem slices_DeleteFunc_string__impl_Done_1.ok (k : Nat) : Zv Try.prog 120 (slices_DeleteFunc_string__impl_Done_1.e k) := delfunc_ok tyok (ct := 25) (sl := 9) (g := 121) (fi := 191) (run := fun {β} => slices_DeleteFunc_string__impl_Done_1.run k) (by kernel_rfl) (by kernel_rfl) (Zq Try.func120 (by kernel_rfl)) slices_DeleteFunc_string__impl_Done_1.raw (by kernel_rfl) (by kernel_rfl) (slices_IndexFunc_string__impl_Done_1.ok k) (impl_Done_1.ok k) (fun β aa K r h => by
  unfold slices_DeleteFunc_string__impl_Done_1.run at h
  split at h
  · rename_i xs g c0_0
    cases hg : g == 121 with
    | false => rw [hg] at h; cases h
    | true =>
      rw [hg] at h
      obtain rfl := eq_of_beq hg
      simp only [cond_true] at h
      unfold slices_DeleteFunc_string__impl_Done_1.f slices_DeleteFunc_string__impl_Done_1.t at h
      split at h
      · rename_i z0 hz
        exact ⟨_, _, _, _, _, rfl, hz, h, rfl, rfl, rfl, rfl, fun ds z h => by
          show slices_IndexFunc_string__impl_Done_1.f k ds c0_0 (slices_IndexFunc_string__impl_Done_1.kt ds c0_0 fun rs os => some (rs, os)) = _
          unfold slices_IndexFunc_string__impl_Done_1.f
          rw [h]
          rfl, fun s q h => by
          show impl_Done_1.f k s c0_0 (impl_Done_1.kt s c0_0 fun rs os => some (rs, os)) = _
          unfold impl_Done_1.f
          rw [h]
          rfl⟩
      · cases h
  · cases h)
set_option maxRecDepth 100000 in
noncomputable def impl_Done.g {β : Type} (k : Nat) (a0_0 : List (List D)) (a0_1 : List (List D)) (a0_2 : List (List D)) (a0_3 : Int) (a1 : ByteArray) (a2 : Bool) (K : (List (List C)) → (List (List C)) → (List (List C)) → Int → Bool → Option β) : Option β :=
  impl_copyQueue.f k a0_0 a0_1 a0_2 a0_3 (fun y4 y5 y6 y7 => impl_itemAt.f k a0_1 a1 (fun y24 => impl_QueueOk.f k a0_0 a0_1 a0_2 a0_3 (fun y88 => bif (!y88) then (K y4 y5 y6 y7 false) else (bif (decide ((y24 : Int) < 0)) then (K y4 y5 y6 y7 false) else (bif (!a2) then (ZX a0_1 y24 fun c89 => Zd c89 fun d90 r91 => Zan d90 fun x92 => Zd r91 fun d93 r94 => ZM .i64 d93 fun x95 => Zd r94 fun d96 r97 => ZM .i64 d96 fun x98 => Ze r97 (ZH ((0 : Int) ≤ (if (6 : Int) < (IntKind.wrap .i64 ((if (1000 : Int) < (IntKind.wrap .i64 (x98 + 1)) then 1000 else (IntKind.wrap .i64 (x98 + 1))) - 1)) then 6 else (IntKind.wrap .i64 ((if (1000 : Int) < (IntKind.wrap .i64 (x98 + 1)) then 1000 else (IntKind.wrap .i64 (x98 + 1))) - 1)))) (bif (!a2) then (slices_Delete_impl_Item.f k y5 y24 (IntKind.wrap .i64 (y24 + 1)) (fun y99 => slices_DeleteFunc_string__impl_Done_1.f k y6 a1 (fun y100 => bif (decide (((y4.length : Int) : Int) < 60)) then (ZH (y4.length + ([[.d (.str a1), .d (.int .i64 (IntKind.wrap .i64 (a0_3 + (if (64 : Int) < (IntKind.wrap .i64 (1 * 2 ^ (min ((if (6 : Int) < (IntKind.wrap .i64 ((if (1000 : Int) < (IntKind.wrap .i64 (x98 + 1)) then 1000 else (IntKind.wrap .i64 (x98 + 1))) - 1)) then 6 else (IntKind.wrap .i64 ((if (1000 : Int) < (IntKind.wrap .i64 (x98 + 1)) then 1000 else (IntKind.wrap .i64 (x98 + 1))) - 1))) : Int).toNat 64))) then 64 else (IntKind.wrap .i64 (1 * 2 ^ (min ((if (6 : Int) < (IntKind.wrap .i64 ((if (1000 : Int) < (IntKind.wrap .i64 (x98 + 1)) then 1000 else (IntKind.wrap .i64 (x98 + 1))) - 1)) then 6 else (IntKind.wrap .i64 ((if (1000 : Int) < (IntKind.wrap .i64 (x98 + 1)) then 1000 else (IntKind.wrap .i64 (x98 + 1))) - 1))) : Int).toNat 64))))))), .d (.int .i64 (if (1000 : Int) < (IntKind.wrap .i64 (x98 + 1)) then 1000 else (IntKind.wrap .i64 (x98 + 1))))]] : List (List C)).length ≤ Z6) (K (y4 ++ ([[.d (.str a1), .d (.int .i64 (IntKind.wrap .i64 (a0_3 + (if (64 : Int) < (IntKind.wrap .i64 (1 * 2 ^ (min ((if (6 : Int) < (IntKind.wrap .i64 ((if (1000 : Int) < (IntKind.wrap .i64 (x98 + 1)) then 1000 else (IntKind.wrap .i64 (x98 + 1))) - 1)) then 6 else (IntKind.wrap .i64 ((if (1000 : Int) < (IntKind.wrap .i64 (x98 + 1)) then 1000 else (IntKind.wrap .i64 (x98 + 1))) - 1))) : Int).toNat 64))) then 64 else (IntKind.wrap .i64 (1 * 2 ^ (min ((if (6 : Int) < (IntKind.wrap .i64 ((if (1000 : Int) < (IntKind.wrap .i64 (x98 + 1)) then 1000 else (IntKind.wrap .i64 (x98 + 1))) - 1)) then 6 else (IntKind.wrap .i64 ((if (1000 : Int) < (IntKind.wrap .i64 (x98 + 1)) then 1000 else (IntKind.wrap .i64 (x98 + 1))) - 1))) : Int).toNat 64))))))), .d (.int .i64 (if (1000 : Int) < (IntKind.wrap .i64 (x98 + 1)) then 1000 else (IntKind.wrap .i64 (x98 + 1))))]] : List (List C))) y99 y100 y7 true)) else (K y4 y99 y100 y7 true)))) else (slices_Contains_string.f k a0_2 a1 (fun y101 => slices_Delete_impl_Item.f k y5 y24 (IntKind.wrap .i64 (y24 + 1)) (fun y102 => slices_DeleteFunc_string__impl_Done_1.f k y6 a1 (fun y103 => bif y101 then (bif (decide (((y4.length : Int) : Int) < 60)) then (ZH (y4.length + ([[.d (.str a1), .d (.int .i64 (IntKind.wrap .i64 (a0_3 + (if (64 : Int) < (IntKind.wrap .i64 (1 * 2 ^ (min ((if (6 : Int) < (IntKind.wrap .i64 ((if (1000 : Int) < (IntKind.wrap .i64 (x98 + 1)) then 1000 else (IntKind.wrap .i64 (x98 + 1))) - 1)) then 6 else (IntKind.wrap .i64 ((if (1000 : Int) < (IntKind.wrap .i64 (x98 + 1)) then 1000 else (IntKind.wrap .i64 (x98 + 1))) - 1))) : Int).toNat 64))) then 64 else (IntKind.wrap .i64 (1 * 2 ^ (min ((if (6 : Int) < (IntKind.wrap .i64 ((if (1000 : Int) < (IntKind.wrap .i64 (x98 + 1)) then 1000 else (IntKind.wrap .i64 (x98 + 1))) - 1)) then 6 else (IntKind.wrap .i64 ((if (1000 : Int) < (IntKind.wrap .i64 (x98 + 1)) then 1000 else (IntKind.wrap .i64 (x98 + 1))) - 1))) : Int).toNat 64))))))), .d (.int .i64 (if (1000 : Int) < (IntKind.wrap .i64 (x98 + 1)) then 1000 else (IntKind.wrap .i64 (x98 + 1))))]] : List (List C)).length ≤ Z6) (K (y4 ++ ([[.d (.str a1), .d (.int .i64 (IntKind.wrap .i64 (a0_3 + (if (64 : Int) < (IntKind.wrap .i64 (1 * 2 ^ (min ((if (6 : Int) < (IntKind.wrap .i64 ((if (1000 : Int) < (IntKind.wrap .i64 (x98 + 1)) then 1000 else (IntKind.wrap .i64 (x98 + 1))) - 1)) then 6 else (IntKind.wrap .i64 ((if (1000 : Int) < (IntKind.wrap .i64 (x98 + 1)) then 1000 else (IntKind.wrap .i64 (x98 + 1))) - 1))) : Int).toNat 64))) then 64 else (IntKind.wrap .i64 (1 * 2 ^ (min ((if (6 : Int) < (IntKind.wrap .i64 ((if (1000 : Int) < (IntKind.wrap .i64 (x98 + 1)) then 1000 else (IntKind.wrap .i64 (x98 + 1))) - 1)) then 6 else (IntKind.wrap .i64 ((if (1000 : Int) < (IntKind.wrap .i64 (x98 + 1)) then 1000 else (IntKind.wrap .i64 (x98 + 1))) - 1))) : Int).toNat 64))))))), .d (.int .i64 (if (1000 : Int) < (IntKind.wrap .i64 (x98 + 1)) then 1000 else (IntKind.wrap .i64 (x98 + 1))))]] : List (List C))) y102 y103 y7 true)) else (K y4 y102 y103 y7 true)) else (K y4 y102 y103 y7 true)))))))) else (bif (!a2) then (slices_Delete_impl_Item.f k y5 y24 (IntKind.wrap .i64 (y24 + 1)) (fun y104 => slices_DeleteFunc_string__impl_Done_1.f k y6 a1 (fun y105 => bif (decide (((y4.length : Int) : Int) < 60)) then (ZH (y4.length + ([[.d (.str a1), .d (.int .i64 a0_3), .d (.int .i64 0)]] : List (List C)).length ≤ Z6) (K (y4 ++ ([[.d (.str a1), .d (.int .i64 a0_3), .d (.int .i64 0)]] : List (List C))) y104 y105 y7 true)) else (K y4 y104 y105 y7 true)))) else (slices_Contains_string.f k a0_2 a1 (fun y106 => slices_Delete_impl_Item.f k y5 y24 (IntKind.wrap .i64 (y24 + 1)) (fun y107 => slices_DeleteFunc_string__impl_Done_1.f k y6 a1 (fun y108 => bif y106 then (bif (decide (((y4.length : Int) : Int) < 60)) then (ZH (y4.length + ([[.d (.str a1), .d (.int .i64 a0_3), .d (.int .i64 0)]] : List (List C)).length ≤ Z6) (K (y4 ++ ([[.d (.str a1), .d (.int .i64 a0_3), .d (.int .i64 0)]] : List (List C))) y107 y108 y7 true)) else (K y4 y107 y108 y7 true)) else (K y4 y107 y108 y7 true)))))))))))
noncomputable def impl_Done.t (k : Nat) (a0_0 : List (List D)) (a0_1 : List (List D)) (a0_2 : List (List D)) (a0_3 : Int) (a1 : ByteArray) (a2 : Bool) : Option ((List (List C)) × (List (List C)) × (List (List C)) × Int × Bool) := impl_Done.g k a0_0 a0_1 a0_2 a0_3 a1 a2 (fun z0 z1 z2 z3 z4 => some (z0, z1, z2, z3, z4))
noncomputable def impl_Done.f {β : Type} (k : Nat) (a0_0 : List (List D)) (a0_1 : List (List D)) (a0_2 : List (List D)) (a0_3 : Int) (a1 : ByteArray) (a2 : Bool) (K : (List (List C)) → (List (List C)) → (List (List C)) → Int → Bool → Option β) : Option β :=
  match impl_Done.t k a0_0 a0_1 a0_2 a0_3 a1 a2 with
  | some (z0, z1, z2, z3, z4) => K z0 z1 z2 z3 z4
  | none => none
noncomputable def impl_Done.as (a0_0 : List (List D)) (a0_1 : List (List D)) (a0_2 : List (List D)) (a0_3 : Int) (a1 : ByteArray) (a2 : Bool) : List A := [.agg [.sl a0_0, .sl a0_1, .sl a0_2, .int .i64 a0_3], .d (.str a1), .d (.bool a2)]
noncomputable def impl_Done.kt {β : Type} (a0_0 : List (List D)) (a0_1 : List (List D)) (a0_2 : List (List D)) (a0_3 : Int) (a1 : ByteArray) (a2 : Bool) (K0 : List (List C) → List Out → Option β) : (List (List C)) → (List (List C)) → (List (List C)) → Int → Bool → Option β := fun z0 z1 z2 z3 z4 => K0 [[.own z0, .own z1, .own z2, .d (.int .i64 z3)], [.d (.bool z4)]] []
noncomputable def impl_Done.e (k : Nat) : ZQ := { modes := [(.imm, 0), (.imm, 0), (.imm, 0)], rts := [44, 4], al := false, run := fun {β} l K => match l with | [.agg [.sl a0_0, .sl a0_1, .sl a0_2, .int .i64 a0_3], .d (.str a1), .d (.bool a2)] => impl_Done.f k a0_0 a0_1 a0_2 a0_3 a1 a2 (impl_Done.kt a0_0 a0_1 a0_2 a0_3 a1 a2 K) | _ => none }
noncomputable def impl_Done.E (k : Nat) : Env := fun g => bif g == 87 then some (impl_copyQueue.e k) else bif g == 98 then some (impl_itemAt.e k) else bif g == 88 then some (impl_QueueOk.e k) else bif g == 118 then some (slices_Delete_impl_Item.e k) else bif g == 120 then some (slices_DeleteFunc_string__impl_Done_1.e k) else bif g == 99 then some (slices_Contains_string.e k) else none
noncomputable def impl_Done.h : ZY := ⟨fun n => ⟨[], []⟩, fun _ => none, false, []⟩
theorem impl_Done.f_eq {β : Type} (k : Nat) (a0_0 : List (List D)) (a0_1 : List (List D)) (a0_2 : List (List D)) (a0_3 : Int) (a1 : ByteArray) (a2 : Bool) (K0 : List (List C) → List Out → Option β) : ZJ Try.prog (impl_Done.E k) impl_Done.h k Try.f43 (impl_Done.as a0_0 a0_1 a0_2 a0_3 a1 a2) K0 = impl_Done.g k a0_0 a0_1 a0_2 a0_3 a1 a2 (impl_Done.kt a0_0 a0_1 a0_2 a0_3 a1 a2 K0) := by kernel_rfl
noncomputable def impl_Done.dec (rs : List (List C)) (os : List Out) : Option ((List (List C)) × (List (List C)) × (List (List C)) × Int × Bool) := Zd rs fun c1 r2 => Zd c1 fun x3 l4 => ZaU x3 fun w0 => Zd l4 fun x5 l6 => ZaU x5 fun w1 => Zd l6 fun x7 l8 => ZaU x7 fun w2 => Zd l8 fun x9 l10 => cD x9 fun d11 => ZM .i64 d11 fun w3 => Ze l10 <| Zd r2 fun c12 r13 => Zd c12 fun x14 l15 => cD x14 fun d16 => ZaF d16 fun w4 => Ze l15 <| Ze r13 <| Ze os (some (w0, w1, w2, w3, w4))
theorem impl_Done.kt_dec (a0_0 : List (List D)) (a0_1 : List (List D)) (a0_2 : List (List D)) (a0_3 : Int) (a1 : ByteArray) (a2 : Bool) : impl_Done.kt a0_0 a0_1 a0_2 a0_3 a1 a2 impl_Done.dec = (fun z0 z1 z2 z3 z4 => some (z0, z1, z2, z3, z4)) := by kernel_rfl
theorem impl_Done.inj (a0_0 : List (List D)) (a0_1 : List (List D)) (a0_2 : List (List D)) (a0_3 : Int) (a1 : ByteArray) (a2 : Bool) {rs : List (List C)} {os : List Out} {z0 : List (List C)} {z1 : List (List C)} {z2 : List (List C)} {z3 : Int} {z4 : Bool} (h : impl_Done.dec rs os = some (z0, z1, z2, z3, z4)) (ho : Zo (impl_Done.as a0_0 a0_1 a0_2 a0_3 a1 a2) os) : rs = [[.own z0, .own z1, .own z2, .d (.int .i64 z3)], [.d (.bool z4)]] ∧ os = [] := by
  unfold impl_Done.dec at h
  obtain ⟨c1, r2, rfl, h1⟩ := Zb h
  obtain ⟨x3, l4, rfl, h2⟩ := Zb h1
  obtain ⟨w0, rfl, h3⟩ := ZN h2
  obtain ⟨x5, l6, rfl, h4⟩ := Zb h3
  obtain ⟨w1, rfl, h5⟩ := ZN h4
  obtain ⟨x7, l8, rfl, h6⟩ := Zb h5
  obtain ⟨w2, rfl, h7⟩ := ZN h6
  obtain ⟨x9, l10, rfl, h8⟩ := Zb h7
  obtain ⟨d11, rfl, h9⟩ := Zt h8
  obtain ⟨w3, rfl, h10⟩ := ZA h9
  obtain ⟨rfl, h11⟩ := Zc h10
  obtain ⟨c12, r13, rfl, h12⟩ := Zb h11
  obtain ⟨x14, l15, rfl, h13⟩ := Zb h12
  obtain ⟨d16, rfl, h14⟩ := Zt h13
  obtain ⟨w4, rfl, h15⟩ := Z0 h14
  obtain ⟨rfl, h16⟩ := Zc h15
  obtain ⟨rfl, h17⟩ := Zc h16
  obtain ⟨rfl, h18⟩ := Zc h17
  simp only [Option.some.injEq, Prod.mk.injEq] at h18
  obtain ⟨rfl, rfl, rfl, rfl, rfl⟩ := h18
  exact ⟨rfl, rfl⟩
theorem impl_Done.ok (k : Nat) : Zv Try.prog 43 (impl_Done.e k) := by
  refine Zu mix tyok (fn := Try.f43) (c := Zl Try.f43) Try.func43 (by kernel_rfl) (h := impl_Done.h) (k := k) (E := impl_Done.E k) (Zk (impl_copyQueue.ok k) (Zk (impl_itemAt.ok k) (Zk (impl_QueueOk.ok k) (Zk (slices_Delete_impl_Item.ok k) (Zk (slices_DeleteFunc_string__impl_Done_1.ok k) (Zk (slices_Contains_string.ok k) Zz)))))) (by kernel_rfl) (by kernel_rfl) rfl (Zq Try.func43 (by kernel_rfl)) ?_
  intro β l K r hr
  simp only [impl_Done.e] at hr
  split at hr
  case h_2 => cases hr
  unfold impl_Done.f at hr
  split at hr
  case h_2 => cases hr
  rename_i hz
  exact ⟨_, _, hr, _, impl_Done.dec, _, (impl_Done.f_eq k _ _ _ _ _ _ impl_Done.dec).trans (by rw [impl_Done.kt_dec]; exact hz), fun rs os h ho => impl_Done.inj _ _ _ _ _ _ h ho⟩
noncomputable def laws_eqItem.g {β : Type} (k : Nat) (a0_0 : ByteArray) (a0_1 : Int) (a0_2 : Int) (a1_0 : ByteArray) (a1_1 : Int) (a1_2 : Int) (K : Bool → Option β) : Option β :=
  bif (!(strEq a0_0 a1_0)) then (K false) else (bif ((a0_1 : Int) != a1_1) then (K false) else (bif ((a0_2 : Int) != a1_2) then (K false) else (K true)))
noncomputable def laws_eqItem.t (k : Nat) (a0_0 : ByteArray) (a0_1 : Int) (a0_2 : Int) (a1_0 : ByteArray) (a1_1 : Int) (a1_2 : Int) : Option (Bool) := laws_eqItem.g k a0_0 a0_1 a0_2 a1_0 a1_1 a1_2 (fun z0 => some z0)
noncomputable def laws_eqItem.f {β : Type} (k : Nat) (a0_0 : ByteArray) (a0_1 : Int) (a0_2 : Int) (a1_0 : ByteArray) (a1_1 : Int) (a1_2 : Int) (K : Bool → Option β) : Option β :=
  match laws_eqItem.t k a0_0 a0_1 a0_2 a1_0 a1_1 a1_2 with
  | some z0 => K z0
  | none => none
noncomputable def laws_eqItem.as (a0_0 : ByteArray) (a0_1 : Int) (a0_2 : Int) (a1_0 : ByteArray) (a1_1 : Int) (a1_2 : Int) : List A := [.agg [.str a0_0, .int .i64 a0_1, .int .i64 a0_2], .agg [.str a1_0, .int .i64 a1_1, .int .i64 a1_2]]
noncomputable def laws_eqItem.kt {β : Type} (a0_0 : ByteArray) (a0_1 : Int) (a0_2 : Int) (a1_0 : ByteArray) (a1_1 : Int) (a1_2 : Int) (K0 : List (List C) → List Out → Option β) : Bool → Option β := fun z0 => K0 [[.d (.bool z0)]] []
noncomputable def laws_eqItem.e (k : Nat) : ZQ := { modes := [(.imm, 0), (.imm, 0)], rts := [4], al := false, run := fun {β} l K => match l with | [.agg [.str a0_0, .int .i64 a0_1, .int .i64 a0_2], .agg [.str a1_0, .int .i64 a1_1, .int .i64 a1_2]] => laws_eqItem.f k a0_0 a0_1 a0_2 a1_0 a1_1 a1_2 (laws_eqItem.kt a0_0 a0_1 a0_2 a1_0 a1_1 a1_2 K) | _ => none }
noncomputable def laws_eqItem.E (k : Nat) : Env := fun g => none
noncomputable def laws_eqItem.h : ZY := ⟨fun n => ⟨[], []⟩, fun _ => none, false, []⟩
theorem laws_eqItem.f_eq {β : Type} (k : Nat) (a0_0 : ByteArray) (a0_1 : Int) (a0_2 : Int) (a1_0 : ByteArray) (a1_1 : Int) (a1_2 : Int) (K0 : List (List C) → List Out → Option β) : ZJ Try.prog (laws_eqItem.E k) laws_eqItem.h k Try.f175 (laws_eqItem.as a0_0 a0_1 a0_2 a1_0 a1_1 a1_2) K0 = laws_eqItem.g k a0_0 a0_1 a0_2 a1_0 a1_1 a1_2 (laws_eqItem.kt a0_0 a0_1 a0_2 a1_0 a1_1 a1_2 K0) := by kernel_rfl
noncomputable def laws_eqItem.dec (rs : List (List C)) (os : List Out) : Option (Bool) := Zd rs fun c1 r2 => Zd c1 fun x3 l4 => cD x3 fun d5 => ZaF d5 fun w0 => Ze l4 <| Ze r2 <| Ze os (some w0)
theorem laws_eqItem.kt_dec (a0_0 : ByteArray) (a0_1 : Int) (a0_2 : Int) (a1_0 : ByteArray) (a1_1 : Int) (a1_2 : Int) : laws_eqItem.kt a0_0 a0_1 a0_2 a1_0 a1_1 a1_2 laws_eqItem.dec = (fun z0 => some z0) := by kernel_rfl
theorem laws_eqItem.inj (a0_0 : ByteArray) (a0_1 : Int) (a0_2 : Int) (a1_0 : ByteArray) (a1_1 : Int) (a1_2 : Int) {rs : List (List C)} {os : List Out} {z0 : Bool} (h : laws_eqItem.dec rs os = some z0) (ho : Zo (laws_eqItem.as a0_0 a0_1 a0_2 a1_0 a1_1 a1_2) os) : rs = [[.d (.bool z0)]] ∧ os = [] := by
  unfold laws_eqItem.dec at h
  obtain ⟨c1, r2, rfl, h1⟩ := Zb h
  obtain ⟨x3, l4, rfl, h2⟩ := Zb h1
  obtain ⟨d5, rfl, h3⟩ := Zt h2
  obtain ⟨w0, rfl, h4⟩ := Z0 h3
  obtain ⟨rfl, h5⟩ := Zc h4
  obtain ⟨rfl, h6⟩ := Zc h5
  obtain ⟨rfl, h7⟩ := Zc h6
  obtain rfl := Option.some.inj h7
  exact ⟨rfl, rfl⟩
theorem laws_eqItem.ok (k : Nat) : Zv Try.prog 175 (laws_eqItem.e k) := by
  refine Zu mix tyok (fn := Try.f175) (c := Zl Try.f175) Try.func175 (by kernel_rfl) (h := laws_eqItem.h) (k := k) (E := laws_eqItem.E k) Zz (by kernel_rfl) (by kernel_rfl) rfl (Zq Try.func175 (by kernel_rfl)) ?_
  intro β l K r hr
  simp only [laws_eqItem.e] at hr
  split at hr
  case h_2 => cases hr
  unfold laws_eqItem.f at hr
  split at hr
  case h_2 => cases hr
  rename_i hz
  exact ⟨_, _, hr, _, laws_eqItem.dec, _, (laws_eqItem.f_eq k _ _ _ _ _ _ laws_eqItem.dec).trans (by rw [laws_eqItem.kt_dec]; exact hz), fun rs os h ho => laws_eqItem.inj _ _ _ _ _ _ h ho⟩
noncomputable def laws_eqItemS.l0 {β : Type} (k : Nat) (v0_0 : List (List D)) (v0_1 : List (List D)) (K : Bool → Option β) (L0 : Int → Option β) (v : Int) : Option β :=
  match v with
  | v0_2 => bif (decide ((v0_2 : Int) < (v0_0.length : Int))) then (ZX v0_0 v0_2 fun c22 => Zd c22 fun d23 r24 => Zan d23 fun x25 => Zd r24 fun d26 r27 => ZM .i64 d26 fun x28 => Zd r27 fun d29 r30 => ZM .i64 d29 fun x31 => Ze r30 (ZX v0_1 v0_2 fun c32 => Zd c32 fun d33 r34 => Zan d33 fun x35 => Zd r34 fun d36 r37 => ZM .i64 d36 fun x38 => Zd r37 fun d39 r40 => ZM .i64 d39 fun x41 => Ze r40 (laws_eqItem.f k x25 x28 x31 x35 x38 x41 (fun y42 => bif (!y42) then (K false) else (L0 (IntKind.wrap .i64 (v0_2 + 1))))))) else (K true)
noncomputable def laws_eqItemS.g {β : Type} (k : Nat) (a0 : List (List D)) (a1 : List (List D)) (K : Bool → Option β) : Option β :=
  bif (((a0.length : Int) : Int) != (a1.length : Int)) then (K false) else (Z4 (laws_eqItemS.l0 k a0 a1 K) k (0))
noncomputable def laws_eqItemS.t (k : Nat) (a0 : List (List D)) (a1 : List (List D)) : Option (Bool) := laws_eqItemS.g k a0 a1 (fun z0 => some z0)
noncomputable def laws_eqItemS.f {β : Type} (k : Nat) (a0 : List (List D)) (a1 : List (List D)) (K : Bool → Option β) : Option β :=
  match laws_eqItemS.t k a0 a1 with
  | some z0 => K z0
  | none => none
noncomputable def laws_eqItemS.as (a0 : List (List D)) (a1 : List (List D)) : List A := [.d (.sl a0), .d (.sl a1)]
noncomputable def laws_eqItemS.kt {β : Type} (a0 : List (List D)) (a1 : List (List D)) (K0 : List (List C) → List Out → Option β) : Bool → Option β := fun z0 => K0 [[.d (.bool z0)]] []
noncomputable def laws_eqItemS.e (k : Nat) : ZQ := { modes := [(.imm, 0), (.imm, 0)], rts := [4], al := false, run := fun {β} l K => match l with | [.d (.sl a0), .d (.sl a1)] => laws_eqItemS.f k a0 a1 (laws_eqItemS.kt a0 a1 K) | _ => none }
noncomputable def laws_eqItemS.E (k : Nat) : Env := fun g => bif g == 175 then some (laws_eqItem.e k) else none
noncomputable def laws_eqItemS.h : ZY := ⟨fun n => bif n == 4 then ⟨[(0, .asis), (1, .asis), (5, .asis)], []⟩ else ⟨[], []⟩, fun _ => none, false, []⟩
noncomputable def laws_eqItemS.s0 (v0_0 : List (List D)) (v0_1 : List (List D)) (v : Int) : St :=
  match v with
  | v0_2 => ⟨[.d false (.sl v0_0), .d false (.sl v0_1), .any, .any, .any, .d true (.int .i64 v0_2), .any, .any, .any, .any, .any, .any, .any, .any, .any, .any, .any, .any, .any, .any, .any, .any, .any, .any, .any, .any, .any], []⟩
noncomputable def laws_eqItemS.b0 {β : Type} (k : Nat) : St → (Ex → St → Option β) → Option β := fun s K => den Try.prog (laws_eqItemS.E k) laws_eqItemS.h.H laws_eqItemS.h.J k (Zad [1, 1, 0, 1, 0, 0] (Zl Try.f89)) s K
noncomputable def laws_eqItemS.c0 {β : Type} (k : Nat) (a0 : List (List D)) (a1 : List (List D)) (K0 : List (List C) → List Out → Option β) : Ex → St → Option β := Zae Try.prog (laws_eqItemS.E k) laws_eqItemS.h k [1, 1, 0, 1, 0] (Zl Try.f89) (Zak Try.prog Try.f89 laws_eqItemS.h (laws_eqItemS.as a0 a1) K0)
theorem laws_eqItemS.l0_eq {β : Type} (k : Nat) (a0 : List (List D)) (a1 : List (List D)) (K0 : List (List C) → List Out → Option β) (v0_0 : List (List D)) (v0_1 : List (List D)) : ∀ (kk : Nat) (v : Int), Zx (laws_eqItemS.b0 k) (laws_eqItemS.h.H 4) kk (laws_eqItemS.s0 v0_0 v0_1 v) (laws_eqItemS.c0 k a0 a1 K0) = Z4 (laws_eqItemS.l0 k v0_0 v0_1 (laws_eqItemS.kt a0 a1 K0)) kk v :=
  Z9 (laws_eqItemS.s0 v0_0 v0_1) _ (fun L0 v => by kernel_rfl)
noncomputable def laws_eqItemS.m {β : Type} (k : Nat) (a0 : List (List D)) (a1 : List (List D)) (K0 : List (List C) → List Out → Option β) (F : ((List (List D)) → (List (List D)) → Int → Option β)) : Option β :=
  bif (((a0.length : Int) : Int) != (a1.length : Int)) then ((laws_eqItemS.kt a0 a1 K0) false) else ((F) a0 a1 (0))
theorem laws_eqItemS.f_eq {β : Type} (k : Nat) (a0 : List (List D)) (a1 : List (List D)) (K0 : List (List C) → List Out → Option β) : ZJ Try.prog (laws_eqItemS.E k) laws_eqItemS.h k Try.f89 (laws_eqItemS.as a0 a1) K0 = laws_eqItemS.g k a0 a1 (laws_eqItemS.kt a0 a1 K0) := Eq.trans (b := (laws_eqItemS.m k a0 a1 K0) (fun (v0_0 : List (List D)) (v0_1 : List (List D)) (v : Int) => Zx (laws_eqItemS.b0 k) (laws_eqItemS.h.H 4) k (laws_eqItemS.s0 v0_0 v0_1 v) (laws_eqItemS.c0 k a0 a1 K0))) (by kernel_rfl) (Eq.trans (congrArg (laws_eqItemS.m k a0 a1 K0) (funext fun v0_0 => funext fun v0_1 => funext fun v => laws_eqItemS.l0_eq k a0 a1 K0 v0_0 v0_1 k v)) (by kernel_rfl))
noncomputable def laws_eqItemS.dec (rs : List (List C)) (os : List Out) : Option (Bool) := Zd rs fun c1 r2 => Zd c1 fun x3 l4 => cD x3 fun d5 => ZaF d5 fun w0 => Ze l4 <| Ze r2 <| Ze os (some w0)
theorem laws_eqItemS.kt_dec (a0 : List (List D)) (a1 : List (List D)) : laws_eqItemS.kt a0 a1 laws_eqItemS.dec = (fun z0 => some z0) := by kernel_rfl
theorem laws_eqItemS.inj (a0 : List (List D)) (a1 : List (List D)) {rs : List (List C)} {os : List Out} {z0 : Bool} (h : laws_eqItemS.dec rs os = some z0) (ho : Zo (laws_eqItemS.as a0 a1) os) : rs = [[.d (.bool z0)]] ∧ os = [] := by
  unfold laws_eqItemS.dec at h
  obtain ⟨c1, r2, rfl, h1⟩ := Zb h
  obtain ⟨x3, l4, rfl, h2⟩ := Zb h1
  obtain ⟨d5, rfl, h3⟩ := Zt h2
  obtain ⟨w0, rfl, h4⟩ := Z0 h3
  obtain ⟨rfl, h5⟩ := Zc h4
  obtain ⟨rfl, h6⟩ := Zc h5
  obtain ⟨rfl, h7⟩ := Zc h6
  obtain rfl := Option.some.inj h7
  exact ⟨rfl, rfl⟩
theorem laws_eqItemS.ok (k : Nat) : Zv Try.prog 89 (laws_eqItemS.e k) := by
  refine Zu mix tyok (fn := Try.f89) (c := Zl Try.f89) Try.func89 (by kernel_rfl) (h := laws_eqItemS.h) (k := k) (E := laws_eqItemS.E k) (Zk (laws_eqItem.ok k) Zz) (by kernel_rfl) (by kernel_rfl) rfl (Zq Try.func89 (by kernel_rfl)) ?_
  intro β l K r hr
  simp only [laws_eqItemS.e] at hr
  split at hr
  case h_2 => cases hr
  unfold laws_eqItemS.f at hr
  split at hr
  case h_2 => cases hr
  rename_i hz
  exact ⟨_, _, hr, _, laws_eqItemS.dec, _, (laws_eqItemS.f_eq k _ _ laws_eqItemS.dec).trans (by rw [laws_eqItemS.kt_dec]; exact hz), fun rs os h ho => laws_eqItemS.inj _ _ h ho⟩
noncomputable def laws_eqStringS.l0 {β : Type} (k : Nat) (v0_0 : List (List D)) (v0_1 : List (List D)) (K : Bool → Option β) (L0 : Int → Option β) (v : Int) : Option β :=
  match v with
  | v0_2 => bif (decide ((v0_2 : Int) < (v0_0.length : Int))) then (ZX v0_0 v0_2 fun c9 => Zd c9 fun d10 r11 => Zan d10 fun x12 => Ze r11 (ZX v0_1 v0_2 fun c13 => Zd c13 fun d14 r15 => Zan d14 fun x16 => Ze r15 (bif (!(strEq x12 x16)) then (K false) else (L0 (IntKind.wrap .i64 (v0_2 + 1)))))) else (K true)
noncomputable def laws_eqStringS.g {β : Type} (k : Nat) (a0 : List (List D)) (a1 : List (List D)) (K : Bool → Option β) : Option β :=
  bif (((a0.length : Int) : Int) != (a1.length : Int)) then (K false) else (Z4 (laws_eqStringS.l0 k a0 a1 K) k (0))
noncomputable def laws_eqStringS.t (k : Nat) (a0 : List (List D)) (a1 : List (List D)) : Option (Bool) := laws_eqStringS.g k a0 a1 (fun z0 => some z0)
noncomputable def laws_eqStringS.f {β : Type} (k : Nat) (a0 : List (List D)) (a1 : List (List D)) (K : Bool → Option β) : Option β :=
  match laws_eqStringS.t k a0 a1 with
  | some z0 => K z0
  | none => none
noncomputable def laws_eqStringS.as (a0 : List (List D)) (a1 : List (List D)) : List A := [.d (.sl a0), .d (.sl a1)]
noncomputable def laws_eqStringS.kt {β : Type} (a0 : List (List D)) (a1 : List (List D)) (K0 : List (List C) → List Out → Option β) : Bool → Option β := fun z0 => K0 [[.d (.bool z0)]] []
noncomputable def laws_eqStringS.e (k : Nat) : ZQ := { modes := [(.imm, 0), (.imm, 0)], rts := [4], al := false, run := fun {β} l K => match l with | [.d (.sl a0), .d (.sl a1)] => laws_eqStringS.f k a0 a1 (laws_eqStringS.kt a0 a1 K) | _ => none }
noncomputable def laws_eqStringS.E (k : Nat) : Env := fun g => none
noncomputable def laws_eqStringS.h : ZY := ⟨fun n => bif n == 4 then ⟨[(0, .asis), (1, .asis), (5, .asis)], []⟩ else ⟨[], []⟩, fun _ => none, false, []⟩
noncomputable def laws_eqStringS.s0 (v0_0 : List (List D)) (v0_1 : List (List D)) (v : Int) : St :=
  match v with
  | v0_2 => ⟨[.d false (.sl v0_0), .d false (.sl v0_1), .any, .any, .any, .d true (.int .i64 v0_2), .any, .any, .any, .any, .any, .any, .any, .any, .any, .any, .any, .any, .any, .any, .any, .any, .any, .any, .any, .any], []⟩
noncomputable def laws_eqStringS.b0 {β : Type} (k : Nat) : St → (Ex → St → Option β) → Option β := fun s K => den Try.prog (laws_eqStringS.E k) laws_eqStringS.h.H laws_eqStringS.h.J k (Zad [1, 1, 0, 1, 0, 0] (Zl Try.f82)) s K
noncomputable def laws_eqStringS.c0 {β : Type} (k : Nat) (a0 : List (List D)) (a1 : List (List D)) (K0 : List (List C) → List Out → Option β) : Ex → St → Option β := Zae Try.prog (laws_eqStringS.E k) laws_eqStringS.h k [1, 1, 0, 1, 0] (Zl Try.f82) (Zak Try.prog Try.f82 laws_eqStringS.h (laws_eqStringS.as a0 a1) K0)
theorem laws_eqStringS.l0_eq {β : Type} (k : Nat) (a0 : List (List D)) (a1 : List (List D)) (K0 : List (List C) → List Out → Option β) (v0_0 : List (List D)) (v0_1 : List (List D)) : ∀ (kk : Nat) (v : Int), Zx (laws_eqStringS.b0 k) (laws_eqStringS.h.H 4) kk (laws_eqStringS.s0 v0_0 v0_1 v) (laws_eqStringS.c0 k a0 a1 K0) = Z4 (laws_eqStringS.l0 k v0_0 v0_1 (laws_eqStringS.kt a0 a1 K0)) kk v :=
  Z9 (laws_eqStringS.s0 v0_0 v0_1) _ (fun L0 v => by kernel_rfl)
noncomputable def laws_eqStringS.m {β : Type} (k : Nat) (a0 : List (List D)) (a1 : List (List D)) (K0 : List (List C) → List Out → Option β) (F : ((List (List D)) → (List (List D)) → Int → Option β)) : Option β :=
  bif (((a0.length : Int) : Int) != (a1.length : Int)) then ((laws_eqStringS.kt a0 a1 K0) false) else ((F) a0 a1 (0))
theorem laws_eqStringS.f_eq {β : Type} (k : Nat) (a0 : List (List D)) (a1 : List (List D)) (K0 : List (List C) → List Out → Option β) : ZJ Try.prog (laws_eqStringS.E k) laws_eqStringS.h k Try.f82 (laws_eqStringS.as a0 a1) K0 = laws_eqStringS.g k a0 a1 (laws_eqStringS.kt a0 a1 K0) := Eq.trans (b := (laws_eqStringS.m k a0 a1 K0) (fun (v0_0 : List (List D)) (v0_1 : List (List D)) (v : Int) => Zx (laws_eqStringS.b0 k) (laws_eqStringS.h.H 4) k (laws_eqStringS.s0 v0_0 v0_1 v) (laws_eqStringS.c0 k a0 a1 K0))) (by kernel_rfl) (Eq.trans (congrArg (laws_eqStringS.m k a0 a1 K0) (funext fun v0_0 => funext fun v0_1 => funext fun v => laws_eqStringS.l0_eq k a0 a1 K0 v0_0 v0_1 k v)) (by kernel_rfl))
noncomputable def laws_eqStringS.dec (rs : List (List C)) (os : List Out) : Option (Bool) := Zd rs fun c1 r2 => Zd c1 fun x3 l4 => cD x3 fun d5 => ZaF d5 fun w0 => Ze l4 <| Ze r2 <| Ze os (some w0)
theorem laws_eqStringS.kt_dec (a0 : List (List D)) (a1 : List (List D)) : laws_eqStringS.kt a0 a1 laws_eqStringS.dec = (fun z0 => some z0) := by kernel_rfl
theorem laws_eqStringS.inj (a0 : List (List D)) (a1 : List (List D)) {rs : List (List C)} {os : List Out} {z0 : Bool} (h : laws_eqStringS.dec rs os = some z0) (ho : Zo (laws_eqStringS.as a0 a1) os) : rs = [[.d (.bool z0)]] ∧ os = [] := by
  unfold laws_eqStringS.dec at h
  obtain ⟨c1, r2, rfl, h1⟩ := Zb h
  obtain ⟨x3, l4, rfl, h2⟩ := Zb h1
  obtain ⟨d5, rfl, h3⟩ := Zt h2
  obtain ⟨w0, rfl, h4⟩ := Z0 h3
  obtain ⟨rfl, h5⟩ := Zc h4
  obtain ⟨rfl, h6⟩ := Zc h5
  obtain ⟨rfl, h7⟩ := Zc h6
  obtain rfl := Option.some.inj h7
  exact ⟨rfl, rfl⟩
theorem laws_eqStringS.ok (k : Nat) : Zv Try.prog 82 (laws_eqStringS.e k) := by
  refine Zu mix tyok (fn := Try.f82) (c := Zl Try.f82) Try.func82 (by kernel_rfl) (h := laws_eqStringS.h) (k := k) (E := laws_eqStringS.E k) Zz (by kernel_rfl) (by kernel_rfl) rfl (Zq Try.func82 (by kernel_rfl)) ?_
  intro β l K r hr
  simp only [laws_eqStringS.e] at hr
  split at hr
  case h_2 => cases hr
  unfold laws_eqStringS.f at hr
  split at hr
  case h_2 => cases hr
  rename_i hz
  exact ⟨_, _, hr, _, laws_eqStringS.dec, _, (laws_eqStringS.f_eq k _ _ laws_eqStringS.dec).trans (by rw [laws_eqStringS.kt_dec]; exact hz), fun rs os h ho => laws_eqStringS.inj _ _ h ho⟩
noncomputable def laws_eqQueue.g {β : Type} (k : Nat) (a0_0 : List (List D)) (a0_1 : List (List D)) (a0_2 : List (List D)) (a0_3 : Int) (a1_0 : List (List D)) (a1_1 : List (List D)) (a1_2 : List (List D)) (a1_3 : Int) (K : Bool → Option β) : Option β :=
  laws_eqItemS.f k a0_0 a1_0 (fun y43 => bif (!y43) then (K false) else (laws_eqItemS.f k a0_1 a1_1 (fun y44 => bif (!y44) then (K false) else (laws_eqStringS.f k a0_2 a1_2 (fun y45 => bif (!y45) then (K false) else (bif ((a0_3 : Int) != a1_3) then (K false) else (K true)))))))
noncomputable def laws_eqQueue.t (k : Nat) (a0_0 : List (List D)) (a0_1 : List (List D)) (a0_2 : List (List D)) (a0_3 : Int) (a1_0 : List (List D)) (a1_1 : List (List D)) (a1_2 : List (List D)) (a1_3 : Int) : Option (Bool) := laws_eqQueue.g k a0_0 a0_1 a0_2 a0_3 a1_0 a1_1 a1_2 a1_3 (fun z0 => some z0)
noncomputable def laws_eqQueue.f {β : Type} (k : Nat) (a0_0 : List (List D)) (a0_1 : List (List D)) (a0_2 : List (List D)) (a0_3 : Int) (a1_0 : List (List D)) (a1_1 : List (List D)) (a1_2 : List (List D)) (a1_3 : Int) (K : Bool → Option β) : Option β :=
  match laws_eqQueue.t k a0_0 a0_1 a0_2 a0_3 a1_0 a1_1 a1_2 a1_3 with
  | some z0 => K z0
  | none => none
noncomputable def laws_eqQueue.as (a0_0 : List (List D)) (a0_1 : List (List D)) (a0_2 : List (List D)) (a0_3 : Int) (a1_0 : List (List D)) (a1_1 : List (List D)) (a1_2 : List (List D)) (a1_3 : Int) : List A := [.agg [.sl a0_0, .sl a0_1, .sl a0_2, .int .i64 a0_3], .agg [.sl a1_0, .sl a1_1, .sl a1_2, .int .i64 a1_3]]
noncomputable def laws_eqQueue.kt {β : Type} (a0_0 : List (List D)) (a0_1 : List (List D)) (a0_2 : List (List D)) (a0_3 : Int) (a1_0 : List (List D)) (a1_1 : List (List D)) (a1_2 : List (List D)) (a1_3 : Int) (K0 : List (List C) → List Out → Option β) : Bool → Option β := fun z0 => K0 [[.d (.bool z0)]] []
noncomputable def laws_eqQueue.e (k : Nat) : ZQ := { modes := [(.imm, 0), (.imm, 0)], rts := [4], al := false, run := fun {β} l K => match l with | [.agg [.sl a0_0, .sl a0_1, .sl a0_2, .int .i64 a0_3], .agg [.sl a1_0, .sl a1_1, .sl a1_2, .int .i64 a1_3]] => laws_eqQueue.f k a0_0 a0_1 a0_2 a0_3 a1_0 a1_1 a1_2 a1_3 (laws_eqQueue.kt a0_0 a0_1 a0_2 a0_3 a1_0 a1_1 a1_2 a1_3 K) | _ => none }
noncomputable def laws_eqQueue.E (k : Nat) : Env := fun g => bif g == 89 then some (laws_eqItemS.e k) else bif g == 82 then some (laws_eqStringS.e k) else none
noncomputable def laws_eqQueue.h : ZY := ⟨fun n => ⟨[], []⟩, fun _ => none, false, []⟩
theorem laws_eqQueue.f_eq {β : Type} (k : Nat) (a0_0 : List (List D)) (a0_1 : List (List D)) (a0_2 : List (List D)) (a0_3 : Int) (a1_0 : List (List D)) (a1_1 : List (List D)) (a1_2 : List (List D)) (a1_3 : Int) (K0 : List (List C) → List Out → Option β) : ZJ Try.prog (laws_eqQueue.E k) laws_eqQueue.h k Try.f24 (laws_eqQueue.as a0_0 a0_1 a0_2 a0_3 a1_0 a1_1 a1_2 a1_3) K0 = laws_eqQueue.g k a0_0 a0_1 a0_2 a0_3 a1_0 a1_1 a1_2 a1_3 (laws_eqQueue.kt a0_0 a0_1 a0_2 a0_3 a1_0 a1_1 a1_2 a1_3 K0) := by kernel_rfl
noncomputable def laws_eqQueue.dec (rs : List (List C)) (os : List Out) : Option (Bool) := Zd rs fun c1 r2 => Zd c1 fun x3 l4 => cD x3 fun d5 => ZaF d5 fun w0 => Ze l4 <| Ze r2 <| Ze os (some w0)
theorem laws_eqQueue.kt_dec (a0_0 : List (List D)) (a0_1 : List (List D)) (a0_2 : List (List D)) (a0_3 : Int) (a1_0 : List (List D)) (a1_1 : List (List D)) (a1_2 : List (List D)) (a1_3 : Int) : laws_eqQueue.kt a0_0 a0_1 a0_2 a0_3 a1_0 a1_1 a1_2 a1_3 laws_eqQueue.dec = (fun z0 => some z0) := by kernel_rfl
theorem laws_eqQueue.inj (a0_0 : List (List D)) (a0_1 : List (List D)) (a0_2 : List (List D)) (a0_3 : Int) (a1_0 : List (List D)) (a1_1 : List (List D)) (a1_2 : List (List D)) (a1_3 : Int) {rs : List (List C)} {os : List Out} {z0 : Bool} (h : laws_eqQueue.dec rs os = some z0) (ho : Zo (laws_eqQueue.as a0_0 a0_1 a0_2 a0_3 a1_0 a1_1 a1_2 a1_3) os) : rs = [[.d (.bool z0)]] ∧ os = [] := by
  unfold laws_eqQueue.dec at h
  obtain ⟨c1, r2, rfl, h1⟩ := Zb h
  obtain ⟨x3, l4, rfl, h2⟩ := Zb h1
  obtain ⟨d5, rfl, h3⟩ := Zt h2
  obtain ⟨w0, rfl, h4⟩ := Z0 h3
  obtain ⟨rfl, h5⟩ := Zc h4
  obtain ⟨rfl, h6⟩ := Zc h5
  obtain ⟨rfl, h7⟩ := Zc h6
  obtain rfl := Option.some.inj h7
  exact ⟨rfl, rfl⟩
theorem laws_eqQueue.ok (k : Nat) : Zv Try.prog 24 (laws_eqQueue.e k) := by
  refine Zu mix tyok (fn := Try.f24) (c := Zl Try.f24) Try.func24 (by kernel_rfl) (h := laws_eqQueue.h) (k := k) (E := laws_eqQueue.E k) (Zk (laws_eqItemS.ok k) (Zk (laws_eqStringS.ok k) Zz)) (by kernel_rfl) (by kernel_rfl) rfl (Zq Try.func24 (by kernel_rfl)) ?_
  intro β l K r hr
  simp only [laws_eqQueue.e] at hr
  split at hr
  case h_2 => cases hr
  unfold laws_eqQueue.f at hr
  split at hr
  case h_2 => cases hr
  rename_i hz
  exact ⟨_, _, hr, _, laws_eqQueue.dec, _, (laws_eqQueue.f_eq k _ _ _ _ _ _ _ _ laws_eqQueue.dec).trans (by rw [laws_eqQueue.kt_dec]; exact hz), fun rs os h ho => laws_eqQueue.inj _ _ _ _ _ _ _ _ h ho⟩
noncomputable def laws_markText.l0 {β : Type} (k : Nat) (K : ByteArray → Option β) (L0 : (Int × ByteArray) → Option β) (v : Int × ByteArray) : Option β :=
  match v with
  | (v0_0, v0_1) => bif (decide ((v0_0 : Int) > 0)) then (ZH ((10 : Int) ≠ 0) (ZH ((((⟨#[UInt8.ofNat (Int.toNat (IntKind.wrap .u8 (IntKind.wrap .i64 (48 + (Int.tmod v0_0 10)))))]⟩ : ByteArray).size + v0_1.size : Nat) : Int) ≤ 9223372036854775807) (ZH ((10 : Int) ≠ 0) (L0 (IntKind.wrap .i64 (Int.tdiv v0_0 10), (⟨#[UInt8.ofNat (Int.toNat (IntKind.wrap .u8 (IntKind.wrap .i64 (48 + (Int.tmod v0_0 10)))))]⟩ : ByteArray) ++ v0_1))))) else (ZH ((((⟨#[109]⟩ : ByteArray).size + v0_1.size : Nat) : Int) ≤ 9223372036854775807) (K ((⟨#[109]⟩ : ByteArray) ++ v0_1)))
noncomputable def laws_markText.g {β : Type} (k : Nat) (a0 : Int) (K : ByteArray → Option β) : Option β :=
  bif (decide ((a0 : Int) ≤ 0)) then (K (⟨#[109, 48]⟩ : ByteArray)) else (Z4 (laws_markText.l0 k K) k (a0, (⟨#[]⟩ : ByteArray)))
noncomputable def laws_markText.t (k : Nat) (a0 : Int) : Option (ByteArray) := laws_markText.g k a0 (fun z0 => some z0)
noncomputable def laws_markText.f {β : Type} (k : Nat) (a0 : Int) (K : ByteArray → Option β) : Option β :=
  match laws_markText.t k a0 with
  | some z0 => K z0
  | none => none
noncomputable def laws_markText.as (a0 : Int) : List A := [.d (.int .i64 a0)]
noncomputable def laws_markText.kt {β : Type} (a0 : Int) (K0 : List (List C) → List Out → Option β) : ByteArray → Option β := fun z0 => K0 [[.d (.str z0)]] []
noncomputable def laws_markText.e (k : Nat) : ZQ := { modes := [(.imm, 0)], rts := [9], al := false, run := fun {β} l K => match l with | [.d (.int .i64 a0)] => laws_markText.f k a0 (laws_markText.kt a0 K) | _ => none }
noncomputable def laws_markText.E (k : Nat) : Env := fun g => none
noncomputable def laws_markText.h : ZY := ⟨fun n => bif n == 4 then ⟨[(0, .dat false), (3, .asis)], []⟩ else ⟨[], []⟩, fun _ => none, false, []⟩
noncomputable def laws_markText.s0 (v : Int × ByteArray) : St :=
  match v with
  | (v0_0, v0_1) => ⟨[.d false (.int .i64 v0_0), .any, .any, .d true (.str v0_1), .any, .any, .any, .any, .any, .any, .any, .any, .any, .any, .any, .any, .any, .any, .any, .any], []⟩
noncomputable def laws_markText.b0 {β : Type} (k : Nat) : St → (Ex → St → Option β) → Option β := fun s K => den Try.prog (laws_markText.E k) laws_markText.h.H laws_markText.h.J k (Zad [1, 1, 1, 0, 0, 0] (Zl Try.f113)) s K
noncomputable def laws_markText.c0 {β : Type} (k : Nat) (a0 : Int) (K0 : List (List C) → List Out → Option β) : Ex → St → Option β := Zae Try.prog (laws_markText.E k) laws_markText.h k [1, 1, 1, 0, 0] (Zl Try.f113) (Zak Try.prog Try.f113 laws_markText.h (laws_markText.as a0) K0)
theorem laws_markText.l0_eq {β : Type} (k : Nat) (a0 : Int) (K0 : List (List C) → List Out → Option β) : ∀ (kk : Nat) (v : Int × ByteArray), Zx (laws_markText.b0 k) (laws_markText.h.H 4) kk (laws_markText.s0 v) (laws_markText.c0 k a0 K0) = Z4 (laws_markText.l0 k (laws_markText.kt a0 K0)) kk v :=
  Z9 (laws_markText.s0) _ (fun L0 v => by obtain ⟨v0_0, v0_1⟩ := v; kernel_rfl)
noncomputable def laws_markText.m {β : Type} (k : Nat) (a0 : Int) (K0 : List (List C) → List Out → Option β) (F : ((Int × ByteArray) → Option β)) : Option β :=
  bif (decide ((a0 : Int) ≤ 0)) then ((laws_markText.kt a0 K0) (⟨#[109, 48]⟩ : ByteArray)) else ((F) (a0, (⟨#[]⟩ : ByteArray)))
theorem laws_markText.f_eq {β : Type} (k : Nat) (a0 : Int) (K0 : List (List C) → List Out → Option β) : ZJ Try.prog (laws_markText.E k) laws_markText.h k Try.f113 (laws_markText.as a0) K0 = laws_markText.g k a0 (laws_markText.kt a0 K0) := Eq.trans (b := (laws_markText.m k a0 K0) (fun (v : Int × ByteArray) => Zx (laws_markText.b0 k) (laws_markText.h.H 4) k (laws_markText.s0 v) (laws_markText.c0 k a0 K0))) (by kernel_rfl) (Eq.trans (congrArg (laws_markText.m k a0 K0) (funext fun v => laws_markText.l0_eq k a0 K0 k v)) (by kernel_rfl))
noncomputable def laws_markText.dec (rs : List (List C)) (os : List Out) : Option (ByteArray) := Zd rs fun c1 r2 => Zd c1 fun x3 l4 => cD x3 fun d5 => Zan d5 fun w0 => Ze l4 <| Ze r2 <| Ze os (some w0)
theorem laws_markText.kt_dec (a0 : Int) : laws_markText.kt a0 laws_markText.dec = (fun z0 => some z0) := by kernel_rfl
theorem laws_markText.inj (a0 : Int) {rs : List (List C)} {os : List Out} {z0 : ByteArray} (h : laws_markText.dec rs os = some z0) (ho : Zo (laws_markText.as a0) os) : rs = [[.d (.str z0)]] ∧ os = [] := by
  unfold laws_markText.dec at h
  obtain ⟨c1, r2, rfl, h1⟩ := Zb h
  obtain ⟨x3, l4, rfl, h2⟩ := Zb h1
  obtain ⟨d5, rfl, h3⟩ := Zt h2
  obtain ⟨w0, rfl, h4⟩ := ZaL h3
  obtain ⟨rfl, h5⟩ := Zc h4
  obtain ⟨rfl, h6⟩ := Zc h5
  obtain ⟨rfl, h7⟩ := Zc h6
  obtain rfl := Option.some.inj h7
  exact ⟨rfl, rfl⟩
theorem laws_markText.ok (k : Nat) : Zv Try.prog 113 (laws_markText.e k) := by
  refine Zu mix tyok (fn := Try.f113) (c := Zl Try.f113) Try.func113 (by kernel_rfl) (h := laws_markText.h) (k := k) (E := laws_markText.E k) Zz (by kernel_rfl) (by kernel_rfl) rfl (Zq Try.func113 (by kernel_rfl)) ?_
  intro β l K r hr
  simp only [laws_markText.e] at hr
  split at hr
  case h_2 => cases hr
  unfold laws_markText.f at hr
  split at hr
  case h_2 => cases hr
  rename_i hz
  exact ⟨_, _, hr, _, laws_markText.dec, _, (laws_markText.f_eq k _ laws_markText.dec).trans (by rw [laws_markText.kt_dec]; exact hz), fun rs os h ho => laws_markText.inj _ h ho⟩
noncomputable def laws_markItemS.l0 {β : Type} (k : Nat) (K : Int → (List (List C)) → Option β) (L0 : (Int × Int × (List (List C))) → Option β) (v : Int × Int × (List (List C))) : Option β :=
  match v with
  | (v0_0, v0_1, v0_2) => bif (decide ((v0_1 : Int) < (v0_2.length : Int))) then (laws_markText.f k v0_0 (fun y2 => ZH ((0 : Int) ≤ v0_1 ∧ v0_1 < (v0_2.length : Int)) (ZH (Int.toNat v0_1 < v0_2.length) (ZH ((0 : Int) ≤ v0_1 ∧ v0_1 < ((v0_2.modify (Int.toNat v0_1) fun c => Z1 c 0 [.d (.str y2)]).length : Int)) (ZH (Int.toNat v0_1 < (v0_2.modify (Int.toNat v0_1) fun c => Z1 c 0 [.d (.str y2)]).length) (ZH ((0 : Int) ≤ v0_1 ∧ v0_1 < (((v0_2.modify (Int.toNat v0_1) fun c => Z1 c 0 [.d (.str y2)]).modify (Int.toNat v0_1) fun c => Z1 c 1 [.d (.int .i64 (IntKind.wrap .i64 (v0_0 + 1)))]).length : Int)) (ZH (Int.toNat v0_1 < ((v0_2.modify (Int.toNat v0_1) fun c => Z1 c 0 [.d (.str y2)]).modify (Int.toNat v0_1) fun c => Z1 c 1 [.d (.int .i64 (IntKind.wrap .i64 (v0_0 + 1)))]).length) (L0 (IntKind.wrap .i64 ((IntKind.wrap .i64 ((IntKind.wrap .i64 (v0_0 + 1)) + 1)) + 1), IntKind.wrap .i64 (v0_1 + 1), ((v0_2.modify (Int.toNat v0_1) fun c => Z1 c 0 [.d (.str y2)]).modify (Int.toNat v0_1) fun c => Z1 c 1 [.d (.int .i64 (IntKind.wrap .i64 (v0_0 + 1)))]).modify (Int.toNat v0_1) fun c => Z1 c 2 [.d (.int .i64 (IntKind.wrap .i64 ((IntKind.wrap .i64 (v0_0 + 1)) + 1)))]))))))))) else (K v0_0 v0_2)
noncomputable def laws_markItemS.g {β : Type} (k : Nat) (a0 : List (List C)) (a1 : Int) (K : Int → (List (List C)) → Option β) : Option β :=
  Z4 (laws_markItemS.l0 k K) k (a1, 0, a0)
noncomputable def laws_markItemS.t (k : Nat) (a0 : List (List C)) (a1 : Int) : Option (Int × (List (List C))) := laws_markItemS.g k a0 a1 (fun z0 z1 => some (z0, z1))
noncomputable def laws_markItemS.f {β : Type} (k : Nat) (a0 : List (List C)) (a1 : Int) (K : Int → (List (List C)) → Option β) : Option β :=
  match laws_markItemS.t k a0 a1 with
  | some (z0, z1) => K z0 z1
  | none => none
noncomputable def laws_markItemS.as (a0 : List (List C)) (a1 : Int) : List A := [.own false [.own a0], .d (.int .i64 a1)]
noncomputable def laws_markItemS.kt {β : Type} (a0 : List (List C)) (a1 : Int) (K0 : List (List C) → List Out → Option β) : Int → (List (List C)) → Option β := fun z0 z1 => K0 [[.d (.int .i64 z0)]] [.own [.own z1]]
noncomputable def laws_markItemS.e (k : Nat) : ZQ := { modes := [(.own, 42), (.imm, 0)], rts := [3], al := false, run := fun {β} l K => match l with | [.own false [.own a0], .d (.int .i64 a1)] => laws_markItemS.f k a0 a1 (laws_markItemS.kt a0 a1 K) | _ => none }
noncomputable def laws_markItemS.E (k : Nat) : Env := fun g => bif g == 113 then some (laws_markText.e k) else none
noncomputable def laws_markItemS.h : ZY := ⟨fun n => bif n == 2 then ⟨[(0, .asis), (1, .dat false), (5, .asis)], []⟩ else ⟨[], []⟩, fun _ => none, false, []⟩
noncomputable def laws_markItemS.s0 (v : Int × Int × (List (List C))) : St :=
  match v with
  | (v0_0, v0_1, v0_2) => ⟨[.row 0, .d false (.int .i64 v0_0), .any, .any, .any, .d true (.int .i64 v0_1), .any, .any, .any, .any, .any, .any, .any, .any, .any, .any, .any, .any, .any, .any, .any, .any, .any, .any, .any, .any, .any, .any, .any, .any, .any, .any, .any, .any, .any], [.row (some 0) false 42 v0_2]⟩
noncomputable def laws_markItemS.b0 {β : Type} (k : Nat) : St → (Ex → St → Option β) → Option β := fun s K => den Try.prog (laws_markItemS.E k) laws_markItemS.h.H laws_markItemS.h.J k (Zad [1, 0, 1, 0, 0] (Zl Try.f90)) s K
noncomputable def laws_markItemS.c0 {β : Type} (k : Nat) (a0 : List (List C)) (a1 : Int) (K0 : List (List C) → List Out → Option β) : Ex → St → Option β := Zae Try.prog (laws_markItemS.E k) laws_markItemS.h k [1, 0, 1, 0] (Zl Try.f90) (Zak Try.prog Try.f90 laws_markItemS.h (laws_markItemS.as a0 a1) K0)
theorem laws_markItemS.l0_eq {β : Type} (k : Nat) (a0 : List (List C)) (a1 : Int) (K0 : List (List C) → List Out → Option β) : ∀ (kk : Nat) (v : Int × Int × (List (List C))), Zx (laws_markItemS.b0 k) (laws_markItemS.h.H 2) kk (laws_markItemS.s0 v) (laws_markItemS.c0 k a0 a1 K0) = Z4 (laws_markItemS.l0 k (laws_markItemS.kt a0 a1 K0)) kk v :=
  Z9 (laws_markItemS.s0) _ (fun L0 v => by obtain ⟨v0_0, v0_1, v0_2⟩ := v; kernel_rfl)
noncomputable def laws_markItemS.m {β : Type} (k : Nat) (a0 : List (List C)) (a1 : Int) (K0 : List (List C) → List Out → Option β) (F : ((Int × Int × (List (List C))) → Option β)) : Option β :=
  (F) (a1, 0, a0)
theorem laws_markItemS.f_eq {β : Type} (k : Nat) (a0 : List (List C)) (a1 : Int) (K0 : List (List C) → List Out → Option β) : ZJ Try.prog (laws_markItemS.E k) laws_markItemS.h k Try.f90 (laws_markItemS.as a0 a1) K0 = laws_markItemS.g k a0 a1 (laws_markItemS.kt a0 a1 K0) := Eq.trans (b := (laws_markItemS.m k a0 a1 K0) (fun (v : Int × Int × (List (List C))) => Zx (laws_markItemS.b0 k) (laws_markItemS.h.H 2) k (laws_markItemS.s0 v) (laws_markItemS.c0 k a0 a1 K0))) (by kernel_rfl) (Eq.trans (congrArg (laws_markItemS.m k a0 a1 K0) (funext fun v => laws_markItemS.l0_eq k a0 a1 K0 k v)) (by kernel_rfl))
noncomputable def laws_markItemS.dec (rs : List (List C)) (os : List Out) : Option (Int × (List (List C))) := Zd rs fun c1 r2 => Zd c1 fun x3 l4 => cD x3 fun d5 => ZM .i64 d5 fun w0 => Ze l4 <| Ze r2 <| Zd os fun o6 u7 => outOwn o6 fun c8 => Zd c8 fun x9 l10 => ZaU x9 fun w1 => Ze l10 <| Ze u7 (some (w0, w1))
theorem laws_markItemS.kt_dec (a0 : List (List C)) (a1 : Int) : laws_markItemS.kt a0 a1 laws_markItemS.dec = (fun z0 z1 => some (z0, z1)) := by kernel_rfl
theorem laws_markItemS.inj (a0 : List (List C)) (a1 : Int) {rs : List (List C)} {os : List Out} {z0 : Int} {z1 : List (List C)} (h : laws_markItemS.dec rs os = some (z0, z1)) (ho : Zo (laws_markItemS.as a0 a1) os) : rs = [[.d (.int .i64 z0)]] ∧ os = [.own [.own z1]] := by
  unfold laws_markItemS.dec at h
  obtain ⟨c1, r2, rfl, h1⟩ := Zb h
  obtain ⟨x3, l4, rfl, h2⟩ := Zb h1
  obtain ⟨d5, rfl, h3⟩ := Zt h2
  obtain ⟨w0, rfl, h4⟩ := ZA h3
  obtain ⟨rfl, h5⟩ := Zc h4
  obtain ⟨rfl, h6⟩ := Zc h5
  obtain ⟨o6, u7, rfl, h7⟩ := Zb h6
  obtain ⟨c8, rfl, h8⟩ := outOwn_some h7
  obtain ⟨x9, l10, rfl, h9⟩ := Zb h8
  obtain ⟨w1, rfl, h10⟩ := ZN h9
  obtain ⟨rfl, h11⟩ := Zc h10
  obtain ⟨rfl, h12⟩ := Zc h11
  simp only [Option.some.injEq, Prod.mk.injEq] at h12
  obtain ⟨rfl, rfl⟩ := h12
  exact ⟨rfl, rfl⟩
theorem laws_markItemS.ok (k : Nat) : Zv Try.prog 90 (laws_markItemS.e k) := by
  refine Zu mix tyok (fn := Try.f90) (c := Zl Try.f90) Try.func90 (by kernel_rfl) (h := laws_markItemS.h) (k := k) (E := laws_markItemS.E k) (Zk (laws_markText.ok k) Zz) (by kernel_rfl) (by kernel_rfl) rfl (Zq Try.func90 (by kernel_rfl)) ?_
  intro β l K r hr
  simp only [laws_markItemS.e] at hr
  split at hr
  case h_2 => cases hr
  unfold laws_markItemS.f at hr
  split at hr
  case h_2 => cases hr
  rename_i hz
  exact ⟨_, _, hr, _, laws_markItemS.dec, _, (laws_markItemS.f_eq k _ _ laws_markItemS.dec).trans (by rw [laws_markItemS.kt_dec]; exact hz), fun rs os h ho => laws_markItemS.inj _ _ h ho⟩
noncomputable def laws_markStringS.l0 {β : Type} (k : Nat) (K : Int → (List (List C)) → Option β) (L0 : (Int × Int × (List (List C))) → Option β) (v : Int × Int × (List (List C))) : Option β :=
  match v with
  | (v0_0, v0_1, v0_2) => bif (decide ((v0_1 : Int) < (v0_2.length : Int))) then (laws_markText.f k v0_0 (fun y2 => ZH ((0 : Int) ≤ v0_1 ∧ v0_1 < (v0_2.length : Int)) (ZH (Int.toNat v0_1 < v0_2.length) (L0 (IntKind.wrap .i64 (v0_0 + 1), IntKind.wrap .i64 (v0_1 + 1), v0_2.modify (Int.toNat v0_1) fun c => Z1 c 0 [.d (.str y2)]))))) else (K v0_0 v0_2)
noncomputable def laws_markStringS.g {β : Type} (k : Nat) (a0 : List (List C)) (a1 : Int) (K : Int → (List (List C)) → Option β) : Option β :=
  Z4 (laws_markStringS.l0 k K) k (a1, 0, a0)
noncomputable def laws_markStringS.t (k : Nat) (a0 : List (List C)) (a1 : Int) : Option (Int × (List (List C))) := laws_markStringS.g k a0 a1 (fun z0 z1 => some (z0, z1))
noncomputable def laws_markStringS.f {β : Type} (k : Nat) (a0 : List (List C)) (a1 : Int) (K : Int → (List (List C)) → Option β) : Option β :=
  match laws_markStringS.t k a0 a1 with
  | some (z0, z1) => K z0 z1
  | none => none
noncomputable def laws_markStringS.as (a0 : List (List C)) (a1 : Int) : List A := [.own false [.own a0], .d (.int .i64 a1)]
noncomputable def laws_markStringS.kt {β : Type} (a0 : List (List C)) (a1 : Int) (K0 : List (List C) → List Out → Option β) : Int → (List (List C)) → Option β := fun z0 z1 => K0 [[.d (.int .i64 z0)]] [.own [.own z1]]
noncomputable def laws_markStringS.e (k : Nat) : ZQ := { modes := [(.own, 25), (.imm, 0)], rts := [3], al := false, run := fun {β} l K => match l with | [.own false [.own a0], .d (.int .i64 a1)] => laws_markStringS.f k a0 a1 (laws_markStringS.kt a0 a1 K) | _ => none }
noncomputable def laws_markStringS.E (k : Nat) : Env := fun g => bif g == 113 then some (laws_markText.e k) else none
noncomputable def laws_markStringS.h : ZY := ⟨fun n => bif n == 2 then ⟨[(0, .asis), (1, .dat false), (5, .asis)], []⟩ else ⟨[], []⟩, fun _ => none, false, []⟩
noncomputable def laws_markStringS.s0 (v : Int × Int × (List (List C))) : St :=
  match v with
  | (v0_0, v0_1, v0_2) => ⟨[.row 0, .d false (.int .i64 v0_0), .any, .any, .any, .d true (.int .i64 v0_1), .any, .any, .any, .any, .any, .any, .any, .any, .any, .any, .any, .any, .any, .any], [.row (some 0) false 25 v0_2]⟩
noncomputable def laws_markStringS.b0 {β : Type} (k : Nat) : St → (Ex → St → Option β) → Option β := fun s K => den Try.prog (laws_markStringS.E k) laws_markStringS.h.H laws_markStringS.h.J k (Zad [1, 0, 1, 0, 0] (Zl Try.f91)) s K
noncomputable def laws_markStringS.c0 {β : Type} (k : Nat) (a0 : List (List C)) (a1 : Int) (K0 : List (List C) → List Out → Option β) : Ex → St → Option β := Zae Try.prog (laws_markStringS.E k) laws_markStringS.h k [1, 0, 1, 0] (Zl Try.f91) (Zak Try.prog Try.f91 laws_markStringS.h (laws_markStringS.as a0 a1) K0)
theorem laws_markStringS.l0_eq {β : Type} (k : Nat) (a0 : List (List C)) (a1 : Int) (K0 : List (List C) → List Out → Option β) : ∀ (kk : Nat) (v : Int × Int × (List (List C))), Zx (laws_markStringS.b0 k) (laws_markStringS.h.H 2) kk (laws_markStringS.s0 v) (laws_markStringS.c0 k a0 a1 K0) = Z4 (laws_markStringS.l0 k (laws_markStringS.kt a0 a1 K0)) kk v :=
  Z9 (laws_markStringS.s0) _ (fun L0 v => by obtain ⟨v0_0, v0_1, v0_2⟩ := v; kernel_rfl)
noncomputable def laws_markStringS.m {β : Type} (k : Nat) (a0 : List (List C)) (a1 : Int) (K0 : List (List C) → List Out → Option β) (F : ((Int × Int × (List (List C))) → Option β)) : Option β :=
  (F) (a1, 0, a0)
theorem laws_markStringS.f_eq {β : Type} (k : Nat) (a0 : List (List C)) (a1 : Int) (K0 : List (List C) → List Out → Option β) : ZJ Try.prog (laws_markStringS.E k) laws_markStringS.h k Try.f91 (laws_markStringS.as a0 a1) K0 = laws_markStringS.g k a0 a1 (laws_markStringS.kt a0 a1 K0) := Eq.trans (b := (laws_markStringS.m k a0 a1 K0) (fun (v : Int × Int × (List (List C))) => Zx (laws_markStringS.b0 k) (laws_markStringS.h.H 2) k (laws_markStringS.s0 v) (laws_markStringS.c0 k a0 a1 K0))) (by kernel_rfl) (Eq.trans (congrArg (laws_markStringS.m k a0 a1 K0) (funext fun v => laws_markStringS.l0_eq k a0 a1 K0 k v)) (by kernel_rfl))
noncomputable def laws_markStringS.dec (rs : List (List C)) (os : List Out) : Option (Int × (List (List C))) := Zd rs fun c1 r2 => Zd c1 fun x3 l4 => cD x3 fun d5 => ZM .i64 d5 fun w0 => Ze l4 <| Ze r2 <| Zd os fun o6 u7 => outOwn o6 fun c8 => Zd c8 fun x9 l10 => ZaU x9 fun w1 => Ze l10 <| Ze u7 (some (w0, w1))
theorem laws_markStringS.kt_dec (a0 : List (List C)) (a1 : Int) : laws_markStringS.kt a0 a1 laws_markStringS.dec = (fun z0 z1 => some (z0, z1)) := by kernel_rfl
theorem laws_markStringS.inj (a0 : List (List C)) (a1 : Int) {rs : List (List C)} {os : List Out} {z0 : Int} {z1 : List (List C)} (h : laws_markStringS.dec rs os = some (z0, z1)) (ho : Zo (laws_markStringS.as a0 a1) os) : rs = [[.d (.int .i64 z0)]] ∧ os = [.own [.own z1]] := by
  unfold laws_markStringS.dec at h
  obtain ⟨c1, r2, rfl, h1⟩ := Zb h
  obtain ⟨x3, l4, rfl, h2⟩ := Zb h1
  obtain ⟨d5, rfl, h3⟩ := Zt h2
  obtain ⟨w0, rfl, h4⟩ := ZA h3
  obtain ⟨rfl, h5⟩ := Zc h4
  obtain ⟨rfl, h6⟩ := Zc h5
  obtain ⟨o6, u7, rfl, h7⟩ := Zb h6
  obtain ⟨c8, rfl, h8⟩ := outOwn_some h7
  obtain ⟨x9, l10, rfl, h9⟩ := Zb h8
  obtain ⟨w1, rfl, h10⟩ := ZN h9
  obtain ⟨rfl, h11⟩ := Zc h10
  obtain ⟨rfl, h12⟩ := Zc h11
  simp only [Option.some.injEq, Prod.mk.injEq] at h12
  obtain ⟨rfl, rfl⟩ := h12
  exact ⟨rfl, rfl⟩
theorem laws_markStringS.ok (k : Nat) : Zv Try.prog 91 (laws_markStringS.e k) := by
  refine Zu mix tyok (fn := Try.f91) (c := Zl Try.f91) Try.func91 (by kernel_rfl) (h := laws_markStringS.h) (k := k) (E := laws_markStringS.E k) (Zk (laws_markText.ok k) Zz) (by kernel_rfl) (by kernel_rfl) rfl (Zq Try.func91 (by kernel_rfl)) ?_
  intro β l K r hr
  simp only [laws_markStringS.e] at hr
  split at hr
  case h_2 => cases hr
  unfold laws_markStringS.f at hr
  split at hr
  case h_2 => cases hr
  rename_i hz
  exact ⟨_, _, hr, _, laws_markStringS.dec, _, (laws_markStringS.f_eq k _ _ laws_markStringS.dec).trans (by rw [laws_markStringS.kt_dec]; exact hz), fun rs os h ho => laws_markStringS.inj _ _ h ho⟩
noncomputable def laws_markQueue.g {β : Type} (k : Nat) (a0_0 : List (List C)) (a0_1 : List (List C)) (a0_2 : List (List C)) (a0_3 : Int) (a1 : Int) (K : Int → (List (List C)) → (List (List C)) → (List (List C)) → Option β) : Option β :=
  laws_markItemS.f k a0_0 a1 (fun y3 y4 => ZH (y4.length = a0_0.length) (laws_markItemS.f k a0_1 y3 (fun y5 y6 => ZH (y6.length = a0_1.length) (laws_markStringS.f k a0_2 y5 (fun y7 y8 => ZH (y8.length = a0_2.length) (K y7 y4 y6 y8))))))
noncomputable def laws_markQueue.t (k : Nat) (a0_0 : List (List C)) (a0_1 : List (List C)) (a0_2 : List (List C)) (a0_3 : Int) (a1 : Int) : Option (Int × (List (List C)) × (List (List C)) × (List (List C))) := laws_markQueue.g k a0_0 a0_1 a0_2 a0_3 a1 (fun z0 z1 z2 z3 => some (z0, z1, z2, z3))
noncomputable def laws_markQueue.f {β : Type} (k : Nat) (a0_0 : List (List C)) (a0_1 : List (List C)) (a0_2 : List (List C)) (a0_3 : Int) (a1 : Int) (K : Int → (List (List C)) → (List (List C)) → (List (List C)) → Option β) : Option β :=
  match laws_markQueue.t k a0_0 a0_1 a0_2 a0_3 a1 with
  | some (z0, z1, z2, z3) => K z0 z1 z2 z3
  | none => none
noncomputable def laws_markQueue.as (a0_0 : List (List C)) (a0_1 : List (List C)) (a0_2 : List (List C)) (a0_3 : Int) (a1 : Int) : List A := [.own true [.own a0_0, .own a0_1, .own a0_2, .d (.int .i64 a0_3)], .d (.int .i64 a1)]
noncomputable def laws_markQueue.kt {β : Type} (a0_0 : List (List C)) (a0_1 : List (List C)) (a0_2 : List (List C)) (a0_3 : Int) (a1 : Int) (K0 : List (List C) → List Out → Option β) : Int → (List (List C)) → (List (List C)) → (List (List C)) → Option β := fun z0 z1 z2 z3 => K0 [[.d (.int .i64 z0)]] [.own [.own z1, .own z2, .own z3, .d (.int .i64 a0_3)]]
noncomputable def laws_markQueue.e (k : Nat) : ZQ := { modes := [(.own, 44), (.imm, 0)], rts := [3], al := false, run := fun {β} l K => match l with | [.own true [.own a0_0, .own a0_1, .own a0_2, .d (.int .i64 a0_3)], .d (.int .i64 a1)] => laws_markQueue.f k a0_0 a0_1 a0_2 a0_3 a1 (laws_markQueue.kt a0_0 a0_1 a0_2 a0_3 a1 K) | _ => none }
noncomputable def laws_markQueue.E (k : Nat) : Env := fun g => bif g == 90 then some (laws_markItemS.e k) else bif g == 91 then some (laws_markStringS.e k) else none
noncomputable def laws_markQueue.h : ZY := ⟨fun n => ⟨[], []⟩, fun _ => none, false, []⟩
theorem laws_markQueue.f_eq {β : Type} (k : Nat) (a0_0 : List (List C)) (a0_1 : List (List C)) (a0_2 : List (List C)) (a0_3 : Int) (a1 : Int) (K0 : List (List C) → List Out → Option β) : ZJ Try.prog (laws_markQueue.E k) laws_markQueue.h k Try.f25 (laws_markQueue.as a0_0 a0_1 a0_2 a0_3 a1) K0 = laws_markQueue.g k a0_0 a0_1 a0_2 a0_3 a1 (laws_markQueue.kt a0_0 a0_1 a0_2 a0_3 a1 K0) := by kernel_rfl
noncomputable def laws_markQueue.dec (rs : List (List C)) (os : List Out) : Option (Int × (List (List C)) × (List (List C)) × (List (List C))) := Zd rs fun c1 r2 => Zd c1 fun x3 l4 => cD x3 fun d5 => ZM .i64 d5 fun w0 => Ze l4 <| Ze r2 <| Zd os fun o6 u7 => outOwn o6 fun c8 => Zd c8 fun x9 l10 => ZaU x9 fun w1 => Zd l10 fun x11 l12 => ZaU x11 fun w2 => Zd l12 fun x13 l14 => ZaU x13 fun w3 => Zd l14 fun x15 l16 => Ze l16 <| Ze u7 (some (w0, w1, w2, w3))
theorem laws_markQueue.kt_dec (a0_0 : List (List C)) (a0_1 : List (List C)) (a0_2 : List (List C)) (a0_3 : Int) (a1 : Int) : laws_markQueue.kt a0_0 a0_1 a0_2 a0_3 a1 laws_markQueue.dec = (fun z0 z1 z2 z3 => some (z0, z1, z2, z3)) := by kernel_rfl
theorem laws_markQueue.inj (a0_0 : List (List C)) (a0_1 : List (List C)) (a0_2 : List (List C)) (a0_3 : Int) (a1 : Int) {rs : List (List C)} {os : List Out} {z0 : Int} {z1 : List (List C)} {z2 : List (List C)} {z3 : List (List C)} (h : laws_markQueue.dec rs os = some (z0, z1, z2, z3)) (ho : Zo (laws_markQueue.as a0_0 a0_1 a0_2 a0_3 a1) os) : rs = [[.d (.int .i64 z0)]] ∧ os = [.own [.own z1, .own z2, .own z3, .d (.int .i64 a0_3)]] := by
  unfold laws_markQueue.dec at h
  obtain ⟨c1, r2, rfl, h1⟩ := Zb h
  obtain ⟨x3, l4, rfl, h2⟩ := Zb h1
  obtain ⟨d5, rfl, h3⟩ := Zt h2
  obtain ⟨w0, rfl, h4⟩ := ZA h3
  obtain ⟨rfl, h5⟩ := Zc h4
  obtain ⟨rfl, h6⟩ := Zc h5
  obtain ⟨o6, u7, rfl, h7⟩ := Zb h6
  obtain ⟨c8, rfl, h8⟩ := outOwn_some h7
  obtain ⟨x9, l10, rfl, h9⟩ := Zb h8
  obtain ⟨w1, rfl, h10⟩ := ZN h9
  obtain ⟨x11, l12, rfl, h11⟩ := Zb h10
  obtain ⟨w2, rfl, h12⟩ := ZN h11
  obtain ⟨x13, l14, rfl, h13⟩ := Zb h12
  obtain ⟨w3, rfl, h14⟩ := ZN h13
  obtain ⟨x15, l16, rfl, h15⟩ := Zb h14
  obtain ⟨rfl, h16⟩ := Zc h15
  obtain ⟨rfl, h17⟩ := Zc h16
  simp only [Option.some.injEq, Prod.mk.injEq] at h17
  obtain ⟨rfl, rfl, rfl, rfl⟩ := h17
  simp only [laws_markQueue.as, Zo] at ho
  obtain ⟨cs0, os0, e0, _, hs0, ho⟩ := ho
  injection e0 with e0 f0
  injection e0 with e0
  subst e0
  subst f0
  have hc := hs0 3 _ rfl
  simp at hc
  subst hc
  exact ⟨rfl, rfl⟩
theorem laws_markQueue.ok (k : Nat) : Zv Try.prog 25 (laws_markQueue.e k) := by
  refine Zu mix tyok (fn := Try.f25) (c := Zl Try.f25) Try.func25 (by kernel_rfl) (h := laws_markQueue.h) (k := k) (E := laws_markQueue.E k) (Zk (laws_markItemS.ok k) (Zk (laws_markStringS.ok k) Zz)) (by kernel_rfl) (by kernel_rfl) rfl (Zq Try.func25 (by kernel_rfl)) ?_
  intro β l K r hr
  simp only [laws_markQueue.e] at hr
  split at hr
  case h_2 => cases hr
  unfold laws_markQueue.f at hr
  split at hr
  case h_2 => cases hr
  rename_i hz
  exact ⟨_, _, hr, _, laws_markQueue.dec, _, (laws_markQueue.f_eq k _ _ _ _ _ laws_markQueue.dec).trans (by rw [laws_markQueue.kt_dec]; exact hz), fun rs os h ho => laws_markQueue.inj _ _ _ _ _ h ho⟩
end Go.Proofs.Ytljkbknnnpjmgaa
