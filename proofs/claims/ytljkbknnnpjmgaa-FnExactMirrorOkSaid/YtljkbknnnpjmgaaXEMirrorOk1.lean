/- Printed: the functions that FnExactMirrorOk reaches, read by the evaluator, each with its contract. -/
import Derived.Test.YtljkbknnnpjmgaaXEMirrorOk0
import Derived.KernelRfl
set_option linter.unusedVariables false
set_option linter.unusedSimpArgs false
namespace Go.Proofs.Ytljkbknnnpjmgaa
open Go Go.T Go.Proofs
noncomputable def slices_ContainsFunc_impl_Obj__impl_objsOk_1.g {β : Type} (k : Nat) (a0 : List (List D)) (a1_0_0 : Int) (a1_0_1 : ByteArray) (a1_0_2 : Int) (a1_0_3 : Int) (a1_0_4 : Int) (a1_0_5 : Bool) (a1_0_6 : List (List D)) (a1_0_7 : Int) (a1_0_8 : ByteArray) (a1_0_9 : Int) (a1_0_10 : List (List D)) (a1_0_11 : List (List D)) (a1_0_12 : Int) (a1_0_13 : ByteArray) (a1_0_14 : Int) (a1_0_15 : List (List D)) (a1_0_16 : List (List D)) (K : Bool → Option β) : Option β :=
  slices_IndexFunc_impl_Obj__impl_objsOk_1.f k a0 a1_0_0 a1_0_1 a1_0_2 a1_0_3 a1_0_4 a1_0_5 a1_0_6 a1_0_7 a1_0_8 a1_0_9 a1_0_10 a1_0_11 a1_0_12 a1_0_13 a1_0_14 a1_0_15 a1_0_16 (fun y107 => K (decide ((y107 : Int) ≥ 0)))
noncomputable def slices_ContainsFunc_impl_Obj__impl_objsOk_1.t (k : Nat) (a0 : List (List D)) (a1_0_0 : Int) (a1_0_1 : ByteArray) (a1_0_2 : Int) (a1_0_3 : Int) (a1_0_4 : Int) (a1_0_5 : Bool) (a1_0_6 : List (List D)) (a1_0_7 : Int) (a1_0_8 : ByteArray) (a1_0_9 : Int) (a1_0_10 : List (List D)) (a1_0_11 : List (List D)) (a1_0_12 : Int) (a1_0_13 : ByteArray) (a1_0_14 : Int) (a1_0_15 : List (List D)) (a1_0_16 : List (List D)) : Option (Bool) := slices_ContainsFunc_impl_Obj__impl_objsOk_1.g k a0 a1_0_0 a1_0_1 a1_0_2 a1_0_3 a1_0_4 a1_0_5 a1_0_6 a1_0_7 a1_0_8 a1_0_9 a1_0_10 a1_0_11 a1_0_12 a1_0_13 a1_0_14 a1_0_15 a1_0_16 (fun z0 => some z0)
noncomputable def slices_ContainsFunc_impl_Obj__impl_objsOk_1.f {β : Type} (k : Nat) (a0 : List (List D)) (a1_0_0 : Int) (a1_0_1 : ByteArray) (a1_0_2 : Int) (a1_0_3 : Int) (a1_0_4 : Int) (a1_0_5 : Bool) (a1_0_6 : List (List D)) (a1_0_7 : Int) (a1_0_8 : ByteArray) (a1_0_9 : Int) (a1_0_10 : List (List D)) (a1_0_11 : List (List D)) (a1_0_12 : Int) (a1_0_13 : ByteArray) (a1_0_14 : Int) (a1_0_15 : List (List D)) (a1_0_16 : List (List D)) (K : Bool → Option β) : Option β :=
  match slices_ContainsFunc_impl_Obj__impl_objsOk_1.t k a0 a1_0_0 a1_0_1 a1_0_2 a1_0_3 a1_0_4 a1_0_5 a1_0_6 a1_0_7 a1_0_8 a1_0_9 a1_0_10 a1_0_11 a1_0_12 a1_0_13 a1_0_14 a1_0_15 a1_0_16 with
  | some z0 => K z0
  | none => none
noncomputable def slices_ContainsFunc_impl_Obj__impl_objsOk_1.as (a0 : List (List D)) (a1_0_0 : Int) (a1_0_1 : ByteArray) (a1_0_2 : Int) (a1_0_3 : Int) (a1_0_4 : Int) (a1_0_5 : Bool) (a1_0_6 : List (List D)) (a1_0_7 : Int) (a1_0_8 : ByteArray) (a1_0_9 : Int) (a1_0_10 : List (List D)) (a1_0_11 : List (List D)) (a1_0_12 : Int) (a1_0_13 : ByteArray) (a1_0_14 : Int) (a1_0_15 : List (List D)) (a1_0_16 : List (List D)) : List A := [.d (.sl a0), .d (.fn 199 [[.int .i64 a1_0_0, .str a1_0_1, .int .i64 a1_0_2, .int .i64 a1_0_3, .int .i64 a1_0_4, .bool a1_0_5, .sl a1_0_6, .int .i64 a1_0_7, .str a1_0_8, .int .i64 a1_0_9, .sl a1_0_10, .sl a1_0_11, .int .i64 a1_0_12, .str a1_0_13, .int .i64 a1_0_14, .sl a1_0_15, .sl a1_0_16]])]
noncomputable def slices_ContainsFunc_impl_Obj__impl_objsOk_1.kt {β : Type} (a0 : List (List D)) (a1_0_0 : Int) (a1_0_1 : ByteArray) (a1_0_2 : Int) (a1_0_3 : Int) (a1_0_4 : Int) (a1_0_5 : Bool) (a1_0_6 : List (List D)) (a1_0_7 : Int) (a1_0_8 : ByteArray) (a1_0_9 : Int) (a1_0_10 : List (List D)) (a1_0_11 : List (List D)) (a1_0_12 : Int) (a1_0_13 : ByteArray) (a1_0_14 : Int) (a1_0_15 : List (List D)) (a1_0_16 : List (List D)) (K0 : List (List C) → List Out → Option β) : Bool → Option β := fun z0 => K0 [[.d (.bool z0)]] []
noncomputable def slices_ContainsFunc_impl_Obj__impl_objsOk_1.e (k : Nat) : ZQ := { modes := [(.imm, 0), (.imm, 0)], rts := [4], al := false, run := fun {β} l K => match l with | [.d (.sl a0), .d (.fn 199 [[.int .i64 a1_0_0, .str a1_0_1, .int .i64 a1_0_2, .int .i64 a1_0_3, .int .i64 a1_0_4, .bool a1_0_5, .sl a1_0_6, .int .i64 a1_0_7, .str a1_0_8, .int .i64 a1_0_9, .sl a1_0_10, .sl a1_0_11, .int .i64 a1_0_12, .str a1_0_13, .int .i64 a1_0_14, .sl a1_0_15, .sl a1_0_16]])] => slices_ContainsFunc_impl_Obj__impl_objsOk_1.f k a0 a1_0_0 a1_0_1 a1_0_2 a1_0_3 a1_0_4 a1_0_5 a1_0_6 a1_0_7 a1_0_8 a1_0_9 a1_0_10 a1_0_11 a1_0_12 a1_0_13 a1_0_14 a1_0_15 a1_0_16 (slices_ContainsFunc_impl_Obj__impl_objsOk_1.kt a0 a1_0_0 a1_0_1 a1_0_2 a1_0_3 a1_0_4 a1_0_5 a1_0_6 a1_0_7 a1_0_8 a1_0_9 a1_0_10 a1_0_11 a1_0_12 a1_0_13 a1_0_14 a1_0_15 a1_0_16 K) | _ => none }
noncomputable def slices_ContainsFunc_impl_Obj__impl_objsOk_1.E (k : Nat) : Env := fun g => bif g == 231 then some (slices_IndexFunc_impl_Obj__impl_objsOk_1.e k) else none
noncomputable def slices_ContainsFunc_impl_Obj__impl_objsOk_1.h : ZY := ⟨fun n => ⟨[], []⟩, fun _ => none, false, []⟩
theorem slices_ContainsFunc_impl_Obj__impl_objsOk_1.f_eq {β : Type} (k : Nat) (a0 : List (List D)) (a1_0_0 : Int) (a1_0_1 : ByteArray) (a1_0_2 : Int) (a1_0_3 : Int) (a1_0_4 : Int) (a1_0_5 : Bool) (a1_0_6 : List (List D)) (a1_0_7 : Int) (a1_0_8 : ByteArray) (a1_0_9 : Int) (a1_0_10 : List (List D)) (a1_0_11 : List (List D)) (a1_0_12 : Int) (a1_0_13 : ByteArray) (a1_0_14 : Int) (a1_0_15 : List (List D)) (a1_0_16 : List (List D)) (K0 : List (List C) → List Out → Option β) : ZJ Try.prog (slices_ContainsFunc_impl_Obj__impl_objsOk_1.E k) slices_ContainsFunc_impl_Obj__impl_objsOk_1.h k Try.f198 (slices_ContainsFunc_impl_Obj__impl_objsOk_1.as a0 a1_0_0 a1_0_1 a1_0_2 a1_0_3 a1_0_4 a1_0_5 a1_0_6 a1_0_7 a1_0_8 a1_0_9 a1_0_10 a1_0_11 a1_0_12 a1_0_13 a1_0_14 a1_0_15 a1_0_16) K0 = slices_ContainsFunc_impl_Obj__impl_objsOk_1.g k a0 a1_0_0 a1_0_1 a1_0_2 a1_0_3 a1_0_4 a1_0_5 a1_0_6 a1_0_7 a1_0_8 a1_0_9 a1_0_10 a1_0_11 a1_0_12 a1_0_13 a1_0_14 a1_0_15 a1_0_16 (slices_ContainsFunc_impl_Obj__impl_objsOk_1.kt a0 a1_0_0 a1_0_1 a1_0_2 a1_0_3 a1_0_4 a1_0_5 a1_0_6 a1_0_7 a1_0_8 a1_0_9 a1_0_10 a1_0_11 a1_0_12 a1_0_13 a1_0_14 a1_0_15 a1_0_16 K0) := by kernel_rfl
noncomputable def slices_ContainsFunc_impl_Obj__impl_objsOk_1.dec (rs : List (List C)) (os : List Out) : Option (Bool) := Zd rs fun c1 r2 => Zd c1 fun x3 l4 => cD x3 fun d5 => ZaF d5 fun w0 => Ze l4 <| Ze r2 <| Ze os (some w0)
theorem slices_ContainsFunc_impl_Obj__impl_objsOk_1.kt_dec (a0 : List (List D)) (a1_0_0 : Int) (a1_0_1 : ByteArray) (a1_0_2 : Int) (a1_0_3 : Int) (a1_0_4 : Int) (a1_0_5 : Bool) (a1_0_6 : List (List D)) (a1_0_7 : Int) (a1_0_8 : ByteArray) (a1_0_9 : Int) (a1_0_10 : List (List D)) (a1_0_11 : List (List D)) (a1_0_12 : Int) (a1_0_13 : ByteArray) (a1_0_14 : Int) (a1_0_15 : List (List D)) (a1_0_16 : List (List D)) : slices_ContainsFunc_impl_Obj__impl_objsOk_1.kt a0 a1_0_0 a1_0_1 a1_0_2 a1_0_3 a1_0_4 a1_0_5 a1_0_6 a1_0_7 a1_0_8 a1_0_9 a1_0_10 a1_0_11 a1_0_12 a1_0_13 a1_0_14 a1_0_15 a1_0_16 slices_ContainsFunc_impl_Obj__impl_objsOk_1.dec = (fun z0 => some z0) := by kernel_rfl
theorem slices_ContainsFunc_impl_Obj__impl_objsOk_1.inj (a0 : List (List D)) (a1_0_0 : Int) (a1_0_1 : ByteArray) (a1_0_2 : Int) (a1_0_3 : Int) (a1_0_4 : Int) (a1_0_5 : Bool) (a1_0_6 : List (List D)) (a1_0_7 : Int) (a1_0_8 : ByteArray) (a1_0_9 : Int) (a1_0_10 : List (List D)) (a1_0_11 : List (List D)) (a1_0_12 : Int) (a1_0_13 : ByteArray) (a1_0_14 : Int) (a1_0_15 : List (List D)) (a1_0_16 : List (List D)) {rs : List (List C)} {os : List Out} {z0 : Bool} (h : slices_ContainsFunc_impl_Obj__impl_objsOk_1.dec rs os = some z0) (ho : Zo (slices_ContainsFunc_impl_Obj__impl_objsOk_1.as a0 a1_0_0 a1_0_1 a1_0_2 a1_0_3 a1_0_4 a1_0_5 a1_0_6 a1_0_7 a1_0_8 a1_0_9 a1_0_10 a1_0_11 a1_0_12 a1_0_13 a1_0_14 a1_0_15 a1_0_16) os) : rs = [[.d (.bool z0)]] ∧ os = [] := by
  unfold slices_ContainsFunc_impl_Obj__impl_objsOk_1.dec at h
  obtain ⟨c1, r2, rfl, h1⟩ := Zb h
  obtain ⟨x3, l4, rfl, h2⟩ := Zb h1
  obtain ⟨d5, rfl, h3⟩ := Zt h2
  obtain ⟨w0, rfl, h4⟩ := Z0 h3
  obtain ⟨rfl, h5⟩ := Zc h4
  obtain ⟨rfl, h6⟩ := Zc h5
  obtain ⟨rfl, h7⟩ := Zc h6
  obtain rfl := Option.some.inj h7
  exact ⟨rfl, rfl⟩
theorem slices_ContainsFunc_impl_Obj__impl_objsOk_1.ok (k : Nat) : Zv Try.prog 198 (slices_ContainsFunc_impl_Obj__impl_objsOk_1.e k) := by
  refine Zu mix tyok (fn := Try.f198) (c := Zl Try.f198) Try.func198 (by kernel_rfl) (h := slices_ContainsFunc_impl_Obj__impl_objsOk_1.h) (k := k) (E := slices_ContainsFunc_impl_Obj__impl_objsOk_1.E k) (Zk (slices_IndexFunc_impl_Obj__impl_objsOk_1.ok k) Zz) (by kernel_rfl) (by kernel_rfl) rfl (Zq Try.func198 (by kernel_rfl)) ?_
  intro β l K r hr
  simp only [slices_ContainsFunc_impl_Obj__impl_objsOk_1.e] at hr
  split at hr
  case h_2 => cases hr
  unfold slices_ContainsFunc_impl_Obj__impl_objsOk_1.f at hr
  split at hr
  case h_2 => cases hr
  rename_i hz
  exact ⟨_, _, hr, _, slices_ContainsFunc_impl_Obj__impl_objsOk_1.dec, _, (slices_ContainsFunc_impl_Obj__impl_objsOk_1.f_eq k _ _ _ _ _ _ _ _ _ _ _ _ _ _ _ _ _ _ slices_ContainsFunc_impl_Obj__impl_objsOk_1.dec).trans (by rw [slices_ContainsFunc_impl_Obj__impl_objsOk_1.kt_dec]; exact hz), fun rs os h ho => slices_ContainsFunc_impl_Obj__impl_objsOk_1.inj _ _ _ _ _ _ _ _ _ _ _ _ _ _ _ _ _ _ h ho⟩
noncomputable def impl_objsOk.l0 {β : Type} (k : Nat) (v0_0 : List (List D)) (v0_1 : Int) (v0_2 : Int) (v0_3 : List (List D)) (v0_4 : Int) (K : Bool → Option β) (L0 : Int → Option β) (v : Int) : Option β :=
  match v with
  | v0_5 => bif (decide ((v0_5 : Int) < v0_4)) then (ZX v0_3 v0_5 fun c110 => Zd c110 fun d111 r112 => ZM .i64 d111 fun x113 => Zd r112 fun d114 r115 => Zan d114 fun x116 => Zd r115 fun d117 r118 => ZM .i64 d117 fun x119 => Zd r118 fun d120 r121 => ZM .i64 d120 fun x122 => Zd r121 fun d123 r124 => ZM .i64 d123 fun x125 => Zd r124 fun d126 r127 => ZaF d126 fun x128 => Zd r127 fun d129 r130 => dSl d129 fun x131 => Zd r130 fun d132 r133 => ZM .i64 d132 fun x134 => Zd r133 fun d135 r136 => Zan d135 fun x137 => Zd r136 fun d138 r139 => ZM .i64 d138 fun x140 => Zd r139 fun d141 r142 => dSl d141 fun x143 => Zd r142 fun d144 r145 => dSl d144 fun x146 => Zd r145 fun d147 r148 => ZM .i64 d147 fun x149 => Zd r148 fun d150 r151 => Zan d150 fun x152 => Zd r151 fun d153 r154 => ZM .i64 d153 fun x155 => Zd r154 fun d156 r157 => dSl d156 fun x158 => Zd r157 fun d159 r160 => dSl d159 fun x161 => Ze r160 (impl_objOk.f k x113 x116 x119 x122 x125 x128 x131 x134 x137 x140 x143 x146 x149 x152 x155 x158 x161 v0_1 v0_2 false (fun y162 => bif (!y162) then (K false) else (bif (decide ((v0_5 : Int) > 0)) then (ZX v0_0 (IntKind.wrap .i64 (v0_5 - 1)) fun c163 => Zd c163 fun d164 r165 => ZM .i64 d164 fun x166 => Zd r165 fun d167 r168 => Zan d167 fun x169 => Zd r168 fun d170 r171 => ZM .i64 d170 fun x172 => Zd r171 fun d173 r174 => ZM .i64 d173 fun x175 => Zd r174 fun d176 r177 => ZM .i64 d176 fun x178 => Zd r177 fun d179 r180 => ZaF d179 fun x181 => Zd r180 fun d182 r183 => dSl d182 fun x184 => Zd r183 fun d185 r186 => ZM .i64 d185 fun x187 => Zd r186 fun d188 r189 => Zan d188 fun x190 => Zd r189 fun d191 r192 => ZM .i64 d191 fun x193 => Zd r192 fun d194 r195 => dSl d194 fun x196 => Zd r195 fun d197 r198 => dSl d197 fun x199 => Zd r198 fun d200 r201 => ZM .i64 d200 fun x202 => Zd r201 fun d203 r204 => Zan d203 fun x205 => Zd r204 fun d206 r207 => ZM .i64 d206 fun x208 => Zd r207 fun d209 r210 => dSl d209 fun x211 => Zd r210 fun d212 r213 => dSl d212 fun x214 => Ze r213 (impl_cmpObjs.f k x166 x169 x172 x175 x178 x181 x184 x187 x190 x193 x196 x199 x202 x205 x208 x211 x214 x113 x116 x119 x122 x125 x128 x131 x134 x137 x140 x143 x146 x149 x152 x155 x158 x161 (fun y215 => bif (decide ((y215 : Int) ≥ 0)) then (K false) else (ZH (0 ≤ (0 : Int) ∧ (0 : Int) ≤ (v0_5 : Int) ∧ (v0_5 : Int) ≤ (v0_0.length : Int) ∧ rowsOk 17 v0_0) (slices_ContainsFunc_impl_Obj__impl_objsOk_1.f k ((v0_0.drop (Int.toNat (0 : Int))).take (Int.toNat (v0_5 : Int) - Int.toNat (0 : Int))) x113 x116 x119 x122 x125 x128 x131 x134 x137 x140 x143 x146 x149 x152 x155 x158 x161 (fun y216 => bif y216 then (K false) else (L0 (IntKind.wrap .i64 (v0_5 + 1))))))))) else (ZH (0 ≤ (0 : Int) ∧ (0 : Int) ≤ (v0_5 : Int) ∧ (v0_5 : Int) ≤ (v0_0.length : Int) ∧ rowsOk 17 v0_0) (slices_ContainsFunc_impl_Obj__impl_objsOk_1.f k ((v0_0.drop (Int.toNat (0 : Int))).take (Int.toNat (v0_5 : Int) - Int.toNat (0 : Int))) x113 x116 x119 x122 x125 x128 x131 x134 x137 x140 x143 x146 x149 x152 x155 x158 x161 (fun y217 => bif y217 then (K false) else (L0 (IntKind.wrap .i64 (v0_5 + 1)))))))))) else (K (decide (((v0_0.length : Int) : Int) ≤ 60)))
noncomputable def impl_objsOk.g {β : Type} (k : Nat) (a0 : List (List D)) (a1 : Int) (a2 : Int) (K : Bool → Option β) : Option β :=
  Z4 (impl_objsOk.l0 k a0 a1 a2 a0 (a0.length : Int) K) k (0)
noncomputable def impl_objsOk.t (k : Nat) (a0 : List (List D)) (a1 : Int) (a2 : Int) : Option (Bool) := impl_objsOk.g k a0 a1 a2 (fun z0 => some z0)
noncomputable def impl_objsOk.f {β : Type} (k : Nat) (a0 : List (List D)) (a1 : Int) (a2 : Int) (K : Bool → Option β) : Option β :=
  match impl_objsOk.t k a0 a1 a2 with
  | some z0 => K z0
  | none => none
noncomputable def impl_objsOk.as (a0 : List (List D)) (a1 : Int) (a2 : Int) : List A := [.d (.sl a0), .d (.int .i64 a1), .d (.int .i64 a2)]
noncomputable def impl_objsOk.kt {β : Type} (a0 : List (List D)) (a1 : Int) (a2 : Int) (K0 : List (List C) → List Out → Option β) : Bool → Option β := fun z0 => K0 [[.d (.bool z0)]] []
noncomputable def impl_objsOk.e (k : Nat) : ZQ := { modes := [(.imm, 0), (.imm, 0), (.imm, 0)], rts := [4], al := false, run := fun {β} l K => match l with | [.d (.sl a0), .d (.int .i64 a1), .d (.int .i64 a2)] => impl_objsOk.f k a0 a1 a2 (impl_objsOk.kt a0 a1 a2 K) | _ => none }
noncomputable def impl_objsOk.E (k : Nat) : Env := fun g => bif g == 196 then some (impl_objOk.e k) else bif g == 197 then some (impl_cmpObjs.e k) else bif g == 198 then some (slices_ContainsFunc_impl_Obj__impl_objsOk_1.e k) else none
noncomputable def impl_objsOk.h : ZY := ⟨fun n => bif n == 2 then ⟨[(0, .asis), (1, .asis), (2, .asis), (9, .asis), (10, .asis), (11, .asis)], []⟩ else ⟨[], []⟩, fun _ => none, false, []⟩
noncomputable def impl_objsOk.s0 (v0_0 : List (List D)) (v0_1 : Int) (v0_2 : Int) (v0_3 : List (List D)) (v0_4 : Int) (v : Int) : St :=
  match v with
  | v0_5 => ⟨[.d false (.sl v0_0), .d false (.int .i64 v0_1), .d false (.int .i64 v0_2), .any, .any, .any, .any, .any, .any, .d false (.sl v0_3), .d true (.int .i64 v0_4), .d true (.int .i64 v0_5), .any, .any, .any, .any, .any, .any, .any, .any, .any, .any, .any, .any, .any, .any, .any, .any, .any, .any, .any, .any, .any, .any, .any, .any, .any, .any, .any, .any, .any, .any, .any, .any], []⟩
noncomputable def impl_objsOk.b0 {β : Type} (k : Nat) : St → (Ex → St → Option β) → Option β := fun s K => den Try.prog (impl_objsOk.E k) impl_objsOk.h.H impl_objsOk.h.J k (Zad [1, 0, 1, 0, 0] (Zl Try.f127)) s K
noncomputable def impl_objsOk.c0 {β : Type} (k : Nat) (a0 : List (List D)) (a1 : Int) (a2 : Int) (K0 : List (List C) → List Out → Option β) : Ex → St → Option β := Zae Try.prog (impl_objsOk.E k) impl_objsOk.h k [1, 0, 1, 0] (Zl Try.f127) (Zak Try.prog Try.f127 impl_objsOk.h (impl_objsOk.as a0 a1 a2) K0)
theorem impl_objsOk.l0_eq {β : Type} (k : Nat) (a0 : List (List D)) (a1 : Int) (a2 : Int) (K0 : List (List C) → List Out → Option β) (v0_0 : List (List D)) (v0_1 : Int) (v0_2 : Int) (v0_3 : List (List D)) (v0_4 : Int) : ∀ (kk : Nat) (v : Int), Zx (impl_objsOk.b0 k) (impl_objsOk.h.H 2) kk (impl_objsOk.s0 v0_0 v0_1 v0_2 v0_3 v0_4 v) (impl_objsOk.c0 k a0 a1 a2 K0) = Z4 (impl_objsOk.l0 k v0_0 v0_1 v0_2 v0_3 v0_4 (impl_objsOk.kt a0 a1 a2 K0)) kk v :=
  Z9 (impl_objsOk.s0 v0_0 v0_1 v0_2 v0_3 v0_4) _ (fun L0 v => by kernel_rfl)
noncomputable def impl_objsOk.m {β : Type} (k : Nat) (a0 : List (List D)) (a1 : Int) (a2 : Int) (K0 : List (List C) → List Out → Option β) (F : ((List (List D)) → Int → Int → (List (List D)) → Int → Int → Option β)) : Option β :=
  (F) a0 a1 a2 a0 (a0.length : Int) (0)
theorem impl_objsOk.f_eq {β : Type} (k : Nat) (a0 : List (List D)) (a1 : Int) (a2 : Int) (K0 : List (List C) → List Out → Option β) : ZJ Try.prog (impl_objsOk.E k) impl_objsOk.h k Try.f127 (impl_objsOk.as a0 a1 a2) K0 = impl_objsOk.g k a0 a1 a2 (impl_objsOk.kt a0 a1 a2 K0) := Eq.trans (b := (impl_objsOk.m k a0 a1 a2 K0) (fun (v0_0 : List (List D)) (v0_1 : Int) (v0_2 : Int) (v0_3 : List (List D)) (v0_4 : Int) (v : Int) => Zx (impl_objsOk.b0 k) (impl_objsOk.h.H 2) k (impl_objsOk.s0 v0_0 v0_1 v0_2 v0_3 v0_4 v) (impl_objsOk.c0 k a0 a1 a2 K0))) (by kernel_rfl) (Eq.trans (congrArg (impl_objsOk.m k a0 a1 a2 K0) (funext fun v0_0 => funext fun v0_1 => funext fun v0_2 => funext fun v0_3 => funext fun v0_4 => funext fun v => impl_objsOk.l0_eq k a0 a1 a2 K0 v0_0 v0_1 v0_2 v0_3 v0_4 k v)) (by kernel_rfl))
noncomputable def impl_objsOk.dec (rs : List (List C)) (os : List Out) : Option (Bool) := Zd rs fun c1 r2 => Zd c1 fun x3 l4 => cD x3 fun d5 => ZaF d5 fun w0 => Ze l4 <| Ze r2 <| Ze os (some w0)
theorem impl_objsOk.kt_dec (a0 : List (List D)) (a1 : Int) (a2 : Int) : impl_objsOk.kt a0 a1 a2 impl_objsOk.dec = (fun z0 => some z0) := by kernel_rfl
theorem impl_objsOk.inj (a0 : List (List D)) (a1 : Int) (a2 : Int) {rs : List (List C)} {os : List Out} {z0 : Bool} (h : impl_objsOk.dec rs os = some z0) (ho : Zo (impl_objsOk.as a0 a1 a2) os) : rs = [[.d (.bool z0)]] ∧ os = [] := by
  unfold impl_objsOk.dec at h
  obtain ⟨c1, r2, rfl, h1⟩ := Zb h
  obtain ⟨x3, l4, rfl, h2⟩ := Zb h1
  obtain ⟨d5, rfl, h3⟩ := Zt h2
  obtain ⟨w0, rfl, h4⟩ := Z0 h3
  obtain ⟨rfl, h5⟩ := Zc h4
  obtain ⟨rfl, h6⟩ := Zc h5
  obtain ⟨rfl, h7⟩ := Zc h6
  obtain rfl := Option.some.inj h7
  exact ⟨rfl, rfl⟩
theorem impl_objsOk.ok (k : Nat) : Zv Try.prog 127 (impl_objsOk.e k) := by
  refine Zu mix tyok (fn := Try.f127) (c := Zl Try.f127) Try.func127 (by kernel_rfl) (h := impl_objsOk.h) (k := k) (E := impl_objsOk.E k) (Zk (impl_objOk.ok k) (Zk (impl_cmpObjs.ok k) (Zk (slices_ContainsFunc_impl_Obj__impl_objsOk_1.ok k) Zz))) (by kernel_rfl) (by kernel_rfl) rfl (Zq Try.func127 (by kernel_rfl)) ?_
  intro β l K r hr
  simp only [impl_objsOk.e] at hr
  split at hr
  case h_2 => cases hr
  unfold impl_objsOk.f at hr
  split at hr
  case h_2 => cases hr
  rename_i hz
  exact ⟨_, _, hr, _, impl_objsOk.dec, _, (impl_objsOk.f_eq k _ _ _ impl_objsOk.dec).trans (by rw [impl_objsOk.kt_dec]; exact hz), fun rs os h ho => impl_objsOk.inj _ _ _ h ho⟩
noncomputable def impl_MirrorOk.g {β : Type} (k : Nat) (a0_0 : Int) (a0_1 : List (List D)) (K : Bool → Option β) : Option β :=
  impl_within.f k a0_0 0 1000000 (fun y1 => bif y1 then (impl_objsOk.f k a0_1 1000000 a0_0 (fun y218 => K y218)) else (K false))
noncomputable def impl_MirrorOk.t (k : Nat) (a0_0 : Int) (a0_1 : List (List D)) : Option (Bool) := impl_MirrorOk.g k a0_0 a0_1 (fun z0 => some z0)
noncomputable def impl_MirrorOk.f {β : Type} (k : Nat) (a0_0 : Int) (a0_1 : List (List D)) (K : Bool → Option β) : Option β :=
  match impl_MirrorOk.t k a0_0 a0_1 with
  | some z0 => K z0
  | none => none
noncomputable def impl_MirrorOk.as (a0_0 : Int) (a0_1 : List (List D)) : List A := [.agg [.int .i64 a0_0, .sl a0_1]]
noncomputable def impl_MirrorOk.kt {β : Type} (a0_0 : Int) (a0_1 : List (List D)) (K0 : List (List C) → List Out → Option β) : Bool → Option β := fun z0 => K0 [[.d (.bool z0)]] []
noncomputable def impl_MirrorOk.e (k : Nat) : ZQ := { modes := [(.imm, 0)], rts := [4], al := false, run := fun {β} l K => match l with | [.agg [.int .i64 a0_0, .sl a0_1]] => impl_MirrorOk.f k a0_0 a0_1 (impl_MirrorOk.kt a0_0 a0_1 K) | _ => none }
noncomputable def impl_MirrorOk.E (k : Nat) : Env := fun g => bif g == 126 then some (impl_within.e k) else bif g == 127 then some (impl_objsOk.e k) else none
noncomputable def impl_MirrorOk.h : ZY := ⟨fun n => ⟨[], []⟩, fun _ => none, false, []⟩
theorem impl_MirrorOk.f_eq {β : Type} (k : Nat) (a0_0 : Int) (a0_1 : List (List D)) (K0 : List (List C) → List Out → Option β) : ZJ Try.prog (impl_MirrorOk.E k) impl_MirrorOk.h k Try.f47 (impl_MirrorOk.as a0_0 a0_1) K0 = impl_MirrorOk.g k a0_0 a0_1 (impl_MirrorOk.kt a0_0 a0_1 K0) := by kernel_rfl
noncomputable def impl_MirrorOk.dec (rs : List (List C)) (os : List Out) : Option (Bool) := Zd rs fun c1 r2 => Zd c1 fun x3 l4 => cD x3 fun d5 => ZaF d5 fun w0 => Ze l4 <| Ze r2 <| Ze os (some w0)
theorem impl_MirrorOk.kt_dec (a0_0 : Int) (a0_1 : List (List D)) : impl_MirrorOk.kt a0_0 a0_1 impl_MirrorOk.dec = (fun z0 => some z0) := by kernel_rfl
theorem impl_MirrorOk.inj (a0_0 : Int) (a0_1 : List (List D)) {rs : List (List C)} {os : List Out} {z0 : Bool} (h : impl_MirrorOk.dec rs os = some z0) (ho : Zo (impl_MirrorOk.as a0_0 a0_1) os) : rs = [[.d (.bool z0)]] ∧ os = [] := by
  unfold impl_MirrorOk.dec at h
  obtain ⟨c1, r2, rfl, h1⟩ := Zb h
  obtain ⟨x3, l4, rfl, h2⟩ := Zb h1
  obtain ⟨d5, rfl, h3⟩ := Zt h2
  obtain ⟨w0, rfl, h4⟩ := Z0 h3
  obtain ⟨rfl, h5⟩ := Zc h4
  obtain ⟨rfl, h6⟩ := Zc h5
  obtain ⟨rfl, h7⟩ := Zc h6
  obtain rfl := Option.some.inj h7
  exact ⟨rfl, rfl⟩
theorem impl_MirrorOk.ok (k : Nat) : Zv Try.prog 47 (impl_MirrorOk.e k) := by
  refine Zu mix tyok (fn := Try.f47) (c := Zl Try.f47) Try.func47 (by kernel_rfl) (h := impl_MirrorOk.h) (k := k) (E := impl_MirrorOk.E k) (Zk (impl_within.ok k) (Zk (impl_objsOk.ok k) Zz)) (by kernel_rfl) (by kernel_rfl) rfl (Zq Try.func47 (by kernel_rfl)) ?_
  intro β l K r hr
  simp only [impl_MirrorOk.e] at hr
  split at hr
  case h_2 => cases hr
  unfold impl_MirrorOk.f at hr
  split at hr
  case h_2 => cases hr
  rename_i hz
  exact ⟨_, _, hr, _, impl_MirrorOk.dec, _, (impl_MirrorOk.f_eq k _ _ impl_MirrorOk.dec).trans (by rw [impl_MirrorOk.kt_dec]; exact hz), fun rs os h ho => impl_MirrorOk.inj _ _ h ho⟩
noncomputable def laws_eqStringS.l0 {β : Type} (k : Nat) (v0_0 : List (List D)) (v0_1 : List (List D)) (K : Bool → Option β) (L0 : Int → Option β) (v : Int) : Option β :=
  match v with
  | v0_2 => bif (decide ((v0_2 : Int) < (v0_0.length : Int))) then (ZX v0_0 v0_2 fun c9 => Zd c9 fun d10 r11 => Zan d10 fun x12 => Ze r11 (ZX v0_1 v0_2 fun c13 => Zd c13 fun d14 r15 => Zan d14 fun x16 => Ze r15 (bif (!(strEq x12 x16)) then (K false) else (L0 (IntKind.wrap .i64 (v0_2 + 1)))))) else (K true)
noncomputable def laws_eqStringS.g {β : Type} (k : Nat) (a0 : List (List D)) (a1 : List (List D)) (K : Bool → Option β) : Option β :=
  bif (((a0.length : Int) : Int) != (a1.length : Int)) then (K false) else (Z4 (laws_eqStringS.l0 k a0 a1 K) k (0))
noncomputable def laws_eqStringS.t (k : Nat) (a0 : List (List D)) (a1 : List (List D)) : Option (Bool) := laws_eqStringS.g k a0 a1 (fun z0 => some z0)
noncomputable def laws_eqStringS.f {β : Type} (k : Nat) (a0 : List (List D)) (a1 : List (List D)) (K : Bool → Option β) : Option β :=
  match laws_eqStringS.t k a0 a1 with
  | some z0 => K z0
  | none => none
noncomputable def laws_eqStringS.as (a0 : List (List D)) (a1 : List (List D)) : List A := [.d (.sl a0), .d (.sl a1)]
noncomputable def laws_eqStringS.kt {β : Type} (a0 : List (List D)) (a1 : List (List D)) (K0 : List (List C) → List Out → Option β) : Bool → Option β := fun z0 => K0 [[.d (.bool z0)]] []
noncomputable def laws_eqStringS.e (k : Nat) : ZQ := { modes := [(.imm, 0), (.imm, 0)], rts := [4], al := false, run := fun {β} l K => match l with | [.d (.sl a0), .d (.sl a1)] => laws_eqStringS.f k a0 a1 (laws_eqStringS.kt a0 a1 K) | _ => none }
noncomputable def laws_eqStringS.E (k : Nat) : Env := fun g => none
noncomputable def laws_eqStringS.h : ZY := ⟨fun n => bif n == 4 then ⟨[(0, .asis), (1, .asis), (5, .asis)], []⟩ else ⟨[], []⟩, fun _ => none, false, []⟩
noncomputable def laws_eqStringS.s0 (v0_0 : List (List D)) (v0_1 : List (List D)) (v : Int) : St :=
  match v with
  | v0_2 => ⟨[.d false (.sl v0_0), .d false (.sl v0_1), .any, .any, .any, .d true (.int .i64 v0_2), .any, .any, .any, .any, .any, .any, .any, .any, .any, .any, .any, .any, .any, .any, .any, .any, .any, .any, .any, .any], []⟩
noncomputable def laws_eqStringS.b0 {β : Type} (k : Nat) : St → (Ex → St → Option β) → Option β := fun s K => den Try.prog (laws_eqStringS.E k) laws_eqStringS.h.H laws_eqStringS.h.J k (Zad [1, 1, 0, 1, 0, 0] (Zl Try.f82)) s K
noncomputable def laws_eqStringS.c0 {β : Type} (k : Nat) (a0 : List (List D)) (a1 : List (List D)) (K0 : List (List C) → List Out → Option β) : Ex → St → Option β := Zae Try.prog (laws_eqStringS.E k) laws_eqStringS.h k [1, 1, 0, 1, 0] (Zl Try.f82) (Zak Try.prog Try.f82 laws_eqStringS.h (laws_eqStringS.as a0 a1) K0)
theorem laws_eqStringS.l0_eq {β : Type} (k : Nat) (a0 : List (List D)) (a1 : List (List D)) (K0 : List (List C) → List Out → Option β) (v0_0 : List (List D)) (v0_1 : List (List D)) : ∀ (kk : Nat) (v : Int), Zx (laws_eqStringS.b0 k) (laws_eqStringS.h.H 4) kk (laws_eqStringS.s0 v0_0 v0_1 v) (laws_eqStringS.c0 k a0 a1 K0) = Z4 (laws_eqStringS.l0 k v0_0 v0_1 (laws_eqStringS.kt a0 a1 K0)) kk v :=
  Z9 (laws_eqStringS.s0 v0_0 v0_1) _ (fun L0 v => by kernel_rfl)
noncomputable def laws_eqStringS.m {β : Type} (k : Nat) (a0 : List (List D)) (a1 : List (List D)) (K0 : List (List C) → List Out → Option β) (F : ((List (List D)) → (List (List D)) → Int → Option β)) : Option β :=
  bif (((a0.length : Int) : Int) != (a1.length : Int)) then ((laws_eqStringS.kt a0 a1 K0) false) else ((F) a0 a1 (0))
theorem laws_eqStringS.f_eq {β : Type} (k : Nat) (a0 : List (List D)) (a1 : List (List D)) (K0 : List (List C) → List Out → Option β) : ZJ Try.prog (laws_eqStringS.E k) laws_eqStringS.h k Try.f82 (laws_eqStringS.as a0 a1) K0 = laws_eqStringS.g k a0 a1 (laws_eqStringS.kt a0 a1 K0) := Eq.trans (b := (laws_eqStringS.m k a0 a1 K0) (fun (v0_0 : List (List D)) (v0_1 : List (List D)) (v : Int) => Zx (laws_eqStringS.b0 k) (laws_eqStringS.h.H 4) k (laws_eqStringS.s0 v0_0 v0_1 v) (laws_eqStringS.c0 k a0 a1 K0))) (by kernel_rfl) (Eq.trans (congrArg (laws_eqStringS.m k a0 a1 K0) (funext fun v0_0 => funext fun v0_1 => funext fun v => laws_eqStringS.l0_eq k a0 a1 K0 v0_0 v0_1 k v)) (by kernel_rfl))
noncomputable def laws_eqStringS.dec (rs : List (List C)) (os : List Out) : Option (Bool) := Zd rs fun c1 r2 => Zd c1 fun x3 l4 => cD x3 fun d5 => ZaF d5 fun w0 => Ze l4 <| Ze r2 <| Ze os (some w0)
theorem laws_eqStringS.kt_dec (a0 : List (List D)) (a1 : List (List D)) : laws_eqStringS.kt a0 a1 laws_eqStringS.dec = (fun z0 => some z0) := by kernel_rfl
theorem laws_eqStringS.inj (a0 : List (List D)) (a1 : List (List D)) {rs : List (List C)} {os : List Out} {z0 : Bool} (h : laws_eqStringS.dec rs os = some z0) (ho : Zo (laws_eqStringS.as a0 a1) os) : rs = [[.d (.bool z0)]] ∧ os = [] := by
  unfold laws_eqStringS.dec at h
  obtain ⟨c1, r2, rfl, h1⟩ := Zb h
  obtain ⟨x3, l4, rfl, h2⟩ := Zb h1
  obtain ⟨d5, rfl, h3⟩ := Zt h2
  obtain ⟨w0, rfl, h4⟩ := Z0 h3
  obtain ⟨rfl, h5⟩ := Zc h4
  obtain ⟨rfl, h6⟩ := Zc h5
  obtain ⟨rfl, h7⟩ := Zc h6
  obtain rfl := Option.some.inj h7
  exact ⟨rfl, rfl⟩
theorem laws_eqStringS.ok (k : Nat) : Zv Try.prog 82 (laws_eqStringS.e k) := by
  refine Zu mix tyok (fn := Try.f82) (c := Zl Try.f82) Try.func82 (by kernel_rfl) (h := laws_eqStringS.h) (k := k) (E := laws_eqStringS.E k) Zz (by kernel_rfl) (by kernel_rfl) rfl (Zq Try.func82 (by kernel_rfl)) ?_
  intro β l K r hr
  simp only [laws_eqStringS.e] at hr
  split at hr
  case h_2 => cases hr
  unfold laws_eqStringS.f at hr
  split at hr
  case h_2 => cases hr
  rename_i hz
  exact ⟨_, _, hr, _, laws_eqStringS.dec, _, (laws_eqStringS.f_eq k _ _ laws_eqStringS.dec).trans (by rw [laws_eqStringS.kt_dec]; exact hz), fun rs os h ho => laws_eqStringS.inj _ _ h ho⟩
noncomputable def laws_eqValueS.l0 {β : Type} (k : Nat) (r_laws_eqValueS : (List (List D)) → (List (List D)) → (Bool → Option β) → Option β) (r_laws_eqValue : Int → ByteArray → Int → (List (List D)) → (List (List D)) → Int → ByteArray → Int → (List (List D)) → (List (List D)) → (Bool → Option β) → Option β) (v0_0 : List (List D)) (v0_1 : List (List D)) (K : Bool → Option β) (L0 : Int → Option β) (v : Int) : Option β :=
  match v with
  | v0_2 => bif (decide ((v0_2 : Int) < (v0_0.length : Int))) then (ZX v0_0 v0_2 fun c34 => Zd c34 fun d35 r36 => ZM .i64 d35 fun x37 => Zd r36 fun d38 r39 => Zan d38 fun x40 => Zd r39 fun d41 r42 => ZM .i64 d41 fun x43 => Zd r42 fun d44 r45 => dSl d44 fun x46 => Zd r45 fun d47 r48 => dSl d47 fun x49 => Ze r48 (ZX v0_1 v0_2 fun c50 => Zd c50 fun d51 r52 => ZM .i64 d51 fun x53 => Zd r52 fun d54 r55 => Zan d54 fun x56 => Zd r55 fun d57 r58 => ZM .i64 d57 fun x59 => Zd r58 fun d60 r61 => dSl d60 fun x62 => Zd r61 fun d63 r64 => dSl d63 fun x65 => Ze r64 (r_laws_eqValue x37 x40 x43 x46 x49 x53 x56 x59 x62 x65 (fun y66 => bif (!y66) then (K false) else (L0 (IntKind.wrap .i64 (v0_2 + 1))))))) else (K true)
noncomputable def laws_eqValueS.body {β : Type} (k : Nat) (r_laws_eqValueS : (List (List D)) → (List (List D)) → (Bool → Option β) → Option β) (r_laws_eqValue : Int → ByteArray → Int → (List (List D)) → (List (List D)) → Int → ByteArray → Int → (List (List D)) → (List (List D)) → (Bool → Option β) → Option β) (a0 : List (List D)) (a1 : List (List D)) (K : Bool → Option β) : Option β :=
  bif (((a0.length : Int) : Int) != (a1.length : Int)) then (K false) else (Z4 (laws_eqValueS.l0 k r_laws_eqValueS r_laws_eqValue a0 a1 K) k (0))
noncomputable def laws_eqValue.body {β : Type} (k : Nat) (r_laws_eqValueS : (List (List D)) → (List (List D)) → (Bool → Option β) → Option β) (r_laws_eqValue : Int → ByteArray → Int → (List (List D)) → (List (List D)) → Int → ByteArray → Int → (List (List D)) → (List (List D)) → (Bool → Option β) → Option β) (a0_0 : Int) (a0_1 : ByteArray) (a0_2 : Int) (a0_3 : List (List D)) (a0_4 : List (List D)) (a1_0 : Int) (a1_1 : ByteArray) (a1_2 : Int) (a1_3 : List (List D)) (a1_4 : List (List D)) (K : Bool → Option β) : Option β :=
  bif ((a0_0 : Int) != a1_0) then (K false) else (bif (!(strEq a0_1 a1_1)) then (K false) else (bif ((a0_2 : Int) != a1_2) then (K false) else (laws_eqStringS.f k a0_3 a1_3 (fun y1 => bif (!y1) then (K false) else (r_laws_eqValueS a0_4 a1_4 (fun y67 => bif (!y67) then (K false) else (K true)))))))
noncomputable def laws_eqValueS.w {β : Type} (r : (List (List D)) → (List (List D)) → Option (Bool)) (a0 : List (List D)) (a1 : List (List D)) (K : Bool → Option β) : Option β :=
  match r a0 a1 with
  | some z0 => K z0
  | none => none
noncomputable def laws_eqValue.w {β : Type} (r : Int → ByteArray → Int → (List (List D)) → (List (List D)) → Int → ByteArray → Int → (List (List D)) → (List (List D)) → Option (Bool)) (a0_0 : Int) (a0_1 : ByteArray) (a0_2 : Int) (a0_3 : List (List D)) (a0_4 : List (List D)) (a1_0 : Int) (a1_1 : ByteArray) (a1_2 : Int) (a1_3 : List (List D)) (a1_4 : List (List D)) (K : Bool → Option β) : Option β :=
  match r a0_0 a0_1 a0_2 a0_3 a0_4 a1_0 a1_1 a1_2 a1_3 a1_4 with
  | some z0 => K z0
  | none => none
noncomputable def laws_eqValueS.all : Nat → ((List (List D)) → (List (List D)) → Option (Bool)) × (Int → ByteArray → Int → (List (List D)) → (List (List D)) → Int → ByteArray → Int → (List (List D)) → (List (List D)) → Option (Bool))
  | 0 => (fun _ _ => none, fun _ _ _ _ _ _ _ _ _ _ => none)
  | k + 1 => (fun r => (fun a0 a1 => laws_eqValueS.body k (laws_eqValueS.w r.1) (laws_eqValue.w r.2) a0 a1 (fun z0 => some z0), fun a0_0 a0_1 a0_2 a0_3 a0_4 a1_0 a1_1 a1_2 a1_3 a1_4 => laws_eqValue.body k (laws_eqValueS.w r.1) (laws_eqValue.w r.2) a0_0 a0_1 a0_2 a0_3 a0_4 a1_0 a1_1 a1_2 a1_3 a1_4 (fun z0 => some z0))) (laws_eqValueS.all k)
noncomputable def laws_eqValueS.t (k : Nat) (a0 : List (List D)) (a1 : List (List D)) : Option (Bool) := (laws_eqValueS.all k).1 a0 a1
noncomputable def laws_eqValue.t (k : Nat) (a0_0 : Int) (a0_1 : ByteArray) (a0_2 : Int) (a0_3 : List (List D)) (a0_4 : List (List D)) (a1_0 : Int) (a1_1 : ByteArray) (a1_2 : Int) (a1_3 : List (List D)) (a1_4 : List (List D)) : Option (Bool) := (laws_eqValueS.all k).2 a0_0 a0_1 a0_2 a0_3 a0_4 a1_0 a1_1 a1_2 a1_3 a1_4
noncomputable def laws_eqValueS.f {β : Type} (k : Nat) (a0 : List (List D)) (a1 : List (List D)) (K : Bool → Option β) : Option β := laws_eqValueS.w (laws_eqValueS.t k) a0 a1 K
noncomputable def laws_eqValue.f {β : Type} (k : Nat) (a0_0 : Int) (a0_1 : ByteArray) (a0_2 : Int) (a0_3 : List (List D)) (a0_4 : List (List D)) (a1_0 : Int) (a1_1 : ByteArray) (a1_2 : Int) (a1_3 : List (List D)) (a1_4 : List (List D)) (K : Bool → Option β) : Option β := laws_eqValue.w (laws_eqValue.t k) a0_0 a0_1 a0_2 a0_3 a0_4 a1_0 a1_1 a1_2 a1_3 a1_4 K
noncomputable def laws_eqValueS.g {β : Type} (k : Nat) (a0 : List (List D)) (a1 : List (List D)) (K : Bool → Option β) : Option β := laws_eqValueS.body k (laws_eqValueS.f k) (laws_eqValue.f k) a0 a1 K
theorem laws_eqValueS.t_zero (a0 : List (List D)) (a1 : List (List D)) : laws_eqValueS.t 0 a0 a1 = none := rfl
theorem laws_eqValueS.t_succ (k : Nat) (a0 : List (List D)) (a1 : List (List D)) : laws_eqValueS.t (k + 1) a0 a1 = laws_eqValueS.g k a0 a1 (fun z0 => some z0) := rfl
noncomputable def laws_eqValue.g {β : Type} (k : Nat) (a0_0 : Int) (a0_1 : ByteArray) (a0_2 : Int) (a0_3 : List (List D)) (a0_4 : List (List D)) (a1_0 : Int) (a1_1 : ByteArray) (a1_2 : Int) (a1_3 : List (List D)) (a1_4 : List (List D)) (K : Bool → Option β) : Option β := laws_eqValue.body k (laws_eqValueS.f k) (laws_eqValue.f k) a0_0 a0_1 a0_2 a0_3 a0_4 a1_0 a1_1 a1_2 a1_3 a1_4 K
theorem laws_eqValue.t_zero (a0_0 : Int) (a0_1 : ByteArray) (a0_2 : Int) (a0_3 : List (List D)) (a0_4 : List (List D)) (a1_0 : Int) (a1_1 : ByteArray) (a1_2 : Int) (a1_3 : List (List D)) (a1_4 : List (List D)) : laws_eqValue.t 0 a0_0 a0_1 a0_2 a0_3 a0_4 a1_0 a1_1 a1_2 a1_3 a1_4 = none := rfl
theorem laws_eqValue.t_succ (k : Nat) (a0_0 : Int) (a0_1 : ByteArray) (a0_2 : Int) (a0_3 : List (List D)) (a0_4 : List (List D)) (a1_0 : Int) (a1_1 : ByteArray) (a1_2 : Int) (a1_3 : List (List D)) (a1_4 : List (List D)) : laws_eqValue.t (k + 1) a0_0 a0_1 a0_2 a0_3 a0_4 a1_0 a1_1 a1_2 a1_3 a1_4 = laws_eqValue.g k a0_0 a0_1 a0_2 a0_3 a0_4 a1_0 a1_1 a1_2 a1_3 a1_4 (fun z0 => some z0) := rfl
noncomputable def laws_eqValueS.as (a0 : List (List D)) (a1 : List (List D)) : List A := [.d (.sl a0), .d (.sl a1)]
noncomputable def laws_eqValueS.kt {β : Type} (a0 : List (List D)) (a1 : List (List D)) (K0 : List (List C) → List Out → Option β) : Bool → Option β := fun z0 => K0 [[.d (.bool z0)]] []
noncomputable def laws_eqValueS.e (k : Nat) : ZQ := { modes := [(.imm, 0), (.imm, 0)], rts := [4], al := false, run := fun {β} l K => match l with | [.d (.sl a0), .d (.sl a1)] => laws_eqValueS.f k a0 a1 (laws_eqValueS.kt a0 a1 K) | _ => none }
noncomputable def laws_eqValue.as (a0_0 : Int) (a0_1 : ByteArray) (a0_2 : Int) (a0_3 : List (List D)) (a0_4 : List (List D)) (a1_0 : Int) (a1_1 : ByteArray) (a1_2 : Int) (a1_3 : List (List D)) (a1_4 : List (List D)) : List A := [.agg [.int .i64 a0_0, .str a0_1, .int .i64 a0_2, .sl a0_3, .sl a0_4], .agg [.int .i64 a1_0, .str a1_1, .int .i64 a1_2, .sl a1_3, .sl a1_4]]
noncomputable def laws_eqValue.kt {β : Type} (a0_0 : Int) (a0_1 : ByteArray) (a0_2 : Int) (a0_3 : List (List D)) (a0_4 : List (List D)) (a1_0 : Int) (a1_1 : ByteArray) (a1_2 : Int) (a1_3 : List (List D)) (a1_4 : List (List D)) (K0 : List (List C) → List Out → Option β) : Bool → Option β := fun z0 => K0 [[.d (.bool z0)]] []
noncomputable def laws_eqValue.e (k : Nat) : ZQ := { modes := [(.imm, 0), (.imm, 0)], rts := [4], al := false, run := fun {β} l K => match l with | [.agg [.int .i64 a0_0, .str a0_1, .int .i64 a0_2, .sl a0_3, .sl a0_4], .agg [.int .i64 a1_0, .str a1_1, .int .i64 a1_2, .sl a1_3, .sl a1_4]] => laws_eqValue.f k a0_0 a0_1 a0_2 a0_3 a0_4 a1_0 a1_1 a1_2 a1_3 a1_4 (laws_eqValue.kt a0_0 a0_1 a0_2 a0_3 a0_4 a1_0 a1_1 a1_2 a1_3 a1_4 K) | _ => none }
noncomputable def laws_eqValueS.E (k : Nat) : Env := fun g => bif g == 190 then some (laws_eqValue.e k) else none
noncomputable def laws_eqValueS.h : ZY := ⟨fun n => bif n == 4 then ⟨[(0, .asis), (1, .asis), (5, .asis)], []⟩ else ⟨[], []⟩, fun _ => none, false, []⟩
noncomputable def laws_eqValueS.s0 (v0_0 : List (List D)) (v0_1 : List (List D)) (v : Int) : St :=
  match v with
  | v0_2 => ⟨[.d false (.sl v0_0), .d false (.sl v0_1), .any, .any, .any, .d true (.int .i64 v0_2), .any, .any, .any, .any, .any, .any, .any, .any, .any, .any, .any, .any, .any, .any, .any, .any, .any, .any, .any, .any, .any], []⟩
noncomputable def laws_eqValueS.b0 {β : Type} (k : Nat) : St → (Ex → St → Option β) → Option β := fun s K => den Try.prog (laws_eqValueS.E k) laws_eqValueS.h.H laws_eqValueS.h.J k (Zad [1, 1, 0, 1, 0, 0] (Zl Try.f226)) s K
noncomputable def laws_eqValueS.c0 {β : Type} (k : Nat) (a0 : List (List D)) (a1 : List (List D)) (K0 : List (List C) → List Out → Option β) : Ex → St → Option β := Zae Try.prog (laws_eqValueS.E k) laws_eqValueS.h k [1, 1, 0, 1, 0] (Zl Try.f226) (Zak Try.prog Try.f226 laws_eqValueS.h (laws_eqValueS.as a0 a1) K0)
theorem laws_eqValueS.l0_eq {β : Type} (k : Nat) (a0 : List (List D)) (a1 : List (List D)) (K0 : List (List C) → List Out → Option β) (v0_0 : List (List D)) (v0_1 : List (List D)) : ∀ (kk : Nat) (v : Int), Zx (laws_eqValueS.b0 k) (laws_eqValueS.h.H 4) kk (laws_eqValueS.s0 v0_0 v0_1 v) (laws_eqValueS.c0 k a0 a1 K0) = Z4 (laws_eqValueS.l0 k (laws_eqValueS.f k) (laws_eqValue.f k) v0_0 v0_1 (laws_eqValueS.kt a0 a1 K0)) kk v :=
  Z9 (laws_eqValueS.s0 v0_0 v0_1) _ (fun L0 v => by kernel_rfl)
noncomputable def laws_eqValueS.m {β : Type} (k : Nat) (a0 : List (List D)) (a1 : List (List D)) (K0 : List (List C) → List Out → Option β) (F : ((List (List D)) → (List (List D)) → Int → Option β)) : Option β :=
  bif (((a0.length : Int) : Int) != (a1.length : Int)) then ((laws_eqValueS.kt a0 a1 K0) false) else ((F) a0 a1 (0))
theorem laws_eqValueS.f_eq {β : Type} (k : Nat) (a0 : List (List D)) (a1 : List (List D)) (K0 : List (List C) → List Out → Option β) : ZJ Try.prog (laws_eqValueS.E k) laws_eqValueS.h k Try.f226 (laws_eqValueS.as a0 a1) K0 = laws_eqValueS.g k a0 a1 (laws_eqValueS.kt a0 a1 K0) := Eq.trans (b := (laws_eqValueS.m k a0 a1 K0) (fun (v0_0 : List (List D)) (v0_1 : List (List D)) (v : Int) => Zx (laws_eqValueS.b0 k) (laws_eqValueS.h.H 4) k (laws_eqValueS.s0 v0_0 v0_1 v) (laws_eqValueS.c0 k a0 a1 K0))) (by kernel_rfl) (Eq.trans (congrArg (laws_eqValueS.m k a0 a1 K0) (funext fun v0_0 => funext fun v0_1 => funext fun v => laws_eqValueS.l0_eq k a0 a1 K0 v0_0 v0_1 k v)) (by kernel_rfl))
noncomputable def laws_eqValue.E (k : Nat) : Env := fun g => bif g == 82 then some (laws_eqStringS.e k) else bif g == 226 then some (laws_eqValueS.e k) else none
noncomputable def laws_eqValue.h : ZY := ⟨fun n => ⟨[], []⟩, fun _ => none, false, []⟩
theorem laws_eqValue.f_eq {β : Type} (k : Nat) (a0_0 : Int) (a0_1 : ByteArray) (a0_2 : Int) (a0_3 : List (List D)) (a0_4 : List (List D)) (a1_0 : Int) (a1_1 : ByteArray) (a1_2 : Int) (a1_3 : List (List D)) (a1_4 : List (List D)) (K0 : List (List C) → List Out → Option β) : ZJ Try.prog (laws_eqValue.E k) laws_eqValue.h k Try.f190 (laws_eqValue.as a0_0 a0_1 a0_2 a0_3 a0_4 a1_0 a1_1 a1_2 a1_3 a1_4) K0 = laws_eqValue.g k a0_0 a0_1 a0_2 a0_3 a0_4 a1_0 a1_1 a1_2 a1_3 a1_4 (laws_eqValue.kt a0_0 a0_1 a0_2 a0_3 a0_4 a1_0 a1_1 a1_2 a1_3 a1_4 K0) := by kernel_rfl
noncomputable def laws_eqValueS.dec (rs : List (List C)) (os : List Out) : Option (Bool) := Zd rs fun c1 r2 => Zd c1 fun x3 l4 => cD x3 fun d5 => ZaF d5 fun w0 => Ze l4 <| Ze r2 <| Ze os (some w0)
theorem laws_eqValueS.kt_dec (a0 : List (List D)) (a1 : List (List D)) : laws_eqValueS.kt a0 a1 laws_eqValueS.dec = (fun z0 => some z0) := by kernel_rfl
theorem laws_eqValueS.inj (a0 : List (List D)) (a1 : List (List D)) {rs : List (List C)} {os : List Out} {z0 : Bool} (h : laws_eqValueS.dec rs os = some z0) (ho : Zo (laws_eqValueS.as a0 a1) os) : rs = [[.d (.bool z0)]] ∧ os = [] := by
  unfold laws_eqValueS.dec at h
  obtain ⟨c1, r2, rfl, h1⟩ := Zb h
  obtain ⟨x3, l4, rfl, h2⟩ := Zb h1
  obtain ⟨d5, rfl, h3⟩ := Zt h2
  obtain ⟨w0, rfl, h4⟩ := Z0 h3
  obtain ⟨rfl, h5⟩ := Zc h4
  obtain ⟨rfl, h6⟩ := Zc h5
  obtain ⟨rfl, h7⟩ := Zc h6
  obtain rfl := Option.some.inj h7
  exact ⟨rfl, rfl⟩
noncomputable def laws_eqValue.dec (rs : List (List C)) (os : List Out) : Option (Bool) := Zd rs fun c1 r2 => Zd c1 fun x3 l4 => cD x3 fun d5 => ZaF d5 fun w0 => Ze l4 <| Ze r2 <| Ze os (some w0)
theorem laws_eqValue.kt_dec (a0_0 : Int) (a0_1 : ByteArray) (a0_2 : Int) (a0_3 : List (List D)) (a0_4 : List (List D)) (a1_0 : Int) (a1_1 : ByteArray) (a1_2 : Int) (a1_3 : List (List D)) (a1_4 : List (List D)) : laws_eqValue.kt a0_0 a0_1 a0_2 a0_3 a0_4 a1_0 a1_1 a1_2 a1_3 a1_4 laws_eqValue.dec = (fun z0 => some z0) := by kernel_rfl
theorem laws_eqValue.inj (a0_0 : Int) (a0_1 : ByteArray) (a0_2 : Int) (a0_3 : List (List D)) (a0_4 : List (List D)) (a1_0 : Int) (a1_1 : ByteArray) (a1_2 : Int) (a1_3 : List (List D)) (a1_4 : List (List D)) {rs : List (List C)} {os : List Out} {z0 : Bool} (h : laws_eqValue.dec rs os = some z0) (ho : Zo (laws_eqValue.as a0_0 a0_1 a0_2 a0_3 a0_4 a1_0 a1_1 a1_2 a1_3 a1_4) os) : rs = [[.d (.bool z0)]] ∧ os = [] := by
  unfold laws_eqValue.dec at h
  obtain ⟨c1, r2, rfl, h1⟩ := Zb h
  obtain ⟨x3, l4, rfl, h2⟩ := Zb h1
  obtain ⟨d5, rfl, h3⟩ := Zt h2
  obtain ⟨w0, rfl, h4⟩ := Z0 h3
  obtain ⟨rfl, h5⟩ := Zc h4
  obtain ⟨rfl, h6⟩ := Zc h5
  obtain ⟨rfl, h7⟩ := Zc h6
  obtain rfl := Option.some.inj h7
  exact ⟨rfl, rfl⟩
theorem laws_eqValueS.oks (k : Nat) : Zv Try.prog 226 (laws_eqValueS.e k) ∧ Zv Try.prog 190 (laws_eqValue.e k) := by
  induction k with
  | zero =>
    refine ⟨?_, ?_⟩
    · exact Zb1 (Zq Try.func226 (by kernel_rfl)) fun β l K r h => by
        simp only [laws_eqValueS.e] at h
        split at h
        · unfold laws_eqValueS.f at h
          unfold laws_eqValueS.w at h
          rw [laws_eqValueS.t_zero] at h
          cases h
        · cases h
    · exact Zb1 (Zq Try.func190 (by kernel_rfl)) fun β l K r h => by
        simp only [laws_eqValue.e] at h
        split at h
        · unfold laws_eqValue.f at h
          unfold laws_eqValue.w at h
          rw [laws_eqValue.t_zero] at h
          cases h
        · cases h
  | succ k ih =>
    refine ⟨?_, ?_⟩
    · refine Zu mix tyok (fn := Try.f226) (c := Zl Try.f226) Try.func226 (by kernel_rfl) (h := laws_eqValueS.h) (k := k) (E := laws_eqValueS.E k) (Zk ih.2 Zz) (by kernel_rfl) (by kernel_rfl) rfl (Zq Try.func226 (by kernel_rfl)) ?_
      intro β l K r hr
      simp only [laws_eqValueS.e] at hr
      split at hr
      case h_2 => cases hr
      unfold laws_eqValueS.f at hr
      unfold laws_eqValueS.w at hr
      split at hr
      case h_2 => cases hr
      rename_i hz
      exact ⟨_, _, hr, _, laws_eqValueS.dec, _, (laws_eqValueS.f_eq k _ _ laws_eqValueS.dec).trans (by rw [laws_eqValueS.kt_dec]; exact hz), fun rs os h ho => laws_eqValueS.inj _ _ h ho⟩
    · refine Zu mix tyok (fn := Try.f190) (c := Zl Try.f190) Try.func190 (by kernel_rfl) (h := laws_eqValue.h) (k := k) (E := laws_eqValue.E k) (Zk (laws_eqStringS.ok k) (Zk ih.1 Zz)) (by kernel_rfl) (by kernel_rfl) rfl (Zq Try.func190 (by kernel_rfl)) ?_
      intro β l K r hr
      simp only [laws_eqValue.e] at hr
      split at hr
      case h_2 => cases hr
      unfold laws_eqValue.f at hr
      unfold laws_eqValue.w at hr
      split at hr
      case h_2 => cases hr
      rename_i hz
      exact ⟨_, _, hr, _, laws_eqValue.dec, _, (laws_eqValue.f_eq k _ _ _ _ _ _ _ _ _ _ laws_eqValue.dec).trans (by rw [laws_eqValue.kt_dec]; exact hz), fun rs os h ho => laws_eqValue.inj _ _ _ _ _ _ _ _ _ _ h ho⟩
theorem laws_eqValueS.ok (k : Nat) : Zv Try.prog 226 (laws_eqValueS.e k) := (laws_eqValueS.oks k).1
theorem laws_eqValue.ok (k : Nat) : Zv Try.prog 190 (laws_eqValue.e k) := (laws_eqValueS.oks k).2
noncomputable def laws_eqObj.g {β : Type} (k : Nat) (a0_0 : Int) (a0_1 : ByteArray) (a0_2 : Int) (a0_3 : Int) (a0_4 : Int) (a0_5 : Bool) (a0_6 : List (List D)) (a0_7 : Int) (a0_8 : ByteArray) (a0_9 : Int) (a0_10 : List (List D)) (a0_11 : List (List D)) (a0_12 : Int) (a0_13 : ByteArray) (a0_14 : Int) (a0_15 : List (List D)) (a0_16 : List (List D)) (a1_0 : Int) (a1_1 : ByteArray) (a1_2 : Int) (a1_3 : Int) (a1_4 : Int) (a1_5 : Bool) (a1_6 : List (List D)) (a1_7 : Int) (a1_8 : ByteArray) (a1_9 : Int) (a1_10 : List (List D)) (a1_11 : List (List D)) (a1_12 : Int) (a1_13 : ByteArray) (a1_14 : Int) (a1_15 : List (List D)) (a1_16 : List (List D)) (K : Bool → Option β) : Option β :=
  bif ((a0_0 : Int) != a1_0) then (K false) else (bif (!(strEq a0_1 a1_1)) then (K false) else (bif ((a0_2 : Int) != a1_2) then (K false) else (bif ((a0_3 : Int) != a1_3) then (K false) else (bif ((a0_4 : Int) != a1_4) then (K false) else (bif (!(a0_5 == a1_5)) then (K false) else (laws_eqStringS.f k a0_6 a1_6 (fun y17 => bif (!y17) then (K false) else (laws_eqValue.f k a0_7 a0_8 a0_9 a0_10 a0_11 a1_7 a1_8 a1_9 a1_10 a1_11 (fun y68 => bif (!y68) then (K false) else (laws_eqValue.f k a0_12 a0_13 a0_14 a0_15 a0_16 a1_12 a1_13 a1_14 a1_15 a1_16 (fun y69 => bif (!y69) then (K false) else (K true))))))))))))
noncomputable def laws_eqObj.t (k : Nat) (a0_0 : Int) (a0_1 : ByteArray) (a0_2 : Int) (a0_3 : Int) (a0_4 : Int) (a0_5 : Bool) (a0_6 : List (List D)) (a0_7 : Int) (a0_8 : ByteArray) (a0_9 : Int) (a0_10 : List (List D)) (a0_11 : List (List D)) (a0_12 : Int) (a0_13 : ByteArray) (a0_14 : Int) (a0_15 : List (List D)) (a0_16 : List (List D)) (a1_0 : Int) (a1_1 : ByteArray) (a1_2 : Int) (a1_3 : Int) (a1_4 : Int) (a1_5 : Bool) (a1_6 : List (List D)) (a1_7 : Int) (a1_8 : ByteArray) (a1_9 : Int) (a1_10 : List (List D)) (a1_11 : List (List D)) (a1_12 : Int) (a1_13 : ByteArray) (a1_14 : Int) (a1_15 : List (List D)) (a1_16 : List (List D)) : Option (Bool) := laws_eqObj.g k a0_0 a0_1 a0_2 a0_3 a0_4 a0_5 a0_6 a0_7 a0_8 a0_9 a0_10 a0_11 a0_12 a0_13 a0_14 a0_15 a0_16 a1_0 a1_1 a1_2 a1_3 a1_4 a1_5 a1_6 a1_7 a1_8 a1_9 a1_10 a1_11 a1_12 a1_13 a1_14 a1_15 a1_16 (fun z0 => some z0)
noncomputable def laws_eqObj.f {β : Type} (k : Nat) (a0_0 : Int) (a0_1 : ByteArray) (a0_2 : Int) (a0_3 : Int) (a0_4 : Int) (a0_5 : Bool) (a0_6 : List (List D)) (a0_7 : Int) (a0_8 : ByteArray) (a0_9 : Int) (a0_10 : List (List D)) (a0_11 : List (List D)) (a0_12 : Int) (a0_13 : ByteArray) (a0_14 : Int) (a0_15 : List (List D)) (a0_16 : List (List D)) (a1_0 : Int) (a1_1 : ByteArray) (a1_2 : Int) (a1_3 : Int) (a1_4 : Int) (a1_5 : Bool) (a1_6 : List (List D)) (a1_7 : Int) (a1_8 : ByteArray) (a1_9 : Int) (a1_10 : List (List D)) (a1_11 : List (List D)) (a1_12 : Int) (a1_13 : ByteArray) (a1_14 : Int) (a1_15 : List (List D)) (a1_16 : List (List D)) (K : Bool → Option β) : Option β :=
  match laws_eqObj.t k a0_0 a0_1 a0_2 a0_3 a0_4 a0_5 a0_6 a0_7 a0_8 a0_9 a0_10 a0_11 a0_12 a0_13 a0_14 a0_15 a0_16 a1_0 a1_1 a1_2 a1_3 a1_4 a1_5 a1_6 a1_7 a1_8 a1_9 a1_10 a1_11 a1_12 a1_13 a1_14 a1_15 a1_16 with
  | some z0 => K z0
  | none => none
noncomputable def laws_eqObj.as (a0_0 : Int) (a0_1 : ByteArray) (a0_2 : Int) (a0_3 : Int) (a0_4 : Int) (a0_5 : Bool) (a0_6 : List (List D)) (a0_7 : Int) (a0_8 : ByteArray) (a0_9 : Int) (a0_10 : List (List D)) (a0_11 : List (List D)) (a0_12 : Int) (a0_13 : ByteArray) (a0_14 : Int) (a0_15 : List (List D)) (a0_16 : List (List D)) (a1_0 : Int) (a1_1 : ByteArray) (a1_2 : Int) (a1_3 : Int) (a1_4 : Int) (a1_5 : Bool) (a1_6 : List (List D)) (a1_7 : Int) (a1_8 : ByteArray) (a1_9 : Int) (a1_10 : List (List D)) (a1_11 : List (List D)) (a1_12 : Int) (a1_13 : ByteArray) (a1_14 : Int) (a1_15 : List (List D)) (a1_16 : List (List D)) : List A := [.agg [.int .i64 a0_0, .str a0_1, .int .i64 a0_2, .int .i64 a0_3, .int .i64 a0_4, .bool a0_5, .sl a0_6, .int .i64 a0_7, .str a0_8, .int .i64 a0_9, .sl a0_10, .sl a0_11, .int .i64 a0_12, .str a0_13, .int .i64 a0_14, .sl a0_15, .sl a0_16], .agg [.int .i64 a1_0, .str a1_1, .int .i64 a1_2, .int .i64 a1_3, .int .i64 a1_4, .bool a1_5, .sl a1_6, .int .i64 a1_7, .str a1_8, .int .i64 a1_9, .sl a1_10, .sl a1_11, .int .i64 a1_12, .str a1_13, .int .i64 a1_14, .sl a1_15, .sl a1_16]]
noncomputable def laws_eqObj.kt {β : Type} (a0_0 : Int) (a0_1 : ByteArray) (a0_2 : Int) (a0_3 : Int) (a0_4 : Int) (a0_5 : Bool) (a0_6 : List (List D)) (a0_7 : Int) (a0_8 : ByteArray) (a0_9 : Int) (a0_10 : List (List D)) (a0_11 : List (List D)) (a0_12 : Int) (a0_13 : ByteArray) (a0_14 : Int) (a0_15 : List (List D)) (a0_16 : List (List D)) (a1_0 : Int) (a1_1 : ByteArray) (a1_2 : Int) (a1_3 : Int) (a1_4 : Int) (a1_5 : Bool) (a1_6 : List (List D)) (a1_7 : Int) (a1_8 : ByteArray) (a1_9 : Int) (a1_10 : List (List D)) (a1_11 : List (List D)) (a1_12 : Int) (a1_13 : ByteArray) (a1_14 : Int) (a1_15 : List (List D)) (a1_16 : List (List D)) (K0 : List (List C) → List Out → Option β) : Bool → Option β := fun z0 => K0 [[.d (.bool z0)]] []
noncomputable def laws_eqObj.e (k : Nat) : ZQ := { modes := [(.imm, 0), (.imm, 0)], rts := [4], al := false, run := fun {β} l K => match l with | [.agg [.int .i64 a0_0, .str a0_1, .int .i64 a0_2, .int .i64 a0_3, .int .i64 a0_4, .bool a0_5, .sl a0_6, .int .i64 a0_7, .str a0_8, .int .i64 a0_9, .sl a0_10, .sl a0_11, .int .i64 a0_12, .str a0_13, .int .i64 a0_14, .sl a0_15, .sl a0_16], .agg [.int .i64 a1_0, .str a1_1, .int .i64 a1_2, .int .i64 a1_3, .int .i64 a1_4, .bool a1_5, .sl a1_6, .int .i64 a1_7, .str a1_8, .int .i64 a1_9, .sl a1_10, .sl a1_11, .int .i64 a1_12, .str a1_13, .int .i64 a1_14, .sl a1_15, .sl a1_16]] => laws_eqObj.f k a0_0 a0_1 a0_2 a0_3 a0_4 a0_5 a0_6 a0_7 a0_8 a0_9 a0_10 a0_11 a0_12 a0_13 a0_14 a0_15 a0_16 a1_0 a1_1 a1_2 a1_3 a1_4 a1_5 a1_6 a1_7 a1_8 a1_9 a1_10 a1_11 a1_12 a1_13 a1_14 a1_15 a1_16 (laws_eqObj.kt a0_0 a0_1 a0_2 a0_3 a0_4 a0_5 a0_6 a0_7 a0_8 a0_9 a0_10 a0_11 a0_12 a0_13 a0_14 a0_15 a0_16 a1_0 a1_1 a1_2 a1_3 a1_4 a1_5 a1_6 a1_7 a1_8 a1_9 a1_10 a1_11 a1_12 a1_13 a1_14 a1_15 a1_16 K) | _ => none }
noncomputable def laws_eqObj.E (k : Nat) : Env := fun g => bif g == 82 then some (laws_eqStringS.e k) else bif g == 190 then some (laws_eqValue.e k) else none
noncomputable def laws_eqObj.h : ZY := ⟨fun n => ⟨[], []⟩, fun _ => none, false, []⟩
theorem laws_eqObj.f_eq {β : Type} (k : Nat) (a0_0 : Int) (a0_1 : ByteArray) (a0_2 : Int) (a0_3 : Int) (a0_4 : Int) (a0_5 : Bool) (a0_6 : List (List D)) (a0_7 : Int) (a0_8 : ByteArray) (a0_9 : Int) (a0_10 : List (List D)) (a0_11 : List (List D)) (a0_12 : Int) (a0_13 : ByteArray) (a0_14 : Int) (a0_15 : List (List D)) (a0_16 : List (List D)) (a1_0 : Int) (a1_1 : ByteArray) (a1_2 : Int) (a1_3 : Int) (a1_4 : Int) (a1_5 : Bool) (a1_6 : List (List D)) (a1_7 : Int) (a1_8 : ByteArray) (a1_9 : Int) (a1_10 : List (List D)) (a1_11 : List (List D)) (a1_12 : Int) (a1_13 : ByteArray) (a1_14 : Int) (a1_15 : List (List D)) (a1_16 : List (List D)) (K0 : List (List C) → List Out → Option β) : ZJ Try.prog (laws_eqObj.E k) laws_eqObj.h k Try.f200 (laws_eqObj.as a0_0 a0_1 a0_2 a0_3 a0_4 a0_5 a0_6 a0_7 a0_8 a0_9 a0_10 a0_11 a0_12 a0_13 a0_14 a0_15 a0_16 a1_0 a1_1 a1_2 a1_3 a1_4 a1_5 a1_6 a1_7 a1_8 a1_9 a1_10 a1_11 a1_12 a1_13 a1_14 a1_15 a1_16) K0 = laws_eqObj.g k a0_0 a0_1 a0_2 a0_3 a0_4 a0_5 a0_6 a0_7 a0_8 a0_9 a0_10 a0_11 a0_12 a0_13 a0_14 a0_15 a0_16 a1_0 a1_1 a1_2 a1_3 a1_4 a1_5 a1_6 a1_7 a1_8 a1_9 a1_10 a1_11 a1_12 a1_13 a1_14 a1_15 a1_16 (laws_eqObj.kt a0_0 a0_1 a0_2 a0_3 a0_4 a0_5 a0_6 a0_7 a0_8 a0_9 a0_10 a0_11 a0_12 a0_13 a0_14 a0_15 a0_16 a1_0 a1_1 a1_2 a1_3 a1_4 a1_5 a1_6 a1_7 a1_8 a1_9 a1_10 a1_11 a1_12 a1_13 a1_14 a1_15 a1_16 K0) := by kernel_rfl
noncomputable def laws_eqObj.dec (rs : List (List C)) (os : List Out) : Option (Bool) := Zd rs fun c1 r2 => Zd c1 fun x3 l4 => cD x3 fun d5 => ZaF d5 fun w0 => Ze l4 <| Ze r2 <| Ze os (some w0)
theorem laws_eqObj.kt_dec (a0_0 : Int) (a0_1 : ByteArray) (a0_2 : Int) (a0_3 : Int) (a0_4 : Int) (a0_5 : Bool) (a0_6 : List (List D)) (a0_7 : Int) (a0_8 : ByteArray) (a0_9 : Int) (a0_10 : List (List D)) (a0_11 : List (List D)) (a0_12 : Int) (a0_13 : ByteArray) (a0_14 : Int) (a0_15 : List (List D)) (a0_16 : List (List D)) (a1_0 : Int) (a1_1 : ByteArray) (a1_2 : Int) (a1_3 : Int) (a1_4 : Int) (a1_5 : Bool) (a1_6 : List (List D)) (a1_7 : Int) (a1_8 : ByteArray) (a1_9 : Int) (a1_10 : List (List D)) (a1_11 : List (List D)) (a1_12 : Int) (a1_13 : ByteArray) (a1_14 : Int) (a1_15 : List (List D)) (a1_16 : List (List D)) : laws_eqObj.kt a0_0 a0_1 a0_2 a0_3 a0_4 a0_5 a0_6 a0_7 a0_8 a0_9 a0_10 a0_11 a0_12 a0_13 a0_14 a0_15 a0_16 a1_0 a1_1 a1_2 a1_3 a1_4 a1_5 a1_6 a1_7 a1_8 a1_9 a1_10 a1_11 a1_12 a1_13 a1_14 a1_15 a1_16 laws_eqObj.dec = (fun z0 => some z0) := by kernel_rfl
theorem laws_eqObj.inj (a0_0 : Int) (a0_1 : ByteArray) (a0_2 : Int) (a0_3 : Int) (a0_4 : Int) (a0_5 : Bool) (a0_6 : List (List D)) (a0_7 : Int) (a0_8 : ByteArray) (a0_9 : Int) (a0_10 : List (List D)) (a0_11 : List (List D)) (a0_12 : Int) (a0_13 : ByteArray) (a0_14 : Int) (a0_15 : List (List D)) (a0_16 : List (List D)) (a1_0 : Int) (a1_1 : ByteArray) (a1_2 : Int) (a1_3 : Int) (a1_4 : Int) (a1_5 : Bool) (a1_6 : List (List D)) (a1_7 : Int) (a1_8 : ByteArray) (a1_9 : Int) (a1_10 : List (List D)) (a1_11 : List (List D)) (a1_12 : Int) (a1_13 : ByteArray) (a1_14 : Int) (a1_15 : List (List D)) (a1_16 : List (List D)) {rs : List (List C)} {os : List Out} {z0 : Bool} (h : laws_eqObj.dec rs os = some z0) (ho : Zo (laws_eqObj.as a0_0 a0_1 a0_2 a0_3 a0_4 a0_5 a0_6 a0_7 a0_8 a0_9 a0_10 a0_11 a0_12 a0_13 a0_14 a0_15 a0_16 a1_0 a1_1 a1_2 a1_3 a1_4 a1_5 a1_6 a1_7 a1_8 a1_9 a1_10 a1_11 a1_12 a1_13 a1_14 a1_15 a1_16) os) : rs = [[.d (.bool z0)]] ∧ os = [] := by
  unfold laws_eqObj.dec at h
  obtain ⟨c1, r2, rfl, h1⟩ := Zb h
  obtain ⟨x3, l4, rfl, h2⟩ := Zb h1
  obtain ⟨d5, rfl, h3⟩ := Zt h2
  obtain ⟨w0, rfl, h4⟩ := Z0 h3
  obtain ⟨rfl, h5⟩ := Zc h4
  obtain ⟨rfl, h6⟩ := Zc h5
  obtain ⟨rfl, h7⟩ := Zc h6
  obtain rfl := Option.some.inj h7
  exact ⟨rfl, rfl⟩
theorem laws_eqObj.ok (k : Nat) : Zv Try.prog 200 (laws_eqObj.e k) := by
  refine Zu mix tyok (fn := Try.f200) (c := Zl Try.f200) Try.func200 (by kernel_rfl) (h := laws_eqObj.h) (k := k) (E := laws_eqObj.E k) (Zk (laws_eqStringS.ok k) (Zk (laws_eqValue.ok k) Zz)) (by kernel_rfl) (by kernel_rfl) rfl (Zq Try.func200 (by kernel_rfl)) ?_
  intro β l K r hr
  simp only [laws_eqObj.e] at hr
  split at hr
  case h_2 => cases hr
  unfold laws_eqObj.f at hr
  split at hr
  case h_2 => cases hr
  rename_i hz
  exact ⟨_, _, hr, _, laws_eqObj.dec, _, (laws_eqObj.f_eq k _ _ _ _ _ _ _ _ _ _ _ _ _ _ _ _ _ _ _ _ _ _ _ _ _ _ _ _ _ _ _ _ _ _ laws_eqObj.dec).trans (by rw [laws_eqObj.kt_dec]; exact hz), fun rs os h ho => laws_eqObj.inj _ _ _ _ _ _ _ _ _ _ _ _ _ _ _ _ _ _ _ _ _ _ _ _ _ _ _ _ _ _ _ _ _ _ h ho⟩
noncomputable def laws_eqObjS.l0 {β : Type} (k : Nat) (v0_0 : List (List D)) (v0_1 : List (List D)) (K : Bool → Option β) (L0 : Int → Option β) (v : Int) : Option β :=
  match v with
  | v0_2 => bif (decide ((v0_2 : Int) < (v0_0.length : Int))) then (ZX v0_0 v0_2 fun c106 => Zd c106 fun d107 r108 => ZM .i64 d107 fun x109 => Zd r108 fun d110 r111 => Zan d110 fun x112 => Zd r111 fun d113 r114 => ZM .i64 d113 fun x115 => Zd r114 fun d116 r117 => ZM .i64 d116 fun x118 => Zd r117 fun d119 r120 => ZM .i64 d119 fun x121 => Zd r120 fun d122 r123 => ZaF d122 fun x124 => Zd r123 fun d125 r126 => dSl d125 fun x127 => Zd r126 fun d128 r129 => ZM .i64 d128 fun x130 => Zd r129 fun d131 r132 => Zan d131 fun x133 => Zd r132 fun d134 r135 => ZM .i64 d134 fun x136 => Zd r135 fun d137 r138 => dSl d137 fun x139 => Zd r138 fun d140 r141 => dSl d140 fun x142 => Zd r141 fun d143 r144 => ZM .i64 d143 fun x145 => Zd r144 fun d146 r147 => Zan d146 fun x148 => Zd r147 fun d149 r150 => ZM .i64 d149 fun x151 => Zd r150 fun d152 r153 => dSl d152 fun x154 => Zd r153 fun d155 r156 => dSl d155 fun x157 => Ze r156 (ZX v0_1 v0_2 fun c158 => Zd c158 fun d159 r160 => ZM .i64 d159 fun x161 => Zd r160 fun d162 r163 => Zan d162 fun x164 => Zd r163 fun d165 r166 => ZM .i64 d165 fun x167 => Zd r166 fun d168 r169 => ZM .i64 d168 fun x170 => Zd r169 fun d171 r172 => ZM .i64 d171 fun x173 => Zd r172 fun d174 r175 => ZaF d174 fun x176 => Zd r175 fun d177 r178 => dSl d177 fun x179 => Zd r178 fun d180 r181 => ZM .i64 d180 fun x182 => Zd r181 fun d183 r184 => Zan d183 fun x185 => Zd r184 fun d186 r187 => ZM .i64 d186 fun x188 => Zd r187 fun d189 r190 => dSl d189 fun x191 => Zd r190 fun d192 r193 => dSl d192 fun x194 => Zd r193 fun d195 r196 => ZM .i64 d195 fun x197 => Zd r196 fun d198 r199 => Zan d198 fun x200 => Zd r199 fun d201 r202 => ZM .i64 d201 fun x203 => Zd r202 fun d204 r205 => dSl d204 fun x206 => Zd r205 fun d207 r208 => dSl d207 fun x209 => Ze r208 (laws_eqObj.f k x109 x112 x115 x118 x121 x124 x127 x130 x133 x136 x139 x142 x145 x148 x151 x154 x157 x161 x164 x167 x170 x173 x176 x179 x182 x185 x188 x191 x194 x197 x200 x203 x206 x209 (fun y210 => bif (!y210) then (K false) else (L0 (IntKind.wrap .i64 (v0_2 + 1))))))) else (K true)
noncomputable def laws_eqObjS.g {β : Type} (k : Nat) (a0 : List (List D)) (a1 : List (List D)) (K : Bool → Option β) : Option β :=
  bif (((a0.length : Int) : Int) != (a1.length : Int)) then (K false) else (Z4 (laws_eqObjS.l0 k a0 a1 K) k (0))
noncomputable def laws_eqObjS.t (k : Nat) (a0 : List (List D)) (a1 : List (List D)) : Option (Bool) := laws_eqObjS.g k a0 a1 (fun z0 => some z0)
noncomputable def laws_eqObjS.f {β : Type} (k : Nat) (a0 : List (List D)) (a1 : List (List D)) (K : Bool → Option β) : Option β :=
  match laws_eqObjS.t k a0 a1 with
  | some z0 => K z0
  | none => none
noncomputable def laws_eqObjS.as (a0 : List (List D)) (a1 : List (List D)) : List A := [.d (.sl a0), .d (.sl a1)]
noncomputable def laws_eqObjS.kt {β : Type} (a0 : List (List D)) (a1 : List (List D)) (K0 : List (List C) → List Out → Option β) : Bool → Option β := fun z0 => K0 [[.d (.bool z0)]] []
noncomputable def laws_eqObjS.e (k : Nat) : ZQ := { modes := [(.imm, 0), (.imm, 0)], rts := [4], al := false, run := fun {β} l K => match l with | [.d (.sl a0), .d (.sl a1)] => laws_eqObjS.f k a0 a1 (laws_eqObjS.kt a0 a1 K) | _ => none }
noncomputable def laws_eqObjS.E (k : Nat) : Env := fun g => bif g == 200 then some (laws_eqObj.e k) else none
noncomputable def laws_eqObjS.h : ZY := ⟨fun n => bif n == 4 then ⟨[(0, .asis), (1, .asis), (5, .asis)], []⟩ else ⟨[], []⟩, fun _ => none, false, []⟩
noncomputable def laws_eqObjS.s0 (v0_0 : List (List D)) (v0_1 : List (List D)) (v : Int) : St :=
  match v with
  | v0_2 => ⟨[.d false (.sl v0_0), .d false (.sl v0_1), .any, .any, .any, .d true (.int .i64 v0_2), .any, .any, .any, .any, .any, .any, .any, .any, .any, .any, .any, .any, .any, .any, .any, .any, .any, .any, .any, .any, .any], []⟩
noncomputable def laws_eqObjS.b0 {β : Type} (k : Nat) : St → (Ex → St → Option β) → Option β := fun s K => den Try.prog (laws_eqObjS.E k) laws_eqObjS.h.H laws_eqObjS.h.J k (Zad [1, 1, 0, 1, 0, 0] (Zl Try.f128)) s K
noncomputable def laws_eqObjS.c0 {β : Type} (k : Nat) (a0 : List (List D)) (a1 : List (List D)) (K0 : List (List C) → List Out → Option β) : Ex → St → Option β := Zae Try.prog (laws_eqObjS.E k) laws_eqObjS.h k [1, 1, 0, 1, 0] (Zl Try.f128) (Zak Try.prog Try.f128 laws_eqObjS.h (laws_eqObjS.as a0 a1) K0)
theorem laws_eqObjS.l0_eq {β : Type} (k : Nat) (a0 : List (List D)) (a1 : List (List D)) (K0 : List (List C) → List Out → Option β) (v0_0 : List (List D)) (v0_1 : List (List D)) : ∀ (kk : Nat) (v : Int), Zx (laws_eqObjS.b0 k) (laws_eqObjS.h.H 4) kk (laws_eqObjS.s0 v0_0 v0_1 v) (laws_eqObjS.c0 k a0 a1 K0) = Z4 (laws_eqObjS.l0 k v0_0 v0_1 (laws_eqObjS.kt a0 a1 K0)) kk v :=
  Z9 (laws_eqObjS.s0 v0_0 v0_1) _ (fun L0 v => by kernel_rfl)
noncomputable def laws_eqObjS.m {β : Type} (k : Nat) (a0 : List (List D)) (a1 : List (List D)) (K0 : List (List C) → List Out → Option β) (F : ((List (List D)) → (List (List D)) → Int → Option β)) : Option β :=
  bif (((a0.length : Int) : Int) != (a1.length : Int)) then ((laws_eqObjS.kt a0 a1 K0) false) else ((F) a0 a1 (0))
theorem laws_eqObjS.f_eq {β : Type} (k : Nat) (a0 : List (List D)) (a1 : List (List D)) (K0 : List (List C) → List Out → Option β) : ZJ Try.prog (laws_eqObjS.E k) laws_eqObjS.h k Try.f128 (laws_eqObjS.as a0 a1) K0 = laws_eqObjS.g k a0 a1 (laws_eqObjS.kt a0 a1 K0) := Eq.trans (b := (laws_eqObjS.m k a0 a1 K0) (fun (v0_0 : List (List D)) (v0_1 : List (List D)) (v : Int) => Zx (laws_eqObjS.b0 k) (laws_eqObjS.h.H 4) k (laws_eqObjS.s0 v0_0 v0_1 v) (laws_eqObjS.c0 k a0 a1 K0))) (by kernel_rfl) (Eq.trans (congrArg (laws_eqObjS.m k a0 a1 K0) (funext fun v0_0 => funext fun v0_1 => funext fun v => laws_eqObjS.l0_eq k a0 a1 K0 v0_0 v0_1 k v)) (by kernel_rfl))
noncomputable def laws_eqObjS.dec (rs : List (List C)) (os : List Out) : Option (Bool) := Zd rs fun c1 r2 => Zd c1 fun x3 l4 => cD x3 fun d5 => ZaF d5 fun w0 => Ze l4 <| Ze r2 <| Ze os (some w0)
theorem laws_eqObjS.kt_dec (a0 : List (List D)) (a1 : List (List D)) : laws_eqObjS.kt a0 a1 laws_eqObjS.dec = (fun z0 => some z0) := by kernel_rfl
theorem laws_eqObjS.inj (a0 : List (List D)) (a1 : List (List D)) {rs : List (List C)} {os : List Out} {z0 : Bool} (h : laws_eqObjS.dec rs os = some z0) (ho : Zo (laws_eqObjS.as a0 a1) os) : rs = [[.d (.bool z0)]] ∧ os = [] := by
  unfold laws_eqObjS.dec at h
  obtain ⟨c1, r2, rfl, h1⟩ := Zb h
  obtain ⟨x3, l4, rfl, h2⟩ := Zb h1
  obtain ⟨d5, rfl, h3⟩ := Zt h2
  obtain ⟨w0, rfl, h4⟩ := Z0 h3
  obtain ⟨rfl, h5⟩ := Zc h4
  obtain ⟨rfl, h6⟩ := Zc h5
  obtain ⟨rfl, h7⟩ := Zc h6
  obtain rfl := Option.some.inj h7
  exact ⟨rfl, rfl⟩
theorem laws_eqObjS.ok (k : Nat) : Zv Try.prog 128 (laws_eqObjS.e k) := by
  refine Zu mix tyok (fn := Try.f128) (c := Zl Try.f128) Try.func128 (by kernel_rfl) (h := laws_eqObjS.h) (k := k) (E := laws_eqObjS.E k) (Zk (laws_eqObj.ok k) Zz) (by kernel_rfl) (by kernel_rfl) rfl (Zq Try.func128 (by kernel_rfl)) ?_
  intro β l K r hr
  simp only [laws_eqObjS.e] at hr
  split at hr
  case h_2 => cases hr
  unfold laws_eqObjS.f at hr
  split at hr
  case h_2 => cases hr
  rename_i hz
  exact ⟨_, _, hr, _, laws_eqObjS.dec, _, (laws_eqObjS.f_eq k _ _ laws_eqObjS.dec).trans (by rw [laws_eqObjS.kt_dec]; exact hz), fun rs os h ho => laws_eqObjS.inj _ _ h ho⟩
noncomputable def laws_eqMirror.g {β : Type} (k : Nat) (a0_0 : Int) (a0_1 : List (List D)) (a1_0 : Int) (a1_1 : List (List D)) (K : Bool → Option β) : Option β :=
  bif ((a0_0 : Int) != a1_0) then (K false) else (laws_eqObjS.f k a0_1 a1_1 (fun y211 => bif (!y211) then (K false) else (K true)))
noncomputable def laws_eqMirror.t (k : Nat) (a0_0 : Int) (a0_1 : List (List D)) (a1_0 : Int) (a1_1 : List (List D)) : Option (Bool) := laws_eqMirror.g k a0_0 a0_1 a1_0 a1_1 (fun z0 => some z0)
noncomputable def laws_eqMirror.f {β : Type} (k : Nat) (a0_0 : Int) (a0_1 : List (List D)) (a1_0 : Int) (a1_1 : List (List D)) (K : Bool → Option β) : Option β :=
  match laws_eqMirror.t k a0_0 a0_1 a1_0 a1_1 with
  | some z0 => K z0
  | none => none
noncomputable def laws_eqMirror.as (a0_0 : Int) (a0_1 : List (List D)) (a1_0 : Int) (a1_1 : List (List D)) : List A := [.agg [.int .i64 a0_0, .sl a0_1], .agg [.int .i64 a1_0, .sl a1_1]]
noncomputable def laws_eqMirror.kt {β : Type} (a0_0 : Int) (a0_1 : List (List D)) (a1_0 : Int) (a1_1 : List (List D)) (K0 : List (List C) → List Out → Option β) : Bool → Option β := fun z0 => K0 [[.d (.bool z0)]] []
noncomputable def laws_eqMirror.e (k : Nat) : ZQ := { modes := [(.imm, 0), (.imm, 0)], rts := [4], al := false, run := fun {β} l K => match l with | [.agg [.int .i64 a0_0, .sl a0_1], .agg [.int .i64 a1_0, .sl a1_1]] => laws_eqMirror.f k a0_0 a0_1 a1_0 a1_1 (laws_eqMirror.kt a0_0 a0_1 a1_0 a1_1 K) | _ => none }
noncomputable def laws_eqMirror.E (k : Nat) : Env := fun g => bif g == 128 then some (laws_eqObjS.e k) else none
noncomputable def laws_eqMirror.h : ZY := ⟨fun n => ⟨[], []⟩, fun _ => none, false, []⟩
theorem laws_eqMirror.f_eq {β : Type} (k : Nat) (a0_0 : Int) (a0_1 : List (List D)) (a1_0 : Int) (a1_1 : List (List D)) (K0 : List (List C) → List Out → Option β) : ZJ Try.prog (laws_eqMirror.E k) laws_eqMirror.h k Try.f48 (laws_eqMirror.as a0_0 a0_1 a1_0 a1_1) K0 = laws_eqMirror.g k a0_0 a0_1 a1_0 a1_1 (laws_eqMirror.kt a0_0 a0_1 a1_0 a1_1 K0) := by kernel_rfl
noncomputable def laws_eqMirror.dec (rs : List (List C)) (os : List Out) : Option (Bool) := Zd rs fun c1 r2 => Zd c1 fun x3 l4 => cD x3 fun d5 => ZaF d5 fun w0 => Ze l4 <| Ze r2 <| Ze os (some w0)
theorem laws_eqMirror.kt_dec (a0_0 : Int) (a0_1 : List (List D)) (a1_0 : Int) (a1_1 : List (List D)) : laws_eqMirror.kt a0_0 a0_1 a1_0 a1_1 laws_eqMirror.dec = (fun z0 => some z0) := by kernel_rfl
theorem laws_eqMirror.inj (a0_0 : Int) (a0_1 : List (List D)) (a1_0 : Int) (a1_1 : List (List D)) {rs : List (List C)} {os : List Out} {z0 : Bool} (h : laws_eqMirror.dec rs os = some z0) (ho : Zo (laws_eqMirror.as a0_0 a0_1 a1_0 a1_1) os) : rs = [[.d (.bool z0)]] ∧ os = [] := by
  unfold laws_eqMirror.dec at h
  obtain ⟨c1, r2, rfl, h1⟩ := Zb h
  obtain ⟨x3, l4, rfl, h2⟩ := Zb h1
  obtain ⟨d5, rfl, h3⟩ := Zt h2
  obtain ⟨w0, rfl, h4⟩ := Z0 h3
  obtain ⟨rfl, h5⟩ := Zc h4
  obtain ⟨rfl, h6⟩ := Zc h5
  obtain ⟨rfl, h7⟩ := Zc h6
  obtain rfl := Option.some.inj h7
  exact ⟨rfl, rfl⟩
theorem laws_eqMirror.ok (k : Nat) : Zv Try.prog 48 (laws_eqMirror.e k) := by
  refine Zu mix tyok (fn := Try.f48) (c := Zl Try.f48) Try.func48 (by kernel_rfl) (h := laws_eqMirror.h) (k := k) (E := laws_eqMirror.E k) (Zk (laws_eqObjS.ok k) Zz) (by kernel_rfl) (by kernel_rfl) rfl (Zq Try.func48 (by kernel_rfl)) ?_
  intro β l K r hr
  simp only [laws_eqMirror.e] at hr
  split at hr
  case h_2 => cases hr
  unfold laws_eqMirror.f at hr
  split at hr
  case h_2 => cases hr
  rename_i hz
  exact ⟨_, _, hr, _, laws_eqMirror.dec, _, (laws_eqMirror.f_eq k _ _ _ _ laws_eqMirror.dec).trans (by rw [laws_eqMirror.kt_dec]; exact hz), fun rs os h ho => laws_eqMirror.inj _ _ _ _ h ho⟩
noncomputable def laws_FnExactMirrorOk.g {β : Type} (k : Nat) (a0_0 : Int) (a0_1 : List (List D)) (K : Bool → Option β) : Option β :=
  laws_szMirror.f k a0_0 a0_1 1048576 (fun y108 => bif (decide ((y108 : Int) < 0)) then (K true) else (laws_toMirror.f k a0_0 a0_1 (fun y141 y142 => spec_MirrorOk.f k y141 (C.immRows y142) (fun y1150 => laws_toMirror.f k a0_0 a0_1 (fun y1151 y1152 => impl_MirrorOk.f k y1151 (C.immRows y1152) (fun y1153 => bif (!(y1153 == y1150)) then (K false) else (laws_toMirror.f k a0_0 a0_1 (fun y1154 y1155 => laws_eqMirror.f k y1151 (C.immRows y1152) y1154 (C.immRows y1155) (fun y1156 => bif (!y1156) then (K false) else (K true))))))))))
noncomputable def laws_FnExactMirrorOk.t (k : Nat) (a0_0 : Int) (a0_1 : List (List D)) : Option (Bool) := laws_FnExactMirrorOk.g k a0_0 a0_1 (fun z0 => some z0)
noncomputable def laws_FnExactMirrorOk.f {β : Type} (k : Nat) (a0_0 : Int) (a0_1 : List (List D)) (K : Bool → Option β) : Option β :=
  match laws_FnExactMirrorOk.t k a0_0 a0_1 with
  | some z0 => K z0
  | none => none
noncomputable def laws_FnExactMirrorOk.as (a0_0 : Int) (a0_1 : List (List D)) : List A := [.agg [.int .i64 a0_0, .sl a0_1]]
noncomputable def laws_FnExactMirrorOk.kt {β : Type} (a0_0 : Int) (a0_1 : List (List D)) (K0 : List (List C) → List Out → Option β) : Bool → Option β := fun z0 => K0 [[.d (.bool z0)]] []
noncomputable def laws_FnExactMirrorOk.e (k : Nat) : ZQ := { modes := [(.imm, 0)], rts := [4], al := false, run := fun {β} l K => match l with | [.agg [.int .i64 a0_0, .sl a0_1]] => laws_FnExactMirrorOk.f k a0_0 a0_1 (laws_FnExactMirrorOk.kt a0_0 a0_1 K) | _ => none }
noncomputable def laws_FnExactMirrorOk.E (k : Nat) : Env := fun g => bif g == 44 then some (laws_szMirror.e k) else bif g == 46 then some (laws_toMirror.e k) else bif g == 45 then some (spec_MirrorOk.e k) else bif g == 47 then some (impl_MirrorOk.e k) else bif g == 48 then some (laws_eqMirror.e k) else none
noncomputable def laws_FnExactMirrorOk.h : ZY := ⟨fun n => ⟨[], []⟩, fun _ => none, false, []⟩
theorem laws_FnExactMirrorOk.f_eq {β : Type} (k : Nat) (a0_0 : Int) (a0_1 : List (List D)) (K0 : List (List C) → List Out → Option β) : ZJ Try.prog (laws_FnExactMirrorOk.E k) laws_FnExactMirrorOk.h k Try.f9 (laws_FnExactMirrorOk.as a0_0 a0_1) K0 = laws_FnExactMirrorOk.g k a0_0 a0_1 (laws_FnExactMirrorOk.kt a0_0 a0_1 K0) := by kernel_rfl
noncomputable def laws_FnExactMirrorOk.dec (rs : List (List C)) (os : List Out) : Option (Bool) := Zd rs fun c1 r2 => Zd c1 fun x3 l4 => cD x3 fun d5 => ZaF d5 fun w0 => Ze l4 <| Ze r2 <| Ze os (some w0)
theorem laws_FnExactMirrorOk.kt_dec (a0_0 : Int) (a0_1 : List (List D)) : laws_FnExactMirrorOk.kt a0_0 a0_1 laws_FnExactMirrorOk.dec = (fun z0 => some z0) := by kernel_rfl
theorem laws_FnExactMirrorOk.inj (a0_0 : Int) (a0_1 : List (List D)) {rs : List (List C)} {os : List Out} {z0 : Bool} (h : laws_FnExactMirrorOk.dec rs os = some z0) (ho : Zo (laws_FnExactMirrorOk.as a0_0 a0_1) os) : rs = [[.d (.bool z0)]] ∧ os = [] := by
  unfold laws_FnExactMirrorOk.dec at h
  obtain ⟨c1, r2, rfl, h1⟩ := Zb h
  obtain ⟨x3, l4, rfl, h2⟩ := Zb h1
  obtain ⟨d5, rfl, h3⟩ := Zt h2
  obtain ⟨w0, rfl, h4⟩ := Z0 h3
  obtain ⟨rfl, h5⟩ := Zc h4
  obtain ⟨rfl, h6⟩ := Zc h5
  obtain ⟨rfl, h7⟩ := Zc h6
  obtain rfl := Option.some.inj h7
  exact ⟨rfl, rfl⟩
theorem laws_FnExactMirrorOk.ok (k : Nat) : Zv Try.prog 9 (laws_FnExactMirrorOk.e k) := by
  refine Zu mix tyok (fn := Try.f9) (c := Zl Try.f9) Try.func9 (by kernel_rfl) (h := laws_FnExactMirrorOk.h) (k := k) (E := laws_FnExactMirrorOk.E k) (Zk (laws_szMirror.ok k) (Zk (laws_toMirror.ok k) (Zk (spec_MirrorOk.ok k) (Zk (impl_MirrorOk.ok k) (Zk (laws_eqMirror.ok k) Zz))))) (by kernel_rfl) (by kernel_rfl) rfl (Zq Try.func9 (by kernel_rfl)) ?_
  intro β l K r hr
  simp only [laws_FnExactMirrorOk.e] at hr
  split at hr
  case h_2 => cases hr
  unfold laws_FnExactMirrorOk.f at hr
  split at hr
  case h_2 => cases hr
  rename_i hz
  exact ⟨_, _, hr, _, laws_FnExactMirrorOk.dec, _, (laws_FnExactMirrorOk.f_eq k _ _ laws_FnExactMirrorOk.dec).trans (by rw [laws_FnExactMirrorOk.kt_dec]; exact hz), fun rs os h ho => laws_FnExactMirrorOk.inj _ _ h ho⟩
end Go.Proofs.Ytljkbknnnpjmgaa
