/- Printed: the functions that FnExactHubNew reaches, read by the evaluator, each with its contract. -/
import Derived.Test.YtnlhhhkeigjnoaaXEHubNew0
import Derived.KernelRfl
set_option linter.unusedVariables false
set_option linter.unusedSimpArgs false
namespace Go.Proofs.Ytnlhhhkeigjnoaa
open Go Go.T Go.Proofs
noncomputable def laws_heldValueS.l0 {β : Type} (k : Nat) (r_laws_heldValueS : (List (List D)) → Int → (Int → Option β) → Option β) (v0_0 : List (List D)) (K : Int → Option β) (L0 : (Int × Int) → Option β) (v : Int × Int) : Option β :=
  match v with
  | (v0_1, v0_2) => bif (decide ((v0_2 : Int) < (v0_0.length : Int))) then (atRow v0_0 v0_2 fun c84 => uncons c84 fun d85 r86 => dInt .i64 d85 fun x87 => uncons r86 fun d88 r89 => dStr d88 fun x90 => uncons r89 fun d91 r92 => dInt .i64 d91 fun x93 => uncons r92 fun d94 r95 => dSl d94 fun x96 => uncons r95 fun d97 r98 => dSl d97 fun x99 => atEnd r98 (bif ((x87 : Int) != v0_1) then (K (-1)) else (atRow v0_0 v0_2 fun c100 => uncons c100 fun d101 r102 => dInt .i64 d101 fun x103 => uncons r102 fun d104 r105 => dStr d104 fun x106 => uncons r105 fun d107 r108 => dInt .i64 d107 fun x109 => uncons r108 fun d110 r111 => dSl d110 fun x112 => uncons r111 fun d113 r114 => dSl d113 fun x115 => atEnd r114 (laws_markText.f k (IntKind.wrap .i64 (v0_1 + 1)) (fun y116 => bif (!(strEq x106 y116)) then (K (-1)) else (atRow v0_0 v0_2 fun c117 => uncons c117 fun d118 r119 => dInt .i64 d118 fun x120 => uncons r119 fun d121 r122 => dStr d121 fun x123 => uncons r122 fun d124 r125 => dInt .i64 d124 fun x126 => uncons r125 fun d127 r128 => dSl d127 fun x129 => uncons r128 fun d130 r131 => dSl d130 fun x132 => atEnd r131 (bif ((x126 : Int) != (IntKind.wrap .i64 ((IntKind.wrap .i64 (v0_1 + 1)) + 1))) then (K (-1)) else (atRow v0_0 v0_2 fun c133 => uncons c133 fun d134 r135 => dInt .i64 d134 fun x136 => uncons r135 fun d137 r138 => dStr d137 fun x139 => uncons r138 fun d140 r141 => dInt .i64 d140 fun x142 => uncons r141 fun d143 r144 => dSl d143 fun x145 => uncons r144 fun d146 r147 => dSl d146 fun x148 => atEnd r147 (laws_heldStringS.f k x145 (IntKind.wrap .i64 ((IntKind.wrap .i64 ((IntKind.wrap .i64 (v0_1 + 1)) + 1)) + 1)) (fun y149 => bif (decide ((y149 : Int) < 0)) then (K (-1)) else (atRow v0_0 v0_2 fun c150 => uncons c150 fun d151 r152 => dInt .i64 d151 fun x153 => uncons r152 fun d154 r155 => dStr d154 fun x156 => uncons r155 fun d157 r158 => dInt .i64 d157 fun x159 => uncons r158 fun d160 r161 => dSl d160 fun x162 => uncons r161 fun d163 r164 => dSl d163 fun x165 => atEnd r164 (r_laws_heldValueS x165 y149 (fun y166 => bif (decide ((y166 : Int) < 0)) then (K (-1)) else (L0 (y166, IntKind.wrap .i64 (v0_2 + 1)))))))))))))))) else (K v0_1)
noncomputable def laws_heldValueS.body {β : Type} (k : Nat) (r_laws_heldValueS : (List (List D)) → Int → (Int → Option β) → Option β) (a0 : List (List D)) (a1 : Int) (K : Int → Option β) : Option β :=
  iter (laws_heldValueS.l0 k r_laws_heldValueS a0 K) k (a1, 0)
noncomputable def laws_heldValueS.w {β : Type} (r : (List (List D)) → Int → Option (Int)) (a0 : List (List D)) (a1 : Int) (K : Int → Option β) : Option β :=
  match r a0 a1 with
  | some z0 => K z0
  | none => none
noncomputable def laws_heldValueS.all : Nat → ((List (List D)) → Int → Option (Int))
  | 0 => (fun _ _ => none)
  | k + 1 => (fun r => (fun a0 a1 => laws_heldValueS.body k (laws_heldValueS.w r) a0 a1 (fun z0 => some z0))) (laws_heldValueS.all k)
noncomputable def laws_heldValueS.t (k : Nat) (a0 : List (List D)) (a1 : Int) : Option (Int) := (laws_heldValueS.all k) a0 a1
noncomputable def laws_heldValueS.f {β : Type} (k : Nat) (a0 : List (List D)) (a1 : Int) (K : Int → Option β) : Option β := laws_heldValueS.w (laws_heldValueS.t k) a0 a1 K
noncomputable def laws_heldValueS.g {β : Type} (k : Nat) (a0 : List (List D)) (a1 : Int) (K : Int → Option β) : Option β := laws_heldValueS.body k (laws_heldValueS.f k) a0 a1 K
theorem laws_heldValueS.t_zero (a0 : List (List D)) (a1 : Int) : laws_heldValueS.t 0 a0 a1 = none := rfl
theorem laws_heldValueS.t_succ (k : Nat) (a0 : List (List D)) (a1 : Int) : laws_heldValueS.t (k + 1) a0 a1 = laws_heldValueS.g k a0 a1 (fun z0 => some z0) := rfl
noncomputable def laws_heldValueS.as (a0 : List (List D)) (a1 : Int) : List A := [.d (.sl a0), .d (.int .i64 a1)]
noncomputable def laws_heldValueS.kt {β : Type} (a0 : List (List D)) (a1 : Int) (K0 : List (List C) → List Out → Option β) : Int → Option β := fun z0 => K0 [[.d (.int .i64 z0)]] []
noncomputable def laws_heldValueS.e (k : Nat) : Entry := { modes := [(.imm, 0), (.imm, 0)], rts := [3], al := false, run := fun {β} l K => match l with | [.d (.sl a0), .d (.int .i64 a1)] => laws_heldValueS.f k a0 a1 (laws_heldValueS.kt a0 a1 K) | _ => none }
noncomputable def laws_heldValueS.E (k : Nat) : Env := fun g => bif g == 152 then some (laws_markText.e k) else bif g == 128 then some (laws_heldStringS.e k) else bif g == 154 then some (laws_heldValueS.e k) else none
noncomputable def laws_heldValueS.h : Hints := ⟨fun n => bif n == 2 then ⟨[(0, .asis), (1, .dat false), (5, .asis)], []⟩ else ⟨[], []⟩, fun _ => none, false, []⟩
noncomputable def laws_heldValueS.s0 (v0_0 : List (List D)) (v : Int × Int) : St :=
  match v with
  | (v0_1, v0_2) => ⟨[.d false (.sl v0_0), .d false (.int .i64 v0_1), .any, .any, .any, .d true (.int .i64 v0_2), .any, .any, .any, .any, .any, .any, .any, .any, .any, .any, .any, .any, .any, .any, .any, .any, .any, .any, .any, .any, .any, .any, .any, .any, .any, .any, .any, .any, .any, .any, .any, .any, .any, .any, .any, .any, .any, .any, .any, .any, .any, .any, .any, .any, .any, .any, .any, .any, .any, .any, .any, .any, .any], []⟩
noncomputable def laws_heldValueS.b0 {β : Type} (k : Nat) : St → (Ex → St → Option β) → Option β := fun s K => den Try.prog (laws_heldValueS.E k) laws_heldValueS.h.H laws_heldValueS.h.J k (codeAt [1, 0, 1, 0, 0] (codeOf Try.f154)) s K
noncomputable def laws_heldValueS.c0 {β : Type} (k : Nat) (a0 : List (List D)) (a1 : Int) (K0 : List (List C) → List Out → Option β) : Ex → St → Option β := contAt Try.prog (laws_heldValueS.E k) laws_heldValueS.h k [1, 0, 1, 0] (codeOf Try.f154) (finDen Try.prog Try.f154 laws_heldValueS.h (laws_heldValueS.as a0 a1) K0)
theorem laws_heldValueS.l0_eq {β : Type} (k : Nat) (a0 : List (List D)) (a1 : Int) (K0 : List (List C) → List Out → Option β) (v0_0 : List (List D)) : ∀ (kk : Nat) (v : Int × Int), loopDen (laws_heldValueS.b0 k) (laws_heldValueS.h.H 2) kk (laws_heldValueS.s0 v0_0 v) (laws_heldValueS.c0 k a0 a1 K0) = iter (laws_heldValueS.l0 k (laws_heldValueS.f k) v0_0 (laws_heldValueS.kt a0 a1 K0)) kk v :=
  loop_eq (laws_heldValueS.s0 v0_0) _ (fun L0 v => by obtain ⟨v0_1, v0_2⟩ := v; kernel_rfl)
noncomputable def laws_heldValueS.m {β : Type} (k : Nat) (a0 : List (List D)) (a1 : Int) (K0 : List (List C) → List Out → Option β) (F : ((List (List D)) → (Int × Int) → Option β)) : Option β :=
  (F) a0 (a1, 0)
theorem laws_heldValueS.f_eq {β : Type} (k : Nat) (a0 : List (List D)) (a1 : Int) (K0 : List (List C) → List Out → Option β) : funDen Try.prog (laws_heldValueS.E k) laws_heldValueS.h k Try.f154 (laws_heldValueS.as a0 a1) K0 = laws_heldValueS.g k a0 a1 (laws_heldValueS.kt a0 a1 K0) := Eq.trans (b := (laws_heldValueS.m k a0 a1 K0) (fun (v0_0 : List (List D)) (v : Int × Int) => loopDen (laws_heldValueS.b0 k) (laws_heldValueS.h.H 2) k (laws_heldValueS.s0 v0_0 v) (laws_heldValueS.c0 k a0 a1 K0))) (by kernel_rfl) (Eq.trans (congrArg (laws_heldValueS.m k a0 a1 K0) (funext fun v0_0 => funext fun v => laws_heldValueS.l0_eq k a0 a1 K0 v0_0 k v)) (by kernel_rfl))
noncomputable def laws_heldValueS.dec (rs : List (List C)) (os : List Out) : Option (Int) := uncons rs fun c1 r2 => uncons c1 fun x3 l4 => cD x3 fun d5 => dInt .i64 d5 fun w0 => atEnd l4 <| atEnd r2 <| atEnd os (some w0)
theorem laws_heldValueS.kt_dec (a0 : List (List D)) (a1 : Int) : laws_heldValueS.kt a0 a1 laws_heldValueS.dec = (fun z0 => some z0) := by kernel_rfl
theorem laws_heldValueS.inj (a0 : List (List D)) (a1 : Int) {rs : List (List C)} {os : List Out} {z0 : Int} (h : laws_heldValueS.dec rs os = some z0) (ho : OutShape (laws_heldValueS.as a0 a1) os) : rs = [[.d (.int .i64 z0)]] ∧ os = [] := by
  unfold laws_heldValueS.dec at h
  obtain ⟨c1, r2, rfl, h1⟩ := uncons_some h
  obtain ⟨x3, l4, rfl, h2⟩ := uncons_some h1
  obtain ⟨d5, rfl, h3⟩ := cD_some h2
  obtain ⟨w0, rfl, h4⟩ := dInt_some h3
  obtain ⟨rfl, h5⟩ := atEnd_some h4
  obtain ⟨rfl, h6⟩ := atEnd_some h5
  obtain ⟨rfl, h7⟩ := atEnd_some h6
  obtain rfl := Option.some.inj h7
  exact ⟨rfl, rfl⟩
theorem laws_heldValueS.oks (k : Nat) : EntryOK Try.prog 154 (laws_heldValueS.e k) := by
  induction k with
  | zero =>
    refine ?_
    · exact entry_zero (enter_of Try.func154 (by kernel_rfl)) fun β l K r h => by
        simp only [laws_heldValueS.e] at h
        split at h
        · unfold laws_heldValueS.f at h
          unfold laws_heldValueS.w at h
          rw [laws_heldValueS.t_zero] at h
          cases h
        · cases h
  | succ k ih =>
    refine ?_
    · refine entry_of mix tyok (fn := Try.f154) (c := codeOf Try.f154) Try.func154 (by kernel_rfl) (h := laws_heldValueS.h) (k := k) (E := laws_heldValueS.E k) (env_cons (laws_markText.ok k) (env_cons (laws_heldStringS.ok k) (env_cons ih env_nil))) (by kernel_rfl) (by kernel_rfl) rfl (enter_of Try.func154 (by kernel_rfl)) ?_
      intro β l K r hr
      simp only [laws_heldValueS.e] at hr
      split at hr
      case h_2 => cases hr
      unfold laws_heldValueS.f at hr
      unfold laws_heldValueS.w at hr
      split at hr
      case h_2 => cases hr
      rename_i hz
      exact ⟨_, _, hr, _, laws_heldValueS.dec, _, (laws_heldValueS.f_eq k _ _ laws_heldValueS.dec).trans (by rw [laws_heldValueS.kt_dec]; exact hz), fun rs os h ho => laws_heldValueS.inj _ _ h ho⟩
theorem laws_heldValueS.ok (k : Nat) : EntryOK Try.prog 154 (laws_heldValueS.e k) := (laws_heldValueS.oks k)
set_option maxRecDepth 100000 in
noncomputable def laws_heldOpS.l0 {β : Type} (k : Nat) (v0_0 : List (List D)) (K : Int → Option β) (L0 : (Int × Int) → Option β) (v : Int × Int) : Option β :=
  match v with
  | (v0_1, v0_2) => bif (decide ((v0_2 : Int) < (v0_0.length : Int))) then (atRow v0_0 v0_2 fun c159 => uncons c159 fun d160 r161 => dInt .i64 d160 fun x162 => uncons r161 fun d163 r164 => dSl d163 fun x165 => uncons r164 fun d166 r167 => dInt .i64 d166 fun x168 => uncons r167 fun d169 r170 => dStr d169 fun x171 => uncons r170 fun d172 r173 => dInt .i64 d172 fun x174 => uncons r173 fun d175 r176 => dSl d175 fun x177 => uncons r176 fun d178 r179 => dSl d178 fun x180 => atEnd r179 (bif ((x162 : Int) != v0_1) then (K (-1)) else (atRow v0_0 v0_2 fun c181 => uncons c181 fun d182 r183 => dInt .i64 d182 fun x184 => uncons r183 fun d185 r186 => dSl d185 fun x187 => uncons r186 fun d188 r189 => dInt .i64 d188 fun x190 => uncons r189 fun d191 r192 => dStr d191 fun x193 => uncons r192 fun d194 r195 => dInt .i64 d194 fun x196 => uncons r195 fun d197 r198 => dSl d197 fun x199 => uncons r198 fun d200 r201 => dSl d200 fun x202 => atEnd r201 (laws_heldStringS.f k x187 (IntKind.wrap .i64 (v0_1 + 1)) (fun y203 => bif (decide ((y203 : Int) < 0)) then (K (-1)) else (atRow v0_0 v0_2 fun c204 => uncons c204 fun d205 r206 => dInt .i64 d205 fun x207 => uncons r206 fun d208 r209 => dSl d208 fun x210 => uncons r209 fun d211 r212 => dInt .i64 d211 fun x213 => uncons r212 fun d214 r215 => dStr d214 fun x216 => uncons r215 fun d217 r218 => dInt .i64 d217 fun x219 => uncons r218 fun d220 r221 => dSl d220 fun x222 => uncons r221 fun d223 r224 => dSl d223 fun x225 => atEnd r224 (bif ((x213 : Int) != y203) then (K (-1)) else (atRow v0_0 v0_2 fun c226 => uncons c226 fun d227 r228 => dInt .i64 d227 fun x229 => uncons r228 fun d230 r231 => dSl d230 fun x232 => uncons r231 fun d233 r234 => dInt .i64 d233 fun x235 => uncons r234 fun d236 r237 => dStr d236 fun x238 => uncons r237 fun d239 r240 => dInt .i64 d239 fun x241 => uncons r240 fun d242 r243 => dSl d242 fun x244 => uncons r243 fun d245 r246 => dSl d245 fun x247 => atEnd r246 (laws_markText.f k (IntKind.wrap .i64 (y203 + 1)) (fun y248 => bif (!(strEq x238 y248)) then (K (-1)) else (atRow v0_0 v0_2 fun c249 => uncons c249 fun d250 r251 => dInt .i64 d250 fun x252 => uncons r251 fun d253 r254 => dSl d253 fun x255 => uncons r254 fun d256 r257 => dInt .i64 d256 fun x258 => uncons r257 fun d259 r260 => dStr d259 fun x261 => uncons r260 fun d262 r263 => dInt .i64 d262 fun x264 => uncons r263 fun d265 r266 => dSl d265 fun x267 => uncons r266 fun d268 r269 => dSl d268 fun x270 => atEnd r269 (bif ((x264 : Int) != (IntKind.wrap .i64 ((IntKind.wrap .i64 (y203 + 1)) + 1))) then (K (-1)) else (atRow v0_0 v0_2 fun c271 => uncons c271 fun d272 r273 => dInt .i64 d272 fun x274 => uncons r273 fun d275 r276 => dSl d275 fun x277 => uncons r276 fun d278 r279 => dInt .i64 d278 fun x280 => uncons r279 fun d281 r282 => dStr d281 fun x283 => uncons r282 fun d284 r285 => dInt .i64 d284 fun x286 => uncons r285 fun d287 r288 => dSl d287 fun x289 => uncons r288 fun d290 r291 => dSl d290 fun x292 => atEnd r291 (laws_heldStringS.f k x289 (IntKind.wrap .i64 ((IntKind.wrap .i64 ((IntKind.wrap .i64 (y203 + 1)) + 1)) + 1)) (fun y293 => bif (decide ((y293 : Int) < 0)) then (K (-1)) else (atRow v0_0 v0_2 fun c294 => uncons c294 fun d295 r296 => dInt .i64 d295 fun x297 => uncons r296 fun d298 r299 => dSl d298 fun x300 => uncons r299 fun d301 r302 => dInt .i64 d301 fun x303 => uncons r302 fun d304 r305 => dStr d304 fun x306 => uncons r305 fun d307 r308 => dInt .i64 d307 fun x309 => uncons r308 fun d310 r311 => dSl d310 fun x312 => uncons r311 fun d313 r314 => dSl d313 fun x315 => atEnd r314 (laws_heldValueS.f k x315 y293 (fun y316 => bif (decide ((y316 : Int) < 0)) then (K (-1)) else (L0 (y316, IntKind.wrap .i64 (v0_2 + 1))))))))))))))))))))) else (K v0_1)
noncomputable def laws_heldOpS.g {β : Type} (k : Nat) (a0 : List (List D)) (a1 : Int) (K : Int → Option β) : Option β :=
  iter (laws_heldOpS.l0 k a0 K) k (a1, 0)
noncomputable def laws_heldOpS.t (k : Nat) (a0 : List (List D)) (a1 : Int) : Option (Int) := laws_heldOpS.g k a0 a1 (fun z0 => some z0)
noncomputable def laws_heldOpS.f {β : Type} (k : Nat) (a0 : List (List D)) (a1 : Int) (K : Int → Option β) : Option β :=
  match laws_heldOpS.t k a0 a1 with
  | some z0 => K z0
  | none => none
noncomputable def laws_heldOpS.as (a0 : List (List D)) (a1 : Int) : List A := [.d (.sl a0), .d (.int .i64 a1)]
noncomputable def laws_heldOpS.kt {β : Type} (a0 : List (List D)) (a1 : Int) (K0 : List (List C) → List Out → Option β) : Int → Option β := fun z0 => K0 [[.d (.int .i64 z0)]] []
noncomputable def laws_heldOpS.e (k : Nat) : Entry := { modes := [(.imm, 0), (.imm, 0)], rts := [3], al := false, run := fun {β} l K => match l with | [.d (.sl a0), .d (.int .i64 a1)] => laws_heldOpS.f k a0 a1 (laws_heldOpS.kt a0 a1 K) | _ => none }
noncomputable def laws_heldOpS.E (k : Nat) : Env := fun g => bif g == 128 then some (laws_heldStringS.e k) else bif g == 152 then some (laws_markText.e k) else bif g == 154 then some (laws_heldValueS.e k) else none
noncomputable def laws_heldOpS.h : Hints := ⟨fun n => bif n == 2 then ⟨[(0, .asis), (1, .dat false), (5, .asis)], []⟩ else ⟨[], []⟩, fun _ => none, false, []⟩
noncomputable def laws_heldOpS.s0 (v0_0 : List (List D)) (v : Int × Int) : St :=
  match v with
  | (v0_1, v0_2) => ⟨[.d false (.sl v0_0), .d false (.int .i64 v0_1), .any, .any, .any, .d true (.int .i64 v0_2), .any, .any, .any, .any, .any, .any, .any, .any, .any, .any, .any, .any, .any, .any, .any, .any, .any, .any, .any, .any, .any, .any, .any, .any, .any, .any, .any, .any, .any, .any, .any, .any, .any, .any, .any, .any, .any, .any, .any, .any, .any, .any, .any, .any, .any, .any, .any, .any, .any, .any, .any, .any, .any, .any, .any, .any, .any, .any, .any, .any, .any, .any, .any, .any, .any, .any, .any, .any, .any, .any, .any, .any, .any, .any, .any, .any], []⟩
noncomputable def laws_heldOpS.b0 {β : Type} (k : Nat) : St → (Ex → St → Option β) → Option β := fun s K => den Try.prog (laws_heldOpS.E k) laws_heldOpS.h.H laws_heldOpS.h.J k (codeAt [1, 0, 1, 0, 0] (codeOf Try.f198)) s K
noncomputable def laws_heldOpS.c0 {β : Type} (k : Nat) (a0 : List (List D)) (a1 : Int) (K0 : List (List C) → List Out → Option β) : Ex → St → Option β := contAt Try.prog (laws_heldOpS.E k) laws_heldOpS.h k [1, 0, 1, 0] (codeOf Try.f198) (finDen Try.prog Try.f198 laws_heldOpS.h (laws_heldOpS.as a0 a1) K0)
theorem laws_heldOpS.l0_eq {β : Type} (k : Nat) (a0 : List (List D)) (a1 : Int) (K0 : List (List C) → List Out → Option β) (v0_0 : List (List D)) : ∀ (kk : Nat) (v : Int × Int), loopDen (laws_heldOpS.b0 k) (laws_heldOpS.h.H 2) kk (laws_heldOpS.s0 v0_0 v) (laws_heldOpS.c0 k a0 a1 K0) = iter (laws_heldOpS.l0 k v0_0 (laws_heldOpS.kt a0 a1 K0)) kk v :=
  loop_eq (laws_heldOpS.s0 v0_0) _ (fun L0 v => by obtain ⟨v0_1, v0_2⟩ := v; kernel_rfl)
noncomputable def laws_heldOpS.m {β : Type} (k : Nat) (a0 : List (List D)) (a1 : Int) (K0 : List (List C) → List Out → Option β) (F : ((List (List D)) → (Int × Int) → Option β)) : Option β :=
  (F) a0 (a1, 0)
theorem laws_heldOpS.f_eq {β : Type} (k : Nat) (a0 : List (List D)) (a1 : Int) (K0 : List (List C) → List Out → Option β) : funDen Try.prog (laws_heldOpS.E k) laws_heldOpS.h k Try.f198 (laws_heldOpS.as a0 a1) K0 = laws_heldOpS.g k a0 a1 (laws_heldOpS.kt a0 a1 K0) := Eq.trans (b := (laws_heldOpS.m k a0 a1 K0) (fun (v0_0 : List (List D)) (v : Int × Int) => loopDen (laws_heldOpS.b0 k) (laws_heldOpS.h.H 2) k (laws_heldOpS.s0 v0_0 v) (laws_heldOpS.c0 k a0 a1 K0))) (by kernel_rfl) (Eq.trans (congrArg (laws_heldOpS.m k a0 a1 K0) (funext fun v0_0 => funext fun v => laws_heldOpS.l0_eq k a0 a1 K0 v0_0 k v)) (by kernel_rfl))
noncomputable def laws_heldOpS.dec (rs : List (List C)) (os : List Out) : Option (Int) := uncons rs fun c1 r2 => uncons c1 fun x3 l4 => cD x3 fun d5 => dInt .i64 d5 fun w0 => atEnd l4 <| atEnd r2 <| atEnd os (some w0)
theorem laws_heldOpS.kt_dec (a0 : List (List D)) (a1 : Int) : laws_heldOpS.kt a0 a1 laws_heldOpS.dec = (fun z0 => some z0) := by kernel_rfl
theorem laws_heldOpS.inj (a0 : List (List D)) (a1 : Int) {rs : List (List C)} {os : List Out} {z0 : Int} (h : laws_heldOpS.dec rs os = some z0) (ho : OutShape (laws_heldOpS.as a0 a1) os) : rs = [[.d (.int .i64 z0)]] ∧ os = [] := by
  unfold laws_heldOpS.dec at h
  obtain ⟨c1, r2, rfl, h1⟩ := uncons_some h
  obtain ⟨x3, l4, rfl, h2⟩ := uncons_some h1
  obtain ⟨d5, rfl, h3⟩ := cD_some h2
  obtain ⟨w0, rfl, h4⟩ := dInt_some h3
  obtain ⟨rfl, h5⟩ := atEnd_some h4
  obtain ⟨rfl, h6⟩ := atEnd_some h5
  obtain ⟨rfl, h7⟩ := atEnd_some h6
  obtain rfl := Option.some.inj h7
  exact ⟨rfl, rfl⟩
theorem laws_heldOpS.ok (k : Nat) : EntryOK Try.prog 198 (laws_heldOpS.e k) := by
  refine entry_of mix tyok (fn := Try.f198) (c := codeOf Try.f198) Try.func198 (by kernel_rfl) (h := laws_heldOpS.h) (k := k) (E := laws_heldOpS.E k) (env_cons (laws_heldStringS.ok k) (env_cons (laws_markText.ok k) (env_cons (laws_heldValueS.ok k) env_nil))) (by kernel_rfl) (by kernel_rfl) rfl (enter_of Try.func198 (by kernel_rfl)) ?_
  intro β l K r hr
  simp only [laws_heldOpS.e] at hr
  split at hr
  case h_2 => cases hr
  unfold laws_heldOpS.f at hr
  split at hr
  case h_2 => cases hr
  rename_i hz
  exact ⟨_, _, hr, _, laws_heldOpS.dec, _, (laws_heldOpS.f_eq k _ _ laws_heldOpS.dec).trans (by rw [laws_heldOpS.kt_dec]; exact hz), fun rs os h ho => laws_heldOpS.inj _ _ h ho⟩
noncomputable def laws_heldOverS.l0 {β : Type} (k : Nat) (v0_0 : List (List D)) (K : Int → Option β) (L0 : (Int × Int) → Option β) (v : Int × Int) : Option β :=
  match v with
  | (v0_1, v0_2) => bif (decide ((v0_2 : Int) < (v0_0.length : Int))) then (atRow v0_0 v0_2 fun c17 => uncons c17 fun d18 r19 => dStr d18 fun x20 => uncons r19 fun d21 r22 => dSl d21 fun x23 => atEnd r22 (laws_markText.f k v0_1 (fun y24 => bif (!(strEq x20 y24)) then (K (-1)) else (atRow v0_0 v0_2 fun c25 => uncons c25 fun d26 r27 => dStr d26 fun x28 => uncons r27 fun d29 r30 => dSl d29 fun x31 => atEnd r30 (laws_heldOpS.f k x31 (IntKind.wrap .i64 (v0_1 + 1)) (fun y32 => bif (decide ((y32 : Int) < 0)) then (K (-1)) else (L0 (y32, IntKind.wrap .i64 (v0_2 + 1))))))))) else (K v0_1)
noncomputable def laws_heldOverS.g {β : Type} (k : Nat) (a0 : List (List D)) (a1 : Int) (K : Int → Option β) : Option β :=
  iter (laws_heldOverS.l0 k a0 K) k (a1, 0)
noncomputable def laws_heldOverS.t (k : Nat) (a0 : List (List D)) (a1 : Int) : Option (Int) := laws_heldOverS.g k a0 a1 (fun z0 => some z0)
noncomputable def laws_heldOverS.f {β : Type} (k : Nat) (a0 : List (List D)) (a1 : Int) (K : Int → Option β) : Option β :=
  match laws_heldOverS.t k a0 a1 with
  | some z0 => K z0
  | none => none
noncomputable def laws_heldOverS.as (a0 : List (List D)) (a1 : Int) : List A := [.d (.sl a0), .d (.int .i64 a1)]
noncomputable def laws_heldOverS.kt {β : Type} (a0 : List (List D)) (a1 : Int) (K0 : List (List C) → List Out → Option β) : Int → Option β := fun z0 => K0 [[.d (.int .i64 z0)]] []
noncomputable def laws_heldOverS.e (k : Nat) : Entry := { modes := [(.imm, 0), (.imm, 0)], rts := [3], al := false, run := fun {β} l K => match l with | [.d (.sl a0), .d (.int .i64 a1)] => laws_heldOverS.f k a0 a1 (laws_heldOverS.kt a0 a1 K) | _ => none }
noncomputable def laws_heldOverS.E (k : Nat) : Env := fun g => bif g == 152 then some (laws_markText.e k) else bif g == 198 then some (laws_heldOpS.e k) else none
noncomputable def laws_heldOverS.h : Hints := ⟨fun n => bif n == 2 then ⟨[(0, .asis), (1, .dat false), (5, .asis)], []⟩ else ⟨[], []⟩, fun _ => none, false, []⟩
noncomputable def laws_heldOverS.s0 (v0_0 : List (List D)) (v : Int × Int) : St :=
  match v with
  | (v0_1, v0_2) => ⟨[.d false (.sl v0_0), .d false (.int .i64 v0_1), .any, .any, .any, .d true (.int .i64 v0_2), .any, .any, .any, .any, .any, .any, .any, .any, .any, .any, .any, .any, .any, .any, .any, .any, .any, .any, .any, .any, .any, .any, .any, .any, .any, .any], []⟩
noncomputable def laws_heldOverS.b0 {β : Type} (k : Nat) : St → (Ex → St → Option β) → Option β := fun s K => den Try.prog (laws_heldOverS.E k) laws_heldOverS.h.H laws_heldOverS.h.J k (codeAt [1, 0, 1, 0, 0] (codeOf Try.f180)) s K
noncomputable def laws_heldOverS.c0 {β : Type} (k : Nat) (a0 : List (List D)) (a1 : Int) (K0 : List (List C) → List Out → Option β) : Ex → St → Option β := contAt Try.prog (laws_heldOverS.E k) laws_heldOverS.h k [1, 0, 1, 0] (codeOf Try.f180) (finDen Try.prog Try.f180 laws_heldOverS.h (laws_heldOverS.as a0 a1) K0)
theorem laws_heldOverS.l0_eq {β : Type} (k : Nat) (a0 : List (List D)) (a1 : Int) (K0 : List (List C) → List Out → Option β) (v0_0 : List (List D)) : ∀ (kk : Nat) (v : Int × Int), loopDen (laws_heldOverS.b0 k) (laws_heldOverS.h.H 2) kk (laws_heldOverS.s0 v0_0 v) (laws_heldOverS.c0 k a0 a1 K0) = iter (laws_heldOverS.l0 k v0_0 (laws_heldOverS.kt a0 a1 K0)) kk v :=
  loop_eq (laws_heldOverS.s0 v0_0) _ (fun L0 v => by obtain ⟨v0_1, v0_2⟩ := v; kernel_rfl)
noncomputable def laws_heldOverS.m {β : Type} (k : Nat) (a0 : List (List D)) (a1 : Int) (K0 : List (List C) → List Out → Option β) (F : ((List (List D)) → (Int × Int) → Option β)) : Option β :=
  (F) a0 (a1, 0)
theorem laws_heldOverS.f_eq {β : Type} (k : Nat) (a0 : List (List D)) (a1 : Int) (K0 : List (List C) → List Out → Option β) : funDen Try.prog (laws_heldOverS.E k) laws_heldOverS.h k Try.f180 (laws_heldOverS.as a0 a1) K0 = laws_heldOverS.g k a0 a1 (laws_heldOverS.kt a0 a1 K0) := Eq.trans (b := (laws_heldOverS.m k a0 a1 K0) (fun (v0_0 : List (List D)) (v : Int × Int) => loopDen (laws_heldOverS.b0 k) (laws_heldOverS.h.H 2) k (laws_heldOverS.s0 v0_0 v) (laws_heldOverS.c0 k a0 a1 K0))) (by kernel_rfl) (Eq.trans (congrArg (laws_heldOverS.m k a0 a1 K0) (funext fun v0_0 => funext fun v => laws_heldOverS.l0_eq k a0 a1 K0 v0_0 k v)) (by kernel_rfl))
noncomputable def laws_heldOverS.dec (rs : List (List C)) (os : List Out) : Option (Int) := uncons rs fun c1 r2 => uncons c1 fun x3 l4 => cD x3 fun d5 => dInt .i64 d5 fun w0 => atEnd l4 <| atEnd r2 <| atEnd os (some w0)
theorem laws_heldOverS.kt_dec (a0 : List (List D)) (a1 : Int) : laws_heldOverS.kt a0 a1 laws_heldOverS.dec = (fun z0 => some z0) := by kernel_rfl
theorem laws_heldOverS.inj (a0 : List (List D)) (a1 : Int) {rs : List (List C)} {os : List Out} {z0 : Int} (h : laws_heldOverS.dec rs os = some z0) (ho : OutShape (laws_heldOverS.as a0 a1) os) : rs = [[.d (.int .i64 z0)]] ∧ os = [] := by
  unfold laws_heldOverS.dec at h
  obtain ⟨c1, r2, rfl, h1⟩ := uncons_some h
  obtain ⟨x3, l4, rfl, h2⟩ := uncons_some h1
  obtain ⟨d5, rfl, h3⟩ := cD_some h2
  obtain ⟨w0, rfl, h4⟩ := dInt_some h3
  obtain ⟨rfl, h5⟩ := atEnd_some h4
  obtain ⟨rfl, h6⟩ := atEnd_some h5
  obtain ⟨rfl, h7⟩ := atEnd_some h6
  obtain rfl := Option.some.inj h7
  exact ⟨rfl, rfl⟩
theorem laws_heldOverS.ok (k : Nat) : EntryOK Try.prog 180 (laws_heldOverS.e k) := by
  refine entry_of mix tyok (fn := Try.f180) (c := codeOf Try.f180) Try.func180 (by kernel_rfl) (h := laws_heldOverS.h) (k := k) (E := laws_heldOverS.E k) (env_cons (laws_markText.ok k) (env_cons (laws_heldOpS.ok k) env_nil)) (by kernel_rfl) (by kernel_rfl) rfl (enter_of Try.func180 (by kernel_rfl)) ?_
  intro β l K r hr
  simp only [laws_heldOverS.e] at hr
  split at hr
  case h_2 => cases hr
  unfold laws_heldOverS.f at hr
  split at hr
  case h_2 => cases hr
  rename_i hz
  exact ⟨_, _, hr, _, laws_heldOverS.dec, _, (laws_heldOverS.f_eq k _ _ laws_heldOverS.dec).trans (by rw [laws_heldOverS.kt_dec]; exact hz), fun rs os h ho => laws_heldOverS.inj _ _ h ho⟩
set_option maxRecDepth 100000 in
noncomputable def laws_heldJobS.l0 {β : Type} (k : Nat) (v0_0 : List (List D)) (K : Int → Option β) (L0 : (Int × Int) → Option β) (v : Int × Int) : Option β :=
  match v with
  | (v0_1, v0_2) => bif (decide ((v0_2 : Int) < (v0_0.length : Int))) then (atRow v0_0 v0_2 fun c529 => uncons c529 fun d530 r531 => dInt .i64 d530 fun x532 => uncons r531 fun d533 r534 => dStr d533 fun x535 => uncons r534 fun d536 r537 => dInt .i64 d536 fun x538 => uncons r537 fun d539 r540 => dSl d539 fun x541 => uncons r540 fun d542 r543 => dSl d542 fun x544 => uncons r543 fun d545 r546 => dSl d545 fun x547 => uncons r546 fun d548 r549 => dInt .i64 d548 fun x550 => uncons r549 fun d551 r552 => dStr d551 fun x553 => uncons r552 fun d554 r555 => dInt .i64 d554 fun x556 => uncons r555 fun d557 r558 => dSl d557 fun x559 => uncons r558 fun d560 r561 => dSl d560 fun x562 => uncons r561 fun d563 r564 => dSl d563 fun x565 => uncons r564 fun d566 r567 => dBool d566 fun x568 => atEnd r567 (bif ((x532 : Int) != v0_1) then (K (-1)) else (atRow v0_0 v0_2 fun c569 => uncons c569 fun d570 r571 => dInt .i64 d570 fun x572 => uncons r571 fun d573 r574 => dStr d573 fun x575 => uncons r574 fun d576 r577 => dInt .i64 d576 fun x578 => uncons r577 fun d579 r580 => dSl d579 fun x581 => uncons r580 fun d582 r583 => dSl d582 fun x584 => uncons r583 fun d585 r586 => dSl d585 fun x587 => uncons r586 fun d588 r589 => dInt .i64 d588 fun x590 => uncons r589 fun d591 r592 => dStr d591 fun x593 => uncons r592 fun d594 r595 => dInt .i64 d594 fun x596 => uncons r595 fun d597 r598 => dSl d597 fun x599 => uncons r598 fun d600 r601 => dSl d600 fun x602 => uncons r601 fun d603 r604 => dSl d603 fun x605 => uncons r604 fun d606 r607 => dBool d606 fun x608 => atEnd r607 (laws_markText.f k (IntKind.wrap .i64 (v0_1 + 1)) (fun y609 => bif (!(strEq x575 y609)) then (K (-1)) else (atRow v0_0 v0_2 fun c610 => uncons c610 fun d611 r612 => dInt .i64 d611 fun x613 => uncons r612 fun d614 r615 => dStr d614 fun x616 => uncons r615 fun d617 r618 => dInt .i64 d617 fun x619 => uncons r618 fun d620 r621 => dSl d620 fun x622 => uncons r621 fun d623 r624 => dSl d623 fun x625 => uncons r624 fun d626 r627 => dSl d626 fun x628 => uncons r627 fun d629 r630 => dInt .i64 d629 fun x631 => uncons r630 fun d632 r633 => dStr d632 fun x634 => uncons r633 fun d635 r636 => dInt .i64 d635 fun x637 => uncons r636 fun d638 r639 => dSl d638 fun x640 => uncons r639 fun d641 r642 => dSl d641 fun x643 => uncons r642 fun d644 r645 => dSl d644 fun x646 => uncons r645 fun d647 r648 => dBool d647 fun x649 => atEnd r648 (bif ((x619 : Int) != (IntKind.wrap .i64 ((IntKind.wrap .i64 (v0_1 + 1)) + 1))) then (K (-1)) else (atRow v0_0 v0_2 fun c650 => uncons c650 fun d651 r652 => dInt .i64 d651 fun x653 => uncons r652 fun d654 r655 => dStr d654 fun x656 => uncons r655 fun d657 r658 => dInt .i64 d657 fun x659 => uncons r658 fun d660 r661 => dSl d660 fun x662 => uncons r661 fun d663 r664 => dSl d663 fun x665 => uncons r664 fun d666 r667 => dSl d666 fun x668 => uncons r667 fun d669 r670 => dInt .i64 d669 fun x671 => uncons r670 fun d672 r673 => dStr d672 fun x674 => uncons r673 fun d675 r676 => dInt .i64 d675 fun x677 => uncons r676 fun d678 r679 => dSl d678 fun x680 => uncons r679 fun d681 r682 => dSl d681 fun x683 => uncons r682 fun d684 r685 => dSl d684 fun x686 => uncons r685 fun d687 r688 => dBool d687 fun x689 => atEnd r688 (laws_heldTermS.f k x662 (IntKind.wrap .i64 ((IntKind.wrap .i64 ((IntKind.wrap .i64 (v0_1 + 1)) + 1)) + 1)) (fun y690 => bif (decide ((y690 : Int) < 0)) then (K (-1)) else (atRow v0_0 v0_2 fun c691 => uncons c691 fun d692 r693 => dInt .i64 d692 fun x694 => uncons r693 fun d695 r696 => dStr d695 fun x697 => uncons r696 fun d698 r699 => dInt .i64 d698 fun x700 => uncons r699 fun d701 r702 => dSl d701 fun x703 => uncons r702 fun d704 r705 => dSl d704 fun x706 => uncons r705 fun d707 r708 => dSl d707 fun x709 => uncons r708 fun d710 r711 => dInt .i64 d710 fun x712 => uncons r711 fun d713 r714 => dStr d713 fun x715 => uncons r714 fun d716 r717 => dInt .i64 d716 fun x718 => uncons r717 fun d719 r720 => dSl d719 fun x721 => uncons r720 fun d722 r723 => dSl d722 fun x724 => uncons r723 fun d725 r726 => dSl d725 fun x727 => uncons r726 fun d728 r729 => dBool d728 fun x730 => atEnd r729 (laws_heldStringS.f k x706 y690 (fun y731 => bif (decide ((y731 : Int) < 0)) then (K (-1)) else (atRow v0_0 v0_2 fun c732 => uncons c732 fun d733 r734 => dInt .i64 d733 fun x735 => uncons r734 fun d736 r737 => dStr d736 fun x738 => uncons r737 fun d739 r740 => dInt .i64 d739 fun x741 => uncons r740 fun d742 r743 => dSl d742 fun x744 => uncons r743 fun d745 r746 => dSl d745 fun x747 => uncons r746 fun d748 r749 => dSl d748 fun x750 => uncons r749 fun d751 r752 => dInt .i64 d751 fun x753 => uncons r752 fun d754 r755 => dStr d754 fun x756 => uncons r755 fun d757 r758 => dInt .i64 d757 fun x759 => uncons r758 fun d760 r761 => dSl d760 fun x762 => uncons r761 fun d763 r764 => dSl d763 fun x765 => uncons r764 fun d766 r767 => dSl d766 fun x768 => uncons r767 fun d769 r770 => dBool d769 fun x771 => atEnd r770 (laws_heldWeighS.f k x750 y731 (fun y772 => bif (decide ((y772 : Int) < 0)) then (K (-1)) else (atRow v0_0 v0_2 fun c773 => uncons c773 fun d774 r775 => dInt .i64 d774 fun x776 => uncons r775 fun d777 r778 => dStr d777 fun x779 => uncons r778 fun d780 r781 => dInt .i64 d780 fun x782 => uncons r781 fun d783 r784 => dSl d783 fun x785 => uncons r784 fun d786 r787 => dSl d786 fun x788 => uncons r787 fun d789 r790 => dSl d789 fun x791 => uncons r790 fun d792 r793 => dInt .i64 d792 fun x794 => uncons r793 fun d795 r796 => dStr d795 fun x797 => uncons r796 fun d798 r799 => dInt .i64 d798 fun x800 => uncons r799 fun d801 r802 => dSl d801 fun x803 => uncons r802 fun d804 r805 => dSl d804 fun x806 => uncons r805 fun d807 r808 => dSl d807 fun x809 => uncons r808 fun d810 r811 => dBool d810 fun x812 => atEnd r811 (bif ((x794 : Int) != y772) then (K (-1)) else (atRow v0_0 v0_2 fun c813 => uncons c813 fun d814 r815 => dInt .i64 d814 fun x816 => uncons r815 fun d817 r818 => dStr d817 fun x819 => uncons r818 fun d820 r821 => dInt .i64 d820 fun x822 => uncons r821 fun d823 r824 => dSl d823 fun x825 => uncons r824 fun d826 r827 => dSl d826 fun x828 => uncons r827 fun d829 r830 => dSl d829 fun x831 => uncons r830 fun d832 r833 => dInt .i64 d832 fun x834 => uncons r833 fun d835 r836 => dStr d835 fun x837 => uncons r836 fun d838 r839 => dInt .i64 d838 fun x840 => uncons r839 fun d841 r842 => dSl d841 fun x843 => uncons r842 fun d844 r845 => dSl d844 fun x846 => uncons r845 fun d847 r848 => dSl d847 fun x849 => uncons r848 fun d850 r851 => dBool d850 fun x852 => atEnd r851 (laws_markText.f k (IntKind.wrap .i64 (y772 + 1)) (fun y853 => bif (!(strEq x837 y853)) then (K (-1)) else (atRow v0_0 v0_2 fun c854 => uncons c854 fun d855 r856 => dInt .i64 d855 fun x857 => uncons r856 fun d858 r859 => dStr d858 fun x860 => uncons r859 fun d861 r862 => dInt .i64 d861 fun x863 => uncons r862 fun d864 r865 => dSl d864 fun x866 => uncons r865 fun d867 r868 => dSl d867 fun x869 => uncons r868 fun d870 r871 => dSl d870 fun x872 => uncons r871 fun d873 r874 => dInt .i64 d873 fun x875 => uncons r874 fun d876 r877 => dStr d876 fun x878 => uncons r877 fun d879 r880 => dInt .i64 d879 fun x881 => uncons r880 fun d882 r883 => dSl d882 fun x884 => uncons r883 fun d885 r886 => dSl d885 fun x887 => uncons r886 fun d888 r889 => dSl d888 fun x890 => uncons r889 fun d891 r892 => dBool d891 fun x893 => atEnd r892 (bif ((x881 : Int) != (IntKind.wrap .i64 ((IntKind.wrap .i64 (y772 + 1)) + 1))) then (K (-1)) else (atRow v0_0 v0_2 fun c894 => uncons c894 fun d895 r896 => dInt .i64 d895 fun x897 => uncons r896 fun d898 r899 => dStr d898 fun x900 => uncons r899 fun d901 r902 => dInt .i64 d901 fun x903 => uncons r902 fun d904 r905 => dSl d904 fun x906 => uncons r905 fun d907 r908 => dSl d907 fun x909 => uncons r908 fun d910 r911 => dSl d910 fun x912 => uncons r911 fun d913 r914 => dInt .i64 d913 fun x915 => uncons r914 fun d916 r917 => dStr d916 fun x918 => uncons r917 fun d919 r920 => dInt .i64 d919 fun x921 => uncons r920 fun d922 r923 => dSl d922 fun x924 => uncons r923 fun d925 r926 => dSl d925 fun x927 => uncons r926 fun d928 r929 => dSl d928 fun x930 => uncons r929 fun d931 r932 => dBool d931 fun x933 => atEnd r932 (laws_heldStringS.f k x924 (IntKind.wrap .i64 ((IntKind.wrap .i64 ((IntKind.wrap .i64 (y772 + 1)) + 1)) + 1)) (fun y934 => bif (decide ((y934 : Int) < 0)) then (K (-1)) else (atRow v0_0 v0_2 fun c935 => uncons c935 fun d936 r937 => dInt .i64 d936 fun x938 => uncons r937 fun d939 r940 => dStr d939 fun x941 => uncons r940 fun d942 r943 => dInt .i64 d942 fun x944 => uncons r943 fun d945 r946 => dSl d945 fun x947 => uncons r946 fun d948 r949 => dSl d948 fun x950 => uncons r949 fun d951 r952 => dSl d951 fun x953 => uncons r952 fun d954 r955 => dInt .i64 d954 fun x956 => uncons r955 fun d957 r958 => dStr d957 fun x959 => uncons r958 fun d960 r961 => dInt .i64 d960 fun x962 => uncons r961 fun d963 r964 => dSl d963 fun x965 => uncons r964 fun d966 r967 => dSl d966 fun x968 => uncons r967 fun d969 r970 => dSl d969 fun x971 => uncons r970 fun d972 r973 => dBool d972 fun x974 => atEnd r973 (laws_heldValueS.f k x968 y934 (fun y975 => bif (decide ((y975 : Int) < 0)) then (K (-1)) else (atRow v0_0 v0_2 fun c976 => uncons c976 fun d977 r978 => dInt .i64 d977 fun x979 => uncons r978 fun d980 r981 => dStr d980 fun x982 => uncons r981 fun d983 r984 => dInt .i64 d983 fun x985 => uncons r984 fun d986 r987 => dSl d986 fun x988 => uncons r987 fun d989 r990 => dSl d989 fun x991 => uncons r990 fun d992 r993 => dSl d992 fun x994 => uncons r993 fun d995 r996 => dInt .i64 d995 fun x997 => uncons r996 fun d998 r999 => dStr d998 fun x1000 => uncons r999 fun d1001 r1002 => dInt .i64 d1001 fun x1003 => uncons r1002 fun d1004 r1005 => dSl d1004 fun x1006 => uncons r1005 fun d1007 r1008 => dSl d1007 fun x1009 => uncons r1008 fun d1010 r1011 => dSl d1010 fun x1012 => uncons r1011 fun d1013 r1014 => dBool d1013 fun x1015 => atEnd r1014 (laws_heldOverS.f k x1012 y975 (fun y1016 => bif (decide ((y1016 : Int) < 0)) then (K (-1)) else (atRow v0_0 v0_2 fun c1017 => uncons c1017 fun d1018 r1019 => dInt .i64 d1018 fun x1020 => uncons r1019 fun d1021 r1022 => dStr d1021 fun x1023 => uncons r1022 fun d1024 r1025 => dInt .i64 d1024 fun x1026 => uncons r1025 fun d1027 r1028 => dSl d1027 fun x1029 => uncons r1028 fun d1030 r1031 => dSl d1030 fun x1032 => uncons r1031 fun d1033 r1034 => dSl d1033 fun x1035 => uncons r1034 fun d1036 r1037 => dInt .i64 d1036 fun x1038 => uncons r1037 fun d1039 r1040 => dStr d1039 fun x1041 => uncons r1040 fun d1042 r1043 => dInt .i64 d1042 fun x1044 => uncons r1043 fun d1045 r1046 => dSl d1045 fun x1047 => uncons r1046 fun d1048 r1049 => dSl d1048 fun x1050 => uncons r1049 fun d1051 r1052 => dSl d1051 fun x1053 => uncons r1052 fun d1054 r1055 => dBool d1054 fun x1056 => atEnd r1055 (guardP ((3 : Int) ≠ 0) (bif (!(x1056 == (((Int.tmod y1016 3) : Int) == 0))) then (K (-1)) else (L0 (IntKind.wrap .i64 (y1016 + 1), IntKind.wrap .i64 (v0_2 + 1)))))))))))))))))))))))))))))))))))))) else (K v0_1)
noncomputable def laws_heldJobS.g {β : Type} (k : Nat) (a0 : List (List D)) (a1 : Int) (K : Int → Option β) : Option β :=
  iter (laws_heldJobS.l0 k a0 K) k (a1, 0)
noncomputable def laws_heldJobS.t (k : Nat) (a0 : List (List D)) (a1 : Int) : Option (Int) := laws_heldJobS.g k a0 a1 (fun z0 => some z0)
noncomputable def laws_heldJobS.f {β : Type} (k : Nat) (a0 : List (List D)) (a1 : Int) (K : Int → Option β) : Option β :=
  match laws_heldJobS.t k a0 a1 with
  | some z0 => K z0
  | none => none
noncomputable def laws_heldJobS.as (a0 : List (List D)) (a1 : Int) : List A := [.d (.sl a0), .d (.int .i64 a1)]
noncomputable def laws_heldJobS.kt {β : Type} (a0 : List (List D)) (a1 : Int) (K0 : List (List C) → List Out → Option β) : Int → Option β := fun z0 => K0 [[.d (.int .i64 z0)]] []
noncomputable def laws_heldJobS.e (k : Nat) : Entry := { modes := [(.imm, 0), (.imm, 0)], rts := [3], al := false, run := fun {β} l K => match l with | [.d (.sl a0), .d (.int .i64 a1)] => laws_heldJobS.f k a0 a1 (laws_heldJobS.kt a0 a1 K) | _ => none }
noncomputable def laws_heldJobS.E (k : Nat) : Env := fun g => bif g == 152 then some (laws_markText.e k) else bif g == 178 then some (laws_heldTermS.e k) else bif g == 128 then some (laws_heldStringS.e k) else bif g == 179 then some (laws_heldWeighS.e k) else bif g == 154 then some (laws_heldValueS.e k) else bif g == 180 then some (laws_heldOverS.e k) else none
noncomputable def laws_heldJobS.h : Hints := ⟨fun n => bif n == 2 then ⟨[(0, .asis), (1, .dat false), (5, .asis)], []⟩ else ⟨[], []⟩, fun _ => none, false, []⟩
noncomputable def laws_heldJobS.s0 (v0_0 : List (List D)) (v : Int × Int) : St :=
  match v with
  | (v0_1, v0_2) => ⟨[.d false (.sl v0_0), .d false (.int .i64 v0_1), .any, .any, .any, .d true (.int .i64 v0_2), .any, .any, .any, .any, .any, .any, .any, .any, .any, .any, .any, .any, .any, .any, .any, .any, .any, .any, .any, .any, .any, .any, .any, .any, .any, .any, .any, .any, .any, .any, .any, .any, .any, .any, .any, .any, .any, .any, .any, .any, .any, .any, .any, .any, .any, .any, .any, .any, .any, .any, .any, .any, .any, .any, .any, .any, .any, .any, .any, .any, .any, .any, .any, .any, .any, .any, .any, .any, .any, .any, .any, .any, .any, .any, .any, .any, .any, .any, .any, .any, .any, .any, .any, .any, .any, .any, .any, .any, .any, .any, .any, .any, .any, .any, .any, .any, .any, .any, .any, .any, .any, .any, .any, .any, .any, .any, .any, .any, .any, .any, .any, .any, .any, .any, .any, .any, .any, .any, .any, .any, .any, .any, .any, .any, .any, .any, .any, .any, .any, .any, .any, .any, .any, .any, .any, .any, .any], []⟩
noncomputable def laws_heldJobS.b0 {β : Type} (k : Nat) : St → (Ex → St → Option β) → Option β := fun s K => den Try.prog (laws_heldJobS.E k) laws_heldJobS.h.H laws_heldJobS.h.J k (codeAt [1, 0, 1, 0, 0] (codeOf Try.f125)) s K
noncomputable def laws_heldJobS.c0 {β : Type} (k : Nat) (a0 : List (List D)) (a1 : Int) (K0 : List (List C) → List Out → Option β) : Ex → St → Option β := contAt Try.prog (laws_heldJobS.E k) laws_heldJobS.h k [1, 0, 1, 0] (codeOf Try.f125) (finDen Try.prog Try.f125 laws_heldJobS.h (laws_heldJobS.as a0 a1) K0)
theorem laws_heldJobS.l0_eq {β : Type} (k : Nat) (a0 : List (List D)) (a1 : Int) (K0 : List (List C) → List Out → Option β) (v0_0 : List (List D)) : ∀ (kk : Nat) (v : Int × Int), loopDen (laws_heldJobS.b0 k) (laws_heldJobS.h.H 2) kk (laws_heldJobS.s0 v0_0 v) (laws_heldJobS.c0 k a0 a1 K0) = iter (laws_heldJobS.l0 k v0_0 (laws_heldJobS.kt a0 a1 K0)) kk v :=
  loop_eq (laws_heldJobS.s0 v0_0) _ (fun L0 v => by obtain ⟨v0_1, v0_2⟩ := v; kernel_rfl)
noncomputable def laws_heldJobS.m {β : Type} (k : Nat) (a0 : List (List D)) (a1 : Int) (K0 : List (List C) → List Out → Option β) (F : ((List (List D)) → (Int × Int) → Option β)) : Option β :=
  (F) a0 (a1, 0)
theorem laws_heldJobS.f_eq {β : Type} (k : Nat) (a0 : List (List D)) (a1 : Int) (K0 : List (List C) → List Out → Option β) : funDen Try.prog (laws_heldJobS.E k) laws_heldJobS.h k Try.f125 (laws_heldJobS.as a0 a1) K0 = laws_heldJobS.g k a0 a1 (laws_heldJobS.kt a0 a1 K0) := Eq.trans (b := (laws_heldJobS.m k a0 a1 K0) (fun (v0_0 : List (List D)) (v : Int × Int) => loopDen (laws_heldJobS.b0 k) (laws_heldJobS.h.H 2) k (laws_heldJobS.s0 v0_0 v) (laws_heldJobS.c0 k a0 a1 K0))) (by kernel_rfl) (Eq.trans (congrArg (laws_heldJobS.m k a0 a1 K0) (funext fun v0_0 => funext fun v => laws_heldJobS.l0_eq k a0 a1 K0 v0_0 k v)) (by kernel_rfl))
noncomputable def laws_heldJobS.dec (rs : List (List C)) (os : List Out) : Option (Int) := uncons rs fun c1 r2 => uncons c1 fun x3 l4 => cD x3 fun d5 => dInt .i64 d5 fun w0 => atEnd l4 <| atEnd r2 <| atEnd os (some w0)
theorem laws_heldJobS.kt_dec (a0 : List (List D)) (a1 : Int) : laws_heldJobS.kt a0 a1 laws_heldJobS.dec = (fun z0 => some z0) := by kernel_rfl
theorem laws_heldJobS.inj (a0 : List (List D)) (a1 : Int) {rs : List (List C)} {os : List Out} {z0 : Int} (h : laws_heldJobS.dec rs os = some z0) (ho : OutShape (laws_heldJobS.as a0 a1) os) : rs = [[.d (.int .i64 z0)]] ∧ os = [] := by
  unfold laws_heldJobS.dec at h
  obtain ⟨c1, r2, rfl, h1⟩ := uncons_some h
  obtain ⟨x3, l4, rfl, h2⟩ := uncons_some h1
  obtain ⟨d5, rfl, h3⟩ := cD_some h2
  obtain ⟨w0, rfl, h4⟩ := dInt_some h3
  obtain ⟨rfl, h5⟩ := atEnd_some h4
  obtain ⟨rfl, h6⟩ := atEnd_some h5
  obtain ⟨rfl, h7⟩ := atEnd_some h6
  obtain rfl := Option.some.inj h7
  exact ⟨rfl, rfl⟩
theorem laws_heldJobS.ok (k : Nat) : EntryOK Try.prog 125 (laws_heldJobS.e k) := by
  refine entry_of mix tyok (fn := Try.f125) (c := codeOf Try.f125) Try.func125 (by kernel_rfl) (h := laws_heldJobS.h) (k := k) (E := laws_heldJobS.E k) (env_cons (laws_markText.ok k) (env_cons (laws_heldTermS.ok k) (env_cons (laws_heldStringS.ok k) (env_cons (laws_heldWeighS.ok k) (env_cons (laws_heldValueS.ok k) (env_cons (laws_heldOverS.ok k) env_nil)))))) (by kernel_rfl) (by kernel_rfl) rfl (enter_of Try.func125 (by kernel_rfl)) ?_
  intro β l K r hr
  simp only [laws_heldJobS.e] at hr
  split at hr
  case h_2 => cases hr
  unfold laws_heldJobS.f at hr
  split at hr
  case h_2 => cases hr
  rename_i hz
  exact ⟨_, _, hr, _, laws_heldJobS.dec, _, (laws_heldJobS.f_eq k _ _ laws_heldJobS.dec).trans (by rw [laws_heldJobS.kt_dec]; exact hz), fun rs os h ho => laws_heldJobS.inj _ _ h ho⟩
noncomputable def laws_heldLabelS.l0 {β : Type} (k : Nat) (v0_0 : List (List D)) (K : Int → Option β) (L0 : (Int × Int) → Option β) (v : Int × Int) : Option β :=
  match v with
  | (v0_1, v0_2) => bif (decide ((v0_2 : Int) < (v0_0.length : Int))) then (atRow v0_0 v0_2 fun c17 => uncons c17 fun d18 r19 => dStr d18 fun x20 => uncons r19 fun d21 r22 => dStr d21 fun x23 => atEnd r22 (laws_markText.f k v0_1 (fun y24 => bif (!(strEq x20 y24)) then (K (-1)) else (atRow v0_0 v0_2 fun c25 => uncons c25 fun d26 r27 => dStr d26 fun x28 => uncons r27 fun d29 r30 => dStr d29 fun x31 => atEnd r30 (laws_markText.f k (IntKind.wrap .i64 (v0_1 + 1)) (fun y32 => bif (!(strEq x31 y32)) then (K (-1)) else (L0 (IntKind.wrap .i64 ((IntKind.wrap .i64 (v0_1 + 1)) + 1), IntKind.wrap .i64 (v0_2 + 1))))))))) else (K v0_1)
noncomputable def laws_heldLabelS.g {β : Type} (k : Nat) (a0 : List (List D)) (a1 : Int) (K : Int → Option β) : Option β :=
  iter (laws_heldLabelS.l0 k a0 K) k (a1, 0)
noncomputable def laws_heldLabelS.t (k : Nat) (a0 : List (List D)) (a1 : Int) : Option (Int) := laws_heldLabelS.g k a0 a1 (fun z0 => some z0)
noncomputable def laws_heldLabelS.f {β : Type} (k : Nat) (a0 : List (List D)) (a1 : Int) (K : Int → Option β) : Option β :=
  match laws_heldLabelS.t k a0 a1 with
  | some z0 => K z0
  | none => none
noncomputable def laws_heldLabelS.as (a0 : List (List D)) (a1 : Int) : List A := [.d (.sl a0), .d (.int .i64 a1)]
noncomputable def laws_heldLabelS.kt {β : Type} (a0 : List (List D)) (a1 : Int) (K0 : List (List C) → List Out → Option β) : Int → Option β := fun z0 => K0 [[.d (.int .i64 z0)]] []
noncomputable def laws_heldLabelS.e (k : Nat) : Entry := { modes := [(.imm, 0), (.imm, 0)], rts := [3], al := false, run := fun {β} l K => match l with | [.d (.sl a0), .d (.int .i64 a1)] => laws_heldLabelS.f k a0 a1 (laws_heldLabelS.kt a0 a1 K) | _ => none }
noncomputable def laws_heldLabelS.E (k : Nat) : Env := fun g => bif g == 152 then some (laws_markText.e k) else none
noncomputable def laws_heldLabelS.h : Hints := ⟨fun n => bif n == 2 then ⟨[(0, .asis), (1, .dat false), (5, .asis)], []⟩ else ⟨[], []⟩, fun _ => none, false, []⟩
noncomputable def laws_heldLabelS.s0 (v0_0 : List (List D)) (v : Int × Int) : St :=
  match v with
  | (v0_1, v0_2) => ⟨[.d false (.sl v0_0), .d false (.int .i64 v0_1), .any, .any, .any, .d true (.int .i64 v0_2), .any, .any, .any, .any, .any, .any, .any, .any, .any, .any, .any, .any, .any, .any, .any, .any, .any, .any, .any, .any, .any, .any, .any, .any, .any, .any, .any], []⟩
noncomputable def laws_heldLabelS.b0 {β : Type} (k : Nat) : St → (Ex → St → Option β) → Option β := fun s K => den Try.prog (laws_heldLabelS.E k) laws_heldLabelS.h.H laws_heldLabelS.h.J k (codeAt [1, 0, 1, 0, 0] (codeOf Try.f181)) s K
noncomputable def laws_heldLabelS.c0 {β : Type} (k : Nat) (a0 : List (List D)) (a1 : Int) (K0 : List (List C) → List Out → Option β) : Ex → St → Option β := contAt Try.prog (laws_heldLabelS.E k) laws_heldLabelS.h k [1, 0, 1, 0] (codeOf Try.f181) (finDen Try.prog Try.f181 laws_heldLabelS.h (laws_heldLabelS.as a0 a1) K0)
theorem laws_heldLabelS.l0_eq {β : Type} (k : Nat) (a0 : List (List D)) (a1 : Int) (K0 : List (List C) → List Out → Option β) (v0_0 : List (List D)) : ∀ (kk : Nat) (v : Int × Int), loopDen (laws_heldLabelS.b0 k) (laws_heldLabelS.h.H 2) kk (laws_heldLabelS.s0 v0_0 v) (laws_heldLabelS.c0 k a0 a1 K0) = iter (laws_heldLabelS.l0 k v0_0 (laws_heldLabelS.kt a0 a1 K0)) kk v :=
  loop_eq (laws_heldLabelS.s0 v0_0) _ (fun L0 v => by obtain ⟨v0_1, v0_2⟩ := v; kernel_rfl)
noncomputable def laws_heldLabelS.m {β : Type} (k : Nat) (a0 : List (List D)) (a1 : Int) (K0 : List (List C) → List Out → Option β) (F : ((List (List D)) → (Int × Int) → Option β)) : Option β :=
  (F) a0 (a1, 0)
theorem laws_heldLabelS.f_eq {β : Type} (k : Nat) (a0 : List (List D)) (a1 : Int) (K0 : List (List C) → List Out → Option β) : funDen Try.prog (laws_heldLabelS.E k) laws_heldLabelS.h k Try.f181 (laws_heldLabelS.as a0 a1) K0 = laws_heldLabelS.g k a0 a1 (laws_heldLabelS.kt a0 a1 K0) := Eq.trans (b := (laws_heldLabelS.m k a0 a1 K0) (fun (v0_0 : List (List D)) (v : Int × Int) => loopDen (laws_heldLabelS.b0 k) (laws_heldLabelS.h.H 2) k (laws_heldLabelS.s0 v0_0 v) (laws_heldLabelS.c0 k a0 a1 K0))) (by kernel_rfl) (Eq.trans (congrArg (laws_heldLabelS.m k a0 a1 K0) (funext fun v0_0 => funext fun v => laws_heldLabelS.l0_eq k a0 a1 K0 v0_0 k v)) (by kernel_rfl))
noncomputable def laws_heldLabelS.dec (rs : List (List C)) (os : List Out) : Option (Int) := uncons rs fun c1 r2 => uncons c1 fun x3 l4 => cD x3 fun d5 => dInt .i64 d5 fun w0 => atEnd l4 <| atEnd r2 <| atEnd os (some w0)
theorem laws_heldLabelS.kt_dec (a0 : List (List D)) (a1 : Int) : laws_heldLabelS.kt a0 a1 laws_heldLabelS.dec = (fun z0 => some z0) := by kernel_rfl
theorem laws_heldLabelS.inj (a0 : List (List D)) (a1 : Int) {rs : List (List C)} {os : List Out} {z0 : Int} (h : laws_heldLabelS.dec rs os = some z0) (ho : OutShape (laws_heldLabelS.as a0 a1) os) : rs = [[.d (.int .i64 z0)]] ∧ os = [] := by
  unfold laws_heldLabelS.dec at h
  obtain ⟨c1, r2, rfl, h1⟩ := uncons_some h
  obtain ⟨x3, l4, rfl, h2⟩ := uncons_some h1
  obtain ⟨d5, rfl, h3⟩ := cD_some h2
  obtain ⟨w0, rfl, h4⟩ := dInt_some h3
  obtain ⟨rfl, h5⟩ := atEnd_some h4
  obtain ⟨rfl, h6⟩ := atEnd_some h5
  obtain ⟨rfl, h7⟩ := atEnd_some h6
  obtain rfl := Option.some.inj h7
  exact ⟨rfl, rfl⟩
theorem laws_heldLabelS.ok (k : Nat) : EntryOK Try.prog 181 (laws_heldLabelS.e k) := by
  refine entry_of mix tyok (fn := Try.f181) (c := codeOf Try.f181) Try.func181 (by kernel_rfl) (h := laws_heldLabelS.h) (k := k) (E := laws_heldLabelS.E k) (env_cons (laws_markText.ok k) env_nil) (by kernel_rfl) (by kernel_rfl) rfl (enter_of Try.func181 (by kernel_rfl)) ?_
  intro β l K r hr
  simp only [laws_heldLabelS.e] at hr
  split at hr
  case h_2 => cases hr
  unfold laws_heldLabelS.f at hr
  split at hr
  case h_2 => cases hr
  rename_i hz
  exact ⟨_, _, hr, _, laws_heldLabelS.dec, _, (laws_heldLabelS.f_eq k _ _ laws_heldLabelS.dec).trans (by rw [laws_heldLabelS.kt_dec]; exact hz), fun rs os h ho => laws_heldLabelS.inj _ _ h ho⟩
noncomputable def laws_heldPostS.l0 {β : Type} (k : Nat) (v0_0 : List (List D)) (K : Int → Option β) (L0 : (Int × Int) → Option β) (v : Int × Int) : Option β :=
  match v with
  | (v0_1, v0_2) => bif (decide ((v0_2 : Int) < (v0_0.length : Int))) then (atRow v0_0 v0_2 fun c118 => uncons c118 fun d119 r120 => dStr d119 fun x121 => uncons r120 fun d122 r123 => dSl d122 fun x124 => uncons r123 fun d125 r126 => dSl d125 fun x127 => uncons r126 fun d128 r129 => dInt .i64 d128 fun x130 => uncons r129 fun d131 r132 => dInt .i64 d131 fun x133 => uncons r132 fun d134 r135 => dInt .i64 d134 fun x136 => atEnd r135 (laws_markText.f k v0_1 (fun y137 => bif (!(strEq x121 y137)) then (K (-1)) else (atRow v0_0 v0_2 fun c138 => uncons c138 fun d139 r140 => dStr d139 fun x141 => uncons r140 fun d142 r143 => dSl d142 fun x144 => uncons r143 fun d145 r146 => dSl d145 fun x147 => uncons r146 fun d148 r149 => dInt .i64 d148 fun x150 => uncons r149 fun d151 r152 => dInt .i64 d151 fun x153 => uncons r152 fun d154 r155 => dInt .i64 d154 fun x156 => atEnd r155 (laws_heldLabelS.f k x144 (IntKind.wrap .i64 (v0_1 + 1)) (fun y157 => bif (decide ((y157 : Int) < 0)) then (K (-1)) else (atRow v0_0 v0_2 fun c158 => uncons c158 fun d159 r160 => dStr d159 fun x161 => uncons r160 fun d162 r163 => dSl d162 fun x164 => uncons r163 fun d165 r166 => dSl d165 fun x167 => uncons r166 fun d168 r169 => dInt .i64 d168 fun x170 => uncons r169 fun d171 r172 => dInt .i64 d171 fun x173 => uncons r172 fun d174 r175 => dInt .i64 d174 fun x176 => atEnd r175 (laws_heldStringS.f k x167 y157 (fun y177 => bif (decide ((y177 : Int) < 0)) then (K (-1)) else (atRow v0_0 v0_2 fun c178 => uncons c178 fun d179 r180 => dStr d179 fun x181 => uncons r180 fun d182 r183 => dSl d182 fun x184 => uncons r183 fun d185 r186 => dSl d185 fun x187 => uncons r186 fun d188 r189 => dInt .i64 d188 fun x190 => uncons r189 fun d191 r192 => dInt .i64 d191 fun x193 => uncons r192 fun d194 r195 => dInt .i64 d194 fun x196 => atEnd r195 (bif ((x190 : Int) != y177) then (K (-1)) else (atRow v0_0 v0_2 fun c197 => uncons c197 fun d198 r199 => dStr d198 fun x200 => uncons r199 fun d201 r202 => dSl d201 fun x203 => uncons r202 fun d204 r205 => dSl d204 fun x206 => uncons r205 fun d207 r208 => dInt .i64 d207 fun x209 => uncons r208 fun d210 r211 => dInt .i64 d210 fun x212 => uncons r211 fun d213 r214 => dInt .i64 d213 fun x215 => atEnd r214 (bif ((x212 : Int) != (IntKind.wrap .i64 (y177 + 1))) then (K (-1)) else (atRow v0_0 v0_2 fun c216 => uncons c216 fun d217 r218 => dStr d217 fun x219 => uncons r218 fun d220 r221 => dSl d220 fun x222 => uncons r221 fun d223 r224 => dSl d223 fun x225 => uncons r224 fun d226 r227 => dInt .i64 d226 fun x228 => uncons r227 fun d229 r230 => dInt .i64 d229 fun x231 => uncons r230 fun d232 r233 => dInt .i64 d232 fun x234 => atEnd r233 (bif ((x234 : Int) != (IntKind.wrap .i64 ((IntKind.wrap .i64 (y177 + 1)) + 1))) then (K (-1)) else (L0 (IntKind.wrap .i64 ((IntKind.wrap .i64 ((IntKind.wrap .i64 (y177 + 1)) + 1)) + 1), IntKind.wrap .i64 (v0_2 + 1)))))))))))))))))) else (K v0_1)
noncomputable def laws_heldPostS.g {β : Type} (k : Nat) (a0 : List (List D)) (a1 : Int) (K : Int → Option β) : Option β :=
  iter (laws_heldPostS.l0 k a0 K) k (a1, 0)
noncomputable def laws_heldPostS.t (k : Nat) (a0 : List (List D)) (a1 : Int) : Option (Int) := laws_heldPostS.g k a0 a1 (fun z0 => some z0)
noncomputable def laws_heldPostS.f {β : Type} (k : Nat) (a0 : List (List D)) (a1 : Int) (K : Int → Option β) : Option β :=
  match laws_heldPostS.t k a0 a1 with
  | some z0 => K z0
  | none => none
noncomputable def laws_heldPostS.as (a0 : List (List D)) (a1 : Int) : List A := [.d (.sl a0), .d (.int .i64 a1)]
noncomputable def laws_heldPostS.kt {β : Type} (a0 : List (List D)) (a1 : Int) (K0 : List (List C) → List Out → Option β) : Int → Option β := fun z0 => K0 [[.d (.int .i64 z0)]] []
noncomputable def laws_heldPostS.e (k : Nat) : Entry := { modes := [(.imm, 0), (.imm, 0)], rts := [3], al := false, run := fun {β} l K => match l with | [.d (.sl a0), .d (.int .i64 a1)] => laws_heldPostS.f k a0 a1 (laws_heldPostS.kt a0 a1 K) | _ => none }
noncomputable def laws_heldPostS.E (k : Nat) : Env := fun g => bif g == 152 then some (laws_markText.e k) else bif g == 181 then some (laws_heldLabelS.e k) else bif g == 128 then some (laws_heldStringS.e k) else none
noncomputable def laws_heldPostS.h : Hints := ⟨fun n => bif n == 2 then ⟨[(0, .asis), (1, .dat false), (5, .asis)], []⟩ else ⟨[], []⟩, fun _ => none, false, []⟩
noncomputable def laws_heldPostS.s0 (v0_0 : List (List D)) (v : Int × Int) : St :=
  match v with
  | (v0_1, v0_2) => ⟨[.d false (.sl v0_0), .d false (.int .i64 v0_1), .any, .any, .any, .d true (.int .i64 v0_2), .any, .any, .any, .any, .any, .any, .any, .any, .any, .any, .any, .any, .any, .any, .any, .any, .any, .any, .any, .any, .any, .any, .any, .any, .any, .any, .any, .any, .any, .any, .any, .any, .any, .any, .any, .any, .any, .any, .any, .any, .any, .any, .any, .any, .any, .any, .any, .any, .any, .any, .any, .any, .any, .any, .any, .any, .any, .any, .any, .any, .any, .any, .any, .any, .any, .any], []⟩
noncomputable def laws_heldPostS.b0 {β : Type} (k : Nat) : St → (Ex → St → Option β) → Option β := fun s K => den Try.prog (laws_heldPostS.E k) laws_heldPostS.h.H laws_heldPostS.h.J k (codeAt [1, 0, 1, 0, 0] (codeOf Try.f126)) s K
noncomputable def laws_heldPostS.c0 {β : Type} (k : Nat) (a0 : List (List D)) (a1 : Int) (K0 : List (List C) → List Out → Option β) : Ex → St → Option β := contAt Try.prog (laws_heldPostS.E k) laws_heldPostS.h k [1, 0, 1, 0] (codeOf Try.f126) (finDen Try.prog Try.f126 laws_heldPostS.h (laws_heldPostS.as a0 a1) K0)
theorem laws_heldPostS.l0_eq {β : Type} (k : Nat) (a0 : List (List D)) (a1 : Int) (K0 : List (List C) → List Out → Option β) (v0_0 : List (List D)) : ∀ (kk : Nat) (v : Int × Int), loopDen (laws_heldPostS.b0 k) (laws_heldPostS.h.H 2) kk (laws_heldPostS.s0 v0_0 v) (laws_heldPostS.c0 k a0 a1 K0) = iter (laws_heldPostS.l0 k v0_0 (laws_heldPostS.kt a0 a1 K0)) kk v :=
  loop_eq (laws_heldPostS.s0 v0_0) _ (fun L0 v => by obtain ⟨v0_1, v0_2⟩ := v; kernel_rfl)
noncomputable def laws_heldPostS.m {β : Type} (k : Nat) (a0 : List (List D)) (a1 : Int) (K0 : List (List C) → List Out → Option β) (F : ((List (List D)) → (Int × Int) → Option β)) : Option β :=
  (F) a0 (a1, 0)
theorem laws_heldPostS.f_eq {β : Type} (k : Nat) (a0 : List (List D)) (a1 : Int) (K0 : List (List C) → List Out → Option β) : funDen Try.prog (laws_heldPostS.E k) laws_heldPostS.h k Try.f126 (laws_heldPostS.as a0 a1) K0 = laws_heldPostS.g k a0 a1 (laws_heldPostS.kt a0 a1 K0) := Eq.trans (b := (laws_heldPostS.m k a0 a1 K0) (fun (v0_0 : List (List D)) (v : Int × Int) => loopDen (laws_heldPostS.b0 k) (laws_heldPostS.h.H 2) k (laws_heldPostS.s0 v0_0 v) (laws_heldPostS.c0 k a0 a1 K0))) (by kernel_rfl) (Eq.trans (congrArg (laws_heldPostS.m k a0 a1 K0) (funext fun v0_0 => funext fun v => laws_heldPostS.l0_eq k a0 a1 K0 v0_0 k v)) (by kernel_rfl))
noncomputable def laws_heldPostS.dec (rs : List (List C)) (os : List Out) : Option (Int) := uncons rs fun c1 r2 => uncons c1 fun x3 l4 => cD x3 fun d5 => dInt .i64 d5 fun w0 => atEnd l4 <| atEnd r2 <| atEnd os (some w0)
theorem laws_heldPostS.kt_dec (a0 : List (List D)) (a1 : Int) : laws_heldPostS.kt a0 a1 laws_heldPostS.dec = (fun z0 => some z0) := by kernel_rfl
theorem laws_heldPostS.inj (a0 : List (List D)) (a1 : Int) {rs : List (List C)} {os : List Out} {z0 : Int} (h : laws_heldPostS.dec rs os = some z0) (ho : OutShape (laws_heldPostS.as a0 a1) os) : rs = [[.d (.int .i64 z0)]] ∧ os = [] := by
  unfold laws_heldPostS.dec at h
  obtain ⟨c1, r2, rfl, h1⟩ := uncons_some h
  obtain ⟨x3, l4, rfl, h2⟩ := uncons_some h1
  obtain ⟨d5, rfl, h3⟩ := cD_some h2
  obtain ⟨w0, rfl, h4⟩ := dInt_some h3
  obtain ⟨rfl, h5⟩ := atEnd_some h4
  obtain ⟨rfl, h6⟩ := atEnd_some h5
  obtain ⟨rfl, h7⟩ := atEnd_some h6
  obtain rfl := Option.some.inj h7
  exact ⟨rfl, rfl⟩
theorem laws_heldPostS.ok (k : Nat) : EntryOK Try.prog 126 (laws_heldPostS.e k) := by
  refine entry_of mix tyok (fn := Try.f126) (c := codeOf Try.f126) Try.func126 (by kernel_rfl) (h := laws_heldPostS.h) (k := k) (E := laws_heldPostS.E k) (env_cons (laws_markText.ok k) (env_cons (laws_heldLabelS.ok k) (env_cons (laws_heldStringS.ok k) env_nil))) (by kernel_rfl) (by kernel_rfl) rfl (enter_of Try.func126 (by kernel_rfl)) ?_
  intro β l K r hr
  simp only [laws_heldPostS.e] at hr
  split at hr
  case h_2 => cases hr
  unfold laws_heldPostS.f at hr
  split at hr
  case h_2 => cases hr
  rename_i hz
  exact ⟨_, _, hr, _, laws_heldPostS.dec, _, (laws_heldPostS.f_eq k _ _ laws_heldPostS.dec).trans (by rw [laws_heldPostS.kt_dec]; exact hz), fun rs os h ho => laws_heldPostS.inj _ _ h ho⟩
noncomputable def laws_heldHoldS.l0 {β : Type} (k : Nat) (v0_0 : List (List D)) (K : Int → Option β) (L0 : (Int × Int) → Option β) (v : Int × Int) : Option β :=
  match v with
  | (v0_1, v0_2) => bif (decide ((v0_2 : Int) < (v0_0.length : Int))) then (atRow v0_0 v0_2 fun c82 => uncons c82 fun d83 r84 => dInt .i64 d83 fun x85 => uncons r84 fun d86 r87 => dStr d86 fun x88 => uncons r87 fun d89 r90 => dInt .i64 d89 fun x91 => uncons r90 fun d92 r93 => dInt .i64 d92 fun x94 => uncons r93 fun d95 r96 => dInt .i64 d95 fun x97 => atEnd r96 (bif ((x85 : Int) != v0_1) then (K (-1)) else (atRow v0_0 v0_2 fun c98 => uncons c98 fun d99 r100 => dInt .i64 d99 fun x101 => uncons r100 fun d102 r103 => dStr d102 fun x104 => uncons r103 fun d105 r106 => dInt .i64 d105 fun x107 => uncons r106 fun d108 r109 => dInt .i64 d108 fun x110 => uncons r109 fun d111 r112 => dInt .i64 d111 fun x113 => atEnd r112 (laws_markText.f k (IntKind.wrap .i64 (v0_1 + 1)) (fun y114 => bif (!(strEq x104 y114)) then (K (-1)) else (atRow v0_0 v0_2 fun c115 => uncons c115 fun d116 r117 => dInt .i64 d116 fun x118 => uncons r117 fun d119 r120 => dStr d119 fun x121 => uncons r120 fun d122 r123 => dInt .i64 d122 fun x124 => uncons r123 fun d125 r126 => dInt .i64 d125 fun x127 => uncons r126 fun d128 r129 => dInt .i64 d128 fun x130 => atEnd r129 (bif ((x124 : Int) != (IntKind.wrap .i64 ((IntKind.wrap .i64 (v0_1 + 1)) + 1))) then (K (-1)) else (atRow v0_0 v0_2 fun c131 => uncons c131 fun d132 r133 => dInt .i64 d132 fun x134 => uncons r133 fun d135 r136 => dStr d135 fun x137 => uncons r136 fun d138 r139 => dInt .i64 d138 fun x140 => uncons r139 fun d141 r142 => dInt .i64 d141 fun x143 => uncons r142 fun d144 r145 => dInt .i64 d144 fun x146 => atEnd r145 (bif ((x143 : Int) != (IntKind.wrap .i64 ((IntKind.wrap .i64 ((IntKind.wrap .i64 (v0_1 + 1)) + 1)) + 1))) then (K (-1)) else (atRow v0_0 v0_2 fun c147 => uncons c147 fun d148 r149 => dInt .i64 d148 fun x150 => uncons r149 fun d151 r152 => dStr d151 fun x153 => uncons r152 fun d154 r155 => dInt .i64 d154 fun x156 => uncons r155 fun d157 r158 => dInt .i64 d157 fun x159 => uncons r158 fun d160 r161 => dInt .i64 d160 fun x162 => atEnd r161 (bif ((x162 : Int) != (IntKind.wrap .i64 ((IntKind.wrap .i64 ((IntKind.wrap .i64 ((IntKind.wrap .i64 (v0_1 + 1)) + 1)) + 1)) + 1))) then (K (-1)) else (L0 (IntKind.wrap .i64 ((IntKind.wrap .i64 ((IntKind.wrap .i64 ((IntKind.wrap .i64 ((IntKind.wrap .i64 (v0_1 + 1)) + 1)) + 1)) + 1)) + 1), IntKind.wrap .i64 (v0_2 + 1)))))))))))))) else (K v0_1)
noncomputable def laws_heldHoldS.g {β : Type} (k : Nat) (a0 : List (List D)) (a1 : Int) (K : Int → Option β) : Option β :=
  iter (laws_heldHoldS.l0 k a0 K) k (a1, 0)
noncomputable def laws_heldHoldS.t (k : Nat) (a0 : List (List D)) (a1 : Int) : Option (Int) := laws_heldHoldS.g k a0 a1 (fun z0 => some z0)
noncomputable def laws_heldHoldS.f {β : Type} (k : Nat) (a0 : List (List D)) (a1 : Int) (K : Int → Option β) : Option β :=
  match laws_heldHoldS.t k a0 a1 with
  | some z0 => K z0
  | none => none
noncomputable def laws_heldHoldS.as (a0 : List (List D)) (a1 : Int) : List A := [.d (.sl a0), .d (.int .i64 a1)]
noncomputable def laws_heldHoldS.kt {β : Type} (a0 : List (List D)) (a1 : Int) (K0 : List (List C) → List Out → Option β) : Int → Option β := fun z0 => K0 [[.d (.int .i64 z0)]] []
noncomputable def laws_heldHoldS.e (k : Nat) : Entry := { modes := [(.imm, 0), (.imm, 0)], rts := [3], al := false, run := fun {β} l K => match l with | [.d (.sl a0), .d (.int .i64 a1)] => laws_heldHoldS.f k a0 a1 (laws_heldHoldS.kt a0 a1 K) | _ => none }
noncomputable def laws_heldHoldS.E (k : Nat) : Env := fun g => bif g == 152 then some (laws_markText.e k) else none
noncomputable def laws_heldHoldS.h : Hints := ⟨fun n => bif n == 2 then ⟨[(0, .asis), (1, .dat false), (5, .asis)], []⟩ else ⟨[], []⟩, fun _ => none, false, []⟩
noncomputable def laws_heldHoldS.s0 (v0_0 : List (List D)) (v : Int × Int) : St :=
  match v with
  | (v0_1, v0_2) => ⟨[.d false (.sl v0_0), .d false (.int .i64 v0_1), .any, .any, .any, .d true (.int .i64 v0_2), .any, .any, .any, .any, .any, .any, .any, .any, .any, .any, .any, .any, .any, .any, .any, .any, .any, .any, .any, .any, .any, .any, .any, .any, .any, .any, .any, .any, .any, .any, .any, .any, .any, .any, .any, .any, .any, .any, .any, .any, .any, .any, .any, .any, .any, .any, .any, .any, .any, .any, .any, .any, .any], []⟩
noncomputable def laws_heldHoldS.b0 {β : Type} (k : Nat) : St → (Ex → St → Option β) → Option β := fun s K => den Try.prog (laws_heldHoldS.E k) laws_heldHoldS.h.H laws_heldHoldS.h.J k (codeAt [1, 0, 1, 0, 0] (codeOf Try.f127)) s K
noncomputable def laws_heldHoldS.c0 {β : Type} (k : Nat) (a0 : List (List D)) (a1 : Int) (K0 : List (List C) → List Out → Option β) : Ex → St → Option β := contAt Try.prog (laws_heldHoldS.E k) laws_heldHoldS.h k [1, 0, 1, 0] (codeOf Try.f127) (finDen Try.prog Try.f127 laws_heldHoldS.h (laws_heldHoldS.as a0 a1) K0)
theorem laws_heldHoldS.l0_eq {β : Type} (k : Nat) (a0 : List (List D)) (a1 : Int) (K0 : List (List C) → List Out → Option β) (v0_0 : List (List D)) : ∀ (kk : Nat) (v : Int × Int), loopDen (laws_heldHoldS.b0 k) (laws_heldHoldS.h.H 2) kk (laws_heldHoldS.s0 v0_0 v) (laws_heldHoldS.c0 k a0 a1 K0) = iter (laws_heldHoldS.l0 k v0_0 (laws_heldHoldS.kt a0 a1 K0)) kk v :=
  loop_eq (laws_heldHoldS.s0 v0_0) _ (fun L0 v => by obtain ⟨v0_1, v0_2⟩ := v; kernel_rfl)
noncomputable def laws_heldHoldS.m {β : Type} (k : Nat) (a0 : List (List D)) (a1 : Int) (K0 : List (List C) → List Out → Option β) (F : ((List (List D)) → (Int × Int) → Option β)) : Option β :=
  (F) a0 (a1, 0)
theorem laws_heldHoldS.f_eq {β : Type} (k : Nat) (a0 : List (List D)) (a1 : Int) (K0 : List (List C) → List Out → Option β) : funDen Try.prog (laws_heldHoldS.E k) laws_heldHoldS.h k Try.f127 (laws_heldHoldS.as a0 a1) K0 = laws_heldHoldS.g k a0 a1 (laws_heldHoldS.kt a0 a1 K0) := Eq.trans (b := (laws_heldHoldS.m k a0 a1 K0) (fun (v0_0 : List (List D)) (v : Int × Int) => loopDen (laws_heldHoldS.b0 k) (laws_heldHoldS.h.H 2) k (laws_heldHoldS.s0 v0_0 v) (laws_heldHoldS.c0 k a0 a1 K0))) (by kernel_rfl) (Eq.trans (congrArg (laws_heldHoldS.m k a0 a1 K0) (funext fun v0_0 => funext fun v => laws_heldHoldS.l0_eq k a0 a1 K0 v0_0 k v)) (by kernel_rfl))
noncomputable def laws_heldHoldS.dec (rs : List (List C)) (os : List Out) : Option (Int) := uncons rs fun c1 r2 => uncons c1 fun x3 l4 => cD x3 fun d5 => dInt .i64 d5 fun w0 => atEnd l4 <| atEnd r2 <| atEnd os (some w0)
theorem laws_heldHoldS.kt_dec (a0 : List (List D)) (a1 : Int) : laws_heldHoldS.kt a0 a1 laws_heldHoldS.dec = (fun z0 => some z0) := by kernel_rfl
theorem laws_heldHoldS.inj (a0 : List (List D)) (a1 : Int) {rs : List (List C)} {os : List Out} {z0 : Int} (h : laws_heldHoldS.dec rs os = some z0) (ho : OutShape (laws_heldHoldS.as a0 a1) os) : rs = [[.d (.int .i64 z0)]] ∧ os = [] := by
  unfold laws_heldHoldS.dec at h
  obtain ⟨c1, r2, rfl, h1⟩ := uncons_some h
  obtain ⟨x3, l4, rfl, h2⟩ := uncons_some h1
  obtain ⟨d5, rfl, h3⟩ := cD_some h2
  obtain ⟨w0, rfl, h4⟩ := dInt_some h3
  obtain ⟨rfl, h5⟩ := atEnd_some h4
  obtain ⟨rfl, h6⟩ := atEnd_some h5
  obtain ⟨rfl, h7⟩ := atEnd_some h6
  obtain rfl := Option.some.inj h7
  exact ⟨rfl, rfl⟩
theorem laws_heldHoldS.ok (k : Nat) : EntryOK Try.prog 127 (laws_heldHoldS.e k) := by
  refine entry_of mix tyok (fn := Try.f127) (c := codeOf Try.f127) Try.func127 (by kernel_rfl) (h := laws_heldHoldS.h) (k := k) (E := laws_heldHoldS.E k) (env_cons (laws_markText.ok k) env_nil) (by kernel_rfl) (by kernel_rfl) rfl (enter_of Try.func127 (by kernel_rfl)) ?_
  intro β l K r hr
  simp only [laws_heldHoldS.e] at hr
  split at hr
  case h_2 => cases hr
  unfold laws_heldHoldS.f at hr
  split at hr
  case h_2 => cases hr
  rename_i hz
  exact ⟨_, _, hr, _, laws_heldHoldS.dec, _, (laws_heldHoldS.f_eq k _ _ laws_heldHoldS.dec).trans (by rw [laws_heldHoldS.kt_dec]; exact hz), fun rs os h ho => laws_heldHoldS.inj _ _ h ho⟩
noncomputable def laws_heldHub.g {β : Type} (k : Nat) (a0_0 : Int) (a0_1 : Int) (a0_2 : Int) (a0_3 : List (List D)) (a0_4 : List (List D)) (a0_5 : List (List D)) (a0_6 : List (List D)) (a1 : Int) (K : Int → Option β) : Option β :=
  laws_heldJobS.f k a0_3 a1 (fun y1057 => bif (decide ((y1057 : Int) < 0)) then (K (-1)) else (laws_heldPostS.f k a0_4 y1057 (fun y1058 => bif (decide ((y1058 : Int) < 0)) then (K (-1)) else (laws_heldHoldS.f k a0_5 y1058 (fun y1059 => bif (decide ((y1059 : Int) < 0)) then (K (-1)) else (laws_heldStringS.f k a0_6 y1059 (fun y1060 => bif (decide ((y1060 : Int) < 0)) then (K (-1)) else (K y1060))))))))
noncomputable def laws_heldHub.t (k : Nat) (a0_0 : Int) (a0_1 : Int) (a0_2 : Int) (a0_3 : List (List D)) (a0_4 : List (List D)) (a0_5 : List (List D)) (a0_6 : List (List D)) (a1 : Int) : Option (Int) := laws_heldHub.g k a0_0 a0_1 a0_2 a0_3 a0_4 a0_5 a0_6 a1 (fun z0 => some z0)
noncomputable def laws_heldHub.f {β : Type} (k : Nat) (a0_0 : Int) (a0_1 : Int) (a0_2 : Int) (a0_3 : List (List D)) (a0_4 : List (List D)) (a0_5 : List (List D)) (a0_6 : List (List D)) (a1 : Int) (K : Int → Option β) : Option β :=
  match laws_heldHub.t k a0_0 a0_1 a0_2 a0_3 a0_4 a0_5 a0_6 a1 with
  | some z0 => K z0
  | none => none
noncomputable def laws_heldHub.as (a0_0 : Int) (a0_1 : Int) (a0_2 : Int) (a0_3 : List (List D)) (a0_4 : List (List D)) (a0_5 : List (List D)) (a0_6 : List (List D)) (a1 : Int) : List A := [.agg [.int .i64 a0_0, .int .i64 a0_1, .int .i64 a0_2, .sl a0_3, .sl a0_4, .sl a0_5, .sl a0_6], .d (.int .i64 a1)]
noncomputable def laws_heldHub.kt {β : Type} (a0_0 : Int) (a0_1 : Int) (a0_2 : Int) (a0_3 : List (List D)) (a0_4 : List (List D)) (a0_5 : List (List D)) (a0_6 : List (List D)) (a1 : Int) (K0 : List (List C) → List Out → Option β) : Int → Option β := fun z0 => K0 [[.d (.int .i64 z0)]] []
noncomputable def laws_heldHub.e (k : Nat) : Entry := { modes := [(.imm, 0), (.imm, 0)], rts := [3], al := false, run := fun {β} l K => match l with | [.agg [.int .i64 a0_0, .int .i64 a0_1, .int .i64 a0_2, .sl a0_3, .sl a0_4, .sl a0_5, .sl a0_6], .d (.int .i64 a1)] => laws_heldHub.f k a0_0 a0_1 a0_2 a0_3 a0_4 a0_5 a0_6 a1 (laws_heldHub.kt a0_0 a0_1 a0_2 a0_3 a0_4 a0_5 a0_6 a1 K) | _ => none }
noncomputable def laws_heldHub.E (k : Nat) : Env := fun g => bif g == 125 then some (laws_heldJobS.e k) else bif g == 126 then some (laws_heldPostS.e k) else bif g == 127 then some (laws_heldHoldS.e k) else bif g == 128 then some (laws_heldStringS.e k) else none
noncomputable def laws_heldHub.h : Hints := ⟨fun n => ⟨[], []⟩, fun _ => none, false, []⟩
theorem laws_heldHub.f_eq {β : Type} (k : Nat) (a0_0 : Int) (a0_1 : Int) (a0_2 : Int) (a0_3 : List (List D)) (a0_4 : List (List D)) (a0_5 : List (List D)) (a0_6 : List (List D)) (a1 : Int) (K0 : List (List C) → List Out → Option β) : funDen Try.prog (laws_heldHub.E k) laws_heldHub.h k Try.f59 (laws_heldHub.as a0_0 a0_1 a0_2 a0_3 a0_4 a0_5 a0_6 a1) K0 = laws_heldHub.g k a0_0 a0_1 a0_2 a0_3 a0_4 a0_5 a0_6 a1 (laws_heldHub.kt a0_0 a0_1 a0_2 a0_3 a0_4 a0_5 a0_6 a1 K0) := by kernel_rfl
noncomputable def laws_heldHub.dec (rs : List (List C)) (os : List Out) : Option (Int) := uncons rs fun c1 r2 => uncons c1 fun x3 l4 => cD x3 fun d5 => dInt .i64 d5 fun w0 => atEnd l4 <| atEnd r2 <| atEnd os (some w0)
theorem laws_heldHub.kt_dec (a0_0 : Int) (a0_1 : Int) (a0_2 : Int) (a0_3 : List (List D)) (a0_4 : List (List D)) (a0_5 : List (List D)) (a0_6 : List (List D)) (a1 : Int) : laws_heldHub.kt a0_0 a0_1 a0_2 a0_3 a0_4 a0_5 a0_6 a1 laws_heldHub.dec = (fun z0 => some z0) := by kernel_rfl
theorem laws_heldHub.inj (a0_0 : Int) (a0_1 : Int) (a0_2 : Int) (a0_3 : List (List D)) (a0_4 : List (List D)) (a0_5 : List (List D)) (a0_6 : List (List D)) (a1 : Int) {rs : List (List C)} {os : List Out} {z0 : Int} (h : laws_heldHub.dec rs os = some z0) (ho : OutShape (laws_heldHub.as a0_0 a0_1 a0_2 a0_3 a0_4 a0_5 a0_6 a1) os) : rs = [[.d (.int .i64 z0)]] ∧ os = [] := by
  unfold laws_heldHub.dec at h
  obtain ⟨c1, r2, rfl, h1⟩ := uncons_some h
  obtain ⟨x3, l4, rfl, h2⟩ := uncons_some h1
  obtain ⟨d5, rfl, h3⟩ := cD_some h2
  obtain ⟨w0, rfl, h4⟩ := dInt_some h3
  obtain ⟨rfl, h5⟩ := atEnd_some h4
  obtain ⟨rfl, h6⟩ := atEnd_some h5
  obtain ⟨rfl, h7⟩ := atEnd_some h6
  obtain rfl := Option.some.inj h7
  exact ⟨rfl, rfl⟩
theorem laws_heldHub.ok (k : Nat) : EntryOK Try.prog 59 (laws_heldHub.e k) := by
  refine entry_of mix tyok (fn := Try.f59) (c := codeOf Try.f59) Try.func59 (by kernel_rfl) (h := laws_heldHub.h) (k := k) (E := laws_heldHub.E k) (env_cons (laws_heldJobS.ok k) (env_cons (laws_heldPostS.ok k) (env_cons (laws_heldHoldS.ok k) (env_cons (laws_heldStringS.ok k) env_nil)))) (by kernel_rfl) (by kernel_rfl) rfl (enter_of Try.func59 (by kernel_rfl)) ?_
  intro β l K r hr
  simp only [laws_heldHub.e] at hr
  split at hr
  case h_2 => cases hr
  unfold laws_heldHub.f at hr
  split at hr
  case h_2 => cases hr
  rename_i hz
  exact ⟨_, _, hr, _, laws_heldHub.dec, _, (laws_heldHub.f_eq k _ _ _ _ _ _ _ _ laws_heldHub.dec).trans (by rw [laws_heldHub.kt_dec]; exact hz), fun rs os h ho => laws_heldHub.inj _ _ _ _ _ _ _ _ h ho⟩
noncomputable def laws_FnExactHubNew.g {β : Type} (k : Nat) (K : Bool → Option β) : Option β :=
  spec_HubNew.f k (fun y1 y2 y3 y4 y5 y6 y7 => impl_HubNew.f k (fun y8 y9 y10 y11 y12 y13 y14 => laws_eqHub.f k y8 y9 y10 (C.immRows y11) (C.immRows y12) (C.immRows y13) (C.immRows y14) y1 y2 y3 (C.immRows y4) (C.immRows y5) (C.immRows y6) (C.immRows y7) (fun y195 => bif (!y195) then (K false) else (laws_markHub.f k y8 y9 y10 y11 y12 y13 y14 1 (fun y196 y197 y198 y199 y200 => guardP (y197.length = y11.length) (guardP (y198.length = y12.length) (guardP (y199.length = y13.length) (guardP (y200.length = y14.length) (laws_heldHub.f k y8 y9 y10 (C.immRows y197) (C.immRows y198) (C.immRows y199) (C.immRows y200) 1 (fun y1061 => bif (decide ((y1061 : Int) < 0)) then (K false) else (bif ((y1061 : Int) != y196) then (K false) else (impl_HubNew.f k (fun y1062 y1063 y1064 y1065 y1066 y1067 y1068 => laws_eqHub.f k y1062 y1063 y1064 (C.immRows y1065) (C.immRows y1066) (C.immRows y1067) (C.immRows y1068) y1 y2 y3 (C.immRows y4) (C.immRows y5) (C.immRows y6) (C.immRows y7) (fun y1069 => bif (!y1069) then (K false) else (laws_heldHub.f k y8 y9 y10 (C.immRows y197) (C.immRows y198) (C.immRows y199) (C.immRows y200) 1 (fun y1070 => bif (decide ((y1070 : Int) < 0)) then (K false) else (bif ((y1070 : Int) != y196) then (K false) else (K true))))))))))))))))))
noncomputable def laws_FnExactHubNew.t (k : Nat) : Option (Bool) := laws_FnExactHubNew.g k (fun z0 => some z0)
noncomputable def laws_FnExactHubNew.f {β : Type} (k : Nat) (K : Bool → Option β) : Option β :=
  match laws_FnExactHubNew.t k with
  | some z0 => K z0
  | none => none
noncomputable def laws_FnExactHubNew.as : List A := []
noncomputable def laws_FnExactHubNew.kt {β : Type} (K0 : List (List C) → List Out → Option β) : Bool → Option β := fun z0 => K0 [[.d (.bool z0)]] []
noncomputable def laws_FnExactHubNew.e (k : Nat) : Entry := { modes := [], rts := [4], al := false, run := fun {β} l K => match l with | [] => laws_FnExactHubNew.f k (laws_FnExactHubNew.kt K) | _ => none }
noncomputable def laws_FnExactHubNew.E (k : Nat) : Env := fun g => bif g == 55 then some (spec_HubNew.e k) else bif g == 56 then some (impl_HubNew.e k) else bif g == 57 then some (laws_eqHub.e k) else bif g == 58 then some (laws_markHub.e k) else bif g == 59 then some (laws_heldHub.e k) else none
noncomputable def laws_FnExactHubNew.h : Hints := ⟨fun n => ⟨[], []⟩, fun _ => none, false, []⟩
theorem laws_FnExactHubNew.f_eq {β : Type} (k : Nat) (K0 : List (List C) → List Out → Option β) : funDen Try.prog (laws_FnExactHubNew.E k) laws_FnExactHubNew.h k Try.f13 (laws_FnExactHubNew.as) K0 = laws_FnExactHubNew.g k (laws_FnExactHubNew.kt K0) := by kernel_rfl
noncomputable def laws_FnExactHubNew.dec (rs : List (List C)) (os : List Out) : Option (Bool) := uncons rs fun c1 r2 => uncons c1 fun x3 l4 => cD x3 fun d5 => dBool d5 fun w0 => atEnd l4 <| atEnd r2 <| atEnd os (some w0)
theorem laws_FnExactHubNew.kt_dec : laws_FnExactHubNew.kt laws_FnExactHubNew.dec = (fun z0 => some z0) := by kernel_rfl
theorem laws_FnExactHubNew.inj {rs : List (List C)} {os : List Out} {z0 : Bool} (h : laws_FnExactHubNew.dec rs os = some z0) (ho : OutShape (laws_FnExactHubNew.as) os) : rs = [[.d (.bool z0)]] ∧ os = [] := by
  unfold laws_FnExactHubNew.dec at h
  obtain ⟨c1, r2, rfl, h1⟩ := uncons_some h
  obtain ⟨x3, l4, rfl, h2⟩ := uncons_some h1
  obtain ⟨d5, rfl, h3⟩ := cD_some h2
  obtain ⟨w0, rfl, h4⟩ := dBool_some h3
  obtain ⟨rfl, h5⟩ := atEnd_some h4
  obtain ⟨rfl, h6⟩ := atEnd_some h5
  obtain ⟨rfl, h7⟩ := atEnd_some h6
  obtain rfl := Option.some.inj h7
  exact ⟨rfl, rfl⟩
theorem laws_FnExactHubNew.ok (k : Nat) : EntryOK Try.prog 13 (laws_FnExactHubNew.e k) := by
  refine entry_of mix tyok (fn := Try.f13) (c := codeOf Try.f13) Try.func13 (by kernel_rfl) (h := laws_FnExactHubNew.h) (k := k) (E := laws_FnExactHubNew.E k) (env_cons (spec_HubNew.ok k) (env_cons (impl_HubNew.ok k) (env_cons (laws_eqHub.ok k) (env_cons (laws_markHub.ok k) (env_cons (laws_heldHub.ok k) env_nil))))) (by kernel_rfl) (by kernel_rfl) rfl (enter_of Try.func13 (by kernel_rfl)) ?_
  intro β l K r hr
  simp only [laws_FnExactHubNew.e] at hr
  split at hr
  case h_2 => cases hr
  unfold laws_FnExactHubNew.f at hr
  split at hr
  case h_2 => cases hr
  rename_i hz
  exact ⟨_, _, hr, _, laws_FnExactHubNew.dec, _, (laws_FnExactHubNew.f_eq k laws_FnExactHubNew.dec).trans (by rw [laws_FnExactHubNew.kt_dec]; exact hz), fun rs os h ho => laws_FnExactHubNew.inj h ho⟩
end Go.Proofs.Ytnlhhhkeigjnoaa
