/- Printed: the functions that FnExactPlans reaches, read by the evaluator, each with its contract. -/
import Derived.Test.YtppfencdbabmeaaGreatXEPlans0
import Derived.KernelRfl
set_option linter.unusedVariables false
set_option linter.unusedSimpArgs false
namespace Go.Proofs.YtppfencdbabmeaaGreat
open Go Go.T Go.Proofs
set_option maxRecDepth 100000 in
noncomputable def Ya.l5 {β : Type} (k : Nat) (r_slices_symMergeCmpFunc_int__impl_quotas_1 : LC → Int → Int → Int → Int → LD → LD → Int → (LC → Option β) → Option β) (v5_0 v5_1 bQ v5_3 : Int) (v5_4 v5_5 : LD) (v5_6 bM bI v5_11 : Int) (bK : LC) (K : LC → Option β) (L5 : (Int × Int) → Option β) (v : Int × Int) : Option β :=
 match v with
 | (bG, v5_10) => bif (decide ((bG : Int) < v5_10)) then (let J2 := (Int.fdiv (IntKind.wrap .u64 (IntKind.wrap .i64 (bG + v5_10))) (2 ^ (min (1 : Int).toNat 64))); let J1 := (IntKind.wrap .i64 J2); let J0 := (IntKind.wrap .i64 (v5_11 - J1)); Zc ((0 : Int) ≤ 1) (Zc ((0 : Int) ≤ J0 ∧ J0 < (bK.length : Int)) (ZaG bK (Int.toNat J0) fun c197 => Zas (c197.drop 0) fun c198 r => cD c198 fun d => dInt .i64 d fun x201 => Zc ((0 : Int) ≤ J1 ∧ J1 < (bK.length : Int)) (ZaG bK (Int.toNat J1) fun c202 => Zas (c202.drop 0) fun c203 r => cD c203 fun d => dInt .i64 d fun x206 => YaA.f k x201 x206 v5_3 v5_4 v5_5 v5_6 (fun y207 => bif (!(decide ((y207 : Int) < 0))) then (L5 (IntKind.wrap .i64 (J1 + 1), v5_10)) else (L5 (bG, IntKind.wrap .i64 J2))))))) else (bif (decide ((bG : Int) < v5_1)) then (bif (decide ((v5_1 : Int) < (IntKind.wrap .i64 (bI - bG)))) then (Yl.f k bK bG v5_1 (IntKind.wrap .i64 (bI - bG)) v5_3 v5_4 v5_5 v5_6 (fun y208 => Zc (y208.length = bK.length) (bif (decide ((v5_0 : Int) < bG)) then (bif (decide ((bG : Int) < bM)) then (r_slices_symMergeCmpFunc_int__impl_quotas_1 y208 v5_0 bG bM v5_3 v5_4 v5_5 v5_6 (fun y209 => Zc (y209.length = y208.length) (bif (decide ((bM : Int) < (IntKind.wrap .i64 (bI - bG)))) then (bif (decide (((IntKind.wrap .i64 (bI - bG)) : Int) < bQ)) then (r_slices_symMergeCmpFunc_int__impl_quotas_1 y209 bM (IntKind.wrap .i64 (bI - bG)) bQ v5_3 v5_4 v5_5 v5_6 (fun y210 => Zc (y210.length = y209.length) (K y210))) else (K y209)) else (K y209)))) else (bif (decide ((bM : Int) < (IntKind.wrap .i64 (bI - bG)))) then (bif (decide (((IntKind.wrap .i64 (bI - bG)) : Int) < bQ)) then (r_slices_symMergeCmpFunc_int__impl_quotas_1 y208 bM (IntKind.wrap .i64 (bI - bG)) bQ v5_3 v5_4 v5_5 v5_6 (fun y211 => Zc (y211.length = y208.length) (K y211))) else (K y208)) else (K y208))) else (bif (decide ((bM : Int) < (IntKind.wrap .i64 (bI - bG)))) then (bif (decide (((IntKind.wrap .i64 (bI - bG)) : Int) < bQ)) then (r_slices_symMergeCmpFunc_int__impl_quotas_1 y208 bM (IntKind.wrap .i64 (bI - bG)) bQ v5_3 v5_4 v5_5 v5_6 (fun y212 => Zc (y212.length = y208.length) (K y212))) else (K y208)) else (K y208))))) else (bif (decide ((v5_0 : Int) < bG)) then (bif (decide ((bG : Int) < bM)) then (r_slices_symMergeCmpFunc_int__impl_quotas_1 bK v5_0 bG bM v5_3 v5_4 v5_5 v5_6 (fun y213 => Zc (y213.length = bK.length) (bif (decide ((bM : Int) < (IntKind.wrap .i64 (bI - bG)))) then (bif (decide (((IntKind.wrap .i64 (bI - bG)) : Int) < bQ)) then (r_slices_symMergeCmpFunc_int__impl_quotas_1 y213 bM (IntKind.wrap .i64 (bI - bG)) bQ v5_3 v5_4 v5_5 v5_6 (fun y214 => Zc (y214.length = y213.length) (K y214))) else (K y213)) else (K y213)))) else (bif (decide ((bM : Int) < (IntKind.wrap .i64 (bI - bG)))) then (bif (decide (((IntKind.wrap .i64 (bI - bG)) : Int) < bQ)) then (r_slices_symMergeCmpFunc_int__impl_quotas_1 bK bM (IntKind.wrap .i64 (bI - bG)) bQ v5_3 v5_4 v5_5 v5_6 (fun y215 => Zc (y215.length = bK.length) (K y215))) else (K bK)) else (K bK))) else (bif (decide ((bM : Int) < (IntKind.wrap .i64 (bI - bG)))) then (bif (decide (((IntKind.wrap .i64 (bI - bG)) : Int) < bQ)) then (r_slices_symMergeCmpFunc_int__impl_quotas_1 bK bM (IntKind.wrap .i64 (bI - bG)) bQ v5_3 v5_4 v5_5 v5_6 (fun y216 => Zc (y216.length = bK.length) (K y216))) else (K bK)) else (K bK)))) else (bif (decide ((v5_0 : Int) < bG)) then (bif (decide ((bG : Int) < bM)) then (r_slices_symMergeCmpFunc_int__impl_quotas_1 bK v5_0 bG bM v5_3 v5_4 v5_5 v5_6 (fun y217 => Zc (y217.length = bK.length) (bif (decide ((bM : Int) < (IntKind.wrap .i64 (bI - bG)))) then (bif (decide (((IntKind.wrap .i64 (bI - bG)) : Int) < bQ)) then (r_slices_symMergeCmpFunc_int__impl_quotas_1 y217 bM (IntKind.wrap .i64 (bI - bG)) bQ v5_3 v5_4 v5_5 v5_6 (fun y218 => Zc (y218.length = y217.length) (K y218))) else (K y217)) else (K y217)))) else (bif (decide ((bM : Int) < (IntKind.wrap .i64 (bI - bG)))) then (bif (decide (((IntKind.wrap .i64 (bI - bG)) : Int) < bQ)) then (r_slices_symMergeCmpFunc_int__impl_quotas_1 bK bM (IntKind.wrap .i64 (bI - bG)) bQ v5_3 v5_4 v5_5 v5_6 (fun y219 => Zc (y219.length = bK.length) (K y219))) else (K bK)) else (K bK))) else (bif (decide ((bM : Int) < (IntKind.wrap .i64 (bI - bG)))) then (bif (decide (((IntKind.wrap .i64 (bI - bG)) : Int) < bQ)) then (r_slices_symMergeCmpFunc_int__impl_quotas_1 bK bM (IntKind.wrap .i64 (bI - bG)) bQ v5_3 v5_4 v5_5 v5_6 (fun y220 => Zc (y220.length = bK.length) (K y220))) else (K bK)) else (K bK))))
set_option maxRecDepth 100000 in
noncomputable def Ya.l4 {β : Type} (k : Nat) (r_slices_symMergeCmpFunc_int__impl_quotas_1 : LC → Int → Int → Int → Int → LD → LD → Int → (LC → Option β) → Option β) (v4_0 v4_1 bR v4_3 : Int) (v4_4 v4_5 : LD) (v4_6 bN bJ v4_11 : Int) (bL : LC) (K : LC → Option β) (L4 : (Int × Int) → Option β) (v : Int × Int) : Option β :=
 match v with
 | (bH, v4_10) => bif (decide ((bH : Int) < v4_10)) then (let J2 := (Int.fdiv (IntKind.wrap .u64 (IntKind.wrap .i64 (bH + v4_10))) (2 ^ (min (1 : Int).toNat 64))); let J1 := (IntKind.wrap .i64 J2); let J0 := (IntKind.wrap .i64 (v4_11 - J1)); Zc ((0 : Int) ≤ 1) (Zc ((0 : Int) ≤ J0 ∧ J0 < (bL.length : Int)) (ZaG bL (Int.toNat J0) fun c149 => Zas (c149.drop 0) fun c150 r => cD c150 fun d => dInt .i64 d fun x153 => Zc ((0 : Int) ≤ J1 ∧ J1 < (bL.length : Int)) (ZaG bL (Int.toNat J1) fun c154 => Zas (c154.drop 0) fun c155 r => cD c155 fun d => dInt .i64 d fun x158 => YaA.f k x153 x158 v4_3 v4_4 v4_5 v4_6 (fun y159 => bif (!(decide ((y159 : Int) < 0))) then (L4 (IntKind.wrap .i64 (J1 + 1), v4_10)) else (L4 (bH, IntKind.wrap .i64 J2))))))) else (bif (decide ((bH : Int) < v4_1)) then (bif (decide ((v4_1 : Int) < (IntKind.wrap .i64 (bJ - bH)))) then (Yl.f k bL bH v4_1 (IntKind.wrap .i64 (bJ - bH)) v4_3 v4_4 v4_5 v4_6 (fun y160 => Zc (y160.length = bL.length) (bif (decide ((v4_0 : Int) < bH)) then (bif (decide ((bH : Int) < bN)) then (r_slices_symMergeCmpFunc_int__impl_quotas_1 y160 v4_0 bH bN v4_3 v4_4 v4_5 v4_6 (fun y161 => Zc (y161.length = y160.length) (bif (decide ((bN : Int) < (IntKind.wrap .i64 (bJ - bH)))) then (bif (decide (((IntKind.wrap .i64 (bJ - bH)) : Int) < bR)) then (r_slices_symMergeCmpFunc_int__impl_quotas_1 y161 bN (IntKind.wrap .i64 (bJ - bH)) bR v4_3 v4_4 v4_5 v4_6 (fun y162 => Zc (y162.length = y161.length) (K y162))) else (K y161)) else (K y161)))) else (bif (decide ((bN : Int) < (IntKind.wrap .i64 (bJ - bH)))) then (bif (decide (((IntKind.wrap .i64 (bJ - bH)) : Int) < bR)) then (r_slices_symMergeCmpFunc_int__impl_quotas_1 y160 bN (IntKind.wrap .i64 (bJ - bH)) bR v4_3 v4_4 v4_5 v4_6 (fun y163 => Zc (y163.length = y160.length) (K y163))) else (K y160)) else (K y160))) else (bif (decide ((bN : Int) < (IntKind.wrap .i64 (bJ - bH)))) then (bif (decide (((IntKind.wrap .i64 (bJ - bH)) : Int) < bR)) then (r_slices_symMergeCmpFunc_int__impl_quotas_1 y160 bN (IntKind.wrap .i64 (bJ - bH)) bR v4_3 v4_4 v4_5 v4_6 (fun y164 => Zc (y164.length = y160.length) (K y164))) else (K y160)) else (K y160))))) else (bif (decide ((v4_0 : Int) < bH)) then (bif (decide ((bH : Int) < bN)) then (r_slices_symMergeCmpFunc_int__impl_quotas_1 bL v4_0 bH bN v4_3 v4_4 v4_5 v4_6 (fun y165 => Zc (y165.length = bL.length) (bif (decide ((bN : Int) < (IntKind.wrap .i64 (bJ - bH)))) then (bif (decide (((IntKind.wrap .i64 (bJ - bH)) : Int) < bR)) then (r_slices_symMergeCmpFunc_int__impl_quotas_1 y165 bN (IntKind.wrap .i64 (bJ - bH)) bR v4_3 v4_4 v4_5 v4_6 (fun y166 => Zc (y166.length = y165.length) (K y166))) else (K y165)) else (K y165)))) else (bif (decide ((bN : Int) < (IntKind.wrap .i64 (bJ - bH)))) then (bif (decide (((IntKind.wrap .i64 (bJ - bH)) : Int) < bR)) then (r_slices_symMergeCmpFunc_int__impl_quotas_1 bL bN (IntKind.wrap .i64 (bJ - bH)) bR v4_3 v4_4 v4_5 v4_6 (fun y167 => Zc (y167.length = bL.length) (K y167))) else (K bL)) else (K bL))) else (bif (decide ((bN : Int) < (IntKind.wrap .i64 (bJ - bH)))) then (bif (decide (((IntKind.wrap .i64 (bJ - bH)) : Int) < bR)) then (r_slices_symMergeCmpFunc_int__impl_quotas_1 bL bN (IntKind.wrap .i64 (bJ - bH)) bR v4_3 v4_4 v4_5 v4_6 (fun y168 => Zc (y168.length = bL.length) (K y168))) else (K bL)) else (K bL)))) else (bif (decide ((v4_0 : Int) < bH)) then (bif (decide ((bH : Int) < bN)) then (r_slices_symMergeCmpFunc_int__impl_quotas_1 bL v4_0 bH bN v4_3 v4_4 v4_5 v4_6 (fun y169 => Zc (y169.length = bL.length) (bif (decide ((bN : Int) < (IntKind.wrap .i64 (bJ - bH)))) then (bif (decide (((IntKind.wrap .i64 (bJ - bH)) : Int) < bR)) then (r_slices_symMergeCmpFunc_int__impl_quotas_1 y169 bN (IntKind.wrap .i64 (bJ - bH)) bR v4_3 v4_4 v4_5 v4_6 (fun y170 => Zc (y170.length = y169.length) (K y170))) else (K y169)) else (K y169)))) else (bif (decide ((bN : Int) < (IntKind.wrap .i64 (bJ - bH)))) then (bif (decide (((IntKind.wrap .i64 (bJ - bH)) : Int) < bR)) then (r_slices_symMergeCmpFunc_int__impl_quotas_1 bL bN (IntKind.wrap .i64 (bJ - bH)) bR v4_3 v4_4 v4_5 v4_6 (fun y171 => Zc (y171.length = bL.length) (K y171))) else (K bL)) else (K bL))) else (bif (decide ((bN : Int) < (IntKind.wrap .i64 (bJ - bH)))) then (bif (decide (((IntKind.wrap .i64 (bJ - bH)) : Int) < bR)) then (r_slices_symMergeCmpFunc_int__impl_quotas_1 bL bN (IntKind.wrap .i64 (bJ - bH)) bR v4_3 v4_4 v4_5 v4_6 (fun y172 => Zc (y172.length = bL.length) (K y172))) else (K bL)) else (K bL))))
noncomputable def Ya.l3 {β : Type} (k : Nat) (r_slices_symMergeCmpFunc_int__impl_quotas_1 : LC → Int → Int → Int → Int → LD → LD → Int → (LC → Option β) → Option β) (bT : Int) (K : LC → Option β) (L3 : (Int × LC) → Option β) (v : Int × LC) : Option β :=
 match v with
 | (v3_1, v3_2) => bif (decide ((v3_1 : Int) > bT)) then (Zc ((0 : Int) ≤ (IntKind.wrap .i64 (v3_1 - 1)) ∧ (IntKind.wrap .i64 (v3_1 - 1)) < (v3_2.length : Int)) (ZaG v3_2 (Int.toNat (IntKind.wrap .i64 (v3_1 - 1))) fun c115 => Zas (c115.drop 0) fun c116 r => cD c116 fun d => dInt .i64 d fun x119 => Zc ((0 : Int) ≤ v3_1 ∧ v3_1 < (v3_2.length : Int)) (ZaG v3_2 (Int.toNat v3_1) fun c120 => Zas (c120.drop 0) fun c121 r => cD c121 fun d => dInt .i64 d fun x124 => let J0 := (v3_2.modify (Int.toNat v3_1) fun c => Zq c 0 [.d (.int .i64 x119)]); Zc ((0 : Int) ≤ v3_1 ∧ v3_1 < (v3_2.length : Int)) (Zc (Int.toNat v3_1 < v3_2.length) (Zc ((0 : Int) ≤ (IntKind.wrap .i64 (v3_1 - 1)) ∧ (IntKind.wrap .i64 (v3_1 - 1)) < (J0.length : Int)) (Zc (Int.toNat (IntKind.wrap .i64 (v3_1 - 1)) < J0.length) (L3 (IntKind.wrap .i64 (v3_1 - 1), J0.modify (Int.toNat (IntKind.wrap .i64 (v3_1 - 1))) fun c => Zq c 0 [.d (.int .i64 x124)])))))))) else (K v3_2)
noncomputable def Ya.m2 {β : Type} (k : Nat) (r_slices_symMergeCmpFunc_int__impl_quotas_1 : LC → Int → Int → Int → Int → LD → LD → Int → (LC → Option β) → Option β) (aQ aL : Int) (aP aK : LD) (aM : Int) (bD : LC) (K : LC → Option β) (L2 : (Int × Int) → Option β) (v : Int × Int) (F : (Int → (Int × LC) → Option β)) : Option β :=
 match v with
 | (aT, aV) => bif (decide ((aT : Int) < aV)) then (Zc ((0 : Int) ≤ 1) (Zc ((0 : Int) ≤ aQ ∧ aQ < (bD.length : Int)) (ZaG bD (Int.toNat aQ) fun c94 => Zas (c94.drop 0) fun c95 r96 => cD c95 fun d97 => dInt .i64 d97 fun x98 => let J1 := (Int.fdiv (IntKind.wrap .u64 (IntKind.wrap .i64 (aT + aV))) (2 ^ (min (1 : Int).toNat 64))); let J0 := (IntKind.wrap .i64 J1); Zc ((0 : Int) ≤ J0 ∧ J0 < (bD.length : Int)) (ZaG bD (Int.toNat J0) fun c99 => Zas (c99.drop 0) fun c100 r101 => cD c100 fun d102 => dInt .i64 d102 fun x103 => YaA.f k x98 x103 aL aP aK aM (fun y104 => bif (!(decide ((y104 : Int) < 0))) then (L2 (IntKind.wrap .i64 (J0 + 1), aV)) else (L2 (aT, IntKind.wrap .i64 J1))))))) else (F aT (aQ, bD))
noncomputable def Ya.l2 {β : Type} (k : Nat) (r_slices_symMergeCmpFunc_int__impl_quotas_1 : LC → Int → Int → Int → Int → LD → LD → Int → (LC → Option β) → Option β) (aQ aL : Int) (aP aK : LD) (aM : Int) (bD : LC) (K : LC → Option β) (L2 : (Int × Int) → Option β) (v : Int × Int) : Option β := Ya.m2 k r_slices_symMergeCmpFunc_int__impl_quotas_1 aQ aL aP aK aM bD K L2 v (fun bT => Zo (Ya.l3 k r_slices_symMergeCmpFunc_int__impl_quotas_1 bT K) k)
noncomputable def Ya.l1 {β : Type} (k : Nat) (r_slices_symMergeCmpFunc_int__impl_quotas_1 : LC → Int → Int → Int → Int → LD → LD → Int → (LC → Option β) → Option β) (aU : Int) (K : LC → Option β) (L1 : (Int × LC) → Option β) (v : Int × LC) : Option β :=
 match v with
 | (aN, aR) => bif (decide ((aN : Int) < (IntKind.wrap .i64 (aU - 1)))) then (Zc ((0 : Int) ≤ (IntKind.wrap .i64 (aN + 1)) ∧ (IntKind.wrap .i64 (aN + 1)) < (aR.length : Int)) (ZaG aR (Int.toNat (IntKind.wrap .i64 (aN + 1))) fun c53 => Zas (c53.drop 0) fun c54 r => cD c54 fun d => dInt .i64 d fun x57 => Zc ((0 : Int) ≤ aN ∧ aN < (aR.length : Int)) (ZaG aR (Int.toNat aN) fun c58 => Zas (c58.drop 0) fun c59 r => cD c59 fun d => dInt .i64 d fun x62 => let J0 := (aR.modify (Int.toNat aN) fun c => Zq c 0 [.d (.int .i64 x57)]); Zc ((0 : Int) ≤ aN ∧ aN < (aR.length : Int)) (Zc (Int.toNat aN < aR.length) (Zc ((0 : Int) ≤ (IntKind.wrap .i64 (aN + 1)) ∧ (IntKind.wrap .i64 (aN + 1)) < (J0.length : Int)) (Zc (Int.toNat (IntKind.wrap .i64 (aN + 1)) < J0.length) (L1 (IntKind.wrap .i64 (aN + 1), J0.modify (Int.toNat (IntKind.wrap .i64 (aN + 1))) fun c => Zq c 0 [.d (.int .i64 x62)])))))))) else (K aR)
noncomputable def Ya.m0 {β : Type} (k : Nat) (r_slices_symMergeCmpFunc_int__impl_quotas_1 : LC → Int → Int → Int → Int → LD → LD → Int → (LC → Option β) → Option β) (aA aB : Int) (aE aH : LD) (aI : Int) (aY : LC) (K : LC → Option β) (L0 : (Int × Int) → Option β) (v : Int × Int) (F : (Int → (Int × LC) → Option β)) : Option β :=
 match v with
 | (aJ, aO) => bif (decide ((aJ : Int) < aO)) then (let J1 := (Int.fdiv (IntKind.wrap .u64 (IntKind.wrap .i64 (aJ + aO))) (2 ^ (min (1 : Int).toNat 64))); let J0 := (IntKind.wrap .i64 J1); Zc ((0 : Int) ≤ 1) (Zc ((0 : Int) ≤ J0 ∧ J0 < (aY.length : Int)) (ZaG aY (Int.toNat J0) fun c32 => Zas (c32.drop 0) fun c33 r34 => cD c33 fun d35 => dInt .i64 d35 fun x36 => Zc ((0 : Int) ≤ aA ∧ aA < (aY.length : Int)) (ZaG aY (Int.toNat aA) fun c37 => Zas (c37.drop 0) fun c38 r39 => cD c38 fun d40 => dInt .i64 d40 fun x41 => YaA.f k x36 x41 aB aE aH aI (fun y42 => bif (decide ((y42 : Int) < 0)) then (L0 (IntKind.wrap .i64 (J0 + 1), aO)) else (L0 (aJ, IntKind.wrap .i64 J1))))))) else (F aJ (aA, aY))
noncomputable def Ya.l0 {β : Type} (k : Nat) (r_slices_symMergeCmpFunc_int__impl_quotas_1 : LC → Int → Int → Int → Int → LD → LD → Int → (LC → Option β) → Option β) (aA aB : Int) (aE aH : LD) (aI : Int) (aY : LC) (K : LC → Option β) (L0 : (Int × Int) → Option β) (v : Int × Int) : Option β := Ya.m0 k r_slices_symMergeCmpFunc_int__impl_quotas_1 aA aB aE aH aI aY K L0 v (fun aU => Zo (Ya.l1 k r_slices_symMergeCmpFunc_int__impl_quotas_1 aU K) k)
noncomputable def Ya.m {β : Type} (k : Nat) (r_slices_symMergeCmpFunc_int__impl_quotas_1 : LC → Int → Int → Int → Int → LD → LD → Int → (LC → Option β) → Option β) (a0 : LC) (a1 a2 a3 a4_0_0 : Int) (a4_1_0 a4_2_0 : LD) (a4_3_0 : Int) (K : LC → Option β) (F : (Int → Int → LD → LD → Int → LC → (Int × Int) → Option β) × (Int → Int → LD → LD → Int → LC → (Int × Int) → Option β) × (Int → Int → Int → Int → LD → LD → Int → Int → Int → Int → LC → (Int × Int) → Option β) × (Int → Int → Int → Int → LD → LD → Int → Int → Int → Int → LC → (Int × Int) → Option β)) : Option β :=
 bif (((IntKind.wrap .i64 (a2 - a1)) : Int) == 1) then (F.1 a1 a4_0_0 a4_1_0 a4_2_0 a4_3_0 a0 (a2, a3)) else (bif (((IntKind.wrap .i64 (a3 - a2)) : Int) == 1) then (F.2.1 a2 a4_0_0 a4_1_0 a4_2_0 a4_3_0 a0 (a1, a2)) else (let J3 := (Int.fdiv (IntKind.wrap .u64 (IntKind.wrap .i64 (a1 + a3))) (2 ^ (min (1 : Int).toNat 64))); let J2 := (IntKind.wrap .i64 J3); let J1 := (IntKind.wrap .i64 (J2 + a2)); let J0 := (IntKind.wrap .i64 (J1 - 1)); Zc ((0 : Int) ≤ 1) (bif (decide ((a2 : Int) > J2)) then (F.2.2.1 a1 a2 a3 a4_0_0 a4_1_0 a4_2_0 a4_3_0 J2 J1 J0 a0 (IntKind.wrap .i64 (J1 - a3), IntKind.wrap .i64 J3)) else (F.2.2.2 a1 a2 a3 a4_0_0 a4_1_0 a4_2_0 a4_3_0 J2 J1 J0 a0 (a1, a2)))))
noncomputable def Ya.body {β : Type} (k : Nat) (r_slices_symMergeCmpFunc_int__impl_quotas_1 : LC → Int → Int → Int → Int → LD → LD → Int → (LC → Option β) → Option β) (a0 : LC) (a1 a2 a3 a4_0_0 : Int) (a4_1_0 a4_2_0 : LD) (a4_3_0 : Int) (K : LC → Option β) : Option β := Ya.m k r_slices_symMergeCmpFunc_int__impl_quotas_1 a0 a1 a2 a3 a4_0_0 a4_1_0 a4_2_0 a4_3_0 K ((fun aA aB aE aH aI aY => Zo (Ya.l0 k r_slices_symMergeCmpFunc_int__impl_quotas_1 aA aB aE aH aI aY K) k), (fun aQ aL aP aK aM bD => Zo (Ya.l2 k r_slices_symMergeCmpFunc_int__impl_quotas_1 aQ aL aP aK aM bD K) k), (fun v4_0 v4_1 bR v4_3 v4_4 v4_5 v4_6 bN bJ v4_11 bL => Zo (Ya.l4 k r_slices_symMergeCmpFunc_int__impl_quotas_1 v4_0 v4_1 bR v4_3 v4_4 v4_5 v4_6 bN bJ v4_11 bL K) k), (fun v5_0 v5_1 bQ v5_3 v5_4 v5_5 v5_6 bM bI v5_11 bK => Zo (Ya.l5 k r_slices_symMergeCmpFunc_int__impl_quotas_1 v5_0 v5_1 bQ v5_3 v5_4 v5_5 v5_6 bM bI v5_11 bK K) k))
noncomputable def Ya.w {β : Type} (r : LC → Int → Int → Int → Int → LD → LD → Int → Option (LC)) (a0 : LC) (a1 a2 a3 a4_0_0 : Int) (a4_1_0 a4_2_0 : LD) (a4_3_0 : Int) (K : LC → Option β) : Option β := bd1 (r a0 a1 a2 a3 a4_0_0 a4_1_0 a4_2_0 a4_3_0) K
noncomputable def Ya.all : Nat → (LC → Int → Int → Int → Int → LD → LD → Int → Option (LC))
 | 0 => (fun _ _ _ _ _ _ _ _ => none)
 | k + 1 => (fun r => (fun a0 a1 a2 a3 a4_0_0 a4_1_0 a4_2_0 a4_3_0 => Ya.body k (Ya.w r) a0 a1 a2 a3 a4_0_0 a4_1_0 a4_2_0 a4_3_0 (fun z0 => some z0))) (Ya.all k)
noncomputable def Ya.t (k : Nat) (a0 : LC) (a1 a2 a3 a4_0_0 : Int) (a4_1_0 a4_2_0 : LD) (a4_3_0 : Int) : Option (LC) := (Ya.all k) a0 a1 a2 a3 a4_0_0 a4_1_0 a4_2_0 a4_3_0
noncomputable def Ya.f {β : Type} (k : Nat) (a0 : LC) (a1 a2 a3 a4_0_0 : Int) (a4_1_0 a4_2_0 : LD) (a4_3_0 : Int) (K : LC → Option β) : Option β := Ya.w (Ya.t k) a0 a1 a2 a3 a4_0_0 a4_1_0 a4_2_0 a4_3_0 K
noncomputable def Ya.g {β : Type} (k : Nat) (a0 : LC) (a1 a2 a3 a4_0_0 : Int) (a4_1_0 a4_2_0 : LD) (a4_3_0 : Int) (K : LC → Option β) : Option β := Ya.body k (Ya.f k) a0 a1 a2 a3 a4_0_0 a4_1_0 a4_2_0 a4_3_0 K
theorem Ya.t_succ (k : Nat) (a0 : LC) (a1 a2 a3 a4_0_0 : Int) (a4_1_0 a4_2_0 : LD) (a4_3_0 : Int) : Ya.t (k + 1) a0 a1 a2 a3 a4_0_0 a4_1_0 a4_2_0 a4_3_0 = Ya.g k a0 a1 a2 a3 a4_0_0 a4_1_0 a4_2_0 a4_3_0 (fun z0 => some z0) := rfl
noncomputable def Ya.e (k : Nat) : Zk := ent [.own false 28 [.o], .d .n, .d .n, .d .n, .fn 220 [[.n], [.l], [.l], [.n]]] [] [.o] [] false (Ya.t k)
noncomputable def Ya.p (k : Nat) : Pro := ⟨Tryz.prog, [(220, YaA.e k), (285, Yl.e k), (276, Ya.e k)], Zn [(3, kp [0, 1, 4] [(10, .dat false), (11, .dat false)]), (9, kp [0, 10] [(13, .dat false)]), (15, kp [0, 2, 4] [(14, .dat false), (15, .dat false)]), (21, kp [0, 14] [(17, .dat false)]), (33, kp [0, 1, 2, 3, 4, 18, 19, 22] [(20, .dat false), (21, .dat false)])] false [], k⟩
noncomputable def Ya.d (k : Nat) (a0 : LC) (a1 a2 a3 a4_0_0 : Int) (a4_1_0 a4_2_0 : LD) (a4_3_0 : Int) : Ex → St → Option (LC) := (Ya.p k).fin Tryz.f276 [.own false [.own a0], .d (.int .i64 a1), .d (.int .i64 a2), .d (.int .i64 a3), .d (.fn 220 [[.int .i64 a4_0_0], [.sl a4_1_0], [.sl a4_2_0], [.int .i64 a4_3_0]])] [] [.o]
noncomputable def Ya.s0 (aA aB : Int) (aE aH : LD) (aI : Int) (aY : LC) (v : Int × Int) : St :=
 match v with
 | (aJ, aO) => ZX 220 [(0, .row 0), (1, .d false (.int .i64 aA)), (4, .d false (.fn 220 [[.int .i64 aB], [.sl aE], [.sl aH], [.int .i64 aI]])), (10, .d false (.int .i64 aJ)), (11, .d false (.int .i64 aO))] [.row (some 0) false 28 aY]
noncomputable def Ya.r0 (k : Nat) (a0 : LC) (a1 a2 a3 a4_0_0 : Int) (a4_1_0 a4_2_0 : LD) (a4_3_0 aA aB : Int) (aE aH : LD) (aI : Int) (aY : LC) (n : Nat) (v : Int × Int) : Option (LC) := (Ya.p k).lp (Zt Tryz.f276) 3 [0, 1, 0, 1, 1, 0, 0] (Ya.d k a0 a1 a2 a3 a4_0_0 a4_1_0 a4_2_0 a4_3_0) n (Ya.s0 aA aB aE aH aI aY v)
noncomputable def Ya.s1 (aU : Int) (v : Int × LC) : St :=
 match v with
 | (aN, aR) => ZX 220 [(0, .row 0), (10, .d false (.int .i64 aU)), (13, .d false (.int .i64 aN))] [.row (some 0) false 28 aR]
noncomputable def Ya.r1 (k : Nat) (a0 : LC) (a1 a2 a3 a4_0_0 : Int) (a4_1_0 a4_2_0 : LD) (a4_3_0 aU : Int) (n : Nat) (v : Int × LC) : Option (LC) := (Ya.p k).lp (Zt Tryz.f276) 9 [0, 1, 0, 1, 1, 1, 0, 1, 0] (Ya.d k a0 a1 a2 a3 a4_0_0 a4_1_0 a4_2_0 a4_3_0) n (Ya.s1 aU v)
noncomputable def Ya.s2 (aQ aL : Int) (aP aK : LD) (aM : Int) (bD : LC) (v : Int × Int) : St :=
 match v with
 | (aT, aV) => ZX 220 [(0, .row 0), (2, .d false (.int .i64 aQ)), (4, .d false (.fn 220 [[.int .i64 aL], [.sl aP], [.sl aK], [.int .i64 aM]])), (14, .d false (.int .i64 aT)), (15, .d false (.int .i64 aV))] [.row (some 0) false 28 bD]
noncomputable def Ya.r2 (k : Nat) (a0 : LC) (a1 a2 a3 a4_0_0 : Int) (a4_1_0 a4_2_0 : LD) (a4_3_0 aQ aL : Int) (aP aK : LD) (aM : Int) (bD : LC) (n : Nat) (v : Int × Int) : Option (LC) := (Ya.p k).lp (Zt Tryz.f276) 15 [1, 0, 1, 0, 1, 1, 0, 0] (Ya.d k a0 a1 a2 a3 a4_0_0 a4_1_0 a4_2_0 a4_3_0) n (Ya.s2 aQ aL aP aK aM bD v)
noncomputable def Ya.s3 (bT : Int) (v : Int × LC) : St :=
 match v with
 | (v3_1, v3_2) => ZX 220 [(0, .row 0), (14, .d false (.int .i64 bT)), (17, .d false (.int .i64 v3_1))] [.row (some 0) false 28 v3_2]
noncomputable def Ya.r3 (k : Nat) (a0 : LC) (a1 a2 a3 a4_0_0 : Int) (a4_1_0 a4_2_0 : LD) (a4_3_0 bT : Int) (n : Nat) (v : Int × LC) : Option (LC) := (Ya.p k).lp (Zt Tryz.f276) 21 [1, 0, 1, 0, 1, 1, 1, 0, 1, 0] (Ya.d k a0 a1 a2 a3 a4_0_0 a4_1_0 a4_2_0 a4_3_0) n (Ya.s3 bT v)
noncomputable def Ya.s4 (v4_0 v4_1 bR v4_3 : Int) (v4_4 v4_5 : LD) (v4_6 bN bJ v4_11 : Int) (bL : LC) (v : Int × Int) : St :=
 match v with
 | (bH, v4_10) => ZX 220 [(0, .row 0), (1, .d false (.int .i64 v4_0)), (2, .d false (.int .i64 v4_1)), (3, .d false (.int .i64 bR)), (4, .d false (.fn 220 [[.int .i64 v4_3], [.sl v4_4], [.sl v4_5], [.int .i64 v4_6]])), (18, .d true (.int .i64 bN)), (19, .d true (.int .i64 bJ)), (20, .d false (.int .i64 bH)), (21, .d false (.int .i64 v4_10)), (22, .d true (.int .i64 v4_11))] [.row (some 0) false 28 bL]
noncomputable def Ya.r4 (k : Nat) (a0 : LC) (a1 a2 a3 a4_0_0 : Int) (a4_1_0 a4_2_0 : LD) (a4_3_0 v4_0 v4_1 bR v4_3 : Int) (v4_4 v4_5 : LD) (v4_6 bN bJ v4_11 : Int) (bL : LC) (n : Nat) (v : Int × Int) : Option (LC) := (Ya.p k).lp (Zt Tryz.f276) 33 [1, 1, 1, 1, 1, 1, 1, 0, 0] (Ya.d k a0 a1 a2 a3 a4_0_0 a4_1_0 a4_2_0 a4_3_0) n (Ya.s4 v4_0 v4_1 bR v4_3 v4_4 v4_5 v4_6 bN bJ v4_11 bL v)
noncomputable def Ya.s5 (v5_0 v5_1 bQ v5_3 : Int) (v5_4 v5_5 : LD) (v5_6 bM bI v5_11 : Int) (bK : LC) (v : Int × Int) : St :=
 match v with
 | (bG, v5_10) => ZX 220 [(0, .row 0), (1, .d false (.int .i64 v5_0)), (2, .d false (.int .i64 v5_1)), (3, .d false (.int .i64 bQ)), (4, .d false (.fn 220 [[.int .i64 v5_3], [.sl v5_4], [.sl v5_5], [.int .i64 v5_6]])), (18, .d true (.int .i64 bM)), (19, .d true (.int .i64 bI)), (20, .d false (.int .i64 bG)), (21, .d false (.int .i64 v5_10)), (22, .d true (.int .i64 v5_11))] [.row (some 0) false 28 bK]
noncomputable def Ya.r5 (k : Nat) (a0 : LC) (a1 a2 a3 a4_0_0 : Int) (a4_1_0 a4_2_0 : LD) (a4_3_0 v5_0 v5_1 bQ v5_3 : Int) (v5_4 v5_5 : LD) (v5_6 bM bI v5_11 : Int) (bK : LC) (n : Nat) (v : Int × Int) : Option (LC) := (Ya.p k).lp (Zt Tryz.f276) 33 [1, 1, 1, 1, 1, 1, 1, 0, 0] (Ya.d k a0 a1 a2 a3 a4_0_0 a4_1_0 a4_2_0 a4_3_0) n (Ya.s5 v5_0 v5_1 bQ v5_3 v5_4 v5_5 v5_6 bM bI v5_11 bK v)
theorem Ya.l5_eq (k : Nat) (a0 : LC) (a1 a2 a3 a4_0_0 : Int) (a4_1_0 a4_2_0 : LD) (a4_3_0 v5_0 v5_1 bQ v5_3 : Int) (v5_4 v5_5 : LD) (v5_6 bM bI v5_11 : Int) (bK : LC) : ∀ n v, Ya.r5 k a0 a1 a2 a3 a4_0_0 a4_1_0 a4_2_0 a4_3_0 v5_0 v5_1 bQ v5_3 v5_4 v5_5 v5_6 bM bI v5_11 bK n v = Zo (Ya.l5 k (Ya.f k) v5_0 v5_1 bQ v5_3 v5_4 v5_5 v5_6 bM bI v5_11 bK (fun z0 => some z0)) n v :=
 Zm (Ya.s5 v5_0 v5_1 bQ v5_3 v5_4 v5_5 v5_6 bM bI v5_11 bK) _ fun L5 v => by obtain ⟨bG, v5_10⟩ := v; kernel_rfl
theorem Ya.l4_eq (k : Nat) (a0 : LC) (a1 a2 a3 a4_0_0 : Int) (a4_1_0 a4_2_0 : LD) (a4_3_0 v4_0 v4_1 bR v4_3 : Int) (v4_4 v4_5 : LD) (v4_6 bN bJ v4_11 : Int) (bL : LC) : ∀ n v, Ya.r4 k a0 a1 a2 a3 a4_0_0 a4_1_0 a4_2_0 a4_3_0 v4_0 v4_1 bR v4_3 v4_4 v4_5 v4_6 bN bJ v4_11 bL n v = Zo (Ya.l4 k (Ya.f k) v4_0 v4_1 bR v4_3 v4_4 v4_5 v4_6 bN bJ v4_11 bL (fun z0 => some z0)) n v :=
 Zm (Ya.s4 v4_0 v4_1 bR v4_3 v4_4 v4_5 v4_6 bN bJ v4_11 bL) _ fun L4 v => by obtain ⟨bH, v4_10⟩ := v; kernel_rfl
theorem Ya.l3_eq (k : Nat) (a0 : LC) (a1 a2 a3 a4_0_0 : Int) (a4_1_0 a4_2_0 : LD) (a4_3_0 bT : Int) : ∀ n v, Ya.r3 k a0 a1 a2 a3 a4_0_0 a4_1_0 a4_2_0 a4_3_0 bT n v = Zo (Ya.l3 k (Ya.f k) bT (fun z0 => some z0)) n v :=
 Zm (Ya.s3 bT) _ fun L3 v => by obtain ⟨v3_1, v3_2⟩ := v; kernel_rfl
theorem Ya.l2_eq (k : Nat) (a0 : LC) (a1 a2 a3 a4_0_0 : Int) (a4_1_0 a4_2_0 : LD) (a4_3_0 aQ aL : Int) (aP aK : LD) (aM : Int) (bD : LC) : ∀ n v, Ya.r2 k a0 a1 a2 a3 a4_0_0 a4_1_0 a4_2_0 a4_3_0 aQ aL aP aK aM bD n v = Zo (Ya.l2 k (Ya.f k) aQ aL aP aK aM bD (fun z0 => some z0)) n v :=
 Zm (Ya.s2 aQ aL aP aK aM bD) _ fun L2 v => by obtain ⟨aT, aV⟩ := v; exact Eq.trans (b := Ya.m2 k (Ya.f k) aQ aL aP aK aM bD (fun z0 => some z0) (fun v => L2 (Ya.s2 aQ aL aP aK aM bD v)) (aT, aV) (fun bT => Ya.r3 k a0 a1 a2 a3 a4_0_0 a4_1_0 a4_2_0 a4_3_0 bT k)) (by kernel_rfl) (congrArg (Ya.m2 k (Ya.f k) aQ aL aP aK aM bD (fun z0 => some z0) (fun v => L2 (Ya.s2 aQ aL aP aK aM bD v)) (aT, aV)) (funext fun bT => funext fun v => Ya.l3_eq k a0 a1 a2 a3 a4_0_0 a4_1_0 a4_2_0 a4_3_0 bT k v))
theorem Ya.l1_eq (k : Nat) (a0 : LC) (a1 a2 a3 a4_0_0 : Int) (a4_1_0 a4_2_0 : LD) (a4_3_0 aU : Int) : ∀ n v, Ya.r1 k a0 a1 a2 a3 a4_0_0 a4_1_0 a4_2_0 a4_3_0 aU n v = Zo (Ya.l1 k (Ya.f k) aU (fun z0 => some z0)) n v :=
 Zm (Ya.s1 aU) _ fun L1 v => by obtain ⟨aN, aR⟩ := v; kernel_rfl
theorem Ya.l0_eq (k : Nat) (a0 : LC) (a1 a2 a3 a4_0_0 : Int) (a4_1_0 a4_2_0 : LD) (a4_3_0 aA aB : Int) (aE aH : LD) (aI : Int) (aY : LC) : ∀ n v, Ya.r0 k a0 a1 a2 a3 a4_0_0 a4_1_0 a4_2_0 a4_3_0 aA aB aE aH aI aY n v = Zo (Ya.l0 k (Ya.f k) aA aB aE aH aI aY (fun z0 => some z0)) n v :=
 Zm (Ya.s0 aA aB aE aH aI aY) _ fun L0 v => by obtain ⟨aJ, aO⟩ := v; exact Eq.trans (b := Ya.m0 k (Ya.f k) aA aB aE aH aI aY (fun z0 => some z0) (fun v => L0 (Ya.s0 aA aB aE aH aI aY v)) (aJ, aO) (fun aU => Ya.r1 k a0 a1 a2 a3 a4_0_0 a4_1_0 a4_2_0 a4_3_0 aU k)) (by kernel_rfl) (congrArg (Ya.m0 k (Ya.f k) aA aB aE aH aI aY (fun z0 => some z0) (fun v => L0 (Ya.s0 aA aB aE aH aI aY v)) (aJ, aO)) (funext fun aU => funext fun v => Ya.l1_eq k a0 a1 a2 a3 a4_0_0 a4_1_0 a4_2_0 a4_3_0 aU k v))
theorem Ya.oks (k : Nat) : Za Tryz.prog 276 (Ya.e k) := by
 induction k with
 | zero => exact Z7 Tryz.func276 (by kernel_rfl) (fun _ _ _ _ _ _ _ _ => rfl)
 | succ k ih => exact Zh (Ya.p k) mix tyok Tryz.func276 ⟨YaA.ok k, Yl.ok k, ih⟩ (by kernel_rfl) (fun a0 a1 a2 a3 a4_0_0 a4_1_0 a4_2_0 a4_3_0 => Eq.trans (b := Ya.m k (Ya.f k) a0 a1 a2 a3 a4_0_0 a4_1_0 a4_2_0 a4_3_0 (fun z0 => some z0) ((fun aA aB aE aH aI aY => Ya.r0 k a0 a1 a2 a3 a4_0_0 a4_1_0 a4_2_0 a4_3_0 aA aB aE aH aI aY k), (fun aQ aL aP aK aM bD => Ya.r2 k a0 a1 a2 a3 a4_0_0 a4_1_0 a4_2_0 a4_3_0 aQ aL aP aK aM bD k), (fun v4_0 v4_1 bR v4_3 v4_4 v4_5 v4_6 bN bJ v4_11 bL => Ya.r4 k a0 a1 a2 a3 a4_0_0 a4_1_0 a4_2_0 a4_3_0 v4_0 v4_1 bR v4_3 v4_4 v4_5 v4_6 bN bJ v4_11 bL k), (fun v5_0 v5_1 bQ v5_3 v5_4 v5_5 v5_6 bM bI v5_11 bK => Ya.r5 k a0 a1 a2 a3 a4_0_0 a4_1_0 a4_2_0 a4_3_0 v5_0 v5_1 bQ v5_3 v5_4 v5_5 v5_6 bM bI v5_11 bK k))) (by kernel_rfl) ((congrArg (Ya.m k (Ya.f k) a0 a1 a2 a3 a4_0_0 a4_1_0 a4_2_0 a4_3_0 (fun z0 => some z0)) (pair_eq (funext fun aA => funext fun aB => funext fun aE => funext fun aH => funext fun aI => funext fun aY => funext fun v => Ya.l0_eq k a0 a1 a2 a3 a4_0_0 a4_1_0 a4_2_0 a4_3_0 aA aB aE aH aI aY k v) (pair_eq (funext fun aQ => funext fun aL => funext fun aP => funext fun aK => funext fun aM => funext fun bD => funext fun v => Ya.l2_eq k a0 a1 a2 a3 a4_0_0 a4_1_0 a4_2_0 a4_3_0 aQ aL aP aK aM bD k v) (pair_eq (funext fun v4_0 => funext fun v4_1 => funext fun bR => funext fun v4_3 => funext fun v4_4 => funext fun v4_5 => funext fun v4_6 => funext fun bN => funext fun bJ => funext fun v4_11 => funext fun bL => funext fun v => Ya.l4_eq k a0 a1 a2 a3 a4_0_0 a4_1_0 a4_2_0 a4_3_0 v4_0 v4_1 bR v4_3 v4_4 v4_5 v4_6 bN bJ v4_11 bL k v) (funext fun v5_0 => funext fun v5_1 => funext fun bQ => funext fun v5_3 => funext fun v5_4 => funext fun v5_5 => funext fun v5_6 => funext fun bM => funext fun bI => funext fun v5_11 => funext fun bK => funext fun v => Ya.l5_eq k a0 a1 a2 a3 a4_0_0 a4_1_0 a4_2_0 a4_3_0 v5_0 v5_1 bQ v5_3 v5_4 v5_5 v5_6 bM bI v5_11 bK k v))))).trans (Ya.t_succ k a0 a1 a2 a3 a4_0_0 a4_1_0 a4_2_0 a4_3_0).symm))
theorem Ya.ok (k : Nat) : Za Tryz.prog 276 (Ya.e k) := (Ya.oks k)
noncomputable def Yb.l2 {β : Type} (k : Nat) (aQ aL : Int) (aP aK : LD) (aM aT : Int) (L1 : (Int × Int × LD × LD × Int × Int × LC) → Option β) (K : LC → Option β) (L2 : (Int × Int × LC) → Option β) (v : Int × Int × LC) : Option β :=
 match v with
 | (aV, bD, bO) => bif (decide ((bD : Int) ≤ aQ)) then (Ya.f k bO aV (IntKind.wrap .i64 (aV + aT)) bD aL aP aK aM (fun y237 => Zc (y237.length = bO.length) (L2 (bD, IntKind.wrap .i64 (bD + (IntKind.wrap .i64 (2 * aT))), y237)))) else (bif (decide (((IntKind.wrap .i64 (aV + aT)) : Int) < aQ)) then (Ya.f k bO aV (IntKind.wrap .i64 (aV + aT)) aQ aL aP aK aM (fun y238 => Zc (y238.length = bO.length) (L1 (aQ, aL, aP, aK, aM, IntKind.wrap .i64 (aT * 2), y238)))) else (L1 (aQ, aL, aP, aK, aM, IntKind.wrap .i64 (aT * 2), bO)))
noncomputable def Yb.m1 {β : Type} (k : Nat) (K : LC → Option β) (L1 : (Int × Int × LD × LD × Int × Int × LC) → Option β) (v : Int × Int × LD × LD × Int × Int × LC) (F : (Int → Int → LD → LD → Int → Int → (Int × Int × LC) → Option β)) : Option β :=
 match v with
 | (aU, aN, aR, bB, aS, bA, bC) => bif (decide ((bA : Int) < aU)) then (F aU aN aR bB aS bA (0, IntKind.wrap .i64 (2 * bA), bC)) else (K bC)
noncomputable def Yb.l1 {β : Type} (k : Nat) (K : LC → Option β) (L1 : (Int × Int × LD × LD × Int × Int × LC) → Option β) (v : Int × Int × LD × LD × Int × Int × LC) : Option β := Yb.m1 k K L1 v (fun aQ aL aP aK aM aT => Zo (Yb.l2 k aQ aL aP aK aM aT L1 K) k)
noncomputable def Yb.m0 {β : Type} (k : Nat) (aA aB : Int) (aE aH : LD) (aI aJ : Int) (K : LC → Option β) (L0 : (Int × Int × LC) → Option β) (v : Int × Int × LC) (F : ((Int × Int × LD × LD × Int × Int × LC) → Option β)) : Option β :=
 match v with
 | (aO, aY, bP) => bif (decide ((aY : Int) ≤ aA)) then (Yc.f k bP aO aY aB aE aH aI (fun y229 => Zc (y229.length = bP.length) (L0 (aY, IntKind.wrap .i64 (aY + aJ), y229)))) else (Yc.f k bP aO aA aB aE aH aI (fun y230 => Zc (y230.length = bP.length) (F (aA, aB, aE, aH, aI, aJ, y230))))
noncomputable def Yb.l0 {β : Type} (k : Nat) (aA aB : Int) (aE aH : LD) (aI aJ : Int) (K : LC → Option β) (L0 : (Int × Int × LC) → Option β) (v : Int × Int × LC) : Option β := Yb.m0 k aA aB aE aH aI aJ K L0 v (Zo (Yb.l1 k K) k)
noncomputable def Yb.m {β : Type} (k : Nat) (a0 : LC) (a1 a2_0_0 : Int) (a2_1_0 a2_2_0 : LD) (a2_3_0 : Int) (K : LC → Option β) (F : (Int → Int → LD → LD → Int → Int → (Int × Int × LC) → Option β)) : Option β :=
 F a1 a2_0_0 a2_1_0 a2_2_0 a2_3_0 20 (0, 20, a0)
noncomputable def Yb.g {β : Type} (k : Nat) (a0 : LC) (a1 a2_0_0 : Int) (a2_1_0 a2_2_0 : LD) (a2_3_0 : Int) (K : LC → Option β) : Option β :=
 Zo (Yb.l0 k a1 a2_0_0 a2_1_0 a2_2_0 a2_3_0 20 K) k (0, 20, a0)
noncomputable def Yb.t (k : Nat) (a0 : LC) (a1 a2_0_0 : Int) (a2_1_0 a2_2_0 : LD) (a2_3_0 : Int) : Option (LC) := Yb.g k a0 a1 a2_0_0 a2_1_0 a2_2_0 a2_3_0 (fun z0 => some z0)
noncomputable def Yb.f {β : Type} (k : Nat) (a0 : LC) (a1 a2_0_0 : Int) (a2_1_0 a2_2_0 : LD) (a2_3_0 : Int) (K : LC → Option β) : Option β := bd1 (Yb.t k a0 a1 a2_0_0 a2_1_0 a2_2_0 a2_3_0) K
noncomputable def Yb.e (k : Nat) : Zk := ent [.own false 28 [.o], .d .n, .fn 220 [[.n], [.l], [.l], [.n]]] [] [.o] [] false (Yb.t k)
noncomputable def Yb.p (k : Nat) : Pro := ⟨Tryz.prog, [(275, Yc.e k), (276, Ya.e k)], Zn [(2, kp [0, 1, 2, 6, 7, 8]), (7, kp [0, 1, 2, 6]), (9, kp [0, 1, 2, 6, 7, 8])] false [], k⟩
noncomputable def Yb.d (k : Nat) (a0 : LC) (a1 a2_0_0 : Int) (a2_1_0 a2_2_0 : LD) (a2_3_0 : Int) : Ex → St → Option (LC) := (Yb.p k).fin Tryz.f254 [.own false [.own a0], .d (.int .i64 a1), .d (.fn 220 [[.int .i64 a2_0_0], [.sl a2_1_0], [.sl a2_2_0], [.int .i64 a2_3_0]])] [] [.o]
noncomputable def Yb.s0 (aA aB : Int) (aE aH : LD) (aI aJ : Int) (v : Int × Int × LC) : St :=
 match v with
 | (aO, aY, bP) => ZX 63 [(0, .row 0), (1, .d false (.int .i64 aA)), (2, .d false (.fn 220 [[.int .i64 aB], [.sl aE], [.sl aH], [.int .i64 aI]])), (6, .d true (.int .i64 aJ)), (7, .d true (.int .i64 aO)), (8, .d true (.int .i64 aY))] [.row (some 0) false 28 bP]
noncomputable def Yb.r0 (k : Nat) (a0 : LC) (a1 a2_0_0 : Int) (a2_1_0 a2_2_0 : LD) (a2_3_0 aA aB : Int) (aE aH : LD) (aI aJ : Int) (n : Nat) (v : Int × Int × LC) : Option (LC) := (Yb.p k).lp (Zt Tryz.f254) 2 [1, 1, 0, 0] (Yb.d k a0 a1 a2_0_0 a2_1_0 a2_2_0 a2_3_0) n (Yb.s0 aA aB aE aH aI aJ v)
noncomputable def Yb.s1 (v : Int × Int × LD × LD × Int × Int × LC) : St :=
 match v with
 | (aU, aN, aR, bB, aS, bA, bC) => ZX 63 [(0, .row 0), (1, .d false (.int .i64 aU)), (2, .d false (.fn 220 [[.int .i64 aN], [.sl aR], [.sl bB], [.int .i64 aS]])), (6, .d true (.int .i64 bA))] [.row (some 0) false 28 bC]
noncomputable def Yb.c1 (k : Nat) (a0 : LC) (a1 a2_0_0 : Int) (a2_1_0 a2_2_0 : LD) (a2_3_0 : Int) : Ex → St → Option (LC) := (Yb.p k).ct (Zt Tryz.f254) [1, 1, 1, 1, 0] (Yb.d k a0 a1 a2_0_0 a2_1_0 a2_2_0 a2_3_0)
noncomputable def Yb.r1 (k : Nat) (a0 : LC) (a1 a2_0_0 : Int) (a2_1_0 a2_2_0 : LD) (a2_3_0 : Int) (n : Nat) (v : Int × Int × LD × LD × Int × Int × LC) : Option (LC) := (Yb.p k).lp (Zt Tryz.f254) 7 [1, 1, 1, 1, 0] (Yb.d k a0 a1 a2_0_0 a2_1_0 a2_2_0 a2_3_0) n (Yb.s1 v)
noncomputable def Yb.s2 (aQ aL : Int) (aP aK : LD) (aM aT : Int) (v : Int × Int × LC) : St :=
 match v with
 | (aV, bD, bO) => ZX 63 [(0, .row 0), (1, .d false (.int .i64 aQ)), (2, .d false (.fn 220 [[.int .i64 aL], [.sl aP], [.sl aK], [.int .i64 aM]])), (6, .d true (.int .i64 aT)), (7, .d true (.int .i64 aV)), (8, .d true (.int .i64 bD))] [.row (some 0) false 28 bO]
noncomputable def Yb.r2 (k : Nat) (a0 : LC) (a1 a2_0_0 : Int) (a2_1_0 a2_2_0 : LD) (a2_3_0 aQ aL : Int) (aP aK : LD) (aM aT : Int) (L1 : St → Option (LC)) (n : Nat) (v : Int × Int × LC) : Option (LC) := (Yb.p k).lp (codeAt [1, 1, 1, 1, 0, 0] (Zt Tryz.f254)) 9 [1, 0, 1, 0, 0] (backK ((Yb.p k).h.H 7) L1 (Yb.c1 k a0 a1 a2_0_0 a2_1_0 a2_2_0 a2_3_0)) n (Yb.s2 aQ aL aP aK aM aT v)
theorem Yb.l2_eq (k : Nat) (a0 : LC) (a1 a2_0_0 : Int) (a2_1_0 a2_2_0 : LD) (a2_3_0 aQ aL : Int) (aP aK : LD) (aM aT : Int) (L1 : St → Option (LC)) : ∀ n v, Yb.r2 k a0 a1 a2_0_0 a2_1_0 a2_2_0 a2_3_0 aQ aL aP aK aM aT L1 n v = Zo (Yb.l2 k aQ aL aP aK aM aT (fun v => L1 (Yb.s1 v)) (fun z0 => some z0)) n v :=
 Zm (Yb.s2 aQ aL aP aK aM aT) _ fun L2 v => by obtain ⟨aV, bD, bO⟩ := v; kernel_rfl
theorem Yb.l1_eq (k : Nat) (a0 : LC) (a1 a2_0_0 : Int) (a2_1_0 a2_2_0 : LD) (a2_3_0 : Int) : ∀ n v, Yb.r1 k a0 a1 a2_0_0 a2_1_0 a2_2_0 a2_3_0 n v = Zo (Yb.l1 k (fun z0 => some z0)) n v :=
 Zm (Yb.s1) _ fun L1 v => by obtain ⟨aU, aN, aR, bB, aS, bA, bC⟩ := v; exact Eq.trans (b := Yb.m1 k (fun z0 => some z0) (fun v => L1 (Yb.s1 v)) (aU, aN, aR, bB, aS, bA, bC) (fun aQ aL aP aK aM aT => Yb.r2 k a0 a1 a2_0_0 a2_1_0 a2_2_0 a2_3_0 aQ aL aP aK aM aT L1 k)) (by kernel_rfl) (congrArg (Yb.m1 k (fun z0 => some z0) (fun v => L1 (Yb.s1 v)) (aU, aN, aR, bB, aS, bA, bC)) (funext fun aQ => funext fun aL => funext fun aP => funext fun aK => funext fun aM => funext fun aT => funext fun v => Yb.l2_eq k a0 a1 a2_0_0 a2_1_0 a2_2_0 a2_3_0 aQ aL aP aK aM aT L1 k v))
theorem Yb.l0_eq (k : Nat) (a0 : LC) (a1 a2_0_0 : Int) (a2_1_0 a2_2_0 : LD) (a2_3_0 aA aB : Int) (aE aH : LD) (aI aJ : Int) : ∀ n v, Yb.r0 k a0 a1 a2_0_0 a2_1_0 a2_2_0 a2_3_0 aA aB aE aH aI aJ n v = Zo (Yb.l0 k aA aB aE aH aI aJ (fun z0 => some z0)) n v :=
 Zm (Yb.s0 aA aB aE aH aI aJ) _ fun L0 v => by obtain ⟨aO, aY, bP⟩ := v; exact Eq.trans (b := Yb.m0 k aA aB aE aH aI aJ (fun z0 => some z0) (fun v => L0 (Yb.s0 aA aB aE aH aI aJ v)) (aO, aY, bP) (Yb.r1 k a0 a1 a2_0_0 a2_1_0 a2_2_0 a2_3_0 k)) (by kernel_rfl) (congrArg (Yb.m0 k aA aB aE aH aI aJ (fun z0 => some z0) (fun v => L0 (Yb.s0 aA aB aE aH aI aJ v)) (aO, aY, bP)) (funext fun v => Yb.l1_eq k a0 a1 a2_0_0 a2_1_0 a2_2_0 a2_3_0 k v))
theorem Yb.ok (k : Nat) : Za Tryz.prog 254 (Yb.e k) := Zh (Yb.p k) mix tyok Tryz.func254 ⟨Yc.ok k, Ya.ok k⟩ (by kernel_rfl) (fun a0 a1 a2_0_0 a2_1_0 a2_2_0 a2_3_0 => Eq.trans (b := Yb.m k a0 a1 a2_0_0 a2_1_0 a2_2_0 a2_3_0 (fun z0 => some z0) (fun aA aB aE aH aI aJ => Yb.r0 k a0 a1 a2_0_0 a2_1_0 a2_2_0 a2_3_0 aA aB aE aH aI aJ k)) (by kernel_rfl) (congrArg (Yb.m k a0 a1 a2_0_0 a2_1_0 a2_2_0 a2_3_0 (fun z0 => some z0)) (funext fun aA => funext fun aB => funext fun aE => funext fun aH => funext fun aI => funext fun aJ => funext fun v => Yb.l0_eq k a0 a1 a2_0_0 a2_1_0 a2_2_0 a2_3_0 aA aB aE aH aI aJ k v)))
noncomputable def Yy.g {β : Type} (k : Nat) (a0 : LC) (a1_0_0 : Int) (a1_1_0 a1_2_0 : LD) (a1_3_0 : Int) (K : LC → Option β) : Option β :=
 Yb.f k a0 (a0.length : Int) a1_0_0 a1_1_0 a1_2_0 a1_3_0 (fun y239 => Zc (y239.length = a0.length) (K y239))
noncomputable def Yy.t (k : Nat) (a0 : LC) (a1_0_0 : Int) (a1_1_0 a1_2_0 : LD) (a1_3_0 : Int) : Option (LC) := Yy.g k a0 a1_0_0 a1_1_0 a1_2_0 a1_3_0 (fun z0 => some z0)
noncomputable def Yy.f {β : Type} (k : Nat) (a0 : LC) (a1_0_0 : Int) (a1_1_0 a1_2_0 : LD) (a1_3_0 : Int) (K : LC → Option β) : Option β := bd1 (Yy.t k a0 a1_0_0 a1_1_0 a1_2_0 a1_3_0) K
noncomputable def Yy.e (k : Nat) : Zk := ent [.own false 28 [.o], .fn 220 [[.n], [.l], [.l], [.n]]] [] [.o] [] false (Yy.t k)
noncomputable def Yy.p (k : Nat) : Pro := ⟨Tryz.prog, [(254, Yb.e k)], Zn [] false [], k⟩
theorem Yy.ok (k : Nat) : Za Tryz.prog 219 (Yy.e k) := Zh (Yy.p k) mix tyok Tryz.func219 (Yb.ok k) (by kernel_rfl) (fun a0 a1_0_0 a1_1_0 a1_2_0 a1_3_0 => by show _ = _; kernel_rfl)
noncomputable def Yq.l3 {β : Type} (k : Nat) (bT : Int) (v3_3 : LC) (K : LC → Option β) (L3 : (Int × LC) → Option β) (v : Int × LC) : Option β :=
 match v with
 | (v3_1, v3_2) => bif (decide ((v3_1 : Int) < bT)) then (Zc ((0 : Int) ≤ v3_1 ∧ v3_1 < (v3_3.length : Int)) (ZaG v3_3 (Int.toNat v3_1) fun c442 => Zas (c442.drop 0) fun c443 r => cD c443 fun d => dInt .i64 d fun x446 => Zc ((0 : Int) ≤ x446 ∧ x446 < (v3_2.length : Int)) (ZaG v3_2 (Int.toNat x446) fun c447 => Zas (c447.drop 0) fun c448 r => cD c448 fun d => dInt .i64 d fun x451 => Zc ((0 : Int) ≤ x446 ∧ x446 < (v3_2.length : Int)) (Zc (Int.toNat x446 < v3_2.length) (L3 (IntKind.wrap .i64 (v3_1 + 1), v3_2.modify (Int.toNat x446) fun c => Zq c 0 [.d (.int .i64 (IntKind.wrap .i64 (x451 + 1)))])))))) else (K v3_2)
noncomputable def Yq.m2 {β : Type} (k : Nat) (aQ aL aK : Int) (aM aT : LD) (aV : Int) (bD : LC) (K : LC → Option β) (L2 : (Int × LC) → Option β) (v : Int × LC) (F : (Int → LC → (Int × LC) → Option β)) : Option β :=
 match v with
 | (aP, bO) => bif (decide ((aP : Int) < aL)) then (Zc (bO.length + ([[.d (.int .i64 aP)]] : LC).length ≤ ZN) (L2 (IntKind.wrap .i64 (aP + 1), bO ++ ([[.d (.int .i64 aP)]] : LC)))) else (Yy.f k bO aK aM aT aV (fun y431 => Zc (y431.length = bO.length ∧ flatC y431 = true) (Zc (0 ≤ (aQ : Int) ∧ (aQ : Int) ≤ (y431.length : Int)) (F ((y431.take (Int.toNat (aQ : Int))).length : Int) (y431.take (Int.toNat (aQ : Int))) (0, bD)))))
noncomputable def Yq.l2 {β : Type} (k : Nat) (aQ aL aK : Int) (aM aT : LD) (aV : Int) (bD : LC) (K : LC → Option β) (L2 : (Int × LC) → Option β) (v : Int × LC) : Option β := Yq.m2 k aQ aL aK aM aT aV bD K L2 v (fun bT v3_3 => Zo (Yq.l3 k bT v3_3 K) k)
noncomputable def Yq.m1 {β : Type} (k : Nat) (aN : LD) (aR aS : Int) (bA bC : LD) (bF : Int) (K : LC → Option β) (L1 : (Int × Int × LC) → Option β) (v : Int × Int × LC) (F : (Int → Int → Int → LD → LD → Int → LC → (Int × LC) → Option β)) : Option β :=
 match v with
 | (aU, bB, v1_8) => bif (decide ((bB : Int) < aR)) then (atR aN bB [.n] fun x401 => (atR bA x401 [.n] fun x405 => let J0 := (IntKind.wrap .i64 (Int.tdiv (IntKind.wrap .i64 (aS * x405)) bF)); (Zc ((bF : Int) ≠ 0) (Zc (v1_8.length + ([[.d (.int .i64 J0)]] : LC).length ≤ ZN) (atR bA x401 [.n] fun x409 => (Zc ((bF : Int) ≠ 0) (L1 (IntKind.wrap .i64 (aU - (IntKind.wrap .i64 (Int.tdiv (IntKind.wrap .i64 (aS * x409)) bF))), IntKind.wrap .i64 (bB + 1), v1_8 ++ ([[.d (.int .i64 J0)]] : LC))))))))) else (F aU (bC.length : Int) aS bA bC bF v1_8 (0, ([] : LC)))
noncomputable def Yq.l1 {β : Type} (k : Nat) (aN : LD) (aR aS : Int) (bA bC : LD) (bF : Int) (K : LC → Option β) (L1 : (Int × Int × LC) → Option β) (v : Int × Int × LC) : Option β := Yq.m1 k aN aR aS bA bC bF K L1 v (fun aQ aL aK aM aT aV bD => Zo (Yq.l2 k aQ aL aK aM aT aV bD K) k)
noncomputable def Yq.m0 {β : Type} (k : Nat) (aA : LD) (aB aH : Int) (aI aJ : LD) (K : LC → Option β) (L0 : (Int × Int) → Option β) (v : Int × Int) (F : (LD → Int → Int → LD → LD → Int → (Int × Int × LC) → Option β)) : Option β :=
 match v with
 | (aE, aO) => bif (decide ((aE : Int) < aB)) then (atR aA aE [.n] fun x339 => (atR aI x339 [.n] fun x343 => (L0 (IntKind.wrap .i64 (aE + 1), IntKind.wrap .i64 (aO + x343))))) else (F aJ (aJ.length : Int) aH aI aJ aO (aH, 0, ([] : LC)))
noncomputable def Yq.l0 {β : Type} (k : Nat) (aA : LD) (aB aH : Int) (aI aJ : LD) (K : LC → Option β) (L0 : (Int × Int) → Option β) (v : Int × Int) : Option β := Yq.m0 k aA aB aH aI aJ K L0 v (fun aN aR aS bA bC bF => Zo (Yq.l1 k aN aR aS bA bC bF K) k)
noncomputable def Yq.m {β : Type} (k : Nat) (a0 : Int) (a1 a2 : LD) (K : LC → Option β) (F : (LD → Int → Int → LD → LD → (Int × Int) → Option β)) : Option β :=
 F a2 (a2.length : Int) a0 a1 a2 (0, 0)
noncomputable def Yq.g {β : Type} (k : Nat) (a0 : Int) (a1 a2 : LD) (K : LC → Option β) : Option β :=
 Zo (Yq.l0 k a2 (a2.length : Int) a0 a1 a2 K) k (0, 0)
noncomputable def Yq.t (k : Nat) (a0 : Int) (a1 a2 : LD) : Option (LC) := Yq.g k a0 a1 a2 (fun z0 => some z0)
noncomputable def Yq.f {β : Type} (k : Nat) (a0 : Int) (a1 a2 : LD) (K : LC → Option β) : Option β := bd1 (Yq.t k a0 a1 a2) K
noncomputable def Yq.e (k : Nat) : Zk := ent [.d .n, .d .l, .d .l] [1] [.o] [28] false (Yq.t k)
noncomputable def Yq.p (k : Nat) : Pro := ⟨Tryz.prog, [(219, Yy.e k)], Zn [(3, kp [3, 4, 5, 7, 18, 19, 20]), (10, kp [3, 4, 5, 7, 10, 33, 34, 35] [(11, .dat false)]), (17, kp [3, 4, 5, 7, 10, 11, 14, 63, 64]), (23, kp [10, 77, 78, 79])] false [], k⟩
noncomputable def Yq.d (k : Nat) (a0 : Int) (a1 a2 : LD) : Ex → St → Option (LC) := (Yq.p k).fin Tryz.f153 [.d (.int .i64 a0), .d (.sl a1), .d (.sl a2)] [1] [.o]
noncomputable def Yq.s0 (aA : LD) (aB aH : Int) (aI aJ : LD) (v : Int × Int) : St :=
 match v with
 | (aE, aO) => ZX 91 [(3, .bp 0 0), (4, .bp 1 0), (5, .bp 2 0), (7, .bp 3 0), (18, .d false (.sl aA)), (19, .d true (.int .i64 aB)), (20, .d true (.int .i64 aE))] [.box none 3 [.d false (.int .i64 aH)], .box none 28 [.d false (.sl aI)], .box none 28 [.d false (.sl aJ)], .box none 3 [.d true (.int .i64 aO)]]
noncomputable def Yq.r0 (k : Nat) (a0 : Int) (a1 a2 aA : LD) (aB aH : Int) (aI aJ : LD) (n : Nat) (v : Int × Int) : Option (LC) := (Yq.p k).lp (Zt Tryz.f153) 3 [1, 1, 0, 1, 0] (Yq.d k a0 a1 a2) n (Yq.s0 aA aB aH aI aJ v)
noncomputable def Yq.s1 (aN : LD) (aR aS : Int) (bA bC : LD) (bF : Int) (v : Int × Int × LC) : St :=
 match v with
 | (aU, bB, v1_8) => ZX 91 [(3, .bp 0 0), (4, .bp 1 0), (5, .bp 2 0), (7, .bp 3 0), (10, .row 4), (11, .d false (.int .i64 aU)), (33, .d false (.sl aN)), (34, .d true (.int .i64 aR)), (35, .d true (.int .i64 bB))] [.box none 3 [.d false (.int .i64 aS)], .box none 28 [.d false (.sl bA)], .box none 28 [.d false (.sl bC)], .box none 3 [.d true (.int .i64 bF)], .row none true 28 v1_8]
noncomputable def Yq.r1 (k : Nat) (a0 : Int) (a1 a2 aN : LD) (aR aS : Int) (bA bC : LD) (bF : Int) (n : Nat) (v : Int × Int × LC) : Option (LC) := (Yq.p k).lp (Zt Tryz.f153) 10 [1, 1, 1, 1, 1, 0, 1, 0] (Yq.d k a0 a1 a2) n (Yq.s1 aN aR aS bA bC bF v)
noncomputable def Yq.s2 (aQ aL aK : Int) (aM aT : LD) (aV : Int) (bD : LC) (v : Int × LC) : St :=
 match v with
 | (aP, bO) => ZX 91 [(3, .bp 0 0), (4, .bp 1 0), (5, .bp 2 0), (7, .bp 3 0), (10, .row 4), (11, .d false (.int .i64 aQ)), (14, .row 5), (63, .d true (.int .i64 aL)), (64, .d true (.int .i64 aP))] [.box none 3 [.d false (.int .i64 aK)], .box none 28 [.d false (.sl aM)], .box none 28 [.d false (.sl aT)], .box none 3 [.d true (.int .i64 aV)], .row none true 28 bD, .row none true 28 bO]
noncomputable def Yq.r2 (k : Nat) (a0 : Int) (a1 a2 : LD) (aQ aL aK : Int) (aM aT : LD) (aV : Int) (bD : LC) (n : Nat) (v : Int × LC) : Option (LC) := (Yq.p k).lp (Zt Tryz.f153) 17 [1, 1, 1, 1, 1, 1, 1, 0, 1, 0] (Yq.d k a0 a1 a2) n (Yq.s2 aQ aL aK aM aT aV bD v)
noncomputable def Yq.s3 (bT : Int) (v3_3 : LC) (v : Int × LC) : St :=
 match v with
 | (v3_1, v3_2) => ZX 91 [(10, .row 0), (77, .row 1), (78, .d true (.int .i64 bT)), (79, .d true (.int .i64 v3_1))] [.row none true 28 v3_2, .row none true 28 v3_3]
noncomputable def Yq.r3 (k : Nat) (a0 : Int) (a1 a2 : LD) (bT : Int) (v3_3 : LC) (n : Nat) (v : Int × LC) : Option (LC) := (Yq.p k).lp (Zt Tryz.f153) 23 [1, 1, 1, 1, 1, 1, 1, 1, 1, 0, 1, 0] (Yq.d k a0 a1 a2) n (Yq.s3 bT v3_3 v)
theorem Yq.l3_eq (k : Nat) (a0 : Int) (a1 a2 : LD) (bT : Int) (v3_3 : LC) : ∀ n v, Yq.r3 k a0 a1 a2 bT v3_3 n v = Zo (Yq.l3 k bT v3_3 (fun z0 => some z0)) n v :=
 Zm (Yq.s3 bT v3_3) _ fun L3 v => by obtain ⟨v3_1, v3_2⟩ := v; kernel_rfl
theorem Yq.l2_eq (k : Nat) (a0 : Int) (a1 a2 : LD) (aQ aL aK : Int) (aM aT : LD) (aV : Int) (bD : LC) : ∀ n v, Yq.r2 k a0 a1 a2 aQ aL aK aM aT aV bD n v = Zo (Yq.l2 k aQ aL aK aM aT aV bD (fun z0 => some z0)) n v :=
 Zm (Yq.s2 aQ aL aK aM aT aV bD) _ fun L2 v => by obtain ⟨aP, bO⟩ := v; exact Eq.trans (b := Yq.m2 k aQ aL aK aM aT aV bD (fun z0 => some z0) (fun v => L2 (Yq.s2 aQ aL aK aM aT aV bD v)) (aP, bO) (fun bT v3_3 => Yq.r3 k a0 a1 a2 bT v3_3 k)) (by kernel_rfl) (congrArg (Yq.m2 k aQ aL aK aM aT aV bD (fun z0 => some z0) (fun v => L2 (Yq.s2 aQ aL aK aM aT aV bD v)) (aP, bO)) (funext fun bT => funext fun v3_3 => funext fun v => Yq.l3_eq k a0 a1 a2 bT v3_3 k v))
theorem Yq.l1_eq (k : Nat) (a0 : Int) (a1 a2 aN : LD) (aR aS : Int) (bA bC : LD) (bF : Int) : ∀ n v, Yq.r1 k a0 a1 a2 aN aR aS bA bC bF n v = Zo (Yq.l1 k aN aR aS bA bC bF (fun z0 => some z0)) n v :=
 Zm (Yq.s1 aN aR aS bA bC bF) _ fun L1 v => by obtain ⟨aU, bB, v1_8⟩ := v; exact Eq.trans (b := Yq.m1 k aN aR aS bA bC bF (fun z0 => some z0) (fun v => L1 (Yq.s1 aN aR aS bA bC bF v)) (aU, bB, v1_8) (fun aQ aL aK aM aT aV bD => Yq.r2 k a0 a1 a2 aQ aL aK aM aT aV bD k)) (by kernel_rfl) (congrArg (Yq.m1 k aN aR aS bA bC bF (fun z0 => some z0) (fun v => L1 (Yq.s1 aN aR aS bA bC bF v)) (aU, bB, v1_8)) (funext fun aQ => funext fun aL => funext fun aK => funext fun aM => funext fun aT => funext fun aV => funext fun bD => funext fun v => Yq.l2_eq k a0 a1 a2 aQ aL aK aM aT aV bD k v))
theorem Yq.l0_eq (k : Nat) (a0 : Int) (a1 a2 aA : LD) (aB aH : Int) (aI aJ : LD) : ∀ n v, Yq.r0 k a0 a1 a2 aA aB aH aI aJ n v = Zo (Yq.l0 k aA aB aH aI aJ (fun z0 => some z0)) n v :=
 Zm (Yq.s0 aA aB aH aI aJ) _ fun L0 v => by obtain ⟨aE, aO⟩ := v; exact Eq.trans (b := Yq.m0 k aA aB aH aI aJ (fun z0 => some z0) (fun v => L0 (Yq.s0 aA aB aH aI aJ v)) (aE, aO) (fun aN aR aS bA bC bF => Yq.r1 k a0 a1 a2 aN aR aS bA bC bF k)) (by kernel_rfl) (congrArg (Yq.m0 k aA aB aH aI aJ (fun z0 => some z0) (fun v => L0 (Yq.s0 aA aB aH aI aJ v)) (aE, aO)) (funext fun aN => funext fun aR => funext fun aS => funext fun bA => funext fun bC => funext fun bF => funext fun v => Yq.l1_eq k a0 a1 a2 aN aR aS bA bC bF k v))
theorem Yq.ok (k : Nat) : Za Tryz.prog 153 (Yq.e k) := Zh (Yq.p k) mix tyok Tryz.func153 (Yy.ok k) (by kernel_rfl) (fun a0 a1 a2 => Eq.trans (b := Yq.m k a0 a1 a2 (fun z0 => some z0) (fun aA aB aH aI aJ => Yq.r0 k a0 a1 a2 aA aB aH aI aJ k)) (by kernel_rfl) (congrArg (Yq.m k a0 a1 a2 (fun z0 => some z0)) (funext fun aA => funext fun aB => funext fun aH => funext fun aI => funext fun aJ => funext fun v => Yq.l0_eq k a0 a1 a2 aA aB aH aI aJ k v)))
noncomputable def Yv.l2 {β : Type} (k : Nat) (aL aP : LD) (aK : Int) (aV bD : LC) (L0 : (Int × LD × LD × LC) → Option β) (K : LC → Option β) (L2 : (Int × Int × LC) → Option β) (v : Int × Int × LC) : Option β :=
 match v with
 | (aQ, aM, aT) => bif (decide ((aM : Int) < aK)) then (Zc ((0 : Int) ≤ aM ∧ aM < (bD.length : Int)) (ZaG bD (Int.toNat aM) fun c226 => Zas (c226.drop 0) fun c227 r => cD c227 fun d => dInt .i64 d fun x230 => Zc ((0 : Int) ≤ aM ∧ aM < (aV.length : Int)) (ZaG aV (Int.toNat aM) fun c231 => Zas (c231.drop 0) fun c232 r => cD c232 fun d => dInt .i64 d fun x235 => atR aP x235 [.n] fun x239 => (Zc ((0 : Int) ≤ x235 ∧ x235 < (aT.length : Int)) (ZaG aT (Int.toNat x235) fun c240 => Zas (c240.drop 0) fun c241 r => cD c241 fun d => dInt .i64 d fun x244 => Zc ((0 : Int) ≤ x235 ∧ x235 < (aT.length : Int)) (ZaG aT (Int.toNat x235) fun c245 => Zas (c245.drop 0) fun c246 r => cD c246 fun d => dInt .i64 d fun x249 => let J0 := (if ((IntKind.wrap .i64 (x239 - x244)) : Int) < x230 then (IntKind.wrap .i64 (x239 - x244)) else x230); Zc ((0 : Int) ≤ x235 ∧ x235 < (aT.length : Int)) (Zc (Int.toNat x235 < aT.length) (L2 (IntKind.wrap .i64 (aQ - J0), IntKind.wrap .i64 (aM + 1), aT.modify (Int.toNat x235) fun c => Zq c 0 [.d (.int .i64 (IntKind.wrap .i64 (x249 + J0)))]))))))))) else (L0 (aQ, aL, aP, aT))
noncomputable def Yv.m1 {β : Type} (k : Nat) (aU : Int) (aN aR bB : LD) (aS : Int) (bC : LC) (L0 : (Int × LD × LD × LC) → Option β) (K : LC → Option β) (L1 : (Int × LC) → Option β) (v : Int × LC) (F : (LD → LD → Int → LC → LC → (Int × Int × LC) → Option β)) : Option β :=
 match v with
 | (bA, bF) => bif (decide ((bA : Int) < aS)) then (atR bB bA [.n] fun x191 => (bif (decide ((x191 : Int) > 0)) then (Zc ((0 : Int) ≤ bA ∧ bA < (bC.length : Int)) (ZaG bC (Int.toNat bA) fun c192 => Zas (c192.drop 0) fun c193 r194 => cD c193 fun d195 => dInt .i64 d195 fun x196 => atR aR bA [.n] fun x200 => (bif (decide ((x196 : Int) < x200)) then (Zc (bF.length + ([[.d (.int .i64 bA)]] : LC).length ≤ ZN) (L1 (IntKind.wrap .i64 (bA + 1), bF ++ ([[.d (.int .i64 bA)]] : LC)))) else (L1 (IntKind.wrap .i64 (bA + 1), bF))))) else (L1 (IntKind.wrap .i64 (bA + 1), bF)))) else (bif (((bF.length : Int) : Int) == 0) then (K bC) else (Yq.f k aU aN (C.immRows bF) (fun y201 => F aN aR (y201.length : Int) bF y201 (aU, 0, bC))))
noncomputable def Yv.l1 {β : Type} (k : Nat) (aU : Int) (aN aR bB : LD) (aS : Int) (bC : LC) (L0 : (Int × LD × LD × LC) → Option β) (K : LC → Option β) (L1 : (Int × LC) → Option β) (v : Int × LC) : Option β := Yv.m1 k aU aN aR bB aS bC L0 K L1 v (fun aL aP aK aV bD => Zo (Yv.l2 k aL aP aK aV bD L0 K) k)
noncomputable def Yv.m0 {β : Type} (k : Nat) (K : LC → Option β) (L0 : (Int × LD × LD × LC) → Option β) (v : Int × LD × LD × LC) (F : (Int → LD → LD → LD → Int → LC → (Int × LC) → Option β)) : Option β :=
 match v with
 | (aA, aB, aE, aH) => bif (decide ((aA : Int) > 0)) then (F aA aB aE aB (aB.length : Int) aH (0, ([] : LC))) else (K aH)
noncomputable def Yv.l0 {β : Type} (k : Nat) (K : LC → Option β) (L0 : (Int × LD × LD × LC) → Option β) (v : Int × LD × LD × LC) : Option β := Yv.m0 k K L0 v (fun aU aN aR bB aS bC => Zo (Yv.l1 k aU aN aR bB aS bC L0 K) k)
noncomputable def Yv.m {β : Type} (k : Nat) (a0 : Int) (a1 a2 : LD) (K : LC → Option β) (F : ((Int × LD × LD × LC) → Option β)) : Option β :=
 YaQ.f k a0 a1 a2 (fun y1 => bif (!y1) then (K ([] : LC)) else (Zc ((0 : Int) ≤ (a1.length : Int) ∧ (a1.length : Int) ≤ (ZN : Int) ∧ (a1.length : Int) ≤ (a1.length : Int) ∧ (a1.length : Int) ≤ (a1.length : Int)) (F (a0, a1, a2, List.replicate (Int.toNat (a1.length : Int)) ([.d (.int .i64 0)] : List C)))))
noncomputable def Yv.g {β : Type} (k : Nat) (a0 : Int) (a1 a2 : LD) (K : LC → Option β) : Option β := Yv.m k a0 a1 a2 K (Zo (Yv.l0 k K) k)
noncomputable def Yv.t (k : Nat) (a0 : Int) (a1 a2 : LD) : Option (LC) := Yv.g k a0 a1 a2 (fun z0 => some z0)
noncomputable def Yv.f {β : Type} (k : Nat) (a0 : Int) (a1 a2 : LD) (K : LC → Option β) : Option β := bd1 (Yv.t k a0 a1 a2) K
noncomputable def Yv.e (k : Nat) : Zk := ent [.d .n, .d .l, .d .l] [1] [.o] [28] false (Yv.t k)
noncomputable def Yv.p (k : Nat) : Pro := ⟨Tryz.prog, [(152, YaQ.e k), (153, Yq.e k)], Zn [(4, kp [0, 1, 2, 7]), (7, kp [0, 1, 2, 7, 8, 25, 26, 27]), (14, kp [1, 2, 7, 8, 56, 57, 58] [(0, .dat false)])] false [], k⟩
noncomputable def Yv.d (k : Nat) (a0 : Int) (a1 a2 : LD) : Ex → St → Option (LC) := (Yv.p k).fin Tryz.f72 [.d (.int .i64 a0), .d (.sl a1), .d (.sl a2)] [1] [.o]
noncomputable def Yv.s0 (v : Int × LD × LD × LC) : St :=
 match v with
 | (aA, aB, aE, aH) => ZX 90 [(0, .d false (.int .i64 aA)), (1, .d false (.sl aB)), (2, .d false (.sl aE)), (7, .row 0)] [.row none true 28 aH]
noncomputable def Yv.c0 (k : Nat) (a0 : Int) (a1 a2 : LD) : Ex → St → Option (LC) := (Yv.p k).ct (Zt Tryz.f72) [1, 1, 1, 0, 0] (Yv.d k a0 a1 a2)
noncomputable def Yv.r0 (k : Nat) (a0 : Int) (a1 a2 : LD) (n : Nat) (v : Int × LD × LD × LC) : Option (LC) := (Yv.p k).lp (Zt Tryz.f72) 4 [1, 1, 1, 0, 0] (Yv.d k a0 a1 a2) n (Yv.s0 v)
noncomputable def Yv.s1 (aU : Int) (aN aR bB : LD) (aS : Int) (bC : LC) (v : Int × LC) : St :=
 match v with
 | (bA, bF) => ZX 90 [(0, .d false (.int .i64 aU)), (1, .d false (.sl aN)), (2, .d false (.sl aR)), (7, .row 0), (8, .row 1), (25, .d false (.sl bB)), (26, .d true (.int .i64 aS)), (27, .d true (.int .i64 bA))] [.row none true 28 bC, .row none true 28 bF]
noncomputable def Yv.r1 (k : Nat) (a0 : Int) (a1 a2 : LD) (aU : Int) (aN aR bB : LD) (aS : Int) (bC : LC) (L0 : St → Option (LC)) (n : Nat) (v : Int × LC) : Option (LC) := (Yv.p k).lp (codeAt [1, 1, 1, 0, 0, 0] (Zt Tryz.f72)) 7 [1, 0, 1, 0, 1, 0] (backK ((Yv.p k).h.H 4) L0 (Yv.c0 k a0 a1 a2)) n (Yv.s1 aU aN aR bB aS bC v)
noncomputable def Yv.s2 (aL aP : LD) (aK : Int) (aV bD : LC) (v : Int × Int × LC) : St :=
 match v with
 | (aQ, aM, aT) => ZX 90 [(0, .d false (.int .i64 aQ)), (1, .d false (.sl aL)), (2, .d false (.sl aP)), (7, .row 0), (8, .row 1), (56, .row 2), (57, .d true (.int .i64 aK)), (58, .d true (.int .i64 aM))] [.row none true 28 aT, .row none true 28 aV, .row none true 28 bD]
noncomputable def Yv.r2 (k : Nat) (a0 : Int) (a1 a2 aL aP : LD) (aK : Int) (aV bD : LC) (L0 : St → Option (LC)) (n : Nat) (v : Int × Int × LC) : Option (LC) := (Yv.p k).lp (codeAt [1, 1, 1, 0, 0, 0] (Zt Tryz.f72)) 14 [1, 0, 1, 1, 1, 1, 0] (backK ((Yv.p k).h.H 4) L0 (Yv.c0 k a0 a1 a2)) n (Yv.s2 aL aP aK aV bD v)
theorem Yv.l2_eq (k : Nat) (a0 : Int) (a1 a2 aL aP : LD) (aK : Int) (aV bD : LC) (L0 : St → Option (LC)) : ∀ n v, Yv.r2 k a0 a1 a2 aL aP aK aV bD L0 n v = Zo (Yv.l2 k aL aP aK aV bD (fun v => L0 (Yv.s0 v)) (fun z0 => some z0)) n v :=
 Zm (Yv.s2 aL aP aK aV bD) _ fun L2 v => by obtain ⟨aQ, aM, aT⟩ := v; kernel_rfl
theorem Yv.l1_eq (k : Nat) (a0 : Int) (a1 a2 : LD) (aU : Int) (aN aR bB : LD) (aS : Int) (bC : LC) (L0 : St → Option (LC)) : ∀ n v, Yv.r1 k a0 a1 a2 aU aN aR bB aS bC L0 n v = Zo (Yv.l1 k aU aN aR bB aS bC (fun v => L0 (Yv.s0 v)) (fun z0 => some z0)) n v :=
 Zm (Yv.s1 aU aN aR bB aS bC) _ fun L1 v => by obtain ⟨bA, bF⟩ := v; exact Eq.trans (b := Yv.m1 k aU aN aR bB aS bC (fun v => L0 (Yv.s0 v)) (fun z0 => some z0) (fun v => L1 (Yv.s1 aU aN aR bB aS bC v)) (bA, bF) (fun aL aP aK aV bD => Yv.r2 k a0 a1 a2 aL aP aK aV bD L0 k)) (by kernel_rfl) (congrArg (Yv.m1 k aU aN aR bB aS bC (fun v => L0 (Yv.s0 v)) (fun z0 => some z0) (fun v => L1 (Yv.s1 aU aN aR bB aS bC v)) (bA, bF)) (funext fun aL => funext fun aP => funext fun aK => funext fun aV => funext fun bD => funext fun v => Yv.l2_eq k a0 a1 a2 aL aP aK aV bD L0 k v))
theorem Yv.l0_eq (k : Nat) (a0 : Int) (a1 a2 : LD) : ∀ n v, Yv.r0 k a0 a1 a2 n v = Zo (Yv.l0 k (fun z0 => some z0)) n v :=
 Zm (Yv.s0) _ fun L0 v => by obtain ⟨aA, aB, aE, aH⟩ := v; exact Eq.trans (b := Yv.m0 k (fun z0 => some z0) (fun v => L0 (Yv.s0 v)) (aA, aB, aE, aH) (fun aU aN aR bB aS bC => Yv.r1 k a0 a1 a2 aU aN aR bB aS bC L0 k)) (by kernel_rfl) (congrArg (Yv.m0 k (fun z0 => some z0) (fun v => L0 (Yv.s0 v)) (aA, aB, aE, aH)) (funext fun aU => funext fun aN => funext fun aR => funext fun bB => funext fun aS => funext fun bC => funext fun v => Yv.l1_eq k a0 a1 a2 aU aN aR bB aS bC L0 k v))
theorem Yv.ok (k : Nat) : Za Tryz.prog 72 (Yv.e k) := Zh (Yv.p k) mix tyok Tryz.func72 ⟨YaQ.ok k, Yq.ok k⟩ (by kernel_rfl) (fun a0 a1 a2 => Eq.trans (b := Yv.m k a0 a1 a2 (fun z0 => some z0) (Yv.r0 k a0 a1 a2 k)) (by kernel_rfl) (congrArg (Yv.m k a0 a1 a2 (fun z0 => some z0)) (funext fun v => Yv.l0_eq k a0 a1 a2 k v)))
noncomputable def Yal.l0 {β : Type} (k : Nat) (aA aB : LD) (aE aI : Int) (aJ aO aY : LD) (K : LC → Option β) (L0 : (Int × LC) → Option β) (v : Int × LC) : Option β :=
 match v with
 | (aH, bP) => bif (decide ((aH : Int) < aE)) then (atR aB aH [.s, .l, .l, .n] fun x254 x257 x260 x263 => (YaK.f k aI aJ aO aY x254 x257 x260 x263 (fun y264 => bif y264 then (Yai.f k aI aJ aO aY x254 (fun y265 => Zc (bP.length + ([[.d (.int .i64 y265)]] : LC).length ≤ ZN) (L0 (IntKind.wrap .i64 (aH + 1), bP ++ ([[.d (.int .i64 y265)]] : LC))))) else (Zc (bP.length + ([[.d (.int .i64 0)]] : LC).length ≤ ZN) (L0 (IntKind.wrap .i64 (aH + 1), bP ++ ([[.d (.int .i64 0)]] : LC))))))) else (Yv.f k aI (C.immRows bP) aA (fun y266 => K y266))
noncomputable def Yal.m {β : Type} (k : Nat) (aC : Int) (aD aF aG a1 a2 : LD) (K : LC → Option β) (F : (LD → LD → Int → Int → LD → LD → LD → (Int × LC) → Option β)) : Option β :=
 YaH.f k aC aD aF aG a1 a2 (fun y1 => bif (!y1) then (K ([] : LC)) else (F a2 a1 (a1.length : Int) aC aD aF aG (0, ([] : LC))))
noncomputable def Yal.g {β : Type} (k : Nat) (aC : Int) (aD aF aG a1 a2 : LD) (K : LC → Option β) : Option β :=
 YaH.f k aC aD aF aG a1 a2 (fun y1 => bif (!y1) then (K ([] : LC)) else (Zo (Yal.l0 k a2 a1 (a1.length : Int) aC aD aF aG K) k (0, ([] : LC))))
noncomputable def Yal.t (k : Nat) (aC : Int) (aD aF aG a1 a2 : LD) : Option (LC) := Yal.g k aC aD aF aG a1 a2 (fun z0 => some z0)
noncomputable def Yal.f {β : Type} (k : Nat) (aC : Int) (aD aF aG a1 a2 : LD) (K : LC → Option β) : Option β := bd1 (Yal.t k aC aD aF aG a1 a2) K
noncomputable def Yal.e (k : Nat) : Zk := ent [.agg [.n, .l, .l, .l], .d .l, .d .l] [1] [.o] [28] false (Yal.t k)
noncomputable def Yal.p (k : Nat) : Pro := ⟨Tryz.prog, [(69, YaH.e k), (70, YaK.e k), (71, Yai.e k), (72, Yv.e k)], Zn [(5, kp [2, 3, 7, 17, 18, 19])] false [], k⟩
noncomputable def Yal.d (k : Nat) (aC : Int) (aD aF aG a1 a2 : LD) : Ex → St → Option (LC) := (Yal.p k).fin Tryz.f14 [.agg [.int .i64 aC, .sl aD, .sl aF, .sl aG], .d (.sl a1), .d (.sl a2)] [1] [.o]
noncomputable def Yal.s0 (aA aB : LD) (aE aI : Int) (aJ aO aY : LD) (v : Int × LC) : St :=
 match v with
 | (aH, bP) => ZX 40 [(2, .d false (.sl aA)), (3, .bp 0 0), (7, .row 1), (17, .d false (.sl aB)), (18, .d true (.int .i64 aE)), (19, .d true (.int .i64 aH))] [.box none 35 [.d false (.int .i64 aI), .d false (.sl aJ), .d false (.sl aO), .d false (.sl aY)], .row none true 28 bP]
noncomputable def Yal.r0 (k : Nat) (aC : Int) (aD aF aG a1 a2 aA aB : LD) (aE aI : Int) (aJ aO aY : LD) (n : Nat) (v : Int × LC) : Option (LC) := (Yal.p k).lp (Zt Tryz.f14) 5 [1, 1, 1, 0, 1, 0] (Yal.d k aC aD aF aG a1 a2) n (Yal.s0 aA aB aE aI aJ aO aY v)
theorem Yal.l0_eq (k : Nat) (aC : Int) (aD aF aG a1 a2 aA aB : LD) (aE aI : Int) (aJ aO aY : LD) : ∀ n v, Yal.r0 k aC aD aF aG a1 a2 aA aB aE aI aJ aO aY n v = Zo (Yal.l0 k aA aB aE aI aJ aO aY (fun z0 => some z0)) n v :=
 Zm (Yal.s0 aA aB aE aI aJ aO aY) _ fun L0 v => by obtain ⟨aH, bP⟩ := v; kernel_rfl
theorem Yal.ok (k : Nat) : Za Tryz.prog 14 (Yal.e k) := Zh (Yal.p k) mix tyok Tryz.func14 ⟨YaH.ok k, YaK.ok k, Yai.ok k, Yv.ok k⟩ (by kernel_rfl) (fun aC aD aF aG a1 a2 => Eq.trans (b := Yal.m k aC aD aF aG a1 a2 (fun z0 => some z0) (fun aA aB aE aI aJ aO aY => Yal.r0 k aC aD aF aG a1 a2 aA aB aE aI aJ aO aY k)) (by kernel_rfl) (congrArg (Yal.m k aC aD aF aG a1 a2 (fun z0 => some z0)) (funext fun aA => funext fun aB => funext fun aE => funext fun aI => funext fun aJ => funext fun aO => funext fun aY => funext fun v => Yal.l0_eq k aC aD aF aG a1 a2 aA aB aE aI aJ aO aY k v)))
noncomputable def YB.l2 {β : Type} (k : Nat) (aQ aL : LD) (aP aK aM : Int) (aV bO : LC) (L1 : (LD × LD × Int × Int × LC × LC) → Option β) (K : LC → Option β) (L2 : (Int × LC) → Option β) (v : Int × LC) : Option β :=
 match v with
 | (aT, bD) => bif (decide ((aT : Int) < aM)) then (Zc ((0 : Int) ≤ aT ∧ aT < (bO.length : Int)) (ZaG bO (Int.toNat aT) fun c396 => Zas (c396.drop 0) fun c397 r => cD c397 fun d => dInt .i64 d fun x400 => Zc ((0 : Int) ≤ aT ∧ aT < (bD.length : Int)) (ZaG bD (Int.toNat aT) fun c401 => Zas (c401.drop 0) fun c402 r => cD c402 fun d => dInt .i64 d fun x405 => Zc ((0 : Int) ≤ aT ∧ aT < (bD.length : Int)) (Zc (Int.toNat aT < bD.length) (L2 (IntKind.wrap .i64 (aT + 1), bD.modify (Int.toNat aT) fun c => Zq c 0 [.d (.int .i64 (IntKind.wrap .i64 (x405 - x400)))])))))) else (Zc (aV.length + ([[.own bO]] : LC).length ≤ ZN) (L1 (aQ, aL, aP, IntKind.wrap .i64 (aK + 1), aV ++ ([[.own bO]] : LC), bD)))
noncomputable def YB.m1 {β : Type} (k : Nat) (K : LC → Option β) (L1 : (LD × LD × Int × Int × LC × LC) → Option β) (v : LD × LD × Int × Int × LC × LC) (F : (LD → LD → Int → Int → Int → LC → LC → (Int × LC) → Option β)) : Option β :=
 match v with
 | (aU, aN, aR, bB, aS, bA) => bif (decide ((bB : Int) < aR)) then (atR aN bB [.n, .l, .l, .l] fun x374 x377 x380 x383 => (YaH.f k x374 x377 x380 x383 aU (C.immRows bA) (fun y384 => bif (!y384) then (K ([] : LC)) else (Yal.f k x374 x377 x380 x383 aU (C.immRows bA) (fun y385 => F aU aN aR bB (y385.length : Int) aS y385 (0, bA)))))) else (K aS)
noncomputable def YB.l1 {β : Type} (k : Nat) (K : LC → Option β) (L1 : (LD × LD × Int × Int × LC × LC) → Option β) (v : LD × LD × Int × Int × LC × LC) : Option β := YB.m1 k K L1 v (fun aQ aL aP aK aM aV bO => Zo (YB.l2 k aQ aL aP aK aM aV bO L1 K) k)
noncomputable def YB.m0 {β : Type} (k : Nat) (aA aB aE : LD) (aH : Int) (aJ : LC) (K : LC → Option β) (L0 : (Int × LC) → Option β) (v : Int × LC) (F : ((LD × LD × Int × Int × LC × LC) → Option β)) : Option β :=
 match v with
 | (aI, aO) => bif (decide ((aI : Int) < aH)) then (atR aE aI [.s, .l, .l, .n] fun x326 x329 x332 x335 => (Zc (aO.length + ([[.d (.int .i64 x335)]] : LC).length ≤ ZN) (L0 (IntKind.wrap .i64 (aI + 1), aO ++ ([[.d (.int .i64 x335)]] : LC))))) else (bif (decide (((aA.length : Int) : Int) > 40)) then (K ([] : LC)) else (F (aB, aA, (aA.length : Int), 0, aJ, aO)))
noncomputable def YB.l0 {β : Type} (k : Nat) (aA aB aE : LD) (aH : Int) (aJ : LC) (K : LC → Option β) (L0 : (Int × LC) → Option β) (v : Int × LC) : Option β := YB.m0 k aA aB aE aH aJ K L0 v (Zo (YB.l1 k K) k)
noncomputable def YB.m {β : Type} (k : Nat) (a0 a1 : LD) (K : LC → Option β) (F : (LD → LD → LD → Int → LC → (Int × LC) → Option β)) : Option β :=
 F a0 a1 a1 (a1.length : Int) ([] : LC) (0, ([] : LC))
noncomputable def YB.g {β : Type} (k : Nat) (a0 a1 : LD) (K : LC → Option β) : Option β :=
 Zo (YB.l0 k a0 a1 a1 (a1.length : Int) ([] : LC) K) k (0, ([] : LC))
noncomputable def YB.t (k : Nat) (a0 a1 : LD) : Option (LC) := YB.g k a0 a1 (fun z0 => some z0)
noncomputable def YB.f {β : Type} (k : Nat) (a0 a1 : LD) (K : LC → Option β) : Option β := bd1 (YB.t k a0 a1) K
noncomputable def YB.e (k : Nat) : Zk := ent [.d .l, .d .l] [1] [.o] [49] false (YB.t k)
noncomputable def YB.p (k : Nat) : Pro := ⟨Tryz.prog, [(69, YaH.e k), (14, Yal.e k)], Zn [(4, kp [0, 1, 5, 6, 16, 17, 18]), (11, kp [1, 5, 6, 31, 32, 33]), (17, kp [1, 5, 6, 11, 31, 32, 33, 46, 47, 48])] false [], k⟩
noncomputable def YB.d (k : Nat) (a0 a1 : LD) : Ex → St → Option (LC) := (YB.p k).fin Tryz.f25 [.d (.sl a0), .d (.sl a1)] [1] [.o]
noncomputable def YB.s0 (aA aB aE : LD) (aH : Int) (aJ : LC) (v : Int × LC) : St :=
 match v with
 | (aI, aO) => ZX 67 [(0, .d false (.sl aA)), (1, .d false (.sl aB)), (5, .row 0), (6, .row 1), (16, .d false (.sl aE)), (17, .d true (.int .i64 aH)), (18, .d true (.int .i64 aI))] [.row none true 49 aJ, .row none true 28 aO]
noncomputable def YB.r0 (k : Nat) (a0 a1 aA aB aE : LD) (aH : Int) (aJ : LC) (n : Nat) (v : Int × LC) : Option (LC) := (YB.p k).lp (Zt Tryz.f25) 4 [1, 1, 1, 0, 1, 0] (YB.d k a0 a1) n (YB.s0 aA aB aE aH aJ v)
noncomputable def YB.s1 (v : LD × LD × Int × Int × LC × LC) : St :=
 match v with
 | (aU, aN, aR, bB, aS, bA) => ZX 67 [(1, .d false (.sl aU)), (5, .row 0), (6, .row 1), (31, .d false (.sl aN)), (32, .d true (.int .i64 aR)), (33, .d true (.int .i64 bB))] [.row none true 49 aS, .row none true 28 bA]
noncomputable def YB.c1 (k : Nat) (a0 a1 : LD) : Ex → St → Option (LC) := (YB.p k).ct (Zt Tryz.f25) [1, 1, 1, 1, 1, 0, 1, 0] (YB.d k a0 a1)
noncomputable def YB.r1 (k : Nat) (a0 a1 : LD) (n : Nat) (v : LD × LD × Int × Int × LC × LC) : Option (LC) := (YB.p k).lp (Zt Tryz.f25) 11 [1, 1, 1, 1, 1, 0, 1, 0] (YB.d k a0 a1) n (YB.s1 v)
noncomputable def YB.s2 (aQ aL : LD) (aP aK aM : Int) (aV bO : LC) (v : Int × LC) : St :=
 match v with
 | (aT, bD) => ZX 67 [(1, .d false (.sl aQ)), (5, .row 0), (6, .row 1), (11, .row 2), (31, .d false (.sl aL)), (32, .d true (.int .i64 aP)), (33, .d true (.int .i64 aK)), (46, .row 2), (47, .d true (.int .i64 aM)), (48, .d true (.int .i64 aT))] [.row none true 49 aV, .row none true 28 bD, .row none true 28 bO]
noncomputable def YB.r2 (k : Nat) (a0 a1 aQ aL : LD) (aP aK aM : Int) (aV bO : LC) (L1 : St → Option (LC)) (n : Nat) (v : Int × LC) : Option (LC) := (YB.p k).lp (codeAt [1, 1, 1, 1, 1, 0, 1, 0, 0] (Zt Tryz.f25)) 17 [1, 1, 0, 0, 1, 1, 1, 0, 1, 0] (backK ((YB.p k).h.H 11) L1 (YB.c1 k a0 a1)) n (YB.s2 aQ aL aP aK aM aV bO v)
theorem YB.l2_eq (k : Nat) (a0 a1 aQ aL : LD) (aP aK aM : Int) (aV bO : LC) (L1 : St → Option (LC)) : ∀ n v, YB.r2 k a0 a1 aQ aL aP aK aM aV bO L1 n v = Zo (YB.l2 k aQ aL aP aK aM aV bO (fun v => L1 (YB.s1 v)) (fun z0 => some z0)) n v :=
 Zm (YB.s2 aQ aL aP aK aM aV bO) _ fun L2 v => by obtain ⟨aT, bD⟩ := v; kernel_rfl
theorem YB.l1_eq (k : Nat) (a0 a1 : LD) : ∀ n v, YB.r1 k a0 a1 n v = Zo (YB.l1 k (fun z0 => some z0)) n v :=
 Zm (YB.s1) _ fun L1 v => by obtain ⟨aU, aN, aR, bB, aS, bA⟩ := v; exact Eq.trans (b := YB.m1 k (fun z0 => some z0) (fun v => L1 (YB.s1 v)) (aU, aN, aR, bB, aS, bA) (fun aQ aL aP aK aM aV bO => YB.r2 k a0 a1 aQ aL aP aK aM aV bO L1 k)) (by kernel_rfl) (congrArg (YB.m1 k (fun z0 => some z0) (fun v => L1 (YB.s1 v)) (aU, aN, aR, bB, aS, bA)) (funext fun aQ => funext fun aL => funext fun aP => funext fun aK => funext fun aM => funext fun aV => funext fun bO => funext fun v => YB.l2_eq k a0 a1 aQ aL aP aK aM aV bO L1 k v))
theorem YB.l0_eq (k : Nat) (a0 a1 aA aB aE : LD) (aH : Int) (aJ : LC) : ∀ n v, YB.r0 k a0 a1 aA aB aE aH aJ n v = Zo (YB.l0 k aA aB aE aH aJ (fun z0 => some z0)) n v :=
 Zm (YB.s0 aA aB aE aH aJ) _ fun L0 v => by obtain ⟨aI, aO⟩ := v; exact Eq.trans (b := YB.m0 k aA aB aE aH aJ (fun z0 => some z0) (fun v => L0 (YB.s0 aA aB aE aH aJ v)) (aI, aO) (YB.r1 k a0 a1 k)) (by kernel_rfl) (congrArg (YB.m0 k aA aB aE aH aJ (fun z0 => some z0) (fun v => L0 (YB.s0 aA aB aE aH aJ v)) (aI, aO)) (funext fun v => YB.l1_eq k a0 a1 k v))
theorem YB.ok (k : Nat) : Za Tryz.prog 25 (YB.e k) := Zh (YB.p k) mix tyok Tryz.func25 ⟨YaH.ok k, Yal.ok k⟩ (by kernel_rfl) (fun a0 a1 => Eq.trans (b := YB.m k a0 a1 (fun z0 => some z0) (fun aA aB aE aH aJ => YB.r0 k a0 a1 aA aB aE aH aJ k)) (by kernel_rfl) (congrArg (YB.m k a0 a1 (fun z0 => some z0)) (funext fun aA => funext fun aB => funext fun aE => funext fun aH => funext fun aJ => funext fun v => YB.l0_eq k a0 a1 aA aB aE aH aJ k v)))
noncomputable def Yau.l0 {β : Type} (k : Nat) (aA aB : LD) (K : Bool → Option β) (L0 : Int → Option β) (v : Int) : Option β :=
 match v with
 | aE => bif (decide ((aE : Int) < (aA.length : Int))) then (atR aA aE [.n] fun x12 => (atR aB aE [.n] fun x16 => (bif ((x12 : Int) != x16) then (K false) else (L0 (IntKind.wrap .i64 (aE + 1)))))) else (K true)
noncomputable def Yau.m {β : Type} (k : Nat) (a0 a1 : LD) (K : Bool → Option β) (F : (LD → LD → Int → Option β)) : Option β :=
 bif (((a0.length : Int) : Int) != (a1.length : Int)) then (K false) else (F a0 a1 (0))
noncomputable def Yau.g {β : Type} (k : Nat) (a0 a1 : LD) (K : Bool → Option β) : Option β :=
 bif (((a0.length : Int) : Int) != (a1.length : Int)) then (K false) else (Zo (Yau.l0 k a0 a1 K) k (0))
noncomputable def Yau.t (k : Nat) (a0 a1 : LD) : Option (Bool) := Yau.g k a0 a1 (fun z0 => some z0)
noncomputable def Yau.f {β : Type} (k : Nat) (a0 a1 : LD) (K : Bool → Option β) : Option β := bd1 (Yau.t k a0 a1) K
noncomputable def Yau.e (k : Nat) : Zk := ent [.d .l, .d .l] [1] [.b] [4] false (Yau.t k)
noncomputable def Yau.p (k : Nat) : Pro := ⟨Tryz.prog, [], Zn [(4, kp [0, 1, 5])] false [], k⟩
noncomputable def Yau.d (k : Nat) (a0 a1 : LD) : Ex → St → Option (Bool) := (Yau.p k).fin Tryz.f15 [.d (.sl a0), .d (.sl a1)] [1] [.b]
noncomputable def Yau.s0 (aA aB : LD) (v : Int) : St :=
 match v with
 | aE => ZX 26 [(0, .d false (.sl aA)), (1, .d false (.sl aB)), (5, .d true (.int .i64 aE))] []
noncomputable def Yau.r0 (k : Nat) (a0 a1 aA aB : LD) (n : Nat) (v : Int) : Option (Bool) := (Yau.p k).lp (Zt Tryz.f15) 4 [1, 1, 0, 1, 0] (Yau.d k a0 a1) n (Yau.s0 aA aB v)
theorem Yau.l0_eq (k : Nat) (a0 a1 aA aB : LD) : ∀ n v, Yau.r0 k a0 a1 aA aB n v = Zo (Yau.l0 k aA aB (fun z0 => some z0)) n v :=
 Zm (Yau.s0 aA aB) _ fun L0 v => by kernel_rfl
theorem Yau.ok (k : Nat) : Za Tryz.prog 15 (Yau.e k) := Zh (Yau.p k) mix tyok Tryz.func15 trivial (by kernel_rfl) (fun a0 a1 => Eq.trans (b := Yau.m k a0 a1 (fun z0 => some z0) (fun aA aB => Yau.r0 k a0 a1 aA aB k)) (by kernel_rfl) (congrArg (Yau.m k a0 a1 (fun z0 => some z0)) (funext fun aA => funext fun aB => funext fun v => Yau.l0_eq k a0 a1 aA aB k v)))
noncomputable def Y9.l0 {β : Type} (k : Nat) (aA aB : LD) (K : Bool → Option β) (L0 : Int → Option β) (v : Int) : Option β :=
 match v with
 | aE => bif (decide ((aE : Int) < (aA.length : Int))) then (atR aA aE [.l] fun x21 => (atR aB aE [.l] fun x25 => (Yau.f k x21 x25 (fun y26 => bif (!y26) then (K false) else (L0 (IntKind.wrap .i64 (aE + 1))))))) else (K true)
noncomputable def Y9.m {β : Type} (k : Nat) (a0 a1 : LD) (K : Bool → Option β) (F : (LD → LD → Int → Option β)) : Option β :=
 bif (((a0.length : Int) : Int) != (a1.length : Int)) then (K false) else (F a0 a1 (0))
noncomputable def Y9.g {β : Type} (k : Nat) (a0 a1 : LD) (K : Bool → Option β) : Option β :=
 bif (((a0.length : Int) : Int) != (a1.length : Int)) then (K false) else (Zo (Y9.l0 k a0 a1 K) k (0))
noncomputable def Y9.t (k : Nat) (a0 a1 : LD) : Option (Bool) := Y9.g k a0 a1 (fun z0 => some z0)
noncomputable def Y9.f {β : Type} (k : Nat) (a0 a1 : LD) (K : Bool → Option β) : Option β := bd1 (Y9.t k a0 a1) K
noncomputable def Y9.e (k : Nat) : Zk := ent [.d .l, .d .l] [1] [.b] [4] false (Y9.t k)
noncomputable def Y9.p (k : Nat) : Pro := ⟨Tryz.prog, [(15, Yau.e k)], Zn [(4, kp [0, 1, 5])] false [], k⟩
noncomputable def Y9.d (k : Nat) (a0 a1 : LD) : Ex → St → Option (Bool) := (Y9.p k).fin Tryz.f26 [.d (.sl a0), .d (.sl a1)] [1] [.b]
noncomputable def Y9.s0 (aA aB : LD) (v : Int) : St :=
 match v with
 | aE => ZX 27 [(0, .d false (.sl aA)), (1, .d false (.sl aB)), (5, .d true (.int .i64 aE))] []
noncomputable def Y9.r0 (k : Nat) (a0 a1 aA aB : LD) (n : Nat) (v : Int) : Option (Bool) := (Y9.p k).lp (Zt Tryz.f26) 4 [1, 1, 0, 1, 0] (Y9.d k a0 a1) n (Y9.s0 aA aB v)
theorem Y9.l0_eq (k : Nat) (a0 a1 aA aB : LD) : ∀ n v, Y9.r0 k a0 a1 aA aB n v = Zo (Y9.l0 k aA aB (fun z0 => some z0)) n v :=
 Zm (Y9.s0 aA aB) _ fun L0 v => by kernel_rfl
theorem Y9.ok (k : Nat) : Za Tryz.prog 26 (Y9.e k) := Zh (Y9.p k) mix tyok Tryz.func26 (Yau.ok k) (by kernel_rfl) (fun a0 a1 => Eq.trans (b := Y9.m k a0 a1 (fun z0 => some z0) (fun aA aB => Y9.r0 k a0 a1 aA aB k)) (by kernel_rfl) (congrArg (Y9.m k a0 a1 (fun z0 => some z0)) (funext fun aA => funext fun aB => funext fun v => Y9.l0_eq k a0 a1 aA aB k v)))
noncomputable def YR.l0 {β : Type} (k : Nat) (aA aB : LD) (K : Bool → Option β) (L0 : Int → Option β) (v : Int) : Option β :=
 match v with
 | aE => bif (decide ((aE : Int) < (aA.length : Int))) then (atR aA aE [.s] fun x12 => (atR aB aE [.s] fun x16 => (bif (!(Zae x12 x16)) then (K false) else (L0 (IntKind.wrap .i64 (aE + 1)))))) else (K true)
noncomputable def YR.m {β : Type} (k : Nat) (a0 a1 : LD) (K : Bool → Option β) (F : (LD → LD → Int → Option β)) : Option β :=
 bif (((a0.length : Int) : Int) != (a1.length : Int)) then (K false) else (F a0 a1 (0))
noncomputable def YR.g {β : Type} (k : Nat) (a0 a1 : LD) (K : Bool → Option β) : Option β :=
 bif (((a0.length : Int) : Int) != (a1.length : Int)) then (K false) else (Zo (YR.l0 k a0 a1 K) k (0))
noncomputable def YR.t (k : Nat) (a0 a1 : LD) : Option (Bool) := YR.g k a0 a1 (fun z0 => some z0)
noncomputable def YR.f {β : Type} (k : Nat) (a0 a1 : LD) (K : Bool → Option β) : Option β := bd1 (YR.t k a0 a1) K
noncomputable def YR.e (k : Nat) : Zk := ent [.d .l, .d .l] [1] [.b] [4] false (YR.t k)
noncomputable def YR.p (k : Nat) : Pro := ⟨Tryz.prog, [], Zn [(4, kp [0, 1, 5])] false [], k⟩
noncomputable def YR.d (k : Nat) (a0 a1 : LD) : Ex → St → Option (Bool) := (YR.p k).fin Tryz.f74 [.d (.sl a0), .d (.sl a1)] [1] [.b]
noncomputable def YR.s0 (aA aB : LD) (v : Int) : St :=
 match v with
 | aE => ZX 26 [(0, .d false (.sl aA)), (1, .d false (.sl aB)), (5, .d true (.int .i64 aE))] []
noncomputable def YR.r0 (k : Nat) (a0 a1 aA aB : LD) (n : Nat) (v : Int) : Option (Bool) := (YR.p k).lp (Zt Tryz.f74) 4 [1, 1, 0, 1, 0] (YR.d k a0 a1) n (YR.s0 aA aB v)
theorem YR.l0_eq (k : Nat) (a0 a1 aA aB : LD) : ∀ n v, YR.r0 k a0 a1 aA aB n v = Zo (YR.l0 k aA aB (fun z0 => some z0)) n v :=
 Zm (YR.s0 aA aB) _ fun L0 v => by kernel_rfl
theorem YR.ok (k : Nat) : Za Tryz.prog 74 (YR.e k) := Zh (YR.p k) mix tyok Tryz.func74 trivial (by kernel_rfl) (fun a0 a1 => Eq.trans (b := YR.m k a0 a1 (fun z0 => some z0) (fun aA aB => YR.r0 k a0 a1 aA aB k)) (by kernel_rfl) (congrArg (YR.m k a0 a1 (fun z0 => some z0)) (funext fun aA => funext fun aB => funext fun v => YR.l0_eq k a0 a1 aA aB k v)))
noncomputable def Ya3.g {β : Type} (k : Nat) (aC : Int) (aD : BA) (aF : LD) (aX : Int) (aW : BA) (aZ : LD) (K : Bool → Option β) : Option β :=
 bif ((aC : Int) != aX) then (K false) else (bif (!(Zae aD aW)) then (K false) else (YR.f k aF aZ (fun y17 => bif (!y17) then (K false) else (K true))))
noncomputable def Ya3.t (k : Nat) (aC : Int) (aD : BA) (aF : LD) (aX : Int) (aW : BA) (aZ : LD) : Option (Bool) := Ya3.g k aC aD aF aX aW aZ (fun z0 => some z0)
noncomputable def Ya3.f {β : Type} (k : Nat) (aC : Int) (aD : BA) (aF : LD) (aX : Int) (aW : BA) (aZ : LD) (K : Bool → Option β) : Option β := bd1 (Ya3.t k aC aD aF aX aW aZ) K
noncomputable def Ya3.e (k : Nat) : Zk := ent [.agg [.n, .s, .l], .agg [.n, .s, .l]] [1] [.b] [4] false (Ya3.t k)
noncomputable def Ya3.p (k : Nat) : Pro := ⟨Tryz.prog, [(74, YR.e k)], Zn [] false [], k⟩
theorem Ya3.ok (k : Nat) : Za Tryz.prog 154 (Ya3.e k) := Zh (Ya3.p k) mix tyok Tryz.func154 (YR.ok k) (by kernel_rfl) (fun aC aD aF aX aW aZ => by show _ = _; kernel_rfl)
noncomputable def Yap.l0 {β : Type} (k : Nat) (aA aB : LD) (K : Bool → Option β) (L0 : Int → Option β) (v : Int) : Option β :=
 match v with
 | aE => bif (decide ((aE : Int) < (aA.length : Int))) then (atR aA aE [.n, .s, .l] fun x25 x28 x31 => (atR aB aE [.n, .s, .l] fun x35 x38 x41 => (Ya3.f k x25 x28 x31 x35 x38 x41 (fun y42 => bif (!y42) then (K false) else (L0 (IntKind.wrap .i64 (aE + 1))))))) else (K true)
noncomputable def Yap.m {β : Type} (k : Nat) (a0 a1 : LD) (K : Bool → Option β) (F : (LD → LD → Int → Option β)) : Option β :=
 bif (((a0.length : Int) : Int) != (a1.length : Int)) then (K false) else (F a0 a1 (0))
noncomputable def Yap.g {β : Type} (k : Nat) (a0 a1 : LD) (K : Bool → Option β) : Option β :=
 bif (((a0.length : Int) : Int) != (a1.length : Int)) then (K false) else (Zo (Yap.l0 k a0 a1 K) k (0))
noncomputable def Yap.t (k : Nat) (a0 a1 : LD) : Option (Bool) := Yap.g k a0 a1 (fun z0 => some z0)
noncomputable def Yap.f {β : Type} (k : Nat) (a0 a1 : LD) (K : Bool → Option β) : Option β := bd1 (Yap.t k a0 a1) K
noncomputable def Yap.e (k : Nat) : Zk := ent [.d .l, .d .l] [1] [.b] [4] false (Yap.t k)
noncomputable def Yap.p (k : Nat) : Pro := ⟨Tryz.prog, [(154, Ya3.e k)], Zn [(4, kp [0, 1, 5])] false [], k⟩
noncomputable def Yap.d (k : Nat) (a0 a1 : LD) : Ex → St → Option (Bool) := (Yap.p k).fin Tryz.f73 [.d (.sl a0), .d (.sl a1)] [1] [.b]
noncomputable def Yap.s0 (aA aB : LD) (v : Int) : St :=
 match v with
 | aE => ZX 27 [(0, .d false (.sl aA)), (1, .d false (.sl aB)), (5, .d true (.int .i64 aE))] []
noncomputable def Yap.r0 (k : Nat) (a0 a1 aA aB : LD) (n : Nat) (v : Int) : Option (Bool) := (Yap.p k).lp (Zt Tryz.f73) 4 [1, 1, 0, 1, 0] (Yap.d k a0 a1) n (Yap.s0 aA aB v)
theorem Yap.l0_eq (k : Nat) (a0 a1 aA aB : LD) : ∀ n v, Yap.r0 k a0 a1 aA aB n v = Zo (Yap.l0 k aA aB (fun z0 => some z0)) n v :=
 Zm (Yap.s0 aA aB) _ fun L0 v => by kernel_rfl
theorem Yap.ok (k : Nat) : Za Tryz.prog 73 (Yap.e k) := Zh (Yap.p k) mix tyok Tryz.func73 (Ya3.ok k) (by kernel_rfl) (fun a0 a1 => Eq.trans (b := Yap.m k a0 a1 (fun z0 => some z0) (fun aA aB => Yap.r0 k a0 a1 aA aB k)) (by kernel_rfl) (congrArg (Yap.m k a0 a1 (fun z0 => some z0)) (funext fun aA => funext fun aB => funext fun v => Yap.l0_eq k a0 a1 aA aB k v)))
noncomputable def YaV.g {β : Type} (k : Nat) (aC : BA) (aD : Int) (aX : BA) (aW : Int) (K : Bool → Option β) : Option β :=
 bif (!(Zae aC aX)) then (K false) else (bif ((aD : Int) != aW) then (K false) else (K true))
noncomputable def YaV.t (k : Nat) (aC : BA) (aD : Int) (aX : BA) (aW : Int) : Option (Bool) := YaV.g k aC aD aX aW (fun z0 => some z0)
noncomputable def YaV.f {β : Type} (k : Nat) (aC : BA) (aD : Int) (aX : BA) (aW : Int) (K : Bool → Option β) : Option β := bd1 (YaV.t k aC aD aX aW) K
noncomputable def YaV.e (k : Nat) : Zk := ent [.agg [.s, .n], .agg [.s, .n]] [1] [.b] [4] false (YaV.t k)
noncomputable def YaV.p (k : Nat) : Pro := ⟨Tryz.prog, [], Zn [] false [], k⟩
theorem YaV.ok (k : Nat) : Za Tryz.prog 155 (YaV.e k) := Zh (YaV.p k) mix tyok Tryz.func155 trivial (by kernel_rfl) (fun aC aD aX aW => by show _ = _; kernel_rfl)
noncomputable def Yag.l0 {β : Type} (k : Nat) (aA aB : LD) (K : Bool → Option β) (L0 : Int → Option β) (v : Int) : Option β :=
 match v with
 | aE => bif (decide ((aE : Int) < (aA.length : Int))) then (atR aA aE [.s, .n] fun x19 x22 => (atR aB aE [.s, .n] fun x26 x29 => (YaV.f k x19 x22 x26 x29 (fun y30 => bif (!y30) then (K false) else (L0 (IntKind.wrap .i64 (aE + 1))))))) else (K true)
noncomputable def Yag.m {β : Type} (k : Nat) (a0 a1 : LD) (K : Bool → Option β) (F : (LD → LD → Int → Option β)) : Option β :=
 bif (((a0.length : Int) : Int) != (a1.length : Int)) then (K false) else (F a0 a1 (0))
noncomputable def Yag.g {β : Type} (k : Nat) (a0 a1 : LD) (K : Bool → Option β) : Option β :=
 bif (((a0.length : Int) : Int) != (a1.length : Int)) then (K false) else (Zo (Yag.l0 k a0 a1 K) k (0))
noncomputable def Yag.t (k : Nat) (a0 a1 : LD) : Option (Bool) := Yag.g k a0 a1 (fun z0 => some z0)
noncomputable def Yag.f {β : Type} (k : Nat) (a0 a1 : LD) (K : Bool → Option β) : Option β := bd1 (Yag.t k a0 a1) K
noncomputable def Yag.e (k : Nat) : Zk := ent [.d .l, .d .l] [1] [.b] [4] false (Yag.t k)
noncomputable def Yag.p (k : Nat) : Pro := ⟨Tryz.prog, [(155, YaV.e k)], Zn [(4, kp [0, 1, 5])] false [], k⟩
noncomputable def Yag.d (k : Nat) (a0 a1 : LD) : Ex → St → Option (Bool) := (Yag.p k).fin Tryz.f75 [.d (.sl a0), .d (.sl a1)] [1] [.b]
noncomputable def Yag.s0 (aA aB : LD) (v : Int) : St :=
 match v with
 | aE => ZX 27 [(0, .d false (.sl aA)), (1, .d false (.sl aB)), (5, .d true (.int .i64 aE))] []
noncomputable def Yag.r0 (k : Nat) (a0 a1 aA aB : LD) (n : Nat) (v : Int) : Option (Bool) := (Yag.p k).lp (Zt Tryz.f75) 4 [1, 1, 0, 1, 0] (Yag.d k a0 a1) n (Yag.s0 aA aB v)
theorem Yag.l0_eq (k : Nat) (a0 a1 aA aB : LD) : ∀ n v, Yag.r0 k a0 a1 aA aB n v = Zo (Yag.l0 k aA aB (fun z0 => some z0)) n v :=
 Zm (Yag.s0 aA aB) _ fun L0 v => by kernel_rfl
theorem Yag.ok (k : Nat) : Za Tryz.prog 75 (Yag.e k) := Zh (Yag.p k) mix tyok Tryz.func75 (YaV.ok k) (by kernel_rfl) (fun a0 a1 => Eq.trans (b := Yag.m k a0 a1 (fun z0 => some z0) (fun aA aB => Yag.r0 k a0 a1 aA aB k)) (by kernel_rfl) (congrArg (Yag.m k a0 a1 (fun z0 => some z0)) (funext fun aA => funext fun aB => funext fun v => Yag.l0_eq k a0 a1 aA aB k v)))
noncomputable def Ya2.g {β : Type} (k : Nat) (aC : Int) (aD aF aG : LD) (aX : Int) (aW aZ bE : LD) (K : Bool → Option β) : Option β :=
 bif ((aC : Int) != aX) then (K false) else (Yap.f k aD aW (fun y43 => bif (!y43) then (K false) else (YR.f k aF aZ (fun y44 => bif (!y44) then (K false) else (Yag.f k aG bE (fun y45 => bif (!y45) then (K false) else (K true)))))))
noncomputable def Ya2.t (k : Nat) (aC : Int) (aD aF aG : LD) (aX : Int) (aW aZ bE : LD) : Option (Bool) := Ya2.g k aC aD aF aG aX aW aZ bE (fun z0 => some z0)
noncomputable def Ya2.f {β : Type} (k : Nat) (aC : Int) (aD aF aG : LD) (aX : Int) (aW aZ bE : LD) (K : Bool → Option β) : Option β := bd1 (Ya2.t k aC aD aF aG aX aW aZ bE) K
noncomputable def Ya2.e (k : Nat) : Zk := ent [.agg [.n, .l, .l, .l], .agg [.n, .l, .l, .l]] [1] [.b] [4] false (Ya2.t k)
noncomputable def Ya2.p (k : Nat) : Pro := ⟨Tryz.prog, [(73, Yap.e k), (74, YR.e k), (75, Yag.e k)], Zn [] false [], k⟩
theorem Ya2.ok (k : Nat) : Za Tryz.prog 16 (Ya2.e k) := Zh (Ya2.p k) mix tyok Tryz.func16 ⟨Yap.ok k, YR.ok k, Yag.ok k⟩ (by kernel_rfl) (fun aC aD aF aG aX aW aZ bE => by show _ = _; kernel_rfl)
noncomputable def Yao.l0 {β : Type} (k : Nat) (aA aB : LD) (K : Bool → Option β) (L0 : Int → Option β) (v : Int) : Option β :=
 match v with
 | aE => bif (decide ((aE : Int) < (aA.length : Int))) then (atR aA aE [.n, .l, .l, .l] fun x50 x53 x56 x59 => (atR aB aE [.n, .l, .l, .l] fun x63 x66 x69 x72 => (Ya2.f k x50 x53 x56 x59 x63 x66 x69 x72 (fun y73 => bif (!y73) then (K false) else (L0 (IntKind.wrap .i64 (aE + 1))))))) else (K true)
noncomputable def Yao.m {β : Type} (k : Nat) (a0 a1 : LD) (K : Bool → Option β) (F : (LD → LD → Int → Option β)) : Option β :=
 bif (((a0.length : Int) : Int) != (a1.length : Int)) then (K false) else (F a0 a1 (0))
noncomputable def Yao.g {β : Type} (k : Nat) (a0 a1 : LD) (K : Bool → Option β) : Option β :=
 bif (((a0.length : Int) : Int) != (a1.length : Int)) then (K false) else (Zo (Yao.l0 k a0 a1 K) k (0))
noncomputable def Yao.t (k : Nat) (a0 a1 : LD) : Option (Bool) := Yao.g k a0 a1 (fun z0 => some z0)
noncomputable def Yao.f {β : Type} (k : Nat) (a0 a1 : LD) (K : Bool → Option β) : Option β := bd1 (Yao.t k a0 a1) K
noncomputable def Yao.e (k : Nat) : Zk := ent [.d .l, .d .l] [1] [.b] [4] false (Yao.t k)
noncomputable def Yao.p (k : Nat) : Pro := ⟨Tryz.prog, [(16, Ya2.e k)], Zn [(4, kp [0, 1, 5])] false [], k⟩
noncomputable def Yao.d (k : Nat) (a0 a1 : LD) : Ex → St → Option (Bool) := (Yao.p k).fin Tryz.f27 [.d (.sl a0), .d (.sl a1)] [1] [.b]
noncomputable def Yao.s0 (aA aB : LD) (v : Int) : St :=
 match v with
 | aE => ZX 27 [(0, .d false (.sl aA)), (1, .d false (.sl aB)), (5, .d true (.int .i64 aE))] []
noncomputable def Yao.r0 (k : Nat) (a0 a1 aA aB : LD) (n : Nat) (v : Int) : Option (Bool) := (Yao.p k).lp (Zt Tryz.f27) 4 [1, 1, 0, 1, 0] (Yao.d k a0 a1) n (Yao.s0 aA aB v)
theorem Yao.l0_eq (k : Nat) (a0 a1 aA aB : LD) : ∀ n v, Yao.r0 k a0 a1 aA aB n v = Zo (Yao.l0 k aA aB (fun z0 => some z0)) n v :=
 Zm (Yao.s0 aA aB) _ fun L0 v => by kernel_rfl
theorem Yao.ok (k : Nat) : Za Tryz.prog 27 (Yao.e k) := Zh (Yao.p k) mix tyok Tryz.func27 (Ya2.ok k) (by kernel_rfl) (fun a0 a1 => Eq.trans (b := Yao.m k a0 a1 (fun z0 => some z0) (fun aA aB => Yao.r0 k a0 a1 aA aB k)) (by kernel_rfl) (congrArg (Yao.m k a0 a1 (fun z0 => some z0)) (funext fun aA => funext fun aB => funext fun v => Yao.l0_eq k a0 a1 aA aB k v)))
noncomputable def YaW.g {β : Type} (k : Nat) (aC aD aX aW : BA) (K : Bool → Option β) : Option β :=
 bif (!(Zae aC aX)) then (K false) else (bif (!(Zae aD aW)) then (K false) else (K true))
noncomputable def YaW.t (k : Nat) (aC aD aX aW : BA) : Option (Bool) := YaW.g k aC aD aX aW (fun z0 => some z0)
noncomputable def YaW.f {β : Type} (k : Nat) (aC aD aX aW : BA) (K : Bool → Option β) : Option β := bd1 (YaW.t k aC aD aX aW) K
noncomputable def YaW.e (k : Nat) : Zk := ent [.agg [.s, .s], .agg [.s, .s]] [1] [.b] [4] false (YaW.t k)
noncomputable def YaW.p (k : Nat) : Pro := ⟨Tryz.prog, [], Zn [] false [], k⟩
theorem YaW.ok (k : Nat) : Za Tryz.prog 221 (YaW.e k) := Zh (YaW.p k) mix tyok Tryz.func221 trivial (by kernel_rfl) (fun aC aD aX aW => by show _ = _; kernel_rfl)
noncomputable def Yah.l0 {β : Type} (k : Nat) (aA aB : LD) (K : Bool → Option β) (L0 : Int → Option β) (v : Int) : Option β :=
 match v with
 | aE => bif (decide ((aE : Int) < (aA.length : Int))) then (atR aA aE [.s, .s] fun x19 x22 => (atR aB aE [.s, .s] fun x26 x29 => (YaW.f k x19 x22 x26 x29 (fun y30 => bif (!y30) then (K false) else (L0 (IntKind.wrap .i64 (aE + 1))))))) else (K true)
noncomputable def Yah.m {β : Type} (k : Nat) (a0 a1 : LD) (K : Bool → Option β) (F : (LD → LD → Int → Option β)) : Option β :=
 bif (((a0.length : Int) : Int) != (a1.length : Int)) then (K false) else (F a0 a1 (0))
noncomputable def Yah.g {β : Type} (k : Nat) (a0 a1 : LD) (K : Bool → Option β) : Option β :=
 bif (((a0.length : Int) : Int) != (a1.length : Int)) then (K false) else (Zo (Yah.l0 k a0 a1 K) k (0))
noncomputable def Yah.t (k : Nat) (a0 a1 : LD) : Option (Bool) := Yah.g k a0 a1 (fun z0 => some z0)
noncomputable def Yah.f {β : Type} (k : Nat) (a0 a1 : LD) (K : Bool → Option β) : Option β := bd1 (Yah.t k a0 a1) K
noncomputable def Yah.e (k : Nat) : Zk := ent [.d .l, .d .l] [1] [.b] [4] false (Yah.t k)
noncomputable def Yah.p (k : Nat) : Pro := ⟨Tryz.prog, [(221, YaW.e k)], Zn [(4, kp [0, 1, 5])] false [], k⟩
noncomputable def Yah.d (k : Nat) (a0 a1 : LD) : Ex → St → Option (Bool) := (Yah.p k).fin Tryz.f156 [.d (.sl a0), .d (.sl a1)] [1] [.b]
noncomputable def Yah.s0 (aA aB : LD) (v : Int) : St :=
 match v with
 | aE => ZX 27 [(0, .d false (.sl aA)), (1, .d false (.sl aB)), (5, .d true (.int .i64 aE))] []
noncomputable def Yah.r0 (k : Nat) (a0 a1 aA aB : LD) (n : Nat) (v : Int) : Option (Bool) := (Yah.p k).lp (Zt Tryz.f156) 4 [1, 1, 0, 1, 0] (Yah.d k a0 a1) n (Yah.s0 aA aB v)
theorem Yah.l0_eq (k : Nat) (a0 a1 aA aB : LD) : ∀ n v, Yah.r0 k a0 a1 aA aB n v = Zo (Yah.l0 k aA aB (fun z0 => some z0)) n v :=
 Zm (Yah.s0 aA aB) _ fun L0 v => by kernel_rfl
theorem Yah.ok (k : Nat) : Za Tryz.prog 156 (Yah.e k) := Zh (Yah.p k) mix tyok Tryz.func156 (YaW.ok k) (by kernel_rfl) (fun a0 a1 => Eq.trans (b := Yah.m k a0 a1 (fun z0 => some z0) (fun aA aB => Yah.r0 k a0 a1 aA aB k)) (by kernel_rfl) (congrArg (Yah.m k a0 a1 (fun z0 => some z0)) (funext fun aA => funext fun aB => funext fun v => Yah.l0_eq k a0 a1 aA aB k v)))
noncomputable def YaO.g {β : Type} (k : Nat) (aC : BA) (aD aF : LD) (aG : Int) (aX : BA) (aW aZ : LD) (bE : Int) (K : Bool → Option β) : Option β :=
 bif (!(Zae aC aX)) then (K false) else (Yah.f k aD aW (fun y31 => bif (!y31) then (K false) else (YR.f k aF aZ (fun y32 => bif (!y32) then (K false) else (bif ((aG : Int) != bE) then (K false) else (K true))))))
noncomputable def YaO.t (k : Nat) (aC : BA) (aD aF : LD) (aG : Int) (aX : BA) (aW aZ : LD) (bE : Int) : Option (Bool) := YaO.g k aC aD aF aG aX aW aZ bE (fun z0 => some z0)
noncomputable def YaO.f {β : Type} (k : Nat) (aC : BA) (aD aF : LD) (aG : Int) (aX : BA) (aW aZ : LD) (bE : Int) (K : Bool → Option β) : Option β := bd1 (YaO.t k aC aD aF aG aX aW aZ bE) K
noncomputable def YaO.e (k : Nat) : Zk := ent [.agg [.s, .l, .l, .n], .agg [.s, .l, .l, .n]] [1] [.b] [4] false (YaO.t k)
noncomputable def YaO.p (k : Nat) : Pro := ⟨Tryz.prog, [(156, Yah.e k), (74, YR.e k)], Zn [] false [], k⟩
theorem YaO.ok (k : Nat) : Za Tryz.prog 76 (YaO.e k) := Zh (YaO.p k) mix tyok Tryz.func76 ⟨Yah.ok k, YR.ok k⟩ (by kernel_rfl) (fun aC aD aF aG aX aW aZ bE => by show _ = _; kernel_rfl)
noncomputable def Y5.l0 {β : Type} (k : Nat) (aA aB : LD) (K : Bool → Option β) (L0 : Int → Option β) (v : Int) : Option β :=
 match v with
 | aE => bif (decide ((aE : Int) < (aA.length : Int))) then (atR aA aE [.s, .l, .l, .n] fun x37 x40 x43 x46 => (atR aB aE [.s, .l, .l, .n] fun x50 x53 x56 x59 => (YaO.f k x37 x40 x43 x46 x50 x53 x56 x59 (fun y60 => bif (!y60) then (K false) else (L0 (IntKind.wrap .i64 (aE + 1))))))) else (K true)
noncomputable def Y5.m {β : Type} (k : Nat) (a0 a1 : LD) (K : Bool → Option β) (F : (LD → LD → Int → Option β)) : Option β :=
 bif (((a0.length : Int) : Int) != (a1.length : Int)) then (K false) else (F a0 a1 (0))
noncomputable def Y5.g {β : Type} (k : Nat) (a0 a1 : LD) (K : Bool → Option β) : Option β :=
 bif (((a0.length : Int) : Int) != (a1.length : Int)) then (K false) else (Zo (Y5.l0 k a0 a1 K) k (0))
noncomputable def Y5.t (k : Nat) (a0 a1 : LD) : Option (Bool) := Y5.g k a0 a1 (fun z0 => some z0)
noncomputable def Y5.f {β : Type} (k : Nat) (a0 a1 : LD) (K : Bool → Option β) : Option β := bd1 (Y5.t k a0 a1) K
noncomputable def Y5.e (k : Nat) : Zk := ent [.d .l, .d .l] [1] [.b] [4] false (Y5.t k)
noncomputable def Y5.p (k : Nat) : Pro := ⟨Tryz.prog, [(76, YaO.e k)], Zn [(4, kp [0, 1, 5])] false [], k⟩
noncomputable def Y5.d (k : Nat) (a0 a1 : LD) : Ex → St → Option (Bool) := (Y5.p k).fin Tryz.f17 [.d (.sl a0), .d (.sl a1)] [1] [.b]
noncomputable def Y5.s0 (aA aB : LD) (v : Int) : St :=
 match v with
 | aE => ZX 27 [(0, .d false (.sl aA)), (1, .d false (.sl aB)), (5, .d true (.int .i64 aE))] []
noncomputable def Y5.r0 (k : Nat) (a0 a1 aA aB : LD) (n : Nat) (v : Int) : Option (Bool) := (Y5.p k).lp (Zt Tryz.f17) 4 [1, 1, 0, 1, 0] (Y5.d k a0 a1) n (Y5.s0 aA aB v)
theorem Y5.l0_eq (k : Nat) (a0 a1 aA aB : LD) : ∀ n v, Y5.r0 k a0 a1 aA aB n v = Zo (Y5.l0 k aA aB (fun z0 => some z0)) n v :=
 Zm (Y5.s0 aA aB) _ fun L0 v => by kernel_rfl
theorem Y5.ok (k : Nat) : Za Tryz.prog 17 (Y5.e k) := Zh (Y5.p k) mix tyok Tryz.func17 (YaO.ok k) (by kernel_rfl) (fun a0 a1 => Eq.trans (b := Y5.m k a0 a1 (fun z0 => some z0) (fun aA aB => Y5.r0 k a0 a1 aA aB k)) (by kernel_rfl) (congrArg (Y5.m k a0 a1 (fun z0 => some z0)) (funext fun aA => funext fun aB => funext fun v => Y5.l0_eq k a0 a1 aA aB k v)))
noncomputable def Ym.l0 {β : Type} (k : Nat) (K : BA → Option β) (L0 : (Int × BA) → Option β) (v : Int × BA) : Option β :=
 match v with
 | (aA, aB) => bif (decide ((aA : Int) > 0)) then (let J0 := (⟨#[UInt8.ofNat (Int.toNat (IntKind.wrap .u8 (IntKind.wrap .i64 (48 + (Int.tmod aA 10)))))]⟩ : BA); Zc ((10 : Int) ≠ 0) (Zc (((J0.size + aB.size : Nat) : Int) ≤ 9223372036854775807) (Zc ((10 : Int) ≠ 0) (L0 (IntKind.wrap .i64 (Int.tdiv aA 10), J0 ++ aB))))) else (Zc ((((⟨#[109]⟩ : BA).size + aB.size : Nat) : Int) ≤ 9223372036854775807) (K ((⟨#[109]⟩ : BA) ++ aB)))
noncomputable def Ym.m {β : Type} (k : Nat) (a0 : Int) (K : BA → Option β) (F : ((Int × BA) → Option β)) : Option β :=
 bif (decide ((a0 : Int) ≤ 0)) then (K (⟨#[109, 48]⟩ : BA)) else (F (a0, (⟨#[]⟩ : BA)))
noncomputable def Ym.g {β : Type} (k : Nat) (a0 : Int) (K : BA → Option β) : Option β :=
 bif (decide ((a0 : Int) ≤ 0)) then (K (⟨#[109, 48]⟩ : BA)) else (Zo (Ym.l0 k K) k (a0, (⟨#[]⟩ : BA)))
noncomputable def Ym.t (k : Nat) (a0 : Int) : Option (BA) := Ym.g k a0 (fun z0 => some z0)
noncomputable def Ym.f {β : Type} (k : Nat) (a0 : Int) (K : BA → Option β) : Option β := bd1 (Ym.t k a0) K
noncomputable def Ym.e (k : Nat) : Zk := ent [.d .n] [1] [.s] [9] false (Ym.t k)
noncomputable def Ym.p (k : Nat) : Pro := ⟨Tryz.prog, [], Zn [(4, kp [3] [(0, .dat false)])] false [], k⟩
noncomputable def Ym.d (k : Nat) (a0 : Int) : Ex → St → Option (BA) := (Ym.p k).fin Tryz.f80 [.d (.int .i64 a0)] [1] [.s]
noncomputable def Ym.s0 (v : Int × BA) : St :=
 match v with
 | (aA, aB) => ZX 20 [(0, .d false (.int .i64 aA)), (3, .d true (.str aB))] []
noncomputable def Ym.r0 (k : Nat) (a0 : Int) (n : Nat) (v : Int × BA) : Option (BA) := (Ym.p k).lp (Zt Tryz.f80) 4 [1, 1, 1, 0, 0] (Ym.d k a0) n (Ym.s0 v)
theorem Ym.l0_eq (k : Nat) (a0 : Int) : ∀ n v, Ym.r0 k a0 n v = Zo (Ym.l0 k (fun z0 => some z0)) n v :=
 Zm (Ym.s0) _ fun L0 v => by obtain ⟨aA, aB⟩ := v; kernel_rfl
theorem Ym.ok (k : Nat) : Za Tryz.prog 80 (Ym.e k) := Zh (Ym.p k) mix tyok Tryz.func80 trivial (by kernel_rfl) (fun a0 => Eq.trans (b := Ym.m k a0 (fun z0 => some z0) (Ym.r0 k a0 k)) (by kernel_rfl) (congrArg (Ym.m k a0 (fun z0 => some z0)) (funext fun v => Ym.l0_eq k a0 k v)))
noncomputable def YI.l0 {β : Type} (k : Nat) (K : Int → LC → Option β) (L0 : (Int × Int × LC) → Option β) (v : Int × Int × LC) : Option β :=
 match v with
 | (aA, aB, aE) => bif (decide ((aB : Int) < (aE.length : Int))) then (Ym.f k aA (fun y2 => Zc ((0 : Int) ≤ aB ∧ aB < (aE.length : Int)) (Zc (Int.toNat aB < aE.length) (L0 (IntKind.wrap .i64 (aA + 1), IntKind.wrap .i64 (aB + 1), aE.modify (Int.toNat aB) fun c => Zq c 0 [.d (.str y2)]))))) else (K aA aE)
noncomputable def YI.m {β : Type} (k : Nat) (a0 : LC) (a1 : Int) (K : Int → LC → Option β) (F : ((Int × Int × LC) → Option β)) : Option β :=
 F (a1, 0, a0)
noncomputable def YI.g {β : Type} (k : Nat) (a0 : LC) (a1 : Int) (K : Int → LC → Option β) : Option β :=
 Zo (YI.l0 k K) k (a1, 0, a0)
noncomputable def YI.t (k : Nat) (a0 : LC) (a1 : Int) : Option (Int × LC) := YI.g k a0 a1 (fun z0 z1 => some (z0, z1))
noncomputable def YI.f {β : Type} (k : Nat) (a0 : LC) (a1 : Int) (K : Int → LC → Option β) : Option β := bd2 (YI.t k a0 a1) K
noncomputable def YI.e (k : Nat) : Zk := ent [.own false 23 [.o], .d .n] [1] [.n, .o] [3] false (YI.t k)
noncomputable def YI.p (k : Nat) : Pro := ⟨Tryz.prog, [(80, Ym.e k)], Zn [(2, kp [0, 5] [(1, .dat false)])] false [], k⟩
noncomputable def YI.d (k : Nat) (a0 : LC) (a1 : Int) : Ex → St → Option (Int × LC) := (YI.p k).fin Tryz.f78 [.own false [.own a0], .d (.int .i64 a1)] [1] [.n, .o]
noncomputable def YI.s0 (v : Int × Int × LC) : St :=
 match v with
 | (aA, aB, aE) => ZX 20 [(0, .row 0), (1, .d false (.int .i64 aA)), (5, .d true (.int .i64 aB))] [.row (some 0) false 23 aE]
noncomputable def YI.r0 (k : Nat) (a0 : LC) (a1 : Int) (n : Nat) (v : Int × Int × LC) : Option (Int × LC) := (YI.p k).lp (Zt Tryz.f78) 2 [1, 0, 1, 0] (YI.d k a0 a1) n (YI.s0 v)
theorem YI.l0_eq (k : Nat) (a0 : LC) (a1 : Int) : ∀ n v, YI.r0 k a0 a1 n v = Zo (YI.l0 k (fun z0 z1 => some (z0, z1))) n v :=
 Zm (YI.s0) _ fun L0 v => by obtain ⟨aA, aB, aE⟩ := v; kernel_rfl
theorem YI.ok (k : Nat) : Za Tryz.prog 78 (YI.e k) := Zh (YI.p k) mix tyok Tryz.func78 (Ym.ok k) (by kernel_rfl) (fun a0 a1 => Eq.trans (b := YI.m k a0 a1 (fun z0 z1 => some (z0, z1)) (YI.r0 k a0 a1 k)) (by kernel_rfl) (congrArg (YI.m k a0 a1 (fun z0 z1 => some (z0, z1))) (funext fun v => YI.l0_eq k a0 a1 k v)))
noncomputable def Y0.l0 {β : Type} (k : Nat) (K : Int → LC → Option β) (L0 : (Int × Int × LC) → Option β) (v : Int × Int × LC) : Option β :=
 match v with
 | (aA, aB, aE) => bif (decide ((aB : Int) < (aE.length : Int))) then (Zc ((0 : Int) ≤ aB ∧ aB < (aE.length : Int)) (Zc (Int.toNat aB < aE.length) (Ym.f k (IntKind.wrap .i64 (aA + 1)) (fun y8 => let J1 := (aE.modify (Int.toNat aB) fun c => Zq c 0 [.d (.int .i64 aA)]); let J0 := (J1.modify (Int.toNat aB) fun c => Zq c 1 [.d (.str y8)]); Zc ((0 : Int) ≤ aB ∧ aB < (J1.length : Int)) (Zc (Int.toNat aB < J1.length) (Zc ((0 : Int) ≤ aB ∧ aB < (J0.length : Int)) (ZaG J0 (Int.toNat aB) fun c9 => Zas (c9.drop 2) fun c10 r11 => cOwn c10 fun y12 => YI.f k y12 (IntKind.wrap .i64 ((IntKind.wrap .i64 (aA + 1)) + 1)) (fun y13 y14 => L0 (y13, IntKind.wrap .i64 (aB + 1), J0.modify (Int.toNat aB) fun r => r.set 2 (.own y14)))))))))) else (K aA aE)
noncomputable def Y0.m {β : Type} (k : Nat) (a0 : LC) (a1 : Int) (K : Int → LC → Option β) (F : ((Int × Int × LC) → Option β)) : Option β :=
 F (a1, 0, a0)
noncomputable def Y0.g {β : Type} (k : Nat) (a0 : LC) (a1 : Int) (K : Int → LC → Option β) : Option β :=
 Zo (Y0.l0 k K) k (a1, 0, a0)
noncomputable def Y0.t (k : Nat) (a0 : LC) (a1 : Int) : Option (Int × LC) := Y0.g k a0 a1 (fun z0 z1 => some (z0, z1))
noncomputable def Y0.f {β : Type} (k : Nat) (a0 : LC) (a1 : Int) (K : Int → LC → Option β) : Option β := bd2 (Y0.t k a0 a1) K
noncomputable def Y0.e (k : Nat) : Zk := ent [.own false 32 [.o], .d .n] [1] [.n, .o] [3] false (Y0.t k)
noncomputable def Y0.p (k : Nat) : Pro := ⟨Tryz.prog, [(80, Ym.e k), (78, YI.e k)], Zn [(2, kp [0, 5] [(1, .dat false)])] false [], k⟩
noncomputable def Y0.d (k : Nat) (a0 : LC) (a1 : Int) : Ex → St → Option (Int × LC) := (Y0.p k).fin Tryz.f77 [.own false [.own a0], .d (.int .i64 a1)] [1] [.n, .o]
noncomputable def Y0.s0 (v : Int × Int × LC) : St :=
 match v with
 | (aA, aB, aE) => ZX 35 [(0, .row 0), (1, .d false (.int .i64 aA)), (5, .d true (.int .i64 aB))] [.row (some 0) false 32 aE]
noncomputable def Y0.r0 (k : Nat) (a0 : LC) (a1 : Int) (n : Nat) (v : Int × Int × LC) : Option (Int × LC) := (Y0.p k).lp (Zt Tryz.f77) 2 [1, 0, 1, 0] (Y0.d k a0 a1) n (Y0.s0 v)
theorem Y0.l0_eq (k : Nat) (a0 : LC) (a1 : Int) : ∀ n v, Y0.r0 k a0 a1 n v = Zo (Y0.l0 k (fun z0 z1 => some (z0, z1))) n v :=
 Zm (Y0.s0) _ fun L0 v => by obtain ⟨aA, aB, aE⟩ := v; kernel_rfl
theorem Y0.ok (k : Nat) : Za Tryz.prog 77 (Y0.e k) := Zh (Y0.p k) mix tyok Tryz.func77 ⟨Ym.ok k, YI.ok k⟩ (by kernel_rfl) (fun a0 a1 => Eq.trans (b := Y0.m k a0 a1 (fun z0 z1 => some (z0, z1)) (Y0.r0 k a0 a1 k)) (by kernel_rfl) (congrArg (Y0.m k a0 a1 (fun z0 z1 => some (z0, z1))) (funext fun v => Y0.l0_eq k a0 a1 k v)))
noncomputable def YW.l0 {β : Type} (k : Nat) (K : Int → LC → Option β) (L0 : (Int × Int × LC) → Option β) (v : Int × Int × LC) : Option β :=
 match v with
 | (aA, aB, aE) => bif (decide ((aB : Int) < (aE.length : Int))) then (Ym.f k aA (fun y2 => let J0 := (aE.modify (Int.toNat aB) fun c => Zq c 0 [.d (.str y2)]); Zc ((0 : Int) ≤ aB ∧ aB < (aE.length : Int)) (Zc (Int.toNat aB < aE.length) (Zc ((0 : Int) ≤ aB ∧ aB < (J0.length : Int)) (Zc (Int.toNat aB < J0.length) (L0 (IntKind.wrap .i64 ((IntKind.wrap .i64 (aA + 1)) + 1), IntKind.wrap .i64 (aB + 1), J0.modify (Int.toNat aB) fun c => Zq c 1 [.d (.int .i64 (IntKind.wrap .i64 (aA + 1)))]))))))) else (K aA aE)
noncomputable def YW.m {β : Type} (k : Nat) (a0 : LC) (a1 : Int) (K : Int → LC → Option β) (F : ((Int × Int × LC) → Option β)) : Option β :=
 F (a1, 0, a0)
noncomputable def YW.g {β : Type} (k : Nat) (a0 : LC) (a1 : Int) (K : Int → LC → Option β) : Option β :=
 Zo (YW.l0 k K) k (a1, 0, a0)
noncomputable def YW.t (k : Nat) (a0 : LC) (a1 : Int) : Option (Int × LC) := YW.g k a0 a1 (fun z0 z1 => some (z0, z1))
noncomputable def YW.f {β : Type} (k : Nat) (a0 : LC) (a1 : Int) (K : Int → LC → Option β) : Option β := bd2 (YW.t k a0 a1) K
noncomputable def YW.e (k : Nat) : Zk := ent [.own false 33 [.o], .d .n] [1] [.n, .o] [3] false (YW.t k)
noncomputable def YW.p (k : Nat) : Pro := ⟨Tryz.prog, [(80, Ym.e k)], Zn [(2, kp [0, 5] [(1, .dat false)])] false [], k⟩
noncomputable def YW.d (k : Nat) (a0 : LC) (a1 : Int) : Ex → St → Option (Int × LC) := (YW.p k).fin Tryz.f79 [.own false [.own a0], .d (.int .i64 a1)] [1] [.n, .o]
noncomputable def YW.s0 (v : Int × Int × LC) : St :=
 match v with
 | (aA, aB, aE) => ZX 28 [(0, .row 0), (1, .d false (.int .i64 aA)), (5, .d true (.int .i64 aB))] [.row (some 0) false 33 aE]
noncomputable def YW.r0 (k : Nat) (a0 : LC) (a1 : Int) (n : Nat) (v : Int × Int × LC) : Option (Int × LC) := (YW.p k).lp (Zt Tryz.f79) 2 [1, 0, 1, 0] (YW.d k a0 a1) n (YW.s0 v)
theorem YW.l0_eq (k : Nat) (a0 : LC) (a1 : Int) : ∀ n v, YW.r0 k a0 a1 n v = Zo (YW.l0 k (fun z0 z1 => some (z0, z1))) n v :=
 Zm (YW.s0) _ fun L0 v => by obtain ⟨aA, aB, aE⟩ := v; kernel_rfl
theorem YW.ok (k : Nat) : Za Tryz.prog 79 (YW.e k) := Zh (YW.p k) mix tyok Tryz.func79 (Ym.ok k) (by kernel_rfl) (fun a0 a1 => Eq.trans (b := YW.m k a0 a1 (fun z0 z1 => some (z0, z1)) (YW.r0 k a0 a1 k)) (by kernel_rfl) (congrArg (YW.m k a0 a1 (fun z0 z1 => some (z0, z1))) (funext fun v => YW.l0_eq k a0 a1 k v)))
noncomputable def YZ.l0 {β : Type} (k : Nat) (K : Int → LC → Option β) (L0 : (Int × Int × LC) → Option β) (v : Int × Int × LC) : Option β :=
 match v with
 | (aA, aB, aE) => bif (decide ((aB : Int) < (aE.length : Int))) then (let J2 := (aE.modify (Int.toNat aB) fun c => Zq c 0 [.d (.int .i64 aA)]); Zc ((0 : Int) ≤ aB ∧ aB < (aE.length : Int)) (Zc (Int.toNat aB < aE.length) (Zc ((0 : Int) ≤ aB ∧ aB < (J2.length : Int)) (ZaG J2 (Int.toNat aB) fun c19 => Zas (c19.drop 1) fun c20 r21 => cOwn c20 fun y22 => Y0.f k y22 (IntKind.wrap .i64 (aA + 1)) (fun y23 y24 => let J1 := (J2.modify (Int.toNat aB) fun r => r.set 1 (.own y24)); Zc ((0 : Int) ≤ aB ∧ aB < (J1.length : Int)) (ZaG J1 (Int.toNat aB) fun c25 => Zas (c25.drop 2) fun c26 r27 => cOwn c26 fun y28 => YI.f k y28 y23 (fun y29 y30 => let J0 := (J1.modify (Int.toNat aB) fun r => r.set 2 (.own y30)); Zc ((0 : Int) ≤ aB ∧ aB < (J0.length : Int)) (ZaG J0 (Int.toNat aB) fun c31 => Zas (c31.drop 3) fun c32 r33 => cOwn c32 fun y34 => YW.f k y34 y29 (fun y35 y36 => L0 (y35, IntKind.wrap .i64 (aB + 1), J0.modify (Int.toNat aB) fun r => r.set 3 (.own y36))))))))))) else (K aA aE)
noncomputable def YZ.m {β : Type} (k : Nat) (a0 : LC) (a1 : Int) (K : Int → LC → Option β) (F : ((Int × Int × LC) → Option β)) : Option β :=
 F (a1, 0, a0)
noncomputable def YZ.g {β : Type} (k : Nat) (a0 : LC) (a1 : Int) (K : Int → LC → Option β) : Option β :=
 Zo (YZ.l0 k K) k (a1, 0, a0)
noncomputable def YZ.t (k : Nat) (a0 : LC) (a1 : Int) : Option (Int × LC) := YZ.g k a0 a1 (fun z0 z1 => some (z0, z1))
noncomputable def YZ.f {β : Type} (k : Nat) (a0 : LC) (a1 : Int) (K : Int → LC → Option β) : Option β := bd2 (YZ.t k a0 a1) K
noncomputable def YZ.e (k : Nat) : Zk := ent [.own false 51 [.o], .d .n] [1] [.n, .o] [3] false (YZ.t k)
noncomputable def YZ.p (k : Nat) : Pro := ⟨Tryz.prog, [(77, Y0.e k), (78, YI.e k), (79, YW.e k)], Zn [(2, kp [0, 5] [(1, .dat false)])] false [], k⟩
noncomputable def YZ.d (k : Nat) (a0 : LC) (a1 : Int) : Ex → St → Option (Int × LC) := (YZ.p k).fin Tryz.f28 [.own false [.own a0], .d (.int .i64 a1)] [1] [.n, .o]
noncomputable def YZ.s0 (v : Int × Int × LC) : St :=
 match v with
 | (aA, aB, aE) => ZX 41 [(0, .row 0), (1, .d false (.int .i64 aA)), (5, .d true (.int .i64 aB))] [.row (some 0) false 51 aE]
noncomputable def YZ.r0 (k : Nat) (a0 : LC) (a1 : Int) (n : Nat) (v : Int × Int × LC) : Option (Int × LC) := (YZ.p k).lp (Zt Tryz.f28) 2 [1, 0, 1, 0] (YZ.d k a0 a1) n (YZ.s0 v)
theorem YZ.l0_eq (k : Nat) (a0 : LC) (a1 : Int) : ∀ n v, YZ.r0 k a0 a1 n v = Zo (YZ.l0 k (fun z0 z1 => some (z0, z1))) n v :=
 Zm (YZ.s0) _ fun L0 v => by obtain ⟨aA, aB, aE⟩ := v; kernel_rfl
theorem YZ.ok (k : Nat) : Za Tryz.prog 28 (YZ.e k) := Zh (YZ.p k) mix tyok Tryz.func28 ⟨Y0.ok k, YI.ok k, YW.ok k⟩ (by kernel_rfl) (fun a0 a1 => Eq.trans (b := YZ.m k a0 a1 (fun z0 z1 => some (z0, z1)) (YZ.r0 k a0 a1 k)) (by kernel_rfl) (congrArg (YZ.m k a0 a1 (fun z0 z1 => some (z0, z1))) (funext fun v => YZ.l0_eq k a0 a1 k v)))
noncomputable def YX.l0 {β : Type} (k : Nat) (K : Int → LC → Option β) (L0 : (Int × Int × LC) → Option β) (v : Int × Int × LC) : Option β :=
 match v with
 | (aA, aB, aE) => bif (decide ((aB : Int) < (aE.length : Int))) then (Ym.f k aA (fun y3 => Zc ((0 : Int) ≤ aB ∧ aB < (aE.length : Int)) (Zc (Int.toNat aB < aE.length) (Ym.f k (IntKind.wrap .i64 (aA + 1)) (fun y4 => let J0 := (aE.modify (Int.toNat aB) fun c => Zq c 0 [.d (.str y3)]); Zc ((0 : Int) ≤ aB ∧ aB < (J0.length : Int)) (Zc (Int.toNat aB < J0.length) (L0 (IntKind.wrap .i64 ((IntKind.wrap .i64 (aA + 1)) + 1), IntKind.wrap .i64 (aB + 1), J0.modify (Int.toNat aB) fun c => Zq c 1 [.d (.str y4)])))))))) else (K aA aE)
noncomputable def YX.m {β : Type} (k : Nat) (a0 : LC) (a1 : Int) (K : Int → LC → Option β) (F : ((Int × Int × LC) → Option β)) : Option β :=
 F (a1, 0, a0)
noncomputable def YX.g {β : Type} (k : Nat) (a0 : LC) (a1 : Int) (K : Int → LC → Option β) : Option β :=
 Zo (YX.l0 k K) k (a1, 0, a0)
noncomputable def YX.t (k : Nat) (a0 : LC) (a1 : Int) : Option (Int × LC) := YX.g k a0 a1 (fun z0 z1 => some (z0, z1))
noncomputable def YX.f {β : Type} (k : Nat) (a0 : LC) (a1 : Int) (K : Int → LC → Option β) : Option β := bd2 (YX.t k a0 a1) K
noncomputable def YX.e (k : Nat) : Zk := ent [.own false 116 [.o], .d .n] [1] [.n, .o] [3] false (YX.t k)
noncomputable def YX.p (k : Nat) : Pro := ⟨Tryz.prog, [(80, Ym.e k)], Zn [(2, kp [0, 5] [(1, .dat false)])] false [], k⟩
noncomputable def YX.d (k : Nat) (a0 : LC) (a1 : Int) : Ex → St → Option (Int × LC) := (YX.p k).fin Tryz.f81 [.own false [.own a0], .d (.int .i64 a1)] [1] [.n, .o]
noncomputable def YX.s0 (v : Int × Int × LC) : St :=
 match v with
 | (aA, aB, aE) => ZX 29 [(0, .row 0), (1, .d false (.int .i64 aA)), (5, .d true (.int .i64 aB))] [.row (some 0) false 116 aE]
noncomputable def YX.r0 (k : Nat) (a0 : LC) (a1 : Int) (n : Nat) (v : Int × Int × LC) : Option (Int × LC) := (YX.p k).lp (Zt Tryz.f81) 2 [1, 0, 1, 0] (YX.d k a0 a1) n (YX.s0 v)
theorem YX.l0_eq (k : Nat) (a0 : LC) (a1 : Int) : ∀ n v, YX.r0 k a0 a1 n v = Zo (YX.l0 k (fun z0 z1 => some (z0, z1))) n v :=
 Zm (YX.s0) _ fun L0 v => by obtain ⟨aA, aB, aE⟩ := v; kernel_rfl
theorem YX.ok (k : Nat) : Za Tryz.prog 81 (YX.e k) := Zh (YX.p k) mix tyok Tryz.func81 (Ym.ok k) (by kernel_rfl) (fun a0 a1 => Eq.trans (b := YX.m k a0 a1 (fun z0 z1 => some (z0, z1)) (YX.r0 k a0 a1 k)) (by kernel_rfl) (congrArg (YX.m k a0 a1 (fun z0 z1 => some (z0, z1))) (funext fun v => YX.l0_eq k a0 a1 k v)))
noncomputable def YT.l0 {β : Type} (k : Nat) (K : Int → LC → Option β) (L0 : (Int × Int × LC) → Option β) (v : Int × Int × LC) : Option β :=
 match v with
 | (aA, aB, aE) => bif (decide ((aB : Int) < (aE.length : Int))) then (Ym.f k aA (fun y14 => let J2 := (aE.modify (Int.toNat aB) fun c => Zq c 0 [.d (.str y14)]); Zc ((0 : Int) ≤ aB ∧ aB < (aE.length : Int)) (Zc (Int.toNat aB < aE.length) (Zc ((0 : Int) ≤ aB ∧ aB < (J2.length : Int)) (ZaG J2 (Int.toNat aB) fun c15 => Zas (c15.drop 1) fun c16 r17 => cOwn c16 fun y18 => YX.f k y18 (IntKind.wrap .i64 (aA + 1)) (fun y19 y20 => let J1 := (J2.modify (Int.toNat aB) fun r => r.set 1 (.own y20)); Zc ((0 : Int) ≤ aB ∧ aB < (J1.length : Int)) (ZaG J1 (Int.toNat aB) fun c21 => Zas (c21.drop 2) fun c22 r23 => cOwn c22 fun y24 => YI.f k y24 y19 (fun y25 y26 => let J0 := (J1.modify (Int.toNat aB) fun r => r.set 2 (.own y26)); Zc ((0 : Int) ≤ aB ∧ aB < (J0.length : Int)) (Zc (Int.toNat aB < J0.length) (L0 (IntKind.wrap .i64 (y25 + 1), IntKind.wrap .i64 (aB + 1), J0.modify (Int.toNat aB) fun c => Zq c 3 [.d (.int .i64 y25)]))))))))))) else (K aA aE)
noncomputable def YT.m {β : Type} (k : Nat) (a0 : LC) (a1 : Int) (K : Int → LC → Option β) (F : ((Int × Int × LC) → Option β)) : Option β :=
 F (a1, 0, a0)
noncomputable def YT.g {β : Type} (k : Nat) (a0 : LC) (a1 : Int) (K : Int → LC → Option β) : Option β :=
 Zo (YT.l0 k K) k (a1, 0, a0)
noncomputable def YT.t (k : Nat) (a0 : LC) (a1 : Int) : Option (Int × LC) := YT.g k a0 a1 (fun z0 z1 => some (z0, z1))
noncomputable def YT.f {β : Type} (k : Nat) (a0 : LC) (a1 : Int) (K : Int → LC → Option β) : Option β := bd2 (YT.t k a0 a1) K
noncomputable def YT.e (k : Nat) : Zk := ent [.own false 37 [.o], .d .n] [1] [.n, .o] [3] false (YT.t k)
noncomputable def YT.p (k : Nat) : Pro := ⟨Tryz.prog, [(80, Ym.e k), (81, YX.e k), (78, YI.e k)], Zn [(2, kp [0, 5] [(1, .dat false)])] false [], k⟩
noncomputable def YT.d (k : Nat) (a0 : LC) (a1 : Int) : Ex → St → Option (Int × LC) := (YT.p k).fin Tryz.f19 [.own false [.own a0], .d (.int .i64 a1)] [1] [.n, .o]
noncomputable def YT.s0 (v : Int × Int × LC) : St :=
 match v with
 | (aA, aB, aE) => ZX 42 [(0, .row 0), (1, .d false (.int .i64 aA)), (5, .d true (.int .i64 aB))] [.row (some 0) false 37 aE]
noncomputable def YT.r0 (k : Nat) (a0 : LC) (a1 : Int) (n : Nat) (v : Int × Int × LC) : Option (Int × LC) := (YT.p k).lp (Zt Tryz.f19) 2 [1, 0, 1, 0] (YT.d k a0 a1) n (YT.s0 v)
theorem YT.l0_eq (k : Nat) (a0 : LC) (a1 : Int) : ∀ n v, YT.r0 k a0 a1 n v = Zo (YT.l0 k (fun z0 z1 => some (z0, z1))) n v :=
 Zm (YT.s0) _ fun L0 v => by obtain ⟨aA, aB, aE⟩ := v; kernel_rfl
theorem YT.ok (k : Nat) : Za Tryz.prog 19 (YT.e k) := Zh (YT.p k) mix tyok Tryz.func19 ⟨Ym.ok k, YX.ok k, YI.ok k⟩ (by kernel_rfl) (fun a0 a1 => Eq.trans (b := YT.m k a0 a1 (fun z0 z1 => some (z0, z1)) (YT.r0 k a0 a1 k)) (by kernel_rfl) (congrArg (YT.m k a0 a1 (fun z0 z1 => some (z0, z1))) (funext fun v => YT.l0_eq k a0 a1 k v)))
noncomputable def Yab.l0 {β : Type} (k : Nat) (K : Int → LC → Option β) (L0 : (Int × Int × LC) → Option β) (v : Int × Int × LC) : Option β :=
 match v with
 | (aA, aB, aE) => bif (decide ((aB : Int) < (aE.length : Int))) then (Zc ((0 : Int) ≤ aB ∧ aB < (aE.length : Int)) (Zc (Int.toNat aB < aE.length) (L0 (IntKind.wrap .i64 (aA + 1), IntKind.wrap .i64 (aB + 1), aE.modify (Int.toNat aB) fun c => Zq c 0 [.d (.int .i64 aA)])))) else (K aA aE)
noncomputable def Yab.m {β : Type} (k : Nat) (a0 : LC) (a1 : Int) (K : Int → LC → Option β) (F : ((Int × Int × LC) → Option β)) : Option β :=
 F (a1, 0, a0)
noncomputable def Yab.g {β : Type} (k : Nat) (a0 : LC) (a1 : Int) (K : Int → LC → Option β) : Option β :=
 Zo (Yab.l0 k K) k (a1, 0, a0)
noncomputable def Yab.t (k : Nat) (a0 : LC) (a1 : Int) : Option (Int × LC) := Yab.g k a0 a1 (fun z0 z1 => some (z0, z1))
noncomputable def Yab.f {β : Type} (k : Nat) (a0 : LC) (a1 : Int) (K : Int → LC → Option β) : Option β := bd2 (Yab.t k a0 a1) K
noncomputable def Yab.e (k : Nat) : Zk := ent [.own false 28 [.o], .d .n] [1] [.n, .o] [3] false (Yab.t k)
noncomputable def Yab.p (k : Nat) : Pro := ⟨Tryz.prog, [], Zn [(2, kp [0, 5] [(1, .dat false)])] false [], k⟩
noncomputable def Yab.d (k : Nat) (a0 : LC) (a1 : Int) : Ex → St → Option (Int × LC) := (Yab.p k).fin Tryz.f20 [.own false [.own a0], .d (.int .i64 a1)] [1] [.n, .o]
noncomputable def Yab.s0 (v : Int × Int × LC) : St :=
 match v with
 | (aA, aB, aE) => ZX 19 [(0, .row 0), (1, .d false (.int .i64 aA)), (5, .d true (.int .i64 aB))] [.row (some 0) false 28 aE]
noncomputable def Yab.r0 (k : Nat) (a0 : LC) (a1 : Int) (n : Nat) (v : Int × Int × LC) : Option (Int × LC) := (Yab.p k).lp (Zt Tryz.f20) 2 [1, 0, 1, 0] (Yab.d k a0 a1) n (Yab.s0 v)
theorem Yab.l0_eq (k : Nat) (a0 : LC) (a1 : Int) : ∀ n v, Yab.r0 k a0 a1 n v = Zo (Yab.l0 k (fun z0 z1 => some (z0, z1))) n v :=
 Zm (Yab.s0) _ fun L0 v => by obtain ⟨aA, aB, aE⟩ := v; kernel_rfl
theorem Yab.ok (k : Nat) : Za Tryz.prog 20 (Yab.e k) := Zh (Yab.p k) mix tyok Tryz.func20 trivial (by kernel_rfl) (fun a0 a1 => Eq.trans (b := Yab.m k a0 a1 (fun z0 z1 => some (z0, z1)) (Yab.r0 k a0 a1 k)) (by kernel_rfl) (congrArg (Yab.m k a0 a1 (fun z0 z1 => some (z0, z1))) (funext fun v => Yab.l0_eq k a0 a1 k v)))
noncomputable def Y1.l0 {β : Type} (k : Nat) (K : Int → LC → Option β) (L0 : (Int × Int × LC) → Option β) (v : Int × Int × LC) : Option β :=
 match v with
 | (aA, aB, aE) => bif (decide ((aB : Int) < (aE.length : Int))) then (Zc ((0 : Int) ≤ aB ∧ aB < (aE.length : Int)) (ZaG aE (Int.toNat aB) fun c7 => Zas (c7.drop 0) fun c8 r9 => cOwn c8 fun y10 => Yab.f k y10 aA (fun y11 y12 => L0 (y11, IntKind.wrap .i64 (aB + 1), aE.modify (Int.toNat aB) fun r => r.set 0 (.own y12))))) else (K aA aE)
noncomputable def Y1.m {β : Type} (k : Nat) (a0 : LC) (a1 : Int) (K : Int → LC → Option β) (F : ((Int × Int × LC) → Option β)) : Option β :=
 F (a1, 0, a0)
noncomputable def Y1.g {β : Type} (k : Nat) (a0 : LC) (a1 : Int) (K : Int → LC → Option β) : Option β :=
 Zo (Y1.l0 k K) k (a1, 0, a0)
noncomputable def Y1.t (k : Nat) (a0 : LC) (a1 : Int) : Option (Int × LC) := Y1.g k a0 a1 (fun z0 z1 => some (z0, z1))
noncomputable def Y1.f {β : Type} (k : Nat) (a0 : LC) (a1 : Int) (K : Int → LC → Option β) : Option β := bd2 (Y1.t k a0 a1) K
noncomputable def Y1.e (k : Nat) : Zk := ent [.own false 49 [.o], .d .n] [1] [.n, .o] [3] false (Y1.t k)
noncomputable def Y1.p (k : Nat) : Pro := ⟨Tryz.prog, [(20, Yab.e k)], Zn [(2, kp [0, 5] [(1, .dat false)])] false [], k⟩
noncomputable def Y1.d (k : Nat) (a0 : LC) (a1 : Int) : Ex → St → Option (Int × LC) := (Y1.p k).fin Tryz.f29 [.own false [.own a0], .d (.int .i64 a1)] [1] [.n, .o]
noncomputable def Y1.s0 (v : Int × Int × LC) : St :=
 match v with
 | (aA, aB, aE) => ZX 19 [(0, .row 0), (1, .d false (.int .i64 aA)), (5, .d true (.int .i64 aB))] [.row (some 0) false 49 aE]
noncomputable def Y1.r0 (k : Nat) (a0 : LC) (a1 : Int) (n : Nat) (v : Int × Int × LC) : Option (Int × LC) := (Y1.p k).lp (Zt Tryz.f29) 2 [1, 0, 1, 0] (Y1.d k a0 a1) n (Y1.s0 v)
theorem Y1.l0_eq (k : Nat) (a0 : LC) (a1 : Int) : ∀ n v, Y1.r0 k a0 a1 n v = Zo (Y1.l0 k (fun z0 z1 => some (z0, z1))) n v :=
 Zm (Y1.s0) _ fun L0 v => by obtain ⟨aA, aB, aE⟩ := v; kernel_rfl
theorem Y1.ok (k : Nat) : Za Tryz.prog 29 (Y1.e k) := Zh (Y1.p k) mix tyok Tryz.func29 (Yab.ok k) (by kernel_rfl) (fun a0 a1 => Eq.trans (b := Y1.m k a0 a1 (fun z0 z1 => some (z0, z1)) (Y1.r0 k a0 a1 k)) (by kernel_rfl) (congrArg (Y1.m k a0 a1 (fun z0 z1 => some (z0, z1))) (funext fun v => Y1.l0_eq k a0 a1 k v)))
noncomputable def Y3.l0 {β : Type} (k : Nat) (aA : LD) (K : Int → Option β) (L0 : (Int × Int) → Option β) (v : Int × Int) : Option β :=
 match v with
 | (aB, aE) => bif (decide ((aE : Int) < (aA.length : Int))) then (atR aA aE [.n] fun x8 => (bif ((x8 : Int) != aB) then (K (-1)) else (L0 (IntKind.wrap .i64 (aB + 1), IntKind.wrap .i64 (aE + 1))))) else (K aB)
noncomputable def Y3.m {β : Type} (k : Nat) (a0 : LD) (a1 : Int) (K : Int → Option β) (F : (LD → (Int × Int) → Option β)) : Option β :=
 F a0 (a1, 0)
noncomputable def Y3.g {β : Type} (k : Nat) (a0 : LD) (a1 : Int) (K : Int → Option β) : Option β :=
 Zo (Y3.l0 k a0 K) k (a1, 0)
noncomputable def Y3.t (k : Nat) (a0 : LD) (a1 : Int) : Option (Int) := Y3.g k a0 a1 (fun z0 => some z0)
noncomputable def Y3.f {β : Type} (k : Nat) (a0 : LD) (a1 : Int) (K : Int → Option β) : Option β := bd1 (Y3.t k a0 a1) K
noncomputable def Y3.e (k : Nat) : Zk := ent [.d .l, .d .n] [1] [.n] [3] false (Y3.t k)
noncomputable def Y3.p (k : Nat) : Pro := ⟨Tryz.prog, [], Zn [(2, kp [0, 5] [(1, .dat false)])] false [], k⟩
noncomputable def Y3.d (k : Nat) (a0 : LD) (a1 : Int) : Ex → St → Option (Int) := (Y3.p k).fin Tryz.f21 [.d (.sl a0), .d (.int .i64 a1)] [1] [.n]
noncomputable def Y3.s0 (aA : LD) (v : Int × Int) : St :=
 match v with
 | (aB, aE) => ZX 21 [(0, .d false (.sl aA)), (1, .d false (.int .i64 aB)), (5, .d true (.int .i64 aE))] []
noncomputable def Y3.r0 (k : Nat) (a0 : LD) (a1 : Int) (aA : LD) (n : Nat) (v : Int × Int) : Option (Int) := (Y3.p k).lp (Zt Tryz.f21) 2 [1, 0, 1, 0] (Y3.d k a0 a1) n (Y3.s0 aA v)
theorem Y3.l0_eq (k : Nat) (a0 : LD) (a1 : Int) (aA : LD) : ∀ n v, Y3.r0 k a0 a1 aA n v = Zo (Y3.l0 k aA (fun z0 => some z0)) n v :=
 Zm (Y3.s0 aA) _ fun L0 v => by obtain ⟨aB, aE⟩ := v; kernel_rfl
theorem Y3.ok (k : Nat) : Za Tryz.prog 21 (Y3.e k) := Zh (Y3.p k) mix tyok Tryz.func21 trivial (by kernel_rfl) (fun a0 a1 => Eq.trans (b := Y3.m k a0 a1 (fun z0 => some z0) (fun aA => Y3.r0 k a0 a1 aA k)) (by kernel_rfl) (congrArg (Y3.m k a0 a1 (fun z0 => some z0)) (funext fun aA => funext fun v => Y3.l0_eq k a0 a1 aA k v)))
noncomputable def YU.l0 {β : Type} (k : Nat) (aA : LD) (K : Int → Option β) (L0 : (Int × Int) → Option β) (v : Int × Int) : Option β :=
 match v with
 | (aB, aE) => bif (decide ((aE : Int) < (aA.length : Int))) then (atR aA aE [.l] fun x9 => (Y3.f k x9 aB (fun y10 => bif (decide ((y10 : Int) < 0)) then (K (-1)) else (L0 (y10, IntKind.wrap .i64 (aE + 1)))))) else (K aB)
noncomputable def YU.m {β : Type} (k : Nat) (a0 : LD) (a1 : Int) (K : Int → Option β) (F : (LD → (Int × Int) → Option β)) : Option β :=
 F a0 (a1, 0)
noncomputable def YU.g {β : Type} (k : Nat) (a0 : LD) (a1 : Int) (K : Int → Option β) : Option β :=
 Zo (YU.l0 k a0 K) k (a1, 0)
noncomputable def YU.t (k : Nat) (a0 : LD) (a1 : Int) : Option (Int) := YU.g k a0 a1 (fun z0 => some z0)
noncomputable def YU.f {β : Type} (k : Nat) (a0 : LD) (a1 : Int) (K : Int → Option β) : Option β := bd1 (YU.t k a0 a1) K
noncomputable def YU.e (k : Nat) : Zk := ent [.d .l, .d .n] [1] [.n] [3] false (YU.t k)
noncomputable def YU.p (k : Nat) : Pro := ⟨Tryz.prog, [(21, Y3.e k)], Zn [(2, kp [0, 5] [(1, .dat false)])] false [], k⟩
noncomputable def YU.d (k : Nat) (a0 : LD) (a1 : Int) : Ex → St → Option (Int) := (YU.p k).fin Tryz.f30 [.d (.sl a0), .d (.int .i64 a1)] [1] [.n]
noncomputable def YU.s0 (aA : LD) (v : Int × Int) : St :=
 match v with
 | (aB, aE) => ZX 21 [(0, .d false (.sl aA)), (1, .d false (.int .i64 aB)), (5, .d true (.int .i64 aE))] []
noncomputable def YU.r0 (k : Nat) (a0 : LD) (a1 : Int) (aA : LD) (n : Nat) (v : Int × Int) : Option (Int) := (YU.p k).lp (Zt Tryz.f30) 2 [1, 0, 1, 0] (YU.d k a0 a1) n (YU.s0 aA v)
theorem YU.l0_eq (k : Nat) (a0 : LD) (a1 : Int) (aA : LD) : ∀ n v, YU.r0 k a0 a1 aA n v = Zo (YU.l0 k aA (fun z0 => some z0)) n v :=
 Zm (YU.s0 aA) _ fun L0 v => by obtain ⟨aB, aE⟩ := v; kernel_rfl
theorem YU.ok (k : Nat) : Za Tryz.prog 30 (YU.e k) := Zh (YU.p k) mix tyok Tryz.func30 (Y3.ok k) (by kernel_rfl) (fun a0 a1 => Eq.trans (b := YU.m k a0 a1 (fun z0 => some z0) (fun aA => YU.r0 k a0 a1 aA k)) (by kernel_rfl) (congrArg (YU.m k a0 a1 (fun z0 => some z0)) (funext fun aA => funext fun v => YU.l0_eq k a0 a1 aA k v)))
noncomputable def YaX.g {β : Type} (k : Nat) (a0 a1 : LD) (K : Bool → Option β) : Option β :=
 Yam.f k a0 1048576 (fun y41 => bif (decide ((y41 : Int) < 0)) then (K true) else (Y4.f k a1 y41 (fun y42 => bif (decide ((y42 : Int) < 0)) then (K true) else (YY.f k a0 (fun y51 => YN.f k a1 (fun y52 => YA.f k (C.immRows y51) (C.immRows y52) (fun y790 => YY.f k a0 (fun y791 => YN.f k a1 (fun y792 => YB.f k (C.immRows y791) (C.immRows y792) (fun y793 => Y9.f k (C.immRows y793) (C.immRows y790) (fun y794 => bif (!y794) then (K false) else (YY.f k a0 (fun y795 => Yao.f k (C.immRows y791) (C.immRows y795) (fun y796 => bif (!y796) then (K false) else (YN.f k a1 (fun y797 => Y5.f k (C.immRows y792) (C.immRows y797) (fun y798 => bif (!y798) then (K false) else (YZ.f k y791 1 (fun y799 y800 => Zc (y800.length = y791.length) (YT.f k y792 y799 (fun y801 y802 => Zc (y802.length = y792.length) (bif (decide ((y801 : Int) < 0)) then (K false) else (Y9.f k (C.immRows y793) (C.immRows y790) (fun y803 => bif (!y803) then (K false) else (Y1.f k y793 1 (fun y804 y805 => Zc (y805.length = y793.length) (YU.f k (C.immRows y805) 1 (fun y806 => bif (decide ((y806 : Int) < 0)) then (K false) else (bif ((y806 : Int) != y804) then (K false) else (YY.f k a0 (fun y807 => YN.f k a1 (fun y808 => YB.f k (C.immRows y807) (C.immRows y808) (fun y809 => Y9.f k (C.immRows y809) (C.immRows y790) (fun y810 => bif (!y810) then (K false) else (YU.f k (C.immRows y805) 1 (fun y811 => bif (decide ((y811 : Int) < 0)) then (K false) else (bif ((y811 : Int) != y804) then (K false) else (K true))))))))))))))))))))))))))))))))))))))
noncomputable def YaX.t (k : Nat) (a0 a1 : LD) : Option (Bool) := YaX.g k a0 a1 (fun z0 => some z0)
noncomputable def YaX.e (k : Nat) : Zk := ent [.d .l, .d .l] [1] [.b] [4] false (YaX.t k)
noncomputable def YaX.p (k : Nat) : Pro := ⟨Tryz.prog, [(22, Yam.e k), (9, Y4.e k), (24, YY.e k), (12, YN.e k), (23, YA.e k), (25, YB.e k), (26, Y9.e k), (27, Yao.e k), (17, Y5.e k), (28, YZ.e k), (19, YT.e k), (29, Y1.e k), (30, YU.e k)], Zn [] false [], k⟩
theorem YaX.ok (k : Nat) : Za Tryz.prog 4 (YaX.e k) := Zh (YaX.p k) mix tyok Tryz.func4 ⟨Yam.ok k, Y4.ok k, YY.ok k, YN.ok k, YA.ok k, YB.ok k, Y9.ok k, Yao.ok k, Y5.ok k, YZ.ok k, YT.ok k, Y1.ok k, YU.ok k⟩ (by kernel_rfl) (fun a0 a1 => by show _ = _; kernel_rfl)
end Go.Proofs.YtppfencdbabmeaaGreat
