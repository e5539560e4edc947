/- Printed: the functions that FnCaught reaches,read by the evaluator,each with its contract. -/
import Derived.Test.YtpgplbalenfgfaaXFnCaught0
import Derived.KernelRfl
set_option linter.unusedVariables false
set_option linter.unusedSimpArgs false
namespace Go.Proofs.Ytpgplbalenfgfaa
open Go Go.T Go.Proofs
noncomputable def Yd.l0 {β : Type} (k : Nat) (aF : LD) (aH : Int) (aI : BA) (aJ aL aM : Int) (aN : Bool) (aO : LD) (aP : Int) (aU : BA) (aW : Int) (aY aZ : LD) (bZ : Int) (cE : BA) (cF : Int) (cG cH : LD) (cJ : Int) (K L0 : Int → Option β) (v : Int) : Option β :=
 match v with
 | cL => bif (decide ((cL : Int) < cJ)) then (atR aF cL [.n,.s,.n,.n,.n,.b,.l,.n,.s,.n,.l,.l,.n,.s,.n,.l,.l] fun x57 x60 x63 x66 x69 x72 x75 x78 x81 x84 x87 x90 x93 x96 x99 x102 x105 => (Yao.f k x57 x60 x63 x66 x69 x72 x75 x78 x81 x84 x87 x90 x93 x96 x99 x102 x105 aH aI aJ aL aM aN aO aP aU aW aY aZ bZ cE cF cG cH (fun y106 => bif y106 then (K cL) else (L0 (IntKind.wrap .i64 (cL + 1)))))) else (K (-1))
noncomputable def Yd.m {β : Type} (k : Nat) (a0 : LD) (a1_0_0 : Int) (a1_0_1 : BA) (a1_0_2 a1_0_3 a1_0_4 : Int) (a1_0_5 : Bool) (a1_0_6 : LD) (a1_0_7 : Int) (a1_0_8 : BA) (a1_0_9 : Int) (a1_0_10 a1_0_11 : LD) (a1_0_12 : Int) (a1_0_13 : BA) (a1_0_14 : Int) (a1_0_15 a1_0_16 : LD) (K : Int → Option β) (F : (LD → Int → BA → Int → Int → Int → Bool → LD → Int → BA → Int → LD → LD → Int → BA → Int → LD → LD → Int → Int → Option β)) : Option β :=
 F a0 a1_0_0 a1_0_1 a1_0_2 a1_0_3 a1_0_4 a1_0_5 a1_0_6 a1_0_7 a1_0_8 a1_0_9 a1_0_10 a1_0_11 a1_0_12 a1_0_13 a1_0_14 a1_0_15 a1_0_16 (a0.length : Int) (0)
noncomputable def Yd.g {β : Type} (k : Nat) (a0 : LD) (a1_0_0 : Int) (a1_0_1 : BA) (a1_0_2 a1_0_3 a1_0_4 : Int) (a1_0_5 : Bool) (a1_0_6 : LD) (a1_0_7 : Int) (a1_0_8 : BA) (a1_0_9 : Int) (a1_0_10 a1_0_11 : LD) (a1_0_12 : Int) (a1_0_13 : BA) (a1_0_14 : Int) (a1_0_15 a1_0_16 : LD) (K : Int → Option β) : Option β :=
 ZA (Yd.l0 k a0 a1_0_0 a1_0_1 a1_0_2 a1_0_3 a1_0_4 a1_0_5 a1_0_6 a1_0_7 a1_0_8 a1_0_9 a1_0_10 a1_0_11 a1_0_12 a1_0_13 a1_0_14 a1_0_15 a1_0_16 (a0.length : Int) K) k (0)
noncomputable def Yd.t (k : Nat) (a0 : LD) (a1_0_0 : Int) (a1_0_1 : BA) (a1_0_2 a1_0_3 a1_0_4 : Int) (a1_0_5 : Bool) (a1_0_6 : LD) (a1_0_7 : Int) (a1_0_8 : BA) (a1_0_9 : Int) (a1_0_10 a1_0_11 : LD) (a1_0_12 : Int) (a1_0_13 : BA) (a1_0_14 : Int) (a1_0_15 a1_0_16 : LD) : Option (Int) := Yd.g k a0 a1_0_0 a1_0_1 a1_0_2 a1_0_3 a1_0_4 a1_0_5 a1_0_6 a1_0_7 a1_0_8 a1_0_9 a1_0_10 a1_0_11 a1_0_12 a1_0_13 a1_0_14 a1_0_15 a1_0_16 (fun z0 => some z0)
noncomputable def Yd.f {β : Type} (k : Nat) (a0 : LD) (a1_0_0 : Int) (a1_0_1 : BA) (a1_0_2 a1_0_3 a1_0_4 : Int) (a1_0_5 : Bool) (a1_0_6 : LD) (a1_0_7 : Int) (a1_0_8 : BA) (a1_0_9 : Int) (a1_0_10 a1_0_11 : LD) (a1_0_12 : Int) (a1_0_13 : BA) (a1_0_14 : Int) (a1_0_15 a1_0_16 : LD) (K : Int → Option β) : Option β := bd1 (Yd.t k a0 a1_0_0 a1_0_1 a1_0_2 a1_0_3 a1_0_4 a1_0_5 a1_0_6 a1_0_7 a1_0_8 a1_0_9 a1_0_10 a1_0_11 a1_0_12 a1_0_13 a1_0_14 a1_0_15 a1_0_16) K
noncomputable def Yd.e (k : Nat) : Zj := ent [.d .l,.fn 207 [[.n,.s,.n,.n,.n,.b,.l,.n,.s,.n,.l,.l,.n,.s,.n,.l,.l]]] [1] [.n] [3] false (Yd.t k)
noncomputable def Yd.p (k : Nat) : Pro := ⟨Try.prog,[(207,Yao.e k)],Zv [(2,kp [0,1,7,8])] false [],k⟩
noncomputable def Yd.d (k : Nat) (a0 : LD) (a1_0_0 : Int) (a1_0_1 : BA) (a1_0_2 a1_0_3 a1_0_4 : Int) (a1_0_5 : Bool) (a1_0_6 : LD) (a1_0_7 : Int) (a1_0_8 : BA) (a1_0_9 : Int) (a1_0_10 a1_0_11 : LD) (a1_0_12 : Int) (a1_0_13 : BA) (a1_0_14 : Int) (a1_0_15 a1_0_16 : LD) : Ex → St → Option (Int) := (Yd.p k).fin Try.f241 [.d (.sl a0),.d (.fn 207 [[.int .i64 a1_0_0,.str a1_0_1,.int .i64 a1_0_2,.int .i64 a1_0_3,.int .i64 a1_0_4,.bool a1_0_5,.sl a1_0_6,.int .i64 a1_0_7,.str a1_0_8,.int .i64 a1_0_9,.sl a1_0_10,.sl a1_0_11,.int .i64 a1_0_12,.str a1_0_13,.int .i64 a1_0_14,.sl a1_0_15,.sl a1_0_16]])] [1] [.n]
noncomputable def Yd.s0 (aF : LD) (aH : Int) (aI : BA) (aJ aL aM : Int) (aN : Bool) (aO : LD) (aP : Int) (aU : BA) (aW : Int) (aY aZ : LD) (bZ : Int) (cE : BA) (cF : Int) (cG cH : LD) (cJ v : Int) : St :=
 match v with
 | cL => ZaA 19 [(0,.d false (.sl aF)),(1,.d false (.fn 207 [[.int .i64 aH,.str aI,.int .i64 aJ,.int .i64 aL,.int .i64 aM,.bool aN,.sl aO,.int .i64 aP,.str aU,.int .i64 aW,.sl aY,.sl aZ,.int .i64 bZ,.str cE,.int .i64 cF,.sl cG,.sl cH]])),(7,.d true (.int .i64 cJ)),(8,.d true (.int .i64 cL))] []
noncomputable def Yd.r0 (k : Nat) (a0 : LD) (a1_0_0 : Int) (a1_0_1 : BA) (a1_0_2 a1_0_3 a1_0_4 : Int) (a1_0_5 : Bool) (a1_0_6 : LD) (a1_0_7 : Int) (a1_0_8 : BA) (a1_0_9 : Int) (a1_0_10 a1_0_11 : LD) (a1_0_12 : Int) (a1_0_13 : BA) (a1_0_14 : Int) (a1_0_15 a1_0_16 aF : LD) (aH : Int) (aI : BA) (aJ aL aM : Int) (aN : Bool) (aO : LD) (aP : Int) (aU : BA) (aW : Int) (aY aZ : LD) (bZ : Int) (cE : BA) (cF : Int) (cG cH : LD) (cJ : Int) (n : Nat) (v : Int) : Option (Int) := (Yd.p k).lp (ZI Try.f241) 2 [1,0,1,0] (Yd.d k a0 a1_0_0 a1_0_1 a1_0_2 a1_0_3 a1_0_4 a1_0_5 a1_0_6 a1_0_7 a1_0_8 a1_0_9 a1_0_10 a1_0_11 a1_0_12 a1_0_13 a1_0_14 a1_0_15 a1_0_16) n (Yd.s0 aF aH aI aJ aL aM aN aO aP aU aW aY aZ bZ cE cF cG cH cJ v)
theorem Yd.l0_eq (k : Nat) (a0 : LD) (a1_0_0 : Int) (a1_0_1 : BA) (a1_0_2 a1_0_3 a1_0_4 : Int) (a1_0_5 : Bool) (a1_0_6 : LD) (a1_0_7 : Int) (a1_0_8 : BA) (a1_0_9 : Int) (a1_0_10 a1_0_11 : LD) (a1_0_12 : Int) (a1_0_13 : BA) (a1_0_14 : Int) (a1_0_15 a1_0_16 aF : LD) (aH : Int) (aI : BA) (aJ aL aM : Int) (aN : Bool) (aO : LD) (aP : Int) (aU : BA) (aW : Int) (aY aZ : LD) (bZ : Int) (cE : BA) (cF : Int) (cG cH : LD) (cJ : Int) : ∀ n v,Yd.r0 k a0 a1_0_0 a1_0_1 a1_0_2 a1_0_3 a1_0_4 a1_0_5 a1_0_6 a1_0_7 a1_0_8 a1_0_9 a1_0_10 a1_0_11 a1_0_12 a1_0_13 a1_0_14 a1_0_15 a1_0_16 aF aH aI aJ aL aM aN aO aP aU aW aY aZ bZ cE cF cG cH cJ n v = ZA (Yd.l0 k aF aH aI aJ aL aM aN aO aP aU aW aY aZ bZ cE cF cG cH cJ (fun z0 => some z0)) n v :=
 Zz (Yd.s0 aF aH aI aJ aL aM aN aO aP aU aW aY aZ bZ cE cF cG cH cJ) _ fun L0 v => by kernel_rfl
theorem Yd.ok (k : Nat) : Zf Try.prog 241 (Yd.e k) := Zk (Yd.p k) mix tyok Try.func241 (Yao.ok k) (by kernel_rfl) (fun a0 a1_0_0 a1_0_1 a1_0_2 a1_0_3 a1_0_4 a1_0_5 a1_0_6 a1_0_7 a1_0_8 a1_0_9 a1_0_10 a1_0_11 a1_0_12 a1_0_13 a1_0_14 a1_0_15 a1_0_16 => Eq.trans (b := Yd.m k a0 a1_0_0 a1_0_1 a1_0_2 a1_0_3 a1_0_4 a1_0_5 a1_0_6 a1_0_7 a1_0_8 a1_0_9 a1_0_10 a1_0_11 a1_0_12 a1_0_13 a1_0_14 a1_0_15 a1_0_16 (fun z0 => some z0) (fun aF aH aI aJ aL aM aN aO aP aU aW aY aZ bZ cE cF cG cH cJ => Yd.r0 k a0 a1_0_0 a1_0_1 a1_0_2 a1_0_3 a1_0_4 a1_0_5 a1_0_6 a1_0_7 a1_0_8 a1_0_9 a1_0_10 a1_0_11 a1_0_12 a1_0_13 a1_0_14 a1_0_15 a1_0_16 aF aH aI aJ aL aM aN aO aP aU aW aY aZ bZ cE cF cG cH cJ k)) (by kernel_rfl) (congrArg (Yd.m k a0 a1_0_0 a1_0_1 a1_0_2 a1_0_3 a1_0_4 a1_0_5 a1_0_6 a1_0_7 a1_0_8 a1_0_9 a1_0_10 a1_0_11 a1_0_12 a1_0_13 a1_0_14 a1_0_15 a1_0_16 (fun z0 => some z0)) (funext fun aF => funext fun aH => funext fun aI => funext fun aJ => funext fun aL => funext fun aM => funext fun aN => funext fun aO => funext fun aP => funext fun aU => funext fun aW => funext fun aY => funext fun aZ => funext fun bZ => funext fun cE => funext fun cF => funext fun cG => funext fun cH => funext fun cJ => funext fun v => Yd.l0_eq k a0 a1_0_0 a1_0_1 a1_0_2 a1_0_3 a1_0_4 a1_0_5 a1_0_6 a1_0_7 a1_0_8 a1_0_9 a1_0_10 a1_0_11 a1_0_12 a1_0_13 a1_0_14 a1_0_15 a1_0_16 aF aH aI aJ aL aM aN aO aP aU aW aY aZ bZ cE cF cG cH cJ k v) :))
noncomputable def Yk.g {β : Type} (k : Nat) (a0 : LD) (a1_0_0 : Int) (a1_0_1 : BA) (a1_0_2 a1_0_3 a1_0_4 : Int) (a1_0_5 : Bool) (a1_0_6 : LD) (a1_0_7 : Int) (a1_0_8 : BA) (a1_0_9 : Int) (a1_0_10 a1_0_11 : LD) (a1_0_12 : Int) (a1_0_13 : BA) (a1_0_14 : Int) (a1_0_15 a1_0_16 : LD) (K : Bool → Option β) : Option β :=
 Yd.f k a0 a1_0_0 a1_0_1 a1_0_2 a1_0_3 a1_0_4 a1_0_5 a1_0_6 a1_0_7 a1_0_8 a1_0_9 a1_0_10 a1_0_11 a1_0_12 a1_0_13 a1_0_14 a1_0_15 a1_0_16 (fun y107 => K (decide ((y107 : Int) ≥ 0)))
noncomputable def Yk.t (k : Nat) (a0 : LD) (a1_0_0 : Int) (a1_0_1 : BA) (a1_0_2 a1_0_3 a1_0_4 : Int) (a1_0_5 : Bool) (a1_0_6 : LD) (a1_0_7 : Int) (a1_0_8 : BA) (a1_0_9 : Int) (a1_0_10 a1_0_11 : LD) (a1_0_12 : Int) (a1_0_13 : BA) (a1_0_14 : Int) (a1_0_15 a1_0_16 : LD) : Option (Bool) := Yk.g k a0 a1_0_0 a1_0_1 a1_0_2 a1_0_3 a1_0_4 a1_0_5 a1_0_6 a1_0_7 a1_0_8 a1_0_9 a1_0_10 a1_0_11 a1_0_12 a1_0_13 a1_0_14 a1_0_15 a1_0_16 (fun z0 => some z0)
noncomputable def Yk.f {β : Type} (k : Nat) (a0 : LD) (a1_0_0 : Int) (a1_0_1 : BA) (a1_0_2 a1_0_3 a1_0_4 : Int) (a1_0_5 : Bool) (a1_0_6 : LD) (a1_0_7 : Int) (a1_0_8 : BA) (a1_0_9 : Int) (a1_0_10 a1_0_11 : LD) (a1_0_12 : Int) (a1_0_13 : BA) (a1_0_14 : Int) (a1_0_15 a1_0_16 : LD) (K : Bool → Option β) : Option β := bd1 (Yk.t k a0 a1_0_0 a1_0_1 a1_0_2 a1_0_3 a1_0_4 a1_0_5 a1_0_6 a1_0_7 a1_0_8 a1_0_9 a1_0_10 a1_0_11 a1_0_12 a1_0_13 a1_0_14 a1_0_15 a1_0_16) K
noncomputable def Yk.e (k : Nat) : Zj := ent [.d .l,.fn 207 [[.n,.s,.n,.n,.n,.b,.l,.n,.s,.n,.l,.l,.n,.s,.n,.l,.l]]] [1] [.b] [4] false (Yk.t k)
noncomputable def Yk.p (k : Nat) : Pro := ⟨Try.prog,[(241,Yd.e k)],Zv [] false [],k⟩
theorem Yk.ok (k : Nat) : Zf Try.prog 206 (Yk.e k) := Zk (Yk.p k) mix tyok Try.func206 (Yd.ok k) (by kernel_rfl) (fun a0 a1_0_0 a1_0_1 a1_0_2 a1_0_3 a1_0_4 a1_0_5 a1_0_6 a1_0_7 a1_0_8 a1_0_9 a1_0_10 a1_0_11 a1_0_12 a1_0_13 a1_0_14 a1_0_15 a1_0_16 => by show _ = _; kernel_rfl)
noncomputable def YT.l0 {β : Type} (k : Nat) (aF : LD) (aH aI : Int) (aJ : LD) (aL : Int) (K : Bool → Option β) (L0 : Int → Option β) (v : Int) : Option β :=
 match v with
 | aM => bif (decide ((aM : Int) < aL)) then (atR aJ aM [.n,.s,.n,.n,.n,.b,.l,.n,.s,.n,.l,.l,.n,.s,.n,.l,.l] fun x113 x116 x119 x122 x125 x128 x131 x134 x137 x140 x143 x146 x149 x152 x155 x158 x161 => (Yay.f k x113 x116 x119 x122 x125 x128 x131 x134 x137 x140 x143 x146 x149 x152 x155 x158 x161 aH aI false (fun y162 => bif (!y162) then (K false) else (let J0 := (0 ≤ (0 : Int) ∧ (0 : Int) ≤ (aM : Int) ∧ (aM : Int) ≤ (aF.length : Int) ∧ Zbk 17 aF); let J1 := ((aF.drop (Int.toNat (0 : Int))).take (Int.toNat (aM : Int) - Int.toNat (0 : Int))); bif (decide ((aM : Int) > 0)) then (atR aF (IntKind.wrap .i64 (aM - 1)) [.n,.s,.n,.n,.n,.b,.l,.n,.s,.n,.l,.l,.n,.s,.n,.l,.l] fun x166 x169 x172 x175 x178 x181 x184 x187 x190 x193 x196 x199 x202 x205 x208 x211 x214 => (Yac.f k x166 x169 x172 x175 x178 x181 x184 x187 x190 x193 x196 x199 x202 x205 x208 x211 x214 x113 x116 x119 x122 x125 x128 x131 x134 x137 x140 x143 x146 x149 x152 x155 x158 x161 (fun y215 => bif (decide ((y215 : Int) ≥ 0)) then (K false) else (Zd J0 (Yk.f k J1 x113 x116 x119 x122 x125 x128 x131 x134 x137 x140 x143 x146 x149 x152 x155 x158 x161 (fun y216 => bif y216 then (K false) else (L0 (IntKind.wrap .i64 (aM + 1))))))))) else (Zd J0 (Yk.f k J1 x113 x116 x119 x122 x125 x128 x131 x134 x137 x140 x143 x146 x149 x152 x155 x158 x161 (fun y217 => bif y217 then (K false) else (L0 (IntKind.wrap .i64 (aM + 1)))))))))) else (K (decide (((aF.length : Int) : Int) ≤ 60)))
noncomputable def YT.m {β : Type} (k : Nat) (a0 : LD) (a1 a2 : Int) (K : Bool → Option β) (F : (LD → Int → Int → LD → Int → Int → Option β)) : Option β :=
 F a0 a1 a2 a0 (a0.length : Int) (0)
noncomputable def YT.g {β : Type} (k : Nat) (a0 : LD) (a1 a2 : Int) (K : Bool → Option β) : Option β :=
 ZA (YT.l0 k a0 a1 a2 a0 (a0.length : Int) K) k (0)
noncomputable def YT.t (k : Nat) (a0 : LD) (a1 a2 : Int) : Option (Bool) := YT.g k a0 a1 a2 (fun z0 => some z0)
noncomputable def YT.f {β : Type} (k : Nat) (a0 : LD) (a1 a2 : Int) (K : Bool → Option β) : Option β := bd1 (YT.t k a0 a1 a2) K
noncomputable def YT.e (k : Nat) : Zj := ent [.d .l,.d .n,.d .n] [1] [.b] [4] false (YT.t k)
noncomputable def YT.p (k : Nat) : Pro := ⟨Try.prog,[(203,Yay.e k),(205,Yac.e k),(206,Yk.e k)],Zv [(2,kp [0,1,2,9,10,11])] false [],k⟩
noncomputable def YT.d (k : Nat) (a0 : LD) (a1 a2 : Int) : Ex → St → Option (Bool) := (YT.p k).fin Try.f141 [.d (.sl a0),.d (.int .i64 a1),.d (.int .i64 a2)] [1] [.b]
noncomputable def YT.s0 (aF : LD) (aH aI : Int) (aJ : LD) (aL v : Int) : St :=
 match v with
 | aM => ZaA 44 [(0,.d false (.sl aF)),(1,.d false (.int .i64 aH)),(2,.d false (.int .i64 aI)),(9,.d false (.sl aJ)),(10,.d true (.int .i64 aL)),(11,.d true (.int .i64 aM))] []
noncomputable def YT.r0 (k : Nat) (a0 : LD) (a1 a2 : Int) (aF : LD) (aH aI : Int) (aJ : LD) (aL : Int) (n : Nat) (v : Int) : Option (Bool) := (YT.p k).lp (ZI Try.f141) 2 [1,0,1,0] (YT.d k a0 a1 a2) n (YT.s0 aF aH aI aJ aL v)
theorem YT.l0_eq (k : Nat) (a0 : LD) (a1 a2 : Int) (aF : LD) (aH aI : Int) (aJ : LD) (aL : Int) : ∀ n v,YT.r0 k a0 a1 a2 aF aH aI aJ aL n v = ZA (YT.l0 k aF aH aI aJ aL (fun z0 => some z0)) n v :=
 Zz (YT.s0 aF aH aI aJ aL) _ fun L0 v => by kernel_rfl
theorem YT.ok (k : Nat) : Zf Try.prog 141 (YT.e k) := Zk (YT.p k) mix tyok Try.func141 ⟨Yay.ok k,Yac.ok k,Yk.ok k⟩ (by kernel_rfl) (fun a0 a1 a2 => Eq.trans (b := YT.m k a0 a1 a2 (fun z0 => some z0) (fun aF aH aI aJ aL => YT.r0 k a0 a1 a2 aF aH aI aJ aL k)) (by kernel_rfl) (congrArg (YT.m k a0 a1 a2 (fun z0 => some z0)) (funext fun aF => funext fun aH => funext fun aI => funext fun aJ => funext fun aL => funext fun v => YT.l0_eq k a0 a1 a2 aF aH aI aJ aL k v) :))
noncomputable def YK.l0 {β : Type} (k : Nat) (aF : LD) (aH : Int) (aJ : LD) (aL aM : Int) (aN : LD) (K : Bool → Option β) (L0 : Int → Option β) (v : Int) : Option β :=
 match v with
 | aI => bif (decide ((aI : Int) < aH)) then (atR aF aI [.n,.b,.n,.s,.n,.n,.n,.b,.l,.n,.s,.n,.l,.l,.n,.s,.n,.l,.l] fun x339 x342 x345 x348 x351 x354 x357 x360 x363 x366 x369 x372 x375 x378 x381 x384 x387 x390 x393 => (Yay.f k x345 x348 x351 x354 x357 x360 x363 x366 x369 x372 x375 x378 x381 x384 x387 x390 x393 (IntKind.wrap .i64 (aM - 1)) aL x342 (fun y394 => bif (!y394) then (K false) else (bif ((x354 : Int) != x339) then (K false) else (bif (decide ((aI : Int) > 0)) then (atR aN (IntKind.wrap .i64 (aI - 1)) [.n,.b,.n,.s,.n,.n,.n,.b,.l,.n,.s,.n,.l,.l,.n,.s,.n,.l,.l] fun x398 x401 x404 x407 x410 x413 x416 x419 x422 x425 x428 x431 x434 x437 x440 x443 x446 x449 x452 => (bif (decide ((x398 : Int) ≥ x339)) then (K false) else (L0 (IntKind.wrap .i64 (aI + 1))))) else (L0 (IntKind.wrap .i64 (aI + 1)))))))) else (K true)
noncomputable def YK.m {β : Type} (k : Nat) (aB : LD) (aA aC : Int) (aD : LD) (K : Bool → Option β) (F : (LD → Int → LD → Int → Int → LD → Int → Option β)) : Option β :=
 YS.f k aA 0 1000000 (fun y1 => bif (!y1) then (K false) else (YS.f k aC 1 1000000 (fun y2 => bif (!y2) then (K false) else (YT.f k aB (IntKind.wrap .i64 (aC - 1)) aA (fun y218 => bif (!y218) then (K false) else (bif (decide (((aD.length : Int) : Int) > 40)) then (K false) else (F aD (aD.length : Int) aB aA aC aD (0))))))))
noncomputable def YK.g {β : Type} (k : Nat) (aB : LD) (aA aC : Int) (aD : LD) (K : Bool → Option β) : Option β := YK.m k aB aA aC aD K (fun aF aH aJ aL aM aN => ZA (YK.l0 k aF aH aJ aL aM aN K) k)
noncomputable def YK.t (k : Nat) (aB : LD) (aA aC : Int) (aD : LD) : Option (Bool) := YK.g k aB aA aC aD (fun z0 => some z0)
noncomputable def YK.f {β : Type} (k : Nat) (aB : LD) (aA aC : Int) (aD : LD) (K : Bool → Option β) : Option β := bd1 (YK.t k aB aA aC aD) K
noncomputable def YK.e (k : Nat) : Zj := ent [.agg [.l,.n,.n,.l]] [1] [.b] [4] false (YK.t k)
noncomputable def YK.p (k : Nat) : Pro := ⟨Try.prog,[(71,YS.e k),(141,YT.e k),(203,Yay.e k)],Zv [(4,kp [1,33,34,35])] false [],k⟩
noncomputable def YK.d (k : Nat) (aB : LD) (aA aC : Int) (aD : LD) : Ex → St → Option (Bool) := (YK.p k).fin Try.f139 [.agg [.sl aB,.int .i64 aA,.int .i64 aC,.sl aD]] [1] [.b]
noncomputable def YK.s0 (aF : LD) (aH : Int) (aJ : LD) (aL aM : Int) (aN : LD) (v : Int) : St :=
 match v with
 | aI => ZaA 76 [(1,.bp 0 0),(33,.d false (.sl aF)),(34,.d true (.int .i64 aH)),(35,.d true (.int .i64 aI))] [.box none 97 [.d false (.sl aJ),.d false (.int .i64 aL),.d false (.int .i64 aM),.d false (.sl aN)]]
noncomputable def YK.r0 (k : Nat) (aB : LD) (aA aC : Int) (aD aF : LD) (aH : Int) (aJ : LD) (aL aM : Int) (aN : LD) (n : Nat) (v : Int) : Option (Bool) := (YK.p k).lp (ZI Try.f139) 4 [1,1,0,1,0] (YK.d k aB aA aC aD) n (YK.s0 aF aH aJ aL aM aN v)
theorem YK.l0_eq (k : Nat) (aB : LD) (aA aC : Int) (aD aF : LD) (aH : Int) (aJ : LD) (aL aM : Int) (aN : LD) : ∀ n v,YK.r0 k aB aA aC aD aF aH aJ aL aM aN n v = ZA (YK.l0 k aF aH aJ aL aM aN (fun z0 => some z0)) n v :=
 Zz (YK.s0 aF aH aJ aL aM aN) _ fun L0 v => by kernel_rfl
theorem YK.ok (k : Nat) : Zf Try.prog 139 (YK.e k) := Zk (YK.p k) mix tyok Try.func139 ⟨YS.ok k,YT.ok k,Yay.ok k⟩ (by kernel_rfl) (fun aB aA aC aD => Eq.trans (b := YK.m k aB aA aC aD (fun z0 => some z0) (fun aF aH aJ aL aM aN => YK.r0 k aB aA aC aD aF aH aJ aL aM aN k)) (by kernel_rfl) (congrArg (YK.m k aB aA aC aD (fun z0 => some z0)) (funext fun aF => funext fun aH => funext fun aJ => funext fun aL => funext fun aM => funext fun aN => funext fun v => YK.l0_eq k aB aA aC aD aF aH aJ aL aM aN k v) :))
noncomputable def YL.g {β : Type} (k : Nat) (a0 : LD) (K : LC → Option β) : Option β :=
 let J0 := (Zd (Zcg 1 a0) (Zd (([] : LC).length + (a0.map (·.map C.d)).length ≤ Z8) (K (([] : LC) ++ (a0.map (·.map C.d)))))); nilSl a0 (both (K ([] : LC)) J0) J0
noncomputable def YL.t (k : Nat) (a0 : LD) : Option (LC) := YL.g k a0 (fun z0 => some z0)
noncomputable def YL.f {β : Type} (k : Nat) (a0 : LD) (K : LC → Option β) : Option β := bd1 (YL.t k a0) K
noncomputable def YL.e (k : Nat) : Zj := ent [.d .l] [1] [.o] [25] false (YL.t k)
noncomputable def YL.p (k : Nat) : Pro := ⟨Try.prog,[],Zv [] false [],k⟩
theorem YL.ok (k : Nat) : Zf Try.prog 148 (YL.e k) := Zk (YL.p k) mix tyok Try.func148 trivial (by kernel_rfl) (fun a0 => by show _ = _; kernel_rfl)
noncomputable def Yn.l0 {β : Type} (k : Nat) (r_impl_copyValue : Int → BA → Int → LD → LD → (Int → BA → Int → LC → LC → Option β) → Option β) (aF : LD) (aH aJ : Int) (aL : BA) (aM : Int) (aN : LD) (aO : Int) (aP : BA) (aU : Int) (aY : LC) (K : Int → BA → Int → LC → LC → Option β) (L0 : (Int × LC) → Option β) (v : Int × LC) : Option β :=
 match v with
 | (aI,aW) => bif (decide ((aI : Int) < aH)) then (atR aF aI [.n,.s,.n,.l,.l] fun x26 x29 x32 x35 x38 => (r_impl_copyValue x26 x29 x32 x35 x38 (fun y39 y40 y41 y42 y43 => Zd (aW.length + ([[.d (.int .i64 y39),.d (.str y40),.d (.int .i64 y41),.own y42,.own y43]] : LC).length ≤ Z8) (L0 (IntKind.wrap .i64 (aI + 1),aW ++ ([[.d (.int .i64 y39),.d (.str y40),.d (.int .i64 y41),.own y42,.own y43]] : LC)))))) else (K aJ aL aM aY aW)
noncomputable def Yn.m {β : Type} (k : Nat) (r_impl_copyValue : Int → BA → Int → LD → LD → (Int → BA → Int → LC → LC → Option β) → Option β) (aB : Int) (aA : BA) (aC : Int) (aD aK : LD) (K : Int → BA → Int → LC → LC → Option β) (F : (LD → Int → Int → BA → Int → LD → Int → BA → Int → LC → (Int × LC) → Option β)) : Option β :=
 YL.f k aD (fun y1 => F aK (aK.length : Int) aB aA aC aK 0 (⟨#[]⟩ : BA) 0 y1 (0,([] : LC)))
noncomputable def Yn.body {β : Type} (k : Nat) (r_impl_copyValue : Int → BA → Int → LD → LD → (Int → BA → Int → LC → LC → Option β) → Option β) (aB : Int) (aA : BA) (aC : Int) (aD aK : LD) (K : Int → BA → Int → LC → LC → Option β) : Option β :=
 YL.f k aD (fun y1 => ZA (Yn.l0 k r_impl_copyValue aK (aK.length : Int) aB aA aC aK 0 (⟨#[]⟩ : BA) 0 y1 K) k (0,([] : LC)))
noncomputable def Yn.w {β : Type} (r : Int → BA → Int → LD → LD → Option (Int × BA × Int × LC × LC)) (aB : Int) (aA : BA) (aC : Int) (aD aK : LD) (K : Int → BA → Int → LC → LC → Option β) : Option β := bd5 (r aB aA aC aD aK) K
noncomputable def Yn.all : Nat → (Int → BA → Int → LD → LD → Option (Int × BA × Int × LC × LC))
 | 0 => (fun _ _ _ _ _ => none)
 | k + 1 => (fun r => (fun aB aA aC aD aK => Yn.body k (Yn.w r) aB aA aC aD aK (fun z0 z1 z2 z3 z4 => some (z0,z1,z2,z3,z4)))) (Yn.all k)
noncomputable def Yn.t (k : Nat) (aB : Int) (aA : BA) (aC : Int) (aD aK : LD) : Option (Int × BA × Int × LC × LC) := (Yn.all k) aB aA aC aD aK
noncomputable def Yn.f {β : Type} (k : Nat) (aB : Int) (aA : BA) (aC : Int) (aD aK : LD) (K : Int → BA → Int → LC → LC → Option β) : Option β := Yn.w (Yn.t k) aB aA aC aD aK K
noncomputable def Yn.g {β : Type} (k : Nat) (aB : Int) (aA : BA) (aC : Int) (aD aK : LD) (K : Int → BA → Int → LC → LC → Option β) : Option β := Yn.body k (Yn.f k) aB aA aC aD aK K
theorem Yn.t_succ (k : Nat) (aB : Int) (aA : BA) (aC : Int) (aD aK : LD) : Yn.t (k + 1) aB aA aC aD aK = Yn.g k aB aA aC aD aK (fun z0 z1 z2 z3 z4 => some (z0,z1,z2,z3,z4)) := rfl
noncomputable def Yn.e (k : Nat) : Zj := ent [.agg [.n,.s,.n,.l,.l]] [5] [.n,.s,.n,.o,.o] [66] false (Yn.t k)
noncomputable def Yn.p (k : Nat) : Pro := ⟨Try.prog,[(148,YL.e k),(185,Yn.e k)],Zv [(4,kp [1,2,3,12,13,14])] false [],k⟩
noncomputable def Yn.d (k : Nat) (aB : Int) (aA : BA) (aC : Int) (aD aK : LD) : Ex → St → Option (Int × BA × Int × LC × LC) := (Yn.p k).fin Try.f185 [.agg [.int .i64 aB,.str aA,.int .i64 aC,.sl aD,.sl aK]] [5] [.n,.s,.n,.o,.o]
noncomputable def Yn.s0 (aF : LD) (aH aJ : Int) (aL : BA) (aM : Int) (aN : LD) (aO : Int) (aP : BA) (aU : Int) (aY : LC) (v : Int × LC) : St :=
 match v with
 | (aI,aW) => ZaA 27 [(1,.bp 0 0),(2,.bp 1 0),(3,.row 2),(12,.d false (.sl aF)),(13,.d true (.int .i64 aH)),(14,.d true (.int .i64 aI))] [.box none 66 [.d false (.int .i64 aJ),.d false (.str aL),.d false (.int .i64 aM),.row 3,.d false (.sl aN)],.box none 66 [.d true (.int .i64 aO),.d true (.str aP),.d true (.int .i64 aU),.nil,.nil],.row none true 64 aW,.row none true 25 aY]
noncomputable def Yn.r0 (k : Nat) (aB : Int) (aA : BA) (aC : Int) (aD aK aF : LD) (aH aJ : Int) (aL : BA) (aM : Int) (aN : LD) (aO : Int) (aP : BA) (aU : Int) (aY : LC) (n : Nat) (v : Int × LC) : Option (Int × BA × Int × LC × LC) := (Yn.p k).lp (ZI Try.f185) 4 [1,1,1,0,1,0] (Yn.d k aB aA aC aD aK) n (Yn.s0 aF aH aJ aL aM aN aO aP aU aY v)
theorem Yn.l0_eq (k : Nat) (aB : Int) (aA : BA) (aC : Int) (aD aK aF : LD) (aH aJ : Int) (aL : BA) (aM : Int) (aN : LD) (aO : Int) (aP : BA) (aU : Int) (aY : LC) : ∀ n v,Yn.r0 k aB aA aC aD aK aF aH aJ aL aM aN aO aP aU aY n v = ZA (Yn.l0 k (Yn.f k) aF aH aJ aL aM aN aO aP aU aY (fun z0 z1 z2 z3 z4 => some (z0,z1,z2,z3,z4))) n v :=
 Zz (Yn.s0 aF aH aJ aL aM aN aO aP aU aY) _ fun L0 v => by obtain ⟨aI,aW⟩ := v; kernel_rfl
theorem Yn.oks (k : Nat) : Zf Try.prog 185 (Yn.e k) := by
 induction k with
 | zero => exact Zba Try.func185 (by kernel_rfl) (fun _ _ _ _ _ => rfl)
 | succ k ih => exact Zk (Yn.p k) mix tyok Try.func185 ⟨YL.ok k,ih⟩ (by kernel_rfl) (fun aB aA aC aD aK => Eq.trans (b := Yn.m k (Yn.f k) aB aA aC aD aK (fun z0 z1 z2 z3 z4 => some (z0,z1,z2,z3,z4)) (fun aF aH aJ aL aM aN aO aP aU aY => Yn.r0 k aB aA aC aD aK aF aH aJ aL aM aN aO aP aU aY k)) (by kernel_rfl) ((congrArg (Yn.m k (Yn.f k) aB aA aC aD aK (fun z0 z1 z2 z3 z4 => some (z0,z1,z2,z3,z4))) (funext fun aF => funext fun aH => funext fun aJ => funext fun aL => funext fun aM => funext fun aN => funext fun aO => funext fun aP => funext fun aU => funext fun aY => funext fun v => Yn.l0_eq k aB aA aC aD aK aF aH aJ aL aM aN aO aP aU aY k v)).trans (Yn.t_succ k aB aA aC aD aK).symm))
theorem Yn.ok (k : Nat) : Zf Try.prog 185 (Yn.e k) := (Yn.oks k)
noncomputable def Yag.g {β : Type} (k : Nat) (aB : Int) (aA : BA) (aC aD aK : Int) (bY : Bool) (bA : LD) (bH : Int) (bB : BA) (bI : Int) (bC bD : LD) (bJ : Int) (bE : BA) (bK : Int) (bF bG : LD) (K : Int → BA → Int → Int → Int → Bool → LC → Int → BA → Int → LC → LC → Int → BA → Int → LC → LC → Option β) : Option β :=
 YL.f k bA (fun y1 => Yn.f k bH bB bI bC bD (fun y44 y45 y46 y47 y48 => Yn.f k bJ bE bK bF bG (fun y49 y50 y51 y52 y53 => K aB aA aC aD aK bY y1 y44 y45 y46 y47 y48 y49 y50 y51 y52 y53)))
noncomputable def Yag.t (k : Nat) (aB : Int) (aA : BA) (aC aD aK : Int) (bY : Bool) (bA : LD) (bH : Int) (bB : BA) (bI : Int) (bC bD : LD) (bJ : Int) (bE : BA) (bK : Int) (bF bG : LD) : Option (Int × BA × Int × Int × Int × Bool × LC × Int × BA × Int × LC × LC × Int × BA × Int × LC × LC) := Yag.g k aB aA aC aD aK bY bA bH bB bI bC bD bJ bE bK bF bG (fun z0 z1 z2 z3 z4 z5 z6 z7 z8 z9 z10 z11 z12 z13 z14 z15 z16 => some (z0,z1,z2,z3,z4,z5,z6,z7,z8,z9,z10,z11,z12,z13,z14,z15,z16))
noncomputable def Yag.f {β : Type} (k : Nat) (aB : Int) (aA : BA) (aC aD aK : Int) (bY : Bool) (bA : LD) (bH : Int) (bB : BA) (bI : Int) (bC bD : LD) (bJ : Int) (bE : BA) (bK : Int) (bF bG : LD) (K : Int → BA → Int → Int → Int → Bool → LC → Int → BA → Int → LC → LC → Int → BA → Int → LC → LC → Option β) : Option β := match Yag.t k aB aA aC aD aK bY bA bH bB bI bC bD bJ bE bK bF bG with | some (z0,z1,z2,z3,z4,z5,z6,z7,z8,z9,z10,z11,z12,z13,z14,z15,z16) => K z0 z1 z2 z3 z4 z5 z6 z7 z8 z9 z10 z11 z12 z13 z14 z15 z16 | none => none
noncomputable def Yag.e (k : Nat) : Zj := ent [.agg [.n,.s,.n,.n,.n,.b,.l,.n,.s,.n,.l,.l,.n,.s,.n,.l,.l]] [17] [.n,.s,.n,.n,.n,.b,.o,.n,.s,.n,.o,.o,.n,.s,.n,.o,.o] [165] false (Yag.t k)
noncomputable def Yag.p (k : Nat) : Pro := ⟨Try.prog,[(148,YL.e k),(185,Yn.e k)],Zv [] false [],k⟩
theorem Yag.ok (k : Nat) : Zf Try.prog 204 (Yag.e k) := Zk (Yag.p k) mix tyok Try.func204 ⟨YL.ok k,Yn.ok k⟩ (by kernel_rfl) (fun aB aA aC aD aK bY bA bH bB bI bC bD bJ bE bK bF bG => by show _ = _; kernel_rfl)
noncomputable def YP.l0 {β : Type} (k : Nat) (aF : LD) (aH : Int) (K : LC → Option β) (L0 : (Int × LC) → Option β) (v : Int × LC) : Option β :=
 match v with
 | (aI,aJ) => bif (decide ((aI : Int) < aH)) then (atR aF aI [.n,.b,.n,.s,.n,.n,.n,.b,.l,.n,.s,.n,.l,.l,.n,.s,.n,.l,.l] fun x79 x82 x85 x88 x91 x94 x97 x100 x103 x106 x109 x112 x115 x118 x121 x124 x127 x130 x133 => (Yag.f k x85 x88 x91 x94 x97 x100 x103 x106 x109 x112 x115 x118 x121 x124 x127 x130 x133 (fun y134 y135 y136 y137 y138 y139 y140 y141 y142 y143 y144 y145 y146 y147 y148 y149 y150 => Zd (aJ.length + ([[.d (.int .i64 x79),.d (.bool x82),.d (.int .i64 y134),.d (.str y135),.d (.int .i64 y136),.d (.int .i64 y137),.d (.int .i64 y138),.d (.bool y139),.own y140,.d (.int .i64 y141),.d (.str y142),.d (.int .i64 y143),.own y144,.own y145,.d (.int .i64 y146),.d (.str y147),.d (.int .i64 y148),.own y149,.own y150]] : LC).length ≤ Z8) (L0 (IntKind.wrap .i64 (aI + 1),aJ ++ ([[.d (.int .i64 x79),.d (.bool x82),.d (.int .i64 y134),.d (.str y135),.d (.int .i64 y136),.d (.int .i64 y137),.d (.int .i64 y138),.d (.bool y139),.own y140,.d (.int .i64 y141),.d (.str y142),.d (.int .i64 y143),.own y144,.own y145,.d (.int .i64 y146),.d (.str y147),.d (.int .i64 y148),.own y149,.own y150]] : LC)))))) else (K aJ)
noncomputable def YP.m {β : Type} (k : Nat) (a0 : LD) (K : LC → Option β) (F : (LD → Int → (Int × LC) → Option β)) : Option β :=
 F a0 (a0.length : Int) (0,([] : LC))
noncomputable def YP.g {β : Type} (k : Nat) (a0 : LD) (K : LC → Option β) : Option β :=
 ZA (YP.l0 k a0 (a0.length : Int) K) k (0,([] : LC))
noncomputable def YP.t (k : Nat) (a0 : LD) : Option (LC) := YP.g k a0 (fun z0 => some z0)
noncomputable def YP.f {β : Type} (k : Nat) (a0 : LD) (K : LC → Option β) : Option β := bd1 (YP.t k a0) K
noncomputable def YP.e (k : Nat) : Zj := ent [.d .l] [1] [.o] [90] false (YP.t k)
noncomputable def YP.p (k : Nat) : Pro := ⟨Try.prog,[(204,Yag.e k)],Zv [(3,kp [3,7,8,9])] false [],k⟩
noncomputable def YP.d (k : Nat) (a0 : LD) : Ex → St → Option (LC) := (YP.p k).fin Try.f143 [.d (.sl a0)] [1] [.o]
noncomputable def YP.s0 (aF : LD) (aH : Int) (v : Int × LC) : St :=
 match v with
 | (aI,aJ) => ZaA 26 [(3,.row 0),(7,.d false (.sl aF)),(8,.d true (.int .i64 aH)),(9,.d true (.int .i64 aI))] [.row none true 90 aJ]
noncomputable def YP.r0 (k : Nat) (a0 aF : LD) (aH : Int) (n : Nat) (v : Int × LC) : Option (LC) := (YP.p k).lp (ZI Try.f143) 3 [1,1,0,1,0] (YP.d k a0) n (YP.s0 aF aH v)
theorem YP.l0_eq (k : Nat) (a0 aF : LD) (aH : Int) : ∀ n v,YP.r0 k a0 aF aH n v = ZA (YP.l0 k aF aH (fun z0 => some z0)) n v :=
 Zz (YP.s0 aF aH) _ fun L0 v => by obtain ⟨aI,aJ⟩ := v; kernel_rfl
theorem YP.ok (k : Nat) : Zf Try.prog 143 (YP.e k) := Zk (YP.p k) mix tyok Try.func143 (Yag.ok k) (by kernel_rfl) (fun a0 => Eq.trans (b := YP.m k a0 (fun z0 => some z0) (fun aF aH => YP.r0 k a0 aF aH k)) (by kernel_rfl) (congrArg (YP.m k a0 (fun z0 => some z0)) (funext fun aF => funext fun aH => funext fun v => YP.l0_eq k a0 aF aH k v) :))
noncomputable def Yal.g {β : Type} (k : Nat) (aB : Int) (aA : Bool) (aC : Int) (aD : BA) (aK bY bA : Int) (bH : Bool) (bB : LD) (bI : Int) (bC : BA) (bD : Int) (bJ bE : LD) (bK : Int) (bF : BA) (bG : Int) (a0_17 a0_18 : LD) (f0_0 : Int) (K : Bool → Option β) : Option β :=
 K (decide ((aB : Int) ≤ f0_0))
noncomputable def Yal.t (k : Nat) (aB : Int) (aA : Bool) (aC : Int) (aD : BA) (aK bY bA : Int) (bH : Bool) (bB : LD) (bI : Int) (bC : BA) (bD : Int) (bJ bE : LD) (bK : Int) (bF : BA) (bG : Int) (a0_17 a0_18 : LD) (f0_0 : Int) : Option (Bool) := Yal.g k aB aA aC aD aK bY bA bH bB bI bC bD bJ bE bK bF bG a0_17 a0_18 f0_0 (fun z0 => some z0)
noncomputable def Yal.f {β : Type} (k : Nat) (aB : Int) (aA : Bool) (aC : Int) (aD : BA) (aK bY bA : Int) (bH : Bool) (bB : LD) (bI : Int) (bC : BA) (bD : Int) (bJ bE : LD) (bK : Int) (bF : BA) (bG : Int) (a0_17 a0_18 : LD) (f0_0 : Int) (K : Bool → Option β) : Option β := bd1 (Yal.t k aB aA aC aD aK bY bA bH bB bI bC bD bJ bE bK bF bG a0_17 a0_18 f0_0) K
noncomputable def Yal.e (k : Nat) : Zj := ent [.agg [.n,.b,.n,.s,.n,.n,.n,.b,.l,.n,.s,.n,.l,.l,.n,.s,.n,.l,.l],.ip [.n]] [1] [.b] [4] false (Yal.t k)
noncomputable def Yal.p (k : Nat) : Pro := ⟨Try.prog,[],Zv [] false [],k⟩
theorem Yal.ok (k : Nat) : Zf Try.prog 144 (Yal.e k) := Zk (Yal.p k) mix tyok Try.func144 trivial (by kernel_rfl) (fun aB aA aC aD aK bY bA bH bB bI bC bD bJ bE bK bF bG a0_17 a0_18 f0_0 => by show _ = _; kernel_rfl)
noncomputable def Yg.l0 {β : Type} (k : Nat) (aF : LD) (aH aI : Int) (K L0 : Int → Option β) (v : Int) : Option β :=
 match v with
 | aJ => bif (decide ((aJ : Int) < aI)) then (atR aF aJ [.n,.b,.n,.s,.n,.n,.n,.b,.l,.n,.s,.n,.l,.l,.n,.s,.n,.l,.l] fun x63 x66 x69 x72 x75 x78 x81 x84 x87 x90 x93 x96 x99 x102 x105 x108 x111 x114 x117 => (Yal.f k x63 x66 x69 x72 x75 x78 x81 x84 x87 x90 x93 x96 x99 x102 x105 x108 x111 x114 x117 aH (fun y118 => bif y118 then (K aJ) else (L0 (IntKind.wrap .i64 (aJ + 1)))))) else (K (-1))
noncomputable def Yg.m {β : Type} (k : Nat) (a0 : LD) (a1_0_0 : Int) (K : Int → Option β) (F : (LD → Int → Int → Int → Option β)) : Option β :=
 F a0 a1_0_0 (a0.length : Int) (0)
noncomputable def Yg.g {β : Type} (k : Nat) (a0 : LD) (a1_0_0 : Int) (K : Int → Option β) : Option β :=
 ZA (Yg.l0 k a0 a1_0_0 (a0.length : Int) K) k (0)
noncomputable def Yg.t (k : Nat) (a0 : LD) (a1_0_0 : Int) : Option (Int) := Yg.g k a0 a1_0_0 (fun z0 => some z0)
noncomputable def Yg.e (k : Nat) : Zj := ent [.d .l,.fn 144 [[.n]]] [1] [.n] [3] false (Yg.t k)
noncomputable def Yg.p (k : Nat) : Pro := ⟨Try.prog,[(144,Yal.e k)],Zv [(2,kp [0,1,7,8])] false [],k⟩
noncomputable def Yg.d (k : Nat) (a0 : LD) (a1_0_0 : Int) : Ex → St → Option (Int) := (Yg.p k).fin Try.f208 [.d (.sl a0),.d (.fn 144 [[.int .i64 a1_0_0]])] [1] [.n]
noncomputable def Yg.s0 (aF : LD) (aH aI v : Int) : St :=
 match v with
 | aJ => ZaA 19 [(0,.d false (.sl aF)),(1,.d false (.fn 144 [[.int .i64 aH]])),(7,.d true (.int .i64 aI)),(8,.d true (.int .i64 aJ))] []
noncomputable def Yg.r0 (k : Nat) (a0 : LD) (a1_0_0 : Int) (aF : LD) (aH aI : Int) (n : Nat) (v : Int) : Option (Int) := (Yg.p k).lp (ZI Try.f208) 2 [1,0,1,0] (Yg.d k a0 a1_0_0) n (Yg.s0 aF aH aI v)
theorem Yg.l0_eq (k : Nat) (a0 : LD) (a1_0_0 : Int) (aF : LD) (aH aI : Int) : ∀ n v,Yg.r0 k a0 a1_0_0 aF aH aI n v = ZA (Yg.l0 k aF aH aI (fun z0 => some z0)) n v :=
 Zz (Yg.s0 aF aH aI) _ fun L0 v => by kernel_rfl
theorem Yg.ok (k : Nat) : Zf Try.prog 208 (Yg.e k) := Zk (Yg.p k) mix tyok Try.func208 (Yal.ok k) (by kernel_rfl) (fun a0 a1_0_0 => Eq.trans (b := Yg.m k a0 a1_0_0 (fun z0 => some z0) (fun aF aH aI => Yg.r0 k a0 a1_0_0 aF aH aI k)) (by kernel_rfl) (congrArg (Yg.m k a0 a1_0_0 (fun z0 => some z0)) (funext fun aF => funext fun aH => funext fun aI => funext fun v => Yg.l0_eq k a0 a1_0_0 aF aH aI k v) :))
noncomputable def Yi.t (k : Nat) (xs : LC) (c0_0 : Int) : Option LC := delK (fun ds => Yg.t k ds c0_0) (fun s => match s with | [.int .i64 x0,.bool x1,.int .i64 x2,.str x3,.int .i64 x4,.int .i64 x5,.int .i64 x6,.bool x7,.sl x8,.int .i64 x9,.str x10,.int .i64 x11,.sl x12,.sl x13,.int .i64 x14,.str x15,.int .i64 x16,.sl x17,.sl x18] => Yal.t k x0 x1 x2 x3 x4 x5 x6 x7 x8 x9 x10 x11 x12 x13 x14 x15 x16 x17 x18 c0_0 | _ => none) xs
noncomputable def Yi.f {β : Type} (k : Nat) (xs : LC) (c0_0 : Int) (K : LC → Option β) : Option β :=
 match Yi.t k xs c0_0 with
 | some z0 => K z0
 | none => none
noncomputable def Yi.run (k : Nat) : {β : Type} → List A → (LC → Option β) → Option β := fun {β} l K =>
 match l with
 | [.own false [.own xs],.d (.fn g [[.int .i64 c0_0]])] => bif g == 144 then Yi.f k xs c0_0 K else none
 | _ => none
noncomputable def Yi.e (k : Nat) : Zj := { modes := [(.own,0)],rts := [90],al := false,run := fun _ _ => none,lib := some ⟨[true,false],90,Yi.run k⟩ }
set_option maxHeartbeats 4000000 in
set_option maxRecDepth 1000000 in
theorem Yi.raw2 {P : Program} (mixed : P.follows .mixedOrders = true) (hf : P.funcs[142]? = some Try.f142) (eI : ∀ args w,(callFunc 208 args).run P w = .ok (.enter 208 args) w) (t0 : P.underlying 0 = some (.tuple #[])) (a0 : ∀ w,(isAgg 0).run P w = .ok false w) (z0 : ∀ w,(Go.sizeOf 0).run P w = .ok 1 w) (v0 : ∀ w,(zeroValue 0).run P w = .ok (.tuple #[]) w)
  (t3 : P.underlying 3 = some (.int .i64)) (a3 : ∀ w,(isAgg 3).run P w = .ok false w) (z3 : ∀ w,(Go.sizeOf 3).run P w = .ok 1 w) (v3 : ∀ w,(zeroValue 3).run P w = .ok (.int .i64 0) w) (t4 : P.underlying 4 = some .bool) (a4 : ∀ w,(isAgg 4).run P w = .ok false w) (z4 : ∀ w,(Go.sizeOf 4).run P w = .ok 1 w) (v4 : ∀ w,(zeroValue 4).run P w = .ok (.bool false) w)
  (tS : P.underlying 90 = some (.slice 167)) (aS : ∀ w,(isAgg 90).run P w = .ok false w) (zS : ∀ w,(Go.sizeOf 90).run P w = .ok 1 w) (vS : ∀ w,(zeroValue 90).run P w = .ok (.slice none 0 0) w) (tG : P.underlying 169 = some (.func #[167] #[4] false)) (aG : ∀ w,(isAgg 169).run P w = .ok false w) (zG : ∀ w,(Go.sizeOf 169).run P w = .ok 1 w) (vG : ∀ w,(zeroValue 169).run P w = .ok .nilFunc w)
  (K : Nat) (hK : 0 < K) (zc : Array Value) (aE : ∀ w,(isAgg 167).run P w = .ok true w) (zE : ∀ w,(Go.sizeOf 167).run P w = .ok K w) (vE : ∀ w,(zeroValue 167).run P w = .ok (.agg zc) w)
  (b cap n : Nat) (c : Array Value) (e : TypeId) (w : World) (g : Nat) (lb : Array Value) (p : Nat → Bool) (k0 : Nat) (hb : w.heap[b]? = some (.cells c e (0,0))) (hc : c.size = cap * K) (hn : n ≤ cap) (hk0 : k0 < n) (hm : n ≤ 1099511627776)
  (h1 : ∀ t,t < n * K → ∃ v,c[t]? = some v ∧ v.oneCell' = true) (i0 : TypeInfo) (hi : P.info? 167 = some i0) (hz : i0.zero = some (.agg zc)) (hs : i0.size = K) (hzs : zc.size = K) (hz1 : ∀ v ∈ zc.toList,v.oneCell' = true)
  (eg : ∀ args w,(callFunc g args).run P w = .ok (.enter g args) w)
  (hIF : Calls P 208 #[.slice (some ⟨b,0,none⟩) n cap,.func (.func g) #[] lb] w fun e w' => e = .returned (.int .i64 k0) ∧ Gs w w')
  (hpred : ∀ j,k0 < j → j < n → ∀ W,Gr b w W → ∀ vs : List Value,vs.length = K → (∀ t u,vs[t]? = some u → c[j * K + t]? = some u) → Calls P g (#[.agg vs.toArray] ++ lb) W fun e w' => e = .returned (.bool (p j)) ∧ Gs W w') :
  Calls P 142 #[.slice (some ⟨b,0,none⟩) n cap,.func (.func g) #[] lb] w fun ex w' => ex = .returned (.slice (some ⟨b,0,none⟩) (kpt p k0 n).length cap) ∧ Gr b w w' ∧ ∃ c' : Array Value,w'.heap[b]? = some (.cells c' e (0,0)) ∧ c'.size = c.size ∧ ∀ m k : Nat,(kpt p k0 n)[m]? = some k → ∀ t,t < K → c'[m * K + t]? = c[k * K + t]? := by
 have hHC : Hold (∀ j,k0 < j → j < n → ∀ W,Gr b w W → ∀ vs : List Value,vs.length = K → (∀ t u,vs[t]? = some u → c[j * K + t]? = some u) → Calls P g (#[.agg vs.toArray] ++ lb) W fun e w' => e = .returned (.bool (p j)) ∧ Gs W w') := ⟨hpred⟩
 have hH1 : Hold (∀ t,t < n * K → ∃ v,c[t]? = some v ∧ v.oneCell' = true) := ⟨h1⟩
 have hHZ : Hold (i0.zero = some (.agg zc) ∧ i0.size = K ∧ zc.size = K ∧ (∀ v ∈ zc.toList,v.oneCell' = true) ∧ P.info? 167 = some i0) := ⟨hz,hs,hzs,hz1,hi⟩
 have hHB : Hold (w.heap[b]? = some (.cells c e (0,0)) ∧ c.size = cap * K) := ⟨hb,hc⟩
 have hHK : Hold (0 < K) := ⟨hK⟩
 clear hpred h1 hz hs hzs hz1 hi hb hc hK
 have hne1 : ((k0 : Int) == -1) = false := beq_eq_false_iff_ne.2 (by omega)
 go_enter hf,Try.ntmps142
 go_wp2_with (go_at_fn 208; refine hIF.mono ?_; rintro e w' ⟨rfl,hg⟩)
 go_loopg [5,6,7] n (fun gg s5 s6 _ wr => ∃ (i j : Nat),s5 = .int .i64 i ∧ s6 = .int .i64 j ∧ j ≤ n ∧ n - j ≤ gg ∧ Hold (∃ ck : Array Value,DfK K b k0 c e p w wr i j ck))
 case atStart =>
  refine ⟨k0,k0 + 1,rfl,by go_num,by omega,by omega,⟨c,by omega,hg.gr b,?_,rfl,?_,fun _ _ => rfl,fun m k hk => ?_⟩⟩
  ·rw [hg.same b (by have := (Array.getElem?_eq_some_iff.mp hHB.out.1).1; exact this)]; exact hHB.out.1
  ·unfold kpt; simp
  ·unfold kpt at hk
   simp only [Nat.sub_self,List.range'_zero,List.filter_nil,List.append_nil] at hk
   have := List.getElem?_eq_some_iff.mp hk
   obtain ⟨q,hq⟩ := this
   rw [List.getElem_range] at hq
   rw [hq]
   exact fun _ _ => rfl
 case round =>
  obtain ⟨i,j,rfl,rfl,hjd,hgg,⟨ck,hI⟩⟩ := hrel
  have hij : i < j ∧ k0 ≤ i := by have := kpt_le (p := p) hI.lt; rw [hI.len] at this; omega
  obtain ⟨hij,hki⟩ := hij
  by_cases hlt : j < n
  ·have hltz : (j : Int) < (n : Int) := by omega
   obtain ⟨ul,ug,u1⟩ := cut_cells hH1.out (i := j) (m := 1) (by omega)
   generalize (c.toList.drop (j * K)).take (1 * K) = us at ul ug u1
   rw [Nat.one_mul] at ul ug
   have ug' : ∀ t u,us[t]? = some u → c[j * K + t]? = some u := fun t u h => ((ug t u).mp h).2
   have hblt : b < wr.heap.size := (Array.getElem?_eq_some_iff.mp hI.at_).1
   have l1 : Sem.run P (loadCellsFrom ⟨b,j * K,none⟩ 0 K #[]) wr = .ok us.toArray wr := load_list P wr _ us K ul (fun t u ht => by
    rw [Addr.add_lit,Zat hI.at_,hI.high _ (by omega)]
    exact ug' t u ht)
   have hzc := hHZ.out.2.2.1
   obtain ⟨hN,hO⟩ := Zaa us 0 (alloc_at wr (.cells zc 167))
   have s1 : Sem.run P (storeCells ⟨wr.heap.size,0,none⟩ us 0) (wr.alloc (.cells zc 167)) = .ok () ((wr.alloc (.cells zc 167)).setCells wr.heap.size 0 us) := by
    have := run_storeCells_cells (P := P) wr.heap.size 0 us 0 (wr.alloc (.cells zc 167)) (fun t ht => by rw [Zat (alloc_at wr _),Array.getElem?_eq_getElem (by omega)]; rfl) (fun t ht => Zax (alloc_at wr _) _) u1
    exact this
   have hG1 : Gs wr ((wr.alloc (.cells zc 167)).setCells wr.heap.size 0 us) := (gs_alloc wr _).trans_only hO (Nat.le_refl _)
   obtain ⟨W1,hW1⟩ : ∃ W1,Hold (W1 = (wr.alloc (.cells zc 167)).setCells wr.heap.size 0 us) := ⟨_,⟨rfl⟩⟩
   rw [← hW1.out] at s1 hN hG1
   have l2 : ∀ w',Gs W1 w' → Sem.run P (loadCellsFrom ⟨wr.heap.size,0,none⟩ 0 K #[]) w' = .ok us.toArray w' := fun w' hg2 => load_list P w' _ us K ul (fun t u ht => by
    have hlt1 := (Array.getElem?_eq_some_iff.mp hN).1
    have ht' : t < us.length := (List.getElem?_eq_some_iff.mp ht).1
    rw [Addr.add_lit,Zat ((hg2.same _ hlt1).trans hN),Z6 _ _ _ _ (by omega),if_pos (by omega)]
    simpa using ht)
   have l2' := l2 W1 (Gs.refl W1)
   have hcall := hHC.out j hI.lt hlt W1 (hI.gr.trans (hG1.gr b)) us ul ug'
   have hst : Hold (∀ (w' : World),Gs W1 w' → w'.heap[b]? = some (.cells ck e (0,0)) ∧ Sem.run P (storeCells ⟨b,i * K,none⟩ us 0) w' = .ok () (w'.setCells b (i * K) us)) := ⟨fun w' hg2 => by
    have hb5 := (hg2.same b (Nat.lt_of_lt_of_le hblt hG1.size)).trans ((hG1.same b hblt).trans hI.at_)
    refine ⟨hb5,?_⟩
    have hle : i * K + us.length ≤ ck.size := by
     rw [hI.size,hHB.out.2,ul,← Nat.succ_mul]
     exact Nat.mul_le_mul_right K (by omega)
    have := run_storeCells_cells (P := P) b (i * K) us 0 w' (fun t ht => by rw [Nat.add_zero,Zat hb5,Array.getElem?_eq_getElem (by omega)]; rfl) (fun t ht => Zax hb5 _) u1
    rwa [Nat.add_zero] at this⟩
   have l2H : Hold (∀ w',Gs W1 w' → Sem.run P (loadCellsFrom ⟨wr.heap.size,0,none⟩ 0 K #[]) w' = .ok us.toArray w') := ⟨l2⟩
   have W2 : Hold (DfK K b k0 c e p w wr i j ck ∧ Gs wr W1 ∧ ∀ t,t < K → us[t]? = c[j * K + t]?) := ⟨hI,hG1,fun t ht => by
    obtain ⟨u,hu,_⟩ := hH1.out (j * K + t) (by
     have := Nat.mul_le_mul_right K (show j + 1 ≤ n from hlt)
     rw [Nat.succ_mul] at this
     omega)
    rw [hu]
    exact (ug t u).mpr ⟨by omega,hu⟩⟩
   clear hI hN hO hG1 ug ug' u1 l2 hzc
   cases hq : p j with
   | false =>
    rw [hq] at hcall
    clear hHC hH1 hHZ hIF
    go_wp2_with (go_at_fn g; refine hcall.mono ?_; rintro e w' ⟨rfl,hg2⟩; have l3 := l2H.out w' hg2; have s3 := (hst.out w' hg2).2)
    go_roundg (n - (j + 1))
    case measure => omega
    case rel =>
     obtain ⟨hI,hG1,hus⟩ := W2.out
     have hb5 := (hst.out w' hg2).1
     obtain ⟨hb3,ho3⟩ := Zaa us (i * K) hb5
     have hle : i * K + us.length ≤ ck.size := by
      rw [hI.size,hHB.out.2,ul,← Nat.succ_mul]
      exact Nat.mul_le_mul_right K (by omega)
     have hiK : i * K + K ≤ j * K := by
      rw [← Nat.succ_mul]
      exact Nat.mul_le_mul_right K hij
     have hjK : (j + 1) * K = j * K + K := Nat.succ_mul ..
     refine ⟨i + 1,j + 1,by go_num,by go_num,by omega,Nat.le_refl _,⟨putA ck (i * K) us,?_⟩⟩
     refine ⟨by have := hI.lt; omega,((hI.gr.trans (hG1.gr b)).trans (hg2.gr b)).trans ho3.gr,hb3,by rw [Zab]; exact hI.size,by rw [kpt_keep hI.lt hq,List.length_append,hI.len]; rfl,fun t ht => ?_,fun m k hk t ht => ?_⟩
     ·rw [Z6 _ _ _ _ hle,if_neg (by omega)]
      exact hI.high t (by omega)
     ·rw [kpt_keep hI.lt hq] at hk
      by_cases hm : m < i
      ·have : m * K + K ≤ i * K := by
        rw [← Nat.succ_mul]
        exact Nat.mul_le_mul_right K hm
       rw [Z6 _ _ _ _ hle,if_neg (by omega)]
       exact hI.low m k (by rwa [List.getElem?_append_left (by rw [hI.len]; exact hm)] at hk) t ht
      ·rw [List.getElem?_append_right (by rw [hI.len]; omega),hI.len] at hk
       have hm0 : m = i := by
        by_cases h : m - i = 0
        ·omega
        ·rw [List.getElem?_eq_none (by simp; omega)] at hk; cases hk
       subst hm0
       simp at hk
       subst hk
       rw [Z6 _ _ _ _ hle,if_pos (by omega),Nat.add_sub_cancel_left]
       exact hus t ht
   | true =>
    rw [hq] at hcall
    clear hHC hH1 hHZ hIF
    go_wp2_with (go_at_fn g; refine hcall.mono ?_; rintro e w' ⟨rfl,hg2⟩)
    go_roundg (n - (j + 1))
    case measure => omega
    case rel =>
     obtain ⟨hI,hG1,hus⟩ := W2.out
     have hb5 := (hst.out w' hg2).1
     have hjK : (j + 1) * K = j * K + K := Nat.succ_mul ..
     refine ⟨i,j + 1,rfl,by go_num,by omega,Nat.le_refl _,⟨ck,?_⟩⟩
     exact ⟨by have := hI.lt; omega,(hI.gr.trans (hG1.gr b)).trans (hg2.gr b),hb5,hI.size,by rw [kpt_skip hI.lt hq]; exact hI.len,fun t ht => hI.high t (by omega),by rw [kpt_skip hI.lt hq]; exact hI.low⟩
  ·obtain rfl : j = n := by omega
   have hltz : ¬ (j : Int) < (j : Int) := by omega
   have hcs := hHB.out.2
   obtain ⟨hz,hs,hzs,hz1,hi⟩ := hHZ.out
   have hjc : i * K + (j - i) * K ≤ cap * K := by
    rw [← Nat.add_mul]
    exact Nat.mul_le_mul_right K (by omega)
   have hcl : ∀ ty,(Builtin.clear_ #[90] ty #[.slice (some ⟨b,i * K,none⟩) (j - i) (cap - i)]).run P wr = .ok (.tuple #[]) (wr.setCells b (i * K) (Builtin.zeroCells zc (j - i)).toList) :=
    fun ty => run_clear_cells tS hi hz hz1 (by omega) (fun t ht => by rw [Zat hI.at_]; change t < (j - i) * zc.size at ht; rw [hzs] at ht; rw [Array.getElem?_eq_getElem (by rw [hI.size,hcs]; omega)]; rfl) (fun t ht => Zax hI.at_ _)
   obtain ⟨hb4,ho4⟩ := Zaa (Builtin.zeroCells zc (j - i)).toList (i * K) hI.at_
   have hfin : Hold (Gr b w (wr.setCells b (i * K) (Builtin.zeroCells zc (j - i)).toList) ∧ ∃ c' : Array Value,(wr.setCells b (i * K) (Builtin.zeroCells zc (j - i)).toList).heap[b]? = some (.cells c' e (0,0)) ∧ c'.size = c.size ∧ ∀ m k : Nat,(kpt p k0 j)[m]? = some k → ∀ t,t < K → c'[m * K + t]? = c[k * K + t]?) := by
    have hzl : (Builtin.zeroCells zc (j - i)).toList.length = (j - i) * K := by simp [Zaj,hzs]
    refine ⟨hI.gr.trans ho4.gr,_,hb4,by rw [Zab]; exact hI.size,fun m k hk t ht => ?_⟩
    have hmi : m < i := by rw [← hI.len]; exact (List.getElem?_eq_some_iff.mp hk).1
    have : m * K + K ≤ i * K := by
     rw [← Nat.succ_mul]
     exact Nat.mul_le_mul_right K hmi
    rw [Z6 _ _ _ _ (by rw [hzl,hI.size,hcs]; omega),if_neg (by omega)]
    exact hI.low m k hk t ht
   have hlen := hI.len
   generalize (Builtin.zeroCells zc (j - i)).toList = zl at hcl hfin
   clear hI hz hs hzs hz1 hi hb4 ho4 hcs hjc
   have hic : i ≤ cap := by omega
   go_wp2
   go_ret
   refine ⟨?_,hfin.out⟩
   first | rfl | (rw [hlen]; rfl)
set_option maxHeartbeats 4000000 in
set_option maxRecDepth 1000000 in
theorem Yi.raw0 (a : Option Addr) (n cap : Nat) (w : World) (g : Nat) (lb : Array Value) (hn : n ≤ cap) (hIF : Calls Try.prog 208 #[.slice a n cap,.func (.func g) #[] lb] w fun e w' => e = .returned (.int .i64 (-1)) ∧ Gs w w') : Calls Try.prog 142 #[.slice a n cap,.func (.func g) #[] lb] w fun ex w' => ex = .returned (.slice a n cap) ∧ Gs w w' := by
 go_enter Try.func142,Try.ntmps142
 go_wp2_with (go_at_call 208; refine hIF.mono ?_; rintro e w' ⟨rfl,hg⟩)
 go_ret
 exact ⟨rfl,hg⟩
theorem Yi.raw : DfRawK Try.prog 142 208 19 := ⟨fun a n cap w g lb hn h => Yi.raw0 a n cap w g lb hn h,fun b cap n c e w g lb p k0 h1 h2 h3 h4 h5 h6 h7 h8 h9 => by
 obtain ⟨i0,z,hi,hz,hzs⟩ := Zbr (P := Try.prog) (t := 167) (by kernel_rfl)
 have hsz : i0.size = 19 := by
  have : Try.prog.cellsOf 167 = 19 := by kernel_rfl
  simpa [Program.cellsOf,hi] using this
 have hzc : z.cells.size = 19 := by
  have h1 : (ZaM Try.prog 167).length = 19 := by kernel_rfl
  rw [← h1]
  simpa using (Zaq hzs).2.2.1.symm
 have hzv : ∀ w,(zeroValue 167).run Try.prog w = .ok z w := fun w => by simp [zeroValue,typeInfo,hi,hz]
 obtain ⟨zc,rfl⟩ : ∃ zc,z = .agg zc := by
  have h := (hzv w).symm.trans (Try.zeroValue167 w)
  injection h with h
  exact ⟨_,h⟩
 exact Yi.raw2 (by kernel_rfl) Try.func142 (enters_of Try.func208 (by kernel_rfl) (c := ZI Try.f208) (by kernel_rfl)) Try.underlying0 Try.isAgg0 Try.sizeOf0 Try.zeroValue0 Try.underlying3 Try.isAgg3 Try.sizeOf3 Try.zeroValue3 Try.underlying4 Try.isAgg4 Try.sizeOf4 Try.zeroValue4
  Try.underlying90 Try.isAgg90 Try.sizeOf90 Try.zeroValue90 Try.underlying169 Try.isAgg169 Try.sizeOf169 Try.zeroValue169 19 (by decide) zc Try.isAgg167 Try.sizeOf167 hzv b cap n c e w g lb p k0 h1 h2 h3 h4 h5 h6 i0 hi hz hsz hzc (Zaq hzs).2.1 h7 h8 h9⟩
theorem Yi.ok (k : Nat) : Zf Try.prog 142 (Yi.e k) := delfuncK_ok tyok (ct := 90) (K := 19) (g := 144) (fi := 208) (run := fun {β} => Yi.run k) (by kernel_rfl) (by decide) (enter_of Try.func142 (by kernel_rfl)) Yi.raw (by kernel_rfl) (by kernel_rfl) (Yg.ok k) (Yal.ok k) (fun β aa K r h => by
 unfold Yi.run at h
 split at h
 ·rename_i xs g c0_0
  cases hg : g == 144 with
  | false => rw [hg] at h; cases h
  | true =>
   rw [hg] at h
   obtain rfl := eq_of_beq hg
   simp only [cond_true] at h
   unfold Yi.f Yi.t at h
   split at h
   ·rename_i z0 hz
    refine ⟨_,_,_,_,_,rfl,hz,h,rfl,rfl,rfl,rfl,fun ds z h => ?_,fun s q h => ?_⟩
    ·exact (ent_run (Yg.e k) rfl (congrArg some h) rfl)
    ·split at h
     ·rename_i x0 x1 x2 x3 x4 x5 x6 x7 x8 x9 x10 x11 x12 x13 x14 x15 x16 x17 x18
      exact (ent_run (Yal.e k) rfl (congrArg some h) rfl)
     ·cases h
   ·cases h
 ·cases h)
noncomputable def Yau.g {β : Type} (k : Nat) (aB : LD) (aA aC : Int) (aD : LD) (a1 : Int) (K : LC → Bool → Option β) : Option β :=
 YK.f k aB aA aC aD (fun y453 => bif (!y453) then (K ([] : LC) false) else (YS.f k a1 0 aA (fun y454 => bif (!y454) then (K ([] : LC) false) else (YP.f k aD (fun y455 => Yi.f k y455 a1 (fun y456 => bif (decide (((y456.length : Int) : Int) < (IntKind.wrap .i64 (aA - a1)))) then (K ([] : LC) false) else (K y456 true)))))))
noncomputable def Yau.t (k : Nat) (aB : LD) (aA aC : Int) (aD : LD) (a1 : Int) : Option (LC × Bool) := Yau.g k aB aA aC aD a1 (fun z0 z1 => some (z0,z1))
noncomputable def Yau.f {β : Type} (k : Nat) (aB : LD) (aA aC : Int) (aD : LD) (a1 : Int) (K : LC → Bool → Option β) : Option β := bd2 (Yau.t k aB aA aC aD a1) K
noncomputable def Yau.e (k : Nat) : Zj := ent [.agg [.l,.n,.n,.l],.d .n] [1,1] [.o,.b] [90,4] false (Yau.t k)
noncomputable def Yau.p (k : Nat) : Pro := ⟨Try.prog,[(139,YK.e k),(71,YS.e k),(143,YP.e k),(142,Yi.e k)],Zv [] false [],k⟩
theorem Yau.ok (k : Nat) : Zf Try.prog 57 (Yau.e k) := Zk (Yau.p k) mix tyok Try.func57 ⟨YK.ok k,YS.ok k,YP.ok k,Yi.ok k⟩ (by kernel_rfl) (fun aB aA aC aD a1 => by show _ = _; kernel_rfl)
noncomputable def YG.l0 {β : Type} (k : Nat) (aF : LD) (aH : Int) (K : LC → Option β) (L0 : (Int × LC) → Option β) (v : Int × LC) : Option β :=
 match v with
 | (aI,aJ) => bif (decide ((aI : Int) < aH)) then (atR aF aI [.n,.s,.n,.n,.n,.b,.l,.n,.s,.n,.l,.l,.n,.s,.n,.l,.l] fun x73 x76 x79 x82 x85 x88 x91 x94 x97 x100 x103 x106 x109 x112 x115 x118 x121 => (Yag.f k x73 x76 x79 x82 x85 x88 x91 x94 x97 x100 x103 x106 x109 x112 x115 x118 x121 (fun y122 y123 y124 y125 y126 y127 y128 y129 y130 y131 y132 y133 y134 y135 y136 y137 y138 => Zd (aJ.length + ([[.d (.int .i64 y122),.d (.str y123),.d (.int .i64 y124),.d (.int .i64 y125),.d (.int .i64 y126),.d (.bool y127),.own y128,.d (.int .i64 y129),.d (.str y130),.d (.int .i64 y131),.own y132,.own y133,.d (.int .i64 y134),.d (.str y135),.d (.int .i64 y136),.own y137,.own y138]] : LC).length ≤ Z8) (L0 (IntKind.wrap .i64 (aI + 1),aJ ++ ([[.d (.int .i64 y122),.d (.str y123),.d (.int .i64 y124),.d (.int .i64 y125),.d (.int .i64 y126),.d (.bool y127),.own y128,.d (.int .i64 y129),.d (.str y130),.d (.int .i64 y131),.own y132,.own y133,.d (.int .i64 y134),.d (.str y135),.d (.int .i64 y136),.own y137,.own y138]] : LC)))))) else (K aJ)
noncomputable def YG.m {β : Type} (k : Nat) (a0 : LD) (K : LC → Option β) (F : (LD → Int → (Int × LC) → Option β)) : Option β :=
 F a0 (a0.length : Int) (0,([] : LC))
noncomputable def YG.g {β : Type} (k : Nat) (a0 : LD) (K : LC → Option β) : Option β :=
 ZA (YG.l0 k a0 (a0.length : Int) K) k (0,([] : LC))
noncomputable def YG.t (k : Nat) (a0 : LD) : Option (LC) := YG.g k a0 (fun z0 => some z0)
noncomputable def YG.f {β : Type} (k : Nat) (a0 : LD) (K : LC → Option β) : Option β := bd1 (YG.t k a0) K
noncomputable def YG.e (k : Nat) : Zj := ent [.d .l] [1] [.o] [87] false (YG.t k)
noncomputable def YG.p (k : Nat) : Pro := ⟨Try.prog,[(204,Yag.e k)],Zv [(3,kp [3,7,8,9])] false [],k⟩
noncomputable def YG.d (k : Nat) (a0 : LD) : Ex → St → Option (LC) := (YG.p k).fin Try.f140 [.d (.sl a0)] [1] [.o]
noncomputable def YG.s0 (aF : LD) (aH : Int) (v : Int × LC) : St :=
 match v with
 | (aI,aJ) => ZaA 20 [(3,.row 0),(7,.d false (.sl aF)),(8,.d true (.int .i64 aH)),(9,.d true (.int .i64 aI))] [.row none true 87 aJ]
noncomputable def YG.r0 (k : Nat) (a0 aF : LD) (aH : Int) (n : Nat) (v : Int × LC) : Option (LC) := (YG.p k).lp (ZI Try.f140) 3 [1,1,0,1,0] (YG.d k a0) n (YG.s0 aF aH v)
theorem YG.l0_eq (k : Nat) (a0 aF : LD) (aH : Int) : ∀ n v,YG.r0 k a0 aF aH n v = ZA (YG.l0 k aF aH (fun z0 => some z0)) n v :=
 Zz (YG.s0 aF aH) _ fun L0 v => by obtain ⟨aI,aJ⟩ := v; kernel_rfl
theorem YG.ok (k : Nat) : Zf Try.prog 140 (YG.e k) := Zk (YG.p k) mix tyok Try.func140 (Yag.ok k) (by kernel_rfl) (fun a0 => Eq.trans (b := YG.m k a0 (fun z0 => some z0) (fun aF aH => YG.r0 k a0 aF aH k)) (by kernel_rfl) (congrArg (YG.m k a0 (fun z0 => some z0)) (funext fun aF => funext fun aH => funext fun v => YG.l0_eq k a0 aF aH k v) :))
noncomputable def Yaz.g {β : Type} (k : Nat) (aB : LD) (aA aC : Int) (aD : LD) (K : Int → LC → Option β) : Option β :=
 YK.f k aB aA aC aD (fun y1 => bif (!y1) then (K 0 ([] : LC)) else (YG.f k aB (fun y139 => K aA y139)))
noncomputable def Yaz.t (k : Nat) (aB : LD) (aA aC : Int) (aD : LD) : Option (Int × LC) := Yaz.g k aB aA aC aD (fun z0 z1 => some (z0,z1))
noncomputable def Yaz.f {β : Type} (k : Nat) (aB : LD) (aA aC : Int) (aD : LD) (K : Int → LC → Option β) : Option β := bd2 (Yaz.t k aB aA aC aD) K
noncomputable def Yaz.e (k : Nat) : Zj := ent [.agg [.l,.n,.n,.l]] [2] [.n,.o] [89] false (Yaz.t k)
noncomputable def Yaz.p (k : Nat) : Pro := ⟨Try.prog,[(139,YK.e k),(140,YG.e k)],Zv [] false [],k⟩
theorem Yaz.ok (k : Nat) : Zf Try.prog 54 (Yaz.e k) := Zk (Yaz.p k) mix tyok Try.func54 ⟨YK.ok k,YG.ok k⟩ (by kernel_rfl) (fun aB aA aC aD => by show _ = _; kernel_rfl)
noncomputable def Yad.g {β : Type} (k : Nat) (aB : Int) (aA : LD) (K : Bool → Option β) : Option β :=
 YS.f k aB 0 1000000 (fun y1 => bif y1 then (YT.f k aA 1000000 aB (fun y2 => K y2)) else (K false))
noncomputable def Yad.t (k : Nat) (aB : Int) (aA : LD) : Option (Bool) := Yad.g k aB aA (fun z0 => some z0)
noncomputable def Yad.f {β : Type} (k : Nat) (aB : Int) (aA : LD) (K : Bool → Option β) : Option β := bd1 (Yad.t k aB aA) K
noncomputable def Yad.e (k : Nat) : Zj := ent [.agg [.n,.l]] [1] [.b] [4] false (Yad.t k)
noncomputable def Yad.p (k : Nat) : Pro := ⟨Try.prog,[(71,YS.e k),(141,YT.e k)],Zv [] false [],k⟩
theorem Yad.ok (k : Nat) : Zf Try.prog 56 (Yad.e k) := Zk (Yad.p k) mix tyok Try.func56 ⟨YS.ok k,YT.ok k⟩ (by kernel_rfl) (fun aB aA => by show _ = _; kernel_rfl)
noncomputable def Y1.g {β : Type} (k : Nat) (aB : Int) (aA : LD) (K : Int → LC → Option β) : Option β :=
 YG.f k aA (fun y1 => K aB y1)
noncomputable def Y1.t (k : Nat) (aB : Int) (aA : LD) : Option (Int × LC) := Y1.g k aB aA (fun z0 z1 => some (z0,z1))
noncomputable def Y1.f {β : Type} (k : Nat) (aB : Int) (aA : LD) (K : Int → LC → Option β) : Option β := bd2 (Y1.t k aB aA) K
noncomputable def Y1.e (k : Nat) : Zj := ent [.agg [.n,.l]] [2] [.n,.o] [89] false (Y1.t k)
noncomputable def Y1.p (k : Nat) : Pro := ⟨Try.prog,[(140,YG.e k)],Zv [] false [],k⟩
theorem Y1.ok (k : Nat) : Zf Try.prog 133 (Y1.e k) := Zk (Y1.p k) mix tyok Try.func133 (YG.ok k) (by kernel_rfl) (fun aB aA => by show _ = _; kernel_rfl)
noncomputable def Yc.l0 {β : Type} (k : Nat) (aF : LD) (aH aL : Int) (aM : BA) (aN aO aP : Int) (aU : Bool) (aW : LD) (aY : Int) (aZ : BA) (bZ : Int) (cE cF : LD) (cG : Int) (cH : BA) (cJ : Int) (cL cP : LD) (K : Int → Bool → Option β) (L0 : (Int × Int) → Option β) (v : Int × Int) : Option β :=
 match v with
 | (aI,aJ) => bif (decide ((aI : Int) < aJ)) then (let J1 := (Int.fdiv (IntKind.wrap .u64 (IntKind.wrap .i64 (aI + aJ))) (2 ^ (min (1 : Int).toNat 64))); let J0 := (IntKind.wrap .i64 J1); Zd ((0 : Int) ≤ 1) (atRow aF J0 fun c107 => rdQ [.n,.s,.n,.n,.n,.b,.l,.n,.s,.n,.l,.l,.n,.s,.n,.l,.l] c107 fun x110 x113 x116 x119 x122 x125 x128 x131 x134 x137 x140 x143 x146 x149 x152 x155 x158 => (Yac.f k x110 x113 x116 x119 x122 x125 x128 x131 x134 x137 x140 x143 x146 x149 x152 x155 x158 aL aM aN aO aP aU aW aY aZ bZ cE cF cG cH cJ cL cP (fun y159 => bif (decide ((y159 : Int) < 0)) then (L0 (IntKind.wrap .i64 (J0 + 1),aJ)) else (L0 (aI,IntKind.wrap .i64 J1)))))) else (bif (decide ((aI : Int) < aH)) then (atR aF aI [.n,.s,.n,.n,.n,.b,.l,.n,.s,.n,.l,.l,.n,.s,.n,.l,.l] fun x163 x166 x169 x172 x175 x178 x181 x184 x187 x190 x193 x196 x199 x202 x205 x208 x211 => (Yac.f k x163 x166 x169 x172 x175 x178 x181 x184 x187 x190 x193 x196 x199 x202 x205 x208 x211 aL aM aN aO aP aU aW aY aZ bZ cE cF cG cH cJ cL cP (fun y212 => K aI ((y212 : Int) == 0)))) else (K aI false))
noncomputable def Yc.m {β : Type} (k : Nat) (a0 : LD) (aQ : Int) (aR : BA) (aT aV aX : Int) (bL : Bool) (bM : LD) (bN : Int) (bO : BA) (bP : Int) (bQ bR : LD) (bT : Int) (bU : BA) (bV : Int) (bW bX : LD) (K : Int → Bool → Option β) (F : (LD → Int → Int → BA → Int → Int → Int → Bool → LD → Int → BA → Int → LD → LD → Int → BA → Int → LD → LD → (Int × Int) → Option β)) : Option β :=
 F a0 (a0.length : Int) aQ aR aT aV aX bL bM bN bO bP bQ bR bT bU bV bW bX (0,(a0.length : Int))
noncomputable def Yc.g {β : Type} (k : Nat) (a0 : LD) (aQ : Int) (aR : BA) (aT aV aX : Int) (bL : Bool) (bM : LD) (bN : Int) (bO : BA) (bP : Int) (bQ bR : LD) (bT : Int) (bU : BA) (bV : Int) (bW bX : LD) (K : Int → Bool → Option β) : Option β :=
 ZA (Yc.l0 k a0 (a0.length : Int) aQ aR aT aV aX bL bM bN bO bP bQ bR bT bU bV bW bX K) k (0,(a0.length : Int))
noncomputable def Yc.t (k : Nat) (a0 : LD) (aQ : Int) (aR : BA) (aT aV aX : Int) (bL : Bool) (bM : LD) (bN : Int) (bO : BA) (bP : Int) (bQ bR : LD) (bT : Int) (bU : BA) (bV : Int) (bW bX : LD) : Option (Int × Bool) := Yc.g k a0 aQ aR aT aV aX bL bM bN bO bP bQ bR bT bU bV bW bX (fun z0 z1 => some (z0,z1))
noncomputable def Yc.f {β : Type} (k : Nat) (a0 : LD) (aQ : Int) (aR : BA) (aT aV aX : Int) (bL : Bool) (bM : LD) (bN : Int) (bO : BA) (bP : Int) (bQ bR : LD) (bT : Int) (bU : BA) (bV : Int) (bW bX : LD) (K : Int → Bool → Option β) : Option β := bd2 (Yc.t k a0 aQ aR aT aV aX bL bM bN bO bP bQ bR bT bU bV bW bX) K
noncomputable def Yc.e (k : Nat) : Zj := ent [.d .l,.agg [.n,.s,.n,.n,.n,.b,.l,.n,.s,.n,.l,.l,.n,.s,.n,.l,.l],.fn 205 []] [1,1] [.n,.b] [3,4] false (Yc.t k)
noncomputable def Yc.p (k : Nat) : Pro := ⟨Try.prog,[(205,Yac.e k)],Zv [(3,kp [0,2,4,8,9,10])] false [],k⟩
noncomputable def Yc.d (k : Nat) (a0 : LD) (aQ : Int) (aR : BA) (aT aV aX : Int) (bL : Bool) (bM : LD) (bN : Int) (bO : BA) (bP : Int) (bQ bR : LD) (bT : Int) (bU : BA) (bV : Int) (bW bX : LD) : Ex → St → Option (Int × Bool) := (Yc.p k).fin Try.f239 [.d (.sl a0),.agg [.int .i64 aQ,.str aR,.int .i64 aT,.int .i64 aV,.int .i64 aX,.bool bL,.sl bM,.int .i64 bN,.str bO,.int .i64 bP,.sl bQ,.sl bR,.int .i64 bT,.str bU,.int .i64 bV,.sl bW,.sl bX],.d (.fn 205 [])] [1,1] [.n,.b]
noncomputable def Yc.s0 (aF : LD) (aH aL : Int) (aM : BA) (aN aO aP : Int) (aU : Bool) (aW : LD) (aY : Int) (aZ : BA) (bZ : Int) (cE cF : LD) (cG : Int) (cH : BA) (cJ : Int) (cL cP : LD) (v : Int × Int) : St :=
 match v with
 | (aI,aJ) => ZaA 49 [(0,.d false (.sl aF)),(2,.d false (.fn 205 [])),(4,.bp 0 0),(8,.d true (.int .i64 aH)),(9,.d true (.int .i64 aI)),(10,.d true (.int .i64 aJ))] [.box none 165 [.d false (.int .i64 aL),.d false (.str aM),.d false (.int .i64 aN),.d false (.int .i64 aO),.d false (.int .i64 aP),.d false (.bool aU),.d false (.sl aW),.d false (.int .i64 aY),.d false (.str aZ),.d false (.int .i64 bZ),.d false (.sl cE),.d false (.sl cF),.d false (.int .i64 cG),.d false (.str cH),.d false (.int .i64 cJ),.d false (.sl cL),.d false (.sl cP)]]
noncomputable def Yc.r0 (k : Nat) (a0 : LD) (aQ : Int) (aR : BA) (aT aV aX : Int) (bL : Bool) (bM : LD) (bN : Int) (bO : BA) (bP : Int) (bQ bR : LD) (bT : Int) (bU : BA) (bV : Int) (bW bX aF : LD) (aH aL : Int) (aM : BA) (aN aO aP : Int) (aU : Bool) (aW : LD) (aY : Int) (aZ : BA) (bZ : Int) (cE cF : LD) (cG : Int) (cH : BA) (cJ : Int) (cL cP : LD) (n : Nat) (v : Int × Int) : Option (Int × Bool) := (Yc.p k).lp (ZI Try.f239) 3 [1,1,1,0,0] (Yc.d k a0 aQ aR aT aV aX bL bM bN bO bP bQ bR bT bU bV bW bX) n (Yc.s0 aF aH aL aM aN aO aP aU aW aY aZ bZ cE cF cG cH cJ cL cP v)
theorem Yc.l0_eq (k : Nat) (a0 : LD) (aQ : Int) (aR : BA) (aT aV aX : Int) (bL : Bool) (bM : LD) (bN : Int) (bO : BA) (bP : Int) (bQ bR : LD) (bT : Int) (bU : BA) (bV : Int) (bW bX aF : LD) (aH aL : Int) (aM : BA) (aN aO aP : Int) (aU : Bool) (aW : LD) (aY : Int) (aZ : BA) (bZ : Int) (cE cF : LD) (cG : Int) (cH : BA) (cJ : Int) (cL cP : LD) : ∀ n v,Yc.r0 k a0 aQ aR aT aV aX bL bM bN bO bP bQ bR bT bU bV bW bX aF aH aL aM aN aO aP aU aW aY aZ bZ cE cF cG cH cJ cL cP n v = ZA (Yc.l0 k aF aH aL aM aN aO aP aU aW aY aZ bZ cE cF cG cH cJ cL cP (fun z0 z1 => some (z0,z1))) n v :=
 Zz (Yc.s0 aF aH aL aM aN aO aP aU aW aY aZ bZ cE cF cG cH cJ cL cP) _ fun L0 v => by obtain ⟨aI,aJ⟩ := v; kernel_rfl
theorem Yc.ok (k : Nat) : Zf Try.prog 239 (Yc.e k) := Zk (Yc.p k) mix tyok Try.func239 (Yac.ok k) (by kernel_rfl) (fun a0 aQ aR aT aV aX bL bM bN bO bP bQ bR bT bU bV bW bX => Eq.trans (b := Yc.m k a0 aQ aR aT aV aX bL bM bN bO bP bQ bR bT bU bV bW bX (fun z0 z1 => some (z0,z1)) (fun aF aH aL aM aN aO aP aU aW aY aZ bZ cE cF cG cH cJ cL cP => Yc.r0 k a0 aQ aR aT aV aX bL bM bN bO bP bQ bR bT bU bV bW bX aF aH aL aM aN aO aP aU aW aY aZ bZ cE cF cG cH cJ cL cP k)) (by kernel_rfl) (congrArg (Yc.m k a0 aQ aR aT aV aX bL bM bN bO bP bQ bR bT bU bV bW bX (fun z0 z1 => some (z0,z1))) (funext fun aF => funext fun aH => funext fun aL => funext fun aM => funext fun aN => funext fun aO => funext fun aP => funext fun aU => funext fun aW => funext fun aY => funext fun aZ => funext fun bZ => funext fun cE => funext fun cF => funext fun cG => funext fun cH => funext fun cJ => funext fun cL => funext fun cP => funext fun v => Yc.l0_eq k a0 aQ aR aT aV aX bL bM bN bO bP bQ bR bT bU bV bW bX aF aH aL aM aN aO aP aU aW aY aZ bZ cE cF cG cH cJ cL cP k v) :))
noncomputable def YB.t (k : Nat) (xs : LC) (i : Int) (ys : LC) : Option LC := Zd (0 ≤ i ∧ i ≤ (xs.length : Int) ∧ xs.length + ys.length ≤ Z8) (some (xs.take i.toNat ++ ys ++ xs.drop i.toNat))
noncomputable def YB.f {β : Type} (k : Nat) (xs : LC) (i : Int) (ys : LC) (K : LC → Option β) : Option β :=
 match YB.t k xs i ys with
 | some z0 => K z0
 | none => none
noncomputable def YB.run (k : Nat) : {β : Type} → List A → (LC → Option β) → Option β := fun {β} l K =>
 match l with
 | [.own false [.own xs],.d (.int .i64 i),.own false [.own ys]] => YB.f k xs i ys K
 | _ => none
noncomputable def YB.e (k : Nat) : Zj := { modes := [(.own,0)],rts := [87],al := false,run := fun _ _ => none,lib := some ⟨[true,false,true],87,YB.run k⟩ }
set_option maxHeartbeats 4000000 in
set_option maxRecDepth 1000000 in
theorem YB.raw0 (a : Option Addr) (n cap i : Nat) (a' : Option Addr) (cap' : Nat) (w : World) (hi : i ≤ n) (hn : n ≤ cap) : Calls Try.prog 240 #[.slice a n cap,.int .i64 i,.slice a' 0 cap'] w fun ex w' => ex = .returned (.slice a n cap) ∧ w' = w := by
 go_enter Try.func240,Try.ntmps240
 go_wp2
 all_goals (go_ret; exact ⟨rfl,rfl⟩)
set_option maxHeartbeats 4000000 in
set_option maxRecDepth 1000000 in
theorem YB.rawA (a : Option Addr) (n cap m vb vcap : Nat) (w W' : World) (R : Value) (hm : 0 < m) (hn : n ≤ cap) (hrun : ∀ ty,(Builtin.append_ #[87,87] ty #[.slice a n cap,.slice (some ⟨vb,0,none⟩) m vcap]).run Try.prog w = .ok R W') :
  Calls Try.prog 240 #[.slice a n cap,.int .i64 n,.slice (some ⟨vb,0,none⟩) m vcap] w fun ex w' => ex = .returned R ∧ w' = W' := by
 have mixed : Try.prog.follows .mixedOrders = true := by kernel_rfl
 have hz1 : ¬ ((m : Int) = 0) := by omega
 go_enter Try.func240,Try.ntmps240
 cases a with
 | none =>
  go_wp2_with (at_builtin; refine Lib.wpList_append_run _ rfl _ _ _ _ rfl _ _ rfl rfl _ _ (hrun _) ?_)
  all_goals (go_ret; exact ⟨rfl,rfl⟩)
 | some a =>
  obtain ⟨ab,ao,asp⟩ := a
  go_wp2_with (at_builtin; refine Lib.wpList_append_run _ rfl _ _ _ _ rfl _ _ rfl rfl _ _ (hrun _) ?_)
  all_goals (go_ret; exact ⟨rfl,rfl⟩)
set_option maxHeartbeats 4000000 in
set_option maxRecDepth 1000000 in
theorem YB.rawB (b n cap i vb m vcap : Nat) (cd vs : List Value) (w : World) (hi : i < n) (hm : 0 < m) (hroom : n + m ≤ cap) (hnm : n + m ≤ 9223372036854775807)
  (hov : ∀ lb cb,(callFunc 258 #[.slice (some ⟨vb,0,none⟩) m vcap,.slice (some ⟨b,(i + m) * 17,none⟩) lb cb]).run Try.prog w = .ok (.value (.bool false)) w)
  (hcp1 : ∀ ty dc sc,(Builtin.copy_ #[87,87] ty #[.slice (some ⟨b,(i + m) * 17,none⟩) (n + m - (i + m)) dc,.slice (some ⟨b,i * 17,none⟩) (n + m - i) sc]).run Try.prog w.drew = .ok (goInt ((n - i : Nat) : Int)) (w.drew.setCells b ((i + m) * 17) cd))
  (hcp2 : ∀ ty dc,(Builtin.copy_ #[87,87] ty #[.slice (some ⟨b,i * 17,none⟩) (n + m - i) dc,.slice (some ⟨vb,0,none⟩) m vcap]).run Try.prog (w.drew.setCells b ((i + m) * 17) cd) = .ok (goInt m) ((w.drew.setCells b ((i + m) * 17) cd).setCells b (i * 17) vs)) :
  Calls Try.prog 240 #[.slice (some ⟨b,0,none⟩) n cap,.int .i64 i,.slice (some ⟨vb,0,none⟩) m vcap] w fun ex w' => ex = .returned (.slice (some ⟨b,0,none⟩) (n + m) cap) ∧ w' = (w.drew.setCells b ((i + m) * 17) cd).setCells b (i * 17) vs := by
 have mixed : Try.prog.follows .mixedOrders = true := by kernel_rfl
 have hz1 : ¬ ((m : Int) = 0) := by omega
 have hz2 : ¬ ((i : Int) = (n : Int)) := by omega
 have hw1 : IntKind.i64.wrap ((i : Int) + (m : Int)) = (i : Int) + (m : Int) := by rw [IntKind.wrap_i64]; omega
 have hb1 : (0 : Int) ≤ (i : Int) + (m : Int) := by omega
 have hin : i ≤ n := by omega
 have htn : ((i : Int) + (m : Int)).toNat = i + m := by omega
 have hb2 : ¬ (cap = i + m) := by omega
 have hb3 : (i : Int) ≤ (n : Int) + (m : Int) := by omega
 have hb4 : ¬ (cap = i) := by omega
 obtain ⟨W1,hW1⟩ : ∃ W1,Hold (W1 = w.drew.setCells b ((i + m) * 17) cd) := ⟨_,⟨rfl⟩⟩
 rw [← hW1.out] at hcp1 hcp2 ⊢
 go_enter Try.func240,Try.ntmps240
 go_wp2_with (simp only [hov])
 go_region_law_o (refine step_copy_run rfl _ _ 87 87 rfl _ _ (by simp [Act.eval,Act.put]) (by simp [Act.eval,Act.put]) (hcp1 _ _ _) ?_)
 go_wp2_with (at_builtin; refine wpList_copy_run _ rfl _ _ 87 87 rfl _ _ rfl rfl (hcp2 _ _) ?_)
 go_ret
 exact ⟨rfl,rfl⟩
set_option maxHeartbeats 4000000 in
set_option maxRecDepth 1000000 in
theorem YB.rawC (b n cap i vb m vcap G N : Nat) (cd vs : List Value) (w W1 : World) (hi : i < n) (hm : 0 < m) (hn : n ≤ cap) (hroom : cap < n + m) (hG : n + m ≤ G) (hG63 : G ≤ 9223372036854775807)
  (hrz : ∀ ty,(Builtin.append_ #[87,3] ty #[.slice (some ⟨b,0,none⟩) i cap,.int .i64 ((n : Int) + (m : Int) - (i : Int))]).run Try.prog w = .ok (.slice (some ⟨N,0,none⟩) (n + m) G) W1)
  (hcpA : ∀ ty dc,(Builtin.copy_ #[87,87] ty #[.slice (some ⟨N,i * 17,none⟩) (n + m - i) dc,.slice (some ⟨vb,0,none⟩) m vcap]).run Try.prog W1 = .ok (goInt m) (W1.setCells N (i * 17) vs))
  (hcpB : ∀ ty dc sc,(Builtin.copy_ #[87,87] ty #[.slice (some ⟨N,(i + m) * 17,none⟩) (n + m - (i + m)) dc,.slice (some ⟨b,i * 17,none⟩) (n - i) sc]).run Try.prog (W1.setCells N (i * 17) vs).drew = .ok (goInt ((n - i : Nat) : Int)) ((W1.setCells N (i * 17) vs).drew.setCells N ((i + m) * 17) cd)) :
  Calls Try.prog 240 #[.slice (some ⟨b,0,none⟩) n cap,.int .i64 i,.slice (some ⟨vb,0,none⟩) m vcap] w fun ex w' => ex = .returned (.slice (some ⟨N,0,none⟩) (n + m) G) ∧ w' = (W1.setCells N (i * 17) vs).drew.setCells N ((i + m) * 17) cd := by
 have mixed : Try.prog.follows .mixedOrders = true := by kernel_rfl
 have hz1 : ¬ ((m : Int) = 0) := by omega
 have hz2 : ¬ ((i : Int) = (n : Int)) := by omega
 have hz3 : (cap : Int) < (n : Int) + (m : Int) := by omega
 have hGi : ¬ (G = i) := by omega
 have hGim : ¬ (G = i + m) := by omega
 have hci : ¬ (cap = i) := by omega
 have hw1 : IntKind.i64.wrap ((i : Int) + (m : Int)) = (i : Int) + (m : Int) := by rw [IntKind.wrap_i64]; omega
 have hb1 : (0 : Int) ≤ (i : Int) + (m : Int) := by omega
 have hin : i ≤ n := by omega
 have htn : ((i : Int) + (m : Int)).toNat = i + m := by omega
 have hb3 : (i : Int) ≤ (n : Int) := by omega
 obtain ⟨W2,hW2⟩ : ∃ W2,Hold (W2 = W1.setCells N (i * 17) vs) := ⟨_,⟨rfl⟩⟩
 rw [← hW2.out] at hcpA hcpB ⊢
 go_enter Try.func240,Try.ntmps240
 go_wp2_with (first
  | (at_builtin; refine Lib.wpList_append_run _ rfl _ _ _ _ rfl _ _ rfl rfl _ _ (hrz _) ?_)
  | (at_builtin; refine wpList_copy_run _ rfl _ _ 87 87 rfl _ _ rfl rfl (hcpA _ _) ?_))
 go_region_law_o (refine step_copy_run rfl _ _ 87 87 rfl (.slice (some ⟨N,(i + m) * 17,none⟩) (n + m - (i + m)) (G - (i + m))) (.slice (some ⟨b,i * 17,none⟩) (n - i) (cap - i)) (by simp [Act.eval,Act.put]) (by simp [Act.eval,Act.put]) (hcpB _ _ _) ?_)
 go_wp2
 go_ret
 exact ⟨rfl,rfl⟩
theorem YB.raw : InsRaw Try.prog 240 17 := by
 obtain ⟨i0,z,hi,hz,hzs⟩ := Zbr (P := Try.prog) (t := 165) (by kernel_rfl)
 have hsz : i0.size = 17 := by
  have : Try.prog.cellsOf 165 = 17 := by kernel_rfl
  simpa [Program.cellsOf,hi] using this
 have hzc : z.cells.size = 17 := by
  have h1 : (ZaM Try.prog 165).length = 17 := by kernel_rfl
  rw [← h1]
  simpa using (Zaq hzs).2.2.1.symm
 have hby : i0.bytes ≤ 1000 := by
  have : (Try.prog.info? 165).map (·.bytes) = some 240 := by kernel_rfl
  rw [hi] at this
  simp only [Option.map_some,Option.some.injEq] at this
  rw [this]
  decide
 exact InsRoads.raw (o := 258) (S := 87) (E := 165) (T := 4) ⟨YB.raw0,YB.rawA,YB.rawB,YB.rawC⟩ Try.underlying87 (by kernel_rfl) hi hz hsz (by decide) hzc hby (fun x y w h => by
  rw [run_callFunc_extern Try.func258 (by kernel_rfl) (by kernel_rfl) (by kernel_rfl) (e := Extern.SlicesOverlaps.overlaps #[87,87] #[4]) (by kernel_rfl),h]
  rfl)
theorem YB.ok (k : Nat) : Zf Try.prog 240 (YB.e k) := insert_ok tyok (ct := 87) (K := 17) (run := fun {β} => YB.run k) (by kernel_rfl) (enter_of Try.func240 (by kernel_rfl)) YB.raw (fun β aa K r h => by
 unfold YB.run at h
 split at h
 ·unfold YB.f YB.t at h
  split at h
  ·rename_i hz
   obtain ⟨hg,hz⟩ := Zp hz
   injection hz with hz
   subst hz
   exact ⟨_,_,_,rfl,hg,h⟩
  ·cases h
 ·cases h)
noncomputable def YaB.g {β : Type} (k : Nat) (a0 : LC) (aQ : Int) (aR : BA) (aT aV aX : Int) (bL : Bool) (bM : LD) (bN : Int) (bO : BA) (bP : Int) (bQ bR : LD) (bT : Int) (bU : BA) (bV : Int) (bW bX : LD) (K : LC → Option β) : Option β :=
 Yc.f k (C.immRows a0) aQ aR aT aV aX bL bM bN bO bP bQ bR bT bU bV bW bX (fun y213 y214 => bif y214 then (Yag.f k aQ aR aT aV aX bL bM bN bO bP bQ bR bT bU bV bW bX (fun y215 y216 y217 y218 y219 y220 y221 y222 y223 y224 y225 y226 y227 y228 y229 y230 y231 => Zd ((0 : Int) ≤ y213 ∧ y213 < (a0.length : Int)) (Zd (Int.toNat y213 < a0.length) (K (a0.modify (Int.toNat y213) fun c => Zs c 0 [.d (.int .i64 y215),.d (.str y216),.d (.int .i64 y217),.d (.int .i64 y218),.d (.int .i64 y219),.d (.bool y220),.own y221,.d (.int .i64 y222),.d (.str y223),.d (.int .i64 y224),.own y225,.own y226,.d (.int .i64 y227),.d (.str y228),.d (.int .i64 y229),.own y230,.own y231]))))) else (Yag.f k aQ aR aT aV aX bL bM bN bO bP bQ bR bT bU bV bW bX (fun y232 y233 y234 y235 y236 y237 y238 y239 y240 y241 y242 y243 y244 y245 y246 y247 y248 => YB.f k a0 y213 ([[.d (.int .i64 y232),.d (.str y233),.d (.int .i64 y234),.d (.int .i64 y235),.d (.int .i64 y236),.d (.bool y237),.own y238,.d (.int .i64 y239),.d (.str y240),.d (.int .i64 y241),.own y242,.own y243,.d (.int .i64 y244),.d (.str y245),.d (.int .i64 y246),.own y247,.own y248]] : LC) (fun y249 => K y249))))
noncomputable def YaB.t (k : Nat) (a0 : LC) (aQ : Int) (aR : BA) (aT aV aX : Int) (bL : Bool) (bM : LD) (bN : Int) (bO : BA) (bP : Int) (bQ bR : LD) (bT : Int) (bU : BA) (bV : Int) (bW bX : LD) : Option (LC) := YaB.g k a0 aQ aR aT aV aX bL bM bN bO bP bQ bR bT bU bV bW bX (fun z0 => some z0)
noncomputable def YaB.f {β : Type} (k : Nat) (a0 : LC) (aQ : Int) (aR : BA) (aT aV aX : Int) (bL : Bool) (bM : LD) (bN : Int) (bO : BA) (bP : Int) (bQ bR : LD) (bT : Int) (bU : BA) (bV : Int) (bW bX : LD) (K : LC → Option β) : Option β := bd1 (YaB.t k a0 aQ aR aT aV aX bL bM bN bO bP bQ bR bT bU bV bW bX) K
noncomputable def YaB.e (k : Nat) : Zj := ent [.own false 87 [.o],.agg [.n,.s,.n,.n,.n,.b,.l,.n,.s,.n,.l,.l,.n,.s,.n,.l,.l]] [1] [.o] [87] false (YaB.t k) true true
noncomputable def YaB.p (k : Nat) : Pro := ⟨Try.prog,[(239,Yc.e k),(204,Yag.e k),(240,YB.e k)],Zv [] false [] true,k⟩
theorem YaB.ok (k : Nat) : Zf Try.prog 196 (YaB.e k) := Zk (YaB.p k) mix tyok Try.func196 ⟨Yc.ok k,Yag.ok k,YB.ok k⟩ (by kernel_rfl) (fun a0 aQ aR aT aV aX bL bM bN bO bP bQ bR bT bU bV bW bX => by show _ = _; kernel_rfl)
noncomputable def Yav.g {β : Type} (k : Nat) (aB : Int) (aA : BA) (aC aD aK : Int) (bY : Bool) (bA : LD) (bH : Int) (bB : BA) (bI : Int) (bC bD : LD) (bJ : Int) (bE : BA) (bK : Int) (bF bG : LD) (f0_0 : Int) (f1_0 : BA) (K : Bool → Option β) : Option β :=
 bif ((aB : Int) == f0_0) then (K (Zae aA f1_0)) else (K false)
noncomputable def Yav.t (k : Nat) (aB : Int) (aA : BA) (aC aD aK : Int) (bY : Bool) (bA : LD) (bH : Int) (bB : BA) (bI : Int) (bC bD : LD) (bJ : Int) (bE : BA) (bK : Int) (bF bG : LD) (f0_0 : Int) (f1_0 : BA) : Option (Bool) := Yav.g k aB aA aC aD aK bY bA bH bB bI bC bD bJ bE bK bF bG f0_0 f1_0 (fun z0 => some z0)
noncomputable def Yav.f {β : Type} (k : Nat) (aB : Int) (aA : BA) (aC aD aK : Int) (bY : Bool) (bA : LD) (bH : Int) (bB : BA) (bI : Int) (bC bD : LD) (bJ : Int) (bE : BA) (bK : Int) (bF bG : LD) (f0_0 : Int) (f1_0 : BA) (K : Bool → Option β) : Option β := bd1 (Yav.t k aB aA aC aD aK bY bA bH bB bI bC bD bJ bE bK bF bG f0_0 f1_0) K
noncomputable def Yav.e (k : Nat) : Zj := ent [.agg [.n,.s,.n,.n,.n,.b,.l,.n,.s,.n,.l,.l,.n,.s,.n,.l,.l],.ip [.n],.ip [.s]] [1] [.b] [4] false (Yav.t k)
noncomputable def Yav.p (k : Nat) : Pro := ⟨Try.prog,[],Zv [] false [],k⟩
theorem Yav.ok (k : Nat) : Zf Try.prog 242 (Yav.e k) := Zk (Yav.p k) mix tyok Try.func242 trivial (by kernel_rfl) (fun aB aA aC aD aK bY bA bH bB bI bC bD bJ bE bK bF bG f0_0 f1_0 => by show _ = _; kernel_rfl)
noncomputable def Ye.l0 {β : Type} (k : Nat) (aF : LD) (aH : Int) (aI : BA) (aJ : Int) (K L0 : Int → Option β) (v : Int) : Option β :=
 match v with
 | aL => bif (decide ((aL : Int) < aJ)) then (atR aF aL [.n,.s,.n,.n,.n,.b,.l,.n,.s,.n,.l,.l,.n,.s,.n,.l,.l] fun x57 x60 x63 x66 x69 x72 x75 x78 x81 x84 x87 x90 x93 x96 x99 x102 x105 => (Yav.f k x57 x60 x63 x66 x69 x72 x75 x78 x81 x84 x87 x90 x93 x96 x99 x102 x105 aH aI (fun y106 => bif y106 then (K aL) else (L0 (IntKind.wrap .i64 (aL + 1)))))) else (K (-1))
noncomputable def Ye.m {β : Type} (k : Nat) (a0 : LD) (a1_0_0 : Int) (a1_1_0 : BA) (K : Int → Option β) (F : (LD → Int → BA → Int → Int → Option β)) : Option β :=
 F a0 a1_0_0 a1_1_0 (a0.length : Int) (0)
noncomputable def Ye.g {β : Type} (k : Nat) (a0 : LD) (a1_0_0 : Int) (a1_1_0 : BA) (K : Int → Option β) : Option β :=
 ZA (Ye.l0 k a0 a1_0_0 a1_1_0 (a0.length : Int) K) k (0)
noncomputable def Ye.t (k : Nat) (a0 : LD) (a1_0_0 : Int) (a1_1_0 : BA) : Option (Int) := Ye.g k a0 a1_0_0 a1_1_0 (fun z0 => some z0)
noncomputable def Ye.f {β : Type} (k : Nat) (a0 : LD) (a1_0_0 : Int) (a1_1_0 : BA) (K : Int → Option β) : Option β := bd1 (Ye.t k a0 a1_0_0 a1_1_0) K
noncomputable def Ye.e (k : Nat) : Zj := ent [.d .l,.fn 242 [[.n],[.s]]] [1] [.n] [3] false (Ye.t k)
noncomputable def Ye.p (k : Nat) : Pro := ⟨Try.prog,[(242,Yav.e k)],Zv [(2,kp [0,1,7,8])] false [],k⟩
noncomputable def Ye.d (k : Nat) (a0 : LD) (a1_0_0 : Int) (a1_1_0 : BA) : Ex → St → Option (Int) := (Ye.p k).fin Try.f241 [.d (.sl a0),.d (.fn 242 [[.int .i64 a1_0_0],[.str a1_1_0]])] [1] [.n]
noncomputable def Ye.s0 (aF : LD) (aH : Int) (aI : BA) (aJ v : Int) : St :=
 match v with
 | aL => ZaA 19 [(0,.d false (.sl aF)),(1,.d false (.fn 242 [[.int .i64 aH],[.str aI]])),(7,.d true (.int .i64 aJ)),(8,.d true (.int .i64 aL))] []
noncomputable def Ye.r0 (k : Nat) (a0 : LD) (a1_0_0 : Int) (a1_1_0 : BA) (aF : LD) (aH : Int) (aI : BA) (aJ : Int) (n : Nat) (v : Int) : Option (Int) := (Ye.p k).lp (ZI Try.f241) 2 [1,0,1,0] (Ye.d k a0 a1_0_0 a1_1_0) n (Ye.s0 aF aH aI aJ v)
theorem Ye.l0_eq (k : Nat) (a0 : LD) (a1_0_0 : Int) (a1_1_0 : BA) (aF : LD) (aH : Int) (aI : BA) (aJ : Int) : ∀ n v,Ye.r0 k a0 a1_0_0 a1_1_0 aF aH aI aJ n v = ZA (Ye.l0 k aF aH aI aJ (fun z0 => some z0)) n v :=
 Zz (Ye.s0 aF aH aI aJ) _ fun L0 v => by kernel_rfl
theorem Ye.ok (k : Nat) : Zf Try.prog 241 (Ye.e k) := Zk (Ye.p k) mix tyok Try.func241 (Yav.ok k) (by kernel_rfl) (fun a0 a1_0_0 a1_1_0 => Eq.trans (b := Ye.m k a0 a1_0_0 a1_1_0 (fun z0 => some z0) (fun aF aH aI aJ => Ye.r0 k a0 a1_0_0 a1_1_0 aF aH aI aJ k)) (by kernel_rfl) (congrArg (Ye.m k a0 a1_0_0 a1_1_0 (fun z0 => some z0)) (funext fun aF => funext fun aH => funext fun aI => funext fun aJ => funext fun v => Ye.l0_eq k a0 a1_0_0 a1_1_0 aF aH aI aJ k v) :))
noncomputable def YaH.g {β : Type} (k : Nat) (a0 : LD) (a1 : Int) (a2 : BA) (K : Int → Option β) : Option β :=
 Ye.f k a0 a1 a2 (fun y107 => K y107)
noncomputable def YaH.t (k : Nat) (a0 : LD) (a1 : Int) (a2 : BA) : Option (Int) := YaH.g k a0 a1 a2 (fun z0 => some z0)
noncomputable def YaH.f {β : Type} (k : Nat) (a0 : LD) (a1 : Int) (a2 : BA) (K : Int → Option β) : Option β := bd1 (YaH.t k a0 a1 a2) K
noncomputable def YaH.e (k : Nat) : Zj := ent [.d .l,.d .n,.d .s] [1] [.n] [3] false (YaH.t k)
noncomputable def YaH.p (k : Nat) : Pro := ⟨Try.prog,[(241,Ye.e k)],Zv [] false [],k⟩
theorem YaH.ok (k : Nat) : Zf Try.prog 197 (YaH.e k) := Zk (YaH.p k) mix tyok Try.func197 (Ye.ok k) (by kernel_rfl) (fun a0 a1 a2 => by show _ = _; kernel_rfl)
noncomputable def YH.t (k : Nat) (xs : LC) (i j : Int) : Option LC := Zd (0 ≤ i ∧ i ≤ j ∧ j ≤ (xs.length : Int)) (some (xs.take i.toNat ++ xs.drop j.toNat))
noncomputable def YH.f {β : Type} (k : Nat) (xs : LC) (i j : Int) (K : LC → Option β) : Option β :=
 match YH.t k xs i j with
 | some z0 => K z0
 | none => none
noncomputable def YH.run (k : Nat) : {β : Type} → List A → (LC → Option β) → Option β := fun {β} l K =>
 match l with
 | [.own false [.own xs],.d (.int .i64 i),.d (.int .i64 j)] => YH.f k xs i j K
 | _ => none
noncomputable def YH.e (k : Nat) : Zj := { modes := [(.own,0)],rts := [87],al := false,run := fun _ _ => none,lib := some ⟨[true,false,false],87,YH.run k⟩ }
set_option maxHeartbeats 4000000 in
set_option maxRecDepth 1000000 in
theorem YH.raw0 (a : Option Addr) (n cap i : Nat) (w : World) (hi : i ≤ n) (hn : n ≤ cap) : Calls Try.prog 198 #[.slice a n cap,.int .i64 i,.int .i64 i] w fun ex w' => ex = .returned (.slice a n cap) ∧ w' = w := by
 go_enter Try.func198,Try.ntmps198
 go_wp2
 all_goals (go_ret; exact ⟨rfl,rfl⟩)
set_option maxHeartbeats 4000000 in
set_option maxRecDepth 1000000 in
theorem YH.raw2 (b cap n i j : Nat) (c : Array Value) (e : TypeId) (w : World) (hb : w.heap[b]? = some (.cells c e (0,0))) (hc : c.size = cap * 17) (hn : n ≤ cap) (hij : i < j) (hj : j ≤ n) (h1 : ∀ t,t < n * 17 → ∃ v,c[t]? = some v ∧ v.oneCell' = true) (i0 : TypeInfo) (z : Value) (hi : Try.prog.info? 165 = some i0) (hz : i0.zero = some z) (hs : i0.size = 17) (hzs : z.cells.size = 17) (hz1 : ∀ v ∈ z.cells.toList,v.oneCell' = true) :
  Calls Try.prog 198 #[.slice (some ⟨b,0,none⟩) n cap,.int .i64 i,.int .i64 j] w fun ex w' => ex = .returned (.slice (some ⟨b,0,none⟩) (n - (j - i)) cap) ∧ Only b w w' ∧ ∃ c',w'.heap[b]? = some (.cells c' e (0,0)) ∧ c'.size = c.size ∧ (∀ t,t < i * 17 → c'[t]? = c[t]?) ∧ ∀ t,t < (n - j) * 17 → c'[i * 17 + t]? = c[j * 17 + t]? := by
 have mixed : Try.prog.follows .mixedOrders = true := by kernel_rfl
 have hb0 : w.drew.heap[b]? = some (.cells c e (0,0)) := hb
 obtain ⟨A,news,hA,hlen,hsrc,hone,hget⟩ := tail_src hb0 hc hn hj h1
 obtain ⟨hb1,ho1⟩ := Zaa news (i * 17) hb0
 obtain ⟨W1,hW1⟩ : ∃ W1,W1 = w.drew.setCells b (0 + i * 17) news := ⟨_,rfl⟩
 rw [Nat.zero_add] at hW1
 rw [← hW1] at hb1 ho1
 have hle : i * 17 + news.length ≤ c.size := by rw [hlen,hc]; omega
 have hcl : ∀ ty,(Builtin.clear_ #[87] ty #[.slice (some ⟨b,(i + (n - j)) * 17,none⟩) (n - (i + (n - j))) (cap - (i + (n - j)))]).run Try.prog W1 = .ok (.tuple #[]) (W1.setCells b ((i + (n - j)) * 17) (Builtin.zeroCells z.cells (n - (i + (n - j)))).toList) :=
  fun ty => run_clear_cells Try.underlying87 hi hz hz1 (by omega) (fun t ht => by rw [Zat hb1]; rw [hzs] at ht; rw [Array.getElem?_eq_getElem (by rw [Zab,hc]; omega)]; rfl) (fun t ht => Zax hb1 _)
 have hW : Hold (W1 = w.drew.setCells b (i * 17) news) := ⟨hW1⟩
 obtain ⟨hb2,ho2⟩ := Zaa (Builtin.zeroCells z.cells (n - (i + (n - j)))).toList ((i + (n - j)) * 17) hb1
 have hfin : Hold (Only b w (W1.setCells b ((i + (n - j)) * 17) (Builtin.zeroCells z.cells (n - (i + (n - j)))).toList) ∧ ∃ c',(W1.setCells b ((i + (n - j)) * 17) (Builtin.zeroCells z.cells (n - (i + (n - j)))).toList).heap[b]? = some (.cells c' e (0,0)) ∧ c'.size = c.size ∧ (∀ t,t < i * 17 → c'[t]? = c[t]?) ∧ ∀ t,t < (n - j) * 17 → c'[i * 17 + t]? = c[j * 17 + t]?) := by
  have hzl : (Builtin.zeroCells z.cells (n - (i + (n - j)))).toList.length = (n - (i + (n - j))) * 17 := by simp [Zaj,hzs]
  refine ⟨((Only.drew b w).trans ho1).trans ho2,_,hb2,by rw [Zab,Zab],fun t ht => ?_,fun t ht => ?_⟩
  ·rw [Z6 _ _ _ _ (by rw [hzl,Zab,hc]; omega),if_neg (by omega),Z6 _ _ _ _ hle,if_neg (by omega)]
  ·rw [Z6 _ _ _ _ (by rw [hzl,Zab,hc]; omega),if_neg (by omega),Z6 _ _ _ _ hle,if_pos (by omega),Nat.add_sub_cancel_left,hget t ht]
 have hsp : ∀ t,t < news.length → (w.drew.cell? ⟨b,0 + i * 17 + t,none⟩).isSome = true ∧ w.drew.frozen? ⟨b,0 + i * 17 + t,none⟩ = false := fun t ht => ⟨by rw [Zat hb0,Array.getElem?_eq_getElem (by omega)]; rfl,Zax hb0 _⟩
 generalize (Builtin.zeroCells z.cells (n - (i + (n - j)))).toList = zl at hcl hfin
 clear hb hb0 ho1 hb1 hb2 ho2 hget hW1 h1 hle hc hz1 hzs hz
 have hic : i ≤ cap := by omega
 have hjc : j ≤ cap := by omega
 go_enter Try.func198,Try.ntmps198
 go_wp2_with fail
 go_region_law_o (refine step_append_room rfl (.tmp 22) (.tmp 25) 87 rfl 165 i0 17 Try.underlying87 hi hs b 0 i cap (by simp [Act.eval,Act.put]) A (n - j) (cap - j) news (by simp [Act.eval,Act.put]) hlen hsrc hone (by omega) hsp ?_; rw [Nat.zero_add,← hW.out])
 go_wp2
 go_ret
 refine ⟨?_,hfin.out⟩
 rw [show i + (n - j) = n - (j - i) from by omega]
 rfl
theorem YH.raw : DelRaw Try.prog 198 17 := ⟨fun a n cap i w h1 h2 => YH.raw0 a n cap i w h1 h2,fun b cap n i j c e w hb hc hn hij hj h1 => by
 obtain ⟨i0,z,hi,hz,hzs⟩ := Zbr (P := Try.prog) (t := 165) (by kernel_rfl)
 have hsz : i0.size = 17 := by
  have : Try.prog.cellsOf 165 = 17 := by kernel_rfl
  simpa [Program.cellsOf,hi] using this
 have hzc : z.cells.size = 17 := by
  have h1 : (ZaM Try.prog 165).length = 17 := by kernel_rfl
  rw [← h1]
  simpa using (Zaq hzs).2.2.1.symm
 exact YH.raw2 b cap n i j c e w hb hc hn hij hj h1 i0 z hi hz hsz hzc (Zaq hzs).2.1⟩
theorem YH.ok (k : Nat) : Zf Try.prog 198 (YH.e k) := delete_ok tyok (ct := 87) (K := 17) (run := fun {β} => YH.run k) (by kernel_rfl) (enter_of Try.func198 (by kernel_rfl)) YH.raw (fun β aa K r h => by
 unfold YH.run at h
 split at h
 ·unfold YH.f YH.t at h
  split at h
  ·rename_i hz
   obtain ⟨hg,hz⟩ := Zp hz
   injection hz with hz
   subst hz
   exact ⟨_,_,_,rfl,hg,h⟩
  ·cases h
 ·cases h)
noncomputable def YW.g {β : Type} (k : Nat) (aB : Int) (aA : LC) (aQ : Int) (aR : Bool) (aT : Int) (aV : BA) (aX bL bM : Int) (bN : Bool) (bO : LD) (bP : Int) (bQ : BA) (bR : Int) (bT bU : LD) (bV : Int) (bW : BA) (bX : Int) (a1_17 a1_18 : LD) (K : Bool → Int → LC → Option β) : Option β :=
 bif ((aQ : Int) != (IntKind.wrap .i64 (aB + 1))) then (K false aB aA) else (bif (!aR) then (YaB.f k aA aT aV aX bL bM bN bO bP bQ bR bT bU bV bW bX a1_17 a1_18 (fun y250 => K true (IntKind.wrap .i64 (aB + 1)) y250)) else (YaH.f k (C.immRows aA) aT aV (fun y251 => bif (decide ((y251 : Int) < 0)) then (K false (IntKind.wrap .i64 (aB + 1)) aA) else (Zd ((0 : Int) ≤ y251 ∧ y251 < (aA.length : Int)) (ZaR aA (Int.toNat y251) fun c252 => ZaJ (c252.drop 2) fun c253 r => cD c253 fun d => dInt .i64 d fun x256 => bif ((x256 : Int) != aX) then (K false (IntKind.wrap .i64 (aB + 1)) aA) else (YH.f k aA y251 (IntKind.wrap .i64 (y251 + 1)) (fun y257 => K true (IntKind.wrap .i64 (aB + 1)) y257)))))))
noncomputable def YW.t (k : Nat) (aB : Int) (aA : LC) (aQ : Int) (aR : Bool) (aT : Int) (aV : BA) (aX bL bM : Int) (bN : Bool) (bO : LD) (bP : Int) (bQ : BA) (bR : Int) (bT bU : LD) (bV : Int) (bW : BA) (bX : Int) (a1_17 a1_18 : LD) : Option (Bool × Int × LC) := YW.g k aB aA aQ aR aT aV aX bL bM bN bO bP bQ bR bT bU bV bW bX a1_17 a1_18 (fun z0 z1 z2 => some (z0,z1,z2))
noncomputable def YW.f {β : Type} (k : Nat) (aB : Int) (aA : LC) (aQ : Int) (aR : Bool) (aT : Int) (aV : BA) (aX bL bM : Int) (bN : Bool) (bO : LD) (bP : Int) (bQ : BA) (bR : Int) (bT bU : LD) (bV : Int) (bW : BA) (bX : Int) (a1_17 a1_18 : LD) (K : Bool → Int → LC → Option β) : Option β := bd3 (YW.t k aB aA aQ aR aT aV aX bL bM bN bO bP bQ bR bT bU bV bW bX a1_17 a1_18) K
noncomputable def YW.e (k : Nat) : Zj := ent [.box 89 [.n,.o],.agg [.n,.b,.n,.s,.n,.n,.n,.b,.l,.n,.s,.n,.l,.l,.n,.s,.n,.l,.l]] [1] [.b,.n,.o] [4] false (YW.t k) false true
noncomputable def YW.p (k : Nat) : Pro := ⟨Try.prog,[(196,YaB.e k),(197,YaH.e k),(198,YH.e k)],Zv [] false [] true,k⟩
theorem YW.ok (k : Nat) : Zf Try.prog 134 (YW.e k) := Zk (YW.p k) mix tyok Try.func134 ⟨YaB.ok k,YaH.ok k,YH.ok k⟩ (by kernel_rfl) (fun aB aA aQ aR aT aV aX bL bM bN bO bP bQ bR bT bU bV bW bX a1_17 a1_18 => by show _ = _; kernel_rfl)
noncomputable def YO.l0 {β : Type} (k : Nat) (aF : LD) (aH aJ : Int) (aL : LD) (aM : Int) (K : Int → LC → Bool → Option β) (L0 : (Int × Int × LC) → Option β) (v : Int × Int × LC) : Option β :=
 match v with
 | (aI,aN,aO) => bif (decide ((aI : Int) < aH)) then (atR aF aI [.n,.b,.n,.s,.n,.n,.n,.b,.l,.n,.s,.n,.l,.l,.n,.s,.n,.l,.l] fun x269 x272 x275 x278 x281 x284 x287 x290 x293 x296 x299 x302 x305 x308 x311 x314 x317 x320 x323 => (YW.f k aN aO x269 x272 x275 x278 x281 x284 x287 x290 x293 x296 x299 x302 x305 x308 x311 x314 x317 x320 x323 (fun y324 y325 y326 => bif (!y324) then (Y1.f k aJ aL (fun y327 y328 => K y327 y328 false)) else (Yad.f k y325 (C.immRows y326) (fun y329 => bif (!y329) then (Y1.f k aJ aL (fun y330 y331 => K y330 y331 false)) else (L0 (IntKind.wrap .i64 (aI + 1),y325,y326))))))) else (K aN aO true)
noncomputable def YO.m {β : Type} (k : Nat) (aB : Int) (aA a1 : LD) (K : Int → LC → Bool → Option β) (F : (LD → Int → Int → LD → Int → (Int × Int × LC) → Option β)) : Option β :=
 Yad.f k aB aA (fun y3 => bif (!y3) then (Y1.f k aB aA (fun y4 y5 => K y4 y5 false)) else (Y1.f k aB aA (fun y6 y7 => F a1 (a1.length : Int) aB aA 0 (0,y6,y7))))
noncomputable def YO.g {β : Type} (k : Nat) (aB : Int) (aA a1 : LD) (K : Int → LC → Bool → Option β) : Option β :=
 Yad.f k aB aA (fun y3 => bif (!y3) then (Y1.f k aB aA (fun y4 y5 => K y4 y5 false)) else (Y1.f k aB aA (fun y6 y7 => ZA (YO.l0 k a1 (a1.length : Int) aB aA 0 K) k (0,y6,y7))))
noncomputable def YO.t (k : Nat) (aB : Int) (aA a1 : LD) : Option (Int × LC × Bool) := YO.g k aB aA a1 (fun z0 z1 z2 => some (z0,z1,z2))
noncomputable def YO.f {β : Type} (k : Nat) (aB : Int) (aA a1 : LD) (K : Int → LC → Bool → Option β) : Option β := bd3 (YO.t k aB aA a1) K
noncomputable def YO.e (k : Nat) : Zj := ent [.agg [.n,.l],.d .l] [2,1] [.n,.o,.b] [89,4] false (YO.t k)
noncomputable def YO.p (k : Nat) : Pro := ⟨Try.prog,[(56,Yad.e k),(133,Y1.e k),(134,YW.e k)],Zv [(5,kp [2,4,6,16,17,18])] false [],k⟩
noncomputable def YO.d (k : Nat) (aB : Int) (aA a1 : LD) : Ex → St → Option (Int × LC × Bool) := (YO.p k).fin Try.f49 [.agg [.int .i64 aB,.sl aA],.d (.sl a1)] [2,1] [.n,.o,.b]
noncomputable def YO.s0 (aF : LD) (aH aJ : Int) (aL : LD) (aM : Int) (v : Int × Int × LC) : St :=
 match v with
 | (aI,aN,aO) => ZaA 34 [(2,.bp 0 0),(4,.bp 1 0),(6,.bp 2 0),(16,.d false (.sl aF)),(17,.d true (.int .i64 aH)),(18,.d true (.int .i64 aI))] [.box none 89 [.d false (.int .i64 aJ),.d false (.sl aL)],.box none 89 [.d true (.int .i64 aM),.nil],.box none 89 [.d true (.int .i64 aN),.row 3],.row none true 87 aO]
noncomputable def YO.r0 (k : Nat) (aB : Int) (aA a1 aF : LD) (aH aJ : Int) (aL : LD) (aM : Int) (n : Nat) (v : Int × Int × LC) : Option (Int × LC × Bool) := (YO.p k).lp (ZI Try.f49) 5 [1,1,1,0,1,0] (YO.d k aB aA a1) n (YO.s0 aF aH aJ aL aM v)
theorem YO.l0_eq (k : Nat) (aB : Int) (aA a1 aF : LD) (aH aJ : Int) (aL : LD) (aM : Int) : ∀ n v,YO.r0 k aB aA a1 aF aH aJ aL aM n v = ZA (YO.l0 k aF aH aJ aL aM (fun z0 z1 z2 => some (z0,z1,z2))) n v :=
 Zz (YO.s0 aF aH aJ aL aM) _ fun L0 v => by obtain ⟨aI,aN,aO⟩ := v; kernel_rfl
theorem YO.ok (k : Nat) : Zf Try.prog 49 (YO.e k) := Zk (YO.p k) mix tyok Try.func49 ⟨Yad.ok k,Y1.ok k,YW.ok k⟩ (by kernel_rfl) (fun aB aA a1 => Eq.trans (b := YO.m k aB aA a1 (fun z0 z1 z2 => some (z0,z1,z2)) (fun aF aH aJ aL aM => YO.r0 k aB aA a1 aF aH aJ aL aM k)) (by kernel_rfl) (congrArg (YO.m k aB aA a1 (fun z0 z1 z2 => some (z0,z1,z2))) (funext fun aF => funext fun aH => funext fun aJ => funext fun aL => funext fun aM => funext fun v => YO.l0_eq k aB aA a1 aF aH aJ aL aM k v) :))
noncomputable def Yar.g {β : Type} (k : Nat) (aB : Int) (aA aQ : LD) (aR aT : Int) (aV : LD) (K : Int → LC → Bool → Option β) : Option β :=
 Yau.f k aQ aR aT aV aB (fun y457 y458 => bif (!y458) then (Yaz.f k aQ aR aT aV (fun y459 y460 => K y459 y460 false)) else (YO.f k aB aA (C.immRows y457) (fun y461 y462 y463 => bif (!y463) then (Yaz.f k aQ aR aT aV (fun y464 y465 => K y464 y465 false)) else (K y461 y462 true))))
noncomputable def Yar.t (k : Nat) (aB : Int) (aA aQ : LD) (aR aT : Int) (aV : LD) : Option (Int × LC × Bool) := Yar.g k aB aA aQ aR aT aV (fun z0 z1 z2 => some (z0,z1,z2))
noncomputable def Yar.f {β : Type} (k : Nat) (aB : Int) (aA aQ : LD) (aR aT : Int) (aV : LD) (K : Int → LC → Bool → Option β) : Option β := bd3 (Yar.t k aB aA aQ aR aT aV) K
noncomputable def Yar.e (k : Nat) : Zj := ent [.agg [.n,.l],.agg [.l,.n,.n,.l]] [2,1] [.n,.o,.b] [89,4] false (Yar.t k)
noncomputable def Yar.p (k : Nat) : Pro := ⟨Try.prog,[(57,Yau.e k),(54,Yaz.e k),(49,YO.e k)],Zv [] false [],k⟩
theorem Yar.ok (k : Nat) : Zf Try.prog 53 (Yar.e k) := Zk (Yar.p k) mix tyok Try.func53 ⟨Yau.ok k,Yaz.ok k,YO.ok k⟩ (by kernel_rfl) (fun aB aA aQ aR aT aV => by show _ = _; kernel_rfl)
set_option maxRecDepth 100000 in
noncomputable def YD.l0 {β : Type} (k : Nat) (aF aH : LD) (K : Bool → Option β) (L0 : Int → Option β) (v : Int) : Option β :=
 match v with
 | aI => bif (decide ((aI : Int) < (aF.length : Int))) then (atR aF aI [.n,.s,.n,.n,.n,.b,.l,.n,.s,.n,.l,.l,.n,.s,.n,.l,.l] fun x942 x945 x948 x951 x954 x957 x960 x963 x966 x969 x972 x975 x978 x981 x984 x987 x990 => (atR aH aI [.n,.s,.n,.n,.n,.b,.l,.n,.s,.n,.l,.l,.n,.s,.n,.l,.l] fun x994 x997 x1000 x1003 x1006 x1009 x1012 x1015 x1018 x1021 x1024 x1027 x1030 x1033 x1036 x1039 x1042 => (bif ((x942 : Int) != x994) then (K false) else (atR aF aI [.n,.s,.n,.n,.n,.b,.l,.n,.s,.n,.l,.l,.n,.s,.n,.l,.l] fun x1046 x1049 x1052 x1055 x1058 x1061 x1064 x1067 x1070 x1073 x1076 x1079 x1082 x1085 x1088 x1091 x1094 => (atR aH aI [.n,.s,.n,.n,.n,.b,.l,.n,.s,.n,.l,.l,.n,.s,.n,.l,.l] fun x1098 x1101 x1104 x1107 x1110 x1113 x1116 x1119 x1122 x1125 x1128 x1131 x1134 x1137 x1140 x1143 x1146 => (bif (!(Zae x1049 x1101)) then (K false) else (atR aF aI [.n,.s,.n,.n,.n,.b,.l,.n,.s,.n,.l,.l,.n,.s,.n,.l,.l] fun x1150 x1153 x1156 x1159 x1162 x1165 x1168 x1171 x1174 x1177 x1180 x1183 x1186 x1189 x1192 x1195 x1198 => (atR aH aI [.n,.s,.n,.n,.n,.b,.l,.n,.s,.n,.l,.l,.n,.s,.n,.l,.l] fun x1202 x1205 x1208 x1211 x1214 x1217 x1220 x1223 x1226 x1229 x1232 x1235 x1238 x1241 x1244 x1247 x1250 => (bif ((x1156 : Int) != x1208) then (K false) else (atR aF aI [.n,.s,.n,.n,.n,.b,.l,.n,.s,.n,.l,.l,.n,.s,.n,.l,.l] fun x1254 x1257 x1260 x1263 x1266 x1269 x1272 x1275 x1278 x1281 x1284 x1287 x1290 x1293 x1296 x1299 x1302 => (atR aH aI [.n,.s,.n,.n,.n,.b,.l,.n,.s,.n,.l,.l,.n,.s,.n,.l,.l] fun x1306 x1309 x1312 x1315 x1318 x1321 x1324 x1327 x1330 x1333 x1336 x1339 x1342 x1345 x1348 x1351 x1354 => (bif ((x1263 : Int) != x1315) then (K false) else (atR aF aI [.n,.s,.n,.n,.n,.b,.l,.n,.s,.n,.l,.l,.n,.s,.n,.l,.l] fun x1358 x1361 x1364 x1367 x1370 x1373 x1376 x1379 x1382 x1385 x1388 x1391 x1394 x1397 x1400 x1403 x1406 => (atR aH aI [.n,.s,.n,.n,.n,.b,.l,.n,.s,.n,.l,.l,.n,.s,.n,.l,.l] fun x1410 x1413 x1416 x1419 x1422 x1425 x1428 x1431 x1434 x1437 x1440 x1443 x1446 x1449 x1452 x1455 x1458 => (bif ((x1370 : Int) != x1422) then (K false) else (atR aF aI [.n,.s,.n,.n,.n,.b,.l,.n,.s,.n,.l,.l,.n,.s,.n,.l,.l] fun x1462 x1465 x1468 x1471 x1474 x1477 x1480 x1483 x1486 x1489 x1492 x1495 x1498 x1501 x1504 x1507 x1510 => (atR aH aI [.n,.s,.n,.n,.n,.b,.l,.n,.s,.n,.l,.l,.n,.s,.n,.l,.l] fun x1514 x1517 x1520 x1523 x1526 x1529 x1532 x1535 x1538 x1541 x1544 x1547 x1550 x1553 x1556 x1559 x1562 => (bif (!(x1477 == x1529)) then (K false) else (atR aF aI [.n,.s,.n,.n,.n,.b,.l,.n,.s,.n,.l,.l,.n,.s,.n,.l,.l] fun x1566 x1569 x1572 x1575 x1578 x1581 x1584 x1587 x1590 x1593 x1596 x1599 x1602 x1605 x1608 x1611 x1614 => (atR aH aI [.n,.s,.n,.n,.n,.b,.l,.n,.s,.n,.l,.l,.n,.s,.n,.l,.l] fun x1618 x1621 x1624 x1627 x1630 x1633 x1636 x1639 x1642 x1645 x1648 x1651 x1654 x1657 x1660 x1663 x1666 => (bif (((x1584.length : Int) : Int) != (x1636.length : Int)) then (K false) else (atR aF aI [.n,.s,.n,.n,.n,.b,.l,.n,.s,.n,.l,.l,.n,.s,.n,.l,.l] fun x1670 x1673 x1676 x1679 x1682 x1685 x1688 x1691 x1694 x1697 x1700 x1703 x1706 x1709 x1712 x1715 x1718 => (atR aH aI [.n,.s,.n,.n,.n,.b,.l,.n,.s,.n,.l,.l,.n,.s,.n,.l,.l] fun x1722 x1725 x1728 x1731 x1734 x1737 x1740 x1743 x1746 x1749 x1752 x1755 x1758 x1761 x1764 x1767 x1770 => (Yf.f k x1691 x1694 x1697 x1700 x1703 x1743 x1746 x1749 x1752 x1755 (fun y1771 => bif (!y1771) then (K false) else (atR aF aI [.n,.s,.n,.n,.n,.b,.l,.n,.s,.n,.l,.l,.n,.s,.n,.l,.l] fun x1775 x1778 x1781 x1784 x1787 x1790 x1793 x1796 x1799 x1802 x1805 x1808 x1811 x1814 x1817 x1820 x1823 => (atR aH aI [.n,.s,.n,.n,.n,.b,.l,.n,.s,.n,.l,.l,.n,.s,.n,.l,.l] fun x1827 x1830 x1833 x1836 x1839 x1842 x1845 x1848 x1851 x1854 x1857 x1860 x1863 x1866 x1869 x1872 x1875 => (Yf.f k x1811 x1814 x1817 x1820 x1823 x1863 x1866 x1869 x1872 x1875 (fun y1876 => bif (!y1876) then (K false) else (L0 (IntKind.wrap .i64 (aI + 1)))))))))))))))))))))))))))))))) else (K true)
noncomputable def YD.m {β : Type} (k : Nat) (a0 a1 : LD) (K : Bool → Option β) (F : (LD → LD → Int → Option β)) : Option β :=
 bif (((a0.length : Int) : Int) != (a1.length : Int)) then (K false) else (F a0 a1 (0))
noncomputable def YD.g {β : Type} (k : Nat) (a0 a1 : LD) (K : Bool → Option β) : Option β :=
 bif (((a0.length : Int) : Int) != (a1.length : Int)) then (K false) else (ZA (YD.l0 k a0 a1 K) k (0))
noncomputable def YD.t (k : Nat) (a0 a1 : LD) : Option (Bool) := YD.g k a0 a1 (fun z0 => some z0)
noncomputable def YD.f {β : Type} (k : Nat) (a0 a1 : LD) (K : Bool → Option β) : Option β := bd1 (YD.t k a0 a1) K
noncomputable def YD.e (k : Nat) : Zj := ent [.d .l,.d .l] [1] [.b] [4] false (YD.t k)
noncomputable def YD.p (k : Nat) : Pro := ⟨Try.prog,[(125,Yf.e k)],Zv [(4,kp [0,1,5])] false [],k⟩
noncomputable def YD.d (k : Nat) (a0 a1 : LD) : Ex → St → Option (Bool) := (YD.p k).fin Try.f55 [.d (.sl a0),.d (.sl a1)] [1] [.b]
noncomputable def YD.s0 (aF aH : LD) (v : Int) : St :=
 match v with
 | aI => ZaA 136 [(0,.d false (.sl aF)),(1,.d false (.sl aH)),(5,.d true (.int .i64 aI))] []
noncomputable def YD.r0 (k : Nat) (a0 a1 aF aH : LD) (n : Nat) (v : Int) : Option (Bool) := (YD.p k).lp (ZI Try.f55) 4 [1,1,0,1,0] (YD.d k a0 a1) n (YD.s0 aF aH v)
theorem YD.l0_eq (k : Nat) (a0 a1 aF aH : LD) : ∀ n v,YD.r0 k a0 a1 aF aH n v = ZA (YD.l0 k aF aH (fun z0 => some z0)) n v :=
 Zz (YD.s0 aF aH) _ fun L0 v => by kernel_rfl
theorem YD.ok (k : Nat) : Zf Try.prog 55 (YD.e k) := Zk (YD.p k) mix tyok Try.func55 (Yf.ok k) (by kernel_rfl) (fun a0 a1 => Eq.trans (b := YD.m k a0 a1 (fun z0 => some z0) (fun aF aH => YD.r0 k a0 a1 aF aH k)) (by kernel_rfl) (congrArg (YD.m k a0 a1 (fun z0 => some z0)) (funext fun aF => funext fun aH => funext fun v => YD.l0_eq k a0 a1 aF aH k v) :))
noncomputable def YQ.l0 {β : Type} (k : Nat) (aF : LD) (aH : Bool) (aJ : LD) (aL aM : Int) (aN : LD) (K : Bool → Option β) (L0 : (Int × Int × LC) → Option β) (v : Int × Int × LC) : Option β :=
 match v with
 | (aI,aO,aP) => bif (decide ((aI : Int) < (aF.length : Int))) then (bif aH then (Zd (0 ≤ (aI : Int) ∧ (aI : Int) ≤ (IntKind.wrap .i64 (aI + 1) : Int) ∧ (IntKind.wrap .i64 (aI + 1) : Int) ≤ (aF.length : Int) ∧ Zbk 19 aF) (YO.f k aO (C.immRows aP) ((aF.drop (Int.toNat (aI : Int))).take (Int.toNat (IntKind.wrap .i64 (aI + 1) : Int) - Int.toNat (aI : Int))) (fun y23 y24 y25 => bif (!y25) then (K false) else (L0 (IntKind.wrap .i64 (aI + 1),y23,y24))))) else (bif (!aH) then (K true) else (bif ((aO : Int) == aL) then (YD.f k (C.immRows aP) aJ (fun y26 => K y26)) else (K false)))) else (bif (!aH) then (K true) else (bif ((aO : Int) == aL) then (YD.f k (C.immRows aP) aJ (fun y27 => K y27)) else (K false)))
noncomputable def YQ.m {β : Type} (k : Nat) (a0 : LD) (K : Bool → Option β) (F : (LD → Bool → LD → Int → Int → LD → (Int × Int × LC) → Option β)) : Option β :=
 YaO.f k a0 (fun y1 => bif y1 then (K true) else (Yaq.f k a0 (fun y2 y3 y4 y5 y6 y7 => Yar.f k y2 (C.immRows y3) y4 y5 y6 y7 (fun y8 y9 y10 => Yaz.f k y4 y5 y6 y7 (fun y11 y12 => bif ((y8 : Int) != y5) then (K false) else (YD.f k (C.immRows y9) y4 (fun y13 => bif (!y13) then (K false) else (bif ((y11 : Int) != y5) then (K false) else (YD.f k (C.immRows y12) y4 (fun y14 => bif (!y14) then (K false) else (Yad.f k y8 (C.immRows y9) (fun y15 => bif (!y15) then (K false) else (Yau.f k y4 y5 y6 y7 y2 (fun y16 y17 => bif (!(y17 == y10)) then (K false) else (F (C.immRows y16) y17 y4 y5 y6 y7 (0,y2,y3))))))))))))))))
noncomputable def YQ.g {β : Type} (k : Nat) (a0 : LD) (K : Bool → Option β) : Option β := YQ.m k a0 K (fun aF aH aJ aL aM aN => ZA (YQ.l0 k aF aH aJ aL aM aN K) k)
noncomputable def YQ.t (k : Nat) (a0 : LD) : Option (Bool) := YQ.g k a0 (fun z0 => some z0)
noncomputable def YQ.e (k : Nat) : Zj := ent [.d .l] [1] [.b] [4] false (YQ.t k)
noncomputable def YQ.p (k : Nat) : Pro := ⟨Try.prog,[(11,YaO.e k),(52,Yaq.e k),(53,Yar.e k),(54,Yaz.e k),(55,YD.e k),(56,Yad.e k),(57,Yau.e k),(49,YO.e k)],Zv [(13,kp [4,9,10,11] [(8,.dat true)] [(10,0,.dat false),(10,1,.row false 87)])] false [],k⟩
noncomputable def YQ.d (k : Nat) (a0 : LD) : Ex → St → Option (Bool) := (YQ.p k).fin Try.f10 [.d (.sl a0)] [1] [.b]
noncomputable def YQ.s0 (aF : LD) (aH : Bool) (aJ : LD) (aL aM : Int) (aN : LD) (v : Int × Int × LC) : St :=
 match v with
 | (aI,aO,aP) => ZaA 111 [(4,.bp 0 0),(8,.d true (.sl aF)),(9,.d true (.bool aH)),(10,.bp 1 0),(11,.d true (.int .i64 aI))] [.box none 97 [.d false (.sl aJ),.d false (.int .i64 aL),.d false (.int .i64 aM),.d false (.sl aN)],.box none 89 [.d false (.int .i64 aO),.row 2],.row none false 87 aP]
noncomputable def YQ.r0 (k : Nat) (a0 aF : LD) (aH : Bool) (aJ : LD) (aL aM : Int) (aN : LD) (n : Nat) (v : Int × Int × LC) : Option (Bool) := (YQ.p k).lp (ZI Try.f10) 13 [1,1,1,1,1,1,1,1,1,0,1,0] (YQ.d k a0) n (YQ.s0 aF aH aJ aL aM aN v)
theorem YQ.l0_eq (k : Nat) (a0 aF : LD) (aH : Bool) (aJ : LD) (aL aM : Int) (aN : LD) : ∀ n v,YQ.r0 k a0 aF aH aJ aL aM aN n v = ZA (YQ.l0 k aF aH aJ aL aM aN (fun z0 => some z0)) n v :=
 Zz (YQ.s0 aF aH aJ aL aM aN) _ fun L0 v => by obtain ⟨aI,aO,aP⟩ := v; kernel_rfl
theorem YQ.ok (k : Nat) : Zf Try.prog 10 (YQ.e k) := Zk (YQ.p k) mix tyok Try.func10 ⟨YaO.ok k,Yaq.ok k,Yar.ok k,Yaz.ok k,YD.ok k,Yad.ok k,Yau.ok k,YO.ok k⟩ (by kernel_rfl) (fun a0 => Eq.trans (b := YQ.m k a0 (fun z0 => some z0) (fun aF aH aJ aL aM aN => YQ.r0 k a0 aF aH aJ aL aM aN k)) (by kernel_rfl) (congrArg (YQ.m k a0 (fun z0 => some z0)) (funext fun aF => funext fun aH => funext fun aJ => funext fun aL => funext fun aM => funext fun aN => funext fun v => YQ.l0_eq k a0 aF aH aJ aL aM aN k v) :))
end Go.Proofs.Ytpgplbalenfgfaa
