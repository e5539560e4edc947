/- Printed: the functions that FnSkipped reaches,read by the evaluator,each with its contract. -/
import Derived.Test.YtpgplbalenfgfaaXFnSkipped0
import Derived.KernelRfl
set_option linter.unusedVariables false
set_option linter.unusedSimpArgs false
namespace Go.Proofs.Ytpgplbalenfgfaa
open Go Go.T Go.Proofs
noncomputable def Y9.g {β : Type} (k : Nat) (aB : Int) (aA : BA) (aC aD aI : Int) (bV : Bool) (bJ : LD) (bQ : Int) (bK : BA) (bR : Int) (bL bM : LD) (bT : Int) (bN : BA) (bU : Int) (bO bP : LD) (aP : Int) (aQ : BA) (aR aS aU : Int) (aX : Bool) (aY : LD) (aZ : Int) (bA : BA) (bB : Int) (bC bD : LD) (bE : Int) (bF : BA) (bG : Int) (bH bI : LD) (K : Int → Option β) : Option β :=
 Y5.f k aB aP (fun y3 => bif ((y3 : Int) != 0) then (K y3) else (Y2.f k aA aQ (fun y4 => K y4)))
noncomputable def Y9.t (k : Nat) (aB : Int) (aA : BA) (aC aD aI : Int) (bV : Bool) (bJ : LD) (bQ : Int) (bK : BA) (bR : Int) (bL bM : LD) (bT : Int) (bN : BA) (bU : Int) (bO bP : LD) (aP : Int) (aQ : BA) (aR aS aU : Int) (aX : Bool) (aY : LD) (aZ : Int) (bA : BA) (bB : Int) (bC bD : LD) (bE : Int) (bF : BA) (bG : Int) (bH bI : LD) : Option (Int) := Y9.g k aB aA aC aD aI bV bJ bQ bK bR bL bM bT bN bU bO bP aP aQ aR aS aU aX aY aZ bA bB bC bD bE bF bG bH bI (fun z0 => some z0)
noncomputable def Y9.f {β : Type} (k : Nat) (aB : Int) (aA : BA) (aC aD aI : Int) (bV : Bool) (bJ : LD) (bQ : Int) (bK : BA) (bR : Int) (bL bM : LD) (bT : Int) (bN : BA) (bU : Int) (bO bP : LD) (aP : Int) (aQ : BA) (aR aS aU : Int) (aX : Bool) (aY : LD) (aZ : Int) (bA : BA) (bB : Int) (bC bD : LD) (bE : Int) (bF : BA) (bG : Int) (bH bI : LD) (K : Int → Option β) : Option β := bd1 (Y9.t k aB aA aC aD aI bV bJ bQ bK bR bL bM bT bN bU bO bP aP aQ aR aS aU aX aY aZ bA bB bC bD bE bF bG bH bI) K
noncomputable def Y9.e (k : Nat) : Zj := ent [.agg [.n,.s,.n,.n,.n,.b,.l,.n,.s,.n,.l,.l,.n,.s,.n,.l,.l],.agg [.n,.s,.n,.n,.n,.b,.l,.n,.s,.n,.l,.l,.n,.s,.n,.l,.l]] [1] [.n] [3] false (Y9.t k)
noncomputable def Y9.p (k : Nat) : Pro := ⟨Try.prog,[(110,Y5.e k),(244,Y2.e k)],Zv [] false [],k⟩
theorem Y9.ok (k : Nat) : Zf Try.prog 205 (Y9.e k) := Zk (Y9.p k) mix tyok Try.func205 ⟨Y5.ok k,Y2.ok k⟩ (by kernel_rfl) (fun aB aA aC aD aI bV bJ bQ bK bR bL bM bT bN bU bO bP aP aQ aR aS aU aX aY aZ bA bB bC bD bE bF bG bH bI => by show _ = _; kernel_rfl)
noncomputable def Yal.g {β : Type} (k : Nat) (aB : Int) (aA : BA) (aC aD aI : Int) (bV : Bool) (bJ : LD) (bQ : Int) (bK : BA) (bR : Int) (bL bM : LD) (bT : Int) (bN : BA) (bU : Int) (bO bP : LD) (f0_0 : Int) (f0_1 : BA) (f0_2 f0_3 f0_4 : Int) (f0_5 : Bool) (f0_6 : LD) (f0_7 : Int) (f0_8 : BA) (f0_9 : Int) (f0_10 f0_11 : LD) (f0_12 : Int) (f0_13 : BA) (f0_14 : Int) (f0_15 f0_16 : LD) (K : Bool → Option β) : Option β :=
 K ((aC : Int) == f0_2)
noncomputable def Yal.t (k : Nat) (aB : Int) (aA : BA) (aC aD aI : Int) (bV : Bool) (bJ : LD) (bQ : Int) (bK : BA) (bR : Int) (bL bM : LD) (bT : Int) (bN : BA) (bU : Int) (bO bP : LD) (f0_0 : Int) (f0_1 : BA) (f0_2 f0_3 f0_4 : Int) (f0_5 : Bool) (f0_6 : LD) (f0_7 : Int) (f0_8 : BA) (f0_9 : Int) (f0_10 f0_11 : LD) (f0_12 : Int) (f0_13 : BA) (f0_14 : Int) (f0_15 f0_16 : LD) : Option (Bool) := Yal.g k aB aA aC aD aI bV bJ bQ bK bR bL bM bT bN bU bO bP f0_0 f0_1 f0_2 f0_3 f0_4 f0_5 f0_6 f0_7 f0_8 f0_9 f0_10 f0_11 f0_12 f0_13 f0_14 f0_15 f0_16 (fun z0 => some z0)
noncomputable def Yal.f {β : Type} (k : Nat) (aB : Int) (aA : BA) (aC aD aI : Int) (bV : Bool) (bJ : LD) (bQ : Int) (bK : BA) (bR : Int) (bL bM : LD) (bT : Int) (bN : BA) (bU : Int) (bO bP : LD) (f0_0 : Int) (f0_1 : BA) (f0_2 f0_3 f0_4 : Int) (f0_5 : Bool) (f0_6 : LD) (f0_7 : Int) (f0_8 : BA) (f0_9 : Int) (f0_10 f0_11 : LD) (f0_12 : Int) (f0_13 : BA) (f0_14 : Int) (f0_15 f0_16 : LD) (K : Bool → Option β) : Option β := bd1 (Yal.t k aB aA aC aD aI bV bJ bQ bK bR bL bM bT bN bU bO bP f0_0 f0_1 f0_2 f0_3 f0_4 f0_5 f0_6 f0_7 f0_8 f0_9 f0_10 f0_11 f0_12 f0_13 f0_14 f0_15 f0_16) K
noncomputable def Yal.e (k : Nat) : Zj := ent [.agg [.n,.s,.n,.n,.n,.b,.l,.n,.s,.n,.l,.l,.n,.s,.n,.l,.l],.ip [.n,.s,.n,.n,.n,.b,.l,.n,.s,.n,.l,.l,.n,.s,.n,.l,.l]] [1] [.b] [4] false (Yal.t k)
noncomputable def Yal.p (k : Nat) : Pro := ⟨Try.prog,[],Zv [] false [],k⟩
theorem Yal.ok (k : Nat) : Zf Try.prog 207 (Yal.e k) := Zk (Yal.p k) mix tyok Try.func207 trivial (by kernel_rfl) (fun aB aA aC aD aI bV bJ bQ bK bR bL bM bT bN bU bO bP f0_0 f0_1 f0_2 f0_3 f0_4 f0_5 f0_6 f0_7 f0_8 f0_9 f0_10 f0_11 f0_12 f0_13 f0_14 f0_15 f0_16 => by show _ = _; kernel_rfl)
noncomputable def Yd.l0 {β : Type} (k : Nat) (aE : LD) (aF : Int) (aG : BA) (aH aJ aK : Int) (aL : Bool) (aM : LD) (aO : Int) (aN : BA) (aT : Int) (aV aW : LD) (bW : Int) (bZ : BA) (cA : Int) (cC cE : LD) (cF : Int) (K L0 : Int → Option β) (v : Int) : Option β :=
 match v with
 | cH => bif (decide ((cH : Int) < cF)) then (atR aE cH [.n,.s,.n,.n,.n,.b,.l,.n,.s,.n,.l,.l,.n,.s,.n,.l,.l] fun x57 x60 x63 x66 x69 x72 x75 x78 x81 x84 x87 x90 x93 x96 x99 x102 x105 => (Yal.f k x57 x60 x63 x66 x69 x72 x75 x78 x81 x84 x87 x90 x93 x96 x99 x102 x105 aF aG aH aJ aK aL aM aO aN aT aV aW bW bZ cA cC cE (fun y106 => bif y106 then (K cH) else (L0 (IntKind.wrap .i64 (cH + 1)))))) else (K (-1))
noncomputable def Yd.m {β : Type} (k : Nat) (a0 : LD) (a1_0_0 : Int) (a1_0_1 : BA) (a1_0_2 a1_0_3 a1_0_4 : Int) (a1_0_5 : Bool) (a1_0_6 : LD) (a1_0_7 : Int) (a1_0_8 : BA) (a1_0_9 : Int) (a1_0_10 a1_0_11 : LD) (a1_0_12 : Int) (a1_0_13 : BA) (a1_0_14 : Int) (a1_0_15 a1_0_16 : LD) (K : Int → Option β) (F : (LD → Int → BA → Int → Int → Int → Bool → LD → Int → BA → Int → LD → LD → Int → BA → Int → LD → LD → Int → Int → Option β)) : Option β :=
 F a0 a1_0_0 a1_0_1 a1_0_2 a1_0_3 a1_0_4 a1_0_5 a1_0_6 a1_0_7 a1_0_8 a1_0_9 a1_0_10 a1_0_11 a1_0_12 a1_0_13 a1_0_14 a1_0_15 a1_0_16 (a0.length : Int) (0)
noncomputable def Yd.g {β : Type} (k : Nat) (a0 : LD) (a1_0_0 : Int) (a1_0_1 : BA) (a1_0_2 a1_0_3 a1_0_4 : Int) (a1_0_5 : Bool) (a1_0_6 : LD) (a1_0_7 : Int) (a1_0_8 : BA) (a1_0_9 : Int) (a1_0_10 a1_0_11 : LD) (a1_0_12 : Int) (a1_0_13 : BA) (a1_0_14 : Int) (a1_0_15 a1_0_16 : LD) (K : Int → Option β) : Option β :=
 ZA (Yd.l0 k a0 a1_0_0 a1_0_1 a1_0_2 a1_0_3 a1_0_4 a1_0_5 a1_0_6 a1_0_7 a1_0_8 a1_0_9 a1_0_10 a1_0_11 a1_0_12 a1_0_13 a1_0_14 a1_0_15 a1_0_16 (a0.length : Int) K) k (0)
noncomputable def Yd.t (k : Nat) (a0 : LD) (a1_0_0 : Int) (a1_0_1 : BA) (a1_0_2 a1_0_3 a1_0_4 : Int) (a1_0_5 : Bool) (a1_0_6 : LD) (a1_0_7 : Int) (a1_0_8 : BA) (a1_0_9 : Int) (a1_0_10 a1_0_11 : LD) (a1_0_12 : Int) (a1_0_13 : BA) (a1_0_14 : Int) (a1_0_15 a1_0_16 : LD) : Option (Int) := Yd.g k a0 a1_0_0 a1_0_1 a1_0_2 a1_0_3 a1_0_4 a1_0_5 a1_0_6 a1_0_7 a1_0_8 a1_0_9 a1_0_10 a1_0_11 a1_0_12 a1_0_13 a1_0_14 a1_0_15 a1_0_16 (fun z0 => some z0)
noncomputable def Yd.f {β : Type} (k : Nat) (a0 : LD) (a1_0_0 : Int) (a1_0_1 : BA) (a1_0_2 a1_0_3 a1_0_4 : Int) (a1_0_5 : Bool) (a1_0_6 : LD) (a1_0_7 : Int) (a1_0_8 : BA) (a1_0_9 : Int) (a1_0_10 a1_0_11 : LD) (a1_0_12 : Int) (a1_0_13 : BA) (a1_0_14 : Int) (a1_0_15 a1_0_16 : LD) (K : Int → Option β) : Option β := bd1 (Yd.t k a0 a1_0_0 a1_0_1 a1_0_2 a1_0_3 a1_0_4 a1_0_5 a1_0_6 a1_0_7 a1_0_8 a1_0_9 a1_0_10 a1_0_11 a1_0_12 a1_0_13 a1_0_14 a1_0_15 a1_0_16) K
noncomputable def Yd.e (k : Nat) : Zj := ent [.d .l,.fn 207 [[.n,.s,.n,.n,.n,.b,.l,.n,.s,.n,.l,.l,.n,.s,.n,.l,.l]]] [1] [.n] [3] false (Yd.t k)
noncomputable def Yd.p (k : Nat) : Pro := ⟨Try.prog,[(207,Yal.e k)],Zv [(2,kp [0,1,7,8])] false [],k⟩
noncomputable def Yd.d (k : Nat) (a0 : LD) (a1_0_0 : Int) (a1_0_1 : BA) (a1_0_2 a1_0_3 a1_0_4 : Int) (a1_0_5 : Bool) (a1_0_6 : LD) (a1_0_7 : Int) (a1_0_8 : BA) (a1_0_9 : Int) (a1_0_10 a1_0_11 : LD) (a1_0_12 : Int) (a1_0_13 : BA) (a1_0_14 : Int) (a1_0_15 a1_0_16 : LD) : Ex → St → Option (Int) := (Yd.p k).fin Try.f241 [.d (.sl a0),.d (.fn 207 [[.int .i64 a1_0_0,.str a1_0_1,.int .i64 a1_0_2,.int .i64 a1_0_3,.int .i64 a1_0_4,.bool a1_0_5,.sl a1_0_6,.int .i64 a1_0_7,.str a1_0_8,.int .i64 a1_0_9,.sl a1_0_10,.sl a1_0_11,.int .i64 a1_0_12,.str a1_0_13,.int .i64 a1_0_14,.sl a1_0_15,.sl a1_0_16]])] [1] [.n]
noncomputable def Yd.s0 (aE : LD) (aF : Int) (aG : BA) (aH aJ aK : Int) (aL : Bool) (aM : LD) (aO : Int) (aN : BA) (aT : Int) (aV aW : LD) (bW : Int) (bZ : BA) (cA : Int) (cC cE : LD) (cF v : Int) : St :=
 match v with
 | cH => ZaA 19 [(0,.d false (.sl aE)),(1,.d false (.fn 207 [[.int .i64 aF,.str aG,.int .i64 aH,.int .i64 aJ,.int .i64 aK,.bool aL,.sl aM,.int .i64 aO,.str aN,.int .i64 aT,.sl aV,.sl aW,.int .i64 bW,.str bZ,.int .i64 cA,.sl cC,.sl cE]])),(7,.d true (.int .i64 cF)),(8,.d true (.int .i64 cH))] []
noncomputable def Yd.r0 (k : Nat) (a0 : LD) (a1_0_0 : Int) (a1_0_1 : BA) (a1_0_2 a1_0_3 a1_0_4 : Int) (a1_0_5 : Bool) (a1_0_6 : LD) (a1_0_7 : Int) (a1_0_8 : BA) (a1_0_9 : Int) (a1_0_10 a1_0_11 : LD) (a1_0_12 : Int) (a1_0_13 : BA) (a1_0_14 : Int) (a1_0_15 a1_0_16 aE : LD) (aF : Int) (aG : BA) (aH aJ aK : Int) (aL : Bool) (aM : LD) (aO : Int) (aN : BA) (aT : Int) (aV aW : LD) (bW : Int) (bZ : BA) (cA : Int) (cC cE : LD) (cF : Int) (n : Nat) (v : Int) : Option (Int) := (Yd.p k).lp (ZI Try.f241) 2 [1,0,1,0] (Yd.d k a0 a1_0_0 a1_0_1 a1_0_2 a1_0_3 a1_0_4 a1_0_5 a1_0_6 a1_0_7 a1_0_8 a1_0_9 a1_0_10 a1_0_11 a1_0_12 a1_0_13 a1_0_14 a1_0_15 a1_0_16) n (Yd.s0 aE aF aG aH aJ aK aL aM aO aN aT aV aW bW bZ cA cC cE cF v)
theorem Yd.l0_eq (k : Nat) (a0 : LD) (a1_0_0 : Int) (a1_0_1 : BA) (a1_0_2 a1_0_3 a1_0_4 : Int) (a1_0_5 : Bool) (a1_0_6 : LD) (a1_0_7 : Int) (a1_0_8 : BA) (a1_0_9 : Int) (a1_0_10 a1_0_11 : LD) (a1_0_12 : Int) (a1_0_13 : BA) (a1_0_14 : Int) (a1_0_15 a1_0_16 aE : LD) (aF : Int) (aG : BA) (aH aJ aK : Int) (aL : Bool) (aM : LD) (aO : Int) (aN : BA) (aT : Int) (aV aW : LD) (bW : Int) (bZ : BA) (cA : Int) (cC cE : LD) (cF : Int) : ∀ n v,Yd.r0 k a0 a1_0_0 a1_0_1 a1_0_2 a1_0_3 a1_0_4 a1_0_5 a1_0_6 a1_0_7 a1_0_8 a1_0_9 a1_0_10 a1_0_11 a1_0_12 a1_0_13 a1_0_14 a1_0_15 a1_0_16 aE aF aG aH aJ aK aL aM aO aN aT aV aW bW bZ cA cC cE cF n v = ZA (Yd.l0 k aE aF aG aH aJ aK aL aM aO aN aT aV aW bW bZ cA cC cE cF (fun z0 => some z0)) n v :=
 Zz (Yd.s0 aE aF aG aH aJ aK aL aM aO aN aT aV aW bW bZ cA cC cE cF) _ fun L0 v => by kernel_rfl
theorem Yd.ok (k : Nat) : Zf Try.prog 241 (Yd.e k) := Zk (Yd.p k) mix tyok Try.func241 (Yal.ok k) (by kernel_rfl) (fun a0 a1_0_0 a1_0_1 a1_0_2 a1_0_3 a1_0_4 a1_0_5 a1_0_6 a1_0_7 a1_0_8 a1_0_9 a1_0_10 a1_0_11 a1_0_12 a1_0_13 a1_0_14 a1_0_15 a1_0_16 => Eq.trans (b := Yd.m k a0 a1_0_0 a1_0_1 a1_0_2 a1_0_3 a1_0_4 a1_0_5 a1_0_6 a1_0_7 a1_0_8 a1_0_9 a1_0_10 a1_0_11 a1_0_12 a1_0_13 a1_0_14 a1_0_15 a1_0_16 (fun z0 => some z0) (fun aE aF aG aH aJ aK aL aM aO aN aT aV aW bW bZ cA cC cE cF => Yd.r0 k a0 a1_0_0 a1_0_1 a1_0_2 a1_0_3 a1_0_4 a1_0_5 a1_0_6 a1_0_7 a1_0_8 a1_0_9 a1_0_10 a1_0_11 a1_0_12 a1_0_13 a1_0_14 a1_0_15 a1_0_16 aE aF aG aH aJ aK aL aM aO aN aT aV aW bW bZ cA cC cE cF k)) (by kernel_rfl) (congrArg (Yd.m k a0 a1_0_0 a1_0_1 a1_0_2 a1_0_3 a1_0_4 a1_0_5 a1_0_6 a1_0_7 a1_0_8 a1_0_9 a1_0_10 a1_0_11 a1_0_12 a1_0_13 a1_0_14 a1_0_15 a1_0_16 (fun z0 => some z0)) (funext fun aE => funext fun aF => funext fun aG => funext fun aH => funext fun aJ => funext fun aK => funext fun aL => funext fun aM => funext fun aO => funext fun aN => funext fun aT => funext fun aV => funext fun aW => funext fun bW => funext fun bZ => funext fun cA => funext fun cC => funext fun cE => funext fun cF => funext fun v => Yd.l0_eq k a0 a1_0_0 a1_0_1 a1_0_2 a1_0_3 a1_0_4 a1_0_5 a1_0_6 a1_0_7 a1_0_8 a1_0_9 a1_0_10 a1_0_11 a1_0_12 a1_0_13 a1_0_14 a1_0_15 a1_0_16 aE aF aG aH aJ aK aL aM aO aN aT aV aW bW bZ cA cC cE cF k v) :))
noncomputable def Yi.g {β : Type} (k : Nat) (a0 : LD) (a1_0_0 : Int) (a1_0_1 : BA) (a1_0_2 a1_0_3 a1_0_4 : Int) (a1_0_5 : Bool) (a1_0_6 : LD) (a1_0_7 : Int) (a1_0_8 : BA) (a1_0_9 : Int) (a1_0_10 a1_0_11 : LD) (a1_0_12 : Int) (a1_0_13 : BA) (a1_0_14 : Int) (a1_0_15 a1_0_16 : LD) (K : Bool → Option β) : Option β :=
 Yd.f k a0 a1_0_0 a1_0_1 a1_0_2 a1_0_3 a1_0_4 a1_0_5 a1_0_6 a1_0_7 a1_0_8 a1_0_9 a1_0_10 a1_0_11 a1_0_12 a1_0_13 a1_0_14 a1_0_15 a1_0_16 (fun y107 => K (decide ((y107 : Int) ≥ 0)))
noncomputable def Yi.t (k : Nat) (a0 : LD) (a1_0_0 : Int) (a1_0_1 : BA) (a1_0_2 a1_0_3 a1_0_4 : Int) (a1_0_5 : Bool) (a1_0_6 : LD) (a1_0_7 : Int) (a1_0_8 : BA) (a1_0_9 : Int) (a1_0_10 a1_0_11 : LD) (a1_0_12 : Int) (a1_0_13 : BA) (a1_0_14 : Int) (a1_0_15 a1_0_16 : LD) : Option (Bool) := Yi.g k a0 a1_0_0 a1_0_1 a1_0_2 a1_0_3 a1_0_4 a1_0_5 a1_0_6 a1_0_7 a1_0_8 a1_0_9 a1_0_10 a1_0_11 a1_0_12 a1_0_13 a1_0_14 a1_0_15 a1_0_16 (fun z0 => some z0)
noncomputable def Yi.f {β : Type} (k : Nat) (a0 : LD) (a1_0_0 : Int) (a1_0_1 : BA) (a1_0_2 a1_0_3 a1_0_4 : Int) (a1_0_5 : Bool) (a1_0_6 : LD) (a1_0_7 : Int) (a1_0_8 : BA) (a1_0_9 : Int) (a1_0_10 a1_0_11 : LD) (a1_0_12 : Int) (a1_0_13 : BA) (a1_0_14 : Int) (a1_0_15 a1_0_16 : LD) (K : Bool → Option β) : Option β := bd1 (Yi.t k a0 a1_0_0 a1_0_1 a1_0_2 a1_0_3 a1_0_4 a1_0_5 a1_0_6 a1_0_7 a1_0_8 a1_0_9 a1_0_10 a1_0_11 a1_0_12 a1_0_13 a1_0_14 a1_0_15 a1_0_16) K
noncomputable def Yi.e (k : Nat) : Zj := ent [.d .l,.fn 207 [[.n,.s,.n,.n,.n,.b,.l,.n,.s,.n,.l,.l,.n,.s,.n,.l,.l]]] [1] [.b] [4] false (Yi.t k)
noncomputable def Yi.p (k : Nat) : Pro := ⟨Try.prog,[(241,Yd.e k)],Zv [] false [],k⟩
theorem Yi.ok (k : Nat) : Zf Try.prog 206 (Yi.e k) := Zk (Yi.p k) mix tyok Try.func206 (Yd.ok k) (by kernel_rfl) (fun a0 a1_0_0 a1_0_1 a1_0_2 a1_0_3 a1_0_4 a1_0_5 a1_0_6 a1_0_7 a1_0_8 a1_0_9 a1_0_10 a1_0_11 a1_0_12 a1_0_13 a1_0_14 a1_0_15 a1_0_16 => by show _ = _; kernel_rfl)
noncomputable def YS.l0 {β : Type} (k : Nat) (aE : LD) (aF aG : Int) (aH : LD) (aJ : Int) (K : Bool → Option β) (L0 : Int → Option β) (v : Int) : Option β :=
 match v with
 | aK => bif (decide ((aK : Int) < aJ)) then (atR aH aK [.n,.s,.n,.n,.n,.b,.l,.n,.s,.n,.l,.l,.n,.s,.n,.l,.l] fun x113 x116 x119 x122 x125 x128 x131 x134 x137 x140 x143 x146 x149 x152 x155 x158 x161 => (Yax.f k x113 x116 x119 x122 x125 x128 x131 x134 x137 x140 x143 x146 x149 x152 x155 x158 x161 aF aG false (fun y162 => bif (!y162) then (K false) else (let J0 := (0 ≤ (0 : Int) ∧ (0 : Int) ≤ (aK : Int) ∧ (aK : Int) ≤ (aE.length : Int) ∧ Zbk 17 aE); let J1 := ((aE.drop (Int.toNat (0 : Int))).take (Int.toNat (aK : Int) - Int.toNat (0 : Int))); bif (decide ((aK : Int) > 0)) then (atR aE (IntKind.wrap .i64 (aK - 1)) [.n,.s,.n,.n,.n,.b,.l,.n,.s,.n,.l,.l,.n,.s,.n,.l,.l] fun x166 x169 x172 x175 x178 x181 x184 x187 x190 x193 x196 x199 x202 x205 x208 x211 x214 => (Y9.f k x166 x169 x172 x175 x178 x181 x184 x187 x190 x193 x196 x199 x202 x205 x208 x211 x214 x113 x116 x119 x122 x125 x128 x131 x134 x137 x140 x143 x146 x149 x152 x155 x158 x161 (fun y215 => bif (decide ((y215 : Int) ≥ 0)) then (K false) else (Zd J0 (Yi.f k J1 x113 x116 x119 x122 x125 x128 x131 x134 x137 x140 x143 x146 x149 x152 x155 x158 x161 (fun y216 => bif y216 then (K false) else (L0 (IntKind.wrap .i64 (aK + 1))))))))) else (Zd J0 (Yi.f k J1 x113 x116 x119 x122 x125 x128 x131 x134 x137 x140 x143 x146 x149 x152 x155 x158 x161 (fun y217 => bif y217 then (K false) else (L0 (IntKind.wrap .i64 (aK + 1)))))))))) else (K (decide (((aE.length : Int) : Int) ≤ 60)))
noncomputable def YS.m {β : Type} (k : Nat) (a0 : LD) (a1 a2 : Int) (K : Bool → Option β) (F : (LD → Int → Int → LD → Int → Int → Option β)) : Option β :=
 F a0 a1 a2 a0 (a0.length : Int) (0)
noncomputable def YS.g {β : Type} (k : Nat) (a0 : LD) (a1 a2 : Int) (K : Bool → Option β) : Option β :=
 ZA (YS.l0 k a0 a1 a2 a0 (a0.length : Int) K) k (0)
noncomputable def YS.t (k : Nat) (a0 : LD) (a1 a2 : Int) : Option (Bool) := YS.g k a0 a1 a2 (fun z0 => some z0)
noncomputable def YS.f {β : Type} (k : Nat) (a0 : LD) (a1 a2 : Int) (K : Bool → Option β) : Option β := bd1 (YS.t k a0 a1 a2) K
noncomputable def YS.e (k : Nat) : Zj := ent [.d .l,.d .n,.d .n] [1] [.b] [4] false (YS.t k)
noncomputable def YS.p (k : Nat) : Pro := ⟨Try.prog,[(203,Yax.e k),(205,Y9.e k),(206,Yi.e k)],Zv [(2,kp [0,1,2,9,10,11])] false [],k⟩
noncomputable def YS.d (k : Nat) (a0 : LD) (a1 a2 : Int) : Ex → St → Option (Bool) := (YS.p k).fin Try.f141 [.d (.sl a0),.d (.int .i64 a1),.d (.int .i64 a2)] [1] [.b]
noncomputable def YS.s0 (aE : LD) (aF aG : Int) (aH : LD) (aJ v : Int) : St :=
 match v with
 | aK => ZaA 44 [(0,.d false (.sl aE)),(1,.d false (.int .i64 aF)),(2,.d false (.int .i64 aG)),(9,.d false (.sl aH)),(10,.d true (.int .i64 aJ)),(11,.d true (.int .i64 aK))] []
noncomputable def YS.r0 (k : Nat) (a0 : LD) (a1 a2 : Int) (aE : LD) (aF aG : Int) (aH : LD) (aJ : Int) (n : Nat) (v : Int) : Option (Bool) := (YS.p k).lp (ZI Try.f141) 2 [1,0,1,0] (YS.d k a0 a1 a2) n (YS.s0 aE aF aG aH aJ v)
theorem YS.l0_eq (k : Nat) (a0 : LD) (a1 a2 : Int) (aE : LD) (aF aG : Int) (aH : LD) (aJ : Int) : ∀ n v,YS.r0 k a0 a1 a2 aE aF aG aH aJ n v = ZA (YS.l0 k aE aF aG aH aJ (fun z0 => some z0)) n v :=
 Zz (YS.s0 aE aF aG aH aJ) _ fun L0 v => by kernel_rfl
theorem YS.ok (k : Nat) : Zf Try.prog 141 (YS.e k) := Zk (YS.p k) mix tyok Try.func141 ⟨Yax.ok k,Y9.ok k,Yi.ok k⟩ (by kernel_rfl) (fun a0 a1 a2 => Eq.trans (b := YS.m k a0 a1 a2 (fun z0 => some z0) (fun aE aF aG aH aJ => YS.r0 k a0 a1 a2 aE aF aG aH aJ k)) (by kernel_rfl) (congrArg (YS.m k a0 a1 a2 (fun z0 => some z0)) (funext fun aE => funext fun aF => funext fun aG => funext fun aH => funext fun aJ => funext fun v => YS.l0_eq k a0 a1 a2 aE aF aG aH aJ k v) :))
noncomputable def Yaa.g {β : Type} (k : Nat) (aB : Int) (aA : LD) (K : Bool → Option β) : Option β :=
 Y0.f k aB 0 1000000 (fun y1 => bif y1 then (YS.f k aA 1000000 aB (fun y218 => K y218)) else (K false))
noncomputable def Yaa.t (k : Nat) (aB : Int) (aA : LD) : Option (Bool) := Yaa.g k aB aA (fun z0 => some z0)
noncomputable def Yaa.f {β : Type} (k : Nat) (aB : Int) (aA : LD) (K : Bool → Option β) : Option β := bd1 (Yaa.t k aB aA) K
noncomputable def Yaa.e (k : Nat) : Zj := ent [.agg [.n,.l]] [1] [.b] [4] false (Yaa.t k)
noncomputable def Yaa.p (k : Nat) : Pro := ⟨Try.prog,[(71,Y0.e k),(141,YS.e k)],Zv [] false [],k⟩
theorem Yaa.ok (k : Nat) : Zf Try.prog 56 (Yaa.e k) := Zk (Yaa.p k) mix tyok Try.func56 ⟨Y0.ok k,YS.ok k⟩ (by kernel_rfl) (fun aB aA => by show _ = _; kernel_rfl)
noncomputable def YJ.g {β : Type} (k : Nat) (a0 : LD) (K : LC → Option β) : Option β :=
 let J0 := (Zd (Zcg 1 a0) (Zd (([] : LC).length + (a0.map (·.map C.d)).length ≤ Z8) (K (([] : LC) ++ (a0.map (·.map C.d)))))); nilSl a0 (both (K ([] : LC)) J0) J0
noncomputable def YJ.t (k : Nat) (a0 : LD) : Option (LC) := YJ.g k a0 (fun z0 => some z0)
noncomputable def YJ.f {β : Type} (k : Nat) (a0 : LD) (K : LC → Option β) : Option β := bd1 (YJ.t k a0) K
noncomputable def YJ.e (k : Nat) : Zj := ent [.d .l] [1] [.o] [25] false (YJ.t k)
noncomputable def YJ.p (k : Nat) : Pro := ⟨Try.prog,[],Zv [] false [],k⟩
theorem YJ.ok (k : Nat) : Zf Try.prog 148 (YJ.e k) := Zk (YJ.p k) mix tyok Try.func148 trivial (by kernel_rfl) (fun a0 => by show _ = _; kernel_rfl)
noncomputable def Yk.l0 {β : Type} (k : Nat) (r_impl_copyValue : Int → BA → Int → LD → LD → (Int → BA → Int → LC → LC → Option β) → Option β) (aE : LD) (aF aH : Int) (aJ : BA) (aK : Int) (aL : LD) (aM : Int) (aO : BA) (aN : Int) (aV : LC) (K : Int → BA → Int → LC → LC → Option β) (L0 : (Int × LC) → Option β) (v : Int × LC) : Option β :=
 match v with
 | (aG,aT) => bif (decide ((aG : Int) < aF)) then (atR aE aG [.n,.s,.n,.l,.l] fun x26 x29 x32 x35 x38 => (r_impl_copyValue x26 x29 x32 x35 x38 (fun y39 y40 y41 y42 y43 => Zd (aT.length + ([[.d (.int .i64 y39),.d (.str y40),.d (.int .i64 y41),.own y42,.own y43]] : LC).length ≤ Z8) (L0 (IntKind.wrap .i64 (aG + 1),aT ++ ([[.d (.int .i64 y39),.d (.str y40),.d (.int .i64 y41),.own y42,.own y43]] : LC)))))) else (K aH aJ aK aV aT)
noncomputable def Yk.m {β : Type} (k : Nat) (r_impl_copyValue : Int → BA → Int → LD → LD → (Int → BA → Int → LC → LC → Option β) → Option β) (aB : Int) (aA : BA) (aC : Int) (aD aI : LD) (K : Int → BA → Int → LC → LC → Option β) (F : (LD → Int → Int → BA → Int → LD → Int → BA → Int → LC → (Int × LC) → Option β)) : Option β :=
 YJ.f k aD (fun y1 => F aI (aI.length : Int) aB aA aC aI 0 (⟨#[]⟩ : BA) 0 y1 (0,([] : LC)))
noncomputable def Yk.body {β : Type} (k : Nat) (r_impl_copyValue : Int → BA → Int → LD → LD → (Int → BA → Int → LC → LC → Option β) → Option β) (aB : Int) (aA : BA) (aC : Int) (aD aI : LD) (K : Int → BA → Int → LC → LC → Option β) : Option β :=
 YJ.f k aD (fun y1 => ZA (Yk.l0 k r_impl_copyValue aI (aI.length : Int) aB aA aC aI 0 (⟨#[]⟩ : BA) 0 y1 K) k (0,([] : LC)))
noncomputable def Yk.w {β : Type} (r : Int → BA → Int → LD → LD → Option (Int × BA × Int × LC × LC)) (aB : Int) (aA : BA) (aC : Int) (aD aI : LD) (K : Int → BA → Int → LC → LC → Option β) : Option β := bd5 (r aB aA aC aD aI) K
noncomputable def Yk.all : Nat → (Int → BA → Int → LD → LD → Option (Int × BA × Int × LC × LC))
 | 0 => (fun _ _ _ _ _ => none)
 | k + 1 => (fun r => (fun aB aA aC aD aI => Yk.body k (Yk.w r) aB aA aC aD aI (fun z0 z1 z2 z3 z4 => some (z0,z1,z2,z3,z4)))) (Yk.all k)
noncomputable def Yk.t (k : Nat) (aB : Int) (aA : BA) (aC : Int) (aD aI : LD) : Option (Int × BA × Int × LC × LC) := (Yk.all k) aB aA aC aD aI
noncomputable def Yk.f {β : Type} (k : Nat) (aB : Int) (aA : BA) (aC : Int) (aD aI : LD) (K : Int → BA → Int → LC → LC → Option β) : Option β := Yk.w (Yk.t k) aB aA aC aD aI K
noncomputable def Yk.g {β : Type} (k : Nat) (aB : Int) (aA : BA) (aC : Int) (aD aI : LD) (K : Int → BA → Int → LC → LC → Option β) : Option β := Yk.body k (Yk.f k) aB aA aC aD aI K
theorem Yk.t_succ (k : Nat) (aB : Int) (aA : BA) (aC : Int) (aD aI : LD) : Yk.t (k + 1) aB aA aC aD aI = Yk.g k aB aA aC aD aI (fun z0 z1 z2 z3 z4 => some (z0,z1,z2,z3,z4)) := rfl
noncomputable def Yk.e (k : Nat) : Zj := ent [.agg [.n,.s,.n,.l,.l]] [5] [.n,.s,.n,.o,.o] [66] false (Yk.t k)
noncomputable def Yk.p (k : Nat) : Pro := ⟨Try.prog,[(148,YJ.e k),(185,Yk.e k)],Zv [(4,kp [1,2,3,12,13,14])] false [],k⟩
noncomputable def Yk.d (k : Nat) (aB : Int) (aA : BA) (aC : Int) (aD aI : LD) : Ex → St → Option (Int × BA × Int × LC × LC) := (Yk.p k).fin Try.f185 [.agg [.int .i64 aB,.str aA,.int .i64 aC,.sl aD,.sl aI]] [5] [.n,.s,.n,.o,.o]
noncomputable def Yk.s0 (aE : LD) (aF aH : Int) (aJ : BA) (aK : Int) (aL : LD) (aM : Int) (aO : BA) (aN : Int) (aV : LC) (v : Int × LC) : St :=
 match v with
 | (aG,aT) => ZaA 27 [(1,.bp 0 0),(2,.bp 1 0),(3,.row 2),(12,.d false (.sl aE)),(13,.d true (.int .i64 aF)),(14,.d true (.int .i64 aG))] [.box none 66 [.d false (.int .i64 aH),.d false (.str aJ),.d false (.int .i64 aK),.row 3,.d false (.sl aL)],.box none 66 [.d true (.int .i64 aM),.d true (.str aO),.d true (.int .i64 aN),.nil,.nil],.row none true 64 aT,.row none true 25 aV]
noncomputable def Yk.r0 (k : Nat) (aB : Int) (aA : BA) (aC : Int) (aD aI aE : LD) (aF aH : Int) (aJ : BA) (aK : Int) (aL : LD) (aM : Int) (aO : BA) (aN : Int) (aV : LC) (n : Nat) (v : Int × LC) : Option (Int × BA × Int × LC × LC) := (Yk.p k).lp (ZI Try.f185) 4 [1,1,1,0,1,0] (Yk.d k aB aA aC aD aI) n (Yk.s0 aE aF aH aJ aK aL aM aO aN aV v)
theorem Yk.l0_eq (k : Nat) (aB : Int) (aA : BA) (aC : Int) (aD aI aE : LD) (aF aH : Int) (aJ : BA) (aK : Int) (aL : LD) (aM : Int) (aO : BA) (aN : Int) (aV : LC) : ∀ n v,Yk.r0 k aB aA aC aD aI aE aF aH aJ aK aL aM aO aN aV n v = ZA (Yk.l0 k (Yk.f k) aE aF aH aJ aK aL aM aO aN aV (fun z0 z1 z2 z3 z4 => some (z0,z1,z2,z3,z4))) n v :=
 Zz (Yk.s0 aE aF aH aJ aK aL aM aO aN aV) _ fun L0 v => by obtain ⟨aG,aT⟩ := v; kernel_rfl
theorem Yk.oks (k : Nat) : Zf Try.prog 185 (Yk.e k) := by
 induction k with
 | zero => exact Zba Try.func185 (by kernel_rfl) (fun _ _ _ _ _ => rfl)
 | succ k ih => exact Zk (Yk.p k) mix tyok Try.func185 ⟨YJ.ok k,ih⟩ (by kernel_rfl) (fun aB aA aC aD aI => Eq.trans (b := Yk.m k (Yk.f k) aB aA aC aD aI (fun z0 z1 z2 z3 z4 => some (z0,z1,z2,z3,z4)) (fun aE aF aH aJ aK aL aM aO aN aV => Yk.r0 k aB aA aC aD aI aE aF aH aJ aK aL aM aO aN aV k)) (by kernel_rfl) ((congrArg (Yk.m k (Yk.f k) aB aA aC aD aI (fun z0 z1 z2 z3 z4 => some (z0,z1,z2,z3,z4))) (funext fun aE => funext fun aF => funext fun aH => funext fun aJ => funext fun aK => funext fun aL => funext fun aM => funext fun aO => funext fun aN => funext fun aV => funext fun v => Yk.l0_eq k aB aA aC aD aI aE aF aH aJ aK aL aM aO aN aV k v)).trans (Yk.t_succ k aB aA aC aD aI).symm))
theorem Yk.ok (k : Nat) : Zf Try.prog 185 (Yk.e k) := (Yk.oks k)
noncomputable def Yai.g {β : Type} (k : Nat) (aB : Int) (aA : BA) (aC aD aI : Int) (bV : Bool) (bJ : LD) (bQ : Int) (bK : BA) (bR : Int) (bL bM : LD) (bT : Int) (bN : BA) (bU : Int) (bO bP : LD) (K : Int → BA → Int → Int → Int → Bool → LC → Int → BA → Int → LC → LC → Int → BA → Int → LC → LC → Option β) : Option β :=
 YJ.f k bJ (fun y1 => Yk.f k bQ bK bR bL bM (fun y44 y45 y46 y47 y48 => Yk.f k bT bN bU bO bP (fun y49 y50 y51 y52 y53 => K aB aA aC aD aI bV y1 y44 y45 y46 y47 y48 y49 y50 y51 y52 y53)))
noncomputable def Yai.t (k : Nat) (aB : Int) (aA : BA) (aC aD aI : Int) (bV : Bool) (bJ : LD) (bQ : Int) (bK : BA) (bR : Int) (bL bM : LD) (bT : Int) (bN : BA) (bU : Int) (bO bP : LD) : Option (Int × BA × Int × Int × Int × Bool × LC × Int × BA × Int × LC × LC × Int × BA × Int × LC × LC) := Yai.g k aB aA aC aD aI bV bJ bQ bK bR bL bM bT bN bU bO bP (fun z0 z1 z2 z3 z4 z5 z6 z7 z8 z9 z10 z11 z12 z13 z14 z15 z16 => some (z0,z1,z2,z3,z4,z5,z6,z7,z8,z9,z10,z11,z12,z13,z14,z15,z16))
noncomputable def Yai.f {β : Type} (k : Nat) (aB : Int) (aA : BA) (aC aD aI : Int) (bV : Bool) (bJ : LD) (bQ : Int) (bK : BA) (bR : Int) (bL bM : LD) (bT : Int) (bN : BA) (bU : Int) (bO bP : LD) (K : Int → BA → Int → Int → Int → Bool → LC → Int → BA → Int → LC → LC → Int → BA → Int → LC → LC → Option β) : Option β := match Yai.t k aB aA aC aD aI bV bJ bQ bK bR bL bM bT bN bU bO bP with | some (z0,z1,z2,z3,z4,z5,z6,z7,z8,z9,z10,z11,z12,z13,z14,z15,z16) => K z0 z1 z2 z3 z4 z5 z6 z7 z8 z9 z10 z11 z12 z13 z14 z15 z16 | none => none
noncomputable def Yai.e (k : Nat) : Zj := ent [.agg [.n,.s,.n,.n,.n,.b,.l,.n,.s,.n,.l,.l,.n,.s,.n,.l,.l]] [17] [.n,.s,.n,.n,.n,.b,.o,.n,.s,.n,.o,.o,.n,.s,.n,.o,.o] [165] false (Yai.t k)
noncomputable def Yai.p (k : Nat) : Pro := ⟨Try.prog,[(148,YJ.e k),(185,Yk.e k)],Zv [] false [],k⟩
theorem Yai.ok (k : Nat) : Zf Try.prog 204 (Yai.e k) := Zk (Yai.p k) mix tyok Try.func204 ⟨YJ.ok k,Yk.ok k⟩ (by kernel_rfl) (fun aB aA aC aD aI bV bJ bQ bK bR bL bM bT bN bU bO bP => by show _ = _; kernel_rfl)
noncomputable def YG.l0 {β : Type} (k : Nat) (aE : LD) (aF : Int) (K : LC → Option β) (L0 : (Int × LC) → Option β) (v : Int × LC) : Option β :=
 match v with
 | (aG,aH) => bif (decide ((aG : Int) < aF)) then (atR aE aG [.n,.s,.n,.n,.n,.b,.l,.n,.s,.n,.l,.l,.n,.s,.n,.l,.l] fun x74 x77 x80 x83 x86 x89 x92 x95 x98 x101 x104 x107 x110 x113 x116 x119 x122 => (Yai.f k x74 x77 x80 x83 x86 x89 x92 x95 x98 x101 x104 x107 x110 x113 x116 x119 x122 (fun y123 y124 y125 y126 y127 y128 y129 y130 y131 y132 y133 y134 y135 y136 y137 y138 y139 => Zd (aH.length + ([[.d (.int .i64 y123),.d (.str y124),.d (.int .i64 y125),.d (.int .i64 y126),.d (.int .i64 y127),.d (.bool y128),.own y129,.d (.int .i64 y130),.d (.str y131),.d (.int .i64 y132),.own y133,.own y134,.d (.int .i64 y135),.d (.str y136),.d (.int .i64 y137),.own y138,.own y139]] : LC).length ≤ Z8) (L0 (IntKind.wrap .i64 (aG + 1),aH ++ ([[.d (.int .i64 y123),.d (.str y124),.d (.int .i64 y125),.d (.int .i64 y126),.d (.int .i64 y127),.d (.bool y128),.own y129,.d (.int .i64 y130),.d (.str y131),.d (.int .i64 y132),.own y133,.own y134,.d (.int .i64 y135),.d (.str y136),.d (.int .i64 y137),.own y138,.own y139]] : LC)))))) else (K aH)
noncomputable def YG.m {β : Type} (k : Nat) (a0 : LD) (K : LC → Option β) (F : (LD → Int → (Int × LC) → Option β)) : Option β :=
 F a0 (a0.length : Int) (0,([] : LC))
noncomputable def YG.g {β : Type} (k : Nat) (a0 : LD) (K : LC → Option β) : Option β :=
 ZA (YG.l0 k a0 (a0.length : Int) K) k (0,([] : LC))
noncomputable def YG.t (k : Nat) (a0 : LD) : Option (LC) := YG.g k a0 (fun z0 => some z0)
noncomputable def YG.f {β : Type} (k : Nat) (a0 : LD) (K : LC → Option β) : Option β := bd1 (YG.t k a0) K
noncomputable def YG.e (k : Nat) : Zj := ent [.d .l] [1] [.o] [87] false (YG.t k)
noncomputable def YG.p (k : Nat) : Pro := ⟨Try.prog,[(204,Yai.e k)],Zv [(3,kp [3,7,8,9])] false [],k⟩
noncomputable def YG.d (k : Nat) (a0 : LD) : Ex → St → Option (LC) := (YG.p k).fin Try.f140 [.d (.sl a0)] [1] [.o]
noncomputable def YG.s0 (aE : LD) (aF : Int) (v : Int × LC) : St :=
 match v with
 | (aG,aH) => ZaA 20 [(3,.row 0),(7,.d false (.sl aE)),(8,.d true (.int .i64 aF)),(9,.d true (.int .i64 aG))] [.row none true 87 aH]
noncomputable def YG.r0 (k : Nat) (a0 aE : LD) (aF : Int) (n : Nat) (v : Int × LC) : Option (LC) := (YG.p k).lp (ZI Try.f140) 3 [1,1,0,1,0] (YG.d k a0) n (YG.s0 aE aF v)
theorem YG.l0_eq (k : Nat) (a0 aE : LD) (aF : Int) : ∀ n v,YG.r0 k a0 aE aF n v = ZA (YG.l0 k aE aF (fun z0 => some z0)) n v :=
 Zz (YG.s0 aE aF) _ fun L0 v => by obtain ⟨aG,aH⟩ := v; kernel_rfl
theorem YG.ok (k : Nat) : Zf Try.prog 140 (YG.e k) := Zk (YG.p k) mix tyok Try.func140 (Yai.ok k) (by kernel_rfl) (fun a0 => Eq.trans (b := YG.m k a0 (fun z0 => some z0) (fun aE aF => YG.r0 k a0 aE aF k)) (by kernel_rfl) (congrArg (YG.m k a0 (fun z0 => some z0)) (funext fun aE => funext fun aF => funext fun v => YG.l0_eq k a0 aE aF k v) :))
noncomputable def YV.g {β : Type} (k : Nat) (aB : Int) (aA : LD) (K : Int → LC → Option β) : Option β :=
 YG.f k aA (fun y140 => K aB y140)
noncomputable def YV.t (k : Nat) (aB : Int) (aA : LD) : Option (Int × LC) := YV.g k aB aA (fun z0 z1 => some (z0,z1))
noncomputable def YV.f {β : Type} (k : Nat) (aB : Int) (aA : LD) (K : Int → LC → Option β) : Option β := bd2 (YV.t k aB aA) K
noncomputable def YV.e (k : Nat) : Zj := ent [.agg [.n,.l]] [2] [.n,.o] [89] false (YV.t k)
noncomputable def YV.p (k : Nat) : Pro := ⟨Try.prog,[(140,YG.e k)],Zv [] false [],k⟩
theorem YV.ok (k : Nat) : Zf Try.prog 133 (YV.e k) := Zk (YV.p k) mix tyok Try.func133 (YG.ok k) (by kernel_rfl) (fun aB aA => by show _ = _; kernel_rfl)
noncomputable def Yc.l0 {β : Type} (k : Nat) (aE : LD) (aF aJ : Int) (aK : BA) (aL aM aO : Int) (aN : Bool) (aT : LD) (aV : Int) (aW : BA) (bW : Int) (bZ cA : LD) (cC : Int) (cE : BA) (cF : Int) (cH cM : LD) (K : Int → Bool → Option β) (L0 : (Int × Int) → Option β) (v : Int × Int) : Option β :=
 match v with
 | (aG,aH) => bif (decide ((aG : Int) < aH)) then (let J1 := (Int.fdiv (IntKind.wrap .u64 (IntKind.wrap .i64 (aG + aH))) (2 ^ (min (1 : Int).toNat 64))); let J0 := (IntKind.wrap .i64 J1); Zd ((0 : Int) ≤ 1) (atRow aE J0 fun c107 => rdQ [.n,.s,.n,.n,.n,.b,.l,.n,.s,.n,.l,.l,.n,.s,.n,.l,.l] c107 fun x110 x113 x116 x119 x122 x125 x128 x131 x134 x137 x140 x143 x146 x149 x152 x155 x158 => (Y9.f k x110 x113 x116 x119 x122 x125 x128 x131 x134 x137 x140 x143 x146 x149 x152 x155 x158 aJ aK aL aM aO aN aT aV aW bW bZ cA cC cE cF cH cM (fun y159 => bif (decide ((y159 : Int) < 0)) then (L0 (IntKind.wrap .i64 (J0 + 1),aH)) else (L0 (aG,IntKind.wrap .i64 J1)))))) else (bif (decide ((aG : Int) < aF)) then (atR aE aG [.n,.s,.n,.n,.n,.b,.l,.n,.s,.n,.l,.l,.n,.s,.n,.l,.l] fun x163 x166 x169 x172 x175 x178 x181 x184 x187 x190 x193 x196 x199 x202 x205 x208 x211 => (Y9.f k x163 x166 x169 x172 x175 x178 x181 x184 x187 x190 x193 x196 x199 x202 x205 x208 x211 aJ aK aL aM aO aN aT aV aW bW bZ cA cC cE cF cH cM (fun y212 => K aG ((y212 : Int) == 0)))) else (K aG false))
noncomputable def Yc.m {β : Type} (k : Nat) (a0 : LD) (aP : Int) (aQ : BA) (aR aS aU : Int) (aX : Bool) (aY : LD) (aZ : Int) (bA : BA) (bB : Int) (bC bD : LD) (bE : Int) (bF : BA) (bG : Int) (bH bI : LD) (K : Int → Bool → Option β) (F : (LD → Int → Int → BA → Int → Int → Int → Bool → LD → Int → BA → Int → LD → LD → Int → BA → Int → LD → LD → (Int × Int) → Option β)) : Option β :=
 F a0 (a0.length : Int) aP aQ aR aS aU aX aY aZ bA bB bC bD bE bF bG bH bI (0,(a0.length : Int))
noncomputable def Yc.g {β : Type} (k : Nat) (a0 : LD) (aP : Int) (aQ : BA) (aR aS aU : Int) (aX : Bool) (aY : LD) (aZ : Int) (bA : BA) (bB : Int) (bC bD : LD) (bE : Int) (bF : BA) (bG : Int) (bH bI : LD) (K : Int → Bool → Option β) : Option β :=
 ZA (Yc.l0 k a0 (a0.length : Int) aP aQ aR aS aU aX aY aZ bA bB bC bD bE bF bG bH bI K) k (0,(a0.length : Int))
noncomputable def Yc.t (k : Nat) (a0 : LD) (aP : Int) (aQ : BA) (aR aS aU : Int) (aX : Bool) (aY : LD) (aZ : Int) (bA : BA) (bB : Int) (bC bD : LD) (bE : Int) (bF : BA) (bG : Int) (bH bI : LD) : Option (Int × Bool) := Yc.g k a0 aP aQ aR aS aU aX aY aZ bA bB bC bD bE bF bG bH bI (fun z0 z1 => some (z0,z1))
noncomputable def Yc.f {β : Type} (k : Nat) (a0 : LD) (aP : Int) (aQ : BA) (aR aS aU : Int) (aX : Bool) (aY : LD) (aZ : Int) (bA : BA) (bB : Int) (bC bD : LD) (bE : Int) (bF : BA) (bG : Int) (bH bI : LD) (K : Int → Bool → Option β) : Option β := bd2 (Yc.t k a0 aP aQ aR aS aU aX aY aZ bA bB bC bD bE bF bG bH bI) K
noncomputable def Yc.e (k : Nat) : Zj := ent [.d .l,.agg [.n,.s,.n,.n,.n,.b,.l,.n,.s,.n,.l,.l,.n,.s,.n,.l,.l],.fn 205 []] [1,1] [.n,.b] [3,4] false (Yc.t k)
noncomputable def Yc.p (k : Nat) : Pro := ⟨Try.prog,[(205,Y9.e k)],Zv [(3,kp [0,2,4,8,9,10])] false [],k⟩
noncomputable def Yc.d (k : Nat) (a0 : LD) (aP : Int) (aQ : BA) (aR aS aU : Int) (aX : Bool) (aY : LD) (aZ : Int) (bA : BA) (bB : Int) (bC bD : LD) (bE : Int) (bF : BA) (bG : Int) (bH bI : LD) : Ex → St → Option (Int × Bool) := (Yc.p k).fin Try.f239 [.d (.sl a0),.agg [.int .i64 aP,.str aQ,.int .i64 aR,.int .i64 aS,.int .i64 aU,.bool aX,.sl aY,.int .i64 aZ,.str bA,.int .i64 bB,.sl bC,.sl bD,.int .i64 bE,.str bF,.int .i64 bG,.sl bH,.sl bI],.d (.fn 205 [])] [1,1] [.n,.b]
noncomputable def Yc.s0 (aE : LD) (aF aJ : Int) (aK : BA) (aL aM aO : Int) (aN : Bool) (aT : LD) (aV : Int) (aW : BA) (bW : Int) (bZ cA : LD) (cC : Int) (cE : BA) (cF : Int) (cH cM : LD) (v : Int × Int) : St :=
 match v with
 | (aG,aH) => ZaA 49 [(0,.d false (.sl aE)),(2,.d false (.fn 205 [])),(4,.bp 0 0),(8,.d true (.int .i64 aF)),(9,.d true (.int .i64 aG)),(10,.d true (.int .i64 aH))] [.box none 165 [.d false (.int .i64 aJ),.d false (.str aK),.d false (.int .i64 aL),.d false (.int .i64 aM),.d false (.int .i64 aO),.d false (.bool aN),.d false (.sl aT),.d false (.int .i64 aV),.d false (.str aW),.d false (.int .i64 bW),.d false (.sl bZ),.d false (.sl cA),.d false (.int .i64 cC),.d false (.str cE),.d false (.int .i64 cF),.d false (.sl cH),.d false (.sl cM)]]
noncomputable def Yc.r0 (k : Nat) (a0 : LD) (aP : Int) (aQ : BA) (aR aS aU : Int) (aX : Bool) (aY : LD) (aZ : Int) (bA : BA) (bB : Int) (bC bD : LD) (bE : Int) (bF : BA) (bG : Int) (bH bI aE : LD) (aF aJ : Int) (aK : BA) (aL aM aO : Int) (aN : Bool) (aT : LD) (aV : Int) (aW : BA) (bW : Int) (bZ cA : LD) (cC : Int) (cE : BA) (cF : Int) (cH cM : LD) (n : Nat) (v : Int × Int) : Option (Int × Bool) := (Yc.p k).lp (ZI Try.f239) 3 [1,1,1,0,0] (Yc.d k a0 aP aQ aR aS aU aX aY aZ bA bB bC bD bE bF bG bH bI) n (Yc.s0 aE aF aJ aK aL aM aO aN aT aV aW bW bZ cA cC cE cF cH cM v)
theorem Yc.l0_eq (k : Nat) (a0 : LD) (aP : Int) (aQ : BA) (aR aS aU : Int) (aX : Bool) (aY : LD) (aZ : Int) (bA : BA) (bB : Int) (bC bD : LD) (bE : Int) (bF : BA) (bG : Int) (bH bI aE : LD) (aF aJ : Int) (aK : BA) (aL aM aO : Int) (aN : Bool) (aT : LD) (aV : Int) (aW : BA) (bW : Int) (bZ cA : LD) (cC : Int) (cE : BA) (cF : Int) (cH cM : LD) : ∀ n v,Yc.r0 k a0 aP aQ aR aS aU aX aY aZ bA bB bC bD bE bF bG bH bI aE aF aJ aK aL aM aO aN aT aV aW bW bZ cA cC cE cF cH cM n v = ZA (Yc.l0 k aE aF aJ aK aL aM aO aN aT aV aW bW bZ cA cC cE cF cH cM (fun z0 z1 => some (z0,z1))) n v :=
 Zz (Yc.s0 aE aF aJ aK aL aM aO aN aT aV aW bW bZ cA cC cE cF cH cM) _ fun L0 v => by obtain ⟨aG,aH⟩ := v; kernel_rfl
theorem Yc.ok (k : Nat) : Zf Try.prog 239 (Yc.e k) := Zk (Yc.p k) mix tyok Try.func239 (Y9.ok k) (by kernel_rfl) (fun a0 aP aQ aR aS aU aX aY aZ bA bB bC bD bE bF bG bH bI => Eq.trans (b := Yc.m k a0 aP aQ aR aS aU aX aY aZ bA bB bC bD bE bF bG bH bI (fun z0 z1 => some (z0,z1)) (fun aE aF aJ aK aL aM aO aN aT aV aW bW bZ cA cC cE cF cH cM => Yc.r0 k a0 aP aQ aR aS aU aX aY aZ bA bB bC bD bE bF bG bH bI aE aF aJ aK aL aM aO aN aT aV aW bW bZ cA cC cE cF cH cM k)) (by kernel_rfl) (congrArg (Yc.m k a0 aP aQ aR aS aU aX aY aZ bA bB bC bD bE bF bG bH bI (fun z0 z1 => some (z0,z1))) (funext fun aE => funext fun aF => funext fun aJ => funext fun aK => funext fun aL => funext fun aM => funext fun aO => funext fun aN => funext fun aT => funext fun aV => funext fun aW => funext fun bW => funext fun bZ => funext fun cA => funext fun cC => funext fun cE => funext fun cF => funext fun cH => funext fun cM => funext fun v => Yc.l0_eq k a0 aP aQ aR aS aU aX aY aZ bA bB bC bD bE bF bG bH bI aE aF aJ aK aL aM aO aN aT aV aW bW bZ cA cC cE cF cH cM k v) :))
noncomputable def YB.t (k : Nat) (xs : LC) (i : Int) (ys : LC) : Option LC := Zd (0 ≤ i ∧ i ≤ (xs.length : Int) ∧ xs.length + ys.length ≤ Z8) (some (xs.take i.toNat ++ ys ++ xs.drop i.toNat))
noncomputable def YB.f {β : Type} (k : Nat) (xs : LC) (i : Int) (ys : LC) (K : LC → Option β) : Option β :=
 match YB.t k xs i ys with
 | some z0 => K z0
 | none => none
noncomputable def YB.run (k : Nat) : {β : Type} → List A → (LC → Option β) → Option β := fun {β} l K =>
 match l with
 | [.own false [.own xs],.d (.int .i64 i),.own false [.own ys]] => YB.f k xs i ys K
 | _ => none
noncomputable def YB.e (k : Nat) : Zj := { modes := [(.own,0)],rts := [87],al := false,run := fun _ _ => none,lib := some ⟨[true,false,true],87,YB.run k⟩ }
set_option maxHeartbeats 4000000 in
set_option maxRecDepth 1000000 in
theorem YB.raw0 (a : Option Addr) (n cap i : Nat) (a' : Option Addr) (cap' : Nat) (w : World) (hi : i ≤ n) (hn : n ≤ cap) : Calls Try.prog 240 #[.slice a n cap,.int .i64 i,.slice a' 0 cap'] w fun ex w' => ex = .returned (.slice a n cap) ∧ w' = w := by
 go_enter Try.func240,Try.ntmps240
 go_wp2
 all_goals (go_ret; exact ⟨rfl,rfl⟩)
set_option maxHeartbeats 4000000 in
set_option maxRecDepth 1000000 in
theorem YB.rawA (a : Option Addr) (n cap m vb vcap : Nat) (w W' : World) (R : Value) (hm : 0 < m) (hn : n ≤ cap) (hrun : ∀ ty,(Builtin.append_ #[87,87] ty #[.slice a n cap,.slice (some ⟨vb,0,none⟩) m vcap]).run Try.prog w = .ok R W') :
  Calls Try.prog 240 #[.slice a n cap,.int .i64 n,.slice (some ⟨vb,0,none⟩) m vcap] w fun ex w' => ex = .returned R ∧ w' = W' := by
 have mixed : Try.prog.follows .mixedOrders = true := by kernel_rfl
 have hz1 : ¬ ((m : Int) = 0) := by omega
 go_enter Try.func240,Try.ntmps240
 cases a with
 | none =>
  go_wp2_with (at_builtin; refine Lib.wpList_append_run _ rfl _ _ _ _ rfl _ _ rfl rfl _ _ (hrun _) ?_)
  all_goals (go_ret; exact ⟨rfl,rfl⟩)
 | some a =>
  obtain ⟨ab,ao,asp⟩ := a
  go_wp2_with (at_builtin; refine Lib.wpList_append_run _ rfl _ _ _ _ rfl _ _ rfl rfl _ _ (hrun _) ?_)
  all_goals (go_ret; exact ⟨rfl,rfl⟩)
set_option maxHeartbeats 4000000 in
set_option maxRecDepth 1000000 in
theorem YB.rawB (b n cap i vb m vcap : Nat) (cd vs : List Value) (w : World) (hi : i < n) (hm : 0 < m) (hroom : n + m ≤ cap) (hnm : n + m ≤ 9223372036854775807)
  (hov : ∀ lb cb,(callFunc 258 #[.slice (some ⟨vb,0,none⟩) m vcap,.slice (some ⟨b,(i + m) * 17,none⟩) lb cb]).run Try.prog w = .ok (.value (.bool false)) w)
  (hcp1 : ∀ ty dc sc,(Builtin.copy_ #[87,87] ty #[.slice (some ⟨b,(i + m) * 17,none⟩) (n + m - (i + m)) dc,.slice (some ⟨b,i * 17,none⟩) (n + m - i) sc]).run Try.prog w.drew = .ok (goInt ((n - i : Nat) : Int)) (w.drew.setCells b ((i + m) * 17) cd))
  (hcp2 : ∀ ty dc,(Builtin.copy_ #[87,87] ty #[.slice (some ⟨b,i * 17,none⟩) (n + m - i) dc,.slice (some ⟨vb,0,none⟩) m vcap]).run Try.prog (w.drew.setCells b ((i + m) * 17) cd) = .ok (goInt m) ((w.drew.setCells b ((i + m) * 17) cd).setCells b (i * 17) vs)) :
  Calls Try.prog 240 #[.slice (some ⟨b,0,none⟩) n cap,.int .i64 i,.slice (some ⟨vb,0,none⟩) m vcap] w fun ex w' => ex = .returned (.slice (some ⟨b,0,none⟩) (n + m) cap) ∧ w' = (w.drew.setCells b ((i + m) * 17) cd).setCells b (i * 17) vs := by
 have mixed : Try.prog.follows .mixedOrders = true := by kernel_rfl
 have hz1 : ¬ ((m : Int) = 0) := by omega
 have hz2 : ¬ ((i : Int) = (n : Int)) := by omega
 have hw1 : IntKind.i64.wrap ((i : Int) + (m : Int)) = (i : Int) + (m : Int) := by rw [IntKind.wrap_i64]; omega
 have hb1 : (0 : Int) ≤ (i : Int) + (m : Int) := by omega
 have hin : i ≤ n := by omega
 have htn : ((i : Int) + (m : Int)).toNat = i + m := by omega
 have hb2 : ¬ (cap = i + m) := by omega
 have hb3 : (i : Int) ≤ (n : Int) + (m : Int) := by omega
 have hb4 : ¬ (cap = i) := by omega
 obtain ⟨W1,hW1⟩ : ∃ W1,Hold (W1 = w.drew.setCells b ((i + m) * 17) cd) := ⟨_,⟨rfl⟩⟩
 rw [← hW1.out] at hcp1 hcp2 ⊢
 go_enter Try.func240,Try.ntmps240
 go_wp2_with (simp only [hov])
 go_region_law_o (refine step_copy_run rfl _ _ 87 87 rfl _ _ (by simp [Act.eval,Act.put]) (by simp [Act.eval,Act.put]) (hcp1 _ _ _) ?_)
 go_wp2_with (at_builtin; refine wpList_copy_run _ rfl _ _ 87 87 rfl _ _ rfl rfl (hcp2 _ _) ?_)
 go_ret
 exact ⟨rfl,rfl⟩
set_option maxHeartbeats 4000000 in
set_option maxRecDepth 1000000 in
theorem YB.rawC (b n cap i vb m vcap G N : Nat) (cd vs : List Value) (w W1 : World) (hi : i < n) (hm : 0 < m) (hn : n ≤ cap) (hroom : cap < n + m) (hG : n + m ≤ G) (hG63 : G ≤ 9223372036854775807)
  (hrz : ∀ ty,(Builtin.append_ #[87,3] ty #[.slice (some ⟨b,0,none⟩) i cap,.int .i64 ((n : Int) + (m : Int) - (i : Int))]).run Try.prog w = .ok (.slice (some ⟨N,0,none⟩) (n + m) G) W1)
  (hcpA : ∀ ty dc,(Builtin.copy_ #[87,87] ty #[.slice (some ⟨N,i * 17,none⟩) (n + m - i) dc,.slice (some ⟨vb,0,none⟩) m vcap]).run Try.prog W1 = .ok (goInt m) (W1.setCells N (i * 17) vs))
  (hcpB : ∀ ty dc sc,(Builtin.copy_ #[87,87] ty #[.slice (some ⟨N,(i + m) * 17,none⟩) (n + m - (i + m)) dc,.slice (some ⟨b,i * 17,none⟩) (n - i) sc]).run Try.prog (W1.setCells N (i * 17) vs).drew = .ok (goInt ((n - i : Nat) : Int)) ((W1.setCells N (i * 17) vs).drew.setCells N ((i + m) * 17) cd)) :
  Calls Try.prog 240 #[.slice (some ⟨b,0,none⟩) n cap,.int .i64 i,.slice (some ⟨vb,0,none⟩) m vcap] w fun ex w' => ex = .returned (.slice (some ⟨N,0,none⟩) (n + m) G) ∧ w' = (W1.setCells N (i * 17) vs).drew.setCells N ((i + m) * 17) cd := by
 have mixed : Try.prog.follows .mixedOrders = true := by kernel_rfl
 have hz1 : ¬ ((m : Int) = 0) := by omega
 have hz2 : ¬ ((i : Int) = (n : Int)) := by omega
 have hz3 : (cap : Int) < (n : Int) + (m : Int) := by omega
 have hGi : ¬ (G = i) := by omega
 have hGim : ¬ (G = i + m) := by omega
 have hci : ¬ (cap = i) := by omega
 have hw1 : IntKind.i64.wrap ((i : Int) + (m : Int)) = (i : Int) + (m : Int) := by rw [IntKind.wrap_i64]; omega
 have hb1 : (0 : Int) ≤ (i : Int) + (m : Int) := by omega
 have hin : i ≤ n := by omega
 have htn : ((i : Int) + (m : Int)).toNat = i + m := by omega
 have hb3 : (i : Int) ≤ (n : Int) := by omega
 obtain ⟨W2,hW2⟩ : ∃ W2,Hold (W2 = W1.setCells N (i * 17) vs) := ⟨_,⟨rfl⟩⟩
 rw [← hW2.out] at hcpA hcpB ⊢
 go_enter Try.func240,Try.ntmps240
 go_wp2_with (first
  | (at_builtin; refine Lib.wpList_append_run _ rfl _ _ _ _ rfl _ _ rfl rfl _ _ (hrz _) ?_)
  | (at_builtin; refine wpList_copy_run _ rfl _ _ 87 87 rfl _ _ rfl rfl (hcpA _ _) ?_))
 go_region_law_o (refine step_copy_run rfl _ _ 87 87 rfl (.slice (some ⟨N,(i + m) * 17,none⟩) (n + m - (i + m)) (G - (i + m))) (.slice (some ⟨b,i * 17,none⟩) (n - i) (cap - i)) (by simp [Act.eval,Act.put]) (by simp [Act.eval,Act.put]) (hcpB _ _ _) ?_)
 go_wp2
 go_ret
 exact ⟨rfl,rfl⟩
theorem YB.raw : InsRaw Try.prog 240 17 := by
 obtain ⟨i0,z,hi,hz,hzs⟩ := Zbr (P := Try.prog) (t := 165) (by kernel_rfl)
 have hsz : i0.size = 17 := by
  have : Try.prog.cellsOf 165 = 17 := by kernel_rfl
  simpa [Program.cellsOf,hi] using this
 have hzc : z.cells.size = 17 := by
  have h1 : (ZaM Try.prog 165).length = 17 := by kernel_rfl
  rw [← h1]
  simpa using (Zaq hzs).2.2.1.symm
 have hby : i0.bytes ≤ 1000 := by
  have : (Try.prog.info? 165).map (·.bytes) = some 240 := by kernel_rfl
  rw [hi] at this
  simp only [Option.map_some,Option.some.injEq] at this
  rw [this]
  decide
 exact InsRoads.raw (o := 258) (S := 87) (E := 165) (T := 4) ⟨YB.raw0,YB.rawA,YB.rawB,YB.rawC⟩ Try.underlying87 (by kernel_rfl) hi hz hsz (by decide) hzc hby (fun x y w h => by
  rw [run_callFunc_extern Try.func258 (by kernel_rfl) (by kernel_rfl) (by kernel_rfl) (e := Extern.SlicesOverlaps.overlaps #[87,87] #[4]) (by kernel_rfl),h]
  rfl)
theorem YB.ok (k : Nat) : Zf Try.prog 240 (YB.e k) := insert_ok tyok (ct := 87) (K := 17) (run := fun {β} => YB.run k) (by kernel_rfl) (enter_of Try.func240 (by kernel_rfl)) YB.raw (fun β aa K r h => by
 unfold YB.run at h
 split at h
 ·unfold YB.f YB.t at h
  split at h
  ·rename_i hz
   obtain ⟨hg,hz⟩ := Zp hz
   injection hz with hz
   subst hz
   exact ⟨_,_,_,rfl,hg,h⟩
  ·cases h
 ·cases h)
noncomputable def Yau.g {β : Type} (k : Nat) (a0 : LC) (aP : Int) (aQ : BA) (aR aS aU : Int) (aX : Bool) (aY : LD) (aZ : Int) (bA : BA) (bB : Int) (bC bD : LD) (bE : Int) (bF : BA) (bG : Int) (bH bI : LD) (K : LC → Option β) : Option β :=
 Yc.f k (C.immRows a0) aP aQ aR aS aU aX aY aZ bA bB bC bD bE bF bG bH bI (fun y213 y214 => bif y214 then (Yai.f k aP aQ aR aS aU aX aY aZ bA bB bC bD bE bF bG bH bI (fun y215 y216 y217 y218 y219 y220 y221 y222 y223 y224 y225 y226 y227 y228 y229 y230 y231 => Zd ((0 : Int) ≤ y213 ∧ y213 < (a0.length : Int)) (Zd (Int.toNat y213 < a0.length) (K (a0.modify (Int.toNat y213) fun c => Zs c 0 [.d (.int .i64 y215),.d (.str y216),.d (.int .i64 y217),.d (.int .i64 y218),.d (.int .i64 y219),.d (.bool y220),.own y221,.d (.int .i64 y222),.d (.str y223),.d (.int .i64 y224),.own y225,.own y226,.d (.int .i64 y227),.d (.str y228),.d (.int .i64 y229),.own y230,.own y231]))))) else (Yai.f k aP aQ aR aS aU aX aY aZ bA bB bC bD bE bF bG bH bI (fun y232 y233 y234 y235 y236 y237 y238 y239 y240 y241 y242 y243 y244 y245 y246 y247 y248 => YB.f k a0 y213 ([[.d (.int .i64 y232),.d (.str y233),.d (.int .i64 y234),.d (.int .i64 y235),.d (.int .i64 y236),.d (.bool y237),.own y238,.d (.int .i64 y239),.d (.str y240),.d (.int .i64 y241),.own y242,.own y243,.d (.int .i64 y244),.d (.str y245),.d (.int .i64 y246),.own y247,.own y248]] : LC) (fun y249 => K y249))))
noncomputable def Yau.t (k : Nat) (a0 : LC) (aP : Int) (aQ : BA) (aR aS aU : Int) (aX : Bool) (aY : LD) (aZ : Int) (bA : BA) (bB : Int) (bC bD : LD) (bE : Int) (bF : BA) (bG : Int) (bH bI : LD) : Option (LC) := Yau.g k a0 aP aQ aR aS aU aX aY aZ bA bB bC bD bE bF bG bH bI (fun z0 => some z0)
noncomputable def Yau.f {β : Type} (k : Nat) (a0 : LC) (aP : Int) (aQ : BA) (aR aS aU : Int) (aX : Bool) (aY : LD) (aZ : Int) (bA : BA) (bB : Int) (bC bD : LD) (bE : Int) (bF : BA) (bG : Int) (bH bI : LD) (K : LC → Option β) : Option β := bd1 (Yau.t k a0 aP aQ aR aS aU aX aY aZ bA bB bC bD bE bF bG bH bI) K
noncomputable def Yau.e (k : Nat) : Zj := ent [.own false 87 [.o],.agg [.n,.s,.n,.n,.n,.b,.l,.n,.s,.n,.l,.l,.n,.s,.n,.l,.l]] [1] [.o] [87] false (Yau.t k) true true
noncomputable def Yau.p (k : Nat) : Pro := ⟨Try.prog,[(239,Yc.e k),(204,Yai.e k),(240,YB.e k)],Zv [] false [] true,k⟩
theorem Yau.ok (k : Nat) : Zf Try.prog 196 (Yau.e k) := Zk (Yau.p k) mix tyok Try.func196 ⟨Yc.ok k,Yai.ok k,YB.ok k⟩ (by kernel_rfl) (fun a0 aP aQ aR aS aU aX aY aZ bA bB bC bD bE bF bG bH bI => by show _ = _; kernel_rfl)
noncomputable def Yap.g {β : Type} (k : Nat) (aB : Int) (aA : BA) (aC aD aI : Int) (bV : Bool) (bJ : LD) (bQ : Int) (bK : BA) (bR : Int) (bL bM : LD) (bT : Int) (bN : BA) (bU : Int) (bO bP : LD) (f0_0 : Int) (f1_0 : BA) (K : Bool → Option β) : Option β :=
 bif ((aB : Int) == f0_0) then (K (Zae aA f1_0)) else (K false)
noncomputable def Yap.t (k : Nat) (aB : Int) (aA : BA) (aC aD aI : Int) (bV : Bool) (bJ : LD) (bQ : Int) (bK : BA) (bR : Int) (bL bM : LD) (bT : Int) (bN : BA) (bU : Int) (bO bP : LD) (f0_0 : Int) (f1_0 : BA) : Option (Bool) := Yap.g k aB aA aC aD aI bV bJ bQ bK bR bL bM bT bN bU bO bP f0_0 f1_0 (fun z0 => some z0)
noncomputable def Yap.f {β : Type} (k : Nat) (aB : Int) (aA : BA) (aC aD aI : Int) (bV : Bool) (bJ : LD) (bQ : Int) (bK : BA) (bR : Int) (bL bM : LD) (bT : Int) (bN : BA) (bU : Int) (bO bP : LD) (f0_0 : Int) (f1_0 : BA) (K : Bool → Option β) : Option β := bd1 (Yap.t k aB aA aC aD aI bV bJ bQ bK bR bL bM bT bN bU bO bP f0_0 f1_0) K
noncomputable def Yap.e (k : Nat) : Zj := ent [.agg [.n,.s,.n,.n,.n,.b,.l,.n,.s,.n,.l,.l,.n,.s,.n,.l,.l],.ip [.n],.ip [.s]] [1] [.b] [4] false (Yap.t k)
noncomputable def Yap.p (k : Nat) : Pro := ⟨Try.prog,[],Zv [] false [],k⟩
theorem Yap.ok (k : Nat) : Zf Try.prog 242 (Yap.e k) := Zk (Yap.p k) mix tyok Try.func242 trivial (by kernel_rfl) (fun aB aA aC aD aI bV bJ bQ bK bR bL bM bT bN bU bO bP f0_0 f1_0 => by show _ = _; kernel_rfl)
noncomputable def Ye.l0 {β : Type} (k : Nat) (aE : LD) (aF : Int) (aG : BA) (aH : Int) (K L0 : Int → Option β) (v : Int) : Option β :=
 match v with
 | aJ => bif (decide ((aJ : Int) < aH)) then (atR aE aJ [.n,.s,.n,.n,.n,.b,.l,.n,.s,.n,.l,.l,.n,.s,.n,.l,.l] fun x57 x60 x63 x66 x69 x72 x75 x78 x81 x84 x87 x90 x93 x96 x99 x102 x105 => (Yap.f k x57 x60 x63 x66 x69 x72 x75 x78 x81 x84 x87 x90 x93 x96 x99 x102 x105 aF aG (fun y106 => bif y106 then (K aJ) else (L0 (IntKind.wrap .i64 (aJ + 1)))))) else (K (-1))
noncomputable def Ye.m {β : Type} (k : Nat) (a0 : LD) (a1_0_0 : Int) (a1_1_0 : BA) (K : Int → Option β) (F : (LD → Int → BA → Int → Int → Option β)) : Option β :=
 F a0 a1_0_0 a1_1_0 (a0.length : Int) (0)
noncomputable def Ye.g {β : Type} (k : Nat) (a0 : LD) (a1_0_0 : Int) (a1_1_0 : BA) (K : Int → Option β) : Option β :=
 ZA (Ye.l0 k a0 a1_0_0 a1_1_0 (a0.length : Int) K) k (0)
noncomputable def Ye.t (k : Nat) (a0 : LD) (a1_0_0 : Int) (a1_1_0 : BA) : Option (Int) := Ye.g k a0 a1_0_0 a1_1_0 (fun z0 => some z0)
noncomputable def Ye.f {β : Type} (k : Nat) (a0 : LD) (a1_0_0 : Int) (a1_1_0 : BA) (K : Int → Option β) : Option β := bd1 (Ye.t k a0 a1_0_0 a1_1_0) K
noncomputable def Ye.e (k : Nat) : Zj := ent [.d .l,.fn 242 [[.n],[.s]]] [1] [.n] [3] false (Ye.t k)
noncomputable def Ye.p (k : Nat) : Pro := ⟨Try.prog,[(242,Yap.e k)],Zv [(2,kp [0,1,7,8])] false [],k⟩
noncomputable def Ye.d (k : Nat) (a0 : LD) (a1_0_0 : Int) (a1_1_0 : BA) : Ex → St → Option (Int) := (Ye.p k).fin Try.f241 [.d (.sl a0),.d (.fn 242 [[.int .i64 a1_0_0],[.str a1_1_0]])] [1] [.n]
noncomputable def Ye.s0 (aE : LD) (aF : Int) (aG : BA) (aH v : Int) : St :=
 match v with
 | aJ => ZaA 19 [(0,.d false (.sl aE)),(1,.d false (.fn 242 [[.int .i64 aF],[.str aG]])),(7,.d true (.int .i64 aH)),(8,.d true (.int .i64 aJ))] []
noncomputable def Ye.r0 (k : Nat) (a0 : LD) (a1_0_0 : Int) (a1_1_0 : BA) (aE : LD) (aF : Int) (aG : BA) (aH : Int) (n : Nat) (v : Int) : Option (Int) := (Ye.p k).lp (ZI Try.f241) 2 [1,0,1,0] (Ye.d k a0 a1_0_0 a1_1_0) n (Ye.s0 aE aF aG aH v)
theorem Ye.l0_eq (k : Nat) (a0 : LD) (a1_0_0 : Int) (a1_1_0 : BA) (aE : LD) (aF : Int) (aG : BA) (aH : Int) : ∀ n v,Ye.r0 k a0 a1_0_0 a1_1_0 aE aF aG aH n v = ZA (Ye.l0 k aE aF aG aH (fun z0 => some z0)) n v :=
 Zz (Ye.s0 aE aF aG aH) _ fun L0 v => by kernel_rfl
theorem Ye.ok (k : Nat) : Zf Try.prog 241 (Ye.e k) := Zk (Ye.p k) mix tyok Try.func241 (Yap.ok k) (by kernel_rfl) (fun a0 a1_0_0 a1_1_0 => Eq.trans (b := Ye.m k a0 a1_0_0 a1_1_0 (fun z0 => some z0) (fun aE aF aG aH => Ye.r0 k a0 a1_0_0 a1_1_0 aE aF aG aH k)) (by kernel_rfl) (congrArg (Ye.m k a0 a1_0_0 a1_1_0 (fun z0 => some z0)) (funext fun aE => funext fun aF => funext fun aG => funext fun aH => funext fun v => Ye.l0_eq k a0 a1_0_0 a1_1_0 aE aF aG aH k v) :))
noncomputable def YaB.g {β : Type} (k : Nat) (a0 : LD) (a1 : Int) (a2 : BA) (K : Int → Option β) : Option β :=
 Ye.f k a0 a1 a2 (fun y107 => K y107)
noncomputable def YaB.t (k : Nat) (a0 : LD) (a1 : Int) (a2 : BA) : Option (Int) := YaB.g k a0 a1 a2 (fun z0 => some z0)
noncomputable def YaB.f {β : Type} (k : Nat) (a0 : LD) (a1 : Int) (a2 : BA) (K : Int → Option β) : Option β := bd1 (YaB.t k a0 a1 a2) K
noncomputable def YaB.e (k : Nat) : Zj := ent [.d .l,.d .n,.d .s] [1] [.n] [3] false (YaB.t k)
noncomputable def YaB.p (k : Nat) : Pro := ⟨Try.prog,[(241,Ye.e k)],Zv [] false [],k⟩
theorem YaB.ok (k : Nat) : Zf Try.prog 197 (YaB.e k) := Zk (YaB.p k) mix tyok Try.func197 (Ye.ok k) (by kernel_rfl) (fun a0 a1 a2 => by show _ = _; kernel_rfl)
noncomputable def YE.t (k : Nat) (xs : LC) (i j : Int) : Option LC := Zd (0 ≤ i ∧ i ≤ j ∧ j ≤ (xs.length : Int)) (some (xs.take i.toNat ++ xs.drop j.toNat))
noncomputable def YE.f {β : Type} (k : Nat) (xs : LC) (i j : Int) (K : LC → Option β) : Option β :=
 match YE.t k xs i j with
 | some z0 => K z0
 | none => none
noncomputable def YE.run (k : Nat) : {β : Type} → List A → (LC → Option β) → Option β := fun {β} l K =>
 match l with
 | [.own false [.own xs],.d (.int .i64 i),.d (.int .i64 j)] => YE.f k xs i j K
 | _ => none
noncomputable def YE.e (k : Nat) : Zj := { modes := [(.own,0)],rts := [87],al := false,run := fun _ _ => none,lib := some ⟨[true,false,false],87,YE.run k⟩ }
set_option maxHeartbeats 4000000 in
set_option maxRecDepth 1000000 in
theorem YE.raw0 (a : Option Addr) (n cap i : Nat) (w : World) (hi : i ≤ n) (hn : n ≤ cap) : Calls Try.prog 198 #[.slice a n cap,.int .i64 i,.int .i64 i] w fun ex w' => ex = .returned (.slice a n cap) ∧ w' = w := by
 go_enter Try.func198,Try.ntmps198
 go_wp2
 all_goals (go_ret; exact ⟨rfl,rfl⟩)
set_option maxHeartbeats 4000000 in
set_option maxRecDepth 1000000 in
theorem YE.raw2 (b cap n i j : Nat) (c : Array Value) (e : TypeId) (w : World) (hb : w.heap[b]? = some (.cells c e (0,0))) (hc : c.size = cap * 17) (hn : n ≤ cap) (hij : i < j) (hj : j ≤ n) (h1 : ∀ t,t < n * 17 → ∃ v,c[t]? = some v ∧ v.oneCell' = true) (i0 : TypeInfo) (z : Value) (hi : Try.prog.info? 165 = some i0) (hz : i0.zero = some z) (hs : i0.size = 17) (hzs : z.cells.size = 17) (hz1 : ∀ v ∈ z.cells.toList,v.oneCell' = true) :
  Calls Try.prog 198 #[.slice (some ⟨b,0,none⟩) n cap,.int .i64 i,.int .i64 j] w fun ex w' => ex = .returned (.slice (some ⟨b,0,none⟩) (n - (j - i)) cap) ∧ Only b w w' ∧ ∃ c',w'.heap[b]? = some (.cells c' e (0,0)) ∧ c'.size = c.size ∧ (∀ t,t < i * 17 → c'[t]? = c[t]?) ∧ ∀ t,t < (n - j) * 17 → c'[i * 17 + t]? = c[j * 17 + t]? := by
 have mixed : Try.prog.follows .mixedOrders = true := by kernel_rfl
 have hb0 : w.drew.heap[b]? = some (.cells c e (0,0)) := hb
 obtain ⟨A,news,hA,hlen,hsrc,hone,hget⟩ := tail_src hb0 hc hn hj h1
 obtain ⟨hb1,ho1⟩ := Zaa news (i * 17) hb0
 obtain ⟨W1,hW1⟩ : ∃ W1,W1 = w.drew.setCells b (0 + i * 17) news := ⟨_,rfl⟩
 rw [Nat.zero_add] at hW1
 rw [← hW1] at hb1 ho1
 have hle : i * 17 + news.length ≤ c.size := by rw [hlen,hc]; omega
 have hcl : ∀ ty,(Builtin.clear_ #[87] ty #[.slice (some ⟨b,(i + (n - j)) * 17,none⟩) (n - (i + (n - j))) (cap - (i + (n - j)))]).run Try.prog W1 = .ok (.tuple #[]) (W1.setCells b ((i + (n - j)) * 17) (Builtin.zeroCells z.cells (n - (i + (n - j)))).toList) :=
  fun ty => run_clear_cells Try.underlying87 hi hz hz1 (by omega) (fun t ht => by rw [Zat hb1]; rw [hzs] at ht; rw [Array.getElem?_eq_getElem (by rw [Zab,hc]; omega)]; rfl) (fun t ht => Zax hb1 _)
 have hW : Hold (W1 = w.drew.setCells b (i * 17) news) := ⟨hW1⟩
 obtain ⟨hb2,ho2⟩ := Zaa (Builtin.zeroCells z.cells (n - (i + (n - j)))).toList ((i + (n - j)) * 17) hb1
 have hfin : Hold (Only b w (W1.setCells b ((i + (n - j)) * 17) (Builtin.zeroCells z.cells (n - (i + (n - j)))).toList) ∧ ∃ c',(W1.setCells b ((i + (n - j)) * 17) (Builtin.zeroCells z.cells (n - (i + (n - j)))).toList).heap[b]? = some (.cells c' e (0,0)) ∧ c'.size = c.size ∧ (∀ t,t < i * 17 → c'[t]? = c[t]?) ∧ ∀ t,t < (n - j) * 17 → c'[i * 17 + t]? = c[j * 17 + t]?) := by
  have hzl : (Builtin.zeroCells z.cells (n - (i + (n - j)))).toList.length = (n - (i + (n - j))) * 17 := by simp [Zaj,hzs]
  refine ⟨((Only.drew b w).trans ho1).trans ho2,_,hb2,by rw [Zab,Zab],fun t ht => ?_,fun t ht => ?_⟩
  ·rw [Z6 _ _ _ _ (by rw [hzl,Zab,hc]; omega),if_neg (by omega),Z6 _ _ _ _ hle,if_neg (by omega)]
  ·rw [Z6 _ _ _ _ (by rw [hzl,Zab,hc]; omega),if_neg (by omega),Z6 _ _ _ _ hle,if_pos (by omega),Nat.add_sub_cancel_left,hget t ht]
 have hsp : ∀ t,t < news.length → (w.drew.cell? ⟨b,0 + i * 17 + t,none⟩).isSome = true ∧ w.drew.frozen? ⟨b,0 + i * 17 + t,none⟩ = false := fun t ht => ⟨by rw [Zat hb0,Array.getElem?_eq_getElem (by omega)]; rfl,Zax hb0 _⟩
 generalize (Builtin.zeroCells z.cells (n - (i + (n - j)))).toList = zl at hcl hfin
 clear hb hb0 ho1 hb1 hb2 ho2 hget hW1 h1 hle hc hz1 hzs hz
 have hic : i ≤ cap := by omega
 have hjc : j ≤ cap := by omega
 go_enter Try.func198,Try.ntmps198
 go_wp2_with fail
 go_region_law_o (refine step_append_room rfl (.tmp 22) (.tmp 25) 87 rfl 165 i0 17 Try.underlying87 hi hs b 0 i cap (by simp [Act.eval,Act.put]) A (n - j) (cap - j) news (by simp [Act.eval,Act.put]) hlen hsrc hone (by omega) hsp ?_; rw [Nat.zero_add,← hW.out])
 go_wp2
 go_ret
 refine ⟨?_,hfin.out⟩
 rw [show i + (n - j) = n - (j - i) from by omega]
 rfl
theorem YE.raw : DelRaw Try.prog 198 17 := ⟨fun a n cap i w h1 h2 => YE.raw0 a n cap i w h1 h2,fun b cap n i j c e w hb hc hn hij hj h1 => by
 obtain ⟨i0,z,hi,hz,hzs⟩ := Zbr (P := Try.prog) (t := 165) (by kernel_rfl)
 have hsz : i0.size = 17 := by
  have : Try.prog.cellsOf 165 = 17 := by kernel_rfl
  simpa [Program.cellsOf,hi] using this
 have hzc : z.cells.size = 17 := by
  have h1 : (ZaM Try.prog 165).length = 17 := by kernel_rfl
  rw [← h1]
  simpa using (Zaq hzs).2.2.1.symm
 exact YE.raw2 b cap n i j c e w hb hc hn hij hj h1 i0 z hi hz hsz hzc (Zaq hzs).2.1⟩
theorem YE.ok (k : Nat) : Zf Try.prog 198 (YE.e k) := delete_ok tyok (ct := 87) (K := 17) (run := fun {β} => YE.run k) (by kernel_rfl) (enter_of Try.func198 (by kernel_rfl)) YE.raw (fun β aa K r h => by
 unfold YE.run at h
 split at h
 ·unfold YE.f YE.t at h
  split at h
  ·rename_i hz
   obtain ⟨hg,hz⟩ := Zp hz
   injection hz with hz
   subst hz
   exact ⟨_,_,_,rfl,hg,h⟩
  ·cases h
 ·cases h)
noncomputable def YQ.g {β : Type} (k : Nat) (aB : Int) (aA : LC) (aP : Int) (aQ : Bool) (aR : Int) (aS : BA) (aU aX aY : Int) (aZ : Bool) (bA : LD) (bB : Int) (bC : BA) (bD : Int) (bE bF : LD) (bG : Int) (bH : BA) (bI : Int) (a1_17 a1_18 : LD) (K : Bool → Int → LC → Option β) : Option β :=
 bif ((aP : Int) != (IntKind.wrap .i64 (aB + 1))) then (K false aB aA) else (bif (!aQ) then (Yau.f k aA aR aS aU aX aY aZ bA bB bC bD bE bF bG bH bI a1_17 a1_18 (fun y250 => K true (IntKind.wrap .i64 (aB + 1)) y250)) else (YaB.f k (C.immRows aA) aR aS (fun y251 => bif (decide ((y251 : Int) < 0)) then (K false (IntKind.wrap .i64 (aB + 1)) aA) else (Zd ((0 : Int) ≤ y251 ∧ y251 < (aA.length : Int)) (ZaR aA (Int.toNat y251) fun c252 => ZaJ (c252.drop 2) fun c253 r => cD c253 fun d => dInt .i64 d fun x256 => bif ((x256 : Int) != aU) then (K false (IntKind.wrap .i64 (aB + 1)) aA) else (YE.f k aA y251 (IntKind.wrap .i64 (y251 + 1)) (fun y257 => K true (IntKind.wrap .i64 (aB + 1)) y257)))))))
noncomputable def YQ.t (k : Nat) (aB : Int) (aA : LC) (aP : Int) (aQ : Bool) (aR : Int) (aS : BA) (aU aX aY : Int) (aZ : Bool) (bA : LD) (bB : Int) (bC : BA) (bD : Int) (bE bF : LD) (bG : Int) (bH : BA) (bI : Int) (a1_17 a1_18 : LD) : Option (Bool × Int × LC) := YQ.g k aB aA aP aQ aR aS aU aX aY aZ bA bB bC bD bE bF bG bH bI a1_17 a1_18 (fun z0 z1 z2 => some (z0,z1,z2))
noncomputable def YQ.f {β : Type} (k : Nat) (aB : Int) (aA : LC) (aP : Int) (aQ : Bool) (aR : Int) (aS : BA) (aU aX aY : Int) (aZ : Bool) (bA : LD) (bB : Int) (bC : BA) (bD : Int) (bE bF : LD) (bG : Int) (bH : BA) (bI : Int) (a1_17 a1_18 : LD) (K : Bool → Int → LC → Option β) : Option β := bd3 (YQ.t k aB aA aP aQ aR aS aU aX aY aZ bA bB bC bD bE bF bG bH bI a1_17 a1_18) K
noncomputable def YQ.e (k : Nat) : Zj := ent [.box 89 [.n,.o],.agg [.n,.b,.n,.s,.n,.n,.n,.b,.l,.n,.s,.n,.l,.l,.n,.s,.n,.l,.l]] [1] [.b,.n,.o] [4] false (YQ.t k) false true
noncomputable def YQ.p (k : Nat) : Pro := ⟨Try.prog,[(196,Yau.e k),(197,YaB.e k),(198,YE.e k)],Zv [] false [] true,k⟩
theorem YQ.ok (k : Nat) : Zf Try.prog 134 (YQ.e k) := Zk (YQ.p k) mix tyok Try.func134 ⟨Yau.ok k,YaB.ok k,YE.ok k⟩ (by kernel_rfl) (fun aB aA aP aQ aR aS aU aX aY aZ bA bB bC bD bE bF bG bH bI a1_17 a1_18 => by show _ = _; kernel_rfl)
noncomputable def YL.l0 {β : Type} (k : Nat) (aE : LD) (aF aH : Int) (aJ : LD) (aK : Int) (K : Int → LC → Bool → Option β) (L0 : (Int × Int × LC) → Option β) (v : Int × Int × LC) : Option β :=
 match v with
 | (aG,aL,aM) => bif (decide ((aG : Int) < aF)) then (atR aE aG [.n,.b,.n,.s,.n,.n,.n,.b,.l,.n,.s,.n,.l,.l,.n,.s,.n,.l,.l] fun x293 x296 x299 x302 x305 x308 x311 x314 x317 x320 x323 x326 x329 x332 x335 x338 x341 x344 x347 => (YQ.f k aL aM x293 x296 x299 x302 x305 x308 x311 x314 x317 x320 x323 x326 x329 x332 x335 x338 x341 x344 x347 (fun y348 y349 y350 => bif (!y348) then (YV.f k aH aJ (fun y351 y352 => K y351 y352 false)) else (Yaa.f k y349 (C.immRows y350) (fun y353 => bif (!y353) then (YV.f k aH aJ (fun y354 y355 => K y354 y355 false)) else (L0 (IntKind.wrap .i64 (aG + 1),y349,y350))))))) else (K aL aM true)
noncomputable def YL.m {β : Type} (k : Nat) (aB : Int) (aA a1 : LD) (K : Int → LC → Bool → Option β) (F : (LD → Int → Int → LD → Int → (Int × Int × LC) → Option β)) : Option β :=
 Yaa.f k aB aA (fun y219 => bif (!y219) then (YV.f k aB aA (fun y220 y221 => K y220 y221 false)) else (YV.f k aB aA (fun y222 y223 => F a1 (a1.length : Int) aB aA 0 (0,y222,y223))))
noncomputable def YL.g {β : Type} (k : Nat) (aB : Int) (aA a1 : LD) (K : Int → LC → Bool → Option β) : Option β :=
 Yaa.f k aB aA (fun y219 => bif (!y219) then (YV.f k aB aA (fun y220 y221 => K y220 y221 false)) else (YV.f k aB aA (fun y222 y223 => ZA (YL.l0 k a1 (a1.length : Int) aB aA 0 K) k (0,y222,y223))))
noncomputable def YL.t (k : Nat) (aB : Int) (aA a1 : LD) : Option (Int × LC × Bool) := YL.g k aB aA a1 (fun z0 z1 z2 => some (z0,z1,z2))
noncomputable def YL.f {β : Type} (k : Nat) (aB : Int) (aA a1 : LD) (K : Int → LC → Bool → Option β) : Option β := bd3 (YL.t k aB aA a1) K
noncomputable def YL.e (k : Nat) : Zj := ent [.agg [.n,.l],.d .l] [2,1] [.n,.o,.b] [89,4] false (YL.t k)
noncomputable def YL.p (k : Nat) : Pro := ⟨Try.prog,[(56,Yaa.e k),(133,YV.e k),(134,YQ.e k)],Zv [(5,kp [2,4,6,16,17,18])] false [],k⟩
noncomputable def YL.d (k : Nat) (aB : Int) (aA a1 : LD) : Ex → St → Option (Int × LC × Bool) := (YL.p k).fin Try.f49 [.agg [.int .i64 aB,.sl aA],.d (.sl a1)] [2,1] [.n,.o,.b]
noncomputable def YL.s0 (aE : LD) (aF aH : Int) (aJ : LD) (aK : Int) (v : Int × Int × LC) : St :=
 match v with
 | (aG,aL,aM) => ZaA 34 [(2,.bp 0 0),(4,.bp 1 0),(6,.bp 2 0),(16,.d false (.sl aE)),(17,.d true (.int .i64 aF)),(18,.d true (.int .i64 aG))] [.box none 89 [.d false (.int .i64 aH),.d false (.sl aJ)],.box none 89 [.d true (.int .i64 aK),.nil],.box none 89 [.d true (.int .i64 aL),.row 3],.row none true 87 aM]
noncomputable def YL.r0 (k : Nat) (aB : Int) (aA a1 aE : LD) (aF aH : Int) (aJ : LD) (aK : Int) (n : Nat) (v : Int × Int × LC) : Option (Int × LC × Bool) := (YL.p k).lp (ZI Try.f49) 5 [1,1,1,0,1,0] (YL.d k aB aA a1) n (YL.s0 aE aF aH aJ aK v)
theorem YL.l0_eq (k : Nat) (aB : Int) (aA a1 aE : LD) (aF aH : Int) (aJ : LD) (aK : Int) : ∀ n v,YL.r0 k aB aA a1 aE aF aH aJ aK n v = ZA (YL.l0 k aE aF aH aJ aK (fun z0 z1 z2 => some (z0,z1,z2))) n v :=
 Zz (YL.s0 aE aF aH aJ aK) _ fun L0 v => by obtain ⟨aG,aL,aM⟩ := v; kernel_rfl
theorem YL.ok (k : Nat) : Zf Try.prog 49 (YL.e k) := Zk (YL.p k) mix tyok Try.func49 ⟨Yaa.ok k,YV.ok k,YQ.ok k⟩ (by kernel_rfl) (fun aB aA a1 => Eq.trans (b := YL.m k aB aA a1 (fun z0 z1 z2 => some (z0,z1,z2)) (fun aE aF aH aJ aK => YL.r0 k aB aA a1 aE aF aH aJ aK k)) (by kernel_rfl) (congrArg (YL.m k aB aA a1 (fun z0 z1 z2 => some (z0,z1,z2))) (funext fun aE => funext fun aF => funext fun aH => funext fun aJ => funext fun aK => funext fun v => YL.l0_eq k aB aA a1 aE aF aH aJ aK k v) :))
noncomputable def Y1.g {β : Type} (k : Nat) (aB : Int) (aA : LD) (K : Int → LC → Option β) : Option β :=
 Yw.f k aA (fun y1 => K aB y1)
noncomputable def Y1.t (k : Nat) (aB : Int) (aA : LD) : Option (Int × LC) := Y1.g k aB aA (fun z0 z1 => some (z0,z1))
noncomputable def Y1.f {β : Type} (k : Nat) (aB : Int) (aA : LD) (K : Int → LC → Option β) : Option β := bd2 (Y1.t k aB aA) K
noncomputable def Y1.e (k : Nat) : Zj := ent [.agg [.n,.l]] [2] [.n,.o] [89] false (Y1.t k)
noncomputable def Y1.p (k : Nat) : Pro := ⟨Try.prog,[(199,Yw.e k)],Zv [] false [],k⟩
theorem Y1.ok (k : Nat) : Zf Try.prog 135 (Y1.e k) := Zk (Y1.p k) mix tyok Try.func135 (Yw.ok k) (by kernel_rfl) (fun aB aA => by show _ = _; kernel_rfl)
noncomputable def Yo.g {β : Type} (k : Nat) (aB : Int) (aA : LD) (K : Bool → Option β) : Option β :=
 YA.f k aB 0 1000000 (fun y1 => bif y1 then (Yj.f k aA aB 1000001 (fun y2 => K y2)) else (K false))
noncomputable def Yo.t (k : Nat) (aB : Int) (aA : LD) : Option (Bool) := Yo.g k aB aA (fun z0 => some z0)
noncomputable def Yo.f {β : Type} (k : Nat) (aB : Int) (aA : LD) (K : Bool → Option β) : Option β := bd1 (Yo.t k aB aA) K
noncomputable def Yo.e (k : Nat) : Zj := ent [.agg [.n,.l]] [1] [.b] [4] false (Yo.t k)
noncomputable def Yo.p (k : Nat) : Pro := ⟨Try.prog,[(79,YA.e k),(200,Yj.e k)],Zv [] false [],k⟩
theorem Yo.ok (k : Nat) : Zf Try.prog 136 (Yo.e k) := Zk (Yo.p k) mix tyok Try.func136 ⟨YA.ok k,Yj.ok k⟩ (by kernel_rfl) (fun aB aA => by show _ = _; kernel_rfl)
set_option maxRecDepth 100000 in
noncomputable def YZ.l0 {β : Type} (k : Nat) (aE : LD) (aG : Int) (aH : LD) (aJ : Int) (K : Int → LD → Bool → Option β) (L0 : (Int × Int × LD) → Option β) (v : Int × Int × LD) : Option β :=
 match v with
 | (aF,aK,aL) => bif (decide ((aF : Int) < (aE.length : Int))) then (atR aE aF [.n,.b,.n,.s,.n,.n,.n,.b,.l,.n,.s,.n,.l,.l,.n,.s,.n,.l,.l] fun x486 x489 x492 x495 x498 x501 x504 x507 x510 x513 x516 x519 x522 x525 x528 x531 x534 x537 x540 => (YF.f k aL x492 x495 (fun y541 => atR aE aF [.n,.b,.n,.s,.n,.n,.n,.b,.l,.n,.s,.n,.l,.l,.n,.s,.n,.l,.l] fun x545 x548 x551 x554 x557 x560 x563 x566 x569 x572 x575 x578 x581 x584 x587 x590 x593 x596 x599 => (bif ((x545 : Int) != (IntKind.wrap .i64 (aK + 1))) then (Y1.f k aG aH (fun y600 y601 => K y600 (C.immRows y601) false)) else (atR aE aF [.n,.b,.n,.s,.n,.n,.n,.b,.l,.n,.s,.n,.l,.l,.n,.s,.n,.l,.l] fun x605 x608 x611 x614 x617 x620 x623 x626 x629 x632 x635 x638 x641 x644 x647 x650 x653 x656 x659 => let J7 := ((aL.drop (Int.toNat (IntKind.wrap .i64 (y541 + 1) : Int))).take (Int.toNat (aL.length : Int) - Int.toNat (IntKind.wrap .i64 (y541 + 1) : Int))); let J3 := (J7.map (·.map C.d)); let J12 := ((aL.drop (Int.toNat (0 : Int))).take (Int.toNat (y541 : Int) - Int.toNat (0 : Int))); let J9 := (J12.map (·.map C.d)); let J8 := (([] : LC) ++ J9); let J0 := (J8.length + J3.length ≤ Z8); let J2 := (J8 ++ J3); let J1 := (C.immRows J2); let J4 := (0 ≤ (IntKind.wrap .i64 (y541 + 1) : Int) ∧ (IntKind.wrap .i64 (y541 + 1) : Int) ≤ (aL.length : Int) ∧ (aL.length : Int) ≤ (aL.length : Int) ∧ Zbk 17 aL); let J5 := (Zbk 17 J7); let J6 := (([] : LC).length + J9.length ≤ Z8); let J10 := (Zbk 17 J12); let J11 := (0 ≤ (0 : Int) ∧ (0 : Int) ≤ (y541 : Int) ∧ (y541 : Int) ≤ (aL.length : Int) ∧ Zbk 17 aL); (bif x608 then (bif (decide ((y541 : Int) < 0)) then (Y1.f k aG aH (fun y660 y661 => K y660 (C.immRows y661) false)) else (atR aL y541 [.n,.s,.n,.n,.n,.b,.l,.n,.s,.n,.l,.l,.n,.s,.n,.l,.l] fun x665 x668 x671 x674 x677 x680 x683 x686 x689 x692 x695 x698 x701 x704 x707 x710 x713 => (bif ((x671 : Int) != x498) then (Y1.f k aG aH (fun y714 y715 => K y714 (C.immRows y715) false)) else (atR aE aF [.n,.b,.n,.s,.n,.n,.n,.b,.l,.n,.s,.n,.l,.l,.n,.s,.n,.l,.l] fun x719 x722 x725 x728 x731 x734 x737 x740 x743 x746 x749 x752 x755 x758 x761 x764 x767 x770 x773 => (atR aE aF [.n,.b,.n,.s,.n,.n,.n,.b,.l,.n,.s,.n,.l,.l,.n,.s,.n,.l,.l] fun x777 x780 x783 x786 x789 x792 x795 x798 x801 x804 x807 x810 x813 x816 x819 x822 x825 x828 x831 => (bif x780 then (Zd J11 (Zd J10 (Zd J6 (Zd J4 (Zd J5 (Zd J0 (Yo.f k x719 J1 (fun y832 => bif (!y832) then (Y1.f k aG aH (fun y833 y834 => K y833 (C.immRows y834) false)) else (L0 (IntKind.wrap .i64 (aF + 1),x719,C.immRows J2)))))))))) else (YM.f k aL x492 x495 x498 x501 x504 x507 x510 x513 x516 x519 x522 x525 x528 x531 x534 x537 x540 (fun y835 => Yo.f k x719 (C.immRows y835) (fun y836 => bif (!y836) then (Y1.f k aG aH (fun y837 y838 => K y837 (C.immRows y838) false)) else (L0 (IntKind.wrap .i64 (aF + 1),x719,C.immRows y835))))))))))) else (atR aE aF [.n,.b,.n,.s,.n,.n,.n,.b,.l,.n,.s,.n,.l,.l,.n,.s,.n,.l,.l] fun x842 x845 x848 x851 x854 x857 x860 x863 x866 x869 x872 x875 x878 x881 x884 x887 x890 x893 x896 => (atR aE aF [.n,.b,.n,.s,.n,.n,.n,.b,.l,.n,.s,.n,.l,.l,.n,.s,.n,.l,.l] fun x900 x903 x906 x909 x912 x915 x918 x921 x924 x927 x930 x933 x936 x939 x942 x945 x948 x951 x954 => (bif x903 then (Zd J11 (Zd J10 (Zd J6 (Zd J4 (Zd J5 (Zd J0 (Yo.f k x842 J1 (fun y955 => bif (!y955) then (Y1.f k aG aH (fun y956 y957 => K y956 (C.immRows y957) false)) else (L0 (IntKind.wrap .i64 (aF + 1),x842,C.immRows J2)))))))))) else (YM.f k aL x492 x495 x498 x501 x504 x507 x510 x513 x516 x519 x522 x525 x528 x531 x534 x537 x540 (fun y958 => Yo.f k x842 (C.immRows y958) (fun y959 => bif (!y959) then (Y1.f k aG aH (fun y960 y961 => K y960 (C.immRows y961) false)) else (L0 (IntKind.wrap .i64 (aF + 1),x842,C.immRows y958)))))))))))))) else (K aK aL true)
noncomputable def YZ.m {β : Type} (k : Nat) (aB : Int) (aA a1 : LD) (K : Int → LD → Bool → Option β) (F : (LD → Int → LD → Int → (Int × Int × LD) → Option β)) : Option β :=
 Y1.f k aB aA (fun y1 y2 => Yo.f k aB aA (fun y3 => bif (!y3) then (K y1 (C.immRows y2) false) else (F a1 aB aA 0 (0,y1,C.immRows y2))))
noncomputable def YZ.g {β : Type} (k : Nat) (aB : Int) (aA a1 : LD) (K : Int → LD → Bool → Option β) : Option β :=
 Y1.f k aB aA (fun y1 y2 => Yo.f k aB aA (fun y3 => bif (!y3) then (K y1 (C.immRows y2) false) else (ZA (YZ.l0 k a1 aB aA 0 K) k (0,y1,C.immRows y2))))
noncomputable def YZ.t (k : Nat) (aB : Int) (aA a1 : LD) : Option (Int × LD × Bool) := YZ.g k aB aA a1 (fun z0 z1 z2 => some (z0,z1,z2))
noncomputable def YZ.f {β : Type} (k : Nat) (aB : Int) (aA a1 : LD) (K : Int → LD → Bool → Option β) : Option β := bd3 (YZ.t k aB aA a1) K
noncomputable def YZ.e (k : Nat) : Zj := ent [.agg [.n,.l],.d .l] [2,1] [.n,.l,.b] [89,4] true (YZ.t k)
noncomputable def YZ.p (k : Nat) : Pro := ⟨Try.prog,[(135,Y1.e k),(136,Yo.e k),(137,YF.e k),(138,YM.e k)],Zv [(5,kp [1,2,4,6,7] [] [(6,0,.dat false),(6,1,.dat false)])] true [[false,true],[false]],k⟩
noncomputable def YZ.d (k : Nat) (aB : Int) (aA a1 : LD) : Ex → St → Option (Int × LD × Bool) := (YZ.p k).fin Try.f50 [.agg [.int .i64 aB,.sl aA],.d (.sl a1)] [2,1] [.n,.l,.b]
noncomputable def YZ.s0 (aE : LD) (aG : Int) (aH : LD) (aJ : Int) (v : Int × Int × LD) : St :=
 match v with
 | (aF,aK,aL) => ZaA 102 [(1,.d false (.sl aE)),(2,.bp 0 0),(4,.bp 1 0),(6,.bp 2 0),(7,.d true (.int .i64 aF))] [.box none 89 [.d false (.int .i64 aG),.d false (.sl aH)],.box none 89 [.d true (.int .i64 aJ),.nil],.box none 89 [.d false (.int .i64 aK),.d false (.sl aL)]]
noncomputable def YZ.r0 (k : Nat) (aB : Int) (aA a1 aE : LD) (aG : Int) (aH : LD) (aJ : Int) (n : Nat) (v : Int × Int × LD) : Option (Int × LD × Bool) := (YZ.p k).lp (ZI Try.f50) 5 [1,1,1,0,1,0] (YZ.d k aB aA a1) n (YZ.s0 aE aG aH aJ v)
theorem YZ.l0_eq (k : Nat) (aB : Int) (aA a1 aE : LD) (aG : Int) (aH : LD) (aJ : Int) : ∀ n v,YZ.r0 k aB aA a1 aE aG aH aJ n v = ZA (YZ.l0 k aE aG aH aJ (fun z0 z1 z2 => some (z0,z1,z2))) n v :=
 Zz (YZ.s0 aE aG aH aJ) _ fun L0 v => by obtain ⟨aF,aK,aL⟩ := v; kernel_rfl
theorem YZ.ok (k : Nat) : Zf Try.prog 50 (YZ.e k) := Zk (YZ.p k) mix tyok Try.func50 ⟨Y1.ok k,Yo.ok k,YF.ok k,YM.ok k⟩ (by kernel_rfl) (fun aB aA a1 => Eq.trans (b := YZ.m k aB aA a1 (fun z0 z1 z2 => some (z0,z1,z2)) (fun aE aG aH aJ => YZ.r0 k aB aA a1 aE aG aH aJ k)) (by kernel_rfl) (congrArg (YZ.m k aB aA a1 (fun z0 z1 z2 => some (z0,z1,z2))) (funext fun aE => funext fun aG => funext fun aH => funext fun aJ => funext fun v => YZ.l0_eq k aB aA a1 aE aG aH aJ k v) :))
noncomputable def YaH.g {β : Type} (k : Nat) (a0 : LD) (a1 : Int) (K : Int → Option β) : Option β :=
 bif (decide ((a1 : Int) < (a0.length : Int))) then (atR a0 a1 [.i .u8] fun x4 => (K (IntKind.wrap .i64 x4))) else (Zd ((256 : Int) ≠ 0) (K (Int.tmod (IntKind.wrap .i64 ((IntKind.wrap .i64 (a1 * 31)) + (IntKind.wrap .i64 ((a0.length : Int) * 7)))) 256)))
noncomputable def YaH.t (k : Nat) (a0 : LD) (a1 : Int) : Option (Int) := YaH.g k a0 a1 (fun z0 => some z0)
noncomputable def YaH.f {β : Type} (k : Nat) (a0 : LD) (a1 : Int) (K : Int → Option β) : Option β := bd1 (YaH.t k a0 a1) K
noncomputable def YaH.e (k : Nat) : Zj := ent [.d .l,.d .n] [1] [.n] [3] false (YaH.t k)
noncomputable def YaH.p (k : Nat) : Pro := ⟨Try.prog,[],Zv [] false [],k⟩
theorem YaH.ok (k : Nat) : Zf Try.prog 51 (YaH.e k) := Zk (YaH.p k) mix tyok Try.func51 trivial (by kernel_rfl) (fun a0 a1 => by show _ = _; kernel_rfl)
set_option maxRecDepth 100000 in
noncomputable def Yaw.g {β : Type} (k : Nat) (a0 : LD) (K : Bool → Option β) : Option β :=
 YaJ.f k a0 (fun y1 => bif y1 then (K true) else (Yad.f k a0 (fun y34 y35 y36 => YL.f k y34 (C.immRows y35) (C.immRows y36) (fun y356 y357 y358 => YZ.f k y34 (C.immRows y35) (C.immRows y36) (fun y962 y963 y964 => bif (!(y358 == y964)) then (K false) else (let J28 := (((IntKind.wrap .i64 (((C.immRows y36).length : Int) - 1)) : Int) ≠ 0); bif y358 then (bif ((y356 : Int) != (IntKind.wrap .i64 (y34 + ((C.immRows y36).length : Int)))) then (K false) else (bif (!y358) then (bif ((y356 : Int) != y34) then (K false) else (bif (!y358) then (K true) else (bif (decide ((((C.immRows y36).length : Int) : Int) < 2)) then (K true) else (YaH.f k a0 2 (fun y965 => let J20 := (IntKind.wrap .i64 ((Int.tmod y965 (IntKind.wrap .i64 (((C.immRows y36).length : Int) - 1))) + 1) : Int); let J4 := (((C.immRows y36).drop (Int.toNat J20)).take (Int.toNat ((C.immRows y36).length : Int) - Int.toNat J20)); let J0 := (J4.map (·.map C.d)); let J24 := (Int.tmod y965 (IntKind.wrap .i64 (((C.immRows y36).length : Int) - 1)) : Int); let J16 := (((C.immRows y36).drop (Int.toNat (0 : Int))).take (Int.toNat J24 - Int.toNat (0 : Int))); let J12 := (J16.map (·.map C.d)); let J8 := (([] : LC) ++ J12); Zd J28 (Zd (0 ≤ (0 : Int) ∧ (0 : Int) ≤ J24 ∧ J24 ≤ ((C.immRows y36).length : Int) ∧ Zbk 19 (C.immRows y36)) (Zd (Zbk 19 J16) (Zd (([] : LC).length + J12.length ≤ Z8) (Zd (0 ≤ J20 ∧ J20 ≤ ((C.immRows y36).length : Int) ∧ ((C.immRows y36).length : Int) ≤ ((C.immRows y36).length : Int) ∧ Zbk 19 (C.immRows y36)) (Zd (Zbk 19 J4) (Zd (J8.length + J0.length ≤ Z8) (YL.f k y34 (C.immRows y35) (C.immRows (J8 ++ J0)) (fun y966 y967 y968 => K (!y968)))))))))))))) else (bif (!y358) then (K true) else (bif (decide ((((C.immRows y36).length : Int) : Int) < 2)) then (K true) else (YaH.f k a0 2 (fun y969 => let J21 := (IntKind.wrap .i64 ((Int.tmod y969 (IntKind.wrap .i64 (((C.immRows y36).length : Int) - 1))) + 1) : Int); let J5 := (((C.immRows y36).drop (Int.toNat J21)).take (Int.toNat ((C.immRows y36).length : Int) - Int.toNat J21)); let J1 := (J5.map (·.map C.d)); let J25 := (Int.tmod y969 (IntKind.wrap .i64 (((C.immRows y36).length : Int) - 1)) : Int); let J17 := (((C.immRows y36).drop (Int.toNat (0 : Int))).take (Int.toNat J25 - Int.toNat (0 : Int))); let J13 := (J17.map (·.map C.d)); let J9 := (([] : LC) ++ J13); Zd J28 (Zd (0 ≤ (0 : Int) ∧ (0 : Int) ≤ J25 ∧ J25 ≤ ((C.immRows y36).length : Int) ∧ Zbk 19 (C.immRows y36)) (Zd (Zbk 19 J17) (Zd (([] : LC).length + J13.length ≤ Z8) (Zd (0 ≤ J21 ∧ J21 ≤ ((C.immRows y36).length : Int) ∧ ((C.immRows y36).length : Int) ≤ ((C.immRows y36).length : Int) ∧ Zbk 19 (C.immRows y36)) (Zd (Zbk 19 J5) (Zd (J9.length + J1.length ≤ Z8) (YL.f k y34 (C.immRows y35) (C.immRows (J9 ++ J1)) (fun y970 y971 y972 => K (!y972))))))))))))))) else (bif (!y358) then (bif ((y356 : Int) != y34) then (K false) else (bif (!y358) then (K true) else (bif (decide ((((C.immRows y36).length : Int) : Int) < 2)) then (K true) else (YaH.f k a0 2 (fun y973 => let J22 := (IntKind.wrap .i64 ((Int.tmod y973 (IntKind.wrap .i64 (((C.immRows y36).length : Int) - 1))) + 1) : Int); let J6 := (((C.immRows y36).drop (Int.toNat J22)).take (Int.toNat ((C.immRows y36).length : Int) - Int.toNat J22)); let J2 := (J6.map (·.map C.d)); let J26 := (Int.tmod y973 (IntKind.wrap .i64 (((C.immRows y36).length : Int) - 1)) : Int); let J18 := (((C.immRows y36).drop (Int.toNat (0 : Int))).take (Int.toNat J26 - Int.toNat (0 : Int))); let J14 := (J18.map (·.map C.d)); let J10 := (([] : LC) ++ J14); Zd J28 (Zd (0 ≤ (0 : Int) ∧ (0 : Int) ≤ J26 ∧ J26 ≤ ((C.immRows y36).length : Int) ∧ Zbk 19 (C.immRows y36)) (Zd (Zbk 19 J18) (Zd (([] : LC).length + J14.length ≤ Z8) (Zd (0 ≤ J22 ∧ J22 ≤ ((C.immRows y36).length : Int) ∧ ((C.immRows y36).length : Int) ≤ ((C.immRows y36).length : Int) ∧ Zbk 19 (C.immRows y36)) (Zd (Zbk 19 J6) (Zd (J10.length + J2.length ≤ Z8) (YL.f k y34 (C.immRows y35) (C.immRows (J10 ++ J2)) (fun y974 y975 y976 => K (!y976)))))))))))))) else (bif (!y358) then (K true) else (bif (decide ((((C.immRows y36).length : Int) : Int) < 2)) then (K true) else (YaH.f k a0 2 (fun y977 => let J23 := (IntKind.wrap .i64 ((Int.tmod y977 (IntKind.wrap .i64 (((C.immRows y36).length : Int) - 1))) + 1) : Int); let J7 := (((C.immRows y36).drop (Int.toNat J23)).take (Int.toNat ((C.immRows y36).length : Int) - Int.toNat J23)); let J3 := (J7.map (·.map C.d)); let J27 := (Int.tmod y977 (IntKind.wrap .i64 (((C.immRows y36).length : Int) - 1)) : Int); let J19 := (((C.immRows y36).drop (Int.toNat (0 : Int))).take (Int.toNat J27 - Int.toNat (0 : Int))); let J15 := (J19.map (·.map C.d)); let J11 := (([] : LC) ++ J15); Zd J28 (Zd (0 ≤ (0 : Int) ∧ (0 : Int) ≤ J27 ∧ J27 ≤ ((C.immRows y36).length : Int) ∧ Zbk 19 (C.immRows y36)) (Zd (Zbk 19 J19) (Zd (([] : LC).length + J15.length ≤ Z8) (Zd (0 ≤ J23 ∧ J23 ≤ ((C.immRows y36).length : Int) ∧ ((C.immRows y36).length : Int) ≤ ((C.immRows y36).length : Int) ∧ Zbk 19 (C.immRows y36)) (Zd (Zbk 19 J7) (Zd (J11.length + J3.length ≤ Z8) (YL.f k y34 (C.immRows y35) (C.immRows (J11 ++ J3)) (fun y978 y979 y980 => K (!y980))))))))))))))))))))
noncomputable def Yaw.t (k : Nat) (a0 : LD) : Option (Bool) := Yaw.g k a0 (fun z0 => some z0)
noncomputable def Yaw.e (k : Nat) : Zj := ent [.d .l] [1] [.b] [4] false (Yaw.t k)
noncomputable def Yaw.p (k : Nat) : Pro := ⟨Try.prog,[(11,YaJ.e k),(48,Yad.e k),(49,YL.e k),(50,YZ.e k),(51,YaH.e k)],Zv [] false [],k⟩
theorem Yaw.ok (k : Nat) : Zf Try.prog 9 (Yaw.e k) := Zk (Yaw.p k) mix tyok Try.func9 ⟨YaJ.ok k,Yad.ok k,YL.ok k,YZ.ok k,YaH.ok k⟩ (by kernel_rfl) (fun a0 => by show _ = _; kernel_rfl)
end Go.Proofs.Ytpgplbalenfgfaa
