/- Printed: the functions that FnExactCatchUp reaches,read by the evaluator,each with its contract. -/
import Derived.Test.YtlobhlnahhjpjaaGreatXECatchUp0
import Derived.KernelRfl
set_option linter.unusedVariables false
set_option linter.unusedSimpArgs false
namespace Go.Proofs.YtlobhlnahhjpjaaGreat
open Go Go.T Go.Proofs
noncomputable def YG.t (k : Nat) (xs : LC) (i : Int) (ys : LC) : Option LC := Zd (0 ≤ i ∧ i ≤ (xs.length : Int) ∧ xs.length + ys.length ≤ Z8) (some (xs.take i.toNat ++ ys ++ xs.drop i.toNat))
noncomputable def YG.f {β : Type} (k : Nat) (xs : LC) (i : Int) (ys : LC) (K : LC → Option β) : Option β :=
 match YG.t k xs i ys with
 | some z0 => K z0
 | none => none
noncomputable def YG.run (k : Nat) : {β : Type} → List A → (LC → Option β) → Option β := fun {β} l K =>
 match l with
 | [.own false [.own xs],.d (.int .i64 i),.own false [.own ys]] => YG.f k xs i ys K
 | _ => none
noncomputable def YG.e (k : Nat) : Zj := { modes := [(.own,0)],rts := [30],al := false,run := fun _ _ => none,lib := some ⟨[true,false,true],30,YG.run k⟩ }
set_option maxHeartbeats 4000000 in
set_option maxRecDepth 1000000 in
theorem YG.raw0 (a : Option Addr) (n cap i : Nat) (a' : Option Addr) (cap' : Nat) (w : World) (hi : i ≤ n) (hn : n ≤ cap) : Calls Tryz.prog 154 #[.slice a n cap,.int .i64 i,.slice a' 0 cap'] w fun ex w' => ex = .returned (.slice a n cap) ∧ w' = w := by
 go_enter Tryz.func154,Tryz.ntmps154
 go_wp2
 all_goals (go_ret; exact ⟨rfl,rfl⟩)
set_option maxHeartbeats 4000000 in
set_option maxRecDepth 1000000 in
theorem YG.rawA (a : Option Addr) (n cap m vb vcap : Nat) (w W' : World) (R : Value) (hm : 0 < m) (hn : n ≤ cap) (hrun : ∀ ty,(Builtin.append_ #[30,30] ty #[.slice a n cap,.slice (some ⟨vb,0,none⟩) m vcap]).run Tryz.prog w = .ok R W') :
  Calls Tryz.prog 154 #[.slice a n cap,.int .i64 n,.slice (some ⟨vb,0,none⟩) m vcap] w fun ex w' => ex = .returned R ∧ w' = W' := by
 have mixed : Tryz.prog.follows .mixedOrders = true := by kernel_rfl
 have hz1 : ¬ ((m : Int) = 0) := by omega
 go_enter Tryz.func154,Tryz.ntmps154
 cases a with
 | none =>
  go_wp2_with (at_builtin; refine Lib.wpList_append_run _ rfl _ _ _ _ rfl _ _ rfl rfl _ _ (hrun _) ?_)
  all_goals (go_ret; exact ⟨rfl,rfl⟩)
 | some a =>
  obtain ⟨ab,ao,asp⟩ := a
  go_wp2_with (at_builtin; refine Lib.wpList_append_run _ rfl _ _ _ _ rfl _ _ rfl rfl _ _ (hrun _) ?_)
  all_goals (go_ret; exact ⟨rfl,rfl⟩)
set_option maxHeartbeats 4000000 in
set_option maxRecDepth 1000000 in
theorem YG.rawB (b n cap i vb m vcap : Nat) (cd vs : List Value) (w : World) (hi : i < n) (hm : 0 < m) (hroom : n + m ≤ cap) (hnm : n + m ≤ 9223372036854775807)
  (hov : ∀ lb cb,(callFunc 179 #[.slice (some ⟨vb,0,none⟩) m vcap,.slice (some ⟨b,(i + m) * 17,none⟩) lb cb]).run Tryz.prog w = .ok (.value (.bool false)) w)
  (hcp1 : ∀ ty dc sc,(Builtin.copy_ #[30,30] ty #[.slice (some ⟨b,(i + m) * 17,none⟩) (n + m - (i + m)) dc,.slice (some ⟨b,i * 17,none⟩) (n + m - i) sc]).run Tryz.prog w.drew = .ok (goInt ((n - i : Nat) : Int)) (w.drew.setCells b ((i + m) * 17) cd))
  (hcp2 : ∀ ty dc,(Builtin.copy_ #[30,30] ty #[.slice (some ⟨b,i * 17,none⟩) (n + m - i) dc,.slice (some ⟨vb,0,none⟩) m vcap]).run Tryz.prog (w.drew.setCells b ((i + m) * 17) cd) = .ok (goInt m) ((w.drew.setCells b ((i + m) * 17) cd).setCells b (i * 17) vs)) :
  Calls Tryz.prog 154 #[.slice (some ⟨b,0,none⟩) n cap,.int .i64 i,.slice (some ⟨vb,0,none⟩) m vcap] w fun ex w' => ex = .returned (.slice (some ⟨b,0,none⟩) (n + m) cap) ∧ w' = (w.drew.setCells b ((i + m) * 17) cd).setCells b (i * 17) vs := by
 have mixed : Tryz.prog.follows .mixedOrders = true := by kernel_rfl
 have hz1 : ¬ ((m : Int) = 0) := by omega
 have hz2 : ¬ ((i : Int) = (n : Int)) := by omega
 have hw1 : IntKind.i64.wrap ((i : Int) + (m : Int)) = (i : Int) + (m : Int) := by rw [IntKind.wrap_i64]; omega
 have hb1 : (0 : Int) ≤ (i : Int) + (m : Int) := by omega
 have hin : i ≤ n := by omega
 have htn : ((i : Int) + (m : Int)).toNat = i + m := by omega
 have hb2 : ¬ (cap = i + m) := by omega
 have hb3 : (i : Int) ≤ (n : Int) + (m : Int) := by omega
 have hb4 : ¬ (cap = i) := by omega
 obtain ⟨W1,hW1⟩ : ∃ W1,Hold (W1 = w.drew.setCells b ((i + m) * 17) cd) := ⟨_,⟨rfl⟩⟩
 rw [← hW1.out] at hcp1 hcp2 ⊢
 go_enter Tryz.func154,Tryz.ntmps154
 go_wp2_with (simp only [hov])
 go_region_law_o (refine step_copy_run rfl _ _ 30 30 rfl _ _ (by simp [Act.eval,Act.put]) (by simp [Act.eval,Act.put]) (hcp1 _ _ _) ?_)
 go_wp2_with (at_builtin; refine wpList_copy_run _ rfl _ _ 30 30 rfl _ _ rfl rfl (hcp2 _ _) ?_)
 go_ret
 exact ⟨rfl,rfl⟩
set_option maxHeartbeats 4000000 in
set_option maxRecDepth 1000000 in
theorem YG.rawC (b n cap i vb m vcap G N : Nat) (cd vs : List Value) (w W1 : World) (hi : i < n) (hm : 0 < m) (hn : n ≤ cap) (hroom : cap < n + m) (hG : n + m ≤ G) (hG63 : G ≤ 9223372036854775807)
  (hrz : ∀ ty,(Builtin.append_ #[30,3] ty #[.slice (some ⟨b,0,none⟩) i cap,.int .i64 ((n : Int) + (m : Int) - (i : Int))]).run Tryz.prog w = .ok (.slice (some ⟨N,0,none⟩) (n + m) G) W1)
  (hcpA : ∀ ty dc,(Builtin.copy_ #[30,30] ty #[.slice (some ⟨N,i * 17,none⟩) (n + m - i) dc,.slice (some ⟨vb,0,none⟩) m vcap]).run Tryz.prog W1 = .ok (goInt m) (W1.setCells N (i * 17) vs))
  (hcpB : ∀ ty dc sc,(Builtin.copy_ #[30,30] ty #[.slice (some ⟨N,(i + m) * 17,none⟩) (n + m - (i + m)) dc,.slice (some ⟨b,i * 17,none⟩) (n - i) sc]).run Tryz.prog (W1.setCells N (i * 17) vs).drew = .ok (goInt ((n - i : Nat) : Int)) ((W1.setCells N (i * 17) vs).drew.setCells N ((i + m) * 17) cd)) :
  Calls Tryz.prog 154 #[.slice (some ⟨b,0,none⟩) n cap,.int .i64 i,.slice (some ⟨vb,0,none⟩) m vcap] w fun ex w' => ex = .returned (.slice (some ⟨N,0,none⟩) (n + m) G) ∧ w' = (W1.setCells N (i * 17) vs).drew.setCells N ((i + m) * 17) cd := by
 have mixed : Tryz.prog.follows .mixedOrders = true := by kernel_rfl
 have hz1 : ¬ ((m : Int) = 0) := by omega
 have hz2 : ¬ ((i : Int) = (n : Int)) := by omega
 have hz3 : (cap : Int) < (n : Int) + (m : Int) := by omega
 have hGi : ¬ (G = i) := by omega
 have hGim : ¬ (G = i + m) := by omega
 have hci : ¬ (cap = i) := by omega
 have hw1 : IntKind.i64.wrap ((i : Int) + (m : Int)) = (i : Int) + (m : Int) := by rw [IntKind.wrap_i64]; omega
 have hb1 : (0 : Int) ≤ (i : Int) + (m : Int) := by omega
 have hin : i ≤ n := by omega
 have htn : ((i : Int) + (m : Int)).toNat = i + m := by omega
 have hb3 : (i : Int) ≤ (n : Int) := by omega
 obtain ⟨W2,hW2⟩ : ∃ W2,Hold (W2 = W1.setCells N (i * 17) vs) := ⟨_,⟨rfl⟩⟩
 rw [← hW2.out] at hcpA hcpB ⊢
 go_enter Tryz.func154,Tryz.ntmps154
 go_wp2_with (first
  | (at_builtin; refine Lib.wpList_append_run _ rfl _ _ _ _ rfl _ _ rfl rfl _ _ (hrz _) ?_)
  | (at_builtin; refine wpList_copy_run _ rfl _ _ 30 30 rfl _ _ rfl rfl (hcpA _ _) ?_))
 go_region_law_o (refine step_copy_run rfl _ _ 30 30 rfl (.slice (some ⟨N,(i + m) * 17,none⟩) (n + m - (i + m)) (G - (i + m))) (.slice (some ⟨b,i * 17,none⟩) (n - i) (cap - i)) (by simp [Act.eval,Act.put]) (by simp [Act.eval,Act.put]) (hcpB _ _ _) ?_)
 go_wp2
 go_ret
 exact ⟨rfl,rfl⟩
theorem YG.raw : InsRaw Tryz.prog 154 17 := by
 obtain ⟨i0,z,hi,hz,hzs⟩ := Zbr (P := Tryz.prog) (t := 98) (by kernel_rfl)
 have hsz : i0.size = 17 := by
  have : Tryz.prog.cellsOf 98 = 17 := by kernel_rfl
  simpa [Program.cellsOf,hi] using this
 have hzc : z.cells.size = 17 := by
  have h1 : (ZaM Tryz.prog 98).length = 17 := by kernel_rfl
  rw [← h1]
  simpa using (Zaq hzs).2.2.1.symm
 have hby : i0.bytes ≤ 1000 := by
  have : (Tryz.prog.info? 98).map (·.bytes) = some 240 := by kernel_rfl
  rw [hi] at this
  simp only [Option.map_some,Option.some.injEq] at this
  rw [this]
  decide
 exact InsRoads.raw (o := 179) (S := 30) (E := 98) (T := 4) ⟨YG.raw0,YG.rawA,YG.rawB,YG.rawC⟩ Tryz.underlying30 (by kernel_rfl) hi hz hsz (by decide) hzc hby (fun x y w h => by
  rw [run_callFunc_extern Tryz.func179 (by kernel_rfl) (by kernel_rfl) (by kernel_rfl) (e := Extern.SlicesOverlaps.overlaps #[30,30] #[4]) (by kernel_rfl),h]
  rfl)
theorem YG.ok (k : Nat) : Zf Tryz.prog 154 (YG.e k) := insert_ok tyok (ct := 30) (K := 17) (run := fun {β} => YG.run k) (by kernel_rfl) (enter_of Tryz.func154 (by kernel_rfl)) YG.raw (fun β aa K r h => by
 unfold YG.run at h
 split at h
 ·unfold YG.f YG.t at h
  split at h
  ·rename_i hz
   obtain ⟨hg,hz⟩ := Zp hz
   injection hz with hz
   subst hz
   exact ⟨_,_,_,rfl,hg,h⟩
  ·cases h
 ·cases h)
noncomputable def YaN.g {β : Type} (k : Nat) (a0 : LC) (aM : Int) (aN : BA) (aU aO bF : Int) (bH : Bool) (bI : LD) (bJ : Int) (bK : BA) (bL : Int) (bM bN : LD) (bO : Int) (bP : BA) (bQ : Int) (bR bT : LD) (K : LC → Option β) : Option β :=
 Yc.f k (C.immRows a0) aM aN aU aO bF bH bI bJ bK bL bM bN bO bP bQ bR bT (fun y213 y214 => bif y214 then (Yar.f k aM aN aU aO bF bH bI bJ bK bL bM bN bO bP bQ bR bT (fun y215 y216 y217 y218 y219 y220 y221 y222 y223 y224 y225 y226 y227 y228 y229 y230 y231 => Zd ((0 : Int) ≤ y213 ∧ y213 < (a0.length : Int)) (Zd (Int.toNat y213 < a0.length) (K (a0.modify (Int.toNat y213) fun c => Zs c 0 [.d (.int .i64 y215),.d (.str y216),.d (.int .i64 y217),.d (.int .i64 y218),.d (.int .i64 y219),.d (.bool y220),.own y221,.d (.int .i64 y222),.d (.str y223),.d (.int .i64 y224),.own y225,.own y226,.d (.int .i64 y227),.d (.str y228),.d (.int .i64 y229),.own y230,.own y231]))))) else (Yar.f k aM aN aU aO bF bH bI bJ bK bL bM bN bO bP bQ bR bT (fun y232 y233 y234 y235 y236 y237 y238 y239 y240 y241 y242 y243 y244 y245 y246 y247 y248 => YG.f k a0 y213 ([[.d (.int .i64 y232),.d (.str y233),.d (.int .i64 y234),.d (.int .i64 y235),.d (.int .i64 y236),.d (.bool y237),.own y238,.d (.int .i64 y239),.d (.str y240),.d (.int .i64 y241),.own y242,.own y243,.d (.int .i64 y244),.d (.str y245),.d (.int .i64 y246),.own y247,.own y248]] : LC) (fun y249 => K y249))))
noncomputable def YaN.t (k : Nat) (a0 : LC) (aM : Int) (aN : BA) (aU aO bF : Int) (bH : Bool) (bI : LD) (bJ : Int) (bK : BA) (bL : Int) (bM bN : LD) (bO : Int) (bP : BA) (bQ : Int) (bR bT : LD) : Option (LC) := YaN.g k a0 aM aN aU aO bF bH bI bJ bK bL bM bN bO bP bQ bR bT (fun z0 => some z0)
noncomputable def YaN.f {β : Type} (k : Nat) (a0 : LC) (aM : Int) (aN : BA) (aU aO bF : Int) (bH : Bool) (bI : LD) (bJ : Int) (bK : BA) (bL : Int) (bM bN : LD) (bO : Int) (bP : BA) (bQ : Int) (bR bT : LD) (K : LC → Option β) : Option β := bd1 (YaN.t k a0 aM aN aU aO bF bH bI bJ bK bL bM bN bO bP bQ bR bT) K
noncomputable def YaN.e (k : Nat) : Zj := ent [.own false 30 [.o],.agg [.n,.s,.n,.n,.n,.b,.l,.n,.s,.n,.l,.l,.n,.s,.n,.l,.l]] [1] [.o] [30] false (YaN.t k) true true
noncomputable def YaN.p (k : Nat) : Pro := ⟨Tryz.prog,[(153,Yc.e k),(115,Yar.e k),(154,YG.e k)],Zv [] false [] true,k⟩
theorem YaN.ok (k : Nat) : Zf Tryz.prog 121 (YaN.e k) := Zk (YaN.p k) mix tyok Tryz.func121 ⟨Yc.ok k,Yar.ok k,YG.ok k⟩ (by kernel_rfl) (fun a0 aM aN aU aO bF bH bI bJ bK bL bM bN bO bP bQ bR bT => by show _ = _; kernel_rfl)
noncomputable def YaI.g {β : Type} (k : Nat) (aB : Int) (aA : BA) (aH aF aI : Int) (bD : Bool) (aV : LD) (bA : Int) (aP : BA) (bB : Int) (aQ aW : LD) (aY : Int) (aR : BA) (bC : Int) (aT aX : LD) (f0_0 : Int) (f1_0 : BA) (K : Bool → Option β) : Option β :=
 bif ((aB : Int) == f0_0) then (K (Zae aA f1_0)) else (K false)
noncomputable def YaI.t (k : Nat) (aB : Int) (aA : BA) (aH aF aI : Int) (bD : Bool) (aV : LD) (bA : Int) (aP : BA) (bB : Int) (aQ aW : LD) (aY : Int) (aR : BA) (bC : Int) (aT aX : LD) (f0_0 : Int) (f1_0 : BA) : Option (Bool) := YaI.g k aB aA aH aF aI bD aV bA aP bB aQ aW aY aR bC aT aX f0_0 f1_0 (fun z0 => some z0)
noncomputable def YaI.f {β : Type} (k : Nat) (aB : Int) (aA : BA) (aH aF aI : Int) (bD : Bool) (aV : LD) (bA : Int) (aP : BA) (bB : Int) (aQ aW : LD) (aY : Int) (aR : BA) (bC : Int) (aT aX : LD) (f0_0 : Int) (f1_0 : BA) (K : Bool → Option β) : Option β := bd1 (YaI.t k aB aA aH aF aI bD aV bA aP bB aQ aW aY aR bC aT aX f0_0 f1_0) K
noncomputable def YaI.e (k : Nat) : Zj := ent [.agg [.n,.s,.n,.n,.n,.b,.l,.n,.s,.n,.l,.l,.n,.s,.n,.l,.l],.ip [.n],.ip [.s]] [1] [.b] [4] false (YaI.t k)
noncomputable def YaI.p (k : Nat) : Pro := ⟨Tryz.prog,[],Zv [] false [],k⟩
theorem YaI.ok (k : Nat) : Zf Tryz.prog 150 (YaI.e k) := Zk (YaI.p k) mix tyok Tryz.func150 trivial (by kernel_rfl) (fun aB aA aH aF aI bD aV bA aP bB aQ aW aY aR bC aT aX f0_0 f1_0 => by show _ = _; kernel_rfl)
noncomputable def Ye.l0 {β : Type} (k : Nat) (aC : LD) (aD : Int) (aJ : BA) (aK : Int) (K L0 : Int → Option β) (v : Int) : Option β :=
 match v with
 | aL => bif (decide ((aL : Int) < aK)) then (atR aC aL [.n,.s,.n,.n,.n,.b,.l,.n,.s,.n,.l,.l,.n,.s,.n,.l,.l] fun x57 x60 x63 x66 x69 x72 x75 x78 x81 x84 x87 x90 x93 x96 x99 x102 x105 => (YaI.f k x57 x60 x63 x66 x69 x72 x75 x78 x81 x84 x87 x90 x93 x96 x99 x102 x105 aD aJ (fun y106 => bif y106 then (K aL) else (L0 (IntKind.wrap .i64 (aL + 1)))))) else (K (-1))
noncomputable def Ye.m {β : Type} (k : Nat) (a0 : LD) (a1_0_0 : Int) (a1_1_0 : BA) (K : Int → Option β) (F : (LD → Int → BA → Int → Int → Option β)) : Option β :=
 F a0 a1_0_0 a1_1_0 (a0.length : Int) (0)
noncomputable def Ye.g {β : Type} (k : Nat) (a0 : LD) (a1_0_0 : Int) (a1_1_0 : BA) (K : Int → Option β) : Option β :=
 ZA (Ye.l0 k a0 a1_0_0 a1_1_0 (a0.length : Int) K) k (0)
noncomputable def Ye.t (k : Nat) (a0 : LD) (a1_0_0 : Int) (a1_1_0 : BA) : Option (Int) := Ye.g k a0 a1_0_0 a1_1_0 (fun z0 => some z0)
noncomputable def Ye.f {β : Type} (k : Nat) (a0 : LD) (a1_0_0 : Int) (a1_1_0 : BA) (K : Int → Option β) : Option β := bd1 (Ye.t k a0 a1_0_0 a1_1_0) K
noncomputable def Ye.e (k : Nat) : Zj := ent [.d .l,.fn 150 [[.n],[.s]]] [1] [.n] [3] false (Ye.t k)
noncomputable def Ye.p (k : Nat) : Pro := ⟨Tryz.prog,[(150,YaI.e k)],Zv [(2,kp [0,1,7,8])] false [],k⟩
noncomputable def Ye.d (k : Nat) (a0 : LD) (a1_0_0 : Int) (a1_1_0 : BA) : Ex → St → Option (Int) := (Ye.p k).fin Tryz.f149 [.d (.sl a0),.d (.fn 150 [[.int .i64 a1_0_0],[.str a1_1_0]])] [1] [.n]
noncomputable def Ye.s0 (aC : LD) (aD : Int) (aJ : BA) (aK v : Int) : St :=
 match v with
 | aL => ZaA 19 [(0,.d false (.sl aC)),(1,.d false (.fn 150 [[.int .i64 aD],[.str aJ]])),(7,.d true (.int .i64 aK)),(8,.d true (.int .i64 aL))] []
noncomputable def Ye.r0 (k : Nat) (a0 : LD) (a1_0_0 : Int) (a1_1_0 : BA) (aC : LD) (aD : Int) (aJ : BA) (aK : Int) (n : Nat) (v : Int) : Option (Int) := (Ye.p k).lp (ZI Tryz.f149) 2 [1,0,1,0] (Ye.d k a0 a1_0_0 a1_1_0) n (Ye.s0 aC aD aJ aK v)
theorem Ye.l0_eq (k : Nat) (a0 : LD) (a1_0_0 : Int) (a1_1_0 : BA) (aC : LD) (aD : Int) (aJ : BA) (aK : Int) : ∀ n v,Ye.r0 k a0 a1_0_0 a1_1_0 aC aD aJ aK n v = ZA (Ye.l0 k aC aD aJ aK (fun z0 => some z0)) n v :=
 Zz (Ye.s0 aC aD aJ aK) _ fun L0 v => by kernel_rfl
theorem Ye.ok (k : Nat) : Zf Tryz.prog 149 (Ye.e k) := Zk (Ye.p k) mix tyok Tryz.func149 (YaI.ok k) (by kernel_rfl) (fun a0 a1_0_0 a1_1_0 => Eq.trans (b := Ye.m k a0 a1_0_0 a1_1_0 (fun z0 => some z0) (fun aC aD aJ aK => Ye.r0 k a0 a1_0_0 a1_1_0 aC aD aJ aK k)) (by kernel_rfl) (congrArg (Ye.m k a0 a1_0_0 a1_1_0 (fun z0 => some z0)) (funext fun aC => funext fun aD => funext fun aJ => funext fun aK => funext fun v => Ye.l0_eq k a0 a1_0_0 a1_1_0 aC aD aJ aK k v) :))
noncomputable def YaQ.g {β : Type} (k : Nat) (a0 : LD) (a1 : Int) (a2 : BA) (K : Int → Option β) : Option β :=
 Ye.f k a0 a1 a2 (fun y107 => K y107)
noncomputable def YaQ.t (k : Nat) (a0 : LD) (a1 : Int) (a2 : BA) : Option (Int) := YaQ.g k a0 a1 a2 (fun z0 => some z0)
noncomputable def YaQ.f {β : Type} (k : Nat) (a0 : LD) (a1 : Int) (a2 : BA) (K : Int → Option β) : Option β := bd1 (YaQ.t k a0 a1 a2) K
noncomputable def YaQ.e (k : Nat) : Zj := ent [.d .l,.d .n,.d .s] [1] [.n] [3] false (YaQ.t k)
noncomputable def YaQ.p (k : Nat) : Pro := ⟨Tryz.prog,[(149,Ye.e k)],Zv [] false [],k⟩
theorem YaQ.ok (k : Nat) : Zf Tryz.prog 114 (YaQ.e k) := Zk (YaQ.p k) mix tyok Tryz.func114 (Ye.ok k) (by kernel_rfl) (fun a0 a1 a2 => by show _ = _; kernel_rfl)
noncomputable def YP.t (k : Nat) (xs : LC) (i j : Int) : Option LC := Zd (0 ≤ i ∧ i ≤ j ∧ j ≤ (xs.length : Int)) (some (xs.take i.toNat ++ xs.drop j.toNat))
noncomputable def YP.f {β : Type} (k : Nat) (xs : LC) (i j : Int) (K : LC → Option β) : Option β :=
 match YP.t k xs i j with
 | some z0 => K z0
 | none => none
noncomputable def YP.run (k : Nat) : {β : Type} → List A → (LC → Option β) → Option β := fun {β} l K =>
 match l with
 | [.own false [.own xs],.d (.int .i64 i),.d (.int .i64 j)] => YP.f k xs i j K
 | _ => none
noncomputable def YP.e (k : Nat) : Zj := { modes := [(.own,0)],rts := [30],al := false,run := fun _ _ => none,lib := some ⟨[true,false,false],30,YP.run k⟩ }
set_option maxHeartbeats 4000000 in
set_option maxRecDepth 1000000 in
theorem YP.raw0 (a : Option Addr) (n cap i : Nat) (w : World) (hi : i ≤ n) (hn : n ≤ cap) : Calls Tryz.prog 145 #[.slice a n cap,.int .i64 i,.int .i64 i] w fun ex w' => ex = .returned (.slice a n cap) ∧ w' = w := by
 go_enter Tryz.func145,Tryz.ntmps145
 go_wp2
 all_goals (go_ret; exact ⟨rfl,rfl⟩)
set_option maxHeartbeats 4000000 in
set_option maxRecDepth 1000000 in
theorem YP.raw2 (b cap n i j : Nat) (c : Array Value) (e : TypeId) (w : World) (hb : w.heap[b]? = some (.cells c e (0,0))) (hc : c.size = cap * 17) (hn : n ≤ cap) (hij : i < j) (hj : j ≤ n) (h1 : ∀ t,t < n * 17 → ∃ v,c[t]? = some v ∧ v.oneCell' = true) (i0 : TypeInfo) (z : Value) (hi : Tryz.prog.info? 98 = some i0) (hz : i0.zero = some z) (hs : i0.size = 17) (hzs : z.cells.size = 17) (hz1 : ∀ v ∈ z.cells.toList,v.oneCell' = true) :
  Calls Tryz.prog 145 #[.slice (some ⟨b,0,none⟩) n cap,.int .i64 i,.int .i64 j] w fun ex w' => ex = .returned (.slice (some ⟨b,0,none⟩) (n - (j - i)) cap) ∧ Only b w w' ∧ ∃ c',w'.heap[b]? = some (.cells c' e (0,0)) ∧ c'.size = c.size ∧ (∀ t,t < i * 17 → c'[t]? = c[t]?) ∧ ∀ t,t < (n - j) * 17 → c'[i * 17 + t]? = c[j * 17 + t]? := by
 have mixed : Tryz.prog.follows .mixedOrders = true := by kernel_rfl
 have hb0 : w.drew.heap[b]? = some (.cells c e (0,0)) := hb
 obtain ⟨A,news,hA,hlen,hsrc,hone,hget⟩ := tail_src hb0 hc hn hj h1
 obtain ⟨hb1,ho1⟩ := Zaa news (i * 17) hb0
 obtain ⟨W1,hW1⟩ : ∃ W1,W1 = w.drew.setCells b (0 + i * 17) news := ⟨_,rfl⟩
 rw [Nat.zero_add] at hW1
 rw [← hW1] at hb1 ho1
 have hle : i * 17 + news.length ≤ c.size := by rw [hlen,hc]; omega
 have hcl : ∀ ty,(Builtin.clear_ #[30] ty #[.slice (some ⟨b,(i + (n - j)) * 17,none⟩) (n - (i + (n - j))) (cap - (i + (n - j)))]).run Tryz.prog W1 = .ok (.tuple #[]) (W1.setCells b ((i + (n - j)) * 17) (Builtin.zeroCells z.cells (n - (i + (n - j)))).toList) :=
  fun ty => run_clear_cells Tryz.underlying30 hi hz hz1 (by omega) (fun t ht => by rw [Zat hb1]; rw [hzs] at ht; rw [Array.getElem?_eq_getElem (by rw [Zab,hc]; omega)]; rfl) (fun t ht => Zax hb1 _)
 have hW : Hold (W1 = w.drew.setCells b (i * 17) news) := ⟨hW1⟩
 obtain ⟨hb2,ho2⟩ := Zaa (Builtin.zeroCells z.cells (n - (i + (n - j)))).toList ((i + (n - j)) * 17) hb1
 have hfin : Hold (Only b w (W1.setCells b ((i + (n - j)) * 17) (Builtin.zeroCells z.cells (n - (i + (n - j)))).toList) ∧ ∃ c',(W1.setCells b ((i + (n - j)) * 17) (Builtin.zeroCells z.cells (n - (i + (n - j)))).toList).heap[b]? = some (.cells c' e (0,0)) ∧ c'.size = c.size ∧ (∀ t,t < i * 17 → c'[t]? = c[t]?) ∧ ∀ t,t < (n - j) * 17 → c'[i * 17 + t]? = c[j * 17 + t]?) := by
  have hzl : (Builtin.zeroCells z.cells (n - (i + (n - j)))).toList.length = (n - (i + (n - j))) * 17 := by simp [Zaj,hzs]
  refine ⟨((Only.drew b w).trans ho1).trans ho2,_,hb2,by rw [Zab,Zab],fun t ht => ?_,fun t ht => ?_⟩
  ·rw [Z6 _ _ _ _ (by rw [hzl,Zab,hc]; omega),if_neg (by omega),Z6 _ _ _ _ hle,if_neg (by omega)]
  ·rw [Z6 _ _ _ _ (by rw [hzl,Zab,hc]; omega),if_neg (by omega),Z6 _ _ _ _ hle,if_pos (by omega),Nat.add_sub_cancel_left,hget t ht]
 have hsp : ∀ t,t < news.length → (w.drew.cell? ⟨b,0 + i * 17 + t,none⟩).isSome = true ∧ w.drew.frozen? ⟨b,0 + i * 17 + t,none⟩ = false := fun t ht => ⟨by rw [Zat hb0,Array.getElem?_eq_getElem (by omega)]; rfl,Zax hb0 _⟩
 generalize (Builtin.zeroCells z.cells (n - (i + (n - j)))).toList = zl at hcl hfin
 clear hb hb0 ho1 hb1 hb2 ho2 hget hW1 h1 hle hc hz1 hzs hz
 have hic : i ≤ cap := by omega
 have hjc : j ≤ cap := by omega
 go_enter Tryz.func145,Tryz.ntmps145
 go_wp2_with fail
 go_region_law_o (refine step_append_room rfl (.tmp 22) (.tmp 25) 30 rfl 98 i0 17 Tryz.underlying30 hi hs b 0 i cap (by simp [Act.eval,Act.put]) A (n - j) (cap - j) news (by simp [Act.eval,Act.put]) hlen hsrc hone (by omega) hsp ?_; rw [Nat.zero_add,← hW.out])
 go_wp2
 go_ret
 refine ⟨?_,hfin.out⟩
 rw [show i + (n - j) = n - (j - i) from by omega]
 rfl
theorem YP.raw : DelRaw Tryz.prog 145 17 := ⟨fun a n cap i w h1 h2 => YP.raw0 a n cap i w h1 h2,fun b cap n i j c e w hb hc hn hij hj h1 => by
 obtain ⟨i0,z,hi,hz,hzs⟩ := Zbr (P := Tryz.prog) (t := 98) (by kernel_rfl)
 have hsz : i0.size = 17 := by
  have : Tryz.prog.cellsOf 98 = 17 := by kernel_rfl
  simpa [Program.cellsOf,hi] using this
 have hzc : z.cells.size = 17 := by
  have h1 : (ZaM Tryz.prog 98).length = 17 := by kernel_rfl
  rw [← h1]
  simpa using (Zaq hzs).2.2.1.symm
 exact YP.raw2 b cap n i j c e w hb hc hn hij hj h1 i0 z hi hz hsz hzc (Zaq hzs).2.1⟩
theorem YP.ok (k : Nat) : Zf Tryz.prog 145 (YP.e k) := delete_ok tyok (ct := 30) (K := 17) (run := fun {β} => YP.run k) (by kernel_rfl) (enter_of Tryz.func145 (by kernel_rfl)) YP.raw (fun β aa K r h => by
 unfold YP.run at h
 split at h
 ·unfold YP.f YP.t at h
  split at h
  ·rename_i hz
   obtain ⟨hg,hz⟩ := Zp hz
   injection hz with hz
   subst hz
   exact ⟨_,_,_,rfl,hg,h⟩
  ·cases h
 ·cases h)
noncomputable def Y8.g {β : Type} (k : Nat) (aB : Int) (aA : LC) (aM : Int) (aN : Bool) (aU : Int) (aO : BA) (bF bH bI : Int) (bJ : Bool) (bK : LD) (bL : Int) (bM : BA) (bN : Int) (bO bP : LD) (bQ : Int) (bR : BA) (bT : Int) (a1_17 a1_18 : LD) (K : Bool → Int → LC → Option β) : Option β :=
 bif ((aM : Int) != (IntKind.wrap .i64 (aB + 1))) then (K false aB aA) else (bif (!aN) then (YaN.f k aA aU aO bF bH bI bJ bK bL bM bN bO bP bQ bR bT a1_17 a1_18 (fun y250 => K true (IntKind.wrap .i64 (aB + 1)) y250)) else (YaQ.f k (C.immRows aA) aU aO (fun y251 => bif (decide ((y251 : Int) < 0)) then (K false (IntKind.wrap .i64 (aB + 1)) aA) else (Zd ((0 : Int) ≤ y251 ∧ y251 < (aA.length : Int)) (ZaR aA (Int.toNat y251) fun c252 => ZaJ (c252.drop 2) fun c253 r => cD c253 fun d => dInt .i64 d fun x256 => bif ((x256 : Int) != bF) then (K false (IntKind.wrap .i64 (aB + 1)) aA) else (YP.f k aA y251 (IntKind.wrap .i64 (y251 + 1)) (fun y257 => K true (IntKind.wrap .i64 (aB + 1)) y257)))))))
noncomputable def Y8.t (k : Nat) (aB : Int) (aA : LC) (aM : Int) (aN : Bool) (aU : Int) (aO : BA) (bF bH bI : Int) (bJ : Bool) (bK : LD) (bL : Int) (bM : BA) (bN : Int) (bO bP : LD) (bQ : Int) (bR : BA) (bT : Int) (a1_17 a1_18 : LD) : Option (Bool × Int × LC) := Y8.g k aB aA aM aN aU aO bF bH bI bJ bK bL bM bN bO bP bQ bR bT a1_17 a1_18 (fun z0 z1 z2 => some (z0,z1,z2))
noncomputable def Y8.f {β : Type} (k : Nat) (aB : Int) (aA : LC) (aM : Int) (aN : Bool) (aU : Int) (aO : BA) (bF bH bI : Int) (bJ : Bool) (bK : LD) (bL : Int) (bM : BA) (bN : Int) (bO bP : LD) (bQ : Int) (bR : BA) (bT : Int) (a1_17 a1_18 : LD) (K : Bool → Int → LC → Option β) : Option β := bd3 (Y8.t k aB aA aM aN aU aO bF bH bI bJ bK bL bM bN bO bP bQ bR bT a1_17 a1_18) K
noncomputable def Y8.e (k : Nat) : Zj := ent [.box 32 [.n,.o],.agg [.n,.b,.n,.s,.n,.n,.n,.b,.l,.n,.s,.n,.l,.l,.n,.s,.n,.l,.l]] [1] [.b,.n,.o] [4] false (Y8.t k) false true
noncomputable def Y8.p (k : Nat) : Pro := ⟨Tryz.prog,[(121,YaN.e k),(114,YaQ.e k),(145,YP.e k)],Zv [] false [] true,k⟩
theorem Y8.ok (k : Nat) : Zf Tryz.prog 103 (Y8.e k) := Zk (Y8.p k) mix tyok Tryz.func103 ⟨YaN.ok k,YaQ.ok k,YP.ok k⟩ (by kernel_rfl) (fun aB aA aM aN aU aO bF bH bI bJ bK bL bM bN bO bP bQ bR bT a1_17 a1_18 => by show _ = _; kernel_rfl)
noncomputable def Y7.l0 {β : Type} (k : Nat) (aC : LD) (aD aK : Int) (aL : LD) (aZ : Int) (K : Int → LC → Bool → Option β) (L0 : (Int × Int × LC) → Option β) (v : Int × Int × LC) : Option β :=
 match v with
 | (aJ,bE,bG) => bif (decide ((aJ : Int) < aD)) then (atR aC aJ [.n,.b,.n,.s,.n,.n,.n,.b,.l,.n,.s,.n,.l,.l,.n,.s,.n,.l,.l] fun x269 x272 x275 x278 x281 x284 x287 x290 x293 x296 x299 x302 x305 x308 x311 x314 x317 x320 x323 => (Y8.f k bE bG x269 x272 x275 x278 x281 x284 x287 x290 x293 x296 x299 x302 x305 x308 x311 x314 x317 x320 x323 (fun y324 y325 y326 => bif (!y324) then (Yaf.f k aK aL (fun y327 y328 => K y327 y328 false)) else (Yap.f k y325 (C.immRows y326) (fun y329 => bif (!y329) then (Yaf.f k aK aL (fun y330 y331 => K y330 y331 false)) else (L0 (IntKind.wrap .i64 (aJ + 1),y325,y326))))))) else (K bE bG true)
noncomputable def Y7.m {β : Type} (k : Nat) (aB : Int) (aA a1 : LD) (K : Int → LC → Bool → Option β) (F : (LD → Int → Int → LD → Int → (Int × Int × LC) → Option β)) : Option β :=
 Yap.f k aB aA (fun y3 => bif (!y3) then (Yaf.f k aB aA (fun y4 y5 => K y4 y5 false)) else (Yaf.f k aB aA (fun y6 y7 => F a1 (a1.length : Int) aB aA 0 (0,y6,y7))))
noncomputable def Y7.g {β : Type} (k : Nat) (aB : Int) (aA a1 : LD) (K : Int → LC → Bool → Option β) : Option β :=
 Yap.f k aB aA (fun y3 => bif (!y3) then (Yaf.f k aB aA (fun y4 y5 => K y4 y5 false)) else (Yaf.f k aB aA (fun y6 y7 => ZA (Y7.l0 k a1 (a1.length : Int) aB aA 0 K) k (0,y6,y7))))
noncomputable def Y7.t (k : Nat) (aB : Int) (aA a1 : LD) : Option (Int × LC × Bool) := Y7.g k aB aA a1 (fun z0 z1 z2 => some (z0,z1,z2))
noncomputable def Y7.f {β : Type} (k : Nat) (aB : Int) (aA a1 : LD) (K : Int → LC → Bool → Option β) : Option β := bd3 (Y7.t k aB aA a1) K
noncomputable def Y7.e (k : Nat) : Zj := ent [.agg [.n,.l],.d .l] [2,1] [.n,.o,.b] [32,4] false (Y7.t k)
noncomputable def Y7.p (k : Nat) : Pro := ⟨Tryz.prog,[(101,Yap.e k),(102,Yaf.e k),(103,Y8.e k)],Zv [(5,kp [2,4,6,16,17,18])] false [],k⟩
noncomputable def Y7.d (k : Nat) (aB : Int) (aA a1 : LD) : Ex → St → Option (Int × LC × Bool) := (Y7.p k).fin Tryz.f40 [.agg [.int .i64 aB,.sl aA],.d (.sl a1)] [2,1] [.n,.o,.b]
noncomputable def Y7.s0 (aC : LD) (aD aK : Int) (aL : LD) (aZ : Int) (v : Int × Int × LC) : St :=
 match v with
 | (aJ,bE,bG) => ZaA 34 [(2,.bp 0 0),(4,.bp 1 0),(6,.bp 2 0),(16,.d false (.sl aC)),(17,.d true (.int .i64 aD)),(18,.d true (.int .i64 aJ))] [.box none 32 [.d false (.int .i64 aK),.d false (.sl aL)],.box none 32 [.d true (.int .i64 aZ),.nil],.box none 32 [.d true (.int .i64 bE),.row 3],.row none true 30 bG]
noncomputable def Y7.r0 (k : Nat) (aB : Int) (aA a1 aC : LD) (aD aK : Int) (aL : LD) (aZ : Int) (n : Nat) (v : Int × Int × LC) : Option (Int × LC × Bool) := (Y7.p k).lp (ZI Tryz.f40) 5 [1,1,1,0,1,0] (Y7.d k aB aA a1) n (Y7.s0 aC aD aK aL aZ v)
theorem Y7.l0_eq (k : Nat) (aB : Int) (aA a1 aC : LD) (aD aK : Int) (aL : LD) (aZ : Int) : ∀ n v,Y7.r0 k aB aA a1 aC aD aK aL aZ n v = ZA (Y7.l0 k aC aD aK aL aZ (fun z0 z1 z2 => some (z0,z1,z2))) n v :=
 Zz (Y7.s0 aC aD aK aL aZ) _ fun L0 v => by obtain ⟨aJ,bE,bG⟩ := v; kernel_rfl
theorem Y7.ok (k : Nat) : Zf Tryz.prog 40 (Y7.e k) := Zk (Y7.p k) mix tyok Tryz.func40 ⟨Yap.ok k,Yaf.ok k,Y8.ok k⟩ (by kernel_rfl) (fun aB aA a1 => Eq.trans (b := Y7.m k aB aA a1 (fun z0 z1 z2 => some (z0,z1,z2)) (fun aC aD aK aL aZ => Y7.r0 k aB aA a1 aC aD aK aL aZ k)) (by kernel_rfl) (congrArg (Y7.m k aB aA a1 (fun z0 z1 z2 => some (z0,z1,z2))) (funext fun aC => funext fun aD => funext fun aK => funext fun aL => funext fun aZ => funext fun v => Y7.l0_eq k aB aA a1 aC aD aK aL aZ k v) :))
noncomputable def Yau.g {β : Type} (k : Nat) (aB : Int) (aA aM : LD) (aN aU : Int) (aO : LD) (K : Int → LC → Bool → Option β) : Option β :=
 YaP.f k aM aN aU aO aB (fun y457 y458 => bif (!y458) then (YaS.f k aM aN aU aO (fun y459 y460 => K y459 y460 false)) else (Y7.f k aB aA (C.immRows y457) (fun y461 y462 y463 => bif (!y463) then (YaS.f k aM aN aU aO (fun y464 y465 => K y464 y465 false)) else (K y461 y462 true))))
noncomputable def Yau.t (k : Nat) (aB : Int) (aA aM : LD) (aN aU : Int) (aO : LD) : Option (Int × LC × Bool) := Yau.g k aB aA aM aN aU aO (fun z0 z1 z2 => some (z0,z1,z2))
noncomputable def Yau.f {β : Type} (k : Nat) (aB : Int) (aA aM : LD) (aN aU : Int) (aO : LD) (K : Int → LC → Bool → Option β) : Option β := bd3 (Yau.t k aB aA aM aN aU aO) K
noncomputable def Yau.e (k : Nat) : Zj := ent [.agg [.n,.l],.agg [.l,.n,.n,.l]] [2,1] [.n,.o,.b] [32,4] false (Yau.t k)
noncomputable def Yau.p (k : Nat) : Pro := ⟨Tryz.prog,[(38,YaP.e k),(39,YaS.e k),(40,Y7.e k)],Zv [] false [],k⟩
theorem Yau.ok (k : Nat) : Zf Tryz.prog 11 (Yau.e k) := Zk (Yau.p k) mix tyok Tryz.func11 ⟨YaP.ok k,YaS.ok k,Y7.ok k⟩ (by kernel_rfl) (fun aB aA aM aN aU aO => by show _ = _; kernel_rfl)
noncomputable def YD.l0 {β : Type} (k : Nat) (aC aD : LD) (K : Bool → Option β) (L0 : Int → Option β) (v : Int) : Option β :=
 match v with
 | aJ => bif (decide ((aJ : Int) < (aC.length : Int))) then (atR aC aJ [.s] fun x12 => (atR aD aJ [.s] fun x16 => (bif (!(Zae x12 x16)) then (K false) else (L0 (IntKind.wrap .i64 (aJ + 1)))))) else (K true)
noncomputable def YD.m {β : Type} (k : Nat) (a0 a1 : LD) (K : Bool → Option β) (F : (LD → LD → Int → Option β)) : Option β :=
 bif (((a0.length : Int) : Int) != (a1.length : Int)) then (K false) else (F a0 a1 (0))
noncomputable def YD.g {β : Type} (k : Nat) (a0 a1 : LD) (K : Bool → Option β) : Option β :=
 bif (((a0.length : Int) : Int) != (a1.length : Int)) then (K false) else (ZA (YD.l0 k a0 a1 K) k (0))
noncomputable def YD.t (k : Nat) (a0 a1 : LD) : Option (Bool) := YD.g k a0 a1 (fun z0 => some z0)
noncomputable def YD.f {β : Type} (k : Nat) (a0 a1 : LD) (K : Bool → Option β) : Option β := bd1 (YD.t k a0 a1) K
noncomputable def YD.e (k : Nat) : Zj := ent [.d .l,.d .l] [1] [.b] [4] false (YD.t k)
noncomputable def YD.p (k : Nat) : Pro := ⟨Tryz.prog,[],Zv [(4,kp [0,1,5])] false [],k⟩
noncomputable def YD.d (k : Nat) (a0 a1 : LD) : Ex → St → Option (Bool) := (YD.p k).fin Tryz.f62 [.d (.sl a0),.d (.sl a1)] [1] [.b]
noncomputable def YD.s0 (aC aD : LD) (v : Int) : St :=
 match v with
 | aJ => ZaA 26 [(0,.d false (.sl aC)),(1,.d false (.sl aD)),(5,.d true (.int .i64 aJ))] []
noncomputable def YD.r0 (k : Nat) (a0 a1 aC aD : LD) (n : Nat) (v : Int) : Option (Bool) := (YD.p k).lp (ZI Tryz.f62) 4 [1,1,0,1,0] (YD.d k a0 a1) n (YD.s0 aC aD v)
theorem YD.l0_eq (k : Nat) (a0 a1 aC aD : LD) : ∀ n v,YD.r0 k a0 a1 aC aD n v = ZA (YD.l0 k aC aD (fun z0 => some z0)) n v :=
 Zz (YD.s0 aC aD) _ fun L0 v => by kernel_rfl
theorem YD.ok (k : Nat) : Zf Tryz.prog 62 (YD.e k) := Zk (YD.p k) mix tyok Tryz.func62 trivial (by kernel_rfl) (fun a0 a1 => Eq.trans (b := YD.m k a0 a1 (fun z0 => some z0) (fun aC aD => YD.r0 k a0 a1 aC aD k)) (by kernel_rfl) (congrArg (YD.m k a0 a1 (fun z0 => some z0)) (funext fun aC => funext fun aD => funext fun v => YD.l0_eq k a0 a1 aC aD k v) :))
noncomputable def Yu.l0 {β : Type} (k : Nat) (r_laws_eqValueS : LD → LD → (Bool → Option β) → Option β) (r_laws_eqValue : Int → BA → Int → LD → LD → Int → BA → Int → LD → LD → (Bool → Option β) → Option β) (aC aD : LD) (K : Bool → Option β) (L0 : Int → Option β) (v : Int) : Option β :=
 match v with
 | aJ => bif (decide ((aJ : Int) < (aC.length : Int))) then (atR aC aJ [.n,.s,.n,.l,.l] fun x37 x40 x43 x46 x49 => (atR aD aJ [.n,.s,.n,.l,.l] fun x53 x56 x59 x62 x65 => (r_laws_eqValue x37 x40 x43 x46 x49 x53 x56 x59 x62 x65 (fun y66 => bif (!y66) then (K false) else (L0 (IntKind.wrap .i64 (aJ + 1))))))) else (K true)
noncomputable def Yu.m {β : Type} (k : Nat) (r_laws_eqValueS : LD → LD → (Bool → Option β) → Option β) (r_laws_eqValue : Int → BA → Int → LD → LD → Int → BA → Int → LD → LD → (Bool → Option β) → Option β) (a0 a1 : LD) (K : Bool → Option β) (F : (LD → LD → Int → Option β)) : Option β :=
 bif (((a0.length : Int) : Int) != (a1.length : Int)) then (K false) else (F a0 a1 (0))
noncomputable def Yu.body {β : Type} (k : Nat) (r_laws_eqValueS : LD → LD → (Bool → Option β) → Option β) (r_laws_eqValue : Int → BA → Int → LD → LD → Int → BA → Int → LD → LD → (Bool → Option β) → Option β) (a0 a1 : LD) (K : Bool → Option β) : Option β :=
 bif (((a0.length : Int) : Int) != (a1.length : Int)) then (K false) else (ZA (Yu.l0 k r_laws_eqValueS r_laws_eqValue a0 a1 K) k (0))
noncomputable def YS.body {β : Type} (k : Nat) (r_laws_eqValueS : LD → LD → (Bool → Option β) → Option β) (r_laws_eqValue : Int → BA → Int → LD → LD → Int → BA → Int → LD → LD → (Bool → Option β) → Option β) (aB : Int) (aA : BA) (aH : Int) (aF aI : LD) (aM : Int) (aN : BA) (aU : Int) (aO bF : LD) (K : Bool → Option β) : Option β :=
 bif ((aB : Int) != aM) then (K false) else (bif (!(Zae aA aN)) then (K false) else (bif ((aH : Int) != aU) then (K false) else (YD.f k aF aO (fun y1 => bif (!y1) then (K false) else (r_laws_eqValueS aI bF (fun y67 => bif (!y67) then (K false) else (K true)))))))
noncomputable def Yu.w {β : Type} (r : LD → LD → Option (Bool)) (a0 a1 : LD) (K : Bool → Option β) : Option β := bd1 (r a0 a1) K
noncomputable def YS.w {β : Type} (r : Int → BA → Int → LD → LD → Int → BA → Int → LD → LD → Option (Bool)) (aB : Int) (aA : BA) (aH : Int) (aF aI : LD) (aM : Int) (aN : BA) (aU : Int) (aO bF : LD) (K : Bool → Option β) : Option β := bd1 (r aB aA aH aF aI aM aN aU aO bF) K
noncomputable def Yu.all : Nat → (LD → LD → Option (Bool)) × (Int → BA → Int → LD → LD → Int → BA → Int → LD → LD → Option (Bool))
 | 0 => (fun _ _ => none,fun _ _ _ _ _ _ _ _ _ _ => none)
 | k + 1 => (fun r => (fun a0 a1 => Yu.body k (Yu.w r.1) (YS.w r.2) a0 a1 (fun z0 => some z0),fun aB aA aH aF aI aM aN aU aO bF => YS.body k (Yu.w r.1) (YS.w r.2) aB aA aH aF aI aM aN aU aO bF (fun z0 => some z0))) (Yu.all k)
noncomputable def Yu.t (k : Nat) (a0 a1 : LD) : Option (Bool) := (Yu.all k).1 a0 a1
noncomputable def YS.t (k : Nat) (aB : Int) (aA : BA) (aH : Int) (aF aI : LD) (aM : Int) (aN : BA) (aU : Int) (aO bF : LD) : Option (Bool) := (Yu.all k).2 aB aA aH aF aI aM aN aU aO bF
noncomputable def Yu.f {β : Type} (k : Nat) (a0 a1 : LD) (K : Bool → Option β) : Option β := Yu.w (Yu.t k) a0 a1 K
noncomputable def YS.f {β : Type} (k : Nat) (aB : Int) (aA : BA) (aH : Int) (aF aI : LD) (aM : Int) (aN : BA) (aU : Int) (aO bF : LD) (K : Bool → Option β) : Option β := YS.w (YS.t k) aB aA aH aF aI aM aN aU aO bF K
noncomputable def Yu.g {β : Type} (k : Nat) (a0 a1 : LD) (K : Bool → Option β) : Option β := Yu.body k (Yu.f k) (YS.f k) a0 a1 K
theorem Yu.t_succ (k : Nat) (a0 a1 : LD) : Yu.t (k + 1) a0 a1 = Yu.g k a0 a1 (fun z0 => some z0) := rfl
noncomputable def YS.g {β : Type} (k : Nat) (aB : Int) (aA : BA) (aH : Int) (aF aI : LD) (aM : Int) (aN : BA) (aU : Int) (aO bF : LD) (K : Bool → Option β) : Option β := YS.body k (Yu.f k) (YS.f k) aB aA aH aF aI aM aN aU aO bF K
theorem YS.t_succ (k : Nat) (aB : Int) (aA : BA) (aH : Int) (aF aI : LD) (aM : Int) (aN : BA) (aU : Int) (aO bF : LD) : YS.t (k + 1) aB aA aH aF aI aM aN aU aO bF = YS.g k aB aA aH aF aI aM aN aU aO bF (fun z0 => some z0) := rfl
noncomputable def Yu.e (k : Nat) : Zj := ent [.d .l,.d .l] [1] [.b] [4] false (Yu.t k)
noncomputable def YS.e (k : Nat) : Zj := ent [.agg [.n,.s,.n,.l,.l],.agg [.n,.s,.n,.l,.l]] [1] [.b] [4] false (YS.t k)
noncomputable def Yu.p (k : Nat) : Pro := ⟨Tryz.prog,[(21,YS.e k)],Zv [(4,kp [0,1,5])] false [],k⟩
noncomputable def Yu.d (k : Nat) (a0 a1 : LD) : Ex → St → Option (Bool) := (Yu.p k).fin Tryz.f63 [.d (.sl a0),.d (.sl a1)] [1] [.b]
noncomputable def Yu.s0 (aC aD : LD) (v : Int) : St :=
 match v with
 | aJ => ZaA 27 [(0,.d false (.sl aC)),(1,.d false (.sl aD)),(5,.d true (.int .i64 aJ))] []
noncomputable def Yu.r0 (k : Nat) (a0 a1 aC aD : LD) (n : Nat) (v : Int) : Option (Bool) := (Yu.p k).lp (ZI Tryz.f63) 4 [1,1,0,1,0] (Yu.d k a0 a1) n (Yu.s0 aC aD v)
theorem Yu.l0_eq (k : Nat) (a0 a1 aC aD : LD) : ∀ n v,Yu.r0 k a0 a1 aC aD n v = ZA (Yu.l0 k (Yu.f k) (YS.f k) aC aD (fun z0 => some z0)) n v :=
 Zz (Yu.s0 aC aD) _ fun L0 v => by kernel_rfl
noncomputable def YS.p (k : Nat) : Pro := ⟨Tryz.prog,[(62,YD.e k),(63,Yu.e k)],Zv [] false [],k⟩
theorem Yu.oks (k : Nat) : Zf Tryz.prog 63 (Yu.e k) ∧ Zf Tryz.prog 21 (YS.e k) := by
 induction k with
 | zero => exact ⟨Zba Tryz.func63 (by kernel_rfl) (fun _ _ => rfl),
  Zba Tryz.func21 (by kernel_rfl) (fun _ _ _ _ _ _ _ _ _ _ => rfl)⟩
 | succ k ih => exact ⟨Zk (Yu.p k) mix tyok Tryz.func63 ih.2 (by kernel_rfl) (fun a0 a1 => Eq.trans (b := Yu.m k (Yu.f k) (YS.f k) a0 a1 (fun z0 => some z0) (fun aC aD => Yu.r0 k a0 a1 aC aD k)) (by kernel_rfl) ((congrArg (Yu.m k (Yu.f k) (YS.f k) a0 a1 (fun z0 => some z0)) (funext fun aC => funext fun aD => funext fun v => Yu.l0_eq k a0 a1 aC aD k v)).trans (Yu.t_succ k a0 a1).symm)),
  Zk (YS.p k) mix tyok Tryz.func21 ⟨YD.ok k,ih.1⟩ (by kernel_rfl) (fun aB aA aH aF aI aM aN aU aO bF => by show _ = _; kernel_rfl)⟩
theorem YS.ok (k : Nat) : Zf Tryz.prog 21 (YS.e k) := (Yu.oks k).2
noncomputable def YaG.g {β : Type} (k : Nat) (aB : Int) (aA : BA) (aH aF aI : Int) (bD : Bool) (aV : LD) (bA : Int) (aP : BA) (bB : Int) (aQ aW : LD) (aY : Int) (aR : BA) (bC : Int) (aT aX : LD) (aM : Int) (aN : BA) (aU aO bF : Int) (bH : Bool) (bI : LD) (bJ : Int) (bK : BA) (bL : Int) (bM bN : LD) (bO : Int) (bP : BA) (bQ : Int) (bR bT : LD) (K : Bool → Option β) : Option β :=
 bif ((aB : Int) != aM) then (K false) else (bif (!(Zae aA aN)) then (K false) else (bif ((aH : Int) != aU) then (K false) else (bif ((aF : Int) != aO) then (K false) else (bif ((aI : Int) != bF) then (K false) else (bif (!(bD == bH)) then (K false) else (YD.f k aV bI (fun y17 => bif (!y17) then (K false) else (YS.f k bA aP bB aQ aW bJ bK bL bM bN (fun y68 => bif (!y68) then (K false) else (YS.f k aY aR bC aT aX bO bP bQ bR bT (fun y69 => bif (!y69) then (K false) else (K true))))))))))))
noncomputable def YaG.t (k : Nat) (aB : Int) (aA : BA) (aH aF aI : Int) (bD : Bool) (aV : LD) (bA : Int) (aP : BA) (bB : Int) (aQ aW : LD) (aY : Int) (aR : BA) (bC : Int) (aT aX : LD) (aM : Int) (aN : BA) (aU aO bF : Int) (bH : Bool) (bI : LD) (bJ : Int) (bK : BA) (bL : Int) (bM bN : LD) (bO : Int) (bP : BA) (bQ : Int) (bR bT : LD) : Option (Bool) := YaG.g k aB aA aH aF aI bD aV bA aP bB aQ aW aY aR bC aT aX aM aN aU aO bF bH bI bJ bK bL bM bN bO bP bQ bR bT (fun z0 => some z0)
noncomputable def YaG.f {β : Type} (k : Nat) (aB : Int) (aA : BA) (aH aF aI : Int) (bD : Bool) (aV : LD) (bA : Int) (aP : BA) (bB : Int) (aQ aW : LD) (aY : Int) (aR : BA) (bC : Int) (aT aX : LD) (aM : Int) (aN : BA) (aU aO bF : Int) (bH : Bool) (bI : LD) (bJ : Int) (bK : BA) (bL : Int) (bM bN : LD) (bO : Int) (bP : BA) (bQ : Int) (bR bT : LD) (K : Bool → Option β) : Option β := bd1 (YaG.t k aB aA aH aF aI bD aV bA aP bB aQ aW aY aR bC aT aX aM aN aU aO bF bH bI bJ bK bL bM bN bO bP bQ bR bT) K
noncomputable def YaG.e (k : Nat) : Zj := ent [.agg [.n,.s,.n,.n,.n,.b,.l,.n,.s,.n,.l,.l,.n,.s,.n,.l,.l],.agg [.n,.s,.n,.n,.n,.b,.l,.n,.s,.n,.l,.l,.n,.s,.n,.l,.l]] [1] [.b] [4] false (YaG.t k)
noncomputable def YaG.p (k : Nat) : Pro := ⟨Tryz.prog,[(62,YD.e k),(21,YS.e k)],Zv [] false [],k⟩
theorem YaG.ok (k : Nat) : Zf Tryz.prog 104 (YaG.e k) := Zk (YaG.p k) mix tyok Tryz.func104 ⟨YD.ok k,YS.ok k⟩ (by kernel_rfl) (fun aB aA aH aF aI bD aV bA aP bB aQ aW aY aR bC aT aX aM aN aU aO bF bH bI bJ bK bL bM bN bO bP bQ bR bT => by show _ = _; kernel_rfl)
noncomputable def YZ.l0 {β : Type} (k : Nat) (aC aD : LD) (K : Bool → Option β) (L0 : Int → Option β) (v : Int) : Option β :=
 match v with
 | aJ => bif (decide ((aJ : Int) < (aC.length : Int))) then (atR aC aJ [.n,.s,.n,.n,.n,.b,.l,.n,.s,.n,.l,.l,.n,.s,.n,.l,.l] fun x109 x112 x115 x118 x121 x124 x127 x130 x133 x136 x139 x142 x145 x148 x151 x154 x157 => (atR aD aJ [.n,.s,.n,.n,.n,.b,.l,.n,.s,.n,.l,.l,.n,.s,.n,.l,.l] fun x161 x164 x167 x170 x173 x176 x179 x182 x185 x188 x191 x194 x197 x200 x203 x206 x209 => (YaG.f k x109 x112 x115 x118 x121 x124 x127 x130 x133 x136 x139 x142 x145 x148 x151 x154 x157 x161 x164 x167 x170 x173 x176 x179 x182 x185 x188 x191 x194 x197 x200 x203 x206 x209 (fun y210 => bif (!y210) then (K false) else (L0 (IntKind.wrap .i64 (aJ + 1))))))) else (K true)
noncomputable def YZ.m {β : Type} (k : Nat) (a0 a1 : LD) (K : Bool → Option β) (F : (LD → LD → Int → Option β)) : Option β :=
 bif (((a0.length : Int) : Int) != (a1.length : Int)) then (K false) else (F a0 a1 (0))
noncomputable def YZ.g {β : Type} (k : Nat) (a0 a1 : LD) (K : Bool → Option β) : Option β :=
 bif (((a0.length : Int) : Int) != (a1.length : Int)) then (K false) else (ZA (YZ.l0 k a0 a1 K) k (0))
noncomputable def YZ.t (k : Nat) (a0 a1 : LD) : Option (Bool) := YZ.g k a0 a1 (fun z0 => some z0)
noncomputable def YZ.f {β : Type} (k : Nat) (a0 a1 : LD) (K : Bool → Option β) : Option β := bd1 (YZ.t k a0 a1) K
noncomputable def YZ.e (k : Nat) : Zj := ent [.d .l,.d .l] [1] [.b] [4] false (YZ.t k)
noncomputable def YZ.p (k : Nat) : Pro := ⟨Tryz.prog,[(104,YaG.e k)],Zv [(4,kp [0,1,5])] false [],k⟩
noncomputable def YZ.d (k : Nat) (a0 a1 : LD) : Ex → St → Option (Bool) := (YZ.p k).fin Tryz.f41 [.d (.sl a0),.d (.sl a1)] [1] [.b]
noncomputable def YZ.s0 (aC aD : LD) (v : Int) : St :=
 match v with
 | aJ => ZaA 27 [(0,.d false (.sl aC)),(1,.d false (.sl aD)),(5,.d true (.int .i64 aJ))] []
noncomputable def YZ.r0 (k : Nat) (a0 a1 aC aD : LD) (n : Nat) (v : Int) : Option (Bool) := (YZ.p k).lp (ZI Tryz.f41) 4 [1,1,0,1,0] (YZ.d k a0 a1) n (YZ.s0 aC aD v)
theorem YZ.l0_eq (k : Nat) (a0 a1 aC aD : LD) : ∀ n v,YZ.r0 k a0 a1 aC aD n v = ZA (YZ.l0 k aC aD (fun z0 => some z0)) n v :=
 Zz (YZ.s0 aC aD) _ fun L0 v => by kernel_rfl
theorem YZ.ok (k : Nat) : Zf Tryz.prog 41 (YZ.e k) := Zk (YZ.p k) mix tyok Tryz.func41 (YaG.ok k) (by kernel_rfl) (fun a0 a1 => Eq.trans (b := YZ.m k a0 a1 (fun z0 => some z0) (fun aC aD => YZ.r0 k a0 a1 aC aD k)) (by kernel_rfl) (congrArg (YZ.m k a0 a1 (fun z0 => some z0)) (funext fun aC => funext fun aD => funext fun v => YZ.l0_eq k a0 a1 aC aD k v) :))
noncomputable def Yad.g {β : Type} (k : Nat) (aB : Int) (aA : LD) (aM : Int) (aN : LD) (K : Bool → Option β) : Option β :=
 bif ((aB : Int) != aM) then (K false) else (YZ.f k aA aN (fun y211 => bif (!y211) then (K false) else (K true)))
noncomputable def Yad.t (k : Nat) (aB : Int) (aA : LD) (aM : Int) (aN : LD) : Option (Bool) := Yad.g k aB aA aM aN (fun z0 => some z0)
noncomputable def Yad.f {β : Type} (k : Nat) (aB : Int) (aA : LD) (aM : Int) (aN : LD) (K : Bool → Option β) : Option β := bd1 (Yad.t k aB aA aM aN) K
noncomputable def Yad.e (k : Nat) : Zj := ent [.agg [.n,.l],.agg [.n,.l]] [1] [.b] [4] false (Yad.t k)
noncomputable def Yad.p (k : Nat) : Pro := ⟨Tryz.prog,[(41,YZ.e k)],Zv [] false [],k⟩
theorem Yad.ok (k : Nat) : Zf Tryz.prog 12 (Yad.e k) := Zk (Yad.p k) mix tyok Tryz.func12 (YZ.ok k) (by kernel_rfl) (fun aB aA aM aN => by show _ = _; kernel_rfl)
noncomputable def YaA.g {β : Type} (k : Nat) (aB : Int) (aA : Bool) (aH : Int) (aF : BA) (aI bD aV : Int) (bA : Bool) (aP : LD) (bB : Int) (aQ : BA) (aW : Int) (aY aR : LD) (bC : Int) (aT : BA) (aX : Int) (bZ cA : LD) (aM : Int) (aN : Bool) (aU : Int) (aO : BA) (bF bH bI : Int) (bJ : Bool) (bK : LD) (bL : Int) (bM : BA) (bN : Int) (bO bP : LD) (bQ : Int) (bR : BA) (bT : Int) (a1_17 a1_18 : LD) (K : Bool → Option β) : Option β :=
 bif ((aB : Int) != aM) then (K false) else (bif (!(aA == aN)) then (K false) else (YaG.f k aH aF aI bD aV bA aP bB aQ aW aY aR bC aT aX bZ cA aU aO bF bH bI bJ bK bL bM bN bO bP bQ bR bT a1_17 a1_18 (fun y1 => bif (!y1) then (K false) else (K true))))
noncomputable def YaA.t (k : Nat) (aB : Int) (aA : Bool) (aH : Int) (aF : BA) (aI bD aV : Int) (bA : Bool) (aP : LD) (bB : Int) (aQ : BA) (aW : Int) (aY aR : LD) (bC : Int) (aT : BA) (aX : Int) (bZ cA : LD) (aM : Int) (aN : Bool) (aU : Int) (aO : BA) (bF bH bI : Int) (bJ : Bool) (bK : LD) (bL : Int) (bM : BA) (bN : Int) (bO bP : LD) (bQ : Int) (bR : BA) (bT : Int) (a1_17 a1_18 : LD) : Option (Bool) := YaA.g k aB aA aH aF aI bD aV bA aP bB aQ aW aY aR bC aT aX bZ cA aM aN aU aO bF bH bI bJ bK bL bM bN bO bP bQ bR bT a1_17 a1_18 (fun z0 => some z0)
noncomputable def YaA.f {β : Type} (k : Nat) (aB : Int) (aA : Bool) (aH : Int) (aF : BA) (aI bD aV : Int) (bA : Bool) (aP : LD) (bB : Int) (aQ : BA) (aW : Int) (aY aR : LD) (bC : Int) (aT : BA) (aX : Int) (bZ cA : LD) (aM : Int) (aN : Bool) (aU : Int) (aO : BA) (bF bH bI : Int) (bJ : Bool) (bK : LD) (bL : Int) (bM : BA) (bN : Int) (bO bP : LD) (bQ : Int) (bR : BA) (bT : Int) (a1_17 a1_18 : LD) (K : Bool → Option β) : Option β := bd1 (YaA.t k aB aA aH aF aI bD aV bA aP bB aQ aW aY aR bC aT aX bZ cA aM aN aU aO bF bH bI bJ bK bL bM bN bO bP bQ bR bT a1_17 a1_18) K
noncomputable def YaA.e (k : Nat) : Zj := ent [.agg [.n,.b,.n,.s,.n,.n,.n,.b,.l,.n,.s,.n,.l,.l,.n,.s,.n,.l,.l],.agg [.n,.b,.n,.s,.n,.n,.n,.b,.l,.n,.s,.n,.l,.l,.n,.s,.n,.l,.l]] [1] [.b] [4] false (YaA.t k)
noncomputable def YaA.p (k : Nat) : Pro := ⟨Tryz.prog,[(104,YaG.e k)],Zv [] false [],k⟩
theorem YaA.ok (k : Nat) : Zf Tryz.prog 105 (YaA.e k) := Zk (YaA.p k) mix tyok Tryz.func105 (YaG.ok k) (by kernel_rfl) (fun aB aA aH aF aI bD aV bA aP bB aQ aW aY aR bC aT aX bZ cA aM aN aU aO bF bH bI bJ bK bL bM bN bO bP bQ bR bT a1_17 a1_18 => by show _ = _; kernel_rfl)
noncomputable def YM.l0 {β : Type} (k : Nat) (aC aD : LD) (K : Bool → Option β) (L0 : Int → Option β) (v : Int) : Option β :=
 match v with
 | aJ => bif (decide ((aJ : Int) < (aC.length : Int))) then (atR aC aJ [.n,.b,.n,.s,.n,.n,.n,.b,.l,.n,.s,.n,.l,.l,.n,.s,.n,.l,.l] fun x121 x124 x127 x130 x133 x136 x139 x142 x145 x148 x151 x154 x157 x160 x163 x166 x169 x172 x175 => (atR aD aJ [.n,.b,.n,.s,.n,.n,.n,.b,.l,.n,.s,.n,.l,.l,.n,.s,.n,.l,.l] fun x179 x182 x185 x188 x191 x194 x197 x200 x203 x206 x209 x212 x215 x218 x221 x224 x227 x230 x233 => (YaA.f k x121 x124 x127 x130 x133 x136 x139 x142 x145 x148 x151 x154 x157 x160 x163 x166 x169 x172 x175 x179 x182 x185 x188 x191 x194 x197 x200 x203 x206 x209 x212 x215 x218 x221 x224 x227 x230 x233 (fun y234 => bif (!y234) then (K false) else (L0 (IntKind.wrap .i64 (aJ + 1))))))) else (K true)
noncomputable def YM.m {β : Type} (k : Nat) (a0 a1 : LD) (K : Bool → Option β) (F : (LD → LD → Int → Option β)) : Option β :=
 bif (((a0.length : Int) : Int) != (a1.length : Int)) then (K false) else (F a0 a1 (0))
noncomputable def YM.g {β : Type} (k : Nat) (a0 a1 : LD) (K : Bool → Option β) : Option β :=
 bif (((a0.length : Int) : Int) != (a1.length : Int)) then (K false) else (ZA (YM.l0 k a0 a1 K) k (0))
noncomputable def YM.t (k : Nat) (a0 a1 : LD) : Option (Bool) := YM.g k a0 a1 (fun z0 => some z0)
noncomputable def YM.f {β : Type} (k : Nat) (a0 a1 : LD) (K : Bool → Option β) : Option β := bd1 (YM.t k a0 a1) K
noncomputable def YM.e (k : Nat) : Zj := ent [.d .l,.d .l] [1] [.b] [4] false (YM.t k)
noncomputable def YM.p (k : Nat) : Pro := ⟨Tryz.prog,[(105,YaA.e k)],Zv [(4,kp [0,1,5])] false [],k⟩
noncomputable def YM.d (k : Nat) (a0 a1 : LD) : Ex → St → Option (Bool) := (YM.p k).fin Tryz.f42 [.d (.sl a0),.d (.sl a1)] [1] [.b]
noncomputable def YM.s0 (aC aD : LD) (v : Int) : St :=
 match v with
 | aJ => ZaA 27 [(0,.d false (.sl aC)),(1,.d false (.sl aD)),(5,.d true (.int .i64 aJ))] []
noncomputable def YM.r0 (k : Nat) (a0 a1 aC aD : LD) (n : Nat) (v : Int) : Option (Bool) := (YM.p k).lp (ZI Tryz.f42) 4 [1,1,0,1,0] (YM.d k a0 a1) n (YM.s0 aC aD v)
theorem YM.l0_eq (k : Nat) (a0 a1 aC aD : LD) : ∀ n v,YM.r0 k a0 a1 aC aD n v = ZA (YM.l0 k aC aD (fun z0 => some z0)) n v :=
 Zz (YM.s0 aC aD) _ fun L0 v => by kernel_rfl
theorem YM.ok (k : Nat) : Zf Tryz.prog 42 (YM.e k) := Zk (YM.p k) mix tyok Tryz.func42 (YaA.ok k) (by kernel_rfl) (fun a0 a1 => Eq.trans (b := YM.m k a0 a1 (fun z0 => some z0) (fun aC aD => YM.r0 k a0 a1 aC aD k)) (by kernel_rfl) (congrArg (YM.m k a0 a1 (fun z0 => some z0)) (funext fun aC => funext fun aD => funext fun v => YM.l0_eq k a0 a1 aC aD k v) :))
noncomputable def YaK.g {β : Type} (k : Nat) (aB : LD) (aA aH : Int) (aF aM : LD) (aN aU : Int) (aO : LD) (K : Bool → Option β) : Option β :=
 YZ.f k aB aM (fun y1 => bif (!y1) then (K false) else (bif ((aA : Int) != aN) then (K false) else (bif ((aH : Int) != aU) then (K false) else (YM.f k aF aO (fun y235 => bif (!y235) then (K false) else (K true))))))
noncomputable def YaK.t (k : Nat) (aB : LD) (aA aH : Int) (aF aM : LD) (aN aU : Int) (aO : LD) : Option (Bool) := YaK.g k aB aA aH aF aM aN aU aO (fun z0 => some z0)
noncomputable def YaK.f {β : Type} (k : Nat) (aB : LD) (aA aH : Int) (aF aM : LD) (aN aU : Int) (aO : LD) (K : Bool → Option β) : Option β := bd1 (YaK.t k aB aA aH aF aM aN aU aO) K
noncomputable def YaK.e (k : Nat) : Zj := ent [.agg [.l,.n,.n,.l],.agg [.l,.n,.n,.l]] [1] [.b] [4] false (YaK.t k)
noncomputable def YaK.p (k : Nat) : Pro := ⟨Tryz.prog,[(41,YZ.e k),(42,YM.e k)],Zv [] false [],k⟩
theorem YaK.ok (k : Nat) : Zf Tryz.prog 13 (YaK.e k) := Zk (YaK.p k) mix tyok Tryz.func13 ⟨YZ.ok k,YM.ok k⟩ (by kernel_rfl) (fun aB aA aH aF aM aN aU aO => by show _ = _; kernel_rfl)
noncomputable def Yg.l0 {β : Type} (k : Nat) (K : BA → Option β) (L0 : (Int × BA) → Option β) (v : Int × BA) : Option β :=
 match v with
 | (aC,aD) => bif (decide ((aC : Int) > 0)) then (let J0 := (⟨#[UInt8.ofNat (Int.toNat (IntKind.wrap .u8 (IntKind.wrap .i64 (48 + (Int.tmod aC 10)))))]⟩ : BA); Zd ((10 : Int) ≠ 0) (Zd (((J0.size + aD.size : Nat) : Int) ≤ 9223372036854775807) (Zd ((10 : Int) ≠ 0) (L0 (IntKind.wrap .i64 (Int.tdiv aC 10),J0 ++ aD))))) else (Zd ((((⟨#[109]⟩ : BA).size + aD.size : Nat) : Int) ≤ 9223372036854775807) (K ((⟨#[109]⟩ : BA) ++ aD)))
noncomputable def Yg.m {β : Type} (k : Nat) (a0 : Int) (K : BA → Option β) (F : ((Int × BA) → Option β)) : Option β :=
 bif (decide ((a0 : Int) ≤ 0)) then (K (⟨#[109,48]⟩ : BA)) else (F (a0,(⟨#[]⟩ : BA)))
noncomputable def Yg.g {β : Type} (k : Nat) (a0 : Int) (K : BA → Option β) : Option β :=
 bif (decide ((a0 : Int) ≤ 0)) then (K (⟨#[109,48]⟩ : BA)) else (ZA (Yg.l0 k K) k (a0,(⟨#[]⟩ : BA)))
noncomputable def Yg.t (k : Nat) (a0 : Int) : Option (BA) := Yg.g k a0 (fun z0 => some z0)
noncomputable def Yg.f {β : Type} (k : Nat) (a0 : Int) (K : BA → Option β) : Option β := bd1 (Yg.t k a0) K
noncomputable def Yg.e (k : Nat) : Zj := ent [.d .n] [1] [.s] [9] false (Yg.t k)
noncomputable def Yg.p (k : Nat) : Pro := ⟨Tryz.prog,[],Zv [(4,kp [3] [(0,.dat false)])] false [],k⟩
noncomputable def Yg.d (k : Nat) (a0 : Int) : Ex → St → Option (BA) := (Yg.p k).fin Tryz.f106 [.d (.int .i64 a0)] [1] [.s]
noncomputable def Yg.s0 (v : Int × BA) : St :=
 match v with
 | (aC,aD) => ZaA 20 [(0,.d false (.int .i64 aC)),(3,.d true (.str aD))] []
noncomputable def Yg.r0 (k : Nat) (a0 : Int) (n : Nat) (v : Int × BA) : Option (BA) := (Yg.p k).lp (ZI Tryz.f106) 4 [1,1,1,0,0] (Yg.d k a0) n (Yg.s0 v)
theorem Yg.l0_eq (k : Nat) (a0 : Int) : ∀ n v,Yg.r0 k a0 n v = ZA (Yg.l0 k (fun z0 => some z0)) n v :=
 Zz (Yg.s0) _ fun L0 v => by obtain ⟨aC,aD⟩ := v; kernel_rfl
theorem Yg.ok (k : Nat) : Zf Tryz.prog 106 (Yg.e k) := Zk (Yg.p k) mix tyok Tryz.func106 trivial (by kernel_rfl) (fun a0 => Eq.trans (b := Yg.m k a0 (fun z0 => some z0) (Yg.r0 k a0 k)) (by kernel_rfl) (congrArg (Yg.m k a0 (fun z0 => some z0)) (funext fun v => Yg.l0_eq k a0 k v) :))
noncomputable def Yl.l0 {β : Type} (k : Nat) (K : Int → LC → Option β) (L0 : (Int × Int × LC) → Option β) (v : Int × Int × LC) : Option β :=
 match v with
 | (aC,aD,aJ) => bif (decide ((aD : Int) < (aJ.length : Int))) then (Yg.f k aC (fun y2 => Zd ((0 : Int) ≤ aD ∧ aD < (aJ.length : Int)) (Zd (Int.toNat aD < aJ.length) (L0 (IntKind.wrap .i64 (aC + 1),IntKind.wrap .i64 (aD + 1),aJ.modify (Int.toNat aD) fun c => Zs c 0 [.d (.str y2)]))))) else (K aC aJ)
noncomputable def Yl.m {β : Type} (k : Nat) (a0 : LC) (a1 : Int) (K : Int → LC → Option β) (F : ((Int × Int × LC) → Option β)) : Option β :=
 F (a1,0,a0)
noncomputable def Yl.g {β : Type} (k : Nat) (a0 : LC) (a1 : Int) (K : Int → LC → Option β) : Option β :=
 ZA (Yl.l0 k K) k (a1,0,a0)
noncomputable def Yl.t (k : Nat) (a0 : LC) (a1 : Int) : Option (Int × LC) := Yl.g k a0 a1 (fun z0 z1 => some (z0,z1))
noncomputable def Yl.f {β : Type} (k : Nat) (a0 : LC) (a1 : Int) (K : Int → LC → Option β) : Option β := bd2 (Yl.t k a0 a1) K
noncomputable def Yl.e (k : Nat) : Zj := ent [.own false 45 [.o],.d .n] [1] [.n,.o] [3] false (Yl.t k)
noncomputable def Yl.p (k : Nat) : Pro := ⟨Tryz.prog,[(106,Yg.e k)],Zv [(2,kp [0,5] [(1,.dat false)])] false [],k⟩
noncomputable def Yl.d (k : Nat) (a0 : LC) (a1 : Int) : Ex → St → Option (Int × LC) := (Yl.p k).fin Tryz.f64 [.own false [.own a0],.d (.int .i64 a1)] [1] [.n,.o]
noncomputable def Yl.s0 (v : Int × Int × LC) : St :=
 match v with
 | (aC,aD,aJ) => ZaA 20 [(0,.row 0),(1,.d false (.int .i64 aC)),(5,.d true (.int .i64 aD))] [.row (some 0) false 45 aJ]
noncomputable def Yl.r0 (k : Nat) (a0 : LC) (a1 : Int) (n : Nat) (v : Int × Int × LC) : Option (Int × LC) := (Yl.p k).lp (ZI Tryz.f64) 2 [1,0,1,0] (Yl.d k a0 a1) n (Yl.s0 v)
theorem Yl.l0_eq (k : Nat) (a0 : LC) (a1 : Int) : ∀ n v,Yl.r0 k a0 a1 n v = ZA (Yl.l0 k (fun z0 z1 => some (z0,z1))) n v :=
 Zz (Yl.s0) _ fun L0 v => by obtain ⟨aC,aD,aJ⟩ := v; kernel_rfl
theorem Yl.ok (k : Nat) : Zf Tryz.prog 64 (Yl.e k) := Zk (Yl.p k) mix tyok Tryz.func64 (Yg.ok k) (by kernel_rfl) (fun a0 a1 => Eq.trans (b := Yl.m k a0 a1 (fun z0 z1 => some (z0,z1)) (Yl.r0 k a0 a1 k)) (by kernel_rfl) (congrArg (Yl.m k a0 a1 (fun z0 z1 => some (z0,z1))) (funext fun v => Yl.l0_eq k a0 a1 k v) :))
noncomputable def Yi.l0 {β : Type} (k : Nat) (r_laws_markValueS : LC → Int → (Int → LC → Option β) → Option β) (K : Int → LC → Option β) (L0 : (Int × Int × LC) → Option β) (v : Int × Int × LC) : Option β :=
 match v with
 | (aC,aD,aJ) => bif (decide ((aD : Int) < (aJ.length : Int))) then (Zd ((0 : Int) ≤ aD ∧ aD < (aJ.length : Int)) (Zd (Int.toNat aD < aJ.length) (Yg.f k (IntKind.wrap .i64 (aC + 1)) (fun y14 => let J3 := (aJ.modify (Int.toNat aD) fun c => Zs c 0 [.d (.int .i64 aC)]); let J2 := (J3.modify (Int.toNat aD) fun c => Zs c 1 [.d (.str y14)]); let J1 := (J2.modify (Int.toNat aD) fun c => Zs c 2 [.d (.int .i64 (IntKind.wrap .i64 ((IntKind.wrap .i64 (aC + 1)) + 1)))]); Zd ((0 : Int) ≤ aD ∧ aD < (J3.length : Int)) (Zd (Int.toNat aD < J3.length) (Zd ((0 : Int) ≤ aD ∧ aD < (J2.length : Int)) (Zd (Int.toNat aD < J2.length) (Zd ((0 : Int) ≤ aD ∧ aD < (J1.length : Int)) (ZaR J1 (Int.toNat aD) fun c15 => ZaJ (c15.drop 3) fun c16 r17 => cOwn c16 fun y18 => Yl.f k y18 (IntKind.wrap .i64 ((IntKind.wrap .i64 ((IntKind.wrap .i64 (aC + 1)) + 1)) + 1)) (fun y19 y20 => let J0 := (J1.modify (Int.toNat aD) fun r => r.set 3 (.own y20)); Zd ((0 : Int) ≤ aD ∧ aD < (J0.length : Int)) (ZaR J0 (Int.toNat aD) fun c21 => ZaJ (c21.drop 4) fun c22 r23 => cOwn c22 fun y24 => r_laws_markValueS y24 y19 (fun y25 y26 => L0 (y25,IntKind.wrap .i64 (aD + 1),J0.modify (Int.toNat aD) fun r => r.set 4 (.own y26)))))))))))))) else (K aC aJ)
noncomputable def Yi.m {β : Type} (k : Nat) (r_laws_markValueS : LC → Int → (Int → LC → Option β) → Option β) (a0 : LC) (a1 : Int) (K : Int → LC → Option β) (F : ((Int × Int × LC) → Option β)) : Option β :=
 F (a1,0,a0)
noncomputable def Yi.body {β : Type} (k : Nat) (r_laws_markValueS : LC → Int → (Int → LC → Option β) → Option β) (a0 : LC) (a1 : Int) (K : Int → LC → Option β) : Option β :=
 ZA (Yi.l0 k r_laws_markValueS K) k (a1,0,a0)
noncomputable def Yi.w {β : Type} (r : LC → Int → Option (Int × LC)) (a0 : LC) (a1 : Int) (K : Int → LC → Option β) : Option β := bd2 (r a0 a1) K
noncomputable def Yi.all : Nat → (LC → Int → Option (Int × LC))
 | 0 => (fun _ _ => none)
 | k + 1 => (fun r => (fun a0 a1 => Yi.body k (Yi.w r) a0 a1 (fun z0 z1 => some (z0,z1)))) (Yi.all k)
noncomputable def Yi.t (k : Nat) (a0 : LC) (a1 : Int) : Option (Int × LC) := (Yi.all k) a0 a1
noncomputable def Yi.f {β : Type} (k : Nat) (a0 : LC) (a1 : Int) (K : Int → LC → Option β) : Option β := Yi.w (Yi.t k) a0 a1 K
noncomputable def Yi.g {β : Type} (k : Nat) (a0 : LC) (a1 : Int) (K : Int → LC → Option β) : Option β := Yi.body k (Yi.f k) a0 a1 K
theorem Yi.t_succ (k : Nat) (a0 : LC) (a1 : Int) : Yi.t (k + 1) a0 a1 = Yi.g k a0 a1 (fun z0 z1 => some (z0,z1)) := rfl
noncomputable def Yi.e (k : Nat) : Zj := ent [.own false 52 [.o],.d .n] [1] [.n,.o] [3] false (Yi.t k)
noncomputable def Yi.p (k : Nat) : Pro := ⟨Tryz.prog,[(106,Yg.e k),(64,Yl.e k),(65,Yi.e k)],Zv [(2,kp [0,5] [(1,.dat false)])] false [],k⟩
noncomputable def Yi.d (k : Nat) (a0 : LC) (a1 : Int) : Ex → St → Option (Int × LC) := (Yi.p k).fin Tryz.f65 [.own false [.own a0],.d (.int .i64 a1)] [1] [.n,.o]
noncomputable def Yi.s0 (v : Int × Int × LC) : St :=
 match v with
 | (aC,aD,aJ) => ZaA 49 [(0,.row 0),(1,.d false (.int .i64 aC)),(5,.d true (.int .i64 aD))] [.row (some 0) false 52 aJ]
noncomputable def Yi.r0 (k : Nat) (a0 : LC) (a1 : Int) (n : Nat) (v : Int × Int × LC) : Option (Int × LC) := (Yi.p k).lp (ZI Tryz.f65) 2 [1,0,1,0] (Yi.d k a0 a1) n (Yi.s0 v)
theorem Yi.l0_eq (k : Nat) (a0 : LC) (a1 : Int) : ∀ n v,Yi.r0 k a0 a1 n v = ZA (Yi.l0 k (Yi.f k) (fun z0 z1 => some (z0,z1))) n v :=
 Zz (Yi.s0) _ fun L0 v => by obtain ⟨aC,aD,aJ⟩ := v; kernel_rfl
theorem Yi.oks (k : Nat) : Zf Tryz.prog 65 (Yi.e k) := by
 induction k with
 | zero => exact Zba Tryz.func65 (by kernel_rfl) (fun _ _ => rfl)
 | succ k ih => exact Zk (Yi.p k) mix tyok Tryz.func65 ⟨Yg.ok k,Yl.ok k,ih⟩ (by kernel_rfl) (fun a0 a1 => Eq.trans (b := Yi.m k (Yi.f k) a0 a1 (fun z0 z1 => some (z0,z1)) (Yi.r0 k a0 a1 k)) (by kernel_rfl) ((congrArg (Yi.m k (Yi.f k) a0 a1 (fun z0 z1 => some (z0,z1))) (funext fun v => Yi.l0_eq k a0 a1 k v)).trans (Yi.t_succ k a0 a1).symm))
theorem Yi.ok (k : Nat) : Zf Tryz.prog 65 (Yi.e k) := (Yi.oks k)
set_option maxRecDepth 100000 in
noncomputable def YI.l0 {β : Type} (k : Nat) (K : Int → LC → Option β) (L0 : (Int × Int × LC) → Option β) (v : Int × Int × LC) : Option β :=
 match v with
 | (aC,aD,aJ) => bif (decide ((aD : Int) < (aJ.length : Int))) then (Zd ((0 : Int) ≤ aD ∧ aD < (aJ.length : Int)) (Zd (Int.toNat aD < aJ.length) (Yg.f k (IntKind.wrap .i64 (aC + 1)) (fun y34 => let J18 := (aJ.modify (Int.toNat aD) fun c => Zs c 0 [.d (.int .i64 aC)]); let J14 := (J18.modify (Int.toNat aD) fun c => Zs c 1 [.d (.str y34)]); let J13 := (J14.modify (Int.toNat aD) fun c => Zs c 2 [.d (.int .i64 (IntKind.wrap .i64 ((IntKind.wrap .i64 (aC + 1)) + 1)))]); let J17 := (IntKind.wrap .i64 ((IntKind.wrap .i64 ((IntKind.wrap .i64 (aC + 1)) + 1)) + 1)); let J12 := (J13.modify (Int.toNat aD) fun c => Zs c 3 [.d (.int .i64 J17)]); let J16 := (IntKind.wrap .i64 (J17 + 1)); let J11 := (J12.modify (Int.toNat aD) fun c => Zs c 4 [.d (.int .i64 J16)]); let J15 := (IntKind.wrap .i64 (J16 + 1)); let J10 := (J11.modify (Int.toNat aD) fun c => Zs c 5 [.d (.bool (((Int.tmod J15 3) : Int) == 0))]); Zd ((0 : Int) ≤ aD ∧ aD < (J18.length : Int)) (Zd (Int.toNat aD < J18.length) (Zd ((0 : Int) ≤ aD ∧ aD < (J14.length : Int)) (Zd (Int.toNat aD < J14.length) (Zd ((0 : Int) ≤ aD ∧ aD < (J13.length : Int)) (Zd (Int.toNat aD < J13.length) (Zd ((0 : Int) ≤ aD ∧ aD < (J12.length : Int)) (Zd (Int.toNat aD < J12.length) (Zd ((3 : Int) ≠ 0) (Zd ((0 : Int) ≤ aD ∧ aD < (J11.length : Int)) (Zd (Int.toNat aD < J11.length) (Zd ((0 : Int) ≤ aD ∧ aD < (J10.length : Int)) (ZaR J10 (Int.toNat aD) fun c35 => ZaJ (c35.drop 6) fun c36 r37 => cOwn c36 fun y38 => Yl.f k y38 (IntKind.wrap .i64 (J15 + 1)) (fun y39 y40 => let J9 := (J10.modify (Int.toNat aD) fun r => r.set 6 (.own y40)); Zd ((0 : Int) ≤ aD ∧ aD < (J9.length : Int)) (Zd (Int.toNat aD < J9.length) (Yg.f k (IntKind.wrap .i64 (y39 + 1)) (fun y41 => let J8 := (J9.modify (Int.toNat aD) fun c => Zs c 7 [.d (.int .i64 y39)]); let J7 := (J8.modify (Int.toNat aD) fun c => Zs c 8 [.d (.str y41)]); let J6 := (J7.modify (Int.toNat aD) fun c => Zs c 9 [.d (.int .i64 (IntKind.wrap .i64 ((IntKind.wrap .i64 (y39 + 1)) + 1)))]); Zd ((0 : Int) ≤ aD ∧ aD < (J8.length : Int)) (Zd (Int.toNat aD < J8.length) (Zd ((0 : Int) ≤ aD ∧ aD < (J7.length : Int)) (Zd (Int.toNat aD < J7.length) (Zd ((0 : Int) ≤ aD ∧ aD < (J6.length : Int)) (ZaR J6 (Int.toNat aD) fun c42 => ZaJ (c42.drop 10) fun c43 r44 => cOwn c43 fun y45 => Yl.f k y45 (IntKind.wrap .i64 ((IntKind.wrap .i64 ((IntKind.wrap .i64 (y39 + 1)) + 1)) + 1)) (fun y46 y47 => let J5 := (J6.modify (Int.toNat aD) fun r => r.set 10 (.own y47)); Zd ((0 : Int) ≤ aD ∧ aD < (J5.length : Int)) (ZaR J5 (Int.toNat aD) fun c48 => ZaJ (c48.drop 11) fun c49 r50 => cOwn c49 fun y51 => Yi.f k y51 y46 (fun y52 y53 => let J4 := (J5.modify (Int.toNat aD) fun r => r.set 11 (.own y53)); Zd ((0 : Int) ≤ aD ∧ aD < (J4.length : Int)) (Zd (Int.toNat aD < J4.length) (Yg.f k (IntKind.wrap .i64 (y52 + 1)) (fun y54 => let J3 := (J4.modify (Int.toNat aD) fun c => Zs c 12 [.d (.int .i64 y52)]); let J2 := (J3.modify (Int.toNat aD) fun c => Zs c 13 [.d (.str y54)]); let J1 := (J2.modify (Int.toNat aD) fun c => Zs c 14 [.d (.int .i64 (IntKind.wrap .i64 ((IntKind.wrap .i64 (y52 + 1)) + 1)))]); Zd ((0 : Int) ≤ aD ∧ aD < (J3.length : Int)) (Zd (Int.toNat aD < J3.length) (Zd ((0 : Int) ≤ aD ∧ aD < (J2.length : Int)) (Zd (Int.toNat aD < J2.length) (Zd ((0 : Int) ≤ aD ∧ aD < (J1.length : Int)) (ZaR J1 (Int.toNat aD) fun c55 => ZaJ (c55.drop 15) fun c56 r57 => cOwn c56 fun y58 => Yl.f k y58 (IntKind.wrap .i64 ((IntKind.wrap .i64 ((IntKind.wrap .i64 (y52 + 1)) + 1)) + 1)) (fun y59 y60 => let J0 := (J1.modify (Int.toNat aD) fun r => r.set 15 (.own y60)); Zd ((0 : Int) ≤ aD ∧ aD < (J0.length : Int)) (ZaR J0 (Int.toNat aD) fun c61 => ZaJ (c61.drop 16) fun c62 r63 => cOwn c62 fun y64 => Yi.f k y64 y59 (fun y65 y66 => L0 (y65,IntKind.wrap .i64 (aD + 1),J0.modify (Int.toNat aD) fun r => r.set 16 (.own y66))))))))))))))))))))))))))))))))))))))))) else (K aC aJ)
noncomputable def YI.m {β : Type} (k : Nat) (a0 : LC) (a1 : Int) (K : Int → LC → Option β) (F : ((Int × Int × LC) → Option β)) : Option β :=
 F (a1,0,a0)
noncomputable def YI.g {β : Type} (k : Nat) (a0 : LC) (a1 : Int) (K : Int → LC → Option β) : Option β :=
 ZA (YI.l0 k K) k (a1,0,a0)
noncomputable def YI.t (k : Nat) (a0 : LC) (a1 : Int) : Option (Int × LC) := YI.g k a0 a1 (fun z0 z1 => some (z0,z1))
noncomputable def YI.f {β : Type} (k : Nat) (a0 : LC) (a1 : Int) (K : Int → LC → Option β) : Option β := bd2 (YI.t k a0 a1) K
noncomputable def YI.e (k : Nat) : Zj := ent [.own false 30 [.o],.d .n] [1] [.n,.o] [3] false (YI.t k)
noncomputable def YI.p (k : Nat) : Pro := ⟨Tryz.prog,[(106,Yg.e k),(64,Yl.e k),(65,Yi.e k)],Zv [(2,kp [0,5] [(1,.dat false)])] false [],k⟩
noncomputable def YI.d (k : Nat) (a0 : LC) (a1 : Int) : Ex → St → Option (Int × LC) := (YI.p k).fin Tryz.f43 [.own false [.own a0],.d (.int .i64 a1)] [1] [.n,.o]
noncomputable def YI.s0 (v : Int × Int × LC) : St :=
 match v with
 | (aC,aD,aJ) => ZaA 147 [(0,.row 0),(1,.d false (.int .i64 aC)),(5,.d true (.int .i64 aD))] [.row (some 0) false 30 aJ]
noncomputable def YI.r0 (k : Nat) (a0 : LC) (a1 : Int) (n : Nat) (v : Int × Int × LC) : Option (Int × LC) := (YI.p k).lp (ZI Tryz.f43) 2 [1,0,1,0] (YI.d k a0 a1) n (YI.s0 v)
theorem YI.l0_eq (k : Nat) (a0 : LC) (a1 : Int) : ∀ n v,YI.r0 k a0 a1 n v = ZA (YI.l0 k (fun z0 z1 => some (z0,z1))) n v :=
 Zz (YI.s0) _ fun L0 v => by obtain ⟨aC,aD,aJ⟩ := v; kernel_rfl
theorem YI.ok (k : Nat) : Zf Tryz.prog 43 (YI.e k) := Zk (YI.p k) mix tyok Tryz.func43 ⟨Yg.ok k,Yl.ok k,Yi.ok k⟩ (by kernel_rfl) (fun a0 a1 => Eq.trans (b := YI.m k a0 a1 (fun z0 z1 => some (z0,z1)) (YI.r0 k a0 a1 k)) (by kernel_rfl) (congrArg (YI.m k a0 a1 (fun z0 z1 => some (z0,z1))) (funext fun v => YI.l0_eq k a0 a1 k v) :))
noncomputable def Yae.g {β : Type} (k : Nat) (aB : Int) (aA : LC) (a1 : Int) (K : Int → LC → Option β) : Option β :=
 YI.f k aA a1 (fun y67 y68 => Zd (y68.length = aA.length) (K y67 y68))
noncomputable def Yae.t (k : Nat) (aB : Int) (aA : LC) (a1 : Int) : Option (Int × LC) := Yae.g k aB aA a1 (fun z0 z1 => some (z0,z1))
noncomputable def Yae.f {β : Type} (k : Nat) (aB : Int) (aA : LC) (a1 : Int) (K : Int → LC → Option β) : Option β := bd2 (Yae.t k aB aA a1) K
noncomputable def Yae.e (k : Nat) : Zj := ent [.own true 32 [.n,.o],.d .n] [1] [.n,.o] [3] false (Yae.t k)
noncomputable def Yae.p (k : Nat) : Pro := ⟨Tryz.prog,[(43,YI.e k)],Zv [] false [],k⟩
theorem Yae.ok (k : Nat) : Zf Tryz.prog 14 (Yae.e k) := Zk (Yae.p k) mix tyok Tryz.func14 (YI.ok k) (by kernel_rfl) (fun aB aA a1 => by show _ = _; kernel_rfl)
set_option maxRecDepth 100000 in
noncomputable def Yz.l0 {β : Type} (k : Nat) (K : Int → LC → Option β) (L0 : (Int × Int × LC) → Option β) (v : Int × Int × LC) : Option β :=
 match v with
 | (aC,aD,aJ) => bif (decide ((aD : Int) < (aJ.length : Int))) then (let J22 := (aJ.modify (Int.toNat aD) fun c => Zs c 0 [.d (.int .i64 aC)]); let J16 := (J22.modify (Int.toNat aD) fun c => Zs c 1 [.d (.bool (((Int.tmod (IntKind.wrap .i64 (aC + 1)) 3) : Int) == 0))]); let J21 := (IntKind.wrap .i64 ((IntKind.wrap .i64 ((IntKind.wrap .i64 (aC + 1)) + 1)) + 1)); Zd ((0 : Int) ≤ aD ∧ aD < (aJ.length : Int)) (Zd (Int.toNat aD < aJ.length) (Zd ((3 : Int) ≠ 0) (Zd ((0 : Int) ≤ aD ∧ aD < (J22.length : Int)) (Zd (Int.toNat aD < J22.length) (Zd ((0 : Int) ≤ aD ∧ aD < (J16.length : Int)) (Zd (Int.toNat aD < J16.length) (Yg.f k J21 (fun y34 => let J15 := (J16.modify (Int.toNat aD) fun c => Zs c 2 [.d (.int .i64 (IntKind.wrap .i64 ((IntKind.wrap .i64 (aC + 1)) + 1)))]); let J14 := (J15.modify (Int.toNat aD) fun c => Zs c 3 [.d (.str y34)]); let J20 := (IntKind.wrap .i64 (J21 + 1)); let J13 := (J14.modify (Int.toNat aD) fun c => Zs c 4 [.d (.int .i64 J20)]); let J19 := (IntKind.wrap .i64 (J20 + 1)); let J12 := (J13.modify (Int.toNat aD) fun c => Zs c 5 [.d (.int .i64 J19)]); let J18 := (IntKind.wrap .i64 (J19 + 1)); let J11 := (J12.modify (Int.toNat aD) fun c => Zs c 6 [.d (.int .i64 J18)]); let J17 := (IntKind.wrap .i64 (J18 + 1)); let J10 := (J11.modify (Int.toNat aD) fun c => Zs c 7 [.d (.bool (((Int.tmod J17 3) : Int) == 0))]); Zd ((0 : Int) ≤ aD ∧ aD < (J15.length : Int)) (Zd (Int.toNat aD < J15.length) (Zd ((0 : Int) ≤ aD ∧ aD < (J14.length : Int)) (Zd (Int.toNat aD < J14.length) (Zd ((0 : Int) ≤ aD ∧ aD < (J13.length : Int)) (Zd (Int.toNat aD < J13.length) (Zd ((0 : Int) ≤ aD ∧ aD < (J12.length : Int)) (Zd (Int.toNat aD < J12.length) (Zd ((3 : Int) ≠ 0) (Zd ((0 : Int) ≤ aD ∧ aD < (J11.length : Int)) (Zd (Int.toNat aD < J11.length) (Zd ((0 : Int) ≤ aD ∧ aD < (J10.length : Int)) (ZaR J10 (Int.toNat aD) fun c35 => ZaJ (c35.drop 8) fun c36 r37 => cOwn c36 fun y38 => Yl.f k y38 (IntKind.wrap .i64 (J17 + 1)) (fun y39 y40 => let J9 := (J10.modify (Int.toNat aD) fun r => r.set 8 (.own y40)); Zd ((0 : Int) ≤ aD ∧ aD < (J9.length : Int)) (Zd (Int.toNat aD < J9.length) (Yg.f k (IntKind.wrap .i64 (y39 + 1)) (fun y41 => let J8 := (J9.modify (Int.toNat aD) fun c => Zs c 9 [.d (.int .i64 y39)]); let J7 := (J8.modify (Int.toNat aD) fun c => Zs c 10 [.d (.str y41)]); let J6 := (J7.modify (Int.toNat aD) fun c => Zs c 11 [.d (.int .i64 (IntKind.wrap .i64 ((IntKind.wrap .i64 (y39 + 1)) + 1)))]); Zd ((0 : Int) ≤ aD ∧ aD < (J8.length : Int)) (Zd (Int.toNat aD < J8.length) (Zd ((0 : Int) ≤ aD ∧ aD < (J7.length : Int)) (Zd (Int.toNat aD < J7.length) (Zd ((0 : Int) ≤ aD ∧ aD < (J6.length : Int)) (ZaR J6 (Int.toNat aD) fun c42 => ZaJ (c42.drop 12) fun c43 r44 => cOwn c43 fun y45 => Yl.f k y45 (IntKind.wrap .i64 ((IntKind.wrap .i64 ((IntKind.wrap .i64 (y39 + 1)) + 1)) + 1)) (fun y46 y47 => let J5 := (J6.modify (Int.toNat aD) fun r => r.set 12 (.own y47)); Zd ((0 : Int) ≤ aD ∧ aD < (J5.length : Int)) (ZaR J5 (Int.toNat aD) fun c48 => ZaJ (c48.drop 13) fun c49 r50 => cOwn c49 fun y51 => Yi.f k y51 y46 (fun y52 y53 => let J4 := (J5.modify (Int.toNat aD) fun r => r.set 13 (.own y53)); Zd ((0 : Int) ≤ aD ∧ aD < (J4.length : Int)) (Zd (Int.toNat aD < J4.length) (Yg.f k (IntKind.wrap .i64 (y52 + 1)) (fun y54 => let J3 := (J4.modify (Int.toNat aD) fun c => Zs c 14 [.d (.int .i64 y52)]); let J2 := (J3.modify (Int.toNat aD) fun c => Zs c 15 [.d (.str y54)]); let J1 := (J2.modify (Int.toNat aD) fun c => Zs c 16 [.d (.int .i64 (IntKind.wrap .i64 ((IntKind.wrap .i64 (y52 + 1)) + 1)))]); Zd ((0 : Int) ≤ aD ∧ aD < (J3.length : Int)) (Zd (Int.toNat aD < J3.length) (Zd ((0 : Int) ≤ aD ∧ aD < (J2.length : Int)) (Zd (Int.toNat aD < J2.length) (Zd ((0 : Int) ≤ aD ∧ aD < (J1.length : Int)) (ZaR J1 (Int.toNat aD) fun c55 => ZaJ (c55.drop 17) fun c56 r57 => cOwn c56 fun y58 => Yl.f k y58 (IntKind.wrap .i64 ((IntKind.wrap .i64 ((IntKind.wrap .i64 (y52 + 1)) + 1)) + 1)) (fun y59 y60 => let J0 := (J1.modify (Int.toNat aD) fun r => r.set 17 (.own y60)); Zd ((0 : Int) ≤ aD ∧ aD < (J0.length : Int)) (ZaR J0 (Int.toNat aD) fun c61 => ZaJ (c61.drop 18) fun c62 r63 => cOwn c62 fun y64 => Yi.f k y64 y59 (fun y65 y66 => L0 (y65,IntKind.wrap .i64 (aD + 1),J0.modify (Int.toNat aD) fun r => r.set 18 (.own y66)))))))))))))))))))))))))))))))))))))))))))))) else (K aC aJ)
noncomputable def Yz.m {β : Type} (k : Nat) (a0 : LC) (a1 : Int) (K : Int → LC → Option β) (F : ((Int × Int × LC) → Option β)) : Option β :=
 F (a1,0,a0)
noncomputable def Yz.g {β : Type} (k : Nat) (a0 : LC) (a1 : Int) (K : Int → LC → Option β) : Option β :=
 ZA (Yz.l0 k K) k (a1,0,a0)
noncomputable def Yz.t (k : Nat) (a0 : LC) (a1 : Int) : Option (Int × LC) := Yz.g k a0 a1 (fun z0 z1 => some (z0,z1))
noncomputable def Yz.f {β : Type} (k : Nat) (a0 : LC) (a1 : Int) (K : Int → LC → Option β) : Option β := bd2 (Yz.t k a0 a1) K
noncomputable def Yz.e (k : Nat) : Zj := ent [.own false 36 [.o],.d .n] [1] [.n,.o] [3] false (Yz.t k)
noncomputable def Yz.p (k : Nat) : Pro := ⟨Tryz.prog,[(106,Yg.e k),(64,Yl.e k),(65,Yi.e k)],Zv [(2,kp [0,5] [(1,.dat false)])] false [],k⟩
noncomputable def Yz.d (k : Nat) (a0 : LC) (a1 : Int) : Ex → St → Option (Int × LC) := (Yz.p k).fin Tryz.f44 [.own false [.own a0],.d (.int .i64 a1)] [1] [.n,.o]
noncomputable def Yz.s0 (v : Int × Int × LC) : St :=
 match v with
 | (aC,aD,aJ) => ZaA 180 [(0,.row 0),(1,.d false (.int .i64 aC)),(5,.d true (.int .i64 aD))] [.row (some 0) false 36 aJ]
noncomputable def Yz.r0 (k : Nat) (a0 : LC) (a1 : Int) (n : Nat) (v : Int × Int × LC) : Option (Int × LC) := (Yz.p k).lp (ZI Tryz.f44) 2 [1,0,1,0] (Yz.d k a0 a1) n (Yz.s0 v)
theorem Yz.l0_eq (k : Nat) (a0 : LC) (a1 : Int) : ∀ n v,Yz.r0 k a0 a1 n v = ZA (Yz.l0 k (fun z0 z1 => some (z0,z1))) n v :=
 Zz (Yz.s0) _ fun L0 v => by obtain ⟨aC,aD,aJ⟩ := v; kernel_rfl
theorem Yz.ok (k : Nat) : Zf Tryz.prog 44 (Yz.e k) := Zk (Yz.p k) mix tyok Tryz.func44 ⟨Yg.ok k,Yl.ok k,Yi.ok k⟩ (by kernel_rfl) (fun a0 a1 => Eq.trans (b := Yz.m k a0 a1 (fun z0 z1 => some (z0,z1)) (Yz.r0 k a0 a1 k)) (by kernel_rfl) (congrArg (Yz.m k a0 a1 (fun z0 z1 => some (z0,z1))) (funext fun v => Yz.l0_eq k a0 a1 k v) :))
noncomputable def Yaz.g {β : Type} (k : Nat) (aB : LC) (aA aH : Int) (aF : LC) (a1 : Int) (K : Int → LC → LC → Option β) : Option β :=
 YI.f k aB a1 (fun y1 y2 => Zd (y2.length = aB.length) (Yz.f k aF y1 (fun y67 y68 => Zd (y68.length = aF.length) (K y67 y2 y68))))
noncomputable def Yaz.t (k : Nat) (aB : LC) (aA aH : Int) (aF : LC) (a1 : Int) : Option (Int × LC × LC) := Yaz.g k aB aA aH aF a1 (fun z0 z1 z2 => some (z0,z1,z2))
noncomputable def Yaz.f {β : Type} (k : Nat) (aB : LC) (aA aH : Int) (aF : LC) (a1 : Int) (K : Int → LC → LC → Option β) : Option β := bd3 (Yaz.t k aB aA aH aF a1) K
noncomputable def Yaz.e (k : Nat) : Zj := ent [.own true 38 [.o,.n,.n,.o],.d .n] [1] [.n,.o,.o] [3] false (Yaz.t k)
noncomputable def Yaz.p (k : Nat) : Pro := ⟨Tryz.prog,[(43,YI.e k),(44,Yz.e k)],Zv [] false [],k⟩
theorem Yaz.ok (k : Nat) : Zf Tryz.prog 15 (Yaz.e k) := Zk (Yaz.p k) mix tyok Tryz.func15 ⟨YI.ok k,Yz.ok k⟩ (by kernel_rfl) (fun aB aA aH aF a1 => by show _ = _; kernel_rfl)
noncomputable def Yn.l0 {β : Type} (k : Nat) (aC : LD) (K : Int → Option β) (L0 : (Int × Int) → Option β) (v : Int × Int) : Option β :=
 match v with
 | (aD,aJ) => bif (decide ((aJ : Int) < (aC.length : Int))) then (atR aC aJ [.s] fun x9 => (Yg.f k aD (fun y10 => bif (!(Zae x9 y10)) then (K (-1)) else (L0 (IntKind.wrap .i64 (aD + 1),IntKind.wrap .i64 (aJ + 1)))))) else (K aD)
noncomputable def Yn.m {β : Type} (k : Nat) (a0 : LD) (a1 : Int) (K : Int → Option β) (F : (LD → (Int × Int) → Option β)) : Option β :=
 F a0 (a1,0)
noncomputable def Yn.g {β : Type} (k : Nat) (a0 : LD) (a1 : Int) (K : Int → Option β) : Option β :=
 ZA (Yn.l0 k a0 K) k (a1,0)
noncomputable def Yn.t (k : Nat) (a0 : LD) (a1 : Int) : Option (Int) := Yn.g k a0 a1 (fun z0 => some z0)
noncomputable def Yn.f {β : Type} (k : Nat) (a0 : LD) (a1 : Int) (K : Int → Option β) : Option β := bd1 (Yn.t k a0 a1) K
noncomputable def Yn.e (k : Nat) : Zj := ent [.d .l,.d .n] [1] [.n] [3] false (Yn.t k)
noncomputable def Yn.p (k : Nat) : Pro := ⟨Tryz.prog,[(106,Yg.e k)],Zv [(2,kp [0,5] [(1,.dat false)])] false [],k⟩
noncomputable def Yn.d (k : Nat) (a0 : LD) (a1 : Int) : Ex → St → Option (Int) := (Yn.p k).fin Tryz.f81 [.d (.sl a0),.d (.int .i64 a1)] [1] [.n]
noncomputable def Yn.s0 (aC : LD) (v : Int × Int) : St :=
 match v with
 | (aD,aJ) => ZaA 22 [(0,.d false (.sl aC)),(1,.d false (.int .i64 aD)),(5,.d true (.int .i64 aJ))] []
noncomputable def Yn.r0 (k : Nat) (a0 : LD) (a1 : Int) (aC : LD) (n : Nat) (v : Int × Int) : Option (Int) := (Yn.p k).lp (ZI Tryz.f81) 2 [1,0,1,0] (Yn.d k a0 a1) n (Yn.s0 aC v)
theorem Yn.l0_eq (k : Nat) (a0 : LD) (a1 : Int) (aC : LD) : ∀ n v,Yn.r0 k a0 a1 aC n v = ZA (Yn.l0 k aC (fun z0 => some z0)) n v :=
 Zz (Yn.s0 aC) _ fun L0 v => by obtain ⟨aD,aJ⟩ := v; kernel_rfl
theorem Yn.ok (k : Nat) : Zf Tryz.prog 81 (Yn.e k) := Zk (Yn.p k) mix tyok Tryz.func81 (Yg.ok k) (by kernel_rfl) (fun a0 a1 => Eq.trans (b := Yn.m k a0 a1 (fun z0 => some z0) (fun aC => Yn.r0 k a0 a1 aC k)) (by kernel_rfl) (congrArg (Yn.m k a0 a1 (fun z0 => some z0)) (funext fun aC => funext fun v => Yn.l0_eq k a0 a1 aC k v) :))
noncomputable def Yj.l0 {β : Type} (k : Nat) (r_laws_heldValueS : LD → Int → (Int → Option β) → Option β) (aC : LD) (K : Int → Option β) (L0 : (Int × Int) → Option β) (v : Int × Int) : Option β :=
 match v with
 | (aD,aJ) => bif (decide ((aJ : Int) < (aC.length : Int))) then (atR aC aJ [.n,.s,.n,.l,.l] fun x87 x90 x93 x96 x99 => (bif ((x87 : Int) != aD) then (K (-1)) else (atR aC aJ [.n,.s,.n,.l,.l] fun x103 x106 x109 x112 x115 => (Yg.f k (IntKind.wrap .i64 (aD + 1)) (fun y116 => bif (!(Zae x106 y116)) then (K (-1)) else (atR aC aJ [.n,.s,.n,.l,.l] fun x120 x123 x126 x129 x132 => (bif ((x126 : Int) != (IntKind.wrap .i64 ((IntKind.wrap .i64 (aD + 1)) + 1))) then (K (-1)) else (atR aC aJ [.n,.s,.n,.l,.l] fun x136 x139 x142 x145 x148 => (Yn.f k x145 (IntKind.wrap .i64 ((IntKind.wrap .i64 ((IntKind.wrap .i64 (aD + 1)) + 1)) + 1)) (fun y149 => bif (decide ((y149 : Int) < 0)) then (K (-1)) else (atR aC aJ [.n,.s,.n,.l,.l] fun x153 x156 x159 x162 x165 => (r_laws_heldValueS x165 y149 (fun y166 => bif (decide ((y166 : Int) < 0)) then (K (-1)) else (L0 (y166,IntKind.wrap .i64 (aJ + 1)))))))))))))))) else (K aD)
noncomputable def Yj.m {β : Type} (k : Nat) (r_laws_heldValueS : LD → Int → (Int → Option β) → Option β) (a0 : LD) (a1 : Int) (K : Int → Option β) (F : (LD → (Int × Int) → Option β)) : Option β :=
 F a0 (a1,0)
noncomputable def Yj.body {β : Type} (k : Nat) (r_laws_heldValueS : LD → Int → (Int → Option β) → Option β) (a0 : LD) (a1 : Int) (K : Int → Option β) : Option β :=
 ZA (Yj.l0 k r_laws_heldValueS a0 K) k (a1,0)
noncomputable def Yj.w {β : Type} (r : LD → Int → Option (Int)) (a0 : LD) (a1 : Int) (K : Int → Option β) : Option β := bd1 (r a0 a1) K
noncomputable def Yj.all : Nat → (LD → Int → Option (Int))
 | 0 => (fun _ _ => none)
 | k + 1 => (fun r => (fun a0 a1 => Yj.body k (Yj.w r) a0 a1 (fun z0 => some z0))) (Yj.all k)
noncomputable def Yj.t (k : Nat) (a0 : LD) (a1 : Int) : Option (Int) := (Yj.all k) a0 a1
noncomputable def Yj.f {β : Type} (k : Nat) (a0 : LD) (a1 : Int) (K : Int → Option β) : Option β := Yj.w (Yj.t k) a0 a1 K
noncomputable def Yj.g {β : Type} (k : Nat) (a0 : LD) (a1 : Int) (K : Int → Option β) : Option β := Yj.body k (Yj.f k) a0 a1 K
theorem Yj.t_succ (k : Nat) (a0 : LD) (a1 : Int) : Yj.t (k + 1) a0 a1 = Yj.g k a0 a1 (fun z0 => some z0) := rfl
noncomputable def Yj.e (k : Nat) : Zj := ent [.d .l,.d .n] [1] [.n] [3] false (Yj.t k)
noncomputable def Yj.p (k : Nat) : Pro := ⟨Tryz.prog,[(106,Yg.e k),(81,Yn.e k),(82,Yj.e k)],Zv [(2,kp [0,5] [(1,.dat false)])] false [],k⟩
noncomputable def Yj.d (k : Nat) (a0 : LD) (a1 : Int) : Ex → St → Option (Int) := (Yj.p k).fin Tryz.f82 [.d (.sl a0),.d (.int .i64 a1)] [1] [.n]
noncomputable def Yj.s0 (aC : LD) (v : Int × Int) : St :=
 match v with
 | (aD,aJ) => ZaA 59 [(0,.d false (.sl aC)),(1,.d false (.int .i64 aD)),(5,.d true (.int .i64 aJ))] []
noncomputable def Yj.r0 (k : Nat) (a0 : LD) (a1 : Int) (aC : LD) (n : Nat) (v : Int × Int) : Option (Int) := (Yj.p k).lp (ZI Tryz.f82) 2 [1,0,1,0] (Yj.d k a0 a1) n (Yj.s0 aC v)
theorem Yj.l0_eq (k : Nat) (a0 : LD) (a1 : Int) (aC : LD) : ∀ n v,Yj.r0 k a0 a1 aC n v = ZA (Yj.l0 k (Yj.f k) aC (fun z0 => some z0)) n v :=
 Zz (Yj.s0 aC) _ fun L0 v => by obtain ⟨aD,aJ⟩ := v; kernel_rfl
theorem Yj.oks (k : Nat) : Zf Tryz.prog 82 (Yj.e k) := by
 induction k with
 | zero => exact Zba Tryz.func82 (by kernel_rfl) (fun _ _ => rfl)
 | succ k ih => exact Zk (Yj.p k) mix tyok Tryz.func82 ⟨Yg.ok k,Yn.ok k,ih⟩ (by kernel_rfl) (fun a0 a1 => Eq.trans (b := Yj.m k (Yj.f k) a0 a1 (fun z0 => some z0) (fun aC => Yj.r0 k a0 a1 aC k)) (by kernel_rfl) ((congrArg (Yj.m k (Yj.f k) a0 a1 (fun z0 => some z0)) (funext fun aC => funext fun v => Yj.l0_eq k a0 a1 aC k v)).trans (Yj.t_succ k a0 a1).symm))
theorem Yj.ok (k : Nat) : Zf Tryz.prog 82 (Yj.e k) := (Yj.oks k)
set_option maxRecDepth 100000 in
noncomputable def YL.l0 {β : Type} (k : Nat) (aC : LD) (K : Int → Option β) (L0 : (Int × Int) → Option β) (v : Int × Int) : Option β :=
 match v with
 | (aD,aJ) => bif (decide ((aJ : Int) < (aC.length : Int))) then (atR aC aJ [.n,.s,.n,.n,.n,.b,.l,.n,.s,.n,.l,.l,.n,.s,.n,.l,.l] fun x896 x899 x902 x905 x908 x911 x914 x917 x920 x923 x926 x929 x932 x935 x938 x941 x944 => (bif ((x896 : Int) != aD) then (K (-1)) else (atR aC aJ [.n,.s,.n,.n,.n,.b,.l,.n,.s,.n,.l,.l,.n,.s,.n,.l,.l] fun x948 x951 x954 x957 x960 x963 x966 x969 x972 x975 x978 x981 x984 x987 x990 x993 x996 => (Yg.f k (IntKind.wrap .i64 (aD + 1)) (fun y997 => bif (!(Zae x951 y997)) then (K (-1)) else (atR aC aJ [.n,.s,.n,.n,.n,.b,.l,.n,.s,.n,.l,.l,.n,.s,.n,.l,.l] fun x1001 x1004 x1007 x1010 x1013 x1016 x1019 x1022 x1025 x1028 x1031 x1034 x1037 x1040 x1043 x1046 x1049 => (bif ((x1007 : Int) != (IntKind.wrap .i64 ((IntKind.wrap .i64 (aD + 1)) + 1))) then (K (-1)) else (atR aC aJ [.n,.s,.n,.n,.n,.b,.l,.n,.s,.n,.l,.l,.n,.s,.n,.l,.l] fun x1053 x1056 x1059 x1062 x1065 x1068 x1071 x1074 x1077 x1080 x1083 x1086 x1089 x1092 x1095 x1098 x1101 => let J2 := (IntKind.wrap .i64 ((IntKind.wrap .i64 ((IntKind.wrap .i64 (aD + 1)) + 1)) + 1)); (bif ((x1062 : Int) != J2) then (K (-1)) else (atR aC aJ [.n,.s,.n,.n,.n,.b,.l,.n,.s,.n,.l,.l,.n,.s,.n,.l,.l] fun x1105 x1108 x1111 x1114 x1117 x1120 x1123 x1126 x1129 x1132 x1135 x1138 x1141 x1144 x1147 x1150 x1153 => let J1 := (IntKind.wrap .i64 (J2 + 1)); (bif ((x1117 : Int) != J1) then (K (-1)) else (atR aC aJ [.n,.s,.n,.n,.n,.b,.l,.n,.s,.n,.l,.l,.n,.s,.n,.l,.l] fun x1157 x1160 x1163 x1166 x1169 x1172 x1175 x1178 x1181 x1184 x1187 x1190 x1193 x1196 x1199 x1202 x1205 => let J0 := (IntKind.wrap .i64 (J1 + 1)); (Zd ((3 : Int) ≠ 0) (bif (!(x1172 == (((Int.tmod J0 3) : Int) == 0))) then (K (-1)) else (atR aC aJ [.n,.s,.n,.n,.n,.b,.l,.n,.s,.n,.l,.l,.n,.s,.n,.l,.l] fun x1209 x1212 x1215 x1218 x1221 x1224 x1227 x1230 x1233 x1236 x1239 x1242 x1245 x1248 x1251 x1254 x1257 => (Yn.f k x1227 (IntKind.wrap .i64 (J0 + 1)) (fun y1258 => bif (decide ((y1258 : Int) < 0)) then (K (-1)) else (atR aC aJ [.n,.s,.n,.n,.n,.b,.l,.n,.s,.n,.l,.l,.n,.s,.n,.l,.l] fun x1262 x1265 x1268 x1271 x1274 x1277 x1280 x1283 x1286 x1289 x1292 x1295 x1298 x1301 x1304 x1307 x1310 => (bif ((x1283 : Int) != y1258) then (K (-1)) else (atR aC aJ [.n,.s,.n,.n,.n,.b,.l,.n,.s,.n,.l,.l,.n,.s,.n,.l,.l] fun x1314 x1317 x1320 x1323 x1326 x1329 x1332 x1335 x1338 x1341 x1344 x1347 x1350 x1353 x1356 x1359 x1362 => (Yg.f k (IntKind.wrap .i64 (y1258 + 1)) (fun y1363 => bif (!(Zae x1338 y1363)) then (K (-1)) else (atR aC aJ [.n,.s,.n,.n,.n,.b,.l,.n,.s,.n,.l,.l,.n,.s,.n,.l,.l] fun x1367 x1370 x1373 x1376 x1379 x1382 x1385 x1388 x1391 x1394 x1397 x1400 x1403 x1406 x1409 x1412 x1415 => (bif ((x1394 : Int) != (IntKind.wrap .i64 ((IntKind.wrap .i64 (y1258 + 1)) + 1))) then (K (-1)) else (atR aC aJ [.n,.s,.n,.n,.n,.b,.l,.n,.s,.n,.l,.l,.n,.s,.n,.l,.l] fun x1419 x1422 x1425 x1428 x1431 x1434 x1437 x1440 x1443 x1446 x1449 x1452 x1455 x1458 x1461 x1464 x1467 => (Yn.f k x1449 (IntKind.wrap .i64 ((IntKind.wrap .i64 ((IntKind.wrap .i64 (y1258 + 1)) + 1)) + 1)) (fun y1468 => bif (decide ((y1468 : Int) < 0)) then (K (-1)) else (atR aC aJ [.n,.s,.n,.n,.n,.b,.l,.n,.s,.n,.l,.l,.n,.s,.n,.l,.l] fun x1472 x1475 x1478 x1481 x1484 x1487 x1490 x1493 x1496 x1499 x1502 x1505 x1508 x1511 x1514 x1517 x1520 => (Yj.f k x1505 y1468 (fun y1521 => bif (decide ((y1521 : Int) < 0)) then (K (-1)) else (atR aC aJ [.n,.s,.n,.n,.n,.b,.l,.n,.s,.n,.l,.l,.n,.s,.n,.l,.l] fun x1525 x1528 x1531 x1534 x1537 x1540 x1543 x1546 x1549 x1552 x1555 x1558 x1561 x1564 x1567 x1570 x1573 => (bif ((x1561 : Int) != y1521) then (K (-1)) else (atR aC aJ [.n,.s,.n,.n,.n,.b,.l,.n,.s,.n,.l,.l,.n,.s,.n,.l,.l] fun x1577 x1580 x1583 x1586 x1589 x1592 x1595 x1598 x1601 x1604 x1607 x1610 x1613 x1616 x1619 x1622 x1625 => (Yg.f k (IntKind.wrap .i64 (y1521 + 1)) (fun y1626 => bif (!(Zae x1616 y1626)) then (K (-1)) else (atR aC aJ [.n,.s,.n,.n,.n,.b,.l,.n,.s,.n,.l,.l,.n,.s,.n,.l,.l] fun x1630 x1633 x1636 x1639 x1642 x1645 x1648 x1651 x1654 x1657 x1660 x1663 x1666 x1669 x1672 x1675 x1678 => (bif ((x1672 : Int) != (IntKind.wrap .i64 ((IntKind.wrap .i64 (y1521 + 1)) + 1))) then (K (-1)) else (atR aC aJ [.n,.s,.n,.n,.n,.b,.l,.n,.s,.n,.l,.l,.n,.s,.n,.l,.l] fun x1682 x1685 x1688 x1691 x1694 x1697 x1700 x1703 x1706 x1709 x1712 x1715 x1718 x1721 x1724 x1727 x1730 => (Yn.f k x1727 (IntKind.wrap .i64 ((IntKind.wrap .i64 ((IntKind.wrap .i64 (y1521 + 1)) + 1)) + 1)) (fun y1731 => bif (decide ((y1731 : Int) < 0)) then (K (-1)) else (atR aC aJ [.n,.s,.n,.n,.n,.b,.l,.n,.s,.n,.l,.l,.n,.s,.n,.l,.l] fun x1735 x1738 x1741 x1744 x1747 x1750 x1753 x1756 x1759 x1762 x1765 x1768 x1771 x1774 x1777 x1780 x1783 => (Yj.f k x1783 y1731 (fun y1784 => bif (decide ((y1784 : Int) < 0)) then (K (-1)) else (L0 (y1784,IntKind.wrap .i64 (aJ + 1)))))))))))))))))))))))))))))))))))))))))))))) else (K aD)
noncomputable def YL.m {β : Type} (k : Nat) (a0 : LD) (a1 : Int) (K : Int → Option β) (F : (LD → (Int × Int) → Option β)) : Option β :=
 F a0 (a1,0)
noncomputable def YL.g {β : Type} (k : Nat) (a0 : LD) (a1 : Int) (K : Int → Option β) : Option β :=
 ZA (YL.l0 k a0 K) k (a1,0)
noncomputable def YL.t (k : Nat) (a0 : LD) (a1 : Int) : Option (Int) := YL.g k a0 a1 (fun z0 => some z0)
noncomputable def YL.f {β : Type} (k : Nat) (a0 : LD) (a1 : Int) (K : Int → Option β) : Option β := bd1 (YL.t k a0 a1) K
noncomputable def YL.e (k : Nat) : Zj := ent [.d .l,.d .n] [1] [.n] [3] false (YL.t k)
noncomputable def YL.p (k : Nat) : Pro := ⟨Tryz.prog,[(106,Yg.e k),(81,Yn.e k),(82,Yj.e k)],Zv [(2,kp [0,5] [(1,.dat false)])] false [],k⟩
noncomputable def YL.d (k : Nat) (a0 : LD) (a1 : Int) : Ex → St → Option (Int) := (YL.p k).fin Tryz.f45 [.d (.sl a0),.d (.int .i64 a1)] [1] [.n]
noncomputable def YL.s0 (aC : LD) (v : Int × Int) : St :=
 match v with
 | (aD,aJ) => ZaA 181 [(0,.d false (.sl aC)),(1,.d false (.int .i64 aD)),(5,.d true (.int .i64 aJ))] []
noncomputable def YL.r0 (k : Nat) (a0 : LD) (a1 : Int) (aC : LD) (n : Nat) (v : Int × Int) : Option (Int) := (YL.p k).lp (ZI Tryz.f45) 2 [1,0,1,0] (YL.d k a0 a1) n (YL.s0 aC v)
theorem YL.l0_eq (k : Nat) (a0 : LD) (a1 : Int) (aC : LD) : ∀ n v,YL.r0 k a0 a1 aC n v = ZA (YL.l0 k aC (fun z0 => some z0)) n v :=
 Zz (YL.s0 aC) _ fun L0 v => by obtain ⟨aD,aJ⟩ := v; kernel_rfl
theorem YL.ok (k : Nat) : Zf Tryz.prog 45 (YL.e k) := Zk (YL.p k) mix tyok Tryz.func45 ⟨Yg.ok k,Yn.ok k,Yj.ok k⟩ (by kernel_rfl) (fun a0 a1 => Eq.trans (b := YL.m k a0 a1 (fun z0 => some z0) (fun aC => YL.r0 k a0 a1 aC k)) (by kernel_rfl) (congrArg (YL.m k a0 a1 (fun z0 => some z0)) (funext fun aC => funext fun v => YL.l0_eq k a0 a1 aC k v) :))
noncomputable def Yak.g {β : Type} (k : Nat) (aB : Int) (aA : LD) (a1 : Int) (K : Int → Option β) : Option β :=
 YL.f k aA a1 (fun y1785 => bif (decide ((y1785 : Int) < 0)) then (K (-1)) else (K y1785))
noncomputable def Yak.t (k : Nat) (aB : Int) (aA : LD) (a1 : Int) : Option (Int) := Yak.g k aB aA a1 (fun z0 => some z0)
noncomputable def Yak.f {β : Type} (k : Nat) (aB : Int) (aA : LD) (a1 : Int) (K : Int → Option β) : Option β := bd1 (Yak.t k aB aA a1) K
noncomputable def Yak.e (k : Nat) : Zj := ent [.agg [.n,.l],.d .n] [1] [.n] [3] false (Yak.t k)
noncomputable def Yak.p (k : Nat) : Pro := ⟨Tryz.prog,[(45,YL.e k)],Zv [] false [],k⟩
theorem Yak.ok (k : Nat) : Zf Tryz.prog 16 (Yak.e k) := Zk (Yak.p k) mix tyok Tryz.func16 (YL.ok k) (by kernel_rfl) (fun aB aA a1 => by show _ = _; kernel_rfl)
noncomputable def Yav.g {β : Type} (k : Nat) (aB : Int) (aA aM : LD) (aN aU : Int) (aO : LD) (K : Bool → Option β) : Option β :=
 Yax.f k aB aA 1048576 (fun y108 => bif (decide ((y108 : Int) < 0)) then (K true) else (YaJ.f k aM aN aU aO y108 (fun y120 => bif (decide ((y120 : Int) < 0)) then (K true) else (Yac.f k aB aA (fun y141 y142 => Yao.f k aM aN aU aO (fun y156 y157 y158 y159 => YaC.f k y141 (C.immRows y142) (C.immRows y156) y157 y158 (C.immRows y159) (fun y160 y161 y162 => Yac.f k aB aA (fun y163 y164 => Yao.f k aM aN aU aO (fun y165 y166 y167 y168 => Yau.f k y163 (C.immRows y164) (C.immRows y165) y166 y167 (C.immRows y168) (fun y466 y467 y468 => Yad.f k y466 (C.immRows y467) y160 y161 (fun y469 => bif (!y469) then (K false) else (bif (!(y468 == y162)) then (K false) else (Yac.f k aB aA (fun y470 y471 => Yad.f k y163 (C.immRows y164) y470 (C.immRows y471) (fun y472 => bif (!y472) then (K false) else (Yao.f k aM aN aU aO (fun y473 y474 y475 y476 => YaK.f k (C.immRows y165) y166 y167 (C.immRows y168) (C.immRows y473) y474 y475 (C.immRows y476) (fun y477 => bif (!y477) then (K false) else (Yae.f k y163 y164 1 (fun y478 y479 => Zd (y479.length = y164.length) (Yaz.f k y165 y166 y167 y168 y478 (fun y480 y481 y482 => Zd (y481.length = y165.length) (Zd (y482.length = y168.length) (bif (decide ((y480 : Int) < 0)) then (K false) else (Yad.f k y466 (C.immRows y467) y160 y161 (fun y483 => bif (!y483) then (K false) else (bif (!(y468 == y162)) then (K false) else (Yae.f k y466 y467 1 (fun y484 y485 => Zd (y485.length = y467.length) (Yak.f k y466 (C.immRows y485) 1 (fun y1786 => bif (decide ((y1786 : Int) < 0)) then (K false) else (bif ((y1786 : Int) != y484) then (K false) else (Yac.f k aB aA (fun y1787 y1788 => Yao.f k aM aN aU aO (fun y1789 y1790 y1791 y1792 => Yau.f k y1787 (C.immRows y1788) (C.immRows y1789) y1790 y1791 (C.immRows y1792) (fun y1793 y1794 y1795 => Yad.f k y1793 (C.immRows y1794) y160 y161 (fun y1796 => bif (!y1796) then (K false) else (bif (!(y1795 == y162)) then (K false) else (Yak.f k y466 (C.immRows y485) 1 (fun y1797 => bif (decide ((y1797 : Int) < 0)) then (K false) else (bif ((y1797 : Int) != y484) then (K false) else (K true))))))))))))))))))))))))))))))))))))))))))
noncomputable def Yav.t (k : Nat) (aB : Int) (aA aM : LD) (aN aU : Int) (aO : LD) : Option (Bool) := Yav.g k aB aA aM aN aU aO (fun z0 => some z0)
noncomputable def Yav.e (k : Nat) : Zj := ent [.agg [.n,.l],.agg [.l,.n,.n,.l]] [1] [.b] [4] false (Yav.t k)
noncomputable def Yav.p (k : Nat) : Pro := ⟨Tryz.prog,[(6,Yax.e k),(7,YaJ.e k),(9,Yac.e k),(10,Yao.e k),(8,YaC.e k),(11,Yau.e k),(12,Yad.e k),(13,YaK.e k),(14,Yae.e k),(15,Yaz.e k),(16,Yak.e k)],Zv [] false [],k⟩
theorem Yav.ok (k : Nat) : Zf Tryz.prog 3 (Yav.e k) := Zk (Yav.p k) mix tyok Tryz.func3 ⟨Yax.ok k,YaJ.ok k,Yac.ok k,Yao.ok k,YaC.ok k,Yau.ok k,Yad.ok k,YaK.ok k,Yae.ok k,Yaz.ok k,Yak.ok k⟩ (by kernel_rfl) (fun aB aA aM aN aU aO => by show _ = _; kernel_rfl)
end Go.Proofs.YtlobhlnahhjpjaaGreat
