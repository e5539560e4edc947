/- FnExactCalm: the program's function answers as the reference's, for every input. No condition. -/
import Derived.Test.YtppfencdbabmeaaRows
import Derived.Test.YtppfencdbabmeaaYECalm0
import Derived.KernelRfl
import Derived.WalkKit
import Derived.ProofKit
import Derived.OpenShut
import Derived.ShutString
import Derived.ChangeOld
import Derived.Below
import Derived.SizedLaws
set_option linter.unusedVariables false
set_option linter.unusedSimpArgs false
namespace Go.Proofs.Ytppfencdbabmeaa
open Go Go.T Go.Proofs
theorem Yab.T {aA : ByteArray} {aB aF : Int} {aD aC : List (List D)} (ga0_0 : aA.size ≤ maxLen) (ga0_1 : (Lit.int .i64 aB).wf = true) (ga0_2 : (Lit.int .i64 aF).wf = true) (ga0_3 : Zi Yc maxLen aD) (ga0_4 : Zi RII maxLen aC) : Tm (ZF 1) (fun k => Yab.t k aA aB aF aD aC) (fun r => r = true) := by
  unfold Yab.t Yab.g
  have hm := Zy
  have hlim : lim = 1048576 := rfl
  refine Yag.tm (fun i hi => hi) (Yag.T (by first | assumption | omega) (by first | assumption | omega) (by first | assumption | omega) (by first | assumption | omega) (by first | assumption | omega)) (fun y2 hy1 => ?_)
  rcases hy1 with hy1 | ⟨p7, p8, q3, q4, q5, q6, _⟩
  · exact Tm.ite (fun _ => Tm.ret (by rfl)) (fun h => by simp at h; omega)
  refine Tm.ite (fun h9 => ?_) (fun h9 => ?_)
  · try simp only [bz0, bz1, bz2, bz3, bz4, bz5, bz6, bz7, bz8, bz9, bza] at h9
    exact Tm.ret (by first | rfl | (exfalso; omega) | (exfalso; simp [Zu] at *))
  · try simp only [bz0, bz1, bz2, bz3, bz4, bz5, bz6, bz7, bz8, bz9, bza] at h9
    refine Y4.tm (fun i hi => hi) (Y4.T (by first | assumption | omega) (by first | assumption | omega) (by first | assumption | omega)) (fun y11 y12 y13 y14 y15 hy10 => ?_)
    try simp only [] at hy10
    obtain ⟨rfl, rfl, rfl, rfl, rfl, _⟩ := hy10
    try simp only [ZO]
    refine Yam.tm (fun i hi => hi) (Tm.self (Yam.T (by first | assumption | omega) (by first | assumption | omega) (by first | assumption | omega))) (fun y17 hy16 => ?_)
    refine Y4.tm (fun i hi => hi) (Y4.T (by first | assumption | omega) (by first | assumption | omega) (by first | assumption | omega)) (fun y19 y20 y21 y22 y23 hy18 => ?_)
    try simp only [] at hy18
    obtain ⟨rfl, rfl, rfl, rfl, rfl, _⟩ := hy18
    try simp only [ZO]
    refine Yan.tm (fun i hi => hi) (Tm.at (ok := (ZF 1)) (v := y17) (fun k hk => (Yan.same (by first | assumption | omega) (by first | assumption | omega) (by first | assumption | omega) hk).trans ((hy16.2) k hk))) (fun y25 hy24 => ?_)
    subst hy24
    refine Tm.ite (fun h26 => ?_) (fun h26 => ?_)
    · try simp only [bz0, bz1, bz2, bz3, bz4, bz5, bz6, bz7, bz8, bz9, bza] at h26
      exact Tm.ret (by first | rfl | (exfalso; omega) | (exfalso; simp [Zu] at *))
    · try simp only [bz0, bz1, bz2, bz3, bz4, bz5, bz6, bz7, bz8, bz9, bza] at h26
      refine Y4.tm (fun i hi => hi) (Y4.T (by first | assumption | omega) (by first | assumption | omega) (by first | assumption | omega)) (fun y28 y29 y30 y31 y32 hy27 => ?_)
      try simp only [] at hy27
      obtain ⟨rfl, rfl, rfl, rfl, rfl, _⟩ := hy27
      try simp only [ZO]
      refine Yai.tm (fun i hi => hi) (Yai.T (by first | assumption | omega) (by first | assumption | omega) (by first | assumption | omega) (by first | assumption | omega)) (fun y34 hy33 => ?_)
      subst hy33
      refine Tm.ite (fun h35 => ?_) (fun h35 => ?_)
      · try simp only [bz0, bz1, bz2, bz3, bz4, bz5, bz6, bz7, bz8, bz9, bza] at h35
        exact Tm.ret (by first | rfl | (exfalso; omega) | (exfalso; simp [Zu] at *))
      · try simp only [bz0, bz1, bz2, bz3, bz4, bz5, bz6, bz7, bz8, bz9, bza] at h35
        exact Tm.ret (by first | rfl | (exfalso; omega) | (exfalso; simp [Zu] at *))
open Go.ChangeShapes Go.WideShapes Go.ChangeAt Go.RowKit
open Go.ChangeMaps (open_string shut_string)
theorem own : ownKnob Try.prog.godebug = none := by kernel_rfl
theorem laidOut : laidOutB Try.prog = true := by kernel_rfl
theorem goodS_9 {r : List D} (h : RowS Try.prog maxLen 9 r) : RS maxLen r := by
  have hh := h.open (show ZC Try.prog 6 9 = [9] from by kernel_rfl)
  obtain ⟨d0, l0, rfl, g0, hh0⟩ := goodR_cons hh
  obtain ⟨c0, rfl, k0⟩ := good_str (by kernel_rfl) g0
  obtain rfl := goodR_nil hh0
  exact ⟨c0, rfl, k0, trivial⟩
theorem goodISILSELXE_140_n (n : Nat) : ∀ r : List D, SizeOf.sizeOf r = n → RowS Try.prog maxLen 140 r → ∃ h, YY maxLen h r := by
  induction n using Nat.strongRecOn with
  | ind n ih =>
  intro r hn h
  have hh := h.open (show ZC Try.prog 6 140 = [3, 9, 3, 74, 138] from by kernel_rfl)
  obtain ⟨d0, l0, rfl, g0, hh0⟩ := goodR_cons hh
  obtain ⟨c0, rfl, k0⟩ := good_int (k := .i64) (by kernel_rfl) g0
  obtain ⟨d1, l1, rfl, g1, hh1⟩ := goodR_cons hh0
  obtain ⟨c1, rfl, k1⟩ := good_str (by kernel_rfl) g1
  obtain ⟨d2, l2, rfl, g2, hh2⟩ := goodR_cons hh1
  obtain ⟨c2, rfl, k2⟩ := good_int (k := .i64) (by kernel_rfl) g2
  obtain ⟨d3, l3, rfl, g3, hh3⟩ := goodR_cons hh2
  obtain ⟨c3, rfl, k3, m3⟩ := good_sl (e := 9) (by kernel_rfl) g3
  obtain ⟨d4, l4, rfl, g4, hh4⟩ := goodR_cons hh3
  obtain ⟨c4, rfl, k4, m4⟩ := good_sl (e := 140) (by kernel_rfl) g4
  obtain rfl := goodR_nil hh4
  have hs : ∀ r' ∈ c4, SizeOf.sizeOf r' < n := fun r' hr => by have := List.sizeOf_lt_of_mem hr; simp at hn; omega
  obtain ⟨hq, q4⟩ := common (Q := YY maxLen) (fun _ _ _ => YY.mono) c4 fun r' hr => ih _ (hs r' hr) r' rfl (m4 r' hr)
  exact ⟨hq + 1, .mk c0 c1 c2 c3 c4 k0 k1 k2 ⟨k3, fun r hr => goodS_9 (m3 r hr)⟩ k4 q4⟩
theorem goodISILSELXE_140 {r : List D} (h : RowS Try.prog maxLen 140 r) : YJ maxLen r := by
  obtain ⟨h1, h2⟩ := goodISILSELXE_140_n _ r rfl h
  exact ⟨h1, fun hb => absurd (show (9223372036854775807 : Nat) ≤ 1099511627776 from hb) (by decide), h2⟩
theorem Yax {r : List D} (h : RowS Try.prog maxLen 173 r) : Yc maxLen r := by
  have hh := h.open (show ZC Try.prog 6 173 = [3, 3, 3, 9, 3, 74, 138] from by kernel_rfl)
  obtain ⟨d0, l0, rfl, g0, hh0⟩ := goodR_cons hh
  obtain ⟨c0, rfl, k0⟩ := good_int (k := .i64) (by kernel_rfl) g0
  obtain ⟨d1, l1, rfl, g1, hh1⟩ := goodR_cons hh0
  obtain ⟨c1, rfl, k1⟩ := good_int (k := .i64) (by kernel_rfl) g1
  obtain ⟨d2, l2, rfl, g2, hh2⟩ := goodR_cons hh1
  obtain ⟨c2, rfl, k2⟩ := good_int (k := .i64) (by kernel_rfl) g2
  obtain ⟨d3, l3, rfl, g3, hh3⟩ := goodR_cons hh2
  obtain ⟨c3, rfl, k3⟩ := good_str (by kernel_rfl) g3
  obtain ⟨d4, l4, rfl, g4, hh4⟩ := goodR_cons hh3
  obtain ⟨c4, rfl, k4⟩ := good_int (k := .i64) (by kernel_rfl) g4
  obtain ⟨d5, l5, rfl, g5, hh5⟩ := goodR_cons hh4
  obtain ⟨c5, rfl, k5, m5⟩ := good_sl (e := 9) (by kernel_rfl) g5
  obtain ⟨d6, l6, rfl, g6, hh6⟩ := goodR_cons hh5
  obtain ⟨c6, rfl, k6, m6⟩ := good_sl (e := 140) (by kernel_rfl) g6
  obtain rfl := goodR_nil hh6
  exact ⟨c0, c1, c2, c3, c4, c5, c6, rfl, k0, k1, k2, k3, k4, ⟨k5, fun r hr => goodS_9 (m5 r hr)⟩, ⟨k6, fun r hr => goodISILSELXE_140 (m6 r hr)⟩, trivial⟩
theorem goodII_179 {r : List D} (h : RowS Try.prog maxLen 179 r) : RII maxLen r := by
  have hh := h.open (show ZC Try.prog 6 179 = [3, 3] from by kernel_rfl)
  obtain ⟨d0, l0, rfl, g0, hh0⟩ := goodR_cons hh
  obtain ⟨c0, rfl, k0⟩ := good_int (k := .i64) (by kernel_rfl) g0
  obtain ⟨d1, l1, rfl, g1, hh1⟩ := goodR_cons hh0
  obtain ⟨c1, rfl, k1⟩ := good_int (k := .i64) (by kernel_rfl) g1
  obtain rfl := goodR_nil hh1
  exact ⟨c0, c1, rfl, k0, k1, trivial⟩
theorem types : lawTys Try.prog [173, 9, 140, 179] = true := by kernel_rfl
set_option maxRecDepth 100000 in
theorem lifted (os : Os) (started : os.Started) (H : Type) (enc : TypeId × Value → H) :
    ReturnsInHanded {} Try.checked os 5 .any (Rows.fnExactCalmSpec.pre6 enc Try.prog Try.f5 Rows.fnExactCalmRow.domain false) (Rows.fnExactCalmSpec.post enc Try.prog Try.f5 false true false false) := by
  refine returnsInHanded_of_change_sized (C := Try.checked) own started (by kernel_rfl) Try.func5
    (ChangeSpec.witness6 (enc := enc) (C := Try.checked) false ⟨#[], #[.agg #[.string ByteArray.empty, .int .i64 0, .int .i64 0, .slice none 0 0, .slice none 0 0]], []⟩ 8 (by kernel_rfl) (by kernel_rfl) (by kernel_rfl) (by kernel_rfl)) ?_
  intro W base args ds gs before hval0 hW hcnd hsz0 _
  have hval : ∀ (j : Nat) t v, Try.f5.params[j]? = some t → args[j]? = some v → Value.okWide Try.prog W .any base t v := hval0
  have hW' := hW
  obtain ⟨p, q, hA0, hV, rfl, hfz, hnd⟩ := hW
  have hA : DataW.TrodAll enc Try.prog W 0 (fun _ => true) true Try.f5.params.toList args.toList ds p := hA0
  have hpar : Try.f5.params = #[42] := by kernel_rfl
  rw [hpar] at hA hval
  obtain ⟨v0, vs0, d0, ds0, p0, q0, hargs, rfl, rfl, h0, r0⟩ := trodAll_cons hA
  obtain ⟨rfl, rfl, rfl⟩ := trodAll_nil r0
  obtain rfl : args = #[v0] := by cases args; simp_all
  obtain ⟨rfl, rfl⟩ := trodVars_none hV
  have k0 := h0
  have lt0 : ∀ x ∈ p0, x.block < W.heap.size := by obtain ⟨m, hm⟩ := k0; exact DataW.trod_lt m _ _ _ hm
  obtain ⟨cs0, xs0, rfl, hl0, hc0, hg0⟩ := open_agg types (by kernel_rfl) (by kernel_rfl) (hval 0 42 v0 rfl rfl) h0
  have hj0 := hg0.open (show ZC Try.prog 6 42 = [9, 3, 3, 39, 40] from by kernel_rfl)
  obtain ⟨ea0_0, la0_0, rfl, wa0_0, hj0_0⟩ := goodR_cons hj0
  obtain ⟨aA, rfl, ka0_0⟩ := good_str (by kernel_rfl) wa0_0
  obtain ⟨ea0_1, la0_1, rfl, wa0_1, hj0_1⟩ := goodR_cons hj0_0
  obtain ⟨aB, rfl, ka0_1⟩ := good_int (k := .i64) (by kernel_rfl) wa0_1
  obtain ⟨ea0_2, la0_2, rfl, wa0_2, hj0_2⟩ := goodR_cons hj0_1
  obtain ⟨aF, rfl, ka0_2⟩ := good_int (k := .i64) (by kernel_rfl) wa0_2
  obtain ⟨ea0_3, la0_3, rfl, wa0_3, hj0_3⟩ := goodR_cons hj0_2
  obtain ⟨aD, rfl, ka0_3, ma0_3⟩ := good_sl (e := 173) (by kernel_rfl) wa0_3
  obtain ⟨ea0_4, la0_4, rfl, wa0_4, hj0_4⟩ := goodR_cons hj0_3
  obtain ⟨aC, rfl, ka0_4, ma0_4⟩ := good_sl (e := 179) (by kernel_rfl) wa0_4
  obtain rfl := goodR_nil hj0_4
  clear hA0 hval0 hsz0
  obtain ⟨kb, hkb⟩ : ∃ k, lv 1 ≤ k := ⟨_, Nat.le_refl _⟩
  obtain ⟨z, rfl, hz⟩ := Yab.T ka0_0 ka0_1 ka0_2 ⟨ka0_3, fun r hr => Yax (ma0_3 r hr)⟩ ⟨ka0_4, fun r hr => goodII_179 (ma0_4 r hr)⟩
  refine (law_calls (Yab.ok kb) rfl rfl (by kernel_rfl) (aa := [.agg [.str aA, .int .i64 aB, .int .i64 aF, .sl aD, .sl aC]]) (vs := [.agg cs0.toArray]) ?_ ⟨(), ?_⟩).mono fun e W' ⟨he, bel⟩ => ?_
  · exact (ZU.cons' ⟨rfl, cs0, rfl, hl0, hc0⟩ ZU.nil')
  · exact (ent_run (Yab.e kb) rfl (congrArg some (hz kb hkb)) rfl)
  · subst he
    exact ⟨_, rfl, _, _, _, [], _, [], hW', trodAll_mk1 (shut_bool (by kernel_rfl) _), (trodAll_cons_mk (Below.trod laidOut (by kernel_rfl) (of_decide_eq_true (by kernel_rfl)) k0 bel lt0) trodAll_mk0), rfl, bel.frame _, fun h => by cases h⟩
theorem facts1 : joined1 Try.prog 5 Try.f5 Rows.fnExactCalmSpec Rows.fnExactCalmRow = true := by kernel_rfl
theorem facts2 : joined2 Try.prog 5 Try.f5 Rows.fnExactCalmSpec Rows.fnExactCalmRow = true := by kernel_rfl
theorem facts3 : joined3 Try.prog 5 Try.f5 Rows.fnExactCalmSpec Rows.fnExactCalmRow = true := by kernel_rfl
theorem facts4 : joined4 Try.prog 5 Try.f5 Rows.fnExactCalmSpec Rows.fnExactCalmRow = true := by kernel_rfl
theorem facts5 : joined5 Try.prog 5 Try.f5 Rows.fnExactCalmSpec Rows.fnExactCalmRow = true := by kernel_rfl
theorem facts6 : joined6 Try.prog 5 Try.f5 Rows.fnExactCalmSpec Rows.fnExactCalmRow = true := by kernel_rfl
theorem facts7 : joined7 Try.prog 5 Try.f5 Rows.fnExactCalmSpec Rows.fnExactCalmRow = true := by kernel_rfl
theorem facts8 : joined8 Try.prog 5 Try.f5 Rows.fnExactCalmSpec Rows.fnExactCalmRow = true := by kernel_rfl
theorem over : Rows.fnExactCalmRow.holds Try.pinned (OpenSpec.ofChange Rows.fnExactCalmSpec) :=
  OpenClaim.holds_of_wide 5 Try.f5 rfl rfl rfl rfl rfl rfl rfl ⟨rfl, rfl, rfl, rfl, rfl⟩ rfl rfl rfl rfl rfl (by kernel_rfl) Try.func5 (joined_of facts1 facts2 facts3 facts4 facts5 facts6 facts7 facts8)
    (of_decide_eq_true (by kernel_rfl)) (by unfold Func.isWrapper; first | (rw [if_pos (by decide +kernel)]; kernel_rfl) | (rw [if_neg (by decide +kernel)]; exact ⟨rfl, rfl⟩))
    (fun os started H enc _ => lifted os started H enc)
theorem fnExactCalm_holds : Rows.FnExactCalmSaid := over
end Go.Proofs.Ytppfencdbabmeaa
