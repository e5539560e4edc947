/- Printed, and by hand: the functions that FnMoved reaches come to their end; the program's answer as the reference's. -/
import Derived.Test.YtpgplbalenfgfaaYFnMoved0
import Derived.KernelRfl
set_option linter.unusedVariables false
set_option linter.unusedSimpArgs false
namespace Go.Proofs.Ytpgplbalenfgfaa
open Go Go.T Go.Proofs
def Yaq (l : List (Int × Int)) : Int := (l.map (·.2)).sum
theorem YaI (p : Int × Int) (l : List (Int × Int)) : Yaq (p :: l) = p.2 + Yaq l := by simp [Yaq]
theorem YaE (a b : List (Int × Int)) : Yaq (a ++ b) = Yaq a + Yaq b := by simp [Yaq, List.sum_append]
theorem Yax {lo hi : Int} : ∀ {l : List (Int × Int)}, (∀ p ∈ l, lo ≤ p.2 ∧ p.2 ≤ hi) → lo * l.length ≤ Yaq l ∧ Yaq l ≤ hi * l.length
  | [], _ => by simp [Yaq]
  | p :: l, h => by
    have := h p (by simp)
    have := Yax (l := l) fun q hq => h q (List.mem_cons_of_mem _ hq)
    rw [YaI, List.length_cons]
    rw [show (((l.length + 1 : Nat)) : Int) = (l.length : Int) + 1 by omega, Int.mul_add, Int.mul_add]
    omega
set_option maxRecDepth 100000 in
theorem l13Sum_t {l : List (Int × Int)} (hl : l.length ≤ 1048576) (h : ∀ p ∈ l, -10000 ≤ p.2 ∧ p.2 ≤ 10000) {k : Nat} (hk : Z3 k) : Yk.t k (ofP l) = some (Yaq l) := by
  have hb : big = 2 ^ 64 := rfl
  unfold Yk.t Yk.g
  refine iter_seq (fun i => (Yaq (l.take i), (i : Int))) (n := l.length) (by unfold Z3 at hk; omega) (fun L i hi => ?_) (fun L => ?_)
  · have h1 := Yax (l := l.take (i + 1)) fun p hp => h p (List.mem_of_mem_take hp)
    have hlen : (l.take (i + 1)).length = i + 1 := by rw [List.length_take]; omega
    have e : Yaq (l.take (i + 1)) = Yaq (l.take i) + l[i].2 := by
      rw [List.take_add_one, List.getElem?_eq_getElem hi, YaE]
      simp [Yaq]
    rw [hlen] at h1
    simp (disch := omega) only [Yk.l0, atR, rdQ, Q.ask, Yak, ZQ (show (i : Int) < l.length by omega), cond_true, Yap hi, ZY, Zad, Z6, ← e, Zj]
    rfl
  · simp only [Yk.l0, atR, rdQ, Q.ask, Yak, ZV (show ¬ (l.length : Int) < l.length by omega), cond_false, List.take_length]
theorem pairs_runs {l : List (Int × Int)} (ha : Asc l) (h : ∀ p ∈ l, 1 ≤ p.2 ∧ p.2 ≤ 10000 ∧ 1 ≤ p.1 ∧ p.1 ≤ 1000000) : runsB (ofP l) 1 = true := by
  unfold runsB
  rw [List.all_eq_true]
  intro i hi
  have hi : i < l.length := by rwa [List.mem_range, Yak] at hi
  have := h _ (List.getElem_mem hi)
  unfold runP inB
  rw [YaA hi, YaH hi]
  simp only [Bool.and_eq_true, Bool.or_eq_true, Bool.not_eq_true', decide_eq_true_eq, decide_eq_false_iff_not]
  refine ⟨⟨by omega, by omega⟩, ⟨by omega, by omega⟩, ?_⟩
  by_cases h0 : i = 0
  · exact .inl (by omega)
  · right
    rw [show ((i : Int) - 1) = ((i - 1 : Nat) : Int) by omega, YaA (by omega)]
    have := List.pairwise_iff_getElem.mp ha (i - 1) i (by omega) hi (by omega)
    omega
structure IsleP (a0 : ByteArray) (a1 a2 : Int) (a3 : List (List D)) (l : List (Int × Int)) : Prop where
  name : Yh.v a0 = true
  room0 : 0 ≤ a1
  room1 : a1 ≤ 10000
  rev0 : 0 ≤ a2
  rev1 : a2 ≤ 1000000
  works : Yi.v a3 = true
  asc : Asc l
  low : ∀ p ∈ l, 1 ≤ p.2 ∧ p.2 ≤ 10000 ∧ 1 ≤ p.1 ∧ p.1 ≤ 1000000
  len : l.length ≤ 80
  sum : Yaq l ≤ a1
theorem isle_iff {a0 : ByteArray} {a1 a2 : Int} {a3 : List (List D)} {l : List (Int × Int)} (g0 : a0.size ≤ lim) (g3 : Zi Yd lim a3) (g4 : Zi RII lim (ofP l)) : Yx.v a0 a1 a2 a3 (ofP l) = true ↔ IsleP a0 a1 a2 a3 l := by
  have hk : ZF 1 (lv 1) := Nat.le_refl _
  have ht := Yx.tv (aA := a1) (aC := a2) g0 g3 g4 hk
  have hk0 : Z3 (lv 1) := up0 hk
  have hlim : lim = 1048576 := rfl
  have hl := g4.1
  rw [Yak] at hl
  unfold Yx.t Yx.g at ht
  simp only [Yh.fv g0 hk0, YaG, Yi.fv g3 hk, l11Runs_fv g4 hk0, Yak] at ht
  constructor
  · intro h
    rw [h] at ht
    cases e1 : Yh.v a0 <;> rw [e1] at ht <;> simp only [cond_true, cond_false] at ht <;> try (cases ht; done)
    cases e2 : inB a1 0 10000 <;> rw [e2] at ht <;> simp only [cond_true, cond_false] at ht <;> try (cases ht; done)
    cases e3 : inB a2 0 1000000 <;> rw [e3] at ht <;> simp only [cond_true, cond_false] at ht <;> try (cases ht; done)
    cases e4 : Yi.v a3 <;> rw [e4] at ht <;> simp only [cond_true, cond_false] at ht <;> try (cases ht; done)
    cases e5 : runsB (ofP l) 1 && decide ((l.length : Int) ≤ 80) <;> rw [e5] at ht <;> simp only [cond_true, cond_false] at ht <;> try (cases ht; done)
    rw [Bool.and_eq_true, decide_eq_true_eq] at e5
    obtain ⟨h1, h2⟩ := runs_pairs e5.1
    rw [Yk.f_of (l13Sum_t hl (fun p hp => by have := h2 p hp; omega) hk0)] at ht
    simp only [Option.some.injEq, decide_eq_true_eq] at ht
    unfold inB at e2 e3
    simp only [Bool.and_eq_true, decide_eq_true_eq] at e2 e3
    exact ⟨e1, e2.1, e2.2, e3.1, e3.2, e4, h1, h2, by omega, ht⟩
  · intro h
    have e2 : inB a1 0 10000 = true := by unfold inB; rw [ZQ h.room0, ZQ h.room1]; rfl
    have e3 : inB a2 0 1000000 = true := by unfold inB; rw [ZQ h.rev0, ZQ h.rev1]; rfl
    have hlen := h.len
    rw [h.name, e2, e3, h.works, pairs_runs h.asc h.low, ZQ (show (l.length : Int) ≤ 80 by omega), Yk.f_of (l13Sum_t hl (fun p hp => by have := h.low p hp; omega) hk0), ZQ h.sum] at ht
    simp only [Bool.and_self, cond_true, Option.some.injEq] at ht
    exact ht.symm
def Yav (a3 : List (List D)) (uid : Int) : Int := if 0 ≤ Zbo (fun (i : Nat) => gI a3 (i : Int) 0 == uid) a3.length then gI a3 (Zbo (fun (i : Nat) => gI a3 (i : Int) 0 == uid) a3.length) 1 else 0
set_option maxRecDepth 100000 in
theorem wants_v {a0 : ByteArray} {a1 a2 uid : Int} {a3 : List (List D)} {l : List (Int × Int)} (g0 : a0.size ≤ lim) (g3 : Zi Yd lim a3) (g4 : Zi RII lim (ofP l)) : Yl.v a0 a1 a2 a3 (ofP l) uid = Yav a3 uid := by
  have hlim : lim = 1048576 := rfl
  have hl := g3.1
  have hb : big = 2 ^ 64 := rfl
  have ht := Yl.tv (aA := a1) (aC := a2) (a1 := uid) g0 g3 g4 (Nat.le_refl big)
  have h2 : Yl.t big a0 a1 a2 a3 (ofP l) uid = some (Yav a3 uid) := by
    unfold Yl.t Yl.g
    refine (iter_find (n := a3.length) (fun i => gI a3 (i : Int) 0 == uid) (r1 := fun i => some (gI a3 (i : Int) 1)) (r2 := some 0) (by omega) (fun L i hi => ?_) (fun L => ?_)).trans ?_
    · simp (disch := omega) only [Yl.l0, atR, rdQ, Q.ask, ZQ (show (i : Int) < a3.length by omega), cond_true, Yd.row g3, ZY, Zad, Zaj, Za7, Z6, Zj]
    · simp only [Yl.l0, atR, rdQ, Q.ask, ZV (show ¬ (a3.length : Int) < a3.length by omega), cond_false]
    · unfold Yav Zbo
      cases (List.range a3.length).find? fun (i : Nat) => gI a3 (i : Int) 0 == uid with
      | none => rfl
      | some p => simp
  rw [h2] at ht
  exact (Option.some.inj ht).symm
theorem wantN_ge {a3 : List (List D)} (g3 : Zi Yd lim a3) (hw : Yi.v a3 = true) (uid : Int) : 0 ≤ Yav a3 uid ∧ Yav a3 uid ≤ 10000 := by
  unfold Yav
  split
  · rename_i h
    obtain ⟨h1, -, h3, -⟩ := findI_some h
    have := works_low g3 hw _ h1
    unfold worksP inB at this
    simp only [Bool.and_eq_true, decide_eq_true_eq] at this
    rw [← h3]
    omega
  · omega
theorem works_asc {a3 : List (List D)} (g3 : Zi Yd lim a3) (hw : Yi.v a3 = true) : ∀ i j, i < j → j < a3.length → gI a3 (i : Int) 0 < gI a3 (j : Int) 0 := by
  have hs : ∀ i, i + 1 < a3.length → gI a3 (i : Int) 0 < gI a3 ((i + 1 : Nat) : Int) 0 := fun i hi => by
    have := works_low g3 hw (i + 1) hi
    unfold worksP at this
    simp only [Bool.and_eq_true, Bool.or_eq_true, Bool.not_eq_true', decide_eq_true_eq, decide_eq_false_iff_not] at this
    rw [show (((i + 1 : Nat) : Int) - 1) = (i : Int) by omega] at this
    rcases this.2.2.2 with q | q <;> omega
  intro i j hij
  induction hij with
  | refl => exact hs i
  | @step m _ ih => intro hj; have h1 := ih (by omega); have h2 : gI a3 (m : Int) 0 < gI a3 ((m + 1 : Nat) : Int) 0 := hs m hj; show gI a3 (i : Int) 0 < gI a3 ((m + 1 : Nat) : Int) 0; omega
theorem wantN_at {a3 : List (List D)} (g3 : Zi Yd lim a3) (hw : Yi.v a3 = true) {i : Nat} (hi : i < a3.length) : Yav a3 (gI a3 (i : Int) 0) = gI a3 (i : Int) 1 := by
  unfold Yav
  by_cases h : 0 ≤ Zbo (fun j => gI a3 (j : Int) 0 == gI a3 (i : Int) 0) a3.length
  · rw [if_pos h]
    obtain ⟨h1, h2, h3, -⟩ := findI_some h
    rw [beq_iff_eq] at h2
    rw [← h3]
    generalize (Zbo (fun j => gI a3 (j : Int) 0 == gI a3 (i : Int) 0) a3.length).toNat = j at *
    rcases Nat.lt_trichotomy i j with q | q | q
    · have := works_asc g3 hw i j q h1; omega
    · rw [q]
    · have := works_asc g3 hw j i q hi; omega
  · have := (findI_none (p := fun (j : Nat) => gI a3 (j : Int) 0 == gI a3 (i : Int) 0) (n := a3.length) (by omega)).2 i hi
    rw [beq_self_eq_true] at this
    cases this
theorem wantN_pos {a3 : List (List D)} {uid : Int} (h : 0 < Yav a3 uid) : ∃ i, i < a3.length ∧ gI a3 (i : Int) 0 = uid := by
  unfold Yav at h
  split at h
  · rename_i h0
    obtain ⟨h1, h2, -⟩ := findI_some h0
    exact ⟨_, h1, by simpa using h2⟩
  · omega
theorem Yam (p : Int × Int) (l : List (Int × Int)) (u : Int) : Yal (p :: l) u = if p.1 = u then p.2 else Yal l u := by
  unfold Yal
  rw [List.find?_cons]
  by_cases h : p.1 = u
  · rw [show (p.1 == u) = true from by rw [beq_iff_eq]; exact h, if_pos h]
  · rw [show (p.1 == u) = false from by rw [beq_eq_false_iff_ne]; exact h, if_neg h]
theorem YaC {u : Int} : ∀ {l : List (Int × Int)}, (∀ p ∈ l, p.1 ≠ u) → Yal l u = 0
  | [], _ => rfl
  | p :: l, h => by rw [Yam, if_neg (h p (by simp)), YaC fun q hq => h q (by simp [hq])]
theorem Yaz {u : Int} {b : List (Int × Int)} : ∀ {a : List (Int × Int)}, (∀ p ∈ a, p.1 ≠ u) → Yal (a ++ b) u = Yal b u
  | [], _ => rfl
  | p :: a, h => by rw [List.cons_append, Yam, if_neg (h p (by simp)), Yaz fun q hq => h q (by simp [hq])]
theorem runN_mid {A B B' : List (Int × Int)} {u v : Int} (hB : Yal B v = Yal B' v) : Yal (A ++ B) v = Yal (A ++ B') v := by
  induction A with
  | nil => exact hB
  | cons p A ih => rw [List.cons_append, List.cons_append, Yam, Yam, ih]
theorem asc_split {A B : List (Int × Int)} {u m : Int} (h : Asc (A ++ (u, m) :: B)) : (∀ p ∈ A, p.1 < u) ∧ (∀ p ∈ B, u < p.1) ∧ Asc (A ++ B) := by
  unfold Asc at *
  rw [List.pairwise_append] at h
  obtain ⟨h1, h2, h3⟩ := h
  rw [List.pairwise_cons] at h2
  refine ⟨fun p hp => h3 p hp _ List.mem_cons_self, fun p hp => h2.1 p hp, List.pairwise_append.mpr ⟨h1, h2.2, fun p hp q hq => h3 p hp q (List.mem_cons_of_mem _ hq)⟩⟩
theorem asc_put {A B : List (Int × Int)} {u n : Int} (h : Asc (A ++ B)) (hA : ∀ p ∈ A, p.1 < u) (hB : ∀ p ∈ B, u < p.1) : Asc (A ++ (u, n) :: B) := by
  unfold Asc at *
  rw [List.pairwise_append] at h ⊢
  obtain ⟨h1, h2, h3⟩ := h
  refine ⟨h1, List.pairwise_cons.mpr ⟨fun q hq => hB q hq, h2⟩, fun p hp q hq => ?_⟩
  rcases List.mem_cons.mp hq with rfl | hq
  · exact hA p hp
  · exact h3 p hp q hq
structure Step (l l' : List (Int × Int)) (u d : Int) : Prop where
  asc : Asc l'
  low : ∀ p ∈ l', 1 ≤ p.2 ∧ p.2 ≤ 10000 ∧ 1 ≤ p.1 ∧ p.1 ≤ 1000000
  sum : Yaq l' = Yaq l + d
  run : ∀ v, Yal l' v = if v = u then Yal l v + d else Yal l v
theorem step_at {A B : List (Int × Int)} {u m n : Int} (h : Asc (A ++ (u, m) :: B)) (hl : ∀ p ∈ A ++ (u, m) :: B, 1 ≤ p.2 ∧ p.2 ≤ 10000 ∧ 1 ≤ p.1 ∧ p.1 ≤ 1000000) (n1 : 1 ≤ n) (n2 : n ≤ 10000) : Step (A ++ (u, m) :: B) (A ++ (u, n) :: B) u (n - m) := by
  obtain ⟨h1, h2, h3⟩ := asc_split h
  have hu := hl (u, m) (by simp)
  refine ⟨asc_put h3 h1 h2, fun p hp => ?_, by rw [YaE, YaE, YaI, YaI]; show _ + (n + _) = _ + (m + _) + (n - m); omega, fun v => ?_⟩
  · rcases List.mem_append.mp hp with q | q
    · exact hl p (List.mem_append_left _ q)
    · rcases List.mem_cons.mp q with rfl | q
      · exact ⟨n1, n2, hu.2.2⟩
      · exact hl p (List.mem_append_right _ (List.mem_cons_of_mem _ q))
  · by_cases hv : v = u
    · subst hv
      have hA : ∀ p ∈ A, p.1 ≠ v := fun p hp e => by have := h1 p hp; omega
      rw [Yaz hA, Yaz hA, Yam, Yam]
      simp
      omega
    · rw [if_neg hv]
      exact runN_mid (u := u) (by rw [Yam, Yam, if_neg (fun e => hv e.symm), if_neg (fun e => hv e.symm)])
theorem step_drop {A B : List (Int × Int)} {u m : Int} (h : Asc (A ++ (u, m) :: B)) (hl : ∀ p ∈ A ++ (u, m) :: B, 1 ≤ p.2 ∧ p.2 ≤ 10000 ∧ 1 ≤ p.1 ∧ p.1 ≤ 1000000) : Step (A ++ (u, m) :: B) (A ++ B) u (-m) := by
  obtain ⟨h1, h2, h3⟩ := asc_split h
  refine ⟨h3, fun p hp => hl p ?_, by rw [YaE, YaE, YaI]; show _ = _ + (m + _) + -m; omega, fun v => ?_⟩
  · rcases List.mem_append.mp hp with q | q
    · exact List.mem_append_left _ q
    · exact List.mem_append_right _ (List.mem_cons_of_mem _ q)
  · by_cases hv : v = u
    · subst hv
      have hA : ∀ p ∈ A, p.1 ≠ v := fun p hp e => by have := h1 p hp; omega
      rw [Yaz hA, Yaz hA, Yam, YaC fun p hp e => by have := h2 p hp; omega]
      simp
      omega
    · rw [if_neg hv]
      exact runN_mid (u := u) (by rw [Yam, if_neg (fun e => hv e.symm)])
theorem step_new {A B : List (Int × Int)} {u : Int} (h : Asc (A ++ B)) (hl : ∀ p ∈ A ++ B, 1 ≤ p.2 ∧ p.2 ≤ 10000 ∧ 1 ≤ p.1 ∧ p.1 ≤ 1000000) (hA : ∀ p ∈ A, p.1 < u) (hB : ∀ p ∈ B, u < p.1) (u1 : 1 ≤ u) (u2 : u ≤ 1000000) : Step (A ++ B) (A ++ (u, 1) :: B) u 1 := by
  refine ⟨asc_put h hA hB, fun p hp => ?_, by rw [YaE, YaE, YaI]; show _ + (1 + _) = _ + _ + 1; omega, fun v => ?_⟩
  · rcases List.mem_append.mp hp with q | q
    · exact hl p (List.mem_append_left _ q)
    · rcases List.mem_cons.mp q with rfl | q
      · exact ⟨by show (1 : Int) ≤ 1; omega, by show (1 : Int) ≤ 10000; omega, u1, u2⟩
      · exact hl p (List.mem_append_right _ q)
  · by_cases hv : v = u
    · subst hv
      have hA' : ∀ p ∈ A, p.1 ≠ v := fun p hp e => by have := hA p hp; omega
      rw [Yaz hA', Yaz hA', Yam, YaC (l := B) fun p hp e => by have := hB p hp; omega]
      simp
    · rw [if_neg hv]
      exact runN_mid (u := u) (by rw [Yam, if_neg (fun e => hv e.symm)])
theorem asc_cut {u : Int} : ∀ {l : List (Int × Int)}, Asc l → (∃ A m B, l = A ++ (u, m) :: B ∧ Yal l u = m) ∨ ∃ A B, l = A ++ B ∧ (∀ p ∈ A, p.1 < u) ∧ (∀ p ∈ B, u < p.1) ∧ Yal l u = 0
  | [], _ => .inr ⟨[], [], rfl, by simp, by simp, rfl⟩
  | p :: l, h => by
    have h' := (List.pairwise_cons.mp h)
    rcases Int.lt_trichotomy p.1 u with q | q | q
    · rcases asc_cut (u := u) h'.2 with ⟨A, m, B, e, hr⟩ | ⟨A, B, e, hA, hB, hr⟩
      · exact .inl ⟨p :: A, m, B, by rw [e]; rfl, by rw [Yam, if_neg (by omega), hr]⟩
      · refine .inr ⟨p :: A, B, by rw [e]; rfl, fun x hx => ?_, hB, by rw [Yam, if_neg (by omega), hr]⟩
        rcases List.mem_cons.mp hx with rfl | hx
        · exact q
        · exact hA x hx
    · exact .inl ⟨[], p.2, l, by rw [← q]; rfl, by rw [Yam, if_pos q]⟩
    · exact .inr ⟨[], p :: l, rfl, by simp, fun x hx => by
        rcases List.mem_cons.mp hx with rfl | hx
        · exact q
        · have := h'.1 x hx; omega, YaC fun x hx e => by
        rcases List.mem_cons.mp hx with rfl | hx
        · omega
        · have := h'.1 x hx; omega⟩
theorem runN_of {l : List (Int × Int)} (h : Asc l) {p : Int × Int} (hp : p ∈ l) : Yal l p.1 = p.2 := by
  obtain ⟨A, B, rfl⟩ := List.append_of_mem hp
  obtain ⟨h1, -, -⟩ := asc_split (u := p.1) (m := p.2) h
  rw [Yaz fun q hq e => by have := h1 q hq; omega, Yam, if_pos rfl]
inductive Moved (a1 : Int) (a3 : List (List D)) (l : List (Int × Int)) : List (Int × Int) × Int × Int → Prop
  | less {l' : List (Int × Int)} {u : Int} (h : Step l l' u (-1)) (ho : Yav a3 u < Yal l u) : Moved a1 a3 l (l', u, -1)
  | more {l' : List (Int × Int)} {u : Int} (h : Step l l' u 1) (hn : ∀ v, Yal l v ≤ Yav a3 v) (hu : Yal l u < Yav a3 u) (hs : Yaq l < a1) : Moved a1 a3 l (l', u, 1)
  | calm (hn : ∀ v, Yal l v ≤ Yav a3 v) (hs : a1 ≤ Yaq l ∨ ∀ i, i < a3.length → gI a3 (i : Int) 1 ≤ Yal l (gI a3 (i : Int) 0)) : Moved a1 a3 l (l, 0, 0)
set_option maxHeartbeats 2000000 in
theorem moveV_moved {a0 : ByteArray} {a1 a2 : Int} {a3 : List (List D)} {l : List (Int × Int)} (g0 : a0.size ≤ lim) (g3 : Zi Yd lim a3) (g4 : Zi RII lim (ofP l)) (h : IsleP a0 a1 a2 a3 l) : Moved a1 a3 l (moveV a0 a1 a2 a3 l) := by
  have hlim : lim = 1048576 := rfl
  have hb : big = 2 ^ 64 := rfl
  have hlen := h.len
  have hsum : Yk.v (ofP l) = Yaq l := by
    have h1 := Yk.tv g4 (Nat.le_refl big)
    rw [l13Sum_t (by omega) (fun p hp => by have := h.low p hp; omega) (Nat.le_refl big)] at h1
    exact (Option.some.inj h1).symm
  unfold moveV
  rw [(isle_iff g0 g3 g4).mpr h, hsum]
  simp only [cond_true]
  by_cases ho : Yas a0 a1 a2 a3 l ≥ 0
  · rw [ZQ ho]
    obtain ⟨h1, h2, h3, h4⟩ := findI_some (p := fun i => decide (gI (ofP l) (i : Int) 1 > Yl.v a0 a1 a2 a3 (ofP l) (gI (ofP l) (i : Int) 0))) (n := l.length) ho
    change (Yas a0 a1 a2 a3 l).toNat < l.length at h1
    change (((Yas a0 a1 a2 a3 l).toNat : Nat) : Int) = Yas a0 a1 a2 a3 l at h3
    change decide (gI (ofP l) ((Yas a0 a1 a2 a3 l).toNat : Int) 1 > Yl.v a0 a1 a2 a3 (ofP l) (gI (ofP l) ((Yas a0 a1 a2 a3 l).toNat : Int) 0)) = true at h2
    generalize Yas a0 a1 a2 a3 l = v at *
    obtain ⟨i, rfl⟩ : ∃ i : Nat, v = (i : Int) := ⟨v.toNat, by omega⟩
    simp only [Int.toNat_natCast] at h1 h2
    have hw := wants_v (a1 := a1) (a2 := a2) (uid := l[i].1) g0 g3 g4
    simp only [YaA h1, YaH h1, hw, decide_eq_true_eq] at h2
    simp only [cond_true, YaA h1, YaH h1]
    have hmem := List.getElem_mem h1
    have hlow := h.low _ hmem
    have hrn := runN_of h.asc hmem
    obtain ⟨A, B, e⟩ := List.append_of_mem hmem
    generalize l[i] = p at h2 hlow hrn e ⊢
    obtain ⟨u, m⟩ := p
    simp only at h2 hlow hrn e ⊢
    subst e
    by_cases hm : m - 1 = 0
    · rw [show (m - 1 == 0) = true from by rw [beq_iff_eq]; exact hm, putR_drop h.asc]
      have hs := step_drop h.asc h.low
      rw [show -m = -1 by omega] at hs
      exact .less hs (by omega)
    · rw [show (m - 1 == 0) = false from by rw [beq_eq_false_iff_ne]; exact hm, putR_set h.asc]
      have hs := step_at (n := m - 1) h.asc h.low (by omega) (by omega)
      rw [show m - 1 - m = -1 by omega] at hs
      exact .less hs (by omega)
  · rw [ZV ho]
    have hno : ∀ v, Yal l v ≤ Yav a3 v := fun v => by
      rcases asc_cut (u := v) h.asc with ⟨A, m, B, e, hr⟩ | ⟨-, -, -, -, -, hr⟩
      · have hin : (v, m) ∈ l := by rw [e]; simp
        obtain ⟨i, hi, he⟩ := List.mem_iff_getElem.mp hin
        have := (findI_none (p := fun i => decide (gI (ofP l) (i : Int) 1 > Yl.v a0 a1 a2 a3 (ofP l) (gI (ofP l) (i : Int) 0))) (n := l.length) (by unfold Yas at ho; omega)).2 i hi
        simp only [YaA hi, YaH hi, wants_v g0 g3 g4, he, decide_eq_false_iff_not] at this
        omega
      · have := (wantN_ge g3 h.works v).1; omega
    simp only [cond_false]
    by_cases hs : Yaq l < a1
    · rw [ZQ hs]
      simp only [cond_true]
      split
      · rename_i i hi
        have hlt := List.mem_range.mp (List.mem_of_find?_eq_some hi)
        have hp := List.find?_some hi
        unfold lackP at hp
        rw [decide_eq_true_eq] at hp
        have hwi := works_low g3 h.works i hlt
        unfold worksP inB at hwi
        simp only [Bool.and_eq_true, decide_eq_true_eq] at hwi
        have hwn := wantN_at g3 h.works hlt
        generalize gI a3 (i : Int) 0 = u at *
        generalize gI a3 (i : Int) 1 = c at *
        have hrn := runN_mem (uid := u) fun p hp => ⟨(h.low p hp).1, (h.low p hp).2.1⟩
        rw [show (Yal l u + 1 == 0) = false from by rw [beq_eq_false_iff_ne]; omega]
        rcases asc_cut (u := u) h.asc with ⟨A, m, B, e, hr⟩ | ⟨A, B, e, hA, hB, hr⟩
        · rw [hr] at hp ⊢
          subst e
          rw [putR_set h.asc]
          have hs' := step_at (n := m + 1) h.asc h.low (by omega) (by omega)
          rw [show m + 1 - m = 1 by omega] at hs'
          exact .more hs' hno (by rw [hr, hwn]; exact hp) hs
        · rw [hr] at hp ⊢
          subst e
          rw [putR_new hA hB]
          exact .more (step_new h.asc h.low hA hB (by omega) (by omega)) hno (by rw [hr, hwn]; exact hp) hs
      · rename_i hn
        refine .calm hno (.inr fun i hi => ?_)
        have := List.find?_eq_none.mp hn i (List.mem_range.mpr hi)
        unfold lackP at this
        rw [decide_eq_true_eq] at this
        omega
    · rw [ZV hs]
      exact .calm hno (.inl (by omega))
structure IsleD (a0 : ByteArray) (a1 a2 : Int) (a3 : List (List D)) (l : List (Int × Int)) : Prop where
  gs : a0.size ≤ lim
  gw : Zi Yd lim a3
  gl : Zi RII lim (ofP l)
  ok : IsleP a0 a1 a2 a3 l
  small : a1 ≤ 20
theorem Step.isle {a0 : ByteArray} {a1 a2 u d : Int} {a3 : List (List D)} {l l' : List (Int × Int)} (h : IsleD a0 a1 a2 a3 l) (hs : Step l l' u d) (hd : Yaq l + d ≤ a1) : IsleD a0 a1 a2 a3 l' := by
  have h1 := Yax (lo := 1) (hi := 10000) fun p hp => ⟨(hs.low p hp).1, (hs.low p hp).2.1⟩
  have h2 := hs.sum
  have h3 := h.small
  exact ⟨h.gs, h.gw, ofP_ok (Nat.le_trans (show l'.length ≤ 80 by omega) (by decide)) fun p hp => by have := hs.low p hp; exact ⟨wf_of (by omega) (by omega), wf_of (by omega) (by omega)⟩,
    ⟨h.ok.name, h.ok.room0, h.ok.room1, h.ok.rev0, h.ok.rev1, h.ok.works, hs.asc, hs.low, by omega, by omega⟩, h.small⟩
theorem moved_isle {a0 : ByteArray} {a1 a2 : Int} {a3 : List (List D)} {l : List (Int × Int)} (h : IsleD a0 a1 a2 a3 l) {z : List (Int × Int) × Int × Int} (hm : Moved a1 a3 l z) : IsleD a0 a1 a2 a3 z.1 := by
  have := h.ok.sum
  cases hm with
  | less hs ho => exact hs.isle h (by omega)
  | more hs _ _ hlt => exact hs.isle h (by omega)
  | calm _ _ => exact h
theorem l11Name_ex {b : List (List D)} {i h : Int} {k : Nat} (c : Cur b i) : ∃ (x : UInt8) (i' h' : Int), x ∈ [97, 98, 99, 100, 101] ∧ Cur b i' ∧ Yab.t k b i h = some (⟨#[x]⟩, b, i', h') := by
  unfold Yab.t Yab.g
  let l : List UInt8 := [97, 98, 99, 100, 101]
  have hstr := strs_in (l := l.map fun x => (⟨#[x]⟩ : ByteArray)) (by decide)
  obtain ⟨j, i1, h1, j0, j1, hc1, e1⟩ := str_ex (k := k) (h := h) c hstr (by decide)
  have e2 : Y1.t k b i h ([[.str (⟨#[97]⟩ : ByteArray)], [.str (⟨#[98]⟩ : ByteArray)], [.str (⟨#[99]⟩ : ByteArray)], [.str (⟨#[100]⟩ : ByteArray)], [.str (⟨#[101]⟩ : ByteArray)]] : List (List D)) = _ := e1
  rw [Y1.f_of e2]
  have hm := gR_mem j0 j1
  obtain ⟨s, hs, e⟩ := List.mem_map.mp hm
  obtain ⟨x, hx, rfl⟩ := List.mem_map.mp hs
  refine ⟨x, i1, h1, hx, hc1, ?_⟩
  have : gS ((l.map fun x => (⟨#[x]⟩ : ByteArray)).map fun s => [D.str s]) j 0 = (⟨#[x]⟩ : ByteArray) := by
    unfold gS
    rw [← e]
    rfl
  rw [this]
set_option maxRecDepth 100000 in
theorem nameOk_1 : ∀ x ∈ ([97, 98, 99, 100, 101] : List UInt8), Yh.v ⟨#[x]⟩ = true := by
  have key : ∀ x ∈ ([97, 98, 99, 100, 101] : List UInt8), Yh.t big ⟨#[x]⟩ = some true := by
    intro x hx
    simp only [List.mem_cons, List.not_mem_nil, or_false] at hx
    rcases hx with rfl | rfl | rfl | rfl | rfl <;> kernel_rfl
  intro x hx
  unfold Yh.v
  rw [key x hx]
  rfl
set_option maxRecDepth 100000 in
set_option maxHeartbeats 2000000 in
theorem l13Draw_ex {k : Nat} (hk : ZF 1 k) {b : List (List D)} {i h : Int} (c : Cur b i) : ∃ (a0 : ByteArray) (a1 a2 : Int) (w : List (List D)) (l : List (Int × Int)) (i' h' : Int), IsleD a0 a1 a2 w l ∧ Cur b i' ∧ Yo.t k b i h = some (a0, a1, a2, Zb w, upP l, b, i', h') := by
  have hlim : lim = 1048576 := rfl
  have hb : big = 2 ^ 64 := rfl
  have hkb : 2 ^ 65 ≤ k := hk
  have hk0 : Z3 k := up0 hk
  let Qz : List (List D) → Option (ByteArray × Int × Int × List (List C) × List (List C) × List (List D) × Int × Int) → Prop := fun b o => ∃ (a0 : ByteArray) (a1 a2 : Int) (w : List (List D)) (l : List (Int × Int)) (i' h' : Int), IsleD a0 a1 a2 w l ∧ Cur b i' ∧ o = some (a0, a1, a2, Zb w, upP l, b, i', h')
  show Qz b _
  unfold Yo.t Yo.g Yo.m
  obtain ⟨x, i1, h1, hx, hc1, e1⟩ := l11Name_ex (k := k) (h := h) c
  obtain ⟨r, i2, h2, hr, hc2, e2⟩ := int_ex (k := k) (h := h1) hc1 [0, 1, 3, 6, 20] (by decide)
  simp only [List.map_cons, List.map_nil] at e2
  simp only [List.mem_cons, List.not_mem_nil, or_false] at hr
  have gs : (⟨#[x]⟩ : ByteArray).size ≤ lim := by show 1 ≤ 1048576; omega
  have hin : inB r 0 10000 = true := by unfold inB; rw [ZQ (show 0 ≤ r by omega), ZQ (show r ≤ 10000 by omega)]; rfl
  obtain ⟨m, i3, h3, m0, m1, -, hc3, e3⟩ := Yau (k := k) (h := h2) (n := 4) hc2
  have m1 := m1 (by decide)
  have hI : ∀ (K : ByteArray → Int → Int → List (List C) → List (List C) → Bool → Option (ByteArray × Int × Int × List (List C) × List (List C) × List (List D) × Int × Int)), Yah.f k ⟨#[x]⟩ r K = K ⟨#[x]⟩ r 0 [] [] true := fun K => by
    unfold Yah.f
    rw [spec_IsleNew_t gs hk0, nameOk_1 x hx, hin]
    rfl
  rw [Yab.f_of e1, Yaa.f_of e2, hI, Yt.f_of e3]
  have hwn : Yi.v [] = true := by
    have := Yi.tv (a0 := []) ⟨by decide, by simp⟩ (Nat.le_refl (lv 1))
    unfold Yi.t Yi.g at this
    rw [iter_step (by decide)] at this
    simp [Yi.l0, atR, rdQ, Q.ask] at this
    exact this.symm
  refine iter_ex (fun v => v.1.toNat) (fun v => 0 ≤ v.1 ∧ v.1 ≤ 3 ∧ v.2.1 = b ∧ Cur b v.2.2.1 ∧ v.2.2.2.2.1 = (⟨#[]⟩ : ByteArray) ∧ v.2.2.2.2.2.1 = 0 ∧ v.2.2.2.2.2.2.1 = 0 ∧ ∃ (w : List (List D)) (l : List (Int × Int)), v.2.2.2.2.2.2.2.2.2.2.1 = Zb w ∧ v.2.2.2.2.2.2.2.2.2.2.2 = upP l ∧ IsleD v.2.2.2.2.2.2.2.1 v.2.2.2.2.2.2.2.2.1 v.2.2.2.2.2.2.2.2.2.1 w l)
    (Qz b) ?_ (v := (m, b, i3, h3, (⟨#[]⟩ : ByteArray), 0, 0, (⟨#[x]⟩ : ByteArray), r, 0, [], []))
    ⟨m0, by show m ≤ 3; omega, rfl, hc3, rfl, rfl, rfl, [], [], by simp only [Zb], rfl, gs, ⟨by decide, by simp⟩, ⟨by decide, by simp [ofP]⟩, ⟨nameOk_1 x hx, by show 0 ≤ r; omega, by show r ≤ 10000; omega, by show (0 : Int) ≤ 0; omega, by show (0 : Int) ≤ 1000000; omega, hwn, List.Pairwise.nil, by simp, by decide, by show (0 : Int) ≤ r; omega⟩, by show r ≤ 20; omega⟩ (by show m.toNat < k; omega)
  rintro ⟨n, b', i, h, q0, q1, q2, a0, a1, a2, w', l'⟩ ⟨n0, n1, eb, hc, z0, z1, z2, w, l, ew, el, hD⟩ L hL
  simp only at n0 n1 eb hc z0 z1 z2 ew el hD
  subst eb z0 z1 z2 ew el
  by_cases hn : n > 0
  · obtain ⟨y, i4, h4, y0, y1, -, hc4, e4⟩ := Yau (k := k) (h := h) (n := 3) hc
    have y1 := y1 (by decide)
    obtain ⟨ws, i5, h5, hws, hwl, hc5, e5⟩ := works_ex hk (h := h4) hc4
    have gws : Zi Yd lim ws := ⟨by omega, hws⟩
    obtain ⟨s, i6, h6, s0, s1, -, hc6, e6⟩ := Yau (k := k) (h := h5) (n := 9) hc5
    have s1 := s1 (by decide)
    have hrev := hD.ok.rev1
    have hrev0 := hD.ok.rev0
    have hwr : IntKind.wrap .i64 ((IntKind.wrap .i64 (a2 + 1)) + y) = a2 + 1 + y := by rw [Zj (x := a2 + 1) (by omega) (by omega), Zj (by omega) (by omega)]
    have hO : ∃ rev' w' ok, IsleD a0 a1 rev' w' l ∧ Yai.t k a0 a1 a2 w (ofP l) (a2 + 1 + y) ws = some (a0, a1, rev', Zb w', upP l, ok) := by
      rw [spec_Obey_t (a1 := a1) (a2 := a2) (n := a2 + 1 + y) hD.gs hD.gw hD.gl gws hk]
      unfold obeyV
      cases ho : obeyB a0 a1 a2 w (ofP l) (a2 + 1 + y) ws with
      | false => exact ⟨a2, w, false, hD, by rw [deep_ofP]; rfl⟩
      | true =>
        unfold obeyB at ho
        simp only [Bool.and_eq_true, Bool.not_eq_true', decide_eq_false_iff_not] at ho
        refine ⟨a2 + 1 + y, ws, true, ⟨hD.gs, gws, hD.gl, ⟨hD.ok.name, hD.ok.room0, hD.ok.room1, by omega, by omega, ho.2.1, hD.ok.asc, hD.ok.low, hD.ok.len, hD.ok.sum⟩, hD.small⟩, by rw [deep_ofP]; rfl⟩
    obtain ⟨rev', w', ok, hD', eO⟩ := hO
    simp only [Yo.l0, Yo.m0, ZQ hn, cond_true, Yt.f_of e4, YF.f_of e5, ZO, imm_upP, hwr, Yai.f_of eO, Yt.f_of e6]
    refine iter_ex (fun v => v.1.toNat) (fun v => 0 ≤ v.1 ∧ v.1 ≤ 9 ∧ ∃ (w : List (List D)) (l : List (Int × Int)), v.2.2.2.2.1 = Zb w ∧ v.2.2.2.2.2 = upP l ∧ IsleD v.2.1 v.2.2.1 v.2.2.2.1 w l) (Qz b') ?_ (v := (s, a0, a1, rev', Zb w', upP l)) ⟨s0, by show s ≤ 9; omega, w', l, rfl, rfl, hD'⟩ (by show s.toNat < k; omega)
    rintro ⟨t, a0, a1, a2, w0, l0⟩ ⟨t0, t1, w, l, ew, el, hD⟩ M hM
    simp only at t0 t1 ew el hD
    subst ew el
    by_cases ht : t > 0
    · have hmv := moved_isle hD (moveV_moved hD.gs hD.gw hD.gl hD.ok)
      have eM := spec_Move_t (a1 := a1) (a2 := a2) hD.gs hD.gw hD.gl hk
      unfold moveR at eM
      simp only [Yo.l1, ZQ ht, cond_true, ZO, imm_upP, YX.f_of eM, Zj (show -9223372036854775808 ≤ t - 1 by omega) (show t - 1 ≤ 9223372036854775807 by omega)]
      exact hM _ ⟨by show 0 ≤ t - 1; omega, by show t - 1 ≤ 9; omega, w, _, rfl, rfl, hmv⟩ (by show (t - 1).toNat < t.toNat; omega)
    · simp only [Yo.l1, ZV ht, cond_false, Zj (show -9223372036854775808 ≤ n - 1 by omega) (show n - 1 ≤ 9223372036854775807 by omega)]
      exact hL _ ⟨by show 0 ≤ n - 1; omega, by show n - 1 ≤ 3; omega, rfl, hc6, rfl, rfl, rfl, w, l, rfl, rfl, hD⟩ (by show (n - 1).toNat < n.toNat; omega)
  · simp only [Yo.l0, Yo.m0, ZV hn, cond_false]
    exact ⟨a0, a1, a2, w, l, i, h, hD, hc, rfl⟩
theorem YJ.f_of {β : Type} {k a0 a1 z0 z1} (h : YJ.t k a0 a1 = some (z0, z1)) (K : Int → Bool → Option β) : YJ.f k a0 a1 K = K z0 z1 := by unfold YJ.f; rw [h]; rfl
theorem Yaj.f_of {β : Type} {k aB aA aC aI aF z0} (h : Yaj.t k aB aA aC aI aF = some z0) (K : Bool → Option β) : Yaj.f k aB aA aC aI aF K = K z0 := by unfold Yaj.f; rw [h]; rfl
theorem impl_Calm_t {a0 : ByteArray} {a1 a2 : Int} {a3 : List (List D)} {l : List (Int × Int)} (g0 : a0.size ≤ lim) (g3 : Zi Yd lim a3) (g4 : Zi RII lim (ofP l)) {k : Nat} (hk : ZF 1 k) : Yaj.t k a0 a1 a2 a3 (ofP l) = some ((moveV a0 a1 a2 a3 l).2.2 == 0) := by
  have h := impl_Move_t (a1 := a1) (a2 := a2) g0 g3 g4 hk
  unfold moveR at h
  unfold Yaj.t Yaj.g
  rw [YA.f_of h]
set_option maxRecDepth 100000 in
theorem runOf_fv {l : List (Int × Int)} {uid : Int} (hl : l.length ≤ 1048576) {k : Nat} (hk : Z3 k) {β : Type} (K : Int → Bool → Option β) : ∃ b, YJ.f k (ofP l) uid K = K (Yal l uid) b := by
  have hb : big = 2 ^ 64 := rfl
  have key : ∀ (m : Nat) (i : Nat) (fuel : Nat), i ≤ l.length → l.length - i ≤ m → m < fuel → (∀ p ∈ l.take i, p.1 ≠ uid) → ∃ b, Zo (YJ.l0 k (ofP l) uid (fun z0 z1 => some (z0, z1))) fuel (i : Int) = some (Yal l uid, b) := by
    intro m
    induction m with
    | zero =>
      intro i fuel hi hm hf hn
      have : i = l.length := by omega
      subst this
      rw [iter_step (by omega)]
      simp only [YJ.l0, atR, rdQ, Q.ask, Yak, ZV (show ¬ (l.length : Int) < l.length by omega), cond_false]
      rw [List.take_length] at hn
      exact ⟨false, by rw [YaC hn]⟩
    | succ m ih =>
      intro i fuel hi hm hf hn
      rw [iter_step (by omega)]
      by_cases hlt : i < l.length
      · simp only [YJ.l0, atR, rdQ, Q.ask, Yak, ZQ (show (i : Int) < l.length by omega), cond_true, Yap hlt, ZY, Zad, Z6]
        by_cases he : l[i].1 = uid
        · rw [show (l[i].1 == uid) = true from by rw [beq_iff_eq]; exact he]
          refine ⟨true, ?_⟩
          have : Yal l uid = l[i].2 := by
            have e : l = l.take i ++ l[i] :: l.drop (i + 1) := by rw [List.getElem_cons_drop, List.take_append_drop]
            conv => lhs; rw [e]
            rw [Yaz hn, Yam, if_pos he]
          rw [this]
          rfl
        · rw [show (l[i].1 == uid) = false from by rw [beq_eq_false_iff_ne]; exact he, cond_false, Zj (show -9223372036854775808 ≤ (i : Int) + 1 by omega) (show (i : Int) + 1 ≤ 9223372036854775807 by omega)]
          refine ih (i + 1) (fuel - 1) (by omega) (by omega) (by omega) fun p hp => ?_
          rw [List.take_add_one, List.getElem?_eq_getElem hlt] at hp
          rcases List.mem_append.mp hp with q | q
          · exact hn p q
          · simp at q; rw [q]; exact he
      · simp only [YJ.l0, atR, rdQ, Q.ask, Yak, ZV (show ¬ (i : Int) < l.length by omega), cond_false]
        have : i = l.length := by omega
        subst this
        rw [List.take_length] at hn
        exact ⟨false, by rw [YaC hn]⟩
  obtain ⟨b, e⟩ := key l.length 0 k (by omega) (by omega) (by unfold Z3 at hk; omega) (by simp)
  exact ⟨b, YJ.f_of (by unfold YJ.t YJ.g; exact e) K⟩
theorem sum_ite {a x : Int} {f : Int → Int} (h0 : f a = 0) : ∀ {us : List Int}, us.Nodup → a ∈ us → (us.map fun u => if a = u then x else f u).sum = (us.map f).sum + x
  | [], _, h => by cases h
  | u :: us, hn, h => by
    obtain ⟨hu, hn'⟩ := List.nodup_cons.mp hn
    simp only [List.map_cons, List.sum_cons]
    by_cases he : a = u
    · subst he
      have : (us.map fun u => if a = u then x else f u) = us.map f := List.map_congr_left fun v hv => by show (if a = v then x else f v) = f v; exact if_neg (show ¬ a = v from fun e => hu (by rw [e]; exact hv))
      rw [this, if_pos rfl, h0]
      omega
    · rw [if_neg he, sum_ite h0 hn' ((List.mem_cons.mp h).resolve_left he)]
      omega
theorem sum_runs {us : List Int} (hn : us.Nodup) : ∀ {l : List (Int × Int)}, Asc l → (∀ p ∈ l, p.1 ∈ us) → (us.map (Yal l)).sum = Yaq l
  | [], _, _ => by
    have : ∀ us : List Int, (us.map (Yal [])).sum = 0 := fun us => by
      induction us with
      | nil => rfl
      | cons u us ih => rw [List.map_cons, List.sum_cons, ih]; rfl
    rw [this]; rfl
  | p :: l, h, hm => by
    have h' := List.pairwise_cons.mp h
    have h0 : Yal l p.1 = 0 := YaC fun q hq e => by have := h'.1 q hq; omega
    have e : Yal (p :: l) = fun u => if p.1 = u then p.2 else Yal l u := funext fun u => Yam p l u
    rw [e, sum_ite h0 hn (hm p (by simp)), sum_runs hn h'.2 fun q hq => hm q (by simp [hq]), YaI]
    omega
open Classical in
noncomputable def muM (a1 : Int) (a3 : List (List D)) (l : List (Int × Int)) : Nat := if ∃ v, Yav a3 v < Yal l v then (Yaq l + a1 + 1).toNat else (a1 - Yaq l).toNat
theorem mu_less {a1 u : Int} {a3 : List (List D)} {l l' : List (Int × Int)} (h : Step l l' u (-1)) (ho : Yav a3 u < Yal l u) (hw : 0 ≤ Yav a3 u) (hs : Yaq l ≤ a1) (hp : 1 ≤ Yaq l) : muM a1 a3 l' < muM a1 a3 l := by
  have := h.sum
  have e : muM a1 a3 l = (Yaq l + a1 + 1).toNat := by unfold muM; rw [if_pos ⟨u, ho⟩]
  rw [e]
  unfold muM
  split <;> omega
theorem mu_more {a1 u : Int} {a3 : List (List D)} {l l' : List (Int × Int)} (h : Step l l' u 1) (hn : ∀ v, Yal l v ≤ Yav a3 v) (hu : Yal l u < Yav a3 u) (hs : Yaq l < a1) : muM a1 a3 l' < muM a1 a3 l := by
  have hsum := h.sum
  have e1 : muM a1 a3 l = (a1 - Yaq l).toNat := by unfold muM; rw [if_neg (fun ⟨v, hv⟩ => by have := hn v; omega)]
  have e2 : muM a1 a3 l' = (a1 - Yaq l').toNat := by
    unfold muM
    rw [if_neg (fun ⟨v, hv⟩ => by
      rw [h.run v] at hv
      split at hv
      · rename_i e; subst e; omega
      · have := hn v; omega)]
  omega
set_option maxRecDepth 100000 in
set_option maxHeartbeats 2000000 in
theorem moved_end {k : Nat} (hk : ZF 1 k) {β : Type} {K : Bool → Option β} {a0 : ByteArray} {a1 a2 : Int} {w : List (List D)} {l : List (Int × Int)} (h : IsleD a0 a1 a2 w l) (hm : Moved a1 w l (l, 0, 0)) (he : moveV a0 a1 a2 w l = (l, 0, 0)) :
    Zo (Yf.l1 k a0 a1 a2 (Zb w) (upP l) K) k (0, false, 0) = K true := by
  have hlim : lim = 1048576 := rfl
  have hb : big = 2 ^ 64 := rfl
  have hkb : 2 ^ 65 ≤ k := hk
  have hk0 : Z3 k := up0 hk
  have hwl := h.gw.1
  have hll := h.ok.len
  obtain ⟨hn, hs⟩ : (∀ v, Yal l v ≤ Yav w v) ∧ (a1 ≤ Yaq l ∨ ∀ i, i < w.length → gI w (i : Int) 1 ≤ Yal l (gI w (i : Int) 0)) := by
    generalize hz : (l, (0 : Int), (0 : Int)) = z at hm
    cases hm with
    | less _ _ => injection hz with _ hz; injection hz with _ hz; cases hz
    | more _ _ _ _ => injection hz with _ hz; injection hz with _ hz; cases hz
    | calm hn hs => exact ⟨hn, hs⟩
  have hr0 : ∀ v, 0 ≤ Yal l v ∧ Yal l v ≤ 10000 := fun v => runN_mem fun p hp => ⟨(h.ok.low p hp).1, (h.ok.low p hp).2.1⟩
  let S : Nat → Int := fun i => ((List.range i).map fun (j : Nat) => Yal l (gI w (j : Int) 0)).sum
  let B : Nat → Bool := fun i => (List.range i).any fun (j : Nat) => decide (Yal l (gI w (j : Int) 0) < gI w (j : Int) 1)
  have hS1 : ∀ i, S (i + 1) = S i + Yal l (gI w (i : Int) 0) := fun i => by
    show ((List.range (i + 1)).map _).sum = _
    rw [List.range_succ, List.map_append, List.sum_append]
    simp [S]
  have hB1 : ∀ i, B (i + 1) = (bif B i then true else decide (Yal l (gI w (i : Int) 0) < gI w (i : Int) 1)) := fun i => by
    show (List.range (i + 1)).any _ = _
    rw [List.range_succ, List.any_append]
    show (B i || _) = _
    cases B i <;> simp
  have hSr : ∀ i : Nat, 0 ≤ S i ∧ S i ≤ 10000 * i := fun i => by
    induction i with
    | zero => exact ⟨Int.le_refl _, Int.le_refl _⟩
    | succ i ih => rw [hS1]; have := hr0 (gI w (i : Int) 0); omega
  have hall : S w.length = Yaq l := by
    have hus : ((List.range w.length).map fun (j : Nat) => gI w (j : Int) 0).Nodup := by
      unfold List.Nodup
      rw [List.pairwise_map]
      refine (List.pairwise_lt_range (n := w.length)).imp_of_mem fun {i j} hi hj hij e => ?_
      have := works_asc h.gw h.ok.works i j hij (List.mem_range.mp hj)
      omega
    have := sum_runs hus h.ok.asc fun p hp => ?_
    · rw [← this, List.map_map]; rfl
    · have h1 := runN_of h.ok.asc hp
      have h2 := hn p.1
      have h3 := (h.ok.low p hp).1
      obtain ⟨i, hi, e⟩ := wantN_pos (a3 := w) (uid := p.1) (by omega)
      exact List.mem_map.mpr ⟨i, List.mem_range.mpr hi, e⟩
  have hlast : B w.length = true → Yaq l = a1 := fun hBt => by
    obtain ⟨i, hi, hd⟩ := List.any_eq_true.mp hBt
    rw [decide_eq_true_eq] at hd
    have := h.ok.sum
    rcases hs with q | q
    · omega
    · have := q i (List.mem_range.mp hi); omega
  refine iter_seq (fun i => (S i, B i, (i : Int))) (n := w.length) (by omega) (fun L i hi => ?_) (fun L => ?_)
  · have hrow := Yd.get h.gw (v := (i : Int)) (by omega) (by omega)
    have hdl : (Zb w).length = w.length := Zw w
    have hat : ∀ {γ : Type} (F : List C → Option γ), ZaG (Zb w) (Int.toNat (i : Int)) F = F (ZZ (gR w (i : Int))) := fun F => atNat_deep (by omega) (by omega) F
    obtain ⟨b, er⟩ := runOf_fv (l := l) (uid := gI w (i : Int) 0) (by omega) hk0 fun y722 y723 => (bif B i then (Zc ((0 : Int) ≤ (i : Int) ∧ (i : Int) < ((Zb w).length : Int)) (ZaG (Zb w) (Int.toNat (i : Int)) fun c724 => Zas (c724.drop 1) fun c725 r726 => cD c725 fun d727 => dInt .i64 d727 fun x728 => bif (decide ((y722 : Int) > x728)) then (K false) else (L (IntKind.wrap .i64 (S i + y722), true, IntKind.wrap .i64 ((i : Int) + 1))))) else (Zc ((0 : Int) ≤ (i : Int) ∧ (i : Int) < ((Zb w).length : Int)) (ZaG (Zb w) (Int.toNat (i : Int)) fun c729 => Zas (c729.drop 1) fun c730 r731 => cD c730 fun d732 => dInt .i64 d732 fun x733 => Zc ((0 : Int) ≤ (i : Int) ∧ (i : Int) < ((Zb w).length : Int)) (ZaG (Zb w) (Int.toNat (i : Int)) fun c734 => Zas (c734.drop 1) fun c735 r736 => cD c735 fun d737 => dInt .i64 d737 fun x738 => bif (decide ((y722 : Int) > x738)) then (K false) else (L (IntKind.wrap .i64 (S i + y722), decide ((y722 : Int) < x733), IntKind.wrap .i64 ((i : Int) + 1)))))))
    have hle : ¬ Yal l (gI w (i : Int) 0) > gI w (i : Int) 1 := by
      have := hn (gI w (i : Int) 0)
      rw [wantN_at h.gw h.ok.works hi] at this
      omega
    have hSi := hSr i
    have hri := hr0 (gI w (i : Int) 0)
    simp only [Yf.l1, Yf.m1, hdl, ZQ (show (i : Int) < w.length by omega), cond_true, ZaP (show (0 : Int) ≤ (i : Int) ∧ (i : Int) < (w.length : Int) from ⟨by omega, by omega⟩), hat, hrow.1, ZZ, ZbW, List.drop_zero, List.drop_succ_cons, ZY, cD_at, Zad, imm_upP] at er ⊢
    rw [er]
    rw [ZV hle, Zj (x := S i + Yal l (gI w (i : Int) 0)) (by omega) (by omega), Zj (x := (i : Int) + 1) (by omega) (by omega), ← hS1]
    have := hB1 i
    cases hBi : B i with
    | true => rw [hBi] at this; simp only [cond_true, cond_false] at this ⊢; rw [this]; rfl
    | false => rw [hBi] at this; simp only [cond_true, cond_false] at this ⊢; rw [this]; rfl
  · have hdl : (Zb w).length = w.length := Zw w
    simp only [Yf.l1, Yf.m1, hdl, ZV (show ¬ (w.length : Int) < w.length by omega), cond_false]
    refine iter_seq (fun i => (Yaq (l.take i), (i : Int))) (n := l.length) (by omega) (fun L i hi => ?_) (fun L => ?_)
    · have h1 := Yax (l := l.take (i + 1)) (lo := 1) (hi := 10000) fun p hp => by have := h.ok.low p (List.mem_of_mem_take hp); omega
      have hlen : (l.take (i + 1)).length = i + 1 := by rw [List.length_take]; omega
      have e : Yaq (l.take (i + 1)) = Yaq (l.take i) + l[i].2 := by
        rw [List.take_add_one, List.getElem?_eq_getElem hi, YaE]
        simp [Yaq]
      rw [hlen] at h1
      simp only [Yf.l2, Yar, ZQ (show (i : Int) < l.length by omega), cond_true, ZaP (show (0 : Int) ≤ (i : Int) ∧ (i : Int) < (l.length : Int) from ⟨by omega, by omega⟩), Int.toNat_natCast, atNat_upP hi, List.drop_succ_cons, List.drop_zero, ZY, cD_at, Zad, ← e]
      rw [Zj (x := Yaq (l.take (i + 1))) (by omega) (by omega), Zj (x := (i : Int) + 1) (by omega) (by omega)]
      rfl
    · simp only [Yf.l2, Yar, ZV (show ¬ (l.length : Int) < l.length by omega), cond_false, ZO, imm_upP, List.take_length, hall]
      rw [Yaj.f_of (impl_Calm_t (a1 := a1) (a2 := a2) h.gs h.gw h.gl hk), he]
      simp only [beq_self_eq_true, cond_true]
      cases hBl : B w.length with
      | true => rw [hlast hBl]; simp
      | false => rfl
set_option maxRecDepth 100000 in
set_option maxHeartbeats 2000000 in
theorem moved_loop {k : Nat} (hk : ZF 1 k) {β : Type} {K : Bool → Option β} {a0 : ByteArray} {a1 a2 : Int} {w : List (List D)} : ∀ (m : Nat) (i : Int) (l : List (Int × Int)) (fuel : Nat), 0 ≤ i → muM a1 w l ≤ m → i + m < 200 → m < fuel → IsleD a0 a1 a2 w l → Zo (Yf.l0 k K) fuel (i, a0, a1, a2, Zb w, upP l) = K true := by
  have hlim : lim = 1048576 := rfl
  have hk0 : Z3 k := up0 hk
  intro m
  induction m with
  | zero =>
    intro i l fuel i0 hm hi hf h
    have hmv := moveV_moved h.gs h.gw h.gl h.ok
    rw [iter_step (by omega)]
    have eM := impl_Move_t (a1 := a1) (a2 := a2) h.gs h.gw h.gl hk
    unfold moveR at eM
    simp only [Yf.l0, Yf.m0, ZQ (show i < 200 by omega), cond_true, ZO, imm_upP, YA.f_of eM]
    have hsum := h.ok.sum
    have hpos := Yax (lo := 1) (hi := 10000) fun p hp => ⟨(h.ok.low p hp).1, (h.ok.low p hp).2.1⟩
    generalize hz : moveV a0 a1 a2 w l = z at *
    cases hmv with
    | @less l' u hs ho =>
      have hw0 := (wantN_ge h.gw h.ok.works u).1
      have : 1 ≤ Yaq l := by
        rcases Nat.eq_zero_or_pos l.length with q | q
        · have : l = [] := List.length_eq_zero_iff.mp q
          subst this
          rw [show Yal [] _ = 0 from rfl] at ho; omega
        · omega
      have := mu_less hs ho hw0 hsum this
      omega
    | more hs hn hu hlt => have := mu_more hs hn hu hlt; omega
    | calm hn hs =>
      simp only [beq_self_eq_true, cond_true]
      exact moved_end hk h (.calm hn hs) hz
  | succ m ih =>
    intro i l fuel i0 hm hi hf h
    have hmv := moveV_moved h.gs h.gw h.gl h.ok
    rw [iter_step (by omega)]
    have eM := impl_Move_t (a1 := a1) (a2 := a2) h.gs h.gw h.gl hk
    unfold moveR at eM
    simp only [Yf.l0, Yf.m0, ZQ (show i < 200 by omega), cond_true, ZO, imm_upP, YA.f_of eM]
    have hsum := h.ok.sum
    have hll := h.ok.len
    have hpos := Yax (lo := 1) (hi := 10000) fun p hp => ⟨(h.ok.low p hp).1, (h.ok.low p hp).2.1⟩
    have hr0 : ∀ v, 0 ≤ Yal l v ∧ Yal l v ≤ 10000 := fun v => runN_mem fun p hp => ⟨(h.ok.low p hp).1, (h.ok.low p hp).2.1⟩
    have hD := moved_isle h hmv
    have go : ∀ (l' : List (Int × Int)) (u d : Int), Step l l' u d → d ≠ 0 → -1 ≤ d → d ≤ 1 → muM a1 w l' < muM a1 w l → IsleD a0 a1 a2 w l' →
        (YJ.f k (ofP l) u (fun y751 y752 => YJ.f k (ofP l') u (fun y753 y754 => bif ((y753 : Int) != (IntKind.wrap .i64 (y751 + d))) then (K false) else (YZ.f k a0 a1 a2 w (ofP l') (fun y755 => bif (!y755) then (K false) else (Zo (Yf.l0 k K) (fuel - 1) (IntKind.wrap .i64 (i + 1), a0, a1, a2, Zb w, upP l'))))))) = K true := by
      intro l' u d hs hd d0 d1 hmu hD'
      have hll' := hD'.ok.len
      obtain ⟨_, e1⟩ := runOf_fv (l := l) (uid := u) (by omega) hk0 (fun y751 y752 => YJ.f k (ofP l') u (fun y753 y754 => bif ((y753 : Int) != (IntKind.wrap .i64 (y751 + d))) then (K false) else (YZ.f k a0 a1 a2 w (ofP l') (fun y755 => bif (!y755) then (K false) else (Zo (Yf.l0 k K) (fuel - 1) (IntKind.wrap .i64 (i + 1), a0, a1, a2, Zb w, upP l'))))))
      rw [e1]
      obtain ⟨_, e2⟩ := runOf_fv (l := l') (uid := u) (by omega) hk0 (fun y753 y754 => bif ((y753 : Int) != (IntKind.wrap .i64 (Yal l u + d))) then (K false) else (YZ.f k a0 a1 a2 w (ofP l') (fun y755 => bif (!y755) then (K false) else (Zo (Yf.l0 k K) (fuel - 1) (IntKind.wrap .i64 (i + 1), a0, a1, a2, Zb w, upP l')))))
      rw [e2]
      have hu := hr0 u
      have hrun := hs.run u
      rw [if_pos rfl] at hrun
      rw [Zj (x := Yal l u + d) (by omega) (by omega), hrun, bne_self_eq_false, cond_false, IsleOkI hD'.gs hD'.gw hD'.gl hk, (isle_iff hD'.gs hD'.gw hD'.gl).mpr hD'.ok, Zj (x := i + 1) (by omega) (by omega)]
      exact ih (i + 1) l' (fuel - 1) (by omega) (by omega) (by omega) (by omega) hD'
    generalize hz : moveV a0 a1 a2 w l = z at *
    cases hmv with
    | @less l' u hs ho =>
      have hw0 := (wantN_ge h.gw h.ok.works u).1
      have h1 : 1 ≤ Yaq l := by
        rcases Nat.eq_zero_or_pos l.length with q | q
        · have : l = [] := List.length_eq_zero_iff.mp q
          subst this
          rw [show Yal [] _ = 0 from rfl] at ho; omega
        · omega
      exact go _ _ (-1) hs (by decide) (by decide) (by decide) (mu_less hs ho hw0 hsum h1) hD
    | more hs hn hu hlt => exact go _ _ 1 hs (by decide) (by decide) (by decide) (mu_more hs hn hu hlt) hD
    | calm hn hs =>
      simp only [beq_self_eq_true, cond_true]
      exact moved_end hk h (.calm hn hs) hz
set_option maxRecDepth 100000 in
set_option maxHeartbeats 1000000 in
theorem Yf.T {a0 : List (List D)} (g0 : Zi RI8 maxLen a0) : Tm (ZF 1) (fun k => Yf.t k a0) (fun r => r = true) := by
  refine Tm.of (v := true) (fun k hk => ?_) rfl
  have hlim : lim = 1048576 := rfl
  have hk' : ZF 1 k := hk
  have hkb : 2 ^ 65 ≤ k := hk
  have hk0 : Z3 k := up0 hk
  have hbig : ∀ {β : Type} (K : Bool → Option β), Yan.f k a0 K = K (decide ((a0.length : Int) > 1048576)) := fun K => Yan.f_of rfl K
  unfold Yf.t Yf.g
  rw [hbig]
  by_cases hl : (a0.length : Int) > 1048576
  · rw [ZQ hl]; rfl
  rw [ZV hl]
  simp only [cond_false]
  have g : Zi RI8 lim a0 := ⟨by omega, fun r hr => let ⟨x, q⟩ := g0.2 r hr; ⟨x, q⟩⟩
  obtain ⟨h, e1⟩ := new_ex g hk0
  obtain ⟨b0, b1, b2, w, l, i', h', hD, -, e2⟩ := l13Draw_ex hk' (h := h) (Cur.new g)
  have e3 : Y3.t k a0 = some (b0, b1, b2, Zb w, upP l) := by
    unfold Y3.t Y3.g
    rw [YU.f_of e1]
    show Yo.f k a0 0 h _ = _
    unfold Yo.f
    rw [e2]
  rw [Y3.f_of e3]
  simp only [ZO, imm_upP]
  rw [IsleOkI hD.gs hD.gw hD.gl hk', (isle_iff hD.gs hD.gw hD.gl).mpr hD.ok]
  simp only [Bool.not_true, cond_false]
  have hmu : muM b1 w l ≤ 100 := by
    have := hD.ok.sum; have := hD.small; have := hD.ok.room0
    have := Yax (lo := 1) (hi := 10000) fun p hp => ⟨(hD.ok.low p hp).1, (hD.ok.low p hp).2.1⟩
    unfold muM
    split <;> omega
  exact moved_loop hk' 100 0 l k (by omega) hmu (by omega) (by omega) hD
end Go.Proofs.Ytpgplbalenfgfaa
