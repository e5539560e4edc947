/- Printed, and by hand: the functions that FnOnce reaches come to their end; the program's answer as the reference's. -/
import Derived.Test.YtpgplbalenfgfaaXFnOnce0
import Derived.KernelRfl
set_option linter.unusedVariables false
set_option linter.unusedSimpArgs false
namespace Go.Proofs.Ytpgplbalenfgfaa
open Go Go.T Go.Proofs
theorem ZaA (n : Int) : n = 1 ∨ n = 2 ∨ n = 3 ∨ n = 4 ∨ n = 5 ∨ ((n == 1) = false ∧ (n == 2) = false ∧ (n == 3) = false ∧ (n == 4) = false ∧ (n == 5) = false) := by
  simp only [beq_eq_false_iff_ne]
  omega
theorem delR_deep {pr : List D → Option Bool} {q : List D → Bool} : ∀ {e : List (List D)}, (∀ r ∈ e, pr r = some (q r)) → delR pr (Zb e) = some (Zb (e.filter fun r => !q r))
  | [], _ => rfl
  | r :: e, h => by
    simp only [Zb, delR, ZcQ, h r (by simp), delR_deep (e := e) fun x hx => h x (by simp [hx])]
    rw [List.filter_cons]
    cases q r <;> rfl
theorem delK_deep {ix : List (List D) → Option Int} {pr : List D → Option Bool} {q : List D → Bool} {d : List (List D)} (hl : d.length ≤ 1048576) (hix : ix d = some (Zbo (fun i => q (gR d (i : Int))) d.length)) (h : ∀ r ∈ d, pr r = some (q r)) : delK ix pr (Zb d) = some (Zb (d.filter fun r => !q r)) := by
  unfold delK
  rw [ZO, hix]
  have hg : ∀ i (hi : i < d.length), gR d (i : Int) = d[i] := fun i hi => by
    have := gR_at (xs := d) (v := (i : Int)) (by omega) (by omega)
    rw [Int.toNat_natCast, List.getElem?_eq_getElem hi] at this
    injection this with this
    exact this.symm
  by_cases hz : Zbo (fun i => q (gR d (i : Int))) d.length < 0
  · obtain ⟨h1, h2⟩ := findI_none hz
    simp only [h1, if_true]
    congr 2
    symm
    rw [List.filter_eq_self]
    intro x hx
    obtain ⟨i, hi, rfl⟩ := List.mem_iff_getElem.mp hx
    have := h2 i hi
    rw [hg i hi] at this
    rw [this]; rfl
  · obtain ⟨h1, h2, h3, h4⟩ := findI_some (p := fun i => q (gR d (i : Int))) (n := d.length) (by omega)
    generalize Zbo (fun i => q (gR d (i : Int))) d.length = z at *
    simp only [show ¬ z = -1 by omega, if_false]
    rw [ZaP ⟨by omega, by rw [Zw]; omega, by rw [Zw]; omega⟩]
    have ht : ∀ m, m ≤ d.length → (Zb d).take m = Zb (d.take m) ∧ (Zb d).drop m = Zb (d.drop m) := fun m hm => by
      have e : Zb d = Zb (d.take m) ++ Zb (d.drop m) := by rw [← Zai, List.take_append_drop]
      have l : (Zb (d.take m)).length = m := by rw [Zw, List.length_take]; omega
      rw [e]
      exact ⟨List.take_left' l, List.drop_left' l⟩
    rw [(ht z.toNat (by omega)).1, (ht (z.toNat + 1) (by omega)).2, delR_deep fun r hr => h r (List.mem_of_mem_drop hr)]
    simp only []
    rw [← Zai]
    congr 2
    have h5 : d = d.take z.toNat ++ (d[z.toNat] :: d.drop (z.toNat + 1)) := by rw [List.getElem_cons_drop, List.take_append_drop]
    conv => rhs; rw [h5]
    rw [List.filter_append, List.filter_cons]
    have h7 : q d[z.toNat] = true := by have := h2; rwa [hg _ h1] at this
    rw [h7]
    simp only [Bool.not_true, Bool.false_eq_true, if_false]
    congr 1
    symm
    rw [List.filter_eq_self]
    intro x hx
    obtain ⟨i, hi, rfl⟩ := List.mem_iff_getElem.mp hx
    rw [List.length_take] at hi
    have := h4 i (by omega)
    rw [hg i (by omega)] at this
    rw [List.getElem_take, this]; rfl
def insD (r : Nat → Int) (x : Nat) : List Nat → List Nat
  | [] => [x]
  | y :: l => if r y < r x then x :: y :: l else y :: insD r x l
def Y9 (r : Nat → Int) (l : List Nat) : List Nat := l.foldl (fun a x => insD r x a) []
def AheadD (r : Nat → Int) (i j : Nat) : Prop := r j < r i ∨ (r i = r j ∧ i < j)
theorem insD_mem {r : Nat → Int} {x z : Nat} : ∀ {l : List Nat}, z ∈ insD r x l ↔ z = x ∨ z ∈ l
  | [] => by simp [insD]
  | y :: l => by
    unfold insD
    split
    · simp
    · simp only [List.mem_cons, insD_mem (l := l)]
      constructor
      · rintro (h | h | h) <;> simp [h]
      · rintro (h | h | h) <;> simp [h]
theorem insD_len {r : Nat → Int} {x : Nat} : ∀ {l : List Nat}, (insD r x l).length = l.length + 1
  | [] => rfl
  | y :: l => by
    unfold insD
    split
    · simp
    · simp [insD_len (l := l)]
theorem insD_pair {r : Nat → Int} {x : Nat} : ∀ {l : List Nat}, l.Pairwise (AheadD r) → (∀ y ∈ l, y < x) → (insD r x l).Pairwise (AheadD r)
  | [], _, _ => by simp [insD]
  | y :: l, h, hx => by
    obtain ⟨h1, h2⟩ := List.pairwise_cons.mp h
    unfold insD
    split
    · rename_i hr
      refine List.pairwise_cons.mpr ⟨fun z hz => ?_, h⟩
      rcases List.mem_cons.mp hz with rfl | hz
      · exact .inl hr
      · rcases h1 z hz with q | q
        · exact .inl (by omega)
        · exact .inl (by omega)
    · rename_i hr
      refine List.pairwise_cons.mpr ⟨fun z hz => ?_, insD_pair h2 fun z hz => hx z (by simp [hz])⟩
      rcases insD_mem.mp hz with rfl | hz
      · have := hx y (by simp)
        by_cases he : r y = r z
        · exact .inr ⟨he, this⟩
        · exact .inl (by omega)
      · exact h1 z hz
theorem foldD {r : Nat → Int} : ∀ (l a : List Nat), a.Pairwise (AheadD r) → l.Pairwise (· < ·) → (∀ y ∈ a, ∀ x ∈ l, y < x) →
    (l.foldl (fun a x => insD r x a) a).Pairwise (AheadD r) ∧ (∀ z, z ∈ l.foldl (fun a x => insD r x a) a ↔ z ∈ a ∨ z ∈ l) ∧ (l.foldl (fun a x => insD r x a) a).length = a.length + l.length
  | [], a, h, _, _ => ⟨h, by simp, by simp⟩
  | x :: l, a, h, hl, hx => by
    obtain ⟨h1, h2⟩ := List.pairwise_cons.mp hl
    obtain ⟨q1, q2, q3⟩ := foldD l (insD r x a) (insD_pair h fun y hy => hx y hy x (by simp)) h2 (fun y hy z hz => by
      rcases insD_mem.mp hy with rfl | hy
      · exact h1 z hz
      · exact hx y hy z (by simp [hz]))
    refine ⟨q1, fun z => ?_, by rw [List.foldl_cons, q3, insD_len, List.length_cons]; omega⟩
    rw [List.foldl_cons, q2, insD_mem, List.mem_cons]
    constructor
    · rintro ((h | h) | h) <;> simp [h]
    · rintro (h | h | h) <;> simp [h]
theorem isortD_facts {r : Nat → Int} {l : List Nat} (hl : l.Pairwise (· < ·)) : (Y9 r l).Pairwise (AheadD r) ∧ (∀ z, z ∈ Y9 r l ↔ z ∈ l) ∧ (Y9 r l).length = l.length := by
  obtain ⟨h1, h2, h3⟩ := foldD (r := r) l [] (by simp) hl (by simp)
  exact ⟨h1, fun z => by rw [Y9, h2]; simp, by rw [Y9, h3]; simp⟩
theorem insD_map {r : Nat → Int} {f : Nat → Nat} {x : Nat} : ∀ {l : List Nat}, insD r (f x) (l.map f) = (insD (fun i => r (f i)) x l).map f
  | [] => rfl
  | y :: l => by
    simp only [List.map_cons, insD]
    split
    · rfl
    · rw [insD_map (l := l)]; rfl
theorem isortD_map {r : Nat → Int} {f : Nat → Nat} {l : List Nat} : Y9 r (l.map f) = (Y9 (fun i => r (f i)) l).map f := by
  have : ∀ (l a : List Nat), (l.map f).foldl (fun a x => insD r x a) (a.map f) = (l.foldl (fun a x => insD (fun i => r (f i)) x a) a).map f := by
    intro l
    induction l with
    | nil => intro a; rfl
    | cons x l ih => intro a; simp only [List.map_cons, List.foldl_cons, insD_map, ih]
  exact this l []
def bestD (r : Nat → Int) : List Nat → Option Nat → Option Nat
  | [], b => b
  | i :: l, none => bestD r l (some i)
  | i :: l, some b => if r b < r i then bestD r l (some i) else bestD r l (some b)
theorem bestD_some {r : Nat → Int} : ∀ {l : List Nat} {b : Nat}, (∀ i ∈ l, b < i) → l.Pairwise (· < ·) → ∃ c, bestD r l (some b) = some c ∧ (c = b ∨ c ∈ l) ∧ (c = b ∨ AheadD r c b) ∧ ∀ i ∈ l, i = c ∨ AheadD r c i
  | [], b, _, _ => ⟨b, rfl, .inl rfl, .inl rfl, by simp⟩
  | i :: l, b, h, hl => by
    obtain ⟨h1, h2⟩ := List.pairwise_cons.mp hl
    unfold bestD
    split
    · rename_i hr
      obtain ⟨c, q1, q2, q3, q4⟩ := bestD_some (r := r) (b := i) h1 h2
      refine ⟨c, q1, .inr (by rcases q2 with h | h <;> simp [h]), .inr ?_, fun j hj => ?_⟩
      · rcases q3 with rfl | q3
        · exact .inl hr
        · rcases q3 with q | q
          · exact .inl (by omega)
          · exact .inl (by omega)
      · rcases List.mem_cons.mp hj with rfl | hj
        · rcases q3 with rfl | q3
          · exact .inl rfl
          · exact .inr q3
        · exact q4 j hj
    · rename_i hr
      have hb := h i (by simp)
      obtain ⟨c, q1, q2, q3, q4⟩ := bestD_some (r := r) (b := b) (fun j hj => h j (by simp [hj])) h2
      refine ⟨c, q1, by rcases q2 with h | h <;> simp [h], q3, fun j hj => ?_⟩
      rcases List.mem_cons.mp hj with rfl | hj
      · have hbi : AheadD r b j := by
          by_cases he : r b = r j
          · exact .inr ⟨he, hb⟩
          · exact .inl (by omega)
        rcases q3 with rfl | q3
        · exact .inr hbi
        · right
          rcases q3 with q | q <;> rcases hbi with p | p
          · exact .inl (by omega)
          · exact .inl (by omega)
          · exact .inl (by omega)
          · exact .inr ⟨by omega, by omega⟩
      · exact q4 j hj
theorem best_next {r : Nat → Int} {l : List Nat} (hl : l.Pairwise (· < ·)) (h0 : ∀ i ∈ l, 0 ≤ r i) {t : Nat} (ht : t < l.length) {r' : Nat → Int}
    (hr : ∀ i ∈ l, r' i = if i ∈ (Y9 r l).take t then -1 else r i) : bestD r' l none = (Y9 r l)[t]? := by
  obtain ⟨s1, s2, s3⟩ := isortD_facts (r := r) hl
  have hT : t < (Y9 r l).length := by omega
  generalize Y9 r l = S at s1 s2 s3 hr hT ⊢
  rw [List.getElem?_eq_getElem hT]
  cases l with
  | nil => simp at ht
  | cons a l =>
    obtain ⟨h1, h2⟩ := List.pairwise_cons.mp hl
    obtain ⟨c, q1, q2, q3, q4⟩ := bestD_some (r := r') h1 h2
    unfold bestD
    rw [q1]
    congr 1
    have hnd : S.Nodup := s1.imp fun {i j} h e => by subst e; rcases h with h | h <;> omega
    have hSt : S[t] ∉ S.take t := fun h => by
      obtain ⟨i, hi, he⟩ := List.mem_take_iff_getElem.mp h
      have := (List.getElem_inj hnd).mp he
      omega
    have hm : S[t] ∈ a :: l := (s2 _).mp (List.getElem_mem hT)
    have hrt : r' S[t] = r S[t] := by rw [hr _ hm, if_neg hSt]
    have h0t := h0 _ hm
    -- c is in the list, and nothing is ahead of it
    have hcm : c ∈ a :: l := by rcases q2 with h | h <;> simp [h]
    have hall : ∀ i ∈ a :: l, i = c ∨ AheadD r' c i := fun i hi => by
      rcases List.mem_cons.mp hi with rfl | hi
      · rcases q3 with rfl | q
        · exact .inl rfl
        · exact .inr q
      · exact q4 i hi
    rcases hall _ hm with h | h
    · exact h.symm
    · exfalso
      have hcn : c ∉ S.take t := fun hc => by
        have := hr c hcm
        rw [if_pos hc] at this
        rcases h with h | h <;> omega
      have hcr : r' c = r c := by rw [hr c hcm, if_neg hcn]
      obtain ⟨j, hj, rfl⟩ := List.mem_iff_getElem.mp ((s2 c).mpr hcm)
      have hjt : t < j := by
        rcases Nat.lt_trichotomy j t with q | q | q
        · exact absurd (List.mem_take_iff_getElem.mpr ⟨j, by omega, rfl⟩) hcn
        · subst q
          rcases h with h | h <;> omega
        · exact q
      have := List.pairwise_iff_getElem.mp s1 t j hT hj hjt
      rw [AheadD, hrt, hcr] at h
      rcases this with p | p <;> rcases h with q | q <;> omega
section
variable (w c o : Nat → Int) (L : Nat) (n : Int)
def opB (i : Nat) : Bool := decide (0 < w i) && decide (o i < c i)
def opL : List Nat := (List.range L).filter (opB w c o)
def smL (l : List Nat) : Int := (l.map w).sum
abbrev smD : Int := smL w (opL w c o L)
def bsD (s : Int) (i : Nat) : Int := Int.tdiv (n * w i) s
def rsD (s : Int) (i : Nat) : Int := Int.tmod (n * w i) s
def lfD (s : Int) (l : List Nat) : Int := n - (l.map (bsD w n s)).sum
def chD (s : Int) (l : List Nat) : List Nat := (Y9 (rsD w n s) l).take (lfD w n s l).toNat
def xD (s : Int) (l : List Nat) (i : Nat) : Int := bsD w n s i + if i ∈ chD w n s l then 1 else 0
def clD (s : Int) (l : List Nat) (i : Nat) : Int := if c i - o i < xD w n s l i then c i - o i else xD w n s l i
end
theorem sum_le {f : Nat → Int} {b : Int} : ∀ {l : List Nat}, (∀ i ∈ l, 0 ≤ f i ∧ f i ≤ b) → 0 ≤ (l.map f).sum ∧ (l.map f).sum ≤ b * l.length
  | [], _ => by simp
  | x :: l, h => by
    obtain ⟨q1, q2⟩ := sum_le (f := f) (b := b) (l := l) fun i hi => h i (by simp [hi])
    obtain ⟨p1, p2⟩ := h x (by simp)
    simp only [List.map_cons, List.sum_cons, List.length_cons]
    have : b * ((l.length + 1 : Nat) : Int) = b * (l.length : Int) + b := by rw [show ((l.length + 1 : Nat) : Int) = (l.length : Int) + 1 by omega, Int.mul_add, Int.mul_one]
    omega
theorem sum_split {w : Nat → Int} {n s : Int} (hs : 0 < s) (hn : 0 ≤ n) : ∀ {l : List Nat}, (∀ i ∈ l, 0 ≤ w i) → n * (l.map w).sum = s * (l.map (bsD w n s)).sum + (l.map (rsD w n s)).sum
  | [], _ => by simp
  | x :: l, h => by
    have ih := sum_split (w := w) hs hn (l := l) fun i hi => h i (by simp [hi])
    have h1 : s * bsD w n s x + rsD w n s x = n * w x := Int.mul_tdiv_add_tmod (n * w x) s
    simp only [List.map_cons, List.sum_cons]
    rw [Int.mul_add, Int.mul_add, ih, ← h1]
    omega
theorem rsD_bound {w : Nat → Int} {n s : Int} (hs : 0 < s) (hn : 0 ≤ n) {i : Nat} (h : 0 ≤ w i) : 0 ≤ rsD w n s i ∧ rsD w n s i < s ∧ 0 ≤ bsD w n s i := by
  have h0 : 0 ≤ n * w i := Int.mul_nonneg hn h
  exact ⟨Int.tmod_nonneg _ h0, Int.tmod_lt_of_pos _ hs, Int.tdiv_nonneg h0 (by omega)⟩
theorem lfD_bound {w : Nat → Int} {n : Int} {l : List Nat} (hn : 0 ≤ n) (hw : ∀ i ∈ l, 0 < w i) (hl : l ≠ []) : 0 < smL w l ∧ 0 ≤ lfD w n (smL w l) l ∧ lfD w n (smL w l) l < l.length ∧ 0 ≤ (l.map (bsD w n (smL w l))).sum := by
  have hs : 0 < smL w l := by
    cases l with
    | nil => exact absurd rfl hl
    | cons x l =>
      unfold smL
      have h1 := hw x (by simp)
      have h2 : 0 ≤ (l.map w).sum := by
        have : ∀ {l : List Nat}, (∀ i ∈ l, 0 < w i) → 0 ≤ (l.map w).sum := fun {l} => by
          induction l with
          | nil => simp
          | cons y l ih =>
            intro h
            have := h y (by simp)
            have := ih fun i hi => h i (by simp [hi])
            simp only [List.map_cons, List.sum_cons]
            omega
        exact this fun i hi => hw i (by simp [hi])
      simp only [List.map_cons, List.sum_cons]
      omega
  have hsp := sum_split (w := w) (n := n) hs hn (l := l) fun i hi => Int.le_of_lt (hw i hi)
  have hr := sum_le (f := rsD w n (smL w l)) (b := smL w l - 1) (l := l) fun i hi => by
    obtain ⟨p1, p2, _⟩ := rsD_bound (w := w) (n := n) hs hn (i := i) (Int.le_of_lt (hw i hi))
    omega
  change n * smL w l = _ at hsp
  have hb0 : 0 ≤ (l.map (bsD w n (smL w l))).sum := by
    have : ∀ {l' : List Nat} {s : Int}, 0 < s → (∀ i ∈ l', 0 < w i) → 0 ≤ (l'.map (bsD w n s)).sum := fun {l' s} hs => by
      induction l' with
      | nil => simp
      | cons y l ih =>
        intro h
        obtain ⟨_, _, p⟩ := rsD_bound (w := w) (n := n) hs hn (i := y) (Int.le_of_lt (h y (by simp)))
        have := ih fun i hi => h i (by simp [hi])
        simp only [List.map_cons, List.sum_cons]
        omega
    exact this hs hw
  generalize (l.map (rsD w n (smL w l))).sum = R at hsp hr
  have hlf : smL w l * lfD w n (smL w l) l = R := by
    unfold lfD
    rw [Int.mul_sub, Int.mul_comm _ n, hsp]
    omega
  refine ⟨hs, ?_, ?_, hb0⟩
  · generalize lfD w n (smL w l) l = f at hlf
    apply Int.not_lt.mp
    intro h
    have := Int.mul_neg_of_pos_of_neg hs h
    omega
  · generalize lfD w n (smL w l) l = f at hlf
    have h1 : smL w l * f < smL w l * l.length := by
      rw [hlf]
      have : (smL w l - 1) * (l.length : Int) = smL w l * l.length - l.length := by rw [Int.sub_mul, Int.one_mul]
      have h2 : 0 < l.length := List.length_pos_iff.mpr hl
      omega
    exact Int.lt_of_mul_lt_mul_left h1 (Int.le_of_lt hs)
theorem opL_facts {w c o : Nat → Int} {L : Nat} : (opL w c o L).Pairwise (· < ·) ∧ ∀ i, i ∈ opL w c o L ↔ i < L ∧ 0 < w i ∧ o i < c i := by
  refine ⟨List.Pairwise.filter _ List.pairwise_lt_range, fun i => ?_⟩
  simp [opL, opB]
theorem xD_sum {w : Nat → Int} {n : Int} {l : List Nat} (hp : l.Pairwise (· < ·)) (hn : 0 ≤ n) (hw : ∀ i ∈ l, 0 < w i) (hl : l ≠ []) : (l.map (xD w n (smL w l) l)).sum = n := by
  obtain ⟨h1, h2, h3, _⟩ := lfD_bound hn hw hl
  generalize hs : smL w l = s at h1 h2 h3
  obtain ⟨s1, s2, s3⟩ := isortD_facts (r := rsD w n s) hp
  have hnd : (chD w n s l).Nodup := by
    have : (Y9 (rsD w n s) l).Nodup := s1.imp fun {i j} h e => by subst e; rcases h with h | h <;> omega
    exact this.sublist (List.take_sublist _ _)
  have hlen : ((chD w n s l).length : Int) = lfD w n s l := by
    unfold chD
    rw [List.length_take, s3]
    omega
  have hsub : ∀ i ∈ chD w n s l, i ∈ l := fun i hi => (s2 i).mp (List.mem_of_mem_take hi)
  have hcount : ∀ (l : List Nat), l.Pairwise (· < ·) → ∀ (ch : List Nat), ch.Nodup → (∀ i ∈ ch, i ∈ l) → (l.map fun i => if i ∈ ch then (1 : Int) else 0).sum = ch.length := by
    intro l
    induction l with
    | nil =>
      intro _ ch _ h
      cases ch with
      | nil => rfl
      | cons x ch => exact absurd (h x (by simp)) (by simp)
    | cons x l ih =>
      intro hp ch hnd hsub
      obtain ⟨p1, p2⟩ := List.pairwise_cons.mp hp
      simp only [List.map_cons, List.sum_cons]
      have hx : x ∉ l := fun h => by have := p1 x h; omega
      have e : (l.map fun i => if i ∈ ch then (1 : Int) else 0) = l.map fun i => if i ∈ ch.erase x then (1 : Int) else 0 := List.map_congr_left fun i hi => by
        have : i ≠ x := fun h => hx (h ▸ hi)
        simp only [List.mem_erase_of_ne this]
      rw [e, ih p2 (ch.erase x) (hnd.erase x) fun i hi => by
        have hne : i ≠ x := fun h => by subst h; exact (List.Nodup.not_mem_erase hnd) hi
        rcases List.mem_cons.mp (hsub i (List.mem_of_mem_erase hi)) with h | h
        · exact absurd h hne
        · exact h]
      by_cases hm : x ∈ ch
      · rw [if_pos hm, List.length_erase_of_mem hm]
        have := List.length_pos_of_mem hm
        omega
      · rw [if_neg hm, List.erase_of_not_mem hm]
        omega
  have hadd : ∀ (l : List Nat) (f g : Nat → Int), (l.map fun i => f i + g i).sum = (l.map f).sum + (l.map g).sum := by
    intro l f g
    induction l with
    | nil => rfl
    | cons x l ih => simp only [List.map_cons, List.sum_cons, ih]; omega
  have : l.map (xD w n s l) = l.map fun i => bsD w n s i + (if i ∈ chD w n s l then (1 : Int) else 0) := rfl
  rw [this, hadd, hcount l hp _ hnd hsub, hlen]
  unfold lfD
  omega
theorem clD_sum {w c o : Nat → Int} {n : Int} {l : List Nat} (hp : l.Pairwise (· < ·)) (hn : 0 < n) (hw : ∀ i ∈ l, 0 < w i) (hc : ∀ i ∈ l, o i < c i) (hl : l ≠ []) :
    (∀ i ∈ l, 0 ≤ clD w c o n (smL w l) l i ∧ clD w c o n (smL w l) l i ≤ c i - o i ∧ 0 ≤ xD w n (smL w l) l i) ∧ 0 < (l.map (clD w c o n (smL w l) l)).sum ∧ (l.map (clD w c o n (smL w l) l)).sum ≤ n := by
  obtain ⟨h1, h2, h3, _⟩ := lfD_bound (Int.le_of_lt hn) hw hl
  have hx := xD_sum hp (Int.le_of_lt hn) hw hl
  generalize smL w l = s at *
  have hx0 : ∀ i ∈ l, 0 ≤ xD w n s l i := fun i hi => by
    obtain ⟨_, _, p⟩ := rsD_bound (w := w) (n := n) h1 (Int.le_of_lt hn) (i := i) (Int.le_of_lt (hw i hi))
    unfold xD
    split <;> omega
  have hcl : ∀ i ∈ l, 0 ≤ clD w c o n s l i ∧ clD w c o n s l i ≤ c i - o i ∧ clD w c o n s l i ≤ xD w n s l i ∧ (0 < xD w n s l i → 0 < clD w c o n s l i) := fun i hi => by
    have := hx0 i hi
    have := hc i hi
    unfold clD
    split <;> omega
  refine ⟨fun i hi => ⟨(hcl i hi).1, (hcl i hi).2.1, hx0 i hi⟩, ?_⟩
  have gen : ∀ l' : List Nat, (∀ i ∈ l', i ∈ l) → 0 ≤ (l'.map (clD w c o n s l)).sum ∧ (l'.map (clD w c o n s l)).sum ≤ (l'.map (xD w n s l)).sum ∧ (0 < (l'.map (xD w n s l)).sum → 0 < (l'.map (clD w c o n s l)).sum) := by
    intro l'
    induction l' with
    | nil => intro _; simp
    | cons y l' ih =>
      intro h
      obtain ⟨q1, q2, q3⟩ := ih fun i hi => h i (by simp [hi])
      obtain ⟨p1, _, p2, p3⟩ := hcl y (h y (by simp))
      have := hx0 y (h y (by simp))
      simp only [List.map_cons, List.sum_cons]
      refine ⟨by omega, by omega, fun h => ?_⟩
      by_cases h0 : 0 < xD w n s l y
      · have := p3 h0; omega
      · have := q3 (by omega); omega
  have := gen l fun i hi => hi
  rw [hx] at this
  exact ⟨this.2.2 hn, this.2.1⟩
def rowF (L : Nat) (g : Nat → C) : List (List C) := (List.range L).map fun j => [g j]
def rowD (L : Nat) (g : Nat → D) : List (List D) := (List.range L).map fun j => [g j]
abbrev cI (o : Nat → Int) : Nat → C := fun j => .d (.int .i64 (o j))
abbrev cB (o : Nat → Bool) : Nat → C := fun j => .d (.bool (o j))
theorem rowF_len (L : Nat) (g : Nat → C) : (rowF L g).length = L := by simp [rowF]
theorem rowD_len (L : Nat) (g : Nat → D) : (rowD L g).length = L := by simp [rowD]
theorem rowF_ext {L : Nat} {g h : Nat → C} (e : ∀ j, j < L → g j = h j) : rowF L g = rowF L h := List.map_congr_left fun j hj => by rw [e j (List.mem_range.mp hj)]
theorem rowF_at {L : Nat} {g : Nat → C} {i : Nat} (h : i < L) {β : Type} (F : List C → Option β) : ZaG (rowF L g) i F = F [g i] := by
  unfold ZaG rowF
  rw [List.getElem?_map, List.getElem?_range h]
  rfl
theorem rowF_mod {L : Nat} {g : Nat → C} {i : Nat} (h : i < L) (x : C) : ((rowF L g).modify i fun c => Zq c 0 [x]) = rowF L (fun j => if j = i then x else g j) := by
  refine List.ext_getElem (by simp [rowF]) fun j h1 h2 => ?_
  rw [List.getElem_modify]
  simp only [rowF, List.getElem_map, List.getElem_range]
  by_cases hj : i = j
  · subst hj; simp [Zq]
  · rw [if_neg hj, if_neg (fun h => hj h.symm)]
theorem rowF_rep (L : Nat) (x : C) : List.replicate L [x] = rowF L (fun _ => x) := by
  refine List.ext_getElem (by simp [rowF]) fun j h1 h2 => ?_
  simp [rowF]
theorem immRows_map : ∀ (l : List (List C)), C.immRows l = l.map C.immCells
  | [] => rfl
  | x :: l => by simp only [C.immRows, List.map_cons, immRows_map l]
theorem imm_rowF (L : Nat) (g : Nat → C) : C.immRows (rowF L g) = rowD L (fun j => (g j).imm) := by
  rw [immRows_map, rowF, rowD, List.map_map]
  rfl
theorem rowD_at {L : Nat} {g : Nat → D} {i : Nat} (h : i < L) {β : Type} (F : List D → Option β) : Zbw (rowD L g) (i : Int) F = F [g i] := by
  unfold Zbw
  rw [if_pos (by omega), Int.toNat_natCast]
  unfold ZaG rowD
  rw [List.getElem?_map, List.getElem?_range h]
  rfl
theorem deep_rowI {L : Nat} {o : Nat → Int} : Zb (rowD L (fun j => .int .i64 (o j))) = rowF L (cI o) := by
  have : ∀ l : List Nat, Zb (l.map fun j => [D.int .i64 (o j)]) = l.map fun j => [C.d (.int .i64 (o j))] := fun l => by
    induction l with
    | nil => rfl
    | cons x l ih => simp only [List.map_cons, Zb, ZZ, ZbW, ih]
  exact this _
def upN (l : List Nat) : List (List C) := l.map fun (x : Nat) => [.d (.int .i64 (x : Int))]
def ofN (l : List Nat) : List (List D) := l.map fun (x : Nat) => [.int .i64 (x : Int)]
theorem upN_len (l : List Nat) : (upN l).length = l.length := by simp [upN]
theorem ofN_len (l : List Nat) : (ofN l).length = l.length := by simp [ofN]
theorem upN_app (a b : List Nat) : upN a ++ upN b = upN (a ++ b) := by simp [upN]
theorem imm_upN (l : List Nat) : C.immRows (upN l) = ofN l := by
  rw [immRows_map, upN, ofN, List.map_map]
  rfl
theorem upN_at {l : List Nat} {i : Nat} (h : i < l.length) {β : Type} (F : List C → Option β) : ZaG (upN l) i F = F [.d (.int .i64 (l[i] : Int))] := by simp [ZaG, upN, h]
theorem ofN_at {l : List Nat} {i : Nat} (h : i < l.length) {β : Type} (F : List D → Option β) : Zbw (ofN l) (i : Int) F = F [.int .i64 (l[i] : Int)] := by
  unfold Zbw
  rw [if_pos (by omega), Int.toNat_natCast]
  simp [ZaG, ofN, h]
theorem range_filter_succ (p : Nat → Bool) (i : Nat) : (List.range (i + 1)).filter p = (List.range i).filter p ++ (if p i then [i] else []) := by
  rw [List.range_succ, List.filter_append]
  simp [List.filter_cons]
theorem YW.f_of {β : Type} {k a0 z0} (h : YW.t k a0 = some z0) (K : Bool → Option β) : YW.f k a0 K = K z0 := by unfold YW.f; rw [h]; rfl
def RI8 (B : Nat) (r : List D) : Prop := ∃ (c0 : Int), r = [.int .u8 c0] ∧ (Lit.int .u8 c0).wf = true ∧ True
theorem RI8.open {B : Nat} {r : List D} (h : RI8 B r) : ∃ (c0 : Int), r = [.int .u8 c0] ∧ (Lit.int .u8 c0).wf = true ∧ True := h
theorem RI8.mono {B B' : Nat} (hb : B ≤ B') {r : List D} (h : RI8 B r) : RI8 B' r := by
  obtain ⟨c0, rfl, k0, _⟩ := h
  exact ⟨_, rfl, k0, trivial⟩
theorem RI8.wide {xs : List (List D)} (h : Zi RI8 lim xs) : Zi RI8 2097152 xs := ⟨Nat.le_trans h.1 (by decide), fun r hr => (h.2 r hr).mono (by decide)⟩
theorem RI8.len {B : Nat} {r : List D} (h : RI8 B r) : r.length = 1 := by
  obtain ⟨c0, rfl, _⟩ := h.open
  rfl
theorem RI8.flat {B : Nat} {xs : List (List D)} (h : ∀ r ∈ xs, RI8 B r) : ZaZ 1 xs := fun r hr => by
  obtain ⟨c0, rfl, _⟩ := (h r hr).open
  exact ⟨rfl, by simp [Zau]⟩
theorem RI8.wt {B : Nat} {xs : List (List D)} (h : ∀ r ∈ xs, RI8 B r) : Zp xs = 1 * xs.length := wt_flat (R := RI8 B) (fun r h => by obtain ⟨c0, rfl, _⟩ := h; rfl) xs h
theorem RI8.deep {B : Nat} {xs : List (List D)} (h : ∀ r ∈ xs, RI8 B r) : Zb xs = xs.map (·.map C.d) := deep_flat (R := RI8 B) (fun r h => by obtain ⟨c0, rfl, _⟩ := h; rfl) xs h
theorem RI8.gets {B : Nat} {xs : List (List D)} (h : ∀ r ∈ xs, RI8 B r) {v : Int} (h0 : 0 ≤ v) (h1 : v < xs.length) : gR xs v = [.int .u8 (gI xs v 0)] ∧ (Lit.int .u8 (gI xs v 0)).wf = true ∧ True := by
  obtain ⟨c0, e, k0, _⟩ := (h (gR xs v) (gR_mem h0 h1)).open
  unfold gI
  rw [e]
  exact ⟨rfl, k0, trivial⟩
theorem RI8.rows {B : Nat} {xs : List (List D)} (h : ∀ r ∈ xs, RI8 B r) {v : Int} (h0 : 0 ≤ v) (h1 : v < xs.length) {β : Type} (F : List D → Option β) : Zbw xs v F = F [.int .u8 (gI xs v 0)] := by
  rw [← (RI8.gets h h0 h1).1]
  exact Zbp h0 h1 F
theorem RI8.get {B : Nat} {xs : List (List D)} (h : Zi RI8 B xs) {v : Int} (h0 : 0 ≤ v) (h1 : v < xs.length) : gR xs v = [.int .u8 (gI xs v 0)] ∧ (Lit.int .u8 (gI xs v 0)).wf = true ∧ True := RI8.gets h.2 h0 h1
theorem RI8.row {B : Nat} {xs : List (List D)} (h : Zi RI8 B xs) {v : Int} (h0 : 0 ≤ v) (h1 : v < xs.length) {β : Type} (F : List D → Option β) : Zbw xs v F = F [.int .u8 (gI xs v 0)] := RI8.rows h.2 h0 h1 F
theorem Yx.f_of {β : Type} {k a0 z0 z1 z2} (h : Yx.t k a0 = some (z0, z1, z2)) (K : (List (List D)) → Int → Int → Option β) : Yx.f k a0 K = K z0 z1 z2 := by unfold Yx.f; rw [h]; rfl
theorem YM.f_of {β : Type} {k a0 a1 z0} (h : YM.t k a0 a1 = some z0) (K : Int → Option β) : YM.f k a0 a1 K = K z0 := by unfold YM.f; rw [h]; rfl
theorem YG.f_of {β : Type} {k aB aA aC z0 z1 z2 z3} (h : YG.t k aB aA aC = some (z0, z1, z2, z3)) (K : Int → (List (List D)) → Int → Int → Option β) : YG.f k aB aA aC K = K z0 z1 z2 z3 := by unfold YG.f; rw [h]; rfl
theorem Yp.f_of {β : Type} {k aB aA aC a1 z0 z1 z2 z3} (h : Yp.t k aB aA aC a1 = some (z0, z1, z2, z3)) (K : Int → (List (List D)) → Int → Int → Option β) : Yp.f k aB aA aC a1 K = K z0 z1 z2 z3 := by unfold Yp.f; rw [h]; rfl
structure Cur (b : List (List D)) (i : Int) : Prop where
  rows : Zi RI8 lim b
  ge : 0 ≤ i
  le : i ≤ 1048576
theorem and255 (x : Int) : 0 ≤ IntKind.wrap .i64 ((BitVec.ofInt (IntKind.bits .i64) x &&& BitVec.ofInt (IntKind.bits .i64) 255).toNat) ∧ IntKind.wrap .i64 ((BitVec.ofInt (IntKind.bits .i64) x &&& BitVec.ofInt (IntKind.bits .i64) 255).toNat) ≤ 255 := by
  have h : (BitVec.ofInt (IntKind.bits .i64) x &&& BitVec.ofInt (IntKind.bits .i64) 255).toNat ≤ 255 := by
    rw [BitVec.toNat_and]
    exact Nat.le_trans Nat.and_le_right (by decide)
  rw [Zj (by omega) (by omega)]
  omega
set_option maxRecDepth 100000 in
theorem byte_ex {b : List (List D)} {i h : Int} {k : Nat} (c : Cur b i) : ∃ x i' h', 0 ≤ x ∧ x ≤ 255 ∧ Cur b i' ∧ YG.t k b i h = some (x, b, i', h') := by
  have hl := c.rows.1
  have hlim : lim = 1048576 := rfl
  have h0 := c.ge
  have h1 := c.le
  unfold YG.t YG.g; simp only [atR, rdQ, Q.ask]
  simp only [ZaP (show (0 : Int) ≤ 33 by decide), ZaP (show (0 : Int) ≤ 47 by decide)]
  by_cases hc : i < (b.length : Int)
  · simp only [ZQ hc, cond_true, atR, rdQ, Q.ask]
    rw [RI8.row c.rows h0 hc]
    simp only [ZY, Zad, Z6]
    exact ⟨_, _, _, (and255 _).1, (and255 _).2, ⟨c.rows, by rw [Zj (by omega) (by omega)]; omega, by rw [Zj (by omega) (by omega)]; omega⟩, rfl⟩
  · simp only [ZV hc, cond_false]
    exact ⟨_, _, _, (and255 _).1, (and255 _).2, c, rfl⟩
theorem tmod_in {x n : Int} (h0 : 0 ≤ x) (hn : 0 < n) : 0 ≤ Int.tmod x n ∧ Int.tmod x n < n := ⟨Int.tmod_nonneg _ h0, Int.tmod_lt_of_pos _ hn⟩
theorem Yac {b : List (List D)} {i h n : Int} {k : Nat} (c : Cur b i) : ∃ x i' h', 0 ≤ x ∧ (0 < n → x < n) ∧ (n ≤ 0 → x = 0) ∧ Cur b i' ∧ Yp.t k b i h n = some (x, b, i', h') := by
  unfold Yp.t Yp.g
  by_cases hn : n ≤ 0
  · simp only [ZQ hn, cond_true]
    exact ⟨_, _, _, Int.le_refl 0, fun _ => by omega, fun _ => rfl, c, rfl⟩
  · simp only [ZV hn, cond_false]
    have hn0 : 0 < n := by omega
    by_cases h2 : n ≤ 256
    · simp only [ZQ h2, cond_true]
      obtain ⟨x, i', h', x0, x1, c', e⟩ := byte_ex (k := k) (h := h) c
      rw [YG.f_of e, ZaP (by omega)]
      exact ⟨_, _, _, (tmod_in x0 hn0).1, fun _ => (tmod_in x0 hn0).2, fun _ => by omega, c', rfl⟩
    · simp only [ZV h2, cond_false]
      obtain ⟨x, i1, h1, x0, x1, c1, e1⟩ := byte_ex (k := k) (h := h) c
      obtain ⟨y, i2, h2, y0, y1, c2, e2⟩ := byte_ex (k := k) (h := h1) c1
      obtain ⟨z, i3, h3, z0, z1, c3, e3⟩ := byte_ex (k := k) (h := h2) c2
      rw [YG.f_of e1, YG.f_of e2, YG.f_of e3, ZaP (by omega)]
      have hw : 0 ≤ IntKind.wrap .i64 ((IntKind.wrap .i64 ((IntKind.wrap .i64 (x * 65536)) + (IntKind.wrap .i64 (y * 256)))) + z) := by
        rw [Zj (x := x * 65536) (by omega) (by omega), Zj (x := y * 256) (by omega) (by omega), Zj (x := x * 65536 + y * 256) (by omega) (by omega), Zj (by omega) (by omega)]
        omega
      exact ⟨_, _, _, (tmod_in hw hn0).1, fun _ => (tmod_in hw hn0).2, fun _ => by omega, c3, rfl⟩
set_option maxRecDepth 100000 in
theorem new_ex {b : List (List D)} {k : Nat} (g : Zi RI8 lim b) (hk : Z3 k) : ∃ h', Yx.t k b = some (b, 0, h') := by
  have hl := g.1
  have hlim : lim = 1048576 := rfl
  have hb : big = 2 ^ 64 := rfl
  have key : ∀ n : Nat, ∀ (v : Int) (j : Int), 0 ≤ j → j ≤ b.length → (b.length : Int) - j ≤ n → ∀ k', n < k' → ∃ h', Zo (Yx.l0 k b (fun z0 z1 z2 => some (z0, z1, z2))) k' (v, j) = some (b, 0, h') := by
    intro n
    induction n with
    | zero =>
      intro v j j0 j1 hn k' hk'
      rw [iter_step (by omega)]
      simp only [Yx.l0, atR, rdQ, Q.ask, ZV (show ¬ j < (b.length : Int) by omega), cond_false]
      exact ⟨_, rfl⟩
    | succ n ih =>
      intro v j j0 j1 hn k' hk'
      rw [iter_step (by omega)]
      simp only [Yx.l0, atR, rdQ, Q.ask, atR, rdQ, Q.ask]
      by_cases h1 : j < (b.length : Int)
      · by_cases h2 : j < 4000
        · simp only [ZQ h1, ZQ h2, cond_true]
          rw [RI8.row g j0 h1]
          simp only [ZY, Zad, Z6]
          rw [Zj (x := j + 1) (by omega) (by omega)]
          exact ih _ _ (by omega) (by omega) (by omega) _ (by omega)
        · simp only [ZQ h1, ZV h2, cond_true, cond_false]
          exact ⟨_, rfl⟩
      · simp only [ZV h1, cond_false]
        exact ⟨_, rfl⟩
  unfold Yx.t Yx.g
  exact key b.length _ 0 (by omega) (by omega) (by omega) k (by unfold Z3 at hk; omega)
theorem Cur.new {b : List (List D)} (g : Zi RI8 lim b) : Cur b 0 := ⟨g, by omega, by omega⟩
theorem size_ex {b : List (List D)} {k : Nat} {m : Int} (g : Zi RI8 lim b) (hm : 3 ≤ m) : ∃ n, 3 ≤ n ∧ n ≤ m ∧ YM.t k b m = some n := by
  have hl := g.1
  have hlim : lim = 1048576 := rfl
  unfold YM.t YM.g
  have hd : 0 ≤ Int.tdiv (b.length : Int) 12 ∧ Int.tdiv (b.length : Int) 12 ≤ b.length := by
    rw [Int.tdiv_eq_ediv_of_nonneg (by omega)]
    omega
  dsimp only
  rw [ZaP (by decide), Zj (x := Int.tdiv (b.length : Int) 12) (by omega) (by omega), Zj (by omega) (by omega)]
  by_cases h : 3 + Int.tdiv (b.length : Int) 12 > m
  · simp only [ZQ h, cond_true]
    exact ⟨m, hm, by omega, rfl⟩
  · simp only [ZV h, cond_false]
    exact ⟨_, by omega, by omega, rfl⟩
theorem YL.f_of {β : Type} {k aB aA aC a1 z0 z1 z2 z3} (h : YL.t k aB aA aC a1 = some (z0, z1, z2, z3)) (K : ByteArray → (List (List D)) → Int → Int → Option β) : YL.f k aB aA aC a1 K = K z0 z1 z2 z3 := by unfold YL.f; rw [h]; rfl
theorem YA.f_of {β : Type} {k aB aA aC aG z0 z1 z2 z3} (h : YA.t k aB aA aC aG = some (z0, z1, z2, z3)) (K : (List (List C)) → (List (List C)) → (List (List C)) → Int → Option β) : YA.f k aB aA aC aG K = K z0 z1 z2 z3 := by unfold YA.f; rw [h]; rfl
def YE (B : Nat) (r : List D) : Prop := ∃ (c0 : ByteArray) (c1 : Int) (c2 : Int), r = [.str c0, .int .i64 c1, .int .i64 c2] ∧ c0.size ≤ B ∧ (Lit.int .i64 c1).wf = true ∧ (Lit.int .i64 c2).wf = true ∧ True
theorem YE.open {B : Nat} {r : List D} (h : YE B r) : ∃ (c0 : ByteArray) (c1 : Int) (c2 : Int), r = [.str c0, .int .i64 c1, .int .i64 c2] ∧ c0.size ≤ B ∧ (Lit.int .i64 c1).wf = true ∧ (Lit.int .i64 c2).wf = true ∧ True := h
theorem YE.mono {B B' : Nat} (hb : B ≤ B') {r : List D} (h : YE B r) : YE B' r := by
  obtain ⟨c0, c1, c2, rfl, k0, k1, k2, _⟩ := h
  exact ⟨_, _, _, rfl, (Nat.le_trans k0 hb), k1, k2, trivial⟩
theorem YE.wide {xs : List (List D)} (h : Zi YE lim xs) : Zi YE 2097152 xs := ⟨Nat.le_trans h.1 (by decide), fun r hr => (h.2 r hr).mono (by decide)⟩
theorem YE.len {B : Nat} {r : List D} (h : YE B r) : r.length = 3 := by
  obtain ⟨c0, c1, c2, rfl, _⟩ := h.open
  rfl
theorem YE.flat {B : Nat} {xs : List (List D)} (h : ∀ r ∈ xs, YE B r) : ZaZ 3 xs := fun r hr => by
  obtain ⟨c0, c1, c2, rfl, _⟩ := (h r hr).open
  exact ⟨rfl, by simp [Zau]⟩
theorem YE.wt {B : Nat} {xs : List (List D)} (h : ∀ r ∈ xs, YE B r) : Zp xs = 3 * xs.length := wt_flat (R := YE B) (fun r h => by obtain ⟨c0, c1, c2, rfl, _⟩ := h; rfl) xs h
theorem YE.deep {B : Nat} {xs : List (List D)} (h : ∀ r ∈ xs, YE B r) : Zb xs = xs.map (·.map C.d) := deep_flat (R := YE B) (fun r h => by obtain ⟨c0, c1, c2, rfl, _⟩ := h; rfl) xs h
theorem YE.gets {B : Nat} {xs : List (List D)} (h : ∀ r ∈ xs, YE B r) {v : Int} (h0 : 0 ≤ v) (h1 : v < xs.length) : gR xs v = [.str (gS xs v 0), .int .i64 (gI xs v 1), .int .i64 (gI xs v 2)] ∧ (gS xs v 0).size ≤ B ∧ (Lit.int .i64 (gI xs v 1)).wf = true ∧ (Lit.int .i64 (gI xs v 2)).wf = true ∧ True := by
  obtain ⟨c0, c1, c2, e, k0, k1, k2, _⟩ := (h (gR xs v) (gR_mem h0 h1)).open
  unfold gI gS
  rw [e]
  exact ⟨rfl, k0, k1, k2, trivial⟩
theorem YE.rows {B : Nat} {xs : List (List D)} (h : ∀ r ∈ xs, YE B r) {v : Int} (h0 : 0 ≤ v) (h1 : v < xs.length) {β : Type} (F : List D → Option β) : Zbw xs v F = F [.str (gS xs v 0), .int .i64 (gI xs v 1), .int .i64 (gI xs v 2)] := by
  rw [← (YE.gets h h0 h1).1]
  exact Zbp h0 h1 F
theorem YE.get {B : Nat} {xs : List (List D)} (h : Zi YE B xs) {v : Int} (h0 : 0 ≤ v) (h1 : v < xs.length) : gR xs v = [.str (gS xs v 0), .int .i64 (gI xs v 1), .int .i64 (gI xs v 2)] ∧ (gS xs v 0).size ≤ B ∧ (Lit.int .i64 (gI xs v 1)).wf = true ∧ (Lit.int .i64 (gI xs v 2)).wf = true ∧ True := YE.gets h.2 h0 h1
theorem YE.row {B : Nat} {xs : List (List D)} (h : Zi YE B xs) {v : Int} (h0 : 0 ≤ v) (h1 : v < xs.length) {β : Type} (F : List D → Option β) : Zbw xs v F = F [.str (gS xs v 0), .int .i64 (gI xs v 1), .int .i64 (gI xs v 2)] := YE.rows h.2 h0 h1 F
def RS (B : Nat) (r : List D) : Prop := ∃ (c0 : ByteArray), r = [.str c0] ∧ c0.size ≤ B ∧ True
theorem RS.open {B : Nat} {r : List D} (h : RS B r) : ∃ (c0 : ByteArray), r = [.str c0] ∧ c0.size ≤ B ∧ True := h
theorem RS.mono {B B' : Nat} (hb : B ≤ B') {r : List D} (h : RS B r) : RS B' r := by
  obtain ⟨c0, rfl, k0, _⟩ := h
  exact ⟨_, rfl, (Nat.le_trans k0 hb), trivial⟩
theorem RS.wide {xs : List (List D)} (h : Zi RS lim xs) : Zi RS 2097152 xs := ⟨Nat.le_trans h.1 (by decide), fun r hr => (h.2 r hr).mono (by decide)⟩
theorem RS.len {B : Nat} {r : List D} (h : RS B r) : r.length = 1 := by
  obtain ⟨c0, rfl, _⟩ := h.open
  rfl
theorem RS.flat {B : Nat} {xs : List (List D)} (h : ∀ r ∈ xs, RS B r) : ZaZ 1 xs := fun r hr => by
  obtain ⟨c0, rfl, _⟩ := (h r hr).open
  exact ⟨rfl, by simp [Zau]⟩
theorem RS.wt {B : Nat} {xs : List (List D)} (h : ∀ r ∈ xs, RS B r) : Zp xs = 1 * xs.length := wt_flat (R := RS B) (fun r h => by obtain ⟨c0, rfl, _⟩ := h; rfl) xs h
theorem RS.deep {B : Nat} {xs : List (List D)} (h : ∀ r ∈ xs, RS B r) : Zb xs = xs.map (·.map C.d) := deep_flat (R := RS B) (fun r h => by obtain ⟨c0, rfl, _⟩ := h; rfl) xs h
theorem RS.gets {B : Nat} {xs : List (List D)} (h : ∀ r ∈ xs, RS B r) {v : Int} (h0 : 0 ≤ v) (h1 : v < xs.length) : gR xs v = [.str (gS xs v 0)] ∧ (gS xs v 0).size ≤ B ∧ True := by
  obtain ⟨c0, e, k0, _⟩ := (h (gR xs v) (gR_mem h0 h1)).open
  unfold gS
  rw [e]
  exact ⟨rfl, k0, trivial⟩
theorem RS.rows {B : Nat} {xs : List (List D)} (h : ∀ r ∈ xs, RS B r) {v : Int} (h0 : 0 ≤ v) (h1 : v < xs.length) {β : Type} (F : List D → Option β) : Zbw xs v F = F [.str (gS xs v 0)] := by
  rw [← (RS.gets h h0 h1).1]
  exact Zbp h0 h1 F
theorem RS.get {B : Nat} {xs : List (List D)} (h : Zi RS B xs) {v : Int} (h0 : 0 ≤ v) (h1 : v < xs.length) : gR xs v = [.str (gS xs v 0)] ∧ (gS xs v 0).size ≤ B ∧ True := RS.gets h.2 h0 h1
theorem RS.row {B : Nat} {xs : List (List D)} (h : Zi RS B xs) {v : Int} (h0 : 0 ≤ v) (h1 : v < xs.length) {β : Type} (F : List D → Option β) : Zbw xs v F = F [.str (gS xs v 0)] := RS.rows h.2 h0 h1 F
set_option maxRecDepth 100000 in
theorem str_ex {b xs : List (List D)} {i h : Int} {k : Nat} (c : Cur b i) (g : ∀ r ∈ xs, RS lim r) (hx : 0 < xs.length) : ∃ j i' h', 0 ≤ j ∧ j < (xs.length : Int) ∧ Cur b i' ∧ YL.t k b i h xs = some (gS xs j 0, b, i', h') := by
  obtain ⟨x, i', h', x0, x1, -, c', e⟩ := Yac (k := k) (h := h) (n := (xs.length : Int)) c
  unfold YL.t YL.g; simp only [atR, rdQ, Q.ask]
  rw [Yp.f_of e, RS.rows g x0 (x1 (by omega))]
  simp only [ZY, Zaj, Z6]
  exact ⟨x, _, _, x0, x1 (by omega), c', rfl⟩
theorem YC.f_of {β : Type} {k a0 a1 a2 z0} (h : YC.t k a0 a1 a2 = some z0) (K : Bool → Option β) : YC.f k a0 a1 a2 K = K z0 := by unfold YC.f; rw [h]; rfl
theorem YC.tm {ι α : Type} {ok : ι → Prop} {ψ : α → Prop} {p : ι → Nat} {B : Nat} (hp : ∀ i, ok i → B ≤ p i) {a0 a1 a2 φ} (h : Tm (fun k => B ≤ k) (fun k => YC.t k a0 a1 a2) φ) {G : ι → Bool → Option α} (hG : ∀ z0, φ z0 → Tm ok (fun i => G i z0) ψ) : Tm ok (fun i => YC.f (p i) a0 a1 a2 (G i)) ψ := ZK (t := fun k => YC.t k a0 a1 a2) hp h hG
theorem YC.T {a0 a1 a2 : Int} : Tm Z3 (fun k => YC.t k a0 a1 a2) (fun r => r = true → a1 ≤ a0 ∧ a0 ≤ a2) := by
  unfold YC.t YC.g
  have hm := Zy
  have hlim : lim = 1048576 := rfl
  refine Tm.ite (fun h1 => ?_) (fun h1 => ?_)
  · try simp only [bz0, bz1, bz2, bz3, bz4, bz5, bz6, bz7, bz8, bz9, bza] at h1
    exact Tm.ret (by first | (intro h; simp at h; omega) | (intro h; cases h))
  · try simp only [bz0, bz1, bz2, bz3, bz4, bz5, bz6, bz7, bz8, bz9, bza] at h1
    exact Tm.ret (by first | (intro h; simp at h; omega) | (intro h; cases h))
theorem l1In_f {β : Type} {k : Nat} {a b c : Int} (K : Bool → Option β) : YC.f k a b c K = K (decide (b ≤ a) && decide (a ≤ c)) := by
  refine YC.f_of ?_ K
  unfold YC.t YC.g
  by_cases h : b ≤ a <;> simp [h]
def inB (a b c : Int) : Bool := decide (b ≤ a) && decide (a ≤ c)
theorem l1In_fv {β : Type} {k : Nat} {a b c : Int} (K : Bool → Option β) : YC.f k a b c K = K (inB a b c) := l1In_f K
theorem Yj.f_of {β : Type} {k a0 z0} (h : Yj.t k a0 = some z0) (K : Bool → Option β) : Yj.f k a0 K = K z0 := by unfold Yj.f; rw [h]; rfl
theorem Yj.T {a0 : ByteArray} (ga0 : a0.size ≤ lim) : Tm Z3 (fun k => Yj.t k a0) (fun _ => True) := by
  unfold Yj.t Yj.g
  have hm := Zy
  have hlim : lim = 1048576 := rfl
  refine Tm.loop (okk := Z3) (p := fun k => k) (fun i hi => hi) (b := fun k => Yj.l0 k a0 (fun z0 => some z0)) (fun i => (((a0.size : Int)) - i).toNat) (fun i => 0 ≤ i ∧ i ≤ (a0.size : Int)) ?_ ?_ ?_
  · rintro i hI
    try simp only [] at hI ⊢
    have : big = 2 ^ 64 := rfl
    omega
  · ((try simp only []); omega)
  · rintro i hI L hL
    try simp only [] at hI
    obtain ⟨i0, i1⟩ := hI
    simp only [Yj.l0]
    refine Tm.ite (fun h1 => ?_) (fun h1 => ?_)
    · try simp only [bz0, bz1, bz2, bz3, bz4, bz5, bz6, bz7, bz8, bz9, bza] at h1
      refine Tm.atStr (by first | assumption | omega) (by first | assumption | omega) (fun b2 hb3 => ?_)
      try rw [Zj (x := (b2.toNat : Int)) (by omega) (by omega)]
      refine YC.tm (fun i hi => hi.1) (YC.T) (fun y5 hy4 => ?_)
      refine Tm.ite (fun h6 => ?_) (fun h6 => ?_)
      · try simp only [bz0, bz1, bz2, bz3, bz4, bz5, bz6, bz7, bz8, bz9, bza] at h6
        refine Tm.atStr (by first | assumption | omega) (by first | assumption | omega) (fun b7 hb8 => ?_)
        try rw [Zj (x := (b7.toNat : Int)) (by omega) (by omega)]
        refine YC.tm (fun i hi => hi.1) (YC.T) (fun y10 hy9 => ?_)
        refine Tm.ite (fun h11 => ?_) (fun h11 => ?_)
        · try simp only [bz0, bz1, bz2, bz3, bz4, bz5, bz6, bz7, bz8, bz9, bza] at h11
          refine Tm.atStr (by first | assumption | omega) (by first | assumption | omega) (fun b12 hb13 => ?_)
          refine Tm.ite (fun h14 => ?_) (fun h14 => ?_)
          · try simp only [bz0, bz1, bz2, bz3, bz4, bz5, bz6, bz7, bz8, bz9, bza] at h14
            exact Tm.ret (by trivial)
          · try simp only [bz0, bz1, bz2, bz3, bz4, bz5, bz6, bz7, bz8, bz9, bza] at h14
            try rw [Zj (x := i + 1) (by omega) (by omega)]
            exact hL _ (by (try simp only []); omega) (by (try simp only []); omega)
        · try simp only [bz0, bz1, bz2, bz3, bz4, bz5, bz6, bz7, bz8, bz9, bza] at h11
          have z15 := hy9 h11
          try rw [Zj (x := i + 1) (by omega) (by omega)]
          exact hL _ (by (try simp only []); omega) (by (try simp only []); omega)
      · try simp only [bz0, bz1, bz2, bz3, bz4, bz5, bz6, bz7, bz8, bz9, bza] at h6
        have z16 := hy4 h6
        try rw [Zj (x := i + 1) (by omega) (by omega)]
        exact hL _ (by (try simp only []); omega) (by (try simp only []); omega)
    · try simp only [bz0, bz1, bz2, bz3, bz4, bz5, bz6, bz7, bz8, bz9, bza] at h1
      refine YC.tm (fun i hi => hi.1) (YC.T) (fun y18 hy17 => ?_)
      refine Tm.ite (fun h19 => ?_) (fun h19 => ?_)
      · try simp only [bz0, bz1, bz2, bz3, bz4, bz5, bz6, bz7, bz8, bz9, bza] at h19
        have z20 := hy17 h19
        refine Tm.atStr (by first | assumption | omega) (by first | assumption | omega) (fun b21 hb22 => ?_)
        refine Tm.ite (fun h23 => ?_) (fun h23 => ?_)
        · try simp only [bz0, bz1, bz2, bz3, bz4, bz5, bz6, bz7, bz8, bz9, bza] at h23
          try rw [Zj (x := (a0.size : Int) - 1) (by omega) (by omega)]
          refine Tm.atStr (by first | assumption | omega) (by first | assumption | omega) (fun b24 hb25 => ?_)
          exact Tm.ret (by trivial)
        · try simp only [bz0, bz1, bz2, bz3, bz4, bz5, bz6, bz7, bz8, bz9, bza] at h23
          exact Tm.ret (by trivial)
      · try simp only [bz0, bz1, bz2, bz3, bz4, bz5, bz6, bz7, bz8, bz9, bza] at h19
        exact Tm.ret (by trivial)
noncomputable def Yj.v (a0 : ByteArray) : Bool := (Yj.t big a0).getD default
theorem Yj.tv {a0 : ByteArray} (ga0 : a0.size ≤ lim) {k : Nat} (hk : Z3 k) : Yj.t k a0 = some (Yj.v a0) := (Yj.T ga0).val hk
theorem Yj.fv {a0 : ByteArray} (ga0 : a0.size ≤ lim) {k : Nat} (hk : Z3 k) {β : Type} (K : Bool → Option β) : Yj.f k a0 K = K (Yj.v a0) := Yj.f_of (Yj.tv ga0 hk) K
noncomputable def namesB (xs : List (List D)) : Bool := (List.range xs.length).all fun i => Yj.v (gS xs (i : Int) 0) && (!decide ((i : Int) > 0) || ZbO (gS xs ((i : Int) - 1) 0) (gS xs (i : Int) 0))
theorem Yr.f_of {β : Type} {k a0 a1 z0} (h : Yr.t k a0 a1 = some z0) (K : Int → Option β) : Yr.f k a0 a1 K = K z0 := by unfold Yr.f; rw [h]; rfl
theorem Yf.f_of {β : Type} {k aB aA aC aG z0} (h : Yf.t k aB aA aC aG = some z0) (K : Bool → Option β) : Yf.f k aB aA aC aG K = K z0 := by unfold Yf.f; rw [h]; rfl
def Yt (xs : List (List D)) (s : ByteArray) : Int := Zbo (fun i => Zae (gS xs (i : Int) 0) s) xs.length
set_option maxRecDepth 100000 in
theorem l9Find_fv {B : Nat} {a : List (List D)} {s : ByteArray} (g : ∀ r ∈ a, YE B r) (hl : a.length ≤ 2097152) {k : Nat} (hk : Z3 k) {β : Type} (K : Int → Option β) : Yr.f k a s K = K (Yt a s) := Yr.f_of (by
  have hb : big = 2 ^ 64 := rfl
  unfold Yr.t Yr.g Yt
  rw [iter_find (n := a.length) (fun i => Zae (gS a (i : Int) 0) s) (r1 := fun i => some (i : Int)) (r2 := some (-1)) (by unfold Z3 at hk; omega)]
  · unfold Zbo
    split <;> simp_all
  · intro L i hi
    simp (disch := omega) only [Yr.l0, atR, rdQ, Q.ask, ZQ (show (i : Int) < a.length by omega), cond_true, YE.rows g, ZY, Zaj, Zad, Z6, Zj]
  · intro L
    simp [Yr.l0, atR, rdQ, Q.ask]) K
noncomputable def itemsB (all : List (List D)) (n0 : Int) : Bool := (List.range all.length).all fun i => Yj.v (gS all (i : Int) 0) && (Yt all (gS all (i : Int) 0) == (i : Int) && (inB (gI all (i : Int) 1) 0 1000064 && (inB (gI all (i : Int) 2) 0 1000 && (!decide ((i : Int) ≥ n0) || gI all (i : Int) 1 == 0))))
def Yab (again : List (List D)) (i : Nat) : Bool := (List.range i).all fun j => !Zae (gS again (j : Int) 0) (gS again (i : Int) 0)
def againB (doing again : List (List D)) : Bool := (List.range again.length).all fun i => !decide (Yt doing (gS again (i : Int) 0) < 0) && Yab again i
noncomputable def YR (a b c : List (List D)) (n : Int) : Bool := itemsB (a ++ b) a.length && (againB b c && (decide ((a.length : Int) ≤ 60) && (decide ((b.length : Int) ≤ 60) && inB n 0 1000000)))
set_option maxRecDepth 100000 in
theorem Yaj {aB aA aC : List (List D)} {aG : Int} (g0 : Zi YE lim aB) (g1 : Zi YE lim aA) (g2 : Zi RS lim aC) {k : Nat} (hk : Z3 k) : Yf.t k aB aA aC aG = some (YR aB aA aC aG) := by
  have hlim : lim = 1048576 := rfl
  have l0 := g0.1
  have l1 := g1.1
  have l2 := g2.1
  have hm : ZN = 2 ^ 36 := rfl
  have hb : big = 2 ^ 64 := rfl
  have hkb : 2 ^ 64 ≤ k := by unfold Z3 at hk; omega
  have ga := rows_app g0.2 g1.2
  have la : (aB ++ aA).length ≤ 2097152 := by rw [List.length_append]; omega
  unfold Yf.t Yf.g Yf.m
  rw [ZaP (show ZaZ 3 aB from YE.flat g0.2), ZaP (by simp only [List.length_nil, map_len]; omega), ZaP (show ZaZ 3 aA from YE.flat g1.2), ZaP (by simp only [List.nil_append, map_len]; omega)]
  simp only [List.nil_append]
  rw [← List.map_append]
  have inner : ∀ (L1 : (Int × (List (List D)) × (List (List D)) × (List (List D)) × Int) → Option Bool) (i : Nat), i < aC.length → Zo (Yf.l2 k (i : Int) aB aA aC aG L1 fun z0 => some z0) k 0 = bif Yab aC i then L1 ((i : Int) + 1, aB, aA, aC, aG) else some false := by
    intro L1 i hi
    refine Zb6 (n := i) _ (by omega) (fun L j hj => ?_) (fun L => ?_)
    · simp (disch := omega) only [Yf.l2, atR, rdQ, Q.ask, ZQ (show (j : Int) < i by omega), cond_true, RS.row g2, ZY, Zaj, Z6, Zj]
      cases Zae (gS aC (j : Int) 0) (gS aC (i : Int) 0) <;> rfl
    · simp (disch := omega) only [Yf.l2, atR, rdQ, Q.ask, ZV (show ¬ (i : Int) < i by omega), cond_false, Zj]
  have mid : Zo (Yf.l1 k fun z0 => some z0) k (0, aB, aA, aC, aG) = some (againB aA aC && (decide ((aB.length : Int) ≤ 60) && (decide ((aA.length : Int) ≤ 60) && inB aG 0 1000000))) := by
    refine (iter_allT (fun i => ((i : Int), aB, aA, aC, aG)) (n := aC.length) (fun i => !decide (Yt aA (gS aC (i : Int) 0) < 0) && Yab aC i) (r1 := some false) (r2 := some (decide ((aB.length : Int) ≤ 60) && (decide ((aA.length : Int) ≤ 60) && inB aG 0 1000000))) (by omega) (fun L i hi => ?_) (fun L => ?_)).trans ?_
    · simp (disch := omega) only [Yf.l1, Yf.m1, atR, rdQ, Q.ask, ZQ (show (i : Int) < aC.length by omega), cond_true, RS.row g2, ZY, Zaj, Z6, l9Find_fv g1.2 (by omega) hk]
      rw [inner L i hi]
      cases decide (Yt aA (gS aC (i : Int) 0) < 0) <;> rfl
    · simp only [Yf.l1, Yf.m1, atR, rdQ, Q.ask, ZV (show ¬ (aC.length : Int) < aC.length by omega), cond_false, l1In_fv]
      cases decide ((aB.length : Int) ≤ 60) <;> cases decide ((aA.length : Int) ≤ 60) <;> rfl
    · unfold againB
      generalize List.all _ _ = x
      cases x <;> rfl
  rw [Zb6 (n := (aB ++ aA).length) (fun i => Yj.v (gS (aB ++ aA) (i : Int) 0) && (Yt (aB ++ aA) (gS (aB ++ aA) (i : Int) 0) == (i : Int) && (inB (gI (aB ++ aA) (i : Int) 1) 0 1000064 && (inB (gI (aB ++ aA) (i : Int) 2) 0 1000 && (!decide ((i : Int) ≥ aB.length) || gI (aB ++ aA) (i : Int) 1 == 0))))) (r1 := some false) (r2 := some (againB aA aC && (decide ((aB.length : Int) ≤ 60) && (decide ((aA.length : Int) ≤ 60) && inB aG 0 1000000)))) (by omega)]
  · unfold YR itemsB
    generalize List.all _ _ = x
    cases x <;> rfl
  · intro L i hi
    have hg := YE.gets ga (v := (i : Int)) (by omega) (by omega)
    simp (disch := omega) only [Yf.l0, Yf.m0, map_len, ZQ (show (i : Int) < (aB ++ aA).length by omega), cond_true, ZaP (show (0 : Int) ≤ i ∧ (i : Int) < ((aB ++ aA).length : Int) by omega), atNat_up, imm_rows]
    rw [hg.1]
    simp (disch := omega) only [List.map_cons, List.map_nil, List.drop_zero, ZY, cD_at, Zaj, Zad, Yj.fv hg.2.1 hk, l9Find_fv ga la hk, l1In_fv, Zj]
    cases Yj.v (gS (aB ++ aA) (i : Int) 0)
    · rfl
    · cases h1 : (Yt (aB ++ aA) (gS (aB ++ aA) (i : Int) 0) == (i : Int)) <;> cases inB (gI (aB ++ aA) (i : Int) 1) 0 1000064 <;> cases inB (gI (aB ++ aA) (i : Int) 2) 0 1000 <;> cases decide ((i : Int) ≥ aB.length) <;> cases h2 : gI (aB ++ aA) (i : Int) 1 == 0 <;> simp [bne, h1, h2]
  · intro L
    simp only [Yf.l0, Yf.m0, map_len, ZV (show ¬ ((aB ++ aA).length : Int) < (aB ++ aA).length by omega), cond_false]
    exact mid
theorem Ys.f_of {β : Type} {k a0 a1 z0} (h : Ys.t k a0 a1 = some z0) (K : Bool → Option β) : Ys.f k a0 a1 K = K z0 := by unfold Ys.f; rw [h]; rfl
theorem YT.f_of {β : Type} {k aB aA aC aG a1 z0 z1 z2 z3 z4} (h : YT.t k aB aA aC aG a1 = some (z0, z1, z2, z3, z4)) (K : (List (List C)) → (List (List C)) → (List (List C)) → Int → Bool → Option β) : YT.f k aB aA aC aG a1 K = K z0 z1 z2 z3 z4 := by unfold YT.f; rw [h]; rfl
theorem YB.f_of {β : Type} {k : Nat} {aB aA aC : List (List D)} {aG : Int} {z0 z1 z2 : List (List C)} {z3 : Int} {z4 : ByteArray} {z5 : Bool} (h : YB.t k aB aA aC aG = some (z0, z1, z2, z3, z4, z5)) (K : (List (List C)) → (List (List C)) → (List (List C)) → Int → ByteArray → Bool → Option β) : YB.f k aB aA aC aG K = K z0 z1 z2 z3 z4 z5 := by
  unfold YB.f
  rw [h]
theorem YD.f_of {β : Type} {k aB aA aC a1 z0 z1 z2 z3} (h : YD.t k aB aA aC a1 = some (z0, z1, z2, z3)) (K : Bool → (List (List D)) → Int → Int → Option β) : YD.f k aB aA aC a1 K = K z0 z1 z2 z3 := by unfold YD.f; rw [h]; rfl
theorem once_ex {b : List (List D)} {i h n : Int} {k : Nat} (c : Cur b i) : ∃ x i' h', Cur b i' ∧ YD.t k b i h n = some (x, b, i', h') := by
  obtain ⟨x, i', h', -, -, -, c', e⟩ := Yac (k := k) (h := h) (n := n) c
  unfold YD.t YD.g
  rw [Yp.f_of e]
  exact ⟨_, _, _, c', rfl⟩
theorem Yo.f_of {β : Type} {k a0 z0} (h : Yo.t k a0 = some z0) (K : Int → Option β) : Yo.f k a0 K = K z0 := by unfold Yo.f; rw [h]; rfl
def delayN (f : Int) : Int := (2 : Int) ^ (min (f - 1).toNat 6)
theorem l9Delay_t {f : Int} (h0 : 0 ≤ f) (h1 : f ≤ 1000) {k : Nat} (hk : Z3 k) : Yo.t k f = some (delayN f) := by
  have hb : big = 2 ^ 64 := rfl
  unfold Yo.t Yo.g delayN
  obtain ⟨n, hn⟩ : ∃ n, n = min (f - 1).toNat 6 := ⟨_, rfl⟩
  rw [← hn]
  refine iter_seq (f := fun j => ((2 : Int) ^ j, (j : Int) + 1)) (n := n) (r := some ((2 : Int) ^ n)) (by unfold Z3 at hk; omega) (fun L j hj => ?_) (fun L => ?_)
  · rcases (by omega : j = 0 ∨ j = 1 ∨ j = 2 ∨ j = 3 ∨ j = 4 ∨ j = 5) with rfl | rfl | rfl | rfl | rfl | rfl <;> (simp only [Yo.l0]; rw [ZQ (by omega), ZQ (by decide), Zj (by decide) (by decide), Zj (by decide) (by decide)]; rfl)
  · rcases (by omega : n = 0 ∨ n = 1 ∨ n = 2 ∨ n = 3 ∨ n = 4 ∨ n = 5 ∨ n = 6) with rfl | rfl | rfl | rfl | rfl | rfl | rfl
    iterate 6 (simp only [Yo.l0]; rw [ZV (by omega)]; rfl)
    simp only [Yo.l0]
    rw [show decide ((2 : Int) ^ 6 < 64) = false from rfl]
    cases decide (((6 : Nat) : Int) + 1 < f) <;> rfl
theorem Yaf (f : Int) : 1 ≤ delayN f ∧ delayN f ≤ 64 := by
  unfold delayN
  obtain ⟨n, hn⟩ : ∃ n, n = min (f - 1).toNat 6 := ⟨_, rfl⟩
  rw [← hn]
  rcases (by omega : n = 0 ∨ n = 1 ∨ n = 2 ∨ n = 3 ∨ n = 4 ∨ n = 5 ∨ n = 6) with rfl | rfl | rfl | rfl | rfl | rfl | rfl <;> decide
theorem l9Delay_fv {f : Int} (h0 : 0 ≤ f) (h1 : f ≤ 1000) {k : Nat} (hk : Z3 k) {β : Type} (K : Int → Option β) : Yo.f k f K = K (delayN f) := Yo.f_of (l9Delay_t h0 h1 hk) K
theorem Yy.f_of {β : Type} {k aB aA aC aG a1 a2 z0 z1 z2 z3 z4} (h : Yy.t k aB aA aC aG a1 a2 = some (z0, z1, z2, z3, z4)) (K : (List (List C)) → (List (List C)) → (List (List C)) → Int → Bool → Option β) : Yy.f k aB aA aC aG a1 a2 K = K z0 z1 z2 z3 z4 := by unfold Yy.f; rw [h]; rfl
theorem YU.f_of {β : Type} {k aB aA aC aG a1 z0 z1 z2 z3} (h : YU.t k aB aA aC aG a1 = some (z0, z1, z2, z3)) (K : (List (List C)) → (List (List C)) → (List (List C)) → Int → Option β) : YU.f k aB aA aC aG a1 K = K z0 z1 z2 z3 := by unfold YU.f; rw [h]; rfl
theorem YO.f_of {β : Type} {k aB aA aC a1 z0 z1 z2 z3} (h : YO.t k aB aA aC a1 = some (z0, z1, z2, z3)) (K : Int → (List (List D)) → Int → Int → Option β) : YO.f k aB aA aC a1 K = K z0 z1 z2 z3 := by unfold YO.f; rw [h]; rfl
set_option maxRecDepth 100000 in
theorem int_ex {b : List (List D)} {i h : Int} {k : Nat} (c : Cur b i) (l : List Int) (hl : 0 < l.length) : ∃ x i' h', x ∈ l ∧ Cur b i' ∧ YO.t k b i h (l.map fun x => [.int .i64 x]) = some (x, b, i', h') := by
  obtain ⟨x, i', h', x0, x1, -, c', e⟩ := Yac (k := k) (h := h) (n := (l.length : Int)) c
  have x1 := x1 (by omega)
  unfold YO.t YO.g; simp only [atR, rdQ, Q.ask]
  rw [List.length_map, Yp.f_of e, Zbp x0 (by rw [List.length_map]; exact x1)]
  have e2 : gR (l.map fun x => [D.int .i64 x]) x = [.int .i64 (l[x.toNat]'(by omega))] := by
    unfold gR
    rw [List.getD_eq_getElem?_getD, List.getElem?_map, List.getElem?_eq_getElem (by omega)]
    rfl
  rw [e2]
  simp only [ZY, Zad, Z6]
  exact ⟨_, _, _, List.getElem_mem _, c', rfl⟩
theorem YK.f_of {β : Type} {k a0 z0 z1 z2 z3 z4} (h : YK.t k a0 = some (z0, z1, z2, z3, z4)) (K : (List (List C)) → (List (List C)) → (List (List C)) → Int → ByteArray → Option β) : YK.f k a0 K = K z0 z1 z2 z3 z4 := by unfold YK.f; rw [h]; rfl
theorem Yq.f_of {β : Type} {k a0 z0} (h : Yq.t k a0 = some z0) (K : (List (List C)) → Option β) : Yq.f k a0 K = K z0 := by unfold Yq.f; rw [h]; rfl
theorem clone_item_fv {a : List (List D)} (g : Zi YE lim a) {k : Nat} {β : Type} (K : List (List C) → Option β) : Yq.f k a K = K (a.map (·.map C.d)) := Yq.f_of (by
  have hl := g.1
  have hlim : lim = 1048576 := rfl
  have hm : ZN = 2 ^ 36 := rfl
  unfold Yq.t Yq.g
  rw [ZaP (YE.flat g.2), ZaP (by simp only [List.length_nil, map_len]; omega), List.nil_append]
  exact nilSl_same) K
theorem Yv.f_of {β : Type} {k a0 z0} (h : Yv.t k a0 = some z0) (K : (List (List C)) → Option β) : Yv.f k a0 K = K z0 := by unfold Yv.f; rw [h]; rfl
theorem clone_string_fv {a : List (List D)} (g : Zi RS lim a) {k : Nat} {β : Type} (K : List (List C) → Option β) : Yv.f k a K = K (a.map (·.map C.d)) := Yv.f_of (by
  have hl := g.1
  have hlim : lim = 1048576 := rfl
  have hm : ZN = 2 ^ 36 := rfl
  unfold Yv.t Yv.g
  rw [ZaP (RS.flat g.2), ZaP (by simp only [List.length_nil, map_len]; omega), List.nil_append]
  exact nilSl_same) K
theorem Yz.f_of {β : Type} {k aB aA aC aG z0 z1 z2 z3} (h : Yz.t k aB aA aC aG = some (z0, z1, z2, z3)) (K : (List (List C)) → (List (List C)) → (List (List C)) → Int → Option β) : Yz.f k aB aA aC aG K = K z0 z1 z2 z3 := by unfold Yz.f; rw [h]; rfl
theorem l9Copy_fv {a0 a1 a2 : List (List D)} {a3 : Int} (g0 : Zi YE lim a0) (g1 : Zi YE lim a1) (g2 : Zi RS lim a2) {k : Nat} {β : Type} (K : List (List C) → List (List C) → List (List C) → Int → Option β) : YA.f k a0 a1 a2 a3 K = K (a0.map (·.map C.d)) (a1.map (·.map C.d)) (a2.map (·.map C.d)) a3 := YA.f_of (by
  have l0 := g0.1
  have l1 := g1.1
  have l2 := g2.1
  have hlim : lim = 1048576 := rfl
  have hm : ZN = 2 ^ 36 := rfl
  unfold YA.t YA.g
  rw [ZaP (YE.flat g0.2), ZaP (by simp only [List.length_nil, map_len]; omega), ZaP (YE.flat g1.2), ZaP (by simp only [List.length_nil, map_len]; omega), ZaP (RS.flat g2.2), ZaP (by simp only [List.length_nil, map_len]; omega)]
  simp only [List.nil_append]) K
theorem copyQueue_fv {a0 a1 a2 : List (List D)} {a3 : Int} (g0 : Zi YE lim a0) (g1 : Zi YE lim a1) (g2 : Zi RS lim a2) {k : Nat} {β : Type} (K : List (List C) → List (List C) → List (List C) → Int → Option β) : Yz.f k a0 a1 a2 a3 K = K (a0.map (·.map C.d)) (a1.map (·.map C.d)) (a2.map (·.map C.d)) a3 := Yz.f_of (by
  unfold Yz.t Yz.g
  rw [clone_item_fv g0, clone_item_fv g1, clone_string_fv g2]) K
theorem YH.f_of {β : Type} {k a0 a1 a2 z0} (h : YH.t k a0 a1 a2 = some z0) (K : Bool → Option β) : YH.f k a0 a1 a2 K = K z0 := by unfold YH.f; rw [h]; rfl
theorem Yn.f_of {β : Type} {k a1 z0} (h : Yn.t k a1 = some z0) (K : (List (List C)) → Option β) : Yn.f k a1 K = K z0 := by unfold Yn.f; rw [h]; rfl
theorem Yc.f_of {β : Type} {k a0 z0} (h : Yc.t k a0 = some z0) (K : (List (List C)) → Option β) : Yc.f k a0 K = K z0 := by unfold Yc.f; rw [h]; rfl
def Y4 (B : Nat) (r : List D) : Prop := ∃ (c0 : List (List D)), r = [.sl c0] ∧ Zi YE B c0 ∧ True
theorem Y4.open {B : Nat} {r : List D} (h : Y4 B r) : ∃ (c0 : List (List D)), r = [.sl c0] ∧ Zi YE B c0 ∧ True := h
theorem Y4.mono {B B' : Nat} (hb : B ≤ B') {r : List D} (h : Y4 B r) : Y4 B' r := by
  obtain ⟨c0, rfl, k0, _⟩ := h
  exact ⟨_, rfl, ⟨Nat.le_trans k0.1 hb, fun r hr => (k0.2 r hr).mono hb⟩, trivial⟩
theorem Y4.wide {xs : List (List D)} (h : Zi Y4 lim xs) : Zi Y4 2097152 xs := ⟨Nat.le_trans h.1 (by decide), fun r hr => (h.2 r hr).mono (by decide)⟩
theorem Y4.len {B : Nat} {r : List D} (h : Y4 B r) : r.length = 1 := by
  obtain ⟨c0, rfl, _⟩ := h.open
  rfl
theorem Y4.gets {B : Nat} {xs : List (List D)} (h : ∀ r ∈ xs, Y4 B r) {v : Int} (h0 : 0 ≤ v) (h1 : v < xs.length) : gR xs v = [.sl (gL xs v 0)] ∧ Zi YE B (gL xs v 0) ∧ True := by
  obtain ⟨c0, e, k0, _⟩ := (h (gR xs v) (gR_mem h0 h1)).open
  unfold gL
  rw [e]
  exact ⟨rfl, k0, trivial⟩
theorem Y4.rows {B : Nat} {xs : List (List D)} (h : ∀ r ∈ xs, Y4 B r) {v : Int} (h0 : 0 ≤ v) (h1 : v < xs.length) {β : Type} (F : List D → Option β) : Zbw xs v F = F [.sl (gL xs v 0)] := by
  rw [← (Y4.gets h h0 h1).1]
  exact Zbp h0 h1 F
theorem Y4.get {B : Nat} {xs : List (List D)} (h : Zi Y4 B xs) {v : Int} (h0 : 0 ≤ v) (h1 : v < xs.length) : gR xs v = [.sl (gL xs v 0)] ∧ Zi YE B (gL xs v 0) ∧ True := Y4.gets h.2 h0 h1
theorem Y4.row {B : Nat} {xs : List (List D)} (h : Zi Y4 B xs) {v : Int} (h0 : 0 ≤ v) (h1 : v < xs.length) {β : Type} (F : List D → Option β) : Zbw xs v F = F [.sl (gL xs v 0)] := Y4.rows h.2 h0 h1 F
theorem within_f {β : Type} {k : Nat} {a b c : Int} (K : Bool → Option β) : YH.f k a b c K = K (decide (b ≤ a) && decide (a ≤ c)) := by
  refine YH.f_of ?_ K
  unfold YH.t YH.g
  by_cases h : b ≤ a <;> simp [h]
theorem Yu.same {k : Nat} {a : ByteArray} : Yu.t k a = Yj.t k a := by
  unfold Yu.t Yj.t Yu.g Yj.g
  congr 1
  funext L v
  simp only [Yu.l0, Yj.l0, l1In_f, within_f]
  refine bif_congr (fun _ => ?_) (fun _ => rfl)
  unfold Za0
  split
  · split
    · rename_i b _
      have hb : b.toNat < 256 := b.toNat_lt
      simp only []
      rw [Zj (x := (b.toNat : Int)) (by omega) (by omega)]
      generalize (b.toNat : Int) = x
      by_cases h1 : x < 97 <;> by_cases h2 : x < 48 <;> by_cases h3 : x > 57 <;> by_cases h4 : x > 122 <;> simp [h1, h2, h3, h4] <;> (try omega) <;> grind
    · rfl
  · rfl
theorem impl_NameOk_f {β : Type} {k : Nat} {a : ByteArray} (K : Bool → Option β) : Yu.f k a K = Yj.f k a K := by
  unfold Yu.f Yj.f
  rw [Yu.same]
theorem within_fv {β : Type} {k : Nat} {a b c : Int} (K : Bool → Option β) : YH.f k a b c K = K (inB a b c) := within_f K
theorem YI.f_of {β : Type} {k aB aA aC f0_0 z0} (h : YI.t k aB aA aC f0_0 = some z0) (K : Bool → Option β) : YI.f k aB aA aC f0_0 K = K z0 := by unfold YI.f; rw [h]; rfl
theorem Ya.f_of {β : Type} {k a0 a1_0_0 z0} (h : Ya.t k a0 a1_0_0 = some z0) (K : Int → Option β) : Ya.f k a0 a1_0_0 K = K z0 := by unfold Ya.f; rw [h]; rfl
theorem YF.f_of {β : Type} {k a0 a1 z0} (h : YF.t k a0 a1 = some z0) (K : Int → Option β) : YF.f k a0 a1 K = K z0 := by unfold YF.f; rw [h]; rfl
set_option maxRecDepth 100000 in
theorem itemAt_fv {B : Nat} {a : List (List D)} {s : ByteArray} (g : ∀ r ∈ a, YE B r) (hl : a.length ≤ 2097152) {k : Nat} (hk : Z3 k) {β : Type} (K : Int → Option β) : YF.f k a s K = K (Yt a s) := YF.f_of (by
  have hb : big = 2 ^ 64 := rfl
  unfold YF.t YF.g
  rw [Ya.f_of (z0 := Yt a s)]
  unfold Ya.t Ya.g
  refine iter_findI (n := a.length) _ some (by unfold Z3 at hk; omega) (fun L i hi => ?_) (fun L => by simp [Ya.l0, atR, rdQ, Q.ask])
  have hs : ∀ {x : ByteArray} {y z : Int} {β : Type} (K : Bool → Option β), YI.f k x y z s K = K (Zae x s) := fun K => YI.f_of (by unfold YI.t YI.g; rfl) K
  simp (disch := omega) only [Ya.l0, atR, rdQ, Q.ask, ZQ (show (i : Int) < a.length by omega), cond_true, YE.rows g, ZY, Zaj, Zad, Z6, hs, Zj]) K
theorem grow_nil_fv {n : Int} (h0 : 0 ≤ n) (h1 : n ≤ 2097152) {k : Nat} {β : Type} (K : List (List C) → Option β) : Yn.f k n K = K [] := Yn.f_of (by
  unfold Yn.t Yn.g
  have hm : ZN = 2 ^ 36 := rfl
  have e1 : IntKind.wrap .i64 (0 - 0) = 0 := by rw [Zj] <;> omega
  have e2 : IntKind.wrap .i64 (n - 0) = n := by rw [Zj] <;> omega
  rw [e1, e2, ZV (by omega), cond_false]
  by_cases hn : n > 0
  · rw [ZQ hn, cond_true, ZaP (by omega), ZaP (by omega), ZaP (by rw [List.length_replicate]; omega), ZaP (by rw [List.length_replicate]; omega)]
    rfl
  · rw [ZV hn, cond_false]) K
set_option maxRecDepth 100000 in
theorem concat_fv {B : Nat} {a b : List (List D)} (ga : ∀ r ∈ a, YE B r) (gb : ∀ r ∈ b, YE B r) (la : a.length ≤ 1048576) (lb : b.length ≤ 1048576) {k : Nat} (hk : Z3 k) {β : Type} (K : List (List C) → Option β) : Yc.f k [[.sl a], [.sl b]] K = K ((a ++ b).map (·.map C.d)) := Yc.f_of (by
  have hm : ZN = 2 ^ 36 := rfl
  have hb : big = 2 ^ 64 := rfl
  have hkb : 2 ^ 64 ≤ k := by unfold Z3 at hk; omega
  unfold Yc.t Yc.g
  have r0 : ∀ {β : Type} (F : List D → Option β), Zbw ([[.sl a], [.sl b]] : List (List D)) 0 F = F [.sl a] := fun F => rfl
  have r1 : ∀ {β : Type} (F : List D → Option β), Zbw ([[.sl a], [.sl b]] : List (List D)) 1 F = F [.sl b] := fun F => rfl
  have c0 : decide ((0 : Int) < (([[.sl a], [.sl b]] : List (List D)).length : Int)) = true := rfl
  have c1 : decide ((1 : Int) < (([[.sl a], [.sl b]] : List (List D)).length : Int)) = true := rfl
  have c2 : decide ((2 : Int) < (([[.sl a], [.sl b]] : List (List D)).length : Int)) = false := rfl
  have w1 : IntKind.wrap .i64 (0 + 1) = 1 := by rw [Zj] <;> omega
  have w2 : IntKind.wrap .i64 (1 + 1) = 2 := by rw [Zj] <;> omega
  have wa : IntKind.wrap .i64 (0 + (a.length : Int)) = a.length := by rw [Zj] <;> omega
  have wb : IntKind.wrap .i64 ((a.length : Int) + (b.length : Int)) = (a.length : Int) + b.length := by rw [Zj] <;> omega
  have oa : ZaZ 3 a := YE.flat ga
  have ob : ZaZ 3 b := YE.flat gb
  rw [iter_step (by omega)]
  simp only [Yc.l0, Yc.m0, atR, rdQ, Q.ask, c0, cond_true, r0, ZY, Za7, Z6, w1, wa, ZV (show ¬ (a.length : Int) < 0 by omega), cond_false]
  rw [iter_step (by omega)]
  simp only [Yc.l0, Yc.m0, atR, rdQ, Q.ask, c1, cond_true, r1, ZY, Za7, Z6, w2, wb, ZV (show ¬ (a.length : Int) + b.length < 0 by omega), cond_false]
  rw [iter_step (by omega)]
  simp only [Yc.l0, Yc.m0, atR, rdQ, Q.ask, c2, cond_false, grow_nil_fv (show (0 : Int) ≤ (a.length : Int) + b.length by omega) (by omega)]
  rw [iter_step (by omega)]
  simp only [Yc.l1, atR, rdQ, Q.ask, c0, cond_true, r0, ZY, Za7, Z6, w1, ZaP oa]
  rw [ZaP (by simp only [List.length_nil, map_len]; omega), iter_step (by omega)]
  simp only [Yc.l1, atR, rdQ, Q.ask, c1, cond_true, r1, ZY, Za7, Z6, w2, ZaP ob]
  rw [ZaP (by simp only [List.nil_append, map_len]; omega), iter_step (by omega)]
  simp only [Yc.l1, atR, rdQ, Q.ask, c2, cond_false, List.nil_append, List.map_append]) K
theorem Yk.f_of {β : Type} {k a0 a1 z0} (h : Yk.t k a0 a1 = some z0) (K : Int → Option β) : Yk.f k a0 a1 K = K z0 := by unfold Yk.f; rw [h]; rfl
theorem Ym.f_of {β : Type} {k a0 a1 z0} (h : Ym.t k a0 a1 = some z0) (K : Bool → Option β) : Ym.f k a0 a1 K = K z0 := by unfold Ym.f; rw [h]; rfl
theorem strEq_comm (a b : ByteArray) : Zae a b = Zae b a := by
  unfold Zae
  rw [Bool.eq_iff_iff]
  simp only [beq_iff_eq]
  exact ⟨Eq.symm, Eq.symm⟩
def YX (xs : List (List D)) (s : ByteArray) : Bool := !(List.range xs.length).all fun i => !Zae (gS xs (i : Int) 0) s
set_option maxRecDepth 100000 in
theorem contains_fv {a : List (List D)} {s : ByteArray} (g : Zi RS lim a) {k : Nat} (hk : Z3 k) {β : Type} (K : Bool → Option β) : Ym.f k a s K = K (YX a s) := by
  have hl := g.1
  have hlim : lim = 1048576 := rfl
  have hb : big = 2 ^ 64 := rfl
  have hf : ∀ {β : Type} (K : Int → Option β), Yk.f k a s K = K (Zbo (fun i => Zae (gS a (i : Int) 0) s) a.length) := fun K => Yk.f_of (by
    unfold Yk.t Yk.g
    refine iter_findI (n := a.length) _ some (by unfold Z3 at hk; omega) (fun L i hi => ?_) (fun L => by simp [Yk.l0, atR, rdQ, Q.ask])
    simp (disch := omega) only [Yk.l0, atR, rdQ, Q.ask, ZQ (show (i : Int) < a.length by omega), cond_true, RS.row g, ZY, Zaj, Z6, Zj]
    rw [strEq_comm]) K
  refine Ym.f_of ?_ K
  unfold Ym.t Ym.g
  rw [hf, findI_all]
  rfl
set_option maxRecDepth 100000 in
theorem l2Among_fv {a : List (List D)} {s : ByteArray} (g : Zi RS lim a) {k : Nat} (hk : Z3 k) {β : Type} (K : Bool → Option β) : Ys.f k a s K = K (YX a s) := Ys.f_of (by
  have hl := g.1
  have hlim : lim = 1048576 := rfl
  have hb : big = 2 ^ 64 := rfl
  unfold Ys.t Ys.g YX
  rw [Zb6 (n := a.length) (fun i => !Zae (gS a (i : Int) 0) s) (r1 := some true) (r2 := some false) (by unfold Z3 at hk; omega)]
  · generalize List.all _ _ = x
    cases x <;> rfl
  · intro L i hi
    simp (disch := omega) only [Ys.l0, atR, rdQ, Q.ask, ZQ (show (i : Int) < a.length by omega), cond_true, RS.row g, ZY, Zaj, Z6, Zj]
    cases Zae (gS a (i : Int) 0) s <;> rfl
  · intro L
    simp [Ys.l0, atR, rdQ, Q.ask]) K
theorem Yh.f_of {β : Type} {k aB aA aC aG z0} (h : Yh.t k aB aA aC aG = some z0) (K : Bool → Option β) : Yh.f k aB aA aC aG K = K z0 := by unfold Yh.f; rw [h]; rfl
theorem gS_take {xs : List (List D)} {n : Nat} {v : Int} {j : Nat} (h0 : 0 ≤ v) (h1 : v < n) : gS (xs.take n) v j = gS xs v j := by
  unfold gS
  rw [gR_take h1 h0]
theorem prefixB {xs : List (List D)} {i : Nat} (h : i ≤ xs.length) : YX (xs.take i) (gS xs (i : Int) 0) = !Yab xs i := by
  unfold YX Yab
  rw [List.length_take, show min i xs.length = i from by omega]
  congr 1
  rw [Bool.eq_iff_iff, List.all_eq_true, List.all_eq_true]
  constructor
  · intro h x hx
    have hx' : x < i := by simpa using hx
    rw [← gS_take (xs := xs) (n := i) (v := (x : Int)) (by omega) (by omega)]
    exact h x hx
  · intro h x hx
    have hx' : x < i := by simpa using hx
    rw [gS_take (xs := xs) (n := i) (v := (x : Int)) (by omega) (by omega)]
    exact h x hx
set_option maxRecDepth 100000 in
theorem Yh.same {aB aA aC : List (List D)} {aG : Int} (g0 : Zi YE lim aB) (g1 : Zi YE lim aA) (g2 : Zi RS lim aC) {k : Nat} (hk : Z3 k) : Yh.t k aB aA aC aG = Yf.t k aB aA aC aG := by
  rw [Yaj g0 g1 g2 hk]
  have hlim : lim = 1048576 := rfl
  have l0 := g0.1
  have l1 := g1.1
  have l2 := g2.1
  have hb : big = 2 ^ 64 := rfl
  have hkb : 2 ^ 64 ≤ k := by unfold Z3 at hk; omega
  have ga := rows_app g0.2 g1.2
  have la : (aB ++ aA).length ≤ 2097152 := by rw [List.length_append]; omega
  unfold Yh.t Yh.g Yh.m
  have mid : Zo (Yh.l1 k aC (aC.length : Int) aB aA aC aG fun z0 => some z0) k 0 = some (againB aA aC) := by
    rw [Zb6 (n := aC.length) (fun i => !decide (Yt aA (gS aC (i : Int) 0) < 0) && Yab aC i) (r1 := some false) (r2 := some true) (by omega)]
    · unfold againB
      generalize List.all _ _ = x
      cases x <;> rfl
    · intro L i hi
      have gt : Zi RS lim (aC.take i) := ⟨by rw [List.length_take]; omega, rows_take g2.2⟩
      simp (disch := omega) only [Yh.l1, atR, rdQ, Q.ask, ZQ (show (i : Int) < aC.length by omega), cond_true, RS.row g2, ZY, Zaj, Z6, itemAt_fv g1.2 (by omega) hk]
      rw [ZaP ⟨by omega, by omega, by omega, fun r hr => (g2.2 r hr).len⟩, show (Int.toNat (0 : Int)) = 0 from rfl, List.drop_zero, Int.toNat_natCast, Nat.sub_zero, contains_fv gt hk, prefixB (by omega), Zj (by omega) (by omega)]
      cases decide (Yt aA (gS aC (i : Int) 0) < 0) <;> cases Yab aC i <;> rfl
    · intro L
      simp only [Yh.l1, atR, rdQ, Q.ask, ZV (show ¬ (aC.length : Int) < aC.length by omega), cond_false]
  simp only [within_fv, concat_fv g0.2 g1.2 (by omega : aB.length ≤ 1048576) (by omega : aA.length ≤ 1048576) hk, map_len]
  rw [Zb6 (n := (aB ++ aA).length) (fun i => Yj.v (gS (aB ++ aA) (i : Int) 0) && (Yt (aB ++ aA) (gS (aB ++ aA) (i : Int) 0) == (i : Int) && (inB (gI (aB ++ aA) (i : Int) 1) 0 1000064 && (inB (gI (aB ++ aA) (i : Int) 2) 0 1000 && (!decide ((i : Int) ≥ aB.length) || gI (aB ++ aA) (i : Int) 1 == 0))))) (r1 := some false) (r2 := some (againB aA aC)) (by omega)]
  · unfold YR itemsB
    generalize List.all _ _ = x
    have e : ∀ n : Int, decide (n > 60) = !decide (n ≤ 60) := fun n => by by_cases h : n ≤ 60 <;> simp [h]; omega
    rw [e, e]
    cases decide ((aB.length : Int) ≤ 60) <;> cases decide ((aA.length : Int) ≤ 60) <;> cases inB aG 0 1000000 <;> cases x <;> cases againB aA aC <;> rfl
  · intro L i hi
    have hg := YE.gets ga (v := (i : Int)) (by omega) (by omega)
    simp (disch := omega) only [Yh.l0, Yh.m0, map_len, ZQ (show (i : Int) < (aB ++ aA).length by omega), cond_true, ZaP (show (0 : Int) ≤ i ∧ (i : Int) < ((aB ++ aA).length : Int) by omega), atNat_up, imm_rows]
    rw [hg.1]
    simp (disch := omega) only [List.map_cons, List.map_nil, List.drop_zero, ZY, cD_at, Zaj, Zad, concat_fv g0.2 g1.2 (by omega : aB.length ≤ 1048576) (by omega : aA.length ≤ 1048576) hk, imm_rows, impl_NameOk_f, Yj.fv hg.2.1 hk, itemAt_fv ga la hk, within_fv, Zj]
    cases Yj.v (gS (aB ++ aA) (i : Int) 0)
    · rfl
    · cases h1 : (Yt (aB ++ aA) (gS (aB ++ aA) (i : Int) 0) == (i : Int)) <;> cases inB (gI (aB ++ aA) (i : Int) 1) 0 1000064 <;> cases inB (gI (aB ++ aA) (i : Int) 2) 0 1000 <;> cases decide ((i : Int) ≥ aB.length) <;> cases h2 : gI (aB ++ aA) (i : Int) 1 == 0 <;> simp [bne, h1, h2]
  · intro L
    simp only [Yh.l0, Yh.m0, map_len, ZV (show ¬ ((aB ++ aA).length : Int) < (aB ++ aA).length by omega), cond_false]
    exact mid
theorem QueueOkF {a0 a1 a2 : List (List D)} {a3 : Int} (g0 : Zi YE lim a0) (g1 : Zi YE lim a1) (g2 : Zi RS lim a2) {k : Nat} (hk : Z3 k) {β : Type} (K : Bool → Option β) : Yf.f k a0 a1 a2 a3 K = K (YR a0 a1 a2 a3) := Yf.f_of (Yaj g0 g1 g2 hk) K
theorem QueueOkI {a0 a1 a2 : List (List D)} {a3 : Int} (g0 : Zi YE lim a0) (g1 : Zi YE lim a1) (g2 : Zi RS lim a2) {k : Nat} (hk : Z3 k) {β : Type} (K : Bool → Option β) : Yh.f k a0 a1 a2 a3 K = K (YR a0 a1 a2 a3) := Yh.f_of ((Yh.same g0 g1 g2 hk).trans (Yaj g0 g1 g2 hk)) K
theorem back_facts {R : Nat → List D → Prop} {m : Nat} (hm : m ≤ 1000) (hmono : ∀ r, R lim r → R 2097152 r) (hwt : ∀ xs : List (List D), (∀ r ∈ xs, R lim r) → Zp xs = m * xs.length) {xs : List (List D)} (hl : xs.length ≤ 2097152) (h : ∀ r ∈ xs, R lim r) : Zi R 2097152 (C.immRows (xs.map (·.map C.d))) ∧ Zp (C.immRows (xs.map (·.map C.d))) ≤ 1125899906842624 := by
  rw [imm_rows, hwt xs h]
  refine ⟨⟨hl, fun r hr => hmono r (h r hr)⟩, ?_⟩
  have : m * xs.length ≤ 1000 * 2097152 := Nat.mul_le_mul hm hl
  omega
theorem items_back {xs : List (List D)} (hl : xs.length ≤ 2097152) (h : ∀ r ∈ xs, YE lim r) : Zi YE 2097152 (C.immRows (xs.map (·.map C.d))) ∧ Zp (C.immRows (xs.map (·.map C.d))) ≤ 1125899906842624 := back_facts (m := 3) (by decide) (fun r hr => hr.mono (by decide)) (fun xs h => YE.wt h) hl h
theorem strings_back {xs : List (List D)} (hl : xs.length ≤ 2097152) (h : ∀ r ∈ xs, RS lim r) : Zi RS 2097152 (C.immRows (xs.map (·.map C.d))) ∧ Zp (C.immRows (xs.map (·.map C.d))) ≤ 1125899906842624 := back_facts (m := 1) (by decide) (fun r hr => hr.mono (by decide)) (fun xs h => RS.wt h) hl h
def Yaa (z0 z1 z2 : List (List C)) : Prop := ∃ x0 x1 x2 : List (List D), z0 = x0.map (·.map C.d) ∧ z1 = x1.map (·.map C.d) ∧ z2 = x2.map (·.map C.d) ∧ x0.length ≤ 2097152 ∧ x1.length ≤ 2097152 ∧ x2.length ≤ 2097152 ∧ (∀ r ∈ x0, YE lim r) ∧ (∀ r ∈ x1, YE lim r) ∧ ∀ r ∈ x2, RS lim r
theorem Yaa.deep {z0 z1 z2 : List (List C)} (h : Yaa z0 z1 z2) : Zb (C.immRows z0) = z0 ∧ Zb (C.immRows z1) = z1 ∧ Zb (C.immRows z2) = z2 := by
  obtain ⟨x0, x1, x2, rfl, rfl, rfl, _, _, _, g0, g1, g2⟩ := h
  rw [imm_rows, imm_rows, imm_rows, YE.deep g0, YE.deep g1, RS.deep g2]
  exact ⟨rfl, rfl, rfl⟩
theorem Yaa.facts {z0 z1 z2 : List (List C)} (h : Yaa z0 z1 z2) : Zi YE 2097152 (C.immRows z0) ∧ Zp (C.immRows z0) ≤ 1125899906842624 ∧ Zi YE 2097152 (C.immRows z1) ∧ Zp (C.immRows z1) ≤ 1125899906842624 ∧ Zi RS 2097152 (C.immRows z2) ∧ Zp (C.immRows z2) ≤ 1125899906842624 := by
  obtain ⟨x0, x1, x2, rfl, rfl, rfl, l0, l1, l2, g0, g1, g2⟩ := h
  obtain ⟨p1, p2⟩ := items_back l0 g0
  obtain ⟨p3, p4⟩ := items_back l1 g1
  obtain ⟨p5, p6⟩ := strings_back l2 g2
  exact ⟨p1, p2, p3, p4, p5, p6⟩
theorem mem_modify {α : Type} {P : α → Prop} {f : α → α} (hf : ∀ x, P x → P (f x)) : ∀ {xs : List α} {j : Nat}, (∀ x ∈ xs, P x) → ∀ x ∈ xs.modify j f, P x
  | [], j, h, x, hx => by cases j <;> cases hx
  | y :: xs, 0, h, x, hx => by
    simp only [List.modify_zero_cons] at hx
    rcases List.mem_cons.mp hx with rfl | hx
    · exact hf y (h y (by simp))
    · exact h x (by simp [hx])
  | y :: xs, j + 1, h, x, hx => by
    simp only [List.modify_succ_cons] at hx
    rcases List.mem_cons.mp hx with rfl | hx
    · exact h x (by simp)
    · exact mem_modify hf (fun z hz => h z (by simp [hz])) x hx
theorem Y6 {α : Type} {P : α → Prop} {xs : List α} {y : α} (h : ∀ x ∈ xs, P x) (hy : P y) : ∀ x ∈ xs ++ [y], P x := by
  intro x hx
  rcases List.mem_append.mp hx with q | q
  · exact h x q
  · simp at q; subst q; exact hy
def passB (c : Bool) (a3 a1 : Int) : Int := bif c && (decide (a1 > a3) && decide (a1 ≤ 1000000)) then a1 else a3
theorem spec_Pass_t {a0 a1 a2 : List (List D)} {a3 n : Int} (g0 : Zi YE lim a0) (g1 : Zi YE lim a1) (g2 : Zi RS lim a2) {k : Nat} (hk : Z3 k) : YU.t k a0 a1 a2 a3 n = some (a0.map (·.map C.d), a1.map (·.map C.d), a2.map (·.map C.d), passB (YR a0 a1 a2 a3) a3 n) := by
  unfold YU.t YU.g
  rw [l9Copy_fv g0 g1 g2, QueueOkF g0 g1 g2 hk]
  unfold passB
  cases YR a0 a1 a2 a3 <;> cases decide (n > a3) <;> cases decide (n ≤ 1000000) <;> rfl
noncomputable def YZ (a0 : List (List D)) (j : Nat) (v : Int) : List (List D) := a0.modify j fun r => Zq r 1 [.int .i64 v]
noncomputable def putV (a0 a1 a2 : List (List D)) (n : Int) (s : ByteArray) : List (List D) × List (List D) × List (List D) × Int × Bool :=
  bif !YR a0 a1 a2 n then (a0, a1, a2, n, false) else bif !Yj.v s then (a0, a1, a2, n, false) else
  bif decide (Yt a1 s ≥ 0) then (bif !YX a2 s then (a0, a1, a2 ++ [[.str s]], n, true) else (a0, a1, a2, n, true)) else
  bif decide (Yt a0 s ≥ 0) then (bif decide (gI a0 (Yt a0 s) 1 > n) then (YZ a0 (Yt a0 s).toNat n, a1, a2, n, true) else (a0, a1, a2, n, true)) else
  bif (a0.length : Int) == 60 then (a0, a1, a2, n, false) else (a0 ++ [[.str s, .int .i64 n, .int .i64 0]], a1, a2, n, true)
def up3 (z : List (List D) × List (List D) × List (List D) × Int × Bool) : List (List C) × List (List C) × List (List C) × Int × Bool := (z.1.map (·.map C.d), z.2.1.map (·.map C.d), z.2.2.1.map (·.map C.d), z.2.2.2.1, z.2.2.2.2)
theorem up_modify {xs : List (List D)} {j : Nat} {v : Int} : ((xs.map (·.map C.d)).modify j fun c => Zq c 1 [.d (.int .i64 v)]) = (YZ xs j v).map (·.map C.d) := by
  unfold YZ
  induction xs generalizing j with
  | nil => cases j <;> rfl
  | cons x xs ih =>
    cases j with
    | zero =>
      simp only [List.map_cons, List.modify_zero_cons, List.cons.injEq, and_true]
      simp [Zq]
    | succ j => simp only [List.map_cons, List.modify_succ_cons, ih]
theorem ready_same {xs : List (List D)} (h : ∀ r ∈ xs, YE lim r) {v : Int} (h0 : 0 ≤ v) (h1 : v < xs.length) : YZ xs v.toNat (gI xs v 1) = xs := by
  unfold YZ
  have hr := YE.gets h h0 h1
  have hx := gR_at h0 h1
  have key : Zq (gR xs v) 1 [.int .i64 (gI xs v 1)] = gR xs v := by
    rw [hr.1]
    rfl
  apply List.ext_getElem?
  intro i
  rw [List.getElem?_modify]
  by_cases e : v.toNat = i
  · subst e
    rw [hx]
    simp [key]
  · simp [e]
theorem place_lt {xs : List (List D)} {s : ByteArray} (h : 0 ≤ Yt xs s) : Yt xs s < xs.length := by
  obtain ⟨h1, _, h2, _⟩ := findI_some (p := fun i => Zae (gS xs (i : Int) 0) s) (n := xs.length) h
  unfold Yt at *
  omega
theorem spec_Put_t {a0 a1 a2 : List (List D)} {n : Int} {s : ByteArray} (g0 : Zi YE lim a0) (g1 : Zi YE lim a1) (g2 : Zi RS lim a2) (gs : s.size ≤ lim) {k : Nat} (hk : Z3 k) : YT.t k a0 a1 a2 n s = some (up3 (putV a0 a1 a2 n s)) := by
  have hlim : lim = 1048576 := rfl
  have hm : ZN = 2 ^ 36 := rfl
  have l0 := g0.1
  have l1 := g1.1
  have l2 := g2.1
  unfold YT.t YT.g
  rw [l9Copy_fv g0 g1 g2, QueueOkF g0 g1 g2 hk, Yj.fv gs hk, l9Find_fv g1.2 (by omega) hk, l2Among_fv g2 hk, l9Find_fv g0.2 (by omega) hk]
  unfold putV
  cases YR a0 a1 a2 n
  · rfl
  cases Yj.v s
  · rfl
  cases decide (Yt a1 s ≥ 0)
  · cases hp : decide (Yt a0 s ≥ 0)
    · cases (a0.length : Int) == 60
      · simp only [Bool.not_true, cond_false]
        rw [ZaP (by simp only [map_len, List.length_singleton]; omega)]
        simp [up3]
      · rfl
    · have h0 : 0 ≤ Yt a0 s := by simpa using hp
      have h1 := place_lt h0
      have hr := YE.get g0 h0 h1
      simp only [Bool.not_true, cond_false, cond_true]
      rw [ZaP ⟨h0, by rw [map_len]; exact h1⟩, atNat_up h0 h1, hr.1]
      simp only [List.map_cons, List.map_nil, List.drop_succ_cons, List.drop_zero, ZY, cD_at, Zad]
      cases decide (gI a0 (Yt a0 s) 1 > n)
      · rfl
      · simp only [cond_true]
        rw [ZaP ⟨h0, by rw [map_len]; exact h1⟩, ZaP (by rw [map_len]; omega), up_modify]
        rfl
  · cases YX a2 s
    · simp only [Bool.not_true, Bool.not_false, cond_false, cond_true]
      rw [ZaP (by simp only [map_len, List.length_singleton]; omega)]
      simp [up3]
    · rfl
theorem YQ.f_of {β : Type} {k aB aA aC aG a1 z0 z1 z2 z3 z4} (h : YQ.t k aB aA aC aG a1 = some (z0, z1, z2, z3, z4)) (K : (List (List C)) → (List (List C)) → (List (List C)) → Int → Bool → Option β) : YQ.f k aB aA aC aG a1 K = K z0 z1 z2 z3 z4 := by unfold YQ.f; rw [h]; rfl
theorem impl_Put_t {a0 a1 a2 : List (List D)} {n : Int} {s : ByteArray} (g0 : Zi YE lim a0) (g1 : Zi YE lim a1) (g2 : Zi RS lim a2) (gs : s.size ≤ lim) {k : Nat} (hk : Z3 k) : YQ.t k a0 a1 a2 n s = some (up3 (putV a0 a1 a2 n s)) := by
  have hlim : lim = 1048576 := rfl
  have hm : ZN = 2 ^ 36 := rfl
  have l0 := g0.1
  have l1 := g1.1
  have l2 := g2.1
  unfold YQ.t YQ.g
  rw [copyQueue_fv g0 g1 g2, QueueOkI g0 g1 g2 hk, impl_NameOk_f, Yj.fv gs hk, itemAt_fv g1.2 (by omega) hk, contains_fv g2 hk, itemAt_fv g0.2 (by omega) hk]
  unfold putV
  cases YR a0 a1 a2 n
  · rfl
  cases Yj.v s
  · rfl
  cases decide (Yt a1 s ≥ 0)
  · cases hp : decide (Yt a0 s ≥ 0)
    · cases (a0.length : Int) == 60
      · simp only [Bool.not_true, cond_false]
        rw [ZaP (by simp only [map_len, List.length_singleton]; omega)]
        simp [up3]
      · rfl
    · have h0 : 0 ≤ Yt a0 s := by simpa using hp
      have h1 := place_lt h0
      have hr := YE.get g0 h0 h1
      simp only [Bool.not_true, cond_false, cond_true]
      rw [ZaP ⟨h0, by rw [map_len]; exact h1⟩, atNat_up h0 h1, hr.1]
      simp only [List.map_cons, List.map_nil, List.drop_succ_cons, List.drop_zero, ZY, cD_at, Zad]
      rw [ZaP ⟨h0, by rw [map_len]; exact h1⟩, ZaP (by rw [map_len]; omega), up_modify]
      by_cases hq : n < gI a0 (Yt a0 s) 1
      · rw [if_pos hq, ZQ hq]
        rfl
      · rw [if_neg hq, ZV hq, ready_same g0.2 h0 h1]
        rfl
  · cases YX a2 s
    · simp only [Bool.not_true, Bool.not_false, cond_false, cond_true]
      rw [ZaP (by simp only [map_len, List.length_singleton]; omega)]
      simp [up3]
    · rfl
theorem putV_back {a0 a1 a2 : List (List D)} {n : Int} {s : ByteArray} (g0 : Zi YE lim a0) (g1 : Zi YE lim a1) (g2 : Zi RS lim a2) (gs : s.size ≤ lim) (hn : (Lit.int .i64 n).wf = true) : Yaa (up3 (putV a0 a1 a2 n s)).1 (up3 (putV a0 a1 a2 n s)).2.1 (up3 (putV a0 a1 a2 n s)).2.2.1 := by
  have hlim : lim = 1048576 := rfl
  have l0 := g0.1
  have l1 := g1.1
  have l2 := g2.1
  refine ⟨_, _, _, rfl, rfl, rfl, ?_⟩
  unfold putV
  have hs : ∀ x ∈ a2 ++ [[D.str s]], RS lim x := Y6 g2.2 ⟨_, rfl, gs, trivial⟩
  have h0 : ∀ x ∈ a0 ++ [[.str s, .int .i64 n, .int .i64 0]], YE lim x := Y6 g0.2 ⟨_, _, _, rfl, gs, hn, by decide, trivial⟩
  have hr : ∀ x ∈ YZ a0 (Yt a0 s).toNat n, YE lim x := mem_modify (fun r hr => by
    obtain ⟨c0, c1, c2, rfl, k0, k1, k2, _⟩ := hr
    exact ⟨c0, n, c2, rfl, k0, hn, k2, trivial⟩) g0.2
  have hrl : (YZ a0 (Yt a0 s).toNat n).length = a0.length := by simp [YZ]
  cases YR a0 a1 a2 n
  · exact ⟨by simp; omega, by simp; omega, by simp; omega, g0.2, g1.2, g2.2⟩
  cases Yj.v s
  · exact ⟨by simp; omega, by simp; omega, by simp; omega, g0.2, g1.2, g2.2⟩
  cases decide (Yt a1 s ≥ 0)
  · cases decide (Yt a0 s ≥ 0)
    · cases (a0.length : Int) == 60
      · exact ⟨by simp; omega, by simp; omega, by simp; omega, h0, g1.2, g2.2⟩
      · exact ⟨by simp; omega, by simp; omega, by simp; omega, g0.2, g1.2, g2.2⟩
    · cases decide (gI a0 (Yt a0 s) 1 > n)
      · exact ⟨by simp; omega, by simp; omega, by simp; omega, g0.2, g1.2, g2.2⟩
      · exact ⟨by simp only [Bool.not_true, cond_false, cond_true, hrl]; omega, by simp; omega, by simp; omega, hr, g1.2, g2.2⟩
  · cases YX a2 s
    · exact ⟨by simp; omega, by simp; omega, by simp; omega, g0.2, g1.2, hs⟩
    · exact ⟨by simp; omega, by simp; omega, by simp; omega, g0.2, g1.2, g2.2⟩
theorem YN.f_of {β : Type} {k aB aA aC f0_0 f0_1 f0_2 f0_3 z0} (h : YN.t k aB aA aC f0_0 f0_1 f0_2 f0_3 = some z0) (K : Bool → Option β) : YN.f k aB aA aC f0_0 f0_1 f0_2 f0_3 K = K z0 := by unfold YN.f; rw [h]; rfl
theorem Yb.f_of {β : Type} {k a0 a1_0_0 a1_0_1 a1_0_2 a1_0_3 z0} (h : Yb.t k a0 a1_0_0 a1_0_1 a1_0_2 a1_0_3 = some z0) (K : Int → Option β) : Yb.f k a0 a1_0_0 a1_0_1 a1_0_2 a1_0_3 K = K z0 := by unfold Yb.f; rw [h]; rfl
theorem Yi.f_of {β : Type} {k : Nat} {xs : List (List C)} {i j : Int} {z0 : List (List C)} (h : Yi.t k xs i j = some z0) (K : (List (List C)) → Option β) : Yi.f k xs i j K = K z0 := by
  unfold Yi.f
  rw [h]
theorem YV.f_of {β : Type} {k : Nat} {aB aA aC : List (List D)} {aG : Int} {z0 z1 z2 : List (List C)} {z3 : Int} {z4 : ByteArray} {z5 : Bool} (h : YV.t k aB aA aC aG = some (z0, z1, z2, z3, z4, z5)) (K : (List (List C)) → (List (List C)) → (List (List C)) → Int → ByteArray → Bool → Option β) : YV.f k aB aA aC aG K = K z0 z1 z2 z3 z4 z5 := by
  unfold YV.f
  rw [h]
def Y2 (a : List (List D)) (n : Int) (i : Nat) : Bool := decide (gI a (i : Int) 1 ≤ n)
set_option maxRecDepth 100000 in
theorem ready_fv {a b c : List (List D)} {n : Int} (g : Zi YE lim a) {k : Nat} (hk : Z3 k) {β : Type} (K : Int → Option β) : Yb.f k a a b c n K = K (Zbo (Y2 a n) a.length) := Yb.f_of (by
  have hl := g.1
  have hlim : lim = 1048576 := rfl
  have hb : big = 2 ^ 64 := rfl
  unfold Yb.t Yb.g
  refine iter_findI (n := a.length) _ some (by unfold Z3 at hk; omega) (fun L i hi => ?_) (fun L => by simp [Yb.l0, atR, rdQ, Q.ask])
  have hs : ∀ {x : ByteArray} {y z : Int} {β : Type} (K : Bool → Option β), YN.f k x y z a b c n K = K (decide (y ≤ n)) := fun K => YN.f_of (by unfold YN.t YN.g; rfl) K
  simp (disch := omega) only [Yb.l0, atR, rdQ, Q.ask, ZQ (show (i : Int) < a.length by omega), cond_true, YE.row g, ZY, Zaj, Zad, Z6, hs, Zj]
  rfl) K
noncomputable def Y0 (a b c : List (List D)) (n : Int) : List (List D) × List (List D) × List (List D) × Int × ByteArray × Bool :=
  bif YR a b c n && decide ((b.length : Int) < 60) then
    (bif decide (0 ≤ Zbo (Y2 a n) a.length) then
      (a.take (Zbo (Y2 a n) a.length).toNat ++ a.drop ((Zbo (Y2 a n) a.length).toNat + 1), b ++ [[.str (gS a (Zbo (Y2 a n) a.length) 0), .int .i64 0, .int .i64 (gI a (Zbo (Y2 a n) a.length) 2)]], c, n, gS a (Zbo (Y2 a n) a.length) 0, true)
    else (a, b, c, n, (⟨#[]⟩ : ByteArray), false))
  else (a, b, c, n, (⟨#[]⟩ : ByteArray), false)
def up4 (z : List (List D) × List (List D) × List (List D) × Int × ByteArray × Bool) : List (List C) × List (List C) × List (List C) × Int × ByteArray × Bool := (z.1.map (·.map C.d), z.2.1.map (·.map C.d), z.2.2.1.map (·.map C.d), z.2.2.2)
theorem queueB_len {a b c : List (List D)} {n : Int} (h : YR a b c n = true) : a.length ≤ 60 ∧ b.length ≤ 60 := by
  unfold YR at h
  simp only [Bool.and_eq_true, decide_eq_true_eq] at h
  omega
theorem cut_at {a : List (List D)} {p k : Nat} {β : Type} (hp : p < a.length) (hl : a.length ≤ 1048576) (g : ∀ r ∈ a, YE lim r) {F : List (List C) → Option β} :
    Zc (0 ≤ (0 : Int) ∧ (0 : Int) ≤ ((p : Nat) : Int) ∧ ((p : Nat) : Int) ≤ (a.length : Int) ∧ rowsOk 3 a) (Zc (ZaZ 3 ((a.drop (Int.toNat (0 : Int))).take (Int.toNat ((p : Nat) : Int) - Int.toNat (0 : Int)))) (Zc (([] : List (List C)).length + (((a.drop (Int.toNat (0 : Int))).take (Int.toNat ((p : Nat) : Int) - Int.toNat (0 : Int))).map (·.map C.d)).length ≤ ZN) (Zc (0 ≤ (((p : Nat) : Int) + 1) ∧ (((p : Nat) : Int) + 1) ≤ (a.length : Int) ∧ (a.length : Int) ≤ (a.length : Int) ∧ rowsOk 3 a) (Zc (ZaZ 3 ((a.drop (Int.toNat (((p : Nat) : Int) + 1))).take (Int.toNat (a.length : Int) - Int.toNat (((p : Nat) : Int) + 1)))) (Zc ((([] : List (List C)) ++ (((a.drop (Int.toNat (0 : Int))).take (Int.toNat ((p : Nat) : Int) - Int.toNat (0 : Int))).map (·.map C.d))).length + (((a.drop (Int.toNat (((p : Nat) : Int) + 1))).take (Int.toNat (a.length : Int) - Int.toNat (((p : Nat) : Int) + 1))).map (·.map C.d)).length ≤ ZN) (F ((([] : List (List C)) ++ (((a.drop (Int.toNat (0 : Int))).take (Int.toNat ((p : Nat) : Int) - Int.toNat (0 : Int))).map (·.map C.d))) ++ (((a.drop (Int.toNat (((p : Nat) : Int) + 1))).take (Int.toNat (a.length : Int) - Int.toNat (((p : Nat) : Int) + 1))).map (·.map C.d)))))))))
    = F ((a.take p ++ a.drop (p + 1)).map (·.map C.d)) := by
  have hm : ZN = 2 ^ 36 := rfl
  have e1 : Int.toNat ((p : Int) + 1) = p + 1 := by omega
  have e2 : (a.drop (Int.toNat (0 : Int))).take (Int.toNat ((p : Nat) : Int) - Int.toNat (0 : Int)) = a.take p := by simp
  have e3 : (a.drop (Int.toNat ((p : Int) + 1))).take (Int.toNat (a.length : Int) - Int.toNat ((p : Int) + 1)) = a.drop (p + 1) := by
    rw [e1, Int.toNat_natCast, List.take_of_length_le (by rw [List.length_drop]; omega)]
  have hok : rowsOk 3 a := fun r hr => (g r hr).len
  rw [e2, e3, ZaP ⟨by omega, by omega, by omega, hok⟩, ZaP (YE.flat (rows_take g)), ZaP (by simp only [List.length_nil, map_len, List.length_take]; omega), ZaP ⟨by omega, by omega, by omega, hok⟩, ZaP (YE.flat (rows_drop g)),
    ZaP (by simp only [List.nil_append, map_len, List.length_take, List.length_drop]; omega), List.nil_append, List.map_append]
set_option maxRecDepth 100000 in
theorem spec_Take_t {a b c : List (List D)} {n : Int} (g0 : Zi YE lim a) (g1 : Zi YE lim b) (g2 : Zi RS lim c) {k : Nat} (hk : Z3 k) : YB.t k a b c n = some (up4 (Y0 a b c n)) := by
  have hlim : lim = 1048576 := rfl
  have hm : ZN = 2 ^ 36 := rfl
  have hb : big = 2 ^ 64 := rfl
  have l0 := g0.1
  have l1 := g1.1
  unfold YB.t YB.g
  rw [l9Copy_fv g0 g1 g2]
  cases hq : YR a b c n && decide ((b.length : Int) < 60) with
  | false =>
    have hv : Y0 a b c n = (a, b, c, n, (⟨#[]⟩ : ByteArray), false) := by unfold Y0; rw [hq]; rfl
    rw [hv, iter_step (by unfold Z3 at hk; omega)]
    simp only [YB.l0, atR, rdQ, Q.ask, QueueOkF g0 g1 g2 hk]
    cases hz : decide ((0 : Int) < a.length)
    · rfl
    · cases hb1 : YR a b c n
      · rfl
      · rw [hb1] at hq
        simp only [Bool.true_and] at hq
        simp only [cond_true, hq, cond_false]
        rfl
  | true =>
    have hq' := hq
    rw [Bool.and_eq_true] at hq'
    refine (iter_find (n := a.length) (Y2 a n) (r1 := fun p => some (up4 (a.take p ++ a.drop (p + 1), b ++ [[.str (gS a (p : Int) 0), .int .i64 0, .int .i64 (gI a (p : Int) 2)]], c, n, gS a (p : Int) 0, true))) (r2 := some (up4 (a, b, c, n, (⟨#[]⟩ : ByteArray), false))) (by unfold Z3 at hk; omega) (fun L i hi => ?_) (fun L => ?_)).trans ?_
    · have hr := YE.get g0 (v := (i : Int)) (by omega) (by omega)
      simp (disch := omega) only [YB.l0, atR, rdQ, Q.ask, ZQ (show (i : Int) < a.length by omega), cond_true, QueueOkF g0 g1 g2 hk, hq'.1, hq'.2, YE.row g0, ZY, Zaj, Zad, Z6, Zj]
      unfold Y2
      cases decide (gI a (i : Int) 1 ≤ n)
      · rfl
      · simp only [cond_true]
        rw [cut_at (k := k) hi (by omega) g0.2 (F := fun y => Zc ((b.map (·.map C.d)).length + ([[.d (.str (gS a (i : Int) 0)), .d (.int .i64 0), .d (.int .i64 (gI a (i : Int) 2))]] : List (List C)).length ≤ ZN) (some (y, (b.map (·.map C.d)) ++ ([[.d (.str (gS a (i : Int) 0)), .d (.int .i64 0), .d (.int .i64 (gI a (i : Int) 2))]] : List (List C)), c.map (·.map C.d), n, gS a (i : Int) 0, true)))]
        rw [ZaP (by simp only [map_len, List.length_singleton]; omega)]
        simp [up4]
    · simp only [YB.l0, atR, rdQ, Q.ask, ZV (show ¬ (a.length : Int) < a.length by omega), cond_false]
      rfl
    · unfold Y0
      rw [hq]
      simp only [cond_true]
      unfold Zbo
      cases (List.range a.length).find? (Y2 a n) with
      | none => rfl
      | some p => simp
set_option maxRecDepth 100000 in
theorem impl_Take_t {a b c : List (List D)} {n : Int} (g0 : Zi YE lim a) (g1 : Zi YE lim b) (g2 : Zi RS lim c) {k : Nat} (hk : Z3 k) : YV.t k a b c n = some (up4 (Y0 a b c n)) := by
  have hlim : lim = 1048576 := rfl
  have hm : ZN = 2 ^ 36 := rfl
  have l0 := g0.1
  have l1 := g1.1
  unfold YV.t YV.g; simp only [atR, rdQ, Q.ask]
  rw [copyQueue_fv g0 g1 g2, ready_fv g0 hk, QueueOkI g0 g1 g2 hk]
  unfold Y0
  cases hqb : YR a b c n
  · rfl
  have hlen := queueB_len hqb
  simp only [Bool.not_true, cond_false, Bool.true_and]
  by_cases hf : Zbo (Y2 a n) a.length < 0
  · rw [ZQ hf, ZV (show ¬ 0 ≤ Zbo (Y2 a n) a.length by omega)]
    cases decide ((b.length : Int) < 60) <;> rfl
  · obtain ⟨h1, h2, h3, h4⟩ := findI_some (p := Y2 a n) (n := a.length) (by omega)
    rw [ZV hf, ZQ (show 0 ≤ Zbo (Y2 a n) a.length by omega)]
    by_cases hl : (b.length : Int) = 60
    · rw [show ((b.length : Int) == 60) = true from by rw [beq_iff_eq]; exact hl, ZV (show ¬ (b.length : Int) < 60 by omega)]
      rfl
    · rw [show ((b.length : Int) == 60) = false from by rw [beq_eq_false_iff_ne]; exact hl, ZQ (show (b.length : Int) < 60 by omega)]
      generalize Zbo (Y2 a n) a.length = v at *
      simp (disch := omega) only [cond_true, cond_false, YE.row g0, ZY, Zaj, Zad, Z6, Zj]
      rw [Yi.f_of (z0 := (a.take v.toNat ++ a.drop (v.toNat + 1)).map (·.map C.d)) (by
        unfold Yi.t
        rw [ZaP ⟨by omega, by omega, by rw [map_len]; omega⟩, show (v + 1).toNat = v.toNat + 1 from by omega, List.map_append, List.map_take, List.map_drop])]
      rw [ZaP (by simp only [map_len, List.length_singleton]; omega)]
      simp [up4]
theorem takeV_back {a b c : List (List D)} {n : Int} (g0 : Zi YE lim a) (g1 : Zi YE lim b) (g2 : Zi RS lim c) : Yaa (up4 (Y0 a b c n)).1 (up4 (Y0 a b c n)).2.1 (up4 (Y0 a b c n)).2.2.1 ∧ (up4 (Y0 a b c n)).2.2.2.2.1.size ≤ 2097152 := by
  have hlim : lim = 1048576 := rfl
  have l0 := g0.1
  have l1 := g1.1
  have l2 := g2.1
  have e0 : (⟨#[]⟩ : ByteArray).size = 0 := rfl
  suffices h : ∃ x0 x1 x2 w, Y0 a b c n = (x0, x1, x2, w) ∧ x0.length ≤ 2097152 ∧ x1.length ≤ 2097152 ∧ x2.length ≤ 2097152 ∧ (∀ r ∈ x0, YE lim r) ∧ (∀ r ∈ x1, YE lim r) ∧ (∀ r ∈ x2, RS lim r) ∧ w.2.1.size ≤ 2097152 by
    obtain ⟨x0, x1, x2, w, e, h1, h2, h3, h4, h5, h6, h7⟩ := h
    rw [e]
    exact ⟨⟨x0, x1, x2, rfl, rfl, rfl, h1, h2, h3, h4, h5, h6⟩, h7⟩
  unfold Y0
  cases YR a b c n && decide ((b.length : Int) < 60)
  · exact ⟨_, _, _, _, rfl, by omega, by omega, by omega, g0.2, g1.2, g2.2, by show (⟨#[]⟩ : ByteArray).size ≤ _; omega⟩
  by_cases hf : 0 ≤ Zbo (Y2 a n) a.length
  · obtain ⟨h1, h2, h3, h4⟩ := findI_some (p := Y2 a n) (n := a.length) hf
    rw [ZQ hf]
    generalize Zbo (Y2 a n) a.length = v at *
    have hr := YE.get g0 (v := v) (by omega) (by omega)
    refine ⟨_, _, _, _, rfl, ?_, ?_, by omega, rows_app (rows_take g0.2) (rows_drop g0.2), Y6 g1.2 ⟨_, _, _, rfl, hr.2.1, by decide, hr.2.2.2.1, trivial⟩, g2.2, ?_⟩
    · rw [List.length_append, List.length_take, List.length_drop]; omega
    · rw [List.length_append, List.length_singleton]; omega
    · exact Nat.le_trans hr.2.1 (by decide)
  · rw [ZV hf]
    exact ⟨_, _, _, _, rfl, by omega, by omega, by omega, g0.2, g1.2, g2.2, by show (⟨#[]⟩ : ByteArray).size ≤ _; omega⟩
theorem YJ.f_of {β : Type} {k a0 f0_0 z0} (h : YJ.t k a0 f0_0 = some z0) (K : Bool → Option β) : YJ.f k a0 f0_0 K = K z0 := by unfold YJ.f; rw [h]; rfl
theorem Yg.f_of {β : Type} {k : Nat} {xs : List (List C)} {c0_0 : ByteArray} {z0 : List (List C)} (h : Yg.t k xs c0_0 = some z0) (K : (List (List C)) → Option β) : Yg.f k xs c0_0 K = K z0 := by
  unfold Yg.f
  rw [h]
theorem YP.f_of {β : Type} {k aB aA aC aG a1 a2 z0 z1 z2 z3 z4} (h : YP.t k aB aA aC aG a1 a2 = some (z0, z1, z2, z3, z4)) (K : (List (List C)) → (List (List C)) → (List (List C)) → Int → Bool → Option β) : YP.f k aB aA aC aG a1 a2 K = K z0 z1 z2 z3 z4 := by unfold YP.f; rw [h]; rfl
theorem gR_right {a b : List (List D)} {v : Int} (h : 0 ≤ v) : gR (a ++ b) (((a.length + v.toNat : Nat) : Int)) = gR b v := by
  unfold gR
  rw [Int.toNat_natCast, List.getD_eq_getElem?_getD, List.getElem?_append_right (by omega), Nat.add_sub_cancel_left, List.getD_eq_getElem?_getD]
theorem place_in {xs : List (List D)} {s : ByteArray} (h : 0 ≤ Yt xs s) : Yt xs s < xs.length := by
  obtain ⟨h1, _, h2, _⟩ := findI_some (p := fun i => Zae (gS xs (i : Int) 0) s) (n := xs.length) h
  unfold Yt at *
  omega
theorem Yae {a b c : List (List D)} {n : Int} (h : YR a b c n = true) : a.length ≤ 60 ∧ b.length ≤ 60 ∧ 0 ≤ n ∧ n ≤ 1000000 ∧ ∀ v : Int, 0 ≤ v → v < b.length → 0 ≤ gI b v 2 ∧ gI b v 2 ≤ 1000 := by
  unfold YR inB at h
  simp only [Bool.and_eq_true, decide_eq_true_eq] at h
  obtain ⟨h1, -, h2, h3, h4, h5⟩ := h
  refine ⟨by omega, by omega, h4, h5, fun v v0 v1 => ?_⟩
  unfold itemsB at h1
  rw [List.all_eq_true] at h1
  have := h1 (a.length + v.toNat) (by rw [List.mem_range, List.length_append]; omega)
  simp only [Bool.and_eq_true] at this
  have h6 := this.2.2.2.1
  unfold inB gI at h6
  rw [gR_right v0] at h6
  simpa [gI] using h6
def Y5 (c : List (List D)) (s : ByteArray) : List (List D) := c.filter fun r => !Zae (rS r 0) s
theorem strs_of {c : List (List D)} (g : ∀ r ∈ c, RS lim r) : ∃ ss : List ByteArray, c = ss.map fun s => [.str s] := by
  induction c with
  | nil => exact ⟨[], rfl⟩
  | cons r c ih =>
    obtain ⟨ss, hs⟩ := ih fun x hx => g x (by simp [hx])
    obtain ⟨s, e, -⟩ := g r (by simp)
    exact ⟨s :: ss, by rw [hs, e]; rfl⟩
theorem strsOf_map (ss : List ByteArray) : strsOf (ss.map fun s => [.d (.str s)]) = some ss := by
  induction ss with
  | nil => rfl
  | cons s ss ih => simp only [List.map_cons, strsOf, ih]; rfl
theorem delS_map {pr : ByteArray → Option Bool} {q : ByteArray → Bool} (h : ∀ s, pr s = some (q s)) (ss : List ByteArray) : delS pr ss = some (ss.filter fun s => !q s) := by
  induction ss with
  | nil => rfl
  | cons s ss ih =>
    unfold delS
    rw [h, ih, List.filter_cons]
    cases q s <;> rfl
theorem gS_map (ss : List ByteArray) {i : Nat} (h : i < ss.length) : gS (ss.map fun s => [D.str s]) (i : Int) 0 = ss[i] := by
  have := gR_at (xs := ss.map fun s => [D.str s]) (v := (i : Int)) (by omega) (by rw [List.length_map]; omega)
  rw [Int.toNat_natCast, List.getElem?_map, List.getElem?_eq_getElem h] at this
  injection this with this
  unfold gS
  rw [← this]
  rfl
set_option maxRecDepth 100000 in
theorem delFunc_fv {c : List (List D)} {s : ByteArray} (g : Zi RS lim c) {k : Nat} (hk : Z3 k) {β : Type} (K : List (List C) → Option β) : Yg.f k (c.map (·.map C.d)) s K = K ((Y5 c s).map (·.map C.d)) := by
  have hl := g.1
  have hlim : lim = 1048576 := rfl
  have hb : big = 2 ^ 64 := rfl
  have hs : ∀ {x : ByteArray}, YJ.t k x s = some (Zae x s) := fun {x} => by unfold YJ.t YJ.g; rfl
  have hsf : ∀ {x : ByteArray} {β : Type} (K : Bool → Option β), YJ.f k x s K = K (Zae x s) := fun K => YJ.f_of hs K
  have hix : Yd.t k c s = some (Zbo (fun i => Zae (gS c (i : Int) 0) s) c.length) := by
    unfold Yd.t Yd.g
    refine iter_findI (n := c.length) _ some (by unfold Z3 at hk; omega) (fun L i hi => ?_) (fun L => by simp [Yd.l0, atR, rdQ, Q.ask])
    simp (disch := omega) only [Yd.l0, atR, rdQ, Q.ask, ZQ (show (i : Int) < c.length by omega), cond_true, RS.row g, ZY, Zaj, Z6, hsf, Zj]
  refine Yg.f_of ?_ K
  unfold Yg.t delT
  obtain ⟨ss, rfl⟩ := strs_of g.2
  have hlen : (ss.map fun s => [D.str s]).length = ss.length := List.length_map ..
  rw [show (ss.map fun s => [D.str s]).map (·.map C.d) = ss.map fun s => [C.d (.str s)] from by rw [List.map_map]; rfl, strsOf_map]
  simp only [hix]
  have hd : (Y5 (ss.map fun s => [D.str s]) s).map (·.map C.d) = (ss.filter fun x => !Zae x s).map fun x => [C.d (.str x)] := by
    unfold Y5
    rw [List.filter_map, List.map_map]
    rfl
  rw [hd, hlen]
  by_cases hz : Zbo (fun i => Zae (gS (ss.map fun s => [D.str s]) (i : Int) 0) s) ss.length < 0
  · obtain ⟨h1, h2⟩ := findI_none hz
    rw [if_pos h1]
    congr 2
    symm
    rw [List.filter_eq_self]
    intro x hx
    obtain ⟨i, hi, rfl⟩ := List.mem_iff_getElem.mp hx
    have := h2 i hi
    rw [gS_map ss hi] at this
    rw [this]; rfl
  · obtain ⟨h1, h2, h3, h4⟩ := findI_some (p := fun i => Zae (gS (ss.map fun s => [D.str s]) (i : Int) 0) s) (n := ss.length) (by omega)
    generalize Zbo (fun i => Zae (gS (ss.map fun s => [D.str s]) (i : Int) 0) s) ss.length = z at *
    rw [if_neg (by omega), ZaP (by omega)]
    rw [delS_map (q := fun x => Zae x s) (fun _ => hs)]
    have h5 : ss = ss.take z.toNat ++ ss[z.toNat] :: ss.drop (z.toNat + 1) := by rw [List.getElem_cons_drop, List.take_append_drop]
    have h6 : (ss.filter fun x => !Zae x s) = ss.take z.toNat ++ (ss.drop (z.toNat + 1)).filter fun x => !Zae x s := by
      conv => lhs; rw [h5]
      rw [List.filter_append, List.filter_cons]
      have h7 : Zae ss[z.toNat] s = true := by have := h2; rwa [gS_map ss h1] at this
      rw [h7]
      simp only [Bool.not_true, Bool.false_eq_true, if_false]
      congr 1
      rw [List.filter_eq_self]
      intro x hx
      obtain ⟨i, hi, rfl⟩ := List.mem_iff_getElem.mp hx
      rw [List.length_take] at hi
      have := h4 i (by omega)
      rw [gS_map ss (by omega)] at this
      rw [List.getElem_take, this]; rfl
    simp only [h6]
noncomputable def Y1 (f : Int) : Int := if (1000 : Int) < f + 1 then 1000 else f + 1
noncomputable def Y3 (a b c : List (List D)) (n : Int) (s : ByteArray) (w : Bool) : List (List D) × List (List D) × List (List D) × Int × Bool :=
  bif YR a b c n && decide (0 ≤ Yt b s) then
    (bif (!w || YX c s) && decide ((a.length : Int) < 60) then
      (a ++ [[.str s, .int .i64 (bif w then n else n + delayN (Y1 (gI b (Yt b s) 2))), .int .i64 (bif w then 0 else Y1 (gI b (Yt b s) 2))]], b.take (Yt b s).toNat ++ b.drop ((Yt b s).toNat + 1), Y5 c s, n, true)
    else (a, b.take (Yt b s).toNat ++ b.drop ((Yt b s).toNat + 1), Y5 c s, n, true))
  else (a, b, c, n, false)
def up5 (z : List (List D) × List (List D) × List (List D) × Int × Bool) : List (List C) × List (List C) × List (List C) × Int × Bool := (z.1.map (·.map C.d), z.2.1.map (·.map C.d), z.2.2.1.map (·.map C.d), z.2.2.2)
theorem cut_row {a : List (List D)} {p : Int} {β : Type} (h0 : 0 ≤ p) (hp : p < a.length) (hl : a.length ≤ 1048576) (g : ∀ r ∈ a, YE lim r) {F : List (List C) → Option β} :
    Zc (0 ≤ (0 : Int) ∧ (0 : Int) ≤ (p : Int) ∧ (p : Int) ≤ (a.length : Int) ∧ rowsOk 3 a) (Zc (ZaZ 3 ((a.drop (Int.toNat (0 : Int))).take (Int.toNat (p : Int) - Int.toNat (0 : Int)))) (Zc (([] : List (List C)).length + (((a.drop (Int.toNat (0 : Int))).take (Int.toNat (p : Int) - Int.toNat (0 : Int))).map (·.map C.d)).length ≤ ZN) (Zc (0 ≤ (p + 1) ∧ (p + 1) ≤ (a.length : Int) ∧ (a.length : Int) ≤ (a.length : Int) ∧ rowsOk 3 a) (Zc (ZaZ 3 ((a.drop (Int.toNat (p + 1))).take (Int.toNat (a.length : Int) - Int.toNat (p + 1)))) (Zc ((([] : List (List C)) ++ (((a.drop (Int.toNat (0 : Int))).take (Int.toNat (p : Int) - Int.toNat (0 : Int))).map (·.map C.d))).length + (((a.drop (Int.toNat (p + 1))).take (Int.toNat (a.length : Int) - Int.toNat (p + 1))).map (·.map C.d)).length ≤ ZN) (F ((([] : List (List C)) ++ (((a.drop (Int.toNat (0 : Int))).take (Int.toNat (p : Int) - Int.toNat (0 : Int))).map (·.map C.d))) ++ (((a.drop (Int.toNat (p + 1))).take (Int.toNat (a.length : Int) - Int.toNat (p + 1))).map (·.map C.d)))))))))
    = F ((a.take p.toNat ++ a.drop (p.toNat + 1)).map (·.map C.d)) := by
  have hm : ZN = 2 ^ 36 := rfl
  have e1 : Int.toNat (p + 1) = p.toNat + 1 := by omega
  have e2 : (a.drop (Int.toNat (0 : Int))).take (Int.toNat (p : Int) - Int.toNat (0 : Int)) = a.take p.toNat := by simp
  have e3 : (a.drop (Int.toNat (p + 1))).take (Int.toNat (a.length : Int) - Int.toNat (p + 1)) = a.drop (p.toNat + 1) := by
    rw [e1, Int.toNat_natCast, List.take_of_length_le (by rw [List.length_drop]; omega)]
  have hok : rowsOk 3 a := fun r hr => (g r hr).len
  rw [e2, e3, ZaP ⟨by omega, by omega, by omega, hok⟩, ZaP (YE.flat (rows_take g)), ZaP (by simp only [List.length_nil, map_len, List.length_take]; omega), ZaP ⟨by omega, by omega, by omega, hok⟩, ZaP (YE.flat (rows_drop g)),
    ZaP (by simp only [List.nil_append, map_len, List.length_take, List.length_drop]; omega), List.nil_append, List.map_append]
set_option maxRecDepth 100000 in
theorem spec_Done_t {a b c : List (List D)} {n : Int} {s : ByteArray} {w : Bool} (g0 : Zi YE lim a) (g1 : Zi YE lim b) (g2 : Zi RS lim c) {k : Nat} (hk : Z3 k) : Yy.t k a b c n s w = some (up5 (Y3 a b c n s w)) := by
  have hlim : lim = 1048576 := rfl
  have hm : ZN = 2 ^ 36 := rfl
  have hb : big = 2 ^ 64 := rfl
  have l0 := g0.1
  have l1 := g1.1
  have l2 := g2.1
  unfold Yy.t Yy.g Yy.m; simp only [atR, rdQ, Q.ask]
  rw [l9Copy_fv g0 g1 g2, l9Find_fv g1.2 (by omega) hk, QueueOkF g0 g1 g2 hk]
  unfold Y3
  cases hq : YR a b c n
  · rfl
  obtain ⟨q0, q1, q2, q3, q4⟩ := Yae hq
  simp only [Bool.not_true, cond_false, Bool.true_and]
  by_cases hf : Yt b s < 0
  · rw [ZQ hf, ZV (show ¬ 0 ≤ Yt b s by omega)]
    rfl
  have h1 := place_in (xs := b) (s := s) (by omega)
  obtain ⟨f0, f1⟩ := q4 _ (by omega) h1
  rw [ZV hf, ZQ (show 0 ≤ Yt b s by omega)]
  generalize Yt b s = p at *
  simp (disch := omega) only [cond_false, cond_true, YE.row g1, ZY, Zaj, Zad, Z6, Zj]
  rw [cut_row (by omega) h1 (by omega) g1.2 (F := fun y => Zo (Yy.l0 k s w a b c n 0 n (gS b p 0) (gI b p 1) (gI b p 2) (a.map (·.map C.d)) y (fun z0 z1 z2 z3 z4 => some (z0, z1, z2, z3, z4))) k (0, ([] : List (List C))))]
  have hd := Yaf (Y1 (gI b p 2))
  have hff : 1 ≤ Y1 (gI b p 2) ∧ Y1 (gI b p 2) ≤ 1000 := by unfold Y1; split <;> omega
  refine iter_seq (f := fun j => ((j : Int), (Y5 (c.take j) s).map (·.map C.d))) (n := c.length) (by unfold Z3 at hk; omega) (fun L i hi => ?_) (fun L => ?_)
  · have e : gR c (i : Int) = [.str (gS c (i : Int) 0)] := (RS.get g2 (v := (i : Int)) (by omega) (by omega)).1
    have ht : c.take (i + 1) = c.take i ++ [gR c (i : Int)] := by
      have := gR_at (xs := c) (v := (i : Int)) (by omega) (by omega)
      rw [Int.toNat_natCast] at this
      rw [List.take_add_one, this]; rfl
    have hdl : (Y5 (c.take i) s).length ≤ i := by
      unfold Y5
      exact Nat.le_trans (List.length_filter_le _ _) (by rw [List.length_take]; omega)
    simp (disch := omega) only [Yy.l0, atR, rdQ, Q.ask, ZQ (show (i : Int) < c.length by omega), cond_true, RS.row g2, ZY, Zaj, Z6, Zj]
    have hdr : Y5 (c.take (i + 1)) s = Y5 (c.take i) s ++ (bif Zae (gS c (i : Int) 0) s then [] else [gR c (i : Int)]) := by
      unfold Y5
      rw [ht, List.filter_append]
      congr 1
      rw [List.filter_cons]
      show (if (!Zae (gS c (i : Int) 0) s) = true then _ else _) = _
      cases Zae (gS c (i : Int) 0) s <;> rfl
    rw [hdr]
    cases Zae (gS c (i : Int) 0) s
    · simp only [Bool.not_false, cond_true, cond_false]
      rw [ZaP (by simp only [map_len, List.length_singleton]; omega), e]
      simp
    · simp
  · rw [List.take_length]
    simp only [Yy.l0, atR, rdQ, Q.ask, ZV (show ¬ (c.length : Int) < c.length by omega), cond_false, l2Among_fv g2 hk]
    have hdec : (bif decide (gI b p 2 < 1000) then Yo.f k (IntKind.wrap .i64 (gI b p 2 + 1)) (fun y => Zc ((a.map (·.map C.d)).length + ([[.d (.str s), .d (.int .i64 (IntKind.wrap .i64 (n + y))), .d (.int .i64 (IntKind.wrap .i64 (gI b p 2 + 1)))]] : List (List C)).length ≤ ZN) (some ((a.map (·.map C.d)) ++ ([[.d (.str s), .d (.int .i64 (IntKind.wrap .i64 (n + y))), .d (.int .i64 (IntKind.wrap .i64 (gI b p 2 + 1)))]] : List (List C)), (b.take p.toNat ++ b.drop (p.toNat + 1)).map (·.map C.d), (Y5 c s).map (·.map C.d), n, true)))
        else Yo.f k (gI b p 2) (fun y => Zc ((a.map (·.map C.d)).length + ([[.d (.str s), .d (.int .i64 (IntKind.wrap .i64 (n + y))), .d (.int .i64 (gI b p 2))]] : List (List C)).length ≤ ZN) (some ((a.map (·.map C.d)) ++ ([[.d (.str s), .d (.int .i64 (IntKind.wrap .i64 (n + y))), .d (.int .i64 (gI b p 2))]] : List (List C)), (b.take p.toNat ++ b.drop (p.toNat + 1)).map (·.map C.d), (Y5 c s).map (·.map C.d), n, true))))
      = some (up5 (a ++ [[.str s, .int .i64 (n + delayN (Y1 (gI b p 2))), .int .i64 (Y1 (gI b p 2))]], b.take p.toNat ++ b.drop (p.toNat + 1), Y5 c s, n, true)) := by
      by_cases h : gI b p 2 < 1000
      · have hF : Y1 (gI b p 2) = gI b p 2 + 1 := by unfold Y1; rw [if_neg (by omega)]
        rw [hF] at hd hff ⊢
        rw [ZQ h, cond_true, Zj (by omega) (by omega), l9Delay_fv (by omega) (by omega) hk, Zj (by omega) (by omega), ZaP (by simp only [map_len, List.length_singleton]; omega)]
        simp [up5]
      · have hF : Y1 (gI b p 2) = gI b p 2 := by unfold Y1; rw [if_pos (by omega)]; omega
        rw [hF] at hd hff ⊢
        rw [ZV h, cond_false, l9Delay_fv (by omega) (by omega) hk, Zj (by omega) (by omega), ZaP (by simp only [map_len, List.length_singleton]; omega)]
        simp [up5]
    by_cases h60 : (a.length : Int) = 60
    · rw [show ((a.length : Int) == 60) = true from by rw [beq_iff_eq]; exact h60, ZV (show ¬ (a.length : Int) < 60 by omega)]
      cases w <;> cases YX c s <;> rfl
    · rw [show ((a.length : Int) == 60) = false from by rw [beq_eq_false_iff_ne]; exact h60, ZQ (show (a.length : Int) < 60 by omega)]
      cases w
      · exact hdec
      · cases YX c s
        · rfl
        · simp only [cond_true, Bool.not_true, cond_false, Bool.false_or, Bool.true_and]
          rw [ZaP (by simp only [map_len, List.length_singleton]; omega)]
          simp [up5]
set_option maxRecDepth 100000 in
theorem impl_Done_t {a b c : List (List D)} {n : Int} {s : ByteArray} {w : Bool} (g0 : Zi YE lim a) (g1 : Zi YE lim b) (g2 : Zi RS lim c) {k : Nat} (hk : Z3 k) : YP.t k a b c n s w = some (up5 (Y3 a b c n s w)) := by
  have hlim : lim = 1048576 := rfl
  have hm : ZN = 2 ^ 36 := rfl
  have hb : big = 2 ^ 64 := rfl
  have l0 := g0.1
  have l1 := g1.1
  have l2 := g2.1
  unfold YP.t YP.g; simp only [atR, rdQ, Q.ask]
  rw [copyQueue_fv g0 g1 g2, itemAt_fv g1.2 (by omega) hk, QueueOkI g0 g1 g2 hk]
  unfold Y3
  cases hq : YR a b c n
  · rfl
  obtain ⟨q0, q1, q2, q3, q4⟩ := Yae hq
  simp only [Bool.not_true, cond_false, Bool.true_and]
  by_cases hf : Yt b s < 0
  · rw [ZQ hf, ZV (show ¬ 0 ≤ Yt b s by omega)]
    rfl
  have h1 := place_in (xs := b) (s := s) (by omega)
  obtain ⟨f0, f1⟩ := q4 _ (by omega) h1
  rw [ZV hf, ZQ (show 0 ≤ Yt b s by omega)]
  generalize Yt b s = p at *
  have hd := Yaf (Y1 (gI b p 2))
  have hff : 1 ≤ Y1 (gI b p 2) ∧ Y1 (gI b p 2) ≤ 1000 := by unfold Y1; split <;> omega
  have hdel : ∀ {β : Type} (K : List (List C) → Option β), Yi.f k (b.map (·.map C.d)) p (p + 1) K = K ((b.take p.toNat ++ b.drop (p.toNat + 1)).map (·.map C.d)) := fun K => Yi.f_of (by
    unfold Yi.t
    rw [ZaP ⟨by omega, by omega, by rw [map_len]; omega⟩, show (p + 1).toNat = p.toNat + 1 from by omega, List.map_append, List.map_take, List.map_drop]) K
  have hF : (if (1000 : Int) < gI b p 2 + 1 then (1000 : Int) else gI b p 2 + 1) = Y1 (gI b p 2) := rfl
  have hmin : (if (6 : Int) < Y1 (gI b p 2) - 1 then (6 : Int) else Y1 (gI b p 2) - 1) = ((min (Y1 (gI b p 2) - 1).toNat 6 : Nat) : Int) := by split <;> omega
  have hpow : (if (64 : Int) < IntKind.wrap .i64 (1 * 2 ^ (min (((min (Y1 (gI b p 2) - 1).toNat 6 : Nat) : Int)).toNat 64)) then (64 : Int) else IntKind.wrap .i64 (1 * 2 ^ (min (((min (Y1 (gI b p 2) - 1).toNat 6 : Nat) : Int)).toNat 64))) = delayN (Y1 (gI b p 2)) := by
    unfold delayN
    rw [Int.toNat_natCast]
    obtain ⟨m, hm⟩ : ∃ m, m = min (Y1 (gI b p 2) - 1).toNat 6 := ⟨_, rfl⟩
    rw [← hm]
    rcases (by omega : m = 0 ∨ m = 1 ∨ m = 2 ∨ m = 3 ∨ m = 4 ∨ m = 5 ∨ m = 6) with rfl | rfl | rfl | rfl | rfl | rfl | rfl <;> decide
  simp (disch := omega) only [cond_false, cond_true, YE.row g1, ZY, Zaj, Zad, Z6, Zj, hdel, delFunc_fv g2 hk, hF, hmin, hpow, contains_fv g2 hk]
  simp only [map_len, List.length_singleton]
  cases w
  · simp only [Bool.not_false, cond_true, Bool.true_or, Bool.true_and]
    rw [ZaP (by omega)]
    cases decide ((a.length : Int) < 60)
    · rfl
    · simp only [cond_true]
      rw [ZaP (by omega)]
      simp [up5]
  · simp only [Bool.not_true, cond_false, Bool.false_or]
    cases YX c s
    · rfl
    · simp only [cond_true, Bool.true_and]
      cases decide ((a.length : Int) < 60)
      · rfl
      · simp only [cond_true]
        rw [ZaP (by omega)]
        simp [up5]
theorem doneV_back {a b c : List (List D)} {n : Int} {s : ByteArray} {w : Bool} (g0 : Zi YE lim a) (g1 : Zi YE lim b) (g2 : Zi RS lim c) (gs : s.size ≤ lim) : Yaa (up5 (Y3 a b c n s w)).1 (up5 (Y3 a b c n s w)).2.1 (up5 (Y3 a b c n s w)).2.2.1 := by
  have hlim : lim = 1048576 := rfl
  have l0 := g0.1
  have l1 := g1.1
  have l2 := g2.1
  suffices h : ∃ x0 x1 x2 z, Y3 a b c n s w = (x0, x1, x2, z) ∧ x0.length ≤ 2097152 ∧ x1.length ≤ 2097152 ∧ x2.length ≤ 2097152 ∧ (∀ r ∈ x0, YE lim r) ∧ (∀ r ∈ x1, YE lim r) ∧ ∀ r ∈ x2, RS lim r by
    obtain ⟨x0, x1, x2, z, e, h1, h2, h3, h4, h5, h6⟩ := h
    rw [e]
    exact ⟨x0, x1, x2, rfl, rfl, rfl, h1, h2, h3, h4, h5, h6⟩
  unfold Y3
  cases hq : YR a b c n
  · exact ⟨_, _, _, _, rfl, by omega, by omega, by omega, g0.2, g1.2, g2.2⟩
  obtain ⟨q0, q1, q2, q3, q4⟩ := Yae hq
  by_cases hf : Yt b s < 0
  · rw [ZV (show ¬ 0 ≤ Yt b s by omega)]
    exact ⟨_, _, _, _, rfl, by omega, by omega, by omega, g0.2, g1.2, g2.2⟩
  have h1 := place_in (xs := b) (s := s) (by omega)
  obtain ⟨f0, f1⟩ := q4 _ (by omega) h1
  rw [ZQ (show 0 ≤ Yt b s by omega)]
  generalize Yt b s = p at *
  have hd := Yaf (Y1 (gI b p 2))
  have hff : 1 ≤ Y1 (gI b p 2) ∧ Y1 (gI b p 2) ≤ 1000 := by unfold Y1; split <;> omega
  have hb' : ∀ r ∈ b.take p.toNat ++ b.drop (p.toNat + 1), YE lim r := rows_app (rows_take g1.2) (rows_drop g1.2)
  have hbl : (b.take p.toNat ++ b.drop (p.toNat + 1)).length ≤ 2097152 := by rw [List.length_append, List.length_take, List.length_drop]; omega
  have hc' : ∀ r ∈ Y5 c s, RS lim r := fun r hr => g2.2 r ((List.mem_filter.mp hr).1)
  have hcl : (Y5 c s).length ≤ 2097152 := by have := List.length_filter_le (fun r => !Zae (rS r 0) s) c; unfold Y5; omega
  have hwf : ∀ x : Int, 0 ≤ x → x ≤ 1000064 → (Lit.int .i64 x).wf = true := fun x h0 h1 => by
    simp [Lit.wf, IntKind.min, IntKind.max, IntKind.signed, IntKind.bits]
    omega
  cases (!w || YX c s) && decide ((a.length : Int) < 60)
  · exact ⟨_, _, _, _, rfl, by omega, hbl, hcl, g0.2, hb', hc'⟩
  · refine ⟨_, _, _, _, rfl, ?_, hbl, hcl, Y6 g0.2 ⟨_, _, _, rfl, gs, ?_, ?_, trivial⟩, hb', hc'⟩
    · rw [List.length_append, List.length_singleton]; omega
    · cases w
      · exact hwf _ (by simp only [cond_false]; omega) (by simp only [cond_false]; omega)
      · exact hwf _ (by simp only [cond_true]; omega) (by simp only [cond_true]; omega)
    · cases w
      · exact hwf _ (by simp only [cond_false]; omega) (by simp only [cond_false]; omega)
      · exact hwf _ (by simp) (by simp)
theorem Yai {a b : ByteArray} : Zae a b = true ↔ a = b := by
  unfold Zae
  rw [beq_iff_eq]
  refine ⟨fun h => ?_, fun h => by rw [h]⟩
  have e : ∀ x : ByteArray, x.toList = x.data.toList := fun x => Go.Lib.toList_data x
  rw [e, e] at h
  exact ByteArray.ext (Array.toList_inj.mp h)
def nm (xs : List (List D)) : List ByteArray := xs.map (rS · 0)
theorem nm_len (xs : List (List D)) : (nm xs).length = xs.length := List.length_map _
theorem YY (xs ys : List (List D)) : nm (xs ++ ys) = nm xs ++ nm ys := List.map_append ..
theorem gR_get {xs : List (List D)} {i : Nat} (h : i < xs.length) : gR xs (i : Int) = xs[i] := by
  unfold gR
  rw [Int.toNat_natCast, List.getD_eq_getElem?_getD, List.getElem?_eq_getElem h]
  rfl
theorem gS_get {xs : List (List D)} {i : Nat} (h : i < xs.length) (j : Nat) : gS xs (i : Int) j = rS xs[i] j := by unfold gS rS; rw [gR_get h]
theorem gI_get {xs : List (List D)} {i : Nat} (h : i < xs.length) (j : Nat) : gI xs (i : Int) j = rI xs[i] j := by unfold gI rI; rw [gR_get h]
theorem nm_get {xs : List (List D)} {i : Nat} (h : i < xs.length) : (nm xs)[i]'(by rw [nm_len]; exact h) = gS xs (i : Int) 0 := by rw [gS_get h]; simp [nm]
theorem nm_mem {xs : List (List D)} {s : ByteArray} : s ∈ nm xs ↔ ∃ i, ∃ h : i < xs.length, gS xs (i : Int) 0 = s := by
  rw [List.mem_iff_getElem]
  constructor
  · rintro ⟨i, h, e⟩
    have hi : i < xs.length := by rwa [nm_len] at h
    exact ⟨i, hi, by rw [← e, nm_get hi]⟩
  · rintro ⟨i, h, e⟩
    exact ⟨i, by rw [nm_len]; exact h, by rw [nm_get h, e]⟩
theorem Y7 {xs : List (List D)} {s : ByteArray} : 0 ≤ Yt xs s ↔ s ∈ nm xs := by
  unfold Yt
  constructor
  · intro h
    obtain ⟨h1, h2, -, -⟩ := findI_some h
    exact nm_mem.mpr ⟨_, h1, Yai.mp h2⟩
  · intro h
    obtain ⟨i, hi, e⟩ := nm_mem.mp h
    by_cases hn : Zbo (fun i => Zae (gS xs (i : Int) 0) s) xs.length < 0
    · have := (findI_none hn).2 i hi
      rw [e, Zu] at this
      cases this
    · omega
theorem place_at {xs : List (List D)} {s : ByteArray} (h : s ∈ nm xs) : ∃ i, ∃ hi : i < xs.length, Yt xs s = (i : Int) ∧ gS xs (i : Int) 0 = s ∧ ∀ j, j < i → gS xs (j : Int) 0 ≠ s := by
  have h0 := Y7.mpr h
  obtain ⟨h1, h2, h3, h4⟩ := findI_some (p := fun i => Zae (gS xs (i : Int) 0) s) (n := xs.length) h0
  exact ⟨_, h1, h3.symm, Yai.mp h2, fun j hj e => by have := h4 j hj; rw [e, Zu] at this; cases this⟩
theorem nodup_place {xs : List (List D)} : (nm xs).Nodup ↔ ∀ i, i < xs.length → Yt xs (gS xs (i : Int) 0) = (i : Int) := by
  unfold List.Nodup
  rw [List.pairwise_iff_getElem]
  constructor
  · intro h i hi
    obtain ⟨j, hj, e1, e2, e3⟩ := place_at (s := gS xs (i : Int) 0) (nm_mem.mpr ⟨i, hi, rfl⟩)
    rw [e1]
    rcases Nat.lt_trichotomy i j with q | q | q
    · exact absurd rfl (e3 i q)
    · rw [q]
    · exact absurd (by rw [nm_get hj, nm_get hi, e2]) (h j i (by rw [nm_len]; exact hj) (by rw [nm_len]; exact hi) q)
  · intro h i j hi hj hij e
    rw [nm_len] at hi hj
    rw [nm_get hi, nm_get hj] at e
    have h1 := h i hi
    have h2 := h j hj
    rw [e, h2] at h1
    omega
theorem before_iff {c : List (List D)} : (nm c).Nodup ↔ ∀ i, i < c.length → Yab c i = true := by
  unfold List.Nodup
  rw [List.pairwise_iff_getElem]
  constructor
  · intro h i hi
    unfold Yab
    rw [List.all_eq_true]
    intro j hj
    have hj := List.mem_range.mp hj
    have := h j i (by rw [nm_len]; omega) (by rw [nm_len]; exact hi) hj
    rw [nm_get (by omega), nm_get hi] at this
    cases hs : Zae (gS c (j : Int) 0) (gS c (i : Int) 0) with
    | false => rfl
    | true => exact absurd (Yai.mp hs) this
  · intro h i j hi hj hij e
    rw [nm_len] at hi hj
    rw [nm_get hi, nm_get hj] at e
    have := h j hj
    unfold Yab at this
    rw [List.all_eq_true] at this
    have := this i (List.mem_range.mpr hij)
    rw [e, Zu] at this
    cases this
structure QOk (a b c : List (List D)) (n : Int) : Prop where
  names : (nm (a ++ b)).Nodup
  item : ∀ r ∈ a ++ b, Yj.v (rS r 0) = true ∧ 0 ≤ rI r 1 ∧ rI r 1 ≤ 1000064 ∧ 0 ≤ rI r 2 ∧ rI r 2 ≤ 1000
  doing : ∀ r ∈ b, rI r 1 = 0
  again : (nm c).Nodup
  held : ∀ s ∈ nm c, s ∈ nm b
  la : a.length ≤ 60
  lb : b.length ≤ 60
  n0 : 0 ≤ n
  n1 : n ≤ 1000000
theorem all_get {xs : List (List D)} {p : List D → Prop} : (∀ r ∈ xs, p r) ↔ ∀ i, ∀ h : i < xs.length, p xs[i] := by
  constructor
  · exact fun h i hi => h _ (List.getElem_mem hi)
  · intro h r hr
    obtain ⟨i, hi, rfl⟩ := List.mem_iff_getElem.mp hr
    exact h i hi
theorem Y8 {a b c : List (List D)} {n : Int} : YR a b c n = true ↔ QOk a b c n := by
  unfold YR itemsB againB inB
  simp only [Bool.and_eq_true, List.all_eq_true, List.mem_range, decide_eq_true_eq, Bool.or_eq_true, Bool.not_eq_true', decide_eq_false_iff_not, beq_iff_eq]
  constructor
  · rintro ⟨h1, h2, h3, h4, h5, h6⟩
    refine ⟨nodup_place.mpr fun i hi => (h1 i hi).2.1, all_get.mpr fun i hi => ?_, all_get.mpr fun i hi => ?_, before_iff.mpr fun i hi => (h2 i hi).2, fun s hs => ?_, by omega, by omega, h5, h6⟩
    · have := h1 i hi
      rw [gS_get hi, gI_get hi, gI_get hi] at this
      exact ⟨this.1, this.2.2.1.1, this.2.2.1.2, this.2.2.2.1⟩
    · have hi' : a.length + i < (a ++ b).length := by rw [List.length_append]; omega
      have := (h1 (a.length + i) hi').2.2.2.2
      rw [gI_get hi', List.getElem_append_right (by omega)] at this
      rcases this with q | q
      · omega
      · simpa using q
    · obtain ⟨i, hi, e⟩ := nm_mem.mp hs
      have := (h2 i hi).1
      rw [e] at this
      exact Y7.mp (by omega)
  · rintro ⟨h1, h2, h3, h4, h5, h6, h7, h8, h9⟩
    refine ⟨fun i hi => ?_, fun i hi => ⟨?_, before_iff.mp h4 i hi⟩, by omega, by omega, h8, h9⟩
    · have q := all_get.mp h2 i hi
      rw [nodup_place.mp h1 i hi, gS_get hi, gI_get hi, gI_get hi]
      refine ⟨q.1, rfl, ⟨q.2.1, q.2.2.1⟩, q.2.2.2, ?_⟩
      by_cases hn : i < a.length
      · exact .inl (by omega)
      · right
        rw [List.getElem_append_right (by omega)]
        exact h3 _ (List.getElem_mem _)
    · have := Y7.mpr (h5 _ (nm_mem.mpr ⟨i, hi, rfl⟩))
      omega
theorem cut_perm {a : List (List D)} {p : Nat} (h : p < a.length) : (a[p] :: (a.take p ++ a.drop (p + 1))).Perm a := by
  have e : a = a.take p ++ (a[p] :: a.drop (p + 1)) := by rw [List.getElem_cons_drop, List.take_append_drop]
  exact (List.perm_middle.symm.trans (.of_eq e.symm))
theorem cut_mem {a : List (List D)} {p : Nat} {r : List D} (h : r ∈ a.take p ++ a.drop (p + 1)) : r ∈ a := by
  rcases List.mem_append.mp h with q | q
  · exact List.mem_of_mem_take q
  · exact List.mem_of_mem_drop q
theorem cut_len {a : List (List D)} {p : Nat} (h : p < a.length) : (a.take p ++ a.drop (p + 1)).length + 1 = a.length := by
  rw [List.length_append, List.length_take, List.length_drop]; omega
def it (s : ByteArray) (x y : Int) : List D := [.str s, .int .i64 x, .int .i64 y]
theorem it_S (s : ByteArray) (x y : Int) : rS (it s x y) 0 = s := rfl
theorem it_1 (s : ByteArray) (x y : Int) : rI (it s x y) 1 = x := rfl
theorem it_2 (s : ByteArray) (x y : Int) : rI (it s x y) 2 = y := rfl
theorem QOk.take {a b c : List (List D)} {n : Int} (h : QOk a b c n) {p : Nat} (hp : p < a.length) (hb : b.length < 60) : QOk (a.take p ++ a.drop (p + 1)) (b ++ [it (rS a[p] 0) 0 (rI a[p] 2)]) c n := by
  have hl := cut_len hp
  have hla := h.la
  have hmem : ∀ r ∈ (a.take p ++ a.drop (p + 1)) ++ (b ++ [it (rS a[p] 0) 0 (rI a[p] 2)]), r ∈ a ++ b ∨ r = it (rS a[p] 0) 0 (rI a[p] 2) := by
    intro r hr
    rcases List.mem_append.mp hr with q | q
    · exact .inl (List.mem_append_left _ (cut_mem q))
    · rcases List.mem_append.mp q with q | q
      · exact .inl (List.mem_append_right _ q)
      · simp at q; exact .inr q
  refine ⟨?_, fun r hr => ?_, fun r hr => ?_, h.again, fun s hs => ?_, by omega, by rw [List.length_append, List.length_singleton]; omega, h.n0, h.n1⟩
  · have hperm : (nm ((a.take p ++ a.drop (p + 1)) ++ (b ++ [it (rS a[p] 0) 0 (rI a[p] 2)]))).Perm (nm (a ++ b)) := by
      rw [YY, YY, YY b]
      have e : nm [it (rS a[p] 0) 0 (rI a[p] 2)] = nm [a[p]] := rfl
      rw [e, ← List.append_assoc]
      refine (List.perm_append_comm).trans ?_
      rw [← List.append_assoc]
      rw [YY a b, ← YY (a.take p)]
      exact List.Perm.append_right _ (show (nm (a[p] :: (a.take p ++ a.drop (p + 1)))).Perm (nm a) from (cut_perm hp).map (rS · 0))
    exact hperm.nodup_iff.mpr h.names
  · rcases hmem r hr with q | rfl
    · exact h.item r q
    · have := h.item a[p] (List.mem_append_left _ (List.getElem_mem hp))
      rw [it_S, it_1, it_2]
      exact ⟨this.1, by omega, by omega, this.2.2.2⟩
  · rcases List.mem_append.mp hr with q | q
    · exact h.doing r q
    · simp at q; subst q; rfl
  · rw [YY]
    exact List.mem_append_left _ (h.held s hs)
theorem nm_dropS {c : List (List D)} {s x : ByteArray} : x ∈ nm (Y5 c s) ↔ x ∈ nm c ∧ x ≠ s := by
  unfold nm Y5
  simp only [List.mem_map, List.mem_filter, Bool.not_eq_true']
  constructor
  · rintro ⟨r, ⟨h1, h2⟩, rfl⟩
    exact ⟨⟨r, h1, rfl⟩, fun e => by rw [e, Zu] at h2; cases h2⟩
  · rintro ⟨⟨r, h1, rfl⟩, h2⟩
    refine ⟨r, ⟨h1, ?_⟩, rfl⟩
    cases hs : Zae (rS r 0) s with
    | false => rfl
    | true => exact absurd (Yai.mp hs) h2
theorem QOk.drop {a b c : List (List D)} {n : Int} (h : QOk a b c n) {p : Nat} (hp : p < b.length) : QOk a (b.take p ++ b.drop (p + 1)) (Y5 c (rS b[p] 0)) n := by
  have hl := cut_len hp
  have hlb := h.lb
  have hsub : (nm (a ++ (b.take p ++ b.drop (p + 1)))).Sublist (nm (a ++ b)) := by
    refine List.Sublist.map _ (List.Sublist.append_left ?_ _)
    have e : b = b.take p ++ b.drop p := (List.take_append_drop p b).symm
    conv => rhs; rw [e]
    exact List.Sublist.append_left (List.drop_sublist_drop_left _ (by omega)) _
  refine ⟨hsub.nodup h.names, fun r hr => h.item r ?_, fun r hr => h.doing r (cut_mem hr), (List.Sublist.map _ List.filter_sublist).nodup h.again, fun s hs => ?_, h.la, by omega, h.n0, h.n1⟩
  · rcases List.mem_append.mp hr with q | q
    · exact List.mem_append_left _ q
    · exact List.mem_append_right _ (cut_mem q)
  · obtain ⟨h1, h2⟩ := nm_dropS.mp hs
    have h3 := ((cut_perm hp).map (rS · 0)).mem_iff.mpr (h.held s h1)
    rw [List.map_cons, List.mem_cons] at h3
    exact h3.resolve_left h2
theorem QOk.more {a b c : List (List D)} {n : Int} (h : QOk a b c n) {s : ByteArray} {x y : Int} (hs : s ∉ nm (a ++ b)) (hn : Yj.v s = true) (x0 : 0 ≤ x) (x1 : x ≤ 1000064) (y0 : 0 ≤ y) (y1 : y ≤ 1000) (hl : a.length < 60) : QOk (a ++ [it s x y]) b c n := by
  refine ⟨?_, fun r hr => ?_, h.doing, h.again, h.held, by rw [List.length_append, List.length_singleton]; omega, h.lb, h.n0, h.n1⟩
  · have hperm : (nm ((a ++ [it s x y]) ++ b)).Perm (s :: nm (a ++ b)) := by
      rw [YY, YY, YY, List.append_assoc]
      exact List.perm_middle
    exact hperm.nodup_iff.mpr (List.nodup_cons.mpr ⟨hs, h.names⟩)
  · rcases List.mem_append.mp hr with q | q
    · rcases List.mem_append.mp q with q | q
      · exact h.item r (List.mem_append_left _ q)
      · simp at q; subst q
        rw [it_S, it_1, it_2]
        exact ⟨hn, x0, x1, y0, y1⟩
    · exact h.item r (List.mem_append_right _ q)
theorem QOk.gone {a b c : List (List D)} {n : Int} (h : QOk a b c n) {p : Nat} (hp : p < b.length) : rS b[p] 0 ∉ nm (a ++ (b.take p ++ b.drop (p + 1))) := by
  have hperm : (nm (a ++ b)).Perm (rS b[p] 0 :: nm (a ++ (b.take p ++ b.drop (p + 1)))) := by
    rw [YY, YY]
    refine List.Perm.trans (List.Perm.append_left _ ((cut_perm hp).symm.map (rS · 0))) ?_
    rw [List.map_cons]
    exact List.perm_middle
  exact (List.nodup_cons.mp (hperm.nodup_iff.mp h.names)).1
structure QSz (m : Nat) (a b c : List (List D)) (n : Int) : Prop where
  ga : ∀ r ∈ a, YE lim r
  gb : ∀ r ∈ b, YE lim r
  gc : ∀ r ∈ c, RS lim r
  la : a.length ≤ m
  lb : b.length ≤ m
  lc : c.length ≤ m
  n0 : -1000 ≤ n
  n1 : n ≤ 2000000
def QFl (m : Nat) (a b : List (List D)) : Prop := ∀ r ∈ a ++ b, rI r 2 ≤ m
theorem wf_of {x : Int} (h0 : -9223372036854775808 ≤ x) (h1 : x ≤ 9223372036854775807) : (Lit.int .i64 x).wf = true := by
  simp [Lit.wf, IntKind.min, IntKind.max, IntKind.signed, IntKind.bits]
  omega
theorem QSz.sl {m : Nat} {a b c : List (List D)} {n : Int} (h : QSz m a b c n) (hm : m ≤ 1000000) : Zi YE lim a ∧ Zi YE lim b ∧ Zi RS lim c := by
  have hlim : lim = 1048576 := rfl
  have := h.la; have := h.lb; have := h.lc
  exact ⟨⟨by omega, h.ga⟩, ⟨by omega, h.gb⟩, ⟨by omega, h.gc⟩⟩
theorem QSz.up {m m' : Nat} {a b c : List (List D)} {n : Int} (h : QSz m a b c n) (hm : m ≤ m') : QSz m' a b c n := by
  have := h.la; have := h.lb; have := h.lc
  exact ⟨h.ga, h.gb, h.gc, by omega, by omega, by omega, h.n0, h.n1⟩
theorem QFl.up {m m' : Nat} {a b : List (List D)} (h : QFl m a b) (hm : m ≤ m') : QFl m' a b := fun r hr => by have := h r hr; omega
theorem put_sz {m : Nat} {a b c : List (List D)} {n : Int} {s : ByteArray} (h : QSz m a b c n) (gs : s.size ≤ lim) : QSz (m + 1) (putV a b c n s).1 (putV a b c n s).2.1 (putV a b c n s).2.2.1 (putV a b c n s).2.2.2.1 ∧ (QFl m a b → QFl (m + 1) (putV a b c n s).1 (putV a b c n s).2.1) := by
  have u := h.up (Nat.le_succ m)
  have hla := h.la; have hlb := h.lb; have hlc := h.lc
  unfold putV
  cases YR a b c n
  · exact ⟨u, fun q => q.up (by omega)⟩
  cases Yj.v s
  · exact ⟨u, fun q => q.up (by omega)⟩
  simp only [Bool.not_true, cond_false]
  cases decide (Yt b s ≥ 0)
  · simp only [cond_false]
    cases decide (Yt a s ≥ 0)
    · simp only [cond_false]
      cases (a.length : Int) == 60
      · simp only [cond_false]
        refine ⟨⟨Y6 h.ga ⟨_, _, _, rfl, gs, wf_of (by have := h.n0; omega) (by have := h.n1; omega), by decide, trivial⟩, h.gb, h.gc, by rw [List.length_append, List.length_singleton]; omega, by omega, by omega, h.n0, h.n1⟩, fun q r hr => ?_⟩
        rcases List.mem_append.mp hr with z | z
        · rcases List.mem_append.mp z with z | z
          · have := q r (List.mem_append_left _ z); omega
          · simp at z; subst z; simp [rI, dI]; omega
        · have := q r (List.mem_append_right _ z); omega
      · exact ⟨u, fun q => q.up (by omega)⟩
    · simp only [cond_true]
      cases decide (gI a (Yt a s) 1 > n)
      · exact ⟨u, fun q => q.up (by omega)⟩
      · simp only [cond_true]
        have key : ∀ r ∈ YZ a (Yt a s).toNat n, YE lim r ∧ ∃ r' ∈ a, rI r 2 = rI r' 2 := by
          have gen : ∀ (xs : List (List D)) (j : Nat), (∀ r ∈ xs, YE lim r) → ∀ r ∈ YZ xs j n, YE lim r ∧ ∃ r' ∈ xs, rI r 2 = rI r' 2 := by
            intro xs
            induction xs with
            | nil => intro j _ r hr; simp [YZ] at hr
            | cons x xs ih =>
              intro j hx r hr
              cases j with
              | zero =>
                simp only [YZ, List.modify_zero_cons] at hr
                rcases List.mem_cons.mp hr with rfl | hr
                · obtain ⟨c0, c1, c2, rfl, k0, k1, k2, _⟩ := hx x (by simp)
                  exact ⟨⟨c0, n, c2, rfl, k0, wf_of (by have := h.n0; omega) (by have := h.n1; omega), k2, trivial⟩, _, List.mem_cons_self, rfl⟩
                · exact ⟨hx r (by simp [hr]), r, by simp [hr], rfl⟩
              | succ j =>
                simp only [YZ, List.modify_succ_cons] at hr
                rcases List.mem_cons.mp hr with rfl | hr
                · exact ⟨hx r (by simp), r, by simp, rfl⟩
                · obtain ⟨q1, r', q2, q3⟩ := ih j (fun r hr => hx r (by simp [hr])) r hr
                  exact ⟨q1, r', by simp [q2], q3⟩
          exact gen a _ h.ga
        refine ⟨⟨fun r hr => (key r hr).1, h.gb, h.gc, by simp [YZ]; omega, by omega, by omega, h.n0, h.n1⟩, fun q r hr => ?_⟩
        rcases List.mem_append.mp hr with z | z
        · obtain ⟨-, r', q2, q3⟩ := key r z
          have := q r' (List.mem_append_left _ q2); omega
        · have := q r (List.mem_append_right _ z); omega
  · simp only [cond_true]
    cases YX c s
    · simp only [Bool.not_false, cond_true]
      exact ⟨⟨h.ga, h.gb, Y6 h.gc ⟨_, rfl, gs, trivial⟩, by omega, by omega, by rw [List.length_append, List.length_singleton]; omega, h.n0, h.n1⟩, fun q => q.up (by omega)⟩
    · exact ⟨u, fun q => q.up (by omega)⟩
theorem take_sz {m : Nat} {a b c : List (List D)} {n : Int} (h : QSz m a b c n) : QSz (m + 1) (Y0 a b c n).1 (Y0 a b c n).2.1 (Y0 a b c n).2.2.1 (Y0 a b c n).2.2.2.1 ∧ (QFl m a b → QFl (m + 1) (Y0 a b c n).1 (Y0 a b c n).2.1) := by
  have u := h.up (Nat.le_succ m)
  have hla := h.la; have hlb := h.lb; have hlc := h.lc
  unfold Y0
  cases YR a b c n && decide ((b.length : Int) < 60)
  · exact ⟨u, fun q => q.up (by omega)⟩
  by_cases hf : 0 ≤ Zbo (Y2 a n) a.length
  · obtain ⟨h1, h2, h3, h4⟩ := findI_some (p := Y2 a n) (n := a.length) hf
    rw [ZQ hf]
    generalize Zbo (Y2 a n) a.length = v at *
    have hr := YE.gets h.ga (v := v) (by omega) (by omega)
    have hm : gR a v ∈ a := gR_mem (by omega) (by omega)
    simp only [cond_true]
    refine ⟨⟨rows_app (rows_take h.ga) (rows_drop h.ga), Y6 h.gb ⟨_, _, _, rfl, hr.2.1, by decide, hr.2.2.2.1, trivial⟩, h.gc, ?_, ?_, by omega, h.n0, h.n1⟩, fun q r hr => ?_⟩
    · rw [List.length_append, List.length_take, List.length_drop]; omega
    · rw [List.length_append, List.length_singleton]; omega
    · rcases List.mem_append.mp hr with z | z
      · have := q r (List.mem_append_left _ (cut_mem z)); omega
      · rcases List.mem_append.mp z with z | z
        · have := q r (List.mem_append_right _ z); omega
        · simp at z
          subst z
          have := q _ (List.mem_append_left _ hm)
          show rI [_, _, .int .i64 (gI a v 2)] 2 ≤ _
          unfold rI at *
          unfold gI
          simp [dI] at *
          omega
  · rw [ZV hf]
    exact ⟨u, fun q => q.up (by omega)⟩
theorem pass_sz {m : Nat} {a b c : List (List D)} {n x : Int} {q : Bool} (h : QSz m a b c n) : QSz (m + 1) a b c (passB q n x) := by
  have u := h.up (Nat.le_succ m)
  have h0 := h.n0; have h1 := h.n1
  have : -1000 ≤ passB q n x ∧ passB q n x ≤ 2000000 := by
    unfold passB
    cases q
    · exact ⟨h0, h1⟩
    · by_cases g1 : x > n
      · by_cases g2 : x ≤ 1000000
        · simp only [ZQ g1, ZQ g2, Bool.and_self, cond_true]; omega
        · simp only [ZV g2, Bool.and_false, cond_false]; omega
      · simp only [ZV g1, Bool.false_and, Bool.and_false, cond_false]; omega
  exact ⟨u.ga, u.gb, u.gc, u.la, u.lb, u.lc, this.1, this.2⟩
theorem done_sz {m : Nat} {a b c : List (List D)} {n : Int} {s : ByteArray} {w : Bool} (h : QSz m a b c n) (gs : s.size ≤ lim) (hm : m ≤ 1000000) : QSz (m + 1) (Y3 a b c n s w).1 (Y3 a b c n s w).2.1 (Y3 a b c n s w).2.2.1 (Y3 a b c n s w).2.2.2.1 ∧ (QFl m a b → QFl (m + 1) (Y3 a b c n s w).1 (Y3 a b c n s w).2.1) := by
  have u := h.up (Nat.le_succ m)
  have hla := h.la; have hlb := h.lb; have hlc := h.lc
  unfold Y3
  cases hq : YR a b c n
  · exact ⟨u, fun q => q.up (by omega)⟩
  obtain ⟨q0, q1, q2, q3, q4⟩ := Yae hq
  by_cases hf : Yt b s < 0
  · rw [ZV (show ¬ 0 ≤ Yt b s by omega)]
    exact ⟨u, fun q => q.up (by omega)⟩
  have h1 := place_in (xs := b) (s := s) (by omega)
  obtain ⟨f0, f1⟩ := q4 _ (by omega) h1
  rw [ZQ (show 0 ≤ Yt b s by omega)]
  generalize Yt b s = p at *
  have hd := Yaf (Y1 (gI b p 2))
  have hff : 1 ≤ Y1 (gI b p 2) ∧ Y1 (gI b p 2) ≤ 1000 ∧ Y1 (gI b p 2) ≤ gI b p 2 + 1 := by unfold Y1; split <;> omega
  have hb' : ∀ r ∈ b.take p.toNat ++ b.drop (p.toNat + 1), YE lim r := rows_app (rows_take h.gb) (rows_drop h.gb)
  have hbl : (b.take p.toNat ++ b.drop (p.toNat + 1)).length ≤ m + 1 := by rw [List.length_append, List.length_take, List.length_drop]; omega
  have hc' : ∀ r ∈ Y5 c s, RS lim r := fun r hr => h.gc r ((List.mem_filter.mp hr).1)
  have hcl : (Y5 c s).length ≤ m + 1 := by have := List.length_filter_le (fun r => !Zae (rS r 0) s) c; unfold Y5; omega
  have hpm : gR b p ∈ b := gR_mem (by omega) (by omega)
  simp only [Bool.and_self, cond_true]
  cases (!w || YX c s) && decide ((a.length : Int) < 60)
  · refine ⟨⟨h.ga, hb', hc', by show a.length ≤ _; omega, hbl, hcl, h.n0, h.n1⟩, fun q r hr => ?_⟩
    rcases List.mem_append.mp hr with z | z
    · have := q r (List.mem_append_left _ z); omega
    · have := q r (List.mem_append_right _ (cut_mem z)); omega
  · simp only [cond_true]
    refine ⟨⟨Y6 h.ga ⟨_, _, _, rfl, gs, ?_, ?_, trivial⟩, hb', hc', by rw [List.length_append, List.length_singleton]; omega, hbl, hcl, h.n0, h.n1⟩, fun q r hr => ?_⟩
    · cases w
      · exact wf_of (by simp only [cond_false]; omega) (by simp only [cond_false]; omega)
      · exact wf_of (by simp only [cond_true]; omega) (by simp only [cond_true]; omega)
    · cases w
      · exact wf_of (by simp only [cond_false]; omega) (by simp only [cond_false]; omega)
      · exact wf_of (by simp) (by simp)
    · rcases List.mem_append.mp hr with z | z
      · rcases List.mem_append.mp z with z | z
        · have := q r (List.mem_append_left _ z); omega
        · simp at z
          subst z
          have q5 := q _ (List.mem_append_right _ hpm)
          have e : rI (gR b p) 2 = gI b p 2 := rfl
          show rI [_, _, .int .i64 (bif w then 0 else Y1 (gI b p 2))] 2 ≤ _
          have e2 : ∀ x : Int, rI [.str s, .int .i64 (bif w then n else n + delayN (Y1 (gI b p 2))), .int .i64 x] 2 = x := fun _ => rfl
          rw [e2]
          cases w
          · simp only [cond_false]; omega
          · simp only [cond_true]; omega
      · have := q r (List.mem_append_right _ (cut_mem z)); omega
set_option maxRecDepth 100000 in
set_option maxHeartbeats 4000000 in
theorem l9Loop {k : Nat} (hk : Z3 k) {β : Type} (K : List (List C) → List (List C) → List (List C) → Int → List (List D) → Int → Int → Option β) {bb : List (List D)} (T : Nat) (hT : T ≤ 1000000) : ∀ (m cnt : Nat), cnt + m ≤ T → ∀ fuel, m < fuel → ∀ (n i h : Int) (a b c : List (List D)), Cur bb i → QSz cnt a b c n → QFl cnt a b →
    ∃ a' b' c' n' i' h', Cur bb i' ∧ QSz T a' b' c' n' ∧ QFl T a' b' ∧ Zo (Yw.l0 k 0 K) fuel ((m : Int), bb, i, h, n, a.map (·.map C.d), b.map (·.map C.d), c.map (·.map C.d)) = K (a'.map (·.map C.d)) (b'.map (·.map C.d)) (c'.map (·.map C.d)) n' bb i' h' := by
  intro m
  induction m with
  | zero =>
    intro cnt hcnt fuel hf n i h a b c hc hq hfl
    rw [iter_step (by omega)]
    simp only [Yw.l0, ZV (show ¬ ((0 : Nat) : Int) > 0 by omega), cond_false]
    exact ⟨a, b, c, n, i, h, hc, hq.up (by omega), hfl.up (by omega), rfl⟩
  | succ m ih =>
    intro cnt hcnt fuel hf n i h a b c hc hq hfl
    have next : ∀ (n i h : Int) (a b c : List (List D)), Cur bb i → QSz (cnt + 1) a b c n → QFl (cnt + 1) a b → ∃ a' b' c' n' i' h', Cur bb i' ∧ QSz T a' b' c' n' ∧ QFl T a' b' ∧ Zo (Yw.l0 k 0 K) (fuel - 1) ((m : Int), bb, i, h, n, a.map (·.map C.d), b.map (·.map C.d), c.map (·.map C.d)) = K (a'.map (·.map C.d)) (b'.map (·.map C.d)) (c'.map (·.map C.d)) n' bb i' h' := fun n i h a b c hc hq hfl => ih (cnt + 1) (by omega) (fuel - 1) (by omega) n i h a b c hc hq hfl
    have hw : IntKind.wrap .i64 (((m + 1 : Nat) : Int) - 1) = (m : Int) := by rw [Zj (by omega) (by omega)]; omega
    obtain ⟨g0, g1, g2⟩ := hq.sl (by omega)
    have hlim : lim = 1048576 := rfl
    have hstr : ∀ r ∈ ([[.str (⟨#[97]⟩ : ByteArray)], [.str (⟨#[98]⟩ : ByteArray)], [.str (⟨#[99]⟩ : ByteArray)], [.str (⟨#[100]⟩ : ByteArray)], [.str (⟨#[101]⟩ : ByteArray)]] : List (List D)), RS lim r := by
      intro r hr
      simp only [List.mem_cons, List.not_mem_nil, or_false] at hr
      rcases hr with rfl | rfl | rfl | rfl | rfl <;> exact ⟨_, rfl, by decide, trivial⟩
    rw [iter_step (by omega)]
    obtain ⟨j, i1, h1, j0, j1, hc1, e1⟩ := str_ex (k := k) (h := h) hc hstr (by decide)
    have gs := (RS.gets hstr j0 j1).2.1
    generalize hss : gS ([[.str (⟨#[97]⟩ : ByteArray)], [.str (⟨#[98]⟩ : ByteArray)], [.str (⟨#[99]⟩ : ByteArray)], [.str (⟨#[100]⟩ : ByteArray)], [.str (⟨#[101]⟩ : ByteArray)]] : List (List D)) j 0 = s at gs e1
    obtain ⟨x, i2, h2, x0, x1, -, hc2, e2⟩ := Yac (k := k) (h := h1) (n := 6) hc1
    simp only [Yw.l0, ZQ (show ((m + 1 : Nat) : Int) > 0 by omega), cond_true, YL.f_of e1, Yp.f_of e2, hw, imm_rows]
    have hP : ∀ (K : List (List C) → List (List C) → List (List C) → Int → Bool → Option β), YT.f k a b c n s K = K ((putV a b c n s).1.map (·.map C.d)) ((putV a b c n s).2.1.map (·.map C.d)) ((putV a b c n s).2.2.1.map (·.map C.d)) (putV a b c n s).2.2.2.1 (putV a b c n s).2.2.2.2 := fun K => YT.f_of (spec_Put_t g0 g1 g2 gs hk) K
    have hTk : ∀ (K : List (List C) → List (List C) → List (List C) → Int → ByteArray → Bool → Option β), YB.f k a b c n K = K ((Y0 a b c n).1.map (·.map C.d)) ((Y0 a b c n).2.1.map (·.map C.d)) ((Y0 a b c n).2.2.1.map (·.map C.d)) (Y0 a b c n).2.2.2.1 (Y0 a b c n).2.2.2.2.1 (Y0 a b c n).2.2.2.2.2 := fun K => YB.f_of (spec_Take_t g0 g1 g2 hk) K
    have hD : ∀ (s : ByteArray) (w : Bool) (K : List (List C) → List (List C) → List (List C) → Int → Bool → Option β), Yy.f k a b c n s w K = K ((Y3 a b c n s w).1.map (·.map C.d)) ((Y3 a b c n s w).2.1.map (·.map C.d)) ((Y3 a b c n s w).2.2.1.map (·.map C.d)) (Y3 a b c n s w).2.2.2.1 (Y3 a b c n s w).2.2.2.2 := fun s w K => Yy.f_of (spec_Done_t g0 g1 g2 hk) K
    have hPs : ∀ (x : Int) (K : List (List C) → List (List C) → List (List C) → Int → Option β), YU.f k a b c n x K = K (a.map (·.map C.d)) (b.map (·.map C.d)) (c.map (·.map C.d)) (passB (YR a b c n) n x) := fun x K => YU.f_of (spec_Pass_t g0 g1 g2 hk) K
    have sP := put_sz hq gs
    have sT := take_sz hq
    have x1 := x1 (by decide)
    have hx : x = 0 ∨ x = 1 ∨ x = 2 ∨ x = 3 ∨ x = 4 ∨ x = 5 := by omega
    rcases hx with rfl | rfl | rfl | rfl | rfl | rfl
    · simp only [Int.reduceBEq, cond_true, cond_false, hP]
      exact next _ _ _ _ _ _ hc2 sP.1 (sP.2 hfl)
    · simp only [Int.reduceBEq, cond_true, cond_false, hP]
      exact next _ _ _ _ _ _ hc2 sP.1 (sP.2 hfl)
    · simp only [Int.reduceBEq, cond_true, cond_false, hTk]
      exact next _ _ _ _ _ _ hc2 sT.1 (sT.2 hfl)
    · obtain ⟨w, i3, h3, hc3, e3⟩ := once_ex (k := k) (h := h2) (n := 2) hc2
      simp only [Int.reduceBEq, cond_true, cond_false, YD.f_of e3, hD]
      have sD := done_sz (w := w) hq gs (by omega)
      exact next _ _ _ _ _ _ hc3 sD.1 (sD.2 hfl)
    · obtain ⟨y, i3, h3, -, -, -, hc3, e3⟩ := Yac (k := k) (h := h2) (n := 4) hc2
      simp only [Int.reduceBEq, cond_true, cond_false, Yp.f_of e3, hPs]
      exact next _ _ _ _ _ _ hc3 (pass_sz hq) (hfl.up (by omega))
    · simp only [Int.reduceBEq, cond_true, cond_false, map_len]
      by_cases hb : (b.length : Int) > 0
      · obtain ⟨w, i3, h3, hc3, e3⟩ := once_ex (k := k) (h := h2) (n := 3) hc2
        have hr := YE.gets hq.gb (v := 0) (by omega) (by omega)
        have gs' := hr.2.1
        have sD := done_sz (w := w) hq gs' (by omega)
        simp only [ZQ hb, cond_true, ZaP (show (0 : Int) ≤ 0 ∧ 0 < (b.length : Int) from ⟨by omega, by omega⟩), atNat_up (show (0 : Int) ≤ 0 by omega) (show (0 : Int) < b.length by omega), hr.1, List.map_cons, List.drop_zero, ZY, cD_at, Zaj, YD.f_of e3, hD]
        exact next _ _ _ _ _ _ hc3 sD.1 (sD.2 hfl)
      · simp only [ZV hb, cond_false]
        exact next _ _ _ _ _ _ hc2 (hq.up (by omega)) (hfl.up (by omega))
theorem l9Draw_ex {k : Nat} (hk : Z3 k) {bb : List (List D)} {i h M : Int} (hc : Cur bb i) (hM : M ≤ 1000) : ∃ a b c n i' h', Cur bb i' ∧ QSz M.toNat a b c n ∧ QFl M.toNat a b ∧ Yw.t k bb i h M = some (a.map (·.map C.d), b.map (·.map C.d), c.map (·.map C.d), n, bb, i', h') := by
  have hb : big = 2 ^ 64 := rfl
  unfold Yw.t Yw.g
  obtain ⟨x, i1, h1, x0, x1, -, hc1, e1⟩ := Yac (k := k) (h := h) (n := 10) hc
  obtain ⟨y, i2, h2, y0, y1, y2, hc2, e2⟩ := Yac (k := k) (h := h1) (n := M) hc1
  rw [Yp.f_of e1, Yp.f_of e2]
  have x1 := x1 (by decide)
  have hy : y.toNat ≤ M.toNat := by omega
  obtain ⟨a, b, c, n, i', h', q1, q2, q3, q4⟩ := l9Loop hk (fun z0 z1 z2 z3 z4 z5 z6 => some (z0, z1, z2, z3, z4, z5, z6)) (bb := bb) M.toNat (by omega) y.toNat 0 (by omega) k (by unfold Z3 at hk; omega) x i2 h2 [] [] [] hc2 ⟨by simp, by simp, by simp, by simp, by simp, by simp, by omega, by omega⟩ (fun r hr => by simp at hr)
  refine ⟨a, b, c, n, i', h', q1, q2, q3, ?_⟩
  rw [← q4]
  simp only [List.map_nil, show ((y.toNat : Nat) : Int) = y from by omega]
theorem takeV_ok {a b c : List (List D)} {n : Int} (h : (Y0 a b c n).2.2.2.2.2 = true) : ∃ p, ∃ hp : p < a.length, QOk a b c n ∧ b.length < 60 ∧ Y0 a b c n = (a.take p ++ a.drop (p + 1), b ++ [it (rS a[p] 0) 0 (rI a[p] 2)], c, n, rS a[p] 0, true) := by
  unfold Y0 at h ⊢
  cases hq : YR a b c n with
  | false => rw [hq] at h; cases h
  | true =>
    by_cases hb : (b.length : Int) < 60
    · by_cases hf : 0 ≤ Zbo (Y2 a n) a.length
      · obtain ⟨h1, h2, h3, h4⟩ := findI_some (p := Y2 a n) (n := a.length) hf
        rw [ZQ hb, ZQ hf]
        refine ⟨_, h1, Y8.mp hq, by omega, ?_⟩
        have eS := gS_get (xs := a) h1 0
        have eI := gI_get (xs := a) h1 2
        rw [h3] at eS eI
        simp only [Bool.and_self, cond_true]
        rw [eS, eI]
        rfl
      · rw [hq, ZQ hb, ZV hf] at h; cases h
    · rw [hq, ZV hb] at h; cases h
theorem Yag {c : List (List D)} {s : ByteArray} : YX c s = true ↔ s ∈ nm c := by
  unfold YX
  rw [Bool.not_eq_true', ← Bool.not_eq_true, List.all_eq_true, nm_mem]
  constructor
  · intro h
    refine Classical.byContradiction fun hn => h fun i hi => ?_
    cases hs : Zae (gS c (i : Int) 0) s with
    | false => rfl
    | true => exact absurd ⟨i, List.mem_range.mp hi, Yai.mp hs⟩ hn
  · rintro ⟨i, hi, e⟩ h
    have := h i (List.mem_range.mpr hi)
    rw [e, Zu] at this
    cases this
theorem among_not {c : List (List D)} {s : ByteArray} (h : s ∉ nm c) : YX c s = false := by
  cases hc : YX c s with
  | false => rfl
  | true => exact absurd (Yag.mp hc) h
theorem readyAt_rows {n : Int} : ∀ {xs : List (List D)} {j : Nat}, (∀ r ∈ xs, YE lim r) → nm (YZ xs j n) = nm xs ∧ ∀ r ∈ YZ xs j n, r ∈ xs ∨ ∃ r' ∈ xs, rS r 0 = rS r' 0 ∧ rI r 1 = n ∧ rI r 2 = rI r' 2
  | [], j, _ => by simp [YZ, nm]
  | x :: xs, 0, h => by
    obtain ⟨c0, c1, c2, rfl, _⟩ := h x (by simp)
    refine ⟨rfl, fun r hr => ?_⟩
    simp only [YZ, List.modify_zero_cons] at hr
    rcases List.mem_cons.mp hr with rfl | hr
    · exact .inr ⟨_, List.mem_cons_self, rfl, rfl, rfl⟩
    · exact .inl (by simp [hr])
  | x :: xs, j + 1, h => by
    obtain ⟨h1, h2⟩ := readyAt_rows (n := n) (j := j) (fun r hr => h r (by simp [hr]) : ∀ r ∈ xs, YE lim r)
    unfold YZ at h1 h2 ⊢
    rw [List.modify_succ_cons]
    refine ⟨by simp only [nm, List.map_cons] at *; rw [h1], fun r hr => ?_⟩
    rcases List.mem_cons.mp hr with rfl | hr
    · exact .inl (by simp)
    · rcases h2 r hr with q | ⟨r', q1, q2⟩
      · exact .inl (by simp [q])
      · exact .inr ⟨r', by simp [q1], q2⟩
structure Putted (a b c : List (List D)) (n : Int) (s : ByteArray) (a' b' c' : List (List D)) : Prop where
  ok : QOk a' b' c' n
  doing : b' = b
  inn : s ∈ nm (a' ++ b')
  again : s ∈ nm b → s ∈ nm c' ∧ a' = a
  size : a'.length ≤ a.length + 1
  grow : s ∈ nm (a ++ b) → a'.length = a.length
  more : (s ∈ nm b → s ∈ nm c) → c' = c
theorem putV_ok {a b c : List (List D)} {n : Int} {s : ByteArray} (ga : ∀ r ∈ a, YE lim r) (h : QOk a b c n) (hn : Yj.v s = true) (hl : s ∈ nm (a ++ b) ∨ a.length < 60) :
    ∃ a' b' c', putV a b c n s = (a', b', c', n, true) ∧ Putted a b c n s a' b' c' := by
  unfold putV
  rw [Y8.mpr h, hn]
  simp only [Bool.not_true, cond_false]
  by_cases hb : s ∈ nm b
  · rw [ZQ (show Yt b s ≥ 0 from Y7.mpr hb)]
    simp only [cond_true]
    have hab : s ∈ nm (a ++ b) := by rw [YY]; exact List.mem_append_right _ hb
    cases hc : YX c s with
    | false =>
      have hcn : s ∉ nm c := fun q => by rw [Yag.mpr q] at hc; cases hc
      refine ⟨_, _, _, rfl, ⟨h.names, h.item, h.doing, ?_, fun x hx => ?_, h.la, h.lb, h.n0, h.n1⟩, rfl, hab, fun _ => ⟨by rw [YY]; exact List.mem_append_right _ (by simp [nm, rS, dS]), rfl⟩, by omega, fun _ => rfl, fun q => absurd (q hb) hcn⟩
      · rw [YY]
        refine List.nodup_append.mpr ⟨h.again, by simp [nm], fun x hx y hy e => ?_⟩
        have : y = s := by simpa [nm, rS, dS] using hy
        rw [e, this] at hx
        exact hcn hx
      · rw [YY] at hx
        rcases List.mem_append.mp hx with q | q
        · exact h.held x q
        · have : x = s := by simpa [nm, rS, dS] using q
          rw [this]; exact hb
    | true => exact ⟨_, _, _, rfl, h, rfl, hab, fun _ => ⟨Yag.mp hc, rfl⟩, by omega, fun _ => rfl, fun _ => rfl⟩
  · have hb' : ¬ Yt b s ≥ 0 := fun q => hb (Y7.mp q)
    rw [ZV hb']
    simp only [cond_false]
    by_cases ha : s ∈ nm a
    · rw [ZQ (show Yt a s ≥ 0 from Y7.mpr ha)]
      simp only [cond_true]
      have hab : s ∈ nm (a ++ b) := by rw [YY]; exact List.mem_append_left _ ha
      by_cases hr : gI a (Yt a s) 1 > n
      · rw [ZQ hr]
        simp only [cond_true]
        obtain ⟨h1, h2⟩ := readyAt_rows (n := n) (j := (Yt a s).toNat) ga
        have hlen : (YZ a (Yt a s).toNat n).length = a.length := by simp [YZ]
        refine ⟨_, _, _, rfl, ⟨by rw [YY, h1, ← YY]; exact h.names, fun r hr => ?_, h.doing, h.again, h.held, by rw [hlen]; exact h.la, h.lb, h.n0, h.n1⟩, rfl, by rw [YY, h1, ← YY]; exact hab, fun q => absurd q hb, by rw [hlen]; omega, fun _ => hlen, fun _ => rfl⟩
        rcases List.mem_append.mp hr with q | q
        · rcases h2 r q with q | ⟨r', q1, q2, q3, q4⟩
          · exact h.item r (List.mem_append_left _ q)
          · have := h.item r' (List.mem_append_left _ q1)
            have := h.n0; have := h.n1
            rw [q2, q3, q4]
            exact ⟨(h.item r' (List.mem_append_left _ q1)).1, by omega, by omega, (h.item r' (List.mem_append_left _ q1)).2.2.2⟩
        · exact h.item r (List.mem_append_right _ q)
      · rw [ZV hr]
        exact ⟨_, _, _, rfl, h, rfl, hab, fun q => absurd q hb, by omega, fun _ => rfl, fun _ => rfl⟩
    · have ha' : ¬ Yt a s ≥ 0 := fun q => ha (Y7.mp q)
      have hno : s ∉ nm (a ++ b) := by rw [YY]; exact fun q => (List.mem_append.mp q).elim ha hb
      have hl := hl.resolve_left hno
      rw [ZV ha', show ((a.length : Int) == 60) = false from by rw [beq_eq_false_iff_ne]; omega]
      have := h.n0; have := h.n1
      refine ⟨_, _, _, rfl, h.more (x := n) (y := 0) hno hn (by omega) (by omega) (by omega) (by omega) hl, rfl, ?_, fun q => absurd q hb, by simp, fun q => absurd q hno, fun _ => rfl⟩
      rw [YY, YY]
      exact List.mem_append_left _ (List.mem_append_right _ (by simp [nm, rS, dS]))
theorem putV_not {a b c : List (List D)} {n : Int} {s : ByteArray} (h : (putV a b c n s).2.2.2.2 = true) : YR a b c n = true ∧ Yj.v s = true ∧ (s ∈ nm (a ++ b) ∨ a.length ≠ 60) := by
  unfold putV at h
  cases hq : YR a b c n with
  | false => rw [hq] at h; cases h
  | true =>
    cases hn : Yj.v s with
    | false => rw [hq, hn] at h; cases h
    | true =>
      refine ⟨rfl, rfl, Classical.byContradiction fun hc => ?_⟩
      have hc1 : s ∉ nm (a ++ b) := fun q => hc (.inl q)
      have hc2 : a.length = 60 := Classical.byContradiction fun q => hc (.inr q)
      rw [YY] at hc1
      have hb : ¬ Yt b s ≥ 0 := fun q => hc1 (List.mem_append_right _ (Y7.mp q))
      have ha : ¬ Yt a s ≥ 0 := fun q => hc1 (List.mem_append_left _ (Y7.mp q))
      rw [hq, hn, ZV hb, ZV ha, hc2] at h
      cases h
theorem up_modify2 {xs : List (List D)} {j o : Nat} {d : D} : ((xs.map (·.map C.d)).modify j fun c => Zq c o [.d d]) = (xs.modify j fun r => Zq r o [d]).map (·.map C.d) := by
  induction xs generalizing j with
  | nil => cases j <;> rfl
  | cons x xs ih =>
    cases j with
    | zero => simp [Zq, List.map_take, List.map_drop]
    | succ j => simp only [List.map_cons, List.modify_succ_cons, ih]
set_option maxRecDepth 100000 in
set_option maxHeartbeats 1000000 in
theorem l9Bend_ex {k : Nat} {bb a b c : List (List D)} {i h n : Int} {m : Nat} (hc : Cur bb i) (hq : QSz m a b c n) (hm : m ≤ 1000) : ∃ a' b' c' n' i' h', Cur bb i' ∧ QSz (m + 1) a' b' c' n' ∧ YS.t k bb i h a b c n = some (a'.map (·.map C.d), b'.map (·.map C.d), c'.map (·.map C.d), n', bb, i', h') := by
  obtain ⟨g0, g1, g2⟩ := hq.sl (by omega)
  have u := hq.up (Nat.le_succ m)
  have hm36 : ZN = 2 ^ 36 := rfl
  have hla := hq.la; have hlc := hq.lc
  unfold YS.t YS.g
  rw [l9Copy_fv g0 g1 g2]
  obtain ⟨x, i1, h1, x0, x1, -, hc1, e1⟩ := Yac (k := k) (h := h) (n := 7) hc
  have x1 := x1 (by decide)
  rw [Yp.f_of e1]
  have hx : x = 0 ∨ x = 1 ∨ x = 2 ∨ x = 3 ∨ x = 4 ∨ x = 5 ∨ x = 6 := by omega
  rcases hx with rfl | rfl | rfl | rfl | rfl | rfl | rfl
  · obtain ⟨y, i2, h2, hy, hc2, e2⟩ := int_ex (k := k) (h := h1) hc1 [-1, 1000000, 1000001] (by decide)
    simp only [List.map_cons, List.map_nil] at e2
    simp only [Int.reduceBEq, cond_true, YO.f_of e2]
    simp only [List.mem_cons, List.not_mem_nil, or_false] at hy
    exact ⟨a, b, c, y, _, _, hc2, ⟨u.ga, u.gb, u.gc, u.la, u.lb, u.lc, by omega, by omega⟩, rfl⟩
  · simp only [Int.reduceBEq, cond_true, cond_false]
    rw [ZaP (by simp only [map_len, List.length_singleton]; omega)]
    exact ⟨a, b, c ++ [[.str (⟨#[122, 122]⟩ : ByteArray)]], n, _, _, hc1, ⟨u.ga, u.gb, Y6 u.gc ⟨_, rfl, by decide, trivial⟩, u.la, u.lb, by rw [List.length_append, List.length_singleton]; omega, u.n0, u.n1⟩, by rw [List.map_append]; rfl⟩
  · simp only [Int.reduceBEq, cond_true, cond_false, map_len]
    by_cases hb : (a.length : Int) > 0
    · have hr := YE.gets hq.ga (v := 0) (by omega) (by omega)
      simp only [ZQ hb, cond_true, ZaP (show (0 : Int) ≤ 0 ∧ 0 < (a.length : Int) from ⟨by omega, by omega⟩), atNat_up (show (0 : Int) ≤ 0 by omega) (show (0 : Int) < a.length by omega), hr.1, List.map_cons, List.map_nil, List.drop_zero, ZY, cD_at, Zaj, Zad]
      rw [ZaP (by simp only [List.length_singleton]; omega)]
      exact ⟨a ++ [[.str (gS a 0 0), .int .i64 (gI a 0 1), .int .i64 (gI a 0 2)]], b, c, n, _, _, hc1, ⟨Y6 u.ga ⟨_, _, _, rfl, hr.2.1, hr.2.2.1, hr.2.2.2.1, trivial⟩, u.gb, u.gc, by rw [List.length_append, List.length_singleton]; omega, u.lb, u.lc, u.n0, u.n1⟩, by rw [List.map_append]; rfl⟩
    · simp only [ZV hb, cond_false]
      exact ⟨a, b, c, n, _, _, hc1, u, rfl⟩
  · simp only [Int.reduceBEq, cond_true, cond_false, map_len]
    by_cases hb : (a.length : Int) > 0
    · obtain ⟨y, i2, h2, hy, hc2, e2⟩ := int_ex (k := k) (h := h1) hc1 [-1, 7, 1000, 1001] (by decide)
      simp only [List.map_cons, List.map_nil] at e2
      simp only [List.mem_cons, List.not_mem_nil, or_false] at hy
      simp only [ZQ hb, cond_true, YO.f_of e2, ZaP (show (0 : Int) ≤ 0 ∧ 0 < (a.length : Int) from ⟨by omega, by omega⟩), ZaP (show Int.toNat 0 < a.length by omega)]
      rw [up_modify2]
      refine ⟨_, b, c, n, _, _, hc2, ⟨mem_modify (fun r hr => ?_) u.ga, u.gb, u.gc, by simp; omega, u.lb, u.lc, u.n0, u.n1⟩, rfl⟩
      obtain ⟨c0, c1, c2, rfl, k0, k1, k2, _⟩ := hr
      exact ⟨c0, c1, y, rfl, k0, k1, wf_of (by omega) (by omega), trivial⟩
    · simp only [ZV hb, cond_false]
      exact ⟨a, b, c, n, _, _, hc1, u, rfl⟩
  · simp only [Int.reduceBEq, cond_false]
    exact ⟨a, b, c, n, _, _, hc1, u, rfl⟩
  · simp only [Int.reduceBEq, cond_false]
    exact ⟨a, b, c, n, _, _, hc1, u, rfl⟩
  · simp only [Int.reduceBEq, cond_false]
    exact ⟨a, b, c, n, _, _, hc1, u, rfl⟩
def zName (i : Int) : ByteArray := ⟨#[UInt8.ofNat (Int.toNat 122), UInt8.ofNat (Int.toNat (IntKind.wrap .u8 (IntKind.wrap .i64 (97 + (IntKind.wrap .i64 (Int.tdiv i 10)))))), UInt8.ofNat (Int.toNat (IntKind.wrap .u8 (IntKind.wrap .i64 (48 + (Int.tmod i 10)))))]⟩
def zItems (n : Nat) : List (List D) := (List.range n).map fun (i : Nat) => it (zName (i : Int)) 0 0
theorem zItems_succ (n : Nat) : (zItems (n + 1)).map (·.map C.d) = (zItems n).map (·.map C.d) ++ [[.d (.str (zName (n : Int))), .d (.int .i64 0), .d (.int .i64 0)]] := by
  unfold zItems
  rw [List.range_succ, List.map_append, List.map_append]
  rfl
theorem zItems_iter {β : Type} {body : (Int × List (List C) → Option β) → Int × List (List C) → Option β} {k : Nat} {r : Option β} (hk : 60 < k)
    (hstep : ∀ L (i : Nat) xs, i < 60 → xs.length = i → body L ((i : Int), xs) = L ((i : Int) + 1, xs ++ [[.d (.str (zName (i : Int))), .d (.int .i64 0), .d (.int .i64 0)]])) (hend : ∀ L, body L (60, (zItems 60).map (·.map C.d)) = r) :
    Zo body k (0, ([] : List (List C))) = r :=
  iter_seq (fun i => ((i : Int), (zItems i).map (·.map C.d))) (n := 60) hk (fun L i hi => by rw [hstep L i _ hi (by rw [map_len]; simp [zItems]), zItems_succ]; rfl) hend
def QDrawn (a b c : List (List D)) (n : Int) : Prop := QSz 60 a b c n ∧ (a.length ≤ 40 ∨ (a.length = 60 ∧ ∀ s ∈ nm (a ++ b), s.size = 3))
theorem zItems_drawn {n : Int} (h0 : -1000 ≤ n) (h1 : n ≤ 2000000) : QDrawn (zItems 60) [] [] n := by
  refine ⟨⟨fun r hr => ?_, by simp, by simp, by simp [zItems], by simp, by simp, h0, h1⟩, .inr ⟨by simp [zItems], fun s hs => ?_⟩⟩
  · obtain ⟨i, -, rfl⟩ := List.mem_map.mp hr
    exact ⟨_, _, _, rfl, show 3 ≤ 1048576 by decide, by decide, by decide, trivial⟩
  · rw [List.append_nil] at hs
    obtain ⟨r, hr, rfl⟩ := List.mem_map.mp hs
    obtain ⟨i, -, rfl⟩ := List.mem_map.mp hr
    rfl
set_option maxRecDepth 100000 in
set_option maxHeartbeats 1000000 in
theorem l9DrawAny_ex {k : Nat} (hk : Z3 k) {bb : List (List D)} {i h M : Int} (hc : Cur bb i) (hM : M ≤ 30) : ∃ a b c n i' h', Cur bb i' ∧ QDrawn a b c n ∧ Yl.t k bb i h M = some (a.map (·.map C.d), b.map (·.map C.d), c.map (·.map C.d), n, bb, i', h') := by
  have hbk : big = 2 ^ 64 := rfl
  have hm36 : ZN = 2 ^ 36 := rfl
  have hk60 : 60 < k := by unfold Z3 at hk; omega
  unfold Yl.t Yl.g Yl.m
  obtain ⟨a, b, c, n, i1, h1, hc1, hq, -, e1⟩ := l9Draw_ex hk (h := h) hc (show M ≤ 1000 by omega)
  obtain ⟨w, i2, h2, hc2, e2⟩ := once_ex (k := k) (h := h1) (n := 5) hc1
  have hf : ∀ (K : List (List C) → List (List C) → List (List C) → Int → List (List D) → Int → Int → Option (List (List C) × List (List C) × List (List C) × Int × List (List D) × Int × Int)), Yw.f k bb i h M K = K (a.map (·.map C.d)) (b.map (·.map C.d)) (c.map (·.map C.d)) n bb i1 h1 := fun K => by unfold Yw.f; rw [e1]
  rw [hf, YD.f_of e2]
  cases w with
  | true =>
    simp only [cond_true, imm_rows]
    obtain ⟨a', b', c', n', i3, h3, hc3, hq', e3⟩ := l9Bend_ex (k := k) (h := h2) hc2 hq (by omega)
    have hf3 : ∀ (K : List (List C) → List (List C) → List (List C) → Int → List (List D) → Int → Int → Option (List (List C) × List (List C) × List (List C) × Int × List (List D) × Int × Int)), YS.f k bb i2 h2 a b c n K = K (a'.map (·.map C.d)) (b'.map (·.map C.d)) (c'.map (·.map C.d)) n' bb i3 h3 := fun K => by unfold YS.f; rw [e3]
    obtain ⟨z, i4, h4, hc4, e4⟩ := once_ex (k := k) (h := h3) (n := 40) hc3
    rw [hf3, YD.f_of e4]
    cases z with
    | true =>
      simp only [cond_true]
      refine ⟨zItems 60, [], [], n', i4, h4, hc4, zItems_drawn hq'.n0 hq'.n1, zItems_iter hk60 (fun L j xs hj hxs => ?_) (fun L => ?_)⟩
      · simp only [Yl.l0, ZQ (show (j : Int) < 60 by omega), cond_true, ZaP (show (10 : Int) ≠ 0 by decide)]
        rw [ZaP (by simp only [List.length_singleton]; omega), Zj (x := (j : Int) + 1) (by omega) (by omega)]
        rfl
      · simp only [Yl.l0, ZV (show ¬ (60 : Int) < 60 by omega), cond_false]
        rfl
    | false => exact ⟨a', b', c', n', i4, h4, hc4, ⟨hq'.up (by omega), .inl (by have := hq'.la; omega)⟩, rfl⟩
  | false =>
    simp only [cond_false]
    obtain ⟨z, i4, h4, hc4, e4⟩ := once_ex (k := k) (h := h2) (n := 40) hc2
    rw [YD.f_of e4]
    cases z with
    | true =>
      simp only [cond_true]
      refine ⟨zItems 60, [], [], n, i4, h4, hc4, zItems_drawn hq.n0 hq.n1, zItems_iter hk60 (fun L j xs hj hxs => ?_) (fun L => ?_)⟩
      · simp only [Yl.l1, ZQ (show (j : Int) < 60 by omega), cond_true, ZaP (show (10 : Int) ≠ 0 by decide)]
        rw [ZaP (by simp only [List.length_singleton]; omega), Zj (x := (j : Int) + 1) (by omega) (by omega)]
        rfl
      · simp only [Yl.l1, ZV (show ¬ (60 : Int) < 60 by omega), cond_false]
        rfl
    | false => exact ⟨a, b, c, n, i4, h4, hc4, ⟨hq.up (by omega), .inl (by have := hq.la; omega)⟩, rfl⟩
theorem drawPut_ex {k : Nat} (hk : Z3 k) {b : List (List D)} (g : Zi RI8 lim b) : ∃ a b' c n s, QDrawn a b' c n ∧ s.size ≤ 1 ∧ YK.t k b = some (a.map (·.map C.d), b'.map (·.map C.d), c.map (·.map C.d), n, s) := by
  unfold YK.t YK.g
  obtain ⟨h, e1⟩ := new_ex g hk
  obtain ⟨M, m0, m1, e2⟩ := size_ex (k := k) (m := 30) g (by decide)
  obtain ⟨a, b', c, n, i', h', hc, q2, q4⟩ := l9DrawAny_ex hk (h := h) (Cur.new g) m1
  have hstr : ∀ r ∈ ([[.str (⟨#[97]⟩ : ByteArray)], [.str (⟨#[98]⟩ : ByteArray)], [.str (⟨#[99]⟩ : ByteArray)], [.str (⟨#[100]⟩ : ByteArray)], [.str (⟨#[120]⟩ : ByteArray)], [.str (⟨#[]⟩ : ByteArray)]] : List (List D)), RS lim r ∧ (rS r 0).size ≤ 1 := by
    intro r hr
    simp only [List.mem_cons, List.not_mem_nil, or_false] at hr
    rcases hr with rfl | rfl | rfl | rfl | rfl | rfl <;> exact ⟨⟨_, rfl, by decide, trivial⟩, by decide⟩
  obtain ⟨j, i2, h2, j0, j1, -, e3⟩ := str_ex (k := k) (h := h') hc (fun r hr => (hstr r hr).1) (by decide)
  rw [Yx.f_of e1, YM.f_of e2]
  have hs := (hstr _ (gR_mem j0 j1)).2
  refine ⟨a, b', c, n, _, q2, hs, ?_⟩
  show (Yl.f k b 0 h M _) = _
  unfold Yl.f
  rw [q4]
  show (YL.f k b i' h' _ _) = _
  rw [YL.f_of e3]
  rfl
theorem held_iter {β : Type} {tb : List (List D)} {s : ByteArray} {body : (Bool × Int → Option β) → Bool × Int → Option β} {E : Bool → Option β} {k : Nat} (hk : tb.length < k)
    (hstep : ∀ L h (i : Nat), i < tb.length → body L (h, (i : Int)) = L (bif h then true else Zae (gS tb (i : Int) 0) s, (i : Int) + 1)) (hend : ∀ L h, body L (h, (tb.length : Int)) = E h) :
    Zo body k (false, 0) = E (YX tb s) := by
  let f : Nat → Bool := fun i => (List.range i).any fun j => Zae (gS tb (j : Int) 0) s
  have hf : f tb.length = YX tb s := by
    cases hd : f tb.length with
    | true =>
      obtain ⟨i, hi, e⟩ := List.any_eq_true.mp hd
      exact (Yag.mpr (nm_mem.mpr ⟨i, List.mem_range.mp hi, Yai.mp e⟩)).symm
    | false =>
      refine (among_not fun hm => ?_).symm
      obtain ⟨i, hi, e⟩ := nm_mem.mp hm
      have : f tb.length = true := List.any_eq_true.mpr ⟨i, List.mem_range.mpr hi, by rw [e, Zu]⟩
      rw [hd] at this; cases this
  rw [← hf]
  refine iter_seq (fun i => (f i, (i : Int))) (n := tb.length) hk (fun L i hi => ?_) (fun L => hend L _)
  rw [hstep L _ i hi]
  have : f (i + 1) = bif f i then true else Zae (gS tb (i : Int) 0) s := by
    show (List.range (i + 1)).any _ = _
    rw [List.range_succ, List.any_append]
    show (f i || _) = _
    cases f i <;> simp
  rw [← this]
  rfl
structure OnceT (a b c : List (List D)) (n : Int) (s : ByteArray) : Prop where
  sz : QSz 100 a b c n
  ok : QOk a b c n
  inn : s ∈ nm (a ++ b)
  la : a.length < 60
  gs : s.size ≤ lim
  nok : Yj.v s = true
theorem OnceT.sl {a b c : List (List D)} {n : Int} {s : ByteArray} (h : OnceT a b c n s) : Zi YE lim a ∧ Zi YE lim b ∧ Zi RS lim c := h.sz.sl (by omega)
abbrev OnceF (β : Type) : Type := ByteArray → Bool → Bool → Bool → Int → Int → List (List C) → List (List C) → List (List C) → List (List C) → List (List C) → List (List C) → Bool × Int → Option β
set_option maxRecDepth 100000 in
theorem once_end {k : Nat} (hk : Z3 k) {β : Type} {K : Bool → Option β} {a b c : List (List D)} {n : Int} {s : ByteArray} (h : OnceT a b c n s) {F1 F2 : OnceF β}
    (hF1 : ∀ (d l : Bool) (n' : Int) (x y z : List (List D)), Zi YE lim x → Zi YE lim y → Zi RS lim z → F1 s true d l n n' (a.map (·.map C.d)) (b.map (·.map C.d)) (c.map (·.map C.d)) (x.map (·.map C.d)) (y.map (·.map C.d)) (z.map (·.map C.d)) (false, 0) = bif d == YX b s then (bif !YX b s then K (YR x y z n') else bif l then K (YR x y z n') else K false) else K false)
    (hF2 : ∀ (d l : Bool) (n' : Int) (x y z : List (List D)), Zi YE lim x → Zi YE lim y → Zi RS lim z → F2 s true d l n n' (a.map (·.map C.d)) (b.map (·.map C.d)) (c.map (·.map C.d)) (x.map (·.map C.d)) (y.map (·.map C.d)) (z.map (·.map C.d)) (false, 0) = bif d == YX b s then (bif !YX b s then K (YR x y z n') else bif l then K (YR x y z n') else K false) else K false) :
    YQ.f k a b c n s (fun y374 y375 y376 y377 y378 => YP.f k (C.immRows y374) (C.immRows y375) (C.immRows y376) y377 s true (fun y379 y380 y381 y382 y383 => bif (decide (((y379.length : Int) : Int) > 0)) then (Zc ((0 : Int) ≤ (IntKind.wrap .i64 ((y379.length : Int) - 1)) ∧ (IntKind.wrap .i64 ((y379.length : Int) - 1)) < (y379.length : Int)) (ZaG y379 (Int.toNat (IntKind.wrap .i64 ((y379.length : Int) - 1))) fun c384 => Zas (c384.drop 0) fun c385 r386 => cD c385 fun d387 => dStr d387 fun x388 => F1 s y378 y383 (Zae x388 s) n y382 (a.map (·.map C.d)) (b.map (·.map C.d)) (c.map (·.map C.d)) y379 y380 y381 (false, 0))) else (F2 s y378 y383 false n y382 (a.map (·.map C.d)) (b.map (·.map C.d)) (c.map (·.map C.d)) y379 y380 y381 (false, 0)))) = K true := by
  obtain ⟨g0, g1, g2⟩ := h.sl
  have hlim : lim = 1048576 := rfl
  obtain ⟨a', b', c', e, hp⟩ := putV_ok h.sz.ga h.ok h.nok (.inl h.inn)
  obtain rfl := hp.doing
  have ps : QSz 101 a' b' c' n := by have := (put_sz h.sz h.gs).1; rw [e] at this; exact this
  obtain ⟨p0, p1, p2⟩ := ps.sl (by omega)
  have hI : ∀ (K : List (List C) → List (List C) → List (List C) → Int → Bool → Option β), YQ.f k a b' c n s K = K (a'.map (·.map C.d)) (b'.map (·.map C.d)) (c'.map (·.map C.d)) n true := fun K => by
    rw [YQ.f_of (impl_Put_t g0 g1 g2 h.gs hk), e]
  have hD : ∀ (K : List (List C) → List (List C) → List (List C) → Int → Bool → Option β), YP.f k a' b' c' n s true K = K ((Y3 a' b' c' n s true).1.map (·.map C.d)) ((Y3 a' b' c' n s true).2.1.map (·.map C.d)) ((Y3 a' b' c' n s true).2.2.1.map (·.map C.d)) (Y3 a' b' c' n s true).2.2.2.1 (Y3 a' b' c' n s true).2.2.2.2 := fun K => YP.f_of (impl_Done_t p0 p1 p2 hk) K
  rw [hI]
  simp only [imm_rows, hD, map_len]
  have hqb := Y8.mpr hp.ok
  have hla := h.la
  by_cases hb : s ∈ nm b'
  · obtain ⟨hc, rfl⟩ := hp.again hb
    obtain ⟨p, hpl, e1, e2, -⟩ := place_at hb
    have hS : rS b'[p] 0 = s := by rw [← gS_get hpl]; exact e2
    have hd : Y3 a' b' c' n s true = (a' ++ [it s n 0], b'.take p ++ b'.drop (p + 1), Y5 c' s, n, true) := by
      unfold Y3
      rw [hqb, e1, ZQ (show (0 : Int) ≤ (p : Int) by omega), Yag.mpr hc, ZQ (show (a'.length : Int) < 60 by omega), Int.toNat_natCast]
      rfl
    have hq1 := hp.ok.drop hpl
    have hq2 := hp.ok.gone hpl
    rw [hS] at hq1 hq2
    have n0 := hp.ok.n0; have n1 := hp.ok.n1
    have hQ := Y8.mpr (hq1.more (x := n) (y := 0) hq2 h.nok (by omega) (by omega) (by omega) (by omega) hla)
    have ds := (done_sz (w := true) ps h.gs (by omega)).1
    rw [hd] at ds
    obtain ⟨d0, d1, d2⟩ := ds.sl (by omega)
    have hlA : (a' ++ [it s n 0]).length = a'.length + 1 := by simp
    have hwA : IntKind.wrap .i64 (((a'.length + 1 : Nat) : Int) - 1) = (a'.length : Int) := by rw [Zj (by omega) (by omega)]; omega
    have hrA : gR (a' ++ [it s n 0]) (a'.length : Int) = it s n 0 := by rw [gR_get (by simp)]; simp
    simp only [hd, hlA, hwA]
    rw [ZQ (show (((a'.length + 1 : Nat)) : Int) > 0 by omega)]
    simp only [cond_true]
    rw [ZaP ⟨by omega, by omega⟩, atNat_up (by omega) (by rw [hlA]; omega), hrA]
    simp only [it, List.map_cons, List.map_nil, List.drop_zero, ZY, cD_at, Zaj, Zu]
    show F1 s true true true n n _ _ _ ((a' ++ [it s n 0]).map (·.map C.d)) _ _ (false, 0) = _
    rw [hF1 _ _ _ _ _ _ d0 d1 d2, Yag.mpr hb, hQ]
    rfl
  · have hd : Y3 a' b' c' n s true = (a', b', c', n, false) := by
      unfold Y3
      rw [hqb, ZV (show ¬ 0 ≤ Yt b' s from fun q => hb (Y7.mp q))]
      rfl
    simp only [hd]
    by_cases hz : (a'.length : Int) > 0
    · have hsz := hp.ok.la
      have hwA : IntKind.wrap .i64 ((a'.length : Int) - 1) = (a'.length : Int) - 1 := Zj (by omega) (by omega)
      have hr := YE.gets ps.ga (v := (a'.length : Int) - 1) (by omega) (by omega)
      rw [ZQ hz, hwA]
      simp only [cond_true]
      rw [ZaP ⟨by omega, by omega⟩, atNat_up (by omega) (by omega), hr.1]
      simp only [List.map_cons, List.map_nil, List.drop_zero, ZY, cD_at, Zaj]
      rw [hF1 _ _ _ _ _ _ p0 p1 p2, among_not hb, hqb]
      rfl
    · rw [ZV hz]
      simp only [cond_false]
      rw [hF2 _ _ _ _ _ _ p0 p1 p2, among_not hb, hqb]
      rfl
theorem once_take {a b c : List (List D)} {n : Int} {s : ByteArray} (h : OnceT a b c n s) {p : Nat} (hp : p < a.length) (hb : b.length < 60) : OnceT (a.take p ++ a.drop (p + 1)) (b ++ [it (rS a[p] 0) 0 (rI a[p] 2)]) c n s := by
  have hl := cut_len hp
  have hla := h.la
  have hq := h.ok.take hp hb
  obtain ⟨c0, c1, c2, e, k0, k1, k2, -⟩ := h.sz.ga _ (List.getElem_mem hp)
  refine ⟨⟨fun r hr => h.sz.ga r (cut_mem hr), Y6 h.sz.gb ?_, h.sz.gc, by omega, by rw [List.length_append, List.length_singleton]; omega, h.sz.lc, h.sz.n0, h.sz.n1⟩, hq, ?_, by omega, h.gs, h.nok⟩
  · rw [e]
    exact ⟨c0, 0, c2, rfl, k0, by decide, k2, trivial⟩
  · have hperm : (nm ((a.take p ++ a.drop (p + 1)) ++ (b ++ [it (rS a[p] 0) 0 (rI a[p] 2)]))).Perm (nm (a ++ b)) := by
      rw [YY, YY b]
      have e : nm [it (rS a[p] 0) 0 (rI a[p] 2)] = nm [a[p]] := rfl
      rw [e, ← List.append_assoc]
      refine (List.perm_append_comm).trans ?_
      rw [← List.append_assoc, YY a b]
      exact List.Perm.append_right _ (show (nm (a[p] :: (a.take p ++ a.drop (p + 1)))).Perm (nm a) from (cut_perm hp).map (rS · 0))
    exact hperm.mem_iff.mpr h.inn
set_option maxRecDepth 100000 in
set_option maxHeartbeats 4000000 in
theorem once_loop {k : Nat} (hk : Z3 k) {β : Type} {K : Bool → Option β} {s : ByteArray} : ∀ (m : Nat) (i : Int) (a b c : List (List D)) (n : Int) (fuel : Nat), 0 ≤ i → 200 - i ≤ m → m < fuel → OnceT a b c n s → Zo (Ye.l0 k K) fuel (s, i, n, a.map (·.map C.d), b.map (·.map C.d), c.map (·.map C.d)) = K true := by
  have hlim : lim = 1048576 := rfl
  have hbk : big = 2 ^ 64 := rfl
  have hk60 : 1000 < k := by unfold Z3 at hk; omega
  have held : ∀ (a b c : List (List D)) (n : Int), OnceT a b c n s → ∀ (d l : Bool) (n' : Int) (x y z : List (List D)), Zi YE lim x → Zi YE lim y → Zi RS lim z → ∀ (body : (Bool × Int → Option β) → Bool × Int → Option β),
      (∀ L h (j : Int), body L (h, j) = bif (decide ((j : Int) < ((b.map (·.map C.d)).length : Int))) then (bif h then (L (true, IntKind.wrap .i64 (j + 1))) else (Zc ((0 : Int) ≤ j ∧ j < ((b.map (·.map C.d)).length : Int)) (ZaG (b.map (·.map C.d)) (Int.toNat j) fun c463 => Zas (c463.drop 0) fun c464 r465 => cD c464 fun d466 => dStr d466 fun x467 => L (Zae x467 s, IntKind.wrap .i64 (j + 1))))) else (bif true then (bif (d == h) then (bif (!h) then (Yh.f k (C.immRows (x.map (·.map C.d))) (C.immRows (y.map (·.map C.d))) (C.immRows (z.map (·.map C.d))) n' (fun y468 => K y468)) else (bif l then (Yh.f k (C.immRows (x.map (·.map C.d))) (C.immRows (y.map (·.map C.d))) (C.immRows (z.map (·.map C.d))) n' (fun y469 => K y469)) else (K false))) else (K false)) else (K false))) →
      Zo body k (false, 0) = bif d == YX b s then (bif !YX b s then K (YR x y z n') else bif l then K (YR x y z n') else K false) else K false := by
    intro a b c n h d l n' x y z gx gy gz body hbody
    have hlb := h.sz.lb
    refine held_iter (tb := b) (s := s) (E := fun h => bif d == h then (bif !h then K (YR x y z n') else bif l then K (YR x y z n') else K false) else K false) (by omega) (fun L h' j hj => ?_) (fun L h' => ?_)
    · have hr := YE.gets h.sz.gb (v := (j : Int)) (by omega) (by omega)
      rw [hbody, map_len, ZQ (show (j : Int) < (b.length : Int) by omega), Zj (by omega) (by omega)]
      cases h' with
      | true => rfl
      | false =>
        simp only [cond_true, cond_false]
        rw [ZaP ⟨by omega, by omega⟩, atNat_up (by omega) (by omega), hr.1]
        simp only [List.map_cons, List.map_nil, List.drop_zero, ZY, cD_at, Zaj]
    · rw [hbody, map_len, ZV (show ¬ (b.length : Int) < (b.length : Int) by omega)]
      simp only [cond_false, cond_true, imm_rows, QueueOkI gx gy gz hk]
  intro m
  induction m with
  | zero =>
    intro i a b c n fuel i0 hm hf h
    rw [iter_step (by omega)]
    simp only [Ye.l0, Ye.m0, ZV (show ¬ i < 200 by omega), cond_false, imm_rows]
    exact once_end hk h (F1 := (fun v0 v1 v2 v3 v4 v5 v6 v7 v8 v9 v10 v11 => Zo (Ye.l4 k v0 v1 v2 v3 v4 v5 v6 v7 v8 v9 v10 v11 K) k)) (F2 := (fun v0 v1 v2 v3 v4 v5 v6 v7 v8 v9 v10 v11 => Zo (Ye.l5 k v0 v1 v2 v3 v4 v5 v6 v7 v8 v9 v10 v11 K) k)) (fun d l n' x y z gx gy gz => held a b c n h d l n' x y z gx gy gz _ fun L h j => rfl) (fun d l n' x y z gx gy gz => held a b c n h d l n' x y z gx gy gz _ fun L h j => rfl)
  | succ m ih =>
    intro i a b c n fuel i0 hm hf h
    rw [iter_step (by omega)]
    by_cases hi : i < 200
    · obtain ⟨g0, g1, g2⟩ := h.sl
      have hT : ∀ (K : List (List C) → List (List C) → List (List C) → Int → ByteArray → Bool → Option β), YV.f k a b c n K = K ((Y0 a b c n).1.map (·.map C.d)) ((Y0 a b c n).2.1.map (·.map C.d)) ((Y0 a b c n).2.2.1.map (·.map C.d)) (Y0 a b c n).2.2.2.1 (Y0 a b c n).2.2.2.2.1 (Y0 a b c n).2.2.2.2.2 := fun K => YV.f_of (impl_Take_t g0 g1 g2 hk) K
      simp only [Ye.l0, Ye.m0, ZQ hi, cond_true, imm_rows, hT]
      cases hok : (Y0 a b c n).2.2.2.2.2 with
      | false =>
        simp only [Bool.not_false, cond_true]
        exact once_end hk h (F1 := (fun v0 v1 v2 v3 v4 v5 v6 v7 v8 v9 v10 v11 => Zo (Ye.l1 k v0 v1 v2 v3 v4 v5 v6 v7 v8 v9 v10 v11 K) k)) (F2 := (fun v0 v1 v2 v3 v4 v5 v6 v7 v8 v9 v10 v11 => Zo (Ye.l2 k v0 v1 v2 v3 v4 v5 v6 v7 v8 v9 v10 v11 K) k)) (fun d l n' x y z gx gy gz => held a b c n h d l n' x y z gx gy gz _ fun L h j => rfl) (fun d l n' x y z gx gy gz => held a b c n h d l n' x y z gx gy gz _ fun L h j => rfl)
      | true =>
        simp only [Bool.not_true, cond_false]
        obtain ⟨p, hp, hq, hb, et⟩ := takeV_ok hok
        rw [et]
        have hlb := h.sz.lb
        have hne : ∀ j : Nat, j < b.length → Zae (gS b (j : Int) 0) (rS a[p] 0) = false := by
          intro j hj
          cases hs : Zae (gS b (j : Int) 0) (rS a[p] 0) with
          | false => rfl
          | true =>
            have h1 := Yai.mp hs
            have hn := h.ok.names
            rw [YY] at hn
            exact absurd h1.symm ((List.nodup_append.mp hn).2.2 _ (List.mem_map.mpr ⟨_, List.getElem_mem hp, rfl⟩) _ (nm_mem.mpr ⟨j, hj, rfl⟩))
        refine (iter_seq (fun j => (j : Int)) (n := b.length) (by omega) (fun L j hj => ?_) (fun L => ?_)).trans (ih (i + 1) _ _ c n (fuel - 1) (by omega) (by omega) (by omega) (once_take h hp hb))
        · have hr := YE.gets h.sz.gb (v := (j : Int)) (by omega) (by omega)
          simp only [Ye.l3, map_len, ZQ (show (j : Int) < (b.length : Int) by omega), cond_true, ZaP (show (0 : Int) ≤ (j : Int) ∧ (j : Int) < (b.length : Int) from ⟨by omega, by omega⟩), atNat_up (show (0 : Int) ≤ (j : Int) by omega) (show (j : Int) < b.length by omega), hr.1, List.map_cons, List.map_nil, List.drop_zero, ZY, cD_at, Zaj, hne j hj, cond_false, Zj (show -9223372036854775808 ≤ (j : Int) + 1 by omega) (show (j : Int) + 1 ≤ 9223372036854775807 by omega)]
          rfl
        · simp only [Ye.l3, map_len, ZV (show ¬ (b.length : Int) < (b.length : Int) by omega), cond_false, Zj (show -9223372036854775808 ≤ i + 1 by omega) (show i + 1 ≤ 9223372036854775807 by omega)]
    · simp only [Ye.l0, Ye.m0, ZV hi, cond_false, imm_rows]
      exact once_end hk h (F1 := (fun v0 v1 v2 v3 v4 v5 v6 v7 v8 v9 v10 v11 => Zo (Ye.l4 k v0 v1 v2 v3 v4 v5 v6 v7 v8 v9 v10 v11 K) k)) (F2 := (fun v0 v1 v2 v3 v4 v5 v6 v7 v8 v9 v10 v11 => Zo (Ye.l5 k v0 v1 v2 v3 v4 v5 v6 v7 v8 v9 v10 v11 K) k)) (fun d l n' x y z gx gy gz => held a b c n h d l n' x y z gx gy gz _ fun L h j => rfl) (fun d l n' x y z gx gy gz => held a b c n h d l n' x y z gx gy gz _ fun L h j => rfl)
set_option maxRecDepth 100000 in
set_option maxHeartbeats 1000000 in
theorem Ye.T {a0 : List (List D)} (g0 : Zi RI8 maxLen a0) : Tm Z3 (fun k => Ye.t k a0) (fun r => r = true) := by
  refine Tm.of (v := true) (fun k hk => ?_) rfl
  have hlim : lim = 1048576 := rfl
  have hbk : big = 2 ^ 64 := rfl
  have hk60 : 1000 < k := by unfold Z3 at hk; omega
  have hbig : ∀ {β : Type} (K : Bool → Option β), YW.f k a0 K = K (decide ((a0.length : Int) > 1048576)) := fun K => YW.f_of rfl K
  unfold Ye.t Ye.g Ye.m
  rw [hbig]
  by_cases hl : (a0.length : Int) > 1048576
  · rw [ZQ hl]; rfl
  rw [ZV hl]
  simp only [cond_false]
  obtain ⟨a, b, c, n, s, ⟨hs, hd⟩, hss, e⟩ := drawPut_ex hk (b := a0) ⟨by omega, fun r hr => let ⟨x, q⟩ := g0.2 r hr; ⟨x, q⟩⟩
  obtain ⟨s0, s1, s2⟩ := hs.sl (by omega)
  have gs : s.size ≤ lim := by omega
  rw [YK.f_of e]
  simp only [imm_rows]
  rw [YQ.f_of (impl_Put_t s0 s1 s2 gs hk), YT.f_of (spec_Put_t s0 s1 s2 gs hk)]
  simp only [up3, beq_self_eq_true, Bool.not_true, cond_false, cond_true]
  cases hok : (putV a b c n s).2.2.2.2 with
  | false =>
    simp only [Bool.not_false, cond_true]
    rw [QueueOkF s0 s1 s2 hk, QueueOkI s0 s1 s2 hk]
    cases YR a b c n <;> rfl
  | true =>
    simp only [Bool.not_true, cond_false]
    obtain ⟨hq, hn, hz⟩ := putV_not hok
    have hQ := Y8.mp hq
    have hsm : a.length ≤ 40 := hd.resolve_right fun hd => hz.elim (fun hz => by have := hd.2 s hz; omega) fun hz => hz hd.1
    obtain ⟨a', b', c', et, hp⟩ := putV_ok hs.ga hQ hn (.inr (by omega))
    obtain rfl := hp.doing
    have ps := (put_sz hs gs).1
    have hla := hp.size
    rw [et] at ps ⊢
    have ps : QSz 61 a' b' c' n := ps
    obtain ⟨p0, p1, p2⟩ := ps.sl (by omega)
    obtain ⟨a2, b2, c2, et2, hp2⟩ := putV_ok ps.ga hp.ok hn (.inl hp.inn)
    have hlen := hp2.grow hp.inn
    obtain rfl := hp2.more fun q => (hp.again q).1
    simp only [imm_rows]
    rw [YQ.f_of (impl_Put_t p0 p1 p2 gs hk), QueueOkI p0 p1 p2 hk, Y8.mpr hp.ok]
    simp only [up3, et2, map_len, hlen, bne_self_eq_false, Bool.not_true, cond_false]
    exact once_loop hk 200 0 a' b' c2 n k (by omega) (by omega) (by omega) ⟨ps.up (by omega), hp.ok, hp.inn, by omega, gs, hn⟩
end Go.Proofs.Ytpgplbalenfgfaa
