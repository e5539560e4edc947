/- Printed, and by hand: the functions that FnMoved reaches come to their end; the program's answer as the reference's. -/
import Derived.Test.YtpgplbalenfgfaaXFnMoved1
import Derived.KernelRfl
set_option linter.unusedVariables false
set_option linter.unusedSimpArgs false
namespace Go.Proofs.Ytpgplbalenfgfaa
open Go Go.T Go.Proofs
theorem mem_modify {α : Type} {P : α → Prop} {f : α → α} (hf : ∀ x, P x → P (f x)) : ∀ {xs : List α} {j : Nat}, (∀ x ∈ xs, P x) → ∀ x ∈ xs.modify j f, P x
  | [], j, h, x, hx => by cases j <;> cases hx
  | y :: xs, 0, h, x, hx => by
    simp only [List.modify_zero_cons] at hx
    rcases List.mem_cons.mp hx with rfl | hx
    · exact hf y (h y (by simp))
    · exact h x (by simp [hx])
  | y :: xs, j + 1, h, x, hx => by
    simp only [List.modify_succ_cons] at hx
    rcases List.mem_cons.mp hx with rfl | hx
    · exact h x (by simp)
    · exact mem_modify hf (fun z hz => h z (by simp [hz])) x hx
theorem Yaw {α : Type} {P : α → Prop} {xs : List α} {y : α} (h : ∀ x ∈ xs, P x) (hy : P y) : ∀ x ∈ xs ++ [y], P x := by
  intro x hx
  rcases List.mem_append.mp hx with q | q
  · exact h x q
  · simp at q; subst q; exact hy
theorem wf_of {x : Int} (h0 : -9223372036854775808 ≤ x) (h1 : x ≤ 9223372036854775807) : (Lit.int .i64 x).wf = true := by
  simp [Lit.wf, IntKind.min, IntKind.max, IntKind.signed, IntKind.bits]
  omega
theorem big_lv1 {n : Nat} (h : n ≤ 4398046511104) : big + n ≤ lv 1 := by
  have hb : big = 2 ^ 64 := rfl
  have : lv 1 = 2 ^ 65 := rfl
  omega
theorem ZaA (n : Int) : n = 1 ∨ n = 2 ∨ n = 3 ∨ n = 4 ∨ n = 5 ∨ ((n == 1) = false ∧ (n == 2) = false ∧ (n == 3) = false ∧ (n == 4) = false ∧ (n == 5) = false) := by
  simp only [beq_eq_false_iff_ne]
  omega
theorem delR_deep {pr : List D → Option Bool} {q : List D → Bool} : ∀ {e : List (List D)}, (∀ r ∈ e, pr r = some (q r)) → delR pr (Zb e) = some (Zb (e.filter fun r => !q r))
  | [], _ => rfl
  | r :: e, h => by
    simp only [Zb, delR, ZcQ, h r (by simp), delR_deep (e := e) fun x hx => h x (by simp [hx])]
    rw [List.filter_cons]
    cases q r <;> rfl
theorem delK_deep {ix : List (List D) → Option Int} {pr : List D → Option Bool} {q : List D → Bool} {d : List (List D)} (hl : d.length ≤ 1048576) (hix : ix d = some (Zbo (fun i => q (gR d (i : Int))) d.length)) (h : ∀ r ∈ d, pr r = some (q r)) : delK ix pr (Zb d) = some (Zb (d.filter fun r => !q r)) := by
  unfold delK
  rw [ZO, hix]
  have hg : ∀ i (hi : i < d.length), gR d (i : Int) = d[i] := fun i hi => by
    have := gR_at (xs := d) (v := (i : Int)) (by omega) (by omega)
    rw [Int.toNat_natCast, List.getElem?_eq_getElem hi] at this
    injection this with this
    exact this.symm
  by_cases hz : Zbo (fun i => q (gR d (i : Int))) d.length < 0
  · obtain ⟨h1, h2⟩ := findI_none hz
    simp only [h1, if_true]
    congr 2
    symm
    rw [List.filter_eq_self]
    intro x hx
    obtain ⟨i, hi, rfl⟩ := List.mem_iff_getElem.mp hx
    have := h2 i hi
    rw [hg i hi] at this
    rw [this]; rfl
  · obtain ⟨h1, h2, h3, h4⟩ := findI_some (p := fun i => q (gR d (i : Int))) (n := d.length) (by omega)
    generalize Zbo (fun i => q (gR d (i : Int))) d.length = z at *
    simp only [show ¬ z = -1 by omega, if_false]
    rw [ZaP ⟨by omega, by rw [Zw]; omega, by rw [Zw]; omega⟩]
    have ht : ∀ m, m ≤ d.length → (Zb d).take m = Zb (d.take m) ∧ (Zb d).drop m = Zb (d.drop m) := fun m hm => by
      have e : Zb d = Zb (d.take m) ++ Zb (d.drop m) := by rw [← Zai, List.take_append_drop]
      have l : (Zb (d.take m)).length = m := by rw [Zw, List.length_take]; omega
      rw [e]
      exact ⟨List.take_left' l, List.drop_left' l⟩
    rw [(ht z.toNat (by omega)).1, (ht (z.toNat + 1) (by omega)).2, delR_deep fun r hr => h r (List.mem_of_mem_drop hr)]
    simp only []
    rw [← Zai]
    congr 2
    have h5 : d = d.take z.toNat ++ (d[z.toNat] :: d.drop (z.toNat + 1)) := by rw [List.getElem_cons_drop, List.take_append_drop]
    conv => rhs; rw [h5]
    rw [List.filter_append, List.filter_cons]
    have h7 : q d[z.toNat] = true := by have := h2; rwa [hg _ h1] at this
    rw [h7]
    simp only [Bool.not_true, Bool.false_eq_true, if_false]
    congr 1
    symm
    rw [List.filter_eq_self]
    intro x hx
    obtain ⟨i, hi, rfl⟩ := List.mem_iff_getElem.mp hx
    rw [List.length_take] at hi
    have := h4 i (by omega)
    rw [hg i (by omega)] at this
    rw [List.getElem_take, this]; rfl
def insD (r : Nat → Int) (x : Nat) : List Nat → List Nat
  | [] => [x]
  | y :: l => if r y < r x then x :: y :: l else y :: insD r x l
def YaD (r : Nat → Int) (l : List Nat) : List Nat := l.foldl (fun a x => insD r x a) []
def AheadD (r : Nat → Int) (i j : Nat) : Prop := r j < r i ∨ (r i = r j ∧ i < j)
theorem insD_mem {r : Nat → Int} {x z : Nat} : ∀ {l : List Nat}, z ∈ insD r x l ↔ z = x ∨ z ∈ l
  | [] => by simp [insD]
  | y :: l => by
    unfold insD
    split
    · simp
    · simp only [List.mem_cons, insD_mem (l := l)]
      constructor
      · rintro (h | h | h) <;> simp [h]
      · rintro (h | h | h) <;> simp [h]
theorem insD_len {r : Nat → Int} {x : Nat} : ∀ {l : List Nat}, (insD r x l).length = l.length + 1
  | [] => rfl
  | y :: l => by
    unfold insD
    split
    · simp
    · simp [insD_len (l := l)]
theorem insD_pair {r : Nat → Int} {x : Nat} : ∀ {l : List Nat}, l.Pairwise (AheadD r) → (∀ y ∈ l, y < x) → (insD r x l).Pairwise (AheadD r)
  | [], _, _ => by simp [insD]
  | y :: l, h, hx => by
    obtain ⟨h1, h2⟩ := List.pairwise_cons.mp h
    unfold insD
    split
    · rename_i hr
      refine List.pairwise_cons.mpr ⟨fun z hz => ?_, h⟩
      rcases List.mem_cons.mp hz with rfl | hz
      · exact .inl hr
      · rcases h1 z hz with q | q
        · exact .inl (by omega)
        · exact .inl (by omega)
    · rename_i hr
      refine List.pairwise_cons.mpr ⟨fun z hz => ?_, insD_pair h2 fun z hz => hx z (by simp [hz])⟩
      rcases insD_mem.mp hz with rfl | hz
      · have := hx y (by simp)
        by_cases he : r y = r z
        · exact .inr ⟨he, this⟩
        · exact .inl (by omega)
      · exact h1 z hz
theorem foldD {r : Nat → Int} : ∀ (l a : List Nat), a.Pairwise (AheadD r) → l.Pairwise (· < ·) → (∀ y ∈ a, ∀ x ∈ l, y < x) →
    (l.foldl (fun a x => insD r x a) a).Pairwise (AheadD r) ∧ (∀ z, z ∈ l.foldl (fun a x => insD r x a) a ↔ z ∈ a ∨ z ∈ l) ∧ (l.foldl (fun a x => insD r x a) a).length = a.length + l.length
  | [], a, h, _, _ => ⟨h, by simp, by simp⟩
  | x :: l, a, h, hl, hx => by
    obtain ⟨h1, h2⟩ := List.pairwise_cons.mp hl
    obtain ⟨q1, q2, q3⟩ := foldD l (insD r x a) (insD_pair h fun y hy => hx y hy x (by simp)) h2 (fun y hy z hz => by
      rcases insD_mem.mp hy with rfl | hy
      · exact h1 z hz
      · exact hx y hy z (by simp [hz]))
    refine ⟨q1, fun z => ?_, by rw [List.foldl_cons, q3, insD_len, List.length_cons]; omega⟩
    rw [List.foldl_cons, q2, insD_mem, List.mem_cons]
    constructor
    · rintro ((h | h) | h) <;> simp [h]
    · rintro (h | h | h) <;> simp [h]
theorem isortD_facts {r : Nat → Int} {l : List Nat} (hl : l.Pairwise (· < ·)) : (YaD r l).Pairwise (AheadD r) ∧ (∀ z, z ∈ YaD r l ↔ z ∈ l) ∧ (YaD r l).length = l.length := by
  obtain ⟨h1, h2, h3⟩ := foldD (r := r) l [] (by simp) hl (by simp)
  exact ⟨h1, fun z => by rw [YaD, h2]; simp, by rw [YaD, h3]; simp⟩
theorem insD_map {r : Nat → Int} {f : Nat → Nat} {x : Nat} : ∀ {l : List Nat}, insD r (f x) (l.map f) = (insD (fun i => r (f i)) x l).map f
  | [] => rfl
  | y :: l => by
    simp only [List.map_cons, insD]
    split
    · rfl
    · rw [insD_map (l := l)]; rfl
theorem isortD_map {r : Nat → Int} {f : Nat → Nat} {l : List Nat} : YaD r (l.map f) = (YaD (fun i => r (f i)) l).map f := by
  have : ∀ (l a : List Nat), (l.map f).foldl (fun a x => insD r x a) (a.map f) = (l.foldl (fun a x => insD (fun i => r (f i)) x a) a).map f := by
    intro l
    induction l with
    | nil => intro a; rfl
    | cons x l ih => intro a; simp only [List.map_cons, List.foldl_cons, insD_map, ih]
  exact this l []
def bestD (r : Nat → Int) : List Nat → Option Nat → Option Nat
  | [], b => b
  | i :: l, none => bestD r l (some i)
  | i :: l, some b => if r b < r i then bestD r l (some i) else bestD r l (some b)
theorem bestD_some {r : Nat → Int} : ∀ {l : List Nat} {b : Nat}, (∀ i ∈ l, b < i) → l.Pairwise (· < ·) → ∃ c, bestD r l (some b) = some c ∧ (c = b ∨ c ∈ l) ∧ (c = b ∨ AheadD r c b) ∧ ∀ i ∈ l, i = c ∨ AheadD r c i
  | [], b, _, _ => ⟨b, rfl, .inl rfl, .inl rfl, by simp⟩
  | i :: l, b, h, hl => by
    obtain ⟨h1, h2⟩ := List.pairwise_cons.mp hl
    unfold bestD
    split
    · rename_i hr
      obtain ⟨c, q1, q2, q3, q4⟩ := bestD_some (r := r) (b := i) h1 h2
      refine ⟨c, q1, .inr (by rcases q2 with h | h <;> simp [h]), .inr ?_, fun j hj => ?_⟩
      · rcases q3 with rfl | q3
        · exact .inl hr
        · rcases q3 with q | q
          · exact .inl (by omega)
          · exact .inl (by omega)
      · rcases List.mem_cons.mp hj with rfl | hj
        · rcases q3 with rfl | q3
          · exact .inl rfl
          · exact .inr q3
        · exact q4 j hj
    · rename_i hr
      have hb := h i (by simp)
      obtain ⟨c, q1, q2, q3, q4⟩ := bestD_some (r := r) (b := b) (fun j hj => h j (by simp [hj])) h2
      refine ⟨c, q1, by rcases q2 with h | h <;> simp [h], q3, fun j hj => ?_⟩
      rcases List.mem_cons.mp hj with rfl | hj
      · have hbi : AheadD r b j := by
          by_cases he : r b = r j
          · exact .inr ⟨he, hb⟩
          · exact .inl (by omega)
        rcases q3 with rfl | q3
        · exact .inr hbi
        · right
          rcases q3 with q | q <;> rcases hbi with p | p
          · exact .inl (by omega)
          · exact .inl (by omega)
          · exact .inl (by omega)
          · exact .inr ⟨by omega, by omega⟩
      · exact q4 j hj
theorem best_next {r : Nat → Int} {l : List Nat} (hl : l.Pairwise (· < ·)) (h0 : ∀ i ∈ l, 0 ≤ r i) {t : Nat} (ht : t < l.length) {r' : Nat → Int}
    (hr : ∀ i ∈ l, r' i = if i ∈ (YaD r l).take t then -1 else r i) : bestD r' l none = (YaD r l)[t]? := by
  obtain ⟨s1, s2, s3⟩ := isortD_facts (r := r) hl
  have hT : t < (YaD r l).length := by omega
  generalize YaD r l = S at s1 s2 s3 hr hT ⊢
  rw [List.getElem?_eq_getElem hT]
  cases l with
  | nil => simp at ht
  | cons a l =>
    obtain ⟨h1, h2⟩ := List.pairwise_cons.mp hl
    obtain ⟨c, q1, q2, q3, q4⟩ := bestD_some (r := r') h1 h2
    unfold bestD
    rw [q1]
    congr 1
    have hnd : S.Nodup := s1.imp fun {i j} h e => by subst e; rcases h with h | h <;> omega
    have hSt : S[t] ∉ S.take t := fun h => by
      obtain ⟨i, hi, he⟩ := List.mem_take_iff_getElem.mp h
      have := (List.getElem_inj hnd).mp he
      omega
    have hm : S[t] ∈ a :: l := (s2 _).mp (List.getElem_mem hT)
    have hrt : r' S[t] = r S[t] := by rw [hr _ hm, if_neg hSt]
    have h0t := h0 _ hm
    -- c is in the list, and nothing is ahead of it
    have hcm : c ∈ a :: l := by rcases q2 with h | h <;> simp [h]
    have hall : ∀ i ∈ a :: l, i = c ∨ AheadD r' c i := fun i hi => by
      rcases List.mem_cons.mp hi with rfl | hi
      · rcases q3 with rfl | q
        · exact .inl rfl
        · exact .inr q
      · exact q4 i hi
    rcases hall _ hm with h | h
    · exact h.symm
    · exfalso
      have hcn : c ∉ S.take t := fun hc => by
        have := hr c hcm
        rw [if_pos hc] at this
        rcases h with h | h <;> omega
      have hcr : r' c = r c := by rw [hr c hcm, if_neg hcn]
      obtain ⟨j, hj, rfl⟩ := List.mem_iff_getElem.mp ((s2 c).mpr hcm)
      have hjt : t < j := by
        rcases Nat.lt_trichotomy j t with q | q | q
        · exact absurd (List.mem_take_iff_getElem.mpr ⟨j, by omega, rfl⟩) hcn
        · subst q
          rcases h with h | h <;> omega
        · exact q
      have := List.pairwise_iff_getElem.mp s1 t j hT hj hjt
      rw [AheadD, hrt, hcr] at h
      rcases this with p | p <;> rcases h with q | q <;> omega
section
variable (w c o : Nat → Int) (L : Nat) (n : Int)
def opB (i : Nat) : Bool := decide (0 < w i) && decide (o i < c i)
def opL : List Nat := (List.range L).filter (opB w c o)
def smL (l : List Nat) : Int := (l.map w).sum
abbrev smD : Int := smL w (opL w c o L)
def bsD (s : Int) (i : Nat) : Int := Int.tdiv (n * w i) s
def rsD (s : Int) (i : Nat) : Int := Int.tmod (n * w i) s
def lfD (s : Int) (l : List Nat) : Int := n - (l.map (bsD w n s)).sum
def chD (s : Int) (l : List Nat) : List Nat := (YaD (rsD w n s) l).take (lfD w n s l).toNat
def xD (s : Int) (l : List Nat) (i : Nat) : Int := bsD w n s i + if i ∈ chD w n s l then 1 else 0
def clD (s : Int) (l : List Nat) (i : Nat) : Int := if c i - o i < xD w n s l i then c i - o i else xD w n s l i
end
theorem sum_le {f : Nat → Int} {b : Int} : ∀ {l : List Nat}, (∀ i ∈ l, 0 ≤ f i ∧ f i ≤ b) → 0 ≤ (l.map f).sum ∧ (l.map f).sum ≤ b * l.length
  | [], _ => by simp
  | x :: l, h => by
    obtain ⟨q1, q2⟩ := sum_le (f := f) (b := b) (l := l) fun i hi => h i (by simp [hi])
    obtain ⟨p1, p2⟩ := h x (by simp)
    simp only [List.map_cons, List.sum_cons, List.length_cons]
    have : b * ((l.length + 1 : Nat) : Int) = b * (l.length : Int) + b := by rw [show ((l.length + 1 : Nat) : Int) = (l.length : Int) + 1 by omega, Int.mul_add, Int.mul_one]
    omega
theorem sum_split {w : Nat → Int} {n s : Int} (hs : 0 < s) (hn : 0 ≤ n) : ∀ {l : List Nat}, (∀ i ∈ l, 0 ≤ w i) → n * (l.map w).sum = s * (l.map (bsD w n s)).sum + (l.map (rsD w n s)).sum
  | [], _ => by simp
  | x :: l, h => by
    have ih := sum_split (w := w) hs hn (l := l) fun i hi => h i (by simp [hi])
    have h1 : s * bsD w n s x + rsD w n s x = n * w x := Int.mul_tdiv_add_tmod (n * w x) s
    simp only [List.map_cons, List.sum_cons]
    rw [Int.mul_add, Int.mul_add, ih, ← h1]
    omega
theorem rsD_bound {w : Nat → Int} {n s : Int} (hs : 0 < s) (hn : 0 ≤ n) {i : Nat} (h : 0 ≤ w i) : 0 ≤ rsD w n s i ∧ rsD w n s i < s ∧ 0 ≤ bsD w n s i := by
  have h0 : 0 ≤ n * w i := Int.mul_nonneg hn h
  exact ⟨Int.tmod_nonneg _ h0, Int.tmod_lt_of_pos _ hs, Int.tdiv_nonneg h0 (by omega)⟩
theorem lfD_bound {w : Nat → Int} {n : Int} {l : List Nat} (hn : 0 ≤ n) (hw : ∀ i ∈ l, 0 < w i) (hl : l ≠ []) : 0 < smL w l ∧ 0 ≤ lfD w n (smL w l) l ∧ lfD w n (smL w l) l < l.length ∧ 0 ≤ (l.map (bsD w n (smL w l))).sum := by
  have hs : 0 < smL w l := by
    cases l with
    | nil => exact absurd rfl hl
    | cons x l =>
      unfold smL
      have h1 := hw x (by simp)
      have h2 : 0 ≤ (l.map w).sum := by
        have : ∀ {l : List Nat}, (∀ i ∈ l, 0 < w i) → 0 ≤ (l.map w).sum := fun {l} => by
          induction l with
          | nil => simp
          | cons y l ih =>
            intro h
            have := h y (by simp)
            have := ih fun i hi => h i (by simp [hi])
            simp only [List.map_cons, List.sum_cons]
            omega
        exact this fun i hi => hw i (by simp [hi])
      simp only [List.map_cons, List.sum_cons]
      omega
  have hsp := sum_split (w := w) (n := n) hs hn (l := l) fun i hi => Int.le_of_lt (hw i hi)
  have hr := sum_le (f := rsD w n (smL w l)) (b := smL w l - 1) (l := l) fun i hi => by
    obtain ⟨p1, p2, _⟩ := rsD_bound (w := w) (n := n) hs hn (i := i) (Int.le_of_lt (hw i hi))
    omega
  change n * smL w l = _ at hsp
  have hb0 : 0 ≤ (l.map (bsD w n (smL w l))).sum := by
    have : ∀ {l' : List Nat} {s : Int}, 0 < s → (∀ i ∈ l', 0 < w i) → 0 ≤ (l'.map (bsD w n s)).sum := fun {l' s} hs => by
      induction l' with
      | nil => simp
      | cons y l ih =>
        intro h
        obtain ⟨_, _, p⟩ := rsD_bound (w := w) (n := n) hs hn (i := y) (Int.le_of_lt (h y (by simp)))
        have := ih fun i hi => h i (by simp [hi])
        simp only [List.map_cons, List.sum_cons]
        omega
    exact this hs hw
  generalize (l.map (rsD w n (smL w l))).sum = R at hsp hr
  have hlf : smL w l * lfD w n (smL w l) l = R := by
    unfold lfD
    rw [Int.mul_sub, Int.mul_comm _ n, hsp]
    omega
  refine ⟨hs, ?_, ?_, hb0⟩
  · generalize lfD w n (smL w l) l = f at hlf
    apply Int.not_lt.mp
    intro h
    have := Int.mul_neg_of_pos_of_neg hs h
    omega
  · generalize lfD w n (smL w l) l = f at hlf
    have h1 : smL w l * f < smL w l * l.length := by
      rw [hlf]
      have : (smL w l - 1) * (l.length : Int) = smL w l * l.length - l.length := by rw [Int.sub_mul, Int.one_mul]
      have h2 : 0 < l.length := List.length_pos_iff.mpr hl
      omega
    exact Int.lt_of_mul_lt_mul_left h1 (Int.le_of_lt hs)
theorem opL_facts {w c o : Nat → Int} {L : Nat} : (opL w c o L).Pairwise (· < ·) ∧ ∀ i, i ∈ opL w c o L ↔ i < L ∧ 0 < w i ∧ o i < c i := by
  refine ⟨List.Pairwise.filter _ List.pairwise_lt_range, fun i => ?_⟩
  simp [opL, opB]
theorem xD_sum {w : Nat → Int} {n : Int} {l : List Nat} (hp : l.Pairwise (· < ·)) (hn : 0 ≤ n) (hw : ∀ i ∈ l, 0 < w i) (hl : l ≠ []) : (l.map (xD w n (smL w l) l)).sum = n := by
  obtain ⟨h1, h2, h3, _⟩ := lfD_bound hn hw hl
  generalize hs : smL w l = s at h1 h2 h3
  obtain ⟨s1, s2, s3⟩ := isortD_facts (r := rsD w n s) hp
  have hnd : (chD w n s l).Nodup := by
    have : (YaD (rsD w n s) l).Nodup := s1.imp fun {i j} h e => by subst e; rcases h with h | h <;> omega
    exact this.sublist (List.take_sublist _ _)
  have hlen : ((chD w n s l).length : Int) = lfD w n s l := by
    unfold chD
    rw [List.length_take, s3]
    omega
  have hsub : ∀ i ∈ chD w n s l, i ∈ l := fun i hi => (s2 i).mp (List.mem_of_mem_take hi)
  have hcount : ∀ (l : List Nat), l.Pairwise (· < ·) → ∀ (ch : List Nat), ch.Nodup → (∀ i ∈ ch, i ∈ l) → (l.map fun i => if i ∈ ch then (1 : Int) else 0).sum = ch.length := by
    intro l
    induction l with
    | nil =>
      intro _ ch _ h
      cases ch with
      | nil => rfl
      | cons x ch => exact absurd (h x (by simp)) (by simp)
    | cons x l ih =>
      intro hp ch hnd hsub
      obtain ⟨p1, p2⟩ := List.pairwise_cons.mp hp
      simp only [List.map_cons, List.sum_cons]
      have hx : x ∉ l := fun h => by have := p1 x h; omega
      have e : (l.map fun i => if i ∈ ch then (1 : Int) else 0) = l.map fun i => if i ∈ ch.erase x then (1 : Int) else 0 := List.map_congr_left fun i hi => by
        have : i ≠ x := fun h => hx (h ▸ hi)
        simp only [List.mem_erase_of_ne this]
      rw [e, ih p2 (ch.erase x) (hnd.erase x) fun i hi => by
        have hne : i ≠ x := fun h => by subst h; exact (List.Nodup.not_mem_erase hnd) hi
        rcases List.mem_cons.mp (hsub i (List.mem_of_mem_erase hi)) with h | h
        · exact absurd h hne
        · exact h]
      by_cases hm : x ∈ ch
      · rw [if_pos hm, List.length_erase_of_mem hm]
        have := List.length_pos_of_mem hm
        omega
      · rw [if_neg hm, List.erase_of_not_mem hm]
        omega
  have hadd : ∀ (l : List Nat) (f g : Nat → Int), (l.map fun i => f i + g i).sum = (l.map f).sum + (l.map g).sum := by
    intro l f g
    induction l with
    | nil => rfl
    | cons x l ih => simp only [List.map_cons, List.sum_cons, ih]; omega
  have : l.map (xD w n s l) = l.map fun i => bsD w n s i + (if i ∈ chD w n s l then (1 : Int) else 0) := rfl
  rw [this, hadd, hcount l hp _ hnd hsub, hlen]
  unfold lfD
  omega
theorem clD_sum {w c o : Nat → Int} {n : Int} {l : List Nat} (hp : l.Pairwise (· < ·)) (hn : 0 < n) (hw : ∀ i ∈ l, 0 < w i) (hc : ∀ i ∈ l, o i < c i) (hl : l ≠ []) :
    (∀ i ∈ l, 0 ≤ clD w c o n (smL w l) l i ∧ clD w c o n (smL w l) l i ≤ c i - o i ∧ 0 ≤ xD w n (smL w l) l i) ∧ 0 < (l.map (clD w c o n (smL w l) l)).sum ∧ (l.map (clD w c o n (smL w l) l)).sum ≤ n := by
  obtain ⟨h1, h2, h3, _⟩ := lfD_bound (Int.le_of_lt hn) hw hl
  have hx := xD_sum hp (Int.le_of_lt hn) hw hl
  generalize smL w l = s at *
  have hx0 : ∀ i ∈ l, 0 ≤ xD w n s l i := fun i hi => by
    obtain ⟨_, _, p⟩ := rsD_bound (w := w) (n := n) h1 (Int.le_of_lt hn) (i := i) (Int.le_of_lt (hw i hi))
    unfold xD
    split <;> omega
  have hcl : ∀ i ∈ l, 0 ≤ clD w c o n s l i ∧ clD w c o n s l i ≤ c i - o i ∧ clD w c o n s l i ≤ xD w n s l i ∧ (0 < xD w n s l i → 0 < clD w c o n s l i) := fun i hi => by
    have := hx0 i hi
    have := hc i hi
    unfold clD
    split <;> omega
  refine ⟨fun i hi => ⟨(hcl i hi).1, (hcl i hi).2.1, hx0 i hi⟩, ?_⟩
  have gen : ∀ l' : List Nat, (∀ i ∈ l', i ∈ l) → 0 ≤ (l'.map (clD w c o n s l)).sum ∧ (l'.map (clD w c o n s l)).sum ≤ (l'.map (xD w n s l)).sum ∧ (0 < (l'.map (xD w n s l)).sum → 0 < (l'.map (clD w c o n s l)).sum) := by
    intro l'
    induction l' with
    | nil => intro _; simp
    | cons y l' ih =>
      intro h
      obtain ⟨q1, q2, q3⟩ := ih fun i hi => h i (by simp [hi])
      obtain ⟨p1, _, p2, p3⟩ := hcl y (h y (by simp))
      have := hx0 y (h y (by simp))
      simp only [List.map_cons, List.sum_cons]
      refine ⟨by omega, by omega, fun h => ?_⟩
      by_cases h0 : 0 < xD w n s l y
      · have := p3 h0; omega
      · have := q3 (by omega); omega
  have := gen l fun i hi => hi
  rw [hx] at this
  exact ⟨this.2.2 hn, this.2.1⟩
def rowF (L : Nat) (g : Nat → C) : List (List C) := (List.range L).map fun j => [g j]
def rowD (L : Nat) (g : Nat → D) : List (List D) := (List.range L).map fun j => [g j]
abbrev cI (o : Nat → Int) : Nat → C := fun j => .d (.int .i64 (o j))
abbrev cB (o : Nat → Bool) : Nat → C := fun j => .d (.bool (o j))
theorem rowF_len (L : Nat) (g : Nat → C) : (rowF L g).length = L := by simp [rowF]
theorem rowD_len (L : Nat) (g : Nat → D) : (rowD L g).length = L := by simp [rowD]
theorem rowF_ext {L : Nat} {g h : Nat → C} (e : ∀ j, j < L → g j = h j) : rowF L g = rowF L h := List.map_congr_left fun j hj => by rw [e j (List.mem_range.mp hj)]
theorem rowF_at {L : Nat} {g : Nat → C} {i : Nat} (h : i < L) {β : Type} (F : List C → Option β) : ZaG (rowF L g) i F = F [g i] := by
  unfold ZaG rowF
  rw [List.getElem?_map, List.getElem?_range h]
  rfl
theorem rowF_mod {L : Nat} {g : Nat → C} {i : Nat} (h : i < L) (x : C) : ((rowF L g).modify i fun c => Zq c 0 [x]) = rowF L (fun j => if j = i then x else g j) := by
  refine List.ext_getElem (by simp [rowF]) fun j h1 h2 => ?_
  rw [List.getElem_modify]
  simp only [rowF, List.getElem_map, List.getElem_range]
  by_cases hj : i = j
  · subst hj; simp [Zq]
  · rw [if_neg hj, if_neg (fun h => hj h.symm)]
theorem rowF_rep (L : Nat) (x : C) : List.replicate L [x] = rowF L (fun _ => x) := by
  refine List.ext_getElem (by simp [rowF]) fun j h1 h2 => ?_
  simp [rowF]
theorem immRows_map : ∀ (l : List (List C)), C.immRows l = l.map C.immCells
  | [] => rfl
  | x :: l => by simp only [C.immRows, List.map_cons, immRows_map l]
theorem imm_rowF (L : Nat) (g : Nat → C) : C.immRows (rowF L g) = rowD L (fun j => (g j).imm) := by
  rw [immRows_map, rowF, rowD, List.map_map]
  rfl
theorem rowD_at {L : Nat} {g : Nat → D} {i : Nat} (h : i < L) {β : Type} (F : List D → Option β) : Zbw (rowD L g) (i : Int) F = F [g i] := by
  unfold Zbw
  rw [if_pos (by omega), Int.toNat_natCast]
  unfold ZaG rowD
  rw [List.getElem?_map, List.getElem?_range h]
  rfl
theorem deep_rowI {L : Nat} {o : Nat → Int} : Zb (rowD L (fun j => .int .i64 (o j))) = rowF L (cI o) := by
  have : ∀ l : List Nat, Zb (l.map fun j => [D.int .i64 (o j)]) = l.map fun j => [C.d (.int .i64 (o j))] := fun l => by
    induction l with
    | nil => rfl
    | cons x l ih => simp only [List.map_cons, Zb, ZZ, ZbW, ih]
  exact this _
def upN (l : List Nat) : List (List C) := l.map fun (x : Nat) => [.d (.int .i64 (x : Int))]
def ofN (l : List Nat) : List (List D) := l.map fun (x : Nat) => [.int .i64 (x : Int)]
theorem upN_len (l : List Nat) : (upN l).length = l.length := by simp [upN]
theorem ofN_len (l : List Nat) : (ofN l).length = l.length := by simp [ofN]
theorem upN_app (a b : List Nat) : upN a ++ upN b = upN (a ++ b) := by simp [upN]
theorem imm_upN (l : List Nat) : C.immRows (upN l) = ofN l := by
  rw [immRows_map, upN, ofN, List.map_map]
  rfl
theorem upN_at {l : List Nat} {i : Nat} (h : i < l.length) {β : Type} (F : List C → Option β) : ZaG (upN l) i F = F [.d (.int .i64 (l[i] : Int))] := by simp [ZaG, upN, h]
theorem ofN_at {l : List Nat} {i : Nat} (h : i < l.length) {β : Type} (F : List D → Option β) : Zbw (ofN l) (i : Int) F = F [.int .i64 (l[i] : Int)] := by
  unfold Zbw
  rw [if_pos (by omega), Int.toNat_natCast]
  simp [ZaG, ofN, h]
theorem range_filter_succ (p : Nat → Bool) (i : Nat) : (List.range (i + 1)).filter p = (List.range i).filter p ++ (if p i then [i] else []) := by
  rw [List.range_succ, List.filter_append]
  simp [List.filter_cons]
theorem Yan.f_of {β : Type} {k a0 z0} (h : Yan.t k a0 = some z0) (K : Bool → Option β) : Yan.f k a0 K = K z0 := by unfold Yan.f; rw [h]; rfl
def RI8 (B : Nat) (r : List D) : Prop := ∃ (c0 : Int), r = [.int .u8 c0] ∧ (Lit.int .u8 c0).wf = true ∧ True
theorem RI8.open {B : Nat} {r : List D} (h : RI8 B r) : ∃ (c0 : Int), r = [.int .u8 c0] ∧ (Lit.int .u8 c0).wf = true ∧ True := h
theorem RI8.mono {B B' : Nat} (hb : B ≤ B') {r : List D} (h : RI8 B r) : RI8 B' r := by
  obtain ⟨c0, rfl, k0, _⟩ := h
  exact ⟨_, rfl, k0, trivial⟩
theorem RI8.wide {xs : List (List D)} (h : Zi RI8 lim xs) : Zi RI8 2097152 xs := ⟨Nat.le_trans h.1 (by decide), fun r hr => (h.2 r hr).mono (by decide)⟩
theorem RI8.len {B : Nat} {r : List D} (h : RI8 B r) : r.length = 1 := by
  obtain ⟨c0, rfl, _⟩ := h.open
  rfl
theorem RI8.flat {B : Nat} {xs : List (List D)} (h : ∀ r ∈ xs, RI8 B r) : ZaZ 1 xs := fun r hr => by
  obtain ⟨c0, rfl, _⟩ := (h r hr).open
  exact ⟨rfl, by simp [Zau]⟩
theorem RI8.wt {B : Nat} {xs : List (List D)} (h : ∀ r ∈ xs, RI8 B r) : Zp xs = 1 * xs.length := wt_flat (R := RI8 B) (fun r h => by obtain ⟨c0, rfl, _⟩ := h; rfl) xs h
theorem RI8.deep {B : Nat} {xs : List (List D)} (h : ∀ r ∈ xs, RI8 B r) : Zb xs = xs.map (·.map C.d) := deep_flat (R := RI8 B) (fun r h => by obtain ⟨c0, rfl, _⟩ := h; rfl) xs h
theorem RI8.gets {B : Nat} {xs : List (List D)} (h : ∀ r ∈ xs, RI8 B r) {v : Int} (h0 : 0 ≤ v) (h1 : v < xs.length) : gR xs v = [.int .u8 (gI xs v 0)] ∧ (Lit.int .u8 (gI xs v 0)).wf = true ∧ True := by
  obtain ⟨c0, e, k0, _⟩ := (h (gR xs v) (gR_mem h0 h1)).open
  unfold gI
  rw [e]
  exact ⟨rfl, k0, trivial⟩
theorem RI8.rows {B : Nat} {xs : List (List D)} (h : ∀ r ∈ xs, RI8 B r) {v : Int} (h0 : 0 ≤ v) (h1 : v < xs.length) {β : Type} (F : List D → Option β) : Zbw xs v F = F [.int .u8 (gI xs v 0)] := by
  rw [← (RI8.gets h h0 h1).1]
  exact Zbp h0 h1 F
theorem RI8.get {B : Nat} {xs : List (List D)} (h : Zi RI8 B xs) {v : Int} (h0 : 0 ≤ v) (h1 : v < xs.length) : gR xs v = [.int .u8 (gI xs v 0)] ∧ (Lit.int .u8 (gI xs v 0)).wf = true ∧ True := RI8.gets h.2 h0 h1
theorem RI8.row {B : Nat} {xs : List (List D)} (h : Zi RI8 B xs) {v : Int} (h0 : 0 ≤ v) (h1 : v < xs.length) {β : Type} (F : List D → Option β) : Zbw xs v F = F [.int .u8 (gI xs v 0)] := RI8.rows h.2 h0 h1 F
theorem YU.f_of {β : Type} {k a0 z0 z1 z2} (h : YU.t k a0 = some (z0, z1, z2)) (K : (List (List D)) → Int → Int → Option β) : YU.f k a0 K = K z0 z1 z2 := by unfold YU.f; rw [h]; rfl
theorem Y5.f_of {β : Type} {k aB aA aC z0 z1 z2 z3} (h : Y5.t k aB aA aC = some (z0, z1, z2, z3)) (K : Int → (List (List D)) → Int → Int → Option β) : Y5.f k aB aA aC K = K z0 z1 z2 z3 := by unfold Y5.f; rw [h]; rfl
theorem Yt.f_of {β : Type} {k aB aA aC a1 z0 z1 z2 z3} (h : Yt.t k aB aA aC a1 = some (z0, z1, z2, z3)) (K : Int → (List (List D)) → Int → Int → Option β) : Yt.f k aB aA aC a1 K = K z0 z1 z2 z3 := by unfold Yt.f; rw [h]; rfl
theorem iter_ex {V β : Type} {b : (V → Option β) → V → Option β} (m : V → Nat) (Inv : V → Prop) (Q : Option β → Prop) (step : ∀ v, Inv v → ∀ L, (∀ v', Inv v' → m v' < m v → Q (L v')) → Q (b L v)) : ∀ {k : Nat} {v : V}, Inv v → m v < k → Q (Zo b k v)
  | 0, v, _, h => absurd h (Nat.not_lt_zero _)
  | k + 1, v, hv, h => step v hv (Zo b k) fun v' hv' hlt => iter_ex m Inv Q step hv' (by omega)
structure Cur (b : List (List D)) (i : Int) : Prop where
  rows : Zi RI8 lim b
  ge : 0 ≤ i
  le : i ≤ 1048576
theorem and255 (x : Int) : 0 ≤ IntKind.wrap .i64 ((BitVec.ofInt (IntKind.bits .i64) x &&& BitVec.ofInt (IntKind.bits .i64) 255).toNat) ∧ IntKind.wrap .i64 ((BitVec.ofInt (IntKind.bits .i64) x &&& BitVec.ofInt (IntKind.bits .i64) 255).toNat) ≤ 255 := by
  have h : (BitVec.ofInt (IntKind.bits .i64) x &&& BitVec.ofInt (IntKind.bits .i64) 255).toNat ≤ 255 := by
    rw [BitVec.toNat_and]
    exact Nat.le_trans Nat.and_le_right (by decide)
  rw [Zj (by omega) (by omega)]
  omega
set_option maxRecDepth 100000 in
theorem byte_ex {b : List (List D)} {i h : Int} {k : Nat} (c : Cur b i) : ∃ x i' h', 0 ≤ x ∧ x ≤ 255 ∧ Cur b i' ∧ Y5.t k b i h = some (x, b, i', h') := by
  have hl := c.rows.1
  have hlim : lim = 1048576 := rfl
  have h0 := c.ge
  have h1 := c.le
  unfold Y5.t Y5.g; simp only [atR, rdQ, Q.ask]
  simp only [ZaP (show (0 : Int) ≤ 33 by decide), ZaP (show (0 : Int) ≤ 47 by decide)]
  by_cases hc : i < (b.length : Int)
  · simp only [ZQ hc, cond_true, atR, rdQ, Q.ask]
    rw [RI8.row c.rows h0 hc]
    simp only [ZY, Zad, Z6]
    exact ⟨_, _, _, (and255 _).1, (and255 _).2, ⟨c.rows, by rw [Zj (by omega) (by omega)]; omega, by rw [Zj (by omega) (by omega)]; omega⟩, rfl⟩
  · simp only [ZV hc, cond_false]
    exact ⟨_, _, _, (and255 _).1, (and255 _).2, c, rfl⟩
theorem tmod_in {x n : Int} (h0 : 0 ≤ x) (hn : 0 < n) : 0 ≤ Int.tmod x n ∧ Int.tmod x n < n := ⟨Int.tmod_nonneg _ h0, Int.tmod_lt_of_pos _ hn⟩
theorem Yau {b : List (List D)} {i h n : Int} {k : Nat} (c : Cur b i) : ∃ x i' h', 0 ≤ x ∧ (0 < n → x < n) ∧ (n ≤ 0 → x = 0) ∧ Cur b i' ∧ Yt.t k b i h n = some (x, b, i', h') := by
  unfold Yt.t Yt.g
  by_cases hn : n ≤ 0
  · simp only [ZQ hn, cond_true]
    exact ⟨_, _, _, Int.le_refl 0, fun _ => by omega, fun _ => rfl, c, rfl⟩
  · simp only [ZV hn, cond_false]
    have hn0 : 0 < n := by omega
    by_cases h2 : n ≤ 256
    · simp only [ZQ h2, cond_true]
      obtain ⟨x, i', h', x0, x1, c', e⟩ := byte_ex (k := k) (h := h) c
      rw [Y5.f_of e, ZaP (by omega)]
      exact ⟨_, _, _, (tmod_in x0 hn0).1, fun _ => (tmod_in x0 hn0).2, fun _ => by omega, c', rfl⟩
    · simp only [ZV h2, cond_false]
      obtain ⟨x, i1, h1, x0, x1, c1, e1⟩ := byte_ex (k := k) (h := h) c
      obtain ⟨y, i2, h2, y0, y1, c2, e2⟩ := byte_ex (k := k) (h := h1) c1
      obtain ⟨z, i3, h3, z0, z1, c3, e3⟩ := byte_ex (k := k) (h := h2) c2
      rw [Y5.f_of e1, Y5.f_of e2, Y5.f_of e3, ZaP (by omega)]
      have hw : 0 ≤ IntKind.wrap .i64 ((IntKind.wrap .i64 ((IntKind.wrap .i64 (x * 65536)) + (IntKind.wrap .i64 (y * 256)))) + z) := by
        rw [Zj (x := x * 65536) (by omega) (by omega), Zj (x := y * 256) (by omega) (by omega), Zj (x := x * 65536 + y * 256) (by omega) (by omega), Zj (by omega) (by omega)]
        omega
      exact ⟨_, _, _, (tmod_in hw hn0).1, fun _ => (tmod_in hw hn0).2, fun _ => by omega, c3, rfl⟩
set_option maxRecDepth 100000 in
theorem new_ex {b : List (List D)} {k : Nat} (g : Zi RI8 lim b) (hk : Z3 k) : ∃ h', YU.t k b = some (b, 0, h') := by
  have hl := g.1
  have hlim : lim = 1048576 := rfl
  have hb : big = 2 ^ 64 := rfl
  have key : ∀ n : Nat, ∀ (v : Int) (j : Int), 0 ≤ j → j ≤ b.length → (b.length : Int) - j ≤ n → ∀ k', n < k' → ∃ h', Zo (YU.l0 k b (fun z0 z1 z2 => some (z0, z1, z2))) k' (v, j) = some (b, 0, h') := by
    intro n
    induction n with
    | zero =>
      intro v j j0 j1 hn k' hk'
      rw [iter_step (by omega)]
      simp only [YU.l0, atR, rdQ, Q.ask, ZV (show ¬ j < (b.length : Int) by omega), cond_false]
      exact ⟨_, rfl⟩
    | succ n ih =>
      intro v j j0 j1 hn k' hk'
      rw [iter_step (by omega)]
      simp only [YU.l0, atR, rdQ, Q.ask, atR, rdQ, Q.ask]
      by_cases h1 : j < (b.length : Int)
      · by_cases h2 : j < 4000
        · simp only [ZQ h1, ZQ h2, cond_true]
          rw [RI8.row g j0 h1]
          simp only [ZY, Zad, Z6]
          rw [Zj (x := j + 1) (by omega) (by omega)]
          exact ih _ _ (by omega) (by omega) (by omega) _ (by omega)
        · simp only [ZQ h1, ZV h2, cond_true, cond_false]
          exact ⟨_, rfl⟩
      · simp only [ZV h1, cond_false]
        exact ⟨_, rfl⟩
  unfold YU.t YU.g
  exact key b.length _ 0 (by omega) (by omega) (by omega) k (by unfold Z3 at hk; omega)
theorem Cur.new {b : List (List D)} (g : Zi RI8 lim b) : Cur b 0 := ⟨g, by omega, by omega⟩
theorem Y1.f_of {β : Type} {k aB aA aC a1 z0 z1 z2 z3} (h : Y1.t k aB aA aC a1 = some (z0, z1, z2, z3)) (K : ByteArray → (List (List D)) → Int → Int → Option β) : Y1.f k aB aA aC a1 K = K z0 z1 z2 z3 := by unfold Y1.f; rw [h]; rfl
theorem Yab.f_of {β : Type} {k aB aA aC z0 z1 z2 z3} (h : Yab.t k aB aA aC = some (z0, z1, z2, z3)) (K : ByteArray → (List (List D)) → Int → Int → Option β) : Yab.f k aB aA aC K = K z0 z1 z2 z3 := by unfold Yab.f; rw [h]; rfl
theorem Yaa.f_of {β : Type} {k aB aA aC a1 z0 z1 z2 z3} (h : Yaa.t k aB aA aC a1 = some (z0, z1, z2, z3)) (K : Int → (List (List D)) → Int → Int → Option β) : Yaa.f k aB aA aC a1 K = K z0 z1 z2 z3 := by unfold Yaa.f; rw [h]; rfl
set_option maxRecDepth 100000 in
theorem int_ex {b : List (List D)} {i h : Int} {k : Nat} (c : Cur b i) (l : List Int) (hl : 0 < l.length) : ∃ x i' h', x ∈ l ∧ Cur b i' ∧ Yaa.t k b i h (l.map fun x => [.int .i64 x]) = some (x, b, i', h') := by
  obtain ⟨x, i', h', x0, x1, -, c', e⟩ := Yau (k := k) (h := h) (n := (l.length : Int)) c
  have x1 := x1 (by omega)
  unfold Yaa.t Yaa.g; simp only [atR, rdQ, Q.ask]
  rw [List.length_map, Yt.f_of e, Zbp x0 (by rw [List.length_map]; exact x1)]
  have e2 : gR (l.map fun x => [D.int .i64 x]) x = [.int .i64 (l[x.toNat]'(by omega))] := by
    unfold gR
    rw [List.getD_eq_getElem?_getD, List.getElem?_map, List.getElem?_eq_getElem (by omega)]
    rfl
  rw [e2]
  simp only [ZY, Zad, Z6]
  exact ⟨_, _, _, List.getElem_mem _, c', rfl⟩
theorem Yy.f_of {β : Type} {k a0 a1 a2 z0} (h : Yy.t k a0 a1 a2 = some z0) (K : Bool → Option β) : Yy.f k a0 a1 a2 K = K z0 := by unfold Yy.f; rw [h]; rfl
theorem Yy.tm {ι α : Type} {ok : ι → Prop} {ψ : α → Prop} {p : ι → Nat} {B : Nat} (hp : ∀ i, ok i → B ≤ p i) {a0 a1 a2 φ} (h : Tm (fun k => B ≤ k) (fun k => Yy.t k a0 a1 a2) φ) {G : ι → Bool → Option α} (hG : ∀ z0, φ z0 → Tm ok (fun i => G i z0) ψ) : Tm ok (fun i => Yy.f (p i) a0 a1 a2 (G i)) ψ := ZK (t := fun k => Yy.t k a0 a1 a2) hp h hG
theorem Yy.T {a0 a1 a2 : Int} : Tm Z3 (fun k => Yy.t k a0 a1 a2) (fun r => r = true → a1 ≤ a0 ∧ a0 ≤ a2) := by
  unfold Yy.t Yy.g
  have hm := Zy
  have hlim : lim = 1048576 := rfl
  refine Tm.ite (fun h1 => ?_) (fun h1 => ?_)
  · try simp only [bz0, bz1, bz2, bz3, bz4, bz5, bz6, bz7, bz8, bz9, bza] at h1
    exact Tm.ret (by first | (intro h; simp at h; omega) | (intro h; cases h))
  · try simp only [bz0, bz1, bz2, bz3, bz4, bz5, bz6, bz7, bz8, bz9, bza] at h1
    exact Tm.ret (by first | (intro h; simp at h; omega) | (intro h; cases h))
theorem l1In_f {β : Type} {k : Nat} {a b c : Int} (K : Bool → Option β) : Yy.f k a b c K = K (decide (b ≤ a) && decide (a ≤ c)) := by
  refine Yy.f_of ?_ K
  unfold Yy.t Yy.g
  by_cases h : b ≤ a <;> simp [h]
def inB (a b c : Int) : Bool := decide (b ≤ a) && decide (a ≤ c)
theorem YaG {β : Type} {k : Nat} {a b c : Int} (K : Bool → Option β) : Yy.f k a b c K = K (inB a b c) := l1In_f K
theorem Yh.f_of {β : Type} {k a0 z0} (h : Yh.t k a0 = some z0) (K : Bool → Option β) : Yh.f k a0 K = K z0 := by unfold Yh.f; rw [h]; rfl
theorem Yh.tm {ι α : Type} {ok : ι → Prop} {ψ : α → Prop} {p : ι → Nat} {B : Nat} (hp : ∀ i, ok i → B ≤ p i) {a0 φ} (h : Tm (fun k => B ≤ k) (fun k => Yh.t k a0) φ) {G : ι → Bool → Option α} (hG : ∀ z0, φ z0 → Tm ok (fun i => G i z0) ψ) : Tm ok (fun i => Yh.f (p i) a0 (G i)) ψ := ZK (t := fun k => Yh.t k a0) hp h hG
theorem Yh.T {a0 : ByteArray} (ga0 : a0.size ≤ lim) : Tm Z3 (fun k => Yh.t k a0) (fun _ => True) := by
  unfold Yh.t Yh.g
  have hm := Zy
  have hlim : lim = 1048576 := rfl
  refine Tm.loop (okk := Z3) (p := fun k => k) (fun i hi => hi) (b := fun k => Yh.l0 k a0 (fun z0 => some z0)) (fun i => (((a0.size : Int)) - i).toNat) (fun i => 0 ≤ i ∧ i ≤ (a0.size : Int)) ?_ ?_ ?_
  · rintro i hI
    try simp only [] at hI ⊢
    have : big = 2 ^ 64 := rfl
    omega
  · ((try simp only []); omega)
  · rintro i hI L hL
    try simp only [] at hI
    obtain ⟨i0, i1⟩ := hI
    simp only [Yh.l0]
    refine Tm.ite (fun h1 => ?_) (fun h1 => ?_)
    · try simp only [bz0, bz1, bz2, bz3, bz4, bz5, bz6, bz7, bz8, bz9, bza] at h1
      refine Tm.atStr (by first | assumption | omega) (by first | assumption | omega) (fun b2 hb3 => ?_)
      try rw [Zj (x := (b2.toNat : Int)) (by omega) (by omega)]
      refine Yy.tm (fun i hi => hi.1) (Yy.T) (fun y5 hy4 => ?_)
      refine Tm.ite (fun h6 => ?_) (fun h6 => ?_)
      · try simp only [bz0, bz1, bz2, bz3, bz4, bz5, bz6, bz7, bz8, bz9, bza] at h6
        refine Tm.atStr (by first | assumption | omega) (by first | assumption | omega) (fun b7 hb8 => ?_)
        try rw [Zj (x := (b7.toNat : Int)) (by omega) (by omega)]
        refine Yy.tm (fun i hi => hi.1) (Yy.T) (fun y10 hy9 => ?_)
        refine Tm.ite (fun h11 => ?_) (fun h11 => ?_)
        · try simp only [bz0, bz1, bz2, bz3, bz4, bz5, bz6, bz7, bz8, bz9, bza] at h11
          refine Tm.atStr (by first | assumption | omega) (by first | assumption | omega) (fun b12 hb13 => ?_)
          refine Tm.ite (fun h14 => ?_) (fun h14 => ?_)
          · try simp only [bz0, bz1, bz2, bz3, bz4, bz5, bz6, bz7, bz8, bz9, bza] at h14
            exact Tm.ret (by trivial)
          · try simp only [bz0, bz1, bz2, bz3, bz4, bz5, bz6, bz7, bz8, bz9, bza] at h14
            try rw [Zj (x := i + 1) (by omega) (by omega)]
            exact hL _ (by (try simp only []); omega) (by (try simp only []); omega)
        · try simp only [bz0, bz1, bz2, bz3, bz4, bz5, bz6, bz7, bz8, bz9, bza] at h11
          have z15 := hy9 h11
          try rw [Zj (x := i + 1) (by omega) (by omega)]
          exact hL _ (by (try simp only []); omega) (by (try simp only []); omega)
      · try simp only [bz0, bz1, bz2, bz3, bz4, bz5, bz6, bz7, bz8, bz9, bza] at h6
        have z16 := hy4 h6
        try rw [Zj (x := i + 1) (by omega) (by omega)]
        exact hL _ (by (try simp only []); omega) (by (try simp only []); omega)
    · try simp only [bz0, bz1, bz2, bz3, bz4, bz5, bz6, bz7, bz8, bz9, bza] at h1
      refine Yy.tm (fun i hi => hi.1) (Yy.T) (fun y18 hy17 => ?_)
      refine Tm.ite (fun h19 => ?_) (fun h19 => ?_)
      · try simp only [bz0, bz1, bz2, bz3, bz4, bz5, bz6, bz7, bz8, bz9, bza] at h19
        have z20 := hy17 h19
        refine Tm.atStr (by first | assumption | omega) (by first | assumption | omega) (fun b21 hb22 => ?_)
        refine Tm.ite (fun h23 => ?_) (fun h23 => ?_)
        · try simp only [bz0, bz1, bz2, bz3, bz4, bz5, bz6, bz7, bz8, bz9, bza] at h23
          try rw [Zj (x := (a0.size : Int) - 1) (by omega) (by omega)]
          refine Tm.atStr (by first | assumption | omega) (by first | assumption | omega) (fun b24 hb25 => ?_)
          exact Tm.ret (by trivial)
        · try simp only [bz0, bz1, bz2, bz3, bz4, bz5, bz6, bz7, bz8, bz9, bza] at h23
          exact Tm.ret (by trivial)
      · try simp only [bz0, bz1, bz2, bz3, bz4, bz5, bz6, bz7, bz8, bz9, bza] at h19
        exact Tm.ret (by trivial)
noncomputable def Yh.v (a0 : ByteArray) : Bool := (Yh.t big a0).getD default
theorem Yh.tv {a0 : ByteArray} (ga0 : a0.size ≤ lim) {k : Nat} (hk : Z3 k) : Yh.t k a0 = some (Yh.v a0) := (Yh.T ga0).val hk
theorem Yh.fv {a0 : ByteArray} (ga0 : a0.size ≤ lim) {k : Nat} (hk : Z3 k) {β : Type} (K : Bool → Option β) : Yh.f k a0 K = K (Yh.v a0) := Yh.f_of (Yh.tv ga0 hk) K
noncomputable def namesB (xs : List (List D)) : Bool := (List.range xs.length).all fun i => Yh.v (gS xs (i : Int) 0) && (!decide ((i : Int) > 0) || ZbO (gS xs ((i : Int) - 1) 0) (gS xs (i : Int) 0))
theorem Yaf.f_of {β : Type} {k aB aA aC a1 z0 z1 z2 z3} (h : Yaf.t k aB aA aC a1 = some (z0, z1, z2, z3)) (K : Bool → (List (List D)) → Int → Int → Option β) : Yaf.f k aB aA aC a1 K = K z0 z1 z2 z3 := by unfold Yaf.f; rw [h]; rfl
theorem once_ex {b : List (List D)} {i h n : Int} {k : Nat} (c : Cur b i) : ∃ x i' h', Cur b i' ∧ Yaf.t k b i h n = some (x, b, i', h') := by
  obtain ⟨x, i', h', -, -, -, c', e⟩ := Yau (k := k) (h := h) (n := n) c
  unfold Yaf.t Yaf.g
  rw [Yt.f_of e]
  exact ⟨_, _, _, c', rfl⟩
theorem Yae.f_of {β : Type} {k aB aA aC z0 z1 z2 z3} (h : Yae.t k aB aA aC = some (z0, z1, z2, z3)) (K : ByteArray → (List (List D)) → Int → Int → Option β) : Yae.f k aB aA aC K = K z0 z1 z2 z3 := by unfold Yae.f; rw [h]; rfl
theorem Ys.f_of {β : Type} {k a0 a1 z0 z1} (h : Ys.t k a0 a1 = some (z0, z1)) (K : ByteArray → Bool → Option β) : Ys.f k a0 a1 K = K z0 z1 := by unfold Ys.f; rw [h]; rfl
def RSS (B : Nat) (r : List D) : Prop := ∃ (c0 : ByteArray) (c1 : ByteArray), r = [.str c0, .str c1] ∧ c0.size ≤ B ∧ c1.size ≤ B ∧ True
theorem RSS.open {B : Nat} {r : List D} (h : RSS B r) : ∃ (c0 : ByteArray) (c1 : ByteArray), r = [.str c0, .str c1] ∧ c0.size ≤ B ∧ c1.size ≤ B ∧ True := h
theorem RSS.mono {B B' : Nat} (hb : B ≤ B') {r : List D} (h : RSS B r) : RSS B' r := by
  obtain ⟨c0, c1, rfl, k0, k1, _⟩ := h
  exact ⟨_, _, rfl, (Nat.le_trans k0 hb), (Nat.le_trans k1 hb), trivial⟩
theorem RSS.wide {xs : List (List D)} (h : Zi RSS lim xs) : Zi RSS 2097152 xs := ⟨Nat.le_trans h.1 (by decide), fun r hr => (h.2 r hr).mono (by decide)⟩
theorem RSS.len {B : Nat} {r : List D} (h : RSS B r) : r.length = 2 := by
  obtain ⟨c0, c1, rfl, _⟩ := h.open
  rfl
theorem RSS.flat {B : Nat} {xs : List (List D)} (h : ∀ r ∈ xs, RSS B r) : ZaZ 2 xs := fun r hr => by
  obtain ⟨c0, c1, rfl, _⟩ := (h r hr).open
  exact ⟨rfl, by simp [Zau]⟩
theorem RSS.wt {B : Nat} {xs : List (List D)} (h : ∀ r ∈ xs, RSS B r) : Zp xs = 2 * xs.length := wt_flat (R := RSS B) (fun r h => by obtain ⟨c0, c1, rfl, _⟩ := h; rfl) xs h
theorem RSS.deep {B : Nat} {xs : List (List D)} (h : ∀ r ∈ xs, RSS B r) : Zb xs = xs.map (·.map C.d) := deep_flat (R := RSS B) (fun r h => by obtain ⟨c0, c1, rfl, _⟩ := h; rfl) xs h
theorem RSS.gets {B : Nat} {xs : List (List D)} (h : ∀ r ∈ xs, RSS B r) {v : Int} (h0 : 0 ≤ v) (h1 : v < xs.length) : gR xs v = [.str (gS xs v 0), .str (gS xs v 1)] ∧ (gS xs v 0).size ≤ B ∧ (gS xs v 1).size ≤ B ∧ True := by
  obtain ⟨c0, c1, e, k0, k1, _⟩ := (h (gR xs v) (gR_mem h0 h1)).open
  unfold gS
  rw [e]
  exact ⟨rfl, k0, k1, trivial⟩
theorem RSS.rows {B : Nat} {xs : List (List D)} (h : ∀ r ∈ xs, RSS B r) {v : Int} (h0 : 0 ≤ v) (h1 : v < xs.length) {β : Type} (F : List D → Option β) : Zbw xs v F = F [.str (gS xs v 0), .str (gS xs v 1)] := by
  rw [← (RSS.gets h h0 h1).1]
  exact Zbp h0 h1 F
theorem RSS.get {B : Nat} {xs : List (List D)} (h : Zi RSS B xs) {v : Int} (h0 : 0 ≤ v) (h1 : v < xs.length) : gR xs v = [.str (gS xs v 0), .str (gS xs v 1)] ∧ (gS xs v 0).size ≤ B ∧ (gS xs v 1).size ≤ B ∧ True := RSS.gets h.2 h0 h1
theorem RSS.row {B : Nat} {xs : List (List D)} (h : Zi RSS B xs) {v : Int} (h0 : 0 ≤ v) (h1 : v < xs.length) {β : Type} (F : List D → Option β) : Zbw xs v F = F [.str (gS xs v 0), .str (gS xs v 1)] := RSS.rows h.2 h0 h1 F
set_option maxRecDepth 100000 in
theorem Ys.T {a0 : List (List D)} {a1 : ByteArray} (ga0 : Zi RSS lim a0) (ga1 : a1.size ≤ lim) : Tm Z3 (fun k => Ys.t k a0 a1) (fun z => z.1.size ≤ lim) := by
  unfold Ys.t Ys.g
  have hm := Zy
  have hlim : lim = 1048576 := rfl
  have la0 := ga0.1
  refine Tm.loop (okk := Z3) (p := fun k => k) (fun i hi => hi) (b := fun k => Ys.l0 k a0 a1 (fun z0 z1 => some (z0, z1))) (fun i => (((a0.length : Int)) - i).toNat) (fun i => 0 ≤ i ∧ i ≤ (a0.length : Int)) ?_ ?_ ?_
  · rintro i hI
    try simp only [] at hI ⊢
    have : big = 2 ^ 64 := rfl
    omega
  · ((try simp only []); omega)
  · rintro i hI L hL
    try simp only [] at hI
    obtain ⟨i0, i1⟩ := hI
    simp only [Ys.l0, atR, rdQ, Q.ask]
    refine Tm.ite (fun h1 => ?_) (fun h1 => ?_)
    · try simp only [bz0, bz1, bz2, bz3, bz4, bz5, bz6, bz7, bz8, bz9, bza] at h1
      refine Tm.atRow (by first | assumption | omega) (by first | assumption | omega) (fun x2 hx3 hm4 => ?_)
      obtain ⟨c5, c6, rfl, g7, g8, _⟩ := (ga0.2 x2 hm4).open
      refine Tm.uncons ?_
      refine Tm.dStr ?_
      refine Tm.uncons ?_
      refine Tm.dStr ?_
      refine Tm.atEnd ?_
      refine Tm.ite (fun h9 => ?_) (fun h9 => ?_)
      · try simp only [bz0, bz1, bz2, bz3, bz4, bz5, bz6, bz7, bz8, bz9, bza] at h9
        refine Tm.atRow (by first | assumption | omega) (by first | assumption | omega) (fun x10 hx11 hm12 => ?_)
        rw [hx3] at hx11
        injection hx11 with hx11
        subst hx11
        refine Tm.uncons ?_
        refine Tm.dStr ?_
        refine Tm.uncons ?_
        refine Tm.dStr ?_
        refine Tm.atEnd ?_
        exact Tm.ret (by first | assumption | (simp only [lim]; decide))
      · try simp only [bz0, bz1, bz2, bz3, bz4, bz5, bz6, bz7, bz8, bz9, bza] at h9
        try rw [Zj (x := i + 1) (by omega) (by omega)]
        exact hL _ (by (try simp only []); omega) (by (try simp only []); omega)
    · try simp only [bz0, bz1, bz2, bz3, bz4, bz5, bz6, bz7, bz8, bz9, bza] at h1
      exact Tm.ret (by first | assumption | (simp only [lim]; decide))
noncomputable def Ys.v (a0 : List (List D)) (a1 : ByteArray) : ByteArray × Bool := (Ys.t big a0 a1).getD default
theorem Ys.tv {a0 : List (List D)} {a1 : ByteArray} (ga0 : Zi RSS lim a0) (ga1 : a1.size ≤ lim) {k : Nat} (hk : Z3 k) : Ys.t k a0 a1 = some (Ys.v a0 a1) := (Ys.T ga0 ga1).val hk
theorem Ys.fv {a0 : List (List D)} {a1 : ByteArray} (ga0 : Zi RSS lim a0) (ga1 : a1.size ≤ lim) {k : Nat} (hk : Z3 k) {β : Type} (K : ByteArray → Bool → Option β) : Ys.f k a0 a1 K = K ((Ys.v a0 a1).1) ((Ys.v a0 a1).2) := Ys.f_of (Ys.tv ga0 ga1 hk) K
theorem Yu.f_of {β : Type} {k a0 z0} (h : Yu.t k a0 = some z0) (K : Bool → Option β) : Yu.f k a0 K = K z0 := by unfold Yu.f; rw [h]; rfl
set_option maxRecDepth 100000 in
theorem Yu.T {a0 : List (List D)} (ga0 : Zi RSS lim a0) : Tm Z3 (fun k => Yu.t k a0) (fun _ => True) := by
  unfold Yu.t Yu.g
  have hm := Zy
  have hlim : lim = 1048576 := rfl
  have la0 := ga0.1
  refine Tm.loop (okk := Z3) (p := fun k => k) (fun i hi => hi) (b := fun k => Yu.l0 k a0 (fun z0 => some z0)) (fun i => (((a0.length : Int)) - i).toNat) (fun i => 0 ≤ i ∧ i ≤ (a0.length : Int)) ?_ ?_ ?_
  · rintro i hI
    try simp only [] at hI ⊢
    have : big = 2 ^ 64 := rfl
    omega
  · ((try simp only []); omega)
  · rintro i hI L hL
    try simp only [] at hI
    obtain ⟨i0, i1⟩ := hI
    simp only [Yu.l0, atR, rdQ, Q.ask]
    refine Tm.ite (fun h1 => ?_) (fun h1 => ?_)
    · try simp only [bz0, bz1, bz2, bz3, bz4, bz5, bz6, bz7, bz8, bz9, bza] at h1
      refine Tm.atRow (by first | assumption | omega) (by first | assumption | omega) (fun x2 hx3 hm4 => ?_)
      obtain ⟨c5, c6, rfl, g7, g8, _⟩ := (ga0.2 x2 hm4).open
      refine Tm.uncons ?_
      refine Tm.dStr ?_
      refine Tm.uncons ?_
      refine Tm.dStr ?_
      refine Tm.atEnd ?_
      refine Yh.tm (fun i hi => hi.1) (Yh.T (by first | assumption | omega)) (fun y10 hy9 => ?_)
      refine Tm.ite (fun h11 => ?_) (fun h11 => ?_)
      · try simp only [bz0, bz1, bz2, bz3, bz4, bz5, bz6, bz7, bz8, bz9, bza] at h11
        exact Tm.ret (by trivial)
      · try simp only [bz0, bz1, bz2, bz3, bz4, bz5, bz6, bz7, bz8, bz9, bza] at h11
        refine Tm.atRow (by first | assumption | omega) (by first | assumption | omega) (fun x12 hx13 hm14 => ?_)
        rw [hx3] at hx13
        injection hx13 with hx13
        subst hx13
        refine Tm.uncons ?_
        refine Tm.dStr ?_
        refine Tm.uncons ?_
        refine Tm.dStr ?_
        refine Tm.atEnd ?_
        refine Yh.tm (fun i hi => hi.1) (Yh.T (by first | assumption | omega)) (fun y18 hy17 => ?_)
        refine Tm.ite (fun h19 => ?_) (fun h19 => ?_)
        · try simp only [bz0, bz1, bz2, bz3, bz4, bz5, bz6, bz7, bz8, bz9, bza] at h19
          exact Tm.ret (by trivial)
        · try simp only [bz0, bz1, bz2, bz3, bz4, bz5, bz6, bz7, bz8, bz9, bza] at h19
          refine Tm.ite (fun h20 => ?_) (fun h20 => ?_)
          · try simp only [bz0, bz1, bz2, bz3, bz4, bz5, bz6, bz7, bz8, bz9, bza] at h20
            try rw [Zj (x := i - 1) (by omega) (by omega)]
            refine Tm.atRow (by first | assumption | omega) (by first | assumption | omega) (fun x21 hx22 hm23 => ?_)
            obtain ⟨c24, c25, rfl, g26, g27, _⟩ := (ga0.2 x21 hm23).open
            refine Tm.uncons ?_
            refine Tm.dStr ?_
            refine Tm.uncons ?_
            refine Tm.dStr ?_
            refine Tm.atEnd ?_
            refine Tm.atRow (by first | assumption | omega) (by first | assumption | omega) (fun x28 hx29 hm30 => ?_)
            rw [hx3] at hx29
            injection hx29 with hx29
            subst hx29
            refine Tm.uncons ?_
            refine Tm.dStr ?_
            refine Tm.uncons ?_
            refine Tm.dStr ?_
            refine Tm.atEnd ?_
            refine Tm.ite (fun h33 => ?_) (fun h33 => ?_)
            · try simp only [bz0, bz1, bz2, bz3, bz4, bz5, bz6, bz7, bz8, bz9, bza] at h33
              exact Tm.ret (by trivial)
            · try simp only [bz0, bz1, bz2, bz3, bz4, bz5, bz6, bz7, bz8, bz9, bza] at h33
              try rw [Zj (x := i + 1) (by omega) (by omega)]
              exact hL _ (by (try simp only []); omega) (by (try simp only []); omega)
          · try simp only [bz0, bz1, bz2, bz3, bz4, bz5, bz6, bz7, bz8, bz9, bza] at h20
            try rw [Zj (x := i + 1) (by omega) (by omega)]
            exact hL _ (by (try simp only []); omega) (by (try simp only []); omega)
    · try simp only [bz0, bz1, bz2, bz3, bz4, bz5, bz6, bz7, bz8, bz9, bza] at h1
      exact Tm.ret (by trivial)
noncomputable def Yu.v (a0 : List (List D)) : Bool := (Yu.t big a0).getD default
theorem Yu.tv {a0 : List (List D)} (ga0 : Zi RSS lim a0) {k : Nat} (hk : Z3 k) : Yu.t k a0 = some (Yu.v a0) := (Yu.T ga0).val hk
theorem Yu.fv {a0 : List (List D)} (ga0 : Zi RSS lim a0) {k : Nat} (hk : Z3 k) {β : Type} (K : Bool → Option β) : Yu.f k a0 K = K (Yu.v a0) := Yu.f_of (Yu.tv ga0 hk) K
theorem Y2.f_of {β : Type} {k a0 z0} (h : Y2.t k a0 = some z0) (K : (List (List C)) → Option β) : Y2.f k a0 K = K z0 := by unfold Y2.f; rw [h]; rfl
theorem Yr.f_of {β : Type} {k a0 a1 a2 z0 z1} (h : Yr.t k a0 a1 a2 = some (z0, z1)) (K : (List (List C)) → Bool → Option β) : Yr.f k a0 a1 a2 K = K z0 z1 := by unfold Yr.f; rw [h]; rfl
theorem YK.f_of {β : Type} {k aB aA aC a1 z0 z1 z2 z3} (h : YK.t k aB aA aC a1 = some (z0, z1, z2, z3)) (K : (List (List C)) → (List (List D)) → Int → Int → Option β) : YK.f k aB aA aC a1 K = K z0 z1 z2 z3 := by unfold YK.f; rw [h]; rfl
theorem Yc.f_of {β : Type} {k : Nat} {aB : List (List D)} {aA aC a1 z0 : Int} {z1 : ByteArray} {z2 : Int} {z3 z4 : List (List C)} {z5 : List (List D)} {z6 z7 : Int} (h : Yc.t k aB aA aC a1 = some (z0, z1, z2, z3, z4, z5, z6, z7)) (K : Int → ByteArray → Int → (List (List C)) → (List (List C)) → (List (List D)) → Int → Int → Option β) : Yc.f k aB aA aC a1 K = K z0 z1 z2 z3 z4 z5 z6 z7 := by
  unfold Yc.f
  unfold Yc.w
  rw [h]
theorem YF.f_of {β : Type} {k aB aA aC z0 z1 z2 z3} (h : YF.t k aB aA aC = some (z0, z1, z2, z3)) (K : (List (List C)) → (List (List D)) → Int → Int → Option β) : YF.f k aB aA aC K = K z0 z1 z2 z3 := by unfold YF.f; rw [h]; rfl
theorem Yv.f_of {β : Type} {k aB aA aC aI aF z0 z1 z2 z3 z4} (h : Yv.t k aB aA aC aI aF = some (z0, z1, z2, z3, z4)) (K : Int → ByteArray → Int → (List (List C)) → (List (List C)) → Option β) : Yv.f k aB aA aC aI aF K = K z0 z1 z2 z3 z4 := by unfold Yv.f Yv.w; rw [h]; rfl
theorem YC.f_of {β : Type} {k a0 z0} (h : YC.t k a0 = some z0) (K : (List (List C)) → Option β) : YC.f k a0 K = K z0 := by unfold YC.f; rw [h]; rfl
def RS (B : Nat) (r : List D) : Prop := ∃ (c0 : ByteArray), r = [.str c0] ∧ c0.size ≤ B ∧ True
theorem RS.open {B : Nat} {r : List D} (h : RS B r) : ∃ (c0 : ByteArray), r = [.str c0] ∧ c0.size ≤ B ∧ True := h
theorem RS.mono {B B' : Nat} (hb : B ≤ B') {r : List D} (h : RS B r) : RS B' r := by
  obtain ⟨c0, rfl, k0, _⟩ := h
  exact ⟨_, rfl, (Nat.le_trans k0 hb), trivial⟩
theorem RS.wide {xs : List (List D)} (h : Zi RS lim xs) : Zi RS 2097152 xs := ⟨Nat.le_trans h.1 (by decide), fun r hr => (h.2 r hr).mono (by decide)⟩
theorem RS.len {B : Nat} {r : List D} (h : RS B r) : r.length = 1 := by
  obtain ⟨c0, rfl, _⟩ := h.open
  rfl
theorem RS.flat {B : Nat} {xs : List (List D)} (h : ∀ r ∈ xs, RS B r) : ZaZ 1 xs := fun r hr => by
  obtain ⟨c0, rfl, _⟩ := (h r hr).open
  exact ⟨rfl, by simp [Zau]⟩
theorem RS.wt {B : Nat} {xs : List (List D)} (h : ∀ r ∈ xs, RS B r) : Zp xs = 1 * xs.length := wt_flat (R := RS B) (fun r h => by obtain ⟨c0, rfl, _⟩ := h; rfl) xs h
theorem RS.deep {B : Nat} {xs : List (List D)} (h : ∀ r ∈ xs, RS B r) : Zb xs = xs.map (·.map C.d) := deep_flat (R := RS B) (fun r h => by obtain ⟨c0, rfl, _⟩ := h; rfl) xs h
theorem RS.gets {B : Nat} {xs : List (List D)} (h : ∀ r ∈ xs, RS B r) {v : Int} (h0 : 0 ≤ v) (h1 : v < xs.length) : gR xs v = [.str (gS xs v 0)] ∧ (gS xs v 0).size ≤ B ∧ True := by
  obtain ⟨c0, e, k0, _⟩ := (h (gR xs v) (gR_mem h0 h1)).open
  unfold gS
  rw [e]
  exact ⟨rfl, k0, trivial⟩
theorem RS.rows {B : Nat} {xs : List (List D)} (h : ∀ r ∈ xs, RS B r) {v : Int} (h0 : 0 ≤ v) (h1 : v < xs.length) {β : Type} (F : List D → Option β) : Zbw xs v F = F [.str (gS xs v 0)] := by
  rw [← (RS.gets h h0 h1).1]
  exact Zbp h0 h1 F
theorem RS.get {B : Nat} {xs : List (List D)} (h : Zi RS B xs) {v : Int} (h0 : 0 ≤ v) (h1 : v < xs.length) : gR xs v = [.str (gS xs v 0)] ∧ (gS xs v 0).size ≤ B ∧ True := RS.gets h.2 h0 h1
theorem RS.row {B : Nat} {xs : List (List D)} (h : Zi RS B xs) {v : Int} (h0 : 0 ≤ v) (h1 : v < xs.length) {β : Type} (F : List D → Option β) : Zbw xs v F = F [.str (gS xs v 0)] := RS.rows h.2 h0 h1 F
inductive Yad (B : Nat) : Nat → List D → Prop
  | mk {h : Nat} (c0 : Int) (c1 : ByteArray) (c2 : Int) (c3 : List (List D)) (c4 : List (List D)) (k0 : (Lit.int .i64 c0).wf = true) (k1 : c1.size ≤ B) (k2 : (Lit.int .i64 c2).wf = true) (k3 : Zi RS B c3) (k4 : c4.length ≤ B) (m4 : ∀ r ∈ c4, Yad B h r) : Yad B (h + 1) [.int .i64 c0, .str c1, .int .i64 c2, .sl c3, .sl c4]
def YT (B : Nat) (r : List D) : Prop := ∃ h, (B ≤ 1099511627776 → h ≤ 1099511627776) ∧ Yad B h r
theorem YT.open {B : Nat} {r : List D} (h : YT B r) : ∃ (c0 : Int) (c1 : ByteArray) (c2 : Int) (c3 : List (List D)) (c4 : List (List D)), r = [.int .i64 c0, .str c1, .int .i64 c2, .sl c3, .sl c4] ∧ (Lit.int .i64 c0).wf = true ∧ c1.size ≤ B ∧ (Lit.int .i64 c2).wf = true ∧ Zi RS B c3 ∧ Zi YT B c4 ∧ True := by
  obtain ⟨h, hh, h1⟩ := h
  cases h1 with
  | mk c0 c1 c2 c3 c4 k0 k1 k2 k3 k4 m4 => exact ⟨c0, c1, c2, c3, c4, rfl, k0, k1, k2, k3, ⟨k4, fun r hr => ⟨_, fun hb => by have := hh hb; omega, m4 r hr⟩⟩, trivial⟩
theorem Yad.up {B B' : Nat} (hb : B ≤ B') : ∀ {h : Nat} {r : List D}, Yad B h r → Yad B' h r
  | _ + 1, _, .mk c0 c1 c2 c3 c4 k0 k1 k2 k3 k4 m4 => .mk c0 c1 c2 c3 c4 k0 (Nat.le_trans k1 hb) k2 ⟨Nat.le_trans k3.1 hb, fun r hr => (k3.2 r hr).mono hb⟩ (Nat.le_trans k4 hb) (fun r hr => Yad.up hb (m4 r hr))
theorem YT.mono {B B' : Nat} (hb : B ≤ B') {r : List D} (h : YT B r) : YT B' r := by
  obtain ⟨h, hh, h1⟩ := h
  exact ⟨h, fun h2 => hh (Nat.le_trans hb h2), h1.up hb⟩
theorem Yad.mono {B : Nat} : ∀ {h h' : Nat} {r : List D}, h ≤ h' → Yad B h r → Yad B h' r
  | _, 0, _, hl, .mk .. => by omega
  | _ + 1, _ + 1, _, hl, .mk c0 c1 c2 c3 c4 k0 k1 k2 k3 k4 m4 => .mk c0 c1 c2 c3 c4 k0 k1 k2 k3 k4 (fun r hr => Yad.mono (by omega) (m4 r hr))
theorem YT.wide {xs : List (List D)} (h : Zi YT lim xs) : Zi YT 2097152 xs := ⟨Nat.le_trans h.1 (by decide), fun r hr => (h.2 r hr).mono (by decide)⟩
theorem YT.len {B : Nat} {r : List D} (h : YT B r) : r.length = 5 := by
  obtain ⟨c0, c1, c2, c3, c4, rfl, _⟩ := h.open
  rfl
theorem YT.gets {B : Nat} {xs : List (List D)} (h : ∀ r ∈ xs, YT B r) {v : Int} (h0 : 0 ≤ v) (h1 : v < xs.length) : gR xs v = [.int .i64 (gI xs v 0), .str (gS xs v 1), .int .i64 (gI xs v 2), .sl (gL xs v 3), .sl (gL xs v 4)] ∧ (Lit.int .i64 (gI xs v 0)).wf = true ∧ (gS xs v 1).size ≤ B ∧ (Lit.int .i64 (gI xs v 2)).wf = true ∧ Zi RS B (gL xs v 3) ∧ Zi YT B (gL xs v 4) ∧ True := by
  obtain ⟨c0, c1, c2, c3, c4, e, k0, k1, k2, k3, k4, _⟩ := (h (gR xs v) (gR_mem h0 h1)).open
  unfold gI gL gS
  rw [e]
  exact ⟨rfl, k0, k1, k2, k3, k4, trivial⟩
theorem YT.rows {B : Nat} {xs : List (List D)} (h : ∀ r ∈ xs, YT B r) {v : Int} (h0 : 0 ≤ v) (h1 : v < xs.length) {β : Type} (F : List D → Option β) : Zbw xs v F = F [.int .i64 (gI xs v 0), .str (gS xs v 1), .int .i64 (gI xs v 2), .sl (gL xs v 3), .sl (gL xs v 4)] := by
  rw [← (YT.gets h h0 h1).1]
  exact Zbp h0 h1 F
theorem YT.get {B : Nat} {xs : List (List D)} (h : Zi YT B xs) {v : Int} (h0 : 0 ≤ v) (h1 : v < xs.length) : gR xs v = [.int .i64 (gI xs v 0), .str (gS xs v 1), .int .i64 (gI xs v 2), .sl (gL xs v 3), .sl (gL xs v 4)] ∧ (Lit.int .i64 (gI xs v 0)).wf = true ∧ (gS xs v 1).size ≤ B ∧ (Lit.int .i64 (gI xs v 2)).wf = true ∧ Zi RS B (gL xs v 3) ∧ Zi YT B (gL xs v 4) ∧ True := YT.gets h.2 h0 h1
theorem YT.row {B : Nat} {xs : List (List D)} (h : Zi YT B xs) {v : Int} (h0 : 0 ≤ v) (h1 : v < xs.length) {β : Type} (F : List D → Option β) : Zbw xs v F = F [.int .i64 (gI xs v 0), .str (gS xs v 1), .int .i64 (gI xs v 2), .sl (gL xs v 3), .sl (gL xs v 4)] := YT.rows h.2 h0 h1 F
def Yd (B : Nat) (r : List D) : Prop := ∃ (c0 : Int) (c1 : Int) (c2 : Int) (c3 : ByteArray) (c4 : Int) (c5 : List (List D)) (c6 : List (List D)), r = [.int .i64 c0, .int .i64 c1, .int .i64 c2, .str c3, .int .i64 c4, .sl c5, .sl c6] ∧ (Lit.int .i64 c0).wf = true ∧ (Lit.int .i64 c1).wf = true ∧ (Lit.int .i64 c2).wf = true ∧ c3.size ≤ B ∧ (Lit.int .i64 c4).wf = true ∧ Zi RS B c5 ∧ Zi YT B c6 ∧ True
theorem Yd.open {B : Nat} {r : List D} (h : Yd B r) : ∃ (c0 : Int) (c1 : Int) (c2 : Int) (c3 : ByteArray) (c4 : Int) (c5 : List (List D)) (c6 : List (List D)), r = [.int .i64 c0, .int .i64 c1, .int .i64 c2, .str c3, .int .i64 c4, .sl c5, .sl c6] ∧ (Lit.int .i64 c0).wf = true ∧ (Lit.int .i64 c1).wf = true ∧ (Lit.int .i64 c2).wf = true ∧ c3.size ≤ B ∧ (Lit.int .i64 c4).wf = true ∧ Zi RS B c5 ∧ Zi YT B c6 ∧ True := h
theorem Yd.mono {B B' : Nat} (hb : B ≤ B') {r : List D} (h : Yd B r) : Yd B' r := by
  obtain ⟨c0, c1, c2, c3, c4, c5, c6, rfl, k0, k1, k2, k3, k4, k5, k6, _⟩ := h
  exact ⟨_, _, _, _, _, _, _, rfl, k0, k1, k2, (Nat.le_trans k3 hb), k4, ⟨Nat.le_trans k5.1 hb, fun r hr => (k5.2 r hr).mono hb⟩, ⟨Nat.le_trans k6.1 hb, fun r hr => (k6.2 r hr).mono hb⟩, trivial⟩
theorem Yd.wide {xs : List (List D)} (h : Zi Yd lim xs) : Zi Yd 2097152 xs := ⟨Nat.le_trans h.1 (by decide), fun r hr => (h.2 r hr).mono (by decide)⟩
theorem Yd.len {B : Nat} {r : List D} (h : Yd B r) : r.length = 7 := by
  obtain ⟨c0, c1, c2, c3, c4, c5, c6, rfl, _⟩ := h.open
  rfl
theorem Yd.gets {B : Nat} {xs : List (List D)} (h : ∀ r ∈ xs, Yd B r) {v : Int} (h0 : 0 ≤ v) (h1 : v < xs.length) : gR xs v = [.int .i64 (gI xs v 0), .int .i64 (gI xs v 1), .int .i64 (gI xs v 2), .str (gS xs v 3), .int .i64 (gI xs v 4), .sl (gL xs v 5), .sl (gL xs v 6)] ∧ (Lit.int .i64 (gI xs v 0)).wf = true ∧ (Lit.int .i64 (gI xs v 1)).wf = true ∧ (Lit.int .i64 (gI xs v 2)).wf = true ∧ (gS xs v 3).size ≤ B ∧ (Lit.int .i64 (gI xs v 4)).wf = true ∧ Zi RS B (gL xs v 5) ∧ Zi YT B (gL xs v 6) ∧ True := by
  obtain ⟨c0, c1, c2, c3, c4, c5, c6, e, k0, k1, k2, k3, k4, k5, k6, _⟩ := (h (gR xs v) (gR_mem h0 h1)).open
  unfold gI gL gS
  rw [e]
  exact ⟨rfl, k0, k1, k2, k3, k4, k5, k6, trivial⟩
theorem Yd.rows {B : Nat} {xs : List (List D)} (h : ∀ r ∈ xs, Yd B r) {v : Int} (h0 : 0 ≤ v) (h1 : v < xs.length) {β : Type} (F : List D → Option β) : Zbw xs v F = F [.int .i64 (gI xs v 0), .int .i64 (gI xs v 1), .int .i64 (gI xs v 2), .str (gS xs v 3), .int .i64 (gI xs v 4), .sl (gL xs v 5), .sl (gL xs v 6)] := by
  rw [← (Yd.gets h h0 h1).1]
  exact Zbp h0 h1 F
theorem Yd.get {B : Nat} {xs : List (List D)} (h : Zi Yd B xs) {v : Int} (h0 : 0 ≤ v) (h1 : v < xs.length) : gR xs v = [.int .i64 (gI xs v 0), .int .i64 (gI xs v 1), .int .i64 (gI xs v 2), .str (gS xs v 3), .int .i64 (gI xs v 4), .sl (gL xs v 5), .sl (gL xs v 6)] ∧ (Lit.int .i64 (gI xs v 0)).wf = true ∧ (Lit.int .i64 (gI xs v 1)).wf = true ∧ (Lit.int .i64 (gI xs v 2)).wf = true ∧ (gS xs v 3).size ≤ B ∧ (Lit.int .i64 (gI xs v 4)).wf = true ∧ Zi RS B (gL xs v 5) ∧ Zi YT B (gL xs v 6) ∧ True := Yd.gets h.2 h0 h1
theorem Yd.row {B : Nat} {xs : List (List D)} (h : Zi Yd B xs) {v : Int} (h0 : 0 ≤ v) (h1 : v < xs.length) {β : Type} (F : List D → Option β) : Zbw xs v F = F [.int .i64 (gI xs v 0), .int .i64 (gI xs v 1), .int .i64 (gI xs v 2), .str (gS xs v 3), .int .i64 (gI xs v 4), .sl (gL xs v 5), .sl (gL xs v 6)] := Yd.rows h.2 h0 h1 F
set_option maxRecDepth 100000 in
theorem str_ex {b xs : List (List D)} {i h : Int} {k : Nat} (c : Cur b i) (g : ∀ r ∈ xs, RS lim r) (hx : 0 < xs.length) : ∃ j i' h', 0 ≤ j ∧ j < (xs.length : Int) ∧ Cur b i' ∧ Y1.t k b i h xs = some (gS xs j 0, b, i', h') := by
  obtain ⟨x, i', h', x0, x1, -, c', e⟩ := Yau (k := k) (h := h) (n := (xs.length : Int)) c
  unfold Y1.t Y1.g; simp only [atR, rdQ, Q.ask]
  rw [Yt.f_of e, RS.rows g x0 (x1 (by omega))]
  simp only [ZY, Zaj, Z6]
  exact ⟨x, _, _, x0, x1 (by omega), c', rfl⟩
theorem YaM {a : List (List D)} (g : Zi RSS lim a) {k : Nat} {β : Type} (K : List (List C) → Option β) : Y2.f k a K = K (a.map (·.map C.d)) := Y2.f_of (by
  have hl := g.1
  have hlim : lim = 1048576 := rfl
  have hm : ZN = 2 ^ 36 := rfl
  unfold Y2.t Y2.g
  rw [ZaP (RSS.flat g.2), ZaP (by simp only [List.length_nil, map_len]; omega), List.nil_append]) K
set_option maxRecDepth 100000 in
set_option maxHeartbeats 1000000 in
theorem labelSet_ex {k : Nat} (hk : Z3 k) {l : List (List D)} {s v : ByteArray} (g : ∀ r ∈ l, RSS lim r) (hl : l.length ≤ 1000) (gs : s.size ≤ lim) (gv : v.size ≤ lim) : ∃ (l' : List (List D)) (ok : Bool), (∀ r ∈ l', RSS lim r) ∧ l'.length ≤ l.length + 1 ∧ Yr.t k l s v = some (l'.map (·.map C.d), ok) := by
  have hlim : lim = 1048576 := rfl
  have hm : ZN = 2 ^ 36 := rfl
  have hb : big = 2 ^ 64 := rfl
  have G : Zi RSS lim l := ⟨by omega, g⟩
  let Qz : Option (List (List C) × Bool) → Prop := fun o => ∃ (l' : List (List D)) (ok : Bool), (∀ r ∈ l', RSS lim r) ∧ l'.length ≤ l.length + 1 ∧ o = some (l'.map (·.map C.d), ok)
  have hsame : ∀ ok, Qz (some (l.map (·.map C.d), ok)) := fun ok => ⟨l, ok, g, by omega, rfl⟩
  have hnew : RSS lim [D.str s, D.str v] := ⟨s, v, rfl, gs, gv, trivial⟩
  have loop : Qz (Zo (Yr.l0 k l s v (fun z0 z1 => some (z0, z1))) k (false, 0, [])) := by
    refine iter_ex (fun v => (l.length : Int).toNat - v.2.1.toNat) (fun v => 0 ≤ v.2.1 ∧ v.2.1 ≤ (l.length : Int) ∧ ∃ o : List (List D), v.2.2 = o.map (·.map C.d) ∧ (∀ r ∈ o, RSS lim r) ∧ (o.length : Int) ≤ v.2.1 + (if v.1 = true then 1 else 0)) Qz ?_ ⟨by simp, by simp, [], rfl, by simp, by simp⟩ (by unfold Z3 at hk; simp; omega)
    rintro ⟨p, i, out⟩ ⟨h0, h1, o, e, ho, hlen⟩ L hL
    simp only at h0 h1 e hlen
    subst e
    have hw : i < l.length → IntKind.wrap .i64 (i + 1) = i + 1 := fun _ => Zj (by omega) (by omega)
    have hp : (if p = true then (1 : Int) else 0) ≤ 1 ∧ 0 ≤ (if p = true then (1 : Int) else 0) := by cases p <;> simp
    by_cases hi : i < l.length
    · have hr := RSS.gets g h0 hi
      have hold : RSS lim [D.str (gS l i 0), .str (gS l i 1)] := ⟨_, _, rfl, hr.2.1, hr.2.2.1, trivial⟩
      have fin : ∀ (p' : Bool) (o' : List (List D)), (∀ r ∈ o', RSS lim r) → (o'.length : Int) ≤ i + 1 + (if p' = true then 1 else 0) → Qz (L (p', i + 1, o'.map (·.map C.d))) := fun p' o' q1 q2 => hL _ ⟨by show 0 ≤ i + 1; omega, by show i + 1 ≤ (l.length : Int); omega, o', rfl, q1, q2⟩ (by show (l.length : Int).toNat - (i + 1).toNat < (l.length : Int).toNat - i.toNat; omega)
      have up1 : ∀ (o' : List (List D)) (x y : ByteArray), o'.map (·.map C.d) ++ ([[.d (.str x), .d (.str y)]] : List (List C)) = (o' ++ [[D.str x, D.str y]]).map (·.map C.d) := fun o' x y => by rw [List.map_append]; rfl
      simp only [Yr.l0, atR, rdQ, Q.ask, ZQ hi, cond_true, RSS.row G h0 hi, ZY, Zaj, Z6, hw hi, map_len, List.length_append, List.length_singleton, ZaP (show o.length + 1 ≤ ZN by omega), ZaP (show o.length + 1 + 1 ≤ ZN by omega)]
      cases p with
      | true =>
        simp only [Bool.not_true, cond_false]
        cases Zae (gS l i 0) s
        · simp only [Bool.not_false, cond_true, up1]
          exact fin _ _ (Yaw ho hold) (by rw [List.length_append, List.length_singleton]; simp at hlen ⊢; omega)
        · exact fin _ _ ho (by simp at hlen ⊢; omega)
      | false =>
        simp only [Bool.not_false, cond_true]
        simp at hlen
        cases ZbO (gS l i 0) s
        · simp only [Bool.not_false, cond_true]
          cases Zae (gS l i 0) s
          · simp only [Bool.not_false, cond_true, up1]
            exact fin _ _ (Yaw (Yaw ho hnew) hold) (by simp; omega)
          · simp only [Bool.not_true, cond_false, up1]
            exact fin _ _ (Yaw ho hnew) (by simp; omega)
        · simp only [Bool.not_true, cond_false]
          cases Zae (gS l i 0) s
          · simp only [Bool.not_false, cond_true, up1]
            exact fin _ _ (Yaw ho hold) (by simp; omega)
          · exact fin _ _ ho (by simp; omega)
    · simp only [Yr.l0, atR, rdQ, Q.ask, ZV hi, cond_false, map_len, List.length_singleton]
      cases p with
      | true => exact ⟨o, true, ho, by simp at hlen; omega, rfl⟩
      | false =>
        simp only [Bool.not_false, cond_true]
        rw [ZaP (show o.length + 1 ≤ ZN by simp at hlen; omega)]
        exact ⟨o ++ [[D.str s, D.str v]], true, Yaw ho hnew, by simp at hlen ⊢; omega, by rw [List.map_append]; rfl⟩
  show Qz _
  unfold Yr.t Yr.g Yr.m
  rw [Ys.fv G gs hk, Yu.fv G hk]
  cases Yu.v l
  · simp only [Bool.not_false, cond_true, YaM G]; exact hsame _
  simp only [Bool.not_true, cond_false, Yh.fv gs hk]
  cases Yh.v s
  · simp only [Bool.not_false, cond_true, YaM G]; exact hsame _
  simp only [Bool.not_true, cond_false, Yh.fv gv hk]
  cases Yh.v v
  · simp only [Bool.not_false, cond_true, YaM G]; exact hsame _
  simp only [Bool.not_true, cond_false]
  cases (Ys.v l s).2
  · simp only [Bool.not_false, cond_true]
    cases ((l.length : Int)) == 8
    · exact loop
    · simp only [cond_true, YaM G]; exact hsame _
  · exact loop
theorem name_ex {b : List (List D)} {i h : Int} {k : Nat} (c : Cur b i) : ∃ s i' h', s.size ≤ lim ∧ Cur b i' ∧ Yae.t k b i h = some (s, b, i', h') := by
  unfold Yae.t Yae.g
  have hstr : ∀ r ∈ ([[.str (⟨#[97]⟩ : ByteArray)], [.str (⟨#[98]⟩ : ByteArray)], [.str (⟨#[99]⟩ : ByteArray)], [.str (⟨#[122, 111, 110, 101]⟩ : ByteArray)], [.str (⟨#[116, 105, 101, 114]⟩ : ByteArray)], [.str (⟨#[103, 111, 108, 100]⟩ : ByteArray)], [.str (⟨#[101, 97, 115, 116]⟩ : ByteArray)], [.str (⟨#[120, 45, 49]⟩ : ByteArray)], [.str (⟨#[97, 98, 99, 100, 101, 102, 103, 104, 105, 106, 107, 108, 109, 110, 111, 112, 113, 114, 115, 116]⟩ : ByteArray)]] : List (List D)), RS lim r := by
    intro r hr
    simp only [List.mem_cons, List.not_mem_nil, or_false] at hr
    rcases hr with rfl | rfl | rfl | rfl | rfl | rfl | rfl | rfl | rfl <;> exact ⟨_, rfl, by decide, trivial⟩
  obtain ⟨j, i1, h1, j0, j1, hc1, e1⟩ := str_ex (k := k) (h := h) c hstr (by decide)
  rw [Y1.f_of e1]
  exact ⟨_, _, _, (RS.gets hstr j0 j1).2.1, hc1, rfl⟩
set_option maxHeartbeats 1000000 in
theorem labels_ex {k : Nat} (hk : Z3 k) {b : List (List D)} {i h M : Int} (c : Cur b i) (hM : M ≤ 100) : ∃ (l : List (List D)) (i' h' : Int), (∀ r ∈ l, RSS lim r) ∧ l.length ≤ M.toNat ∧ Cur b i' ∧ YK.t k b i h M = some (l.map (·.map C.d), b, i', h') := by
  have hb : big = 2 ^ 64 := rfl
  unfold YK.t YK.g
  obtain ⟨x, i1, h1, x0, x1, x2, hc1, e1⟩ := Yau (k := k) (h := h) (n := M) c
  rw [Yt.f_of e1]
  refine iter_ex (fun v => v.1.toNat) (fun v => 0 ≤ v.1 ∧ v.2.1 = b ∧ Cur b v.2.2.1 ∧ ∃ o : List (List D), v.2.2.2.2 = o.map (·.map C.d) ∧ (∀ r ∈ o, RSS lim r) ∧ (o.length : Int) + v.1 ≤ M.toNat) (fun o => ∃ (l : List (List D)) (i' h' : Int), (∀ r ∈ l, RSS lim r) ∧ l.length ≤ M.toNat ∧ Cur b i' ∧ o = some (l.map (·.map C.d), b, i', h')) ?_ (v := (x, b, i1, h1, [])) ⟨x0, rfl, hc1, [], rfl, by simp, by simp; omega⟩ (by unfold Z3 at hk; show x.toNat < k; omega)
  rintro ⟨n, b', i, h, out⟩ ⟨n0, eb, hc, o, e, ho, hlen⟩ L hL
  simp only at n0 eb hc e hlen
  subst eb e
  by_cases hn : n > 0
  · obtain ⟨s, i2, h2, gs, hc2, e2⟩ := name_ex (k := k) (h := h) hc
    obtain ⟨v, i3, h3, gv, hc3, e3⟩ := name_ex (k := k) (h := h2) hc2
    obtain ⟨l', ok, g', gl, e4⟩ := labelSet_ex hk ho (by omega) gs gv
    simp only [YK.l0, ZQ hn, cond_true, Yae.f_of e2, Yae.f_of e3, imm_rows, Yr.f_of e4, Zj (show -9223372036854775808 ≤ n - 1 by omega) (show n - 1 ≤ 9223372036854775807 by omega)]
    exact hL _ ⟨by show 0 ≤ n - 1; omega, rfl, hc3, l', rfl, g', by show (l'.length : Int) + (n - 1) ≤ _; omega⟩ (by show (n - 1).toNat < n.toNat; omega)
  · simp only [YK.l0, ZV hn, cond_false]
    exact ⟨o, i, h, ho, by omega, hc, rfl⟩
def VOk (n : Nat) (c0 : Int) (c1 : ByteArray) (c2 : Int) (c3 c4 : List (List D)) : Prop := Yad lim n [.int .i64 c0, .str c1, .int .i64 c2, .sl c3, .sl c4]
theorem VOk.mk {n : Nat} {c0 c2 : Int} {c1 : ByteArray} {c3 c4 : List (List D)} (w0 : -9223372036854775808 ≤ c0 ∧ c0 ≤ 9223372036854775807) (k1 : c1.size ≤ lim) (w2 : -9223372036854775808 ≤ c2 ∧ c2 ≤ 9223372036854775807) (h3 : ∀ r ∈ c3, RS lim r) (l3 : c3.length ≤ 1000) (l4 : c4.length ≤ 1000) (h4 : ∀ r ∈ c4, Yad lim n r) : VOk (n + 1) c0 c1 c2 c3 c4 :=
  Yad.mk c0 c1 c2 c3 c4 (wf_of w0.1 w0.2) k1 (wf_of w2.1 w2.2) ⟨Nat.le_trans l3 (by decide), h3⟩ (Nat.le_trans l4 (by decide)) h4
theorem row_own {x : Int} {y : ByteArray} {z : Int} {u v : List (List D)} : ([[.d (.int .i64 x), .d (.str y), .d (.int .i64 z), .own (Zb u), .own (Zb v)]] : List (List C)) = Zb [[.int .i64 x, .str y, .int .i64 z, .sl u, .sl v]] := by
  simp only [Zb, ZZ, ZbW]
theorem deep_app1 {a : List (List D)} {x : Int} {y : ByteArray} {z : Int} {u v : List (List D)} : Zb a ++ ([[.d (.int .i64 x), .d (.str y), .d (.int .i64 z), .own (Zb u), .own (Zb v)]] : List (List C)) = Zb (a ++ [[.int .i64 x, .str y, .int .i64 z, .sl u, .sl v]]) := by
  rw [row_own, Zai]
theorem strs_in {l : List ByteArray} (h : ∀ s ∈ l, s.size ≤ 1000) : ∀ r ∈ l.map (fun s => [D.str s]), RS lim r := by
  intro r hr
  obtain ⟨s, hs, rfl⟩ := List.mem_map.mp hr
  exact ⟨s, rfl, Nat.le_trans (h s hs) (by decide), trivial⟩
def VDrawn (b : List (List D)) (n : Nat) (o : Option (Int × ByteArray × Int × List (List C) × List (List C) × List (List D) × Int × Int)) : Prop :=
  ∃ c0 c1 c2 c3 c4 i h, VOk n c0 c1 c2 c3 c4 ∧ Cur b i ∧ o = some (c0, c1, c2, Zb c3, Zb c4, b, i, h)
theorem VDrawn.flat {b : List (List D)} {n : Nat} {c0 c2 i h : Int} {c1 : ByteArray} (hc : Cur b i) (w0 : 1 ≤ c0 ∧ c0 ≤ 5) (k1 : c1.size ≤ lim) (w2 : -9223372036854775808 ≤ c2 ∧ c2 ≤ 9223372036854775807) : VDrawn b (n + 1) (some (c0, c1, c2, [], [], b, i, h)) :=
  ⟨c0, c1, c2, [], [], i, h, .mk ⟨by omega, by omega⟩ k1 w2 (by simp) (by simp) (by simp) (by simp), hc, by simp only [Zb]⟩
theorem wk0 : IntKind.wrap .i64 (1 + 0) = 1 := by decide
theorem wk1 : IntKind.wrap .i64 (1 + 1) = 2 := by decide
theorem wk2 : IntKind.wrap .i64 (1 + 2) = 3 := by decide
theorem wk3 : IntKind.wrap .i64 (1 + 3) = 4 := by decide
theorem wk4 : IntKind.wrap .i64 (1 + 4) = 5 := by decide
def vStrs : List ByteArray := [⟨#[]⟩, ⟨#[97]⟩, ⟨#[120, 32, 121]⟩, ⟨#[34]⟩, ⟨#[92, 110]⟩, ⟨#[105, 109, 97, 103, 101, 58, 49]⟩]
def vInts : List Int := [0, 1, 80, -5, 9223372036854775807, -9223372036854775808]
theorem vStr_ex {b : List (List D)} {i h : Int} {k n : Nat} {c0 : Int} (c : Cur b i) (w0 : 1 ≤ c0 ∧ c0 ≤ 5) : VDrawn b (n + 1) (Y1.f k b i h ([[.str (⟨#[]⟩ : ByteArray)], [.str (⟨#[97]⟩ : ByteArray)], [.str (⟨#[120, 32, 121]⟩ : ByteArray)], [.str (⟨#[34]⟩ : ByteArray)], [.str (⟨#[92, 110]⟩ : ByteArray)], [.str (⟨#[105, 109, 97, 103, 101, 58, 49]⟩ : ByteArray)]] : List (List D)) (fun y5 y6 y7 y8 => some (c0, y5, 0, ([] : List (List C)), ([] : List (List C)), y6, y7, y8))) := by
  have hstr := strs_in (l := vStrs) (by decide)
  obtain ⟨j, i1, h1, j0, j1, hc1, e1⟩ := str_ex (k := k) (h := h) c hstr (by decide)
  have e2 : Y1.t k b i h ([[.str (⟨#[]⟩ : ByteArray)], [.str (⟨#[97]⟩ : ByteArray)], [.str (⟨#[120, 32, 121]⟩ : ByteArray)], [.str (⟨#[34]⟩ : ByteArray)], [.str (⟨#[92, 110]⟩ : ByteArray)], [.str (⟨#[105, 109, 97, 103, 101, 58, 49]⟩ : ByteArray)]] : List (List D)) = _ := e1
  rw [Y1.f_of e2]
  exact .flat hc1 w0 (RS.gets hstr j0 j1).2.1 ⟨by omega, by omega⟩
theorem vInt_ex {b : List (List D)} {i h : Int} {k n : Nat} {c0 : Int} (c : Cur b i) (w0 : 1 ≤ c0 ∧ c0 ≤ 5) : VDrawn b (n + 1) (Yaa.f k b i h ([[.int .i64 0], [.int .i64 1], [.int .i64 80], [.int .i64 (-5)], [.int .i64 9223372036854775807], [.int .i64 (-9223372036854775808)]] : List (List D)) (fun y9 y10 y11 y12 => some (c0, (⟨#[]⟩ : ByteArray), y9, ([] : List (List C)), ([] : List (List C)), y10, y11, y12))) := by
  obtain ⟨y, i2, h2, hy, hc2, e1⟩ := int_ex (k := k) (h := h) c vInts (by decide)
  have e2 : Yaa.t k b i h ([[.int .i64 0], [.int .i64 1], [.int .i64 80], [.int .i64 (-5)], [.int .i64 9223372036854775807], [.int .i64 (-9223372036854775808)]] : List (List D)) = _ := e1
  rw [Yaa.f_of e2]
  simp only [vInts, List.mem_cons, List.not_mem_nil, or_false] at hy
  exact .flat hc2 w0 (by decide) ⟨by omega, by omega⟩
theorem vBool_ex {b : List (List D)} {i h : Int} {k n : Nat} {c0 : Int} (c : Cur b i) (w0 : 1 ≤ c0 ∧ c0 ≤ 5) : VDrawn b (n + 1) (Yt.f k b i h 2 (fun y9 y10 y11 y12 => some (c0, (⟨#[]⟩ : ByteArray), y9, ([] : List (List C)), ([] : List (List C)), y10, y11, y12))) := by
  obtain ⟨y, i2, h2, y0, y1, -, hc2, e1⟩ := Yau (k := k) (h := h) (n := 2) c
  have y1 := y1 (by decide)
  rw [Yt.f_of e1]
  exact .flat hc2 w0 (by decide) ⟨by omega, by omega⟩
set_option maxRecDepth 100000 in
set_option maxHeartbeats 4000000 in
theorem value_ex (d : Nat) : ∀ {b : List (List D)} {i h : Int} {k : Nat}, Cur b i → d ≤ 100 → big + d + 1 ≤ k → VDrawn b (d + 1) (Yc.t k b i h (d : Int)) := by
  have hm : ZN = 2 ^ 36 := rfl
  have hlim : lim = 1048576 := rfl
  have hb : big = 2 ^ 64 := rfl
  induction d with
  | zero =>
    intro b i h k hc hd hk
    obtain ⟨k, rfl⟩ : ∃ k', k = k' + 1 := ⟨k - 1, by omega⟩
    rw [Yc.t_succ]
    unfold Yc.g Yc.body Yc.m
    obtain ⟨x, i1, h1, x0, x1, -, hc1, e1⟩ := Yau (k := k) (h := h) (n := 5) hc
    have x1 := x1 (by decide)
    rw [Yt.f_of e1]
    dsimp only
    rw [ZQ (show ((0 : Nat) : Int) ≤ 1 by decide)]
    have hx : x = 0 ∨ x = 1 ∨ x = 2 ∨ x = 3 ∨ x = 4 := by omega
    rcases hx with rfl | rfl | rfl | rfl | rfl
    · simp only [wk0, cond_true, cond_false, ZV (show ¬ (1 : Int) > 3 by decide), Int.reduceBEq]; exact vStr_ex hc1 ⟨by decide, by decide⟩
    · simp only [wk1, cond_true, cond_false, ZV (show ¬ (2 : Int) > 3 by decide), Int.reduceBEq]; exact vInt_ex hc1 ⟨by decide, by decide⟩
    · simp only [wk2, cond_true, cond_false, ZV (show ¬ (3 : Int) > 3 by decide), Int.reduceBEq]; exact vBool_ex hc1 ⟨by decide, by decide⟩
    · simp only [wk3, cond_true, cond_false, ZQ (show (4 : Int) > 3 by decide), Int.reduceBEq]; exact vInt_ex hc1 ⟨by decide, by decide⟩
    · simp only [wk4, cond_true, cond_false, ZQ (show (5 : Int) > 3 by decide), Int.reduceBEq]; exact vInt_ex hc1 ⟨by decide, by decide⟩
  | succ d ih =>
    intro b i h k hc hd hk
    obtain ⟨k, rfl⟩ : ∃ k', k = k' + 1 := ⟨k - 1, by omega⟩
    rw [Yc.t_succ]
    unfold Yc.g Yc.body Yc.m
    obtain ⟨x, i1, h1, x0, x1, -, hc1, e1⟩ := Yau (k := k) (h := h) (n := 5) hc
    have x1 := x1 (by decide)
    rw [Yt.f_of e1]
    dsimp only
    have hx : x = 0 ∨ x = 1 ∨ x = 2 ∨ x = 3 ∨ x = 4 := by omega
    by_cases hd1 : ((d + 1 : Nat) : Int) ≤ 1
    · rw [ZQ hd1]
      rcases hx with rfl | rfl | rfl | rfl | rfl
      · simp only [wk0, cond_true, cond_false, ZV (show ¬ (1 : Int) > 3 by decide), Int.reduceBEq]; exact vStr_ex hc1 ⟨by decide, by decide⟩
      · simp only [wk1, cond_true, cond_false, ZV (show ¬ (2 : Int) > 3 by decide), Int.reduceBEq]; exact vInt_ex hc1 ⟨by decide, by decide⟩
      · simp only [wk2, cond_true, cond_false, ZV (show ¬ (3 : Int) > 3 by decide), Int.reduceBEq]; exact vBool_ex hc1 ⟨by decide, by decide⟩
      · simp only [wk3, cond_true, cond_false, ZQ (show (4 : Int) > 3 by decide), Int.reduceBEq]; exact vInt_ex hc1 ⟨by decide, by decide⟩
      · simp only [wk4, cond_true, cond_false, ZQ (show (5 : Int) > 3 by decide), Int.reduceBEq]; exact vInt_ex hc1 ⟨by decide, by decide⟩
    · rw [ZV hd1]
      have hwd : IntKind.wrap .i64 (((d + 1 : Nat) : Int) - 1) = (d : Int) := by rw [Zj (by omega) (by omega)]; omega
      rcases hx with rfl | rfl | rfl | rfl | rfl
      · simp only [wk0, cond_true, cond_false, Int.reduceBEq]; exact vStr_ex hc1 ⟨by decide, by decide⟩
      · simp only [wk1, cond_true, cond_false, Int.reduceBEq]; exact vInt_ex hc1 ⟨by decide, by decide⟩
      · simp only [wk2, cond_true, cond_false, Int.reduceBEq]; exact vBool_ex hc1 ⟨by decide, by decide⟩
      · simp only [wk3, cond_true, cond_false, Int.reduceBEq]
        obtain ⟨y, i2, h2, y0, y1, -, hc2, e2⟩ := Yau (k := k) (h := h1) (n := 4) hc1
        have y1 := y1 (by decide)
        rw [Yt.f_of e2]
        refine iter_ex (fun v => v.1.toNat) (fun v => 0 ≤ v.1 ∧ v.2.1 = b ∧ Cur b v.2.2.1 ∧ ∃ o : List (List D), v.2.2.2.2 = Zb o ∧ (∀ r ∈ o, Yad lim (d + 1) r) ∧ (o.length : Int) + v.1 ≤ 4) (VDrawn b (d + 2)) ?_ (v := (y, b, i2, h2, [])) ⟨y0, rfl, hc2, [], by simp only [Zb], by simp, by simp; omega⟩ (by show y.toNat < k; omega)
        rintro ⟨n, b', i, h, out⟩ ⟨n0, eb, hc, o, e, ho, hlen⟩ L hL
        simp only at n0 eb hc e hlen
        subst eb e
        by_cases hn : n > 0
        · obtain ⟨c0, c1, c2, c3, c4, i3, h3, hv, hc3, e3⟩ := ih (k := k) (h := h) hc (by omega) (by omega)
          simp only [Yc.l4, ZQ hn, cond_true, hwd, Yc.f_of e3, Zj (show -9223372036854775808 ≤ n - 1 by omega) (show n - 1 ≤ 9223372036854775807 by omega)]
          rw [ZaP (by rw [Zw, List.length_singleton]; omega), deep_app1]
          exact hL _ ⟨by show 0 ≤ n - 1; omega, rfl, hc3, _, rfl, Yaw ho hv, by rw [List.length_append, List.length_singleton]; show ((o.length + 1 : Nat) : Int) + (n - 1) ≤ 4; omega⟩ (by show (n - 1).toNat < n.toNat; omega)
        · simp only [Yc.l4, ZV hn, cond_false]
          exact ⟨4, (⟨#[]⟩ : ByteArray), 0, [], o, i, h, .mk ⟨by omega, by omega⟩ (by decide) ⟨by omega, by omega⟩ (by simp) (by simp) (by omega) ho, hc, by simp only [Zb]⟩
      · simp only [wk4, cond_true, cond_false, Int.reduceBEq]
        obtain ⟨l, i2, h2, hl, hll, hc2, e2⟩ := labels_ex (k := k) (h := h1) (M := 5) (show Z3 k by show big ≤ k; omega) hc1 (by decide)
        have hll : l.length ≤ 5 := hll
        rw [YK.f_of e2]
        refine iter_ex (fun v => 5 - v.1.toNat) (fun v => 0 ≤ v.1 ∧ v.1 ≤ (l.length : Int) ∧ v.2.1 = b ∧ Cur b v.2.2.1 ∧ ∃ ks o : List (List D), v.2.2.2.2.1 = ks.map (·.map C.d) ∧ v.2.2.2.2.2 = Zb o ∧ (∀ r ∈ ks, RS lim r) ∧ (∀ r ∈ o, Yad lim (d + 1) r) ∧ (o.length : Int) = v.1 ∧ (ks.length : Int) = v.1) (VDrawn b (d + 2)) ?_ (v := (0, b, i2, h2, [], [])) ⟨by simp, by simp, rfl, hc2, [], [], rfl, by simp only [Zb], by simp, by simp, by simp, by simp⟩ (by show 5 - 0 < k; omega)
        rintro ⟨n, b', i, h, keys, out⟩ ⟨n0, n1, eb, hc, ks, o, e, e', hk', ho, hlen, hlen'⟩ L hL
        simp only at n0 n1 eb hc e e' hlen hlen'
        subst eb e e'
        by_cases hn : n < (l.length : Int)
        · obtain ⟨c0, c1, c2, c3, c4, i3, h3, hv, hc3, e3⟩ := ih (k := k) (h := h) hc (by omega) (by omega)
          have hr := RSS.gets hl n0 hn
          simp only [Yc.l5, map_len, ZQ hn, cond_true, ZaP (show (0 : Int) ≤ n ∧ n < (l.length : Int) from ⟨n0, hn⟩), atNat_up n0 hn, hr.1, List.map_cons, List.map_nil, List.drop_zero, ZY, cD_at, Zaj, hwd, Yc.f_of e3, List.length_singleton, Zj (show -9223372036854775808 ≤ n + 1 by omega) (show n + 1 ≤ 9223372036854775807 by omega)]
          rw [ZaP (by omega), ZaP (by rw [Zw]; omega), deep_app1]
          exact hL _ ⟨by show 0 ≤ n + 1; omega, by show n + 1 ≤ (l.length : Int); omega, rfl, hc3, ks ++ [[.str (gS l n 0)]], _, by rw [List.map_append]; rfl, rfl, Yaw hk' ⟨_, rfl, hr.2.1, trivial⟩, Yaw ho hv, by rw [List.length_append, List.length_singleton]; show ((o.length + 1 : Nat) : Int) = n + 1; omega, by rw [List.length_append, List.length_singleton]; show ((ks.length + 1 : Nat) : Int) = n + 1; omega⟩ (by show 5 - (n + 1).toNat < 5 - n.toNat; omega)
        · simp only [Yc.l5, map_len, ZV hn, cond_false]
          exact ⟨5, (⟨#[]⟩ : ByteArray), 0, ks, o, i, h, .mk ⟨by omega, by omega⟩ (by decide) ⟨by omega, by omega⟩ hk' (by omega) (by omega) ho, hc, by rw [RS.deep hk']⟩
theorem VOk.parts {n : Nat} {c0 c2 : Int} {c1 : ByteArray} {c3 c4 : List (List D)} (h : VOk n c0 c1 c2 c3 c4) (hn : n ≤ 1000) : (Lit.int .i64 c0).wf = true ∧ c1.size ≤ lim ∧ (Lit.int .i64 c2).wf = true ∧ Zi RS lim c3 ∧ Zi YT lim c4 := by
  unfold VOk at h
  cases h with
  | mk _ _ _ _ _ k0 k1 k2 k3 k4 m4 => exact ⟨k0, k1, k2, k3, k4, fun r hr => ⟨_, fun _ => by omega, m4 r hr⟩⟩
theorem deep_work {a : List (List D)} {p q x : Int} {y : ByteArray} {z : Int} {u v : List (List D)} : Zb a ++ ([[.d (.int .i64 p), .d (.int .i64 q), .d (.int .i64 x), .d (.str y), .d (.int .i64 z), .own (Zb u), .own (Zb v)]] : List (List C)) = Zb (a ++ [[.int .i64 p, .int .i64 q, .int .i64 x, .str y, .int .i64 z, .sl u, .sl v]]) := by
  rw [Zai]
  simp only [Zb, ZZ, ZbW]
set_option maxHeartbeats 1000000 in
theorem works_ex {k : Nat} (hk : ZF 1 k) {b : List (List D)} {i h : Int} (c : Cur b i) : ∃ (ws : List (List D)) (i' h' : Int), (∀ r ∈ ws, Yd lim r) ∧ ws.length ≤ 5 ∧ Cur b i' ∧ YF.t k b i h = some (Zb ws, b, i', h') := by
  have hb : big = 2 ^ 64 := rfl
  have hm : ZN = 2 ^ 36 := rfl
  have hl1 : lv 1 = 2 ^ 65 := rfl
  have hkb : 2 ^ 65 ≤ k := hk
  unfold YF.t YF.g
  refine iter_ex (fun v => 6 - v.1.toNat) (fun v => 1 ≤ v.1 ∧ v.1 ≤ 6 ∧ v.2.1 = b ∧ Cur b v.2.2.1 ∧ ∃ o : List (List D), v.2.2.2.2 = Zb o ∧ (∀ r ∈ o, Yd lim r) ∧ (o.length : Int) + 1 ≤ v.1) (fun o => ∃ (ws : List (List D)) (i' h' : Int), (∀ r ∈ ws, Yd lim r) ∧ ws.length ≤ 5 ∧ Cur b i' ∧ o = some (Zb ws, b, i', h')) ?_ (v := (1, b, i, h, [])) ⟨by show (1 : Int) ≤ 1; omega, by show (1 : Int) ≤ 6; omega, rfl, c, [], by simp only [Zb], by simp, by simp⟩ (by show 6 - 1 < k; omega)
  rintro ⟨n, b', i, h, out⟩ ⟨n0, n1, eb, hc, o, e, ho, hlen⟩ L hL
  simp only at n0 n1 eb hc e hlen
  subst eb e
  by_cases hn : n < 6
  · have hw : IntKind.wrap .i64 (n + 1) = n + 1 := Zj (by omega) (by omega)
    obtain ⟨w, i1, h1, hc1, e1⟩ := once_ex (k := k) (h := h) (n := 2) hc
    cases w with
    | true =>
      obtain ⟨y, i2, h2, y0, y1, -, hc2, e2⟩ := Yau (k := k) (h := h1) (n := 5) hc1
      have y1 := y1 (by decide)
      obtain ⟨c0, c1, c2, c3, c4, i3, h3, hv, hc3, e3⟩ := value_ex 2 (k := k) (h := h2) hc2 (by decide) (by omega)
      rw [show ((2 : Nat) : Int) = 2 from rfl] at e3
      obtain ⟨p0, p1, p2, p3, p4⟩ := hv.parts (by decide)
      simp only [YF.l0, ZQ hn, cond_true, Yaf.f_of e1, Yt.f_of e2, Yc.f_of e3, hw, Zj (show -9223372036854775808 ≤ 1 + y by omega) (show 1 + y ≤ 9223372036854775807 by omega)]
      rw [ZaP (by rw [Zw, List.length_singleton]; omega), deep_work]
      exact hL _ ⟨by show 1 ≤ n + 1; omega, by show n + 1 ≤ 6; omega, rfl, hc3, _, rfl, Yaw ho ⟨_, _, _, _, _, _, _, rfl, wf_of (by omega) (by omega), wf_of (by omega) (by omega), p0, p1, p2, p3, p4, trivial⟩, by rw [List.length_append, List.length_singleton]; show ((o.length + 1 : Nat) : Int) + 1 ≤ n + 1; omega⟩ (by show 6 - (n + 1).toNat < 6 - n.toNat; omega)
    | false =>
      simp only [YF.l0, ZQ hn, cond_true, Yaf.f_of e1, cond_false, hw]
      exact hL _ ⟨by show 1 ≤ n + 1; omega, by show n + 1 ≤ 6; omega, rfl, hc1, o, rfl, ho, by show (o.length : Int) + 1 ≤ n + 1; omega⟩ (by show 6 - (n + 1).toNat < 6 - n.toNat; omega)
  · simp only [YF.l0, ZV hn, cond_false]
    exact ⟨o, i, h, ho, by omega, hc, rfl⟩
theorem deepRows_get : ∀ {xs : List (List D)} {i : Nat}, (Zb xs)[i]? = (xs[i]?).map ZZ
  | [], _ => by simp [Zb]
  | x :: xs, 0 => by simp [Zb]
  | x :: xs, i + 1 => by simp only [Zb, List.getElem?_cons_succ]; exact deepRows_get
theorem atNat_deep {β : Type} {xs : List (List D)} {v : Int} (h0 : 0 ≤ v) (h1 : v < xs.length) (F : List C → Option β) : ZaG (Zb xs) v.toNat F = F (ZZ (gR xs v)) := by
  unfold ZaG
  rw [deepRows_get, gR_at h0 h1]
  rfl
theorem Y7.f_of {β : Type} {k aB aA aC aI aF z0 z1 z2 z3 z4} (h : Y7.t k aB aA aC aI aF = some (z0, z1, z2, z3, z4)) (K : ByteArray → Int → Int → (List (List C)) → (List (List C)) → Option β) : Y7.f k aB aA aC aI aF K = K z0 z1 z2 z3 z4 := by unfold Y7.f; rw [h]; rfl
def RII (B : Nat) (r : List D) : Prop := ∃ (c0 : Int) (c1 : Int), r = [.int .i64 c0, .int .i64 c1] ∧ (Lit.int .i64 c0).wf = true ∧ (Lit.int .i64 c1).wf = true ∧ True
theorem RII.open {B : Nat} {r : List D} (h : RII B r) : ∃ (c0 : Int) (c1 : Int), r = [.int .i64 c0, .int .i64 c1] ∧ (Lit.int .i64 c0).wf = true ∧ (Lit.int .i64 c1).wf = true ∧ True := h
theorem RII.mono {B B' : Nat} (hb : B ≤ B') {r : List D} (h : RII B r) : RII B' r := by
  obtain ⟨c0, c1, rfl, k0, k1, _⟩ := h
  exact ⟨_, _, rfl, k0, k1, trivial⟩
theorem RII.wide {xs : List (List D)} (h : Zi RII lim xs) : Zi RII 2097152 xs := ⟨Nat.le_trans h.1 (by decide), fun r hr => (h.2 r hr).mono (by decide)⟩
theorem RII.len {B : Nat} {r : List D} (h : RII B r) : r.length = 2 := by
  obtain ⟨c0, c1, rfl, _⟩ := h.open
  rfl
theorem RII.flat {B : Nat} {xs : List (List D)} (h : ∀ r ∈ xs, RII B r) : ZaZ 2 xs := fun r hr => by
  obtain ⟨c0, c1, rfl, _⟩ := (h r hr).open
  exact ⟨rfl, by simp [Zau]⟩
theorem RII.wt {B : Nat} {xs : List (List D)} (h : ∀ r ∈ xs, RII B r) : Zp xs = 2 * xs.length := wt_flat (R := RII B) (fun r h => by obtain ⟨c0, c1, rfl, _⟩ := h; rfl) xs h
theorem RII.deep {B : Nat} {xs : List (List D)} (h : ∀ r ∈ xs, RII B r) : Zb xs = xs.map (·.map C.d) := deep_flat (R := RII B) (fun r h => by obtain ⟨c0, c1, rfl, _⟩ := h; rfl) xs h
theorem RII.gets {B : Nat} {xs : List (List D)} (h : ∀ r ∈ xs, RII B r) {v : Int} (h0 : 0 ≤ v) (h1 : v < xs.length) : gR xs v = [.int .i64 (gI xs v 0), .int .i64 (gI xs v 1)] ∧ (Lit.int .i64 (gI xs v 0)).wf = true ∧ (Lit.int .i64 (gI xs v 1)).wf = true ∧ True := by
  obtain ⟨c0, c1, e, k0, k1, _⟩ := (h (gR xs v) (gR_mem h0 h1)).open
  unfold gI
  rw [e]
  exact ⟨rfl, k0, k1, trivial⟩
theorem RII.rows {B : Nat} {xs : List (List D)} (h : ∀ r ∈ xs, RII B r) {v : Int} (h0 : 0 ≤ v) (h1 : v < xs.length) {β : Type} (F : List D → Option β) : Zbw xs v F = F [.int .i64 (gI xs v 0), .int .i64 (gI xs v 1)] := by
  rw [← (RII.gets h h0 h1).1]
  exact Zbp h0 h1 F
theorem RII.get {B : Nat} {xs : List (List D)} (h : Zi RII B xs) {v : Int} (h0 : 0 ≤ v) (h1 : v < xs.length) : gR xs v = [.int .i64 (gI xs v 0), .int .i64 (gI xs v 1)] ∧ (Lit.int .i64 (gI xs v 0)).wf = true ∧ (Lit.int .i64 (gI xs v 1)).wf = true ∧ True := RII.gets h.2 h0 h1
theorem RII.row {B : Nat} {xs : List (List D)} (h : Zi RII B xs) {v : Int} (h0 : 0 ≤ v) (h1 : v < xs.length) {β : Type} (F : List D → Option β) : Zbw xs v F = F [.int .i64 (gI xs v 0), .int .i64 (gI xs v 1)] := RII.rows h.2 h0 h1 F
theorem spec_IsleNew_t {a0 : ByteArray} {a1 : Int} (g0 : a0.size ≤ lim) {k : Nat} (hk : Z3 k) : Yah.t k a0 a1 = some (bif Yh.v a0 && inB a1 0 10000 then (a0, a1, 0, [], [], true) else ((⟨#[]⟩ : ByteArray), 0, 0, [], [], false)) := by
  unfold Yah.t Yah.g
  try dsimp only
  rw [Yh.fv g0 hk, YaG]
  cases Yh.v a0
  · rfl
  · cases inB a1 0 10000 <;> rfl
def ofP (l : List (Int × Int)) : List (List D) := l.map fun p => [.int .i64 p.1, .int .i64 p.2]
def upP (l : List (Int × Int)) : List (List C) := l.map fun p => [.d (.int .i64 p.1), .d (.int .i64 p.2)]
theorem ofP_up (l : List (Int × Int)) : (ofP l).map (·.map C.d) = upP l := by simp [ofP, upP]
theorem Yak (l : List (Int × Int)) : (ofP l).length = l.length := by simp [ofP]
theorem Yar (l : List (Int × Int)) : (upP l).length = l.length := by simp [upP]
theorem upP_app (a b : List (Int × Int)) : upP a ++ upP b = upP (a ++ b) := by simp [upP]
theorem imm_upP : ∀ l : List (Int × Int), C.immRows (upP l) = ofP l
  | [] => rfl
  | p :: l => by simp only [upP, ofP, List.map_cons, C.immRows, C.immCells, C.imm]; exact congrArg _ (imm_upP l)
theorem deep_ofP : ∀ l : List (Int × Int), Zb (ofP l) = upP l
  | [] => rfl
  | p :: l => by simp only [upP, ofP, List.map_cons, Zb, ZZ, ZbW]; exact congrArg _ (deep_ofP l)
theorem ofP_of : ∀ {a : List (List D)}, (∀ r ∈ a, RII lim r) → ∃ l, a = ofP l
  | [], _ => ⟨[], rfl⟩
  | r :: a, h => by
    obtain ⟨l, rfl⟩ := ofP_of (a := a) fun x hx => h x (by simp [hx])
    obtain ⟨u, n, rfl, _⟩ := (h r (by simp)).open
    exact ⟨(u, n) :: l, rfl⟩
theorem ofP_ok {B : Nat} {l : List (Int × Int)} (h : l.length ≤ B) (hw : ∀ p ∈ l, (Lit.int .i64 p.1).wf = true ∧ (Lit.int .i64 p.2).wf = true) : Zi RII B (ofP l) := ⟨by rw [Yak]; exact h, fun r hr => by
  simp only [ofP, List.mem_map] at hr
  obtain ⟨p, hp, rfl⟩ := hr
  exact ⟨p.1, p.2, rfl, (hw p hp).1, (hw p hp).2, trivial⟩⟩
theorem ofP_wf {l : List (Int × Int)} (h : Zi RII lim (ofP l)) : ∀ p ∈ l, (Lit.int .i64 p.1).wf = true ∧ (Lit.int .i64 p.2).wf = true := fun p hp => by
  obtain ⟨u, n, e, h1, h2, _⟩ := (h.2 [.int .i64 p.1, .int .i64 p.2] (by simp only [ofP, List.mem_map]; exact ⟨p, hp, rfl⟩)).open
  injection e with e1 e2
  injection e2 with e2
  injection e1 with _ e1
  injection e2 with _ e2
  subst e1 e2
  exact ⟨h1, h2⟩
theorem gR_ofP {l : List (Int × Int)} {i : Nat} (h : i < l.length) : gR (ofP l) (i : Int) = [.int .i64 l[i].1, .int .i64 l[i].2] := by
  have := gR_at (xs := ofP l) (v := (i : Int)) (by omega) (by rw [Yak]; omega)
  rw [Int.toNat_natCast, List.getElem?_eq_getElem (by rw [Yak]; exact h)] at this
  injection this with this
  rw [← this]
  simp [ofP]
theorem YaA {l : List (Int × Int)} {i : Nat} (h : i < l.length) : gI (ofP l) (i : Int) 0 = l[i].1 := by
  unfold gI
  rw [gR_ofP h]
  rfl
theorem YaH {l : List (Int × Int)} {i : Nat} (h : i < l.length) : gI (ofP l) (i : Int) 1 = l[i].2 := by
  unfold gI
  rw [gR_ofP h]
  rfl
theorem Yap {l : List (Int × Int)} {i : Nat} (h : i < l.length) {β : Type} (F : List D → Option β) : Zbw (ofP l) (i : Int) F = F [.int .i64 l[i].1, .int .i64 l[i].2] := by
  rw [← gR_ofP h]
  exact Zbp (by omega) (by rw [Yak]; omega) F
theorem atRow_ofPI {l : List (Int × Int)} {v : Int} {i : Nat} (hv : v = (i : Int)) (h : i < l.length) {β : Type} (F : List D → Option β) : Zbw (ofP l) v F = F [.int .i64 l[i].1, .int .i64 l[i].2] := by
  subst hv
  exact Yap h F
def Yat (uid n : Int) : Bool → List (Int × Int) → List (Int × Int)
  | put, [] => if put then [] else [(uid, n)]
  | put, x :: l => (if put = false ∧ uid ≤ x.1 then [(uid, n)] else []) ++ ((if x.1 = uid then [] else [x]) ++ Yat uid n (put || decide (uid ≤ x.1)) l)
theorem putR_true {uid n : Int} : ∀ {l : List (Int × Int)}, (∀ p ∈ l, p.1 ≠ uid) → Yat uid n true l = l
  | [], _ => rfl
  | x :: l, h => by
    have hx := h x (by simp)
    simp only [Yat, Bool.true_or]
    rw [putR_true fun p hp => h p (by simp [hp])]
    simp [hx]
def Asc (l : List (Int × Int)) : Prop := l.Pairwise fun p q => p.1 < q.1
theorem putR_drop {uid n : Int} {A B : List (Int × Int)} {m : Int} (h : Asc (A ++ (uid, m) :: B)) : Yat uid n true (A ++ (uid, m) :: B) = A ++ B := by
  have h' := List.pairwise_append.mp h
  have hB : ∀ p ∈ B, p.1 ≠ uid := fun p hp e => by
    have := (List.pairwise_cons.mp h'.2.1).1 p hp
    simp only [] at this
    omega
  induction A with
  | nil => simp only [List.nil_append, Yat, Bool.true_or]; rw [putR_true hB]; simp
  | cons x A ih =>
    have hx : x.1 ≠ uid := fun e => by
      have := h'.2.2 x (by simp) (uid, m) (by simp)
      simp only [] at this
      omega
    simp only [List.cons_append, Yat, Bool.true_or]
    rw [ih (List.pairwise_cons.mp h).2 (List.pairwise_append.mp (List.pairwise_cons.mp h).2)]
    simp [hx]
theorem putR_set {uid n : Int} {A B : List (Int × Int)} {m : Int} (h : Asc (A ++ (uid, m) :: B)) : Yat uid n false (A ++ (uid, m) :: B) = A ++ (uid, n) :: B := by
  have h' := List.pairwise_append.mp h
  have hB : ∀ p ∈ B, p.1 ≠ uid := fun p hp e => by
    have := (List.pairwise_cons.mp h'.2.1).1 p hp
    simp only [] at this
    omega
  induction A with
  | nil => simp only [List.nil_append, Yat, Bool.false_or, Int.le_refl, decide_true]; rw [putR_true hB]; simp
  | cons x A ih =>
    have hx : x.1 < uid := by
      have := h'.2.2 x (by simp) (uid, m) (by simp)
      simpa using this
    simp only [List.cons_append, Yat, Bool.false_or]
    rw [decide_eq_false (show ¬ uid ≤ x.1 by omega), ih (List.pairwise_cons.mp h).2 (List.pairwise_append.mp (List.pairwise_cons.mp h).2)]
    simp [show ¬ uid ≤ x.1 by omega, show ¬ x.1 = uid by omega]
theorem putR_new {uid n : Int} {A B : List (Int × Int)} (hA : ∀ p ∈ A, p.1 < uid) (hB : ∀ p ∈ B, uid < p.1) : Yat uid n false (A ++ B) = A ++ (uid, n) :: B := by
  induction A with
  | nil =>
    cases B with
    | nil => rfl
    | cons x B =>
      have hx := hB x (by simp)
      simp only [List.nil_append, Yat, Bool.false_or]
      rw [decide_eq_true (show uid ≤ x.1 by omega), putR_true fun p hp e => by have := hB p (by simp [hp]); omega]
      simp [show uid ≤ x.1 by omega, show ¬ x.1 = uid by omega]
  | cons x A ih =>
    have hx := hA x (by simp)
    simp only [List.cons_append, Yat, Bool.false_or]
    rw [decide_eq_false (show ¬ uid ≤ x.1 by omega), ih fun p hp => hA p (by simp [hp])]
    simp [show ¬ uid ≤ x.1 by omega, show ¬ x.1 = uid by omega]
theorem putR_lenT {uid n : Int} : ∀ (l : List (Int × Int)), (Yat uid n true l).length ≤ l.length
  | [] => by simp [Yat]
  | x :: l => by
    have := putR_lenT (uid := uid) (n := n) l
    by_cases h2 : x.1 = uid
    · simp [Yat, h2]; omega
    · simp [Yat, h2]; omega
theorem putR_len {uid n : Int} : ∀ (b : Bool) (l : List (Int × Int)), (Yat uid n b l).length ≤ l.length + 1
  | true, l => Nat.le_succ_of_le (putR_lenT l)
  | false, [] => by simp [Yat]
  | false, x :: l => by
    have h1 := putR_lenT (uid := uid) (n := n) l
    have h3 := putR_len (uid := uid) (n := n) false l
    by_cases h : uid ≤ x.1
    · by_cases h2 : x.1 = uid
      · simp [Yat, h, h2]; omega
      · simp [Yat, h, h2]; omega
    · have h2 : ¬ x.1 = uid := by omega
      simp [Yat, h, h2]; omega
theorem putR_mem {uid n : Int} {p : Int × Int} : ∀ {b : Bool} {l : List (Int × Int)}, p ∈ Yat uid n b l → p = (uid, n) ∨ p ∈ l
  | b, [], h => by cases b <;> simp [Yat] at h; exact .inl h
  | b, x :: l, h => by
    simp only [Yat, List.mem_append] at h
    rcases h with h | h | h
    · split at h
      · simp at h; exact .inl h
      · simp at h
    · split at h
      · simp at h
      · simp at h; exact .inr (by simp [h])
    · rcases putR_mem h with q | q
      · exact .inl q
      · exact .inr (by simp [q])
theorem YO.f_of {β : Type} {k a0 z0} (h : YO.t k a0 = some z0) (K : Bool → Option β) : YO.f k a0 K = K z0 := by unfold YO.f; rw [h]; rfl
def textB (s : ByteArray) : Bool := (List.range s.size).all fun i => inB (bS s (i : Int)) 32 126
theorem l4Text_fv {s : ByteArray} (g : s.size ≤ lim) {k : Nat} (hk : Z3 k) {β : Type} (K : Bool → Option β) : YO.f k s K = K (textB s && decide ((s.size : Int) ≤ 100)) := YO.f_of (by
  have hlim : lim = 1048576 := rfl
  have hb : big = 2 ^ 64 := rfl
  unfold YO.t YO.g textB
  rw [Zb6 (n := s.size) (fun i => inB (bS s (i : Int)) 32 126) (r1 := some false) (r2 := some (decide ((s.size : Int) ≤ 100))) (by unfold Z3 at hk; omega)]
  · generalize List.all _ _ = x
    cases x <;> rfl
  · intro L i hi
    simp (disch := omega) only [YO.l0, ZQ (show (i : Int) < s.size by omega), cond_true, atStr_at, wrap_b, YaG, Zj]
    generalize inB _ _ _ = x
    cases x <;> rfl
  · intro L
    simp [YO.l0]) K
theorem YM.f_of {β : Type} {k aB aA aC aI aF z0} (h : YM.t k aB aA aC aI aF = some z0) (K : Bool → Option β) : YM.f k aB aA aC aI aF K = K z0 := by unfold YM.f; rw [h]; rfl
theorem Yp.f_of {β : Type} {k aB aA aC aI aF a1 z0} (h : Yp.t k aB aA aC aI aF a1 = some z0) (K : Int → Option β) : Yp.f k aB aA aC aI aF a1 K = K z0 := by unfold Yp.f Yp.w; rw [h]; rfl
theorem Yp.tm {ι α : Type} {ok : ι → Prop} {ψ : α → Prop} {p : ι → Nat} {B : Nat} (hp : ∀ i, ok i → B ≤ p i) {aB aA aC aI aF a1 φ} (h : Tm (fun k => B ≤ k) (fun k => Yp.t k aB aA aC aI aF a1) φ) {G : ι → Int → Option α} (hG : ∀ z0, φ z0 → Tm ok (fun i => G i z0) ψ) : Tm ok (fun i => Yp.f (p i) aB aA aC aI aF a1 (G i)) ψ := ZK (t := fun k => Yp.t k aB aA aC aI aF a1) hp h hG
set_option maxRecDepth 100000 in
theorem l4Keys_fv {c0 : Int} {c1 : ByteArray} {c2 : Int} {c3 c4 : List (List D)} (g : Zi RS lim c3) {k : Nat} (hk : Z3 k) {β : Type} (K : Bool → Option β) : YM.f k c0 c1 c2 c3 c4 K = K (namesB c3 && (c3.length : Int) == (c4.length : Int)) := YM.f_of (by
  have hl := g.1
  have hlim : lim = 1048576 := rfl
  have hb : big = 2 ^ 64 := rfl
  unfold YM.t YM.g
  rw [Zb6 (n := c3.length) (fun i => Yh.v (gS c3 (i : Int) 0) && (!decide ((i : Int) > 0) || ZbO (gS c3 ((i : Int) - 1) 0) (gS c3 (i : Int) 0))) (r1 := some false) (r2 := some ((c3.length : Int) == (c4.length : Int))) (by unfold Z3 at hk; omega)]
  · unfold namesB
    generalize List.all _ _ = x
    cases x <;> rfl
  · intro L i hi
    have k0 := (RS.get g (v := (i : Int)) (by omega) (by omega)).2.1
    simp (disch := omega) only [YM.l0, atR, rdQ, Q.ask, ZQ (show (i : Int) < c3.length by omega), cond_true, RS.row g, ZY, Zaj, Z6, Yh.fv k0 hk, Zj]
    by_cases h0 : (i : Int) > 0
    · simp (disch := omega) only [ZQ h0, cond_true, RS.row g, ZY, Zaj, Z6]
      cases Yh.v (gS c3 (i : Int) 0) <;> cases ZbO (gS c3 ((i : Int) - 1) 0) (gS c3 (i : Int) 0) <;> rfl
    · simp only [ZV h0, cond_false]
      cases Yh.v (gS c3 (i : Int) 0) <;> rfl
  · intro L
    simp [YM.l0, atR, rdQ, Q.ask]) K
def bareText : ByteArray := (⟨#[]⟩ : ByteArray)
noncomputable def Yay (kind : Int) (text : ByteArray) (num : Int) (keys kids : List (List D)) : Bool :=
  bif kind == 1 then (keys.length : Int) == 0 && ((kids.length : Int) == 0 && (num == 0 && (textB text && decide ((text.size : Int) ≤ 100))))
  else bif kind == 2 then (keys.length : Int) == 0 && ((kids.length : Int) == 0 && Zae text bareText)
  else bif kind == 3 then (keys.length : Int) == 0 && ((kids.length : Int) == 0 && (Zae text bareText && inB num 0 1))
  else bif kind == 4 then (keys.length : Int) == 0 && (Zae text bareText && num == 0)
  else bif kind == 5 then (namesB keys && (keys.length : Int) == (kids.length : Int)) && (Zae text bareText && num == 0)
  else false
def sumL (f : List D → Int) : List (List D) → Int → Int
  | [], n => n
  | r :: rs, n => if f r = 0 ∨ n + f r > 300 then 0 else sumL f rs (n + f r)
noncomputable def Yao : Nat → List D → Int
  | 0, _ => 0
  | d + 1, r => bif sumL (Yao d) (rL r 4) 1 == 0 then 0 else bif Yay (rI r 0) (rS r 1) (rI r 2) (rL r 3) (rL r 4) then sumL (Yao d) (rL r 4) 1 else 0
theorem sumL_range {f : List D → Int} (hf : ∀ r, 0 ≤ f r) : ∀ {rs : List (List D)} {n : Int}, 1 ≤ n → n ≤ 300 → 0 ≤ sumL f rs n ∧ sumL f rs n ≤ 300 ∧ (sumL f rs n ≠ 0 → n + rs.length ≤ 300)
  | [], n, h, h' => by simp only [sumL, List.length_nil]; omega
  | r :: rs, n, h, h' => by
    have := hf r
    simp only [sumL]
    split
    · omega
    · have := sumL_range hf (rs := rs) (n := n + f r) (by omega) (by omega)
      simp only [List.length_cons]
      omega
theorem YaF : ∀ (d : Nat) (r : List D), 0 ≤ Yao d r ∧ Yao d r ≤ 300
  | 0, r => by simp [Yao]
  | d + 1, r => by
    have := sumL_range (f := Yao d) (fun r => (YaF d r).1) (rs := rL r 4) (n := 1) (by omega) (by omega)
    simp only [Yao]
    generalize sumL (Yao d) (rL r 4) 1 = n at *
    cases n == 0 <;> cases Yay (rI r 0) (rS r 1) (rI r 2) (rL r 3) (rL r 4) <;> simp <;> omega
set_option maxRecDepth 100000 in
theorem look_t (d : Nat) : ∀ {c0 : Int} {c1 : ByteArray} {c2 : Int} {c3 c4 : List (List D)}, c1.size ≤ lim → Zi RS lim c3 → Zi YT lim c4 → d ≤ 6 → ∀ {k : Nat}, big + d + 1 ≤ k → Yp.t k c0 c1 c2 c3 c4 (d : Int) = some (Yao d [.int .i64 c0, .str c1, .int .i64 c2, .sl c3, .sl c4]) := by
  have hlim : lim = 1048576 := rfl
  have hb : big = 2 ^ 64 := rfl
  induction d with
  | zero =>
    intro c0 c1 c2 c3 c4 g1 g3 g4 hd k hk
    cases k with
    | zero => omega
    | succ k => rfl
  | succ d ih =>
    intro c0 c1 c2 c3 c4 g1 g3 g4 hd k hk
    cases k with
    | zero => omega
    | succ k =>
    have hl := g4.1
    have hk0 : Z3 k := by unfold Z3; omega
    rw [Yp.t_succ]
    unfold Yp.g Yp.body
    rw [show (((d + 1 : Nat) : Int) == 0) = false by rw [beq_eq_false_iff_ne]; omega, cond_false]
    have key := iter_val (b := Yp.l0 k (Yp.f k) ((d + 1 : Nat) : Int) c0 c1 c2 c3 c4 fun z0 => some z0) (fun v => ((c4.length : Int) - v.2).toNat) (fun v => 0 ≤ v.2 ∧ v.2 ≤ c4.length ∧ 1 ≤ v.1 ∧ v.1 ≤ 300)
      (fun v => bif sumL (Yao d) (c4.drop v.2.toNat) v.1 == 0 then some 0 else bif Yay c0 c1 c2 c3 c4 then some (sumL (Yao d) (c4.drop v.2.toNat) v.1) else some 0) ?_ k (1, 0) (by simp only []; omega) (by simp only []; omega)
    · rw [key]
      simp only [Yao]
      show (bif sumL (Yao d) (List.drop 0 c4) 1 == 0 then some 0 else bif Yay c0 c1 c2 c3 c4 then some (sumL (Yao d) (List.drop 0 c4) 1) else some 0) = some (bif sumL (Yao d) c4 1 == 0 then 0 else bif Yay c0 c1 c2 c3 c4 then sumL (Yao d) c4 1 else 0)
      rw [List.drop_zero]
      cases sumL (Yao d) c4 1 == 0 <;> cases Yay c0 c1 c2 c3 c4 <;> rfl
    · rintro ⟨n, i⟩ ⟨i0, i1, n0, n1⟩ L hL
      simp only [] at i0 i1 n0 n1 hL ⊢
      by_cases hi : i < c4.length
      · have hg := YT.get g4 i0 hi
        have hr := YaF d (gR c4 i)
        have ih' := ih (c0 := gI c4 i 0) (c2 := gI c4 i 2) hg.2.2.1 hg.2.2.2.2.1 hg.2.2.2.2.2.1 (by omega) (k := k) (by omega)
        rw [← hg.1] at ih'
        simp (disch := omega) only [Yp.l0, atR, rdQ, Q.ask, ZQ hi, cond_true, YT.row g4, ZY, Zaj, Zad, Za7, Z6, Zj, show ((d + 1 : Nat) : Int) - 1 = (d : Int) by omega]
        rw [Yp.f_of ih', drop_gR i0 hi]
        simp only [sumL]
        by_cases hz : Yao d (gR c4 i) = 0
        · rw [hz]
          simp
        · rw [show (Yao d (gR c4 i) == 0) = false by rw [beq_eq_false_iff_ne]; exact hz, cond_false, Zj (by omega) (by omega)]
          by_cases hn : n + Yao d (gR c4 i) > 300
          · rw [ZQ hn, if_pos (.inr hn)]
            rfl
          · rw [ZV hn, if_neg (by omega), cond_false, hL _ ⟨by simp only []; omega, by simp only []; omega, by simp only []; omega, by simp only []; omega⟩ (by simp only []; omega)]
      · rw [drop_end (by omega)]
        simp only [Yp.l0, atR, rdQ, Q.ask, ZV hi, cond_false, sumL, l4Keys_fv g3 hk0, YaG, l4Text_fv g1 hk0]
        rw [show (n == 0) = false by rw [beq_eq_false_iff_ne]; omega, cond_false]
        unfold Yay
        generalize (textB c1 && decide ((c1.size : Int) ≤ 100)) = b1
        generalize hb2 : Zae c1 (⟨#[]⟩ : ByteArray) = b2
        have hb3 : Zae c1 bareText = b2 := hb2
        rw [hb3]
        generalize namesB c3 = b3
        generalize inB c2 0 1 = b4
        generalize (c2 == 0) = b5
        generalize ((c4.length : Int) == 0) = b6
        generalize ((c3.length : Int) == (c4.length : Int)) = b7
        generalize ((c3.length : Int) == 0) = b8
        rcases ZaA c0 with rfl | rfl | rfl | rfl | rfl | ⟨e1, e2, e3, e4, e5⟩
        · cases b1 <;> cases b5 <;> cases b6 <;> cases b8 <;> rfl
        · cases b2 <;> cases b6 <;> cases b8 <;> rfl
        · cases b2 <;> cases b4 <;> cases b6 <;> cases b8 <;> rfl
        · cases b2 <;> cases b5 <;> cases b8 <;> rfl
        · cases b2 <;> cases b3 <;> cases b5 <;> cases b7 <;> cases b8 <;> rfl
        · cases b8 <;> simp only [e1, e2, e3, e4, e5, cond_false, cond_true]
theorem look_fv {d c0 : Int} {c1 : ByteArray} {c2 : Int} {c3 c4 : List (List D)} (hd0 : 0 ≤ d) (hd : d ≤ 6) (g1 : c1.size ≤ lim) (g3 : Zi RS lim c3) (g4 : Zi YT lim c4) {k : Nat} (hk : ZF 1 k) {β : Type} (K : Int → Option β) : Yp.f k c0 c1 c2 c3 c4 d K = K (Yao d.toNat [.int .i64 c0, .str c1, .int .i64 c2, .sl c3, .sl c4]) := by
  have hb : big = 2 ^ 64 := rfl
  have h1 : lv 1 = 2 ^ 65 := rfl
  obtain ⟨n, rfl⟩ : ∃ n : Nat, d = n := ⟨d.toNat, by omega⟩
  exact Yp.f_of (look_t n g1 g3 g4 (by omega) (by unfold ZF at hk; omega)) K
theorem Yp.T {aB : Int} {aA : ByteArray} {aC : Int} {aI aF : List (List D)} {a1 : Int} (h0 : 0 ≤ a1) (h1 : a1 ≤ 6) (g1 : aA.size ≤ lim) (g3 : Zi RS lim aI) (g4 : Zi YT lim aF) : Tm (ZF 1) (fun k => Yp.t k aB aA aC aI aF a1) (fun _ => True) := by
  have hb : big = 2 ^ 64 := rfl
  have h2 : lv 1 = 2 ^ 65 := rfl
  obtain ⟨n, rfl⟩ : ∃ n : Nat, a1 = n := ⟨a1.toNat, by omega⟩
  exact Tm.of (fun k hk => look_t n g1 g3 g4 (by omega) (by omega)) trivial
theorem YW.f_of {β : Type} {k aB aA aC aI aF z0} (h : YW.t k aB aA aC aI aF = some z0) (K : Bool → Option β) : YW.f k aB aA aC aI aF K = K z0 := by unfold YW.f; rw [h]; rfl
theorem YW.tm {ι α : Type} {ok : ι → Prop} {ψ : α → Prop} {p : ι → Nat} {B : Nat} (hp : ∀ i, ok i → B ≤ p i) {aB aA aC aI aF φ} (h : Tm (fun k => B ≤ k) (fun k => YW.t k aB aA aC aI aF) φ) {G : ι → Bool → Option α} (hG : ∀ z0, φ z0 → Tm ok (fun i => G i z0) ψ) : Tm ok (fun i => YW.f (p i) aB aA aC aI aF (G i)) ψ := ZK (t := fun k => YW.t k aB aA aC aI aF) hp h hG
theorem YW.T {aB : Int} {aA : ByteArray} {aC : Int} {aI aF : List (List D)} (ga0_1 : aA.size ≤ lim) (ga0_3 : Zi RS lim aI) (ga0_4 : Zi YT lim aF) : Tm (ZF 1) (fun k => YW.t k aB aA aC aI aF) (fun _ => True) := by
  unfold YW.t YW.g
  have hm := Zy
  have hlim : lim = 1048576 := rfl
  have la0_3 := ga0_3.1
  have la0_4 := ga0_4.1
  refine Yp.tm (fun i hi => hi) (Yp.T (by first | assumption | omega) (by first | assumption | omega) (by first | assumption | omega) (by first | assumption | omega) (by first | assumption | omega)) (fun y2 hy1 => ?_)
  exact Tm.ret (by trivial)
theorem Yi.f_of {β : Type} {k a0 z0} (h : Yi.t k a0 = some z0) (K : Bool → Option β) : Yi.f k a0 K = K z0 := by unfold Yi.f; rw [h]; rfl
theorem Yi.tm {ι α : Type} {ok : ι → Prop} {ψ : α → Prop} {p : ι → Nat} {B : Nat} (hp : ∀ i, ok i → B ≤ p i) {a0 φ} (h : Tm (fun k => B ≤ k) (fun k => Yi.t k a0) φ) {G : ι → Bool → Option α} (hG : ∀ z0, φ z0 → Tm ok (fun i => G i z0) ψ) : Tm ok (fun i => Yi.f (p i) a0 (G i)) ψ := ZK (t := fun k => Yi.t k a0) hp h hG
set_option maxRecDepth 100000 in
theorem Yi.T {a0 : List (List D)} (ga0 : Zi Yd lim a0) : Tm (ZF 1) (fun k => Yi.t k a0) (fun _ => True) := by
  unfold Yi.t Yi.g
  have hm := Zy
  have hlim : lim = 1048576 := rfl
  have la0 := ga0.1
  refine Tm.loop (okk := (ZF 1)) (p := fun k => k) (fun i hi => up0 hi) (b := fun k => Yi.l0 k a0 (fun z0 => some z0)) (fun i => (((a0.length : Int)) - i).toNat) (fun i => 0 ≤ i ∧ i ≤ (a0.length : Int)) ?_ ?_ ?_
  · rintro i hI
    try simp only [] at hI ⊢
    have : big = 2 ^ 64 := rfl
    omega
  · ((try simp only []); omega)
  · rintro i hI L hL
    try simp only [] at hI
    obtain ⟨i0, i1⟩ := hI
    simp only [Yi.l0, atR, rdQ, Q.ask]
    refine Tm.ite (fun h1 => ?_) (fun h1 => ?_)
    · try simp only [bz0, bz1, bz2, bz3, bz4, bz5, bz6, bz7, bz8, bz9, bza] at h1
      refine Tm.atRow (by first | assumption | omega) (by first | assumption | omega) (fun x2 hx3 hm4 => ?_)
      obtain ⟨c5, c6, c7, c8, c9, c10, c11, rfl, g12, g13, g14, g15, g16, g17, g18, _⟩ := (ga0.2 x2 hm4).open
      refine Tm.uncons ?_
      refine Tm.dInt ?_
      refine Tm.uncons ?_
      refine Tm.dInt ?_
      refine Tm.uncons ?_
      refine Tm.dInt ?_
      refine Tm.uncons ?_
      refine Tm.dStr ?_
      refine Tm.uncons ?_
      refine Tm.dInt ?_
      refine Tm.uncons ?_
      refine Tm.dSl ?_
      refine Tm.uncons ?_
      refine Tm.dSl ?_
      refine Tm.atEnd ?_
      refine Yy.tm (fun i hi => up0 hi.1) (Yy.T) (fun y20 hy19 => ?_)
      refine Tm.ite (fun h21 => ?_) (fun h21 => ?_)
      · try simp only [bz0, bz1, bz2, bz3, bz4, bz5, bz6, bz7, bz8, bz9, bza] at h21
        exact Tm.ret (by trivial)
      · try simp only [bz0, bz1, bz2, bz3, bz4, bz5, bz6, bz7, bz8, bz9, bza] at h21
        have z22 := hy19 h21
        refine Yy.tm (fun i hi => up0 hi.1) (Yy.T) (fun y24 hy23 => ?_)
        refine Tm.ite (fun h25 => ?_) (fun h25 => ?_)
        · try simp only [bz0, bz1, bz2, bz3, bz4, bz5, bz6, bz7, bz8, bz9, bza] at h25
          exact Tm.ret (by trivial)
        · try simp only [bz0, bz1, bz2, bz3, bz4, bz5, bz6, bz7, bz8, bz9, bza] at h25
          have z26 := hy23 h25
          refine YW.tm (fun i hi => hi.1) (YW.T (by first | assumption | omega) (by first | assumption | omega) (by first | assumption | omega)) (fun y28 hy27 => ?_)
          refine Tm.ite (fun h29 => ?_) (fun h29 => ?_)
          · try simp only [bz0, bz1, bz2, bz3, bz4, bz5, bz6, bz7, bz8, bz9, bza] at h29
            exact Tm.ret (by trivial)
          · try simp only [bz0, bz1, bz2, bz3, bz4, bz5, bz6, bz7, bz8, bz9, bza] at h29
            refine Tm.ite (fun h30 => ?_) (fun h30 => ?_)
            · try simp only [bz0, bz1, bz2, bz3, bz4, bz5, bz6, bz7, bz8, bz9, bza] at h30
              try rw [Zj (x := i - 1) (by omega) (by omega)]
              refine Tm.atRow (by first | assumption | omega) (by first | assumption | omega) (fun x31 hx32 hm33 => ?_)
              obtain ⟨c34, c35, c36, c37, c38, c39, c40, rfl, g41, g42, g43, g44, g45, g46, g47, _⟩ := (ga0.2 x31 hm33).open
              refine Tm.uncons ?_
              refine Tm.dInt ?_
              refine Tm.uncons ?_
              refine Tm.dInt ?_
              refine Tm.uncons ?_
              refine Tm.dInt ?_
              refine Tm.uncons ?_
              refine Tm.dStr ?_
              refine Tm.uncons ?_
              refine Tm.dInt ?_
              refine Tm.uncons ?_
              refine Tm.dSl ?_
              refine Tm.uncons ?_
              refine Tm.dSl ?_
              refine Tm.atEnd ?_
              refine Tm.ite (fun h48 => ?_) (fun h48 => ?_)
              · try simp only [bz0, bz1, bz2, bz3, bz4, bz5, bz6, bz7, bz8, bz9, bza] at h48
                exact Tm.ret (by trivial)
              · try simp only [bz0, bz1, bz2, bz3, bz4, bz5, bz6, bz7, bz8, bz9, bza] at h48
                try rw [Zj (x := i + 1) (by omega) (by omega)]
                exact hL _ (by (try simp only []); omega) (by (try simp only []); omega)
            · try simp only [bz0, bz1, bz2, bz3, bz4, bz5, bz6, bz7, bz8, bz9, bza] at h30
              try rw [Zj (x := i + 1) (by omega) (by omega)]
              exact hL _ (by (try simp only []); omega) (by (try simp only []); omega)
    · try simp only [bz0, bz1, bz2, bz3, bz4, bz5, bz6, bz7, bz8, bz9, bza] at h1
      exact Tm.ret (by trivial)
noncomputable def Yi.v (a0 : List (List D)) : Bool := (Yi.t (lv 1) a0).getD default
theorem Yi.tv {a0 : List (List D)} (ga0 : Zi Yd lim a0) {k : Nat} (hk : (ZF 1) k) : Yi.t k a0 = some (Yi.v a0) := (Yi.T ga0).val hk
theorem Yi.fv {a0 : List (List D)} (ga0 : Zi Yd lim a0) {k : Nat} (hk : (ZF 1) k) {β : Type} (K : Bool → Option β) : Yi.f k a0 K = K (Yi.v a0) := Yi.f_of (Yi.tv ga0 hk) K
theorem Yw.f_of {β : Type} {k a0 a1 z0} (h : Yw.t k a0 a1 = some z0) (K : Bool → Option β) : Yw.f k a0 a1 K = K z0 := by unfold Yw.f; rw [h]; rfl
theorem Yw.tm {ι α : Type} {ok : ι → Prop} {ψ : α → Prop} {p : ι → Nat} {B : Nat} (hp : ∀ i, ok i → B ≤ p i) {a0 a1 φ} (h : Tm (fun k => B ≤ k) (fun k => Yw.t k a0 a1) φ) {G : ι → Bool → Option α} (hG : ∀ z0, φ z0 → Tm ok (fun i => G i z0) ψ) : Tm ok (fun i => Yw.f (p i) a0 a1 (G i)) ψ := ZK (t := fun k => Yw.t k a0 a1) hp h hG
set_option maxRecDepth 100000 in
theorem Yw.T {a0 : List (List D)} {a1 : Int} (ga0 : Zi RII lim a0) : Tm Z3 (fun k => Yw.t k a0 a1) (fun _ => True) := by
  unfold Yw.t Yw.g
  have hm := Zy
  have hlim : lim = 1048576 := rfl
  have la0 := ga0.1
  refine Tm.loop (okk := Z3) (p := fun k => k) (fun i hi => hi) (b := fun k => Yw.l0 k a0 a1 (fun z0 => some z0)) (fun i => (((a0.length : Int)) - i).toNat) (fun i => 0 ≤ i ∧ i ≤ (a0.length : Int)) ?_ ?_ ?_
  · rintro i hI
    try simp only [] at hI ⊢
    have : big = 2 ^ 64 := rfl
    omega
  · ((try simp only []); omega)
  · rintro i hI L hL
    try simp only [] at hI
    obtain ⟨i0, i1⟩ := hI
    simp only [Yw.l0, atR, rdQ, Q.ask]
    refine Tm.ite (fun h1 => ?_) (fun h1 => ?_)
    · try simp only [bz0, bz1, bz2, bz3, bz4, bz5, bz6, bz7, bz8, bz9, bza] at h1
      refine Tm.atRow (by first | assumption | omega) (by first | assumption | omega) (fun x2 hx3 hm4 => ?_)
      obtain ⟨c5, c6, rfl, g7, g8, _⟩ := (ga0.2 x2 hm4).open
      refine Tm.uncons ?_
      refine Tm.dInt ?_
      refine Tm.uncons ?_
      refine Tm.dInt ?_
      refine Tm.atEnd ?_
      refine Yy.tm (fun i hi => hi.1) (Yy.T) (fun y10 hy9 => ?_)
      refine Tm.ite (fun h11 => ?_) (fun h11 => ?_)
      · try simp only [bz0, bz1, bz2, bz3, bz4, bz5, bz6, bz7, bz8, bz9, bza] at h11
        exact Tm.ret (by trivial)
      · try simp only [bz0, bz1, bz2, bz3, bz4, bz5, bz6, bz7, bz8, bz9, bza] at h11
        have z12 := hy9 h11
        refine Tm.atRow (by first | assumption | omega) (by first | assumption | omega) (fun x13 hx14 hm15 => ?_)
        rw [hx3] at hx14
        injection hx14 with hx14
        subst hx14
        refine Tm.uncons ?_
        refine Tm.dInt ?_
        refine Tm.uncons ?_
        refine Tm.dInt ?_
        refine Tm.atEnd ?_
        refine Yy.tm (fun i hi => hi.1) (Yy.T) (fun y19 hy18 => ?_)
        refine Tm.ite (fun h20 => ?_) (fun h20 => ?_)
        · try simp only [bz0, bz1, bz2, bz3, bz4, bz5, bz6, bz7, bz8, bz9, bza] at h20
          exact Tm.ret (by trivial)
        · try simp only [bz0, bz1, bz2, bz3, bz4, bz5, bz6, bz7, bz8, bz9, bza] at h20
          have z21 := hy18 h20
          refine Tm.ite (fun h22 => ?_) (fun h22 => ?_)
          · try simp only [bz0, bz1, bz2, bz3, bz4, bz5, bz6, bz7, bz8, bz9, bza] at h22
            try rw [Zj (x := i - 1) (by omega) (by omega)]
            refine Tm.atRow (by first | assumption | omega) (by first | assumption | omega) (fun x23 hx24 hm25 => ?_)
            obtain ⟨c26, c27, rfl, g28, g29, _⟩ := (ga0.2 x23 hm25).open
            refine Tm.uncons ?_
            refine Tm.dInt ?_
            refine Tm.uncons ?_
            refine Tm.dInt ?_
            refine Tm.atEnd ?_
            refine Tm.atRow (by first | assumption | omega) (by first | assumption | omega) (fun x30 hx31 hm32 => ?_)
            rw [hx3] at hx31
            injection hx31 with hx31
            subst hx31
            refine Tm.uncons ?_
            refine Tm.dInt ?_
            refine Tm.uncons ?_
            refine Tm.dInt ?_
            refine Tm.atEnd ?_
            refine Tm.ite (fun h35 => ?_) (fun h35 => ?_)
            · try simp only [bz0, bz1, bz2, bz3, bz4, bz5, bz6, bz7, bz8, bz9, bza] at h35
              exact Tm.ret (by trivial)
            · try simp only [bz0, bz1, bz2, bz3, bz4, bz5, bz6, bz7, bz8, bz9, bza] at h35
              try rw [Zj (x := i + 1) (by omega) (by omega)]
              exact hL _ (by (try simp only []); omega) (by (try simp only []); omega)
          · try simp only [bz0, bz1, bz2, bz3, bz4, bz5, bz6, bz7, bz8, bz9, bza] at h22
            try rw [Zj (x := i + 1) (by omega) (by omega)]
            exact hL _ (by (try simp only []); omega) (by (try simp only []); omega)
    · try simp only [bz0, bz1, bz2, bz3, bz4, bz5, bz6, bz7, bz8, bz9, bza] at h1
      exact Tm.ret (by trivial)
def runP (xs : List (List D)) (low : Int) (i : Nat) : Bool := inB (gI xs (i : Int) 0) 1 1000000 && (inB (gI xs (i : Int) 1) low 10000 && (!decide ((i : Int) > 0) || !decide (gI xs ((i : Int) - 1) 0 ≥ gI xs (i : Int) 0)))
def runsB (xs : List (List D)) (low : Int) : Bool := (List.range xs.length).all fun i => runP xs low i
set_option maxRecDepth 100000 in
theorem l11Runs_fv {a : List (List D)} {low : Int} (g : Zi RII lim a) {k : Nat} (hk : Z3 k) {β : Type} (K : Bool → Option β) : Yw.f k a low K = K (runsB a low && decide ((a.length : Int) ≤ 80)) := Yw.f_of (by
  have hl := g.1
  have hlim : lim = 1048576 := rfl
  have hb : big = 2 ^ 64 := rfl
  unfold Yw.t Yw.g
  rw [Zb6 (n := a.length) (runP a low) (r1 := some false) (r2 := some (decide ((a.length : Int) ≤ 80))) (by unfold Z3 at hk; omega)]
  · unfold runsB
    generalize List.all _ _ = x
    cases x <;> rfl
  · intro L i hi
    unfold runP
    simp (disch := omega) only [Yw.l0, atR, rdQ, Q.ask, ZQ (show (i : Int) < a.length by omega), cond_true, RII.row g, ZY, Zad, Z6, YaG, Zj]
    by_cases h0 : (i : Int) > 0
    · simp (disch := omega) only [ZQ h0, cond_true, RII.row g, ZY, Zad, Z6]
      cases inB (gI a (i : Int) 0) 1 1000000 <;> cases inB (gI a (i : Int) 1) low 10000 <;> cases decide (gI a ((i : Int) - 1) 0 ≥ gI a (i : Int) 0) <;> rfl
    · simp only [ZV h0, cond_false]
      cases inB (gI a (i : Int) 0) 1 1000000 <;> cases inB (gI a (i : Int) 1) low 10000 <;> rfl
  · intro L
    simp [Yw.l0, atR, rdQ, Q.ask]) K
theorem Yk.f_of {β : Type} {k a0 z0} (h : Yk.t k a0 = some z0) (K : Int → Option β) : Yk.f k a0 K = K z0 := by unfold Yk.f; rw [h]; rfl
theorem Yk.tm {ι α : Type} {ok : ι → Prop} {ψ : α → Prop} {p : ι → Nat} {B : Nat} (hp : ∀ i, ok i → B ≤ p i) {a0 φ} (h : Tm (fun k => B ≤ k) (fun k => Yk.t k a0) φ) {G : ι → Int → Option α} (hG : ∀ z0, φ z0 → Tm ok (fun i => G i z0) ψ) : Tm ok (fun i => Yk.f (p i) a0 (G i)) ψ := ZK (t := fun k => Yk.t k a0) hp h hG
set_option maxRecDepth 100000 in
theorem Yk.T {a0 : List (List D)} (ga0 : Zi RII lim a0) : Tm Z3 (fun k => Yk.t k a0) (fun _ => True) := by
  unfold Yk.t Yk.g
  have hm := Zy
  have hlim : lim = 1048576 := rfl
  have la0 := ga0.1
  refine Tm.loop (okk := Z3) (p := fun k => k) (fun i hi => hi) (b := fun k => Yk.l0 k a0 (fun z0 => some z0)) (fun v => match v with | (u0, i) => (((a0.length : Int)) - i).toNat) (fun v => match v with | (u0, i) => 0 ≤ i ∧ i ≤ (a0.length : Int)) ?_ ?_ ?_
  · rintro ⟨u0, i⟩ hI
    try simp only [] at hI ⊢
    have : big = 2 ^ 64 := rfl
    omega
  · ((try simp only []); omega)
  · rintro ⟨u0, i⟩ hI L hL
    try simp only [] at hI
    obtain ⟨i0, i1⟩ := hI
    simp only [Yk.l0, atR, rdQ, Q.ask]
    refine Tm.ite (fun h1 => ?_) (fun h1 => ?_)
    · try simp only [bz0, bz1, bz2, bz3, bz4, bz5, bz6, bz7, bz8, bz9, bza] at h1
      refine Tm.atRow (by first | assumption | omega) (by first | assumption | omega) (fun x2 hx3 hm4 => ?_)
      obtain ⟨c5, c6, rfl, g7, g8, _⟩ := (ga0.2 x2 hm4).open
      refine Tm.uncons ?_
      refine Tm.dInt ?_
      refine Tm.uncons ?_
      refine Tm.dInt ?_
      refine Tm.atEnd ?_
      try rw [Zj (x := u0 + c6) (by omega) (by omega)]
      try rw [Zj (x := i + 1) (by omega) (by omega)]
      exact hL _ (by (try simp only []); omega) (by (try simp only []); omega)
    · try simp only [bz0, bz1, bz2, bz3, bz4, bz5, bz6, bz7, bz8, bz9, bza] at h1
      exact Tm.ret (by trivial)
noncomputable def Yk.v (a0 : List (List D)) : Int := (Yk.t big a0).getD default
theorem Yk.tv {a0 : List (List D)} (ga0 : Zi RII lim a0) {k : Nat} (hk : Z3 k) : Yk.t k a0 = some (Yk.v a0) := (Yk.T ga0).val hk
theorem Yk.fv {a0 : List (List D)} (ga0 : Zi RII lim a0) {k : Nat} (hk : Z3 k) {β : Type} (K : Int → Option β) : Yk.f k a0 K = K (Yk.v a0) := Yk.f_of (Yk.tv ga0 hk) K
theorem Yx.f_of {β : Type} {k aB aA aC aI aF z0} (h : Yx.t k aB aA aC aI aF = some z0) (K : Bool → Option β) : Yx.f k aB aA aC aI aF K = K z0 := by unfold Yx.f; rw [h]; rfl
theorem Yx.T {aB : ByteArray} {aA aC : Int} {aI aF : List (List D)} (ga0_0 : aB.size ≤ lim) (ga0_3 : Zi Yd lim aI) (ga0_4 : Zi RII lim aF) : Tm (ZF 1) (fun k => Yx.t k aB aA aC aI aF) (fun _ => True) := by
  unfold Yx.t Yx.g
  have hm := Zy
  have hlim : lim = 1048576 := rfl
  have la0_3 := ga0_3.1
  have la0_4 := ga0_4.1
  refine Yh.tm (fun i hi => up0 hi) (Yh.T (by first | assumption | omega)) (fun y2 hy1 => ?_)
  refine Tm.ite (fun h3 => ?_) (fun h3 => ?_)
  · try simp only [bz0, bz1, bz2, bz3, bz4, bz5, bz6, bz7, bz8, bz9, bza] at h3
    refine Yy.tm (fun i hi => up0 hi) (Yy.T) (fun y5 hy4 => ?_)
    refine Tm.ite (fun h6 => ?_) (fun h6 => ?_)
    · try simp only [bz0, bz1, bz2, bz3, bz4, bz5, bz6, bz7, bz8, bz9, bza] at h6
      have z7 := hy4 h6
      refine Yy.tm (fun i hi => up0 hi) (Yy.T) (fun y9 hy8 => ?_)
      refine Tm.ite (fun h10 => ?_) (fun h10 => ?_)
      · try simp only [bz0, bz1, bz2, bz3, bz4, bz5, bz6, bz7, bz8, bz9, bza] at h10
        have z11 := hy8 h10
        refine Yi.tm (fun i hi => hi) (Yi.T (by first | assumption | omega)) (fun y13 hy12 => ?_)
        refine Tm.ite (fun h14 => ?_) (fun h14 => ?_)
        · try simp only [bz0, bz1, bz2, bz3, bz4, bz5, bz6, bz7, bz8, bz9, bza] at h14
          refine Yw.tm (fun i hi => up0 hi) (Yw.T (by first | assumption | omega)) (fun y16 hy15 => ?_)
          refine Tm.ite (fun h17 => ?_) (fun h17 => ?_)
          · try simp only [bz0, bz1, bz2, bz3, bz4, bz5, bz6, bz7, bz8, bz9, bza] at h17
            refine Yk.tm (fun i hi => up0 hi) (Yk.T (by first | assumption | omega)) (fun y19 hy18 => ?_)
            exact Tm.ret (by trivial)
          · try simp only [bz0, bz1, bz2, bz3, bz4, bz5, bz6, bz7, bz8, bz9, bza] at h17
            exact Tm.ret (by trivial)
        · try simp only [bz0, bz1, bz2, bz3, bz4, bz5, bz6, bz7, bz8, bz9, bza] at h14
          exact Tm.ret (by trivial)
      · try simp only [bz0, bz1, bz2, bz3, bz4, bz5, bz6, bz7, bz8, bz9, bza] at h10
        exact Tm.ret (by trivial)
    · try simp only [bz0, bz1, bz2, bz3, bz4, bz5, bz6, bz7, bz8, bz9, bza] at h6
      exact Tm.ret (by trivial)
  · try simp only [bz0, bz1, bz2, bz3, bz4, bz5, bz6, bz7, bz8, bz9, bza] at h3
    exact Tm.ret (by trivial)
noncomputable def Yx.v (aB : ByteArray) (aA aC : Int) (aI aF : List (List D)) : Bool := (Yx.t (lv 1) aB aA aC aI aF).getD default
theorem Yx.tv {aB : ByteArray} {aA aC : Int} {aI aF : List (List D)} (ga0_0 : aB.size ≤ lim) (ga0_3 : Zi Yd lim aI) (ga0_4 : Zi RII lim aF) {k : Nat} (hk : (ZF 1) k) : Yx.t k aB aA aC aI aF = some (Yx.v aB aA aC aI aF) := (Yx.T ga0_0 ga0_3 ga0_4).val hk
theorem Yx.fv {aB : ByteArray} {aA aC : Int} {aI aF : List (List D)} (ga0_0 : aB.size ≤ lim) (ga0_3 : Zi Yd lim aI) (ga0_4 : Zi RII lim aF) {k : Nat} (hk : (ZF 1) k) {β : Type} (K : Bool → Option β) : Yx.f k aB aA aC aI aF K = K (Yx.v aB aA aC aI aF) := Yx.f_of (Yx.tv ga0_0 ga0_3 ga0_4 hk) K
theorem Yai.f_of {β : Type} {k : Nat} {aB : ByteArray} {aA aC : Int} {aI aF : List (List D)} {a1 : Int} {a2 : List (List D)} {z0 : ByteArray} {z1 z2 : Int} {z3 z4 : List (List C)} {z5 : Bool} (h : Yai.t k aB aA aC aI aF a1 a2 = some (z0, z1, z2, z3, z4, z5)) (K : ByteArray → Int → Int → (List (List C)) → (List (List C)) → Bool → Option β) : Yai.f k aB aA aC aI aF a1 a2 K = K z0 z1 z2 z3 z4 z5 := by
  unfold Yai.f
  rw [h]
theorem Yl.f_of {β : Type} {k aB aA aC aI aF a1 z0} (h : Yl.t k aB aA aC aI aF a1 = some z0) (K : Int → Option β) : Yl.f k aB aA aC aI aF a1 K = K z0 := by unfold Yl.f; rw [h]; rfl
set_option maxRecDepth 100000 in
theorem Yl.T {aB : ByteArray} {aA aC : Int} {aI aF : List (List D)} {a1 : Int} (ga0_0 : aB.size ≤ lim) (ga0_3 : Zi Yd lim aI) (ga0_4 : Zi RII lim aF) : Tm Z3 (fun k => Yl.t k aB aA aC aI aF a1) (fun _ => True) := by
  unfold Yl.t Yl.g
  have hm := Zy
  have hlim : lim = 1048576 := rfl
  have la0_3 := ga0_3.1
  have la0_4 := ga0_4.1
  refine Tm.loop (okk := Z3) (p := fun k => k) (fun i hi => hi) (b := fun k => Yl.l0 k a1 aB aA aC aI aF (fun z0 => some z0)) (fun i => (((aI.length : Int)) - i).toNat) (fun i => 0 ≤ i ∧ i ≤ (aI.length : Int)) ?_ ?_ ?_
  · rintro i hI
    try simp only [] at hI ⊢
    have : big = 2 ^ 64 := rfl
    omega
  · ((try simp only []); omega)
  · rintro i hI L hL
    try simp only [] at hI
    obtain ⟨i0, i1⟩ := hI
    simp only [Yl.l0, atR, rdQ, Q.ask]
    refine Tm.ite (fun h1 => ?_) (fun h1 => ?_)
    · try simp only [bz0, bz1, bz2, bz3, bz4, bz5, bz6, bz7, bz8, bz9, bza] at h1
      refine Tm.atRow (by first | assumption | omega) (by first | assumption | omega) (fun x2 hx3 hm4 => ?_)
      obtain ⟨c5, c6, c7, c8, c9, c10, c11, rfl, g12, g13, g14, g15, g16, g17, g18, _⟩ := (ga0_3.2 x2 hm4).open
      refine Tm.uncons ?_
      refine Tm.dInt ?_
      refine Tm.uncons ?_
      refine Tm.dInt ?_
      refine Tm.uncons ?_
      refine Tm.dInt ?_
      refine Tm.uncons ?_
      refine Tm.dStr ?_
      refine Tm.uncons ?_
      refine Tm.dInt ?_
      refine Tm.uncons ?_
      refine Tm.dSl ?_
      refine Tm.uncons ?_
      refine Tm.dSl ?_
      refine Tm.atEnd ?_
      refine Tm.ite (fun h19 => ?_) (fun h19 => ?_)
      · try simp only [bz0, bz1, bz2, bz3, bz4, bz5, bz6, bz7, bz8, bz9, bza] at h19
        refine Tm.atRow (by first | assumption | omega) (by first | assumption | omega) (fun x20 hx21 hm22 => ?_)
        rw [hx3] at hx21
        injection hx21 with hx21
        subst hx21
        refine Tm.uncons ?_
        refine Tm.dInt ?_
        refine Tm.uncons ?_
        refine Tm.dInt ?_
        refine Tm.uncons ?_
        refine Tm.dInt ?_
        refine Tm.uncons ?_
        refine Tm.dStr ?_
        refine Tm.uncons ?_
        refine Tm.dInt ?_
        refine Tm.uncons ?_
        refine Tm.dSl ?_
        refine Tm.uncons ?_
        refine Tm.dSl ?_
        refine Tm.atEnd ?_
        exact Tm.ret (by trivial)
      · try simp only [bz0, bz1, bz2, bz3, bz4, bz5, bz6, bz7, bz8, bz9, bza] at h19
        try rw [Zj (x := i + 1) (by omega) (by omega)]
        exact hL _ (by (try simp only []); omega) (by (try simp only []); omega)
    · try simp only [bz0, bz1, bz2, bz3, bz4, bz5, bz6, bz7, bz8, bz9, bza] at h1
      exact Tm.ret (by trivial)
noncomputable def Yl.v (aB : ByteArray) (aA aC : Int) (aI aF : List (List D)) (a1 : Int) : Int := (Yl.t big aB aA aC aI aF a1).getD default
theorem Yl.tv {aB : ByteArray} {aA aC : Int} {aI aF : List (List D)} {a1 : Int} (ga0_0 : aB.size ≤ lim) (ga0_3 : Zi Yd lim aI) (ga0_4 : Zi RII lim aF) {k : Nat} (hk : Z3 k) : Yl.t k aB aA aC aI aF a1 = some (Yl.v aB aA aC aI aF a1) := (Yl.T ga0_0 ga0_3 ga0_4).val hk
theorem Yl.fv {aB : ByteArray} {aA aC : Int} {aI aF : List (List D)} {a1 : Int} (ga0_0 : aB.size ≤ lim) (ga0_3 : Zi Yd lim aI) (ga0_4 : Zi RII lim aF) {k : Nat} (hk : Z3 k) {β : Type} (K : Int → Option β) : Yl.f k aB aA aC aI aF a1 K = K (Yl.v aB aA aC aI aF a1) := Yl.f_of (Yl.tv ga0_0 ga0_3 ga0_4 hk) K
theorem YG.f_of {β : Type} {k aB aA aC aI aF z0} (h : YG.t k aB aA aC aI aF = some z0) (K : Int → Option β) : YG.f k aB aA aC aI aF K = K z0 := by unfold YG.f; rw [h]; rfl
theorem YP.f_of {β : Type} {k a0 a1 a2 z0} (h : YP.t k a0 a1 a2 = some z0) (K : (List (List C)) → Option β) : YP.f k a0 a1 a2 K = K z0 := by unfold YP.f; rw [h]; rfl
theorem YR.f_of {β : Type} {k a0 a1 z0 z1} (h : YR.t k a0 a1 = some (z0, z1)) (K : Int → Bool → Option β) : YR.f k a0 a1 K = K z0 z1 := by unfold YR.f; rw [h]; rfl
theorem YX.f_of {β : Type} {k : Nat} {aB : ByteArray} {aA aC : Int} {aI aF : List (List D)} {z0 : ByteArray} {z1 z2 : Int} {z3 z4 : List (List C)} {z5 z6 : Int} (h : YX.t k aB aA aC aI aF = some (z0, z1, z2, z3, z4, z5, z6)) (K : ByteArray → Int → Int → (List (List C)) → (List (List C)) → Int → Int → Option β) : YX.f k aB aA aC aI aF K = K z0 z1 z2 z3 z4 z5 z6 := by
  unfold YX.f
  rw [h]
theorem Y3.f_of {β : Type} {k a0 z0 z1 z2 z3 z4} (h : Y3.t k a0 = some (z0, z1, z2, z3, z4)) (K : ByteArray → Int → Int → (List (List C)) → (List (List C)) → Option β) : Y3.f k a0 K = K z0 z1 z2 z3 z4 := by unfold Y3.f; rw [h]; rfl
theorem YS.f_of {β : Type} {k a0 a1 a2 z0} (h : YS.t k a0 a1 a2 = some z0) (K : Bool → Option β) : YS.f k a0 a1 a2 K = K z0 := by unfold YS.f; rw [h]; rfl
theorem within_f {β : Type} {k : Nat} {a b c : Int} (K : Bool → Option β) : YS.f k a b c K = K (decide (b ≤ a) && decide (a ≤ c)) := by
  refine YS.f_of ?_ K
  unfold YS.t YS.g
  by_cases h : b ≤ a <;> simp [h]
theorem YN.same {k : Nat} {a : ByteArray} : YN.t k a = Yh.t k a := by
  unfold YN.t Yh.t YN.g Yh.g
  congr 1
  funext L v
  simp only [YN.l0, Yh.l0, l1In_f, within_f]
  refine bif_congr (fun _ => ?_) (fun _ => rfl)
  unfold Za0
  split
  · split
    · rename_i b _
      have hb : b.toNat < 256 := b.toNat_lt
      simp only []
      rw [Zj (x := (b.toNat : Int)) (by omega) (by omega)]
      generalize (b.toNat : Int) = x
      by_cases h1 : x < 97 <;> by_cases h2 : x < 48 <;> by_cases h3 : x > 57 <;> by_cases h4 : x > 122 <;> simp [h1, h2, h3, h4] <;> (try omega) <;> grind
    · rfl
  · rfl
theorem impl_NameOk_f {β : Type} {k : Nat} {a : ByteArray} (K : Bool → Option β) : YN.f k a K = Yh.f k a K := by
  unfold YN.f Yh.f
  rw [YN.same]
theorem within_fv {β : Type} {k : Nat} {a b c : Int} (K : Bool → Option β) : YS.f k a b c K = K (inB a b c) := within_f K
theorem YY.f_of {β : Type} {k a0 z0} (h : YY.t k a0 = some z0) (K : Bool → Option β) : YY.f k a0 K = K z0 := by unfold YY.f; rw [h]; rfl
theorem isCopies_f {β : Type} {k : Nat} {a : Int} (K : Bool → Option β) : YY.f k a K = K (decide (0 ≤ a) && decide (a ≤ 10000)) := by
  refine YY.f_of ?_ K
  unfold YY.t YY.g
  rw [within_f]
theorem YH.f_of {β : Type} {k a0 a1 z0} (h : YH.t k a0 a1 = some z0) (K : Bool → Option β) : YH.f k a0 a1 K = K z0 := by unfold YH.f; rw [h]; rfl
set_option maxRecDepth 100000 in
theorem namesOk_fv {a : List (List D)} {n : Int} (g : Zi RS lim a) {k : Nat} (hk : Z3 k) {β : Type} (K : Bool → Option β) : YH.f k a n K = K (namesB a && decide ((a.length : Int) ≤ n)) := YH.f_of (by
  have hl := g.1
  have hlim : lim = 1048576 := rfl
  have hb : big = 2 ^ 64 := rfl
  unfold YH.t YH.g
  rw [Zb6 (n := a.length) (fun i => Yh.v (gS a (i : Int) 0) && (!decide ((i : Int) > 0) || ZbO (gS a ((i : Int) - 1) 0) (gS a (i : Int) 0))) (r1 := some false) (r2 := some (decide ((a.length : Int) ≤ n))) (by unfold Z3 at hk; omega)]
  · unfold namesB
    generalize List.all _ _ = x
    cases x <;> rfl
  · intro L i hi
    have k0 := (RS.get g (v := (i : Int)) (by omega) (by omega)).2.1
    simp (disch := omega) only [YH.l0, atR, rdQ, Q.ask, ZQ (show (i : Int) < a.length by omega), cond_true, RS.row g, ZY, Zaj, Z6, impl_NameOk_f, Yh.fv k0 hk, Zj]
    by_cases h0 : (i : Int) > 0
    · simp (disch := omega) only [ZQ h0, cond_true, RS.row g, ZY, Zaj, Z6]
      cases Yh.v (gS a (i : Int) 0) <;> cases ZbO (gS a ((i : Int) - 1) 0) (gS a (i : Int) 0) <;> rfl
    · simp only [ZV h0, cond_false]
      cases Yh.v (gS a (i : Int) 0) <;> rfl
  · intro L
    simp [YH.l0, atR, rdQ, Q.ask]) K
theorem YD.f_of {β : Type} {k aB aA aC aI aF z0} (h : YD.t k aB aA aC aI aF = some z0) (K : Bool → Option β) : YD.f k aB aA aC aI aF K = K z0 := by unfold YD.f; rw [h]; rfl
theorem Yn.f_of {β : Type} {k aB aA aC aI aF a1 z0} (h : Yn.t k aB aA aC aI aF a1 = some z0) (K : Int → Option β) : Yn.f k aB aA aC aI aF a1 K = K z0 := by unfold Yn.f Yn.w; rw [h]; rfl
theorem Yac.f_of {β : Type} {k aB aA aC aI aF z0} (h : Yac.t k aB aA aC aI aF = some z0) (K : Bool → Option β) : Yac.f k aB aA aC aI aF K = K z0 := by unfold Yac.f; rw [h]; rfl
theorem shapeOk_fv {c0 : Int} {c1 : ByteArray} {c2 : Int} {c3 c4 : List (List D)} (g1 : c1.size ≤ lim) (g3 : Zi RS lim c3) {k : Nat} (hk : Z3 k) {β : Type} (K : Bool → Option β) : YD.f k c0 c1 c2 c3 c4 K = K (Yay c0 c1 c2 c3 c4 && (!(c0 == 5) || decide ((c3.length : Int) ≤ 300))) := YD.f_of (by
  have hlim : lim = 1048576 := rfl
  have hb : big = 2 ^ 64 := rfl
  unfold YD.t YD.g YD.m
  have text : Zo (YD.l0 k ((c2 : Int) == 0) (((c3.length : Int) : Int) == 0) (((c4.length : Int) : Int) == 0) (c1.size : Int) c0 c1 c2 c3 c4 fun z0 => some z0) k 0 = some (textB c1 && (decide ((c1.size : Int) ≤ 100) && (c2 == 0 && ((c3.length : Int) == 0 && (c4.length : Int) == 0)))) := by
    rw [Zb6 (n := c1.size) (fun i => inB (bS c1 (i : Int)) 32 126) (r1 := some false) (r2 := some (decide ((c1.size : Int) ≤ 100) && (c2 == 0 && ((c3.length : Int) == 0 && (c4.length : Int) == 0)))) (by unfold Z3 at hk; omega)]
    · unfold textB
      generalize List.all _ _ = x
      cases x <;> rfl
    · intro L i hi
      simp (disch := omega) only [YD.l0, ZQ (show (i : Int) < c1.size by omega), cond_true, atStr_at, wrap_b, within_fv, Zj]
      generalize inB _ _ _ = x
      cases x <;> rfl
    · intro L
      simp only [YD.l0, ZV (show ¬ (c1.size : Int) < c1.size by omega), cond_false]
      cases decide ((c1.size : Int) ≤ 100) <;> cases c2 == 0 <;> cases ((c3.length : Int) == 0) <;> rfl
  simp only [text, within_fv, namesOk_fv g3 hk]
  unfold Yay
  generalize textB c1 = b1
  generalize decide ((c1.size : Int) ≤ 100) = b0
  generalize hb2 : Zae c1 (⟨#[]⟩ : ByteArray) = b2
  have hb3 : Zae c1 bareText = b2 := hb2
  rw [hb3]
  generalize namesB c3 = b3
  generalize inB c2 0 1 = b4
  generalize (c2 == 0) = b5
  generalize ((c4.length : Int) == 0) = b6
  generalize ((c3.length : Int) == (c4.length : Int)) = b7
  generalize ((c3.length : Int) == 0) = b8
  generalize decide ((c3.length : Int) ≤ 300) = b9
  rcases ZaA c0 with rfl | rfl | rfl | rfl | rfl | ⟨e1, e2, e3, e4, e5⟩
  · cases b0 <;> cases b1 <;> cases b5 <;> cases b6 <;> cases b8 <;> rfl
  · cases b2 <;> cases b6 <;> cases b8 <;> rfl
  · cases b2 <;> cases b4 <;> cases b6 <;> cases b8 <;> rfl
  · cases b2 <;> cases b5 <;> cases b8 <;> rfl
  · cases b2 <;> cases b3 <;> cases b5 <;> cases b7 <;> cases b9 <;> rfl
  · simp only [e1, e2, e3, e4, e5, cond_false, Bool.false_and]) K
set_option maxRecDepth 100000 in
theorem measured_t (d : Nat) : ∀ {c0 : Int} {c1 : ByteArray} {c2 : Int} {c3 c4 : List (List D)}, c1.size ≤ lim → Zi RS lim c3 → Zi YT lim c4 → d ≤ 6 → ∀ {k : Nat}, big + d + 1 ≤ k → Yn.t k c0 c1 c2 c3 c4 (d : Int) = some (bif Yao d [.int .i64 c0, .str c1, .int .i64 c2, .sl c3, .sl c4] == 0 then 301 else Yao d [.int .i64 c0, .str c1, .int .i64 c2, .sl c3, .sl c4]) := by
  have hlim : lim = 1048576 := rfl
  have hb : big = 2 ^ 64 := rfl
  induction d with
  | zero =>
    intro c0 c1 c2 c3 c4 g1 g3 g4 hd k hk
    cases k with
    | zero => omega
    | succ k => rfl
  | succ d ih =>
    intro c0 c1 c2 c3 c4 g1 g3 g4 hd k hk
    cases k with
    | zero => omega
    | succ k =>
    have hl := g4.1
    have hk0 : Z3 k := by unfold Z3; omega
    rw [Yn.t_succ]
    unfold Yn.g Yn.body
    rw [show (((d + 1 : Nat) : Int) == 0) = false by rw [beq_eq_false_iff_ne]; omega, cond_false, shapeOk_fv g1 g3 hk0]
    have key := iter_val (b := Yn.l0 k (Yn.f k) ((d + 1 : Nat) : Int) c4 (c4.length : Int) fun z0 => some z0) (fun v => ((c4.length : Int) - v.2).toNat) (fun v => 0 ≤ v.2 ∧ v.2 ≤ c4.length ∧ 1 ≤ v.1 ∧ v.1 ≤ 300)
      (fun v => bif sumL (Yao d) (c4.drop v.2.toNat) v.1 == 0 then some 301 else some (sumL (Yao d) (c4.drop v.2.toNat) v.1)) ?_ k (1, 0) (by simp only []; omega) (by simp only []; omega)
    · rw [key]
      show (bif !(Yay c0 c1 c2 c3 c4 && (!(c0 == 5) || decide ((c3.length : Int) ≤ 300))) then some 301 else bif sumL (Yao d) (List.drop 0 c4) 1 == 0 then some 301 else some (sumL (Yao d) (List.drop 0 c4) 1)) = some (bif Yao (d + 1) [.int .i64 c0, .str c1, .int .i64 c2, .sl c3, .sl c4] == 0 then 301 else Yao (d + 1) [.int .i64 c0, .str c1, .int .i64 c2, .sl c3, .sl c4])
      have el : Yao (d + 1) [.int .i64 c0, .str c1, .int .i64 c2, .sl c3, .sl c4] = bif sumL (Yao d) c4 1 == 0 then 0 else bif Yay c0 c1 c2 c3 c4 then sumL (Yao d) c4 1 else 0 := rfl
      rw [List.drop_zero, el]
      have hs := sumL_range (f := Yao d) (fun r => (YaF d r).1) (rs := c4) (n := 1) (by omega) (by omega)
      by_cases hz : sumL (Yao d) c4 1 = 0
      · rw [hz]
        cases (Yay c0 c1 c2 c3 c4 && (!(c0 == 5) || decide ((c3.length : Int) ≤ 300))) <;> rfl
      · have hz' : (sumL (Yao d) c4 1 == 0) = false := by rw [beq_eq_false_iff_ne]; exact hz
        rw [hz', cond_false, cond_false]
        by_cases hsh : Yay c0 c1 c2 c3 c4 = true
        · have h5 : (!(c0 == 5) || decide ((c3.length : Int) ≤ 300)) = true := by
            by_cases h5 : c0 = 5
            · subst h5
              have : (c3.length : Int) = c4.length := by
                unfold Yay at hsh
                simp at hsh
                omega
              have := hs.2.2 hz
              simp
              omega
            · simp [h5]
          rw [hsh, h5]
          simp only [Bool.and_self, Bool.not_true, cond_false, cond_true, hz']
        · rw [Bool.not_eq_true] at hsh
          rw [hsh]
          rfl
    · rintro ⟨n, i⟩ ⟨i0, i1, n0, n1⟩ L hL
      simp only [] at i0 i1 n0 n1 hL ⊢
      by_cases hi : i < c4.length
      · have hg := YT.get g4 i0 hi
        have hr := YaF d (gR c4 i)
        have ih' := ih (c0 := gI c4 i 0) (c2 := gI c4 i 2) hg.2.2.1 hg.2.2.2.2.1 hg.2.2.2.2.2.1 (by omega) (k := k) (by omega)
        rw [← hg.1] at ih'
        simp (disch := omega) only [Yn.l0, atR, rdQ, Q.ask, ZQ hi, cond_true, YT.row g4, ZY, Zaj, Zad, Za7, Z6, Zj, show ((d + 1 : Nat) : Int) - 1 = (d : Int) by omega]
        rw [Yn.f_of ih', drop_gR i0 hi]
        simp only [sumL]
        by_cases hz : Yao d (gR c4 i) = 0
        · rw [hz, show ((0 : Int) == 0) = true from rfl, cond_true, Zj (by omega) (by omega), ZQ (by omega)]
          simp
        · rw [show (Yao d (gR c4 i) == 0) = false by rw [beq_eq_false_iff_ne]; exact hz, cond_false, Zj (by omega) (by omega)]
          by_cases hn : n + Yao d (gR c4 i) > 300
          · rw [ZQ hn, if_pos (.inr hn)]
            rfl
          · rw [ZV hn, if_neg (by omega), cond_false, hL _ ⟨by simp only []; omega, by simp only []; omega, by simp only []; omega, by simp only []; omega⟩ (by simp only []; omega)]
      · rw [drop_end (by omega)]
        simp only [Yn.l0, atR, rdQ, Q.ask, ZV hi, cond_false, sumL]
        rw [show (n == 0) = false by rw [beq_eq_false_iff_ne]; omega, cond_false]
noncomputable def valB (c0 : Int) (c1 : ByteArray) (c2 : Int) (c3 c4 : List (List D)) : Bool := decide (Yao 6 [.int .i64 c0, .str c1, .int .i64 c2, .sl c3, .sl c4] > 0)
theorem spec_ValueOk_fv {c0 : Int} {c1 : ByteArray} {c2 : Int} {c3 c4 : List (List D)} (g1 : c1.size ≤ lim) (g3 : Zi RS lim c3) (g4 : Zi YT lim c4) {k : Nat} (hk : ZF 1 k) {β : Type} (K : Bool → Option β) : YW.f k c0 c1 c2 c3 c4 K = K (valB c0 c1 c2 c3 c4) := YW.f_of (by
  unfold YW.t YW.g
  rw [look_fv (by omega) (by omega) g1 g3 g4 hk]
  rfl) K
theorem impl_ValueOk_fv {c0 : Int} {c1 : ByteArray} {c2 : Int} {c3 c4 : List (List D)} (g1 : c1.size ≤ lim) (g3 : Zi RS lim c3) (g4 : Zi YT lim c4) {k : Nat} (hk : ZF 1 k) {β : Type} (K : Bool → Option β) : Yac.f k c0 c1 c2 c3 c4 K = K (valB c0 c1 c2 c3 c4) := Yac.f_of (by
  have hb : big = 2 ^ 64 := rfl
  have h1 : lv 1 = 2 ^ 65 := rfl
  unfold Yac.t Yac.g
  rw [Yn.f_of (show Yn.t k c0 c1 c2 c3 c4 6 = _ from measured_t 6 g1 g3 g4 (by omega) (by unfold ZF at hk; omega))]
  unfold valB
  have hr := YaF 6 [.int .i64 c0, .str c1, .int .i64 c2, .sl c3, .sl c4]
  generalize Yao 6 [.int .i64 c0, .str c1, .int .i64 c2, .sl c3, .sl c4] = n at *
  by_cases hz : n = 0
  · subst hz; rfl
  · rw [show (n == 0) = false by rw [beq_eq_false_iff_ne]; exact hz, cond_false, ZQ (by omega), ZQ (by omega)]) K
theorem YE.f_of {β : Type} {k a0 z0} (h : YE.t k a0 = some z0) (K : Bool → Option β) : YE.f k a0 K = K z0 := by unfold YE.f; rw [h]; rfl
set_option maxRecDepth 100000 in
theorem YE.same {a0 : List (List D)} (g : Zi Yd lim a0) {k : Nat} (hk : ZF 1 k) : YE.t k a0 = Yi.t k a0 := by
  have hl := g.1
  have hlim : lim = 1048576 := rfl
  unfold YE.t Yi.t YE.g Yi.g
  refine congrArg (fun b => Zo b k 0) (funext fun L => funext fun v => ?_)
  simp only [YE.l0, atR, rdQ, Q.ask, Yi.l0, atR, rdQ, Q.ask, within_fv, YaG]
  refine bif_congr (fun h => ?_) (fun _ => rfl)
  by_cases h0 : 0 ≤ v ∧ v < a0.length
  · obtain ⟨h0, h1⟩ := h0
    obtain ⟨-, -, -, -, k3, -, k5, k6, -⟩ := Yd.get g h0 h1
    simp (disch := omega) only [Yd.row g, ZY, Zaj, Zad, Za7, Z6]
    simp only [spec_ValueOk_fv k3 k5 k6 hk, impl_ValueOk_fv k3 k5 k6 hk]
  · simp only [atRow_none h0]
theorem impl_WorksOk_fv {a0 : List (List D)} (g : Zi Yd lim a0) {k : Nat} (hk : ZF 1 k) {β : Type} (K : Bool → Option β) : YE.f k a0 K = K (Yi.v a0) :=
  YE.f_of ((YE.same g hk).trans (Yi.tv g hk)) K
theorem YQ.f_of {β : Type} {k a0 z0} (h : YQ.t k a0 = some z0) (K : Bool → Option β) : YQ.f k a0 K = K z0 := by unfold YQ.f; rw [h]; rfl
set_option maxRecDepth 100000 in
theorem runsOk_fv {a : List (List D)} (g : Zi RII lim a) {k : Nat} (hk : Z3 k) {β : Type} (K : Bool → Option β) : YQ.f k a K = K (runsB a 0 && decide ((a.length : Int) ≤ 80)) := YQ.f_of (by
  have hl := g.1
  have hlim : lim = 1048576 := rfl
  have hb : big = 2 ^ 64 := rfl
  have hc : ∀ {n : Int} {β : Type} (K : Bool → Option β), YY.f k n K = K (inB n 0 10000) := fun K => isCopies_f K
  unfold YQ.t YQ.g
  rw [Zb6 (n := a.length) (runP a 0) (r1 := some false) (r2 := some (decide ((a.length : Int) ≤ 80))) (by unfold Z3 at hk; omega)]
  · unfold runsB
    generalize List.all _ _ = x
    cases x <;> rfl
  · intro L i hi
    unfold runP
    simp (disch := omega) only [YQ.l0, atR, rdQ, Q.ask, ZQ (show (i : Int) < a.length by omega), cond_true, RII.row g, ZY, Zad, Z6, within_fv, hc, Zj]
    by_cases h0 : (i : Int) > 0
    · simp (disch := omega) only [ZQ h0, cond_true, RII.row g, ZY, Zad, Z6]
      cases inB (gI a (i : Int) 0) 1 1000000 <;> cases inB (gI a (i : Int) 1) 0 10000 <;> cases decide (gI a ((i : Int) - 1) 0 ≥ gI a (i : Int) 0) <;> rfl
    · simp only [ZV h0, cond_false]
      cases inB (gI a (i : Int) 0) 1 1000000 <;> cases inB (gI a (i : Int) 1) 0 10000 <;> rfl
  · intro L
    simp [YQ.l0, atR, rdQ, Q.ask]) K
theorem Y9.f_of {β : Type} {k aB aA z0} (h : Y9.t k aB aA = some z0) (K : Bool → Option β) : Y9.f k aB aA K = K z0 := by unfold Y9.f; rw [h]; rfl
theorem Yb.f_of {β : Type} {k a0 z0} (h : Yb.t k a0 = some z0) (K : Int → Option β) : Yb.f k a0 K = K z0 := by unfold Yb.f; rw [h]; rfl
theorem Yj.f_of {β : Type} {k a0 z0} (h : Yj.t k a0 = some z0) (K : Bool → Option β) : Yj.f k a0 K = K z0 := by unfold Yj.f; rw [h]; rfl
theorem YB.f_of {β : Type} {k aB aA aC aI aF z0} (h : YB.t k aB aA aC aI aF = some z0) (K : Int → Option β) : YB.f k aB aA aC aI aF K = K z0 := by unfold YB.f; rw [h]; rfl
theorem YZ.f_of {β : Type} {k aB aA aC aI aF z0} (h : YZ.t k aB aA aC aI aF = some z0) (K : Bool → Option β) : YZ.f k aB aA aC aI aF K = K z0 := by unfold YZ.f; rw [h]; rfl
theorem runs_low (a : List (List D)) : runsB a 1 = (runsB a 0 && (List.range a.length).all fun i => !(gI a (i : Int) 1 == 0)) := by
  unfold runsB
  rw [Bool.eq_iff_iff]
  simp only [Bool.and_eq_true, List.all_eq_true]
  have h1 : ∀ i, runP a 1 i = (runP a 0 i && !(gI a (i : Int) 1 == 0)) := fun i => by
    unfold runP
    have : inB (gI a (i : Int) 1) 1 10000 = (inB (gI a (i : Int) 1) 0 10000 && !(gI a (i : Int) 1 == 0)) := by
      unfold inB
      generalize gI a (i : Int) 1 = n
      by_cases h1 : 1 ≤ n
      · rw [ZQ h1, ZQ (show 0 ≤ n by omega), show (n == 0) = false by rw [beq_eq_false_iff_ne]; omega]
        cases decide (n ≤ 10000) <;> rfl
      · rw [ZV h1]
        by_cases h0 : n = 0
        · subst h0; rfl
        · rw [ZV (show ¬ 0 ≤ n by omega)]
          rfl
    rw [this]
    cases inB (gI a (i : Int) 0) 1 1000000 <;> cases inB (gI a (i : Int) 1) 0 10000 <;> cases gI a (i : Int) 1 == 0 <;> simp
  constructor
  · intro h
    refine ⟨fun x hx => ?_, fun x hx => ?_⟩
    · have := h x hx; rw [h1, Bool.and_eq_true] at this; exact this.1
    · have := h x hx; rw [h1, Bool.and_eq_true] at this; exact this.2
  · intro h x hx
    rw [h1, Bool.and_eq_true]
    exact ⟨h.1 x hx, h.2 x hx⟩
set_option maxRecDepth 100000 in
theorem YZ.same {aB : ByteArray} {aA aC : Int} {aI aF : List (List D)} (g0 : aB.size ≤ lim) (g3 : Zi Yd lim aI) (g4 : Zi RII lim aF) {k : Nat} (hk : ZF 1 k) : YZ.t k aB aA aC aI aF = Yx.t k aB aA aC aI aF := by
  have hk0 : Z3 k := up0 hk
  have hl := g4.1
  have hlim : lim = 1048576 := rfl
  have hb : big = 2 ^ 64 := rfl
  have hc : ∀ {n : Int} {β : Type} (K : Bool → Option β), YY.f k n K = K (inB n 0 10000) := fun K => isCopies_f K
  have hf : ∀ {β : Type} (K : Int → Option β), Yb.f k aF K = K (Zbo (fun i => gI aF (i : Int) 1 == 0) aF.length) := fun K => Yb.f_of (by
    unfold Yb.t Yb.g
    refine iter_findI (n := aF.length) _ some (by unfold Z3 at hk0; omega) (fun L i hi => ?_) (fun L => by simp [Yb.l0, atR, rdQ, Q.ask])
    have hs : ∀ {x y : Int} {β : Type} (K : Bool → Option β), Y9.f k x y K = K (y == 0) := fun K => Y9.f_of (by unfold Y9.t Y9.g; rfl) K
    simp (disch := omega) only [Yb.l0, atR, rdQ, Q.ask, ZQ (show (i : Int) < aF.length by omega), cond_true, RII.row g4, ZY, Zad, Z6, hs, Zj]) K
  have hcf : ∀ {β : Type} (K : Bool → Option β), Yj.f k aF K = K (!(List.range aF.length).all fun i => !(gI aF (i : Int) 1 == 0)) := fun K => Yj.f_of (by
    unfold Yj.t Yj.g
    rw [hf, findI_all]) K
  have hr : ∀ {β : Type} (K : Int → Option β), YB.f k aB aA aC aI aF K = Yk.f k aF K := fun K => by
    unfold YB.f Yk.f
    have : YB.t k aB aA aC aI aF = Yk.t k aF := by
      unfold YB.t Yk.t YB.g Yk.g
      refine congrArg (fun b => Zo b k (0, 0)) (funext fun L => funext fun v => ?_)
      simp only [YB.l0, atR, rdQ, Q.ask, Yk.l0, atR, rdQ, Q.ask]
    cases h2 : Yk.t k aF <;> simp only [this, h2]
  unfold YZ.t Yx.t YZ.g Yx.g
  simp only [impl_NameOk_f, Yh.fv g0 hk0, within_fv, YaG, hc, l11Runs_fv g4 hk0, runsOk_fv g4 hk0, impl_WorksOk_fv g3 hk, Yi.fv g3 hk, hcf, hr, runs_low]
  generalize Yh.v aB = b1
  generalize inB aA 0 10000 = b2
  generalize inB aC 0 1000000 = b3
  generalize Yi.v aI = b4
  generalize runsB aF 0 = b5
  generalize decide ((aF.length : Int) ≤ 80) = b6
  generalize List.all _ _ = b7
  cases b1 <;> cases b2 <;> cases b3 <;> cases b4 <;> cases b5 <;> cases b6 <;> cases b7 <;> rfl
theorem YL.f_of {β : Type} {k a0 z0} (h : YL.t k a0 = some z0) (K : (List (List C)) → Option β) : YL.f k a0 K = K z0 := by unfold YL.f; rw [h]; rfl
theorem clone_string_fv {a : List (List D)} (g : Zi RS lim a) {k : Nat} {β : Type} (K : List (List C) → Option β) : YL.f k a K = K (a.map (·.map C.d)) := YL.f_of (by
  have hl := g.1
  have hlim : lim = 1048576 := rfl
  have hm : ZN = 2 ^ 36 := rfl
  unfold YL.t YL.g
  rw [ZaP (RS.flat g.2), ZaP (by simp only [List.length_nil, map_len]; omega), List.nil_append]
  exact nilSl_same) K
theorem Ym.f_of {β : Type} {k aB aA aC aI aF z0 z1 z2 z3 z4} (h : Ym.t k aB aA aC aI aF = some (z0, z1, z2, z3, z4)) (K : Int → ByteArray → Int → (List (List C)) → (List (List C)) → Option β) : Ym.f k aB aA aC aI aF K = K z0 z1 z2 z3 z4 := by unfold Ym.f Ym.w; rw [h]; rfl
set_option maxRecDepth 100000 in
theorem copyVal (n : Nat) : ∀ (c0 : Int) (c1 : ByteArray) (c2 : Int) (c3 c4 : List (List D)), Zi RS lim c3 → c4.length ≤ lim → (∀ x ∈ c4, Yad lim n x) → ∀ {k : Nat}, big + n + 1 ≤ k → Ym.t k c0 c1 c2 c3 c4 = some (c0, c1, c2, Zb c3, Zb c4) := by
  have hm : ZN = 2 ^ 36 := rfl
  have hlim : lim = 1048576 := rfl
  have hb : big = 2 ^ 64 := rfl
  induction n using Nat.strongRecOn with
  | ind n ih =>
  intro c0 c1 c2 c3 c4 g3 l4 g4 k hk
  obtain ⟨k, rfl⟩ : ∃ k', k = k' + 1 := ⟨k - 1, by omega⟩
  rw [Ym.t_succ]
  unfold Ym.g Ym.body
  rw [clone_string_fv g3]
  refine (iter_copy (xs := c4) (r := some (c0, c1, c2, c3.map (·.map C.d), Zb c4)) (by omega) (fun L i hi => ?_) (fun L => ?_)).trans (by rw [RS.deep g3.2])
  · have hl : (Zb (c4.take i)).length = i := by rw [Zw, List.length_take]; omega
    obtain ⟨n', hn', d0, d1, d2, d3, d4, e, w0, w1, w2, w3, w4, w5⟩ : ∃ n', n = n' + 1 ∧ ∃ d0 d1 d2 d3 d4, gR c4 (i : Int) = [.int .i64 d0, .str d1, .int .i64 d2, .sl d3, .sl d4] ∧ (Lit.int .i64 d0).wf = true ∧ d1.size ≤ lim ∧ (Lit.int .i64 d2).wf = true ∧ Zi RS lim d3 ∧ d4.length ≤ lim ∧ ∀ x ∈ d4, Yad lim n' x := by
      have := g4 _ (gR_mem (xs := c4) (v := (i : Int)) (by omega) (by omega))
      generalize gR c4 (i : Int) = r at this
      cases this with
      | mk e0 e1 e2 e3 e4 w0 p1 w2 p3 p4 p5 => exact ⟨_, rfl, _, _, _, _, _, rfl, w0, p1, w2, p3, p4, p5⟩
    simp (disch := omega) only [Ym.l0, atR, rdQ, Q.ask, ZQ (show (i : Int) < c4.length by omega), cond_true, Zbp (xs := c4) (v := (i : Int)), e, ZY, Zad, Zaj, Za7, Z6, Ym.f_of (ih n' (by omega) d0 d1 d2 d3 d4 w3 w4 w5 (k := k) (by omega)), Zj]
    rw [ZaP (by rw [hl, List.length_singleton]; omega)]
    simp only [ZZ, ZbW]
  · simp only [Ym.l0, atR, rdQ, Q.ask, ZV (show ¬ (c4.length : Int) < c4.length by omega), cond_false]
set_option maxRecDepth 100000 in
theorem l4CopyVal (n : Nat) : ∀ (c0 : Int) (c1 : ByteArray) (c2 : Int) (c3 c4 : List (List D)), Zi RS lim c3 → c4.length ≤ lim → (∀ x ∈ c4, Yad lim n x) → ∀ {k : Nat}, big + n + 1 ≤ k → Yv.t k c0 c1 c2 c3 c4 = some (c0, c1, c2, Zb c3, Zb c4) := by
  have hm : ZN = 2 ^ 36 := rfl
  have hlim : lim = 1048576 := rfl
  have hb : big = 2 ^ 64 := rfl
  induction n using Nat.strongRecOn with
  | ind n ih =>
  intro c0 c1 c2 c3 c4 g3 l4 g4 k hk
  have l3 := g3.1
  obtain ⟨k, rfl⟩ : ∃ k', k = k' + 1 := ⟨k - 1, by omega⟩
  rw [Yv.t_succ]
  unfold Yv.g Yv.body
  rw [ZaP (RS.flat g3.2), ZaP (by simp only [List.length_nil, map_len]; omega), List.nil_append]
  refine (iter_copy (xs := c4) (r := some (c0, c1, c2, c3.map (·.map C.d), Zb c4)) (by omega) (fun L i hi => ?_) (fun L => ?_)).trans (by rw [RS.deep g3.2])
  · have hl : (Zb (c4.take i)).length = i := by rw [Zw, List.length_take]; omega
    obtain ⟨n', hn', d0, d1, d2, d3, d4, e, w0, w1, w2, w3, w4, w5⟩ : ∃ n', n = n' + 1 ∧ ∃ d0 d1 d2 d3 d4, gR c4 (i : Int) = [.int .i64 d0, .str d1, .int .i64 d2, .sl d3, .sl d4] ∧ (Lit.int .i64 d0).wf = true ∧ d1.size ≤ lim ∧ (Lit.int .i64 d2).wf = true ∧ Zi RS lim d3 ∧ d4.length ≤ lim ∧ ∀ x ∈ d4, Yad lim n' x := by
      have := g4 _ (gR_mem (xs := c4) (v := (i : Int)) (by omega) (by omega))
      generalize gR c4 (i : Int) = r at this
      cases this with
      | mk e0 e1 e2 e3 e4 w0 p1 w2 p3 p4 p5 => exact ⟨_, rfl, _, _, _, _, _, rfl, w0, p1, w2, p3, p4, p5⟩
    simp (disch := omega) only [Yv.l0, atR, rdQ, Q.ask, ZQ (show (i : Int) < c4.length by omega), cond_true, Zbp (xs := c4) (v := (i : Int)), e, ZY, Zad, Zaj, Za7, Z6, Yv.f_of (ih n' (by omega) d0 d1 d2 d3 d4 w3 w4 w5 (k := k) (by omega)), Zj]
    rw [ZaP (by rw [hl, List.length_singleton]; omega)]
    simp only [ZZ, ZbW]
  · simp only [Yv.l0, atR, rdQ, Q.ask, ZV (show ¬ (c4.length : Int) < c4.length by omega), cond_false]
theorem value_h {xs : List (List D)} (g : Zi YT lim xs) : ∀ x ∈ xs, Yad lim 1099511627776 x := fun x hx => by
  obtain ⟨h, hh, hx⟩ := g.2 x hx
  exact hx.mono (hh (by decide))
theorem copyValue_fv {c0 c2 : Int} {c1 : ByteArray} {c3 c4 : List (List D)} (g3 : Zi RS lim c3) (g4 : Zi YT lim c4) {k : Nat} (hk : ZF 1 k) {β : Type} (K : Int → ByteArray → Int → List (List C) → List (List C) → Option β) : Ym.f k c0 c1 c2 c3 c4 K = K c0 c1 c2 (Zb c3) (Zb c4) :=
  Ym.f_of (copyVal 1099511627776 c0 c1 c2 c3 c4 g3 g4.1 (value_h g4) (Nat.le_trans (big_lv1 (n := 1099511627776 + 1) (by omega)) hk)) K
theorem l4Copy_fv {c0 c2 : Int} {c1 : ByteArray} {c3 c4 : List (List D)} (g3 : Zi RS lim c3) (g4 : Zi YT lim c4) {k : Nat} (hk : ZF 1 k) {β : Type} (K : Int → ByteArray → Int → List (List C) → List (List C) → Option β) : Yv.f k c0 c1 c2 c3 c4 K = K c0 c1 c2 (Zb c3) (Zb c4) :=
  Yv.f_of (l4CopyVal 1099511627776 c0 c1 c2 c3 c4 g3 g4.1 (value_h g4) (Nat.le_trans (big_lv1 (n := 1099511627776 + 1) (by omega)) hk)) K
theorem Yz.f_of {β : Type} {k a0 z0} (h : Yz.t k a0 = some z0) (K : (List (List C)) → Option β) : Yz.f k a0 K = K z0 := by unfold Yz.f; rw [h]; rfl
set_option maxRecDepth 100000 in
theorem copyWorks_fv {a : List (List D)} (g : Zi Yd lim a) {k : Nat} (hk : ZF 1 k) {β : Type} (K : List (List C) → Option β) : Yz.f k a K = K (Zb a) := Yz.f_of (by
  have hm : ZN = 2 ^ 36 := rfl
  have hlim : lim = 1048576 := rfl
  have hb : big = 2 ^ 64 := rfl
  have hk0 : big ≤ k := up0 hk
  have l := g.1
  unfold Yz.t Yz.g
  refine iter_copy (xs := a) (by omega) (fun L i hi => ?_) (fun L => ?_)
  · have hl : (Zb (a.take i)).length = i := by rw [Zw, List.length_take]; omega
    obtain ⟨e, -, -, -, k3, -, k5, k6, -⟩ := Yd.get g (v := (i : Int)) (by omega) (by omega)
    simp (disch := omega) only [Yz.l0, atR, rdQ, Q.ask, ZQ (show (i : Int) < a.length by omega), cond_true, Zbp (xs := a) (v := (i : Int)), e, ZY, Zad, Zaj, Za7, Z6, copyValue_fv k5 k6 hk, Zj]
    rw [ZaP (by rw [hl, List.length_singleton]; omega)]
    simp only [ZZ, ZbW]
  · simp only [Yz.l0, atR, rdQ, Q.ask, ZV (show ¬ (a.length : Int) < a.length by omega), cond_false]) K
set_option maxRecDepth 100000 in
theorem l12Works_fv {a : List (List D)} (g : Zi Yd lim a) {k : Nat} (hk : ZF 1 k) {β : Type} (K : List (List C) → Option β) : YC.f k a K = K (Zb a) := YC.f_of (by
  have hm : ZN = 2 ^ 36 := rfl
  have hlim : lim = 1048576 := rfl
  have hb : big = 2 ^ 64 := rfl
  have hk0 : big ≤ k := up0 hk
  have l := g.1
  unfold YC.t YC.g
  refine iter_copy (xs := a) (by omega) (fun L i hi => ?_) (fun L => ?_)
  · have hl : (Zb (a.take i)).length = i := by rw [Zw, List.length_take]; omega
    obtain ⟨e, -, -, -, k3, -, k5, k6, -⟩ := Yd.get g (v := (i : Int)) (by omega) (by omega)
    simp (disch := omega) only [YC.l0, atR, rdQ, Q.ask, ZQ (show (i : Int) < a.length by omega), cond_true, Zbp (xs := a) (v := (i : Int)), e, ZY, Zad, Zaj, Za7, Z6, l4Copy_fv k5 k6 hk, Zj]
    rw [ZaP (by rw [hl, List.length_singleton]; omega)]
    simp only [ZZ, ZbW]
  · simp only [YC.l0, atR, rdQ, Q.ask, ZV (show ¬ (a.length : Int) < a.length by omega), cond_false]) K
theorem YI.f_of {β : Type} {k a0 z0} (h : YI.t k a0 = some z0) (K : (List (List C)) → Option β) : YI.f k a0 K = K z0 := by unfold YI.f; rw [h]; rfl
theorem clone_run_fv {a : List (List D)} (g : Zi RII lim a) {k : Nat} {β : Type} (K : List (List C) → Option β) : YI.f k a K = K (a.map (·.map C.d)) := YI.f_of (by
  have hl := g.1
  have hlim : lim = 1048576 := rfl
  have hm : ZN = 2 ^ 36 := rfl
  unfold YI.t YI.g
  rw [ZaP (RII.flat g.2), ZaP (by simp only [List.length_nil, map_len]; omega), List.nil_append]
  exact nilSl_same) K
theorem Y8.f_of {β : Type} {k aB aA aC aI aF z0 z1 z2 z3 z4} (h : Y8.t k aB aA aC aI aF = some (z0, z1, z2, z3, z4)) (K : ByteArray → Int → Int → (List (List C)) → (List (List C)) → Option β) : Y8.f k aB aA aC aI aF K = K z0 z1 z2 z3 z4 := by unfold Y8.f; rw [h]; rfl
theorem copyIsle_fv {a0 : ByteArray} {a1 a2 : Int} {a3 a4 : List (List D)} (g3 : Zi Yd lim a3) (g4 : Zi RII lim a4) {k : Nat} (hk : ZF 1 k) {β : Type} (K : ByteArray → Int → Int → List (List C) → List (List C) → Option β) : Y8.f k a0 a1 a2 a3 a4 K = K a0 a1 a2 (Zb a3) (a4.map (·.map C.d)) := Y8.f_of (by
  unfold Y8.t Y8.g
  rw [copyWorks_fv g3 hk, clone_run_fv g4]) K
theorem l13Copy_fv {a0 : ByteArray} {a1 a2 : Int} {a3 a4 : List (List D)} (g3 : Zi Yd lim a3) (g4 : Zi RII lim a4) {k : Nat} (hk : ZF 1 k) {β : Type} (K : ByteArray → Int → Int → List (List C) → List (List C) → Option β) : Y7.f k a0 a1 a2 a3 a4 K = K a0 a1 a2 (Zb a3) (a4.map (·.map C.d)) := Y7.f_of (by
  have l4 := g4.1
  have hlim : lim = 1048576 := rfl
  have hm : ZN = 2 ^ 36 := rfl
  unfold Y7.t Y7.g
  rw [l12Works_fv g3 hk, ZaP (RII.flat g4.2), ZaP (by simp only [List.length_nil, map_len]; omega), List.nil_append]) K
theorem IsleOkI {aB : ByteArray} {aA aC : Int} {aI aF : List (List D)} (g0 : aB.size ≤ lim) (g3 : Zi Yd lim aI) (g4 : Zi RII lim aF) {k : Nat} (hk : ZF 1 k) {β : Type} (K : Bool → Option β) : YZ.f k aB aA aC aI aF K = K (Yx.v aB aA aC aI aF) := YZ.f_of ((YZ.same g0 g3 g4 hk).trans (Yx.tv g0 g3 g4 hk)) K
noncomputable def obeyB (a0 : ByteArray) (a1 a2 : Int) (a3 a4 : List (List D)) (n : Int) (b : List (List D)) : Bool := Yx.v a0 a1 a2 a3 a4 && (Yi.v b && (!decide (n ≤ a2) && !decide (n > 1000000)))
noncomputable def obeyV (a0 : ByteArray) (a1 a2 : Int) (a3 a4 : List (List D)) (n : Int) (b : List (List D)) : ByteArray × Int × Int × List (List C) × List (List C) × Bool :=
  bif obeyB a0 a1 a2 a3 a4 n b then (a0, a1, n, Zb b, Zb a4, true) else (a0, a1, a2, Zb a3, Zb a4, false)
theorem spec_Obey_t {a0 : ByteArray} {a1 a2 n : Int} {a3 a4 b : List (List D)} (g0 : a0.size ≤ lim) (g3 : Zi Yd lim a3) (g4 : Zi RII lim a4) (gb : Zi Yd lim b) {k : Nat} (hk : ZF 1 k) : Yai.t k a0 a1 a2 a3 a4 n b = some (obeyV a0 a1 a2 a3 a4 n b) := by
  unfold Yai.t Yai.g
  rw [l13Copy_fv g3 g4 hk, Yx.fv g0 g3 g4 hk, Yi.fv gb hk, l12Works_fv gb hk, ← RII.deep g4.2]
  unfold obeyV obeyB
  cases Yx.v a0 a1 a2 a3 a4 <;> cases Yi.v b <;> cases decide (n ≤ a2) <;> cases decide (n > 1000000) <;> rfl
theorem YV.f_of {β : Type} {k aB aA aC aI aF a1 z0} (h : YV.t k aB aA aC aI aF a1 = some z0) (K : Int → Option β) : YV.f k aB aA aC aI aF a1 K = K z0 := by unfold YV.f; rw [h]; rfl
theorem Y6.f_of {β : Type} {k aB aA z0} (h : Y6.t k aB aA = some z0) (K : Bool → Option β) : Y6.f k aB aA K = K z0 := by unfold Y6.f; rw [h]; rfl
theorem Yg.f_of {β : Type} {k : Nat} {xs z0 : List (List C)} (h : Yg.t k xs = some z0) (K : (List (List C)) → Option β) : Yg.f k xs K = K z0 := by
  unfold Yg.f
  rw [h]
theorem Y4.f_of {β : Type} {k a0 z0} (h : Y4.t k a0 = some z0) (K : Bool → Option β) : Y4.f k a0 K = K z0 := by unfold Y4.f; rw [h]; rfl
theorem Y0.f_of {β : Type} {k a0 a1 z0} (h : Y0.t k a0 a1 = some z0) (K : Int → Option β) : Y0.f k a0 a1 K = K z0 := by unfold Y0.f; rw [h]; rfl
theorem Yag.f_of {β : Type} {k aB aA a1 z0} (h : Yag.t k aB aA a1 = some z0) (K : Int → Option β) : Yag.f k aB aA a1 K = K z0 := by unfold Yag.f; rw [h]; rfl
theorem Ya.f_of {β : Type} {k a0 a1 z0 z1} (h : Ya.t k a0 a1 = some (z0, z1)) (K : Int → Bool → Option β) : Ya.f k a0 a1 K = K z0 z1 := by unfold Ya.f; rw [h]; rfl
theorem half_eq {x : Int} (h0 : 0 ≤ x) (h1 : x < 4611686018427387904) : Int.fdiv (IntKind.wrap .u64 (IntKind.wrap .i64 x)) (2 ^ (min (1 : Int).toNat 64)) = x / 2 := by
  rw [Zj (by omega) (by omega)]
  have : IntKind.wrap .u64 x = x := by simp only [IntKind.wrap, IntKind.signed, IntKind.bits]; simp; omega
  rw [this, show (min (1 : Int).toNat 64) = 1 from rfl, Int.pow_one, Int.fdiv_eq_ediv_of_nonneg _ (by decide)]
theorem isNaN_fv {x : Int} {k : Nat} {β : Type} (K : Bool → Option β) : Y4.f k x K = K false := Y4.f_of (by unfold Y4.t Y4.g; simp) K
theorem cmpI_fv {x y : Int} {k : Nat} {β : Type} (K : Int → Option β) : Y0.f k x y K = K (if x < y then -1 else if y < x then 1 else 0) := Y0.f_of (by
  unfold Y0.t Y0.g
  simp only [isNaN_fv, cond_false]
  by_cases h : x < y
  · simp [h]
  · by_cases h2 : y < x <;> simp [h, h2]) K
def lbP (l : List (Int × Int)) (t : Int) : Nat := (l.takeWhile fun p => decide (p.1 < t)).length
theorem lbP_le (l : List (Int × Int)) (t : Int) : lbP l t ≤ l.length := (List.takeWhile_sublist _).length_le
theorem YaJ : ∀ {l : List (Int × Int)} {t : Int}, Asc l → (∀ p ∈ l.take (lbP l t), p.1 < t) ∧ ∀ p ∈ l.drop (lbP l t), t ≤ p.1
  | [], t, _ => by simp [lbP]
  | x :: l, t, h => by
    obtain ⟨h1, h2⟩ := List.pairwise_cons.mp h
    by_cases hx : x.1 < t
    · obtain ⟨q1, q2⟩ := YaJ (t := t) h2
      have e : lbP (x :: l) t = lbP l t + 1 := by simp [lbP, List.takeWhile_cons, hx]
      rw [e, List.take_succ_cons, List.drop_succ_cons]
      exact ⟨fun p hp => by rcases List.mem_cons.mp hp with rfl | hp; exact hx; exact q1 p hp, q2⟩
    · have e : lbP (x :: l) t = 0 := by simp [lbP, List.takeWhile_cons, hx]
      rw [e]
      exact ⟨by simp, fun p hp => by
        rw [List.drop_zero] at hp
        rcases List.mem_cons.mp hp with rfl | hp
        · omega
        · have := h1 p hp; omega⟩
theorem lbP_lt {l : List (Int × Int)} {t : Int} (h : Asc l) {i : Nat} (hi : i < l.length) (hq : i < lbP l t) : l[i].1 < t := (YaJ h).1 _ (by
  rw [List.mem_take_iff_getElem]
  exact ⟨i, by omega, rfl⟩)
theorem lbP_ge {l : List (Int × Int)} {t : Int} (h : Asc l) {i : Nat} (hi : i < l.length) (hq : lbP l t ≤ i) : t ≤ l[i].1 := (YaJ h).2 _ (by
  rw [List.mem_drop_iff_getElem]
  exact ⟨i - lbP l t, by omega, by congr 1; omega⟩)
def hitP (l : List (Int × Int)) (t : Int) : Bool := match l[lbP l t]? with | some p => p.1 == t | none => false
theorem move2_fv {x n t : Int} {k : Nat} {β : Type} (K : Int → Option β) : Yag.f k x n t K = K (if x < t then -1 else if t < x then 1 else 0) := Yag.f_of (by
  unfold Yag.t Yag.g
  rw [cmpI_fv]) K
set_option maxRecDepth 100000 in
theorem bin_fv {l : List (Int × Int)} {t : Int} (hl : l.length ≤ 1048576) (ha : Asc l) {k : Nat} (hk : Z3 k) {β : Type} (K : Int → Bool → Option β) : Ya.f k (ofP l) t K = K (lbP l t : Int) (hitP l t) := by
  have hb : big = 2 ^ 64 := rfl
  have hle := lbP_le l t
  refine Ya.f_of ?_ K
  unfold Ya.t Ya.g
  refine iter_val (fun v : Int × Int => (v.2 - v.1).toNat) (fun v => 0 ≤ v.1 ∧ v.1 ≤ (lbP l t : Int) ∧ (lbP l t : Int) ≤ v.2 ∧ v.2 ≤ (l.length : Int)) (fun _ => some ((lbP l t : Int), hitP l t)) ?_ k _ ?_ ?_
  · rintro ⟨i, j⟩ ⟨i0, i1, j0, j1⟩ L hL
    simp only [] at i0 i1 j0 j1 hL
    simp only [Ya.l0, atR, rdQ, Q.ask]
    by_cases h : i < j
    · obtain ⟨m, hm⟩ : ∃ m : Nat, (i + j) / 2 = (m : Int) := ⟨((i + j) / 2).toNat, by omega⟩
      rw [ZQ h]
      simp only [cond_true]
      rw [half_eq (by omega) (by omega), hm, Zj (x := (m : Int)) (by omega) (by omega), ZaP (by decide), Yap (by omega)]
      simp only [ZY, Zad, Z6, move2_fv]
      by_cases hq : l[m].1 < t
      · have : m < lbP l t := by
          rcases Nat.lt_or_ge m (lbP l t) with h | h
          · exact h
          · have := lbP_ge ha (by omega) h; omega
        rw [if_pos hq, ZQ (show (-1 : Int) < 0 by decide), cond_true, Zj (by omega) (by omega)]
        exact hL _ ⟨by show 0 ≤ (m : Int) + 1; omega, by show (m : Int) + 1 ≤ _; omega, j0, j1⟩ (by simp only []; omega)
      · have : lbP l t ≤ m := by
          rcases Nat.lt_or_ge m (lbP l t) with h | h
          · have := lbP_lt ha (show m < l.length by omega) h; omega
          · exact h
        rw [if_neg hq, ZV (show ¬ (if t < l[m].1 then (1 : Int) else 0) < 0 by split <;> decide), cond_false]
        exact hL _ ⟨i0, i1, by show _ ≤ (m : Int); omega, by show (m : Int) ≤ _; omega⟩ (by simp only []; omega)
    · rw [ZV h]
      simp only [cond_false, Yak]
      obtain rfl : i = (lbP l t : Int) := by omega
      unfold hitP
      by_cases hlt : lbP l t < l.length
      · rw [ZQ (show (lbP l t : Int) < (l.length : Int) by omega), cond_true, Yap hlt, List.getElem?_eq_getElem hlt]
        simp only [ZY, Zad, Z6, move2_fv]
        have := lbP_ge ha hlt (Nat.le_refl _)
        by_cases he : l[lbP l t].1 = t
        · simp [he]
        · rw [if_neg (by omega), if_pos (by omega), show ((1 : Int) == 0) = false from rfl, show (l[lbP l t].1 == t) = false from by simpa using he]
      · rw [ZV (show ¬ (lbP l t : Int) < (l.length : Int) by omega), cond_false, List.getElem?_eq_none (by omega)]
  · simp only [Yak]
    omega
  · simp only [Yak]
    unfold Z3 at hk
    omega
theorem hit_true {l : List (Int × Int)} {t : Int} (h : hitP l t = true) : ∃ hlt : lbP l t < l.length, l[lbP l t].1 = t := by
  unfold hitP at h
  split at h
  · rename_i p hp
    obtain ⟨h1, h2⟩ := List.getElem?_eq_some_iff.mp hp
    exact ⟨h1, by rw [h2]; simpa using h⟩
  · cases h
theorem hit_false {l : List (Int × Int)} {t : Int} (ha : Asc l) (h : hitP l t = false) : ∀ p ∈ l, p.1 ≠ t := by
  intro p hp e
  obtain ⟨q1, q2⟩ := YaJ (t := t) ha
  have hp' : p ∈ l.take (lbP l t) ++ l.drop (lbP l t) := by rw [List.take_append_drop]; exact hp
  rcases List.mem_append.mp hp' with h1 | h1
  · have := q1 p h1; omega
  · obtain ⟨i, hi, hpi⟩ := List.mem_drop_iff_getElem.mp h1
    have hlt : lbP l t < l.length := by omega
    have h0 := lbP_ge ha hlt (Nat.le_refl _)
    have : i = 0 := by
      rcases Nat.eq_zero_or_pos i with h | h
      · exact h
      · have := List.pairwise_iff_getElem.mp ha (lbP l t) (lbP l t + i) hlt (by omega) (by omega)
        have e2 : l[lbP l t + i].1 = t := by rw [hpi, e]
        omega
    subst this
    unfold hitP at h
    rw [List.getElem?_eq_getElem hlt] at h
    simp only [Nat.add_zero] at hpi
    simp [hpi, e] at h
theorem Yq.f_of {β : Type} {k : Nat} {xs : List (List C)} {i : Int} {ys z0 : List (List C)} (h : Yq.t k xs i ys = some z0) (K : (List (List C)) → Option β) : Yq.f k xs i ys K = K z0 := by
  unfold Yq.f
  rw [h]
theorem YA.f_of {β : Type} {k : Nat} {aB : ByteArray} {aA aC : Int} {aI aF : List (List D)} {z0 : ByteArray} {z1 z2 : Int} {z3 z4 : List (List C)} {z5 z6 : Int} (h : YA.t k aB aA aC aI aF = some (z0, z1, z2, z3, z4, z5, z6)) (K : ByteArray → Int → Int → (List (List C)) → (List (List C)) → Int → Int → Option β) : YA.f k aB aA aC aI aF K = K z0 z1 z2 z3 z4 z5 z6 := by
  unfold YA.f
  rw [h]
theorem isle_parts {a0 : ByteArray} {a1 a2 : Int} {a3 : List (List D)} {l : List (Int × Int)} (g0 : a0.size ≤ lim) (g3 : Zi Yd lim a3) (g4 : Zi RII lim (ofP l)) (h : Yx.v a0 a1 a2 a3 (ofP l) = true) : runsB (ofP l) 1 = true ∧ Yi.v a3 = true ∧ l.length ≤ 80 := by
  have hk : ZF 1 (lv 1) := Nat.le_refl _
  have ht := Yx.tv (aA := a1) (aC := a2) g0 g3 g4 hk
  have hk0 : Z3 (lv 1) := up0 hk
  rw [h] at ht
  unfold Yx.t Yx.g at ht
  simp only [Yh.fv g0 hk0, YaG, Yi.fv g3 hk, l11Runs_fv g4 hk0, Yak] at ht
  by_cases h80 : (l.length : Int) ≤ 80
  · generalize Yh.v a0 = b1 at ht
    generalize inB a1 0 10000 = b2 at ht
    generalize inB a2 0 1000000 = b3 at ht
    generalize Yi.v a3 = b4 at ht ⊢
    generalize runsB (ofP l) 1 = b5 at ht ⊢
    cases b1 <;> cases b2 <;> cases b3 <;> cases b4 <;> cases b5 <;> simp at ht ⊢
    omega
  · rw [ZV h80] at ht
    generalize Yh.v a0 = b1 at ht
    generalize inB a1 0 10000 = b2 at ht
    generalize inB a2 0 1000000 = b3 at ht
    generalize Yi.v a3 = b4 at ht
    cases b1 <;> cases b2 <;> cases b3 <;> cases b4 <;> simp at ht
theorem runs_pairs {l : List (Int × Int)} (h : runsB (ofP l) 1 = true) : Asc l ∧ ∀ p ∈ l, 1 ≤ p.2 ∧ p.2 ≤ 10000 ∧ 1 ≤ p.1 ∧ p.1 ≤ 1000000 := by
  unfold runsB at h
  rw [List.all_eq_true] at h
  have hp : ∀ i (hi : i < l.length), (1 ≤ l[i].2 ∧ l[i].2 ≤ 10000 ∧ 1 ≤ l[i].1 ∧ l[i].1 ≤ 1000000) ∧ ∀ h0 : 0 < i, l[i - 1].1 < l[i].1 := fun i hi => by
    have := h i (by rw [List.mem_range, Yak]; exact hi)
    unfold runP inB at this
    rw [YaA hi, YaH hi] at this
    simp only [Bool.and_eq_true, Bool.or_eq_true, Bool.not_eq_true', decide_eq_true_eq, decide_eq_false_iff_not] at this
    refine ⟨⟨this.2.1.1, this.2.1.2, this.1.1, this.1.2⟩, fun h0 => ?_⟩
    rw [show ((i : Int) - 1) = ((i - 1 : Nat) : Int) by omega, YaA (by omega)] at this
    rcases this.2.2 with q | q <;> omega
  have hd : ∀ d i (hi : i + d + 1 < l.length), l[i].1 < l[i + d + 1].1 := fun d => by
    induction d with
    | zero => intro i hi; have := (hp (i + 1) hi).2 (by omega); simpa using this
    | succ d ih =>
      intro i hi
      have h1 := ih i (by omega)
      have h2 := (hp (i + (d + 1) + 1) hi).2 (by omega)
      simp only [Nat.add_sub_cancel] at h2
      have e : i + (d + 1) = i + d + 1 := by omega
      simp only [e] at h2 ⊢
      omega
  refine ⟨List.pairwise_iff_getElem.mpr fun i j hi hj hij => ?_, fun p hpm => ?_⟩
  · have := hd (j - i - 1) i (by omega)
    have e : i + (j - i - 1) + 1 = j := by omega
    simp only [e] at this
    exact this
  · obtain ⟨i, hi, rfl⟩ := List.mem_iff_getElem.mp hpm
    exact (hp i hi).1
noncomputable def worksP (a : List (List D)) (i : Nat) : Bool := inB (gI a (i : Int) 0) 1 1000000 && (inB (gI a (i : Int) 1) 1 10000 && (valB (gI a (i : Int) 2) (gS a (i : Int) 3) (gI a (i : Int) 4) (gL a (i : Int) 5) (gL a (i : Int) 6) && (!decide ((i : Int) > 0) || !decide (gI a ((i : Int) - 1) 0 ≥ gI a (i : Int) 0))))
set_option maxRecDepth 100000 in
theorem works_low {a : List (List D)} (g : Zi Yd lim a) (h : Yi.v a = true) : ∀ i, i < a.length → worksP a i = true := by
  have hl := g.1
  have hlim : lim = 1048576 := rfl
  have hb : big = 2 ^ 64 := rfl
  have hb1 : lv 1 = 2 ^ 65 := rfl
  have hk : ZF 1 (lv 1) := Nat.le_refl _
  have ht := Yi.tv g hk
  rw [h] at ht
  unfold Yi.t Yi.g at ht
  rw [Zb6 (n := a.length) (worksP a) (r1 := some false) (r2 := some (decide ((a.length : Int) ≤ 40))) (by omega)] at ht
  · cases hq : (List.range a.length).all (worksP a) with
    | false => rw [hq] at ht; simp at ht
    | true =>
      rw [List.all_eq_true] at hq
      exact fun i hi => hq i (List.mem_range.mpr hi)
  · intro L i hi
    obtain ⟨-, -, -, -, k3, -, k5, k6, -⟩ := Yd.get g (v := (i : Int)) (by omega) (by omega)
    unfold worksP
    simp (disch := omega) only [Yi.l0, atR, rdQ, Q.ask, ZQ (show (i : Int) < a.length by omega), cond_true, Yd.row g, ZY, Zad, Zaj, Za7, Z6, YaG, spec_ValueOk_fv k3 k5 k6 hk, Zj]
    by_cases h0 : (i : Int) > 0
    · simp (disch := omega) only [ZQ h0, cond_true, Yd.row g, ZY, Zad, Zaj, Za7, Z6, Zj]
      cases inB (gI a (i : Int) 0) 1 1000000 <;> cases inB (gI a (i : Int) 1) 1 10000 <;> cases valB (gI a (i : Int) 2) (gS a (i : Int) 3) (gI a (i : Int) 4) (gL a (i : Int) 5) (gL a (i : Int) 6) <;> cases decide (gI a ((i : Int) - 1) 0 ≥ gI a (i : Int) 0) <;> rfl
    · simp only [ZV h0, cond_false]
      cases inB (gI a (i : Int) 0) 1 1000000 <;> cases inB (gI a (i : Int) 1) 1 10000 <;> cases valB (gI a (i : Int) 2) (gS a (i : Int) 3) (gI a (i : Int) 4) (gL a (i : Int) 5) (gL a (i : Int) 6) <;> rfl
  · intro L
    simp [Yi.l0, atR, rdQ, Q.ask]
def Yal (l : List (Int × Int)) (uid : Int) : Int := match l.find? fun p => p.1 == uid with | some p => p.2 | none => 0
set_option maxRecDepth 100000 in
theorem l11Run_fv {l : List (Int × Int)} {uid : Int} (hl : l.length ≤ 1048576) {k : Nat} (hk : Z3 k) {β : Type} (K : Int → Bool → Option β) : YR.f k (ofP l) uid K = K (Yal l uid) (l.any fun p => p.1 == uid) := by
  have hb : big = 2 ^ 64 := rfl
  refine YR.f_of ?_ K
  unfold YR.t YR.g
  refine (iter_val (fun v : Int => ((l.length : Int) - v).toNat) (fun v => 0 ≤ v ∧ v ≤ (l.length : Int) ∧ ∀ p ∈ l.take v.toNat, (p.1 == uid) = false) (fun _ => some (Yal l uid, l.any fun p => p.1 == uid)) ?_ k 0 ⟨by omega, by omega, by simp⟩ (by unfold Z3 at hk; omega))
  rintro v ⟨v0, v1, hv⟩ L hL
  obtain ⟨i, rfl⟩ : ∃ i : Nat, v = (i : Int) := ⟨v.toNat, by omega⟩
  simp only [Int.toNat_natCast] at hv
  simp only [YR.l0, atR, rdQ, Q.ask, Yak]
  have hs : l = l.take i ++ l.drop i := (List.take_append_drop i l).symm
  have hf : (l.take i).find? (fun p => p.1 == uid) = none := by rw [List.find?_eq_none]; intro p hp; rw [hv p hp]; simp
  have ha : (l.take i).any (fun p => p.1 == uid) = false := by rw [List.any_eq_false]; intro p hp; rw [hv p hp]; simp
  by_cases h : i < l.length
  · rw [ZQ (show (i : Int) < (l.length : Int) by omega)]
    simp only [cond_true, Yap h, ZY, Zad, Z6]
    have hd : l.drop i = l[i] :: l.drop (i + 1) := (List.getElem_cons_drop h).symm
    cases hq : l[i].1 == uid with
    | true =>
      simp only [cond_true]
      congr 2
      · unfold Yal
        conv => rhs; rw [hs, List.find?_append, hf, hd, List.find?_cons_of_pos (by simpa using hq)]
        rfl
      · conv => rhs; rw [hs, List.any_append, ha, hd, List.any_cons, hq]
        rfl
    | false =>
      simp only [cond_false]
      rw [Zj (by omega) (by omega)]
      refine hL _ ⟨by omega, by omega, fun p hp => ?_⟩ (by omega)
      rw [show ((i : Int) + 1).toNat = i + 1 by omega, List.take_add_one, List.getElem?_eq_getElem h] at hp
      rcases List.mem_append.mp hp with hp | hp
      · exact hv p hp
      · simp at hp; subst hp; exact hq
  · rw [ZV (show ¬ (i : Int) < (l.length : Int) by omega)]
    simp only [cond_false]
    have he : l.take i = l := List.take_of_length_le (by omega)
    rw [he] at hf ha
    unfold Yal
    rw [hf, ha]
set_option maxRecDepth 100000 in
theorem l13Put_fv {l : List (Int × Int)} {uid n : Int} (hl : l.length ≤ 1048576) {k : Nat} (hk : Z3 k) {β : Type} (K : List (List C) → Option β) : YP.f k (ofP l) uid n K = K (upP (Yat uid n (n == 0) l)) := by
  have hb : big = 2 ^ 64 := rfl
  have hm : ZN = 2 ^ 36 := rfl
  refine YP.f_of ?_ K
  unfold YP.t YP.g
  have one : ∀ u m : Int, ([[.d (.int .i64 u), .d (.int .i64 m)]] : List (List C)) = upP [(u, m)] := fun _ _ => rfl
  refine (iter_val (fun v : Bool × Int × List (List C) => ((l.length : Int) - v.2.1).toNat) (fun v => 0 ≤ v.2.1 ∧ v.2.1 ≤ (l.length : Int) ∧ ∃ q, v.2.2 = upP q ∧ q.length ≤ v.2.1.toNat + 1 ∧ (v.1 = false → q.length ≤ v.2.1.toNat) ∧ q ++ Yat uid n v.1 (l.drop v.2.1.toNat) = Yat uid n (n == 0) l) (fun _ => some (upP (Yat uid n (n == 0) l))) ?_ k _ ⟨by simp, by simp, [], rfl, by simp, by simp, by simp⟩ (by unfold Z3 at hk; simp only []; omega))
  rintro ⟨b, v, out⟩ ⟨v0, v1, q, hq, hql, hqf, hv⟩ L hL
  simp only [] at v0 v1 hq hql hqf hv hL
  subst hq
  obtain ⟨i, rfl⟩ : ∃ i : Nat, v = (i : Int) := ⟨v.toNat, by omega⟩
  simp only [Int.toNat_natCast] at hql hqf hv
  simp only [YP.l0, atR, rdQ, Q.ask, Yak, one]
  by_cases h : i < l.length
  · rw [ZQ (show (i : Int) < (l.length : Int) by omega)]
    rw [(List.getElem_cons_drop h).symm] at hv
    simp only [Yat] at hv
    have hw : IntKind.wrap .i64 ((i : Int) + 1) = (i : Int) + 1 := Zj (by omega) (by omega)
    have ht : ((i : Int) + 1).toNat = i + 1 := by omega
    simp only [cond_true, Yap h, ZY, Zad, Z6, upP_app, hw]
    cases b with
    | false =>
      have hqf' := hqf rfl
      by_cases h1 : uid ≤ l[i].1
      · simp only [h1, and_self, if_true, Bool.false_or, decide_true] at hv
        rw [ZQ (show l[i].1 ≥ uid from h1)]
        simp only [Bool.not_false, cond_true]
        rw [ZaP (by simp only [Yar, List.length_singleton]; omega)]
        by_cases h2 : l[i].1 = uid
        · rw [if_pos h2] at hv
          rw [show (l[i].1 != uid) = false by simp [h2]]
          simp only [cond_false]
          exact hL _ ⟨by simp only []; omega, by simp only []; omega, q ++ [(uid, n)], rfl, by simp only [ht, List.length_append, List.length_singleton]; omega, by simp, by simp only [ht]; rw [← hv]; simp⟩ (by simp only []; omega)
        · rw [if_neg h2] at hv
          rw [show (l[i].1 != uid) = true by simp [h2]]
          simp only [cond_true]
          rw [ZaP (by simp only [Yar, List.length_append, List.length_singleton]; omega)]
          exact hL _ ⟨by simp only []; omega, by simp only []; omega, q ++ [(uid, n)] ++ [(l[i].1, l[i].2)], rfl, by simp only [ht, List.length_append, List.length_singleton]; omega, by simp, by simp only [ht]; rw [← hv]; simp⟩ (by simp only []; omega)
      · simp only [h1, and_false, if_false, List.nil_append, Bool.false_or, decide_false] at hv
        rw [ZV (show ¬ l[i].1 ≥ uid from h1)]
        have h2 : ¬ l[i].1 = uid := by omega
        rw [if_neg h2] at hv
        rw [show (l[i].1 != uid) = true by simp [h2]]
        simp only [Bool.not_false, cond_true, cond_false]
        rw [ZaP (by simp only [Yar, List.length_singleton]; omega)]
        exact hL _ ⟨by simp only []; omega, by simp only []; omega, q ++ [(l[i].1, l[i].2)], rfl, by simp only [ht, List.length_append, List.length_singleton]; omega, fun _ => by simp only [ht, List.length_append, List.length_singleton]; omega, by simp only [ht]; rw [← hv]; simp⟩ (by simp only []; omega)
    | true =>
      simp only [Bool.true_eq_false, false_and, if_false, List.nil_append, Bool.true_or] at hv
      simp only [Bool.not_true, cond_false]
      by_cases h2 : l[i].1 = uid
      · rw [if_pos h2, List.nil_append] at hv
        rw [show (l[i].1 != uid) = false by simp [h2]]
        simp only [cond_false]
        exact hL _ ⟨by simp only []; omega, by simp only []; omega, q, rfl, by simp only [ht]; omega, by simp, by simp only [ht]; exact hv⟩ (by simp only []; omega)
      · rw [if_neg h2] at hv
        rw [show (l[i].1 != uid) = true by simp [h2]]
        simp only [cond_true]
        rw [ZaP (by simp only [Yar, List.length_singleton]; omega)]
        exact hL _ ⟨by simp only []; omega, by simp only []; omega, q ++ [(l[i].1, l[i].2)], rfl, by simp only [ht, List.length_append, List.length_singleton]; omega, by simp, by simp only [ht]; rw [← hv]; simp⟩ (by simp only []; omega)
  · rw [ZV (show ¬ (i : Int) < (l.length : Int) by omega)]
    rw [List.drop_eq_nil_of_le (by omega)] at hv
    simp only [cond_false]
    cases b with
    | false =>
      simp only [Bool.not_false, cond_true, upP_app]
      rw [ZaP (by simp only [Yar, List.length_singleton]; have := hqf rfl; omega), ← hv]
      simp [Yat]
    | true =>
      simp only [Bool.not_true, cond_false]
      rw [← hv]
      simp [Yat]
section
variable {a0 : ByteArray} {a1 a2 : Int} {a3 : List (List D)} {l : List (Int × Int)}
noncomputable def Yas (a0 : ByteArray) (a1 a2 : Int) (a3 : List (List D)) (l : List (Int × Int)) : Int := Zbo (fun i => decide (gI (ofP l) (i : Int) 1 > Yl.v a0 a1 a2 a3 (ofP l) (gI (ofP l) (i : Int) 0))) l.length
def lackP (a3 : List (List D)) (l : List (Int × Int)) (i : Nat) : Bool := decide (Yal l (gI a3 (i : Int) 0) < gI a3 (i : Int) 1)
noncomputable def moveV (a0 : ByteArray) (a1 a2 : Int) (a3 : List (List D)) (l : List (Int × Int)) : List (Int × Int) × Int × Int :=
  bif Yx.v a0 a1 a2 a3 (ofP l) then
    (bif decide (Yas a0 a1 a2 a3 l ≥ 0) then (Yat (gI (ofP l) (Yas a0 a1 a2 a3 l) 0) (gI (ofP l) (Yas a0 a1 a2 a3 l) 1 - 1) (gI (ofP l) (Yas a0 a1 a2 a3 l) 1 - 1 == 0) l, gI (ofP l) (Yas a0 a1 a2 a3 l) 0, -1)
    else (bif decide (Yk.v (ofP l) < a1) then
      (match (List.range a3.length).find? (lackP a3 l) with
      | some i => (Yat (gI a3 (i : Int) 0) (Yal l (gI a3 (i : Int) 0) + 1) (Yal l (gI a3 (i : Int) 0) + 1 == 0) l, gI a3 (i : Int) 0, 1)
      | none => (l, 0, 0)) else (l, 0, 0)))
  else (l, 0, 0)
def moveR (a0 : ByteArray) (a1 a2 : Int) (a3 : List (List D)) (z : List (Int × Int) × Int × Int) : ByteArray × Int × Int × List (List C) × List (List C) × Int × Int := (a0, a1, a2, Zb a3, upP z.1, z.2.1, z.2.2)
theorem runN_mem {l : List (Int × Int)} {uid : Int} (h : ∀ p ∈ l, 1 ≤ p.2 ∧ p.2 ≤ 10000) : 0 ≤ Yal l uid ∧ Yal l uid ≤ 10000 := by
  unfold Yal
  split
  · rename_i p hp
    have := h p (List.mem_of_find?_eq_some hp)
    omega
  · omega
set_option maxRecDepth 100000 in
theorem spec_Move_t (g0 : a0.size ≤ lim) (g3 : Zi Yd lim a3) (g4 : Zi RII lim (ofP l)) {k : Nat} (hk : ZF 1 k) : YX.t k a0 a1 a2 a3 (ofP l) = some (moveR a0 a1 a2 a3 (moveV a0 a1 a2 a3 l)) := by
  have hk0 : Z3 k := up0 hk
  have hb : big = 2 ^ 64 := rfl
  have hlim : lim = 1048576 := rfl
  have l4 := g4.1
  have l3 := g3.1
  rw [Yak] at l4
  unfold YX.t YX.g YX.m; simp only [atR, rdQ, Q.ask]
  rw [l13Copy_fv g3 g4 hk, Yx.fv g0 g3 g4 hk, ofP_up]
  unfold moveV
  cases hok : Yx.v a0 a1 a2 a3 (ofP l) with
  | false => rfl
  | true =>
    obtain ⟨hr, hw, h80⟩ := isle_parts g0 g3 g4 hok
    obtain ⟨hasc, hlow⟩ := runs_pairs hr
    have hover : ∀ {β : Type} (K : Int → Option β), YG.f k a0 a1 a2 a3 (ofP l) K = K (Yas a0 a1 a2 a3 l) := fun K => YG.f_of (by
      unfold YG.t YG.g Yas
      refine iter_findI (n := l.length) _ some (by unfold Z3 at hk0; omega) (fun L i hi => ?_) (fun L => by simp [YG.l0, atR, rdQ, Q.ask, Yak])
      simp (disch := omega) only [YG.l0, atR, rdQ, Q.ask, Yak, ZQ (show (i : Int) < l.length by omega), cond_true, Yap hi, ZY, Zad, Z6, Yl.fv g0 g3 g4 hk0, YaA hi, YaH hi, Zj]) K
    simp only [Bool.not_true, cond_false, cond_true, hover]
    by_cases ho : Yas a0 a1 a2 a3 l ≥ 0
    · rw [ZQ ho]
      obtain ⟨h1, h2, h3, h4⟩ := findI_some (p := fun i => decide (gI (ofP l) (i : Int) 1 > Yl.v a0 a1 a2 a3 (ofP l) (gI (ofP l) (i : Int) 0))) (n := l.length) ho
      change (Yas a0 a1 a2 a3 l).toNat < l.length at h1
      change (((Yas a0 a1 a2 a3 l).toNat : Nat) : Int) = Yas a0 a1 a2 a3 l at h3
      generalize Yas a0 a1 a2 a3 l = v at *
      obtain ⟨i, rfl⟩ : ∃ i : Nat, v = (i : Int) := ⟨v.toNat, by omega⟩
      simp only [Int.toNat_natCast] at h1
      have hp := hlow l[i] (List.getElem_mem h1)
      simp only [cond_true, Yap h1, ZY, Zad, Z6, YaA h1, YaH h1]
      rw [Zj (by omega) (by omega), l13Put_fv (by omega) hk0]
      rfl
    · rw [ZV ho]
      simp only [cond_false]
      by_cases hs : Yk.v (ofP l) < a1
      · rw [ZQ hs]
        simp only [cond_true]
        refine (iter_find (n := a3.length) (lackP a3 l) (r1 := fun i => some (moveR a0 a1 a2 a3 (Yat (gI a3 (i : Int) 0) (Yal l (gI a3 (i : Int) 0) + 1) (Yal l (gI a3 (i : Int) 0) + 1 == 0) l, gI a3 (i : Int) 0, 1))) (r2 := some (moveR a0 a1 a2 a3 (l, 0, 0))) (by unfold Z3 at hk0; omega) (fun L i hi => ?_) (fun L => ?_)).trans ?_
        · have hn := runN_mem (uid := gI a3 (i : Int) 0) fun p hp => ⟨(hlow p hp).1, (hlow p hp).2.1⟩
          simp (disch := omega) only [YX.l0, atR, rdQ, Q.ask, ZQ (show (i : Int) < a3.length by omega), cond_true, Yk.fv g4 hk0, ZQ hs, Yd.row g3, ZY, Zad, Zaj, Za7, Z6, l11Run_fv (show l.length ≤ 1048576 by omega) hk0, Zj, l13Put_fv (show l.length ≤ 1048576 by omega) hk0]
          rfl
        · simp only [YX.l0, atR, rdQ, Q.ask, ZV (show ¬ (a3.length : Int) < a3.length by omega), cond_false]
          rfl
        · cases (List.range a3.length).find? (lackP a3 l) <;> rfl
      · rw [ZV hs, iter_step (by unfold Z3 at hk0; omega)]
        simp only [YX.l0, atR, rdQ, Q.ask, Yk.fv g4 hk0, ZV hs, cond_false]
        cases decide ((0 : Int) < a3.length) <;> rfl
set_option maxRecDepth 100000 in
theorem wants_fv (g0 : a0.size ≤ lim) (g3 : Zi Yd lim a3) (g4 : Zi RII lim (ofP l)) {uid : Int} {k : Nat} (hk : Z3 k) {β : Type} (K : Int → Option β) : YV.f k a0 a1 a2 a3 (ofP l) uid K = K (Yl.v a0 a1 a2 a3 (ofP l) uid) := YV.f_of (by
  rw [← Yl.tv (aA := a1) (aC := a2) (a1 := uid) g0 g3 g4 hk]
  unfold YV.t Yl.t YV.g Yl.g
  refine congrArg (fun b => Zo b k 0) (funext fun L => funext fun v => ?_)
  simp only [YV.l0, atR, rdQ, Q.ask, Yl.l0, atR, rdQ, Q.ask]
  refine bif_congr (fun h => ?_) (fun _ => rfl)
  by_cases h0 : 0 ≤ v ∧ v < a3.length
  · obtain ⟨h0, h1⟩ := h0
    simp (disch := omega) only [Yd.row g3, ZY, Zaj, Zad, Za7, Z6]
  · simp only [atRow_none h0]) K
set_option maxRecDepth 100000 in
theorem running_fv (g4 : Zi RII lim (ofP l)) {k : Nat} (hk : Z3 k) {β : Type} (K : Int → Option β) : YB.f k a0 a1 a2 a3 (ofP l) K = K (Yk.v (ofP l)) := YB.f_of (by
  rw [← Yk.tv g4 hk]
  unfold YB.t Yk.t YB.g Yk.g
  refine congrArg (fun b => Zo b k (0, 0)) (funext fun L => funext fun v => ?_)
  simp only [YB.l0, atR, rdQ, Q.ask, Yk.l0, atR, rdQ, Q.ask]) K
theorem modP {l : List (Int × Int)} {i : Nat} {m : Int} (h : i < l.length) : ((upP l).modify i fun c => Zq c 1 [.d (.int .i64 m)]) = upP (l.take i ++ (l[i].1, m) :: l.drop (i + 1)) := by
  have e : upP l = upP (l.take i) ++ [.d (.int .i64 l[i].1), .d (.int .i64 l[i].2)] :: upP (l.drop (i + 1)) := by
    have : upP (l.take i ++ l[i] :: l.drop (i + 1)) = upP l := by rw [List.getElem_cons_drop, List.take_append_drop]
    rw [← this]
    simp only [upP, List.map_append, List.map_cons]
  rw [e, Zaf (by rw [Yar, List.length_take]; omega)]
  simp [upP, Zq]
theorem atNat_upP {l : List (Int × Int)} {i : Nat} (h : i < l.length) {β : Type} (F : List C → Option β) : ZaG (upP l) i F = F [.d (.int .i64 l[i].1), .d (.int .i64 l[i].2)] := by
  simp [ZaG, upP, h]
set_option maxRecDepth 100000 in
theorem delRun_fv {l : List (Int × Int)} (hl : l.length ≤ 1048576) {k : Nat} (hk : Z3 k) {β : Type} (K : List (List C) → Option β) : Yg.f k (upP l) K = K (upP (l.filter fun p => !(p.2 == 0))) := by
  have hb : big = 2 ^ 64 := rfl
  refine Yg.f_of ?_ K
  have hs : ∀ {x y : Int} {β : Type} (K : Bool → Option β), Y6.f k x y K = K (y == 0) := fun K => Y6.f_of (by unfold Y6.t Y6.g; rfl) K
  have ht : ∀ {x y : Int}, Y6.t k x y = some (y == 0) := by intro x y; unfold Y6.t Y6.g; rfl
  let q : List D → Bool := fun r => match r with | [_, .int _ n] => n == 0 | _ => false
  unfold Yg.t
  rw [← deep_ofP, delK_deep (q := q) (by rw [Yak]; exact hl)]
  · congr 1
    rw [← deep_ofP]
    congr 1
    unfold ofP
    rw [List.filter_map]
    congr 1
  · unfold Ye.t Ye.g
    rw [Yak]
    refine iter_findI (n := l.length) _ some (by unfold Z3 at hk; omega) (fun L i hi => ?_) (fun L => by simp [Ye.l0, atR, rdQ, Q.ask])
    simp (disch := omega) only [Ye.l0, atR, rdQ, Q.ask, ZQ (show (i : Int) < l.length by omega), cond_true, Yap hi, ZY, Zad, Z6, hs, Zj, gR_ofP hi]
    rfl
  · intro r hr
    simp only [ofP, List.mem_map] at hr
    obtain ⟨p, hp, rfl⟩ := hr
    exact ht
theorem insRun_fv {l : List (Int × Int)} {u m : Int} {i : Nat} (hi : i ≤ l.length) (hl : l.length ≤ 1048576) {k : Nat} {β : Type} (K : List (List C) → Option β) : Yq.f k (upP l) (i : Int) ([[.d (.int .i64 u), .d (.int .i64 m)]] : List (List C)) K = K (upP (l.take i ++ (u, m) :: l.drop i)) := Yq.f_of (by
  have hm : ZN = 2 ^ 36 := rfl
  unfold Yq.t
  rw [ZaP ⟨by omega, by rw [Yar]; omega, by rw [Yar, List.length_singleton]; omega⟩, Int.toNat_natCast]
  simp [upP, List.map_take, List.map_drop]) K
set_option maxRecDepth 100000 in
theorem impl_Move_t (g0 : a0.size ≤ lim) (g3 : Zi Yd lim a3) (g4 : Zi RII lim (ofP l)) {k : Nat} (hk : ZF 1 k) : YA.t k a0 a1 a2 a3 (ofP l) = some (moveR a0 a1 a2 a3 (moveV a0 a1 a2 a3 l)) := by
  have hk0 : Z3 k := up0 hk
  have hb : big = 2 ^ 64 := rfl
  have hlim : lim = 1048576 := rfl
  have l4 := g4.1
  have l3 := g3.1
  rw [Yak] at l4
  unfold YA.t YA.g YA.m
  rw [copyIsle_fv g3 g4 hk, IsleOkI g0 g3 g4 hk, ofP_up]
  unfold moveV
  cases hok : Yx.v a0 a1 a2 a3 (ofP l) with
  | false => rfl
  | true =>
    obtain ⟨hr, hw, h80⟩ := isle_parts g0 g3 g4 hok
    obtain ⟨hasc, hlow⟩ := runs_pairs hr
    have hwl := works_low g3 hw
    simp only [Bool.not_true, cond_false, cond_true]
    refine (iter_find (n := l.length) (fun i => decide (gI (ofP l) (i : Int) 1 > Yl.v a0 a1 a2 a3 (ofP l) (gI (ofP l) (i : Int) 0))) (r1 := fun i => some (moveR a0 a1 a2 a3 (Yat (gI (ofP l) (i : Int) 0) (gI (ofP l) (i : Int) 1 - 1) (gI (ofP l) (i : Int) 1 - 1 == 0) l, gI (ofP l) (i : Int) 0, -1)))
      (r2 := bif decide (Yk.v (ofP l) < a1) then (match (List.range a3.length).find? (lackP a3 l) with | some i => some (moveR a0 a1 a2 a3 (Yat (gI a3 (i : Int) 0) (Yal l (gI a3 (i : Int) 0) + 1) (Yal l (gI a3 (i : Int) 0) + 1 == 0) l, gI a3 (i : Int) 0, 1)) | none => some (moveR a0 a1 a2 a3 (l, 0, 0))) else some (moveR a0 a1 a2 a3 (l, 0, 0))) (by unfold Z3 at hk0; omega) (fun L i hi => ?_) (fun L => ?_)).trans ?_
    · have hp := hlow l[i] (List.getElem_mem hi)
      simp (disch := omega) only [YA.l0, YA.m0, atR, rdQ, Q.ask, Yak, ZQ (show (i : Int) < l.length by omega), cond_true, Yap hi, ZY, Zad, Z6, wants_fv g0 g3 g4 hk0, YaA hi, YaH hi]
      refine bif_congr (fun _ => ?_) (fun _ => by rw [Zj (by omega) (by omega)])
      rw [ZaP ⟨by omega, by rw [Yar]; omega⟩, Int.toNat_natCast, atNat_upP hi]
      simp only [List.drop_succ_cons, List.drop_zero, ZY, cD_at, Zad]
      rw [ZaP ⟨by omega, by rw [Yar]; omega⟩, ZaP (by rw [Yar]; omega), Zj (by omega) (by omega), modP hi, delRun_fv (by simp; omega) hk0]
      have hs : l = l.take i ++ (l[i].1, l[i].2) :: l.drop (i + 1) := by
        have : l = l.take i ++ l[i] :: l.drop (i + 1) := by rw [List.getElem_cons_drop, List.take_append_drop]
        exact this
      have hA : ∀ p ∈ l.take i, (!(p.2 == 0)) = true := fun p hp => by have := hlow p (List.mem_of_mem_take hp); simp; omega
      have hB : ∀ p ∈ l.drop (i + 1), (!(p.2 == 0)) = true := fun p hp => by have := hlow p (List.mem_of_mem_drop hp); simp; omega
      have hasc' := hasc
      rw [hs] at hasc'
      rw [List.filter_append, List.filter_cons, List.filter_eq_self.mpr hA, List.filter_eq_self.mpr hB]
      unfold moveR
      congr 6
      by_cases h1 : l[i].2 - 1 = 0
      · rw [show (l[i].2 - 1 == 0) = true by simp [h1]]
        have := putR_drop (n := l[i].2 - 1) hasc'
        rw [← hs, h1] at this
        simp only [h1, this]
        rfl
      · rw [show (l[i].2 - 1 == 0) = false by simpa using h1]
        have := putR_set (n := l[i].2 - 1) hasc'
        rw [← hs] at this
        simp only [this, show (l[i].2 - 1 == 0) = false by simpa using h1]
        rfl
    · simp (disch := omega) only [YA.l0, YA.m0, atR, rdQ, Q.ask, Yak, ZV (show ¬ (l.length : Int) < l.length by omega), cond_false, running_fv g4 hk0]
      by_cases hs : Yk.v (ofP l) < a1
      · rw [ZQ hs, ZV (show ¬ Yk.v (ofP l) ≥ a1 by omega)]
        simp only [cond_true, cond_false]
        refine (iter_find (n := a3.length) (lackP a3 l) (r1 := fun i => some (moveR a0 a1 a2 a3 (Yat (gI a3 (i : Int) 0) (Yal l (gI a3 (i : Int) 0) + 1) (Yal l (gI a3 (i : Int) 0) + 1 == 0) l, gI a3 (i : Int) 0, 1))) (r2 := some (moveR a0 a1 a2 a3 (l, 0, 0))) (by unfold Z3 at hk0; omega) (fun L i hi => ?_) (fun L => ?_))
        · have hwi := hwl i hi
          unfold worksP inB at hwi
          simp only [Bool.and_eq_true, decide_eq_true_eq] at hwi
          simp (disch := omega) only [YA.l1, atR, rdQ, Q.ask, ZQ (show (i : Int) < a3.length by omega), cond_true, Yd.row g3, ZY, Zad, Zaj, Za7, Z6, bin_fv (show l.length ≤ 1048576 by omega) hasc hk0]
          unfold lackP
          obtain ⟨uid, hu⟩ : ∃ u, u = gI a3 (i : Int) 0 := ⟨_, rfl⟩
          simp only [← hu]
          cases hh : hitP l uid with
          | false =>
            have hno := hit_false hasc hh
            have hn0 : Yal l uid = 0 := by
              unfold Yal
              rw [List.find?_eq_none.mpr fun p hp => by simpa using hno p hp]
            obtain ⟨q1, q2⟩ := YaJ (t := uid) hasc
            have hnew := putR_new (uid := uid) (n := 1) q1 fun p hp => by
              have := q2 p hp
              have := hno p (List.mem_of_mem_drop hp)
              omega
            rw [List.take_append_drop] at hnew
            simp only [Bool.not_false, cond_true]
            rw [insRun_fv (lbP_le l uid) (by omega), hn0, ZQ (show (0 : Int) < gI a3 (i : Int) 1 by omega)]
            simp only [cond_true]
            rw [show ((0 : Int) + 1 == 0) = false from rfl, Int.zero_add, hnew]
            rfl
          | true =>
            obtain ⟨hlt, he⟩ := hit_true hh
            have hs : l = l.take (lbP l uid) ++ (l[lbP l uid].1, l[lbP l uid].2) :: l.drop (lbP l uid + 1) := by
              have : l = l.take (lbP l uid) ++ l[lbP l uid] :: l.drop (lbP l uid + 1) := by rw [List.getElem_cons_drop, List.take_append_drop]
              exact this
            have hp := hlow l[lbP l uid] (List.getElem_mem hlt)
            have hn : Yal l uid = l[lbP l uid].2 := by
              have hf : (l.take (lbP l uid)).find? (fun p => p.1 == uid) = none := by
                rw [List.find?_eq_none]
                intro p hp
                have := (YaJ (t := uid) hasc).1 p hp
                simp
                omega
              have : l.find? (fun p => p.1 == uid) = some (l[lbP l uid].1, l[lbP l uid].2) := by
                have e2 : (l.take (lbP l uid) ++ (l[lbP l uid].1, l[lbP l uid].2) :: l.drop (lbP l uid + 1)).find? (fun p => p.1 == uid) = some (l[lbP l uid].1, l[lbP l uid].2) := by
                  rw [List.find?_append, hf, List.find?_cons_of_pos (by simpa using he)]
                  rfl
                rwa [← hs] at e2
              unfold Yal
              rw [this]
            have hasc' := hasc
            rw [hs] at hasc'
            have hset := putR_set (n := l[lbP l uid].2 + 1) hasc'
            rw [← hs, he] at hset
            simp only [Bool.not_true, cond_false, Yap hlt, ZY, Zad, Z6, hn]
            refine bif_congr (fun _ => ?_) (fun _ => by rw [Zj (by omega) (by omega)])
            rw [ZaP ⟨by omega, by rw [Yar]; omega⟩, Int.toNat_natCast, atNat_upP hlt]
            simp only [List.drop_succ_cons, List.drop_zero, ZY, cD_at, Zad]
            rw [ZaP ⟨by omega, by rw [Yar]; omega⟩, ZaP (by rw [Yar]; omega), Zj (by omega) (by omega), modP hlt, show (l[lbP l uid].2 + 1 == 0) = false by rw [beq_eq_false_iff_ne]; omega, hset, he]
            rfl
        · simp only [YA.l1, atR, rdQ, Q.ask, ZV (show ¬ (a3.length : Int) < a3.length by omega), cond_false]
          rfl
      · rw [ZV hs, ZQ (show Yk.v (ofP l) ≥ a1 by omega)]
        rfl
    · unfold Yas Zbo
      cases hq : (List.range l.length).find? (fun i : Nat => decide (gI (ofP l) (i : Int) 1 > Yl.v a0 a1 a2 a3 (ofP l) (gI (ofP l) (i : Int) 0))) with
      | some i =>
        simp only []
        rw [ZQ (show (i : Int) ≥ 0 by omega)]
        rfl
      | none =>
        simp only []
        rw [ZV (show ¬ (-1 : Int) ≥ 0 by decide)]
        simp only [cond_false]
        cases decide (Yk.v (ofP l) < a1)
        · rfl
        · cases (List.range a3.length).find? (lackP a3 l) <;> rfl
theorem moveV_back (g0 : a0.size ≤ lim) (g3 : Zi Yd lim a3) (g4 : Zi RII lim (ofP l)) : Zi RII 2097152 (ofP (moveV a0 a1 a2 a3 l).1) ∧ (moveV a0 a1 a2 a3 l).1.length ≤ 2097152 := by
  have hlim : lim = 1048576 := rfl
  have l4 := g4.1
  rw [Yak] at l4
  have hw := ofP_wf g4
  have base : Zi RII 2097152 (ofP l) ∧ l.length ≤ 2097152 := ⟨ofP_ok (by omega) hw, by omega⟩
  have put : ∀ {u n : Int} {b : Bool}, (Lit.int .i64 u).wf = true → (Lit.int .i64 n).wf = true → Zi RII 2097152 (ofP (Yat u n b l)) ∧ (Yat u n b l).length ≤ 2097152 := fun {u n b} h1 h2 => by
    have := putR_len (uid := u) (n := n) b l
    refine ⟨ofP_ok (by omega) fun p hp => ?_, by omega⟩
    rcases putR_mem hp with rfl | hp
    · exact ⟨h1, h2⟩
    · exact hw p hp
  have wf : ∀ {n : Int}, -1 ≤ n → n ≤ 1000001 → (Lit.int .i64 n).wf = true := fun {n} h1 h2 => by simp [Lit.wf, IntKind.min, IntKind.max, IntKind.signed, IntKind.bits]; omega
  unfold moveV
  cases hok : Yx.v a0 a1 a2 a3 (ofP l) with
  | false => exact base
  | true =>
    obtain ⟨hr, hwk, h80⟩ := isle_parts g0 g3 g4 hok
    obtain ⟨hasc, hlow⟩ := runs_pairs hr
    simp only [cond_true]
    by_cases ho : Yas a0 a1 a2 a3 l ≥ 0
    · rw [ZQ ho]
      obtain ⟨h1, h2, h3, h4⟩ := findI_some (p := fun i => decide (gI (ofP l) (i : Int) 1 > Yl.v a0 a1 a2 a3 (ofP l) (gI (ofP l) (i : Int) 0))) (n := l.length) ho
      change (Yas a0 a1 a2 a3 l).toNat < l.length at h1
      change (((Yas a0 a1 a2 a3 l).toNat : Nat) : Int) = Yas a0 a1 a2 a3 l at h3
      generalize Yas a0 a1 a2 a3 l = v at *
      obtain ⟨i, rfl⟩ : ∃ i : Nat, v = (i : Int) := ⟨v.toNat, by omega⟩
      simp only [Int.toNat_natCast] at h1
      have hp := hlow l[i] (List.getElem_mem h1)
      simp only [cond_true, YaA h1, YaH h1]
      exact put (wf (by omega) (by omega)) (wf (by omega) (by omega))
    · rw [ZV ho]
      simp only [cond_false]
      cases decide (Yk.v (ofP l) < a1) with
      | false => exact base
      | true =>
        simp only [cond_true]
        split
        · rename_i i hi
          have hlt := List.mem_range.mp (List.mem_of_find?_eq_some hi)
          have hwi := works_low g3 hwk i hlt
          unfold worksP inB at hwi
          simp only [Bool.and_eq_true, decide_eq_true_eq] at hwi
          have hn := runN_mem (uid := gI a3 (i : Int) 0) fun p hp => ⟨(hlow p hp).1, (hlow p hp).2.1⟩
          exact put (wf (by omega) (by omega)) (wf (by omega) (by omega))
        · exact base
end
end Go.Proofs.Ytpgplbalenfgfaa
