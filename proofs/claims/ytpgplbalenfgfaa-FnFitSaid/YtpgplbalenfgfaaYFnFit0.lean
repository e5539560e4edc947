/- Printed, and by hand: the functions that FnFit reaches come to their end; the program's answer as the reference's. -/
import Derived.Test.YtpgplbalenfgfaaXFnFit0
import Derived.KernelRfl
set_option linter.unusedVariables false
set_option linter.unusedSimpArgs false
namespace Go.Proofs.Ytpgplbalenfgfaa
open Go Go.T Go.Proofs
theorem mem_modify {α : Type} {P : α → Prop} {f : α → α} (hf : ∀ x, P x → P (f x)) : ∀ {xs : List α} {j : Nat}, (∀ x ∈ xs, P x) → ∀ x ∈ xs.modify j f, P x
  | [], j, h, x, hx => by cases j <;> cases hx
  | y :: xs, 0, h, x, hx => by
    simp only [List.modify_zero_cons] at hx
    rcases List.mem_cons.mp hx with rfl | hx
    · exact hf y (h y (by simp))
    · exact h x (by simp [hx])
  | y :: xs, j + 1, h, x, hx => by
    simp only [List.modify_succ_cons] at hx
    rcases List.mem_cons.mp hx with rfl | hx
    · exact h x (by simp)
    · exact mem_modify hf (fun z hz => h z (by simp [hz])) x hx
theorem Y7 {α : Type} {P : α → Prop} {xs : List α} {y : α} (h : ∀ x ∈ xs, P x) (hy : P y) : ∀ x ∈ xs ++ [y], P x := by
  intro x hx
  rcases List.mem_append.mp hx with q | q
  · exact h x q
  · simp at q; subst q; exact hy
theorem wf_of {x : Int} (h0 : -9223372036854775808 ≤ x) (h1 : x ≤ 9223372036854775807) : (Lit.int .i64 x).wf = true := by
  simp [Lit.wf, IntKind.min, IntKind.max, IntKind.signed, IntKind.bits]
  omega
theorem big_lv1 {n : Nat} (h : n ≤ 4398046511104) : big + n ≤ lv 1 := by
  have hb : big = 2 ^ 64 := rfl
  have : lv 1 = 2 ^ 65 := rfl
  omega
theorem ZaA (n : Int) : n = 1 ∨ n = 2 ∨ n = 3 ∨ n = 4 ∨ n = 5 ∨ ((n == 1) = false ∧ (n == 2) = false ∧ (n == 3) = false ∧ (n == 4) = false ∧ (n == 5) = false) := by
  simp only [beq_eq_false_iff_ne]
  omega
theorem delR_deep {pr : List D → Option Bool} {q : List D → Bool} : ∀ {e : List (List D)}, (∀ r ∈ e, pr r = some (q r)) → delR pr (Zb e) = some (Zb (e.filter fun r => !q r))
  | [], _ => rfl
  | r :: e, h => by
    simp only [Zb, delR, ZcQ, h r (by simp), delR_deep (e := e) fun x hx => h x (by simp [hx])]
    rw [List.filter_cons]
    cases q r <;> rfl
theorem delK_deep {ix : List (List D) → Option Int} {pr : List D → Option Bool} {q : List D → Bool} {d : List (List D)} (hl : d.length ≤ 1048576) (hix : ix d = some (Zbo (fun i => q (gR d (i : Int))) d.length)) (h : ∀ r ∈ d, pr r = some (q r)) : delK ix pr (Zb d) = some (Zb (d.filter fun r => !q r)) := by
  unfold delK
  rw [ZO, hix]
  have hg : ∀ i (hi : i < d.length), gR d (i : Int) = d[i] := fun i hi => by
    have := gR_at (xs := d) (v := (i : Int)) (by omega) (by omega)
    rw [Int.toNat_natCast, List.getElem?_eq_getElem hi] at this
    injection this with this
    exact this.symm
  by_cases hz : Zbo (fun i => q (gR d (i : Int))) d.length < 0
  · obtain ⟨h1, h2⟩ := findI_none hz
    simp only [h1, if_true]
    congr 2
    symm
    rw [List.filter_eq_self]
    intro x hx
    obtain ⟨i, hi, rfl⟩ := List.mem_iff_getElem.mp hx
    have := h2 i hi
    rw [hg i hi] at this
    rw [this]; rfl
  · obtain ⟨h1, h2, h3, h4⟩ := findI_some (p := fun i => q (gR d (i : Int))) (n := d.length) (by omega)
    generalize Zbo (fun i => q (gR d (i : Int))) d.length = z at *
    simp only [show ¬ z = -1 by omega, if_false]
    rw [ZaP ⟨by omega, by rw [Zw]; omega, by rw [Zw]; omega⟩]
    have ht : ∀ m, m ≤ d.length → (Zb d).take m = Zb (d.take m) ∧ (Zb d).drop m = Zb (d.drop m) := fun m hm => by
      have e : Zb d = Zb (d.take m) ++ Zb (d.drop m) := by rw [← Zai, List.take_append_drop]
      have l : (Zb (d.take m)).length = m := by rw [Zw, List.length_take]; omega
      rw [e]
      exact ⟨List.take_left' l, List.drop_left' l⟩
    rw [(ht z.toNat (by omega)).1, (ht (z.toNat + 1) (by omega)).2, delR_deep fun r hr => h r (List.mem_of_mem_drop hr)]
    simp only []
    rw [← Zai]
    congr 2
    have h5 : d = d.take z.toNat ++ (d[z.toNat] :: d.drop (z.toNat + 1)) := by rw [List.getElem_cons_drop, List.take_append_drop]
    conv => rhs; rw [h5]
    rw [List.filter_append, List.filter_cons]
    have h7 : q d[z.toNat] = true := by have := h2; rwa [hg _ h1] at this
    rw [h7]
    simp only [Bool.not_true, Bool.false_eq_true, if_false]
    congr 1
    symm
    rw [List.filter_eq_self]
    intro x hx
    obtain ⟨i, hi, rfl⟩ := List.mem_iff_getElem.mp hx
    rw [List.length_take] at hi
    have := h4 i (by omega)
    rw [hg i (by omega)] at this
    rw [List.getElem_take, this]; rfl
def insD (r : Nat → Int) (x : Nat) : List Nat → List Nat
  | [] => [x]
  | y :: l => if r y < r x then x :: y :: l else y :: insD r x l
def Yaa (r : Nat → Int) (l : List Nat) : List Nat := l.foldl (fun a x => insD r x a) []
def AheadD (r : Nat → Int) (i j : Nat) : Prop := r j < r i ∨ (r i = r j ∧ i < j)
theorem insD_mem {r : Nat → Int} {x z : Nat} : ∀ {l : List Nat}, z ∈ insD r x l ↔ z = x ∨ z ∈ l
  | [] => by simp [insD]
  | y :: l => by
    unfold insD
    split
    · simp
    · simp only [List.mem_cons, insD_mem (l := l)]
      constructor
      · rintro (h | h | h) <;> simp [h]
      · rintro (h | h | h) <;> simp [h]
theorem insD_len {r : Nat → Int} {x : Nat} : ∀ {l : List Nat}, (insD r x l).length = l.length + 1
  | [] => rfl
  | y :: l => by
    unfold insD
    split
    · simp
    · simp [insD_len (l := l)]
theorem insD_pair {r : Nat → Int} {x : Nat} : ∀ {l : List Nat}, l.Pairwise (AheadD r) → (∀ y ∈ l, y < x) → (insD r x l).Pairwise (AheadD r)
  | [], _, _ => by simp [insD]
  | y :: l, h, hx => by
    obtain ⟨h1, h2⟩ := List.pairwise_cons.mp h
    unfold insD
    split
    · rename_i hr
      refine List.pairwise_cons.mpr ⟨fun z hz => ?_, h⟩
      rcases List.mem_cons.mp hz with rfl | hz
      · exact .inl hr
      · rcases h1 z hz with q | q
        · exact .inl (by omega)
        · exact .inl (by omega)
    · rename_i hr
      refine List.pairwise_cons.mpr ⟨fun z hz => ?_, insD_pair h2 fun z hz => hx z (by simp [hz])⟩
      rcases insD_mem.mp hz with rfl | hz
      · have := hx y (by simp)
        by_cases he : r y = r z
        · exact .inr ⟨he, this⟩
        · exact .inl (by omega)
      · exact h1 z hz
theorem foldD {r : Nat → Int} : ∀ (l a : List Nat), a.Pairwise (AheadD r) → l.Pairwise (· < ·) → (∀ y ∈ a, ∀ x ∈ l, y < x) →
    (l.foldl (fun a x => insD r x a) a).Pairwise (AheadD r) ∧ (∀ z, z ∈ l.foldl (fun a x => insD r x a) a ↔ z ∈ a ∨ z ∈ l) ∧ (l.foldl (fun a x => insD r x a) a).length = a.length + l.length
  | [], a, h, _, _ => ⟨h, by simp, by simp⟩
  | x :: l, a, h, hl, hx => by
    obtain ⟨h1, h2⟩ := List.pairwise_cons.mp hl
    obtain ⟨q1, q2, q3⟩ := foldD l (insD r x a) (insD_pair h fun y hy => hx y hy x (by simp)) h2 (fun y hy z hz => by
      rcases insD_mem.mp hy with rfl | hy
      · exact h1 z hz
      · exact hx y hy z (by simp [hz]))
    refine ⟨q1, fun z => ?_, by rw [List.foldl_cons, q3, insD_len, List.length_cons]; omega⟩
    rw [List.foldl_cons, q2, insD_mem, List.mem_cons]
    constructor
    · rintro ((h | h) | h) <;> simp [h]
    · rintro (h | h | h) <;> simp [h]
theorem isortD_facts {r : Nat → Int} {l : List Nat} (hl : l.Pairwise (· < ·)) : (Yaa r l).Pairwise (AheadD r) ∧ (∀ z, z ∈ Yaa r l ↔ z ∈ l) ∧ (Yaa r l).length = l.length := by
  obtain ⟨h1, h2, h3⟩ := foldD (r := r) l [] (by simp) hl (by simp)
  exact ⟨h1, fun z => by rw [Yaa, h2]; simp, by rw [Yaa, h3]; simp⟩
theorem insD_map {r : Nat → Int} {f : Nat → Nat} {x : Nat} : ∀ {l : List Nat}, insD r (f x) (l.map f) = (insD (fun i => r (f i)) x l).map f
  | [] => rfl
  | y :: l => by
    simp only [List.map_cons, insD]
    split
    · rfl
    · rw [insD_map (l := l)]; rfl
theorem isortD_map {r : Nat → Int} {f : Nat → Nat} {l : List Nat} : Yaa r (l.map f) = (Yaa (fun i => r (f i)) l).map f := by
  have : ∀ (l a : List Nat), (l.map f).foldl (fun a x => insD r x a) (a.map f) = (l.foldl (fun a x => insD (fun i => r (f i)) x a) a).map f := by
    intro l
    induction l with
    | nil => intro a; rfl
    | cons x l ih => intro a; simp only [List.map_cons, List.foldl_cons, insD_map, ih]
  exact this l []
def bestD (r : Nat → Int) : List Nat → Option Nat → Option Nat
  | [], b => b
  | i :: l, none => bestD r l (some i)
  | i :: l, some b => if r b < r i then bestD r l (some i) else bestD r l (some b)
theorem bestD_some {r : Nat → Int} : ∀ {l : List Nat} {b : Nat}, (∀ i ∈ l, b < i) → l.Pairwise (· < ·) → ∃ c, bestD r l (some b) = some c ∧ (c = b ∨ c ∈ l) ∧ (c = b ∨ AheadD r c b) ∧ ∀ i ∈ l, i = c ∨ AheadD r c i
  | [], b, _, _ => ⟨b, rfl, .inl rfl, .inl rfl, by simp⟩
  | i :: l, b, h, hl => by
    obtain ⟨h1, h2⟩ := List.pairwise_cons.mp hl
    unfold bestD
    split
    · rename_i hr
      obtain ⟨c, q1, q2, q3, q4⟩ := bestD_some (r := r) (b := i) h1 h2
      refine ⟨c, q1, .inr (by rcases q2 with h | h <;> simp [h]), .inr ?_, fun j hj => ?_⟩
      · rcases q3 with rfl | q3
        · exact .inl hr
        · rcases q3 with q | q
          · exact .inl (by omega)
          · exact .inl (by omega)
      · rcases List.mem_cons.mp hj with rfl | hj
        · rcases q3 with rfl | q3
          · exact .inl rfl
          · exact .inr q3
        · exact q4 j hj
    · rename_i hr
      have hb := h i (by simp)
      obtain ⟨c, q1, q2, q3, q4⟩ := bestD_some (r := r) (b := b) (fun j hj => h j (by simp [hj])) h2
      refine ⟨c, q1, by rcases q2 with h | h <;> simp [h], q3, fun j hj => ?_⟩
      rcases List.mem_cons.mp hj with rfl | hj
      · have hbi : AheadD r b j := by
          by_cases he : r b = r j
          · exact .inr ⟨he, hb⟩
          · exact .inl (by omega)
        rcases q3 with rfl | q3
        · exact .inr hbi
        · right
          rcases q3 with q | q <;> rcases hbi with p | p
          · exact .inl (by omega)
          · exact .inl (by omega)
          · exact .inl (by omega)
          · exact .inr ⟨by omega, by omega⟩
      · exact q4 j hj
theorem best_next {r : Nat → Int} {l : List Nat} (hl : l.Pairwise (· < ·)) (h0 : ∀ i ∈ l, 0 ≤ r i) {t : Nat} (ht : t < l.length) {r' : Nat → Int}
    (hr : ∀ i ∈ l, r' i = if i ∈ (Yaa r l).take t then -1 else r i) : bestD r' l none = (Yaa r l)[t]? := by
  obtain ⟨s1, s2, s3⟩ := isortD_facts (r := r) hl
  have hT : t < (Yaa r l).length := by omega
  generalize Yaa r l = S at s1 s2 s3 hr hT ⊢
  rw [List.getElem?_eq_getElem hT]
  cases l with
  | nil => simp at ht
  | cons a l =>
    obtain ⟨h1, h2⟩ := List.pairwise_cons.mp hl
    obtain ⟨c, q1, q2, q3, q4⟩ := bestD_some (r := r') h1 h2
    unfold bestD
    rw [q1]
    congr 1
    have hnd : S.Nodup := s1.imp fun {i j} h e => by subst e; rcases h with h | h <;> omega
    have hSt : S[t] ∉ S.take t := fun h => by
      obtain ⟨i, hi, he⟩ := List.mem_take_iff_getElem.mp h
      have := (List.getElem_inj hnd).mp he
      omega
    have hm : S[t] ∈ a :: l := (s2 _).mp (List.getElem_mem hT)
    have hrt : r' S[t] = r S[t] := by rw [hr _ hm, if_neg hSt]
    have h0t := h0 _ hm
    -- c is in the list, and nothing is ahead of it
    have hcm : c ∈ a :: l := by rcases q2 with h | h <;> simp [h]
    have hall : ∀ i ∈ a :: l, i = c ∨ AheadD r' c i := fun i hi => by
      rcases List.mem_cons.mp hi with rfl | hi
      · rcases q3 with rfl | q
        · exact .inl rfl
        · exact .inr q
      · exact q4 i hi
    rcases hall _ hm with h | h
    · exact h.symm
    · exfalso
      have hcn : c ∉ S.take t := fun hc => by
        have := hr c hcm
        rw [if_pos hc] at this
        rcases h with h | h <;> omega
      have hcr : r' c = r c := by rw [hr c hcm, if_neg hcn]
      obtain ⟨j, hj, rfl⟩ := List.mem_iff_getElem.mp ((s2 c).mpr hcm)
      have hjt : t < j := by
        rcases Nat.lt_trichotomy j t with q | q | q
        · exact absurd (List.mem_take_iff_getElem.mpr ⟨j, by omega, rfl⟩) hcn
        · subst q
          rcases h with h | h <;> omega
        · exact q
      have := List.pairwise_iff_getElem.mp s1 t j hT hj hjt
      rw [AheadD, hrt, hcr] at h
      rcases this with p | p <;> rcases h with q | q <;> omega
section
variable (w c o : Nat → Int) (L : Nat) (n : Int)
def opB (i : Nat) : Bool := decide (0 < w i) && decide (o i < c i)
def opL : List Nat := (List.range L).filter (opB w c o)
def smL (l : List Nat) : Int := (l.map w).sum
abbrev smD : Int := smL w (opL w c o L)
def bsD (s : Int) (i : Nat) : Int := Int.tdiv (n * w i) s
def rsD (s : Int) (i : Nat) : Int := Int.tmod (n * w i) s
def lfD (s : Int) (l : List Nat) : Int := n - (l.map (bsD w n s)).sum
def chD (s : Int) (l : List Nat) : List Nat := (Yaa (rsD w n s) l).take (lfD w n s l).toNat
def xD (s : Int) (l : List Nat) (i : Nat) : Int := bsD w n s i + if i ∈ chD w n s l then 1 else 0
def clD (s : Int) (l : List Nat) (i : Nat) : Int := if c i - o i < xD w n s l i then c i - o i else xD w n s l i
end
theorem sum_le {f : Nat → Int} {b : Int} : ∀ {l : List Nat}, (∀ i ∈ l, 0 ≤ f i ∧ f i ≤ b) → 0 ≤ (l.map f).sum ∧ (l.map f).sum ≤ b * l.length
  | [], _ => by simp
  | x :: l, h => by
    obtain ⟨q1, q2⟩ := sum_le (f := f) (b := b) (l := l) fun i hi => h i (by simp [hi])
    obtain ⟨p1, p2⟩ := h x (by simp)
    simp only [List.map_cons, List.sum_cons, List.length_cons]
    have : b * ((l.length + 1 : Nat) : Int) = b * (l.length : Int) + b := by rw [show ((l.length + 1 : Nat) : Int) = (l.length : Int) + 1 by omega, Int.mul_add, Int.mul_one]
    omega
theorem sum_split {w : Nat → Int} {n s : Int} (hs : 0 < s) (hn : 0 ≤ n) : ∀ {l : List Nat}, (∀ i ∈ l, 0 ≤ w i) → n * (l.map w).sum = s * (l.map (bsD w n s)).sum + (l.map (rsD w n s)).sum
  | [], _ => by simp
  | x :: l, h => by
    have ih := sum_split (w := w) hs hn (l := l) fun i hi => h i (by simp [hi])
    have h1 : s * bsD w n s x + rsD w n s x = n * w x := Int.mul_tdiv_add_tmod (n * w x) s
    simp only [List.map_cons, List.sum_cons]
    rw [Int.mul_add, Int.mul_add, ih, ← h1]
    omega
theorem rsD_bound {w : Nat → Int} {n s : Int} (hs : 0 < s) (hn : 0 ≤ n) {i : Nat} (h : 0 ≤ w i) : 0 ≤ rsD w n s i ∧ rsD w n s i < s ∧ 0 ≤ bsD w n s i := by
  have h0 : 0 ≤ n * w i := Int.mul_nonneg hn h
  exact ⟨Int.tmod_nonneg _ h0, Int.tmod_lt_of_pos _ hs, Int.tdiv_nonneg h0 (by omega)⟩
theorem lfD_bound {w : Nat → Int} {n : Int} {l : List Nat} (hn : 0 ≤ n) (hw : ∀ i ∈ l, 0 < w i) (hl : l ≠ []) : 0 < smL w l ∧ 0 ≤ lfD w n (smL w l) l ∧ lfD w n (smL w l) l < l.length ∧ 0 ≤ (l.map (bsD w n (smL w l))).sum := by
  have hs : 0 < smL w l := by
    cases l with
    | nil => exact absurd rfl hl
    | cons x l =>
      unfold smL
      have h1 := hw x (by simp)
      have h2 : 0 ≤ (l.map w).sum := by
        have : ∀ {l : List Nat}, (∀ i ∈ l, 0 < w i) → 0 ≤ (l.map w).sum := fun {l} => by
          induction l with
          | nil => simp
          | cons y l ih =>
            intro h
            have := h y (by simp)
            have := ih fun i hi => h i (by simp [hi])
            simp only [List.map_cons, List.sum_cons]
            omega
        exact this fun i hi => hw i (by simp [hi])
      simp only [List.map_cons, List.sum_cons]
      omega
  have hsp := sum_split (w := w) (n := n) hs hn (l := l) fun i hi => Int.le_of_lt (hw i hi)
  have hr := sum_le (f := rsD w n (smL w l)) (b := smL w l - 1) (l := l) fun i hi => by
    obtain ⟨p1, p2, _⟩ := rsD_bound (w := w) (n := n) hs hn (i := i) (Int.le_of_lt (hw i hi))
    omega
  change n * smL w l = _ at hsp
  have hb0 : 0 ≤ (l.map (bsD w n (smL w l))).sum := by
    have : ∀ {l' : List Nat} {s : Int}, 0 < s → (∀ i ∈ l', 0 < w i) → 0 ≤ (l'.map (bsD w n s)).sum := fun {l' s} hs => by
      induction l' with
      | nil => simp
      | cons y l ih =>
        intro h
        obtain ⟨_, _, p⟩ := rsD_bound (w := w) (n := n) hs hn (i := y) (Int.le_of_lt (h y (by simp)))
        have := ih fun i hi => h i (by simp [hi])
        simp only [List.map_cons, List.sum_cons]
        omega
    exact this hs hw
  generalize (l.map (rsD w n (smL w l))).sum = R at hsp hr
  have hlf : smL w l * lfD w n (smL w l) l = R := by
    unfold lfD
    rw [Int.mul_sub, Int.mul_comm _ n, hsp]
    omega
  refine ⟨hs, ?_, ?_, hb0⟩
  · generalize lfD w n (smL w l) l = f at hlf
    apply Int.not_lt.mp
    intro h
    have := Int.mul_neg_of_pos_of_neg hs h
    omega
  · generalize lfD w n (smL w l) l = f at hlf
    have h1 : smL w l * f < smL w l * l.length := by
      rw [hlf]
      have : (smL w l - 1) * (l.length : Int) = smL w l * l.length - l.length := by rw [Int.sub_mul, Int.one_mul]
      have h2 : 0 < l.length := List.length_pos_iff.mpr hl
      omega
    exact Int.lt_of_mul_lt_mul_left h1 (Int.le_of_lt hs)
theorem opL_facts {w c o : Nat → Int} {L : Nat} : (opL w c o L).Pairwise (· < ·) ∧ ∀ i, i ∈ opL w c o L ↔ i < L ∧ 0 < w i ∧ o i < c i := by
  refine ⟨List.Pairwise.filter _ List.pairwise_lt_range, fun i => ?_⟩
  simp [opL, opB]
theorem xD_sum {w : Nat → Int} {n : Int} {l : List Nat} (hp : l.Pairwise (· < ·)) (hn : 0 ≤ n) (hw : ∀ i ∈ l, 0 < w i) (hl : l ≠ []) : (l.map (xD w n (smL w l) l)).sum = n := by
  obtain ⟨h1, h2, h3, _⟩ := lfD_bound hn hw hl
  generalize hs : smL w l = s at h1 h2 h3
  obtain ⟨s1, s2, s3⟩ := isortD_facts (r := rsD w n s) hp
  have hnd : (chD w n s l).Nodup := by
    have : (Yaa (rsD w n s) l).Nodup := s1.imp fun {i j} h e => by subst e; rcases h with h | h <;> omega
    exact this.sublist (List.take_sublist _ _)
  have hlen : ((chD w n s l).length : Int) = lfD w n s l := by
    unfold chD
    rw [List.length_take, s3]
    omega
  have hsub : ∀ i ∈ chD w n s l, i ∈ l := fun i hi => (s2 i).mp (List.mem_of_mem_take hi)
  have hcount : ∀ (l : List Nat), l.Pairwise (· < ·) → ∀ (ch : List Nat), ch.Nodup → (∀ i ∈ ch, i ∈ l) → (l.map fun i => if i ∈ ch then (1 : Int) else 0).sum = ch.length := by
    intro l
    induction l with
    | nil =>
      intro _ ch _ h
      cases ch with
      | nil => rfl
      | cons x ch => exact absurd (h x (by simp)) (by simp)
    | cons x l ih =>
      intro hp ch hnd hsub
      obtain ⟨p1, p2⟩ := List.pairwise_cons.mp hp
      simp only [List.map_cons, List.sum_cons]
      have hx : x ∉ l := fun h => by have := p1 x h; omega
      have e : (l.map fun i => if i ∈ ch then (1 : Int) else 0) = l.map fun i => if i ∈ ch.erase x then (1 : Int) else 0 := List.map_congr_left fun i hi => by
        have : i ≠ x := fun h => hx (h ▸ hi)
        simp only [List.mem_erase_of_ne this]
      rw [e, ih p2 (ch.erase x) (hnd.erase x) fun i hi => by
        have hne : i ≠ x := fun h => by subst h; exact (List.Nodup.not_mem_erase hnd) hi
        rcases List.mem_cons.mp (hsub i (List.mem_of_mem_erase hi)) with h | h
        · exact absurd h hne
        · exact h]
      by_cases hm : x ∈ ch
      · rw [if_pos hm, List.length_erase_of_mem hm]
        have := List.length_pos_of_mem hm
        omega
      · rw [if_neg hm, List.erase_of_not_mem hm]
        omega
  have hadd : ∀ (l : List Nat) (f g : Nat → Int), (l.map fun i => f i + g i).sum = (l.map f).sum + (l.map g).sum := by
    intro l f g
    induction l with
    | nil => rfl
    | cons x l ih => simp only [List.map_cons, List.sum_cons, ih]; omega
  have : l.map (xD w n s l) = l.map fun i => bsD w n s i + (if i ∈ chD w n s l then (1 : Int) else 0) := rfl
  rw [this, hadd, hcount l hp _ hnd hsub, hlen]
  unfold lfD
  omega
theorem clD_sum {w c o : Nat → Int} {n : Int} {l : List Nat} (hp : l.Pairwise (· < ·)) (hn : 0 < n) (hw : ∀ i ∈ l, 0 < w i) (hc : ∀ i ∈ l, o i < c i) (hl : l ≠ []) :
    (∀ i ∈ l, 0 ≤ clD w c o n (smL w l) l i ∧ clD w c o n (smL w l) l i ≤ c i - o i ∧ 0 ≤ xD w n (smL w l) l i) ∧ 0 < (l.map (clD w c o n (smL w l) l)).sum ∧ (l.map (clD w c o n (smL w l) l)).sum ≤ n := by
  obtain ⟨h1, h2, h3, _⟩ := lfD_bound (Int.le_of_lt hn) hw hl
  have hx := xD_sum hp (Int.le_of_lt hn) hw hl
  generalize smL w l = s at *
  have hx0 : ∀ i ∈ l, 0 ≤ xD w n s l i := fun i hi => by
    obtain ⟨_, _, p⟩ := rsD_bound (w := w) (n := n) h1 (Int.le_of_lt hn) (i := i) (Int.le_of_lt (hw i hi))
    unfold xD
    split <;> omega
  have hcl : ∀ i ∈ l, 0 ≤ clD w c o n s l i ∧ clD w c o n s l i ≤ c i - o i ∧ clD w c o n s l i ≤ xD w n s l i ∧ (0 < xD w n s l i → 0 < clD w c o n s l i) := fun i hi => by
    have := hx0 i hi
    have := hc i hi
    unfold clD
    split <;> omega
  refine ⟨fun i hi => ⟨(hcl i hi).1, (hcl i hi).2.1, hx0 i hi⟩, ?_⟩
  have gen : ∀ l' : List Nat, (∀ i ∈ l', i ∈ l) → 0 ≤ (l'.map (clD w c o n s l)).sum ∧ (l'.map (clD w c o n s l)).sum ≤ (l'.map (xD w n s l)).sum ∧ (0 < (l'.map (xD w n s l)).sum → 0 < (l'.map (clD w c o n s l)).sum) := by
    intro l'
    induction l' with
    | nil => intro _; simp
    | cons y l' ih =>
      intro h
      obtain ⟨q1, q2, q3⟩ := ih fun i hi => h i (by simp [hi])
      obtain ⟨p1, _, p2, p3⟩ := hcl y (h y (by simp))
      have := hx0 y (h y (by simp))
      simp only [List.map_cons, List.sum_cons]
      refine ⟨by omega, by omega, fun h => ?_⟩
      by_cases h0 : 0 < xD w n s l y
      · have := p3 h0; omega
      · have := q3 (by omega); omega
  have := gen l fun i hi => hi
  rw [hx] at this
  exact ⟨this.2.2 hn, this.2.1⟩
def rowF (L : Nat) (g : Nat → C) : List (List C) := (List.range L).map fun j => [g j]
def rowD (L : Nat) (g : Nat → D) : List (List D) := (List.range L).map fun j => [g j]
abbrev cI (o : Nat → Int) : Nat → C := fun j => .d (.int .i64 (o j))
abbrev cB (o : Nat → Bool) : Nat → C := fun j => .d (.bool (o j))
theorem rowF_len (L : Nat) (g : Nat → C) : (rowF L g).length = L := by simp [rowF]
theorem rowD_len (L : Nat) (g : Nat → D) : (rowD L g).length = L := by simp [rowD]
theorem rowF_ext {L : Nat} {g h : Nat → C} (e : ∀ j, j < L → g j = h j) : rowF L g = rowF L h := List.map_congr_left fun j hj => by rw [e j (List.mem_range.mp hj)]
theorem rowF_at {L : Nat} {g : Nat → C} {i : Nat} (h : i < L) {β : Type} (F : List C → Option β) : ZaG (rowF L g) i F = F [g i] := by
  unfold ZaG rowF
  rw [List.getElem?_map, List.getElem?_range h]
  rfl
theorem rowF_mod {L : Nat} {g : Nat → C} {i : Nat} (h : i < L) (x : C) : ((rowF L g).modify i fun c => Zq c 0 [x]) = rowF L (fun j => if j = i then x else g j) := by
  refine List.ext_getElem (by simp [rowF]) fun j h1 h2 => ?_
  rw [List.getElem_modify]
  simp only [rowF, List.getElem_map, List.getElem_range]
  by_cases hj : i = j
  · subst hj; simp [Zq]
  · rw [if_neg hj, if_neg (fun h => hj h.symm)]
theorem rowF_rep (L : Nat) (x : C) : List.replicate L [x] = rowF L (fun _ => x) := by
  refine List.ext_getElem (by simp [rowF]) fun j h1 h2 => ?_
  simp [rowF]
theorem immRows_map : ∀ (l : List (List C)), C.immRows l = l.map C.immCells
  | [] => rfl
  | x :: l => by simp only [C.immRows, List.map_cons, immRows_map l]
theorem imm_rowF (L : Nat) (g : Nat → C) : C.immRows (rowF L g) = rowD L (fun j => (g j).imm) := by
  rw [immRows_map, rowF, rowD, List.map_map]
  rfl
theorem rowD_at {L : Nat} {g : Nat → D} {i : Nat} (h : i < L) {β : Type} (F : List D → Option β) : Zbw (rowD L g) (i : Int) F = F [g i] := by
  unfold Zbw
  rw [if_pos (by omega), Int.toNat_natCast]
  unfold ZaG rowD
  rw [List.getElem?_map, List.getElem?_range h]
  rfl
theorem deep_rowI {L : Nat} {o : Nat → Int} : Zb (rowD L (fun j => .int .i64 (o j))) = rowF L (cI o) := by
  have : ∀ l : List Nat, Zb (l.map fun j => [D.int .i64 (o j)]) = l.map fun j => [C.d (.int .i64 (o j))] := fun l => by
    induction l with
    | nil => rfl
    | cons x l ih => simp only [List.map_cons, Zb, ZZ, ZbW, ih]
  exact this _
def upN (l : List Nat) : List (List C) := l.map fun (x : Nat) => [.d (.int .i64 (x : Int))]
def ofN (l : List Nat) : List (List D) := l.map fun (x : Nat) => [.int .i64 (x : Int)]
theorem upN_len (l : List Nat) : (upN l).length = l.length := by simp [upN]
theorem ofN_len (l : List Nat) : (ofN l).length = l.length := by simp [ofN]
theorem upN_app (a b : List Nat) : upN a ++ upN b = upN (a ++ b) := by simp [upN]
theorem imm_upN (l : List Nat) : C.immRows (upN l) = ofN l := by
  rw [immRows_map, upN, ofN, List.map_map]
  rfl
theorem upN_at {l : List Nat} {i : Nat} (h : i < l.length) {β : Type} (F : List C → Option β) : ZaG (upN l) i F = F [.d (.int .i64 (l[i] : Int))] := by simp [ZaG, upN, h]
theorem ofN_at {l : List Nat} {i : Nat} (h : i < l.length) {β : Type} (F : List D → Option β) : Zbw (ofN l) (i : Int) F = F [.int .i64 (l[i] : Int)] := by
  unfold Zbw
  rw [if_pos (by omega), Int.toNat_natCast]
  simp [ZaG, ofN, h]
theorem range_filter_succ (p : Nat → Bool) (i : Nat) : (List.range (i + 1)).filter p = (List.range i).filter p ++ (if p i then [i] else []) := by
  rw [List.range_succ, List.filter_append]
  simp [List.filter_cons]
theorem Y5.f_of {β : Type} {k a0 z0} (h : Y5.t k a0 = some z0) (K : Bool → Option β) : Y5.f k a0 K = K z0 := by unfold Y5.f; rw [h]; rfl
def RI8 (B : Nat) (r : List D) : Prop := ∃ (c0 : Int), r = [.int .u8 c0] ∧ (Lit.int .u8 c0).wf = true ∧ True
theorem RI8.open {B : Nat} {r : List D} (h : RI8 B r) : ∃ (c0 : Int), r = [.int .u8 c0] ∧ (Lit.int .u8 c0).wf = true ∧ True := h
theorem RI8.mono {B B' : Nat} (hb : B ≤ B') {r : List D} (h : RI8 B r) : RI8 B' r := by
  obtain ⟨c0, rfl, k0, _⟩ := h
  exact ⟨_, rfl, k0, trivial⟩
theorem RI8.wide {xs : List (List D)} (h : Zi RI8 lim xs) : Zi RI8 2097152 xs := ⟨Nat.le_trans h.1 (by decide), fun r hr => (h.2 r hr).mono (by decide)⟩
theorem RI8.len {B : Nat} {r : List D} (h : RI8 B r) : r.length = 1 := by
  obtain ⟨c0, rfl, _⟩ := h.open
  rfl
theorem RI8.flat {B : Nat} {xs : List (List D)} (h : ∀ r ∈ xs, RI8 B r) : ZaZ 1 xs := fun r hr => by
  obtain ⟨c0, rfl, _⟩ := (h r hr).open
  exact ⟨rfl, by simp [Zau]⟩
theorem RI8.wt {B : Nat} {xs : List (List D)} (h : ∀ r ∈ xs, RI8 B r) : Zp xs = 1 * xs.length := wt_flat (R := RI8 B) (fun r h => by obtain ⟨c0, rfl, _⟩ := h; rfl) xs h
theorem RI8.deep {B : Nat} {xs : List (List D)} (h : ∀ r ∈ xs, RI8 B r) : Zb xs = xs.map (·.map C.d) := deep_flat (R := RI8 B) (fun r h => by obtain ⟨c0, rfl, _⟩ := h; rfl) xs h
theorem RI8.gets {B : Nat} {xs : List (List D)} (h : ∀ r ∈ xs, RI8 B r) {v : Int} (h0 : 0 ≤ v) (h1 : v < xs.length) : gR xs v = [.int .u8 (gI xs v 0)] ∧ (Lit.int .u8 (gI xs v 0)).wf = true ∧ True := by
  obtain ⟨c0, e, k0, _⟩ := (h (gR xs v) (gR_mem h0 h1)).open
  unfold gI
  rw [e]
  exact ⟨rfl, k0, trivial⟩
theorem RI8.rows {B : Nat} {xs : List (List D)} (h : ∀ r ∈ xs, RI8 B r) {v : Int} (h0 : 0 ≤ v) (h1 : v < xs.length) {β : Type} (F : List D → Option β) : Zbw xs v F = F [.int .u8 (gI xs v 0)] := by
  rw [← (RI8.gets h h0 h1).1]
  exact Zbp h0 h1 F
theorem RI8.get {B : Nat} {xs : List (List D)} (h : Zi RI8 B xs) {v : Int} (h0 : 0 ≤ v) (h1 : v < xs.length) : gR xs v = [.int .u8 (gI xs v 0)] ∧ (Lit.int .u8 (gI xs v 0)).wf = true ∧ True := RI8.gets h.2 h0 h1
theorem RI8.row {B : Nat} {xs : List (List D)} (h : Zi RI8 B xs) {v : Int} (h0 : 0 ≤ v) (h1 : v < xs.length) {β : Type} (F : List D → Option β) : Zbw xs v F = F [.int .u8 (gI xs v 0)] := RI8.rows h.2 h0 h1 F
theorem YI.f_of {β : Type} {k a0 z0 z1 z2} (h : YI.t k a0 = some (z0, z1, z2)) (K : (List (List D)) → Int → Int → Option β) : YI.f k a0 K = K z0 z1 z2 := by unfold YI.f; rw [h]; rfl
theorem YX.f_of {β : Type} {k aB aC aA z0 z1 z2 z3} (h : YX.t k aB aC aA = some (z0, z1, z2, z3)) (K : Int → (List (List D)) → Int → Int → Option β) : YX.f k aB aC aA K = K z0 z1 z2 z3 := by unfold YX.f; rw [h]; rfl
theorem Yu.f_of {β : Type} {k aB aC aA a1 z0 z1 z2 z3} (h : Yu.t k aB aC aA a1 = some (z0, z1, z2, z3)) (K : Int → (List (List D)) → Int → Int → Option β) : Yu.f k aB aC aA a1 K = K z0 z1 z2 z3 := by unfold Yu.f; rw [h]; rfl
theorem iter_ex {V β : Type} {b : (V → Option β) → V → Option β} (m : V → Nat) (Inv : V → Prop) (Q : Option β → Prop) (step : ∀ v, Inv v → ∀ L, (∀ v', Inv v' → m v' < m v → Q (L v')) → Q (b L v)) : ∀ {k : Nat} {v : V}, Inv v → m v < k → Q (Zo b k v)
  | 0, v, _, h => absurd h (Nat.not_lt_zero _)
  | k + 1, v, hv, h => step v hv (Zo b k) fun v' hv' hlt => iter_ex m Inv Q step hv' (by omega)
structure Cur (b : List (List D)) (i : Int) : Prop where
  rows : Zi RI8 lim b
  ge : 0 ≤ i
  le : i ≤ 1048576
theorem and255 (x : Int) : 0 ≤ IntKind.wrap .i64 ((BitVec.ofInt (IntKind.bits .i64) x &&& BitVec.ofInt (IntKind.bits .i64) 255).toNat) ∧ IntKind.wrap .i64 ((BitVec.ofInt (IntKind.bits .i64) x &&& BitVec.ofInt (IntKind.bits .i64) 255).toNat) ≤ 255 := by
  have h : (BitVec.ofInt (IntKind.bits .i64) x &&& BitVec.ofInt (IntKind.bits .i64) 255).toNat ≤ 255 := by
    rw [BitVec.toNat_and]
    exact Nat.le_trans Nat.and_le_right (by decide)
  rw [Zj (by omega) (by omega)]
  omega
set_option maxRecDepth 100000 in
theorem byte_ex {b : List (List D)} {i h : Int} {k : Nat} (c : Cur b i) : ∃ x i' h', 0 ≤ x ∧ x ≤ 255 ∧ Cur b i' ∧ YX.t k b i h = some (x, b, i', h') := by
  have hl := c.rows.1
  have hlim : lim = 1048576 := rfl
  have h0 := c.ge
  have h1 := c.le
  unfold YX.t YX.g; simp only [atR, rdQ, Q.ask]
  simp only [ZaP (show (0 : Int) ≤ 33 by decide), ZaP (show (0 : Int) ≤ 47 by decide)]
  by_cases hc : i < (b.length : Int)
  · simp only [ZQ hc, cond_true, atR, rdQ, Q.ask]
    rw [RI8.row c.rows h0 hc]
    simp only [ZY, Zad, Z6]
    exact ⟨_, _, _, (and255 _).1, (and255 _).2, ⟨c.rows, by rw [Zj (by omega) (by omega)]; omega, by rw [Zj (by omega) (by omega)]; omega⟩, rfl⟩
  · simp only [ZV hc, cond_false]
    exact ⟨_, _, _, (and255 _).1, (and255 _).2, c, rfl⟩
theorem tmod_in {x n : Int} (h0 : 0 ≤ x) (hn : 0 < n) : 0 ≤ Int.tmod x n ∧ Int.tmod x n < n := ⟨Int.tmod_nonneg _ h0, Int.tmod_lt_of_pos _ hn⟩
theorem Y9 {b : List (List D)} {i h n : Int} {k : Nat} (c : Cur b i) : ∃ x i' h', 0 ≤ x ∧ (0 < n → x < n) ∧ (n ≤ 0 → x = 0) ∧ Cur b i' ∧ Yu.t k b i h n = some (x, b, i', h') := by
  unfold Yu.t Yu.g
  by_cases hn : n ≤ 0
  · simp only [ZQ hn, cond_true]
    exact ⟨_, _, _, Int.le_refl 0, fun _ => by omega, fun _ => rfl, c, rfl⟩
  · simp only [ZV hn, cond_false]
    have hn0 : 0 < n := by omega
    by_cases h2 : n ≤ 256
    · simp only [ZQ h2, cond_true]
      obtain ⟨x, i', h', x0, x1, c', e⟩ := byte_ex (k := k) (h := h) c
      rw [YX.f_of e, ZaP (by omega)]
      exact ⟨_, _, _, (tmod_in x0 hn0).1, fun _ => (tmod_in x0 hn0).2, fun _ => by omega, c', rfl⟩
    · simp only [ZV h2, cond_false]
      obtain ⟨x, i1, h1, x0, x1, c1, e1⟩ := byte_ex (k := k) (h := h) c
      obtain ⟨y, i2, h2, y0, y1, c2, e2⟩ := byte_ex (k := k) (h := h1) c1
      obtain ⟨z, i3, h3, z0, z1, c3, e3⟩ := byte_ex (k := k) (h := h2) c2
      rw [YX.f_of e1, YX.f_of e2, YX.f_of e3, ZaP (by omega)]
      have hw : 0 ≤ IntKind.wrap .i64 ((IntKind.wrap .i64 ((IntKind.wrap .i64 (x * 65536)) + (IntKind.wrap .i64 (y * 256)))) + z) := by
        rw [Zj (x := x * 65536) (by omega) (by omega), Zj (x := y * 256) (by omega) (by omega), Zj (x := x * 65536 + y * 256) (by omega) (by omega), Zj (by omega) (by omega)]
        omega
      exact ⟨_, _, _, (tmod_in hw hn0).1, fun _ => (tmod_in hw hn0).2, fun _ => by omega, c3, rfl⟩
set_option maxRecDepth 100000 in
theorem new_ex {b : List (List D)} {k : Nat} (g : Zi RI8 lim b) (hk : Z3 k) : ∃ h', YI.t k b = some (b, 0, h') := by
  have hl := g.1
  have hlim : lim = 1048576 := rfl
  have hb : big = 2 ^ 64 := rfl
  have key : ∀ n : Nat, ∀ (v : Int) (j : Int), 0 ≤ j → j ≤ b.length → (b.length : Int) - j ≤ n → ∀ k', n < k' → ∃ h', Zo (YI.l0 k b (fun z0 z1 z2 => some (z0, z1, z2))) k' (v, j) = some (b, 0, h') := by
    intro n
    induction n with
    | zero =>
      intro v j j0 j1 hn k' hk'
      rw [iter_step (by omega)]
      simp only [YI.l0, atR, rdQ, Q.ask, ZV (show ¬ j < (b.length : Int) by omega), cond_false]
      exact ⟨_, rfl⟩
    | succ n ih =>
      intro v j j0 j1 hn k' hk'
      rw [iter_step (by omega)]
      simp only [YI.l0, atR, rdQ, Q.ask, atR, rdQ, Q.ask]
      by_cases h1 : j < (b.length : Int)
      · by_cases h2 : j < 4000
        · simp only [ZQ h1, ZQ h2, cond_true]
          rw [RI8.row g j0 h1]
          simp only [ZY, Zad, Z6]
          rw [Zj (x := j + 1) (by omega) (by omega)]
          exact ih _ _ (by omega) (by omega) (by omega) _ (by omega)
        · simp only [ZQ h1, ZV h2, cond_true, cond_false]
          exact ⟨_, rfl⟩
      · simp only [ZV h1, cond_false]
        exact ⟨_, rfl⟩
  unfold YI.t YI.g
  exact key b.length _ 0 (by omega) (by omega) (by omega) k (by unfold Z3 at hk; omega)
theorem Cur.new {b : List (List D)} (g : Zi RI8 lim b) : Cur b 0 := ⟨g, by omega, by omega⟩
theorem YL.f_of {β : Type} {k aB aC aA a1 z0 z1 z2 z3} (h : YL.t k aB aC aA a1 = some (z0, z1, z2, z3)) (K : Int → (List (List D)) → Int → Int → Option β) : YL.f k aB aC aA a1 K = K z0 z1 z2 z3 := by unfold YL.f; rw [h]; rfl
set_option maxRecDepth 100000 in
theorem int_ex {b : List (List D)} {i h : Int} {k : Nat} (c : Cur b i) (l : List Int) (hl : 0 < l.length) : ∃ x i' h', x ∈ l ∧ Cur b i' ∧ YL.t k b i h (l.map fun x => [.int .i64 x]) = some (x, b, i', h') := by
  obtain ⟨x, i', h', x0, x1, -, c', e⟩ := Y9 (k := k) (h := h) (n := (l.length : Int)) c
  have x1 := x1 (by omega)
  unfold YL.t YL.g; simp only [atR, rdQ, Q.ask]
  rw [List.length_map, Yu.f_of e, Zbp x0 (by rw [List.length_map]; exact x1)]
  have e2 : gR (l.map fun x => [D.int .i64 x]) x = [.int .i64 (l[x.toNat]'(by omega))] := by
    unfold gR
    rw [List.getD_eq_getElem?_getD, List.getElem?_map, List.getElem?_eq_getElem (by omega)]
    rfl
  rw [e2]
  simp only [ZY, Zad, Z6]
  exact ⟨_, _, _, List.getElem_mem _, c', rfl⟩
theorem Yz.f_of {β : Type} {k aB aC aA a1 z0 z1 z2 z3} (h : Yz.t k aB aC aA a1 = some (z0, z1, z2, z3)) (K : Bool → (List (List D)) → Int → Int → Option β) : Yz.f k aB aC aA a1 K = K z0 z1 z2 z3 := by unfold Yz.f; rw [h]; rfl
theorem Yab {b : List (List D)} {i h n : Int} {k : Nat} (c : Cur b i) : ∃ x i' h', Cur b i' ∧ Yz.t k b i h n = some (x, b, i', h') := by
  obtain ⟨x, i', h', -, -, -, c', e⟩ := Y9 (k := k) (h := h) (n := n) c
  unfold Yz.t Yz.g
  rw [Yu.f_of e]
  exact ⟨_, _, _, c', rfl⟩
theorem YY.f_of {β : Type} {k aB aC aA a1 z0 z1 z2 z3} (h : YY.t k aB aC aA a1 = some (z0, z1, z2, z3)) (K : ByteArray → (List (List D)) → Int → Int → Option β) : YY.f k aB aC aA a1 K = K z0 z1 z2 z3 := by unfold YY.f; rw [h]; rfl
theorem YH.f_of {β : Type} {k aB aC aA z0 z1 z2 z3} (h : YH.t k aB aC aA = some (z0, z1, z2, z3)) (K : ByteArray → (List (List D)) → Int → Int → Option β) : YH.f k aB aC aA K = K z0 z1 z2 z3 := by unfold YH.f; rw [h]; rfl
theorem Yj.f_of {β : Type} {k a0 a1 z0 z1} (h : Yj.t k a0 a1 = some (z0, z1)) (K : ByteArray → Bool → Option β) : Yj.f k a0 a1 K = K z0 z1 := by unfold Yj.f; rw [h]; rfl
theorem Yj.tm {ι α : Type} {ok : ι → Prop} {ψ : α → Prop} {p : ι → Nat} {B : Nat} (hp : ∀ i, ok i → B ≤ p i) {a0 a1 φ} (h : Tm (fun k => B ≤ k) (fun k => Yj.t k a0 a1) φ) {G : ι → ByteArray → Bool → Option α} (hG : ∀ z0 z1, φ (z0, z1) → Tm ok (fun i => G i z0 z1) ψ) : Tm ok (fun i => Yj.f (p i) a0 a1 (G i)) ψ := bd2_tm (t := fun k => Yj.t k a0 a1) hp h hG
def RSS (B : Nat) (r : List D) : Prop := ∃ (c0 : ByteArray) (c1 : ByteArray), r = [.str c0, .str c1] ∧ c0.size ≤ B ∧ c1.size ≤ B ∧ True
theorem RSS.open {B : Nat} {r : List D} (h : RSS B r) : ∃ (c0 : ByteArray) (c1 : ByteArray), r = [.str c0, .str c1] ∧ c0.size ≤ B ∧ c1.size ≤ B ∧ True := h
theorem RSS.mono {B B' : Nat} (hb : B ≤ B') {r : List D} (h : RSS B r) : RSS B' r := by
  obtain ⟨c0, c1, rfl, k0, k1, _⟩ := h
  exact ⟨_, _, rfl, (Nat.le_trans k0 hb), (Nat.le_trans k1 hb), trivial⟩
theorem RSS.wide {xs : List (List D)} (h : Zi RSS lim xs) : Zi RSS 2097152 xs := ⟨Nat.le_trans h.1 (by decide), fun r hr => (h.2 r hr).mono (by decide)⟩
theorem RSS.len {B : Nat} {r : List D} (h : RSS B r) : r.length = 2 := by
  obtain ⟨c0, c1, rfl, _⟩ := h.open
  rfl
theorem RSS.flat {B : Nat} {xs : List (List D)} (h : ∀ r ∈ xs, RSS B r) : ZaZ 2 xs := fun r hr => by
  obtain ⟨c0, c1, rfl, _⟩ := (h r hr).open
  exact ⟨rfl, by simp [Zau]⟩
theorem RSS.wt {B : Nat} {xs : List (List D)} (h : ∀ r ∈ xs, RSS B r) : Zp xs = 2 * xs.length := wt_flat (R := RSS B) (fun r h => by obtain ⟨c0, c1, rfl, _⟩ := h; rfl) xs h
theorem RSS.deep {B : Nat} {xs : List (List D)} (h : ∀ r ∈ xs, RSS B r) : Zb xs = xs.map (·.map C.d) := deep_flat (R := RSS B) (fun r h => by obtain ⟨c0, c1, rfl, _⟩ := h; rfl) xs h
theorem RSS.gets {B : Nat} {xs : List (List D)} (h : ∀ r ∈ xs, RSS B r) {v : Int} (h0 : 0 ≤ v) (h1 : v < xs.length) : gR xs v = [.str (gS xs v 0), .str (gS xs v 1)] ∧ (gS xs v 0).size ≤ B ∧ (gS xs v 1).size ≤ B ∧ True := by
  obtain ⟨c0, c1, e, k0, k1, _⟩ := (h (gR xs v) (gR_mem h0 h1)).open
  unfold gS
  rw [e]
  exact ⟨rfl, k0, k1, trivial⟩
theorem RSS.rows {B : Nat} {xs : List (List D)} (h : ∀ r ∈ xs, RSS B r) {v : Int} (h0 : 0 ≤ v) (h1 : v < xs.length) {β : Type} (F : List D → Option β) : Zbw xs v F = F [.str (gS xs v 0), .str (gS xs v 1)] := by
  rw [← (RSS.gets h h0 h1).1]
  exact Zbp h0 h1 F
theorem RSS.get {B : Nat} {xs : List (List D)} (h : Zi RSS B xs) {v : Int} (h0 : 0 ≤ v) (h1 : v < xs.length) : gR xs v = [.str (gS xs v 0), .str (gS xs v 1)] ∧ (gS xs v 0).size ≤ B ∧ (gS xs v 1).size ≤ B ∧ True := RSS.gets h.2 h0 h1
theorem RSS.row {B : Nat} {xs : List (List D)} (h : Zi RSS B xs) {v : Int} (h0 : 0 ≤ v) (h1 : v < xs.length) {β : Type} (F : List D → Option β) : Zbw xs v F = F [.str (gS xs v 0), .str (gS xs v 1)] := RSS.rows h.2 h0 h1 F
set_option maxRecDepth 100000 in
theorem Yj.T {a0 : List (List D)} {a1 : ByteArray} (ga0 : Zi RSS lim a0) (ga1 : a1.size ≤ lim) : Tm Z3 (fun k => Yj.t k a0 a1) (fun z => z.1.size ≤ lim) := by
  unfold Yj.t Yj.g
  have hm := Zy
  have hlim : lim = 1048576 := rfl
  have la0 := ga0.1
  refine Tm.loop (okk := Z3) (p := fun k => k) (fun i hi => hi) (b := fun k => Yj.l0 k a0 a1 (fun z0 z1 => some (z0, z1))) (fun i => (((a0.length : Int)) - i).toNat) (fun i => 0 ≤ i ∧ i ≤ (a0.length : Int)) ?_ ?_ ?_
  · rintro i hI
    try simp only [] at hI ⊢
    have : big = 2 ^ 64 := rfl
    omega
  · ((try simp only []); omega)
  · rintro i hI L hL
    try simp only [] at hI
    obtain ⟨i0, i1⟩ := hI
    simp only [Yj.l0, atR, rdQ, Q.ask]
    refine Tm.ite (fun h1 => ?_) (fun h1 => ?_)
    · try simp only [bz0, bz1, bz2, bz3, bz4, bz5, bz6, bz7, bz8, bz9, bza] at h1
      refine Tm.atRow (by first | assumption | omega) (by first | assumption | omega) (fun x2 hx3 hm4 => ?_)
      obtain ⟨c5, c6, rfl, g7, g8, _⟩ := (ga0.2 x2 hm4).open
      refine Tm.uncons ?_
      refine Tm.dStr ?_
      refine Tm.uncons ?_
      refine Tm.dStr ?_
      refine Tm.atEnd ?_
      refine Tm.ite (fun h9 => ?_) (fun h9 => ?_)
      · try simp only [bz0, bz1, bz2, bz3, bz4, bz5, bz6, bz7, bz8, bz9, bza] at h9
        refine Tm.atRow (by first | assumption | omega) (by first | assumption | omega) (fun x10 hx11 hm12 => ?_)
        rw [hx3] at hx11
        injection hx11 with hx11
        subst hx11
        refine Tm.uncons ?_
        refine Tm.dStr ?_
        refine Tm.uncons ?_
        refine Tm.dStr ?_
        refine Tm.atEnd ?_
        exact Tm.ret (by first | assumption | (simp only [lim]; decide))
      · try simp only [bz0, bz1, bz2, bz3, bz4, bz5, bz6, bz7, bz8, bz9, bza] at h9
        try rw [Zj (x := i + 1) (by omega) (by omega)]
        exact hL _ (by (try simp only []); omega) (by (try simp only []); omega)
    · try simp only [bz0, bz1, bz2, bz3, bz4, bz5, bz6, bz7, bz8, bz9, bza] at h1
      exact Tm.ret (by first | assumption | (simp only [lim]; decide))
noncomputable def Yj.v (a0 : List (List D)) (a1 : ByteArray) : ByteArray × Bool := (Yj.t big a0 a1).getD default
theorem Yj.tv {a0 : List (List D)} {a1 : ByteArray} (ga0 : Zi RSS lim a0) (ga1 : a1.size ≤ lim) {k : Nat} (hk : Z3 k) : Yj.t k a0 a1 = some (Yj.v a0 a1) := (Yj.T ga0 ga1).val hk
theorem Yj.fv {a0 : List (List D)} {a1 : ByteArray} (ga0 : Zi RSS lim a0) (ga1 : a1.size ≤ lim) {k : Nat} (hk : Z3 k) {β : Type} (K : ByteArray → Bool → Option β) : Yj.f k a0 a1 K = K ((Yj.v a0 a1).1) ((Yj.v a0 a1).2) := Yj.f_of (Yj.tv ga0 ga1 hk) K
theorem YE.f_of {β : Type} {k a0 a1 a2 z0} (h : YE.t k a0 a1 a2 = some z0) (K : Bool → Option β) : YE.f k a0 a1 a2 K = K z0 := by unfold YE.f; rw [h]; rfl
theorem YE.tm {ι α : Type} {ok : ι → Prop} {ψ : α → Prop} {p : ι → Nat} {B : Nat} (hp : ∀ i, ok i → B ≤ p i) {a0 a1 a2 φ} (h : Tm (fun k => B ≤ k) (fun k => YE.t k a0 a1 a2) φ) {G : ι → Bool → Option α} (hG : ∀ z0, φ z0 → Tm ok (fun i => G i z0) ψ) : Tm ok (fun i => YE.f (p i) a0 a1 a2 (G i)) ψ := ZK (t := fun k => YE.t k a0 a1 a2) hp h hG
theorem YE.T {a0 a1 a2 : Int} : Tm Z3 (fun k => YE.t k a0 a1 a2) (fun r => r = true → a1 ≤ a0 ∧ a0 ≤ a2) := by
  unfold YE.t YE.g
  have hm := Zy
  have hlim : lim = 1048576 := rfl
  refine Tm.ite (fun h1 => ?_) (fun h1 => ?_)
  · try simp only [bz0, bz1, bz2, bz3, bz4, bz5, bz6, bz7, bz8, bz9, bza] at h1
    exact Tm.ret (by first | (intro h; simp at h; omega) | (intro h; cases h))
  · try simp only [bz0, bz1, bz2, bz3, bz4, bz5, bz6, bz7, bz8, bz9, bza] at h1
    exact Tm.ret (by first | (intro h; simp at h; omega) | (intro h; cases h))
theorem l1In_f {β : Type} {k : Nat} {a b c : Int} (K : Bool → Option β) : YE.f k a b c K = K (decide (b ≤ a) && decide (a ≤ c)) := by
  refine YE.f_of ?_ K
  unfold YE.t YE.g
  by_cases h : b ≤ a <;> simp [h]
def inB (a b c : Int) : Bool := decide (b ≤ a) && decide (a ≤ c)
theorem l1In_fv {β : Type} {k : Nat} {a b c : Int} (K : Bool → Option β) : YE.f k a b c K = K (inB a b c) := l1In_f K
theorem Ye.f_of {β : Type} {k a0 z0} (h : Ye.t k a0 = some z0) (K : Bool → Option β) : Ye.f k a0 K = K z0 := by unfold Ye.f; rw [h]; rfl
theorem Ye.tm {ι α : Type} {ok : ι → Prop} {ψ : α → Prop} {p : ι → Nat} {B : Nat} (hp : ∀ i, ok i → B ≤ p i) {a0 φ} (h : Tm (fun k => B ≤ k) (fun k => Ye.t k a0) φ) {G : ι → Bool → Option α} (hG : ∀ z0, φ z0 → Tm ok (fun i => G i z0) ψ) : Tm ok (fun i => Ye.f (p i) a0 (G i)) ψ := ZK (t := fun k => Ye.t k a0) hp h hG
theorem Ye.T {a0 : ByteArray} (ga0 : a0.size ≤ lim) : Tm Z3 (fun k => Ye.t k a0) (fun _ => True) := by
  unfold Ye.t Ye.g
  have hm := Zy
  have hlim : lim = 1048576 := rfl
  refine Tm.loop (okk := Z3) (p := fun k => k) (fun i hi => hi) (b := fun k => Ye.l0 k a0 (fun z0 => some z0)) (fun i => (((a0.size : Int)) - i).toNat) (fun i => 0 ≤ i ∧ i ≤ (a0.size : Int)) ?_ ?_ ?_
  · rintro i hI
    try simp only [] at hI ⊢
    have : big = 2 ^ 64 := rfl
    omega
  · ((try simp only []); omega)
  · rintro i hI L hL
    try simp only [] at hI
    obtain ⟨i0, i1⟩ := hI
    simp only [Ye.l0]
    refine Tm.ite (fun h1 => ?_) (fun h1 => ?_)
    · try simp only [bz0, bz1, bz2, bz3, bz4, bz5, bz6, bz7, bz8, bz9, bza] at h1
      refine Tm.atStr (by first | assumption | omega) (by first | assumption | omega) (fun b2 hb3 => ?_)
      try rw [Zj (x := (b2.toNat : Int)) (by omega) (by omega)]
      refine YE.tm (fun i hi => hi.1) (YE.T) (fun y5 hy4 => ?_)
      refine Tm.ite (fun h6 => ?_) (fun h6 => ?_)
      · try simp only [bz0, bz1, bz2, bz3, bz4, bz5, bz6, bz7, bz8, bz9, bza] at h6
        refine Tm.atStr (by first | assumption | omega) (by first | assumption | omega) (fun b7 hb8 => ?_)
        try rw [Zj (x := (b7.toNat : Int)) (by omega) (by omega)]
        refine YE.tm (fun i hi => hi.1) (YE.T) (fun y10 hy9 => ?_)
        refine Tm.ite (fun h11 => ?_) (fun h11 => ?_)
        · try simp only [bz0, bz1, bz2, bz3, bz4, bz5, bz6, bz7, bz8, bz9, bza] at h11
          refine Tm.atStr (by first | assumption | omega) (by first | assumption | omega) (fun b12 hb13 => ?_)
          refine Tm.ite (fun h14 => ?_) (fun h14 => ?_)
          · try simp only [bz0, bz1, bz2, bz3, bz4, bz5, bz6, bz7, bz8, bz9, bza] at h14
            exact Tm.ret (by trivial)
          · try simp only [bz0, bz1, bz2, bz3, bz4, bz5, bz6, bz7, bz8, bz9, bza] at h14
            try rw [Zj (x := i + 1) (by omega) (by omega)]
            exact hL _ (by (try simp only []); omega) (by (try simp only []); omega)
        · try simp only [bz0, bz1, bz2, bz3, bz4, bz5, bz6, bz7, bz8, bz9, bza] at h11
          have z15 := hy9 h11
          try rw [Zj (x := i + 1) (by omega) (by omega)]
          exact hL _ (by (try simp only []); omega) (by (try simp only []); omega)
      · try simp only [bz0, bz1, bz2, bz3, bz4, bz5, bz6, bz7, bz8, bz9, bza] at h6
        have z16 := hy4 h6
        try rw [Zj (x := i + 1) (by omega) (by omega)]
        exact hL _ (by (try simp only []); omega) (by (try simp only []); omega)
    · try simp only [bz0, bz1, bz2, bz3, bz4, bz5, bz6, bz7, bz8, bz9, bza] at h1
      refine YE.tm (fun i hi => hi.1) (YE.T) (fun y18 hy17 => ?_)
      refine Tm.ite (fun h19 => ?_) (fun h19 => ?_)
      · try simp only [bz0, bz1, bz2, bz3, bz4, bz5, bz6, bz7, bz8, bz9, bza] at h19
        have z20 := hy17 h19
        refine Tm.atStr (by first | assumption | omega) (by first | assumption | omega) (fun b21 hb22 => ?_)
        refine Tm.ite (fun h23 => ?_) (fun h23 => ?_)
        · try simp only [bz0, bz1, bz2, bz3, bz4, bz5, bz6, bz7, bz8, bz9, bza] at h23
          try rw [Zj (x := (a0.size : Int) - 1) (by omega) (by omega)]
          refine Tm.atStr (by first | assumption | omega) (by first | assumption | omega) (fun b24 hb25 => ?_)
          exact Tm.ret (by trivial)
        · try simp only [bz0, bz1, bz2, bz3, bz4, bz5, bz6, bz7, bz8, bz9, bza] at h23
          exact Tm.ret (by trivial)
      · try simp only [bz0, bz1, bz2, bz3, bz4, bz5, bz6, bz7, bz8, bz9, bza] at h19
        exact Tm.ret (by trivial)
noncomputable def Ye.v (a0 : ByteArray) : Bool := (Ye.t big a0).getD default
theorem Ye.tv {a0 : ByteArray} (ga0 : a0.size ≤ lim) {k : Nat} (hk : Z3 k) : Ye.t k a0 = some (Ye.v a0) := (Ye.T ga0).val hk
theorem Ye.fv {a0 : ByteArray} (ga0 : a0.size ≤ lim) {k : Nat} (hk : Z3 k) {β : Type} (K : Bool → Option β) : Ye.f k a0 K = K (Ye.v a0) := Ye.f_of (Ye.tv ga0 hk) K
noncomputable def namesB (xs : List (List D)) : Bool := (List.range xs.length).all fun i => Ye.v (gS xs (i : Int) 0) && (!decide ((i : Int) > 0) || ZbO (gS xs ((i : Int) - 1) 0) (gS xs (i : Int) 0))
theorem Yi.f_of {β : Type} {k a0 z0} (h : Yi.t k a0 = some z0) (K : Bool → Option β) : Yi.f k a0 K = K z0 := by unfold Yi.f; rw [h]; rfl
theorem Yi.tm {ι α : Type} {ok : ι → Prop} {ψ : α → Prop} {p : ι → Nat} {B : Nat} (hp : ∀ i, ok i → B ≤ p i) {a0 φ} (h : Tm (fun k => B ≤ k) (fun k => Yi.t k a0) φ) {G : ι → Bool → Option α} (hG : ∀ z0, φ z0 → Tm ok (fun i => G i z0) ψ) : Tm ok (fun i => Yi.f (p i) a0 (G i)) ψ := ZK (t := fun k => Yi.t k a0) hp h hG
set_option maxRecDepth 100000 in
theorem Yi.T {a0 : List (List D)} (ga0 : Zi RSS lim a0) : Tm Z3 (fun k => Yi.t k a0) (fun _ => True) := by
  unfold Yi.t Yi.g
  have hm := Zy
  have hlim : lim = 1048576 := rfl
  have la0 := ga0.1
  refine Tm.loop (okk := Z3) (p := fun k => k) (fun i hi => hi) (b := fun k => Yi.l0 k a0 (fun z0 => some z0)) (fun i => (((a0.length : Int)) - i).toNat) (fun i => 0 ≤ i ∧ i ≤ (a0.length : Int)) ?_ ?_ ?_
  · rintro i hI
    try simp only [] at hI ⊢
    have : big = 2 ^ 64 := rfl
    omega
  · ((try simp only []); omega)
  · rintro i hI L hL
    try simp only [] at hI
    obtain ⟨i0, i1⟩ := hI
    simp only [Yi.l0, atR, rdQ, Q.ask]
    refine Tm.ite (fun h1 => ?_) (fun h1 => ?_)
    · try simp only [bz0, bz1, bz2, bz3, bz4, bz5, bz6, bz7, bz8, bz9, bza] at h1
      refine Tm.atRow (by first | assumption | omega) (by first | assumption | omega) (fun x2 hx3 hm4 => ?_)
      obtain ⟨c5, c6, rfl, g7, g8, _⟩ := (ga0.2 x2 hm4).open
      refine Tm.uncons ?_
      refine Tm.dStr ?_
      refine Tm.uncons ?_
      refine Tm.dStr ?_
      refine Tm.atEnd ?_
      refine Ye.tm (fun i hi => hi.1) (Ye.T (by first | assumption | omega)) (fun y10 hy9 => ?_)
      refine Tm.ite (fun h11 => ?_) (fun h11 => ?_)
      · try simp only [bz0, bz1, bz2, bz3, bz4, bz5, bz6, bz7, bz8, bz9, bza] at h11
        exact Tm.ret (by trivial)
      · try simp only [bz0, bz1, bz2, bz3, bz4, bz5, bz6, bz7, bz8, bz9, bza] at h11
        refine Tm.atRow (by first | assumption | omega) (by first | assumption | omega) (fun x12 hx13 hm14 => ?_)
        rw [hx3] at hx13
        injection hx13 with hx13
        subst hx13
        refine Tm.uncons ?_
        refine Tm.dStr ?_
        refine Tm.uncons ?_
        refine Tm.dStr ?_
        refine Tm.atEnd ?_
        refine Ye.tm (fun i hi => hi.1) (Ye.T (by first | assumption | omega)) (fun y18 hy17 => ?_)
        refine Tm.ite (fun h19 => ?_) (fun h19 => ?_)
        · try simp only [bz0, bz1, bz2, bz3, bz4, bz5, bz6, bz7, bz8, bz9, bza] at h19
          exact Tm.ret (by trivial)
        · try simp only [bz0, bz1, bz2, bz3, bz4, bz5, bz6, bz7, bz8, bz9, bza] at h19
          refine Tm.ite (fun h20 => ?_) (fun h20 => ?_)
          · try simp only [bz0, bz1, bz2, bz3, bz4, bz5, bz6, bz7, bz8, bz9, bza] at h20
            try rw [Zj (x := i - 1) (by omega) (by omega)]
            refine Tm.atRow (by first | assumption | omega) (by first | assumption | omega) (fun x21 hx22 hm23 => ?_)
            obtain ⟨c24, c25, rfl, g26, g27, _⟩ := (ga0.2 x21 hm23).open
            refine Tm.uncons ?_
            refine Tm.dStr ?_
            refine Tm.uncons ?_
            refine Tm.dStr ?_
            refine Tm.atEnd ?_
            refine Tm.atRow (by first | assumption | omega) (by first | assumption | omega) (fun x28 hx29 hm30 => ?_)
            rw [hx3] at hx29
            injection hx29 with hx29
            subst hx29
            refine Tm.uncons ?_
            refine Tm.dStr ?_
            refine Tm.uncons ?_
            refine Tm.dStr ?_
            refine Tm.atEnd ?_
            refine Tm.ite (fun h33 => ?_) (fun h33 => ?_)
            · try simp only [bz0, bz1, bz2, bz3, bz4, bz5, bz6, bz7, bz8, bz9, bza] at h33
              exact Tm.ret (by trivial)
            · try simp only [bz0, bz1, bz2, bz3, bz4, bz5, bz6, bz7, bz8, bz9, bza] at h33
              try rw [Zj (x := i + 1) (by omega) (by omega)]
              exact hL _ (by (try simp only []); omega) (by (try simp only []); omega)
          · try simp only [bz0, bz1, bz2, bz3, bz4, bz5, bz6, bz7, bz8, bz9, bza] at h20
            try rw [Zj (x := i + 1) (by omega) (by omega)]
            exact hL _ (by (try simp only []); omega) (by (try simp only []); omega)
    · try simp only [bz0, bz1, bz2, bz3, bz4, bz5, bz6, bz7, bz8, bz9, bza] at h1
      exact Tm.ret (by trivial)
noncomputable def Yi.v (a0 : List (List D)) : Bool := (Yi.t big a0).getD default
theorem Yi.tv {a0 : List (List D)} (ga0 : Zi RSS lim a0) {k : Nat} (hk : Z3 k) : Yi.t k a0 = some (Yi.v a0) := (Yi.T ga0).val hk
theorem Yi.fv {a0 : List (List D)} (ga0 : Zi RSS lim a0) {k : Nat} (hk : Z3 k) {β : Type} (K : Bool → Option β) : Yi.f k a0 K = K (Yi.v a0) := Yi.f_of (Yi.tv ga0 hk) K
theorem YT.f_of {β : Type} {k a0 z0} (h : YT.t k a0 = some z0) (K : (List (List C)) → Option β) : YT.f k a0 K = K z0 := by unfold YT.f; rw [h]; rfl
theorem Yt.f_of {β : Type} {k a0 a1 a2 z0 z1} (h : Yt.t k a0 a1 a2 = some (z0, z1)) (K : (List (List C)) → Bool → Option β) : Yt.f k a0 a1 a2 K = K z0 z1 := by unfold Yt.f; rw [h]; rfl
theorem YD.f_of {β : Type} {k aB aC aA a1 z0 z1 z2 z3} (h : YD.t k aB aC aA a1 = some (z0, z1, z2, z3)) (K : (List (List C)) → (List (List D)) → Int → Int → Option β) : YD.f k aB aC aA a1 K = K z0 z1 z2 z3 := by unfold YD.f; rw [h]; rfl
theorem Yn.f_of {β : Type} {k : Nat} {aB : List (List D)} {aC aA z0 : Int} {z1 : ByteArray} {z2 : List (List C)} {z3 : List (List D)} {z4 z5 : Int} (h : Yn.t k aB aC aA = some (z0, z1, z2, z3, z4, z5)) (K : Int → ByteArray → (List (List C)) → (List (List D)) → Int → Int → Option β) : Yn.f k aB aC aA K = K z0 z1 z2 z3 z4 z5 := by
  unfold Yn.f
  rw [h]
theorem YF.f_of {β : Type} {k aB aC aA a1 z0 z1 z2 z3} (h : YF.t k aB aC aA a1 = some (z0, z1, z2, z3)) (K : (List (List C)) → (List (List D)) → Int → Int → Option β) : YF.f k aB aC aA a1 K = K z0 z1 z2 z3 := by unfold YF.f; rw [h]; rfl
theorem Ym.f_of {β : Type} {k : Nat} {aB : List (List D)} {aC aA z0 : Int} {z1 z2 z3 : List (List C)} {z4 : List (List D)} {z5 z6 : Int} (h : Ym.t k aB aC aA = some (z0, z1, z2, z3, z4, z5, z6)) (K : Int → (List (List C)) → (List (List C)) → (List (List C)) → (List (List D)) → Int → Int → Option β) : Ym.f k aB aC aA K = K z0 z1 z2 z3 z4 z5 z6 := by
  unfold Ym.f
  rw [h]
theorem YK.f_of {β : Type} {k aB aC aA z0 z1 z2 z3} (h : YK.t k aB aC aA = some (z0, z1, z2, z3)) (K : ByteArray → (List (List D)) → Int → Int → Option β) : YK.f k aB aC aA K = K z0 z1 z2 z3 := by unfold YK.f; rw [h]; rfl
theorem Yd.f_of {β : Type} {k aB aC aA z0 z1 z2 z3} (h : Yd.t k aB aC aA = some (z0, z1, z2, z3)) (K : (List (List C)) → (List (List D)) → Int → Int → Option β) : Yd.f k aB aC aA K = K z0 z1 z2 z3 := by unfold Yd.f; rw [h]; rfl
theorem Y0.f_of {β : Type} {k : Nat} {aB : List (List D)} {aC aA aO : Int} {aM aK aN : List (List D)} {z0 : Int} {z1 z2 z3 z4 : List (List D)} {z5 z6 : Int} (h : Y0.t k aB aC aA aO aM aK aN = some (z0, z1, z2, z3, z4, z5, z6)) (K : Int → (List (List D)) → (List (List D)) → (List (List D)) → (List (List D)) → Int → Int → Option β) : Y0.f k aB aC aA aO aM aK aN K = K z0 z1 z2 z3 z4 z5 z6 := by
  unfold Y0.f
  rw [h]
theorem YR.f_of {β : Type} {k : Nat} {aB : List (List D)} {aC aA : Int} {a1 z0 : ByteArray} {z1 z2 : List (List C)} {z3 : Int} {z4 : List (List D)} {z5 z6 : Int} (h : YR.t k aB aC aA a1 = some (z0, z1, z2, z3, z4, z5, z6)) (K : ByteArray → (List (List C)) → (List (List C)) → Int → (List (List D)) → Int → Int → Option β) : YR.f k aB aC aA a1 K = K z0 z1 z2 z3 z4 z5 z6 := by
  unfold YR.f
  rw [h]
theorem YM.f_of {β : Type} {k : Nat} {a0 : List (List D)} {z0 : Int} {z1 z2 z3 : List (List D)} {z4 : ByteArray} {z5 z6 : List (List C)} {z7 : Int} (h : YM.t k a0 = some (z0, z1, z2, z3, z4, z5, z6, z7)) (K : Int → (List (List D)) → (List (List D)) → (List (List D)) → ByteArray → (List (List C)) → (List (List C)) → Int → Option β) : YM.f k a0 K = K z0 z1 z2 z3 z4 z5 z6 z7 := by
  unfold YM.f
  rw [h]
theorem YW.f_of {β : Type} {k a0 a1 a2 z0} (h : YW.t k a0 a1 a2 = some z0) (K : Bool → Option β) : YW.f k a0 a1 a2 K = K z0 := by unfold YW.f; rw [h]; rfl
theorem within_f {β : Type} {k : Nat} {a b c : Int} (K : Bool → Option β) : YW.f k a b c K = K (decide (b ≤ a) && decide (a ≤ c)) := by
  refine YW.f_of ?_ K
  unfold YW.t YW.g
  by_cases h : b ≤ a <;> simp [h]
theorem Yx.same {k : Nat} {a : ByteArray} : Yx.t k a = Ye.t k a := by
  unfold Yx.t Ye.t Yx.g Ye.g
  congr 1
  funext L v
  simp only [Yx.l0, Ye.l0, l1In_f, within_f]
  refine bif_congr (fun _ => ?_) (fun _ => rfl)
  unfold Za0
  split
  · split
    · rename_i b _
      have hb : b.toNat < 256 := b.toNat_lt
      simp only []
      rw [Zj (x := (b.toNat : Int)) (by omega) (by omega)]
      generalize (b.toNat : Int) = x
      by_cases h1 : x < 97 <;> by_cases h2 : x < 48 <;> by_cases h3 : x > 57 <;> by_cases h4 : x > 122 <;> simp [h1, h2, h3, h4] <;> (try omega) <;> grind
    · rfl
  · rfl
theorem Y8 {β : Type} {k : Nat} {a : ByteArray} (K : Bool → Option β) : Yx.f k a K = Ye.f k a K := by
  unfold Yx.f Ye.f
  rw [Yx.same]
theorem within_fv {β : Type} {k : Nat} {a b c : Int} (K : Bool → Option β) : YW.f k a b c K = K (inB a b c) := within_f K
theorem YU.f_of {β : Type} {k a0 z0} (h : YU.t k a0 = some z0) (K : Bool → Option β) : YU.f k a0 K = K z0 := by unfold YU.f; rw [h]; rfl
theorem isCopies_f {β : Type} {k : Nat} {a : Int} (K : Bool → Option β) : YU.f k a K = K (decide (0 ≤ a) && decide (a ≤ 10000)) := by
  refine YU.f_of ?_ K
  unfold YU.t YU.g
  rw [within_f]
theorem Ys.f_of {β : Type} {k a0 a1 z0} (h : Ys.t k a0 a1 = some z0) (K : Bool → Option β) : Ys.f k a0 a1 K = K z0 := by unfold Ys.f; rw [h]; rfl
theorem Y2.f_of {β : Type} {k aB aC aA z0} (h : Y2.t k aB aC aA = some z0) (K : Bool → Option β) : Y2.f k aB aC aA K = K z0 := by unfold Y2.f; rw [h]; rfl
theorem YN.f_of {β : Type} {k aB aC aA z0} (h : YN.t k aB aC aA = some z0) (K : Bool → Option β) : YN.f k aB aC aA K = K z0 := by unfold YN.f; rw [h]; rfl
theorem Ya.f_of {β : Type} {k a0 z0} (h : Ya.t k a0 = some z0) (K : Int → Option β) : Ya.f k a0 K = K z0 := by unfold Ya.f; rw [h]; rfl
theorem Yg.f_of {β : Type} {k a0 z0} (h : Yg.t k a0 = some z0) (K : Bool → Option β) : Yg.f k a0 K = K z0 := by unfold Yg.f; rw [h]; rfl
theorem YJ.f_of {β : Type} {k a0 z0} (h : YJ.t k a0 = some z0) (K : Bool → Option β) : YJ.f k a0 K = K z0 := by unfold YJ.f; rw [h]; rfl
set_option maxRecDepth 100000 in
theorem YA.same {k : Nat} {a : List (List D)} (g : Zi RSS lim a) : YA.t k a = Yi.t k a := by
  unfold YA.t Yi.t YA.g Yi.g
  congr 1
  funext L v
  simp only [YA.l0, atR, rdQ, Q.ask, Yi.l0, atR, rdQ, Q.ask, Y8]
  refine bif_congr (fun h => ?_) (fun _ => rfl)
  by_cases h0 : 0 ≤ v ∧ v < a.length
  · have hl : v.toNat < a.length := by omega
    obtain ⟨s0, s1, hs, _⟩ := g.2 _ (List.getElem_mem hl)
    have hr := fun F => atRow_get (β := Bool) h0.1 (by rw [← hs]; simp [hl] : a[v.toNat]? = some [.str s0, .str s1]) F
    simp only [hr, Zas, dStr, atEnd]
  · simp only [atRow_none h0]
theorem Yq.f_of {β : Type} {k a0 a1 z0} (h : Yq.t k a0 a1 = some z0) (K : Int → Option β) : Yq.f k a0 a1 K = K z0 := by unfold Yq.f; rw [h]; rfl
def RS (B : Nat) (r : List D) : Prop := ∃ (c0 : ByteArray), r = [.str c0] ∧ c0.size ≤ B ∧ True
theorem RS.open {B : Nat} {r : List D} (h : RS B r) : ∃ (c0 : ByteArray), r = [.str c0] ∧ c0.size ≤ B ∧ True := h
theorem RS.mono {B B' : Nat} (hb : B ≤ B') {r : List D} (h : RS B r) : RS B' r := by
  obtain ⟨c0, rfl, k0, _⟩ := h
  exact ⟨_, rfl, (Nat.le_trans k0 hb), trivial⟩
theorem RS.wide {xs : List (List D)} (h : Zi RS lim xs) : Zi RS 2097152 xs := ⟨Nat.le_trans h.1 (by decide), fun r hr => (h.2 r hr).mono (by decide)⟩
theorem RS.len {B : Nat} {r : List D} (h : RS B r) : r.length = 1 := by
  obtain ⟨c0, rfl, _⟩ := h.open
  rfl
theorem RS.flat {B : Nat} {xs : List (List D)} (h : ∀ r ∈ xs, RS B r) : ZaZ 1 xs := fun r hr => by
  obtain ⟨c0, rfl, _⟩ := (h r hr).open
  exact ⟨rfl, by simp [Zau]⟩
theorem RS.wt {B : Nat} {xs : List (List D)} (h : ∀ r ∈ xs, RS B r) : Zp xs = 1 * xs.length := wt_flat (R := RS B) (fun r h => by obtain ⟨c0, rfl, _⟩ := h; rfl) xs h
theorem RS.deep {B : Nat} {xs : List (List D)} (h : ∀ r ∈ xs, RS B r) : Zb xs = xs.map (·.map C.d) := deep_flat (R := RS B) (fun r h => by obtain ⟨c0, rfl, _⟩ := h; rfl) xs h
theorem RS.gets {B : Nat} {xs : List (List D)} (h : ∀ r ∈ xs, RS B r) {v : Int} (h0 : 0 ≤ v) (h1 : v < xs.length) : gR xs v = [.str (gS xs v 0)] ∧ (gS xs v 0).size ≤ B ∧ True := by
  obtain ⟨c0, e, k0, _⟩ := (h (gR xs v) (gR_mem h0 h1)).open
  unfold gS
  rw [e]
  exact ⟨rfl, k0, trivial⟩
theorem RS.rows {B : Nat} {xs : List (List D)} (h : ∀ r ∈ xs, RS B r) {v : Int} (h0 : 0 ≤ v) (h1 : v < xs.length) {β : Type} (F : List D → Option β) : Zbw xs v F = F [.str (gS xs v 0)] := by
  rw [← (RS.gets h h0 h1).1]
  exact Zbp h0 h1 F
theorem RS.get {B : Nat} {xs : List (List D)} (h : Zi RS B xs) {v : Int} (h0 : 0 ≤ v) (h1 : v < xs.length) : gR xs v = [.str (gS xs v 0)] ∧ (gS xs v 0).size ≤ B ∧ True := RS.gets h.2 h0 h1
theorem RS.row {B : Nat} {xs : List (List D)} (h : Zi RS B xs) {v : Int} (h0 : 0 ≤ v) (h1 : v < xs.length) {β : Type} (F : List D → Option β) : Zbw xs v F = F [.str (gS xs v 0)] := RS.rows h.2 h0 h1 F
set_option maxRecDepth 100000 in
theorem namesOk_fv {a : List (List D)} {n : Int} (g : Zi RS lim a) {k : Nat} (hk : Z3 k) {β : Type} (K : Bool → Option β) : Ys.f k a n K = K (namesB a && decide ((a.length : Int) ≤ n)) := Ys.f_of (by
  have hl := g.1
  have hlim : lim = 1048576 := rfl
  have hb : big = 2 ^ 64 := rfl
  unfold Ys.t Ys.g
  rw [Zb6 (n := a.length) (fun i => Ye.v (gS a (i : Int) 0) && (!decide ((i : Int) > 0) || ZbO (gS a ((i : Int) - 1) 0) (gS a (i : Int) 0))) (r1 := some false) (r2 := some (decide ((a.length : Int) ≤ n))) (by unfold Z3 at hk; omega)]
  · unfold namesB
    generalize List.all _ _ = x
    cases x <;> rfl
  · intro L i hi
    have k0 := (RS.get g (v := (i : Int)) (by omega) (by omega)).2.1
    simp (disch := omega) only [Ys.l0, atR, rdQ, Q.ask, ZQ (show (i : Int) < a.length by omega), cond_true, RS.row g, ZY, Zaj, Z6, Y8, Ye.fv k0 hk, Zj]
    by_cases h0 : (i : Int) > 0
    · simp (disch := omega) only [ZQ h0, cond_true, RS.row g, ZY, Zaj, Z6]
      cases Ye.v (gS a (i : Int) 0) <;> cases ZbO (gS a ((i : Int) - 1) 0) (gS a (i : Int) 0) <;> rfl
    · simp only [ZV h0, cond_false]
      cases Ye.v (gS a (i : Int) 0) <;> rfl
  · intro L
    simp [Ys.l0, atR, rdQ, Q.ask]) K
set_option maxRecDepth 100000 in
theorem str_ex {b xs : List (List D)} {i h : Int} {k : Nat} (c : Cur b i) (g : ∀ r ∈ xs, RS lim r) (hx : 0 < xs.length) : ∃ j i' h', 0 ≤ j ∧ j < (xs.length : Int) ∧ Cur b i' ∧ YY.t k b i h xs = some (gS xs j 0, b, i', h') := by
  obtain ⟨x, i', h', x0, x1, -, c', e⟩ := Y9 (k := k) (h := h) (n := (xs.length : Int)) c
  unfold YY.t YY.g; simp only [atR, rdQ, Q.ask]
  rw [Yu.f_of e, RS.rows g x0 (x1 (by omega))]
  simp only [ZY, Zaj, Z6]
  exact ⟨x, _, _, x0, x1 (by omega), c', rfl⟩
theorem Yac {a : List (List D)} (g : Zi RSS lim a) {k : Nat} {β : Type} (K : List (List C) → Option β) : YT.f k a K = K (a.map (·.map C.d)) := YT.f_of (by
  have hl := g.1
  have hlim : lim = 1048576 := rfl
  have hm : ZN = 2 ^ 36 := rfl
  unfold YT.t YT.g
  rw [ZaP (RSS.flat g.2), ZaP (by simp only [List.length_nil, map_len]; omega), List.nil_append]) K
set_option maxRecDepth 100000 in
set_option maxHeartbeats 1000000 in
theorem labelSet_ex {k : Nat} (hk : Z3 k) {l : List (List D)} {s v : ByteArray} (g : ∀ r ∈ l, RSS lim r) (hl : l.length ≤ 1000) (gs : s.size ≤ lim) (gv : v.size ≤ lim) : ∃ (l' : List (List D)) (ok : Bool), (∀ r ∈ l', RSS lim r) ∧ l'.length ≤ l.length + 1 ∧ Yt.t k l s v = some (l'.map (·.map C.d), ok) := by
  have hlim : lim = 1048576 := rfl
  have hm : ZN = 2 ^ 36 := rfl
  have hb : big = 2 ^ 64 := rfl
  have G : Zi RSS lim l := ⟨by omega, g⟩
  let Qz : Option (List (List C) × Bool) → Prop := fun o => ∃ (l' : List (List D)) (ok : Bool), (∀ r ∈ l', RSS lim r) ∧ l'.length ≤ l.length + 1 ∧ o = some (l'.map (·.map C.d), ok)
  have hsame : ∀ ok, Qz (some (l.map (·.map C.d), ok)) := fun ok => ⟨l, ok, g, by omega, rfl⟩
  have hnew : RSS lim [D.str s, D.str v] := ⟨s, v, rfl, gs, gv, trivial⟩
  have loop : Qz (Zo (Yt.l0 k l s v (fun z0 z1 => some (z0, z1))) k (false, 0, [])) := by
    refine iter_ex (fun v => (l.length : Int).toNat - v.2.1.toNat) (fun v => 0 ≤ v.2.1 ∧ v.2.1 ≤ (l.length : Int) ∧ ∃ o : List (List D), v.2.2 = o.map (·.map C.d) ∧ (∀ r ∈ o, RSS lim r) ∧ (o.length : Int) ≤ v.2.1 + (if v.1 = true then 1 else 0)) Qz ?_ ⟨by simp, by simp, [], rfl, by simp, by simp⟩ (by unfold Z3 at hk; simp; omega)
    rintro ⟨p, i, out⟩ ⟨h0, h1, o, e, ho, hlen⟩ L hL
    simp only at h0 h1 e hlen
    subst e
    have hw : i < l.length → IntKind.wrap .i64 (i + 1) = i + 1 := fun _ => Zj (by omega) (by omega)
    have hp : (if p = true then (1 : Int) else 0) ≤ 1 ∧ 0 ≤ (if p = true then (1 : Int) else 0) := by cases p <;> simp
    by_cases hi : i < l.length
    · have hr := RSS.gets g h0 hi
      have hold : RSS lim [D.str (gS l i 0), .str (gS l i 1)] := ⟨_, _, rfl, hr.2.1, hr.2.2.1, trivial⟩
      have fin : ∀ (p' : Bool) (o' : List (List D)), (∀ r ∈ o', RSS lim r) → (o'.length : Int) ≤ i + 1 + (if p' = true then 1 else 0) → Qz (L (p', i + 1, o'.map (·.map C.d))) := fun p' o' q1 q2 => hL _ ⟨by show 0 ≤ i + 1; omega, by show i + 1 ≤ (l.length : Int); omega, o', rfl, q1, q2⟩ (by show (l.length : Int).toNat - (i + 1).toNat < (l.length : Int).toNat - i.toNat; omega)
      have up1 : ∀ (o' : List (List D)) (x y : ByteArray), o'.map (·.map C.d) ++ ([[.d (.str x), .d (.str y)]] : List (List C)) = (o' ++ [[D.str x, D.str y]]).map (·.map C.d) := fun o' x y => by rw [List.map_append]; rfl
      simp only [Yt.l0, atR, rdQ, Q.ask, ZQ hi, cond_true, RSS.row G h0 hi, ZY, Zaj, Z6, hw hi, map_len, List.length_append, List.length_singleton, ZaP (show o.length + 1 ≤ ZN by omega), ZaP (show o.length + 1 + 1 ≤ ZN by omega)]
      cases p with
      | true =>
        simp only [Bool.not_true, cond_false]
        cases Zae (gS l i 0) s
        · simp only [Bool.not_false, cond_true, up1]
          exact fin _ _ (Y7 ho hold) (by rw [List.length_append, List.length_singleton]; simp at hlen ⊢; omega)
        · exact fin _ _ ho (by simp at hlen ⊢; omega)
      | false =>
        simp only [Bool.not_false, cond_true]
        simp at hlen
        cases ZbO (gS l i 0) s
        · simp only [Bool.not_false, cond_true]
          cases Zae (gS l i 0) s
          · simp only [Bool.not_false, cond_true, up1]
            exact fin _ _ (Y7 (Y7 ho hnew) hold) (by simp; omega)
          · simp only [Bool.not_true, cond_false, up1]
            exact fin _ _ (Y7 ho hnew) (by simp; omega)
        · simp only [Bool.not_true, cond_false]
          cases Zae (gS l i 0) s
          · simp only [Bool.not_false, cond_true, up1]
            exact fin _ _ (Y7 ho hold) (by simp; omega)
          · exact fin _ _ ho (by simp; omega)
    · simp only [Yt.l0, atR, rdQ, Q.ask, ZV hi, cond_false, map_len, List.length_singleton]
      cases p with
      | true => exact ⟨o, true, ho, by simp at hlen; omega, rfl⟩
      | false =>
        simp only [Bool.not_false, cond_true]
        rw [ZaP (show o.length + 1 ≤ ZN by simp at hlen; omega)]
        exact ⟨o ++ [[D.str s, D.str v]], true, Y7 ho hnew, by simp at hlen ⊢; omega, by rw [List.map_append]; rfl⟩
  show Qz _
  unfold Yt.t Yt.g Yt.m
  rw [Yj.fv G gs hk, Yi.fv G hk]
  cases Yi.v l
  · simp only [Bool.not_false, cond_true, Yac G]; exact hsame _
  simp only [Bool.not_true, cond_false, Ye.fv gs hk]
  cases Ye.v s
  · simp only [Bool.not_false, cond_true, Yac G]; exact hsame _
  simp only [Bool.not_true, cond_false, Ye.fv gv hk]
  cases Ye.v v
  · simp only [Bool.not_false, cond_true, Yac G]; exact hsame _
  simp only [Bool.not_true, cond_false]
  cases (Yj.v l s).2
  · simp only [Bool.not_false, cond_true]
    cases ((l.length : Int)) == 8
    · exact loop
    · simp only [cond_true, Yac G]; exact hsame _
  · exact loop
theorem name_ex {b : List (List D)} {i h : Int} {k : Nat} (c : Cur b i) : ∃ s i' h', s.size ≤ lim ∧ Cur b i' ∧ YH.t k b i h = some (s, b, i', h') := by
  unfold YH.t YH.g
  have hstr : ∀ r ∈ ([[.str (⟨#[97]⟩ : ByteArray)], [.str (⟨#[98]⟩ : ByteArray)], [.str (⟨#[99]⟩ : ByteArray)], [.str (⟨#[122, 111, 110, 101]⟩ : ByteArray)], [.str (⟨#[116, 105, 101, 114]⟩ : ByteArray)], [.str (⟨#[103, 111, 108, 100]⟩ : ByteArray)], [.str (⟨#[101, 97, 115, 116]⟩ : ByteArray)], [.str (⟨#[120, 45, 49]⟩ : ByteArray)], [.str (⟨#[97, 98, 99, 100, 101, 102, 103, 104, 105, 106, 107, 108, 109, 110, 111, 112, 113, 114, 115, 116]⟩ : ByteArray)]] : List (List D)), RS lim r := by
    intro r hr
    simp only [List.mem_cons, List.not_mem_nil, or_false] at hr
    rcases hr with rfl | rfl | rfl | rfl | rfl | rfl | rfl | rfl | rfl <;> exact ⟨_, rfl, by decide, trivial⟩
  obtain ⟨j, i1, h1, j0, j1, hc1, e1⟩ := str_ex (k := k) (h := h) c hstr (by decide)
  rw [YY.f_of e1]
  exact ⟨_, _, _, (RS.gets hstr j0 j1).2.1, hc1, rfl⟩
set_option maxHeartbeats 1000000 in
theorem labels_ex {k : Nat} (hk : Z3 k) {b : List (List D)} {i h M : Int} (c : Cur b i) (hM : M ≤ 100) : ∃ (l : List (List D)) (i' h' : Int), (∀ r ∈ l, RSS lim r) ∧ l.length ≤ M.toNat ∧ Cur b i' ∧ YD.t k b i h M = some (l.map (·.map C.d), b, i', h') := by
  have hb : big = 2 ^ 64 := rfl
  unfold YD.t YD.g
  obtain ⟨x, i1, h1, x0, x1, x2, hc1, e1⟩ := Y9 (k := k) (h := h) (n := M) c
  rw [Yu.f_of e1]
  refine iter_ex (fun v => v.1.toNat) (fun v => 0 ≤ v.1 ∧ v.2.1 = b ∧ Cur b v.2.2.1 ∧ ∃ o : List (List D), v.2.2.2.2 = o.map (·.map C.d) ∧ (∀ r ∈ o, RSS lim r) ∧ (o.length : Int) + v.1 ≤ M.toNat) (fun o => ∃ (l : List (List D)) (i' h' : Int), (∀ r ∈ l, RSS lim r) ∧ l.length ≤ M.toNat ∧ Cur b i' ∧ o = some (l.map (·.map C.d), b, i', h')) ?_ (v := (x, b, i1, h1, [])) ⟨x0, rfl, hc1, [], rfl, by simp, by simp; omega⟩ (by unfold Z3 at hk; show x.toNat < k; omega)
  rintro ⟨n, b', i, h, out⟩ ⟨n0, eb, hc, o, e, ho, hlen⟩ L hL
  simp only at n0 eb hc e hlen
  subst eb e
  by_cases hn : n > 0
  · obtain ⟨s, i2, h2, gs, hc2, e2⟩ := name_ex (k := k) (h := h) hc
    obtain ⟨v, i3, h3, gv, hc3, e3⟩ := name_ex (k := k) (h := h2) hc2
    obtain ⟨l', ok, g', gl, e4⟩ := labelSet_ex hk ho (by omega) gs gv
    simp only [YD.l0, ZQ hn, cond_true, YH.f_of e2, YH.f_of e3, imm_rows, Yt.f_of e4, Zj (show -9223372036854775808 ≤ n - 1 by omega) (show n - 1 ≤ 9223372036854775807 by omega)]
    exact hL _ ⟨by show 0 ≤ n - 1; omega, rfl, hc3, l', rfl, g', by show (l'.length : Int) + (n - 1) ≤ _; omega⟩ (by show (n - 1).toNat < n.toNat; omega)
  · simp only [YD.l0, ZV hn, cond_false]
    exact ⟨o, i, h, ho, by omega, hc, rfl⟩
theorem Yy.f_of {β : Type} {k a0 a1 z0} (h : Yy.t k a0 a1 = some z0) (K : Bool → Option β) : Yy.f k a0 a1 K = K z0 := by unfold Yy.f; rw [h]; rfl
theorem strEq_comm (a b : ByteArray) : Zae a b = Zae b a := by
  unfold Zae
  rw [Bool.eq_iff_iff]
  simp only [beq_iff_eq]
  exact ⟨Eq.symm, Eq.symm⟩
def Y6 (xs : List (List D)) (s : ByteArray) : Bool := !(List.range xs.length).all fun i => !Zae (gS xs (i : Int) 0) s
set_option maxRecDepth 100000 in
theorem contains_fv {a : List (List D)} {s : ByteArray} (g : Zi RS lim a) {k : Nat} (hk : Z3 k) {β : Type} (K : Bool → Option β) : Yy.f k a s K = K (Y6 a s) := by
  have hl := g.1
  have hlim : lim = 1048576 := rfl
  have hb : big = 2 ^ 64 := rfl
  have hf : ∀ {β : Type} (K : Int → Option β), Yq.f k a s K = K (Zbo (fun i => Zae (gS a (i : Int) 0) s) a.length) := fun K => Yq.f_of (by
    unfold Yq.t Yq.g
    refine iter_findI (n := a.length) _ some (by unfold Z3 at hk; omega) (fun L i hi => ?_) (fun L => by simp [Yq.l0, atR, rdQ, Q.ask])
    simp (disch := omega) only [Yq.l0, atR, rdQ, Q.ask, ZQ (show (i : Int) < a.length by omega), cond_true, RS.row g, ZY, Zaj, Z6, Zj]
    rw [strEq_comm]) K
  refine Yy.f_of ?_ K
  unfold Yy.t Yy.g
  rw [hf, findI_all]
  rfl
theorem Y3.f_of {β : Type} {k aB aC aA a1 z0} (h : Y3.t k aB aC aA a1 = some z0) (K : Bool → Option β) : Y3.f k aB aC aA a1 K = K z0 := by unfold Y3.f; rw [h]; rfl
theorem YV.f_of {β : Type} {k aB aC aA f0_0 z0} (h : YV.t k aB aC aA f0_0 = some z0) (K : Bool → Option β) : YV.f k aB aC aA f0_0 K = K z0 := by unfold YV.f; rw [h]; rfl
theorem Yb.f_of {β : Type} {k a0 a1_0_0 z0} (h : Yb.t k a0 a1_0_0 = some z0) (K : Int → Option β) : Yb.f k a0 a1_0_0 K = K z0 := by unfold Yb.f; rw [h]; rfl
theorem Yh.f_of {β : Type} {k a0 a1_0_0 z0} (h : Yh.t k a0 a1_0_0 = some z0) (K : Bool → Option β) : Yh.f k a0 a1_0_0 K = K z0 := by unfold Yh.f; rw [h]; rfl
theorem YS.f_of {β : Type} {k a0 f0_0 f0_1 f0_2 f0_3 z0} (h : YS.t k a0 f0_0 f0_1 f0_2 f0_3 = some z0) (K : Bool → Option β) : YS.f k a0 f0_0 f0_1 f0_2 f0_3 K = K z0 := by unfold YS.f; rw [h]; rfl
theorem Yc.f_of {β : Type} {k a0 a1_0_0 a1_0_1 a1_0_2 a1_0_3 z0} (h : Yc.t k a0 a1_0_0 a1_0_1 a1_0_2 a1_0_3 = some z0) (K : Int → Option β) : Yc.f k a0 a1_0_0 a1_0_1 a1_0_2 a1_0_3 K = K z0 := by unfold Yc.f; rw [h]; rfl
theorem Yl.f_of {β : Type} {k a0 a1_0_0 a1_0_1 a1_0_2 a1_0_3 z0} (h : Yl.t k a0 a1_0_0 a1_0_1 a1_0_2 a1_0_3 = some z0) (K : Bool → Option β) : Yl.f k a0 a1_0_0 a1_0_1 a1_0_2 a1_0_3 K = K z0 := by unfold Yl.f; rw [h]; rfl
theorem YP.f_of {β : Type} {k aB aC aA aH aO aM aK aN z0} (h : YP.t k aB aC aA aH aO aM aK aN = some z0) (K : Bool → Option β) : YP.f k aB aC aA aH aO aM aK aN K = K z0 := by unfold YP.f; rw [h]; rfl
theorem YB.f_of {β : Type} {k aB aC aA z0} (h : YB.t k aB aC aA = some z0) (K : Bool → Option β) : YB.f k aB aC aA K = K z0 := by unfold YB.f; rw [h]; rfl
theorem YB.tm {ι α : Type} {ok : ι → Prop} {ψ : α → Prop} {p : ι → Nat} {B : Nat} (hp : ∀ i, ok i → B ≤ p i) {aB aC aA φ} (h : Tm (fun k => B ≤ k) (fun k => YB.t k aB aC aA) φ) {G : ι → Bool → Option α} (hG : ∀ z0, φ z0 → Tm ok (fun i => G i z0) ψ) : Tm ok (fun i => YB.f (p i) aB aC aA (G i)) ψ := ZK (t := fun k => YB.t k aB aC aA) hp h hG
set_option maxRecDepth 100000 in
theorem YB.T {aB : Int} {aC : ByteArray} {aA : List (List D)} (ga0_1 : aC.size ≤ lim) (ga0_2 : Zi RS lim aA) : Tm Z3 (fun k => YB.t k aB aC aA) (fun _ => True) := by
  unfold YB.t YB.g
  have hm := Zy
  have hlim : lim = 1048576 := rfl
  have la0_2 := ga0_2.1
  refine Tm.loop (okk := Z3) (p := fun k => k) (fun i hi => hi) (b := fun k => YB.l0 k (aA.length : Int) aB aC aA (fun z0 => some z0)) (fun i => (((aA.length : Int)) - i).toNat) (fun i => 0 ≤ i ∧ i ≤ (aA.length : Int)) ?_ ?_ ?_
  · rintro i hI
    try simp only [] at hI ⊢
    have : big = 2 ^ 64 := rfl
    omega
  · ((try simp only []); omega)
  · rintro i hI L hL
    try simp only [] at hI
    obtain ⟨i0, i1⟩ := hI
    simp only [YB.l0, atR, rdQ, Q.ask]
    refine Tm.ite (fun h1 => ?_) (fun h1 => ?_)
    · try simp only [bz0, bz1, bz2, bz3, bz4, bz5, bz6, bz7, bz8, bz9, bza] at h1
      refine Tm.atRow (by first | assumption | omega) (by first | assumption | omega) (fun x2 hx3 hm4 => ?_)
      obtain ⟨c5, rfl, g6, _⟩ := (ga0_2.2 x2 hm4).open
      refine Tm.uncons ?_
      refine Tm.dStr ?_
      refine Tm.atEnd ?_
      refine Ye.tm (fun i hi => hi.1) (Ye.T (by first | assumption | omega)) (fun y8 hy7 => ?_)
      refine Tm.ite (fun h9 => ?_) (fun h9 => ?_)
      · try simp only [bz0, bz1, bz2, bz3, bz4, bz5, bz6, bz7, bz8, bz9, bza] at h9
        exact Tm.ret (by trivial)
      · try simp only [bz0, bz1, bz2, bz3, bz4, bz5, bz6, bz7, bz8, bz9, bza] at h9
        refine Tm.ite (fun h10 => ?_) (fun h10 => ?_)
        · try simp only [bz0, bz1, bz2, bz3, bz4, bz5, bz6, bz7, bz8, bz9, bza] at h10
          try rw [Zj (x := i - 1) (by omega) (by omega)]
          refine Tm.atRow (by first | assumption | omega) (by first | assumption | omega) (fun x11 hx12 hm13 => ?_)
          obtain ⟨c14, rfl, g15, _⟩ := (ga0_2.2 x11 hm13).open
          refine Tm.uncons ?_
          refine Tm.dStr ?_
          refine Tm.atEnd ?_
          refine Tm.atRow (by first | assumption | omega) (by first | assumption | omega) (fun x16 hx17 hm18 => ?_)
          rw [hx3] at hx17
          injection hx17 with hx17
          subst hx17
          refine Tm.uncons ?_
          refine Tm.dStr ?_
          refine Tm.atEnd ?_
          refine Tm.ite (fun h20 => ?_) (fun h20 => ?_)
          · try simp only [bz0, bz1, bz2, bz3, bz4, bz5, bz6, bz7, bz8, bz9, bza] at h20
            exact Tm.ret (by trivial)
          · try simp only [bz0, bz1, bz2, bz3, bz4, bz5, bz6, bz7, bz8, bz9, bza] at h20
            try rw [Zj (x := i + 1) (by omega) (by omega)]
            exact hL _ (by (try simp only []); omega) (by (try simp only []); omega)
        · try simp only [bz0, bz1, bz2, bz3, bz4, bz5, bz6, bz7, bz8, bz9, bza] at h10
          try rw [Zj (x := i + 1) (by omega) (by omega)]
          exact hL _ (by (try simp only []); omega) (by (try simp only []); omega)
    · try simp only [bz0, bz1, bz2, bz3, bz4, bz5, bz6, bz7, bz8, bz9, bza] at h1
      refine Ye.tm (fun i hi => hi.1) (Ye.T (by first | assumption | omega)) (fun y22 hy21 => ?_)
      refine Tm.ite (fun h23 => ?_) (fun h23 => ?_)
      · try simp only [bz0, bz1, bz2, bz3, bz4, bz5, bz6, bz7, bz8, bz9, bza] at h23
        exact Tm.ret (by trivial)
      · try simp only [bz0, bz1, bz2, bz3, bz4, bz5, bz6, bz7, bz8, bz9, bza] at h23
        refine Tm.ite (fun h24 => ?_) (fun h24 => ?_)
        · try simp only [bz0, bz1, bz2, bz3, bz4, bz5, bz6, bz7, bz8, bz9, bza] at h24
          refine Tm.ite (fun h25 => ?_) (fun h25 => ?_)
          · try simp only [bz0, bz1, bz2, bz3, bz4, bz5, bz6, bz7, bz8, bz9, bza] at h25
            exact Tm.ret (by trivial)
          · try simp only [bz0, bz1, bz2, bz3, bz4, bz5, bz6, bz7, bz8, bz9, bza] at h25
            refine Tm.ite (fun h26 => ?_) (fun h26 => ?_)
            · try simp only [bz0, bz1, bz2, bz3, bz4, bz5, bz6, bz7, bz8, bz9, bza] at h26
              refine YE.tm (fun i hi => hi.1) (YE.T) (fun y28 hy27 => ?_)
              exact Tm.ret (by trivial)
            · try simp only [bz0, bz1, bz2, bz3, bz4, bz5, bz6, bz7, bz8, bz9, bza] at h26
              refine Tm.ite (fun h29 => ?_) (fun h29 => ?_)
              · try simp only [bz0, bz1, bz2, bz3, bz4, bz5, bz6, bz7, bz8, bz9, bza] at h29
                refine Tm.ite (fun h30 => ?_) (fun h30 => ?_)
                · try simp only [bz0, bz1, bz2, bz3, bz4, bz5, bz6, bz7, bz8, bz9, bza] at h30
                  exact Tm.ret (by trivial)
                · try simp only [bz0, bz1, bz2, bz3, bz4, bz5, bz6, bz7, bz8, bz9, bza] at h30
                  exact Tm.ret (by trivial)
              · try simp only [bz0, bz1, bz2, bz3, bz4, bz5, bz6, bz7, bz8, bz9, bza] at h29
                refine Tm.ite (fun h31 => ?_) (fun h31 => ?_)
                · try simp only [bz0, bz1, bz2, bz3, bz4, bz5, bz6, bz7, bz8, bz9, bza] at h31
                  exact Tm.ret (by trivial)
                · try simp only [bz0, bz1, bz2, bz3, bz4, bz5, bz6, bz7, bz8, bz9, bza] at h31
                  exact Tm.ret (by trivial)
        · try simp only [bz0, bz1, bz2, bz3, bz4, bz5, bz6, bz7, bz8, bz9, bza] at h24
          refine Tm.ite (fun h32 => ?_) (fun h32 => ?_)
          · try simp only [bz0, bz1, bz2, bz3, bz4, bz5, bz6, bz7, bz8, bz9, bza] at h32
            exact Tm.ret (by trivial)
          · try simp only [bz0, bz1, bz2, bz3, bz4, bz5, bz6, bz7, bz8, bz9, bza] at h32
            refine Tm.ite (fun h33 => ?_) (fun h33 => ?_)
            · try simp only [bz0, bz1, bz2, bz3, bz4, bz5, bz6, bz7, bz8, bz9, bza] at h33
              refine YE.tm (fun i hi => hi.1) (YE.T) (fun y35 hy34 => ?_)
              exact Tm.ret (by trivial)
            · try simp only [bz0, bz1, bz2, bz3, bz4, bz5, bz6, bz7, bz8, bz9, bza] at h33
              refine Tm.ite (fun h36 => ?_) (fun h36 => ?_)
              · try simp only [bz0, bz1, bz2, bz3, bz4, bz5, bz6, bz7, bz8, bz9, bza] at h36
                refine Tm.ite (fun h37 => ?_) (fun h37 => ?_)
                · try simp only [bz0, bz1, bz2, bz3, bz4, bz5, bz6, bz7, bz8, bz9, bza] at h37
                  exact Tm.ret (by trivial)
                · try simp only [bz0, bz1, bz2, bz3, bz4, bz5, bz6, bz7, bz8, bz9, bza] at h37
                  exact Tm.ret (by trivial)
              · try simp only [bz0, bz1, bz2, bz3, bz4, bz5, bz6, bz7, bz8, bz9, bza] at h36
                refine Tm.ite (fun h38 => ?_) (fun h38 => ?_)
                · try simp only [bz0, bz1, bz2, bz3, bz4, bz5, bz6, bz7, bz8, bz9, bza] at h38
                  exact Tm.ret (by trivial)
                · try simp only [bz0, bz1, bz2, bz3, bz4, bz5, bz6, bz7, bz8, bz9, bza] at h38
                  exact Tm.ret (by trivial)
theorem Yf.f_of {β : Type} {k a0 z0} (h : Yf.t k a0 = some z0) (K : Bool → Option β) : Yf.f k a0 K = K z0 := by unfold Yf.f; rw [h]; rfl
theorem Yf.tm {ι α : Type} {ok : ι → Prop} {ψ : α → Prop} {p : ι → Nat} {B : Nat} (hp : ∀ i, ok i → B ≤ p i) {a0 φ} (h : Tm (fun k => B ≤ k) (fun k => Yf.t k a0) φ) {G : ι → Bool → Option α} (hG : ∀ z0, φ z0 → Tm ok (fun i => G i z0) ψ) : Tm ok (fun i => Yf.f (p i) a0 (G i)) ψ := ZK (t := fun k => Yf.t k a0) hp h hG
def Y1 (B : Nat) (r : List D) : Prop := ∃ (c0 : Int) (c1 : ByteArray) (c2 : List (List D)), r = [.int .i64 c0, .str c1, .sl c2] ∧ (Lit.int .i64 c0).wf = true ∧ c1.size ≤ B ∧ Zi RS B c2 ∧ True
theorem Y1.open {B : Nat} {r : List D} (h : Y1 B r) : ∃ (c0 : Int) (c1 : ByteArray) (c2 : List (List D)), r = [.int .i64 c0, .str c1, .sl c2] ∧ (Lit.int .i64 c0).wf = true ∧ c1.size ≤ B ∧ Zi RS B c2 ∧ True := h
theorem Y1.mono {B B' : Nat} (hb : B ≤ B') {r : List D} (h : Y1 B r) : Y1 B' r := by
  obtain ⟨c0, c1, c2, rfl, k0, k1, k2, _⟩ := h
  exact ⟨_, _, _, rfl, k0, (Nat.le_trans k1 hb), ⟨Nat.le_trans k2.1 hb, fun r hr => (k2.2 r hr).mono hb⟩, trivial⟩
theorem Y1.wide {xs : List (List D)} (h : Zi Y1 lim xs) : Zi Y1 2097152 xs := ⟨Nat.le_trans h.1 (by decide), fun r hr => (h.2 r hr).mono (by decide)⟩
theorem Y1.len {B : Nat} {r : List D} (h : Y1 B r) : r.length = 3 := by
  obtain ⟨c0, c1, c2, rfl, _⟩ := h.open
  rfl
theorem Y1.gets {B : Nat} {xs : List (List D)} (h : ∀ r ∈ xs, Y1 B r) {v : Int} (h0 : 0 ≤ v) (h1 : v < xs.length) : gR xs v = [.int .i64 (gI xs v 0), .str (gS xs v 1), .sl (gL xs v 2)] ∧ (Lit.int .i64 (gI xs v 0)).wf = true ∧ (gS xs v 1).size ≤ B ∧ Zi RS B (gL xs v 2) ∧ True := by
  obtain ⟨c0, c1, c2, e, k0, k1, k2, _⟩ := (h (gR xs v) (gR_mem h0 h1)).open
  unfold gI gL gS
  rw [e]
  exact ⟨rfl, k0, k1, k2, trivial⟩
theorem Y1.rows {B : Nat} {xs : List (List D)} (h : ∀ r ∈ xs, Y1 B r) {v : Int} (h0 : 0 ≤ v) (h1 : v < xs.length) {β : Type} (F : List D → Option β) : Zbw xs v F = F [.int .i64 (gI xs v 0), .str (gS xs v 1), .sl (gL xs v 2)] := by
  rw [← (Y1.gets h h0 h1).1]
  exact Zbp h0 h1 F
theorem Y1.get {B : Nat} {xs : List (List D)} (h : Zi Y1 B xs) {v : Int} (h0 : 0 ≤ v) (h1 : v < xs.length) : gR xs v = [.int .i64 (gI xs v 0), .str (gS xs v 1), .sl (gL xs v 2)] ∧ (Lit.int .i64 (gI xs v 0)).wf = true ∧ (gS xs v 1).size ≤ B ∧ Zi RS B (gL xs v 2) ∧ True := Y1.gets h.2 h0 h1
theorem Y1.row {B : Nat} {xs : List (List D)} (h : Zi Y1 B xs) {v : Int} (h0 : 0 ≤ v) (h1 : v < xs.length) {β : Type} (F : List D → Option β) : Zbw xs v F = F [.int .i64 (gI xs v 0), .str (gS xs v 1), .sl (gL xs v 2)] := Y1.rows h.2 h0 h1 F
set_option maxRecDepth 100000 in
theorem Yf.T {a0 : List (List D)} (ga0 : Zi Y1 lim a0) : Tm Z3 (fun k => Yf.t k a0) (fun _ => True) := by
  unfold Yf.t Yf.g
  have hm := Zy
  have hlim : lim = 1048576 := rfl
  have la0 := ga0.1
  refine Tm.loop (okk := Z3) (p := fun k => k) (fun i hi => hi) (b := fun k => Yf.l0 k a0 (fun z0 => some z0)) (fun i => (((a0.length : Int)) - i).toNat) (fun i => 0 ≤ i ∧ i ≤ (a0.length : Int)) ?_ ?_ ?_
  · rintro i hI
    try simp only [] at hI ⊢
    have : big = 2 ^ 64 := rfl
    omega
  · ((try simp only []); omega)
  · rintro i hI L hL
    try simp only [] at hI
    obtain ⟨i0, i1⟩ := hI
    simp only [Yf.l0, atR, rdQ, Q.ask]
    refine Tm.ite (fun h1 => ?_) (fun h1 => ?_)
    · try simp only [bz0, bz1, bz2, bz3, bz4, bz5, bz6, bz7, bz8, bz9, bza] at h1
      refine Tm.atRow (by first | assumption | omega) (by first | assumption | omega) (fun x2 hx3 hm4 => ?_)
      obtain ⟨c5, c6, c7, rfl, g8, g9, g10, _⟩ := (ga0.2 x2 hm4).open
      refine Tm.uncons ?_
      refine Tm.dInt ?_
      refine Tm.uncons ?_
      refine Tm.dStr ?_
      refine Tm.uncons ?_
      refine Tm.dSl ?_
      refine Tm.atEnd ?_
      refine YB.tm (fun i hi => hi.1) (YB.T (by first | assumption | omega) (by first | assumption | omega)) (fun y12 hy11 => ?_)
      refine Tm.ite (fun h13 => ?_) (fun h13 => ?_)
      · try simp only [bz0, bz1, bz2, bz3, bz4, bz5, bz6, bz7, bz8, bz9, bza] at h13
        exact Tm.ret (by trivial)
      · try simp only [bz0, bz1, bz2, bz3, bz4, bz5, bz6, bz7, bz8, bz9, bza] at h13
        try rw [Zj (x := i + 1) (by omega) (by omega)]
        exact hL _ (by (try simp only []); omega) (by (try simp only []); omega)
    · try simp only [bz0, bz1, bz2, bz3, bz4, bz5, bz6, bz7, bz8, bz9, bza] at h1
      exact Tm.ret (by trivial)
noncomputable def Yf.v (a0 : List (List D)) : Bool := (Yf.t big a0).getD default
theorem Yf.tv {a0 : List (List D)} (ga0 : Zi Y1 lim a0) {k : Nat} (hk : Z3 k) : Yf.t k a0 = some (Yf.v a0) := (Yf.T ga0).val hk
theorem Yf.fv {a0 : List (List D)} (ga0 : Zi Y1 lim a0) {k : Nat} (hk : Z3 k) {β : Type} (K : Bool → Option β) : Yf.f k a0 K = K (Yf.v a0) := Yf.f_of (Yf.tv ga0 hk) K
theorem lens (n : Int) (h : 0 ≤ n) : n = 0 ∨ n = 1 ∨ ((n == 0) = false ∧ (n == 1) = false ∧ 1 ≤ n) := by
  simp only [beq_eq_false_iff_ne]
  omega
noncomputable def termB (kind : Int) (key : ByteArray) (vals : List (List D)) : Bool :=
  namesB vals && Ye.v key && ((kind == 1 || kind == 2) && (vals.length : Int) == 1 || kind == 3 && (decide ((vals.length : Int) ≥ 1) && decide ((vals.length : Int) ≤ 6)) || (kind == 4 || kind == 5) && (vals.length : Int) == 0)
set_option maxRecDepth 100000 in
theorem l2Term_v {kind : Int} {key : ByteArray} {vals : List (List D)} (gk : key.size ≤ lim) (g : Zi RS lim vals) {k : Nat} (hk : Z3 k) : YB.t k kind key vals = some (termB kind key vals) := by
  have hl := g.1
  have hlim : lim = 1048576 := rfl
  have hb : big = 2 ^ 64 := rfl
  unfold YB.t YB.g
  rw [Zb6 (n := vals.length) (fun i => Ye.v (gS vals (i : Int) 0) && (!decide ((i : Int) > 0) || ZbO (gS vals ((i : Int) - 1) 0) (gS vals (i : Int) 0))) (r1 := some false)
    (r2 := some (Ye.v key && ((kind == 1 || kind == 2) && (vals.length : Int) == 1 || kind == 3 && (decide ((vals.length : Int) ≥ 1) && decide ((vals.length : Int) ≤ 6)) || (kind == 4 || kind == 5) && (vals.length : Int) == 0))) (by unfold Z3 at hk; omega)]
  · unfold termB namesB
    generalize List.all _ _ = x
    cases x
    · rfl
    · simp
  · intro L i hi
    have k0 := (RS.get g (v := (i : Int)) (by omega) (by omega)).2.1
    simp (disch := omega) only [YB.l0, atR, rdQ, Q.ask, ZQ (show (i : Int) < vals.length by omega), cond_true, RS.row g, ZY, Zaj, Z6, Ye.fv k0 hk, Zj]
    by_cases h0 : (i : Int) > 0
    · simp (disch := omega) only [ZQ h0, cond_true, RS.row g, ZY, Zaj, Z6]
      cases Ye.v (gS vals (i : Int) 0) <;> cases ZbO (gS vals ((i : Int) - 1) 0) (gS vals (i : Int) 0) <;> rfl
    · simp only [ZV h0, cond_false]
      cases Ye.v (gS vals (i : Int) 0) <;> rfl
  · intro L
    simp only [YB.l0, atR, rdQ, Q.ask, ZV (show ¬ (vals.length : Int) < vals.length by omega), cond_false, Ye.fv gk hk, l1In_f, ge_iff_le]
    cases Ye.v key
    · rfl
    · rcases ZaA kind with rfl | rfl | rfl | rfl | rfl | ⟨e1, e2, e3, e4, e5⟩
      all_goals first | (simp only [e1, e2, e3, e4, e5]; simp; done) | (by_cases h7 : 1 ≤ (vals.length : Int) <;> simp [h7]; done)
theorem termOk_v {kind : Int} {key : ByteArray} {vals : List (List D)} (gk : key.size ≤ lim) (g : Zi RS lim vals) {k : Nat} (hk : Z3 k) : Y2.t k kind key vals = some (termB kind key vals) := by
  unfold Y2.t Y2.g termB
  simp only [Y8, Ye.fv gk hk, namesOk_fv g hk]
  rcases ZaA kind with rfl | rfl | rfl | rfl | rfl | ⟨e1, e2, e3, e4, e5⟩
  all_goals cases Ye.v key <;> cases namesB vals <;> rcases lens (vals.length : Int) (by omega) with h7 | h7 | ⟨h7, h8, h9⟩ <;> (try simp only [e1, e2, e3, e4, e5]) <;> (first | (simp [h7]; done) | simp [h7, h8, h9])
noncomputable def termsB (a : List (List D)) : Bool := (List.range a.length).all fun i => termB (gI a (i : Int) 0) (gS a (i : Int) 1) (gL a (i : Int) 2)
set_option maxRecDepth 100000 in
theorem SelectorOk_v {a : List (List D)} (g : Zi Y1 lim a) {k : Nat} (hk : Z3 k) : Yf.t k a = some (termsB a && decide ((a.length : Int) ≤ 8)) := by
  have hl := g.1
  have hlim : lim = 1048576 := rfl
  have hb : big = 2 ^ 64 := rfl
  unfold Yf.t Yf.g
  rw [Zb6 (n := a.length) (fun i => termB (gI a (i : Int) 0) (gS a (i : Int) 1) (gL a (i : Int) 2)) (r1 := some false) (r2 := some (decide ((a.length : Int) ≤ 8))) (by unfold Z3 at hk; omega)]
  · unfold termsB
    generalize List.all _ _ = x
    cases x <;> rfl
  · intro L i hi
    obtain ⟨-, k0, k1, k2, -⟩ := Y1.get g (v := (i : Int)) (by omega) (by omega)
    simp (disch := omega) only [Yf.l0, atR, rdQ, Q.ask, ZQ (show (i : Int) < a.length by omega), cond_true, Y1.row g, ZY, Zaj, Zad, Za7, Z6, YB.f_of (l2Term_v k1 k2 hk), Zj]
    cases termB (gI a (i : Int) 0) (gS a (i : Int) 1) (gL a (i : Int) 2) <;> rfl
  · intro L
    simp [Yf.l0, atR, rdQ, Q.ask]
set_option maxRecDepth 100000 in
theorem SelectorOk_impl {a : List (List D)} (g : Zi Y1 lim a) {k : Nat} (hk : Z3 k) : YJ.t k a = some (termsB a && decide ((a.length : Int) ≤ 8)) := by
  have hl := g.1
  have hlim : lim = 1048576 := rfl
  have hb : big = 2 ^ 64 := rfl
  have hf : ∀ {β : Type} (K : Int → Option β), Ya.f k a K = K (Zbo (fun i => !termB (gI a (i : Int) 0) (gS a (i : Int) 1) (gL a (i : Int) 2)) a.length) := fun K => Ya.f_of (by
    unfold Ya.t Ya.g
    refine iter_findI (n := a.length) _ some (by unfold Z3 at hk; omega) (fun L i hi => ?_) (fun L => by simp [Ya.l0, atR, rdQ, Q.ask])
    obtain ⟨-, k0, k1, k2, -⟩ := Y1.get g (v := (i : Int)) (by omega) (by omega)
    have hs : ∀ {β : Type} (K : Bool → Option β), YN.f k (gI a (i : Int) 0) (gS a (i : Int) 1) (gL a (i : Int) 2) K = K (!termB (gI a (i : Int) 0) (gS a (i : Int) 1) (gL a (i : Int) 2)) := fun K => YN.f_of (by unfold YN.t YN.g; rw [Y2.f_of (termOk_v k1 k2 hk)]) K
    simp (disch := omega) only [Ya.l0, atR, rdQ, Q.ask, ZQ (show (i : Int) < a.length by omega), cond_true, Y1.row g, ZY, Zaj, Zad, Za7, Z6, hs, Zj]) K
  unfold YJ.t YJ.g
  have hc : ∀ {β : Type} (K : Bool → Option β), Yg.f k a K = K (!termsB a) := fun K => Yg.f_of (by
    unfold Yg.t Yg.g
    rw [hf, findI_all]
    simp only [Bool.not_not, termsB]) K
  rw [hc]
  by_cases h8 : (a.length : Int) ≤ 8 <;> simp [h8]
theorem Yad {a : List (List D)} (g : Zi Y1 lim a) {k : Nat} (hk : Z3 k) {β : Type} (K : Bool → Option β) : YJ.f k a K = Yf.f k a K := by
  rw [YJ.f_of (SelectorOk_impl g hk), Yf.f_of (SelectorOk_v g hk)]
theorem nameAny_ex {b : List (List D)} {i h : Int} {k : Nat} (c : Cur b i) : ∃ s i' h', s.size ≤ lim ∧ Cur b i' ∧ YK.t k b i h = some (s, b, i', h') := by
  unfold YK.t YK.g
  obtain ⟨x, i1, h1, hc1, e1⟩ := Yab (k := k) (h := h) (n := 8) c
  rw [Yz.f_of e1]
  cases x
  · obtain ⟨s, i2, h2, gs, hc2, e2⟩ := name_ex (k := k) (h := h1) hc1
    rw [cond_false, YH.f_of e2]
    exact ⟨_, _, _, gs, hc2, rfl⟩
  · have hstr : ∀ r ∈ ([[.str (⟨#[]⟩ : ByteArray)], [.str (⟨#[45, 97]⟩ : ByteArray)], [.str (⟨#[97, 45]⟩ : ByteArray)], [.str (⟨#[65]⟩ : ByteArray)], [.str (⟨#[97, 32, 98]⟩ : ByteArray)], [.str (⟨#[97, 98, 99, 100, 101, 102, 103, 104, 105, 106, 107, 108, 109, 110, 111, 112, 113, 114, 115, 116, 117]⟩ : ByteArray)], [.str (⟨#[255]⟩ : ByteArray)], [.str (⟨#[97, 61, 98]⟩ : ByteArray)]] : List (List D)), RS lim r := by
      intro r hr
      simp only [List.mem_cons, List.not_mem_nil, or_false] at hr
      rcases hr with rfl | rfl | rfl | rfl | rfl | rfl | rfl | rfl <;> exact ⟨_, rfl, by decide, trivial⟩
    obtain ⟨j, i2, h2, j0, j1, hc2, e2⟩ := str_ex (k := k) (h := h1) hc1 hstr (by decide)
    rw [cond_true, YY.f_of e2]
    exact ⟨_, _, _, (RS.gets hstr j0 j1).2.1, hc2, rfl⟩
def TR (n : Nat) (c : List C) : Prop := ∃ (x : Int) (y : ByteArray) (vs : List (List D)), c = [.d (.int .i64 x), .d (.str y), .own (vs.map (·.map C.d))] ∧ (Lit.int .i64 x).wf = true ∧ y.size ≤ lim ∧ (∀ r ∈ vs, RS lim r) ∧ vs.length ≤ n
theorem TR.row {n : Nat} (hn : n ≤ 1000) : ∀ {ts : List (List C)}, (∀ c ∈ ts, TR n c) → (∀ r ∈ C.immRows ts, Y1 lim r) ∧ (C.immRows ts).length = ts.length
  | [], _ => ⟨by intro r hr; simp [C.immRows] at hr, rfl⟩
  | c :: ts, h => by
    obtain ⟨h1, h2⟩ := TR.row hn (ts := ts) fun c hc => h c (by simp [hc])
    obtain ⟨x, y, vs, rfl, a1, a2, a3, a4⟩ := h c (by simp)
    refine ⟨fun r hr => ?_, by simp only [C.immRows, List.length_cons, h2]⟩
    simp only [C.immRows, List.mem_cons] at hr
    rcases hr with rfl | hr
    · refine ⟨x, y, vs, ?_, a1, a2, ⟨Nat.le_trans a4 (Nat.le_trans hn (by decide)), a3⟩, trivial⟩
      simp only [C.immCells, C.imm, imm_rows]
    · exact h1 r hr
theorem TR.mono {n m : Nat} (hnm : n ≤ m) {c : List C} (h : TR n c) : TR m c := by
  obtain ⟨a, y, vs, rfl, a1, a2, a3, a4⟩ := h
  exact ⟨a, y, vs, rfl, a1, a2, a3, Nat.le_trans a4 hnm⟩
theorem TR.sl {n : Nat} (hn : n ≤ 1000) {ts : List (List C)} (h : ∀ c ∈ ts, TR n c) (hl : ts.length ≤ 1000) : Zi Y1 lim (C.immRows ts) := ⟨by rw [(TR.row hn h).2]; exact Nat.le_trans hl (by decide), (TR.row hn h).1⟩
theorem termLoop {k : Nat} (hk : Z3 k) {b l : List (List D)} {i h kind x0 : Int} {s0 key : ByteArray} (hl : ∀ r ∈ l, RSS lim r) (hll : l.length ≤ 5) {β : Type} (K : Int → ByteArray → List (List C) → List (List D) → Int → Int → Option β) : ∃ vs : List (List D), (∀ r ∈ vs, RS lim r) ∧ vs.length ≤ 5 ∧ Zo (Yn.l1 k b i h x0 s0 kind key (l.map (·.map C.d)) K) k (0, []) = K kind key (vs.map (·.map C.d)) b i h := by
  have hb : big = 2 ^ 64 := rfl
  have hm : ZN = 2 ^ 36 := rfl
  refine iter_ex (fun v => 5 - v.1.toNat) (fun v => 0 ≤ v.1 ∧ v.1 ≤ (l.length : Int) ∧ ∃ o : List (List D), v.2 = o.map (·.map C.d) ∧ (∀ r ∈ o, RS lim r) ∧ (o.length : Int) = v.1) (fun o => ∃ vs : List (List D), (∀ r ∈ vs, RS lim r) ∧ vs.length ≤ 5 ∧ o = K kind key (vs.map (·.map C.d)) b i h) ?_ ⟨by simp, by simp, [], rfl, by simp, by simp⟩ (by show 5 - 0 < k; unfold Z3 at hk; omega)
  rintro ⟨n, out⟩ ⟨n0, n1, o, e, ho, hlen⟩ L hL
  simp only at n0 n1 e hlen
  subst e
  by_cases hn : n < (l.length : Int)
  · have hr := RSS.gets hl n0 hn
    simp only [Yn.l1, map_len, ZQ hn, cond_true, ZaP (show (0 : Int) ≤ n ∧ n < (l.length : Int) from ⟨n0, hn⟩), atNat_up n0 hn, hr.1, List.map_cons, List.map_nil, List.drop_zero, ZY, cD_at, Zaj, List.length_singleton, Zj (show -9223372036854775808 ≤ n + 1 by omega) (show n + 1 ≤ 9223372036854775807 by omega)]
    rw [ZaP (by omega)]
    exact hL _ ⟨by show 0 ≤ n + 1; omega, by show n + 1 ≤ (l.length : Int); omega, o ++ [[.str (gS l n 0)]], by rw [List.map_append]; rfl, Y7 ho ⟨_, rfl, hr.2.1, trivial⟩, by rw [List.length_append, List.length_singleton]; show ((o.length + 1 : Nat) : Int) = n + 1; omega⟩ (by show 5 - (n + 1).toNat < 5 - n.toNat; omega)
  · simp only [Yn.l1, map_len, ZV hn, cond_false]
    cases hz : ((o.length : Int) : Int) == 0
    · exact ⟨o, ho, by omega, rfl⟩
    · exact ⟨[[.str (⟨#[97]⟩ : ByteArray)]], fun r hr => by simp only [List.mem_singleton] at hr; subst hr; exact ⟨_, rfl, by decide, trivial⟩, by decide, rfl⟩
theorem tk0 : IntKind.wrap .i64 (1 + 0) = 1 := by decide
theorem tk1 : IntKind.wrap .i64 (1 + 1) = 2 := by decide
theorem tk2 : IntKind.wrap .i64 (1 + 2) = 3 := by decide
theorem tk3 : IntKind.wrap .i64 (1 + 3) = 4 := by decide
theorem tk4 : IntKind.wrap .i64 (1 + 4) = 5 := by decide
def TermD (b : List (List D)) (o : Option (Int × ByteArray × List (List C) × List (List D) × Int × Int)) : Prop :=
  ∃ (x : Int) (y : ByteArray) (vs : List (List D)) (i' h' : Int), (Lit.int .i64 x).wf = true ∧ y.size ≤ lim ∧ (∀ r ∈ vs, RS lim r) ∧ vs.length ≤ 5 ∧ Cur b i' ∧ o = some (x, y, vs.map (·.map C.d), b, i', h')
theorem term_ex {k : Nat} (hk : Z3 k) {b : List (List D)} {i h : Int} (c : Cur b i) : TermD b (Yn.t k b i h) := by
  obtain ⟨x, i1, h1, x0, x1, -, hc1, e1⟩ := Y9 (k := k) (h := h) (n := 5) c
  have x1 := x1 (by decide)
  obtain ⟨s, i2, h2, gs, hc2, e2⟩ := name_ex (k := k) (h := h1) hc1
  unfold Yn.t Yn.g Yn.m
  rw [Yu.f_of e1, YH.f_of e2]
  have hx : x = 0 ∨ x = 1 ∨ x = 2 ∨ x = 3 ∨ x = 4 := by omega
  obtain ⟨s', i3, h3, gs', hc3, e3⟩ := name_ex (k := k) (h := h2) hc2
  have one : ∀ r ∈ ([[.str s']] : List (List D)), RS lim r := fun r hr => by simp only [List.mem_singleton] at hr; subst hr; exact ⟨_, rfl, gs', trivial⟩
  have one_le : ([[.str s']] : List (List D)).length ≤ 5 := by show 1 ≤ 5; decide
  rcases hx with rfl | rfl | rfl | rfl | rfl
  · simp only [tk0, cond_true, cond_false, Int.reduceBEq, YH.f_of e3]
    exact ⟨1, s, [[.str s']], _, _, by decide, gs, one, one_le, hc3, rfl⟩
  · simp only [tk1, cond_true, cond_false, Int.reduceBEq, YH.f_of e3]
    exact ⟨2, s, [[.str s']], _, _, by decide, gs, one, one_le, hc3, rfl⟩
  · obtain ⟨l, i4, h4, gl, ll, hc4, e4⟩ := labels_ex (k := k) (h := h2) (M := 5) hk hc2 (by decide)
    simp only [tk2, cond_true, cond_false, Int.reduceBEq, YD.f_of e4]
    obtain ⟨vs, q1, q2, q3⟩ := termLoop hk (b := b) (i := i4) (h := h4) (kind := 3) (x0 := 0) (s0 := ⟨#[]⟩) (key := s) gl ll (fun z0 z1 z2 z3 z4 z5 => some (z0, z1, z2, z3, z4, z5))
    exact ⟨3, s, vs, _, _, by decide, gs, q1, by omega, hc4, q3⟩
  · simp only [tk3, cond_true, cond_false, Int.reduceBEq]
    exact ⟨4, s, [], _, _, by decide, gs, by simp, by decide, hc2, rfl⟩
  · simp only [tk4, cond_true, cond_false, Int.reduceBEq]
    exact ⟨5, s, [], _, _, by decide, gs, by simp, by decide, hc2, rfl⟩
def TermsD (b : List (List D)) (m n : Nat) (o : Option (List (List C) × List (List D) × Int × Int)) : Prop :=
  ∃ (ts : List (List C)) (i' h' : Int), (∀ c ∈ ts, TR m c) ∧ ts.length ≤ n ∧ Cur b i' ∧ o = some (ts, b, i', h')
theorem terms_ex {k : Nat} (hk : Z3 k) {b : List (List D)} {i h M : Int} (c : Cur b i) (hM : M ≤ 100) : TermsD b 5 M.toNat (YF.t k b i h M) := by
  have hb : big = 2 ^ 64 := rfl
  have hm : ZN = 2 ^ 36 := rfl
  unfold YF.t YF.g
  obtain ⟨x, i1, h1, x0, x1, x2, hc1, e1⟩ := Y9 (k := k) (h := h) (n := M) c
  rw [Yu.f_of e1]
  refine iter_ex (fun v => v.1.toNat) (fun v => 0 ≤ v.1 ∧ v.2.1 = b ∧ Cur b v.2.2.1 ∧ (∀ c ∈ v.2.2.2.2, TR 5 c) ∧ (v.2.2.2.2.length : Int) + v.1 ≤ M.toNat) (TermsD b 5 M.toNat) ?_ (v := (x, b, i1, h1, [])) ⟨x0, rfl, hc1, by simp, by simp; omega⟩ (by unfold Z3 at hk; show x.toNat < k; omega)
  rintro ⟨n, b', i, h, out⟩ ⟨n0, eb, hc, ho, hlen⟩ L hL
  simp only at n0 eb hc ho hlen
  subst eb
  by_cases hn : n > 0
  · obtain ⟨y, s, vs, i2, h2, q0, q1, q2, q3, hc2, e2⟩ := term_ex hk (h := h) hc
    simp only [YF.l0, ZQ hn, cond_true, Yn.f_of e2, List.length_singleton, Zj (show -9223372036854775808 ≤ n - 1 by omega) (show n - 1 ≤ 9223372036854775807 by omega)]
    rw [ZaP (by omega)]
    exact hL _ ⟨by show 0 ≤ n - 1; omega, rfl, hc2, Y7 ho ⟨y, s, vs, rfl, q0, q1, q2, q3⟩, by show ((out ++ _).length : Int) + (n - 1) ≤ _; rw [List.length_append, List.length_singleton]; omega⟩ (by show (n - 1).toNat < n.toNat; omega)
  · simp only [YF.l0, ZV hn, cond_false]
    exact ⟨out, i, h, ho, by omega, hc, rfl⟩
theorem fill_ex {k : Nat} (hk : Z3 k) {b : List (List D)} {i h : Int} {ts : List (List C)} (c : Cur b i) (ht : ∀ c ∈ ts, TR 6 c) (hl : ts.length ≤ 9) : TermsD b 6 9 (Zo (Yd.l0 k (fun z0 z1 z2 z3 => some (z0, z1, z2, z3))) k (b, i, h, ts)) := by
  have hb : big = 2 ^ 64 := rfl
  have hm : ZN = 2 ^ 36 := rfl
  refine iter_ex (fun v => 10 - v.2.2.2.length) (fun v => v.1 = b ∧ Cur b v.2.1 ∧ (∀ c ∈ v.2.2.2, TR 6 c) ∧ v.2.2.2.length ≤ 9) (TermsD b 6 9) ?_ (v := (b, i, h, ts)) ⟨rfl, c, ht, hl⟩ (by unfold Z3 at hk; show 10 - ts.length < k; omega)
  rintro ⟨b', i, h, out⟩ ⟨eb, hc, ho, hlen⟩ L hL
  simp only at eb hc ho hlen
  subst eb
  obtain ⟨x, i1, h1, x0, x1, -, hc1, e1⟩ := Y9 (k := k) (h := h) (n := 2) hc
  have x1 := x1 (by decide)
  simp only [Yd.l0, Yu.f_of e1, Zj (show -9223372036854775808 ≤ 8 + x by omega) (show 8 + x ≤ 9223372036854775807 by omega)]
  by_cases hn : (out.length : Int) < 8 + x
  · rw [ZQ hn, cond_true, ZaP (by rw [List.length_singleton]; omega)]
    exact hL _ ⟨rfl, hc1, Y7 ho ⟨4, ⟨#[97]⟩, [], rfl, by decide, by decide, by simp, by decide⟩, by show (out ++ _).length ≤ 9; rw [List.length_append, List.length_singleton]; omega⟩ (by show 10 - (out ++ _).length < 10 - out.length; rw [List.length_append, List.length_singleton]; omega)
  · rw [ZV hn, cond_false]
    exact ⟨out, i1, h1, ho, hlen, hc1, rfl⟩
theorem fin_ex {k : Nat} (hk : Z3 k) {b : List (List D)} {i h : Int} {ts : List (List C)} (c : Cur b i) (ht : ∀ c ∈ ts, TR 6 c) (hl : ts.length ≤ 9) : TermsD b 6 9 (Yz.f k b i h 40 (fun y11 y12 y13 y14 => bif y11 then Zo (Yd.l0 k (fun z0 z1 z2 z3 => some (z0, z1, z2, z3))) k (y12, y13, y14, ts) else some (ts, y12, y13, y14))) := by
  obtain ⟨x, i1, h1, hc1, e1⟩ := Yab (k := k) (h := h) (n := 40) c
  rw [Yz.f_of e1]
  cases x
  · exact ⟨ts, i1, h1, ht, hl, hc1, rfl⟩
  · exact fill_ex hk hc1 ht hl
theorem TR.kind {x : Int} (hx : (Lit.int .i64 x).wf = true) {n : Nat} (c : List C) (h : TR n c) : TR n (Zq c 0 [.d (.int .i64 x)]) := by
  obtain ⟨a, y, vs, rfl, a1, a2, a3, a4⟩ := h
  exact ⟨x, y, vs, rfl, hx, a2, a3, a4⟩
theorem TR.key {y : ByteArray} (hy : y.size ≤ lim) {n : Nat} (c : List C) (h : TR n c) : TR n (Zq c 1 [.d (.str y)]) := by
  obtain ⟨a, y', vs, rfl, a1, a2, a3, a4⟩ := h
  exact ⟨a, y, vs, rfl, a1, hy, a3, a4⟩
theorem TR.vals {vs : List (List D)} (hv : ∀ r ∈ vs, RS lim r) {n : Nat} (hl : vs.length ≤ n) {m : Nat} (c : List C) (h : TR m c) : TR n (Zq c 2 [.own (vs.map (·.map C.d))]) := by
  obtain ⟨a, y', vs', rfl, a1, a2, a3, a4⟩ := h
  exact ⟨a, y', vs, rfl, a1, a2, hv, hl⟩
theorem termsAny_ex {k : Nat} (hk : Z3 k) {b : List (List D)} {i h : Int} (c : Cur b i) : TermsD b 6 9 (Yd.t k b i h) := by
  have hm : ZN = 2 ^ 36 := rfl
  obtain ⟨ts, i1, h1, ht, hl, hc1, e1⟩ := terms_ex hk (h := h) (M := 5) c (by decide)
  have hl : ts.length ≤ 5 := hl
  have ht5 := ht
  have ht : ∀ c ∈ ts, TR 6 c := fun c hc => (ht5 c hc).mono (by decide)
  unfold Yd.t Yd.g Yd.m
  rw [YF.f_of e1]
  by_cases hz : (ts.length : Int) > 0
  · rw [ZQ hz, cond_true]
    obtain ⟨x, i2, h2, hc2, e2⟩ := Yab (k := k) (h := h1) (n := 5) hc1
    rw [Yz.f_of e2]
    cases x
    · exact fin_ex hk hc2 ht (by omega)
    · simp only [cond_true]
      obtain ⟨p, i3, h3, p0, p1, -, hc3, e3⟩ := Y9 (k := k) (h := h2) (n := (ts.length : Int)) hc2
      have p1 := p1 hz
      obtain ⟨q, i4, h4, q0, q1, -, hc4, e4⟩ := Y9 (k := k) (h := h3) (n := 3) hc3
      have q1 := q1 (by decide)
      rw [Yu.f_of e3, Yu.f_of e4]
      have hq : q = 0 ∨ q = 1 ∨ q = 2 := by omega
      have hp' : (0 : Int) ≤ p ∧ p < (ts.length : Int) := ⟨p0, p1⟩
      have hp2 : Int.toNat p < ts.length := by omega
      rcases hq with rfl | rfl | rfl
      · obtain ⟨z, i5, h5, z0, z1, -, hc5, e5⟩ := Y9 (k := k) (h := h4) (n := 7) hc4
        have z1 := z1 (by decide)
        simp only [cond_true, cond_false, Int.reduceBEq]
        rw [Yu.f_of e5, ZaP hp', ZaP hp2]
        exact fin_ex hk hc5 (mem_modify (TR.kind (wf_of (by omega) (by omega))) ht) (by rw [List.length_modify]; omega)
      · obtain ⟨z, i5, h5, gz, hc5, e5⟩ := nameAny_ex (k := k) (h := h4) hc4
        simp only [cond_true, cond_false, Int.reduceBEq]
        rw [YK.f_of e5, ZaP hp', ZaP hp2]
        exact fin_ex hk hc5 (mem_modify (TR.key gz) ht) (by rw [List.length_modify]; omega)
      · obtain ⟨z, i5, h5, gz, hc5, e5⟩ := nameAny_ex (k := k) (h := h4) hc4
        simp only [cond_true, cond_false, Int.reduceBEq]
        rw [ZaP hp']
        obtain ⟨x', y', vs, er, a1, a2, a3, a4⟩ := ht5 _ (List.getElem_mem hp2)
        unfold ZaG
        rw [List.getElem?_eq_getElem hp2, er]
        simp only [List.drop_succ_cons, List.drop_zero, ZY, C.imm, imm_rows, Za7]
        rw [ZaP (RS.flat a3), ZaP (by simp only [List.length_nil, map_len]; omega), YK.f_of e5, ZaP (by simp only [List.nil_append, map_len, List.length_singleton]; omega), ZaP hp', ZaP hp2]
        have e6 : (([] : List (List C)) ++ (vs.map (·.map C.d))) ++ ([[.d (.str z)]] : List (List C)) = ((vs ++ [[D.str z]] : List (List D)).map (·.map C.d)) := by rw [List.nil_append, List.map_append]; rfl
        simp only [e6]
        exact fin_ex hk hc5 (mem_modify (TR.vals (vs := vs ++ [[D.str z]]) (Y7 a3 ⟨_, rfl, gz, trivial⟩) (n := 6) (by rw [List.length_append, List.length_singleton]; omega) (m := 6)) ht) (by rw [List.length_modify]; omega)
  · rw [ZV hz, cond_false]
    exact fin_ex hk hc1 ht (by omega)
theorem Yk.f_of {β : Type} {k a0 a1 z0} (h : Yk.t k a0 a1 = some z0) (K : Bool → Option β) : Yk.f k a0 a1 K = K z0 := by unfold Yk.f; rw [h]; rfl
theorem Yk.tm {ι α : Type} {ok : ι → Prop} {ψ : α → Prop} {p : ι → Nat} {B : Nat} (hp : ∀ i, ok i → B ≤ p i) {a0 a1 φ} (h : Tm (fun k => B ≤ k) (fun k => Yk.t k a0 a1) φ) {G : ι → Bool → Option α} (hG : ∀ z0, φ z0 → Tm ok (fun i => G i z0) ψ) : Tm ok (fun i => Yk.f (p i) a0 a1 (G i)) ψ := ZK (t := fun k => Yk.t k a0 a1) hp h hG
set_option maxRecDepth 100000 in
theorem Yk.T {a0 : List (List D)} {a1 : Int} (ga0 : Zi RS lim a0) : Tm Z3 (fun k => Yk.t k a0 a1) (fun _ => True) := by
  unfold Yk.t Yk.g
  have hm := Zy
  have hlim : lim = 1048576 := rfl
  have la0 := ga0.1
  refine Tm.loop (okk := Z3) (p := fun k => k) (fun i hi => hi) (b := fun k => Yk.l0 k a0 a1 (fun z0 => some z0)) (fun i => (((a0.length : Int)) - i).toNat) (fun i => 0 ≤ i ∧ i ≤ (a0.length : Int)) ?_ ?_ ?_
  · rintro i hI
    try simp only [] at hI ⊢
    have : big = 2 ^ 64 := rfl
    omega
  · ((try simp only []); omega)
  · rintro i hI L hL
    try simp only [] at hI
    obtain ⟨i0, i1⟩ := hI
    simp only [Yk.l0, atR, rdQ, Q.ask]
    refine Tm.ite (fun h1 => ?_) (fun h1 => ?_)
    · try simp only [bz0, bz1, bz2, bz3, bz4, bz5, bz6, bz7, bz8, bz9, bza] at h1
      refine Tm.atRow (by first | assumption | omega) (by first | assumption | omega) (fun x2 hx3 hm4 => ?_)
      obtain ⟨c5, rfl, g6, _⟩ := (ga0.2 x2 hm4).open
      refine Tm.uncons ?_
      refine Tm.dStr ?_
      refine Tm.atEnd ?_
      refine Ye.tm (fun i hi => hi.1) (Ye.T (by first | assumption | omega)) (fun y8 hy7 => ?_)
      refine Tm.ite (fun h9 => ?_) (fun h9 => ?_)
      · try simp only [bz0, bz1, bz2, bz3, bz4, bz5, bz6, bz7, bz8, bz9, bza] at h9
        exact Tm.ret (by trivial)
      · try simp only [bz0, bz1, bz2, bz3, bz4, bz5, bz6, bz7, bz8, bz9, bza] at h9
        refine Tm.ite (fun h10 => ?_) (fun h10 => ?_)
        · try simp only [bz0, bz1, bz2, bz3, bz4, bz5, bz6, bz7, bz8, bz9, bza] at h10
          try rw [Zj (x := i - 1) (by omega) (by omega)]
          refine Tm.atRow (by first | assumption | omega) (by first | assumption | omega) (fun x11 hx12 hm13 => ?_)
          obtain ⟨c14, rfl, g15, _⟩ := (ga0.2 x11 hm13).open
          refine Tm.uncons ?_
          refine Tm.dStr ?_
          refine Tm.atEnd ?_
          refine Tm.atRow (by first | assumption | omega) (by first | assumption | omega) (fun x16 hx17 hm18 => ?_)
          rw [hx3] at hx17
          injection hx17 with hx17
          subst hx17
          refine Tm.uncons ?_
          refine Tm.dStr ?_
          refine Tm.atEnd ?_
          refine Tm.ite (fun h20 => ?_) (fun h20 => ?_)
          · try simp only [bz0, bz1, bz2, bz3, bz4, bz5, bz6, bz7, bz8, bz9, bza] at h20
            exact Tm.ret (by trivial)
          · try simp only [bz0, bz1, bz2, bz3, bz4, bz5, bz6, bz7, bz8, bz9, bza] at h20
            try rw [Zj (x := i + 1) (by omega) (by omega)]
            exact hL _ (by (try simp only []); omega) (by (try simp only []); omega)
        · try simp only [bz0, bz1, bz2, bz3, bz4, bz5, bz6, bz7, bz8, bz9, bza] at h10
          try rw [Zj (x := i + 1) (by omega) (by omega)]
          exact hL _ (by (try simp only []); omega) (by (try simp only []); omega)
    · try simp only [bz0, bz1, bz2, bz3, bz4, bz5, bz6, bz7, bz8, bz9, bza] at h1
      exact Tm.ret (by trivial)
noncomputable def Yk.v (a0 : List (List D)) (a1 : Int) : Bool := (Yk.t big a0 a1).getD default
theorem Yk.tv {a0 : List (List D)} {a1 : Int} (ga0 : Zi RS lim a0) {k : Nat} (hk : Z3 k) : Yk.t k a0 a1 = some (Yk.v a0 a1) := (Yk.T ga0).val hk
theorem Yk.fv {a0 : List (List D)} {a1 : Int} (ga0 : Zi RS lim a0) {k : Nat} (hk : Z3 k) {β : Type} (K : Bool → Option β) : Yk.f k a0 a1 K = K (Yk.v a0 a1) := Yk.f_of (Yk.tv ga0 hk) K
set_option maxRecDepth 100000 in
theorem l10Names_v {a : List (List D)} {n : Int} (g : Zi RS lim a) {k : Nat} (hk : Z3 k) : Yk.t k a n = some (namesB a && decide ((a.length : Int) ≤ n)) := by
  have hl := g.1
  have hlim : lim = 1048576 := rfl
  have hb : big = 2 ^ 64 := rfl
  unfold Yk.t Yk.g
  rw [Zb6 (n := a.length) (fun i => Ye.v (gS a (i : Int) 0) && (!decide ((i : Int) > 0) || ZbO (gS a ((i : Int) - 1) 0) (gS a (i : Int) 0))) (r1 := some false) (r2 := some (decide ((a.length : Int) ≤ n))) (by unfold Z3 at hk; omega)]
  · unfold namesB
    generalize List.all _ _ = x
    cases x <;> rfl
  · intro L i hi
    have k0 := (RS.get g (v := (i : Int)) (by omega) (by omega)).2.1
    simp (disch := omega) only [Yk.l0, atR, rdQ, Q.ask, ZQ (show (i : Int) < a.length by omega), cond_true, RS.row g, ZY, Zaj, Z6, Ye.fv k0 hk, Zj]
    by_cases h0 : (i : Int) > 0
    · simp (disch := omega) only [ZQ h0, cond_true, RS.row g, ZY, Zaj, Z6]
      cases Ye.v (gS a (i : Int) 0) <;> cases ZbO (gS a ((i : Int) - 1) 0) (gS a (i : Int) 0) <;> rfl
    · simp only [ZV h0, cond_false]
      cases Ye.v (gS a (i : Int) 0) <;> rfl
  · intro L
    simp [Yk.l0, atR, rdQ, Q.ask]
set_option maxRecDepth 100000 in
theorem Ys.same {k : Nat} {a : List (List D)} {n : Int} (g : Zi RS lim a) : Ys.t k a n = Yk.t k a n := by
  unfold Ys.t Yk.t Ys.g Yk.g
  congr 1
  funext L v
  simp only [Ys.l0, atR, rdQ, Q.ask, Yk.l0, atR, rdQ, Q.ask, Y8]
  refine bif_congr (fun h => ?_) (fun _ => rfl)
  by_cases h0 : 0 ≤ v ∧ v < a.length
  · have hl : v.toNat < a.length := by omega
    obtain ⟨s0, hs, _⟩ := g.2 _ (List.getElem_mem hl)
    have hr := fun F => atRow_get (β := Bool) h0.1 (by rw [← hs]; simp [hl] : a[v.toNat]? = some [.str s0]) F
    simp only [hr, Zas, dStr, atEnd]
  · simp only [atRow_none h0]
theorem Yo.f_of {β : Type} {k aB aC aA aH z0} (h : Yo.t k aB aC aA aH = some z0) (K : Bool → Option β) : Yo.f k aB aC aA aH K = K z0 := by unfold Yo.f; rw [h]; rfl
def RSI (B : Nat) (r : List D) : Prop := ∃ (c0 : ByteArray) (c1 : Int), r = [.str c0, .int .i64 c1] ∧ c0.size ≤ B ∧ (Lit.int .i64 c1).wf = true ∧ True
theorem RSI.open {B : Nat} {r : List D} (h : RSI B r) : ∃ (c0 : ByteArray) (c1 : Int), r = [.str c0, .int .i64 c1] ∧ c0.size ≤ B ∧ (Lit.int .i64 c1).wf = true ∧ True := h
theorem RSI.mono {B B' : Nat} (hb : B ≤ B') {r : List D} (h : RSI B r) : RSI B' r := by
  obtain ⟨c0, c1, rfl, k0, k1, _⟩ := h
  exact ⟨_, _, rfl, (Nat.le_trans k0 hb), k1, trivial⟩
theorem RSI.wide {xs : List (List D)} (h : Zi RSI lim xs) : Zi RSI 2097152 xs := ⟨Nat.le_trans h.1 (by decide), fun r hr => (h.2 r hr).mono (by decide)⟩
theorem RSI.len {B : Nat} {r : List D} (h : RSI B r) : r.length = 2 := by
  obtain ⟨c0, c1, rfl, _⟩ := h.open
  rfl
theorem RSI.flat {B : Nat} {xs : List (List D)} (h : ∀ r ∈ xs, RSI B r) : ZaZ 2 xs := fun r hr => by
  obtain ⟨c0, c1, rfl, _⟩ := (h r hr).open
  exact ⟨rfl, by simp [Zau]⟩
theorem RSI.wt {B : Nat} {xs : List (List D)} (h : ∀ r ∈ xs, RSI B r) : Zp xs = 2 * xs.length := wt_flat (R := RSI B) (fun r h => by obtain ⟨c0, c1, rfl, _⟩ := h; rfl) xs h
theorem RSI.deep {B : Nat} {xs : List (List D)} (h : ∀ r ∈ xs, RSI B r) : Zb xs = xs.map (·.map C.d) := deep_flat (R := RSI B) (fun r h => by obtain ⟨c0, c1, rfl, _⟩ := h; rfl) xs h
theorem RSI.gets {B : Nat} {xs : List (List D)} (h : ∀ r ∈ xs, RSI B r) {v : Int} (h0 : 0 ≤ v) (h1 : v < xs.length) : gR xs v = [.str (gS xs v 0), .int .i64 (gI xs v 1)] ∧ (gS xs v 0).size ≤ B ∧ (Lit.int .i64 (gI xs v 1)).wf = true ∧ True := by
  obtain ⟨c0, c1, e, k0, k1, _⟩ := (h (gR xs v) (gR_mem h0 h1)).open
  unfold gI gS
  rw [e]
  exact ⟨rfl, k0, k1, trivial⟩
theorem RSI.rows {B : Nat} {xs : List (List D)} (h : ∀ r ∈ xs, RSI B r) {v : Int} (h0 : 0 ≤ v) (h1 : v < xs.length) {β : Type} (F : List D → Option β) : Zbw xs v F = F [.str (gS xs v 0), .int .i64 (gI xs v 1)] := by
  rw [← (RSI.gets h h0 h1).1]
  exact Zbp h0 h1 F
theorem RSI.get {B : Nat} {xs : List (List D)} (h : Zi RSI B xs) {v : Int} (h0 : 0 ≤ v) (h1 : v < xs.length) : gR xs v = [.str (gS xs v 0), .int .i64 (gI xs v 1)] ∧ (gS xs v 0).size ≤ B ∧ (Lit.int .i64 (gI xs v 1)).wf = true ∧ True := RSI.gets h.2 h0 h1
theorem RSI.row {B : Nat} {xs : List (List D)} (h : Zi RSI B xs) {v : Int} (h0 : 0 ≤ v) (h1 : v < xs.length) {β : Type} (F : List D → Option β) : Zbw xs v F = F [.str (gS xs v 0), .int .i64 (gI xs v 1)] := RSI.rows h.2 h0 h1 F
set_option maxRecDepth 100000 in
theorem Yo.T {aB : Int} {aC aA aH : List (List D)} (ga0_1 : Zi Y1 lim aC) (ga0_2 : Zi RS lim aA) (ga0_3 : Zi RSI lim aH) : Tm Z3 (fun k => Yo.t k aB aC aA aH) (fun _ => True) := by
  unfold Yo.t Yo.g
  have hm := Zy
  have hlim : lim = 1048576 := rfl
  have la0_1 := ga0_1.1
  have la0_2 := ga0_2.1
  have la0_3 := ga0_3.1
  refine Tm.loop (okk := Z3) (p := fun k => k) (fun i hi => hi) (b := fun k => Yo.l0 k aB aC aA aH (fun z0 => some z0)) (fun i => (((aH.length : Int)) - i).toNat) (fun i => 0 ≤ i ∧ i ≤ (aH.length : Int)) ?_ ?_ ?_
  · rintro i hI
    try simp only [] at hI ⊢
    have : big = 2 ^ 64 := rfl
    omega
  · ((try simp only []); omega)
  · rintro i hI L hL
    try simp only [] at hI
    obtain ⟨i0, i1⟩ := hI
    simp only [Yo.l0, atR, rdQ, Q.ask]
    refine Tm.ite (fun h1 => ?_) (fun h1 => ?_)
    · try simp only [bz0, bz1, bz2, bz3, bz4, bz5, bz6, bz7, bz8, bz9, bza] at h1
      refine Tm.atRow (by first | assumption | omega) (by first | assumption | omega) (fun x2 hx3 hm4 => ?_)
      obtain ⟨c5, c6, rfl, g7, g8, _⟩ := (ga0_3.2 x2 hm4).open
      refine Tm.uncons ?_
      refine Tm.dStr ?_
      refine Tm.uncons ?_
      refine Tm.dInt ?_
      refine Tm.atEnd ?_
      refine Ye.tm (fun i hi => hi.1) (Ye.T (by first | assumption | omega)) (fun y10 hy9 => ?_)
      refine Tm.ite (fun h11 => ?_) (fun h11 => ?_)
      · try simp only [bz0, bz1, bz2, bz3, bz4, bz5, bz6, bz7, bz8, bz9, bza] at h11
        exact Tm.ret (by trivial)
      · try simp only [bz0, bz1, bz2, bz3, bz4, bz5, bz6, bz7, bz8, bz9, bza] at h11
        refine Tm.atRow (by first | assumption | omega) (by first | assumption | omega) (fun x12 hx13 hm14 => ?_)
        rw [hx3] at hx13
        injection hx13 with hx13
        subst hx13
        refine Tm.uncons ?_
        refine Tm.dStr ?_
        refine Tm.uncons ?_
        refine Tm.dInt ?_
        refine Tm.atEnd ?_
        refine YE.tm (fun i hi => hi.1) (YE.T) (fun y18 hy17 => ?_)
        refine Tm.ite (fun h19 => ?_) (fun h19 => ?_)
        · try simp only [bz0, bz1, bz2, bz3, bz4, bz5, bz6, bz7, bz8, bz9, bza] at h19
          exact Tm.ret (by trivial)
        · try simp only [bz0, bz1, bz2, bz3, bz4, bz5, bz6, bz7, bz8, bz9, bza] at h19
          have z20 := hy17 h19
          refine Tm.ite (fun h21 => ?_) (fun h21 => ?_)
          · try simp only [bz0, bz1, bz2, bz3, bz4, bz5, bz6, bz7, bz8, bz9, bza] at h21
            try rw [Zj (x := i - 1) (by omega) (by omega)]
            refine Tm.atRow (by first | assumption | omega) (by first | assumption | omega) (fun x22 hx23 hm24 => ?_)
            obtain ⟨c25, c26, rfl, g27, g28, _⟩ := (ga0_3.2 x22 hm24).open
            refine Tm.uncons ?_
            refine Tm.dStr ?_
            refine Tm.uncons ?_
            refine Tm.dInt ?_
            refine Tm.atEnd ?_
            refine Tm.atRow (by first | assumption | omega) (by first | assumption | omega) (fun x29 hx30 hm31 => ?_)
            rw [hx3] at hx30
            injection hx30 with hx30
            subst hx30
            refine Tm.uncons ?_
            refine Tm.dStr ?_
            refine Tm.uncons ?_
            refine Tm.dInt ?_
            refine Tm.atEnd ?_
            refine Tm.ite (fun h34 => ?_) (fun h34 => ?_)
            · try simp only [bz0, bz1, bz2, bz3, bz4, bz5, bz6, bz7, bz8, bz9, bza] at h34
              exact Tm.ret (by trivial)
            · try simp only [bz0, bz1, bz2, bz3, bz4, bz5, bz6, bz7, bz8, bz9, bza] at h34
              try rw [Zj (x := i + 1) (by omega) (by omega)]
              exact hL _ (by (try simp only []); omega) (by (try simp only []); omega)
          · try simp only [bz0, bz1, bz2, bz3, bz4, bz5, bz6, bz7, bz8, bz9, bza] at h21
            try rw [Zj (x := i + 1) (by omega) (by omega)]
            exact hL _ (by (try simp only []); omega) (by (try simp only []); omega)
    · try simp only [bz0, bz1, bz2, bz3, bz4, bz5, bz6, bz7, bz8, bz9, bza] at h1
      refine YE.tm (fun i hi => hi.1) (YE.T) (fun y36 hy35 => ?_)
      refine Tm.ite (fun h37 => ?_) (fun h37 => ?_)
      · try simp only [bz0, bz1, bz2, bz3, bz4, bz5, bz6, bz7, bz8, bz9, bza] at h37
        have z38 := hy35 h37
        refine Yf.tm (fun i hi => hi.1) (Yf.T (by first | assumption | omega)) (fun y40 hy39 => ?_)
        refine Tm.ite (fun h41 => ?_) (fun h41 => ?_)
        · try simp only [bz0, bz1, bz2, bz3, bz4, bz5, bz6, bz7, bz8, bz9, bza] at h41
          refine Yk.tm (fun i hi => hi.1) (Yk.T (by first | assumption | omega)) (fun y43 hy42 => ?_)
          refine Tm.ite (fun h44 => ?_) (fun h44 => ?_)
          · try simp only [bz0, bz1, bz2, bz3, bz4, bz5, bz6, bz7, bz8, bz9, bza] at h44
            exact Tm.ret (by trivial)
          · try simp only [bz0, bz1, bz2, bz3, bz4, bz5, bz6, bz7, bz8, bz9, bza] at h44
            exact Tm.ret (by trivial)
        · try simp only [bz0, bz1, bz2, bz3, bz4, bz5, bz6, bz7, bz8, bz9, bza] at h41
          exact Tm.ret (by trivial)
      · try simp only [bz0, bz1, bz2, bz3, bz4, bz5, bz6, bz7, bz8, bz9, bza] at h37
        exact Tm.ret (by trivial)
noncomputable def Yo.v (aB : Int) (aC aA aH : List (List D)) : Bool := (Yo.t big aB aC aA aH).getD default
theorem Yo.tv {aB : Int} {aC aA aH : List (List D)} (ga0_1 : Zi Y1 lim aC) (ga0_2 : Zi RS lim aA) (ga0_3 : Zi RSI lim aH) {k : Nat} (hk : Z3 k) : Yo.t k aB aC aA aH = some (Yo.v aB aC aA aH) := (Yo.T ga0_1 ga0_2 ga0_3).val hk
theorem Yo.fv {aB : Int} {aC aA aH : List (List D)} (ga0_1 : Zi Y1 lim aC) (ga0_2 : Zi RS lim aA) (ga0_3 : Zi RSI lim aH) {k : Nat} (hk : Z3 k) {β : Type} (K : Bool → Option β) : Yo.f k aB aC aA aH K = K (Yo.v aB aC aA aH) := Yo.f_of (Yo.tv ga0_1 ga0_2 ga0_3 hk) K
set_option maxRecDepth 100000 in
theorem YG.same {aB : Int} {aC aA aH : List (List D)} (g0 : Zi Y1 lim aC) (g1 : Zi RS lim aA) (g2 : Zi RSI lim aH) {k : Nat} (hk : Z3 k) : YG.t k aB aC aA aH = Yo.t k aB aC aA aH := by
  have hl := g2.1
  have hlim : lim = 1048576 := rfl
  unfold YG.t Yo.t YG.g Yo.g
  congr 1
  funext L v
  simp only [YG.l0, atR, rdQ, Q.ask, Yo.l0, atR, rdQ, Q.ask, Y8, within_f, l1In_f, isCopies_f, Yad g0 hk]
  refine bif_congr (fun h => ?_) (fun _ => ?_)
  · by_cases h0 : 0 ≤ v ∧ v < aH.length
    · obtain ⟨h0, h1⟩ := h0
      simp (disch := omega) only [RSI.row g2, ZY, Zaj, Zad, Z6]
    · simp only [atRow_none h0]
  · unfold Ys.f Yk.f
    simp only [Ys.same g1]
def WD (b : List (List D)) (Bd : List (List D) → Prop) (m n w : Nat) (o : Option (Int × List (List C) × List (List C) × List (List C) × List (List D) × Int × Int)) : Prop :=
  ∃ (x : Int) (ts : List (List C)) (bs ws : List (List D)) (i' h' : Int), (Lit.int .i64 x).wf = true ∧ (∀ c ∈ ts, TR m c) ∧ ts.length ≤ n ∧ Bd bs ∧ (∀ r ∈ ws, RSI lim r) ∧ ws.length ≤ w ∧ Cur b i' ∧ o = some (x, ts, bs.map (·.map C.d), ws.map (·.map C.d), b, i', h')
def Bears (bs : List (List D)) : Prop := bs = [] ∨ bs = [[.str (⟨#[103, 111, 108, 100]⟩ : ByteArray)], [.str (⟨#[116, 105, 101, 114]⟩ : ByteArray)]] ∨ bs = [[.str (⟨#[98]⟩ : ByteArray)], [.str (⟨#[97]⟩ : ByteArray)]]
theorem Bears.sl {bs : List (List D)} (h : Bears bs) : Zi RS lim bs := by
  rcases h with rfl | rfl | rfl
  · exact ⟨by decide, by simp⟩
  · refine ⟨by show 2 ≤ lim; decide, fun r hr => ?_⟩
    simp only [List.mem_cons, List.not_mem_nil, or_false] at hr
    rcases hr with rfl | rfl <;> exact ⟨_, rfl, by decide, trivial⟩
  · refine ⟨by show 2 ≤ lim; decide, fun r hr => ?_⟩
    simp only [List.mem_cons, List.not_mem_nil, or_false] at hr
    rcases hr with rfl | rfl <;> exact ⟨_, rfl, by decide, trivial⟩
theorem wantLoop {k : Nat} (hk : Z3 k) {b : List (List D)} {i h x0 x : Int} {sel bs : List (List C)} (c : Cur b i) {β : Type} (K : Int → List (List C) → List (List C) → List (List C) → List (List D) → Int → Int → Option β) : ∃ (ws : List (List D)) (i' h' : Int), (∀ r ∈ ws, RSI lim r) ∧ ws.length ≤ 4 ∧ Cur b i' ∧ Zo (Ym.l0 k x0 x ([[.d (.str (⟨#[97]⟩ : ByteArray))], [.d (.str (⟨#[98]⟩ : ByteArray))], [.d (.str (⟨#[99]⟩ : ByteArray))], [.d (.str (⟨#[100]⟩ : ByteArray))]] : List (List C)) sel bs K) k (0, b, i, h, []) = K x sel bs (ws.map (·.map C.d)) b i' h' := by
  have hb : big = 2 ^ 64 := rfl
  have hm : ZN = 2 ^ 36 := rfl
  refine iter_ex (fun v => 4 - v.1.toNat) (fun v => 0 ≤ v.1 ∧ v.1 ≤ 4 ∧ v.2.1 = b ∧ Cur b v.2.2.1 ∧ ∃ o : List (List D), v.2.2.2.2 = o.map (·.map C.d) ∧ (∀ r ∈ o, RSI lim r) ∧ (o.length : Int) ≤ v.1) (fun o => ∃ (ws : List (List D)) (i' h' : Int), (∀ r ∈ ws, RSI lim r) ∧ ws.length ≤ 4 ∧ Cur b i' ∧ o = K x sel bs (ws.map (·.map C.d)) b i' h') ?_ (v := (0, b, i, h, [])) ⟨by simp, by simp, rfl, c, [], rfl, by simp, by simp⟩ (by show 4 - 0 < k; unfold Z3 at hk; omega)
  rintro ⟨n, b', i, h, out⟩ ⟨n0, n1, eb, hc, o, e, ho, hlen⟩ L hL
  simp only at n0 n1 eb hc e hlen
  subst eb e
  by_cases hn : n < 4
  · obtain ⟨z, i1, h1, hc1, e1⟩ := Yab (k := k) (h := h) (n := 3) hc
    simp only [Ym.l0, ZQ hn, cond_true, Yz.f_of e1, Zj (show -9223372036854775808 ≤ n + 1 by omega) (show n + 1 ≤ 9223372036854775807 by omega)]
    cases z
    · exact hL _ ⟨by show 0 ≤ n + 1; omega, by show n + 1 ≤ 4; omega, rfl, hc1, o, rfl, ho, by show (o.length : Int) ≤ n + 1; omega⟩ (by show 4 - (n + 1).toNat < 4 - n.toNat; omega)
    · obtain ⟨y, i2, h2, hy, hc2, e2⟩ := int_ex (k := k) (h := h1) hc1 [0, 1, 2, 3, 10] (by decide)
      have e2 : YL.t k b' i1 h1 ([[.int .i64 0], [.int .i64 1], [.int .i64 2], [.int .i64 3], [.int .i64 10]] : List (List D)) = _ := e2
      have hw : (Lit.int .i64 y).wf = true := by
        simp only [List.mem_cons, List.not_mem_nil, or_false] at hy
        exact wf_of (by omega) (by omega)
      have step : ∀ s : ByteArray, s.size ≤ lim → ∃ (ws : List (List D)) (i' h' : Int), (∀ r ∈ ws, RSI lim r) ∧ ws.length ≤ 4 ∧ Cur b' i' ∧ (Zc ((o.map (·.map C.d)).length + ([[.d (.str s), .d (.int .i64 y)]] : List (List C)).length ≤ ZN) (L (n + 1, b', i2, h2, o.map (·.map C.d) ++ ([[.d (.str s), .d (.int .i64 y)]] : List (List C))))) = K x sel bs (ws.map (·.map C.d)) b' i' h' := fun s gs => by
        rw [ZaP (by rw [map_len, List.length_singleton]; omega)]
        exact hL _ ⟨by show 0 ≤ n + 1; omega, by show n + 1 ≤ 4; omega, rfl, hc2, o ++ [[.str s, .int .i64 y]], by rw [List.map_append]; rfl, Y7 ho ⟨s, y, rfl, gs, hw, trivial⟩, by show ((o ++ _).length : Int) ≤ n + 1; rw [List.length_append, List.length_singleton]; omega⟩ (by show 4 - (n + 1).toNat < 4 - n.toNat; omega)
      simp only [cond_true]
      rw [ZaP (by simp only [List.length_cons, List.length_nil]; omega)]
      have hx : n = 0 ∨ n = 1 ∨ n = 2 ∨ n = 3 := by omega
      rcases hx with rfl | rfl | rfl | rfl
      all_goals
        simp only [YL.f_of e2]
        exact step _ (by decide)
  · simp only [Ym.l0, ZV hn, cond_false]
    exact ⟨o, i, h, ho, by omega, hc, rfl⟩
theorem want_ex {k : Nat} (hk : Z3 k) {b : List (List D)} {i h : Int} (c : Cur b i) : WD b Bears 5 2 4 (Ym.t k b i h) := by
  obtain ⟨x, i1, h1, hx, hc1, e1⟩ := int_ex (k := k) (h := h) c [0, 1, 2, 3, 5, 7, 12, 30] (by decide)
  have e1 : YL.t k b i h ([[.int .i64 0], [.int .i64 1], [.int .i64 2], [.int .i64 3], [.int .i64 5], [.int .i64 7], [.int .i64 12], [.int .i64 30]] : List (List D)) = _ := e1
  have hw : (Lit.int .i64 x).wf = true := by
    simp only [List.mem_cons, List.not_mem_nil, or_false] at hx
    exact wf_of (by omega) (by omega)
  obtain ⟨y, i2, h2, hc2, e2⟩ := Yab (k := k) (h := h1) (n := 4) hc1
  unfold Ym.t Ym.g Ym.m
  rw [YL.f_of e1, Yz.f_of e2]
  cases y
  · obtain ⟨y, i3, h3, hc3, e3⟩ := Yab (k := k) (h := h2) (n := 2) hc2
    rw [cond_false, Yz.f_of e3]
    cases y
    · obtain ⟨ws, i', h', q1, q2, q3, q4⟩ := wantLoop hk (h := h3) (x0 := 0) (x := x) (sel := []) (bs := []) hc3 (fun z0 z1 z2 z3 z4 z5 z6 => some (z0, z1, z2, z3, z4, z5, z6))
      exact ⟨x, [], [], ws, i', h', hw, by simp, by decide, .inl rfl, q1, q2, q3, q4⟩
    · obtain ⟨ws, i', h', q1, q2, q3, q4⟩ := wantLoop hk (h := h3) (x0 := 0) (x := x) (sel := []) (bs := ([[.d (.str (⟨#[103, 111, 108, 100]⟩ : ByteArray))], [.d (.str (⟨#[116, 105, 101, 114]⟩ : ByteArray))]] : List (List C))) hc3 (fun z0 z1 z2 z3 z4 z5 z6 => some (z0, z1, z2, z3, z4, z5, z6))
      exact ⟨x, [], _, ws, i', h', hw, by simp, by decide, .inr (.inl rfl), q1, q2, q3, q4⟩
  · obtain ⟨ts, i2, h2, ht, hl, hc2, e2⟩ := terms_ex hk (h := h2) (M := 2) hc2 (by decide)
    obtain ⟨y, i3, h3, hc3, e3⟩ := Yab (k := k) (h := h2) (n := 2) hc2
    rw [cond_true, YF.f_of e2, Yz.f_of e3]
    cases y
    · obtain ⟨ws, i', h', q1, q2, q3, q4⟩ := wantLoop hk (h := h3) (x0 := 0) (x := x) (sel := ts) (bs := []) hc3 (fun z0 z1 z2 z3 z4 z5 z6 => some (z0, z1, z2, z3, z4, z5, z6))
      exact ⟨x, ts, [], ws, i', h', hw, ht, hl, .inl rfl, q1, q2, q3, q4⟩
    · obtain ⟨ws, i', h', q1, q2, q3, q4⟩ := wantLoop hk (h := h3) (x0 := 0) (x := x) (sel := ts) (bs := ([[.d (.str (⟨#[103, 111, 108, 100]⟩ : ByteArray))], [.d (.str (⟨#[116, 105, 101, 114]⟩ : ByteArray))]] : List (List C))) hc3 (fun z0 z1 z2 z3 z4 z5 z6 => some (z0, z1, z2, z3, z4, z5, z6))
      exact ⟨x, ts, _, ws, i', h', hw, ht, hl, .inr (.inl rfl), q1, q2, q3, q4⟩
def ID (b : List (List D)) (s : ByteArray) (o : Option (ByteArray × List (List C) × List (List C) × Int × List (List D) × Int × Int)) : Prop :=
  ∃ (ls ps : List (List D)) (x i' h' : Int), Zi RSS lim ls ∧ Zi RS lim ps ∧ 0 ≤ x ∧ x ≤ 100 ∧ Cur b i' ∧ o = some (s, ls.map (·.map C.d), ps.map (·.map C.d), x, b, i', h')
theorem island_ex {k : Nat} (hk : Z3 k) {b : List (List D)} {i h : Int} {s : ByteArray} (c : Cur b i) : ID b s (YR.t k b i h s) := by
  have hlim : lim = 1048576 := rfl
  obtain ⟨l, i1, h1, hl, ll, hc1, e1⟩ := labels_ex hk (h := h) (M := 4) c (by decide)
  have ll : l.length ≤ 4 := ll
  obtain ⟨x, i2, h2, hx, hc2, e2⟩ := int_ex (k := k) (h := h1) hc1 [0, 1, 3, 5, 8, 20, 100] (by decide)
  have e2 : YL.t k b i1 h1 ([[.int .i64 0], [.int .i64 1], [.int .i64 3], [.int .i64 5], [.int .i64 8], [.int .i64 20], [.int .i64 100]] : List (List D)) = _ := e2
  have hx' : 0 ≤ x ∧ x ≤ 100 := by
    simp only [List.mem_cons, List.not_mem_nil, or_false] at hx
    omega
  obtain ⟨y, i3, h3, hc3, e3⟩ := Yab (k := k) (h := h2) (n := 4) hc2
  unfold YR.t YR.g
  rw [YD.f_of e1, YL.f_of e2, Yz.f_of e3]
  cases y
  · exact ⟨l, [], x, _, _, ⟨by omega, hl⟩, ⟨by show 0 ≤ lim; omega, by simp⟩, hx'.1, hx'.2, hc3, rfl⟩
  · have hstr : ∀ r ∈ ([[.str (⟨#[103, 111, 108, 100]⟩ : ByteArray)], [.str (⟨#[116, 105, 101, 114]⟩ : ByteArray)]] : List (List D)), RS lim r := by
      intro r hr
      simp only [List.mem_cons, List.not_mem_nil, or_false] at hr
      rcases hr with rfl | rfl <;> exact ⟨_, rfl, by decide, trivial⟩
    obtain ⟨j, i4, h4, j0, j1, hc4, e4⟩ := str_ex (k := k) (h := h3) hc3 hstr (by decide)
    rw [cond_true, YY.f_of e4]
    exact ⟨l, [[.str _]], x, _, _, ⟨by omega, hl⟩, ⟨by show 1 ≤ lim; omega, fun r hr => by simp only [List.mem_singleton] at hr; subst hr; exact ⟨_, rfl, (RS.gets hstr j0 j1).2.1, trivial⟩⟩, hx'.1, hx'.2, hc4, rfl⟩
structure WOk (a0 : Int) (a1 a2 a3 : List (List D)) : Prop where
  x : (Lit.int .i64 a0).wf = true
  sel : Zi Y1 lim a1
  bears : Bears a2
  weighs : Zi RSI lim a3
theorem bend_ex {k : Nat} (hk : Z3 k) {b : List (List D)} {i h a0 : Int} {a1 a2 a3 : List (List D)} (c : Cur b i) (w : WOk a0 a1 a2 a3) (hl : a3.length ≤ 100) : ∃ b0 b1 b2 b3 i' h', WOk b0 b1 b2 b3 ∧ Cur b i' ∧ Y0.t k b i h a0 a1 a2 a3 = some (b0, b1, b2, b3, b, i', h') := by
  have hlim : lim = 1048576 := rfl
  have hm : ZN = 2 ^ 36 := rfl
  obtain ⟨x, i1, h1, x0, x1, -, hc1, e1⟩ := Y9 (k := k) (h := h) (n := 8) c
  unfold Y0.t Y0.g
  rw [Yu.f_of e1]
  cases q0 : ((x : Int) == 0)
  · cases q1 : ((x : Int) == 1)
    · cases q2 : ((x : Int) == 2)
      · cases q3 : ((x : Int) == 3)
        · simp only [cond_false]
          exact ⟨_, _, _, _, _, _, w, hc1, rfl⟩
        · simp only [cond_false, cond_true]
          obtain ⟨ts, i2, h2, ht, hl, hc2, e2⟩ := termsAny_ex hk (h := h1) hc1
          rw [Yd.f_of e2]
          exact ⟨_, _, _, _, _, _, ⟨w.x, TR.sl (n := 6) (by decide) ht (by omega), w.bears, w.weighs⟩, hc2, rfl⟩
      · simp only [cond_false, cond_true]
        obtain ⟨s, i2, h2, gs, hc2, e2⟩ := nameAny_ex (k := k) (h := h1) hc1
        obtain ⟨y, i3, h3, hy, hc3, e3⟩ := int_ex (k := k) (h := h2) hc2 [1, -1, 1001] (by decide)
        have e3 : YL.t k b i2 h2 ([[.int .i64 1], [.int .i64 (-1)], [.int .i64 1001]] : List (List D)) = _ := e3
        have hw : (Lit.int .i64 y).wf = true := by
          simp only [List.mem_cons, List.not_mem_nil, or_false] at hy
          exact wf_of (by omega) (by omega)
        rw [ZaP (RSI.flat w.weighs.2), ZaP (by simp only [List.length_nil, map_len]; omega), YK.f_of e2, YL.f_of e3, ZaP (by simp only [List.nil_append, map_len, List.length_singleton]; omega)]
        have e6 : (([] : List (List C)) ++ (a3.map (·.map C.d))) ++ ([[.d (.str s), .d (.int .i64 y)]] : List (List C)) = ((a3 ++ [[D.str s, D.int .i64 y]] : List (List D)).map (·.map C.d)) := by rw [List.nil_append, List.map_append]; rfl
        rw [e6, imm_rows]
        exact ⟨_, _, _, _, _, _, ⟨w.x, w.sel, w.bears, ⟨by rw [List.length_append, List.length_singleton]; omega, Y7 w.weighs.2 ⟨s, y, rfl, gs, hw, trivial⟩⟩⟩, hc3, rfl⟩
    · simp only [cond_false, cond_true]
      exact ⟨_, _, _, _, _, _, ⟨w.x, w.sel, .inr (.inr rfl), w.weighs⟩, hc1, rfl⟩
  · obtain ⟨y, i2, h2, hy, hc2, e2⟩ := int_ex (k := k) (h := h1) hc1 [-1, 10000, 10001] (by decide)
    have e2 : YL.t k b i1 h1 ([[.int .i64 (-1)], [.int .i64 10000], [.int .i64 10001]] : List (List D)) = _ := e2
    have hw : (Lit.int .i64 y).wf = true := by
      simp only [List.mem_cons, List.not_mem_nil, or_false] at hy
      exact wf_of (by omega) (by omega)
    rw [cond_true, YL.f_of e2]
    exact ⟨_, _, _, _, _, _, ⟨hw, w.sel, w.bears, w.weighs⟩, hc2, rfl⟩
theorem Yv.f_of {β : Type} {k aB aC aA aH z0} (h : Yv.t k aB aC aA aH = some z0) (K : Bool → Option β) : Yv.f k aB aC aA aH K = K z0 := by unfold Yv.f; rw [h]; rfl
theorem Yv.T {aB : ByteArray} {aC aA : List (List D)} {aH : Int} (ga0_0 : aB.size ≤ lim) (ga0_1 : Zi RSS lim aC) (ga0_2 : Zi RS lim aA) : Tm Z3 (fun k => Yv.t k aB aC aA aH) (fun _ => True) := by
  unfold Yv.t Yv.g
  have hm := Zy
  have hlim : lim = 1048576 := rfl
  have la0_1 := ga0_1.1
  have la0_2 := ga0_2.1
  refine Ye.tm (fun i hi => hi) (Ye.T (by first | assumption | omega)) (fun y2 hy1 => ?_)
  refine Tm.ite (fun h3 => ?_) (fun h3 => ?_)
  · try simp only [bz0, bz1, bz2, bz3, bz4, bz5, bz6, bz7, bz8, bz9, bza] at h3
    refine Yi.tm (fun i hi => hi) (Yi.T (by first | assumption | omega)) (fun y5 hy4 => ?_)
    refine Tm.ite (fun h6 => ?_) (fun h6 => ?_)
    · try simp only [bz0, bz1, bz2, bz3, bz4, bz5, bz6, bz7, bz8, bz9, bza] at h6
      refine Yk.tm (fun i hi => hi) (Yk.T (by first | assumption | omega)) (fun y8 hy7 => ?_)
      refine Tm.ite (fun h9 => ?_) (fun h9 => ?_)
      · try simp only [bz0, bz1, bz2, bz3, bz4, bz5, bz6, bz7, bz8, bz9, bza] at h9
        refine YE.tm (fun i hi => hi) (YE.T) (fun y11 hy10 => ?_)
        exact Tm.ret (by trivial)
      · try simp only [bz0, bz1, bz2, bz3, bz4, bz5, bz6, bz7, bz8, bz9, bza] at h9
        exact Tm.ret (by trivial)
    · try simp only [bz0, bz1, bz2, bz3, bz4, bz5, bz6, bz7, bz8, bz9, bza] at h6
      exact Tm.ret (by trivial)
  · try simp only [bz0, bz1, bz2, bz3, bz4, bz5, bz6, bz7, bz8, bz9, bza] at h3
    exact Tm.ret (by trivial)
noncomputable def Yv.v (aB : ByteArray) (aC aA : List (List D)) (aH : Int) : Bool := (Yv.t big aB aC aA aH).getD default
theorem Yv.tv {aB : ByteArray} {aC aA : List (List D)} {aH : Int} (ga0_0 : aB.size ≤ lim) (ga0_1 : Zi RSS lim aC) (ga0_2 : Zi RS lim aA) {k : Nat} (hk : Z3 k) : Yv.t k aB aC aA aH = some (Yv.v aB aC aA aH) := (Yv.T ga0_0 ga0_1 ga0_2).val hk
theorem Yv.fv {aB : ByteArray} {aC aA : List (List D)} {aH : Int} (ga0_0 : aB.size ≤ lim) (ga0_1 : Zi RSS lim aC) (ga0_2 : Zi RS lim aA) {k : Nat} (hk : Z3 k) {β : Type} (K : Bool → Option β) : Yv.f k aB aC aA aH K = K (Yv.v aB aC aA aH) := Yv.f_of (Yv.tv ga0_0 ga0_1 ga0_2 hk) K
theorem YQ.same {aB : ByteArray} {aC aA : List (List D)} {aH : Int} (g0 : aB.size ≤ lim) (g1 : Zi RSS lim aC) (g2 : Zi RS lim aA) {k : Nat} (hk : Z3 k) : YQ.t k aB aC aA aH = Yv.t k aB aC aA aH := by
  unfold YQ.t Yv.t YQ.g Yv.g YA.f Yi.f Ys.f Yk.f
  simp only [Y8, YA.same g1, Ys.same g2, isCopies_f, l1In_f]
theorem Yr.f_of {β : Type} {k a0 a1 z0} (h : Yr.t k a0 a1 = some z0) (K : Bool → Option β) : Yr.f k a0 a1 K = K z0 := by unfold Yr.f; rw [h]; rfl
theorem Yr.tm {ι α : Type} {ok : ι → Prop} {ψ : α → Prop} {p : ι → Nat} {B : Nat} (hp : ∀ i, ok i → B ≤ p i) {a0 a1 φ} (h : Tm (fun k => B ≤ k) (fun k => Yr.t k a0 a1) φ) {G : ι → Bool → Option α} (hG : ∀ z0, φ z0 → Tm ok (fun i => G i z0) ψ) : Tm ok (fun i => Yr.f (p i) a0 a1 (G i)) ψ := ZK (t := fun k => Yr.t k a0 a1) hp h hG
set_option maxRecDepth 100000 in
theorem Yr.T {a0 : List (List D)} {a1 : ByteArray} (ga0 : Zi RS lim a0) (ga1 : a1.size ≤ lim) : Tm Z3 (fun k => Yr.t k a0 a1) (fun _ => True) := by
  unfold Yr.t Yr.g
  have hm := Zy
  have hlim : lim = 1048576 := rfl
  have la0 := ga0.1
  refine Tm.loop (okk := Z3) (p := fun k => k) (fun i hi => hi) (b := fun k => Yr.l0 k a0 a1 (fun z0 => some z0)) (fun i => (((a0.length : Int)) - i).toNat) (fun i => 0 ≤ i ∧ i ≤ (a0.length : Int)) ?_ ?_ ?_
  · rintro i hI
    try simp only [] at hI ⊢
    have : big = 2 ^ 64 := rfl
    omega
  · ((try simp only []); omega)
  · rintro i hI L hL
    try simp only [] at hI
    obtain ⟨i0, i1⟩ := hI
    simp only [Yr.l0, atR, rdQ, Q.ask]
    refine Tm.ite (fun h1 => ?_) (fun h1 => ?_)
    · try simp only [bz0, bz1, bz2, bz3, bz4, bz5, bz6, bz7, bz8, bz9, bza] at h1
      refine Tm.atRow (by first | assumption | omega) (by first | assumption | omega) (fun x2 hx3 hm4 => ?_)
      obtain ⟨c5, rfl, g6, _⟩ := (ga0.2 x2 hm4).open
      refine Tm.uncons ?_
      refine Tm.dStr ?_
      refine Tm.atEnd ?_
      refine Tm.ite (fun h7 => ?_) (fun h7 => ?_)
      · try simp only [bz0, bz1, bz2, bz3, bz4, bz5, bz6, bz7, bz8, bz9, bza] at h7
        exact Tm.ret (by trivial)
      · try simp only [bz0, bz1, bz2, bz3, bz4, bz5, bz6, bz7, bz8, bz9, bza] at h7
        try rw [Zj (x := i + 1) (by omega) (by omega)]
        exact hL _ (by (try simp only []); omega) (by (try simp only []); omega)
    · try simp only [bz0, bz1, bz2, bz3, bz4, bz5, bz6, bz7, bz8, bz9, bza] at h1
      exact Tm.ret (by trivial)
set_option maxRecDepth 100000 in
theorem l2Among_fv {a : List (List D)} {s : ByteArray} (g : Zi RS lim a) {k : Nat} (hk : Z3 k) {β : Type} (K : Bool → Option β) : Yr.f k a s K = K (Y6 a s) := Yr.f_of (by
  have hl := g.1
  have hlim : lim = 1048576 := rfl
  have hb : big = 2 ^ 64 := rfl
  unfold Yr.t Yr.g Y6
  rw [Zb6 (n := a.length) (fun i => !Zae (gS a (i : Int) 0) s) (r1 := some true) (r2 := some false) (by unfold Z3 at hk; omega)]
  · generalize List.all _ _ = x
    cases x <;> rfl
  · intro L i hi
    simp (disch := omega) only [Yr.l0, atR, rdQ, Q.ask, ZQ (show (i : Int) < a.length by omega), cond_true, RS.row g, ZY, Zaj, Z6, Zj]
    cases Zae (gS a (i : Int) 0) s <;> rfl
  · intro L
    simp [Yr.l0, atR, rdQ, Q.ask]) K
theorem YO.f_of {β : Type} {k aB aC aA a1 a2 z0} (h : YO.t k aB aC aA a1 a2 = some z0) (K : Bool → Option β) : YO.f k aB aC aA a1 a2 K = K z0 := by unfold YO.f; rw [h]; rfl
theorem YO.tm {ι α : Type} {ok : ι → Prop} {ψ : α → Prop} {p : ι → Nat} {B : Nat} (hp : ∀ i, ok i → B ≤ p i) {aB aC aA a1 a2 φ} (h : Tm (fun k => B ≤ k) (fun k => YO.t k aB aC aA a1 a2) φ) {G : ι → Bool → Option α} (hG : ∀ z0, φ z0 → Tm ok (fun i => G i z0) ψ) : Tm ok (fun i => YO.f (p i) aB aC aA a1 a2 (G i)) ψ := ZK (t := fun k => YO.t k aB aC aA a1 a2) hp h hG
theorem YO.T {aB : Int} {aC : ByteArray} {aA : List (List D)} {a1 : ByteArray} {a2 : Bool} (ga0_1 : aC.size ≤ lim) (ga0_2 : Zi RS lim aA) (ga1 : a1.size ≤ lim) : Tm Z3 (fun k => YO.t k aB aC aA a1 a2) (fun _ => True) := by
  unfold YO.t YO.g
  have hm := Zy
  have hlim : lim = 1048576 := rfl
  have la0_2 := ga0_2.1
  refine Tm.ite (fun h1 => ?_) (fun h1 => ?_)
  · try simp only [bz0, bz1, bz2, bz3, bz4, bz5, bz6, bz7, bz8, bz9, bza] at h1
    refine Tm.ite (fun h2 => ?_) (fun h2 => ?_)
    · try simp only [bz0, bz1, bz2, bz3, bz4, bz5, bz6, bz7, bz8, bz9, bza] at h2
      refine Tm.ite (fun h3 => ?_) (fun h3 => ?_)
      · try simp only [bz0, bz1, bz2, bz3, bz4, bz5, bz6, bz7, bz8, bz9, bza] at h3
        refine Yr.tm (fun i hi => hi) (Yr.T (by first | assumption | omega) (by first | assumption | omega)) (fun y5 hy4 => ?_)
        exact Tm.ret (by trivial)
      · try simp only [bz0, bz1, bz2, bz3, bz4, bz5, bz6, bz7, bz8, bz9, bza] at h3
        exact Tm.ret (by trivial)
    · try simp only [bz0, bz1, bz2, bz3, bz4, bz5, bz6, bz7, bz8, bz9, bza] at h2
      refine Tm.ite (fun h6 => ?_) (fun h6 => ?_)
      · try simp only [bz0, bz1, bz2, bz3, bz4, bz5, bz6, bz7, bz8, bz9, bza] at h6
        refine Tm.ite (fun h7 => ?_) (fun h7 => ?_)
        · try simp only [bz0, bz1, bz2, bz3, bz4, bz5, bz6, bz7, bz8, bz9, bza] at h7
          exact Tm.ret (by trivial)
        · try simp only [bz0, bz1, bz2, bz3, bz4, bz5, bz6, bz7, bz8, bz9, bza] at h7
          refine Yr.tm (fun i hi => hi) (Yr.T (by first | assumption | omega) (by first | assumption | omega)) (fun y9 hy8 => ?_)
          exact Tm.ret (by trivial)
      · try simp only [bz0, bz1, bz2, bz3, bz4, bz5, bz6, bz7, bz8, bz9, bza] at h6
        refine Tm.ite (fun h10 => ?_) (fun h10 => ?_)
        · try simp only [bz0, bz1, bz2, bz3, bz4, bz5, bz6, bz7, bz8, bz9, bza] at h10
          exact Tm.ret (by trivial)
        · try simp only [bz0, bz1, bz2, bz3, bz4, bz5, bz6, bz7, bz8, bz9, bza] at h10
          exact Tm.ret (by trivial)
  · try simp only [bz0, bz1, bz2, bz3, bz4, bz5, bz6, bz7, bz8, bz9, bza] at h1
    refine Tm.ite (fun h11 => ?_) (fun h11 => ?_)
    · try simp only [bz0, bz1, bz2, bz3, bz4, bz5, bz6, bz7, bz8, bz9, bza] at h11
      refine Tm.ite (fun h12 => ?_) (fun h12 => ?_)
      · try simp only [bz0, bz1, bz2, bz3, bz4, bz5, bz6, bz7, bz8, bz9, bza] at h12
        refine Yr.tm (fun i hi => hi) (Yr.T (by first | assumption | omega) (by first | assumption | omega)) (fun y14 hy13 => ?_)
        exact Tm.ret (by trivial)
      · try simp only [bz0, bz1, bz2, bz3, bz4, bz5, bz6, bz7, bz8, bz9, bza] at h12
        exact Tm.ret (by trivial)
    · try simp only [bz0, bz1, bz2, bz3, bz4, bz5, bz6, bz7, bz8, bz9, bza] at h11
      refine Tm.ite (fun h15 => ?_) (fun h15 => ?_)
      · try simp only [bz0, bz1, bz2, bz3, bz4, bz5, bz6, bz7, bz8, bz9, bza] at h15
        refine Tm.ite (fun h16 => ?_) (fun h16 => ?_)
        · try simp only [bz0, bz1, bz2, bz3, bz4, bz5, bz6, bz7, bz8, bz9, bza] at h16
          exact Tm.ret (by trivial)
        · try simp only [bz0, bz1, bz2, bz3, bz4, bz5, bz6, bz7, bz8, bz9, bza] at h16
          refine Yr.tm (fun i hi => hi) (Yr.T (by first | assumption | omega) (by first | assumption | omega)) (fun y18 hy17 => ?_)
          exact Tm.ret (by trivial)
      · try simp only [bz0, bz1, bz2, bz3, bz4, bz5, bz6, bz7, bz8, bz9, bza] at h15
        refine Tm.ite (fun h19 => ?_) (fun h19 => ?_)
        · try simp only [bz0, bz1, bz2, bz3, bz4, bz5, bz6, bz7, bz8, bz9, bza] at h19
          exact Tm.ret (by trivial)
        · try simp only [bz0, bz1, bz2, bz3, bz4, bz5, bz6, bz7, bz8, bz9, bza] at h19
          exact Tm.ret (by trivial)
theorem Yp.f_of {β : Type} {k a0 a1 z0} (h : Yp.t k a0 a1 = some z0) (K : Bool → Option β) : Yp.f k a0 a1 K = K z0 := by unfold Yp.f; rw [h]; rfl
set_option maxRecDepth 100000 in
theorem Yp.T {a0 a1 : List (List D)} (ga0 : Zi Y1 lim a0) (ga1 : Zi RSS lim a1) : Tm Z3 (fun k => Yp.t k a0 a1) (fun _ => True) := by
  unfold Yp.t Yp.g
  have hm := Zy
  have hlim : lim = 1048576 := rfl
  have la0 := ga0.1
  have la1 := ga1.1
  refine Yf.tm (fun i hi => hi) (Yf.T (by first | assumption | omega)) (fun y2 hy1 => ?_)
  refine Tm.ite (fun h3 => ?_) (fun h3 => ?_)
  · try simp only [bz0, bz1, bz2, bz3, bz4, bz5, bz6, bz7, bz8, bz9, bza] at h3
    exact Tm.ret (by trivial)
  · try simp only [bz0, bz1, bz2, bz3, bz4, bz5, bz6, bz7, bz8, bz9, bza] at h3
    refine Yi.tm (fun i hi => hi) (Yi.T (by first | assumption | omega)) (fun y5 hy4 => ?_)
    refine Tm.ite (fun h6 => ?_) (fun h6 => ?_)
    · try simp only [bz0, bz1, bz2, bz3, bz4, bz5, bz6, bz7, bz8, bz9, bza] at h6
      exact Tm.ret (by trivial)
    · try simp only [bz0, bz1, bz2, bz3, bz4, bz5, bz6, bz7, bz8, bz9, bza] at h6
      refine Tm.loop (okk := Z3) (p := fun k => k) (fun i hi => hi) (b := fun k => Yp.l0 k a0 a1 (fun z0 => some z0)) (fun i => (((a0.length : Int)) - i).toNat) (fun i => 0 ≤ i ∧ i ≤ (a0.length : Int)) ?_ ?_ ?_
      · rintro i hI
        try simp only [] at hI ⊢
        have : big = 2 ^ 64 := rfl
        omega
      · ((try simp only []); omega)
      · rintro i hI L hL
        try simp only [] at hI
        obtain ⟨i0, i1⟩ := hI
        simp only [Yp.l0, atR, rdQ, Q.ask]
        refine Tm.ite (fun h7 => ?_) (fun h7 => ?_)
        · try simp only [bz0, bz1, bz2, bz3, bz4, bz5, bz6, bz7, bz8, bz9, bza] at h7
          refine Tm.atRow (by first | assumption | omega) (by first | assumption | omega) (fun x8 hx9 hm10 => ?_)
          obtain ⟨c11, c12, c13, rfl, g14, g15, g16, _⟩ := (ga0.2 x8 hm10).open
          refine Tm.uncons ?_
          refine Tm.dInt ?_
          refine Tm.uncons ?_
          refine Tm.dStr ?_
          refine Tm.uncons ?_
          refine Tm.dSl ?_
          refine Tm.atEnd ?_
          refine Yj.tm (fun i hi => hi.1) (Yj.T (by first | assumption | omega) (by first | assumption | omega)) (fun y18 y19 hy17 => ?_)
          try simp only [] at hy17
          refine Tm.atRow (by first | assumption | omega) (by first | assumption | omega) (fun x20 hx21 hm22 => ?_)
          rw [hx9] at hx21
          injection hx21 with hx21
          subst hx21
          refine Tm.uncons ?_
          refine Tm.dInt ?_
          refine Tm.uncons ?_
          refine Tm.dStr ?_
          refine Tm.uncons ?_
          refine Tm.dSl ?_
          refine Tm.atEnd ?_
          refine YO.tm (fun i hi => hi.1) (YO.T (by first | assumption | omega) (by first | assumption | omega) (by first | assumption | omega)) (fun y27 hy26 => ?_)
          refine Tm.ite (fun h28 => ?_) (fun h28 => ?_)
          · try simp only [bz0, bz1, bz2, bz3, bz4, bz5, bz6, bz7, bz8, bz9, bza] at h28
            exact Tm.ret (by trivial)
          · try simp only [bz0, bz1, bz2, bz3, bz4, bz5, bz6, bz7, bz8, bz9, bza] at h28
            try rw [Zj (x := i + 1) (by omega) (by omega)]
            exact hL _ (by (try simp only []); omega) (by (try simp only []); omega)
        · try simp only [bz0, bz1, bz2, bz3, bz4, bz5, bz6, bz7, bz8, bz9, bza] at h7
          exact Tm.ret (by trivial)
noncomputable def Yp.v (a0 a1 : List (List D)) : Bool := (Yp.t big a0 a1).getD default
theorem Yp.tv {a0 a1 : List (List D)} (ga0 : Zi Y1 lim a0) (ga1 : Zi RSS lim a1) {k : Nat} (hk : Z3 k) : Yp.t k a0 a1 = some (Yp.v a0 a1) := (Yp.T ga0 ga1).val hk
theorem Yp.fv {a0 a1 : List (List D)} (ga0 : Zi Y1 lim a0) (ga1 : Zi RSS lim a1) {k : Nat} (hk : Z3 k) {β : Type} (K : Bool → Option β) : Yp.f k a0 a1 K = K (Yp.v a0 a1) := Yp.f_of (Yp.tv ga0 ga1 hk) K
set_option maxRecDepth 100000 in
theorem YC.same {k : Nat} {a : List (List D)} {s : ByteArray} (g : Zi RSS lim a) : YC.t k a s = Yj.t k a s := by
  unfold YC.t Yj.t YC.g Yj.g
  congr 1
  funext L v
  simp only [YC.l0, atR, rdQ, Q.ask, Yj.l0, atR, rdQ, Q.ask]
  refine bif_congr (fun h => ?_) (fun _ => rfl)
  by_cases h0 : 0 ≤ v ∧ v < a.length
  · obtain ⟨h0, h1⟩ := h0
    simp (disch := omega) only [RSS.row g, ZY, Zaj, Z6]
  · simp only [atRow_none h0]
theorem impl_LabelGet_fv {a : List (List D)} {s : ByteArray} (g : Zi RSS lim a) (gs : s.size ≤ lim) {k : Nat} (hk : Z3 k) {β : Type} (K : ByteArray → Bool → Option β) : YC.f k a s K = K (Yj.v a s).1 (Yj.v a s).2 := by
  rw [← Yj.fv g gs hk K]
  unfold YC.f Yj.f
  rw [YC.same g]
def holdsB (kind : Int) (vals : List (List D)) (v : ByteArray) (has : Bool) : Bool :=
  bif kind == 1 || kind == 3 then has && Y6 vals v else bif kind == 2 then !(has && Y6 vals v) else bif kind == 4 then has else !has
theorem l2Holds_fv {kind : Int} {key : ByteArray} {vals : List (List D)} {v : ByteArray} {has : Bool} (g : Zi RS lim vals) {k : Nat} (hk : Z3 k) {β : Type} (K : Bool → Option β) : YO.f k kind key vals v has K = K (holdsB kind vals v has) := YO.f_of (by
  unfold YO.t YO.g holdsB
  simp only [l2Among_fv g hk]
  rcases ZaA kind with rfl | rfl | rfl | rfl | rfl | ⟨e1, e2, e3, e4, e5⟩
  all_goals cases has <;> cases Y6 vals v <;> (try simp only [e1, e2, e3, e4, e5]) <;> rfl) K
theorem holds_fv {kind : Int} {key : ByteArray} {vals labels : List (List D)} (gk : key.size ≤ lim) (g : Zi RS lim vals) (gl : Zi RSS lim labels) {k : Nat} (hk : Z3 k) {β : Type} (K : Bool → Option β) : Y3.f k kind key vals labels K = K (holdsB kind vals (Yj.v labels key).1 (Yj.v labels key).2) := Y3.f_of (by
  unfold Y3.t Y3.g holdsB
  simp only [contains_fv g hk, impl_LabelGet_fv gl gk hk]
  generalize Yj.v labels key = y
  obtain ⟨v, has⟩ := y
  rcases ZaA kind with rfl | rfl | rfl | rfl | rfl | ⟨e1, e2, e3, e4, e5⟩
  all_goals cases has <;> cases Y6 vals v <;> (try simp only [e1, e2, e3, e4, e5]) <;> rfl) K
noncomputable def matchB (sel labels : List (List D)) : Bool := (List.range sel.length).all fun i => holdsB (gI sel (i : Int) 0) (gL sel (i : Int) 2) (Yj.v labels (gS sel (i : Int) 1)).1 (Yj.v labels (gS sel (i : Int) 1)).2
theorem LabelsOk_impl_f {a : List (List D)} (g : Zi RSS lim a) {k : Nat} {β : Type} (K : Bool → Option β) : YA.f k a K = Yi.f k a K := by
  unfold YA.f Yi.f
  rw [YA.same g]
set_option maxRecDepth 100000 in
theorem YZ.same {sel labels : List (List D)} (g : Zi Y1 lim sel) (gl : Zi RSS lim labels) {k : Nat} (hk : Z3 k) : YZ.t k sel labels = Yp.t k sel labels := by
  have hl := g.1
  have hlim : lim = 1048576 := rfl
  have hb : big = 2 ^ 64 := rfl
  have hf : ∀ {β : Type} (K : Int → Option β), Yb.f k sel labels K = K (Zbo (fun i => !holdsB (gI sel (i : Int) 0) (gL sel (i : Int) 2) (Yj.v labels (gS sel (i : Int) 1)).1 (Yj.v labels (gS sel (i : Int) 1)).2) sel.length) := fun K => Yb.f_of (by
    unfold Yb.t Yb.g
    refine iter_findI (n := sel.length) _ some (by unfold Z3 at hk; omega) (fun L i hi => ?_) (fun L => by simp [Yb.l0, atR, rdQ, Q.ask])
    obtain ⟨-, k0, k1, k2, -⟩ := Y1.get g (v := (i : Int)) (by omega) (by omega)
    have hs : ∀ {β : Type} (K : Bool → Option β), YV.f k (gI sel (i : Int) 0) (gS sel (i : Int) 1) (gL sel (i : Int) 2) labels K = K (!holdsB (gI sel (i : Int) 0) (gL sel (i : Int) 2) (Yj.v labels (gS sel (i : Int) 1)).1 (Yj.v labels (gS sel (i : Int) 1)).2) := fun K => YV.f_of (by unfold YV.t YV.g; rw [holds_fv k1 k2 gl hk]) K
    simp (disch := omega) only [Yb.l0, atR, rdQ, Q.ask, ZQ (show (i : Int) < sel.length by omega), cond_true, Y1.row g, ZY, Zaj, Zad, Za7, Z6, hs, Zj]) K
  have hc : ∀ {β : Type} (K : Bool → Option β), Yh.f k sel labels K = K (!matchB sel labels) := fun K => Yh.f_of (by
    unfold Yh.t Yh.g
    rw [hf, findI_all]
    simp only [Bool.not_not, matchB]) K
  have hi : ∀ {β : Type} (K : Bool → Option β), Zo (Yp.l0 k sel labels K) k 0 = K (matchB sel labels) := fun K => by
    rw [Zb6 (n := sel.length) (fun i => holdsB (gI sel (i : Int) 0) (gL sel (i : Int) 2) (Yj.v labels (gS sel (i : Int) 1)).1 (Yj.v labels (gS sel (i : Int) 1)).2) (r1 := K false) (r2 := K true) (by unfold Z3 at hk; omega)]
    · unfold matchB
      generalize List.all _ _ = x
      cases x <;> rfl
    · intro L i hi
      obtain ⟨-, k0, k1, k2, -⟩ := Y1.get g (v := (i : Int)) (by omega) (by omega)
      simp (disch := omega) only [Yp.l0, atR, rdQ, Q.ask, ZQ (show (i : Int) < sel.length by omega), cond_true, Y1.row g, ZY, Zaj, Zad, Za7, Z6, Yj.fv gl k1 hk, l2Holds_fv k2 hk, Zj]
      generalize holdsB _ _ _ _ = x
      cases x <;> rfl
    · intro L
      simp [Yp.l0, atR, rdQ, Q.ask]
  unfold YZ.t Yp.t YZ.g Yp.g
  simp only [Yad g hk, LabelsOk_impl_f gl, hc, hi]
  rw [Yf.fv g hk, Yf.fv g hk]
  cases Yf.v sel
  · rfl
  · simp only [cond_true, Bool.not_true, cond_false]
    rw [Yi.fv gl hk, Yi.fv gl hk]
    cases Yi.v labels <;> simp
theorem impl_Matches_f {sel labels : List (List D)} (g : Zi Y1 lim sel) (gl : Zi RSS lim labels) {k : Nat} (hk : Z3 k) {β : Type} (K : Bool → Option β) : YZ.f k sel labels K = K (Yp.v sel labels) := by
  rw [← Yp.fv g gl hk K]
  unfold YZ.f Yp.f
  rw [YZ.same g gl hk]
theorem Yw.f_of {β : Type} {k aB aC aA aH aO aM aK aN z0} (h : Yw.t k aB aC aA aH aO aM aK aN = some z0) (K : Bool → Option β) : Yw.f k aB aC aA aH aO aM aK aN K = K z0 := by unfold Yw.f; rw [h]; rfl
set_option maxRecDepth 100000 in
theorem YP.same {aB : Int} {aC aA aH : List (List D)} {aO : ByteArray} {aM aK : List (List D)} {aN : Int} (g0 : Zi Y1 lim aC) (g1 : Zi RS lim aA) (g2 : Zi RSI lim aH) (g3 : aO.size ≤ lim) (g4 : Zi RSS lim aM) (g5 : Zi RS lim aK) {k : Nat} (hk : Z3 k) : YP.t k aB aC aA aH aO aM aK aN = Yw.t k aB aC aA aH aO aM aK aN := by
  have hl := g5.1
  have hlim : lim = 1048576 := rfl
  have hb : big = 2 ^ 64 := rfl
  have hf : ∀ {β : Type} (K : Int → Option β), Yc.f k aK aB aC aA aH K = K (Zbo (fun i => !Y6 aA (gS aK (i : Int) 0)) aK.length) := fun K => Yc.f_of (by
    unfold Yc.t Yc.g
    refine iter_findI (n := aK.length) _ some (by unfold Z3 at hk; omega) (fun L i hi => ?_) (fun L => by simp [Yc.l0, atR, rdQ, Q.ask])
    have hs : ∀ {β : Type} (K : Bool → Option β), YS.f k (gS aK (i : Int) 0) aB aC aA aH K = K (!Y6 aA (gS aK (i : Int) 0)) := fun K => YS.f_of (by unfold YS.t YS.g; rw [contains_fv g1 hk]) K
    simp (disch := omega) only [Yc.l0, atR, rdQ, Q.ask, ZQ (show (i : Int) < aK.length by omega), cond_true, RS.row g5, ZY, Zaj, Z6, hs, Zj]) K
  have hc : ∀ {β : Type} (K : Bool → Option β), Yl.f k aK aB aC aA aH K = K (!(List.range aK.length).all fun i => Y6 aA (gS aK (i : Int) 0)) := fun K => Yl.f_of (by
    unfold Yl.t Yl.g
    rw [hf, findI_all]
    simp only [Bool.not_not]) K
  have hi : ∀ {β : Type} (K : Bool → Option β), Zo (Yw.l0 k aB aC aA aH aO aM aK aN K) k 0 = K ((List.range aK.length).all fun i => Y6 aA (gS aK (i : Int) 0)) := fun K => by
    rw [Zb6 (n := aK.length) (fun i => Y6 aA (gS aK (i : Int) 0)) (r1 := K false) (r2 := K true) (by unfold Z3 at hk; omega)]
    · generalize List.all _ _ = x
      cases x <;> rfl
    · intro L i hi
      simp (disch := omega) only [Yw.l0, atR, rdQ, Q.ask, ZQ (show (i : Int) < aK.length by omega), cond_true, RS.row g5, ZY, Zaj, Z6, l2Among_fv g1 hk, Zj]
      generalize Y6 _ _ = x
      cases x <;> rfl
    · intro L
      simp [Yw.l0, atR, rdQ, Q.ask]
  have hw : ∀ {β : Type} (K : Bool → Option β), YG.f k aB aC aA aH K = Yo.f k aB aC aA aH K := fun K => by
    unfold YG.f Yo.f
    rw [YG.same g0 g1 g2 hk]
  have hn : ∀ {β : Type} (K : Bool → Option β), YQ.f k aO aM aK aN K = Yv.f k aO aM aK aN K := fun K => by
    unfold YQ.f Yv.f
    rw [YQ.same g3 g4 g5 hk]
  unfold YP.t Yw.t YP.g Yw.g Yw.m
  simp only [hw, hn, hc, hi, Yo.fv g0 g1 g2 hk, Yv.fv g3 g4 g5 hk, impl_Matches_f g0 g4 hk, Yp.fv g0 g4 hk]
  cases Yo.v aB aC aA aH <;> cases Yv.v aO aM aK aN <;> cases Yp.v aC aM <;> simp
theorem drawEligible_ex {k : Nat} (hk : Z3 k) {b : List (List D)} (g : Zi RI8 lim b) : ∃ w0 w1 w2 w3 s ls ps x, WOk w0 w1 w2 w3 ∧ s.size ≤ lim ∧ Zi RSS lim ls ∧ Zi RS lim ps ∧ YM.t k b = some (w0, w1, w2, w3, s, ls.map (·.map C.d), ps.map (·.map C.d), x) := by
  have hlim : lim = 1048576 := rfl
  unfold YM.t YM.g
  obtain ⟨h, e1⟩ := new_ex g hk
  obtain ⟨x, ts, bs, ws, i2, h2, q0, q1, q2, q3, q4, q5, hc2, e2⟩ := want_ex hk (h := h) (Cur.new g)
  obtain ⟨y, i3, h3, hc3, e3⟩ := Yab (k := k) (h := h2) (n := 10) hc2
  rw [YI.f_of e1, Ym.f_of e2, Yz.f_of e3, imm_rows, imm_rows]
  have w : WOk x (C.immRows ts) bs ws := ⟨q0, TR.sl (n := 5) (by decide) q1 (by omega), q3, ⟨by omega, q4⟩⟩
  cases y
  · obtain ⟨s, i4, h4, gs, hc4, e4⟩ := name_ex (k := k) (h := h3) hc3
    obtain ⟨ls, ps, z, i5, h5, g1, g2, -, -, hc5, e5⟩ := island_ex hk (h := h4) (s := s) hc4
    rw [cond_false, YH.f_of e4, YR.f_of e5]
    exact ⟨_, _, _, _, _, _, _, _, w, gs, g1, g2, rfl⟩
  · obtain ⟨b0, b1, b2, b3, i4, h4, w', hc4, e4⟩ := bend_ex hk (h := h3) hc3 w (by omega)
    obtain ⟨s, i5, h5, gs, hc5, e5⟩ := name_ex (k := k) (h := h4) hc4
    obtain ⟨ls, ps, z, i6, h6, g1, g2, -, -, hc6, e6⟩ := island_ex hk (h := h5) (s := s) hc5
    rw [cond_true, Y0.f_of e4, YH.f_of e5, YR.f_of e6]
    exact ⟨_, _, _, _, _, _, _, _, w', gs, g1, g2, rfl⟩
noncomputable def eligB (a0 : Int) (a1 a2 a3 : List (List D)) (s : ByteArray) (ls ps : List (List D)) (x : Int) : Bool := Yo.v a0 a1 a2 a3 && (Yv.v s ls ps x && (Yp.v a1 ls && (List.range ps.length).all fun (i : Nat) => Y6 a2 (gS ps (i : Int) 0)))
section
variable {aB : Int} {aC aA aH : List (List D)} {aO : ByteArray} {aM aK : List (List D)} {aN : Int}
set_option maxRecDepth 100000 in
theorem eligS (g0 : Zi Y1 lim aC) (g1 : Zi RS lim aA) (g2 : Zi RSI lim aH) (g3 : aO.size ≤ lim) (g4 : Zi RSS lim aM) (g5 : Zi RS lim aK) {k : Nat} (hk : Z3 k) : Yw.t k aB aC aA aH aO aM aK aN = some (eligB aB aC aA aH aO aM aK aN) := by
  have hl := g5.1
  have hlim : lim = 1048576 := rfl
  have hb : big = 2 ^ 64 := rfl
  have hi : ∀ {β : Type} (K : Bool → Option β), Zo (Yw.l0 k aB aC aA aH aO aM aK aN K) k 0 = K ((List.range aK.length).all fun (i : Nat) => Y6 aA (gS aK (i : Int) 0)) := fun K => by
    rw [Zb6 (n := aK.length) (fun i => Y6 aA (gS aK (i : Int) 0)) (r1 := K false) (r2 := K true) (by unfold Z3 at hk; omega)]
    · generalize List.all _ _ = x
      cases x <;> rfl
    · intro L i hi
      simp (disch := omega) only [Yw.l0, atR, rdQ, Q.ask, ZQ (show (i : Int) < aK.length by omega), cond_true, RS.row g5, ZY, Zaj, Z6, l2Among_fv g1 hk, Zj]
      generalize Y6 _ _ = x
      cases x <;> rfl
    · intro L
      simp [Yw.l0, atR, rdQ, Q.ask]
  unfold Yw.t Yw.g Yw.m eligB
  simp only [hi, Yo.fv g0 g1 g2 hk, Yv.fv g3 g4 g5 hk, Yp.fv g0 g4 hk]
  cases Yo.v aB aC aA aH <;> cases Yv.v aO aM aK aN <;> cases Yp.v aC aM <;> simp
theorem eligI (g0 : Zi Y1 lim aC) (g1 : Zi RS lim aA) (g2 : Zi RSI lim aH) (g3 : aO.size ≤ lim) (g4 : Zi RSS lim aM) (g5 : Zi RS lim aK) {k : Nat} (hk : Z3 k) : YP.t k aB aC aA aH aO aM aK aN = some (eligB aB aC aA aH aO aM aK aN) := by
  rw [YP.same g0 g1 g2 g3 g4 g5 hk, eligS g0 g1 g2 g3 g4 g5 hk]
end
theorem nilRI : Zi Y1 lim [] := ⟨by decide, by simp⟩
theorem nilRS : Zi RS lim [] := ⟨by decide, by simp⟩
theorem selNil : Yf.v [] = true := Option.some.inj ((Yf.tv nilRI (k := big) (Nat.le_refl _)).symm.trans (SelectorOk_v nilRI (Nat.le_refl _)))
set_option maxRecDepth 100000 in
theorem namesNil {n : Int} (hn : 0 ≤ n) : Yk.v [] n = true := by
  have e := Yk.tv (a1 := n) nilRS (k := big) (Nat.le_refl _)
  unfold Yk.t Yk.g at e
  rw [iter_step (by decide)] at e
  simp only [Yk.l0, atR, rdQ, Q.ask, List.length_nil, ZV (show ¬ (0 : Int) < ((0 : Nat) : Int) by decide), cond_false] at e
  have e := Option.some.inj e
  rw [← e]
  simpa using hn
theorem islandBare {s : ByteArray} {ls ps : List (List D)} {x : Int} (gs : s.size ≤ lim) (g4 : Zi RSS lim ls) (g5 : Zi RS lim ps) (h : Yv.v s ls ps x = true) : Yv.v s ls [] x = true ∧ Yi.v ls = true := by
  have hk : Z3 big := Nat.le_refl _
  have e1 := Yv.tv (aH := x) gs g4 g5 hk
  have e2 := Yv.tv (aH := x) gs g4 nilRS hk
  rw [h] at e1
  unfold Yv.t Yv.g at e1 e2
  rw [Ye.fv gs hk, Yi.fv g4 hk] at e1 e2
  rw [Yk.fv g5 hk] at e1
  rw [Yk.fv nilRS hk, namesNil (by decide)] at e2
  cases q1 : Ye.v s
  · rw [q1] at e1; simp at e1
  cases q2 : Yi.v ls
  · rw [q1, q2] at e1; simp at e1
  cases q3 : Yk.v ps 4
  · rw [q1, q2, q3] at e1; simp at e1
  rw [q1, q2, q3] at e1
  rw [q1, q2] at e2
  simp only [cond_true] at e1 e2
  rw [e1] at e2
  exact ⟨(Option.some.inj e2).symm, rfl⟩
set_option maxRecDepth 100000 in
theorem wantOpen {a0 : Int} {a1 a2 a3 : List (List D)} (g0 : Zi Y1 lim a1) (g1 : Zi RS lim a2) (g2 : Zi RSI lim a3) (h : Yo.v a0 a1 a2 a3 = true) : Yo.v a0 [] a2 a3 = true := by
  have hk : Z3 big := Nat.le_refl _
  have e1 := Yo.tv (aB := a0) g0 g1 g2 hk
  have e2 := Yo.tv (aB := a0) nilRI g1 g2 hk
  rw [h] at e1
  unfold Yo.t Yo.g at e1 e2
  have hl := g2.1
  have hlim : lim = 1048576 := rfl
  have key : ∀ n v, Zo (Yo.l0 big a0 a1 a2 a3 (fun z0 => some z0)) n v = some true → Zo (Yo.l0 big a0 [] a2 a3 (fun z0 => some z0)) n v = some true := by
    intro n
    induction n with
    | zero => intro v hv; simp [Zo] at hv
    | succ n ih =>
      intro v
      rw [iter_step (by omega), iter_step (by omega)]
      simp only [Yo.l0, atR, rdQ, Q.ask, Nat.add_sub_cancel]
      by_cases hv : v < (a3.length : Int)
      · rw [ZQ hv, cond_true, cond_true]
        by_cases h0 : 0 ≤ v
        · have hr := RSI.get g2 h0 hv
          have hv1 : IntKind.wrap .i64 (v + 1) = v + 1 := Zj (by omega) (by omega)
          by_cases hz : v > 0
          · have hw1 : IntKind.wrap .i64 (v - 1) = v - 1 := Zj (by omega) (by omega)
            simp (disch := omega) only [ZQ hz, cond_true, hw1, hv1, RSI.row g2, ZY, Zaj, Zad, Z6, Ye.fv hr.2.1 hk, l1In_f]
            cases Ye.v (gS a3 v 0)
            · intro q; simp at q
            cases (decide (0 ≤ gI a3 v 1) && decide (gI a3 v 1 ≤ 1000))
            · intro q; simp at q
            cases ZbO (gS a3 (v - 1) 0) (gS a3 v 0)
            · intro q; simp at q
            exact ih _
          · simp (disch := omega) only [ZV hz, cond_false, hv1, RSI.row g2, ZY, Zaj, Zad, Z6, Ye.fv hr.2.1 hk, l1In_f]
            cases Ye.v (gS a3 v 0)
            · intro q; simp at q
            cases (decide (0 ≤ gI a3 v 1) && decide (gI a3 v 1 ≤ 1000))
            · intro q; simp at q
            exact ih _
        · rw [atRow_none (by omega)]
          intro q
          cases q
      · rw [ZV hv, cond_false, cond_false, Yf.fv g0 hk, Yf.fv nilRI hk, selNil, Yk.fv g1 hk]
        simp only [cond_true, l1In_f]
        cases (decide (0 ≤ a0) && decide (a0 ≤ 10000)) <;> cases Yf.v a1 <;> simp
  rw [key _ _ e1] at e2
  exact (Option.some.inj e2).symm
set_option maxRecDepth 100000 in
theorem matchNil {ls : List (List D)} (g4 : Zi RSS lim ls) (h : Yi.v ls = true) : Yp.v [] ls = true := by
  have hk : Z3 big := Nat.le_refl _
  have e := Yp.tv nilRI g4 hk
  unfold Yp.t Yp.g at e
  rw [Yf.fv nilRI hk, selNil, Yi.fv g4 hk, h] at e
  simp only [Bool.not_true, cond_false] at e
  rw [iter_step (by decide)] at e
  simp only [Yp.l0, atR, rdQ, Q.ask, List.length_nil, ZV (show ¬ (0 : Int) < ((0 : Nat) : Int) by decide), cond_false] at e
  exact (Option.some.inj e).symm
theorem strNe {a b : ByteArray} (h : a.size ≠ b.size) : Zae a b = false := by
  unfold Zae
  rw [Go.Lib.toList_data, Go.Lib.toList_data]
  cases q : (a.data.toList == b.data.toList)
  · rfl
  · exact absurd (congrArg List.length (beq_iff_eq.mp q)) (by simpa using h)
theorem notBorne {bs : List (List D)} (h : Bears bs) : Y6 bs (⟨#[110, 111, 116, 45, 98, 111, 114, 110, 101]⟩ : ByteArray) = false := by
  rcases h with rfl | rfl | rfl
  · rfl
  · show (!(!Zae (⟨#[103, 111, 108, 100]⟩ : ByteArray) _ && (!Zae (⟨#[116, 105, 101, 114]⟩ : ByteArray) _ && true))) = false
    rw [strNe (by decide), strNe (by decide)]
    rfl
  · show (!(!Zae (⟨#[98]⟩ : ByteArray) _ && (!Zae (⟨#[97]⟩ : ByteArray) _ && true))) = false
    rw [strNe (by decide), strNe (by decide)]
    rfl
set_option maxRecDepth 100000 in
set_option maxHeartbeats 1000000 in
theorem Y4.T {a0 : List (List D)} (g0 : Zi RI8 maxLen a0) : Tm Z3 (fun k => Y4.t k a0) (fun r => r = true) := by
  refine Tm.of (v := true) (fun k hk => ?_) rfl
  have hlim : lim = 1048576 := rfl
  have hbig : ∀ {β : Type} (K : Bool → Option β), Y5.f k a0 K = K (decide ((a0.length : Int) > 1048576)) := fun K => Y5.f_of rfl K
  unfold Y4.t Y4.g
  rw [hbig]
  by_cases hl : (a0.length : Int) > 1048576
  · rw [ZQ hl]; rfl
  rw [ZV hl]
  simp only [cond_false]
  obtain ⟨w0, w1, w2, w3, s, ls, ps, x, w, gs, g4, g5, e⟩ := drawEligible_ex hk (b := a0) ⟨by omega, fun r hr => let ⟨x, q⟩ := g0.2 r hr; ⟨x, q⟩⟩
  have g1 := w.sel; have g2 := w.bears.sl; have g3 := w.weighs
  have hWI : ∀ {β : Type} (K : Bool → Option β), YG.f k w0 w1 w2 w3 K = Yo.f k w0 w1 w2 w3 K := fun K => by
    unfold YG.f Yo.f
    rw [YG.same g1 g2 g3 hk]
  have hNI : ∀ {β : Type} (K : Bool → Option β), YQ.f k s ls ps x K = Yv.f k s ls ps x K := fun K => by
    unfold YQ.f Yv.f
    rw [YQ.same gs g4 g5 hk]
  rw [YM.f_of e]
  simp only [imm_rows]
  rw [YP.f_of (eligI g1 g2 g3 gs g4 g5 hk), Yw.f_of (eligS g1 g2 g3 gs g4 g5 hk)]
  simp only [beq_self_eq_true, Bool.not_true, cond_false, hWI, hNI, Yo.fv g1 g2 g3 hk, Yv.fv gs g4 g5 hk]
  cases q1 : Yo.v w0 w1 w2 w3 with
  | false => simp only [eligB, q1, Bool.false_and, Bool.not_false, cond_true]
  | true =>
  cases q2 : Yv.v s ls ps x with
  | false => simp only [eligB, q1, q2, Bool.false_and, Bool.true_and, Bool.not_false, Bool.not_true, cond_false, cond_true]
  | true =>
  obtain ⟨q3, q4⟩ := islandBare gs g4 g5 q2
  have q5 := wantOpen g1 g2 g3 q1
  have gone : Zi RS lim ([[.str (⟨#[110, 111, 116, 45, 98, 111, 114, 110, 101]⟩ : ByteArray)]] : List (List D)) := ⟨by show 1 ≤ lim; omega, fun r hr => by simp only [List.mem_singleton] at hr; subst hr; exact ⟨_, rfl, by decide, trivial⟩⟩
  have o1 : eligB w0 [] w2 w3 s ls [] x = true := by
    unfold eligB
    rw [q5, q3, matchNil g4 q4]
    rfl
  have o2 : eligB w0 w1 w2 w3 s ls ([[.str (⟨#[110, 111, 116, 45, 98, 111, 114, 110, 101]⟩ : ByteArray)]] : List (List D)) x = false := by
    unfold eligB
    have : ((List.range ([[.str (⟨#[110, 111, 116, 45, 98, 111, 114, 110, 101]⟩ : ByteArray)]] : List (List D)).length).all fun (i : Nat) => Y6 w2 (gS ([[.str (⟨#[110, 111, 116, 45, 98, 111, 114, 110, 101]⟩ : ByteArray)]] : List (List D)) (i : Int) 0)) = (Y6 w2 (⟨#[110, 111, 116, 45, 98, 111, 114, 110, 101]⟩ : ByteArray) && true) := rfl
    rw [this, notBorne w.bears]
    simp only [Bool.false_and, Bool.and_false]
  simp only [Bool.not_true, cond_false]
  rw [YP.f_of (eligI nilRI g2 g3 gs g4 nilRS hk), o1, cond_true, YP.f_of (eligI g1 g2 g3 gs g4 gone hk), o2]
  simp only [Bool.not_false, cond_true]
  cases q6 : eligB w0 w1 w2 w3 s ls ps x with
  | false => rfl
  | true =>
    simp only [Bool.not_true, cond_false]
    rw [impl_Matches_f g1 g4 hk]
    unfold eligB at q6
    simp only [Bool.and_eq_true] at q6
    rw [q6.2.2.1]
end Go.Proofs.Ytpgplbalenfgfaa
