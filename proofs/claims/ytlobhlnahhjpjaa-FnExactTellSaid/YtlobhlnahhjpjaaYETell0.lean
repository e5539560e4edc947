/- Printed, and by hand: the functions that FnExactTell reaches come to their end; the program's answer as the reference's. -/
import Derived.Test.YtlobhlnahhjpjaaXETell0
import Derived.KernelRfl
set_option linter.unusedVariables false
set_option linter.unusedSimpArgs false
namespace Go.Proofs.Ytlobhlnahhjpjaa
open Go Go.T Go.Proofs
theorem iter_ex {V β : Type} {b : (V → Option β) → V → Option β} (m : V → Nat) (Inv : V → Prop) (Q : Option β → Prop) (step : ∀ v, Inv v → ∀ L, (∀ v', Inv v' → m v' < m v → Q (L v')) → Q (b L v)) : ∀ {k : Nat} {v : V}, Inv v → m v < k → Q (ZA b k v)
  | 0, v, _, h => absurd h (Nat.not_lt_zero _)
  | k + 1, v, hv, h => step v hv (ZA b k) fun v' hv' hlt => iter_ex m Inv Q step hv' (by omega)
theorem mem_modify {α : Type} {P : α → Prop} {f : α → α} (hf : ∀ x, P x → P (f x)) : ∀ {xs : List α} {j : Nat}, (∀ x ∈ xs, P x) → ∀ x ∈ xs.modify j f, P x
  | [], j, h, x, hx => by cases j <;> cases hx
  | y :: xs, 0, h, x, hx => by
    simp only [List.modify_zero_cons] at hx
    rcases List.mem_cons.mp hx with rfl | hx
    · exact hf y (h y (by simp))
    · exact h x (by simp [hx])
  | y :: xs, j + 1, h, x, hx => by
    simp only [List.modify_succ_cons] at hx
    rcases List.mem_cons.mp hx with rfl | hx
    · exact h x (by simp)
    · exact mem_modify hf (fun z hz => h z (by simp [hz])) x hx
theorem mem_snoc {α : Type} {P : α → Prop} {xs : List α} {y : α} (h : ∀ x ∈ xs, P x) (hy : P y) : ∀ x ∈ xs ++ [y], P x := by
  intro x hx
  rcases List.mem_append.mp hx with q | q
  · exact h x q
  · simp at q; subst q; exact hy
theorem wf_of {x : Int} (h0 : -9223372036854775808 ≤ x) (h1 : x ≤ 9223372036854775807) : (Lit.int .i64 x).wf = true := by
  simp [Lit.wf, IntKind.min, IntKind.max, IntKind.signed, IntKind.bits]
  omega
theorem big_lv1 {n : Nat} (h : n ≤ 4398046511104) : big + n ≤ lv 1 := by
  have hb : big = 2 ^ 64 := rfl
  have : lv 1 = 2 ^ 65 := rfl
  omega
theorem ZaM (n : Int) : n = 1 ∨ n = 2 ∨ n = 3 ∨ n = 4 ∨ n = 5 ∨ ((n == 1) = false ∧ (n == 2) = false ∧ (n == 3) = false ∧ (n == 4) = false ∧ (n == 5) = false) := by
  simp only [beq_eq_false_iff_ne]
  omega
theorem delR_deep {pr : List D → Option Bool} {q : List D → Bool} : ∀ {e : List (List D)}, (∀ r ∈ e, pr r = some (q r)) → delR pr (Zc e) = some (Zc (e.filter fun r => !q r))
  | [], _ => rfl
  | r :: e, h => by
    simp only [Zc, delR, imm_deepCells, h r (by simp), delR_deep (e := e) fun x hx => h x (by simp [hx])]
    rw [List.filter_cons]
    cases q r <;> rfl
theorem delK_deep {ix : List (List D) → Option Int} {pr : List D → Option Bool} {q : List D → Bool} {d : List (List D)} (hl : d.length ≤ 1048576) (hix : ix d = some (ZbV (fun i => q (gR d (i : Int))) d.length)) (h : ∀ r ∈ d, pr r = some (q r)) : delK ix pr (Zc d) = some (Zc (d.filter fun r => !q r)) := by
  unfold delK
  rw [ZK, hix]
  have hg : ∀ i (hi : i < d.length), gR d (i : Int) = d[i] := fun i hi => by
    have := gR_at (xs := d) (v := (i : Int)) (by omega) (by omega)
    rw [Int.toNat_natCast, List.getElem?_eq_getElem hi] at this
    injection this with this
    exact this.symm
  by_cases hz : ZbV (fun i => q (gR d (i : Int))) d.length < 0
  · obtain ⟨h1, h2⟩ := findI_none hz
    simp only [h1, if_true]
    congr 2
    symm
    rw [List.filter_eq_self]
    intro x hx
    obtain ⟨i, hi, rfl⟩ := List.mem_iff_getElem.mp hx
    have := h2 i hi
    rw [hg i hi] at this
    rw [this]; rfl
  · obtain ⟨h1, h2, h3, h4⟩ := findI_some (p := fun i => q (gR d (i : Int))) (n := d.length) (by omega)
    generalize ZbV (fun i => q (gR d (i : Int))) d.length = z at *
    simp only [show ¬ z = -1 by omega, if_false]
    rw [ZH ⟨by omega, by rw [ZS]; omega, by rw [ZS]; omega⟩]
    have ht : ∀ m, m ≤ d.length → (Zc d).take m = Zc (d.take m) ∧ (Zc d).drop m = Zc (d.drop m) := fun m hm => by
      have e : Zc d = Zc (d.take m) ++ Zc (d.drop m) := by rw [← Zbb, List.take_append_drop]
      have l : (Zc (d.take m)).length = m := by rw [ZS, List.length_take]; omega
      rw [e]
      exact ⟨List.take_left' l, List.drop_left' l⟩
    rw [(ht z.toNat (by omega)).1, (ht (z.toNat + 1) (by omega)).2, delR_deep fun r hr => h r (List.mem_of_mem_drop hr)]
    simp only []
    rw [← Zbb]
    congr 2
    have h5 : d = d.take z.toNat ++ (d[z.toNat] :: d.drop (z.toNat + 1)) := by rw [List.getElem_cons_drop, List.take_append_drop]
    conv => rhs; rw [h5]
    rw [List.filter_append, List.filter_cons]
    have h7 : q d[z.toNat] = true := by have := h2; rwa [hg _ h1] at this
    rw [h7]
    simp only [Bool.not_true, Bool.false_eq_true, if_false]
    congr 1
    symm
    rw [List.filter_eq_self]
    intro x hx
    obtain ⟨i, hi, rfl⟩ := List.mem_iff_getElem.mp hx
    rw [List.length_take] at hi
    have := h4 i (by omega)
    rw [hg i (by omega)] at this
    rw [List.getElem_take, this]; rfl
def insD (r : Nat → Int) (x : Nat) : List Nat → List Nat
  | [] => [x]
  | y :: l => if r y < r x then x :: y :: l else y :: insD r x l
def Y3 (r : Nat → Int) (l : List Nat) : List Nat := l.foldl (fun a x => insD r x a) []
def AheadD (r : Nat → Int) (i j : Nat) : Prop := r j < r i ∨ (r i = r j ∧ i < j)
theorem insD_mem {r : Nat → Int} {x z : Nat} : ∀ {l : List Nat}, z ∈ insD r x l ↔ z = x ∨ z ∈ l
  | [] => by simp [insD]
  | y :: l => by
    unfold insD
    split
    · simp
    · simp only [List.mem_cons, insD_mem (l := l)]
      constructor
      · rintro (h | h | h) <;> simp [h]
      · rintro (h | h | h) <;> simp [h]
theorem insD_len {r : Nat → Int} {x : Nat} : ∀ {l : List Nat}, (insD r x l).length = l.length + 1
  | [] => rfl
  | y :: l => by
    unfold insD
    split
    · simp
    · simp [insD_len (l := l)]
theorem insD_pair {r : Nat → Int} {x : Nat} : ∀ {l : List Nat}, l.Pairwise (AheadD r) → (∀ y ∈ l, y < x) → (insD r x l).Pairwise (AheadD r)
  | [], _, _ => by simp [insD]
  | y :: l, h, hx => by
    obtain ⟨h1, h2⟩ := List.pairwise_cons.mp h
    unfold insD
    split
    · rename_i hr
      refine List.pairwise_cons.mpr ⟨fun z hz => ?_, h⟩
      rcases List.mem_cons.mp hz with rfl | hz
      · exact .inl hr
      · rcases h1 z hz with q | q
        · exact .inl (by omega)
        · exact .inl (by omega)
    · rename_i hr
      refine List.pairwise_cons.mpr ⟨fun z hz => ?_, insD_pair h2 fun z hz => hx z (by simp [hz])⟩
      rcases insD_mem.mp hz with rfl | hz
      · have := hx y (by simp)
        by_cases he : r y = r z
        · exact .inr ⟨he, this⟩
        · exact .inl (by omega)
      · exact h1 z hz
theorem foldD {r : Nat → Int} : ∀ (l a : List Nat), a.Pairwise (AheadD r) → l.Pairwise (· < ·) → (∀ y ∈ a, ∀ x ∈ l, y < x) →
    (l.foldl (fun a x => insD r x a) a).Pairwise (AheadD r) ∧ (∀ z, z ∈ l.foldl (fun a x => insD r x a) a ↔ z ∈ a ∨ z ∈ l) ∧ (l.foldl (fun a x => insD r x a) a).length = a.length + l.length
  | [], a, h, _, _ => ⟨h, by simp, by simp⟩
  | x :: l, a, h, hl, hx => by
    obtain ⟨h1, h2⟩ := List.pairwise_cons.mp hl
    obtain ⟨q1, q2, q3⟩ := foldD l (insD r x a) (insD_pair h fun y hy => hx y hy x (by simp)) h2 (fun y hy z hz => by
      rcases insD_mem.mp hy with rfl | hy
      · exact h1 z hz
      · exact hx y hy z (by simp [hz]))
    refine ⟨q1, fun z => ?_, by rw [List.foldl_cons, q3, insD_len, List.length_cons]; omega⟩
    rw [List.foldl_cons, q2, insD_mem, List.mem_cons]
    constructor
    · rintro ((h | h) | h) <;> simp [h]
    · rintro (h | h | h) <;> simp [h]
theorem isortD_facts {r : Nat → Int} {l : List Nat} (hl : l.Pairwise (· < ·)) : (Y3 r l).Pairwise (AheadD r) ∧ (∀ z, z ∈ Y3 r l ↔ z ∈ l) ∧ (Y3 r l).length = l.length := by
  obtain ⟨h1, h2, h3⟩ := foldD (r := r) l [] (by simp) hl (by simp)
  exact ⟨h1, fun z => by rw [Y3, h2]; simp, by rw [Y3, h3]; simp⟩
theorem insD_map {r : Nat → Int} {f : Nat → Nat} {x : Nat} : ∀ {l : List Nat}, insD r (f x) (l.map f) = (insD (fun i => r (f i)) x l).map f
  | [] => rfl
  | y :: l => by
    simp only [List.map_cons, insD]
    split
    · rfl
    · rw [insD_map (l := l)]; rfl
theorem isortD_map {r : Nat → Int} {f : Nat → Nat} {l : List Nat} : Y3 r (l.map f) = (Y3 (fun i => r (f i)) l).map f := by
  have : ∀ (l a : List Nat), (l.map f).foldl (fun a x => insD r x a) (a.map f) = (l.foldl (fun a x => insD (fun i => r (f i)) x a) a).map f := by
    intro l
    induction l with
    | nil => intro a; rfl
    | cons x l ih => intro a; simp only [List.map_cons, List.foldl_cons, insD_map, ih]
  exact this l []
def bestD (r : Nat → Int) : List Nat → Option Nat → Option Nat
  | [], b => b
  | i :: l, none => bestD r l (some i)
  | i :: l, some b => if r b < r i then bestD r l (some i) else bestD r l (some b)
theorem bestD_some {r : Nat → Int} : ∀ {l : List Nat} {b : Nat}, (∀ i ∈ l, b < i) → l.Pairwise (· < ·) → ∃ c, bestD r l (some b) = some c ∧ (c = b ∨ c ∈ l) ∧ (c = b ∨ AheadD r c b) ∧ ∀ i ∈ l, i = c ∨ AheadD r c i
  | [], b, _, _ => ⟨b, rfl, .inl rfl, .inl rfl, by simp⟩
  | i :: l, b, h, hl => by
    obtain ⟨h1, h2⟩ := List.pairwise_cons.mp hl
    unfold bestD
    split
    · rename_i hr
      obtain ⟨c, q1, q2, q3, q4⟩ := bestD_some (r := r) (b := i) h1 h2
      refine ⟨c, q1, .inr (by rcases q2 with h | h <;> simp [h]), .inr ?_, fun j hj => ?_⟩
      · rcases q3 with rfl | q3
        · exact .inl hr
        · rcases q3 with q | q
          · exact .inl (by omega)
          · exact .inl (by omega)
      · rcases List.mem_cons.mp hj with rfl | hj
        · rcases q3 with rfl | q3
          · exact .inl rfl
          · exact .inr q3
        · exact q4 j hj
    · rename_i hr
      have hb := h i (by simp)
      obtain ⟨c, q1, q2, q3, q4⟩ := bestD_some (r := r) (b := b) (fun j hj => h j (by simp [hj])) h2
      refine ⟨c, q1, by rcases q2 with h | h <;> simp [h], q3, fun j hj => ?_⟩
      rcases List.mem_cons.mp hj with rfl | hj
      · have hbi : AheadD r b j := by
          by_cases he : r b = r j
          · exact .inr ⟨he, hb⟩
          · exact .inl (by omega)
        rcases q3 with rfl | q3
        · exact .inr hbi
        · right
          rcases q3 with q | q <;> rcases hbi with p | p
          · exact .inl (by omega)
          · exact .inl (by omega)
          · exact .inl (by omega)
          · exact .inr ⟨by omega, by omega⟩
      · exact q4 j hj
theorem best_next {r : Nat → Int} {l : List Nat} (hl : l.Pairwise (· < ·)) (h0 : ∀ i ∈ l, 0 ≤ r i) {t : Nat} (ht : t < l.length) {r' : Nat → Int}
    (hr : ∀ i ∈ l, r' i = if i ∈ (Y3 r l).take t then -1 else r i) : bestD r' l none = (Y3 r l)[t]? := by
  obtain ⟨s1, s2, s3⟩ := isortD_facts (r := r) hl
  have hT : t < (Y3 r l).length := by omega
  generalize Y3 r l = S at s1 s2 s3 hr hT ⊢
  rw [List.getElem?_eq_getElem hT]
  cases l with
  | nil => simp at ht
  | cons a l =>
    obtain ⟨h1, h2⟩ := List.pairwise_cons.mp hl
    obtain ⟨c, q1, q2, q3, q4⟩ := bestD_some (r := r') h1 h2
    unfold bestD
    rw [q1]
    congr 1
    have hnd : S.Nodup := s1.imp fun {i j} h e => by subst e; rcases h with h | h <;> omega
    have hSt : S[t] ∉ S.take t := fun h => by
      obtain ⟨i, hi, he⟩ := List.mem_take_iff_getElem.mp h
      have := (List.getElem_inj hnd).mp he
      omega
    have hm : S[t] ∈ a :: l := (s2 _).mp (List.getElem_mem hT)
    have hrt : r' S[t] = r S[t] := by rw [hr _ hm, if_neg hSt]
    have h0t := h0 _ hm
    -- c is in the list, and nothing is ahead of it
    have hcm : c ∈ a :: l := by rcases q2 with h | h <;> simp [h]
    have hall : ∀ i ∈ a :: l, i = c ∨ AheadD r' c i := fun i hi => by
      rcases List.mem_cons.mp hi with rfl | hi
      · rcases q3 with rfl | q
        · exact .inl rfl
        · exact .inr q
      · exact q4 i hi
    rcases hall _ hm with h | h
    · exact h.symm
    · exfalso
      have hcn : c ∉ S.take t := fun hc => by
        have := hr c hcm
        rw [if_pos hc] at this
        rcases h with h | h <;> omega
      have hcr : r' c = r c := by rw [hr c hcm, if_neg hcn]
      obtain ⟨j, hj, rfl⟩ := List.mem_iff_getElem.mp ((s2 c).mpr hcm)
      have hjt : t < j := by
        rcases Nat.lt_trichotomy j t with q | q | q
        · exact absurd (List.mem_take_iff_getElem.mpr ⟨j, by omega, rfl⟩) hcn
        · subst q
          rcases h with h | h <;> omega
        · exact q
      have := List.pairwise_iff_getElem.mp s1 t j hT hj hjt
      rw [AheadD, hrt, hcr] at h
      rcases this with p | p <;> rcases h with q | q <;> omega
section
variable (w c o : Nat → Int) (L : Nat) (n : Int)
def opB (i : Nat) : Bool := decide (0 < w i) && decide (o i < c i)
def opL : List Nat := (List.range L).filter (opB w c o)
def smL (l : List Nat) : Int := (l.map w).sum
abbrev smD : Int := smL w (opL w c o L)
def bsD (s : Int) (i : Nat) : Int := Int.tdiv (n * w i) s
def rsD (s : Int) (i : Nat) : Int := Int.tmod (n * w i) s
def lfD (s : Int) (l : List Nat) : Int := n - (l.map (bsD w n s)).sum
def chD (s : Int) (l : List Nat) : List Nat := (Y3 (rsD w n s) l).take (lfD w n s l).toNat
def xD (s : Int) (l : List Nat) (i : Nat) : Int := bsD w n s i + if i ∈ chD w n s l then 1 else 0
def clD (s : Int) (l : List Nat) (i : Nat) : Int := if c i - o i < xD w n s l i then c i - o i else xD w n s l i
end
theorem sum_le {f : Nat → Int} {b : Int} : ∀ {l : List Nat}, (∀ i ∈ l, 0 ≤ f i ∧ f i ≤ b) → 0 ≤ (l.map f).sum ∧ (l.map f).sum ≤ b * l.length
  | [], _ => by simp
  | x :: l, h => by
    obtain ⟨q1, q2⟩ := sum_le (f := f) (b := b) (l := l) fun i hi => h i (by simp [hi])
    obtain ⟨p1, p2⟩ := h x (by simp)
    simp only [List.map_cons, List.sum_cons, List.length_cons]
    have : b * ((l.length + 1 : Nat) : Int) = b * (l.length : Int) + b := by rw [show ((l.length + 1 : Nat) : Int) = (l.length : Int) + 1 by omega, Int.mul_add, Int.mul_one]
    omega
theorem sum_split {w : Nat → Int} {n s : Int} (hs : 0 < s) (hn : 0 ≤ n) : ∀ {l : List Nat}, (∀ i ∈ l, 0 ≤ w i) → n * (l.map w).sum = s * (l.map (bsD w n s)).sum + (l.map (rsD w n s)).sum
  | [], _ => by simp
  | x :: l, h => by
    have ih := sum_split (w := w) hs hn (l := l) fun i hi => h i (by simp [hi])
    have h1 : s * bsD w n s x + rsD w n s x = n * w x := Int.mul_tdiv_add_tmod (n * w x) s
    simp only [List.map_cons, List.sum_cons]
    rw [Int.mul_add, Int.mul_add, ih, ← h1]
    omega
theorem rsD_bound {w : Nat → Int} {n s : Int} (hs : 0 < s) (hn : 0 ≤ n) {i : Nat} (h : 0 ≤ w i) : 0 ≤ rsD w n s i ∧ rsD w n s i < s ∧ 0 ≤ bsD w n s i := by
  have h0 : 0 ≤ n * w i := Int.mul_nonneg hn h
  exact ⟨Int.tmod_nonneg _ h0, Int.tmod_lt_of_pos _ hs, Int.tdiv_nonneg h0 (by omega)⟩
theorem lfD_bound {w : Nat → Int} {n : Int} {l : List Nat} (hn : 0 ≤ n) (hw : ∀ i ∈ l, 0 < w i) (hl : l ≠ []) : 0 < smL w l ∧ 0 ≤ lfD w n (smL w l) l ∧ lfD w n (smL w l) l < l.length ∧ 0 ≤ (l.map (bsD w n (smL w l))).sum := by
  have hs : 0 < smL w l := by
    cases l with
    | nil => exact absurd rfl hl
    | cons x l =>
      unfold smL
      have h1 := hw x (by simp)
      have h2 : 0 ≤ (l.map w).sum := by
        have : ∀ {l : List Nat}, (∀ i ∈ l, 0 < w i) → 0 ≤ (l.map w).sum := fun {l} => by
          induction l with
          | nil => simp
          | cons y l ih =>
            intro h
            have := h y (by simp)
            have := ih fun i hi => h i (by simp [hi])
            simp only [List.map_cons, List.sum_cons]
            omega
        exact this fun i hi => hw i (by simp [hi])
      simp only [List.map_cons, List.sum_cons]
      omega
  have hsp := sum_split (w := w) (n := n) hs hn (l := l) fun i hi => Int.le_of_lt (hw i hi)
  have hr := sum_le (f := rsD w n (smL w l)) (b := smL w l - 1) (l := l) fun i hi => by
    obtain ⟨p1, p2, _⟩ := rsD_bound (w := w) (n := n) hs hn (i := i) (Int.le_of_lt (hw i hi))
    omega
  change n * smL w l = _ at hsp
  have hb0 : 0 ≤ (l.map (bsD w n (smL w l))).sum := by
    have : ∀ {l' : List Nat} {s : Int}, 0 < s → (∀ i ∈ l', 0 < w i) → 0 ≤ (l'.map (bsD w n s)).sum := fun {l' s} hs => by
      induction l' with
      | nil => simp
      | cons y l ih =>
        intro h
        obtain ⟨_, _, p⟩ := rsD_bound (w := w) (n := n) hs hn (i := y) (Int.le_of_lt (h y (by simp)))
        have := ih fun i hi => h i (by simp [hi])
        simp only [List.map_cons, List.sum_cons]
        omega
    exact this hs hw
  generalize (l.map (rsD w n (smL w l))).sum = R at hsp hr
  have hlf : smL w l * lfD w n (smL w l) l = R := by
    unfold lfD
    rw [Int.mul_sub, Int.mul_comm _ n, hsp]
    omega
  refine ⟨hs, ?_, ?_, hb0⟩
  · generalize lfD w n (smL w l) l = f at hlf
    apply Int.not_lt.mp
    intro h
    have := Int.mul_neg_of_pos_of_neg hs h
    omega
  · generalize lfD w n (smL w l) l = f at hlf
    have h1 : smL w l * f < smL w l * l.length := by
      rw [hlf]
      have : (smL w l - 1) * (l.length : Int) = smL w l * l.length - l.length := by rw [Int.sub_mul, Int.one_mul]
      have h2 : 0 < l.length := List.length_pos_iff.mpr hl
      omega
    exact Int.lt_of_mul_lt_mul_left h1 (Int.le_of_lt hs)
theorem opL_facts {w c o : Nat → Int} {L : Nat} : (opL w c o L).Pairwise (· < ·) ∧ ∀ i, i ∈ opL w c o L ↔ i < L ∧ 0 < w i ∧ o i < c i := by
  refine ⟨List.Pairwise.filter _ List.pairwise_lt_range, fun i => ?_⟩
  simp [opL, opB]
theorem xD_sum {w : Nat → Int} {n : Int} {l : List Nat} (hp : l.Pairwise (· < ·)) (hn : 0 ≤ n) (hw : ∀ i ∈ l, 0 < w i) (hl : l ≠ []) : (l.map (xD w n (smL w l) l)).sum = n := by
  obtain ⟨h1, h2, h3, _⟩ := lfD_bound hn hw hl
  generalize hs : smL w l = s at h1 h2 h3
  obtain ⟨s1, s2, s3⟩ := isortD_facts (r := rsD w n s) hp
  have hnd : (chD w n s l).Nodup := by
    have : (Y3 (rsD w n s) l).Nodup := s1.imp fun {i j} h e => by subst e; rcases h with h | h <;> omega
    exact this.sublist (List.take_sublist _ _)
  have hlen : ((chD w n s l).length : Int) = lfD w n s l := by
    unfold chD
    rw [List.length_take, s3]
    omega
  have hsub : ∀ i ∈ chD w n s l, i ∈ l := fun i hi => (s2 i).mp (List.mem_of_mem_take hi)
  have hcount : ∀ (l : List Nat), l.Pairwise (· < ·) → ∀ (ch : List Nat), ch.Nodup → (∀ i ∈ ch, i ∈ l) → (l.map fun i => if i ∈ ch then (1 : Int) else 0).sum = ch.length := by
    intro l
    induction l with
    | nil =>
      intro _ ch _ h
      cases ch with
      | nil => rfl
      | cons x ch => exact absurd (h x (by simp)) (by simp)
    | cons x l ih =>
      intro hp ch hnd hsub
      obtain ⟨p1, p2⟩ := List.pairwise_cons.mp hp
      simp only [List.map_cons, List.sum_cons]
      have hx : x ∉ l := fun h => by have := p1 x h; omega
      have e : (l.map fun i => if i ∈ ch then (1 : Int) else 0) = l.map fun i => if i ∈ ch.erase x then (1 : Int) else 0 := List.map_congr_left fun i hi => by
        have : i ≠ x := fun h => hx (h ▸ hi)
        simp only [List.mem_erase_of_ne this]
      rw [e, ih p2 (ch.erase x) (hnd.erase x) fun i hi => by
        have hne : i ≠ x := fun h => by subst h; exact (List.Nodup.not_mem_erase hnd) hi
        rcases List.mem_cons.mp (hsub i (List.mem_of_mem_erase hi)) with h | h
        · exact absurd h hne
        · exact h]
      by_cases hm : x ∈ ch
      · rw [if_pos hm, List.length_erase_of_mem hm]
        have := List.length_pos_of_mem hm
        omega
      · rw [if_neg hm, List.erase_of_not_mem hm]
        omega
  have hadd : ∀ (l : List Nat) (f g : Nat → Int), (l.map fun i => f i + g i).sum = (l.map f).sum + (l.map g).sum := by
    intro l f g
    induction l with
    | nil => rfl
    | cons x l ih => simp only [List.map_cons, List.sum_cons, ih]; omega
  have : l.map (xD w n s l) = l.map fun i => bsD w n s i + (if i ∈ chD w n s l then (1 : Int) else 0) := rfl
  rw [this, hadd, hcount l hp _ hnd hsub, hlen]
  unfold lfD
  omega
theorem clD_sum {w c o : Nat → Int} {n : Int} {l : List Nat} (hp : l.Pairwise (· < ·)) (hn : 0 < n) (hw : ∀ i ∈ l, 0 < w i) (hc : ∀ i ∈ l, o i < c i) (hl : l ≠ []) :
    (∀ i ∈ l, 0 ≤ clD w c o n (smL w l) l i ∧ clD w c o n (smL w l) l i ≤ c i - o i ∧ 0 ≤ xD w n (smL w l) l i) ∧ 0 < (l.map (clD w c o n (smL w l) l)).sum ∧ (l.map (clD w c o n (smL w l) l)).sum ≤ n := by
  obtain ⟨h1, h2, h3, _⟩ := lfD_bound (Int.le_of_lt hn) hw hl
  have hx := xD_sum hp (Int.le_of_lt hn) hw hl
  generalize smL w l = s at *
  have hx0 : ∀ i ∈ l, 0 ≤ xD w n s l i := fun i hi => by
    obtain ⟨_, _, p⟩ := rsD_bound (w := w) (n := n) h1 (Int.le_of_lt hn) (i := i) (Int.le_of_lt (hw i hi))
    unfold xD
    split <;> omega
  have hcl : ∀ i ∈ l, 0 ≤ clD w c o n s l i ∧ clD w c o n s l i ≤ c i - o i ∧ clD w c o n s l i ≤ xD w n s l i ∧ (0 < xD w n s l i → 0 < clD w c o n s l i) := fun i hi => by
    have := hx0 i hi
    have := hc i hi
    unfold clD
    split <;> omega
  refine ⟨fun i hi => ⟨(hcl i hi).1, (hcl i hi).2.1, hx0 i hi⟩, ?_⟩
  have gen : ∀ l' : List Nat, (∀ i ∈ l', i ∈ l) → 0 ≤ (l'.map (clD w c o n s l)).sum ∧ (l'.map (clD w c o n s l)).sum ≤ (l'.map (xD w n s l)).sum ∧ (0 < (l'.map (xD w n s l)).sum → 0 < (l'.map (clD w c o n s l)).sum) := by
    intro l'
    induction l' with
    | nil => intro _; simp
    | cons y l' ih =>
      intro h
      obtain ⟨q1, q2, q3⟩ := ih fun i hi => h i (by simp [hi])
      obtain ⟨p1, _, p2, p3⟩ := hcl y (h y (by simp))
      have := hx0 y (h y (by simp))
      simp only [List.map_cons, List.sum_cons]
      refine ⟨by omega, by omega, fun h => ?_⟩
      by_cases h0 : 0 < xD w n s l y
      · have := p3 h0; omega
      · have := q3 (by omega); omega
  have := gen l fun i hi => hi
  rw [hx] at this
  exact ⟨this.2.2 hn, this.2.1⟩
def rowF (L : Nat) (g : Nat → C) : List (List C) := (List.range L).map fun j => [g j]
def rowD (L : Nat) (g : Nat → D) : List (List D) := (List.range L).map fun j => [g j]
abbrev cI (o : Nat → Int) : Nat → C := fun j => .d (.int .i64 (o j))
abbrev cB (o : Nat → Bool) : Nat → C := fun j => .d (.bool (o j))
theorem rowF_len (L : Nat) (g : Nat → C) : (rowF L g).length = L := by simp [rowF]
theorem rowD_len (L : Nat) (g : Nat → D) : (rowD L g).length = L := by simp [rowD]
theorem rowF_ext {L : Nat} {g h : Nat → C} (e : ∀ j, j < L → g j = h j) : rowF L g = rowF L h := List.map_congr_left fun j hj => by rw [e j (List.mem_range.mp hj)]
theorem rowF_at {L : Nat} {g : Nat → C} {i : Nat} (h : i < L) {β : Type} (F : List C → Option β) : ZaR (rowF L g) i F = F [g i] := by
  unfold ZaR rowF
  rw [List.getElem?_map, List.getElem?_range h]
  rfl
theorem rowF_mod {L : Nat} {g : Nat → C} {i : Nat} (h : i < L) (x : C) : ((rowF L g).modify i fun c => Zs c 0 [x]) = rowF L (fun j => if j = i then x else g j) := by
  refine List.ext_getElem (by simp [rowF]) fun j h1 h2 => ?_
  rw [List.getElem_modify]
  simp only [rowF, List.getElem_map, List.getElem_range]
  by_cases hj : i = j
  · subst hj; simp [Zs]
  · rw [if_neg hj, if_neg (fun h => hj h.symm)]
theorem rowF_rep (L : Nat) (x : C) : List.replicate L [x] = rowF L (fun _ => x) := by
  refine List.ext_getElem (by simp [rowF]) fun j h1 h2 => ?_
  simp [rowF]
theorem immRows_map : ∀ (l : List (List C)), C.immRows l = l.map C.immCells
  | [] => rfl
  | x :: l => by simp only [C.immRows, List.map_cons, immRows_map l]
theorem imm_rowF (L : Nat) (g : Nat → C) : C.immRows (rowF L g) = rowD L (fun j => (g j).imm) := by
  rw [immRows_map, rowF, rowD, List.map_map]
  rfl
theorem rowD_at {L : Nat} {g : Nat → D} {i : Nat} (h : i < L) {β : Type} (F : List D → Option β) : atRow (rowD L g) (i : Int) F = F [g i] := by
  unfold atRow
  rw [if_pos (by omega), Int.toNat_natCast]
  unfold ZaR rowD
  rw [List.getElem?_map, List.getElem?_range h]
  rfl
theorem deep_rowI {L : Nat} {o : Nat → Int} : Zc (rowD L (fun j => .int .i64 (o j))) = rowF L (cI o) := by
  have : ∀ l : List Nat, Zc (l.map fun j => [D.int .i64 (o j)]) = l.map fun j => [C.d (.int .i64 (o j))] := fun l => by
    induction l with
    | nil => rfl
    | cons x l ih => simp only [List.map_cons, Zc, ZN, deepD, ih]
  exact this _
def upN (l : List Nat) : List (List C) := l.map fun (x : Nat) => [.d (.int .i64 (x : Int))]
def ofN (l : List Nat) : List (List D) := l.map fun (x : Nat) => [.int .i64 (x : Int)]
theorem upN_len (l : List Nat) : (upN l).length = l.length := by simp [upN]
theorem ofN_len (l : List Nat) : (ofN l).length = l.length := by simp [ofN]
theorem upN_app (a b : List Nat) : upN a ++ upN b = upN (a ++ b) := by simp [upN]
theorem imm_upN (l : List Nat) : C.immRows (upN l) = ofN l := by
  rw [immRows_map, upN, ofN, List.map_map]
  rfl
theorem upN_at {l : List Nat} {i : Nat} (h : i < l.length) {β : Type} (F : List C → Option β) : ZaR (upN l) i F = F [.d (.int .i64 (l[i] : Int))] := by simp [ZaR, upN, h]
theorem ofN_at {l : List Nat} {i : Nat} (h : i < l.length) {β : Type} (F : List D → Option β) : atRow (ofN l) (i : Int) F = F [.int .i64 (l[i] : Int)] := by
  unfold atRow
  rw [if_pos (by omega), Int.toNat_natCast]
  simp [ZaR, ofN, h]
theorem range_filter_succ (p : Nat → Bool) (i : Nat) : (List.range (i + 1)).filter p = (List.range i).filter p ++ (if p i then [i] else []) := by
  rw [List.range_succ, List.filter_append]
  simp [List.filter_cons]
section
variable {α : Type} (less same : α → α → Bool)
structure Ordered : Prop where
  irr : ∀ x y, same x y = true → less x y = false
  tri : ∀ x y, less x y = false → same x y = false → less y x = true
  asym : ∀ x y, less x y = true → less y x = false
  trans : ∀ x y z, less x y = true → less y z = true → less x z = true
  cong : ∀ x y z, same x y = true → less y z = true → less x z = true
  sym : ∀ x y, same x y = true → same y x = true
def withF (o o' : α) : Bool → List α → List α
  | put, [] => if put then [] else [o']
  | put, x :: xs => (if !put && !less x o then [o'] else []) ++ ((if same x o then [] else [x]) ++ withF o o' (put || !less x o) xs)
def lbF (o : α) (l : List α) : Nat := (l.takeWhile fun x => less x o).length
def hitF (o : α) (l : List α) : Bool := match l[lbF less o l]? with | some x => same x o | none => false
end
section
variable {α : Type} {less same : α → α → Bool} (H : Ordered less same) {o o' : α}
include H
theorem withF_past : ∀ {l : List α}, (∀ x ∈ l, less o x = true) → withF less same o o' true l = l
  | [], _ => rfl
  | x :: xs, h => by
    have hx := h x (by simp)
    have hs : same x o = false := by
      cases q : same x o
      · rfl
      · have := H.irr o x (H.sym _ _ q)
        rw [hx] at this; cases this
    unfold withF
    rw [hs, Bool.true_or, withF_past fun y hy => h y (by simp [hy])]
    rfl
theorem withF_eq : ∀ {l : List α}, l.Pairwise (fun x y => less x y = true) → withF less same o o' false l = l.take (lbF less o l) ++ o' :: l.drop (lbF less o l + if hitF less same o l then 1 else 0)
  | [], _ => rfl
  | x :: xs, h => by
    obtain ⟨h1, h2⟩ := List.pairwise_cons.mp h
    cases hx : less x o with
    | true =>
      have hs : same x o = false := by
        cases q : same x o
        · rfl
        · have := H.irr _ _ q
          rw [hx] at this; cases this
      have e : lbF less o (x :: xs) = lbF less o xs + 1 := by simp [lbF, List.takeWhile_cons, hx]
      have e2 : hitF less same o (x :: xs) = hitF less same o xs := by unfold hitF; rw [e]; rfl
      unfold withF
      rw [hx, hs]
      show [x] ++ withF less same o o' false xs = _
      rw [withF_eq h2, e, e2]
      simp only [List.nil_append, List.take_succ_cons, List.cons_append]
      rw [show lbF less o xs + 1 + (if hitF less same o xs = true then 1 else 0) = (lbF less o xs + if hitF less same o xs = true then 1 else 0) + 1 by omega, List.drop_succ_cons]
    | false =>
      have e : lbF less o (x :: xs) = 0 := by simp [lbF, List.takeWhile_cons, hx]
      have e2 : hitF less same o (x :: xs) = same x o := by unfold hitF; rw [e]; rfl
      have hp : ∀ y ∈ xs, less o y = true := fun y hy => by
        cases hs : same x o with
        | true => exact H.cong _ _ _ (H.sym _ _ hs) (h1 y hy)
        | false => exact H.trans _ _ _ (H.tri _ _ hx hs) (h1 y hy)
      unfold withF
      rw [hx, Bool.not_false, Bool.false_or, withF_past H hp, e, e2]
      cases same x o <;> simp
omit H in
theorem lbF_below : ∀ {l : List α} {i : Nat} (hi : i < l.length), i < lbF less o l → less l[i] o = true
  | x :: xs, i, hi, h => by
    cases hx : less x o with
    | false => simp [lbF, List.takeWhile_cons, hx] at h
    | true =>
      cases i with
      | zero => exact hx
      | succ i => exact lbF_below (l := xs) (by simpa using hi) (by simpa [lbF, List.takeWhile_cons, hx] using h)
theorem lbF_above : ∀ {l : List α} (_ : l.Pairwise (fun x y => less x y = true)) {i : Nat} (hi : i < l.length), lbF less o l ≤ i → less l[i] o = false
  | x :: xs, hp, i, hi, h => by
    obtain ⟨h1, h2⟩ := List.pairwise_cons.mp hp
    cases hx : less x o with
    | true =>
      cases i with
      | zero => simp [lbF, List.takeWhile_cons, hx] at h
      | succ i => exact lbF_above h2 (by simpa using hi) (by simpa [lbF, List.takeWhile_cons, hx] using h)
    | false =>
      cases i with
      | zero => exact hx
      | succ i =>
        have hxi := h1 (xs[i]'(by simpa using hi)) (List.getElem_mem _)
        show less (xs[i]'(by simpa using hi)) o = false
        cases q : less (xs[i]'(by simpa using hi)) o with
        | false => rfl
        | true =>
          have := H.trans _ _ _ hxi q
          rw [hx] at this; cases this
end
def ltK (key : Nat → Int) (i j : Nat) : Prop := key i < key j ∨ (key i = key j ∧ i < j)
theorem ltK_tr {key : Nat → Int} {i j l : Nat} (h : ltK key i j) (h' : ltK key j l) : ltK key i l := by
  unfold ltK at *; omega
theorem ltK_as {key : Nat → Int} {i j : Nat} (h : ltK key i j) : ¬ ltK key j i := by
  unfold ltK at *; omega
theorem st_uniq {key : Nat → Int} : ∀ {L M : List Nat}, L.Pairwise (ltK key) → M.Pairwise (ltK key) → (∀ x, x ∈ L ↔ x ∈ M) → L = M
  | [], [], _, _, _ => rfl
  | [], y :: M, _, _, h => by have := (h y).mpr (by simp); simp at this
  | x :: L, [], _, _, h => by have := (h x).mp (by simp); simp at this
  | x :: L, y :: M, hL, hM, h => by
    obtain ⟨hx, hL2⟩ := List.pairwise_cons.mp hL
    obtain ⟨hy, hM2⟩ := List.pairwise_cons.mp hM
    have e : x = y := by
      rcases List.mem_cons.mp ((h x).mp (by simp)) with e | e
      · exact e
      · rcases List.mem_cons.mp ((h y).mpr (by simp)) with e2 | e2
        · exact e2.symm
        · exact absurd (hy x e) (ltK_as (hx y e2))
    subst e
    refine congrArg _ (st_uniq hL2 hM2 fun z => ⟨fun hz => ?_, fun hz => ?_⟩)
    · rcases List.mem_cons.mp ((h z).mp (by simp [hz])) with e | e
      · subst e; exact absurd (hx z hz) (fun q => ltK_as q q)
      · exact e
    · rcases List.mem_cons.mp ((h z).mpr (by simp [hz])) with e | e
      · subst e; exact absurd (hy z hz) (fun q => ltK_as q q)
      · exact e
def StOf (key : Nat → Int) (L R : List Nat) : Prop := R.Pairwise (ltK key) ∧ R.Perm L
theorem StOf.len {key : Nat → Int} {L R : List Nat} (h : StOf key L R) : R.length = L.length := h.2.length_eq
theorem st_join {key : Nat → Int} {A1 A2 B1 B2 R1 R2 : List Nat} (hA : (A1 ++ A2).Pairwise (ltK key)) (hB : (B1 ++ B2).Pairwise (ltK key)) (h1 : ∀ x ∈ A1, ∀ y ∈ B2, ltK key x y) (h2 : ∀ x ∈ A2, ∀ y ∈ B1, ltK key y x)
    (r1 : StOf key (A1 ++ B1) R1) (r2 : StOf key (A2 ++ B2) R2) : StOf key ((A1 ++ A2) ++ (B1 ++ B2)) (R1 ++ R2) := by
  refine ⟨List.pairwise_append.mpr ⟨r1.1, r2.1, fun x hx y hy => ?_⟩, ?_⟩
  · have hA3 := (List.pairwise_append.mp hA).2.2
    have hB3 := (List.pairwise_append.mp hB).2.2
    rcases List.mem_append.mp (r1.2.mem_iff.mp hx) with hx | hx <;> rcases List.mem_append.mp (r2.2.mem_iff.mp hy) with hy | hy
    · exact hA3 x hx y hy
    · exact h1 x hx y hy
    · exact h2 y hy x hx
    · exact hB3 x hx y hy
  · refine (r1.2.append r2.2).trans ?_
    rw [List.append_assoc, List.append_assoc]
    refine List.Perm.append_left A1 ?_
    rw [← List.append_assoc, ← List.append_assoc]
    exact List.Perm.append_right B2 List.perm_append_comm
theorem st_cut {key : Nat → Int} {L : List Nat} (h : L.Pairwise (ltK key)) {i j : Nat} (hi : i < L.length) (hj : j < L.length) (hij : i < j) : ltK key L[i] L[j] := List.pairwise_iff_getElem.mp h i j hi hj hij
theorem st_le {key : Nat → Int} {L : List Nat} (h : L.Pairwise (ltK key)) {i j : Nat} (hi : i < L.length) (hj : j < L.length) (hij : i ≤ j) : L[i] = L[j] ∨ ltK key L[i] L[j] := by
  rcases Nat.lt_or_eq_of_le hij with h1 | h1
  · exact .inr (st_cut h hi hj h1)
  · subst h1; exact .inl rfl
theorem mem_take_get {L : List Nat} {s x : Nat} (h : x ∈ L.take s) : ∃ i, ∃ (hi : i < L.length), i < s ∧ L[i] = x := by
  obtain ⟨i, hi, rfl⟩ := List.mem_iff_getElem.mp h
  rw [List.length_take] at hi
  exact ⟨i, by omega, by omega, by simp⟩
theorem mem_drop_get {L : List Nat} {s x : Nat} (h : x ∈ L.drop s) : ∃ i, ∃ (hi : i < L.length), s ≤ i ∧ L[i] = x := by
  obtain ⟨i, hi, rfl⟩ := List.mem_iff_getElem.mp h
  rw [List.length_drop] at hi
  exact ⟨s + i, by omega, by omega, by simp⟩
theorem st_across {key : Nat → Int} {A B : List Nat} (hA : A.Pairwise (ltK key)) (hB : B.Pairwise (ltK key)) {s e : Nat} (h : ∀ (h0 : 0 < s) (h1 : s ≤ A.length) (h2 : e < B.length), ltK key (A[s - 1]'(by omega)) B[e]) (hs : s ≤ A.length) : ∀ x ∈ A.take s, ∀ y ∈ B.drop e, ltK key x y := by
  intro x hx y hy
  obtain ⟨i, hi, his, rfl⟩ := mem_take_get hx
  obtain ⟨j, hj, hej, rfl⟩ := mem_drop_get hy
  have h0 := h (by omega) hs (by omega)
  have h1 : A[i] = A[s - 1]'(by omega) ∨ ltK key A[i] (A[s - 1]'(by omega)) := st_le hA hi (by omega) (by omega)
  have h2 : B[e]'(by omega) = B[j] ∨ ltK key (B[e]'(by omega)) B[j] := st_le hB (by omega) hj hej
  rcases h1 with h1 | h1 <;> rcases h2 with h2 | h2
  · rw [h1, ← h2]; exact h0
  · rw [h1]; exact ltK_tr h0 h2
  · rw [← h2]; exact ltK_tr h1 h0
  · exact ltK_tr h1 (ltK_tr h0 h2)
def leK (key : Nat → Int) (i j : Nat) : Bool := decide (key i < key j ∨ (key i = key j ∧ i ≤ j))
def YY (key : Nat → Int) (L : List Nat) : List Nat := L.mergeSort (leK key)
theorem Y8 {key : Nat → Int} {L : List Nat} (h : L.Nodup) : StOf key L (YY key L) := by
  have hp : (YY key L).Perm L := List.mergeSort_perm L _
  have h1 : (YY key L).Pairwise (fun a b => leK key a b = true) := List.pairwise_mergeSort (fun a b c h1 h2 => by simp only [leK, decide_eq_true_eq] at *; omega) (fun a b => by simp only [leK, Bool.or_eq_true, decide_eq_true_eq]; omega) L
  have h2 : (YY key L).Nodup := hp.nodup_iff.mpr h
  refine ⟨?_, hp⟩
  refine List.Pairwise.imp ?_ (h1.and h2)
  intro a b ⟨h3, h4⟩
  simp only [leK, decide_eq_true_eq] at h3
  unfold ltK
  omega
theorem StOf.nodup {key : Nat → Int} {L R : List Nat} (h : StOf key L R) : L.Nodup := by
  refine h.2.nodup_iff.mp (List.Pairwise.imp ?_ h.1)
  intro a b h1 h2
  subst h2
  exact ltK_as h1 h1
theorem srtK_eq {key : Nat → Int} {L R : List Nat} (h : StOf key L R) : R = YY key L := by
  have h2 := Y8 (key := key) h.nodup
  exact st_uniq h.1 h2.1 fun x => by rw [h.2.mem_iff, h2.2.mem_iff]
theorem YX {key : Nat → Int} {L : List Nat} : (YY key L).length = L.length := (List.mergeSort_perm L _).length_eq
theorem srtK_mem {key : Nat → Int} {L : List Nat} {x : Nat} : x ∈ YY key L ↔ x ∈ L := (List.mergeSort_perm L _).mem_iff
theorem srtK_self {key : Nat → Int} {L : List Nat} (h : L.Pairwise (ltK key)) : YY key L = L := (srtK_eq ⟨h, List.Perm.refl _⟩).symm
def cmpL (key : Nat → Int) : Nat → List Nat → List Nat
  | _, [] => []
  | x, s :: r => bif key s == key x then cmpL key s r else s :: cmpL key s r
theorem cmpL_spec {key : Nat → Int} : ∀ {r : List Nat} {x : Nat}, (x :: r).Pairwise (ltK key) → (cmpL key x r).Pairwise (fun i j => key i < key j) ∧ (∀ y ∈ cmpL key x r, key x < key y) ∧ ∀ y, y ∈ cmpL key x r ↔ y ∈ r ∧ key y ≠ key x ∧ ∀ z ∈ r, key z = key y → y ≤ z
  | [], x, _ => ⟨List.Pairwise.nil, by simp [cmpL], by simp [cmpL]⟩
  | s :: r, x, h => by
    obtain ⟨hx, h2⟩ := List.pairwise_cons.mp h
    obtain ⟨hs, h3⟩ := List.pairwise_cons.mp h2
    obtain ⟨i1, i2, i3⟩ := cmpL_spec h2
    have hxs := hx s (by simp)
    have hkx : ∀ y ∈ r, key s ≤ key y := fun y hy => by have := hs y hy; unfold ltK at this; omega
    unfold cmpL
    cases hq : key s == key x with
    | true =>
      have hq := eq_of_beq hq
      simp only [cond_true]
      refine ⟨i1, fun y hy => by have := i2 y hy; omega, fun y => ?_⟩
      rw [i3 y]
      refine ⟨fun ⟨a, b, c⟩ => ⟨by simp [a], by omega, fun z hz he => ?_⟩, fun ⟨a, b, c⟩ => ⟨?_, by omega, fun z hz he => c z (by simp [hz]) he⟩⟩
      · rcases List.mem_cons.mp hz with rfl | hz
        · exact absurd he.symm b
        · exact c z hz he
      · rcases List.mem_cons.mp a with rfl | a
        · exact absurd hq b
        · exact a
    | false =>
      have hq := ne_of_beq_false hq
      simp only [cond_false]
      have hlt : key x < key s := by unfold ltK at hxs; omega
      refine ⟨List.pairwise_cons.mpr ⟨i2, i1⟩, fun y hy => ?_, fun y => ?_⟩
      · rcases List.mem_cons.mp hy with rfl | hy
        · exact hlt
        · have := i2 y hy; omega
      · refine ⟨fun hy => ?_, fun ⟨a, b, c⟩ => ?_⟩
        · rcases List.mem_cons.mp hy with rfl | hy
          · refine ⟨by simp, hq, fun z hz he => ?_⟩
            rcases List.mem_cons.mp hz with rfl | hz
            · exact Nat.le_refl _
            · have := hs z hz; unfold ltK at this; omega
          · obtain ⟨a, b, c⟩ := (i3 y).mp hy
            have := hkx y a
            refine ⟨by simp [a], by omega, fun z hz he => ?_⟩
            rcases List.mem_cons.mp hz with rfl | hz
            · exact absurd he.symm b
            · exact c z hz he
        · rcases List.mem_cons.mp a with rfl | a
          · simp
          · refine List.mem_cons.mpr (.inr ((i3 y).mpr ⟨a, fun he => ?_, fun z hz he => c z (by simp [hz]) he⟩))
            have h4 := c s (by simp) he.symm
            have h5 := hs y a
            unfold ltK at h5; omega
def cmpA (key : Nat → Int) : List Nat → List Nat
  | [] => []
  | x :: r => x :: cmpL key x r
theorem cmpA_spec {key : Nat → Int} {L : List Nat} (h : L.Pairwise (ltK key)) : (cmpA key L).Pairwise (fun i j => key i < key j) ∧ ∀ y, y ∈ cmpA key L ↔ y ∈ L ∧ ∀ z ∈ L, key z = key y → y ≤ z := by
  cases L with
  | nil => exact ⟨List.Pairwise.nil, by simp [cmpA]⟩
  | cons x r =>
    obtain ⟨i1, i2, i3⟩ := cmpL_spec h
    obtain ⟨hx, h2⟩ := List.pairwise_cons.mp h
    unfold cmpA
    refine ⟨List.pairwise_cons.mpr ⟨i2, i1⟩, fun y => ⟨fun hy => ?_, fun ⟨a, c⟩ => ?_⟩⟩
    · rcases List.mem_cons.mp hy with rfl | hy
      · refine ⟨by simp, fun z hz he => ?_⟩
        rcases List.mem_cons.mp hz with rfl | hz
        · exact Nat.le_refl _
        · have := hx z hz; unfold ltK at this; omega
      · obtain ⟨a, b, c⟩ := (i3 y).mp hy
        refine ⟨by simp [a], fun z hz he => ?_⟩
        rcases List.mem_cons.mp hz with rfl | hz
        · exact absurd he.symm b
        · exact c z hz he
    · rcases List.mem_cons.mp a with rfl | a
      · simp
      · refine List.mem_cons.mpr (.inr ((i3 y).mpr ⟨a, fun he => ?_, fun z hz he => c z (by simp [hz]) he⟩))
        have h4 := c x (by simp) he.symm
        have h5 := hx y a
        unfold ltK at h5; omega
structure Y4 (key : Nat → Int) (n : Nat) (O : List Nat) : Prop where
  asc : O.Pairwise (fun i j => key i < key j)
  mem : ∀ y, y ∈ O ↔ y < n ∧ ∀ z, z < y → key z ≠ key y
theorem Y4.uniq {key : Nat → Int} {n : Nat} {O M : List Nat} (h : Y4 key n O) (h' : Y4 key n M) : O = M :=
  st_uniq (key := key) (h.asc.imp fun q => .inl q) (h'.asc.imp fun q => .inl q) fun x => by rw [h.mem, h'.mem]
theorem firsts_cmpA {key : Nat → Int} {n : Nat} : Y4 key n (cmpA key (YY key (List.range n))) := by
  obtain ⟨h1, h2⟩ := cmpA_spec (Y8 (key := key) (List.nodup_range (n := n))).1
  refine ⟨h1, fun y => ?_⟩
  rw [h2 y]
  simp only [srtK_mem, List.mem_range]
  exact ⟨fun ⟨a, b⟩ => ⟨a, fun z hz he => by have := b z (by omega) he; omega⟩, fun ⟨a, b⟩ => ⟨a, fun z hz he => Nat.le_of_not_lt fun q => b z q he⟩⟩
theorem cmpL_len {key : Nat → Int} : ∀ {r : List Nat} {x : Nat}, (cmpL key x r).length ≤ r.length
  | [], _ => Nat.le_refl _
  | s :: r, x => by
    unfold cmpL
    have := cmpL_len (key := key) (r := r) (x := s)
    cases key s == key x <;> simp only [cond_true, cond_false, List.length_cons] <;> omega
theorem firsts_len {key : Nat → Int} {n : Nat} {O : List Nat} (h : Y4 key n O) : O.length ≤ n := by
  rw [h.uniq firsts_cmpA]
  have : (YY key (List.range n)).length = n := by rw [YX, List.length_range]
  cases hL : YY key (List.range n) with
  | nil => rw [hL] at this; simp at this; simp [cmpA]
  | cons x r =>
    rw [hL] at this
    have h2 := cmpL_len (key := key) (r := r) (x := x)
    simp only [cmpA, List.length_cons] at this ⊢
    omega
theorem Yt.tm {ι α : Type} {ok : ι → Prop} {ψ : α → Prop} {p : ι → Nat} {B : Nat} (hp : ∀ i, ok i → B ≤ p i) {a0 a1 φ} (h : Tm (fun k => B ≤ k) (fun k => Yt.t k a0 a1) φ) {G : ι → Int → Option α} (hG : ∀ z0, φ z0 → Tm ok (fun i => G i z0) ψ) : Tm ok (fun i => Yt.f (p i) a0 a1 (G i)) ψ := bd1_tm (t := fun k => Yt.t k a0 a1) hp h hG
def RS (B : Nat) (r : List D) : Prop := ∃ (c0 : ByteArray), r = [.str c0] ∧ c0.size ≤ B ∧ True
theorem RS.open {B : Nat} {r : List D} (h : RS B r) : ∃ (c0 : ByteArray), r = [.str c0] ∧ c0.size ≤ B ∧ True := h
theorem RS.mono {B B' : Nat} (hb : B ≤ B') {r : List D} (h : RS B r) : RS B' r := by
  obtain ⟨c0, rfl, k0, _⟩ := h
  exact ⟨_, rfl, (Nat.le_trans k0 hb), trivial⟩
theorem RS.wide {xs : List (List D)} (h : ZB RS lim xs) : ZB RS 2097152 xs := ⟨Nat.le_trans h.1 (by decide), fun r hr => (h.2 r hr).mono (by decide)⟩
theorem RS.len {B : Nat} {r : List D} (h : RS B r) : r.length = 1 := by
  obtain ⟨c0, rfl, _⟩ := h.open
  rfl
theorem RS.flat {B : Nat} {xs : List (List D)} (h : ∀ r ∈ xs, RS B r) : Zcg 1 xs := fun r hr => by
  obtain ⟨c0, rfl, _⟩ := (h r hr).open
  exact ⟨rfl, by simp [Zag]⟩
theorem RS.wt {B : Nat} {xs : List (List D)} (h : ∀ r ∈ xs, RS B r) : Zu xs = 1 * xs.length := wt_flat (R := RS B) (fun r h => by obtain ⟨c0, rfl, _⟩ := h; rfl) xs h
theorem RS.deep {B : Nat} {xs : List (List D)} (h : ∀ r ∈ xs, RS B r) : Zc xs = xs.map (·.map C.d) := deep_flat (R := RS B) (fun r h => by obtain ⟨c0, rfl, _⟩ := h; rfl) xs h
theorem RS.gets {B : Nat} {xs : List (List D)} (h : ∀ r ∈ xs, RS B r) {v : Int} (h0 : 0 ≤ v) (h1 : v < xs.length) : gR xs v = [.str (gS xs v 0)] ∧ (gS xs v 0).size ≤ B ∧ True := by
  obtain ⟨c0, e, k0, _⟩ := (h (gR xs v) (gR_mem h0 h1)).open
  unfold gS
  rw [e]
  exact ⟨rfl, k0, trivial⟩
theorem RS.rows {B : Nat} {xs : List (List D)} (h : ∀ r ∈ xs, RS B r) {v : Int} (h0 : 0 ≤ v) (h1 : v < xs.length) {β : Type} (F : List D → Option β) : atRow xs v F = F [.str (gS xs v 0)] := by
  rw [← (RS.gets h h0 h1).1]
  exact Zck h0 h1 F
theorem RS.get {B : Nat} {xs : List (List D)} (h : ZB RS B xs) {v : Int} (h0 : 0 ≤ v) (h1 : v < xs.length) : gR xs v = [.str (gS xs v 0)] ∧ (gS xs v 0).size ≤ B ∧ True := RS.gets h.2 h0 h1
theorem RS.row {B : Nat} {xs : List (List D)} (h : ZB RS B xs) {v : Int} (h0 : 0 ≤ v) (h1 : v < xs.length) {β : Type} (F : List D → Option β) : atRow xs v F = F [.str (gS xs v 0)] := RS.rows h.2 h0 h1 F
set_option maxRecDepth 100000 in
theorem Yt.T {a0 : List (List D)} {a1 : Int} (h0 : 0 ≤ a1) (h1 : a1 ≤ 1048576) (ga0 : ZB RS maxLen a0) : Tm Fuel (fun k => Yt.t k a0 a1) (fun r => r < 0 ∨ 0 ≤ r ∧ r ≤ a1 ∧ ZB RS lim a0 ∧ ((Zu a0 : Nat) : Int) ≤ 64 * (a1 - r) ∧ True) := by
  unfold Yt.t Yt.g
  have hm := maxLen_eq
  have hlim : lim = 1048576 := rfl
  have hlen := ga0.1
  try rw [Z9 (x := a1 - (a0.length : Int)) (by omega) (by omega)]
  refine Tm.ite (fun h1 => ?_) (fun h1 => ?_)
  · try simp only [bz0, bz1, bz2, bz3, bz4, bz5, bz6, bz7, bz8, bz9, bza] at h1
    exact Tm.ret (by first | (left; omega) | (right; refine ⟨?_, ?_, ?_, ?_, trivial⟩ <;> first | assumption | omega))
  · try simp only [bz0, bz1, bz2, bz3, bz4, bz5, bz6, bz7, bz8, bz9, bza] at h1
    refine Tm.loop (okk := Fuel) (p := fun k => k) (fun i hi => hi) (b := fun k => Yt.l0 k a0 (fun z0 => some z0)) (fun v => match v with | (u0, i) => (((a0.length : Int)) - i).toNat) (fun v => match v with | (u0, i) => 0 ≤ u0 ∧ u0 ≤ a1 ∧ 0 ≤ i ∧ i ≤ (a0.length : Int) ∧ (∀ r ∈ a0.take i.toNat, RS lim r) ∧ ((Zu (a0.take i.toNat) : Nat) : Int) ≤ 64 * (a1 - a0.length - u0 + i)) ?_ ?_ ?_
    · rintro ⟨u0, i⟩ hI
      try simp only [] at hI ⊢
      have : big = 2 ^ 64 := rfl
      have := ga0.1
      omega
    · exact ⟨by omega, by omega, by omega, by simp, by simp, by simp [Zu]⟩
    · rintro ⟨u0, i⟩ hI L hL
      try simp only [] at hI
      obtain ⟨u0a, u0b, i0, i1, hr, hwt⟩ := hI
      simp only [Yt.l0, atR, rdQ, Q.ask]
      refine Tm.ite (fun h2 => ?_) (fun h2 => ?_)
      · try simp only [bz0, bz1, bz2, bz3, bz4, bz5, bz6, bz7, bz8, bz9, bza] at h2
        refine Tm.atRow (by first | assumption | omega) (by first | assumption | omega) (fun x3 hx4 hm5 => ?_)
        obtain ⟨c6, rfl, g7, _⟩ := (ga0.2 x3 hm5).open
        refine Tm.uncons ?_
        refine Tm.dStr ?_
        refine Tm.atEnd ?_
        try rw [Z9 (x := u0 - (c6.size : Int)) (by omega) (by omega)]
        refine Tm.ite (fun h8 => ?_) (fun h8 => ?_)
        · try simp only [bz0, bz1, bz2, bz3, bz4, bz5, bz6, bz7, bz8, bz9, bza] at h8
          exact Tm.ret (by first | (left; omega) | (rw [List.take_of_length_le (by omega)] at hwt; exact .inr ⟨by omega, by omega, ⟨by simp only [lim]; omega, all_rows (by omega) hr⟩, by omega, trivial⟩))
        · try simp only [bz0, bz1, bz2, bz3, bz4, bz5, bz6, bz7, bz8, bz9, bza] at h8
          try rw [Z9 (x := i + 1) (by omega) (by omega)]
          have hwx := wt_take i0 hx4
          simp only [ZbY, wtD] at hwx
          refine hL ((u0 - (c6.size : Int)), (i + 1)) ⟨by omega, by omega, by omega, by omega, take_rows i0 hx4 hr ⟨_, rfl, by first | assumption | omega, trivial⟩, by omega⟩ (by (try simp only []); omega)
      · try simp only [bz0, bz1, bz2, bz3, bz4, bz5, bz6, bz7, bz8, bz9, bza] at h2
        exact Tm.ret (by first | (left; omega) | (rw [List.take_of_length_le (by omega)] at hwt; exact .inr ⟨by omega, by omega, ⟨by simp only [lim]; omega, all_rows (by omega) hr⟩, by omega, trivial⟩))
theorem Yl.tm {ι α : Type} {ok : ι → Prop} {ψ : α → Prop} {p : ι → Nat} {B : Nat} (hp : ∀ i, ok i → B ≤ p i) {a0 a1 φ} (h : Tm (fun k => B ≤ k) (fun k => Yl.t k a0 a1) φ) {G : ι → Int → Option α} (hG : ∀ z0, φ z0 → Tm ok (fun i => G i z0) ψ) : Tm ok (fun i => Yl.f (p i) a0 a1 (G i)) ψ := bd1_tm (t := fun k => Yl.t k a0 a1) hp h hG
inductive YH (B : Nat) : Nat → List D → Prop
  | mk {h : Nat} (c0 : Int) (c1 : ByteArray) (c2 : Int) (c3 : List (List D)) (c4 : List (List D)) (k0 : (Lit.int .i64 c0).wf = true) (k1 : c1.size ≤ B) (k2 : (Lit.int .i64 c2).wf = true) (k3 : ZB RS B c3) (k4 : c4.length ≤ B) (m4 : ∀ r ∈ c4, YH B h r) : YH B (h + 1) [.int .i64 c0, .str c1, .int .i64 c2, .sl c3, .sl c4]
def YG (B : Nat) (r : List D) : Prop := ∃ h, (B ≤ 1099511627776 → h ≤ 1099511627776) ∧ YH B h r
theorem YG.open {B : Nat} {r : List D} (h : YG B r) : ∃ (c0 : Int) (c1 : ByteArray) (c2 : Int) (c3 : List (List D)) (c4 : List (List D)), r = [.int .i64 c0, .str c1, .int .i64 c2, .sl c3, .sl c4] ∧ (Lit.int .i64 c0).wf = true ∧ c1.size ≤ B ∧ (Lit.int .i64 c2).wf = true ∧ ZB RS B c3 ∧ ZB YG B c4 ∧ True := by
  obtain ⟨h, hh, h1⟩ := h
  cases h1 with
  | mk c0 c1 c2 c3 c4 k0 k1 k2 k3 k4 m4 => exact ⟨c0, c1, c2, c3, c4, rfl, k0, k1, k2, k3, ⟨k4, fun r hr => ⟨_, fun hb => by have := hh hb; omega, m4 r hr⟩⟩, trivial⟩
theorem YH.up {B B' : Nat} (hb : B ≤ B') : ∀ {h : Nat} {r : List D}, YH B h r → YH B' h r
  | _ + 1, _, .mk c0 c1 c2 c3 c4 k0 k1 k2 k3 k4 m4 => .mk c0 c1 c2 c3 c4 k0 (Nat.le_trans k1 hb) k2 ⟨Nat.le_trans k3.1 hb, fun r hr => (k3.2 r hr).mono hb⟩ (Nat.le_trans k4 hb) (fun r hr => YH.up hb (m4 r hr))
theorem YG.mono {B B' : Nat} (hb : B ≤ B') {r : List D} (h : YG B r) : YG B' r := by
  obtain ⟨h, hh, h1⟩ := h
  exact ⟨h, fun h2 => hh (Nat.le_trans hb h2), h1.up hb⟩
theorem YH.mono {B : Nat} : ∀ {h h' : Nat} {r : List D}, h ≤ h' → YH B h r → YH B h' r
  | _, 0, _, hl, .mk .. => by omega
  | _ + 1, _ + 1, _, hl, .mk c0 c1 c2 c3 c4 k0 k1 k2 k3 k4 m4 => .mk c0 c1 c2 c3 c4 k0 k1 k2 k3 k4 (fun r hr => YH.mono (by omega) (m4 r hr))
theorem YG.wide {xs : List (List D)} (h : ZB YG lim xs) : ZB YG 2097152 xs := ⟨Nat.le_trans h.1 (by decide), fun r hr => (h.2 r hr).mono (by decide)⟩
theorem YG.len {B : Nat} {r : List D} (h : YG B r) : r.length = 5 := by
  obtain ⟨c0, c1, c2, c3, c4, rfl, _⟩ := h.open
  rfl
theorem YG.gets {B : Nat} {xs : List (List D)} (h : ∀ r ∈ xs, YG B r) {v : Int} (h0 : 0 ≤ v) (h1 : v < xs.length) : gR xs v = [.int .i64 (gI xs v 0), .str (gS xs v 1), .int .i64 (gI xs v 2), .sl (gL xs v 3), .sl (gL xs v 4)] ∧ (Lit.int .i64 (gI xs v 0)).wf = true ∧ (gS xs v 1).size ≤ B ∧ (Lit.int .i64 (gI xs v 2)).wf = true ∧ ZB RS B (gL xs v 3) ∧ ZB YG B (gL xs v 4) ∧ True := by
  obtain ⟨c0, c1, c2, c3, c4, e, k0, k1, k2, k3, k4, _⟩ := (h (gR xs v) (gR_mem h0 h1)).open
  unfold gI gL gS
  rw [e]
  exact ⟨rfl, k0, k1, k2, k3, k4, trivial⟩
theorem YG.rows {B : Nat} {xs : List (List D)} (h : ∀ r ∈ xs, YG B r) {v : Int} (h0 : 0 ≤ v) (h1 : v < xs.length) {β : Type} (F : List D → Option β) : atRow xs v F = F [.int .i64 (gI xs v 0), .str (gS xs v 1), .int .i64 (gI xs v 2), .sl (gL xs v 3), .sl (gL xs v 4)] := by
  rw [← (YG.gets h h0 h1).1]
  exact Zck h0 h1 F
theorem YG.get {B : Nat} {xs : List (List D)} (h : ZB YG B xs) {v : Int} (h0 : 0 ≤ v) (h1 : v < xs.length) : gR xs v = [.int .i64 (gI xs v 0), .str (gS xs v 1), .int .i64 (gI xs v 2), .sl (gL xs v 3), .sl (gL xs v 4)] ∧ (Lit.int .i64 (gI xs v 0)).wf = true ∧ (gS xs v 1).size ≤ B ∧ (Lit.int .i64 (gI xs v 2)).wf = true ∧ ZB RS B (gL xs v 3) ∧ ZB YG B (gL xs v 4) ∧ True := YG.gets h.2 h0 h1
theorem YG.row {B : Nat} {xs : List (List D)} (h : ZB YG B xs) {v : Int} (h0 : 0 ≤ v) (h1 : v < xs.length) {β : Type} (F : List D → Option β) : atRow xs v F = F [.int .i64 (gI xs v 0), .str (gS xs v 1), .int .i64 (gI xs v 2), .sl (gL xs v 3), .sl (gL xs v 4)] := YG.rows h.2 h0 h1 F
theorem Yy.tm {ι α : Type} {ok : ι → Prop} {ψ : α → Prop} {p : ι → Nat} {B : Nat} (hp : ∀ i, ok i → B ≤ p i) {aC aD aI aF aH a1 φ} (h : Tm (fun k => B ≤ k) (fun k => Yy.t k aC aD aI aF aH a1) φ) {G : ι → Int → Option α} (hG : ∀ z0, φ z0 → Tm ok (fun i => G i z0) ψ) : Tm ok (fun i => Yy.f (p i) aC aD aI aF aH a1 (G i)) ψ := bd1_tm (t := fun k => Yy.t k aC aD aI aF aH a1) hp h hG
set_option maxRecDepth 100000 in
theorem szVal (n : Nat) : (∀ (left : Int) (a : List (List D)), 0 ≤ left → left ≤ n → left ≤ 1048576 → ZB YG maxLen a → Tm (fun k => big + 2 * n + 1 ≤ k) (fun k => Yl.t k a left) (fun r => r < 0 ∨ 0 ≤ r ∧ r ≤ left ∧ a.length ≤ lim ∧ (∀ x ∈ a, YH lim (left - r).toNat x) ∧ ((Zu a : Nat) : Int) ≤ 64 * (left - r))) ∧
    (∀ (left c0 : Int) (c1 : ByteArray) (c2 : Int) (c3 c4 : List (List D)), 0 ≤ left → left ≤ n → left ≤ 1048576 → c1.size ≤ maxLen → ZB RS maxLen c3 → ZB YG maxLen c4 → Tm (fun k => big + 2 * n + 2 ≤ k) (fun k => Yy.t k c0 c1 c2 c3 c4 left) (fun r => r < 0 ∨ 0 ≤ r ∧ r ≤ left ∧ c1.size ≤ lim ∧ ZB RS lim c3 ∧ c4.length ≤ lim ∧ (∀ x ∈ c4, YH lim (left - r).toNat x) ∧ ((Zu c3 + Zu c4 : Nat) : Int) ≤ 64 * (left - r))) := by
  have hm := maxLen_eq
  have hlim : lim = 1048576 := rfl
  have hb : big = 2 ^ 64 := rfl
  induction n using Nat.strongRecOn with
  | ind n ih =>
  have S : ∀ (left : Int) (a : List (List D)), 0 ≤ left → left ≤ n → left ≤ 1048576 → ZB YG maxLen a → Tm (fun k => big + 2 * n + 1 ≤ k) (fun k => Yl.t k a left) (fun r => r < 0 ∨ 0 ≤ r ∧ r ≤ left ∧ a.length ≤ lim ∧ (∀ x ∈ a, YH lim (left - r).toNat x) ∧ ((Zu a : Nat) : Int) ≤ 64 * (left - r)) := by
    intro left a h0 h1 h2 g
    have hlen := g.1
    refine Tm.succ (g := fun k => Yl.g k a left (fun z0 => some z0)) (fun k => Yl.t_succ k a left) ?_
    unfold Yl.g Yl.body
    rw [Z9 (x := left - a.length) (by omega) (by omega)]
    refine Tm.ite (fun h3 => Tm.ret (.inl (by omega))) (fun h3 => ?_)
    simp only [decide_eq_false_iff_not, Int.not_lt] at h3
    refine Tm.loop (okk := fun k => big + 2 * n ≤ k) (p := fun k => k) (fun i hi => by omega) (b := fun k => Yl.l0 k (Yl.f k) (Yy.f k) a (fun z0 => some z0)) (fun v => match v with | (u0, i) => (((a.length : Int)) - i).toNat) (fun v => match v with | (u0, i) => 0 ≤ u0 ∧ u0 ≤ left - a.length ∧ 0 ≤ i ∧ i ≤ (a.length : Int) ∧ (∀ r ∈ a.take i.toNat, YH lim (left - u0).toNat r) ∧ ((Zu (a.take i.toNat) : Nat) : Int) ≤ 64 * (left - a.length - u0 + i)) ?_ ?_ ?_
    · rintro ⟨u0, i⟩ hI
      simp only [] at hI ⊢
      omega
    · exact ⟨by omega, by omega, by omega, by omega, by simp, by simp [Zu]⟩
    · rintro ⟨u0, i⟩ hI L hL
      simp only [] at hI
      obtain ⟨u0a, u0b, i0, i1, hr, hwt⟩ := hI
      simp only [Yl.l0, atR, rdQ, Q.ask]
      refine Tm.ite (fun h4 => ?_) (fun h4 => ?_)
      · simp only [decide_eq_true_eq] at h4
        refine Tm.atRow (by omega) (by omega) (fun x5 hx6 hm7 => ?_)
        obtain ⟨c0, c1, c2, c3, c4, rfl, w0, g1, w2, g3, g4, _⟩ := (g.2 x5 hm7).open
        refine Tm.uncons (Tm.dInt (Tm.uncons (Tm.dStr (Tm.uncons (Tm.dInt (Tm.uncons (Tm.dSl (Tm.uncons (Tm.dSl (Tm.atEnd ?_))))))))))
        refine Yy.tm (B := big + 2 * (n - 1) + 2) (fun i hi => by have := hi.1; omega) ((ih (n - 1) (by omega)).2 u0 c0 c1 c2 c3 c4 u0a (by omega) (by omega) g1 g3 g4) (fun y hy => ?_)
        rcases hy with hy | ⟨y0, y1, q1, q3, q4, q5, qw⟩
        · exact Tm.ite (fun _ => Tm.ret (.inl (by omega))) (fun h => by simp at h; omega)
        refine Tm.ite (fun h8 => by simp at h8; omega) (fun h8 => ?_)
        rw [Z9 (x := i + 1) (by omega) (by omega)]
        have hwx := wt_take i0 hx6
        simp only [ZbY, wtD] at hwx
        refine hL (y, i + 1) ⟨by omega, by omega, by omega, by omega, take_rows i0 hx6 (fun r hr' => (hr r hr').mono (by omega)) ?_, by omega⟩ (by simp only []; omega)
        exact YH.mono (h := (u0 - y).toNat + 1) (by omega) (.mk _ _ _ _ _ w0 q1 w2 q3 q4 q5)
      · simp only [decide_eq_false_iff_not, Int.not_lt] at h4
        rw [List.take_of_length_le (by omega)] at hwt
        exact Tm.ret (.inr ⟨by omega, by omega, by omega, fun x hx => (all_rows (by omega) hr x hx).mono (by omega), by omega⟩)
  refine ⟨S, ?_⟩
  intro left c0 c1 c2 c3 c4 h0 h1 h2 g1 g3 g4
  refine Tm.succ (g := fun k => Yy.g k c0 c1 c2 c3 c4 left (fun z0 => some z0)) (fun k => Yy.t_succ k c0 c1 c2 c3 c4 left) ?_
  unfold Yy.g Yy.body
  rw [Z9 (x := left - c1.size) (by omega) (by omega)]
  refine Tm.ite (fun h3 => Tm.ret (.inl (by omega))) (fun h3 => ?_)
  simp only [decide_eq_false_iff_not, Int.not_lt] at h3
  refine Yt.tm (B := big) (fun i hi => by omega) (Yt.T (by omega) (by omega) g3) (fun y hy => ?_)
  rcases hy with hy | ⟨y0, y1, q3, qw, _⟩
  · exact Tm.ite (fun _ => Tm.ret (.inl (by omega))) (fun h => by simp at h; omega)
  refine Tm.ite (fun h8 => by simp at h8; omega) (fun h8 => ?_)
  refine Yl.tm (B := big + 2 * n + 1) (fun i hi => hi) (S y c4 y0 (by omega) (by omega) g4) (fun y' hy' => ?_)
  rcases hy' with hy' | ⟨y0', y1', q4, q5, qw'⟩
  · exact Tm.ite (fun _ => Tm.ret (.inl (by omega))) (fun h => by simp at h; omega)
  refine Tm.ite (fun h8 => by simp at h8; omega) (fun h8 => ?_)
  exact Tm.ret (.inr ⟨by omega, by omega, by omega, q3, q4, fun x hx => (q5 x hx).mono (by omega), by omega⟩)
theorem Yy.T {aC : Int} {aD : ByteArray} {aI : Int} {aF aH : List (List D)} {a1 : Int} (h0 : 0 ≤ a1) (h1 : a1 ≤ 1048576) (g1 : aD.size ≤ maxLen) (g3 : ZB RS maxLen aF) (g4 : ZB YG maxLen aH) : Tm (Zai 1) (fun k => Yy.t k aC aD aI aF aH a1) (fun r => r < 0 ∨ 0 ≤ r ∧ r ≤ a1 ∧ aD.size ≤ lim ∧ ZB RS lim aF ∧ ZB YG lim aH ∧ ((Zu aF + Zu aH : Nat) : Int) ≤ 64 * (a1 - r) ∧ True) :=
  (((szVal a1.toNat).2 a1 aC aD aI aF aH h0 (by omega) h1 g1 g3 g4).up (big_lv1 (n := 2 * a1.toNat + 2) (by omega))).mono fun r hr => by
    rcases hr with hr | ⟨r0, r1, r2, r3, r4, r5, r6⟩
    · exact .inl hr
    · exact .inr ⟨r0, r1, r2, r3, ⟨r4, fun x hx => ⟨_, fun _ => by omega, r5 x hx⟩⟩, r6, trivial⟩
theorem YO.tm {ι α : Type} {ok : ι → Prop} {ψ : α → Prop} {p : ι → Nat} {B : Nat} (hp : ∀ i, ok i → B ≤ p i) {aC aD aI aF aH aU aV a1 φ} (h : Tm (fun k => B ≤ k) (fun k => YO.t k aC aD aI aF aH aU aV a1) φ) {G : ι → Int → Option α} (hG : ∀ z0, φ z0 → Tm ok (fun i => G i z0) ψ) : Tm ok (fun i => YO.f (p i) aC aD aI aF aH aU aV a1 (G i)) ψ := bd1_tm (t := fun k => YO.t k aC aD aI aF aH aU aV a1) hp h hG
theorem YO.T {aC aD aI : Int} {aF : ByteArray} {aH : Int} {aU aV : List (List D)} {a1 : Int} (h0 : 0 ≤ a1) (h1 : a1 ≤ 1048576) (ga0_3 : aF.size ≤ maxLen) (ga0_5 : ZB RS maxLen aU) (ga0_6 : ZB YG maxLen aV) : Tm (Zai 1) (fun k => YO.t k aC aD aI aF aH aU aV a1) (fun r => r < 0 ∨ 0 ≤ r ∧ r ≤ a1 ∧ aF.size ≤ lim ∧ ZB RS lim aU ∧ ZB YG lim aV ∧ ((Zu aU + Zu aV : Nat) : Int) ≤ 64 * (a1 - r) ∧ True) := by
  unfold YO.t YO.g
  have hm := maxLen_eq
  have hlim : lim = 1048576 := rfl
  refine Yy.tm (fun i hi => hi) (Yy.T (by first | assumption | omega) (by first | assumption | omega) (by first | assumption | omega) (by first | assumption | omega) (by first | assumption | omega)) (fun y2 hy1 => ?_)
  rcases hy1 with hy1 | ⟨p7, p8, q3, q4, q5, q6, _⟩
  · exact Tm.ite (fun _ => Tm.ret (by left; omega)) (fun h => by simp at h; omega)
  refine Tm.ite (fun h9 => ?_) (fun h9 => ?_)
  · try simp only [bz0, bz1, bz2, bz3, bz4, bz5, bz6, bz7, bz8, bz9, bza] at h9
    exact Tm.ret (by first | (left; omega) | (right; refine ⟨?_, ?_, ?_, ?_, ?_, ?_, trivial⟩ <;> first | assumption | omega))
  · try simp only [bz0, bz1, bz2, bz3, bz4, bz5, bz6, bz7, bz8, bz9, bza] at h9
    exact Tm.ret (by first | (left; omega) | (right; refine ⟨?_, ?_, ?_, ?_, ?_, ?_, trivial⟩ <;> first | assumption | omega))
theorem YA.tm {ι α : Type} {ok : ι → Prop} {ψ : α → Prop} {p : ι → Nat} {B : Nat} (hp : ∀ i, ok i → B ≤ p i) {a0 a1 φ} (h : Tm (fun k => B ≤ k) (fun k => YA.t k a0 a1) φ) {G : ι → Int → Option α} (hG : ∀ z0, φ z0 → Tm ok (fun i => G i z0) ψ) : Tm ok (fun i => YA.f (p i) a0 a1 (G i)) ψ := bd1_tm (t := fun k => YA.t k a0 a1) hp h hG
def Yj (B : Nat) (r : List D) : Prop := ∃ (c0 : Int) (c1 : Int) (c2 : Int) (c3 : ByteArray) (c4 : Int) (c5 : List (List D)) (c6 : List (List D)), r = [.int .i64 c0, .int .i64 c1, .int .i64 c2, .str c3, .int .i64 c4, .sl c5, .sl c6] ∧ (Lit.int .i64 c0).wf = true ∧ (Lit.int .i64 c1).wf = true ∧ (Lit.int .i64 c2).wf = true ∧ c3.size ≤ B ∧ (Lit.int .i64 c4).wf = true ∧ ZB RS B c5 ∧ ZB YG B c6 ∧ True
theorem Yj.open {B : Nat} {r : List D} (h : Yj B r) : ∃ (c0 : Int) (c1 : Int) (c2 : Int) (c3 : ByteArray) (c4 : Int) (c5 : List (List D)) (c6 : List (List D)), r = [.int .i64 c0, .int .i64 c1, .int .i64 c2, .str c3, .int .i64 c4, .sl c5, .sl c6] ∧ (Lit.int .i64 c0).wf = true ∧ (Lit.int .i64 c1).wf = true ∧ (Lit.int .i64 c2).wf = true ∧ c3.size ≤ B ∧ (Lit.int .i64 c4).wf = true ∧ ZB RS B c5 ∧ ZB YG B c6 ∧ True := h
theorem Yj.mono {B B' : Nat} (hb : B ≤ B') {r : List D} (h : Yj B r) : Yj B' r := by
  obtain ⟨c0, c1, c2, c3, c4, c5, c6, rfl, k0, k1, k2, k3, k4, k5, k6, _⟩ := h
  exact ⟨_, _, _, _, _, _, _, rfl, k0, k1, k2, (Nat.le_trans k3 hb), k4, ⟨Nat.le_trans k5.1 hb, fun r hr => (k5.2 r hr).mono hb⟩, ⟨Nat.le_trans k6.1 hb, fun r hr => (k6.2 r hr).mono hb⟩, trivial⟩
theorem Yj.wide {xs : List (List D)} (h : ZB Yj lim xs) : ZB Yj 2097152 xs := ⟨Nat.le_trans h.1 (by decide), fun r hr => (h.2 r hr).mono (by decide)⟩
theorem Yj.len {B : Nat} {r : List D} (h : Yj B r) : r.length = 7 := by
  obtain ⟨c0, c1, c2, c3, c4, c5, c6, rfl, _⟩ := h.open
  rfl
theorem Yj.gets {B : Nat} {xs : List (List D)} (h : ∀ r ∈ xs, Yj B r) {v : Int} (h0 : 0 ≤ v) (h1 : v < xs.length) : gR xs v = [.int .i64 (gI xs v 0), .int .i64 (gI xs v 1), .int .i64 (gI xs v 2), .str (gS xs v 3), .int .i64 (gI xs v 4), .sl (gL xs v 5), .sl (gL xs v 6)] ∧ (Lit.int .i64 (gI xs v 0)).wf = true ∧ (Lit.int .i64 (gI xs v 1)).wf = true ∧ (Lit.int .i64 (gI xs v 2)).wf = true ∧ (gS xs v 3).size ≤ B ∧ (Lit.int .i64 (gI xs v 4)).wf = true ∧ ZB RS B (gL xs v 5) ∧ ZB YG B (gL xs v 6) ∧ True := by
  obtain ⟨c0, c1, c2, c3, c4, c5, c6, e, k0, k1, k2, k3, k4, k5, k6, _⟩ := (h (gR xs v) (gR_mem h0 h1)).open
  unfold gI gL gS
  rw [e]
  exact ⟨rfl, k0, k1, k2, k3, k4, k5, k6, trivial⟩
theorem Yj.rows {B : Nat} {xs : List (List D)} (h : ∀ r ∈ xs, Yj B r) {v : Int} (h0 : 0 ≤ v) (h1 : v < xs.length) {β : Type} (F : List D → Option β) : atRow xs v F = F [.int .i64 (gI xs v 0), .int .i64 (gI xs v 1), .int .i64 (gI xs v 2), .str (gS xs v 3), .int .i64 (gI xs v 4), .sl (gL xs v 5), .sl (gL xs v 6)] := by
  rw [← (Yj.gets h h0 h1).1]
  exact Zck h0 h1 F
theorem Yj.get {B : Nat} {xs : List (List D)} (h : ZB Yj B xs) {v : Int} (h0 : 0 ≤ v) (h1 : v < xs.length) : gR xs v = [.int .i64 (gI xs v 0), .int .i64 (gI xs v 1), .int .i64 (gI xs v 2), .str (gS xs v 3), .int .i64 (gI xs v 4), .sl (gL xs v 5), .sl (gL xs v 6)] ∧ (Lit.int .i64 (gI xs v 0)).wf = true ∧ (Lit.int .i64 (gI xs v 1)).wf = true ∧ (Lit.int .i64 (gI xs v 2)).wf = true ∧ (gS xs v 3).size ≤ B ∧ (Lit.int .i64 (gI xs v 4)).wf = true ∧ ZB RS B (gL xs v 5) ∧ ZB YG B (gL xs v 6) ∧ True := Yj.gets h.2 h0 h1
theorem Yj.row {B : Nat} {xs : List (List D)} (h : ZB Yj B xs) {v : Int} (h0 : 0 ≤ v) (h1 : v < xs.length) {β : Type} (F : List D → Option β) : atRow xs v F = F [.int .i64 (gI xs v 0), .int .i64 (gI xs v 1), .int .i64 (gI xs v 2), .str (gS xs v 3), .int .i64 (gI xs v 4), .sl (gL xs v 5), .sl (gL xs v 6)] := Yj.rows h.2 h0 h1 F
set_option maxRecDepth 100000 in
theorem YA.T {a0 : List (List D)} {a1 : Int} (h0 : 0 ≤ a1) (h1 : a1 ≤ 1048576) (ga0 : ZB Yj maxLen a0) : Tm (Zai 1) (fun k => YA.t k a0 a1) (fun r => r < 0 ∨ 0 ≤ r ∧ r ≤ a1 ∧ ZB Yj lim a0 ∧ ((Zu a0 : Nat) : Int) ≤ 64 * (a1 - r) ∧ True) := by
  unfold YA.t YA.g
  have hm := maxLen_eq
  have hlim : lim = 1048576 := rfl
  have hlen := ga0.1
  try rw [Z9 (x := a1 - (a0.length : Int)) (by omega) (by omega)]
  refine Tm.ite (fun h1 => ?_) (fun h1 => ?_)
  · try simp only [bz0, bz1, bz2, bz3, bz4, bz5, bz6, bz7, bz8, bz9, bza] at h1
    exact Tm.ret (by first | (left; omega) | (right; refine ⟨?_, ?_, ?_, ?_, trivial⟩ <;> first | assumption | omega))
  · try simp only [bz0, bz1, bz2, bz3, bz4, bz5, bz6, bz7, bz8, bz9, bza] at h1
    refine Tm.loop (okk := (Zai 1)) (p := fun k => k) (fun i hi => up0 hi) (b := fun k => YA.l0 k a0 (fun z0 => some z0)) (fun v => match v with | (u0, i) => (((a0.length : Int)) - i).toNat) (fun v => match v with | (u0, i) => 0 ≤ u0 ∧ u0 ≤ a1 ∧ 0 ≤ i ∧ i ≤ (a0.length : Int) ∧ (∀ r ∈ a0.take i.toNat, Yj lim r) ∧ ((Zu (a0.take i.toNat) : Nat) : Int) ≤ 64 * (a1 - a0.length - u0 + i)) ?_ ?_ ?_
    · rintro ⟨u0, i⟩ hI
      try simp only [] at hI ⊢
      have : big = 2 ^ 64 := rfl
      have := ga0.1
      omega
    · exact ⟨by omega, by omega, by omega, by simp, by simp, by simp [Zu]⟩
    · rintro ⟨u0, i⟩ hI L hL
      try simp only [] at hI
      obtain ⟨u0a, u0b, i0, i1, hr, hwt⟩ := hI
      simp only [YA.l0, atR, rdQ, Q.ask]
      refine Tm.ite (fun h2 => ?_) (fun h2 => ?_)
      · try simp only [bz0, bz1, bz2, bz3, bz4, bz5, bz6, bz7, bz8, bz9, bza] at h2
        refine Tm.atRow (by first | assumption | omega) (by first | assumption | omega) (fun x3 hx4 hm5 => ?_)
        obtain ⟨c6, c7, c8, c9, c10, c11, c12, rfl, g13, g14, g15, g16, g17, g18, g19, _⟩ := (ga0.2 x3 hm5).open
        refine Tm.uncons ?_
        refine Tm.dInt ?_
        refine Tm.uncons ?_
        refine Tm.dInt ?_
        refine Tm.uncons ?_
        refine Tm.dInt ?_
        refine Tm.uncons ?_
        refine Tm.dStr ?_
        refine Tm.uncons ?_
        refine Tm.dInt ?_
        refine Tm.uncons ?_
        refine Tm.dSl ?_
        refine Tm.uncons ?_
        refine Tm.dSl ?_
        refine Tm.atEnd ?_
        refine YO.tm (fun i hi => hi.1) (YO.T (by first | assumption | omega) (by first | assumption | omega) (by first | assumption | omega) (by first | assumption | omega) (by first | assumption | omega)) (fun y21 hy20 => ?_)
        rcases hy20 with hy20 | ⟨p26, p27, q22, q23, q24, q25, _⟩
        · exact Tm.ite (fun _ => Tm.ret (by left; omega)) (fun h => by simp at h; omega)
        refine Tm.ite (fun h28 => ?_) (fun h28 => ?_)
        · try simp only [bz0, bz1, bz2, bz3, bz4, bz5, bz6, bz7, bz8, bz9, bza] at h28
          exact Tm.ret (by first | (left; omega) | (rw [List.take_of_length_le (by omega)] at hwt; exact .inr ⟨by omega, by omega, ⟨by simp only [lim]; omega, all_rows (by omega) hr⟩, by omega, trivial⟩))
        · try simp only [bz0, bz1, bz2, bz3, bz4, bz5, bz6, bz7, bz8, bz9, bza] at h28
          try rw [Z9 (x := i + 1) (by omega) (by omega)]
          have hwx := wt_take i0 hx4
          simp only [ZbY, wtD] at hwx
          refine hL (y21, (i + 1)) ⟨by omega, by omega, by omega, by omega, take_rows i0 hx4 hr ⟨_, _, _, _, _, _, _, rfl, by first | assumption | omega, by first | assumption | omega, by first | assumption | omega, by first | assumption | omega, by first | assumption | omega, by first | assumption | omega, by first | assumption | omega, trivial⟩, by omega⟩ (by (try simp only []); omega)
      · try simp only [bz0, bz1, bz2, bz3, bz4, bz5, bz6, bz7, bz8, bz9, bza] at h2
        exact Tm.ret (by first | (left; omega) | (rw [List.take_of_length_le (by omega)] at hwt; exact .inr ⟨by omega, by omega, ⟨by simp only [lim]; omega, all_rows (by omega) hr⟩, by omega, trivial⟩))
theorem YP.tm {ι α : Type} {ok : ι → Prop} {ψ : α → Prop} {p : ι → Nat} {B : Nat} (hp : ∀ i, ok i → B ≤ p i) {a0 a1 φ} (h : Tm (fun k => B ≤ k) (fun k => YP.t k a0 a1) φ) {G : ι → Int → Option α} (hG : ∀ z0, φ z0 → Tm ok (fun i => G i z0) ψ) : Tm ok (fun i => YP.f (p i) a0 a1 (G i)) ψ := bd1_tm (t := fun k => YP.t k a0 a1) hp h hG
def RII (B : Nat) (r : List D) : Prop := ∃ (c0 : Int) (c1 : Int), r = [.int .i64 c0, .int .i64 c1] ∧ (Lit.int .i64 c0).wf = true ∧ (Lit.int .i64 c1).wf = true ∧ True
theorem RII.open {B : Nat} {r : List D} (h : RII B r) : ∃ (c0 : Int) (c1 : Int), r = [.int .i64 c0, .int .i64 c1] ∧ (Lit.int .i64 c0).wf = true ∧ (Lit.int .i64 c1).wf = true ∧ True := h
theorem RII.mono {B B' : Nat} (hb : B ≤ B') {r : List D} (h : RII B r) : RII B' r := by
  obtain ⟨c0, c1, rfl, k0, k1, _⟩ := h
  exact ⟨_, _, rfl, k0, k1, trivial⟩
theorem RII.wide {xs : List (List D)} (h : ZB RII lim xs) : ZB RII 2097152 xs := ⟨Nat.le_trans h.1 (by decide), fun r hr => (h.2 r hr).mono (by decide)⟩
theorem RII.len {B : Nat} {r : List D} (h : RII B r) : r.length = 2 := by
  obtain ⟨c0, c1, rfl, _⟩ := h.open
  rfl
theorem RII.flat {B : Nat} {xs : List (List D)} (h : ∀ r ∈ xs, RII B r) : Zcg 2 xs := fun r hr => by
  obtain ⟨c0, c1, rfl, _⟩ := (h r hr).open
  exact ⟨rfl, by simp [Zag]⟩
theorem RII.wt {B : Nat} {xs : List (List D)} (h : ∀ r ∈ xs, RII B r) : Zu xs = 2 * xs.length := wt_flat (R := RII B) (fun r h => by obtain ⟨c0, c1, rfl, _⟩ := h; rfl) xs h
theorem RII.deep {B : Nat} {xs : List (List D)} (h : ∀ r ∈ xs, RII B r) : Zc xs = xs.map (·.map C.d) := deep_flat (R := RII B) (fun r h => by obtain ⟨c0, c1, rfl, _⟩ := h; rfl) xs h
theorem RII.gets {B : Nat} {xs : List (List D)} (h : ∀ r ∈ xs, RII B r) {v : Int} (h0 : 0 ≤ v) (h1 : v < xs.length) : gR xs v = [.int .i64 (gI xs v 0), .int .i64 (gI xs v 1)] ∧ (Lit.int .i64 (gI xs v 0)).wf = true ∧ (Lit.int .i64 (gI xs v 1)).wf = true ∧ True := by
  obtain ⟨c0, c1, e, k0, k1, _⟩ := (h (gR xs v) (gR_mem h0 h1)).open
  unfold gI
  rw [e]
  exact ⟨rfl, k0, k1, trivial⟩
theorem RII.rows {B : Nat} {xs : List (List D)} (h : ∀ r ∈ xs, RII B r) {v : Int} (h0 : 0 ≤ v) (h1 : v < xs.length) {β : Type} (F : List D → Option β) : atRow xs v F = F [.int .i64 (gI xs v 0), .int .i64 (gI xs v 1)] := by
  rw [← (RII.gets h h0 h1).1]
  exact Zck h0 h1 F
theorem RII.get {B : Nat} {xs : List (List D)} (h : ZB RII B xs) {v : Int} (h0 : 0 ≤ v) (h1 : v < xs.length) : gR xs v = [.int .i64 (gI xs v 0), .int .i64 (gI xs v 1)] ∧ (Lit.int .i64 (gI xs v 0)).wf = true ∧ (Lit.int .i64 (gI xs v 1)).wf = true ∧ True := RII.gets h.2 h0 h1
theorem RII.row {B : Nat} {xs : List (List D)} (h : ZB RII B xs) {v : Int} (h0 : 0 ≤ v) (h1 : v < xs.length) {β : Type} (F : List D → Option β) : atRow xs v F = F [.int .i64 (gI xs v 0), .int .i64 (gI xs v 1)] := RII.rows h.2 h0 h1 F
theorem YP.T {a0 : List (List D)} {a1 : Int} (h0 : 0 ≤ a1) (h1 : a1 ≤ 1048576) (ga0 : ZB RII maxLen a0) : Tm Fuel (fun k => YP.t k a0 a1) (fun r => r < 0 ∨ 0 ≤ r ∧ r ≤ a1 ∧ ZB RII lim a0 ∧ ((Zu a0 : Nat) : Int) ≤ 64 * (a1 - r) ∧ True) := by
  unfold YP.t YP.g
  have hm := maxLen_eq
  have hlim : lim = 1048576 := rfl
  have hlen := ga0.1
  try rw [Z9 (x := a1 - (a0.length : Int)) (by omega) (by omega)]
  refine Tm.ite (fun h1 => ?_) (fun h1 => ?_)
  · try simp only [bz0, bz1, bz2, bz3, bz4, bz5, bz6, bz7, bz8, bz9, bza] at h1
    exact Tm.ret (by first | (left; omega) | exact .inr ⟨by omega, by omega, ⟨by simp only [lim]; omega, fun r hr => ga0.2 r hr⟩, by rw [RII.wt ga0.2]; omega, trivial⟩)
  · try simp only [bz0, bz1, bz2, bz3, bz4, bz5, bz6, bz7, bz8, bz9, bza] at h1
    exact Tm.ret (by first | (left; omega) | exact .inr ⟨by omega, by omega, ⟨by simp only [lim]; omega, fun r hr => ga0.2 r hr⟩, by rw [RII.wt ga0.2]; omega, trivial⟩)
def ofP (l : List (Int × Int)) : List (List D) := l.map fun p => [.int .i64 p.1, .int .i64 p.2]
def upP (l : List (Int × Int)) : List (List C) := l.map fun p => [.d (.int .i64 p.1), .d (.int .i64 p.2)]
theorem ofP_up (l : List (Int × Int)) : (ofP l).map (·.map C.d) = upP l := by simp [ofP, upP]
theorem Yaa (l : List (Int × Int)) : (ofP l).length = l.length := by simp [ofP]
theorem upP_len (l : List (Int × Int)) : (upP l).length = l.length := by simp [upP]
theorem upP_app (a b : List (Int × Int)) : upP a ++ upP b = upP (a ++ b) := by simp [upP]
theorem imm_upP : ∀ l : List (Int × Int), C.immRows (upP l) = ofP l
  | [] => rfl
  | p :: l => by simp only [upP, ofP, List.map_cons, C.immRows, C.immCells, C.imm]; exact congrArg _ (imm_upP l)
theorem deep_ofP : ∀ l : List (Int × Int), Zc (ofP l) = upP l
  | [] => rfl
  | p :: l => by simp only [upP, ofP, List.map_cons, Zc, ZN, deepD]; exact congrArg _ (deep_ofP l)
theorem ofP_of : ∀ {a : List (List D)}, (∀ r ∈ a, RII lim r) → ∃ l, a = ofP l
  | [], _ => ⟨[], rfl⟩
  | r :: a, h => by
    obtain ⟨l, rfl⟩ := ofP_of (a := a) fun x hx => h x (by simp [hx])
    obtain ⟨u, n, rfl, _⟩ := (h r (by simp)).open
    exact ⟨(u, n) :: l, rfl⟩
theorem ofP_ok {B : Nat} {l : List (Int × Int)} (h : l.length ≤ B) (hw : ∀ p ∈ l, (Lit.int .i64 p.1).wf = true ∧ (Lit.int .i64 p.2).wf = true) : ZB RII B (ofP l) := ⟨by rw [Yaa]; exact h, fun r hr => by
  simp only [ofP, List.mem_map] at hr
  obtain ⟨p, hp, rfl⟩ := hr
  exact ⟨p.1, p.2, rfl, (hw p hp).1, (hw p hp).2, trivial⟩⟩
theorem ofP_wf {l : List (Int × Int)} (h : ZB RII lim (ofP l)) : ∀ p ∈ l, (Lit.int .i64 p.1).wf = true ∧ (Lit.int .i64 p.2).wf = true := fun p hp => by
  obtain ⟨u, n, e, h1, h2, _⟩ := (h.2 [.int .i64 p.1, .int .i64 p.2] (by simp only [ofP, List.mem_map]; exact ⟨p, hp, rfl⟩)).open
  injection e with e1 e2
  injection e2 with e2
  injection e1 with _ e1
  injection e2 with _ e2
  subst e1 e2
  exact ⟨h1, h2⟩
theorem gR_ofP {l : List (Int × Int)} {i : Nat} (h : i < l.length) : gR (ofP l) (i : Int) = [.int .i64 l[i].1, .int .i64 l[i].2] := by
  have := gR_at (xs := ofP l) (v := (i : Int)) (by omega) (by rw [Yaa]; omega)
  rw [Int.toNat_natCast, List.getElem?_eq_getElem (by rw [Yaa]; exact h)] at this
  injection this with this
  rw [← this]
  simp [ofP]
theorem gI_ofP0 {l : List (Int × Int)} {i : Nat} (h : i < l.length) : gI (ofP l) (i : Int) 0 = l[i].1 := by
  unfold gI
  rw [gR_ofP h]
  rfl
theorem gI_ofP1 {l : List (Int × Int)} {i : Nat} (h : i < l.length) : gI (ofP l) (i : Int) 1 = l[i].2 := by
  unfold gI
  rw [gR_ofP h]
  rfl
theorem atRow_ofP {l : List (Int × Int)} {i : Nat} (h : i < l.length) {β : Type} (F : List D → Option β) : atRow (ofP l) (i : Int) F = F [.int .i64 l[i].1, .int .i64 l[i].2] := by
  rw [← gR_ofP h]
  exact Zck (by omega) (by rw [Yaa]; omega) F
theorem atRow_ofPI {l : List (Int × Int)} {v : Int} {i : Nat} (hv : v = (i : Int)) (h : i < l.length) {β : Type} (F : List D → Option β) : atRow (ofP l) v F = F [.int .i64 l[i].1, .int .i64 l[i].2] := by
  subst hv
  exact atRow_ofP h F
def Y9 (uid n : Int) : Bool → List (Int × Int) → List (Int × Int)
  | put, [] => if put then [] else [(uid, n)]
  | put, x :: l => (if put = false ∧ uid ≤ x.1 then [(uid, n)] else []) ++ ((if x.1 = uid then [] else [x]) ++ Y9 uid n (put || decide (uid ≤ x.1)) l)
theorem putR_true {uid n : Int} : ∀ {l : List (Int × Int)}, (∀ p ∈ l, p.1 ≠ uid) → Y9 uid n true l = l
  | [], _ => rfl
  | x :: l, h => by
    have hx := h x (by simp)
    simp only [Y9, Bool.true_or]
    rw [putR_true fun p hp => h p (by simp [hp])]
    simp [hx]
def Asc (l : List (Int × Int)) : Prop := l.Pairwise fun p q => p.1 < q.1
theorem putR_drop {uid n : Int} {A B : List (Int × Int)} {m : Int} (h : Asc (A ++ (uid, m) :: B)) : Y9 uid n true (A ++ (uid, m) :: B) = A ++ B := by
  have h' := List.pairwise_append.mp h
  have hB : ∀ p ∈ B, p.1 ≠ uid := fun p hp e => by
    have := (List.pairwise_cons.mp h'.2.1).1 p hp
    simp only [] at this
    omega
  induction A with
  | nil => simp only [List.nil_append, Y9, Bool.true_or]; rw [putR_true hB]; simp
  | cons x A ih =>
    have hx : x.1 ≠ uid := fun e => by
      have := h'.2.2 x (by simp) (uid, m) (by simp)
      simp only [] at this
      omega
    simp only [List.cons_append, Y9, Bool.true_or]
    rw [ih (List.pairwise_cons.mp h).2 (List.pairwise_append.mp (List.pairwise_cons.mp h).2)]
    simp [hx]
theorem putR_set {uid n : Int} {A B : List (Int × Int)} {m : Int} (h : Asc (A ++ (uid, m) :: B)) : Y9 uid n false (A ++ (uid, m) :: B) = A ++ (uid, n) :: B := by
  have h' := List.pairwise_append.mp h
  have hB : ∀ p ∈ B, p.1 ≠ uid := fun p hp e => by
    have := (List.pairwise_cons.mp h'.2.1).1 p hp
    simp only [] at this
    omega
  induction A with
  | nil => simp only [List.nil_append, Y9, Bool.false_or, Int.le_refl, decide_true]; rw [putR_true hB]; simp
  | cons x A ih =>
    have hx : x.1 < uid := by
      have := h'.2.2 x (by simp) (uid, m) (by simp)
      simpa using this
    simp only [List.cons_append, Y9, Bool.false_or]
    rw [decide_eq_false (show ¬ uid ≤ x.1 by omega), ih (List.pairwise_cons.mp h).2 (List.pairwise_append.mp (List.pairwise_cons.mp h).2)]
    simp [show ¬ uid ≤ x.1 by omega, show ¬ x.1 = uid by omega]
theorem putR_new {uid n : Int} {A B : List (Int × Int)} (hA : ∀ p ∈ A, p.1 < uid) (hB : ∀ p ∈ B, uid < p.1) : Y9 uid n false (A ++ B) = A ++ (uid, n) :: B := by
  induction A with
  | nil =>
    cases B with
    | nil => rfl
    | cons x B =>
      have hx := hB x (by simp)
      simp only [List.nil_append, Y9, Bool.false_or]
      rw [decide_eq_true (show uid ≤ x.1 by omega), putR_true fun p hp e => by have := hB p (by simp [hp]); omega]
      simp [show uid ≤ x.1 by omega, show ¬ x.1 = uid by omega]
  | cons x A ih =>
    have hx := hA x (by simp)
    simp only [List.cons_append, Y9, Bool.false_or]
    rw [decide_eq_false (show ¬ uid ≤ x.1 by omega), ih fun p hp => hA p (by simp [hp])]
    simp [show ¬ uid ≤ x.1 by omega, show ¬ x.1 = uid by omega]
theorem putR_lenT {uid n : Int} : ∀ (l : List (Int × Int)), (Y9 uid n true l).length ≤ l.length
  | [] => by simp [Y9]
  | x :: l => by
    have := putR_lenT (uid := uid) (n := n) l
    by_cases h2 : x.1 = uid
    · simp [Y9, h2]; omega
    · simp [Y9, h2]; omega
theorem putR_len {uid n : Int} : ∀ (b : Bool) (l : List (Int × Int)), (Y9 uid n b l).length ≤ l.length + 1
  | true, l => Nat.le_succ_of_le (putR_lenT l)
  | false, [] => by simp [Y9]
  | false, x :: l => by
    have h1 := putR_lenT (uid := uid) (n := n) l
    have h3 := putR_len (uid := uid) (n := n) false l
    by_cases h : uid ≤ x.1
    · by_cases h2 : x.1 = uid
      · simp [Y9, h, h2]; omega
      · simp [Y9, h, h2]; omega
    · have h2 : ¬ x.1 = uid := by omega
      simp [Y9, h, h2]; omega
theorem putR_mem {uid n : Int} {p : Int × Int} : ∀ {b : Bool} {l : List (Int × Int)}, p ∈ Y9 uid n b l → p = (uid, n) ∨ p ∈ l
  | b, [], h => by cases b <;> simp [Y9] at h; exact .inl h
  | b, x :: l, h => by
    simp only [Y9, List.mem_append] at h
    rcases h with h | h | h
    · split at h
      · simp at h; exact .inl h
      · simp at h
    · split at h
      · simp at h
      · simp at h; exact .inr (by simp [h])
    · rcases putR_mem h with q | q
      · exact .inl q
      · exact .inr (by simp [q])
theorem YQ.tm {ι α : Type} {ok : ι → Prop} {ψ : α → Prop} {p : ι → Nat} {B : Nat} (hp : ∀ i, ok i → B ≤ p i) {aC aD aI aF aH a1 φ} (h : Tm (fun k => B ≤ k) (fun k => YQ.t k aC aD aI aF aH a1) φ) {G : ι → Int → Option α} (hG : ∀ z0, φ z0 → Tm ok (fun i => G i z0) ψ) : Tm ok (fun i => YQ.f (p i) aC aD aI aF aH a1 (G i)) ψ := bd1_tm (t := fun k => YQ.t k aC aD aI aF aH a1) hp h hG
theorem YQ.T {aC : ByteArray} {aD aI : Int} {aF aH : List (List D)} {a1 : Int} (h0 : 0 ≤ a1) (h1 : a1 ≤ 1048576) (ga0_0 : aC.size ≤ maxLen) (ga0_3 : ZB Yj maxLen aF) (ga0_4 : ZB RII maxLen aH) : Tm (Zai 1) (fun k => YQ.t k aC aD aI aF aH a1) (fun r => r < 0 ∨ 0 ≤ r ∧ r ≤ a1 ∧ aC.size ≤ lim ∧ ZB Yj lim aF ∧ ZB RII lim aH ∧ ((Zu aF + Zu aH : Nat) : Int) ≤ 64 * (a1 - r) ∧ True) := by
  unfold YQ.t YQ.g
  have hm := maxLen_eq
  have hlim : lim = 1048576 := rfl
  try rw [Z9 (x := a1 - (aC.size : Int)) (by omega) (by omega)]
  refine Tm.ite (fun h1 => ?_) (fun h1 => ?_)
  · try simp only [bz0, bz1, bz2, bz3, bz4, bz5, bz6, bz7, bz8, bz9, bza] at h1
    exact Tm.ret (by first | (left; omega) | (right; refine ⟨?_, ?_, ?_, ?_, ?_, ?_, trivial⟩ <;> first | assumption | omega))
  · try simp only [bz0, bz1, bz2, bz3, bz4, bz5, bz6, bz7, bz8, bz9, bza] at h1
    refine YA.tm (fun i hi => hi) (YA.T (by first | assumption | omega) (by first | assumption | omega) (by first | assumption | omega)) (fun y3 hy2 => ?_)
    rcases hy2 with hy2 | ⟨p6, p7, q4, q5, _⟩
    · exact Tm.ite (fun _ => Tm.ret (by left; omega)) (fun h => by simp at h; omega)
    refine Tm.ite (fun h8 => ?_) (fun h8 => ?_)
    · try simp only [bz0, bz1, bz2, bz3, bz4, bz5, bz6, bz7, bz8, bz9, bza] at h8
      exact Tm.ret (by first | (left; omega) | (right; refine ⟨?_, ?_, ?_, ?_, ?_, ?_, trivial⟩ <;> first | assumption | omega))
    · try simp only [bz0, bz1, bz2, bz3, bz4, bz5, bz6, bz7, bz8, bz9, bza] at h8
      refine YP.tm (fun i hi => up0 hi) (YP.T (by first | assumption | omega) (by first | assumption | omega) (by first | assumption | omega)) (fun y10 hy9 => ?_)
      rcases hy9 with hy9 | ⟨p13, p14, q11, q12, _⟩
      · exact Tm.ite (fun _ => Tm.ret (by left; omega)) (fun h => by simp at h; omega)
      refine Tm.ite (fun h15 => ?_) (fun h15 => ?_)
      · try simp only [bz0, bz1, bz2, bz3, bz4, bz5, bz6, bz7, bz8, bz9, bza] at h15
        exact Tm.ret (by first | (left; omega) | (right; refine ⟨?_, ?_, ?_, ?_, ?_, ?_, trivial⟩ <;> first | assumption | omega))
      · try simp only [bz0, bz1, bz2, bz3, bz4, bz5, bz6, bz7, bz8, bz9, bza] at h15
        exact Tm.ret (by first | (left; omega) | (right; refine ⟨?_, ?_, ?_, ?_, ?_, ?_, trivial⟩ <;> first | assumption | omega))
theorem Ys.tm {ι α : Type} {ok : ι → Prop} {ψ : α → Prop} {p : ι → Nat} {B : Nat} (hp : ∀ i, ok i → B ≤ p i) {a0 φ} (h : Tm (fun k => B ≤ k) (fun k => Ys.t k a0) φ) {G : ι → (List (List C)) → Option α} (hG : ∀ z0, φ z0 → Tm ok (fun i => G i z0) ψ) : Tm ok (fun i => Ys.f (p i) a0 (G i)) ψ := bd1_tm (t := fun k => Ys.t k a0) hp h hG
set_option maxRecDepth 100000 in
theorem Ys.T {a0 : List (List D)} (ga0 : ZB RS lim a0) : Tm Fuel (fun k => Ys.t k a0) (fun z => z = Zc a0 ∧ True) := by
  unfold Ys.t Ys.g
  have hm := maxLen_eq
  have hlim : lim = 1048576 := rfl
  have hlen := ga0.1
  refine Tm.guard (by first | omega | (simp only [lim, maxLen_eq, Z8] at *; omega) | (simp only [lim, Z8] at *; refine ⟨?_, ?_, ?_, ?_⟩ <;> omega)) ?_
  refine Tm.loop (okk := Fuel) (p := fun k => k) (fun i hi => hi) (b := fun k => Ys.l0 k a0 (fun z0 => some z0)) (fun v => match v with | (i, u1) => (((a0.length : Int)) - i).toNat) (fun v => match v with | (i, u1) => 0 ≤ i ∧ i ≤ (a0.length : Int) ∧ Filled a0 ([.d (.str (⟨#[]⟩ : ByteArray))] : List C) i u1) ?_ ?_ ?_
  · rintro ⟨i, u1⟩ hI
    try simp only [] at hI ⊢
    have : big = 2 ^ 64 := rfl
    have := ga0.1
    simp only [lim] at this
    omega
  · exact ⟨by omega, by simp, Filled.start _ _⟩
  · rintro ⟨i, u1⟩ hI L hL
    try simp only [] at hI
    obtain ⟨i0, i1, hF⟩ := hI
    have hFl := hF.len i1
    simp only [Ys.l0, atR, rdQ, Q.ask]
    refine Tm.ite (fun h1 => ?_) (fun h1 => ?_)
    · try simp only [bz0, bz1, bz2, bz3, bz4, bz5, bz6, bz7, bz8, bz9, bza] at h1
      refine Tm.atRow (by first | assumption | omega) (by first | assumption | omega) (fun x2 hx3 hm4 => ?_)
      obtain ⟨c5, rfl, g6, _⟩ := (ga0.2 x2 hm4).open
      refine Tm.uncons ?_
      refine Tm.dStr ?_
      refine Tm.atEnd ?_
      refine Tm.guard (by first | omega | (simp only [lim, maxLen_eq, Z8] at *; omega) | (simp only [lim, Z8] at *; refine ⟨?_, ?_, ?_, ?_⟩ <;> omega)) ?_
      refine Tm.guard (by first | omega | (simp only [lim, maxLen_eq, Z8] at *; omega) | (simp only [lim, Z8] at *; refine ⟨?_, ?_, ?_, ?_⟩ <;> omega)) ?_
      try rw [Z9 (x := i + 1) (by omega) (by omega)]
      refine hL (_, _) ⟨by omega, by omega, hF.next i0 hx3 rfl (by simp [ZN, deepD])⟩ (by (try simp only []); omega)
    · try simp only [bz0, bz1, bz2, bz3, bz4, bz5, bz6, bz7, bz8, bz9, bza] at h1
      exact Tm.ret (by exact ⟨hF.all (by omega), trivial⟩)
theorem Yk.tm {ι α : Type} {ok : ι → Prop} {ψ : α → Prop} {p : ι → Nat} {B : Nat} (hp : ∀ i, ok i → B ≤ p i) {a0 φ} (h : Tm (fun k => B ≤ k) (fun k => Yk.t k a0) φ) {G : ι → (List (List C)) → Option α} (hG : ∀ z0, φ z0 → Tm ok (fun i => G i z0) ψ) : Tm ok (fun i => Yk.f (p i) a0 (G i)) ψ := bd1_tm (t := fun k => Yk.t k a0) hp h hG
theorem Yx.tm {ι α : Type} {ok : ι → Prop} {ψ : α → Prop} {p : ι → Nat} {B : Nat} (hp : ∀ i, ok i → B ≤ p i) {aC aD aI aF aH φ} (h : Tm (fun k => B ≤ k) (fun k => Yx.t k aC aD aI aF aH) φ) {G : ι → Int → ByteArray → Int → (List (List C)) → (List (List C)) → Option α} (hG : ∀ z0 z1 z2 z3 z4, φ (z0, z1, z2, z3, z4) → Tm ok (fun i => G i z0 z1 z2 z3 z4) ψ) : Tm ok (fun i => Yx.f (p i) aC aD aI aF aH (G i)) ψ := bd5_tm (t := fun k => Yx.t k aC aD aI aF aH) hp h hG
set_option maxRecDepth 100000 in
theorem toVal (n : Nat) : (∀ (a : List (List D)), a.length ≤ lim → (∀ x ∈ a, YH lim n x) → Tm (fun k => big + 2 * n + 1 ≤ k) (fun k => Yk.t k a) (fun z => z = Zc a)) ∧
    (∀ (c0 : Int) (c1 : ByteArray) (c2 : Int) (c3 c4 : List (List D)), c1.size ≤ lim → ZB RS lim c3 → c4.length ≤ lim → (∀ x ∈ c4, YH lim n x) → Tm (fun k => big + 2 * n + 2 ≤ k) (fun k => Yx.t k c0 c1 c2 c3 c4) (fun z => z.1 = c0 ∧ z.2.1 = c1 ∧ z.2.2.1 = c2 ∧ z.2.2.2.1 = Zc c3 ∧ z.2.2.2.2 = Zc c4)) := by
  have hm : Z8 = 2 ^ 36 := rfl
  have hlim : lim = 1048576 := rfl
  have hb : big = 2 ^ 64 := rfl
  induction n using Nat.strongRecOn with
  | ind n ih =>
  have S : ∀ (a : List (List D)), a.length ≤ lim → (∀ x ∈ a, YH lim n x) → Tm (fun k => big + 2 * n + 1 ≤ k) (fun k => Yk.t k a) (fun z => z = Zc a) := by
    intro a hlen g
    refine Tm.succ (g := fun k => Yk.g k a (fun z0 => some z0)) (fun k => Yk.t_succ k a) ?_
    unfold Yk.g Yk.body Yk.m
    refine Tm.guard ⟨by omega, by omega, by omega, by omega⟩ ?_
    refine Tm.loop (okk := fun k => big + 2 * n ≤ k) (p := fun k => k) (fun i hi => by omega) (b := fun k => Yk.l0 k (Yk.f k) (Yx.f k) a (fun z0 => some z0)) (fun v => match v with | (i, u1) => (((a.length : Int)) - i).toNat) (fun v => match v with | (i, u1) => 0 ≤ i ∧ i ≤ (a.length : Int) ∧ Filled a ([.d (.int .i64 0), .d (.str (⟨#[]⟩ : ByteArray)), .d (.int .i64 0), .own ([] : List (List C)), .own ([] : List (List C))] : List C) i u1) ?_ ?_ ?_
    · rintro ⟨i, u1⟩ hI
      simp only [] at hI ⊢
      omega
    · exact ⟨by omega, by simp, Filled.start _ _⟩
    · rintro ⟨i, u1⟩ hI L hL
      simp only [] at hI
      obtain ⟨i0, i1, hF⟩ := hI
      have hFl := hF.len i1
      simp only [Yk.l0, atR, rdQ, Q.ask]
      refine Tm.ite (fun h4 => ?_) (fun h4 => ?_)
      · simp only [decide_eq_true_eq] at h4
        refine Tm.atRow (by omega) (by omega) (fun x5 hx6 hm7 => ?_)
        obtain ⟨n', hn', c0, c1, c2, c3, c4, rfl, w0, g1, w2, g3, l4, g4⟩ : ∃ n', n = n' + 1 ∧ ∃ c0 c1 c2 c3 c4, x5 = [.int .i64 c0, .str c1, .int .i64 c2, .sl c3, .sl c4] ∧ (Lit.int .i64 c0).wf = true ∧ c1.size ≤ lim ∧ (Lit.int .i64 c2).wf = true ∧ ZB RS lim c3 ∧ c4.length ≤ lim ∧ ∀ x ∈ c4, YH lim n' x := by
          have := g x5 hm7
          cases this with
          | mk c0 c1 c2 c3 c4 w0 g1 w2 g3 l4 g4 => exact ⟨_, rfl, _, _, _, _, _, rfl, w0, g1, w2, g3, l4, g4⟩
        refine Tm.uncons (Tm.dInt (Tm.uncons (Tm.dStr (Tm.uncons (Tm.dInt (Tm.uncons (Tm.dSl (Tm.uncons (Tm.dSl (Tm.atEnd ?_))))))))))
        refine Yx.tm (B := big + 2 * n' + 2) (fun i hi => by have := hi.1; omega) ((ih n' (by omega)).2 c0 c1 c2 c3 c4 g1 g3 l4 g4) (fun y0 y1 y2 y3 y4 hy => ?_)
        simp only [] at hy
        obtain ⟨rfl, rfl, rfl, e3, e4⟩ := hy
        refine Tm.guard (by omega) (Tm.guard (by omega) ?_)
        rw [Z9 (x := i + 1) (by omega) (by omega)]
        exact hL (_, _) ⟨by omega, by omega, hF.next i0 hx6 rfl (by simp [ZN, deepD, e3, e4])⟩ (by simp only []; omega)
      · simp only [decide_eq_false_iff_not, Int.not_lt] at h4
        exact Tm.ret (hF.all (by omega))
  refine ⟨S, ?_⟩
  intro c0 c1 c2 c3 c4 g1 g3 l4 g4
  refine Tm.succ (g := fun k => Yx.g k c0 c1 c2 c3 c4 (fun z0 z1 z2 z3 z4 => some (z0, z1, z2, z3, z4))) (fun k => Yx.t_succ k c0 c1 c2 c3 c4) ?_
  unfold Yx.g Yx.body
  refine Ys.tm (B := big) (fun i hi => by omega) (Ys.T g3) (fun y hy => ?_)
  refine Yk.tm (B := big + 2 * n + 1) (fun i hi => hi) (S c4 l4 g4) (fun y' hy' => ?_)
  exact Tm.ret ⟨rfl, rfl, rfl, hy.1, hy'⟩
theorem Yx.T {aC : Int} {aD : ByteArray} {aI : Int} {aF aH : List (List D)} (g1 : aD.size ≤ lim) (g3 : ZB RS lim aF) (g4 : ZB YG lim aH) : Tm (Zai 1) (fun k => Yx.t k aC aD aI aF aH) (fun z => z.1 = aC ∧ z.2.1 = aD ∧ z.2.2.1 = aI ∧ z.2.2.2.1 = Zc aF ∧ z.2.2.2.2 = Zc aH ∧ True) := by
  have hlim : lim = 1048576 := rfl
  have g' : ∀ x ∈ aH, YH lim 1099511627776 x := fun x hx => by
    obtain ⟨h, hh, hx⟩ := g4.2 x hx
    exact hx.mono (hh (by decide))
  exact (((toVal 1099511627776).2 aC aD aI aF aH g1 g3 g4.1 g').up (big_lv1 (n := 2 * 1099511627776 + 2) (by omega))).mono fun r hr => ⟨hr.1, hr.2.1, hr.2.2.1, hr.2.2.2.1, hr.2.2.2.2, trivial⟩
theorem YK.f_of {β : Type} {k : Nat} {aC aD aI : Int} {aF : ByteArray} {aH : Int} {aU aV : List (List D)} {z0 z1 z2 : Int} {z3 : ByteArray} {z4 : Int} {z5 z6 : List (List C)} (h : YK.t k aC aD aI aF aH aU aV = some (z0, z1, z2, z3, z4, z5, z6)) (K : Int → Int → Int → ByteArray → Int → (List (List C)) → (List (List C)) → Option β) : YK.f k aC aD aI aF aH aU aV K = K z0 z1 z2 z3 z4 z5 z6 := by
  unfold YK.f
  rw [h]
theorem YK.tm {ι α : Type} {ok : ι → Prop} {ψ : α → Prop} {p : ι → Nat} {B : Nat} (hp : ∀ i, ok i → B ≤ p i) {aC aD aI : Int} {aF : ByteArray} {aH : Int} {aU aV : List (List D)} {φ : Int × Int × Int × ByteArray × Int × (List (List C)) × (List (List C)) → Prop} (h : Tm (fun k => B ≤ k) (fun k => YK.t k aC aD aI aF aH aU aV) φ) {G : ι → Int → Int → Int → ByteArray → Int → (List (List C)) → (List (List C)) → Option α} (hG : ∀ z0 z1 z2 z3 z4 z5 z6, φ (z0, z1, z2, z3, z4, z5, z6) → Tm ok (fun ι0 => G ι0 z0 z1 z2 z3 z4 z5 z6) ψ) : Tm ok (fun ι0 => YK.f (p ι0) aC aD aI aF aH aU aV (G ι0)) ψ := by
  obtain ⟨⟨z0, z1, z2, z3, z4, z5, z6⟩, h1, h2⟩ := h
  exact (hG z0 z1 z2 z3 z4 z5 z6 h1).congr fun i0 hi0 => YK.f_of (h2 (p i0) (hp i0 hi0)) _
theorem YK.T {aC aD aI : Int} {aF : ByteArray} {aH : Int} {aU aV : List (List D)} (ga0_3 : aF.size ≤ lim) (ga0_5 : ZB RS lim aU) (ga0_6 : ZB YG lim aV) : Tm (Zai 1) (fun k => YK.t k aC aD aI aF aH aU aV) (fun z => z.1 = aC ∧ z.2.1 = aD ∧ z.2.2.1 = aI ∧ z.2.2.2.1 = aF ∧ z.2.2.2.2.1 = aH ∧ z.2.2.2.2.2.1 = Zc aU ∧ z.2.2.2.2.2.2 = Zc aV ∧ True) := by
  unfold YK.t YK.g
  have hm := maxLen_eq
  have hlim : lim = 1048576 := rfl
  refine Yx.tm (fun i hi => hi) (Yx.T (by first | assumption | omega) (by first | assumption | omega) (by first | assumption | omega)) (fun y2 y3 y4 y5 y6 hy1 => ?_)
  try simp only [] at hy1
  obtain ⟨rfl, rfl, rfl, rfl, rfl, _⟩ := hy1
  try simp only [ZK]
  exact Tm.ret (by exact ⟨by first | rfl | assumption, by first | rfl | assumption, by first | rfl | assumption, by first | rfl | assumption, by first | rfl | assumption, by first | rfl | assumption, by first | rfl | assumption, trivial⟩)
theorem Yw.tm {ι α : Type} {ok : ι → Prop} {ψ : α → Prop} {p : ι → Nat} {B : Nat} (hp : ∀ i, ok i → B ≤ p i) {a0 φ} (h : Tm (fun k => B ≤ k) (fun k => Yw.t k a0) φ) {G : ι → (List (List C)) → Option α} (hG : ∀ z0, φ z0 → Tm ok (fun i => G i z0) ψ) : Tm ok (fun i => Yw.f (p i) a0 (G i)) ψ := bd1_tm (t := fun k => Yw.t k a0) hp h hG
set_option maxRecDepth 100000 in
theorem Yw.T {a0 : List (List D)} (ga0 : ZB Yj lim a0) : Tm (Zai 1) (fun k => Yw.t k a0) (fun z => z = Zc a0 ∧ True) := by
  unfold Yw.t Yw.g Yw.m
  have hm := maxLen_eq
  have hlim : lim = 1048576 := rfl
  have hlen := ga0.1
  refine Tm.guard (by first | omega | (simp only [lim, maxLen_eq, Z8] at *; omega) | (simp only [lim, Z8] at *; refine ⟨?_, ?_, ?_, ?_⟩ <;> omega)) ?_
  refine Tm.loop (okk := (Zai 1)) (p := fun k => k) (fun i hi => up0 hi) (b := fun k => Yw.l0 k a0 (fun z0 => some z0)) (fun v => match v with | (i, u1) => (((a0.length : Int)) - i).toNat) (fun v => match v with | (i, u1) => 0 ≤ i ∧ i ≤ (a0.length : Int) ∧ Filled a0 ([.d (.int .i64 0), .d (.int .i64 0), .d (.int .i64 0), .d (.str (⟨#[]⟩ : ByteArray)), .d (.int .i64 0), .own ([] : List (List C)), .own ([] : List (List C))] : List C) i u1) ?_ ?_ ?_
  · rintro ⟨i, u1⟩ hI
    try simp only [] at hI ⊢
    have : big = 2 ^ 64 := rfl
    have := ga0.1
    simp only [lim] at this
    omega
  · exact ⟨by omega, by simp, Filled.start _ _⟩
  · rintro ⟨i, u1⟩ hI L hL
    try simp only [] at hI
    obtain ⟨i0, i1, hF⟩ := hI
    have hFl := hF.len i1
    simp only [Yw.l0, atR, rdQ, Q.ask]
    refine Tm.ite (fun h1 => ?_) (fun h1 => ?_)
    · try simp only [bz0, bz1, bz2, bz3, bz4, bz5, bz6, bz7, bz8, bz9, bza] at h1
      refine Tm.atRow (by first | assumption | omega) (by first | assumption | omega) (fun x2 hx3 hm4 => ?_)
      obtain ⟨c5, c6, c7, c8, c9, c10, c11, rfl, g12, g13, g14, g15, g16, g17, g18, _⟩ := (ga0.2 x2 hm4).open
      refine Tm.uncons ?_
      refine Tm.dInt ?_
      refine Tm.uncons ?_
      refine Tm.dInt ?_
      refine Tm.uncons ?_
      refine Tm.dInt ?_
      refine Tm.uncons ?_
      refine Tm.dStr ?_
      refine Tm.uncons ?_
      refine Tm.dInt ?_
      refine Tm.uncons ?_
      refine Tm.dSl ?_
      refine Tm.uncons ?_
      refine Tm.dSl ?_
      refine Tm.atEnd ?_
      refine YK.tm (fun i hi => hi.1) (YK.T (by first | assumption | omega) (by first | assumption | omega) (by first | assumption | omega)) (fun y20 y21 y22 y23 y24 y25 y26 hy19 => ?_)
      try simp only [] at hy19
      obtain ⟨rfl, rfl, rfl, rfl, rfl, rfl, rfl, _⟩ := hy19
      try simp only [ZK]
      refine Tm.guard (by first | omega | (simp only [lim, maxLen_eq, Z8] at *; omega) | (simp only [lim, Z8] at *; refine ⟨?_, ?_, ?_, ?_⟩ <;> omega)) ?_
      refine Tm.guard (by first | omega | (simp only [lim, maxLen_eq, Z8] at *; omega) | (simp only [lim, Z8] at *; refine ⟨?_, ?_, ?_, ?_⟩ <;> omega)) ?_
      try rw [Z9 (x := i + 1) (by omega) (by omega)]
      refine hL (_, _) ⟨by omega, by omega, hF.next i0 hx3 rfl (by simp [ZN, deepD])⟩ (by (try simp only []); omega)
    · try simp only [bz0, bz1, bz2, bz3, bz4, bz5, bz6, bz7, bz8, bz9, bza] at h1
      exact Tm.ret (by exact ⟨hF.all (by omega), trivial⟩)
theorem YV.tm {ι α : Type} {ok : ι → Prop} {ψ : α → Prop} {p : ι → Nat} {B : Nat} (hp : ∀ i, ok i → B ≤ p i) {aC aD φ} (h : Tm (fun k => B ≤ k) (fun k => YV.t k aC aD) φ) {G : ι → Int → Int → Option α} (hG : ∀ z0 z1, φ (z0, z1) → Tm ok (fun i => G i z0 z1) ψ) : Tm ok (fun i => YV.f (p i) aC aD (G i)) ψ := bd2_tm (t := fun k => YV.t k aC aD) hp h hG
theorem YV.T {aC aD : Int} : Tm Fuel (fun k => YV.t k aC aD) (fun z => z.1 = aC ∧ z.2 = aD ∧ True) := by
  unfold YV.t YV.g
  have hm := maxLen_eq
  have hlim : lim = 1048576 := rfl
  exact Tm.ret (by exact ⟨by first | rfl | assumption, by first | rfl | assumption, trivial⟩)
theorem YD.tm {ι α : Type} {ok : ι → Prop} {ψ : α → Prop} {p : ι → Nat} {B : Nat} (hp : ∀ i, ok i → B ≤ p i) {a0 φ} (h : Tm (fun k => B ≤ k) (fun k => YD.t k a0) φ) {G : ι → (List (List C)) → Option α} (hG : ∀ z0, φ z0 → Tm ok (fun i => G i z0) ψ) : Tm ok (fun i => YD.f (p i) a0 (G i)) ψ := bd1_tm (t := fun k => YD.t k a0) hp h hG
set_option maxRecDepth 100000 in
theorem YD.T {a0 : List (List D)} (ga0 : ZB RII lim a0) : Tm Fuel (fun k => YD.t k a0) (fun z => z = Zc a0 ∧ True) := by
  unfold YD.t YD.g
  have hm := maxLen_eq
  have hlim : lim = 1048576 := rfl
  have hlen := ga0.1
  refine Tm.guard (by first | omega | (simp only [lim, maxLen_eq, Z8] at *; omega) | (simp only [lim, Z8] at *; refine ⟨?_, ?_, ?_, ?_⟩ <;> omega)) ?_
  refine Tm.loop (okk := Fuel) (p := fun k => k) (fun i hi => hi) (b := fun k => YD.l0 k a0 (fun z0 => some z0)) (fun v => match v with | (i, u1) => (((a0.length : Int)) - i).toNat) (fun v => match v with | (i, u1) => 0 ≤ i ∧ i ≤ (a0.length : Int) ∧ Filled a0 ([.d (.int .i64 0), .d (.int .i64 0)] : List C) i u1) ?_ ?_ ?_
  · rintro ⟨i, u1⟩ hI
    try simp only [] at hI ⊢
    have : big = 2 ^ 64 := rfl
    have := ga0.1
    simp only [lim] at this
    omega
  · exact ⟨by omega, by simp, Filled.start _ _⟩
  · rintro ⟨i, u1⟩ hI L hL
    try simp only [] at hI
    obtain ⟨i0, i1, hF⟩ := hI
    have hFl := hF.len i1
    simp only [YD.l0, atR, rdQ, Q.ask]
    refine Tm.ite (fun h1 => ?_) (fun h1 => ?_)
    · try simp only [bz0, bz1, bz2, bz3, bz4, bz5, bz6, bz7, bz8, bz9, bza] at h1
      refine Tm.atRow (by first | assumption | omega) (by first | assumption | omega) (fun x2 hx3 hm4 => ?_)
      obtain ⟨c5, c6, rfl, g7, g8, _⟩ := (ga0.2 x2 hm4).open
      refine Tm.uncons ?_
      refine Tm.dInt ?_
      refine Tm.uncons ?_
      refine Tm.dInt ?_
      refine Tm.atEnd ?_
      refine YV.tm (fun i hi => hi.1) (YV.T) (fun y10 y11 hy9 => ?_)
      try simp only [] at hy9
      obtain ⟨rfl, rfl, _⟩ := hy9
      try simp only [ZK]
      refine Tm.guard (by first | omega | (simp only [lim, maxLen_eq, Z8] at *; omega) | (simp only [lim, Z8] at *; refine ⟨?_, ?_, ?_, ?_⟩ <;> omega)) ?_
      refine Tm.guard (by first | omega | (simp only [lim, maxLen_eq, Z8] at *; omega) | (simp only [lim, Z8] at *; refine ⟨?_, ?_, ?_, ?_⟩ <;> omega)) ?_
      try rw [Z9 (x := i + 1) (by omega) (by omega)]
      refine hL (_, _) ⟨by omega, by omega, hF.next i0 hx3 rfl (by simp [ZN, deepD])⟩ (by (try simp only []); omega)
    · try simp only [bz0, bz1, bz2, bz3, bz4, bz5, bz6, bz7, bz8, bz9, bza] at h1
      exact Tm.ret (by exact ⟨hF.all (by omega), trivial⟩)
theorem YI.tm {ι α : Type} {ok : ι → Prop} {ψ : α → Prop} {p : ι → Nat} {B : Nat} (hp : ∀ i, ok i → B ≤ p i) {aC aD aI aF aH φ} (h : Tm (fun k => B ≤ k) (fun k => YI.t k aC aD aI aF aH) φ) {G : ι → ByteArray → Int → Int → (List (List C)) → (List (List C)) → Option α} (hG : ∀ z0 z1 z2 z3 z4, φ (z0, z1, z2, z3, z4) → Tm ok (fun i => G i z0 z1 z2 z3 z4) ψ) : Tm ok (fun i => YI.f (p i) aC aD aI aF aH (G i)) ψ := bd5_tm (t := fun k => YI.t k aC aD aI aF aH) hp h hG
theorem YI.T {aC : ByteArray} {aD aI : Int} {aF aH : List (List D)} (ga0_0 : aC.size ≤ lim) (ga0_3 : ZB Yj lim aF) (ga0_4 : ZB RII lim aH) : Tm (Zai 1) (fun k => YI.t k aC aD aI aF aH) (fun z => z.1 = aC ∧ z.2.1 = aD ∧ z.2.2.1 = aI ∧ z.2.2.2.1 = Zc aF ∧ z.2.2.2.2 = Zc aH ∧ True) := by
  unfold YI.t YI.g
  have hm := maxLen_eq
  have hlim : lim = 1048576 := rfl
  refine Yw.tm (fun i hi => hi) (Yw.T (by first | assumption | omega)) (fun y2 hy1 => ?_)
  try simp only [] at hy1
  obtain ⟨rfl, _⟩ := hy1
  try simp only [ZK]
  refine YD.tm (fun i hi => up0 hi) (YD.T (by first | assumption | omega)) (fun y4 hy3 => ?_)
  try simp only [] at hy3
  obtain ⟨rfl, _⟩ := hy3
  try simp only [ZK]
  exact Tm.ret (by exact ⟨by first | rfl | assumption, by first | rfl | assumption, by first | rfl | assumption, by first | rfl | assumption, by first | rfl | assumption, trivial⟩)
theorem YE.f_of {β : Type} {k a0 a1 z0 z1} (h : YE.t k a0 a1 = some (z0, z1)) (K : Int → Bool → Option β) : YE.f k a0 a1 K = K z0 z1 := by unfold YE.f; rw [h]; rfl
theorem Yo.tm {ι α : Type} {ok : ι → Prop} {ψ : α → Prop} {p : ι → Nat} {B : Nat} (hp : ∀ i, ok i → B ≤ p i) {aC aD aI aF aH φ} (h : Tm (fun k => B ≤ k) (fun k => Yo.t k aC aD aI aF aH) φ) {G : ι → (List (List C)) → Option α} (hG : ∀ z0, φ z0 → Tm ok (fun i => G i z0) ψ) : Tm ok (fun i => Yo.f (p i) aC aD aI aF aH (G i)) ψ := bd1_tm (t := fun k => Yo.t k aC aD aI aF aH) hp h hG
theorem YC.f_of {β : Type} {k a0 z0} (h : YC.t k a0 = some z0) (K : (List (List C)) → Option β) : YC.f k a0 K = K z0 := by unfold YC.f; rw [h]; rfl
theorem clone_run_fv {a : List (List D)} (g : ZB RII lim a) {k : Nat} {β : Type} (K : List (List C) → Option β) : YC.f k a K = K (a.map (·.map C.d)) := YC.f_of (by
  have hl := g.1
  have hlim : lim = 1048576 := rfl
  have hm : Z8 = 2 ^ 36 := rfl
  unfold YC.t YC.g
  rw [ZH (RII.flat g.2), ZH (by simp only [List.length_nil, map_len]; omega), List.nil_append]
  exact nilSl_same) K
theorem YL.f_of {β : Type} {k aC aD aL aM z0} (h : YL.t k aC aD aL aM = some z0) (K : Int → Option β) : YL.f k aC aD aL aM K = K z0 := by unfold YL.f; rw [h]; rfl
theorem Yc.f_of {β : Type} {k a0 a1 a2 z0} (h : Yc.t k a0 a1 a2 = some z0) (K : (List (List C)) → Option β) : Yc.f k a0 a1 a2 K = K z0 := by unfold Yc.f; rw [h]; rfl
def rowE (e : Nat → Int × Int) (i : Nat) : List C := [.d (.int .i64 (e i).1), .d (.int .i64 (e i).2)]
def upE (e : Nat → Int × Int) (L : List Nat) : List (List C) := L.map (rowE e)
theorem YU {e : Nat → Int × Int} {L : List Nat} : (upE e L).length = L.length := List.length_map ..
theorem Y0 {β : Type} {e : Nat → Int × Int} {L : List Nat} {v : Int} {i x : Nat} (hv : v = (i : Int)) (h : L[i]? = some x) {F : Int → Int → Option β} :
    Zd ((0 : Int) ≤ v ∧ v < ((upE e L).length : Int)) (ZaR (upE e L) v.toNat fun c => ZaJ (c.drop 0) fun c1 r1 => cD c1 fun d1 => dInt .i64 d1 fun x1 => ZaJ r1 fun c2 r2 => cD c2 fun d2 => dInt .i64 d2 fun x2 => F x1 x2) = F (e x).1 (e x).2 := by
  subst hv
  have hi := (List.getElem?_eq_some_iff.mp h).1
  rw [ZH ⟨by omega, by rw [YU]; omega⟩, Int.toNat_natCast]
  simp [ZaR, upE, h, rowE, ZaJ, cD, dInt]
theorem rd1_get {β : Type} {e : Nat → Int × Int} {L : List Nat} {v : Int} {i x : Nat} (hv : v = (i : Int)) (h : L[i]? = some x) {F : Int → Option β} :
    Zd ((0 : Int) ≤ v ∧ v < ((upE e L).length : Int)) (ZaR (upE e L) v.toNat fun c => ZaJ (c.drop 0) fun c1 r1 => cD c1 fun d1 => dInt .i64 d1 fun x1 => F x1) = F (e x).1 := by
  subst hv
  have hi := (List.getElem?_eq_some_iff.mp h).1
  rw [ZH ⟨by omega, by rw [YU]; omega⟩, Int.toNat_natCast]
  simp [ZaR, upE, h, rowE, ZaJ, cD, dInt]
theorem upE_set {e : Nat → Int × Int} {L : List Nat} {i x : Nat} : ((upE e L).modify i fun c => Zs c 0 (rowE e x)) = upE e (L.set i x) := by
  apply List.ext_getElem?
  intro m
  unfold upE
  rw [List.getElem?_modify, List.getElem?_map, List.getElem?_map, List.getElem?_set]
  by_cases h : i = m
  · subst h
    by_cases h2 : i < L.length
    · simp [h2, Zs, rowE]
    · simp [List.getElem?_eq_none (Nat.le_of_not_lt h2), h2]
  · simp [h]
theorem wr_get {β : Type} {e : Nat → Int × Int} {L : List Nat} {v : Int} {i x : Nat} (hv : v = (i : Int)) (hi : i < L.length) {F : List (List C) → Option β} :
    Zd ((0 : Int) ≤ v ∧ v < ((upE e L).length : Int)) (Zd (v.toNat < (upE e L).length) (F ((upE e L).modify v.toNat fun c => Zs c 0 [.d (.int .i64 (e x).1), .d (.int .i64 (e x).2)]))) = F (upE e (L.set i x)) := by
  subst hv
  rw [ZH ⟨by omega, by rw [YU]; omega⟩, ZH (by rw [YU]; omega), Int.toNat_natCast]
  exact congrArg F upE_set
theorem sw_get {β : Type} {e : Nat → Int × Int} {L : List Nat} {v v' : Int} {i j x y : Nat} (hv : v = (i : Int)) (hv' : v' = (j : Int)) (hi : i < L.length) (hj : j < L.length) {F : List (List C) → Option β} :
    Zd ((0 : Int) ≤ v ∧ v < ((upE e L).length : Int)) (Zd (v.toNat < (upE e L).length) (Zd ((0 : Int) ≤ v' ∧ v' < ((((upE e L).modify v.toNat fun c => Zs c 0 [.d (.int .i64 (e x).1), .d (.int .i64 (e x).2)]).length : Nat) : Int)) (Zd (v'.toNat < ((upE e L).modify v.toNat fun c => Zs c 0 [.d (.int .i64 (e x).1), .d (.int .i64 (e x).2)]).length) (F (((upE e L).modify v.toNat fun c => Zs c 0 [.d (.int .i64 (e x).1), .d (.int .i64 (e x).2)]).modify v'.toNat fun c => Zs c 0 [.d (.int .i64 (e y).1), .d (.int .i64 (e y).2)]))))) = F (upE e ((L.set i x).set j y)) := by
  subst hv hv'
  have e1 : ((upE e L).modify ((i : Int)).toNat fun c => Zs c 0 [.d (.int .i64 (e x).1), .d (.int .i64 (e x).2)]) = upE e (L.set i x) := by rw [Int.toNat_natCast]; exact upE_set
  rw [e1, ZH ⟨by omega, by rw [YU]; omega⟩, ZH (by rw [YU]; omega), ZH ⟨by omega, by rw [YU, List.length_set]; omega⟩, ZH (by rw [YU, List.length_set]; omega), Int.toNat_natCast]
  exact congrArg F upE_set
theorem Y2 {A B : List Nat} {x i : Nat} (h : i = A.length) : (A ++ x :: B)[i]? = some x := by subst h; simp
theorem Y5 {A B : List Nat} {x y i : Nat} (h : i = A.length) : (A ++ x :: B).set i y = A ++ y :: B := by subst h; simp
def cmpTI (a c : Int) : Int := if a < c then -1 else if a > c then 1 else 0
theorem cmpTI_neg {a c : Int} : decide (cmpTI a c < 0) = decide (a < c) := by
  unfold cmpTI
  by_cases h : a < c
  · simp [h]
  · by_cases h2 : a > c <;> simp [h, h2]
theorem cmpT_fv {k : Nat} {a b c d : Int} {β : Type} {K : Int → Option β} : YL.f k a b c d K = K (cmpTI a c) := YL.f_of (by
  unfold YL.t YL.g YN.f YN.t YN.g YT.f YT.t YT.g cmpTI
  by_cases h : a < c
  · simp [h, bd1]
  · by_cases h2 : a > c <;> simp [h, h2, bd1]) K
theorem insT_t {e : Nat → Int × Int} {X S Y : List Nat} (hS : S.Pairwise (· < ·)) (hl : (X ++ S ++ Y).length < 1099511627776) {k : Nat} (hk : Fuel k) {a b : Int} (ha : a = (X.length : Int)) (hb : b = ((X.length + S.length : Nat) : Int)) :
    Yc.t k (upE e (X ++ S ++ Y)) a b = some (upE e (X ++ YY (fun i => (e i).1) S ++ Y)) := by
  have hb' : big = 2 ^ 64 := rfl
  simp only [List.length_append] at hl
  unfold Yc.t Yc.g
  generalize hkey : (fun i => (e i).1) = key
  have hke : ∀ i, (e i).1 = key i := fun i => by rw [← hkey]
  have hw1 : IntKind.wrap .i64 (a + 1) = ((X.length + 1 + 0 : Nat) : Int) := by rw [Z9 (by omega) (by omega)]; omega
  have h0 : X ++ S ++ Y = X ++ YY key (S.take (0 + 1)) ++ S.drop (0 + 1) ++ Y := by
    rw [srtK_self (key := key) (L := S.take (0 + 1)) (by cases S <;> simp), List.append_assoc X (S.take (0 + 1)), List.take_append_drop]
  rw [hw1, h0]
  refine iter_seq (f := fun t => (a, b, ((X.length + 1 + t : Nat) : Int), upE e (X ++ YY key (S.take (t + 1)) ++ S.drop (t + 1) ++ Y))) (n := S.length - 1) (by unfold Fuel at hk; omega) (fun L t ht => ?_) (fun L => ?_)
  · simp only [Yc.l0, Yc.m0, Yc.m0]
    rw [ZY (show ((X.length + 1 + t : Nat) : Int) < b by omega)]
    simp only [cond_true]
    obtain ⟨x, hx⟩ : ∃ x, S[t + 1]? = some x := ⟨_, List.getElem?_eq_getElem (by omega)⟩
    have hdrop : S.drop (t + 1) = x :: S.drop (t + 1 + 1) := by
      obtain ⟨hx1, hx2⟩ := List.getElem?_eq_some_iff.mp hx
      rw [List.drop_eq_getElem_cons hx1, hx2]
    have htake : S.take (t + 1 + 1) = S.take (t + 1) ++ [x] := by
      rw [List.take_add_one, hx]; rfl
    have hlt : ∀ y ∈ S.take (t + 1), y < x := fun y hy => by
      have := hS.sublist (List.take_sublist (t + 1 + 1) S)
      rw [htake] at this
      exact (List.pairwise_append.mp this).2.2 y hy x (by simp)
    have hnd : (S.take (t + 1)).Nodup := (hS.sublist (List.take_sublist _ S)).imp (fun h => by omega)
    have hR := Y8 (key := key) hnd
    have hRl : (YY key (S.take (t + 1))).length = t + 1 := by rw [YX, List.length_take]; omega
    rw [hdrop]
    generalize YY key (S.take (t + 1)) = R at hR hRl ⊢
    have hTl : (S.drop (t + 1 + 1)).length = S.length - (t + 1 + 1) := List.length_drop ..
    generalize hT : S.drop (t + 1 + 1) = T at hTl ⊢
    refine iter_val (fun v : Int × List (List C) => v.1.toNat) (fun v => ∃ A B, R = A ++ B ∧ v.1 = ((X.length + A.length : Nat) : Int) ∧ v.2 = upE e (X ++ A ++ x :: (B ++ T ++ Y)) ∧ ∀ y ∈ B, key x < key y) (fun _ => L (a, b, ((X.length + 1 + (t + 1) : Nat) : Int), upE e (X ++ YY key (S.take (t + 1 + 1)) ++ T ++ Y))) ?_ k _ ⟨R, [], by simp, by simp only []; omega, by simp, by simp⟩ (by unfold Fuel at hk; simp only []; omega)
    rintro ⟨j, rows⟩ ⟨A, B, hS', hj, hrow, hB⟩ L1 hL
    simp only [] at hj hrow hL
    subst hj hrow
    have hlen : A.length + B.length = t + 1 := by rw [← hRl, hS']; simp
    have hwt : IntKind.wrap .i64 (((X.length + 1 + t : Nat) : Int) + 1) = ((X.length + 1 + (t + 1) : Nat) : Int) := by rw [Z9 (by omega) (by omega)]; omega
    simp only [Yc.l1, hwt]
    have hdone : (∀ y ∈ A, ltK key y x) → L (a, b, ((X.length + 1 + (t + 1) : Nat) : Int), upE e (X ++ A ++ x :: (B ++ T ++ Y))) = L (a, b, ((X.length + 1 + (t + 1) : Nat) : Int), upE e (X ++ YY key (S.take (t + 1 + 1)) ++ T ++ Y)) := fun h => by
      have hst : StOf key (S.take (t + 1 + 1)) (A ++ x :: B) := by
        have hp := hR.1
        rw [hS'] at hp
        obtain ⟨p1, p2, p3⟩ := List.pairwise_append.mp hp
        refine ⟨List.pairwise_append.mpr ⟨p1, List.pairwise_cons.mpr ⟨fun y hy => .inl (hB y hy), p2⟩, fun y hy z hz => ?_⟩, ?_⟩
        · rcases List.mem_cons.mp hz with rfl | hz
          · exact h y hy
          · exact p3 y hy z hz
        · rw [htake]
          refine List.perm_middle.trans ?_
          rw [← hS']
          exact (List.Perm.cons x hR.2).trans (List.perm_append_singleton x _).symm
      rw [← srtK_eq hst]
      simp
    have hll : (X ++ A ++ x :: (B ++ T ++ Y)).length < 1099511627776 := by simp only [List.length_append, List.length_cons]; omega
    rcases List.eq_nil_or_concat A with rfl | ⟨A', y, rfl⟩
    · rw [ZZ (by simp; omega)]
      simp only [cond_false]
      exact hdone (by simp)
    · simp only [List.concat_eq_append] at hS' hlen hdone hL hll ⊢
      have hyR : y ∈ R := by rw [hS']; simp
      have hyx := hlt y (hR.2.mem_iff.mp hyR)
      have hAl : (A' ++ [y]).length = A'.length + 1 := by simp
      rw [hAl] at hL hlen ⊢
      have e1 : X ++ (A' ++ [y]) ++ x :: (B ++ T ++ Y) = X ++ A' ++ y :: (x :: (B ++ T ++ Y)) := by simp
      have e2 : X ++ A' ++ y :: (x :: (B ++ T ++ Y)) = (X ++ A' ++ [y]) ++ x :: (B ++ T ++ Y) := by simp
      have hw2 : IntKind.wrap .i64 (((X.length + (A'.length + 1) : Nat) : Int) - 1) = ((X.length + A'.length : Nat) : Int) := by rw [Z9 (by omega) (by omega)]; omega
      rw [ZY (show ((X.length + (A'.length + 1) : Nat) : Int) > a by omega)]
      simp only [cond_true, hw2]
      rw [e1]
      have gx : (X ++ A' ++ y :: (x :: (B ++ T ++ Y)))[X.length + (A'.length + 1)]? = some x := by rw [e2]; exact Y2 (by simp <;> omega)
      have gy : (X ++ A' ++ y :: (x :: (B ++ T ++ Y)))[X.length + A'.length]? = some y := Y2 (by simp)
      have hlL : (X ++ A' ++ y :: (x :: (B ++ T ++ Y))).length = X.length + A'.length + 2 + (B.length + T.length + Y.length) := by simp; omega
      rw [Y0 rfl gx, Y0 rfl gy, cmpT_fv, cmpTI_neg, hke, hke]
      by_cases hc : key x < key y
      · rw [ZY hc]
        simp only [cond_true]
        rw [Y0 rfl gy, Y0 rfl gx, sw_get (i := X.length + (A'.length + 1)) (j := X.length + A'.length) (x := y) (y := x) rfl rfl (by omega) (by omega) (F := fun r => L1 (_, r))]
        have e3 : ((X ++ A' ++ y :: (x :: (B ++ T ++ Y))).set (X.length + (A'.length + 1)) y).set (X.length + A'.length) x = X ++ A' ++ x :: (y :: B ++ T ++ Y) := by
          rw [e2, Y5 (by simp <;> omega), show X ++ A' ++ [y] ++ y :: (B ++ T ++ Y) = X ++ A' ++ y :: (y :: (B ++ T ++ Y)) from by simp, Y5 (by simp)]
          simp
        rw [e3]
        exact hL _ ⟨A', y :: B, by rw [hS']; simp, rfl, rfl, fun z hz => by rcases List.mem_cons.mp hz with rfl | hz; exact hc; exact hB z hz⟩ (by simp only []; omega)
      · rw [ZZ hc]
        simp only [cond_false]
        rw [← e1]
        refine hdone fun z hz => ?_
        have hyx2 : ltK key y x := by unfold ltK; omega
        rcases List.mem_append.mp hz with hz | hz
        · have hp := hR.1
          rw [hS'] at hp
          have hp2 := (List.pairwise_append.mp (List.pairwise_append.mp hp).1).2.2 z hz y (by simp)
          exact ltK_tr hp2 hyx2
        · simp at hz; subst hz; exact hyx2
  · simp only [Yc.l0, Yc.m0, Yc.m0]
    rw [ZZ (by omega)]
    simp only [cond_false]
    rw [List.take_of_length_le (by omega), List.drop_of_length_le (by omega)]
    simp
theorem Yd.f_of {β : Type} {k a0 a1 a2 a3 z0} (h : Yd.t k a0 a1 a2 a3 = some z0) (K : (List (List C)) → Option β) : Yd.f k a0 a1 a2 a3 K = K z0 := by unfold Yd.f; rw [h]; rfl
theorem Ye.f_of {β : Type} {k a0 a1 a2 a3 z0} (h : Ye.t k a0 a1 a2 a3 = some z0) (K : (List (List C)) → Option β) : Ye.f k a0 a1 a2 a3 K = K z0 := by unfold Ye.f; rw [h]; rfl
theorem drop_get {S : List Nat} {t : Nat} (h : t < S.length) : ∃ x, S.drop t = x :: S.drop (t + 1) ∧ S.take (t + 1) = S.take t ++ [x] := by
  refine ⟨S[t], List.drop_eq_getElem_cons h, ?_⟩
  rw [List.take_add_one, List.getElem?_eq_getElem h]; rfl
theorem swapT_t {e : Nat → Int × Int} {X U Z V Y : List Nat} (hUV : U.length = V.length) (hl : (X ++ U ++ Z ++ V ++ Y).length < 1099511627776) {k : Nat} (hk : Fuel k) {a b n : Int} (ha : a = (X.length : Int)) (hb : b = ((X.length + U.length + Z.length : Nat) : Int)) (hn : n = (U.length : Int)) :
    Yd.t k (upE e (X ++ U ++ Z ++ V ++ Y)) a b n = some (upE e (X ++ V ++ Z ++ U ++ Y)) := by
  have hb' : big = 2 ^ 64 := rfl
  simp only [List.length_append] at hl
  unfold Yd.t Yd.g
  have h0 : X ++ U ++ Z ++ V ++ Y = X ++ (V.take 0 ++ U.drop 0) ++ Z ++ (U.take 0 ++ V.drop 0) ++ Y := by simp
  rw [h0]
  refine iter_seq (f := fun t => ((t : Int), upE e (X ++ (V.take t ++ U.drop t) ++ Z ++ (U.take t ++ V.drop t) ++ Y))) (n := U.length) (by unfold Fuel at hk; omega) (fun L t ht => ?_) (fun L => ?_)
  · simp only [Yd.l0]
    rw [ZY (show (t : Int) < n by omega)]
    simp only [cond_true]
    obtain ⟨u, hu1, hu2⟩ := drop_get (S := U) (t := t) ht
    obtain ⟨v, hv1, hv2⟩ := drop_get (S := V) (t := t) (by omega)
    have hVt : (V.take t).length = t := by rw [List.length_take]; omega
    have hUt : (U.take t).length = t := by rw [List.length_take]; omega
    have hUd : (U.drop (t + 1)).length = U.length - (t + 1) := List.length_drop ..
    have hVd : (V.drop (t + 1)).length = V.length - (t + 1) := List.length_drop ..
    rw [hu2, hv2, hu1, hv1]
    generalize V.take t = Vt at hVt ⊢
    generalize U.take t = Ut at hUt ⊢
    generalize U.drop (t + 1) = Ud at hUd ⊢
    generalize V.drop (t + 1) = Vd at hVd ⊢
    have e1 : X ++ (Vt ++ u :: Ud) ++ Z ++ (Ut ++ v :: Vd) ++ Y = (X ++ Vt) ++ u :: (Ud ++ Z ++ Ut ++ v :: (Vd ++ Y)) := by simp
    have e2 : ∀ q, (X ++ Vt) ++ q :: (Ud ++ Z ++ Ut ++ v :: (Vd ++ Y)) = ((X ++ Vt) ++ q :: (Ud ++ Z ++ Ut)) ++ v :: (Vd ++ Y) := fun q => by simp
    have hwa : IntKind.wrap .i64 (a + (t : Int)) = ((X.length + t : Nat) : Int) := by rw [Z9 (by omega) (by omega)]; omega
    have hwb : IntKind.wrap .i64 (b + (t : Int)) = ((X.length + U.length + Z.length + t : Nat) : Int) := by rw [Z9 (by omega) (by omega)]; omega
    have hwt : IntKind.wrap .i64 ((t : Int) + 1) = ((t + 1 : Nat) : Int) := by rw [Z9 (by omega) (by omega)]; omega
    rw [hwa, hwb, hwt, e1]
    have gu : (X ++ Vt ++ u :: (Ud ++ Z ++ Ut ++ v :: (Vd ++ Y)))[X.length + t]? = some u := Y2 (by simp [hVt])
    have gv : (X ++ Vt ++ u :: (Ud ++ Z ++ Ut ++ v :: (Vd ++ Y)))[X.length + U.length + Z.length + t]? = some v := by
      rw [e2]; exact Y2 (by simp [hVt, hUd, hUt]; omega)
    have hlL : (X ++ Vt ++ u :: (Ud ++ Z ++ Ut ++ v :: (Vd ++ Y))).length = X.length + U.length + Z.length + V.length + Y.length := by simp [hVt, hUt, hUd, hVd]; omega
    rw [Y0 rfl gv, Y0 rfl gu, sw_get (i := X.length + t) (j := X.length + U.length + Z.length + t) (x := v) (y := u) rfl rfl (by omega) (by omega) (F := fun r => L (_, r))]
    rw [Y5 (by simp [hVt]), e2, Y5 (by simp [hVt, hUd, hUt]; omega)]
    congr 3
    simp
  · simp only [Yd.l0]
    rw [ZZ (by omega)]
    simp only [cond_false]
    rw [List.take_of_length_le (show V.length ≤ U.length by omega), List.drop_of_length_le (Nat.le_refl U.length), List.take_of_length_le (Nat.le_refl U.length), List.drop_of_length_le (show V.length ≤ U.length by omega)]
    simp
theorem swapT_f {e : Nat → Int × Int} {X U Z V Y : List Nat} (hUV : U.length = V.length) (hl : (X ++ U ++ Z ++ V ++ Y).length < 1099511627776) {k : Nat} (hk : Fuel k) {a b n : Int} (ha : a = (X.length : Int)) (hb : b = ((X.length + U.length + Z.length : Nat) : Int)) (hn : n = (U.length : Int)) {β : Type} (K : List (List C) → Option β) :
    Yd.f k (upE e (X ++ U ++ Z ++ V ++ Y)) a b n K = K (upE e (X ++ V ++ Z ++ U ++ Y)) := Yd.f_of (swapT_t hUV hl hk ha hb hn) K
theorem rotT_t {e : Nat → Int × Int} {X A B Y : List Nat} (hA : 0 < A.length) (hB : 0 < B.length) (hl : (X ++ A ++ B ++ Y).length < 1099511627776) {k : Nat} (hk : Fuel k) {a m b : Int} (ha : a = (X.length : Int)) (hm : m = ((X.length + A.length : Nat) : Int)) (hb : b = ((X.length + A.length + B.length : Nat) : Int)) :
    Ye.t k (upE e (X ++ A ++ B ++ Y)) a m b = some (upE e (X ++ B ++ A ++ Y)) := by
  have hb' : big = 2 ^ 64 := rfl
  simp only [List.length_append] at hl
  unfold Ye.t Ye.g
  rw [Z9 (x := m - a) (by omega) (by omega), Z9 (x := b - m) (by omega) (by omega)]
  refine iter_val (fun v : Int × Int × List (List C) => (v.1 + v.2.1).toNat) (fun v => ∃ X' P Q Y', v.2.2 = upE e (X' ++ P ++ Q ++ Y') ∧ v.1 = (P.length : Int) ∧ v.2.1 = (Q.length : Int) ∧ m = ((X'.length + P.length : Nat) : Int) ∧ 0 < P.length ∧ 0 < Q.length ∧ X' ++ Q ++ P ++ Y' = X ++ B ++ A ++ Y) (fun _ => some (upE e (X ++ B ++ A ++ Y))) ?_ k _ ⟨X, A, B, Y, rfl, by simp only []; omega, by simp only []; omega, hm, hA, hB, rfl⟩ (by unfold Fuel at hk; simp only []; omega)
  rintro ⟨i, j, rows⟩ ⟨X', P, Q, Y', hrow, hi, hj, hmm, hP, hQ, hT⟩ L hL
  simp only [] at hrow hi hj hL
  subst hrow hi hj
  have hlen : X'.length + Q.length + P.length + Y'.length = X.length + B.length + A.length + Y.length := by
    have := congrArg List.length hT
    simpa only [List.length_append] using this
  simp only [Ye.l0]
  have hw1 : IntKind.wrap .i64 (m - (P.length : Int)) = (X'.length : Int) := by rw [Z9 (by omega) (by omega)]; omega
  by_cases h : P.length = Q.length
  · have hne : ((P.length : Int) != (Q.length : Int)) = false := by simp [h]
    rw [hne]
    simp only [cond_false]
    rw [hw1, show X' ++ P ++ Q ++ Y' = X' ++ P ++ [] ++ Q ++ Y' from by simp, swapT_f h (by simp only [List.length_append, List.length_nil]; omega) hk rfl (by simp only [List.length_nil]; omega) rfl, ZH (by rw [YU, YU]; simp only [List.length_append, List.length_nil]; omega)]
    rw [← hT]
    simp
  · have hne : ((P.length : Int) != (Q.length : Int)) = true := by simp; omega
    rw [hne]
    simp only [cond_true]
    by_cases h2 : Q.length < P.length
    · rw [ZY (show (P.length : Int) > (Q.length : Int) by omega)]
      simp only [cond_true]
      have eP : P = P.take Q.length ++ P.drop Q.length := (List.take_append_drop _ _).symm
      have l1 : (P.take Q.length).length = Q.length := by rw [List.length_take]; omega
      have l2 : (P.drop Q.length).length = P.length - Q.length := List.length_drop ..
      have hlP := hlen
      generalize P.take Q.length = P1 at eP l1
      generalize P.drop Q.length = P2 at eP l2
      have hw2 : IntKind.wrap .i64 ((P.length : Int) - (Q.length : Int)) = (P2.length : Int) := by rw [Z9 (by omega) (by omega)]; omega
      have hPl : P.length = P1.length + P2.length := by rw [eP, List.length_append]
      rw [hw1, hw2, show X' ++ P ++ Q ++ Y' = X' ++ P1 ++ P2 ++ Q ++ Y' from by rw [eP]; simp, swapT_f l1 (by simp only [List.length_append]; omega) hk rfl (by omega) (by omega), ZH (by rw [YU, YU]; simp only [List.length_append]; omega)]
      exact hL _ ⟨X' ++ Q, P2, P1, Y', by simp, rfl, by simp only []; omega, by rw [hmm, List.length_append]; omega, by omega, by omega, by rw [← hT, eP]; simp⟩ (by simp only []; omega)
    · rw [ZZ (show ¬ (P.length : Int) > (Q.length : Int) by omega)]
      simp only [cond_false]
      have eQ : Q = Q.take (Q.length - P.length) ++ Q.drop (Q.length - P.length) := (List.take_append_drop _ _).symm
      have l1 : (Q.take (Q.length - P.length)).length = Q.length - P.length := by rw [List.length_take]; omega
      have l2 : (Q.drop (Q.length - P.length)).length = P.length := by rw [List.length_drop]; omega
      generalize Q.take (Q.length - P.length) = Q1 at eQ l1
      generalize Q.drop (Q.length - P.length) = Q2 at eQ l2
      have hw2 : IntKind.wrap .i64 ((Q.length : Int) - (P.length : Int)) = (Q1.length : Int) := by rw [Z9 (by omega) (by omega)]; omega
      have hw3 : IntKind.wrap .i64 (IntKind.wrap .i64 (m + (Q.length : Int)) - (P.length : Int)) = ((X'.length + P.length + Q1.length : Nat) : Int) := by
        rw [Z9 (x := m + _) (by omega) (by omega), Z9 (by omega) (by omega)]; omega
      have hQl : Q.length = Q1.length + Q2.length := by rw [eQ, List.length_append]
      rw [hw1, hw2, hw3, show X' ++ P ++ Q ++ Y' = X' ++ P ++ Q1 ++ Q2 ++ Y' from by rw [eQ]; simp, swapT_f l2.symm (by simp only [List.length_append]; omega) hk rfl rfl rfl, ZH (by rw [YU, YU]; simp only [List.length_append]; omega)]
      exact hL _ ⟨X', Q2, Q1, P ++ Y', by simp, by simp only []; omega, rfl, by rw [hmm]; omega, by omega, by omega, by rw [← hT, eQ]; simp⟩ (by simp only []; omega)
theorem rotT_f {e : Nat → Int × Int} {X A B Y : List Nat} (hA : 0 < A.length) (hB : 0 < B.length) (hl : (X ++ A ++ B ++ Y).length < 1099511627776) {k : Nat} (hk : Fuel k) {a m b : Int} (ha : a = (X.length : Int)) (hm : m = ((X.length + A.length : Nat) : Int)) (hb : b = ((X.length + A.length + B.length : Nat) : Int)) {β : Type} (K : List (List C) → Option β) :
    Ye.f k (upE e (X ++ A ++ B ++ Y)) a m b K = K (upE e (X ++ B ++ A ++ Y)) := Ye.f_of (rotT_t hA hB hl hk ha hm hb) K
theorem Ya.f_of {β : Type} {k a0 a1 a2 a3 z0} (h : Ya.t k a0 a1 a2 a3 = some z0) (K : (List (List C)) → Option β) : Ya.f k a0 a1 a2 a3 K = K z0 := by unfold Ya.f Ya.w; rw [h]; rfl
theorem halfS {i j h : Nat} (hh : (i + j) / 2 = h) (hl : i + j < 2199023255552) : Int.fdiv (IntKind.wrap .u64 (IntKind.wrap .i64 ((i : Int) + (j : Int)))) (2 ^ (min (1 : Int).toNat 64)) = (h : Int) := by
  have : IntKind.wrap .u64 (IntKind.wrap .i64 ((i : Int) + (j : Int))) = (i : Int) + (j : Int) := by
    rw [Z9 (by omega) (by omega)]
    simp only [IntKind.wrap, IntKind.bits, IntKind.signed]
    simp
    omega
  rw [this, show (min (1 : Int).toNat 64) = 1 from rfl, Int.pow_one, Int.fdiv_eq_ediv_of_nonneg _ (by decide)]
  omega
theorem st_one {key : Nat → Int} {x s : Nat} {B : List Nat} (hB : B.Pairwise (ltK key)) (hx : ∀ y ∈ B, x < y) (h1 : ∀ y ∈ B.take s, key y < key x) (h2 : ∀ y ∈ B.drop s, ¬ key y < key x) : B.take s ++ x :: B.drop s = YY key ([x] ++ B) := by
  refine srtK_eq ⟨?_, ?_⟩
  · rw [← List.take_append_drop s B] at hB
    obtain ⟨p1, p2, p3⟩ := List.pairwise_append.mp hB
    refine List.pairwise_append.mpr ⟨p1, List.pairwise_cons.mpr ⟨fun y hy => ?_, p2⟩, fun y hy z hz => ?_⟩
    · have h3 := h2 y hy
      have h4 := hx y (List.mem_of_mem_drop hy)
      unfold ltK; omega
    · rcases List.mem_cons.mp hz with rfl | hz
      · exact .inl (h1 y hy)
      · exact p3 y hy z hz
  · refine List.perm_middle.trans ?_
    rw [List.take_append_drop]
    exact List.Perm.refl _
theorem st_last {key : Nat → Int} {y s : Nat} {A : List Nat} (hA : A.Pairwise (ltK key)) (hx : ∀ x ∈ A, x < y) (h1 : ∀ x ∈ A.take s, ¬ key y < key x) (h2 : ∀ x ∈ A.drop s, key y < key x) : A.take s ++ y :: A.drop s = YY key (A ++ [y]) := by
  refine srtK_eq ⟨?_, ?_⟩
  · rw [← List.take_append_drop s A] at hA
    obtain ⟨p1, p2, p3⟩ := List.pairwise_append.mp hA
    refine List.pairwise_append.mpr ⟨p1, List.pairwise_cons.mpr ⟨fun z hz => .inl (h2 z hz), p2⟩, fun x hx' z hz => ?_⟩
    · rcases List.mem_cons.mp hz with rfl | hz
      · have h3 := h1 x hx'
        have h4 := hx x (List.mem_of_mem_take hx')
        unfold ltK; omega
      · exact p3 x hx' z hz
  · refine List.perm_middle.trans ?_
    rw [List.take_append_drop]
    exact (List.perm_append_singleton y A).symm
theorem key_le {key : Nat → Int} {L : List Nat} (h : L.Pairwise (ltK key)) {i j : Nat} (hi : i < L.length) (hj : j < L.length) (hij : i ≤ j) : key L[i] ≤ key L[j] := by
  rcases st_le h hi hj hij with q | q
  · rw [q]; exact Int.le_refl _
  · unfold ltK at q; omega
theorem take_keys {key : Nat → Int} {L : List Nat} (h : L.Pairwise (ltK key)) {c : Nat} (hc : c < L.length) {y : Nat} (hy : y ∈ L.take (c + 1)) : key y ≤ key L[c] := by
  obtain ⟨i, hi, his, rfl⟩ := mem_take_get hy
  exact key_le h hi hc (by omega)
theorem drop_keys {key : Nat → Int} {L : List Nat} (h : L.Pairwise (ltK key)) {c : Nat} (hc : c < L.length) {y : Nat} (hy : y ∈ L.drop c) : key L[c] ≤ key y := by
  obtain ⟨i, hi, his, rfl⟩ := mem_drop_get hy
  exact key_le h hc hi (by omega)
theorem symT_one {e : Nat → Int × Int} {key : Nat → Int} (hke : ∀ i, (e i).1 = key i) {X B Y : List Nat} {x k : Nat} {r : List (List C) → Int → Int → Int → (List (List C) → Option (List (List C))) → Option (List (List C))} (hk : Fuel k) {a m b : Int} (hB : B.Pairwise (ltK key)) (hx : ∀ y ∈ B, x < y) (hl : (X ++ [x] ++ B ++ Y).length < 1099511627776) (ha : a = (X.length : Int)) (hm : m = ((X.length + 1 : Nat) : Int)) (hb : b = ((X.length + 1 + B.length : Nat) : Int)) :
    ZA (Ya.l0 k r a (upE e (X ++ [x] ++ B ++ Y)) (fun z0 => some z0)) k (m, b) = some (upE e (X ++ YY key ([x] ++ B) ++ Y)) := by
  have hb' : big = 2 ^ 64 := rfl
  simp only [List.length_append, List.length_singleton] at hl
  refine iter_val (fun v : Int × Int => (v.2 - v.1).toNat) (fun v => ∃ s t : Nat, v.1 = ((X.length + 1 + s : Nat) : Int) ∧ v.2 = ((X.length + 1 + t : Nat) : Int) ∧ s ≤ t ∧ t ≤ B.length ∧ (∀ y ∈ B.take s, key y < key x) ∧ ∀ y ∈ B.drop t, ¬ key y < key x) (fun _ => some (upE e (X ++ YY key ([x] ++ B) ++ Y))) ?_ k _ ⟨0, B.length, by simp only []; omega, by simp only []; omega, by omega, Nat.le_refl _, by simp, by simp⟩ (by unfold Fuel at hk; simp only []; omega)
  rintro ⟨i, j⟩ ⟨s, t, hi, hj, hst, htB, h1, h2⟩ L hL
  simp only [] at hi hj hL
  subst hi hj
  simp only [Ya.l0, Ya.m0, Ya.m0]
  by_cases hlt : s < t
  · rw [ZY (show ((X.length + 1 + s : Nat) : Int) < ((X.length + 1 + t : Nat) : Int) by omega)]
    simp only [cond_true]
    obtain ⟨u, hu⟩ : ∃ u, u = (s + t + (X.length + 1) + (X.length + 1)) / 2 - (X.length + 1) := ⟨_, rfl⟩
    have hus : s ≤ u ∧ u < t := by omega
    have hub : u < B.length := by omega
    rw [halfS (h := X.length + 1 + u) (by omega) (by omega), Z9 (x := ((X.length + 1 + u : Nat) : Int)) (by omega) (by omega), ZH (by decide)]
    have gB : (X ++ [x] ++ B ++ Y)[X.length + 1 + u]? = some B[u] := by
      rw [show X ++ [x] ++ B ++ Y = X ++ [x] ++ (B ++ Y) from by simp, List.getElem?_append_right (by simp <;> omega), List.getElem?_append_left (by simp <;> omega)]
      rw [show X.length + 1 + u - (X ++ [x]).length = u from by simp, List.getElem?_eq_getElem hub]
    have gx : (X ++ [x] ++ B ++ Y)[X.length]? = some x := by rw [show X ++ [x] ++ B ++ Y = X ++ x :: (B ++ Y) from by simp]; exact Y2 rfl
    rw [Y0 rfl gB, Y0 ha gx, cmpT_fv, cmpTI_neg, hke, hke]
    have hw : IntKind.wrap .i64 (((X.length + 1 + u : Nat) : Int) + 1) = ((X.length + 1 + (u + 1) : Nat) : Int) := by rw [Z9 (by omega) (by omega)]; omega
    by_cases hc : key B[u] < key x
    · rw [ZY hc]
      simp only [cond_true, hw]
      exact hL _ ⟨u + 1, t, rfl, rfl, by omega, htB, fun y hy => by have := take_keys hB hub hy; omega, h2⟩ (by simp only []; omega)
    · rw [ZZ hc]
      simp only [cond_false]
      exact hL _ ⟨s, u, rfl, rfl, by omega, by omega, h1, fun y hy => by have := drop_keys hB hub hy; omega⟩ (by simp only []; omega)
  · obtain rfl : s = t := by omega
    rw [ZZ (by omega)]
    simp only [cond_false]
    rw [← st_one hB hx h1 h2]
    have h0 : X ++ [x] ++ B ++ Y = X ++ B.take 0 ++ x :: (B.drop 0 ++ Y) := by simp
    have ha0 : a = ((X.length + 0 : Nat) : Int) := by omega
    rw [h0, ha0]
    refine iter_seq (f := fun t => (((X.length + t : Nat) : Int), upE e (X ++ B.take t ++ x :: (B.drop t ++ Y)))) (n := s) (by unfold Fuel at hk; omega) (fun L t ht => ?_) (fun L => ?_)
    · simp only [Ya.l1]
      rw [Z9 (x := ((X.length + 1 + s : Nat) : Int) - 1) (by omega) (by omega), ZY (by omega)]
      simp only [cond_true]
      obtain ⟨y, hy1, hy2⟩ := drop_get (S := B) (t := t) (by omega)
      have hBt : (B.take t).length = t := by rw [List.length_take]; omega
      have hBd : (B.drop (t + 1)).length = B.length - (t + 1) := List.length_drop ..
      rw [hy2, hy1]
      generalize B.take t = Bt at hBt ⊢
      generalize B.drop (t + 1) = Bd at hBd ⊢
      have hw : IntKind.wrap .i64 (((X.length + t : Nat) : Int) + 1) = ((X.length + (t + 1) : Nat) : Int) := by rw [Z9 (by omega) (by omega)]; omega
      rw [hw]
      have e1 : ∀ q, X ++ Bt ++ q :: (y :: Bd ++ Y) = (X ++ Bt ++ [q]) ++ y :: (Bd ++ Y) := fun q => by simp
      have gx : (X ++ Bt ++ x :: (y :: Bd ++ Y))[X.length + t]? = some x := Y2 (by simp [hBt])
      have gy : (X ++ Bt ++ x :: (y :: Bd ++ Y))[X.length + (t + 1)]? = some y := by rw [e1]; exact Y2 (by simp [hBt] <;> omega)
      have hlL : (X ++ Bt ++ x :: (y :: Bd ++ Y)).length = X.length + 1 + B.length + Y.length := by simp [hBt, hBd]; omega
      rw [Y0 rfl gy, Y0 rfl gx, sw_get (i := X.length + t) (j := X.length + (t + 1)) (x := y) (y := x) rfl rfl (by omega) (by omega) (F := fun r => L (_, r))]
      rw [Y5 (by simp [hBt]), e1, Y5 (by simp [hBt] <;> omega)]
      congr 3
      simp
    · simp only [Ya.l1]
      rw [Z9 (x := ((X.length + 1 + s : Nat) : Int) - 1) (by omega) (by omega), ZZ (by omega)]
      simp
theorem symT_last {e : Nat → Int × Int} {key : Nat → Int} (hke : ∀ i, (e i).1 = key i) {X A Y : List Nat} {y k : Nat} {r : List (List C) → Int → Int → Int → (List (List C) → Option (List (List C))) → Option (List (List C))} (hk : Fuel k) {a m : Int} (hA : A.Pairwise (ltK key)) (hx : ∀ x ∈ A, x < y) (hl : (X ++ A ++ [y] ++ Y).length < 1099511627776) (ha : a = (X.length : Int)) (hm : m = ((X.length + A.length : Nat) : Int)) :
    ZA (Ya.l2 k r m (upE e (X ++ A ++ [y] ++ Y)) (fun z0 => some z0)) k (a, m) = some (upE e (X ++ YY key (A ++ [y]) ++ Y)) := by
  have hb' : big = 2 ^ 64 := rfl
  simp only [List.length_append, List.length_singleton] at hl
  refine iter_val (fun v : Int × Int => (v.2 - v.1).toNat) (fun v => ∃ s t : Nat, v.1 = ((X.length + s : Nat) : Int) ∧ v.2 = ((X.length + t : Nat) : Int) ∧ s ≤ t ∧ t ≤ A.length ∧ (∀ x ∈ A.take s, ¬ key y < key x) ∧ ∀ x ∈ A.drop t, key y < key x) (fun _ => some (upE e (X ++ YY key (A ++ [y]) ++ Y))) ?_ k _ ⟨0, A.length, by simp only []; omega, by simp only []; omega, by omega, Nat.le_refl _, by simp, by simp⟩ (by unfold Fuel at hk; simp only []; omega)
  rintro ⟨i, j⟩ ⟨s, t, hi, hj, hst, htB, h1, h2⟩ L hL
  simp only [] at hi hj hL
  subst hi hj
  simp only [Ya.l2, Ya.m2, Ya.m2]
  by_cases hlt : s < t
  · rw [ZY (show ((X.length + s : Nat) : Int) < ((X.length + t : Nat) : Int) by omega)]
    simp only [cond_true]
    obtain ⟨u, hu⟩ : ∃ u, u = (s + t + X.length + X.length) / 2 - X.length := ⟨_, rfl⟩
    have hus : s ≤ u ∧ u < t := by omega
    have hub : u < A.length := by omega
    rw [halfS (h := X.length + u) (by omega) (by omega), Z9 (x := ((X.length + u : Nat) : Int)) (by omega) (by omega), ZH (by decide)]
    have gA : (X ++ A ++ [y] ++ Y)[X.length + u]? = some A[u] := by
      rw [show X ++ A ++ [y] ++ Y = X ++ (A ++ ([y] ++ Y)) from by simp, List.getElem?_append_right (by omega), List.getElem?_append_left (by omega)]
      rw [show X.length + u - X.length = u from by omega, List.getElem?_eq_getElem hub]
    have gy : (X ++ A ++ [y] ++ Y)[X.length + A.length]? = some y := by rw [show X ++ A ++ [y] ++ Y = X ++ A ++ y :: Y from by simp]; exact Y2 (by simp)
    rw [Y0 hm gy, Y0 rfl gA, cmpT_fv, cmpTI_neg, hke, hke]
    have hw : IntKind.wrap .i64 (((X.length + u : Nat) : Int) + 1) = ((X.length + (u + 1) : Nat) : Int) := by rw [Z9 (by omega) (by omega)]; omega
    by_cases hc : key y < key A[u]
    · rw [ZY hc]
      simp only [Bool.not_true, cond_false]
      exact hL _ ⟨s, u, rfl, rfl, by omega, by omega, h1, fun x hx => by have := drop_keys hA hub hx; omega⟩ (by simp only []; omega)
    · rw [ZZ hc]
      simp only [Bool.not_false, cond_true, hw]
      exact hL _ ⟨u + 1, t, rfl, rfl, by omega, htB, fun x hx => by have := take_keys hA hub hx; omega, h2⟩ (by simp only []; omega)
  · obtain rfl : s = t := by omega
    rw [ZZ (by omega)]
    simp only [cond_false]
    rw [← st_last hA hx h1 h2]
    have h0 : X ++ A ++ [y] ++ Y = X ++ A.take (A.length - 0) ++ y :: (A.drop (A.length - 0) ++ Y) := by simp
    have hm0 : m = ((X.length + A.length - 0 : Nat) : Int) := by omega
    rw [h0, hm0]
    refine iter_seq (f := fun t => (((X.length + A.length - t : Nat) : Int), upE e (X ++ A.take (A.length - t) ++ y :: (A.drop (A.length - t) ++ Y)))) (n := A.length - s) (by unfold Fuel at hk; omega) (fun L t ht => ?_) (fun L => ?_)
    · simp only [Ya.l3]
      rw [ZY (by omega)]
      simp only [cond_true]
      obtain ⟨c, hc⟩ : ∃ c, A.length - t = c + 1 := ⟨A.length - t - 1, by omega⟩
      have hc2 : A.length - (t + 1) = c := by omega
      have hc3 : X.length + A.length - t = X.length + c + 1 := by omega
      have hc4 : X.length + A.length - (t + 1) = X.length + c := by omega
      rw [hc, hc2, hc3, hc4]
      obtain ⟨x, hx1, hx2⟩ := drop_get (S := A) (t := c) (by omega)
      have hAt : (A.take c).length = c := by rw [List.length_take]; omega
      have hAd : (A.drop (c + 1)).length = A.length - (c + 1) := List.length_drop ..
      rw [hx2, hx1]
      generalize A.take c = At at hAt ⊢
      generalize A.drop (c + 1) = Ad at hAd ⊢
      have hw : IntKind.wrap .i64 (((X.length + c + 1 : Nat) : Int) - 1) = ((X.length + c : Nat) : Int) := by rw [Z9 (by omega) (by omega)]; omega
      rw [hw]
      have e1 : ∀ q, X ++ (At ++ [x]) ++ q :: (Ad ++ Y) = X ++ At ++ x :: (q :: (Ad ++ Y)) := fun q => by simp
      have gy : (X ++ (At ++ [x]) ++ y :: (Ad ++ Y))[X.length + c + 1]? = some y := Y2 (by simp [hAt] <;> omega)
      have gx : (X ++ (At ++ [x]) ++ y :: (Ad ++ Y))[X.length + c]? = some x := by rw [e1]; exact Y2 (by simp [hAt])
      have hlL : (X ++ (At ++ [x]) ++ y :: (Ad ++ Y)).length = X.length + 1 + A.length + Y.length := by simp [hAt, hAd]; omega
      rw [Y0 rfl gx, Y0 rfl gy, sw_get (i := X.length + c + 1) (j := X.length + c) (x := x) (y := y) rfl rfl (by omega) (by omega) (F := fun r => L (_, r))]
      rw [Y5 (by simp [hAt] <;> omega), e1, Y5 (by simp [hAt])]
      congr 3
    · simp only [Ya.l3]
      rw [ZZ (by omega)]
      simp only [cond_false]
      rw [show A.length - (A.length - s) = s from by omega]
      simp
theorem symT_tail {e : Nat → Int × Int} {key : Nat → Int} {k N : Nat} (hk : Fuel k) {X A B Y : List Nat} {s w : Nat} (hA : A.Pairwise (ltK key)) (hB : B.Pairwise (ltK key)) (hAB : ∀ x ∈ A, ∀ y ∈ B, x < y) (hl : (X ++ A ++ B ++ Y).length < 1099511627776)
    (hsA : s ≤ A.length) (hsw : s ≤ w) (hwB : w - s ≤ B.length) (hw : w = (A.length + B.length + X.length + X.length) / 2 - X.length) (h1 : ∀ (h0 : 0 < s) (h2 : w - s < B.length), ltK key (A[s - 1]'(by omega)) B[w - s]) (h2 : ∀ (h0 : s < A.length) (h2 : 0 < w - s), ltK key (B[w - s - 1]'(by omega)) A[s])
    (ih : ∀ {X A B Y : List Nat} {a m b : Int}, A.length + B.length ≤ N → 0 < A.length → 0 < B.length → A.Pairwise (ltK key) → B.Pairwise (ltK key) → (∀ x ∈ A, ∀ y ∈ B, x < y) → (X ++ A ++ B ++ Y).length < 1099511627776 → a = (X.length : Int) → m = ((X.length + A.length : Nat) : Int) → b = ((X.length + A.length + B.length : Nat) : Int) → ∀ K : List (List C) → Option (List (List C)), Ya.f k (upE e (X ++ A ++ B ++ Y)) a m b K = K (upE e (X ++ YY key (A ++ B) ++ Y)))
    (hN : A.length + B.length ≤ N + 1) (hA0 : 0 < A.length) (hB0 : 0 < B.length) (L : Int × Int → Option (List (List C))) :
    Ya.l4 k (Ya.f k) (X.length : Int) ((X.length + A.length : Nat) : Int) ((X.length + A.length + B.length : Nat) : Int) ((X.length + w : Nat) : Int) ((X.length + w + (X.length + A.length) : Nat) : Int) ((X.length + w + (X.length + A.length) : Nat) - 1 : Int) (upE e (X ++ A ++ B ++ Y)) (fun z0 => some z0) L (((X.length + s : Nat) : Int), ((X.length + s : Nat) : Int)) = some (upE e (X ++ YY key (A ++ B) ++ Y)) := by
  have hb' : big = 2 ^ 64 := rfl
  simp only [List.length_append] at hl
  simp only [Ya.l4]
  rw [ZZ (by omega)]
  simp only [cond_false]
  have hend : IntKind.wrap .i64 (((X.length + w + (X.length + A.length) : Nat) : Int) - ((X.length + s : Nat) : Int)) = ((X.length + A.length + (w - s) : Nat) : Int) := by rw [Z9 (by omega) (by omega)]; omega
  rw [hend]
  have eA : A = A.take s ++ A.drop s := (List.take_append_drop _ _).symm
  have eB : B = B.take (w - s) ++ B.drop (w - s) := (List.take_append_drop _ _).symm
  have lA1 : (A.take s).length = s := by rw [List.length_take]; omega
  have lA2 : (A.drop s).length = A.length - s := List.length_drop ..
  have lB1 : (B.take (w - s)).length = w - s := by rw [List.length_take]; omega
  have lB2 : (B.drop (w - s)).length = B.length - (w - s) := List.length_drop ..
  have c1 : ∀ x ∈ A.take s, ∀ y ∈ B.drop (w - s), ltK key x y := st_across hA hB (fun h0 _ h3 => h1 h0 h3) hsA
  have c2 : ∀ x ∈ A.drop s, ∀ y ∈ B.take (w - s), ltK key y x := fun x hx y hy => st_across hB hA (s := w - s) (e := s) (fun h0 _ h3 => h2 h3 h0) hwB y hy x hx
  generalize A.take s = A1 at eA lA1 c1 c2
  generalize A.drop s = A2 at eA lA2 c1 c2
  generalize B.take (w - s) = B1 at eB lB1 c1 c2
  generalize B.drop (w - s) = B2 at eB lB2 c1 c2
  have hA' := hA; have hB' := hB
  rw [eA] at hA'
  rw [eB] at hB'
  obtain ⟨pA1, pA2, -⟩ := List.pairwise_append.mp hA'
  obtain ⟨pB1, pB2, -⟩ := List.pairwise_append.mp hB'
  have o11 : ∀ x ∈ A1, ∀ y ∈ B1, x < y := fun x hx y hy => hAB x (by rw [eA]; simp [hx]) y (by rw [eB]; simp [hy])
  have o22 : ∀ x ∈ A2, ∀ y ∈ B2, x < y := fun x hx y hy => hAB x (by rw [eA]; simp [hx]) y (by rw [eB]; simp [hy])
  have nA := hA'.imp (S := (· ≠ ·)) (fun {a b} h he => by subst he; exact ltK_as h h)
  have nB := hB'.imp (S := (· ≠ ·)) (fun {a b} h he => by subst he; exact ltK_as h h)
  have nd1 : (A1 ++ B1).Nodup := List.pairwise_append.mpr ⟨(List.pairwise_append.mp nA).1, (List.pairwise_append.mp nB).1, fun x hx y hy he => by have := o11 x hx y hy; omega⟩
  have nd2 : (A2 ++ B2).Nodup := List.pairwise_append.mpr ⟨(List.pairwise_append.mp nA).2.1, (List.pairwise_append.mp nB).2.1, fun x hx y hy he => by have := o22 x hx y hy; omega⟩
  have hfin : YY key (A1 ++ B1) ++ YY key (A2 ++ B2) = YY key (A ++ B) := by
    rw [eA, eB]
    exact srtK_eq (st_join hA' hB' c1 c2 (Y8 nd1) (Y8 nd2))
  have lR1 : (YY key (A1 ++ B1)).length = w := by rw [YX, List.length_append]; omega
  -- the second half
  have T2 : ∀ R1 : List Nat, R1.length = w → ∀ y, y = upE e (X ++ R1 ++ A2 ++ B2 ++ Y) → (bif decide (((X.length + w : Nat) : Int) < ((X.length + A.length + (w - s) : Nat) : Int)) then (bif decide (((X.length + A.length + (w - s) : Nat) : Int) < ((X.length + A.length + B.length : Nat) : Int)) then (Ya.f k y ((X.length + w : Nat) : Int) ((X.length + A.length + (w - s) : Nat) : Int) ((X.length + A.length + B.length : Nat) : Int) (fun y' => Zd (y'.length = y.length) (some y'))) else (some y)) else (some y)) = some (upE e (X ++ R1 ++ YY key (A2 ++ B2) ++ Y)) := by
    intro R1 hR1 y hy
    subst hy
    by_cases h3 : 0 < A2.length
    · rw [ZY (by omega)]
      simp only [cond_true]
      by_cases h4 : 0 < B2.length
      · rw [ZY (by omega)]
        simp only [cond_true]
        rw [ih (X := X ++ R1) (by omega) h3 h4 pA2 pB2 o22 (by simp only [List.length_append]; omega) (by rw [List.length_append]; omega) (by rw [List.length_append]; omega) (by rw [List.length_append]; omega), ZH (by rw [YU, YU]; simp only [List.length_append, YX] <;> omega)]
      · rw [ZZ (by omega)]
        simp only [cond_false]
        obtain rfl : B2 = [] := List.length_eq_zero_iff.mp (by omega)
        rw [List.append_nil, List.append_nil, srtK_self pA2]
    · rw [ZZ (by omega)]
      simp only [cond_false]
      obtain rfl : A2 = [] := List.length_eq_zero_iff.mp (by omega)
      rw [List.append_nil, List.nil_append, srtK_self pB2]
  -- both halves
  have T1 : ∀ y, y = upE e (X ++ A1 ++ B1 ++ (A2 ++ B2 ++ Y)) → (bif decide ((X.length : Int) < ((X.length + s : Nat) : Int)) then (bif decide (((X.length + s : Nat) : Int) < ((X.length + w : Nat) : Int)) then (Ya.f k y (X.length : Int) ((X.length + s : Nat) : Int) ((X.length + w : Nat) : Int) (fun y1 => Zd (y1.length = y.length) (bif decide (((X.length + w : Nat) : Int) < ((X.length + A.length + (w - s) : Nat) : Int)) then (bif decide (((X.length + A.length + (w - s) : Nat) : Int) < ((X.length + A.length + B.length : Nat) : Int)) then (Ya.f k y1 ((X.length + w : Nat) : Int) ((X.length + A.length + (w - s) : Nat) : Int) ((X.length + A.length + B.length : Nat) : Int) (fun y' => Zd (y'.length = y1.length) (some y'))) else (some y1)) else (some y1)))) else (bif decide (((X.length + w : Nat) : Int) < ((X.length + A.length + (w - s) : Nat) : Int)) then (bif decide (((X.length + A.length + (w - s) : Nat) : Int) < ((X.length + A.length + B.length : Nat) : Int)) then (Ya.f k y ((X.length + w : Nat) : Int) ((X.length + A.length + (w - s) : Nat) : Int) ((X.length + A.length + B.length : Nat) : Int) (fun y' => Zd (y'.length = y.length) (some y'))) else (some y)) else (some y))) else (bif decide (((X.length + w : Nat) : Int) < ((X.length + A.length + (w - s) : Nat) : Int)) then (bif decide (((X.length + A.length + (w - s) : Nat) : Int) < ((X.length + A.length + B.length : Nat) : Int)) then (Ya.f k y ((X.length + w : Nat) : Int) ((X.length + A.length + (w - s) : Nat) : Int) ((X.length + A.length + B.length : Nat) : Int) (fun y' => Zd (y'.length = y.length) (some y'))) else (some y)) else (some y))) = some (upE e (X ++ YY key (A ++ B) ++ Y)) := by
    intro y hy
    subst hy
    rw [← hfin, ← List.append_assoc X]
    by_cases h3 : 0 < A1.length
    · rw [ZY (show (X.length : Int) < ((X.length + s : Nat) : Int) by omega)]
      simp only [cond_true]
      by_cases h4 : 0 < B1.length
      · rw [ZY (show ((X.length + s : Nat) : Int) < ((X.length + w : Nat) : Int) by omega)]
        simp only [cond_true]
        rw [ih (by omega) h3 h4 pA1 pB1 o11 (by simp only [List.length_append]; omega) rfl (by omega) (by omega), ZH (by rw [YU, YU]; simp only [List.length_append, YX] <;> omega)]
        exact T2 _ lR1 _ (by simp)
      · rw [ZZ (show ¬ ((X.length + s : Nat) : Int) < ((X.length + w : Nat) : Int) by omega)]
        simp only [cond_false]
        have hB1 : B1 = [] := List.length_eq_zero_iff.mp (by omega)
        have hs1 : YY key (A1 ++ B1) = A1 := by rw [hB1, List.append_nil, srtK_self pA1]
        rw [hs1]
        exact T2 A1 (by omega) _ (by rw [hB1]; simp)
    · rw [ZZ (show ¬ (X.length : Int) < ((X.length + s : Nat) : Int) by omega)]
      simp only [cond_false]
      have hA1 : A1 = [] := List.length_eq_zero_iff.mp (by omega)
      have hs1 : YY key (A1 ++ B1) = B1 := by rw [hA1, List.nil_append, srtK_self pB1]
      rw [hs1]
      exact T2 B1 (by omega) _ (by rw [hA1]; simp)
  have hsw2 : (X ++ A1 ++ (B1 ++ A2) ++ (B2 ++ Y)) = X ++ A1 ++ B1 ++ (A2 ++ B2 ++ Y) := by simp
  by_cases h3 : 0 < A2.length
  · rw [ZY (show ((X.length + s : Nat) : Int) < ((X.length + A.length : Nat) : Int) by omega)]
    simp only [cond_true]
    by_cases h4 : 0 < B1.length
    · rw [ZY (show ((X.length + A.length : Nat) : Int) < ((X.length + A.length + (w - s) : Nat) : Int) by omega)]
      simp only [cond_true]
      have e0 : X ++ A ++ B ++ Y = (X ++ A1) ++ A2 ++ B1 ++ (B2 ++ Y) := by rw [eA, eB]; simp
      rw [e0, rotT_f (X := X ++ A1) h3 h4 (by simp only [List.length_append]; omega) hk (by rw [List.length_append]; omega) (by rw [List.length_append]; omega) (by rw [List.length_append]; omega), ZH (by rw [YU, YU]; simp only [List.length_append]; omega)]
      exact T1 _ (by simp)
    · rw [ZZ (show ¬ ((X.length + A.length : Nat) : Int) < ((X.length + A.length + (w - s) : Nat) : Int) by omega)]
      simp only [cond_false]
      have hB1 : B1 = [] := List.length_eq_zero_iff.mp (by omega)
      exact T1 _ (by rw [eA, eB, hB1]; simp)
  · rw [ZZ (show ¬ ((X.length + s : Nat) : Int) < ((X.length + A.length : Nat) : Int) by omega)]
    simp only [cond_false]
    have hA2 : A2 = [] := List.length_eq_zero_iff.mp (by omega)
    exact T1 _ (by rw [eA, eB, hA2]; simp)
theorem symT_loop {e : Nat → Int × Int} {key : Nat → Int} (hke : ∀ i, (e i).1 = key i) {k N : Nat} (hk : Fuel k) {X A B Y : List Nat} {w lo hi : Nat} (hA : A.Pairwise (ltK key)) (hB : B.Pairwise (ltK key)) (hAB : ∀ x ∈ A, ∀ y ∈ B, x < y) (hl : (X ++ A ++ B ++ Y).length < 1099511627776)
    (hw : w = (A.length + B.length + X.length + X.length) / 2 - X.length) (hlh : lo ≤ hi) (hhA : hi ≤ A.length) (hhw : hi ≤ w) (hlB : w - lo ≤ B.length) (hlo : lo = 0 ∨ w - lo = B.length) (hhi : hi = A.length ∨ w - hi = 0)
    (ih : ∀ {X A B Y : List Nat} {a m b : Int}, A.length + B.length ≤ N → 0 < A.length → 0 < B.length → A.Pairwise (ltK key) → B.Pairwise (ltK key) → (∀ x ∈ A, ∀ y ∈ B, x < y) → (X ++ A ++ B ++ Y).length < 1099511627776 → a = (X.length : Int) → m = ((X.length + A.length : Nat) : Int) → b = ((X.length + A.length + B.length : Nat) : Int) → ∀ K : List (List C) → Option (List (List C)), Ya.f k (upE e (X ++ A ++ B ++ Y)) a m b K = K (upE e (X ++ YY key (A ++ B) ++ Y)))
    (hN : A.length + B.length ≤ N + 1) (hA0 : 0 < A.length) (hB0 : 0 < B.length) :
    ZA (Ya.l4 k (Ya.f k) (X.length : Int) ((X.length + A.length : Nat) : Int) ((X.length + A.length + B.length : Nat) : Int) ((X.length + w : Nat) : Int) ((X.length + w + (X.length + A.length) : Nat) : Int) ((X.length + w + (X.length + A.length) : Nat) - 1 : Int) (upE e (X ++ A ++ B ++ Y)) (fun z0 => some z0)) k (((X.length + lo : Nat) : Int), ((X.length + hi : Nat) : Int)) = some (upE e (X ++ YY key (A ++ B) ++ Y)) := by
  have hb' : big = 2 ^ 64 := rfl
  have hl' := hl
  simp only [List.length_append] at hl'
  refine iter_val (fun v : Int × Int => (v.2 - v.1).toNat) (fun v => ∃ s t : Nat, v.1 = ((X.length + s : Nat) : Int) ∧ v.2 = ((X.length + t : Nat) : Int) ∧ lo ≤ s ∧ s ≤ t ∧ t ≤ hi ∧ Hold (s = lo ∨ ∃ x y, A[s - 1]? = some x ∧ B[w - s]? = some y ∧ ¬ key y < key x) ∧ Hold (t = hi ∨ ∃ x y, A[t]? = some x ∧ B[w - t - 1]? = some y ∧ key y < key x)) (fun _ => some (upE e (X ++ YY key (A ++ B) ++ Y))) ?_ k _ ⟨lo, hi, rfl, rfl, Nat.le_refl _, hlh, Nat.le_refl _, ⟨.inl rfl⟩, ⟨.inl rfl⟩⟩ (by unfold Fuel at hk; simp only []; omega)
  rintro ⟨i, j⟩ ⟨s, t, hi', hj', hls, hst, hth, hs, ht⟩ L hL
  simp only [] at hi' hj' hL
  subst hi' hj'
  by_cases hlt : s < t
  · simp only [Ya.l4]
    rw [ZY (show ((X.length + s : Nat) : Int) < ((X.length + t : Nat) : Int) by omega)]
    simp only [cond_true]
    obtain ⟨u, hu⟩ : ∃ u, u = (s + t + X.length + X.length) / 2 - X.length := ⟨_, rfl⟩
    have hus : s ≤ u ∧ u < t := by omega
    have hua : u < A.length := by omega
    have hub : w - u - 1 < B.length := by omega
    have hJ : IntKind.wrap .i64 (((X.length + w + (X.length + A.length) : Nat) - 1 : Int) - ((X.length + u : Nat) : Int)) = ((X.length + A.length + (w - u - 1) : Nat) : Int) := by rw [Z9 (by omega) (by omega)]; omega
    rw [halfS (h := X.length + u) (by omega) (by omega), Z9 (x := ((X.length + u : Nat) : Int)) (by omega) (by omega), hJ, ZH (by decide)]
    have gA : (X ++ A ++ B ++ Y)[X.length + u]? = some A[u] := by
      rw [show X ++ A ++ B ++ Y = X ++ (A ++ (B ++ Y)) from by simp, List.getElem?_append_right (by omega), List.getElem?_append_left (by omega)]
      rw [show X.length + u - X.length = u from by omega, List.getElem?_eq_getElem hua]
    have gB : (X ++ A ++ B ++ Y)[X.length + A.length + (w - u - 1)]? = some B[w - u - 1] := by
      rw [show X ++ A ++ B ++ Y = (X ++ A) ++ (B ++ Y) from by simp, List.getElem?_append_right (by rw [List.length_append]; omega), List.getElem?_append_left (by rw [List.length_append]; omega)]
      rw [show X.length + A.length + (w - u - 1) - (X ++ A).length = w - u - 1 from by rw [List.length_append]; omega, List.getElem?_eq_getElem hub]
    rw [Y0 rfl gB, Y0 rfl gA, cmpT_fv, cmpTI_neg, hke, hke]
    have hwu : IntKind.wrap .i64 (((X.length + u : Nat) : Int) + 1) = ((X.length + (u + 1) : Nat) : Int) := by rw [Z9 (by omega) (by omega)]; omega
    by_cases hc : key B[w - u - 1] < key A[u]
    · rw [ZY hc]
      simp only [Bool.not_true, cond_false]
      exact hL _ ⟨s, u, rfl, rfl, hls, by omega, by omega, hs, ⟨.inr ⟨A[u], B[w - u - 1], List.getElem?_eq_getElem hua, List.getElem?_eq_getElem hub, hc⟩⟩⟩ (by simp only []; omega)
    · rw [ZZ hc]
      simp only [Bool.not_false, cond_true, hwu]
      exact hL _ ⟨u + 1, t, rfl, rfl, by omega, by omega, hth, ⟨.inr ⟨A[u], B[w - u - 1], by rw [Nat.add_sub_cancel]; exact List.getElem?_eq_getElem hua, by rw [← Nat.sub_sub]; exact List.getElem?_eq_getElem hub, hc⟩⟩, ht⟩ (by simp only []; omega)
  · obtain rfl : s = t := by omega
    refine symT_tail hk hA hB hAB hl (by omega) (by omega) (by omega) hw (fun h0 h3 => ?_) (fun h0 h3 => ?_) ih hN hA0 hB0 L
    · rcases hs.out with q | ⟨x, y, g1, g2, q⟩
      · omega
      · obtain ⟨p1, rfl⟩ := List.getElem?_eq_some_iff.mp g1
        obtain ⟨p2, rfl⟩ := List.getElem?_eq_some_iff.mp g2
        have := hAB _ (List.getElem_mem p1) _ (List.getElem_mem p2)
        unfold ltK
        rcases Int.lt_or_eq_of_le (Int.not_lt.mp q) with q | q
        · exact .inl q
        · exact .inr ⟨q, this⟩
    · rcases ht.out with q | ⟨x, y, g1, g2, q⟩
      · omega
      · obtain ⟨p1, rfl⟩ := List.getElem?_eq_some_iff.mp g1
        obtain ⟨p2, rfl⟩ := List.getElem?_eq_some_iff.mp g2
        exact .inl q
theorem symT_f {e : Nat → Int × Int} {key : Nat → Int} (hke : ∀ i, (e i).1 = key i) : ∀ (N : Nat) {X A B Y : List Nat} {k : Nat} {a m b : Int}, N + big ≤ k → A.length + B.length ≤ N → 0 < A.length → 0 < B.length → A.Pairwise (ltK key) → B.Pairwise (ltK key) → (∀ x ∈ A, ∀ y ∈ B, x < y) → (X ++ A ++ B ++ Y).length < 1099511627776 → a = (X.length : Int) → m = ((X.length + A.length : Nat) : Int) → b = ((X.length + A.length + B.length : Nat) : Int) → ∀ {β : Type} (K : List (List C) → Option β), Ya.f k (upE e (X ++ A ++ B ++ Y)) a m b K = K (upE e (X ++ YY key (A ++ B) ++ Y))
  | 0, X, A, B, Y, k, a, m, b, hk, hN, hA0, hB0, hA, hB, hAB, hl, ha, hm, hb, β, K => by omega
  | N + 1, X, A, B, Y, k, a, m, b, hk, hN, hA0, hB0, hA, hB, hAB, hl, ha, hm, hb, β, K => Ya.f_of (by
    have hb' : big = 2 ^ 64 := rfl
    have hl' := hl
    simp only [List.length_append] at hl'
    obtain ⟨k, rfl⟩ : ∃ k', k = k' + 1 := ⟨k - 1, by omega⟩
    have hkf : Fuel k := by unfold Fuel; omega
    rw [Ya.t_succ]
    unfold Ya.g Ya.body Ya.m
    rw [Z9 (x := m - a) (by omega) (by omega), Z9 (x := b - m) (by omega) (by omega)]
    by_cases h1 : A.length = 1
    · rw [show ((m - a : Int) == 1) = true from by simp; omega]
      simp only [cond_true]
      obtain ⟨x, rfl⟩ := List.length_eq_one_iff.mp h1
      exact symT_one hke hkf hB (fun y hy => hAB x (by simp) y hy) hl ha (by simpa using hm) (by simpa using hb)
    · rw [show ((m - a : Int) == 1) = false from by simp; omega]
      simp only [cond_false]
      by_cases h2 : B.length = 1
      · rw [show ((b - m : Int) == 1) = true from by simp; omega]
        simp only [cond_true]
        obtain ⟨y, rfl⟩ := List.length_eq_one_iff.mp h2
        exact symT_last hke hkf hA (fun x hx => hAB x hx y (by simp)) hl ha hm
      · rw [show ((b - m : Int) == 1) = false from by simp; omega]
        simp only [cond_false]
        subst ha hm hb
        obtain ⟨w, hw⟩ : ∃ w, w = (A.length + B.length + X.length + X.length) / 2 - X.length := ⟨_, rfl⟩
        have hw1 : IntKind.wrap .i64 (((X.length + w : Nat) : Int) + ((X.length + A.length : Nat) : Int)) = ((X.length + w + (X.length + A.length) : Nat) : Int) := by rw [Z9 (by omega) (by omega)]; omega
        have hw2 : IntKind.wrap .i64 (((X.length + w + (X.length + A.length) : Nat) : Int) - 1) = ((X.length + w + (X.length + A.length) : Nat) - 1 : Int) := Z9 (by omega) (by omega)
        rw [halfS (i := X.length) (j := X.length + A.length + B.length) (h := X.length + w) (by omega) (by omega), Z9 (x := ((X.length + w : Nat) : Int)) (by omega) (by omega), hw1, hw2, ZH (by decide)]
        have ih : ∀ {X A B Y : List Nat} {a m b : Int}, A.length + B.length ≤ N → 0 < A.length → 0 < B.length → A.Pairwise (ltK key) → B.Pairwise (ltK key) → (∀ x ∈ A, ∀ y ∈ B, x < y) → (X ++ A ++ B ++ Y).length < 1099511627776 → a = (X.length : Int) → m = ((X.length + A.length : Nat) : Int) → b = ((X.length + A.length + B.length : Nat) : Int) → ∀ K : List (List C) → Option (List (List C)), Ya.f k (upE e (X ++ A ++ B ++ Y)) a m b K = K (upE e (X ++ YY key (A ++ B) ++ Y)) := fun g1 g2 g3 g4 g5 g6 g7 g8 g9 g10 K => symT_f hke N (by omega) g1 g2 g3 g4 g5 g6 g7 g8 g9 g10 K
        by_cases h3 : w < A.length
        · rw [ZY (show ((X.length + A.length : Nat) : Int) > ((X.length + w : Nat) : Int) by omega)]
          simp only [cond_true]
          have hw3 : IntKind.wrap .i64 (((X.length + w + (X.length + A.length) : Nat) : Int) - ((X.length + A.length + B.length : Nat) : Int)) = ((X.length + (w - B.length) : Nat) : Int) := by rw [Z9 (by omega) (by omega)]; omega
          rw [hw3]
          exact symT_loop hke hkf hA hB hAB hl hw (by omega) (by omega) (Nat.le_refl _) (by omega) (by omega) (by omega) ih hN hA0 hB0
        · rw [ZZ (show ¬ ((X.length + A.length : Nat) : Int) > ((X.length + w : Nat) : Int) by omega)]
          simp only [cond_false]
          have h45 : (Ya.l5 (β := List (List C)) k (Ya.f k)) = Ya.l4 k (Ya.f k) := rfl
          rw [h45]
          exact symT_loop (lo := 0) hke hkf hA hB hAB hl hw (by omega) (Nat.le_refl _) (by omega) (by omega) (by omega) (by omega) ih hN hA0 hB0) K
theorem Yb.f_of {β : Type} {k a0 a1 z0} (h : Yb.t k a0 a1 = some z0) (K : (List (List C)) → Option β) : Yb.f k a0 a1 K = K z0 := by unfold Yb.f; rw [h]; rfl
theorem Yh.f_of {β : Type} {k a0 z0} (h : Yh.t k a0 = some z0) (K : (List (List C)) → Option β) : Yh.f k a0 K = K z0 := by unfold Yh.f; rw [h]; rfl
theorem srtK_perm {key : Nat → Int} {L M : List Nat} (h : M.Nodup) (hp : L.Perm M) : YY key L = YY key M := by
  have h2 := Y8 (key := key) (hp.nodup_iff.mpr h)
  exact srtK_eq ⟨h2.1, h2.2.trans hp⟩
theorem srtK_two {key : Nat → Int} {o s l : Nat} : YY key (YY key (List.range' o s) ++ YY key (List.range' (o + s) l)) = YY key (List.range' o (s + l)) := by
  refine srtK_perm List.nodup_range' ?_
  have e : List.range' o (s + l) = List.range' o s ++ List.range' (o + s) l := by
    rw [show List.range' (o + s) l = List.range' (o + 1 * s) l by simp, List.range'_append]
  rw [e]
  exact (Y8 List.nodup_range').2.append (Y8 List.nodup_range').2
def sbK (key : Nat → Int) (s o l : Nat) : List Nat := if h : l = 0 ∨ s = 0 then [] else YY key (List.range' o (min s l)) ++ sbK key s (o + s) (l - s)
termination_by l
decreasing_by omega
theorem sbK_full {key : Nat → Int} {s o l : Nat} (hs : 0 < s) (h : s ≤ l) : sbK key s o l = YY key (List.range' o s) ++ sbK key s (o + s) (l - s) := by
  rw [sbK, dif_neg (by omega), Nat.min_eq_left h]
theorem Y6 {key : Nat → Int} {s o l : Nat} (hs : 0 < s) (h : l ≤ s) : sbK key s o l = YY key (List.range' o l) := by
  by_cases h0 : l = 0
  · subst h0
    rw [sbK, dif_pos (.inl rfl)]
    simp [YY]
  · rw [sbK, dif_neg (by omega), Nat.min_eq_right h, show l - s = 0 from by omega, sbK, dif_pos (.inl rfl), List.append_nil]
theorem sbK_len {key : Nat → Int} {s : Nat} (hs : 0 < s) : ∀ (n o l : Nat), l ≤ n → (sbK key s o l).length = l
  | 0, o, l, h => by rw [Y6 hs (by omega), YX, List.length_range']
  | n + 1, o, l, h => by
    by_cases h1 : s ≤ l
    · rw [sbK_full hs h1, List.length_append, YX, List.length_range', sbK_len hs n _ _ (by omega)]
      omega
    · rw [Y6 hs (by omega), YX, List.length_range']
theorem rng_lt {key : Nat → Int} {o s l : Nat} : ∀ x ∈ YY key (List.range' o s), ∀ y ∈ YY key (List.range' (o + s) l), x < y := fun x hx y hy => by
  have h1 := List.mem_range'_1.mp (srtK_mem.mp hx)
  have h2 := List.mem_range'_1.mp (srtK_mem.mp hy)
  omega
theorem insT_f {e : Nat → Int × Int} {X S Y : List Nat} (hS : S.Pairwise (· < ·)) (hl : (X ++ S ++ Y).length < 1099511627776) {k : Nat} (hk : Fuel k) {a b : Int} (ha : a = (X.length : Int)) (hb : b = ((X.length + S.length : Nat) : Int)) {β : Type} (K : List (List C) → Option β) :
    Yc.f k (upE e (X ++ S ++ Y)) a b K = K (upE e (X ++ YY (fun i => (e i).1) S ++ Y)) := Yc.f_of (insT_t hS hl hk ha hb) K
theorem stableT_t {e : Nat → Int × Int} {n : Nat} (hn : n < 549755813888) {k : Nat} (hk : Zai 1 k) : Yb.t k (upE e (List.range n)) (n : Int) = some (upE e (YY (fun i => (e i).1) (List.range n))) := by
  have hb' : big = 2 ^ 64 := rfl
  have hlv : lv 1 = 2 ^ 65 := rfl
  have hk1 : Fuel k := by unfold Zai at hk; unfold Fuel; omega
  have hk2 : 4398046511104 + big ≤ k := by unfold Zai at hk; omega
  unfold Yb.t Yb.g
  generalize hkey : (fun i => (e i).1) = key
  have hke : ∀ i, (e i).1 = key i := fun i => by rw [← hkey]
  have hkf : 1099511627776 < k := by omega
  refine iter_val (fun v : Int × Int × List (List C) => ((n : Int) - v.1).toNat) (fun v => ∃ (P : List Nat) (o : Nat), v.1 = (o : Int) ∧ v.2.1 = ((o + 20 : Nat) : Int) ∧ v.2.2 = upE e (P ++ List.range' o (n - o)) ∧ P.length = o ∧ o ≤ n ∧ P ++ sbK key 20 o (n - o) = sbK key 20 0 n) (fun _ => some (upE e (YY key (List.range n)))) ?_ k _ ⟨[], 0, rfl, rfl, by rw [List.nil_append, Nat.sub_zero, List.range_eq_range'], rfl, by omega, rfl⟩ (by simp only []; omega)
  rintro ⟨a, b, rows⟩ ⟨P, o, ha, hb, hrow, hP, hon, hT⟩ L hL
  simp only [] at ha hb hrow hL
  subst ha hb hrow
  simp only [Yb.l0, Yb.m0, Yb.m0]
  by_cases h1 : o + 20 ≤ n
  · rw [ZY (show ((o + 20 : Nat) : Int) ≤ (n : Int) by omega)]
    simp only [cond_true]
    have e1 : P ++ List.range' o (n - o) = P ++ List.range' o 20 ++ List.range' (o + 20) (n - (o + 20)) := by
      rw [show n - o = 20 + (n - (o + 20)) from by omega, show List.range' (o + 20) (n - (o + 20)) = List.range' (o + 1 * 20) (n - (o + 20)) by simp, List.append_assoc, List.range'_append]
    rw [e1, insT_f List.pairwise_lt_range' (by simp only [List.length_append, List.length_range']; omega) hk1 (by omega) (by rw [List.length_range']; omega), hkey, ZH (by rw [YU, YU]; simp only [List.length_append, YX]), Z9 (by omega) (by omega)]
    exact hL _ ⟨P ++ YY key (List.range' o 20), o + 20, rfl, by simp only []; omega, rfl, by rw [List.length_append, YX, List.length_range', hP], h1, by rw [← hT, sbK_full (l := n - o) (by decide) (by omega), List.append_assoc, Nat.sub_sub]⟩ (by simp only []; omega)
  · rw [ZZ (show ¬ ((o + 20 : Nat) : Int) ≤ (n : Int) by omega)]
    simp only [cond_false]
    have e1 : P ++ List.range' o (n - o) = P ++ List.range' o (n - o) ++ [] := by simp
    rw [e1, insT_f List.pairwise_lt_range' (by simp only [List.length_append, List.length_range', List.length_nil]; omega) hk1 (by omega) (by rw [List.length_range']; omega), hkey, ZH (by rw [YU, YU]; simp only [List.length_append, YX])]
    rw [List.append_nil, ← Y6 (s := 20) (by decide) (by omega), hT]
    clear hT hP hon h1 e1 hL L
    refine iter_val (fun v : Int × Int × List (List C) => ((n : Int) - v.2.1).toNat) (fun v => ∃ s : Nat, v.1 = (n : Int) ∧ v.2.1 = (s : Int) ∧ 0 < s ∧ s < 2199023255552 ∧ v.2.2 = upE e (sbK key s 0 n)) (fun _ => some (upE e (YY key (List.range n)))) ?_ k _ ⟨20, rfl, rfl, by decide, by decide, rfl⟩ (by simp only []; omega)
    rintro ⟨a, b, rows⟩ ⟨s, ha, hb, hs0, hs1, hrow⟩ L hL
    simp only [] at ha hb hrow hL
    subst ha hb hrow
    simp only [Yb.l1, Yb.m1, Yb.m1]
    by_cases h2 : s < n
    · rw [ZY (show (s : Int) < (n : Int) by omega)]
      simp only [cond_true]
      have hnext : L ((n : Int), ((s * 2 : Nat) : Int), upE e (sbK key (2 * s) 0 n)) = some (upE e (YY key (List.range n))) := hL _ ⟨2 * s, rfl, by simp only []; omega, by omega, by omega, rfl⟩ (by simp only []; omega)
      have hw0 : IntKind.wrap .i64 (2 * (s : Int)) = ((2 * s : Nat) : Int) := by rw [Z9 (by omega) (by omega)]; omega
      have hw1 : IntKind.wrap .i64 ((s : Int) * 2) = ((s * 2 : Nat) : Int) := by rw [Z9 (by omega) (by omega)]; omega
      rw [hw0]
      refine iter_val (fun v : Int × Int × List (List C) => ((n : Int) - v.1).toNat) (fun v => ∃ (P : List Nat) (o : Nat), v.1 = (o : Int) ∧ v.2.1 = ((o + 2 * s : Nat) : Int) ∧ v.2.2 = upE e (P ++ sbK key s o (n - o)) ∧ P.length = o ∧ o ≤ n ∧ P ++ sbK key (2 * s) o (n - o) = sbK key (2 * s) 0 n) (fun _ => some (upE e (YY key (List.range n)))) ?_ k _ ⟨[], 0, rfl, by simp only []; omega, rfl, rfl, by omega, rfl⟩ (by simp only []; omega)
      rintro ⟨a, b, rows⟩ ⟨P, o, ha, hb, hrow, hP, hon, hT⟩ L2 hL2
      simp only [] at ha hb hrow hL2
      subst ha hb hrow
      simp only [Yb.l2, hw0, hw1]
      have hw2 : IntKind.wrap .i64 ((o : Int) + (s : Int)) = ((o + s : Nat) : Int) := by rw [Z9 (by omega) (by omega)]; omega
      have hsrt : ∀ o l, (YY key (List.range' o l)).Pairwise (ltK key) := fun o l => (Y8 List.nodup_range').1
      by_cases h3 : o + 2 * s ≤ n
      · rw [ZY (show ((o + 2 * s : Nat) : Int) ≤ (n : Int) by omega)]
        simp only [cond_true, hw2]
        have hY := sbK_len (key := key) hs0 _ (o + s + s) (n - o - s - s) (Nat.le_refl _)
        have e1 : P ++ sbK key s o (n - o) = P ++ YY key (List.range' o s) ++ YY key (List.range' (o + s) s) ++ sbK key s (o + s + s) (n - o - s - s) := by
          rw [sbK_full hs0 (by omega), sbK_full (l := n - o - s) hs0 (by omega)]
          simp
        have hw3 : IntKind.wrap .i64 (((o + 2 * s : Nat) : Int) + ((2 * s : Nat) : Int)) = ((o + 2 * s + 2 * s : Nat) : Int) := by rw [Z9 (by omega) (by omega)]; omega
        rw [e1, symT_f hke 4398046511104 hk2 (by simp only [YX, List.length_range']; omega) (by simp only [YX, List.length_range']; omega) (by simp only [YX, List.length_range']; omega) (hsrt _ _) (hsrt _ _) rng_lt (by simp only [List.length_append, YX, List.length_range']; omega) (by omega) (by simp only [YX, List.length_range']; omega) (by simp only [YX, List.length_range']; omega), ZH (by rw [YU, YU]; simp only [List.length_append, YX]; omega), hw3, srtK_two]
        exact hL2 _ ⟨P ++ YY key (List.range' o (s + s)), o + 2 * s, rfl, rfl, by rw [show o + s + s = o + 2 * s from by omega, show n - o - s - s = n - (o + 2 * s) from by omega], by rw [List.length_append, YX, List.length_range', hP]; omega, h3, by rw [← hT, sbK_full (l := n - o) (by omega) (by omega), List.append_assoc, Nat.sub_sub, show s + s = 2 * s from by omega]⟩ (by simp only []; omega)
      · rw [ZZ (show ¬ ((o + 2 * s : Nat) : Int) ≤ (n : Int) by omega)]
        simp only [cond_false, hw2]
        by_cases h4 : o + s < n
        · rw [ZY (show ((o + s : Nat) : Int) < (n : Int) by omega)]
          simp only [cond_true]
          have e1 : P ++ sbK key s o (n - o) = P ++ YY key (List.range' o s) ++ YY key (List.range' (o + s) (n - o - s)) ++ [] := by
            rw [sbK_full hs0 (by omega), Y6 (l := n - o - s) hs0 (by omega)]
            simp
          rw [e1, symT_f hke 4398046511104 hk2 (by simp only [YX, List.length_range']; omega) (by simp only [YX, List.length_range']; omega) (by simp only [YX, List.length_range']; omega) (hsrt _ _) (hsrt _ _) rng_lt (by simp only [List.length_append, YX, List.length_range', List.length_nil]; omega) (by omega) (by simp only [YX, List.length_range']; omega) (by simp only [YX, List.length_range']; omega), ZH (by rw [YU, YU]; simp only [List.length_append, YX]; omega), srtK_two]
          rw [List.append_nil, show s + (n - o - s) = n - o from by omega, ← Y6 (s := 2 * s) (by omega) (by omega), hT]
          exact hnext
        · rw [ZZ (show ¬ ((o + s : Nat) : Int) < (n : Int) by omega)]
          simp only [cond_false]
          rw [Y6 hs0 (by omega), ← Y6 (s := 2 * s) (by omega) (by omega), hT]
          exact hnext
    · rw [ZZ (show ¬ (s : Int) < (n : Int) by omega)]
      simp only [cond_false]
      rw [Y6 hs0 (by omega), List.range_eq_range']
theorem sortT_f {e : Nat → Int × Int} {n : Nat} (hn : n < 549755813888) {k : Nat} (hk : Zai 1 k) {β : Type} (K : List (List C) → Option β) : Yh.f k (upE e (List.range n)) K = K (upE e (YY (fun i => (e i).1) (List.range n))) := Yh.f_of (by
  unfold Yh.t Yh.g
  have hl : ((upE e (List.range n)).length : Int) = (n : Int) := by rw [YU, List.length_range]
  rw [hl, Yb.f_of (stableT_t hn hk), ZH (by rw [YU, YU, YX])]) K
theorem YF.tm {ι α : Type} {ok : ι → Prop} {ψ : α → Prop} {p : ι → Nat} {B : Nat} (hp : ∀ i, ok i → B ≤ p i) {aC aD aI aF aH φ} (h : Tm (fun k => B ≤ k) (fun k => YF.t k aC aD aI aF aH) φ) {G : ι → (List (List C)) → Option α} (hG : ∀ z0, φ z0 → Tm ok (fun i => G i z0) ψ) : Tm ok (fun i => YF.f (p i) aC aD aI aF aH (G i)) ψ := bd1_tm (t := fun k => YF.t k aC aD aI aF aH) hp h hG
def runT (l : List (Int × Int)) (uid : Int) : Int := ((l.find? fun p => p.1 == uid).map (·.2)).getD 0
set_option maxRecDepth 100000 in
theorem l11T_fv {l : List (Int × Int)} {uid : Int} (hl : l.length < 549755813888) {k : Nat} (hk : Fuel k) {β : Type} (K : Int → Bool → Option β) : YE.f k (ofP l) uid K = K (runT l uid) (l.any fun p => p.1 == uid) := by
  have hb : big = 2 ^ 64 := rfl
  refine YE.f_of ?_ K
  unfold YE.t YE.g
  refine (iter_val (fun v : Int => ((l.length : Int) - v).toNat) (fun v => 0 ≤ v ∧ v ≤ (l.length : Int) ∧ ∀ p ∈ l.take v.toNat, (p.1 == uid) = false) (fun _ => some (runT l uid, l.any fun p => p.1 == uid)) ?_ k 0 ⟨by omega, by omega, by simp⟩ (by unfold Fuel at hk; omega))
  rintro v ⟨v0, v1, hv⟩ L hL
  obtain ⟨i, rfl⟩ : ∃ i : Nat, v = (i : Int) := ⟨v.toNat, by omega⟩
  simp only [Int.toNat_natCast] at hv
  simp only [YE.l0, atR, rdQ, Q.ask, Yaa]
  have hs : l = l.take i ++ l.drop i := (List.take_append_drop i l).symm
  have hf : (l.take i).find? (fun p => p.1 == uid) = none := by rw [List.find?_eq_none]; intro p hp; rw [hv p hp]; simp
  have ha : (l.take i).any (fun p => p.1 == uid) = false := by rw [List.any_eq_false]; intro p hp; rw [hv p hp]; simp
  by_cases h : i < l.length
  · rw [ZY (show (i : Int) < (l.length : Int) by omega)]
    simp only [cond_true, atRow_ofP h, Z4, Z5, Zan]
    have hd : l.drop i = l[i] :: l.drop (i + 1) := (List.getElem_cons_drop h).symm
    cases hq : l[i].1 == uid with
    | true =>
      simp only [cond_true]
      congr 2
      · unfold runT
        conv => rhs; rw [hs, List.find?_append, hf, hd, List.find?_cons_of_pos (by simpa using hq)]
        rfl
      · conv => rhs; rw [hs, List.any_append, ha, hd, List.any_cons, hq]
        rfl
    | false =>
      simp only [cond_false]
      rw [Z9 (by omega) (by omega)]
      refine hL _ ⟨by omega, by omega, fun p hp => ?_⟩ (by omega)
      rw [show ((i : Int) + 1).toNat = i + 1 by omega, List.take_add_one, List.getElem?_eq_getElem h] at hp
      rcases List.mem_append.mp hp with hp | hp
      · exact hv p hp
      · simp at hp; subst hp; exact hq
  · rw [ZZ (show ¬ (i : Int) < (l.length : Int) by omega)]
    simp only [cond_false]
    have he : l.take i = l := List.take_of_length_le (by omega)
    rw [he] at hf ha
    unfold runT
    rw [hf, ha]
    rfl
def eP (all : List (Int × Int)) (i : Nat) : Int × Int := all.getD i (0, 0)
theorem upE_map {e : Nat → Int × Int} {O : List Nat} : upE e O = upP (O.map e) := by
  unfold upE upP
  rw [List.map_map]
  rfl
theorem eP_range {all : List (Int × Int)} : (List.range all.length).map (eP all) = all := by
  apply List.ext_getElem (by simp)
  intro i h1 h2
  simp [eP, List.getD, List.getElem?_eq_getElem h2]
theorem upE_range {all : List (Int × Int)} : upE (eP all) (List.range all.length) = upP all := by rw [upE_map, eP_range]
theorem imm_upE {e : Nat → Int × Int} {O : List Nat} : C.immRows (upE e O) = ofP (O.map e) := by rw [upE_map, imm_upP]
def Y7 (a : List (List D)) : List (Int × Int) := (List.range a.length).map fun (i : Nat) => (gI a (i : Int) 0, (0 : Int))
theorem Y1 {a : List (List D)} : (Y7 a).length = a.length := by simp [Y7]
theorem wksP_take {a : List (List D)} {i : Nat} (h : i < a.length) : (Y7 a).take (i + 1) = (Y7 a).take i ++ [(gI a (i : Int) 0, 0)] := by
  rw [List.take_add_one, List.getElem?_eq_getElem (by rw [Y1]; exact h)]
  simp [Y7]
def tellO (all : List (Int × Int)) : List Nat := cmpA (fun i => (eP all i).1) (YY (fun i => (eP all i).1) (List.range all.length))
def tellV (all : List (Int × Int)) : List (Int × Int) := (tellO all).map (eP all)
theorem tellO_firsts {all : List (Int × Int)} : Y4 (fun i => (eP all i).1) all.length (tellO all) := firsts_cmpA
theorem tellV_len {all : List (Int × Int)} : (tellV all).length ≤ all.length := by
  unfold tellV
  rw [List.length_map]
  exact firsts_len tellO_firsts
theorem compact_t {e : Nat → Int × Int} {L : List Nat} (hl : L.length < 549755813888) {k : Nat} : Yf.t k (upE e L) = some (upE e (cmpA (fun i => (e i).1) L)) := by
  unfold Yf.t
  generalize hpr : (fun s u : List D => match s, u with | [.int .i64 x0, .int .i64 x1], [.int .i64 y0, .int .i64 y1] => YZ.t k x0 x1 y0 y1 | _, _ => none) = pr
  have hp : ∀ s x, pr (C.immCells (rowE e s)) (C.immCells (rowE e x)) = some ((e s).1 == (e x).1) := fun s x => by subst hpr; rfl
  have key : ∀ (r : List Nat) (x : Nat), compR pr (rowE e x) (upE e r) = some (upE e (cmpL (fun i => (e i).1) x r)) := by
    intro r
    induction r with
    | nil => intro x; rfl
    | cons s r ih =>
      intro x
      have hc : cmpL (fun i => (e i).1) x (s :: r) = bif (e s).1 == (e x).1 then cmpL (fun i => (e i).1) s r else s :: cmpL (fun i => (e i).1) s r := rfl
      have hu : compR pr (rowE e x) (upE e (s :: r)) = (match pr (C.immCells (rowE e s)) (C.immCells (rowE e x)), compR pr (rowE e s) (upE e r) with
        | some true, some ys => some ys
        | some false, some ys => some (rowE e s :: ys)
        | _, _ => none) := rfl
      rw [hu, hc, hp, ih]
      cases (e s).1 == (e x).1 <;> rfl
  cases L with
  | nil => rfl
  | cons x r =>
    have hu : compK pr (upE e (x :: r)) = Zd ((upE e r).length < 1099511627776) (match compR pr (rowE e x) (upE e r) with
      | some ys => some (rowE e x :: ys)
      | none => none) := rfl
    rw [hu, key, ZH (by rw [YU]; simp at hl; omega)]
    rfl
set_option maxRecDepth 100000 in
theorem impl_Tell_t {a0 : ByteArray} {a1 a2 : Int} {a3 : List (List D)} {l : List (Int × Int)} (g3 : ZB Yj lim a3) (g4 : ZB RII lim (ofP l)) {k : Nat} (hk : Zai 1 k) : YF.t k a0 a1 a2 a3 (ofP l) = some (upP (tellV (l ++ Y7 a3))) := by
  have hb : big = 2 ^ 64 := rfl
  have hlv : lv 1 = 2 ^ 65 := rfl
  have hlim : lim = 1048576 := rfl
  have hm : Z8 = 2 ^ 36 := rfl
  have hl3 := g3.1
  have hl4 := g4.1
  rw [Yaa] at hl4
  unfold YF.t YF.g
  rw [clone_run_fv g4, ofP_up]
  have h0 : upP l = upP (l ++ (Y7 a3).take 0) := by simp
  rw [h0]
  refine iter_seq (f := fun t => ((t : Int), upP (l ++ (Y7 a3).take t))) (n := a3.length) (by unfold Zai at hk; omega) (fun L t ht => ?_) (fun L => ?_)
  · simp (disch := omega) only [YF.l0, atR, rdQ, Q.ask, ZY (show (t : Int) < (a3.length : Int) by omega), cond_true, Yj.row g3, Z4, Z5, ZaQ, Zbl, Zan, Z9]
    have hlen : (upP (l ++ (Y7 a3).take t)).length = l.length + t := by rw [upP_len, List.length_append, List.length_take, Y1]; omega
    rw [ZH (by rw [hlen]; simp only [List.length_singleton]; omega), wksP_take ht, ← List.append_assoc, ← upP_app (l ++ (Y7 a3).take t)]
    rfl
  · simp only [YF.l0, atR, rdQ, Q.ask]
    rw [ZZ (by omega)]
    simp only [cond_false]
    rw [List.take_of_length_le (by rw [Y1]; omega), ← upE_range, sortT_f (by rw [List.length_append, Y1]; omega) hk]
    have hfl : ∀ O : List Nat, flatC (upE (eP (l ++ Y7 a3)) O) = true := fun O => by
      unfold upE flatC
      simp [rowE]
      exact fun x _ => ⟨rfl, rfl⟩
    rw [ZH ⟨by rw [YU, YU, YX], hfl _⟩]
    unfold Yf.f
    rw [compact_t (by rw [YX, List.length_range, List.length_append, Y1]; omega)]
    show some _ = _
    rw [upE_map]
    rfl
theorem firsts_has {key : Nat → Int} {n : Nat} {O : List Nat} (h : Y4 key n O) : ∀ (m z : Nat), z < m → z < n → ∃ y ∈ O, key y = key z
  | 0, z, hm, _ => by omega
  | m + 1, z, hm, hz => by
    by_cases hO : z ∈ O
    · exact ⟨z, hO, rfl⟩
    · have h2 : ¬ ∀ w, w < z → key w ≠ key z := fun h3 => hO ((h.mem z).mpr ⟨hz, h3⟩)
      have h4 : ∃ w, w < z ∧ key w = key z := Classical.byContradiction fun h5 => h2 fun w hw he => h5 ⟨w, hw, he⟩
      obtain ⟨w, hw, he⟩ := h4
      obtain ⟨y, hy, hye⟩ := firsts_has h m w (by omega) (by omega)
      exact ⟨y, hy, hye.trans he⟩
theorem firsts_skip {key : Nat → Int} {n : Nat} {O : List Nat} (h : Y4 key n O) (hs : ∃ y ∈ O, key y = key n) : Y4 key (n + 1) O := ⟨h.asc, fun y => by
  rw [h.mem y]
  refine ⟨fun ⟨a, b⟩ => ⟨by omega, b⟩, fun ⟨a, b⟩ => ⟨?_, b⟩⟩
  obtain ⟨z, hz, he⟩ := hs
  have hzn := ((h.mem z).mp hz).1
  rcases Nat.lt_or_eq_of_le (show y ≤ n by omega) with q | q
  · exact q
  · subst q; exact absurd he (b z hzn)⟩
theorem firsts_put {key : Nat → Int} {n : Nat} {A B : List Nat} (h : Y4 key n (A ++ B)) (hs : ∀ y ∈ A ++ B, key y ≠ key n) (hA : ∀ y ∈ A, key y < key n) (hB : ∀ y ∈ B, key n < key y) : Y4 key (n + 1) (A ++ n :: B) := by
  obtain ⟨p1, p2, p3⟩ := List.pairwise_append.mp h.asc
  refine ⟨List.pairwise_append.mpr ⟨p1, List.pairwise_cons.mpr ⟨hB, p2⟩, fun y hy z hz => ?_⟩, fun y => ?_⟩
  · rcases List.mem_cons.mp hz with rfl | hz
    · exact hA y hy
    · exact p3 y hy z hz
  · have hm : y ∈ A ++ n :: B ↔ y = n ∨ y ∈ A ++ B := by simp only [List.mem_append, List.mem_cons]; constructor <;> (intro q; rcases q with q | q | q <;> simp [q])
    rw [hm, h.mem y]
    constructor
    · rintro (rfl | ⟨a, b⟩)
      · refine ⟨by omega, fun z hz he => ?_⟩
        obtain ⟨w, hw, hwe⟩ := firsts_has h (z + 1) z (by omega) hz
        exact hs w hw (hwe.trans he)
      · exact ⟨by omega, b⟩
    · rintro ⟨a, b⟩
      rcases Nat.lt_or_eq_of_le (show y ≤ n by omega) with q | q
      · exact .inr ⟨q, b⟩
      · exact .inl q
def fstO (key : Nat → Int) (n : Nat) : List Nat := cmpA key (YY key (List.range n))
theorem fstO_firsts {key : Nat → Int} {n : Nat} : Y4 key n (fstO key n) := firsts_cmpA
set_option maxRecDepth 100000 in
theorem spec_Tell_t {a0 : ByteArray} {a1 a2 : Int} {a3 : List (List D)} {l : List (Int × Int)} (g3 : ZB Yj lim a3) (g4 : ZB RII lim (ofP l)) {k : Nat} (hk : Fuel k) : Yo.t k a0 a1 a2 a3 (ofP l) = some (upP (tellV (l ++ Y7 a3))) := by
  have hb : big = 2 ^ 64 := rfl
  have hlv : lv 1 = 2 ^ 65 := rfl
  have hlim : lim = 1048576 := rfl
  have hm : Z8 = 2 ^ 36 := rfl
  have hl3 := g3.1
  have hl4 := g4.1
  rw [Yaa] at hl4
  unfold Yo.t Yo.g
  rw [ZH (RII.flat g4.2), ZH (by simp only [List.length_nil, map_len, Yaa]; omega), List.nil_append, ofP_up]
  have h0 : upP l = upP (l ++ (Y7 a3).take 0) := by simp
  rw [h0]
  refine iter_seq (f := fun t => ((t : Int), upP (l ++ (Y7 a3).take t))) (n := a3.length) (by unfold Fuel at hk; omega) (fun L t ht => ?_) (fun L => ?_)
  · simp (disch := omega) only [Yo.l0, Yo.m0, atR, rdQ, Q.ask, ZY (show (t : Int) < (a3.length : Int) by omega), cond_true, Yj.row g3, Z4, Z5, ZaQ, Zbl, Zan, Z9]
    have hlen : (upP (l ++ (Y7 a3).take t)).length = l.length + t := by rw [upP_len, List.length_append, List.length_take, Y1]; omega
    rw [ZH (by rw [hlen]; simp only [List.length_singleton]; omega), wksP_take ht, ← List.append_assoc, ← upP_app (l ++ (Y7 a3).take t)]
    rfl
  · simp only [Yo.l0, Yo.m0, atR, rdQ, Q.ask]
    rw [ZZ (by omega)]
    simp only [cond_false]
    rw [List.take_of_length_le (by rw [Y1]; omega)]
    generalize hall : l ++ Y7 a3 = all
    have hn : all.length < 2097153 := by rw [← hall, List.length_append, Y1]; omega
    clear hall h0 L g3 g4
    rw [show upP (tellV all) = upE (eP all) (fstO (fun i => (eP all i).1) all.length) from upE_map.symm, ← upE_range]
    generalize eP all = e
    generalize all.length = n at hn
    generalize hkey : (fun i => (e i).1) = key
    have hke : ∀ i, (e i).1 = key i := fun i => by rw [← hkey]
    clear hkey
    have h00 : ([] : List (List C)) = upE e (fstO key 0) := by simp [fstO, YY, cmpA, upE]
    rw [h00]
    refine iter_seq (f := fun t => ((t : Int), upE e (fstO key t), upE e (List.range n))) (n := n) (by unfold Fuel at hk; omega) (fun L t ht => ?_) (fun L => ?_)
    · simp only [Yo.l1, Yo.m1]
      have hO := fstO_firsts (key := key) (n := t)
      have hOl := firsts_len hO
      have hnext : ∀ M, Y4 key (t + 1) M → L (((t + 1 : Nat) : Int), upE e M, upE e (List.range n)) = L (((t + 1 : Nat) : Int), upE e (fstO key (t + 1)), upE e (List.range n)) := fun M hM => by rw [hM.uniq fstO_firsts]
      generalize fstO key (t + 1) = Onext at hnext
      generalize fstO key t = O at hO hOl
      have gt : (List.range n)[t]? = some t := by rw [List.getElem?_range]; exact ht
      have hwt : IntKind.wrap .i64 ((t : Int) + 1) = ((t + 1 : Nat) : Int) := by rw [Z9 (by omega) (by omega)]; omega
      rw [ZY (show (t : Int) < ((upE e (List.range n)).length : Int) by rw [YU, List.length_range]; omega)]
      simp only [cond_true, hwt]
      rw [rd1_get rfl gt, imm_upE, l11T_fv (by rw [List.length_map]; omega) hk]
      cases hh : (O.map e).any fun p => p.1 == (e t).1 with
      | true =>
        simp only [cond_true]
        obtain ⟨p, hp, hpe⟩ := List.any_eq_true.mp hh
        obtain ⟨y, hy, rfl⟩ := List.mem_map.mp hp
        exact hnext O (firsts_skip hO ⟨y, hy, by rw [← hke, ← hke]; exact eq_of_beq hpe⟩)
      | false =>
        simp only [cond_false]
        have hne : ∀ y ∈ O, key y ≠ key t := fun y hy he => by
          have h3 := List.any_eq_false.mp hh (e y) (List.mem_map_of_mem hy)
          rw [hke, hke, he] at h3
          simp at h3
        rw [Y0 rfl gt, ZH (by rw [YU]; simp only [List.length_singleton]; omega)]
        have happ : upE e O ++ [[.d (.int .i64 (e t).1), .d (.int .i64 (e t).2)]] = upE e (O ++ [t]) := by unfold upE; rw [List.map_append]; rfl
        have happ2 : ((upE e O).length : Int) = (O.length : Int) := by rw [YU]
        rw [happ, happ2]
        clear hh
        refine iter_val (fun v : Int × List (List C) => v.1.toNat) (fun v => ∃ A B z, O = A ++ B ∧ v.1 = (A.length : Int) ∧ v.2 = upE e (A ++ z :: B) ∧ ∀ y ∈ B, key t < key y) (fun _ => L (((t + 1 : Nat) : Int), upE e Onext, upE e (List.range n))) ?_ k _ ⟨O, [], t, by simp, rfl, rfl, by simp⟩ (by unfold Fuel at hk; simp only []; omega)
        rintro ⟨j, rows⟩ ⟨A, B, z, hS, hj, hrow, hB⟩ L2 hL
        simp only [] at hj hrow hL
        subst hj hrow
        have hlO : O.length = A.length + B.length := by rw [hS, List.length_append]
        have hdone : (∀ y ∈ A, key y < key t) → Zd ((0 : Int) ≤ (A.length : Int) ∧ (A.length : Int) < ((upE e (A ++ z :: B)).length : Int)) (Zd (((A.length : Int)).toNat < (upE e (A ++ z :: B)).length) (L (((t + 1 : Nat) : Int), (upE e (A ++ z :: B)).modify ((A.length : Int)).toNat fun c => Zs c 0 [.d (.int .i64 (e t).1), .d (.int .i64 (e t).2)], upE e (List.range n)))) = L (((t + 1 : Nat) : Int), upE e Onext, upE e (List.range n)) := fun h => by
          rw [wr_get (i := A.length) (x := t) rfl (by simp) (F := fun r => L (_, r, _)), Y5 rfl]
          exact hnext _ (firsts_put (hS ▸ hO) (hS ▸ hne) h hB)
        simp only [Yo.l2, hwt]
        rcases List.eq_nil_or_concat A with rfl | ⟨A', y, rfl⟩
        · rw [ZZ (by simp)]
          simp only [cond_false]
          exact hdone (by simp)
        · simp only [List.concat_eq_append] at hS hdone hL hlO ⊢
          have hAl : (A' ++ [y]).length = A'.length + 1 := by simp
          have hyO : y ∈ O := by rw [hS]; simp
          rw [hAl] at hL hlO hdone ⊢
          rw [ZY (show ((A'.length + 1 : Nat) : Int) > 0 by omega)]
          have hw2 : IntKind.wrap .i64 (((A'.length + 1 : Nat) : Int) - 1) = (A'.length : Int) := by rw [Z9 (by omega) (by omega)]; omega
          simp only [cond_true, hw2]
          have e1 : A' ++ [y] ++ z :: B = A' ++ y :: (z :: B) := by simp
          rw [e1] at hdone ⊢
          have gy : (A' ++ y :: (z :: B))[A'.length]? = some y := Y2 rfl
          rw [rd1_get rfl gy, hke, hke]
          by_cases hc : key y > key t
          · rw [ZY hc]
            simp only [cond_true]
            rw [Y0 rfl gy, wr_get (i := A'.length + 1) (x := y) rfl (by simp) (F := fun r => L2 (_, r)), ← e1, Y5 (by simp)]
            exact hL _ ⟨A', y :: B, y, by rw [hS]; simp, rfl, by simp, fun w hw => by rcases List.mem_cons.mp hw with rfl | hw; exact hc; exact hB w hw⟩ (by simp only []; omega)
          · rw [ZZ hc]
            simp only [cond_false]
            rw [← hke]
            refine hdone fun w hw => ?_
            have hny := hne y hyO
            rcases List.mem_append.mp hw with hw | hw
            · have hp := hO.asc
              rw [hS] at hp
              have hp2 := (List.pairwise_append.mp (List.pairwise_append.mp hp).1).2.2 w hw y (by simp)
              omega
            · simp at hw; subst hw; omega
    · simp only [Yo.l1, Yo.m1]
      rw [ZZ (by rw [YU, List.length_range]; omega)]
      rfl
theorem tellV_ok {l : List (Int × Int)} {a3 : List (List D)} (g3 : ZB Yj lim a3) (g4 : ZB RII lim (ofP l)) : ZB RII 2097152 (ofP (tellV (l ++ Y7 a3))) := by
  have hlim : lim = 1048576 := rfl
  have hl3 := g3.1
  have hl4 := g4.1
  rw [Yaa] at hl4
  refine ofP_ok ?_ fun p hp => ?_
  · have := tellV_len (all := l ++ Y7 a3)
    rw [List.length_append, Y1] at this
    omega
  · unfold tellV at hp
    obtain ⟨i, hi, rfl⟩ := List.mem_map.mp hp
    have hin := ((tellO_firsts.mem i).mp hi).1
    unfold eP
    rw [List.getD_eq_getElem?_getD, List.getElem?_eq_getElem hin]
    have hmem : (l ++ Y7 a3)[i] ∈ l ++ Y7 a3 := List.getElem_mem hin
    show (Lit.int .i64 (l ++ Y7 a3)[i].1).wf = true ∧ (Lit.int .i64 (l ++ Y7 a3)[i].2).wf = true
    generalize (l ++ Y7 a3)[i] = q at hmem
    rcases List.mem_append.mp hmem with h | h
    · exact ofP_wf g4 _ h
    · unfold Y7 at h
      obtain ⟨j, hj, he⟩ := List.mem_map.mp h
      have hj := List.mem_range.mp hj
      have h2 := (Yj.get g3 (v := (j : Int)) (by omega) (by omega)).2.1
      rw [← he]
      exact ⟨h2, (by decide : (Lit.int .i64 0).wf = true)⟩
theorem Yo.T {aC : ByteArray} {aD aI : Int} {aF aH : List (List D)} (g0 : aC.size ≤ lim) (_ : (Lit.int .i64 aD).wf = true) (_ : (Lit.int .i64 aI).wf = true) (g3 : ZB Yj lim aF) (g4 : ZB RII lim aH) (w3 : Zu aF ≤ 67108864) :
    Tm Fuel (fun k => Yo.t k aC aD aI aF aH) (fun z => ZB RII 2097152 (C.immRows z) ∧ Zu (C.immRows z) ≤ 1125899906842624 ∧ True) := by
  obtain ⟨l, rfl⟩ := ofP_of g4.2
  have hlim : lim = 1048576 := rfl
  refine Tm.of (fun k hk => spec_Tell_t g3 g4 hk) ?_
  have h1 := tellV_ok g3 g4
  have h2 := h1.1
  simp only [imm_upP]
  exact ⟨h1, by rw [RII.wt h1.2]; omega, trivial⟩
theorem YF.same {aC : ByteArray} {aD aI : Int} {aF aH : List (List D)} (g0 : aC.size ≤ lim) (_ : (Lit.int .i64 aD).wf = true) (_ : (Lit.int .i64 aI).wf = true) (g3 : ZB Yj lim aF) (g4 : ZB RII lim aH) (w3 : Zu aF ≤ 67108864) {k : Nat} (hk : Zai 1 k) {z : List (List C)}
    (hz : Yo.t k aC aD aI aF aH = some z) : YF.t k aC aD aI aF aH = some (Zc (C.immRows z)) := by
  obtain ⟨l, rfl⟩ := ofP_of g4.2
  have hk1 : Fuel k := by have h1 : lv 1 = 2 ^ 65 := rfl; have h2 : big = 2 ^ 64 := rfl; unfold Zai at hk; unfold Fuel; omega
  rw [spec_Tell_t g3 g4 hk1] at hz
  rw [impl_Tell_t g3 g4 hk]
  injection hz with hz
  subst hz
  rw [imm_upP, deep_ofP]
theorem YW.tm {ι α : Type} {ok : ι → Prop} {ψ : α → Prop} {p : ι → Nat} {B : Nat} (hp : ∀ i, ok i → B ≤ p i) {aC aD aL aM φ} (h : Tm (fun k => B ≤ k) (fun k => YW.t k aC aD aL aM) φ) {G : ι → Bool → Option α} (hG : ∀ z0, φ z0 → Tm ok (fun i => G i z0) ψ) : Tm ok (fun i => YW.f (p i) aC aD aL aM (G i)) ψ := bd1_tm (t := fun k => YW.t k aC aD aL aM) hp h hG
theorem YW.T {B : Nat} {aC aD : Int} (hB : B ≤ 1099511627776) : Tm Fuel (fun k => YW.t k aC aD aC aD) (fun r => r = true) := by
  unfold YW.t YW.g
  have hm := maxLen_eq
  have hlim : lim = 1048576 := rfl
  refine Tm.ite (fun h1 => ?_) (fun h1 => ?_)
  · try simp only [bz0, bz1, bz2, bz3, bz4, bz5, bz6, bz7, bz8, bz9, bza] at h1
    exact Tm.ret (by first | rfl | (exfalso; simp [strEq_self] at *))
  · try simp only [bz0, bz1, bz2, bz3, bz4, bz5, bz6, bz7, bz8, bz9, bza] at h1
    refine Tm.ite (fun h2 => ?_) (fun h2 => ?_)
    · try simp only [bz0, bz1, bz2, bz3, bz4, bz5, bz6, bz7, bz8, bz9, bza] at h2
      exact Tm.ret (by first | rfl | (exfalso; simp [strEq_self] at *))
    · try simp only [bz0, bz1, bz2, bz3, bz4, bz5, bz6, bz7, bz8, bz9, bza] at h2
      exact Tm.ret (by first | rfl | (exfalso; simp [strEq_self] at *))
theorem Yv.tm {ι α : Type} {ok : ι → Prop} {ψ : α → Prop} {p : ι → Nat} {B : Nat} (hp : ∀ i, ok i → B ≤ p i) {a0 a1 φ} (h : Tm (fun k => B ≤ k) (fun k => Yv.t k a0 a1) φ) {G : ι → Bool → Option α} (hG : ∀ z0, φ z0 → Tm ok (fun i => G i z0) ψ) : Tm ok (fun i => Yv.f (p i) a0 a1 (G i)) ψ := bd1_tm (t := fun k => Yv.t k a0 a1) hp h hG
set_option maxRecDepth 100000 in
theorem Yv.T {B : Nat} {a0 : List (List D)} (ga0 : ZB RII B a0) (hB : B ≤ 1099511627776) : Tm Fuel (fun k => Yv.t k a0 a0) (fun r => r = true) := by
  unfold Yv.t Yv.g
  have hm := maxLen_eq
  have hlim : lim = 1048576 := rfl
  have hlen := ga0.1
  refine Tm.ite (fun h1 => ?_) (fun h1 => ?_)
  · try simp only [bz0, bz1, bz2, bz3, bz4, bz5, bz6, bz7, bz8, bz9, bza] at h1
    exact Tm.ret (by first | rfl | (exfalso; simp [strEq_self] at *))
  · try simp only [bz0, bz1, bz2, bz3, bz4, bz5, bz6, bz7, bz8, bz9, bza] at h1
    refine Tm.loop (okk := Fuel) (p := fun k => k) (fun i hi => hi) (b := fun k => Yv.l0 k a0 a0 (fun z0 => some z0)) (fun i => (((a0.length : Int)) - i).toNat) (fun i => 0 ≤ i ∧ i ≤ (a0.length : Int)) ?_ ?_ ?_
    · rintro i hI
      try simp only [] at hI ⊢
      have : big = 2 ^ 64 := rfl
      have := ga0.1
      omega
    · ((try simp only []); omega)
    · rintro i hI L hL
      try simp only [] at hI
      obtain ⟨i0, i1⟩ := hI
      simp only [Yv.l0, atR, rdQ, Q.ask]
      refine Tm.ite (fun h2 => ?_) (fun h2 => ?_)
      · try simp only [bz0, bz1, bz2, bz3, bz4, bz5, bz6, bz7, bz8, bz9, bza] at h2
        refine Tm.atRow (by first | assumption | omega) (by first | assumption | omega) (fun x3 hx4 hm5 => ?_)
        obtain ⟨c6, c7, rfl, g8, g9, _⟩ := (ga0.2 x3 hm5).open
        refine Tm.uncons ?_
        refine Tm.dInt ?_
        refine Tm.uncons ?_
        refine Tm.dInt ?_
        refine Tm.atEnd ?_
        refine Tm.atRow (by first | assumption | omega) (by first | assumption | omega) (fun x10 hx11 hm12 => ?_)
        rw [hx4] at hx11
        injection hx11 with hx11
        subst hx11
        refine Tm.uncons ?_
        refine Tm.dInt ?_
        refine Tm.uncons ?_
        refine Tm.dInt ?_
        refine Tm.atEnd ?_
        refine YW.tm (fun i hi => hi.1) (YW.T (by first | assumption | omega)) (fun y16 hy15 => ?_)
        subst hy15
        refine Tm.ite (fun h17 => ?_) (fun h17 => ?_)
        · try simp only [bz0, bz1, bz2, bz3, bz4, bz5, bz6, bz7, bz8, bz9, bza] at h17
          exact Tm.ret (by first | rfl | (exfalso; simp [strEq_self] at *))
        · try simp only [bz0, bz1, bz2, bz3, bz4, bz5, bz6, bz7, bz8, bz9, bza] at h17
          try rw [Z9 (x := i + 1) (by omega) (by omega)]
          exact hL _ (by (try simp only []); omega) (by (try simp only []); omega)
      · try simp only [bz0, bz1, bz2, bz3, bz4, bz5, bz6, bz7, bz8, bz9, bza] at h2
        exact Tm.ret (by first | rfl | (exfalso; simp [strEq_self] at *))
theorem Yu.tm {ι α : Type} {ok : ι → Prop} {ψ : α → Prop} {p : ι → Nat} {B : Nat} (hp : ∀ i, ok i → B ≤ p i) {a0 a1 φ} (h : Tm (fun k => B ≤ k) (fun k => Yu.t k a0 a1) φ) {G : ι → Bool → Option α} (hG : ∀ z0, φ z0 → Tm ok (fun i => G i z0) ψ) : Tm ok (fun i => Yu.f (p i) a0 a1 (G i)) ψ := bd1_tm (t := fun k => Yu.t k a0 a1) hp h hG
set_option maxRecDepth 100000 in
theorem Yu.T {B : Nat} {a0 : List (List D)} (ga0 : ZB RS B a0) (hB : B ≤ 1099511627776) : Tm Fuel (fun k => Yu.t k a0 a0) (fun r => r = true) := by
  unfold Yu.t Yu.g
  have hm := maxLen_eq
  have hlim : lim = 1048576 := rfl
  have hlen := ga0.1
  refine Tm.ite (fun h1 => ?_) (fun h1 => ?_)
  · try simp only [bz0, bz1, bz2, bz3, bz4, bz5, bz6, bz7, bz8, bz9, bza] at h1
    exact Tm.ret (by first | rfl | (exfalso; simp [strEq_self] at *))
  · try simp only [bz0, bz1, bz2, bz3, bz4, bz5, bz6, bz7, bz8, bz9, bza] at h1
    refine Tm.loop (okk := Fuel) (p := fun k => k) (fun i hi => hi) (b := fun k => Yu.l0 k a0 a0 (fun z0 => some z0)) (fun i => (((a0.length : Int)) - i).toNat) (fun i => 0 ≤ i ∧ i ≤ (a0.length : Int)) ?_ ?_ ?_
    · rintro i hI
      try simp only [] at hI ⊢
      have : big = 2 ^ 64 := rfl
      have := ga0.1
      omega
    · ((try simp only []); omega)
    · rintro i hI L hL
      try simp only [] at hI
      obtain ⟨i0, i1⟩ := hI
      simp only [Yu.l0, atR, rdQ, Q.ask]
      refine Tm.ite (fun h2 => ?_) (fun h2 => ?_)
      · try simp only [bz0, bz1, bz2, bz3, bz4, bz5, bz6, bz7, bz8, bz9, bza] at h2
        refine Tm.atRow (by first | assumption | omega) (by first | assumption | omega) (fun x3 hx4 hm5 => ?_)
        obtain ⟨c6, rfl, g7, _⟩ := (ga0.2 x3 hm5).open
        refine Tm.uncons ?_
        refine Tm.dStr ?_
        refine Tm.atEnd ?_
        refine Tm.atRow (by first | assumption | omega) (by first | assumption | omega) (fun x8 hx9 hm10 => ?_)
        rw [hx4] at hx9
        injection hx9 with hx9
        subst hx9
        refine Tm.uncons ?_
        refine Tm.dStr ?_
        refine Tm.atEnd ?_
        refine Tm.ite (fun h12 => ?_) (fun h12 => ?_)
        · try simp only [bz0, bz1, bz2, bz3, bz4, bz5, bz6, bz7, bz8, bz9, bza] at h12
          exact Tm.ret (by first | rfl | (exfalso; simp [strEq_self] at *))
        · try simp only [bz0, bz1, bz2, bz3, bz4, bz5, bz6, bz7, bz8, bz9, bza] at h12
          try rw [Z9 (x := i + 1) (by omega) (by omega)]
          exact hL _ (by (try simp only []); omega) (by (try simp only []); omega)
      · try simp only [bz0, bz1, bz2, bz3, bz4, bz5, bz6, bz7, bz8, bz9, bza] at h2
        exact Tm.ret (by first | rfl | (exfalso; simp [strEq_self] at *))
theorem Ym.tm {ι α : Type} {ok : ι → Prop} {ψ : α → Prop} {p : ι → Nat} {B : Nat} (hp : ∀ i, ok i → B ≤ p i) {a0 a1 φ} (h : Tm (fun k => B ≤ k) (fun k => Ym.t k a0 a1) φ) {G : ι → Bool → Option α} (hG : ∀ z0, φ z0 → Tm ok (fun i => G i z0) ψ) : Tm ok (fun i => Ym.f (p i) a0 a1 (G i)) ψ := bd1_tm (t := fun k => Ym.t k a0 a1) hp h hG
theorem Yz.tm {ι α : Type} {ok : ι → Prop} {ψ : α → Prop} {p : ι → Nat} {B : Nat} (hp : ∀ i, ok i → B ≤ p i) {aC aD aI aF aH aL aM bB bC bD φ} (h : Tm (fun k => B ≤ k) (fun k => Yz.t k aC aD aI aF aH aL aM bB bC bD) φ) {G : ι → Bool → Option α} (hG : ∀ z0, φ z0 → Tm ok (fun i => G i z0) ψ) : Tm ok (fun i => Yz.f (p i) aC aD aI aF aH aL aM bB bC bD (G i)) ψ := bd1_tm (t := fun k => Yz.t k aC aD aI aF aH aL aM bB bC bD) hp h hG
set_option maxRecDepth 100000 in
theorem eqVal {B : Nat} (hB : B ≤ 1099511627776) (n : Nat) : (∀ (a : List (List D)), a.length ≤ B → (∀ x ∈ a, YH B n x) → Tm (fun k => big + 2 * n + 1 ≤ k) (fun k => Ym.t k a a) (fun r => r = true)) ∧
    (∀ (c0 : Int) (c1 : ByteArray) (c2 : Int) (c3 c4 : List (List D)), c1.size ≤ B → ZB RS B c3 → c4.length ≤ B → (∀ x ∈ c4, YH B n x) → Tm (fun k => big + 2 * n + 2 ≤ k) (fun k => Yz.t k c0 c1 c2 c3 c4 c0 c1 c2 c3 c4) (fun r => r = true)) := by
  have hb : big = 2 ^ 64 := rfl
  induction n using Nat.strongRecOn with
  | ind n ih =>
  have S : ∀ (a : List (List D)), a.length ≤ B → (∀ x ∈ a, YH B n x) → Tm (fun k => big + 2 * n + 1 ≤ k) (fun k => Ym.t k a a) (fun r => r = true) := by
    intro a hlen g
    refine Tm.succ (g := fun k => Ym.g k a a (fun z0 => some z0)) (fun k => Ym.t_succ k a a) ?_
    unfold Ym.g Ym.body
    refine Tm.ite (fun h3 => by simp at h3) (fun h3 => ?_)
    refine Tm.loop (okk := fun k => big + 2 * n ≤ k) (p := fun k => k) (fun i hi => by omega) (b := fun k => Ym.l0 k (Ym.f k) (Yz.f k) a a (fun z0 => some z0)) (fun i => (((a.length : Int)) - i).toNat) (fun i => 0 ≤ i ∧ i ≤ (a.length : Int)) ?_ ?_ ?_
    · rintro i hI
      omega
    · omega
    · rintro i hI L hL
      obtain ⟨i0, i1⟩ := hI
      simp only [Ym.l0, atR, rdQ, Q.ask]
      refine Tm.ite (fun h4 => ?_) (fun h4 => ?_)
      · simp only [decide_eq_true_eq] at h4
        refine Tm.atRow (by omega) (by omega) (fun x5 hx6 hm7 => ?_)
        obtain ⟨n', hn', c0, c1, c2, c3, c4, rfl, w0, g1, w2, g3, l4, g4⟩ : ∃ n', n = n' + 1 ∧ ∃ c0 c1 c2 c3 c4, x5 = [.int .i64 c0, .str c1, .int .i64 c2, .sl c3, .sl c4] ∧ (Lit.int .i64 c0).wf = true ∧ c1.size ≤ B ∧ (Lit.int .i64 c2).wf = true ∧ ZB RS B c3 ∧ c4.length ≤ B ∧ ∀ x ∈ c4, YH B n' x := by
          have := g x5 hm7
          cases this with
          | mk c0 c1 c2 c3 c4 w0 g1 w2 g3 l4 g4 => exact ⟨_, rfl, _, _, _, _, _, rfl, w0, g1, w2, g3, l4, g4⟩
        refine Tm.uncons (Tm.dInt (Tm.uncons (Tm.dStr (Tm.uncons (Tm.dInt (Tm.uncons (Tm.dSl (Tm.uncons (Tm.dSl (Tm.atEnd ?_))))))))))
        refine Tm.atRow (by omega) (by omega) (fun x8 hx8 _ => ?_)
        rw [hx6] at hx8
        injection hx8 with hx8
        subst hx8
        refine Tm.uncons (Tm.dInt (Tm.uncons (Tm.dStr (Tm.uncons (Tm.dInt (Tm.uncons (Tm.dSl (Tm.uncons (Tm.dSl (Tm.atEnd ?_))))))))))
        refine Yz.tm (B := big + 2 * n' + 2) (fun i hi => by have := hi.1; omega) ((ih n' (by omega)).2 c0 c1 c2 c3 c4 g1 g3 l4 g4) (fun y hy => ?_)
        subst hy
        refine Tm.ite (fun h => by simp at h) (fun _ => ?_)
        rw [Z9 (x := i + 1) (by omega) (by omega)]
        exact hL (i + 1) ⟨by omega, by omega⟩ (by omega)
      · exact Tm.ret rfl
  refine ⟨S, ?_⟩
  intro c0 c1 c2 c3 c4 g1 g3 l4 g4
  refine Tm.succ (g := fun k => Yz.g k c0 c1 c2 c3 c4 c0 c1 c2 c3 c4 (fun z0 => some z0)) (fun k => Yz.t_succ k c0 c1 c2 c3 c4 c0 c1 c2 c3 c4) ?_
  unfold Yz.g Yz.body
  refine Tm.ite (fun h => by simp at h) (fun _ => ?_)
  refine Tm.ite (fun h => by simp [strEq_self] at h) (fun _ => ?_)
  refine Tm.ite (fun h => by simp at h) (fun _ => ?_)
  refine Yu.tm (B := big) (fun i hi => by omega) (Yu.T g3 hB) (fun y hy => ?_)
  subst hy
  refine Tm.ite (fun h => by simp at h) (fun _ => ?_)
  refine Ym.tm (B := big + 2 * n + 1) (fun i hi => hi) (S c4 l4 g4) (fun y' hy' => ?_)
  subst hy'
  exact Tm.ite (fun h => by simp at h) (fun _ => Tm.ret rfl)
theorem big_lv1e {n : Nat} (h : n ≤ 4398046511104) : big + n ≤ lv 1 := by
  have hb : big = 2 ^ 64 := rfl
  have : lv 1 = 2 ^ 65 := rfl
  omega
theorem Yz.T {B : Nat} {aC : Int} {aD : ByteArray} {aI : Int} {aF aH : List (List D)} (g1 : aD.size ≤ B) (g3 : ZB RS B aF) (g4 : ZB YG B aH) (hB : B ≤ 1099511627776) : Tm (Zai 1) (fun k => Yz.t k aC aD aI aF aH aC aD aI aF aH) (fun r => r = true) := by
  have g' : ∀ x ∈ aH, YH B 1099511627776 x := fun x hx => by
    obtain ⟨h, hh, hx⟩ := g4.2 x hx
    exact hx.mono (hh hB)
  exact ((eqVal hB 1099511627776).2 aC aD aI aF aH g1 g3 g4.1 g').up (big_lv1e (n := 2 * 1099511627776 + 2) (by omega))
theorem YR.tm {ι α : Type} {ok : ι → Prop} {ψ : α → Prop} {p : ι → Nat} {B : Nat} (hp : ∀ i, ok i → B ≤ p i) {aC aD aI aF aH aU aV aL aM bB bC bD a1_5 a1_6 φ} (h : Tm (fun k => B ≤ k) (fun k => YR.t k aC aD aI aF aH aU aV aL aM bB bC bD a1_5 a1_6) φ) {G : ι → Bool → Option α} (hG : ∀ z0, φ z0 → Tm ok (fun i => G i z0) ψ) : Tm ok (fun i => YR.f (p i) aC aD aI aF aH aU aV aL aM bB bC bD a1_5 a1_6 (G i)) ψ := bd1_tm (t := fun k => YR.t k aC aD aI aF aH aU aV aL aM bB bC bD a1_5 a1_6) hp h hG
theorem YR.T {B : Nat} {aC aD aI : Int} {aF : ByteArray} {aH : Int} {aU aV : List (List D)} (ga0_3 : aF.size ≤ B) (ga0_5 : ZB RS B aU) (ga0_6 : ZB YG B aV) (hB : B ≤ 1099511627776) : Tm (Zai 1) (fun k => YR.t k aC aD aI aF aH aU aV aC aD aI aF aH aU aV) (fun r => r = true) := by
  unfold YR.t YR.g
  have hm := maxLen_eq
  have hlim : lim = 1048576 := rfl
  refine Tm.ite (fun h1 => ?_) (fun h1 => ?_)
  · try simp only [bz0, bz1, bz2, bz3, bz4, bz5, bz6, bz7, bz8, bz9, bza] at h1
    exact Tm.ret (by first | rfl | (exfalso; simp [strEq_self] at *))
  · try simp only [bz0, bz1, bz2, bz3, bz4, bz5, bz6, bz7, bz8, bz9, bza] at h1
    refine Tm.ite (fun h2 => ?_) (fun h2 => ?_)
    · try simp only [bz0, bz1, bz2, bz3, bz4, bz5, bz6, bz7, bz8, bz9, bza] at h2
      exact Tm.ret (by first | rfl | (exfalso; simp [strEq_self] at *))
    · try simp only [bz0, bz1, bz2, bz3, bz4, bz5, bz6, bz7, bz8, bz9, bza] at h2
      refine Yz.tm (fun i hi => hi) (Yz.T (by first | assumption | omega) (by first | assumption | omega) (by first | assumption | omega) (by first | assumption | omega)) (fun y4 hy3 => ?_)
      subst hy3
      refine Tm.ite (fun h5 => ?_) (fun h5 => ?_)
      · try simp only [bz0, bz1, bz2, bz3, bz4, bz5, bz6, bz7, bz8, bz9, bza] at h5
        exact Tm.ret (by first | rfl | (exfalso; simp [strEq_self] at *))
      · try simp only [bz0, bz1, bz2, bz3, bz4, bz5, bz6, bz7, bz8, bz9, bza] at h5
        exact Tm.ret (by first | rfl | (exfalso; simp [strEq_self] at *))
theorem YB.tm {ι α : Type} {ok : ι → Prop} {ψ : α → Prop} {p : ι → Nat} {B : Nat} (hp : ∀ i, ok i → B ≤ p i) {a0 a1 φ} (h : Tm (fun k => B ≤ k) (fun k => YB.t k a0 a1) φ) {G : ι → Bool → Option α} (hG : ∀ z0, φ z0 → Tm ok (fun i => G i z0) ψ) : Tm ok (fun i => YB.f (p i) a0 a1 (G i)) ψ := bd1_tm (t := fun k => YB.t k a0 a1) hp h hG
set_option maxRecDepth 100000 in
theorem YB.T {B : Nat} {a0 : List (List D)} (ga0 : ZB Yj B a0) (hB : B ≤ 1099511627776) : Tm (Zai 1) (fun k => YB.t k a0 a0) (fun r => r = true) := by
  unfold YB.t YB.g
  have hm := maxLen_eq
  have hlim : lim = 1048576 := rfl
  have hlen := ga0.1
  refine Tm.ite (fun h1 => ?_) (fun h1 => ?_)
  · try simp only [bz0, bz1, bz2, bz3, bz4, bz5, bz6, bz7, bz8, bz9, bza] at h1
    exact Tm.ret (by first | rfl | (exfalso; simp [strEq_self] at *))
  · try simp only [bz0, bz1, bz2, bz3, bz4, bz5, bz6, bz7, bz8, bz9, bza] at h1
    refine Tm.loop (okk := (Zai 1)) (p := fun k => k) (fun i hi => up0 hi) (b := fun k => YB.l0 k a0 a0 (fun z0 => some z0)) (fun i => (((a0.length : Int)) - i).toNat) (fun i => 0 ≤ i ∧ i ≤ (a0.length : Int)) ?_ ?_ ?_
    · rintro i hI
      try simp only [] at hI ⊢
      have : big = 2 ^ 64 := rfl
      have := ga0.1
      omega
    · ((try simp only []); omega)
    · rintro i hI L hL
      try simp only [] at hI
      obtain ⟨i0, i1⟩ := hI
      simp only [YB.l0, atR, rdQ, Q.ask]
      refine Tm.ite (fun h2 => ?_) (fun h2 => ?_)
      · try simp only [bz0, bz1, bz2, bz3, bz4, bz5, bz6, bz7, bz8, bz9, bza] at h2
        refine Tm.atRow (by first | assumption | omega) (by first | assumption | omega) (fun x3 hx4 hm5 => ?_)
        obtain ⟨c6, c7, c8, c9, c10, c11, c12, rfl, g13, g14, g15, g16, g17, g18, g19, _⟩ := (ga0.2 x3 hm5).open
        refine Tm.uncons ?_
        refine Tm.dInt ?_
        refine Tm.uncons ?_
        refine Tm.dInt ?_
        refine Tm.uncons ?_
        refine Tm.dInt ?_
        refine Tm.uncons ?_
        refine Tm.dStr ?_
        refine Tm.uncons ?_
        refine Tm.dInt ?_
        refine Tm.uncons ?_
        refine Tm.dSl ?_
        refine Tm.uncons ?_
        refine Tm.dSl ?_
        refine Tm.atEnd ?_
        refine Tm.atRow (by first | assumption | omega) (by first | assumption | omega) (fun x20 hx21 hm22 => ?_)
        rw [hx4] at hx21
        injection hx21 with hx21
        subst hx21
        refine Tm.uncons ?_
        refine Tm.dInt ?_
        refine Tm.uncons ?_
        refine Tm.dInt ?_
        refine Tm.uncons ?_
        refine Tm.dInt ?_
        refine Tm.uncons ?_
        refine Tm.dStr ?_
        refine Tm.uncons ?_
        refine Tm.dInt ?_
        refine Tm.uncons ?_
        refine Tm.dSl ?_
        refine Tm.uncons ?_
        refine Tm.dSl ?_
        refine Tm.atEnd ?_
        refine YR.tm (fun i hi => hi.1) (YR.T (by first | assumption | omega) (by first | assumption | omega) (by first | assumption | omega) (by first | assumption | omega)) (fun y31 hy30 => ?_)
        subst hy30
        refine Tm.ite (fun h32 => ?_) (fun h32 => ?_)
        · try simp only [bz0, bz1, bz2, bz3, bz4, bz5, bz6, bz7, bz8, bz9, bza] at h32
          exact Tm.ret (by first | rfl | (exfalso; simp [strEq_self] at *))
        · try simp only [bz0, bz1, bz2, bz3, bz4, bz5, bz6, bz7, bz8, bz9, bza] at h32
          try rw [Z9 (x := i + 1) (by omega) (by omega)]
          exact hL _ (by (try simp only []); omega) (by (try simp only []); omega)
      · try simp only [bz0, bz1, bz2, bz3, bz4, bz5, bz6, bz7, bz8, bz9, bza] at h2
        exact Tm.ret (by first | rfl | (exfalso; simp [strEq_self] at *))
theorem YS.tm {ι α : Type} {ok : ι → Prop} {ψ : α → Prop} {p : ι → Nat} {B : Nat} (hp : ∀ i, ok i → B ≤ p i) {aC aD aI aF aH aL aM bB bC bD φ} (h : Tm (fun k => B ≤ k) (fun k => YS.t k aC aD aI aF aH aL aM bB bC bD) φ) {G : ι → Bool → Option α} (hG : ∀ z0, φ z0 → Tm ok (fun i => G i z0) ψ) : Tm ok (fun i => YS.f (p i) aC aD aI aF aH aL aM bB bC bD (G i)) ψ := bd1_tm (t := fun k => YS.t k aC aD aI aF aH aL aM bB bC bD) hp h hG
theorem YS.T {B : Nat} {aC : ByteArray} {aD aI : Int} {aF aH : List (List D)} (ga0_0 : aC.size ≤ B) (ga0_3 : ZB Yj B aF) (ga0_4 : ZB RII B aH) (hB : B ≤ 1099511627776) : Tm (Zai 1) (fun k => YS.t k aC aD aI aF aH aC aD aI aF aH) (fun r => r = true) := by
  unfold YS.t YS.g
  have hm := maxLen_eq
  have hlim : lim = 1048576 := rfl
  refine Tm.ite (fun h1 => ?_) (fun h1 => ?_)
  · try simp only [bz0, bz1, bz2, bz3, bz4, bz5, bz6, bz7, bz8, bz9, bza] at h1
    exact Tm.ret (by first | rfl | (exfalso; simp [strEq_self] at *))
  · try simp only [bz0, bz1, bz2, bz3, bz4, bz5, bz6, bz7, bz8, bz9, bza] at h1
    refine Tm.ite (fun h2 => ?_) (fun h2 => ?_)
    · try simp only [bz0, bz1, bz2, bz3, bz4, bz5, bz6, bz7, bz8, bz9, bza] at h2
      exact Tm.ret (by first | rfl | (exfalso; simp [strEq_self] at *))
    · try simp only [bz0, bz1, bz2, bz3, bz4, bz5, bz6, bz7, bz8, bz9, bza] at h2
      refine Tm.ite (fun h3 => ?_) (fun h3 => ?_)
      · try simp only [bz0, bz1, bz2, bz3, bz4, bz5, bz6, bz7, bz8, bz9, bza] at h3
        exact Tm.ret (by first | rfl | (exfalso; simp [strEq_self] at *))
      · try simp only [bz0, bz1, bz2, bz3, bz4, bz5, bz6, bz7, bz8, bz9, bza] at h3
        refine YB.tm (fun i hi => hi) (YB.T (by first | assumption | omega) (by first | assumption | omega)) (fun y5 hy4 => ?_)
        subst hy4
        refine Tm.ite (fun h6 => ?_) (fun h6 => ?_)
        · try simp only [bz0, bz1, bz2, bz3, bz4, bz5, bz6, bz7, bz8, bz9, bza] at h6
          exact Tm.ret (by first | rfl | (exfalso; simp [strEq_self] at *))
        · try simp only [bz0, bz1, bz2, bz3, bz4, bz5, bz6, bz7, bz8, bz9, bza] at h6
          refine Yv.tm (fun i hi => up0 hi) (Yv.T (by first | assumption | omega) (by first | assumption | omega)) (fun y8 hy7 => ?_)
          subst hy7
          refine Tm.ite (fun h9 => ?_) (fun h9 => ?_)
          · try simp only [bz0, bz1, bz2, bz3, bz4, bz5, bz6, bz7, bz8, bz9, bza] at h9
            exact Tm.ret (by first | rfl | (exfalso; simp [strEq_self] at *))
          · try simp only [bz0, bz1, bz2, bz3, bz4, bz5, bz6, bz7, bz8, bz9, bza] at h9
            exact Tm.ret (by first | rfl | (exfalso; simp [strEq_self] at *))
theorem Yi.f_of {β : Type} {k a0 z0} (h : Yi.t k a0 = some z0) (K : ByteArray → Option β) : Yi.f k a0 K = K z0 := by unfold Yi.f; rw [h]; rfl
theorem Yi.tm {ι α : Type} {ok : ι → Prop} {ψ : α → Prop} {p : ι → Nat} {B : Nat} (hp : ∀ i, ok i → B ≤ p i) {a0 φ} (h : Tm (fun k => B ≤ k) (fun k => Yi.t k a0) φ) {G : ι → ByteArray → Option α} (hG : ∀ z0, φ z0 → Tm ok (fun i => G i z0) ψ) : Tm ok (fun i => Yi.f (p i) a0 (G i)) ψ := bd1_tm (t := fun k => Yi.t k a0) hp h hG
theorem Yi.T {a0 : Int} (h1 : a0 ≤ 4611686018427387904) : Tm Fuel (fun k => Yi.t k a0) (fun _ => True) := by
  unfold Yi.t Yi.g
  have hb : big = 2 ^ 64 := rfl
  refine Tm.ite (fun _ => Tm.ret trivial) (fun h => ?_)
  simp only [decide_eq_false_iff_not, Int.not_le] at h
  refine Tm.loop (okk := Fuel) (p := fun k => k) (fun i hi => hi) (b := fun k => Yi.l0 k (fun z0 => some z0)) (fun v => match v with | (u, s) => u.toNat) (fun v => match v with | (u, s) => 0 ≤ u ∧ u + s.size ≤ a0) ?_ ?_ ?_
  · rintro ⟨u, s⟩ hI
    simp only [] at hI ⊢
    omega
  · simp only []
    have : (⟨#[]⟩ : ByteArray).size = 0 := rfl
    omega
  · rintro ⟨u, s⟩ hI L hL
    simp only [] at hI
    obtain ⟨u0, u1⟩ := hI
    simp only [Yi.l0]
    refine Tm.ite (fun h4 => ?_) (fun h4 => ?_)
    · simp only [decide_eq_true_eq] at h4
      have e1 : ∀ x : UInt8, (⟨#[x]⟩ : ByteArray).size = 1 := fun _ => rfl
      have ed : Int.tdiv u 10 = u / 10 := Int.tdiv_eq_ediv_of_nonneg (by omega)
      refine Tm.guard (by decide) (Tm.guard (by rw [e1]; omega) (Tm.guard (by decide) ?_))
      rw [ed, Z9 (x := u / 10) (by omega) (by omega)]
      refine hL (_, _) ⟨by omega, ?_⟩ (by simp only []; omega)
      rw [ByteArray.size_append, e1]
      omega
    · have e1 : (⟨#[109]⟩ : ByteArray).size = 1 := rfl
      exact Tm.guard (by rw [e1]; omega) (Tm.ret trivial)
noncomputable def Yi.v (a0 : Int) : ByteArray := (Yi.t big a0).getD default
theorem Yi.tv {a0 : Int} (h1 : a0 ≤ 4611686018427387904) {k : Nat} (hk : Fuel k) : Yi.t k a0 = some (Yi.v a0) := (Yi.T h1).val hk
theorem Yi.fv {a0 : Int} (h1 : a0 ≤ 4611686018427387904) {k : Nat} (hk : Fuel k) {β : Type} (K : ByteArray → Option β) : Yi.f k a0 K = K (Yi.v a0) := Yi.f_of (Yi.tv h1 hk) K
theorem Yn.tm {ι α : Type} {ok : ι → Prop} {ψ : α → Prop} {p : ι → Nat} {B : Nat} (hp : ∀ i, ok i → B ≤ p i) {a0 a1 φ} (h : Tm (fun k => B ≤ k) (fun k => Yn.t k a0 a1) φ) {G : ι → Int → (List (List C)) → Option α} (hG : ∀ z0 z1, φ (z0, z1) → Tm ok (fun i => G i z0 z1) ψ) : Tm ok (fun i => Yn.f (p i) a0 a1 (G i)) ψ := bd2_tm (t := fun k => Yn.t k a0 a1) hp h hG
theorem Yg.tm {ι α : Type} {ok : ι → Prop} {ψ : α → Prop} {p : ι → Nat} {B : Nat} (hp : ∀ i, ok i → B ≤ p i) {a0 a1 φ} (h : Tm (fun k => B ≤ k) (fun k => Yg.t k a0 a1) φ) {G : ι → Int → (List (List C)) → Option α} (hG : ∀ z0 z1, φ (z0, z1) → Tm ok (fun i => G i z0 z1) ψ) : Tm ok (fun i => Yg.f (p i) a0 a1 (G i)) ψ := bd2_tm (t := fun k => Yg.t k a0 a1) hp h hG
theorem Yr.tm {ι α : Type} {ok : ι → Prop} {ψ : α → Prop} {p : ι → Nat} {B : Nat} (hp : ∀ i, ok i → B ≤ p i) {a0 a1 φ} (h : Tm (fun k => B ≤ k) (fun k => Yr.t k a0 a1) φ) {G : ι → Int → (List (List C)) → Option α} (hG : ∀ z0 z1, φ (z0, z1) → Tm ok (fun i => G i z0 z1) ψ) : Tm ok (fun i => Yr.f (p i) a0 a1 (G i)) ψ := bd2_tm (t := fun k => Yr.t k a0 a1) hp h hG
theorem Yp.tm {ι α : Type} {ok : ι → Prop} {ψ : α → Prop} {p : ι → Nat} {B : Nat} (hp : ∀ i, ok i → B ≤ p i) {a0 a1 φ} (h : Tm (fun k => B ≤ k) (fun k => Yp.t k a0 a1) φ) {G : ι → Int → (List (List C)) → Option α} (hG : ∀ z0 z1, φ (z0, z1) → Tm ok (fun i => G i z0 z1) ψ) : Tm ok (fun i => Yp.f (p i) a0 a1 (G i)) ψ := bd2_tm (t := fun k => Yp.t k a0 a1) hp h hG
theorem YJ.tm {ι α : Type} {ok : ι → Prop} {ψ : α → Prop} {p : ι → Nat} {B : Nat} (hp : ∀ i, ok i → B ≤ p i) {aC aD aI aF aH a1 φ} (h : Tm (fun k => B ≤ k) (fun k => YJ.t k aC aD aI aF aH a1) φ) {G : ι → Int → (List (List C)) → (List (List C)) → Option α} (hG : ∀ z0 z1 z2, φ (z0, z1, z2) → Tm ok (fun i => G i z0 z1 z2) ψ) : Tm ok (fun i => YJ.f (p i) aC aD aI aF aH a1 (G i)) ψ := bd3_tm (t := fun k => YJ.t k aC aD aI aF aH a1) hp h hG
theorem Yq.tm {ι α : Type} {ok : ι → Prop} {ψ : α → Prop} {p : ι → Nat} {B : Nat} (hp : ∀ i, ok i → B ≤ p i) {a0 a1 φ} (h : Tm (fun k => B ≤ k) (fun k => Yq.t k a0 a1) φ) {G : ι → Int → Option α} (hG : ∀ z0, φ z0 → Tm ok (fun i => G i z0) ψ) : Tm ok (fun i => Yq.f (p i) a0 a1 (G i)) ψ := bd1_tm (t := fun k => Yq.t k a0 a1) hp h hG
set_option maxRecDepth 100000 in
set_option maxHeartbeats 8000000 in
theorem Yq.step {u : Int}  (h0 : 0 ≤ u)  (h1 : u + 1 + 1 ≤ 4611686018427387904) {k : Nat} (hk : Fuel k) : HStep (fun xs L v => Yq.l0 k xs (fun z0 => some z0) L v) u [.int .i64 (u), .int .i64 (u + 1)] (u + 1 + 1) := by
  have hk0 : Fuel k := hk
  intro xs i i0 i1 hl hr L
  simp (maxSteps := 4000000) (disch := first | assumption | omega) only [Yq.l0, atR, rdQ, Q.ask, ZY i1, cond_true, cond_false, Zck i0 i1, hr, Z4, Z5, ZaQ, ZaV, Zbl, Zan, Z9, Yi.fv, strEq_self, bne_self_eq_false, beq_self_eq_true, Bool.not_true]
theorem scal_deep : ∀ r : List D, r.all Zag = true → ZN r = r.map C.d
  | [], _ => rfl
  | x :: r, h => by
    simp only [List.all_cons, Bool.and_eq_true] at h
    have hx : deepD x = .d x := by cases x <;> first | rfl | simp [Zag] at h
    simp only [ZN, List.map_cons, hx, scal_deep r h.2]
theorem held_flat {S : Int → List D → Int → Prop} (hS : ∀ u r u', S u r u' → r.all Zag = true) {n u : Int} {xs : List (List D)} (h : HeldL S n xs u) : flatC (Zc xs) = true := by
  induction h with
  | nil => rfl
  | snoc h hs ih =>
    rw [Zbb]
    unfold flatC at ih ⊢
    rw [List.all_append, ih]
    simp only [Zc, List.all_cons, List.all_nil, Bool.true_and, Bool.and_true, scal_deep _ (hS _ _ _ hs), List.all_map]
    exact hS _ _ _ hs
set_option maxRecDepth 100000 in
set_option maxHeartbeats 8000000 in
theorem Yp.T {B : Nat} (hB : B ≤ 1099511627776) {xs : List (List D)} {n : Int} (g : ZB RII B xs) (h0 : 0 ≤ n) (h1 : n + Zu xs ≤ 4611686018427387904) : Tm Fuel (fun k => Yp.t k (Zc xs) n) (fun z => ∃ ys, z.2 = Zc ys ∧ (ys.length = xs.length ∧ flatC (Zc ys) = true) ∧ z.1 = n + Zu xs ∧ ∀ k, Fuel k → Yq.t k ys n = some z.1) := by
  have hb : big = 2 ^ 64 := rfl
  have hl := g.1
  have key : Tm Fuel (fun k => Yp.t k (Zc xs) n) (fun z => ∃ ys, z.2 = Zc ys ∧ ys.length = xs.length ∧ z.1 = n + Zu xs ∧ HeldL (fun u r u' => (∀ k, Fuel k → HStep (fun xs L v => Yq.l0 k xs (fun z0 => some z0) L v) u r u') ∧ r.all Zag = true) n ys z.1) := by
    unfold Yp.t Yp.g
    refine Tm.loop (okk := Fuel) (p := fun k => k) (fun i hi => hi) (b := fun k => Yp.l0 k (fun z0 z1 => some (z0, z1))) (fun v => match v with | (u, i, tab) => ((xs.length : Int) - i).toNat) (fun v => match v with | (u, i, tab) => 0 ≤ i ∧ i ≤ xs.length ∧ ∃ done : List (List D), done.length = i.toNat ∧ tab = Zc done ++ Zc (xs.drop i.toNat) ∧ u = n + Zu (xs.take i.toNat) ∧ HeldL (fun u r u' => (∀ k, Fuel k → HStep (fun xs L v => Yq.l0 k xs (fun z0 => some z0) L v) u r u') ∧ r.all Zag = true) n done u) ?_ ?_ ?_
    · rintro ⟨u, i, tab⟩ hI
      simp only [] at hI ⊢
      omega
    · exact ⟨by omega, by omega, [], rfl, by simp [Zc], by simp [Zu], .nil⟩
    · rintro ⟨u, i, tab⟩ hI L hL
      simp only [] at hI
      obtain ⟨i0, i1, done, hd, rfl, hu, hH⟩ := hI
      have hA : (Zc done).length = i.toNat := by rw [ZS, hd]
      have hT : (Zc done ++ Zc (xs.drop i.toNat)).length = xs.length := by rw [List.length_append, hA, ZS, List.length_drop]; omega
      simp only [Yp.l0]
      refine Tm.ite (fun h4 => ?_) (fun h4 => ?_)
      · simp only [decide_eq_true_eq, hT] at h4
        have hx := gR_at i0 h4
        obtain ⟨c0, c1, e, k0, k1, _⟩ := (g.2 _ (gR_mem i0 h4)).open
        rw [e] at hx
        have hdr := drop_at i0 hx
        have hw := wt_take i0 hx
        simp only [ZbY, wtD] at hw
        have hs := wt_split xs (i + 1).toNat
        rw [hdr] at hT ⊢
        simp only [Zc, ZN, deepD] at hT ⊢
        have hT2 := hT
        simp only [List.length_append, List.length_cons] at hT2
        refine Tm.guard (by first | decide | (simp only [List.length_modify, List.length_append, List.length_cons]; omega)) ?_
        refine Tm.guard (by first | decide | (simp only [List.length_modify, List.length_append, List.length_cons]; omega)) ?_
        refine Tm.guard (by first | decide | (simp only [List.length_modify, List.length_append, List.length_cons]; omega)) ?_
        refine Tm.guard (by first | decide | (simp only [List.length_modify, List.length_append, List.length_cons]; omega)) ?_
        try simp (disch := omega) only [Z9]
        try simp only [modify_mid hA, Zs, List.take_zero, List.take_succ_cons, List.drop_succ_cons, List.drop_zero, List.nil_append, List.cons_append, List.length_cons, List.length_nil, Nat.zero_add, Nat.reduceAdd, List.set_cons_succ, List.set_cons_zero]
        refine hL (_, _, _) ⟨by omega, by omega, done ++ [[.int .i64 (u), .int .i64 (u + 1)]], by simp only [List.length_append, List.length_cons, List.length_nil]; omega, ?_, by omega, HeldL.snoc hH ⟨(fun k hk => Yq.step (by omega) (by omega) hk), rfl⟩⟩ (by simp only []; omega)
        rw [Zbb]
        simp only [Zc, ZN, deepD, List.append_assoc, List.cons_append, List.nil_append]
      · simp only [decide_eq_false_iff_not, hT] at h4
        refine Tm.ret ⟨done, ?_, by omega, ?_, hH⟩
        · rw [List.drop_eq_nil_of_le (by omega)]
          simp only [Zc, List.append_nil]
        · rw [List.take_of_length_le (by omega)] at hu
          exact hu
  obtain ⟨v, ⟨ys, e1, e2, e3, hH⟩, h2⟩ := key
  exact ⟨v, ⟨ys, e1, ⟨e2, held_flat (fun _ _ _ h => h.2) hH⟩, e3, fun k hk => by
    have hk0 : Fuel k := hk
    unfold Yq.t Yq.g
    exact held_run (b := fun xs L v => Yq.l0 k xs (fun z0 => some z0) L v) (by omega) (hH.mono fun _ _ _ h => h.1 k hk) (by omega) (fun L => by simp [Yq.l0, atR, rdQ, Q.ask])⟩, h2⟩
end Go.Proofs.Ytlobhlnahhjpjaa
