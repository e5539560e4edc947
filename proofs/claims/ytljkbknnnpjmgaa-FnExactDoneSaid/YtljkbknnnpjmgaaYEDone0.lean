/- Printed, and by hand: the functions that FnExactDone reaches come to their end; the program's answer as the reference's. -/
import Derived.Test.YtljkbknnnpjmgaaXEDone1
import Derived.KernelRfl
set_option linter.unusedVariables false
set_option linter.unusedSimpArgs false
namespace Go.Proofs.Ytljkbknnnpjmgaa
open Go Go.T Go.Proofs
theorem ZaW (n : Int) : n = 1 ∨ n = 2 ∨ n = 3 ∨ n = 4 ∨ n = 5 ∨ ((n == 1) = false ∧ (n == 2) = false ∧ (n == 3) = false ∧ (n == 4) = false ∧ (n == 5) = false) := by
  simp only [beq_eq_false_iff_ne]
  omega
theorem laws_szItem.f_of {β : Type} {k : Nat} {a0_0 : ByteArray} {a0_1 : Int} {a0_2 : Int} {a1 : Int} {z0 : Int} (h : laws_szItem.t k a0_0 a0_1 a0_2 a1 = some z0) (K : Int → Option β) : laws_szItem.f k a0_0 a0_1 a0_2 a1 K = K z0 := by
  unfold laws_szItem.f
  rw [h]
theorem laws_szItem.tm {ι α : Type} {ok : ι → Prop} {ψ : α → Prop} {p : ι → Nat} {B : Nat} (hp : ∀ i, ok i → B ≤ p i) {a0_0 : ByteArray} {a0_1 : Int} {a0_2 : Int} {a1 : Int} {φ : Int → Prop} (h : Tm (fun k => B ≤ k) (fun k => laws_szItem.t k a0_0 a0_1 a0_2 a1) φ) {G : ι → Int → Option α} (hG : ∀ z0, φ z0 → Tm ok (fun ι0 => G ι0 z0) ψ) : Tm ok (fun ι0 => laws_szItem.f (p ι0) a0_0 a0_1 a0_2 a1 (G ι0)) ψ := by
  obtain ⟨z0, h1, h2⟩ := h
  exact (hG z0 h1).congr fun i0 hi0 => laws_szItem.f_of (h2 (p i0) (hp i0 hi0)) _
theorem laws_szItem.T {a0_0 : ByteArray} {a0_1 : Int} {a0_2 : Int} {a1 : Int} (h0 : 0 ≤ a1) (h1 : a1 ≤ 1048576) (ga0_0 : a0_0.size ≤ maxLen) : Tm Zar (fun k => laws_szItem.t k a0_0 a0_1 a0_2 a1) (fun r => r < 0 ∨ 0 ≤ r ∧ r ≤ a1 ∧ a0_0.size ≤ lim ∧ True) := by
  unfold laws_szItem.t laws_szItem.g
  have hm := Za
  have hlim : lim = 1048576 := rfl
  try rw [ZC (x := a1 - (a0_0.size : Int)) (by omega) (by omega)]
  refine Tm.ite (fun h1 => ?_) (fun h1 => ?_)
  · try simp only [bz0, bz1, bz2, bz3, bz4, bz5, bz6, bz7, bz8, bz9, bza] at h1
    exact Tm.ret (by first | (left; omega) | (right; refine ⟨?_, ?_, ?_, trivial⟩ <;> first | assumption | omega))
  · try simp only [bz0, bz1, bz2, bz3, bz4, bz5, bz6, bz7, bz8, bz9, bza] at h1
    exact Tm.ret (by first | (left; omega) | (right; refine ⟨?_, ?_, ?_, trivial⟩ <;> first | assumption | omega))
theorem laws_szItemS.f_of {β : Type} {k : Nat} {a0 : List (List D)} {a1 : Int} {z0 : Int} (h : laws_szItemS.t k a0 a1 = some z0) (K : Int → Option β) : laws_szItemS.f k a0 a1 K = K z0 := by
  unfold laws_szItemS.f
  rw [h]
theorem laws_szItemS.tm {ι α : Type} {ok : ι → Prop} {ψ : α → Prop} {p : ι → Nat} {B : Nat} (hp : ∀ i, ok i → B ≤ p i) {a0 : List (List D)} {a1 : Int} {φ : Int → Prop} (h : Tm (fun k => B ≤ k) (fun k => laws_szItemS.t k a0 a1) φ) {G : ι → Int → Option α} (hG : ∀ z0, φ z0 → Tm ok (fun ι0 => G ι0 z0) ψ) : Tm ok (fun ι0 => laws_szItemS.f (p ι0) a0 a1 (G ι0)) ψ := by
  obtain ⟨z0, h1, h2⟩ := h
  exact (hG z0 h1).congr fun i0 hi0 => laws_szItemS.f_of (h2 (p i0) (hp i0 hi0)) _
def Ya (B : Nat) (r : List D) : Prop := ∃ (c0 : ByteArray) (c1 : Int) (c2 : Int), r = [.str c0, .int .i64 c1, .int .i64 c2] ∧ c0.size ≤ B ∧ (Lit.int .i64 c1).wf = true ∧ (Lit.int .i64 c2).wf = true ∧ True
theorem Ya.open {B : Nat} {r : List D} (h : Ya B r) : ∃ (c0 : ByteArray) (c1 : Int) (c2 : Int), r = [.str c0, .int .i64 c1, .int .i64 c2] ∧ c0.size ≤ B ∧ (Lit.int .i64 c1).wf = true ∧ (Lit.int .i64 c2).wf = true ∧ True := h
theorem Ya.mono {B B' : Nat} (hb : B ≤ B') {r : List D} (h : Ya B r) : Ya B' r := by
  obtain ⟨c0, c1, c2, rfl, k0, k1, k2, _⟩ := h
  exact ⟨_, _, _, rfl, (Nat.le_trans k0 hb), k1, k2, trivial⟩
theorem Ya.wide {xs : List (List D)} (h : Zm Ya lim xs) : Zm Ya 2097152 xs := ⟨Nat.le_trans h.1 (by decide), fun r hr => (h.2 r hr).mono (by decide)⟩
theorem Ya.len {B : Nat} {r : List D} (h : Ya B r) : r.length = 3 := by
  obtain ⟨c0, c1, c2, rfl, _⟩ := h.open
  rfl
theorem Ya.flat {B : Nat} {xs : List (List D)} (h : ∀ r ∈ xs, Ya B r) : Zcm 3 xs := fun r hr => by
  obtain ⟨c0, c1, c2, rfl, _⟩ := (h r hr).open
  exact ⟨rfl, by simp [Zaq]⟩
theorem Ya.wt {B : Nat} {xs : List (List D)} (h : ∀ r ∈ xs, Ya B r) : ZE xs = 3 * xs.length := wt_flat (R := Ya B) (fun r h => by obtain ⟨c0, c1, c2, rfl, _⟩ := h; rfl) xs h
theorem Ya.deep {B : Nat} {xs : List (List D)} (h : ∀ r ∈ xs, Ya B r) : Zs xs = xs.map (·.map C.d) := deep_flat (R := Ya B) (fun r h => by obtain ⟨c0, c1, c2, rfl, _⟩ := h; rfl) xs h
theorem Ya.gets {B : Nat} {xs : List (List D)} (h : ∀ r ∈ xs, Ya B r) {v : Int} (h0 : 0 ≤ v) (h1 : v < xs.length) : gR xs v = [.str (gS xs v 0), .int .i64 (gI xs v 1), .int .i64 (gI xs v 2)] ∧ (gS xs v 0).size ≤ B ∧ (Lit.int .i64 (gI xs v 1)).wf = true ∧ (Lit.int .i64 (gI xs v 2)).wf = true ∧ True := by
  obtain ⟨c0, c1, c2, e, k0, k1, k2, _⟩ := (h (gR xs v) (gR_mem h0 h1)).open
  unfold gI gS
  rw [e]
  exact ⟨rfl, k0, k1, k2, trivial⟩
theorem Ya.rows {B : Nat} {xs : List (List D)} (h : ∀ r ∈ xs, Ya B r) {v : Int} (h0 : 0 ≤ v) (h1 : v < xs.length) {β : Type} (F : List D → Option β) : ZX xs v F = F [.str (gS xs v 0), .int .i64 (gI xs v 1), .int .i64 (gI xs v 2)] := by
  rw [← (Ya.gets h h0 h1).1]
  exact ZbB h0 h1 F
theorem Ya.get {B : Nat} {xs : List (List D)} (h : Zm Ya B xs) {v : Int} (h0 : 0 ≤ v) (h1 : v < xs.length) : gR xs v = [.str (gS xs v 0), .int .i64 (gI xs v 1), .int .i64 (gI xs v 2)] ∧ (gS xs v 0).size ≤ B ∧ (Lit.int .i64 (gI xs v 1)).wf = true ∧ (Lit.int .i64 (gI xs v 2)).wf = true ∧ True := Ya.gets h.2 h0 h1
theorem Ya.row {B : Nat} {xs : List (List D)} (h : Zm Ya B xs) {v : Int} (h0 : 0 ≤ v) (h1 : v < xs.length) {β : Type} (F : List D → Option β) : ZX xs v F = F [.str (gS xs v 0), .int .i64 (gI xs v 1), .int .i64 (gI xs v 2)] := Ya.rows h.2 h0 h1 F
theorem laws_szItemS.T {a0 : List (List D)} {a1 : Int} (h0 : 0 ≤ a1) (h1 : a1 ≤ 1048576) (ga0 : Zm Ya maxLen a0) : Tm Zar (fun k => laws_szItemS.t k a0 a1) (fun r => r < 0 ∨ 0 ≤ r ∧ r ≤ a1 ∧ Zm Ya lim a0 ∧ ((ZE a0 : Nat) : Int) ≤ 64 * (a1 - r) ∧ True) := by
  unfold laws_szItemS.t laws_szItemS.g
  have hm := Za
  have hlim : lim = 1048576 := rfl
  have hlen := ga0.1
  try rw [ZC (x := a1 - (a0.length : Int)) (by omega) (by omega)]
  refine Tm.ite (fun h1 => ?_) (fun h1 => ?_)
  · try simp only [bz0, bz1, bz2, bz3, bz4, bz5, bz6, bz7, bz8, bz9, bza] at h1
    exact Tm.ret (by first | (left; omega) | (right; refine ⟨?_, ?_, ?_, ?_, trivial⟩ <;> first | assumption | omega))
  · try simp only [bz0, bz1, bz2, bz3, bz4, bz5, bz6, bz7, bz8, bz9, bza] at h1
    refine Tm.loop (okk := Zar) (p := fun k => k) (fun i hi => hi) (b := fun k => laws_szItemS.l0 k a0 (fun z0 => some z0)) (fun v => match v with | (u0, i) => (((a0.length : Int)) - i).toNat) (fun v => match v with | (u0, i) => 0 ≤ u0 ∧ u0 ≤ a1 ∧ 0 ≤ i ∧ i ≤ (a0.length : Int) ∧ (∀ r ∈ a0.take i.toNat, Ya lim r) ∧ ((ZE (a0.take i.toNat) : Nat) : Int) ≤ 64 * (a1 - a0.length - u0 + i)) ?_ ?_ ?_
    · rintro ⟨u0, i⟩ hI
      try simp only [] at hI ⊢
      have : big = 2 ^ 64 := rfl
      have := ga0.1
      omega
    · exact ⟨by omega, by omega, by omega, by simp, by simp, by simp [ZE]⟩
    · rintro ⟨u0, i⟩ hI L hL
      try simp only [] at hI
      obtain ⟨u0a, u0b, i0, i1, hr, hwt⟩ := hI
      simp only [laws_szItemS.l0]
      refine Tm.ite (fun h2 => ?_) (fun h2 => ?_)
      · try simp only [bz0, bz1, bz2, bz3, bz4, bz5, bz6, bz7, bz8, bz9, bza] at h2
        refine Tm.atRow (by first | assumption | omega) (by first | assumption | omega) (fun x3 hx4 hm5 => ?_)
        obtain ⟨c6, c7, c8, rfl, g9, g10, g11, _⟩ := (ga0.2 x3 hm5).open
        refine Tm.uncons ?_
        refine Tm.dStr ?_
        refine Tm.uncons ?_
        refine Tm.dInt ?_
        refine Tm.uncons ?_
        refine Tm.dInt ?_
        refine Tm.atEnd ?_
        refine laws_szItem.tm (fun i hi => hi.1) (laws_szItem.T (by first | assumption | omega) (by first | assumption | omega) (by first | assumption | omega)) (fun y13 hy12 => ?_)
        rcases hy12 with hy12 | ⟨p15, p16, q14, _⟩
        · exact Tm.ite (fun _ => Tm.ret (by left; omega)) (fun h => by simp at h; omega)
        refine Tm.ite (fun h17 => ?_) (fun h17 => ?_)
        · try simp only [bz0, bz1, bz2, bz3, bz4, bz5, bz6, bz7, bz8, bz9, bza] at h17
          exact Tm.ret (by first | (left; omega) | (rw [List.take_of_length_le (by omega)] at hwt; exact .inr ⟨by omega, by omega, ⟨by simp only [lim]; omega, Zau (by omega) hr⟩, by omega, trivial⟩))
        · try simp only [bz0, bz1, bz2, bz3, bz4, bz5, bz6, bz7, bz8, bz9, bza] at h17
          try rw [ZC (x := i + 1) (by omega) (by omega)]
          have hwx := Zb4 i0 hx4
          simp only [Zbi, wtD] at hwx
          refine hL (y13, (i + 1)) ⟨by omega, by omega, by omega, by omega, Zbd i0 hx4 hr ⟨_, _, _, rfl, by first | assumption | omega, by first | assumption | omega, by first | assumption | omega, trivial⟩, by omega⟩ (by (try simp only []); omega)
      · try simp only [bz0, bz1, bz2, bz3, bz4, bz5, bz6, bz7, bz8, bz9, bza] at h2
        exact Tm.ret (by first | (left; omega) | (rw [List.take_of_length_le (by omega)] at hwt; exact .inr ⟨by omega, by omega, ⟨by simp only [lim]; omega, Zau (by omega) hr⟩, by omega, trivial⟩))
theorem laws_szStringS.f_of {β : Type} {k : Nat} {a0 : List (List D)} {a1 : Int} {z0 : Int} (h : laws_szStringS.t k a0 a1 = some z0) (K : Int → Option β) : laws_szStringS.f k a0 a1 K = K z0 := by
  unfold laws_szStringS.f
  rw [h]
theorem laws_szStringS.tm {ι α : Type} {ok : ι → Prop} {ψ : α → Prop} {p : ι → Nat} {B : Nat} (hp : ∀ i, ok i → B ≤ p i) {a0 : List (List D)} {a1 : Int} {φ : Int → Prop} (h : Tm (fun k => B ≤ k) (fun k => laws_szStringS.t k a0 a1) φ) {G : ι → Int → Option α} (hG : ∀ z0, φ z0 → Tm ok (fun ι0 => G ι0 z0) ψ) : Tm ok (fun ι0 => laws_szStringS.f (p ι0) a0 a1 (G ι0)) ψ := by
  obtain ⟨z0, h1, h2⟩ := h
  exact (hG z0 h1).congr fun i0 hi0 => laws_szStringS.f_of (h2 (p i0) (hp i0 hi0)) _
def RS (B : Nat) (r : List D) : Prop := ∃ (c0 : ByteArray), r = [.str c0] ∧ c0.size ≤ B ∧ True
theorem RS.open {B : Nat} {r : List D} (h : RS B r) : ∃ (c0 : ByteArray), r = [.str c0] ∧ c0.size ≤ B ∧ True := h
theorem RS.mono {B B' : Nat} (hb : B ≤ B') {r : List D} (h : RS B r) : RS B' r := by
  obtain ⟨c0, rfl, k0, _⟩ := h
  exact ⟨_, rfl, (Nat.le_trans k0 hb), trivial⟩
theorem RS.wide {xs : List (List D)} (h : Zm RS lim xs) : Zm RS 2097152 xs := ⟨Nat.le_trans h.1 (by decide), fun r hr => (h.2 r hr).mono (by decide)⟩
theorem RS.len {B : Nat} {r : List D} (h : RS B r) : r.length = 1 := by
  obtain ⟨c0, rfl, _⟩ := h.open
  rfl
theorem RS.flat {B : Nat} {xs : List (List D)} (h : ∀ r ∈ xs, RS B r) : Zcm 1 xs := fun r hr => by
  obtain ⟨c0, rfl, _⟩ := (h r hr).open
  exact ⟨rfl, by simp [Zaq]⟩
theorem RS.wt {B : Nat} {xs : List (List D)} (h : ∀ r ∈ xs, RS B r) : ZE xs = 1 * xs.length := wt_flat (R := RS B) (fun r h => by obtain ⟨c0, rfl, _⟩ := h; rfl) xs h
theorem RS.deep {B : Nat} {xs : List (List D)} (h : ∀ r ∈ xs, RS B r) : Zs xs = xs.map (·.map C.d) := deep_flat (R := RS B) (fun r h => by obtain ⟨c0, rfl, _⟩ := h; rfl) xs h
theorem RS.gets {B : Nat} {xs : List (List D)} (h : ∀ r ∈ xs, RS B r) {v : Int} (h0 : 0 ≤ v) (h1 : v < xs.length) : gR xs v = [.str (gS xs v 0)] ∧ (gS xs v 0).size ≤ B ∧ True := by
  obtain ⟨c0, e, k0, _⟩ := (h (gR xs v) (gR_mem h0 h1)).open
  unfold gS
  rw [e]
  exact ⟨rfl, k0, trivial⟩
theorem RS.rows {B : Nat} {xs : List (List D)} (h : ∀ r ∈ xs, RS B r) {v : Int} (h0 : 0 ≤ v) (h1 : v < xs.length) {β : Type} (F : List D → Option β) : ZX xs v F = F [.str (gS xs v 0)] := by
  rw [← (RS.gets h h0 h1).1]
  exact ZbB h0 h1 F
theorem RS.get {B : Nat} {xs : List (List D)} (h : Zm RS B xs) {v : Int} (h0 : 0 ≤ v) (h1 : v < xs.length) : gR xs v = [.str (gS xs v 0)] ∧ (gS xs v 0).size ≤ B ∧ True := RS.gets h.2 h0 h1
theorem RS.row {B : Nat} {xs : List (List D)} (h : Zm RS B xs) {v : Int} (h0 : 0 ≤ v) (h1 : v < xs.length) {β : Type} (F : List D → Option β) : ZX xs v F = F [.str (gS xs v 0)] := RS.rows h.2 h0 h1 F
theorem laws_szStringS.T {a0 : List (List D)} {a1 : Int} (h0 : 0 ≤ a1) (h1 : a1 ≤ 1048576) (ga0 : Zm RS maxLen a0) : Tm Zar (fun k => laws_szStringS.t k a0 a1) (fun r => r < 0 ∨ 0 ≤ r ∧ r ≤ a1 ∧ Zm RS lim a0 ∧ ((ZE a0 : Nat) : Int) ≤ 64 * (a1 - r) ∧ True) := by
  unfold laws_szStringS.t laws_szStringS.g
  have hm := Za
  have hlim : lim = 1048576 := rfl
  have hlen := ga0.1
  try rw [ZC (x := a1 - (a0.length : Int)) (by omega) (by omega)]
  refine Tm.ite (fun h1 => ?_) (fun h1 => ?_)
  · try simp only [bz0, bz1, bz2, bz3, bz4, bz5, bz6, bz7, bz8, bz9, bza] at h1
    exact Tm.ret (by first | (left; omega) | (right; refine ⟨?_, ?_, ?_, ?_, trivial⟩ <;> first | assumption | omega))
  · try simp only [bz0, bz1, bz2, bz3, bz4, bz5, bz6, bz7, bz8, bz9, bza] at h1
    refine Tm.loop (okk := Zar) (p := fun k => k) (fun i hi => hi) (b := fun k => laws_szStringS.l0 k a0 (fun z0 => some z0)) (fun v => match v with | (u0, i) => (((a0.length : Int)) - i).toNat) (fun v => match v with | (u0, i) => 0 ≤ u0 ∧ u0 ≤ a1 ∧ 0 ≤ i ∧ i ≤ (a0.length : Int) ∧ (∀ r ∈ a0.take i.toNat, RS lim r) ∧ ((ZE (a0.take i.toNat) : Nat) : Int) ≤ 64 * (a1 - a0.length - u0 + i)) ?_ ?_ ?_
    · rintro ⟨u0, i⟩ hI
      try simp only [] at hI ⊢
      have : big = 2 ^ 64 := rfl
      have := ga0.1
      omega
    · exact ⟨by omega, by omega, by omega, by simp, by simp, by simp [ZE]⟩
    · rintro ⟨u0, i⟩ hI L hL
      try simp only [] at hI
      obtain ⟨u0a, u0b, i0, i1, hr, hwt⟩ := hI
      simp only [laws_szStringS.l0]
      refine Tm.ite (fun h2 => ?_) (fun h2 => ?_)
      · try simp only [bz0, bz1, bz2, bz3, bz4, bz5, bz6, bz7, bz8, bz9, bza] at h2
        refine Tm.atRow (by first | assumption | omega) (by first | assumption | omega) (fun x3 hx4 hm5 => ?_)
        obtain ⟨c6, rfl, g7, _⟩ := (ga0.2 x3 hm5).open
        refine Tm.uncons ?_
        refine Tm.dStr ?_
        refine Tm.atEnd ?_
        try rw [ZC (x := u0 - (c6.size : Int)) (by omega) (by omega)]
        refine Tm.ite (fun h8 => ?_) (fun h8 => ?_)
        · try simp only [bz0, bz1, bz2, bz3, bz4, bz5, bz6, bz7, bz8, bz9, bza] at h8
          exact Tm.ret (by first | (left; omega) | (rw [List.take_of_length_le (by omega)] at hwt; exact .inr ⟨by omega, by omega, ⟨by simp only [lim]; omega, Zau (by omega) hr⟩, by omega, trivial⟩))
        · try simp only [bz0, bz1, bz2, bz3, bz4, bz5, bz6, bz7, bz8, bz9, bza] at h8
          try rw [ZC (x := i + 1) (by omega) (by omega)]
          have hwx := Zb4 i0 hx4
          simp only [Zbi, wtD] at hwx
          refine hL ((u0 - (c6.size : Int)), (i + 1)) ⟨by omega, by omega, by omega, by omega, Zbd i0 hx4 hr ⟨_, rfl, by first | assumption | omega, trivial⟩, by omega⟩ (by (try simp only []); omega)
      · try simp only [bz0, bz1, bz2, bz3, bz4, bz5, bz6, bz7, bz8, bz9, bza] at h2
        exact Tm.ret (by first | (left; omega) | (rw [List.take_of_length_le (by omega)] at hwt; exact .inr ⟨by omega, by omega, ⟨by simp only [lim]; omega, Zau (by omega) hr⟩, by omega, trivial⟩))
theorem laws_szQueue.f_of {β : Type} {k : Nat} {a0_0 : List (List D)} {a0_1 : List (List D)} {a0_2 : List (List D)} {a0_3 : Int} {a1 : Int} {z0 : Int} (h : laws_szQueue.t k a0_0 a0_1 a0_2 a0_3 a1 = some z0) (K : Int → Option β) : laws_szQueue.f k a0_0 a0_1 a0_2 a0_3 a1 K = K z0 := by
  unfold laws_szQueue.f
  rw [h]
theorem laws_szQueue.tm {ι α : Type} {ok : ι → Prop} {ψ : α → Prop} {p : ι → Nat} {B : Nat} (hp : ∀ i, ok i → B ≤ p i) {a0_0 : List (List D)} {a0_1 : List (List D)} {a0_2 : List (List D)} {a0_3 : Int} {a1 : Int} {φ : Int → Prop} (h : Tm (fun k => B ≤ k) (fun k => laws_szQueue.t k a0_0 a0_1 a0_2 a0_3 a1) φ) {G : ι → Int → Option α} (hG : ∀ z0, φ z0 → Tm ok (fun ι0 => G ι0 z0) ψ) : Tm ok (fun ι0 => laws_szQueue.f (p ι0) a0_0 a0_1 a0_2 a0_3 a1 (G ι0)) ψ := by
  obtain ⟨z0, h1, h2⟩ := h
  exact (hG z0 h1).congr fun i0 hi0 => laws_szQueue.f_of (h2 (p i0) (hp i0 hi0)) _
theorem laws_szQueue.T {a0_0 : List (List D)} {a0_1 : List (List D)} {a0_2 : List (List D)} {a0_3 : Int} {a1 : Int} (h0 : 0 ≤ a1) (h1 : a1 ≤ 1048576) (ga0_0 : Zm Ya maxLen a0_0) (ga0_1 : Zm Ya maxLen a0_1) (ga0_2 : Zm RS maxLen a0_2) : Tm Zar (fun k => laws_szQueue.t k a0_0 a0_1 a0_2 a0_3 a1) (fun r => r < 0 ∨ 0 ≤ r ∧ r ≤ a1 ∧ Zm Ya lim a0_0 ∧ Zm Ya lim a0_1 ∧ Zm RS lim a0_2 ∧ ((ZE a0_0 + ZE a0_1 + ZE a0_2 : Nat) : Int) ≤ 64 * (a1 - r) ∧ True) := by
  unfold laws_szQueue.t laws_szQueue.g
  have hm := Za
  have hlim : lim = 1048576 := rfl
  refine laws_szItemS.tm (fun i hi => hi) (laws_szItemS.T (by first | assumption | omega) (by first | assumption | omega) (by first | assumption | omega)) (fun y2 hy1 => ?_)
  rcases hy1 with hy1 | ⟨p5, p6, q3, q4, _⟩
  · exact Tm.ite (fun _ => Tm.ret (by left; omega)) (fun h => by simp at h; omega)
  refine Tm.ite (fun h7 => ?_) (fun h7 => ?_)
  · try simp only [bz0, bz1, bz2, bz3, bz4, bz5, bz6, bz7, bz8, bz9, bza] at h7
    exact Tm.ret (by first | (left; omega) | (right; refine ⟨?_, ?_, ?_, ?_, ?_, ?_, trivial⟩ <;> first | assumption | omega))
  · try simp only [bz0, bz1, bz2, bz3, bz4, bz5, bz6, bz7, bz8, bz9, bza] at h7
    refine laws_szItemS.tm (fun i hi => hi) (laws_szItemS.T (by first | assumption | omega) (by first | assumption | omega) (by first | assumption | omega)) (fun y9 hy8 => ?_)
    rcases hy8 with hy8 | ⟨p12, p13, q10, q11, _⟩
    · exact Tm.ite (fun _ => Tm.ret (by left; omega)) (fun h => by simp at h; omega)
    refine Tm.ite (fun h14 => ?_) (fun h14 => ?_)
    · try simp only [bz0, bz1, bz2, bz3, bz4, bz5, bz6, bz7, bz8, bz9, bza] at h14
      exact Tm.ret (by first | (left; omega) | (right; refine ⟨?_, ?_, ?_, ?_, ?_, ?_, trivial⟩ <;> first | assumption | omega))
    · try simp only [bz0, bz1, bz2, bz3, bz4, bz5, bz6, bz7, bz8, bz9, bza] at h14
      refine laws_szStringS.tm (fun i hi => hi) (laws_szStringS.T (by first | assumption | omega) (by first | assumption | omega) (by first | assumption | omega)) (fun y16 hy15 => ?_)
      rcases hy15 with hy15 | ⟨p19, p20, q17, q18, _⟩
      · exact Tm.ite (fun _ => Tm.ret (by left; omega)) (fun h => by simp at h; omega)
      refine Tm.ite (fun h21 => ?_) (fun h21 => ?_)
      · try simp only [bz0, bz1, bz2, bz3, bz4, bz5, bz6, bz7, bz8, bz9, bza] at h21
        exact Tm.ret (by first | (left; omega) | (right; refine ⟨?_, ?_, ?_, ?_, ?_, ?_, trivial⟩ <;> first | assumption | omega))
      · try simp only [bz0, bz1, bz2, bz3, bz4, bz5, bz6, bz7, bz8, bz9, bza] at h21
        exact Tm.ret (by first | (left; omega) | (right; refine ⟨?_, ?_, ?_, ?_, ?_, ?_, trivial⟩ <;> first | assumption | omega))
theorem laws_toItem.f_of {β : Type} {k : Nat} {a0_0 : ByteArray} {a0_1 : Int} {a0_2 : Int} {z0 : ByteArray} {z1 : Int} {z2 : Int} (h : laws_toItem.t k a0_0 a0_1 a0_2 = some (z0, z1, z2)) (K : ByteArray → Int → Int → Option β) : laws_toItem.f k a0_0 a0_1 a0_2 K = K z0 z1 z2 := by
  unfold laws_toItem.f
  rw [h]
theorem laws_toItem.tm {ι α : Type} {ok : ι → Prop} {ψ : α → Prop} {p : ι → Nat} {B : Nat} (hp : ∀ i, ok i → B ≤ p i) {a0_0 : ByteArray} {a0_1 : Int} {a0_2 : Int} {φ : ByteArray × Int × Int → Prop} (h : Tm (fun k => B ≤ k) (fun k => laws_toItem.t k a0_0 a0_1 a0_2) φ) {G : ι → ByteArray → Int → Int → Option α} (hG : ∀ z0 z1 z2, φ (z0, z1, z2) → Tm ok (fun ι0 => G ι0 z0 z1 z2) ψ) : Tm ok (fun ι0 => laws_toItem.f (p ι0) a0_0 a0_1 a0_2 (G ι0)) ψ := by
  obtain ⟨⟨z0, z1, z2⟩, h1, h2⟩ := h
  exact (hG z0 z1 z2 h1).congr fun i0 hi0 => laws_toItem.f_of (h2 (p i0) (hp i0 hi0)) _
theorem laws_toItem.T {a0_0 : ByteArray} {a0_1 : Int} {a0_2 : Int} (ga0_0 : a0_0.size ≤ lim) : Tm Zar (fun k => laws_toItem.t k a0_0 a0_1 a0_2) (fun z => z.1 = a0_0 ∧ z.2.1 = a0_1 ∧ z.2.2 = a0_2 ∧ True) := by
  unfold laws_toItem.t laws_toItem.g
  have hm := Za
  have hlim : lim = 1048576 := rfl
  exact Tm.ret (by exact ⟨by first | rfl | assumption, by first | rfl | assumption, by first | rfl | assumption, trivial⟩)
theorem laws_toItemS.f_of {β : Type} {k : Nat} {a0 : List (List D)} {z0 : List (List C)} (h : laws_toItemS.t k a0 = some z0) (K : (List (List C)) → Option β) : laws_toItemS.f k a0 K = K z0 := by
  unfold laws_toItemS.f
  rw [h]
theorem laws_toItemS.tm {ι α : Type} {ok : ι → Prop} {ψ : α → Prop} {p : ι → Nat} {B : Nat} (hp : ∀ i, ok i → B ≤ p i) {a0 : List (List D)} {φ : (List (List C)) → Prop} (h : Tm (fun k => B ≤ k) (fun k => laws_toItemS.t k a0) φ) {G : ι → (List (List C)) → Option α} (hG : ∀ z0, φ z0 → Tm ok (fun ι0 => G ι0 z0) ψ) : Tm ok (fun ι0 => laws_toItemS.f (p ι0) a0 (G ι0)) ψ := by
  obtain ⟨z0, h1, h2⟩ := h
  exact (hG z0 h1).congr fun i0 hi0 => laws_toItemS.f_of (h2 (p i0) (hp i0 hi0)) _
theorem laws_toItemS.T {a0 : List (List D)} (ga0 : Zm Ya lim a0) : Tm Zar (fun k => laws_toItemS.t k a0) (fun z => z = Zs a0 ∧ True) := by
  unfold laws_toItemS.t laws_toItemS.g
  have hm := Za
  have hlim : lim = 1048576 := rfl
  have hlen := ga0.1
  refine Tm.guard (by first | omega | (simp only [lim, Za, Z6] at *; omega) | (simp only [lim, Z6] at *; refine ⟨?_, ?_, ?_, ?_⟩ <;> omega)) ?_
  refine Tm.loop (okk := Zar) (p := fun k => k) (fun i hi => hi) (b := fun k => laws_toItemS.l0 k a0 (fun z0 => some z0)) (fun v => match v with | (i, u1) => (((a0.length : Int)) - i).toNat) (fun v => match v with | (i, u1) => 0 ≤ i ∧ i ≤ (a0.length : Int) ∧ Zaw a0 ([.d (.str (⟨#[]⟩ : ByteArray)), .d (.int .i64 0), .d (.int .i64 0)] : List C) i u1) ?_ ?_ ?_
  · rintro ⟨i, u1⟩ hI
    try simp only [] at hI ⊢
    have : big = 2 ^ 64 := rfl
    have := ga0.1
    simp only [lim] at this
    omega
  · exact ⟨by omega, by simp, Zaw.start _ _⟩
  · rintro ⟨i, u1⟩ hI L hL
    try simp only [] at hI
    obtain ⟨i0, i1, hF⟩ := hI
    have hFl := hF.len i1
    simp only [laws_toItemS.l0]
    refine Tm.ite (fun h1 => ?_) (fun h1 => ?_)
    · try simp only [bz0, bz1, bz2, bz3, bz4, bz5, bz6, bz7, bz8, bz9, bza] at h1
      refine Tm.atRow (by first | assumption | omega) (by first | assumption | omega) (fun x2 hx3 hm4 => ?_)
      obtain ⟨c5, c6, c7, rfl, g8, g9, g10, _⟩ := (ga0.2 x2 hm4).open
      refine Tm.uncons ?_
      refine Tm.dStr ?_
      refine Tm.uncons ?_
      refine Tm.dInt ?_
      refine Tm.uncons ?_
      refine Tm.dInt ?_
      refine Tm.atEnd ?_
      refine laws_toItem.tm (fun i hi => hi.1) (laws_toItem.T (by first | assumption | omega)) (fun y12 y13 y14 hy11 => ?_)
      try simp only [] at hy11
      obtain ⟨rfl, rfl, rfl, _⟩ := hy11
      try simp only [ZF]
      refine Tm.guard (by first | omega | (simp only [lim, Za, Z6] at *; omega) | (simp only [lim, Z6] at *; refine ⟨?_, ?_, ?_, ?_⟩ <;> omega)) ?_
      refine Tm.guard (by first | omega | (simp only [lim, Za, Z6] at *; omega) | (simp only [lim, Z6] at *; refine ⟨?_, ?_, ?_, ?_⟩ <;> omega)) ?_
      try rw [ZC (x := i + 1) (by omega) (by omega)]
      refine hL (_, _) ⟨by omega, by omega, hF.next i0 hx3 rfl (by simp [Zal, deepD])⟩ (by (try simp only []); omega)
    · try simp only [bz0, bz1, bz2, bz3, bz4, bz5, bz6, bz7, bz8, bz9, bza] at h1
      exact Tm.ret (by exact ⟨hF.all (by omega), trivial⟩)
theorem laws_toStringS.f_of {β : Type} {k : Nat} {a0 : List (List D)} {z0 : List (List C)} (h : laws_toStringS.t k a0 = some z0) (K : (List (List C)) → Option β) : laws_toStringS.f k a0 K = K z0 := by
  unfold laws_toStringS.f
  rw [h]
theorem laws_toStringS.tm {ι α : Type} {ok : ι → Prop} {ψ : α → Prop} {p : ι → Nat} {B : Nat} (hp : ∀ i, ok i → B ≤ p i) {a0 : List (List D)} {φ : (List (List C)) → Prop} (h : Tm (fun k => B ≤ k) (fun k => laws_toStringS.t k a0) φ) {G : ι → (List (List C)) → Option α} (hG : ∀ z0, φ z0 → Tm ok (fun ι0 => G ι0 z0) ψ) : Tm ok (fun ι0 => laws_toStringS.f (p ι0) a0 (G ι0)) ψ := by
  obtain ⟨z0, h1, h2⟩ := h
  exact (hG z0 h1).congr fun i0 hi0 => laws_toStringS.f_of (h2 (p i0) (hp i0 hi0)) _
theorem laws_toStringS.T {a0 : List (List D)} (ga0 : Zm RS lim a0) : Tm Zar (fun k => laws_toStringS.t k a0) (fun z => z = Zs a0 ∧ True) := by
  unfold laws_toStringS.t laws_toStringS.g
  have hm := Za
  have hlim : lim = 1048576 := rfl
  have hlen := ga0.1
  refine Tm.guard (by first | omega | (simp only [lim, Za, Z6] at *; omega) | (simp only [lim, Z6] at *; refine ⟨?_, ?_, ?_, ?_⟩ <;> omega)) ?_
  refine Tm.loop (okk := Zar) (p := fun k => k) (fun i hi => hi) (b := fun k => laws_toStringS.l0 k a0 (fun z0 => some z0)) (fun v => match v with | (i, u1) => (((a0.length : Int)) - i).toNat) (fun v => match v with | (i, u1) => 0 ≤ i ∧ i ≤ (a0.length : Int) ∧ Zaw a0 ([.d (.str (⟨#[]⟩ : ByteArray))] : List C) i u1) ?_ ?_ ?_
  · rintro ⟨i, u1⟩ hI
    try simp only [] at hI ⊢
    have : big = 2 ^ 64 := rfl
    have := ga0.1
    simp only [lim] at this
    omega
  · exact ⟨by omega, by simp, Zaw.start _ _⟩
  · rintro ⟨i, u1⟩ hI L hL
    try simp only [] at hI
    obtain ⟨i0, i1, hF⟩ := hI
    have hFl := hF.len i1
    simp only [laws_toStringS.l0]
    refine Tm.ite (fun h1 => ?_) (fun h1 => ?_)
    · try simp only [bz0, bz1, bz2, bz3, bz4, bz5, bz6, bz7, bz8, bz9, bza] at h1
      refine Tm.atRow (by first | assumption | omega) (by first | assumption | omega) (fun x2 hx3 hm4 => ?_)
      obtain ⟨c5, rfl, g6, _⟩ := (ga0.2 x2 hm4).open
      refine Tm.uncons ?_
      refine Tm.dStr ?_
      refine Tm.atEnd ?_
      refine Tm.guard (by first | omega | (simp only [lim, Za, Z6] at *; omega) | (simp only [lim, Z6] at *; refine ⟨?_, ?_, ?_, ?_⟩ <;> omega)) ?_
      refine Tm.guard (by first | omega | (simp only [lim, Za, Z6] at *; omega) | (simp only [lim, Z6] at *; refine ⟨?_, ?_, ?_, ?_⟩ <;> omega)) ?_
      try rw [ZC (x := i + 1) (by omega) (by omega)]
      refine hL (_, _) ⟨by omega, by omega, hF.next i0 hx3 rfl (by simp [Zal, deepD])⟩ (by (try simp only []); omega)
    · try simp only [bz0, bz1, bz2, bz3, bz4, bz5, bz6, bz7, bz8, bz9, bza] at h1
      exact Tm.ret (by exact ⟨hF.all (by omega), trivial⟩)
theorem laws_toQueue.f_of {β : Type} {k : Nat} {a0_0 : List (List D)} {a0_1 : List (List D)} {a0_2 : List (List D)} {a0_3 : Int} {z0 : List (List C)} {z1 : List (List C)} {z2 : List (List C)} {z3 : Int} (h : laws_toQueue.t k a0_0 a0_1 a0_2 a0_3 = some (z0, z1, z2, z3)) (K : (List (List C)) → (List (List C)) → (List (List C)) → Int → Option β) : laws_toQueue.f k a0_0 a0_1 a0_2 a0_3 K = K z0 z1 z2 z3 := by
  unfold laws_toQueue.f
  rw [h]
theorem laws_toQueue.tm {ι α : Type} {ok : ι → Prop} {ψ : α → Prop} {p : ι → Nat} {B : Nat} (hp : ∀ i, ok i → B ≤ p i) {a0_0 : List (List D)} {a0_1 : List (List D)} {a0_2 : List (List D)} {a0_3 : Int} {φ : (List (List C)) × (List (List C)) × (List (List C)) × Int → Prop} (h : Tm (fun k => B ≤ k) (fun k => laws_toQueue.t k a0_0 a0_1 a0_2 a0_3) φ) {G : ι → (List (List C)) → (List (List C)) → (List (List C)) → Int → Option α} (hG : ∀ z0 z1 z2 z3, φ (z0, z1, z2, z3) → Tm ok (fun ι0 => G ι0 z0 z1 z2 z3) ψ) : Tm ok (fun ι0 => laws_toQueue.f (p ι0) a0_0 a0_1 a0_2 a0_3 (G ι0)) ψ := by
  obtain ⟨⟨z0, z1, z2, z3⟩, h1, h2⟩ := h
  exact (hG z0 z1 z2 z3 h1).congr fun i0 hi0 => laws_toQueue.f_of (h2 (p i0) (hp i0 hi0)) _
theorem laws_toQueue.T {a0_0 : List (List D)} {a0_1 : List (List D)} {a0_2 : List (List D)} {a0_3 : Int} (ga0_0 : Zm Ya lim a0_0) (ga0_1 : Zm Ya lim a0_1) (ga0_2 : Zm RS lim a0_2) : Tm Zar (fun k => laws_toQueue.t k a0_0 a0_1 a0_2 a0_3) (fun z => z.1 = Zs a0_0 ∧ z.2.1 = Zs a0_1 ∧ z.2.2.1 = Zs a0_2 ∧ z.2.2.2 = a0_3 ∧ True) := by
  unfold laws_toQueue.t laws_toQueue.g
  have hm := Za
  have hlim : lim = 1048576 := rfl
  refine laws_toItemS.tm (fun i hi => hi) (laws_toItemS.T (by first | assumption | omega)) (fun y2 hy1 => ?_)
  try simp only [] at hy1
  obtain ⟨rfl, _⟩ := hy1
  try simp only [ZF]
  refine laws_toItemS.tm (fun i hi => hi) (laws_toItemS.T (by first | assumption | omega)) (fun y4 hy3 => ?_)
  try simp only [] at hy3
  obtain ⟨rfl, _⟩ := hy3
  try simp only [ZF]
  refine laws_toStringS.tm (fun i hi => hi) (laws_toStringS.T (by first | assumption | omega)) (fun y6 hy5 => ?_)
  try simp only [] at hy5
  obtain ⟨rfl, _⟩ := hy5
  try simp only [ZF]
  exact Tm.ret (by exact ⟨by first | rfl | assumption, by first | rfl | assumption, by first | rfl | assumption, by first | rfl | assumption, trivial⟩)
theorem spec_l9Copy.f_of {β : Type} {k : Nat} {a0_0 : List (List D)} {a0_1 : List (List D)} {a0_2 : List (List D)} {a0_3 : Int} {z0 : List (List C)} {z1 : List (List C)} {z2 : List (List C)} {z3 : Int} (h : spec_l9Copy.t k a0_0 a0_1 a0_2 a0_3 = some (z0, z1, z2, z3)) (K : (List (List C)) → (List (List C)) → (List (List C)) → Int → Option β) : spec_l9Copy.f k a0_0 a0_1 a0_2 a0_3 K = K z0 z1 z2 z3 := by
  unfold spec_l9Copy.f
  rw [h]
theorem spec_l9Copy.tm {ι α : Type} {ok : ι → Prop} {ψ : α → Prop} {p : ι → Nat} {B : Nat} (hp : ∀ i, ok i → B ≤ p i) {a0_0 : List (List D)} {a0_1 : List (List D)} {a0_2 : List (List D)} {a0_3 : Int} {φ : (List (List C)) × (List (List C)) × (List (List C)) × Int → Prop} (h : Tm (fun k => B ≤ k) (fun k => spec_l9Copy.t k a0_0 a0_1 a0_2 a0_3) φ) {G : ι → (List (List C)) → (List (List C)) → (List (List C)) → Int → Option α} (hG : ∀ z0 z1 z2 z3, φ (z0, z1, z2, z3) → Tm ok (fun ι0 => G ι0 z0 z1 z2 z3) ψ) : Tm ok (fun ι0 => spec_l9Copy.f (p ι0) a0_0 a0_1 a0_2 a0_3 (G ι0)) ψ := by
  obtain ⟨⟨z0, z1, z2, z3⟩, h1, h2⟩ := h
  exact (hG z0 z1 z2 z3 h1).congr fun i0 hi0 => spec_l9Copy.f_of (h2 (p i0) (hp i0 hi0)) _
theorem spec_l9Find.f_of {β : Type} {k : Nat} {a0 : List (List D)} {a1 : ByteArray} {z0 : Int} (h : spec_l9Find.t k a0 a1 = some z0) (K : Int → Option β) : spec_l9Find.f k a0 a1 K = K z0 := by
  unfold spec_l9Find.f
  rw [h]
theorem spec_l9Find.tm {ι α : Type} {ok : ι → Prop} {ψ : α → Prop} {p : ι → Nat} {B : Nat} (hp : ∀ i, ok i → B ≤ p i) {a0 : List (List D)} {a1 : ByteArray} {φ : Int → Prop} (h : Tm (fun k => B ≤ k) (fun k => spec_l9Find.t k a0 a1) φ) {G : ι → Int → Option α} (hG : ∀ z0, φ z0 → Tm ok (fun ι0 => G ι0 z0) ψ) : Tm ok (fun ι0 => spec_l9Find.f (p ι0) a0 a1 (G ι0)) ψ := by
  obtain ⟨z0, h1, h2⟩ := h
  exact (hG z0 h1).congr fun i0 hi0 => spec_l9Find.f_of (h2 (p i0) (hp i0 hi0)) _
theorem spec_l9Find.T {a0 : List (List D)} {a1 : ByteArray} (ga0 : Zm Ya lim a0) (ga1 : a1.size ≤ lim) : Tm Zar (fun k => spec_l9Find.t k a0 a1) (fun _ => True) := by
  unfold spec_l9Find.t spec_l9Find.g
  have hm := Za
  have hlim : lim = 1048576 := rfl
  have la0 := ga0.1
  refine Tm.loop (okk := Zar) (p := fun k => k) (fun i hi => hi) (b := fun k => spec_l9Find.l0 k a0 a1 (fun z0 => some z0)) (fun i => (((a0.length : Int)) - i).toNat) (fun i => 0 ≤ i ∧ i ≤ (a0.length : Int)) ?_ ?_ ?_
  · rintro i hI
    try simp only [] at hI ⊢
    have : big = 2 ^ 64 := rfl
    omega
  · ((try simp only []); omega)
  · rintro i hI L hL
    try simp only [] at hI
    obtain ⟨i0, i1⟩ := hI
    simp only [spec_l9Find.l0]
    refine Tm.ite (fun h1 => ?_) (fun h1 => ?_)
    · try simp only [bz0, bz1, bz2, bz3, bz4, bz5, bz6, bz7, bz8, bz9, bza] at h1
      refine Tm.atRow (by first | assumption | omega) (by first | assumption | omega) (fun x2 hx3 hm4 => ?_)
      obtain ⟨c5, c6, c7, rfl, g8, g9, g10, _⟩ := (ga0.2 x2 hm4).open
      refine Tm.uncons ?_
      refine Tm.dStr ?_
      refine Tm.uncons ?_
      refine Tm.dInt ?_
      refine Tm.uncons ?_
      refine Tm.dInt ?_
      refine Tm.atEnd ?_
      refine Tm.ite (fun h11 => ?_) (fun h11 => ?_)
      · try simp only [bz0, bz1, bz2, bz3, bz4, bz5, bz6, bz7, bz8, bz9, bza] at h11
        exact Tm.ret (by trivial)
      · try simp only [bz0, bz1, bz2, bz3, bz4, bz5, bz6, bz7, bz8, bz9, bza] at h11
        try rw [ZC (x := i + 1) (by omega) (by omega)]
        exact hL _ (by (try simp only []); omega) (by (try simp only []); omega)
    · try simp only [bz0, bz1, bz2, bz3, bz4, bz5, bz6, bz7, bz8, bz9, bza] at h1
      exact Tm.ret (by trivial)
noncomputable def spec_l9Find.v (a0 : List (List D)) (a1 : ByteArray) : Int := (spec_l9Find.t big a0 a1).getD default
theorem spec_l9Find.tv {a0 : List (List D)} {a1 : ByteArray} (ga0 : Zm Ya lim a0) (ga1 : a1.size ≤ lim) {k : Nat} (hk : Zar k) : spec_l9Find.t k a0 a1 = some (spec_l9Find.v a0 a1) := (spec_l9Find.T ga0 ga1).val hk
theorem spec_l9Find.fv {a0 : List (List D)} {a1 : ByteArray} (ga0 : Zm Ya lim a0) (ga1 : a1.size ≤ lim) {k : Nat} (hk : Zar k) {β : Type} (K : Int → Option β) : spec_l9Find.f k a0 a1 K = K (spec_l9Find.v a0 a1) := spec_l9Find.f_of (spec_l9Find.tv ga0 ga1 hk) K
theorem spec_l1In.f_of {β : Type} {k : Nat} {a0 : Int} {a1 : Int} {a2 : Int} {z0 : Bool} (h : spec_l1In.t k a0 a1 a2 = some z0) (K : Bool → Option β) : spec_l1In.f k a0 a1 a2 K = K z0 := by
  unfold spec_l1In.f
  rw [h]
theorem spec_l1In.tm {ι α : Type} {ok : ι → Prop} {ψ : α → Prop} {p : ι → Nat} {B : Nat} (hp : ∀ i, ok i → B ≤ p i) {a0 : Int} {a1 : Int} {a2 : Int} {φ : Bool → Prop} (h : Tm (fun k => B ≤ k) (fun k => spec_l1In.t k a0 a1 a2) φ) {G : ι → Bool → Option α} (hG : ∀ z0, φ z0 → Tm ok (fun ι0 => G ι0 z0) ψ) : Tm ok (fun ι0 => spec_l1In.f (p ι0) a0 a1 a2 (G ι0)) ψ := by
  obtain ⟨z0, h1, h2⟩ := h
  exact (hG z0 h1).congr fun i0 hi0 => spec_l1In.f_of (h2 (p i0) (hp i0 hi0)) _
theorem spec_l1In.T {a0 : Int} {a1 : Int} {a2 : Int} : Tm Zar (fun k => spec_l1In.t k a0 a1 a2) (fun r => r = true → a1 ≤ a0 ∧ a0 ≤ a2) := by
  unfold spec_l1In.t spec_l1In.g
  have hm := Za
  have hlim : lim = 1048576 := rfl
  refine Tm.ite (fun h1 => ?_) (fun h1 => ?_)
  · try simp only [bz0, bz1, bz2, bz3, bz4, bz5, bz6, bz7, bz8, bz9, bza] at h1
    exact Tm.ret (by first | (intro h; simp at h; omega) | (intro h; cases h))
  · try simp only [bz0, bz1, bz2, bz3, bz4, bz5, bz6, bz7, bz8, bz9, bza] at h1
    exact Tm.ret (by first | (intro h; simp at h; omega) | (intro h; cases h))
noncomputable def spec_l1In.v (a0 : Int) (a1 : Int) (a2 : Int) : Bool := (spec_l1In.t big a0 a1 a2).getD default
theorem spec_l1In.tv {a0 : Int} {a1 : Int} {a2 : Int} {k : Nat} (hk : Zar k) : spec_l1In.t k a0 a1 a2 = some (spec_l1In.v a0 a1 a2) := (spec_l1In.T).val hk
theorem spec_l1In.fv {a0 : Int} {a1 : Int} {a2 : Int} {k : Nat} (hk : Zar k) {β : Type} (K : Bool → Option β) : spec_l1In.f k a0 a1 a2 K = K (spec_l1In.v a0 a1 a2) := spec_l1In.f_of (spec_l1In.tv hk) K
theorem l1In_f {β : Type} {k : Nat} {a b c : Int} (K : Bool → Option β) : spec_l1In.f k a b c K = K (decide (b ≤ a) && decide (a ≤ c)) := by
  refine spec_l1In.f_of ?_ K
  unfold spec_l1In.t spec_l1In.g
  by_cases h : b ≤ a <;> simp [h]
def inB (a b c : Int) : Bool := decide (b ≤ a) && decide (a ≤ c)
theorem l1In_fv {β : Type} {k : Nat} {a b c : Int} (K : Bool → Option β) : spec_l1In.f k a b c K = K (inB a b c) := l1In_f K
theorem spec_NameOk.f_of {β : Type} {k : Nat} {a0 : ByteArray} {z0 : Bool} (h : spec_NameOk.t k a0 = some z0) (K : Bool → Option β) : spec_NameOk.f k a0 K = K z0 := by
  unfold spec_NameOk.f
  rw [h]
theorem spec_NameOk.tm {ι α : Type} {ok : ι → Prop} {ψ : α → Prop} {p : ι → Nat} {B : Nat} (hp : ∀ i, ok i → B ≤ p i) {a0 : ByteArray} {φ : Bool → Prop} (h : Tm (fun k => B ≤ k) (fun k => spec_NameOk.t k a0) φ) {G : ι → Bool → Option α} (hG : ∀ z0, φ z0 → Tm ok (fun ι0 => G ι0 z0) ψ) : Tm ok (fun ι0 => spec_NameOk.f (p ι0) a0 (G ι0)) ψ := by
  obtain ⟨z0, h1, h2⟩ := h
  exact (hG z0 h1).congr fun i0 hi0 => spec_NameOk.f_of (h2 (p i0) (hp i0 hi0)) _
theorem spec_NameOk.T {a0 : ByteArray} (ga0 : a0.size ≤ lim) : Tm Zar (fun k => spec_NameOk.t k a0) (fun _ => True) := by
  unfold spec_NameOk.t spec_NameOk.g
  have hm := Za
  have hlim : lim = 1048576 := rfl
  refine Tm.loop (okk := Zar) (p := fun k => k) (fun i hi => hi) (b := fun k => spec_NameOk.l0 k a0 (fun z0 => some z0)) (fun i => (((a0.size : Int)) - i).toNat) (fun i => 0 ≤ i ∧ i ≤ (a0.size : Int)) ?_ ?_ ?_
  · rintro i hI
    try simp only [] at hI ⊢
    have : big = 2 ^ 64 := rfl
    omega
  · ((try simp only []); omega)
  · rintro i hI L hL
    try simp only [] at hI
    obtain ⟨i0, i1⟩ := hI
    simp only [spec_NameOk.l0]
    refine Tm.ite (fun h1 => ?_) (fun h1 => ?_)
    · try simp only [bz0, bz1, bz2, bz3, bz4, bz5, bz6, bz7, bz8, bz9, bza] at h1
      refine Tm.atStr (by first | assumption | omega) (by first | assumption | omega) (fun b2 hb3 => ?_)
      try rw [ZC (x := (b2.toNat : Int)) (by omega) (by omega)]
      refine spec_l1In.tm (fun i hi => hi.1) (spec_l1In.T) (fun y5 hy4 => ?_)
      refine Tm.ite (fun h6 => ?_) (fun h6 => ?_)
      · try simp only [bz0, bz1, bz2, bz3, bz4, bz5, bz6, bz7, bz8, bz9, bza] at h6
        refine Tm.atStr (by first | assumption | omega) (by first | assumption | omega) (fun b7 hb8 => ?_)
        try rw [ZC (x := (b7.toNat : Int)) (by omega) (by omega)]
        refine spec_l1In.tm (fun i hi => hi.1) (spec_l1In.T) (fun y10 hy9 => ?_)
        refine Tm.ite (fun h11 => ?_) (fun h11 => ?_)
        · try simp only [bz0, bz1, bz2, bz3, bz4, bz5, bz6, bz7, bz8, bz9, bza] at h11
          refine Tm.atStr (by first | assumption | omega) (by first | assumption | omega) (fun b12 hb13 => ?_)
          refine Tm.ite (fun h14 => ?_) (fun h14 => ?_)
          · try simp only [bz0, bz1, bz2, bz3, bz4, bz5, bz6, bz7, bz8, bz9, bza] at h14
            exact Tm.ret (by trivial)
          · try simp only [bz0, bz1, bz2, bz3, bz4, bz5, bz6, bz7, bz8, bz9, bza] at h14
            try rw [ZC (x := i + 1) (by omega) (by omega)]
            exact hL _ (by (try simp only []); omega) (by (try simp only []); omega)
        · try simp only [bz0, bz1, bz2, bz3, bz4, bz5, bz6, bz7, bz8, bz9, bza] at h11
          have z15 := hy9 h11
          try rw [ZC (x := i + 1) (by omega) (by omega)]
          exact hL _ (by (try simp only []); omega) (by (try simp only []); omega)
      · try simp only [bz0, bz1, bz2, bz3, bz4, bz5, bz6, bz7, bz8, bz9, bza] at h6
        have z16 := hy4 h6
        try rw [ZC (x := i + 1) (by omega) (by omega)]
        exact hL _ (by (try simp only []); omega) (by (try simp only []); omega)
    · try simp only [bz0, bz1, bz2, bz3, bz4, bz5, bz6, bz7, bz8, bz9, bza] at h1
      refine spec_l1In.tm (fun i hi => hi.1) (spec_l1In.T) (fun y18 hy17 => ?_)
      refine Tm.ite (fun h19 => ?_) (fun h19 => ?_)
      · try simp only [bz0, bz1, bz2, bz3, bz4, bz5, bz6, bz7, bz8, bz9, bza] at h19
        have z20 := hy17 h19
        refine Tm.atStr (by first | assumption | omega) (by first | assumption | omega) (fun b21 hb22 => ?_)
        refine Tm.ite (fun h23 => ?_) (fun h23 => ?_)
        · try simp only [bz0, bz1, bz2, bz3, bz4, bz5, bz6, bz7, bz8, bz9, bza] at h23
          try rw [ZC (x := (a0.size : Int) - 1) (by omega) (by omega)]
          refine Tm.atStr (by first | assumption | omega) (by first | assumption | omega) (fun b24 hb25 => ?_)
          exact Tm.ret (by trivial)
        · try simp only [bz0, bz1, bz2, bz3, bz4, bz5, bz6, bz7, bz8, bz9, bza] at h23
          exact Tm.ret (by trivial)
      · try simp only [bz0, bz1, bz2, bz3, bz4, bz5, bz6, bz7, bz8, bz9, bza] at h19
        exact Tm.ret (by trivial)
noncomputable def spec_NameOk.v (a0 : ByteArray) : Bool := (spec_NameOk.t big a0).getD default
theorem spec_NameOk.tv {a0 : ByteArray} (ga0 : a0.size ≤ lim) {k : Nat} (hk : Zar k) : spec_NameOk.t k a0 = some (spec_NameOk.v a0) := (spec_NameOk.T ga0).val hk
theorem spec_NameOk.fv {a0 : ByteArray} (ga0 : a0.size ≤ lim) {k : Nat} (hk : Zar k) {β : Type} (K : Bool → Option β) : spec_NameOk.f k a0 K = K (spec_NameOk.v a0) := spec_NameOk.f_of (spec_NameOk.tv ga0 hk) K
noncomputable def namesB (xs : List (List D)) : Bool := (List.range xs.length).all fun i => spec_NameOk.v (gS xs (i : Int) 0) && (!decide ((i : Int) > 0) || strLt (gS xs ((i : Int) - 1) 0) (gS xs (i : Int) 0))
theorem spec_QueueOk.f_of {β : Type} {k : Nat} {a0_0 : List (List D)} {a0_1 : List (List D)} {a0_2 : List (List D)} {a0_3 : Int} {z0 : Bool} (h : spec_QueueOk.t k a0_0 a0_1 a0_2 a0_3 = some z0) (K : Bool → Option β) : spec_QueueOk.f k a0_0 a0_1 a0_2 a0_3 K = K z0 := by
  unfold spec_QueueOk.f
  rw [h]
theorem spec_QueueOk.tm {ι α : Type} {ok : ι → Prop} {ψ : α → Prop} {p : ι → Nat} {B : Nat} (hp : ∀ i, ok i → B ≤ p i) {a0_0 : List (List D)} {a0_1 : List (List D)} {a0_2 : List (List D)} {a0_3 : Int} {φ : Bool → Prop} (h : Tm (fun k => B ≤ k) (fun k => spec_QueueOk.t k a0_0 a0_1 a0_2 a0_3) φ) {G : ι → Bool → Option α} (hG : ∀ z0, φ z0 → Tm ok (fun ι0 => G ι0 z0) ψ) : Tm ok (fun ι0 => spec_QueueOk.f (p ι0) a0_0 a0_1 a0_2 a0_3 (G ι0)) ψ := by
  obtain ⟨z0, h1, h2⟩ := h
  exact (hG z0 h1).congr fun i0 hi0 => spec_QueueOk.f_of (h2 (p i0) (hp i0 hi0)) _
def Yb (xs : List (List D)) (s : ByteArray) : Int := ZbX (fun i => strEq (gS xs (i : Int) 0) s) xs.length
theorem l9Find_fv {B : Nat} {a : List (List D)} {s : ByteArray} (g : ∀ r ∈ a, Ya B r) (hl : a.length ≤ 2097152) {k : Nat} (hk : Zar k) {β : Type} (K : Int → Option β) : spec_l9Find.f k a s K = K (Yb a s) := spec_l9Find.f_of (by
  have hb : big = 2 ^ 64 := rfl
  unfold spec_l9Find.t spec_l9Find.g Yb
  rw [iter_find (n := a.length) (fun i => strEq (gS a (i : Int) 0) s) (r1 := fun i => some (i : Int)) (r2 := some (-1)) (by unfold Zar at hk; omega)]
  · unfold ZbX
    split <;> simp_all
  · intro L i hi
    simp (disch := omega) only [spec_l9Find.l0, dec_true (show (i : Int) < a.length by omega), cond_true, Ya.rows g, uncons_at, dStr_at, dInt_self, atEnd_at, ZC]
  · intro L
    simp [spec_l9Find.l0]) K
noncomputable def itemsB (all : List (List D)) (n0 : Int) : Bool := (List.range all.length).all fun i => spec_NameOk.v (gS all (i : Int) 0) && (Yb all (gS all (i : Int) 0) == (i : Int) && (inB (gI all (i : Int) 1) 0 1000064 && (inB (gI all (i : Int) 2) 0 1000 && (!decide ((i : Int) ≥ n0) || gI all (i : Int) 1 == 0))))
def beforeB (again : List (List D)) (i : Nat) : Bool := (List.range i).all fun j => !strEq (gS again (j : Int) 0) (gS again (i : Int) 0)
def againB (doing again : List (List D)) : Bool := (List.range again.length).all fun i => !decide (Yb doing (gS again (i : Int) 0) < 0) && beforeB again i
noncomputable def Yg (a b c : List (List D)) (n : Int) : Bool := itemsB (a ++ b) a.length && (againB b c && (decide ((a.length : Int) ≤ 60) && (decide ((b.length : Int) ≤ 60) && inB n 0 1000000)))
theorem Ye {a0_0 a0_1 a0_2 : List (List D)} {a0_3 : Int} (g0 : Zm Ya lim a0_0) (g1 : Zm Ya lim a0_1) (g2 : Zm RS lim a0_2) {k : Nat} (hk : Zar k) : spec_QueueOk.t k a0_0 a0_1 a0_2 a0_3 = some (Yg a0_0 a0_1 a0_2 a0_3) := by
  have hlim : lim = 1048576 := rfl
  have l0 := g0.1
  have l1 := g1.1
  have l2 := g2.1
  have hm : Z6 = 2 ^ 36 := rfl
  have hb : big = 2 ^ 64 := rfl
  have hkb : 2 ^ 64 ≤ k := by unfold Zar at hk; omega
  have ga := rows_app g0.2 g1.2
  have la : (a0_0 ++ a0_1).length ≤ 2097152 := by rw [List.length_append]; omega
  unfold spec_QueueOk.t spec_QueueOk.g
  rw [guard_at (show Zcm 3 a0_0 from Ya.flat g0.2), guard_at (by simp only [List.length_nil, map_len]; omega), guard_at (show Zcm 3 a0_1 from Ya.flat g1.2), guard_at (by simp only [List.nil_append, map_len]; omega)]
  simp only [List.nil_append]
  rw [← List.map_append]
  have inner : ∀ (L1 : (Int × (List (List D)) × (List (List D)) × (List (List D)) × Int) → Option Bool) (i : Nat), i < a0_2.length → Z4 (spec_QueueOk.l2 k (i : Int) a0_0 a0_1 a0_2 a0_3 L1 fun z0 => some z0) k 0 = bif beforeB a0_2 i then L1 ((i : Int) + 1, a0_0, a0_1, a0_2, a0_3) else some false := by
    intro L1 i hi
    refine iter_all0 (n := i) _ (by omega) (fun L j hj => ?_) (fun L => ?_)
    · simp (disch := omega) only [spec_QueueOk.l2, dec_true (show (j : Int) < i by omega), cond_true, RS.row g2, uncons_at, dStr_at, atEnd_at, ZC]
      cases strEq (gS a0_2 (j : Int) 0) (gS a0_2 (i : Int) 0) <;> rfl
    · simp (disch := omega) only [spec_QueueOk.l2, dec_false (show ¬ (i : Int) < i by omega), cond_false, ZC]
  have mid : Z4 (spec_QueueOk.l1 k fun z0 => some z0) k (0, a0_0, a0_1, a0_2, a0_3) = some (againB a0_1 a0_2 && (decide ((a0_0.length : Int) ≤ 60) && (decide ((a0_1.length : Int) ≤ 60) && inB a0_3 0 1000000))) := by
    refine (iter_allT (fun i => ((i : Int), a0_0, a0_1, a0_2, a0_3)) (n := a0_2.length) (fun i => !decide (Yb a0_1 (gS a0_2 (i : Int) 0) < 0) && beforeB a0_2 i) (r1 := some false) (r2 := some (decide ((a0_0.length : Int) ≤ 60) && (decide ((a0_1.length : Int) ≤ 60) && inB a0_3 0 1000000))) (by omega) (fun L i hi => ?_) (fun L => ?_)).trans ?_
    · simp (disch := omega) only [spec_QueueOk.l1, dec_true (show (i : Int) < a0_2.length by omega), cond_true, RS.row g2, uncons_at, dStr_at, atEnd_at, l9Find_fv g1.2 (by omega) hk]
      rw [inner L i hi]
      cases decide (Yb a0_1 (gS a0_2 (i : Int) 0) < 0) <;> rfl
    · simp only [spec_QueueOk.l1, dec_false (show ¬ (a0_2.length : Int) < a0_2.length by omega), cond_false, l1In_fv]
      cases decide ((a0_0.length : Int) ≤ 60) <;> cases decide ((a0_1.length : Int) ≤ 60) <;> rfl
    · unfold againB
      generalize List.all _ _ = x
      cases x <;> rfl
  rw [iter_all0 (n := (a0_0 ++ a0_1).length) (fun i => spec_NameOk.v (gS (a0_0 ++ a0_1) (i : Int) 0) && (Yb (a0_0 ++ a0_1) (gS (a0_0 ++ a0_1) (i : Int) 0) == (i : Int) && (inB (gI (a0_0 ++ a0_1) (i : Int) 1) 0 1000064 && (inB (gI (a0_0 ++ a0_1) (i : Int) 2) 0 1000 && (!decide ((i : Int) ≥ a0_0.length) || gI (a0_0 ++ a0_1) (i : Int) 1 == 0))))) (r1 := some false) (r2 := some (againB a0_1 a0_2 && (decide ((a0_0.length : Int) ≤ 60) && (decide ((a0_1.length : Int) ≤ 60) && inB a0_3 0 1000000)))) (by omega)]
  · unfold Yg itemsB
    generalize List.all _ _ = x
    cases x <;> rfl
  · intro L i hi
    have hg := Ya.gets ga (v := (i : Int)) (by omega) (by omega)
    simp (disch := omega) only [spec_QueueOk.l0, map_len, dec_true (show (i : Int) < (a0_0 ++ a0_1).length by omega), cond_true, guard_at (show (0 : Int) ≤ i ∧ (i : Int) < ((a0_0 ++ a0_1).length : Int) by omega), atNat_up, imm_rows]
    rw [hg.1]
    simp (disch := omega) only [List.map_cons, List.map_nil, List.drop_zero, uncons_at, cD_at, dStr_at, dInt_self, spec_NameOk.fv hg.2.1 hk, l9Find_fv ga la hk, l1In_fv, ZC]
    cases spec_NameOk.v (gS (a0_0 ++ a0_1) (i : Int) 0)
    · rfl
    · cases h1 : (Yb (a0_0 ++ a0_1) (gS (a0_0 ++ a0_1) (i : Int) 0) == (i : Int)) <;> cases inB (gI (a0_0 ++ a0_1) (i : Int) 1) 0 1000064 <;> cases inB (gI (a0_0 ++ a0_1) (i : Int) 2) 0 1000 <;> cases decide ((i : Int) ≥ a0_0.length) <;> cases h2 : gI (a0_0 ++ a0_1) (i : Int) 1 == 0 <;> simp [bne, h1, h2]
  · intro L
    simp only [spec_QueueOk.l0, map_len, dec_false (show ¬ ((a0_0 ++ a0_1).length : Int) < (a0_0 ++ a0_1).length by omega), cond_false]
    exact mid
theorem spec_QueueOk.T {a0_0 a0_1 a0_2 : List (List D)} {a0_3 : Int} (g0 : Zm Ya lim a0_0) (g1 : Zm Ya lim a0_1) (g2 : Zm RS lim a0_2) : Tm Zar (fun k => spec_QueueOk.t k a0_0 a0_1 a0_2 a0_3) (fun _ => True) := Tm.of (fun k hk => Ye g0 g1 g2 hk) trivial
theorem spec_l2Among.f_of {β : Type} {k : Nat} {a0 : List (List D)} {a1 : ByteArray} {z0 : Bool} (h : spec_l2Among.t k a0 a1 = some z0) (K : Bool → Option β) : spec_l2Among.f k a0 a1 K = K z0 := by
  unfold spec_l2Among.f
  rw [h]
theorem spec_l2Among.tm {ι α : Type} {ok : ι → Prop} {ψ : α → Prop} {p : ι → Nat} {B : Nat} (hp : ∀ i, ok i → B ≤ p i) {a0 : List (List D)} {a1 : ByteArray} {φ : Bool → Prop} (h : Tm (fun k => B ≤ k) (fun k => spec_l2Among.t k a0 a1) φ) {G : ι → Bool → Option α} (hG : ∀ z0, φ z0 → Tm ok (fun ι0 => G ι0 z0) ψ) : Tm ok (fun ι0 => spec_l2Among.f (p ι0) a0 a1 (G ι0)) ψ := by
  obtain ⟨z0, h1, h2⟩ := h
  exact (hG z0 h1).congr fun i0 hi0 => spec_l2Among.f_of (h2 (p i0) (hp i0 hi0)) _
theorem spec_l2Among.T {a0 : List (List D)} {a1 : ByteArray} (ga0 : Zm RS lim a0) (ga1 : a1.size ≤ lim) : Tm Zar (fun k => spec_l2Among.t k a0 a1) (fun _ => True) := by
  unfold spec_l2Among.t spec_l2Among.g
  have hm := Za
  have hlim : lim = 1048576 := rfl
  have la0 := ga0.1
  refine Tm.loop (okk := Zar) (p := fun k => k) (fun i hi => hi) (b := fun k => spec_l2Among.l0 k a0 a1 (fun z0 => some z0)) (fun i => (((a0.length : Int)) - i).toNat) (fun i => 0 ≤ i ∧ i ≤ (a0.length : Int)) ?_ ?_ ?_
  · rintro i hI
    try simp only [] at hI ⊢
    have : big = 2 ^ 64 := rfl
    omega
  · ((try simp only []); omega)
  · rintro i hI L hL
    try simp only [] at hI
    obtain ⟨i0, i1⟩ := hI
    simp only [spec_l2Among.l0]
    refine Tm.ite (fun h1 => ?_) (fun h1 => ?_)
    · try simp only [bz0, bz1, bz2, bz3, bz4, bz5, bz6, bz7, bz8, bz9, bza] at h1
      refine Tm.atRow (by first | assumption | omega) (by first | assumption | omega) (fun x2 hx3 hm4 => ?_)
      obtain ⟨c5, rfl, g6, _⟩ := (ga0.2 x2 hm4).open
      refine Tm.uncons ?_
      refine Tm.dStr ?_
      refine Tm.atEnd ?_
      refine Tm.ite (fun h7 => ?_) (fun h7 => ?_)
      · try simp only [bz0, bz1, bz2, bz3, bz4, bz5, bz6, bz7, bz8, bz9, bza] at h7
        exact Tm.ret (by trivial)
      · try simp only [bz0, bz1, bz2, bz3, bz4, bz5, bz6, bz7, bz8, bz9, bza] at h7
        try rw [ZC (x := i + 1) (by omega) (by omega)]
        exact hL _ (by (try simp only []); omega) (by (try simp only []); omega)
    · try simp only [bz0, bz1, bz2, bz3, bz4, bz5, bz6, bz7, bz8, bz9, bza] at h1
      exact Tm.ret (by trivial)
noncomputable def spec_l2Among.v (a0 : List (List D)) (a1 : ByteArray) : Bool := (spec_l2Among.t big a0 a1).getD default
theorem spec_l2Among.tv {a0 : List (List D)} {a1 : ByteArray} (ga0 : Zm RS lim a0) (ga1 : a1.size ≤ lim) {k : Nat} (hk : Zar k) : spec_l2Among.t k a0 a1 = some (spec_l2Among.v a0 a1) := (spec_l2Among.T ga0 ga1).val hk
theorem spec_l2Among.fv {a0 : List (List D)} {a1 : ByteArray} (ga0 : Zm RS lim a0) (ga1 : a1.size ≤ lim) {k : Nat} (hk : Zar k) {β : Type} (K : Bool → Option β) : spec_l2Among.f k a0 a1 K = K (spec_l2Among.v a0 a1) := spec_l2Among.f_of (spec_l2Among.tv ga0 ga1 hk) K
theorem spec_l9Delay.f_of {β : Type} {k : Nat} {a0 : Int} {z0 : Int} (h : spec_l9Delay.t k a0 = some z0) (K : Int → Option β) : spec_l9Delay.f k a0 K = K z0 := by
  unfold spec_l9Delay.f
  rw [h]
theorem spec_l9Delay.tm {ι α : Type} {ok : ι → Prop} {ψ : α → Prop} {p : ι → Nat} {B : Nat} (hp : ∀ i, ok i → B ≤ p i) {a0 : Int} {φ : Int → Prop} (h : Tm (fun k => B ≤ k) (fun k => spec_l9Delay.t k a0) φ) {G : ι → Int → Option α} (hG : ∀ z0, φ z0 → Tm ok (fun ι0 => G ι0 z0) ψ) : Tm ok (fun ι0 => spec_l9Delay.f (p ι0) a0 (G ι0)) ψ := by
  obtain ⟨z0, h1, h2⟩ := h
  exact (hG z0 h1).congr fun i0 hi0 => spec_l9Delay.f_of (h2 (p i0) (hp i0 hi0)) _
def Yh (f : Int) : Int := (2 : Int) ^ (min (f - 1).toNat 6)
theorem l9Delay_t {f : Int} (h0 : 0 ≤ f) (h1 : f ≤ 1000) {k : Nat} (hk : Zar k) : spec_l9Delay.t k f = some (Yh f) := by
  have hb : big = 2 ^ 64 := rfl
  unfold spec_l9Delay.t spec_l9Delay.g Yh
  obtain ⟨n, hn⟩ : ∃ n, n = min (f - 1).toNat 6 := ⟨_, rfl⟩
  rw [← hn]
  refine iter_seq (f := fun j => ((2 : Int) ^ j, (j : Int) + 1)) (n := n) (r := some ((2 : Int) ^ n)) (by unfold Zar at hk; omega) (fun L j hj => ?_) (fun L => ?_)
  · rcases (by omega : j = 0 ∨ j = 1 ∨ j = 2 ∨ j = 3 ∨ j = 4 ∨ j = 5) with rfl | rfl | rfl | rfl | rfl | rfl <;> (simp only [spec_l9Delay.l0]; rw [dec_true (by omega), dec_true (by decide), ZC (by decide) (by decide), ZC (by decide) (by decide)]; rfl)
  · rcases (by omega : n = 0 ∨ n = 1 ∨ n = 2 ∨ n = 3 ∨ n = 4 ∨ n = 5 ∨ n = 6) with rfl | rfl | rfl | rfl | rfl | rfl | rfl
    iterate 6 (simp only [spec_l9Delay.l0]; rw [dec_false (by omega)]; rfl)
    simp only [spec_l9Delay.l0]
    rw [show decide ((2 : Int) ^ 6 < 64) = false from rfl]
    cases decide (((6 : Nat) : Int) + 1 < f) <;> rfl
theorem Yl (f : Int) : 1 ≤ Yh f ∧ Yh f ≤ 64 := by
  unfold Yh
  obtain ⟨n, hn⟩ : ∃ n, n = min (f - 1).toNat 6 := ⟨_, rfl⟩
  rw [← hn]
  rcases (by omega : n = 0 ∨ n = 1 ∨ n = 2 ∨ n = 3 ∨ n = 4 ∨ n = 5 ∨ n = 6) with rfl | rfl | rfl | rfl | rfl | rfl | rfl <;> decide
theorem l9Delay_fv {f : Int} (h0 : 0 ≤ f) (h1 : f ≤ 1000) {k : Nat} (hk : Zar k) {β : Type} (K : Int → Option β) : spec_l9Delay.f k f K = K (Yh f) := spec_l9Delay.f_of (l9Delay_t h0 h1 hk) K
theorem spec_Done.f_of {β : Type} {k : Nat} {a0_0 : List (List D)} {a0_1 : List (List D)} {a0_2 : List (List D)} {a0_3 : Int} {a1 : ByteArray} {a2 : Bool} {z0 : List (List C)} {z1 : List (List C)} {z2 : List (List C)} {z3 : Int} {z4 : Bool} (h : spec_Done.t k a0_0 a0_1 a0_2 a0_3 a1 a2 = some (z0, z1, z2, z3, z4)) (K : (List (List C)) → (List (List C)) → (List (List C)) → Int → Bool → Option β) : spec_Done.f k a0_0 a0_1 a0_2 a0_3 a1 a2 K = K z0 z1 z2 z3 z4 := by
  unfold spec_Done.f
  rw [h]
theorem spec_Done.tm {ι α : Type} {ok : ι → Prop} {ψ : α → Prop} {p : ι → Nat} {B : Nat} (hp : ∀ i, ok i → B ≤ p i) {a0_0 : List (List D)} {a0_1 : List (List D)} {a0_2 : List (List D)} {a0_3 : Int} {a1 : ByteArray} {a2 : Bool} {φ : (List (List C)) × (List (List C)) × (List (List C)) × Int × Bool → Prop} (h : Tm (fun k => B ≤ k) (fun k => spec_Done.t k a0_0 a0_1 a0_2 a0_3 a1 a2) φ) {G : ι → (List (List C)) → (List (List C)) → (List (List C)) → Int → Bool → Option α} (hG : ∀ z0 z1 z2 z3 z4, φ (z0, z1, z2, z3, z4) → Tm ok (fun ι0 => G ι0 z0 z1 z2 z3 z4) ψ) : Tm ok (fun ι0 => spec_Done.f (p ι0) a0_0 a0_1 a0_2 a0_3 a1 a2 (G ι0)) ψ := by
  obtain ⟨⟨z0, z1, z2, z3, z4⟩, h1, h2⟩ := h
  exact (hG z0 z1 z2 z3 z4 h1).congr fun i0 hi0 => spec_Done.f_of (h2 (p i0) (hp i0 hi0)) _
theorem slices_Clone_impl_Item.f_of {β : Type} {k : Nat} {a0 : List (List D)} {z0 : List (List C)} (h : slices_Clone_impl_Item.t k a0 = some z0) (K : (List (List C)) → Option β) : slices_Clone_impl_Item.f k a0 K = K z0 := by
  unfold slices_Clone_impl_Item.f
  rw [h]
theorem slices_Clone_impl_Item.tm {ι α : Type} {ok : ι → Prop} {ψ : α → Prop} {p : ι → Nat} {B : Nat} (hp : ∀ i, ok i → B ≤ p i) {a0 : List (List D)} {φ : (List (List C)) → Prop} (h : Tm (fun k => B ≤ k) (fun k => slices_Clone_impl_Item.t k a0) φ) {G : ι → (List (List C)) → Option α} (hG : ∀ z0, φ z0 → Tm ok (fun ι0 => G ι0 z0) ψ) : Tm ok (fun ι0 => slices_Clone_impl_Item.f (p ι0) a0 (G ι0)) ψ := by
  obtain ⟨z0, h1, h2⟩ := h
  exact (hG z0 h1).congr fun i0 hi0 => slices_Clone_impl_Item.f_of (h2 (p i0) (hp i0 hi0)) _
theorem clone_item_fv {a : List (List D)} (g : Zm Ya lim a) {k : Nat} {β : Type} (K : List (List C) → Option β) : slices_Clone_impl_Item.f k a K = K (a.map (·.map C.d)) := slices_Clone_impl_Item.f_of (by
  have hl := g.1
  have hlim : lim = 1048576 := rfl
  have hm : Z6 = 2 ^ 36 := rfl
  unfold slices_Clone_impl_Item.t slices_Clone_impl_Item.g
  rw [guard_at (Ya.flat g.2), guard_at (by simp only [List.length_nil, map_len]; omega), List.nil_append]
  exact nilSl_same) K
theorem slices_Clone_string.f_of {β : Type} {k : Nat} {a0 : List (List D)} {z0 : List (List C)} (h : slices_Clone_string.t k a0 = some z0) (K : (List (List C)) → Option β) : slices_Clone_string.f k a0 K = K z0 := by
  unfold slices_Clone_string.f
  rw [h]
theorem slices_Clone_string.tm {ι α : Type} {ok : ι → Prop} {ψ : α → Prop} {p : ι → Nat} {B : Nat} (hp : ∀ i, ok i → B ≤ p i) {a0 : List (List D)} {φ : (List (List C)) → Prop} (h : Tm (fun k => B ≤ k) (fun k => slices_Clone_string.t k a0) φ) {G : ι → (List (List C)) → Option α} (hG : ∀ z0, φ z0 → Tm ok (fun ι0 => G ι0 z0) ψ) : Tm ok (fun ι0 => slices_Clone_string.f (p ι0) a0 (G ι0)) ψ := by
  obtain ⟨z0, h1, h2⟩ := h
  exact (hG z0 h1).congr fun i0 hi0 => slices_Clone_string.f_of (h2 (p i0) (hp i0 hi0)) _
theorem clone_string_fv {a : List (List D)} (g : Zm RS lim a) {k : Nat} {β : Type} (K : List (List C) → Option β) : slices_Clone_string.f k a K = K (a.map (·.map C.d)) := slices_Clone_string.f_of (by
  have hl := g.1
  have hlim : lim = 1048576 := rfl
  have hm : Z6 = 2 ^ 36 := rfl
  unfold slices_Clone_string.t slices_Clone_string.g
  rw [guard_at (RS.flat g.2), guard_at (by simp only [List.length_nil, map_len]; omega), List.nil_append]
  exact nilSl_same) K
theorem impl_copyQueue.f_of {β : Type} {k : Nat} {a0_0 : List (List D)} {a0_1 : List (List D)} {a0_2 : List (List D)} {a0_3 : Int} {z0 : List (List C)} {z1 : List (List C)} {z2 : List (List C)} {z3 : Int} (h : impl_copyQueue.t k a0_0 a0_1 a0_2 a0_3 = some (z0, z1, z2, z3)) (K : (List (List C)) → (List (List C)) → (List (List C)) → Int → Option β) : impl_copyQueue.f k a0_0 a0_1 a0_2 a0_3 K = K z0 z1 z2 z3 := by
  unfold impl_copyQueue.f
  rw [h]
theorem impl_copyQueue.tm {ι α : Type} {ok : ι → Prop} {ψ : α → Prop} {p : ι → Nat} {B : Nat} (hp : ∀ i, ok i → B ≤ p i) {a0_0 : List (List D)} {a0_1 : List (List D)} {a0_2 : List (List D)} {a0_3 : Int} {φ : (List (List C)) × (List (List C)) × (List (List C)) × Int → Prop} (h : Tm (fun k => B ≤ k) (fun k => impl_copyQueue.t k a0_0 a0_1 a0_2 a0_3) φ) {G : ι → (List (List C)) → (List (List C)) → (List (List C)) → Int → Option α} (hG : ∀ z0 z1 z2 z3, φ (z0, z1, z2, z3) → Tm ok (fun ι0 => G ι0 z0 z1 z2 z3) ψ) : Tm ok (fun ι0 => impl_copyQueue.f (p ι0) a0_0 a0_1 a0_2 a0_3 (G ι0)) ψ := by
  obtain ⟨⟨z0, z1, z2, z3⟩, h1, h2⟩ := h
  exact (hG z0 z1 z2 z3 h1).congr fun i0 hi0 => impl_copyQueue.f_of (h2 (p i0) (hp i0 hi0)) _
theorem l9Copy_fv {a0 a1 a2 : List (List D)} {a3 : Int} (g0 : Zm Ya lim a0) (g1 : Zm Ya lim a1) (g2 : Zm RS lim a2) {k : Nat} {β : Type} (K : List (List C) → List (List C) → List (List C) → Int → Option β) : spec_l9Copy.f k a0 a1 a2 a3 K = K (a0.map (·.map C.d)) (a1.map (·.map C.d)) (a2.map (·.map C.d)) a3 := spec_l9Copy.f_of (by
  have l0 := g0.1
  have l1 := g1.1
  have l2 := g2.1
  have hlim : lim = 1048576 := rfl
  have hm : Z6 = 2 ^ 36 := rfl
  unfold spec_l9Copy.t spec_l9Copy.g
  rw [guard_at (Ya.flat g0.2), guard_at (by simp only [List.length_nil, map_len]; omega), guard_at (Ya.flat g1.2), guard_at (by simp only [List.length_nil, map_len]; omega), guard_at (RS.flat g2.2), guard_at (by simp only [List.length_nil, map_len]; omega)]
  simp only [List.nil_append]) K
theorem copyQueue_fv {a0 a1 a2 : List (List D)} {a3 : Int} (g0 : Zm Ya lim a0) (g1 : Zm Ya lim a1) (g2 : Zm RS lim a2) {k : Nat} {β : Type} (K : List (List C) → List (List C) → List (List C) → Int → Option β) : impl_copyQueue.f k a0 a1 a2 a3 K = K (a0.map (·.map C.d)) (a1.map (·.map C.d)) (a2.map (·.map C.d)) a3 := impl_copyQueue.f_of (by
  unfold impl_copyQueue.t impl_copyQueue.g
  rw [clone_item_fv g0, clone_item_fv g1, clone_string_fv g2]) K
theorem impl_itemAt_1.f_of {β : Type} {k : Nat} {a0_0 : ByteArray} {a0_1 : Int} {a0_2 : Int} {f0_0 : ByteArray} {z0 : Bool} (h : impl_itemAt_1.t k a0_0 a0_1 a0_2 f0_0 = some z0) (K : Bool → Option β) : impl_itemAt_1.f k a0_0 a0_1 a0_2 f0_0 K = K z0 := by
  unfold impl_itemAt_1.f
  rw [h]
theorem impl_itemAt_1.tm {ι α : Type} {ok : ι → Prop} {ψ : α → Prop} {p : ι → Nat} {B : Nat} (hp : ∀ i, ok i → B ≤ p i) {a0_0 : ByteArray} {a0_1 : Int} {a0_2 : Int} {f0_0 : ByteArray} {φ : Bool → Prop} (h : Tm (fun k => B ≤ k) (fun k => impl_itemAt_1.t k a0_0 a0_1 a0_2 f0_0) φ) {G : ι → Bool → Option α} (hG : ∀ z0, φ z0 → Tm ok (fun ι0 => G ι0 z0) ψ) : Tm ok (fun ι0 => impl_itemAt_1.f (p ι0) a0_0 a0_1 a0_2 f0_0 (G ι0)) ψ := by
  obtain ⟨z0, h1, h2⟩ := h
  exact (hG z0 h1).congr fun i0 hi0 => impl_itemAt_1.f_of (h2 (p i0) (hp i0 hi0)) _
theorem slices_IndexFunc_impl_Item__impl_itemAt_1.f_of {β : Type} {k : Nat} {a0 : List (List D)} {a1_0_0 : ByteArray} {z0 : Int} (h : slices_IndexFunc_impl_Item__impl_itemAt_1.t k a0 a1_0_0 = some z0) (K : Int → Option β) : slices_IndexFunc_impl_Item__impl_itemAt_1.f k a0 a1_0_0 K = K z0 := by
  unfold slices_IndexFunc_impl_Item__impl_itemAt_1.f
  rw [h]
theorem slices_IndexFunc_impl_Item__impl_itemAt_1.tm {ι α : Type} {ok : ι → Prop} {ψ : α → Prop} {p : ι → Nat} {B : Nat} (hp : ∀ i, ok i → B ≤ p i) {a0 : List (List D)} {a1_0_0 : ByteArray} {φ : Int → Prop} (h : Tm (fun k => B ≤ k) (fun k => slices_IndexFunc_impl_Item__impl_itemAt_1.t k a0 a1_0_0) φ) {G : ι → Int → Option α} (hG : ∀ z0, φ z0 → Tm ok (fun ι0 => G ι0 z0) ψ) : Tm ok (fun ι0 => slices_IndexFunc_impl_Item__impl_itemAt_1.f (p ι0) a0 a1_0_0 (G ι0)) ψ := by
  obtain ⟨z0, h1, h2⟩ := h
  exact (hG z0 h1).congr fun i0 hi0 => slices_IndexFunc_impl_Item__impl_itemAt_1.f_of (h2 (p i0) (hp i0 hi0)) _
theorem impl_itemAt.f_of {β : Type} {k : Nat} {a0 : List (List D)} {a1 : ByteArray} {z0 : Int} (h : impl_itemAt.t k a0 a1 = some z0) (K : Int → Option β) : impl_itemAt.f k a0 a1 K = K z0 := by
  unfold impl_itemAt.f
  rw [h]
theorem impl_itemAt.tm {ι α : Type} {ok : ι → Prop} {ψ : α → Prop} {p : ι → Nat} {B : Nat} (hp : ∀ i, ok i → B ≤ p i) {a0 : List (List D)} {a1 : ByteArray} {φ : Int → Prop} (h : Tm (fun k => B ≤ k) (fun k => impl_itemAt.t k a0 a1) φ) {G : ι → Int → Option α} (hG : ∀ z0, φ z0 → Tm ok (fun ι0 => G ι0 z0) ψ) : Tm ok (fun ι0 => impl_itemAt.f (p ι0) a0 a1 (G ι0)) ψ := by
  obtain ⟨z0, h1, h2⟩ := h
  exact (hG z0 h1).congr fun i0 hi0 => impl_itemAt.f_of (h2 (p i0) (hp i0 hi0)) _
theorem impl_within.f_of {β : Type} {k : Nat} {a0 : Int} {a1 : Int} {a2 : Int} {z0 : Bool} (h : impl_within.t k a0 a1 a2 = some z0) (K : Bool → Option β) : impl_within.f k a0 a1 a2 K = K z0 := by
  unfold impl_within.f
  rw [h]
theorem impl_within.tm {ι α : Type} {ok : ι → Prop} {ψ : α → Prop} {p : ι → Nat} {B : Nat} (hp : ∀ i, ok i → B ≤ p i) {a0 : Int} {a1 : Int} {a2 : Int} {φ : Bool → Prop} (h : Tm (fun k => B ≤ k) (fun k => impl_within.t k a0 a1 a2) φ) {G : ι → Bool → Option α} (hG : ∀ z0, φ z0 → Tm ok (fun ι0 => G ι0 z0) ψ) : Tm ok (fun ι0 => impl_within.f (p ι0) a0 a1 a2 (G ι0)) ψ := by
  obtain ⟨z0, h1, h2⟩ := h
  exact (hG z0 h1).congr fun i0 hi0 => impl_within.f_of (h2 (p i0) (hp i0 hi0)) _
theorem slices_Grow_impl_Item_nil.f_of {β : Type} {k : Nat} {a1 : Int} {z0 : List (List C)} (h : slices_Grow_impl_Item_nil.t k a1 = some z0) (K : (List (List C)) → Option β) : slices_Grow_impl_Item_nil.f k a1 K = K z0 := by
  unfold slices_Grow_impl_Item_nil.f
  rw [h]
theorem slices_Grow_impl_Item_nil.tm {ι α : Type} {ok : ι → Prop} {ψ : α → Prop} {p : ι → Nat} {B : Nat} (hp : ∀ i, ok i → B ≤ p i) {a1 : Int} {φ : (List (List C)) → Prop} (h : Tm (fun k => B ≤ k) (fun k => slices_Grow_impl_Item_nil.t k a1) φ) {G : ι → (List (List C)) → Option α} (hG : ∀ z0, φ z0 → Tm ok (fun ι0 => G ι0 z0) ψ) : Tm ok (fun ι0 => slices_Grow_impl_Item_nil.f (p ι0) a1 (G ι0)) ψ := by
  obtain ⟨z0, h1, h2⟩ := h
  exact (hG z0 h1).congr fun i0 hi0 => slices_Grow_impl_Item_nil.f_of (h2 (p i0) (hp i0 hi0)) _
theorem slices_Concat_impl_Item.f_of {β : Type} {k : Nat} {a0 : List (List D)} {z0 : List (List C)} (h : slices_Concat_impl_Item.t k a0 = some z0) (K : (List (List C)) → Option β) : slices_Concat_impl_Item.f k a0 K = K z0 := by
  unfold slices_Concat_impl_Item.f
  rw [h]
theorem slices_Concat_impl_Item.tm {ι α : Type} {ok : ι → Prop} {ψ : α → Prop} {p : ι → Nat} {B : Nat} (hp : ∀ i, ok i → B ≤ p i) {a0 : List (List D)} {φ : (List (List C)) → Prop} (h : Tm (fun k => B ≤ k) (fun k => slices_Concat_impl_Item.t k a0) φ) {G : ι → (List (List C)) → Option α} (hG : ∀ z0, φ z0 → Tm ok (fun ι0 => G ι0 z0) ψ) : Tm ok (fun ι0 => slices_Concat_impl_Item.f (p ι0) a0 (G ι0)) ψ := by
  obtain ⟨z0, h1, h2⟩ := h
  exact (hG z0 h1).congr fun i0 hi0 => slices_Concat_impl_Item.f_of (h2 (p i0) (hp i0 hi0)) _
def Yc (B : Nat) (r : List D) : Prop := ∃ (c0 : List (List D)), r = [.sl c0] ∧ Zm Ya B c0 ∧ True
theorem Yc.open {B : Nat} {r : List D} (h : Yc B r) : ∃ (c0 : List (List D)), r = [.sl c0] ∧ Zm Ya B c0 ∧ True := h
theorem Yc.mono {B B' : Nat} (hb : B ≤ B') {r : List D} (h : Yc B r) : Yc B' r := by
  obtain ⟨c0, rfl, k0, _⟩ := h
  exact ⟨_, rfl, ⟨Nat.le_trans k0.1 hb, fun r hr => (k0.2 r hr).mono hb⟩, trivial⟩
theorem Yc.wide {xs : List (List D)} (h : Zm Yc lim xs) : Zm Yc 2097152 xs := ⟨Nat.le_trans h.1 (by decide), fun r hr => (h.2 r hr).mono (by decide)⟩
theorem Yc.len {B : Nat} {r : List D} (h : Yc B r) : r.length = 1 := by
  obtain ⟨c0, rfl, _⟩ := h.open
  rfl
theorem Yc.gets {B : Nat} {xs : List (List D)} (h : ∀ r ∈ xs, Yc B r) {v : Int} (h0 : 0 ≤ v) (h1 : v < xs.length) : gR xs v = [.sl (gL xs v 0)] ∧ Zm Ya B (gL xs v 0) ∧ True := by
  obtain ⟨c0, e, k0, _⟩ := (h (gR xs v) (gR_mem h0 h1)).open
  unfold gL
  rw [e]
  exact ⟨rfl, k0, trivial⟩
theorem Yc.rows {B : Nat} {xs : List (List D)} (h : ∀ r ∈ xs, Yc B r) {v : Int} (h0 : 0 ≤ v) (h1 : v < xs.length) {β : Type} (F : List D → Option β) : ZX xs v F = F [.sl (gL xs v 0)] := by
  rw [← (Yc.gets h h0 h1).1]
  exact ZbB h0 h1 F
theorem Yc.get {B : Nat} {xs : List (List D)} (h : Zm Yc B xs) {v : Int} (h0 : 0 ≤ v) (h1 : v < xs.length) : gR xs v = [.sl (gL xs v 0)] ∧ Zm Ya B (gL xs v 0) ∧ True := Yc.gets h.2 h0 h1
theorem Yc.row {B : Nat} {xs : List (List D)} (h : Zm Yc B xs) {v : Int} (h0 : 0 ≤ v) (h1 : v < xs.length) {β : Type} (F : List D → Option β) : ZX xs v F = F [.sl (gL xs v 0)] := Yc.rows h.2 h0 h1 F
theorem itemAt_fv {B : Nat} {a : List (List D)} {s : ByteArray} (g : ∀ r ∈ a, Ya B r) (hl : a.length ≤ 2097152) {k : Nat} (hk : Zar k) {β : Type} (K : Int → Option β) : impl_itemAt.f k a s K = K (Yb a s) := impl_itemAt.f_of (by
  have hb : big = 2 ^ 64 := rfl
  unfold impl_itemAt.t impl_itemAt.g
  rw [slices_IndexFunc_impl_Item__impl_itemAt_1.f_of (z0 := Yb a s)]
  unfold slices_IndexFunc_impl_Item__impl_itemAt_1.t slices_IndexFunc_impl_Item__impl_itemAt_1.g
  refine iter_findI (n := a.length) _ some (by unfold Zar at hk; omega) (fun L i hi => ?_) (fun L => by simp [slices_IndexFunc_impl_Item__impl_itemAt_1.l0])
  have hs : ∀ {x : ByteArray} {y z : Int} {β : Type} (K : Bool → Option β), impl_itemAt_1.f k x y z s K = K (strEq x s) := fun K => impl_itemAt_1.f_of (by unfold impl_itemAt_1.t impl_itemAt_1.g; rfl) K
  simp (disch := omega) only [slices_IndexFunc_impl_Item__impl_itemAt_1.l0, dec_true (show (i : Int) < a.length by omega), cond_true, Ya.rows g, uncons_at, dStr_at, dInt_self, atEnd_at, hs, ZC]) K
theorem grow_nil_fv {n : Int} (h0 : 0 ≤ n) (h1 : n ≤ 2097152) {k : Nat} {β : Type} (K : List (List C) → Option β) : slices_Grow_impl_Item_nil.f k n K = K [] := slices_Grow_impl_Item_nil.f_of (by
  unfold slices_Grow_impl_Item_nil.t slices_Grow_impl_Item_nil.g
  have hm : Z6 = 2 ^ 36 := rfl
  have e1 : IntKind.wrap .i64 (0 - 0) = 0 := by rw [ZC] <;> omega
  have e2 : IntKind.wrap .i64 (n - 0) = n := by rw [ZC] <;> omega
  rw [e1, e2, dec_false (by omega), cond_false]
  by_cases hn : n > 0
  · rw [dec_true hn, cond_true, guard_at (by omega), guard_at (by omega), guard_at (by rw [List.length_replicate]; omega), guard_at (by rw [List.length_replicate]; omega)]
    rfl
  · rw [dec_false hn, cond_false]) K
theorem concat_fv {B : Nat} {a b : List (List D)} (ga : ∀ r ∈ a, Ya B r) (gb : ∀ r ∈ b, Ya B r) (la : a.length ≤ 1048576) (lb : b.length ≤ 1048576) {k : Nat} (hk : Zar k) {β : Type} (K : List (List C) → Option β) : slices_Concat_impl_Item.f k [[.sl a], [.sl b]] K = K ((a ++ b).map (·.map C.d)) := slices_Concat_impl_Item.f_of (by
  have hm : Z6 = 2 ^ 36 := rfl
  have hb : big = 2 ^ 64 := rfl
  have hkb : 2 ^ 64 ≤ k := by unfold Zar at hk; omega
  unfold slices_Concat_impl_Item.t slices_Concat_impl_Item.g
  have r0 : ∀ {β : Type} (F : List D → Option β), ZX ([[.sl a], [.sl b]] : List (List D)) 0 F = F [.sl a] := fun F => rfl
  have r1 : ∀ {β : Type} (F : List D → Option β), ZX ([[.sl a], [.sl b]] : List (List D)) 1 F = F [.sl b] := fun F => rfl
  have c0 : decide ((0 : Int) < (([[.sl a], [.sl b]] : List (List D)).length : Int)) = true := rfl
  have c1 : decide ((1 : Int) < (([[.sl a], [.sl b]] : List (List D)).length : Int)) = true := rfl
  have c2 : decide ((2 : Int) < (([[.sl a], [.sl b]] : List (List D)).length : Int)) = false := rfl
  have w1 : IntKind.wrap .i64 (0 + 1) = 1 := by rw [ZC] <;> omega
  have w2 : IntKind.wrap .i64 (1 + 1) = 2 := by rw [ZC] <;> omega
  have wa : IntKind.wrap .i64 (0 + (a.length : Int)) = a.length := by rw [ZC] <;> omega
  have wb : IntKind.wrap .i64 ((a.length : Int) + (b.length : Int)) = (a.length : Int) + b.length := by rw [ZC] <;> omega
  have oa : Zcm 3 a := Ya.flat ga
  have ob : Zcm 3 b := Ya.flat gb
  rw [iter_step (by omega)]
  simp only [slices_Concat_impl_Item.l0, c0, cond_true, r0, uncons_at, dSl_at, atEnd_at, w1, wa, dec_false (show ¬ (a.length : Int) < 0 by omega), cond_false]
  rw [iter_step (by omega)]
  simp only [slices_Concat_impl_Item.l0, c1, cond_true, r1, uncons_at, dSl_at, atEnd_at, w2, wb, dec_false (show ¬ (a.length : Int) + b.length < 0 by omega), cond_false]
  rw [iter_step (by omega)]
  simp only [slices_Concat_impl_Item.l0, c2, cond_false, grow_nil_fv (show (0 : Int) ≤ (a.length : Int) + b.length by omega) (by omega)]
  rw [iter_step (by omega)]
  simp only [slices_Concat_impl_Item.l1, c0, cond_true, r0, uncons_at, dSl_at, atEnd_at, w1, guard_at oa]
  rw [guard_at (by simp only [List.length_nil, map_len]; omega), iter_step (by omega)]
  simp only [slices_Concat_impl_Item.l1, c1, cond_true, r1, uncons_at, dSl_at, atEnd_at, w2, guard_at ob]
  rw [guard_at (by simp only [List.nil_append, map_len]; omega), iter_step (by omega)]
  simp only [slices_Concat_impl_Item.l1, c2, cond_false, List.nil_append, List.map_append]) K
theorem impl_NameOk.f_of {β : Type} {k : Nat} {a0 : ByteArray} {z0 : Bool} (h : impl_NameOk.t k a0 = some z0) (K : Bool → Option β) : impl_NameOk.f k a0 K = K z0 := by
  unfold impl_NameOk.f
  rw [h]
theorem impl_NameOk.tm {ι α : Type} {ok : ι → Prop} {ψ : α → Prop} {p : ι → Nat} {B : Nat} (hp : ∀ i, ok i → B ≤ p i) {a0 : ByteArray} {φ : Bool → Prop} (h : Tm (fun k => B ≤ k) (fun k => impl_NameOk.t k a0) φ) {G : ι → Bool → Option α} (hG : ∀ z0, φ z0 → Tm ok (fun ι0 => G ι0 z0) ψ) : Tm ok (fun ι0 => impl_NameOk.f (p ι0) a0 (G ι0)) ψ := by
  obtain ⟨z0, h1, h2⟩ := h
  exact (hG z0 h1).congr fun i0 hi0 => impl_NameOk.f_of (h2 (p i0) (hp i0 hi0)) _
theorem within_f {β : Type} {k : Nat} {a b c : Int} (K : Bool → Option β) : impl_within.f k a b c K = K (decide (b ≤ a) && decide (a ≤ c)) := by
  refine impl_within.f_of ?_ K
  unfold impl_within.t impl_within.g
  by_cases h : b ≤ a <;> simp [h]
theorem impl_NameOk.same {k : Nat} {a : ByteArray} : impl_NameOk.t k a = spec_NameOk.t k a := by
  unfold impl_NameOk.t spec_NameOk.t impl_NameOk.g spec_NameOk.g
  congr 1
  funext L v
  simp only [impl_NameOk.l0, spec_NameOk.l0, l1In_f, within_f]
  refine bif_congr (fun _ => ?_) (fun _ => rfl)
  unfold atStr
  split
  · split
    · rename_i b _
      have hb : b.toNat < 256 := b.toNat_lt
      simp only []
      rw [ZC (x := (b.toNat : Int)) (by omega) (by omega)]
      generalize (b.toNat : Int) = x
      by_cases h1 : x < 97 <;> by_cases h2 : x < 48 <;> by_cases h3 : x > 57 <;> by_cases h4 : x > 122 <;> simp [h1, h2, h3, h4] <;> (try omega) <;> grind
    · rfl
  · rfl
theorem impl_NameOk_f {β : Type} {k : Nat} {a : ByteArray} (K : Bool → Option β) : impl_NameOk.f k a K = spec_NameOk.f k a K := by
  unfold impl_NameOk.f spec_NameOk.f
  rw [impl_NameOk.same]
theorem within_fv {β : Type} {k : Nat} {a b c : Int} (K : Bool → Option β) : impl_within.f k a b c K = K (inB a b c) := within_f K
theorem slices_Index_string.f_of {β : Type} {k : Nat} {a0 : List (List D)} {a1 : ByteArray} {z0 : Int} (h : slices_Index_string.t k a0 a1 = some z0) (K : Int → Option β) : slices_Index_string.f k a0 a1 K = K z0 := by
  unfold slices_Index_string.f
  rw [h]
theorem slices_Index_string.tm {ι α : Type} {ok : ι → Prop} {ψ : α → Prop} {p : ι → Nat} {B : Nat} (hp : ∀ i, ok i → B ≤ p i) {a0 : List (List D)} {a1 : ByteArray} {φ : Int → Prop} (h : Tm (fun k => B ≤ k) (fun k => slices_Index_string.t k a0 a1) φ) {G : ι → Int → Option α} (hG : ∀ z0, φ z0 → Tm ok (fun ι0 => G ι0 z0) ψ) : Tm ok (fun ι0 => slices_Index_string.f (p ι0) a0 a1 (G ι0)) ψ := by
  obtain ⟨z0, h1, h2⟩ := h
  exact (hG z0 h1).congr fun i0 hi0 => slices_Index_string.f_of (h2 (p i0) (hp i0 hi0)) _
theorem slices_Index_string.T {a0 : List (List D)} {a1 : ByteArray} (ga0 : Zm RS lim a0) (ga1 : a1.size ≤ lim) : Tm Zar (fun k => slices_Index_string.t k a0 a1) (fun _ => True) := by
  unfold slices_Index_string.t slices_Index_string.g
  have hm := Za
  have hlim : lim = 1048576 := rfl
  have la0 := ga0.1
  refine Tm.loop (okk := Zar) (p := fun k => k) (fun i hi => hi) (b := fun k => slices_Index_string.l0 k a0 a1 (a0.length : Int) (fun z0 => some z0)) (fun i => (((a0.length : Int)) - i).toNat) (fun i => 0 ≤ i ∧ i ≤ (a0.length : Int)) ?_ ?_ ?_
  · rintro i hI
    try simp only [] at hI ⊢
    have : big = 2 ^ 64 := rfl
    omega
  · ((try simp only []); omega)
  · rintro i hI L hL
    try simp only [] at hI
    obtain ⟨i0, i1⟩ := hI
    simp only [slices_Index_string.l0]
    refine Tm.ite (fun h1 => ?_) (fun h1 => ?_)
    · try simp only [bz0, bz1, bz2, bz3, bz4, bz5, bz6, bz7, bz8, bz9, bza] at h1
      refine Tm.atRow (by first | assumption | omega) (by first | assumption | omega) (fun x2 hx3 hm4 => ?_)
      obtain ⟨c5, rfl, g6, _⟩ := (ga0.2 x2 hm4).open
      refine Tm.uncons ?_
      refine Tm.dStr ?_
      refine Tm.atEnd ?_
      refine Tm.ite (fun h7 => ?_) (fun h7 => ?_)
      · try simp only [bz0, bz1, bz2, bz3, bz4, bz5, bz6, bz7, bz8, bz9, bza] at h7
        exact Tm.ret (by trivial)
      · try simp only [bz0, bz1, bz2, bz3, bz4, bz5, bz6, bz7, bz8, bz9, bza] at h7
        try rw [ZC (x := i + 1) (by omega) (by omega)]
        exact hL _ (by (try simp only []); omega) (by (try simp only []); omega)
    · try simp only [bz0, bz1, bz2, bz3, bz4, bz5, bz6, bz7, bz8, bz9, bza] at h1
      exact Tm.ret (by trivial)
noncomputable def slices_Index_string.v (a0 : List (List D)) (a1 : ByteArray) : Int := (slices_Index_string.t big a0 a1).getD default
theorem slices_Index_string.tv {a0 : List (List D)} {a1 : ByteArray} (ga0 : Zm RS lim a0) (ga1 : a1.size ≤ lim) {k : Nat} (hk : Zar k) : slices_Index_string.t k a0 a1 = some (slices_Index_string.v a0 a1) := (slices_Index_string.T ga0 ga1).val hk
theorem slices_Index_string.fv {a0 : List (List D)} {a1 : ByteArray} (ga0 : Zm RS lim a0) (ga1 : a1.size ≤ lim) {k : Nat} (hk : Zar k) {β : Type} (K : Int → Option β) : slices_Index_string.f k a0 a1 K = K (slices_Index_string.v a0 a1) := slices_Index_string.f_of (slices_Index_string.tv ga0 ga1 hk) K
theorem slices_Contains_string.f_of {β : Type} {k : Nat} {a0 : List (List D)} {a1 : ByteArray} {z0 : Bool} (h : slices_Contains_string.t k a0 a1 = some z0) (K : Bool → Option β) : slices_Contains_string.f k a0 a1 K = K z0 := by
  unfold slices_Contains_string.f
  rw [h]
theorem slices_Contains_string.tm {ι α : Type} {ok : ι → Prop} {ψ : α → Prop} {p : ι → Nat} {B : Nat} (hp : ∀ i, ok i → B ≤ p i) {a0 : List (List D)} {a1 : ByteArray} {φ : Bool → Prop} (h : Tm (fun k => B ≤ k) (fun k => slices_Contains_string.t k a0 a1) φ) {G : ι → Bool → Option α} (hG : ∀ z0, φ z0 → Tm ok (fun ι0 => G ι0 z0) ψ) : Tm ok (fun ι0 => slices_Contains_string.f (p ι0) a0 a1 (G ι0)) ψ := by
  obtain ⟨z0, h1, h2⟩ := h
  exact (hG z0 h1).congr fun i0 hi0 => slices_Contains_string.f_of (h2 (p i0) (hp i0 hi0)) _
theorem slices_Contains_string.T {a0 : List (List D)} {a1 : ByteArray} (ga0 : Zm RS lim a0) (ga1 : a1.size ≤ lim) : Tm Zar (fun k => slices_Contains_string.t k a0 a1) (fun _ => True) := by
  unfold slices_Contains_string.t slices_Contains_string.g
  have hm := Za
  have hlim : lim = 1048576 := rfl
  have la0 := ga0.1
  refine slices_Index_string.tm (fun i hi => hi) (slices_Index_string.T (by first | assumption | omega) (by first | assumption | omega)) (fun y2 hy1 => ?_)
  exact Tm.ret (by trivial)
noncomputable def slices_Contains_string.v (a0 : List (List D)) (a1 : ByteArray) : Bool := (slices_Contains_string.t big a0 a1).getD default
theorem slices_Contains_string.tv {a0 : List (List D)} {a1 : ByteArray} (ga0 : Zm RS lim a0) (ga1 : a1.size ≤ lim) {k : Nat} (hk : Zar k) : slices_Contains_string.t k a0 a1 = some (slices_Contains_string.v a0 a1) := (slices_Contains_string.T ga0 ga1).val hk
theorem slices_Contains_string.fv {a0 : List (List D)} {a1 : ByteArray} (ga0 : Zm RS lim a0) (ga1 : a1.size ≤ lim) {k : Nat} (hk : Zar k) {β : Type} (K : Bool → Option β) : slices_Contains_string.f k a0 a1 K = K (slices_Contains_string.v a0 a1) := slices_Contains_string.f_of (slices_Contains_string.tv ga0 ga1 hk) K
theorem strEq_comm (a b : ByteArray) : strEq a b = strEq b a := by
  unfold strEq
  rw [Bool.eq_iff_iff]
  simp only [beq_iff_eq]
  exact ⟨Eq.symm, Eq.symm⟩
def Yi (xs : List (List D)) (s : ByteArray) : Bool := !(List.range xs.length).all fun i => !strEq (gS xs (i : Int) 0) s
theorem contains_fv {a : List (List D)} {s : ByteArray} (g : Zm RS lim a) {k : Nat} (hk : Zar k) {β : Type} (K : Bool → Option β) : slices_Contains_string.f k a s K = K (Yi a s) := by
  have hl := g.1
  have hlim : lim = 1048576 := rfl
  have hb : big = 2 ^ 64 := rfl
  have hf : ∀ {β : Type} (K : Int → Option β), slices_Index_string.f k a s K = K (ZbX (fun i => strEq (gS a (i : Int) 0) s) a.length) := fun K => slices_Index_string.f_of (by
    unfold slices_Index_string.t slices_Index_string.g
    refine iter_findI (n := a.length) _ some (by unfold Zar at hk; omega) (fun L i hi => ?_) (fun L => by simp [slices_Index_string.l0])
    simp (disch := omega) only [slices_Index_string.l0, dec_true (show (i : Int) < a.length by omega), cond_true, RS.row g, uncons_at, dStr_at, atEnd_at, ZC]
    rw [strEq_comm]) K
  refine slices_Contains_string.f_of ?_ K
  unfold slices_Contains_string.t slices_Contains_string.g
  rw [hf, findI_all]
  rfl
theorem l2Among_fv {a : List (List D)} {s : ByteArray} (g : Zm RS lim a) {k : Nat} (hk : Zar k) {β : Type} (K : Bool → Option β) : spec_l2Among.f k a s K = K (Yi a s) := spec_l2Among.f_of (by
  have hl := g.1
  have hlim : lim = 1048576 := rfl
  have hb : big = 2 ^ 64 := rfl
  unfold spec_l2Among.t spec_l2Among.g Yi
  rw [iter_all0 (n := a.length) (fun i => !strEq (gS a (i : Int) 0) s) (r1 := some true) (r2 := some false) (by unfold Zar at hk; omega)]
  · generalize List.all _ _ = x
    cases x <;> rfl
  · intro L i hi
    simp (disch := omega) only [spec_l2Among.l0, dec_true (show (i : Int) < a.length by omega), cond_true, RS.row g, uncons_at, dStr_at, atEnd_at, ZC]
    cases strEq (gS a (i : Int) 0) s <;> rfl
  · intro L
    simp [spec_l2Among.l0]) K
theorem impl_QueueOk.f_of {β : Type} {k : Nat} {a0_0 : List (List D)} {a0_1 : List (List D)} {a0_2 : List (List D)} {a0_3 : Int} {z0 : Bool} (h : impl_QueueOk.t k a0_0 a0_1 a0_2 a0_3 = some z0) (K : Bool → Option β) : impl_QueueOk.f k a0_0 a0_1 a0_2 a0_3 K = K z0 := by
  unfold impl_QueueOk.f
  rw [h]
theorem impl_QueueOk.tm {ι α : Type} {ok : ι → Prop} {ψ : α → Prop} {p : ι → Nat} {B : Nat} (hp : ∀ i, ok i → B ≤ p i) {a0_0 : List (List D)} {a0_1 : List (List D)} {a0_2 : List (List D)} {a0_3 : Int} {φ : Bool → Prop} (h : Tm (fun k => B ≤ k) (fun k => impl_QueueOk.t k a0_0 a0_1 a0_2 a0_3) φ) {G : ι → Bool → Option α} (hG : ∀ z0, φ z0 → Tm ok (fun ι0 => G ι0 z0) ψ) : Tm ok (fun ι0 => impl_QueueOk.f (p ι0) a0_0 a0_1 a0_2 a0_3 (G ι0)) ψ := by
  obtain ⟨z0, h1, h2⟩ := h
  exact (hG z0 h1).congr fun i0 hi0 => impl_QueueOk.f_of (h2 (p i0) (hp i0 hi0)) _
theorem gS_take {xs : List (List D)} {n : Nat} {v : Int} {j : Nat} (h0 : 0 ≤ v) (h1 : v < n) : gS (xs.take n) v j = gS xs v j := by
  unfold gS
  rw [gR_take h1 h0]
theorem prefixB {xs : List (List D)} {i : Nat} (h : i ≤ xs.length) : Yi (xs.take i) (gS xs (i : Int) 0) = !beforeB xs i := by
  unfold Yi beforeB
  rw [List.length_take, show min i xs.length = i from by omega]
  congr 1
  rw [Bool.eq_iff_iff, List.all_eq_true, List.all_eq_true]
  constructor
  · intro h x hx
    have hx' : x < i := by simpa using hx
    rw [← gS_take (xs := xs) (n := i) (v := (x : Int)) (by omega) (by omega)]
    exact h x hx
  · intro h x hx
    have hx' : x < i := by simpa using hx
    rw [gS_take (xs := xs) (n := i) (v := (x : Int)) (by omega) (by omega)]
    exact h x hx
theorem impl_QueueOk.same {a0_0 a0_1 a0_2 : List (List D)} {a0_3 : Int} (g0 : Zm Ya lim a0_0) (g1 : Zm Ya lim a0_1) (g2 : Zm RS lim a0_2) {k : Nat} (hk : Zar k) : impl_QueueOk.t k a0_0 a0_1 a0_2 a0_3 = spec_QueueOk.t k a0_0 a0_1 a0_2 a0_3 := by
  rw [Ye g0 g1 g2 hk]
  have hlim : lim = 1048576 := rfl
  have l0 := g0.1
  have l1 := g1.1
  have l2 := g2.1
  have hb : big = 2 ^ 64 := rfl
  have hkb : 2 ^ 64 ≤ k := by unfold Zar at hk; omega
  have ga := rows_app g0.2 g1.2
  have la : (a0_0 ++ a0_1).length ≤ 2097152 := by rw [List.length_append]; omega
  unfold impl_QueueOk.t impl_QueueOk.g
  have mid : Z4 (impl_QueueOk.l1 k a0_2 (a0_2.length : Int) a0_0 a0_1 a0_2 a0_3 fun z0 => some z0) k 0 = some (againB a0_1 a0_2) := by
    rw [iter_all0 (n := a0_2.length) (fun i => !decide (Yb a0_1 (gS a0_2 (i : Int) 0) < 0) && beforeB a0_2 i) (r1 := some false) (r2 := some true) (by omega)]
    · unfold againB
      generalize List.all _ _ = x
      cases x <;> rfl
    · intro L i hi
      have gt : Zm RS lim (a0_2.take i) := ⟨by rw [List.length_take]; omega, rows_take g2.2⟩
      simp (disch := omega) only [impl_QueueOk.l1, dec_true (show (i : Int) < a0_2.length by omega), cond_true, RS.row g2, uncons_at, dStr_at, atEnd_at, itemAt_fv g1.2 (by omega) hk]
      rw [guard_at ⟨by omega, by omega, by omega, fun r hr => (g2.2 r hr).len⟩, show (Int.toNat (0 : Int)) = 0 from rfl, List.drop_zero, Int.toNat_natCast, Nat.sub_zero, contains_fv gt hk, prefixB (by omega), ZC (by omega) (by omega)]
      cases decide (Yb a0_1 (gS a0_2 (i : Int) 0) < 0) <;> cases beforeB a0_2 i <;> rfl
    · intro L
      simp only [impl_QueueOk.l1, dec_false (show ¬ (a0_2.length : Int) < a0_2.length by omega), cond_false]
  simp only [within_fv, concat_fv g0.2 g1.2 (by omega : a0_0.length ≤ 1048576) (by omega : a0_1.length ≤ 1048576) hk, map_len]
  rw [iter_all0 (n := (a0_0 ++ a0_1).length) (fun i => spec_NameOk.v (gS (a0_0 ++ a0_1) (i : Int) 0) && (Yb (a0_0 ++ a0_1) (gS (a0_0 ++ a0_1) (i : Int) 0) == (i : Int) && (inB (gI (a0_0 ++ a0_1) (i : Int) 1) 0 1000064 && (inB (gI (a0_0 ++ a0_1) (i : Int) 2) 0 1000 && (!decide ((i : Int) ≥ a0_0.length) || gI (a0_0 ++ a0_1) (i : Int) 1 == 0))))) (r1 := some false) (r2 := some (againB a0_1 a0_2)) (by omega)]
  · unfold Yg itemsB
    generalize List.all _ _ = x
    have e : ∀ n : Int, decide (n > 60) = !decide (n ≤ 60) := fun n => by by_cases h : n ≤ 60 <;> simp [h]; omega
    rw [e, e]
    cases decide ((a0_0.length : Int) ≤ 60) <;> cases decide ((a0_1.length : Int) ≤ 60) <;> cases inB a0_3 0 1000000 <;> cases x <;> cases againB a0_1 a0_2 <;> rfl
  · intro L i hi
    have hg := Ya.gets ga (v := (i : Int)) (by omega) (by omega)
    simp (disch := omega) only [impl_QueueOk.l0, map_len, dec_true (show (i : Int) < (a0_0 ++ a0_1).length by omega), cond_true, guard_at (show (0 : Int) ≤ i ∧ (i : Int) < ((a0_0 ++ a0_1).length : Int) by omega), atNat_up, imm_rows]
    rw [hg.1]
    simp (disch := omega) only [List.map_cons, List.map_nil, List.drop_zero, uncons_at, cD_at, dStr_at, dInt_self, concat_fv g0.2 g1.2 (by omega : a0_0.length ≤ 1048576) (by omega : a0_1.length ≤ 1048576) hk, imm_rows, impl_NameOk_f, spec_NameOk.fv hg.2.1 hk, itemAt_fv ga la hk, within_fv, ZC]
    cases spec_NameOk.v (gS (a0_0 ++ a0_1) (i : Int) 0)
    · rfl
    · cases h1 : (Yb (a0_0 ++ a0_1) (gS (a0_0 ++ a0_1) (i : Int) 0) == (i : Int)) <;> cases inB (gI (a0_0 ++ a0_1) (i : Int) 1) 0 1000064 <;> cases inB (gI (a0_0 ++ a0_1) (i : Int) 2) 0 1000 <;> cases decide ((i : Int) ≥ a0_0.length) <;> cases h2 : gI (a0_0 ++ a0_1) (i : Int) 1 == 0 <;> simp [bne, h1, h2]
  · intro L
    simp only [impl_QueueOk.l0, map_len, dec_false (show ¬ ((a0_0 ++ a0_1).length : Int) < (a0_0 ++ a0_1).length by omega), cond_false]
    exact mid
theorem QueueOkF {a0 a1 a2 : List (List D)} {a3 : Int} (g0 : Zm Ya lim a0) (g1 : Zm Ya lim a1) (g2 : Zm RS lim a2) {k : Nat} (hk : Zar k) {β : Type} (K : Bool → Option β) : spec_QueueOk.f k a0 a1 a2 a3 K = K (Yg a0 a1 a2 a3) := spec_QueueOk.f_of (Ye g0 g1 g2 hk) K
theorem QueueOkI {a0 a1 a2 : List (List D)} {a3 : Int} (g0 : Zm Ya lim a0) (g1 : Zm Ya lim a1) (g2 : Zm RS lim a2) {k : Nat} (hk : Zar k) {β : Type} (K : Bool → Option β) : impl_QueueOk.f k a0 a1 a2 a3 K = K (Yg a0 a1 a2 a3) := impl_QueueOk.f_of ((impl_QueueOk.same g0 g1 g2 hk).trans (Ye g0 g1 g2 hk)) K
theorem back_facts {R : Nat → List D → Prop} {m : Nat} (hm : m ≤ 1000) (hmono : ∀ r, R lim r → R 2097152 r) (hwt : ∀ xs : List (List D), (∀ r ∈ xs, R lim r) → ZE xs = m * xs.length) {xs : List (List D)} (hl : xs.length ≤ 2097152) (h : ∀ r ∈ xs, R lim r) : Zm R 2097152 (C.immRows (xs.map (·.map C.d))) ∧ ZE (C.immRows (xs.map (·.map C.d))) ≤ 1125899906842624 := by
  rw [imm_rows, hwt xs h]
  refine ⟨⟨hl, fun r hr => hmono r (h r hr)⟩, ?_⟩
  have : m * xs.length ≤ 1000 * 2097152 := Nat.mul_le_mul hm hl
  omega
theorem items_back {xs : List (List D)} (hl : xs.length ≤ 2097152) (h : ∀ r ∈ xs, Ya lim r) : Zm Ya 2097152 (C.immRows (xs.map (·.map C.d))) ∧ ZE (C.immRows (xs.map (·.map C.d))) ≤ 1125899906842624 := back_facts (m := 3) (by decide) (fun r hr => hr.mono (by decide)) (fun xs h => Ya.wt h) hl h
theorem strings_back {xs : List (List D)} (hl : xs.length ≤ 2097152) (h : ∀ r ∈ xs, RS lim r) : Zm RS 2097152 (C.immRows (xs.map (·.map C.d))) ∧ ZE (C.immRows (xs.map (·.map C.d))) ≤ 1125899906842624 := back_facts (m := 1) (by decide) (fun r hr => hr.mono (by decide)) (fun xs h => RS.wt h) hl h
def Yj (z0 z1 z2 : List (List C)) : Prop := ∃ x0 x1 x2 : List (List D), z0 = x0.map (·.map C.d) ∧ z1 = x1.map (·.map C.d) ∧ z2 = x2.map (·.map C.d) ∧ x0.length ≤ 2097152 ∧ x1.length ≤ 2097152 ∧ x2.length ≤ 2097152 ∧ (∀ r ∈ x0, Ya lim r) ∧ (∀ r ∈ x1, Ya lim r) ∧ ∀ r ∈ x2, RS lim r
theorem Yj.deep {z0 z1 z2 : List (List C)} (h : Yj z0 z1 z2) : Zs (C.immRows z0) = z0 ∧ Zs (C.immRows z1) = z1 ∧ Zs (C.immRows z2) = z2 := by
  obtain ⟨x0, x1, x2, rfl, rfl, rfl, _, _, _, g0, g1, g2⟩ := h
  rw [imm_rows, imm_rows, imm_rows, Ya.deep g0, Ya.deep g1, RS.deep g2]
  exact ⟨rfl, rfl, rfl⟩
theorem Yj.facts {z0 z1 z2 : List (List C)} (h : Yj z0 z1 z2) : Zm Ya 2097152 (C.immRows z0) ∧ ZE (C.immRows z0) ≤ 1125899906842624 ∧ Zm Ya 2097152 (C.immRows z1) ∧ ZE (C.immRows z1) ≤ 1125899906842624 ∧ Zm RS 2097152 (C.immRows z2) ∧ ZE (C.immRows z2) ≤ 1125899906842624 := by
  obtain ⟨x0, x1, x2, rfl, rfl, rfl, l0, l1, l2, g0, g1, g2⟩ := h
  obtain ⟨p1, p2⟩ := items_back l0 g0
  obtain ⟨p3, p4⟩ := items_back l1 g1
  obtain ⟨p5, p6⟩ := strings_back l2 g2
  exact ⟨p1, p2, p3, p4, p5, p6⟩
theorem mem_modify {α : Type} {P : α → Prop} {f : α → α} (hf : ∀ x, P x → P (f x)) : ∀ {xs : List α} {j : Nat}, (∀ x ∈ xs, P x) → ∀ x ∈ xs.modify j f, P x
  | [], j, h, x, hx => by cases j <;> cases hx
  | y :: xs, 0, h, x, hx => by
    simp only [List.modify_zero_cons] at hx
    rcases List.mem_cons.mp hx with rfl | hx
    · exact hf y (h y (by simp))
    · exact h x (by simp [hx])
  | y :: xs, j + 1, h, x, hx => by
    simp only [List.modify_succ_cons] at hx
    rcases List.mem_cons.mp hx with rfl | hx
    · exact h x (by simp)
    · exact mem_modify hf (fun z hz => h z (by simp [hz])) x hx
theorem mem_snoc {α : Type} {P : α → Prop} {xs : List α} {y : α} (h : ∀ x ∈ xs, P x) (hy : P y) : ∀ x ∈ xs ++ [y], P x := by
  intro x hx
  rcases List.mem_append.mp hx with q | q
  · exact h x q
  · simp at q; subst q; exact hy
theorem slices_Delete_impl_Item.f_of {β : Type} {k : Nat} {xs : List (List C)} {i : Int} {j : Int} {z0 : List (List C)} (h : slices_Delete_impl_Item.t k xs i j = some z0) (K : (List (List C)) → Option β) : slices_Delete_impl_Item.f k xs i j K = K z0 := by
  unfold slices_Delete_impl_Item.f
  rw [h]
theorem slices_Delete_impl_Item.tm {ι α : Type} {ok : ι → Prop} {ψ : α → Prop} {p : ι → Nat} {B : Nat} (hp : ∀ i, ok i → B ≤ p i) {xs : List (List C)} {i : Int} {j : Int} {φ : (List (List C)) → Prop} (h : Tm (fun k => B ≤ k) (fun k => slices_Delete_impl_Item.t k xs i j) φ) {G : ι → (List (List C)) → Option α} (hG : ∀ z0, φ z0 → Tm ok (fun ι0 => G ι0 z0) ψ) : Tm ok (fun ι0 => slices_Delete_impl_Item.f (p ι0) xs i j (G ι0)) ψ := by
  obtain ⟨z0, h1, h2⟩ := h
  exact (hG z0 h1).congr fun i0 hi0 => slices_Delete_impl_Item.f_of (h2 (p i0) (hp i0 hi0)) _
theorem impl_Done_1.f_of {β : Type} {k : Nat} {a0 : ByteArray} {f0_0 : ByteArray} {z0 : Bool} (h : impl_Done_1.t k a0 f0_0 = some z0) (K : Bool → Option β) : impl_Done_1.f k a0 f0_0 K = K z0 := by
  unfold impl_Done_1.f
  rw [h]
theorem impl_Done_1.tm {ι α : Type} {ok : ι → Prop} {ψ : α → Prop} {p : ι → Nat} {B : Nat} (hp : ∀ i, ok i → B ≤ p i) {a0 : ByteArray} {f0_0 : ByteArray} {φ : Bool → Prop} (h : Tm (fun k => B ≤ k) (fun k => impl_Done_1.t k a0 f0_0) φ) {G : ι → Bool → Option α} (hG : ∀ z0, φ z0 → Tm ok (fun ι0 => G ι0 z0) ψ) : Tm ok (fun ι0 => impl_Done_1.f (p ι0) a0 f0_0 (G ι0)) ψ := by
  obtain ⟨z0, h1, h2⟩ := h
  exact (hG z0 h1).congr fun i0 hi0 => impl_Done_1.f_of (h2 (p i0) (hp i0 hi0)) _
theorem slices_IndexFunc_string__impl_Done_1.f_of {β : Type} {k : Nat} {a0 : List (List D)} {a1_0_0 : ByteArray} {z0 : Int} (h : slices_IndexFunc_string__impl_Done_1.t k a0 a1_0_0 = some z0) (K : Int → Option β) : slices_IndexFunc_string__impl_Done_1.f k a0 a1_0_0 K = K z0 := by
  unfold slices_IndexFunc_string__impl_Done_1.f
  rw [h]
theorem slices_IndexFunc_string__impl_Done_1.tm {ι α : Type} {ok : ι → Prop} {ψ : α → Prop} {p : ι → Nat} {B : Nat} (hp : ∀ i, ok i → B ≤ p i) {a0 : List (List D)} {a1_0_0 : ByteArray} {φ : Int → Prop} (h : Tm (fun k => B ≤ k) (fun k => slices_IndexFunc_string__impl_Done_1.t k a0 a1_0_0) φ) {G : ι → Int → Option α} (hG : ∀ z0, φ z0 → Tm ok (fun ι0 => G ι0 z0) ψ) : Tm ok (fun ι0 => slices_IndexFunc_string__impl_Done_1.f (p ι0) a0 a1_0_0 (G ι0)) ψ := by
  obtain ⟨z0, h1, h2⟩ := h
  exact (hG z0 h1).congr fun i0 hi0 => slices_IndexFunc_string__impl_Done_1.f_of (h2 (p i0) (hp i0 hi0)) _
theorem slices_DeleteFunc_string__impl_Done_1.f_of {β : Type} {k : Nat} {xs : List (List C)} {c0_0 : ByteArray} {z0 : List (List C)} (h : slices_DeleteFunc_string__impl_Done_1.t k xs c0_0 = some z0) (K : (List (List C)) → Option β) : slices_DeleteFunc_string__impl_Done_1.f k xs c0_0 K = K z0 := by
  unfold slices_DeleteFunc_string__impl_Done_1.f
  rw [h]
theorem slices_DeleteFunc_string__impl_Done_1.tm {ι α : Type} {ok : ι → Prop} {ψ : α → Prop} {p : ι → Nat} {B : Nat} (hp : ∀ i, ok i → B ≤ p i) {xs : List (List C)} {c0_0 : ByteArray} {φ : (List (List C)) → Prop} (h : Tm (fun k => B ≤ k) (fun k => slices_DeleteFunc_string__impl_Done_1.t k xs c0_0) φ) {G : ι → (List (List C)) → Option α} (hG : ∀ z0, φ z0 → Tm ok (fun ι0 => G ι0 z0) ψ) : Tm ok (fun ι0 => slices_DeleteFunc_string__impl_Done_1.f (p ι0) xs c0_0 (G ι0)) ψ := by
  obtain ⟨z0, h1, h2⟩ := h
  exact (hG z0 h1).congr fun i0 hi0 => slices_DeleteFunc_string__impl_Done_1.f_of (h2 (p i0) (hp i0 hi0)) _
theorem impl_Done.f_of {β : Type} {k : Nat} {a0_0 : List (List D)} {a0_1 : List (List D)} {a0_2 : List (List D)} {a0_3 : Int} {a1 : ByteArray} {a2 : Bool} {z0 : List (List C)} {z1 : List (List C)} {z2 : List (List C)} {z3 : Int} {z4 : Bool} (h : impl_Done.t k a0_0 a0_1 a0_2 a0_3 a1 a2 = some (z0, z1, z2, z3, z4)) (K : (List (List C)) → (List (List C)) → (List (List C)) → Int → Bool → Option β) : impl_Done.f k a0_0 a0_1 a0_2 a0_3 a1 a2 K = K z0 z1 z2 z3 z4 := by
  unfold impl_Done.f
  rw [h]
theorem impl_Done.tm {ι α : Type} {ok : ι → Prop} {ψ : α → Prop} {p : ι → Nat} {B : Nat} (hp : ∀ i, ok i → B ≤ p i) {a0_0 : List (List D)} {a0_1 : List (List D)} {a0_2 : List (List D)} {a0_3 : Int} {a1 : ByteArray} {a2 : Bool} {φ : (List (List C)) × (List (List C)) × (List (List C)) × Int × Bool → Prop} (h : Tm (fun k => B ≤ k) (fun k => impl_Done.t k a0_0 a0_1 a0_2 a0_3 a1 a2) φ) {G : ι → (List (List C)) → (List (List C)) → (List (List C)) → Int → Bool → Option α} (hG : ∀ z0 z1 z2 z3 z4, φ (z0, z1, z2, z3, z4) → Tm ok (fun ι0 => G ι0 z0 z1 z2 z3 z4) ψ) : Tm ok (fun ι0 => impl_Done.f (p ι0) a0_0 a0_1 a0_2 a0_3 a1 a2 (G ι0)) ψ := by
  obtain ⟨⟨z0, z1, z2, z3, z4⟩, h1, h2⟩ := h
  exact (hG z0 z1 z2 z3 z4 h1).congr fun i0 hi0 => impl_Done.f_of (h2 (p i0) (hp i0 hi0)) _
theorem gR_right {a b : List (List D)} {v : Int} (h : 0 ≤ v) : gR (a ++ b) (((a.length + v.toNat : Nat) : Int)) = gR b v := by
  unfold gR
  rw [Int.toNat_natCast, List.getD_eq_getElem?_getD, List.getElem?_append_right (by omega), Nat.add_sub_cancel_left, List.getD_eq_getElem?_getD]
theorem place_in {xs : List (List D)} {s : ByteArray} (h : 0 ≤ Yb xs s) : Yb xs s < xs.length := by
  obtain ⟨h1, _, h2, _⟩ := findI_some (p := fun i => strEq (gS xs (i : Int) 0) s) (n := xs.length) h
  unfold Yb at *
  omega
theorem Yk {a b c : List (List D)} {n : Int} (h : Yg a b c n = true) : a.length ≤ 60 ∧ b.length ≤ 60 ∧ 0 ≤ n ∧ n ≤ 1000000 ∧ ∀ v : Int, 0 ≤ v → v < b.length → 0 ≤ gI b v 2 ∧ gI b v 2 ≤ 1000 := by
  unfold Yg inB at h
  simp only [Bool.and_eq_true, decide_eq_true_eq] at h
  obtain ⟨h1, -, h2, h3, h4, h5⟩ := h
  refine ⟨by omega, by omega, h4, h5, fun v v0 v1 => ?_⟩
  unfold itemsB at h1
  rw [List.all_eq_true] at h1
  have := h1 (a.length + v.toNat) (by rw [List.mem_range, List.length_append]; omega)
  simp only [Bool.and_eq_true] at this
  have h6 := this.2.2.2.1
  unfold inB gI at h6
  rw [gR_right v0] at h6
  simpa [gI] using h6
def Yf (c : List (List D)) (s : ByteArray) : List (List D) := c.filter fun r => !strEq (rS r 0) s
theorem strs_of {c : List (List D)} (g : ∀ r ∈ c, RS lim r) : ∃ ss : List ByteArray, c = ss.map fun s => [.str s] := by
  induction c with
  | nil => exact ⟨[], rfl⟩
  | cons r c ih =>
    obtain ⟨ss, hs⟩ := ih fun x hx => g x (by simp [hx])
    obtain ⟨s, e, -⟩ := g r (by simp)
    exact ⟨s :: ss, by rw [hs, e]; rfl⟩
theorem strsOf_map (ss : List ByteArray) : strsOf (ss.map fun s => [.d (.str s)]) = some ss := by
  induction ss with
  | nil => rfl
  | cons s ss ih => simp only [List.map_cons, strsOf, ih]; rfl
theorem delS_map {pr : ByteArray → Option Bool} {q : ByteArray → Bool} (h : ∀ s, pr s = some (q s)) (ss : List ByteArray) : delS pr ss = some (ss.filter fun s => !q s) := by
  induction ss with
  | nil => rfl
  | cons s ss ih =>
    unfold delS
    rw [h, ih, List.filter_cons]
    cases q s <;> rfl
theorem gS_map (ss : List ByteArray) {i : Nat} (h : i < ss.length) : gS (ss.map fun s => [D.str s]) (i : Int) 0 = ss[i] := by
  have := gR_at (xs := ss.map fun s => [D.str s]) (v := (i : Int)) (by omega) (by rw [List.length_map]; omega)
  rw [Int.toNat_natCast, List.getElem?_map, List.getElem?_eq_getElem h] at this
  injection this with this
  unfold gS
  rw [← this]
  rfl
theorem delFunc_fv {c : List (List D)} {s : ByteArray} (g : Zm RS lim c) {k : Nat} (hk : Zar k) {β : Type} (K : List (List C) → Option β) : slices_DeleteFunc_string__impl_Done_1.f k (c.map (·.map C.d)) s K = K ((Yf c s).map (·.map C.d)) := by
  have hl := g.1
  have hlim : lim = 1048576 := rfl
  have hb : big = 2 ^ 64 := rfl
  have hs : ∀ {x : ByteArray}, impl_Done_1.t k x s = some (strEq x s) := fun {x} => by unfold impl_Done_1.t impl_Done_1.g; rfl
  have hsf : ∀ {x : ByteArray} {β : Type} (K : Bool → Option β), impl_Done_1.f k x s K = K (strEq x s) := fun K => impl_Done_1.f_of hs K
  have hix : slices_IndexFunc_string__impl_Done_1.t k c s = some (ZbX (fun i => strEq (gS c (i : Int) 0) s) c.length) := by
    unfold slices_IndexFunc_string__impl_Done_1.t slices_IndexFunc_string__impl_Done_1.g
    refine iter_findI (n := c.length) _ some (by unfold Zar at hk; omega) (fun L i hi => ?_) (fun L => by simp [slices_IndexFunc_string__impl_Done_1.l0])
    simp (disch := omega) only [slices_IndexFunc_string__impl_Done_1.l0, dec_true (show (i : Int) < c.length by omega), cond_true, RS.row g, uncons_at, dStr_at, atEnd_at, hsf, ZC]
  refine slices_DeleteFunc_string__impl_Done_1.f_of ?_ K
  unfold slices_DeleteFunc_string__impl_Done_1.t delT
  obtain ⟨ss, rfl⟩ := strs_of g.2
  have hlen : (ss.map fun s => [D.str s]).length = ss.length := List.length_map ..
  rw [show (ss.map fun s => [D.str s]).map (·.map C.d) = ss.map fun s => [C.d (.str s)] from by rw [List.map_map]; rfl, strsOf_map]
  simp only [hix]
  have hd : (Yf (ss.map fun s => [D.str s]) s).map (·.map C.d) = (ss.filter fun x => !strEq x s).map fun x => [C.d (.str x)] := by
    unfold Yf
    rw [List.filter_map, List.map_map]
    rfl
  rw [hd, hlen]
  by_cases hz : ZbX (fun i => strEq (gS (ss.map fun s => [D.str s]) (i : Int) 0) s) ss.length < 0
  · obtain ⟨h1, h2⟩ := findI_none hz
    rw [if_pos h1]
    congr 2
    symm
    rw [List.filter_eq_self]
    intro x hx
    obtain ⟨i, hi, rfl⟩ := List.mem_iff_getElem.mp hx
    have := h2 i hi
    rw [gS_map ss hi] at this
    rw [this]; rfl
  · obtain ⟨h1, h2, h3, h4⟩ := findI_some (p := fun i => strEq (gS (ss.map fun s => [D.str s]) (i : Int) 0) s) (n := ss.length) (by omega)
    generalize ZbX (fun i => strEq (gS (ss.map fun s => [D.str s]) (i : Int) 0) s) ss.length = z at *
    rw [if_neg (by omega), guard_at (by omega)]
    rw [delS_map (q := fun x => strEq x s) (fun _ => hs)]
    have h5 : ss = ss.take z.toNat ++ ss[z.toNat] :: ss.drop (z.toNat + 1) := by rw [List.getElem_cons_drop, List.take_append_drop]
    have h6 : (ss.filter fun x => !strEq x s) = ss.take z.toNat ++ (ss.drop (z.toNat + 1)).filter fun x => !strEq x s := by
      conv => lhs; rw [h5]
      rw [List.filter_append, List.filter_cons]
      have h7 : strEq ss[z.toNat] s = true := by have := h2; rwa [gS_map ss h1] at this
      rw [h7]
      simp only [Bool.not_true, Bool.false_eq_true, if_false]
      congr 1
      rw [List.filter_eq_self]
      intro x hx
      obtain ⟨i, hi, rfl⟩ := List.mem_iff_getElem.mp hx
      rw [List.length_take] at hi
      have := h4 i (by omega)
      rw [gS_map ss (by omega)] at this
      rw [List.getElem_take, this]; rfl
    simp only [h6]
noncomputable def Yd (f : Int) : Int := if (1000 : Int) < f + 1 then 1000 else f + 1
noncomputable def doneV (a b c : List (List D)) (n : Int) (s : ByteArray) (w : Bool) : List (List D) × List (List D) × List (List D) × Int × Bool :=
  bif Yg a b c n && decide (0 ≤ Yb b s) then
    (bif (!w || Yi c s) && decide ((a.length : Int) < 60) then
      (a ++ [[.str s, .int .i64 (bif w then n else n + Yh (Yd (gI b (Yb b s) 2))), .int .i64 (bif w then 0 else Yd (gI b (Yb b s) 2))]], b.take (Yb b s).toNat ++ b.drop ((Yb b s).toNat + 1), Yf c s, n, true)
    else (a, b.take (Yb b s).toNat ++ b.drop ((Yb b s).toNat + 1), Yf c s, n, true))
  else (a, b, c, n, false)
def up5 (z : List (List D) × List (List D) × List (List D) × Int × Bool) : List (List C) × List (List C) × List (List C) × Int × Bool := (z.1.map (·.map C.d), z.2.1.map (·.map C.d), z.2.2.1.map (·.map C.d), z.2.2.2)
theorem cut_row {a : List (List D)} {p : Int} {β : Type} (h0 : 0 ≤ p) (hp : p < a.length) (hl : a.length ≤ 1048576) (g : ∀ r ∈ a, Ya lim r) {F : List (List C) → Option β} :
    ZH (0 ≤ (0 : Int) ∧ (0 : Int) ≤ (p : Int) ∧ (p : Int) ≤ (a.length : Int) ∧ rowsOk 3 a) (ZH (Zcm 3 ((a.drop (Int.toNat (0 : Int))).take (Int.toNat (p : Int) - Int.toNat (0 : Int)))) (ZH (([] : List (List C)).length + (((a.drop (Int.toNat (0 : Int))).take (Int.toNat (p : Int) - Int.toNat (0 : Int))).map (·.map C.d)).length ≤ Z6) (ZH (0 ≤ (p + 1) ∧ (p + 1) ≤ (a.length : Int) ∧ (a.length : Int) ≤ (a.length : Int) ∧ rowsOk 3 a) (ZH (Zcm 3 ((a.drop (Int.toNat (p + 1))).take (Int.toNat (a.length : Int) - Int.toNat (p + 1)))) (ZH ((([] : List (List C)) ++ (((a.drop (Int.toNat (0 : Int))).take (Int.toNat (p : Int) - Int.toNat (0 : Int))).map (·.map C.d))).length + (((a.drop (Int.toNat (p + 1))).take (Int.toNat (a.length : Int) - Int.toNat (p + 1))).map (·.map C.d)).length ≤ Z6) (F ((([] : List (List C)) ++ (((a.drop (Int.toNat (0 : Int))).take (Int.toNat (p : Int) - Int.toNat (0 : Int))).map (·.map C.d))) ++ (((a.drop (Int.toNat (p + 1))).take (Int.toNat (a.length : Int) - Int.toNat (p + 1))).map (·.map C.d)))))))))
    = F ((a.take p.toNat ++ a.drop (p.toNat + 1)).map (·.map C.d)) := by
  have hm : Z6 = 2 ^ 36 := rfl
  have e1 : Int.toNat (p + 1) = p.toNat + 1 := by omega
  have e2 : (a.drop (Int.toNat (0 : Int))).take (Int.toNat (p : Int) - Int.toNat (0 : Int)) = a.take p.toNat := by simp
  have e3 : (a.drop (Int.toNat (p + 1))).take (Int.toNat (a.length : Int) - Int.toNat (p + 1)) = a.drop (p.toNat + 1) := by
    rw [e1, Int.toNat_natCast, List.take_of_length_le (by rw [List.length_drop]; omega)]
  have hok : rowsOk 3 a := fun r hr => (g r hr).len
  rw [e2, e3, guard_at ⟨by omega, by omega, by omega, hok⟩, guard_at (Ya.flat (rows_take g)), guard_at (by simp only [List.length_nil, map_len, List.length_take]; omega), guard_at ⟨by omega, by omega, by omega, hok⟩, guard_at (Ya.flat (rows_drop g)),
    guard_at (by simp only [List.nil_append, map_len, List.length_take, List.length_drop]; omega), List.nil_append, List.map_append]
theorem spec_Done_t {a b c : List (List D)} {n : Int} {s : ByteArray} {w : Bool} (g0 : Zm Ya lim a) (g1 : Zm Ya lim b) (g2 : Zm RS lim c) {k : Nat} (hk : Zar k) : spec_Done.t k a b c n s w = some (up5 (doneV a b c n s w)) := by
  have hlim : lim = 1048576 := rfl
  have hm : Z6 = 2 ^ 36 := rfl
  have hb : big = 2 ^ 64 := rfl
  have l0 := g0.1
  have l1 := g1.1
  have l2 := g2.1
  unfold spec_Done.t spec_Done.g
  rw [l9Copy_fv g0 g1 g2, l9Find_fv g1.2 (by omega) hk, QueueOkF g0 g1 g2 hk]
  unfold doneV
  cases hq : Yg a b c n
  · rfl
  obtain ⟨q0, q1, q2, q3, q4⟩ := Yk hq
  simp only [Bool.not_true, cond_false, Bool.true_and]
  by_cases hf : Yb b s < 0
  · rw [dec_true hf, dec_false (show ¬ 0 ≤ Yb b s by omega)]
    rfl
  have h1 := place_in (xs := b) (s := s) (by omega)
  obtain ⟨f0, f1⟩ := q4 _ (by omega) h1
  rw [dec_false hf, dec_true (show 0 ≤ Yb b s by omega)]
  generalize Yb b s = p at *
  simp (disch := omega) only [cond_false, cond_true, Ya.row g1, uncons_at, dStr_at, dInt_self, atEnd_at, ZC]
  rw [cut_row (by omega) h1 (by omega) g1.2 (F := fun y => Z4 (spec_Done.l0 k s w a b c n 0 n (gS b p 0) (gI b p 1) (gI b p 2) (a.map (·.map C.d)) y (fun z0 z1 z2 z3 z4 => some (z0, z1, z2, z3, z4))) k (0, ([] : List (List C))))]
  have hd := Yl (Yd (gI b p 2))
  have hff : 1 ≤ Yd (gI b p 2) ∧ Yd (gI b p 2) ≤ 1000 := by unfold Yd; split <;> omega
  refine iter_seq (f := fun j => ((j : Int), (Yf (c.take j) s).map (·.map C.d))) (n := c.length) (by unfold Zar at hk; omega) (fun L i hi => ?_) (fun L => ?_)
  · have e : gR c (i : Int) = [.str (gS c (i : Int) 0)] := (RS.get g2 (v := (i : Int)) (by omega) (by omega)).1
    have ht : c.take (i + 1) = c.take i ++ [gR c (i : Int)] := by
      have := gR_at (xs := c) (v := (i : Int)) (by omega) (by omega)
      rw [Int.toNat_natCast] at this
      rw [List.take_add_one, this]; rfl
    have hdl : (Yf (c.take i) s).length ≤ i := by
      unfold Yf
      exact Nat.le_trans (List.length_filter_le _ _) (by rw [List.length_take]; omega)
    simp (disch := omega) only [spec_Done.l0, dec_true (show (i : Int) < c.length by omega), cond_true, RS.row g2, uncons_at, dStr_at, atEnd_at, ZC]
    have hdr : Yf (c.take (i + 1)) s = Yf (c.take i) s ++ (bif strEq (gS c (i : Int) 0) s then [] else [gR c (i : Int)]) := by
      unfold Yf
      rw [ht, List.filter_append]
      congr 1
      rw [List.filter_cons]
      show (if (!strEq (gS c (i : Int) 0) s) = true then _ else _) = _
      cases strEq (gS c (i : Int) 0) s <;> rfl
    rw [hdr]
    cases strEq (gS c (i : Int) 0) s
    · simp only [Bool.not_false, cond_true, cond_false]
      rw [guard_at (by simp only [map_len, List.length_singleton]; omega), e]
      simp
    · simp
  · rw [List.take_length]
    simp only [spec_Done.l0, dec_false (show ¬ (c.length : Int) < c.length by omega), cond_false, l2Among_fv g2 hk]
    have hdec : (bif decide (gI b p 2 < 1000) then spec_l9Delay.f k (IntKind.wrap .i64 (gI b p 2 + 1)) (fun y => ZH ((a.map (·.map C.d)).length + ([[.d (.str s), .d (.int .i64 (IntKind.wrap .i64 (n + y))), .d (.int .i64 (IntKind.wrap .i64 (gI b p 2 + 1)))]] : List (List C)).length ≤ Z6) (some ((a.map (·.map C.d)) ++ ([[.d (.str s), .d (.int .i64 (IntKind.wrap .i64 (n + y))), .d (.int .i64 (IntKind.wrap .i64 (gI b p 2 + 1)))]] : List (List C)), (b.take p.toNat ++ b.drop (p.toNat + 1)).map (·.map C.d), (Yf c s).map (·.map C.d), n, true)))
        else spec_l9Delay.f k (gI b p 2) (fun y => ZH ((a.map (·.map C.d)).length + ([[.d (.str s), .d (.int .i64 (IntKind.wrap .i64 (n + y))), .d (.int .i64 (gI b p 2))]] : List (List C)).length ≤ Z6) (some ((a.map (·.map C.d)) ++ ([[.d (.str s), .d (.int .i64 (IntKind.wrap .i64 (n + y))), .d (.int .i64 (gI b p 2))]] : List (List C)), (b.take p.toNat ++ b.drop (p.toNat + 1)).map (·.map C.d), (Yf c s).map (·.map C.d), n, true))))
      = some (up5 (a ++ [[.str s, .int .i64 (n + Yh (Yd (gI b p 2))), .int .i64 (Yd (gI b p 2))]], b.take p.toNat ++ b.drop (p.toNat + 1), Yf c s, n, true)) := by
      by_cases h : gI b p 2 < 1000
      · have hF : Yd (gI b p 2) = gI b p 2 + 1 := by unfold Yd; rw [if_neg (by omega)]
        rw [hF] at hd hff ⊢
        rw [dec_true h, cond_true, ZC (by omega) (by omega), l9Delay_fv (by omega) (by omega) hk, ZC (by omega) (by omega), guard_at (by simp only [map_len, List.length_singleton]; omega)]
        simp [up5]
      · have hF : Yd (gI b p 2) = gI b p 2 := by unfold Yd; rw [if_pos (by omega)]; omega
        rw [hF] at hd hff ⊢
        rw [dec_false h, cond_false, l9Delay_fv (by omega) (by omega) hk, ZC (by omega) (by omega), guard_at (by simp only [map_len, List.length_singleton]; omega)]
        simp [up5]
    by_cases h60 : (a.length : Int) = 60
    · rw [show ((a.length : Int) == 60) = true from by rw [beq_iff_eq]; exact h60, dec_false (show ¬ (a.length : Int) < 60 by omega)]
      cases w <;> cases Yi c s <;> rfl
    · rw [show ((a.length : Int) == 60) = false from by rw [beq_eq_false_iff_ne]; exact h60, dec_true (show (a.length : Int) < 60 by omega)]
      cases w
      · exact hdec
      · cases Yi c s
        · rfl
        · simp only [cond_true, Bool.not_true, cond_false, Bool.false_or, Bool.true_and]
          rw [guard_at (by simp only [map_len, List.length_singleton]; omega)]
          simp [up5]
theorem impl_Done_t {a b c : List (List D)} {n : Int} {s : ByteArray} {w : Bool} (g0 : Zm Ya lim a) (g1 : Zm Ya lim b) (g2 : Zm RS lim c) {k : Nat} (hk : Zar k) : impl_Done.t k a b c n s w = some (up5 (doneV a b c n s w)) := by
  have hlim : lim = 1048576 := rfl
  have hm : Z6 = 2 ^ 36 := rfl
  have hb : big = 2 ^ 64 := rfl
  have l0 := g0.1
  have l1 := g1.1
  have l2 := g2.1
  unfold impl_Done.t impl_Done.g
  rw [copyQueue_fv g0 g1 g2, itemAt_fv g1.2 (by omega) hk, QueueOkI g0 g1 g2 hk]
  unfold doneV
  cases hq : Yg a b c n
  · rfl
  obtain ⟨q0, q1, q2, q3, q4⟩ := Yk hq
  simp only [Bool.not_true, cond_false, Bool.true_and]
  by_cases hf : Yb b s < 0
  · rw [dec_true hf, dec_false (show ¬ 0 ≤ Yb b s by omega)]
    rfl
  have h1 := place_in (xs := b) (s := s) (by omega)
  obtain ⟨f0, f1⟩ := q4 _ (by omega) h1
  rw [dec_false hf, dec_true (show 0 ≤ Yb b s by omega)]
  generalize Yb b s = p at *
  have hd := Yl (Yd (gI b p 2))
  have hff : 1 ≤ Yd (gI b p 2) ∧ Yd (gI b p 2) ≤ 1000 := by unfold Yd; split <;> omega
  have hdel : ∀ {β : Type} (K : List (List C) → Option β), slices_Delete_impl_Item.f k (b.map (·.map C.d)) p (p + 1) K = K ((b.take p.toNat ++ b.drop (p.toNat + 1)).map (·.map C.d)) := fun K => slices_Delete_impl_Item.f_of (by
    unfold slices_Delete_impl_Item.t
    rw [guard_at ⟨by omega, by omega, by rw [map_len]; omega⟩, show (p + 1).toNat = p.toNat + 1 from by omega, List.map_append, List.map_take, List.map_drop]) K
  have hF : (if (1000 : Int) < gI b p 2 + 1 then (1000 : Int) else gI b p 2 + 1) = Yd (gI b p 2) := rfl
  have hmin : (if (6 : Int) < Yd (gI b p 2) - 1 then (6 : Int) else Yd (gI b p 2) - 1) = ((min (Yd (gI b p 2) - 1).toNat 6 : Nat) : Int) := by split <;> omega
  have hpow : (if (64 : Int) < IntKind.wrap .i64 (1 * 2 ^ (min (((min (Yd (gI b p 2) - 1).toNat 6 : Nat) : Int)).toNat 64)) then (64 : Int) else IntKind.wrap .i64 (1 * 2 ^ (min (((min (Yd (gI b p 2) - 1).toNat 6 : Nat) : Int)).toNat 64))) = Yh (Yd (gI b p 2)) := by
    unfold Yh
    rw [Int.toNat_natCast]
    obtain ⟨m, hm⟩ : ∃ m, m = min (Yd (gI b p 2) - 1).toNat 6 := ⟨_, rfl⟩
    rw [← hm]
    rcases (by omega : m = 0 ∨ m = 1 ∨ m = 2 ∨ m = 3 ∨ m = 4 ∨ m = 5 ∨ m = 6) with rfl | rfl | rfl | rfl | rfl | rfl | rfl <;> decide
  simp (disch := omega) only [cond_false, cond_true, Ya.row g1, uncons_at, dStr_at, dInt_self, atEnd_at, ZC, hdel, delFunc_fv g2 hk, hF, hmin, hpow, contains_fv g2 hk]
  simp only [map_len, List.length_singleton]
  cases w
  · simp only [Bool.not_false, cond_true, Bool.true_or, Bool.true_and]
    rw [guard_at (by omega)]
    cases decide ((a.length : Int) < 60)
    · rfl
    · simp only [cond_true]
      rw [guard_at (by omega)]
      simp [up5]
  · simp only [Bool.not_true, cond_false, Bool.false_or]
    cases Yi c s
    · rfl
    · simp only [cond_true, Bool.true_and]
      cases decide ((a.length : Int) < 60)
      · rfl
      · simp only [cond_true]
        rw [guard_at (by omega)]
        simp [up5]
theorem doneV_back {a b c : List (List D)} {n : Int} {s : ByteArray} {w : Bool} (g0 : Zm Ya lim a) (g1 : Zm Ya lim b) (g2 : Zm RS lim c) (gs : s.size ≤ lim) : Yj (up5 (doneV a b c n s w)).1 (up5 (doneV a b c n s w)).2.1 (up5 (doneV a b c n s w)).2.2.1 := by
  have hlim : lim = 1048576 := rfl
  have l0 := g0.1
  have l1 := g1.1
  have l2 := g2.1
  suffices h : ∃ x0 x1 x2 z, doneV a b c n s w = (x0, x1, x2, z) ∧ x0.length ≤ 2097152 ∧ x1.length ≤ 2097152 ∧ x2.length ≤ 2097152 ∧ (∀ r ∈ x0, Ya lim r) ∧ (∀ r ∈ x1, Ya lim r) ∧ ∀ r ∈ x2, RS lim r by
    obtain ⟨x0, x1, x2, z, e, h1, h2, h3, h4, h5, h6⟩ := h
    rw [e]
    exact ⟨x0, x1, x2, rfl, rfl, rfl, h1, h2, h3, h4, h5, h6⟩
  unfold doneV
  cases hq : Yg a b c n
  · exact ⟨_, _, _, _, rfl, by omega, by omega, by omega, g0.2, g1.2, g2.2⟩
  obtain ⟨q0, q1, q2, q3, q4⟩ := Yk hq
  by_cases hf : Yb b s < 0
  · rw [dec_false (show ¬ 0 ≤ Yb b s by omega)]
    exact ⟨_, _, _, _, rfl, by omega, by omega, by omega, g0.2, g1.2, g2.2⟩
  have h1 := place_in (xs := b) (s := s) (by omega)
  obtain ⟨f0, f1⟩ := q4 _ (by omega) h1
  rw [dec_true (show 0 ≤ Yb b s by omega)]
  generalize Yb b s = p at *
  have hd := Yl (Yd (gI b p 2))
  have hff : 1 ≤ Yd (gI b p 2) ∧ Yd (gI b p 2) ≤ 1000 := by unfold Yd; split <;> omega
  have hb' : ∀ r ∈ b.take p.toNat ++ b.drop (p.toNat + 1), Ya lim r := rows_app (rows_take g1.2) (rows_drop g1.2)
  have hbl : (b.take p.toNat ++ b.drop (p.toNat + 1)).length ≤ 2097152 := by rw [List.length_append, List.length_take, List.length_drop]; omega
  have hc' : ∀ r ∈ Yf c s, RS lim r := fun r hr => g2.2 r ((List.mem_filter.mp hr).1)
  have hcl : (Yf c s).length ≤ 2097152 := by have := List.length_filter_le (fun r => !strEq (rS r 0) s) c; unfold Yf; omega
  have hwf : ∀ x : Int, 0 ≤ x → x ≤ 1000064 → (Lit.int .i64 x).wf = true := fun x h0 h1 => by
    simp [Lit.wf, IntKind.min, IntKind.max, IntKind.signed, IntKind.bits]
    omega
  cases (!w || Yi c s) && decide ((a.length : Int) < 60)
  · exact ⟨_, _, _, _, rfl, by omega, hbl, hcl, g0.2, hb', hc'⟩
  · refine ⟨_, _, _, _, rfl, ?_, hbl, hcl, mem_snoc g0.2 ⟨_, _, _, rfl, gs, ?_, ?_, trivial⟩, hb', hc'⟩
    · rw [List.length_append, List.length_singleton]; omega
    · cases w
      · exact hwf _ (by simp only [cond_false]; omega) (by simp only [cond_false]; omega)
      · exact hwf _ (by simp only [cond_true]; omega) (by simp only [cond_true]; omega)
    · cases w
      · exact hwf _ (by simp only [cond_false]; omega) (by simp only [cond_false]; omega)
      · exact hwf _ (by simp) (by simp)
theorem spec_Done.T {a0_0 a0_1 a0_2 : List (List D)} {a0_3 : Int} {a1 : ByteArray} {a2 : Bool} (g0 : Zm Ya lim a0_0) (g1 : Zm Ya lim a0_1) (g2 : Zm RS lim a0_2) (gn : (Lit.int .i64 a0_3).wf = true) (gs : a1.size ≤ lim) : Tm Zar (fun k => spec_Done.t k a0_0 a0_1 a0_2 a0_3 a1 a2) (fun z => Zm Ya 2097152 (C.immRows z.1) ∧ ZE (C.immRows z.1) ≤ 1125899906842624 ∧ Zm Ya 2097152 (C.immRows z.2.1) ∧ ZE (C.immRows z.2.1) ≤ 1125899906842624 ∧ Zm RS 2097152 (C.immRows z.2.2.1) ∧ ZE (C.immRows z.2.2.1) ≤ 1125899906842624 ∧ True) := by
  refine Tm.of (fun k hk => spec_Done_t g0 g1 g2 hk) ?_
  obtain ⟨p1, p2, p3, p4, p5, p6⟩ := (doneV_back (n := a0_3) (w := a2) g0 g1 g2 gs).facts
  exact ⟨p1, p2, p3, p4, p5, p6, trivial⟩
theorem impl_Done.same {a0_0 a0_1 a0_2 : List (List D)} {a0_3 : Int} {a1 : ByteArray} {a2 : Bool} (g0 : Zm Ya lim a0_0) (g1 : Zm Ya lim a0_1) (g2 : Zm RS lim a0_2) (gn : (Lit.int .i64 a0_3).wf = true) (gs : a1.size ≤ lim) {k : Nat} (hk : Zar k) {z0 z1 z2 : List (List C)} {z3 : Int} {z4 : Bool} (hz : spec_Done.t k a0_0 a0_1 a0_2 a0_3 a1 a2 = some (z0, z1, z2, z3, z4)) : impl_Done.t k a0_0 a0_1 a0_2 a0_3 a1 a2 = some (Zs (C.immRows z0), Zs (C.immRows z1), Zs (C.immRows z2), z3, z4) := by
  rw [spec_Done_t g0 g1 g2 hk] at hz
  injection hz with hz
  obtain ⟨d0, d1, d2⟩ := (doneV_back (n := a0_3) (w := a2) g0 g1 g2 gs).deep
  rw [impl_Done_t g0 g1 g2 hk]
  rw [hz] at d0 d1 d2 ⊢
  simp only [] at d0 d1 d2
  rw [d0, d1, d2]
theorem laws_eqItem.f_of {β : Type} {k : Nat} {a0_0 : ByteArray} {a0_1 : Int} {a0_2 : Int} {a1_0 : ByteArray} {a1_1 : Int} {a1_2 : Int} {z0 : Bool} (h : laws_eqItem.t k a0_0 a0_1 a0_2 a1_0 a1_1 a1_2 = some z0) (K : Bool → Option β) : laws_eqItem.f k a0_0 a0_1 a0_2 a1_0 a1_1 a1_2 K = K z0 := by
  unfold laws_eqItem.f
  rw [h]
theorem laws_eqItem.tm {ι α : Type} {ok : ι → Prop} {ψ : α → Prop} {p : ι → Nat} {B : Nat} (hp : ∀ i, ok i → B ≤ p i) {a0_0 : ByteArray} {a0_1 : Int} {a0_2 : Int} {a1_0 : ByteArray} {a1_1 : Int} {a1_2 : Int} {φ : Bool → Prop} (h : Tm (fun k => B ≤ k) (fun k => laws_eqItem.t k a0_0 a0_1 a0_2 a1_0 a1_1 a1_2) φ) {G : ι → Bool → Option α} (hG : ∀ z0, φ z0 → Tm ok (fun ι0 => G ι0 z0) ψ) : Tm ok (fun ι0 => laws_eqItem.f (p ι0) a0_0 a0_1 a0_2 a1_0 a1_1 a1_2 (G ι0)) ψ := by
  obtain ⟨z0, h1, h2⟩ := h
  exact (hG z0 h1).congr fun i0 hi0 => laws_eqItem.f_of (h2 (p i0) (hp i0 hi0)) _
theorem laws_eqItem.T {B : Nat} {a0_0 : ByteArray} {a0_1 : Int} {a0_2 : Int} (ga0_0 : a0_0.size ≤ B) (hB : B ≤ 1099511627776) : Tm Zar (fun k => laws_eqItem.t k a0_0 a0_1 a0_2 a0_0 a0_1 a0_2) (fun r => r = true) := by
  unfold laws_eqItem.t laws_eqItem.g
  have hm := Za
  have hlim : lim = 1048576 := rfl
  refine Tm.ite (fun h1 => ?_) (fun h1 => ?_)
  · try simp only [bz0, bz1, bz2, bz3, bz4, bz5, bz6, bz7, bz8, bz9, bza] at h1
    exact Tm.ret (by first | rfl | (exfalso; simp [Zi] at *))
  · try simp only [bz0, bz1, bz2, bz3, bz4, bz5, bz6, bz7, bz8, bz9, bza] at h1
    refine Tm.ite (fun h2 => ?_) (fun h2 => ?_)
    · try simp only [bz0, bz1, bz2, bz3, bz4, bz5, bz6, bz7, bz8, bz9, bza] at h2
      exact Tm.ret (by first | rfl | (exfalso; simp [Zi] at *))
    · try simp only [bz0, bz1, bz2, bz3, bz4, bz5, bz6, bz7, bz8, bz9, bza] at h2
      refine Tm.ite (fun h3 => ?_) (fun h3 => ?_)
      · try simp only [bz0, bz1, bz2, bz3, bz4, bz5, bz6, bz7, bz8, bz9, bza] at h3
        exact Tm.ret (by first | rfl | (exfalso; simp [Zi] at *))
      · try simp only [bz0, bz1, bz2, bz3, bz4, bz5, bz6, bz7, bz8, bz9, bza] at h3
        exact Tm.ret (by first | rfl | (exfalso; simp [Zi] at *))
theorem laws_eqItemS.f_of {β : Type} {k : Nat} {a0 : List (List D)} {a1 : List (List D)} {z0 : Bool} (h : laws_eqItemS.t k a0 a1 = some z0) (K : Bool → Option β) : laws_eqItemS.f k a0 a1 K = K z0 := by
  unfold laws_eqItemS.f
  rw [h]
theorem laws_eqItemS.tm {ι α : Type} {ok : ι → Prop} {ψ : α → Prop} {p : ι → Nat} {B : Nat} (hp : ∀ i, ok i → B ≤ p i) {a0 : List (List D)} {a1 : List (List D)} {φ : Bool → Prop} (h : Tm (fun k => B ≤ k) (fun k => laws_eqItemS.t k a0 a1) φ) {G : ι → Bool → Option α} (hG : ∀ z0, φ z0 → Tm ok (fun ι0 => G ι0 z0) ψ) : Tm ok (fun ι0 => laws_eqItemS.f (p ι0) a0 a1 (G ι0)) ψ := by
  obtain ⟨z0, h1, h2⟩ := h
  exact (hG z0 h1).congr fun i0 hi0 => laws_eqItemS.f_of (h2 (p i0) (hp i0 hi0)) _
theorem laws_eqItemS.T {B : Nat} {a0 : List (List D)} (ga0 : Zm Ya B a0) (hB : B ≤ 1099511627776) : Tm Zar (fun k => laws_eqItemS.t k a0 a0) (fun r => r = true) := by
  unfold laws_eqItemS.t laws_eqItemS.g
  have hm := Za
  have hlim : lim = 1048576 := rfl
  have hlen := ga0.1
  refine Tm.ite (fun h1 => ?_) (fun h1 => ?_)
  · try simp only [bz0, bz1, bz2, bz3, bz4, bz5, bz6, bz7, bz8, bz9, bza] at h1
    exact Tm.ret (by first | rfl | (exfalso; simp [Zi] at *))
  · try simp only [bz0, bz1, bz2, bz3, bz4, bz5, bz6, bz7, bz8, bz9, bza] at h1
    refine Tm.loop (okk := Zar) (p := fun k => k) (fun i hi => hi) (b := fun k => laws_eqItemS.l0 k a0 a0 (fun z0 => some z0)) (fun i => (((a0.length : Int)) - i).toNat) (fun i => 0 ≤ i ∧ i ≤ (a0.length : Int)) ?_ ?_ ?_
    · rintro i hI
      try simp only [] at hI ⊢
      have : big = 2 ^ 64 := rfl
      have := ga0.1
      omega
    · ((try simp only []); omega)
    · rintro i hI L hL
      try simp only [] at hI
      obtain ⟨i0, i1⟩ := hI
      simp only [laws_eqItemS.l0]
      refine Tm.ite (fun h2 => ?_) (fun h2 => ?_)
      · try simp only [bz0, bz1, bz2, bz3, bz4, bz5, bz6, bz7, bz8, bz9, bza] at h2
        refine Tm.atRow (by first | assumption | omega) (by first | assumption | omega) (fun x3 hx4 hm5 => ?_)
        obtain ⟨c6, c7, c8, rfl, g9, g10, g11, _⟩ := (ga0.2 x3 hm5).open
        refine Tm.uncons ?_
        refine Tm.dStr ?_
        refine Tm.uncons ?_
        refine Tm.dInt ?_
        refine Tm.uncons ?_
        refine Tm.dInt ?_
        refine Tm.atEnd ?_
        refine Tm.atRow (by first | assumption | omega) (by first | assumption | omega) (fun x12 hx13 hm14 => ?_)
        rw [hx4] at hx13
        injection hx13 with hx13
        subst hx13
        refine Tm.uncons ?_
        refine Tm.dStr ?_
        refine Tm.uncons ?_
        refine Tm.dInt ?_
        refine Tm.uncons ?_
        refine Tm.dInt ?_
        refine Tm.atEnd ?_
        refine laws_eqItem.tm (fun i hi => hi.1) (laws_eqItem.T (by first | assumption | omega) (by first | assumption | omega)) (fun y19 hy18 => ?_)
        subst hy18
        refine Tm.ite (fun h20 => ?_) (fun h20 => ?_)
        · try simp only [bz0, bz1, bz2, bz3, bz4, bz5, bz6, bz7, bz8, bz9, bza] at h20
          exact Tm.ret (by first | rfl | (exfalso; simp [Zi] at *))
        · try simp only [bz0, bz1, bz2, bz3, bz4, bz5, bz6, bz7, bz8, bz9, bza] at h20
          try rw [ZC (x := i + 1) (by omega) (by omega)]
          exact hL _ (by (try simp only []); omega) (by (try simp only []); omega)
      · try simp only [bz0, bz1, bz2, bz3, bz4, bz5, bz6, bz7, bz8, bz9, bza] at h2
        exact Tm.ret (by first | rfl | (exfalso; simp [Zi] at *))
theorem laws_eqStringS.f_of {β : Type} {k : Nat} {a0 : List (List D)} {a1 : List (List D)} {z0 : Bool} (h : laws_eqStringS.t k a0 a1 = some z0) (K : Bool → Option β) : laws_eqStringS.f k a0 a1 K = K z0 := by
  unfold laws_eqStringS.f
  rw [h]
theorem laws_eqStringS.tm {ι α : Type} {ok : ι → Prop} {ψ : α → Prop} {p : ι → Nat} {B : Nat} (hp : ∀ i, ok i → B ≤ p i) {a0 : List (List D)} {a1 : List (List D)} {φ : Bool → Prop} (h : Tm (fun k => B ≤ k) (fun k => laws_eqStringS.t k a0 a1) φ) {G : ι → Bool → Option α} (hG : ∀ z0, φ z0 → Tm ok (fun ι0 => G ι0 z0) ψ) : Tm ok (fun ι0 => laws_eqStringS.f (p ι0) a0 a1 (G ι0)) ψ := by
  obtain ⟨z0, h1, h2⟩ := h
  exact (hG z0 h1).congr fun i0 hi0 => laws_eqStringS.f_of (h2 (p i0) (hp i0 hi0)) _
theorem laws_eqStringS.T {B : Nat} {a0 : List (List D)} (ga0 : Zm RS B a0) (hB : B ≤ 1099511627776) : Tm Zar (fun k => laws_eqStringS.t k a0 a0) (fun r => r = true) := by
  unfold laws_eqStringS.t laws_eqStringS.g
  have hm := Za
  have hlim : lim = 1048576 := rfl
  have hlen := ga0.1
  refine Tm.ite (fun h1 => ?_) (fun h1 => ?_)
  · try simp only [bz0, bz1, bz2, bz3, bz4, bz5, bz6, bz7, bz8, bz9, bza] at h1
    exact Tm.ret (by first | rfl | (exfalso; simp [Zi] at *))
  · try simp only [bz0, bz1, bz2, bz3, bz4, bz5, bz6, bz7, bz8, bz9, bza] at h1
    refine Tm.loop (okk := Zar) (p := fun k => k) (fun i hi => hi) (b := fun k => laws_eqStringS.l0 k a0 a0 (fun z0 => some z0)) (fun i => (((a0.length : Int)) - i).toNat) (fun i => 0 ≤ i ∧ i ≤ (a0.length : Int)) ?_ ?_ ?_
    · rintro i hI
      try simp only [] at hI ⊢
      have : big = 2 ^ 64 := rfl
      have := ga0.1
      omega
    · ((try simp only []); omega)
    · rintro i hI L hL
      try simp only [] at hI
      obtain ⟨i0, i1⟩ := hI
      simp only [laws_eqStringS.l0]
      refine Tm.ite (fun h2 => ?_) (fun h2 => ?_)
      · try simp only [bz0, bz1, bz2, bz3, bz4, bz5, bz6, bz7, bz8, bz9, bza] at h2
        refine Tm.atRow (by first | assumption | omega) (by first | assumption | omega) (fun x3 hx4 hm5 => ?_)
        obtain ⟨c6, rfl, g7, _⟩ := (ga0.2 x3 hm5).open
        refine Tm.uncons ?_
        refine Tm.dStr ?_
        refine Tm.atEnd ?_
        refine Tm.atRow (by first | assumption | omega) (by first | assumption | omega) (fun x8 hx9 hm10 => ?_)
        rw [hx4] at hx9
        injection hx9 with hx9
        subst hx9
        refine Tm.uncons ?_
        refine Tm.dStr ?_
        refine Tm.atEnd ?_
        refine Tm.ite (fun h12 => ?_) (fun h12 => ?_)
        · try simp only [bz0, bz1, bz2, bz3, bz4, bz5, bz6, bz7, bz8, bz9, bza] at h12
          exact Tm.ret (by first | rfl | (exfalso; simp [Zi] at *))
        · try simp only [bz0, bz1, bz2, bz3, bz4, bz5, bz6, bz7, bz8, bz9, bza] at h12
          try rw [ZC (x := i + 1) (by omega) (by omega)]
          exact hL _ (by (try simp only []); omega) (by (try simp only []); omega)
      · try simp only [bz0, bz1, bz2, bz3, bz4, bz5, bz6, bz7, bz8, bz9, bza] at h2
        exact Tm.ret (by first | rfl | (exfalso; simp [Zi] at *))
theorem laws_eqQueue.f_of {β : Type} {k : Nat} {a0_0 : List (List D)} {a0_1 : List (List D)} {a0_2 : List (List D)} {a0_3 : Int} {a1_0 : List (List D)} {a1_1 : List (List D)} {a1_2 : List (List D)} {a1_3 : Int} {z0 : Bool} (h : laws_eqQueue.t k a0_0 a0_1 a0_2 a0_3 a1_0 a1_1 a1_2 a1_3 = some z0) (K : Bool → Option β) : laws_eqQueue.f k a0_0 a0_1 a0_2 a0_3 a1_0 a1_1 a1_2 a1_3 K = K z0 := by
  unfold laws_eqQueue.f
  rw [h]
theorem laws_eqQueue.tm {ι α : Type} {ok : ι → Prop} {ψ : α → Prop} {p : ι → Nat} {B : Nat} (hp : ∀ i, ok i → B ≤ p i) {a0_0 : List (List D)} {a0_1 : List (List D)} {a0_2 : List (List D)} {a0_3 : Int} {a1_0 : List (List D)} {a1_1 : List (List D)} {a1_2 : List (List D)} {a1_3 : Int} {φ : Bool → Prop} (h : Tm (fun k => B ≤ k) (fun k => laws_eqQueue.t k a0_0 a0_1 a0_2 a0_3 a1_0 a1_1 a1_2 a1_3) φ) {G : ι → Bool → Option α} (hG : ∀ z0, φ z0 → Tm ok (fun ι0 => G ι0 z0) ψ) : Tm ok (fun ι0 => laws_eqQueue.f (p ι0) a0_0 a0_1 a0_2 a0_3 a1_0 a1_1 a1_2 a1_3 (G ι0)) ψ := by
  obtain ⟨z0, h1, h2⟩ := h
  exact (hG z0 h1).congr fun i0 hi0 => laws_eqQueue.f_of (h2 (p i0) (hp i0 hi0)) _
theorem laws_eqQueue.T {B : Nat} {a0_0 : List (List D)} {a0_1 : List (List D)} {a0_2 : List (List D)} {a0_3 : Int} (ga0_0 : Zm Ya B a0_0) (ga0_1 : Zm Ya B a0_1) (ga0_2 : Zm RS B a0_2) (hB : B ≤ 1099511627776) : Tm Zar (fun k => laws_eqQueue.t k a0_0 a0_1 a0_2 a0_3 a0_0 a0_1 a0_2 a0_3) (fun r => r = true) := by
  unfold laws_eqQueue.t laws_eqQueue.g
  have hm := Za
  have hlim : lim = 1048576 := rfl
  refine laws_eqItemS.tm (fun i hi => hi) (laws_eqItemS.T (by first | assumption | omega) (by first | assumption | omega)) (fun y2 hy1 => ?_)
  subst hy1
  refine Tm.ite (fun h3 => ?_) (fun h3 => ?_)
  · try simp only [bz0, bz1, bz2, bz3, bz4, bz5, bz6, bz7, bz8, bz9, bza] at h3
    exact Tm.ret (by first | rfl | (exfalso; simp [Zi] at *))
  · try simp only [bz0, bz1, bz2, bz3, bz4, bz5, bz6, bz7, bz8, bz9, bza] at h3
    refine laws_eqItemS.tm (fun i hi => hi) (laws_eqItemS.T (by first | assumption | omega) (by first | assumption | omega)) (fun y5 hy4 => ?_)
    subst hy4
    refine Tm.ite (fun h6 => ?_) (fun h6 => ?_)
    · try simp only [bz0, bz1, bz2, bz3, bz4, bz5, bz6, bz7, bz8, bz9, bza] at h6
      exact Tm.ret (by first | rfl | (exfalso; simp [Zi] at *))
    · try simp only [bz0, bz1, bz2, bz3, bz4, bz5, bz6, bz7, bz8, bz9, bza] at h6
      refine laws_eqStringS.tm (fun i hi => hi) (laws_eqStringS.T (by first | assumption | omega) (by first | assumption | omega)) (fun y8 hy7 => ?_)
      subst hy7
      refine Tm.ite (fun h9 => ?_) (fun h9 => ?_)
      · try simp only [bz0, bz1, bz2, bz3, bz4, bz5, bz6, bz7, bz8, bz9, bza] at h9
        exact Tm.ret (by first | rfl | (exfalso; simp [Zi] at *))
      · try simp only [bz0, bz1, bz2, bz3, bz4, bz5, bz6, bz7, bz8, bz9, bza] at h9
        refine Tm.ite (fun h10 => ?_) (fun h10 => ?_)
        · try simp only [bz0, bz1, bz2, bz3, bz4, bz5, bz6, bz7, bz8, bz9, bza] at h10
          exact Tm.ret (by first | rfl | (exfalso; simp [Zi] at *))
        · try simp only [bz0, bz1, bz2, bz3, bz4, bz5, bz6, bz7, bz8, bz9, bza] at h10
          exact Tm.ret (by first | rfl | (exfalso; simp [Zi] at *))
theorem laws_markText.f_of {β : Type} {k : Nat} {a0 : Int} {z0 : ByteArray} (h : laws_markText.t k a0 = some z0) (K : ByteArray → Option β) : laws_markText.f k a0 K = K z0 := by
  unfold laws_markText.f
  rw [h]
theorem laws_markText.tm {ι α : Type} {ok : ι → Prop} {ψ : α → Prop} {p : ι → Nat} {B : Nat} (hp : ∀ i, ok i → B ≤ p i) {a0 : Int} {φ : ByteArray → Prop} (h : Tm (fun k => B ≤ k) (fun k => laws_markText.t k a0) φ) {G : ι → ByteArray → Option α} (hG : ∀ z0, φ z0 → Tm ok (fun ι0 => G ι0 z0) ψ) : Tm ok (fun ι0 => laws_markText.f (p ι0) a0 (G ι0)) ψ := by
  obtain ⟨z0, h1, h2⟩ := h
  exact (hG z0 h1).congr fun i0 hi0 => laws_markText.f_of (h2 (p i0) (hp i0 hi0)) _
theorem laws_markText.T {a0 : Int} (h1 : a0 ≤ 4611686018427387904) : Tm Zar (fun k => laws_markText.t k a0) (fun _ => True) := by
  unfold laws_markText.t laws_markText.g
  have hb : big = 2 ^ 64 := rfl
  refine Tm.ite (fun _ => Tm.ret trivial) (fun h => ?_)
  simp only [decide_eq_false_iff_not, Int.not_le] at h
  refine Tm.loop (okk := Zar) (p := fun k => k) (fun i hi => hi) (b := fun k => laws_markText.l0 k (fun z0 => some z0)) (fun v => match v with | (u, s) => u.toNat) (fun v => match v with | (u, s) => 0 ≤ u ∧ u + s.size ≤ a0) ?_ ?_ ?_
  · rintro ⟨u, s⟩ hI
    simp only [] at hI ⊢
    omega
  · simp only []
    have : (⟨#[]⟩ : ByteArray).size = 0 := rfl
    omega
  · rintro ⟨u, s⟩ hI L hL
    simp only [] at hI
    obtain ⟨u0, u1⟩ := hI
    simp only [laws_markText.l0]
    refine Tm.ite (fun h4 => ?_) (fun h4 => ?_)
    · simp only [decide_eq_true_eq] at h4
      have e1 : ∀ x : UInt8, (⟨#[x]⟩ : ByteArray).size = 1 := fun _ => rfl
      have ed : Int.tdiv u 10 = u / 10 := Int.tdiv_eq_ediv_of_nonneg (by omega)
      refine Tm.guard (by decide) (Tm.guard (by rw [e1]; omega) (Tm.guard (by decide) ?_))
      rw [ed, ZC (x := u / 10) (by omega) (by omega)]
      refine hL (_, _) ⟨by omega, ?_⟩ (by simp only []; omega)
      rw [ByteArray.size_append, e1]
      omega
    · have e1 : (⟨#[109]⟩ : ByteArray).size = 1 := rfl
      exact Tm.guard (by rw [e1]; omega) (Tm.ret trivial)
noncomputable def laws_markText.v (a0 : Int) : ByteArray := (laws_markText.t big a0).getD default
theorem laws_markText.tv {a0 : Int} (h1 : a0 ≤ 4611686018427387904) {k : Nat} (hk : Zar k) : laws_markText.t k a0 = some (laws_markText.v a0) := (laws_markText.T h1).val hk
theorem laws_markText.fv {a0 : Int} (h1 : a0 ≤ 4611686018427387904) {k : Nat} (hk : Zar k) {β : Type} (K : ByteArray → Option β) : laws_markText.f k a0 K = K (laws_markText.v a0) := laws_markText.f_of (laws_markText.tv h1 hk) K
theorem laws_markItemS.f_of {β : Type} {k : Nat} {a0 : List (List C)} {a1 : Int} {z0 : Int} {z1 : List (List C)} (h : laws_markItemS.t k a0 a1 = some (z0, z1)) (K : Int → (List (List C)) → Option β) : laws_markItemS.f k a0 a1 K = K z0 z1 := by
  unfold laws_markItemS.f
  rw [h]
theorem laws_markItemS.tm {ι α : Type} {ok : ι → Prop} {ψ : α → Prop} {p : ι → Nat} {B : Nat} (hp : ∀ i, ok i → B ≤ p i) {a0 : List (List C)} {a1 : Int} {φ : Int × (List (List C)) → Prop} (h : Tm (fun k => B ≤ k) (fun k => laws_markItemS.t k a0 a1) φ) {G : ι → Int → (List (List C)) → Option α} (hG : ∀ z0 z1, φ (z0, z1) → Tm ok (fun ι0 => G ι0 z0 z1) ψ) : Tm ok (fun ι0 => laws_markItemS.f (p ι0) a0 a1 (G ι0)) ψ := by
  obtain ⟨⟨z0, z1⟩, h1, h2⟩ := h
  exact (hG z0 z1 h1).congr fun i0 hi0 => laws_markItemS.f_of (h2 (p i0) (hp i0 hi0)) _
theorem laws_markStringS.f_of {β : Type} {k : Nat} {a0 : List (List C)} {a1 : Int} {z0 : Int} {z1 : List (List C)} (h : laws_markStringS.t k a0 a1 = some (z0, z1)) (K : Int → (List (List C)) → Option β) : laws_markStringS.f k a0 a1 K = K z0 z1 := by
  unfold laws_markStringS.f
  rw [h]
theorem laws_markStringS.tm {ι α : Type} {ok : ι → Prop} {ψ : α → Prop} {p : ι → Nat} {B : Nat} (hp : ∀ i, ok i → B ≤ p i) {a0 : List (List C)} {a1 : Int} {φ : Int × (List (List C)) → Prop} (h : Tm (fun k => B ≤ k) (fun k => laws_markStringS.t k a0 a1) φ) {G : ι → Int → (List (List C)) → Option α} (hG : ∀ z0 z1, φ (z0, z1) → Tm ok (fun ι0 => G ι0 z0 z1) ψ) : Tm ok (fun ι0 => laws_markStringS.f (p ι0) a0 a1 (G ι0)) ψ := by
  obtain ⟨⟨z0, z1⟩, h1, h2⟩ := h
  exact (hG z0 z1 h1).congr fun i0 hi0 => laws_markStringS.f_of (h2 (p i0) (hp i0 hi0)) _
theorem laws_markQueue.f_of {β : Type} {k : Nat} {a0_0 : List (List C)} {a0_1 : List (List C)} {a0_2 : List (List C)} {a0_3 : Int} {a1 : Int} {z0 : Int} {z1 : List (List C)} {z2 : List (List C)} {z3 : List (List C)} (h : laws_markQueue.t k a0_0 a0_1 a0_2 a0_3 a1 = some (z0, z1, z2, z3)) (K : Int → (List (List C)) → (List (List C)) → (List (List C)) → Option β) : laws_markQueue.f k a0_0 a0_1 a0_2 a0_3 a1 K = K z0 z1 z2 z3 := by
  unfold laws_markQueue.f
  rw [h]
theorem laws_markQueue.tm {ι α : Type} {ok : ι → Prop} {ψ : α → Prop} {p : ι → Nat} {B : Nat} (hp : ∀ i, ok i → B ≤ p i) {a0_0 : List (List C)} {a0_1 : List (List C)} {a0_2 : List (List C)} {a0_3 : Int} {a1 : Int} {φ : Int × (List (List C)) × (List (List C)) × (List (List C)) → Prop} (h : Tm (fun k => B ≤ k) (fun k => laws_markQueue.t k a0_0 a0_1 a0_2 a0_3 a1) φ) {G : ι → Int → (List (List C)) → (List (List C)) → (List (List C)) → Option α} (hG : ∀ z0 z1 z2 z3, φ (z0, z1, z2, z3) → Tm ok (fun ι0 => G ι0 z0 z1 z2 z3) ψ) : Tm ok (fun ι0 => laws_markQueue.f (p ι0) a0_0 a0_1 a0_2 a0_3 a1 (G ι0)) ψ := by
  obtain ⟨⟨z0, z1, z2, z3⟩, h1, h2⟩ := h
  exact (hG z0 z1 z2 z3 h1).congr fun i0 hi0 => laws_markQueue.f_of (h2 (p i0) (hp i0 hi0)) _
theorem laws_heldItemS.f_of {β : Type} {k : Nat} {a0 : List (List D)} {a1 : Int} {z0 : Int} (h : laws_heldItemS.t k a0 a1 = some z0) (K : Int → Option β) : laws_heldItemS.f k a0 a1 K = K z0 := by
  unfold laws_heldItemS.f
  rw [h]
theorem laws_heldItemS.tm {ι α : Type} {ok : ι → Prop} {ψ : α → Prop} {p : ι → Nat} {B : Nat} (hp : ∀ i, ok i → B ≤ p i) {a0 : List (List D)} {a1 : Int} {φ : Int → Prop} (h : Tm (fun k => B ≤ k) (fun k => laws_heldItemS.t k a0 a1) φ) {G : ι → Int → Option α} (hG : ∀ z0, φ z0 → Tm ok (fun ι0 => G ι0 z0) ψ) : Tm ok (fun ι0 => laws_heldItemS.f (p ι0) a0 a1 (G ι0)) ψ := by
  obtain ⟨z0, h1, h2⟩ := h
  exact (hG z0 h1).congr fun i0 hi0 => laws_heldItemS.f_of (h2 (p i0) (hp i0 hi0)) _
set_option maxRecDepth 100000 in
set_option maxHeartbeats 8000000 in
theorem laws_heldItemS.step {u : Int}  (h0 : 0 ≤ u)  (h1 : u + 1 + 1 + 1 ≤ 4611686018427387904) {k : Nat} (hk : Zar k) : HStep (fun xs L v => laws_heldItemS.l0 k xs (fun z0 => some z0) L v) u [.str (laws_markText.v (u)), .int .i64 (u + 1), .int .i64 (u + 1 + 1)] (u + 1 + 1 + 1) := by
  have hk0 : Zar k := hk
  intro xs i i0 i1 hl hr L
  simp (maxSteps := 4000000) (disch := first | assumption | omega) only [laws_heldItemS.l0, dec_true i1, cond_true, cond_false, ZbB i0 i1, hr, uncons_at, dInt_self, dStr_at, dBool_at, dSl_at, atEnd_at, ZC, laws_markText.fv, Zi, bne_self_eq_false, beq_self_eq_true, Bool.not_true]
set_option maxRecDepth 100000 in
set_option maxHeartbeats 8000000 in
theorem laws_markItemS.T {B : Nat} (hB : B ≤ 1099511627776) {xs : List (List D)} {n : Int} (g : Zm Ya B xs) (h0 : 0 ≤ n) (h1 : n + ZE xs ≤ 4611686018427387904) : Tm Zar (fun k => laws_markItemS.t k (Zs xs) n) (fun z => ∃ ys, z.2 = Zs ys ∧ ys.length = xs.length ∧ z.1 = n + ZE xs ∧ ∀ k, Zar k → laws_heldItemS.t k ys n = some z.1) := by
  have hb : big = 2 ^ 64 := rfl
  have hl := g.1
  have key : Tm Zar (fun k => laws_markItemS.t k (Zs xs) n) (fun z => ∃ ys, z.2 = Zs ys ∧ ys.length = xs.length ∧ z.1 = n + ZE xs ∧ HeldL (fun u r u' => ∀ k, Zar k → HStep (fun xs L v => laws_heldItemS.l0 k xs (fun z0 => some z0) L v) u r u') n ys z.1) := by
    unfold laws_markItemS.t laws_markItemS.g
    refine Tm.loop (okk := Zar) (p := fun k => k) (fun i hi => hi) (b := fun k => laws_markItemS.l0 k (fun z0 z1 => some (z0, z1))) (fun v => match v with | (u, i, tab) => ((xs.length : Int) - i).toNat) (fun v => match v with | (u, i, tab) => 0 ≤ i ∧ i ≤ xs.length ∧ ∃ done : List (List D), done.length = i.toNat ∧ tab = Zs done ++ Zs (xs.drop i.toNat) ∧ u = n + ZE (xs.take i.toNat) ∧ HeldL (fun u r u' => ∀ k, Zar k → HStep (fun xs L v => laws_heldItemS.l0 k xs (fun z0 => some z0) L v) u r u') n done u) ?_ ?_ ?_
    · rintro ⟨u, i, tab⟩ hI
      simp only [] at hI ⊢
      omega
    · exact ⟨by omega, by omega, [], rfl, by simp [Zs], by simp [ZE], .nil⟩
    · rintro ⟨u, i, tab⟩ hI L hL
      simp only [] at hI
      obtain ⟨i0, i1, done, hd, rfl, hu, hH⟩ := hI
      have hA : (Zs done).length = i.toNat := by rw [deepRows_length, hd]
      have hT : (Zs done ++ Zs (xs.drop i.toNat)).length = xs.length := by rw [List.length_append, hA, deepRows_length, List.length_drop]; omega
      simp only [laws_markItemS.l0]
      refine Tm.ite (fun h4 => ?_) (fun h4 => ?_)
      · simp only [decide_eq_true_eq, hT] at h4
        have hx := gR_at i0 h4
        obtain ⟨c0, c1, c2, e, k0, k1, k2, _⟩ := (g.2 _ (gR_mem i0 h4)).open
        rw [e] at hx
        have hdr := drop_at i0 hx
        have hw := Zb4 i0 hx
        simp only [Zbi, wtD] at hw
        have hs := wt_split xs (i + 1).toNat
        rw [hdr] at hT ⊢
        simp only [Zs, Zal, deepD] at hT ⊢
        have hT2 := hT
        simp only [List.length_append, List.length_cons] at hT2
        try simp (disch := omega) only [ZC]
        refine laws_markText.tm (fun i hi => hi.1) (Tm.at (ok := Zar) (v := laws_markText.v _) (fun k hk => laws_markText.tv (by omega) hk)) (fun y hy => ?_)
        subst hy
        refine Tm.guard (by first | decide | (simp only [List.length_modify, List.length_append, List.length_cons]; omega)) ?_
        refine Tm.guard (by first | decide | (simp only [List.length_modify, List.length_append, List.length_cons]; omega)) ?_
        refine Tm.guard (by first | decide | (simp only [List.length_modify, List.length_append, List.length_cons]; omega)) ?_
        refine Tm.guard (by first | decide | (simp only [List.length_modify, List.length_append, List.length_cons]; omega)) ?_
        refine Tm.guard (by first | decide | (simp only [List.length_modify, List.length_append, List.length_cons]; omega)) ?_
        refine Tm.guard (by first | decide | (simp only [List.length_modify, List.length_append, List.length_cons]; omega)) ?_
        try simp (disch := omega) only [ZC]
        try simp only [modify_mid hA, Z1, List.take_zero, List.take_succ_cons, List.drop_succ_cons, List.drop_zero, List.nil_append, List.cons_append, List.length_cons, List.length_nil, Nat.zero_add, Nat.reduceAdd, List.set_cons_succ, List.set_cons_zero]
        refine hL (_, _, _) ⟨by omega, by omega, done ++ [[.str (laws_markText.v (u)), .int .i64 (u + 1), .int .i64 (u + 1 + 1)]], by simp only [List.length_append, List.length_cons, List.length_nil]; omega, ?_, by omega, HeldL.snoc hH (fun k hk => laws_heldItemS.step (by omega) (by omega) hk)⟩ (by simp only []; omega)
        rw [Zcf]
        simp only [Zs, Zal, deepD, List.append_assoc, List.cons_append, List.nil_append]
      · simp only [decide_eq_false_iff_not, hT] at h4
        refine Tm.ret ⟨done, ?_, by omega, ?_, hH⟩
        · rw [List.drop_eq_nil_of_le (by omega)]
          simp only [Zs, List.append_nil]
        · rw [List.take_of_length_le (by omega)] at hu
          exact hu
  obtain ⟨v, ⟨ys, e1, e2, e3, hH⟩, h2⟩ := key
  exact ⟨v, ⟨ys, e1, e2, e3, fun k hk => by
    have hk0 : Zar k := hk
    unfold laws_heldItemS.t laws_heldItemS.g
    exact held_run (b := fun xs L v => laws_heldItemS.l0 k xs (fun z0 => some z0) L v) (by omega) (hH.mono fun _ _ _ h => h k hk) (by omega) (fun L => by simp [laws_heldItemS.l0])⟩, h2⟩
theorem laws_heldStringS.f_of {β : Type} {k : Nat} {a0 : List (List D)} {a1 : Int} {z0 : Int} (h : laws_heldStringS.t k a0 a1 = some z0) (K : Int → Option β) : laws_heldStringS.f k a0 a1 K = K z0 := by
  unfold laws_heldStringS.f
  rw [h]
theorem laws_heldStringS.tm {ι α : Type} {ok : ι → Prop} {ψ : α → Prop} {p : ι → Nat} {B : Nat} (hp : ∀ i, ok i → B ≤ p i) {a0 : List (List D)} {a1 : Int} {φ : Int → Prop} (h : Tm (fun k => B ≤ k) (fun k => laws_heldStringS.t k a0 a1) φ) {G : ι → Int → Option α} (hG : ∀ z0, φ z0 → Tm ok (fun ι0 => G ι0 z0) ψ) : Tm ok (fun ι0 => laws_heldStringS.f (p ι0) a0 a1 (G ι0)) ψ := by
  obtain ⟨z0, h1, h2⟩ := h
  exact (hG z0 h1).congr fun i0 hi0 => laws_heldStringS.f_of (h2 (p i0) (hp i0 hi0)) _
set_option maxRecDepth 100000 in
set_option maxHeartbeats 8000000 in
theorem laws_heldStringS.step {u : Int}  (h0 : 0 ≤ u)  (h1 : u + 1 ≤ 4611686018427387904) {k : Nat} (hk : Zar k) : HStep (fun xs L v => laws_heldStringS.l0 k xs (fun z0 => some z0) L v) u [.str (laws_markText.v (u))] (u + 1) := by
  have hk0 : Zar k := hk
  intro xs i i0 i1 hl hr L
  simp (maxSteps := 4000000) (disch := first | assumption | omega) only [laws_heldStringS.l0, dec_true i1, cond_true, cond_false, ZbB i0 i1, hr, uncons_at, dInt_self, dStr_at, dBool_at, dSl_at, atEnd_at, ZC, laws_markText.fv, Zi, bne_self_eq_false, beq_self_eq_true, Bool.not_true]
set_option maxRecDepth 100000 in
set_option maxHeartbeats 8000000 in
theorem laws_markStringS.T {B : Nat} (hB : B ≤ 1099511627776) {xs : List (List D)} {n : Int} (g : Zm RS B xs) (h0 : 0 ≤ n) (h1 : n + ZE xs ≤ 4611686018427387904) : Tm Zar (fun k => laws_markStringS.t k (Zs xs) n) (fun z => ∃ ys, z.2 = Zs ys ∧ ys.length = xs.length ∧ z.1 = n + ZE xs ∧ ∀ k, Zar k → laws_heldStringS.t k ys n = some z.1) := by
  have hb : big = 2 ^ 64 := rfl
  have hl := g.1
  have key : Tm Zar (fun k => laws_markStringS.t k (Zs xs) n) (fun z => ∃ ys, z.2 = Zs ys ∧ ys.length = xs.length ∧ z.1 = n + ZE xs ∧ HeldL (fun u r u' => ∀ k, Zar k → HStep (fun xs L v => laws_heldStringS.l0 k xs (fun z0 => some z0) L v) u r u') n ys z.1) := by
    unfold laws_markStringS.t laws_markStringS.g
    refine Tm.loop (okk := Zar) (p := fun k => k) (fun i hi => hi) (b := fun k => laws_markStringS.l0 k (fun z0 z1 => some (z0, z1))) (fun v => match v with | (u, i, tab) => ((xs.length : Int) - i).toNat) (fun v => match v with | (u, i, tab) => 0 ≤ i ∧ i ≤ xs.length ∧ ∃ done : List (List D), done.length = i.toNat ∧ tab = Zs done ++ Zs (xs.drop i.toNat) ∧ u = n + ZE (xs.take i.toNat) ∧ HeldL (fun u r u' => ∀ k, Zar k → HStep (fun xs L v => laws_heldStringS.l0 k xs (fun z0 => some z0) L v) u r u') n done u) ?_ ?_ ?_
    · rintro ⟨u, i, tab⟩ hI
      simp only [] at hI ⊢
      omega
    · exact ⟨by omega, by omega, [], rfl, by simp [Zs], by simp [ZE], .nil⟩
    · rintro ⟨u, i, tab⟩ hI L hL
      simp only [] at hI
      obtain ⟨i0, i1, done, hd, rfl, hu, hH⟩ := hI
      have hA : (Zs done).length = i.toNat := by rw [deepRows_length, hd]
      have hT : (Zs done ++ Zs (xs.drop i.toNat)).length = xs.length := by rw [List.length_append, hA, deepRows_length, List.length_drop]; omega
      simp only [laws_markStringS.l0]
      refine Tm.ite (fun h4 => ?_) (fun h4 => ?_)
      · simp only [decide_eq_true_eq, hT] at h4
        have hx := gR_at i0 h4
        obtain ⟨c0, e, k0, _⟩ := (g.2 _ (gR_mem i0 h4)).open
        rw [e] at hx
        have hdr := drop_at i0 hx
        have hw := Zb4 i0 hx
        simp only [Zbi, wtD] at hw
        have hs := wt_split xs (i + 1).toNat
        rw [hdr] at hT ⊢
        simp only [Zs, Zal, deepD] at hT ⊢
        have hT2 := hT
        simp only [List.length_append, List.length_cons] at hT2
        try simp (disch := omega) only [ZC]
        refine laws_markText.tm (fun i hi => hi.1) (Tm.at (ok := Zar) (v := laws_markText.v _) (fun k hk => laws_markText.tv (by omega) hk)) (fun y hy => ?_)
        subst hy
        refine Tm.guard (by first | decide | (simp only [List.length_modify, List.length_append, List.length_cons]; omega)) ?_
        refine Tm.guard (by first | decide | (simp only [List.length_modify, List.length_append, List.length_cons]; omega)) ?_
        try simp (disch := omega) only [ZC]
        try simp only [modify_mid hA, Z1, List.take_zero, List.take_succ_cons, List.drop_succ_cons, List.drop_zero, List.nil_append, List.cons_append, List.length_cons, List.length_nil, Nat.zero_add, Nat.reduceAdd, List.set_cons_succ, List.set_cons_zero]
        refine hL (_, _, _) ⟨by omega, by omega, done ++ [[.str (laws_markText.v (u))]], by simp only [List.length_append, List.length_cons, List.length_nil]; omega, ?_, by omega, HeldL.snoc hH (fun k hk => laws_heldStringS.step (by omega) (by omega) hk)⟩ (by simp only []; omega)
        rw [Zcf]
        simp only [Zs, Zal, deepD, List.append_assoc, List.cons_append, List.nil_append]
      · simp only [decide_eq_false_iff_not, hT] at h4
        refine Tm.ret ⟨done, ?_, by omega, ?_, hH⟩
        · rw [List.drop_eq_nil_of_le (by omega)]
          simp only [Zs, List.append_nil]
        · rw [List.take_of_length_le (by omega)] at hu
          exact hu
  obtain ⟨v, ⟨ys, e1, e2, e3, hH⟩, h2⟩ := key
  exact ⟨v, ⟨ys, e1, e2, e3, fun k hk => by
    have hk0 : Zar k := hk
    unfold laws_heldStringS.t laws_heldStringS.g
    exact held_run (b := fun xs L v => laws_heldStringS.l0 k xs (fun z0 => some z0) L v) (by omega) (hH.mono fun _ _ _ h => h k hk) (by omega) (fun L => by simp [laws_heldStringS.l0])⟩, h2⟩
theorem laws_heldQueue.f_of {β : Type} {k : Nat} {a0_0 : List (List D)} {a0_1 : List (List D)} {a0_2 : List (List D)} {a0_3 : Int} {a1 : Int} {z0 : Int} (h : laws_heldQueue.t k a0_0 a0_1 a0_2 a0_3 a1 = some z0) (K : Int → Option β) : laws_heldQueue.f k a0_0 a0_1 a0_2 a0_3 a1 K = K z0 := by
  unfold laws_heldQueue.f
  rw [h]
theorem laws_heldQueue.tm {ι α : Type} {ok : ι → Prop} {ψ : α → Prop} {p : ι → Nat} {B : Nat} (hp : ∀ i, ok i → B ≤ p i) {a0_0 : List (List D)} {a0_1 : List (List D)} {a0_2 : List (List D)} {a0_3 : Int} {a1 : Int} {φ : Int → Prop} (h : Tm (fun k => B ≤ k) (fun k => laws_heldQueue.t k a0_0 a0_1 a0_2 a0_3 a1) φ) {G : ι → Int → Option α} (hG : ∀ z0, φ z0 → Tm ok (fun ι0 => G ι0 z0) ψ) : Tm ok (fun ι0 => laws_heldQueue.f (p ι0) a0_0 a0_1 a0_2 a0_3 a1 (G ι0)) ψ := by
  obtain ⟨z0, h1, h2⟩ := h
  exact (hG z0 h1).congr fun i0 hi0 => laws_heldQueue.f_of (h2 (p i0) (hp i0 hi0)) _
set_option maxRecDepth 100000 in
set_option maxHeartbeats 8000000 in
theorem laws_markQueue.T {B : Nat} (hB : B ≤ 1099511627776) {c3 : Int} {a0 a1 a2 : List (List D)} {n : Int} (g0 : Zm Ya B a0) (g1 : Zm Ya B a1) (g2 : Zm RS B a2) (h0 : 0 ≤ n) (h1 : n + ZE a0 + ZE a1 + ZE a2 ≤ 4611686018427387904) : Tm Zar (fun k => laws_markQueue.t k (Zs a0) (Zs a1) (Zs a2) c3 n) (fun z => ∃ ys0 ys1 ys2, z.1 = n + ZE a0 + ZE a1 + ZE a2 ∧ z.2.1 = Zs ys0 ∧ z.2.2.1 = Zs ys1 ∧ z.2.2.2 = Zs ys2 ∧ ys0.length = a0.length ∧ ys1.length = a1.length ∧ ys2.length = a2.length ∧ ∀ k, Zar k → laws_heldQueue.t k ys0 ys1 ys2 c3 n = some z.1) := by
  unfold laws_markQueue.t laws_markQueue.g
  refine laws_markItemS.tm (fun i hi => hi) (laws_markItemS.T hB g0 (by omega) (by omega)) (fun y0 t0 hy => ?_)
  obtain ⟨ys0, et0, el0, en0, hh0⟩ := hy
  simp only [] at et0 en0 hh0
  subst et0 en0
  try refine Tm.guard (by rw [deepRows_length, deepRows_length]; exact el0) ?_
  refine laws_markItemS.tm (fun i hi => hi) (laws_markItemS.T hB g1 (by omega) (by omega)) (fun y1 t1 hy => ?_)
  obtain ⟨ys1, et1, el1, en1, hh1⟩ := hy
  simp only [] at et1 en1 hh1
  subst et1 en1
  try refine Tm.guard (by rw [deepRows_length, deepRows_length]; exact el1) ?_
  refine laws_markStringS.tm (fun i hi => hi) (laws_markStringS.T hB g2 (by omega) (by omega)) (fun y2 t2 hy => ?_)
  obtain ⟨ys2, et2, el2, en2, hh2⟩ := hy
  simp only [] at et2 en2 hh2
  subst et2 en2
  try refine Tm.guard (by rw [deepRows_length, deepRows_length]; exact el2) ?_
  exact Tm.ret ⟨ys0, ys1, ys2, rfl, rfl, rfl, rfl, el0, el1, el2, fun k hk => by
    unfold laws_heldQueue.t laws_heldQueue.g
    rw [laws_heldItemS.f_of (hh0 k hk)]; simp only [dec_false (show ¬ (n + (ZE a0 : Int)) < 0 by omega), cond_false]
    rw [laws_heldItemS.f_of (hh1 k hk)]; simp only [dec_false (show ¬ (n + (ZE a0 : Int) + (ZE a1 : Int)) < 0 by omega), cond_false]
    rw [laws_heldStringS.f_of (hh2 k hk)]; simp only [dec_false (show ¬ (n + (ZE a0 : Int) + (ZE a1 : Int) + (ZE a2 : Int)) < 0 by omega), cond_false]⟩
end Go.Proofs.Ytljkbknnnpjmgaa
