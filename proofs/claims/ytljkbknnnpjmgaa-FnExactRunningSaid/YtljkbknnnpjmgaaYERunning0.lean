/- Printed, and by hand: the functions that FnExactRunning reaches come to their end; the program's answer as the reference's. -/
import Derived.Test.YtljkbknnnpjmgaaXERunning1
import Derived.KernelRfl
set_option linter.unusedVariables false
set_option linter.unusedSimpArgs false
namespace Go.Proofs.Ytljkbknnnpjmgaa
open Go Go.T Go.Proofs
theorem ZaW (n : Int) : n = 1 ∨ n = 2 ∨ n = 3 ∨ n = 4 ∨ n = 5 ∨ ((n == 1) = false ∧ (n == 2) = false ∧ (n == 3) = false ∧ (n == 4) = false ∧ (n == 5) = false) := by
  simp only [beq_eq_false_iff_ne]
  omega
theorem laws_szStringS.f_of {β : Type} {k : Nat} {a0 : List (List D)} {a1 : Int} {z0 : Int} (h : laws_szStringS.t k a0 a1 = some z0) (K : Int → Option β) : laws_szStringS.f k a0 a1 K = K z0 := by
  unfold laws_szStringS.f
  rw [h]
theorem laws_szStringS.tm {ι α : Type} {ok : ι → Prop} {ψ : α → Prop} {p : ι → Nat} {B : Nat} (hp : ∀ i, ok i → B ≤ p i) {a0 : List (List D)} {a1 : Int} {φ : Int → Prop} (h : Tm (fun k => B ≤ k) (fun k => laws_szStringS.t k a0 a1) φ) {G : ι → Int → Option α} (hG : ∀ z0, φ z0 → Tm ok (fun ι0 => G ι0 z0) ψ) : Tm ok (fun ι0 => laws_szStringS.f (p ι0) a0 a1 (G ι0)) ψ := by
  obtain ⟨z0, h1, h2⟩ := h
  exact (hG z0 h1).congr fun i0 hi0 => laws_szStringS.f_of (h2 (p i0) (hp i0 hi0)) _
def RS (B : Nat) (r : List D) : Prop := ∃ (c0 : ByteArray), r = [.str c0] ∧ c0.size ≤ B ∧ True
theorem RS.open {B : Nat} {r : List D} (h : RS B r) : ∃ (c0 : ByteArray), r = [.str c0] ∧ c0.size ≤ B ∧ True := h
theorem RS.mono {B B' : Nat} (hb : B ≤ B') {r : List D} (h : RS B r) : RS B' r := by
  obtain ⟨c0, rfl, k0, _⟩ := h
  exact ⟨_, rfl, (Nat.le_trans k0 hb), trivial⟩
theorem RS.wide {xs : List (List D)} (h : Zm RS lim xs) : Zm RS 2097152 xs := ⟨Nat.le_trans h.1 (by decide), fun r hr => (h.2 r hr).mono (by decide)⟩
theorem RS.len {B : Nat} {r : List D} (h : RS B r) : r.length = 1 := by
  obtain ⟨c0, rfl, _⟩ := h.open
  rfl
theorem RS.flat {B : Nat} {xs : List (List D)} (h : ∀ r ∈ xs, RS B r) : Zcm 1 xs := fun r hr => by
  obtain ⟨c0, rfl, _⟩ := (h r hr).open
  exact ⟨rfl, by simp [Zaq]⟩
theorem RS.wt {B : Nat} {xs : List (List D)} (h : ∀ r ∈ xs, RS B r) : ZE xs = 1 * xs.length := wt_flat (R := RS B) (fun r h => by obtain ⟨c0, rfl, _⟩ := h; rfl) xs h
theorem RS.deep {B : Nat} {xs : List (List D)} (h : ∀ r ∈ xs, RS B r) : Zs xs = xs.map (·.map C.d) := deep_flat (R := RS B) (fun r h => by obtain ⟨c0, rfl, _⟩ := h; rfl) xs h
theorem RS.gets {B : Nat} {xs : List (List D)} (h : ∀ r ∈ xs, RS B r) {v : Int} (h0 : 0 ≤ v) (h1 : v < xs.length) : gR xs v = [.str (gS xs v 0)] ∧ (gS xs v 0).size ≤ B ∧ True := by
  obtain ⟨c0, e, k0, _⟩ := (h (gR xs v) (gR_mem h0 h1)).open
  unfold gS
  rw [e]
  exact ⟨rfl, k0, trivial⟩
theorem RS.rows {B : Nat} {xs : List (List D)} (h : ∀ r ∈ xs, RS B r) {v : Int} (h0 : 0 ≤ v) (h1 : v < xs.length) {β : Type} (F : List D → Option β) : ZX xs v F = F [.str (gS xs v 0)] := by
  rw [← (RS.gets h h0 h1).1]
  exact ZbB h0 h1 F
theorem RS.get {B : Nat} {xs : List (List D)} (h : Zm RS B xs) {v : Int} (h0 : 0 ≤ v) (h1 : v < xs.length) : gR xs v = [.str (gS xs v 0)] ∧ (gS xs v 0).size ≤ B ∧ True := RS.gets h.2 h0 h1
theorem RS.row {B : Nat} {xs : List (List D)} (h : Zm RS B xs) {v : Int} (h0 : 0 ≤ v) (h1 : v < xs.length) {β : Type} (F : List D → Option β) : ZX xs v F = F [.str (gS xs v 0)] := RS.rows h.2 h0 h1 F
theorem laws_szStringS.T {a0 : List (List D)} {a1 : Int} (h0 : 0 ≤ a1) (h1 : a1 ≤ 1048576) (ga0 : Zm RS maxLen a0) : Tm Zar (fun k => laws_szStringS.t k a0 a1) (fun r => r < 0 ∨ 0 ≤ r ∧ r ≤ a1 ∧ Zm RS lim a0 ∧ ((ZE a0 : Nat) : Int) ≤ 64 * (a1 - r) ∧ True) := by
  unfold laws_szStringS.t laws_szStringS.g
  have hm := Za
  have hlim : lim = 1048576 := rfl
  have hlen := ga0.1
  try rw [ZC (x := a1 - (a0.length : Int)) (by omega) (by omega)]
  refine Tm.ite (fun h1 => ?_) (fun h1 => ?_)
  · try simp only [bz0, bz1, bz2, bz3, bz4, bz5, bz6, bz7, bz8, bz9, bza] at h1
    exact Tm.ret (by first | (left; omega) | (right; refine ⟨?_, ?_, ?_, ?_, trivial⟩ <;> first | assumption | omega))
  · try simp only [bz0, bz1, bz2, bz3, bz4, bz5, bz6, bz7, bz8, bz9, bza] at h1
    refine Tm.loop (okk := Zar) (p := fun k => k) (fun i hi => hi) (b := fun k => laws_szStringS.l0 k a0 (fun z0 => some z0)) (fun v => match v with | (u0, i) => (((a0.length : Int)) - i).toNat) (fun v => match v with | (u0, i) => 0 ≤ u0 ∧ u0 ≤ a1 ∧ 0 ≤ i ∧ i ≤ (a0.length : Int) ∧ (∀ r ∈ a0.take i.toNat, RS lim r) ∧ ((ZE (a0.take i.toNat) : Nat) : Int) ≤ 64 * (a1 - a0.length - u0 + i)) ?_ ?_ ?_
    · rintro ⟨u0, i⟩ hI
      try simp only [] at hI ⊢
      have : big = 2 ^ 64 := rfl
      have := ga0.1
      omega
    · exact ⟨by omega, by omega, by omega, by simp, by simp, by simp [ZE]⟩
    · rintro ⟨u0, i⟩ hI L hL
      try simp only [] at hI
      obtain ⟨u0a, u0b, i0, i1, hr, hwt⟩ := hI
      simp only [laws_szStringS.l0]
      refine Tm.ite (fun h2 => ?_) (fun h2 => ?_)
      · try simp only [bz0, bz1, bz2, bz3, bz4, bz5, bz6, bz7, bz8, bz9, bza] at h2
        refine Tm.atRow (by first | assumption | omega) (by first | assumption | omega) (fun x3 hx4 hm5 => ?_)
        obtain ⟨c6, rfl, g7, _⟩ := (ga0.2 x3 hm5).open
        refine Tm.uncons ?_
        refine Tm.dStr ?_
        refine Tm.atEnd ?_
        try rw [ZC (x := u0 - (c6.size : Int)) (by omega) (by omega)]
        refine Tm.ite (fun h8 => ?_) (fun h8 => ?_)
        · try simp only [bz0, bz1, bz2, bz3, bz4, bz5, bz6, bz7, bz8, bz9, bza] at h8
          exact Tm.ret (by first | (left; omega) | (rw [List.take_of_length_le (by omega)] at hwt; exact .inr ⟨by omega, by omega, ⟨by simp only [lim]; omega, Zau (by omega) hr⟩, by omega, trivial⟩))
        · try simp only [bz0, bz1, bz2, bz3, bz4, bz5, bz6, bz7, bz8, bz9, bza] at h8
          try rw [ZC (x := i + 1) (by omega) (by omega)]
          have hwx := Zb4 i0 hx4
          simp only [Zbi, wtD] at hwx
          refine hL ((u0 - (c6.size : Int)), (i + 1)) ⟨by omega, by omega, by omega, by omega, Zbd i0 hx4 hr ⟨_, rfl, by first | assumption | omega, trivial⟩, by omega⟩ (by (try simp only []); omega)
      · try simp only [bz0, bz1, bz2, bz3, bz4, bz5, bz6, bz7, bz8, bz9, bza] at h2
        exact Tm.ret (by first | (left; omega) | (rw [List.take_of_length_le (by omega)] at hwt; exact .inr ⟨by omega, by omega, ⟨by simp only [lim]; omega, Zau (by omega) hr⟩, by omega, trivial⟩))
theorem laws_szTerm.f_of {β : Type} {k : Nat} {a0_0 : Int} {a0_1 : ByteArray} {a0_2 : List (List D)} {a1 : Int} {z0 : Int} (h : laws_szTerm.t k a0_0 a0_1 a0_2 a1 = some z0) (K : Int → Option β) : laws_szTerm.f k a0_0 a0_1 a0_2 a1 K = K z0 := by
  unfold laws_szTerm.f
  rw [h]
theorem laws_szTerm.tm {ι α : Type} {ok : ι → Prop} {ψ : α → Prop} {p : ι → Nat} {B : Nat} (hp : ∀ i, ok i → B ≤ p i) {a0_0 : Int} {a0_1 : ByteArray} {a0_2 : List (List D)} {a1 : Int} {φ : Int → Prop} (h : Tm (fun k => B ≤ k) (fun k => laws_szTerm.t k a0_0 a0_1 a0_2 a1) φ) {G : ι → Int → Option α} (hG : ∀ z0, φ z0 → Tm ok (fun ι0 => G ι0 z0) ψ) : Tm ok (fun ι0 => laws_szTerm.f (p ι0) a0_0 a0_1 a0_2 a1 (G ι0)) ψ := by
  obtain ⟨z0, h1, h2⟩ := h
  exact (hG z0 h1).congr fun i0 hi0 => laws_szTerm.f_of (h2 (p i0) (hp i0 hi0)) _
theorem laws_szTerm.T {a0_0 : Int} {a0_1 : ByteArray} {a0_2 : List (List D)} {a1 : Int} (h0 : 0 ≤ a1) (h1 : a1 ≤ 1048576) (ga0_1 : a0_1.size ≤ maxLen) (ga0_2 : Zm RS maxLen a0_2) : Tm Zar (fun k => laws_szTerm.t k a0_0 a0_1 a0_2 a1) (fun r => r < 0 ∨ 0 ≤ r ∧ r ≤ a1 ∧ a0_1.size ≤ lim ∧ Zm RS lim a0_2 ∧ ((ZE a0_2 : Nat) : Int) ≤ 64 * (a1 - r) ∧ True) := by
  unfold laws_szTerm.t laws_szTerm.g
  have hm := Za
  have hlim : lim = 1048576 := rfl
  try rw [ZC (x := a1 - (a0_1.size : Int)) (by omega) (by omega)]
  refine Tm.ite (fun h1 => ?_) (fun h1 => ?_)
  · try simp only [bz0, bz1, bz2, bz3, bz4, bz5, bz6, bz7, bz8, bz9, bza] at h1
    exact Tm.ret (by first | (left; omega) | (right; refine ⟨?_, ?_, ?_, ?_, ?_, trivial⟩ <;> first | assumption | omega))
  · try simp only [bz0, bz1, bz2, bz3, bz4, bz5, bz6, bz7, bz8, bz9, bza] at h1
    refine laws_szStringS.tm (fun i hi => hi) (laws_szStringS.T (by first | assumption | omega) (by first | assumption | omega) (by first | assumption | omega)) (fun y3 hy2 => ?_)
    rcases hy2 with hy2 | ⟨p6, p7, q4, q5, _⟩
    · exact Tm.ite (fun _ => Tm.ret (by left; omega)) (fun h => by simp at h; omega)
    refine Tm.ite (fun h8 => ?_) (fun h8 => ?_)
    · try simp only [bz0, bz1, bz2, bz3, bz4, bz5, bz6, bz7, bz8, bz9, bza] at h8
      exact Tm.ret (by first | (left; omega) | (right; refine ⟨?_, ?_, ?_, ?_, ?_, trivial⟩ <;> first | assumption | omega))
    · try simp only [bz0, bz1, bz2, bz3, bz4, bz5, bz6, bz7, bz8, bz9, bza] at h8
      exact Tm.ret (by first | (left; omega) | (right; refine ⟨?_, ?_, ?_, ?_, ?_, trivial⟩ <;> first | assumption | omega))
theorem laws_szTermS.f_of {β : Type} {k : Nat} {a0 : List (List D)} {a1 : Int} {z0 : Int} (h : laws_szTermS.t k a0 a1 = some z0) (K : Int → Option β) : laws_szTermS.f k a0 a1 K = K z0 := by
  unfold laws_szTermS.f
  rw [h]
theorem laws_szTermS.tm {ι α : Type} {ok : ι → Prop} {ψ : α → Prop} {p : ι → Nat} {B : Nat} (hp : ∀ i, ok i → B ≤ p i) {a0 : List (List D)} {a1 : Int} {φ : Int → Prop} (h : Tm (fun k => B ≤ k) (fun k => laws_szTermS.t k a0 a1) φ) {G : ι → Int → Option α} (hG : ∀ z0, φ z0 → Tm ok (fun ι0 => G ι0 z0) ψ) : Tm ok (fun ι0 => laws_szTermS.f (p ι0) a0 a1 (G ι0)) ψ := by
  obtain ⟨z0, h1, h2⟩ := h
  exact (hG z0 h1).congr fun i0 hi0 => laws_szTermS.f_of (h2 (p i0) (hp i0 hi0)) _
def Yh (B : Nat) (r : List D) : Prop := ∃ (c0 : Int) (c1 : ByteArray) (c2 : List (List D)), r = [.int .i64 c0, .str c1, .sl c2] ∧ (Lit.int .i64 c0).wf = true ∧ c1.size ≤ B ∧ Zm RS B c2 ∧ True
theorem Yh.open {B : Nat} {r : List D} (h : Yh B r) : ∃ (c0 : Int) (c1 : ByteArray) (c2 : List (List D)), r = [.int .i64 c0, .str c1, .sl c2] ∧ (Lit.int .i64 c0).wf = true ∧ c1.size ≤ B ∧ Zm RS B c2 ∧ True := h
theorem Yh.mono {B B' : Nat} (hb : B ≤ B') {r : List D} (h : Yh B r) : Yh B' r := by
  obtain ⟨c0, c1, c2, rfl, k0, k1, k2, _⟩ := h
  exact ⟨_, _, _, rfl, k0, (Nat.le_trans k1 hb), ⟨Nat.le_trans k2.1 hb, fun r hr => (k2.2 r hr).mono hb⟩, trivial⟩
theorem Yh.wide {xs : List (List D)} (h : Zm Yh lim xs) : Zm Yh 2097152 xs := ⟨Nat.le_trans h.1 (by decide), fun r hr => (h.2 r hr).mono (by decide)⟩
theorem Yh.len {B : Nat} {r : List D} (h : Yh B r) : r.length = 3 := by
  obtain ⟨c0, c1, c2, rfl, _⟩ := h.open
  rfl
theorem Yh.gets {B : Nat} {xs : List (List D)} (h : ∀ r ∈ xs, Yh B r) {v : Int} (h0 : 0 ≤ v) (h1 : v < xs.length) : gR xs v = [.int .i64 (gI xs v 0), .str (gS xs v 1), .sl (gL xs v 2)] ∧ (Lit.int .i64 (gI xs v 0)).wf = true ∧ (gS xs v 1).size ≤ B ∧ Zm RS B (gL xs v 2) ∧ True := by
  obtain ⟨c0, c1, c2, e, k0, k1, k2, _⟩ := (h (gR xs v) (gR_mem h0 h1)).open
  unfold gI gL gS
  rw [e]
  exact ⟨rfl, k0, k1, k2, trivial⟩
theorem Yh.rows {B : Nat} {xs : List (List D)} (h : ∀ r ∈ xs, Yh B r) {v : Int} (h0 : 0 ≤ v) (h1 : v < xs.length) {β : Type} (F : List D → Option β) : ZX xs v F = F [.int .i64 (gI xs v 0), .str (gS xs v 1), .sl (gL xs v 2)] := by
  rw [← (Yh.gets h h0 h1).1]
  exact ZbB h0 h1 F
theorem Yh.get {B : Nat} {xs : List (List D)} (h : Zm Yh B xs) {v : Int} (h0 : 0 ≤ v) (h1 : v < xs.length) : gR xs v = [.int .i64 (gI xs v 0), .str (gS xs v 1), .sl (gL xs v 2)] ∧ (Lit.int .i64 (gI xs v 0)).wf = true ∧ (gS xs v 1).size ≤ B ∧ Zm RS B (gL xs v 2) ∧ True := Yh.gets h.2 h0 h1
theorem Yh.row {B : Nat} {xs : List (List D)} (h : Zm Yh B xs) {v : Int} (h0 : 0 ≤ v) (h1 : v < xs.length) {β : Type} (F : List D → Option β) : ZX xs v F = F [.int .i64 (gI xs v 0), .str (gS xs v 1), .sl (gL xs v 2)] := Yh.rows h.2 h0 h1 F
theorem laws_szTermS.T {a0 : List (List D)} {a1 : Int} (h0 : 0 ≤ a1) (h1 : a1 ≤ 1048576) (ga0 : Zm Yh maxLen a0) : Tm Zar (fun k => laws_szTermS.t k a0 a1) (fun r => r < 0 ∨ 0 ≤ r ∧ r ≤ a1 ∧ Zm Yh lim a0 ∧ ((ZE a0 : Nat) : Int) ≤ 64 * (a1 - r) ∧ True) := by
  unfold laws_szTermS.t laws_szTermS.g
  have hm := Za
  have hlim : lim = 1048576 := rfl
  have hlen := ga0.1
  try rw [ZC (x := a1 - (a0.length : Int)) (by omega) (by omega)]
  refine Tm.ite (fun h1 => ?_) (fun h1 => ?_)
  · try simp only [bz0, bz1, bz2, bz3, bz4, bz5, bz6, bz7, bz8, bz9, bza] at h1
    exact Tm.ret (by first | (left; omega) | (right; refine ⟨?_, ?_, ?_, ?_, trivial⟩ <;> first | assumption | omega))
  · try simp only [bz0, bz1, bz2, bz3, bz4, bz5, bz6, bz7, bz8, bz9, bza] at h1
    refine Tm.loop (okk := Zar) (p := fun k => k) (fun i hi => hi) (b := fun k => laws_szTermS.l0 k a0 (fun z0 => some z0)) (fun v => match v with | (u0, i) => (((a0.length : Int)) - i).toNat) (fun v => match v with | (u0, i) => 0 ≤ u0 ∧ u0 ≤ a1 ∧ 0 ≤ i ∧ i ≤ (a0.length : Int) ∧ (∀ r ∈ a0.take i.toNat, Yh lim r) ∧ ((ZE (a0.take i.toNat) : Nat) : Int) ≤ 64 * (a1 - a0.length - u0 + i)) ?_ ?_ ?_
    · rintro ⟨u0, i⟩ hI
      try simp only [] at hI ⊢
      have : big = 2 ^ 64 := rfl
      have := ga0.1
      omega
    · exact ⟨by omega, by omega, by omega, by simp, by simp, by simp [ZE]⟩
    · rintro ⟨u0, i⟩ hI L hL
      try simp only [] at hI
      obtain ⟨u0a, u0b, i0, i1, hr, hwt⟩ := hI
      simp only [laws_szTermS.l0]
      refine Tm.ite (fun h2 => ?_) (fun h2 => ?_)
      · try simp only [bz0, bz1, bz2, bz3, bz4, bz5, bz6, bz7, bz8, bz9, bza] at h2
        refine Tm.atRow (by first | assumption | omega) (by first | assumption | omega) (fun x3 hx4 hm5 => ?_)
        obtain ⟨c6, c7, c8, rfl, g9, g10, g11, _⟩ := (ga0.2 x3 hm5).open
        refine Tm.uncons ?_
        refine Tm.dInt ?_
        refine Tm.uncons ?_
        refine Tm.dStr ?_
        refine Tm.uncons ?_
        refine Tm.dSl ?_
        refine Tm.atEnd ?_
        refine laws_szTerm.tm (fun i hi => hi.1) (laws_szTerm.T (by first | assumption | omega) (by first | assumption | omega) (by first | assumption | omega) (by first | assumption | omega)) (fun y13 hy12 => ?_)
        rcases hy12 with hy12 | ⟨p17, p18, q14, q15, q16, _⟩
        · exact Tm.ite (fun _ => Tm.ret (by left; omega)) (fun h => by simp at h; omega)
        refine Tm.ite (fun h19 => ?_) (fun h19 => ?_)
        · try simp only [bz0, bz1, bz2, bz3, bz4, bz5, bz6, bz7, bz8, bz9, bza] at h19
          exact Tm.ret (by first | (left; omega) | (rw [List.take_of_length_le (by omega)] at hwt; exact .inr ⟨by omega, by omega, ⟨by simp only [lim]; omega, Zau (by omega) hr⟩, by omega, trivial⟩))
        · try simp only [bz0, bz1, bz2, bz3, bz4, bz5, bz6, bz7, bz8, bz9, bza] at h19
          try rw [ZC (x := i + 1) (by omega) (by omega)]
          have hwx := Zb4 i0 hx4
          simp only [Zbi, wtD] at hwx
          refine hL (y13, (i + 1)) ⟨by omega, by omega, by omega, by omega, Zbd i0 hx4 hr ⟨_, _, _, rfl, by first | assumption | omega, by first | assumption | omega, by first | assumption | omega, trivial⟩, by omega⟩ (by (try simp only []); omega)
      · try simp only [bz0, bz1, bz2, bz3, bz4, bz5, bz6, bz7, bz8, bz9, bza] at h2
        exact Tm.ret (by first | (left; omega) | (rw [List.take_of_length_le (by omega)] at hwt; exact .inr ⟨by omega, by omega, ⟨by simp only [lim]; omega, Zau (by omega) hr⟩, by omega, trivial⟩))
theorem laws_szWeigh.f_of {β : Type} {k : Nat} {a0_0 : ByteArray} {a0_1 : Int} {a1 : Int} {z0 : Int} (h : laws_szWeigh.t k a0_0 a0_1 a1 = some z0) (K : Int → Option β) : laws_szWeigh.f k a0_0 a0_1 a1 K = K z0 := by
  unfold laws_szWeigh.f
  rw [h]
theorem laws_szWeigh.tm {ι α : Type} {ok : ι → Prop} {ψ : α → Prop} {p : ι → Nat} {B : Nat} (hp : ∀ i, ok i → B ≤ p i) {a0_0 : ByteArray} {a0_1 : Int} {a1 : Int} {φ : Int → Prop} (h : Tm (fun k => B ≤ k) (fun k => laws_szWeigh.t k a0_0 a0_1 a1) φ) {G : ι → Int → Option α} (hG : ∀ z0, φ z0 → Tm ok (fun ι0 => G ι0 z0) ψ) : Tm ok (fun ι0 => laws_szWeigh.f (p ι0) a0_0 a0_1 a1 (G ι0)) ψ := by
  obtain ⟨z0, h1, h2⟩ := h
  exact (hG z0 h1).congr fun i0 hi0 => laws_szWeigh.f_of (h2 (p i0) (hp i0 hi0)) _
theorem laws_szWeigh.T {a0_0 : ByteArray} {a0_1 : Int} {a1 : Int} (h0 : 0 ≤ a1) (h1 : a1 ≤ 1048576) (ga0_0 : a0_0.size ≤ maxLen) : Tm Zar (fun k => laws_szWeigh.t k a0_0 a0_1 a1) (fun r => r < 0 ∨ 0 ≤ r ∧ r ≤ a1 ∧ a0_0.size ≤ lim ∧ True) := by
  unfold laws_szWeigh.t laws_szWeigh.g
  have hm := Za
  have hlim : lim = 1048576 := rfl
  try rw [ZC (x := a1 - (a0_0.size : Int)) (by omega) (by omega)]
  refine Tm.ite (fun h1 => ?_) (fun h1 => ?_)
  · try simp only [bz0, bz1, bz2, bz3, bz4, bz5, bz6, bz7, bz8, bz9, bza] at h1
    exact Tm.ret (by first | (left; omega) | (right; refine ⟨?_, ?_, ?_, trivial⟩ <;> first | assumption | omega))
  · try simp only [bz0, bz1, bz2, bz3, bz4, bz5, bz6, bz7, bz8, bz9, bza] at h1
    exact Tm.ret (by first | (left; omega) | (right; refine ⟨?_, ?_, ?_, trivial⟩ <;> first | assumption | omega))
theorem laws_szWeighS.f_of {β : Type} {k : Nat} {a0 : List (List D)} {a1 : Int} {z0 : Int} (h : laws_szWeighS.t k a0 a1 = some z0) (K : Int → Option β) : laws_szWeighS.f k a0 a1 K = K z0 := by
  unfold laws_szWeighS.f
  rw [h]
theorem laws_szWeighS.tm {ι α : Type} {ok : ι → Prop} {ψ : α → Prop} {p : ι → Nat} {B : Nat} (hp : ∀ i, ok i → B ≤ p i) {a0 : List (List D)} {a1 : Int} {φ : Int → Prop} (h : Tm (fun k => B ≤ k) (fun k => laws_szWeighS.t k a0 a1) φ) {G : ι → Int → Option α} (hG : ∀ z0, φ z0 → Tm ok (fun ι0 => G ι0 z0) ψ) : Tm ok (fun ι0 => laws_szWeighS.f (p ι0) a0 a1 (G ι0)) ψ := by
  obtain ⟨z0, h1, h2⟩ := h
  exact (hG z0 h1).congr fun i0 hi0 => laws_szWeighS.f_of (h2 (p i0) (hp i0 hi0)) _
def RSI (B : Nat) (r : List D) : Prop := ∃ (c0 : ByteArray) (c1 : Int), r = [.str c0, .int .i64 c1] ∧ c0.size ≤ B ∧ (Lit.int .i64 c1).wf = true ∧ True
theorem RSI.open {B : Nat} {r : List D} (h : RSI B r) : ∃ (c0 : ByteArray) (c1 : Int), r = [.str c0, .int .i64 c1] ∧ c0.size ≤ B ∧ (Lit.int .i64 c1).wf = true ∧ True := h
theorem RSI.mono {B B' : Nat} (hb : B ≤ B') {r : List D} (h : RSI B r) : RSI B' r := by
  obtain ⟨c0, c1, rfl, k0, k1, _⟩ := h
  exact ⟨_, _, rfl, (Nat.le_trans k0 hb), k1, trivial⟩
theorem RSI.wide {xs : List (List D)} (h : Zm RSI lim xs) : Zm RSI 2097152 xs := ⟨Nat.le_trans h.1 (by decide), fun r hr => (h.2 r hr).mono (by decide)⟩
theorem RSI.len {B : Nat} {r : List D} (h : RSI B r) : r.length = 2 := by
  obtain ⟨c0, c1, rfl, _⟩ := h.open
  rfl
theorem RSI.flat {B : Nat} {xs : List (List D)} (h : ∀ r ∈ xs, RSI B r) : Zcm 2 xs := fun r hr => by
  obtain ⟨c0, c1, rfl, _⟩ := (h r hr).open
  exact ⟨rfl, by simp [Zaq]⟩
theorem RSI.wt {B : Nat} {xs : List (List D)} (h : ∀ r ∈ xs, RSI B r) : ZE xs = 2 * xs.length := wt_flat (R := RSI B) (fun r h => by obtain ⟨c0, c1, rfl, _⟩ := h; rfl) xs h
theorem RSI.deep {B : Nat} {xs : List (List D)} (h : ∀ r ∈ xs, RSI B r) : Zs xs = xs.map (·.map C.d) := deep_flat (R := RSI B) (fun r h => by obtain ⟨c0, c1, rfl, _⟩ := h; rfl) xs h
theorem RSI.gets {B : Nat} {xs : List (List D)} (h : ∀ r ∈ xs, RSI B r) {v : Int} (h0 : 0 ≤ v) (h1 : v < xs.length) : gR xs v = [.str (gS xs v 0), .int .i64 (gI xs v 1)] ∧ (gS xs v 0).size ≤ B ∧ (Lit.int .i64 (gI xs v 1)).wf = true ∧ True := by
  obtain ⟨c0, c1, e, k0, k1, _⟩ := (h (gR xs v) (gR_mem h0 h1)).open
  unfold gI gS
  rw [e]
  exact ⟨rfl, k0, k1, trivial⟩
theorem RSI.rows {B : Nat} {xs : List (List D)} (h : ∀ r ∈ xs, RSI B r) {v : Int} (h0 : 0 ≤ v) (h1 : v < xs.length) {β : Type} (F : List D → Option β) : ZX xs v F = F [.str (gS xs v 0), .int .i64 (gI xs v 1)] := by
  rw [← (RSI.gets h h0 h1).1]
  exact ZbB h0 h1 F
theorem RSI.get {B : Nat} {xs : List (List D)} (h : Zm RSI B xs) {v : Int} (h0 : 0 ≤ v) (h1 : v < xs.length) : gR xs v = [.str (gS xs v 0), .int .i64 (gI xs v 1)] ∧ (gS xs v 0).size ≤ B ∧ (Lit.int .i64 (gI xs v 1)).wf = true ∧ True := RSI.gets h.2 h0 h1
theorem RSI.row {B : Nat} {xs : List (List D)} (h : Zm RSI B xs) {v : Int} (h0 : 0 ≤ v) (h1 : v < xs.length) {β : Type} (F : List D → Option β) : ZX xs v F = F [.str (gS xs v 0), .int .i64 (gI xs v 1)] := RSI.rows h.2 h0 h1 F
theorem laws_szWeighS.T {a0 : List (List D)} {a1 : Int} (h0 : 0 ≤ a1) (h1 : a1 ≤ 1048576) (ga0 : Zm RSI maxLen a0) : Tm Zar (fun k => laws_szWeighS.t k a0 a1) (fun r => r < 0 ∨ 0 ≤ r ∧ r ≤ a1 ∧ Zm RSI lim a0 ∧ ((ZE a0 : Nat) : Int) ≤ 64 * (a1 - r) ∧ True) := by
  unfold laws_szWeighS.t laws_szWeighS.g
  have hm := Za
  have hlim : lim = 1048576 := rfl
  have hlen := ga0.1
  try rw [ZC (x := a1 - (a0.length : Int)) (by omega) (by omega)]
  refine Tm.ite (fun h1 => ?_) (fun h1 => ?_)
  · try simp only [bz0, bz1, bz2, bz3, bz4, bz5, bz6, bz7, bz8, bz9, bza] at h1
    exact Tm.ret (by first | (left; omega) | (right; refine ⟨?_, ?_, ?_, ?_, trivial⟩ <;> first | assumption | omega))
  · try simp only [bz0, bz1, bz2, bz3, bz4, bz5, bz6, bz7, bz8, bz9, bza] at h1
    refine Tm.loop (okk := Zar) (p := fun k => k) (fun i hi => hi) (b := fun k => laws_szWeighS.l0 k a0 (fun z0 => some z0)) (fun v => match v with | (u0, i) => (((a0.length : Int)) - i).toNat) (fun v => match v with | (u0, i) => 0 ≤ u0 ∧ u0 ≤ a1 ∧ 0 ≤ i ∧ i ≤ (a0.length : Int) ∧ (∀ r ∈ a0.take i.toNat, RSI lim r) ∧ ((ZE (a0.take i.toNat) : Nat) : Int) ≤ 64 * (a1 - a0.length - u0 + i)) ?_ ?_ ?_
    · rintro ⟨u0, i⟩ hI
      try simp only [] at hI ⊢
      have : big = 2 ^ 64 := rfl
      have := ga0.1
      omega
    · exact ⟨by omega, by omega, by omega, by simp, by simp, by simp [ZE]⟩
    · rintro ⟨u0, i⟩ hI L hL
      try simp only [] at hI
      obtain ⟨u0a, u0b, i0, i1, hr, hwt⟩ := hI
      simp only [laws_szWeighS.l0]
      refine Tm.ite (fun h2 => ?_) (fun h2 => ?_)
      · try simp only [bz0, bz1, bz2, bz3, bz4, bz5, bz6, bz7, bz8, bz9, bza] at h2
        refine Tm.atRow (by first | assumption | omega) (by first | assumption | omega) (fun x3 hx4 hm5 => ?_)
        obtain ⟨c6, c7, rfl, g8, g9, _⟩ := (ga0.2 x3 hm5).open
        refine Tm.uncons ?_
        refine Tm.dStr ?_
        refine Tm.uncons ?_
        refine Tm.dInt ?_
        refine Tm.atEnd ?_
        refine laws_szWeigh.tm (fun i hi => hi.1) (laws_szWeigh.T (by first | assumption | omega) (by first | assumption | omega) (by first | assumption | omega)) (fun y11 hy10 => ?_)
        rcases hy10 with hy10 | ⟨p13, p14, q12, _⟩
        · exact Tm.ite (fun _ => Tm.ret (by left; omega)) (fun h => by simp at h; omega)
        refine Tm.ite (fun h15 => ?_) (fun h15 => ?_)
        · try simp only [bz0, bz1, bz2, bz3, bz4, bz5, bz6, bz7, bz8, bz9, bza] at h15
          exact Tm.ret (by first | (left; omega) | (rw [List.take_of_length_le (by omega)] at hwt; exact .inr ⟨by omega, by omega, ⟨by simp only [lim]; omega, Zau (by omega) hr⟩, by omega, trivial⟩))
        · try simp only [bz0, bz1, bz2, bz3, bz4, bz5, bz6, bz7, bz8, bz9, bza] at h15
          try rw [ZC (x := i + 1) (by omega) (by omega)]
          have hwx := Zb4 i0 hx4
          simp only [Zbi, wtD] at hwx
          refine hL (y11, (i + 1)) ⟨by omega, by omega, by omega, by omega, Zbd i0 hx4 hr ⟨_, _, rfl, by first | assumption | omega, by first | assumption | omega, trivial⟩, by omega⟩ (by (try simp only []); omega)
      · try simp only [bz0, bz1, bz2, bz3, bz4, bz5, bz6, bz7, bz8, bz9, bza] at h2
        exact Tm.ret (by first | (left; omega) | (rw [List.take_of_length_le (by omega)] at hwt; exact .inr ⟨by omega, by omega, ⟨by simp only [lim]; omega, Zau (by omega) hr⟩, by omega, trivial⟩))
theorem laws_szWant.f_of {β : Type} {k : Nat} {a0_0 : Int} {a0_1 : List (List D)} {a0_2 : List (List D)} {a0_3 : List (List D)} {a1 : Int} {z0 : Int} (h : laws_szWant.t k a0_0 a0_1 a0_2 a0_3 a1 = some z0) (K : Int → Option β) : laws_szWant.f k a0_0 a0_1 a0_2 a0_3 a1 K = K z0 := by
  unfold laws_szWant.f
  rw [h]
theorem laws_szWant.tm {ι α : Type} {ok : ι → Prop} {ψ : α → Prop} {p : ι → Nat} {B : Nat} (hp : ∀ i, ok i → B ≤ p i) {a0_0 : Int} {a0_1 : List (List D)} {a0_2 : List (List D)} {a0_3 : List (List D)} {a1 : Int} {φ : Int → Prop} (h : Tm (fun k => B ≤ k) (fun k => laws_szWant.t k a0_0 a0_1 a0_2 a0_3 a1) φ) {G : ι → Int → Option α} (hG : ∀ z0, φ z0 → Tm ok (fun ι0 => G ι0 z0) ψ) : Tm ok (fun ι0 => laws_szWant.f (p ι0) a0_0 a0_1 a0_2 a0_3 a1 (G ι0)) ψ := by
  obtain ⟨z0, h1, h2⟩ := h
  exact (hG z0 h1).congr fun i0 hi0 => laws_szWant.f_of (h2 (p i0) (hp i0 hi0)) _
theorem laws_szWant.T {a0_0 : Int} {a0_1 : List (List D)} {a0_2 : List (List D)} {a0_3 : List (List D)} {a1 : Int} (h0 : 0 ≤ a1) (h1 : a1 ≤ 1048576) (ga0_1 : Zm Yh maxLen a0_1) (ga0_2 : Zm RS maxLen a0_2) (ga0_3 : Zm RSI maxLen a0_3) : Tm Zar (fun k => laws_szWant.t k a0_0 a0_1 a0_2 a0_3 a1) (fun r => r < 0 ∨ 0 ≤ r ∧ r ≤ a1 ∧ Zm Yh lim a0_1 ∧ Zm RS lim a0_2 ∧ Zm RSI lim a0_3 ∧ ((ZE a0_1 + ZE a0_2 + ZE a0_3 : Nat) : Int) ≤ 64 * (a1 - r) ∧ True) := by
  unfold laws_szWant.t laws_szWant.g
  have hm := Za
  have hlim : lim = 1048576 := rfl
  refine laws_szTermS.tm (fun i hi => hi) (laws_szTermS.T (by first | assumption | omega) (by first | assumption | omega) (by first | assumption | omega)) (fun y2 hy1 => ?_)
  rcases hy1 with hy1 | ⟨p5, p6, q3, q4, _⟩
  · exact Tm.ite (fun _ => Tm.ret (by left; omega)) (fun h => by simp at h; omega)
  refine Tm.ite (fun h7 => ?_) (fun h7 => ?_)
  · try simp only [bz0, bz1, bz2, bz3, bz4, bz5, bz6, bz7, bz8, bz9, bza] at h7
    exact Tm.ret (by first | (left; omega) | (right; refine ⟨?_, ?_, ?_, ?_, ?_, ?_, trivial⟩ <;> first | assumption | omega))
  · try simp only [bz0, bz1, bz2, bz3, bz4, bz5, bz6, bz7, bz8, bz9, bza] at h7
    refine laws_szStringS.tm (fun i hi => hi) (laws_szStringS.T (by first | assumption | omega) (by first | assumption | omega) (by first | assumption | omega)) (fun y9 hy8 => ?_)
    rcases hy8 with hy8 | ⟨p12, p13, q10, q11, _⟩
    · exact Tm.ite (fun _ => Tm.ret (by left; omega)) (fun h => by simp at h; omega)
    refine Tm.ite (fun h14 => ?_) (fun h14 => ?_)
    · try simp only [bz0, bz1, bz2, bz3, bz4, bz5, bz6, bz7, bz8, bz9, bza] at h14
      exact Tm.ret (by first | (left; omega) | (right; refine ⟨?_, ?_, ?_, ?_, ?_, ?_, trivial⟩ <;> first | assumption | omega))
    · try simp only [bz0, bz1, bz2, bz3, bz4, bz5, bz6, bz7, bz8, bz9, bza] at h14
      refine laws_szWeighS.tm (fun i hi => hi) (laws_szWeighS.T (by first | assumption | omega) (by first | assumption | omega) (by first | assumption | omega)) (fun y16 hy15 => ?_)
      rcases hy15 with hy15 | ⟨p19, p20, q17, q18, _⟩
      · exact Tm.ite (fun _ => Tm.ret (by left; omega)) (fun h => by simp at h; omega)
      refine Tm.ite (fun h21 => ?_) (fun h21 => ?_)
      · try simp only [bz0, bz1, bz2, bz3, bz4, bz5, bz6, bz7, bz8, bz9, bza] at h21
        exact Tm.ret (by first | (left; omega) | (right; refine ⟨?_, ?_, ?_, ?_, ?_, ?_, trivial⟩ <;> first | assumption | omega))
      · try simp only [bz0, bz1, bz2, bz3, bz4, bz5, bz6, bz7, bz8, bz9, bza] at h21
        exact Tm.ret (by first | (left; omega) | (right; refine ⟨?_, ?_, ?_, ?_, ?_, ?_, trivial⟩ <;> first | assumption | omega))
theorem laws_szValueS.f_of {β : Type} {k : Nat} {a0 : List (List D)} {a1 : Int} {z0 : Int} (h : laws_szValueS.t k a0 a1 = some z0) (K : Int → Option β) : laws_szValueS.f k a0 a1 K = K z0 := by
  unfold laws_szValueS.f
  unfold laws_szValueS.w
  rw [h]
theorem laws_szValueS.tm {ι α : Type} {ok : ι → Prop} {ψ : α → Prop} {p : ι → Nat} {B : Nat} (hp : ∀ i, ok i → B ≤ p i) {a0 : List (List D)} {a1 : Int} {φ : Int → Prop} (h : Tm (fun k => B ≤ k) (fun k => laws_szValueS.t k a0 a1) φ) {G : ι → Int → Option α} (hG : ∀ z0, φ z0 → Tm ok (fun ι0 => G ι0 z0) ψ) : Tm ok (fun ι0 => laws_szValueS.f (p ι0) a0 a1 (G ι0)) ψ := by
  obtain ⟨z0, h1, h2⟩ := h
  exact (hG z0 h1).congr fun i0 hi0 => laws_szValueS.f_of (h2 (p i0) (hp i0 hi0)) _
inductive Yf (B : Nat) : Nat → List D → Prop
  | mk {h : Nat} (c0 : Int) (c1 : ByteArray) (c2 : Int) (c3 : List (List D)) (c4 : List (List D)) (k0 : (Lit.int .i64 c0).wf = true) (k1 : c1.size ≤ B) (k2 : (Lit.int .i64 c2).wf = true) (k3 : Zm RS B c3) (k4 : c4.length ≤ B) (m4 : ∀ r ∈ c4, Yf B h r) : Yf B (h + 1) [.int .i64 c0, .str c1, .int .i64 c2, .sl c3, .sl c4]
def Yd (B : Nat) (r : List D) : Prop := ∃ h, (B ≤ 1099511627776 → h ≤ 1099511627776) ∧ Yf B h r
theorem Yd.open {B : Nat} {r : List D} (h : Yd B r) : ∃ (c0 : Int) (c1 : ByteArray) (c2 : Int) (c3 : List (List D)) (c4 : List (List D)), r = [.int .i64 c0, .str c1, .int .i64 c2, .sl c3, .sl c4] ∧ (Lit.int .i64 c0).wf = true ∧ c1.size ≤ B ∧ (Lit.int .i64 c2).wf = true ∧ Zm RS B c3 ∧ Zm Yd B c4 ∧ True := by
  obtain ⟨h, hh, h1⟩ := h
  cases h1 with
  | mk c0 c1 c2 c3 c4 k0 k1 k2 k3 k4 m4 => exact ⟨c0, c1, c2, c3, c4, rfl, k0, k1, k2, k3, ⟨k4, fun r hr => ⟨_, fun hb => by have := hh hb; omega, m4 r hr⟩⟩, trivial⟩
theorem Yf.up {B B' : Nat} (hb : B ≤ B') : ∀ {h : Nat} {r : List D}, Yf B h r → Yf B' h r
  | _ + 1, _, .mk c0 c1 c2 c3 c4 k0 k1 k2 k3 k4 m4 => .mk c0 c1 c2 c3 c4 k0 (Nat.le_trans k1 hb) k2 ⟨Nat.le_trans k3.1 hb, fun r hr => (k3.2 r hr).mono hb⟩ (Nat.le_trans k4 hb) (fun r hr => Yf.up hb (m4 r hr))
theorem Yd.mono {B B' : Nat} (hb : B ≤ B') {r : List D} (h : Yd B r) : Yd B' r := by
  obtain ⟨h, hh, h1⟩ := h
  exact ⟨h, fun h2 => hh (Nat.le_trans hb h2), h1.up hb⟩
theorem Yf.mono {B : Nat} : ∀ {h h' : Nat} {r : List D}, h ≤ h' → Yf B h r → Yf B h' r
  | _, 0, _, hl, .mk .. => by omega
  | _ + 1, _ + 1, _, hl, .mk c0 c1 c2 c3 c4 k0 k1 k2 k3 k4 m4 => .mk c0 c1 c2 c3 c4 k0 k1 k2 k3 k4 (fun r hr => Yf.mono (by omega) (m4 r hr))
theorem Yd.wide {xs : List (List D)} (h : Zm Yd lim xs) : Zm Yd 2097152 xs := ⟨Nat.le_trans h.1 (by decide), fun r hr => (h.2 r hr).mono (by decide)⟩
theorem Yd.len {B : Nat} {r : List D} (h : Yd B r) : r.length = 5 := by
  obtain ⟨c0, c1, c2, c3, c4, rfl, _⟩ := h.open
  rfl
theorem Yd.gets {B : Nat} {xs : List (List D)} (h : ∀ r ∈ xs, Yd B r) {v : Int} (h0 : 0 ≤ v) (h1 : v < xs.length) : gR xs v = [.int .i64 (gI xs v 0), .str (gS xs v 1), .int .i64 (gI xs v 2), .sl (gL xs v 3), .sl (gL xs v 4)] ∧ (Lit.int .i64 (gI xs v 0)).wf = true ∧ (gS xs v 1).size ≤ B ∧ (Lit.int .i64 (gI xs v 2)).wf = true ∧ Zm RS B (gL xs v 3) ∧ Zm Yd B (gL xs v 4) ∧ True := by
  obtain ⟨c0, c1, c2, c3, c4, e, k0, k1, k2, k3, k4, _⟩ := (h (gR xs v) (gR_mem h0 h1)).open
  unfold gI gL gS
  rw [e]
  exact ⟨rfl, k0, k1, k2, k3, k4, trivial⟩
theorem Yd.rows {B : Nat} {xs : List (List D)} (h : ∀ r ∈ xs, Yd B r) {v : Int} (h0 : 0 ≤ v) (h1 : v < xs.length) {β : Type} (F : List D → Option β) : ZX xs v F = F [.int .i64 (gI xs v 0), .str (gS xs v 1), .int .i64 (gI xs v 2), .sl (gL xs v 3), .sl (gL xs v 4)] := by
  rw [← (Yd.gets h h0 h1).1]
  exact ZbB h0 h1 F
theorem Yd.get {B : Nat} {xs : List (List D)} (h : Zm Yd B xs) {v : Int} (h0 : 0 ≤ v) (h1 : v < xs.length) : gR xs v = [.int .i64 (gI xs v 0), .str (gS xs v 1), .int .i64 (gI xs v 2), .sl (gL xs v 3), .sl (gL xs v 4)] ∧ (Lit.int .i64 (gI xs v 0)).wf = true ∧ (gS xs v 1).size ≤ B ∧ (Lit.int .i64 (gI xs v 2)).wf = true ∧ Zm RS B (gL xs v 3) ∧ Zm Yd B (gL xs v 4) ∧ True := Yd.gets h.2 h0 h1
theorem Yd.row {B : Nat} {xs : List (List D)} (h : Zm Yd B xs) {v : Int} (h0 : 0 ≤ v) (h1 : v < xs.length) {β : Type} (F : List D → Option β) : ZX xs v F = F [.int .i64 (gI xs v 0), .str (gS xs v 1), .int .i64 (gI xs v 2), .sl (gL xs v 3), .sl (gL xs v 4)] := Yd.rows h.2 h0 h1 F
theorem laws_szValue.f_of {β : Type} {k : Nat} {a0_0 : Int} {a0_1 : ByteArray} {a0_2 : Int} {a0_3 : List (List D)} {a0_4 : List (List D)} {a1 : Int} {z0 : Int} (h : laws_szValue.t k a0_0 a0_1 a0_2 a0_3 a0_4 a1 = some z0) (K : Int → Option β) : laws_szValue.f k a0_0 a0_1 a0_2 a0_3 a0_4 a1 K = K z0 := by
  unfold laws_szValue.f
  unfold laws_szValue.w
  rw [h]
theorem laws_szValue.tm {ι α : Type} {ok : ι → Prop} {ψ : α → Prop} {p : ι → Nat} {B : Nat} (hp : ∀ i, ok i → B ≤ p i) {a0_0 : Int} {a0_1 : ByteArray} {a0_2 : Int} {a0_3 : List (List D)} {a0_4 : List (List D)} {a1 : Int} {φ : Int → Prop} (h : Tm (fun k => B ≤ k) (fun k => laws_szValue.t k a0_0 a0_1 a0_2 a0_3 a0_4 a1) φ) {G : ι → Int → Option α} (hG : ∀ z0, φ z0 → Tm ok (fun ι0 => G ι0 z0) ψ) : Tm ok (fun ι0 => laws_szValue.f (p ι0) a0_0 a0_1 a0_2 a0_3 a0_4 a1 (G ι0)) ψ := by
  obtain ⟨z0, h1, h2⟩ := h
  exact (hG z0 h1).congr fun i0 hi0 => laws_szValue.f_of (h2 (p i0) (hp i0 hi0)) _
theorem szVal (n : Nat) : (∀ (left : Int) (a : List (List D)), 0 ≤ left → left ≤ n → left ≤ 1048576 → Zm Yd maxLen a → Tm (fun k => big + 2 * n + 1 ≤ k) (fun k => laws_szValueS.t k a left) (fun r => r < 0 ∨ 0 ≤ r ∧ r ≤ left ∧ a.length ≤ lim ∧ (∀ x ∈ a, Yf lim (left - r).toNat x) ∧ ((ZE a : Nat) : Int) ≤ 64 * (left - r))) ∧
    (∀ (left c0 : Int) (c1 : ByteArray) (c2 : Int) (c3 c4 : List (List D)), 0 ≤ left → left ≤ n → left ≤ 1048576 → c1.size ≤ maxLen → Zm RS maxLen c3 → Zm Yd maxLen c4 → Tm (fun k => big + 2 * n + 2 ≤ k) (fun k => laws_szValue.t k c0 c1 c2 c3 c4 left) (fun r => r < 0 ∨ 0 ≤ r ∧ r ≤ left ∧ c1.size ≤ lim ∧ Zm RS lim c3 ∧ c4.length ≤ lim ∧ (∀ x ∈ c4, Yf lim (left - r).toNat x) ∧ ((ZE c3 + ZE c4 : Nat) : Int) ≤ 64 * (left - r))) := by
  have hm := Za
  have hlim : lim = 1048576 := rfl
  have hb : big = 2 ^ 64 := rfl
  induction n using Nat.strongRecOn with
  | ind n ih =>
  have S : ∀ (left : Int) (a : List (List D)), 0 ≤ left → left ≤ n → left ≤ 1048576 → Zm Yd maxLen a → Tm (fun k => big + 2 * n + 1 ≤ k) (fun k => laws_szValueS.t k a left) (fun r => r < 0 ∨ 0 ≤ r ∧ r ≤ left ∧ a.length ≤ lim ∧ (∀ x ∈ a, Yf lim (left - r).toNat x) ∧ ((ZE a : Nat) : Int) ≤ 64 * (left - r)) := by
    intro left a h0 h1 h2 g
    have hlen := g.1
    refine Tm.succ (g := fun k => laws_szValueS.g k a left (fun z0 => some z0)) (fun k => laws_szValueS.t_succ k a left) ?_
    unfold laws_szValueS.g laws_szValueS.body
    rw [ZC (x := left - a.length) (by omega) (by omega)]
    refine Tm.ite (fun h3 => Tm.ret (.inl (by omega))) (fun h3 => ?_)
    simp only [decide_eq_false_iff_not, Int.not_lt] at h3
    refine Tm.loop (okk := fun k => big + 2 * n ≤ k) (p := fun k => k) (fun i hi => by omega) (b := fun k => laws_szValueS.l0 k (laws_szValueS.f k) (laws_szValue.f k) a (fun z0 => some z0)) (fun v => match v with | (u0, i) => (((a.length : Int)) - i).toNat) (fun v => match v with | (u0, i) => 0 ≤ u0 ∧ u0 ≤ left - a.length ∧ 0 ≤ i ∧ i ≤ (a.length : Int) ∧ (∀ r ∈ a.take i.toNat, Yf lim (left - u0).toNat r) ∧ ((ZE (a.take i.toNat) : Nat) : Int) ≤ 64 * (left - a.length - u0 + i)) ?_ ?_ ?_
    · rintro ⟨u0, i⟩ hI
      simp only [] at hI ⊢
      omega
    · exact ⟨by omega, by omega, by omega, by omega, by simp, by simp [ZE]⟩
    · rintro ⟨u0, i⟩ hI L hL
      simp only [] at hI
      obtain ⟨u0a, u0b, i0, i1, hr, hwt⟩ := hI
      simp only [laws_szValueS.l0]
      refine Tm.ite (fun h4 => ?_) (fun h4 => ?_)
      · simp only [decide_eq_true_eq] at h4
        refine Tm.atRow (by omega) (by omega) (fun x5 hx6 hm7 => ?_)
        obtain ⟨c0, c1, c2, c3, c4, rfl, w0, g1, w2, g3, g4, _⟩ := (g.2 x5 hm7).open
        refine Tm.uncons (Tm.dInt (Tm.uncons (Tm.dStr (Tm.uncons (Tm.dInt (Tm.uncons (Tm.dSl (Tm.uncons (Tm.dSl (Tm.atEnd ?_))))))))))
        refine laws_szValue.tm (B := big + 2 * (n - 1) + 2) (fun i hi => by have := hi.1; omega) ((ih (n - 1) (by omega)).2 u0 c0 c1 c2 c3 c4 u0a (by omega) (by omega) g1 g3 g4) (fun y hy => ?_)
        rcases hy with hy | ⟨y0, y1, q1, q3, q4, q5, qw⟩
        · exact Tm.ite (fun _ => Tm.ret (.inl (by omega))) (fun h => by simp at h; omega)
        refine Tm.ite (fun h8 => by simp at h8; omega) (fun h8 => ?_)
        rw [ZC (x := i + 1) (by omega) (by omega)]
        have hwx := Zb4 i0 hx6
        simp only [Zbi, wtD] at hwx
        refine hL (y, i + 1) ⟨by omega, by omega, by omega, by omega, Zbd i0 hx6 (fun r hr' => (hr r hr').mono (by omega)) ?_, by omega⟩ (by simp only []; omega)
        exact Yf.mono (h := (u0 - y).toNat + 1) (by omega) (.mk _ _ _ _ _ w0 q1 w2 q3 q4 q5)
      · simp only [decide_eq_false_iff_not, Int.not_lt] at h4
        rw [List.take_of_length_le (by omega)] at hwt
        exact Tm.ret (.inr ⟨by omega, by omega, by omega, fun x hx => (Zau (by omega) hr x hx).mono (by omega), by omega⟩)
  refine ⟨S, ?_⟩
  intro left c0 c1 c2 c3 c4 h0 h1 h2 g1 g3 g4
  refine Tm.succ (g := fun k => laws_szValue.g k c0 c1 c2 c3 c4 left (fun z0 => some z0)) (fun k => laws_szValue.t_succ k c0 c1 c2 c3 c4 left) ?_
  unfold laws_szValue.g laws_szValue.body
  rw [ZC (x := left - c1.size) (by omega) (by omega)]
  refine Tm.ite (fun h3 => Tm.ret (.inl (by omega))) (fun h3 => ?_)
  simp only [decide_eq_false_iff_not, Int.not_lt] at h3
  refine laws_szStringS.tm (B := big) (fun i hi => by omega) (laws_szStringS.T (by omega) (by omega) g3) (fun y hy => ?_)
  rcases hy with hy | ⟨y0, y1, q3, qw, _⟩
  · exact Tm.ite (fun _ => Tm.ret (.inl (by omega))) (fun h => by simp at h; omega)
  refine Tm.ite (fun h8 => by simp at h8; omega) (fun h8 => ?_)
  refine laws_szValueS.tm (B := big + 2 * n + 1) (fun i hi => hi) (S y c4 y0 (by omega) (by omega) g4) (fun y' hy' => ?_)
  rcases hy' with hy' | ⟨y0', y1', q4, q5, qw'⟩
  · exact Tm.ite (fun _ => Tm.ret (.inl (by omega))) (fun h => by simp at h; omega)
  refine Tm.ite (fun h8 => by simp at h8; omega) (fun h8 => ?_)
  exact Tm.ret (.inr ⟨by omega, by omega, by omega, q3, q4, fun x hx => (q5 x hx).mono (by omega), by omega⟩)
theorem big_lv1 {n : Nat} (h : n ≤ 4398046511104) : big + n ≤ lv 1 := by
  have hb : big = 2 ^ 64 := rfl
  have : lv 1 = 2 ^ 65 := rfl
  omega
theorem laws_szValueS.T {a0 : List (List D)} {a1 : Int} (h0 : 0 ≤ a1) (h1 : a1 ≤ 1048576) (g : Zm Yd maxLen a0) : Tm (Zay 1) (fun k => laws_szValueS.t k a0 a1) (fun r => r < 0 ∨ 0 ≤ r ∧ r ≤ a1 ∧ Zm Yd lim a0 ∧ ((ZE a0 : Nat) : Int) ≤ 64 * (a1 - r) ∧ True) :=
  (((szVal a1.toNat).1 a1 a0 h0 (by omega) h1 g).up (big_lv1 (n := 2 * a1.toNat + 1) (by omega))).mono fun r hr => by
    rcases hr with hr | ⟨r0, r1, r2, r3, r4⟩
    · exact .inl hr
    · exact .inr ⟨r0, r1, ⟨r2, fun x hx => ⟨_, fun _ => by omega, r3 x hx⟩⟩, r4, trivial⟩
theorem laws_szValue.T {a0_0 : Int} {a0_1 : ByteArray} {a0_2 : Int} {a0_3 a0_4 : List (List D)} {a1 : Int} (h0 : 0 ≤ a1) (h1 : a1 ≤ 1048576) (g1 : a0_1.size ≤ maxLen) (g3 : Zm RS maxLen a0_3) (g4 : Zm Yd maxLen a0_4) : Tm (Zay 1) (fun k => laws_szValue.t k a0_0 a0_1 a0_2 a0_3 a0_4 a1) (fun r => r < 0 ∨ 0 ≤ r ∧ r ≤ a1 ∧ a0_1.size ≤ lim ∧ Zm RS lim a0_3 ∧ Zm Yd lim a0_4 ∧ ((ZE a0_3 + ZE a0_4 : Nat) : Int) ≤ 64 * (a1 - r) ∧ True) :=
  (((szVal a1.toNat).2 a1 a0_0 a0_1 a0_2 a0_3 a0_4 h0 (by omega) h1 g1 g3 g4).up (big_lv1 (n := 2 * a1.toNat + 2) (by omega))).mono fun r hr => by
    rcases hr with hr | ⟨r0, r1, r2, r3, r4, r5, r6⟩
    · exact .inl hr
    · exact .inr ⟨r0, r1, r2, r3, ⟨r4, fun x hx => ⟨_, fun _ => by omega, r5 x hx⟩⟩, r6, trivial⟩
theorem laws_szOp.f_of {β : Type} {k : Nat} {a0_0 : Int} {a0_1 : List (List D)} {a0_2 : Int} {a0_3 : ByteArray} {a0_4 : Int} {a0_5 : List (List D)} {a0_6 : List (List D)} {a1 : Int} {z0 : Int} (h : laws_szOp.t k a0_0 a0_1 a0_2 a0_3 a0_4 a0_5 a0_6 a1 = some z0) (K : Int → Option β) : laws_szOp.f k a0_0 a0_1 a0_2 a0_3 a0_4 a0_5 a0_6 a1 K = K z0 := by
  unfold laws_szOp.f
  rw [h]
theorem laws_szOp.tm {ι α : Type} {ok : ι → Prop} {ψ : α → Prop} {p : ι → Nat} {B : Nat} (hp : ∀ i, ok i → B ≤ p i) {a0_0 : Int} {a0_1 : List (List D)} {a0_2 : Int} {a0_3 : ByteArray} {a0_4 : Int} {a0_5 : List (List D)} {a0_6 : List (List D)} {a1 : Int} {φ : Int → Prop} (h : Tm (fun k => B ≤ k) (fun k => laws_szOp.t k a0_0 a0_1 a0_2 a0_3 a0_4 a0_5 a0_6 a1) φ) {G : ι → Int → Option α} (hG : ∀ z0, φ z0 → Tm ok (fun ι0 => G ι0 z0) ψ) : Tm ok (fun ι0 => laws_szOp.f (p ι0) a0_0 a0_1 a0_2 a0_3 a0_4 a0_5 a0_6 a1 (G ι0)) ψ := by
  obtain ⟨z0, h1, h2⟩ := h
  exact (hG z0 h1).congr fun i0 hi0 => laws_szOp.f_of (h2 (p i0) (hp i0 hi0)) _
theorem laws_szOp.T {a0_0 : Int} {a0_1 : List (List D)} {a0_2 : Int} {a0_3 : ByteArray} {a0_4 : Int} {a0_5 : List (List D)} {a0_6 : List (List D)} {a1 : Int} (h0 : 0 ≤ a1) (h1 : a1 ≤ 1048576) (ga0_1 : Zm RS maxLen a0_1) (ga0_3 : a0_3.size ≤ maxLen) (ga0_5 : Zm RS maxLen a0_5) (ga0_6 : Zm Yd maxLen a0_6) : Tm (Zay 1) (fun k => laws_szOp.t k a0_0 a0_1 a0_2 a0_3 a0_4 a0_5 a0_6 a1) (fun r => r < 0 ∨ 0 ≤ r ∧ r ≤ a1 ∧ Zm RS lim a0_1 ∧ a0_3.size ≤ lim ∧ Zm RS lim a0_5 ∧ Zm Yd lim a0_6 ∧ ((ZE a0_1 + ZE a0_5 + ZE a0_6 : Nat) : Int) ≤ 64 * (a1 - r) ∧ True) := by
  unfold laws_szOp.t laws_szOp.g
  have hm := Za
  have hlim : lim = 1048576 := rfl
  refine laws_szStringS.tm (fun i hi => up0 hi) (laws_szStringS.T (by first | assumption | omega) (by first | assumption | omega) (by first | assumption | omega)) (fun y2 hy1 => ?_)
  rcases hy1 with hy1 | ⟨p5, p6, q3, q4, _⟩
  · exact Tm.ite (fun _ => Tm.ret (by left; omega)) (fun h => by simp at h; omega)
  refine Tm.ite (fun h7 => ?_) (fun h7 => ?_)
  · try simp only [bz0, bz1, bz2, bz3, bz4, bz5, bz6, bz7, bz8, bz9, bza] at h7
    exact Tm.ret (by first | (left; omega) | (right; refine ⟨?_, ?_, ?_, ?_, ?_, ?_, ?_, trivial⟩ <;> first | assumption | omega))
  · try simp only [bz0, bz1, bz2, bz3, bz4, bz5, bz6, bz7, bz8, bz9, bza] at h7
    refine laws_szValue.tm (fun i hi => hi) (laws_szValue.T (by first | assumption | omega) (by first | assumption | omega) (by first | assumption | omega) (by first | assumption | omega) (by first | assumption | omega)) (fun y9 hy8 => ?_)
    rcases hy8 with hy8 | ⟨p14, p15, q10, q11, q12, q13, _⟩
    · exact Tm.ite (fun _ => Tm.ret (by left; omega)) (fun h => by simp at h; omega)
    refine Tm.ite (fun h16 => ?_) (fun h16 => ?_)
    · try simp only [bz0, bz1, bz2, bz3, bz4, bz5, bz6, bz7, bz8, bz9, bza] at h16
      exact Tm.ret (by first | (left; omega) | (right; refine ⟨?_, ?_, ?_, ?_, ?_, ?_, ?_, trivial⟩ <;> first | assumption | omega))
    · try simp only [bz0, bz1, bz2, bz3, bz4, bz5, bz6, bz7, bz8, bz9, bza] at h16
      exact Tm.ret (by first | (left; omega) | (right; refine ⟨?_, ?_, ?_, ?_, ?_, ?_, ?_, trivial⟩ <;> first | assumption | omega))
theorem laws_szOpS.f_of {β : Type} {k : Nat} {a0 : List (List D)} {a1 : Int} {z0 : Int} (h : laws_szOpS.t k a0 a1 = some z0) (K : Int → Option β) : laws_szOpS.f k a0 a1 K = K z0 := by
  unfold laws_szOpS.f
  rw [h]
theorem laws_szOpS.tm {ι α : Type} {ok : ι → Prop} {ψ : α → Prop} {p : ι → Nat} {B : Nat} (hp : ∀ i, ok i → B ≤ p i) {a0 : List (List D)} {a1 : Int} {φ : Int → Prop} (h : Tm (fun k => B ≤ k) (fun k => laws_szOpS.t k a0 a1) φ) {G : ι → Int → Option α} (hG : ∀ z0, φ z0 → Tm ok (fun ι0 => G ι0 z0) ψ) : Tm ok (fun ι0 => laws_szOpS.f (p ι0) a0 a1 (G ι0)) ψ := by
  obtain ⟨z0, h1, h2⟩ := h
  exact (hG z0 h1).congr fun i0 hi0 => laws_szOpS.f_of (h2 (p i0) (hp i0 hi0)) _
def Yc (B : Nat) (r : List D) : Prop := ∃ (c0 : Int) (c1 : List (List D)) (c2 : Int) (c3 : ByteArray) (c4 : Int) (c5 : List (List D)) (c6 : List (List D)), r = [.int .i64 c0, .sl c1, .int .i64 c2, .str c3, .int .i64 c4, .sl c5, .sl c6] ∧ (Lit.int .i64 c0).wf = true ∧ Zm RS B c1 ∧ (Lit.int .i64 c2).wf = true ∧ c3.size ≤ B ∧ (Lit.int .i64 c4).wf = true ∧ Zm RS B c5 ∧ Zm Yd B c6 ∧ True
theorem Yc.open {B : Nat} {r : List D} (h : Yc B r) : ∃ (c0 : Int) (c1 : List (List D)) (c2 : Int) (c3 : ByteArray) (c4 : Int) (c5 : List (List D)) (c6 : List (List D)), r = [.int .i64 c0, .sl c1, .int .i64 c2, .str c3, .int .i64 c4, .sl c5, .sl c6] ∧ (Lit.int .i64 c0).wf = true ∧ Zm RS B c1 ∧ (Lit.int .i64 c2).wf = true ∧ c3.size ≤ B ∧ (Lit.int .i64 c4).wf = true ∧ Zm RS B c5 ∧ Zm Yd B c6 ∧ True := h
theorem Yc.mono {B B' : Nat} (hb : B ≤ B') {r : List D} (h : Yc B r) : Yc B' r := by
  obtain ⟨c0, c1, c2, c3, c4, c5, c6, rfl, k0, k1, k2, k3, k4, k5, k6, _⟩ := h
  exact ⟨_, _, _, _, _, _, _, rfl, k0, ⟨Nat.le_trans k1.1 hb, fun r hr => (k1.2 r hr).mono hb⟩, k2, (Nat.le_trans k3 hb), k4, ⟨Nat.le_trans k5.1 hb, fun r hr => (k5.2 r hr).mono hb⟩, ⟨Nat.le_trans k6.1 hb, fun r hr => (k6.2 r hr).mono hb⟩, trivial⟩
theorem Yc.wide {xs : List (List D)} (h : Zm Yc lim xs) : Zm Yc 2097152 xs := ⟨Nat.le_trans h.1 (by decide), fun r hr => (h.2 r hr).mono (by decide)⟩
theorem Yc.len {B : Nat} {r : List D} (h : Yc B r) : r.length = 7 := by
  obtain ⟨c0, c1, c2, c3, c4, c5, c6, rfl, _⟩ := h.open
  rfl
theorem Yc.gets {B : Nat} {xs : List (List D)} (h : ∀ r ∈ xs, Yc B r) {v : Int} (h0 : 0 ≤ v) (h1 : v < xs.length) : gR xs v = [.int .i64 (gI xs v 0), .sl (gL xs v 1), .int .i64 (gI xs v 2), .str (gS xs v 3), .int .i64 (gI xs v 4), .sl (gL xs v 5), .sl (gL xs v 6)] ∧ (Lit.int .i64 (gI xs v 0)).wf = true ∧ Zm RS B (gL xs v 1) ∧ (Lit.int .i64 (gI xs v 2)).wf = true ∧ (gS xs v 3).size ≤ B ∧ (Lit.int .i64 (gI xs v 4)).wf = true ∧ Zm RS B (gL xs v 5) ∧ Zm Yd B (gL xs v 6) ∧ True := by
  obtain ⟨c0, c1, c2, c3, c4, c5, c6, e, k0, k1, k2, k3, k4, k5, k6, _⟩ := (h (gR xs v) (gR_mem h0 h1)).open
  unfold gI gL gS
  rw [e]
  exact ⟨rfl, k0, k1, k2, k3, k4, k5, k6, trivial⟩
theorem Yc.rows {B : Nat} {xs : List (List D)} (h : ∀ r ∈ xs, Yc B r) {v : Int} (h0 : 0 ≤ v) (h1 : v < xs.length) {β : Type} (F : List D → Option β) : ZX xs v F = F [.int .i64 (gI xs v 0), .sl (gL xs v 1), .int .i64 (gI xs v 2), .str (gS xs v 3), .int .i64 (gI xs v 4), .sl (gL xs v 5), .sl (gL xs v 6)] := by
  rw [← (Yc.gets h h0 h1).1]
  exact ZbB h0 h1 F
theorem Yc.get {B : Nat} {xs : List (List D)} (h : Zm Yc B xs) {v : Int} (h0 : 0 ≤ v) (h1 : v < xs.length) : gR xs v = [.int .i64 (gI xs v 0), .sl (gL xs v 1), .int .i64 (gI xs v 2), .str (gS xs v 3), .int .i64 (gI xs v 4), .sl (gL xs v 5), .sl (gL xs v 6)] ∧ (Lit.int .i64 (gI xs v 0)).wf = true ∧ Zm RS B (gL xs v 1) ∧ (Lit.int .i64 (gI xs v 2)).wf = true ∧ (gS xs v 3).size ≤ B ∧ (Lit.int .i64 (gI xs v 4)).wf = true ∧ Zm RS B (gL xs v 5) ∧ Zm Yd B (gL xs v 6) ∧ True := Yc.gets h.2 h0 h1
theorem Yc.row {B : Nat} {xs : List (List D)} (h : Zm Yc B xs) {v : Int} (h0 : 0 ≤ v) (h1 : v < xs.length) {β : Type} (F : List D → Option β) : ZX xs v F = F [.int .i64 (gI xs v 0), .sl (gL xs v 1), .int .i64 (gI xs v 2), .str (gS xs v 3), .int .i64 (gI xs v 4), .sl (gL xs v 5), .sl (gL xs v 6)] := Yc.rows h.2 h0 h1 F
theorem laws_szOpS.T {a0 : List (List D)} {a1 : Int} (h0 : 0 ≤ a1) (h1 : a1 ≤ 1048576) (ga0 : Zm Yc maxLen a0) : Tm (Zay 1) (fun k => laws_szOpS.t k a0 a1) (fun r => r < 0 ∨ 0 ≤ r ∧ r ≤ a1 ∧ Zm Yc lim a0 ∧ ((ZE a0 : Nat) : Int) ≤ 64 * (a1 - r) ∧ True) := by
  unfold laws_szOpS.t laws_szOpS.g
  have hm := Za
  have hlim : lim = 1048576 := rfl
  have hlen := ga0.1
  try rw [ZC (x := a1 - (a0.length : Int)) (by omega) (by omega)]
  refine Tm.ite (fun h1 => ?_) (fun h1 => ?_)
  · try simp only [bz0, bz1, bz2, bz3, bz4, bz5, bz6, bz7, bz8, bz9, bza] at h1
    exact Tm.ret (by first | (left; omega) | (right; refine ⟨?_, ?_, ?_, ?_, trivial⟩ <;> first | assumption | omega))
  · try simp only [bz0, bz1, bz2, bz3, bz4, bz5, bz6, bz7, bz8, bz9, bza] at h1
    refine Tm.loop (okk := (Zay 1)) (p := fun k => k) (fun i hi => up0 hi) (b := fun k => laws_szOpS.l0 k a0 (fun z0 => some z0)) (fun v => match v with | (u0, i) => (((a0.length : Int)) - i).toNat) (fun v => match v with | (u0, i) => 0 ≤ u0 ∧ u0 ≤ a1 ∧ 0 ≤ i ∧ i ≤ (a0.length : Int) ∧ (∀ r ∈ a0.take i.toNat, Yc lim r) ∧ ((ZE (a0.take i.toNat) : Nat) : Int) ≤ 64 * (a1 - a0.length - u0 + i)) ?_ ?_ ?_
    · rintro ⟨u0, i⟩ hI
      try simp only [] at hI ⊢
      have : big = 2 ^ 64 := rfl
      have := ga0.1
      omega
    · exact ⟨by omega, by omega, by omega, by simp, by simp, by simp [ZE]⟩
    · rintro ⟨u0, i⟩ hI L hL
      try simp only [] at hI
      obtain ⟨u0a, u0b, i0, i1, hr, hwt⟩ := hI
      simp only [laws_szOpS.l0]
      refine Tm.ite (fun h2 => ?_) (fun h2 => ?_)
      · try simp only [bz0, bz1, bz2, bz3, bz4, bz5, bz6, bz7, bz8, bz9, bza] at h2
        refine Tm.atRow (by first | assumption | omega) (by first | assumption | omega) (fun x3 hx4 hm5 => ?_)
        obtain ⟨c6, c7, c8, c9, c10, c11, c12, rfl, g13, g14, g15, g16, g17, g18, g19, _⟩ := (ga0.2 x3 hm5).open
        refine Tm.uncons ?_
        refine Tm.dInt ?_
        refine Tm.uncons ?_
        refine Tm.dSl ?_
        refine Tm.uncons ?_
        refine Tm.dInt ?_
        refine Tm.uncons ?_
        refine Tm.dStr ?_
        refine Tm.uncons ?_
        refine Tm.dInt ?_
        refine Tm.uncons ?_
        refine Tm.dSl ?_
        refine Tm.uncons ?_
        refine Tm.dSl ?_
        refine Tm.atEnd ?_
        refine laws_szOp.tm (fun i hi => hi.1) (laws_szOp.T (by first | assumption | omega) (by first | assumption | omega) (by first | assumption | omega) (by first | assumption | omega) (by first | assumption | omega) (by first | assumption | omega)) (fun y21 hy20 => ?_)
        rcases hy20 with hy20 | ⟨p27, p28, q22, q23, q24, q25, q26, _⟩
        · exact Tm.ite (fun _ => Tm.ret (by left; omega)) (fun h => by simp at h; omega)
        refine Tm.ite (fun h29 => ?_) (fun h29 => ?_)
        · try simp only [bz0, bz1, bz2, bz3, bz4, bz5, bz6, bz7, bz8, bz9, bza] at h29
          exact Tm.ret (by first | (left; omega) | (rw [List.take_of_length_le (by omega)] at hwt; exact .inr ⟨by omega, by omega, ⟨by simp only [lim]; omega, Zau (by omega) hr⟩, by omega, trivial⟩))
        · try simp only [bz0, bz1, bz2, bz3, bz4, bz5, bz6, bz7, bz8, bz9, bza] at h29
          try rw [ZC (x := i + 1) (by omega) (by omega)]
          have hwx := Zb4 i0 hx4
          simp only [Zbi, wtD] at hwx
          refine hL (y21, (i + 1)) ⟨by omega, by omega, by omega, by omega, Zbd i0 hx4 hr ⟨_, _, _, _, _, _, _, rfl, by first | assumption | omega, by first | assumption | omega, by first | assumption | omega, by first | assumption | omega, by first | assumption | omega, by first | assumption | omega, by first | assumption | omega, trivial⟩, by omega⟩ (by (try simp only []); omega)
      · try simp only [bz0, bz1, bz2, bz3, bz4, bz5, bz6, bz7, bz8, bz9, bza] at h2
        exact Tm.ret (by first | (left; omega) | (rw [List.take_of_length_le (by omega)] at hwt; exact .inr ⟨by omega, by omega, ⟨by simp only [lim]; omega, Zau (by omega) hr⟩, by omega, trivial⟩))
theorem laws_szOver.f_of {β : Type} {k : Nat} {a0_0 : ByteArray} {a0_1 : List (List D)} {a1 : Int} {z0 : Int} (h : laws_szOver.t k a0_0 a0_1 a1 = some z0) (K : Int → Option β) : laws_szOver.f k a0_0 a0_1 a1 K = K z0 := by
  unfold laws_szOver.f
  rw [h]
theorem laws_szOver.tm {ι α : Type} {ok : ι → Prop} {ψ : α → Prop} {p : ι → Nat} {B : Nat} (hp : ∀ i, ok i → B ≤ p i) {a0_0 : ByteArray} {a0_1 : List (List D)} {a1 : Int} {φ : Int → Prop} (h : Tm (fun k => B ≤ k) (fun k => laws_szOver.t k a0_0 a0_1 a1) φ) {G : ι → Int → Option α} (hG : ∀ z0, φ z0 → Tm ok (fun ι0 => G ι0 z0) ψ) : Tm ok (fun ι0 => laws_szOver.f (p ι0) a0_0 a0_1 a1 (G ι0)) ψ := by
  obtain ⟨z0, h1, h2⟩ := h
  exact (hG z0 h1).congr fun i0 hi0 => laws_szOver.f_of (h2 (p i0) (hp i0 hi0)) _
theorem laws_szOver.T {a0_0 : ByteArray} {a0_1 : List (List D)} {a1 : Int} (h0 : 0 ≤ a1) (h1 : a1 ≤ 1048576) (ga0_0 : a0_0.size ≤ maxLen) (ga0_1 : Zm Yc maxLen a0_1) : Tm (Zay 1) (fun k => laws_szOver.t k a0_0 a0_1 a1) (fun r => r < 0 ∨ 0 ≤ r ∧ r ≤ a1 ∧ a0_0.size ≤ lim ∧ Zm Yc lim a0_1 ∧ ((ZE a0_1 : Nat) : Int) ≤ 64 * (a1 - r) ∧ True) := by
  unfold laws_szOver.t laws_szOver.g
  have hm := Za
  have hlim : lim = 1048576 := rfl
  try rw [ZC (x := a1 - (a0_0.size : Int)) (by omega) (by omega)]
  refine Tm.ite (fun h1 => ?_) (fun h1 => ?_)
  · try simp only [bz0, bz1, bz2, bz3, bz4, bz5, bz6, bz7, bz8, bz9, bza] at h1
    exact Tm.ret (by first | (left; omega) | (right; refine ⟨?_, ?_, ?_, ?_, ?_, trivial⟩ <;> first | assumption | omega))
  · try simp only [bz0, bz1, bz2, bz3, bz4, bz5, bz6, bz7, bz8, bz9, bza] at h1
    refine laws_szOpS.tm (fun i hi => hi) (laws_szOpS.T (by first | assumption | omega) (by first | assumption | omega) (by first | assumption | omega)) (fun y3 hy2 => ?_)
    rcases hy2 with hy2 | ⟨p6, p7, q4, q5, _⟩
    · exact Tm.ite (fun _ => Tm.ret (by left; omega)) (fun h => by simp at h; omega)
    refine Tm.ite (fun h8 => ?_) (fun h8 => ?_)
    · try simp only [bz0, bz1, bz2, bz3, bz4, bz5, bz6, bz7, bz8, bz9, bza] at h8
      exact Tm.ret (by first | (left; omega) | (right; refine ⟨?_, ?_, ?_, ?_, ?_, trivial⟩ <;> first | assumption | omega))
    · try simp only [bz0, bz1, bz2, bz3, bz4, bz5, bz6, bz7, bz8, bz9, bza] at h8
      exact Tm.ret (by first | (left; omega) | (right; refine ⟨?_, ?_, ?_, ?_, ?_, trivial⟩ <;> first | assumption | omega))
theorem laws_szOverS.f_of {β : Type} {k : Nat} {a0 : List (List D)} {a1 : Int} {z0 : Int} (h : laws_szOverS.t k a0 a1 = some z0) (K : Int → Option β) : laws_szOverS.f k a0 a1 K = K z0 := by
  unfold laws_szOverS.f
  rw [h]
theorem laws_szOverS.tm {ι α : Type} {ok : ι → Prop} {ψ : α → Prop} {p : ι → Nat} {B : Nat} (hp : ∀ i, ok i → B ≤ p i) {a0 : List (List D)} {a1 : Int} {φ : Int → Prop} (h : Tm (fun k => B ≤ k) (fun k => laws_szOverS.t k a0 a1) φ) {G : ι → Int → Option α} (hG : ∀ z0, φ z0 → Tm ok (fun ι0 => G ι0 z0) ψ) : Tm ok (fun ι0 => laws_szOverS.f (p ι0) a0 a1 (G ι0)) ψ := by
  obtain ⟨z0, h1, h2⟩ := h
  exact (hG z0 h1).congr fun i0 hi0 => laws_szOverS.f_of (h2 (p i0) (hp i0 hi0)) _
def Yb (B : Nat) (r : List D) : Prop := ∃ (c0 : ByteArray) (c1 : List (List D)), r = [.str c0, .sl c1] ∧ c0.size ≤ B ∧ Zm Yc B c1 ∧ True
theorem Yb.open {B : Nat} {r : List D} (h : Yb B r) : ∃ (c0 : ByteArray) (c1 : List (List D)), r = [.str c0, .sl c1] ∧ c0.size ≤ B ∧ Zm Yc B c1 ∧ True := h
theorem Yb.mono {B B' : Nat} (hb : B ≤ B') {r : List D} (h : Yb B r) : Yb B' r := by
  obtain ⟨c0, c1, rfl, k0, k1, _⟩ := h
  exact ⟨_, _, rfl, (Nat.le_trans k0 hb), ⟨Nat.le_trans k1.1 hb, fun r hr => (k1.2 r hr).mono hb⟩, trivial⟩
theorem Yb.wide {xs : List (List D)} (h : Zm Yb lim xs) : Zm Yb 2097152 xs := ⟨Nat.le_trans h.1 (by decide), fun r hr => (h.2 r hr).mono (by decide)⟩
theorem Yb.len {B : Nat} {r : List D} (h : Yb B r) : r.length = 2 := by
  obtain ⟨c0, c1, rfl, _⟩ := h.open
  rfl
theorem Yb.gets {B : Nat} {xs : List (List D)} (h : ∀ r ∈ xs, Yb B r) {v : Int} (h0 : 0 ≤ v) (h1 : v < xs.length) : gR xs v = [.str (gS xs v 0), .sl (gL xs v 1)] ∧ (gS xs v 0).size ≤ B ∧ Zm Yc B (gL xs v 1) ∧ True := by
  obtain ⟨c0, c1, e, k0, k1, _⟩ := (h (gR xs v) (gR_mem h0 h1)).open
  unfold gL gS
  rw [e]
  exact ⟨rfl, k0, k1, trivial⟩
theorem Yb.rows {B : Nat} {xs : List (List D)} (h : ∀ r ∈ xs, Yb B r) {v : Int} (h0 : 0 ≤ v) (h1 : v < xs.length) {β : Type} (F : List D → Option β) : ZX xs v F = F [.str (gS xs v 0), .sl (gL xs v 1)] := by
  rw [← (Yb.gets h h0 h1).1]
  exact ZbB h0 h1 F
theorem Yb.get {B : Nat} {xs : List (List D)} (h : Zm Yb B xs) {v : Int} (h0 : 0 ≤ v) (h1 : v < xs.length) : gR xs v = [.str (gS xs v 0), .sl (gL xs v 1)] ∧ (gS xs v 0).size ≤ B ∧ Zm Yc B (gL xs v 1) ∧ True := Yb.gets h.2 h0 h1
theorem Yb.row {B : Nat} {xs : List (List D)} (h : Zm Yb B xs) {v : Int} (h0 : 0 ≤ v) (h1 : v < xs.length) {β : Type} (F : List D → Option β) : ZX xs v F = F [.str (gS xs v 0), .sl (gL xs v 1)] := Yb.rows h.2 h0 h1 F
theorem laws_szOverS.T {a0 : List (List D)} {a1 : Int} (h0 : 0 ≤ a1) (h1 : a1 ≤ 1048576) (ga0 : Zm Yb maxLen a0) : Tm (Zay 1) (fun k => laws_szOverS.t k a0 a1) (fun r => r < 0 ∨ 0 ≤ r ∧ r ≤ a1 ∧ Zm Yb lim a0 ∧ ((ZE a0 : Nat) : Int) ≤ 64 * (a1 - r) ∧ True) := by
  unfold laws_szOverS.t laws_szOverS.g
  have hm := Za
  have hlim : lim = 1048576 := rfl
  have hlen := ga0.1
  try rw [ZC (x := a1 - (a0.length : Int)) (by omega) (by omega)]
  refine Tm.ite (fun h1 => ?_) (fun h1 => ?_)
  · try simp only [bz0, bz1, bz2, bz3, bz4, bz5, bz6, bz7, bz8, bz9, bza] at h1
    exact Tm.ret (by first | (left; omega) | (right; refine ⟨?_, ?_, ?_, ?_, trivial⟩ <;> first | assumption | omega))
  · try simp only [bz0, bz1, bz2, bz3, bz4, bz5, bz6, bz7, bz8, bz9, bza] at h1
    refine Tm.loop (okk := (Zay 1)) (p := fun k => k) (fun i hi => up0 hi) (b := fun k => laws_szOverS.l0 k a0 (fun z0 => some z0)) (fun v => match v with | (u0, i) => (((a0.length : Int)) - i).toNat) (fun v => match v with | (u0, i) => 0 ≤ u0 ∧ u0 ≤ a1 ∧ 0 ≤ i ∧ i ≤ (a0.length : Int) ∧ (∀ r ∈ a0.take i.toNat, Yb lim r) ∧ ((ZE (a0.take i.toNat) : Nat) : Int) ≤ 64 * (a1 - a0.length - u0 + i)) ?_ ?_ ?_
    · rintro ⟨u0, i⟩ hI
      try simp only [] at hI ⊢
      have : big = 2 ^ 64 := rfl
      have := ga0.1
      omega
    · exact ⟨by omega, by omega, by omega, by simp, by simp, by simp [ZE]⟩
    · rintro ⟨u0, i⟩ hI L hL
      try simp only [] at hI
      obtain ⟨u0a, u0b, i0, i1, hr, hwt⟩ := hI
      simp only [laws_szOverS.l0]
      refine Tm.ite (fun h2 => ?_) (fun h2 => ?_)
      · try simp only [bz0, bz1, bz2, bz3, bz4, bz5, bz6, bz7, bz8, bz9, bza] at h2
        refine Tm.atRow (by first | assumption | omega) (by first | assumption | omega) (fun x3 hx4 hm5 => ?_)
        obtain ⟨c6, c7, rfl, g8, g9, _⟩ := (ga0.2 x3 hm5).open
        refine Tm.uncons ?_
        refine Tm.dStr ?_
        refine Tm.uncons ?_
        refine Tm.dSl ?_
        refine Tm.atEnd ?_
        refine laws_szOver.tm (fun i hi => hi.1) (laws_szOver.T (by first | assumption | omega) (by first | assumption | omega) (by first | assumption | omega) (by first | assumption | omega)) (fun y11 hy10 => ?_)
        rcases hy10 with hy10 | ⟨p15, p16, q12, q13, q14, _⟩
        · exact Tm.ite (fun _ => Tm.ret (by left; omega)) (fun h => by simp at h; omega)
        refine Tm.ite (fun h17 => ?_) (fun h17 => ?_)
        · try simp only [bz0, bz1, bz2, bz3, bz4, bz5, bz6, bz7, bz8, bz9, bza] at h17
          exact Tm.ret (by first | (left; omega) | (rw [List.take_of_length_le (by omega)] at hwt; exact .inr ⟨by omega, by omega, ⟨by simp only [lim]; omega, Zau (by omega) hr⟩, by omega, trivial⟩))
        · try simp only [bz0, bz1, bz2, bz3, bz4, bz5, bz6, bz7, bz8, bz9, bza] at h17
          try rw [ZC (x := i + 1) (by omega) (by omega)]
          have hwx := Zb4 i0 hx4
          simp only [Zbi, wtD] at hwx
          refine hL (y11, (i + 1)) ⟨by omega, by omega, by omega, by omega, Zbd i0 hx4 hr ⟨_, _, rfl, by first | assumption | omega, by first | assumption | omega, trivial⟩, by omega⟩ (by (try simp only []); omega)
      · try simp only [bz0, bz1, bz2, bz3, bz4, bz5, bz6, bz7, bz8, bz9, bza] at h2
        exact Tm.ret (by first | (left; omega) | (rw [List.take_of_length_le (by omega)] at hwt; exact .inr ⟨by omega, by omega, ⟨by simp only [lim]; omega, Zau (by omega) hr⟩, by omega, trivial⟩))
theorem laws_szJob.f_of {β : Type} {k : Nat} {a0_0 : Int} {a0_1 : ByteArray} {a0_2 : Int} {a0_3 : List (List D)} {a0_4 : List (List D)} {a0_5 : List (List D)} {a0_6 : Int} {a0_7 : ByteArray} {a0_8 : Int} {a0_9 : List (List D)} {a0_10 : List (List D)} {a0_11 : List (List D)} {a0_12 : Bool} {a1 : Int} {z0 : Int} (h : laws_szJob.t k a0_0 a0_1 a0_2 a0_3 a0_4 a0_5 a0_6 a0_7 a0_8 a0_9 a0_10 a0_11 a0_12 a1 = some z0) (K : Int → Option β) : laws_szJob.f k a0_0 a0_1 a0_2 a0_3 a0_4 a0_5 a0_6 a0_7 a0_8 a0_9 a0_10 a0_11 a0_12 a1 K = K z0 := by
  unfold laws_szJob.f
  rw [h]
theorem laws_szJob.tm {ι α : Type} {ok : ι → Prop} {ψ : α → Prop} {p : ι → Nat} {B : Nat} (hp : ∀ i, ok i → B ≤ p i) {a0_0 : Int} {a0_1 : ByteArray} {a0_2 : Int} {a0_3 : List (List D)} {a0_4 : List (List D)} {a0_5 : List (List D)} {a0_6 : Int} {a0_7 : ByteArray} {a0_8 : Int} {a0_9 : List (List D)} {a0_10 : List (List D)} {a0_11 : List (List D)} {a0_12 : Bool} {a1 : Int} {φ : Int → Prop} (h : Tm (fun k => B ≤ k) (fun k => laws_szJob.t k a0_0 a0_1 a0_2 a0_3 a0_4 a0_5 a0_6 a0_7 a0_8 a0_9 a0_10 a0_11 a0_12 a1) φ) {G : ι → Int → Option α} (hG : ∀ z0, φ z0 → Tm ok (fun ι0 => G ι0 z0) ψ) : Tm ok (fun ι0 => laws_szJob.f (p ι0) a0_0 a0_1 a0_2 a0_3 a0_4 a0_5 a0_6 a0_7 a0_8 a0_9 a0_10 a0_11 a0_12 a1 (G ι0)) ψ := by
  obtain ⟨z0, h1, h2⟩ := h
  exact (hG z0 h1).congr fun i0 hi0 => laws_szJob.f_of (h2 (p i0) (hp i0 hi0)) _
theorem laws_szJob.T {a0_0 : Int} {a0_1 : ByteArray} {a0_2 : Int} {a0_3 : List (List D)} {a0_4 : List (List D)} {a0_5 : List (List D)} {a0_6 : Int} {a0_7 : ByteArray} {a0_8 : Int} {a0_9 : List (List D)} {a0_10 : List (List D)} {a0_11 : List (List D)} {a0_12 : Bool} {a1 : Int} (h0 : 0 ≤ a1) (h1 : a1 ≤ 1048576) (ga0_1 : a0_1.size ≤ maxLen) (ga0_3 : Zm Yh maxLen a0_3) (ga0_4 : Zm RS maxLen a0_4) (ga0_5 : Zm RSI maxLen a0_5) (ga0_7 : a0_7.size ≤ maxLen) (ga0_9 : Zm RS maxLen a0_9) (ga0_10 : Zm Yd maxLen a0_10) (ga0_11 : Zm Yb maxLen a0_11) : Tm (Zay 1) (fun k => laws_szJob.t k a0_0 a0_1 a0_2 a0_3 a0_4 a0_5 a0_6 a0_7 a0_8 a0_9 a0_10 a0_11 a0_12 a1) (fun r => r < 0 ∨ 0 ≤ r ∧ r ≤ a1 ∧ a0_1.size ≤ lim ∧ Zm Yh lim a0_3 ∧ Zm RS lim a0_4 ∧ Zm RSI lim a0_5 ∧ a0_7.size ≤ lim ∧ Zm RS lim a0_9 ∧ Zm Yd lim a0_10 ∧ Zm Yb lim a0_11 ∧ ((ZE a0_3 + ZE a0_4 + ZE a0_5 + ZE a0_9 + ZE a0_10 + ZE a0_11 : Nat) : Int) ≤ 64 * (a1 - r) ∧ True) := by
  unfold laws_szJob.t laws_szJob.g
  have hm := Za
  have hlim : lim = 1048576 := rfl
  try rw [ZC (x := a1 - (a0_1.size : Int)) (by omega) (by omega)]
  refine Tm.ite (fun h1 => ?_) (fun h1 => ?_)
  · try simp only [bz0, bz1, bz2, bz3, bz4, bz5, bz6, bz7, bz8, bz9, bza] at h1
    exact Tm.ret (by first | (left; omega) | (right; refine ⟨?_, ?_, ?_, ?_, ?_, ?_, ?_, ?_, ?_, ?_, ?_, trivial⟩ <;> first | assumption | omega))
  · try simp only [bz0, bz1, bz2, bz3, bz4, bz5, bz6, bz7, bz8, bz9, bza] at h1
    refine laws_szWant.tm (fun i hi => up0 hi) (laws_szWant.T (by first | assumption | omega) (by first | assumption | omega) (by first | assumption | omega) (by first | assumption | omega) (by first | assumption | omega)) (fun y3 hy2 => ?_)
    rcases hy2 with hy2 | ⟨p8, p9, q4, q5, q6, q7, _⟩
    · exact Tm.ite (fun _ => Tm.ret (by left; omega)) (fun h => by simp at h; omega)
    refine Tm.ite (fun h10 => ?_) (fun h10 => ?_)
    · try simp only [bz0, bz1, bz2, bz3, bz4, bz5, bz6, bz7, bz8, bz9, bza] at h10
      exact Tm.ret (by first | (left; omega) | (right; refine ⟨?_, ?_, ?_, ?_, ?_, ?_, ?_, ?_, ?_, ?_, ?_, trivial⟩ <;> first | assumption | omega))
    · try simp only [bz0, bz1, bz2, bz3, bz4, bz5, bz6, bz7, bz8, bz9, bza] at h10
      refine laws_szValue.tm (fun i hi => hi) (laws_szValue.T (by first | assumption | omega) (by first | assumption | omega) (by first | assumption | omega) (by first | assumption | omega) (by first | assumption | omega)) (fun y12 hy11 => ?_)
      rcases hy11 with hy11 | ⟨p17, p18, q13, q14, q15, q16, _⟩
      · exact Tm.ite (fun _ => Tm.ret (by left; omega)) (fun h => by simp at h; omega)
      refine Tm.ite (fun h19 => ?_) (fun h19 => ?_)
      · try simp only [bz0, bz1, bz2, bz3, bz4, bz5, bz6, bz7, bz8, bz9, bza] at h19
        exact Tm.ret (by first | (left; omega) | (right; refine ⟨?_, ?_, ?_, ?_, ?_, ?_, ?_, ?_, ?_, ?_, ?_, trivial⟩ <;> first | assumption | omega))
      · try simp only [bz0, bz1, bz2, bz3, bz4, bz5, bz6, bz7, bz8, bz9, bza] at h19
        refine laws_szOverS.tm (fun i hi => hi) (laws_szOverS.T (by first | assumption | omega) (by first | assumption | omega) (by first | assumption | omega)) (fun y21 hy20 => ?_)
        rcases hy20 with hy20 | ⟨p24, p25, q22, q23, _⟩
        · exact Tm.ite (fun _ => Tm.ret (by left; omega)) (fun h => by simp at h; omega)
        refine Tm.ite (fun h26 => ?_) (fun h26 => ?_)
        · try simp only [bz0, bz1, bz2, bz3, bz4, bz5, bz6, bz7, bz8, bz9, bza] at h26
          exact Tm.ret (by first | (left; omega) | (right; refine ⟨?_, ?_, ?_, ?_, ?_, ?_, ?_, ?_, ?_, ?_, ?_, trivial⟩ <;> first | assumption | omega))
        · try simp only [bz0, bz1, bz2, bz3, bz4, bz5, bz6, bz7, bz8, bz9, bza] at h26
          exact Tm.ret (by first | (left; omega) | (right; refine ⟨?_, ?_, ?_, ?_, ?_, ?_, ?_, ?_, ?_, ?_, ?_, trivial⟩ <;> first | assumption | omega))
theorem laws_szJobS.f_of {β : Type} {k : Nat} {a0 : List (List D)} {a1 : Int} {z0 : Int} (h : laws_szJobS.t k a0 a1 = some z0) (K : Int → Option β) : laws_szJobS.f k a0 a1 K = K z0 := by
  unfold laws_szJobS.f
  rw [h]
theorem laws_szJobS.tm {ι α : Type} {ok : ι → Prop} {ψ : α → Prop} {p : ι → Nat} {B : Nat} (hp : ∀ i, ok i → B ≤ p i) {a0 : List (List D)} {a1 : Int} {φ : Int → Prop} (h : Tm (fun k => B ≤ k) (fun k => laws_szJobS.t k a0 a1) φ) {G : ι → Int → Option α} (hG : ∀ z0, φ z0 → Tm ok (fun ι0 => G ι0 z0) ψ) : Tm ok (fun ι0 => laws_szJobS.f (p ι0) a0 a1 (G ι0)) ψ := by
  obtain ⟨z0, h1, h2⟩ := h
  exact (hG z0 h1).congr fun i0 hi0 => laws_szJobS.f_of (h2 (p i0) (hp i0 hi0)) _
def Ya (B : Nat) (r : List D) : Prop := ∃ (c0 : Int) (c1 : ByteArray) (c2 : Int) (c3 : List (List D)) (c4 : List (List D)) (c5 : List (List D)) (c6 : Int) (c7 : ByteArray) (c8 : Int) (c9 : List (List D)) (c10 : List (List D)) (c11 : List (List D)) (c12 : Bool), r = [.int .i64 c0, .str c1, .int .i64 c2, .sl c3, .sl c4, .sl c5, .int .i64 c6, .str c7, .int .i64 c8, .sl c9, .sl c10, .sl c11, .bool c12] ∧ (Lit.int .i64 c0).wf = true ∧ c1.size ≤ B ∧ (Lit.int .i64 c2).wf = true ∧ Zm Yh B c3 ∧ Zm RS B c4 ∧ Zm RSI B c5 ∧ (Lit.int .i64 c6).wf = true ∧ c7.size ≤ B ∧ (Lit.int .i64 c8).wf = true ∧ Zm RS B c9 ∧ Zm Yd B c10 ∧ Zm Yb B c11 ∧ True
theorem Ya.open {B : Nat} {r : List D} (h : Ya B r) : ∃ (c0 : Int) (c1 : ByteArray) (c2 : Int) (c3 : List (List D)) (c4 : List (List D)) (c5 : List (List D)) (c6 : Int) (c7 : ByteArray) (c8 : Int) (c9 : List (List D)) (c10 : List (List D)) (c11 : List (List D)) (c12 : Bool), r = [.int .i64 c0, .str c1, .int .i64 c2, .sl c3, .sl c4, .sl c5, .int .i64 c6, .str c7, .int .i64 c8, .sl c9, .sl c10, .sl c11, .bool c12] ∧ (Lit.int .i64 c0).wf = true ∧ c1.size ≤ B ∧ (Lit.int .i64 c2).wf = true ∧ Zm Yh B c3 ∧ Zm RS B c4 ∧ Zm RSI B c5 ∧ (Lit.int .i64 c6).wf = true ∧ c7.size ≤ B ∧ (Lit.int .i64 c8).wf = true ∧ Zm RS B c9 ∧ Zm Yd B c10 ∧ Zm Yb B c11 ∧ True := h
theorem Ya.mono {B B' : Nat} (hb : B ≤ B') {r : List D} (h : Ya B r) : Ya B' r := by
  obtain ⟨c0, c1, c2, c3, c4, c5, c6, c7, c8, c9, c10, c11, c12, rfl, k0, k1, k2, k3, k4, k5, k6, k7, k8, k9, k10, k11, _⟩ := h
  exact ⟨_, _, _, _, _, _, _, _, _, _, _, _, _, rfl, k0, (Nat.le_trans k1 hb), k2, ⟨Nat.le_trans k3.1 hb, fun r hr => (k3.2 r hr).mono hb⟩, ⟨Nat.le_trans k4.1 hb, fun r hr => (k4.2 r hr).mono hb⟩, ⟨Nat.le_trans k5.1 hb, fun r hr => (k5.2 r hr).mono hb⟩, k6, (Nat.le_trans k7 hb), k8, ⟨Nat.le_trans k9.1 hb, fun r hr => (k9.2 r hr).mono hb⟩, ⟨Nat.le_trans k10.1 hb, fun r hr => (k10.2 r hr).mono hb⟩, ⟨Nat.le_trans k11.1 hb, fun r hr => (k11.2 r hr).mono hb⟩, trivial⟩
theorem Ya.wide {xs : List (List D)} (h : Zm Ya lim xs) : Zm Ya 2097152 xs := ⟨Nat.le_trans h.1 (by decide), fun r hr => (h.2 r hr).mono (by decide)⟩
theorem Ya.len {B : Nat} {r : List D} (h : Ya B r) : r.length = 13 := by
  obtain ⟨c0, c1, c2, c3, c4, c5, c6, c7, c8, c9, c10, c11, c12, rfl, _⟩ := h.open
  rfl
theorem Ya.gets {B : Nat} {xs : List (List D)} (h : ∀ r ∈ xs, Ya B r) {v : Int} (h0 : 0 ≤ v) (h1 : v < xs.length) : gR xs v = [.int .i64 (gI xs v 0), .str (gS xs v 1), .int .i64 (gI xs v 2), .sl (gL xs v 3), .sl (gL xs v 4), .sl (gL xs v 5), .int .i64 (gI xs v 6), .str (gS xs v 7), .int .i64 (gI xs v 8), .sl (gL xs v 9), .sl (gL xs v 10), .sl (gL xs v 11), .bool (gB xs v 12)] ∧ (Lit.int .i64 (gI xs v 0)).wf = true ∧ (gS xs v 1).size ≤ B ∧ (Lit.int .i64 (gI xs v 2)).wf = true ∧ Zm Yh B (gL xs v 3) ∧ Zm RS B (gL xs v 4) ∧ Zm RSI B (gL xs v 5) ∧ (Lit.int .i64 (gI xs v 6)).wf = true ∧ (gS xs v 7).size ≤ B ∧ (Lit.int .i64 (gI xs v 8)).wf = true ∧ Zm RS B (gL xs v 9) ∧ Zm Yd B (gL xs v 10) ∧ Zm Yb B (gL xs v 11) ∧ True := by
  obtain ⟨c0, c1, c2, c3, c4, c5, c6, c7, c8, c9, c10, c11, c12, e, k0, k1, k2, k3, k4, k5, k6, k7, k8, k9, k10, k11, _⟩ := (h (gR xs v) (gR_mem h0 h1)).open
  unfold gB gI gL gS
  rw [e]
  exact ⟨rfl, k0, k1, k2, k3, k4, k5, k6, k7, k8, k9, k10, k11, trivial⟩
theorem Ya.rows {B : Nat} {xs : List (List D)} (h : ∀ r ∈ xs, Ya B r) {v : Int} (h0 : 0 ≤ v) (h1 : v < xs.length) {β : Type} (F : List D → Option β) : ZX xs v F = F [.int .i64 (gI xs v 0), .str (gS xs v 1), .int .i64 (gI xs v 2), .sl (gL xs v 3), .sl (gL xs v 4), .sl (gL xs v 5), .int .i64 (gI xs v 6), .str (gS xs v 7), .int .i64 (gI xs v 8), .sl (gL xs v 9), .sl (gL xs v 10), .sl (gL xs v 11), .bool (gB xs v 12)] := by
  rw [← (Ya.gets h h0 h1).1]
  exact ZbB h0 h1 F
theorem Ya.get {B : Nat} {xs : List (List D)} (h : Zm Ya B xs) {v : Int} (h0 : 0 ≤ v) (h1 : v < xs.length) : gR xs v = [.int .i64 (gI xs v 0), .str (gS xs v 1), .int .i64 (gI xs v 2), .sl (gL xs v 3), .sl (gL xs v 4), .sl (gL xs v 5), .int .i64 (gI xs v 6), .str (gS xs v 7), .int .i64 (gI xs v 8), .sl (gL xs v 9), .sl (gL xs v 10), .sl (gL xs v 11), .bool (gB xs v 12)] ∧ (Lit.int .i64 (gI xs v 0)).wf = true ∧ (gS xs v 1).size ≤ B ∧ (Lit.int .i64 (gI xs v 2)).wf = true ∧ Zm Yh B (gL xs v 3) ∧ Zm RS B (gL xs v 4) ∧ Zm RSI B (gL xs v 5) ∧ (Lit.int .i64 (gI xs v 6)).wf = true ∧ (gS xs v 7).size ≤ B ∧ (Lit.int .i64 (gI xs v 8)).wf = true ∧ Zm RS B (gL xs v 9) ∧ Zm Yd B (gL xs v 10) ∧ Zm Yb B (gL xs v 11) ∧ True := Ya.gets h.2 h0 h1
theorem Ya.row {B : Nat} {xs : List (List D)} (h : Zm Ya B xs) {v : Int} (h0 : 0 ≤ v) (h1 : v < xs.length) {β : Type} (F : List D → Option β) : ZX xs v F = F [.int .i64 (gI xs v 0), .str (gS xs v 1), .int .i64 (gI xs v 2), .sl (gL xs v 3), .sl (gL xs v 4), .sl (gL xs v 5), .int .i64 (gI xs v 6), .str (gS xs v 7), .int .i64 (gI xs v 8), .sl (gL xs v 9), .sl (gL xs v 10), .sl (gL xs v 11), .bool (gB xs v 12)] := Ya.rows h.2 h0 h1 F
theorem laws_szJobS.T {a0 : List (List D)} {a1 : Int} (h0 : 0 ≤ a1) (h1 : a1 ≤ 1048576) (ga0 : Zm Ya maxLen a0) : Tm (Zay 1) (fun k => laws_szJobS.t k a0 a1) (fun r => r < 0 ∨ 0 ≤ r ∧ r ≤ a1 ∧ Zm Ya lim a0 ∧ ((ZE a0 : Nat) : Int) ≤ 64 * (a1 - r) ∧ True) := by
  unfold laws_szJobS.t laws_szJobS.g
  have hm := Za
  have hlim : lim = 1048576 := rfl
  have hlen := ga0.1
  try rw [ZC (x := a1 - (a0.length : Int)) (by omega) (by omega)]
  refine Tm.ite (fun h1 => ?_) (fun h1 => ?_)
  · try simp only [bz0, bz1, bz2, bz3, bz4, bz5, bz6, bz7, bz8, bz9, bza] at h1
    exact Tm.ret (by first | (left; omega) | (right; refine ⟨?_, ?_, ?_, ?_, trivial⟩ <;> first | assumption | omega))
  · try simp only [bz0, bz1, bz2, bz3, bz4, bz5, bz6, bz7, bz8, bz9, bza] at h1
    refine Tm.loop (okk := (Zay 1)) (p := fun k => k) (fun i hi => up0 hi) (b := fun k => laws_szJobS.l0 k a0 (fun z0 => some z0)) (fun v => match v with | (u0, i) => (((a0.length : Int)) - i).toNat) (fun v => match v with | (u0, i) => 0 ≤ u0 ∧ u0 ≤ a1 ∧ 0 ≤ i ∧ i ≤ (a0.length : Int) ∧ (∀ r ∈ a0.take i.toNat, Ya lim r) ∧ ((ZE (a0.take i.toNat) : Nat) : Int) ≤ 64 * (a1 - a0.length - u0 + i)) ?_ ?_ ?_
    · rintro ⟨u0, i⟩ hI
      try simp only [] at hI ⊢
      have : big = 2 ^ 64 := rfl
      have := ga0.1
      omega
    · exact ⟨by omega, by omega, by omega, by simp, by simp, by simp [ZE]⟩
    · rintro ⟨u0, i⟩ hI L hL
      try simp only [] at hI
      obtain ⟨u0a, u0b, i0, i1, hr, hwt⟩ := hI
      simp only [laws_szJobS.l0]
      refine Tm.ite (fun h2 => ?_) (fun h2 => ?_)
      · try simp only [bz0, bz1, bz2, bz3, bz4, bz5, bz6, bz7, bz8, bz9, bza] at h2
        refine Tm.atRow (by first | assumption | omega) (by first | assumption | omega) (fun x3 hx4 hm5 => ?_)
        obtain ⟨c6, c7, c8, c9, c10, c11, c12, c13, c14, c15, c16, c17, c18, rfl, g19, g20, g21, g22, g23, g24, g25, g26, g27, g28, g29, g30, _⟩ := (ga0.2 x3 hm5).open
        refine Tm.uncons ?_
        refine Tm.dInt ?_
        refine Tm.uncons ?_
        refine Tm.dStr ?_
        refine Tm.uncons ?_
        refine Tm.dInt ?_
        refine Tm.uncons ?_
        refine Tm.dSl ?_
        refine Tm.uncons ?_
        refine Tm.dSl ?_
        refine Tm.uncons ?_
        refine Tm.dSl ?_
        refine Tm.uncons ?_
        refine Tm.dInt ?_
        refine Tm.uncons ?_
        refine Tm.dStr ?_
        refine Tm.uncons ?_
        refine Tm.dInt ?_
        refine Tm.uncons ?_
        refine Tm.dSl ?_
        refine Tm.uncons ?_
        refine Tm.dSl ?_
        refine Tm.uncons ?_
        refine Tm.dSl ?_
        refine Tm.uncons ?_
        refine Tm.dBool ?_
        refine Tm.atEnd ?_
        refine laws_szJob.tm (fun i hi => hi.1) (laws_szJob.T (by first | assumption | omega) (by first | assumption | omega) (by first | assumption | omega) (by first | assumption | omega) (by first | assumption | omega) (by first | assumption | omega) (by first | assumption | omega) (by first | assumption | omega) (by first | assumption | omega) (by first | assumption | omega)) (fun y32 hy31 => ?_)
        rcases hy31 with hy31 | ⟨p42, p43, q33, q34, q35, q36, q37, q38, q39, q40, q41, _⟩
        · exact Tm.ite (fun _ => Tm.ret (by left; omega)) (fun h => by simp at h; omega)
        refine Tm.ite (fun h44 => ?_) (fun h44 => ?_)
        · try simp only [bz0, bz1, bz2, bz3, bz4, bz5, bz6, bz7, bz8, bz9, bza] at h44
          exact Tm.ret (by first | (left; omega) | (rw [List.take_of_length_le (by omega)] at hwt; exact .inr ⟨by omega, by omega, ⟨by simp only [lim]; omega, Zau (by omega) hr⟩, by omega, trivial⟩))
        · try simp only [bz0, bz1, bz2, bz3, bz4, bz5, bz6, bz7, bz8, bz9, bza] at h44
          try rw [ZC (x := i + 1) (by omega) (by omega)]
          have hwx := Zb4 i0 hx4
          simp only [Zbi, wtD] at hwx
          refine hL (y32, (i + 1)) ⟨by omega, by omega, by omega, by omega, Zbd i0 hx4 hr ⟨_, _, _, _, _, _, _, _, _, _, _, _, _, rfl, by first | assumption | omega, by first | assumption | omega, by first | assumption | omega, by first | assumption | omega, by first | assumption | omega, by first | assumption | omega, by first | assumption | omega, by first | assumption | omega, by first | assumption | omega, by first | assumption | omega, by first | assumption | omega, by first | assumption | omega, trivial⟩, by omega⟩ (by (try simp only []); omega)
      · try simp only [bz0, bz1, bz2, bz3, bz4, bz5, bz6, bz7, bz8, bz9, bza] at h2
        exact Tm.ret (by first | (left; omega) | (rw [List.take_of_length_le (by omega)] at hwt; exact .inr ⟨by omega, by omega, ⟨by simp only [lim]; omega, Zau (by omega) hr⟩, by omega, trivial⟩))
theorem laws_szLabel.f_of {β : Type} {k : Nat} {a0_0 : ByteArray} {a0_1 : ByteArray} {a1 : Int} {z0 : Int} (h : laws_szLabel.t k a0_0 a0_1 a1 = some z0) (K : Int → Option β) : laws_szLabel.f k a0_0 a0_1 a1 K = K z0 := by
  unfold laws_szLabel.f
  rw [h]
theorem laws_szLabel.tm {ι α : Type} {ok : ι → Prop} {ψ : α → Prop} {p : ι → Nat} {B : Nat} (hp : ∀ i, ok i → B ≤ p i) {a0_0 : ByteArray} {a0_1 : ByteArray} {a1 : Int} {φ : Int → Prop} (h : Tm (fun k => B ≤ k) (fun k => laws_szLabel.t k a0_0 a0_1 a1) φ) {G : ι → Int → Option α} (hG : ∀ z0, φ z0 → Tm ok (fun ι0 => G ι0 z0) ψ) : Tm ok (fun ι0 => laws_szLabel.f (p ι0) a0_0 a0_1 a1 (G ι0)) ψ := by
  obtain ⟨z0, h1, h2⟩ := h
  exact (hG z0 h1).congr fun i0 hi0 => laws_szLabel.f_of (h2 (p i0) (hp i0 hi0)) _
theorem laws_szLabel.T {a0_0 : ByteArray} {a0_1 : ByteArray} {a1 : Int} (h0 : 0 ≤ a1) (h1 : a1 ≤ 1048576) (ga0_0 : a0_0.size ≤ maxLen) (ga0_1 : a0_1.size ≤ maxLen) : Tm Zar (fun k => laws_szLabel.t k a0_0 a0_1 a1) (fun r => r < 0 ∨ 0 ≤ r ∧ r ≤ a1 ∧ a0_0.size ≤ lim ∧ a0_1.size ≤ lim ∧ True) := by
  unfold laws_szLabel.t laws_szLabel.g
  have hm := Za
  have hlim : lim = 1048576 := rfl
  try rw [ZC (x := a1 - (a0_0.size : Int)) (by omega) (by omega)]
  refine Tm.ite (fun h1 => ?_) (fun h1 => ?_)
  · try simp only [bz0, bz1, bz2, bz3, bz4, bz5, bz6, bz7, bz8, bz9, bza] at h1
    exact Tm.ret (by first | (left; omega) | (right; refine ⟨?_, ?_, ?_, ?_, trivial⟩ <;> first | assumption | omega))
  · try simp only [bz0, bz1, bz2, bz3, bz4, bz5, bz6, bz7, bz8, bz9, bza] at h1
    try rw [ZC (x := ((a1 - (a0_0.size : Int))) - (a0_1.size : Int)) (by omega) (by omega)]
    refine Tm.ite (fun h2 => ?_) (fun h2 => ?_)
    · try simp only [bz0, bz1, bz2, bz3, bz4, bz5, bz6, bz7, bz8, bz9, bza] at h2
      exact Tm.ret (by first | (left; omega) | (right; refine ⟨?_, ?_, ?_, ?_, trivial⟩ <;> first | assumption | omega))
    · try simp only [bz0, bz1, bz2, bz3, bz4, bz5, bz6, bz7, bz8, bz9, bza] at h2
      exact Tm.ret (by first | (left; omega) | (right; refine ⟨?_, ?_, ?_, ?_, trivial⟩ <;> first | assumption | omega))
theorem laws_szLabelS.f_of {β : Type} {k : Nat} {a0 : List (List D)} {a1 : Int} {z0 : Int} (h : laws_szLabelS.t k a0 a1 = some z0) (K : Int → Option β) : laws_szLabelS.f k a0 a1 K = K z0 := by
  unfold laws_szLabelS.f
  rw [h]
theorem laws_szLabelS.tm {ι α : Type} {ok : ι → Prop} {ψ : α → Prop} {p : ι → Nat} {B : Nat} (hp : ∀ i, ok i → B ≤ p i) {a0 : List (List D)} {a1 : Int} {φ : Int → Prop} (h : Tm (fun k => B ≤ k) (fun k => laws_szLabelS.t k a0 a1) φ) {G : ι → Int → Option α} (hG : ∀ z0, φ z0 → Tm ok (fun ι0 => G ι0 z0) ψ) : Tm ok (fun ι0 => laws_szLabelS.f (p ι0) a0 a1 (G ι0)) ψ := by
  obtain ⟨z0, h1, h2⟩ := h
  exact (hG z0 h1).congr fun i0 hi0 => laws_szLabelS.f_of (h2 (p i0) (hp i0 hi0)) _
def RSS (B : Nat) (r : List D) : Prop := ∃ (c0 : ByteArray) (c1 : ByteArray), r = [.str c0, .str c1] ∧ c0.size ≤ B ∧ c1.size ≤ B ∧ True
theorem RSS.open {B : Nat} {r : List D} (h : RSS B r) : ∃ (c0 : ByteArray) (c1 : ByteArray), r = [.str c0, .str c1] ∧ c0.size ≤ B ∧ c1.size ≤ B ∧ True := h
theorem RSS.mono {B B' : Nat} (hb : B ≤ B') {r : List D} (h : RSS B r) : RSS B' r := by
  obtain ⟨c0, c1, rfl, k0, k1, _⟩ := h
  exact ⟨_, _, rfl, (Nat.le_trans k0 hb), (Nat.le_trans k1 hb), trivial⟩
theorem RSS.wide {xs : List (List D)} (h : Zm RSS lim xs) : Zm RSS 2097152 xs := ⟨Nat.le_trans h.1 (by decide), fun r hr => (h.2 r hr).mono (by decide)⟩
theorem RSS.len {B : Nat} {r : List D} (h : RSS B r) : r.length = 2 := by
  obtain ⟨c0, c1, rfl, _⟩ := h.open
  rfl
theorem RSS.flat {B : Nat} {xs : List (List D)} (h : ∀ r ∈ xs, RSS B r) : Zcm 2 xs := fun r hr => by
  obtain ⟨c0, c1, rfl, _⟩ := (h r hr).open
  exact ⟨rfl, by simp [Zaq]⟩
theorem RSS.wt {B : Nat} {xs : List (List D)} (h : ∀ r ∈ xs, RSS B r) : ZE xs = 2 * xs.length := wt_flat (R := RSS B) (fun r h => by obtain ⟨c0, c1, rfl, _⟩ := h; rfl) xs h
theorem RSS.deep {B : Nat} {xs : List (List D)} (h : ∀ r ∈ xs, RSS B r) : Zs xs = xs.map (·.map C.d) := deep_flat (R := RSS B) (fun r h => by obtain ⟨c0, c1, rfl, _⟩ := h; rfl) xs h
theorem RSS.gets {B : Nat} {xs : List (List D)} (h : ∀ r ∈ xs, RSS B r) {v : Int} (h0 : 0 ≤ v) (h1 : v < xs.length) : gR xs v = [.str (gS xs v 0), .str (gS xs v 1)] ∧ (gS xs v 0).size ≤ B ∧ (gS xs v 1).size ≤ B ∧ True := by
  obtain ⟨c0, c1, e, k0, k1, _⟩ := (h (gR xs v) (gR_mem h0 h1)).open
  unfold gS
  rw [e]
  exact ⟨rfl, k0, k1, trivial⟩
theorem RSS.rows {B : Nat} {xs : List (List D)} (h : ∀ r ∈ xs, RSS B r) {v : Int} (h0 : 0 ≤ v) (h1 : v < xs.length) {β : Type} (F : List D → Option β) : ZX xs v F = F [.str (gS xs v 0), .str (gS xs v 1)] := by
  rw [← (RSS.gets h h0 h1).1]
  exact ZbB h0 h1 F
theorem RSS.get {B : Nat} {xs : List (List D)} (h : Zm RSS B xs) {v : Int} (h0 : 0 ≤ v) (h1 : v < xs.length) : gR xs v = [.str (gS xs v 0), .str (gS xs v 1)] ∧ (gS xs v 0).size ≤ B ∧ (gS xs v 1).size ≤ B ∧ True := RSS.gets h.2 h0 h1
theorem RSS.row {B : Nat} {xs : List (List D)} (h : Zm RSS B xs) {v : Int} (h0 : 0 ≤ v) (h1 : v < xs.length) {β : Type} (F : List D → Option β) : ZX xs v F = F [.str (gS xs v 0), .str (gS xs v 1)] := RSS.rows h.2 h0 h1 F
theorem laws_szLabelS.T {a0 : List (List D)} {a1 : Int} (h0 : 0 ≤ a1) (h1 : a1 ≤ 1048576) (ga0 : Zm RSS maxLen a0) : Tm Zar (fun k => laws_szLabelS.t k a0 a1) (fun r => r < 0 ∨ 0 ≤ r ∧ r ≤ a1 ∧ Zm RSS lim a0 ∧ ((ZE a0 : Nat) : Int) ≤ 64 * (a1 - r) ∧ True) := by
  unfold laws_szLabelS.t laws_szLabelS.g
  have hm := Za
  have hlim : lim = 1048576 := rfl
  have hlen := ga0.1
  try rw [ZC (x := a1 - (a0.length : Int)) (by omega) (by omega)]
  refine Tm.ite (fun h1 => ?_) (fun h1 => ?_)
  · try simp only [bz0, bz1, bz2, bz3, bz4, bz5, bz6, bz7, bz8, bz9, bza] at h1
    exact Tm.ret (by first | (left; omega) | (right; refine ⟨?_, ?_, ?_, ?_, trivial⟩ <;> first | assumption | omega))
  · try simp only [bz0, bz1, bz2, bz3, bz4, bz5, bz6, bz7, bz8, bz9, bza] at h1
    refine Tm.loop (okk := Zar) (p := fun k => k) (fun i hi => hi) (b := fun k => laws_szLabelS.l0 k a0 (fun z0 => some z0)) (fun v => match v with | (u0, i) => (((a0.length : Int)) - i).toNat) (fun v => match v with | (u0, i) => 0 ≤ u0 ∧ u0 ≤ a1 ∧ 0 ≤ i ∧ i ≤ (a0.length : Int) ∧ (∀ r ∈ a0.take i.toNat, RSS lim r) ∧ ((ZE (a0.take i.toNat) : Nat) : Int) ≤ 64 * (a1 - a0.length - u0 + i)) ?_ ?_ ?_
    · rintro ⟨u0, i⟩ hI
      try simp only [] at hI ⊢
      have : big = 2 ^ 64 := rfl
      have := ga0.1
      omega
    · exact ⟨by omega, by omega, by omega, by simp, by simp, by simp [ZE]⟩
    · rintro ⟨u0, i⟩ hI L hL
      try simp only [] at hI
      obtain ⟨u0a, u0b, i0, i1, hr, hwt⟩ := hI
      simp only [laws_szLabelS.l0]
      refine Tm.ite (fun h2 => ?_) (fun h2 => ?_)
      · try simp only [bz0, bz1, bz2, bz3, bz4, bz5, bz6, bz7, bz8, bz9, bza] at h2
        refine Tm.atRow (by first | assumption | omega) (by first | assumption | omega) (fun x3 hx4 hm5 => ?_)
        obtain ⟨c6, c7, rfl, g8, g9, _⟩ := (ga0.2 x3 hm5).open
        refine Tm.uncons ?_
        refine Tm.dStr ?_
        refine Tm.uncons ?_
        refine Tm.dStr ?_
        refine Tm.atEnd ?_
        refine laws_szLabel.tm (fun i hi => hi.1) (laws_szLabel.T (by first | assumption | omega) (by first | assumption | omega) (by first | assumption | omega) (by first | assumption | omega)) (fun y11 hy10 => ?_)
        rcases hy10 with hy10 | ⟨p14, p15, q12, q13, _⟩
        · exact Tm.ite (fun _ => Tm.ret (by left; omega)) (fun h => by simp at h; omega)
        refine Tm.ite (fun h16 => ?_) (fun h16 => ?_)
        · try simp only [bz0, bz1, bz2, bz3, bz4, bz5, bz6, bz7, bz8, bz9, bza] at h16
          exact Tm.ret (by first | (left; omega) | (rw [List.take_of_length_le (by omega)] at hwt; exact .inr ⟨by omega, by omega, ⟨by simp only [lim]; omega, Zau (by omega) hr⟩, by omega, trivial⟩))
        · try simp only [bz0, bz1, bz2, bz3, bz4, bz5, bz6, bz7, bz8, bz9, bza] at h16
          try rw [ZC (x := i + 1) (by omega) (by omega)]
          have hwx := Zb4 i0 hx4
          simp only [Zbi, wtD] at hwx
          refine hL (y11, (i + 1)) ⟨by omega, by omega, by omega, by omega, Zbd i0 hx4 hr ⟨_, _, rfl, by first | assumption | omega, by first | assumption | omega, trivial⟩, by omega⟩ (by (try simp only []); omega)
      · try simp only [bz0, bz1, bz2, bz3, bz4, bz5, bz6, bz7, bz8, bz9, bza] at h2
        exact Tm.ret (by first | (left; omega) | (rw [List.take_of_length_le (by omega)] at hwt; exact .inr ⟨by omega, by omega, ⟨by simp only [lim]; omega, Zau (by omega) hr⟩, by omega, trivial⟩))
theorem laws_szIsland.f_of {β : Type} {k : Nat} {a0_0 : ByteArray} {a0_1 : List (List D)} {a0_2 : List (List D)} {a0_3 : Int} {a1 : Int} {z0 : Int} (h : laws_szIsland.t k a0_0 a0_1 a0_2 a0_3 a1 = some z0) (K : Int → Option β) : laws_szIsland.f k a0_0 a0_1 a0_2 a0_3 a1 K = K z0 := by
  unfold laws_szIsland.f
  rw [h]
theorem laws_szIsland.tm {ι α : Type} {ok : ι → Prop} {ψ : α → Prop} {p : ι → Nat} {B : Nat} (hp : ∀ i, ok i → B ≤ p i) {a0_0 : ByteArray} {a0_1 : List (List D)} {a0_2 : List (List D)} {a0_3 : Int} {a1 : Int} {φ : Int → Prop} (h : Tm (fun k => B ≤ k) (fun k => laws_szIsland.t k a0_0 a0_1 a0_2 a0_3 a1) φ) {G : ι → Int → Option α} (hG : ∀ z0, φ z0 → Tm ok (fun ι0 => G ι0 z0) ψ) : Tm ok (fun ι0 => laws_szIsland.f (p ι0) a0_0 a0_1 a0_2 a0_3 a1 (G ι0)) ψ := by
  obtain ⟨z0, h1, h2⟩ := h
  exact (hG z0 h1).congr fun i0 hi0 => laws_szIsland.f_of (h2 (p i0) (hp i0 hi0)) _
theorem laws_szIsland.T {a0_0 : ByteArray} {a0_1 : List (List D)} {a0_2 : List (List D)} {a0_3 : Int} {a1 : Int} (h0 : 0 ≤ a1) (h1 : a1 ≤ 1048576) (ga0_0 : a0_0.size ≤ maxLen) (ga0_1 : Zm RSS maxLen a0_1) (ga0_2 : Zm RS maxLen a0_2) : Tm Zar (fun k => laws_szIsland.t k a0_0 a0_1 a0_2 a0_3 a1) (fun r => r < 0 ∨ 0 ≤ r ∧ r ≤ a1 ∧ a0_0.size ≤ lim ∧ Zm RSS lim a0_1 ∧ Zm RS lim a0_2 ∧ ((ZE a0_1 + ZE a0_2 : Nat) : Int) ≤ 64 * (a1 - r) ∧ True) := by
  unfold laws_szIsland.t laws_szIsland.g
  have hm := Za
  have hlim : lim = 1048576 := rfl
  try rw [ZC (x := a1 - (a0_0.size : Int)) (by omega) (by omega)]
  refine Tm.ite (fun h1 => ?_) (fun h1 => ?_)
  · try simp only [bz0, bz1, bz2, bz3, bz4, bz5, bz6, bz7, bz8, bz9, bza] at h1
    exact Tm.ret (by first | (left; omega) | (right; refine ⟨?_, ?_, ?_, ?_, ?_, ?_, trivial⟩ <;> first | assumption | omega))
  · try simp only [bz0, bz1, bz2, bz3, bz4, bz5, bz6, bz7, bz8, bz9, bza] at h1
    refine laws_szLabelS.tm (fun i hi => hi) (laws_szLabelS.T (by first | assumption | omega) (by first | assumption | omega) (by first | assumption | omega)) (fun y3 hy2 => ?_)
    rcases hy2 with hy2 | ⟨p6, p7, q4, q5, _⟩
    · exact Tm.ite (fun _ => Tm.ret (by left; omega)) (fun h => by simp at h; omega)
    refine Tm.ite (fun h8 => ?_) (fun h8 => ?_)
    · try simp only [bz0, bz1, bz2, bz3, bz4, bz5, bz6, bz7, bz8, bz9, bza] at h8
      exact Tm.ret (by first | (left; omega) | (right; refine ⟨?_, ?_, ?_, ?_, ?_, ?_, trivial⟩ <;> first | assumption | omega))
    · try simp only [bz0, bz1, bz2, bz3, bz4, bz5, bz6, bz7, bz8, bz9, bza] at h8
      refine laws_szStringS.tm (fun i hi => hi) (laws_szStringS.T (by first | assumption | omega) (by first | assumption | omega) (by first | assumption | omega)) (fun y10 hy9 => ?_)
      rcases hy9 with hy9 | ⟨p13, p14, q11, q12, _⟩
      · exact Tm.ite (fun _ => Tm.ret (by left; omega)) (fun h => by simp at h; omega)
      refine Tm.ite (fun h15 => ?_) (fun h15 => ?_)
      · try simp only [bz0, bz1, bz2, bz3, bz4, bz5, bz6, bz7, bz8, bz9, bza] at h15
        exact Tm.ret (by first | (left; omega) | (right; refine ⟨?_, ?_, ?_, ?_, ?_, ?_, trivial⟩ <;> first | assumption | omega))
      · try simp only [bz0, bz1, bz2, bz3, bz4, bz5, bz6, bz7, bz8, bz9, bza] at h15
        exact Tm.ret (by first | (left; omega) | (right; refine ⟨?_, ?_, ?_, ?_, ?_, ?_, trivial⟩ <;> first | assumption | omega))
theorem laws_szPost.f_of {β : Type} {k : Nat} {a0_0 : ByteArray} {a0_1 : List (List D)} {a0_2 : List (List D)} {a0_3 : Int} {a0_4 : Int} {a0_5 : Int} {a1 : Int} {z0 : Int} (h : laws_szPost.t k a0_0 a0_1 a0_2 a0_3 a0_4 a0_5 a1 = some z0) (K : Int → Option β) : laws_szPost.f k a0_0 a0_1 a0_2 a0_3 a0_4 a0_5 a1 K = K z0 := by
  unfold laws_szPost.f
  rw [h]
theorem laws_szPost.tm {ι α : Type} {ok : ι → Prop} {ψ : α → Prop} {p : ι → Nat} {B : Nat} (hp : ∀ i, ok i → B ≤ p i) {a0_0 : ByteArray} {a0_1 : List (List D)} {a0_2 : List (List D)} {a0_3 : Int} {a0_4 : Int} {a0_5 : Int} {a1 : Int} {φ : Int → Prop} (h : Tm (fun k => B ≤ k) (fun k => laws_szPost.t k a0_0 a0_1 a0_2 a0_3 a0_4 a0_5 a1) φ) {G : ι → Int → Option α} (hG : ∀ z0, φ z0 → Tm ok (fun ι0 => G ι0 z0) ψ) : Tm ok (fun ι0 => laws_szPost.f (p ι0) a0_0 a0_1 a0_2 a0_3 a0_4 a0_5 a1 (G ι0)) ψ := by
  obtain ⟨z0, h1, h2⟩ := h
  exact (hG z0 h1).congr fun i0 hi0 => laws_szPost.f_of (h2 (p i0) (hp i0 hi0)) _
theorem laws_szPost.T {a0_0 : ByteArray} {a0_1 : List (List D)} {a0_2 : List (List D)} {a0_3 : Int} {a0_4 : Int} {a0_5 : Int} {a1 : Int} (h0 : 0 ≤ a1) (h1 : a1 ≤ 1048576) (ga0_0 : a0_0.size ≤ maxLen) (ga0_1 : Zm RSS maxLen a0_1) (ga0_2 : Zm RS maxLen a0_2) : Tm Zar (fun k => laws_szPost.t k a0_0 a0_1 a0_2 a0_3 a0_4 a0_5 a1) (fun r => r < 0 ∨ 0 ≤ r ∧ r ≤ a1 ∧ a0_0.size ≤ lim ∧ Zm RSS lim a0_1 ∧ Zm RS lim a0_2 ∧ ((ZE a0_1 + ZE a0_2 : Nat) : Int) ≤ 64 * (a1 - r) ∧ True) := by
  unfold laws_szPost.t laws_szPost.g
  have hm := Za
  have hlim : lim = 1048576 := rfl
  refine laws_szIsland.tm (fun i hi => hi) (laws_szIsland.T (by first | assumption | omega) (by first | assumption | omega) (by first | assumption | omega) (by first | assumption | omega) (by first | assumption | omega)) (fun y2 hy1 => ?_)
  rcases hy1 with hy1 | ⟨p7, p8, q3, q4, q5, q6, _⟩
  · exact Tm.ite (fun _ => Tm.ret (by left; omega)) (fun h => by simp at h; omega)
  refine Tm.ite (fun h9 => ?_) (fun h9 => ?_)
  · try simp only [bz0, bz1, bz2, bz3, bz4, bz5, bz6, bz7, bz8, bz9, bza] at h9
    exact Tm.ret (by first | (left; omega) | (right; refine ⟨?_, ?_, ?_, ?_, ?_, ?_, trivial⟩ <;> first | assumption | omega))
  · try simp only [bz0, bz1, bz2, bz3, bz4, bz5, bz6, bz7, bz8, bz9, bza] at h9
    exact Tm.ret (by first | (left; omega) | (right; refine ⟨?_, ?_, ?_, ?_, ?_, ?_, trivial⟩ <;> first | assumption | omega))
theorem laws_szPostS.f_of {β : Type} {k : Nat} {a0 : List (List D)} {a1 : Int} {z0 : Int} (h : laws_szPostS.t k a0 a1 = some z0) (K : Int → Option β) : laws_szPostS.f k a0 a1 K = K z0 := by
  unfold laws_szPostS.f
  rw [h]
theorem laws_szPostS.tm {ι α : Type} {ok : ι → Prop} {ψ : α → Prop} {p : ι → Nat} {B : Nat} (hp : ∀ i, ok i → B ≤ p i) {a0 : List (List D)} {a1 : Int} {φ : Int → Prop} (h : Tm (fun k => B ≤ k) (fun k => laws_szPostS.t k a0 a1) φ) {G : ι → Int → Option α} (hG : ∀ z0, φ z0 → Tm ok (fun ι0 => G ι0 z0) ψ) : Tm ok (fun ι0 => laws_szPostS.f (p ι0) a0 a1 (G ι0)) ψ := by
  obtain ⟨z0, h1, h2⟩ := h
  exact (hG z0 h1).congr fun i0 hi0 => laws_szPostS.f_of (h2 (p i0) (hp i0 hi0)) _
def Ye (B : Nat) (r : List D) : Prop := ∃ (c0 : ByteArray) (c1 : List (List D)) (c2 : List (List D)) (c3 : Int) (c4 : Int) (c5 : Int), r = [.str c0, .sl c1, .sl c2, .int .i64 c3, .int .i64 c4, .int .i64 c5] ∧ c0.size ≤ B ∧ Zm RSS B c1 ∧ Zm RS B c2 ∧ (Lit.int .i64 c3).wf = true ∧ (Lit.int .i64 c4).wf = true ∧ (Lit.int .i64 c5).wf = true ∧ True
theorem Ye.open {B : Nat} {r : List D} (h : Ye B r) : ∃ (c0 : ByteArray) (c1 : List (List D)) (c2 : List (List D)) (c3 : Int) (c4 : Int) (c5 : Int), r = [.str c0, .sl c1, .sl c2, .int .i64 c3, .int .i64 c4, .int .i64 c5] ∧ c0.size ≤ B ∧ Zm RSS B c1 ∧ Zm RS B c2 ∧ (Lit.int .i64 c3).wf = true ∧ (Lit.int .i64 c4).wf = true ∧ (Lit.int .i64 c5).wf = true ∧ True := h
theorem Ye.mono {B B' : Nat} (hb : B ≤ B') {r : List D} (h : Ye B r) : Ye B' r := by
  obtain ⟨c0, c1, c2, c3, c4, c5, rfl, k0, k1, k2, k3, k4, k5, _⟩ := h
  exact ⟨_, _, _, _, _, _, rfl, (Nat.le_trans k0 hb), ⟨Nat.le_trans k1.1 hb, fun r hr => (k1.2 r hr).mono hb⟩, ⟨Nat.le_trans k2.1 hb, fun r hr => (k2.2 r hr).mono hb⟩, k3, k4, k5, trivial⟩
theorem Ye.wide {xs : List (List D)} (h : Zm Ye lim xs) : Zm Ye 2097152 xs := ⟨Nat.le_trans h.1 (by decide), fun r hr => (h.2 r hr).mono (by decide)⟩
theorem Ye.len {B : Nat} {r : List D} (h : Ye B r) : r.length = 6 := by
  obtain ⟨c0, c1, c2, c3, c4, c5, rfl, _⟩ := h.open
  rfl
theorem Ye.gets {B : Nat} {xs : List (List D)} (h : ∀ r ∈ xs, Ye B r) {v : Int} (h0 : 0 ≤ v) (h1 : v < xs.length) : gR xs v = [.str (gS xs v 0), .sl (gL xs v 1), .sl (gL xs v 2), .int .i64 (gI xs v 3), .int .i64 (gI xs v 4), .int .i64 (gI xs v 5)] ∧ (gS xs v 0).size ≤ B ∧ Zm RSS B (gL xs v 1) ∧ Zm RS B (gL xs v 2) ∧ (Lit.int .i64 (gI xs v 3)).wf = true ∧ (Lit.int .i64 (gI xs v 4)).wf = true ∧ (Lit.int .i64 (gI xs v 5)).wf = true ∧ True := by
  obtain ⟨c0, c1, c2, c3, c4, c5, e, k0, k1, k2, k3, k4, k5, _⟩ := (h (gR xs v) (gR_mem h0 h1)).open
  unfold gI gL gS
  rw [e]
  exact ⟨rfl, k0, k1, k2, k3, k4, k5, trivial⟩
theorem Ye.rows {B : Nat} {xs : List (List D)} (h : ∀ r ∈ xs, Ye B r) {v : Int} (h0 : 0 ≤ v) (h1 : v < xs.length) {β : Type} (F : List D → Option β) : ZX xs v F = F [.str (gS xs v 0), .sl (gL xs v 1), .sl (gL xs v 2), .int .i64 (gI xs v 3), .int .i64 (gI xs v 4), .int .i64 (gI xs v 5)] := by
  rw [← (Ye.gets h h0 h1).1]
  exact ZbB h0 h1 F
theorem Ye.get {B : Nat} {xs : List (List D)} (h : Zm Ye B xs) {v : Int} (h0 : 0 ≤ v) (h1 : v < xs.length) : gR xs v = [.str (gS xs v 0), .sl (gL xs v 1), .sl (gL xs v 2), .int .i64 (gI xs v 3), .int .i64 (gI xs v 4), .int .i64 (gI xs v 5)] ∧ (gS xs v 0).size ≤ B ∧ Zm RSS B (gL xs v 1) ∧ Zm RS B (gL xs v 2) ∧ (Lit.int .i64 (gI xs v 3)).wf = true ∧ (Lit.int .i64 (gI xs v 4)).wf = true ∧ (Lit.int .i64 (gI xs v 5)).wf = true ∧ True := Ye.gets h.2 h0 h1
theorem Ye.row {B : Nat} {xs : List (List D)} (h : Zm Ye B xs) {v : Int} (h0 : 0 ≤ v) (h1 : v < xs.length) {β : Type} (F : List D → Option β) : ZX xs v F = F [.str (gS xs v 0), .sl (gL xs v 1), .sl (gL xs v 2), .int .i64 (gI xs v 3), .int .i64 (gI xs v 4), .int .i64 (gI xs v 5)] := Ye.rows h.2 h0 h1 F
theorem laws_szPostS.T {a0 : List (List D)} {a1 : Int} (h0 : 0 ≤ a1) (h1 : a1 ≤ 1048576) (ga0 : Zm Ye maxLen a0) : Tm Zar (fun k => laws_szPostS.t k a0 a1) (fun r => r < 0 ∨ 0 ≤ r ∧ r ≤ a1 ∧ Zm Ye lim a0 ∧ ((ZE a0 : Nat) : Int) ≤ 64 * (a1 - r) ∧ True) := by
  unfold laws_szPostS.t laws_szPostS.g
  have hm := Za
  have hlim : lim = 1048576 := rfl
  have hlen := ga0.1
  try rw [ZC (x := a1 - (a0.length : Int)) (by omega) (by omega)]
  refine Tm.ite (fun h1 => ?_) (fun h1 => ?_)
  · try simp only [bz0, bz1, bz2, bz3, bz4, bz5, bz6, bz7, bz8, bz9, bza] at h1
    exact Tm.ret (by first | (left; omega) | (right; refine ⟨?_, ?_, ?_, ?_, trivial⟩ <;> first | assumption | omega))
  · try simp only [bz0, bz1, bz2, bz3, bz4, bz5, bz6, bz7, bz8, bz9, bza] at h1
    refine Tm.loop (okk := Zar) (p := fun k => k) (fun i hi => hi) (b := fun k => laws_szPostS.l0 k a0 (fun z0 => some z0)) (fun v => match v with | (u0, i) => (((a0.length : Int)) - i).toNat) (fun v => match v with | (u0, i) => 0 ≤ u0 ∧ u0 ≤ a1 ∧ 0 ≤ i ∧ i ≤ (a0.length : Int) ∧ (∀ r ∈ a0.take i.toNat, Ye lim r) ∧ ((ZE (a0.take i.toNat) : Nat) : Int) ≤ 64 * (a1 - a0.length - u0 + i)) ?_ ?_ ?_
    · rintro ⟨u0, i⟩ hI
      try simp only [] at hI ⊢
      have : big = 2 ^ 64 := rfl
      have := ga0.1
      omega
    · exact ⟨by omega, by omega, by omega, by simp, by simp, by simp [ZE]⟩
    · rintro ⟨u0, i⟩ hI L hL
      try simp only [] at hI
      obtain ⟨u0a, u0b, i0, i1, hr, hwt⟩ := hI
      simp only [laws_szPostS.l0]
      refine Tm.ite (fun h2 => ?_) (fun h2 => ?_)
      · try simp only [bz0, bz1, bz2, bz3, bz4, bz5, bz6, bz7, bz8, bz9, bza] at h2
        refine Tm.atRow (by first | assumption | omega) (by first | assumption | omega) (fun x3 hx4 hm5 => ?_)
        obtain ⟨c6, c7, c8, c9, c10, c11, rfl, g12, g13, g14, g15, g16, g17, _⟩ := (ga0.2 x3 hm5).open
        refine Tm.uncons ?_
        refine Tm.dStr ?_
        refine Tm.uncons ?_
        refine Tm.dSl ?_
        refine Tm.uncons ?_
        refine Tm.dSl ?_
        refine Tm.uncons ?_
        refine Tm.dInt ?_
        refine Tm.uncons ?_
        refine Tm.dInt ?_
        refine Tm.uncons ?_
        refine Tm.dInt ?_
        refine Tm.atEnd ?_
        refine laws_szPost.tm (fun i hi => hi.1) (laws_szPost.T (by first | assumption | omega) (by first | assumption | omega) (by first | assumption | omega) (by first | assumption | omega) (by first | assumption | omega)) (fun y19 hy18 => ?_)
        rcases hy18 with hy18 | ⟨p24, p25, q20, q21, q22, q23, _⟩
        · exact Tm.ite (fun _ => Tm.ret (by left; omega)) (fun h => by simp at h; omega)
        refine Tm.ite (fun h26 => ?_) (fun h26 => ?_)
        · try simp only [bz0, bz1, bz2, bz3, bz4, bz5, bz6, bz7, bz8, bz9, bza] at h26
          exact Tm.ret (by first | (left; omega) | (rw [List.take_of_length_le (by omega)] at hwt; exact .inr ⟨by omega, by omega, ⟨by simp only [lim]; omega, Zau (by omega) hr⟩, by omega, trivial⟩))
        · try simp only [bz0, bz1, bz2, bz3, bz4, bz5, bz6, bz7, bz8, bz9, bza] at h26
          try rw [ZC (x := i + 1) (by omega) (by omega)]
          have hwx := Zb4 i0 hx4
          simp only [Zbi, wtD] at hwx
          refine hL (y19, (i + 1)) ⟨by omega, by omega, by omega, by omega, Zbd i0 hx4 hr ⟨_, _, _, _, _, _, rfl, by first | assumption | omega, by first | assumption | omega, by first | assumption | omega, by first | assumption | omega, by first | assumption | omega, by first | assumption | omega, trivial⟩, by omega⟩ (by (try simp only []); omega)
      · try simp only [bz0, bz1, bz2, bz3, bz4, bz5, bz6, bz7, bz8, bz9, bza] at h2
        exact Tm.ret (by first | (left; omega) | (rw [List.take_of_length_le (by omega)] at hwt; exact .inr ⟨by omega, by omega, ⟨by simp only [lim]; omega, Zau (by omega) hr⟩, by omega, trivial⟩))
theorem laws_szHold.f_of {β : Type} {k : Nat} {a0_0 : Int} {a0_1 : ByteArray} {a0_2 : Int} {a0_3 : Int} {a0_4 : Int} {a1 : Int} {z0 : Int} (h : laws_szHold.t k a0_0 a0_1 a0_2 a0_3 a0_4 a1 = some z0) (K : Int → Option β) : laws_szHold.f k a0_0 a0_1 a0_2 a0_3 a0_4 a1 K = K z0 := by
  unfold laws_szHold.f
  rw [h]
theorem laws_szHold.tm {ι α : Type} {ok : ι → Prop} {ψ : α → Prop} {p : ι → Nat} {B : Nat} (hp : ∀ i, ok i → B ≤ p i) {a0_0 : Int} {a0_1 : ByteArray} {a0_2 : Int} {a0_3 : Int} {a0_4 : Int} {a1 : Int} {φ : Int → Prop} (h : Tm (fun k => B ≤ k) (fun k => laws_szHold.t k a0_0 a0_1 a0_2 a0_3 a0_4 a1) φ) {G : ι → Int → Option α} (hG : ∀ z0, φ z0 → Tm ok (fun ι0 => G ι0 z0) ψ) : Tm ok (fun ι0 => laws_szHold.f (p ι0) a0_0 a0_1 a0_2 a0_3 a0_4 a1 (G ι0)) ψ := by
  obtain ⟨z0, h1, h2⟩ := h
  exact (hG z0 h1).congr fun i0 hi0 => laws_szHold.f_of (h2 (p i0) (hp i0 hi0)) _
theorem laws_szHold.T {a0_0 : Int} {a0_1 : ByteArray} {a0_2 : Int} {a0_3 : Int} {a0_4 : Int} {a1 : Int} (h0 : 0 ≤ a1) (h1 : a1 ≤ 1048576) (ga0_1 : a0_1.size ≤ maxLen) : Tm Zar (fun k => laws_szHold.t k a0_0 a0_1 a0_2 a0_3 a0_4 a1) (fun r => r < 0 ∨ 0 ≤ r ∧ r ≤ a1 ∧ a0_1.size ≤ lim ∧ True) := by
  unfold laws_szHold.t laws_szHold.g
  have hm := Za
  have hlim : lim = 1048576 := rfl
  try rw [ZC (x := a1 - (a0_1.size : Int)) (by omega) (by omega)]
  refine Tm.ite (fun h1 => ?_) (fun h1 => ?_)
  · try simp only [bz0, bz1, bz2, bz3, bz4, bz5, bz6, bz7, bz8, bz9, bza] at h1
    exact Tm.ret (by first | (left; omega) | (right; refine ⟨?_, ?_, ?_, trivial⟩ <;> first | assumption | omega))
  · try simp only [bz0, bz1, bz2, bz3, bz4, bz5, bz6, bz7, bz8, bz9, bza] at h1
    exact Tm.ret (by first | (left; omega) | (right; refine ⟨?_, ?_, ?_, trivial⟩ <;> first | assumption | omega))
theorem laws_szHoldS.f_of {β : Type} {k : Nat} {a0 : List (List D)} {a1 : Int} {z0 : Int} (h : laws_szHoldS.t k a0 a1 = some z0) (K : Int → Option β) : laws_szHoldS.f k a0 a1 K = K z0 := by
  unfold laws_szHoldS.f
  rw [h]
theorem laws_szHoldS.tm {ι α : Type} {ok : ι → Prop} {ψ : α → Prop} {p : ι → Nat} {B : Nat} (hp : ∀ i, ok i → B ≤ p i) {a0 : List (List D)} {a1 : Int} {φ : Int → Prop} (h : Tm (fun k => B ≤ k) (fun k => laws_szHoldS.t k a0 a1) φ) {G : ι → Int → Option α} (hG : ∀ z0, φ z0 → Tm ok (fun ι0 => G ι0 z0) ψ) : Tm ok (fun ι0 => laws_szHoldS.f (p ι0) a0 a1 (G ι0)) ψ := by
  obtain ⟨z0, h1, h2⟩ := h
  exact (hG z0 h1).congr fun i0 hi0 => laws_szHoldS.f_of (h2 (p i0) (hp i0 hi0)) _
def Yg (B : Nat) (r : List D) : Prop := ∃ (c0 : Int) (c1 : ByteArray) (c2 : Int) (c3 : Int) (c4 : Int), r = [.int .i64 c0, .str c1, .int .i64 c2, .int .i64 c3, .int .i64 c4] ∧ (Lit.int .i64 c0).wf = true ∧ c1.size ≤ B ∧ (Lit.int .i64 c2).wf = true ∧ (Lit.int .i64 c3).wf = true ∧ (Lit.int .i64 c4).wf = true ∧ True
theorem Yg.open {B : Nat} {r : List D} (h : Yg B r) : ∃ (c0 : Int) (c1 : ByteArray) (c2 : Int) (c3 : Int) (c4 : Int), r = [.int .i64 c0, .str c1, .int .i64 c2, .int .i64 c3, .int .i64 c4] ∧ (Lit.int .i64 c0).wf = true ∧ c1.size ≤ B ∧ (Lit.int .i64 c2).wf = true ∧ (Lit.int .i64 c3).wf = true ∧ (Lit.int .i64 c4).wf = true ∧ True := h
theorem Yg.mono {B B' : Nat} (hb : B ≤ B') {r : List D} (h : Yg B r) : Yg B' r := by
  obtain ⟨c0, c1, c2, c3, c4, rfl, k0, k1, k2, k3, k4, _⟩ := h
  exact ⟨_, _, _, _, _, rfl, k0, (Nat.le_trans k1 hb), k2, k3, k4, trivial⟩
theorem Yg.wide {xs : List (List D)} (h : Zm Yg lim xs) : Zm Yg 2097152 xs := ⟨Nat.le_trans h.1 (by decide), fun r hr => (h.2 r hr).mono (by decide)⟩
theorem Yg.len {B : Nat} {r : List D} (h : Yg B r) : r.length = 5 := by
  obtain ⟨c0, c1, c2, c3, c4, rfl, _⟩ := h.open
  rfl
theorem Yg.flat {B : Nat} {xs : List (List D)} (h : ∀ r ∈ xs, Yg B r) : Zcm 5 xs := fun r hr => by
  obtain ⟨c0, c1, c2, c3, c4, rfl, _⟩ := (h r hr).open
  exact ⟨rfl, by simp [Zaq]⟩
theorem Yg.wt {B : Nat} {xs : List (List D)} (h : ∀ r ∈ xs, Yg B r) : ZE xs = 5 * xs.length := wt_flat (R := Yg B) (fun r h => by obtain ⟨c0, c1, c2, c3, c4, rfl, _⟩ := h; rfl) xs h
theorem Yg.deep {B : Nat} {xs : List (List D)} (h : ∀ r ∈ xs, Yg B r) : Zs xs = xs.map (·.map C.d) := deep_flat (R := Yg B) (fun r h => by obtain ⟨c0, c1, c2, c3, c4, rfl, _⟩ := h; rfl) xs h
theorem Yg.gets {B : Nat} {xs : List (List D)} (h : ∀ r ∈ xs, Yg B r) {v : Int} (h0 : 0 ≤ v) (h1 : v < xs.length) : gR xs v = [.int .i64 (gI xs v 0), .str (gS xs v 1), .int .i64 (gI xs v 2), .int .i64 (gI xs v 3), .int .i64 (gI xs v 4)] ∧ (Lit.int .i64 (gI xs v 0)).wf = true ∧ (gS xs v 1).size ≤ B ∧ (Lit.int .i64 (gI xs v 2)).wf = true ∧ (Lit.int .i64 (gI xs v 3)).wf = true ∧ (Lit.int .i64 (gI xs v 4)).wf = true ∧ True := by
  obtain ⟨c0, c1, c2, c3, c4, e, k0, k1, k2, k3, k4, _⟩ := (h (gR xs v) (gR_mem h0 h1)).open
  unfold gI gS
  rw [e]
  exact ⟨rfl, k0, k1, k2, k3, k4, trivial⟩
theorem Yg.rows {B : Nat} {xs : List (List D)} (h : ∀ r ∈ xs, Yg B r) {v : Int} (h0 : 0 ≤ v) (h1 : v < xs.length) {β : Type} (F : List D → Option β) : ZX xs v F = F [.int .i64 (gI xs v 0), .str (gS xs v 1), .int .i64 (gI xs v 2), .int .i64 (gI xs v 3), .int .i64 (gI xs v 4)] := by
  rw [← (Yg.gets h h0 h1).1]
  exact ZbB h0 h1 F
theorem Yg.get {B : Nat} {xs : List (List D)} (h : Zm Yg B xs) {v : Int} (h0 : 0 ≤ v) (h1 : v < xs.length) : gR xs v = [.int .i64 (gI xs v 0), .str (gS xs v 1), .int .i64 (gI xs v 2), .int .i64 (gI xs v 3), .int .i64 (gI xs v 4)] ∧ (Lit.int .i64 (gI xs v 0)).wf = true ∧ (gS xs v 1).size ≤ B ∧ (Lit.int .i64 (gI xs v 2)).wf = true ∧ (Lit.int .i64 (gI xs v 3)).wf = true ∧ (Lit.int .i64 (gI xs v 4)).wf = true ∧ True := Yg.gets h.2 h0 h1
theorem Yg.row {B : Nat} {xs : List (List D)} (h : Zm Yg B xs) {v : Int} (h0 : 0 ≤ v) (h1 : v < xs.length) {β : Type} (F : List D → Option β) : ZX xs v F = F [.int .i64 (gI xs v 0), .str (gS xs v 1), .int .i64 (gI xs v 2), .int .i64 (gI xs v 3), .int .i64 (gI xs v 4)] := Yg.rows h.2 h0 h1 F
theorem laws_szHoldS.T {a0 : List (List D)} {a1 : Int} (h0 : 0 ≤ a1) (h1 : a1 ≤ 1048576) (ga0 : Zm Yg maxLen a0) : Tm Zar (fun k => laws_szHoldS.t k a0 a1) (fun r => r < 0 ∨ 0 ≤ r ∧ r ≤ a1 ∧ Zm Yg lim a0 ∧ ((ZE a0 : Nat) : Int) ≤ 64 * (a1 - r) ∧ True) := by
  unfold laws_szHoldS.t laws_szHoldS.g
  have hm := Za
  have hlim : lim = 1048576 := rfl
  have hlen := ga0.1
  try rw [ZC (x := a1 - (a0.length : Int)) (by omega) (by omega)]
  refine Tm.ite (fun h1 => ?_) (fun h1 => ?_)
  · try simp only [bz0, bz1, bz2, bz3, bz4, bz5, bz6, bz7, bz8, bz9, bza] at h1
    exact Tm.ret (by first | (left; omega) | (right; refine ⟨?_, ?_, ?_, ?_, trivial⟩ <;> first | assumption | omega))
  · try simp only [bz0, bz1, bz2, bz3, bz4, bz5, bz6, bz7, bz8, bz9, bza] at h1
    refine Tm.loop (okk := Zar) (p := fun k => k) (fun i hi => hi) (b := fun k => laws_szHoldS.l0 k a0 (fun z0 => some z0)) (fun v => match v with | (u0, i) => (((a0.length : Int)) - i).toNat) (fun v => match v with | (u0, i) => 0 ≤ u0 ∧ u0 ≤ a1 ∧ 0 ≤ i ∧ i ≤ (a0.length : Int) ∧ (∀ r ∈ a0.take i.toNat, Yg lim r) ∧ ((ZE (a0.take i.toNat) : Nat) : Int) ≤ 64 * (a1 - a0.length - u0 + i)) ?_ ?_ ?_
    · rintro ⟨u0, i⟩ hI
      try simp only [] at hI ⊢
      have : big = 2 ^ 64 := rfl
      have := ga0.1
      omega
    · exact ⟨by omega, by omega, by omega, by simp, by simp, by simp [ZE]⟩
    · rintro ⟨u0, i⟩ hI L hL
      try simp only [] at hI
      obtain ⟨u0a, u0b, i0, i1, hr, hwt⟩ := hI
      simp only [laws_szHoldS.l0]
      refine Tm.ite (fun h2 => ?_) (fun h2 => ?_)
      · try simp only [bz0, bz1, bz2, bz3, bz4, bz5, bz6, bz7, bz8, bz9, bza] at h2
        refine Tm.atRow (by first | assumption | omega) (by first | assumption | omega) (fun x3 hx4 hm5 => ?_)
        obtain ⟨c6, c7, c8, c9, c10, rfl, g11, g12, g13, g14, g15, _⟩ := (ga0.2 x3 hm5).open
        refine Tm.uncons ?_
        refine Tm.dInt ?_
        refine Tm.uncons ?_
        refine Tm.dStr ?_
        refine Tm.uncons ?_
        refine Tm.dInt ?_
        refine Tm.uncons ?_
        refine Tm.dInt ?_
        refine Tm.uncons ?_
        refine Tm.dInt ?_
        refine Tm.atEnd ?_
        refine laws_szHold.tm (fun i hi => hi.1) (laws_szHold.T (by first | assumption | omega) (by first | assumption | omega) (by first | assumption | omega)) (fun y17 hy16 => ?_)
        rcases hy16 with hy16 | ⟨p19, p20, q18, _⟩
        · exact Tm.ite (fun _ => Tm.ret (by left; omega)) (fun h => by simp at h; omega)
        refine Tm.ite (fun h21 => ?_) (fun h21 => ?_)
        · try simp only [bz0, bz1, bz2, bz3, bz4, bz5, bz6, bz7, bz8, bz9, bza] at h21
          exact Tm.ret (by first | (left; omega) | (rw [List.take_of_length_le (by omega)] at hwt; exact .inr ⟨by omega, by omega, ⟨by simp only [lim]; omega, Zau (by omega) hr⟩, by omega, trivial⟩))
        · try simp only [bz0, bz1, bz2, bz3, bz4, bz5, bz6, bz7, bz8, bz9, bza] at h21
          try rw [ZC (x := i + 1) (by omega) (by omega)]
          have hwx := Zb4 i0 hx4
          simp only [Zbi, wtD] at hwx
          refine hL (y17, (i + 1)) ⟨by omega, by omega, by omega, by omega, Zbd i0 hx4 hr ⟨_, _, _, _, _, rfl, by first | assumption | omega, by first | assumption | omega, by first | assumption | omega, by first | assumption | omega, by first | assumption | omega, trivial⟩, by omega⟩ (by (try simp only []); omega)
      · try simp only [bz0, bz1, bz2, bz3, bz4, bz5, bz6, bz7, bz8, bz9, bza] at h2
        exact Tm.ret (by first | (left; omega) | (rw [List.take_of_length_le (by omega)] at hwt; exact .inr ⟨by omega, by omega, ⟨by simp only [lim]; omega, Zau (by omega) hr⟩, by omega, trivial⟩))
theorem laws_szHub.f_of {β : Type} {k : Nat} {a0_0 : Int} {a0_1 : Int} {a0_2 : Int} {a0_3 : List (List D)} {a0_4 : List (List D)} {a0_5 : List (List D)} {a0_6 : List (List D)} {a1 : Int} {z0 : Int} (h : laws_szHub.t k a0_0 a0_1 a0_2 a0_3 a0_4 a0_5 a0_6 a1 = some z0) (K : Int → Option β) : laws_szHub.f k a0_0 a0_1 a0_2 a0_3 a0_4 a0_5 a0_6 a1 K = K z0 := by
  unfold laws_szHub.f
  rw [h]
theorem laws_szHub.tm {ι α : Type} {ok : ι → Prop} {ψ : α → Prop} {p : ι → Nat} {B : Nat} (hp : ∀ i, ok i → B ≤ p i) {a0_0 : Int} {a0_1 : Int} {a0_2 : Int} {a0_3 : List (List D)} {a0_4 : List (List D)} {a0_5 : List (List D)} {a0_6 : List (List D)} {a1 : Int} {φ : Int → Prop} (h : Tm (fun k => B ≤ k) (fun k => laws_szHub.t k a0_0 a0_1 a0_2 a0_3 a0_4 a0_5 a0_6 a1) φ) {G : ι → Int → Option α} (hG : ∀ z0, φ z0 → Tm ok (fun ι0 => G ι0 z0) ψ) : Tm ok (fun ι0 => laws_szHub.f (p ι0) a0_0 a0_1 a0_2 a0_3 a0_4 a0_5 a0_6 a1 (G ι0)) ψ := by
  obtain ⟨z0, h1, h2⟩ := h
  exact (hG z0 h1).congr fun i0 hi0 => laws_szHub.f_of (h2 (p i0) (hp i0 hi0)) _
theorem laws_szHub.T {a0_0 : Int} {a0_1 : Int} {a0_2 : Int} {a0_3 : List (List D)} {a0_4 : List (List D)} {a0_5 : List (List D)} {a0_6 : List (List D)} {a1 : Int} (h0 : 0 ≤ a1) (h1 : a1 ≤ 1048576) (ga0_3 : Zm Ya maxLen a0_3) (ga0_4 : Zm Ye maxLen a0_4) (ga0_5 : Zm Yg maxLen a0_5) (ga0_6 : Zm RS maxLen a0_6) : Tm (Zay 1) (fun k => laws_szHub.t k a0_0 a0_1 a0_2 a0_3 a0_4 a0_5 a0_6 a1) (fun r => r < 0 ∨ 0 ≤ r ∧ r ≤ a1 ∧ Zm Ya lim a0_3 ∧ Zm Ye lim a0_4 ∧ Zm Yg lim a0_5 ∧ Zm RS lim a0_6 ∧ ((ZE a0_3 + ZE a0_4 + ZE a0_5 + ZE a0_6 : Nat) : Int) ≤ 64 * (a1 - r) ∧ True) := by
  unfold laws_szHub.t laws_szHub.g
  have hm := Za
  have hlim : lim = 1048576 := rfl
  refine laws_szJobS.tm (fun i hi => hi) (laws_szJobS.T (by first | assumption | omega) (by first | assumption | omega) (by first | assumption | omega)) (fun y2 hy1 => ?_)
  rcases hy1 with hy1 | ⟨p5, p6, q3, q4, _⟩
  · exact Tm.ite (fun _ => Tm.ret (by left; omega)) (fun h => by simp at h; omega)
  refine Tm.ite (fun h7 => ?_) (fun h7 => ?_)
  · try simp only [bz0, bz1, bz2, bz3, bz4, bz5, bz6, bz7, bz8, bz9, bza] at h7
    exact Tm.ret (by first | (left; omega) | (right; refine ⟨?_, ?_, ?_, ?_, ?_, ?_, ?_, trivial⟩ <;> first | assumption | omega))
  · try simp only [bz0, bz1, bz2, bz3, bz4, bz5, bz6, bz7, bz8, bz9, bza] at h7
    refine laws_szPostS.tm (fun i hi => up0 hi) (laws_szPostS.T (by first | assumption | omega) (by first | assumption | omega) (by first | assumption | omega)) (fun y9 hy8 => ?_)
    rcases hy8 with hy8 | ⟨p12, p13, q10, q11, _⟩
    · exact Tm.ite (fun _ => Tm.ret (by left; omega)) (fun h => by simp at h; omega)
    refine Tm.ite (fun h14 => ?_) (fun h14 => ?_)
    · try simp only [bz0, bz1, bz2, bz3, bz4, bz5, bz6, bz7, bz8, bz9, bza] at h14
      exact Tm.ret (by first | (left; omega) | (right; refine ⟨?_, ?_, ?_, ?_, ?_, ?_, ?_, trivial⟩ <;> first | assumption | omega))
    · try simp only [bz0, bz1, bz2, bz3, bz4, bz5, bz6, bz7, bz8, bz9, bza] at h14
      refine laws_szHoldS.tm (fun i hi => up0 hi) (laws_szHoldS.T (by first | assumption | omega) (by first | assumption | omega) (by first | assumption | omega)) (fun y16 hy15 => ?_)
      rcases hy15 with hy15 | ⟨p19, p20, q17, q18, _⟩
      · exact Tm.ite (fun _ => Tm.ret (by left; omega)) (fun h => by simp at h; omega)
      refine Tm.ite (fun h21 => ?_) (fun h21 => ?_)
      · try simp only [bz0, bz1, bz2, bz3, bz4, bz5, bz6, bz7, bz8, bz9, bza] at h21
        exact Tm.ret (by first | (left; omega) | (right; refine ⟨?_, ?_, ?_, ?_, ?_, ?_, ?_, trivial⟩ <;> first | assumption | omega))
      · try simp only [bz0, bz1, bz2, bz3, bz4, bz5, bz6, bz7, bz8, bz9, bza] at h21
        refine laws_szStringS.tm (fun i hi => up0 hi) (laws_szStringS.T (by first | assumption | omega) (by first | assumption | omega) (by first | assumption | omega)) (fun y23 hy22 => ?_)
        rcases hy22 with hy22 | ⟨p26, p27, q24, q25, _⟩
        · exact Tm.ite (fun _ => Tm.ret (by left; omega)) (fun h => by simp at h; omega)
        refine Tm.ite (fun h28 => ?_) (fun h28 => ?_)
        · try simp only [bz0, bz1, bz2, bz3, bz4, bz5, bz6, bz7, bz8, bz9, bza] at h28
          exact Tm.ret (by first | (left; omega) | (right; refine ⟨?_, ?_, ?_, ?_, ?_, ?_, ?_, trivial⟩ <;> first | assumption | omega))
        · try simp only [bz0, bz1, bz2, bz3, bz4, bz5, bz6, bz7, bz8, bz9, bza] at h28
          exact Tm.ret (by first | (left; omega) | (right; refine ⟨?_, ?_, ?_, ?_, ?_, ?_, ?_, trivial⟩ <;> first | assumption | omega))
theorem laws_toStringS.f_of {β : Type} {k : Nat} {a0 : List (List D)} {z0 : List (List C)} (h : laws_toStringS.t k a0 = some z0) (K : (List (List C)) → Option β) : laws_toStringS.f k a0 K = K z0 := by
  unfold laws_toStringS.f
  rw [h]
theorem laws_toStringS.tm {ι α : Type} {ok : ι → Prop} {ψ : α → Prop} {p : ι → Nat} {B : Nat} (hp : ∀ i, ok i → B ≤ p i) {a0 : List (List D)} {φ : (List (List C)) → Prop} (h : Tm (fun k => B ≤ k) (fun k => laws_toStringS.t k a0) φ) {G : ι → (List (List C)) → Option α} (hG : ∀ z0, φ z0 → Tm ok (fun ι0 => G ι0 z0) ψ) : Tm ok (fun ι0 => laws_toStringS.f (p ι0) a0 (G ι0)) ψ := by
  obtain ⟨z0, h1, h2⟩ := h
  exact (hG z0 h1).congr fun i0 hi0 => laws_toStringS.f_of (h2 (p i0) (hp i0 hi0)) _
theorem laws_toStringS.T {a0 : List (List D)} (ga0 : Zm RS lim a0) : Tm Zar (fun k => laws_toStringS.t k a0) (fun z => z = Zs a0 ∧ True) := by
  unfold laws_toStringS.t laws_toStringS.g
  have hm := Za
  have hlim : lim = 1048576 := rfl
  have hlen := ga0.1
  refine Tm.guard (by first | omega | (simp only [lim, Za, Z6] at *; omega) | (simp only [lim, Z6] at *; refine ⟨?_, ?_, ?_, ?_⟩ <;> omega)) ?_
  refine Tm.loop (okk := Zar) (p := fun k => k) (fun i hi => hi) (b := fun k => laws_toStringS.l0 k a0 (fun z0 => some z0)) (fun v => match v with | (i, u1) => (((a0.length : Int)) - i).toNat) (fun v => match v with | (i, u1) => 0 ≤ i ∧ i ≤ (a0.length : Int) ∧ Zaw a0 ([.d (.str (⟨#[]⟩ : ByteArray))] : List C) i u1) ?_ ?_ ?_
  · rintro ⟨i, u1⟩ hI
    try simp only [] at hI ⊢
    have : big = 2 ^ 64 := rfl
    have := ga0.1
    simp only [lim] at this
    omega
  · exact ⟨by omega, by simp, Zaw.start _ _⟩
  · rintro ⟨i, u1⟩ hI L hL
    try simp only [] at hI
    obtain ⟨i0, i1, hF⟩ := hI
    have hFl := hF.len i1
    simp only [laws_toStringS.l0]
    refine Tm.ite (fun h1 => ?_) (fun h1 => ?_)
    · try simp only [bz0, bz1, bz2, bz3, bz4, bz5, bz6, bz7, bz8, bz9, bza] at h1
      refine Tm.atRow (by first | assumption | omega) (by first | assumption | omega) (fun x2 hx3 hm4 => ?_)
      obtain ⟨c5, rfl, g6, _⟩ := (ga0.2 x2 hm4).open
      refine Tm.uncons ?_
      refine Tm.dStr ?_
      refine Tm.atEnd ?_
      refine Tm.guard (by first | omega | (simp only [lim, Za, Z6] at *; omega) | (simp only [lim, Z6] at *; refine ⟨?_, ?_, ?_, ?_⟩ <;> omega)) ?_
      refine Tm.guard (by first | omega | (simp only [lim, Za, Z6] at *; omega) | (simp only [lim, Z6] at *; refine ⟨?_, ?_, ?_, ?_⟩ <;> omega)) ?_
      try rw [ZC (x := i + 1) (by omega) (by omega)]
      refine hL (_, _) ⟨by omega, by omega, hF.next i0 hx3 rfl (by simp [Zal, deepD])⟩ (by (try simp only []); omega)
    · try simp only [bz0, bz1, bz2, bz3, bz4, bz5, bz6, bz7, bz8, bz9, bza] at h1
      exact Tm.ret (by exact ⟨hF.all (by omega), trivial⟩)
theorem laws_toTerm.f_of {β : Type} {k : Nat} {a0_0 : Int} {a0_1 : ByteArray} {a0_2 : List (List D)} {z0 : Int} {z1 : ByteArray} {z2 : List (List C)} (h : laws_toTerm.t k a0_0 a0_1 a0_2 = some (z0, z1, z2)) (K : Int → ByteArray → (List (List C)) → Option β) : laws_toTerm.f k a0_0 a0_1 a0_2 K = K z0 z1 z2 := by
  unfold laws_toTerm.f
  rw [h]
theorem laws_toTerm.tm {ι α : Type} {ok : ι → Prop} {ψ : α → Prop} {p : ι → Nat} {B : Nat} (hp : ∀ i, ok i → B ≤ p i) {a0_0 : Int} {a0_1 : ByteArray} {a0_2 : List (List D)} {φ : Int × ByteArray × (List (List C)) → Prop} (h : Tm (fun k => B ≤ k) (fun k => laws_toTerm.t k a0_0 a0_1 a0_2) φ) {G : ι → Int → ByteArray → (List (List C)) → Option α} (hG : ∀ z0 z1 z2, φ (z0, z1, z2) → Tm ok (fun ι0 => G ι0 z0 z1 z2) ψ) : Tm ok (fun ι0 => laws_toTerm.f (p ι0) a0_0 a0_1 a0_2 (G ι0)) ψ := by
  obtain ⟨⟨z0, z1, z2⟩, h1, h2⟩ := h
  exact (hG z0 z1 z2 h1).congr fun i0 hi0 => laws_toTerm.f_of (h2 (p i0) (hp i0 hi0)) _
theorem laws_toTerm.T {a0_0 : Int} {a0_1 : ByteArray} {a0_2 : List (List D)} (ga0_1 : a0_1.size ≤ lim) (ga0_2 : Zm RS lim a0_2) : Tm Zar (fun k => laws_toTerm.t k a0_0 a0_1 a0_2) (fun z => z.1 = a0_0 ∧ z.2.1 = a0_1 ∧ z.2.2 = Zs a0_2 ∧ True) := by
  unfold laws_toTerm.t laws_toTerm.g
  have hm := Za
  have hlim : lim = 1048576 := rfl
  refine laws_toStringS.tm (fun i hi => hi) (laws_toStringS.T (by first | assumption | omega)) (fun y2 hy1 => ?_)
  try simp only [] at hy1
  obtain ⟨rfl, _⟩ := hy1
  try simp only [ZF]
  exact Tm.ret (by exact ⟨by first | rfl | assumption, by first | rfl | assumption, by first | rfl | assumption, trivial⟩)
theorem laws_toTermS.f_of {β : Type} {k : Nat} {a0 : List (List D)} {z0 : List (List C)} (h : laws_toTermS.t k a0 = some z0) (K : (List (List C)) → Option β) : laws_toTermS.f k a0 K = K z0 := by
  unfold laws_toTermS.f
  rw [h]
theorem laws_toTermS.tm {ι α : Type} {ok : ι → Prop} {ψ : α → Prop} {p : ι → Nat} {B : Nat} (hp : ∀ i, ok i → B ≤ p i) {a0 : List (List D)} {φ : (List (List C)) → Prop} (h : Tm (fun k => B ≤ k) (fun k => laws_toTermS.t k a0) φ) {G : ι → (List (List C)) → Option α} (hG : ∀ z0, φ z0 → Tm ok (fun ι0 => G ι0 z0) ψ) : Tm ok (fun ι0 => laws_toTermS.f (p ι0) a0 (G ι0)) ψ := by
  obtain ⟨z0, h1, h2⟩ := h
  exact (hG z0 h1).congr fun i0 hi0 => laws_toTermS.f_of (h2 (p i0) (hp i0 hi0)) _
theorem laws_toTermS.T {a0 : List (List D)} (ga0 : Zm Yh lim a0) : Tm Zar (fun k => laws_toTermS.t k a0) (fun z => z = Zs a0 ∧ True) := by
  unfold laws_toTermS.t laws_toTermS.g
  have hm := Za
  have hlim : lim = 1048576 := rfl
  have hlen := ga0.1
  refine Tm.guard (by first | omega | (simp only [lim, Za, Z6] at *; omega) | (simp only [lim, Z6] at *; refine ⟨?_, ?_, ?_, ?_⟩ <;> omega)) ?_
  refine Tm.loop (okk := Zar) (p := fun k => k) (fun i hi => hi) (b := fun k => laws_toTermS.l0 k a0 (fun z0 => some z0)) (fun v => match v with | (i, u1) => (((a0.length : Int)) - i).toNat) (fun v => match v with | (i, u1) => 0 ≤ i ∧ i ≤ (a0.length : Int) ∧ Zaw a0 ([.d (.int .i64 0), .d (.str (⟨#[]⟩ : ByteArray)), .own ([] : List (List C))] : List C) i u1) ?_ ?_ ?_
  · rintro ⟨i, u1⟩ hI
    try simp only [] at hI ⊢
    have : big = 2 ^ 64 := rfl
    have := ga0.1
    simp only [lim] at this
    omega
  · exact ⟨by omega, by simp, Zaw.start _ _⟩
  · rintro ⟨i, u1⟩ hI L hL
    try simp only [] at hI
    obtain ⟨i0, i1, hF⟩ := hI
    have hFl := hF.len i1
    simp only [laws_toTermS.l0]
    refine Tm.ite (fun h1 => ?_) (fun h1 => ?_)
    · try simp only [bz0, bz1, bz2, bz3, bz4, bz5, bz6, bz7, bz8, bz9, bza] at h1
      refine Tm.atRow (by first | assumption | omega) (by first | assumption | omega) (fun x2 hx3 hm4 => ?_)
      obtain ⟨c5, c6, c7, rfl, g8, g9, g10, _⟩ := (ga0.2 x2 hm4).open
      refine Tm.uncons ?_
      refine Tm.dInt ?_
      refine Tm.uncons ?_
      refine Tm.dStr ?_
      refine Tm.uncons ?_
      refine Tm.dSl ?_
      refine Tm.atEnd ?_
      refine laws_toTerm.tm (fun i hi => hi.1) (laws_toTerm.T (by first | assumption | omega) (by first | assumption | omega)) (fun y12 y13 y14 hy11 => ?_)
      try simp only [] at hy11
      obtain ⟨rfl, rfl, rfl, _⟩ := hy11
      try simp only [ZF]
      refine Tm.guard (by first | omega | (simp only [lim, Za, Z6] at *; omega) | (simp only [lim, Z6] at *; refine ⟨?_, ?_, ?_, ?_⟩ <;> omega)) ?_
      refine Tm.guard (by first | omega | (simp only [lim, Za, Z6] at *; omega) | (simp only [lim, Z6] at *; refine ⟨?_, ?_, ?_, ?_⟩ <;> omega)) ?_
      try rw [ZC (x := i + 1) (by omega) (by omega)]
      refine hL (_, _) ⟨by omega, by omega, hF.next i0 hx3 rfl (by simp [Zal, deepD])⟩ (by (try simp only []); omega)
    · try simp only [bz0, bz1, bz2, bz3, bz4, bz5, bz6, bz7, bz8, bz9, bza] at h1
      exact Tm.ret (by exact ⟨hF.all (by omega), trivial⟩)
theorem laws_toWeigh.f_of {β : Type} {k : Nat} {a0_0 : ByteArray} {a0_1 : Int} {z0 : ByteArray} {z1 : Int} (h : laws_toWeigh.t k a0_0 a0_1 = some (z0, z1)) (K : ByteArray → Int → Option β) : laws_toWeigh.f k a0_0 a0_1 K = K z0 z1 := by
  unfold laws_toWeigh.f
  rw [h]
theorem laws_toWeigh.tm {ι α : Type} {ok : ι → Prop} {ψ : α → Prop} {p : ι → Nat} {B : Nat} (hp : ∀ i, ok i → B ≤ p i) {a0_0 : ByteArray} {a0_1 : Int} {φ : ByteArray × Int → Prop} (h : Tm (fun k => B ≤ k) (fun k => laws_toWeigh.t k a0_0 a0_1) φ) {G : ι → ByteArray → Int → Option α} (hG : ∀ z0 z1, φ (z0, z1) → Tm ok (fun ι0 => G ι0 z0 z1) ψ) : Tm ok (fun ι0 => laws_toWeigh.f (p ι0) a0_0 a0_1 (G ι0)) ψ := by
  obtain ⟨⟨z0, z1⟩, h1, h2⟩ := h
  exact (hG z0 z1 h1).congr fun i0 hi0 => laws_toWeigh.f_of (h2 (p i0) (hp i0 hi0)) _
theorem laws_toWeigh.T {a0_0 : ByteArray} {a0_1 : Int} (ga0_0 : a0_0.size ≤ lim) : Tm Zar (fun k => laws_toWeigh.t k a0_0 a0_1) (fun z => z.1 = a0_0 ∧ z.2 = a0_1 ∧ True) := by
  unfold laws_toWeigh.t laws_toWeigh.g
  have hm := Za
  have hlim : lim = 1048576 := rfl
  exact Tm.ret (by exact ⟨by first | rfl | assumption, by first | rfl | assumption, trivial⟩)
theorem laws_toWeighS.f_of {β : Type} {k : Nat} {a0 : List (List D)} {z0 : List (List C)} (h : laws_toWeighS.t k a0 = some z0) (K : (List (List C)) → Option β) : laws_toWeighS.f k a0 K = K z0 := by
  unfold laws_toWeighS.f
  rw [h]
theorem laws_toWeighS.tm {ι α : Type} {ok : ι → Prop} {ψ : α → Prop} {p : ι → Nat} {B : Nat} (hp : ∀ i, ok i → B ≤ p i) {a0 : List (List D)} {φ : (List (List C)) → Prop} (h : Tm (fun k => B ≤ k) (fun k => laws_toWeighS.t k a0) φ) {G : ι → (List (List C)) → Option α} (hG : ∀ z0, φ z0 → Tm ok (fun ι0 => G ι0 z0) ψ) : Tm ok (fun ι0 => laws_toWeighS.f (p ι0) a0 (G ι0)) ψ := by
  obtain ⟨z0, h1, h2⟩ := h
  exact (hG z0 h1).congr fun i0 hi0 => laws_toWeighS.f_of (h2 (p i0) (hp i0 hi0)) _
theorem laws_toWeighS.T {a0 : List (List D)} (ga0 : Zm RSI lim a0) : Tm Zar (fun k => laws_toWeighS.t k a0) (fun z => z = Zs a0 ∧ True) := by
  unfold laws_toWeighS.t laws_toWeighS.g
  have hm := Za
  have hlim : lim = 1048576 := rfl
  have hlen := ga0.1
  refine Tm.guard (by first | omega | (simp only [lim, Za, Z6] at *; omega) | (simp only [lim, Z6] at *; refine ⟨?_, ?_, ?_, ?_⟩ <;> omega)) ?_
  refine Tm.loop (okk := Zar) (p := fun k => k) (fun i hi => hi) (b := fun k => laws_toWeighS.l0 k a0 (fun z0 => some z0)) (fun v => match v with | (i, u1) => (((a0.length : Int)) - i).toNat) (fun v => match v with | (i, u1) => 0 ≤ i ∧ i ≤ (a0.length : Int) ∧ Zaw a0 ([.d (.str (⟨#[]⟩ : ByteArray)), .d (.int .i64 0)] : List C) i u1) ?_ ?_ ?_
  · rintro ⟨i, u1⟩ hI
    try simp only [] at hI ⊢
    have : big = 2 ^ 64 := rfl
    have := ga0.1
    simp only [lim] at this
    omega
  · exact ⟨by omega, by simp, Zaw.start _ _⟩
  · rintro ⟨i, u1⟩ hI L hL
    try simp only [] at hI
    obtain ⟨i0, i1, hF⟩ := hI
    have hFl := hF.len i1
    simp only [laws_toWeighS.l0]
    refine Tm.ite (fun h1 => ?_) (fun h1 => ?_)
    · try simp only [bz0, bz1, bz2, bz3, bz4, bz5, bz6, bz7, bz8, bz9, bza] at h1
      refine Tm.atRow (by first | assumption | omega) (by first | assumption | omega) (fun x2 hx3 hm4 => ?_)
      obtain ⟨c5, c6, rfl, g7, g8, _⟩ := (ga0.2 x2 hm4).open
      refine Tm.uncons ?_
      refine Tm.dStr ?_
      refine Tm.uncons ?_
      refine Tm.dInt ?_
      refine Tm.atEnd ?_
      refine laws_toWeigh.tm (fun i hi => hi.1) (laws_toWeigh.T (by first | assumption | omega)) (fun y10 y11 hy9 => ?_)
      try simp only [] at hy9
      obtain ⟨rfl, rfl, _⟩ := hy9
      try simp only [ZF]
      refine Tm.guard (by first | omega | (simp only [lim, Za, Z6] at *; omega) | (simp only [lim, Z6] at *; refine ⟨?_, ?_, ?_, ?_⟩ <;> omega)) ?_
      refine Tm.guard (by first | omega | (simp only [lim, Za, Z6] at *; omega) | (simp only [lim, Z6] at *; refine ⟨?_, ?_, ?_, ?_⟩ <;> omega)) ?_
      try rw [ZC (x := i + 1) (by omega) (by omega)]
      refine hL (_, _) ⟨by omega, by omega, hF.next i0 hx3 rfl (by simp [Zal, deepD])⟩ (by (try simp only []); omega)
    · try simp only [bz0, bz1, bz2, bz3, bz4, bz5, bz6, bz7, bz8, bz9, bza] at h1
      exact Tm.ret (by exact ⟨hF.all (by omega), trivial⟩)
theorem laws_toWant.f_of {β : Type} {k : Nat} {a0_0 : Int} {a0_1 : List (List D)} {a0_2 : List (List D)} {a0_3 : List (List D)} {z0 : Int} {z1 : List (List C)} {z2 : List (List C)} {z3 : List (List C)} (h : laws_toWant.t k a0_0 a0_1 a0_2 a0_3 = some (z0, z1, z2, z3)) (K : Int → (List (List C)) → (List (List C)) → (List (List C)) → Option β) : laws_toWant.f k a0_0 a0_1 a0_2 a0_3 K = K z0 z1 z2 z3 := by
  unfold laws_toWant.f
  rw [h]
theorem laws_toWant.tm {ι α : Type} {ok : ι → Prop} {ψ : α → Prop} {p : ι → Nat} {B : Nat} (hp : ∀ i, ok i → B ≤ p i) {a0_0 : Int} {a0_1 : List (List D)} {a0_2 : List (List D)} {a0_3 : List (List D)} {φ : Int × (List (List C)) × (List (List C)) × (List (List C)) → Prop} (h : Tm (fun k => B ≤ k) (fun k => laws_toWant.t k a0_0 a0_1 a0_2 a0_3) φ) {G : ι → Int → (List (List C)) → (List (List C)) → (List (List C)) → Option α} (hG : ∀ z0 z1 z2 z3, φ (z0, z1, z2, z3) → Tm ok (fun ι0 => G ι0 z0 z1 z2 z3) ψ) : Tm ok (fun ι0 => laws_toWant.f (p ι0) a0_0 a0_1 a0_2 a0_3 (G ι0)) ψ := by
  obtain ⟨⟨z0, z1, z2, z3⟩, h1, h2⟩ := h
  exact (hG z0 z1 z2 z3 h1).congr fun i0 hi0 => laws_toWant.f_of (h2 (p i0) (hp i0 hi0)) _
theorem laws_toWant.T {a0_0 : Int} {a0_1 : List (List D)} {a0_2 : List (List D)} {a0_3 : List (List D)} (ga0_1 : Zm Yh lim a0_1) (ga0_2 : Zm RS lim a0_2) (ga0_3 : Zm RSI lim a0_3) : Tm Zar (fun k => laws_toWant.t k a0_0 a0_1 a0_2 a0_3) (fun z => z.1 = a0_0 ∧ z.2.1 = Zs a0_1 ∧ z.2.2.1 = Zs a0_2 ∧ z.2.2.2 = Zs a0_3 ∧ True) := by
  unfold laws_toWant.t laws_toWant.g
  have hm := Za
  have hlim : lim = 1048576 := rfl
  refine laws_toTermS.tm (fun i hi => hi) (laws_toTermS.T (by first | assumption | omega)) (fun y2 hy1 => ?_)
  try simp only [] at hy1
  obtain ⟨rfl, _⟩ := hy1
  try simp only [ZF]
  refine laws_toStringS.tm (fun i hi => hi) (laws_toStringS.T (by first | assumption | omega)) (fun y4 hy3 => ?_)
  try simp only [] at hy3
  obtain ⟨rfl, _⟩ := hy3
  try simp only [ZF]
  refine laws_toWeighS.tm (fun i hi => hi) (laws_toWeighS.T (by first | assumption | omega)) (fun y6 hy5 => ?_)
  try simp only [] at hy5
  obtain ⟨rfl, _⟩ := hy5
  try simp only [ZF]
  exact Tm.ret (by exact ⟨by first | rfl | assumption, by first | rfl | assumption, by first | rfl | assumption, by first | rfl | assumption, trivial⟩)
theorem laws_toValueS.f_of {β : Type} {k : Nat} {a0 : List (List D)} {z0 : List (List C)} (h : laws_toValueS.t k a0 = some z0) (K : (List (List C)) → Option β) : laws_toValueS.f k a0 K = K z0 := by
  unfold laws_toValueS.f
  unfold laws_toValueS.w
  rw [h]
theorem laws_toValueS.tm {ι α : Type} {ok : ι → Prop} {ψ : α → Prop} {p : ι → Nat} {B : Nat} (hp : ∀ i, ok i → B ≤ p i) {a0 : List (List D)} {φ : (List (List C)) → Prop} (h : Tm (fun k => B ≤ k) (fun k => laws_toValueS.t k a0) φ) {G : ι → (List (List C)) → Option α} (hG : ∀ z0, φ z0 → Tm ok (fun ι0 => G ι0 z0) ψ) : Tm ok (fun ι0 => laws_toValueS.f (p ι0) a0 (G ι0)) ψ := by
  obtain ⟨z0, h1, h2⟩ := h
  exact (hG z0 h1).congr fun i0 hi0 => laws_toValueS.f_of (h2 (p i0) (hp i0 hi0)) _
theorem laws_toValue.f_of {β : Type} {k : Nat} {a0_0 : Int} {a0_1 : ByteArray} {a0_2 : Int} {a0_3 : List (List D)} {a0_4 : List (List D)} {z0 : Int} {z1 : ByteArray} {z2 : Int} {z3 : List (List C)} {z4 : List (List C)} (h : laws_toValue.t k a0_0 a0_1 a0_2 a0_3 a0_4 = some (z0, z1, z2, z3, z4)) (K : Int → ByteArray → Int → (List (List C)) → (List (List C)) → Option β) : laws_toValue.f k a0_0 a0_1 a0_2 a0_3 a0_4 K = K z0 z1 z2 z3 z4 := by
  unfold laws_toValue.f
  unfold laws_toValue.w
  rw [h]
theorem laws_toValue.tm {ι α : Type} {ok : ι → Prop} {ψ : α → Prop} {p : ι → Nat} {B : Nat} (hp : ∀ i, ok i → B ≤ p i) {a0_0 : Int} {a0_1 : ByteArray} {a0_2 : Int} {a0_3 : List (List D)} {a0_4 : List (List D)} {φ : Int × ByteArray × Int × (List (List C)) × (List (List C)) → Prop} (h : Tm (fun k => B ≤ k) (fun k => laws_toValue.t k a0_0 a0_1 a0_2 a0_3 a0_4) φ) {G : ι → Int → ByteArray → Int → (List (List C)) → (List (List C)) → Option α} (hG : ∀ z0 z1 z2 z3 z4, φ (z0, z1, z2, z3, z4) → Tm ok (fun ι0 => G ι0 z0 z1 z2 z3 z4) ψ) : Tm ok (fun ι0 => laws_toValue.f (p ι0) a0_0 a0_1 a0_2 a0_3 a0_4 (G ι0)) ψ := by
  obtain ⟨⟨z0, z1, z2, z3, z4⟩, h1, h2⟩ := h
  exact (hG z0 z1 z2 z3 z4 h1).congr fun i0 hi0 => laws_toValue.f_of (h2 (p i0) (hp i0 hi0)) _
theorem toVal (n : Nat) : (∀ (a : List (List D)), a.length ≤ lim → (∀ x ∈ a, Yf lim n x) → Tm (fun k => big + 2 * n + 1 ≤ k) (fun k => laws_toValueS.t k a) (fun z => z = Zs a)) ∧
    (∀ (c0 : Int) (c1 : ByteArray) (c2 : Int) (c3 c4 : List (List D)), c1.size ≤ lim → Zm RS lim c3 → c4.length ≤ lim → (∀ x ∈ c4, Yf lim n x) → Tm (fun k => big + 2 * n + 2 ≤ k) (fun k => laws_toValue.t k c0 c1 c2 c3 c4) (fun z => z.1 = c0 ∧ z.2.1 = c1 ∧ z.2.2.1 = c2 ∧ z.2.2.2.1 = Zs c3 ∧ z.2.2.2.2 = Zs c4)) := by
  have hm : Z6 = 2 ^ 36 := rfl
  have hlim : lim = 1048576 := rfl
  have hb : big = 2 ^ 64 := rfl
  induction n using Nat.strongRecOn with
  | ind n ih =>
  have S : ∀ (a : List (List D)), a.length ≤ lim → (∀ x ∈ a, Yf lim n x) → Tm (fun k => big + 2 * n + 1 ≤ k) (fun k => laws_toValueS.t k a) (fun z => z = Zs a) := by
    intro a hlen g
    refine Tm.succ (g := fun k => laws_toValueS.g k a (fun z0 => some z0)) (fun k => laws_toValueS.t_succ k a) ?_
    unfold laws_toValueS.g laws_toValueS.body
    refine Tm.guard ⟨by omega, by omega, by omega, by omega⟩ ?_
    refine Tm.loop (okk := fun k => big + 2 * n ≤ k) (p := fun k => k) (fun i hi => by omega) (b := fun k => laws_toValueS.l0 k (laws_toValueS.f k) (laws_toValue.f k) a (fun z0 => some z0)) (fun v => match v with | (i, u1) => (((a.length : Int)) - i).toNat) (fun v => match v with | (i, u1) => 0 ≤ i ∧ i ≤ (a.length : Int) ∧ Zaw a ([.d (.int .i64 0), .d (.str (⟨#[]⟩ : ByteArray)), .d (.int .i64 0), .own ([] : List (List C)), .own ([] : List (List C))] : List C) i u1) ?_ ?_ ?_
    · rintro ⟨i, u1⟩ hI
      simp only [] at hI ⊢
      omega
    · exact ⟨by omega, by simp, Zaw.start _ _⟩
    · rintro ⟨i, u1⟩ hI L hL
      simp only [] at hI
      obtain ⟨i0, i1, hF⟩ := hI
      have hFl := hF.len i1
      simp only [laws_toValueS.l0]
      refine Tm.ite (fun h4 => ?_) (fun h4 => ?_)
      · simp only [decide_eq_true_eq] at h4
        refine Tm.atRow (by omega) (by omega) (fun x5 hx6 hm7 => ?_)
        obtain ⟨n', hn', c0, c1, c2, c3, c4, rfl, w0, g1, w2, g3, l4, g4⟩ : ∃ n', n = n' + 1 ∧ ∃ c0 c1 c2 c3 c4, x5 = [.int .i64 c0, .str c1, .int .i64 c2, .sl c3, .sl c4] ∧ (Lit.int .i64 c0).wf = true ∧ c1.size ≤ lim ∧ (Lit.int .i64 c2).wf = true ∧ Zm RS lim c3 ∧ c4.length ≤ lim ∧ ∀ x ∈ c4, Yf lim n' x := by
          have := g x5 hm7
          cases this with
          | mk c0 c1 c2 c3 c4 w0 g1 w2 g3 l4 g4 => exact ⟨_, rfl, _, _, _, _, _, rfl, w0, g1, w2, g3, l4, g4⟩
        refine Tm.uncons (Tm.dInt (Tm.uncons (Tm.dStr (Tm.uncons (Tm.dInt (Tm.uncons (Tm.dSl (Tm.uncons (Tm.dSl (Tm.atEnd ?_))))))))))
        refine laws_toValue.tm (B := big + 2 * n' + 2) (fun i hi => by have := hi.1; omega) ((ih n' (by omega)).2 c0 c1 c2 c3 c4 g1 g3 l4 g4) (fun y0 y1 y2 y3 y4 hy => ?_)
        simp only [] at hy
        obtain ⟨rfl, rfl, rfl, e3, e4⟩ := hy
        refine Tm.guard (by omega) (Tm.guard (by omega) ?_)
        rw [ZC (x := i + 1) (by omega) (by omega)]
        exact hL (_, _) ⟨by omega, by omega, hF.next i0 hx6 rfl (by simp [Zal, deepD, e3, e4])⟩ (by simp only []; omega)
      · simp only [decide_eq_false_iff_not, Int.not_lt] at h4
        exact Tm.ret (hF.all (by omega))
  refine ⟨S, ?_⟩
  intro c0 c1 c2 c3 c4 g1 g3 l4 g4
  refine Tm.succ (g := fun k => laws_toValue.g k c0 c1 c2 c3 c4 (fun z0 z1 z2 z3 z4 => some (z0, z1, z2, z3, z4))) (fun k => laws_toValue.t_succ k c0 c1 c2 c3 c4) ?_
  unfold laws_toValue.g laws_toValue.body
  refine laws_toStringS.tm (B := big) (fun i hi => by omega) (laws_toStringS.T g3) (fun y hy => ?_)
  refine laws_toValueS.tm (B := big + 2 * n + 1) (fun i hi => hi) (S c4 l4 g4) (fun y' hy' => ?_)
  exact Tm.ret ⟨rfl, rfl, rfl, hy.1, hy'⟩
theorem laws_toValueS.T {a0 : List (List D)} (g : Zm Yd lim a0) : Tm (Zay 1) (fun k => laws_toValueS.t k a0) (fun z => z = Zs a0 ∧ True) := by
  have hlim : lim = 1048576 := rfl
  have g' : ∀ x ∈ a0, Yf lim 1099511627776 x := fun x hx => by
    obtain ⟨h, hh, hx⟩ := g.2 x hx
    exact hx.mono (hh (by decide))
  exact (((toVal 1099511627776).1 a0 g.1 g').up (big_lv1 (n := 2 * 1099511627776 + 1) (by omega))).mono fun r hr => ⟨hr, trivial⟩
theorem laws_toValue.T {a0_0 : Int} {a0_1 : ByteArray} {a0_2 : Int} {a0_3 a0_4 : List (List D)} (g1 : a0_1.size ≤ lim) (g3 : Zm RS lim a0_3) (g4 : Zm Yd lim a0_4) : Tm (Zay 1) (fun k => laws_toValue.t k a0_0 a0_1 a0_2 a0_3 a0_4) (fun z => z.1 = a0_0 ∧ z.2.1 = a0_1 ∧ z.2.2.1 = a0_2 ∧ z.2.2.2.1 = Zs a0_3 ∧ z.2.2.2.2 = Zs a0_4 ∧ True) := by
  have hlim : lim = 1048576 := rfl
  have g' : ∀ x ∈ a0_4, Yf lim 1099511627776 x := fun x hx => by
    obtain ⟨h, hh, hx⟩ := g4.2 x hx
    exact hx.mono (hh (by decide))
  exact (((toVal 1099511627776).2 a0_0 a0_1 a0_2 a0_3 a0_4 g1 g3 g4.1 g').up (big_lv1 (n := 2 * 1099511627776 + 2) (by omega))).mono fun r hr => ⟨hr.1, hr.2.1, hr.2.2.1, hr.2.2.2.1, hr.2.2.2.2, trivial⟩
theorem laws_toOp.f_of {β : Type} {k : Nat} {a0_0 : Int} {a0_1 : List (List D)} {a0_2 : Int} {a0_3 : ByteArray} {a0_4 : Int} {a0_5 : List (List D)} {a0_6 : List (List D)} {z0 : Int} {z1 : List (List C)} {z2 : Int} {z3 : ByteArray} {z4 : Int} {z5 : List (List C)} {z6 : List (List C)} (h : laws_toOp.t k a0_0 a0_1 a0_2 a0_3 a0_4 a0_5 a0_6 = some (z0, z1, z2, z3, z4, z5, z6)) (K : Int → (List (List C)) → Int → ByteArray → Int → (List (List C)) → (List (List C)) → Option β) : laws_toOp.f k a0_0 a0_1 a0_2 a0_3 a0_4 a0_5 a0_6 K = K z0 z1 z2 z3 z4 z5 z6 := by
  unfold laws_toOp.f
  rw [h]
theorem laws_toOp.tm {ι α : Type} {ok : ι → Prop} {ψ : α → Prop} {p : ι → Nat} {B : Nat} (hp : ∀ i, ok i → B ≤ p i) {a0_0 : Int} {a0_1 : List (List D)} {a0_2 : Int} {a0_3 : ByteArray} {a0_4 : Int} {a0_5 : List (List D)} {a0_6 : List (List D)} {φ : Int × (List (List C)) × Int × ByteArray × Int × (List (List C)) × (List (List C)) → Prop} (h : Tm (fun k => B ≤ k) (fun k => laws_toOp.t k a0_0 a0_1 a0_2 a0_3 a0_4 a0_5 a0_6) φ) {G : ι → Int → (List (List C)) → Int → ByteArray → Int → (List (List C)) → (List (List C)) → Option α} (hG : ∀ z0 z1 z2 z3 z4 z5 z6, φ (z0, z1, z2, z3, z4, z5, z6) → Tm ok (fun ι0 => G ι0 z0 z1 z2 z3 z4 z5 z6) ψ) : Tm ok (fun ι0 => laws_toOp.f (p ι0) a0_0 a0_1 a0_2 a0_3 a0_4 a0_5 a0_6 (G ι0)) ψ := by
  obtain ⟨⟨z0, z1, z2, z3, z4, z5, z6⟩, h1, h2⟩ := h
  exact (hG z0 z1 z2 z3 z4 z5 z6 h1).congr fun i0 hi0 => laws_toOp.f_of (h2 (p i0) (hp i0 hi0)) _
theorem laws_toOp.T {a0_0 : Int} {a0_1 : List (List D)} {a0_2 : Int} {a0_3 : ByteArray} {a0_4 : Int} {a0_5 : List (List D)} {a0_6 : List (List D)} (ga0_1 : Zm RS lim a0_1) (ga0_3 : a0_3.size ≤ lim) (ga0_5 : Zm RS lim a0_5) (ga0_6 : Zm Yd lim a0_6) : Tm (Zay 1) (fun k => laws_toOp.t k a0_0 a0_1 a0_2 a0_3 a0_4 a0_5 a0_6) (fun z => z.1 = a0_0 ∧ z.2.1 = Zs a0_1 ∧ z.2.2.1 = a0_2 ∧ z.2.2.2.1 = a0_3 ∧ z.2.2.2.2.1 = a0_4 ∧ z.2.2.2.2.2.1 = Zs a0_5 ∧ z.2.2.2.2.2.2 = Zs a0_6 ∧ True) := by
  unfold laws_toOp.t laws_toOp.g
  have hm := Za
  have hlim : lim = 1048576 := rfl
  refine laws_toStringS.tm (fun i hi => up0 hi) (laws_toStringS.T (by first | assumption | omega)) (fun y2 hy1 => ?_)
  try simp only [] at hy1
  obtain ⟨rfl, _⟩ := hy1
  try simp only [ZF]
  refine laws_toValue.tm (fun i hi => hi) (laws_toValue.T (by first | assumption | omega) (by first | assumption | omega) (by first | assumption | omega)) (fun y4 y5 y6 y7 y8 hy3 => ?_)
  try simp only [] at hy3
  obtain ⟨rfl, rfl, rfl, rfl, rfl, _⟩ := hy3
  try simp only [ZF]
  exact Tm.ret (by exact ⟨by first | rfl | assumption, by first | rfl | assumption, by first | rfl | assumption, by first | rfl | assumption, by first | rfl | assumption, by first | rfl | assumption, by first | rfl | assumption, trivial⟩)
theorem laws_toOpS.f_of {β : Type} {k : Nat} {a0 : List (List D)} {z0 : List (List C)} (h : laws_toOpS.t k a0 = some z0) (K : (List (List C)) → Option β) : laws_toOpS.f k a0 K = K z0 := by
  unfold laws_toOpS.f
  rw [h]
theorem laws_toOpS.tm {ι α : Type} {ok : ι → Prop} {ψ : α → Prop} {p : ι → Nat} {B : Nat} (hp : ∀ i, ok i → B ≤ p i) {a0 : List (List D)} {φ : (List (List C)) → Prop} (h : Tm (fun k => B ≤ k) (fun k => laws_toOpS.t k a0) φ) {G : ι → (List (List C)) → Option α} (hG : ∀ z0, φ z0 → Tm ok (fun ι0 => G ι0 z0) ψ) : Tm ok (fun ι0 => laws_toOpS.f (p ι0) a0 (G ι0)) ψ := by
  obtain ⟨z0, h1, h2⟩ := h
  exact (hG z0 h1).congr fun i0 hi0 => laws_toOpS.f_of (h2 (p i0) (hp i0 hi0)) _
theorem laws_toOpS.T {a0 : List (List D)} (ga0 : Zm Yc lim a0) : Tm (Zay 1) (fun k => laws_toOpS.t k a0) (fun z => z = Zs a0 ∧ True) := by
  unfold laws_toOpS.t laws_toOpS.g
  have hm := Za
  have hlim : lim = 1048576 := rfl
  have hlen := ga0.1
  refine Tm.guard (by first | omega | (simp only [lim, Za, Z6] at *; omega) | (simp only [lim, Z6] at *; refine ⟨?_, ?_, ?_, ?_⟩ <;> omega)) ?_
  refine Tm.loop (okk := (Zay 1)) (p := fun k => k) (fun i hi => up0 hi) (b := fun k => laws_toOpS.l0 k a0 (fun z0 => some z0)) (fun v => match v with | (i, u1) => (((a0.length : Int)) - i).toNat) (fun v => match v with | (i, u1) => 0 ≤ i ∧ i ≤ (a0.length : Int) ∧ Zaw a0 ([.d (.int .i64 0), .own ([] : List (List C)), .d (.int .i64 0), .d (.str (⟨#[]⟩ : ByteArray)), .d (.int .i64 0), .own ([] : List (List C)), .own ([] : List (List C))] : List C) i u1) ?_ ?_ ?_
  · rintro ⟨i, u1⟩ hI
    try simp only [] at hI ⊢
    have : big = 2 ^ 64 := rfl
    have := ga0.1
    simp only [lim] at this
    omega
  · exact ⟨by omega, by simp, Zaw.start _ _⟩
  · rintro ⟨i, u1⟩ hI L hL
    try simp only [] at hI
    obtain ⟨i0, i1, hF⟩ := hI
    have hFl := hF.len i1
    simp only [laws_toOpS.l0]
    refine Tm.ite (fun h1 => ?_) (fun h1 => ?_)
    · try simp only [bz0, bz1, bz2, bz3, bz4, bz5, bz6, bz7, bz8, bz9, bza] at h1
      refine Tm.atRow (by first | assumption | omega) (by first | assumption | omega) (fun x2 hx3 hm4 => ?_)
      obtain ⟨c5, c6, c7, c8, c9, c10, c11, rfl, g12, g13, g14, g15, g16, g17, g18, _⟩ := (ga0.2 x2 hm4).open
      refine Tm.uncons ?_
      refine Tm.dInt ?_
      refine Tm.uncons ?_
      refine Tm.dSl ?_
      refine Tm.uncons ?_
      refine Tm.dInt ?_
      refine Tm.uncons ?_
      refine Tm.dStr ?_
      refine Tm.uncons ?_
      refine Tm.dInt ?_
      refine Tm.uncons ?_
      refine Tm.dSl ?_
      refine Tm.uncons ?_
      refine Tm.dSl ?_
      refine Tm.atEnd ?_
      refine laws_toOp.tm (fun i hi => hi.1) (laws_toOp.T (by first | assumption | omega) (by first | assumption | omega) (by first | assumption | omega) (by first | assumption | omega)) (fun y20 y21 y22 y23 y24 y25 y26 hy19 => ?_)
      try simp only [] at hy19
      obtain ⟨rfl, rfl, rfl, rfl, rfl, rfl, rfl, _⟩ := hy19
      try simp only [ZF]
      refine Tm.guard (by first | omega | (simp only [lim, Za, Z6] at *; omega) | (simp only [lim, Z6] at *; refine ⟨?_, ?_, ?_, ?_⟩ <;> omega)) ?_
      refine Tm.guard (by first | omega | (simp only [lim, Za, Z6] at *; omega) | (simp only [lim, Z6] at *; refine ⟨?_, ?_, ?_, ?_⟩ <;> omega)) ?_
      try rw [ZC (x := i + 1) (by omega) (by omega)]
      refine hL (_, _) ⟨by omega, by omega, hF.next i0 hx3 rfl (by simp [Zal, deepD])⟩ (by (try simp only []); omega)
    · try simp only [bz0, bz1, bz2, bz3, bz4, bz5, bz6, bz7, bz8, bz9, bza] at h1
      exact Tm.ret (by exact ⟨hF.all (by omega), trivial⟩)
theorem laws_toOver.f_of {β : Type} {k : Nat} {a0_0 : ByteArray} {a0_1 : List (List D)} {z0 : ByteArray} {z1 : List (List C)} (h : laws_toOver.t k a0_0 a0_1 = some (z0, z1)) (K : ByteArray → (List (List C)) → Option β) : laws_toOver.f k a0_0 a0_1 K = K z0 z1 := by
  unfold laws_toOver.f
  rw [h]
theorem laws_toOver.tm {ι α : Type} {ok : ι → Prop} {ψ : α → Prop} {p : ι → Nat} {B : Nat} (hp : ∀ i, ok i → B ≤ p i) {a0_0 : ByteArray} {a0_1 : List (List D)} {φ : ByteArray × (List (List C)) → Prop} (h : Tm (fun k => B ≤ k) (fun k => laws_toOver.t k a0_0 a0_1) φ) {G : ι → ByteArray → (List (List C)) → Option α} (hG : ∀ z0 z1, φ (z0, z1) → Tm ok (fun ι0 => G ι0 z0 z1) ψ) : Tm ok (fun ι0 => laws_toOver.f (p ι0) a0_0 a0_1 (G ι0)) ψ := by
  obtain ⟨⟨z0, z1⟩, h1, h2⟩ := h
  exact (hG z0 z1 h1).congr fun i0 hi0 => laws_toOver.f_of (h2 (p i0) (hp i0 hi0)) _
theorem laws_toOver.T {a0_0 : ByteArray} {a0_1 : List (List D)} (ga0_0 : a0_0.size ≤ lim) (ga0_1 : Zm Yc lim a0_1) : Tm (Zay 1) (fun k => laws_toOver.t k a0_0 a0_1) (fun z => z.1 = a0_0 ∧ z.2 = Zs a0_1 ∧ True) := by
  unfold laws_toOver.t laws_toOver.g
  have hm := Za
  have hlim : lim = 1048576 := rfl
  refine laws_toOpS.tm (fun i hi => hi) (laws_toOpS.T (by first | assumption | omega)) (fun y2 hy1 => ?_)
  try simp only [] at hy1
  obtain ⟨rfl, _⟩ := hy1
  try simp only [ZF]
  exact Tm.ret (by exact ⟨by first | rfl | assumption, by first | rfl | assumption, trivial⟩)
theorem laws_toOverS.f_of {β : Type} {k : Nat} {a0 : List (List D)} {z0 : List (List C)} (h : laws_toOverS.t k a0 = some z0) (K : (List (List C)) → Option β) : laws_toOverS.f k a0 K = K z0 := by
  unfold laws_toOverS.f
  rw [h]
theorem laws_toOverS.tm {ι α : Type} {ok : ι → Prop} {ψ : α → Prop} {p : ι → Nat} {B : Nat} (hp : ∀ i, ok i → B ≤ p i) {a0 : List (List D)} {φ : (List (List C)) → Prop} (h : Tm (fun k => B ≤ k) (fun k => laws_toOverS.t k a0) φ) {G : ι → (List (List C)) → Option α} (hG : ∀ z0, φ z0 → Tm ok (fun ι0 => G ι0 z0) ψ) : Tm ok (fun ι0 => laws_toOverS.f (p ι0) a0 (G ι0)) ψ := by
  obtain ⟨z0, h1, h2⟩ := h
  exact (hG z0 h1).congr fun i0 hi0 => laws_toOverS.f_of (h2 (p i0) (hp i0 hi0)) _
theorem laws_toOverS.T {a0 : List (List D)} (ga0 : Zm Yb lim a0) : Tm (Zay 1) (fun k => laws_toOverS.t k a0) (fun z => z = Zs a0 ∧ True) := by
  unfold laws_toOverS.t laws_toOverS.g
  have hm := Za
  have hlim : lim = 1048576 := rfl
  have hlen := ga0.1
  refine Tm.guard (by first | omega | (simp only [lim, Za, Z6] at *; omega) | (simp only [lim, Z6] at *; refine ⟨?_, ?_, ?_, ?_⟩ <;> omega)) ?_
  refine Tm.loop (okk := (Zay 1)) (p := fun k => k) (fun i hi => up0 hi) (b := fun k => laws_toOverS.l0 k a0 (fun z0 => some z0)) (fun v => match v with | (i, u1) => (((a0.length : Int)) - i).toNat) (fun v => match v with | (i, u1) => 0 ≤ i ∧ i ≤ (a0.length : Int) ∧ Zaw a0 ([.d (.str (⟨#[]⟩ : ByteArray)), .own ([] : List (List C))] : List C) i u1) ?_ ?_ ?_
  · rintro ⟨i, u1⟩ hI
    try simp only [] at hI ⊢
    have : big = 2 ^ 64 := rfl
    have := ga0.1
    simp only [lim] at this
    omega
  · exact ⟨by omega, by simp, Zaw.start _ _⟩
  · rintro ⟨i, u1⟩ hI L hL
    try simp only [] at hI
    obtain ⟨i0, i1, hF⟩ := hI
    have hFl := hF.len i1
    simp only [laws_toOverS.l0]
    refine Tm.ite (fun h1 => ?_) (fun h1 => ?_)
    · try simp only [bz0, bz1, bz2, bz3, bz4, bz5, bz6, bz7, bz8, bz9, bza] at h1
      refine Tm.atRow (by first | assumption | omega) (by first | assumption | omega) (fun x2 hx3 hm4 => ?_)
      obtain ⟨c5, c6, rfl, g7, g8, _⟩ := (ga0.2 x2 hm4).open
      refine Tm.uncons ?_
      refine Tm.dStr ?_
      refine Tm.uncons ?_
      refine Tm.dSl ?_
      refine Tm.atEnd ?_
      refine laws_toOver.tm (fun i hi => hi.1) (laws_toOver.T (by first | assumption | omega) (by first | assumption | omega)) (fun y10 y11 hy9 => ?_)
      try simp only [] at hy9
      obtain ⟨rfl, rfl, _⟩ := hy9
      try simp only [ZF]
      refine Tm.guard (by first | omega | (simp only [lim, Za, Z6] at *; omega) | (simp only [lim, Z6] at *; refine ⟨?_, ?_, ?_, ?_⟩ <;> omega)) ?_
      refine Tm.guard (by first | omega | (simp only [lim, Za, Z6] at *; omega) | (simp only [lim, Z6] at *; refine ⟨?_, ?_, ?_, ?_⟩ <;> omega)) ?_
      try rw [ZC (x := i + 1) (by omega) (by omega)]
      refine hL (_, _) ⟨by omega, by omega, hF.next i0 hx3 rfl (by simp [Zal, deepD])⟩ (by (try simp only []); omega)
    · try simp only [bz0, bz1, bz2, bz3, bz4, bz5, bz6, bz7, bz8, bz9, bza] at h1
      exact Tm.ret (by exact ⟨hF.all (by omega), trivial⟩)
theorem laws_toJob.f_of {β : Type} {k : Nat} {a0_0 : Int} {a0_1 : ByteArray} {a0_2 : Int} {a0_3 : List (List D)} {a0_4 : List (List D)} {a0_5 : List (List D)} {a0_6 : Int} {a0_7 : ByteArray} {a0_8 : Int} {a0_9 : List (List D)} {a0_10 : List (List D)} {a0_11 : List (List D)} {a0_12 : Bool} {z0 : Int} {z1 : ByteArray} {z2 : Int} {z3 : List (List C)} {z4 : List (List C)} {z5 : List (List C)} {z6 : Int} {z7 : ByteArray} {z8 : Int} {z9 : List (List C)} {z10 : List (List C)} {z11 : List (List C)} {z12 : Bool} (h : laws_toJob.t k a0_0 a0_1 a0_2 a0_3 a0_4 a0_5 a0_6 a0_7 a0_8 a0_9 a0_10 a0_11 a0_12 = some (z0, z1, z2, z3, z4, z5, z6, z7, z8, z9, z10, z11, z12)) (K : Int → ByteArray → Int → (List (List C)) → (List (List C)) → (List (List C)) → Int → ByteArray → Int → (List (List C)) → (List (List C)) → (List (List C)) → Bool → Option β) : laws_toJob.f k a0_0 a0_1 a0_2 a0_3 a0_4 a0_5 a0_6 a0_7 a0_8 a0_9 a0_10 a0_11 a0_12 K = K z0 z1 z2 z3 z4 z5 z6 z7 z8 z9 z10 z11 z12 := by
  unfold laws_toJob.f
  rw [h]
theorem laws_toJob.tm {ι α : Type} {ok : ι → Prop} {ψ : α → Prop} {p : ι → Nat} {B : Nat} (hp : ∀ i, ok i → B ≤ p i) {a0_0 : Int} {a0_1 : ByteArray} {a0_2 : Int} {a0_3 : List (List D)} {a0_4 : List (List D)} {a0_5 : List (List D)} {a0_6 : Int} {a0_7 : ByteArray} {a0_8 : Int} {a0_9 : List (List D)} {a0_10 : List (List D)} {a0_11 : List (List D)} {a0_12 : Bool} {φ : Int × ByteArray × Int × (List (List C)) × (List (List C)) × (List (List C)) × Int × ByteArray × Int × (List (List C)) × (List (List C)) × (List (List C)) × Bool → Prop} (h : Tm (fun k => B ≤ k) (fun k => laws_toJob.t k a0_0 a0_1 a0_2 a0_3 a0_4 a0_5 a0_6 a0_7 a0_8 a0_9 a0_10 a0_11 a0_12) φ) {G : ι → Int → ByteArray → Int → (List (List C)) → (List (List C)) → (List (List C)) → Int → ByteArray → Int → (List (List C)) → (List (List C)) → (List (List C)) → Bool → Option α} (hG : ∀ z0 z1 z2 z3 z4 z5 z6 z7 z8 z9 z10 z11 z12, φ (z0, z1, z2, z3, z4, z5, z6, z7, z8, z9, z10, z11, z12) → Tm ok (fun ι0 => G ι0 z0 z1 z2 z3 z4 z5 z6 z7 z8 z9 z10 z11 z12) ψ) : Tm ok (fun ι0 => laws_toJob.f (p ι0) a0_0 a0_1 a0_2 a0_3 a0_4 a0_5 a0_6 a0_7 a0_8 a0_9 a0_10 a0_11 a0_12 (G ι0)) ψ := by
  obtain ⟨⟨z0, z1, z2, z3, z4, z5, z6, z7, z8, z9, z10, z11, z12⟩, h1, h2⟩ := h
  exact (hG z0 z1 z2 z3 z4 z5 z6 z7 z8 z9 z10 z11 z12 h1).congr fun i0 hi0 => laws_toJob.f_of (h2 (p i0) (hp i0 hi0)) _
theorem laws_toJob.T {a0_0 : Int} {a0_1 : ByteArray} {a0_2 : Int} {a0_3 : List (List D)} {a0_4 : List (List D)} {a0_5 : List (List D)} {a0_6 : Int} {a0_7 : ByteArray} {a0_8 : Int} {a0_9 : List (List D)} {a0_10 : List (List D)} {a0_11 : List (List D)} {a0_12 : Bool} (ga0_1 : a0_1.size ≤ lim) (ga0_3 : Zm Yh lim a0_3) (ga0_4 : Zm RS lim a0_4) (ga0_5 : Zm RSI lim a0_5) (ga0_7 : a0_7.size ≤ lim) (ga0_9 : Zm RS lim a0_9) (ga0_10 : Zm Yd lim a0_10) (ga0_11 : Zm Yb lim a0_11) : Tm (Zay 1) (fun k => laws_toJob.t k a0_0 a0_1 a0_2 a0_3 a0_4 a0_5 a0_6 a0_7 a0_8 a0_9 a0_10 a0_11 a0_12) (fun z => z.1 = a0_0 ∧ z.2.1 = a0_1 ∧ z.2.2.1 = a0_2 ∧ z.2.2.2.1 = Zs a0_3 ∧ z.2.2.2.2.1 = Zs a0_4 ∧ z.2.2.2.2.2.1 = Zs a0_5 ∧ z.2.2.2.2.2.2.1 = a0_6 ∧ z.2.2.2.2.2.2.2.1 = a0_7 ∧ z.2.2.2.2.2.2.2.2.1 = a0_8 ∧ z.2.2.2.2.2.2.2.2.2.1 = Zs a0_9 ∧ z.2.2.2.2.2.2.2.2.2.2.1 = Zs a0_10 ∧ z.2.2.2.2.2.2.2.2.2.2.2.1 = Zs a0_11 ∧ z.2.2.2.2.2.2.2.2.2.2.2.2 = a0_12 ∧ True) := by
  unfold laws_toJob.t laws_toJob.g
  have hm := Za
  have hlim : lim = 1048576 := rfl
  refine laws_toWant.tm (fun i hi => up0 hi) (laws_toWant.T (by first | assumption | omega) (by first | assumption | omega) (by first | assumption | omega)) (fun y2 y3 y4 y5 hy1 => ?_)
  try simp only [] at hy1
  obtain ⟨rfl, rfl, rfl, rfl, _⟩ := hy1
  try simp only [ZF]
  refine laws_toValue.tm (fun i hi => hi) (laws_toValue.T (by first | assumption | omega) (by first | assumption | omega) (by first | assumption | omega)) (fun y7 y8 y9 y10 y11 hy6 => ?_)
  try simp only [] at hy6
  obtain ⟨rfl, rfl, rfl, rfl, rfl, _⟩ := hy6
  try simp only [ZF]
  refine laws_toOverS.tm (fun i hi => hi) (laws_toOverS.T (by first | assumption | omega)) (fun y13 hy12 => ?_)
  try simp only [] at hy12
  obtain ⟨rfl, _⟩ := hy12
  try simp only [ZF]
  exact Tm.ret (by exact ⟨by first | rfl | assumption, by first | rfl | assumption, by first | rfl | assumption, by first | rfl | assumption, by first | rfl | assumption, by first | rfl | assumption, by first | rfl | assumption, by first | rfl | assumption, by first | rfl | assumption, by first | rfl | assumption, by first | rfl | assumption, by first | rfl | assumption, by first | rfl | assumption, trivial⟩)
theorem laws_toJobS.f_of {β : Type} {k : Nat} {a0 : List (List D)} {z0 : List (List C)} (h : laws_toJobS.t k a0 = some z0) (K : (List (List C)) → Option β) : laws_toJobS.f k a0 K = K z0 := by
  unfold laws_toJobS.f
  rw [h]
theorem laws_toJobS.tm {ι α : Type} {ok : ι → Prop} {ψ : α → Prop} {p : ι → Nat} {B : Nat} (hp : ∀ i, ok i → B ≤ p i) {a0 : List (List D)} {φ : (List (List C)) → Prop} (h : Tm (fun k => B ≤ k) (fun k => laws_toJobS.t k a0) φ) {G : ι → (List (List C)) → Option α} (hG : ∀ z0, φ z0 → Tm ok (fun ι0 => G ι0 z0) ψ) : Tm ok (fun ι0 => laws_toJobS.f (p ι0) a0 (G ι0)) ψ := by
  obtain ⟨z0, h1, h2⟩ := h
  exact (hG z0 h1).congr fun i0 hi0 => laws_toJobS.f_of (h2 (p i0) (hp i0 hi0)) _
theorem laws_toJobS.T {a0 : List (List D)} (ga0 : Zm Ya lim a0) : Tm (Zay 1) (fun k => laws_toJobS.t k a0) (fun z => z = Zs a0 ∧ True) := by
  unfold laws_toJobS.t laws_toJobS.g
  have hm := Za
  have hlim : lim = 1048576 := rfl
  have hlen := ga0.1
  refine Tm.guard (by first | omega | (simp only [lim, Za, Z6] at *; omega) | (simp only [lim, Z6] at *; refine ⟨?_, ?_, ?_, ?_⟩ <;> omega)) ?_
  refine Tm.loop (okk := (Zay 1)) (p := fun k => k) (fun i hi => up0 hi) (b := fun k => laws_toJobS.l0 k a0 (fun z0 => some z0)) (fun v => match v with | (i, u1) => (((a0.length : Int)) - i).toNat) (fun v => match v with | (i, u1) => 0 ≤ i ∧ i ≤ (a0.length : Int) ∧ Zaw a0 ([.d (.int .i64 0), .d (.str (⟨#[]⟩ : ByteArray)), .d (.int .i64 0), .own ([] : List (List C)), .own ([] : List (List C)), .own ([] : List (List C)), .d (.int .i64 0), .d (.str (⟨#[]⟩ : ByteArray)), .d (.int .i64 0), .own ([] : List (List C)), .own ([] : List (List C)), .own ([] : List (List C)), .d (.bool false)] : List C) i u1) ?_ ?_ ?_
  · rintro ⟨i, u1⟩ hI
    try simp only [] at hI ⊢
    have : big = 2 ^ 64 := rfl
    have := ga0.1
    simp only [lim] at this
    omega
  · exact ⟨by omega, by simp, Zaw.start _ _⟩
  · rintro ⟨i, u1⟩ hI L hL
    try simp only [] at hI
    obtain ⟨i0, i1, hF⟩ := hI
    have hFl := hF.len i1
    simp only [laws_toJobS.l0]
    refine Tm.ite (fun h1 => ?_) (fun h1 => ?_)
    · try simp only [bz0, bz1, bz2, bz3, bz4, bz5, bz6, bz7, bz8, bz9, bza] at h1
      refine Tm.atRow (by first | assumption | omega) (by first | assumption | omega) (fun x2 hx3 hm4 => ?_)
      obtain ⟨c5, c6, c7, c8, c9, c10, c11, c12, c13, c14, c15, c16, c17, rfl, g18, g19, g20, g21, g22, g23, g24, g25, g26, g27, g28, g29, _⟩ := (ga0.2 x2 hm4).open
      refine Tm.uncons ?_
      refine Tm.dInt ?_
      refine Tm.uncons ?_
      refine Tm.dStr ?_
      refine Tm.uncons ?_
      refine Tm.dInt ?_
      refine Tm.uncons ?_
      refine Tm.dSl ?_
      refine Tm.uncons ?_
      refine Tm.dSl ?_
      refine Tm.uncons ?_
      refine Tm.dSl ?_
      refine Tm.uncons ?_
      refine Tm.dInt ?_
      refine Tm.uncons ?_
      refine Tm.dStr ?_
      refine Tm.uncons ?_
      refine Tm.dInt ?_
      refine Tm.uncons ?_
      refine Tm.dSl ?_
      refine Tm.uncons ?_
      refine Tm.dSl ?_
      refine Tm.uncons ?_
      refine Tm.dSl ?_
      refine Tm.uncons ?_
      refine Tm.dBool ?_
      refine Tm.atEnd ?_
      refine laws_toJob.tm (fun i hi => hi.1) (laws_toJob.T (by first | assumption | omega) (by first | assumption | omega) (by first | assumption | omega) (by first | assumption | omega) (by first | assumption | omega) (by first | assumption | omega) (by first | assumption | omega) (by first | assumption | omega)) (fun y31 y32 y33 y34 y35 y36 y37 y38 y39 y40 y41 y42 y43 hy30 => ?_)
      try simp only [] at hy30
      obtain ⟨rfl, rfl, rfl, rfl, rfl, rfl, rfl, rfl, rfl, rfl, rfl, rfl, rfl, _⟩ := hy30
      try simp only [ZF]
      refine Tm.guard (by first | omega | (simp only [lim, Za, Z6] at *; omega) | (simp only [lim, Z6] at *; refine ⟨?_, ?_, ?_, ?_⟩ <;> omega)) ?_
      refine Tm.guard (by first | omega | (simp only [lim, Za, Z6] at *; omega) | (simp only [lim, Z6] at *; refine ⟨?_, ?_, ?_, ?_⟩ <;> omega)) ?_
      try rw [ZC (x := i + 1) (by omega) (by omega)]
      refine hL (_, _) ⟨by omega, by omega, hF.next i0 hx3 rfl (by simp [Zal, deepD])⟩ (by (try simp only []); omega)
    · try simp only [bz0, bz1, bz2, bz3, bz4, bz5, bz6, bz7, bz8, bz9, bza] at h1
      exact Tm.ret (by exact ⟨hF.all (by omega), trivial⟩)
theorem laws_toLabel.f_of {β : Type} {k : Nat} {a0_0 : ByteArray} {a0_1 : ByteArray} {z0 : ByteArray} {z1 : ByteArray} (h : laws_toLabel.t k a0_0 a0_1 = some (z0, z1)) (K : ByteArray → ByteArray → Option β) : laws_toLabel.f k a0_0 a0_1 K = K z0 z1 := by
  unfold laws_toLabel.f
  rw [h]
theorem laws_toLabel.tm {ι α : Type} {ok : ι → Prop} {ψ : α → Prop} {p : ι → Nat} {B : Nat} (hp : ∀ i, ok i → B ≤ p i) {a0_0 : ByteArray} {a0_1 : ByteArray} {φ : ByteArray × ByteArray → Prop} (h : Tm (fun k => B ≤ k) (fun k => laws_toLabel.t k a0_0 a0_1) φ) {G : ι → ByteArray → ByteArray → Option α} (hG : ∀ z0 z1, φ (z0, z1) → Tm ok (fun ι0 => G ι0 z0 z1) ψ) : Tm ok (fun ι0 => laws_toLabel.f (p ι0) a0_0 a0_1 (G ι0)) ψ := by
  obtain ⟨⟨z0, z1⟩, h1, h2⟩ := h
  exact (hG z0 z1 h1).congr fun i0 hi0 => laws_toLabel.f_of (h2 (p i0) (hp i0 hi0)) _
theorem laws_toLabel.T {a0_0 : ByteArray} {a0_1 : ByteArray} (ga0_0 : a0_0.size ≤ lim) (ga0_1 : a0_1.size ≤ lim) : Tm Zar (fun k => laws_toLabel.t k a0_0 a0_1) (fun z => z.1 = a0_0 ∧ z.2 = a0_1 ∧ True) := by
  unfold laws_toLabel.t laws_toLabel.g
  have hm := Za
  have hlim : lim = 1048576 := rfl
  exact Tm.ret (by exact ⟨by first | rfl | assumption, by first | rfl | assumption, trivial⟩)
theorem laws_toLabelS.f_of {β : Type} {k : Nat} {a0 : List (List D)} {z0 : List (List C)} (h : laws_toLabelS.t k a0 = some z0) (K : (List (List C)) → Option β) : laws_toLabelS.f k a0 K = K z0 := by
  unfold laws_toLabelS.f
  rw [h]
theorem laws_toLabelS.tm {ι α : Type} {ok : ι → Prop} {ψ : α → Prop} {p : ι → Nat} {B : Nat} (hp : ∀ i, ok i → B ≤ p i) {a0 : List (List D)} {φ : (List (List C)) → Prop} (h : Tm (fun k => B ≤ k) (fun k => laws_toLabelS.t k a0) φ) {G : ι → (List (List C)) → Option α} (hG : ∀ z0, φ z0 → Tm ok (fun ι0 => G ι0 z0) ψ) : Tm ok (fun ι0 => laws_toLabelS.f (p ι0) a0 (G ι0)) ψ := by
  obtain ⟨z0, h1, h2⟩ := h
  exact (hG z0 h1).congr fun i0 hi0 => laws_toLabelS.f_of (h2 (p i0) (hp i0 hi0)) _
theorem laws_toLabelS.T {a0 : List (List D)} (ga0 : Zm RSS lim a0) : Tm Zar (fun k => laws_toLabelS.t k a0) (fun z => z = Zs a0 ∧ True) := by
  unfold laws_toLabelS.t laws_toLabelS.g
  have hm := Za
  have hlim : lim = 1048576 := rfl
  have hlen := ga0.1
  refine Tm.guard (by first | omega | (simp only [lim, Za, Z6] at *; omega) | (simp only [lim, Z6] at *; refine ⟨?_, ?_, ?_, ?_⟩ <;> omega)) ?_
  refine Tm.loop (okk := Zar) (p := fun k => k) (fun i hi => hi) (b := fun k => laws_toLabelS.l0 k a0 (fun z0 => some z0)) (fun v => match v with | (i, u1) => (((a0.length : Int)) - i).toNat) (fun v => match v with | (i, u1) => 0 ≤ i ∧ i ≤ (a0.length : Int) ∧ Zaw a0 ([.d (.str (⟨#[]⟩ : ByteArray)), .d (.str (⟨#[]⟩ : ByteArray))] : List C) i u1) ?_ ?_ ?_
  · rintro ⟨i, u1⟩ hI
    try simp only [] at hI ⊢
    have : big = 2 ^ 64 := rfl
    have := ga0.1
    simp only [lim] at this
    omega
  · exact ⟨by omega, by simp, Zaw.start _ _⟩
  · rintro ⟨i, u1⟩ hI L hL
    try simp only [] at hI
    obtain ⟨i0, i1, hF⟩ := hI
    have hFl := hF.len i1
    simp only [laws_toLabelS.l0]
    refine Tm.ite (fun h1 => ?_) (fun h1 => ?_)
    · try simp only [bz0, bz1, bz2, bz3, bz4, bz5, bz6, bz7, bz8, bz9, bza] at h1
      refine Tm.atRow (by first | assumption | omega) (by first | assumption | omega) (fun x2 hx3 hm4 => ?_)
      obtain ⟨c5, c6, rfl, g7, g8, _⟩ := (ga0.2 x2 hm4).open
      refine Tm.uncons ?_
      refine Tm.dStr ?_
      refine Tm.uncons ?_
      refine Tm.dStr ?_
      refine Tm.atEnd ?_
      refine laws_toLabel.tm (fun i hi => hi.1) (laws_toLabel.T (by first | assumption | omega) (by first | assumption | omega)) (fun y10 y11 hy9 => ?_)
      try simp only [] at hy9
      obtain ⟨rfl, rfl, _⟩ := hy9
      try simp only [ZF]
      refine Tm.guard (by first | omega | (simp only [lim, Za, Z6] at *; omega) | (simp only [lim, Z6] at *; refine ⟨?_, ?_, ?_, ?_⟩ <;> omega)) ?_
      refine Tm.guard (by first | omega | (simp only [lim, Za, Z6] at *; omega) | (simp only [lim, Z6] at *; refine ⟨?_, ?_, ?_, ?_⟩ <;> omega)) ?_
      try rw [ZC (x := i + 1) (by omega) (by omega)]
      refine hL (_, _) ⟨by omega, by omega, hF.next i0 hx3 rfl (by simp [Zal, deepD])⟩ (by (try simp only []); omega)
    · try simp only [bz0, bz1, bz2, bz3, bz4, bz5, bz6, bz7, bz8, bz9, bza] at h1
      exact Tm.ret (by exact ⟨hF.all (by omega), trivial⟩)
theorem laws_toIsland.f_of {β : Type} {k : Nat} {a0_0 : ByteArray} {a0_1 : List (List D)} {a0_2 : List (List D)} {a0_3 : Int} {z0 : ByteArray} {z1 : List (List C)} {z2 : List (List C)} {z3 : Int} (h : laws_toIsland.t k a0_0 a0_1 a0_2 a0_3 = some (z0, z1, z2, z3)) (K : ByteArray → (List (List C)) → (List (List C)) → Int → Option β) : laws_toIsland.f k a0_0 a0_1 a0_2 a0_3 K = K z0 z1 z2 z3 := by
  unfold laws_toIsland.f
  rw [h]
theorem laws_toIsland.tm {ι α : Type} {ok : ι → Prop} {ψ : α → Prop} {p : ι → Nat} {B : Nat} (hp : ∀ i, ok i → B ≤ p i) {a0_0 : ByteArray} {a0_1 : List (List D)} {a0_2 : List (List D)} {a0_3 : Int} {φ : ByteArray × (List (List C)) × (List (List C)) × Int → Prop} (h : Tm (fun k => B ≤ k) (fun k => laws_toIsland.t k a0_0 a0_1 a0_2 a0_3) φ) {G : ι → ByteArray → (List (List C)) → (List (List C)) → Int → Option α} (hG : ∀ z0 z1 z2 z3, φ (z0, z1, z2, z3) → Tm ok (fun ι0 => G ι0 z0 z1 z2 z3) ψ) : Tm ok (fun ι0 => laws_toIsland.f (p ι0) a0_0 a0_1 a0_2 a0_3 (G ι0)) ψ := by
  obtain ⟨⟨z0, z1, z2, z3⟩, h1, h2⟩ := h
  exact (hG z0 z1 z2 z3 h1).congr fun i0 hi0 => laws_toIsland.f_of (h2 (p i0) (hp i0 hi0)) _
theorem laws_toIsland.T {a0_0 : ByteArray} {a0_1 : List (List D)} {a0_2 : List (List D)} {a0_3 : Int} (ga0_0 : a0_0.size ≤ lim) (ga0_1 : Zm RSS lim a0_1) (ga0_2 : Zm RS lim a0_2) : Tm Zar (fun k => laws_toIsland.t k a0_0 a0_1 a0_2 a0_3) (fun z => z.1 = a0_0 ∧ z.2.1 = Zs a0_1 ∧ z.2.2.1 = Zs a0_2 ∧ z.2.2.2 = a0_3 ∧ True) := by
  unfold laws_toIsland.t laws_toIsland.g
  have hm := Za
  have hlim : lim = 1048576 := rfl
  refine laws_toLabelS.tm (fun i hi => hi) (laws_toLabelS.T (by first | assumption | omega)) (fun y2 hy1 => ?_)
  try simp only [] at hy1
  obtain ⟨rfl, _⟩ := hy1
  try simp only [ZF]
  refine laws_toStringS.tm (fun i hi => hi) (laws_toStringS.T (by first | assumption | omega)) (fun y4 hy3 => ?_)
  try simp only [] at hy3
  obtain ⟨rfl, _⟩ := hy3
  try simp only [ZF]
  exact Tm.ret (by exact ⟨by first | rfl | assumption, by first | rfl | assumption, by first | rfl | assumption, by first | rfl | assumption, trivial⟩)
theorem laws_toPost.f_of {β : Type} {k : Nat} {a0_0 : ByteArray} {a0_1 : List (List D)} {a0_2 : List (List D)} {a0_3 : Int} {a0_4 : Int} {a0_5 : Int} {z0 : ByteArray} {z1 : List (List C)} {z2 : List (List C)} {z3 : Int} {z4 : Int} {z5 : Int} (h : laws_toPost.t k a0_0 a0_1 a0_2 a0_3 a0_4 a0_5 = some (z0, z1, z2, z3, z4, z5)) (K : ByteArray → (List (List C)) → (List (List C)) → Int → Int → Int → Option β) : laws_toPost.f k a0_0 a0_1 a0_2 a0_3 a0_4 a0_5 K = K z0 z1 z2 z3 z4 z5 := by
  unfold laws_toPost.f
  rw [h]
theorem laws_toPost.tm {ι α : Type} {ok : ι → Prop} {ψ : α → Prop} {p : ι → Nat} {B : Nat} (hp : ∀ i, ok i → B ≤ p i) {a0_0 : ByteArray} {a0_1 : List (List D)} {a0_2 : List (List D)} {a0_3 : Int} {a0_4 : Int} {a0_5 : Int} {φ : ByteArray × (List (List C)) × (List (List C)) × Int × Int × Int → Prop} (h : Tm (fun k => B ≤ k) (fun k => laws_toPost.t k a0_0 a0_1 a0_2 a0_3 a0_4 a0_5) φ) {G : ι → ByteArray → (List (List C)) → (List (List C)) → Int → Int → Int → Option α} (hG : ∀ z0 z1 z2 z3 z4 z5, φ (z0, z1, z2, z3, z4, z5) → Tm ok (fun ι0 => G ι0 z0 z1 z2 z3 z4 z5) ψ) : Tm ok (fun ι0 => laws_toPost.f (p ι0) a0_0 a0_1 a0_2 a0_3 a0_4 a0_5 (G ι0)) ψ := by
  obtain ⟨⟨z0, z1, z2, z3, z4, z5⟩, h1, h2⟩ := h
  exact (hG z0 z1 z2 z3 z4 z5 h1).congr fun i0 hi0 => laws_toPost.f_of (h2 (p i0) (hp i0 hi0)) _
theorem laws_toPost.T {a0_0 : ByteArray} {a0_1 : List (List D)} {a0_2 : List (List D)} {a0_3 : Int} {a0_4 : Int} {a0_5 : Int} (ga0_0 : a0_0.size ≤ lim) (ga0_1 : Zm RSS lim a0_1) (ga0_2 : Zm RS lim a0_2) : Tm Zar (fun k => laws_toPost.t k a0_0 a0_1 a0_2 a0_3 a0_4 a0_5) (fun z => z.1 = a0_0 ∧ z.2.1 = Zs a0_1 ∧ z.2.2.1 = Zs a0_2 ∧ z.2.2.2.1 = a0_3 ∧ z.2.2.2.2.1 = a0_4 ∧ z.2.2.2.2.2 = a0_5 ∧ True) := by
  unfold laws_toPost.t laws_toPost.g
  have hm := Za
  have hlim : lim = 1048576 := rfl
  refine laws_toIsland.tm (fun i hi => hi) (laws_toIsland.T (by first | assumption | omega) (by first | assumption | omega) (by first | assumption | omega)) (fun y2 y3 y4 y5 hy1 => ?_)
  try simp only [] at hy1
  obtain ⟨rfl, rfl, rfl, rfl, _⟩ := hy1
  try simp only [ZF]
  exact Tm.ret (by exact ⟨by first | rfl | assumption, by first | rfl | assumption, by first | rfl | assumption, by first | rfl | assumption, by first | rfl | assumption, by first | rfl | assumption, trivial⟩)
theorem laws_toPostS.f_of {β : Type} {k : Nat} {a0 : List (List D)} {z0 : List (List C)} (h : laws_toPostS.t k a0 = some z0) (K : (List (List C)) → Option β) : laws_toPostS.f k a0 K = K z0 := by
  unfold laws_toPostS.f
  rw [h]
theorem laws_toPostS.tm {ι α : Type} {ok : ι → Prop} {ψ : α → Prop} {p : ι → Nat} {B : Nat} (hp : ∀ i, ok i → B ≤ p i) {a0 : List (List D)} {φ : (List (List C)) → Prop} (h : Tm (fun k => B ≤ k) (fun k => laws_toPostS.t k a0) φ) {G : ι → (List (List C)) → Option α} (hG : ∀ z0, φ z0 → Tm ok (fun ι0 => G ι0 z0) ψ) : Tm ok (fun ι0 => laws_toPostS.f (p ι0) a0 (G ι0)) ψ := by
  obtain ⟨z0, h1, h2⟩ := h
  exact (hG z0 h1).congr fun i0 hi0 => laws_toPostS.f_of (h2 (p i0) (hp i0 hi0)) _
theorem laws_toPostS.T {a0 : List (List D)} (ga0 : Zm Ye lim a0) : Tm Zar (fun k => laws_toPostS.t k a0) (fun z => z = Zs a0 ∧ True) := by
  unfold laws_toPostS.t laws_toPostS.g
  have hm := Za
  have hlim : lim = 1048576 := rfl
  have hlen := ga0.1
  refine Tm.guard (by first | omega | (simp only [lim, Za, Z6] at *; omega) | (simp only [lim, Z6] at *; refine ⟨?_, ?_, ?_, ?_⟩ <;> omega)) ?_
  refine Tm.loop (okk := Zar) (p := fun k => k) (fun i hi => hi) (b := fun k => laws_toPostS.l0 k a0 (fun z0 => some z0)) (fun v => match v with | (i, u1) => (((a0.length : Int)) - i).toNat) (fun v => match v with | (i, u1) => 0 ≤ i ∧ i ≤ (a0.length : Int) ∧ Zaw a0 ([.d (.str (⟨#[]⟩ : ByteArray)), .own ([] : List (List C)), .own ([] : List (List C)), .d (.int .i64 0), .d (.int .i64 0), .d (.int .i64 0)] : List C) i u1) ?_ ?_ ?_
  · rintro ⟨i, u1⟩ hI
    try simp only [] at hI ⊢
    have : big = 2 ^ 64 := rfl
    have := ga0.1
    simp only [lim] at this
    omega
  · exact ⟨by omega, by simp, Zaw.start _ _⟩
  · rintro ⟨i, u1⟩ hI L hL
    try simp only [] at hI
    obtain ⟨i0, i1, hF⟩ := hI
    have hFl := hF.len i1
    simp only [laws_toPostS.l0]
    refine Tm.ite (fun h1 => ?_) (fun h1 => ?_)
    · try simp only [bz0, bz1, bz2, bz3, bz4, bz5, bz6, bz7, bz8, bz9, bza] at h1
      refine Tm.atRow (by first | assumption | omega) (by first | assumption | omega) (fun x2 hx3 hm4 => ?_)
      obtain ⟨c5, c6, c7, c8, c9, c10, rfl, g11, g12, g13, g14, g15, g16, _⟩ := (ga0.2 x2 hm4).open
      refine Tm.uncons ?_
      refine Tm.dStr ?_
      refine Tm.uncons ?_
      refine Tm.dSl ?_
      refine Tm.uncons ?_
      refine Tm.dSl ?_
      refine Tm.uncons ?_
      refine Tm.dInt ?_
      refine Tm.uncons ?_
      refine Tm.dInt ?_
      refine Tm.uncons ?_
      refine Tm.dInt ?_
      refine Tm.atEnd ?_
      refine laws_toPost.tm (fun i hi => hi.1) (laws_toPost.T (by first | assumption | omega) (by first | assumption | omega) (by first | assumption | omega)) (fun y18 y19 y20 y21 y22 y23 hy17 => ?_)
      try simp only [] at hy17
      obtain ⟨rfl, rfl, rfl, rfl, rfl, rfl, _⟩ := hy17
      try simp only [ZF]
      refine Tm.guard (by first | omega | (simp only [lim, Za, Z6] at *; omega) | (simp only [lim, Z6] at *; refine ⟨?_, ?_, ?_, ?_⟩ <;> omega)) ?_
      refine Tm.guard (by first | omega | (simp only [lim, Za, Z6] at *; omega) | (simp only [lim, Z6] at *; refine ⟨?_, ?_, ?_, ?_⟩ <;> omega)) ?_
      try rw [ZC (x := i + 1) (by omega) (by omega)]
      refine hL (_, _) ⟨by omega, by omega, hF.next i0 hx3 rfl (by simp [Zal, deepD])⟩ (by (try simp only []); omega)
    · try simp only [bz0, bz1, bz2, bz3, bz4, bz5, bz6, bz7, bz8, bz9, bza] at h1
      exact Tm.ret (by exact ⟨hF.all (by omega), trivial⟩)
theorem laws_toHold.f_of {β : Type} {k : Nat} {a0_0 : Int} {a0_1 : ByteArray} {a0_2 : Int} {a0_3 : Int} {a0_4 : Int} {z0 : Int} {z1 : ByteArray} {z2 : Int} {z3 : Int} {z4 : Int} (h : laws_toHold.t k a0_0 a0_1 a0_2 a0_3 a0_4 = some (z0, z1, z2, z3, z4)) (K : Int → ByteArray → Int → Int → Int → Option β) : laws_toHold.f k a0_0 a0_1 a0_2 a0_3 a0_4 K = K z0 z1 z2 z3 z4 := by
  unfold laws_toHold.f
  rw [h]
theorem laws_toHold.tm {ι α : Type} {ok : ι → Prop} {ψ : α → Prop} {p : ι → Nat} {B : Nat} (hp : ∀ i, ok i → B ≤ p i) {a0_0 : Int} {a0_1 : ByteArray} {a0_2 : Int} {a0_3 : Int} {a0_4 : Int} {φ : Int × ByteArray × Int × Int × Int → Prop} (h : Tm (fun k => B ≤ k) (fun k => laws_toHold.t k a0_0 a0_1 a0_2 a0_3 a0_4) φ) {G : ι → Int → ByteArray → Int → Int → Int → Option α} (hG : ∀ z0 z1 z2 z3 z4, φ (z0, z1, z2, z3, z4) → Tm ok (fun ι0 => G ι0 z0 z1 z2 z3 z4) ψ) : Tm ok (fun ι0 => laws_toHold.f (p ι0) a0_0 a0_1 a0_2 a0_3 a0_4 (G ι0)) ψ := by
  obtain ⟨⟨z0, z1, z2, z3, z4⟩, h1, h2⟩ := h
  exact (hG z0 z1 z2 z3 z4 h1).congr fun i0 hi0 => laws_toHold.f_of (h2 (p i0) (hp i0 hi0)) _
theorem laws_toHold.T {a0_0 : Int} {a0_1 : ByteArray} {a0_2 : Int} {a0_3 : Int} {a0_4 : Int} (ga0_1 : a0_1.size ≤ lim) : Tm Zar (fun k => laws_toHold.t k a0_0 a0_1 a0_2 a0_3 a0_4) (fun z => z.1 = a0_0 ∧ z.2.1 = a0_1 ∧ z.2.2.1 = a0_2 ∧ z.2.2.2.1 = a0_3 ∧ z.2.2.2.2 = a0_4 ∧ True) := by
  unfold laws_toHold.t laws_toHold.g
  have hm := Za
  have hlim : lim = 1048576 := rfl
  exact Tm.ret (by exact ⟨by first | rfl | assumption, by first | rfl | assumption, by first | rfl | assumption, by first | rfl | assumption, by first | rfl | assumption, trivial⟩)
theorem laws_toHoldS.f_of {β : Type} {k : Nat} {a0 : List (List D)} {z0 : List (List C)} (h : laws_toHoldS.t k a0 = some z0) (K : (List (List C)) → Option β) : laws_toHoldS.f k a0 K = K z0 := by
  unfold laws_toHoldS.f
  rw [h]
theorem laws_toHoldS.tm {ι α : Type} {ok : ι → Prop} {ψ : α → Prop} {p : ι → Nat} {B : Nat} (hp : ∀ i, ok i → B ≤ p i) {a0 : List (List D)} {φ : (List (List C)) → Prop} (h : Tm (fun k => B ≤ k) (fun k => laws_toHoldS.t k a0) φ) {G : ι → (List (List C)) → Option α} (hG : ∀ z0, φ z0 → Tm ok (fun ι0 => G ι0 z0) ψ) : Tm ok (fun ι0 => laws_toHoldS.f (p ι0) a0 (G ι0)) ψ := by
  obtain ⟨z0, h1, h2⟩ := h
  exact (hG z0 h1).congr fun i0 hi0 => laws_toHoldS.f_of (h2 (p i0) (hp i0 hi0)) _
theorem laws_toHoldS.T {a0 : List (List D)} (ga0 : Zm Yg lim a0) : Tm Zar (fun k => laws_toHoldS.t k a0) (fun z => z = Zs a0 ∧ True) := by
  unfold laws_toHoldS.t laws_toHoldS.g
  have hm := Za
  have hlim : lim = 1048576 := rfl
  have hlen := ga0.1
  refine Tm.guard (by first | omega | (simp only [lim, Za, Z6] at *; omega) | (simp only [lim, Z6] at *; refine ⟨?_, ?_, ?_, ?_⟩ <;> omega)) ?_
  refine Tm.loop (okk := Zar) (p := fun k => k) (fun i hi => hi) (b := fun k => laws_toHoldS.l0 k a0 (fun z0 => some z0)) (fun v => match v with | (i, u1) => (((a0.length : Int)) - i).toNat) (fun v => match v with | (i, u1) => 0 ≤ i ∧ i ≤ (a0.length : Int) ∧ Zaw a0 ([.d (.int .i64 0), .d (.str (⟨#[]⟩ : ByteArray)), .d (.int .i64 0), .d (.int .i64 0), .d (.int .i64 0)] : List C) i u1) ?_ ?_ ?_
  · rintro ⟨i, u1⟩ hI
    try simp only [] at hI ⊢
    have : big = 2 ^ 64 := rfl
    have := ga0.1
    simp only [lim] at this
    omega
  · exact ⟨by omega, by simp, Zaw.start _ _⟩
  · rintro ⟨i, u1⟩ hI L hL
    try simp only [] at hI
    obtain ⟨i0, i1, hF⟩ := hI
    have hFl := hF.len i1
    simp only [laws_toHoldS.l0]
    refine Tm.ite (fun h1 => ?_) (fun h1 => ?_)
    · try simp only [bz0, bz1, bz2, bz3, bz4, bz5, bz6, bz7, bz8, bz9, bza] at h1
      refine Tm.atRow (by first | assumption | omega) (by first | assumption | omega) (fun x2 hx3 hm4 => ?_)
      obtain ⟨c5, c6, c7, c8, c9, rfl, g10, g11, g12, g13, g14, _⟩ := (ga0.2 x2 hm4).open
      refine Tm.uncons ?_
      refine Tm.dInt ?_
      refine Tm.uncons ?_
      refine Tm.dStr ?_
      refine Tm.uncons ?_
      refine Tm.dInt ?_
      refine Tm.uncons ?_
      refine Tm.dInt ?_
      refine Tm.uncons ?_
      refine Tm.dInt ?_
      refine Tm.atEnd ?_
      refine laws_toHold.tm (fun i hi => hi.1) (laws_toHold.T (by first | assumption | omega)) (fun y16 y17 y18 y19 y20 hy15 => ?_)
      try simp only [] at hy15
      obtain ⟨rfl, rfl, rfl, rfl, rfl, _⟩ := hy15
      try simp only [ZF]
      refine Tm.guard (by first | omega | (simp only [lim, Za, Z6] at *; omega) | (simp only [lim, Z6] at *; refine ⟨?_, ?_, ?_, ?_⟩ <;> omega)) ?_
      refine Tm.guard (by first | omega | (simp only [lim, Za, Z6] at *; omega) | (simp only [lim, Z6] at *; refine ⟨?_, ?_, ?_, ?_⟩ <;> omega)) ?_
      try rw [ZC (x := i + 1) (by omega) (by omega)]
      refine hL (_, _) ⟨by omega, by omega, hF.next i0 hx3 rfl (by simp [Zal, deepD])⟩ (by (try simp only []); omega)
    · try simp only [bz0, bz1, bz2, bz3, bz4, bz5, bz6, bz7, bz8, bz9, bza] at h1
      exact Tm.ret (by exact ⟨hF.all (by omega), trivial⟩)
theorem laws_toHub.f_of {β : Type} {k : Nat} {a0_0 : Int} {a0_1 : Int} {a0_2 : Int} {a0_3 : List (List D)} {a0_4 : List (List D)} {a0_5 : List (List D)} {a0_6 : List (List D)} {z0 : Int} {z1 : Int} {z2 : Int} {z3 : List (List C)} {z4 : List (List C)} {z5 : List (List C)} {z6 : List (List C)} (h : laws_toHub.t k a0_0 a0_1 a0_2 a0_3 a0_4 a0_5 a0_6 = some (z0, z1, z2, z3, z4, z5, z6)) (K : Int → Int → Int → (List (List C)) → (List (List C)) → (List (List C)) → (List (List C)) → Option β) : laws_toHub.f k a0_0 a0_1 a0_2 a0_3 a0_4 a0_5 a0_6 K = K z0 z1 z2 z3 z4 z5 z6 := by
  unfold laws_toHub.f
  rw [h]
theorem laws_toHub.tm {ι α : Type} {ok : ι → Prop} {ψ : α → Prop} {p : ι → Nat} {B : Nat} (hp : ∀ i, ok i → B ≤ p i) {a0_0 : Int} {a0_1 : Int} {a0_2 : Int} {a0_3 : List (List D)} {a0_4 : List (List D)} {a0_5 : List (List D)} {a0_6 : List (List D)} {φ : Int × Int × Int × (List (List C)) × (List (List C)) × (List (List C)) × (List (List C)) → Prop} (h : Tm (fun k => B ≤ k) (fun k => laws_toHub.t k a0_0 a0_1 a0_2 a0_3 a0_4 a0_5 a0_6) φ) {G : ι → Int → Int → Int → (List (List C)) → (List (List C)) → (List (List C)) → (List (List C)) → Option α} (hG : ∀ z0 z1 z2 z3 z4 z5 z6, φ (z0, z1, z2, z3, z4, z5, z6) → Tm ok (fun ι0 => G ι0 z0 z1 z2 z3 z4 z5 z6) ψ) : Tm ok (fun ι0 => laws_toHub.f (p ι0) a0_0 a0_1 a0_2 a0_3 a0_4 a0_5 a0_6 (G ι0)) ψ := by
  obtain ⟨⟨z0, z1, z2, z3, z4, z5, z6⟩, h1, h2⟩ := h
  exact (hG z0 z1 z2 z3 z4 z5 z6 h1).congr fun i0 hi0 => laws_toHub.f_of (h2 (p i0) (hp i0 hi0)) _
theorem laws_toHub.T {a0_0 : Int} {a0_1 : Int} {a0_2 : Int} {a0_3 : List (List D)} {a0_4 : List (List D)} {a0_5 : List (List D)} {a0_6 : List (List D)} (ga0_3 : Zm Ya lim a0_3) (ga0_4 : Zm Ye lim a0_4) (ga0_5 : Zm Yg lim a0_5) (ga0_6 : Zm RS lim a0_6) : Tm (Zay 1) (fun k => laws_toHub.t k a0_0 a0_1 a0_2 a0_3 a0_4 a0_5 a0_6) (fun z => z.1 = a0_0 ∧ z.2.1 = a0_1 ∧ z.2.2.1 = a0_2 ∧ z.2.2.2.1 = Zs a0_3 ∧ z.2.2.2.2.1 = Zs a0_4 ∧ z.2.2.2.2.2.1 = Zs a0_5 ∧ z.2.2.2.2.2.2 = Zs a0_6 ∧ True) := by
  unfold laws_toHub.t laws_toHub.g
  have hm := Za
  have hlim : lim = 1048576 := rfl
  refine laws_toJobS.tm (fun i hi => hi) (laws_toJobS.T (by first | assumption | omega)) (fun y2 hy1 => ?_)
  try simp only [] at hy1
  obtain ⟨rfl, _⟩ := hy1
  try simp only [ZF]
  refine laws_toPostS.tm (fun i hi => up0 hi) (laws_toPostS.T (by first | assumption | omega)) (fun y4 hy3 => ?_)
  try simp only [] at hy3
  obtain ⟨rfl, _⟩ := hy3
  try simp only [ZF]
  refine laws_toHoldS.tm (fun i hi => up0 hi) (laws_toHoldS.T (by first | assumption | omega)) (fun y6 hy5 => ?_)
  try simp only [] at hy5
  obtain ⟨rfl, _⟩ := hy5
  try simp only [ZF]
  refine laws_toStringS.tm (fun i hi => up0 hi) (laws_toStringS.T (by first | assumption | omega)) (fun y8 hy7 => ?_)
  try simp only [] at hy7
  obtain ⟨rfl, _⟩ := hy7
  try simp only [ZF]
  exact Tm.ret (by exact ⟨by first | rfl | assumption, by first | rfl | assumption, by first | rfl | assumption, by first | rfl | assumption, by first | rfl | assumption, by first | rfl | assumption, by first | rfl | assumption, trivial⟩)
theorem spec_Running.f_of {β : Type} {k : Nat} {a0_0 : Int} {a0_1 : Int} {a0_2 : Int} {a0_3 : List (List D)} {a0_4 : List (List D)} {a0_5 : List (List D)} {a0_6 : List (List D)} {a1 : Int} {z0 : Int} (h : spec_Running.t k a0_0 a0_1 a0_2 a0_3 a0_4 a0_5 a0_6 a1 = some z0) (K : Int → Option β) : spec_Running.f k a0_0 a0_1 a0_2 a0_3 a0_4 a0_5 a0_6 a1 K = K z0 := by
  unfold spec_Running.f
  rw [h]
theorem spec_Running.tm {ι α : Type} {ok : ι → Prop} {ψ : α → Prop} {p : ι → Nat} {B : Nat} (hp : ∀ i, ok i → B ≤ p i) {a0_0 : Int} {a0_1 : Int} {a0_2 : Int} {a0_3 : List (List D)} {a0_4 : List (List D)} {a0_5 : List (List D)} {a0_6 : List (List D)} {a1 : Int} {φ : Int → Prop} (h : Tm (fun k => B ≤ k) (fun k => spec_Running.t k a0_0 a0_1 a0_2 a0_3 a0_4 a0_5 a0_6 a1) φ) {G : ι → Int → Option α} (hG : ∀ z0, φ z0 → Tm ok (fun ι0 => G ι0 z0) ψ) : Tm ok (fun ι0 => spec_Running.f (p ι0) a0_0 a0_1 a0_2 a0_3 a0_4 a0_5 a0_6 a1 (G ι0)) ψ := by
  obtain ⟨z0, h1, h2⟩ := h
  exact (hG z0 h1).congr fun i0 hi0 => spec_Running.f_of (h2 (p i0) (hp i0 hi0)) _
theorem spec_Running.T {a0_0 : Int} {a0_1 : Int} {a0_2 : Int} {a0_3 : List (List D)} {a0_4 : List (List D)} {a0_5 : List (List D)} {a0_6 : List (List D)} {a1 : Int} (ga0_3 : Zm Ya lim a0_3) (ga0_4 : Zm Ye lim a0_4) (ga0_5 : Zm Yg lim a0_5) (ga0_6 : Zm RS lim a0_6) : Tm Zar (fun k => spec_Running.t k a0_0 a0_1 a0_2 a0_3 a0_4 a0_5 a0_6 a1) (fun _ => True) := by
  unfold spec_Running.t spec_Running.g
  have hm := Za
  have hlim : lim = 1048576 := rfl
  have la0_3 := ga0_3.1
  have la0_4 := ga0_4.1
  have la0_5 := ga0_5.1
  have la0_6 := ga0_6.1
  refine Tm.loop (okk := Zar) (p := fun k => k) (fun i hi => hi) (b := fun k => spec_Running.l0 k a1 a0_0 a0_1 a0_2 a0_3 a0_4 a0_5 a0_6 (fun z0 => some z0)) (fun v => match v with | (u0, i) => (((a0_5.length : Int)) - i).toNat) (fun v => match v with | (u0, i) => 0 ≤ i ∧ i ≤ (a0_5.length : Int)) ?_ ?_ ?_
  · rintro ⟨u0, i⟩ hI
    try simp only [] at hI ⊢
    have : big = 2 ^ 64 := rfl
    omega
  · ((try simp only []); omega)
  · rintro ⟨u0, i⟩ hI L hL
    try simp only [] at hI
    obtain ⟨i0, i1⟩ := hI
    simp only [spec_Running.l0]
    refine Tm.ite (fun h1 => ?_) (fun h1 => ?_)
    · try simp only [bz0, bz1, bz2, bz3, bz4, bz5, bz6, bz7, bz8, bz9, bza] at h1
      refine Tm.atRow (by first | assumption | omega) (by first | assumption | omega) (fun x2 hx3 hm4 => ?_)
      obtain ⟨c5, c6, c7, c8, c9, rfl, g10, g11, g12, g13, g14, _⟩ := (ga0_5.2 x2 hm4).open
      refine Tm.uncons ?_
      refine Tm.dInt ?_
      refine Tm.uncons ?_
      refine Tm.dStr ?_
      refine Tm.uncons ?_
      refine Tm.dInt ?_
      refine Tm.uncons ?_
      refine Tm.dInt ?_
      refine Tm.uncons ?_
      refine Tm.dInt ?_
      refine Tm.atEnd ?_
      refine Tm.ite (fun h15 => ?_) (fun h15 => ?_)
      · try simp only [bz0, bz1, bz2, bz3, bz4, bz5, bz6, bz7, bz8, bz9, bza] at h15
        refine Tm.atRow (by first | assumption | omega) (by first | assumption | omega) (fun x16 hx17 hm18 => ?_)
        rw [hx3] at hx17
        injection hx17 with hx17
        subst hx17
        refine Tm.uncons ?_
        refine Tm.dInt ?_
        refine Tm.uncons ?_
        refine Tm.dStr ?_
        refine Tm.uncons ?_
        refine Tm.dInt ?_
        refine Tm.uncons ?_
        refine Tm.dInt ?_
        refine Tm.uncons ?_
        refine Tm.dInt ?_
        refine Tm.atEnd ?_
        try rw [ZC (x := u0 + c8) (by omega) (by omega)]
        try rw [ZC (x := i + 1) (by omega) (by omega)]
        exact hL _ (by (try simp only []); omega) (by (try simp only []); omega)
      · try simp only [bz0, bz1, bz2, bz3, bz4, bz5, bz6, bz7, bz8, bz9, bza] at h15
        try rw [ZC (x := i + 1) (by omega) (by omega)]
        exact hL _ (by (try simp only []); omega) (by (try simp only []); omega)
    · try simp only [bz0, bz1, bz2, bz3, bz4, bz5, bz6, bz7, bz8, bz9, bza] at h1
      exact Tm.ret (by trivial)
noncomputable def spec_Running.v (a0_0 : Int) (a0_1 : Int) (a0_2 : Int) (a0_3 : List (List D)) (a0_4 : List (List D)) (a0_5 : List (List D)) (a0_6 : List (List D)) (a1 : Int) : Int := (spec_Running.t big a0_0 a0_1 a0_2 a0_3 a0_4 a0_5 a0_6 a1).getD default
theorem spec_Running.tv {a0_0 : Int} {a0_1 : Int} {a0_2 : Int} {a0_3 : List (List D)} {a0_4 : List (List D)} {a0_5 : List (List D)} {a0_6 : List (List D)} {a1 : Int} (ga0_3 : Zm Ya lim a0_3) (ga0_4 : Zm Ye lim a0_4) (ga0_5 : Zm Yg lim a0_5) (ga0_6 : Zm RS lim a0_6) {k : Nat} (hk : Zar k) : spec_Running.t k a0_0 a0_1 a0_2 a0_3 a0_4 a0_5 a0_6 a1 = some (spec_Running.v a0_0 a0_1 a0_2 a0_3 a0_4 a0_5 a0_6 a1) := (spec_Running.T ga0_3 ga0_4 ga0_5 ga0_6).val hk
theorem spec_Running.fv {a0_0 : Int} {a0_1 : Int} {a0_2 : Int} {a0_3 : List (List D)} {a0_4 : List (List D)} {a0_5 : List (List D)} {a0_6 : List (List D)} {a1 : Int} (ga0_3 : Zm Ya lim a0_3) (ga0_4 : Zm Ye lim a0_4) (ga0_5 : Zm Yg lim a0_5) (ga0_6 : Zm RS lim a0_6) {k : Nat} (hk : Zar k) {β : Type} (K : Int → Option β) : spec_Running.f k a0_0 a0_1 a0_2 a0_3 a0_4 a0_5 a0_6 a1 K = K (spec_Running.v a0_0 a0_1 a0_2 a0_3 a0_4 a0_5 a0_6 a1) := spec_Running.f_of (spec_Running.tv ga0_3 ga0_4 ga0_5 ga0_6 hk) K
theorem impl_Running.f_of {β : Type} {k : Nat} {a0_0 : Int} {a0_1 : Int} {a0_2 : Int} {a0_3 : List (List D)} {a0_4 : List (List D)} {a0_5 : List (List D)} {a0_6 : List (List D)} {a1 : Int} {z0 : Int} (h : impl_Running.t k a0_0 a0_1 a0_2 a0_3 a0_4 a0_5 a0_6 a1 = some z0) (K : Int → Option β) : impl_Running.f k a0_0 a0_1 a0_2 a0_3 a0_4 a0_5 a0_6 a1 K = K z0 := by
  unfold impl_Running.f
  rw [h]
theorem impl_Running.tm {ι α : Type} {ok : ι → Prop} {ψ : α → Prop} {p : ι → Nat} {B : Nat} (hp : ∀ i, ok i → B ≤ p i) {a0_0 : Int} {a0_1 : Int} {a0_2 : Int} {a0_3 : List (List D)} {a0_4 : List (List D)} {a0_5 : List (List D)} {a0_6 : List (List D)} {a1 : Int} {φ : Int → Prop} (h : Tm (fun k => B ≤ k) (fun k => impl_Running.t k a0_0 a0_1 a0_2 a0_3 a0_4 a0_5 a0_6 a1) φ) {G : ι → Int → Option α} (hG : ∀ z0, φ z0 → Tm ok (fun ι0 => G ι0 z0) ψ) : Tm ok (fun ι0 => impl_Running.f (p ι0) a0_0 a0_1 a0_2 a0_3 a0_4 a0_5 a0_6 a1 (G ι0)) ψ := by
  obtain ⟨z0, h1, h2⟩ := h
  exact (hG z0 h1).congr fun i0 hi0 => impl_Running.f_of (h2 (p i0) (hp i0 hi0)) _
theorem impl_Running.same {a0_0 a0_1 a0_2 : Int} {a0_3 a0_4 a0_5 a0_6 : List (List D)} {a1 : Int} (ga0_3 : Zm Ya lim a0_3) (ga0_4 : Zm Ye lim a0_4) (g5 : Zm Yg lim a0_5) (ga0_6 : Zm RS lim a0_6) {k : Nat} (hk : Zar k) : impl_Running.t k a0_0 a0_1 a0_2 a0_3 a0_4 a0_5 a0_6 a1 = spec_Running.t k a0_0 a0_1 a0_2 a0_3 a0_4 a0_5 a0_6 a1 := by
  unfold impl_Running.t spec_Running.t impl_Running.g spec_Running.g
  refine congrArg (fun b => Z4 b k (0, 0)) (funext fun L => funext fun v => ?_)
  obtain ⟨u, i⟩ := v
  simp only [impl_Running.l0, spec_Running.l0]
  refine bif_congr (fun h => ?_) (fun _ => rfl)
  by_cases h0 : 0 ≤ i ∧ i < a0_5.length
  · obtain ⟨h0, h1⟩ := h0
    simp (disch := omega) only [Yg.row g5, uncons_at, dStr_at, dInt_self, atEnd_at]
  · simp only [atRow_none h0]
theorem laws_eqStringS.f_of {β : Type} {k : Nat} {a0 : List (List D)} {a1 : List (List D)} {z0 : Bool} (h : laws_eqStringS.t k a0 a1 = some z0) (K : Bool → Option β) : laws_eqStringS.f k a0 a1 K = K z0 := by
  unfold laws_eqStringS.f
  rw [h]
theorem laws_eqStringS.tm {ι α : Type} {ok : ι → Prop} {ψ : α → Prop} {p : ι → Nat} {B : Nat} (hp : ∀ i, ok i → B ≤ p i) {a0 : List (List D)} {a1 : List (List D)} {φ : Bool → Prop} (h : Tm (fun k => B ≤ k) (fun k => laws_eqStringS.t k a0 a1) φ) {G : ι → Bool → Option α} (hG : ∀ z0, φ z0 → Tm ok (fun ι0 => G ι0 z0) ψ) : Tm ok (fun ι0 => laws_eqStringS.f (p ι0) a0 a1 (G ι0)) ψ := by
  obtain ⟨z0, h1, h2⟩ := h
  exact (hG z0 h1).congr fun i0 hi0 => laws_eqStringS.f_of (h2 (p i0) (hp i0 hi0)) _
theorem laws_eqStringS.T {B : Nat} {a0 : List (List D)} (ga0 : Zm RS B a0) (hB : B ≤ 1099511627776) : Tm Zar (fun k => laws_eqStringS.t k a0 a0) (fun r => r = true) := by
  unfold laws_eqStringS.t laws_eqStringS.g
  have hm := Za
  have hlim : lim = 1048576 := rfl
  have hlen := ga0.1
  refine Tm.ite (fun h1 => ?_) (fun h1 => ?_)
  · try simp only [bz0, bz1, bz2, bz3, bz4, bz5, bz6, bz7, bz8, bz9, bza] at h1
    exact Tm.ret (by first | rfl | (exfalso; simp [Zi] at *))
  · try simp only [bz0, bz1, bz2, bz3, bz4, bz5, bz6, bz7, bz8, bz9, bza] at h1
    refine Tm.loop (okk := Zar) (p := fun k => k) (fun i hi => hi) (b := fun k => laws_eqStringS.l0 k a0 a0 (fun z0 => some z0)) (fun i => (((a0.length : Int)) - i).toNat) (fun i => 0 ≤ i ∧ i ≤ (a0.length : Int)) ?_ ?_ ?_
    · rintro i hI
      try simp only [] at hI ⊢
      have : big = 2 ^ 64 := rfl
      have := ga0.1
      omega
    · ((try simp only []); omega)
    · rintro i hI L hL
      try simp only [] at hI
      obtain ⟨i0, i1⟩ := hI
      simp only [laws_eqStringS.l0]
      refine Tm.ite (fun h2 => ?_) (fun h2 => ?_)
      · try simp only [bz0, bz1, bz2, bz3, bz4, bz5, bz6, bz7, bz8, bz9, bza] at h2
        refine Tm.atRow (by first | assumption | omega) (by first | assumption | omega) (fun x3 hx4 hm5 => ?_)
        obtain ⟨c6, rfl, g7, _⟩ := (ga0.2 x3 hm5).open
        refine Tm.uncons ?_
        refine Tm.dStr ?_
        refine Tm.atEnd ?_
        refine Tm.atRow (by first | assumption | omega) (by first | assumption | omega) (fun x8 hx9 hm10 => ?_)
        rw [hx4] at hx9
        injection hx9 with hx9
        subst hx9
        refine Tm.uncons ?_
        refine Tm.dStr ?_
        refine Tm.atEnd ?_
        refine Tm.ite (fun h12 => ?_) (fun h12 => ?_)
        · try simp only [bz0, bz1, bz2, bz3, bz4, bz5, bz6, bz7, bz8, bz9, bza] at h12
          exact Tm.ret (by first | rfl | (exfalso; simp [Zi] at *))
        · try simp only [bz0, bz1, bz2, bz3, bz4, bz5, bz6, bz7, bz8, bz9, bza] at h12
          try rw [ZC (x := i + 1) (by omega) (by omega)]
          exact hL _ (by (try simp only []); omega) (by (try simp only []); omega)
      · try simp only [bz0, bz1, bz2, bz3, bz4, bz5, bz6, bz7, bz8, bz9, bza] at h2
        exact Tm.ret (by first | rfl | (exfalso; simp [Zi] at *))
theorem laws_eqTerm.f_of {β : Type} {k : Nat} {a0_0 : Int} {a0_1 : ByteArray} {a0_2 : List (List D)} {a1_0 : Int} {a1_1 : ByteArray} {a1_2 : List (List D)} {z0 : Bool} (h : laws_eqTerm.t k a0_0 a0_1 a0_2 a1_0 a1_1 a1_2 = some z0) (K : Bool → Option β) : laws_eqTerm.f k a0_0 a0_1 a0_2 a1_0 a1_1 a1_2 K = K z0 := by
  unfold laws_eqTerm.f
  rw [h]
theorem laws_eqTerm.tm {ι α : Type} {ok : ι → Prop} {ψ : α → Prop} {p : ι → Nat} {B : Nat} (hp : ∀ i, ok i → B ≤ p i) {a0_0 : Int} {a0_1 : ByteArray} {a0_2 : List (List D)} {a1_0 : Int} {a1_1 : ByteArray} {a1_2 : List (List D)} {φ : Bool → Prop} (h : Tm (fun k => B ≤ k) (fun k => laws_eqTerm.t k a0_0 a0_1 a0_2 a1_0 a1_1 a1_2) φ) {G : ι → Bool → Option α} (hG : ∀ z0, φ z0 → Tm ok (fun ι0 => G ι0 z0) ψ) : Tm ok (fun ι0 => laws_eqTerm.f (p ι0) a0_0 a0_1 a0_2 a1_0 a1_1 a1_2 (G ι0)) ψ := by
  obtain ⟨z0, h1, h2⟩ := h
  exact (hG z0 h1).congr fun i0 hi0 => laws_eqTerm.f_of (h2 (p i0) (hp i0 hi0)) _
theorem laws_eqTerm.T {B : Nat} {a0_0 : Int} {a0_1 : ByteArray} {a0_2 : List (List D)} (ga0_1 : a0_1.size ≤ B) (ga0_2 : Zm RS B a0_2) (hB : B ≤ 1099511627776) : Tm Zar (fun k => laws_eqTerm.t k a0_0 a0_1 a0_2 a0_0 a0_1 a0_2) (fun r => r = true) := by
  unfold laws_eqTerm.t laws_eqTerm.g
  have hm := Za
  have hlim : lim = 1048576 := rfl
  refine Tm.ite (fun h1 => ?_) (fun h1 => ?_)
  · try simp only [bz0, bz1, bz2, bz3, bz4, bz5, bz6, bz7, bz8, bz9, bza] at h1
    exact Tm.ret (by first | rfl | (exfalso; simp [Zi] at *))
  · try simp only [bz0, bz1, bz2, bz3, bz4, bz5, bz6, bz7, bz8, bz9, bza] at h1
    refine Tm.ite (fun h2 => ?_) (fun h2 => ?_)
    · try simp only [bz0, bz1, bz2, bz3, bz4, bz5, bz6, bz7, bz8, bz9, bza] at h2
      exact Tm.ret (by first | rfl | (exfalso; simp [Zi] at *))
    · try simp only [bz0, bz1, bz2, bz3, bz4, bz5, bz6, bz7, bz8, bz9, bza] at h2
      refine laws_eqStringS.tm (fun i hi => hi) (laws_eqStringS.T (by first | assumption | omega) (by first | assumption | omega)) (fun y4 hy3 => ?_)
      subst hy3
      refine Tm.ite (fun h5 => ?_) (fun h5 => ?_)
      · try simp only [bz0, bz1, bz2, bz3, bz4, bz5, bz6, bz7, bz8, bz9, bza] at h5
        exact Tm.ret (by first | rfl | (exfalso; simp [Zi] at *))
      · try simp only [bz0, bz1, bz2, bz3, bz4, bz5, bz6, bz7, bz8, bz9, bza] at h5
        exact Tm.ret (by first | rfl | (exfalso; simp [Zi] at *))
theorem laws_eqTermS.f_of {β : Type} {k : Nat} {a0 : List (List D)} {a1 : List (List D)} {z0 : Bool} (h : laws_eqTermS.t k a0 a1 = some z0) (K : Bool → Option β) : laws_eqTermS.f k a0 a1 K = K z0 := by
  unfold laws_eqTermS.f
  rw [h]
theorem laws_eqTermS.tm {ι α : Type} {ok : ι → Prop} {ψ : α → Prop} {p : ι → Nat} {B : Nat} (hp : ∀ i, ok i → B ≤ p i) {a0 : List (List D)} {a1 : List (List D)} {φ : Bool → Prop} (h : Tm (fun k => B ≤ k) (fun k => laws_eqTermS.t k a0 a1) φ) {G : ι → Bool → Option α} (hG : ∀ z0, φ z0 → Tm ok (fun ι0 => G ι0 z0) ψ) : Tm ok (fun ι0 => laws_eqTermS.f (p ι0) a0 a1 (G ι0)) ψ := by
  obtain ⟨z0, h1, h2⟩ := h
  exact (hG z0 h1).congr fun i0 hi0 => laws_eqTermS.f_of (h2 (p i0) (hp i0 hi0)) _
theorem laws_eqTermS.T {B : Nat} {a0 : List (List D)} (ga0 : Zm Yh B a0) (hB : B ≤ 1099511627776) : Tm Zar (fun k => laws_eqTermS.t k a0 a0) (fun r => r = true) := by
  unfold laws_eqTermS.t laws_eqTermS.g
  have hm := Za
  have hlim : lim = 1048576 := rfl
  have hlen := ga0.1
  refine Tm.ite (fun h1 => ?_) (fun h1 => ?_)
  · try simp only [bz0, bz1, bz2, bz3, bz4, bz5, bz6, bz7, bz8, bz9, bza] at h1
    exact Tm.ret (by first | rfl | (exfalso; simp [Zi] at *))
  · try simp only [bz0, bz1, bz2, bz3, bz4, bz5, bz6, bz7, bz8, bz9, bza] at h1
    refine Tm.loop (okk := Zar) (p := fun k => k) (fun i hi => hi) (b := fun k => laws_eqTermS.l0 k a0 a0 (fun z0 => some z0)) (fun i => (((a0.length : Int)) - i).toNat) (fun i => 0 ≤ i ∧ i ≤ (a0.length : Int)) ?_ ?_ ?_
    · rintro i hI
      try simp only [] at hI ⊢
      have : big = 2 ^ 64 := rfl
      have := ga0.1
      omega
    · ((try simp only []); omega)
    · rintro i hI L hL
      try simp only [] at hI
      obtain ⟨i0, i1⟩ := hI
      simp only [laws_eqTermS.l0]
      refine Tm.ite (fun h2 => ?_) (fun h2 => ?_)
      · try simp only [bz0, bz1, bz2, bz3, bz4, bz5, bz6, bz7, bz8, bz9, bza] at h2
        refine Tm.atRow (by first | assumption | omega) (by first | assumption | omega) (fun x3 hx4 hm5 => ?_)
        obtain ⟨c6, c7, c8, rfl, g9, g10, g11, _⟩ := (ga0.2 x3 hm5).open
        refine Tm.uncons ?_
        refine Tm.dInt ?_
        refine Tm.uncons ?_
        refine Tm.dStr ?_
        refine Tm.uncons ?_
        refine Tm.dSl ?_
        refine Tm.atEnd ?_
        refine Tm.atRow (by first | assumption | omega) (by first | assumption | omega) (fun x12 hx13 hm14 => ?_)
        rw [hx4] at hx13
        injection hx13 with hx13
        subst hx13
        refine Tm.uncons ?_
        refine Tm.dInt ?_
        refine Tm.uncons ?_
        refine Tm.dStr ?_
        refine Tm.uncons ?_
        refine Tm.dSl ?_
        refine Tm.atEnd ?_
        refine laws_eqTerm.tm (fun i hi => hi.1) (laws_eqTerm.T (by first | assumption | omega) (by first | assumption | omega) (by first | assumption | omega)) (fun y19 hy18 => ?_)
        subst hy18
        refine Tm.ite (fun h20 => ?_) (fun h20 => ?_)
        · try simp only [bz0, bz1, bz2, bz3, bz4, bz5, bz6, bz7, bz8, bz9, bza] at h20
          exact Tm.ret (by first | rfl | (exfalso; simp [Zi] at *))
        · try simp only [bz0, bz1, bz2, bz3, bz4, bz5, bz6, bz7, bz8, bz9, bza] at h20
          try rw [ZC (x := i + 1) (by omega) (by omega)]
          exact hL _ (by (try simp only []); omega) (by (try simp only []); omega)
      · try simp only [bz0, bz1, bz2, bz3, bz4, bz5, bz6, bz7, bz8, bz9, bza] at h2
        exact Tm.ret (by first | rfl | (exfalso; simp [Zi] at *))
theorem laws_eqWeigh.f_of {β : Type} {k : Nat} {a0_0 : ByteArray} {a0_1 : Int} {a1_0 : ByteArray} {a1_1 : Int} {z0 : Bool} (h : laws_eqWeigh.t k a0_0 a0_1 a1_0 a1_1 = some z0) (K : Bool → Option β) : laws_eqWeigh.f k a0_0 a0_1 a1_0 a1_1 K = K z0 := by
  unfold laws_eqWeigh.f
  rw [h]
theorem laws_eqWeigh.tm {ι α : Type} {ok : ι → Prop} {ψ : α → Prop} {p : ι → Nat} {B : Nat} (hp : ∀ i, ok i → B ≤ p i) {a0_0 : ByteArray} {a0_1 : Int} {a1_0 : ByteArray} {a1_1 : Int} {φ : Bool → Prop} (h : Tm (fun k => B ≤ k) (fun k => laws_eqWeigh.t k a0_0 a0_1 a1_0 a1_1) φ) {G : ι → Bool → Option α} (hG : ∀ z0, φ z0 → Tm ok (fun ι0 => G ι0 z0) ψ) : Tm ok (fun ι0 => laws_eqWeigh.f (p ι0) a0_0 a0_1 a1_0 a1_1 (G ι0)) ψ := by
  obtain ⟨z0, h1, h2⟩ := h
  exact (hG z0 h1).congr fun i0 hi0 => laws_eqWeigh.f_of (h2 (p i0) (hp i0 hi0)) _
theorem laws_eqWeigh.T {B : Nat} {a0_0 : ByteArray} {a0_1 : Int} (ga0_0 : a0_0.size ≤ B) (hB : B ≤ 1099511627776) : Tm Zar (fun k => laws_eqWeigh.t k a0_0 a0_1 a0_0 a0_1) (fun r => r = true) := by
  unfold laws_eqWeigh.t laws_eqWeigh.g
  have hm := Za
  have hlim : lim = 1048576 := rfl
  refine Tm.ite (fun h1 => ?_) (fun h1 => ?_)
  · try simp only [bz0, bz1, bz2, bz3, bz4, bz5, bz6, bz7, bz8, bz9, bza] at h1
    exact Tm.ret (by first | rfl | (exfalso; simp [Zi] at *))
  · try simp only [bz0, bz1, bz2, bz3, bz4, bz5, bz6, bz7, bz8, bz9, bza] at h1
    refine Tm.ite (fun h2 => ?_) (fun h2 => ?_)
    · try simp only [bz0, bz1, bz2, bz3, bz4, bz5, bz6, bz7, bz8, bz9, bza] at h2
      exact Tm.ret (by first | rfl | (exfalso; simp [Zi] at *))
    · try simp only [bz0, bz1, bz2, bz3, bz4, bz5, bz6, bz7, bz8, bz9, bza] at h2
      exact Tm.ret (by first | rfl | (exfalso; simp [Zi] at *))
theorem laws_eqWeighS.f_of {β : Type} {k : Nat} {a0 : List (List D)} {a1 : List (List D)} {z0 : Bool} (h : laws_eqWeighS.t k a0 a1 = some z0) (K : Bool → Option β) : laws_eqWeighS.f k a0 a1 K = K z0 := by
  unfold laws_eqWeighS.f
  rw [h]
theorem laws_eqWeighS.tm {ι α : Type} {ok : ι → Prop} {ψ : α → Prop} {p : ι → Nat} {B : Nat} (hp : ∀ i, ok i → B ≤ p i) {a0 : List (List D)} {a1 : List (List D)} {φ : Bool → Prop} (h : Tm (fun k => B ≤ k) (fun k => laws_eqWeighS.t k a0 a1) φ) {G : ι → Bool → Option α} (hG : ∀ z0, φ z0 → Tm ok (fun ι0 => G ι0 z0) ψ) : Tm ok (fun ι0 => laws_eqWeighS.f (p ι0) a0 a1 (G ι0)) ψ := by
  obtain ⟨z0, h1, h2⟩ := h
  exact (hG z0 h1).congr fun i0 hi0 => laws_eqWeighS.f_of (h2 (p i0) (hp i0 hi0)) _
theorem laws_eqWeighS.T {B : Nat} {a0 : List (List D)} (ga0 : Zm RSI B a0) (hB : B ≤ 1099511627776) : Tm Zar (fun k => laws_eqWeighS.t k a0 a0) (fun r => r = true) := by
  unfold laws_eqWeighS.t laws_eqWeighS.g
  have hm := Za
  have hlim : lim = 1048576 := rfl
  have hlen := ga0.1
  refine Tm.ite (fun h1 => ?_) (fun h1 => ?_)
  · try simp only [bz0, bz1, bz2, bz3, bz4, bz5, bz6, bz7, bz8, bz9, bza] at h1
    exact Tm.ret (by first | rfl | (exfalso; simp [Zi] at *))
  · try simp only [bz0, bz1, bz2, bz3, bz4, bz5, bz6, bz7, bz8, bz9, bza] at h1
    refine Tm.loop (okk := Zar) (p := fun k => k) (fun i hi => hi) (b := fun k => laws_eqWeighS.l0 k a0 a0 (fun z0 => some z0)) (fun i => (((a0.length : Int)) - i).toNat) (fun i => 0 ≤ i ∧ i ≤ (a0.length : Int)) ?_ ?_ ?_
    · rintro i hI
      try simp only [] at hI ⊢
      have : big = 2 ^ 64 := rfl
      have := ga0.1
      omega
    · ((try simp only []); omega)
    · rintro i hI L hL
      try simp only [] at hI
      obtain ⟨i0, i1⟩ := hI
      simp only [laws_eqWeighS.l0]
      refine Tm.ite (fun h2 => ?_) (fun h2 => ?_)
      · try simp only [bz0, bz1, bz2, bz3, bz4, bz5, bz6, bz7, bz8, bz9, bza] at h2
        refine Tm.atRow (by first | assumption | omega) (by first | assumption | omega) (fun x3 hx4 hm5 => ?_)
        obtain ⟨c6, c7, rfl, g8, g9, _⟩ := (ga0.2 x3 hm5).open
        refine Tm.uncons ?_
        refine Tm.dStr ?_
        refine Tm.uncons ?_
        refine Tm.dInt ?_
        refine Tm.atEnd ?_
        refine Tm.atRow (by first | assumption | omega) (by first | assumption | omega) (fun x10 hx11 hm12 => ?_)
        rw [hx4] at hx11
        injection hx11 with hx11
        subst hx11
        refine Tm.uncons ?_
        refine Tm.dStr ?_
        refine Tm.uncons ?_
        refine Tm.dInt ?_
        refine Tm.atEnd ?_
        refine laws_eqWeigh.tm (fun i hi => hi.1) (laws_eqWeigh.T (by first | assumption | omega) (by first | assumption | omega)) (fun y16 hy15 => ?_)
        subst hy15
        refine Tm.ite (fun h17 => ?_) (fun h17 => ?_)
        · try simp only [bz0, bz1, bz2, bz3, bz4, bz5, bz6, bz7, bz8, bz9, bza] at h17
          exact Tm.ret (by first | rfl | (exfalso; simp [Zi] at *))
        · try simp only [bz0, bz1, bz2, bz3, bz4, bz5, bz6, bz7, bz8, bz9, bza] at h17
          try rw [ZC (x := i + 1) (by omega) (by omega)]
          exact hL _ (by (try simp only []); omega) (by (try simp only []); omega)
      · try simp only [bz0, bz1, bz2, bz3, bz4, bz5, bz6, bz7, bz8, bz9, bza] at h2
        exact Tm.ret (by first | rfl | (exfalso; simp [Zi] at *))
theorem laws_eqWant.f_of {β : Type} {k : Nat} {a0_0 : Int} {a0_1 : List (List D)} {a0_2 : List (List D)} {a0_3 : List (List D)} {a1_0 : Int} {a1_1 : List (List D)} {a1_2 : List (List D)} {a1_3 : List (List D)} {z0 : Bool} (h : laws_eqWant.t k a0_0 a0_1 a0_2 a0_3 a1_0 a1_1 a1_2 a1_3 = some z0) (K : Bool → Option β) : laws_eqWant.f k a0_0 a0_1 a0_2 a0_3 a1_0 a1_1 a1_2 a1_3 K = K z0 := by
  unfold laws_eqWant.f
  rw [h]
theorem laws_eqWant.tm {ι α : Type} {ok : ι → Prop} {ψ : α → Prop} {p : ι → Nat} {B : Nat} (hp : ∀ i, ok i → B ≤ p i) {a0_0 : Int} {a0_1 : List (List D)} {a0_2 : List (List D)} {a0_3 : List (List D)} {a1_0 : Int} {a1_1 : List (List D)} {a1_2 : List (List D)} {a1_3 : List (List D)} {φ : Bool → Prop} (h : Tm (fun k => B ≤ k) (fun k => laws_eqWant.t k a0_0 a0_1 a0_2 a0_3 a1_0 a1_1 a1_2 a1_3) φ) {G : ι → Bool → Option α} (hG : ∀ z0, φ z0 → Tm ok (fun ι0 => G ι0 z0) ψ) : Tm ok (fun ι0 => laws_eqWant.f (p ι0) a0_0 a0_1 a0_2 a0_3 a1_0 a1_1 a1_2 a1_3 (G ι0)) ψ := by
  obtain ⟨z0, h1, h2⟩ := h
  exact (hG z0 h1).congr fun i0 hi0 => laws_eqWant.f_of (h2 (p i0) (hp i0 hi0)) _
theorem laws_eqWant.T {B : Nat} {a0_0 : Int} {a0_1 : List (List D)} {a0_2 : List (List D)} {a0_3 : List (List D)} (ga0_1 : Zm Yh B a0_1) (ga0_2 : Zm RS B a0_2) (ga0_3 : Zm RSI B a0_3) (hB : B ≤ 1099511627776) : Tm Zar (fun k => laws_eqWant.t k a0_0 a0_1 a0_2 a0_3 a0_0 a0_1 a0_2 a0_3) (fun r => r = true) := by
  unfold laws_eqWant.t laws_eqWant.g
  have hm := Za
  have hlim : lim = 1048576 := rfl
  refine Tm.ite (fun h1 => ?_) (fun h1 => ?_)
  · try simp only [bz0, bz1, bz2, bz3, bz4, bz5, bz6, bz7, bz8, bz9, bza] at h1
    exact Tm.ret (by first | rfl | (exfalso; simp [Zi] at *))
  · try simp only [bz0, bz1, bz2, bz3, bz4, bz5, bz6, bz7, bz8, bz9, bza] at h1
    refine laws_eqTermS.tm (fun i hi => hi) (laws_eqTermS.T (by first | assumption | omega) (by first | assumption | omega)) (fun y3 hy2 => ?_)
    subst hy2
    refine Tm.ite (fun h4 => ?_) (fun h4 => ?_)
    · try simp only [bz0, bz1, bz2, bz3, bz4, bz5, bz6, bz7, bz8, bz9, bza] at h4
      exact Tm.ret (by first | rfl | (exfalso; simp [Zi] at *))
    · try simp only [bz0, bz1, bz2, bz3, bz4, bz5, bz6, bz7, bz8, bz9, bza] at h4
      refine laws_eqStringS.tm (fun i hi => hi) (laws_eqStringS.T (by first | assumption | omega) (by first | assumption | omega)) (fun y6 hy5 => ?_)
      subst hy5
      refine Tm.ite (fun h7 => ?_) (fun h7 => ?_)
      · try simp only [bz0, bz1, bz2, bz3, bz4, bz5, bz6, bz7, bz8, bz9, bza] at h7
        exact Tm.ret (by first | rfl | (exfalso; simp [Zi] at *))
      · try simp only [bz0, bz1, bz2, bz3, bz4, bz5, bz6, bz7, bz8, bz9, bza] at h7
        refine laws_eqWeighS.tm (fun i hi => hi) (laws_eqWeighS.T (by first | assumption | omega) (by first | assumption | omega)) (fun y9 hy8 => ?_)
        subst hy8
        refine Tm.ite (fun h10 => ?_) (fun h10 => ?_)
        · try simp only [bz0, bz1, bz2, bz3, bz4, bz5, bz6, bz7, bz8, bz9, bza] at h10
          exact Tm.ret (by first | rfl | (exfalso; simp [Zi] at *))
        · try simp only [bz0, bz1, bz2, bz3, bz4, bz5, bz6, bz7, bz8, bz9, bza] at h10
          exact Tm.ret (by first | rfl | (exfalso; simp [Zi] at *))
theorem laws_eqValueS.f_of {β : Type} {k : Nat} {a0 : List (List D)} {a1 : List (List D)} {z0 : Bool} (h : laws_eqValueS.t k a0 a1 = some z0) (K : Bool → Option β) : laws_eqValueS.f k a0 a1 K = K z0 := by
  unfold laws_eqValueS.f
  unfold laws_eqValueS.w
  rw [h]
theorem laws_eqValueS.tm {ι α : Type} {ok : ι → Prop} {ψ : α → Prop} {p : ι → Nat} {B : Nat} (hp : ∀ i, ok i → B ≤ p i) {a0 : List (List D)} {a1 : List (List D)} {φ : Bool → Prop} (h : Tm (fun k => B ≤ k) (fun k => laws_eqValueS.t k a0 a1) φ) {G : ι → Bool → Option α} (hG : ∀ z0, φ z0 → Tm ok (fun ι0 => G ι0 z0) ψ) : Tm ok (fun ι0 => laws_eqValueS.f (p ι0) a0 a1 (G ι0)) ψ := by
  obtain ⟨z0, h1, h2⟩ := h
  exact (hG z0 h1).congr fun i0 hi0 => laws_eqValueS.f_of (h2 (p i0) (hp i0 hi0)) _
theorem laws_eqValue.f_of {β : Type} {k : Nat} {a0_0 : Int} {a0_1 : ByteArray} {a0_2 : Int} {a0_3 : List (List D)} {a0_4 : List (List D)} {a1_0 : Int} {a1_1 : ByteArray} {a1_2 : Int} {a1_3 : List (List D)} {a1_4 : List (List D)} {z0 : Bool} (h : laws_eqValue.t k a0_0 a0_1 a0_2 a0_3 a0_4 a1_0 a1_1 a1_2 a1_3 a1_4 = some z0) (K : Bool → Option β) : laws_eqValue.f k a0_0 a0_1 a0_2 a0_3 a0_4 a1_0 a1_1 a1_2 a1_3 a1_4 K = K z0 := by
  unfold laws_eqValue.f
  unfold laws_eqValue.w
  rw [h]
theorem laws_eqValue.tm {ι α : Type} {ok : ι → Prop} {ψ : α → Prop} {p : ι → Nat} {B : Nat} (hp : ∀ i, ok i → B ≤ p i) {a0_0 : Int} {a0_1 : ByteArray} {a0_2 : Int} {a0_3 : List (List D)} {a0_4 : List (List D)} {a1_0 : Int} {a1_1 : ByteArray} {a1_2 : Int} {a1_3 : List (List D)} {a1_4 : List (List D)} {φ : Bool → Prop} (h : Tm (fun k => B ≤ k) (fun k => laws_eqValue.t k a0_0 a0_1 a0_2 a0_3 a0_4 a1_0 a1_1 a1_2 a1_3 a1_4) φ) {G : ι → Bool → Option α} (hG : ∀ z0, φ z0 → Tm ok (fun ι0 => G ι0 z0) ψ) : Tm ok (fun ι0 => laws_eqValue.f (p ι0) a0_0 a0_1 a0_2 a0_3 a0_4 a1_0 a1_1 a1_2 a1_3 a1_4 (G ι0)) ψ := by
  obtain ⟨z0, h1, h2⟩ := h
  exact (hG z0 h1).congr fun i0 hi0 => laws_eqValue.f_of (h2 (p i0) (hp i0 hi0)) _
theorem eqVal {B : Nat} (hB : B ≤ 1099511627776) (n : Nat) : (∀ (a : List (List D)), a.length ≤ B → (∀ x ∈ a, Yf B n x) → Tm (fun k => big + 2 * n + 1 ≤ k) (fun k => laws_eqValueS.t k a a) (fun r => r = true)) ∧
    (∀ (c0 : Int) (c1 : ByteArray) (c2 : Int) (c3 c4 : List (List D)), c1.size ≤ B → Zm RS B c3 → c4.length ≤ B → (∀ x ∈ c4, Yf B n x) → Tm (fun k => big + 2 * n + 2 ≤ k) (fun k => laws_eqValue.t k c0 c1 c2 c3 c4 c0 c1 c2 c3 c4) (fun r => r = true)) := by
  have hb : big = 2 ^ 64 := rfl
  induction n using Nat.strongRecOn with
  | ind n ih =>
  have S : ∀ (a : List (List D)), a.length ≤ B → (∀ x ∈ a, Yf B n x) → Tm (fun k => big + 2 * n + 1 ≤ k) (fun k => laws_eqValueS.t k a a) (fun r => r = true) := by
    intro a hlen g
    refine Tm.succ (g := fun k => laws_eqValueS.g k a a (fun z0 => some z0)) (fun k => laws_eqValueS.t_succ k a a) ?_
    unfold laws_eqValueS.g laws_eqValueS.body
    refine Tm.ite (fun h3 => by simp at h3) (fun h3 => ?_)
    refine Tm.loop (okk := fun k => big + 2 * n ≤ k) (p := fun k => k) (fun i hi => by omega) (b := fun k => laws_eqValueS.l0 k (laws_eqValueS.f k) (laws_eqValue.f k) a a (fun z0 => some z0)) (fun i => (((a.length : Int)) - i).toNat) (fun i => 0 ≤ i ∧ i ≤ (a.length : Int)) ?_ ?_ ?_
    · rintro i hI
      omega
    · omega
    · rintro i hI L hL
      obtain ⟨i0, i1⟩ := hI
      simp only [laws_eqValueS.l0]
      refine Tm.ite (fun h4 => ?_) (fun h4 => ?_)
      · simp only [decide_eq_true_eq] at h4
        refine Tm.atRow (by omega) (by omega) (fun x5 hx6 hm7 => ?_)
        obtain ⟨n', hn', c0, c1, c2, c3, c4, rfl, w0, g1, w2, g3, l4, g4⟩ : ∃ n', n = n' + 1 ∧ ∃ c0 c1 c2 c3 c4, x5 = [.int .i64 c0, .str c1, .int .i64 c2, .sl c3, .sl c4] ∧ (Lit.int .i64 c0).wf = true ∧ c1.size ≤ B ∧ (Lit.int .i64 c2).wf = true ∧ Zm RS B c3 ∧ c4.length ≤ B ∧ ∀ x ∈ c4, Yf B n' x := by
          have := g x5 hm7
          cases this with
          | mk c0 c1 c2 c3 c4 w0 g1 w2 g3 l4 g4 => exact ⟨_, rfl, _, _, _, _, _, rfl, w0, g1, w2, g3, l4, g4⟩
        refine Tm.uncons (Tm.dInt (Tm.uncons (Tm.dStr (Tm.uncons (Tm.dInt (Tm.uncons (Tm.dSl (Tm.uncons (Tm.dSl (Tm.atEnd ?_))))))))))
        refine Tm.atRow (by omega) (by omega) (fun x8 hx8 _ => ?_)
        rw [hx6] at hx8
        injection hx8 with hx8
        subst hx8
        refine Tm.uncons (Tm.dInt (Tm.uncons (Tm.dStr (Tm.uncons (Tm.dInt (Tm.uncons (Tm.dSl (Tm.uncons (Tm.dSl (Tm.atEnd ?_))))))))))
        refine laws_eqValue.tm (B := big + 2 * n' + 2) (fun i hi => by have := hi.1; omega) ((ih n' (by omega)).2 c0 c1 c2 c3 c4 g1 g3 l4 g4) (fun y hy => ?_)
        subst hy
        refine Tm.ite (fun h => by simp at h) (fun _ => ?_)
        rw [ZC (x := i + 1) (by omega) (by omega)]
        exact hL (i + 1) ⟨by omega, by omega⟩ (by omega)
      · exact Tm.ret rfl
  refine ⟨S, ?_⟩
  intro c0 c1 c2 c3 c4 g1 g3 l4 g4
  refine Tm.succ (g := fun k => laws_eqValue.g k c0 c1 c2 c3 c4 c0 c1 c2 c3 c4 (fun z0 => some z0)) (fun k => laws_eqValue.t_succ k c0 c1 c2 c3 c4 c0 c1 c2 c3 c4) ?_
  unfold laws_eqValue.g laws_eqValue.body
  refine Tm.ite (fun h => by simp at h) (fun _ => ?_)
  refine Tm.ite (fun h => by simp [Zi] at h) (fun _ => ?_)
  refine Tm.ite (fun h => by simp at h) (fun _ => ?_)
  refine laws_eqStringS.tm (B := big) (fun i hi => by omega) (laws_eqStringS.T g3 hB) (fun y hy => ?_)
  subst hy
  refine Tm.ite (fun h => by simp at h) (fun _ => ?_)
  refine laws_eqValueS.tm (B := big + 2 * n + 1) (fun i hi => hi) (S c4 l4 g4) (fun y' hy' => ?_)
  subst hy'
  exact Tm.ite (fun h => by simp at h) (fun _ => Tm.ret rfl)
theorem big_lv1e {n : Nat} (h : n ≤ 4398046511104) : big + n ≤ lv 1 := by
  have hb : big = 2 ^ 64 := rfl
  have : lv 1 = 2 ^ 65 := rfl
  omega
theorem laws_eqValueS.T {B : Nat} {a0 : List (List D)} (g : Zm Yd B a0) (hB : B ≤ 1099511627776) : Tm (Zay 1) (fun k => laws_eqValueS.t k a0 a0) (fun r => r = true) := by
  have g' : ∀ x ∈ a0, Yf B 1099511627776 x := fun x hx => by
    obtain ⟨h, hh, hx⟩ := g.2 x hx
    exact hx.mono (hh hB)
  exact ((eqVal hB 1099511627776).1 a0 g.1 g').up (big_lv1e (n := 2 * 1099511627776 + 1) (by omega))
theorem laws_eqValue.T {B : Nat} {a0_0 : Int} {a0_1 : ByteArray} {a0_2 : Int} {a0_3 a0_4 : List (List D)} (g1 : a0_1.size ≤ B) (g3 : Zm RS B a0_3) (g4 : Zm Yd B a0_4) (hB : B ≤ 1099511627776) : Tm (Zay 1) (fun k => laws_eqValue.t k a0_0 a0_1 a0_2 a0_3 a0_4 a0_0 a0_1 a0_2 a0_3 a0_4) (fun r => r = true) := by
  have g' : ∀ x ∈ a0_4, Yf B 1099511627776 x := fun x hx => by
    obtain ⟨h, hh, hx⟩ := g4.2 x hx
    exact hx.mono (hh hB)
  exact ((eqVal hB 1099511627776).2 a0_0 a0_1 a0_2 a0_3 a0_4 g1 g3 g4.1 g').up (big_lv1e (n := 2 * 1099511627776 + 2) (by omega))
theorem laws_eqOp.f_of {β : Type} {k : Nat} {a0_0 : Int} {a0_1 : List (List D)} {a0_2 : Int} {a0_3 : ByteArray} {a0_4 : Int} {a0_5 : List (List D)} {a0_6 : List (List D)} {a1_0 : Int} {a1_1 : List (List D)} {a1_2 : Int} {a1_3 : ByteArray} {a1_4 : Int} {a1_5 : List (List D)} {a1_6 : List (List D)} {z0 : Bool} (h : laws_eqOp.t k a0_0 a0_1 a0_2 a0_3 a0_4 a0_5 a0_6 a1_0 a1_1 a1_2 a1_3 a1_4 a1_5 a1_6 = some z0) (K : Bool → Option β) : laws_eqOp.f k a0_0 a0_1 a0_2 a0_3 a0_4 a0_5 a0_6 a1_0 a1_1 a1_2 a1_3 a1_4 a1_5 a1_6 K = K z0 := by
  unfold laws_eqOp.f
  rw [h]
theorem laws_eqOp.tm {ι α : Type} {ok : ι → Prop} {ψ : α → Prop} {p : ι → Nat} {B : Nat} (hp : ∀ i, ok i → B ≤ p i) {a0_0 : Int} {a0_1 : List (List D)} {a0_2 : Int} {a0_3 : ByteArray} {a0_4 : Int} {a0_5 : List (List D)} {a0_6 : List (List D)} {a1_0 : Int} {a1_1 : List (List D)} {a1_2 : Int} {a1_3 : ByteArray} {a1_4 : Int} {a1_5 : List (List D)} {a1_6 : List (List D)} {φ : Bool → Prop} (h : Tm (fun k => B ≤ k) (fun k => laws_eqOp.t k a0_0 a0_1 a0_2 a0_3 a0_4 a0_5 a0_6 a1_0 a1_1 a1_2 a1_3 a1_4 a1_5 a1_6) φ) {G : ι → Bool → Option α} (hG : ∀ z0, φ z0 → Tm ok (fun ι0 => G ι0 z0) ψ) : Tm ok (fun ι0 => laws_eqOp.f (p ι0) a0_0 a0_1 a0_2 a0_3 a0_4 a0_5 a0_6 a1_0 a1_1 a1_2 a1_3 a1_4 a1_5 a1_6 (G ι0)) ψ := by
  obtain ⟨z0, h1, h2⟩ := h
  exact (hG z0 h1).congr fun i0 hi0 => laws_eqOp.f_of (h2 (p i0) (hp i0 hi0)) _
theorem laws_eqOp.T {B : Nat} {a0_0 : Int} {a0_1 : List (List D)} {a0_2 : Int} {a0_3 : ByteArray} {a0_4 : Int} {a0_5 : List (List D)} {a0_6 : List (List D)} (ga0_1 : Zm RS B a0_1) (ga0_3 : a0_3.size ≤ B) (ga0_5 : Zm RS B a0_5) (ga0_6 : Zm Yd B a0_6) (hB : B ≤ 1099511627776) : Tm (Zay 1) (fun k => laws_eqOp.t k a0_0 a0_1 a0_2 a0_3 a0_4 a0_5 a0_6 a0_0 a0_1 a0_2 a0_3 a0_4 a0_5 a0_6) (fun r => r = true) := by
  unfold laws_eqOp.t laws_eqOp.g
  have hm := Za
  have hlim : lim = 1048576 := rfl
  refine Tm.ite (fun h1 => ?_) (fun h1 => ?_)
  · try simp only [bz0, bz1, bz2, bz3, bz4, bz5, bz6, bz7, bz8, bz9, bza] at h1
    exact Tm.ret (by first | rfl | (exfalso; simp [Zi] at *))
  · try simp only [bz0, bz1, bz2, bz3, bz4, bz5, bz6, bz7, bz8, bz9, bza] at h1
    refine laws_eqStringS.tm (fun i hi => up0 hi) (laws_eqStringS.T (by first | assumption | omega) (by first | assumption | omega)) (fun y3 hy2 => ?_)
    subst hy2
    refine Tm.ite (fun h4 => ?_) (fun h4 => ?_)
    · try simp only [bz0, bz1, bz2, bz3, bz4, bz5, bz6, bz7, bz8, bz9, bza] at h4
      exact Tm.ret (by first | rfl | (exfalso; simp [Zi] at *))
    · try simp only [bz0, bz1, bz2, bz3, bz4, bz5, bz6, bz7, bz8, bz9, bza] at h4
      refine laws_eqValue.tm (fun i hi => hi) (laws_eqValue.T (by first | assumption | omega) (by first | assumption | omega) (by first | assumption | omega) (by first | assumption | omega)) (fun y6 hy5 => ?_)
      subst hy5
      refine Tm.ite (fun h7 => ?_) (fun h7 => ?_)
      · try simp only [bz0, bz1, bz2, bz3, bz4, bz5, bz6, bz7, bz8, bz9, bza] at h7
        exact Tm.ret (by first | rfl | (exfalso; simp [Zi] at *))
      · try simp only [bz0, bz1, bz2, bz3, bz4, bz5, bz6, bz7, bz8, bz9, bza] at h7
        exact Tm.ret (by first | rfl | (exfalso; simp [Zi] at *))
theorem laws_eqOpS.f_of {β : Type} {k : Nat} {a0 : List (List D)} {a1 : List (List D)} {z0 : Bool} (h : laws_eqOpS.t k a0 a1 = some z0) (K : Bool → Option β) : laws_eqOpS.f k a0 a1 K = K z0 := by
  unfold laws_eqOpS.f
  rw [h]
theorem laws_eqOpS.tm {ι α : Type} {ok : ι → Prop} {ψ : α → Prop} {p : ι → Nat} {B : Nat} (hp : ∀ i, ok i → B ≤ p i) {a0 : List (List D)} {a1 : List (List D)} {φ : Bool → Prop} (h : Tm (fun k => B ≤ k) (fun k => laws_eqOpS.t k a0 a1) φ) {G : ι → Bool → Option α} (hG : ∀ z0, φ z0 → Tm ok (fun ι0 => G ι0 z0) ψ) : Tm ok (fun ι0 => laws_eqOpS.f (p ι0) a0 a1 (G ι0)) ψ := by
  obtain ⟨z0, h1, h2⟩ := h
  exact (hG z0 h1).congr fun i0 hi0 => laws_eqOpS.f_of (h2 (p i0) (hp i0 hi0)) _
theorem laws_eqOpS.T {B : Nat} {a0 : List (List D)} (ga0 : Zm Yc B a0) (hB : B ≤ 1099511627776) : Tm (Zay 1) (fun k => laws_eqOpS.t k a0 a0) (fun r => r = true) := by
  unfold laws_eqOpS.t laws_eqOpS.g
  have hm := Za
  have hlim : lim = 1048576 := rfl
  have hlen := ga0.1
  refine Tm.ite (fun h1 => ?_) (fun h1 => ?_)
  · try simp only [bz0, bz1, bz2, bz3, bz4, bz5, bz6, bz7, bz8, bz9, bza] at h1
    exact Tm.ret (by first | rfl | (exfalso; simp [Zi] at *))
  · try simp only [bz0, bz1, bz2, bz3, bz4, bz5, bz6, bz7, bz8, bz9, bza] at h1
    refine Tm.loop (okk := (Zay 1)) (p := fun k => k) (fun i hi => up0 hi) (b := fun k => laws_eqOpS.l0 k a0 a0 (fun z0 => some z0)) (fun i => (((a0.length : Int)) - i).toNat) (fun i => 0 ≤ i ∧ i ≤ (a0.length : Int)) ?_ ?_ ?_
    · rintro i hI
      try simp only [] at hI ⊢
      have : big = 2 ^ 64 := rfl
      have := ga0.1
      omega
    · ((try simp only []); omega)
    · rintro i hI L hL
      try simp only [] at hI
      obtain ⟨i0, i1⟩ := hI
      simp only [laws_eqOpS.l0]
      refine Tm.ite (fun h2 => ?_) (fun h2 => ?_)
      · try simp only [bz0, bz1, bz2, bz3, bz4, bz5, bz6, bz7, bz8, bz9, bza] at h2
        refine Tm.atRow (by first | assumption | omega) (by first | assumption | omega) (fun x3 hx4 hm5 => ?_)
        obtain ⟨c6, c7, c8, c9, c10, c11, c12, rfl, g13, g14, g15, g16, g17, g18, g19, _⟩ := (ga0.2 x3 hm5).open
        refine Tm.uncons ?_
        refine Tm.dInt ?_
        refine Tm.uncons ?_
        refine Tm.dSl ?_
        refine Tm.uncons ?_
        refine Tm.dInt ?_
        refine Tm.uncons ?_
        refine Tm.dStr ?_
        refine Tm.uncons ?_
        refine Tm.dInt ?_
        refine Tm.uncons ?_
        refine Tm.dSl ?_
        refine Tm.uncons ?_
        refine Tm.dSl ?_
        refine Tm.atEnd ?_
        refine Tm.atRow (by first | assumption | omega) (by first | assumption | omega) (fun x20 hx21 hm22 => ?_)
        rw [hx4] at hx21
        injection hx21 with hx21
        subst hx21
        refine Tm.uncons ?_
        refine Tm.dInt ?_
        refine Tm.uncons ?_
        refine Tm.dSl ?_
        refine Tm.uncons ?_
        refine Tm.dInt ?_
        refine Tm.uncons ?_
        refine Tm.dStr ?_
        refine Tm.uncons ?_
        refine Tm.dInt ?_
        refine Tm.uncons ?_
        refine Tm.dSl ?_
        refine Tm.uncons ?_
        refine Tm.dSl ?_
        refine Tm.atEnd ?_
        refine laws_eqOp.tm (fun i hi => hi.1) (laws_eqOp.T (by first | assumption | omega) (by first | assumption | omega) (by first | assumption | omega) (by first | assumption | omega) (by first | assumption | omega)) (fun y31 hy30 => ?_)
        subst hy30
        refine Tm.ite (fun h32 => ?_) (fun h32 => ?_)
        · try simp only [bz0, bz1, bz2, bz3, bz4, bz5, bz6, bz7, bz8, bz9, bza] at h32
          exact Tm.ret (by first | rfl | (exfalso; simp [Zi] at *))
        · try simp only [bz0, bz1, bz2, bz3, bz4, bz5, bz6, bz7, bz8, bz9, bza] at h32
          try rw [ZC (x := i + 1) (by omega) (by omega)]
          exact hL _ (by (try simp only []); omega) (by (try simp only []); omega)
      · try simp only [bz0, bz1, bz2, bz3, bz4, bz5, bz6, bz7, bz8, bz9, bza] at h2
        exact Tm.ret (by first | rfl | (exfalso; simp [Zi] at *))
theorem laws_eqOver.f_of {β : Type} {k : Nat} {a0_0 : ByteArray} {a0_1 : List (List D)} {a1_0 : ByteArray} {a1_1 : List (List D)} {z0 : Bool} (h : laws_eqOver.t k a0_0 a0_1 a1_0 a1_1 = some z0) (K : Bool → Option β) : laws_eqOver.f k a0_0 a0_1 a1_0 a1_1 K = K z0 := by
  unfold laws_eqOver.f
  rw [h]
theorem laws_eqOver.tm {ι α : Type} {ok : ι → Prop} {ψ : α → Prop} {p : ι → Nat} {B : Nat} (hp : ∀ i, ok i → B ≤ p i) {a0_0 : ByteArray} {a0_1 : List (List D)} {a1_0 : ByteArray} {a1_1 : List (List D)} {φ : Bool → Prop} (h : Tm (fun k => B ≤ k) (fun k => laws_eqOver.t k a0_0 a0_1 a1_0 a1_1) φ) {G : ι → Bool → Option α} (hG : ∀ z0, φ z0 → Tm ok (fun ι0 => G ι0 z0) ψ) : Tm ok (fun ι0 => laws_eqOver.f (p ι0) a0_0 a0_1 a1_0 a1_1 (G ι0)) ψ := by
  obtain ⟨z0, h1, h2⟩ := h
  exact (hG z0 h1).congr fun i0 hi0 => laws_eqOver.f_of (h2 (p i0) (hp i0 hi0)) _
theorem laws_eqOver.T {B : Nat} {a0_0 : ByteArray} {a0_1 : List (List D)} (ga0_0 : a0_0.size ≤ B) (ga0_1 : Zm Yc B a0_1) (hB : B ≤ 1099511627776) : Tm (Zay 1) (fun k => laws_eqOver.t k a0_0 a0_1 a0_0 a0_1) (fun r => r = true) := by
  unfold laws_eqOver.t laws_eqOver.g
  have hm := Za
  have hlim : lim = 1048576 := rfl
  refine Tm.ite (fun h1 => ?_) (fun h1 => ?_)
  · try simp only [bz0, bz1, bz2, bz3, bz4, bz5, bz6, bz7, bz8, bz9, bza] at h1
    exact Tm.ret (by first | rfl | (exfalso; simp [Zi] at *))
  · try simp only [bz0, bz1, bz2, bz3, bz4, bz5, bz6, bz7, bz8, bz9, bza] at h1
    refine laws_eqOpS.tm (fun i hi => hi) (laws_eqOpS.T (by first | assumption | omega) (by first | assumption | omega)) (fun y3 hy2 => ?_)
    subst hy2
    refine Tm.ite (fun h4 => ?_) (fun h4 => ?_)
    · try simp only [bz0, bz1, bz2, bz3, bz4, bz5, bz6, bz7, bz8, bz9, bza] at h4
      exact Tm.ret (by first | rfl | (exfalso; simp [Zi] at *))
    · try simp only [bz0, bz1, bz2, bz3, bz4, bz5, bz6, bz7, bz8, bz9, bza] at h4
      exact Tm.ret (by first | rfl | (exfalso; simp [Zi] at *))
theorem laws_eqOverS.f_of {β : Type} {k : Nat} {a0 : List (List D)} {a1 : List (List D)} {z0 : Bool} (h : laws_eqOverS.t k a0 a1 = some z0) (K : Bool → Option β) : laws_eqOverS.f k a0 a1 K = K z0 := by
  unfold laws_eqOverS.f
  rw [h]
theorem laws_eqOverS.tm {ι α : Type} {ok : ι → Prop} {ψ : α → Prop} {p : ι → Nat} {B : Nat} (hp : ∀ i, ok i → B ≤ p i) {a0 : List (List D)} {a1 : List (List D)} {φ : Bool → Prop} (h : Tm (fun k => B ≤ k) (fun k => laws_eqOverS.t k a0 a1) φ) {G : ι → Bool → Option α} (hG : ∀ z0, φ z0 → Tm ok (fun ι0 => G ι0 z0) ψ) : Tm ok (fun ι0 => laws_eqOverS.f (p ι0) a0 a1 (G ι0)) ψ := by
  obtain ⟨z0, h1, h2⟩ := h
  exact (hG z0 h1).congr fun i0 hi0 => laws_eqOverS.f_of (h2 (p i0) (hp i0 hi0)) _
theorem laws_eqOverS.T {B : Nat} {a0 : List (List D)} (ga0 : Zm Yb B a0) (hB : B ≤ 1099511627776) : Tm (Zay 1) (fun k => laws_eqOverS.t k a0 a0) (fun r => r = true) := by
  unfold laws_eqOverS.t laws_eqOverS.g
  have hm := Za
  have hlim : lim = 1048576 := rfl
  have hlen := ga0.1
  refine Tm.ite (fun h1 => ?_) (fun h1 => ?_)
  · try simp only [bz0, bz1, bz2, bz3, bz4, bz5, bz6, bz7, bz8, bz9, bza] at h1
    exact Tm.ret (by first | rfl | (exfalso; simp [Zi] at *))
  · try simp only [bz0, bz1, bz2, bz3, bz4, bz5, bz6, bz7, bz8, bz9, bza] at h1
    refine Tm.loop (okk := (Zay 1)) (p := fun k => k) (fun i hi => up0 hi) (b := fun k => laws_eqOverS.l0 k a0 a0 (fun z0 => some z0)) (fun i => (((a0.length : Int)) - i).toNat) (fun i => 0 ≤ i ∧ i ≤ (a0.length : Int)) ?_ ?_ ?_
    · rintro i hI
      try simp only [] at hI ⊢
      have : big = 2 ^ 64 := rfl
      have := ga0.1
      omega
    · ((try simp only []); omega)
    · rintro i hI L hL
      try simp only [] at hI
      obtain ⟨i0, i1⟩ := hI
      simp only [laws_eqOverS.l0]
      refine Tm.ite (fun h2 => ?_) (fun h2 => ?_)
      · try simp only [bz0, bz1, bz2, bz3, bz4, bz5, bz6, bz7, bz8, bz9, bza] at h2
        refine Tm.atRow (by first | assumption | omega) (by first | assumption | omega) (fun x3 hx4 hm5 => ?_)
        obtain ⟨c6, c7, rfl, g8, g9, _⟩ := (ga0.2 x3 hm5).open
        refine Tm.uncons ?_
        refine Tm.dStr ?_
        refine Tm.uncons ?_
        refine Tm.dSl ?_
        refine Tm.atEnd ?_
        refine Tm.atRow (by first | assumption | omega) (by first | assumption | omega) (fun x10 hx11 hm12 => ?_)
        rw [hx4] at hx11
        injection hx11 with hx11
        subst hx11
        refine Tm.uncons ?_
        refine Tm.dStr ?_
        refine Tm.uncons ?_
        refine Tm.dSl ?_
        refine Tm.atEnd ?_
        refine laws_eqOver.tm (fun i hi => hi.1) (laws_eqOver.T (by first | assumption | omega) (by first | assumption | omega) (by first | assumption | omega)) (fun y16 hy15 => ?_)
        subst hy15
        refine Tm.ite (fun h17 => ?_) (fun h17 => ?_)
        · try simp only [bz0, bz1, bz2, bz3, bz4, bz5, bz6, bz7, bz8, bz9, bza] at h17
          exact Tm.ret (by first | rfl | (exfalso; simp [Zi] at *))
        · try simp only [bz0, bz1, bz2, bz3, bz4, bz5, bz6, bz7, bz8, bz9, bza] at h17
          try rw [ZC (x := i + 1) (by omega) (by omega)]
          exact hL _ (by (try simp only []); omega) (by (try simp only []); omega)
      · try simp only [bz0, bz1, bz2, bz3, bz4, bz5, bz6, bz7, bz8, bz9, bza] at h2
        exact Tm.ret (by first | rfl | (exfalso; simp [Zi] at *))
theorem laws_eqJob.f_of {β : Type} {k : Nat} {a0_0 : Int} {a0_1 : ByteArray} {a0_2 : Int} {a0_3 : List (List D)} {a0_4 : List (List D)} {a0_5 : List (List D)} {a0_6 : Int} {a0_7 : ByteArray} {a0_8 : Int} {a0_9 : List (List D)} {a0_10 : List (List D)} {a0_11 : List (List D)} {a0_12 : Bool} {a1_0 : Int} {a1_1 : ByteArray} {a1_2 : Int} {a1_3 : List (List D)} {a1_4 : List (List D)} {a1_5 : List (List D)} {a1_6 : Int} {a1_7 : ByteArray} {a1_8 : Int} {a1_9 : List (List D)} {a1_10 : List (List D)} {a1_11 : List (List D)} {a1_12 : Bool} {z0 : Bool} (h : laws_eqJob.t k a0_0 a0_1 a0_2 a0_3 a0_4 a0_5 a0_6 a0_7 a0_8 a0_9 a0_10 a0_11 a0_12 a1_0 a1_1 a1_2 a1_3 a1_4 a1_5 a1_6 a1_7 a1_8 a1_9 a1_10 a1_11 a1_12 = some z0) (K : Bool → Option β) : laws_eqJob.f k a0_0 a0_1 a0_2 a0_3 a0_4 a0_5 a0_6 a0_7 a0_8 a0_9 a0_10 a0_11 a0_12 a1_0 a1_1 a1_2 a1_3 a1_4 a1_5 a1_6 a1_7 a1_8 a1_9 a1_10 a1_11 a1_12 K = K z0 := by
  unfold laws_eqJob.f
  rw [h]
theorem laws_eqJob.tm {ι α : Type} {ok : ι → Prop} {ψ : α → Prop} {p : ι → Nat} {B : Nat} (hp : ∀ i, ok i → B ≤ p i) {a0_0 : Int} {a0_1 : ByteArray} {a0_2 : Int} {a0_3 : List (List D)} {a0_4 : List (List D)} {a0_5 : List (List D)} {a0_6 : Int} {a0_7 : ByteArray} {a0_8 : Int} {a0_9 : List (List D)} {a0_10 : List (List D)} {a0_11 : List (List D)} {a0_12 : Bool} {a1_0 : Int} {a1_1 : ByteArray} {a1_2 : Int} {a1_3 : List (List D)} {a1_4 : List (List D)} {a1_5 : List (List D)} {a1_6 : Int} {a1_7 : ByteArray} {a1_8 : Int} {a1_9 : List (List D)} {a1_10 : List (List D)} {a1_11 : List (List D)} {a1_12 : Bool} {φ : Bool → Prop} (h : Tm (fun k => B ≤ k) (fun k => laws_eqJob.t k a0_0 a0_1 a0_2 a0_3 a0_4 a0_5 a0_6 a0_7 a0_8 a0_9 a0_10 a0_11 a0_12 a1_0 a1_1 a1_2 a1_3 a1_4 a1_5 a1_6 a1_7 a1_8 a1_9 a1_10 a1_11 a1_12) φ) {G : ι → Bool → Option α} (hG : ∀ z0, φ z0 → Tm ok (fun ι0 => G ι0 z0) ψ) : Tm ok (fun ι0 => laws_eqJob.f (p ι0) a0_0 a0_1 a0_2 a0_3 a0_4 a0_5 a0_6 a0_7 a0_8 a0_9 a0_10 a0_11 a0_12 a1_0 a1_1 a1_2 a1_3 a1_4 a1_5 a1_6 a1_7 a1_8 a1_9 a1_10 a1_11 a1_12 (G ι0)) ψ := by
  obtain ⟨z0, h1, h2⟩ := h
  exact (hG z0 h1).congr fun i0 hi0 => laws_eqJob.f_of (h2 (p i0) (hp i0 hi0)) _
theorem laws_eqJob.T {B : Nat} {a0_0 : Int} {a0_1 : ByteArray} {a0_2 : Int} {a0_3 : List (List D)} {a0_4 : List (List D)} {a0_5 : List (List D)} {a0_6 : Int} {a0_7 : ByteArray} {a0_8 : Int} {a0_9 : List (List D)} {a0_10 : List (List D)} {a0_11 : List (List D)} {a0_12 : Bool} (ga0_1 : a0_1.size ≤ B) (ga0_3 : Zm Yh B a0_3) (ga0_4 : Zm RS B a0_4) (ga0_5 : Zm RSI B a0_5) (ga0_7 : a0_7.size ≤ B) (ga0_9 : Zm RS B a0_9) (ga0_10 : Zm Yd B a0_10) (ga0_11 : Zm Yb B a0_11) (hB : B ≤ 1099511627776) : Tm (Zay 1) (fun k => laws_eqJob.t k a0_0 a0_1 a0_2 a0_3 a0_4 a0_5 a0_6 a0_7 a0_8 a0_9 a0_10 a0_11 a0_12 a0_0 a0_1 a0_2 a0_3 a0_4 a0_5 a0_6 a0_7 a0_8 a0_9 a0_10 a0_11 a0_12) (fun r => r = true) := by
  unfold laws_eqJob.t laws_eqJob.g
  have hm := Za
  have hlim : lim = 1048576 := rfl
  refine Tm.ite (fun h1 => ?_) (fun h1 => ?_)
  · try simp only [bz0, bz1, bz2, bz3, bz4, bz5, bz6, bz7, bz8, bz9, bza] at h1
    exact Tm.ret (by first | rfl | (exfalso; simp [Zi] at *))
  · try simp only [bz0, bz1, bz2, bz3, bz4, bz5, bz6, bz7, bz8, bz9, bza] at h1
    refine Tm.ite (fun h2 => ?_) (fun h2 => ?_)
    · try simp only [bz0, bz1, bz2, bz3, bz4, bz5, bz6, bz7, bz8, bz9, bza] at h2
      exact Tm.ret (by first | rfl | (exfalso; simp [Zi] at *))
    · try simp only [bz0, bz1, bz2, bz3, bz4, bz5, bz6, bz7, bz8, bz9, bza] at h2
      refine laws_eqWant.tm (fun i hi => up0 hi) (laws_eqWant.T (by first | assumption | omega) (by first | assumption | omega) (by first | assumption | omega) (by first | assumption | omega)) (fun y4 hy3 => ?_)
      subst hy3
      refine Tm.ite (fun h5 => ?_) (fun h5 => ?_)
      · try simp only [bz0, bz1, bz2, bz3, bz4, bz5, bz6, bz7, bz8, bz9, bza] at h5
        exact Tm.ret (by first | rfl | (exfalso; simp [Zi] at *))
      · try simp only [bz0, bz1, bz2, bz3, bz4, bz5, bz6, bz7, bz8, bz9, bza] at h5
        refine laws_eqValue.tm (fun i hi => hi) (laws_eqValue.T (by first | assumption | omega) (by first | assumption | omega) (by first | assumption | omega) (by first | assumption | omega)) (fun y7 hy6 => ?_)
        subst hy6
        refine Tm.ite (fun h8 => ?_) (fun h8 => ?_)
        · try simp only [bz0, bz1, bz2, bz3, bz4, bz5, bz6, bz7, bz8, bz9, bza] at h8
          exact Tm.ret (by first | rfl | (exfalso; simp [Zi] at *))
        · try simp only [bz0, bz1, bz2, bz3, bz4, bz5, bz6, bz7, bz8, bz9, bza] at h8
          refine laws_eqOverS.tm (fun i hi => hi) (laws_eqOverS.T (by first | assumption | omega) (by first | assumption | omega)) (fun y10 hy9 => ?_)
          subst hy9
          refine Tm.ite (fun h11 => ?_) (fun h11 => ?_)
          · try simp only [bz0, bz1, bz2, bz3, bz4, bz5, bz6, bz7, bz8, bz9, bza] at h11
            exact Tm.ret (by first | rfl | (exfalso; simp [Zi] at *))
          · try simp only [bz0, bz1, bz2, bz3, bz4, bz5, bz6, bz7, bz8, bz9, bza] at h11
            refine Tm.ite (fun h12 => ?_) (fun h12 => ?_)
            · try simp only [bz0, bz1, bz2, bz3, bz4, bz5, bz6, bz7, bz8, bz9, bza] at h12
              exact Tm.ret (by first | rfl | (exfalso; simp [Zi] at *))
            · try simp only [bz0, bz1, bz2, bz3, bz4, bz5, bz6, bz7, bz8, bz9, bza] at h12
              exact Tm.ret (by first | rfl | (exfalso; simp [Zi] at *))
theorem laws_eqJobS.f_of {β : Type} {k : Nat} {a0 : List (List D)} {a1 : List (List D)} {z0 : Bool} (h : laws_eqJobS.t k a0 a1 = some z0) (K : Bool → Option β) : laws_eqJobS.f k a0 a1 K = K z0 := by
  unfold laws_eqJobS.f
  rw [h]
theorem laws_eqJobS.tm {ι α : Type} {ok : ι → Prop} {ψ : α → Prop} {p : ι → Nat} {B : Nat} (hp : ∀ i, ok i → B ≤ p i) {a0 : List (List D)} {a1 : List (List D)} {φ : Bool → Prop} (h : Tm (fun k => B ≤ k) (fun k => laws_eqJobS.t k a0 a1) φ) {G : ι → Bool → Option α} (hG : ∀ z0, φ z0 → Tm ok (fun ι0 => G ι0 z0) ψ) : Tm ok (fun ι0 => laws_eqJobS.f (p ι0) a0 a1 (G ι0)) ψ := by
  obtain ⟨z0, h1, h2⟩ := h
  exact (hG z0 h1).congr fun i0 hi0 => laws_eqJobS.f_of (h2 (p i0) (hp i0 hi0)) _
theorem laws_eqJobS.T {B : Nat} {a0 : List (List D)} (ga0 : Zm Ya B a0) (hB : B ≤ 1099511627776) : Tm (Zay 1) (fun k => laws_eqJobS.t k a0 a0) (fun r => r = true) := by
  unfold laws_eqJobS.t laws_eqJobS.g
  have hm := Za
  have hlim : lim = 1048576 := rfl
  have hlen := ga0.1
  refine Tm.ite (fun h1 => ?_) (fun h1 => ?_)
  · try simp only [bz0, bz1, bz2, bz3, bz4, bz5, bz6, bz7, bz8, bz9, bza] at h1
    exact Tm.ret (by first | rfl | (exfalso; simp [Zi] at *))
  · try simp only [bz0, bz1, bz2, bz3, bz4, bz5, bz6, bz7, bz8, bz9, bza] at h1
    refine Tm.loop (okk := (Zay 1)) (p := fun k => k) (fun i hi => up0 hi) (b := fun k => laws_eqJobS.l0 k a0 a0 (fun z0 => some z0)) (fun i => (((a0.length : Int)) - i).toNat) (fun i => 0 ≤ i ∧ i ≤ (a0.length : Int)) ?_ ?_ ?_
    · rintro i hI
      try simp only [] at hI ⊢
      have : big = 2 ^ 64 := rfl
      have := ga0.1
      omega
    · ((try simp only []); omega)
    · rintro i hI L hL
      try simp only [] at hI
      obtain ⟨i0, i1⟩ := hI
      simp only [laws_eqJobS.l0]
      refine Tm.ite (fun h2 => ?_) (fun h2 => ?_)
      · try simp only [bz0, bz1, bz2, bz3, bz4, bz5, bz6, bz7, bz8, bz9, bza] at h2
        refine Tm.atRow (by first | assumption | omega) (by first | assumption | omega) (fun x3 hx4 hm5 => ?_)
        obtain ⟨c6, c7, c8, c9, c10, c11, c12, c13, c14, c15, c16, c17, c18, rfl, g19, g20, g21, g22, g23, g24, g25, g26, g27, g28, g29, g30, _⟩ := (ga0.2 x3 hm5).open
        refine Tm.uncons ?_
        refine Tm.dInt ?_
        refine Tm.uncons ?_
        refine Tm.dStr ?_
        refine Tm.uncons ?_
        refine Tm.dInt ?_
        refine Tm.uncons ?_
        refine Tm.dSl ?_
        refine Tm.uncons ?_
        refine Tm.dSl ?_
        refine Tm.uncons ?_
        refine Tm.dSl ?_
        refine Tm.uncons ?_
        refine Tm.dInt ?_
        refine Tm.uncons ?_
        refine Tm.dStr ?_
        refine Tm.uncons ?_
        refine Tm.dInt ?_
        refine Tm.uncons ?_
        refine Tm.dSl ?_
        refine Tm.uncons ?_
        refine Tm.dSl ?_
        refine Tm.uncons ?_
        refine Tm.dSl ?_
        refine Tm.uncons ?_
        refine Tm.dBool ?_
        refine Tm.atEnd ?_
        refine Tm.atRow (by first | assumption | omega) (by first | assumption | omega) (fun x31 hx32 hm33 => ?_)
        rw [hx4] at hx32
        injection hx32 with hx32
        subst hx32
        refine Tm.uncons ?_
        refine Tm.dInt ?_
        refine Tm.uncons ?_
        refine Tm.dStr ?_
        refine Tm.uncons ?_
        refine Tm.dInt ?_
        refine Tm.uncons ?_
        refine Tm.dSl ?_
        refine Tm.uncons ?_
        refine Tm.dSl ?_
        refine Tm.uncons ?_
        refine Tm.dSl ?_
        refine Tm.uncons ?_
        refine Tm.dInt ?_
        refine Tm.uncons ?_
        refine Tm.dStr ?_
        refine Tm.uncons ?_
        refine Tm.dInt ?_
        refine Tm.uncons ?_
        refine Tm.dSl ?_
        refine Tm.uncons ?_
        refine Tm.dSl ?_
        refine Tm.uncons ?_
        refine Tm.dSl ?_
        refine Tm.uncons ?_
        refine Tm.dBool ?_
        refine Tm.atEnd ?_
        refine laws_eqJob.tm (fun i hi => hi.1) (laws_eqJob.T (by first | assumption | omega) (by first | assumption | omega) (by first | assumption | omega) (by first | assumption | omega) (by first | assumption | omega) (by first | assumption | omega) (by first | assumption | omega) (by first | assumption | omega) (by first | assumption | omega)) (fun y48 hy47 => ?_)
        subst hy47
        refine Tm.ite (fun h49 => ?_) (fun h49 => ?_)
        · try simp only [bz0, bz1, bz2, bz3, bz4, bz5, bz6, bz7, bz8, bz9, bza] at h49
          exact Tm.ret (by first | rfl | (exfalso; simp [Zi] at *))
        · try simp only [bz0, bz1, bz2, bz3, bz4, bz5, bz6, bz7, bz8, bz9, bza] at h49
          try rw [ZC (x := i + 1) (by omega) (by omega)]
          exact hL _ (by (try simp only []); omega) (by (try simp only []); omega)
      · try simp only [bz0, bz1, bz2, bz3, bz4, bz5, bz6, bz7, bz8, bz9, bza] at h2
        exact Tm.ret (by first | rfl | (exfalso; simp [Zi] at *))
theorem laws_eqLabel.f_of {β : Type} {k : Nat} {a0_0 : ByteArray} {a0_1 : ByteArray} {a1_0 : ByteArray} {a1_1 : ByteArray} {z0 : Bool} (h : laws_eqLabel.t k a0_0 a0_1 a1_0 a1_1 = some z0) (K : Bool → Option β) : laws_eqLabel.f k a0_0 a0_1 a1_0 a1_1 K = K z0 := by
  unfold laws_eqLabel.f
  rw [h]
theorem laws_eqLabel.tm {ι α : Type} {ok : ι → Prop} {ψ : α → Prop} {p : ι → Nat} {B : Nat} (hp : ∀ i, ok i → B ≤ p i) {a0_0 : ByteArray} {a0_1 : ByteArray} {a1_0 : ByteArray} {a1_1 : ByteArray} {φ : Bool → Prop} (h : Tm (fun k => B ≤ k) (fun k => laws_eqLabel.t k a0_0 a0_1 a1_0 a1_1) φ) {G : ι → Bool → Option α} (hG : ∀ z0, φ z0 → Tm ok (fun ι0 => G ι0 z0) ψ) : Tm ok (fun ι0 => laws_eqLabel.f (p ι0) a0_0 a0_1 a1_0 a1_1 (G ι0)) ψ := by
  obtain ⟨z0, h1, h2⟩ := h
  exact (hG z0 h1).congr fun i0 hi0 => laws_eqLabel.f_of (h2 (p i0) (hp i0 hi0)) _
theorem laws_eqLabel.T {B : Nat} {a0_0 : ByteArray} {a0_1 : ByteArray} (ga0_0 : a0_0.size ≤ B) (ga0_1 : a0_1.size ≤ B) (hB : B ≤ 1099511627776) : Tm Zar (fun k => laws_eqLabel.t k a0_0 a0_1 a0_0 a0_1) (fun r => r = true) := by
  unfold laws_eqLabel.t laws_eqLabel.g
  have hm := Za
  have hlim : lim = 1048576 := rfl
  refine Tm.ite (fun h1 => ?_) (fun h1 => ?_)
  · try simp only [bz0, bz1, bz2, bz3, bz4, bz5, bz6, bz7, bz8, bz9, bza] at h1
    exact Tm.ret (by first | rfl | (exfalso; simp [Zi] at *))
  · try simp only [bz0, bz1, bz2, bz3, bz4, bz5, bz6, bz7, bz8, bz9, bza] at h1
    refine Tm.ite (fun h2 => ?_) (fun h2 => ?_)
    · try simp only [bz0, bz1, bz2, bz3, bz4, bz5, bz6, bz7, bz8, bz9, bza] at h2
      exact Tm.ret (by first | rfl | (exfalso; simp [Zi] at *))
    · try simp only [bz0, bz1, bz2, bz3, bz4, bz5, bz6, bz7, bz8, bz9, bza] at h2
      exact Tm.ret (by first | rfl | (exfalso; simp [Zi] at *))
theorem laws_eqLabelS.f_of {β : Type} {k : Nat} {a0 : List (List D)} {a1 : List (List D)} {z0 : Bool} (h : laws_eqLabelS.t k a0 a1 = some z0) (K : Bool → Option β) : laws_eqLabelS.f k a0 a1 K = K z0 := by
  unfold laws_eqLabelS.f
  rw [h]
theorem laws_eqLabelS.tm {ι α : Type} {ok : ι → Prop} {ψ : α → Prop} {p : ι → Nat} {B : Nat} (hp : ∀ i, ok i → B ≤ p i) {a0 : List (List D)} {a1 : List (List D)} {φ : Bool → Prop} (h : Tm (fun k => B ≤ k) (fun k => laws_eqLabelS.t k a0 a1) φ) {G : ι → Bool → Option α} (hG : ∀ z0, φ z0 → Tm ok (fun ι0 => G ι0 z0) ψ) : Tm ok (fun ι0 => laws_eqLabelS.f (p ι0) a0 a1 (G ι0)) ψ := by
  obtain ⟨z0, h1, h2⟩ := h
  exact (hG z0 h1).congr fun i0 hi0 => laws_eqLabelS.f_of (h2 (p i0) (hp i0 hi0)) _
theorem laws_eqLabelS.T {B : Nat} {a0 : List (List D)} (ga0 : Zm RSS B a0) (hB : B ≤ 1099511627776) : Tm Zar (fun k => laws_eqLabelS.t k a0 a0) (fun r => r = true) := by
  unfold laws_eqLabelS.t laws_eqLabelS.g
  have hm := Za
  have hlim : lim = 1048576 := rfl
  have hlen := ga0.1
  refine Tm.ite (fun h1 => ?_) (fun h1 => ?_)
  · try simp only [bz0, bz1, bz2, bz3, bz4, bz5, bz6, bz7, bz8, bz9, bza] at h1
    exact Tm.ret (by first | rfl | (exfalso; simp [Zi] at *))
  · try simp only [bz0, bz1, bz2, bz3, bz4, bz5, bz6, bz7, bz8, bz9, bza] at h1
    refine Tm.loop (okk := Zar) (p := fun k => k) (fun i hi => hi) (b := fun k => laws_eqLabelS.l0 k a0 a0 (fun z0 => some z0)) (fun i => (((a0.length : Int)) - i).toNat) (fun i => 0 ≤ i ∧ i ≤ (a0.length : Int)) ?_ ?_ ?_
    · rintro i hI
      try simp only [] at hI ⊢
      have : big = 2 ^ 64 := rfl
      have := ga0.1
      omega
    · ((try simp only []); omega)
    · rintro i hI L hL
      try simp only [] at hI
      obtain ⟨i0, i1⟩ := hI
      simp only [laws_eqLabelS.l0]
      refine Tm.ite (fun h2 => ?_) (fun h2 => ?_)
      · try simp only [bz0, bz1, bz2, bz3, bz4, bz5, bz6, bz7, bz8, bz9, bza] at h2
        refine Tm.atRow (by first | assumption | omega) (by first | assumption | omega) (fun x3 hx4 hm5 => ?_)
        obtain ⟨c6, c7, rfl, g8, g9, _⟩ := (ga0.2 x3 hm5).open
        refine Tm.uncons ?_
        refine Tm.dStr ?_
        refine Tm.uncons ?_
        refine Tm.dStr ?_
        refine Tm.atEnd ?_
        refine Tm.atRow (by first | assumption | omega) (by first | assumption | omega) (fun x10 hx11 hm12 => ?_)
        rw [hx4] at hx11
        injection hx11 with hx11
        subst hx11
        refine Tm.uncons ?_
        refine Tm.dStr ?_
        refine Tm.uncons ?_
        refine Tm.dStr ?_
        refine Tm.atEnd ?_
        refine laws_eqLabel.tm (fun i hi => hi.1) (laws_eqLabel.T (by first | assumption | omega) (by first | assumption | omega) (by first | assumption | omega)) (fun y16 hy15 => ?_)
        subst hy15
        refine Tm.ite (fun h17 => ?_) (fun h17 => ?_)
        · try simp only [bz0, bz1, bz2, bz3, bz4, bz5, bz6, bz7, bz8, bz9, bza] at h17
          exact Tm.ret (by first | rfl | (exfalso; simp [Zi] at *))
        · try simp only [bz0, bz1, bz2, bz3, bz4, bz5, bz6, bz7, bz8, bz9, bza] at h17
          try rw [ZC (x := i + 1) (by omega) (by omega)]
          exact hL _ (by (try simp only []); omega) (by (try simp only []); omega)
      · try simp only [bz0, bz1, bz2, bz3, bz4, bz5, bz6, bz7, bz8, bz9, bza] at h2
        exact Tm.ret (by first | rfl | (exfalso; simp [Zi] at *))
theorem laws_eqIsland.f_of {β : Type} {k : Nat} {a0_0 : ByteArray} {a0_1 : List (List D)} {a0_2 : List (List D)} {a0_3 : Int} {a1_0 : ByteArray} {a1_1 : List (List D)} {a1_2 : List (List D)} {a1_3 : Int} {z0 : Bool} (h : laws_eqIsland.t k a0_0 a0_1 a0_2 a0_3 a1_0 a1_1 a1_2 a1_3 = some z0) (K : Bool → Option β) : laws_eqIsland.f k a0_0 a0_1 a0_2 a0_3 a1_0 a1_1 a1_2 a1_3 K = K z0 := by
  unfold laws_eqIsland.f
  rw [h]
theorem laws_eqIsland.tm {ι α : Type} {ok : ι → Prop} {ψ : α → Prop} {p : ι → Nat} {B : Nat} (hp : ∀ i, ok i → B ≤ p i) {a0_0 : ByteArray} {a0_1 : List (List D)} {a0_2 : List (List D)} {a0_3 : Int} {a1_0 : ByteArray} {a1_1 : List (List D)} {a1_2 : List (List D)} {a1_3 : Int} {φ : Bool → Prop} (h : Tm (fun k => B ≤ k) (fun k => laws_eqIsland.t k a0_0 a0_1 a0_2 a0_3 a1_0 a1_1 a1_2 a1_3) φ) {G : ι → Bool → Option α} (hG : ∀ z0, φ z0 → Tm ok (fun ι0 => G ι0 z0) ψ) : Tm ok (fun ι0 => laws_eqIsland.f (p ι0) a0_0 a0_1 a0_2 a0_3 a1_0 a1_1 a1_2 a1_3 (G ι0)) ψ := by
  obtain ⟨z0, h1, h2⟩ := h
  exact (hG z0 h1).congr fun i0 hi0 => laws_eqIsland.f_of (h2 (p i0) (hp i0 hi0)) _
theorem laws_eqIsland.T {B : Nat} {a0_0 : ByteArray} {a0_1 : List (List D)} {a0_2 : List (List D)} {a0_3 : Int} (ga0_0 : a0_0.size ≤ B) (ga0_1 : Zm RSS B a0_1) (ga0_2 : Zm RS B a0_2) (hB : B ≤ 1099511627776) : Tm Zar (fun k => laws_eqIsland.t k a0_0 a0_1 a0_2 a0_3 a0_0 a0_1 a0_2 a0_3) (fun r => r = true) := by
  unfold laws_eqIsland.t laws_eqIsland.g
  have hm := Za
  have hlim : lim = 1048576 := rfl
  refine Tm.ite (fun h1 => ?_) (fun h1 => ?_)
  · try simp only [bz0, bz1, bz2, bz3, bz4, bz5, bz6, bz7, bz8, bz9, bza] at h1
    exact Tm.ret (by first | rfl | (exfalso; simp [Zi] at *))
  · try simp only [bz0, bz1, bz2, bz3, bz4, bz5, bz6, bz7, bz8, bz9, bza] at h1
    refine laws_eqLabelS.tm (fun i hi => hi) (laws_eqLabelS.T (by first | assumption | omega) (by first | assumption | omega)) (fun y3 hy2 => ?_)
    subst hy2
    refine Tm.ite (fun h4 => ?_) (fun h4 => ?_)
    · try simp only [bz0, bz1, bz2, bz3, bz4, bz5, bz6, bz7, bz8, bz9, bza] at h4
      exact Tm.ret (by first | rfl | (exfalso; simp [Zi] at *))
    · try simp only [bz0, bz1, bz2, bz3, bz4, bz5, bz6, bz7, bz8, bz9, bza] at h4
      refine laws_eqStringS.tm (fun i hi => hi) (laws_eqStringS.T (by first | assumption | omega) (by first | assumption | omega)) (fun y6 hy5 => ?_)
      subst hy5
      refine Tm.ite (fun h7 => ?_) (fun h7 => ?_)
      · try simp only [bz0, bz1, bz2, bz3, bz4, bz5, bz6, bz7, bz8, bz9, bza] at h7
        exact Tm.ret (by first | rfl | (exfalso; simp [Zi] at *))
      · try simp only [bz0, bz1, bz2, bz3, bz4, bz5, bz6, bz7, bz8, bz9, bza] at h7
        refine Tm.ite (fun h8 => ?_) (fun h8 => ?_)
        · try simp only [bz0, bz1, bz2, bz3, bz4, bz5, bz6, bz7, bz8, bz9, bza] at h8
          exact Tm.ret (by first | rfl | (exfalso; simp [Zi] at *))
        · try simp only [bz0, bz1, bz2, bz3, bz4, bz5, bz6, bz7, bz8, bz9, bza] at h8
          exact Tm.ret (by first | rfl | (exfalso; simp [Zi] at *))
theorem laws_eqPost.f_of {β : Type} {k : Nat} {a0_0 : ByteArray} {a0_1 : List (List D)} {a0_2 : List (List D)} {a0_3 : Int} {a0_4 : Int} {a0_5 : Int} {a1_0 : ByteArray} {a1_1 : List (List D)} {a1_2 : List (List D)} {a1_3 : Int} {a1_4 : Int} {a1_5 : Int} {z0 : Bool} (h : laws_eqPost.t k a0_0 a0_1 a0_2 a0_3 a0_4 a0_5 a1_0 a1_1 a1_2 a1_3 a1_4 a1_5 = some z0) (K : Bool → Option β) : laws_eqPost.f k a0_0 a0_1 a0_2 a0_3 a0_4 a0_5 a1_0 a1_1 a1_2 a1_3 a1_4 a1_5 K = K z0 := by
  unfold laws_eqPost.f
  rw [h]
theorem laws_eqPost.tm {ι α : Type} {ok : ι → Prop} {ψ : α → Prop} {p : ι → Nat} {B : Nat} (hp : ∀ i, ok i → B ≤ p i) {a0_0 : ByteArray} {a0_1 : List (List D)} {a0_2 : List (List D)} {a0_3 : Int} {a0_4 : Int} {a0_5 : Int} {a1_0 : ByteArray} {a1_1 : List (List D)} {a1_2 : List (List D)} {a1_3 : Int} {a1_4 : Int} {a1_5 : Int} {φ : Bool → Prop} (h : Tm (fun k => B ≤ k) (fun k => laws_eqPost.t k a0_0 a0_1 a0_2 a0_3 a0_4 a0_5 a1_0 a1_1 a1_2 a1_3 a1_4 a1_5) φ) {G : ι → Bool → Option α} (hG : ∀ z0, φ z0 → Tm ok (fun ι0 => G ι0 z0) ψ) : Tm ok (fun ι0 => laws_eqPost.f (p ι0) a0_0 a0_1 a0_2 a0_3 a0_4 a0_5 a1_0 a1_1 a1_2 a1_3 a1_4 a1_5 (G ι0)) ψ := by
  obtain ⟨z0, h1, h2⟩ := h
  exact (hG z0 h1).congr fun i0 hi0 => laws_eqPost.f_of (h2 (p i0) (hp i0 hi0)) _
theorem laws_eqPost.T {B : Nat} {a0_0 : ByteArray} {a0_1 : List (List D)} {a0_2 : List (List D)} {a0_3 : Int} {a0_4 : Int} {a0_5 : Int} (ga0_0 : a0_0.size ≤ B) (ga0_1 : Zm RSS B a0_1) (ga0_2 : Zm RS B a0_2) (hB : B ≤ 1099511627776) : Tm Zar (fun k => laws_eqPost.t k a0_0 a0_1 a0_2 a0_3 a0_4 a0_5 a0_0 a0_1 a0_2 a0_3 a0_4 a0_5) (fun r => r = true) := by
  unfold laws_eqPost.t laws_eqPost.g
  have hm := Za
  have hlim : lim = 1048576 := rfl
  refine laws_eqIsland.tm (fun i hi => hi) (laws_eqIsland.T (by first | assumption | omega) (by first | assumption | omega) (by first | assumption | omega) (by first | assumption | omega)) (fun y2 hy1 => ?_)
  subst hy1
  refine Tm.ite (fun h3 => ?_) (fun h3 => ?_)
  · try simp only [bz0, bz1, bz2, bz3, bz4, bz5, bz6, bz7, bz8, bz9, bza] at h3
    exact Tm.ret (by first | rfl | (exfalso; simp [Zi] at *))
  · try simp only [bz0, bz1, bz2, bz3, bz4, bz5, bz6, bz7, bz8, bz9, bza] at h3
    refine Tm.ite (fun h4 => ?_) (fun h4 => ?_)
    · try simp only [bz0, bz1, bz2, bz3, bz4, bz5, bz6, bz7, bz8, bz9, bza] at h4
      exact Tm.ret (by first | rfl | (exfalso; simp [Zi] at *))
    · try simp only [bz0, bz1, bz2, bz3, bz4, bz5, bz6, bz7, bz8, bz9, bza] at h4
      refine Tm.ite (fun h5 => ?_) (fun h5 => ?_)
      · try simp only [bz0, bz1, bz2, bz3, bz4, bz5, bz6, bz7, bz8, bz9, bza] at h5
        exact Tm.ret (by first | rfl | (exfalso; simp [Zi] at *))
      · try simp only [bz0, bz1, bz2, bz3, bz4, bz5, bz6, bz7, bz8, bz9, bza] at h5
        exact Tm.ret (by first | rfl | (exfalso; simp [Zi] at *))
theorem laws_eqPostS.f_of {β : Type} {k : Nat} {a0 : List (List D)} {a1 : List (List D)} {z0 : Bool} (h : laws_eqPostS.t k a0 a1 = some z0) (K : Bool → Option β) : laws_eqPostS.f k a0 a1 K = K z0 := by
  unfold laws_eqPostS.f
  rw [h]
theorem laws_eqPostS.tm {ι α : Type} {ok : ι → Prop} {ψ : α → Prop} {p : ι → Nat} {B : Nat} (hp : ∀ i, ok i → B ≤ p i) {a0 : List (List D)} {a1 : List (List D)} {φ : Bool → Prop} (h : Tm (fun k => B ≤ k) (fun k => laws_eqPostS.t k a0 a1) φ) {G : ι → Bool → Option α} (hG : ∀ z0, φ z0 → Tm ok (fun ι0 => G ι0 z0) ψ) : Tm ok (fun ι0 => laws_eqPostS.f (p ι0) a0 a1 (G ι0)) ψ := by
  obtain ⟨z0, h1, h2⟩ := h
  exact (hG z0 h1).congr fun i0 hi0 => laws_eqPostS.f_of (h2 (p i0) (hp i0 hi0)) _
theorem laws_eqPostS.T {B : Nat} {a0 : List (List D)} (ga0 : Zm Ye B a0) (hB : B ≤ 1099511627776) : Tm Zar (fun k => laws_eqPostS.t k a0 a0) (fun r => r = true) := by
  unfold laws_eqPostS.t laws_eqPostS.g
  have hm := Za
  have hlim : lim = 1048576 := rfl
  have hlen := ga0.1
  refine Tm.ite (fun h1 => ?_) (fun h1 => ?_)
  · try simp only [bz0, bz1, bz2, bz3, bz4, bz5, bz6, bz7, bz8, bz9, bza] at h1
    exact Tm.ret (by first | rfl | (exfalso; simp [Zi] at *))
  · try simp only [bz0, bz1, bz2, bz3, bz4, bz5, bz6, bz7, bz8, bz9, bza] at h1
    refine Tm.loop (okk := Zar) (p := fun k => k) (fun i hi => hi) (b := fun k => laws_eqPostS.l0 k a0 a0 (fun z0 => some z0)) (fun i => (((a0.length : Int)) - i).toNat) (fun i => 0 ≤ i ∧ i ≤ (a0.length : Int)) ?_ ?_ ?_
    · rintro i hI
      try simp only [] at hI ⊢
      have : big = 2 ^ 64 := rfl
      have := ga0.1
      omega
    · ((try simp only []); omega)
    · rintro i hI L hL
      try simp only [] at hI
      obtain ⟨i0, i1⟩ := hI
      simp only [laws_eqPostS.l0]
      refine Tm.ite (fun h2 => ?_) (fun h2 => ?_)
      · try simp only [bz0, bz1, bz2, bz3, bz4, bz5, bz6, bz7, bz8, bz9, bza] at h2
        refine Tm.atRow (by first | assumption | omega) (by first | assumption | omega) (fun x3 hx4 hm5 => ?_)
        obtain ⟨c6, c7, c8, c9, c10, c11, rfl, g12, g13, g14, g15, g16, g17, _⟩ := (ga0.2 x3 hm5).open
        refine Tm.uncons ?_
        refine Tm.dStr ?_
        refine Tm.uncons ?_
        refine Tm.dSl ?_
        refine Tm.uncons ?_
        refine Tm.dSl ?_
        refine Tm.uncons ?_
        refine Tm.dInt ?_
        refine Tm.uncons ?_
        refine Tm.dInt ?_
        refine Tm.uncons ?_
        refine Tm.dInt ?_
        refine Tm.atEnd ?_
        refine Tm.atRow (by first | assumption | omega) (by first | assumption | omega) (fun x18 hx19 hm20 => ?_)
        rw [hx4] at hx19
        injection hx19 with hx19
        subst hx19
        refine Tm.uncons ?_
        refine Tm.dStr ?_
        refine Tm.uncons ?_
        refine Tm.dSl ?_
        refine Tm.uncons ?_
        refine Tm.dSl ?_
        refine Tm.uncons ?_
        refine Tm.dInt ?_
        refine Tm.uncons ?_
        refine Tm.dInt ?_
        refine Tm.uncons ?_
        refine Tm.dInt ?_
        refine Tm.atEnd ?_
        refine laws_eqPost.tm (fun i hi => hi.1) (laws_eqPost.T (by first | assumption | omega) (by first | assumption | omega) (by first | assumption | omega) (by first | assumption | omega)) (fun y28 hy27 => ?_)
        subst hy27
        refine Tm.ite (fun h29 => ?_) (fun h29 => ?_)
        · try simp only [bz0, bz1, bz2, bz3, bz4, bz5, bz6, bz7, bz8, bz9, bza] at h29
          exact Tm.ret (by first | rfl | (exfalso; simp [Zi] at *))
        · try simp only [bz0, bz1, bz2, bz3, bz4, bz5, bz6, bz7, bz8, bz9, bza] at h29
          try rw [ZC (x := i + 1) (by omega) (by omega)]
          exact hL _ (by (try simp only []); omega) (by (try simp only []); omega)
      · try simp only [bz0, bz1, bz2, bz3, bz4, bz5, bz6, bz7, bz8, bz9, bza] at h2
        exact Tm.ret (by first | rfl | (exfalso; simp [Zi] at *))
theorem laws_eqHold.f_of {β : Type} {k : Nat} {a0_0 : Int} {a0_1 : ByteArray} {a0_2 : Int} {a0_3 : Int} {a0_4 : Int} {a1_0 : Int} {a1_1 : ByteArray} {a1_2 : Int} {a1_3 : Int} {a1_4 : Int} {z0 : Bool} (h : laws_eqHold.t k a0_0 a0_1 a0_2 a0_3 a0_4 a1_0 a1_1 a1_2 a1_3 a1_4 = some z0) (K : Bool → Option β) : laws_eqHold.f k a0_0 a0_1 a0_2 a0_3 a0_4 a1_0 a1_1 a1_2 a1_3 a1_4 K = K z0 := by
  unfold laws_eqHold.f
  rw [h]
theorem laws_eqHold.tm {ι α : Type} {ok : ι → Prop} {ψ : α → Prop} {p : ι → Nat} {B : Nat} (hp : ∀ i, ok i → B ≤ p i) {a0_0 : Int} {a0_1 : ByteArray} {a0_2 : Int} {a0_3 : Int} {a0_4 : Int} {a1_0 : Int} {a1_1 : ByteArray} {a1_2 : Int} {a1_3 : Int} {a1_4 : Int} {φ : Bool → Prop} (h : Tm (fun k => B ≤ k) (fun k => laws_eqHold.t k a0_0 a0_1 a0_2 a0_3 a0_4 a1_0 a1_1 a1_2 a1_3 a1_4) φ) {G : ι → Bool → Option α} (hG : ∀ z0, φ z0 → Tm ok (fun ι0 => G ι0 z0) ψ) : Tm ok (fun ι0 => laws_eqHold.f (p ι0) a0_0 a0_1 a0_2 a0_3 a0_4 a1_0 a1_1 a1_2 a1_3 a1_4 (G ι0)) ψ := by
  obtain ⟨z0, h1, h2⟩ := h
  exact (hG z0 h1).congr fun i0 hi0 => laws_eqHold.f_of (h2 (p i0) (hp i0 hi0)) _
theorem laws_eqHold.T {B : Nat} {a0_0 : Int} {a0_1 : ByteArray} {a0_2 : Int} {a0_3 : Int} {a0_4 : Int} (ga0_1 : a0_1.size ≤ B) (hB : B ≤ 1099511627776) : Tm Zar (fun k => laws_eqHold.t k a0_0 a0_1 a0_2 a0_3 a0_4 a0_0 a0_1 a0_2 a0_3 a0_4) (fun r => r = true) := by
  unfold laws_eqHold.t laws_eqHold.g
  have hm := Za
  have hlim : lim = 1048576 := rfl
  refine Tm.ite (fun h1 => ?_) (fun h1 => ?_)
  · try simp only [bz0, bz1, bz2, bz3, bz4, bz5, bz6, bz7, bz8, bz9, bza] at h1
    exact Tm.ret (by first | rfl | (exfalso; simp [Zi] at *))
  · try simp only [bz0, bz1, bz2, bz3, bz4, bz5, bz6, bz7, bz8, bz9, bza] at h1
    refine Tm.ite (fun h2 => ?_) (fun h2 => ?_)
    · try simp only [bz0, bz1, bz2, bz3, bz4, bz5, bz6, bz7, bz8, bz9, bza] at h2
      exact Tm.ret (by first | rfl | (exfalso; simp [Zi] at *))
    · try simp only [bz0, bz1, bz2, bz3, bz4, bz5, bz6, bz7, bz8, bz9, bza] at h2
      refine Tm.ite (fun h3 => ?_) (fun h3 => ?_)
      · try simp only [bz0, bz1, bz2, bz3, bz4, bz5, bz6, bz7, bz8, bz9, bza] at h3
        exact Tm.ret (by first | rfl | (exfalso; simp [Zi] at *))
      · try simp only [bz0, bz1, bz2, bz3, bz4, bz5, bz6, bz7, bz8, bz9, bza] at h3
        refine Tm.ite (fun h4 => ?_) (fun h4 => ?_)
        · try simp only [bz0, bz1, bz2, bz3, bz4, bz5, bz6, bz7, bz8, bz9, bza] at h4
          exact Tm.ret (by first | rfl | (exfalso; simp [Zi] at *))
        · try simp only [bz0, bz1, bz2, bz3, bz4, bz5, bz6, bz7, bz8, bz9, bza] at h4
          refine Tm.ite (fun h5 => ?_) (fun h5 => ?_)
          · try simp only [bz0, bz1, bz2, bz3, bz4, bz5, bz6, bz7, bz8, bz9, bza] at h5
            exact Tm.ret (by first | rfl | (exfalso; simp [Zi] at *))
          · try simp only [bz0, bz1, bz2, bz3, bz4, bz5, bz6, bz7, bz8, bz9, bza] at h5
            exact Tm.ret (by first | rfl | (exfalso; simp [Zi] at *))
theorem laws_eqHoldS.f_of {β : Type} {k : Nat} {a0 : List (List D)} {a1 : List (List D)} {z0 : Bool} (h : laws_eqHoldS.t k a0 a1 = some z0) (K : Bool → Option β) : laws_eqHoldS.f k a0 a1 K = K z0 := by
  unfold laws_eqHoldS.f
  rw [h]
theorem laws_eqHoldS.tm {ι α : Type} {ok : ι → Prop} {ψ : α → Prop} {p : ι → Nat} {B : Nat} (hp : ∀ i, ok i → B ≤ p i) {a0 : List (List D)} {a1 : List (List D)} {φ : Bool → Prop} (h : Tm (fun k => B ≤ k) (fun k => laws_eqHoldS.t k a0 a1) φ) {G : ι → Bool → Option α} (hG : ∀ z0, φ z0 → Tm ok (fun ι0 => G ι0 z0) ψ) : Tm ok (fun ι0 => laws_eqHoldS.f (p ι0) a0 a1 (G ι0)) ψ := by
  obtain ⟨z0, h1, h2⟩ := h
  exact (hG z0 h1).congr fun i0 hi0 => laws_eqHoldS.f_of (h2 (p i0) (hp i0 hi0)) _
theorem laws_eqHoldS.T {B : Nat} {a0 : List (List D)} (ga0 : Zm Yg B a0) (hB : B ≤ 1099511627776) : Tm Zar (fun k => laws_eqHoldS.t k a0 a0) (fun r => r = true) := by
  unfold laws_eqHoldS.t laws_eqHoldS.g
  have hm := Za
  have hlim : lim = 1048576 := rfl
  have hlen := ga0.1
  refine Tm.ite (fun h1 => ?_) (fun h1 => ?_)
  · try simp only [bz0, bz1, bz2, bz3, bz4, bz5, bz6, bz7, bz8, bz9, bza] at h1
    exact Tm.ret (by first | rfl | (exfalso; simp [Zi] at *))
  · try simp only [bz0, bz1, bz2, bz3, bz4, bz5, bz6, bz7, bz8, bz9, bza] at h1
    refine Tm.loop (okk := Zar) (p := fun k => k) (fun i hi => hi) (b := fun k => laws_eqHoldS.l0 k a0 a0 (fun z0 => some z0)) (fun i => (((a0.length : Int)) - i).toNat) (fun i => 0 ≤ i ∧ i ≤ (a0.length : Int)) ?_ ?_ ?_
    · rintro i hI
      try simp only [] at hI ⊢
      have : big = 2 ^ 64 := rfl
      have := ga0.1
      omega
    · ((try simp only []); omega)
    · rintro i hI L hL
      try simp only [] at hI
      obtain ⟨i0, i1⟩ := hI
      simp only [laws_eqHoldS.l0]
      refine Tm.ite (fun h2 => ?_) (fun h2 => ?_)
      · try simp only [bz0, bz1, bz2, bz3, bz4, bz5, bz6, bz7, bz8, bz9, bza] at h2
        refine Tm.atRow (by first | assumption | omega) (by first | assumption | omega) (fun x3 hx4 hm5 => ?_)
        obtain ⟨c6, c7, c8, c9, c10, rfl, g11, g12, g13, g14, g15, _⟩ := (ga0.2 x3 hm5).open
        refine Tm.uncons ?_
        refine Tm.dInt ?_
        refine Tm.uncons ?_
        refine Tm.dStr ?_
        refine Tm.uncons ?_
        refine Tm.dInt ?_
        refine Tm.uncons ?_
        refine Tm.dInt ?_
        refine Tm.uncons ?_
        refine Tm.dInt ?_
        refine Tm.atEnd ?_
        refine Tm.atRow (by first | assumption | omega) (by first | assumption | omega) (fun x16 hx17 hm18 => ?_)
        rw [hx4] at hx17
        injection hx17 with hx17
        subst hx17
        refine Tm.uncons ?_
        refine Tm.dInt ?_
        refine Tm.uncons ?_
        refine Tm.dStr ?_
        refine Tm.uncons ?_
        refine Tm.dInt ?_
        refine Tm.uncons ?_
        refine Tm.dInt ?_
        refine Tm.uncons ?_
        refine Tm.dInt ?_
        refine Tm.atEnd ?_
        refine laws_eqHold.tm (fun i hi => hi.1) (laws_eqHold.T (by first | assumption | omega) (by first | assumption | omega)) (fun y25 hy24 => ?_)
        subst hy24
        refine Tm.ite (fun h26 => ?_) (fun h26 => ?_)
        · try simp only [bz0, bz1, bz2, bz3, bz4, bz5, bz6, bz7, bz8, bz9, bza] at h26
          exact Tm.ret (by first | rfl | (exfalso; simp [Zi] at *))
        · try simp only [bz0, bz1, bz2, bz3, bz4, bz5, bz6, bz7, bz8, bz9, bza] at h26
          try rw [ZC (x := i + 1) (by omega) (by omega)]
          exact hL _ (by (try simp only []); omega) (by (try simp only []); omega)
      · try simp only [bz0, bz1, bz2, bz3, bz4, bz5, bz6, bz7, bz8, bz9, bza] at h2
        exact Tm.ret (by first | rfl | (exfalso; simp [Zi] at *))
theorem laws_eqHub.f_of {β : Type} {k : Nat} {a0_0 : Int} {a0_1 : Int} {a0_2 : Int} {a0_3 : List (List D)} {a0_4 : List (List D)} {a0_5 : List (List D)} {a0_6 : List (List D)} {a1_0 : Int} {a1_1 : Int} {a1_2 : Int} {a1_3 : List (List D)} {a1_4 : List (List D)} {a1_5 : List (List D)} {a1_6 : List (List D)} {z0 : Bool} (h : laws_eqHub.t k a0_0 a0_1 a0_2 a0_3 a0_4 a0_5 a0_6 a1_0 a1_1 a1_2 a1_3 a1_4 a1_5 a1_6 = some z0) (K : Bool → Option β) : laws_eqHub.f k a0_0 a0_1 a0_2 a0_3 a0_4 a0_5 a0_6 a1_0 a1_1 a1_2 a1_3 a1_4 a1_5 a1_6 K = K z0 := by
  unfold laws_eqHub.f
  rw [h]
theorem laws_eqHub.tm {ι α : Type} {ok : ι → Prop} {ψ : α → Prop} {p : ι → Nat} {B : Nat} (hp : ∀ i, ok i → B ≤ p i) {a0_0 : Int} {a0_1 : Int} {a0_2 : Int} {a0_3 : List (List D)} {a0_4 : List (List D)} {a0_5 : List (List D)} {a0_6 : List (List D)} {a1_0 : Int} {a1_1 : Int} {a1_2 : Int} {a1_3 : List (List D)} {a1_4 : List (List D)} {a1_5 : List (List D)} {a1_6 : List (List D)} {φ : Bool → Prop} (h : Tm (fun k => B ≤ k) (fun k => laws_eqHub.t k a0_0 a0_1 a0_2 a0_3 a0_4 a0_5 a0_6 a1_0 a1_1 a1_2 a1_3 a1_4 a1_5 a1_6) φ) {G : ι → Bool → Option α} (hG : ∀ z0, φ z0 → Tm ok (fun ι0 => G ι0 z0) ψ) : Tm ok (fun ι0 => laws_eqHub.f (p ι0) a0_0 a0_1 a0_2 a0_3 a0_4 a0_5 a0_6 a1_0 a1_1 a1_2 a1_3 a1_4 a1_5 a1_6 (G ι0)) ψ := by
  obtain ⟨z0, h1, h2⟩ := h
  exact (hG z0 h1).congr fun i0 hi0 => laws_eqHub.f_of (h2 (p i0) (hp i0 hi0)) _
theorem laws_eqHub.T {B : Nat} {a0_0 : Int} {a0_1 : Int} {a0_2 : Int} {a0_3 : List (List D)} {a0_4 : List (List D)} {a0_5 : List (List D)} {a0_6 : List (List D)} (ga0_3 : Zm Ya B a0_3) (ga0_4 : Zm Ye B a0_4) (ga0_5 : Zm Yg B a0_5) (ga0_6 : Zm RS B a0_6) (hB : B ≤ 1099511627776) : Tm (Zay 1) (fun k => laws_eqHub.t k a0_0 a0_1 a0_2 a0_3 a0_4 a0_5 a0_6 a0_0 a0_1 a0_2 a0_3 a0_4 a0_5 a0_6) (fun r => r = true) := by
  unfold laws_eqHub.t laws_eqHub.g
  have hm := Za
  have hlim : lim = 1048576 := rfl
  refine Tm.ite (fun h1 => ?_) (fun h1 => ?_)
  · try simp only [bz0, bz1, bz2, bz3, bz4, bz5, bz6, bz7, bz8, bz9, bza] at h1
    exact Tm.ret (by first | rfl | (exfalso; simp [Zi] at *))
  · try simp only [bz0, bz1, bz2, bz3, bz4, bz5, bz6, bz7, bz8, bz9, bza] at h1
    refine Tm.ite (fun h2 => ?_) (fun h2 => ?_)
    · try simp only [bz0, bz1, bz2, bz3, bz4, bz5, bz6, bz7, bz8, bz9, bza] at h2
      exact Tm.ret (by first | rfl | (exfalso; simp [Zi] at *))
    · try simp only [bz0, bz1, bz2, bz3, bz4, bz5, bz6, bz7, bz8, bz9, bza] at h2
      refine Tm.ite (fun h3 => ?_) (fun h3 => ?_)
      · try simp only [bz0, bz1, bz2, bz3, bz4, bz5, bz6, bz7, bz8, bz9, bza] at h3
        exact Tm.ret (by first | rfl | (exfalso; simp [Zi] at *))
      · try simp only [bz0, bz1, bz2, bz3, bz4, bz5, bz6, bz7, bz8, bz9, bza] at h3
        refine laws_eqJobS.tm (fun i hi => hi) (laws_eqJobS.T (by first | assumption | omega) (by first | assumption | omega)) (fun y5 hy4 => ?_)
        subst hy4
        refine Tm.ite (fun h6 => ?_) (fun h6 => ?_)
        · try simp only [bz0, bz1, bz2, bz3, bz4, bz5, bz6, bz7, bz8, bz9, bza] at h6
          exact Tm.ret (by first | rfl | (exfalso; simp [Zi] at *))
        · try simp only [bz0, bz1, bz2, bz3, bz4, bz5, bz6, bz7, bz8, bz9, bza] at h6
          refine laws_eqPostS.tm (fun i hi => up0 hi) (laws_eqPostS.T (by first | assumption | omega) (by first | assumption | omega)) (fun y8 hy7 => ?_)
          subst hy7
          refine Tm.ite (fun h9 => ?_) (fun h9 => ?_)
          · try simp only [bz0, bz1, bz2, bz3, bz4, bz5, bz6, bz7, bz8, bz9, bza] at h9
            exact Tm.ret (by first | rfl | (exfalso; simp [Zi] at *))
          · try simp only [bz0, bz1, bz2, bz3, bz4, bz5, bz6, bz7, bz8, bz9, bza] at h9
            refine laws_eqHoldS.tm (fun i hi => up0 hi) (laws_eqHoldS.T (by first | assumption | omega) (by first | assumption | omega)) (fun y11 hy10 => ?_)
            subst hy10
            refine Tm.ite (fun h12 => ?_) (fun h12 => ?_)
            · try simp only [bz0, bz1, bz2, bz3, bz4, bz5, bz6, bz7, bz8, bz9, bza] at h12
              exact Tm.ret (by first | rfl | (exfalso; simp [Zi] at *))
            · try simp only [bz0, bz1, bz2, bz3, bz4, bz5, bz6, bz7, bz8, bz9, bza] at h12
              refine laws_eqStringS.tm (fun i hi => up0 hi) (laws_eqStringS.T (by first | assumption | omega) (by first | assumption | omega)) (fun y14 hy13 => ?_)
              subst hy13
              refine Tm.ite (fun h15 => ?_) (fun h15 => ?_)
              · try simp only [bz0, bz1, bz2, bz3, bz4, bz5, bz6, bz7, bz8, bz9, bza] at h15
                exact Tm.ret (by first | rfl | (exfalso; simp [Zi] at *))
              · try simp only [bz0, bz1, bz2, bz3, bz4, bz5, bz6, bz7, bz8, bz9, bza] at h15
                exact Tm.ret (by first | rfl | (exfalso; simp [Zi] at *))
end Go.Proofs.Ytljkbknnnpjmgaa
