/- Printed, and by hand: the functions that FnExactObey reaches come to their end; the program's answer as the reference's. -/
import Derived.Test.YtljkbknnnpjmgaaXEObey1
import Derived.KernelRfl
set_option linter.unusedVariables false
set_option linter.unusedSimpArgs false
namespace Go.Proofs.Ytljkbknnnpjmgaa
open Go Go.T Go.Proofs
theorem ZaW (n : Int) : n = 1 ∨ n = 2 ∨ n = 3 ∨ n = 4 ∨ n = 5 ∨ ((n == 1) = false ∧ (n == 2) = false ∧ (n == 3) = false ∧ (n == 4) = false ∧ (n == 5) = false) := by
  simp only [beq_eq_false_iff_ne]
  omega
theorem laws_szStringS.f_of {β : Type} {k : Nat} {a0 : List (List D)} {a1 : Int} {z0 : Int} (h : laws_szStringS.t k a0 a1 = some z0) (K : Int → Option β) : laws_szStringS.f k a0 a1 K = K z0 := by
  unfold laws_szStringS.f
  rw [h]
theorem laws_szStringS.tm {ι α : Type} {ok : ι → Prop} {ψ : α → Prop} {p : ι → Nat} {B : Nat} (hp : ∀ i, ok i → B ≤ p i) {a0 : List (List D)} {a1 : Int} {φ : Int → Prop} (h : Tm (fun k => B ≤ k) (fun k => laws_szStringS.t k a0 a1) φ) {G : ι → Int → Option α} (hG : ∀ z0, φ z0 → Tm ok (fun ι0 => G ι0 z0) ψ) : Tm ok (fun ι0 => laws_szStringS.f (p ι0) a0 a1 (G ι0)) ψ := by
  obtain ⟨z0, h1, h2⟩ := h
  exact (hG z0 h1).congr fun i0 hi0 => laws_szStringS.f_of (h2 (p i0) (hp i0 hi0)) _
def RS (B : Nat) (r : List D) : Prop := ∃ (c0 : ByteArray), r = [.str c0] ∧ c0.size ≤ B ∧ True
theorem RS.open {B : Nat} {r : List D} (h : RS B r) : ∃ (c0 : ByteArray), r = [.str c0] ∧ c0.size ≤ B ∧ True := h
theorem RS.mono {B B' : Nat} (hb : B ≤ B') {r : List D} (h : RS B r) : RS B' r := by
  obtain ⟨c0, rfl, k0, _⟩ := h
  exact ⟨_, rfl, (Nat.le_trans k0 hb), trivial⟩
theorem RS.wide {xs : List (List D)} (h : Zm RS lim xs) : Zm RS 2097152 xs := ⟨Nat.le_trans h.1 (by decide), fun r hr => (h.2 r hr).mono (by decide)⟩
theorem RS.len {B : Nat} {r : List D} (h : RS B r) : r.length = 1 := by
  obtain ⟨c0, rfl, _⟩ := h.open
  rfl
theorem RS.flat {B : Nat} {xs : List (List D)} (h : ∀ r ∈ xs, RS B r) : Zcm 1 xs := fun r hr => by
  obtain ⟨c0, rfl, _⟩ := (h r hr).open
  exact ⟨rfl, by simp [Zaq]⟩
theorem RS.wt {B : Nat} {xs : List (List D)} (h : ∀ r ∈ xs, RS B r) : ZE xs = 1 * xs.length := wt_flat (R := RS B) (fun r h => by obtain ⟨c0, rfl, _⟩ := h; rfl) xs h
theorem RS.deep {B : Nat} {xs : List (List D)} (h : ∀ r ∈ xs, RS B r) : Zs xs = xs.map (·.map C.d) := deep_flat (R := RS B) (fun r h => by obtain ⟨c0, rfl, _⟩ := h; rfl) xs h
theorem RS.gets {B : Nat} {xs : List (List D)} (h : ∀ r ∈ xs, RS B r) {v : Int} (h0 : 0 ≤ v) (h1 : v < xs.length) : gR xs v = [.str (gS xs v 0)] ∧ (gS xs v 0).size ≤ B ∧ True := by
  obtain ⟨c0, e, k0, _⟩ := (h (gR xs v) (gR_mem h0 h1)).open
  unfold gS
  rw [e]
  exact ⟨rfl, k0, trivial⟩
theorem RS.rows {B : Nat} {xs : List (List D)} (h : ∀ r ∈ xs, RS B r) {v : Int} (h0 : 0 ≤ v) (h1 : v < xs.length) {β : Type} (F : List D → Option β) : ZX xs v F = F [.str (gS xs v 0)] := by
  rw [← (RS.gets h h0 h1).1]
  exact ZbB h0 h1 F
theorem RS.get {B : Nat} {xs : List (List D)} (h : Zm RS B xs) {v : Int} (h0 : 0 ≤ v) (h1 : v < xs.length) : gR xs v = [.str (gS xs v 0)] ∧ (gS xs v 0).size ≤ B ∧ True := RS.gets h.2 h0 h1
theorem RS.row {B : Nat} {xs : List (List D)} (h : Zm RS B xs) {v : Int} (h0 : 0 ≤ v) (h1 : v < xs.length) {β : Type} (F : List D → Option β) : ZX xs v F = F [.str (gS xs v 0)] := RS.rows h.2 h0 h1 F
theorem laws_szStringS.T {a0 : List (List D)} {a1 : Int} (h0 : 0 ≤ a1) (h1 : a1 ≤ 1048576) (ga0 : Zm RS maxLen a0) : Tm Zar (fun k => laws_szStringS.t k a0 a1) (fun r => r < 0 ∨ 0 ≤ r ∧ r ≤ a1 ∧ Zm RS lim a0 ∧ ((ZE a0 : Nat) : Int) ≤ 64 * (a1 - r) ∧ True) := by
  unfold laws_szStringS.t laws_szStringS.g
  have hm := Za
  have hlim : lim = 1048576 := rfl
  have hlen := ga0.1
  try rw [ZC (x := a1 - (a0.length : Int)) (by omega) (by omega)]
  refine Tm.ite (fun h1 => ?_) (fun h1 => ?_)
  · try simp only [bz0, bz1, bz2, bz3, bz4, bz5, bz6, bz7, bz8, bz9, bza] at h1
    exact Tm.ret (by first | (left; omega) | (right; refine ⟨?_, ?_, ?_, ?_, trivial⟩ <;> first | assumption | omega))
  · try simp only [bz0, bz1, bz2, bz3, bz4, bz5, bz6, bz7, bz8, bz9, bza] at h1
    refine Tm.loop (okk := Zar) (p := fun k => k) (fun i hi => hi) (b := fun k => laws_szStringS.l0 k a0 (fun z0 => some z0)) (fun v => match v with | (u0, i) => (((a0.length : Int)) - i).toNat) (fun v => match v with | (u0, i) => 0 ≤ u0 ∧ u0 ≤ a1 ∧ 0 ≤ i ∧ i ≤ (a0.length : Int) ∧ (∀ r ∈ a0.take i.toNat, RS lim r) ∧ ((ZE (a0.take i.toNat) : Nat) : Int) ≤ 64 * (a1 - a0.length - u0 + i)) ?_ ?_ ?_
    · rintro ⟨u0, i⟩ hI
      try simp only [] at hI ⊢
      have : big = 2 ^ 64 := rfl
      have := ga0.1
      omega
    · exact ⟨by omega, by omega, by omega, by simp, by simp, by simp [ZE]⟩
    · rintro ⟨u0, i⟩ hI L hL
      try simp only [] at hI
      obtain ⟨u0a, u0b, i0, i1, hr, hwt⟩ := hI
      simp only [laws_szStringS.l0]
      refine Tm.ite (fun h2 => ?_) (fun h2 => ?_)
      · try simp only [bz0, bz1, bz2, bz3, bz4, bz5, bz6, bz7, bz8, bz9, bza] at h2
        refine Tm.atRow (by first | assumption | omega) (by first | assumption | omega) (fun x3 hx4 hm5 => ?_)
        obtain ⟨c6, rfl, g7, _⟩ := (ga0.2 x3 hm5).open
        refine Tm.uncons ?_
        refine Tm.dStr ?_
        refine Tm.atEnd ?_
        try rw [ZC (x := u0 - (c6.size : Int)) (by omega) (by omega)]
        refine Tm.ite (fun h8 => ?_) (fun h8 => ?_)
        · try simp only [bz0, bz1, bz2, bz3, bz4, bz5, bz6, bz7, bz8, bz9, bza] at h8
          exact Tm.ret (by first | (left; omega) | (rw [List.take_of_length_le (by omega)] at hwt; exact .inr ⟨by omega, by omega, ⟨by simp only [lim]; omega, Zau (by omega) hr⟩, by omega, trivial⟩))
        · try simp only [bz0, bz1, bz2, bz3, bz4, bz5, bz6, bz7, bz8, bz9, bza] at h8
          try rw [ZC (x := i + 1) (by omega) (by omega)]
          have hwx := Zb4 i0 hx4
          simp only [Zbi, wtD] at hwx
          refine hL ((u0 - (c6.size : Int)), (i + 1)) ⟨by omega, by omega, by omega, by omega, Zbd i0 hx4 hr ⟨_, rfl, by first | assumption | omega, trivial⟩, by omega⟩ (by (try simp only []); omega)
      · try simp only [bz0, bz1, bz2, bz3, bz4, bz5, bz6, bz7, bz8, bz9, bza] at h2
        exact Tm.ret (by first | (left; omega) | (rw [List.take_of_length_le (by omega)] at hwt; exact .inr ⟨by omega, by omega, ⟨by simp only [lim]; omega, Zau (by omega) hr⟩, by omega, trivial⟩))
theorem laws_szValueS.f_of {β : Type} {k : Nat} {a0 : List (List D)} {a1 : Int} {z0 : Int} (h : laws_szValueS.t k a0 a1 = some z0) (K : Int → Option β) : laws_szValueS.f k a0 a1 K = K z0 := by
  unfold laws_szValueS.f
  unfold laws_szValueS.w
  rw [h]
theorem laws_szValueS.tm {ι α : Type} {ok : ι → Prop} {ψ : α → Prop} {p : ι → Nat} {B : Nat} (hp : ∀ i, ok i → B ≤ p i) {a0 : List (List D)} {a1 : Int} {φ : Int → Prop} (h : Tm (fun k => B ≤ k) (fun k => laws_szValueS.t k a0 a1) φ) {G : ι → Int → Option α} (hG : ∀ z0, φ z0 → Tm ok (fun ι0 => G ι0 z0) ψ) : Tm ok (fun ι0 => laws_szValueS.f (p ι0) a0 a1 (G ι0)) ψ := by
  obtain ⟨z0, h1, h2⟩ := h
  exact (hG z0 h1).congr fun i0 hi0 => laws_szValueS.f_of (h2 (p i0) (hp i0 hi0)) _
inductive Yc (B : Nat) : Nat → List D → Prop
  | mk {h : Nat} (c0 : Int) (c1 : ByteArray) (c2 : Int) (c3 : List (List D)) (c4 : List (List D)) (k0 : (Lit.int .i64 c0).wf = true) (k1 : c1.size ≤ B) (k2 : (Lit.int .i64 c2).wf = true) (k3 : Zm RS B c3) (k4 : c4.length ≤ B) (m4 : ∀ r ∈ c4, Yc B h r) : Yc B (h + 1) [.int .i64 c0, .str c1, .int .i64 c2, .sl c3, .sl c4]
def Yb (B : Nat) (r : List D) : Prop := ∃ h, (B ≤ 1099511627776 → h ≤ 1099511627776) ∧ Yc B h r
theorem Yb.open {B : Nat} {r : List D} (h : Yb B r) : ∃ (c0 : Int) (c1 : ByteArray) (c2 : Int) (c3 : List (List D)) (c4 : List (List D)), r = [.int .i64 c0, .str c1, .int .i64 c2, .sl c3, .sl c4] ∧ (Lit.int .i64 c0).wf = true ∧ c1.size ≤ B ∧ (Lit.int .i64 c2).wf = true ∧ Zm RS B c3 ∧ Zm Yb B c4 ∧ True := by
  obtain ⟨h, hh, h1⟩ := h
  cases h1 with
  | mk c0 c1 c2 c3 c4 k0 k1 k2 k3 k4 m4 => exact ⟨c0, c1, c2, c3, c4, rfl, k0, k1, k2, k3, ⟨k4, fun r hr => ⟨_, fun hb => by have := hh hb; omega, m4 r hr⟩⟩, trivial⟩
theorem Yc.up {B B' : Nat} (hb : B ≤ B') : ∀ {h : Nat} {r : List D}, Yc B h r → Yc B' h r
  | _ + 1, _, .mk c0 c1 c2 c3 c4 k0 k1 k2 k3 k4 m4 => .mk c0 c1 c2 c3 c4 k0 (Nat.le_trans k1 hb) k2 ⟨Nat.le_trans k3.1 hb, fun r hr => (k3.2 r hr).mono hb⟩ (Nat.le_trans k4 hb) (fun r hr => Yc.up hb (m4 r hr))
theorem Yb.mono {B B' : Nat} (hb : B ≤ B') {r : List D} (h : Yb B r) : Yb B' r := by
  obtain ⟨h, hh, h1⟩ := h
  exact ⟨h, fun h2 => hh (Nat.le_trans hb h2), h1.up hb⟩
theorem Yc.mono {B : Nat} : ∀ {h h' : Nat} {r : List D}, h ≤ h' → Yc B h r → Yc B h' r
  | _, 0, _, hl, .mk .. => by omega
  | _ + 1, _ + 1, _, hl, .mk c0 c1 c2 c3 c4 k0 k1 k2 k3 k4 m4 => .mk c0 c1 c2 c3 c4 k0 k1 k2 k3 k4 (fun r hr => Yc.mono (by omega) (m4 r hr))
theorem Yb.wide {xs : List (List D)} (h : Zm Yb lim xs) : Zm Yb 2097152 xs := ⟨Nat.le_trans h.1 (by decide), fun r hr => (h.2 r hr).mono (by decide)⟩
theorem Yb.len {B : Nat} {r : List D} (h : Yb B r) : r.length = 5 := by
  obtain ⟨c0, c1, c2, c3, c4, rfl, _⟩ := h.open
  rfl
theorem Yb.gets {B : Nat} {xs : List (List D)} (h : ∀ r ∈ xs, Yb B r) {v : Int} (h0 : 0 ≤ v) (h1 : v < xs.length) : gR xs v = [.int .i64 (gI xs v 0), .str (gS xs v 1), .int .i64 (gI xs v 2), .sl (gL xs v 3), .sl (gL xs v 4)] ∧ (Lit.int .i64 (gI xs v 0)).wf = true ∧ (gS xs v 1).size ≤ B ∧ (Lit.int .i64 (gI xs v 2)).wf = true ∧ Zm RS B (gL xs v 3) ∧ Zm Yb B (gL xs v 4) ∧ True := by
  obtain ⟨c0, c1, c2, c3, c4, e, k0, k1, k2, k3, k4, _⟩ := (h (gR xs v) (gR_mem h0 h1)).open
  unfold gI gL gS
  rw [e]
  exact ⟨rfl, k0, k1, k2, k3, k4, trivial⟩
theorem Yb.rows {B : Nat} {xs : List (List D)} (h : ∀ r ∈ xs, Yb B r) {v : Int} (h0 : 0 ≤ v) (h1 : v < xs.length) {β : Type} (F : List D → Option β) : ZX xs v F = F [.int .i64 (gI xs v 0), .str (gS xs v 1), .int .i64 (gI xs v 2), .sl (gL xs v 3), .sl (gL xs v 4)] := by
  rw [← (Yb.gets h h0 h1).1]
  exact ZbB h0 h1 F
theorem Yb.get {B : Nat} {xs : List (List D)} (h : Zm Yb B xs) {v : Int} (h0 : 0 ≤ v) (h1 : v < xs.length) : gR xs v = [.int .i64 (gI xs v 0), .str (gS xs v 1), .int .i64 (gI xs v 2), .sl (gL xs v 3), .sl (gL xs v 4)] ∧ (Lit.int .i64 (gI xs v 0)).wf = true ∧ (gS xs v 1).size ≤ B ∧ (Lit.int .i64 (gI xs v 2)).wf = true ∧ Zm RS B (gL xs v 3) ∧ Zm Yb B (gL xs v 4) ∧ True := Yb.gets h.2 h0 h1
theorem Yb.row {B : Nat} {xs : List (List D)} (h : Zm Yb B xs) {v : Int} (h0 : 0 ≤ v) (h1 : v < xs.length) {β : Type} (F : List D → Option β) : ZX xs v F = F [.int .i64 (gI xs v 0), .str (gS xs v 1), .int .i64 (gI xs v 2), .sl (gL xs v 3), .sl (gL xs v 4)] := Yb.rows h.2 h0 h1 F
theorem laws_szValue.f_of {β : Type} {k : Nat} {a0_0 : Int} {a0_1 : ByteArray} {a0_2 : Int} {a0_3 : List (List D)} {a0_4 : List (List D)} {a1 : Int} {z0 : Int} (h : laws_szValue.t k a0_0 a0_1 a0_2 a0_3 a0_4 a1 = some z0) (K : Int → Option β) : laws_szValue.f k a0_0 a0_1 a0_2 a0_3 a0_4 a1 K = K z0 := by
  unfold laws_szValue.f
  unfold laws_szValue.w
  rw [h]
theorem laws_szValue.tm {ι α : Type} {ok : ι → Prop} {ψ : α → Prop} {p : ι → Nat} {B : Nat} (hp : ∀ i, ok i → B ≤ p i) {a0_0 : Int} {a0_1 : ByteArray} {a0_2 : Int} {a0_3 : List (List D)} {a0_4 : List (List D)} {a1 : Int} {φ : Int → Prop} (h : Tm (fun k => B ≤ k) (fun k => laws_szValue.t k a0_0 a0_1 a0_2 a0_3 a0_4 a1) φ) {G : ι → Int → Option α} (hG : ∀ z0, φ z0 → Tm ok (fun ι0 => G ι0 z0) ψ) : Tm ok (fun ι0 => laws_szValue.f (p ι0) a0_0 a0_1 a0_2 a0_3 a0_4 a1 (G ι0)) ψ := by
  obtain ⟨z0, h1, h2⟩ := h
  exact (hG z0 h1).congr fun i0 hi0 => laws_szValue.f_of (h2 (p i0) (hp i0 hi0)) _
theorem szVal (n : Nat) : (∀ (left : Int) (a : List (List D)), 0 ≤ left → left ≤ n → left ≤ 1048576 → Zm Yb maxLen a → Tm (fun k => big + 2 * n + 1 ≤ k) (fun k => laws_szValueS.t k a left) (fun r => r < 0 ∨ 0 ≤ r ∧ r ≤ left ∧ a.length ≤ lim ∧ (∀ x ∈ a, Yc lim (left - r).toNat x) ∧ ((ZE a : Nat) : Int) ≤ 64 * (left - r))) ∧
    (∀ (left c0 : Int) (c1 : ByteArray) (c2 : Int) (c3 c4 : List (List D)), 0 ≤ left → left ≤ n → left ≤ 1048576 → c1.size ≤ maxLen → Zm RS maxLen c3 → Zm Yb maxLen c4 → Tm (fun k => big + 2 * n + 2 ≤ k) (fun k => laws_szValue.t k c0 c1 c2 c3 c4 left) (fun r => r < 0 ∨ 0 ≤ r ∧ r ≤ left ∧ c1.size ≤ lim ∧ Zm RS lim c3 ∧ c4.length ≤ lim ∧ (∀ x ∈ c4, Yc lim (left - r).toNat x) ∧ ((ZE c3 + ZE c4 : Nat) : Int) ≤ 64 * (left - r))) := by
  have hm := Za
  have hlim : lim = 1048576 := rfl
  have hb : big = 2 ^ 64 := rfl
  induction n using Nat.strongRecOn with
  | ind n ih =>
  have S : ∀ (left : Int) (a : List (List D)), 0 ≤ left → left ≤ n → left ≤ 1048576 → Zm Yb maxLen a → Tm (fun k => big + 2 * n + 1 ≤ k) (fun k => laws_szValueS.t k a left) (fun r => r < 0 ∨ 0 ≤ r ∧ r ≤ left ∧ a.length ≤ lim ∧ (∀ x ∈ a, Yc lim (left - r).toNat x) ∧ ((ZE a : Nat) : Int) ≤ 64 * (left - r)) := by
    intro left a h0 h1 h2 g
    have hlen := g.1
    refine Tm.succ (g := fun k => laws_szValueS.g k a left (fun z0 => some z0)) (fun k => laws_szValueS.t_succ k a left) ?_
    unfold laws_szValueS.g laws_szValueS.body
    rw [ZC (x := left - a.length) (by omega) (by omega)]
    refine Tm.ite (fun h3 => Tm.ret (.inl (by omega))) (fun h3 => ?_)
    simp only [decide_eq_false_iff_not, Int.not_lt] at h3
    refine Tm.loop (okk := fun k => big + 2 * n ≤ k) (p := fun k => k) (fun i hi => by omega) (b := fun k => laws_szValueS.l0 k (laws_szValueS.f k) (laws_szValue.f k) a (fun z0 => some z0)) (fun v => match v with | (u0, i) => (((a.length : Int)) - i).toNat) (fun v => match v with | (u0, i) => 0 ≤ u0 ∧ u0 ≤ left - a.length ∧ 0 ≤ i ∧ i ≤ (a.length : Int) ∧ (∀ r ∈ a.take i.toNat, Yc lim (left - u0).toNat r) ∧ ((ZE (a.take i.toNat) : Nat) : Int) ≤ 64 * (left - a.length - u0 + i)) ?_ ?_ ?_
    · rintro ⟨u0, i⟩ hI
      simp only [] at hI ⊢
      omega
    · exact ⟨by omega, by omega, by omega, by omega, by simp, by simp [ZE]⟩
    · rintro ⟨u0, i⟩ hI L hL
      simp only [] at hI
      obtain ⟨u0a, u0b, i0, i1, hr, hwt⟩ := hI
      simp only [laws_szValueS.l0]
      refine Tm.ite (fun h4 => ?_) (fun h4 => ?_)
      · simp only [decide_eq_true_eq] at h4
        refine Tm.atRow (by omega) (by omega) (fun x5 hx6 hm7 => ?_)
        obtain ⟨c0, c1, c2, c3, c4, rfl, w0, g1, w2, g3, g4, _⟩ := (g.2 x5 hm7).open
        refine Tm.uncons (Tm.dInt (Tm.uncons (Tm.dStr (Tm.uncons (Tm.dInt (Tm.uncons (Tm.dSl (Tm.uncons (Tm.dSl (Tm.atEnd ?_))))))))))
        refine laws_szValue.tm (B := big + 2 * (n - 1) + 2) (fun i hi => by have := hi.1; omega) ((ih (n - 1) (by omega)).2 u0 c0 c1 c2 c3 c4 u0a (by omega) (by omega) g1 g3 g4) (fun y hy => ?_)
        rcases hy with hy | ⟨y0, y1, q1, q3, q4, q5, qw⟩
        · exact Tm.ite (fun _ => Tm.ret (.inl (by omega))) (fun h => by simp at h; omega)
        refine Tm.ite (fun h8 => by simp at h8; omega) (fun h8 => ?_)
        rw [ZC (x := i + 1) (by omega) (by omega)]
        have hwx := Zb4 i0 hx6
        simp only [Zbi, wtD] at hwx
        refine hL (y, i + 1) ⟨by omega, by omega, by omega, by omega, Zbd i0 hx6 (fun r hr' => (hr r hr').mono (by omega)) ?_, by omega⟩ (by simp only []; omega)
        exact Yc.mono (h := (u0 - y).toNat + 1) (by omega) (.mk _ _ _ _ _ w0 q1 w2 q3 q4 q5)
      · simp only [decide_eq_false_iff_not, Int.not_lt] at h4
        rw [List.take_of_length_le (by omega)] at hwt
        exact Tm.ret (.inr ⟨by omega, by omega, by omega, fun x hx => (Zau (by omega) hr x hx).mono (by omega), by omega⟩)
  refine ⟨S, ?_⟩
  intro left c0 c1 c2 c3 c4 h0 h1 h2 g1 g3 g4
  refine Tm.succ (g := fun k => laws_szValue.g k c0 c1 c2 c3 c4 left (fun z0 => some z0)) (fun k => laws_szValue.t_succ k c0 c1 c2 c3 c4 left) ?_
  unfold laws_szValue.g laws_szValue.body
  rw [ZC (x := left - c1.size) (by omega) (by omega)]
  refine Tm.ite (fun h3 => Tm.ret (.inl (by omega))) (fun h3 => ?_)
  simp only [decide_eq_false_iff_not, Int.not_lt] at h3
  refine laws_szStringS.tm (B := big) (fun i hi => by omega) (laws_szStringS.T (by omega) (by omega) g3) (fun y hy => ?_)
  rcases hy with hy | ⟨y0, y1, q3, qw, _⟩
  · exact Tm.ite (fun _ => Tm.ret (.inl (by omega))) (fun h => by simp at h; omega)
  refine Tm.ite (fun h8 => by simp at h8; omega) (fun h8 => ?_)
  refine laws_szValueS.tm (B := big + 2 * n + 1) (fun i hi => hi) (S y c4 y0 (by omega) (by omega) g4) (fun y' hy' => ?_)
  rcases hy' with hy' | ⟨y0', y1', q4, q5, qw'⟩
  · exact Tm.ite (fun _ => Tm.ret (.inl (by omega))) (fun h => by simp at h; omega)
  refine Tm.ite (fun h8 => by simp at h8; omega) (fun h8 => ?_)
  exact Tm.ret (.inr ⟨by omega, by omega, by omega, q3, q4, fun x hx => (q5 x hx).mono (by omega), by omega⟩)
theorem big_lv1 {n : Nat} (h : n ≤ 4398046511104) : big + n ≤ lv 1 := by
  have hb : big = 2 ^ 64 := rfl
  have : lv 1 = 2 ^ 65 := rfl
  omega
theorem laws_szValueS.T {a0 : List (List D)} {a1 : Int} (h0 : 0 ≤ a1) (h1 : a1 ≤ 1048576) (g : Zm Yb maxLen a0) : Tm (Zay 1) (fun k => laws_szValueS.t k a0 a1) (fun r => r < 0 ∨ 0 ≤ r ∧ r ≤ a1 ∧ Zm Yb lim a0 ∧ ((ZE a0 : Nat) : Int) ≤ 64 * (a1 - r) ∧ True) :=
  (((szVal a1.toNat).1 a1 a0 h0 (by omega) h1 g).up (big_lv1 (n := 2 * a1.toNat + 1) (by omega))).mono fun r hr => by
    rcases hr with hr | ⟨r0, r1, r2, r3, r4⟩
    · exact .inl hr
    · exact .inr ⟨r0, r1, ⟨r2, fun x hx => ⟨_, fun _ => by omega, r3 x hx⟩⟩, r4, trivial⟩
theorem laws_szValue.T {a0_0 : Int} {a0_1 : ByteArray} {a0_2 : Int} {a0_3 a0_4 : List (List D)} {a1 : Int} (h0 : 0 ≤ a1) (h1 : a1 ≤ 1048576) (g1 : a0_1.size ≤ maxLen) (g3 : Zm RS maxLen a0_3) (g4 : Zm Yb maxLen a0_4) : Tm (Zay 1) (fun k => laws_szValue.t k a0_0 a0_1 a0_2 a0_3 a0_4 a1) (fun r => r < 0 ∨ 0 ≤ r ∧ r ≤ a1 ∧ a0_1.size ≤ lim ∧ Zm RS lim a0_3 ∧ Zm Yb lim a0_4 ∧ ((ZE a0_3 + ZE a0_4 : Nat) : Int) ≤ 64 * (a1 - r) ∧ True) :=
  (((szVal a1.toNat).2 a1 a0_0 a0_1 a0_2 a0_3 a0_4 h0 (by omega) h1 g1 g3 g4).up (big_lv1 (n := 2 * a1.toNat + 2) (by omega))).mono fun r hr => by
    rcases hr with hr | ⟨r0, r1, r2, r3, r4, r5, r6⟩
    · exact .inl hr
    · exact .inr ⟨r0, r1, r2, r3, ⟨r4, fun x hx => ⟨_, fun _ => by omega, r5 x hx⟩⟩, r6, trivial⟩
theorem laws_szWork.f_of {β : Type} {k : Nat} {a0_0 : Int} {a0_1 : Int} {a0_2 : Int} {a0_3 : ByteArray} {a0_4 : Int} {a0_5 : List (List D)} {a0_6 : List (List D)} {a1 : Int} {z0 : Int} (h : laws_szWork.t k a0_0 a0_1 a0_2 a0_3 a0_4 a0_5 a0_6 a1 = some z0) (K : Int → Option β) : laws_szWork.f k a0_0 a0_1 a0_2 a0_3 a0_4 a0_5 a0_6 a1 K = K z0 := by
  unfold laws_szWork.f
  rw [h]
theorem laws_szWork.tm {ι α : Type} {ok : ι → Prop} {ψ : α → Prop} {p : ι → Nat} {B : Nat} (hp : ∀ i, ok i → B ≤ p i) {a0_0 : Int} {a0_1 : Int} {a0_2 : Int} {a0_3 : ByteArray} {a0_4 : Int} {a0_5 : List (List D)} {a0_6 : List (List D)} {a1 : Int} {φ : Int → Prop} (h : Tm (fun k => B ≤ k) (fun k => laws_szWork.t k a0_0 a0_1 a0_2 a0_3 a0_4 a0_5 a0_6 a1) φ) {G : ι → Int → Option α} (hG : ∀ z0, φ z0 → Tm ok (fun ι0 => G ι0 z0) ψ) : Tm ok (fun ι0 => laws_szWork.f (p ι0) a0_0 a0_1 a0_2 a0_3 a0_4 a0_5 a0_6 a1 (G ι0)) ψ := by
  obtain ⟨z0, h1, h2⟩ := h
  exact (hG z0 h1).congr fun i0 hi0 => laws_szWork.f_of (h2 (p i0) (hp i0 hi0)) _
theorem laws_szWork.T {a0_0 : Int} {a0_1 : Int} {a0_2 : Int} {a0_3 : ByteArray} {a0_4 : Int} {a0_5 : List (List D)} {a0_6 : List (List D)} {a1 : Int} (h0 : 0 ≤ a1) (h1 : a1 ≤ 1048576) (ga0_3 : a0_3.size ≤ maxLen) (ga0_5 : Zm RS maxLen a0_5) (ga0_6 : Zm Yb maxLen a0_6) : Tm (Zay 1) (fun k => laws_szWork.t k a0_0 a0_1 a0_2 a0_3 a0_4 a0_5 a0_6 a1) (fun r => r < 0 ∨ 0 ≤ r ∧ r ≤ a1 ∧ a0_3.size ≤ lim ∧ Zm RS lim a0_5 ∧ Zm Yb lim a0_6 ∧ ((ZE a0_5 + ZE a0_6 : Nat) : Int) ≤ 64 * (a1 - r) ∧ True) := by
  unfold laws_szWork.t laws_szWork.g
  have hm := Za
  have hlim : lim = 1048576 := rfl
  refine laws_szValue.tm (fun i hi => hi) (laws_szValue.T (by first | assumption | omega) (by first | assumption | omega) (by first | assumption | omega) (by first | assumption | omega) (by first | assumption | omega)) (fun y2 hy1 => ?_)
  rcases hy1 with hy1 | ⟨p7, p8, q3, q4, q5, q6, _⟩
  · exact Tm.ite (fun _ => Tm.ret (by left; omega)) (fun h => by simp at h; omega)
  refine Tm.ite (fun h9 => ?_) (fun h9 => ?_)
  · try simp only [bz0, bz1, bz2, bz3, bz4, bz5, bz6, bz7, bz8, bz9, bza] at h9
    exact Tm.ret (by first | (left; omega) | (right; refine ⟨?_, ?_, ?_, ?_, ?_, ?_, trivial⟩ <;> first | assumption | omega))
  · try simp only [bz0, bz1, bz2, bz3, bz4, bz5, bz6, bz7, bz8, bz9, bza] at h9
    exact Tm.ret (by first | (left; omega) | (right; refine ⟨?_, ?_, ?_, ?_, ?_, ?_, trivial⟩ <;> first | assumption | omega))
theorem laws_szWorkS.f_of {β : Type} {k : Nat} {a0 : List (List D)} {a1 : Int} {z0 : Int} (h : laws_szWorkS.t k a0 a1 = some z0) (K : Int → Option β) : laws_szWorkS.f k a0 a1 K = K z0 := by
  unfold laws_szWorkS.f
  rw [h]
theorem laws_szWorkS.tm {ι α : Type} {ok : ι → Prop} {ψ : α → Prop} {p : ι → Nat} {B : Nat} (hp : ∀ i, ok i → B ≤ p i) {a0 : List (List D)} {a1 : Int} {φ : Int → Prop} (h : Tm (fun k => B ≤ k) (fun k => laws_szWorkS.t k a0 a1) φ) {G : ι → Int → Option α} (hG : ∀ z0, φ z0 → Tm ok (fun ι0 => G ι0 z0) ψ) : Tm ok (fun ι0 => laws_szWorkS.f (p ι0) a0 a1 (G ι0)) ψ := by
  obtain ⟨z0, h1, h2⟩ := h
  exact (hG z0 h1).congr fun i0 hi0 => laws_szWorkS.f_of (h2 (p i0) (hp i0 hi0)) _
def Ya (B : Nat) (r : List D) : Prop := ∃ (c0 : Int) (c1 : Int) (c2 : Int) (c3 : ByteArray) (c4 : Int) (c5 : List (List D)) (c6 : List (List D)), r = [.int .i64 c0, .int .i64 c1, .int .i64 c2, .str c3, .int .i64 c4, .sl c5, .sl c6] ∧ (Lit.int .i64 c0).wf = true ∧ (Lit.int .i64 c1).wf = true ∧ (Lit.int .i64 c2).wf = true ∧ c3.size ≤ B ∧ (Lit.int .i64 c4).wf = true ∧ Zm RS B c5 ∧ Zm Yb B c6 ∧ True
theorem Ya.open {B : Nat} {r : List D} (h : Ya B r) : ∃ (c0 : Int) (c1 : Int) (c2 : Int) (c3 : ByteArray) (c4 : Int) (c5 : List (List D)) (c6 : List (List D)), r = [.int .i64 c0, .int .i64 c1, .int .i64 c2, .str c3, .int .i64 c4, .sl c5, .sl c6] ∧ (Lit.int .i64 c0).wf = true ∧ (Lit.int .i64 c1).wf = true ∧ (Lit.int .i64 c2).wf = true ∧ c3.size ≤ B ∧ (Lit.int .i64 c4).wf = true ∧ Zm RS B c5 ∧ Zm Yb B c6 ∧ True := h
theorem Ya.mono {B B' : Nat} (hb : B ≤ B') {r : List D} (h : Ya B r) : Ya B' r := by
  obtain ⟨c0, c1, c2, c3, c4, c5, c6, rfl, k0, k1, k2, k3, k4, k5, k6, _⟩ := h
  exact ⟨_, _, _, _, _, _, _, rfl, k0, k1, k2, (Nat.le_trans k3 hb), k4, ⟨Nat.le_trans k5.1 hb, fun r hr => (k5.2 r hr).mono hb⟩, ⟨Nat.le_trans k6.1 hb, fun r hr => (k6.2 r hr).mono hb⟩, trivial⟩
theorem Ya.wide {xs : List (List D)} (h : Zm Ya lim xs) : Zm Ya 2097152 xs := ⟨Nat.le_trans h.1 (by decide), fun r hr => (h.2 r hr).mono (by decide)⟩
theorem Ya.len {B : Nat} {r : List D} (h : Ya B r) : r.length = 7 := by
  obtain ⟨c0, c1, c2, c3, c4, c5, c6, rfl, _⟩ := h.open
  rfl
theorem Ya.gets {B : Nat} {xs : List (List D)} (h : ∀ r ∈ xs, Ya B r) {v : Int} (h0 : 0 ≤ v) (h1 : v < xs.length) : gR xs v = [.int .i64 (gI xs v 0), .int .i64 (gI xs v 1), .int .i64 (gI xs v 2), .str (gS xs v 3), .int .i64 (gI xs v 4), .sl (gL xs v 5), .sl (gL xs v 6)] ∧ (Lit.int .i64 (gI xs v 0)).wf = true ∧ (Lit.int .i64 (gI xs v 1)).wf = true ∧ (Lit.int .i64 (gI xs v 2)).wf = true ∧ (gS xs v 3).size ≤ B ∧ (Lit.int .i64 (gI xs v 4)).wf = true ∧ Zm RS B (gL xs v 5) ∧ Zm Yb B (gL xs v 6) ∧ True := by
  obtain ⟨c0, c1, c2, c3, c4, c5, c6, e, k0, k1, k2, k3, k4, k5, k6, _⟩ := (h (gR xs v) (gR_mem h0 h1)).open
  unfold gI gL gS
  rw [e]
  exact ⟨rfl, k0, k1, k2, k3, k4, k5, k6, trivial⟩
theorem Ya.rows {B : Nat} {xs : List (List D)} (h : ∀ r ∈ xs, Ya B r) {v : Int} (h0 : 0 ≤ v) (h1 : v < xs.length) {β : Type} (F : List D → Option β) : ZX xs v F = F [.int .i64 (gI xs v 0), .int .i64 (gI xs v 1), .int .i64 (gI xs v 2), .str (gS xs v 3), .int .i64 (gI xs v 4), .sl (gL xs v 5), .sl (gL xs v 6)] := by
  rw [← (Ya.gets h h0 h1).1]
  exact ZbB h0 h1 F
theorem Ya.get {B : Nat} {xs : List (List D)} (h : Zm Ya B xs) {v : Int} (h0 : 0 ≤ v) (h1 : v < xs.length) : gR xs v = [.int .i64 (gI xs v 0), .int .i64 (gI xs v 1), .int .i64 (gI xs v 2), .str (gS xs v 3), .int .i64 (gI xs v 4), .sl (gL xs v 5), .sl (gL xs v 6)] ∧ (Lit.int .i64 (gI xs v 0)).wf = true ∧ (Lit.int .i64 (gI xs v 1)).wf = true ∧ (Lit.int .i64 (gI xs v 2)).wf = true ∧ (gS xs v 3).size ≤ B ∧ (Lit.int .i64 (gI xs v 4)).wf = true ∧ Zm RS B (gL xs v 5) ∧ Zm Yb B (gL xs v 6) ∧ True := Ya.gets h.2 h0 h1
theorem Ya.row {B : Nat} {xs : List (List D)} (h : Zm Ya B xs) {v : Int} (h0 : 0 ≤ v) (h1 : v < xs.length) {β : Type} (F : List D → Option β) : ZX xs v F = F [.int .i64 (gI xs v 0), .int .i64 (gI xs v 1), .int .i64 (gI xs v 2), .str (gS xs v 3), .int .i64 (gI xs v 4), .sl (gL xs v 5), .sl (gL xs v 6)] := Ya.rows h.2 h0 h1 F
theorem laws_szWorkS.T {a0 : List (List D)} {a1 : Int} (h0 : 0 ≤ a1) (h1 : a1 ≤ 1048576) (ga0 : Zm Ya maxLen a0) : Tm (Zay 1) (fun k => laws_szWorkS.t k a0 a1) (fun r => r < 0 ∨ 0 ≤ r ∧ r ≤ a1 ∧ Zm Ya lim a0 ∧ ((ZE a0 : Nat) : Int) ≤ 64 * (a1 - r) ∧ True) := by
  unfold laws_szWorkS.t laws_szWorkS.g
  have hm := Za
  have hlim : lim = 1048576 := rfl
  have hlen := ga0.1
  try rw [ZC (x := a1 - (a0.length : Int)) (by omega) (by omega)]
  refine Tm.ite (fun h1 => ?_) (fun h1 => ?_)
  · try simp only [bz0, bz1, bz2, bz3, bz4, bz5, bz6, bz7, bz8, bz9, bza] at h1
    exact Tm.ret (by first | (left; omega) | (right; refine ⟨?_, ?_, ?_, ?_, trivial⟩ <;> first | assumption | omega))
  · try simp only [bz0, bz1, bz2, bz3, bz4, bz5, bz6, bz7, bz8, bz9, bza] at h1
    refine Tm.loop (okk := (Zay 1)) (p := fun k => k) (fun i hi => up0 hi) (b := fun k => laws_szWorkS.l0 k a0 (fun z0 => some z0)) (fun v => match v with | (u0, i) => (((a0.length : Int)) - i).toNat) (fun v => match v with | (u0, i) => 0 ≤ u0 ∧ u0 ≤ a1 ∧ 0 ≤ i ∧ i ≤ (a0.length : Int) ∧ (∀ r ∈ a0.take i.toNat, Ya lim r) ∧ ((ZE (a0.take i.toNat) : Nat) : Int) ≤ 64 * (a1 - a0.length - u0 + i)) ?_ ?_ ?_
    · rintro ⟨u0, i⟩ hI
      try simp only [] at hI ⊢
      have : big = 2 ^ 64 := rfl
      have := ga0.1
      omega
    · exact ⟨by omega, by omega, by omega, by simp, by simp, by simp [ZE]⟩
    · rintro ⟨u0, i⟩ hI L hL
      try simp only [] at hI
      obtain ⟨u0a, u0b, i0, i1, hr, hwt⟩ := hI
      simp only [laws_szWorkS.l0]
      refine Tm.ite (fun h2 => ?_) (fun h2 => ?_)
      · try simp only [bz0, bz1, bz2, bz3, bz4, bz5, bz6, bz7, bz8, bz9, bza] at h2
        refine Tm.atRow (by first | assumption | omega) (by first | assumption | omega) (fun x3 hx4 hm5 => ?_)
        obtain ⟨c6, c7, c8, c9, c10, c11, c12, rfl, g13, g14, g15, g16, g17, g18, g19, _⟩ := (ga0.2 x3 hm5).open
        refine Tm.uncons ?_
        refine Tm.dInt ?_
        refine Tm.uncons ?_
        refine Tm.dInt ?_
        refine Tm.uncons ?_
        refine Tm.dInt ?_
        refine Tm.uncons ?_
        refine Tm.dStr ?_
        refine Tm.uncons ?_
        refine Tm.dInt ?_
        refine Tm.uncons ?_
        refine Tm.dSl ?_
        refine Tm.uncons ?_
        refine Tm.dSl ?_
        refine Tm.atEnd ?_
        refine laws_szWork.tm (fun i hi => hi.1) (laws_szWork.T (by first | assumption | omega) (by first | assumption | omega) (by first | assumption | omega) (by first | assumption | omega) (by first | assumption | omega)) (fun y21 hy20 => ?_)
        rcases hy20 with hy20 | ⟨p26, p27, q22, q23, q24, q25, _⟩
        · exact Tm.ite (fun _ => Tm.ret (by left; omega)) (fun h => by simp at h; omega)
        refine Tm.ite (fun h28 => ?_) (fun h28 => ?_)
        · try simp only [bz0, bz1, bz2, bz3, bz4, bz5, bz6, bz7, bz8, bz9, bza] at h28
          exact Tm.ret (by first | (left; omega) | (rw [List.take_of_length_le (by omega)] at hwt; exact .inr ⟨by omega, by omega, ⟨by simp only [lim]; omega, Zau (by omega) hr⟩, by omega, trivial⟩))
        · try simp only [bz0, bz1, bz2, bz3, bz4, bz5, bz6, bz7, bz8, bz9, bza] at h28
          try rw [ZC (x := i + 1) (by omega) (by omega)]
          have hwx := Zb4 i0 hx4
          simp only [Zbi, wtD] at hwx
          refine hL (y21, (i + 1)) ⟨by omega, by omega, by omega, by omega, Zbd i0 hx4 hr ⟨_, _, _, _, _, _, _, rfl, by first | assumption | omega, by first | assumption | omega, by first | assumption | omega, by first | assumption | omega, by first | assumption | omega, by first | assumption | omega, by first | assumption | omega, trivial⟩, by omega⟩ (by (try simp only []); omega)
      · try simp only [bz0, bz1, bz2, bz3, bz4, bz5, bz6, bz7, bz8, bz9, bza] at h2
        exact Tm.ret (by first | (left; omega) | (rw [List.take_of_length_le (by omega)] at hwt; exact .inr ⟨by omega, by omega, ⟨by simp only [lim]; omega, Zau (by omega) hr⟩, by omega, trivial⟩))
theorem laws_szRunS.f_of {β : Type} {k : Nat} {a0 : List (List D)} {a1 : Int} {z0 : Int} (h : laws_szRunS.t k a0 a1 = some z0) (K : Int → Option β) : laws_szRunS.f k a0 a1 K = K z0 := by
  unfold laws_szRunS.f
  rw [h]
theorem laws_szRunS.tm {ι α : Type} {ok : ι → Prop} {ψ : α → Prop} {p : ι → Nat} {B : Nat} (hp : ∀ i, ok i → B ≤ p i) {a0 : List (List D)} {a1 : Int} {φ : Int → Prop} (h : Tm (fun k => B ≤ k) (fun k => laws_szRunS.t k a0 a1) φ) {G : ι → Int → Option α} (hG : ∀ z0, φ z0 → Tm ok (fun ι0 => G ι0 z0) ψ) : Tm ok (fun ι0 => laws_szRunS.f (p ι0) a0 a1 (G ι0)) ψ := by
  obtain ⟨z0, h1, h2⟩ := h
  exact (hG z0 h1).congr fun i0 hi0 => laws_szRunS.f_of (h2 (p i0) (hp i0 hi0)) _
def RII (B : Nat) (r : List D) : Prop := ∃ (c0 : Int) (c1 : Int), r = [.int .i64 c0, .int .i64 c1] ∧ (Lit.int .i64 c0).wf = true ∧ (Lit.int .i64 c1).wf = true ∧ True
theorem RII.open {B : Nat} {r : List D} (h : RII B r) : ∃ (c0 : Int) (c1 : Int), r = [.int .i64 c0, .int .i64 c1] ∧ (Lit.int .i64 c0).wf = true ∧ (Lit.int .i64 c1).wf = true ∧ True := h
theorem RII.mono {B B' : Nat} (hb : B ≤ B') {r : List D} (h : RII B r) : RII B' r := by
  obtain ⟨c0, c1, rfl, k0, k1, _⟩ := h
  exact ⟨_, _, rfl, k0, k1, trivial⟩
theorem RII.wide {xs : List (List D)} (h : Zm RII lim xs) : Zm RII 2097152 xs := ⟨Nat.le_trans h.1 (by decide), fun r hr => (h.2 r hr).mono (by decide)⟩
theorem RII.len {B : Nat} {r : List D} (h : RII B r) : r.length = 2 := by
  obtain ⟨c0, c1, rfl, _⟩ := h.open
  rfl
theorem RII.flat {B : Nat} {xs : List (List D)} (h : ∀ r ∈ xs, RII B r) : Zcm 2 xs := fun r hr => by
  obtain ⟨c0, c1, rfl, _⟩ := (h r hr).open
  exact ⟨rfl, by simp [Zaq]⟩
theorem RII.wt {B : Nat} {xs : List (List D)} (h : ∀ r ∈ xs, RII B r) : ZE xs = 2 * xs.length := wt_flat (R := RII B) (fun r h => by obtain ⟨c0, c1, rfl, _⟩ := h; rfl) xs h
theorem RII.deep {B : Nat} {xs : List (List D)} (h : ∀ r ∈ xs, RII B r) : Zs xs = xs.map (·.map C.d) := deep_flat (R := RII B) (fun r h => by obtain ⟨c0, c1, rfl, _⟩ := h; rfl) xs h
theorem RII.gets {B : Nat} {xs : List (List D)} (h : ∀ r ∈ xs, RII B r) {v : Int} (h0 : 0 ≤ v) (h1 : v < xs.length) : gR xs v = [.int .i64 (gI xs v 0), .int .i64 (gI xs v 1)] ∧ (Lit.int .i64 (gI xs v 0)).wf = true ∧ (Lit.int .i64 (gI xs v 1)).wf = true ∧ True := by
  obtain ⟨c0, c1, e, k0, k1, _⟩ := (h (gR xs v) (gR_mem h0 h1)).open
  unfold gI
  rw [e]
  exact ⟨rfl, k0, k1, trivial⟩
theorem RII.rows {B : Nat} {xs : List (List D)} (h : ∀ r ∈ xs, RII B r) {v : Int} (h0 : 0 ≤ v) (h1 : v < xs.length) {β : Type} (F : List D → Option β) : ZX xs v F = F [.int .i64 (gI xs v 0), .int .i64 (gI xs v 1)] := by
  rw [← (RII.gets h h0 h1).1]
  exact ZbB h0 h1 F
theorem RII.get {B : Nat} {xs : List (List D)} (h : Zm RII B xs) {v : Int} (h0 : 0 ≤ v) (h1 : v < xs.length) : gR xs v = [.int .i64 (gI xs v 0), .int .i64 (gI xs v 1)] ∧ (Lit.int .i64 (gI xs v 0)).wf = true ∧ (Lit.int .i64 (gI xs v 1)).wf = true ∧ True := RII.gets h.2 h0 h1
theorem RII.row {B : Nat} {xs : List (List D)} (h : Zm RII B xs) {v : Int} (h0 : 0 ≤ v) (h1 : v < xs.length) {β : Type} (F : List D → Option β) : ZX xs v F = F [.int .i64 (gI xs v 0), .int .i64 (gI xs v 1)] := RII.rows h.2 h0 h1 F
theorem laws_szRunS.T {a0 : List (List D)} {a1 : Int} (h0 : 0 ≤ a1) (h1 : a1 ≤ 1048576) (ga0 : Zm RII maxLen a0) : Tm Zar (fun k => laws_szRunS.t k a0 a1) (fun r => r < 0 ∨ 0 ≤ r ∧ r ≤ a1 ∧ Zm RII lim a0 ∧ ((ZE a0 : Nat) : Int) ≤ 64 * (a1 - r) ∧ True) := by
  unfold laws_szRunS.t laws_szRunS.g
  have hm := Za
  have hlim : lim = 1048576 := rfl
  have hlen := ga0.1
  try rw [ZC (x := a1 - (a0.length : Int)) (by omega) (by omega)]
  refine Tm.ite (fun h1 => ?_) (fun h1 => ?_)
  · try simp only [bz0, bz1, bz2, bz3, bz4, bz5, bz6, bz7, bz8, bz9, bza] at h1
    exact Tm.ret (by first | (left; omega) | exact .inr ⟨by omega, by omega, ⟨by simp only [lim]; omega, fun r hr => ga0.2 r hr⟩, by rw [RII.wt ga0.2]; omega, trivial⟩)
  · try simp only [bz0, bz1, bz2, bz3, bz4, bz5, bz6, bz7, bz8, bz9, bza] at h1
    exact Tm.ret (by first | (left; omega) | exact .inr ⟨by omega, by omega, ⟨by simp only [lim]; omega, fun r hr => ga0.2 r hr⟩, by rw [RII.wt ga0.2]; omega, trivial⟩)
theorem laws_szIsle.f_of {β : Type} {k : Nat} {a0_0 : ByteArray} {a0_1 : Int} {a0_2 : Int} {a0_3 : List (List D)} {a0_4 : List (List D)} {a1 : Int} {z0 : Int} (h : laws_szIsle.t k a0_0 a0_1 a0_2 a0_3 a0_4 a1 = some z0) (K : Int → Option β) : laws_szIsle.f k a0_0 a0_1 a0_2 a0_3 a0_4 a1 K = K z0 := by
  unfold laws_szIsle.f
  rw [h]
theorem laws_szIsle.tm {ι α : Type} {ok : ι → Prop} {ψ : α → Prop} {p : ι → Nat} {B : Nat} (hp : ∀ i, ok i → B ≤ p i) {a0_0 : ByteArray} {a0_1 : Int} {a0_2 : Int} {a0_3 : List (List D)} {a0_4 : List (List D)} {a1 : Int} {φ : Int → Prop} (h : Tm (fun k => B ≤ k) (fun k => laws_szIsle.t k a0_0 a0_1 a0_2 a0_3 a0_4 a1) φ) {G : ι → Int → Option α} (hG : ∀ z0, φ z0 → Tm ok (fun ι0 => G ι0 z0) ψ) : Tm ok (fun ι0 => laws_szIsle.f (p ι0) a0_0 a0_1 a0_2 a0_3 a0_4 a1 (G ι0)) ψ := by
  obtain ⟨z0, h1, h2⟩ := h
  exact (hG z0 h1).congr fun i0 hi0 => laws_szIsle.f_of (h2 (p i0) (hp i0 hi0)) _
theorem laws_szIsle.T {a0_0 : ByteArray} {a0_1 : Int} {a0_2 : Int} {a0_3 : List (List D)} {a0_4 : List (List D)} {a1 : Int} (h0 : 0 ≤ a1) (h1 : a1 ≤ 1048576) (ga0_0 : a0_0.size ≤ maxLen) (ga0_3 : Zm Ya maxLen a0_3) (ga0_4 : Zm RII maxLen a0_4) : Tm (Zay 1) (fun k => laws_szIsle.t k a0_0 a0_1 a0_2 a0_3 a0_4 a1) (fun r => r < 0 ∨ 0 ≤ r ∧ r ≤ a1 ∧ a0_0.size ≤ lim ∧ Zm Ya lim a0_3 ∧ Zm RII lim a0_4 ∧ ((ZE a0_3 + ZE a0_4 : Nat) : Int) ≤ 64 * (a1 - r) ∧ True) := by
  unfold laws_szIsle.t laws_szIsle.g
  have hm := Za
  have hlim : lim = 1048576 := rfl
  try rw [ZC (x := a1 - (a0_0.size : Int)) (by omega) (by omega)]
  refine Tm.ite (fun h1 => ?_) (fun h1 => ?_)
  · try simp only [bz0, bz1, bz2, bz3, bz4, bz5, bz6, bz7, bz8, bz9, bza] at h1
    exact Tm.ret (by first | (left; omega) | (right; refine ⟨?_, ?_, ?_, ?_, ?_, ?_, trivial⟩ <;> first | assumption | omega))
  · try simp only [bz0, bz1, bz2, bz3, bz4, bz5, bz6, bz7, bz8, bz9, bza] at h1
    refine laws_szWorkS.tm (fun i hi => hi) (laws_szWorkS.T (by first | assumption | omega) (by first | assumption | omega) (by first | assumption | omega)) (fun y3 hy2 => ?_)
    rcases hy2 with hy2 | ⟨p6, p7, q4, q5, _⟩
    · exact Tm.ite (fun _ => Tm.ret (by left; omega)) (fun h => by simp at h; omega)
    refine Tm.ite (fun h8 => ?_) (fun h8 => ?_)
    · try simp only [bz0, bz1, bz2, bz3, bz4, bz5, bz6, bz7, bz8, bz9, bza] at h8
      exact Tm.ret (by first | (left; omega) | (right; refine ⟨?_, ?_, ?_, ?_, ?_, ?_, trivial⟩ <;> first | assumption | omega))
    · try simp only [bz0, bz1, bz2, bz3, bz4, bz5, bz6, bz7, bz8, bz9, bza] at h8
      refine laws_szRunS.tm (fun i hi => up0 hi) (laws_szRunS.T (by first | assumption | omega) (by first | assumption | omega) (by first | assumption | omega)) (fun y10 hy9 => ?_)
      rcases hy9 with hy9 | ⟨p13, p14, q11, q12, _⟩
      · exact Tm.ite (fun _ => Tm.ret (by left; omega)) (fun h => by simp at h; omega)
      refine Tm.ite (fun h15 => ?_) (fun h15 => ?_)
      · try simp only [bz0, bz1, bz2, bz3, bz4, bz5, bz6, bz7, bz8, bz9, bza] at h15
        exact Tm.ret (by first | (left; omega) | (right; refine ⟨?_, ?_, ?_, ?_, ?_, ?_, trivial⟩ <;> first | assumption | omega))
      · try simp only [bz0, bz1, bz2, bz3, bz4, bz5, bz6, bz7, bz8, bz9, bza] at h15
        exact Tm.ret (by first | (left; omega) | (right; refine ⟨?_, ?_, ?_, ?_, ?_, ?_, trivial⟩ <;> first | assumption | omega))
theorem laws_toStringS.f_of {β : Type} {k : Nat} {a0 : List (List D)} {z0 : List (List C)} (h : laws_toStringS.t k a0 = some z0) (K : (List (List C)) → Option β) : laws_toStringS.f k a0 K = K z0 := by
  unfold laws_toStringS.f
  rw [h]
theorem laws_toStringS.tm {ι α : Type} {ok : ι → Prop} {ψ : α → Prop} {p : ι → Nat} {B : Nat} (hp : ∀ i, ok i → B ≤ p i) {a0 : List (List D)} {φ : (List (List C)) → Prop} (h : Tm (fun k => B ≤ k) (fun k => laws_toStringS.t k a0) φ) {G : ι → (List (List C)) → Option α} (hG : ∀ z0, φ z0 → Tm ok (fun ι0 => G ι0 z0) ψ) : Tm ok (fun ι0 => laws_toStringS.f (p ι0) a0 (G ι0)) ψ := by
  obtain ⟨z0, h1, h2⟩ := h
  exact (hG z0 h1).congr fun i0 hi0 => laws_toStringS.f_of (h2 (p i0) (hp i0 hi0)) _
theorem laws_toStringS.T {a0 : List (List D)} (ga0 : Zm RS lim a0) : Tm Zar (fun k => laws_toStringS.t k a0) (fun z => z = Zs a0 ∧ True) := by
  unfold laws_toStringS.t laws_toStringS.g
  have hm := Za
  have hlim : lim = 1048576 := rfl
  have hlen := ga0.1
  refine Tm.guard (by first | omega | (simp only [lim, Za, Z6] at *; omega) | (simp only [lim, Z6] at *; refine ⟨?_, ?_, ?_, ?_⟩ <;> omega)) ?_
  refine Tm.loop (okk := Zar) (p := fun k => k) (fun i hi => hi) (b := fun k => laws_toStringS.l0 k a0 (fun z0 => some z0)) (fun v => match v with | (i, u1) => (((a0.length : Int)) - i).toNat) (fun v => match v with | (i, u1) => 0 ≤ i ∧ i ≤ (a0.length : Int) ∧ Zaw a0 ([.d (.str (⟨#[]⟩ : ByteArray))] : List C) i u1) ?_ ?_ ?_
  · rintro ⟨i, u1⟩ hI
    try simp only [] at hI ⊢
    have : big = 2 ^ 64 := rfl
    have := ga0.1
    simp only [lim] at this
    omega
  · exact ⟨by omega, by simp, Zaw.start _ _⟩
  · rintro ⟨i, u1⟩ hI L hL
    try simp only [] at hI
    obtain ⟨i0, i1, hF⟩ := hI
    have hFl := hF.len i1
    simp only [laws_toStringS.l0]
    refine Tm.ite (fun h1 => ?_) (fun h1 => ?_)
    · try simp only [bz0, bz1, bz2, bz3, bz4, bz5, bz6, bz7, bz8, bz9, bza] at h1
      refine Tm.atRow (by first | assumption | omega) (by first | assumption | omega) (fun x2 hx3 hm4 => ?_)
      obtain ⟨c5, rfl, g6, _⟩ := (ga0.2 x2 hm4).open
      refine Tm.uncons ?_
      refine Tm.dStr ?_
      refine Tm.atEnd ?_
      refine Tm.guard (by first | omega | (simp only [lim, Za, Z6] at *; omega) | (simp only [lim, Z6] at *; refine ⟨?_, ?_, ?_, ?_⟩ <;> omega)) ?_
      refine Tm.guard (by first | omega | (simp only [lim, Za, Z6] at *; omega) | (simp only [lim, Z6] at *; refine ⟨?_, ?_, ?_, ?_⟩ <;> omega)) ?_
      try rw [ZC (x := i + 1) (by omega) (by omega)]
      refine hL (_, _) ⟨by omega, by omega, hF.next i0 hx3 rfl (by simp [Zal, deepD])⟩ (by (try simp only []); omega)
    · try simp only [bz0, bz1, bz2, bz3, bz4, bz5, bz6, bz7, bz8, bz9, bza] at h1
      exact Tm.ret (by exact ⟨hF.all (by omega), trivial⟩)
theorem laws_toValueS.f_of {β : Type} {k : Nat} {a0 : List (List D)} {z0 : List (List C)} (h : laws_toValueS.t k a0 = some z0) (K : (List (List C)) → Option β) : laws_toValueS.f k a0 K = K z0 := by
  unfold laws_toValueS.f
  unfold laws_toValueS.w
  rw [h]
theorem laws_toValueS.tm {ι α : Type} {ok : ι → Prop} {ψ : α → Prop} {p : ι → Nat} {B : Nat} (hp : ∀ i, ok i → B ≤ p i) {a0 : List (List D)} {φ : (List (List C)) → Prop} (h : Tm (fun k => B ≤ k) (fun k => laws_toValueS.t k a0) φ) {G : ι → (List (List C)) → Option α} (hG : ∀ z0, φ z0 → Tm ok (fun ι0 => G ι0 z0) ψ) : Tm ok (fun ι0 => laws_toValueS.f (p ι0) a0 (G ι0)) ψ := by
  obtain ⟨z0, h1, h2⟩ := h
  exact (hG z0 h1).congr fun i0 hi0 => laws_toValueS.f_of (h2 (p i0) (hp i0 hi0)) _
theorem laws_toValue.f_of {β : Type} {k : Nat} {a0_0 : Int} {a0_1 : ByteArray} {a0_2 : Int} {a0_3 : List (List D)} {a0_4 : List (List D)} {z0 : Int} {z1 : ByteArray} {z2 : Int} {z3 : List (List C)} {z4 : List (List C)} (h : laws_toValue.t k a0_0 a0_1 a0_2 a0_3 a0_4 = some (z0, z1, z2, z3, z4)) (K : Int → ByteArray → Int → (List (List C)) → (List (List C)) → Option β) : laws_toValue.f k a0_0 a0_1 a0_2 a0_3 a0_4 K = K z0 z1 z2 z3 z4 := by
  unfold laws_toValue.f
  unfold laws_toValue.w
  rw [h]
theorem laws_toValue.tm {ι α : Type} {ok : ι → Prop} {ψ : α → Prop} {p : ι → Nat} {B : Nat} (hp : ∀ i, ok i → B ≤ p i) {a0_0 : Int} {a0_1 : ByteArray} {a0_2 : Int} {a0_3 : List (List D)} {a0_4 : List (List D)} {φ : Int × ByteArray × Int × (List (List C)) × (List (List C)) → Prop} (h : Tm (fun k => B ≤ k) (fun k => laws_toValue.t k a0_0 a0_1 a0_2 a0_3 a0_4) φ) {G : ι → Int → ByteArray → Int → (List (List C)) → (List (List C)) → Option α} (hG : ∀ z0 z1 z2 z3 z4, φ (z0, z1, z2, z3, z4) → Tm ok (fun ι0 => G ι0 z0 z1 z2 z3 z4) ψ) : Tm ok (fun ι0 => laws_toValue.f (p ι0) a0_0 a0_1 a0_2 a0_3 a0_4 (G ι0)) ψ := by
  obtain ⟨⟨z0, z1, z2, z3, z4⟩, h1, h2⟩ := h
  exact (hG z0 z1 z2 z3 z4 h1).congr fun i0 hi0 => laws_toValue.f_of (h2 (p i0) (hp i0 hi0)) _
theorem toVal (n : Nat) : (∀ (a : List (List D)), a.length ≤ lim → (∀ x ∈ a, Yc lim n x) → Tm (fun k => big + 2 * n + 1 ≤ k) (fun k => laws_toValueS.t k a) (fun z => z = Zs a)) ∧
    (∀ (c0 : Int) (c1 : ByteArray) (c2 : Int) (c3 c4 : List (List D)), c1.size ≤ lim → Zm RS lim c3 → c4.length ≤ lim → (∀ x ∈ c4, Yc lim n x) → Tm (fun k => big + 2 * n + 2 ≤ k) (fun k => laws_toValue.t k c0 c1 c2 c3 c4) (fun z => z.1 = c0 ∧ z.2.1 = c1 ∧ z.2.2.1 = c2 ∧ z.2.2.2.1 = Zs c3 ∧ z.2.2.2.2 = Zs c4)) := by
  have hm : Z6 = 2 ^ 36 := rfl
  have hlim : lim = 1048576 := rfl
  have hb : big = 2 ^ 64 := rfl
  induction n using Nat.strongRecOn with
  | ind n ih =>
  have S : ∀ (a : List (List D)), a.length ≤ lim → (∀ x ∈ a, Yc lim n x) → Tm (fun k => big + 2 * n + 1 ≤ k) (fun k => laws_toValueS.t k a) (fun z => z = Zs a) := by
    intro a hlen g
    refine Tm.succ (g := fun k => laws_toValueS.g k a (fun z0 => some z0)) (fun k => laws_toValueS.t_succ k a) ?_
    unfold laws_toValueS.g laws_toValueS.body
    refine Tm.guard ⟨by omega, by omega, by omega, by omega⟩ ?_
    refine Tm.loop (okk := fun k => big + 2 * n ≤ k) (p := fun k => k) (fun i hi => by omega) (b := fun k => laws_toValueS.l0 k (laws_toValueS.f k) (laws_toValue.f k) a (fun z0 => some z0)) (fun v => match v with | (i, u1) => (((a.length : Int)) - i).toNat) (fun v => match v with | (i, u1) => 0 ≤ i ∧ i ≤ (a.length : Int) ∧ Zaw a ([.d (.int .i64 0), .d (.str (⟨#[]⟩ : ByteArray)), .d (.int .i64 0), .own ([] : List (List C)), .own ([] : List (List C))] : List C) i u1) ?_ ?_ ?_
    · rintro ⟨i, u1⟩ hI
      simp only [] at hI ⊢
      omega
    · exact ⟨by omega, by simp, Zaw.start _ _⟩
    · rintro ⟨i, u1⟩ hI L hL
      simp only [] at hI
      obtain ⟨i0, i1, hF⟩ := hI
      have hFl := hF.len i1
      simp only [laws_toValueS.l0]
      refine Tm.ite (fun h4 => ?_) (fun h4 => ?_)
      · simp only [decide_eq_true_eq] at h4
        refine Tm.atRow (by omega) (by omega) (fun x5 hx6 hm7 => ?_)
        obtain ⟨n', hn', c0, c1, c2, c3, c4, rfl, w0, g1, w2, g3, l4, g4⟩ : ∃ n', n = n' + 1 ∧ ∃ c0 c1 c2 c3 c4, x5 = [.int .i64 c0, .str c1, .int .i64 c2, .sl c3, .sl c4] ∧ (Lit.int .i64 c0).wf = true ∧ c1.size ≤ lim ∧ (Lit.int .i64 c2).wf = true ∧ Zm RS lim c3 ∧ c4.length ≤ lim ∧ ∀ x ∈ c4, Yc lim n' x := by
          have := g x5 hm7
          cases this with
          | mk c0 c1 c2 c3 c4 w0 g1 w2 g3 l4 g4 => exact ⟨_, rfl, _, _, _, _, _, rfl, w0, g1, w2, g3, l4, g4⟩
        refine Tm.uncons (Tm.dInt (Tm.uncons (Tm.dStr (Tm.uncons (Tm.dInt (Tm.uncons (Tm.dSl (Tm.uncons (Tm.dSl (Tm.atEnd ?_))))))))))
        refine laws_toValue.tm (B := big + 2 * n' + 2) (fun i hi => by have := hi.1; omega) ((ih n' (by omega)).2 c0 c1 c2 c3 c4 g1 g3 l4 g4) (fun y0 y1 y2 y3 y4 hy => ?_)
        simp only [] at hy
        obtain ⟨rfl, rfl, rfl, e3, e4⟩ := hy
        refine Tm.guard (by omega) (Tm.guard (by omega) ?_)
        rw [ZC (x := i + 1) (by omega) (by omega)]
        exact hL (_, _) ⟨by omega, by omega, hF.next i0 hx6 rfl (by simp [Zal, deepD, e3, e4])⟩ (by simp only []; omega)
      · simp only [decide_eq_false_iff_not, Int.not_lt] at h4
        exact Tm.ret (hF.all (by omega))
  refine ⟨S, ?_⟩
  intro c0 c1 c2 c3 c4 g1 g3 l4 g4
  refine Tm.succ (g := fun k => laws_toValue.g k c0 c1 c2 c3 c4 (fun z0 z1 z2 z3 z4 => some (z0, z1, z2, z3, z4))) (fun k => laws_toValue.t_succ k c0 c1 c2 c3 c4) ?_
  unfold laws_toValue.g laws_toValue.body
  refine laws_toStringS.tm (B := big) (fun i hi => by omega) (laws_toStringS.T g3) (fun y hy => ?_)
  refine laws_toValueS.tm (B := big + 2 * n + 1) (fun i hi => hi) (S c4 l4 g4) (fun y' hy' => ?_)
  exact Tm.ret ⟨rfl, rfl, rfl, hy.1, hy'⟩
theorem laws_toValueS.T {a0 : List (List D)} (g : Zm Yb lim a0) : Tm (Zay 1) (fun k => laws_toValueS.t k a0) (fun z => z = Zs a0 ∧ True) := by
  have hlim : lim = 1048576 := rfl
  have g' : ∀ x ∈ a0, Yc lim 1099511627776 x := fun x hx => by
    obtain ⟨h, hh, hx⟩ := g.2 x hx
    exact hx.mono (hh (by decide))
  exact (((toVal 1099511627776).1 a0 g.1 g').up (big_lv1 (n := 2 * 1099511627776 + 1) (by omega))).mono fun r hr => ⟨hr, trivial⟩
theorem laws_toValue.T {a0_0 : Int} {a0_1 : ByteArray} {a0_2 : Int} {a0_3 a0_4 : List (List D)} (g1 : a0_1.size ≤ lim) (g3 : Zm RS lim a0_3) (g4 : Zm Yb lim a0_4) : Tm (Zay 1) (fun k => laws_toValue.t k a0_0 a0_1 a0_2 a0_3 a0_4) (fun z => z.1 = a0_0 ∧ z.2.1 = a0_1 ∧ z.2.2.1 = a0_2 ∧ z.2.2.2.1 = Zs a0_3 ∧ z.2.2.2.2 = Zs a0_4 ∧ True) := by
  have hlim : lim = 1048576 := rfl
  have g' : ∀ x ∈ a0_4, Yc lim 1099511627776 x := fun x hx => by
    obtain ⟨h, hh, hx⟩ := g4.2 x hx
    exact hx.mono (hh (by decide))
  exact (((toVal 1099511627776).2 a0_0 a0_1 a0_2 a0_3 a0_4 g1 g3 g4.1 g').up (big_lv1 (n := 2 * 1099511627776 + 2) (by omega))).mono fun r hr => ⟨hr.1, hr.2.1, hr.2.2.1, hr.2.2.2.1, hr.2.2.2.2, trivial⟩
theorem laws_toWork.f_of {β : Type} {k : Nat} {a0_0 : Int} {a0_1 : Int} {a0_2 : Int} {a0_3 : ByteArray} {a0_4 : Int} {a0_5 : List (List D)} {a0_6 : List (List D)} {z0 : Int} {z1 : Int} {z2 : Int} {z3 : ByteArray} {z4 : Int} {z5 : List (List C)} {z6 : List (List C)} (h : laws_toWork.t k a0_0 a0_1 a0_2 a0_3 a0_4 a0_5 a0_6 = some (z0, z1, z2, z3, z4, z5, z6)) (K : Int → Int → Int → ByteArray → Int → (List (List C)) → (List (List C)) → Option β) : laws_toWork.f k a0_0 a0_1 a0_2 a0_3 a0_4 a0_5 a0_6 K = K z0 z1 z2 z3 z4 z5 z6 := by
  unfold laws_toWork.f
  rw [h]
theorem laws_toWork.tm {ι α : Type} {ok : ι → Prop} {ψ : α → Prop} {p : ι → Nat} {B : Nat} (hp : ∀ i, ok i → B ≤ p i) {a0_0 : Int} {a0_1 : Int} {a0_2 : Int} {a0_3 : ByteArray} {a0_4 : Int} {a0_5 : List (List D)} {a0_6 : List (List D)} {φ : Int × Int × Int × ByteArray × Int × (List (List C)) × (List (List C)) → Prop} (h : Tm (fun k => B ≤ k) (fun k => laws_toWork.t k a0_0 a0_1 a0_2 a0_3 a0_4 a0_5 a0_6) φ) {G : ι → Int → Int → Int → ByteArray → Int → (List (List C)) → (List (List C)) → Option α} (hG : ∀ z0 z1 z2 z3 z4 z5 z6, φ (z0, z1, z2, z3, z4, z5, z6) → Tm ok (fun ι0 => G ι0 z0 z1 z2 z3 z4 z5 z6) ψ) : Tm ok (fun ι0 => laws_toWork.f (p ι0) a0_0 a0_1 a0_2 a0_3 a0_4 a0_5 a0_6 (G ι0)) ψ := by
  obtain ⟨⟨z0, z1, z2, z3, z4, z5, z6⟩, h1, h2⟩ := h
  exact (hG z0 z1 z2 z3 z4 z5 z6 h1).congr fun i0 hi0 => laws_toWork.f_of (h2 (p i0) (hp i0 hi0)) _
theorem laws_toWork.T {a0_0 : Int} {a0_1 : Int} {a0_2 : Int} {a0_3 : ByteArray} {a0_4 : Int} {a0_5 : List (List D)} {a0_6 : List (List D)} (ga0_3 : a0_3.size ≤ lim) (ga0_5 : Zm RS lim a0_5) (ga0_6 : Zm Yb lim a0_6) : Tm (Zay 1) (fun k => laws_toWork.t k a0_0 a0_1 a0_2 a0_3 a0_4 a0_5 a0_6) (fun z => z.1 = a0_0 ∧ z.2.1 = a0_1 ∧ z.2.2.1 = a0_2 ∧ z.2.2.2.1 = a0_3 ∧ z.2.2.2.2.1 = a0_4 ∧ z.2.2.2.2.2.1 = Zs a0_5 ∧ z.2.2.2.2.2.2 = Zs a0_6 ∧ True) := by
  unfold laws_toWork.t laws_toWork.g
  have hm := Za
  have hlim : lim = 1048576 := rfl
  refine laws_toValue.tm (fun i hi => hi) (laws_toValue.T (by first | assumption | omega) (by first | assumption | omega) (by first | assumption | omega)) (fun y2 y3 y4 y5 y6 hy1 => ?_)
  try simp only [] at hy1
  obtain ⟨rfl, rfl, rfl, rfl, rfl, _⟩ := hy1
  try simp only [ZF]
  exact Tm.ret (by exact ⟨by first | rfl | assumption, by first | rfl | assumption, by first | rfl | assumption, by first | rfl | assumption, by first | rfl | assumption, by first | rfl | assumption, by first | rfl | assumption, trivial⟩)
theorem laws_toWorkS.f_of {β : Type} {k : Nat} {a0 : List (List D)} {z0 : List (List C)} (h : laws_toWorkS.t k a0 = some z0) (K : (List (List C)) → Option β) : laws_toWorkS.f k a0 K = K z0 := by
  unfold laws_toWorkS.f
  rw [h]
theorem laws_toWorkS.tm {ι α : Type} {ok : ι → Prop} {ψ : α → Prop} {p : ι → Nat} {B : Nat} (hp : ∀ i, ok i → B ≤ p i) {a0 : List (List D)} {φ : (List (List C)) → Prop} (h : Tm (fun k => B ≤ k) (fun k => laws_toWorkS.t k a0) φ) {G : ι → (List (List C)) → Option α} (hG : ∀ z0, φ z0 → Tm ok (fun ι0 => G ι0 z0) ψ) : Tm ok (fun ι0 => laws_toWorkS.f (p ι0) a0 (G ι0)) ψ := by
  obtain ⟨z0, h1, h2⟩ := h
  exact (hG z0 h1).congr fun i0 hi0 => laws_toWorkS.f_of (h2 (p i0) (hp i0 hi0)) _
theorem laws_toWorkS.T {a0 : List (List D)} (ga0 : Zm Ya lim a0) : Tm (Zay 1) (fun k => laws_toWorkS.t k a0) (fun z => z = Zs a0 ∧ True) := by
  unfold laws_toWorkS.t laws_toWorkS.g
  have hm := Za
  have hlim : lim = 1048576 := rfl
  have hlen := ga0.1
  refine Tm.guard (by first | omega | (simp only [lim, Za, Z6] at *; omega) | (simp only [lim, Z6] at *; refine ⟨?_, ?_, ?_, ?_⟩ <;> omega)) ?_
  refine Tm.loop (okk := (Zay 1)) (p := fun k => k) (fun i hi => up0 hi) (b := fun k => laws_toWorkS.l0 k a0 (fun z0 => some z0)) (fun v => match v with | (i, u1) => (((a0.length : Int)) - i).toNat) (fun v => match v with | (i, u1) => 0 ≤ i ∧ i ≤ (a0.length : Int) ∧ Zaw a0 ([.d (.int .i64 0), .d (.int .i64 0), .d (.int .i64 0), .d (.str (⟨#[]⟩ : ByteArray)), .d (.int .i64 0), .own ([] : List (List C)), .own ([] : List (List C))] : List C) i u1) ?_ ?_ ?_
  · rintro ⟨i, u1⟩ hI
    try simp only [] at hI ⊢
    have : big = 2 ^ 64 := rfl
    have := ga0.1
    simp only [lim] at this
    omega
  · exact ⟨by omega, by simp, Zaw.start _ _⟩
  · rintro ⟨i, u1⟩ hI L hL
    try simp only [] at hI
    obtain ⟨i0, i1, hF⟩ := hI
    have hFl := hF.len i1
    simp only [laws_toWorkS.l0]
    refine Tm.ite (fun h1 => ?_) (fun h1 => ?_)
    · try simp only [bz0, bz1, bz2, bz3, bz4, bz5, bz6, bz7, bz8, bz9, bza] at h1
      refine Tm.atRow (by first | assumption | omega) (by first | assumption | omega) (fun x2 hx3 hm4 => ?_)
      obtain ⟨c5, c6, c7, c8, c9, c10, c11, rfl, g12, g13, g14, g15, g16, g17, g18, _⟩ := (ga0.2 x2 hm4).open
      refine Tm.uncons ?_
      refine Tm.dInt ?_
      refine Tm.uncons ?_
      refine Tm.dInt ?_
      refine Tm.uncons ?_
      refine Tm.dInt ?_
      refine Tm.uncons ?_
      refine Tm.dStr ?_
      refine Tm.uncons ?_
      refine Tm.dInt ?_
      refine Tm.uncons ?_
      refine Tm.dSl ?_
      refine Tm.uncons ?_
      refine Tm.dSl ?_
      refine Tm.atEnd ?_
      refine laws_toWork.tm (fun i hi => hi.1) (laws_toWork.T (by first | assumption | omega) (by first | assumption | omega) (by first | assumption | omega)) (fun y20 y21 y22 y23 y24 y25 y26 hy19 => ?_)
      try simp only [] at hy19
      obtain ⟨rfl, rfl, rfl, rfl, rfl, rfl, rfl, _⟩ := hy19
      try simp only [ZF]
      refine Tm.guard (by first | omega | (simp only [lim, Za, Z6] at *; omega) | (simp only [lim, Z6] at *; refine ⟨?_, ?_, ?_, ?_⟩ <;> omega)) ?_
      refine Tm.guard (by first | omega | (simp only [lim, Za, Z6] at *; omega) | (simp only [lim, Z6] at *; refine ⟨?_, ?_, ?_, ?_⟩ <;> omega)) ?_
      try rw [ZC (x := i + 1) (by omega) (by omega)]
      refine hL (_, _) ⟨by omega, by omega, hF.next i0 hx3 rfl (by simp [Zal, deepD])⟩ (by (try simp only []); omega)
    · try simp only [bz0, bz1, bz2, bz3, bz4, bz5, bz6, bz7, bz8, bz9, bza] at h1
      exact Tm.ret (by exact ⟨hF.all (by omega), trivial⟩)
theorem laws_toRun.f_of {β : Type} {k : Nat} {a0_0 : Int} {a0_1 : Int} {z0 : Int} {z1 : Int} (h : laws_toRun.t k a0_0 a0_1 = some (z0, z1)) (K : Int → Int → Option β) : laws_toRun.f k a0_0 a0_1 K = K z0 z1 := by
  unfold laws_toRun.f
  rw [h]
theorem laws_toRun.tm {ι α : Type} {ok : ι → Prop} {ψ : α → Prop} {p : ι → Nat} {B : Nat} (hp : ∀ i, ok i → B ≤ p i) {a0_0 : Int} {a0_1 : Int} {φ : Int × Int → Prop} (h : Tm (fun k => B ≤ k) (fun k => laws_toRun.t k a0_0 a0_1) φ) {G : ι → Int → Int → Option α} (hG : ∀ z0 z1, φ (z0, z1) → Tm ok (fun ι0 => G ι0 z0 z1) ψ) : Tm ok (fun ι0 => laws_toRun.f (p ι0) a0_0 a0_1 (G ι0)) ψ := by
  obtain ⟨⟨z0, z1⟩, h1, h2⟩ := h
  exact (hG z0 z1 h1).congr fun i0 hi0 => laws_toRun.f_of (h2 (p i0) (hp i0 hi0)) _
theorem laws_toRun.T {a0_0 : Int} {a0_1 : Int} : Tm Zar (fun k => laws_toRun.t k a0_0 a0_1) (fun z => z.1 = a0_0 ∧ z.2 = a0_1 ∧ True) := by
  unfold laws_toRun.t laws_toRun.g
  have hm := Za
  have hlim : lim = 1048576 := rfl
  exact Tm.ret (by exact ⟨by first | rfl | assumption, by first | rfl | assumption, trivial⟩)
theorem laws_toRunS.f_of {β : Type} {k : Nat} {a0 : List (List D)} {z0 : List (List C)} (h : laws_toRunS.t k a0 = some z0) (K : (List (List C)) → Option β) : laws_toRunS.f k a0 K = K z0 := by
  unfold laws_toRunS.f
  rw [h]
theorem laws_toRunS.tm {ι α : Type} {ok : ι → Prop} {ψ : α → Prop} {p : ι → Nat} {B : Nat} (hp : ∀ i, ok i → B ≤ p i) {a0 : List (List D)} {φ : (List (List C)) → Prop} (h : Tm (fun k => B ≤ k) (fun k => laws_toRunS.t k a0) φ) {G : ι → (List (List C)) → Option α} (hG : ∀ z0, φ z0 → Tm ok (fun ι0 => G ι0 z0) ψ) : Tm ok (fun ι0 => laws_toRunS.f (p ι0) a0 (G ι0)) ψ := by
  obtain ⟨z0, h1, h2⟩ := h
  exact (hG z0 h1).congr fun i0 hi0 => laws_toRunS.f_of (h2 (p i0) (hp i0 hi0)) _
theorem laws_toRunS.T {a0 : List (List D)} (ga0 : Zm RII lim a0) : Tm Zar (fun k => laws_toRunS.t k a0) (fun z => z = Zs a0 ∧ True) := by
  unfold laws_toRunS.t laws_toRunS.g
  have hm := Za
  have hlim : lim = 1048576 := rfl
  have hlen := ga0.1
  refine Tm.guard (by first | omega | (simp only [lim, Za, Z6] at *; omega) | (simp only [lim, Z6] at *; refine ⟨?_, ?_, ?_, ?_⟩ <;> omega)) ?_
  refine Tm.loop (okk := Zar) (p := fun k => k) (fun i hi => hi) (b := fun k => laws_toRunS.l0 k a0 (fun z0 => some z0)) (fun v => match v with | (i, u1) => (((a0.length : Int)) - i).toNat) (fun v => match v with | (i, u1) => 0 ≤ i ∧ i ≤ (a0.length : Int) ∧ Zaw a0 ([.d (.int .i64 0), .d (.int .i64 0)] : List C) i u1) ?_ ?_ ?_
  · rintro ⟨i, u1⟩ hI
    try simp only [] at hI ⊢
    have : big = 2 ^ 64 := rfl
    have := ga0.1
    simp only [lim] at this
    omega
  · exact ⟨by omega, by simp, Zaw.start _ _⟩
  · rintro ⟨i, u1⟩ hI L hL
    try simp only [] at hI
    obtain ⟨i0, i1, hF⟩ := hI
    have hFl := hF.len i1
    simp only [laws_toRunS.l0]
    refine Tm.ite (fun h1 => ?_) (fun h1 => ?_)
    · try simp only [bz0, bz1, bz2, bz3, bz4, bz5, bz6, bz7, bz8, bz9, bza] at h1
      refine Tm.atRow (by first | assumption | omega) (by first | assumption | omega) (fun x2 hx3 hm4 => ?_)
      obtain ⟨c5, c6, rfl, g7, g8, _⟩ := (ga0.2 x2 hm4).open
      refine Tm.uncons ?_
      refine Tm.dInt ?_
      refine Tm.uncons ?_
      refine Tm.dInt ?_
      refine Tm.atEnd ?_
      refine laws_toRun.tm (fun i hi => hi.1) (laws_toRun.T) (fun y10 y11 hy9 => ?_)
      try simp only [] at hy9
      obtain ⟨rfl, rfl, _⟩ := hy9
      try simp only [ZF]
      refine Tm.guard (by first | omega | (simp only [lim, Za, Z6] at *; omega) | (simp only [lim, Z6] at *; refine ⟨?_, ?_, ?_, ?_⟩ <;> omega)) ?_
      refine Tm.guard (by first | omega | (simp only [lim, Za, Z6] at *; omega) | (simp only [lim, Z6] at *; refine ⟨?_, ?_, ?_, ?_⟩ <;> omega)) ?_
      try rw [ZC (x := i + 1) (by omega) (by omega)]
      refine hL (_, _) ⟨by omega, by omega, hF.next i0 hx3 rfl (by simp [Zal, deepD])⟩ (by (try simp only []); omega)
    · try simp only [bz0, bz1, bz2, bz3, bz4, bz5, bz6, bz7, bz8, bz9, bza] at h1
      exact Tm.ret (by exact ⟨hF.all (by omega), trivial⟩)
theorem laws_toIsle.f_of {β : Type} {k : Nat} {a0_0 : ByteArray} {a0_1 : Int} {a0_2 : Int} {a0_3 : List (List D)} {a0_4 : List (List D)} {z0 : ByteArray} {z1 : Int} {z2 : Int} {z3 : List (List C)} {z4 : List (List C)} (h : laws_toIsle.t k a0_0 a0_1 a0_2 a0_3 a0_4 = some (z0, z1, z2, z3, z4)) (K : ByteArray → Int → Int → (List (List C)) → (List (List C)) → Option β) : laws_toIsle.f k a0_0 a0_1 a0_2 a0_3 a0_4 K = K z0 z1 z2 z3 z4 := by
  unfold laws_toIsle.f
  rw [h]
theorem laws_toIsle.tm {ι α : Type} {ok : ι → Prop} {ψ : α → Prop} {p : ι → Nat} {B : Nat} (hp : ∀ i, ok i → B ≤ p i) {a0_0 : ByteArray} {a0_1 : Int} {a0_2 : Int} {a0_3 : List (List D)} {a0_4 : List (List D)} {φ : ByteArray × Int × Int × (List (List C)) × (List (List C)) → Prop} (h : Tm (fun k => B ≤ k) (fun k => laws_toIsle.t k a0_0 a0_1 a0_2 a0_3 a0_4) φ) {G : ι → ByteArray → Int → Int → (List (List C)) → (List (List C)) → Option α} (hG : ∀ z0 z1 z2 z3 z4, φ (z0, z1, z2, z3, z4) → Tm ok (fun ι0 => G ι0 z0 z1 z2 z3 z4) ψ) : Tm ok (fun ι0 => laws_toIsle.f (p ι0) a0_0 a0_1 a0_2 a0_3 a0_4 (G ι0)) ψ := by
  obtain ⟨⟨z0, z1, z2, z3, z4⟩, h1, h2⟩ := h
  exact (hG z0 z1 z2 z3 z4 h1).congr fun i0 hi0 => laws_toIsle.f_of (h2 (p i0) (hp i0 hi0)) _
theorem laws_toIsle.T {a0_0 : ByteArray} {a0_1 : Int} {a0_2 : Int} {a0_3 : List (List D)} {a0_4 : List (List D)} (ga0_0 : a0_0.size ≤ lim) (ga0_3 : Zm Ya lim a0_3) (ga0_4 : Zm RII lim a0_4) : Tm (Zay 1) (fun k => laws_toIsle.t k a0_0 a0_1 a0_2 a0_3 a0_4) (fun z => z.1 = a0_0 ∧ z.2.1 = a0_1 ∧ z.2.2.1 = a0_2 ∧ z.2.2.2.1 = Zs a0_3 ∧ z.2.2.2.2 = Zs a0_4 ∧ True) := by
  unfold laws_toIsle.t laws_toIsle.g
  have hm := Za
  have hlim : lim = 1048576 := rfl
  refine laws_toWorkS.tm (fun i hi => hi) (laws_toWorkS.T (by first | assumption | omega)) (fun y2 hy1 => ?_)
  try simp only [] at hy1
  obtain ⟨rfl, _⟩ := hy1
  try simp only [ZF]
  refine laws_toRunS.tm (fun i hi => up0 hi) (laws_toRunS.T (by first | assumption | omega)) (fun y4 hy3 => ?_)
  try simp only [] at hy3
  obtain ⟨rfl, _⟩ := hy3
  try simp only [ZF]
  exact Tm.ret (by exact ⟨by first | rfl | assumption, by first | rfl | assumption, by first | rfl | assumption, by first | rfl | assumption, by first | rfl | assumption, trivial⟩)
theorem spec_l4Copy.f_of {β : Type} {k : Nat} {a0_0 : Int} {a0_1 : ByteArray} {a0_2 : Int} {a0_3 : List (List D)} {a0_4 : List (List D)} {z0 : Int} {z1 : ByteArray} {z2 : Int} {z3 : List (List C)} {z4 : List (List C)} (h : spec_l4Copy.t k a0_0 a0_1 a0_2 a0_3 a0_4 = some (z0, z1, z2, z3, z4)) (K : Int → ByteArray → Int → (List (List C)) → (List (List C)) → Option β) : spec_l4Copy.f k a0_0 a0_1 a0_2 a0_3 a0_4 K = K z0 z1 z2 z3 z4 := by
  unfold spec_l4Copy.f
  unfold spec_l4Copy.w
  rw [h]
theorem spec_l4Copy.tm {ι α : Type} {ok : ι → Prop} {ψ : α → Prop} {p : ι → Nat} {B : Nat} (hp : ∀ i, ok i → B ≤ p i) {a0_0 : Int} {a0_1 : ByteArray} {a0_2 : Int} {a0_3 : List (List D)} {a0_4 : List (List D)} {φ : Int × ByteArray × Int × (List (List C)) × (List (List C)) → Prop} (h : Tm (fun k => B ≤ k) (fun k => spec_l4Copy.t k a0_0 a0_1 a0_2 a0_3 a0_4) φ) {G : ι → Int → ByteArray → Int → (List (List C)) → (List (List C)) → Option α} (hG : ∀ z0 z1 z2 z3 z4, φ (z0, z1, z2, z3, z4) → Tm ok (fun ι0 => G ι0 z0 z1 z2 z3 z4) ψ) : Tm ok (fun ι0 => spec_l4Copy.f (p ι0) a0_0 a0_1 a0_2 a0_3 a0_4 (G ι0)) ψ := by
  obtain ⟨⟨z0, z1, z2, z3, z4⟩, h1, h2⟩ := h
  exact (hG z0 z1 z2 z3 z4 h1).congr fun i0 hi0 => spec_l4Copy.f_of (h2 (p i0) (hp i0 hi0)) _
theorem spec_l12Works.f_of {β : Type} {k : Nat} {a0 : List (List D)} {z0 : List (List C)} (h : spec_l12Works.t k a0 = some z0) (K : (List (List C)) → Option β) : spec_l12Works.f k a0 K = K z0 := by
  unfold spec_l12Works.f
  rw [h]
theorem spec_l12Works.tm {ι α : Type} {ok : ι → Prop} {ψ : α → Prop} {p : ι → Nat} {B : Nat} (hp : ∀ i, ok i → B ≤ p i) {a0 : List (List D)} {φ : (List (List C)) → Prop} (h : Tm (fun k => B ≤ k) (fun k => spec_l12Works.t k a0) φ) {G : ι → (List (List C)) → Option α} (hG : ∀ z0, φ z0 → Tm ok (fun ι0 => G ι0 z0) ψ) : Tm ok (fun ι0 => spec_l12Works.f (p ι0) a0 (G ι0)) ψ := by
  obtain ⟨z0, h1, h2⟩ := h
  exact (hG z0 h1).congr fun i0 hi0 => spec_l12Works.f_of (h2 (p i0) (hp i0 hi0)) _
theorem spec_l13Copy.f_of {β : Type} {k : Nat} {a0_0 : ByteArray} {a0_1 : Int} {a0_2 : Int} {a0_3 : List (List D)} {a0_4 : List (List D)} {z0 : ByteArray} {z1 : Int} {z2 : Int} {z3 : List (List C)} {z4 : List (List C)} (h : spec_l13Copy.t k a0_0 a0_1 a0_2 a0_3 a0_4 = some (z0, z1, z2, z3, z4)) (K : ByteArray → Int → Int → (List (List C)) → (List (List C)) → Option β) : spec_l13Copy.f k a0_0 a0_1 a0_2 a0_3 a0_4 K = K z0 z1 z2 z3 z4 := by
  unfold spec_l13Copy.f
  rw [h]
theorem spec_l13Copy.tm {ι α : Type} {ok : ι → Prop} {ψ : α → Prop} {p : ι → Nat} {B : Nat} (hp : ∀ i, ok i → B ≤ p i) {a0_0 : ByteArray} {a0_1 : Int} {a0_2 : Int} {a0_3 : List (List D)} {a0_4 : List (List D)} {φ : ByteArray × Int × Int × (List (List C)) × (List (List C)) → Prop} (h : Tm (fun k => B ≤ k) (fun k => spec_l13Copy.t k a0_0 a0_1 a0_2 a0_3 a0_4) φ) {G : ι → ByteArray → Int → Int → (List (List C)) → (List (List C)) → Option α} (hG : ∀ z0 z1 z2 z3 z4, φ (z0, z1, z2, z3, z4) → Tm ok (fun ι0 => G ι0 z0 z1 z2 z3 z4) ψ) : Tm ok (fun ι0 => spec_l13Copy.f (p ι0) a0_0 a0_1 a0_2 a0_3 a0_4 (G ι0)) ψ := by
  obtain ⟨⟨z0, z1, z2, z3, z4⟩, h1, h2⟩ := h
  exact (hG z0 z1 z2 z3 z4 h1).congr fun i0 hi0 => spec_l13Copy.f_of (h2 (p i0) (hp i0 hi0)) _
theorem spec_l1In.f_of {β : Type} {k : Nat} {a0 : Int} {a1 : Int} {a2 : Int} {z0 : Bool} (h : spec_l1In.t k a0 a1 a2 = some z0) (K : Bool → Option β) : spec_l1In.f k a0 a1 a2 K = K z0 := by
  unfold spec_l1In.f
  rw [h]
theorem spec_l1In.tm {ι α : Type} {ok : ι → Prop} {ψ : α → Prop} {p : ι → Nat} {B : Nat} (hp : ∀ i, ok i → B ≤ p i) {a0 : Int} {a1 : Int} {a2 : Int} {φ : Bool → Prop} (h : Tm (fun k => B ≤ k) (fun k => spec_l1In.t k a0 a1 a2) φ) {G : ι → Bool → Option α} (hG : ∀ z0, φ z0 → Tm ok (fun ι0 => G ι0 z0) ψ) : Tm ok (fun ι0 => spec_l1In.f (p ι0) a0 a1 a2 (G ι0)) ψ := by
  obtain ⟨z0, h1, h2⟩ := h
  exact (hG z0 h1).congr fun i0 hi0 => spec_l1In.f_of (h2 (p i0) (hp i0 hi0)) _
theorem spec_l1In.T {a0 : Int} {a1 : Int} {a2 : Int} : Tm Zar (fun k => spec_l1In.t k a0 a1 a2) (fun r => r = true → a1 ≤ a0 ∧ a0 ≤ a2) := by
  unfold spec_l1In.t spec_l1In.g
  have hm := Za
  have hlim : lim = 1048576 := rfl
  refine Tm.ite (fun h1 => ?_) (fun h1 => ?_)
  · try simp only [bz0, bz1, bz2, bz3, bz4, bz5, bz6, bz7, bz8, bz9, bza] at h1
    exact Tm.ret (by first | (intro h; simp at h; omega) | (intro h; cases h))
  · try simp only [bz0, bz1, bz2, bz3, bz4, bz5, bz6, bz7, bz8, bz9, bza] at h1
    exact Tm.ret (by first | (intro h; simp at h; omega) | (intro h; cases h))
noncomputable def spec_l1In.v (a0 : Int) (a1 : Int) (a2 : Int) : Bool := (spec_l1In.t big a0 a1 a2).getD default
theorem spec_l1In.tv {a0 : Int} {a1 : Int} {a2 : Int} {k : Nat} (hk : Zar k) : spec_l1In.t k a0 a1 a2 = some (spec_l1In.v a0 a1 a2) := (spec_l1In.T).val hk
theorem spec_l1In.fv {a0 : Int} {a1 : Int} {a2 : Int} {k : Nat} (hk : Zar k) {β : Type} (K : Bool → Option β) : spec_l1In.f k a0 a1 a2 K = K (spec_l1In.v a0 a1 a2) := spec_l1In.f_of (spec_l1In.tv hk) K
theorem l1In_f {β : Type} {k : Nat} {a b c : Int} (K : Bool → Option β) : spec_l1In.f k a b c K = K (decide (b ≤ a) && decide (a ≤ c)) := by
  refine spec_l1In.f_of ?_ K
  unfold spec_l1In.t spec_l1In.g
  by_cases h : b ≤ a <;> simp [h]
def inB (a b c : Int) : Bool := decide (b ≤ a) && decide (a ≤ c)
theorem l1In_fv {β : Type} {k : Nat} {a b c : Int} (K : Bool → Option β) : spec_l1In.f k a b c K = K (inB a b c) := l1In_f K
theorem spec_NameOk.f_of {β : Type} {k : Nat} {a0 : ByteArray} {z0 : Bool} (h : spec_NameOk.t k a0 = some z0) (K : Bool → Option β) : spec_NameOk.f k a0 K = K z0 := by
  unfold spec_NameOk.f
  rw [h]
theorem spec_NameOk.tm {ι α : Type} {ok : ι → Prop} {ψ : α → Prop} {p : ι → Nat} {B : Nat} (hp : ∀ i, ok i → B ≤ p i) {a0 : ByteArray} {φ : Bool → Prop} (h : Tm (fun k => B ≤ k) (fun k => spec_NameOk.t k a0) φ) {G : ι → Bool → Option α} (hG : ∀ z0, φ z0 → Tm ok (fun ι0 => G ι0 z0) ψ) : Tm ok (fun ι0 => spec_NameOk.f (p ι0) a0 (G ι0)) ψ := by
  obtain ⟨z0, h1, h2⟩ := h
  exact (hG z0 h1).congr fun i0 hi0 => spec_NameOk.f_of (h2 (p i0) (hp i0 hi0)) _
theorem spec_NameOk.T {a0 : ByteArray} (ga0 : a0.size ≤ lim) : Tm Zar (fun k => spec_NameOk.t k a0) (fun _ => True) := by
  unfold spec_NameOk.t spec_NameOk.g
  have hm := Za
  have hlim : lim = 1048576 := rfl
  refine Tm.loop (okk := Zar) (p := fun k => k) (fun i hi => hi) (b := fun k => spec_NameOk.l0 k a0 (fun z0 => some z0)) (fun i => (((a0.size : Int)) - i).toNat) (fun i => 0 ≤ i ∧ i ≤ (a0.size : Int)) ?_ ?_ ?_
  · rintro i hI
    try simp only [] at hI ⊢
    have : big = 2 ^ 64 := rfl
    omega
  · ((try simp only []); omega)
  · rintro i hI L hL
    try simp only [] at hI
    obtain ⟨i0, i1⟩ := hI
    simp only [spec_NameOk.l0]
    refine Tm.ite (fun h1 => ?_) (fun h1 => ?_)
    · try simp only [bz0, bz1, bz2, bz3, bz4, bz5, bz6, bz7, bz8, bz9, bza] at h1
      refine Tm.atStr (by first | assumption | omega) (by first | assumption | omega) (fun b2 hb3 => ?_)
      try rw [ZC (x := (b2.toNat : Int)) (by omega) (by omega)]
      refine spec_l1In.tm (fun i hi => hi.1) (spec_l1In.T) (fun y5 hy4 => ?_)
      refine Tm.ite (fun h6 => ?_) (fun h6 => ?_)
      · try simp only [bz0, bz1, bz2, bz3, bz4, bz5, bz6, bz7, bz8, bz9, bza] at h6
        refine Tm.atStr (by first | assumption | omega) (by first | assumption | omega) (fun b7 hb8 => ?_)
        try rw [ZC (x := (b7.toNat : Int)) (by omega) (by omega)]
        refine spec_l1In.tm (fun i hi => hi.1) (spec_l1In.T) (fun y10 hy9 => ?_)
        refine Tm.ite (fun h11 => ?_) (fun h11 => ?_)
        · try simp only [bz0, bz1, bz2, bz3, bz4, bz5, bz6, bz7, bz8, bz9, bza] at h11
          refine Tm.atStr (by first | assumption | omega) (by first | assumption | omega) (fun b12 hb13 => ?_)
          refine Tm.ite (fun h14 => ?_) (fun h14 => ?_)
          · try simp only [bz0, bz1, bz2, bz3, bz4, bz5, bz6, bz7, bz8, bz9, bza] at h14
            exact Tm.ret (by trivial)
          · try simp only [bz0, bz1, bz2, bz3, bz4, bz5, bz6, bz7, bz8, bz9, bza] at h14
            try rw [ZC (x := i + 1) (by omega) (by omega)]
            exact hL _ (by (try simp only []); omega) (by (try simp only []); omega)
        · try simp only [bz0, bz1, bz2, bz3, bz4, bz5, bz6, bz7, bz8, bz9, bza] at h11
          have z15 := hy9 h11
          try rw [ZC (x := i + 1) (by omega) (by omega)]
          exact hL _ (by (try simp only []); omega) (by (try simp only []); omega)
      · try simp only [bz0, bz1, bz2, bz3, bz4, bz5, bz6, bz7, bz8, bz9, bza] at h6
        have z16 := hy4 h6
        try rw [ZC (x := i + 1) (by omega) (by omega)]
        exact hL _ (by (try simp only []); omega) (by (try simp only []); omega)
    · try simp only [bz0, bz1, bz2, bz3, bz4, bz5, bz6, bz7, bz8, bz9, bza] at h1
      refine spec_l1In.tm (fun i hi => hi.1) (spec_l1In.T) (fun y18 hy17 => ?_)
      refine Tm.ite (fun h19 => ?_) (fun h19 => ?_)
      · try simp only [bz0, bz1, bz2, bz3, bz4, bz5, bz6, bz7, bz8, bz9, bza] at h19
        have z20 := hy17 h19
        refine Tm.atStr (by first | assumption | omega) (by first | assumption | omega) (fun b21 hb22 => ?_)
        refine Tm.ite (fun h23 => ?_) (fun h23 => ?_)
        · try simp only [bz0, bz1, bz2, bz3, bz4, bz5, bz6, bz7, bz8, bz9, bza] at h23
          try rw [ZC (x := (a0.size : Int) - 1) (by omega) (by omega)]
          refine Tm.atStr (by first | assumption | omega) (by first | assumption | omega) (fun b24 hb25 => ?_)
          exact Tm.ret (by trivial)
        · try simp only [bz0, bz1, bz2, bz3, bz4, bz5, bz6, bz7, bz8, bz9, bza] at h23
          exact Tm.ret (by trivial)
      · try simp only [bz0, bz1, bz2, bz3, bz4, bz5, bz6, bz7, bz8, bz9, bza] at h19
        exact Tm.ret (by trivial)
noncomputable def spec_NameOk.v (a0 : ByteArray) : Bool := (spec_NameOk.t big a0).getD default
theorem spec_NameOk.tv {a0 : ByteArray} (ga0 : a0.size ≤ lim) {k : Nat} (hk : Zar k) : spec_NameOk.t k a0 = some (spec_NameOk.v a0) := (spec_NameOk.T ga0).val hk
theorem spec_NameOk.fv {a0 : ByteArray} (ga0 : a0.size ≤ lim) {k : Nat} (hk : Zar k) {β : Type} (K : Bool → Option β) : spec_NameOk.f k a0 K = K (spec_NameOk.v a0) := spec_NameOk.f_of (spec_NameOk.tv ga0 hk) K
noncomputable def namesB (xs : List (List D)) : Bool := (List.range xs.length).all fun i => spec_NameOk.v (gS xs (i : Int) 0) && (!decide ((i : Int) > 0) || strLt (gS xs ((i : Int) - 1) 0) (gS xs (i : Int) 0))
theorem spec_l4Text.f_of {β : Type} {k : Nat} {a0 : ByteArray} {z0 : Bool} (h : spec_l4Text.t k a0 = some z0) (K : Bool → Option β) : spec_l4Text.f k a0 K = K z0 := by
  unfold spec_l4Text.f
  rw [h]
theorem spec_l4Text.tm {ι α : Type} {ok : ι → Prop} {ψ : α → Prop} {p : ι → Nat} {B : Nat} (hp : ∀ i, ok i → B ≤ p i) {a0 : ByteArray} {φ : Bool → Prop} (h : Tm (fun k => B ≤ k) (fun k => spec_l4Text.t k a0) φ) {G : ι → Bool → Option α} (hG : ∀ z0, φ z0 → Tm ok (fun ι0 => G ι0 z0) ψ) : Tm ok (fun ι0 => spec_l4Text.f (p ι0) a0 (G ι0)) ψ := by
  obtain ⟨z0, h1, h2⟩ := h
  exact (hG z0 h1).congr fun i0 hi0 => spec_l4Text.f_of (h2 (p i0) (hp i0 hi0)) _
theorem spec_l4Text.T {a0 : ByteArray} (ga0 : a0.size ≤ lim) : Tm Zar (fun k => spec_l4Text.t k a0) (fun _ => True) := by
  unfold spec_l4Text.t spec_l4Text.g
  have hm := Za
  have hlim : lim = 1048576 := rfl
  refine Tm.loop (okk := Zar) (p := fun k => k) (fun i hi => hi) (b := fun k => spec_l4Text.l0 k a0 (fun z0 => some z0)) (fun i => (((a0.size : Int)) - i).toNat) (fun i => 0 ≤ i ∧ i ≤ (a0.size : Int)) ?_ ?_ ?_
  · rintro i hI
    try simp only [] at hI ⊢
    have : big = 2 ^ 64 := rfl
    omega
  · ((try simp only []); omega)
  · rintro i hI L hL
    try simp only [] at hI
    obtain ⟨i0, i1⟩ := hI
    simp only [spec_l4Text.l0]
    refine Tm.ite (fun h1 => ?_) (fun h1 => ?_)
    · try simp only [bz0, bz1, bz2, bz3, bz4, bz5, bz6, bz7, bz8, bz9, bza] at h1
      refine Tm.atStr (by first | assumption | omega) (by first | assumption | omega) (fun b2 hb3 => ?_)
      try rw [ZC (x := (b2.toNat : Int)) (by omega) (by omega)]
      refine spec_l1In.tm (fun i hi => hi.1) (spec_l1In.T) (fun y5 hy4 => ?_)
      refine Tm.ite (fun h6 => ?_) (fun h6 => ?_)
      · try simp only [bz0, bz1, bz2, bz3, bz4, bz5, bz6, bz7, bz8, bz9, bza] at h6
        exact Tm.ret (by trivial)
      · try simp only [bz0, bz1, bz2, bz3, bz4, bz5, bz6, bz7, bz8, bz9, bza] at h6
        have z7 := hy4 h6
        try rw [ZC (x := i + 1) (by omega) (by omega)]
        exact hL _ (by (try simp only []); omega) (by (try simp only []); omega)
    · try simp only [bz0, bz1, bz2, bz3, bz4, bz5, bz6, bz7, bz8, bz9, bza] at h1
      exact Tm.ret (by trivial)
noncomputable def spec_l4Text.v (a0 : ByteArray) : Bool := (spec_l4Text.t big a0).getD default
theorem spec_l4Text.tv {a0 : ByteArray} (ga0 : a0.size ≤ lim) {k : Nat} (hk : Zar k) : spec_l4Text.t k a0 = some (spec_l4Text.v a0) := (spec_l4Text.T ga0).val hk
theorem spec_l4Text.fv {a0 : ByteArray} (ga0 : a0.size ≤ lim) {k : Nat} (hk : Zar k) {β : Type} (K : Bool → Option β) : spec_l4Text.f k a0 K = K (spec_l4Text.v a0) := spec_l4Text.f_of (spec_l4Text.tv ga0 hk) K
def textB (s : ByteArray) : Bool := (List.range s.size).all fun i => inB (bS s (i : Int)) 32 126
theorem l4Text_fv {s : ByteArray} (g : s.size ≤ lim) {k : Nat} (hk : Zar k) {β : Type} (K : Bool → Option β) : spec_l4Text.f k s K = K (textB s && decide ((s.size : Int) ≤ 100)) := spec_l4Text.f_of (by
  have hlim : lim = 1048576 := rfl
  have hb : big = 2 ^ 64 := rfl
  unfold spec_l4Text.t spec_l4Text.g textB
  rw [iter_all0 (n := s.size) (fun i => inB (bS s (i : Int)) 32 126) (r1 := some false) (r2 := some (decide ((s.size : Int) ≤ 100))) (by unfold Zar at hk; omega)]
  · generalize List.all _ _ = x
    cases x <;> rfl
  · intro L i hi
    simp (disch := omega) only [spec_l4Text.l0, dec_true (show (i : Int) < s.size by omega), cond_true, atStr_at, wrap_b, l1In_fv, ZC]
    generalize inB _ _ _ = x
    cases x <;> rfl
  · intro L
    simp [spec_l4Text.l0]) K
theorem spec_l4Keys.f_of {β : Type} {k : Nat} {a0_0 : Int} {a0_1 : ByteArray} {a0_2 : Int} {a0_3 : List (List D)} {a0_4 : List (List D)} {z0 : Bool} (h : spec_l4Keys.t k a0_0 a0_1 a0_2 a0_3 a0_4 = some z0) (K : Bool → Option β) : spec_l4Keys.f k a0_0 a0_1 a0_2 a0_3 a0_4 K = K z0 := by
  unfold spec_l4Keys.f
  rw [h]
theorem spec_l4Keys.tm {ι α : Type} {ok : ι → Prop} {ψ : α → Prop} {p : ι → Nat} {B : Nat} (hp : ∀ i, ok i → B ≤ p i) {a0_0 : Int} {a0_1 : ByteArray} {a0_2 : Int} {a0_3 : List (List D)} {a0_4 : List (List D)} {φ : Bool → Prop} (h : Tm (fun k => B ≤ k) (fun k => spec_l4Keys.t k a0_0 a0_1 a0_2 a0_3 a0_4) φ) {G : ι → Bool → Option α} (hG : ∀ z0, φ z0 → Tm ok (fun ι0 => G ι0 z0) ψ) : Tm ok (fun ι0 => spec_l4Keys.f (p ι0) a0_0 a0_1 a0_2 a0_3 a0_4 (G ι0)) ψ := by
  obtain ⟨z0, h1, h2⟩ := h
  exact (hG z0 h1).congr fun i0 hi0 => spec_l4Keys.f_of (h2 (p i0) (hp i0 hi0)) _
theorem spec_l4Keys.T {a0_0 : Int} {a0_1 : ByteArray} {a0_2 : Int} {a0_3 : List (List D)} {a0_4 : List (List D)} (ga0_1 : a0_1.size ≤ lim) (ga0_3 : Zm RS lim a0_3) (ga0_4 : Zm Yb lim a0_4) : Tm Zar (fun k => spec_l4Keys.t k a0_0 a0_1 a0_2 a0_3 a0_4) (fun _ => True) := by
  unfold spec_l4Keys.t spec_l4Keys.g
  have hm := Za
  have hlim : lim = 1048576 := rfl
  have la0_3 := ga0_3.1
  have la0_4 := ga0_4.1
  refine Tm.loop (okk := Zar) (p := fun k => k) (fun i hi => hi) (b := fun k => spec_l4Keys.l0 k a0_0 a0_1 a0_2 a0_3 a0_4 (fun z0 => some z0)) (fun i => (((a0_3.length : Int)) - i).toNat) (fun i => 0 ≤ i ∧ i ≤ (a0_3.length : Int)) ?_ ?_ ?_
  · rintro i hI
    try simp only [] at hI ⊢
    have : big = 2 ^ 64 := rfl
    omega
  · ((try simp only []); omega)
  · rintro i hI L hL
    try simp only [] at hI
    obtain ⟨i0, i1⟩ := hI
    simp only [spec_l4Keys.l0]
    refine Tm.ite (fun h1 => ?_) (fun h1 => ?_)
    · try simp only [bz0, bz1, bz2, bz3, bz4, bz5, bz6, bz7, bz8, bz9, bza] at h1
      refine Tm.atRow (by first | assumption | omega) (by first | assumption | omega) (fun x2 hx3 hm4 => ?_)
      obtain ⟨c5, rfl, g6, _⟩ := (ga0_3.2 x2 hm4).open
      refine Tm.uncons ?_
      refine Tm.dStr ?_
      refine Tm.atEnd ?_
      refine spec_NameOk.tm (fun i hi => hi.1) (spec_NameOk.T (by first | assumption | omega)) (fun y8 hy7 => ?_)
      refine Tm.ite (fun h9 => ?_) (fun h9 => ?_)
      · try simp only [bz0, bz1, bz2, bz3, bz4, bz5, bz6, bz7, bz8, bz9, bza] at h9
        exact Tm.ret (by trivial)
      · try simp only [bz0, bz1, bz2, bz3, bz4, bz5, bz6, bz7, bz8, bz9, bza] at h9
        refine Tm.ite (fun h10 => ?_) (fun h10 => ?_)
        · try simp only [bz0, bz1, bz2, bz3, bz4, bz5, bz6, bz7, bz8, bz9, bza] at h10
          try rw [ZC (x := i - 1) (by omega) (by omega)]
          refine Tm.atRow (by first | assumption | omega) (by first | assumption | omega) (fun x11 hx12 hm13 => ?_)
          obtain ⟨c14, rfl, g15, _⟩ := (ga0_3.2 x11 hm13).open
          refine Tm.uncons ?_
          refine Tm.dStr ?_
          refine Tm.atEnd ?_
          refine Tm.atRow (by first | assumption | omega) (by first | assumption | omega) (fun x16 hx17 hm18 => ?_)
          rw [hx3] at hx17
          injection hx17 with hx17
          subst hx17
          refine Tm.uncons ?_
          refine Tm.dStr ?_
          refine Tm.atEnd ?_
          refine Tm.ite (fun h20 => ?_) (fun h20 => ?_)
          · try simp only [bz0, bz1, bz2, bz3, bz4, bz5, bz6, bz7, bz8, bz9, bza] at h20
            exact Tm.ret (by trivial)
          · try simp only [bz0, bz1, bz2, bz3, bz4, bz5, bz6, bz7, bz8, bz9, bza] at h20
            try rw [ZC (x := i + 1) (by omega) (by omega)]
            exact hL _ (by (try simp only []); omega) (by (try simp only []); omega)
        · try simp only [bz0, bz1, bz2, bz3, bz4, bz5, bz6, bz7, bz8, bz9, bza] at h10
          try rw [ZC (x := i + 1) (by omega) (by omega)]
          exact hL _ (by (try simp only []); omega) (by (try simp only []); omega)
    · try simp only [bz0, bz1, bz2, bz3, bz4, bz5, bz6, bz7, bz8, bz9, bza] at h1
      exact Tm.ret (by trivial)
noncomputable def spec_l4Keys.v (a0_0 : Int) (a0_1 : ByteArray) (a0_2 : Int) (a0_3 : List (List D)) (a0_4 : List (List D)) : Bool := (spec_l4Keys.t big a0_0 a0_1 a0_2 a0_3 a0_4).getD default
theorem spec_l4Keys.tv {a0_0 : Int} {a0_1 : ByteArray} {a0_2 : Int} {a0_3 : List (List D)} {a0_4 : List (List D)} (ga0_1 : a0_1.size ≤ lim) (ga0_3 : Zm RS lim a0_3) (ga0_4 : Zm Yb lim a0_4) {k : Nat} (hk : Zar k) : spec_l4Keys.t k a0_0 a0_1 a0_2 a0_3 a0_4 = some (spec_l4Keys.v a0_0 a0_1 a0_2 a0_3 a0_4) := (spec_l4Keys.T ga0_1 ga0_3 ga0_4).val hk
theorem spec_l4Keys.fv {a0_0 : Int} {a0_1 : ByteArray} {a0_2 : Int} {a0_3 : List (List D)} {a0_4 : List (List D)} (ga0_1 : a0_1.size ≤ lim) (ga0_3 : Zm RS lim a0_3) (ga0_4 : Zm Yb lim a0_4) {k : Nat} (hk : Zar k) {β : Type} (K : Bool → Option β) : spec_l4Keys.f k a0_0 a0_1 a0_2 a0_3 a0_4 K = K (spec_l4Keys.v a0_0 a0_1 a0_2 a0_3 a0_4) := spec_l4Keys.f_of (spec_l4Keys.tv ga0_1 ga0_3 ga0_4 hk) K
theorem spec_l4Look.f_of {β : Type} {k : Nat} {a0_0 : Int} {a0_1 : ByteArray} {a0_2 : Int} {a0_3 : List (List D)} {a0_4 : List (List D)} {a1 : Int} {z0 : Int} (h : spec_l4Look.t k a0_0 a0_1 a0_2 a0_3 a0_4 a1 = some z0) (K : Int → Option β) : spec_l4Look.f k a0_0 a0_1 a0_2 a0_3 a0_4 a1 K = K z0 := by
  unfold spec_l4Look.f
  unfold spec_l4Look.w
  rw [h]
theorem spec_l4Look.tm {ι α : Type} {ok : ι → Prop} {ψ : α → Prop} {p : ι → Nat} {B : Nat} (hp : ∀ i, ok i → B ≤ p i) {a0_0 : Int} {a0_1 : ByteArray} {a0_2 : Int} {a0_3 : List (List D)} {a0_4 : List (List D)} {a1 : Int} {φ : Int → Prop} (h : Tm (fun k => B ≤ k) (fun k => spec_l4Look.t k a0_0 a0_1 a0_2 a0_3 a0_4 a1) φ) {G : ι → Int → Option α} (hG : ∀ z0, φ z0 → Tm ok (fun ι0 => G ι0 z0) ψ) : Tm ok (fun ι0 => spec_l4Look.f (p ι0) a0_0 a0_1 a0_2 a0_3 a0_4 a1 (G ι0)) ψ := by
  obtain ⟨z0, h1, h2⟩ := h
  exact (hG z0 h1).congr fun i0 hi0 => spec_l4Look.f_of (h2 (p i0) (hp i0 hi0)) _
theorem l4Keys_fv {c0 : Int} {c1 : ByteArray} {c2 : Int} {c3 c4 : List (List D)} (g : Zm RS lim c3) {k : Nat} (hk : Zar k) {β : Type} (K : Bool → Option β) : spec_l4Keys.f k c0 c1 c2 c3 c4 K = K (namesB c3 && (c3.length : Int) == (c4.length : Int)) := spec_l4Keys.f_of (by
  have hl := g.1
  have hlim : lim = 1048576 := rfl
  have hb : big = 2 ^ 64 := rfl
  unfold spec_l4Keys.t spec_l4Keys.g
  rw [iter_all0 (n := c3.length) (fun i => spec_NameOk.v (gS c3 (i : Int) 0) && (!decide ((i : Int) > 0) || strLt (gS c3 ((i : Int) - 1) 0) (gS c3 (i : Int) 0))) (r1 := some false) (r2 := some ((c3.length : Int) == (c4.length : Int))) (by unfold Zar at hk; omega)]
  · unfold namesB
    generalize List.all _ _ = x
    cases x <;> rfl
  · intro L i hi
    have k0 := (RS.get g (v := (i : Int)) (by omega) (by omega)).2.1
    simp (disch := omega) only [spec_l4Keys.l0, dec_true (show (i : Int) < c3.length by omega), cond_true, RS.row g, uncons_at, dStr_at, atEnd_at, spec_NameOk.fv k0 hk, ZC]
    by_cases h0 : (i : Int) > 0
    · simp (disch := omega) only [dec_true h0, cond_true, RS.row g, uncons_at, dStr_at, atEnd_at]
      cases spec_NameOk.v (gS c3 (i : Int) 0) <;> cases strLt (gS c3 ((i : Int) - 1) 0) (gS c3 (i : Int) 0) <;> rfl
    · simp only [dec_false h0, cond_false]
      cases spec_NameOk.v (gS c3 (i : Int) 0) <;> rfl
  · intro L
    simp [spec_l4Keys.l0]) K
def Yj : ByteArray := (⟨#[]⟩ : ByteArray)
noncomputable def Yf (kind : Int) (text : ByteArray) (num : Int) (keys kids : List (List D)) : Bool :=
  bif kind == 1 then (keys.length : Int) == 0 && ((kids.length : Int) == 0 && (num == 0 && (textB text && decide ((text.size : Int) ≤ 100))))
  else bif kind == 2 then (keys.length : Int) == 0 && ((kids.length : Int) == 0 && strEq text Yj)
  else bif kind == 3 then (keys.length : Int) == 0 && ((kids.length : Int) == 0 && (strEq text Yj && inB num 0 1))
  else bif kind == 4 then (keys.length : Int) == 0 && (strEq text Yj && num == 0)
  else bif kind == 5 then (namesB keys && (keys.length : Int) == (kids.length : Int)) && (strEq text Yj && num == 0)
  else false
def Yg (f : List D → Int) : List (List D) → Int → Int
  | [], n => n
  | r :: rs, n => if f r = 0 ∨ n + f r > 300 then 0 else Yg f rs (n + f r)
noncomputable def Yd : Nat → List D → Int
  | 0, _ => 0
  | d + 1, r => bif Yg (Yd d) (rL r 4) 1 == 0 then 0 else bif Yf (rI r 0) (rS r 1) (rI r 2) (rL r 3) (rL r 4) then Yg (Yd d) (rL r 4) 1 else 0
theorem sumL_range {f : List D → Int} (hf : ∀ r, 0 ≤ f r) : ∀ {rs : List (List D)} {n : Int}, 1 ≤ n → n ≤ 300 → 0 ≤ Yg f rs n ∧ Yg f rs n ≤ 300 ∧ (Yg f rs n ≠ 0 → n + rs.length ≤ 300)
  | [], n, h, h' => by simp only [Yg, List.length_nil]; omega
  | r :: rs, n, h, h' => by
    have := hf r
    simp only [Yg]
    split
    · omega
    · have := sumL_range hf (rs := rs) (n := n + f r) (by omega) (by omega)
      simp only [List.length_cons]
      omega
theorem Yh : ∀ (d : Nat) (r : List D), 0 ≤ Yd d r ∧ Yd d r ≤ 300
  | 0, r => by simp [Yd]
  | d + 1, r => by
    have := sumL_range (f := Yd d) (fun r => (Yh d r).1) (rs := rL r 4) (n := 1) (by omega) (by omega)
    simp only [Yd]
    generalize Yg (Yd d) (rL r 4) 1 = n at *
    cases n == 0 <;> cases Yf (rI r 0) (rS r 1) (rI r 2) (rL r 3) (rL r 4) <;> simp <;> omega
theorem look_t (d : Nat) : ∀ {c0 : Int} {c1 : ByteArray} {c2 : Int} {c3 c4 : List (List D)}, c1.size ≤ lim → Zm RS lim c3 → Zm Yb lim c4 → d ≤ 6 → ∀ {k : Nat}, big + d + 1 ≤ k → spec_l4Look.t k c0 c1 c2 c3 c4 (d : Int) = some (Yd d [.int .i64 c0, .str c1, .int .i64 c2, .sl c3, .sl c4]) := by
  have hlim : lim = 1048576 := rfl
  have hb : big = 2 ^ 64 := rfl
  induction d with
  | zero =>
    intro c0 c1 c2 c3 c4 g1 g3 g4 hd k hk
    cases k with
    | zero => omega
    | succ k => rfl
  | succ d ih =>
    intro c0 c1 c2 c3 c4 g1 g3 g4 hd k hk
    cases k with
    | zero => omega
    | succ k =>
    have hl := g4.1
    have hk0 : Zar k := by unfold Zar; omega
    rw [spec_l4Look.t_succ]
    unfold spec_l4Look.g spec_l4Look.body
    rw [show (((d + 1 : Nat) : Int) == 0) = false by rw [beq_eq_false_iff_ne]; omega, cond_false]
    have key := iter_val (b := spec_l4Look.l0 k (spec_l4Look.f k) ((d + 1 : Nat) : Int) c0 c1 c2 c3 c4 fun z0 => some z0) (fun v => ((c4.length : Int) - v.2).toNat) (fun v => 0 ≤ v.2 ∧ v.2 ≤ c4.length ∧ 1 ≤ v.1 ∧ v.1 ≤ 300)
      (fun v => bif Yg (Yd d) (c4.drop v.2.toNat) v.1 == 0 then some 0 else bif Yf c0 c1 c2 c3 c4 then some (Yg (Yd d) (c4.drop v.2.toNat) v.1) else some 0) ?_ k (1, 0) (by simp only []; omega) (by simp only []; omega)
    · rw [key]
      simp only [Yd]
      show (bif Yg (Yd d) (List.drop 0 c4) 1 == 0 then some 0 else bif Yf c0 c1 c2 c3 c4 then some (Yg (Yd d) (List.drop 0 c4) 1) else some 0) = some (bif Yg (Yd d) c4 1 == 0 then 0 else bif Yf c0 c1 c2 c3 c4 then Yg (Yd d) c4 1 else 0)
      rw [List.drop_zero]
      cases Yg (Yd d) c4 1 == 0 <;> cases Yf c0 c1 c2 c3 c4 <;> rfl
    · rintro ⟨n, i⟩ ⟨i0, i1, n0, n1⟩ L hL
      simp only [] at i0 i1 n0 n1 hL ⊢
      by_cases hi : i < c4.length
      · have hg := Yb.get g4 i0 hi
        have hr := Yh d (gR c4 i)
        have ih' := ih (c0 := gI c4 i 0) (c2 := gI c4 i 2) hg.2.2.1 hg.2.2.2.2.1 hg.2.2.2.2.2.1 (by omega) (k := k) (by omega)
        rw [← hg.1] at ih'
        simp (disch := omega) only [spec_l4Look.l0, dec_true hi, cond_true, Yb.row g4, uncons_at, dStr_at, dInt_self, dSl_at, atEnd_at, ZC, show ((d + 1 : Nat) : Int) - 1 = (d : Int) by omega]
        rw [spec_l4Look.f_of ih', drop_gR i0 hi]
        simp only [Yg]
        by_cases hz : Yd d (gR c4 i) = 0
        · rw [hz]
          simp
        · rw [show (Yd d (gR c4 i) == 0) = false by rw [beq_eq_false_iff_ne]; exact hz, cond_false, ZC (by omega) (by omega)]
          by_cases hn : n + Yd d (gR c4 i) > 300
          · rw [dec_true hn, if_pos (.inr hn)]
            rfl
          · rw [dec_false hn, if_neg (by omega), cond_false, hL _ ⟨by simp only []; omega, by simp only []; omega, by simp only []; omega, by simp only []; omega⟩ (by simp only []; omega)]
      · rw [drop_end (by omega)]
        simp only [spec_l4Look.l0, dec_false hi, cond_false, Yg, l4Keys_fv g3 hk0, l1In_fv, l4Text_fv g1 hk0]
        rw [show (n == 0) = false by rw [beq_eq_false_iff_ne]; omega, cond_false]
        unfold Yf
        generalize (textB c1 && decide ((c1.size : Int) ≤ 100)) = b1
        generalize hb2 : strEq c1 (⟨#[]⟩ : ByteArray) = b2
        have hb3 : strEq c1 Yj = b2 := hb2
        rw [hb3]
        generalize namesB c3 = b3
        generalize inB c2 0 1 = b4
        generalize (c2 == 0) = b5
        generalize ((c4.length : Int) == 0) = b6
        generalize ((c3.length : Int) == (c4.length : Int)) = b7
        generalize ((c3.length : Int) == 0) = b8
        rcases ZaW c0 with rfl | rfl | rfl | rfl | rfl | ⟨e1, e2, e3, e4, e5⟩
        · cases b1 <;> cases b5 <;> cases b6 <;> cases b8 <;> rfl
        · cases b2 <;> cases b6 <;> cases b8 <;> rfl
        · cases b2 <;> cases b4 <;> cases b6 <;> cases b8 <;> rfl
        · cases b2 <;> cases b5 <;> cases b8 <;> rfl
        · cases b2 <;> cases b3 <;> cases b5 <;> cases b7 <;> cases b8 <;> rfl
        · cases b8 <;> simp only [e1, e2, e3, e4, e5, cond_false, cond_true]
theorem look_fv {d : Int} {c0 : Int} {c1 : ByteArray} {c2 : Int} {c3 c4 : List (List D)} (hd0 : 0 ≤ d) (hd : d ≤ 6) (g1 : c1.size ≤ lim) (g3 : Zm RS lim c3) (g4 : Zm Yb lim c4) {k : Nat} (hk : Zay 1 k) {β : Type} (K : Int → Option β) : spec_l4Look.f k c0 c1 c2 c3 c4 d K = K (Yd d.toNat [.int .i64 c0, .str c1, .int .i64 c2, .sl c3, .sl c4]) := by
  have hb : big = 2 ^ 64 := rfl
  have h1 : lv 1 = 2 ^ 65 := rfl
  obtain ⟨n, rfl⟩ : ∃ n : Nat, d = n := ⟨d.toNat, by omega⟩
  exact spec_l4Look.f_of (look_t n g1 g3 g4 (by omega) (by unfold Zay at hk; omega)) K
theorem spec_l4Look.T {a0_0 : Int} {a0_1 : ByteArray} {a0_2 : Int} {a0_3 a0_4 : List (List D)} {a1 : Int} (h0 : 0 ≤ a1) (h1 : a1 ≤ 6) (g1 : a0_1.size ≤ lim) (g3 : Zm RS lim a0_3) (g4 : Zm Yb lim a0_4) : Tm (Zay 1) (fun k => spec_l4Look.t k a0_0 a0_1 a0_2 a0_3 a0_4 a1) (fun _ => True) := by
  have hb : big = 2 ^ 64 := rfl
  have h2 : lv 1 = 2 ^ 65 := rfl
  obtain ⟨n, rfl⟩ : ∃ n : Nat, a1 = n := ⟨a1.toNat, by omega⟩
  exact Tm.of (fun k hk => look_t n g1 g3 g4 (by omega) (by omega)) trivial
theorem spec_ValueOk.f_of {β : Type} {k : Nat} {a0_0 : Int} {a0_1 : ByteArray} {a0_2 : Int} {a0_3 : List (List D)} {a0_4 : List (List D)} {z0 : Bool} (h : spec_ValueOk.t k a0_0 a0_1 a0_2 a0_3 a0_4 = some z0) (K : Bool → Option β) : spec_ValueOk.f k a0_0 a0_1 a0_2 a0_3 a0_4 K = K z0 := by
  unfold spec_ValueOk.f
  rw [h]
theorem spec_ValueOk.tm {ι α : Type} {ok : ι → Prop} {ψ : α → Prop} {p : ι → Nat} {B : Nat} (hp : ∀ i, ok i → B ≤ p i) {a0_0 : Int} {a0_1 : ByteArray} {a0_2 : Int} {a0_3 : List (List D)} {a0_4 : List (List D)} {φ : Bool → Prop} (h : Tm (fun k => B ≤ k) (fun k => spec_ValueOk.t k a0_0 a0_1 a0_2 a0_3 a0_4) φ) {G : ι → Bool → Option α} (hG : ∀ z0, φ z0 → Tm ok (fun ι0 => G ι0 z0) ψ) : Tm ok (fun ι0 => spec_ValueOk.f (p ι0) a0_0 a0_1 a0_2 a0_3 a0_4 (G ι0)) ψ := by
  obtain ⟨z0, h1, h2⟩ := h
  exact (hG z0 h1).congr fun i0 hi0 => spec_ValueOk.f_of (h2 (p i0) (hp i0 hi0)) _
theorem spec_ValueOk.T {a0_0 : Int} {a0_1 : ByteArray} {a0_2 : Int} {a0_3 : List (List D)} {a0_4 : List (List D)} (ga0_1 : a0_1.size ≤ lim) (ga0_3 : Zm RS lim a0_3) (ga0_4 : Zm Yb lim a0_4) : Tm (Zay 1) (fun k => spec_ValueOk.t k a0_0 a0_1 a0_2 a0_3 a0_4) (fun _ => True) := by
  unfold spec_ValueOk.t spec_ValueOk.g
  have hm := Za
  have hlim : lim = 1048576 := rfl
  have la0_3 := ga0_3.1
  have la0_4 := ga0_4.1
  refine spec_l4Look.tm (fun i hi => hi) (spec_l4Look.T (by first | assumption | omega) (by first | assumption | omega) (by first | assumption | omega) (by first | assumption | omega) (by first | assumption | omega)) (fun y2 hy1 => ?_)
  exact Tm.ret (by trivial)
noncomputable def spec_ValueOk.v (a0_0 : Int) (a0_1 : ByteArray) (a0_2 : Int) (a0_3 : List (List D)) (a0_4 : List (List D)) : Bool := (spec_ValueOk.t (lv 1) a0_0 a0_1 a0_2 a0_3 a0_4).getD default
theorem spec_ValueOk.tv {a0_0 : Int} {a0_1 : ByteArray} {a0_2 : Int} {a0_3 : List (List D)} {a0_4 : List (List D)} (ga0_1 : a0_1.size ≤ lim) (ga0_3 : Zm RS lim a0_3) (ga0_4 : Zm Yb lim a0_4) {k : Nat} (hk : (Zay 1) k) : spec_ValueOk.t k a0_0 a0_1 a0_2 a0_3 a0_4 = some (spec_ValueOk.v a0_0 a0_1 a0_2 a0_3 a0_4) := (spec_ValueOk.T ga0_1 ga0_3 ga0_4).val hk
theorem spec_ValueOk.fv {a0_0 : Int} {a0_1 : ByteArray} {a0_2 : Int} {a0_3 : List (List D)} {a0_4 : List (List D)} (ga0_1 : a0_1.size ≤ lim) (ga0_3 : Zm RS lim a0_3) (ga0_4 : Zm Yb lim a0_4) {k : Nat} (hk : (Zay 1) k) {β : Type} (K : Bool → Option β) : spec_ValueOk.f k a0_0 a0_1 a0_2 a0_3 a0_4 K = K (spec_ValueOk.v a0_0 a0_1 a0_2 a0_3 a0_4) := spec_ValueOk.f_of (spec_ValueOk.tv ga0_1 ga0_3 ga0_4 hk) K
theorem spec_WorksOk.f_of {β : Type} {k : Nat} {a0 : List (List D)} {z0 : Bool} (h : spec_WorksOk.t k a0 = some z0) (K : Bool → Option β) : spec_WorksOk.f k a0 K = K z0 := by
  unfold spec_WorksOk.f
  rw [h]
theorem spec_WorksOk.tm {ι α : Type} {ok : ι → Prop} {ψ : α → Prop} {p : ι → Nat} {B : Nat} (hp : ∀ i, ok i → B ≤ p i) {a0 : List (List D)} {φ : Bool → Prop} (h : Tm (fun k => B ≤ k) (fun k => spec_WorksOk.t k a0) φ) {G : ι → Bool → Option α} (hG : ∀ z0, φ z0 → Tm ok (fun ι0 => G ι0 z0) ψ) : Tm ok (fun ι0 => spec_WorksOk.f (p ι0) a0 (G ι0)) ψ := by
  obtain ⟨z0, h1, h2⟩ := h
  exact (hG z0 h1).congr fun i0 hi0 => spec_WorksOk.f_of (h2 (p i0) (hp i0 hi0)) _
theorem spec_WorksOk.T {a0 : List (List D)} (ga0 : Zm Ya lim a0) : Tm (Zay 1) (fun k => spec_WorksOk.t k a0) (fun _ => True) := by
  unfold spec_WorksOk.t spec_WorksOk.g
  have hm := Za
  have hlim : lim = 1048576 := rfl
  have la0 := ga0.1
  refine Tm.loop (okk := (Zay 1)) (p := fun k => k) (fun i hi => up0 hi) (b := fun k => spec_WorksOk.l0 k a0 (fun z0 => some z0)) (fun i => (((a0.length : Int)) - i).toNat) (fun i => 0 ≤ i ∧ i ≤ (a0.length : Int)) ?_ ?_ ?_
  · rintro i hI
    try simp only [] at hI ⊢
    have : big = 2 ^ 64 := rfl
    omega
  · ((try simp only []); omega)
  · rintro i hI L hL
    try simp only [] at hI
    obtain ⟨i0, i1⟩ := hI
    simp only [spec_WorksOk.l0]
    refine Tm.ite (fun h1 => ?_) (fun h1 => ?_)
    · try simp only [bz0, bz1, bz2, bz3, bz4, bz5, bz6, bz7, bz8, bz9, bza] at h1
      refine Tm.atRow (by first | assumption | omega) (by first | assumption | omega) (fun x2 hx3 hm4 => ?_)
      obtain ⟨c5, c6, c7, c8, c9, c10, c11, rfl, g12, g13, g14, g15, g16, g17, g18, _⟩ := (ga0.2 x2 hm4).open
      refine Tm.uncons ?_
      refine Tm.dInt ?_
      refine Tm.uncons ?_
      refine Tm.dInt ?_
      refine Tm.uncons ?_
      refine Tm.dInt ?_
      refine Tm.uncons ?_
      refine Tm.dStr ?_
      refine Tm.uncons ?_
      refine Tm.dInt ?_
      refine Tm.uncons ?_
      refine Tm.dSl ?_
      refine Tm.uncons ?_
      refine Tm.dSl ?_
      refine Tm.atEnd ?_
      refine spec_l1In.tm (fun i hi => up0 hi.1) (spec_l1In.T) (fun y20 hy19 => ?_)
      refine Tm.ite (fun h21 => ?_) (fun h21 => ?_)
      · try simp only [bz0, bz1, bz2, bz3, bz4, bz5, bz6, bz7, bz8, bz9, bza] at h21
        exact Tm.ret (by trivial)
      · try simp only [bz0, bz1, bz2, bz3, bz4, bz5, bz6, bz7, bz8, bz9, bza] at h21
        have z22 := hy19 h21
        refine spec_l1In.tm (fun i hi => up0 hi.1) (spec_l1In.T) (fun y24 hy23 => ?_)
        refine Tm.ite (fun h25 => ?_) (fun h25 => ?_)
        · try simp only [bz0, bz1, bz2, bz3, bz4, bz5, bz6, bz7, bz8, bz9, bza] at h25
          exact Tm.ret (by trivial)
        · try simp only [bz0, bz1, bz2, bz3, bz4, bz5, bz6, bz7, bz8, bz9, bza] at h25
          have z26 := hy23 h25
          refine spec_ValueOk.tm (fun i hi => hi.1) (spec_ValueOk.T (by first | assumption | omega) (by first | assumption | omega) (by first | assumption | omega)) (fun y28 hy27 => ?_)
          refine Tm.ite (fun h29 => ?_) (fun h29 => ?_)
          · try simp only [bz0, bz1, bz2, bz3, bz4, bz5, bz6, bz7, bz8, bz9, bza] at h29
            exact Tm.ret (by trivial)
          · try simp only [bz0, bz1, bz2, bz3, bz4, bz5, bz6, bz7, bz8, bz9, bza] at h29
            refine Tm.ite (fun h30 => ?_) (fun h30 => ?_)
            · try simp only [bz0, bz1, bz2, bz3, bz4, bz5, bz6, bz7, bz8, bz9, bza] at h30
              try rw [ZC (x := i - 1) (by omega) (by omega)]
              refine Tm.atRow (by first | assumption | omega) (by first | assumption | omega) (fun x31 hx32 hm33 => ?_)
              obtain ⟨c34, c35, c36, c37, c38, c39, c40, rfl, g41, g42, g43, g44, g45, g46, g47, _⟩ := (ga0.2 x31 hm33).open
              refine Tm.uncons ?_
              refine Tm.dInt ?_
              refine Tm.uncons ?_
              refine Tm.dInt ?_
              refine Tm.uncons ?_
              refine Tm.dInt ?_
              refine Tm.uncons ?_
              refine Tm.dStr ?_
              refine Tm.uncons ?_
              refine Tm.dInt ?_
              refine Tm.uncons ?_
              refine Tm.dSl ?_
              refine Tm.uncons ?_
              refine Tm.dSl ?_
              refine Tm.atEnd ?_
              refine Tm.ite (fun h48 => ?_) (fun h48 => ?_)
              · try simp only [bz0, bz1, bz2, bz3, bz4, bz5, bz6, bz7, bz8, bz9, bza] at h48
                exact Tm.ret (by trivial)
              · try simp only [bz0, bz1, bz2, bz3, bz4, bz5, bz6, bz7, bz8, bz9, bza] at h48
                try rw [ZC (x := i + 1) (by omega) (by omega)]
                exact hL _ (by (try simp only []); omega) (by (try simp only []); omega)
            · try simp only [bz0, bz1, bz2, bz3, bz4, bz5, bz6, bz7, bz8, bz9, bza] at h30
              try rw [ZC (x := i + 1) (by omega) (by omega)]
              exact hL _ (by (try simp only []); omega) (by (try simp only []); omega)
    · try simp only [bz0, bz1, bz2, bz3, bz4, bz5, bz6, bz7, bz8, bz9, bza] at h1
      exact Tm.ret (by trivial)
noncomputable def spec_WorksOk.v (a0 : List (List D)) : Bool := (spec_WorksOk.t (lv 1) a0).getD default
theorem spec_WorksOk.tv {a0 : List (List D)} (ga0 : Zm Ya lim a0) {k : Nat} (hk : (Zay 1) k) : spec_WorksOk.t k a0 = some (spec_WorksOk.v a0) := (spec_WorksOk.T ga0).val hk
theorem spec_WorksOk.fv {a0 : List (List D)} (ga0 : Zm Ya lim a0) {k : Nat} (hk : (Zay 1) k) {β : Type} (K : Bool → Option β) : spec_WorksOk.f k a0 K = K (spec_WorksOk.v a0) := spec_WorksOk.f_of (spec_WorksOk.tv ga0 hk) K
theorem spec_l11Runs.f_of {β : Type} {k : Nat} {a0 : List (List D)} {a1 : Int} {z0 : Bool} (h : spec_l11Runs.t k a0 a1 = some z0) (K : Bool → Option β) : spec_l11Runs.f k a0 a1 K = K z0 := by
  unfold spec_l11Runs.f
  rw [h]
theorem spec_l11Runs.tm {ι α : Type} {ok : ι → Prop} {ψ : α → Prop} {p : ι → Nat} {B : Nat} (hp : ∀ i, ok i → B ≤ p i) {a0 : List (List D)} {a1 : Int} {φ : Bool → Prop} (h : Tm (fun k => B ≤ k) (fun k => spec_l11Runs.t k a0 a1) φ) {G : ι → Bool → Option α} (hG : ∀ z0, φ z0 → Tm ok (fun ι0 => G ι0 z0) ψ) : Tm ok (fun ι0 => spec_l11Runs.f (p ι0) a0 a1 (G ι0)) ψ := by
  obtain ⟨z0, h1, h2⟩ := h
  exact (hG z0 h1).congr fun i0 hi0 => spec_l11Runs.f_of (h2 (p i0) (hp i0 hi0)) _
theorem spec_l11Runs.T {a0 : List (List D)} {a1 : Int} (ga0 : Zm RII lim a0) : Tm Zar (fun k => spec_l11Runs.t k a0 a1) (fun _ => True) := by
  unfold spec_l11Runs.t spec_l11Runs.g
  have hm := Za
  have hlim : lim = 1048576 := rfl
  have la0 := ga0.1
  refine Tm.loop (okk := Zar) (p := fun k => k) (fun i hi => hi) (b := fun k => spec_l11Runs.l0 k a0 a1 (fun z0 => some z0)) (fun i => (((a0.length : Int)) - i).toNat) (fun i => 0 ≤ i ∧ i ≤ (a0.length : Int)) ?_ ?_ ?_
  · rintro i hI
    try simp only [] at hI ⊢
    have : big = 2 ^ 64 := rfl
    omega
  · ((try simp only []); omega)
  · rintro i hI L hL
    try simp only [] at hI
    obtain ⟨i0, i1⟩ := hI
    simp only [spec_l11Runs.l0]
    refine Tm.ite (fun h1 => ?_) (fun h1 => ?_)
    · try simp only [bz0, bz1, bz2, bz3, bz4, bz5, bz6, bz7, bz8, bz9, bza] at h1
      refine Tm.atRow (by first | assumption | omega) (by first | assumption | omega) (fun x2 hx3 hm4 => ?_)
      obtain ⟨c5, c6, rfl, g7, g8, _⟩ := (ga0.2 x2 hm4).open
      refine Tm.uncons ?_
      refine Tm.dInt ?_
      refine Tm.uncons ?_
      refine Tm.dInt ?_
      refine Tm.atEnd ?_
      refine spec_l1In.tm (fun i hi => hi.1) (spec_l1In.T) (fun y10 hy9 => ?_)
      refine Tm.ite (fun h11 => ?_) (fun h11 => ?_)
      · try simp only [bz0, bz1, bz2, bz3, bz4, bz5, bz6, bz7, bz8, bz9, bza] at h11
        exact Tm.ret (by trivial)
      · try simp only [bz0, bz1, bz2, bz3, bz4, bz5, bz6, bz7, bz8, bz9, bza] at h11
        have z12 := hy9 h11
        refine Tm.atRow (by first | assumption | omega) (by first | assumption | omega) (fun x13 hx14 hm15 => ?_)
        rw [hx3] at hx14
        injection hx14 with hx14
        subst hx14
        refine Tm.uncons ?_
        refine Tm.dInt ?_
        refine Tm.uncons ?_
        refine Tm.dInt ?_
        refine Tm.atEnd ?_
        refine spec_l1In.tm (fun i hi => hi.1) (spec_l1In.T) (fun y19 hy18 => ?_)
        refine Tm.ite (fun h20 => ?_) (fun h20 => ?_)
        · try simp only [bz0, bz1, bz2, bz3, bz4, bz5, bz6, bz7, bz8, bz9, bza] at h20
          exact Tm.ret (by trivial)
        · try simp only [bz0, bz1, bz2, bz3, bz4, bz5, bz6, bz7, bz8, bz9, bza] at h20
          have z21 := hy18 h20
          refine Tm.ite (fun h22 => ?_) (fun h22 => ?_)
          · try simp only [bz0, bz1, bz2, bz3, bz4, bz5, bz6, bz7, bz8, bz9, bza] at h22
            try rw [ZC (x := i - 1) (by omega) (by omega)]
            refine Tm.atRow (by first | assumption | omega) (by first | assumption | omega) (fun x23 hx24 hm25 => ?_)
            obtain ⟨c26, c27, rfl, g28, g29, _⟩ := (ga0.2 x23 hm25).open
            refine Tm.uncons ?_
            refine Tm.dInt ?_
            refine Tm.uncons ?_
            refine Tm.dInt ?_
            refine Tm.atEnd ?_
            refine Tm.atRow (by first | assumption | omega) (by first | assumption | omega) (fun x30 hx31 hm32 => ?_)
            rw [hx3] at hx31
            injection hx31 with hx31
            subst hx31
            refine Tm.uncons ?_
            refine Tm.dInt ?_
            refine Tm.uncons ?_
            refine Tm.dInt ?_
            refine Tm.atEnd ?_
            refine Tm.ite (fun h35 => ?_) (fun h35 => ?_)
            · try simp only [bz0, bz1, bz2, bz3, bz4, bz5, bz6, bz7, bz8, bz9, bza] at h35
              exact Tm.ret (by trivial)
            · try simp only [bz0, bz1, bz2, bz3, bz4, bz5, bz6, bz7, bz8, bz9, bza] at h35
              try rw [ZC (x := i + 1) (by omega) (by omega)]
              exact hL _ (by (try simp only []); omega) (by (try simp only []); omega)
          · try simp only [bz0, bz1, bz2, bz3, bz4, bz5, bz6, bz7, bz8, bz9, bza] at h22
            try rw [ZC (x := i + 1) (by omega) (by omega)]
            exact hL _ (by (try simp only []); omega) (by (try simp only []); omega)
    · try simp only [bz0, bz1, bz2, bz3, bz4, bz5, bz6, bz7, bz8, bz9, bza] at h1
      exact Tm.ret (by trivial)
noncomputable def spec_l11Runs.v (a0 : List (List D)) (a1 : Int) : Bool := (spec_l11Runs.t big a0 a1).getD default
theorem spec_l11Runs.tv {a0 : List (List D)} {a1 : Int} (ga0 : Zm RII lim a0) {k : Nat} (hk : Zar k) : spec_l11Runs.t k a0 a1 = some (spec_l11Runs.v a0 a1) := (spec_l11Runs.T ga0).val hk
theorem spec_l11Runs.fv {a0 : List (List D)} {a1 : Int} (ga0 : Zm RII lim a0) {k : Nat} (hk : Zar k) {β : Type} (K : Bool → Option β) : spec_l11Runs.f k a0 a1 K = K (spec_l11Runs.v a0 a1) := spec_l11Runs.f_of (spec_l11Runs.tv ga0 hk) K
def runP (xs : List (List D)) (low : Int) (i : Nat) : Bool := inB (gI xs (i : Int) 0) 1 1000000 && (inB (gI xs (i : Int) 1) low 10000 && (!decide ((i : Int) > 0) || !decide (gI xs ((i : Int) - 1) 0 ≥ gI xs (i : Int) 0)))
def runsB (xs : List (List D)) (low : Int) : Bool := (List.range xs.length).all fun i => runP xs low i
theorem l11Runs_fv {a : List (List D)} {low : Int} (g : Zm RII lim a) {k : Nat} (hk : Zar k) {β : Type} (K : Bool → Option β) : spec_l11Runs.f k a low K = K (runsB a low && decide ((a.length : Int) ≤ 80)) := spec_l11Runs.f_of (by
  have hl := g.1
  have hlim : lim = 1048576 := rfl
  have hb : big = 2 ^ 64 := rfl
  unfold spec_l11Runs.t spec_l11Runs.g
  rw [iter_all0 (n := a.length) (runP a low) (r1 := some false) (r2 := some (decide ((a.length : Int) ≤ 80))) (by unfold Zar at hk; omega)]
  · unfold runsB
    generalize List.all _ _ = x
    cases x <;> rfl
  · intro L i hi
    unfold runP
    simp (disch := omega) only [spec_l11Runs.l0, dec_true (show (i : Int) < a.length by omega), cond_true, RII.row g, uncons_at, dInt_self, atEnd_at, l1In_fv, ZC]
    by_cases h0 : (i : Int) > 0
    · simp (disch := omega) only [dec_true h0, cond_true, RII.row g, uncons_at, dInt_self, atEnd_at]
      cases inB (gI a (i : Int) 0) 1 1000000 <;> cases inB (gI a (i : Int) 1) low 10000 <;> cases decide (gI a ((i : Int) - 1) 0 ≥ gI a (i : Int) 0) <;> rfl
    · simp only [dec_false h0, cond_false]
      cases inB (gI a (i : Int) 0) 1 1000000 <;> cases inB (gI a (i : Int) 1) low 10000 <;> rfl
  · intro L
    simp [spec_l11Runs.l0]) K
theorem spec_l13Sum.f_of {β : Type} {k : Nat} {a0 : List (List D)} {z0 : Int} (h : spec_l13Sum.t k a0 = some z0) (K : Int → Option β) : spec_l13Sum.f k a0 K = K z0 := by
  unfold spec_l13Sum.f
  rw [h]
theorem spec_l13Sum.tm {ι α : Type} {ok : ι → Prop} {ψ : α → Prop} {p : ι → Nat} {B : Nat} (hp : ∀ i, ok i → B ≤ p i) {a0 : List (List D)} {φ : Int → Prop} (h : Tm (fun k => B ≤ k) (fun k => spec_l13Sum.t k a0) φ) {G : ι → Int → Option α} (hG : ∀ z0, φ z0 → Tm ok (fun ι0 => G ι0 z0) ψ) : Tm ok (fun ι0 => spec_l13Sum.f (p ι0) a0 (G ι0)) ψ := by
  obtain ⟨z0, h1, h2⟩ := h
  exact (hG z0 h1).congr fun i0 hi0 => spec_l13Sum.f_of (h2 (p i0) (hp i0 hi0)) _
theorem spec_l13Sum.T {a0 : List (List D)} (ga0 : Zm RII lim a0) : Tm Zar (fun k => spec_l13Sum.t k a0) (fun _ => True) := by
  unfold spec_l13Sum.t spec_l13Sum.g
  have hm := Za
  have hlim : lim = 1048576 := rfl
  have la0 := ga0.1
  refine Tm.loop (okk := Zar) (p := fun k => k) (fun i hi => hi) (b := fun k => spec_l13Sum.l0 k a0 (fun z0 => some z0)) (fun v => match v with | (u0, i) => (((a0.length : Int)) - i).toNat) (fun v => match v with | (u0, i) => 0 ≤ i ∧ i ≤ (a0.length : Int)) ?_ ?_ ?_
  · rintro ⟨u0, i⟩ hI
    try simp only [] at hI ⊢
    have : big = 2 ^ 64 := rfl
    omega
  · ((try simp only []); omega)
  · rintro ⟨u0, i⟩ hI L hL
    try simp only [] at hI
    obtain ⟨i0, i1⟩ := hI
    simp only [spec_l13Sum.l0]
    refine Tm.ite (fun h1 => ?_) (fun h1 => ?_)
    · try simp only [bz0, bz1, bz2, bz3, bz4, bz5, bz6, bz7, bz8, bz9, bza] at h1
      refine Tm.atRow (by first | assumption | omega) (by first | assumption | omega) (fun x2 hx3 hm4 => ?_)
      obtain ⟨c5, c6, rfl, g7, g8, _⟩ := (ga0.2 x2 hm4).open
      refine Tm.uncons ?_
      refine Tm.dInt ?_
      refine Tm.uncons ?_
      refine Tm.dInt ?_
      refine Tm.atEnd ?_
      try rw [ZC (x := u0 + c6) (by omega) (by omega)]
      try rw [ZC (x := i + 1) (by omega) (by omega)]
      exact hL _ (by (try simp only []); omega) (by (try simp only []); omega)
    · try simp only [bz0, bz1, bz2, bz3, bz4, bz5, bz6, bz7, bz8, bz9, bza] at h1
      exact Tm.ret (by trivial)
noncomputable def spec_l13Sum.v (a0 : List (List D)) : Int := (spec_l13Sum.t big a0).getD default
theorem spec_l13Sum.tv {a0 : List (List D)} (ga0 : Zm RII lim a0) {k : Nat} (hk : Zar k) : spec_l13Sum.t k a0 = some (spec_l13Sum.v a0) := (spec_l13Sum.T ga0).val hk
theorem spec_l13Sum.fv {a0 : List (List D)} (ga0 : Zm RII lim a0) {k : Nat} (hk : Zar k) {β : Type} (K : Int → Option β) : spec_l13Sum.f k a0 K = K (spec_l13Sum.v a0) := spec_l13Sum.f_of (spec_l13Sum.tv ga0 hk) K
theorem spec_IsleOk.f_of {β : Type} {k : Nat} {a0_0 : ByteArray} {a0_1 : Int} {a0_2 : Int} {a0_3 : List (List D)} {a0_4 : List (List D)} {z0 : Bool} (h : spec_IsleOk.t k a0_0 a0_1 a0_2 a0_3 a0_4 = some z0) (K : Bool → Option β) : spec_IsleOk.f k a0_0 a0_1 a0_2 a0_3 a0_4 K = K z0 := by
  unfold spec_IsleOk.f
  rw [h]
theorem spec_IsleOk.tm {ι α : Type} {ok : ι → Prop} {ψ : α → Prop} {p : ι → Nat} {B : Nat} (hp : ∀ i, ok i → B ≤ p i) {a0_0 : ByteArray} {a0_1 : Int} {a0_2 : Int} {a0_3 : List (List D)} {a0_4 : List (List D)} {φ : Bool → Prop} (h : Tm (fun k => B ≤ k) (fun k => spec_IsleOk.t k a0_0 a0_1 a0_2 a0_3 a0_4) φ) {G : ι → Bool → Option α} (hG : ∀ z0, φ z0 → Tm ok (fun ι0 => G ι0 z0) ψ) : Tm ok (fun ι0 => spec_IsleOk.f (p ι0) a0_0 a0_1 a0_2 a0_3 a0_4 (G ι0)) ψ := by
  obtain ⟨z0, h1, h2⟩ := h
  exact (hG z0 h1).congr fun i0 hi0 => spec_IsleOk.f_of (h2 (p i0) (hp i0 hi0)) _
theorem spec_IsleOk.T {a0_0 : ByteArray} {a0_1 : Int} {a0_2 : Int} {a0_3 : List (List D)} {a0_4 : List (List D)} (ga0_0 : a0_0.size ≤ lim) (ga0_3 : Zm Ya lim a0_3) (ga0_4 : Zm RII lim a0_4) : Tm (Zay 1) (fun k => spec_IsleOk.t k a0_0 a0_1 a0_2 a0_3 a0_4) (fun _ => True) := by
  unfold spec_IsleOk.t spec_IsleOk.g
  have hm := Za
  have hlim : lim = 1048576 := rfl
  have la0_3 := ga0_3.1
  have la0_4 := ga0_4.1
  refine spec_NameOk.tm (fun i hi => up0 hi) (spec_NameOk.T (by first | assumption | omega)) (fun y2 hy1 => ?_)
  refine Tm.ite (fun h3 => ?_) (fun h3 => ?_)
  · try simp only [bz0, bz1, bz2, bz3, bz4, bz5, bz6, bz7, bz8, bz9, bza] at h3
    refine spec_l1In.tm (fun i hi => up0 hi) (spec_l1In.T) (fun y5 hy4 => ?_)
    refine Tm.ite (fun h6 => ?_) (fun h6 => ?_)
    · try simp only [bz0, bz1, bz2, bz3, bz4, bz5, bz6, bz7, bz8, bz9, bza] at h6
      have z7 := hy4 h6
      refine spec_l1In.tm (fun i hi => up0 hi) (spec_l1In.T) (fun y9 hy8 => ?_)
      refine Tm.ite (fun h10 => ?_) (fun h10 => ?_)
      · try simp only [bz0, bz1, bz2, bz3, bz4, bz5, bz6, bz7, bz8, bz9, bza] at h10
        have z11 := hy8 h10
        refine spec_WorksOk.tm (fun i hi => hi) (spec_WorksOk.T (by first | assumption | omega)) (fun y13 hy12 => ?_)
        refine Tm.ite (fun h14 => ?_) (fun h14 => ?_)
        · try simp only [bz0, bz1, bz2, bz3, bz4, bz5, bz6, bz7, bz8, bz9, bza] at h14
          refine spec_l11Runs.tm (fun i hi => up0 hi) (spec_l11Runs.T (by first | assumption | omega)) (fun y16 hy15 => ?_)
          refine Tm.ite (fun h17 => ?_) (fun h17 => ?_)
          · try simp only [bz0, bz1, bz2, bz3, bz4, bz5, bz6, bz7, bz8, bz9, bza] at h17
            refine spec_l13Sum.tm (fun i hi => up0 hi) (spec_l13Sum.T (by first | assumption | omega)) (fun y19 hy18 => ?_)
            exact Tm.ret (by trivial)
          · try simp only [bz0, bz1, bz2, bz3, bz4, bz5, bz6, bz7, bz8, bz9, bza] at h17
            exact Tm.ret (by trivial)
        · try simp only [bz0, bz1, bz2, bz3, bz4, bz5, bz6, bz7, bz8, bz9, bza] at h14
          exact Tm.ret (by trivial)
      · try simp only [bz0, bz1, bz2, bz3, bz4, bz5, bz6, bz7, bz8, bz9, bza] at h10
        exact Tm.ret (by trivial)
    · try simp only [bz0, bz1, bz2, bz3, bz4, bz5, bz6, bz7, bz8, bz9, bza] at h6
      exact Tm.ret (by trivial)
  · try simp only [bz0, bz1, bz2, bz3, bz4, bz5, bz6, bz7, bz8, bz9, bza] at h3
    exact Tm.ret (by trivial)
noncomputable def spec_IsleOk.v (a0_0 : ByteArray) (a0_1 : Int) (a0_2 : Int) (a0_3 : List (List D)) (a0_4 : List (List D)) : Bool := (spec_IsleOk.t (lv 1) a0_0 a0_1 a0_2 a0_3 a0_4).getD default
theorem spec_IsleOk.tv {a0_0 : ByteArray} {a0_1 : Int} {a0_2 : Int} {a0_3 : List (List D)} {a0_4 : List (List D)} (ga0_0 : a0_0.size ≤ lim) (ga0_3 : Zm Ya lim a0_3) (ga0_4 : Zm RII lim a0_4) {k : Nat} (hk : (Zay 1) k) : spec_IsleOk.t k a0_0 a0_1 a0_2 a0_3 a0_4 = some (spec_IsleOk.v a0_0 a0_1 a0_2 a0_3 a0_4) := (spec_IsleOk.T ga0_0 ga0_3 ga0_4).val hk
theorem spec_IsleOk.fv {a0_0 : ByteArray} {a0_1 : Int} {a0_2 : Int} {a0_3 : List (List D)} {a0_4 : List (List D)} (ga0_0 : a0_0.size ≤ lim) (ga0_3 : Zm Ya lim a0_3) (ga0_4 : Zm RII lim a0_4) {k : Nat} (hk : (Zay 1) k) {β : Type} (K : Bool → Option β) : spec_IsleOk.f k a0_0 a0_1 a0_2 a0_3 a0_4 K = K (spec_IsleOk.v a0_0 a0_1 a0_2 a0_3 a0_4) := spec_IsleOk.f_of (spec_IsleOk.tv ga0_0 ga0_3 ga0_4 hk) K
theorem spec_Obey.f_of {β : Type} {k : Nat} {a0_0 : ByteArray} {a0_1 : Int} {a0_2 : Int} {a0_3 : List (List D)} {a0_4 : List (List D)} {a1 : Int} {a2 : List (List D)} {z0 : ByteArray} {z1 : Int} {z2 : Int} {z3 : List (List C)} {z4 : List (List C)} {z5 : Bool} (h : spec_Obey.t k a0_0 a0_1 a0_2 a0_3 a0_4 a1 a2 = some (z0, z1, z2, z3, z4, z5)) (K : ByteArray → Int → Int → (List (List C)) → (List (List C)) → Bool → Option β) : spec_Obey.f k a0_0 a0_1 a0_2 a0_3 a0_4 a1 a2 K = K z0 z1 z2 z3 z4 z5 := by
  unfold spec_Obey.f
  rw [h]
theorem spec_Obey.tm {ι α : Type} {ok : ι → Prop} {ψ : α → Prop} {p : ι → Nat} {B : Nat} (hp : ∀ i, ok i → B ≤ p i) {a0_0 : ByteArray} {a0_1 : Int} {a0_2 : Int} {a0_3 : List (List D)} {a0_4 : List (List D)} {a1 : Int} {a2 : List (List D)} {φ : ByteArray × Int × Int × (List (List C)) × (List (List C)) × Bool → Prop} (h : Tm (fun k => B ≤ k) (fun k => spec_Obey.t k a0_0 a0_1 a0_2 a0_3 a0_4 a1 a2) φ) {G : ι → ByteArray → Int → Int → (List (List C)) → (List (List C)) → Bool → Option α} (hG : ∀ z0 z1 z2 z3 z4 z5, φ (z0, z1, z2, z3, z4, z5) → Tm ok (fun ι0 => G ι0 z0 z1 z2 z3 z4 z5) ψ) : Tm ok (fun ι0 => spec_Obey.f (p ι0) a0_0 a0_1 a0_2 a0_3 a0_4 a1 a2 (G ι0)) ψ := by
  obtain ⟨⟨z0, z1, z2, z3, z4, z5⟩, h1, h2⟩ := h
  exact (hG z0 z1 z2 z3 z4 z5 h1).congr fun i0 hi0 => spec_Obey.f_of (h2 (p i0) (hp i0 hi0)) _
theorem slices_Clone_string.f_of {β : Type} {k : Nat} {a0 : List (List D)} {z0 : List (List C)} (h : slices_Clone_string.t k a0 = some z0) (K : (List (List C)) → Option β) : slices_Clone_string.f k a0 K = K z0 := by
  unfold slices_Clone_string.f
  rw [h]
theorem slices_Clone_string.tm {ι α : Type} {ok : ι → Prop} {ψ : α → Prop} {p : ι → Nat} {B : Nat} (hp : ∀ i, ok i → B ≤ p i) {a0 : List (List D)} {φ : (List (List C)) → Prop} (h : Tm (fun k => B ≤ k) (fun k => slices_Clone_string.t k a0) φ) {G : ι → (List (List C)) → Option α} (hG : ∀ z0, φ z0 → Tm ok (fun ι0 => G ι0 z0) ψ) : Tm ok (fun ι0 => slices_Clone_string.f (p ι0) a0 (G ι0)) ψ := by
  obtain ⟨z0, h1, h2⟩ := h
  exact (hG z0 h1).congr fun i0 hi0 => slices_Clone_string.f_of (h2 (p i0) (hp i0 hi0)) _
theorem clone_string_fv {a : List (List D)} (g : Zm RS lim a) {k : Nat} {β : Type} (K : List (List C) → Option β) : slices_Clone_string.f k a K = K (a.map (·.map C.d)) := slices_Clone_string.f_of (by
  have hl := g.1
  have hlim : lim = 1048576 := rfl
  have hm : Z6 = 2 ^ 36 := rfl
  unfold slices_Clone_string.t slices_Clone_string.g
  rw [guard_at (RS.flat g.2), guard_at (by simp only [List.length_nil, map_len]; omega), List.nil_append]
  exact nilSl_same) K
theorem impl_copyValue.f_of {β : Type} {k : Nat} {a0_0 : Int} {a0_1 : ByteArray} {a0_2 : Int} {a0_3 : List (List D)} {a0_4 : List (List D)} {z0 : Int} {z1 : ByteArray} {z2 : Int} {z3 : List (List C)} {z4 : List (List C)} (h : impl_copyValue.t k a0_0 a0_1 a0_2 a0_3 a0_4 = some (z0, z1, z2, z3, z4)) (K : Int → ByteArray → Int → (List (List C)) → (List (List C)) → Option β) : impl_copyValue.f k a0_0 a0_1 a0_2 a0_3 a0_4 K = K z0 z1 z2 z3 z4 := by
  unfold impl_copyValue.f
  unfold impl_copyValue.w
  rw [h]
theorem impl_copyValue.tm {ι α : Type} {ok : ι → Prop} {ψ : α → Prop} {p : ι → Nat} {B : Nat} (hp : ∀ i, ok i → B ≤ p i) {a0_0 : Int} {a0_1 : ByteArray} {a0_2 : Int} {a0_3 : List (List D)} {a0_4 : List (List D)} {φ : Int × ByteArray × Int × (List (List C)) × (List (List C)) → Prop} (h : Tm (fun k => B ≤ k) (fun k => impl_copyValue.t k a0_0 a0_1 a0_2 a0_3 a0_4) φ) {G : ι → Int → ByteArray → Int → (List (List C)) → (List (List C)) → Option α} (hG : ∀ z0 z1 z2 z3 z4, φ (z0, z1, z2, z3, z4) → Tm ok (fun ι0 => G ι0 z0 z1 z2 z3 z4) ψ) : Tm ok (fun ι0 => impl_copyValue.f (p ι0) a0_0 a0_1 a0_2 a0_3 a0_4 (G ι0)) ψ := by
  obtain ⟨⟨z0, z1, z2, z3, z4⟩, h1, h2⟩ := h
  exact (hG z0 z1 z2 z3 z4 h1).congr fun i0 hi0 => impl_copyValue.f_of (h2 (p i0) (hp i0 hi0)) _
theorem copyVal (n : Nat) : ∀ (c0 : Int) (c1 : ByteArray) (c2 : Int) (c3 c4 : List (List D)), Zm RS lim c3 → c4.length ≤ lim → (∀ x ∈ c4, Yc lim n x) → ∀ {k : Nat}, big + n + 1 ≤ k → impl_copyValue.t k c0 c1 c2 c3 c4 = some (c0, c1, c2, Zs c3, Zs c4) := by
  have hm : Z6 = 2 ^ 36 := rfl
  have hlim : lim = 1048576 := rfl
  have hb : big = 2 ^ 64 := rfl
  induction n using Nat.strongRecOn with
  | ind n ih =>
  intro c0 c1 c2 c3 c4 g3 l4 g4 k hk
  obtain ⟨k, rfl⟩ : ∃ k', k = k' + 1 := ⟨k - 1, by omega⟩
  rw [impl_copyValue.t_succ]
  unfold impl_copyValue.g impl_copyValue.body
  rw [clone_string_fv g3]
  refine (iter_copy (xs := c4) (r := some (c0, c1, c2, c3.map (·.map C.d), Zs c4)) (by omega) (fun L i hi => ?_) (fun L => ?_)).trans (by rw [RS.deep g3.2])
  · have hl : (Zs (c4.take i)).length = i := by rw [deepRows_length, List.length_take]; omega
    obtain ⟨n', hn', d0, d1, d2, d3, d4, e, w0, w1, w2, w3, w4, w5⟩ : ∃ n', n = n' + 1 ∧ ∃ d0 d1 d2 d3 d4, gR c4 (i : Int) = [.int .i64 d0, .str d1, .int .i64 d2, .sl d3, .sl d4] ∧ (Lit.int .i64 d0).wf = true ∧ d1.size ≤ lim ∧ (Lit.int .i64 d2).wf = true ∧ Zm RS lim d3 ∧ d4.length ≤ lim ∧ ∀ x ∈ d4, Yc lim n' x := by
      have := g4 _ (gR_mem (xs := c4) (v := (i : Int)) (by omega) (by omega))
      generalize gR c4 (i : Int) = r at this
      cases this with
      | mk e0 e1 e2 e3 e4 w0 p1 w2 p3 p4 p5 => exact ⟨_, rfl, _, _, _, _, _, rfl, w0, p1, w2, p3, p4, p5⟩
    simp (disch := omega) only [impl_copyValue.l0, dec_true (show (i : Int) < c4.length by omega), cond_true, ZbB (xs := c4) (v := (i : Int)), e, uncons_at, dInt_self, dStr_at, dSl_at, atEnd_at, impl_copyValue.f_of (ih n' (by omega) d0 d1 d2 d3 d4 w3 w4 w5 (k := k) (by omega)), ZC]
    rw [guard_at (by rw [hl, List.length_singleton]; omega)]
    simp only [Zal, deepD]
  · simp only [impl_copyValue.l0, dec_false (show ¬ (c4.length : Int) < c4.length by omega), cond_false]
theorem l4CopyVal (n : Nat) : ∀ (c0 : Int) (c1 : ByteArray) (c2 : Int) (c3 c4 : List (List D)), Zm RS lim c3 → c4.length ≤ lim → (∀ x ∈ c4, Yc lim n x) → ∀ {k : Nat}, big + n + 1 ≤ k → spec_l4Copy.t k c0 c1 c2 c3 c4 = some (c0, c1, c2, Zs c3, Zs c4) := by
  have hm : Z6 = 2 ^ 36 := rfl
  have hlim : lim = 1048576 := rfl
  have hb : big = 2 ^ 64 := rfl
  induction n using Nat.strongRecOn with
  | ind n ih =>
  intro c0 c1 c2 c3 c4 g3 l4 g4 k hk
  have l3 := g3.1
  obtain ⟨k, rfl⟩ : ∃ k', k = k' + 1 := ⟨k - 1, by omega⟩
  rw [spec_l4Copy.t_succ]
  unfold spec_l4Copy.g spec_l4Copy.body
  rw [guard_at (RS.flat g3.2), guard_at (by simp only [List.length_nil, map_len]; omega), List.nil_append]
  refine (iter_copy (xs := c4) (r := some (c0, c1, c2, c3.map (·.map C.d), Zs c4)) (by omega) (fun L i hi => ?_) (fun L => ?_)).trans (by rw [RS.deep g3.2])
  · have hl : (Zs (c4.take i)).length = i := by rw [deepRows_length, List.length_take]; omega
    obtain ⟨n', hn', d0, d1, d2, d3, d4, e, w0, w1, w2, w3, w4, w5⟩ : ∃ n', n = n' + 1 ∧ ∃ d0 d1 d2 d3 d4, gR c4 (i : Int) = [.int .i64 d0, .str d1, .int .i64 d2, .sl d3, .sl d4] ∧ (Lit.int .i64 d0).wf = true ∧ d1.size ≤ lim ∧ (Lit.int .i64 d2).wf = true ∧ Zm RS lim d3 ∧ d4.length ≤ lim ∧ ∀ x ∈ d4, Yc lim n' x := by
      have := g4 _ (gR_mem (xs := c4) (v := (i : Int)) (by omega) (by omega))
      generalize gR c4 (i : Int) = r at this
      cases this with
      | mk e0 e1 e2 e3 e4 w0 p1 w2 p3 p4 p5 => exact ⟨_, rfl, _, _, _, _, _, rfl, w0, p1, w2, p3, p4, p5⟩
    simp (disch := omega) only [spec_l4Copy.l0, dec_true (show (i : Int) < c4.length by omega), cond_true, ZbB (xs := c4) (v := (i : Int)), e, uncons_at, dInt_self, dStr_at, dSl_at, atEnd_at, spec_l4Copy.f_of (ih n' (by omega) d0 d1 d2 d3 d4 w3 w4 w5 (k := k) (by omega)), ZC]
    rw [guard_at (by rw [hl, List.length_singleton]; omega)]
    simp only [Zal, deepD]
  · simp only [spec_l4Copy.l0, dec_false (show ¬ (c4.length : Int) < c4.length by omega), cond_false]
theorem value_h {xs : List (List D)} (g : Zm Yb lim xs) : ∀ x ∈ xs, Yc lim 1099511627776 x := fun x hx => by
  obtain ⟨h, hh, hx⟩ := g.2 x hx
  exact hx.mono (hh (by decide))
theorem copyValue_fv {c0 c2 : Int} {c1 : ByteArray} {c3 c4 : List (List D)} (g3 : Zm RS lim c3) (g4 : Zm Yb lim c4) {k : Nat} (hk : Zay 1 k) {β : Type} (K : Int → ByteArray → Int → List (List C) → List (List C) → Option β) : impl_copyValue.f k c0 c1 c2 c3 c4 K = K c0 c1 c2 (Zs c3) (Zs c4) :=
  impl_copyValue.f_of (copyVal 1099511627776 c0 c1 c2 c3 c4 g3 g4.1 (value_h g4) (Nat.le_trans (big_lv1 (n := 1099511627776 + 1) (by omega)) hk)) K
theorem l4Copy_fv {c0 c2 : Int} {c1 : ByteArray} {c3 c4 : List (List D)} (g3 : Zm RS lim c3) (g4 : Zm Yb lim c4) {k : Nat} (hk : Zay 1 k) {β : Type} (K : Int → ByteArray → Int → List (List C) → List (List C) → Option β) : spec_l4Copy.f k c0 c1 c2 c3 c4 K = K c0 c1 c2 (Zs c3) (Zs c4) :=
  spec_l4Copy.f_of (l4CopyVal 1099511627776 c0 c1 c2 c3 c4 g3 g4.1 (value_h g4) (Nat.le_trans (big_lv1 (n := 1099511627776 + 1) (by omega)) hk)) K
theorem impl_copyWorks.f_of {β : Type} {k : Nat} {a0 : List (List D)} {z0 : List (List C)} (h : impl_copyWorks.t k a0 = some z0) (K : (List (List C)) → Option β) : impl_copyWorks.f k a0 K = K z0 := by
  unfold impl_copyWorks.f
  rw [h]
theorem impl_copyWorks.tm {ι α : Type} {ok : ι → Prop} {ψ : α → Prop} {p : ι → Nat} {B : Nat} (hp : ∀ i, ok i → B ≤ p i) {a0 : List (List D)} {φ : (List (List C)) → Prop} (h : Tm (fun k => B ≤ k) (fun k => impl_copyWorks.t k a0) φ) {G : ι → (List (List C)) → Option α} (hG : ∀ z0, φ z0 → Tm ok (fun ι0 => G ι0 z0) ψ) : Tm ok (fun ι0 => impl_copyWorks.f (p ι0) a0 (G ι0)) ψ := by
  obtain ⟨z0, h1, h2⟩ := h
  exact (hG z0 h1).congr fun i0 hi0 => impl_copyWorks.f_of (h2 (p i0) (hp i0 hi0)) _
theorem copyWorks_fv {a : List (List D)} (g : Zm Ya lim a) {k : Nat} (hk : Zay 1 k) {β : Type} (K : List (List C) → Option β) : impl_copyWorks.f k a K = K (Zs a) := impl_copyWorks.f_of (by
  have hm : Z6 = 2 ^ 36 := rfl
  have hlim : lim = 1048576 := rfl
  have hb : big = 2 ^ 64 := rfl
  have hk0 : big ≤ k := up0 hk
  have l := g.1
  unfold impl_copyWorks.t impl_copyWorks.g
  refine iter_copy (xs := a) (by omega) (fun L i hi => ?_) (fun L => ?_)
  · have hl : (Zs (a.take i)).length = i := by rw [deepRows_length, List.length_take]; omega
    obtain ⟨e, -, -, -, k3, -, k5, k6, -⟩ := Ya.get g (v := (i : Int)) (by omega) (by omega)
    simp (disch := omega) only [impl_copyWorks.l0, dec_true (show (i : Int) < a.length by omega), cond_true, ZbB (xs := a) (v := (i : Int)), e, uncons_at, dInt_self, dStr_at, dSl_at, atEnd_at, copyValue_fv k5 k6 hk, ZC]
    rw [guard_at (by rw [hl, List.length_singleton]; omega)]
    simp only [Zal, deepD]
  · simp only [impl_copyWorks.l0, dec_false (show ¬ (a.length : Int) < a.length by omega), cond_false]) K
theorem l12Works_fv {a : List (List D)} (g : Zm Ya lim a) {k : Nat} (hk : Zay 1 k) {β : Type} (K : List (List C) → Option β) : spec_l12Works.f k a K = K (Zs a) := spec_l12Works.f_of (by
  have hm : Z6 = 2 ^ 36 := rfl
  have hlim : lim = 1048576 := rfl
  have hb : big = 2 ^ 64 := rfl
  have hk0 : big ≤ k := up0 hk
  have l := g.1
  unfold spec_l12Works.t spec_l12Works.g
  refine iter_copy (xs := a) (by omega) (fun L i hi => ?_) (fun L => ?_)
  · have hl : (Zs (a.take i)).length = i := by rw [deepRows_length, List.length_take]; omega
    obtain ⟨e, -, -, -, k3, -, k5, k6, -⟩ := Ya.get g (v := (i : Int)) (by omega) (by omega)
    simp (disch := omega) only [spec_l12Works.l0, dec_true (show (i : Int) < a.length by omega), cond_true, ZbB (xs := a) (v := (i : Int)), e, uncons_at, dInt_self, dStr_at, dSl_at, atEnd_at, l4Copy_fv k5 k6 hk, ZC]
    rw [guard_at (by rw [hl, List.length_singleton]; omega)]
    simp only [Zal, deepD]
  · simp only [spec_l12Works.l0, dec_false (show ¬ (a.length : Int) < a.length by omega), cond_false]) K
theorem slices_Clone_impl_Run.f_of {β : Type} {k : Nat} {a0 : List (List D)} {z0 : List (List C)} (h : slices_Clone_impl_Run.t k a0 = some z0) (K : (List (List C)) → Option β) : slices_Clone_impl_Run.f k a0 K = K z0 := by
  unfold slices_Clone_impl_Run.f
  rw [h]
theorem slices_Clone_impl_Run.tm {ι α : Type} {ok : ι → Prop} {ψ : α → Prop} {p : ι → Nat} {B : Nat} (hp : ∀ i, ok i → B ≤ p i) {a0 : List (List D)} {φ : (List (List C)) → Prop} (h : Tm (fun k => B ≤ k) (fun k => slices_Clone_impl_Run.t k a0) φ) {G : ι → (List (List C)) → Option α} (hG : ∀ z0, φ z0 → Tm ok (fun ι0 => G ι0 z0) ψ) : Tm ok (fun ι0 => slices_Clone_impl_Run.f (p ι0) a0 (G ι0)) ψ := by
  obtain ⟨z0, h1, h2⟩ := h
  exact (hG z0 h1).congr fun i0 hi0 => slices_Clone_impl_Run.f_of (h2 (p i0) (hp i0 hi0)) _
theorem clone_run_fv {a : List (List D)} (g : Zm RII lim a) {k : Nat} {β : Type} (K : List (List C) → Option β) : slices_Clone_impl_Run.f k a K = K (a.map (·.map C.d)) := slices_Clone_impl_Run.f_of (by
  have hl := g.1
  have hlim : lim = 1048576 := rfl
  have hm : Z6 = 2 ^ 36 := rfl
  unfold slices_Clone_impl_Run.t slices_Clone_impl_Run.g
  rw [guard_at (RII.flat g.2), guard_at (by simp only [List.length_nil, map_len]; omega), List.nil_append]
  exact nilSl_same) K
theorem impl_copyIsle.f_of {β : Type} {k : Nat} {a0_0 : ByteArray} {a0_1 : Int} {a0_2 : Int} {a0_3 : List (List D)} {a0_4 : List (List D)} {z0 : ByteArray} {z1 : Int} {z2 : Int} {z3 : List (List C)} {z4 : List (List C)} (h : impl_copyIsle.t k a0_0 a0_1 a0_2 a0_3 a0_4 = some (z0, z1, z2, z3, z4)) (K : ByteArray → Int → Int → (List (List C)) → (List (List C)) → Option β) : impl_copyIsle.f k a0_0 a0_1 a0_2 a0_3 a0_4 K = K z0 z1 z2 z3 z4 := by
  unfold impl_copyIsle.f
  rw [h]
theorem impl_copyIsle.tm {ι α : Type} {ok : ι → Prop} {ψ : α → Prop} {p : ι → Nat} {B : Nat} (hp : ∀ i, ok i → B ≤ p i) {a0_0 : ByteArray} {a0_1 : Int} {a0_2 : Int} {a0_3 : List (List D)} {a0_4 : List (List D)} {φ : ByteArray × Int × Int × (List (List C)) × (List (List C)) → Prop} (h : Tm (fun k => B ≤ k) (fun k => impl_copyIsle.t k a0_0 a0_1 a0_2 a0_3 a0_4) φ) {G : ι → ByteArray → Int → Int → (List (List C)) → (List (List C)) → Option α} (hG : ∀ z0 z1 z2 z3 z4, φ (z0, z1, z2, z3, z4) → Tm ok (fun ι0 => G ι0 z0 z1 z2 z3 z4) ψ) : Tm ok (fun ι0 => impl_copyIsle.f (p ι0) a0_0 a0_1 a0_2 a0_3 a0_4 (G ι0)) ψ := by
  obtain ⟨⟨z0, z1, z2, z3, z4⟩, h1, h2⟩ := h
  exact (hG z0 z1 z2 z3 z4 h1).congr fun i0 hi0 => impl_copyIsle.f_of (h2 (p i0) (hp i0 hi0)) _
theorem impl_within.f_of {β : Type} {k : Nat} {a0 : Int} {a1 : Int} {a2 : Int} {z0 : Bool} (h : impl_within.t k a0 a1 a2 = some z0) (K : Bool → Option β) : impl_within.f k a0 a1 a2 K = K z0 := by
  unfold impl_within.f
  rw [h]
theorem impl_within.tm {ι α : Type} {ok : ι → Prop} {ψ : α → Prop} {p : ι → Nat} {B : Nat} (hp : ∀ i, ok i → B ≤ p i) {a0 : Int} {a1 : Int} {a2 : Int} {φ : Bool → Prop} (h : Tm (fun k => B ≤ k) (fun k => impl_within.t k a0 a1 a2) φ) {G : ι → Bool → Option α} (hG : ∀ z0, φ z0 → Tm ok (fun ι0 => G ι0 z0) ψ) : Tm ok (fun ι0 => impl_within.f (p ι0) a0 a1 a2 (G ι0)) ψ := by
  obtain ⟨z0, h1, h2⟩ := h
  exact (hG z0 h1).congr fun i0 hi0 => impl_within.f_of (h2 (p i0) (hp i0 hi0)) _
theorem impl_NameOk.f_of {β : Type} {k : Nat} {a0 : ByteArray} {z0 : Bool} (h : impl_NameOk.t k a0 = some z0) (K : Bool → Option β) : impl_NameOk.f k a0 K = K z0 := by
  unfold impl_NameOk.f
  rw [h]
theorem impl_NameOk.tm {ι α : Type} {ok : ι → Prop} {ψ : α → Prop} {p : ι → Nat} {B : Nat} (hp : ∀ i, ok i → B ≤ p i) {a0 : ByteArray} {φ : Bool → Prop} (h : Tm (fun k => B ≤ k) (fun k => impl_NameOk.t k a0) φ) {G : ι → Bool → Option α} (hG : ∀ z0, φ z0 → Tm ok (fun ι0 => G ι0 z0) ψ) : Tm ok (fun ι0 => impl_NameOk.f (p ι0) a0 (G ι0)) ψ := by
  obtain ⟨z0, h1, h2⟩ := h
  exact (hG z0 h1).congr fun i0 hi0 => impl_NameOk.f_of (h2 (p i0) (hp i0 hi0)) _
theorem within_f {β : Type} {k : Nat} {a b c : Int} (K : Bool → Option β) : impl_within.f k a b c K = K (decide (b ≤ a) && decide (a ≤ c)) := by
  refine impl_within.f_of ?_ K
  unfold impl_within.t impl_within.g
  by_cases h : b ≤ a <;> simp [h]
theorem impl_NameOk.same {k : Nat} {a : ByteArray} : impl_NameOk.t k a = spec_NameOk.t k a := by
  unfold impl_NameOk.t spec_NameOk.t impl_NameOk.g spec_NameOk.g
  congr 1
  funext L v
  simp only [impl_NameOk.l0, spec_NameOk.l0, l1In_f, within_f]
  refine bif_congr (fun _ => ?_) (fun _ => rfl)
  unfold atStr
  split
  · split
    · rename_i b _
      have hb : b.toNat < 256 := b.toNat_lt
      simp only []
      rw [ZC (x := (b.toNat : Int)) (by omega) (by omega)]
      generalize (b.toNat : Int) = x
      by_cases h1 : x < 97 <;> by_cases h2 : x < 48 <;> by_cases h3 : x > 57 <;> by_cases h4 : x > 122 <;> simp [h1, h2, h3, h4] <;> (try omega) <;> grind
    · rfl
  · rfl
theorem impl_NameOk_f {β : Type} {k : Nat} {a : ByteArray} (K : Bool → Option β) : impl_NameOk.f k a K = spec_NameOk.f k a K := by
  unfold impl_NameOk.f spec_NameOk.f
  rw [impl_NameOk.same]
theorem Yi {β : Type} {k : Nat} {a b c : Int} (K : Bool → Option β) : impl_within.f k a b c K = K (inB a b c) := within_f K
theorem impl_isCopies.f_of {β : Type} {k : Nat} {a0 : Int} {z0 : Bool} (h : impl_isCopies.t k a0 = some z0) (K : Bool → Option β) : impl_isCopies.f k a0 K = K z0 := by
  unfold impl_isCopies.f
  rw [h]
theorem impl_isCopies.tm {ι α : Type} {ok : ι → Prop} {ψ : α → Prop} {p : ι → Nat} {B : Nat} (hp : ∀ i, ok i → B ≤ p i) {a0 : Int} {φ : Bool → Prop} (h : Tm (fun k => B ≤ k) (fun k => impl_isCopies.t k a0) φ) {G : ι → Bool → Option α} (hG : ∀ z0, φ z0 → Tm ok (fun ι0 => G ι0 z0) ψ) : Tm ok (fun ι0 => impl_isCopies.f (p ι0) a0 (G ι0)) ψ := by
  obtain ⟨z0, h1, h2⟩ := h
  exact (hG z0 h1).congr fun i0 hi0 => impl_isCopies.f_of (h2 (p i0) (hp i0 hi0)) _
theorem isCopies_f {β : Type} {k : Nat} {a : Int} (K : Bool → Option β) : impl_isCopies.f k a K = K (decide (0 ≤ a) && decide (a ≤ 10000)) := by
  refine impl_isCopies.f_of ?_ K
  unfold impl_isCopies.t impl_isCopies.g
  rw [within_f]
theorem impl_namesOk.f_of {β : Type} {k : Nat} {a0 : List (List D)} {a1 : Int} {z0 : Bool} (h : impl_namesOk.t k a0 a1 = some z0) (K : Bool → Option β) : impl_namesOk.f k a0 a1 K = K z0 := by
  unfold impl_namesOk.f
  rw [h]
theorem impl_namesOk.tm {ι α : Type} {ok : ι → Prop} {ψ : α → Prop} {p : ι → Nat} {B : Nat} (hp : ∀ i, ok i → B ≤ p i) {a0 : List (List D)} {a1 : Int} {φ : Bool → Prop} (h : Tm (fun k => B ≤ k) (fun k => impl_namesOk.t k a0 a1) φ) {G : ι → Bool → Option α} (hG : ∀ z0, φ z0 → Tm ok (fun ι0 => G ι0 z0) ψ) : Tm ok (fun ι0 => impl_namesOk.f (p ι0) a0 a1 (G ι0)) ψ := by
  obtain ⟨z0, h1, h2⟩ := h
  exact (hG z0 h1).congr fun i0 hi0 => impl_namesOk.f_of (h2 (p i0) (hp i0 hi0)) _
theorem namesOk_fv {a : List (List D)} {n : Int} (g : Zm RS lim a) {k : Nat} (hk : Zar k) {β : Type} (K : Bool → Option β) : impl_namesOk.f k a n K = K (namesB a && decide ((a.length : Int) ≤ n)) := impl_namesOk.f_of (by
  have hl := g.1
  have hlim : lim = 1048576 := rfl
  have hb : big = 2 ^ 64 := rfl
  unfold impl_namesOk.t impl_namesOk.g
  rw [iter_all0 (n := a.length) (fun i => spec_NameOk.v (gS a (i : Int) 0) && (!decide ((i : Int) > 0) || strLt (gS a ((i : Int) - 1) 0) (gS a (i : Int) 0))) (r1 := some false) (r2 := some (decide ((a.length : Int) ≤ n))) (by unfold Zar at hk; omega)]
  · unfold namesB
    generalize List.all _ _ = x
    cases x <;> rfl
  · intro L i hi
    have k0 := (RS.get g (v := (i : Int)) (by omega) (by omega)).2.1
    simp (disch := omega) only [impl_namesOk.l0, dec_true (show (i : Int) < a.length by omega), cond_true, RS.row g, uncons_at, dStr_at, atEnd_at, impl_NameOk_f, spec_NameOk.fv k0 hk, ZC]
    by_cases h0 : (i : Int) > 0
    · simp (disch := omega) only [dec_true h0, cond_true, RS.row g, uncons_at, dStr_at, atEnd_at]
      cases spec_NameOk.v (gS a (i : Int) 0) <;> cases strLt (gS a ((i : Int) - 1) 0) (gS a (i : Int) 0) <;> rfl
    · simp only [dec_false h0, cond_false]
      cases spec_NameOk.v (gS a (i : Int) 0) <;> rfl
  · intro L
    simp [impl_namesOk.l0]) K
theorem impl_shapeOk.f_of {β : Type} {k : Nat} {a0_0 : Int} {a0_1 : ByteArray} {a0_2 : Int} {a0_3 : List (List D)} {a0_4 : List (List D)} {z0 : Bool} (h : impl_shapeOk.t k a0_0 a0_1 a0_2 a0_3 a0_4 = some z0) (K : Bool → Option β) : impl_shapeOk.f k a0_0 a0_1 a0_2 a0_3 a0_4 K = K z0 := by
  unfold impl_shapeOk.f
  rw [h]
theorem impl_shapeOk.tm {ι α : Type} {ok : ι → Prop} {ψ : α → Prop} {p : ι → Nat} {B : Nat} (hp : ∀ i, ok i → B ≤ p i) {a0_0 : Int} {a0_1 : ByteArray} {a0_2 : Int} {a0_3 : List (List D)} {a0_4 : List (List D)} {φ : Bool → Prop} (h : Tm (fun k => B ≤ k) (fun k => impl_shapeOk.t k a0_0 a0_1 a0_2 a0_3 a0_4) φ) {G : ι → Bool → Option α} (hG : ∀ z0, φ z0 → Tm ok (fun ι0 => G ι0 z0) ψ) : Tm ok (fun ι0 => impl_shapeOk.f (p ι0) a0_0 a0_1 a0_2 a0_3 a0_4 (G ι0)) ψ := by
  obtain ⟨z0, h1, h2⟩ := h
  exact (hG z0 h1).congr fun i0 hi0 => impl_shapeOk.f_of (h2 (p i0) (hp i0 hi0)) _
theorem impl_measured.f_of {β : Type} {k : Nat} {a0_0 : Int} {a0_1 : ByteArray} {a0_2 : Int} {a0_3 : List (List D)} {a0_4 : List (List D)} {a1 : Int} {z0 : Int} (h : impl_measured.t k a0_0 a0_1 a0_2 a0_3 a0_4 a1 = some z0) (K : Int → Option β) : impl_measured.f k a0_0 a0_1 a0_2 a0_3 a0_4 a1 K = K z0 := by
  unfold impl_measured.f
  unfold impl_measured.w
  rw [h]
theorem impl_measured.tm {ι α : Type} {ok : ι → Prop} {ψ : α → Prop} {p : ι → Nat} {B : Nat} (hp : ∀ i, ok i → B ≤ p i) {a0_0 : Int} {a0_1 : ByteArray} {a0_2 : Int} {a0_3 : List (List D)} {a0_4 : List (List D)} {a1 : Int} {φ : Int → Prop} (h : Tm (fun k => B ≤ k) (fun k => impl_measured.t k a0_0 a0_1 a0_2 a0_3 a0_4 a1) φ) {G : ι → Int → Option α} (hG : ∀ z0, φ z0 → Tm ok (fun ι0 => G ι0 z0) ψ) : Tm ok (fun ι0 => impl_measured.f (p ι0) a0_0 a0_1 a0_2 a0_3 a0_4 a1 (G ι0)) ψ := by
  obtain ⟨z0, h1, h2⟩ := h
  exact (hG z0 h1).congr fun i0 hi0 => impl_measured.f_of (h2 (p i0) (hp i0 hi0)) _
theorem impl_ValueOk.f_of {β : Type} {k : Nat} {a0_0 : Int} {a0_1 : ByteArray} {a0_2 : Int} {a0_3 : List (List D)} {a0_4 : List (List D)} {z0 : Bool} (h : impl_ValueOk.t k a0_0 a0_1 a0_2 a0_3 a0_4 = some z0) (K : Bool → Option β) : impl_ValueOk.f k a0_0 a0_1 a0_2 a0_3 a0_4 K = K z0 := by
  unfold impl_ValueOk.f
  rw [h]
theorem impl_ValueOk.tm {ι α : Type} {ok : ι → Prop} {ψ : α → Prop} {p : ι → Nat} {B : Nat} (hp : ∀ i, ok i → B ≤ p i) {a0_0 : Int} {a0_1 : ByteArray} {a0_2 : Int} {a0_3 : List (List D)} {a0_4 : List (List D)} {φ : Bool → Prop} (h : Tm (fun k => B ≤ k) (fun k => impl_ValueOk.t k a0_0 a0_1 a0_2 a0_3 a0_4) φ) {G : ι → Bool → Option α} (hG : ∀ z0, φ z0 → Tm ok (fun ι0 => G ι0 z0) ψ) : Tm ok (fun ι0 => impl_ValueOk.f (p ι0) a0_0 a0_1 a0_2 a0_3 a0_4 (G ι0)) ψ := by
  obtain ⟨z0, h1, h2⟩ := h
  exact (hG z0 h1).congr fun i0 hi0 => impl_ValueOk.f_of (h2 (p i0) (hp i0 hi0)) _
theorem shapeOk_fv {c0 : Int} {c1 : ByteArray} {c2 : Int} {c3 c4 : List (List D)} (g1 : c1.size ≤ lim) (g3 : Zm RS lim c3) {k : Nat} (hk : Zar k) {β : Type} (K : Bool → Option β) : impl_shapeOk.f k c0 c1 c2 c3 c4 K = K (Yf c0 c1 c2 c3 c4 && (!(c0 == 5) || decide ((c3.length : Int) ≤ 300))) := impl_shapeOk.f_of (by
  have hlim : lim = 1048576 := rfl
  have hb : big = 2 ^ 64 := rfl
  unfold impl_shapeOk.t impl_shapeOk.g
  have text : Z4 (impl_shapeOk.l0 k ((c2 : Int) == 0) (((c3.length : Int) : Int) == 0) (((c4.length : Int) : Int) == 0) (c1.size : Int) c0 c1 c2 c3 c4 fun z0 => some z0) k 0 = some (textB c1 && (decide ((c1.size : Int) ≤ 100) && (c2 == 0 && ((c3.length : Int) == 0 && (c4.length : Int) == 0)))) := by
    rw [iter_all0 (n := c1.size) (fun i => inB (bS c1 (i : Int)) 32 126) (r1 := some false) (r2 := some (decide ((c1.size : Int) ≤ 100) && (c2 == 0 && ((c3.length : Int) == 0 && (c4.length : Int) == 0)))) (by unfold Zar at hk; omega)]
    · unfold textB
      generalize List.all _ _ = x
      cases x <;> rfl
    · intro L i hi
      simp (disch := omega) only [impl_shapeOk.l0, dec_true (show (i : Int) < c1.size by omega), cond_true, atStr_at, wrap_b, Yi, ZC]
      generalize inB _ _ _ = x
      cases x <;> rfl
    · intro L
      simp only [impl_shapeOk.l0, dec_false (show ¬ (c1.size : Int) < c1.size by omega), cond_false]
      cases decide ((c1.size : Int) ≤ 100) <;> cases c2 == 0 <;> cases ((c3.length : Int) == 0) <;> rfl
  simp only [text, Yi, namesOk_fv g3 hk]
  unfold Yf
  generalize textB c1 = b1
  generalize decide ((c1.size : Int) ≤ 100) = b0
  generalize hb2 : strEq c1 (⟨#[]⟩ : ByteArray) = b2
  have hb3 : strEq c1 Yj = b2 := hb2
  rw [hb3]
  generalize namesB c3 = b3
  generalize inB c2 0 1 = b4
  generalize (c2 == 0) = b5
  generalize ((c4.length : Int) == 0) = b6
  generalize ((c3.length : Int) == (c4.length : Int)) = b7
  generalize ((c3.length : Int) == 0) = b8
  generalize decide ((c3.length : Int) ≤ 300) = b9
  rcases ZaW c0 with rfl | rfl | rfl | rfl | rfl | ⟨e1, e2, e3, e4, e5⟩
  · cases b0 <;> cases b1 <;> cases b5 <;> cases b6 <;> cases b8 <;> rfl
  · cases b2 <;> cases b6 <;> cases b8 <;> rfl
  · cases b2 <;> cases b4 <;> cases b6 <;> cases b8 <;> rfl
  · cases b2 <;> cases b5 <;> cases b8 <;> rfl
  · cases b2 <;> cases b3 <;> cases b5 <;> cases b7 <;> cases b9 <;> rfl
  · simp only [e1, e2, e3, e4, e5, cond_false, Bool.false_and]) K
theorem measured_t (d : Nat) : ∀ {c0 : Int} {c1 : ByteArray} {c2 : Int} {c3 c4 : List (List D)}, c1.size ≤ lim → Zm RS lim c3 → Zm Yb lim c4 → d ≤ 6 → ∀ {k : Nat}, big + d + 1 ≤ k → impl_measured.t k c0 c1 c2 c3 c4 (d : Int) = some (bif Yd d [.int .i64 c0, .str c1, .int .i64 c2, .sl c3, .sl c4] == 0 then 301 else Yd d [.int .i64 c0, .str c1, .int .i64 c2, .sl c3, .sl c4]) := by
  have hlim : lim = 1048576 := rfl
  have hb : big = 2 ^ 64 := rfl
  induction d with
  | zero =>
    intro c0 c1 c2 c3 c4 g1 g3 g4 hd k hk
    cases k with
    | zero => omega
    | succ k => rfl
  | succ d ih =>
    intro c0 c1 c2 c3 c4 g1 g3 g4 hd k hk
    cases k with
    | zero => omega
    | succ k =>
    have hl := g4.1
    have hk0 : Zar k := by unfold Zar; omega
    rw [impl_measured.t_succ]
    unfold impl_measured.g impl_measured.body
    rw [show (((d + 1 : Nat) : Int) == 0) = false by rw [beq_eq_false_iff_ne]; omega, cond_false, shapeOk_fv g1 g3 hk0]
    have key := iter_val (b := impl_measured.l0 k (impl_measured.f k) ((d + 1 : Nat) : Int) c4 (c4.length : Int) fun z0 => some z0) (fun v => ((c4.length : Int) - v.2).toNat) (fun v => 0 ≤ v.2 ∧ v.2 ≤ c4.length ∧ 1 ≤ v.1 ∧ v.1 ≤ 300)
      (fun v => bif Yg (Yd d) (c4.drop v.2.toNat) v.1 == 0 then some 301 else some (Yg (Yd d) (c4.drop v.2.toNat) v.1)) ?_ k (1, 0) (by simp only []; omega) (by simp only []; omega)
    · rw [key]
      show (bif !(Yf c0 c1 c2 c3 c4 && (!(c0 == 5) || decide ((c3.length : Int) ≤ 300))) then some 301 else bif Yg (Yd d) (List.drop 0 c4) 1 == 0 then some 301 else some (Yg (Yd d) (List.drop 0 c4) 1)) = some (bif Yd (d + 1) [.int .i64 c0, .str c1, .int .i64 c2, .sl c3, .sl c4] == 0 then 301 else Yd (d + 1) [.int .i64 c0, .str c1, .int .i64 c2, .sl c3, .sl c4])
      have el : Yd (d + 1) [.int .i64 c0, .str c1, .int .i64 c2, .sl c3, .sl c4] = bif Yg (Yd d) c4 1 == 0 then 0 else bif Yf c0 c1 c2 c3 c4 then Yg (Yd d) c4 1 else 0 := rfl
      rw [List.drop_zero, el]
      have hs := sumL_range (f := Yd d) (fun r => (Yh d r).1) (rs := c4) (n := 1) (by omega) (by omega)
      by_cases hz : Yg (Yd d) c4 1 = 0
      · rw [hz]
        cases (Yf c0 c1 c2 c3 c4 && (!(c0 == 5) || decide ((c3.length : Int) ≤ 300))) <;> rfl
      · have hz' : (Yg (Yd d) c4 1 == 0) = false := by rw [beq_eq_false_iff_ne]; exact hz
        rw [hz', cond_false, cond_false]
        by_cases hsh : Yf c0 c1 c2 c3 c4 = true
        · have h5 : (!(c0 == 5) || decide ((c3.length : Int) ≤ 300)) = true := by
            by_cases h5 : c0 = 5
            · subst h5
              have : (c3.length : Int) = c4.length := by
                unfold Yf at hsh
                simp at hsh
                omega
              have := hs.2.2 hz
              simp
              omega
            · simp [h5]
          rw [hsh, h5]
          simp only [Bool.and_self, Bool.not_true, cond_false, cond_true, hz']
        · rw [Bool.not_eq_true] at hsh
          rw [hsh]
          rfl
    · rintro ⟨n, i⟩ ⟨i0, i1, n0, n1⟩ L hL
      simp only [] at i0 i1 n0 n1 hL ⊢
      by_cases hi : i < c4.length
      · have hg := Yb.get g4 i0 hi
        have hr := Yh d (gR c4 i)
        have ih' := ih (c0 := gI c4 i 0) (c2 := gI c4 i 2) hg.2.2.1 hg.2.2.2.2.1 hg.2.2.2.2.2.1 (by omega) (k := k) (by omega)
        rw [← hg.1] at ih'
        simp (disch := omega) only [impl_measured.l0, dec_true hi, cond_true, Yb.row g4, uncons_at, dStr_at, dInt_self, dSl_at, atEnd_at, ZC, show ((d + 1 : Nat) : Int) - 1 = (d : Int) by omega]
        rw [impl_measured.f_of ih', drop_gR i0 hi]
        simp only [Yg]
        by_cases hz : Yd d (gR c4 i) = 0
        · rw [hz, show ((0 : Int) == 0) = true from rfl, cond_true, ZC (by omega) (by omega), dec_true (by omega)]
          simp
        · rw [show (Yd d (gR c4 i) == 0) = false by rw [beq_eq_false_iff_ne]; exact hz, cond_false, ZC (by omega) (by omega)]
          by_cases hn : n + Yd d (gR c4 i) > 300
          · rw [dec_true hn, if_pos (.inr hn)]
            rfl
          · rw [dec_false hn, if_neg (by omega), cond_false, hL _ ⟨by simp only []; omega, by simp only []; omega, by simp only []; omega, by simp only []; omega⟩ (by simp only []; omega)]
      · rw [drop_end (by omega)]
        simp only [impl_measured.l0, dec_false hi, cond_false, Yg]
        rw [show (n == 0) = false by rw [beq_eq_false_iff_ne]; omega, cond_false]
noncomputable def valB (c0 : Int) (c1 : ByteArray) (c2 : Int) (c3 c4 : List (List D)) : Bool := decide (Yd 6 [.int .i64 c0, .str c1, .int .i64 c2, .sl c3, .sl c4] > 0)
theorem spec_ValueOk_fv {c0 : Int} {c1 : ByteArray} {c2 : Int} {c3 c4 : List (List D)} (g1 : c1.size ≤ lim) (g3 : Zm RS lim c3) (g4 : Zm Yb lim c4) {k : Nat} (hk : Zay 1 k) {β : Type} (K : Bool → Option β) : spec_ValueOk.f k c0 c1 c2 c3 c4 K = K (valB c0 c1 c2 c3 c4) := spec_ValueOk.f_of (by
  unfold spec_ValueOk.t spec_ValueOk.g
  rw [look_fv (by omega) (by omega) g1 g3 g4 hk]
  rfl) K
theorem impl_ValueOk_fv {c0 : Int} {c1 : ByteArray} {c2 : Int} {c3 c4 : List (List D)} (g1 : c1.size ≤ lim) (g3 : Zm RS lim c3) (g4 : Zm Yb lim c4) {k : Nat} (hk : Zay 1 k) {β : Type} (K : Bool → Option β) : impl_ValueOk.f k c0 c1 c2 c3 c4 K = K (valB c0 c1 c2 c3 c4) := impl_ValueOk.f_of (by
  have hb : big = 2 ^ 64 := rfl
  have h1 : lv 1 = 2 ^ 65 := rfl
  unfold impl_ValueOk.t impl_ValueOk.g
  rw [impl_measured.f_of (show impl_measured.t k c0 c1 c2 c3 c4 6 = _ from measured_t 6 g1 g3 g4 (by omega) (by unfold Zay at hk; omega))]
  unfold valB
  have hr := Yh 6 [.int .i64 c0, .str c1, .int .i64 c2, .sl c3, .sl c4]
  generalize Yd 6 [.int .i64 c0, .str c1, .int .i64 c2, .sl c3, .sl c4] = n at *
  by_cases hz : n = 0
  · subst hz; rfl
  · rw [show (n == 0) = false by rw [beq_eq_false_iff_ne]; exact hz, cond_false, dec_true (by omega), dec_true (by omega)]) K
theorem impl_WorksOk.f_of {β : Type} {k : Nat} {a0 : List (List D)} {z0 : Bool} (h : impl_WorksOk.t k a0 = some z0) (K : Bool → Option β) : impl_WorksOk.f k a0 K = K z0 := by
  unfold impl_WorksOk.f
  rw [h]
theorem impl_WorksOk.tm {ι α : Type} {ok : ι → Prop} {ψ : α → Prop} {p : ι → Nat} {B : Nat} (hp : ∀ i, ok i → B ≤ p i) {a0 : List (List D)} {φ : Bool → Prop} (h : Tm (fun k => B ≤ k) (fun k => impl_WorksOk.t k a0) φ) {G : ι → Bool → Option α} (hG : ∀ z0, φ z0 → Tm ok (fun ι0 => G ι0 z0) ψ) : Tm ok (fun ι0 => impl_WorksOk.f (p ι0) a0 (G ι0)) ψ := by
  obtain ⟨z0, h1, h2⟩ := h
  exact (hG z0 h1).congr fun i0 hi0 => impl_WorksOk.f_of (h2 (p i0) (hp i0 hi0)) _
theorem impl_WorksOk.same {a0 : List (List D)} (g : Zm Ya lim a0) {k : Nat} (hk : Zay 1 k) : impl_WorksOk.t k a0 = spec_WorksOk.t k a0 := by
  have hl := g.1
  have hlim : lim = 1048576 := rfl
  unfold impl_WorksOk.t spec_WorksOk.t impl_WorksOk.g spec_WorksOk.g
  refine congrArg (fun b => Z4 b k 0) (funext fun L => funext fun v => ?_)
  simp only [impl_WorksOk.l0, spec_WorksOk.l0, Yi, l1In_fv]
  refine bif_congr (fun h => ?_) (fun _ => rfl)
  by_cases h0 : 0 ≤ v ∧ v < a0.length
  · obtain ⟨h0, h1⟩ := h0
    obtain ⟨-, -, -, -, k3, -, k5, k6, -⟩ := Ya.get g h0 h1
    simp (disch := omega) only [Ya.row g, uncons_at, dStr_at, dInt_self, dSl_at, atEnd_at]
    simp only [spec_ValueOk_fv k3 k5 k6 hk, impl_ValueOk_fv k3 k5 k6 hk]
  · simp only [atRow_none h0]
theorem impl_WorksOk_fv {a0 : List (List D)} (g : Zm Ya lim a0) {k : Nat} (hk : Zay 1 k) {β : Type} (K : Bool → Option β) : impl_WorksOk.f k a0 K = K (spec_WorksOk.v a0) :=
  impl_WorksOk.f_of ((impl_WorksOk.same g hk).trans (spec_WorksOk.tv g hk)) K
theorem impl_runsOk.f_of {β : Type} {k : Nat} {a0 : List (List D)} {z0 : Bool} (h : impl_runsOk.t k a0 = some z0) (K : Bool → Option β) : impl_runsOk.f k a0 K = K z0 := by
  unfold impl_runsOk.f
  rw [h]
theorem impl_runsOk.tm {ι α : Type} {ok : ι → Prop} {ψ : α → Prop} {p : ι → Nat} {B : Nat} (hp : ∀ i, ok i → B ≤ p i) {a0 : List (List D)} {φ : Bool → Prop} (h : Tm (fun k => B ≤ k) (fun k => impl_runsOk.t k a0) φ) {G : ι → Bool → Option α} (hG : ∀ z0, φ z0 → Tm ok (fun ι0 => G ι0 z0) ψ) : Tm ok (fun ι0 => impl_runsOk.f (p ι0) a0 (G ι0)) ψ := by
  obtain ⟨z0, h1, h2⟩ := h
  exact (hG z0 h1).congr fun i0 hi0 => impl_runsOk.f_of (h2 (p i0) (hp i0 hi0)) _
theorem runsOk_fv {a : List (List D)} (g : Zm RII lim a) {k : Nat} (hk : Zar k) {β : Type} (K : Bool → Option β) : impl_runsOk.f k a K = K (runsB a 0 && decide ((a.length : Int) ≤ 80)) := impl_runsOk.f_of (by
  have hl := g.1
  have hlim : lim = 1048576 := rfl
  have hb : big = 2 ^ 64 := rfl
  have hc : ∀ {n : Int} {β : Type} (K : Bool → Option β), impl_isCopies.f k n K = K (inB n 0 10000) := fun K => isCopies_f K
  unfold impl_runsOk.t impl_runsOk.g
  rw [iter_all0 (n := a.length) (runP a 0) (r1 := some false) (r2 := some (decide ((a.length : Int) ≤ 80))) (by unfold Zar at hk; omega)]
  · unfold runsB
    generalize List.all _ _ = x
    cases x <;> rfl
  · intro L i hi
    unfold runP
    simp (disch := omega) only [impl_runsOk.l0, dec_true (show (i : Int) < a.length by omega), cond_true, RII.row g, uncons_at, dInt_self, atEnd_at, Yi, hc, ZC]
    by_cases h0 : (i : Int) > 0
    · simp (disch := omega) only [dec_true h0, cond_true, RII.row g, uncons_at, dInt_self, atEnd_at]
      cases inB (gI a (i : Int) 0) 1 1000000 <;> cases inB (gI a (i : Int) 1) 0 10000 <;> cases decide (gI a ((i : Int) - 1) 0 ≥ gI a (i : Int) 0) <;> rfl
    · simp only [dec_false h0, cond_false]
      cases inB (gI a (i : Int) 0) 1 1000000 <;> cases inB (gI a (i : Int) 1) 0 10000 <;> rfl
  · intro L
    simp [impl_runsOk.l0]) K
theorem impl_IsleOk_1.f_of {β : Type} {k : Nat} {a0_0 : Int} {a0_1 : Int} {z0 : Bool} (h : impl_IsleOk_1.t k a0_0 a0_1 = some z0) (K : Bool → Option β) : impl_IsleOk_1.f k a0_0 a0_1 K = K z0 := by
  unfold impl_IsleOk_1.f
  rw [h]
theorem impl_IsleOk_1.tm {ι α : Type} {ok : ι → Prop} {ψ : α → Prop} {p : ι → Nat} {B : Nat} (hp : ∀ i, ok i → B ≤ p i) {a0_0 : Int} {a0_1 : Int} {φ : Bool → Prop} (h : Tm (fun k => B ≤ k) (fun k => impl_IsleOk_1.t k a0_0 a0_1) φ) {G : ι → Bool → Option α} (hG : ∀ z0, φ z0 → Tm ok (fun ι0 => G ι0 z0) ψ) : Tm ok (fun ι0 => impl_IsleOk_1.f (p ι0) a0_0 a0_1 (G ι0)) ψ := by
  obtain ⟨z0, h1, h2⟩ := h
  exact (hG z0 h1).congr fun i0 hi0 => impl_IsleOk_1.f_of (h2 (p i0) (hp i0 hi0)) _
theorem slices_IndexFunc_impl_Run__impl_IsleOk_1.f_of {β : Type} {k : Nat} {a0 : List (List D)} {z0 : Int} (h : slices_IndexFunc_impl_Run__impl_IsleOk_1.t k a0 = some z0) (K : Int → Option β) : slices_IndexFunc_impl_Run__impl_IsleOk_1.f k a0 K = K z0 := by
  unfold slices_IndexFunc_impl_Run__impl_IsleOk_1.f
  rw [h]
theorem slices_IndexFunc_impl_Run__impl_IsleOk_1.tm {ι α : Type} {ok : ι → Prop} {ψ : α → Prop} {p : ι → Nat} {B : Nat} (hp : ∀ i, ok i → B ≤ p i) {a0 : List (List D)} {φ : Int → Prop} (h : Tm (fun k => B ≤ k) (fun k => slices_IndexFunc_impl_Run__impl_IsleOk_1.t k a0) φ) {G : ι → Int → Option α} (hG : ∀ z0, φ z0 → Tm ok (fun ι0 => G ι0 z0) ψ) : Tm ok (fun ι0 => slices_IndexFunc_impl_Run__impl_IsleOk_1.f (p ι0) a0 (G ι0)) ψ := by
  obtain ⟨z0, h1, h2⟩ := h
  exact (hG z0 h1).congr fun i0 hi0 => slices_IndexFunc_impl_Run__impl_IsleOk_1.f_of (h2 (p i0) (hp i0 hi0)) _
theorem slices_ContainsFunc_impl_Run__impl_IsleOk_1.f_of {β : Type} {k : Nat} {a0 : List (List D)} {z0 : Bool} (h : slices_ContainsFunc_impl_Run__impl_IsleOk_1.t k a0 = some z0) (K : Bool → Option β) : slices_ContainsFunc_impl_Run__impl_IsleOk_1.f k a0 K = K z0 := by
  unfold slices_ContainsFunc_impl_Run__impl_IsleOk_1.f
  rw [h]
theorem slices_ContainsFunc_impl_Run__impl_IsleOk_1.tm {ι α : Type} {ok : ι → Prop} {ψ : α → Prop} {p : ι → Nat} {B : Nat} (hp : ∀ i, ok i → B ≤ p i) {a0 : List (List D)} {φ : Bool → Prop} (h : Tm (fun k => B ≤ k) (fun k => slices_ContainsFunc_impl_Run__impl_IsleOk_1.t k a0) φ) {G : ι → Bool → Option α} (hG : ∀ z0, φ z0 → Tm ok (fun ι0 => G ι0 z0) ψ) : Tm ok (fun ι0 => slices_ContainsFunc_impl_Run__impl_IsleOk_1.f (p ι0) a0 (G ι0)) ψ := by
  obtain ⟨z0, h1, h2⟩ := h
  exact (hG z0 h1).congr fun i0 hi0 => slices_ContainsFunc_impl_Run__impl_IsleOk_1.f_of (h2 (p i0) (hp i0 hi0)) _
theorem impl_running.f_of {β : Type} {k : Nat} {a0_0 : ByteArray} {a0_1 : Int} {a0_2 : Int} {a0_3 : List (List D)} {a0_4 : List (List D)} {z0 : Int} (h : impl_running.t k a0_0 a0_1 a0_2 a0_3 a0_4 = some z0) (K : Int → Option β) : impl_running.f k a0_0 a0_1 a0_2 a0_3 a0_4 K = K z0 := by
  unfold impl_running.f
  rw [h]
theorem impl_running.tm {ι α : Type} {ok : ι → Prop} {ψ : α → Prop} {p : ι → Nat} {B : Nat} (hp : ∀ i, ok i → B ≤ p i) {a0_0 : ByteArray} {a0_1 : Int} {a0_2 : Int} {a0_3 : List (List D)} {a0_4 : List (List D)} {φ : Int → Prop} (h : Tm (fun k => B ≤ k) (fun k => impl_running.t k a0_0 a0_1 a0_2 a0_3 a0_4) φ) {G : ι → Int → Option α} (hG : ∀ z0, φ z0 → Tm ok (fun ι0 => G ι0 z0) ψ) : Tm ok (fun ι0 => impl_running.f (p ι0) a0_0 a0_1 a0_2 a0_3 a0_4 (G ι0)) ψ := by
  obtain ⟨z0, h1, h2⟩ := h
  exact (hG z0 h1).congr fun i0 hi0 => impl_running.f_of (h2 (p i0) (hp i0 hi0)) _
theorem impl_IsleOk.f_of {β : Type} {k : Nat} {a0_0 : ByteArray} {a0_1 : Int} {a0_2 : Int} {a0_3 : List (List D)} {a0_4 : List (List D)} {z0 : Bool} (h : impl_IsleOk.t k a0_0 a0_1 a0_2 a0_3 a0_4 = some z0) (K : Bool → Option β) : impl_IsleOk.f k a0_0 a0_1 a0_2 a0_3 a0_4 K = K z0 := by
  unfold impl_IsleOk.f
  rw [h]
theorem impl_IsleOk.tm {ι α : Type} {ok : ι → Prop} {ψ : α → Prop} {p : ι → Nat} {B : Nat} (hp : ∀ i, ok i → B ≤ p i) {a0_0 : ByteArray} {a0_1 : Int} {a0_2 : Int} {a0_3 : List (List D)} {a0_4 : List (List D)} {φ : Bool → Prop} (h : Tm (fun k => B ≤ k) (fun k => impl_IsleOk.t k a0_0 a0_1 a0_2 a0_3 a0_4) φ) {G : ι → Bool → Option α} (hG : ∀ z0, φ z0 → Tm ok (fun ι0 => G ι0 z0) ψ) : Tm ok (fun ι0 => impl_IsleOk.f (p ι0) a0_0 a0_1 a0_2 a0_3 a0_4 (G ι0)) ψ := by
  obtain ⟨z0, h1, h2⟩ := h
  exact (hG z0 h1).congr fun i0 hi0 => impl_IsleOk.f_of (h2 (p i0) (hp i0 hi0)) _
theorem runs_low (a : List (List D)) : runsB a 1 = (runsB a 0 && (List.range a.length).all fun i => !(gI a (i : Int) 1 == 0)) := by
  unfold runsB
  rw [Bool.eq_iff_iff]
  simp only [Bool.and_eq_true, List.all_eq_true]
  have h1 : ∀ i, runP a 1 i = (runP a 0 i && !(gI a (i : Int) 1 == 0)) := fun i => by
    unfold runP
    have : inB (gI a (i : Int) 1) 1 10000 = (inB (gI a (i : Int) 1) 0 10000 && !(gI a (i : Int) 1 == 0)) := by
      unfold inB
      generalize gI a (i : Int) 1 = n
      by_cases h1 : 1 ≤ n
      · rw [dec_true h1, dec_true (show 0 ≤ n by omega), show (n == 0) = false by rw [beq_eq_false_iff_ne]; omega]
        cases decide (n ≤ 10000) <;> rfl
      · rw [dec_false h1]
        by_cases h0 : n = 0
        · subst h0; rfl
        · rw [dec_false (show ¬ 0 ≤ n by omega)]
          rfl
    rw [this]
    cases inB (gI a (i : Int) 0) 1 1000000 <;> cases inB (gI a (i : Int) 1) 0 10000 <;> cases gI a (i : Int) 1 == 0 <;> simp
  constructor
  · intro h
    refine ⟨fun x hx => ?_, fun x hx => ?_⟩
    · have := h x hx; rw [h1, Bool.and_eq_true] at this; exact this.1
    · have := h x hx; rw [h1, Bool.and_eq_true] at this; exact this.2
  · intro h x hx
    rw [h1, Bool.and_eq_true]
    exact ⟨h.1 x hx, h.2 x hx⟩
theorem impl_IsleOk.same {a0_0 : ByteArray} {a0_1 a0_2 : Int} {a0_3 a0_4 : List (List D)} (g0 : a0_0.size ≤ lim) (g3 : Zm Ya lim a0_3) (g4 : Zm RII lim a0_4) {k : Nat} (hk : Zay 1 k) : impl_IsleOk.t k a0_0 a0_1 a0_2 a0_3 a0_4 = spec_IsleOk.t k a0_0 a0_1 a0_2 a0_3 a0_4 := by
  have hk0 : Zar k := up0 hk
  have hl := g4.1
  have hlim : lim = 1048576 := rfl
  have hb : big = 2 ^ 64 := rfl
  have hc : ∀ {n : Int} {β : Type} (K : Bool → Option β), impl_isCopies.f k n K = K (inB n 0 10000) := fun K => isCopies_f K
  have hf : ∀ {β : Type} (K : Int → Option β), slices_IndexFunc_impl_Run__impl_IsleOk_1.f k a0_4 K = K (ZbX (fun i => gI a0_4 (i : Int) 1 == 0) a0_4.length) := fun K => slices_IndexFunc_impl_Run__impl_IsleOk_1.f_of (by
    unfold slices_IndexFunc_impl_Run__impl_IsleOk_1.t slices_IndexFunc_impl_Run__impl_IsleOk_1.g
    refine iter_findI (n := a0_4.length) _ some (by unfold Zar at hk0; omega) (fun L i hi => ?_) (fun L => by simp [slices_IndexFunc_impl_Run__impl_IsleOk_1.l0])
    have hs : ∀ {x y : Int} {β : Type} (K : Bool → Option β), impl_IsleOk_1.f k x y K = K (y == 0) := fun K => impl_IsleOk_1.f_of (by unfold impl_IsleOk_1.t impl_IsleOk_1.g; rfl) K
    simp (disch := omega) only [slices_IndexFunc_impl_Run__impl_IsleOk_1.l0, dec_true (show (i : Int) < a0_4.length by omega), cond_true, RII.row g4, uncons_at, dInt_self, atEnd_at, hs, ZC]) K
  have hcf : ∀ {β : Type} (K : Bool → Option β), slices_ContainsFunc_impl_Run__impl_IsleOk_1.f k a0_4 K = K (!(List.range a0_4.length).all fun i => !(gI a0_4 (i : Int) 1 == 0)) := fun K => slices_ContainsFunc_impl_Run__impl_IsleOk_1.f_of (by
    unfold slices_ContainsFunc_impl_Run__impl_IsleOk_1.t slices_ContainsFunc_impl_Run__impl_IsleOk_1.g
    rw [hf, findI_all]) K
  have hr : ∀ {β : Type} (K : Int → Option β), impl_running.f k a0_0 a0_1 a0_2 a0_3 a0_4 K = spec_l13Sum.f k a0_4 K := fun K => by
    unfold impl_running.f spec_l13Sum.f
    have : impl_running.t k a0_0 a0_1 a0_2 a0_3 a0_4 = spec_l13Sum.t k a0_4 := by
      unfold impl_running.t spec_l13Sum.t impl_running.g spec_l13Sum.g
      refine congrArg (fun b => Z4 b k (0, 0)) (funext fun L => funext fun v => ?_)
      simp only [impl_running.l0, spec_l13Sum.l0]
    cases h2 : spec_l13Sum.t k a0_4 <;> simp only [this, h2]
  unfold impl_IsleOk.t spec_IsleOk.t impl_IsleOk.g spec_IsleOk.g
  simp only [impl_NameOk_f, spec_NameOk.fv g0 hk0, Yi, l1In_fv, hc, l11Runs_fv g4 hk0, runsOk_fv g4 hk0, impl_WorksOk_fv g3 hk, spec_WorksOk.fv g3 hk, hcf, hr, runs_low]
  generalize spec_NameOk.v a0_0 = b1
  generalize inB a0_1 0 10000 = b2
  generalize inB a0_2 0 1000000 = b3
  generalize spec_WorksOk.v a0_3 = b4
  generalize runsB a0_4 0 = b5
  generalize decide ((a0_4.length : Int) ≤ 80) = b6
  generalize List.all _ _ = b7
  cases b1 <;> cases b2 <;> cases b3 <;> cases b4 <;> cases b5 <;> cases b6 <;> cases b7 <;> rfl
theorem copyIsle_fv {a0 : ByteArray} {a1 a2 : Int} {a3 a4 : List (List D)} (g3 : Zm Ya lim a3) (g4 : Zm RII lim a4) {k : Nat} (hk : Zay 1 k) {β : Type} (K : ByteArray → Int → Int → List (List C) → List (List C) → Option β) : impl_copyIsle.f k a0 a1 a2 a3 a4 K = K a0 a1 a2 (Zs a3) (a4.map (·.map C.d)) := impl_copyIsle.f_of (by
  unfold impl_copyIsle.t impl_copyIsle.g
  rw [copyWorks_fv g3 hk, clone_run_fv g4]) K
theorem l13Copy_fv {a0 : ByteArray} {a1 a2 : Int} {a3 a4 : List (List D)} (g3 : Zm Ya lim a3) (g4 : Zm RII lim a4) {k : Nat} (hk : Zay 1 k) {β : Type} (K : ByteArray → Int → Int → List (List C) → List (List C) → Option β) : spec_l13Copy.f k a0 a1 a2 a3 a4 K = K a0 a1 a2 (Zs a3) (a4.map (·.map C.d)) := spec_l13Copy.f_of (by
  have l4 := g4.1
  have hlim : lim = 1048576 := rfl
  have hm : Z6 = 2 ^ 36 := rfl
  unfold spec_l13Copy.t spec_l13Copy.g
  rw [l12Works_fv g3 hk, guard_at (RII.flat g4.2), guard_at (by simp only [List.length_nil, map_len]; omega), List.nil_append]) K
theorem IsleOkI {a0_0 : ByteArray} {a0_1 a0_2 : Int} {a0_3 a0_4 : List (List D)} (g0 : a0_0.size ≤ lim) (g3 : Zm Ya lim a0_3) (g4 : Zm RII lim a0_4) {k : Nat} (hk : Zay 1 k) {β : Type} (K : Bool → Option β) : impl_IsleOk.f k a0_0 a0_1 a0_2 a0_3 a0_4 K = K (spec_IsleOk.v a0_0 a0_1 a0_2 a0_3 a0_4) := impl_IsleOk.f_of ((impl_IsleOk.same g0 g3 g4 hk).trans (spec_IsleOk.tv g0 g3 g4 hk)) K
theorem impl_Obey.f_of {β : Type} {k : Nat} {a0_0 : ByteArray} {a0_1 : Int} {a0_2 : Int} {a0_3 : List (List D)} {a0_4 : List (List D)} {a1 : Int} {a2 : List (List D)} {z0 : ByteArray} {z1 : Int} {z2 : Int} {z3 : List (List C)} {z4 : List (List C)} {z5 : Bool} (h : impl_Obey.t k a0_0 a0_1 a0_2 a0_3 a0_4 a1 a2 = some (z0, z1, z2, z3, z4, z5)) (K : ByteArray → Int → Int → (List (List C)) → (List (List C)) → Bool → Option β) : impl_Obey.f k a0_0 a0_1 a0_2 a0_3 a0_4 a1 a2 K = K z0 z1 z2 z3 z4 z5 := by
  unfold impl_Obey.f
  rw [h]
theorem impl_Obey.tm {ι α : Type} {ok : ι → Prop} {ψ : α → Prop} {p : ι → Nat} {B : Nat} (hp : ∀ i, ok i → B ≤ p i) {a0_0 : ByteArray} {a0_1 : Int} {a0_2 : Int} {a0_3 : List (List D)} {a0_4 : List (List D)} {a1 : Int} {a2 : List (List D)} {φ : ByteArray × Int × Int × (List (List C)) × (List (List C)) × Bool → Prop} (h : Tm (fun k => B ≤ k) (fun k => impl_Obey.t k a0_0 a0_1 a0_2 a0_3 a0_4 a1 a2) φ) {G : ι → ByteArray → Int → Int → (List (List C)) → (List (List C)) → Bool → Option α} (hG : ∀ z0 z1 z2 z3 z4 z5, φ (z0, z1, z2, z3, z4, z5) → Tm ok (fun ι0 => G ι0 z0 z1 z2 z3 z4 z5) ψ) : Tm ok (fun ι0 => impl_Obey.f (p ι0) a0_0 a0_1 a0_2 a0_3 a0_4 a1 a2 (G ι0)) ψ := by
  obtain ⟨⟨z0, z1, z2, z3, z4, z5⟩, h1, h2⟩ := h
  exact (hG z0 z1 z2 z3 z4 z5 h1).congr fun i0 hi0 => impl_Obey.f_of (h2 (p i0) (hp i0 hi0)) _
noncomputable def obeyB (a0 : ByteArray) (a1 a2 : Int) (a3 a4 : List (List D)) (n : Int) (b : List (List D)) : Bool := spec_IsleOk.v a0 a1 a2 a3 a4 && (spec_WorksOk.v b && (!decide (n ≤ a2) && !decide (n > 1000000)))
noncomputable def obeyV (a0 : ByteArray) (a1 a2 : Int) (a3 a4 : List (List D)) (n : Int) (b : List (List D)) : ByteArray × Int × Int × List (List C) × List (List C) × Bool :=
  bif obeyB a0 a1 a2 a3 a4 n b then (a0, a1, n, Zs b, Zs a4, true) else (a0, a1, a2, Zs a3, Zs a4, false)
theorem spec_Obey_t {a0 : ByteArray} {a1 a2 n : Int} {a3 a4 b : List (List D)} (g0 : a0.size ≤ lim) (g3 : Zm Ya lim a3) (g4 : Zm RII lim a4) (gb : Zm Ya lim b) {k : Nat} (hk : Zay 1 k) : spec_Obey.t k a0 a1 a2 a3 a4 n b = some (obeyV a0 a1 a2 a3 a4 n b) := by
  unfold spec_Obey.t spec_Obey.g
  rw [l13Copy_fv g3 g4 hk, spec_IsleOk.fv g0 g3 g4 hk, spec_WorksOk.fv gb hk, l12Works_fv gb hk, ← RII.deep g4.2]
  unfold obeyV obeyB
  cases spec_IsleOk.v a0 a1 a2 a3 a4 <;> cases spec_WorksOk.v b <;> cases decide (n ≤ a2) <;> cases decide (n > 1000000) <;> rfl
theorem impl_Obey_t {a0 : ByteArray} {a1 a2 n : Int} {a3 a4 b : List (List D)} (g0 : a0.size ≤ lim) (g3 : Zm Ya lim a3) (g4 : Zm RII lim a4) (gb : Zm Ya lim b) {k : Nat} (hk : Zay 1 k) : impl_Obey.t k a0 a1 a2 a3 a4 n b = some (obeyV a0 a1 a2 a3 a4 n b) := by
  unfold impl_Obey.t impl_Obey.g
  rw [copyIsle_fv g3 g4 hk, IsleOkI g0 g3 g4 hk, impl_WorksOk_fv gb hk, copyWorks_fv gb hk, ← RII.deep g4.2]
  unfold obeyV obeyB
  cases spec_IsleOk.v a0 a1 a2 a3 a4 <;> cases spec_WorksOk.v b <;> cases decide (n ≤ a2) <;> cases decide (n > 1000000) <;> rfl
theorem spec_Obey.T {a0_0 : ByteArray} {a0_1 a0_2 a1 : Int} {a0_3 a0_4 a2 : List (List D)} (g0 : a0_0.size ≤ lim) (_ : (Lit.int .i64 a0_1).wf = true) (_ : (Lit.int .i64 a0_2).wf = true) (g3 : Zm Ya lim a0_3) (g4 : Zm RII lim a0_4) (_ : (Lit.int .i64 a1).wf = true) (gb : Zm Ya lim a2) (w3 : ZE a0_3 ≤ 67108864) (wb : ZE a2 ≤ 67108864) :
    Tm (Zay 1) (fun k => spec_Obey.t k a0_0 a0_1 a0_2 a0_3 a0_4 a1 a2) (fun z => z.1.size ≤ 2097152 ∧ Zm Ya 2097152 (C.immRows z.2.2.2.1) ∧ ZE (C.immRows z.2.2.2.1) ≤ 1125899906842624 ∧ Zm RII 2097152 (C.immRows z.2.2.2.2.1) ∧ ZE (C.immRows z.2.2.2.2.1) ≤ 1125899906842624 ∧ True) := by
  have hlim : lim = 1048576 := rfl
  have l4 := g4.1
  refine Tm.of (fun k hk => spec_Obey_t g0 g3 g4 gb hk) ?_
  have w4 : ZE a0_4 ≤ 1125899906842624 := by rw [RII.wt g4.2]; omega
  unfold obeyV
  cases obeyB a0_0 a0_1 a0_2 a0_3 a0_4 a1 a2 <;> simp only [cond_true, cond_false, ZF]
  · exact ⟨by omega, Ya.wide g3, by omega, RII.wide g4, w4, trivial⟩
  · exact ⟨by omega, Ya.wide gb, by omega, RII.wide g4, w4, trivial⟩
theorem impl_Obey.same {a0_0 : ByteArray} {a0_1 a0_2 a1 : Int} {a0_3 a0_4 a2 : List (List D)} (g0 : a0_0.size ≤ lim) (_ : (Lit.int .i64 a0_1).wf = true) (_ : (Lit.int .i64 a0_2).wf = true) (g3 : Zm Ya lim a0_3) (g4 : Zm RII lim a0_4) (_ : (Lit.int .i64 a1).wf = true) (gb : Zm Ya lim a2) (w3 : ZE a0_3 ≤ 67108864) (wb : ZE a2 ≤ 67108864) {k : Nat} (hk : Zay 1 k) {z0 : ByteArray} {z1 z2 : Int} {z3 z4 : List (List C)} {z5 : Bool}
    (hz : spec_Obey.t k a0_0 a0_1 a0_2 a0_3 a0_4 a1 a2 = some (z0, z1, z2, z3, z4, z5)) : impl_Obey.t k a0_0 a0_1 a0_2 a0_3 a0_4 a1 a2 = some (z0, z1, z2, Zs (C.immRows z3), Zs (C.immRows z4), z5) := by
  rw [spec_Obey_t g0 g3 g4 gb hk] at hz
  rw [impl_Obey_t g0 g3 g4 gb hk, hz]
  injection hz with hz
  unfold obeyV at hz
  cases hq : obeyB a0_0 a0_1 a0_2 a0_3 a0_4 a1 a2 <;> rw [hq] at hz <;> simp only [cond_true, cond_false, Prod.mk.injEq] at hz <;> obtain ⟨rfl, rfl, rfl, rfl, rfl, rfl⟩ := hz <;> simp only [ZF]
theorem laws_eqStringS.f_of {β : Type} {k : Nat} {a0 : List (List D)} {a1 : List (List D)} {z0 : Bool} (h : laws_eqStringS.t k a0 a1 = some z0) (K : Bool → Option β) : laws_eqStringS.f k a0 a1 K = K z0 := by
  unfold laws_eqStringS.f
  rw [h]
theorem laws_eqStringS.tm {ι α : Type} {ok : ι → Prop} {ψ : α → Prop} {p : ι → Nat} {B : Nat} (hp : ∀ i, ok i → B ≤ p i) {a0 : List (List D)} {a1 : List (List D)} {φ : Bool → Prop} (h : Tm (fun k => B ≤ k) (fun k => laws_eqStringS.t k a0 a1) φ) {G : ι → Bool → Option α} (hG : ∀ z0, φ z0 → Tm ok (fun ι0 => G ι0 z0) ψ) : Tm ok (fun ι0 => laws_eqStringS.f (p ι0) a0 a1 (G ι0)) ψ := by
  obtain ⟨z0, h1, h2⟩ := h
  exact (hG z0 h1).congr fun i0 hi0 => laws_eqStringS.f_of (h2 (p i0) (hp i0 hi0)) _
theorem laws_eqStringS.T {B : Nat} {a0 : List (List D)} (ga0 : Zm RS B a0) (hB : B ≤ 1099511627776) : Tm Zar (fun k => laws_eqStringS.t k a0 a0) (fun r => r = true) := by
  unfold laws_eqStringS.t laws_eqStringS.g
  have hm := Za
  have hlim : lim = 1048576 := rfl
  have hlen := ga0.1
  refine Tm.ite (fun h1 => ?_) (fun h1 => ?_)
  · try simp only [bz0, bz1, bz2, bz3, bz4, bz5, bz6, bz7, bz8, bz9, bza] at h1
    exact Tm.ret (by first | rfl | (exfalso; simp [Zi] at *))
  · try simp only [bz0, bz1, bz2, bz3, bz4, bz5, bz6, bz7, bz8, bz9, bza] at h1
    refine Tm.loop (okk := Zar) (p := fun k => k) (fun i hi => hi) (b := fun k => laws_eqStringS.l0 k a0 a0 (fun z0 => some z0)) (fun i => (((a0.length : Int)) - i).toNat) (fun i => 0 ≤ i ∧ i ≤ (a0.length : Int)) ?_ ?_ ?_
    · rintro i hI
      try simp only [] at hI ⊢
      have : big = 2 ^ 64 := rfl
      have := ga0.1
      omega
    · ((try simp only []); omega)
    · rintro i hI L hL
      try simp only [] at hI
      obtain ⟨i0, i1⟩ := hI
      simp only [laws_eqStringS.l0]
      refine Tm.ite (fun h2 => ?_) (fun h2 => ?_)
      · try simp only [bz0, bz1, bz2, bz3, bz4, bz5, bz6, bz7, bz8, bz9, bza] at h2
        refine Tm.atRow (by first | assumption | omega) (by first | assumption | omega) (fun x3 hx4 hm5 => ?_)
        obtain ⟨c6, rfl, g7, _⟩ := (ga0.2 x3 hm5).open
        refine Tm.uncons ?_
        refine Tm.dStr ?_
        refine Tm.atEnd ?_
        refine Tm.atRow (by first | assumption | omega) (by first | assumption | omega) (fun x8 hx9 hm10 => ?_)
        rw [hx4] at hx9
        injection hx9 with hx9
        subst hx9
        refine Tm.uncons ?_
        refine Tm.dStr ?_
        refine Tm.atEnd ?_
        refine Tm.ite (fun h12 => ?_) (fun h12 => ?_)
        · try simp only [bz0, bz1, bz2, bz3, bz4, bz5, bz6, bz7, bz8, bz9, bza] at h12
          exact Tm.ret (by first | rfl | (exfalso; simp [Zi] at *))
        · try simp only [bz0, bz1, bz2, bz3, bz4, bz5, bz6, bz7, bz8, bz9, bza] at h12
          try rw [ZC (x := i + 1) (by omega) (by omega)]
          exact hL _ (by (try simp only []); omega) (by (try simp only []); omega)
      · try simp only [bz0, bz1, bz2, bz3, bz4, bz5, bz6, bz7, bz8, bz9, bza] at h2
        exact Tm.ret (by first | rfl | (exfalso; simp [Zi] at *))
theorem laws_eqValueS.f_of {β : Type} {k : Nat} {a0 : List (List D)} {a1 : List (List D)} {z0 : Bool} (h : laws_eqValueS.t k a0 a1 = some z0) (K : Bool → Option β) : laws_eqValueS.f k a0 a1 K = K z0 := by
  unfold laws_eqValueS.f
  unfold laws_eqValueS.w
  rw [h]
theorem laws_eqValueS.tm {ι α : Type} {ok : ι → Prop} {ψ : α → Prop} {p : ι → Nat} {B : Nat} (hp : ∀ i, ok i → B ≤ p i) {a0 : List (List D)} {a1 : List (List D)} {φ : Bool → Prop} (h : Tm (fun k => B ≤ k) (fun k => laws_eqValueS.t k a0 a1) φ) {G : ι → Bool → Option α} (hG : ∀ z0, φ z0 → Tm ok (fun ι0 => G ι0 z0) ψ) : Tm ok (fun ι0 => laws_eqValueS.f (p ι0) a0 a1 (G ι0)) ψ := by
  obtain ⟨z0, h1, h2⟩ := h
  exact (hG z0 h1).congr fun i0 hi0 => laws_eqValueS.f_of (h2 (p i0) (hp i0 hi0)) _
theorem laws_eqValue.f_of {β : Type} {k : Nat} {a0_0 : Int} {a0_1 : ByteArray} {a0_2 : Int} {a0_3 : List (List D)} {a0_4 : List (List D)} {a1_0 : Int} {a1_1 : ByteArray} {a1_2 : Int} {a1_3 : List (List D)} {a1_4 : List (List D)} {z0 : Bool} (h : laws_eqValue.t k a0_0 a0_1 a0_2 a0_3 a0_4 a1_0 a1_1 a1_2 a1_3 a1_4 = some z0) (K : Bool → Option β) : laws_eqValue.f k a0_0 a0_1 a0_2 a0_3 a0_4 a1_0 a1_1 a1_2 a1_3 a1_4 K = K z0 := by
  unfold laws_eqValue.f
  unfold laws_eqValue.w
  rw [h]
theorem laws_eqValue.tm {ι α : Type} {ok : ι → Prop} {ψ : α → Prop} {p : ι → Nat} {B : Nat} (hp : ∀ i, ok i → B ≤ p i) {a0_0 : Int} {a0_1 : ByteArray} {a0_2 : Int} {a0_3 : List (List D)} {a0_4 : List (List D)} {a1_0 : Int} {a1_1 : ByteArray} {a1_2 : Int} {a1_3 : List (List D)} {a1_4 : List (List D)} {φ : Bool → Prop} (h : Tm (fun k => B ≤ k) (fun k => laws_eqValue.t k a0_0 a0_1 a0_2 a0_3 a0_4 a1_0 a1_1 a1_2 a1_3 a1_4) φ) {G : ι → Bool → Option α} (hG : ∀ z0, φ z0 → Tm ok (fun ι0 => G ι0 z0) ψ) : Tm ok (fun ι0 => laws_eqValue.f (p ι0) a0_0 a0_1 a0_2 a0_3 a0_4 a1_0 a1_1 a1_2 a1_3 a1_4 (G ι0)) ψ := by
  obtain ⟨z0, h1, h2⟩ := h
  exact (hG z0 h1).congr fun i0 hi0 => laws_eqValue.f_of (h2 (p i0) (hp i0 hi0)) _
theorem eqVal {B : Nat} (hB : B ≤ 1099511627776) (n : Nat) : (∀ (a : List (List D)), a.length ≤ B → (∀ x ∈ a, Yc B n x) → Tm (fun k => big + 2 * n + 1 ≤ k) (fun k => laws_eqValueS.t k a a) (fun r => r = true)) ∧
    (∀ (c0 : Int) (c1 : ByteArray) (c2 : Int) (c3 c4 : List (List D)), c1.size ≤ B → Zm RS B c3 → c4.length ≤ B → (∀ x ∈ c4, Yc B n x) → Tm (fun k => big + 2 * n + 2 ≤ k) (fun k => laws_eqValue.t k c0 c1 c2 c3 c4 c0 c1 c2 c3 c4) (fun r => r = true)) := by
  have hb : big = 2 ^ 64 := rfl
  induction n using Nat.strongRecOn with
  | ind n ih =>
  have S : ∀ (a : List (List D)), a.length ≤ B → (∀ x ∈ a, Yc B n x) → Tm (fun k => big + 2 * n + 1 ≤ k) (fun k => laws_eqValueS.t k a a) (fun r => r = true) := by
    intro a hlen g
    refine Tm.succ (g := fun k => laws_eqValueS.g k a a (fun z0 => some z0)) (fun k => laws_eqValueS.t_succ k a a) ?_
    unfold laws_eqValueS.g laws_eqValueS.body
    refine Tm.ite (fun h3 => by simp at h3) (fun h3 => ?_)
    refine Tm.loop (okk := fun k => big + 2 * n ≤ k) (p := fun k => k) (fun i hi => by omega) (b := fun k => laws_eqValueS.l0 k (laws_eqValueS.f k) (laws_eqValue.f k) a a (fun z0 => some z0)) (fun i => (((a.length : Int)) - i).toNat) (fun i => 0 ≤ i ∧ i ≤ (a.length : Int)) ?_ ?_ ?_
    · rintro i hI
      omega
    · omega
    · rintro i hI L hL
      obtain ⟨i0, i1⟩ := hI
      simp only [laws_eqValueS.l0]
      refine Tm.ite (fun h4 => ?_) (fun h4 => ?_)
      · simp only [decide_eq_true_eq] at h4
        refine Tm.atRow (by omega) (by omega) (fun x5 hx6 hm7 => ?_)
        obtain ⟨n', hn', c0, c1, c2, c3, c4, rfl, w0, g1, w2, g3, l4, g4⟩ : ∃ n', n = n' + 1 ∧ ∃ c0 c1 c2 c3 c4, x5 = [.int .i64 c0, .str c1, .int .i64 c2, .sl c3, .sl c4] ∧ (Lit.int .i64 c0).wf = true ∧ c1.size ≤ B ∧ (Lit.int .i64 c2).wf = true ∧ Zm RS B c3 ∧ c4.length ≤ B ∧ ∀ x ∈ c4, Yc B n' x := by
          have := g x5 hm7
          cases this with
          | mk c0 c1 c2 c3 c4 w0 g1 w2 g3 l4 g4 => exact ⟨_, rfl, _, _, _, _, _, rfl, w0, g1, w2, g3, l4, g4⟩
        refine Tm.uncons (Tm.dInt (Tm.uncons (Tm.dStr (Tm.uncons (Tm.dInt (Tm.uncons (Tm.dSl (Tm.uncons (Tm.dSl (Tm.atEnd ?_))))))))))
        refine Tm.atRow (by omega) (by omega) (fun x8 hx8 _ => ?_)
        rw [hx6] at hx8
        injection hx8 with hx8
        subst hx8
        refine Tm.uncons (Tm.dInt (Tm.uncons (Tm.dStr (Tm.uncons (Tm.dInt (Tm.uncons (Tm.dSl (Tm.uncons (Tm.dSl (Tm.atEnd ?_))))))))))
        refine laws_eqValue.tm (B := big + 2 * n' + 2) (fun i hi => by have := hi.1; omega) ((ih n' (by omega)).2 c0 c1 c2 c3 c4 g1 g3 l4 g4) (fun y hy => ?_)
        subst hy
        refine Tm.ite (fun h => by simp at h) (fun _ => ?_)
        rw [ZC (x := i + 1) (by omega) (by omega)]
        exact hL (i + 1) ⟨by omega, by omega⟩ (by omega)
      · exact Tm.ret rfl
  refine ⟨S, ?_⟩
  intro c0 c1 c2 c3 c4 g1 g3 l4 g4
  refine Tm.succ (g := fun k => laws_eqValue.g k c0 c1 c2 c3 c4 c0 c1 c2 c3 c4 (fun z0 => some z0)) (fun k => laws_eqValue.t_succ k c0 c1 c2 c3 c4 c0 c1 c2 c3 c4) ?_
  unfold laws_eqValue.g laws_eqValue.body
  refine Tm.ite (fun h => by simp at h) (fun _ => ?_)
  refine Tm.ite (fun h => by simp [Zi] at h) (fun _ => ?_)
  refine Tm.ite (fun h => by simp at h) (fun _ => ?_)
  refine laws_eqStringS.tm (B := big) (fun i hi => by omega) (laws_eqStringS.T g3 hB) (fun y hy => ?_)
  subst hy
  refine Tm.ite (fun h => by simp at h) (fun _ => ?_)
  refine laws_eqValueS.tm (B := big + 2 * n + 1) (fun i hi => hi) (S c4 l4 g4) (fun y' hy' => ?_)
  subst hy'
  exact Tm.ite (fun h => by simp at h) (fun _ => Tm.ret rfl)
theorem big_lv1e {n : Nat} (h : n ≤ 4398046511104) : big + n ≤ lv 1 := by
  have hb : big = 2 ^ 64 := rfl
  have : lv 1 = 2 ^ 65 := rfl
  omega
theorem laws_eqValueS.T {B : Nat} {a0 : List (List D)} (g : Zm Yb B a0) (hB : B ≤ 1099511627776) : Tm (Zay 1) (fun k => laws_eqValueS.t k a0 a0) (fun r => r = true) := by
  have g' : ∀ x ∈ a0, Yc B 1099511627776 x := fun x hx => by
    obtain ⟨h, hh, hx⟩ := g.2 x hx
    exact hx.mono (hh hB)
  exact ((eqVal hB 1099511627776).1 a0 g.1 g').up (big_lv1e (n := 2 * 1099511627776 + 1) (by omega))
theorem laws_eqValue.T {B : Nat} {a0_0 : Int} {a0_1 : ByteArray} {a0_2 : Int} {a0_3 a0_4 : List (List D)} (g1 : a0_1.size ≤ B) (g3 : Zm RS B a0_3) (g4 : Zm Yb B a0_4) (hB : B ≤ 1099511627776) : Tm (Zay 1) (fun k => laws_eqValue.t k a0_0 a0_1 a0_2 a0_3 a0_4 a0_0 a0_1 a0_2 a0_3 a0_4) (fun r => r = true) := by
  have g' : ∀ x ∈ a0_4, Yc B 1099511627776 x := fun x hx => by
    obtain ⟨h, hh, hx⟩ := g4.2 x hx
    exact hx.mono (hh hB)
  exact ((eqVal hB 1099511627776).2 a0_0 a0_1 a0_2 a0_3 a0_4 g1 g3 g4.1 g').up (big_lv1e (n := 2 * 1099511627776 + 2) (by omega))
theorem laws_eqWork.f_of {β : Type} {k : Nat} {a0_0 : Int} {a0_1 : Int} {a0_2 : Int} {a0_3 : ByteArray} {a0_4 : Int} {a0_5 : List (List D)} {a0_6 : List (List D)} {a1_0 : Int} {a1_1 : Int} {a1_2 : Int} {a1_3 : ByteArray} {a1_4 : Int} {a1_5 : List (List D)} {a1_6 : List (List D)} {z0 : Bool} (h : laws_eqWork.t k a0_0 a0_1 a0_2 a0_3 a0_4 a0_5 a0_6 a1_0 a1_1 a1_2 a1_3 a1_4 a1_5 a1_6 = some z0) (K : Bool → Option β) : laws_eqWork.f k a0_0 a0_1 a0_2 a0_3 a0_4 a0_5 a0_6 a1_0 a1_1 a1_2 a1_3 a1_4 a1_5 a1_6 K = K z0 := by
  unfold laws_eqWork.f
  rw [h]
theorem laws_eqWork.tm {ι α : Type} {ok : ι → Prop} {ψ : α → Prop} {p : ι → Nat} {B : Nat} (hp : ∀ i, ok i → B ≤ p i) {a0_0 : Int} {a0_1 : Int} {a0_2 : Int} {a0_3 : ByteArray} {a0_4 : Int} {a0_5 : List (List D)} {a0_6 : List (List D)} {a1_0 : Int} {a1_1 : Int} {a1_2 : Int} {a1_3 : ByteArray} {a1_4 : Int} {a1_5 : List (List D)} {a1_6 : List (List D)} {φ : Bool → Prop} (h : Tm (fun k => B ≤ k) (fun k => laws_eqWork.t k a0_0 a0_1 a0_2 a0_3 a0_4 a0_5 a0_6 a1_0 a1_1 a1_2 a1_3 a1_4 a1_5 a1_6) φ) {G : ι → Bool → Option α} (hG : ∀ z0, φ z0 → Tm ok (fun ι0 => G ι0 z0) ψ) : Tm ok (fun ι0 => laws_eqWork.f (p ι0) a0_0 a0_1 a0_2 a0_3 a0_4 a0_5 a0_6 a1_0 a1_1 a1_2 a1_3 a1_4 a1_5 a1_6 (G ι0)) ψ := by
  obtain ⟨z0, h1, h2⟩ := h
  exact (hG z0 h1).congr fun i0 hi0 => laws_eqWork.f_of (h2 (p i0) (hp i0 hi0)) _
theorem laws_eqWork.T {B : Nat} {a0_0 : Int} {a0_1 : Int} {a0_2 : Int} {a0_3 : ByteArray} {a0_4 : Int} {a0_5 : List (List D)} {a0_6 : List (List D)} (ga0_3 : a0_3.size ≤ B) (ga0_5 : Zm RS B a0_5) (ga0_6 : Zm Yb B a0_6) (hB : B ≤ 1099511627776) : Tm (Zay 1) (fun k => laws_eqWork.t k a0_0 a0_1 a0_2 a0_3 a0_4 a0_5 a0_6 a0_0 a0_1 a0_2 a0_3 a0_4 a0_5 a0_6) (fun r => r = true) := by
  unfold laws_eqWork.t laws_eqWork.g
  have hm := Za
  have hlim : lim = 1048576 := rfl
  refine Tm.ite (fun h1 => ?_) (fun h1 => ?_)
  · try simp only [bz0, bz1, bz2, bz3, bz4, bz5, bz6, bz7, bz8, bz9, bza] at h1
    exact Tm.ret (by first | rfl | (exfalso; simp [Zi] at *))
  · try simp only [bz0, bz1, bz2, bz3, bz4, bz5, bz6, bz7, bz8, bz9, bza] at h1
    refine Tm.ite (fun h2 => ?_) (fun h2 => ?_)
    · try simp only [bz0, bz1, bz2, bz3, bz4, bz5, bz6, bz7, bz8, bz9, bza] at h2
      exact Tm.ret (by first | rfl | (exfalso; simp [Zi] at *))
    · try simp only [bz0, bz1, bz2, bz3, bz4, bz5, bz6, bz7, bz8, bz9, bza] at h2
      refine laws_eqValue.tm (fun i hi => hi) (laws_eqValue.T (by first | assumption | omega) (by first | assumption | omega) (by first | assumption | omega) (by first | assumption | omega)) (fun y4 hy3 => ?_)
      subst hy3
      refine Tm.ite (fun h5 => ?_) (fun h5 => ?_)
      · try simp only [bz0, bz1, bz2, bz3, bz4, bz5, bz6, bz7, bz8, bz9, bza] at h5
        exact Tm.ret (by first | rfl | (exfalso; simp [Zi] at *))
      · try simp only [bz0, bz1, bz2, bz3, bz4, bz5, bz6, bz7, bz8, bz9, bza] at h5
        exact Tm.ret (by first | rfl | (exfalso; simp [Zi] at *))
theorem laws_eqWorkS.f_of {β : Type} {k : Nat} {a0 : List (List D)} {a1 : List (List D)} {z0 : Bool} (h : laws_eqWorkS.t k a0 a1 = some z0) (K : Bool → Option β) : laws_eqWorkS.f k a0 a1 K = K z0 := by
  unfold laws_eqWorkS.f
  rw [h]
theorem laws_eqWorkS.tm {ι α : Type} {ok : ι → Prop} {ψ : α → Prop} {p : ι → Nat} {B : Nat} (hp : ∀ i, ok i → B ≤ p i) {a0 : List (List D)} {a1 : List (List D)} {φ : Bool → Prop} (h : Tm (fun k => B ≤ k) (fun k => laws_eqWorkS.t k a0 a1) φ) {G : ι → Bool → Option α} (hG : ∀ z0, φ z0 → Tm ok (fun ι0 => G ι0 z0) ψ) : Tm ok (fun ι0 => laws_eqWorkS.f (p ι0) a0 a1 (G ι0)) ψ := by
  obtain ⟨z0, h1, h2⟩ := h
  exact (hG z0 h1).congr fun i0 hi0 => laws_eqWorkS.f_of (h2 (p i0) (hp i0 hi0)) _
theorem laws_eqWorkS.T {B : Nat} {a0 : List (List D)} (ga0 : Zm Ya B a0) (hB : B ≤ 1099511627776) : Tm (Zay 1) (fun k => laws_eqWorkS.t k a0 a0) (fun r => r = true) := by
  unfold laws_eqWorkS.t laws_eqWorkS.g
  have hm := Za
  have hlim : lim = 1048576 := rfl
  have hlen := ga0.1
  refine Tm.ite (fun h1 => ?_) (fun h1 => ?_)
  · try simp only [bz0, bz1, bz2, bz3, bz4, bz5, bz6, bz7, bz8, bz9, bza] at h1
    exact Tm.ret (by first | rfl | (exfalso; simp [Zi] at *))
  · try simp only [bz0, bz1, bz2, bz3, bz4, bz5, bz6, bz7, bz8, bz9, bza] at h1
    refine Tm.loop (okk := (Zay 1)) (p := fun k => k) (fun i hi => up0 hi) (b := fun k => laws_eqWorkS.l0 k a0 a0 (fun z0 => some z0)) (fun i => (((a0.length : Int)) - i).toNat) (fun i => 0 ≤ i ∧ i ≤ (a0.length : Int)) ?_ ?_ ?_
    · rintro i hI
      try simp only [] at hI ⊢
      have : big = 2 ^ 64 := rfl
      have := ga0.1
      omega
    · ((try simp only []); omega)
    · rintro i hI L hL
      try simp only [] at hI
      obtain ⟨i0, i1⟩ := hI
      simp only [laws_eqWorkS.l0]
      refine Tm.ite (fun h2 => ?_) (fun h2 => ?_)
      · try simp only [bz0, bz1, bz2, bz3, bz4, bz5, bz6, bz7, bz8, bz9, bza] at h2
        refine Tm.atRow (by first | assumption | omega) (by first | assumption | omega) (fun x3 hx4 hm5 => ?_)
        obtain ⟨c6, c7, c8, c9, c10, c11, c12, rfl, g13, g14, g15, g16, g17, g18, g19, _⟩ := (ga0.2 x3 hm5).open
        refine Tm.uncons ?_
        refine Tm.dInt ?_
        refine Tm.uncons ?_
        refine Tm.dInt ?_
        refine Tm.uncons ?_
        refine Tm.dInt ?_
        refine Tm.uncons ?_
        refine Tm.dStr ?_
        refine Tm.uncons ?_
        refine Tm.dInt ?_
        refine Tm.uncons ?_
        refine Tm.dSl ?_
        refine Tm.uncons ?_
        refine Tm.dSl ?_
        refine Tm.atEnd ?_
        refine Tm.atRow (by first | assumption | omega) (by first | assumption | omega) (fun x20 hx21 hm22 => ?_)
        rw [hx4] at hx21
        injection hx21 with hx21
        subst hx21
        refine Tm.uncons ?_
        refine Tm.dInt ?_
        refine Tm.uncons ?_
        refine Tm.dInt ?_
        refine Tm.uncons ?_
        refine Tm.dInt ?_
        refine Tm.uncons ?_
        refine Tm.dStr ?_
        refine Tm.uncons ?_
        refine Tm.dInt ?_
        refine Tm.uncons ?_
        refine Tm.dSl ?_
        refine Tm.uncons ?_
        refine Tm.dSl ?_
        refine Tm.atEnd ?_
        refine laws_eqWork.tm (fun i hi => hi.1) (laws_eqWork.T (by first | assumption | omega) (by first | assumption | omega) (by first | assumption | omega) (by first | assumption | omega)) (fun y31 hy30 => ?_)
        subst hy30
        refine Tm.ite (fun h32 => ?_) (fun h32 => ?_)
        · try simp only [bz0, bz1, bz2, bz3, bz4, bz5, bz6, bz7, bz8, bz9, bza] at h32
          exact Tm.ret (by first | rfl | (exfalso; simp [Zi] at *))
        · try simp only [bz0, bz1, bz2, bz3, bz4, bz5, bz6, bz7, bz8, bz9, bza] at h32
          try rw [ZC (x := i + 1) (by omega) (by omega)]
          exact hL _ (by (try simp only []); omega) (by (try simp only []); omega)
      · try simp only [bz0, bz1, bz2, bz3, bz4, bz5, bz6, bz7, bz8, bz9, bza] at h2
        exact Tm.ret (by first | rfl | (exfalso; simp [Zi] at *))
theorem laws_eqRun.f_of {β : Type} {k : Nat} {a0_0 : Int} {a0_1 : Int} {a1_0 : Int} {a1_1 : Int} {z0 : Bool} (h : laws_eqRun.t k a0_0 a0_1 a1_0 a1_1 = some z0) (K : Bool → Option β) : laws_eqRun.f k a0_0 a0_1 a1_0 a1_1 K = K z0 := by
  unfold laws_eqRun.f
  rw [h]
theorem laws_eqRun.tm {ι α : Type} {ok : ι → Prop} {ψ : α → Prop} {p : ι → Nat} {B : Nat} (hp : ∀ i, ok i → B ≤ p i) {a0_0 : Int} {a0_1 : Int} {a1_0 : Int} {a1_1 : Int} {φ : Bool → Prop} (h : Tm (fun k => B ≤ k) (fun k => laws_eqRun.t k a0_0 a0_1 a1_0 a1_1) φ) {G : ι → Bool → Option α} (hG : ∀ z0, φ z0 → Tm ok (fun ι0 => G ι0 z0) ψ) : Tm ok (fun ι0 => laws_eqRun.f (p ι0) a0_0 a0_1 a1_0 a1_1 (G ι0)) ψ := by
  obtain ⟨z0, h1, h2⟩ := h
  exact (hG z0 h1).congr fun i0 hi0 => laws_eqRun.f_of (h2 (p i0) (hp i0 hi0)) _
theorem laws_eqRun.T {B : Nat} {a0_0 : Int} {a0_1 : Int} (hB : B ≤ 1099511627776) : Tm Zar (fun k => laws_eqRun.t k a0_0 a0_1 a0_0 a0_1) (fun r => r = true) := by
  unfold laws_eqRun.t laws_eqRun.g
  have hm := Za
  have hlim : lim = 1048576 := rfl
  refine Tm.ite (fun h1 => ?_) (fun h1 => ?_)
  · try simp only [bz0, bz1, bz2, bz3, bz4, bz5, bz6, bz7, bz8, bz9, bza] at h1
    exact Tm.ret (by first | rfl | (exfalso; simp [Zi] at *))
  · try simp only [bz0, bz1, bz2, bz3, bz4, bz5, bz6, bz7, bz8, bz9, bza] at h1
    refine Tm.ite (fun h2 => ?_) (fun h2 => ?_)
    · try simp only [bz0, bz1, bz2, bz3, bz4, bz5, bz6, bz7, bz8, bz9, bza] at h2
      exact Tm.ret (by first | rfl | (exfalso; simp [Zi] at *))
    · try simp only [bz0, bz1, bz2, bz3, bz4, bz5, bz6, bz7, bz8, bz9, bza] at h2
      exact Tm.ret (by first | rfl | (exfalso; simp [Zi] at *))
theorem laws_eqRunS.f_of {β : Type} {k : Nat} {a0 : List (List D)} {a1 : List (List D)} {z0 : Bool} (h : laws_eqRunS.t k a0 a1 = some z0) (K : Bool → Option β) : laws_eqRunS.f k a0 a1 K = K z0 := by
  unfold laws_eqRunS.f
  rw [h]
theorem laws_eqRunS.tm {ι α : Type} {ok : ι → Prop} {ψ : α → Prop} {p : ι → Nat} {B : Nat} (hp : ∀ i, ok i → B ≤ p i) {a0 : List (List D)} {a1 : List (List D)} {φ : Bool → Prop} (h : Tm (fun k => B ≤ k) (fun k => laws_eqRunS.t k a0 a1) φ) {G : ι → Bool → Option α} (hG : ∀ z0, φ z0 → Tm ok (fun ι0 => G ι0 z0) ψ) : Tm ok (fun ι0 => laws_eqRunS.f (p ι0) a0 a1 (G ι0)) ψ := by
  obtain ⟨z0, h1, h2⟩ := h
  exact (hG z0 h1).congr fun i0 hi0 => laws_eqRunS.f_of (h2 (p i0) (hp i0 hi0)) _
theorem laws_eqRunS.T {B : Nat} {a0 : List (List D)} (ga0 : Zm RII B a0) (hB : B ≤ 1099511627776) : Tm Zar (fun k => laws_eqRunS.t k a0 a0) (fun r => r = true) := by
  unfold laws_eqRunS.t laws_eqRunS.g
  have hm := Za
  have hlim : lim = 1048576 := rfl
  have hlen := ga0.1
  refine Tm.ite (fun h1 => ?_) (fun h1 => ?_)
  · try simp only [bz0, bz1, bz2, bz3, bz4, bz5, bz6, bz7, bz8, bz9, bza] at h1
    exact Tm.ret (by first | rfl | (exfalso; simp [Zi] at *))
  · try simp only [bz0, bz1, bz2, bz3, bz4, bz5, bz6, bz7, bz8, bz9, bza] at h1
    refine Tm.loop (okk := Zar) (p := fun k => k) (fun i hi => hi) (b := fun k => laws_eqRunS.l0 k a0 a0 (fun z0 => some z0)) (fun i => (((a0.length : Int)) - i).toNat) (fun i => 0 ≤ i ∧ i ≤ (a0.length : Int)) ?_ ?_ ?_
    · rintro i hI
      try simp only [] at hI ⊢
      have : big = 2 ^ 64 := rfl
      have := ga0.1
      omega
    · ((try simp only []); omega)
    · rintro i hI L hL
      try simp only [] at hI
      obtain ⟨i0, i1⟩ := hI
      simp only [laws_eqRunS.l0]
      refine Tm.ite (fun h2 => ?_) (fun h2 => ?_)
      · try simp only [bz0, bz1, bz2, bz3, bz4, bz5, bz6, bz7, bz8, bz9, bza] at h2
        refine Tm.atRow (by first | assumption | omega) (by first | assumption | omega) (fun x3 hx4 hm5 => ?_)
        obtain ⟨c6, c7, rfl, g8, g9, _⟩ := (ga0.2 x3 hm5).open
        refine Tm.uncons ?_
        refine Tm.dInt ?_
        refine Tm.uncons ?_
        refine Tm.dInt ?_
        refine Tm.atEnd ?_
        refine Tm.atRow (by first | assumption | omega) (by first | assumption | omega) (fun x10 hx11 hm12 => ?_)
        rw [hx4] at hx11
        injection hx11 with hx11
        subst hx11
        refine Tm.uncons ?_
        refine Tm.dInt ?_
        refine Tm.uncons ?_
        refine Tm.dInt ?_
        refine Tm.atEnd ?_
        refine laws_eqRun.tm (fun i hi => hi.1) (laws_eqRun.T (by first | assumption | omega)) (fun y16 hy15 => ?_)
        subst hy15
        refine Tm.ite (fun h17 => ?_) (fun h17 => ?_)
        · try simp only [bz0, bz1, bz2, bz3, bz4, bz5, bz6, bz7, bz8, bz9, bza] at h17
          exact Tm.ret (by first | rfl | (exfalso; simp [Zi] at *))
        · try simp only [bz0, bz1, bz2, bz3, bz4, bz5, bz6, bz7, bz8, bz9, bza] at h17
          try rw [ZC (x := i + 1) (by omega) (by omega)]
          exact hL _ (by (try simp only []); omega) (by (try simp only []); omega)
      · try simp only [bz0, bz1, bz2, bz3, bz4, bz5, bz6, bz7, bz8, bz9, bza] at h2
        exact Tm.ret (by first | rfl | (exfalso; simp [Zi] at *))
theorem laws_eqIsle.f_of {β : Type} {k : Nat} {a0_0 : ByteArray} {a0_1 : Int} {a0_2 : Int} {a0_3 : List (List D)} {a0_4 : List (List D)} {a1_0 : ByteArray} {a1_1 : Int} {a1_2 : Int} {a1_3 : List (List D)} {a1_4 : List (List D)} {z0 : Bool} (h : laws_eqIsle.t k a0_0 a0_1 a0_2 a0_3 a0_4 a1_0 a1_1 a1_2 a1_3 a1_4 = some z0) (K : Bool → Option β) : laws_eqIsle.f k a0_0 a0_1 a0_2 a0_3 a0_4 a1_0 a1_1 a1_2 a1_3 a1_4 K = K z0 := by
  unfold laws_eqIsle.f
  rw [h]
theorem laws_eqIsle.tm {ι α : Type} {ok : ι → Prop} {ψ : α → Prop} {p : ι → Nat} {B : Nat} (hp : ∀ i, ok i → B ≤ p i) {a0_0 : ByteArray} {a0_1 : Int} {a0_2 : Int} {a0_3 : List (List D)} {a0_4 : List (List D)} {a1_0 : ByteArray} {a1_1 : Int} {a1_2 : Int} {a1_3 : List (List D)} {a1_4 : List (List D)} {φ : Bool → Prop} (h : Tm (fun k => B ≤ k) (fun k => laws_eqIsle.t k a0_0 a0_1 a0_2 a0_3 a0_4 a1_0 a1_1 a1_2 a1_3 a1_4) φ) {G : ι → Bool → Option α} (hG : ∀ z0, φ z0 → Tm ok (fun ι0 => G ι0 z0) ψ) : Tm ok (fun ι0 => laws_eqIsle.f (p ι0) a0_0 a0_1 a0_2 a0_3 a0_4 a1_0 a1_1 a1_2 a1_3 a1_4 (G ι0)) ψ := by
  obtain ⟨z0, h1, h2⟩ := h
  exact (hG z0 h1).congr fun i0 hi0 => laws_eqIsle.f_of (h2 (p i0) (hp i0 hi0)) _
theorem laws_eqIsle.T {B : Nat} {a0_0 : ByteArray} {a0_1 : Int} {a0_2 : Int} {a0_3 : List (List D)} {a0_4 : List (List D)} (ga0_0 : a0_0.size ≤ B) (ga0_3 : Zm Ya B a0_3) (ga0_4 : Zm RII B a0_4) (hB : B ≤ 1099511627776) : Tm (Zay 1) (fun k => laws_eqIsle.t k a0_0 a0_1 a0_2 a0_3 a0_4 a0_0 a0_1 a0_2 a0_3 a0_4) (fun r => r = true) := by
  unfold laws_eqIsle.t laws_eqIsle.g
  have hm := Za
  have hlim : lim = 1048576 := rfl
  refine Tm.ite (fun h1 => ?_) (fun h1 => ?_)
  · try simp only [bz0, bz1, bz2, bz3, bz4, bz5, bz6, bz7, bz8, bz9, bza] at h1
    exact Tm.ret (by first | rfl | (exfalso; simp [Zi] at *))
  · try simp only [bz0, bz1, bz2, bz3, bz4, bz5, bz6, bz7, bz8, bz9, bza] at h1
    refine Tm.ite (fun h2 => ?_) (fun h2 => ?_)
    · try simp only [bz0, bz1, bz2, bz3, bz4, bz5, bz6, bz7, bz8, bz9, bza] at h2
      exact Tm.ret (by first | rfl | (exfalso; simp [Zi] at *))
    · try simp only [bz0, bz1, bz2, bz3, bz4, bz5, bz6, bz7, bz8, bz9, bza] at h2
      refine Tm.ite (fun h3 => ?_) (fun h3 => ?_)
      · try simp only [bz0, bz1, bz2, bz3, bz4, bz5, bz6, bz7, bz8, bz9, bza] at h3
        exact Tm.ret (by first | rfl | (exfalso; simp [Zi] at *))
      · try simp only [bz0, bz1, bz2, bz3, bz4, bz5, bz6, bz7, bz8, bz9, bza] at h3
        refine laws_eqWorkS.tm (fun i hi => hi) (laws_eqWorkS.T (by first | assumption | omega) (by first | assumption | omega)) (fun y5 hy4 => ?_)
        subst hy4
        refine Tm.ite (fun h6 => ?_) (fun h6 => ?_)
        · try simp only [bz0, bz1, bz2, bz3, bz4, bz5, bz6, bz7, bz8, bz9, bza] at h6
          exact Tm.ret (by first | rfl | (exfalso; simp [Zi] at *))
        · try simp only [bz0, bz1, bz2, bz3, bz4, bz5, bz6, bz7, bz8, bz9, bza] at h6
          refine laws_eqRunS.tm (fun i hi => up0 hi) (laws_eqRunS.T (by first | assumption | omega) (by first | assumption | omega)) (fun y8 hy7 => ?_)
          subst hy7
          refine Tm.ite (fun h9 => ?_) (fun h9 => ?_)
          · try simp only [bz0, bz1, bz2, bz3, bz4, bz5, bz6, bz7, bz8, bz9, bza] at h9
            exact Tm.ret (by first | rfl | (exfalso; simp [Zi] at *))
          · try simp only [bz0, bz1, bz2, bz3, bz4, bz5, bz6, bz7, bz8, bz9, bza] at h9
            exact Tm.ret (by first | rfl | (exfalso; simp [Zi] at *))
theorem laws_markText.f_of {β : Type} {k : Nat} {a0 : Int} {z0 : ByteArray} (h : laws_markText.t k a0 = some z0) (K : ByteArray → Option β) : laws_markText.f k a0 K = K z0 := by
  unfold laws_markText.f
  rw [h]
theorem laws_markText.tm {ι α : Type} {ok : ι → Prop} {ψ : α → Prop} {p : ι → Nat} {B : Nat} (hp : ∀ i, ok i → B ≤ p i) {a0 : Int} {φ : ByteArray → Prop} (h : Tm (fun k => B ≤ k) (fun k => laws_markText.t k a0) φ) {G : ι → ByteArray → Option α} (hG : ∀ z0, φ z0 → Tm ok (fun ι0 => G ι0 z0) ψ) : Tm ok (fun ι0 => laws_markText.f (p ι0) a0 (G ι0)) ψ := by
  obtain ⟨z0, h1, h2⟩ := h
  exact (hG z0 h1).congr fun i0 hi0 => laws_markText.f_of (h2 (p i0) (hp i0 hi0)) _
theorem laws_markText.T {a0 : Int} (h1 : a0 ≤ 4611686018427387904) : Tm Zar (fun k => laws_markText.t k a0) (fun _ => True) := by
  unfold laws_markText.t laws_markText.g
  have hb : big = 2 ^ 64 := rfl
  refine Tm.ite (fun _ => Tm.ret trivial) (fun h => ?_)
  simp only [decide_eq_false_iff_not, Int.not_le] at h
  refine Tm.loop (okk := Zar) (p := fun k => k) (fun i hi => hi) (b := fun k => laws_markText.l0 k (fun z0 => some z0)) (fun v => match v with | (u, s) => u.toNat) (fun v => match v with | (u, s) => 0 ≤ u ∧ u + s.size ≤ a0) ?_ ?_ ?_
  · rintro ⟨u, s⟩ hI
    simp only [] at hI ⊢
    omega
  · simp only []
    have : (⟨#[]⟩ : ByteArray).size = 0 := rfl
    omega
  · rintro ⟨u, s⟩ hI L hL
    simp only [] at hI
    obtain ⟨u0, u1⟩ := hI
    simp only [laws_markText.l0]
    refine Tm.ite (fun h4 => ?_) (fun h4 => ?_)
    · simp only [decide_eq_true_eq] at h4
      have e1 : ∀ x : UInt8, (⟨#[x]⟩ : ByteArray).size = 1 := fun _ => rfl
      have ed : Int.tdiv u 10 = u / 10 := Int.tdiv_eq_ediv_of_nonneg (by omega)
      refine Tm.guard (by decide) (Tm.guard (by rw [e1]; omega) (Tm.guard (by decide) ?_))
      rw [ed, ZC (x := u / 10) (by omega) (by omega)]
      refine hL (_, _) ⟨by omega, ?_⟩ (by simp only []; omega)
      rw [ByteArray.size_append, e1]
      omega
    · have e1 : (⟨#[109]⟩ : ByteArray).size = 1 := rfl
      exact Tm.guard (by rw [e1]; omega) (Tm.ret trivial)
noncomputable def laws_markText.v (a0 : Int) : ByteArray := (laws_markText.t big a0).getD default
theorem laws_markText.tv {a0 : Int} (h1 : a0 ≤ 4611686018427387904) {k : Nat} (hk : Zar k) : laws_markText.t k a0 = some (laws_markText.v a0) := (laws_markText.T h1).val hk
theorem laws_markText.fv {a0 : Int} (h1 : a0 ≤ 4611686018427387904) {k : Nat} (hk : Zar k) {β : Type} (K : ByteArray → Option β) : laws_markText.f k a0 K = K (laws_markText.v a0) := laws_markText.f_of (laws_markText.tv h1 hk) K
theorem laws_markStringS.f_of {β : Type} {k : Nat} {a0 : List (List C)} {a1 : Int} {z0 : Int} {z1 : List (List C)} (h : laws_markStringS.t k a0 a1 = some (z0, z1)) (K : Int → (List (List C)) → Option β) : laws_markStringS.f k a0 a1 K = K z0 z1 := by
  unfold laws_markStringS.f
  rw [h]
theorem laws_markStringS.tm {ι α : Type} {ok : ι → Prop} {ψ : α → Prop} {p : ι → Nat} {B : Nat} (hp : ∀ i, ok i → B ≤ p i) {a0 : List (List C)} {a1 : Int} {φ : Int × (List (List C)) → Prop} (h : Tm (fun k => B ≤ k) (fun k => laws_markStringS.t k a0 a1) φ) {G : ι → Int → (List (List C)) → Option α} (hG : ∀ z0 z1, φ (z0, z1) → Tm ok (fun ι0 => G ι0 z0 z1) ψ) : Tm ok (fun ι0 => laws_markStringS.f (p ι0) a0 a1 (G ι0)) ψ := by
  obtain ⟨⟨z0, z1⟩, h1, h2⟩ := h
  exact (hG z0 z1 h1).congr fun i0 hi0 => laws_markStringS.f_of (h2 (p i0) (hp i0 hi0)) _
theorem laws_markValueS.f_of {β : Type} {k : Nat} {a0 : List (List C)} {a1 : Int} {z0 : Int} {z1 : List (List C)} (h : laws_markValueS.t k a0 a1 = some (z0, z1)) (K : Int → (List (List C)) → Option β) : laws_markValueS.f k a0 a1 K = K z0 z1 := by
  unfold laws_markValueS.f
  unfold laws_markValueS.w
  rw [h]
theorem laws_markValueS.tm {ι α : Type} {ok : ι → Prop} {ψ : α → Prop} {p : ι → Nat} {B : Nat} (hp : ∀ i, ok i → B ≤ p i) {a0 : List (List C)} {a1 : Int} {φ : Int × (List (List C)) → Prop} (h : Tm (fun k => B ≤ k) (fun k => laws_markValueS.t k a0 a1) φ) {G : ι → Int → (List (List C)) → Option α} (hG : ∀ z0 z1, φ (z0, z1) → Tm ok (fun ι0 => G ι0 z0 z1) ψ) : Tm ok (fun ι0 => laws_markValueS.f (p ι0) a0 a1 (G ι0)) ψ := by
  obtain ⟨⟨z0, z1⟩, h1, h2⟩ := h
  exact (hG z0 z1 h1).congr fun i0 hi0 => laws_markValueS.f_of (h2 (p i0) (hp i0 hi0)) _
theorem laws_markWorkS.f_of {β : Type} {k : Nat} {a0 : List (List C)} {a1 : Int} {z0 : Int} {z1 : List (List C)} (h : laws_markWorkS.t k a0 a1 = some (z0, z1)) (K : Int → (List (List C)) → Option β) : laws_markWorkS.f k a0 a1 K = K z0 z1 := by
  unfold laws_markWorkS.f
  rw [h]
theorem laws_markWorkS.tm {ι α : Type} {ok : ι → Prop} {ψ : α → Prop} {p : ι → Nat} {B : Nat} (hp : ∀ i, ok i → B ≤ p i) {a0 : List (List C)} {a1 : Int} {φ : Int × (List (List C)) → Prop} (h : Tm (fun k => B ≤ k) (fun k => laws_markWorkS.t k a0 a1) φ) {G : ι → Int → (List (List C)) → Option α} (hG : ∀ z0 z1, φ (z0, z1) → Tm ok (fun ι0 => G ι0 z0 z1) ψ) : Tm ok (fun ι0 => laws_markWorkS.f (p ι0) a0 a1 (G ι0)) ψ := by
  obtain ⟨⟨z0, z1⟩, h1, h2⟩ := h
  exact (hG z0 z1 h1).congr fun i0 hi0 => laws_markWorkS.f_of (h2 (p i0) (hp i0 hi0)) _
theorem laws_markRunS.f_of {β : Type} {k : Nat} {a0 : List (List C)} {a1 : Int} {z0 : Int} {z1 : List (List C)} (h : laws_markRunS.t k a0 a1 = some (z0, z1)) (K : Int → (List (List C)) → Option β) : laws_markRunS.f k a0 a1 K = K z0 z1 := by
  unfold laws_markRunS.f
  rw [h]
theorem laws_markRunS.tm {ι α : Type} {ok : ι → Prop} {ψ : α → Prop} {p : ι → Nat} {B : Nat} (hp : ∀ i, ok i → B ≤ p i) {a0 : List (List C)} {a1 : Int} {φ : Int × (List (List C)) → Prop} (h : Tm (fun k => B ≤ k) (fun k => laws_markRunS.t k a0 a1) φ) {G : ι → Int → (List (List C)) → Option α} (hG : ∀ z0 z1, φ (z0, z1) → Tm ok (fun ι0 => G ι0 z0 z1) ψ) : Tm ok (fun ι0 => laws_markRunS.f (p ι0) a0 a1 (G ι0)) ψ := by
  obtain ⟨⟨z0, z1⟩, h1, h2⟩ := h
  exact (hG z0 z1 h1).congr fun i0 hi0 => laws_markRunS.f_of (h2 (p i0) (hp i0 hi0)) _
theorem laws_markIsle.f_of {β : Type} {k : Nat} {a0_0 : ByteArray} {a0_1 : Int} {a0_2 : Int} {a0_3 : List (List C)} {a0_4 : List (List C)} {a1 : Int} {z0 : Int} {z1 : List (List C)} {z2 : List (List C)} (h : laws_markIsle.t k a0_0 a0_1 a0_2 a0_3 a0_4 a1 = some (z0, z1, z2)) (K : Int → (List (List C)) → (List (List C)) → Option β) : laws_markIsle.f k a0_0 a0_1 a0_2 a0_3 a0_4 a1 K = K z0 z1 z2 := by
  unfold laws_markIsle.f
  rw [h]
theorem laws_markIsle.tm {ι α : Type} {ok : ι → Prop} {ψ : α → Prop} {p : ι → Nat} {B : Nat} (hp : ∀ i, ok i → B ≤ p i) {a0_0 : ByteArray} {a0_1 : Int} {a0_2 : Int} {a0_3 : List (List C)} {a0_4 : List (List C)} {a1 : Int} {φ : Int × (List (List C)) × (List (List C)) → Prop} (h : Tm (fun k => B ≤ k) (fun k => laws_markIsle.t k a0_0 a0_1 a0_2 a0_3 a0_4 a1) φ) {G : ι → Int → (List (List C)) → (List (List C)) → Option α} (hG : ∀ z0 z1 z2, φ (z0, z1, z2) → Tm ok (fun ι0 => G ι0 z0 z1 z2) ψ) : Tm ok (fun ι0 => laws_markIsle.f (p ι0) a0_0 a0_1 a0_2 a0_3 a0_4 a1 (G ι0)) ψ := by
  obtain ⟨⟨z0, z1, z2⟩, h1, h2⟩ := h
  exact (hG z0 z1 z2 h1).congr fun i0 hi0 => laws_markIsle.f_of (h2 (p i0) (hp i0 hi0)) _
theorem laws_heldStringS.f_of {β : Type} {k : Nat} {a0 : List (List D)} {a1 : Int} {z0 : Int} (h : laws_heldStringS.t k a0 a1 = some z0) (K : Int → Option β) : laws_heldStringS.f k a0 a1 K = K z0 := by
  unfold laws_heldStringS.f
  rw [h]
theorem laws_heldStringS.tm {ι α : Type} {ok : ι → Prop} {ψ : α → Prop} {p : ι → Nat} {B : Nat} (hp : ∀ i, ok i → B ≤ p i) {a0 : List (List D)} {a1 : Int} {φ : Int → Prop} (h : Tm (fun k => B ≤ k) (fun k => laws_heldStringS.t k a0 a1) φ) {G : ι → Int → Option α} (hG : ∀ z0, φ z0 → Tm ok (fun ι0 => G ι0 z0) ψ) : Tm ok (fun ι0 => laws_heldStringS.f (p ι0) a0 a1 (G ι0)) ψ := by
  obtain ⟨z0, h1, h2⟩ := h
  exact (hG z0 h1).congr fun i0 hi0 => laws_heldStringS.f_of (h2 (p i0) (hp i0 hi0)) _
set_option maxRecDepth 100000 in
set_option maxHeartbeats 8000000 in
theorem laws_heldStringS.step {u : Int}  (h0 : 0 ≤ u)  (h1 : u + 1 ≤ 4611686018427387904) {k : Nat} (hk : Zar k) : HStep (fun xs L v => laws_heldStringS.l0 k xs (fun z0 => some z0) L v) u [.str (laws_markText.v (u))] (u + 1) := by
  have hk0 : Zar k := hk
  intro xs i i0 i1 hl hr L
  simp (maxSteps := 4000000) (disch := first | assumption | omega) only [laws_heldStringS.l0, dec_true i1, cond_true, cond_false, ZbB i0 i1, hr, uncons_at, dInt_self, dStr_at, dBool_at, dSl_at, atEnd_at, ZC, laws_markText.fv, Zi, bne_self_eq_false, beq_self_eq_true, Bool.not_true]
set_option maxRecDepth 100000 in
set_option maxHeartbeats 8000000 in
theorem laws_markStringS.T {B : Nat} (hB : B ≤ 1099511627776) {xs : List (List D)} {n : Int} (g : Zm RS B xs) (h0 : 0 ≤ n) (h1 : n + ZE xs ≤ 4611686018427387904) : Tm Zar (fun k => laws_markStringS.t k (Zs xs) n) (fun z => ∃ ys, z.2 = Zs ys ∧ ys.length = xs.length ∧ z.1 = n + ZE xs ∧ ∀ k, Zar k → laws_heldStringS.t k ys n = some z.1) := by
  have hb : big = 2 ^ 64 := rfl
  have hl := g.1
  have key : Tm Zar (fun k => laws_markStringS.t k (Zs xs) n) (fun z => ∃ ys, z.2 = Zs ys ∧ ys.length = xs.length ∧ z.1 = n + ZE xs ∧ HeldL (fun u r u' => ∀ k, Zar k → HStep (fun xs L v => laws_heldStringS.l0 k xs (fun z0 => some z0) L v) u r u') n ys z.1) := by
    unfold laws_markStringS.t laws_markStringS.g
    refine Tm.loop (okk := Zar) (p := fun k => k) (fun i hi => hi) (b := fun k => laws_markStringS.l0 k (fun z0 z1 => some (z0, z1))) (fun v => match v with | (u, i, tab) => ((xs.length : Int) - i).toNat) (fun v => match v with | (u, i, tab) => 0 ≤ i ∧ i ≤ xs.length ∧ ∃ done : List (List D), done.length = i.toNat ∧ tab = Zs done ++ Zs (xs.drop i.toNat) ∧ u = n + ZE (xs.take i.toNat) ∧ HeldL (fun u r u' => ∀ k, Zar k → HStep (fun xs L v => laws_heldStringS.l0 k xs (fun z0 => some z0) L v) u r u') n done u) ?_ ?_ ?_
    · rintro ⟨u, i, tab⟩ hI
      simp only [] at hI ⊢
      omega
    · exact ⟨by omega, by omega, [], rfl, by simp [Zs], by simp [ZE], .nil⟩
    · rintro ⟨u, i, tab⟩ hI L hL
      simp only [] at hI
      obtain ⟨i0, i1, done, hd, rfl, hu, hH⟩ := hI
      have hA : (Zs done).length = i.toNat := by rw [deepRows_length, hd]
      have hT : (Zs done ++ Zs (xs.drop i.toNat)).length = xs.length := by rw [List.length_append, hA, deepRows_length, List.length_drop]; omega
      simp only [laws_markStringS.l0]
      refine Tm.ite (fun h4 => ?_) (fun h4 => ?_)
      · simp only [decide_eq_true_eq, hT] at h4
        have hx := gR_at i0 h4
        obtain ⟨c0, e, k0, _⟩ := (g.2 _ (gR_mem i0 h4)).open
        rw [e] at hx
        have hdr := drop_at i0 hx
        have hw := Zb4 i0 hx
        simp only [Zbi, wtD] at hw
        have hs := wt_split xs (i + 1).toNat
        rw [hdr] at hT ⊢
        simp only [Zs, Zal, deepD] at hT ⊢
        have hT2 := hT
        simp only [List.length_append, List.length_cons] at hT2
        try simp (disch := omega) only [ZC]
        refine laws_markText.tm (fun i hi => hi.1) (Tm.at (ok := Zar) (v := laws_markText.v _) (fun k hk => laws_markText.tv (by omega) hk)) (fun y hy => ?_)
        subst hy
        refine Tm.guard (by first | decide | (simp only [List.length_modify, List.length_append, List.length_cons]; omega)) ?_
        refine Tm.guard (by first | decide | (simp only [List.length_modify, List.length_append, List.length_cons]; omega)) ?_
        try simp (disch := omega) only [ZC]
        try simp only [modify_mid hA, Z1, List.take_zero, List.take_succ_cons, List.drop_succ_cons, List.drop_zero, List.nil_append, List.cons_append, List.length_cons, List.length_nil, Nat.zero_add, Nat.reduceAdd, List.set_cons_succ, List.set_cons_zero]
        refine hL (_, _, _) ⟨by omega, by omega, done ++ [[.str (laws_markText.v (u))]], by simp only [List.length_append, List.length_cons, List.length_nil]; omega, ?_, by omega, HeldL.snoc hH (fun k hk => laws_heldStringS.step (by omega) (by omega) hk)⟩ (by simp only []; omega)
        rw [Zcf]
        simp only [Zs, Zal, deepD, List.append_assoc, List.cons_append, List.nil_append]
      · simp only [decide_eq_false_iff_not, hT] at h4
        refine Tm.ret ⟨done, ?_, by omega, ?_, hH⟩
        · rw [List.drop_eq_nil_of_le (by omega)]
          simp only [Zs, List.append_nil]
        · rw [List.take_of_length_le (by omega)] at hu
          exact hu
  obtain ⟨v, ⟨ys, e1, e2, e3, hH⟩, h2⟩ := key
  exact ⟨v, ⟨ys, e1, e2, e3, fun k hk => by
    have hk0 : Zar k := hk
    unfold laws_heldStringS.t laws_heldStringS.g
    exact held_run (b := fun xs L v => laws_heldStringS.l0 k xs (fun z0 => some z0) L v) (by omega) (hH.mono fun _ _ _ h => h k hk) (by omega) (fun L => by simp [laws_heldStringS.l0])⟩, h2⟩
theorem laws_heldValueS.f_of {β : Type} {k : Nat} {a0 : List (List D)} {a1 : Int} {z0 : Int} (h : laws_heldValueS.t k a0 a1 = some z0) (K : Int → Option β) : laws_heldValueS.f k a0 a1 K = K z0 := by
  unfold laws_heldValueS.f
  unfold laws_heldValueS.w
  rw [h]
theorem laws_heldValueS.tm {ι α : Type} {ok : ι → Prop} {ψ : α → Prop} {p : ι → Nat} {B : Nat} (hp : ∀ i, ok i → B ≤ p i) {a0 : List (List D)} {a1 : Int} {φ : Int → Prop} (h : Tm (fun k => B ≤ k) (fun k => laws_heldValueS.t k a0 a1) φ) {G : ι → Int → Option α} (hG : ∀ z0, φ z0 → Tm ok (fun ι0 => G ι0 z0) ψ) : Tm ok (fun ι0 => laws_heldValueS.f (p ι0) a0 a1 (G ι0)) ψ := by
  obtain ⟨z0, h1, h2⟩ := h
  exact (hG z0 h1).congr fun i0 hi0 => laws_heldValueS.f_of (h2 (p i0) (hp i0 hi0)) _
theorem laws_heldValueS.step {N : Nat} {u : Int} {ys3 : List (List D)} {n3 : Int} {ys4 : List (List D)} {n4 : Int} (h0 : 0 ≤ u) (hn3 : u + 1 + 1 + 1 ≤ n3) (hh3 : ∀ k, Zar k → laws_heldStringS.t k ys3 (u + 1 + 1 + 1) = some n3) (hn4 : n3 ≤ n4) (hh4 : ∀ k, N ≤ k → laws_heldValueS.t k ys4 (n3) = some n4) (h1 : n4 ≤ 4611686018427387904) {k : Nat} (hk : N ≤ k) (hk0 : Zar k) : HStep (fun xs L v => laws_heldValueS.l0 k (laws_heldValueS.f k) xs (fun z0 => some z0) L v) u [.int .i64 (u), .str (laws_markText.v (u + 1)), .int .i64 (u + 1 + 1), .sl ys3, .sl ys4] (n4) := by
  intro xs i i0 i1 hl hr L
  simp (disch := first | assumption | omega) only [laws_heldValueS.l0, dec_true i1, cond_true, cond_false, ZbB i0 i1, hr, uncons_at, dInt_self, dStr_at, dBool_at, dSl_at, atEnd_at, ZC, laws_markText.fv, Zi, bne_self_eq_false, beq_self_eq_true, Bool.not_true, laws_heldStringS.f_of (hh3 k hk0), dec_false (show ¬ n3 < 0 by omega), laws_heldValueS.f_of (hh4 k hk), dec_false (show ¬ n4 < 0 by omega)]
theorem markVal {B : Nat} (hB : B ≤ 1099511627776) (h : Nat) : ∀ {xs : List (List D)} {n : Int}, xs.length ≤ B → (∀ r ∈ xs, Yc B h r) → 0 ≤ n → n + ZE xs ≤ 4611686018427387904 → Tm (fun k => big + h + 1 ≤ k) (fun k => laws_markValueS.t k (Zs xs) n) (fun z => ∃ ys, z.2 = Zs ys ∧ ys.length = xs.length ∧ z.1 = n + ZE xs ∧ ∀ k, big + h + 1 ≤ k → laws_heldValueS.t k ys n = some z.1) := by
  have hb : big = 2 ^ 64 := rfl
  induction h using Nat.strongRecOn with
  | ind h ih =>
  intro xs n hl g h0 h1
  have key : Tm (fun k => big + h ≤ k) (fun k => laws_markValueS.g k (Zs xs) n (fun z0 z1 => some (z0, z1))) (fun z => ∃ ys, z.2 = Zs ys ∧ ys.length = xs.length ∧ z.1 = n + ZE xs ∧ HeldL (fun u r u' => ∀ k, big + h ≤ k → HStep (fun xs L v => laws_heldValueS.l0 k (laws_heldValueS.f k) xs (fun z0 => some z0) L v) u r u') n ys z.1) := by
    unfold laws_markValueS.g laws_markValueS.body
    refine Tm.loop (okk := fun k => big + h ≤ k) (p := fun k => k) (fun i hi => by omega) (b := fun k => laws_markValueS.l0 k (laws_markValueS.f k) (fun z0 z1 => some (z0, z1))) (fun v => match v with | (u, i, tab) => ((xs.length : Int) - i).toNat) (fun v => match v with | (u, i, tab) => 0 ≤ i ∧ i ≤ xs.length ∧ ∃ done : List (List D), done.length = i.toNat ∧ tab = Zs done ++ Zs (xs.drop i.toNat) ∧ u = n + ZE (xs.take i.toNat) ∧ HeldL (fun u r u' => ∀ k, big + h ≤ k → HStep (fun xs L v => laws_heldValueS.l0 k (laws_heldValueS.f k) xs (fun z0 => some z0) L v) u r u') n done u) ?_ ?_ ?_
    · rintro ⟨u, i, tab⟩ hI
      simp only [] at hI ⊢
      omega
    · exact ⟨by omega, by omega, [], rfl, by simp [Zs], by simp [ZE], .nil⟩
    · rintro ⟨u, i, tab⟩ hI L hL
      simp only [] at hI
      obtain ⟨i0, i1, done, hd, rfl, hu, hH⟩ := hI
      have hA : (Zs done).length = i.toNat := by rw [deepRows_length, hd]
      have hT : (Zs done ++ Zs (xs.drop i.toNat)).length = xs.length := by rw [List.length_append, hA, deepRows_length, List.length_drop]; omega
      simp only [laws_markValueS.l0]
      refine Tm.ite (fun h4 => ?_) (fun h4 => ?_)
      · simp only [decide_eq_true_eq, hT] at h4
        have hx := gR_at i0 h4
        obtain ⟨h', hh', c0, c1, c2, c3, c4, e, k3, l4, k4⟩ : ∃ h', h = h' + 1 ∧ ∃ c0 c1 c2 c3 c4, gR xs i = [.int .i64 c0, .str c1, .int .i64 c2, .sl c3, .sl c4] ∧ Zm RS B c3 ∧ c4.length ≤ B ∧ ∀ r ∈ c4, Yc B h' r := by
          have := g _ (gR_mem i0 h4)
          generalize gR xs i = r at this
          cases this with
          | mk c0 c1 c2 c3 c4 w0 g1 w2 g3 l4 g4 => exact ⟨_, rfl, _, _, _, _, _, rfl, g3, l4, g4⟩
        rw [e] at hx
        have hdr := drop_at i0 hx
        have hw := Zb4 i0 hx
        simp only [Zbi, wtD] at hw
        have hs := wt_split xs (i + 1).toNat
        rw [hdr] at hT ⊢
        simp only [Zs, Zal, deepD] at hT ⊢
        have hT2 := hT
        simp only [List.length_append, List.length_cons] at hT2
        refine Tm.guard (by first | decide | (simp only [List.length_modify, List.length_append, List.length_cons]; omega)) ?_
        refine Tm.guard (by first | decide | (simp only [List.length_modify, List.length_append, List.length_cons]; omega)) ?_
        try simp (disch := omega) only [ZC]
        refine laws_markText.tm (B := big) (fun i hi => by have := hi.1; omega) (Tm.at (ok := Zar) (v := laws_markText.v _) (fun k hk => laws_markText.tv (by omega) hk)) (fun y hy => ?_)
        subst hy
        refine Tm.guard (by first | decide | (simp only [List.length_modify, List.length_append, List.length_cons]; omega)) ?_
        refine Tm.guard (by first | decide | (simp only [List.length_modify, List.length_append, List.length_cons]; omega)) ?_
        refine Tm.guard (by first | decide | (simp only [List.length_modify, List.length_append, List.length_cons]; omega)) ?_
        refine Tm.guard (by first | decide | (simp only [List.length_modify, List.length_append, List.length_cons]; omega)) ?_
        refine Tm.guard (by first | decide | (simp only [List.length_modify, List.length_append, List.length_cons]; omega)) ?_
        try simp only [modify_mid hA, atNat_mid hA, Z1, List.take_zero, List.take_succ_cons, List.drop_succ_cons, List.drop_zero, List.nil_append, List.cons_append, List.length_cons, List.length_nil, Nat.zero_add, Nat.reduceAdd, List.set_cons_succ, List.set_cons_zero]
        refine Tm.uncons ?_
        refine Tm.cOwn ?_
        try simp (disch := omega) only [ZC]
        refine laws_markStringS.tm (B := big) (fun i hi => by have := hi.1; omega) (laws_markStringS.T hB k3 (by omega) (by omega)) (fun y3 t3 hy => ?_)
        obtain ⟨ys3, et3, el3, en3, hh3⟩ := hy
        simp only [] at et3 en3 hh3
        subst et3 en3
        refine Tm.guard (by first | decide | (simp only [List.length_modify, List.length_append, List.length_cons]; omega)) ?_
        try simp only [modify_mid hA, atNat_mid hA, Z1, List.take_zero, List.take_succ_cons, List.drop_succ_cons, List.drop_zero, List.nil_append, List.cons_append, List.length_cons, List.length_nil, Nat.zero_add, Nat.reduceAdd, List.set_cons_succ, List.set_cons_zero]
        refine Tm.uncons ?_
        refine Tm.cOwn ?_
        try simp (disch := omega) only [ZC]
        refine laws_markValueS.tm (B := big + h' + 1) (fun i hi => by have := hi.1; omega) (ih h' (by omega) l4 k4 (by omega) (by omega)) (fun y4 t4 hy => ?_)
        obtain ⟨ys4, et4, el4, en4, hh4⟩ := hy
        simp only [] at et4 en4 hh4
        subst et4 en4
        try simp (disch := omega) only [ZC]
        try simp only [modify_mid hA, Z1, List.take_zero, List.take_succ_cons, List.drop_succ_cons, List.drop_zero, List.nil_append, List.cons_append, List.length_cons, List.length_nil, Nat.zero_add, Nat.reduceAdd, List.set_cons_succ, List.set_cons_zero]
        refine hL (_, _, _) ⟨by omega, by omega, done ++ [[.int .i64 (u), .str (laws_markText.v (u + 1)), .int .i64 (u + 1 + 1), .sl ys3, .sl ys4]], by simp only [List.length_append, List.length_cons, List.length_nil]; omega, ?_, by omega, HeldL.snoc hH (fun k hk => laws_heldValueS.step (by omega) (by omega) hh3 (by omega) hh4 (by omega) (by omega) (by unfold Zar; omega))⟩ (by simp only []; omega)
        rw [Zcf]
        simp only [Zs, Zal, deepD, List.append_assoc, List.cons_append, List.nil_append]
      · simp only [decide_eq_false_iff_not, hT] at h4
        refine Tm.ret ⟨done, ?_, by omega, ?_, hH⟩
        · rw [List.drop_eq_nil_of_le (by omega)]
          simp only [Zs, List.append_nil]
        · rw [List.take_of_length_le (by omega)] at hu
          exact hu
  refine Tm.succ (g := fun k => laws_markValueS.g k (Zs xs) n (fun z0 z1 => some (z0, z1))) (fun k => laws_markValueS.t_succ k (Zs xs) n) ?_
  refine key.mono fun z hz => ?_
  obtain ⟨ys, e1, e2, e3, hH⟩ := hz
  refine ⟨ys, e1, e2, e3, fun k hk => ?_⟩
  cases k with
  | zero => omega
  | succ k =>
    rw [laws_heldValueS.t_succ]
    unfold laws_heldValueS.g laws_heldValueS.body
    exact held_run (b := fun xs L v => laws_heldValueS.l0 k (laws_heldValueS.f k) xs (fun z0 => some z0) L v) (by omega) (hH.mono fun _ _ _ h => h k (by omega)) (by omega) (fun L => by simp [laws_heldValueS.l0])
theorem laws_markValueS.T {B : Nat} (hB : B ≤ 1099511627776) {xs : List (List D)} {n : Int} (g : Zm Yb B xs) (h0 : 0 ≤ n) (h1 : n + ZE xs ≤ 4611686018427387904) : Tm (Zay 1) (fun k => laws_markValueS.t k (Zs xs) n) (fun z => ∃ ys, z.2 = Zs ys ∧ ys.length = xs.length ∧ z.1 = n + ZE xs ∧ ∀ k, (Zay 1) k → laws_heldValueS.t k ys n = some z.1) := by
  have hb : big = 2 ^ 64 := rfl
  have h2 : lv 1 = 2 ^ 65 := rfl
  obtain ⟨H, hH⟩ : ∃ H : Nat, H = 1099511627776 := ⟨_, rfl⟩
  have g' : ∀ x ∈ xs, Yc B H x := fun x hx => by
    obtain ⟨h, hh, hx⟩ := g.2 x hx
    exact hx.mono (by have := hh hB; omega)
  have hN : big + H + 1 ≤ lv 1 := by omega
  refine ((markVal hB H g.1 g' h0 h1).up hN).mono fun z hz => ?_
  obtain ⟨ys, e1, e2, e3, hh⟩ := hz
  exact ⟨ys, e1, e2, e3, fun k hk => hh k (Nat.le_trans hN hk)⟩
theorem laws_heldWorkS.f_of {β : Type} {k : Nat} {a0 : List (List D)} {a1 : Int} {z0 : Int} (h : laws_heldWorkS.t k a0 a1 = some z0) (K : Int → Option β) : laws_heldWorkS.f k a0 a1 K = K z0 := by
  unfold laws_heldWorkS.f
  rw [h]
theorem laws_heldWorkS.tm {ι α : Type} {ok : ι → Prop} {ψ : α → Prop} {p : ι → Nat} {B : Nat} (hp : ∀ i, ok i → B ≤ p i) {a0 : List (List D)} {a1 : Int} {φ : Int → Prop} (h : Tm (fun k => B ≤ k) (fun k => laws_heldWorkS.t k a0 a1) φ) {G : ι → Int → Option α} (hG : ∀ z0, φ z0 → Tm ok (fun ι0 => G ι0 z0) ψ) : Tm ok (fun ι0 => laws_heldWorkS.f (p ι0) a0 a1 (G ι0)) ψ := by
  obtain ⟨z0, h1, h2⟩ := h
  exact (hG z0 h1).congr fun i0 hi0 => laws_heldWorkS.f_of (h2 (p i0) (hp i0 hi0)) _
set_option maxRecDepth 100000 in
set_option maxHeartbeats 8000000 in
theorem laws_heldWorkS.step {u : Int} {ys5 : List (List D)} {n5 : Int} {ys6 : List (List D)} {n6 : Int} (h0 : 0 ≤ u) (hn5 : u + 1 + 1 + 1 + 1 + 1 ≤ n5) (hh5 : ∀ k, Zar k → laws_heldStringS.t k ys5 (u + 1 + 1 + 1 + 1 + 1) = some n5) (hn6 : n5 ≤ n6) (hh6 : ∀ k, (Zay 1) k → laws_heldValueS.t k ys6 (n5) = some n6) (h1 : n6 ≤ 4611686018427387904) {k : Nat} (hk : (Zay 1) k) : HStep (fun xs L v => laws_heldWorkS.l0 k xs (fun z0 => some z0) L v) u [.int .i64 (u), .int .i64 (u + 1), .int .i64 (u + 1 + 1), .str (laws_markText.v (u + 1 + 1 + 1)), .int .i64 (u + 1 + 1 + 1 + 1), .sl ys5, .sl ys6] (n6) := by
  have hk0 : Zar k := up0 hk
  intro xs i i0 i1 hl hr L
  simp (maxSteps := 4000000) (disch := first | assumption | omega) only [laws_heldWorkS.l0, dec_true i1, cond_true, cond_false, ZbB i0 i1, hr, uncons_at, dInt_self, dStr_at, dBool_at, dSl_at, atEnd_at, ZC, laws_markText.fv, Zi, bne_self_eq_false, beq_self_eq_true, Bool.not_true, laws_heldStringS.f_of (hh5 k (up0 hk)), dec_false (show ¬ n5 < 0 by omega), laws_heldValueS.f_of (hh6 k hk), dec_false (show ¬ n6 < 0 by omega)]
set_option maxRecDepth 100000 in
set_option maxHeartbeats 8000000 in
theorem laws_markWorkS.T {B : Nat} (hB : B ≤ 1099511627776) {xs : List (List D)} {n : Int} (g : Zm Ya B xs) (h0 : 0 ≤ n) (h1 : n + ZE xs ≤ 4611686018427387904) : Tm (Zay 1) (fun k => laws_markWorkS.t k (Zs xs) n) (fun z => ∃ ys, z.2 = Zs ys ∧ ys.length = xs.length ∧ z.1 = n + ZE xs ∧ ∀ k, (Zay 1) k → laws_heldWorkS.t k ys n = some z.1) := by
  have hb : big = 2 ^ 64 := rfl
  have hl := g.1
  have key : Tm (Zay 1) (fun k => laws_markWorkS.t k (Zs xs) n) (fun z => ∃ ys, z.2 = Zs ys ∧ ys.length = xs.length ∧ z.1 = n + ZE xs ∧ HeldL (fun u r u' => ∀ k, (Zay 1) k → HStep (fun xs L v => laws_heldWorkS.l0 k xs (fun z0 => some z0) L v) u r u') n ys z.1) := by
    unfold laws_markWorkS.t laws_markWorkS.g
    refine Tm.loop (okk := (Zay 1)) (p := fun k => k) (fun i hi => up0 hi) (b := fun k => laws_markWorkS.l0 k (fun z0 z1 => some (z0, z1))) (fun v => match v with | (u, i, tab) => ((xs.length : Int) - i).toNat) (fun v => match v with | (u, i, tab) => 0 ≤ i ∧ i ≤ xs.length ∧ ∃ done : List (List D), done.length = i.toNat ∧ tab = Zs done ++ Zs (xs.drop i.toNat) ∧ u = n + ZE (xs.take i.toNat) ∧ HeldL (fun u r u' => ∀ k, (Zay 1) k → HStep (fun xs L v => laws_heldWorkS.l0 k xs (fun z0 => some z0) L v) u r u') n done u) ?_ ?_ ?_
    · rintro ⟨u, i, tab⟩ hI
      simp only [] at hI ⊢
      omega
    · exact ⟨by omega, by omega, [], rfl, by simp [Zs], by simp [ZE], .nil⟩
    · rintro ⟨u, i, tab⟩ hI L hL
      simp only [] at hI
      obtain ⟨i0, i1, done, hd, rfl, hu, hH⟩ := hI
      have hA : (Zs done).length = i.toNat := by rw [deepRows_length, hd]
      have hT : (Zs done ++ Zs (xs.drop i.toNat)).length = xs.length := by rw [List.length_append, hA, deepRows_length, List.length_drop]; omega
      simp only [laws_markWorkS.l0]
      refine Tm.ite (fun h4 => ?_) (fun h4 => ?_)
      · simp only [decide_eq_true_eq, hT] at h4
        have hx := gR_at i0 h4
        obtain ⟨c0, c1, c2, c3, c4, c5, c6, e, k0, k1, k2, k3, k4, k5, k6, _⟩ := (g.2 _ (gR_mem i0 h4)).open
        rw [e] at hx
        have hdr := drop_at i0 hx
        have hw := Zb4 i0 hx
        simp only [Zbi, wtD] at hw
        have hs := wt_split xs (i + 1).toNat
        rw [hdr] at hT ⊢
        simp only [Zs, Zal, deepD] at hT ⊢
        have hT2 := hT
        simp only [List.length_append, List.length_cons] at hT2
        refine Tm.guard (by first | decide | (simp only [List.length_modify, List.length_append, List.length_cons]; omega)) ?_
        refine Tm.guard (by first | decide | (simp only [List.length_modify, List.length_append, List.length_cons]; omega)) ?_
        refine Tm.guard (by first | decide | (simp only [List.length_modify, List.length_append, List.length_cons]; omega)) ?_
        refine Tm.guard (by first | decide | (simp only [List.length_modify, List.length_append, List.length_cons]; omega)) ?_
        refine Tm.guard (by first | decide | (simp only [List.length_modify, List.length_append, List.length_cons]; omega)) ?_
        refine Tm.guard (by first | decide | (simp only [List.length_modify, List.length_append, List.length_cons]; omega)) ?_
        try simp (disch := omega) only [ZC]
        refine laws_markText.tm (fun i hi => up0 hi.1) (Tm.at (ok := Zar) (v := laws_markText.v _) (fun k hk => laws_markText.tv (by omega) hk)) (fun y hy => ?_)
        subst hy
        refine Tm.guard (by first | decide | (simp only [List.length_modify, List.length_append, List.length_cons]; omega)) ?_
        refine Tm.guard (by first | decide | (simp only [List.length_modify, List.length_append, List.length_cons]; omega)) ?_
        refine Tm.guard (by first | decide | (simp only [List.length_modify, List.length_append, List.length_cons]; omega)) ?_
        refine Tm.guard (by first | decide | (simp only [List.length_modify, List.length_append, List.length_cons]; omega)) ?_
        refine Tm.guard (by first | decide | (simp only [List.length_modify, List.length_append, List.length_cons]; omega)) ?_
        try simp only [modify_mid hA, atNat_mid hA, Z1, List.take_zero, List.take_succ_cons, List.drop_succ_cons, List.drop_zero, List.nil_append, List.cons_append, List.length_cons, List.length_nil, Nat.zero_add, Nat.reduceAdd, List.set_cons_succ, List.set_cons_zero]
        refine Tm.uncons ?_
        refine Tm.cOwn ?_
        try simp (disch := omega) only [ZC]
        refine laws_markStringS.tm (fun i hi => up0 hi.1) (laws_markStringS.T hB k5 (by omega) (by omega)) (fun y5 t5 hy => ?_)
        obtain ⟨ys5, et5, el5, en5, hh5⟩ := hy
        simp only [] at et5 en5 hh5
        subst et5 en5
        refine Tm.guard (by first | decide | (simp only [List.length_modify, List.length_append, List.length_cons]; omega)) ?_
        try simp only [modify_mid hA, atNat_mid hA, Z1, List.take_zero, List.take_succ_cons, List.drop_succ_cons, List.drop_zero, List.nil_append, List.cons_append, List.length_cons, List.length_nil, Nat.zero_add, Nat.reduceAdd, List.set_cons_succ, List.set_cons_zero]
        refine Tm.uncons ?_
        refine Tm.cOwn ?_
        try simp (disch := omega) only [ZC]
        refine laws_markValueS.tm (fun i hi => hi.1) (laws_markValueS.T hB k6 (by omega) (by omega)) (fun y6 t6 hy => ?_)
        obtain ⟨ys6, et6, el6, en6, hh6⟩ := hy
        simp only [] at et6 en6 hh6
        subst et6 en6
        try simp (disch := omega) only [ZC]
        try simp only [modify_mid hA, Z1, List.take_zero, List.take_succ_cons, List.drop_succ_cons, List.drop_zero, List.nil_append, List.cons_append, List.length_cons, List.length_nil, Nat.zero_add, Nat.reduceAdd, List.set_cons_succ, List.set_cons_zero]
        refine hL (_, _, _) ⟨by omega, by omega, done ++ [[.int .i64 (u), .int .i64 (u + 1), .int .i64 (u + 1 + 1), .str (laws_markText.v (u + 1 + 1 + 1)), .int .i64 (u + 1 + 1 + 1 + 1), .sl ys5, .sl ys6]], by simp only [List.length_append, List.length_cons, List.length_nil]; omega, ?_, by omega, HeldL.snoc hH (fun k hk => laws_heldWorkS.step (by omega) (by omega) hh5 (by omega) hh6 (by omega) hk)⟩ (by simp only []; omega)
        rw [Zcf]
        simp only [Zs, Zal, deepD, List.append_assoc, List.cons_append, List.nil_append]
      · simp only [decide_eq_false_iff_not, hT] at h4
        refine Tm.ret ⟨done, ?_, by omega, ?_, hH⟩
        · rw [List.drop_eq_nil_of_le (by omega)]
          simp only [Zs, List.append_nil]
        · rw [List.take_of_length_le (by omega)] at hu
          exact hu
  obtain ⟨v, ⟨ys, e1, e2, e3, hH⟩, h2⟩ := key
  exact ⟨v, ⟨ys, e1, e2, e3, fun k hk => by
    have hk0 : Zar k := up0 hk
    unfold laws_heldWorkS.t laws_heldWorkS.g
    exact held_run (b := fun xs L v => laws_heldWorkS.l0 k xs (fun z0 => some z0) L v) (by omega) (hH.mono fun _ _ _ h => h k hk) (by omega) (fun L => by simp [laws_heldWorkS.l0])⟩, h2⟩
theorem laws_heldRunS.f_of {β : Type} {k : Nat} {a0 : List (List D)} {a1 : Int} {z0 : Int} (h : laws_heldRunS.t k a0 a1 = some z0) (K : Int → Option β) : laws_heldRunS.f k a0 a1 K = K z0 := by
  unfold laws_heldRunS.f
  rw [h]
theorem laws_heldRunS.tm {ι α : Type} {ok : ι → Prop} {ψ : α → Prop} {p : ι → Nat} {B : Nat} (hp : ∀ i, ok i → B ≤ p i) {a0 : List (List D)} {a1 : Int} {φ : Int → Prop} (h : Tm (fun k => B ≤ k) (fun k => laws_heldRunS.t k a0 a1) φ) {G : ι → Int → Option α} (hG : ∀ z0, φ z0 → Tm ok (fun ι0 => G ι0 z0) ψ) : Tm ok (fun ι0 => laws_heldRunS.f (p ι0) a0 a1 (G ι0)) ψ := by
  obtain ⟨z0, h1, h2⟩ := h
  exact (hG z0 h1).congr fun i0 hi0 => laws_heldRunS.f_of (h2 (p i0) (hp i0 hi0)) _
set_option maxRecDepth 100000 in
set_option maxHeartbeats 8000000 in
theorem laws_heldRunS.step {u : Int}  (h0 : 0 ≤ u)  (h1 : u + 1 + 1 ≤ 4611686018427387904) {k : Nat} (hk : Zar k) : HStep (fun xs L v => laws_heldRunS.l0 k xs (fun z0 => some z0) L v) u [.int .i64 (u), .int .i64 (u + 1)] (u + 1 + 1) := by
  have hk0 : Zar k := hk
  intro xs i i0 i1 hl hr L
  simp (maxSteps := 4000000) (disch := first | assumption | omega) only [laws_heldRunS.l0, dec_true i1, cond_true, cond_false, ZbB i0 i1, hr, uncons_at, dInt_self, dStr_at, dBool_at, dSl_at, atEnd_at, ZC, laws_markText.fv, Zi, bne_self_eq_false, beq_self_eq_true, Bool.not_true]
set_option maxRecDepth 100000 in
set_option maxHeartbeats 8000000 in
theorem laws_markRunS.T {B : Nat} (hB : B ≤ 1099511627776) {xs : List (List D)} {n : Int} (g : Zm RII B xs) (h0 : 0 ≤ n) (h1 : n + ZE xs ≤ 4611686018427387904) : Tm Zar (fun k => laws_markRunS.t k (Zs xs) n) (fun z => ∃ ys, z.2 = Zs ys ∧ ys.length = xs.length ∧ z.1 = n + ZE xs ∧ ∀ k, Zar k → laws_heldRunS.t k ys n = some z.1) := by
  have hb : big = 2 ^ 64 := rfl
  have hl := g.1
  have key : Tm Zar (fun k => laws_markRunS.t k (Zs xs) n) (fun z => ∃ ys, z.2 = Zs ys ∧ ys.length = xs.length ∧ z.1 = n + ZE xs ∧ HeldL (fun u r u' => ∀ k, Zar k → HStep (fun xs L v => laws_heldRunS.l0 k xs (fun z0 => some z0) L v) u r u') n ys z.1) := by
    unfold laws_markRunS.t laws_markRunS.g
    refine Tm.loop (okk := Zar) (p := fun k => k) (fun i hi => hi) (b := fun k => laws_markRunS.l0 k (fun z0 z1 => some (z0, z1))) (fun v => match v with | (u, i, tab) => ((xs.length : Int) - i).toNat) (fun v => match v with | (u, i, tab) => 0 ≤ i ∧ i ≤ xs.length ∧ ∃ done : List (List D), done.length = i.toNat ∧ tab = Zs done ++ Zs (xs.drop i.toNat) ∧ u = n + ZE (xs.take i.toNat) ∧ HeldL (fun u r u' => ∀ k, Zar k → HStep (fun xs L v => laws_heldRunS.l0 k xs (fun z0 => some z0) L v) u r u') n done u) ?_ ?_ ?_
    · rintro ⟨u, i, tab⟩ hI
      simp only [] at hI ⊢
      omega
    · exact ⟨by omega, by omega, [], rfl, by simp [Zs], by simp [ZE], .nil⟩
    · rintro ⟨u, i, tab⟩ hI L hL
      simp only [] at hI
      obtain ⟨i0, i1, done, hd, rfl, hu, hH⟩ := hI
      have hA : (Zs done).length = i.toNat := by rw [deepRows_length, hd]
      have hT : (Zs done ++ Zs (xs.drop i.toNat)).length = xs.length := by rw [List.length_append, hA, deepRows_length, List.length_drop]; omega
      simp only [laws_markRunS.l0]
      refine Tm.ite (fun h4 => ?_) (fun h4 => ?_)
      · simp only [decide_eq_true_eq, hT] at h4
        have hx := gR_at i0 h4
        obtain ⟨c0, c1, e, k0, k1, _⟩ := (g.2 _ (gR_mem i0 h4)).open
        rw [e] at hx
        have hdr := drop_at i0 hx
        have hw := Zb4 i0 hx
        simp only [Zbi, wtD] at hw
        have hs := wt_split xs (i + 1).toNat
        rw [hdr] at hT ⊢
        simp only [Zs, Zal, deepD] at hT ⊢
        have hT2 := hT
        simp only [List.length_append, List.length_cons] at hT2
        refine Tm.guard (by first | decide | (simp only [List.length_modify, List.length_append, List.length_cons]; omega)) ?_
        refine Tm.guard (by first | decide | (simp only [List.length_modify, List.length_append, List.length_cons]; omega)) ?_
        refine Tm.guard (by first | decide | (simp only [List.length_modify, List.length_append, List.length_cons]; omega)) ?_
        refine Tm.guard (by first | decide | (simp only [List.length_modify, List.length_append, List.length_cons]; omega)) ?_
        try simp (disch := omega) only [ZC]
        try simp only [modify_mid hA, Z1, List.take_zero, List.take_succ_cons, List.drop_succ_cons, List.drop_zero, List.nil_append, List.cons_append, List.length_cons, List.length_nil, Nat.zero_add, Nat.reduceAdd, List.set_cons_succ, List.set_cons_zero]
        refine hL (_, _, _) ⟨by omega, by omega, done ++ [[.int .i64 (u), .int .i64 (u + 1)]], by simp only [List.length_append, List.length_cons, List.length_nil]; omega, ?_, by omega, HeldL.snoc hH (fun k hk => laws_heldRunS.step (by omega) (by omega) hk)⟩ (by simp only []; omega)
        rw [Zcf]
        simp only [Zs, Zal, deepD, List.append_assoc, List.cons_append, List.nil_append]
      · simp only [decide_eq_false_iff_not, hT] at h4
        refine Tm.ret ⟨done, ?_, by omega, ?_, hH⟩
        · rw [List.drop_eq_nil_of_le (by omega)]
          simp only [Zs, List.append_nil]
        · rw [List.take_of_length_le (by omega)] at hu
          exact hu
  obtain ⟨v, ⟨ys, e1, e2, e3, hH⟩, h2⟩ := key
  exact ⟨v, ⟨ys, e1, e2, e3, fun k hk => by
    have hk0 : Zar k := hk
    unfold laws_heldRunS.t laws_heldRunS.g
    exact held_run (b := fun xs L v => laws_heldRunS.l0 k xs (fun z0 => some z0) L v) (by omega) (hH.mono fun _ _ _ h => h k hk) (by omega) (fun L => by simp [laws_heldRunS.l0])⟩, h2⟩
theorem laws_heldIsle.f_of {β : Type} {k : Nat} {a0_0 : ByteArray} {a0_1 : Int} {a0_2 : Int} {a0_3 : List (List D)} {a0_4 : List (List D)} {a1 : Int} {z0 : Int} (h : laws_heldIsle.t k a0_0 a0_1 a0_2 a0_3 a0_4 a1 = some z0) (K : Int → Option β) : laws_heldIsle.f k a0_0 a0_1 a0_2 a0_3 a0_4 a1 K = K z0 := by
  unfold laws_heldIsle.f
  rw [h]
theorem laws_heldIsle.tm {ι α : Type} {ok : ι → Prop} {ψ : α → Prop} {p : ι → Nat} {B : Nat} (hp : ∀ i, ok i → B ≤ p i) {a0_0 : ByteArray} {a0_1 : Int} {a0_2 : Int} {a0_3 : List (List D)} {a0_4 : List (List D)} {a1 : Int} {φ : Int → Prop} (h : Tm (fun k => B ≤ k) (fun k => laws_heldIsle.t k a0_0 a0_1 a0_2 a0_3 a0_4 a1) φ) {G : ι → Int → Option α} (hG : ∀ z0, φ z0 → Tm ok (fun ι0 => G ι0 z0) ψ) : Tm ok (fun ι0 => laws_heldIsle.f (p ι0) a0_0 a0_1 a0_2 a0_3 a0_4 a1 (G ι0)) ψ := by
  obtain ⟨z0, h1, h2⟩ := h
  exact (hG z0 h1).congr fun i0 hi0 => laws_heldIsle.f_of (h2 (p i0) (hp i0 hi0)) _
set_option maxRecDepth 100000 in
set_option maxHeartbeats 8000000 in
theorem laws_markIsle.T {B : Nat} (hB : B ≤ 1099511627776) {c0 : ByteArray} {c1 : Int} {c2 : Int} {a3 a4 : List (List D)} {n : Int} (g3 : Zm Ya B a3) (g4 : Zm RII B a4) (h0 : 0 ≤ n) (h1 : n + ZE a3 + ZE a4 ≤ 4611686018427387904) : Tm (Zay 1) (fun k => laws_markIsle.t k c0 c1 c2 (Zs a3) (Zs a4) n) (fun z => ∃ ys3 ys4, z.1 = n + ZE a3 + ZE a4 ∧ z.2.1 = Zs ys3 ∧ z.2.2 = Zs ys4 ∧ ys3.length = a3.length ∧ ys4.length = a4.length ∧ ∀ k, (Zay 1) k → laws_heldIsle.t k c0 c1 c2 ys3 ys4 n = some z.1) := by
  unfold laws_markIsle.t laws_markIsle.g
  refine laws_markWorkS.tm (fun i hi => hi) (laws_markWorkS.T hB g3 (by omega) (by omega)) (fun y3 t3 hy => ?_)
  obtain ⟨ys3, et3, el3, en3, hh3⟩ := hy
  simp only [] at et3 en3 hh3
  subst et3 en3
  try refine Tm.guard (by rw [deepRows_length, deepRows_length]; exact el3) ?_
  refine laws_markRunS.tm (fun i hi => up0 hi) (laws_markRunS.T hB g4 (by omega) (by omega)) (fun y4 t4 hy => ?_)
  obtain ⟨ys4, et4, el4, en4, hh4⟩ := hy
  simp only [] at et4 en4 hh4
  subst et4 en4
  try refine Tm.guard (by rw [deepRows_length, deepRows_length]; exact el4) ?_
  exact Tm.ret ⟨ys3, ys4, rfl, rfl, rfl, el3, el4, fun k hk => by
    unfold laws_heldIsle.t laws_heldIsle.g
    rw [laws_heldWorkS.f_of (hh3 k hk)]; simp only [dec_false (show ¬ (n + (ZE a3 : Int)) < 0 by omega), cond_false]
    rw [laws_heldRunS.f_of (hh4 k (up0 hk))]; simp only [dec_false (show ¬ (n + (ZE a3 : Int) + (ZE a4 : Int)) < 0 by omega), cond_false]⟩
end Go.Proofs.Ytljkbknnnpjmgaa
