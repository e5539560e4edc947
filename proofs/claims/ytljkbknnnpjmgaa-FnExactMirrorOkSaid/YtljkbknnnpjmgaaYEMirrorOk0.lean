/- Printed, and by hand: the functions that FnExactMirrorOk reaches come to their end; the program's answer as the reference's. -/
import Derived.Test.YtljkbknnnpjmgaaXEMirrorOk1
import Derived.KernelRfl
set_option linter.unusedVariables false
set_option linter.unusedSimpArgs false
namespace Go.Proofs.Ytljkbknnnpjmgaa
open Go Go.T Go.Proofs
theorem ZaW (n : Int) : n = 1 ∨ n = 2 ∨ n = 3 ∨ n = 4 ∨ n = 5 ∨ ((n == 1) = false ∧ (n == 2) = false ∧ (n == 3) = false ∧ (n == 4) = false ∧ (n == 5) = false) := by
  simp only [beq_eq_false_iff_ne]
  omega
theorem laws_szStringS.f_of {β : Type} {k : Nat} {a0 : List (List D)} {a1 : Int} {z0 : Int} (h : laws_szStringS.t k a0 a1 = some z0) (K : Int → Option β) : laws_szStringS.f k a0 a1 K = K z0 := by
  unfold laws_szStringS.f
  rw [h]
theorem laws_szStringS.tm {ι α : Type} {ok : ι → Prop} {ψ : α → Prop} {p : ι → Nat} {B : Nat} (hp : ∀ i, ok i → B ≤ p i) {a0 : List (List D)} {a1 : Int} {φ : Int → Prop} (h : Tm (fun k => B ≤ k) (fun k => laws_szStringS.t k a0 a1) φ) {G : ι → Int → Option α} (hG : ∀ z0, φ z0 → Tm ok (fun ι0 => G ι0 z0) ψ) : Tm ok (fun ι0 => laws_szStringS.f (p ι0) a0 a1 (G ι0)) ψ := by
  obtain ⟨z0, h1, h2⟩ := h
  exact (hG z0 h1).congr fun i0 hi0 => laws_szStringS.f_of (h2 (p i0) (hp i0 hi0)) _
def RS (B : Nat) (r : List D) : Prop := ∃ (c0 : ByteArray), r = [.str c0] ∧ c0.size ≤ B ∧ True
theorem RS.open {B : Nat} {r : List D} (h : RS B r) : ∃ (c0 : ByteArray), r = [.str c0] ∧ c0.size ≤ B ∧ True := h
theorem RS.mono {B B' : Nat} (hb : B ≤ B') {r : List D} (h : RS B r) : RS B' r := by
  obtain ⟨c0, rfl, k0, _⟩ := h
  exact ⟨_, rfl, (Nat.le_trans k0 hb), trivial⟩
theorem RS.wide {xs : List (List D)} (h : Zm RS lim xs) : Zm RS 2097152 xs := ⟨Nat.le_trans h.1 (by decide), fun r hr => (h.2 r hr).mono (by decide)⟩
theorem RS.len {B : Nat} {r : List D} (h : RS B r) : r.length = 1 := by
  obtain ⟨c0, rfl, _⟩ := h.open
  rfl
theorem RS.flat {B : Nat} {xs : List (List D)} (h : ∀ r ∈ xs, RS B r) : Zcm 1 xs := fun r hr => by
  obtain ⟨c0, rfl, _⟩ := (h r hr).open
  exact ⟨rfl, by simp [Zaq]⟩
theorem RS.wt {B : Nat} {xs : List (List D)} (h : ∀ r ∈ xs, RS B r) : ZE xs = 1 * xs.length := wt_flat (R := RS B) (fun r h => by obtain ⟨c0, rfl, _⟩ := h; rfl) xs h
theorem RS.deep {B : Nat} {xs : List (List D)} (h : ∀ r ∈ xs, RS B r) : Zs xs = xs.map (·.map C.d) := deep_flat (R := RS B) (fun r h => by obtain ⟨c0, rfl, _⟩ := h; rfl) xs h
theorem RS.gets {B : Nat} {xs : List (List D)} (h : ∀ r ∈ xs, RS B r) {v : Int} (h0 : 0 ≤ v) (h1 : v < xs.length) : gR xs v = [.str (gS xs v 0)] ∧ (gS xs v 0).size ≤ B ∧ True := by
  obtain ⟨c0, e, k0, _⟩ := (h (gR xs v) (gR_mem h0 h1)).open
  unfold gS
  rw [e]
  exact ⟨rfl, k0, trivial⟩
theorem RS.rows {B : Nat} {xs : List (List D)} (h : ∀ r ∈ xs, RS B r) {v : Int} (h0 : 0 ≤ v) (h1 : v < xs.length) {β : Type} (F : List D → Option β) : ZX xs v F = F [.str (gS xs v 0)] := by
  rw [← (RS.gets h h0 h1).1]
  exact ZbB h0 h1 F
theorem RS.get {B : Nat} {xs : List (List D)} (h : Zm RS B xs) {v : Int} (h0 : 0 ≤ v) (h1 : v < xs.length) : gR xs v = [.str (gS xs v 0)] ∧ (gS xs v 0).size ≤ B ∧ True := RS.gets h.2 h0 h1
theorem RS.row {B : Nat} {xs : List (List D)} (h : Zm RS B xs) {v : Int} (h0 : 0 ≤ v) (h1 : v < xs.length) {β : Type} (F : List D → Option β) : ZX xs v F = F [.str (gS xs v 0)] := RS.rows h.2 h0 h1 F
theorem laws_szStringS.T {a0 : List (List D)} {a1 : Int} (h0 : 0 ≤ a1) (h1 : a1 ≤ 1048576) (ga0 : Zm RS maxLen a0) : Tm Zar (fun k => laws_szStringS.t k a0 a1) (fun r => r < 0 ∨ 0 ≤ r ∧ r ≤ a1 ∧ Zm RS lim a0 ∧ ((ZE a0 : Nat) : Int) ≤ 64 * (a1 - r) ∧ True) := by
  unfold laws_szStringS.t laws_szStringS.g
  have hm := Za
  have hlim : lim = 1048576 := rfl
  have hlen := ga0.1
  try rw [ZC (x := a1 - (a0.length : Int)) (by omega) (by omega)]
  refine Tm.ite (fun h1 => ?_) (fun h1 => ?_)
  · try simp only [bz0, bz1, bz2, bz3, bz4, bz5, bz6, bz7, bz8, bz9, bza] at h1
    exact Tm.ret (by first | (left; omega) | (right; refine ⟨?_, ?_, ?_, ?_, trivial⟩ <;> first | assumption | omega))
  · try simp only [bz0, bz1, bz2, bz3, bz4, bz5, bz6, bz7, bz8, bz9, bza] at h1
    refine Tm.loop (okk := Zar) (p := fun k => k) (fun i hi => hi) (b := fun k => laws_szStringS.l0 k a0 (fun z0 => some z0)) (fun v => match v with | (u0, i) => (((a0.length : Int)) - i).toNat) (fun v => match v with | (u0, i) => 0 ≤ u0 ∧ u0 ≤ a1 ∧ 0 ≤ i ∧ i ≤ (a0.length : Int) ∧ (∀ r ∈ a0.take i.toNat, RS lim r) ∧ ((ZE (a0.take i.toNat) : Nat) : Int) ≤ 64 * (a1 - a0.length - u0 + i)) ?_ ?_ ?_
    · rintro ⟨u0, i⟩ hI
      try simp only [] at hI ⊢
      have : big = 2 ^ 64 := rfl
      have := ga0.1
      omega
    · exact ⟨by omega, by omega, by omega, by simp, by simp, by simp [ZE]⟩
    · rintro ⟨u0, i⟩ hI L hL
      try simp only [] at hI
      obtain ⟨u0a, u0b, i0, i1, hr, hwt⟩ := hI
      simp only [laws_szStringS.l0]
      refine Tm.ite (fun h2 => ?_) (fun h2 => ?_)
      · try simp only [bz0, bz1, bz2, bz3, bz4, bz5, bz6, bz7, bz8, bz9, bza] at h2
        refine Tm.atRow (by first | assumption | omega) (by first | assumption | omega) (fun x3 hx4 hm5 => ?_)
        obtain ⟨c6, rfl, g7, _⟩ := (ga0.2 x3 hm5).open
        refine Tm.uncons ?_
        refine Tm.dStr ?_
        refine Tm.atEnd ?_
        try rw [ZC (x := u0 - (c6.size : Int)) (by omega) (by omega)]
        refine Tm.ite (fun h8 => ?_) (fun h8 => ?_)
        · try simp only [bz0, bz1, bz2, bz3, bz4, bz5, bz6, bz7, bz8, bz9, bza] at h8
          exact Tm.ret (by first | (left; omega) | (rw [List.take_of_length_le (by omega)] at hwt; exact .inr ⟨by omega, by omega, ⟨by simp only [lim]; omega, Zau (by omega) hr⟩, by omega, trivial⟩))
        · try simp only [bz0, bz1, bz2, bz3, bz4, bz5, bz6, bz7, bz8, bz9, bza] at h8
          try rw [ZC (x := i + 1) (by omega) (by omega)]
          have hwx := Zb4 i0 hx4
          simp only [Zbi, wtD] at hwx
          refine hL ((u0 - (c6.size : Int)), (i + 1)) ⟨by omega, by omega, by omega, by omega, Zbd i0 hx4 hr ⟨_, rfl, by first | assumption | omega, trivial⟩, by omega⟩ (by (try simp only []); omega)
      · try simp only [bz0, bz1, bz2, bz3, bz4, bz5, bz6, bz7, bz8, bz9, bza] at h2
        exact Tm.ret (by first | (left; omega) | (rw [List.take_of_length_le (by omega)] at hwt; exact .inr ⟨by omega, by omega, ⟨by simp only [lim]; omega, Zau (by omega) hr⟩, by omega, trivial⟩))
theorem laws_szValueS.f_of {β : Type} {k : Nat} {a0 : List (List D)} {a1 : Int} {z0 : Int} (h : laws_szValueS.t k a0 a1 = some z0) (K : Int → Option β) : laws_szValueS.f k a0 a1 K = K z0 := by
  unfold laws_szValueS.f
  unfold laws_szValueS.w
  rw [h]
theorem laws_szValueS.tm {ι α : Type} {ok : ι → Prop} {ψ : α → Prop} {p : ι → Nat} {B : Nat} (hp : ∀ i, ok i → B ≤ p i) {a0 : List (List D)} {a1 : Int} {φ : Int → Prop} (h : Tm (fun k => B ≤ k) (fun k => laws_szValueS.t k a0 a1) φ) {G : ι → Int → Option α} (hG : ∀ z0, φ z0 → Tm ok (fun ι0 => G ι0 z0) ψ) : Tm ok (fun ι0 => laws_szValueS.f (p ι0) a0 a1 (G ι0)) ψ := by
  obtain ⟨z0, h1, h2⟩ := h
  exact (hG z0 h1).congr fun i0 hi0 => laws_szValueS.f_of (h2 (p i0) (hp i0 hi0)) _
inductive Yc (B : Nat) : Nat → List D → Prop
  | mk {h : Nat} (c0 : Int) (c1 : ByteArray) (c2 : Int) (c3 : List (List D)) (c4 : List (List D)) (k0 : (Lit.int .i64 c0).wf = true) (k1 : c1.size ≤ B) (k2 : (Lit.int .i64 c2).wf = true) (k3 : Zm RS B c3) (k4 : c4.length ≤ B) (m4 : ∀ r ∈ c4, Yc B h r) : Yc B (h + 1) [.int .i64 c0, .str c1, .int .i64 c2, .sl c3, .sl c4]
def Yb (B : Nat) (r : List D) : Prop := ∃ h, (B ≤ 1099511627776 → h ≤ 1099511627776) ∧ Yc B h r
theorem Yb.open {B : Nat} {r : List D} (h : Yb B r) : ∃ (c0 : Int) (c1 : ByteArray) (c2 : Int) (c3 : List (List D)) (c4 : List (List D)), r = [.int .i64 c0, .str c1, .int .i64 c2, .sl c3, .sl c4] ∧ (Lit.int .i64 c0).wf = true ∧ c1.size ≤ B ∧ (Lit.int .i64 c2).wf = true ∧ Zm RS B c3 ∧ Zm Yb B c4 ∧ True := by
  obtain ⟨h, hh, h1⟩ := h
  cases h1 with
  | mk c0 c1 c2 c3 c4 k0 k1 k2 k3 k4 m4 => exact ⟨c0, c1, c2, c3, c4, rfl, k0, k1, k2, k3, ⟨k4, fun r hr => ⟨_, fun hb => by have := hh hb; omega, m4 r hr⟩⟩, trivial⟩
theorem Yc.up {B B' : Nat} (hb : B ≤ B') : ∀ {h : Nat} {r : List D}, Yc B h r → Yc B' h r
  | _ + 1, _, .mk c0 c1 c2 c3 c4 k0 k1 k2 k3 k4 m4 => .mk c0 c1 c2 c3 c4 k0 (Nat.le_trans k1 hb) k2 ⟨Nat.le_trans k3.1 hb, fun r hr => (k3.2 r hr).mono hb⟩ (Nat.le_trans k4 hb) (fun r hr => Yc.up hb (m4 r hr))
theorem Yb.mono {B B' : Nat} (hb : B ≤ B') {r : List D} (h : Yb B r) : Yb B' r := by
  obtain ⟨h, hh, h1⟩ := h
  exact ⟨h, fun h2 => hh (Nat.le_trans hb h2), h1.up hb⟩
theorem Yc.mono {B : Nat} : ∀ {h h' : Nat} {r : List D}, h ≤ h' → Yc B h r → Yc B h' r
  | _, 0, _, hl, .mk .. => by omega
  | _ + 1, _ + 1, _, hl, .mk c0 c1 c2 c3 c4 k0 k1 k2 k3 k4 m4 => .mk c0 c1 c2 c3 c4 k0 k1 k2 k3 k4 (fun r hr => Yc.mono (by omega) (m4 r hr))
theorem Yb.wide {xs : List (List D)} (h : Zm Yb lim xs) : Zm Yb 2097152 xs := ⟨Nat.le_trans h.1 (by decide), fun r hr => (h.2 r hr).mono (by decide)⟩
theorem Yb.len {B : Nat} {r : List D} (h : Yb B r) : r.length = 5 := by
  obtain ⟨c0, c1, c2, c3, c4, rfl, _⟩ := h.open
  rfl
theorem Yb.gets {B : Nat} {xs : List (List D)} (h : ∀ r ∈ xs, Yb B r) {v : Int} (h0 : 0 ≤ v) (h1 : v < xs.length) : gR xs v = [.int .i64 (gI xs v 0), .str (gS xs v 1), .int .i64 (gI xs v 2), .sl (gL xs v 3), .sl (gL xs v 4)] ∧ (Lit.int .i64 (gI xs v 0)).wf = true ∧ (gS xs v 1).size ≤ B ∧ (Lit.int .i64 (gI xs v 2)).wf = true ∧ Zm RS B (gL xs v 3) ∧ Zm Yb B (gL xs v 4) ∧ True := by
  obtain ⟨c0, c1, c2, c3, c4, e, k0, k1, k2, k3, k4, _⟩ := (h (gR xs v) (gR_mem h0 h1)).open
  unfold gI gL gS
  rw [e]
  exact ⟨rfl, k0, k1, k2, k3, k4, trivial⟩
theorem Yb.rows {B : Nat} {xs : List (List D)} (h : ∀ r ∈ xs, Yb B r) {v : Int} (h0 : 0 ≤ v) (h1 : v < xs.length) {β : Type} (F : List D → Option β) : ZX xs v F = F [.int .i64 (gI xs v 0), .str (gS xs v 1), .int .i64 (gI xs v 2), .sl (gL xs v 3), .sl (gL xs v 4)] := by
  rw [← (Yb.gets h h0 h1).1]
  exact ZbB h0 h1 F
theorem Yb.get {B : Nat} {xs : List (List D)} (h : Zm Yb B xs) {v : Int} (h0 : 0 ≤ v) (h1 : v < xs.length) : gR xs v = [.int .i64 (gI xs v 0), .str (gS xs v 1), .int .i64 (gI xs v 2), .sl (gL xs v 3), .sl (gL xs v 4)] ∧ (Lit.int .i64 (gI xs v 0)).wf = true ∧ (gS xs v 1).size ≤ B ∧ (Lit.int .i64 (gI xs v 2)).wf = true ∧ Zm RS B (gL xs v 3) ∧ Zm Yb B (gL xs v 4) ∧ True := Yb.gets h.2 h0 h1
theorem Yb.row {B : Nat} {xs : List (List D)} (h : Zm Yb B xs) {v : Int} (h0 : 0 ≤ v) (h1 : v < xs.length) {β : Type} (F : List D → Option β) : ZX xs v F = F [.int .i64 (gI xs v 0), .str (gS xs v 1), .int .i64 (gI xs v 2), .sl (gL xs v 3), .sl (gL xs v 4)] := Yb.rows h.2 h0 h1 F
theorem laws_szValue.f_of {β : Type} {k : Nat} {a0_0 : Int} {a0_1 : ByteArray} {a0_2 : Int} {a0_3 : List (List D)} {a0_4 : List (List D)} {a1 : Int} {z0 : Int} (h : laws_szValue.t k a0_0 a0_1 a0_2 a0_3 a0_4 a1 = some z0) (K : Int → Option β) : laws_szValue.f k a0_0 a0_1 a0_2 a0_3 a0_4 a1 K = K z0 := by
  unfold laws_szValue.f
  unfold laws_szValue.w
  rw [h]
theorem laws_szValue.tm {ι α : Type} {ok : ι → Prop} {ψ : α → Prop} {p : ι → Nat} {B : Nat} (hp : ∀ i, ok i → B ≤ p i) {a0_0 : Int} {a0_1 : ByteArray} {a0_2 : Int} {a0_3 : List (List D)} {a0_4 : List (List D)} {a1 : Int} {φ : Int → Prop} (h : Tm (fun k => B ≤ k) (fun k => laws_szValue.t k a0_0 a0_1 a0_2 a0_3 a0_4 a1) φ) {G : ι → Int → Option α} (hG : ∀ z0, φ z0 → Tm ok (fun ι0 => G ι0 z0) ψ) : Tm ok (fun ι0 => laws_szValue.f (p ι0) a0_0 a0_1 a0_2 a0_3 a0_4 a1 (G ι0)) ψ := by
  obtain ⟨z0, h1, h2⟩ := h
  exact (hG z0 h1).congr fun i0 hi0 => laws_szValue.f_of (h2 (p i0) (hp i0 hi0)) _
theorem szVal (n : Nat) : (∀ (left : Int) (a : List (List D)), 0 ≤ left → left ≤ n → left ≤ 1048576 → Zm Yb maxLen a → Tm (fun k => big + 2 * n + 1 ≤ k) (fun k => laws_szValueS.t k a left) (fun r => r < 0 ∨ 0 ≤ r ∧ r ≤ left ∧ a.length ≤ lim ∧ (∀ x ∈ a, Yc lim (left - r).toNat x) ∧ ((ZE a : Nat) : Int) ≤ 64 * (left - r))) ∧
    (∀ (left c0 : Int) (c1 : ByteArray) (c2 : Int) (c3 c4 : List (List D)), 0 ≤ left → left ≤ n → left ≤ 1048576 → c1.size ≤ maxLen → Zm RS maxLen c3 → Zm Yb maxLen c4 → Tm (fun k => big + 2 * n + 2 ≤ k) (fun k => laws_szValue.t k c0 c1 c2 c3 c4 left) (fun r => r < 0 ∨ 0 ≤ r ∧ r ≤ left ∧ c1.size ≤ lim ∧ Zm RS lim c3 ∧ c4.length ≤ lim ∧ (∀ x ∈ c4, Yc lim (left - r).toNat x) ∧ ((ZE c3 + ZE c4 : Nat) : Int) ≤ 64 * (left - r))) := by
  have hm := Za
  have hlim : lim = 1048576 := rfl
  have hb : big = 2 ^ 64 := rfl
  induction n using Nat.strongRecOn with
  | ind n ih =>
  have S : ∀ (left : Int) (a : List (List D)), 0 ≤ left → left ≤ n → left ≤ 1048576 → Zm Yb maxLen a → Tm (fun k => big + 2 * n + 1 ≤ k) (fun k => laws_szValueS.t k a left) (fun r => r < 0 ∨ 0 ≤ r ∧ r ≤ left ∧ a.length ≤ lim ∧ (∀ x ∈ a, Yc lim (left - r).toNat x) ∧ ((ZE a : Nat) : Int) ≤ 64 * (left - r)) := by
    intro left a h0 h1 h2 g
    have hlen := g.1
    refine Tm.succ (g := fun k => laws_szValueS.g k a left (fun z0 => some z0)) (fun k => laws_szValueS.t_succ k a left) ?_
    unfold laws_szValueS.g laws_szValueS.body
    rw [ZC (x := left - a.length) (by omega) (by omega)]
    refine Tm.ite (fun h3 => Tm.ret (.inl (by omega))) (fun h3 => ?_)
    simp only [decide_eq_false_iff_not, Int.not_lt] at h3
    refine Tm.loop (okk := fun k => big + 2 * n ≤ k) (p := fun k => k) (fun i hi => by omega) (b := fun k => laws_szValueS.l0 k (laws_szValueS.f k) (laws_szValue.f k) a (fun z0 => some z0)) (fun v => match v with | (u0, i) => (((a.length : Int)) - i).toNat) (fun v => match v with | (u0, i) => 0 ≤ u0 ∧ u0 ≤ left - a.length ∧ 0 ≤ i ∧ i ≤ (a.length : Int) ∧ (∀ r ∈ a.take i.toNat, Yc lim (left - u0).toNat r) ∧ ((ZE (a.take i.toNat) : Nat) : Int) ≤ 64 * (left - a.length - u0 + i)) ?_ ?_ ?_
    · rintro ⟨u0, i⟩ hI
      simp only [] at hI ⊢
      omega
    · exact ⟨by omega, by omega, by omega, by omega, by simp, by simp [ZE]⟩
    · rintro ⟨u0, i⟩ hI L hL
      simp only [] at hI
      obtain ⟨u0a, u0b, i0, i1, hr, hwt⟩ := hI
      simp only [laws_szValueS.l0]
      refine Tm.ite (fun h4 => ?_) (fun h4 => ?_)
      · simp only [decide_eq_true_eq] at h4
        refine Tm.atRow (by omega) (by omega) (fun x5 hx6 hm7 => ?_)
        obtain ⟨c0, c1, c2, c3, c4, rfl, w0, g1, w2, g3, g4, _⟩ := (g.2 x5 hm7).open
        refine Tm.uncons (Tm.dInt (Tm.uncons (Tm.dStr (Tm.uncons (Tm.dInt (Tm.uncons (Tm.dSl (Tm.uncons (Tm.dSl (Tm.atEnd ?_))))))))))
        refine laws_szValue.tm (B := big + 2 * (n - 1) + 2) (fun i hi => by have := hi.1; omega) ((ih (n - 1) (by omega)).2 u0 c0 c1 c2 c3 c4 u0a (by omega) (by omega) g1 g3 g4) (fun y hy => ?_)
        rcases hy with hy | ⟨y0, y1, q1, q3, q4, q5, qw⟩
        · exact Tm.ite (fun _ => Tm.ret (.inl (by omega))) (fun h => by simp at h; omega)
        refine Tm.ite (fun h8 => by simp at h8; omega) (fun h8 => ?_)
        rw [ZC (x := i + 1) (by omega) (by omega)]
        have hwx := Zb4 i0 hx6
        simp only [Zbi, wtD] at hwx
        refine hL (y, i + 1) ⟨by omega, by omega, by omega, by omega, Zbd i0 hx6 (fun r hr' => (hr r hr').mono (by omega)) ?_, by omega⟩ (by simp only []; omega)
        exact Yc.mono (h := (u0 - y).toNat + 1) (by omega) (.mk _ _ _ _ _ w0 q1 w2 q3 q4 q5)
      · simp only [decide_eq_false_iff_not, Int.not_lt] at h4
        rw [List.take_of_length_le (by omega)] at hwt
        exact Tm.ret (.inr ⟨by omega, by omega, by omega, fun x hx => (Zau (by omega) hr x hx).mono (by omega), by omega⟩)
  refine ⟨S, ?_⟩
  intro left c0 c1 c2 c3 c4 h0 h1 h2 g1 g3 g4
  refine Tm.succ (g := fun k => laws_szValue.g k c0 c1 c2 c3 c4 left (fun z0 => some z0)) (fun k => laws_szValue.t_succ k c0 c1 c2 c3 c4 left) ?_
  unfold laws_szValue.g laws_szValue.body
  rw [ZC (x := left - c1.size) (by omega) (by omega)]
  refine Tm.ite (fun h3 => Tm.ret (.inl (by omega))) (fun h3 => ?_)
  simp only [decide_eq_false_iff_not, Int.not_lt] at h3
  refine laws_szStringS.tm (B := big) (fun i hi => by omega) (laws_szStringS.T (by omega) (by omega) g3) (fun y hy => ?_)
  rcases hy with hy | ⟨y0, y1, q3, qw, _⟩
  · exact Tm.ite (fun _ => Tm.ret (.inl (by omega))) (fun h => by simp at h; omega)
  refine Tm.ite (fun h8 => by simp at h8; omega) (fun h8 => ?_)
  refine laws_szValueS.tm (B := big + 2 * n + 1) (fun i hi => hi) (S y c4 y0 (by omega) (by omega) g4) (fun y' hy' => ?_)
  rcases hy' with hy' | ⟨y0', y1', q4, q5, qw'⟩
  · exact Tm.ite (fun _ => Tm.ret (.inl (by omega))) (fun h => by simp at h; omega)
  refine Tm.ite (fun h8 => by simp at h8; omega) (fun h8 => ?_)
  exact Tm.ret (.inr ⟨by omega, by omega, by omega, q3, q4, fun x hx => (q5 x hx).mono (by omega), by omega⟩)
theorem big_lv1 {n : Nat} (h : n ≤ 4398046511104) : big + n ≤ lv 1 := by
  have hb : big = 2 ^ 64 := rfl
  have : lv 1 = 2 ^ 65 := rfl
  omega
theorem laws_szValueS.T {a0 : List (List D)} {a1 : Int} (h0 : 0 ≤ a1) (h1 : a1 ≤ 1048576) (g : Zm Yb maxLen a0) : Tm (Zay 1) (fun k => laws_szValueS.t k a0 a1) (fun r => r < 0 ∨ 0 ≤ r ∧ r ≤ a1 ∧ Zm Yb lim a0 ∧ ((ZE a0 : Nat) : Int) ≤ 64 * (a1 - r) ∧ True) :=
  (((szVal a1.toNat).1 a1 a0 h0 (by omega) h1 g).up (big_lv1 (n := 2 * a1.toNat + 1) (by omega))).mono fun r hr => by
    rcases hr with hr | ⟨r0, r1, r2, r3, r4⟩
    · exact .inl hr
    · exact .inr ⟨r0, r1, ⟨r2, fun x hx => ⟨_, fun _ => by omega, r3 x hx⟩⟩, r4, trivial⟩
theorem laws_szValue.T {a0_0 : Int} {a0_1 : ByteArray} {a0_2 : Int} {a0_3 a0_4 : List (List D)} {a1 : Int} (h0 : 0 ≤ a1) (h1 : a1 ≤ 1048576) (g1 : a0_1.size ≤ maxLen) (g3 : Zm RS maxLen a0_3) (g4 : Zm Yb maxLen a0_4) : Tm (Zay 1) (fun k => laws_szValue.t k a0_0 a0_1 a0_2 a0_3 a0_4 a1) (fun r => r < 0 ∨ 0 ≤ r ∧ r ≤ a1 ∧ a0_1.size ≤ lim ∧ Zm RS lim a0_3 ∧ Zm Yb lim a0_4 ∧ ((ZE a0_3 + ZE a0_4 : Nat) : Int) ≤ 64 * (a1 - r) ∧ True) :=
  (((szVal a1.toNat).2 a1 a0_0 a0_1 a0_2 a0_3 a0_4 h0 (by omega) h1 g1 g3 g4).up (big_lv1 (n := 2 * a1.toNat + 2) (by omega))).mono fun r hr => by
    rcases hr with hr | ⟨r0, r1, r2, r3, r4, r5, r6⟩
    · exact .inl hr
    · exact .inr ⟨r0, r1, r2, r3, ⟨r4, fun x hx => ⟨_, fun _ => by omega, r5 x hx⟩⟩, r6, trivial⟩
theorem laws_szObj.f_of {β : Type} {k : Nat} {a0_0 : Int} {a0_1 : ByteArray} {a0_2 : Int} {a0_3 : Int} {a0_4 : Int} {a0_5 : Bool} {a0_6 : List (List D)} {a0_7 : Int} {a0_8 : ByteArray} {a0_9 : Int} {a0_10 : List (List D)} {a0_11 : List (List D)} {a0_12 : Int} {a0_13 : ByteArray} {a0_14 : Int} {a0_15 : List (List D)} {a0_16 : List (List D)} {a1 : Int} {z0 : Int} (h : laws_szObj.t k a0_0 a0_1 a0_2 a0_3 a0_4 a0_5 a0_6 a0_7 a0_8 a0_9 a0_10 a0_11 a0_12 a0_13 a0_14 a0_15 a0_16 a1 = some z0) (K : Int → Option β) : laws_szObj.f k a0_0 a0_1 a0_2 a0_3 a0_4 a0_5 a0_6 a0_7 a0_8 a0_9 a0_10 a0_11 a0_12 a0_13 a0_14 a0_15 a0_16 a1 K = K z0 := by
  unfold laws_szObj.f
  rw [h]
theorem laws_szObj.tm {ι α : Type} {ok : ι → Prop} {ψ : α → Prop} {p : ι → Nat} {B : Nat} (hp : ∀ i, ok i → B ≤ p i) {a0_0 : Int} {a0_1 : ByteArray} {a0_2 : Int} {a0_3 : Int} {a0_4 : Int} {a0_5 : Bool} {a0_6 : List (List D)} {a0_7 : Int} {a0_8 : ByteArray} {a0_9 : Int} {a0_10 : List (List D)} {a0_11 : List (List D)} {a0_12 : Int} {a0_13 : ByteArray} {a0_14 : Int} {a0_15 : List (List D)} {a0_16 : List (List D)} {a1 : Int} {φ : Int → Prop} (h : Tm (fun k => B ≤ k) (fun k => laws_szObj.t k a0_0 a0_1 a0_2 a0_3 a0_4 a0_5 a0_6 a0_7 a0_8 a0_9 a0_10 a0_11 a0_12 a0_13 a0_14 a0_15 a0_16 a1) φ) {G : ι → Int → Option α} (hG : ∀ z0, φ z0 → Tm ok (fun ι0 => G ι0 z0) ψ) : Tm ok (fun ι0 => laws_szObj.f (p ι0) a0_0 a0_1 a0_2 a0_3 a0_4 a0_5 a0_6 a0_7 a0_8 a0_9 a0_10 a0_11 a0_12 a0_13 a0_14 a0_15 a0_16 a1 (G ι0)) ψ := by
  obtain ⟨z0, h1, h2⟩ := h
  exact (hG z0 h1).congr fun i0 hi0 => laws_szObj.f_of (h2 (p i0) (hp i0 hi0)) _
theorem laws_szObj.T {a0_0 : Int} {a0_1 : ByteArray} {a0_2 : Int} {a0_3 : Int} {a0_4 : Int} {a0_5 : Bool} {a0_6 : List (List D)} {a0_7 : Int} {a0_8 : ByteArray} {a0_9 : Int} {a0_10 : List (List D)} {a0_11 : List (List D)} {a0_12 : Int} {a0_13 : ByteArray} {a0_14 : Int} {a0_15 : List (List D)} {a0_16 : List (List D)} {a1 : Int} (h0 : 0 ≤ a1) (h1 : a1 ≤ 1048576) (ga0_1 : a0_1.size ≤ maxLen) (ga0_6 : Zm RS maxLen a0_6) (ga0_8 : a0_8.size ≤ maxLen) (ga0_10 : Zm RS maxLen a0_10) (ga0_11 : Zm Yb maxLen a0_11) (ga0_13 : a0_13.size ≤ maxLen) (ga0_15 : Zm RS maxLen a0_15) (ga0_16 : Zm Yb maxLen a0_16) : Tm (Zay 1) (fun k => laws_szObj.t k a0_0 a0_1 a0_2 a0_3 a0_4 a0_5 a0_6 a0_7 a0_8 a0_9 a0_10 a0_11 a0_12 a0_13 a0_14 a0_15 a0_16 a1) (fun r => r < 0 ∨ 0 ≤ r ∧ r ≤ a1 ∧ a0_1.size ≤ lim ∧ Zm RS lim a0_6 ∧ a0_8.size ≤ lim ∧ Zm RS lim a0_10 ∧ Zm Yb lim a0_11 ∧ a0_13.size ≤ lim ∧ Zm RS lim a0_15 ∧ Zm Yb lim a0_16 ∧ ((ZE a0_6 + ZE a0_10 + ZE a0_11 + ZE a0_15 + ZE a0_16 : Nat) : Int) ≤ 64 * (a1 - r) ∧ True) := by
  unfold laws_szObj.t laws_szObj.g
  have hm := Za
  have hlim : lim = 1048576 := rfl
  try rw [ZC (x := a1 - (a0_1.size : Int)) (by omega) (by omega)]
  refine Tm.ite (fun h1 => ?_) (fun h1 => ?_)
  · try simp only [bz0, bz1, bz2, bz3, bz4, bz5, bz6, bz7, bz8, bz9, bza] at h1
    exact Tm.ret (by first | (left; omega) | (right; refine ⟨?_, ?_, ?_, ?_, ?_, ?_, ?_, ?_, ?_, ?_, ?_, trivial⟩ <;> first | assumption | omega))
  · try simp only [bz0, bz1, bz2, bz3, bz4, bz5, bz6, bz7, bz8, bz9, bza] at h1
    refine laws_szStringS.tm (fun i hi => up0 hi) (laws_szStringS.T (by first | assumption | omega) (by first | assumption | omega) (by first | assumption | omega)) (fun y3 hy2 => ?_)
    rcases hy2 with hy2 | ⟨p6, p7, q4, q5, _⟩
    · exact Tm.ite (fun _ => Tm.ret (by left; omega)) (fun h => by simp at h; omega)
    refine Tm.ite (fun h8 => ?_) (fun h8 => ?_)
    · try simp only [bz0, bz1, bz2, bz3, bz4, bz5, bz6, bz7, bz8, bz9, bza] at h8
      exact Tm.ret (by first | (left; omega) | (right; refine ⟨?_, ?_, ?_, ?_, ?_, ?_, ?_, ?_, ?_, ?_, ?_, trivial⟩ <;> first | assumption | omega))
    · try simp only [bz0, bz1, bz2, bz3, bz4, bz5, bz6, bz7, bz8, bz9, bza] at h8
      refine laws_szValue.tm (fun i hi => hi) (laws_szValue.T (by first | assumption | omega) (by first | assumption | omega) (by first | assumption | omega) (by first | assumption | omega) (by first | assumption | omega)) (fun y10 hy9 => ?_)
      rcases hy9 with hy9 | ⟨p15, p16, q11, q12, q13, q14, _⟩
      · exact Tm.ite (fun _ => Tm.ret (by left; omega)) (fun h => by simp at h; omega)
      refine Tm.ite (fun h17 => ?_) (fun h17 => ?_)
      · try simp only [bz0, bz1, bz2, bz3, bz4, bz5, bz6, bz7, bz8, bz9, bza] at h17
        exact Tm.ret (by first | (left; omega) | (right; refine ⟨?_, ?_, ?_, ?_, ?_, ?_, ?_, ?_, ?_, ?_, ?_, trivial⟩ <;> first | assumption | omega))
      · try simp only [bz0, bz1, bz2, bz3, bz4, bz5, bz6, bz7, bz8, bz9, bza] at h17
        refine laws_szValue.tm (fun i hi => hi) (laws_szValue.T (by first | assumption | omega) (by first | assumption | omega) (by first | assumption | omega) (by first | assumption | omega) (by first | assumption | omega)) (fun y19 hy18 => ?_)
        rcases hy18 with hy18 | ⟨p24, p25, q20, q21, q22, q23, _⟩
        · exact Tm.ite (fun _ => Tm.ret (by left; omega)) (fun h => by simp at h; omega)
        refine Tm.ite (fun h26 => ?_) (fun h26 => ?_)
        · try simp only [bz0, bz1, bz2, bz3, bz4, bz5, bz6, bz7, bz8, bz9, bza] at h26
          exact Tm.ret (by first | (left; omega) | (right; refine ⟨?_, ?_, ?_, ?_, ?_, ?_, ?_, ?_, ?_, ?_, ?_, trivial⟩ <;> first | assumption | omega))
        · try simp only [bz0, bz1, bz2, bz3, bz4, bz5, bz6, bz7, bz8, bz9, bza] at h26
          exact Tm.ret (by first | (left; omega) | (right; refine ⟨?_, ?_, ?_, ?_, ?_, ?_, ?_, ?_, ?_, ?_, ?_, trivial⟩ <;> first | assumption | omega))
theorem laws_szObjS.f_of {β : Type} {k : Nat} {a0 : List (List D)} {a1 : Int} {z0 : Int} (h : laws_szObjS.t k a0 a1 = some z0) (K : Int → Option β) : laws_szObjS.f k a0 a1 K = K z0 := by
  unfold laws_szObjS.f
  rw [h]
theorem laws_szObjS.tm {ι α : Type} {ok : ι → Prop} {ψ : α → Prop} {p : ι → Nat} {B : Nat} (hp : ∀ i, ok i → B ≤ p i) {a0 : List (List D)} {a1 : Int} {φ : Int → Prop} (h : Tm (fun k => B ≤ k) (fun k => laws_szObjS.t k a0 a1) φ) {G : ι → Int → Option α} (hG : ∀ z0, φ z0 → Tm ok (fun ι0 => G ι0 z0) ψ) : Tm ok (fun ι0 => laws_szObjS.f (p ι0) a0 a1 (G ι0)) ψ := by
  obtain ⟨z0, h1, h2⟩ := h
  exact (hG z0 h1).congr fun i0 hi0 => laws_szObjS.f_of (h2 (p i0) (hp i0 hi0)) _
def Ya (B : Nat) (r : List D) : Prop := ∃ (c0 : Int) (c1 : ByteArray) (c2 : Int) (c3 : Int) (c4 : Int) (c5 : Bool) (c6 : List (List D)) (c7 : Int) (c8 : ByteArray) (c9 : Int) (c10 : List (List D)) (c11 : List (List D)) (c12 : Int) (c13 : ByteArray) (c14 : Int) (c15 : List (List D)) (c16 : List (List D)), r = [.int .i64 c0, .str c1, .int .i64 c2, .int .i64 c3, .int .i64 c4, .bool c5, .sl c6, .int .i64 c7, .str c8, .int .i64 c9, .sl c10, .sl c11, .int .i64 c12, .str c13, .int .i64 c14, .sl c15, .sl c16] ∧ (Lit.int .i64 c0).wf = true ∧ c1.size ≤ B ∧ (Lit.int .i64 c2).wf = true ∧ (Lit.int .i64 c3).wf = true ∧ (Lit.int .i64 c4).wf = true ∧ Zm RS B c6 ∧ (Lit.int .i64 c7).wf = true ∧ c8.size ≤ B ∧ (Lit.int .i64 c9).wf = true ∧ Zm RS B c10 ∧ Zm Yb B c11 ∧ (Lit.int .i64 c12).wf = true ∧ c13.size ≤ B ∧ (Lit.int .i64 c14).wf = true ∧ Zm RS B c15 ∧ Zm Yb B c16 ∧ True
theorem Ya.open {B : Nat} {r : List D} (h : Ya B r) : ∃ (c0 : Int) (c1 : ByteArray) (c2 : Int) (c3 : Int) (c4 : Int) (c5 : Bool) (c6 : List (List D)) (c7 : Int) (c8 : ByteArray) (c9 : Int) (c10 : List (List D)) (c11 : List (List D)) (c12 : Int) (c13 : ByteArray) (c14 : Int) (c15 : List (List D)) (c16 : List (List D)), r = [.int .i64 c0, .str c1, .int .i64 c2, .int .i64 c3, .int .i64 c4, .bool c5, .sl c6, .int .i64 c7, .str c8, .int .i64 c9, .sl c10, .sl c11, .int .i64 c12, .str c13, .int .i64 c14, .sl c15, .sl c16] ∧ (Lit.int .i64 c0).wf = true ∧ c1.size ≤ B ∧ (Lit.int .i64 c2).wf = true ∧ (Lit.int .i64 c3).wf = true ∧ (Lit.int .i64 c4).wf = true ∧ Zm RS B c6 ∧ (Lit.int .i64 c7).wf = true ∧ c8.size ≤ B ∧ (Lit.int .i64 c9).wf = true ∧ Zm RS B c10 ∧ Zm Yb B c11 ∧ (Lit.int .i64 c12).wf = true ∧ c13.size ≤ B ∧ (Lit.int .i64 c14).wf = true ∧ Zm RS B c15 ∧ Zm Yb B c16 ∧ True := h
theorem Ya.mono {B B' : Nat} (hb : B ≤ B') {r : List D} (h : Ya B r) : Ya B' r := by
  obtain ⟨c0, c1, c2, c3, c4, c5, c6, c7, c8, c9, c10, c11, c12, c13, c14, c15, c16, rfl, k0, k1, k2, k3, k4, k6, k7, k8, k9, k10, k11, k12, k13, k14, k15, k16, _⟩ := h
  exact ⟨_, _, _, _, _, _, _, _, _, _, _, _, _, _, _, _, _, rfl, k0, (Nat.le_trans k1 hb), k2, k3, k4, ⟨Nat.le_trans k6.1 hb, fun r hr => (k6.2 r hr).mono hb⟩, k7, (Nat.le_trans k8 hb), k9, ⟨Nat.le_trans k10.1 hb, fun r hr => (k10.2 r hr).mono hb⟩, ⟨Nat.le_trans k11.1 hb, fun r hr => (k11.2 r hr).mono hb⟩, k12, (Nat.le_trans k13 hb), k14, ⟨Nat.le_trans k15.1 hb, fun r hr => (k15.2 r hr).mono hb⟩, ⟨Nat.le_trans k16.1 hb, fun r hr => (k16.2 r hr).mono hb⟩, trivial⟩
theorem Ya.wide {xs : List (List D)} (h : Zm Ya lim xs) : Zm Ya 2097152 xs := ⟨Nat.le_trans h.1 (by decide), fun r hr => (h.2 r hr).mono (by decide)⟩
theorem Ya.len {B : Nat} {r : List D} (h : Ya B r) : r.length = 17 := by
  obtain ⟨c0, c1, c2, c3, c4, c5, c6, c7, c8, c9, c10, c11, c12, c13, c14, c15, c16, rfl, _⟩ := h.open
  rfl
theorem Ya.gets {B : Nat} {xs : List (List D)} (h : ∀ r ∈ xs, Ya B r) {v : Int} (h0 : 0 ≤ v) (h1 : v < xs.length) : gR xs v = [.int .i64 (gI xs v 0), .str (gS xs v 1), .int .i64 (gI xs v 2), .int .i64 (gI xs v 3), .int .i64 (gI xs v 4), .bool (gB xs v 5), .sl (gL xs v 6), .int .i64 (gI xs v 7), .str (gS xs v 8), .int .i64 (gI xs v 9), .sl (gL xs v 10), .sl (gL xs v 11), .int .i64 (gI xs v 12), .str (gS xs v 13), .int .i64 (gI xs v 14), .sl (gL xs v 15), .sl (gL xs v 16)] ∧ (Lit.int .i64 (gI xs v 0)).wf = true ∧ (gS xs v 1).size ≤ B ∧ (Lit.int .i64 (gI xs v 2)).wf = true ∧ (Lit.int .i64 (gI xs v 3)).wf = true ∧ (Lit.int .i64 (gI xs v 4)).wf = true ∧ Zm RS B (gL xs v 6) ∧ (Lit.int .i64 (gI xs v 7)).wf = true ∧ (gS xs v 8).size ≤ B ∧ (Lit.int .i64 (gI xs v 9)).wf = true ∧ Zm RS B (gL xs v 10) ∧ Zm Yb B (gL xs v 11) ∧ (Lit.int .i64 (gI xs v 12)).wf = true ∧ (gS xs v 13).size ≤ B ∧ (Lit.int .i64 (gI xs v 14)).wf = true ∧ Zm RS B (gL xs v 15) ∧ Zm Yb B (gL xs v 16) ∧ True := by
  obtain ⟨c0, c1, c2, c3, c4, c5, c6, c7, c8, c9, c10, c11, c12, c13, c14, c15, c16, e, k0, k1, k2, k3, k4, k6, k7, k8, k9, k10, k11, k12, k13, k14, k15, k16, _⟩ := (h (gR xs v) (gR_mem h0 h1)).open
  unfold gB gI gL gS
  rw [e]
  exact ⟨rfl, k0, k1, k2, k3, k4, k6, k7, k8, k9, k10, k11, k12, k13, k14, k15, k16, trivial⟩
theorem Ya.rows {B : Nat} {xs : List (List D)} (h : ∀ r ∈ xs, Ya B r) {v : Int} (h0 : 0 ≤ v) (h1 : v < xs.length) {β : Type} (F : List D → Option β) : ZX xs v F = F [.int .i64 (gI xs v 0), .str (gS xs v 1), .int .i64 (gI xs v 2), .int .i64 (gI xs v 3), .int .i64 (gI xs v 4), .bool (gB xs v 5), .sl (gL xs v 6), .int .i64 (gI xs v 7), .str (gS xs v 8), .int .i64 (gI xs v 9), .sl (gL xs v 10), .sl (gL xs v 11), .int .i64 (gI xs v 12), .str (gS xs v 13), .int .i64 (gI xs v 14), .sl (gL xs v 15), .sl (gL xs v 16)] := by
  rw [← (Ya.gets h h0 h1).1]
  exact ZbB h0 h1 F
theorem Ya.get {B : Nat} {xs : List (List D)} (h : Zm Ya B xs) {v : Int} (h0 : 0 ≤ v) (h1 : v < xs.length) : gR xs v = [.int .i64 (gI xs v 0), .str (gS xs v 1), .int .i64 (gI xs v 2), .int .i64 (gI xs v 3), .int .i64 (gI xs v 4), .bool (gB xs v 5), .sl (gL xs v 6), .int .i64 (gI xs v 7), .str (gS xs v 8), .int .i64 (gI xs v 9), .sl (gL xs v 10), .sl (gL xs v 11), .int .i64 (gI xs v 12), .str (gS xs v 13), .int .i64 (gI xs v 14), .sl (gL xs v 15), .sl (gL xs v 16)] ∧ (Lit.int .i64 (gI xs v 0)).wf = true ∧ (gS xs v 1).size ≤ B ∧ (Lit.int .i64 (gI xs v 2)).wf = true ∧ (Lit.int .i64 (gI xs v 3)).wf = true ∧ (Lit.int .i64 (gI xs v 4)).wf = true ∧ Zm RS B (gL xs v 6) ∧ (Lit.int .i64 (gI xs v 7)).wf = true ∧ (gS xs v 8).size ≤ B ∧ (Lit.int .i64 (gI xs v 9)).wf = true ∧ Zm RS B (gL xs v 10) ∧ Zm Yb B (gL xs v 11) ∧ (Lit.int .i64 (gI xs v 12)).wf = true ∧ (gS xs v 13).size ≤ B ∧ (Lit.int .i64 (gI xs v 14)).wf = true ∧ Zm RS B (gL xs v 15) ∧ Zm Yb B (gL xs v 16) ∧ True := Ya.gets h.2 h0 h1
theorem Ya.row {B : Nat} {xs : List (List D)} (h : Zm Ya B xs) {v : Int} (h0 : 0 ≤ v) (h1 : v < xs.length) {β : Type} (F : List D → Option β) : ZX xs v F = F [.int .i64 (gI xs v 0), .str (gS xs v 1), .int .i64 (gI xs v 2), .int .i64 (gI xs v 3), .int .i64 (gI xs v 4), .bool (gB xs v 5), .sl (gL xs v 6), .int .i64 (gI xs v 7), .str (gS xs v 8), .int .i64 (gI xs v 9), .sl (gL xs v 10), .sl (gL xs v 11), .int .i64 (gI xs v 12), .str (gS xs v 13), .int .i64 (gI xs v 14), .sl (gL xs v 15), .sl (gL xs v 16)] := Ya.rows h.2 h0 h1 F
theorem laws_szObjS.T {a0 : List (List D)} {a1 : Int} (h0 : 0 ≤ a1) (h1 : a1 ≤ 1048576) (ga0 : Zm Ya maxLen a0) : Tm (Zay 1) (fun k => laws_szObjS.t k a0 a1) (fun r => r < 0 ∨ 0 ≤ r ∧ r ≤ a1 ∧ Zm Ya lim a0 ∧ ((ZE a0 : Nat) : Int) ≤ 64 * (a1 - r) ∧ True) := by
  unfold laws_szObjS.t laws_szObjS.g
  have hm := Za
  have hlim : lim = 1048576 := rfl
  have hlen := ga0.1
  try rw [ZC (x := a1 - (a0.length : Int)) (by omega) (by omega)]
  refine Tm.ite (fun h1 => ?_) (fun h1 => ?_)
  · try simp only [bz0, bz1, bz2, bz3, bz4, bz5, bz6, bz7, bz8, bz9, bza] at h1
    exact Tm.ret (by first | (left; omega) | (right; refine ⟨?_, ?_, ?_, ?_, trivial⟩ <;> first | assumption | omega))
  · try simp only [bz0, bz1, bz2, bz3, bz4, bz5, bz6, bz7, bz8, bz9, bza] at h1
    refine Tm.loop (okk := (Zay 1)) (p := fun k => k) (fun i hi => up0 hi) (b := fun k => laws_szObjS.l0 k a0 (fun z0 => some z0)) (fun v => match v with | (u0, i) => (((a0.length : Int)) - i).toNat) (fun v => match v with | (u0, i) => 0 ≤ u0 ∧ u0 ≤ a1 ∧ 0 ≤ i ∧ i ≤ (a0.length : Int) ∧ (∀ r ∈ a0.take i.toNat, Ya lim r) ∧ ((ZE (a0.take i.toNat) : Nat) : Int) ≤ 64 * (a1 - a0.length - u0 + i)) ?_ ?_ ?_
    · rintro ⟨u0, i⟩ hI
      try simp only [] at hI ⊢
      have : big = 2 ^ 64 := rfl
      have := ga0.1
      omega
    · exact ⟨by omega, by omega, by omega, by simp, by simp, by simp [ZE]⟩
    · rintro ⟨u0, i⟩ hI L hL
      try simp only [] at hI
      obtain ⟨u0a, u0b, i0, i1, hr, hwt⟩ := hI
      simp only [laws_szObjS.l0]
      refine Tm.ite (fun h2 => ?_) (fun h2 => ?_)
      · try simp only [bz0, bz1, bz2, bz3, bz4, bz5, bz6, bz7, bz8, bz9, bza] at h2
        refine Tm.atRow (by first | assumption | omega) (by first | assumption | omega) (fun x3 hx4 hm5 => ?_)
        obtain ⟨c6, c7, c8, c9, c10, c11, c12, c13, c14, c15, c16, c17, c18, c19, c20, c21, c22, rfl, g23, g24, g25, g26, g27, g28, g29, g30, g31, g32, g33, g34, g35, g36, g37, g38, _⟩ := (ga0.2 x3 hm5).open
        refine Tm.uncons ?_
        refine Tm.dInt ?_
        refine Tm.uncons ?_
        refine Tm.dStr ?_
        refine Tm.uncons ?_
        refine Tm.dInt ?_
        refine Tm.uncons ?_
        refine Tm.dInt ?_
        refine Tm.uncons ?_
        refine Tm.dInt ?_
        refine Tm.uncons ?_
        refine Tm.dBool ?_
        refine Tm.uncons ?_
        refine Tm.dSl ?_
        refine Tm.uncons ?_
        refine Tm.dInt ?_
        refine Tm.uncons ?_
        refine Tm.dStr ?_
        refine Tm.uncons ?_
        refine Tm.dInt ?_
        refine Tm.uncons ?_
        refine Tm.dSl ?_
        refine Tm.uncons ?_
        refine Tm.dSl ?_
        refine Tm.uncons ?_
        refine Tm.dInt ?_
        refine Tm.uncons ?_
        refine Tm.dStr ?_
        refine Tm.uncons ?_
        refine Tm.dInt ?_
        refine Tm.uncons ?_
        refine Tm.dSl ?_
        refine Tm.uncons ?_
        refine Tm.dSl ?_
        refine Tm.atEnd ?_
        refine laws_szObj.tm (fun i hi => hi.1) (laws_szObj.T (by first | assumption | omega) (by first | assumption | omega) (by first | assumption | omega) (by first | assumption | omega) (by first | assumption | omega) (by first | assumption | omega) (by first | assumption | omega) (by first | assumption | omega) (by first | assumption | omega) (by first | assumption | omega)) (fun y40 hy39 => ?_)
        rcases hy39 with hy39 | ⟨p50, p51, q41, q42, q43, q44, q45, q46, q47, q48, q49, _⟩
        · exact Tm.ite (fun _ => Tm.ret (by left; omega)) (fun h => by simp at h; omega)
        refine Tm.ite (fun h52 => ?_) (fun h52 => ?_)
        · try simp only [bz0, bz1, bz2, bz3, bz4, bz5, bz6, bz7, bz8, bz9, bza] at h52
          exact Tm.ret (by first | (left; omega) | (rw [List.take_of_length_le (by omega)] at hwt; exact .inr ⟨by omega, by omega, ⟨by simp only [lim]; omega, Zau (by omega) hr⟩, by omega, trivial⟩))
        · try simp only [bz0, bz1, bz2, bz3, bz4, bz5, bz6, bz7, bz8, bz9, bza] at h52
          try rw [ZC (x := i + 1) (by omega) (by omega)]
          have hwx := Zb4 i0 hx4
          simp only [Zbi, wtD] at hwx
          refine hL (y40, (i + 1)) ⟨by omega, by omega, by omega, by omega, Zbd i0 hx4 hr ⟨_, _, _, _, _, _, _, _, _, _, _, _, _, _, _, _, _, rfl, by first | assumption | omega, by first | assumption | omega, by first | assumption | omega, by first | assumption | omega, by first | assumption | omega, by first | assumption | omega, by first | assumption | omega, by first | assumption | omega, by first | assumption | omega, by first | assumption | omega, by first | assumption | omega, by first | assumption | omega, by first | assumption | omega, by first | assumption | omega, by first | assumption | omega, by first | assumption | omega, trivial⟩, by omega⟩ (by (try simp only []); omega)
      · try simp only [bz0, bz1, bz2, bz3, bz4, bz5, bz6, bz7, bz8, bz9, bza] at h2
        exact Tm.ret (by first | (left; omega) | (rw [List.take_of_length_le (by omega)] at hwt; exact .inr ⟨by omega, by omega, ⟨by simp only [lim]; omega, Zau (by omega) hr⟩, by omega, trivial⟩))
theorem laws_szMirror.f_of {β : Type} {k : Nat} {a0_0 : Int} {a0_1 : List (List D)} {a1 : Int} {z0 : Int} (h : laws_szMirror.t k a0_0 a0_1 a1 = some z0) (K : Int → Option β) : laws_szMirror.f k a0_0 a0_1 a1 K = K z0 := by
  unfold laws_szMirror.f
  rw [h]
theorem laws_szMirror.tm {ι α : Type} {ok : ι → Prop} {ψ : α → Prop} {p : ι → Nat} {B : Nat} (hp : ∀ i, ok i → B ≤ p i) {a0_0 : Int} {a0_1 : List (List D)} {a1 : Int} {φ : Int → Prop} (h : Tm (fun k => B ≤ k) (fun k => laws_szMirror.t k a0_0 a0_1 a1) φ) {G : ι → Int → Option α} (hG : ∀ z0, φ z0 → Tm ok (fun ι0 => G ι0 z0) ψ) : Tm ok (fun ι0 => laws_szMirror.f (p ι0) a0_0 a0_1 a1 (G ι0)) ψ := by
  obtain ⟨z0, h1, h2⟩ := h
  exact (hG z0 h1).congr fun i0 hi0 => laws_szMirror.f_of (h2 (p i0) (hp i0 hi0)) _
theorem laws_szMirror.T {a0_0 : Int} {a0_1 : List (List D)} {a1 : Int} (h0 : 0 ≤ a1) (h1 : a1 ≤ 1048576) (ga0_1 : Zm Ya maxLen a0_1) : Tm (Zay 1) (fun k => laws_szMirror.t k a0_0 a0_1 a1) (fun r => r < 0 ∨ 0 ≤ r ∧ r ≤ a1 ∧ Zm Ya lim a0_1 ∧ ((ZE a0_1 : Nat) : Int) ≤ 64 * (a1 - r) ∧ True) := by
  unfold laws_szMirror.t laws_szMirror.g
  have hm := Za
  have hlim : lim = 1048576 := rfl
  refine laws_szObjS.tm (fun i hi => hi) (laws_szObjS.T (by first | assumption | omega) (by first | assumption | omega) (by first | assumption | omega)) (fun y2 hy1 => ?_)
  rcases hy1 with hy1 | ⟨p5, p6, q3, q4, _⟩
  · exact Tm.ite (fun _ => Tm.ret (by left; omega)) (fun h => by simp at h; omega)
  refine Tm.ite (fun h7 => ?_) (fun h7 => ?_)
  · try simp only [bz0, bz1, bz2, bz3, bz4, bz5, bz6, bz7, bz8, bz9, bza] at h7
    exact Tm.ret (by first | (left; omega) | (right; refine ⟨?_, ?_, ?_, ?_, trivial⟩ <;> first | assumption | omega))
  · try simp only [bz0, bz1, bz2, bz3, bz4, bz5, bz6, bz7, bz8, bz9, bza] at h7
    exact Tm.ret (by first | (left; omega) | (right; refine ⟨?_, ?_, ?_, ?_, trivial⟩ <;> first | assumption | omega))
theorem laws_toStringS.f_of {β : Type} {k : Nat} {a0 : List (List D)} {z0 : List (List C)} (h : laws_toStringS.t k a0 = some z0) (K : (List (List C)) → Option β) : laws_toStringS.f k a0 K = K z0 := by
  unfold laws_toStringS.f
  rw [h]
theorem laws_toStringS.tm {ι α : Type} {ok : ι → Prop} {ψ : α → Prop} {p : ι → Nat} {B : Nat} (hp : ∀ i, ok i → B ≤ p i) {a0 : List (List D)} {φ : (List (List C)) → Prop} (h : Tm (fun k => B ≤ k) (fun k => laws_toStringS.t k a0) φ) {G : ι → (List (List C)) → Option α} (hG : ∀ z0, φ z0 → Tm ok (fun ι0 => G ι0 z0) ψ) : Tm ok (fun ι0 => laws_toStringS.f (p ι0) a0 (G ι0)) ψ := by
  obtain ⟨z0, h1, h2⟩ := h
  exact (hG z0 h1).congr fun i0 hi0 => laws_toStringS.f_of (h2 (p i0) (hp i0 hi0)) _
theorem laws_toStringS.T {a0 : List (List D)} (ga0 : Zm RS lim a0) : Tm Zar (fun k => laws_toStringS.t k a0) (fun z => z = Zs a0 ∧ True) := by
  unfold laws_toStringS.t laws_toStringS.g
  have hm := Za
  have hlim : lim = 1048576 := rfl
  have hlen := ga0.1
  refine Tm.guard (by first | omega | (simp only [lim, Za, Z6] at *; omega) | (simp only [lim, Z6] at *; refine ⟨?_, ?_, ?_, ?_⟩ <;> omega)) ?_
  refine Tm.loop (okk := Zar) (p := fun k => k) (fun i hi => hi) (b := fun k => laws_toStringS.l0 k a0 (fun z0 => some z0)) (fun v => match v with | (i, u1) => (((a0.length : Int)) - i).toNat) (fun v => match v with | (i, u1) => 0 ≤ i ∧ i ≤ (a0.length : Int) ∧ Zaw a0 ([.d (.str (⟨#[]⟩ : ByteArray))] : List C) i u1) ?_ ?_ ?_
  · rintro ⟨i, u1⟩ hI
    try simp only [] at hI ⊢
    have : big = 2 ^ 64 := rfl
    have := ga0.1
    simp only [lim] at this
    omega
  · exact ⟨by omega, by simp, Zaw.start _ _⟩
  · rintro ⟨i, u1⟩ hI L hL
    try simp only [] at hI
    obtain ⟨i0, i1, hF⟩ := hI
    have hFl := hF.len i1
    simp only [laws_toStringS.l0]
    refine Tm.ite (fun h1 => ?_) (fun h1 => ?_)
    · try simp only [bz0, bz1, bz2, bz3, bz4, bz5, bz6, bz7, bz8, bz9, bza] at h1
      refine Tm.atRow (by first | assumption | omega) (by first | assumption | omega) (fun x2 hx3 hm4 => ?_)
      obtain ⟨c5, rfl, g6, _⟩ := (ga0.2 x2 hm4).open
      refine Tm.uncons ?_
      refine Tm.dStr ?_
      refine Tm.atEnd ?_
      refine Tm.guard (by first | omega | (simp only [lim, Za, Z6] at *; omega) | (simp only [lim, Z6] at *; refine ⟨?_, ?_, ?_, ?_⟩ <;> omega)) ?_
      refine Tm.guard (by first | omega | (simp only [lim, Za, Z6] at *; omega) | (simp only [lim, Z6] at *; refine ⟨?_, ?_, ?_, ?_⟩ <;> omega)) ?_
      try rw [ZC (x := i + 1) (by omega) (by omega)]
      refine hL (_, _) ⟨by omega, by omega, hF.next i0 hx3 rfl (by simp [Zal, deepD])⟩ (by (try simp only []); omega)
    · try simp only [bz0, bz1, bz2, bz3, bz4, bz5, bz6, bz7, bz8, bz9, bza] at h1
      exact Tm.ret (by exact ⟨hF.all (by omega), trivial⟩)
theorem laws_toValueS.f_of {β : Type} {k : Nat} {a0 : List (List D)} {z0 : List (List C)} (h : laws_toValueS.t k a0 = some z0) (K : (List (List C)) → Option β) : laws_toValueS.f k a0 K = K z0 := by
  unfold laws_toValueS.f
  unfold laws_toValueS.w
  rw [h]
theorem laws_toValueS.tm {ι α : Type} {ok : ι → Prop} {ψ : α → Prop} {p : ι → Nat} {B : Nat} (hp : ∀ i, ok i → B ≤ p i) {a0 : List (List D)} {φ : (List (List C)) → Prop} (h : Tm (fun k => B ≤ k) (fun k => laws_toValueS.t k a0) φ) {G : ι → (List (List C)) → Option α} (hG : ∀ z0, φ z0 → Tm ok (fun ι0 => G ι0 z0) ψ) : Tm ok (fun ι0 => laws_toValueS.f (p ι0) a0 (G ι0)) ψ := by
  obtain ⟨z0, h1, h2⟩ := h
  exact (hG z0 h1).congr fun i0 hi0 => laws_toValueS.f_of (h2 (p i0) (hp i0 hi0)) _
theorem laws_toValue.f_of {β : Type} {k : Nat} {a0_0 : Int} {a0_1 : ByteArray} {a0_2 : Int} {a0_3 : List (List D)} {a0_4 : List (List D)} {z0 : Int} {z1 : ByteArray} {z2 : Int} {z3 : List (List C)} {z4 : List (List C)} (h : laws_toValue.t k a0_0 a0_1 a0_2 a0_3 a0_4 = some (z0, z1, z2, z3, z4)) (K : Int → ByteArray → Int → (List (List C)) → (List (List C)) → Option β) : laws_toValue.f k a0_0 a0_1 a0_2 a0_3 a0_4 K = K z0 z1 z2 z3 z4 := by
  unfold laws_toValue.f
  unfold laws_toValue.w
  rw [h]
theorem laws_toValue.tm {ι α : Type} {ok : ι → Prop} {ψ : α → Prop} {p : ι → Nat} {B : Nat} (hp : ∀ i, ok i → B ≤ p i) {a0_0 : Int} {a0_1 : ByteArray} {a0_2 : Int} {a0_3 : List (List D)} {a0_4 : List (List D)} {φ : Int × ByteArray × Int × (List (List C)) × (List (List C)) → Prop} (h : Tm (fun k => B ≤ k) (fun k => laws_toValue.t k a0_0 a0_1 a0_2 a0_3 a0_4) φ) {G : ι → Int → ByteArray → Int → (List (List C)) → (List (List C)) → Option α} (hG : ∀ z0 z1 z2 z3 z4, φ (z0, z1, z2, z3, z4) → Tm ok (fun ι0 => G ι0 z0 z1 z2 z3 z4) ψ) : Tm ok (fun ι0 => laws_toValue.f (p ι0) a0_0 a0_1 a0_2 a0_3 a0_4 (G ι0)) ψ := by
  obtain ⟨⟨z0, z1, z2, z3, z4⟩, h1, h2⟩ := h
  exact (hG z0 z1 z2 z3 z4 h1).congr fun i0 hi0 => laws_toValue.f_of (h2 (p i0) (hp i0 hi0)) _
theorem toVal (n : Nat) : (∀ (a : List (List D)), a.length ≤ lim → (∀ x ∈ a, Yc lim n x) → Tm (fun k => big + 2 * n + 1 ≤ k) (fun k => laws_toValueS.t k a) (fun z => z = Zs a)) ∧
    (∀ (c0 : Int) (c1 : ByteArray) (c2 : Int) (c3 c4 : List (List D)), c1.size ≤ lim → Zm RS lim c3 → c4.length ≤ lim → (∀ x ∈ c4, Yc lim n x) → Tm (fun k => big + 2 * n + 2 ≤ k) (fun k => laws_toValue.t k c0 c1 c2 c3 c4) (fun z => z.1 = c0 ∧ z.2.1 = c1 ∧ z.2.2.1 = c2 ∧ z.2.2.2.1 = Zs c3 ∧ z.2.2.2.2 = Zs c4)) := by
  have hm : Z6 = 2 ^ 36 := rfl
  have hlim : lim = 1048576 := rfl
  have hb : big = 2 ^ 64 := rfl
  induction n using Nat.strongRecOn with
  | ind n ih =>
  have S : ∀ (a : List (List D)), a.length ≤ lim → (∀ x ∈ a, Yc lim n x) → Tm (fun k => big + 2 * n + 1 ≤ k) (fun k => laws_toValueS.t k a) (fun z => z = Zs a) := by
    intro a hlen g
    refine Tm.succ (g := fun k => laws_toValueS.g k a (fun z0 => some z0)) (fun k => laws_toValueS.t_succ k a) ?_
    unfold laws_toValueS.g laws_toValueS.body
    refine Tm.guard ⟨by omega, by omega, by omega, by omega⟩ ?_
    refine Tm.loop (okk := fun k => big + 2 * n ≤ k) (p := fun k => k) (fun i hi => by omega) (b := fun k => laws_toValueS.l0 k (laws_toValueS.f k) (laws_toValue.f k) a (fun z0 => some z0)) (fun v => match v with | (i, u1) => (((a.length : Int)) - i).toNat) (fun v => match v with | (i, u1) => 0 ≤ i ∧ i ≤ (a.length : Int) ∧ Zaw a ([.d (.int .i64 0), .d (.str (⟨#[]⟩ : ByteArray)), .d (.int .i64 0), .own ([] : List (List C)), .own ([] : List (List C))] : List C) i u1) ?_ ?_ ?_
    · rintro ⟨i, u1⟩ hI
      simp only [] at hI ⊢
      omega
    · exact ⟨by omega, by simp, Zaw.start _ _⟩
    · rintro ⟨i, u1⟩ hI L hL
      simp only [] at hI
      obtain ⟨i0, i1, hF⟩ := hI
      have hFl := hF.len i1
      simp only [laws_toValueS.l0]
      refine Tm.ite (fun h4 => ?_) (fun h4 => ?_)
      · simp only [decide_eq_true_eq] at h4
        refine Tm.atRow (by omega) (by omega) (fun x5 hx6 hm7 => ?_)
        obtain ⟨n', hn', c0, c1, c2, c3, c4, rfl, w0, g1, w2, g3, l4, g4⟩ : ∃ n', n = n' + 1 ∧ ∃ c0 c1 c2 c3 c4, x5 = [.int .i64 c0, .str c1, .int .i64 c2, .sl c3, .sl c4] ∧ (Lit.int .i64 c0).wf = true ∧ c1.size ≤ lim ∧ (Lit.int .i64 c2).wf = true ∧ Zm RS lim c3 ∧ c4.length ≤ lim ∧ ∀ x ∈ c4, Yc lim n' x := by
          have := g x5 hm7
          cases this with
          | mk c0 c1 c2 c3 c4 w0 g1 w2 g3 l4 g4 => exact ⟨_, rfl, _, _, _, _, _, rfl, w0, g1, w2, g3, l4, g4⟩
        refine Tm.uncons (Tm.dInt (Tm.uncons (Tm.dStr (Tm.uncons (Tm.dInt (Tm.uncons (Tm.dSl (Tm.uncons (Tm.dSl (Tm.atEnd ?_))))))))))
        refine laws_toValue.tm (B := big + 2 * n' + 2) (fun i hi => by have := hi.1; omega) ((ih n' (by omega)).2 c0 c1 c2 c3 c4 g1 g3 l4 g4) (fun y0 y1 y2 y3 y4 hy => ?_)
        simp only [] at hy
        obtain ⟨rfl, rfl, rfl, e3, e4⟩ := hy
        refine Tm.guard (by omega) (Tm.guard (by omega) ?_)
        rw [ZC (x := i + 1) (by omega) (by omega)]
        exact hL (_, _) ⟨by omega, by omega, hF.next i0 hx6 rfl (by simp [Zal, deepD, e3, e4])⟩ (by simp only []; omega)
      · simp only [decide_eq_false_iff_not, Int.not_lt] at h4
        exact Tm.ret (hF.all (by omega))
  refine ⟨S, ?_⟩
  intro c0 c1 c2 c3 c4 g1 g3 l4 g4
  refine Tm.succ (g := fun k => laws_toValue.g k c0 c1 c2 c3 c4 (fun z0 z1 z2 z3 z4 => some (z0, z1, z2, z3, z4))) (fun k => laws_toValue.t_succ k c0 c1 c2 c3 c4) ?_
  unfold laws_toValue.g laws_toValue.body
  refine laws_toStringS.tm (B := big) (fun i hi => by omega) (laws_toStringS.T g3) (fun y hy => ?_)
  refine laws_toValueS.tm (B := big + 2 * n + 1) (fun i hi => hi) (S c4 l4 g4) (fun y' hy' => ?_)
  exact Tm.ret ⟨rfl, rfl, rfl, hy.1, hy'⟩
theorem laws_toValueS.T {a0 : List (List D)} (g : Zm Yb lim a0) : Tm (Zay 1) (fun k => laws_toValueS.t k a0) (fun z => z = Zs a0 ∧ True) := by
  have hlim : lim = 1048576 := rfl
  have g' : ∀ x ∈ a0, Yc lim 1099511627776 x := fun x hx => by
    obtain ⟨h, hh, hx⟩ := g.2 x hx
    exact hx.mono (hh (by decide))
  exact (((toVal 1099511627776).1 a0 g.1 g').up (big_lv1 (n := 2 * 1099511627776 + 1) (by omega))).mono fun r hr => ⟨hr, trivial⟩
theorem laws_toValue.T {a0_0 : Int} {a0_1 : ByteArray} {a0_2 : Int} {a0_3 a0_4 : List (List D)} (g1 : a0_1.size ≤ lim) (g3 : Zm RS lim a0_3) (g4 : Zm Yb lim a0_4) : Tm (Zay 1) (fun k => laws_toValue.t k a0_0 a0_1 a0_2 a0_3 a0_4) (fun z => z.1 = a0_0 ∧ z.2.1 = a0_1 ∧ z.2.2.1 = a0_2 ∧ z.2.2.2.1 = Zs a0_3 ∧ z.2.2.2.2 = Zs a0_4 ∧ True) := by
  have hlim : lim = 1048576 := rfl
  have g' : ∀ x ∈ a0_4, Yc lim 1099511627776 x := fun x hx => by
    obtain ⟨h, hh, hx⟩ := g4.2 x hx
    exact hx.mono (hh (by decide))
  exact (((toVal 1099511627776).2 a0_0 a0_1 a0_2 a0_3 a0_4 g1 g3 g4.1 g').up (big_lv1 (n := 2 * 1099511627776 + 2) (by omega))).mono fun r hr => ⟨hr.1, hr.2.1, hr.2.2.1, hr.2.2.2.1, hr.2.2.2.2, trivial⟩
theorem laws_toObj.f_of {β : Type} {k : Nat} {a0_0 : Int} {a0_1 : ByteArray} {a0_2 : Int} {a0_3 : Int} {a0_4 : Int} {a0_5 : Bool} {a0_6 : List (List D)} {a0_7 : Int} {a0_8 : ByteArray} {a0_9 : Int} {a0_10 : List (List D)} {a0_11 : List (List D)} {a0_12 : Int} {a0_13 : ByteArray} {a0_14 : Int} {a0_15 : List (List D)} {a0_16 : List (List D)} {z0 : Int} {z1 : ByteArray} {z2 : Int} {z3 : Int} {z4 : Int} {z5 : Bool} {z6 : List (List C)} {z7 : Int} {z8 : ByteArray} {z9 : Int} {z10 : List (List C)} {z11 : List (List C)} {z12 : Int} {z13 : ByteArray} {z14 : Int} {z15 : List (List C)} {z16 : List (List C)} (h : laws_toObj.t k a0_0 a0_1 a0_2 a0_3 a0_4 a0_5 a0_6 a0_7 a0_8 a0_9 a0_10 a0_11 a0_12 a0_13 a0_14 a0_15 a0_16 = some (z0, z1, z2, z3, z4, z5, z6, z7, z8, z9, z10, z11, z12, z13, z14, z15, z16)) (K : Int → ByteArray → Int → Int → Int → Bool → (List (List C)) → Int → ByteArray → Int → (List (List C)) → (List (List C)) → Int → ByteArray → Int → (List (List C)) → (List (List C)) → Option β) : laws_toObj.f k a0_0 a0_1 a0_2 a0_3 a0_4 a0_5 a0_6 a0_7 a0_8 a0_9 a0_10 a0_11 a0_12 a0_13 a0_14 a0_15 a0_16 K = K z0 z1 z2 z3 z4 z5 z6 z7 z8 z9 z10 z11 z12 z13 z14 z15 z16 := by
  unfold laws_toObj.f
  rw [h]
theorem laws_toObj.tm {ι α : Type} {ok : ι → Prop} {ψ : α → Prop} {p : ι → Nat} {B : Nat} (hp : ∀ i, ok i → B ≤ p i) {a0_0 : Int} {a0_1 : ByteArray} {a0_2 : Int} {a0_3 : Int} {a0_4 : Int} {a0_5 : Bool} {a0_6 : List (List D)} {a0_7 : Int} {a0_8 : ByteArray} {a0_9 : Int} {a0_10 : List (List D)} {a0_11 : List (List D)} {a0_12 : Int} {a0_13 : ByteArray} {a0_14 : Int} {a0_15 : List (List D)} {a0_16 : List (List D)} {φ : Int × ByteArray × Int × Int × Int × Bool × (List (List C)) × Int × ByteArray × Int × (List (List C)) × (List (List C)) × Int × ByteArray × Int × (List (List C)) × (List (List C)) → Prop} (h : Tm (fun k => B ≤ k) (fun k => laws_toObj.t k a0_0 a0_1 a0_2 a0_3 a0_4 a0_5 a0_6 a0_7 a0_8 a0_9 a0_10 a0_11 a0_12 a0_13 a0_14 a0_15 a0_16) φ) {G : ι → Int → ByteArray → Int → Int → Int → Bool → (List (List C)) → Int → ByteArray → Int → (List (List C)) → (List (List C)) → Int → ByteArray → Int → (List (List C)) → (List (List C)) → Option α} (hG : ∀ z0 z1 z2 z3 z4 z5 z6 z7 z8 z9 z10 z11 z12 z13 z14 z15 z16, φ (z0, z1, z2, z3, z4, z5, z6, z7, z8, z9, z10, z11, z12, z13, z14, z15, z16) → Tm ok (fun ι0 => G ι0 z0 z1 z2 z3 z4 z5 z6 z7 z8 z9 z10 z11 z12 z13 z14 z15 z16) ψ) : Tm ok (fun ι0 => laws_toObj.f (p ι0) a0_0 a0_1 a0_2 a0_3 a0_4 a0_5 a0_6 a0_7 a0_8 a0_9 a0_10 a0_11 a0_12 a0_13 a0_14 a0_15 a0_16 (G ι0)) ψ := by
  obtain ⟨⟨z0, z1, z2, z3, z4, z5, z6, z7, z8, z9, z10, z11, z12, z13, z14, z15, z16⟩, h1, h2⟩ := h
  exact (hG z0 z1 z2 z3 z4 z5 z6 z7 z8 z9 z10 z11 z12 z13 z14 z15 z16 h1).congr fun i0 hi0 => laws_toObj.f_of (h2 (p i0) (hp i0 hi0)) _
theorem laws_toObj.T {a0_0 : Int} {a0_1 : ByteArray} {a0_2 : Int} {a0_3 : Int} {a0_4 : Int} {a0_5 : Bool} {a0_6 : List (List D)} {a0_7 : Int} {a0_8 : ByteArray} {a0_9 : Int} {a0_10 : List (List D)} {a0_11 : List (List D)} {a0_12 : Int} {a0_13 : ByteArray} {a0_14 : Int} {a0_15 : List (List D)} {a0_16 : List (List D)} (ga0_1 : a0_1.size ≤ lim) (ga0_6 : Zm RS lim a0_6) (ga0_8 : a0_8.size ≤ lim) (ga0_10 : Zm RS lim a0_10) (ga0_11 : Zm Yb lim a0_11) (ga0_13 : a0_13.size ≤ lim) (ga0_15 : Zm RS lim a0_15) (ga0_16 : Zm Yb lim a0_16) : Tm (Zay 1) (fun k => laws_toObj.t k a0_0 a0_1 a0_2 a0_3 a0_4 a0_5 a0_6 a0_7 a0_8 a0_9 a0_10 a0_11 a0_12 a0_13 a0_14 a0_15 a0_16) (fun z => z.1 = a0_0 ∧ z.2.1 = a0_1 ∧ z.2.2.1 = a0_2 ∧ z.2.2.2.1 = a0_3 ∧ z.2.2.2.2.1 = a0_4 ∧ z.2.2.2.2.2.1 = a0_5 ∧ z.2.2.2.2.2.2.1 = Zs a0_6 ∧ z.2.2.2.2.2.2.2.1 = a0_7 ∧ z.2.2.2.2.2.2.2.2.1 = a0_8 ∧ z.2.2.2.2.2.2.2.2.2.1 = a0_9 ∧ z.2.2.2.2.2.2.2.2.2.2.1 = Zs a0_10 ∧ z.2.2.2.2.2.2.2.2.2.2.2.1 = Zs a0_11 ∧ z.2.2.2.2.2.2.2.2.2.2.2.2.1 = a0_12 ∧ z.2.2.2.2.2.2.2.2.2.2.2.2.2.1 = a0_13 ∧ z.2.2.2.2.2.2.2.2.2.2.2.2.2.2.1 = a0_14 ∧ z.2.2.2.2.2.2.2.2.2.2.2.2.2.2.2.1 = Zs a0_15 ∧ z.2.2.2.2.2.2.2.2.2.2.2.2.2.2.2.2 = Zs a0_16 ∧ True) := by
  unfold laws_toObj.t laws_toObj.g
  have hm := Za
  have hlim : lim = 1048576 := rfl
  refine laws_toStringS.tm (fun i hi => up0 hi) (laws_toStringS.T (by first | assumption | omega)) (fun y2 hy1 => ?_)
  try simp only [] at hy1
  obtain ⟨rfl, _⟩ := hy1
  try simp only [ZF]
  refine laws_toValue.tm (fun i hi => hi) (laws_toValue.T (by first | assumption | omega) (by first | assumption | omega) (by first | assumption | omega)) (fun y4 y5 y6 y7 y8 hy3 => ?_)
  try simp only [] at hy3
  obtain ⟨rfl, rfl, rfl, rfl, rfl, _⟩ := hy3
  try simp only [ZF]
  refine laws_toValue.tm (fun i hi => hi) (laws_toValue.T (by first | assumption | omega) (by first | assumption | omega) (by first | assumption | omega)) (fun y10 y11 y12 y13 y14 hy9 => ?_)
  try simp only [] at hy9
  obtain ⟨rfl, rfl, rfl, rfl, rfl, _⟩ := hy9
  try simp only [ZF]
  exact Tm.ret (by exact ⟨by first | rfl | assumption, by first | rfl | assumption, by first | rfl | assumption, by first | rfl | assumption, by first | rfl | assumption, by first | rfl | assumption, by first | rfl | assumption, by first | rfl | assumption, by first | rfl | assumption, by first | rfl | assumption, by first | rfl | assumption, by first | rfl | assumption, by first | rfl | assumption, by first | rfl | assumption, by first | rfl | assumption, by first | rfl | assumption, by first | rfl | assumption, trivial⟩)
theorem laws_toObjS.f_of {β : Type} {k : Nat} {a0 : List (List D)} {z0 : List (List C)} (h : laws_toObjS.t k a0 = some z0) (K : (List (List C)) → Option β) : laws_toObjS.f k a0 K = K z0 := by
  unfold laws_toObjS.f
  rw [h]
theorem laws_toObjS.tm {ι α : Type} {ok : ι → Prop} {ψ : α → Prop} {p : ι → Nat} {B : Nat} (hp : ∀ i, ok i → B ≤ p i) {a0 : List (List D)} {φ : (List (List C)) → Prop} (h : Tm (fun k => B ≤ k) (fun k => laws_toObjS.t k a0) φ) {G : ι → (List (List C)) → Option α} (hG : ∀ z0, φ z0 → Tm ok (fun ι0 => G ι0 z0) ψ) : Tm ok (fun ι0 => laws_toObjS.f (p ι0) a0 (G ι0)) ψ := by
  obtain ⟨z0, h1, h2⟩ := h
  exact (hG z0 h1).congr fun i0 hi0 => laws_toObjS.f_of (h2 (p i0) (hp i0 hi0)) _
theorem laws_toObjS.T {a0 : List (List D)} (ga0 : Zm Ya lim a0) : Tm (Zay 1) (fun k => laws_toObjS.t k a0) (fun z => z = Zs a0 ∧ True) := by
  unfold laws_toObjS.t laws_toObjS.g
  have hm := Za
  have hlim : lim = 1048576 := rfl
  have hlen := ga0.1
  refine Tm.guard (by first | omega | (simp only [lim, Za, Z6] at *; omega) | (simp only [lim, Z6] at *; refine ⟨?_, ?_, ?_, ?_⟩ <;> omega)) ?_
  refine Tm.loop (okk := (Zay 1)) (p := fun k => k) (fun i hi => up0 hi) (b := fun k => laws_toObjS.l0 k a0 (fun z0 => some z0)) (fun v => match v with | (i, u1) => (((a0.length : Int)) - i).toNat) (fun v => match v with | (i, u1) => 0 ≤ i ∧ i ≤ (a0.length : Int) ∧ Zaw a0 ([.d (.int .i64 0), .d (.str (⟨#[]⟩ : ByteArray)), .d (.int .i64 0), .d (.int .i64 0), .d (.int .i64 0), .d (.bool false), .own ([] : List (List C)), .d (.int .i64 0), .d (.str (⟨#[]⟩ : ByteArray)), .d (.int .i64 0), .own ([] : List (List C)), .own ([] : List (List C)), .d (.int .i64 0), .d (.str (⟨#[]⟩ : ByteArray)), .d (.int .i64 0), .own ([] : List (List C)), .own ([] : List (List C))] : List C) i u1) ?_ ?_ ?_
  · rintro ⟨i, u1⟩ hI
    try simp only [] at hI ⊢
    have : big = 2 ^ 64 := rfl
    have := ga0.1
    simp only [lim] at this
    omega
  · exact ⟨by omega, by simp, Zaw.start _ _⟩
  · rintro ⟨i, u1⟩ hI L hL
    try simp only [] at hI
    obtain ⟨i0, i1, hF⟩ := hI
    have hFl := hF.len i1
    simp only [laws_toObjS.l0]
    refine Tm.ite (fun h1 => ?_) (fun h1 => ?_)
    · try simp only [bz0, bz1, bz2, bz3, bz4, bz5, bz6, bz7, bz8, bz9, bza] at h1
      refine Tm.atRow (by first | assumption | omega) (by first | assumption | omega) (fun x2 hx3 hm4 => ?_)
      obtain ⟨c5, c6, c7, c8, c9, c10, c11, c12, c13, c14, c15, c16, c17, c18, c19, c20, c21, rfl, g22, g23, g24, g25, g26, g27, g28, g29, g30, g31, g32, g33, g34, g35, g36, g37, _⟩ := (ga0.2 x2 hm4).open
      refine Tm.uncons ?_
      refine Tm.dInt ?_
      refine Tm.uncons ?_
      refine Tm.dStr ?_
      refine Tm.uncons ?_
      refine Tm.dInt ?_
      refine Tm.uncons ?_
      refine Tm.dInt ?_
      refine Tm.uncons ?_
      refine Tm.dInt ?_
      refine Tm.uncons ?_
      refine Tm.dBool ?_
      refine Tm.uncons ?_
      refine Tm.dSl ?_
      refine Tm.uncons ?_
      refine Tm.dInt ?_
      refine Tm.uncons ?_
      refine Tm.dStr ?_
      refine Tm.uncons ?_
      refine Tm.dInt ?_
      refine Tm.uncons ?_
      refine Tm.dSl ?_
      refine Tm.uncons ?_
      refine Tm.dSl ?_
      refine Tm.uncons ?_
      refine Tm.dInt ?_
      refine Tm.uncons ?_
      refine Tm.dStr ?_
      refine Tm.uncons ?_
      refine Tm.dInt ?_
      refine Tm.uncons ?_
      refine Tm.dSl ?_
      refine Tm.uncons ?_
      refine Tm.dSl ?_
      refine Tm.atEnd ?_
      refine laws_toObj.tm (fun i hi => hi.1) (laws_toObj.T (by first | assumption | omega) (by first | assumption | omega) (by first | assumption | omega) (by first | assumption | omega) (by first | assumption | omega) (by first | assumption | omega) (by first | assumption | omega) (by first | assumption | omega)) (fun y39 y40 y41 y42 y43 y44 y45 y46 y47 y48 y49 y50 y51 y52 y53 y54 y55 hy38 => ?_)
      try simp only [] at hy38
      obtain ⟨rfl, rfl, rfl, rfl, rfl, rfl, rfl, rfl, rfl, rfl, rfl, rfl, rfl, rfl, rfl, rfl, rfl, _⟩ := hy38
      try simp only [ZF]
      refine Tm.guard (by first | omega | (simp only [lim, Za, Z6] at *; omega) | (simp only [lim, Z6] at *; refine ⟨?_, ?_, ?_, ?_⟩ <;> omega)) ?_
      refine Tm.guard (by first | omega | (simp only [lim, Za, Z6] at *; omega) | (simp only [lim, Z6] at *; refine ⟨?_, ?_, ?_, ?_⟩ <;> omega)) ?_
      try rw [ZC (x := i + 1) (by omega) (by omega)]
      refine hL (_, _) ⟨by omega, by omega, hF.next i0 hx3 rfl (by simp [Zal, deepD])⟩ (by (try simp only []); omega)
    · try simp only [bz0, bz1, bz2, bz3, bz4, bz5, bz6, bz7, bz8, bz9, bza] at h1
      exact Tm.ret (by exact ⟨hF.all (by omega), trivial⟩)
theorem laws_toMirror.f_of {β : Type} {k : Nat} {a0_0 : Int} {a0_1 : List (List D)} {z0 : Int} {z1 : List (List C)} (h : laws_toMirror.t k a0_0 a0_1 = some (z0, z1)) (K : Int → (List (List C)) → Option β) : laws_toMirror.f k a0_0 a0_1 K = K z0 z1 := by
  unfold laws_toMirror.f
  rw [h]
theorem laws_toMirror.tm {ι α : Type} {ok : ι → Prop} {ψ : α → Prop} {p : ι → Nat} {B : Nat} (hp : ∀ i, ok i → B ≤ p i) {a0_0 : Int} {a0_1 : List (List D)} {φ : Int × (List (List C)) → Prop} (h : Tm (fun k => B ≤ k) (fun k => laws_toMirror.t k a0_0 a0_1) φ) {G : ι → Int → (List (List C)) → Option α} (hG : ∀ z0 z1, φ (z0, z1) → Tm ok (fun ι0 => G ι0 z0 z1) ψ) : Tm ok (fun ι0 => laws_toMirror.f (p ι0) a0_0 a0_1 (G ι0)) ψ := by
  obtain ⟨⟨z0, z1⟩, h1, h2⟩ := h
  exact (hG z0 z1 h1).congr fun i0 hi0 => laws_toMirror.f_of (h2 (p i0) (hp i0 hi0)) _
theorem laws_toMirror.T {a0_0 : Int} {a0_1 : List (List D)} (ga0_1 : Zm Ya lim a0_1) : Tm (Zay 1) (fun k => laws_toMirror.t k a0_0 a0_1) (fun z => z.1 = a0_0 ∧ z.2 = Zs a0_1 ∧ True) := by
  unfold laws_toMirror.t laws_toMirror.g
  have hm := Za
  have hlim : lim = 1048576 := rfl
  refine laws_toObjS.tm (fun i hi => hi) (laws_toObjS.T (by first | assumption | omega)) (fun y2 hy1 => ?_)
  try simp only [] at hy1
  obtain ⟨rfl, _⟩ := hy1
  try simp only [ZF]
  exact Tm.ret (by exact ⟨by first | rfl | assumption, by first | rfl | assumption, trivial⟩)
theorem spec_l1In.f_of {β : Type} {k : Nat} {a0 : Int} {a1 : Int} {a2 : Int} {z0 : Bool} (h : spec_l1In.t k a0 a1 a2 = some z0) (K : Bool → Option β) : spec_l1In.f k a0 a1 a2 K = K z0 := by
  unfold spec_l1In.f
  rw [h]
theorem spec_l1In.tm {ι α : Type} {ok : ι → Prop} {ψ : α → Prop} {p : ι → Nat} {B : Nat} (hp : ∀ i, ok i → B ≤ p i) {a0 : Int} {a1 : Int} {a2 : Int} {φ : Bool → Prop} (h : Tm (fun k => B ≤ k) (fun k => spec_l1In.t k a0 a1 a2) φ) {G : ι → Bool → Option α} (hG : ∀ z0, φ z0 → Tm ok (fun ι0 => G ι0 z0) ψ) : Tm ok (fun ι0 => spec_l1In.f (p ι0) a0 a1 a2 (G ι0)) ψ := by
  obtain ⟨z0, h1, h2⟩ := h
  exact (hG z0 h1).congr fun i0 hi0 => spec_l1In.f_of (h2 (p i0) (hp i0 hi0)) _
theorem spec_l1In.T {a0 : Int} {a1 : Int} {a2 : Int} : Tm Zar (fun k => spec_l1In.t k a0 a1 a2) (fun r => r = true → a1 ≤ a0 ∧ a0 ≤ a2) := by
  unfold spec_l1In.t spec_l1In.g
  have hm := Za
  have hlim : lim = 1048576 := rfl
  refine Tm.ite (fun h1 => ?_) (fun h1 => ?_)
  · try simp only [bz0, bz1, bz2, bz3, bz4, bz5, bz6, bz7, bz8, bz9, bza] at h1
    exact Tm.ret (by first | (intro h; simp at h; omega) | (intro h; cases h))
  · try simp only [bz0, bz1, bz2, bz3, bz4, bz5, bz6, bz7, bz8, bz9, bza] at h1
    exact Tm.ret (by first | (intro h; simp at h; omega) | (intro h; cases h))
noncomputable def spec_l1In.v (a0 : Int) (a1 : Int) (a2 : Int) : Bool := (spec_l1In.t big a0 a1 a2).getD default
theorem spec_l1In.tv {a0 : Int} {a1 : Int} {a2 : Int} {k : Nat} (hk : Zar k) : spec_l1In.t k a0 a1 a2 = some (spec_l1In.v a0 a1 a2) := (spec_l1In.T).val hk
theorem spec_l1In.fv {a0 : Int} {a1 : Int} {a2 : Int} {k : Nat} (hk : Zar k) {β : Type} (K : Bool → Option β) : spec_l1In.f k a0 a1 a2 K = K (spec_l1In.v a0 a1 a2) := spec_l1In.f_of (spec_l1In.tv hk) K
theorem l1In_f {β : Type} {k : Nat} {a b c : Int} (K : Bool → Option β) : spec_l1In.f k a b c K = K (decide (b ≤ a) && decide (a ≤ c)) := by
  refine spec_l1In.f_of ?_ K
  unfold spec_l1In.t spec_l1In.g
  by_cases h : b ≤ a <;> simp [h]
def inB (a b c : Int) : Bool := decide (b ≤ a) && decide (a ≤ c)
theorem l1In_fv {β : Type} {k : Nat} {a b c : Int} (K : Bool → Option β) : spec_l1In.f k a b c K = K (inB a b c) := l1In_f K
theorem spec_NameOk.f_of {β : Type} {k : Nat} {a0 : ByteArray} {z0 : Bool} (h : spec_NameOk.t k a0 = some z0) (K : Bool → Option β) : spec_NameOk.f k a0 K = K z0 := by
  unfold spec_NameOk.f
  rw [h]
theorem spec_NameOk.tm {ι α : Type} {ok : ι → Prop} {ψ : α → Prop} {p : ι → Nat} {B : Nat} (hp : ∀ i, ok i → B ≤ p i) {a0 : ByteArray} {φ : Bool → Prop} (h : Tm (fun k => B ≤ k) (fun k => spec_NameOk.t k a0) φ) {G : ι → Bool → Option α} (hG : ∀ z0, φ z0 → Tm ok (fun ι0 => G ι0 z0) ψ) : Tm ok (fun ι0 => spec_NameOk.f (p ι0) a0 (G ι0)) ψ := by
  obtain ⟨z0, h1, h2⟩ := h
  exact (hG z0 h1).congr fun i0 hi0 => spec_NameOk.f_of (h2 (p i0) (hp i0 hi0)) _
theorem spec_NameOk.T {a0 : ByteArray} (ga0 : a0.size ≤ lim) : Tm Zar (fun k => spec_NameOk.t k a0) (fun _ => True) := by
  unfold spec_NameOk.t spec_NameOk.g
  have hm := Za
  have hlim : lim = 1048576 := rfl
  refine Tm.loop (okk := Zar) (p := fun k => k) (fun i hi => hi) (b := fun k => spec_NameOk.l0 k a0 (fun z0 => some z0)) (fun i => (((a0.size : Int)) - i).toNat) (fun i => 0 ≤ i ∧ i ≤ (a0.size : Int)) ?_ ?_ ?_
  · rintro i hI
    try simp only [] at hI ⊢
    have : big = 2 ^ 64 := rfl
    omega
  · ((try simp only []); omega)
  · rintro i hI L hL
    try simp only [] at hI
    obtain ⟨i0, i1⟩ := hI
    simp only [spec_NameOk.l0]
    refine Tm.ite (fun h1 => ?_) (fun h1 => ?_)
    · try simp only [bz0, bz1, bz2, bz3, bz4, bz5, bz6, bz7, bz8, bz9, bza] at h1
      refine Tm.atStr (by first | assumption | omega) (by first | assumption | omega) (fun b2 hb3 => ?_)
      try rw [ZC (x := (b2.toNat : Int)) (by omega) (by omega)]
      refine spec_l1In.tm (fun i hi => hi.1) (spec_l1In.T) (fun y5 hy4 => ?_)
      refine Tm.ite (fun h6 => ?_) (fun h6 => ?_)
      · try simp only [bz0, bz1, bz2, bz3, bz4, bz5, bz6, bz7, bz8, bz9, bza] at h6
        refine Tm.atStr (by first | assumption | omega) (by first | assumption | omega) (fun b7 hb8 => ?_)
        try rw [ZC (x := (b7.toNat : Int)) (by omega) (by omega)]
        refine spec_l1In.tm (fun i hi => hi.1) (spec_l1In.T) (fun y10 hy9 => ?_)
        refine Tm.ite (fun h11 => ?_) (fun h11 => ?_)
        · try simp only [bz0, bz1, bz2, bz3, bz4, bz5, bz6, bz7, bz8, bz9, bza] at h11
          refine Tm.atStr (by first | assumption | omega) (by first | assumption | omega) (fun b12 hb13 => ?_)
          refine Tm.ite (fun h14 => ?_) (fun h14 => ?_)
          · try simp only [bz0, bz1, bz2, bz3, bz4, bz5, bz6, bz7, bz8, bz9, bza] at h14
            exact Tm.ret (by trivial)
          · try simp only [bz0, bz1, bz2, bz3, bz4, bz5, bz6, bz7, bz8, bz9, bza] at h14
            try rw [ZC (x := i + 1) (by omega) (by omega)]
            exact hL _ (by (try simp only []); omega) (by (try simp only []); omega)
        · try simp only [bz0, bz1, bz2, bz3, bz4, bz5, bz6, bz7, bz8, bz9, bza] at h11
          have z15 := hy9 h11
          try rw [ZC (x := i + 1) (by omega) (by omega)]
          exact hL _ (by (try simp only []); omega) (by (try simp only []); omega)
      · try simp only [bz0, bz1, bz2, bz3, bz4, bz5, bz6, bz7, bz8, bz9, bza] at h6
        have z16 := hy4 h6
        try rw [ZC (x := i + 1) (by omega) (by omega)]
        exact hL _ (by (try simp only []); omega) (by (try simp only []); omega)
    · try simp only [bz0, bz1, bz2, bz3, bz4, bz5, bz6, bz7, bz8, bz9, bza] at h1
      refine spec_l1In.tm (fun i hi => hi.1) (spec_l1In.T) (fun y18 hy17 => ?_)
      refine Tm.ite (fun h19 => ?_) (fun h19 => ?_)
      · try simp only [bz0, bz1, bz2, bz3, bz4, bz5, bz6, bz7, bz8, bz9, bza] at h19
        have z20 := hy17 h19
        refine Tm.atStr (by first | assumption | omega) (by first | assumption | omega) (fun b21 hb22 => ?_)
        refine Tm.ite (fun h23 => ?_) (fun h23 => ?_)
        · try simp only [bz0, bz1, bz2, bz3, bz4, bz5, bz6, bz7, bz8, bz9, bza] at h23
          try rw [ZC (x := (a0.size : Int) - 1) (by omega) (by omega)]
          refine Tm.atStr (by first | assumption | omega) (by first | assumption | omega) (fun b24 hb25 => ?_)
          exact Tm.ret (by trivial)
        · try simp only [bz0, bz1, bz2, bz3, bz4, bz5, bz6, bz7, bz8, bz9, bza] at h23
          exact Tm.ret (by trivial)
      · try simp only [bz0, bz1, bz2, bz3, bz4, bz5, bz6, bz7, bz8, bz9, bza] at h19
        exact Tm.ret (by trivial)
noncomputable def spec_NameOk.v (a0 : ByteArray) : Bool := (spec_NameOk.t big a0).getD default
theorem spec_NameOk.tv {a0 : ByteArray} (ga0 : a0.size ≤ lim) {k : Nat} (hk : Zar k) : spec_NameOk.t k a0 = some (spec_NameOk.v a0) := (spec_NameOk.T ga0).val hk
theorem spec_NameOk.fv {a0 : ByteArray} (ga0 : a0.size ≤ lim) {k : Nat} (hk : Zar k) {β : Type} (K : Bool → Option β) : spec_NameOk.f k a0 K = K (spec_NameOk.v a0) := spec_NameOk.f_of (spec_NameOk.tv ga0 hk) K
noncomputable def Yj (xs : List (List D)) : Bool := (List.range xs.length).all fun i => spec_NameOk.v (gS xs (i : Int) 0) && (!decide ((i : Int) > 0) || strLt (gS xs ((i : Int) - 1) 0) (gS xs (i : Int) 0))
theorem spec_l7Waits.f_of {β : Type} {k : Nat} {a0 : List (List D)} {z0 : Bool} (h : spec_l7Waits.t k a0 = some z0) (K : Bool → Option β) : spec_l7Waits.f k a0 K = K z0 := by
  unfold spec_l7Waits.f
  rw [h]
theorem spec_l7Waits.tm {ι α : Type} {ok : ι → Prop} {ψ : α → Prop} {p : ι → Nat} {B : Nat} (hp : ∀ i, ok i → B ≤ p i) {a0 : List (List D)} {φ : Bool → Prop} (h : Tm (fun k => B ≤ k) (fun k => spec_l7Waits.t k a0) φ) {G : ι → Bool → Option α} (hG : ∀ z0, φ z0 → Tm ok (fun ι0 => G ι0 z0) ψ) : Tm ok (fun ι0 => spec_l7Waits.f (p ι0) a0 (G ι0)) ψ := by
  obtain ⟨z0, h1, h2⟩ := h
  exact (hG z0 h1).congr fun i0 hi0 => spec_l7Waits.f_of (h2 (p i0) (hp i0 hi0)) _
theorem spec_l7Waits.T {a0 : List (List D)} (ga0 : Zm RS lim a0) : Tm Zar (fun k => spec_l7Waits.t k a0) (fun _ => True) := by
  unfold spec_l7Waits.t spec_l7Waits.g
  have hm := Za
  have hlim : lim = 1048576 := rfl
  have la0 := ga0.1
  refine Tm.loop (okk := Zar) (p := fun k => k) (fun i hi => hi) (b := fun k => spec_l7Waits.l0 k a0 (fun z0 => some z0)) (fun i => (((a0.length : Int)) - i).toNat) (fun i => 0 ≤ i ∧ i ≤ (a0.length : Int)) ?_ ?_ ?_
  · rintro i hI
    try simp only [] at hI ⊢
    have : big = 2 ^ 64 := rfl
    omega
  · ((try simp only []); omega)
  · rintro i hI L hL
    try simp only [] at hI
    obtain ⟨i0, i1⟩ := hI
    simp only [spec_l7Waits.l0]
    refine Tm.ite (fun h1 => ?_) (fun h1 => ?_)
    · try simp only [bz0, bz1, bz2, bz3, bz4, bz5, bz6, bz7, bz8, bz9, bza] at h1
      refine Tm.atRow (by first | assumption | omega) (by first | assumption | omega) (fun x2 hx3 hm4 => ?_)
      obtain ⟨c5, rfl, g6, _⟩ := (ga0.2 x2 hm4).open
      refine Tm.uncons ?_
      refine Tm.dStr ?_
      refine Tm.atEnd ?_
      refine spec_NameOk.tm (fun i hi => hi.1) (spec_NameOk.T (by first | assumption | omega)) (fun y8 hy7 => ?_)
      refine Tm.ite (fun h9 => ?_) (fun h9 => ?_)
      · try simp only [bz0, bz1, bz2, bz3, bz4, bz5, bz6, bz7, bz8, bz9, bza] at h9
        exact Tm.ret (by trivial)
      · try simp only [bz0, bz1, bz2, bz3, bz4, bz5, bz6, bz7, bz8, bz9, bza] at h9
        refine Tm.ite (fun h10 => ?_) (fun h10 => ?_)
        · try simp only [bz0, bz1, bz2, bz3, bz4, bz5, bz6, bz7, bz8, bz9, bza] at h10
          try rw [ZC (x := i - 1) (by omega) (by omega)]
          refine Tm.atRow (by first | assumption | omega) (by first | assumption | omega) (fun x11 hx12 hm13 => ?_)
          obtain ⟨c14, rfl, g15, _⟩ := (ga0.2 x11 hm13).open
          refine Tm.uncons ?_
          refine Tm.dStr ?_
          refine Tm.atEnd ?_
          refine Tm.atRow (by first | assumption | omega) (by first | assumption | omega) (fun x16 hx17 hm18 => ?_)
          rw [hx3] at hx17
          injection hx17 with hx17
          subst hx17
          refine Tm.uncons ?_
          refine Tm.dStr ?_
          refine Tm.atEnd ?_
          refine Tm.ite (fun h20 => ?_) (fun h20 => ?_)
          · try simp only [bz0, bz1, bz2, bz3, bz4, bz5, bz6, bz7, bz8, bz9, bza] at h20
            exact Tm.ret (by trivial)
          · try simp only [bz0, bz1, bz2, bz3, bz4, bz5, bz6, bz7, bz8, bz9, bza] at h20
            try rw [ZC (x := i + 1) (by omega) (by omega)]
            exact hL _ (by (try simp only []); omega) (by (try simp only []); omega)
        · try simp only [bz0, bz1, bz2, bz3, bz4, bz5, bz6, bz7, bz8, bz9, bza] at h10
          try rw [ZC (x := i + 1) (by omega) (by omega)]
          exact hL _ (by (try simp only []); omega) (by (try simp only []); omega)
    · try simp only [bz0, bz1, bz2, bz3, bz4, bz5, bz6, bz7, bz8, bz9, bza] at h1
      exact Tm.ret (by trivial)
noncomputable def spec_l7Waits.v (a0 : List (List D)) : Bool := (spec_l7Waits.t big a0).getD default
theorem spec_l7Waits.tv {a0 : List (List D)} (ga0 : Zm RS lim a0) {k : Nat} (hk : Zar k) : spec_l7Waits.t k a0 = some (spec_l7Waits.v a0) := (spec_l7Waits.T ga0).val hk
theorem spec_l7Waits.fv {a0 : List (List D)} (ga0 : Zm RS lim a0) {k : Nat} (hk : Zar k) {β : Type} (K : Bool → Option β) : spec_l7Waits.f k a0 K = K (spec_l7Waits.v a0) := spec_l7Waits.f_of (spec_l7Waits.tv ga0 hk) K
theorem spec_l4Text.f_of {β : Type} {k : Nat} {a0 : ByteArray} {z0 : Bool} (h : spec_l4Text.t k a0 = some z0) (K : Bool → Option β) : spec_l4Text.f k a0 K = K z0 := by
  unfold spec_l4Text.f
  rw [h]
theorem spec_l4Text.tm {ι α : Type} {ok : ι → Prop} {ψ : α → Prop} {p : ι → Nat} {B : Nat} (hp : ∀ i, ok i → B ≤ p i) {a0 : ByteArray} {φ : Bool → Prop} (h : Tm (fun k => B ≤ k) (fun k => spec_l4Text.t k a0) φ) {G : ι → Bool → Option α} (hG : ∀ z0, φ z0 → Tm ok (fun ι0 => G ι0 z0) ψ) : Tm ok (fun ι0 => spec_l4Text.f (p ι0) a0 (G ι0)) ψ := by
  obtain ⟨z0, h1, h2⟩ := h
  exact (hG z0 h1).congr fun i0 hi0 => spec_l4Text.f_of (h2 (p i0) (hp i0 hi0)) _
theorem spec_l4Text.T {a0 : ByteArray} (ga0 : a0.size ≤ lim) : Tm Zar (fun k => spec_l4Text.t k a0) (fun _ => True) := by
  unfold spec_l4Text.t spec_l4Text.g
  have hm := Za
  have hlim : lim = 1048576 := rfl
  refine Tm.loop (okk := Zar) (p := fun k => k) (fun i hi => hi) (b := fun k => spec_l4Text.l0 k a0 (fun z0 => some z0)) (fun i => (((a0.size : Int)) - i).toNat) (fun i => 0 ≤ i ∧ i ≤ (a0.size : Int)) ?_ ?_ ?_
  · rintro i hI
    try simp only [] at hI ⊢
    have : big = 2 ^ 64 := rfl
    omega
  · ((try simp only []); omega)
  · rintro i hI L hL
    try simp only [] at hI
    obtain ⟨i0, i1⟩ := hI
    simp only [spec_l4Text.l0]
    refine Tm.ite (fun h1 => ?_) (fun h1 => ?_)
    · try simp only [bz0, bz1, bz2, bz3, bz4, bz5, bz6, bz7, bz8, bz9, bza] at h1
      refine Tm.atStr (by first | assumption | omega) (by first | assumption | omega) (fun b2 hb3 => ?_)
      try rw [ZC (x := (b2.toNat : Int)) (by omega) (by omega)]
      refine spec_l1In.tm (fun i hi => hi.1) (spec_l1In.T) (fun y5 hy4 => ?_)
      refine Tm.ite (fun h6 => ?_) (fun h6 => ?_)
      · try simp only [bz0, bz1, bz2, bz3, bz4, bz5, bz6, bz7, bz8, bz9, bza] at h6
        exact Tm.ret (by trivial)
      · try simp only [bz0, bz1, bz2, bz3, bz4, bz5, bz6, bz7, bz8, bz9, bza] at h6
        have z7 := hy4 h6
        try rw [ZC (x := i + 1) (by omega) (by omega)]
        exact hL _ (by (try simp only []); omega) (by (try simp only []); omega)
    · try simp only [bz0, bz1, bz2, bz3, bz4, bz5, bz6, bz7, bz8, bz9, bza] at h1
      exact Tm.ret (by trivial)
noncomputable def spec_l4Text.v (a0 : ByteArray) : Bool := (spec_l4Text.t big a0).getD default
theorem spec_l4Text.tv {a0 : ByteArray} (ga0 : a0.size ≤ lim) {k : Nat} (hk : Zar k) : spec_l4Text.t k a0 = some (spec_l4Text.v a0) := (spec_l4Text.T ga0).val hk
theorem spec_l4Text.fv {a0 : ByteArray} (ga0 : a0.size ≤ lim) {k : Nat} (hk : Zar k) {β : Type} (K : Bool → Option β) : spec_l4Text.f k a0 K = K (spec_l4Text.v a0) := spec_l4Text.f_of (spec_l4Text.tv ga0 hk) K
def textB (s : ByteArray) : Bool := (List.range s.size).all fun i => inB (bS s (i : Int)) 32 126
theorem l4Text_fv {s : ByteArray} (g : s.size ≤ lim) {k : Nat} (hk : Zar k) {β : Type} (K : Bool → Option β) : spec_l4Text.f k s K = K (textB s && decide ((s.size : Int) ≤ 100)) := spec_l4Text.f_of (by
  have hlim : lim = 1048576 := rfl
  have hb : big = 2 ^ 64 := rfl
  unfold spec_l4Text.t spec_l4Text.g textB
  rw [iter_all0 (n := s.size) (fun i => inB (bS s (i : Int)) 32 126) (r1 := some false) (r2 := some (decide ((s.size : Int) ≤ 100))) (by unfold Zar at hk; omega)]
  · generalize List.all _ _ = x
    cases x <;> rfl
  · intro L i hi
    simp (disch := omega) only [spec_l4Text.l0, dec_true (show (i : Int) < s.size by omega), cond_true, atStr_at, wrap_b, l1In_fv, ZC]
    generalize inB _ _ _ = x
    cases x <;> rfl
  · intro L
    simp [spec_l4Text.l0]) K
theorem spec_l4Keys.f_of {β : Type} {k : Nat} {a0_0 : Int} {a0_1 : ByteArray} {a0_2 : Int} {a0_3 : List (List D)} {a0_4 : List (List D)} {z0 : Bool} (h : spec_l4Keys.t k a0_0 a0_1 a0_2 a0_3 a0_4 = some z0) (K : Bool → Option β) : spec_l4Keys.f k a0_0 a0_1 a0_2 a0_3 a0_4 K = K z0 := by
  unfold spec_l4Keys.f
  rw [h]
theorem spec_l4Keys.tm {ι α : Type} {ok : ι → Prop} {ψ : α → Prop} {p : ι → Nat} {B : Nat} (hp : ∀ i, ok i → B ≤ p i) {a0_0 : Int} {a0_1 : ByteArray} {a0_2 : Int} {a0_3 : List (List D)} {a0_4 : List (List D)} {φ : Bool → Prop} (h : Tm (fun k => B ≤ k) (fun k => spec_l4Keys.t k a0_0 a0_1 a0_2 a0_3 a0_4) φ) {G : ι → Bool → Option α} (hG : ∀ z0, φ z0 → Tm ok (fun ι0 => G ι0 z0) ψ) : Tm ok (fun ι0 => spec_l4Keys.f (p ι0) a0_0 a0_1 a0_2 a0_3 a0_4 (G ι0)) ψ := by
  obtain ⟨z0, h1, h2⟩ := h
  exact (hG z0 h1).congr fun i0 hi0 => spec_l4Keys.f_of (h2 (p i0) (hp i0 hi0)) _
theorem spec_l4Keys.T {a0_0 : Int} {a0_1 : ByteArray} {a0_2 : Int} {a0_3 : List (List D)} {a0_4 : List (List D)} (ga0_1 : a0_1.size ≤ lim) (ga0_3 : Zm RS lim a0_3) (ga0_4 : Zm Yb lim a0_4) : Tm Zar (fun k => spec_l4Keys.t k a0_0 a0_1 a0_2 a0_3 a0_4) (fun _ => True) := by
  unfold spec_l4Keys.t spec_l4Keys.g
  have hm := Za
  have hlim : lim = 1048576 := rfl
  have la0_3 := ga0_3.1
  have la0_4 := ga0_4.1
  refine Tm.loop (okk := Zar) (p := fun k => k) (fun i hi => hi) (b := fun k => spec_l4Keys.l0 k a0_0 a0_1 a0_2 a0_3 a0_4 (fun z0 => some z0)) (fun i => (((a0_3.length : Int)) - i).toNat) (fun i => 0 ≤ i ∧ i ≤ (a0_3.length : Int)) ?_ ?_ ?_
  · rintro i hI
    try simp only [] at hI ⊢
    have : big = 2 ^ 64 := rfl
    omega
  · ((try simp only []); omega)
  · rintro i hI L hL
    try simp only [] at hI
    obtain ⟨i0, i1⟩ := hI
    simp only [spec_l4Keys.l0]
    refine Tm.ite (fun h1 => ?_) (fun h1 => ?_)
    · try simp only [bz0, bz1, bz2, bz3, bz4, bz5, bz6, bz7, bz8, bz9, bza] at h1
      refine Tm.atRow (by first | assumption | omega) (by first | assumption | omega) (fun x2 hx3 hm4 => ?_)
      obtain ⟨c5, rfl, g6, _⟩ := (ga0_3.2 x2 hm4).open
      refine Tm.uncons ?_
      refine Tm.dStr ?_
      refine Tm.atEnd ?_
      refine spec_NameOk.tm (fun i hi => hi.1) (spec_NameOk.T (by first | assumption | omega)) (fun y8 hy7 => ?_)
      refine Tm.ite (fun h9 => ?_) (fun h9 => ?_)
      · try simp only [bz0, bz1, bz2, bz3, bz4, bz5, bz6, bz7, bz8, bz9, bza] at h9
        exact Tm.ret (by trivial)
      · try simp only [bz0, bz1, bz2, bz3, bz4, bz5, bz6, bz7, bz8, bz9, bza] at h9
        refine Tm.ite (fun h10 => ?_) (fun h10 => ?_)
        · try simp only [bz0, bz1, bz2, bz3, bz4, bz5, bz6, bz7, bz8, bz9, bza] at h10
          try rw [ZC (x := i - 1) (by omega) (by omega)]
          refine Tm.atRow (by first | assumption | omega) (by first | assumption | omega) (fun x11 hx12 hm13 => ?_)
          obtain ⟨c14, rfl, g15, _⟩ := (ga0_3.2 x11 hm13).open
          refine Tm.uncons ?_
          refine Tm.dStr ?_
          refine Tm.atEnd ?_
          refine Tm.atRow (by first | assumption | omega) (by first | assumption | omega) (fun x16 hx17 hm18 => ?_)
          rw [hx3] at hx17
          injection hx17 with hx17
          subst hx17
          refine Tm.uncons ?_
          refine Tm.dStr ?_
          refine Tm.atEnd ?_
          refine Tm.ite (fun h20 => ?_) (fun h20 => ?_)
          · try simp only [bz0, bz1, bz2, bz3, bz4, bz5, bz6, bz7, bz8, bz9, bza] at h20
            exact Tm.ret (by trivial)
          · try simp only [bz0, bz1, bz2, bz3, bz4, bz5, bz6, bz7, bz8, bz9, bza] at h20
            try rw [ZC (x := i + 1) (by omega) (by omega)]
            exact hL _ (by (try simp only []); omega) (by (try simp only []); omega)
        · try simp only [bz0, bz1, bz2, bz3, bz4, bz5, bz6, bz7, bz8, bz9, bza] at h10
          try rw [ZC (x := i + 1) (by omega) (by omega)]
          exact hL _ (by (try simp only []); omega) (by (try simp only []); omega)
    · try simp only [bz0, bz1, bz2, bz3, bz4, bz5, bz6, bz7, bz8, bz9, bza] at h1
      exact Tm.ret (by trivial)
noncomputable def spec_l4Keys.v (a0_0 : Int) (a0_1 : ByteArray) (a0_2 : Int) (a0_3 : List (List D)) (a0_4 : List (List D)) : Bool := (spec_l4Keys.t big a0_0 a0_1 a0_2 a0_3 a0_4).getD default
theorem spec_l4Keys.tv {a0_0 : Int} {a0_1 : ByteArray} {a0_2 : Int} {a0_3 : List (List D)} {a0_4 : List (List D)} (ga0_1 : a0_1.size ≤ lim) (ga0_3 : Zm RS lim a0_3) (ga0_4 : Zm Yb lim a0_4) {k : Nat} (hk : Zar k) : spec_l4Keys.t k a0_0 a0_1 a0_2 a0_3 a0_4 = some (spec_l4Keys.v a0_0 a0_1 a0_2 a0_3 a0_4) := (spec_l4Keys.T ga0_1 ga0_3 ga0_4).val hk
theorem spec_l4Keys.fv {a0_0 : Int} {a0_1 : ByteArray} {a0_2 : Int} {a0_3 : List (List D)} {a0_4 : List (List D)} (ga0_1 : a0_1.size ≤ lim) (ga0_3 : Zm RS lim a0_3) (ga0_4 : Zm Yb lim a0_4) {k : Nat} (hk : Zar k) {β : Type} (K : Bool → Option β) : spec_l4Keys.f k a0_0 a0_1 a0_2 a0_3 a0_4 K = K (spec_l4Keys.v a0_0 a0_1 a0_2 a0_3 a0_4) := spec_l4Keys.f_of (spec_l4Keys.tv ga0_1 ga0_3 ga0_4 hk) K
theorem spec_l4Look.f_of {β : Type} {k : Nat} {a0_0 : Int} {a0_1 : ByteArray} {a0_2 : Int} {a0_3 : List (List D)} {a0_4 : List (List D)} {a1 : Int} {z0 : Int} (h : spec_l4Look.t k a0_0 a0_1 a0_2 a0_3 a0_4 a1 = some z0) (K : Int → Option β) : spec_l4Look.f k a0_0 a0_1 a0_2 a0_3 a0_4 a1 K = K z0 := by
  unfold spec_l4Look.f
  unfold spec_l4Look.w
  rw [h]
theorem spec_l4Look.tm {ι α : Type} {ok : ι → Prop} {ψ : α → Prop} {p : ι → Nat} {B : Nat} (hp : ∀ i, ok i → B ≤ p i) {a0_0 : Int} {a0_1 : ByteArray} {a0_2 : Int} {a0_3 : List (List D)} {a0_4 : List (List D)} {a1 : Int} {φ : Int → Prop} (h : Tm (fun k => B ≤ k) (fun k => spec_l4Look.t k a0_0 a0_1 a0_2 a0_3 a0_4 a1) φ) {G : ι → Int → Option α} (hG : ∀ z0, φ z0 → Tm ok (fun ι0 => G ι0 z0) ψ) : Tm ok (fun ι0 => spec_l4Look.f (p ι0) a0_0 a0_1 a0_2 a0_3 a0_4 a1 (G ι0)) ψ := by
  obtain ⟨z0, h1, h2⟩ := h
  exact (hG z0 h1).congr fun i0 hi0 => spec_l4Look.f_of (h2 (p i0) (hp i0 hi0)) _
theorem l4Keys_fv {c0 : Int} {c1 : ByteArray} {c2 : Int} {c3 c4 : List (List D)} (g : Zm RS lim c3) {k : Nat} (hk : Zar k) {β : Type} (K : Bool → Option β) : spec_l4Keys.f k c0 c1 c2 c3 c4 K = K (Yj c3 && (c3.length : Int) == (c4.length : Int)) := spec_l4Keys.f_of (by
  have hl := g.1
  have hlim : lim = 1048576 := rfl
  have hb : big = 2 ^ 64 := rfl
  unfold spec_l4Keys.t spec_l4Keys.g
  rw [iter_all0 (n := c3.length) (fun i => spec_NameOk.v (gS c3 (i : Int) 0) && (!decide ((i : Int) > 0) || strLt (gS c3 ((i : Int) - 1) 0) (gS c3 (i : Int) 0))) (r1 := some false) (r2 := some ((c3.length : Int) == (c4.length : Int))) (by unfold Zar at hk; omega)]
  · unfold Yj
    generalize List.all _ _ = x
    cases x <;> rfl
  · intro L i hi
    have k0 := (RS.get g (v := (i : Int)) (by omega) (by omega)).2.1
    simp (disch := omega) only [spec_l4Keys.l0, dec_true (show (i : Int) < c3.length by omega), cond_true, RS.row g, uncons_at, dStr_at, atEnd_at, spec_NameOk.fv k0 hk, ZC]
    by_cases h0 : (i : Int) > 0
    · simp (disch := omega) only [dec_true h0, cond_true, RS.row g, uncons_at, dStr_at, atEnd_at]
      cases spec_NameOk.v (gS c3 (i : Int) 0) <;> cases strLt (gS c3 ((i : Int) - 1) 0) (gS c3 (i : Int) 0) <;> rfl
    · simp only [dec_false h0, cond_false]
      cases spec_NameOk.v (gS c3 (i : Int) 0) <;> rfl
  · intro L
    simp [spec_l4Keys.l0]) K
def Yl : ByteArray := (⟨#[]⟩ : ByteArray)
noncomputable def Yf (kind : Int) (text : ByteArray) (num : Int) (keys kids : List (List D)) : Bool :=
  bif kind == 1 then (keys.length : Int) == 0 && ((kids.length : Int) == 0 && (num == 0 && (textB text && decide ((text.size : Int) ≤ 100))))
  else bif kind == 2 then (keys.length : Int) == 0 && ((kids.length : Int) == 0 && strEq text Yl)
  else bif kind == 3 then (keys.length : Int) == 0 && ((kids.length : Int) == 0 && (strEq text Yl && inB num 0 1))
  else bif kind == 4 then (keys.length : Int) == 0 && (strEq text Yl && num == 0)
  else bif kind == 5 then (Yj keys && (keys.length : Int) == (kids.length : Int)) && (strEq text Yl && num == 0)
  else false
def Yg (f : List D → Int) : List (List D) → Int → Int
  | [], n => n
  | r :: rs, n => if f r = 0 ∨ n + f r > 300 then 0 else Yg f rs (n + f r)
noncomputable def Yd : Nat → List D → Int
  | 0, _ => 0
  | d + 1, r => bif Yg (Yd d) (rL r 4) 1 == 0 then 0 else bif Yf (rI r 0) (rS r 1) (rI r 2) (rL r 3) (rL r 4) then Yg (Yd d) (rL r 4) 1 else 0
theorem sumL_range {f : List D → Int} (hf : ∀ r, 0 ≤ f r) : ∀ {rs : List (List D)} {n : Int}, 1 ≤ n → n ≤ 300 → 0 ≤ Yg f rs n ∧ Yg f rs n ≤ 300 ∧ (Yg f rs n ≠ 0 → n + rs.length ≤ 300)
  | [], n, h, h' => by simp only [Yg, List.length_nil]; omega
  | r :: rs, n, h, h' => by
    have := hf r
    simp only [Yg]
    split
    · omega
    · have := sumL_range hf (rs := rs) (n := n + f r) (by omega) (by omega)
      simp only [List.length_cons]
      omega
theorem Yh : ∀ (d : Nat) (r : List D), 0 ≤ Yd d r ∧ Yd d r ≤ 300
  | 0, r => by simp [Yd]
  | d + 1, r => by
    have := sumL_range (f := Yd d) (fun r => (Yh d r).1) (rs := rL r 4) (n := 1) (by omega) (by omega)
    simp only [Yd]
    generalize Yg (Yd d) (rL r 4) 1 = n at *
    cases n == 0 <;> cases Yf (rI r 0) (rS r 1) (rI r 2) (rL r 3) (rL r 4) <;> simp <;> omega
theorem look_t (d : Nat) : ∀ {c0 : Int} {c1 : ByteArray} {c2 : Int} {c3 c4 : List (List D)}, c1.size ≤ lim → Zm RS lim c3 → Zm Yb lim c4 → d ≤ 6 → ∀ {k : Nat}, big + d + 1 ≤ k → spec_l4Look.t k c0 c1 c2 c3 c4 (d : Int) = some (Yd d [.int .i64 c0, .str c1, .int .i64 c2, .sl c3, .sl c4]) := by
  have hlim : lim = 1048576 := rfl
  have hb : big = 2 ^ 64 := rfl
  induction d with
  | zero =>
    intro c0 c1 c2 c3 c4 g1 g3 g4 hd k hk
    cases k with
    | zero => omega
    | succ k => rfl
  | succ d ih =>
    intro c0 c1 c2 c3 c4 g1 g3 g4 hd k hk
    cases k with
    | zero => omega
    | succ k =>
    have hl := g4.1
    have hk0 : Zar k := by unfold Zar; omega
    rw [spec_l4Look.t_succ]
    unfold spec_l4Look.g spec_l4Look.body
    rw [show (((d + 1 : Nat) : Int) == 0) = false by rw [beq_eq_false_iff_ne]; omega, cond_false]
    have key := iter_val (b := spec_l4Look.l0 k (spec_l4Look.f k) ((d + 1 : Nat) : Int) c0 c1 c2 c3 c4 fun z0 => some z0) (fun v => ((c4.length : Int) - v.2).toNat) (fun v => 0 ≤ v.2 ∧ v.2 ≤ c4.length ∧ 1 ≤ v.1 ∧ v.1 ≤ 300)
      (fun v => bif Yg (Yd d) (c4.drop v.2.toNat) v.1 == 0 then some 0 else bif Yf c0 c1 c2 c3 c4 then some (Yg (Yd d) (c4.drop v.2.toNat) v.1) else some 0) ?_ k (1, 0) (by simp only []; omega) (by simp only []; omega)
    · rw [key]
      simp only [Yd]
      show (bif Yg (Yd d) (List.drop 0 c4) 1 == 0 then some 0 else bif Yf c0 c1 c2 c3 c4 then some (Yg (Yd d) (List.drop 0 c4) 1) else some 0) = some (bif Yg (Yd d) c4 1 == 0 then 0 else bif Yf c0 c1 c2 c3 c4 then Yg (Yd d) c4 1 else 0)
      rw [List.drop_zero]
      cases Yg (Yd d) c4 1 == 0 <;> cases Yf c0 c1 c2 c3 c4 <;> rfl
    · rintro ⟨n, i⟩ ⟨i0, i1, n0, n1⟩ L hL
      simp only [] at i0 i1 n0 n1 hL ⊢
      by_cases hi : i < c4.length
      · have hg := Yb.get g4 i0 hi
        have hr := Yh d (gR c4 i)
        have ih' := ih (c0 := gI c4 i 0) (c2 := gI c4 i 2) hg.2.2.1 hg.2.2.2.2.1 hg.2.2.2.2.2.1 (by omega) (k := k) (by omega)
        rw [← hg.1] at ih'
        simp (disch := omega) only [spec_l4Look.l0, dec_true hi, cond_true, Yb.row g4, uncons_at, dStr_at, dInt_self, dSl_at, atEnd_at, ZC, show ((d + 1 : Nat) : Int) - 1 = (d : Int) by omega]
        rw [spec_l4Look.f_of ih', drop_gR i0 hi]
        simp only [Yg]
        by_cases hz : Yd d (gR c4 i) = 0
        · rw [hz]
          simp
        · rw [show (Yd d (gR c4 i) == 0) = false by rw [beq_eq_false_iff_ne]; exact hz, cond_false, ZC (by omega) (by omega)]
          by_cases hn : n + Yd d (gR c4 i) > 300
          · rw [dec_true hn, if_pos (.inr hn)]
            rfl
          · rw [dec_false hn, if_neg (by omega), cond_false, hL _ ⟨by simp only []; omega, by simp only []; omega, by simp only []; omega, by simp only []; omega⟩ (by simp only []; omega)]
      · rw [drop_end (by omega)]
        simp only [spec_l4Look.l0, dec_false hi, cond_false, Yg, l4Keys_fv g3 hk0, l1In_fv, l4Text_fv g1 hk0]
        rw [show (n == 0) = false by rw [beq_eq_false_iff_ne]; omega, cond_false]
        unfold Yf
        generalize (textB c1 && decide ((c1.size : Int) ≤ 100)) = b1
        generalize hb2 : strEq c1 (⟨#[]⟩ : ByteArray) = b2
        have hb3 : strEq c1 Yl = b2 := hb2
        rw [hb3]
        generalize Yj c3 = b3
        generalize inB c2 0 1 = b4
        generalize (c2 == 0) = b5
        generalize ((c4.length : Int) == 0) = b6
        generalize ((c3.length : Int) == (c4.length : Int)) = b7
        generalize ((c3.length : Int) == 0) = b8
        rcases ZaW c0 with rfl | rfl | rfl | rfl | rfl | ⟨e1, e2, e3, e4, e5⟩
        · cases b1 <;> cases b5 <;> cases b6 <;> cases b8 <;> rfl
        · cases b2 <;> cases b6 <;> cases b8 <;> rfl
        · cases b2 <;> cases b4 <;> cases b6 <;> cases b8 <;> rfl
        · cases b2 <;> cases b5 <;> cases b8 <;> rfl
        · cases b2 <;> cases b3 <;> cases b5 <;> cases b7 <;> cases b8 <;> rfl
        · cases b8 <;> simp only [e1, e2, e3, e4, e5, cond_false, cond_true]
theorem look_fv {d : Int} {c0 : Int} {c1 : ByteArray} {c2 : Int} {c3 c4 : List (List D)} (hd0 : 0 ≤ d) (hd : d ≤ 6) (g1 : c1.size ≤ lim) (g3 : Zm RS lim c3) (g4 : Zm Yb lim c4) {k : Nat} (hk : Zay 1 k) {β : Type} (K : Int → Option β) : spec_l4Look.f k c0 c1 c2 c3 c4 d K = K (Yd d.toNat [.int .i64 c0, .str c1, .int .i64 c2, .sl c3, .sl c4]) := by
  have hb : big = 2 ^ 64 := rfl
  have h1 : lv 1 = 2 ^ 65 := rfl
  obtain ⟨n, rfl⟩ : ∃ n : Nat, d = n := ⟨d.toNat, by omega⟩
  exact spec_l4Look.f_of (look_t n g1 g3 g4 (by omega) (by unfold Zay at hk; omega)) K
theorem spec_l4Look.T {a0_0 : Int} {a0_1 : ByteArray} {a0_2 : Int} {a0_3 a0_4 : List (List D)} {a1 : Int} (h0 : 0 ≤ a1) (h1 : a1 ≤ 6) (g1 : a0_1.size ≤ lim) (g3 : Zm RS lim a0_3) (g4 : Zm Yb lim a0_4) : Tm (Zay 1) (fun k => spec_l4Look.t k a0_0 a0_1 a0_2 a0_3 a0_4 a1) (fun _ => True) := by
  have hb : big = 2 ^ 64 := rfl
  have h2 : lv 1 = 2 ^ 65 := rfl
  obtain ⟨n, rfl⟩ : ∃ n : Nat, a1 = n := ⟨a1.toNat, by omega⟩
  exact Tm.of (fun k hk => look_t n g1 g3 g4 (by omega) (by omega)) trivial
theorem spec_ValueOk.f_of {β : Type} {k : Nat} {a0_0 : Int} {a0_1 : ByteArray} {a0_2 : Int} {a0_3 : List (List D)} {a0_4 : List (List D)} {z0 : Bool} (h : spec_ValueOk.t k a0_0 a0_1 a0_2 a0_3 a0_4 = some z0) (K : Bool → Option β) : spec_ValueOk.f k a0_0 a0_1 a0_2 a0_3 a0_4 K = K z0 := by
  unfold spec_ValueOk.f
  rw [h]
theorem spec_ValueOk.tm {ι α : Type} {ok : ι → Prop} {ψ : α → Prop} {p : ι → Nat} {B : Nat} (hp : ∀ i, ok i → B ≤ p i) {a0_0 : Int} {a0_1 : ByteArray} {a0_2 : Int} {a0_3 : List (List D)} {a0_4 : List (List D)} {φ : Bool → Prop} (h : Tm (fun k => B ≤ k) (fun k => spec_ValueOk.t k a0_0 a0_1 a0_2 a0_3 a0_4) φ) {G : ι → Bool → Option α} (hG : ∀ z0, φ z0 → Tm ok (fun ι0 => G ι0 z0) ψ) : Tm ok (fun ι0 => spec_ValueOk.f (p ι0) a0_0 a0_1 a0_2 a0_3 a0_4 (G ι0)) ψ := by
  obtain ⟨z0, h1, h2⟩ := h
  exact (hG z0 h1).congr fun i0 hi0 => spec_ValueOk.f_of (h2 (p i0) (hp i0 hi0)) _
theorem spec_ValueOk.T {a0_0 : Int} {a0_1 : ByteArray} {a0_2 : Int} {a0_3 : List (List D)} {a0_4 : List (List D)} (ga0_1 : a0_1.size ≤ lim) (ga0_3 : Zm RS lim a0_3) (ga0_4 : Zm Yb lim a0_4) : Tm (Zay 1) (fun k => spec_ValueOk.t k a0_0 a0_1 a0_2 a0_3 a0_4) (fun _ => True) := by
  unfold spec_ValueOk.t spec_ValueOk.g
  have hm := Za
  have hlim : lim = 1048576 := rfl
  have la0_3 := ga0_3.1
  have la0_4 := ga0_4.1
  refine spec_l4Look.tm (fun i hi => hi) (spec_l4Look.T (by first | assumption | omega) (by first | assumption | omega) (by first | assumption | omega) (by first | assumption | omega) (by first | assumption | omega)) (fun y2 hy1 => ?_)
  exact Tm.ret (by trivial)
noncomputable def spec_ValueOk.v (a0_0 : Int) (a0_1 : ByteArray) (a0_2 : Int) (a0_3 : List (List D)) (a0_4 : List (List D)) : Bool := (spec_ValueOk.t (lv 1) a0_0 a0_1 a0_2 a0_3 a0_4).getD default
theorem spec_ValueOk.tv {a0_0 : Int} {a0_1 : ByteArray} {a0_2 : Int} {a0_3 : List (List D)} {a0_4 : List (List D)} (ga0_1 : a0_1.size ≤ lim) (ga0_3 : Zm RS lim a0_3) (ga0_4 : Zm Yb lim a0_4) {k : Nat} (hk : (Zay 1) k) : spec_ValueOk.t k a0_0 a0_1 a0_2 a0_3 a0_4 = some (spec_ValueOk.v a0_0 a0_1 a0_2 a0_3 a0_4) := (spec_ValueOk.T ga0_1 ga0_3 ga0_4).val hk
theorem spec_ValueOk.fv {a0_0 : Int} {a0_1 : ByteArray} {a0_2 : Int} {a0_3 : List (List D)} {a0_4 : List (List D)} (ga0_1 : a0_1.size ≤ lim) (ga0_3 : Zm RS lim a0_3) (ga0_4 : Zm Yb lim a0_4) {k : Nat} (hk : (Zay 1) k) {β : Type} (K : Bool → Option β) : spec_ValueOk.f k a0_0 a0_1 a0_2 a0_3 a0_4 K = K (spec_ValueOk.v a0_0 a0_1 a0_2 a0_3 a0_4) := spec_ValueOk.f_of (spec_ValueOk.tv ga0_1 ga0_3 ga0_4 hk) K
theorem spec_l7Obj.f_of {β : Type} {k : Nat} {a0_0 : Int} {a0_1 : ByteArray} {a0_2 : Int} {a0_3 : Int} {a0_4 : Int} {a0_5 : Bool} {a0_6 : List (List D)} {a0_7 : Int} {a0_8 : ByteArray} {a0_9 : Int} {a0_10 : List (List D)} {a0_11 : List (List D)} {a0_12 : Int} {a0_13 : ByteArray} {a0_14 : Int} {a0_15 : List (List D)} {a0_16 : List (List D)} {a1 : Int} {a2 : Int} {a3 : Bool} {z0 : Bool} (h : spec_l7Obj.t k a0_0 a0_1 a0_2 a0_3 a0_4 a0_5 a0_6 a0_7 a0_8 a0_9 a0_10 a0_11 a0_12 a0_13 a0_14 a0_15 a0_16 a1 a2 a3 = some z0) (K : Bool → Option β) : spec_l7Obj.f k a0_0 a0_1 a0_2 a0_3 a0_4 a0_5 a0_6 a0_7 a0_8 a0_9 a0_10 a0_11 a0_12 a0_13 a0_14 a0_15 a0_16 a1 a2 a3 K = K z0 := by
  unfold spec_l7Obj.f
  rw [h]
theorem spec_l7Obj.tm {ι α : Type} {ok : ι → Prop} {ψ : α → Prop} {p : ι → Nat} {B : Nat} (hp : ∀ i, ok i → B ≤ p i) {a0_0 : Int} {a0_1 : ByteArray} {a0_2 : Int} {a0_3 : Int} {a0_4 : Int} {a0_5 : Bool} {a0_6 : List (List D)} {a0_7 : Int} {a0_8 : ByteArray} {a0_9 : Int} {a0_10 : List (List D)} {a0_11 : List (List D)} {a0_12 : Int} {a0_13 : ByteArray} {a0_14 : Int} {a0_15 : List (List D)} {a0_16 : List (List D)} {a1 : Int} {a2 : Int} {a3 : Bool} {φ : Bool → Prop} (h : Tm (fun k => B ≤ k) (fun k => spec_l7Obj.t k a0_0 a0_1 a0_2 a0_3 a0_4 a0_5 a0_6 a0_7 a0_8 a0_9 a0_10 a0_11 a0_12 a0_13 a0_14 a0_15 a0_16 a1 a2 a3) φ) {G : ι → Bool → Option α} (hG : ∀ z0, φ z0 → Tm ok (fun ι0 => G ι0 z0) ψ) : Tm ok (fun ι0 => spec_l7Obj.f (p ι0) a0_0 a0_1 a0_2 a0_3 a0_4 a0_5 a0_6 a0_7 a0_8 a0_9 a0_10 a0_11 a0_12 a0_13 a0_14 a0_15 a0_16 a1 a2 a3 (G ι0)) ψ := by
  obtain ⟨z0, h1, h2⟩ := h
  exact (hG z0 h1).congr fun i0 hi0 => spec_l7Obj.f_of (h2 (p i0) (hp i0 hi0)) _
theorem spec_l7Obj.T {a0_0 : Int} {a0_1 : ByteArray} {a0_2 : Int} {a0_3 : Int} {a0_4 : Int} {a0_5 : Bool} {a0_6 : List (List D)} {a0_7 : Int} {a0_8 : ByteArray} {a0_9 : Int} {a0_10 : List (List D)} {a0_11 : List (List D)} {a0_12 : Int} {a0_13 : ByteArray} {a0_14 : Int} {a0_15 : List (List D)} {a0_16 : List (List D)} {a1 : Int} {a2 : Int} {a3 : Bool} (ga0_1 : a0_1.size ≤ lim) (ga0_6 : Zm RS lim a0_6) (ga0_8 : a0_8.size ≤ lim) (ga0_10 : Zm RS lim a0_10) (ga0_11 : Zm Yb lim a0_11) (ga0_13 : a0_13.size ≤ lim) (ga0_15 : Zm RS lim a0_15) (ga0_16 : Zm Yb lim a0_16) : Tm (Zay 1) (fun k => spec_l7Obj.t k a0_0 a0_1 a0_2 a0_3 a0_4 a0_5 a0_6 a0_7 a0_8 a0_9 a0_10 a0_11 a0_12 a0_13 a0_14 a0_15 a0_16 a1 a2 a3) (fun _ => True) := by
  unfold spec_l7Obj.t spec_l7Obj.g
  have hm := Za
  have hlim : lim = 1048576 := rfl
  have la0_6 := ga0_6.1
  have la0_10 := ga0_10.1
  have la0_11 := ga0_11.1
  have la0_15 := ga0_15.1
  have la0_16 := ga0_16.1
  refine spec_l1In.tm (fun i hi => up0 hi) (spec_l1In.T) (fun y2 hy1 => ?_)
  refine Tm.ite (fun h3 => ?_) (fun h3 => ?_)
  · try simp only [bz0, bz1, bz2, bz3, bz4, bz5, bz6, bz7, bz8, bz9, bza] at h3
    have z4 := hy1 h3
    refine spec_NameOk.tm (fun i hi => up0 hi) (spec_NameOk.T (by first | assumption | omega)) (fun y6 hy5 => ?_)
    refine Tm.ite (fun h7 => ?_) (fun h7 => ?_)
    · try simp only [bz0, bz1, bz2, bz3, bz4, bz5, bz6, bz7, bz8, bz9, bza] at h7
      try rw [ZC (x := a2 - 1) (by omega) (by omega)]
      refine spec_l1In.tm (fun i hi => up0 hi) (spec_l1In.T) (fun y9 hy8 => ?_)
      refine Tm.ite (fun h10 => ?_) (fun h10 => ?_)
      · try simp only [bz0, bz1, bz2, bz3, bz4, bz5, bz6, bz7, bz8, bz9, bza] at h10
        have z11 := hy8 h10
        refine spec_l1In.tm (fun i hi => up0 hi) (spec_l1In.T) (fun y13 hy12 => ?_)
        refine Tm.ite (fun h14 => ?_) (fun h14 => ?_)
        · try simp only [bz0, bz1, bz2, bz3, bz4, bz5, bz6, bz7, bz8, bz9, bza] at h14
          have z15 := hy12 h14
          refine spec_l1In.tm (fun i hi => up0 hi) (spec_l1In.T) (fun y17 hy16 => ?_)
          refine Tm.ite (fun h18 => ?_) (fun h18 => ?_)
          · try simp only [bz0, bz1, bz2, bz3, bz4, bz5, bz6, bz7, bz8, bz9, bza] at h18
            have z19 := hy16 h18
            refine spec_l7Waits.tm (fun i hi => up0 hi) (spec_l7Waits.T (by first | assumption | omega)) (fun y21 hy20 => ?_)
            refine Tm.ite (fun h22 => ?_) (fun h22 => ?_)
            · try simp only [bz0, bz1, bz2, bz3, bz4, bz5, bz6, bz7, bz8, bz9, bza] at h22
              refine spec_ValueOk.tm (fun i hi => hi) (spec_ValueOk.T (by first | assumption | omega) (by first | assumption | omega) (by first | assumption | omega)) (fun y24 hy23 => ?_)
              refine Tm.ite (fun h25 => ?_) (fun h25 => ?_)
              · try simp only [bz0, bz1, bz2, bz3, bz4, bz5, bz6, bz7, bz8, bz9, bza] at h25
                refine spec_ValueOk.tm (fun i hi => hi) (spec_ValueOk.T (by first | assumption | omega) (by first | assumption | omega) (by first | assumption | omega)) (fun y27 hy26 => ?_)
                refine Tm.ite (fun h28 => ?_) (fun h28 => ?_)
                · try simp only [bz0, bz1, bz2, bz3, bz4, bz5, bz6, bz7, bz8, bz9, bza] at h28
                  refine Tm.ite (fun h29 => ?_) (fun h29 => ?_)
                  · try simp only [bz0, bz1, bz2, bz3, bz4, bz5, bz6, bz7, bz8, bz9, bza] at h29
                    exact Tm.ret (by trivial)
                  · try simp only [bz0, bz1, bz2, bz3, bz4, bz5, bz6, bz7, bz8, bz9, bza] at h29
                    refine Tm.ite (fun h30 => ?_) (fun h30 => ?_)
                    · try simp only [bz0, bz1, bz2, bz3, bz4, bz5, bz6, bz7, bz8, bz9, bza] at h30
                      exact Tm.ret (by trivial)
                    · try simp only [bz0, bz1, bz2, bz3, bz4, bz5, bz6, bz7, bz8, bz9, bza] at h30
                      exact Tm.ret (by trivial)
                · try simp only [bz0, bz1, bz2, bz3, bz4, bz5, bz6, bz7, bz8, bz9, bza] at h28
                  exact Tm.ret (by trivial)
              · try simp only [bz0, bz1, bz2, bz3, bz4, bz5, bz6, bz7, bz8, bz9, bza] at h25
                exact Tm.ret (by trivial)
            · try simp only [bz0, bz1, bz2, bz3, bz4, bz5, bz6, bz7, bz8, bz9, bza] at h22
              exact Tm.ret (by trivial)
          · try simp only [bz0, bz1, bz2, bz3, bz4, bz5, bz6, bz7, bz8, bz9, bza] at h18
            exact Tm.ret (by trivial)
        · try simp only [bz0, bz1, bz2, bz3, bz4, bz5, bz6, bz7, bz8, bz9, bza] at h14
          exact Tm.ret (by trivial)
      · try simp only [bz0, bz1, bz2, bz3, bz4, bz5, bz6, bz7, bz8, bz9, bza] at h10
        exact Tm.ret (by trivial)
    · try simp only [bz0, bz1, bz2, bz3, bz4, bz5, bz6, bz7, bz8, bz9, bza] at h7
      exact Tm.ret (by trivial)
  · try simp only [bz0, bz1, bz2, bz3, bz4, bz5, bz6, bz7, bz8, bz9, bza] at h3
    exact Tm.ret (by trivial)
noncomputable def spec_l7Obj.v (a0_0 : Int) (a0_1 : ByteArray) (a0_2 : Int) (a0_3 : Int) (a0_4 : Int) (a0_5 : Bool) (a0_6 : List (List D)) (a0_7 : Int) (a0_8 : ByteArray) (a0_9 : Int) (a0_10 : List (List D)) (a0_11 : List (List D)) (a0_12 : Int) (a0_13 : ByteArray) (a0_14 : Int) (a0_15 : List (List D)) (a0_16 : List (List D)) (a1 : Int) (a2 : Int) (a3 : Bool) : Bool := (spec_l7Obj.t (lv 1) a0_0 a0_1 a0_2 a0_3 a0_4 a0_5 a0_6 a0_7 a0_8 a0_9 a0_10 a0_11 a0_12 a0_13 a0_14 a0_15 a0_16 a1 a2 a3).getD default
theorem spec_l7Obj.tv {a0_0 : Int} {a0_1 : ByteArray} {a0_2 : Int} {a0_3 : Int} {a0_4 : Int} {a0_5 : Bool} {a0_6 : List (List D)} {a0_7 : Int} {a0_8 : ByteArray} {a0_9 : Int} {a0_10 : List (List D)} {a0_11 : List (List D)} {a0_12 : Int} {a0_13 : ByteArray} {a0_14 : Int} {a0_15 : List (List D)} {a0_16 : List (List D)} {a1 : Int} {a2 : Int} {a3 : Bool} (ga0_1 : a0_1.size ≤ lim) (ga0_6 : Zm RS lim a0_6) (ga0_8 : a0_8.size ≤ lim) (ga0_10 : Zm RS lim a0_10) (ga0_11 : Zm Yb lim a0_11) (ga0_13 : a0_13.size ≤ lim) (ga0_15 : Zm RS lim a0_15) (ga0_16 : Zm Yb lim a0_16) {k : Nat} (hk : (Zay 1) k) : spec_l7Obj.t k a0_0 a0_1 a0_2 a0_3 a0_4 a0_5 a0_6 a0_7 a0_8 a0_9 a0_10 a0_11 a0_12 a0_13 a0_14 a0_15 a0_16 a1 a2 a3 = some (spec_l7Obj.v a0_0 a0_1 a0_2 a0_3 a0_4 a0_5 a0_6 a0_7 a0_8 a0_9 a0_10 a0_11 a0_12 a0_13 a0_14 a0_15 a0_16 a1 a2 a3) := (spec_l7Obj.T ga0_1 ga0_6 ga0_8 ga0_10 ga0_11 ga0_13 ga0_15 ga0_16).val hk
theorem spec_l7Obj.fv {a0_0 : Int} {a0_1 : ByteArray} {a0_2 : Int} {a0_3 : Int} {a0_4 : Int} {a0_5 : Bool} {a0_6 : List (List D)} {a0_7 : Int} {a0_8 : ByteArray} {a0_9 : Int} {a0_10 : List (List D)} {a0_11 : List (List D)} {a0_12 : Int} {a0_13 : ByteArray} {a0_14 : Int} {a0_15 : List (List D)} {a0_16 : List (List D)} {a1 : Int} {a2 : Int} {a3 : Bool} (ga0_1 : a0_1.size ≤ lim) (ga0_6 : Zm RS lim a0_6) (ga0_8 : a0_8.size ≤ lim) (ga0_10 : Zm RS lim a0_10) (ga0_11 : Zm Yb lim a0_11) (ga0_13 : a0_13.size ≤ lim) (ga0_15 : Zm RS lim a0_15) (ga0_16 : Zm Yb lim a0_16) {k : Nat} (hk : (Zay 1) k) {β : Type} (K : Bool → Option β) : spec_l7Obj.f k a0_0 a0_1 a0_2 a0_3 a0_4 a0_5 a0_6 a0_7 a0_8 a0_9 a0_10 a0_11 a0_12 a0_13 a0_14 a0_15 a0_16 a1 a2 a3 K = K (spec_l7Obj.v a0_0 a0_1 a0_2 a0_3 a0_4 a0_5 a0_6 a0_7 a0_8 a0_9 a0_10 a0_11 a0_12 a0_13 a0_14 a0_15 a0_16 a1 a2 a3) := spec_l7Obj.f_of (spec_l7Obj.tv ga0_1 ga0_6 ga0_8 ga0_10 ga0_11 ga0_13 ga0_15 ga0_16 hk) K
theorem spec_l7Less.f_of {β : Type} {k : Nat} {a0_0 : Int} {a0_1 : ByteArray} {a0_2 : Int} {a0_3 : Int} {a0_4 : Int} {a0_5 : Bool} {a0_6 : List (List D)} {a0_7 : Int} {a0_8 : ByteArray} {a0_9 : Int} {a0_10 : List (List D)} {a0_11 : List (List D)} {a0_12 : Int} {a0_13 : ByteArray} {a0_14 : Int} {a0_15 : List (List D)} {a0_16 : List (List D)} {a1_0 : Int} {a1_1 : ByteArray} {a1_2 : Int} {a1_3 : Int} {a1_4 : Int} {a1_5 : Bool} {a1_6 : List (List D)} {a1_7 : Int} {a1_8 : ByteArray} {a1_9 : Int} {a1_10 : List (List D)} {a1_11 : List (List D)} {a1_12 : Int} {a1_13 : ByteArray} {a1_14 : Int} {a1_15 : List (List D)} {a1_16 : List (List D)} {z0 : Bool} (h : spec_l7Less.t k a0_0 a0_1 a0_2 a0_3 a0_4 a0_5 a0_6 a0_7 a0_8 a0_9 a0_10 a0_11 a0_12 a0_13 a0_14 a0_15 a0_16 a1_0 a1_1 a1_2 a1_3 a1_4 a1_5 a1_6 a1_7 a1_8 a1_9 a1_10 a1_11 a1_12 a1_13 a1_14 a1_15 a1_16 = some z0) (K : Bool → Option β) : spec_l7Less.f k a0_0 a0_1 a0_2 a0_3 a0_4 a0_5 a0_6 a0_7 a0_8 a0_9 a0_10 a0_11 a0_12 a0_13 a0_14 a0_15 a0_16 a1_0 a1_1 a1_2 a1_3 a1_4 a1_5 a1_6 a1_7 a1_8 a1_9 a1_10 a1_11 a1_12 a1_13 a1_14 a1_15 a1_16 K = K z0 := by
  unfold spec_l7Less.f
  rw [h]
theorem spec_l7Less.tm {ι α : Type} {ok : ι → Prop} {ψ : α → Prop} {p : ι → Nat} {B : Nat} (hp : ∀ i, ok i → B ≤ p i) {a0_0 : Int} {a0_1 : ByteArray} {a0_2 : Int} {a0_3 : Int} {a0_4 : Int} {a0_5 : Bool} {a0_6 : List (List D)} {a0_7 : Int} {a0_8 : ByteArray} {a0_9 : Int} {a0_10 : List (List D)} {a0_11 : List (List D)} {a0_12 : Int} {a0_13 : ByteArray} {a0_14 : Int} {a0_15 : List (List D)} {a0_16 : List (List D)} {a1_0 : Int} {a1_1 : ByteArray} {a1_2 : Int} {a1_3 : Int} {a1_4 : Int} {a1_5 : Bool} {a1_6 : List (List D)} {a1_7 : Int} {a1_8 : ByteArray} {a1_9 : Int} {a1_10 : List (List D)} {a1_11 : List (List D)} {a1_12 : Int} {a1_13 : ByteArray} {a1_14 : Int} {a1_15 : List (List D)} {a1_16 : List (List D)} {φ : Bool → Prop} (h : Tm (fun k => B ≤ k) (fun k => spec_l7Less.t k a0_0 a0_1 a0_2 a0_3 a0_4 a0_5 a0_6 a0_7 a0_8 a0_9 a0_10 a0_11 a0_12 a0_13 a0_14 a0_15 a0_16 a1_0 a1_1 a1_2 a1_3 a1_4 a1_5 a1_6 a1_7 a1_8 a1_9 a1_10 a1_11 a1_12 a1_13 a1_14 a1_15 a1_16) φ) {G : ι → Bool → Option α} (hG : ∀ z0, φ z0 → Tm ok (fun ι0 => G ι0 z0) ψ) : Tm ok (fun ι0 => spec_l7Less.f (p ι0) a0_0 a0_1 a0_2 a0_3 a0_4 a0_5 a0_6 a0_7 a0_8 a0_9 a0_10 a0_11 a0_12 a0_13 a0_14 a0_15 a0_16 a1_0 a1_1 a1_2 a1_3 a1_4 a1_5 a1_6 a1_7 a1_8 a1_9 a1_10 a1_11 a1_12 a1_13 a1_14 a1_15 a1_16 (G ι0)) ψ := by
  obtain ⟨z0, h1, h2⟩ := h
  exact (hG z0 h1).congr fun i0 hi0 => spec_l7Less.f_of (h2 (p i0) (hp i0 hi0)) _
theorem spec_l7Less.T {a0_0 : Int} {a0_1 : ByteArray} {a0_2 : Int} {a0_3 : Int} {a0_4 : Int} {a0_5 : Bool} {a0_6 : List (List D)} {a0_7 : Int} {a0_8 : ByteArray} {a0_9 : Int} {a0_10 : List (List D)} {a0_11 : List (List D)} {a0_12 : Int} {a0_13 : ByteArray} {a0_14 : Int} {a0_15 : List (List D)} {a0_16 : List (List D)} {a1_0 : Int} {a1_1 : ByteArray} {a1_2 : Int} {a1_3 : Int} {a1_4 : Int} {a1_5 : Bool} {a1_6 : List (List D)} {a1_7 : Int} {a1_8 : ByteArray} {a1_9 : Int} {a1_10 : List (List D)} {a1_11 : List (List D)} {a1_12 : Int} {a1_13 : ByteArray} {a1_14 : Int} {a1_15 : List (List D)} {a1_16 : List (List D)} (ga0_1 : a0_1.size ≤ lim) (ga0_6 : Zm RS lim a0_6) (ga0_8 : a0_8.size ≤ lim) (ga0_10 : Zm RS lim a0_10) (ga0_11 : Zm Yb lim a0_11) (ga0_13 : a0_13.size ≤ lim) (ga0_15 : Zm RS lim a0_15) (ga0_16 : Zm Yb lim a0_16) (ga1_1 : a1_1.size ≤ lim) (ga1_6 : Zm RS lim a1_6) (ga1_8 : a1_8.size ≤ lim) (ga1_10 : Zm RS lim a1_10) (ga1_11 : Zm Yb lim a1_11) (ga1_13 : a1_13.size ≤ lim) (ga1_15 : Zm RS lim a1_15) (ga1_16 : Zm Yb lim a1_16) : Tm Zar (fun k => spec_l7Less.t k a0_0 a0_1 a0_2 a0_3 a0_4 a0_5 a0_6 a0_7 a0_8 a0_9 a0_10 a0_11 a0_12 a0_13 a0_14 a0_15 a0_16 a1_0 a1_1 a1_2 a1_3 a1_4 a1_5 a1_6 a1_7 a1_8 a1_9 a1_10 a1_11 a1_12 a1_13 a1_14 a1_15 a1_16) (fun _ => True) := by
  unfold spec_l7Less.t spec_l7Less.g
  have hm := Za
  have hlim : lim = 1048576 := rfl
  have la0_6 := ga0_6.1
  have la0_10 := ga0_10.1
  have la0_11 := ga0_11.1
  have la0_15 := ga0_15.1
  have la0_16 := ga0_16.1
  have la1_6 := ga1_6.1
  have la1_10 := ga1_10.1
  have la1_11 := ga1_11.1
  have la1_15 := ga1_15.1
  have la1_16 := ga1_16.1
  refine Tm.ite (fun h1 => ?_) (fun h1 => ?_)
  · try simp only [bz0, bz1, bz2, bz3, bz4, bz5, bz6, bz7, bz8, bz9, bza] at h1
    exact Tm.ret (by trivial)
  · try simp only [bz0, bz1, bz2, bz3, bz4, bz5, bz6, bz7, bz8, bz9, bza] at h1
    refine Tm.ite (fun h2 => ?_) (fun h2 => ?_)
    · try simp only [bz0, bz1, bz2, bz3, bz4, bz5, bz6, bz7, bz8, bz9, bza] at h2
      exact Tm.ret (by trivial)
    · try simp only [bz0, bz1, bz2, bz3, bz4, bz5, bz6, bz7, bz8, bz9, bza] at h2
      exact Tm.ret (by trivial)
noncomputable def spec_l7Less.v (a0_0 : Int) (a0_1 : ByteArray) (a0_2 : Int) (a0_3 : Int) (a0_4 : Int) (a0_5 : Bool) (a0_6 : List (List D)) (a0_7 : Int) (a0_8 : ByteArray) (a0_9 : Int) (a0_10 : List (List D)) (a0_11 : List (List D)) (a0_12 : Int) (a0_13 : ByteArray) (a0_14 : Int) (a0_15 : List (List D)) (a0_16 : List (List D)) (a1_0 : Int) (a1_1 : ByteArray) (a1_2 : Int) (a1_3 : Int) (a1_4 : Int) (a1_5 : Bool) (a1_6 : List (List D)) (a1_7 : Int) (a1_8 : ByteArray) (a1_9 : Int) (a1_10 : List (List D)) (a1_11 : List (List D)) (a1_12 : Int) (a1_13 : ByteArray) (a1_14 : Int) (a1_15 : List (List D)) (a1_16 : List (List D)) : Bool := (spec_l7Less.t big a0_0 a0_1 a0_2 a0_3 a0_4 a0_5 a0_6 a0_7 a0_8 a0_9 a0_10 a0_11 a0_12 a0_13 a0_14 a0_15 a0_16 a1_0 a1_1 a1_2 a1_3 a1_4 a1_5 a1_6 a1_7 a1_8 a1_9 a1_10 a1_11 a1_12 a1_13 a1_14 a1_15 a1_16).getD default
theorem spec_l7Less.tv {a0_0 : Int} {a0_1 : ByteArray} {a0_2 : Int} {a0_3 : Int} {a0_4 : Int} {a0_5 : Bool} {a0_6 : List (List D)} {a0_7 : Int} {a0_8 : ByteArray} {a0_9 : Int} {a0_10 : List (List D)} {a0_11 : List (List D)} {a0_12 : Int} {a0_13 : ByteArray} {a0_14 : Int} {a0_15 : List (List D)} {a0_16 : List (List D)} {a1_0 : Int} {a1_1 : ByteArray} {a1_2 : Int} {a1_3 : Int} {a1_4 : Int} {a1_5 : Bool} {a1_6 : List (List D)} {a1_7 : Int} {a1_8 : ByteArray} {a1_9 : Int} {a1_10 : List (List D)} {a1_11 : List (List D)} {a1_12 : Int} {a1_13 : ByteArray} {a1_14 : Int} {a1_15 : List (List D)} {a1_16 : List (List D)} (ga0_1 : a0_1.size ≤ lim) (ga0_6 : Zm RS lim a0_6) (ga0_8 : a0_8.size ≤ lim) (ga0_10 : Zm RS lim a0_10) (ga0_11 : Zm Yb lim a0_11) (ga0_13 : a0_13.size ≤ lim) (ga0_15 : Zm RS lim a0_15) (ga0_16 : Zm Yb lim a0_16) (ga1_1 : a1_1.size ≤ lim) (ga1_6 : Zm RS lim a1_6) (ga1_8 : a1_8.size ≤ lim) (ga1_10 : Zm RS lim a1_10) (ga1_11 : Zm Yb lim a1_11) (ga1_13 : a1_13.size ≤ lim) (ga1_15 : Zm RS lim a1_15) (ga1_16 : Zm Yb lim a1_16) {k : Nat} (hk : Zar k) : spec_l7Less.t k a0_0 a0_1 a0_2 a0_3 a0_4 a0_5 a0_6 a0_7 a0_8 a0_9 a0_10 a0_11 a0_12 a0_13 a0_14 a0_15 a0_16 a1_0 a1_1 a1_2 a1_3 a1_4 a1_5 a1_6 a1_7 a1_8 a1_9 a1_10 a1_11 a1_12 a1_13 a1_14 a1_15 a1_16 = some (spec_l7Less.v a0_0 a0_1 a0_2 a0_3 a0_4 a0_5 a0_6 a0_7 a0_8 a0_9 a0_10 a0_11 a0_12 a0_13 a0_14 a0_15 a0_16 a1_0 a1_1 a1_2 a1_3 a1_4 a1_5 a1_6 a1_7 a1_8 a1_9 a1_10 a1_11 a1_12 a1_13 a1_14 a1_15 a1_16) := (spec_l7Less.T ga0_1 ga0_6 ga0_8 ga0_10 ga0_11 ga0_13 ga0_15 ga0_16 ga1_1 ga1_6 ga1_8 ga1_10 ga1_11 ga1_13 ga1_15 ga1_16).val hk
theorem spec_l7Less.fv {a0_0 : Int} {a0_1 : ByteArray} {a0_2 : Int} {a0_3 : Int} {a0_4 : Int} {a0_5 : Bool} {a0_6 : List (List D)} {a0_7 : Int} {a0_8 : ByteArray} {a0_9 : Int} {a0_10 : List (List D)} {a0_11 : List (List D)} {a0_12 : Int} {a0_13 : ByteArray} {a0_14 : Int} {a0_15 : List (List D)} {a0_16 : List (List D)} {a1_0 : Int} {a1_1 : ByteArray} {a1_2 : Int} {a1_3 : Int} {a1_4 : Int} {a1_5 : Bool} {a1_6 : List (List D)} {a1_7 : Int} {a1_8 : ByteArray} {a1_9 : Int} {a1_10 : List (List D)} {a1_11 : List (List D)} {a1_12 : Int} {a1_13 : ByteArray} {a1_14 : Int} {a1_15 : List (List D)} {a1_16 : List (List D)} (ga0_1 : a0_1.size ≤ lim) (ga0_6 : Zm RS lim a0_6) (ga0_8 : a0_8.size ≤ lim) (ga0_10 : Zm RS lim a0_10) (ga0_11 : Zm Yb lim a0_11) (ga0_13 : a0_13.size ≤ lim) (ga0_15 : Zm RS lim a0_15) (ga0_16 : Zm Yb lim a0_16) (ga1_1 : a1_1.size ≤ lim) (ga1_6 : Zm RS lim a1_6) (ga1_8 : a1_8.size ≤ lim) (ga1_10 : Zm RS lim a1_10) (ga1_11 : Zm Yb lim a1_11) (ga1_13 : a1_13.size ≤ lim) (ga1_15 : Zm RS lim a1_15) (ga1_16 : Zm Yb lim a1_16) {k : Nat} (hk : Zar k) {β : Type} (K : Bool → Option β) : spec_l7Less.f k a0_0 a0_1 a0_2 a0_3 a0_4 a0_5 a0_6 a0_7 a0_8 a0_9 a0_10 a0_11 a0_12 a0_13 a0_14 a0_15 a0_16 a1_0 a1_1 a1_2 a1_3 a1_4 a1_5 a1_6 a1_7 a1_8 a1_9 a1_10 a1_11 a1_12 a1_13 a1_14 a1_15 a1_16 K = K (spec_l7Less.v a0_0 a0_1 a0_2 a0_3 a0_4 a0_5 a0_6 a0_7 a0_8 a0_9 a0_10 a0_11 a0_12 a0_13 a0_14 a0_15 a0_16 a1_0 a1_1 a1_2 a1_3 a1_4 a1_5 a1_6 a1_7 a1_8 a1_9 a1_10 a1_11 a1_12 a1_13 a1_14 a1_15 a1_16) := spec_l7Less.f_of (spec_l7Less.tv ga0_1 ga0_6 ga0_8 ga0_10 ga0_11 ga0_13 ga0_15 ga0_16 ga1_1 ga1_6 ga1_8 ga1_10 ga1_11 ga1_13 ga1_15 ga1_16 hk) K
theorem spec_l7Objs.f_of {β : Type} {k : Nat} {a0 : List (List D)} {a1 : Int} {a2 : Int} {z0 : Bool} (h : spec_l7Objs.t k a0 a1 a2 = some z0) (K : Bool → Option β) : spec_l7Objs.f k a0 a1 a2 K = K z0 := by
  unfold spec_l7Objs.f
  rw [h]
theorem spec_l7Objs.tm {ι α : Type} {ok : ι → Prop} {ψ : α → Prop} {p : ι → Nat} {B : Nat} (hp : ∀ i, ok i → B ≤ p i) {a0 : List (List D)} {a1 : Int} {a2 : Int} {φ : Bool → Prop} (h : Tm (fun k => B ≤ k) (fun k => spec_l7Objs.t k a0 a1 a2) φ) {G : ι → Bool → Option α} (hG : ∀ z0, φ z0 → Tm ok (fun ι0 => G ι0 z0) ψ) : Tm ok (fun ι0 => spec_l7Objs.f (p ι0) a0 a1 a2 (G ι0)) ψ := by
  obtain ⟨z0, h1, h2⟩ := h
  exact (hG z0 h1).congr fun i0 hi0 => spec_l7Objs.f_of (h2 (p i0) (hp i0 hi0)) _
noncomputable def objV (x0 : Int) (x1 : ByteArray) (x2 x3 x4 : Int) (x5 : Bool) (x6 : List (List D)) (x7 : Int) (x8 : ByteArray) (x9 : Int) (x10 x11 : List (List D)) (x12 : Int) (x13 : ByteArray) (x14 : Int) (x15 x16 : List (List D)) (Z6 rev : Int) (gone : Bool) : Bool :=
  inB x0 1 3 && (spec_NameOk.v x1 && (inB x2 1 Z6 && (inB x3 1 rev && (inB x4 1 x3 && (spec_l7Waits.v x6 && (spec_ValueOk.v x7 x8 x9 x10 x11 && (spec_ValueOk.v x12 x13 x14 x15 x16 && (gone || (!x5 || decide ((x6.length : Int) > 0))))))))))
theorem l7Obj_fv {x0 : Int} {x1 : ByteArray} {x2 x3 x4 : Int} {x5 : Bool} {x6 : List (List D)} {x7 : Int} {x8 : ByteArray} {x9 : Int} {x10 x11 : List (List D)} {x12 : Int} {x13 : ByteArray} {x14 : Int} {x15 x16 : List (List D)} {rev next : Int} {gone : Bool} (g1 : x1.size ≤ lim) (g6 : Zm RS lim x6) (g8 : x8.size ≤ lim) (g10 : Zm RS lim x10) (g11 : Zm Yb lim x11) (g13 : x13.size ≤ lim) (g15 : Zm RS lim x15) (g16 : Zm Yb lim x16) {k : Nat} (hk : Zay 1 k) {β : Type} (K : Bool → Option β) :
    spec_l7Obj.f k x0 x1 x2 x3 x4 x5 x6 x7 x8 x9 x10 x11 x12 x13 x14 x15 x16 rev next gone K = K (objV x0 x1 x2 x3 x4 x5 x6 x7 x8 x9 x10 x11 x12 x13 x14 x15 x16 (IntKind.wrap .i64 (next - 1)) rev gone) := spec_l7Obj.f_of (by
  have hk0 : Zar k := up0 hk
  unfold spec_l7Obj.t spec_l7Obj.g objV
  simp only [l1In_fv, spec_NameOk.fv g1 hk0, spec_l7Waits.fv g6 hk0, spec_ValueOk.fv g8 g10 g11 hk, spec_ValueOk.fv g13 g15 g16 hk]
  generalize inB x0 1 3 = b0
  generalize spec_NameOk.v x1 = b1
  generalize inB x2 1 (IntKind.wrap .i64 (next - 1)) = b2
  generalize inB x3 1 rev = b3
  generalize inB x4 1 x3 = b4
  generalize spec_l7Waits.v x6 = b5
  generalize spec_ValueOk.v x7 x8 x9 x10 x11 = b6
  generalize spec_ValueOk.v x12 x13 x14 x15 x16 = b7
  cases b0
  · rfl
  cases b1
  · rfl
  cases b2
  · rfl
  cases b3
  · rfl
  cases b4
  · rfl
  cases b5
  · rfl
  cases b6
  · rfl
  cases b7
  · rfl
  cases gone <;> cases x5 <;> rfl) K
noncomputable def lessV (x0 : Int) (x1 : ByteArray) (y0 : Int) (y1 : ByteArray) : Bool := decide (x0 < y0) || ((x0 == y0) && strLt x1 y1)
theorem l7Less_fv {x0 : Int} {x1 : ByteArray} {x2 x3 x4 : Int} {x5 : Bool} {x6 : List (List D)} {x7 : Int} {x8 : ByteArray} {x9 : Int} {x10 x11 : List (List D)} {x12 : Int} {x13 : ByteArray} {x14 : Int} {x15 x16 : List (List D)} {y0 : Int} {y1 : ByteArray} {y2 y3 y4 : Int} {y5 : Bool} {y6 : List (List D)} {y7 : Int} {y8 : ByteArray} {y9 : Int} {y10 y11 : List (List D)} {y12 : Int} {y13 : ByteArray} {y14 : Int} {y15 y16 : List (List D)} {k : Nat} {β : Type} (K : Bool → Option β) :
    spec_l7Less.f k x0 x1 x2 x3 x4 x5 x6 x7 x8 x9 x10 x11 x12 x13 x14 x15 x16 y0 y1 y2 y3 y4 y5 y6 y7 y8 y9 y10 y11 y12 y13 y14 y15 y16 K = K (lessV x0 x1 y0 y1) := spec_l7Less.f_of (by
  unfold spec_l7Less.t spec_l7Less.g lessV
  cases decide (x0 < y0) <;> cases x0 == y0 <;> rfl) K
noncomputable def objR (a : List (List D)) (i Z6 rev : Int) : Bool := objV (gI a i 0) (gS a i 1) (gI a i 2) (gI a i 3) (gI a i 4) (gB a i 5) (gL a i 6) (gI a i 7) (gS a i 8) (gI a i 9) (gL a i 10) (gL a i 11) (gI a i 12) (gS a i 13) (gI a i 14) (gL a i 15) (gL a i 16) Z6 rev false
noncomputable def objsP (a : List (List D)) (Z6 rev : Int) (i : Nat) : Bool := objR a i Z6 rev && ((!decide ((i : Int) > 0) || lessV (gI a ((i : Int) - 1) 0) (gS a ((i : Int) - 1) 1) (gI a (i : Int) 0) (gS a (i : Int) 1)) && (List.range i).all fun j => !(gI a (j : Int) 2 == gI a (i : Int) 2))
noncomputable def objsB (a : List (List D)) (Z6 rev : Int) : Bool := (List.range a.length).all (objsP a Z6 rev) && decide ((a.length : Int) ≤ 60)
theorem l7Objs_t {a : List (List D)} {rev next : Int} (g : Zm Ya lim a) {k : Nat} (hk : Zay 1 k) : spec_l7Objs.t k a rev next = some (objsB a (IntKind.wrap .i64 (next - 1)) rev) := by
  have hk0 : Zar k := up0 hk
  have hl := g.1
  have hlim : lim = 1048576 := rfl
  have hb : big = 2 ^ 64 := rfl
  unfold spec_l7Objs.t spec_l7Objs.g
  refine (iter_allT (fun i => (a, rev, next, (i : Int))) (n := a.length) (objsP a (IntKind.wrap .i64 (next - 1)) rev) (r1 := some false) (r2 := some (decide ((a.length : Int) ≤ 60))) (by unfold Zar at hk0; omega) (fun L i hi => ?_) (fun L => by simp [spec_l7Objs.l0])).trans ?_
  · obtain ⟨-, -, k1, -, -, -, k6, -, k8, -, k10, k11, -, k13, -, k15, k16, -⟩ := Ya.get g (v := (i : Int)) (by omega) (by omega)
    have hin : ∀ {b : (Int → Option Bool) → Int → Option Bool}, (∀ (L1 : Int → Option Bool) (j : Nat), j < i → b L1 (j : Int) = bif !(gI a (j : Int) 2 == gI a (i : Int) 2) then L1 ((j : Int) + 1) else some false) → (∀ L1, b L1 (i : Int) = L (a, rev, next, ((i + 1 : Nat) : Int))) → Z4 b k 0 = bif (List.range i).all (fun j => !(gI a (j : Int) 2 == gI a (i : Int) 2)) then L (a, rev, next, ((i + 1 : Nat) : Int)) else some false := fun q1 q2 => iter_all0 _ (by unfold Zar at hk0; omega) q1 q2
    have e1 : Z4 (spec_l7Objs.l1 k a rev next (i : Int) L some) k 0 = bif (List.range i).all (fun j => !(gI a (j : Int) 2 == gI a (i : Int) 2)) then L (a, rev, next, ((i + 1 : Nat) : Int)) else some false := hin (fun L1 j hj => by
      simp (disch := omega) only [spec_l7Objs.l1, dec_true (show (j : Int) < i by omega), cond_true, Ya.row g, uncons_at, dInt_self, dStr_at, dBool_at, dSl_at, atEnd_at, ZC]
      cases gI a (j : Int) 2 == gI a (i : Int) 2 <;> rfl) (fun L1 => by
      simp (disch := omega) only [spec_l7Objs.l1, dec_false (show ¬ (i : Int) < i by omega), cond_false, ZC]
      rfl)
    have e2 : Z4 (spec_l7Objs.l2 k a rev next (i : Int) L some) k 0 = bif (List.range i).all (fun j => !(gI a (j : Int) 2 == gI a (i : Int) 2)) then L (a, rev, next, ((i + 1 : Nat) : Int)) else some false := hin (fun L1 j hj => by
      simp (disch := omega) only [spec_l7Objs.l2, dec_true (show (j : Int) < i by omega), cond_true, Ya.row g, uncons_at, dInt_self, dStr_at, dBool_at, dSl_at, atEnd_at, ZC]
      cases gI a (j : Int) 2 == gI a (i : Int) 2 <;> rfl) (fun L1 => by
      simp (disch := omega) only [spec_l7Objs.l2, dec_false (show ¬ (i : Int) < i by omega), cond_false, ZC]
      rfl)
    have e3 : ∀ {F : Bool → Option Bool}, spec_l7Obj.f k (gI a i 0) (gS a i 1) (gI a i 2) (gI a i 3) (gI a i 4) (gB a i 5) (gL a i 6) (gI a i 7) (gS a i 8) (gI a i 9) (gL a i 10) (gL a i 11) (gI a i 12) (gS a i 13) (gI a i 14) (gL a i 15) (gL a i 16) rev next false F = F (objR a i (IntKind.wrap .i64 (next - 1)) rev) := l7Obj_fv k1 k6 k8 k10 k11 k13 k15 k16 hk _
    unfold objsP
    simp (disch := omega) only [spec_l7Objs.l0, dec_true (show (i : Int) < a.length by omega), cond_true, Ya.row g, uncons_at, dInt_self, dStr_at, dBool_at, dSl_at, atEnd_at, e3, e1, e2]
    cases objR a (i : Int) (IntKind.wrap .i64 (next - 1)) rev
    · rfl
    by_cases h0 : (i : Int) > 0
    · simp (disch := omega) only [dec_true h0, cond_true, ZC, Ya.row g, uncons_at, dInt_self, dStr_at, dBool_at, dSl_at, atEnd_at, l7Less_fv, Bool.not_true, cond_false]
      cases lessV (gI a ((i : Int) - 1) 0) (gS a ((i : Int) - 1) 1) (gI a (i : Int) 0) (gS a (i : Int) 1) <;> rfl
    · simp only [dec_false h0, cond_false, Bool.not_true, Bool.not_false, Bool.true_or, Bool.true_and]
  · unfold objsB
    cases (List.range a.length).all (objsP a (IntKind.wrap .i64 (next - 1)) rev) <;> rfl
theorem l7Objs_fv {a : List (List D)} {rev next : Int} (g : Zm Ya lim a) {k : Nat} (hk : Zay 1 k) {β : Type} (K : Bool → Option β) : spec_l7Objs.f k a rev next K = K (objsB a (IntKind.wrap .i64 (next - 1)) rev) := spec_l7Objs.f_of (l7Objs_t g hk) K
theorem spec_l7Objs.T {a0 : List (List D)} {a1 a2 : Int} (g : Zm Ya lim a0) : Tm (Zay 1) (fun k => spec_l7Objs.t k a0 a1 a2) (fun _ => True) := Tm.of (v := objsB a0 (IntKind.wrap .i64 (a2 - 1)) a1) (fun k hk => l7Objs_t g hk) trivial
theorem spec_MirrorOk.f_of {β : Type} {k : Nat} {a0_0 : Int} {a0_1 : List (List D)} {z0 : Bool} (h : spec_MirrorOk.t k a0_0 a0_1 = some z0) (K : Bool → Option β) : spec_MirrorOk.f k a0_0 a0_1 K = K z0 := by
  unfold spec_MirrorOk.f
  rw [h]
theorem spec_MirrorOk.tm {ι α : Type} {ok : ι → Prop} {ψ : α → Prop} {p : ι → Nat} {B : Nat} (hp : ∀ i, ok i → B ≤ p i) {a0_0 : Int} {a0_1 : List (List D)} {φ : Bool → Prop} (h : Tm (fun k => B ≤ k) (fun k => spec_MirrorOk.t k a0_0 a0_1) φ) {G : ι → Bool → Option α} (hG : ∀ z0, φ z0 → Tm ok (fun ι0 => G ι0 z0) ψ) : Tm ok (fun ι0 => spec_MirrorOk.f (p ι0) a0_0 a0_1 (G ι0)) ψ := by
  obtain ⟨z0, h1, h2⟩ := h
  exact (hG z0 h1).congr fun i0 hi0 => spec_MirrorOk.f_of (h2 (p i0) (hp i0 hi0)) _
theorem spec_MirrorOk.T {a0_0 : Int} {a0_1 : List (List D)} (ga0_1 : Zm Ya lim a0_1) : Tm (Zay 1) (fun k => spec_MirrorOk.t k a0_0 a0_1) (fun _ => True) := by
  unfold spec_MirrorOk.t spec_MirrorOk.g
  have hm := Za
  have hlim : lim = 1048576 := rfl
  have la0_1 := ga0_1.1
  refine spec_l1In.tm (fun i hi => up0 hi) (spec_l1In.T) (fun y2 hy1 => ?_)
  refine Tm.ite (fun h3 => ?_) (fun h3 => ?_)
  · try simp only [bz0, bz1, bz2, bz3, bz4, bz5, bz6, bz7, bz8, bz9, bza] at h3
    have z4 := hy1 h3
    refine spec_l7Objs.tm (fun i hi => hi) (spec_l7Objs.T (by first | assumption | omega)) (fun y6 hy5 => ?_)
    exact Tm.ret (by trivial)
  · try simp only [bz0, bz1, bz2, bz3, bz4, bz5, bz6, bz7, bz8, bz9, bza] at h3
    exact Tm.ret (by trivial)
noncomputable def spec_MirrorOk.v (a0_0 : Int) (a0_1 : List (List D)) : Bool := (spec_MirrorOk.t (lv 1) a0_0 a0_1).getD default
theorem spec_MirrorOk.tv {a0_0 : Int} {a0_1 : List (List D)} (ga0_1 : Zm Ya lim a0_1) {k : Nat} (hk : (Zay 1) k) : spec_MirrorOk.t k a0_0 a0_1 = some (spec_MirrorOk.v a0_0 a0_1) := (spec_MirrorOk.T ga0_1).val hk
theorem spec_MirrorOk.fv {a0_0 : Int} {a0_1 : List (List D)} (ga0_1 : Zm Ya lim a0_1) {k : Nat} (hk : (Zay 1) k) {β : Type} (K : Bool → Option β) : spec_MirrorOk.f k a0_0 a0_1 K = K (spec_MirrorOk.v a0_0 a0_1) := spec_MirrorOk.f_of (spec_MirrorOk.tv ga0_1 hk) K
theorem impl_within.f_of {β : Type} {k : Nat} {a0 : Int} {a1 : Int} {a2 : Int} {z0 : Bool} (h : impl_within.t k a0 a1 a2 = some z0) (K : Bool → Option β) : impl_within.f k a0 a1 a2 K = K z0 := by
  unfold impl_within.f
  rw [h]
theorem impl_within.tm {ι α : Type} {ok : ι → Prop} {ψ : α → Prop} {p : ι → Nat} {B : Nat} (hp : ∀ i, ok i → B ≤ p i) {a0 : Int} {a1 : Int} {a2 : Int} {φ : Bool → Prop} (h : Tm (fun k => B ≤ k) (fun k => impl_within.t k a0 a1 a2) φ) {G : ι → Bool → Option α} (hG : ∀ z0, φ z0 → Tm ok (fun ι0 => G ι0 z0) ψ) : Tm ok (fun ι0 => impl_within.f (p ι0) a0 a1 a2 (G ι0)) ψ := by
  obtain ⟨z0, h1, h2⟩ := h
  exact (hG z0 h1).congr fun i0 hi0 => impl_within.f_of (h2 (p i0) (hp i0 hi0)) _
theorem impl_isKind.f_of {β : Type} {k : Nat} {a0 : Int} {z0 : Bool} (h : impl_isKind.t k a0 = some z0) (K : Bool → Option β) : impl_isKind.f k a0 K = K z0 := by
  unfold impl_isKind.f
  rw [h]
theorem impl_isKind.tm {ι α : Type} {ok : ι → Prop} {ψ : α → Prop} {p : ι → Nat} {B : Nat} (hp : ∀ i, ok i → B ≤ p i) {a0 : Int} {φ : Bool → Prop} (h : Tm (fun k => B ≤ k) (fun k => impl_isKind.t k a0) φ) {G : ι → Bool → Option α} (hG : ∀ z0, φ z0 → Tm ok (fun ι0 => G ι0 z0) ψ) : Tm ok (fun ι0 => impl_isKind.f (p ι0) a0 (G ι0)) ψ := by
  obtain ⟨z0, h1, h2⟩ := h
  exact (hG z0 h1).congr fun i0 hi0 => impl_isKind.f_of (h2 (p i0) (hp i0 hi0)) _
theorem impl_NameOk.f_of {β : Type} {k : Nat} {a0 : ByteArray} {z0 : Bool} (h : impl_NameOk.t k a0 = some z0) (K : Bool → Option β) : impl_NameOk.f k a0 K = K z0 := by
  unfold impl_NameOk.f
  rw [h]
theorem impl_NameOk.tm {ι α : Type} {ok : ι → Prop} {ψ : α → Prop} {p : ι → Nat} {B : Nat} (hp : ∀ i, ok i → B ≤ p i) {a0 : ByteArray} {φ : Bool → Prop} (h : Tm (fun k => B ≤ k) (fun k => impl_NameOk.t k a0) φ) {G : ι → Bool → Option α} (hG : ∀ z0, φ z0 → Tm ok (fun ι0 => G ι0 z0) ψ) : Tm ok (fun ι0 => impl_NameOk.f (p ι0) a0 (G ι0)) ψ := by
  obtain ⟨z0, h1, h2⟩ := h
  exact (hG z0 h1).congr fun i0 hi0 => impl_NameOk.f_of (h2 (p i0) (hp i0 hi0)) _
theorem within_f {β : Type} {k : Nat} {a b c : Int} (K : Bool → Option β) : impl_within.f k a b c K = K (decide (b ≤ a) && decide (a ≤ c)) := by
  refine impl_within.f_of ?_ K
  unfold impl_within.t impl_within.g
  by_cases h : b ≤ a <;> simp [h]
theorem impl_NameOk.same {k : Nat} {a : ByteArray} : impl_NameOk.t k a = spec_NameOk.t k a := by
  unfold impl_NameOk.t spec_NameOk.t impl_NameOk.g spec_NameOk.g
  congr 1
  funext L v
  simp only [impl_NameOk.l0, spec_NameOk.l0, l1In_f, within_f]
  refine bif_congr (fun _ => ?_) (fun _ => rfl)
  unfold atStr
  split
  · split
    · rename_i b _
      have hb : b.toNat < 256 := b.toNat_lt
      simp only []
      rw [ZC (x := (b.toNat : Int)) (by omega) (by omega)]
      generalize (b.toNat : Int) = x
      by_cases h1 : x < 97 <;> by_cases h2 : x < 48 <;> by_cases h3 : x > 57 <;> by_cases h4 : x > 122 <;> simp [h1, h2, h3, h4] <;> (try omega) <;> grind
    · rfl
  · rfl
theorem impl_NameOk_f {β : Type} {k : Nat} {a : ByteArray} (K : Bool → Option β) : impl_NameOk.f k a K = spec_NameOk.f k a K := by
  unfold impl_NameOk.f spec_NameOk.f
  rw [impl_NameOk.same]
theorem Yk {β : Type} {k : Nat} {a b c : Int} (K : Bool → Option β) : impl_within.f k a b c K = K (inB a b c) := within_f K
theorem impl_namesOk.f_of {β : Type} {k : Nat} {a0 : List (List D)} {a1 : Int} {z0 : Bool} (h : impl_namesOk.t k a0 a1 = some z0) (K : Bool → Option β) : impl_namesOk.f k a0 a1 K = K z0 := by
  unfold impl_namesOk.f
  rw [h]
theorem impl_namesOk.tm {ι α : Type} {ok : ι → Prop} {ψ : α → Prop} {p : ι → Nat} {B : Nat} (hp : ∀ i, ok i → B ≤ p i) {a0 : List (List D)} {a1 : Int} {φ : Bool → Prop} (h : Tm (fun k => B ≤ k) (fun k => impl_namesOk.t k a0 a1) φ) {G : ι → Bool → Option α} (hG : ∀ z0, φ z0 → Tm ok (fun ι0 => G ι0 z0) ψ) : Tm ok (fun ι0 => impl_namesOk.f (p ι0) a0 a1 (G ι0)) ψ := by
  obtain ⟨z0, h1, h2⟩ := h
  exact (hG z0 h1).congr fun i0 hi0 => impl_namesOk.f_of (h2 (p i0) (hp i0 hi0)) _
theorem namesOk_fv {a : List (List D)} {n : Int} (g : Zm RS lim a) {k : Nat} (hk : Zar k) {β : Type} (K : Bool → Option β) : impl_namesOk.f k a n K = K (Yj a && decide ((a.length : Int) ≤ n)) := impl_namesOk.f_of (by
  have hl := g.1
  have hlim : lim = 1048576 := rfl
  have hb : big = 2 ^ 64 := rfl
  unfold impl_namesOk.t impl_namesOk.g
  rw [iter_all0 (n := a.length) (fun i => spec_NameOk.v (gS a (i : Int) 0) && (!decide ((i : Int) > 0) || strLt (gS a ((i : Int) - 1) 0) (gS a (i : Int) 0))) (r1 := some false) (r2 := some (decide ((a.length : Int) ≤ n))) (by unfold Zar at hk; omega)]
  · unfold Yj
    generalize List.all _ _ = x
    cases x <;> rfl
  · intro L i hi
    have k0 := (RS.get g (v := (i : Int)) (by omega) (by omega)).2.1
    simp (disch := omega) only [impl_namesOk.l0, dec_true (show (i : Int) < a.length by omega), cond_true, RS.row g, uncons_at, dStr_at, atEnd_at, impl_NameOk_f, spec_NameOk.fv k0 hk, ZC]
    by_cases h0 : (i : Int) > 0
    · simp (disch := omega) only [dec_true h0, cond_true, RS.row g, uncons_at, dStr_at, atEnd_at]
      cases spec_NameOk.v (gS a (i : Int) 0) <;> cases strLt (gS a ((i : Int) - 1) 0) (gS a (i : Int) 0) <;> rfl
    · simp only [dec_false h0, cond_false]
      cases spec_NameOk.v (gS a (i : Int) 0) <;> rfl
  · intro L
    simp [impl_namesOk.l0]) K
theorem impl_shapeOk.f_of {β : Type} {k : Nat} {a0_0 : Int} {a0_1 : ByteArray} {a0_2 : Int} {a0_3 : List (List D)} {a0_4 : List (List D)} {z0 : Bool} (h : impl_shapeOk.t k a0_0 a0_1 a0_2 a0_3 a0_4 = some z0) (K : Bool → Option β) : impl_shapeOk.f k a0_0 a0_1 a0_2 a0_3 a0_4 K = K z0 := by
  unfold impl_shapeOk.f
  rw [h]
theorem impl_shapeOk.tm {ι α : Type} {ok : ι → Prop} {ψ : α → Prop} {p : ι → Nat} {B : Nat} (hp : ∀ i, ok i → B ≤ p i) {a0_0 : Int} {a0_1 : ByteArray} {a0_2 : Int} {a0_3 : List (List D)} {a0_4 : List (List D)} {φ : Bool → Prop} (h : Tm (fun k => B ≤ k) (fun k => impl_shapeOk.t k a0_0 a0_1 a0_2 a0_3 a0_4) φ) {G : ι → Bool → Option α} (hG : ∀ z0, φ z0 → Tm ok (fun ι0 => G ι0 z0) ψ) : Tm ok (fun ι0 => impl_shapeOk.f (p ι0) a0_0 a0_1 a0_2 a0_3 a0_4 (G ι0)) ψ := by
  obtain ⟨z0, h1, h2⟩ := h
  exact (hG z0 h1).congr fun i0 hi0 => impl_shapeOk.f_of (h2 (p i0) (hp i0 hi0)) _
theorem impl_measured.f_of {β : Type} {k : Nat} {a0_0 : Int} {a0_1 : ByteArray} {a0_2 : Int} {a0_3 : List (List D)} {a0_4 : List (List D)} {a1 : Int} {z0 : Int} (h : impl_measured.t k a0_0 a0_1 a0_2 a0_3 a0_4 a1 = some z0) (K : Int → Option β) : impl_measured.f k a0_0 a0_1 a0_2 a0_3 a0_4 a1 K = K z0 := by
  unfold impl_measured.f
  unfold impl_measured.w
  rw [h]
theorem impl_measured.tm {ι α : Type} {ok : ι → Prop} {ψ : α → Prop} {p : ι → Nat} {B : Nat} (hp : ∀ i, ok i → B ≤ p i) {a0_0 : Int} {a0_1 : ByteArray} {a0_2 : Int} {a0_3 : List (List D)} {a0_4 : List (List D)} {a1 : Int} {φ : Int → Prop} (h : Tm (fun k => B ≤ k) (fun k => impl_measured.t k a0_0 a0_1 a0_2 a0_3 a0_4 a1) φ) {G : ι → Int → Option α} (hG : ∀ z0, φ z0 → Tm ok (fun ι0 => G ι0 z0) ψ) : Tm ok (fun ι0 => impl_measured.f (p ι0) a0_0 a0_1 a0_2 a0_3 a0_4 a1 (G ι0)) ψ := by
  obtain ⟨z0, h1, h2⟩ := h
  exact (hG z0 h1).congr fun i0 hi0 => impl_measured.f_of (h2 (p i0) (hp i0 hi0)) _
theorem impl_ValueOk.f_of {β : Type} {k : Nat} {a0_0 : Int} {a0_1 : ByteArray} {a0_2 : Int} {a0_3 : List (List D)} {a0_4 : List (List D)} {z0 : Bool} (h : impl_ValueOk.t k a0_0 a0_1 a0_2 a0_3 a0_4 = some z0) (K : Bool → Option β) : impl_ValueOk.f k a0_0 a0_1 a0_2 a0_3 a0_4 K = K z0 := by
  unfold impl_ValueOk.f
  rw [h]
theorem impl_ValueOk.tm {ι α : Type} {ok : ι → Prop} {ψ : α → Prop} {p : ι → Nat} {B : Nat} (hp : ∀ i, ok i → B ≤ p i) {a0_0 : Int} {a0_1 : ByteArray} {a0_2 : Int} {a0_3 : List (List D)} {a0_4 : List (List D)} {φ : Bool → Prop} (h : Tm (fun k => B ≤ k) (fun k => impl_ValueOk.t k a0_0 a0_1 a0_2 a0_3 a0_4) φ) {G : ι → Bool → Option α} (hG : ∀ z0, φ z0 → Tm ok (fun ι0 => G ι0 z0) ψ) : Tm ok (fun ι0 => impl_ValueOk.f (p ι0) a0_0 a0_1 a0_2 a0_3 a0_4 (G ι0)) ψ := by
  obtain ⟨z0, h1, h2⟩ := h
  exact (hG z0 h1).congr fun i0 hi0 => impl_ValueOk.f_of (h2 (p i0) (hp i0 hi0)) _
theorem shapeOk_fv {c0 : Int} {c1 : ByteArray} {c2 : Int} {c3 c4 : List (List D)} (g1 : c1.size ≤ lim) (g3 : Zm RS lim c3) {k : Nat} (hk : Zar k) {β : Type} (K : Bool → Option β) : impl_shapeOk.f k c0 c1 c2 c3 c4 K = K (Yf c0 c1 c2 c3 c4 && (!(c0 == 5) || decide ((c3.length : Int) ≤ 300))) := impl_shapeOk.f_of (by
  have hlim : lim = 1048576 := rfl
  have hb : big = 2 ^ 64 := rfl
  unfold impl_shapeOk.t impl_shapeOk.g
  have text : Z4 (impl_shapeOk.l0 k ((c2 : Int) == 0) (((c3.length : Int) : Int) == 0) (((c4.length : Int) : Int) == 0) (c1.size : Int) c0 c1 c2 c3 c4 fun z0 => some z0) k 0 = some (textB c1 && (decide ((c1.size : Int) ≤ 100) && (c2 == 0 && ((c3.length : Int) == 0 && (c4.length : Int) == 0)))) := by
    rw [iter_all0 (n := c1.size) (fun i => inB (bS c1 (i : Int)) 32 126) (r1 := some false) (r2 := some (decide ((c1.size : Int) ≤ 100) && (c2 == 0 && ((c3.length : Int) == 0 && (c4.length : Int) == 0)))) (by unfold Zar at hk; omega)]
    · unfold textB
      generalize List.all _ _ = x
      cases x <;> rfl
    · intro L i hi
      simp (disch := omega) only [impl_shapeOk.l0, dec_true (show (i : Int) < c1.size by omega), cond_true, atStr_at, wrap_b, Yk, ZC]
      generalize inB _ _ _ = x
      cases x <;> rfl
    · intro L
      simp only [impl_shapeOk.l0, dec_false (show ¬ (c1.size : Int) < c1.size by omega), cond_false]
      cases decide ((c1.size : Int) ≤ 100) <;> cases c2 == 0 <;> cases ((c3.length : Int) == 0) <;> rfl
  simp only [text, Yk, namesOk_fv g3 hk]
  unfold Yf
  generalize textB c1 = b1
  generalize decide ((c1.size : Int) ≤ 100) = b0
  generalize hb2 : strEq c1 (⟨#[]⟩ : ByteArray) = b2
  have hb3 : strEq c1 Yl = b2 := hb2
  rw [hb3]
  generalize Yj c3 = b3
  generalize inB c2 0 1 = b4
  generalize (c2 == 0) = b5
  generalize ((c4.length : Int) == 0) = b6
  generalize ((c3.length : Int) == (c4.length : Int)) = b7
  generalize ((c3.length : Int) == 0) = b8
  generalize decide ((c3.length : Int) ≤ 300) = b9
  rcases ZaW c0 with rfl | rfl | rfl | rfl | rfl | ⟨e1, e2, e3, e4, e5⟩
  · cases b0 <;> cases b1 <;> cases b5 <;> cases b6 <;> cases b8 <;> rfl
  · cases b2 <;> cases b6 <;> cases b8 <;> rfl
  · cases b2 <;> cases b4 <;> cases b6 <;> cases b8 <;> rfl
  · cases b2 <;> cases b5 <;> cases b8 <;> rfl
  · cases b2 <;> cases b3 <;> cases b5 <;> cases b7 <;> cases b9 <;> rfl
  · simp only [e1, e2, e3, e4, e5, cond_false, Bool.false_and]) K
theorem measured_t (d : Nat) : ∀ {c0 : Int} {c1 : ByteArray} {c2 : Int} {c3 c4 : List (List D)}, c1.size ≤ lim → Zm RS lim c3 → Zm Yb lim c4 → d ≤ 6 → ∀ {k : Nat}, big + d + 1 ≤ k → impl_measured.t k c0 c1 c2 c3 c4 (d : Int) = some (bif Yd d [.int .i64 c0, .str c1, .int .i64 c2, .sl c3, .sl c4] == 0 then 301 else Yd d [.int .i64 c0, .str c1, .int .i64 c2, .sl c3, .sl c4]) := by
  have hlim : lim = 1048576 := rfl
  have hb : big = 2 ^ 64 := rfl
  induction d with
  | zero =>
    intro c0 c1 c2 c3 c4 g1 g3 g4 hd k hk
    cases k with
    | zero => omega
    | succ k => rfl
  | succ d ih =>
    intro c0 c1 c2 c3 c4 g1 g3 g4 hd k hk
    cases k with
    | zero => omega
    | succ k =>
    have hl := g4.1
    have hk0 : Zar k := by unfold Zar; omega
    rw [impl_measured.t_succ]
    unfold impl_measured.g impl_measured.body
    rw [show (((d + 1 : Nat) : Int) == 0) = false by rw [beq_eq_false_iff_ne]; omega, cond_false, shapeOk_fv g1 g3 hk0]
    have key := iter_val (b := impl_measured.l0 k (impl_measured.f k) ((d + 1 : Nat) : Int) c4 (c4.length : Int) fun z0 => some z0) (fun v => ((c4.length : Int) - v.2).toNat) (fun v => 0 ≤ v.2 ∧ v.2 ≤ c4.length ∧ 1 ≤ v.1 ∧ v.1 ≤ 300)
      (fun v => bif Yg (Yd d) (c4.drop v.2.toNat) v.1 == 0 then some 301 else some (Yg (Yd d) (c4.drop v.2.toNat) v.1)) ?_ k (1, 0) (by simp only []; omega) (by simp only []; omega)
    · rw [key]
      show (bif !(Yf c0 c1 c2 c3 c4 && (!(c0 == 5) || decide ((c3.length : Int) ≤ 300))) then some 301 else bif Yg (Yd d) (List.drop 0 c4) 1 == 0 then some 301 else some (Yg (Yd d) (List.drop 0 c4) 1)) = some (bif Yd (d + 1) [.int .i64 c0, .str c1, .int .i64 c2, .sl c3, .sl c4] == 0 then 301 else Yd (d + 1) [.int .i64 c0, .str c1, .int .i64 c2, .sl c3, .sl c4])
      have el : Yd (d + 1) [.int .i64 c0, .str c1, .int .i64 c2, .sl c3, .sl c4] = bif Yg (Yd d) c4 1 == 0 then 0 else bif Yf c0 c1 c2 c3 c4 then Yg (Yd d) c4 1 else 0 := rfl
      rw [List.drop_zero, el]
      have hs := sumL_range (f := Yd d) (fun r => (Yh d r).1) (rs := c4) (n := 1) (by omega) (by omega)
      by_cases hz : Yg (Yd d) c4 1 = 0
      · rw [hz]
        cases (Yf c0 c1 c2 c3 c4 && (!(c0 == 5) || decide ((c3.length : Int) ≤ 300))) <;> rfl
      · have hz' : (Yg (Yd d) c4 1 == 0) = false := by rw [beq_eq_false_iff_ne]; exact hz
        rw [hz', cond_false, cond_false]
        by_cases hsh : Yf c0 c1 c2 c3 c4 = true
        · have h5 : (!(c0 == 5) || decide ((c3.length : Int) ≤ 300)) = true := by
            by_cases h5 : c0 = 5
            · subst h5
              have : (c3.length : Int) = c4.length := by
                unfold Yf at hsh
                simp at hsh
                omega
              have := hs.2.2 hz
              simp
              omega
            · simp [h5]
          rw [hsh, h5]
          simp only [Bool.and_self, Bool.not_true, cond_false, cond_true, hz']
        · rw [Bool.not_eq_true] at hsh
          rw [hsh]
          rfl
    · rintro ⟨n, i⟩ ⟨i0, i1, n0, n1⟩ L hL
      simp only [] at i0 i1 n0 n1 hL ⊢
      by_cases hi : i < c4.length
      · have hg := Yb.get g4 i0 hi
        have hr := Yh d (gR c4 i)
        have ih' := ih (c0 := gI c4 i 0) (c2 := gI c4 i 2) hg.2.2.1 hg.2.2.2.2.1 hg.2.2.2.2.2.1 (by omega) (k := k) (by omega)
        rw [← hg.1] at ih'
        simp (disch := omega) only [impl_measured.l0, dec_true hi, cond_true, Yb.row g4, uncons_at, dStr_at, dInt_self, dSl_at, atEnd_at, ZC, show ((d + 1 : Nat) : Int) - 1 = (d : Int) by omega]
        rw [impl_measured.f_of ih', drop_gR i0 hi]
        simp only [Yg]
        by_cases hz : Yd d (gR c4 i) = 0
        · rw [hz, show ((0 : Int) == 0) = true from rfl, cond_true, ZC (by omega) (by omega), dec_true (by omega)]
          simp
        · rw [show (Yd d (gR c4 i) == 0) = false by rw [beq_eq_false_iff_ne]; exact hz, cond_false, ZC (by omega) (by omega)]
          by_cases hn : n + Yd d (gR c4 i) > 300
          · rw [dec_true hn, if_pos (.inr hn)]
            rfl
          · rw [dec_false hn, if_neg (by omega), cond_false, hL _ ⟨by simp only []; omega, by simp only []; omega, by simp only []; omega, by simp only []; omega⟩ (by simp only []; omega)]
      · rw [drop_end (by omega)]
        simp only [impl_measured.l0, dec_false hi, cond_false, Yg]
        rw [show (n == 0) = false by rw [beq_eq_false_iff_ne]; omega, cond_false]
noncomputable def valB (c0 : Int) (c1 : ByteArray) (c2 : Int) (c3 c4 : List (List D)) : Bool := decide (Yd 6 [.int .i64 c0, .str c1, .int .i64 c2, .sl c3, .sl c4] > 0)
theorem spec_ValueOk_fv {c0 : Int} {c1 : ByteArray} {c2 : Int} {c3 c4 : List (List D)} (g1 : c1.size ≤ lim) (g3 : Zm RS lim c3) (g4 : Zm Yb lim c4) {k : Nat} (hk : Zay 1 k) {β : Type} (K : Bool → Option β) : spec_ValueOk.f k c0 c1 c2 c3 c4 K = K (valB c0 c1 c2 c3 c4) := spec_ValueOk.f_of (by
  unfold spec_ValueOk.t spec_ValueOk.g
  rw [look_fv (by omega) (by omega) g1 g3 g4 hk]
  rfl) K
theorem impl_ValueOk_fv {c0 : Int} {c1 : ByteArray} {c2 : Int} {c3 c4 : List (List D)} (g1 : c1.size ≤ lim) (g3 : Zm RS lim c3) (g4 : Zm Yb lim c4) {k : Nat} (hk : Zay 1 k) {β : Type} (K : Bool → Option β) : impl_ValueOk.f k c0 c1 c2 c3 c4 K = K (valB c0 c1 c2 c3 c4) := impl_ValueOk.f_of (by
  have hb : big = 2 ^ 64 := rfl
  have h1 : lv 1 = 2 ^ 65 := rfl
  unfold impl_ValueOk.t impl_ValueOk.g
  rw [impl_measured.f_of (show impl_measured.t k c0 c1 c2 c3 c4 6 = _ from measured_t 6 g1 g3 g4 (by omega) (by unfold Zay at hk; omega))]
  unfold valB
  have hr := Yh 6 [.int .i64 c0, .str c1, .int .i64 c2, .sl c3, .sl c4]
  generalize Yd 6 [.int .i64 c0, .str c1, .int .i64 c2, .sl c3, .sl c4] = n at *
  by_cases hz : n = 0
  · subst hz; rfl
  · rw [show (n == 0) = false by rw [beq_eq_false_iff_ne]; exact hz, cond_false, dec_true (by omega), dec_true (by omega)]) K
theorem impl_objOk.f_of {β : Type} {k : Nat} {a0_0 : Int} {a0_1 : ByteArray} {a0_2 : Int} {a0_3 : Int} {a0_4 : Int} {a0_5 : Bool} {a0_6 : List (List D)} {a0_7 : Int} {a0_8 : ByteArray} {a0_9 : Int} {a0_10 : List (List D)} {a0_11 : List (List D)} {a0_12 : Int} {a0_13 : ByteArray} {a0_14 : Int} {a0_15 : List (List D)} {a0_16 : List (List D)} {a1 : Int} {a2 : Int} {a3 : Bool} {z0 : Bool} (h : impl_objOk.t k a0_0 a0_1 a0_2 a0_3 a0_4 a0_5 a0_6 a0_7 a0_8 a0_9 a0_10 a0_11 a0_12 a0_13 a0_14 a0_15 a0_16 a1 a2 a3 = some z0) (K : Bool → Option β) : impl_objOk.f k a0_0 a0_1 a0_2 a0_3 a0_4 a0_5 a0_6 a0_7 a0_8 a0_9 a0_10 a0_11 a0_12 a0_13 a0_14 a0_15 a0_16 a1 a2 a3 K = K z0 := by
  unfold impl_objOk.f
  rw [h]
theorem impl_objOk.tm {ι α : Type} {ok : ι → Prop} {ψ : α → Prop} {p : ι → Nat} {B : Nat} (hp : ∀ i, ok i → B ≤ p i) {a0_0 : Int} {a0_1 : ByteArray} {a0_2 : Int} {a0_3 : Int} {a0_4 : Int} {a0_5 : Bool} {a0_6 : List (List D)} {a0_7 : Int} {a0_8 : ByteArray} {a0_9 : Int} {a0_10 : List (List D)} {a0_11 : List (List D)} {a0_12 : Int} {a0_13 : ByteArray} {a0_14 : Int} {a0_15 : List (List D)} {a0_16 : List (List D)} {a1 : Int} {a2 : Int} {a3 : Bool} {φ : Bool → Prop} (h : Tm (fun k => B ≤ k) (fun k => impl_objOk.t k a0_0 a0_1 a0_2 a0_3 a0_4 a0_5 a0_6 a0_7 a0_8 a0_9 a0_10 a0_11 a0_12 a0_13 a0_14 a0_15 a0_16 a1 a2 a3) φ) {G : ι → Bool → Option α} (hG : ∀ z0, φ z0 → Tm ok (fun ι0 => G ι0 z0) ψ) : Tm ok (fun ι0 => impl_objOk.f (p ι0) a0_0 a0_1 a0_2 a0_3 a0_4 a0_5 a0_6 a0_7 a0_8 a0_9 a0_10 a0_11 a0_12 a0_13 a0_14 a0_15 a0_16 a1 a2 a3 (G ι0)) ψ := by
  obtain ⟨z0, h1, h2⟩ := h
  exact (hG z0 h1).congr fun i0 hi0 => impl_objOk.f_of (h2 (p i0) (hp i0 hi0)) _
theorem cmp_isNaN_int.f_of {β : Type} {k : Nat} {a0 : Int} {z0 : Bool} (h : cmp_isNaN_int.t k a0 = some z0) (K : Bool → Option β) : cmp_isNaN_int.f k a0 K = K z0 := by
  unfold cmp_isNaN_int.f
  rw [h]
theorem cmp_isNaN_int.tm {ι α : Type} {ok : ι → Prop} {ψ : α → Prop} {p : ι → Nat} {B : Nat} (hp : ∀ i, ok i → B ≤ p i) {a0 : Int} {φ : Bool → Prop} (h : Tm (fun k => B ≤ k) (fun k => cmp_isNaN_int.t k a0) φ) {G : ι → Bool → Option α} (hG : ∀ z0, φ z0 → Tm ok (fun ι0 => G ι0 z0) ψ) : Tm ok (fun ι0 => cmp_isNaN_int.f (p ι0) a0 (G ι0)) ψ := by
  obtain ⟨z0, h1, h2⟩ := h
  exact (hG z0 h1).congr fun i0 hi0 => cmp_isNaN_int.f_of (h2 (p i0) (hp i0 hi0)) _
theorem cmp_isNaN_int.T {a0 : Int} : Tm Zar (fun k => cmp_isNaN_int.t k a0) (fun _ => True) := by
  unfold cmp_isNaN_int.t cmp_isNaN_int.g
  have hm := Za
  have hlim : lim = 1048576 := rfl
  exact Tm.ret (by trivial)
noncomputable def cmp_isNaN_int.v (a0 : Int) : Bool := (cmp_isNaN_int.t big a0).getD default
theorem cmp_isNaN_int.tv {a0 : Int} {k : Nat} (hk : Zar k) : cmp_isNaN_int.t k a0 = some (cmp_isNaN_int.v a0) := (cmp_isNaN_int.T).val hk
theorem cmp_isNaN_int.fv {a0 : Int} {k : Nat} (hk : Zar k) {β : Type} (K : Bool → Option β) : cmp_isNaN_int.f k a0 K = K (cmp_isNaN_int.v a0) := cmp_isNaN_int.f_of (cmp_isNaN_int.tv hk) K
theorem cmp_Compare_int.f_of {β : Type} {k : Nat} {a0 : Int} {a1 : Int} {z0 : Int} (h : cmp_Compare_int.t k a0 a1 = some z0) (K : Int → Option β) : cmp_Compare_int.f k a0 a1 K = K z0 := by
  unfold cmp_Compare_int.f
  rw [h]
theorem cmp_Compare_int.tm {ι α : Type} {ok : ι → Prop} {ψ : α → Prop} {p : ι → Nat} {B : Nat} (hp : ∀ i, ok i → B ≤ p i) {a0 : Int} {a1 : Int} {φ : Int → Prop} (h : Tm (fun k => B ≤ k) (fun k => cmp_Compare_int.t k a0 a1) φ) {G : ι → Int → Option α} (hG : ∀ z0, φ z0 → Tm ok (fun ι0 => G ι0 z0) ψ) : Tm ok (fun ι0 => cmp_Compare_int.f (p ι0) a0 a1 (G ι0)) ψ := by
  obtain ⟨z0, h1, h2⟩ := h
  exact (hG z0 h1).congr fun i0 hi0 => cmp_Compare_int.f_of (h2 (p i0) (hp i0 hi0)) _
theorem cmp_Compare_int.T {a0 : Int} {a1 : Int} : Tm Zar (fun k => cmp_Compare_int.t k a0 a1) (fun _ => True) := by
  unfold cmp_Compare_int.t cmp_Compare_int.g
  have hm := Za
  have hlim : lim = 1048576 := rfl
  refine cmp_isNaN_int.tm (fun i hi => hi) (cmp_isNaN_int.T) (fun y2 hy1 => ?_)
  refine cmp_isNaN_int.tm (fun i hi => hi) (cmp_isNaN_int.T) (fun y4 hy3 => ?_)
  refine Tm.ite (fun h5 => ?_) (fun h5 => ?_)
  · try simp only [bz0, bz1, bz2, bz3, bz4, bz5, bz6, bz7, bz8, bz9, bza] at h5
    refine Tm.ite (fun h6 => ?_) (fun h6 => ?_)
    · try simp only [bz0, bz1, bz2, bz3, bz4, bz5, bz6, bz7, bz8, bz9, bza] at h6
      exact Tm.ret (by trivial)
    · try simp only [bz0, bz1, bz2, bz3, bz4, bz5, bz6, bz7, bz8, bz9, bza] at h6
      exact Tm.ret (by trivial)
  · try simp only [bz0, bz1, bz2, bz3, bz4, bz5, bz6, bz7, bz8, bz9, bza] at h5
    refine Tm.ite (fun h7 => ?_) (fun h7 => ?_)
    · try simp only [bz0, bz1, bz2, bz3, bz4, bz5, bz6, bz7, bz8, bz9, bza] at h7
      exact Tm.ret (by trivial)
    · try simp only [bz0, bz1, bz2, bz3, bz4, bz5, bz6, bz7, bz8, bz9, bza] at h7
      refine Tm.ite (fun h8 => ?_) (fun h8 => ?_)
      · try simp only [bz0, bz1, bz2, bz3, bz4, bz5, bz6, bz7, bz8, bz9, bza] at h8
        exact Tm.ret (by trivial)
      · try simp only [bz0, bz1, bz2, bz3, bz4, bz5, bz6, bz7, bz8, bz9, bza] at h8
        refine Tm.ite (fun h9 => ?_) (fun h9 => ?_)
        · try simp only [bz0, bz1, bz2, bz3, bz4, bz5, bz6, bz7, bz8, bz9, bza] at h9
          exact Tm.ret (by trivial)
        · try simp only [bz0, bz1, bz2, bz3, bz4, bz5, bz6, bz7, bz8, bz9, bza] at h9
          exact Tm.ret (by trivial)
noncomputable def cmp_Compare_int.v (a0 : Int) (a1 : Int) : Int := (cmp_Compare_int.t big a0 a1).getD default
theorem cmp_Compare_int.tv {a0 : Int} {a1 : Int} {k : Nat} (hk : Zar k) : cmp_Compare_int.t k a0 a1 = some (cmp_Compare_int.v a0 a1) := (cmp_Compare_int.T).val hk
theorem cmp_Compare_int.fv {a0 : Int} {a1 : Int} {k : Nat} (hk : Zar k) {β : Type} (K : Int → Option β) : cmp_Compare_int.f k a0 a1 K = K (cmp_Compare_int.v a0 a1) := cmp_Compare_int.f_of (cmp_Compare_int.tv hk) K
theorem bytealg_CompareString.f_of {β : Type} {k : Nat} {a0 : ByteArray} {a1 : ByteArray} {z0 : Int} (h : bytealg_CompareString.t k a0 a1 = some z0) (K : Int → Option β) : bytealg_CompareString.f k a0 a1 K = K z0 := by
  unfold bytealg_CompareString.f
  rw [h]
theorem bytealg_CompareString.tm {ι α : Type} {ok : ι → Prop} {ψ : α → Prop} {p : ι → Nat} {B : Nat} (hp : ∀ i, ok i → B ≤ p i) {a0 : ByteArray} {a1 : ByteArray} {φ : Int → Prop} (h : Tm (fun k => B ≤ k) (fun k => bytealg_CompareString.t k a0 a1) φ) {G : ι → Int → Option α} (hG : ∀ z0, φ z0 → Tm ok (fun ι0 => G ι0 z0) ψ) : Tm ok (fun ι0 => bytealg_CompareString.f (p ι0) a0 a1 (G ι0)) ψ := by
  obtain ⟨z0, h1, h2⟩ := h
  exact (hG z0 h1).congr fun i0 hi0 => bytealg_CompareString.f_of (h2 (p i0) (hp i0 hi0)) _
theorem strings_Compare.f_of {β : Type} {k : Nat} {a0 : ByteArray} {a1 : ByteArray} {z0 : Int} (h : strings_Compare.t k a0 a1 = some z0) (K : Int → Option β) : strings_Compare.f k a0 a1 K = K z0 := by
  unfold strings_Compare.f
  rw [h]
theorem strings_Compare.tm {ι α : Type} {ok : ι → Prop} {ψ : α → Prop} {p : ι → Nat} {B : Nat} (hp : ∀ i, ok i → B ≤ p i) {a0 : ByteArray} {a1 : ByteArray} {φ : Int → Prop} (h : Tm (fun k => B ≤ k) (fun k => strings_Compare.t k a0 a1) φ) {G : ι → Int → Option α} (hG : ∀ z0, φ z0 → Tm ok (fun ι0 => G ι0 z0) ψ) : Tm ok (fun ι0 => strings_Compare.f (p ι0) a0 a1 (G ι0)) ψ := by
  obtain ⟨z0, h1, h2⟩ := h
  exact (hG z0 h1).congr fun i0 hi0 => strings_Compare.f_of (h2 (p i0) (hp i0 hi0)) _
theorem impl_cmpObjs.f_of {β : Type} {k : Nat} {a0_0 : Int} {a0_1 : ByteArray} {a0_2 : Int} {a0_3 : Int} {a0_4 : Int} {a0_5 : Bool} {a0_6 : List (List D)} {a0_7 : Int} {a0_8 : ByteArray} {a0_9 : Int} {a0_10 : List (List D)} {a0_11 : List (List D)} {a0_12 : Int} {a0_13 : ByteArray} {a0_14 : Int} {a0_15 : List (List D)} {a0_16 : List (List D)} {a1_0 : Int} {a1_1 : ByteArray} {a1_2 : Int} {a1_3 : Int} {a1_4 : Int} {a1_5 : Bool} {a1_6 : List (List D)} {a1_7 : Int} {a1_8 : ByteArray} {a1_9 : Int} {a1_10 : List (List D)} {a1_11 : List (List D)} {a1_12 : Int} {a1_13 : ByteArray} {a1_14 : Int} {a1_15 : List (List D)} {a1_16 : List (List D)} {z0 : Int} (h : impl_cmpObjs.t k a0_0 a0_1 a0_2 a0_3 a0_4 a0_5 a0_6 a0_7 a0_8 a0_9 a0_10 a0_11 a0_12 a0_13 a0_14 a0_15 a0_16 a1_0 a1_1 a1_2 a1_3 a1_4 a1_5 a1_6 a1_7 a1_8 a1_9 a1_10 a1_11 a1_12 a1_13 a1_14 a1_15 a1_16 = some z0) (K : Int → Option β) : impl_cmpObjs.f k a0_0 a0_1 a0_2 a0_3 a0_4 a0_5 a0_6 a0_7 a0_8 a0_9 a0_10 a0_11 a0_12 a0_13 a0_14 a0_15 a0_16 a1_0 a1_1 a1_2 a1_3 a1_4 a1_5 a1_6 a1_7 a1_8 a1_9 a1_10 a1_11 a1_12 a1_13 a1_14 a1_15 a1_16 K = K z0 := by
  unfold impl_cmpObjs.f
  rw [h]
theorem impl_cmpObjs.tm {ι α : Type} {ok : ι → Prop} {ψ : α → Prop} {p : ι → Nat} {B : Nat} (hp : ∀ i, ok i → B ≤ p i) {a0_0 : Int} {a0_1 : ByteArray} {a0_2 : Int} {a0_3 : Int} {a0_4 : Int} {a0_5 : Bool} {a0_6 : List (List D)} {a0_7 : Int} {a0_8 : ByteArray} {a0_9 : Int} {a0_10 : List (List D)} {a0_11 : List (List D)} {a0_12 : Int} {a0_13 : ByteArray} {a0_14 : Int} {a0_15 : List (List D)} {a0_16 : List (List D)} {a1_0 : Int} {a1_1 : ByteArray} {a1_2 : Int} {a1_3 : Int} {a1_4 : Int} {a1_5 : Bool} {a1_6 : List (List D)} {a1_7 : Int} {a1_8 : ByteArray} {a1_9 : Int} {a1_10 : List (List D)} {a1_11 : List (List D)} {a1_12 : Int} {a1_13 : ByteArray} {a1_14 : Int} {a1_15 : List (List D)} {a1_16 : List (List D)} {φ : Int → Prop} (h : Tm (fun k => B ≤ k) (fun k => impl_cmpObjs.t k a0_0 a0_1 a0_2 a0_3 a0_4 a0_5 a0_6 a0_7 a0_8 a0_9 a0_10 a0_11 a0_12 a0_13 a0_14 a0_15 a0_16 a1_0 a1_1 a1_2 a1_3 a1_4 a1_5 a1_6 a1_7 a1_8 a1_9 a1_10 a1_11 a1_12 a1_13 a1_14 a1_15 a1_16) φ) {G : ι → Int → Option α} (hG : ∀ z0, φ z0 → Tm ok (fun ι0 => G ι0 z0) ψ) : Tm ok (fun ι0 => impl_cmpObjs.f (p ι0) a0_0 a0_1 a0_2 a0_3 a0_4 a0_5 a0_6 a0_7 a0_8 a0_9 a0_10 a0_11 a0_12 a0_13 a0_14 a0_15 a0_16 a1_0 a1_1 a1_2 a1_3 a1_4 a1_5 a1_6 a1_7 a1_8 a1_9 a1_10 a1_11 a1_12 a1_13 a1_14 a1_15 a1_16 (G ι0)) ψ := by
  obtain ⟨z0, h1, h2⟩ := h
  exact (hG z0 h1).congr fun i0 hi0 => impl_cmpObjs.f_of (h2 (p i0) (hp i0 hi0)) _
theorem impl_objsOk_1.f_of {β : Type} {k : Nat} {a0_0 : Int} {a0_1 : ByteArray} {a0_2 : Int} {a0_3 : Int} {a0_4 : Int} {a0_5 : Bool} {a0_6 : List (List D)} {a0_7 : Int} {a0_8 : ByteArray} {a0_9 : Int} {a0_10 : List (List D)} {a0_11 : List (List D)} {a0_12 : Int} {a0_13 : ByteArray} {a0_14 : Int} {a0_15 : List (List D)} {a0_16 : List (List D)} {f0_0 : Int} {f0_1 : ByteArray} {f0_2 : Int} {f0_3 : Int} {f0_4 : Int} {f0_5 : Bool} {f0_6 : List (List D)} {f0_7 : Int} {f0_8 : ByteArray} {f0_9 : Int} {f0_10 : List (List D)} {f0_11 : List (List D)} {f0_12 : Int} {f0_13 : ByteArray} {f0_14 : Int} {f0_15 : List (List D)} {f0_16 : List (List D)} {z0 : Bool} (h : impl_objsOk_1.t k a0_0 a0_1 a0_2 a0_3 a0_4 a0_5 a0_6 a0_7 a0_8 a0_9 a0_10 a0_11 a0_12 a0_13 a0_14 a0_15 a0_16 f0_0 f0_1 f0_2 f0_3 f0_4 f0_5 f0_6 f0_7 f0_8 f0_9 f0_10 f0_11 f0_12 f0_13 f0_14 f0_15 f0_16 = some z0) (K : Bool → Option β) : impl_objsOk_1.f k a0_0 a0_1 a0_2 a0_3 a0_4 a0_5 a0_6 a0_7 a0_8 a0_9 a0_10 a0_11 a0_12 a0_13 a0_14 a0_15 a0_16 f0_0 f0_1 f0_2 f0_3 f0_4 f0_5 f0_6 f0_7 f0_8 f0_9 f0_10 f0_11 f0_12 f0_13 f0_14 f0_15 f0_16 K = K z0 := by
  unfold impl_objsOk_1.f
  rw [h]
theorem impl_objsOk_1.tm {ι α : Type} {ok : ι → Prop} {ψ : α → Prop} {p : ι → Nat} {B : Nat} (hp : ∀ i, ok i → B ≤ p i) {a0_0 : Int} {a0_1 : ByteArray} {a0_2 : Int} {a0_3 : Int} {a0_4 : Int} {a0_5 : Bool} {a0_6 : List (List D)} {a0_7 : Int} {a0_8 : ByteArray} {a0_9 : Int} {a0_10 : List (List D)} {a0_11 : List (List D)} {a0_12 : Int} {a0_13 : ByteArray} {a0_14 : Int} {a0_15 : List (List D)} {a0_16 : List (List D)} {f0_0 : Int} {f0_1 : ByteArray} {f0_2 : Int} {f0_3 : Int} {f0_4 : Int} {f0_5 : Bool} {f0_6 : List (List D)} {f0_7 : Int} {f0_8 : ByteArray} {f0_9 : Int} {f0_10 : List (List D)} {f0_11 : List (List D)} {f0_12 : Int} {f0_13 : ByteArray} {f0_14 : Int} {f0_15 : List (List D)} {f0_16 : List (List D)} {φ : Bool → Prop} (h : Tm (fun k => B ≤ k) (fun k => impl_objsOk_1.t k a0_0 a0_1 a0_2 a0_3 a0_4 a0_5 a0_6 a0_7 a0_8 a0_9 a0_10 a0_11 a0_12 a0_13 a0_14 a0_15 a0_16 f0_0 f0_1 f0_2 f0_3 f0_4 f0_5 f0_6 f0_7 f0_8 f0_9 f0_10 f0_11 f0_12 f0_13 f0_14 f0_15 f0_16) φ) {G : ι → Bool → Option α} (hG : ∀ z0, φ z0 → Tm ok (fun ι0 => G ι0 z0) ψ) : Tm ok (fun ι0 => impl_objsOk_1.f (p ι0) a0_0 a0_1 a0_2 a0_3 a0_4 a0_5 a0_6 a0_7 a0_8 a0_9 a0_10 a0_11 a0_12 a0_13 a0_14 a0_15 a0_16 f0_0 f0_1 f0_2 f0_3 f0_4 f0_5 f0_6 f0_7 f0_8 f0_9 f0_10 f0_11 f0_12 f0_13 f0_14 f0_15 f0_16 (G ι0)) ψ := by
  obtain ⟨z0, h1, h2⟩ := h
  exact (hG z0 h1).congr fun i0 hi0 => impl_objsOk_1.f_of (h2 (p i0) (hp i0 hi0)) _
theorem slices_IndexFunc_impl_Obj__impl_objsOk_1.f_of {β : Type} {k : Nat} {a0 : List (List D)} {a1_0_0 : Int} {a1_0_1 : ByteArray} {a1_0_2 : Int} {a1_0_3 : Int} {a1_0_4 : Int} {a1_0_5 : Bool} {a1_0_6 : List (List D)} {a1_0_7 : Int} {a1_0_8 : ByteArray} {a1_0_9 : Int} {a1_0_10 : List (List D)} {a1_0_11 : List (List D)} {a1_0_12 : Int} {a1_0_13 : ByteArray} {a1_0_14 : Int} {a1_0_15 : List (List D)} {a1_0_16 : List (List D)} {z0 : Int} (h : slices_IndexFunc_impl_Obj__impl_objsOk_1.t k a0 a1_0_0 a1_0_1 a1_0_2 a1_0_3 a1_0_4 a1_0_5 a1_0_6 a1_0_7 a1_0_8 a1_0_9 a1_0_10 a1_0_11 a1_0_12 a1_0_13 a1_0_14 a1_0_15 a1_0_16 = some z0) (K : Int → Option β) : slices_IndexFunc_impl_Obj__impl_objsOk_1.f k a0 a1_0_0 a1_0_1 a1_0_2 a1_0_3 a1_0_4 a1_0_5 a1_0_6 a1_0_7 a1_0_8 a1_0_9 a1_0_10 a1_0_11 a1_0_12 a1_0_13 a1_0_14 a1_0_15 a1_0_16 K = K z0 := by
  unfold slices_IndexFunc_impl_Obj__impl_objsOk_1.f
  rw [h]
theorem slices_IndexFunc_impl_Obj__impl_objsOk_1.tm {ι α : Type} {ok : ι → Prop} {ψ : α → Prop} {p : ι → Nat} {B : Nat} (hp : ∀ i, ok i → B ≤ p i) {a0 : List (List D)} {a1_0_0 : Int} {a1_0_1 : ByteArray} {a1_0_2 : Int} {a1_0_3 : Int} {a1_0_4 : Int} {a1_0_5 : Bool} {a1_0_6 : List (List D)} {a1_0_7 : Int} {a1_0_8 : ByteArray} {a1_0_9 : Int} {a1_0_10 : List (List D)} {a1_0_11 : List (List D)} {a1_0_12 : Int} {a1_0_13 : ByteArray} {a1_0_14 : Int} {a1_0_15 : List (List D)} {a1_0_16 : List (List D)} {φ : Int → Prop} (h : Tm (fun k => B ≤ k) (fun k => slices_IndexFunc_impl_Obj__impl_objsOk_1.t k a0 a1_0_0 a1_0_1 a1_0_2 a1_0_3 a1_0_4 a1_0_5 a1_0_6 a1_0_7 a1_0_8 a1_0_9 a1_0_10 a1_0_11 a1_0_12 a1_0_13 a1_0_14 a1_0_15 a1_0_16) φ) {G : ι → Int → Option α} (hG : ∀ z0, φ z0 → Tm ok (fun ι0 => G ι0 z0) ψ) : Tm ok (fun ι0 => slices_IndexFunc_impl_Obj__impl_objsOk_1.f (p ι0) a0 a1_0_0 a1_0_1 a1_0_2 a1_0_3 a1_0_4 a1_0_5 a1_0_6 a1_0_7 a1_0_8 a1_0_9 a1_0_10 a1_0_11 a1_0_12 a1_0_13 a1_0_14 a1_0_15 a1_0_16 (G ι0)) ψ := by
  obtain ⟨z0, h1, h2⟩ := h
  exact (hG z0 h1).congr fun i0 hi0 => slices_IndexFunc_impl_Obj__impl_objsOk_1.f_of (h2 (p i0) (hp i0 hi0)) _
theorem slices_ContainsFunc_impl_Obj__impl_objsOk_1.f_of {β : Type} {k : Nat} {a0 : List (List D)} {a1_0_0 : Int} {a1_0_1 : ByteArray} {a1_0_2 : Int} {a1_0_3 : Int} {a1_0_4 : Int} {a1_0_5 : Bool} {a1_0_6 : List (List D)} {a1_0_7 : Int} {a1_0_8 : ByteArray} {a1_0_9 : Int} {a1_0_10 : List (List D)} {a1_0_11 : List (List D)} {a1_0_12 : Int} {a1_0_13 : ByteArray} {a1_0_14 : Int} {a1_0_15 : List (List D)} {a1_0_16 : List (List D)} {z0 : Bool} (h : slices_ContainsFunc_impl_Obj__impl_objsOk_1.t k a0 a1_0_0 a1_0_1 a1_0_2 a1_0_3 a1_0_4 a1_0_5 a1_0_6 a1_0_7 a1_0_8 a1_0_9 a1_0_10 a1_0_11 a1_0_12 a1_0_13 a1_0_14 a1_0_15 a1_0_16 = some z0) (K : Bool → Option β) : slices_ContainsFunc_impl_Obj__impl_objsOk_1.f k a0 a1_0_0 a1_0_1 a1_0_2 a1_0_3 a1_0_4 a1_0_5 a1_0_6 a1_0_7 a1_0_8 a1_0_9 a1_0_10 a1_0_11 a1_0_12 a1_0_13 a1_0_14 a1_0_15 a1_0_16 K = K z0 := by
  unfold slices_ContainsFunc_impl_Obj__impl_objsOk_1.f
  rw [h]
theorem slices_ContainsFunc_impl_Obj__impl_objsOk_1.tm {ι α : Type} {ok : ι → Prop} {ψ : α → Prop} {p : ι → Nat} {B : Nat} (hp : ∀ i, ok i → B ≤ p i) {a0 : List (List D)} {a1_0_0 : Int} {a1_0_1 : ByteArray} {a1_0_2 : Int} {a1_0_3 : Int} {a1_0_4 : Int} {a1_0_5 : Bool} {a1_0_6 : List (List D)} {a1_0_7 : Int} {a1_0_8 : ByteArray} {a1_0_9 : Int} {a1_0_10 : List (List D)} {a1_0_11 : List (List D)} {a1_0_12 : Int} {a1_0_13 : ByteArray} {a1_0_14 : Int} {a1_0_15 : List (List D)} {a1_0_16 : List (List D)} {φ : Bool → Prop} (h : Tm (fun k => B ≤ k) (fun k => slices_ContainsFunc_impl_Obj__impl_objsOk_1.t k a0 a1_0_0 a1_0_1 a1_0_2 a1_0_3 a1_0_4 a1_0_5 a1_0_6 a1_0_7 a1_0_8 a1_0_9 a1_0_10 a1_0_11 a1_0_12 a1_0_13 a1_0_14 a1_0_15 a1_0_16) φ) {G : ι → Bool → Option α} (hG : ∀ z0, φ z0 → Tm ok (fun ι0 => G ι0 z0) ψ) : Tm ok (fun ι0 => slices_ContainsFunc_impl_Obj__impl_objsOk_1.f (p ι0) a0 a1_0_0 a1_0_1 a1_0_2 a1_0_3 a1_0_4 a1_0_5 a1_0_6 a1_0_7 a1_0_8 a1_0_9 a1_0_10 a1_0_11 a1_0_12 a1_0_13 a1_0_14 a1_0_15 a1_0_16 (G ι0)) ψ := by
  obtain ⟨z0, h1, h2⟩ := h
  exact (hG z0 h1).congr fun i0 hi0 => slices_ContainsFunc_impl_Obj__impl_objsOk_1.f_of (h2 (p i0) (hp i0 hi0)) _
theorem impl_objsOk.f_of {β : Type} {k : Nat} {a0 : List (List D)} {a1 : Int} {a2 : Int} {z0 : Bool} (h : impl_objsOk.t k a0 a1 a2 = some z0) (K : Bool → Option β) : impl_objsOk.f k a0 a1 a2 K = K z0 := by
  unfold impl_objsOk.f
  rw [h]
theorem impl_objsOk.tm {ι α : Type} {ok : ι → Prop} {ψ : α → Prop} {p : ι → Nat} {B : Nat} (hp : ∀ i, ok i → B ≤ p i) {a0 : List (List D)} {a1 : Int} {a2 : Int} {φ : Bool → Prop} (h : Tm (fun k => B ≤ k) (fun k => impl_objsOk.t k a0 a1 a2) φ) {G : ι → Bool → Option α} (hG : ∀ z0, φ z0 → Tm ok (fun ι0 => G ι0 z0) ψ) : Tm ok (fun ι0 => impl_objsOk.f (p ι0) a0 a1 a2 (G ι0)) ψ := by
  obtain ⟨z0, h1, h2⟩ := h
  exact (hG z0 h1).congr fun i0 hi0 => impl_objsOk.f_of (h2 (p i0) (hp i0 hi0)) _
theorem less_cmp : ∀ (a b : List UInt8), decide (Go.Lib.compareBytes a b ≥ 0) = !Op.bytesLess a b
  | [], [] => rfl
  | [], _ :: _ => rfl
  | _ :: _, [] => rfl
  | x :: a, y :: b => by
    have ih := less_cmp a b
    unfold Go.Lib.compareBytes Op.bytesLess
    by_cases h1 : x < y
    · simp [h1]
    · by_cases h2 : y < x
      · have h3 : x ≠ y := fun e => by subst e; exact h1 h2
        simp [h1, h2, h3]
      · have h3 : x = y := UInt8.le_antisymm (UInt8.not_lt.1 h2) (UInt8.not_lt.1 h1)
        subst h3
        simp only [h1, if_false, ih]
        simp
theorem cmpS_less (a b : ByteArray) : decide (cmpS a b ≥ 0) = !strLt a b := by
  unfold cmpS strLt
  rw [less_cmp, Go.Lib.toList_data, Go.Lib.toList_data]
theorem waits_v {a : List (List D)} (g : Zm RS lim a) {k : Nat} (hk : Zar k) : spec_l7Waits.v a = (Yj a && decide ((a.length : Int) ≤ 4)) := by
  have hv := spec_l7Waits.tv g hk
  suffices h : spec_l7Waits.t k a = some (Yj a && decide ((a.length : Int) ≤ 4)) by
    rw [hv] at h
    injection h
  have hl := g.1
  have hlim : lim = 1048576 := rfl
  have hb : big = 2 ^ 64 := rfl
  unfold spec_l7Waits.t spec_l7Waits.g
  rw [iter_all0 (n := a.length) (fun i => spec_NameOk.v (gS a (i : Int) 0) && (!decide ((i : Int) > 0) || strLt (gS a ((i : Int) - 1) 0) (gS a (i : Int) 0))) (r1 := some false) (r2 := some (decide ((a.length : Int) ≤ 4))) (by unfold Zar at hk; omega)]
  · unfold Yj
    generalize List.all _ _ = x
    cases x <;> rfl
  · intro L i hi
    have k0 := (RS.get g (v := (i : Int)) (by omega) (by omega)).2.1
    simp (disch := omega) only [spec_l7Waits.l0, dec_true (show (i : Int) < a.length by omega), cond_true, RS.row g, uncons_at, dStr_at, atEnd_at, spec_NameOk.fv k0 hk, ZC]
    by_cases h0 : (i : Int) > 0
    · simp (disch := omega) only [dec_true h0, cond_true, RS.row g, uncons_at, dStr_at, atEnd_at]
      cases spec_NameOk.v (gS a (i : Int) 0) <;> cases strLt (gS a ((i : Int) - 1) 0) (gS a (i : Int) 0) <;> rfl
    · simp only [dec_false h0, cond_false]
      cases spec_NameOk.v (gS a (i : Int) 0) <;> rfl
  · intro L
    simp [spec_l7Waits.l0]
theorem impl_ValueOk_v {c0 : Int} {c1 : ByteArray} {c2 : Int} {c3 c4 : List (List D)} (g1 : c1.size ≤ lim) (g3 : Zm RS lim c3) (g4 : Zm Yb lim c4) {k : Nat} (hk : Zay 1 k) {β : Type} (K : Bool → Option β) : impl_ValueOk.f k c0 c1 c2 c3 c4 K = K (spec_ValueOk.v c0 c1 c2 c3 c4) := by
  have h : some (spec_ValueOk.v c0 c1 c2 c3 c4) = some (valB c0 c1 c2 c3 c4) := (spec_ValueOk.fv (a0_0 := c0) (a0_2 := c2) g1 g3 g4 hk some).symm.trans (spec_ValueOk_fv g1 g3 g4 hk some)
  injection h with h
  rw [impl_ValueOk_fv g1 g3 g4 hk, h]
theorem objOk_fv {x0 : Int} {x1 : ByteArray} {x2 x3 x4 : Int} {x5 : Bool} {x6 : List (List D)} {x7 : Int} {x8 : ByteArray} {x9 : Int} {x10 x11 : List (List D)} {x12 : Int} {x13 : ByteArray} {x14 : Int} {x15 x16 : List (List D)} {rev Z6 : Int} {gone : Bool} (g1 : x1.size ≤ lim) (g6 : Zm RS lim x6) (g8 : x8.size ≤ lim) (g10 : Zm RS lim x10) (g11 : Zm Yb lim x11) (g13 : x13.size ≤ lim) (g15 : Zm RS lim x15) (g16 : Zm Yb lim x16) {k : Nat} (hk : Zay 1 k) {β : Type} (K : Bool → Option β) :
    impl_objOk.f k x0 x1 x2 x3 x4 x5 x6 x7 x8 x9 x10 x11 x12 x13 x14 x15 x16 Z6 rev gone K = K (objV x0 x1 x2 x3 x4 x5 x6 x7 x8 x9 x10 x11 x12 x13 x14 x15 x16 Z6 rev gone) := impl_objOk.f_of (by
  have hk0 : Zar k := up0 hk
  have hi : ∀ {n : Int} {β : Type} (K : Bool → Option β), impl_isKind.f k n K = K (inB n 1 3) := fun K => impl_isKind.f_of (by unfold impl_isKind.t impl_isKind.g; rw [Yk]) K
  unfold impl_objOk.t impl_objOk.g objV
  simp only [hi, Yk, impl_NameOk_f, spec_NameOk.fv g1 hk0, namesOk_fv g6 hk0, ← waits_v g6 hk0, impl_ValueOk_v g8 g10 g11 hk, impl_ValueOk_v g13 g15 g16 hk]
  generalize inB x0 1 3 = b0
  generalize spec_NameOk.v x1 = b1
  generalize inB x2 1 Z6 = b2
  generalize inB x3 1 rev = b3
  generalize inB x4 1 x3 = b4
  generalize spec_l7Waits.v x6 = b5
  generalize spec_ValueOk.v x7 x8 x9 x10 x11 = b6
  generalize spec_ValueOk.v x12 x13 x14 x15 x16 = b7
  generalize decide ((x6.length : Int) > 0) = b8
  cases b0
  · rfl
  cases b1
  · rfl
  cases b2
  · rfl
  cases b3
  · rfl
  cases b4
  · rfl
  cases b5
  · rfl
  cases b6 <;> cases b7 <;> cases gone <;> cases x5 <;> cases b8 <;> rfl) K
theorem cmpObjs_fv {x0 : Int} {x1 : ByteArray} {x2 x3 x4 : Int} {x5 : Bool} {x6 : List (List D)} {x7 : Int} {x8 : ByteArray} {x9 : Int} {x10 x11 : List (List D)} {x12 : Int} {x13 : ByteArray} {x14 : Int} {x15 x16 : List (List D)} {y0 : Int} {y1 : ByteArray} {y2 y3 y4 : Int} {y5 : Bool} {y6 : List (List D)} {y7 : Int} {y8 : ByteArray} {y9 : Int} {y10 y11 : List (List D)} {y12 : Int} {y13 : ByteArray} {y14 : Int} {y15 y16 : List (List D)} {k : Nat} :
    ∃ c : Int, decide (c ≥ 0) = !lessV x0 x1 y0 y1 ∧ ∀ {β : Type} (K : Int → Option β), impl_cmpObjs.f k x0 x1 x2 x3 x4 x5 x6 x7 x8 x9 x10 x11 x12 x13 x14 x15 x16 y0 y1 y2 y3 y4 y5 y6 y7 y8 y9 y10 y11 y12 y13 y14 y15 y16 K = K c := by
  have hn : ∀ {n : Int} {β : Type} (K : Bool → Option β), cmp_isNaN_int.f k n K = K false := fun {n β} K => cmp_isNaN_int.f_of (by unfold cmp_isNaN_int.t cmp_isNaN_int.g; simp) K
  have hc : ∀ {β : Type} (K : Int → Option β), cmp_Compare_int.f k x0 y0 K = K (if x0 < y0 then -1 else if x0 > y0 then 1 else 0) := fun K => cmp_Compare_int.f_of (by
    unfold cmp_Compare_int.t cmp_Compare_int.g
    simp only [hn, cond_false]
    by_cases h1 : x0 < y0
    · simp [h1]
    · by_cases h2 : x0 > y0 <;> simp [h1, h2]) K
  have hs : ∀ {β : Type} (K : Int → Option β), strings_Compare.f k x1 y1 K = K (cmpS x1 y1) := fun K => strings_Compare.f_of (by unfold strings_Compare.t strings_Compare.g; rfl) K
  refine ⟨if x0 < y0 then -1 else if x0 > y0 then 1 else cmpS x1 y1, ?_, fun {β} K => impl_cmpObjs.f_of ?_ K⟩
  · unfold lessV
    by_cases h1 : x0 < y0
    · simp [h1]
    · by_cases h2 : x0 > y0
      · have h3 : ¬ x0 = y0 := by omega
        simp [h1, h2, h3]
      · have h3 : x0 = y0 := by omega
        subst h3
        simp only [h1, gt_iff_lt, if_false, decide_false, Bool.false_or, beq_self_eq_true, Bool.true_and]
        exact cmpS_less x1 y1
  · unfold impl_cmpObjs.t impl_cmpObjs.g
    simp only [hc, hs]
    by_cases h1 : x0 < y0
    · simp [h1]
    · by_cases h2 : x0 > y0 <;> simp [h1, h2]
theorem objsOk_fv {a : List (List D)} {rev Z6 : Int} (g : Zm Ya lim a) {k : Nat} (hk : Zay 1 k) {β : Type} (K : Bool → Option β) : impl_objsOk.f k a Z6 rev K = K (objsB a Z6 rev) := impl_objsOk.f_of (by
  have hk0 : Zar k := up0 hk
  have hl := g.1
  have hlim : lim = 1048576 := rfl
  have hb : big = 2 ^ 64 := rfl
  unfold impl_objsOk.t impl_objsOk.g
  rw [iter_all0 (n := a.length) (objsP a Z6 rev) (r1 := some false) (r2 := some (decide ((a.length : Int) ≤ 60))) (by unfold Zar at hk0; omega)]
  · unfold objsB
    cases (List.range a.length).all (objsP a Z6 rev) <;> rfl
  · intro L i hi
    obtain ⟨-, -, k1, -, -, -, k6, -, k8, -, k10, k11, -, k13, -, k15, k16, -⟩ := Ya.get g (v := (i : Int)) (by omega) (by omega)
    have e3 : ∀ {F : Bool → Option Bool}, impl_objOk.f k (gI a i 0) (gS a i 1) (gI a i 2) (gI a i 3) (gI a i 4) (gB a i 5) (gL a i 6) (gI a i 7) (gS a i 8) (gI a i 9) (gL a i 10) (gL a i 11) (gI a i 12) (gS a i 13) (gI a i 14) (gL a i 15) (gL a i 16) Z6 rev false F = F (objR a i Z6 rev) := objOk_fv k1 k6 k8 k10 k11 k13 k15 k16 hk _
    have gt : Zm Ya lim (a.take i) := ⟨by rw [List.length_take]; omega, rows_take g.2⟩
    have hx : ∀ {y0 : Int} {y1 : ByteArray} {y2 y3 y4 : Int} {y5 : Bool} {y6 : List (List D)} {y7 : Int} {y8 : ByteArray} {y9 : Int} {y10 y11 : List (List D)} {y12 : Int} {y13 : ByteArray} {y14 : Int} {y15 y16 : List (List D)} {β : Type} (K : Bool → Option β), slices_ContainsFunc_impl_Obj__impl_objsOk_1.f k (a.take i) y0 y1 y2 y3 y4 y5 y6 y7 y8 y9 y10 y11 y12 y13 y14 y15 y16 K = K (!(List.range i).all fun j => !(gI a (j : Int) 2 == y2)) := by
      intro y0 y1 y2 y3 y4 y5 y6 y7 y8 y9 y10 y11 y12 y13 y14 y15 y16 β K
      refine slices_ContainsFunc_impl_Obj__impl_objsOk_1.f_of ?_ K
      have hli : (a.take i).length = i := by rw [List.length_take]; omega
      have hf : ∀ {β : Type} (K : Int → Option β), slices_IndexFunc_impl_Obj__impl_objsOk_1.f k (a.take i) y0 y1 y2 y3 y4 y5 y6 y7 y8 y9 y10 y11 y12 y13 y14 y15 y16 K = K (ZbX (fun j => gI a (j : Int) 2 == y2) i) := fun K => slices_IndexFunc_impl_Obj__impl_objsOk_1.f_of (by
        unfold slices_IndexFunc_impl_Obj__impl_objsOk_1.t slices_IndexFunc_impl_Obj__impl_objsOk_1.g
        refine iter_findI (n := i) _ some (by unfold Zar at hk0; omega) (fun L j hj => ?_) (fun L => by simp [slices_IndexFunc_impl_Obj__impl_objsOk_1.l0, hli])
        have hs : ∀ {z0 : Int} {z1 : ByteArray} {z2 z3 z4 : Int} {z5 : Bool} {z6 : List (List D)} {z7 : Int} {z8 : ByteArray} {z9 : Int} {z10 z11 : List (List D)} {z12 : Int} {z13 : ByteArray} {z14 : Int} {z15 z16 : List (List D)} {β : Type} (K : Bool → Option β), impl_objsOk_1.f k z0 z1 z2 z3 z4 z5 z6 z7 z8 z9 z10 z11 z12 z13 z14 z15 z16 y0 y1 y2 y3 y4 y5 y6 y7 y8 y9 y10 y11 y12 y13 y14 y15 y16 K = K (z2 == y2) := fun K => impl_objsOk_1.f_of (by unfold impl_objsOk_1.t impl_objsOk_1.g; rfl) K
        have hg : gI (a.take i) (j : Int) 2 = gI a (j : Int) 2 := by unfold gI; rw [gR_take (by omega) (by omega)]
        simp (disch := omega) only [slices_IndexFunc_impl_Obj__impl_objsOk_1.l0, dec_true (show (j : Int) < (a.take i).length by omega), cond_true, Ya.row gt, uncons_at, dInt_self, dStr_at, dBool_at, dSl_at, atEnd_at, hs, hg, ZC]) K
      unfold slices_ContainsFunc_impl_Obj__impl_objsOk_1.t slices_ContainsFunc_impl_Obj__impl_objsOk_1.g
      rw [hf, findI_all]
    have hd : (a.drop (Int.toNat (0 : Int))).take (Int.toNat (i : Int) - Int.toNat (0 : Int)) = a.take i := by simp
    have hg : ∀ {F : Option Bool}, ZH (0 ≤ (0 : Int) ∧ (0 : Int) ≤ (i : Int) ∧ (i : Int) ≤ (a.length : Int) ∧ rowsOk 17 a) F = F := guard_at ⟨by omega, by omega, by omega, fun r hr => (g.2 r hr).len⟩
    unfold objsP
    simp (disch := omega) only [impl_objsOk.l0, dec_true (show (i : Int) < a.length by omega), cond_true, Ya.row g, uncons_at, dInt_self, dStr_at, dBool_at, dSl_at, atEnd_at, e3, hg, hd, hx]
    cases objR a (i : Int) Z6 rev
    · rfl
    by_cases h0 : (i : Int) > 0
    · simp (disch := omega) only [dec_true h0, cond_true, ZC, Ya.row g, uncons_at, dInt_self, dStr_at, dBool_at, dSl_at, atEnd_at, Bool.not_true, cond_false]
      obtain ⟨c, hc, hf⟩ := cmpObjs_fv (k := k) (x0 := gI a ((i : Int) - 1) 0) (x1 := gS a ((i : Int) - 1) 1) (x2 := gI a ((i : Int) - 1) 2) (x3 := gI a ((i : Int) - 1) 3) (x4 := gI a ((i : Int) - 1) 4) (x5 := gB a ((i : Int) - 1) 5) (x6 := gL a ((i : Int) - 1) 6) (x7 := gI a ((i : Int) - 1) 7) (x8 := gS a ((i : Int) - 1) 8) (x9 := gI a ((i : Int) - 1) 9) (x10 := gL a ((i : Int) - 1) 10) (x11 := gL a ((i : Int) - 1) 11) (x12 := gI a ((i : Int) - 1) 12) (x13 := gS a ((i : Int) - 1) 13) (x14 := gI a ((i : Int) - 1) 14) (x15 := gL a ((i : Int) - 1) 15) (x16 := gL a ((i : Int) - 1) 16) (y0 := gI a (i : Int) 0) (y1 := gS a (i : Int) 1) (y2 := gI a (i : Int) 2) (y3 := gI a (i : Int) 3) (y4 := gI a (i : Int) 4) (y5 := gB a (i : Int) 5) (y6 := gL a (i : Int) 6) (y7 := gI a (i : Int) 7) (y8 := gS a (i : Int) 8) (y9 := gI a (i : Int) 9) (y10 := gL a (i : Int) 10) (y11 := gL a (i : Int) 11) (y12 := gI a (i : Int) 12) (y13 := gS a (i : Int) 13) (y14 := gI a (i : Int) 14) (y15 := gL a (i : Int) 15) (y16 := gL a (i : Int) 16)
      rw [hf, hc]
      cases lessV (gI a ((i : Int) - 1) 0) (gS a ((i : Int) - 1) 1) (gI a (i : Int) 0) (gS a (i : Int) 1)
      · rfl
      · simp (disch := omega) only [Bool.not_true, cond_false, Bool.not_false, Bool.false_or, Bool.true_and, ZC]
        cases (List.range i).all _ <;> rfl
    · simp only [dec_false h0, cond_false, Bool.not_true, Bool.not_false, Bool.true_or, Bool.true_and]
      simp (disch := omega) only [ZC]
      cases (List.range i).all _ <;> rfl
  · intro L
    simp [impl_objsOk.l0]) K
theorem impl_MirrorOk.f_of {β : Type} {k : Nat} {a0_0 : Int} {a0_1 : List (List D)} {z0 : Bool} (h : impl_MirrorOk.t k a0_0 a0_1 = some z0) (K : Bool → Option β) : impl_MirrorOk.f k a0_0 a0_1 K = K z0 := by
  unfold impl_MirrorOk.f
  rw [h]
theorem impl_MirrorOk.tm {ι α : Type} {ok : ι → Prop} {ψ : α → Prop} {p : ι → Nat} {B : Nat} (hp : ∀ i, ok i → B ≤ p i) {a0_0 : Int} {a0_1 : List (List D)} {φ : Bool → Prop} (h : Tm (fun k => B ≤ k) (fun k => impl_MirrorOk.t k a0_0 a0_1) φ) {G : ι → Bool → Option α} (hG : ∀ z0, φ z0 → Tm ok (fun ι0 => G ι0 z0) ψ) : Tm ok (fun ι0 => impl_MirrorOk.f (p ι0) a0_0 a0_1 (G ι0)) ψ := by
  obtain ⟨z0, h1, h2⟩ := h
  exact (hG z0 h1).congr fun i0 hi0 => impl_MirrorOk.f_of (h2 (p i0) (hp i0 hi0)) _
theorem impl_MirrorOk.same {a0_0 : Int} {a0_1 : List (List D)} (g1 : Zm Ya lim a0_1) {k : Nat} (hk : Zay 1 k) : impl_MirrorOk.t k a0_0 a0_1 = spec_MirrorOk.t k a0_0 a0_1 := by
  unfold impl_MirrorOk.t spec_MirrorOk.t impl_MirrorOk.g spec_MirrorOk.g
  simp only [Yk, l1In_fv, objsOk_fv g1 hk, l7Objs_fv g1 hk]
  rfl
theorem laws_eqStringS.f_of {β : Type} {k : Nat} {a0 : List (List D)} {a1 : List (List D)} {z0 : Bool} (h : laws_eqStringS.t k a0 a1 = some z0) (K : Bool → Option β) : laws_eqStringS.f k a0 a1 K = K z0 := by
  unfold laws_eqStringS.f
  rw [h]
theorem laws_eqStringS.tm {ι α : Type} {ok : ι → Prop} {ψ : α → Prop} {p : ι → Nat} {B : Nat} (hp : ∀ i, ok i → B ≤ p i) {a0 : List (List D)} {a1 : List (List D)} {φ : Bool → Prop} (h : Tm (fun k => B ≤ k) (fun k => laws_eqStringS.t k a0 a1) φ) {G : ι → Bool → Option α} (hG : ∀ z0, φ z0 → Tm ok (fun ι0 => G ι0 z0) ψ) : Tm ok (fun ι0 => laws_eqStringS.f (p ι0) a0 a1 (G ι0)) ψ := by
  obtain ⟨z0, h1, h2⟩ := h
  exact (hG z0 h1).congr fun i0 hi0 => laws_eqStringS.f_of (h2 (p i0) (hp i0 hi0)) _
theorem laws_eqStringS.T {B : Nat} {a0 : List (List D)} (ga0 : Zm RS B a0) (hB : B ≤ 1099511627776) : Tm Zar (fun k => laws_eqStringS.t k a0 a0) (fun r => r = true) := by
  unfold laws_eqStringS.t laws_eqStringS.g
  have hm := Za
  have hlim : lim = 1048576 := rfl
  have hlen := ga0.1
  refine Tm.ite (fun h1 => ?_) (fun h1 => ?_)
  · try simp only [bz0, bz1, bz2, bz3, bz4, bz5, bz6, bz7, bz8, bz9, bza] at h1
    exact Tm.ret (by first | rfl | (exfalso; simp [Zi] at *))
  · try simp only [bz0, bz1, bz2, bz3, bz4, bz5, bz6, bz7, bz8, bz9, bza] at h1
    refine Tm.loop (okk := Zar) (p := fun k => k) (fun i hi => hi) (b := fun k => laws_eqStringS.l0 k a0 a0 (fun z0 => some z0)) (fun i => (((a0.length : Int)) - i).toNat) (fun i => 0 ≤ i ∧ i ≤ (a0.length : Int)) ?_ ?_ ?_
    · rintro i hI
      try simp only [] at hI ⊢
      have : big = 2 ^ 64 := rfl
      have := ga0.1
      omega
    · ((try simp only []); omega)
    · rintro i hI L hL
      try simp only [] at hI
      obtain ⟨i0, i1⟩ := hI
      simp only [laws_eqStringS.l0]
      refine Tm.ite (fun h2 => ?_) (fun h2 => ?_)
      · try simp only [bz0, bz1, bz2, bz3, bz4, bz5, bz6, bz7, bz8, bz9, bza] at h2
        refine Tm.atRow (by first | assumption | omega) (by first | assumption | omega) (fun x3 hx4 hm5 => ?_)
        obtain ⟨c6, rfl, g7, _⟩ := (ga0.2 x3 hm5).open
        refine Tm.uncons ?_
        refine Tm.dStr ?_
        refine Tm.atEnd ?_
        refine Tm.atRow (by first | assumption | omega) (by first | assumption | omega) (fun x8 hx9 hm10 => ?_)
        rw [hx4] at hx9
        injection hx9 with hx9
        subst hx9
        refine Tm.uncons ?_
        refine Tm.dStr ?_
        refine Tm.atEnd ?_
        refine Tm.ite (fun h12 => ?_) (fun h12 => ?_)
        · try simp only [bz0, bz1, bz2, bz3, bz4, bz5, bz6, bz7, bz8, bz9, bza] at h12
          exact Tm.ret (by first | rfl | (exfalso; simp [Zi] at *))
        · try simp only [bz0, bz1, bz2, bz3, bz4, bz5, bz6, bz7, bz8, bz9, bza] at h12
          try rw [ZC (x := i + 1) (by omega) (by omega)]
          exact hL _ (by (try simp only []); omega) (by (try simp only []); omega)
      · try simp only [bz0, bz1, bz2, bz3, bz4, bz5, bz6, bz7, bz8, bz9, bza] at h2
        exact Tm.ret (by first | rfl | (exfalso; simp [Zi] at *))
theorem laws_eqValueS.f_of {β : Type} {k : Nat} {a0 : List (List D)} {a1 : List (List D)} {z0 : Bool} (h : laws_eqValueS.t k a0 a1 = some z0) (K : Bool → Option β) : laws_eqValueS.f k a0 a1 K = K z0 := by
  unfold laws_eqValueS.f
  unfold laws_eqValueS.w
  rw [h]
theorem laws_eqValueS.tm {ι α : Type} {ok : ι → Prop} {ψ : α → Prop} {p : ι → Nat} {B : Nat} (hp : ∀ i, ok i → B ≤ p i) {a0 : List (List D)} {a1 : List (List D)} {φ : Bool → Prop} (h : Tm (fun k => B ≤ k) (fun k => laws_eqValueS.t k a0 a1) φ) {G : ι → Bool → Option α} (hG : ∀ z0, φ z0 → Tm ok (fun ι0 => G ι0 z0) ψ) : Tm ok (fun ι0 => laws_eqValueS.f (p ι0) a0 a1 (G ι0)) ψ := by
  obtain ⟨z0, h1, h2⟩ := h
  exact (hG z0 h1).congr fun i0 hi0 => laws_eqValueS.f_of (h2 (p i0) (hp i0 hi0)) _
theorem laws_eqValue.f_of {β : Type} {k : Nat} {a0_0 : Int} {a0_1 : ByteArray} {a0_2 : Int} {a0_3 : List (List D)} {a0_4 : List (List D)} {a1_0 : Int} {a1_1 : ByteArray} {a1_2 : Int} {a1_3 : List (List D)} {a1_4 : List (List D)} {z0 : Bool} (h : laws_eqValue.t k a0_0 a0_1 a0_2 a0_3 a0_4 a1_0 a1_1 a1_2 a1_3 a1_4 = some z0) (K : Bool → Option β) : laws_eqValue.f k a0_0 a0_1 a0_2 a0_3 a0_4 a1_0 a1_1 a1_2 a1_3 a1_4 K = K z0 := by
  unfold laws_eqValue.f
  unfold laws_eqValue.w
  rw [h]
theorem laws_eqValue.tm {ι α : Type} {ok : ι → Prop} {ψ : α → Prop} {p : ι → Nat} {B : Nat} (hp : ∀ i, ok i → B ≤ p i) {a0_0 : Int} {a0_1 : ByteArray} {a0_2 : Int} {a0_3 : List (List D)} {a0_4 : List (List D)} {a1_0 : Int} {a1_1 : ByteArray} {a1_2 : Int} {a1_3 : List (List D)} {a1_4 : List (List D)} {φ : Bool → Prop} (h : Tm (fun k => B ≤ k) (fun k => laws_eqValue.t k a0_0 a0_1 a0_2 a0_3 a0_4 a1_0 a1_1 a1_2 a1_3 a1_4) φ) {G : ι → Bool → Option α} (hG : ∀ z0, φ z0 → Tm ok (fun ι0 => G ι0 z0) ψ) : Tm ok (fun ι0 => laws_eqValue.f (p ι0) a0_0 a0_1 a0_2 a0_3 a0_4 a1_0 a1_1 a1_2 a1_3 a1_4 (G ι0)) ψ := by
  obtain ⟨z0, h1, h2⟩ := h
  exact (hG z0 h1).congr fun i0 hi0 => laws_eqValue.f_of (h2 (p i0) (hp i0 hi0)) _
theorem eqVal {B : Nat} (hB : B ≤ 1099511627776) (n : Nat) : (∀ (a : List (List D)), a.length ≤ B → (∀ x ∈ a, Yc B n x) → Tm (fun k => big + 2 * n + 1 ≤ k) (fun k => laws_eqValueS.t k a a) (fun r => r = true)) ∧
    (∀ (c0 : Int) (c1 : ByteArray) (c2 : Int) (c3 c4 : List (List D)), c1.size ≤ B → Zm RS B c3 → c4.length ≤ B → (∀ x ∈ c4, Yc B n x) → Tm (fun k => big + 2 * n + 2 ≤ k) (fun k => laws_eqValue.t k c0 c1 c2 c3 c4 c0 c1 c2 c3 c4) (fun r => r = true)) := by
  have hb : big = 2 ^ 64 := rfl
  induction n using Nat.strongRecOn with
  | ind n ih =>
  have S : ∀ (a : List (List D)), a.length ≤ B → (∀ x ∈ a, Yc B n x) → Tm (fun k => big + 2 * n + 1 ≤ k) (fun k => laws_eqValueS.t k a a) (fun r => r = true) := by
    intro a hlen g
    refine Tm.succ (g := fun k => laws_eqValueS.g k a a (fun z0 => some z0)) (fun k => laws_eqValueS.t_succ k a a) ?_
    unfold laws_eqValueS.g laws_eqValueS.body
    refine Tm.ite (fun h3 => by simp at h3) (fun h3 => ?_)
    refine Tm.loop (okk := fun k => big + 2 * n ≤ k) (p := fun k => k) (fun i hi => by omega) (b := fun k => laws_eqValueS.l0 k (laws_eqValueS.f k) (laws_eqValue.f k) a a (fun z0 => some z0)) (fun i => (((a.length : Int)) - i).toNat) (fun i => 0 ≤ i ∧ i ≤ (a.length : Int)) ?_ ?_ ?_
    · rintro i hI
      omega
    · omega
    · rintro i hI L hL
      obtain ⟨i0, i1⟩ := hI
      simp only [laws_eqValueS.l0]
      refine Tm.ite (fun h4 => ?_) (fun h4 => ?_)
      · simp only [decide_eq_true_eq] at h4
        refine Tm.atRow (by omega) (by omega) (fun x5 hx6 hm7 => ?_)
        obtain ⟨n', hn', c0, c1, c2, c3, c4, rfl, w0, g1, w2, g3, l4, g4⟩ : ∃ n', n = n' + 1 ∧ ∃ c0 c1 c2 c3 c4, x5 = [.int .i64 c0, .str c1, .int .i64 c2, .sl c3, .sl c4] ∧ (Lit.int .i64 c0).wf = true ∧ c1.size ≤ B ∧ (Lit.int .i64 c2).wf = true ∧ Zm RS B c3 ∧ c4.length ≤ B ∧ ∀ x ∈ c4, Yc B n' x := by
          have := g x5 hm7
          cases this with
          | mk c0 c1 c2 c3 c4 w0 g1 w2 g3 l4 g4 => exact ⟨_, rfl, _, _, _, _, _, rfl, w0, g1, w2, g3, l4, g4⟩
        refine Tm.uncons (Tm.dInt (Tm.uncons (Tm.dStr (Tm.uncons (Tm.dInt (Tm.uncons (Tm.dSl (Tm.uncons (Tm.dSl (Tm.atEnd ?_))))))))))
        refine Tm.atRow (by omega) (by omega) (fun x8 hx8 _ => ?_)
        rw [hx6] at hx8
        injection hx8 with hx8
        subst hx8
        refine Tm.uncons (Tm.dInt (Tm.uncons (Tm.dStr (Tm.uncons (Tm.dInt (Tm.uncons (Tm.dSl (Tm.uncons (Tm.dSl (Tm.atEnd ?_))))))))))
        refine laws_eqValue.tm (B := big + 2 * n' + 2) (fun i hi => by have := hi.1; omega) ((ih n' (by omega)).2 c0 c1 c2 c3 c4 g1 g3 l4 g4) (fun y hy => ?_)
        subst hy
        refine Tm.ite (fun h => by simp at h) (fun _ => ?_)
        rw [ZC (x := i + 1) (by omega) (by omega)]
        exact hL (i + 1) ⟨by omega, by omega⟩ (by omega)
      · exact Tm.ret rfl
  refine ⟨S, ?_⟩
  intro c0 c1 c2 c3 c4 g1 g3 l4 g4
  refine Tm.succ (g := fun k => laws_eqValue.g k c0 c1 c2 c3 c4 c0 c1 c2 c3 c4 (fun z0 => some z0)) (fun k => laws_eqValue.t_succ k c0 c1 c2 c3 c4 c0 c1 c2 c3 c4) ?_
  unfold laws_eqValue.g laws_eqValue.body
  refine Tm.ite (fun h => by simp at h) (fun _ => ?_)
  refine Tm.ite (fun h => by simp [Zi] at h) (fun _ => ?_)
  refine Tm.ite (fun h => by simp at h) (fun _ => ?_)
  refine laws_eqStringS.tm (B := big) (fun i hi => by omega) (laws_eqStringS.T g3 hB) (fun y hy => ?_)
  subst hy
  refine Tm.ite (fun h => by simp at h) (fun _ => ?_)
  refine laws_eqValueS.tm (B := big + 2 * n + 1) (fun i hi => hi) (S c4 l4 g4) (fun y' hy' => ?_)
  subst hy'
  exact Tm.ite (fun h => by simp at h) (fun _ => Tm.ret rfl)
theorem big_lv1e {n : Nat} (h : n ≤ 4398046511104) : big + n ≤ lv 1 := by
  have hb : big = 2 ^ 64 := rfl
  have : lv 1 = 2 ^ 65 := rfl
  omega
theorem laws_eqValueS.T {B : Nat} {a0 : List (List D)} (g : Zm Yb B a0) (hB : B ≤ 1099511627776) : Tm (Zay 1) (fun k => laws_eqValueS.t k a0 a0) (fun r => r = true) := by
  have g' : ∀ x ∈ a0, Yc B 1099511627776 x := fun x hx => by
    obtain ⟨h, hh, hx⟩ := g.2 x hx
    exact hx.mono (hh hB)
  exact ((eqVal hB 1099511627776).1 a0 g.1 g').up (big_lv1e (n := 2 * 1099511627776 + 1) (by omega))
theorem laws_eqValue.T {B : Nat} {a0_0 : Int} {a0_1 : ByteArray} {a0_2 : Int} {a0_3 a0_4 : List (List D)} (g1 : a0_1.size ≤ B) (g3 : Zm RS B a0_3) (g4 : Zm Yb B a0_4) (hB : B ≤ 1099511627776) : Tm (Zay 1) (fun k => laws_eqValue.t k a0_0 a0_1 a0_2 a0_3 a0_4 a0_0 a0_1 a0_2 a0_3 a0_4) (fun r => r = true) := by
  have g' : ∀ x ∈ a0_4, Yc B 1099511627776 x := fun x hx => by
    obtain ⟨h, hh, hx⟩ := g4.2 x hx
    exact hx.mono (hh hB)
  exact ((eqVal hB 1099511627776).2 a0_0 a0_1 a0_2 a0_3 a0_4 g1 g3 g4.1 g').up (big_lv1e (n := 2 * 1099511627776 + 2) (by omega))
theorem laws_eqObj.f_of {β : Type} {k : Nat} {a0_0 : Int} {a0_1 : ByteArray} {a0_2 : Int} {a0_3 : Int} {a0_4 : Int} {a0_5 : Bool} {a0_6 : List (List D)} {a0_7 : Int} {a0_8 : ByteArray} {a0_9 : Int} {a0_10 : List (List D)} {a0_11 : List (List D)} {a0_12 : Int} {a0_13 : ByteArray} {a0_14 : Int} {a0_15 : List (List D)} {a0_16 : List (List D)} {a1_0 : Int} {a1_1 : ByteArray} {a1_2 : Int} {a1_3 : Int} {a1_4 : Int} {a1_5 : Bool} {a1_6 : List (List D)} {a1_7 : Int} {a1_8 : ByteArray} {a1_9 : Int} {a1_10 : List (List D)} {a1_11 : List (List D)} {a1_12 : Int} {a1_13 : ByteArray} {a1_14 : Int} {a1_15 : List (List D)} {a1_16 : List (List D)} {z0 : Bool} (h : laws_eqObj.t k a0_0 a0_1 a0_2 a0_3 a0_4 a0_5 a0_6 a0_7 a0_8 a0_9 a0_10 a0_11 a0_12 a0_13 a0_14 a0_15 a0_16 a1_0 a1_1 a1_2 a1_3 a1_4 a1_5 a1_6 a1_7 a1_8 a1_9 a1_10 a1_11 a1_12 a1_13 a1_14 a1_15 a1_16 = some z0) (K : Bool → Option β) : laws_eqObj.f k a0_0 a0_1 a0_2 a0_3 a0_4 a0_5 a0_6 a0_7 a0_8 a0_9 a0_10 a0_11 a0_12 a0_13 a0_14 a0_15 a0_16 a1_0 a1_1 a1_2 a1_3 a1_4 a1_5 a1_6 a1_7 a1_8 a1_9 a1_10 a1_11 a1_12 a1_13 a1_14 a1_15 a1_16 K = K z0 := by
  unfold laws_eqObj.f
  rw [h]
theorem laws_eqObj.tm {ι α : Type} {ok : ι → Prop} {ψ : α → Prop} {p : ι → Nat} {B : Nat} (hp : ∀ i, ok i → B ≤ p i) {a0_0 : Int} {a0_1 : ByteArray} {a0_2 : Int} {a0_3 : Int} {a0_4 : Int} {a0_5 : Bool} {a0_6 : List (List D)} {a0_7 : Int} {a0_8 : ByteArray} {a0_9 : Int} {a0_10 : List (List D)} {a0_11 : List (List D)} {a0_12 : Int} {a0_13 : ByteArray} {a0_14 : Int} {a0_15 : List (List D)} {a0_16 : List (List D)} {a1_0 : Int} {a1_1 : ByteArray} {a1_2 : Int} {a1_3 : Int} {a1_4 : Int} {a1_5 : Bool} {a1_6 : List (List D)} {a1_7 : Int} {a1_8 : ByteArray} {a1_9 : Int} {a1_10 : List (List D)} {a1_11 : List (List D)} {a1_12 : Int} {a1_13 : ByteArray} {a1_14 : Int} {a1_15 : List (List D)} {a1_16 : List (List D)} {φ : Bool → Prop} (h : Tm (fun k => B ≤ k) (fun k => laws_eqObj.t k a0_0 a0_1 a0_2 a0_3 a0_4 a0_5 a0_6 a0_7 a0_8 a0_9 a0_10 a0_11 a0_12 a0_13 a0_14 a0_15 a0_16 a1_0 a1_1 a1_2 a1_3 a1_4 a1_5 a1_6 a1_7 a1_8 a1_9 a1_10 a1_11 a1_12 a1_13 a1_14 a1_15 a1_16) φ) {G : ι → Bool → Option α} (hG : ∀ z0, φ z0 → Tm ok (fun ι0 => G ι0 z0) ψ) : Tm ok (fun ι0 => laws_eqObj.f (p ι0) a0_0 a0_1 a0_2 a0_3 a0_4 a0_5 a0_6 a0_7 a0_8 a0_9 a0_10 a0_11 a0_12 a0_13 a0_14 a0_15 a0_16 a1_0 a1_1 a1_2 a1_3 a1_4 a1_5 a1_6 a1_7 a1_8 a1_9 a1_10 a1_11 a1_12 a1_13 a1_14 a1_15 a1_16 (G ι0)) ψ := by
  obtain ⟨z0, h1, h2⟩ := h
  exact (hG z0 h1).congr fun i0 hi0 => laws_eqObj.f_of (h2 (p i0) (hp i0 hi0)) _
theorem laws_eqObj.T {B : Nat} {a0_0 : Int} {a0_1 : ByteArray} {a0_2 : Int} {a0_3 : Int} {a0_4 : Int} {a0_5 : Bool} {a0_6 : List (List D)} {a0_7 : Int} {a0_8 : ByteArray} {a0_9 : Int} {a0_10 : List (List D)} {a0_11 : List (List D)} {a0_12 : Int} {a0_13 : ByteArray} {a0_14 : Int} {a0_15 : List (List D)} {a0_16 : List (List D)} (ga0_1 : a0_1.size ≤ B) (ga0_6 : Zm RS B a0_6) (ga0_8 : a0_8.size ≤ B) (ga0_10 : Zm RS B a0_10) (ga0_11 : Zm Yb B a0_11) (ga0_13 : a0_13.size ≤ B) (ga0_15 : Zm RS B a0_15) (ga0_16 : Zm Yb B a0_16) (hB : B ≤ 1099511627776) : Tm (Zay 1) (fun k => laws_eqObj.t k a0_0 a0_1 a0_2 a0_3 a0_4 a0_5 a0_6 a0_7 a0_8 a0_9 a0_10 a0_11 a0_12 a0_13 a0_14 a0_15 a0_16 a0_0 a0_1 a0_2 a0_3 a0_4 a0_5 a0_6 a0_7 a0_8 a0_9 a0_10 a0_11 a0_12 a0_13 a0_14 a0_15 a0_16) (fun r => r = true) := by
  unfold laws_eqObj.t laws_eqObj.g
  have hm := Za
  have hlim : lim = 1048576 := rfl
  refine Tm.ite (fun h1 => ?_) (fun h1 => ?_)
  · try simp only [bz0, bz1, bz2, bz3, bz4, bz5, bz6, bz7, bz8, bz9, bza] at h1
    exact Tm.ret (by first | rfl | (exfalso; simp [Zi] at *))
  · try simp only [bz0, bz1, bz2, bz3, bz4, bz5, bz6, bz7, bz8, bz9, bza] at h1
    refine Tm.ite (fun h2 => ?_) (fun h2 => ?_)
    · try simp only [bz0, bz1, bz2, bz3, bz4, bz5, bz6, bz7, bz8, bz9, bza] at h2
      exact Tm.ret (by first | rfl | (exfalso; simp [Zi] at *))
    · try simp only [bz0, bz1, bz2, bz3, bz4, bz5, bz6, bz7, bz8, bz9, bza] at h2
      refine Tm.ite (fun h3 => ?_) (fun h3 => ?_)
      · try simp only [bz0, bz1, bz2, bz3, bz4, bz5, bz6, bz7, bz8, bz9, bza] at h3
        exact Tm.ret (by first | rfl | (exfalso; simp [Zi] at *))
      · try simp only [bz0, bz1, bz2, bz3, bz4, bz5, bz6, bz7, bz8, bz9, bza] at h3
        refine Tm.ite (fun h4 => ?_) (fun h4 => ?_)
        · try simp only [bz0, bz1, bz2, bz3, bz4, bz5, bz6, bz7, bz8, bz9, bza] at h4
          exact Tm.ret (by first | rfl | (exfalso; simp [Zi] at *))
        · try simp only [bz0, bz1, bz2, bz3, bz4, bz5, bz6, bz7, bz8, bz9, bza] at h4
          refine Tm.ite (fun h5 => ?_) (fun h5 => ?_)
          · try simp only [bz0, bz1, bz2, bz3, bz4, bz5, bz6, bz7, bz8, bz9, bza] at h5
            exact Tm.ret (by first | rfl | (exfalso; simp [Zi] at *))
          · try simp only [bz0, bz1, bz2, bz3, bz4, bz5, bz6, bz7, bz8, bz9, bza] at h5
            refine Tm.ite (fun h6 => ?_) (fun h6 => ?_)
            · try simp only [bz0, bz1, bz2, bz3, bz4, bz5, bz6, bz7, bz8, bz9, bza] at h6
              exact Tm.ret (by first | rfl | (exfalso; simp [Zi] at *))
            · try simp only [bz0, bz1, bz2, bz3, bz4, bz5, bz6, bz7, bz8, bz9, bza] at h6
              refine laws_eqStringS.tm (fun i hi => up0 hi) (laws_eqStringS.T (by first | assumption | omega) (by first | assumption | omega)) (fun y8 hy7 => ?_)
              subst hy7
              refine Tm.ite (fun h9 => ?_) (fun h9 => ?_)
              · try simp only [bz0, bz1, bz2, bz3, bz4, bz5, bz6, bz7, bz8, bz9, bza] at h9
                exact Tm.ret (by first | rfl | (exfalso; simp [Zi] at *))
              · try simp only [bz0, bz1, bz2, bz3, bz4, bz5, bz6, bz7, bz8, bz9, bza] at h9
                refine laws_eqValue.tm (fun i hi => hi) (laws_eqValue.T (by first | assumption | omega) (by first | assumption | omega) (by first | assumption | omega) (by first | assumption | omega)) (fun y11 hy10 => ?_)
                subst hy10
                refine Tm.ite (fun h12 => ?_) (fun h12 => ?_)
                · try simp only [bz0, bz1, bz2, bz3, bz4, bz5, bz6, bz7, bz8, bz9, bza] at h12
                  exact Tm.ret (by first | rfl | (exfalso; simp [Zi] at *))
                · try simp only [bz0, bz1, bz2, bz3, bz4, bz5, bz6, bz7, bz8, bz9, bza] at h12
                  refine laws_eqValue.tm (fun i hi => hi) (laws_eqValue.T (by first | assumption | omega) (by first | assumption | omega) (by first | assumption | omega) (by first | assumption | omega)) (fun y14 hy13 => ?_)
                  subst hy13
                  refine Tm.ite (fun h15 => ?_) (fun h15 => ?_)
                  · try simp only [bz0, bz1, bz2, bz3, bz4, bz5, bz6, bz7, bz8, bz9, bza] at h15
                    exact Tm.ret (by first | rfl | (exfalso; simp [Zi] at *))
                  · try simp only [bz0, bz1, bz2, bz3, bz4, bz5, bz6, bz7, bz8, bz9, bza] at h15
                    exact Tm.ret (by first | rfl | (exfalso; simp [Zi] at *))
theorem laws_eqObjS.f_of {β : Type} {k : Nat} {a0 : List (List D)} {a1 : List (List D)} {z0 : Bool} (h : laws_eqObjS.t k a0 a1 = some z0) (K : Bool → Option β) : laws_eqObjS.f k a0 a1 K = K z0 := by
  unfold laws_eqObjS.f
  rw [h]
theorem laws_eqObjS.tm {ι α : Type} {ok : ι → Prop} {ψ : α → Prop} {p : ι → Nat} {B : Nat} (hp : ∀ i, ok i → B ≤ p i) {a0 : List (List D)} {a1 : List (List D)} {φ : Bool → Prop} (h : Tm (fun k => B ≤ k) (fun k => laws_eqObjS.t k a0 a1) φ) {G : ι → Bool → Option α} (hG : ∀ z0, φ z0 → Tm ok (fun ι0 => G ι0 z0) ψ) : Tm ok (fun ι0 => laws_eqObjS.f (p ι0) a0 a1 (G ι0)) ψ := by
  obtain ⟨z0, h1, h2⟩ := h
  exact (hG z0 h1).congr fun i0 hi0 => laws_eqObjS.f_of (h2 (p i0) (hp i0 hi0)) _
theorem laws_eqObjS.T {B : Nat} {a0 : List (List D)} (ga0 : Zm Ya B a0) (hB : B ≤ 1099511627776) : Tm (Zay 1) (fun k => laws_eqObjS.t k a0 a0) (fun r => r = true) := by
  unfold laws_eqObjS.t laws_eqObjS.g
  have hm := Za
  have hlim : lim = 1048576 := rfl
  have hlen := ga0.1
  refine Tm.ite (fun h1 => ?_) (fun h1 => ?_)
  · try simp only [bz0, bz1, bz2, bz3, bz4, bz5, bz6, bz7, bz8, bz9, bza] at h1
    exact Tm.ret (by first | rfl | (exfalso; simp [Zi] at *))
  · try simp only [bz0, bz1, bz2, bz3, bz4, bz5, bz6, bz7, bz8, bz9, bza] at h1
    refine Tm.loop (okk := (Zay 1)) (p := fun k => k) (fun i hi => up0 hi) (b := fun k => laws_eqObjS.l0 k a0 a0 (fun z0 => some z0)) (fun i => (((a0.length : Int)) - i).toNat) (fun i => 0 ≤ i ∧ i ≤ (a0.length : Int)) ?_ ?_ ?_
    · rintro i hI
      try simp only [] at hI ⊢
      have : big = 2 ^ 64 := rfl
      have := ga0.1
      omega
    · ((try simp only []); omega)
    · rintro i hI L hL
      try simp only [] at hI
      obtain ⟨i0, i1⟩ := hI
      simp only [laws_eqObjS.l0]
      refine Tm.ite (fun h2 => ?_) (fun h2 => ?_)
      · try simp only [bz0, bz1, bz2, bz3, bz4, bz5, bz6, bz7, bz8, bz9, bza] at h2
        refine Tm.atRow (by first | assumption | omega) (by first | assumption | omega) (fun x3 hx4 hm5 => ?_)
        obtain ⟨c6, c7, c8, c9, c10, c11, c12, c13, c14, c15, c16, c17, c18, c19, c20, c21, c22, rfl, g23, g24, g25, g26, g27, g28, g29, g30, g31, g32, g33, g34, g35, g36, g37, g38, _⟩ := (ga0.2 x3 hm5).open
        refine Tm.uncons ?_
        refine Tm.dInt ?_
        refine Tm.uncons ?_
        refine Tm.dStr ?_
        refine Tm.uncons ?_
        refine Tm.dInt ?_
        refine Tm.uncons ?_
        refine Tm.dInt ?_
        refine Tm.uncons ?_
        refine Tm.dInt ?_
        refine Tm.uncons ?_
        refine Tm.dBool ?_
        refine Tm.uncons ?_
        refine Tm.dSl ?_
        refine Tm.uncons ?_
        refine Tm.dInt ?_
        refine Tm.uncons ?_
        refine Tm.dStr ?_
        refine Tm.uncons ?_
        refine Tm.dInt ?_
        refine Tm.uncons ?_
        refine Tm.dSl ?_
        refine Tm.uncons ?_
        refine Tm.dSl ?_
        refine Tm.uncons ?_
        refine Tm.dInt ?_
        refine Tm.uncons ?_
        refine Tm.dStr ?_
        refine Tm.uncons ?_
        refine Tm.dInt ?_
        refine Tm.uncons ?_
        refine Tm.dSl ?_
        refine Tm.uncons ?_
        refine Tm.dSl ?_
        refine Tm.atEnd ?_
        refine Tm.atRow (by first | assumption | omega) (by first | assumption | omega) (fun x39 hx40 hm41 => ?_)
        rw [hx4] at hx40
        injection hx40 with hx40
        subst hx40
        refine Tm.uncons ?_
        refine Tm.dInt ?_
        refine Tm.uncons ?_
        refine Tm.dStr ?_
        refine Tm.uncons ?_
        refine Tm.dInt ?_
        refine Tm.uncons ?_
        refine Tm.dInt ?_
        refine Tm.uncons ?_
        refine Tm.dInt ?_
        refine Tm.uncons ?_
        refine Tm.dBool ?_
        refine Tm.uncons ?_
        refine Tm.dSl ?_
        refine Tm.uncons ?_
        refine Tm.dInt ?_
        refine Tm.uncons ?_
        refine Tm.dStr ?_
        refine Tm.uncons ?_
        refine Tm.dInt ?_
        refine Tm.uncons ?_
        refine Tm.dSl ?_
        refine Tm.uncons ?_
        refine Tm.dSl ?_
        refine Tm.uncons ?_
        refine Tm.dInt ?_
        refine Tm.uncons ?_
        refine Tm.dStr ?_
        refine Tm.uncons ?_
        refine Tm.dInt ?_
        refine Tm.uncons ?_
        refine Tm.dSl ?_
        refine Tm.uncons ?_
        refine Tm.dSl ?_
        refine Tm.atEnd ?_
        refine laws_eqObj.tm (fun i hi => hi.1) (laws_eqObj.T (by first | assumption | omega) (by first | assumption | omega) (by first | assumption | omega) (by first | assumption | omega) (by first | assumption | omega) (by first | assumption | omega) (by first | assumption | omega) (by first | assumption | omega) (by first | assumption | omega)) (fun y60 hy59 => ?_)
        subst hy59
        refine Tm.ite (fun h61 => ?_) (fun h61 => ?_)
        · try simp only [bz0, bz1, bz2, bz3, bz4, bz5, bz6, bz7, bz8, bz9, bza] at h61
          exact Tm.ret (by first | rfl | (exfalso; simp [Zi] at *))
        · try simp only [bz0, bz1, bz2, bz3, bz4, bz5, bz6, bz7, bz8, bz9, bza] at h61
          try rw [ZC (x := i + 1) (by omega) (by omega)]
          exact hL _ (by (try simp only []); omega) (by (try simp only []); omega)
      · try simp only [bz0, bz1, bz2, bz3, bz4, bz5, bz6, bz7, bz8, bz9, bza] at h2
        exact Tm.ret (by first | rfl | (exfalso; simp [Zi] at *))
theorem laws_eqMirror.f_of {β : Type} {k : Nat} {a0_0 : Int} {a0_1 : List (List D)} {a1_0 : Int} {a1_1 : List (List D)} {z0 : Bool} (h : laws_eqMirror.t k a0_0 a0_1 a1_0 a1_1 = some z0) (K : Bool → Option β) : laws_eqMirror.f k a0_0 a0_1 a1_0 a1_1 K = K z0 := by
  unfold laws_eqMirror.f
  rw [h]
theorem laws_eqMirror.tm {ι α : Type} {ok : ι → Prop} {ψ : α → Prop} {p : ι → Nat} {B : Nat} (hp : ∀ i, ok i → B ≤ p i) {a0_0 : Int} {a0_1 : List (List D)} {a1_0 : Int} {a1_1 : List (List D)} {φ : Bool → Prop} (h : Tm (fun k => B ≤ k) (fun k => laws_eqMirror.t k a0_0 a0_1 a1_0 a1_1) φ) {G : ι → Bool → Option α} (hG : ∀ z0, φ z0 → Tm ok (fun ι0 => G ι0 z0) ψ) : Tm ok (fun ι0 => laws_eqMirror.f (p ι0) a0_0 a0_1 a1_0 a1_1 (G ι0)) ψ := by
  obtain ⟨z0, h1, h2⟩ := h
  exact (hG z0 h1).congr fun i0 hi0 => laws_eqMirror.f_of (h2 (p i0) (hp i0 hi0)) _
theorem laws_eqMirror.T {B : Nat} {a0_0 : Int} {a0_1 : List (List D)} (ga0_1 : Zm Ya B a0_1) (hB : B ≤ 1099511627776) : Tm (Zay 1) (fun k => laws_eqMirror.t k a0_0 a0_1 a0_0 a0_1) (fun r => r = true) := by
  unfold laws_eqMirror.t laws_eqMirror.g
  have hm := Za
  have hlim : lim = 1048576 := rfl
  refine Tm.ite (fun h1 => ?_) (fun h1 => ?_)
  · try simp only [bz0, bz1, bz2, bz3, bz4, bz5, bz6, bz7, bz8, bz9, bza] at h1
    exact Tm.ret (by first | rfl | (exfalso; simp [Zi] at *))
  · try simp only [bz0, bz1, bz2, bz3, bz4, bz5, bz6, bz7, bz8, bz9, bza] at h1
    refine laws_eqObjS.tm (fun i hi => hi) (laws_eqObjS.T (by first | assumption | omega) (by first | assumption | omega)) (fun y3 hy2 => ?_)
    subst hy2
    refine Tm.ite (fun h4 => ?_) (fun h4 => ?_)
    · try simp only [bz0, bz1, bz2, bz3, bz4, bz5, bz6, bz7, bz8, bz9, bza] at h4
      exact Tm.ret (by first | rfl | (exfalso; simp [Zi] at *))
    · try simp only [bz0, bz1, bz2, bz3, bz4, bz5, bz6, bz7, bz8, bz9, bza] at h4
      exact Tm.ret (by first | rfl | (exfalso; simp [Zi] at *))
end Go.Proofs.Ytljkbknnnpjmgaa
